/- The tree of rulers: the plain law. -/
import Derived.Test.YtljmignfbagomaaRuleA
import Derived.Test.YtljmignfbagomaaCntM
namespace Go.Proofs.Ytljmignfbagomaa
open Go.RowKit

theorem Dom.trans {ls : List (List Int)} {a b c : Nat} (h1 : Dom ls a b) (h2 : Dom ls b c) : Dom ls a c := by
  refine ⟨h2.1, ?_⟩
  by_cases ha : a = 0
  · exact Or.inl ha
  refine Or.inr fun hc => ?_
  have n1 : ¬ Comes_ ls (a : Int) 0 b := h1.2.resolve_left ha
  have n2 : ¬ Comes_ ls (b : Int) 0 c := h2.2.resolve_left fun e => by subst e; exact ha (dom_zero_only h1)
  have := Comes_.closed (p := fun x => Comes_ ls (a : Int) 0 x ∧ Comes_ ls (b : Int) 0 x) ⟨Comes_.refl _ _ _, Comes_.refl _ _ _⟩ (fun x y hx he => by
    have hy := hx.1.step he
    obtain ⟨l, e1, e2, _⟩ := he
    refine ⟨hy, hx.2.step ⟨l, e1, e2, fun e => ?_⟩⟩
    have : y = b := by omega
    subst this
    exact n1 hy) c hc
  exact n2 this.2
theorem Dom.antisymm {ls : List (List Int)} {a b : Nat} (h1 : Dom ls a b) (h2 : Dom ls b a) : a = b := by
  by_cases hab : a = b
  · exact hab
  by_cases ha : a = 0
  · subst ha; exact (dom_zero_only h2).symm
  by_cases hb : b = 0
  · subst hb; exact dom_zero_only h1
  have n1 := h1.2.resolve_left ha
  have n2 := h2.2.resolve_left hb
  have := Comes_.closed (p := fun x => Comes_ ls (a : Int) 0 x ∧ Comes_ ls (b : Int) 0 x) ⟨Comes_.refl _ _ _, Comes_.refl _ _ _⟩ (fun x y hx he => by
    obtain ⟨l, e1, e2, _⟩ := he
    have hy : y ≠ a := fun e => by
      subst e
      exact n2 (hx.2.step ⟨l, e1, e2, by omega⟩)
    have hy2 : y ≠ b := fun e => by
      subst e
      exact n1 (hx.1.step ⟨l, e1, e2, by omega⟩)
    exact ⟨hx.1.step ⟨l, e1, e2, by omega⟩, hx.2.step ⟨l, e1, e2, by omega⟩⟩) b h1.1
  exact absurd this.1 n1
theorem Dom.chain {ls : List (List Int)} {a b c : Nat} (h1 : Dom ls a c) (h2 : Dom ls b c) : Dom ls a b ∨ Dom ls b a := by
  by_cases ha : a = 0
  · subst ha; exact Or.inl (Dom.zero h2.reached)
  by_cases hb : b = 0
  · subst hb; exact Or.inr (Dom.zero h1.reached)
  apply Classical.byContradiction
  intro hn
  rw [not_or] at hn
  have c1 : Comes_ ls (a : Int) 0 b := Classical.byContradiction fun h => hn.1 ⟨h2.reached, Or.inr h⟩
  have c2 : Comes_ ls (b : Int) 0 a := Classical.byContradiction fun h => hn.2 ⟨h1.reached, Or.inr h⟩
  have := Comes_.closed (p := fun x => Comes_ ls (a : Int) 0 x ∨ Comes_ ls (b : Int) 0 x) (Or.inl (Comes_.refl _ _ _)) (fun x y hx he => by
    obtain ⟨l, e1, e2, _⟩ := he
    by_cases ya : y = a
    · subst ya; exact Or.inr c2
    by_cases yb : y = b
    · subst yb; exact Or.inl c1
    rcases hx with hx | hx
    · exact Or.inl (hx.step ⟨l, e1, e2, by omega⟩)
    · exact Or.inr (hx.step ⟨l, e1, e2, by omega⟩)) c h1.1
  rcases this with h | h
  · exact h1.2.resolve_left ha h
  · exact h2.2.resolve_left hb h

section
variable {ls : List (List Int)}
theorem domS_sub (h1 : 1 ≤ ls.length) (h8 : ls.length ≤ 8) (hv : Valid ls) {a b : Nat} (h : Dom ls a b) : ∀ k, (domS ls a).testBit k = true → (domS ls b).testBit k = true := fun k hk => by
  rw [domS_bit h1 h8 hv] at hk ⊢
  exact hk.trans h
theorem domS_cnt (h1 : 1 ≤ ls.length) (h8 : ls.length ≤ 8) (hv : Valid ls) {a b : Nat} (h : Dom ls a b) (hne : a ≠ b) : cnt8 (domS ls a) < cnt8 (domS ls b) := by
  refine cnt8_mono_lt (domS_sub h1 h8 hv h) (fun e => ?_) (domS_lt _ _)
  have hb : (domS ls b).testBit b = true := (domS_bit h1 h8 hv b b).2 (Dom.refl h.1)
  rw [← e, domS_bit h1 h8 hv] at hb
  exact hne (h.antisymm hb)
theorem domS_none (h1 : 1 ≤ ls.length) (h8 : ls.length ≤ 8) (hv : Valid ls) {i : Nat} (h : ¬ Rch ls i) : domS ls i = 0 := set_ext fun k => by
  rw [Bool.eq_iff_iff, domS_bit h1 h8 hv, Nat.zero_testBit]
  exact ⟨fun hk => absurd hk.1 h, fun h => by cases h⟩
theorem domS_some (h1 : 1 ≤ ls.length) (h8 : ls.length ≤ 8) (hv : Valid ls) {i : Nat} (h : Rch ls i) : domS ls i ≠ 0 := fun e => by
  have := (domS_bit h1 h8 hv i i).2 (Dom.refl h)
  rw [e, Nat.zero_testBit] at this; cases this
theorem domS_zero' (h1 : 1 ≤ ls.length) (h8 : ls.length ≤ 8) (hv : Valid ls) : domS ls 0 = 2 ^ 0 := set_ext fun k => by
  rw [Bool.eq_iff_iff, domS_bit h1 h8 hv, testBit_pow, decide_eq_true_eq]
  constructor
  · exact fun h => (dom_zero_only h).symm
  · rintro rfl; exact Dom.zero (Comes_.refl _ _ _)
/-- The nearest ruler. -/
theorem dom_near (h1 : 1 ≤ ls.length) (h8 : ls.length ≤ 8) (hv : Valid ls) {i : Nat} (h : Rch ls i) (hi : i ≠ 0) :
    ∃ p, p ≠ i ∧ Dom ls p i ∧ domS ls i = 2 ^ i ||| domS ls p ∧ cnt8 (domS ls i) = cnt8 (domS ls p) + 1 ∧ ∀ j, j ≠ i → Dom ls j i → Dom ls j p := by
  have hmax : ∀ n, ∀ q, q ≠ i → Dom ls q i → 8 - cnt8 (domS ls q) ≤ n → ∃ p, p ≠ i ∧ Dom ls p i ∧ ∀ j, j ≠ i → Dom ls j i → cnt8 (domS ls j) ≤ cnt8 (domS ls p) := fun n => by
    induction n with
    | zero =>
      intro q hq hd hn
      exact ⟨q, hq, hd, fun j _ _ => by have := cnt8_le (domS ls j); omega⟩
    | succ n ih =>
      intro q hq hd hn
      by_cases hall : ∀ j, j ≠ i → Dom ls j i → cnt8 (domS ls j) ≤ cnt8 (domS ls q)
      · exact ⟨q, hq, hd, hall⟩
      · simp only [Classical.not_forall] at hall
        obtain ⟨j, hj, hdj, hc⟩ := hall
        exact ih j hj hdj (by omega)
  obtain ⟨p, hp, hd, hm⟩ := hmax 8 0 (Ne.symm hi) (Dom.zero h) (by omega)
  have hall : ∀ j, j ≠ i → Dom ls j i → Dom ls j p := fun j hj hdj => by
    rcases hdj.chain hd with h' | h'
    · exact h'
    · by_cases e : p = j
      · subst e; exact h'
      · have := domS_cnt h1 h8 hv h' e
        have := hm j hj hdj
        omega
  have hnb : (domS ls p).testBit i = false := by
    cases hb : (domS ls p).testBit i
    · rfl
    · rw [domS_bit h1 h8 hv] at hb
      exact absurd (hd.antisymm hb) hp
  have e : domS ls i = domS ls p ||| 2 ^ i := set_ext fun k => by
    rw [Bool.eq_iff_iff, set_bit, Bool.or_eq_true, domS_bit h1 h8 hv, domS_bit h1 h8 hv, decide_eq_true_eq]
    constructor
    · intro hk
      by_cases e : i = k
      · exact Or.inr e
      · exact Or.inl (hall k (Ne.symm e) hk)
    · rintro (hk | rfl)
      · exact hk.trans hd
      · exact Dom.refl h
  exact ⟨p, hp, hd, by rw [e, Nat.or_comm], by rw [e, cnt8_set (by have := h.lt h1 hv; omega) hnb], hall⟩
end

/-- The last of the first k nodes that is i's nearest ruler. -/
noncomputable def upTo (ls : List (List Int)) (i : Nat) : Nat → Int
  | 0 => -1
  | k + 1 => if k ≠ i ∧ (domS ls i).testBit k = true ∧ cnt8 (domS ls k) + 1 = cnt8 (domS ls i) then (k : Int) else upTo ls i k
noncomputable def upsTo (ls : List (List Int)) (n : Nat) : List Int := (List.range n).map fun i => upTo ls i ls.length
noncomputable abbrev upL (ls : List (List Int)) : List Int := upsTo ls ls.length
theorem upsTo_succ (ls : List (List Int)) (n : Nat) : upsTo ls (n + 1) = upsTo ls n ++ [upTo ls n ls.length] := by
  unfold upsTo
  rw [List.range_succ, List.map_append]; rfl
theorem upsTo_len (ls : List (List Int)) (n : Nat) : (upsTo ls n).length = n := by simp [upsTo]
theorem upsTo_get (ls : List (List Int)) (n k : Nat) (h : k < (upsTo ls n).length) : (upsTo ls n)[k] = upTo ls k ls.length := by simp [upsTo]
section
variable {ls : List (List Int)}
theorem upTo_yes {i k : Nat} (h1 : k ≠ i) (h2 : (domS ls i).testBit k = true) (h3 : cnt8 (domS ls k) + 1 = cnt8 (domS ls i)) : upTo ls i (k + 1) = k := by
  unfold upTo; rw [if_pos ⟨h1, h2, h3⟩]
theorem upTo_no {i k : Nat} (h : ¬ (k ≠ i ∧ (domS ls i).testBit k = true ∧ cnt8 (domS ls k) + 1 = cnt8 (domS ls i))) : upTo ls i (k + 1) = upTo ls i k := by
  conv => lhs; unfold upTo
  rw [if_neg h]
theorem upTo_none {i : Nat} (h : ∀ k, k ≠ i → (domS ls i).testBit k = false) (n : Nat) : upTo ls i n = -1 := by
  induction n with
  | zero => rfl
  | succ n ih => rw [upTo_no (fun hh => by rw [h n hh.1] at hh; cases hh.2.1), ih]
theorem up_zero (h1 : 1 ≤ ls.length) (h8 : ls.length ≤ 8) (hv : Valid ls) (n : Nat) : upTo ls 0 n = -1 := upTo_none (fun k hk => by
  rw [domS_zero' h1 h8 hv, testBit_pow]; exact decide_eq_false (Ne.symm hk)) n
theorem up_off (h1 : 1 ≤ ls.length) (h8 : ls.length ≤ 8) (hv : Valid ls) {i : Nat} (h : ¬ Rch ls i) (n : Nat) : upTo ls i n = -1 := upTo_none (fun k _ => by
  rw [domS_none h1 h8 hv h, Nat.zero_testBit]) n
theorem up_near (h1 : 1 ≤ ls.length) (h8 : ls.length ≤ 8) (hv : Valid ls) {i : Nat} (h : Rch ls i) (hi : i ≠ 0) :
    ∃ p : Nat, upTo ls i ls.length = p ∧ Rch ls p ∧ domS ls i = 2 ^ i ||| domS ls p ∧ cnt8 (domS ls i) = cnt8 (domS ls p) + 1 := by
  obtain ⟨p, hp, hd, he, hc, hall⟩ := dom_near h1 h8 hv h hi
  have key : ∀ n, upTo ls i n = if p < n then (p : Int) else -1 := fun n => by
    induction n with
    | zero => rfl
    | succ n ih =>
      by_cases e : n = p
      · subst e
        rw [upTo_yes hp ((domS_bit h1 h8 hv i n).2 hd) hc.symm, if_pos (by omega)]
      · rw [upTo_no (fun ⟨q1, q2, q3⟩ => by
          rw [domS_bit h1 h8 hv] at q2
          have := domS_cnt h1 h8 hv (hall n q1 q2) e
          omega), ih]
        by_cases hpn : p < n
        · rw [if_pos hpn, if_pos (by omega)]
        · rw [if_neg hpn, if_neg (by omega)]
  refine ⟨p, ?_, hd.reached, he, hc⟩
  rw [key, if_pos (hd.reached.lt h1 hv)]
theorem cnt8_full_ : ∀ n, n ≤ 8 → cnt8 (2 ^ n - 1) = n := by decide
theorem cnt8_below {s n : Nat} (h8 : n ≤ 8) (h : ∀ k, s.testBit k = true → k < n) : cnt8 s ≤ n := by
  have hp : 2 ^ n ≤ 2 ^ 8 := Nat.pow_le_pow_right (by decide) h8
  have hp1 : 1 ≤ 2 ^ n := Nat.one_le_two_pow
  have hf := cnt8_full_ n h8
  by_cases e : s = 2 ^ n - 1
  · rw [e, hf]; exact Nat.le_refl _
  · have := cnt8_mono_lt (s := s) (t := 2 ^ n - 1) (fun k hk => by rw [Nat.testBit_two_pow_sub_one]; exact decide_eq_true (h k hk)) e (by omega)
    omega

/-- The walk up the tree from i: st steps done, the nodes met so far in s, now at k. -/
def Up (ls : List (List Int)) (i st s : Nat) (k : Int) : Prop :=
  (k = -1 ∧ s = domS ls i ∧ st ≤ ls.length) ∨ ∃ n : Nat, k = n ∧ n < ls.length ∧ Rch ls n ∧ s ||| domS ls n = domS ls i ∧ 1 ≤ cnt8 (domS ls n) ∧ cnt8 (domS ls n) + st ≤ ls.length
theorem Up.first (h1 : 1 ≤ ls.length) (h8 : ls.length ≤ 8) (hv : Valid ls) {i : Nat} (h : Rch ls i) : Up ls i 0 0 i := by
  refine Or.inr ⟨i, rfl, h.lt h1 hv, h, Nat.zero_or _, ?_, ?_⟩
  · have := cnt8_mono_lt (s := 0) (t := domS ls i) (fun k hk => by rw [Nat.zero_testBit] at hk; cases hk) (Ne.symm (domS_some h1 h8 hv h)) (domS_lt _ _)
    omega
  · rw [Nat.add_zero]
    exact cnt8_below h8 fun k hk => ((domS_bit h1 h8 hv i k).1 hk).reached.lt h1 hv
theorem Up.step (h1 : 1 ≤ ls.length) (h8 : ls.length ≤ 8) (hv : Valid ls) {i st s n : Nat} (h : Up ls i st s n) : Up ls i (st + 1) (s ||| 2 ^ n) (upTo ls n ls.length) := by
  rcases h with ⟨h, _⟩ | ⟨n', e, hn, hr, hs, hc1, hc⟩
  · omega
  have : n' = n := by omega
  subst this
  by_cases h0 : n' = 0
  · subst h0
    refine Or.inl ⟨up_zero h1 h8 hv _, ?_, by omega⟩
    rw [← hs, domS_zero' h1 h8 hv]
  · obtain ⟨p, e1, e2, e3, e4⟩ := up_near h1 h8 hv hr h0
    refine Or.inr ⟨p, e1, e2.lt h1 hv, e2, ?_, ?_, by omega⟩
    · rw [Nat.or_assoc, ← e3, hs]
    · have := cnt8_mono_lt (s := 0) (t := domS ls p) (fun k hk => by rw [Nat.zero_testBit] at hk; cases hk) (Ne.symm (domS_some h1 h8 hv e2)) (domS_lt _ _)
      omega
theorem Up.bit {i st s : Nat} {k : Int} (h : Up ls i st s k) : s < 256 := by
  rcases h with ⟨_, rfl, _⟩ | ⟨n, _, _, _, hs, _⟩
  · exact domS_lt _ _
  · have := domS_lt ls i
    rw [← hs] at this
    exact Nat.lt_of_le_of_lt Nat.left_le_or this
end
end Go.Proofs.Ytljmignfbagomaa
