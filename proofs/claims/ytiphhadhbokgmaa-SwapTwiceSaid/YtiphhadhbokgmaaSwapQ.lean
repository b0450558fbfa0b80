/- swap.state.free: plain law. -/
import Derived.Test.YtiphhadhbokgmaaSwapB
namespace Go.Proofs.Ytiphhadhbokgmaa
open Go.RowKit

/-- Every register that is not in its place is asked for. -/
def PermF (F : List Nat) : Prop := ∀ i, NF F i → ∃ j, NF F j ∧ gN F j = i
structure FrI (F : List Nat) (n : Nat) (G : List Nat) (N : Nat → Int) (o : List Mv) (i : Nat) : Prop where
  ran : Ran G n
  cnt : ∀ r, NF G r → N r = ((cntG G r n : Nat) : Int)
  len : o.length + nf G ≤ nf F
  perm : PermF F → o = [] ∧ G = F
  past : ∀ r, r < i → NF G r → 0 < N r
  bd : ∀ r, r < n → -(8 * ((nf F : Int) - nf G)) ≤ N r ∧ N r ≤ 8
def redP (G : List Nat) (i f r : Nat) : Bool := decide (gN G r = f ∧ r ≠ f ∧ r ≠ i)
def redG (n : Nat) (G : List Nat) (i f j : Nat) : List Nat := mkG n fun r => if r = i then i else if r < j ∧ gN G r = f ∧ r ≠ f then i else gN G r
def redN (G : List Nat) (N : Nat → Int) (i f j : Nat) : Nat → Int := fun r => if r = f then N f - 1 - ((cntP (redP G i f) j : Nat) : Int) else N r
theorem FrI.start {F : List Nat} {n : Nat} (h : Ran F n) (hn : n ≤ 8) : FrI F n F (fun r => ((cntG F r n : Nat) : Int)) [] 0 :=
  ⟨h, fun _ _ => rfl, by simp, fun _ => ⟨rfl, rfl⟩, fun r hr => by omega, fun r _ => by
    have := cntP_le (asks F r) n
    show _ ≤ ((cntP (asks F r) n : Nat) : Int) ∧ ((cntP (asks F r) n : Nat) : Int) ≤ _
    omega⟩
section
variable {F : List Nat} {n : Nat} {G : List Nat} {N : Nat → Int} {o : List Mv} {i : Nat}
theorem FrI.skip (h : FrI F n G N o i) (hi : gN G i = i ∨ 0 < N i) : FrI F n G N o (i + 1) :=
  ⟨h.ran, h.cnt, h.len, h.perm, fun r hr hf => by
    by_cases e : r = i
    · subst e; exact hi.resolve_left hf
    · exact h.past r (by omega) hf, h.bd⟩
theorem FrI.done (h : FrI F n G N o n) : GoodG G n := good_of h.ran fun r hr => by
  have hlt := hr.lt
  rw [h.ran.1] at hlt
  have h1 := h.past r hlt hr
  rw [h.cnt r hr] at h1
  have h2 : 0 < cntG G r n := by omega
  obtain ⟨x, hx, hp⟩ := cntP_pos.1 h2
  unfold asks at hp
  rw [decide_eq_true_eq] at hp
  exact ⟨x, fun e => hp.2 (e.symm.trans hp.1), hp.1⟩
theorem red_at {f r : Nat} (hr : r < n) (j : Nat) : gN (redG n G i f j) r = if r = i then i else if r < j ∧ gN G r = f ∧ r ≠ f then i else gN G r := gN_mk hr
theorem FrI.take (h : FrI F n G N o i) (h8 : n ≤ 8) (hi : NF G i) (hN : N i ≤ 0) {f : Nat} (hf : gN G i = f) : FrI F n (redG n G i f n) (redN G N i f n) (o ++ [⟨(i : Int), (f : Int)⟩]) 0 := by
  have hin : i < n := by rw [← h.ran.1]; exact hi.lt
  have hfi : f ≠ i := fun e => hi (hf.trans e)
  have hfn : f < n := by rw [← hf]; exact h.ran.2 i hin
  have hnf : ∀ r, NF (redG n G i f n) r ↔ NF G r ∧ r ≠ i := fun r => by
    by_cases hr : r < n
    · unfold NF
      rw [red_at hr]
      by_cases e : r = i
      · rw [if_pos e]; simp [e]
      · rw [if_neg e]
        by_cases h2 : r < n ∧ gN G r = f ∧ r ≠ f
        · rw [if_pos h2]
          constructor
          · intro _; exact ⟨fun e2 => h2.2.2 (e2.symm.trans h2.2.1), e⟩
          · intro _ e2; exact e e2.symm
        · rw [if_neg h2]; simp [e]
    · constructor
      · intro h1; have := h1.lt; unfold redG at this; rw [mkG_len] at this; omega
      · intro h1; have := h1.1.lt; rw [h.ran.1] at this; omega
  have hc : nf (redG n G i f n) + 1 = nf G := by
    rw [← nf_set hi, nf_congr fun r => (hnf r).trans (nf_set_iff hi.lt).symm]
  have hred : cntP (redP G i f) n + 1 ≤ 8 := by
    have key : ∀ m, cntP (redP G i f) m + (if i < m then 1 else 0) ≤ m := fun m => by
      induction m with
      | zero => exact Nat.le_refl _
      | succ m ih =>
        rw [show cntP (redP G i f) (m + 1) = cntP (redP G i f) m + if redP G i f m then 1 else 0 from rfl]
        by_cases em : m = i
        · subst em
          rw [if_neg (by omega)] at ih
          rw [if_neg (by unfold redP; simp), if_pos (by omega)]
          omega
        · by_cases h2 : i < m
          · rw [if_pos h2] at ih
            rw [if_pos (show i < m + 1 by omega)]
            split <;> omega
          · rw [if_neg h2] at ih
            rw [if_neg (show ¬ i < m + 1 by omega)]
            split <;> omega
    have := key n
    rw [if_pos hin] at this
    omega
  refine ⟨⟨mkG_len _ _, fun r hr => ?_⟩, fun r hr => ?_, ?_, fun hp => ?_, fun r hr => by omega, fun r hr => ?_⟩
  · rw [red_at hr]
    split
    · exact hin
    · split
      · exact hin
      · exact h.ran.2 r hr
  · rw [hnf] at hr
    have hrn : r < n := by rw [← h.ran.1]; exact hr.1.lt
    by_cases e : r = f
    · subst e
      have e1 : redN G N i r n r = N r - 1 - ((cntP (redP G i r) n : Nat) : Int) := by unfold redN; rw [if_pos rfl]
      rw [e1, h.cnt r hr.1]
      have e2 : cntG G r n = cntP (redP G i r) n + 1 := by
        have key : ∀ m, m ≤ n → cntP (asks G r) m = cntP (redP G i r) m + if i < m then 1 else 0 := fun m => by
          induction m with
          | zero => intro _; rfl
          | succ m ih =>
            intro hm
            have ih := ih (by omega)
            rw [show cntP (asks G r) (m + 1) = cntP (asks G r) m + if asks G r m then 1 else 0 from rfl, show cntP (redP G i r) (m + 1) = cntP (redP G i r) m + if redP G i r m then 1 else 0 from rfl, ih]
            by_cases em : m = i
            · subst em
              have a1 : asks G r m = true := by unfold asks; simp; exact ⟨hf, fun h => hfi h.symm⟩
              have a2 : redP G m r m = false := by unfold redP; simp
              rw [a1, a2]
              simp
            · have : asks G r m = redP G i r m := by unfold asks redP; simp [em]
              rw [this]
              by_cases h2 : i < m
              · rw [if_pos h2, if_pos (show i < m + 1 by omega)]; omega
              · rw [if_neg h2, if_neg (show ¬ i < m + 1 by omega)]; omega
        have := key n (Nat.le_refl _)
        rw [if_pos hin] at this
        exact this
      have e3 : cntG (redG n G i r n) r n = 0 := cntP_zero fun x hx => by
        unfold asks
        rw [red_at hx]
        by_cases ex : x = i
        · rw [if_pos ex]; simp; intro h2; exact absurd h2.symm hfi
        · rw [if_neg ex]
          by_cases h2 : x < n ∧ gN G x = r ∧ x ≠ r
          · rw [if_pos h2]; simp; intro h3; exact absurd h3.symm hfi
          · rw [if_neg h2]; simp; intro h3; exact Classical.byContradiction fun h4 => h2 ⟨hx, h3, h4⟩
      rw [e2, e3]
      push_cast; omega
    · have e1 : redN G N i f n r = N r := by unfold redN; rw [if_neg e]
      rw [e1, h.cnt r hr.1]
      congr 1
      refine cntP_congr fun x hx => ?_
      unfold asks
      rw [red_at hx]
      by_cases ex : x = i
      · subst ex
        rw [if_pos rfl, hf]
        simp [Ne.symm e, Ne.symm hr.2]
      · rw [if_neg ex]
        by_cases h2 : x < n ∧ gN G x = f ∧ x ≠ f
        · rw [if_pos h2, h2.2.1]
          simp [Ne.symm e, Ne.symm hr.2]
        · rw [if_neg h2]
  · have := h.len
    rw [List.length_append]; simp; omega
  · exfalso
    obtain ⟨_, rfl⟩ := h.perm hp
    obtain ⟨j, hj, ej⟩ := hp i hi
    have hjn : j < n := by rw [← h.ran.1]; exact hj.lt
    have hpos : 0 < cntG G i n := cntP_pos.2 ⟨j, hjn, by unfold asks; simp; exact ⟨ej, fun e => hj (by rw [e]; rw [e] at ej; exact ej)⟩⟩
    have := h.cnt i hi
    omega
  · have hb := h.bd r hr
    unfold redN
    by_cases e : r = f
    · rw [if_pos e, ← e]
      constructor
      · rw [e] at hb ⊢; omega
      · omega
    · rw [if_neg e]; omega
end
theorem redG_zero {n : Nat} {G : List Nat} (hl : G.length = n) {i f : Nat} (hi : i < n) (r : Nat) (hr : r < n) : gN (G.set i i) r = gN (redG n G i f 0) r := by
  rw [gN_set (by omega), red_at hr]
  by_cases e : r = i
  · rw [if_pos e, if_pos e]
  · rw [if_neg e, if_neg e, if_neg (by omega)]
/-- Nothing to be done at j. -/
theorem red_skip {n : Nat} {G : List Nat} {N : Nat → Int} {i f j : Nat} (h : j = i ∨ gN G j = j ∨ gN G j ≠ f) : (∀ r, r < n → gN (redG n G i f j) r = gN (redG n G i f (j + 1)) r) ∧ ∀ r, redN G N i f j r = redN G N i f (j + 1) r := by
  have key : ∀ r, r < j + 1 → ¬ (r < j) → ¬ (gN G r = f ∧ r ≠ f ∧ r ≠ i) := fun r h1 h2 h3 => by
    have : r = j := by omega
    subst this
    rcases h with h | h | h
    · exact h3.2.2 h
    · exact h3.2.1 (h.symm.trans h3.1)
    · exact h h3.1
  refine ⟨fun r hr => ?_, fun r => ?_⟩
  · rw [red_at hr, red_at hr]
    by_cases e : r = i
    · rw [if_pos e, if_pos e]
    · rw [if_neg e, if_neg e]
      by_cases h1 : r < j
      · by_cases h2 : gN G r = f ∧ r ≠ f
        · rw [if_pos ⟨h1, h2⟩, if_pos ⟨by omega, h2⟩]
        · rw [if_neg (fun h => h2 h.2), if_neg (fun h => h2 h.2)]
      · rw [if_neg (fun h => h1 h.1)]
        by_cases h3 : r < j + 1
        · rw [if_neg (fun h4 => key r h3 h1 ⟨h4.2.1, h4.2.2, e⟩)]
        · rw [if_neg (fun h4 => h3 h4.1)]
  · unfold redN
    by_cases e : r = f
    · rw [if_pos e, if_pos e, show cntP (redP G i f) (j + 1) = cntP (redP G i f) j + if redP G i f j then 1 else 0 from rfl, if_neg (by
        unfold redP; rw [decide_eq_true_eq]; exact key j (by omega) (by omega)), Nat.add_zero]
    · rw [if_neg e, if_neg e]
theorem red_take {n : Nat} {G : List Nat} {N : Nat → Int} {i f j : Nat} (hj : j < n) (h1 : j ≠ i) (h2 : gN G j ≠ j) (h3 : gN G j = f) : (∀ r, r < n → gN ((redG n G i f j).set j i) r = gN (redG n G i f (j + 1)) r) ∧ ∀ r, (if r = f then redN G N i f j f - 1 else redN G N i f j r) = redN G N i f (j + 1) r := by
  have hjf : j ≠ f := fun e => h2 (h3.trans e.symm)
  refine ⟨fun r hr => ?_, fun r => ?_⟩
  · rw [gN_set (by unfold redG; rw [mkG_len]; exact hj), red_at hr, red_at hr]
    by_cases e : r = j
    · subst e
      rw [if_pos rfl, if_neg h1, if_pos ⟨by omega, h3, hjf⟩]
    · rw [if_neg e]
      by_cases ei : r = i
      · rw [if_pos ei, if_pos ei]
      · rw [if_neg ei, if_neg ei]
        by_cases h4 : r < j ∧ gN G r = f ∧ r ≠ f
        · rw [if_pos h4, if_pos ⟨by omega, h4.2⟩]
        · rw [if_neg h4, if_neg (fun h5 => h4 ⟨by omega, h5.2⟩)]
  · unfold redN
    by_cases e : r = f
    · rw [if_pos e, if_pos rfl, if_pos e, show cntP (redP G i f) (j + 1) = cntP (redP G i f) j + if redP G i f j then 1 else 0 from rfl, if_pos (by
        unfold redP; rw [decide_eq_true_eq]; exact ⟨h3, hjf, h1⟩)]
      push_cast; omega
    · rw [if_neg e, if_neg e, if_neg e]
end Go.Proofs.Ytiphhadhbokgmaa
