/- Rulers (dominators): the plain law of rule.Rules. -/
import Derived.Test.YtljmignfbagomaaSetN
namespace Go.Proofs.Ytljmignfbagomaa
open Go.RowKit

theorem edge_mono {ls : List (List Int)} {wo : Int} {a b : Nat} (h : Edge ls wo a b) : Edge ls (-1) a b := let ⟨l, h1, h2, _⟩ := h; ⟨l, h1, h2, by omega⟩
theorem comes_mono {ls : List (List Int)} {wo : Int} {a b : Nat} (h : Comes_ ls wo a b) : Comes_ ls (-1) a b :=
  Comes_.closed (p := fun x => Comes_ ls (-1) a x) (Comes_.refl _ _ _) (fun _ _ hb he => hb.step (edge_mono he)) b h
abbrev Rch (ls : List (List Int)) (b : Nat) : Prop := Comes_ ls (-1) 0 b
/-- a is on each path from 0 to b, to which one comes. -/
def Dom (ls : List (List Int)) (a b : Nat) : Prop := Rch ls b ∧ (a = 0 ∨ ¬ Comes_ ls (a : Int) 0 b)
theorem Dom.reached {ls : List (List Int)} {a b : Nat} (h : Dom ls a b) : Rch ls a := by
  rcases h.2 with rfl | hn
  · exact Comes_.refl _ _ _
  · by_cases ha : Rch ls a
    · exact ha
    · exact absurd (Comes_.closed (p := fun x => Comes_ ls (a : Int) 0 x ∧ Rch ls x) ⟨Comes_.refl _ _ _, Comes_.refl _ _ _⟩ (fun x y hx he => by
        have hy : Rch ls y := hx.2.step he
        obtain ⟨l, h1, h2, _⟩ := he
        refine ⟨hx.1.step ⟨l, h1, h2, fun e => ?_⟩, hy⟩
        have : y = a := by omega
        subst this
        exact ha hy) b h.1).1 hn
theorem Dom.refl {ls : List (List Int)} {a : Nat} (h : Rch ls a) : Dom ls a a := ⟨h, by
  by_cases h0 : a = 0
  · exact Or.inl h0
  · refine Or.inr fun hc => ?_
    have := Comes_.closed (p := fun x => x ≠ a) (fun e => h0 e.symm) (fun _ y _ he => by
      obtain ⟨_, _, _, hne⟩ := he
      omega) a hc
    exact this rfl⟩
theorem Dom.zero {ls : List (List Int)} {b : Nat} (h : Rch ls b) : Dom ls 0 b := ⟨h, Or.inl rfl⟩
theorem Dom.back {ls : List (List Int)} {a i j : Nat} (hi : Rch ls i) (he : Edge ls (-1) i j) (h : Dom ls a j) : a = j ∨ Dom ls a i := by
  by_cases e : a = j
  · exact Or.inl e
  · refine Or.inr ⟨hi, ?_⟩
    rcases h.2 with h0 | hn
    · exact Or.inl h0
    · refine Or.inr fun hc => hn (hc.step ?_)
      obtain ⟨l, h1, h2, _⟩ := he
      exact ⟨l, h1, h2, by omega⟩
theorem dom_zero_only {ls : List (List Int)} {a : Nat} (h : Dom ls a 0) : a = 0 := by
  rcases h.2 with h | h
  · exact h
  · exact absurd (Comes_.refl _ _ _) h
theorem Rch.lt {ls : List (List Int)} (h1 : 1 ≤ ls.length) (hv : Valid ls) {b : Nat} (h : Rch ls b) : b < ls.length := Comes_.lt hv h1 h

noncomputable def domS (ls : List (List Int)) (j : Nat) : Nat := setN fun a => a < ls.length ∧ Dom ls a j
theorem domS_bit {ls : List (List Int)} (h1 : 1 ≤ ls.length) (h8 : ls.length ≤ 8) (hv : Valid ls) (j a : Nat) : (domS ls j).testBit a = true ↔ Dom ls a j := by
  unfold domS
  rw [setN_bit]
  constructor
  · exact fun h => h.2.2
  · exact fun h => by have := h.reached.lt h1 hv; exact ⟨by omega, this, h⟩
theorem domS_lt (ls : List (List Int)) (j : Nat) : domS ls j < 256 := setN_lt _
noncomputable def rulesL (ls : List (List Int)) : List Nat := (List.range ls.length).map (domS ls)
theorem rulesL_len (ls : List (List Int)) : (rulesL ls).length = ls.length := by simp [rulesL]
theorem rulesL_get (ls : List (List Int)) (i : Nat) (h : i < (rulesL ls).length) : (rulesL ls)[i] = domS ls i := by simp [rulesL]

/-- What the loops keep of the rows r. -/
structure Ru (ls : List (List Int)) (r : List Nat) : Prop where
  len : r.length = ls.length
  sub : ∀ j (h : j < r.length) a, r[j].testBit a = true → if j = 0 then a = 0 else Rch ls j ∧ Rch ls a
  sup : ∀ j (h : j < r.length) a, Dom ls a j → r[j].testBit a = true
def Fixd (r : List Nat) (i j : Nat) : Prop := ∀ (hi : i < r.length) (hj : j < r.length) a, r[j].testBit a = true → a = j ∨ r[i].testBit a = true
theorem Ru.lt {ls : List (List Int)} {r : List Nat} (h : Ru ls r) (h1 : 1 ≤ ls.length) (h8 : ls.length ≤ 8) (hv : Valid ls) (j : Nat) (hj : j < r.length) : r[j] < 256 :=
  lt_pow_of_bits (n := 8) fun k hk => by
    have := h.sub j hj k hk
    split at this
    · omega
    · have := this.2.lt h1 hv; omega
theorem Ru.done {ls : List (List Int)} {r : List Nat} (h : Ru ls r) (h1 : 1 ≤ ls.length) (h8 : ls.length ≤ 8) (hv : Valid ls) (hf : ∀ i j, Rch ls i → Edge ls (-1) i j → Fixd r i j) : r = rulesL ls := by
  refine List.ext_getElem (by rw [h.len, rulesL_len]) fun j hj hj' => ?_
  rw [rulesL_get]
  refine set_ext fun a => ?_
  rw [Bool.eq_iff_iff, domS_bit h1 h8 hv]
  refine ⟨fun hb => ?_, h.sup j hj a⟩
  have hs := h.sub j hj a hb
  by_cases h0 : j = 0
  · subst h0
    rw [if_pos rfl] at hs
    subst hs
    exact Dom.zero (Comes_.refl _ _ _)
  · rw [if_neg h0] at hs
    refine ⟨hs.1, ?_⟩
    by_cases ha : a = 0
    · exact Or.inl ha
    · refine Or.inr fun hc => ?_
      have := Comes_.closed (p := fun x => Rch ls x ∧ ∀ hx : x < r.length, ¬ r[x].testBit a = true) ⟨Comes_.refl _ _ _, fun hx hb => by
          have := h.sub 0 hx a hb
          rw [if_pos rfl] at this
          exact ha this⟩ (fun x y hx he => by
          have hem := edge_mono he
          refine ⟨hx.1.step hem, fun hy hb => ?_⟩
          have hxl : x < r.length := by rw [h.len]; exact (hem.lt hv).1
          rcases hf x y hx.1 hem hxl hy a hb with e | hb'
          · obtain ⟨_, _, _, hne⟩ := he
            omega
          · exact hx.2 hxl hb') j hc
      exact this.2 hj hb
theorem Ru.first {ls : List (List Int)} (h1 : 1 ≤ ls.length) (h8 : ls.length ≤ 8) (hv : Valid ls) (r : List Nat) (hl : r.length = ls.length) (h0 : ∀ h : 0 < r.length, r[0] = 1)
    (hr : ∀ j (h : j < r.length), 0 < j → r[j] = if (fromS ls (-1) 0).testBit j then fromS ls (-1) 0 else 0) : Ru ls r := by
  have hF : ∀ b, (fromS ls (-1) 0).testBit b = true ↔ Rch ls b := fun b => by
    rw [fromS_bit h8 hv h1]
    exact ⟨fun h => h.2, fun h => ⟨by omega, h⟩⟩
  refine ⟨hl, fun j hj a hb => ?_, fun j hj a hd => ?_⟩
  · split
    · rename_i e
      subst e
      rw [h0 hj, show (1 : Nat) = 2 ^ 0 from rfl, testBit_pow] at hb
      exact (of_decide_eq_true hb).symm
    · rename_i e
      rw [hr j hj (by omega)] at hb
      split at hb
      · rename_i hj
        exact ⟨(hF j).1 hj, (hF a).1 hb⟩
      · rw [Nat.zero_testBit] at hb; cases hb
  · by_cases e : j = 0
    · subst e
      have := dom_zero_only hd
      subst this
      rw [h0 hj]; rfl
    · rw [hr j hj (by omega), if_pos ((hF j).2 hd.1)]
      exact (hF a).2 hd.reached
def wtR (r : List Nat) : Nat := (r.map cnt8).sum
theorem cnt8_mono_lt {s t : Nat} (h : ∀ k, s.testBit k = true → t.testBit k = true) (hne : s ≠ t) (ht : t < 256) : cnt8 s < cnt8 t := by
  have key : ∀ l : List Nat, (l.filter fun k => s.testBit k).length ≤ (l.filter fun k => t.testBit k).length ∧ ((∃ k ∈ l, s.testBit k = false ∧ t.testBit k = true) → (l.filter fun k => s.testBit k).length < (l.filter fun k => t.testBit k).length) := fun l => by
    induction l with
    | nil => exact ⟨Nat.le_refl _, by rintro ⟨k, hk, _⟩; cases hk⟩
    | cons a l ih =>
      rw [List.filter_cons, List.filter_cons]
      cases hs : s.testBit a
      · cases ht : t.testBit a
        · simp only [Bool.false_eq_true, if_false]
          refine ⟨ih.1, ?_⟩
          rintro ⟨k, hk, h1, h2⟩
          rcases List.mem_cons.1 hk with rfl | hk
          · rw [ht] at h2; cases h2
          · exact ih.2 ⟨k, hk, h1, h2⟩
        · simp only [Bool.false_eq_true, if_false, if_true, List.length_cons]
          exact ⟨by omega, fun _ => by omega⟩
      · rw [h a hs]
        simp only [if_true, List.length_cons]
        refine ⟨by omega, ?_⟩
        rintro ⟨k, hk, h1, h2⟩
        rcases List.mem_cons.1 hk with rfl | hk
        · rw [hs] at h1; cases h1
        · have := ih.2 ⟨k, hk, h1, h2⟩; omega
  refine (key (List.range 8)).2 ?_
  apply Classical.byContradiction
  intro hn
  refine hne (set_ext fun k => ?_)
  cases hs : s.testBit k
  · cases htk : t.testBit k
    · rfl
    · exact absurd ⟨k, by have := bit_lt (n := 8) ht htk; simpa using this, hs, htk⟩ hn
  · rw [h k hs]
theorem wtR_set {r : List Nat} {j : Nat} (hj : j < r.length) (s : Nat) (h : cnt8 s < cnt8 r[j]) : wtR (r.set j s) < wtR r := by
  induction r generalizing j with
  | nil => simp at hj
  | cons a r ih =>
    cases j with
    | zero => simp [wtR] at h ⊢; exact h
    | succ j =>
      simp only [List.length_cons] at hj
      have := ih (j := j) (by omega) (by simpa using h)
      simp only [wtR, List.set_cons_succ, List.map_cons, List.sum_cons] at this ⊢
      omega
/-- One step at the edge from i to j. -/
theorem Ru.step {ls : List (List Int)} {r : List Nat} (h : Ru ls r) (h1 : 1 ≤ ls.length) (h8 : ls.length ≤ 8) (hv : Valid ls) {i j : Nat} (hi : i < r.length) (hj : j < r.length) (hr : Rch ls i) (he : Edge ls (-1) i j)
    (hne : r[j] &&& (r[i] ||| 2 ^ j) ≠ r[j]) : Ru ls (r.set j (r[j] &&& (r[i] ||| 2 ^ j))) ∧ wtR (r.set j (r[j] &&& (r[i] ||| 2 ^ j))) < wtR r := by
  have hsub : ∀ k, (r[j] &&& (r[i] ||| 2 ^ j)).testBit k = true → r[j].testBit k = true := fun k hk => by
    rw [Nat.testBit_and, Bool.and_eq_true] at hk; exact hk.1
  refine ⟨⟨by rw [List.length_set]; exact h.len, fun k hk a hb => ?_, fun k hk a hd => ?_⟩, wtR_set hj _ (cnt8_mono_lt hsub hne (h.lt h1 h8 hv j hj))⟩
  · rw [List.length_set] at hk
    rw [List.getElem_set] at hb
    by_cases e : j = k
    · subst e
      rw [if_pos rfl] at hb
      exact h.sub j hk a (hsub a hb)
    · rw [if_neg e] at hb
      exact h.sub k hk a hb
  · rw [List.length_set] at hk
    rw [List.getElem_set]
    by_cases e : j = k
    · subst e
      rw [if_pos rfl, Nat.testBit_and, Bool.and_eq_true]
      refine ⟨h.sup j hk a hd, ?_⟩
      rw [set_bit, Bool.or_eq_true]
      rcases hd.back hr he with rfl | hd'
      · exact Or.inr (decide_eq_true rfl)
      · exact Or.inl (h.sup i hi a hd')
    · rw [if_neg e]
      exact h.sup k hk a hd
theorem fixd_of {r : List Nat} {i j : Nat} (hi : i < r.length) (hj : j < r.length) (h : r[j] &&& (r[i] ||| 2 ^ j) = r[j]) : Fixd r i j := fun _ _ a hb => by
  rw [← h, Nat.testBit_and, Bool.and_eq_true, set_bit, Bool.or_eq_true, decide_eq_true_eq] at hb
  rcases hb.2 with h1 | h1
  · exact Or.inr h1
  · exact Or.inl h1.symm
end Go.Proofs.Ytljmignfbagomaa
