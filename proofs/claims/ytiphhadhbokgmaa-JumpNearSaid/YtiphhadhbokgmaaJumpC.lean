/- The plain law of jump.Lay: what its loop keeps, and what that comes to. -/
import Derived.Test.YtiphhadhbokgmaaJumpB
namespace Go.Proofs.Ytiphhadhbokgmaa
open Go.RowKit

def far (s : List Int) (i : Nat) (p : Piece) : Int := psum s p.to.toNat - psum s (i + 1)
def le_ (s t : List Int) : Prop := s.length = t.length ∧ ∀ i (h : i < s.length) (h' : i < t.length), s[i] ≤ t[i]
/-- i had 2 once, and was too far then. -/
def WasFar (l : List Piece) (s : List Int) (i : Nat) : Prop :=
  ∃ (s0 : List Int) (hi : i < s0.length) (hl : i < l.length), le_ s0 s ∧ small s0 ∧ s0[i] = 2 ∧ (50 < far s0 i l[i] ∨ far s0 i l[i] < -50)
structure Inv (l : List Piece) (s : List Int) : Prop where
  len : s.length = l.length
  plain : ∀ i (h : i < l.length) (h' : i < s.length), l[i].jump = false → s[i] = l[i].bytes
  jump : ∀ i (h : i < l.length) (h' : i < s.length), l[i].jump = true → s[i] = 2 ∨ (s[i] = 4 ∧ WasFar l s i)
/-- Every jump below k is long, or near enough. -/
def Near (l : List Piece) (s : List Int) (k : Nat) : Prop :=
  ∀ i (h : i < l.length) (h' : i < s.length), i < k → l[i].jump = true → s[i] = 4 ∨ (far s i l[i] ≤ 50 ∧ -50 ≤ far s i l[i])
/-- How many jumps are short. -/
def pot : List Piece → List Int → Nat
  | p :: l, x :: s => (if p.jump = true ∧ x = 2 then 1 else 0) + pot l s
  | _, _ => 0

def first0 (l : List Piece) : List Int := l.map fun p => if p.jump then 2 else p.bytes
theorem pErr_ok {l : List Piece} (h : pErr l = 0) : l.length ≤ 10 ∧ ∀ p ∈ l, (p.jump = false → 0 ≤ p.bytes ∧ p.bytes ≤ 200) ∧ (p.jump = true → 0 ≤ p.to ∧ p.to ≤ l.length) := by
  unfold pErr at h
  by_cases h10 : 10 < l.length
  · rw [if_pos h10] at h; exact absurd h (by decide)
  rw [if_neg h10] at h
  refine ⟨by omega, ?_⟩
  generalize l.length = n at *
  clear h10
  induction l with
  | nil => simp
  | cons p r ih =>
    rw [show pErrs n (p :: r) = if pErr1 n p = 0 then pErrs n r else pErr1 n p from rfl] at h
    by_cases h1 : pErr1 n p = 0
    · rw [if_pos h1] at h
      intro q hq
      rcases List.mem_cons.1 hq with rfl | hq
      · unfold pErr1 at h1
        constructor
        · intro hj
          by_cases hb : q.bytes < 0 ∨ 200 < q.bytes
          · rw [if_pos ⟨hj, hb⟩] at h1; exact absurd h1 (by decide)
          · omega
        · intro hj
          rw [if_neg (by simp [hj])] at h1
          by_cases hb : q.to < 0 ∨ n < q.to
          · rw [if_pos ⟨hj, hb⟩] at h1; exact absurd h1 (by decide)
          · omega
      · exact ih h q hq
    · rw [if_neg h1] at h; exact absurd h h1
theorem small_of_inv {l : List Piece} {s : List Int} (h : pErr l = 0) (hI : Inv l s) : small s := by
  intro x hx
  obtain ⟨i, hi, rfl⟩ := List.getElem_of_mem hx
  have hl : i < l.length := by rw [← hI.len]; exact hi
  have h1 := (pErr_ok h).2 _ (List.getElem_mem hl)
  cases hj : l[i].jump with
  | false => rw [hI.plain i hl hi hj]; exact h1.1 hj
  | true => rcases hI.jump i hl hi hj with e | ⟨e, _⟩ <;> rw [e] <;> decide
theorem inv_first (l : List Piece) : Inv l (first0 l) := by
  refine ⟨by simp [first0], fun i h h' hj => by simp [first0, hj], fun i h h' hj => .inl (by simp [first0, hj])⟩
theorem le_refl_ (s : List Int) : le_ s s := ⟨rfl, fun _ _ _ => Int.le_refl _⟩
theorem le_trans_ {s t u : List Int} (h : le_ s t) (k : le_ t u) : le_ s u :=
  ⟨h.1.trans k.1, fun i h1 h2 => Int.le_trans (h.2 i h1 (by rw [← h.1]; exact h1)) (k.2 i (by rw [← h.1]; exact h1) h2)⟩
theorem le_set {s : List Int} {k : Nat} (hk : k < s.length) (h2 : s[k] ≤ 4) : le_ s (s.set k 4) := by
  refine ⟨by simp, fun i h h' => ?_⟩
  rw [List.getElem_set]
  split
  · subst_vars; exact h2
  · exact Int.le_refl _
/-- A short jump that is too far becomes long. -/
theorem inv_set {l : List Piece} {s0 s : List Int} {k : Nat} (hI : Inv l s) (hs0 : small s0) (hk : k < l.length) (hk' : k < s.length) (hk0 : k < s0.length) (hj : l[k].jump = true) (h2 : s[k] = 2) (h02 : s0[k] = 2) (hle : le_ s0 s)
    (hf : 50 < far s0 k l[k] ∨ far s0 k l[k] < -50) : Inv l (s.set k 4) ∧ le_ s (s.set k 4) := by
  have hle2 : le_ s (s.set k 4) := le_set hk' (by omega)
  refine ⟨⟨by simpa using hI.len, fun i h h' hp => ?_, fun i h h' hp => ?_⟩, hle2⟩
  · rw [List.getElem_set]
    split
    · rename_i e; subst e; rw [hj] at hp; cases hp
    · exact hI.plain i h (by simpa using h') hp
  · rw [List.getElem_set]
    split
    · rename_i e; subst e
      exact .inr ⟨rfl, s0, hk0, hk, le_trans_ hle hle2, hs0, h02, hf⟩
    · rcases hI.jump i h (by simpa using h') hp with e | ⟨e, t, a, b, c, d⟩
      · exact .inl e
      · exact .inr ⟨e, t, a, b, le_trans_ c hle2, d⟩
theorem pot_set : ∀ {l : List Piece} {s : List Int} {k : Nat} (hk : k < l.length) (hk' : k < s.length), l[k].jump = true → s[k] = 2 → pot l (s.set k 4) < pot l s
  | p :: l, x :: s, 0, _, _, hj, h2 => by
    simp only [List.getElem_cons_zero] at hj h2
    simp [pot, hj, h2]
  | p :: l, x :: s, k + 1, hk, hk', hj, h2 => by
    simp only [List.getElem_cons_succ] at hj h2
    have := pot_set (l := l) (s := s) (k := k) (by simpa using hk) (by simpa using hk') hj h2
    simp only [List.set_cons_succ, pot]
    omega
/-- Sums of pieces. -/
theorem psum_le {s t : List Int} (h : le_ s t) : ∀ i j, i ≤ j → psum s j - psum s i ≤ psum t j - psum t i := by
  intro i j hij
  induction j with
  | zero => have : i = 0 := by omega
            subst this; omega
  | succ j ih =>
    by_cases he : i = j + 1
    · subst he; omega
    · have h1 := ih (by omega)
      by_cases hj : j < s.length
      · have hj' : j < t.length := by rw [← h.1]; exact hj
        have h2 := psum_succ hj
        have h3 := psum_succ hj'
        have h4 := h.2 j hj hj'
        omega
      · have e1 : psum s (j + 1) = psum s j := by unfold psum; rw [List.take_of_length_le (by omega), List.take_of_length_le (by omega)]
        have hl := h.1
        have e2 : psum t (j + 1) = psum t j := by unfold psum; rw [List.take_of_length_le (by omega), List.take_of_length_le (by omega)]
        omega
theorem psum_mono {s : List Int} (h : small s) : ∀ i j, i ≤ j → psum s i ≤ psum s j := by
  intro i j hij
  induction j with
  | zero => have : i = 0 := by omega
            subst this; omega
  | succ j ih =>
    by_cases he : i = j + 1
    · subst he; omega
    · have h1 := ih (by omega)
      by_cases hj : j < s.length
      · have h2 := psum_succ hj
        have := h _ (List.getElem_mem hj)
        omega
      · have e1 : psum s (j + 1) = psum s j := by unfold psum; rw [List.take_of_length_le (by omega), List.take_of_length_le (by omega)]
        omega
/-- A long jump would not do as a short one. -/
theorem far_stays {l : List Piece} {s : List Int} {i : Nat} (hs : small s) (hi : i < l.length) (his : i < s.length) (h4 : s[i] = 4) (h : WasFar l s i) :
    (far s i l[i] < 0 → far s i l[i] + 2 < -50) ∧ (0 ≤ far s i l[i] → 50 < far s i l[i]) := by
  obtain ⟨s0, h0, _, hle, hs0, h02, hf⟩ := h
  unfold far at *
  have a1 := psum_succ his
  have a2 := psum_succ h0
  rcases Nat.lt_or_ge i l[i].to.toNat with hlt | hge
  · have b1 := psum_le hle (i + 1) l[i].to.toNat hlt
    have b2 := psum_mono hs0 (i + 1) l[i].to.toNat hlt
    omega
  · have b1 := psum_le hle l[i].to.toNat i hge
    have b2 := psum_mono hs l[i].to.toNat i hge
    have b3 := psum_mono hs0 l[i].to.toNat i hge
    omega
end Go.Proofs.Ytiphhadhbokgmaa
