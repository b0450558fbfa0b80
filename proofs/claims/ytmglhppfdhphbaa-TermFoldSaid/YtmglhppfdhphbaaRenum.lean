/- Renumbering by a law: the numbers below n of which p holds, and how many are below i. Program-independent. -/
import Derived.Test.YtmglhppfdhphbaaLib
namespace Go.Proofs.Ytmglhppfdhphbaa

open Classical in
noncomputable def ndP (p : Nat → Prop) (n : Nat) : List Nat := (List.range n).filter fun i => decide (p i)
noncomputable def nuP (p : Nat → Prop) (i : Nat) : Nat := (ndP p i).length
section
variable {p : Nat → Prop}
theorem ndP_succ (i : Nat) : ndP p (i + 1) = ndP p i ++ (open Classical in if p i then [i] else []) := by
  unfold ndP
  rw [List.range_succ, List.filter_append]
  congr 1
  by_cases h : p i
  · simp [h]
  · simp [h]
theorem nuP_yes {i : Nat} (h : p i) : nuP p (i + 1) = nuP p i + 1 := by unfold nuP; rw [ndP_succ, if_pos h]; simp
theorem nuP_no {i : Nat} (h : ¬ p i) : nuP p (i + 1) = nuP p i := by unfold nuP; rw [ndP_succ, if_neg h]; simp
theorem nuP_mono {i j : Nat} (h : i ≤ j) : nuP p i ≤ nuP p j := by
  induction h with
  | refl => exact Nat.le_refl _
  | @step j _ ih =>
    show nuP p i ≤ nuP p (j + 1)
    by_cases hn : p j
    · have := nuP_yes hn; omega
    · have := nuP_no hn; omega
theorem nuP_lt {i j : Nat} (h : i < j) (hn : p i) : nuP p i < nuP p j := by
  have := nuP_yes hn
  have := nuP_mono (p := p) (show i + 1 ≤ j from h)
  omega
theorem nuP_inj {i j : Nat} (hi : p i) (hj : p j) (h : nuP p i = nuP p j) : i = j := by
  rcases Nat.lt_trichotomy i j with h1 | h1 | h1
  · have := nuP_lt h1 hi; omega
  · exact h1
  · have := nuP_lt h1 hj; omega
theorem nuP_le (i : Nat) : nuP p i ≤ i := by
  unfold nuP ndP
  have := List.length_filter_le (fun i => open Classical in decide (p i)) (List.range i)
  simpa using this
theorem ndP_at {n i : Nat} (hi : i < n) (h : p i) : (ndP p n)[nuP p i]? = some i := by
  induction n with
  | zero => omega
  | succ n ih =>
    rw [ndP_succ]
    by_cases e : i < n
    · rw [List.getElem?_append_left (nuP_lt e h)]
      exact ih e
    · have : i = n := by omega
      subst this
      rw [if_pos h]
      show (ndP p i ++ [i])[(ndP p i).length]? = some i
      simp
theorem ndP_of {n j i : Nat} (h : (ndP p n)[j]? = some i) : p i ∧ i < n ∧ nuP p i = j := by
  induction n with
  | zero => simp [ndP] at h
  | succ n ih =>
    rw [ndP_succ] at h
    by_cases hj : j < (ndP p n).length
    · rw [List.getElem?_append_left hj] at h
      obtain ⟨h1, h2, h3⟩ := ih h
      exact ⟨h1, by omega, h3⟩
    · rw [List.getElem?_append_right (by omega)] at h
      by_cases hn : p n
      · rw [if_pos hn] at h
        have hj0 : j - (ndP p n).length = 0 := by
          rcases Nat.eq_zero_or_pos (j - (ndP p n).length) with h0 | h0
          · exact h0
          · rw [List.getElem?_eq_none (by simp; omega)] at h; cases h
        rw [hj0] at h
        simp at h
        subst h
        exact ⟨hn, by omega, by unfold nuP; omega⟩
      · rw [if_neg hn] at h
        simp at h
/-- Where p holds of all, each keeps its number. -/
theorem nuP_all {n : Nat} (h : ∀ j, j < n → p j) : ∀ j, j ≤ n → nuP p j = j
  | 0, _ => by simp [nuP, ndP]
  | j + 1, hj => by rw [nuP_yes (h j (by omega)), nuP_all h j (by omega)]
/-- The last one of which p holds is the last number. -/
theorem nuP_last {n r : Nat} (hr : p r) (hrn : r < n) (h : ∀ j, p j → j ≤ r) : nuP p n = nuP p r + 1 := by
  have key : ∀ d, nuP p (r + 1 + d) = nuP p r + 1 := fun d => by
    induction d with
    | zero => exact nuP_yes hr
    | succ d ih =>
      have hn : ¬ p (r + 1 + d) := fun hp => by have := h _ hp; omega
      have := nuP_no hn
      rw [← ih]; exact this
  have := key (n - (r + 1))
  rwa [show r + 1 + (n - (r + 1)) = n by omega] at this
end
end Go.Proofs.Ytmglhppfdhphbaa
