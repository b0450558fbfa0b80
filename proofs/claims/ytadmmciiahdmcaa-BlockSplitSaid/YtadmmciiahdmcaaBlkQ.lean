/- BlockSplit, plain. -/
import Derived.Test.YtadmmciiahdmcaaBlkH
namespace Go.Proofs.Ytadmmciiahdmcaa
open Go.RowKit

def oneB (c : List Step) : List Blk := [⟨c, -1, -1, 0⟩]
def twoB (c : List Step) (i : Nat) : List Blk := [⟨c.take i, -1, 1, 0⟩, ⟨c.drop i, -1, -1, 0⟩]
theorem cErrs_app {vars : Int} : ∀ (a b : List Step), cErrs vars (a ++ b) = 0 ↔ cErrs vars a = 0 ∧ cErrs vars b = 0
  | [], b => by simp [cErrs]
  | s :: a, b => by
    rw [List.cons_append, show ∀ r, cErrs vars (s :: r) = if stErr vars s = 0 then cErrs vars r else stErr vars s from fun _ => rfl, show ∀ r, cErrs vars (s :: r) = if stErr vars s = 0 then cErrs vars r else stErr vars s from fun _ => rfl]
    by_cases h : stErr vars s = 0
    · rw [if_pos h, if_pos h]; exact cErrs_app a b
    · rw [if_neg h, if_neg h]; constructor
      · intro e; exact absurd e h
      · intro e; exact absurd e.1 h
theorem bErr_end {vars n : Int} {c : List Step} (h : 1 ≤ vars) : bErr vars n ⟨c, -1, -1, 0⟩ = cErrs vars c := by
  unfold bErr
  dsimp only
  split
  · rename_i h0; rw [eErr_0 (by omega) (by omega), h0]
  · rfl
theorem bErr_go {vars : Int} {c : List Step} (h : 1 ≤ vars) : bErr vars 2 ⟨c, -1, 1, 0⟩ = cErrs vars c := by
  unfold bErr
  dsimp only
  split
  · rename_i h0; rw [eErr_0 (by omega) (by omega), h0]
  · rfl
theorem one_two {vars : Int} {c : List Step} {i : Nat} : pkErr vars (oneB c) = 0 ↔ pkErr vars (twoB c i) = 0 := by
  have hm : manyB (oneB c) = manyB (twoB c i) := by unfold manyB oneB twoB; simp; omega
  unfold pkErr
  rw [← hm]
  by_cases h : vars < 1 ∨ 6 < vars ∨ 20 < manyB (oneB c)
  · rw [if_pos (by omega), if_pos (by omega)]
  · rw [if_neg (by show ¬ (vars < 1 ∨ 6 < vars ∨ 1 < 1 ∨ 8 < 1 ∨ _); omega), if_neg (by show ¬ (vars < 1 ∨ 6 < vars ∨ 2 < 1 ∨ 8 < 2 ∨ _); omega)]
    show (if bErr vars 1 ⟨c, -1, -1, 0⟩ = 0 then bErrs vars 1 [] else bErr vars 1 ⟨c, -1, -1, 0⟩) = 0 ↔ (if bErr vars 2 ⟨c.take i, -1, 1, 0⟩ = 0 then (if bErr vars 2 ⟨c.drop i, -1, -1, 0⟩ = 0 then bErrs vars 2 [] else bErr vars 2 ⟨c.drop i, -1, -1, 0⟩) else bErr vars 2 ⟨c.take i, -1, 1, 0⟩) = 0
    rw [bErr_end (by omega), bErr_end (by omega), bErr_go (by omega)]
    have e : cErrs vars c = 0 ↔ cErrs vars (c.take i) = 0 ∧ cErrs vars (c.drop i) = 0 := by rw [← cErrs_app, List.take_append_drop]
    show (if cErrs vars c = 0 then 0 else cErrs vars c) = 0 ↔ (if cErrs vars (c.take i) = 0 then (if cErrs vars (c.drop i) = 0 then 0 else cErrs vars (c.drop i)) else cErrs vars (c.take i)) = 0
    by_cases h1 : cErrs vars (c.take i) = 0
    · by_cases h2 : cErrs vars (c.drop i) = 0
      · rw [if_pos h1, if_pos h2, if_pos (e.2 ⟨h1, h2⟩)]
      · have h3 : cErrs vars c ≠ 0 := fun h => h2 (e.1 h).2
        rw [if_pos h1, if_neg h2, if_neg h3]
        exact ⟨fun h => absurd h h3, fun h => absurd h h2⟩
    · have h3 : cErrs vars c ≠ 0 := fun h => h1 (e.1 h).1
      rw [if_neg h1, if_neg h3]
      exact ⟨fun h => absurd h h3, fun h => absurd h h1⟩
theorem one_0 (c : List Step) (v : List Int) : stB (oneB c) v 0 = (0, v) := rfl
theorem one_1 (c : List Step) (v : List Int) : stB (oneB c) v 1 = (-1, dgR v c) := rfl
theorem two_0 (c : List Step) (i : Nat) (v : List Int) : stB (twoB c i) v 0 = (0, v) := rfl
theorem two_1 (c : List Step) (i : Nat) (v : List Int) : stB (twoB c i) v 1 = (1, dgR v (c.take i)) := rfl
theorem two_2 (c : List Step) (i : Nat) (v : List Int) : stB (twoB c i) v 2 = (-1, dgR v c) := by
  show ((-1 : Int), dgR (dgR v (c.take i)) (c.drop i)) = _
  rw [← dgR_append, List.take_append_drop]
/-- One block's run ends behind it. -/
theorem one_end {c : List Step} {v : List Int} {k : Nat} (h1 : 1 ≤ k) (h : runsB (oneB c) v k) : k = 1 := by
  rcases Nat.lt_or_ge 1 k with h2 | h2
  · have := h 1 h2; rw [one_1] at this; exact absurd this (show ¬ (0 : Int) ≤ -1 by decide)
  · omega
theorem two_end {c : List Step} {i : Nat} {v : List Int} {k : Nat} (h1 : 1 ≤ k) (h : runsB (twoB c i) v k) (hl : (stB (twoB c i) v k).1 < 0) : k = 2 := by
  rcases Nat.lt_or_ge 2 k with h2 | h2
  · have := h 2 h2; rw [two_2] at this; exact absurd this (show ¬ (0 : Int) ≤ -1 by decide)
  · by_cases e : k = 1
    · subst e; rw [two_1] at hl; exact absurd hl (show ¬ (1 : Int) < 0 by decide)
    · omega
end Go.Proofs.Ytadmmciiahdmcaa
