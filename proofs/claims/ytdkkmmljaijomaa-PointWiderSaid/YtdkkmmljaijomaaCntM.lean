/- How many a greater set has. -/
import Derived.Test.YtdkkmmljaijomaaBits
namespace Go.Proofs.Ytdkkmmljaijomaa
open Go.RowKit

theorem cnt8_mono_lt {s t : Nat} (h : ∀ k, s.testBit k = true → t.testBit k = true) (hne : s ≠ t) (ht : t < 256) : cnt8 s < cnt8 t := by
  have key : ∀ l : List Nat, (l.filter fun k => s.testBit k).length ≤ (l.filter fun k => t.testBit k).length ∧ ((∃ k ∈ l, s.testBit k = false ∧ t.testBit k = true) → (l.filter fun k => s.testBit k).length < (l.filter fun k => t.testBit k).length) := fun l => by
    induction l with
    | nil => exact ⟨Nat.le_refl _, by rintro ⟨k, hk, _⟩; cases hk⟩
    | cons a l ih =>
      rw [List.filter_cons, List.filter_cons]
      cases hs : s.testBit a
      · cases ht : t.testBit a
        · simp only [Bool.false_eq_true, if_false]
          refine ⟨ih.1, ?_⟩
          rintro ⟨k, hk, h1, h2⟩
          rcases List.mem_cons.1 hk with rfl | hk
          · rw [ht] at h2; cases h2
          · exact ih.2 ⟨k, hk, h1, h2⟩
        · simp only [Bool.false_eq_true, if_false, if_true, List.length_cons]
          exact ⟨by omega, fun _ => by omega⟩
      · rw [h a hs]
        simp only [if_true, List.length_cons]
        refine ⟨by omega, ?_⟩
        rintro ⟨k, hk, h1, h2⟩
        rcases List.mem_cons.1 hk with rfl | hk
        · rw [hs] at h1; cases h1
        · have := ih.2 ⟨k, hk, h1, h2⟩; omega
  refine (key (List.range 8)).2 ?_
  apply Classical.byContradiction
  intro hn
  refine hne (set_ext fun k => ?_)
  cases hs : s.testBit k
  · cases htk : t.testBit k
    · rfl
    · exact absurd ⟨k, by have := bit_lt (n := 8) ht htk; simpa using this, hs, htk⟩ hn
  · rw [h k hs]
end Go.Proofs.Ytdkkmmljaijomaa
