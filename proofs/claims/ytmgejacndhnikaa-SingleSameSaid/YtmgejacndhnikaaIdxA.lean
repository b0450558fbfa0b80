/- slices.Index over ints, by its contract on the shelf. -/
import Derived.Test.YtmgejacndhnikaaIdxI
import Derived.Test.YtmgejacndhnikaaLib
import Derived.Lib.Slices
namespace Go.Proofs.Ytmgejacndhnikaa
open Go.RowKit

theorem idxFrom_eq (x : Int) : ∀ (l : List Int) (i : Nat), Lib.idxFrom l x i = if x ∈ l then ((i + l.idxOf x : Nat) : Int) else -1
  | [], i => by simp [Lib.idxFrom]
  | z :: l, i => by
    unfold Lib.idxFrom
    by_cases h : z = x
    · subst h; simp
    · have h' : ¬ x = z := fun e => h e.symm
      rw [if_neg h, idxFrom_eq x l (i + 1), List.idxOf_cons]
      simp only [List.mem_cons, h', false_or]
      split
      · have : (z == x) = false := by simpa using h
        rw [this]
        simp; omega
      · rfl
theorem idxOf_yes {l : List Int} {x : Int} (h : x ∈ l) : Lib.idxOf l x = (l.idxOf x : Nat) := by unfold Lib.idxOf; rw [idxFrom_eq, if_pos h, Nat.zero_add]
theorem idxOf_no {l : List Int} {x : Int} (h : x ∉ l) : Lib.idxOf l x = -1 := by unfold Lib.idxOf; rw [idxFrom_eq, if_neg h]
theorem indexI_calls (A : Option Addr) (l : List Int) (cap : Nat) (x : Int) (w : World) (hA : RdI w A l) (hm : l.length ≤ maxLen) :
    Calls Try.prog 70 #[.slice A l.length cap, .int .i64 x] w fun e w' => e = .returned (.int .i64 (Lib.idxOf l x)) ∧ w' = w := by
  cases l with
  | nil => exact Try.slices_Index_int_empty A cap x w
  | cons a r =>
    obtain ⟨b, off, rfl, hb, hc⟩ := hA (by simp)
    have := Try.slices_Index_int b off (a :: r).length cap (a :: r) x w (Nat.le_refl _) hm (fun j hj => by
      have := hc j ((a :: r)[j]) (List.getElem?_eq_getElem hj) 0 (by omega)
      rw [List.getD_eq_getElem?_getD, List.getElem?_eq_getElem hj]
      simpa [intCells] using this)
    rwa [List.take_length] at this
end Go.Proofs.Ytmgejacndhnikaa
