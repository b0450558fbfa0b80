/- hold.play. -/
import Derived.Test.YtdkkmmljaijomaaOwn
import Derived.Test.YtdkkmmljaijomaaHoldA
import Derived.Test.YtdkkmmljaijomaaHoldLib
import Derived.Lib.OwnBridge
import Derived.BigGuardPart
namespace Go.Proofs.Ytdkkmmljaijomaa
open Go.RowKit

theorem idxFrom_eq (x : Int) : ∀ (l : List Int) (i : Nat), Lib.idxFrom l x i = if x ∈ l then ((i + l.idxOf x : Nat) : Int) else -1
  | [], i => by simp [Lib.idxFrom]
  | z :: l, i => by
    unfold Lib.idxFrom
    by_cases h : z = x
    · subst h; simp
    · have h' : ¬ x = z := fun e => h e.symm
      rw [if_neg h, idxFrom_eq x l (i + 1), List.idxOf_cons]
      simp only [List.mem_cons, h', false_or]
      split
      · have : (z == x) = false := by simpa using h
        rw [this]
        simp; omega
      · rfl
theorem idxOf_yes {l : List Int} {x : Int} (h : x ∈ l) : Lib.idxOf l x = (l.idxOf x : Nat) := by unfold Lib.idxOf; rw [idxFrom_eq, if_pos h, Nat.zero_add]
theorem idxOf_no {l : List Int} {x : Int} (h : x ∉ l) : Lib.idxOf l x = -1 := by unfold Lib.idxOf; rw [idxFrom_eq, if_neg h]
theorem indexI_calls (A : Option Addr) (l : List Int) (cap : Nat) (x : Int) (w : World) (hA : RdI w A l) (hm : l.length ≤ maxLen) :
    Calls Try.prog 37 #[.slice A l.length cap, .int .i64 x] w fun e w' => e = .returned (.int .i64 (Lib.idxOf l x)) ∧ w' = w := by
  cases l with
  | nil => exact Try.slices_Index_int_empty A cap x w
  | cons a r =>
    obtain ⟨b, off, rfl, hb, hc⟩ := hA (by simp)
    have := Try.slices_Index_int b off (a :: r).length cap (a :: r) x w (Nat.le_refl _) hm (fun j hj => by
      have := hc j ((a :: r)[j]) (List.getElem?_eq_getElem hj) 0 (by omega)
      rw [List.getD_eq_getElem?_getD, List.getElem?_eq_getElem hj]
      simpa [intCells] using this)
    rwa [List.take_length] at this
theorem flatMap_intCells (l : List Int) : l.flatMap intCells = l.map (Value.int .i64) := by
  induction l with
  | nil => rfl
  | cons x r ih => rw [List.flatMap_cons, ih]; rfl
/-- slices.Delete(v, i, i + 1) of a row of the call's own. -/
theorem deleteI_calls (base : Nat) (v : Value) (l : List Int) (i : Nat) (w : World) (hown : OwnI w base 3 v l) (hi : i < l.length) :
    Calls Try.prog 51 #[v, .int .i64 i, .int .i64 ((i : Int) + 1)] w fun e w' => ∃ v', e = .returned v' ∧ OwnI w' base 3 v' (l.eraseIdx i) ∧ w.heap.size ≤ w'.heap.size ∧
      (∀ B w0, B ≤ base → Below B w0 w → Below B w0 w') := by
  have h0 : w.ownsRow base 3 1 v l.length (l.map (Value.int .i64)) := by rw [← flatMap_intCells]; exact hown
  obtain ⟨g, cap, rfl, hb, hg, hn, hm, _, hH⟩ := Lib.holds_of_ownsRow h0 (by
    rintro rfl
    rcases h0.2 with ⟨_, e⟩ | ⟨_, _, _, e, _⟩
    · omega
    · cases e)
  have h1 := Try.slices_Delete_int g 0 cap i (i + 1) l w hH (by omega) (by unfold maxLen at hm; omega) (by omega) (by omega)
  rw [show ((i + 1 : Nat) : Int) = (i : Int) + 1 by omega] at h1
  refine h1.mono ?_
  rintro e w' ⟨rfl, q, rfl⟩
  have hlen : (l.take i ++ l.drop (i + 1)).length = l.length - 1 := by simp; omega
  refine ⟨_, rfl, ?_, by simp [Sort.putRow, Sort.mapBlock, Sort.ahead], fun B w0 hB hBw => Lib.below_putRow hBw (by omega)⟩
  have h2 := Lib.ownsRow_putRow (q := q) (k := l.length - 1) (ys := l.take i ++ l.drop (i + 1) ++ List.replicate (i + 1 - i) 0) h0 (by rw [List.length_append, hlen, List.length_replicate]; omega) (by omega)
  rw [List.take_left' hlen] at h2
  unfold OwnI Own
  rw [flatMap_intCells, List.eraseIdx_eq_take_drop_succ, hlen, show l.length - (i + 1 - i) = l.length - 1 by omega]
  exact h2
end Go.Proofs.Ytdkkmmljaijomaa
