/- Package cut: its state on the heap. -/
import Derived.Test.YtadmmciiahdmcaaTrimP
import Derived.Test.YtadmmciiahdmcaaLivB
import Derived.Test.YtadmmciiahdmcaaBackS
import Derived.Test.YtadmmciiahdmcaaLoopM
namespace Go.Proofs.Ytadmmciiahdmcaa
open Go.RowKit

def u32V (n : Nat) : Value := .int .u32 (n : Int)
theorem ty_ne {w : World} {a b : Nat} {x y : Array Value} {e e' : Nat} (h : w.heap[a]? = some (.cells x e (0, 0))) (k : w.heap[b]? = some (.cells y e' (0, 0))) (hne : e ≠ e') : a ≠ b := fun h1 => by
  rw [h1, k] at h
  injection h with h
  injection h with h1 h2
  exact hne h2.symm
theorem heap_setC (w : World) (g j : Nat) (v : Value) (cs : Array Value) (E : Nat) (h : w.heap[g]? = some (.cells cs E (0, 0))) : (w.setCell ⟨g, j, none⟩ v).heap[g]? = some (.cells (cs.setIfInBounds j v) E (0, 0)) := by
  obtain ⟨hlt, hv⟩ := Array.getElem?_eq_some_iff.1 h
  unfold World.setCell
  rw [Array.getElem?_eq_getElem (by simpa using hlt), Array.getElem_modify]
  simp [hv]
theorem frozen_of {w : World} {a j : Nat} {x : Array Value} {e : Nat} (h : w.heap[a]? = some (.cells x e (0, 0))) : w.frozen? ⟨a, j, none⟩ = false := by simp [World.frozen?, h]
theorem lt_cells {w : World} {a : Nat} {o : Obj} (h : w.heap[a]? = some o) : a < w.heap.size := (Array.getElem?_eq_some_iff.1 h).1
/-- The state: block T; of the steps rows of bools; what is needed ahead of each. -/
structure CT (w : World) (T SB FB : Nat) (R : Nat → Nat) (vp vn : Value) (cS m want t : Nat) (F : List Nat) (B : Nat → List Bool) : Prop where
  hT : w.heap[T]? = some (.cells #[vp, vn, .int .u32 (want : Nat), .slice (some ⟨SB, 0, none⟩) m cS, .int .u32 (t : Nat), .slice (some ⟨FB, 0, none⟩) m m] 108 (0, 0))
  hF : w.heap[FB]? = some (.cells (F.map u32V).toArray 39 (0, 0))
  hS : ∃ cur, w.heap[SB]? = some (.cells cur 71 (0, 0)) ∧ ∀ i, i < m → cur[i]? = some (.slice (some ⟨R i, 0, none⟩) (B i).length (B i).length)
  hB : ∀ i, i < m → w.heap[R i]? = some (.cells ((B i).map Value.bool).toArray 4 (0, 0))
  inj : ∀ i j, i < m → j < m → R i = R j → i = j
  len : F.length = m
section
variable {w w' : World} {T SB FB : Nat} {R : Nat → Nat} {vp vn : Value} {cS m want t : Nat} {F : List Nat} {B : Nat → List Bool}
theorem CT.keep (h : CT w T SB FB R vp vn cS m want t F B) (hk : ∀ (k : Nat) (a : Array Value) (e : Nat), w.heap[k]? = some (Obj.cells a e (0, 0)) → w'.heap[k]? = some (Obj.cells a e (0, 0))) : CT w' T SB FB R vp vn cS m want t F B :=
  ⟨hk _ _ _ h.hT, hk _ _ _ h.hF, let ⟨cur, h1, h2⟩ := h.hS; ⟨cur, hk _ _ _ h1, h2⟩, fun i hi => hk _ _ _ (h.hB i hi), h.inj, h.len⟩
theorem CT.below (h : CT w T SB FB R vp vn cS m want t F B) (hb : Below w.heap.size w w') : CT w' T SB FB R vp vn cS m want t F B :=
  h.keep fun k _ _ hk => (hb.block k (lt_cells hk)).trans hk
theorem CT.drew (h : CT w T SB FB R vp vn cS m want t F B) : CT w.drew T SB FB R vp vn cS m want t F B := ⟨h.hT, h.hF, h.hS, h.hB, h.inj, h.len⟩
theorem CT.drewN (h : CT w T SB FB R vp vn cS m want t F B) (n : Nat) : CT (w.drewN n) T SB FB R vp vn cS m want t F B := ⟨h.hT, h.hF, h.hS, h.hB, h.inj, h.len⟩
theorem CT.at_ (h : CT w T SB FB R vp vn cS m want t F B) : w.cell? ⟨T, 0, none⟩ = some vp ∧ w.cell? ⟨T, 1, none⟩ = some vn ∧ w.cell? ⟨T, 2, none⟩ = some (.int .u32 (want : Nat)) ∧ w.cell? ⟨T, 3, none⟩ = some (.slice (some ⟨SB, 0, none⟩) m cS) ∧ w.cell? ⟨T, 4, none⟩ = some (.int .u32 (t : Nat)) ∧ w.cell? ⟨T, 5, none⟩ = some (.slice (some ⟨FB, 0, none⟩) m m) := by
  refine ⟨?_, ?_, ?_, ?_, ?_, ?_⟩ <;> (rw [cell_of_row w T _ _ _ _ h.hT]; rfl)
theorem CT.atF (h : CT w T SB FB R vp vn cS m want t F B) {i : Nat} (hi : i < m) : w.cell? ⟨FB, i, none⟩ = some (.int .u32 (getU F i : Nat)) := by
  rw [cell_of_row w FB i _ _ _ h.hF]
  have hl : i < F.length := by rw [h.len]; exact hi
  rw [getU_get hl]
  simp [u32V, hl]
theorem CT.atS (h : CT w T SB FB R vp vn cS m want t F B) {i : Nat} (hi : i < m) : w.cell? ⟨SB, i, none⟩ = some (.slice (some ⟨R i, 0, none⟩) (B i).length (B i).length) := by
  obtain ⟨cur, h1, h2⟩ := h.hS
  rw [cell_of_row w SB i _ _ _ h1]
  exact h2 i hi
theorem CT.fzT (h : CT w T SB FB R vp vn cS m want t F B) (j : Nat) : w.frozen? ⟨T, j, none⟩ = false := frozen_of h.hT
theorem CT.fzF (h : CT w T SB FB R vp vn cS m want t F B) (j : Nat) : w.frozen? ⟨FB, j, none⟩ = false := frozen_of h.hF
theorem CT.fzB (h : CT w T SB FB R vp vn cS m want t F B) {i : Nat} (hi : i < m) (j : Nat) : w.frozen? ⟨R i, j, none⟩ = false := frozen_of (h.hB i hi)
theorem CT.setT (h : CT w T SB FB R vp vn cS m want t F B) (t' : Nat) : CT (w.setCell ⟨T, 4, none⟩ (.int .u32 (t' : Nat))) T SB FB R vp vn cS m want t' F B := by
  have hk : ∀ k, k ≠ T → (w.setCell ⟨T, 4, none⟩ (.int .u32 (t' : Nat))).heap[k]? = w.heap[k]? := fun k hk => Below.heap_setCell _ _ _ _ hk
  obtain ⟨cur, h1, h2⟩ := h.hS
  exact ⟨by rw [heap_setC w T 4 _ _ _ h.hT]; rfl, (hk _ (ty_ne h.hF h.hT (by decide))).trans h.hF, ⟨cur, (hk _ (ty_ne h1 h.hT (by decide))).trans h1, h2⟩, fun i hi => (hk _ (ty_ne (h.hB i hi) h.hT (by decide))).trans (h.hB i hi), h.inj, h.len⟩
theorem CT.setF (h : CT w T SB FB R vp vn cS m want t F B) {i : Nat} (y : Nat) : CT (w.setCell ⟨FB, i, none⟩ (.int .u32 (y : Nat))) T SB FB R vp vn cS m want t (F.set i y) B := by
  have hk : ∀ k, k ≠ FB → (w.setCell ⟨FB, i, none⟩ (.int .u32 (y : Nat))).heap[k]? = w.heap[k]? := fun k hk => Below.heap_setCell _ _ _ _ hk
  obtain ⟨cur, h1, h2⟩ := h.hS
  refine ⟨(hk _ (ty_ne h.hT h.hF (by decide))).trans h.hT, ?_, ⟨cur, (hk _ (ty_ne h1 h.hF (by decide))).trans h1, h2⟩, fun i hi => (hk _ (ty_ne (h.hB i hi) h.hF (by decide))).trans (h.hB i hi), h.inj, by rw [List.length_set]; exact h.len⟩
  rw [heap_setC w FB i _ _ _ h.hF, List.map_set, List.setIfInBounds_toArray]; rfl
def setBk (B : Nat → List Bool) (i : Nat) (l : List Bool) : Nat → List Bool := fun j => if j = i then l else B j
/-- Another world, in which only row i is another. -/
theorem CT.rowB (h : CT w T SB FB R vp vn cS m want t F B) {i : Nat} (hi : i < m) {l : List Bool} (hl : l.length = (B i).length) (hk : ∀ k, k < w.heap.size → k ≠ R i → w'.heap[k]? = w.heap[k]?) (hr : w'.heap[R i]? = some (.cells (l.map Value.bool).toArray 4 (0, 0))) :
    CT w' T SB FB R vp vn cS m want t F (setBk B i l) := by
  have hb := h.hB i hi
  obtain ⟨cur, h1, h2⟩ := h.hS
  refine ⟨(hk _ (lt_cells h.hT) (ty_ne h.hT hb (by decide))).trans h.hT, (hk _ (lt_cells h.hF) (ty_ne h.hF hb (by decide))).trans h.hF, ⟨cur, (hk _ (lt_cells h1) (ty_ne h1 hb (by decide))).trans h1, fun j hj => ?_⟩, fun j hj => ?_, h.inj, h.len⟩
  · rw [h2 j hj]
    unfold setBk
    by_cases e : j = i
    · rw [if_pos e, hl, e]
    · rw [if_neg e]
  · unfold setBk
    by_cases e : j = i
    · rw [if_pos e, e]; exact hr
    · rw [if_neg e]; exact (hk _ (lt_cells (h.hB j hj)) (fun e2 => e (h.inj j i hj hi e2))).trans (h.hB j hj)
end
end Go.Proofs.Ytadmmciiahdmcaa
