/- point.Joined: what a closed state says of Andersen's sets; the classes on the heap. -/
import Derived.Test.YtdkkmmljaijomaaJoiP
import Derived.Test.YtdkkmmljaijomaaPtC
namespace Go.Proofs.Ytdkkmmljaijomaa
open Go.RowKit

section
variable {n : Nat} {o t : List Int} {l : List Pt}
theorem closed_pt (hc : Cls n o t) (ok : PtOk n l) (hl : ∀ p ∈ l, ClosedJ o t p.kind p.to p.from_) {i j : Nat} (h : PT l i j) : 0 ≤ gI t (gI o i) ∧ gI o j = gI t (gI o i) := by
  induction h with
  | @addr a b h =>
    have h1 := (hl _ h).1 rfl
    have h2 := ok.ins _ h
    dsimp only at h1 h2
    have h3 := (hc.of b (by omega)).1
    omega
  | copy h _ ih =>
    have h1 := (hl _ h).2.1 rfl
    dsimp only at h1
    have := h1 ih.1
    omega
  | load h _ _ ih ih' =>
    have h1 := (hl _ h).2.2.1 rfl
    dsimp only at h1
    rw [ih.2] at ih'
    have := h1 ih.1 ih'.1
    omega
  | store h _ _ ih ih' =>
    have h1 := (hl _ h).2.2.2 rfl
    dsimp only at h1
    have := h1 ih.1 ih'.1
    rw [ih.2]
    omega
/-- To what i points. -/
noncomputable def joS (o t : List Int) (n i : Nat) : Nat := setN fun j => j < n ∧ 0 ≤ gI t (gI o i) ∧ gI o j = gI t (gI o i)
noncomputable def joL (n : Nat) (o t : List Int) : List Nat := (List.range n).map (joS o t n)
theorem joL_len : (joL n o t).length = n := by simp [joL]
theorem joL_get {i : Nat} (h : i < (joL n o t).length) : (joL n o t)[i] = joS o t n i := by simp [joL]
theorem joS_bit (h8 : n ≤ 8) (i j : Nat) : (joS o t n i).testBit j = true ↔ (j < n ∧ 0 ≤ gI t (gI o i) ∧ gI o j = gI t (gI o i)) := by
  unfold joS
  rw [setN_bit]
  exact ⟨fun h => h.2, fun h => ⟨by omega, h⟩⟩
theorem joS_lt (i : Nat) : joS o t n i < 256 := setN_lt _
theorem jo_sup (hc : Cls n o t) (ok : PtOk n l) (hl : ∀ p ∈ l, ClosedJ o t p.kind p.to p.from_) (i : Nat) : ∀ j, (ptS l i).testBit j = true → (joS o t n i).testBit j = true := fun j hj => by
  rw [ptS_bit ok] at hj
  rw [joS_bit ok.n8]
  exact ⟨(hj.lt ok).2, closed_pt hc ok hl hj⟩
theorem jo_one (h8 : n ≤ 8) (i k : Nat) : (∃ j, (joS o t n i).testBit j = true ∧ (joS o t n k).testBit j = true) → joS o t n i = joS o t n k := fun ⟨j, h1, h2⟩ => by
  rw [joS_bit h8] at h1 h2
  refine set_ext fun x => ?_
  rw [Bool.eq_iff_iff, joS_bit h8, joS_bit h8]
  rw [← h1.2.2, ← h2.2.2]
end
def iv (x : Int) : Value := .int .i64 x
/-- The classes: block T; their rows OB and TB. -/
structure JT (w : World) (T OB TB cO cT n : Nat) (o t : List Int) : Prop where
  hT : w.heap[T]? = some (.cells #[.slice (some ⟨OB, 0, none⟩) n cO, .slice (some ⟨TB, 0, none⟩) n cT] 71 (0, 0))
  hO : ∃ zs : List Value, w.heap[OB]? = some (.cells (o.map iv ++ zs).toArray 3 (0, 0))
  hU : ∃ zs : List Value, w.heap[TB]? = some (.cells (t.map iv ++ zs).toArray 3 (0, 0))
  ne : OB ≠ TB
  lo : o.length = n
  lt : t.length = n
theorem heap_setJ (w : World) (g j : Nat) (v : Value) (cs : Array Value) (E : Nat) (h : w.heap[g]? = some (.cells cs E (0, 0))) : (w.setCell ⟨g, j, none⟩ v).heap[g]? = some (.cells (cs.setIfInBounds j v) E (0, 0)) := by
  obtain ⟨hlt, hv⟩ := Array.getElem?_eq_some_iff.1 h
  unfold World.setCell
  rw [Array.getElem?_eq_getElem (by simpa using hlt), Array.getElem_modify]
  simp [hv]
theorem ty_neJ {w : World} {a b : Nat} {x y : Array Value} {e e' : Nat} (h : w.heap[a]? = some (.cells x e (0, 0))) (k : w.heap[b]? = some (.cells y e' (0, 0))) (hne : e ≠ e') : a ≠ b := fun h1 => by
  rw [h1, k] at h
  injection h with h
  injection h with h1 h2
  exact hne h2.symm
theorem lt_J {w : World} {a : Nat} {o : Obj} (h : w.heap[a]? = some o) : a < w.heap.size := (Array.getElem?_eq_some_iff.1 h).1
/-- Two rows may be others, nothing else that was is. -/
structure Two (a b : Nat) (w w' : World) : Prop where
  bel : ∀ (B : Nat) (w0 : World), Below B w0 w → B ≤ a → B ≤ b → Below B w0 w'
  size : w.heap.size ≤ w'.heap.size
  block : ∀ k, k < w.heap.size → k ≠ a → k ≠ b → w'.heap[k]? = w.heap[k]?
theorem Two.refl (a b : Nat) (w : World) : Two a b w w := ⟨fun _ _ h _ _ => h, Nat.le_refl _, fun _ _ _ _ => rfl⟩
theorem Two.trans {a b : Nat} {w w' w'' : World} (h : Two a b w w') (k : Two a b w' w'') : Two a b w w'' :=
  ⟨fun B w0 hb h1 h2 => k.bel B w0 (h.bel B w0 hb h1 h2) h1 h2, Nat.le_trans h.size k.size, fun x h0 h1 h2 => (k.block x (Nat.lt_of_lt_of_le h0 h.size) h1 h2).trans (h.block x h0 h1 h2)⟩
theorem Two.set1 {a b : Nat} {w w' : World} (h : Two a b w w') (i : Nat) (v : Value) : Two a b w (w'.setCell ⟨a, i, none⟩ v) :=
  h.trans ⟨fun _ _ hb h1 _ => hb.setCell (p := ⟨a, i, none⟩) h1 v, by simp [World.setCell], fun k _ h1 _ => Below.heap_setCell _ _ _ _ h1⟩
theorem Two.set2 {a b : Nat} {w w' : World} (h : Two a b w w') (i : Nat) (v : Value) : Two a b w (w'.setCell ⟨b, i, none⟩ v) :=
  h.trans ⟨fun _ _ hb _ h2 => hb.setCell (p := ⟨b, i, none⟩) h2 v, by simp [World.setCell], fun k _ _ h2 => Below.heap_setCell _ _ _ _ h2⟩
theorem Two.drewN {a b : Nat} {w w' : World} (h : Two a b w w') (k : Nat) : Two a b w (w'.drewN k) :=
  h.trans ⟨fun _ _ hb _ _ => below_dN hb k, Nat.le_refl _, fun _ _ _ _ => rfl⟩
theorem Two.drew {a b : Nat} {w w' : World} (h : Two a b w w') : Two a b w w'.drew :=
  h.trans ⟨fun _ _ hb _ _ => hb.drew, Nat.le_refl _, fun _ _ _ _ => rfl⟩
theorem Two.alloc {a b : Nat} {w w' : World} (h : Two a b w w') (ha : a < w'.heap.size) (o : Obj) : Two a b w (w'.alloc o) :=
  h.trans ⟨fun _ _ hb h1 _ => hb.alloc (by omega) o, by simp, fun k h0 _ _ => Below.heap_alloc _ _ _ h0⟩
section
variable {w w' w'' : World} {T OB TB cO cT n : Nat} {o t : List Int}
theorem JT.clO (h : JT w T OB TB cO cT n o t) : w.cell? ⟨T, 0, none⟩ = some (.slice (some ⟨OB, 0, none⟩) n cO) := by rw [cell_of_row w T _ _ _ _ h.hT]; rfl
theorem JT.clT (h : JT w T OB TB cO cT n o t) : w.cell? ⟨T, 1, none⟩ = some (.slice (some ⟨TB, 0, none⟩) n cT) := by rw [cell_of_row w T _ _ _ _ h.hT]; rfl
theorem JT.atO (h : JT w T OB TB cO cT n o t) {i : Nat} (hi : i < n) : w.cell? ⟨OB, i, none⟩ = some (.int .i64 (gI o i)) ∧ w.frozen? ⟨OB, i, none⟩ = false := by
  obtain ⟨zs, hz⟩ := h.hO
  have hl : i < o.length := by rw [h.lo]; exact hi
  refine ⟨?_, by simp [World.frozen?, hz]⟩
  rw [cell_of_row w OB i _ _ _ hz, gI_get hl]
  rw [List.getElem?_toArray, List.getElem?_append_left (by simpa using hl)]
  simp [iv, hl]
theorem JT.atT (h : JT w T OB TB cO cT n o t) {i : Nat} (hi : i < n) : w.cell? ⟨TB, i, none⟩ = some (.int .i64 (gI t i)) ∧ w.frozen? ⟨TB, i, none⟩ = false := by
  obtain ⟨zs, hz⟩ := h.hU
  have hl : i < t.length := by rw [h.lt]; exact hi
  refine ⟨?_, by simp [World.frozen?, hz]⟩
  rw [cell_of_row w TB i _ _ _ hz, gI_get hl]
  rw [List.getElem?_toArray, List.getElem?_append_left (by simpa using hl)]
  simp [iv, hl]
theorem set_app {l : List Int} {zs : List Value} {i : Nat} (hi : i < l.length) (y : Int) : ((l.map iv ++ zs).toArray).setIfInBounds i (.int .i64 y) = ((l.set i y).map iv ++ zs).toArray := by
  rw [List.setIfInBounds_toArray, List.set_append_left _ _ (by simpa using hi), List.map_set]; rfl
theorem JT.setO (h : JT w T OB TB cO cT n o t) {i : Nat} (hi : i < n) (y : Int) : JT (w.setCell ⟨OB, i, none⟩ (.int .i64 y)) T OB TB cO cT n (o.set i y) t := by
  have hk : ∀ k, k ≠ OB → (w.setCell ⟨OB, i, none⟩ (.int .i64 y)).heap[k]? = w.heap[k]? := fun k hk => Below.heap_setCell _ _ _ _ hk
  obtain ⟨zs, hz⟩ := h.hO
  obtain ⟨ys, hy⟩ := h.hU
  refine ⟨(hk _ (ty_neJ h.hT hz (by decide))).trans h.hT, ⟨zs, ?_⟩, ⟨ys, (hk _ (Ne.symm h.ne)).trans hy⟩, h.ne, by rw [List.length_set]; exact h.lo, h.lt⟩
  rw [heap_setJ w OB i _ _ _ hz, set_app (by rw [h.lo]; exact hi)]
theorem JT.setT (h : JT w T OB TB cO cT n o t) {i : Nat} (hi : i < n) (y : Int) : JT (w.setCell ⟨TB, i, none⟩ (.int .i64 y)) T OB TB cO cT n o (t.set i y) := by
  have hk : ∀ k, k ≠ TB → (w.setCell ⟨TB, i, none⟩ (.int .i64 y)).heap[k]? = w.heap[k]? := fun k hk => Below.heap_setCell _ _ _ _ hk
  obtain ⟨zs, hz⟩ := h.hO
  obtain ⟨ys, hy⟩ := h.hU
  refine ⟨(hk _ (ty_neJ h.hT hy (by decide))).trans h.hT, ⟨zs, (hk _ h.ne).trans hz⟩, ⟨ys, ?_⟩, h.ne, h.lo, by rw [List.length_set]; exact h.lt⟩
  rw [heap_setJ w TB i _ _ _ hy, set_app (by rw [h.lt]; exact hi)]
theorem JT.drewN (h : JT w T OB TB cO cT n o t) (k : Nat) : JT (w.drewN k) T OB TB cO cT n o t := ⟨h.hT, h.hO, h.hU, h.ne, h.lo, h.lt⟩
theorem JT.below (h : JT w T OB TB cO cT n o t) (hb : Below w.heap.size w w') : JT w' T OB TB cO cT n o t :=
  have hk : ∀ {k : Nat} {x : Obj}, w.heap[k]? = some x → w'.heap[k]? = some x := fun hx => (hb.block _ (lt_J hx)).trans hx
  ⟨hk h.hT, h.hO.imp fun _ => hk, h.hU.imp fun _ => hk, h.ne, h.lo, h.lt⟩
theorem JT.rdO (h : JT w T OB TB cO cT n o t) : RdI w (some ⟨OB, 0, none⟩) o := fun hl => by
  obtain ⟨zs, hz⟩ := h.hO
  refine ⟨OB, 0, rfl, lt_J hz, fun k y hy j hj => ?_⟩
  have hj : j = 0 := by have : j < 1 := hj; omega
  subst hj
  have hk := (List.getElem?_eq_some_iff.1 hy).1
  have := (h.atO (i := k) (by rw [← h.lo]; exact hk)).1
  rw [gI_get hk, (List.getElem?_eq_some_iff.1 hy).2] at this
  simpa [intCells] using this
theorem JT.rdT (h : JT w T OB TB cO cT n o t) : RdI w (some ⟨TB, 0, none⟩) t := fun hl => by
  obtain ⟨zs, hz⟩ := h.hU
  refine ⟨TB, 0, rfl, lt_J hz, fun k y hy j hj => ?_⟩
  have hj : j = 0 := by have : j < 1 := hj; omega
  subst hj
  have hk := (List.getElem?_eq_some_iff.1 hy).1
  have := (h.atT (i := k) (by rw [← h.lt]; exact hk)).1
  rw [gI_get hk, (List.getElem?_eq_some_iff.1 hy).2] at this
  simpa [intCells] using this
end
end Go.Proofs.Ytdkkmmljaijomaa
