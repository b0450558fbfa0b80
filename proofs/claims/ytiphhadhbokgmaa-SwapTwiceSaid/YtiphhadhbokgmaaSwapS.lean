/- The state of package swap: two rows behind a pointer. -/
import Derived.Test.YtiphhadhbokgmaaSwapA
import Derived.Test.YtiphhadhbokgmaaOwnBo
namespace Go.Proofs.Ytiphhadhbokgmaa
open Go.RowKit

def rowI (n : Nat) (f : Nat → Int) : List Int := (List.range n).map f
theorem rowI_len (n : Nat) (f : Nat → Int) : (rowI n f).length = n := by simp [rowI]
theorem rowI_get {n : Nat} {f : Nat → Int} {i : Nat} (h : i < (rowI n f).length) : (rowI n f)[i] = f i := by simp [rowI]
theorem rowI_set (n k : Nat) (f : Nat → Int) (x : Int) : (rowI n f).set k x = rowI n fun i => if i = k then x else f i := map_range_set n k f x
theorem rowI_congr {n : Nat} {f g : Nat → Int} (h : ∀ i, i < n → f i = g i) : rowI n f = rowI n g := List.map_congr_left fun i hi => h i (List.mem_range.1 hi)
theorem rowI_zero (n : Nat) : rowI n (fun _ => 0) = List.replicate n 0 := by unfold rowI; rw [List.map_const', List.length_range]
def fromR (G : List Nat) (r : Nat) : Int := ((gN G r : Nat) : Int)
/-- *swap.state -/
structure SwS (w : World) (B P gf gn n : Nat) (G : List Nat) (N : Nat → Int) : Prop where
  hP : w.heap[P]? = some (.cells #[.slice (some ⟨gf, 0, none⟩) n n, .slice (some ⟨gn, 0, none⟩) n n] 84 (0, 0))
  f : OwnI w B 3 (.slice (some ⟨gf, 0, none⟩) n n) (rowI n (fromR G))
  k : OwnI w B 3 (.slice (some ⟨gn, 0, none⟩) n n) (rowI n N)
  pb : B ≤ P
  ne1 : P ≠ gf
  ne2 : P ≠ gn
  ne : gf ≠ gn
section
variable {w w' : World} {B P gf gn n : Nat} {G : List Nat} {N : Nat → Int}
theorem SwS.plt (h : SwS w B P gf gn n G N) : P < w.heap.size := (Array.getElem?_eq_some_iff.1 h.hP).1
theorem SwS.c0 (h : SwS w B P gf gn n G N) : w.cell? ⟨P, 0, none⟩ = some (.slice (some ⟨gf, 0, none⟩) n n) := by rw [cell_of_row w P 0 _ _ _ h.hP]; rfl
theorem SwS.c1 (h : SwS w B P gf gn n G N) : w.cell? ⟨P, 1, none⟩ = some (.slice (some ⟨gn, 0, none⟩) n n) := by rw [cell_of_row w P 1 _ _ _ h.hP]; rfl
theorem SwS.fAt (h : SwS w B P gf gn n G N) {j : Nat} (hj : j < n) : gf < w.heap.size ∧ B ≤ gf ∧ w.cell? ⟨gf, j, none⟩ = some (.int .i64 (gN G j : Nat)) ∧ w.frozen? ⟨gf, j, none⟩ = false := by
  obtain ⟨g, eg, hg1, hg2, _, hfz, hc⟩ := OwnI.at2 h.f (by rw [rowI_len]; omega)
  injection eg with eg; injection eg with eg
  subst eg
  refine ⟨hg2, hg1, ?_, hfz j⟩
  have := hc j (by rw [rowI_len]; exact hj)
  rwa [rowI_get] at this
theorem SwS.kAt (h : SwS w B P gf gn n G N) {j : Nat} (hj : j < n) : gn < w.heap.size ∧ B ≤ gn ∧ w.cell? ⟨gn, j, none⟩ = some (.int .i64 (N j)) ∧ w.frozen? ⟨gn, j, none⟩ = false := by
  obtain ⟨g, eg, hg1, hg2, _, hfz, hc⟩ := OwnI.at2 h.k (by rw [rowI_len]; omega)
  injection eg with eg; injection eg with eg
  subst eg
  refine ⟨hg2, hg1, ?_, hfz j⟩
  have := hc j (by rw [rowI_len]; exact hj)
  rwa [rowI_get] at this
theorem SwS.kept {row : Option Nat} (h : SwS w B P gf gn n G N) (hg : w.grownBy w' row) (h1 : row ≠ some P) (h2 : row ≠ some gf) (h3 : row ≠ some gn) : SwS w' B P gf gn n G N :=
  ⟨(hg.block P h.plt (fun e => h1 e.symm)).trans h.hP, h.f.kept hg (.inr (fun e => h2 e.symm)), h.k.kept hg (.inr (fun e => h3 e.symm)), h.pb, h.ne1, h.ne2, h.ne⟩
theorem SwS.alloc (h : SwS w B P gf gn n G N) (o : Obj) : SwS (w.alloc o) B P gf gn n G N := h.kept (World.grownBy_alloc w o none) (by simp) (by simp) (by simp)
theorem SwS.drewN (h : SwS w B P gf gn n G N) (m : Nat) : SwS (w.drewN m) B P gf gn n G N := ⟨h.hP, h.f, h.k, h.pb, h.ne1, h.ne2, h.ne⟩
theorem SwS.setF (h : SwS w B P gf gn n G N) (hl : G.length = n) {j : Nat} (hj : j < n) (x : Nat) : SwS (w.setCell ⟨gf, j, none⟩ (.int .i64 (x : Nat))) B P gf gn n (G.set j x) N := by
  refine ⟨(Below.heap_setCell w _ _ P h.ne1).trans h.hP, ?_, h.k.far (fun e => by
    have e : some gn = some gf := e
    injection e with e; exact h.ne e.symm) _, h.pb, h.ne1, h.ne2, h.ne⟩
  have := OwnI.set_ h.f (k := j) (by rw [rowI_len]; exact hj) (x : Int)
  rw [rowI_set] at this
  rw [rowI_congr (g := fun i => if i = j then ((x : Nat) : Int) else fromR G i) fun i _ => by unfold fromR; rw [gN_set (by omega)]; split <;> rfl]
  exact this
theorem SwS.setN (h : SwS w B P gf gn n G N) {j : Nat} (hj : j < n) (y : Int) : SwS (w.setCell ⟨gn, j, none⟩ (.int .i64 y)) B P gf gn n G (fun i => if i = j then y else N i) := by
  refine ⟨(Below.heap_setCell w _ _ P h.ne2).trans h.hP, h.f.far (fun e => by
    have e : some gf = some gn := e
    injection e with e; exact h.ne e) _, ?_, h.pb, h.ne1, h.ne2, h.ne⟩
  have := OwnI.set_ h.k (k := j) (by rw [rowI_len]; exact hj) y
  rw [rowI_set] at this
  exact this
theorem SwS.congr {G' : List Nat} {N' : Nat → Int} (h : SwS w B P gf gn n G N) (hG : ∀ i, i < n → gN G i = gN G' i) (hN : ∀ i, i < n → N i = N' i) : SwS w B P gf gn n G' N' :=
  ⟨h.hP, by rw [rowI_congr (g := fromR G) fun i hi => by unfold fromR; rw [hG i hi]]; exact h.f, by rw [rowI_congr (g := N) fun i hi => (hN i hi).symm]; exact h.k, h.pb, h.ne1, h.ne2, h.ne⟩
/-- A row of moves of the call's own, made behind the state. -/
theorem SwS.app {v : Value} {l : List Mv} {C : Nat} (h : SwS w B P gf gn n G N) (hO : OwnMv w C v l) (hP : P < C) (hf : gf < C) (hn : gn < C) (hg : w.grownBy w' v.ownBlock) : SwS w' B P gf gn n G N := by
  have key : ∀ x, x < C → v.ownBlock ≠ some x := fun x hx e => by
    have := (World.ownsRow.lt hO x e).1
    omega
  exact h.kept hg (key _ hP) (key _ hf) (key _ hn)
theorem own_farC {α : Type} {f : α → List Value} {size E C : Nat} {v : Value} {l : List α} {p : Addr} (hO : Own f size w C E v l) (hp : p.block < C) (u : Value) : Own f size (w.setCell p u) C E v l :=
  hO.far (fun e => by have := (World.ownsRow.lt hO _ e).1; omega) u
end
theorem sws_new (w : World) (B a b n : Nat) (ha : OwnI w B 3 (.slice (some ⟨a, 0, none⟩) n n) (List.replicate n 0)) (hb : OwnI w B 3 (.slice (some ⟨b, 0, none⟩) n n) (List.replicate n 0)) (hab : a ≠ b) (hB : B ≤ w.heap.size) :
    SwS (w.alloc (.cells #[.slice (some ⟨a, 0, none⟩) n n, .slice (some ⟨b, 0, none⟩) n n] 84)) B w.heap.size a b n (List.replicate n 0) (fun _ => 0) := by
  have la := (World.ownsRow.lt ha a rfl).2
  have lb := (World.ownsRow.lt hb b rfl).2
  refine ⟨heap_alloc_new w _, ?_, by rw [rowI_zero]; exact hb.alloc _, hB, by omega, by omega, hab⟩
  rw [rowI_congr (g := fun _ => 0) fun i hi => by unfold fromR gN; rw [List.getD_eq_getElem?_getD, List.getElem?_replicate, if_pos hi]; rfl, rowI_zero]
  exact ha.alloc _
/-- 'make([]int, n)' at the operation. -/
theorem wp_makeI {w : World} {o : Oper} {a : Act} {K : Act → World → Prop} {Q : Exit → Act → World → Prop} (lo c : Operand) (hop : o.op = Op.makeSlice 23 lo c)
    (base n : Nat) (hl : a.eval lo = .int .i64 (n : Int)) (hc : a.eval c = .int .i64 (n : Int)) (hn : n < 1000000) (hbase : base ≤ w.heap.size)
    (h : ∀ w', OwnI w' base 3 (.slice (some ⟨w.heap.size, 0, none⟩) n n) (List.replicate n 0) → w.grownBy w' none → K (a.put o.dst (.slice (some ⟨w.heap.size, 0, none⟩) n n)) w') : o.wp Try.prog a w K Q := by
  obtain ⟨i, hi, hz0, hz1, hz2⟩ := info_parts infoInt
  obtain ⟨w', hrun, r1, r2⟩ := run_make_full (P := Try.prog) w base 23 3 i (.int .i64 0) 1 Try.underlying23 hi hz0 hz1 .i64 .i64 n (by rw [hz2]; omega) (by unfold maxLen; omega) hbase
  unfold Oper.wp
  simp [execOp, hop, hl, hc, hrun, Result.andThen]
  refine h w' ?_ r2
  have e : (madeCells (Value.int .i64 0).cells (n * 1)).toList = (List.replicate n (0 : Int)).flatMap intCells := by
    rw [show (Value.int .i64 0).cells = #[.int .i64 0] from rfl, Nat.mul_one, toList_madeCells_one]
    clear r1 r2 hl hc h hrun
    induction n with
    | zero => rfl
    | succ n ih => rw [List.replicate_succ, List.replicate_succ, List.flatMap_cons, ← ih (by omega)]; rfl
  rw [e] at r1
  unfold OwnI Own
  rw [List.length_replicate]
  exact r1

/-! ## counting -/
def cntP (p : Nat → Bool) : Nat → Nat
  | 0 => 0
  | n + 1 => cntP p n + if p n then 1 else 0
theorem cntP_congr {p q : Nat → Bool} : ∀ {n : Nat}, (∀ i, i < n → p i = q i) → cntP p n = cntP q n
  | 0, _ => rfl
  | n + 1, h => by unfold cntP; rw [cntP_congr fun i hi => h i (by omega), h n (by omega)]
theorem cntP_le (p : Nat → Bool) : ∀ n, cntP p n ≤ n
  | 0 => Nat.le_refl _
  | n + 1 => by have := cntP_le p n; unfold cntP; split <;> omega
theorem cntP_pos {p : Nat → Bool} : ∀ {n : Nat}, 0 < cntP p n ↔ ∃ i, i < n ∧ p i = true
  | 0 => by unfold cntP; simp
  | n + 1 => by
    unfold cntP
    constructor
    · intro h
      by_cases hp : p n = true
      · exact ⟨n, by omega, hp⟩
      · rw [if_neg hp] at h
        obtain ⟨i, hi, hpi⟩ := cntP_pos.1 (by omega : 0 < cntP p n)
        exact ⟨i, by omega, hpi⟩
    · rintro ⟨i, hi, hpi⟩
      by_cases e : i = n
      · subst e; rw [if_pos hpi]; omega
      · have := (cntP_pos (p := p) (n := n)).2 ⟨i, by omega, hpi⟩
        omega
theorem cntP_zero {p : Nat → Bool} {n : Nat} (h : ∀ i, i < n → p i = false) : cntP p n = 0 := by
  rcases Nat.eq_zero_or_pos (cntP p n) with h0 | h0
  · exact h0
  · obtain ⟨i, hi, hp⟩ := cntP_pos.1 h0
    rw [h i hi] at hp; cases hp
/-- Who asks for r. -/
def asks (G : List Nat) (r i : Nat) : Bool := decide (gN G i = r ∧ i ≠ r)
def cntG (G : List Nat) (r k : Nat) : Nat := cntP (asks G r) k
end Go.Proofs.Ytiphhadhbokgmaa
