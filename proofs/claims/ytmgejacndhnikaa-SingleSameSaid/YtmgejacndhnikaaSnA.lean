/- SingleSame: what single's namer has on the heap. -/
import Derived.Test.YtmgejacndhnikaaSsaY
import Derived.Test.YtmgejacndhnikaaOwnBk
namespace Go.Proofs.Ytmgejacndhnikaa
set_option maxRecDepth 100000
open Go.RowKit

/-- A Join on the heap: the block of its row; its name; what comes. -/
structure RJ where
  f : Nat
  nm : Int
  fr : List Int
def RJ.cells (j : RJ) : List Value := [.int .i64 j.nm, .slice (some ⟨j.f, 0, none⟩) j.fr.length j.fr.length]
theorem rjCells_len (j : RJ) : j.cells.length = 2 := rfl
theorem rjCells_one (j : RJ) : ∀ u ∈ j.cells, u.oneCell' = true := by intro u hu; simp [RJ.cells] at hu; rcases hu with rfl | rfl <;> rfl
theorem infoJn : (Try.prog.info? 128).map (fun i => (i.zero, i.size, i.bytes)) = some (some (.agg #[.int .i64 0, .slice none 0 0]), 2, 32) := by kernel_rfl
def RJ.jn (j : RJ) : Jn := ⟨j.nm, j.fr⟩
/-- A Single on the heap. -/
structure RS where
  jv : Value
  js : List RJ
  cv : Value
  code : List Step
  test : Int
  thn : Int
  els : Int
  lv : Value
  last : List Int
def RS.cells (r : RS) : List Value := [r.jv, r.cv, .int .i64 r.test, .int .i64 r.thn, .int .i64 r.els, r.lv]
theorem rsCells_len (r : RS) : r.cells.length = 6 := rfl
def RS.sg (r : RS) : Sg := ⟨r.js.map RJ.jn, r.code, r.test, r.thn, r.els, r.last⟩
def frV (l : List Int) : Obj := .cells (l.map (.int .i64)).toArray 3 (0, 0)
theorem Own.same {α : Type} {f : α → List Value} {size base E : Nat} {w w' : World} {v : Value} {l : List α} (h : Own f size w base E v l) (hk : ∀ b, v.ownBlock = some b → w'.heap[b]? = w.heap[b]?) : Own f size w' base E v l := by
  refine ⟨h.1, ?_⟩
  rcases h.2 with h0 | ⟨g, cap, cur, h1, h2, h3, h4⟩
  · exact .inl h0
  · exact .inr ⟨g, cap, cur, h1, h2, (hk g (by rw [h1]; rfl)).trans h3, h4⟩
/-- What hangs on a Single: each block has its owner. -/
structure Sgl (w : World) (o : Nat → Nat × Nat) (B k : Nat) (r : RS) : Prop where
  jn : Own RJ.cells 2 w B 128 r.jv r.js
  jo : ∀ b, r.jv.ownBlock = some b → o b = (k + 1, 0)
  fr : ∀ m j, r.js[m]? = some j → B ≤ j.f ∧ w.heap[j.f]? = some (frV j.fr) ∧ o j.f = (k + 1, m + 3)
  cd : OwnSt w B 87 r.cv r.code
  co : ∀ b, r.cv.ownBlock = some b → o b = (k + 1, 1)
  ls : OwnI w B 3 r.lv r.last
  lo : ∀ b, r.lv.ownBlock = some b → o b = (k + 1, 2)
section
variable {w w' : World} {o o' : Nat → Nat × Nat} {B k : Nat} {r : RS}
theorem Sgl.keep (h : Sgl w o B k r) (hk : ∀ b, b < w.heap.size → (o b).1 = k + 1 → w'.heap[b]? = w.heap[b]?) : Sgl w' o B k r :=
  ⟨h.jn.same fun b hb => hk b (own_lt' h.jn b hb).2 (by rw [h.jo b hb]), h.jo,
   fun m j hj => by
     obtain ⟨h1, h2, h3⟩ := h.fr m j hj
     exact ⟨h1, (hk _ (lt_h h2) (by rw [h3])).trans h2, h3⟩,
   Own.same h.cd fun b hb => hk b (own_lt' h.cd b hb).2 (by rw [h.co b hb]), h.co,
   Own.same h.ls fun b hb => hk b (own_lt' h.ls b hb).2 (by rw [h.lo b hb]), h.lo⟩
theorem Sgl.retag (h : Sgl w o B k r) (ho : ∀ b, b < w.heap.size → o' b = o b) : Sgl w o' B k r :=
  ⟨h.jn, fun b hb => (ho b (own_lt' h.jn b hb).2).trans (h.jo b hb), fun m j hj => by
     obtain ⟨h1, h2, h3⟩ := h.fr m j hj
     exact ⟨h1, h2, (ho _ (lt_h h2)).trans h3⟩, h.cd, fun b hb => (ho b (own_lt' h.cd b hb).2).trans (h.co b hb), h.ls, fun b hb => (ho b (own_lt' h.ls b hb).2).trans (h.lo b hb)⟩
end
/-- What the namer reads, and what stays in its box. -/
structure Hdr where
  pv : Value
  nx : Value
  fm : Value
  jv : Value
  vars : Nat
  n : Nat
/-- The namer's state; single X is out of it. -/
structure NmX (w0 w : World) (H : Hdr) (T g : Nat) (o : Nat → Nat × Nat) (rs : List RS) (many done : Nat) (nv : Value) (ns : List Int) (X : Option Nat) : Prop where
  bel : Below w0.heap.size w0 w
  lo : w0.heap.size ≤ T ∧ w0.heap.size ≤ g
  tc : w.heap[T]? = some (.cells #[H.pv, H.nx, H.fm, H.jv, .int .i64 (H.vars : Nat), .int .i64 (many : Nat), .int .u32 (done : Nat), .slice (some ⟨g, 0, none⟩) H.n H.n] 110 (0, 0))
  gc : w.heap[g]? = some (.cells (rs.flatMap RS.cells).toArray 114 (0, 0))
  tg : o T = (0, 0) ∧ o g = (0, 1)
  len : rs.length = H.n
  at_ : ∀ k r, rs[k]? = some r → X ≠ some k → Sgl w o w0.heap.size k r
  nm : OwnI w w0.heap.size 3 nv ns
  no : ∀ b, nv.ownBlock = some b → o b = (0, 2)
abbrev nulV : Value := .slice none 0 0
section
variable {w0 w w' : World} {H : Hdr} {T g : Nat} {o o' : Nat → Nat × Nat} {rs : List RS} {many done : Nat} {nv : Value} {ns : List Int} {X : Option Nat}
theorem NmX.keep (h : NmX w0 w H T g o rs many done nv ns X) (hb : Below w0.heap.size w0 w') (hk : ∀ b, b < w.heap.size → w'.heap[b]? = w.heap[b]?) : NmX w0 w' H T g o rs many done nv ns X :=
  ⟨hb, h.lo, (hk _ (lt_h h.tc)).trans h.tc, (hk _ (lt_h h.gc)).trans h.gc, h.tg, h.len, fun k r hr hx => (h.at_ k r hr hx).keep fun b hb _ => hk b hb, Own.same h.nm fun b hb => hk b (own_lt' h.nm b hb).2, h.no⟩
theorem NmX.below (h : NmX w0 w H T g o rs many done nv ns X) (hb : Below w.heap.size w w') : NmX w0 w' H T g o rs many done nv ns X :=
  h.keep (h.bel.trans (hb.mono h.bel.size)) hb.block
theorem NmX.alloc (h : NmX w0 w H T g o rs many done nv ns X) (ob : Obj) : NmX w0 (w.alloc ob) H T g o rs many done nv ns X :=
  h.below ((Below.refl _ _).alloc (Nat.le_refl _) ob)
theorem NmX.drew (h : NmX w0 w H T g o rs many done nv ns X) : NmX w0 w.drew H T g o rs many done nv ns X := ⟨h.bel.drew, h.lo, h.tc, h.gc, h.tg, h.len, fun k r hr hx => (h.at_ k r hr hx).keep fun _ _ _ => rfl, h.nm, h.no⟩
theorem NmX.drewN (h : NmX w0 w H T g o rs many done nv ns X) (n : Nat) : NmX w0 (w.drewN n) H T g o rs many done nv ns X := ⟨⟨h.bel.os, h.bel.tape, h.bel.output, h.bel.size, h.bel.block⟩, h.lo, h.tc, h.gc, h.tg, h.len, fun k r hr hx => (h.at_ k r hr hx).keep fun _ _ _ => rfl, h.nm, h.no⟩
theorem NmX.retag (h : NmX w0 w H T g o rs many done nv ns X) (ho : ∀ b, b < w.heap.size → o' b = o b) : NmX w0 w H T g o' rs many done nv ns X :=
  ⟨h.bel, h.lo, h.tc, h.gc, ⟨(ho _ (lt_h h.tc)).trans h.tg.1, (ho _ (lt_h h.gc)).trans h.tg.2⟩, h.len, fun k r hr hx => (h.at_ k r hr hx).retag ho, h.nm, fun b hb => (ho b (own_lt' h.nm b hb).2).trans (h.no b hb)⟩
theorem NmX.out (h : NmX w0 w H T g o rs many done nv ns none) (i : Nat) : NmX w0 w H T g o rs many done nv ns (some i) :=
  ⟨h.bel, h.lo, h.tc, h.gc, h.tg, h.len, fun k r hr _ => h.at_ k r hr (by simp), h.nm, h.no⟩
/-- Single i's blocks are turned, and none else. -/
theorem NmX.step {i : Nat} (h : NmX w0 w H T g o rs many done nv ns (some i)) (hb : Below w0.heap.size w0 w') (hk : ∀ b, b < w.heap.size → (o b).1 ≠ i + 1 → w'.heap[b]? = w.heap[b]?) : NmX w0 w' H T g o rs many done nv ns (some i) :=
  ⟨hb, h.lo, (hk _ (lt_h h.tc) (by rw [h.tg.1]; simp)).trans h.tc, (hk _ (lt_h h.gc) (by rw [h.tg.2]; simp)).trans h.gc, h.tg, h.len,
    fun k r hr hx => (h.at_ k r hr hx).keep fun b hb ho => hk b hb (by rw [ho]; intro e; exact hx (by congr 1; omega)), Own.same h.nm fun b hb => hk b (own_lt' h.nm b hb).2 (by rw [h.no b hb]; simp), h.no⟩
theorem flatRS_set {j : Nat} (hj : j < 6) {u : Value} {x' : RS} : ∀ {rs : List RS} {i : Nat} {x : RS}, rs[i]? = some x → x'.cells = x.cells.set j u → (rs.set i x').flatMap RS.cells = (rs.flatMap RS.cells).set (i * 6 + j) u
  | [], _, _, h, _ => by simp at h
  | y :: r, 0, x, h, hc => by
    have e : y = x := by simpa using h
    subst e
    have hl : j < y.cells.length := by rw [rsCells_len]; exact hj
    rw [List.set_cons_zero, List.flatMap_cons, List.flatMap_cons, hc, Nat.zero_mul, Nat.zero_add, List.set_append_left _ _ hl]
  | y :: r, i + 1, x, h, hc => by
    have ih := flatRS_set hj (rs := r) (i := i) (by simpa using h) hc
    rw [List.set_cons_succ, List.flatMap_cons, List.flatMap_cons, ih, List.set_append_right _ _ (by rw [rsCells_len]; omega), rsCells_len]
    congr 2
    omega
/-- Single i's cell j is stored, and single i is as told. -/
theorem NmX.gset {i : Nat} (h : NmX w0 w H T g o rs many done nv ns (some i)) {j : Nat} {u : Value} {x x' : RS} (hx : rs[i]? = some x) (hj : j < 6) (hc : x'.cells = x.cells.set j u) (hS : Sgl w o w0.heap.size i x') :
    NmX w0 (w.setCell ⟨g, i * 6 + j, none⟩ u) H T g o (rs.set i x') many done nv ns none := by
  have hk : ∀ b, b ≠ g → (w.setCell ⟨g, i * 6 + j, none⟩ u).heap[b]? = w.heap[b]? := fun b hb => Below.heap_setCell w ⟨g, i * 6 + j, none⟩ u b hb
  have ne : ∀ b t, o b = t → t ≠ (0, 1) → b ≠ g := fun b t e hn e2 => by subst e2; exact hn (e.symm.trans h.tg.2)
  refine ⟨h.bel.setCell (p := ⟨g, i * 6 + j, none⟩) h.lo.2 u, h.lo, (hk T (ne T _ h.tg.1 (by simp))).trans h.tc, ?_, h.tg, by rw [List.length_set]; exact h.len, fun k r hr _ => ?_, Own.same h.nm fun b hb => hk b (ne b _ (h.no b hb) (by simp)), h.no⟩
  · rw [heapSetCell w g (i * 6 + j) u _ _ h.gc, flatRS_set hj hx hc]
    simp
  · have hS' : ∀ k r, Sgl w o w0.heap.size k r → Sgl (w.setCell ⟨g, i * 6 + j, none⟩ u) o w0.heap.size k r := fun k r hs => hs.keep fun b _ ho => hk b (fun e => by subst e; rw [h.tg.2] at ho; simp at ho)
    by_cases e : i = k
    · subst e
      rw [List.getElem?_set_self (List.getElem?_eq_some_iff.1 hx).1] at hr
      injection hr with hr
      subst hr
      exact hS' _ _ hS
    · rw [List.getElem?_set_ne e] at hr
      exact hS' _ _ (h.at_ k r hr (fun e2 => by injection e2 with e2; exact e e2))
/-- The call's names. -/
theorem NmX.names (h : NmX w0 w H T g o rs many done nv ns X) (hb : Below w.heap.size w w') {v : Value} {l : List Int} (hO : OwnI w' w.heap.size 3 v l) : ∃ o', NmX w0 w' H T g o' rs many done v l X := by
  have h1 := (h.retag (o' := fun b => if w.heap.size ≤ b then (0, 2) else o b) (fun b hb => by rw [if_neg (by omega)])).below hb
  exact ⟨_, ⟨h1.bel, h1.lo, h1.tc, h1.gc, h1.tg, h1.len, h1.at_, Own.base_ hO h.bel.size, fun b hb => by rw [if_pos (own_lt' hO b hb).1]⟩⟩
theorem NmX.noname (h : NmX w0 w H T g o rs many done nv ns X) : NmX w0 w H T g o rs many done nulV [] X :=
  ⟨h.bel, h.lo, h.tc, h.gc, h.tg, h.len, h.at_, Own.nil_ _ _ _, fun b hb => by cases hb⟩
/-- names[k] = y -/
theorem NmX.setN {nb n c : Nat} (h : NmX w0 w H T g o rs many done (.slice (some ⟨nb, 0, none⟩) n c) ns X) {k : Nat} (hk : k < ns.length) (y : Int) : NmX w0 (w.setCell ⟨nb, k, none⟩ (.int .i64 y)) H T g o rs many done (.slice (some ⟨nb, 0, none⟩) n c) (ns.set k y) X := by
  have hn : o nb = (0, 2) := h.no nb rfl
  have hB := (own_lt' h.nm nb rfl).1
  have hh : ∀ b, b ≠ nb → (w.setCell ⟨nb, k, none⟩ (.int .i64 y)).heap[b]? = w.heap[b]? := fun b hb => Below.heap_setCell w ⟨nb, k, none⟩ _ b hb
  refine ⟨h.bel.setCell (p := ⟨nb, k, none⟩) hB _, h.lo, (hh T (fun e => ?_)).trans h.tc, (hh g (fun e => ?_)).trans h.gc, h.tg, h.len, fun i r hr hx => (h.at_ i r hr hx).keep fun b _ ho => hh b (fun e => ?_), OwnI.set_ h.nm hk y, h.no⟩
  · have := h.tg.1; rw [e, hn] at this; simp at this
  · have := h.tg.2; rw [e, hn] at this; simp at this
  · subst e; rw [hn] at ho; simp at ho
theorem NmX.setT (h : NmX w0 w H T g o rs many done nv ns X) {j : Nat} {u : Value} {many' done' : Nat} (hc : #[H.pv, H.nx, H.fm, H.jv, .int .i64 (H.vars : Nat), .int .i64 (many : Nat), .int .u32 (done : Nat), .slice (some ⟨g, 0, none⟩) H.n H.n].setIfInBounds j u = #[H.pv, H.nx, H.fm, H.jv, .int .i64 (H.vars : Nat), .int .i64 (many' : Nat), .int .u32 (done' : Nat), .slice (some ⟨g, 0, none⟩) H.n H.n]) :
    NmX w0 (w.setCell ⟨T, j, none⟩ u) H T g o rs many' done' nv ns X := by
  have hh : ∀ b, b ≠ T → (w.setCell ⟨T, j, none⟩ u).heap[b]? = w.heap[b]? := fun b hb => Below.heap_setCell w ⟨T, j, none⟩ _ b hb
  have ne : ∀ b t, o b = t → t ≠ (0, 0) → b ≠ T := fun b t e hn e2 => by subst e2; exact hn (e.symm.trans h.tg.1)
  refine ⟨h.bel.setCell (p := ⟨T, j, none⟩) h.lo.1 _, h.lo, ?_, (hh g (ne g _ h.tg.2 (by simp))).trans h.gc, h.tg, h.len, fun i r hr hx => (h.at_ i r hr hx).keep fun b _ ho => hh b (fun e => ?_), Own.same h.nm fun b hb => hh b (ne b _ (h.no b hb) (by simp)), h.no⟩
  · rw [heapSetCell w T j u _ _ h.tc, hc]
  · subst e; rw [h.tg.1] at ho; simp at ho
theorem NmX.setM (h : NmX w0 w H T g o rs many done nv ns X) (m : Nat) : NmX w0 (w.setCell ⟨T, 5, none⟩ (.int .i64 (m : Nat))) H T g o rs m done nv ns X := h.setT rfl
theorem NmX.setD (h : NmX w0 w H T g o rs many done nv ns X) (d : Nat) : NmX w0 (w.setCell ⟨T, 6, none⟩ (.int .u32 (d : Nat))) H T g o rs many d nv ns X := h.setT rfl
theorem NmX.t (h : NmX w0 w H T g o rs many done nv ns X) : (w.cell? ⟨T, 0, none⟩ = some H.pv ∧ w.cell? ⟨T, 1, none⟩ = some H.nx ∧ w.cell? ⟨T, 2, none⟩ = some H.fm ∧ w.cell? ⟨T, 3, none⟩ = some H.jv) ∧ w.cell? ⟨T, 5, none⟩ = some (.int .i64 (many : Nat)) ∧ w.cell? ⟨T, 6, none⟩ = some (.int .u32 (done : Nat)) ∧ w.cell? ⟨T, 7, none⟩ = some (.slice (some ⟨g, 0, none⟩) H.n H.n) ∧ ∀ j, w.frozen? ⟨T, j, none⟩ = false :=
  ⟨⟨cell_h h.tc 0, cell_h h.tc 1, cell_h h.tc 2, cell_h h.tc 3⟩, cell_h h.tc 5, cell_h h.tc 6, cell_h h.tc 7, fz_h h.tc⟩
theorem NmX.g_ (h : NmX w0 w H T g o rs many done nv ns X) {i : Nat} {x : RS} (hx : rs[i]? = some x) : (w.cell? ⟨g, i * 6, none⟩ = some x.jv ∧ w.cell? ⟨g, i * 6 + 1, none⟩ = some x.cv ∧ w.cell? ⟨g, i * 6 + 2, none⟩ = some (.int .i64 x.test) ∧ w.cell? ⟨g, i * 6 + 5, none⟩ = some x.lv) ∧ ∀ j, w.frozen? ⟨g, j, none⟩ = false := by
  have key : ∀ j, j < 6 → w.cell? ⟨g, i * 6 + j, none⟩ = x.cells[j]? := fun j hj => by
    rw [cell_h h.gc, List.getElem?_toArray]
    exact flatMap_get rsCells_len rs i x hx j hj
  exact ⟨⟨by simpa [RS.cells] using key 0 (by decide), by simpa [RS.cells] using key 1 (by decide), by simpa [RS.cells] using key 2 (by decide), by simpa [RS.cells] using key 5 (by decide)⟩, fz_h h.gc⟩
/-- A store into a block that is no one's. -/
theorem NmX.free (h : NmX w0 w H T g o rs many done nv ns X) {S : Nat} (hS : o S = (0, 9)) (hB : w0.heap.size ≤ S) (j : Nat) (u : Value) : NmX w0 (w.setCell ⟨S, j, none⟩ u) H T g o rs many done nv ns X := by
  have hh : ∀ b, b ≠ S → (w.setCell ⟨S, j, none⟩ u).heap[b]? = w.heap[b]? := fun b hb => Below.heap_setCell w ⟨S, j, none⟩ _ b hb
  refine ⟨h.bel.setCell (p := ⟨S, j, none⟩) hB _, h.lo, (hh T (fun e => ?_)).trans h.tc, (hh g (fun e => ?_)).trans h.gc, h.tg, h.len, fun i r hr hx => (h.at_ i r hr hx).keep fun b _ ho => hh b (fun e => ?_), Own.same h.nm fun b hb => hh b (fun e => ?_), h.no⟩
  · have := h.tg.1; rw [e, hS] at this; simp at this
  · have := h.tg.2; rw [e, hS] at this; simp at this
  · rw [e, hS] at ho; simp at ho
  · have := h.no b hb; rw [e, hS] at this; simp at this
/-- The next block gets an owner. -/
theorem NmX.owner (h : NmX w0 w H T g o rs many done nv ns X) (t : Nat × Nat) : ∃ o', o' w.heap.size = t ∧ NmX w0 w H T g o' rs many done nv ns X :=
  ⟨fun b => if b = w.heap.size then t else o b, if_pos rfl, h.retag fun b hb => if_neg (by omega)⟩
/-- b.Test = t -/
theorem NmX.setTest (h : NmX w0 w H T g o rs many done nv ns none) {i : Nat} {x : RS} (hx : rs[i]? = some x) (t : Int) : NmX w0 (w.setCell ⟨g, i * 6 + 2, none⟩ (.int .i64 t)) H T g o (rs.set i { x with test := t }) many done nv ns none := by
  have hS := h.at_ i x hx (by simp)
  exact (h.out i).gset (j := 2) hx (by decide) rfl ⟨hS.jn, hS.jo, hS.fr, hS.cd, hS.co, hS.ls, hS.lo⟩
/-- b.Last = names -/
theorem NmX.hang (h : NmX w0 w H T g o rs many done nv ns none) {i : Nat} {x : RS} (hx : rs[i]? = some x) : ∃ o', NmX w0 (w.setCell ⟨g, i * 6 + 5, none⟩ nv) H T g o' (rs.set i { x with lv := nv, last := ns }) many done nulV [] none := by
  have hS := h.at_ i x hx (by simp)
  -- the names' block goes to single i
  obtain ⟨o', ho'⟩ : ∃ o' : Nat → Nat × Nat, o' = fun b => if nv.ownBlock = some b then (i + 1, 2) else o b := ⟨_, rfl⟩
  have hne : ∀ b t, o b = t → t ≠ (0, 2) → o' b = t := fun b t e hn => by
    rw [ho']
    show (if nv.ownBlock = some b then _ else _) = _
    rw [if_neg (fun e2 => hn (e.symm.trans (h.no b e2)))]
    exact e
  have hSg : ∀ k r, Sgl w o w0.heap.size k r → Sgl w o' w0.heap.size k r := fun k r hs =>
    ⟨hs.jn, fun b hb => hne b _ (hs.jo b hb) (by simp), fun m j hj => by
      obtain ⟨a1, a2, a3⟩ := hs.fr m j hj
      exact ⟨a1, a2, hne _ _ a3 (by simp)⟩, hs.cd, fun b hb => hne b _ (hs.co b hb) (by simp), hs.ls, fun b hb => hne b _ (hs.lo b hb) (by simp)⟩
  have h1 : NmX w0 w H T g o' rs many done nulV [] none :=
    ⟨h.bel, h.lo, h.tc, h.gc, ⟨hne _ _ h.tg.1 (by simp), hne _ _ h.tg.2 (by simp)⟩, h.len, fun k r hr hx => hSg k r (h.at_ k r hr hx), Own.nil_ _ _ _, fun b hb => by cases hb⟩
  have h2 := hSg i x hS
  refine ⟨o', (h1.out i).gset (j := 5) hx (by decide) rfl ⟨h2.jn, h2.jo, h2.fr, h2.cd, h2.co, h.nm, fun b hb => ?_⟩⟩
  rw [ho']
  show (if nv.ownBlock = some b then _ else _) = _
  rw [if_pos hb]
/-- A Join more. -/
theorem NmX.join (h : NmX w0 w H T g o rs many done nv ns none) {i : Nat} {x : RS} (hx : rs[i]? = some x) {f m : Nat} {nt : Int} (hf : w.heap[f]? = some (frV (List.replicate m 0))) (hfo : o f = (i + 1, x.js.length + 3)) (hfB : w0.heap.size ≤ f) {S : Nat} (c : Nat) (hnew : w.heap[S]? = some (.cells #[.int .i64 nt, .slice (some ⟨f, 0, none⟩) m m] 128 (0, 0))) (hl : x.js.length ≤ 1000) :
    ∃ A n c' w' o', (Builtin.append_ #[112, 112] 112 #[x.jv, .slice (some ⟨S, 0, none⟩) 1 c]).run Try.prog w = .ok (.slice A n c') w' ∧ (w'.cell? ⟨g, i * 6, none⟩ = some x.jv ∧ w'.frozen? ⟨g, i * 6, none⟩ = false) ∧ ((∀ b, b < w.heap.size → (o b).1 ≠ i + 1 → w'.heap[b]? = w.heap[b]?) ∧ Below w0.heap.size w0 w') ∧
      NmX w0 (w'.setCell ⟨g, i * 6, none⟩ (.slice A n c')) H T g o' (rs.set i { x with jv := .slice A n c', js := x.js ++ [⟨f, nt, List.replicate m 0⟩] }) many done nv ns none := by
  have hS := h.at_ i x hx (by simp)
  obtain ⟨v', w', hr, hO, hg, hat⟩ := run_app1 (P := Try.prog) (w := w) 112 112 RJ.cells 2 32 128 (.agg #[.int .i64 0, .slice none 0 0]) Try.underlying112 infoJn rfl (by decide) rjCells_len rjCells_one w0.heap.size x.jv x.js ⟨f, nt, List.replicate m 0⟩ hS.jn S c (by
    intro j hj
    rw [cell_h hnew j]
    match j, hj with
    | 0, _ => rfl
    | 1, _ => show some _ = some _; rw [List.length_replicate]; rfl) (by unfold maxLen; omega) (by omega) h.bel.size
  obtain ⟨A, c', e, -⟩ := Own.form rjCells_len hO
  subst e
  generalize (x.js ++ [(⟨f, nt, List.replicate m 0⟩ : RJ)]).length = n at *
  have hbel : Below w0.heap.size w0 w' := h.bel.grown hg h.bel.size (fun k e => (own_lt' hS.jn k e).1)
  have h1 := ((h.retag (o' := fun b => if b = w.heap.size then (i + 1, 0) else o b) (fun b hb => by rw [if_neg (by omega)])).out i).step hbel (fun b hb ho => hg.block b hb (fun e => ho (by
    show (if b = w.heap.size then _ else o b).1 = _
    rw [if_neg (by omega), hS.jo b e.symm])))
  have hS1 := hS.retag (o' := fun b => if b = w.heap.size then (i + 1, 0) else o b) (fun b hb => by rw [if_neg (by omega)])
  have hoth : ∀ b t, b < w.heap.size → o b = (i + 1, t + 1) → w'.heap[b]? = w.heap[b]? := fun b t hb ho => hg.block b hb (fun e => by
    have := hS.jo b e.symm
    rw [ho] at this
    simp at this)
  obtain ⟨⟨c0, -⟩, -⟩ := h.g_ hx
  have hgc := (hg.block g (lt_h h.gc) (fun e => by have := hS.jo g e.symm; rw [h.tg.2] at this; simp at this)).trans h.gc
  refine ⟨A, n, c', w', fun b => if b = w.heap.size then (i + 1, 0) else o b, hr, ⟨by rw [cell_h hgc, ← cell_h h.gc]; exact c0, fz_h hgc _⟩, ⟨fun b hb ho => hg.block b hb (fun e => ho (by rw [hS.jo b e.symm])), hbel⟩, ?_⟩
  have := h1.gset (j := 0) (u := .slice A n c') (x' := { x with jv := .slice A n c', js := x.js ++ [⟨f, nt, List.replicate m 0⟩] }) hx (by decide) rfl ⟨hO, fun b hb => ?_, fun k j hj => ?_, Own.same hS1.cd fun b hb => hoth b 0 (own_lt' hS.cd b hb).2 (hS.co b hb), hS1.co, Own.same hS1.ls fun b hb => hoth b 1 (own_lt' hS.ls b hb).2 (hS.lo b hb), hS1.lo⟩
  · exact this
  · show (if b = w.heap.size then _ else o b) = _
    by_cases e : b = w.heap.size
    · rw [if_pos e]
    · rw [if_neg e]
      rcases hat with e2 | e2
      · exact hS.jo b (e2.symm.trans hb)
      · exact absurd (by have := e2.symm.trans hb; injection this with this; exact this.symm) e
  · rcases Nat.lt_or_ge k x.js.length with hk | hk
    · rw [List.getElem?_append_left hk] at hj
      obtain ⟨a1, a2, a3⟩ := hS1.fr k j hj
      obtain ⟨b1, b2, b3⟩ := hS.fr k j hj
      exact ⟨a1, (hoth _ (k + 2) (lt_h a2) b3).trans a2, a3⟩
    · rw [List.getElem?_append_right hk] at hj
      match e : k - x.js.length, hj with
      | 0, hj =>
        simp at hj
        subst hj
        refine ⟨hfB, (hoth _ (x.js.length + 2) (lt_h hf) hfo).trans hf, ?_⟩
        show (if f = w.heap.size then _ else o f) = _
        rw [if_neg (by have := lt_h hf; omega), hfo, show k = x.js.length by omega]
      | q + 1, hj => simp at hj
/-- A step more. -/
theorem NmX.step1 (h : NmX w0 w H T g o rs many done nv ns none) {i : Nat} {x : RS} (hx : rs[i]? = some x) (s : Step) {S : Nat} (c : Nat) (hnew : w.heap[S]? = some (.cells s.cells.toArray 87 (0, 0))) (hl : x.code.length ≤ 1000) :
    ∃ A n c' w' o', (Builtin.append_ #[48, 48] 48 #[x.cv, .slice (some ⟨S, 0, none⟩) 1 c]).run Try.prog w = .ok (.slice A n c') w' ∧ (w'.cell? ⟨g, i * 6 + 1, none⟩ = some x.cv ∧ w'.frozen? ⟨g, i * 6 + 1, none⟩ = false) ∧ ((∀ b, b < w.heap.size → (o b).1 ≠ i + 1 → w'.heap[b]? = w.heap[b]?) ∧ Below w0.heap.size w0 w') ∧
      NmX w0 (w'.setCell ⟨g, i * 6 + 1, none⟩ (.slice A n c')) H T g o' (rs.set i { x with cv := .slice A n c', code := x.code ++ [s] }) many done nv ns none := by
  have hS := h.at_ i x hx (by simp)
  obtain ⟨v', w', hr, hO, hg, hat⟩ := run_app1 (P := Try.prog) (w := w) 48 48 Step.cells 5 40 87 (Step.mk 0 0 0 0 0).agg Try.underlying48 infoStep rfl (by decide) stepCells_len stepCells_one w0.heap.size x.cv x.code s hS.cd S c (by
    intro j hj
    rw [cell_h hnew j, List.getElem?_toArray]) (by unfold maxLen; omega) (by omega) h.bel.size
  obtain ⟨A, c', e, -⟩ := Own.form stepCells_len hO
  subst e
  generalize (x.code ++ [s]).length = n at *
  have hbel : Below w0.heap.size w0 w' := h.bel.grown hg h.bel.size (fun k e => (own_lt' hS.cd k e).1)
  have h1 := ((h.retag (o' := fun b => if b = w.heap.size then (i + 1, 1) else o b) (fun b hb => by rw [if_neg (by omega)])).out i).step hbel (fun b hb ho => hg.block b hb (fun e => ho (by
    show (if b = w.heap.size then _ else o b).1 = _
    rw [if_neg (by omega), hS.co b e.symm])))
  have hS1 := hS.retag (o' := fun b => if b = w.heap.size then (i + 1, 1) else o b) (fun b hb => by rw [if_neg (by omega)])
  have hoth : ∀ b t, b < w.heap.size → o b = (i + 1, t) → t ≠ 1 → w'.heap[b]? = w.heap[b]? := fun b t hb ho ht => hg.block b hb (fun e => by
    have := hS.co b e.symm
    rw [ho] at this
    simp at this
    exact ht this)
  obtain ⟨⟨-, c0, -⟩, -⟩ := h.g_ hx
  have hgc := (hg.block g (lt_h h.gc) (fun e => by have := hS.co g e.symm; rw [h.tg.2] at this; simp at this)).trans h.gc
  refine ⟨A, n, c', w', fun b => if b = w.heap.size then (i + 1, 1) else o b, hr, ⟨by rw [cell_h hgc, ← cell_h h.gc]; exact c0, fz_h hgc _⟩, ⟨fun b hb ho => hg.block b hb (fun e => ho (by rw [hS.co b e.symm])), hbel⟩, ?_⟩
  exact h1.gset (j := 1) (u := .slice A n c') (x' := { x with cv := .slice A n c', code := x.code ++ [s] }) hx (by decide) rfl ⟨Own.same hS1.jn fun b hb => hoth b 0 (own_lt' hS.jn b hb).2 (hS.jo b hb) (by simp), hS1.jo, fun k j hj => by
    obtain ⟨a1, a2, a3⟩ := hS1.fr k j hj
    obtain ⟨b1, b2, b3⟩ := hS.fr k j hj
    exact ⟨a1, (hoth _ (k + 3) (lt_h a2) b3 (by omega)).trans a2, a3⟩, hO, fun b hb => by
    show (if b = w.heap.size then _ else o b) = _
    by_cases e : b = w.heap.size
    · rw [if_pos e]
    · rw [if_neg e]
      rcases hat with e2 | e2
      · exact hS.co b (e2.symm.trans hb)
      · exact absurd (by have := e2.symm.trans hb; injection this with this; exact this.symm) e, Own.same hS1.ls fun b hb => hoth b 2 (own_lt' hS.ls b hb).2 (hS.lo b hb) (by simp), hS1.lo⟩
/-- A Join gets what comes. -/
theorem NmX.fill (h : NmX w0 w H T g o rs many done nv ns none) {i : Nat} {x : RS} (hx : rs[i]? = some x) {m : Nat} {j : RJ} (hj : x.js[m]? = some j) (y : Nat) (v : Int) :
    NmX w0 (w.setCell ⟨j.f, y, none⟩ (.int .i64 v)) H T g o (rs.set i { x with js := x.js.set m ⟨j.f, j.nm, j.fr.set y v⟩ }) many done nv ns none := by
  have hS := h.at_ i x hx (by simp)
  obtain ⟨f1, f2, f3⟩ := hS.fr m j hj
  have hh : ∀ b, b ≠ j.f → (w.setCell ⟨j.f, y, none⟩ (.int .i64 v)).heap[b]? = w.heap[b]? := fun b hb => Below.heap_setCell w ⟨j.f, y, none⟩ _ b hb
  have h1 := (h.out i).step (h.bel.setCell (p := ⟨j.f, y, none⟩) f1 (.int .i64 v)) (fun b _ ho => hh b (fun e => by subst e; rw [f3] at ho; exact ho rfl))
  have hml := (List.getElem?_eq_some_iff.1 hj).1
  have hcells : (x.js.set m ⟨j.f, j.nm, j.fr.set y v⟩).flatMap RJ.cells = x.js.flatMap RJ.cells := by
    have : ∀ (l : List RJ) (k : Nat), l[k]? = some j → (l.set k ⟨j.f, j.nm, j.fr.set y v⟩).flatMap RJ.cells = l.flatMap RJ.cells := by
      intro l
      induction l with
      | nil => intro k hk; simp at hk
      | cons q l ih =>
        intro k hk
        match k, hk with
        | 0, hk =>
          have e : q = j := by simpa using hk
          subst e
          rw [List.set_cons_zero, List.flatMap_cons, List.flatMap_cons]
          unfold RJ.cells
          dsimp only
          rw [List.length_set]
        | k + 1, hk =>
          rw [List.set_cons_succ, List.flatMap_cons, List.flatMap_cons, ih k (by simpa using hk)]
    exact this x.js m hj
  have hjn : Own RJ.cells 2 (w.setCell ⟨j.f, y, none⟩ (.int .i64 v)) w0.heap.size 128 x.jv (x.js.set m ⟨j.f, j.nm, j.fr.set y v⟩) := by
    have := Own.same hS.jn (w' := w.setCell ⟨j.f, y, none⟩ (.int .i64 v)) (fun b hb => hh b (fun e => by
      have := hS.jo b hb
      rw [e, f3] at this
      simp at this))
    unfold Own at this ⊢
    rw [hcells, List.length_set]
    exact this
  have hS2 : Sgl (w.setCell ⟨j.f, y, none⟩ (.int .i64 v)) o w0.heap.size i { x with js := x.js.set m ⟨j.f, j.nm, j.fr.set y v⟩ } := by
    refine ⟨hjn, hS.jo, fun k q hq => ?_, Own.same hS.cd fun b hb => hh b (fun e => ?_), hS.co, Own.same hS.ls fun b hb => hh b (fun e => ?_), hS.lo⟩
    · by_cases e : m = k
      · subst e
        have hq : (x.js.set m ⟨j.f, j.nm, j.fr.set y v⟩)[m]? = some q := hq
        rw [List.getElem?_set_self hml] at hq
        injection hq with hq
        subst hq
        refine ⟨f1, ?_, f3⟩
        show (w.setCell ⟨j.f, y, none⟩ (.int .i64 v)).heap[j.f]? = _
        rw [heapSetCell w j.f y (.int .i64 v) _ _ f2]
        unfold frV
        simp [List.map_set]
      · have hq : (x.js.set m ⟨j.f, j.nm, j.fr.set y v⟩)[k]? = some q := hq
        rw [List.getElem?_set_ne e] at hq
        obtain ⟨a1, a2, a3⟩ := hS.fr k q hq
        refine ⟨a1, (hh _ (fun e2 => ?_)).trans a2, a3⟩
        rw [e2, f3] at a3
        simp at a3
        omega
    · have := hS.co b hb
      rw [e, f3] at this
      simp at this
    · have := hS.lo b hb
      rw [e, f3] at this
      simp at this
  -- cell j of the block of Singles stays as it is
  have hgn : g ≠ j.f := fun e => by have := h.tg.2; rw [e, f3] at this; simp at this
  refine ⟨h1.bel, h1.lo, h1.tc, ?_, h1.tg, by rw [List.length_set]; exact h1.len, fun k r hr _ => ?_, h1.nm, h1.no⟩
  · rw [h1.gc]
    have := flatRS_set (j := 0) (by decide) (u := x.jv) (x' := { x with js := x.js.set m ⟨j.f, j.nm, j.fr.set y v⟩ }) hx rfl
    rw [this]
    have hget := flatMap_get rsCells_len rs i x hx 0 (by decide)
    have e : x.cells[0]? = some x.jv := rfl
    rw [e] at hget
    obtain ⟨hlt, he⟩ := List.getElem?_eq_some_iff.1 hget
    rw [← he, List.set_getElem_self]
  · by_cases e : i = k
    · subst e
      rw [List.getElem?_set_self (List.getElem?_eq_some_iff.1 hx).1] at hr
      injection hr with hr
      subst hr
      exact hS2
    · rw [List.getElem?_set_ne e] at hr
      exact h1.at_ k r hr (fun e2 => by injection e2 with e2; exact e e2)
theorem NmX.jcell (h : NmX w0 w H T g o rs many done nv ns none) {i : Nat} {x : RS} (hx : rs[i]? = some x) {m : Nat} {j : RJ} (hj : x.js[m]? = some j) :
    ∃ b c, x.jv = .slice (some ⟨b, 0, none⟩) x.js.length c ∧ w.cell? ⟨b, m * 2, none⟩ = some (.int .i64 j.nm) ∧ w.cell? ⟨b, m * 2 + 1, none⟩ = some (.slice (some ⟨j.f, 0, none⟩) j.fr.length j.fr.length) ∧ (∀ y, y < j.fr.length → ∃ v, w.cell? ⟨j.f, y, none⟩ = some v) ∧ ∀ y, w.frozen? ⟨j.f, y, none⟩ = false := by
  have hS := h.at_ i x hx (by simp)
  obtain ⟨f1, f2, f3⟩ := hS.fr m j hj
  obtain ⟨hml, he⟩ := List.getElem?_eq_some_iff.1 hj
  obtain ⟨b, c, e, -, -, -, -⟩ := Own.some_ hS.jn (by omega)
  have hO := hS.jn
  rw [e] at hO
  have key := fun q hq => Own.cell_ rjCells_len hO hml (j := q) hq
  rw [he] at key
  refine ⟨b, c, e, by simpa [RJ.cells] using key 0 (by decide), by simpa [RJ.cells] using key 1 (by decide), fun y hy => ?_, fz_h f2⟩
  exact ⟨.int .i64 j.fr[y], by rw [cell_h f2]; simp [hy]⟩
/-- What the namer leaves reads. -/
theorem NmX.rd (h : NmX w0 w H T g o rs many done nv ns none) : RdSg w (some ⟨g, 0, none⟩) (rs.map RS.sg) := fun hn => by
  refine ⟨g, 0, rfl, lt_h h.gc, fun k s hs => ?_⟩
  rw [List.getElem?_map] at hs
  obtain ⟨x, hx, rfl⟩ := Option.map_eq_some_iff.1 hs
  have hS := h.at_ k x hx (by simp)
  have key : ∀ j, j < 6 → w.cell? ⟨g, 0 + k * 6 + j, none⟩ = x.cells[j]? := fun j hj => by
    rw [cell_h h.gc, List.getElem?_toArray, Nat.zero_add]
    exact flatMap_get rsCells_len rs k x hx j hj
  obtain ⟨A1, c1, e1, r1, -⟩ := Own.form rjCells_len hS.jn
  obtain ⟨A2, c2, e2, r2, -⟩ := Own.form stepCells_len hS.cd
  obtain ⟨A3, c3, e3, r3⟩ := OwnI.rd hS.ls
  refine ⟨A1, c1, A2, c2, A3, c3, ?_, ?_, ?_, ?_, ?_, ?_, ?_, r2, r3⟩
  · have : (x.sg).joins.length = x.js.length := by unfold RS.sg; simp
    rw [this, ← e1]; simpa [RS.cells] using key 0 (by decide)
  · show _ = some (Value.slice A2 x.code.length c2)
    rw [← e2]; simpa [RS.cells] using key 1 (by decide)
  · simpa [RS.cells, RS.sg] using key 2 (by decide)
  · simpa [RS.cells, RS.sg] using key 3 (by decide)
  · simpa [RS.cells, RS.sg] using key 4 (by decide)
  · show _ = some (Value.slice A3 x.last.length c3)
    rw [← e3]; simpa [RS.cells] using key 5 (by decide)
  · intro hl
    have hl' : 0 < x.js.length := by have : (x.sg).joins.length = x.js.length := by unfold RS.sg; simp
                                     omega
    obtain ⟨b, off, e, hb, hc⟩ := r1 hl'
    refine ⟨b, off, e, hb, fun m q hq => ?_⟩
    have hq : (x.js.map RJ.jn)[m]? = some q := hq
    rw [List.getElem?_map] at hq
    obtain ⟨j, hj, rfl⟩ := Option.map_eq_some_iff.1 hq
    obtain ⟨f1, f2, f3⟩ := hS.fr m j hj
    have hc' := hc m j hj
    refine ⟨some ⟨j.f, 0, none⟩, j.fr.length, by simpa [RJ.cells, RJ.jn] using hc' 0 (by decide), by simpa [RJ.cells, RJ.jn] using hc' 1 (by decide), fun _ => ⟨j.f, 0, rfl, lt_h f2, fun y v hy z hz => ?_⟩⟩
    have : z = 0 := by omega
    subst this
    have hy : j.fr[y]? = some v := hy
    rw [cell_h f2]
    simp [intCells, hy]
end
end Go.Proofs.Ytmgejacndhnikaa
