/- (*cut.state).ahead walked (written by cutb.py). -/
import Derived.Test.YtadmmciiahdmcaaCutA
import Derived.Test.YtadmmciiahdmcaaBlkT
import Derived.Test.YtadmmciiahdmcaaWFam
import Derived.StillTailTactics
import Derived.Deep.CutRange
namespace Go.Proofs.Ytadmmciiahdmcaa
set_option maxRecDepth 100000
open Go.RowKit Go.Shelf
attribute [local go_sem] Oper.semAt_some

/-- In ahead: the boxes of s, i and need; row i. -/
structure AX (w : World) (N T i r s : Nat) (b : List Bool) (wr : World) : Prop where
  bel : Bel1 r w wr
  b0 : wr.heap[N]? = some (.cells #[.pointer (some ⟨T, 0, none⟩)] 104 (0, 0))
  b1 : wr.heap[N + 1]? = some (.cells #[.int .i64 (i : Nat)] 3 (0, 0))
  b2 : wr.heap[N + 1 + 1]? = some (.cells #[.int .u32 (s : Nat)] 39 (0, 0))
  row : wr.heap[r]? = some (.cells (b.map Value.bool).toArray 4 (0, 0))
  n0 : w.heap.size ≤ N
section
variable {w wr w' : World} {N T i r s : Nat} {b : List Bool}
theorem AX.drew (h : AX w N T i r s b wr) : AX w N T i r s b wr.drew := ⟨h.bel.drew, h.b0, h.b1, h.b2, h.row, h.n0⟩
theorem AX.drewN (h : AX w N T i r s b wr) (k : Nat) : AX w N T i r s b (wr.drewN k) := ⟨⟨h.bel.os, h.bel.tape, h.bel.output, h.bel.size, h.bel.block⟩, h.b0, h.b1, h.b2, h.row, h.n0⟩
theorem AX.alloc (h : AX w N T i r s b wr) (o : Obj) : AX w N T i r s b (wr.alloc o) :=
  have k : ∀ {j : Nat} {x : Obj}, wr.heap[j]? = some x → (wr.alloc o).heap[j]? = some x := fun {j _} hx => (Below.heap_alloc wr o j (lt_cells hx)).trans hx
  ⟨h.bel.alloc o, k h.b0, k h.b1, k h.b2, k h.row, h.n0⟩
theorem AX.below (h : AX w N T i r s b wr) (hb : Below wr.heap.size wr w') : AX w N T i r s b w' :=
  have k : ∀ {j : Nat} {x : Obj}, wr.heap[j]? = some x → w'.heap[j]? = some x := fun {j _} hx => (hb.block j (lt_cells hx)).trans hx
  ⟨h.bel.trans ⟨hb.os, hb.tape, hb.output, hb.size, fun j hj _ => hb.block j hj⟩, k h.b0, k h.b1, k h.b2, k h.row, h.n0⟩
theorem AX.grown (h : AX w N T i r s b wr) {row : Option Nat} (hg : wr.grownBy w' row) (hk : ∀ (k : Nat) (a : Array Value) (e : Nat), wr.heap[k]? = some (Obj.cells a e (0, 0)) → w'.heap[k]? = some (Obj.cells a e (0, 0))) (hr : ∀ k, row = some k → w.heap.size ≤ k) : AX w N T i r s b w' :=
  ⟨⟨hg.os.trans h.bel.os, hg.tape.trans h.bel.tape, hg.output.trans h.bel.output, Nat.le_trans h.bel.size hg.size, fun j hj hne => (hg.block j (Nat.lt_of_lt_of_le hj h.bel.size) (fun e => by have := hr j e.symm; omega)).trans (h.bel.block j hj hne)⟩, hk _ _ _ h.b0, hk _ _ _ h.b1, hk _ _ _ h.b2, hk _ _ _ h.row, h.n0⟩
theorem AX.lt (h : AX w N T i r s b wr) : N + 1 + 1 < wr.heap.size ∧ r < wr.heap.size := ⟨lt_cells h.b2, lt_cells h.row⟩
theorem AX.set (h : AX w N T i r s b wr) (hr : r < w.heap.size) (y : Nat) : AX w N T i r y b (wr.setCell ⟨N + 1 + 1, 0, none⟩ (.int .u32 (y : Nat))) :=
  have k : ∀ {j : Nat}, j ≠ N + 1 + 1 → (wr.setCell ⟨N + 1 + 1, 0, none⟩ (.int .u32 (y : Nat))).heap[j]? = wr.heap[j]? := fun {j} hj => Below.heap_setCell _ _ _ _ hj
  have hn := h.n0
  ⟨⟨h.bel.os, h.bel.tape, h.bel.output, by have := h.bel.size; simp only [World.setCell]; simp; omega, fun j hj hne => (k (by omega)).trans (h.bel.block j hj hne)⟩, (k (by omega)).trans h.b0, (k (by omega)).trans h.b1, by rw [heap_setC wr (N + 1 + 1) 0 _ _ _ h.b2]; rfl, (k (by omega)).trans h.row, h.n0⟩
theorem AX.mark (h : AX w N T i r s b wr) (hr : r < w.heap.size) (j : Nat) : AX w N T i r s (b.set j true) (wr.setCell ⟨r, j, none⟩ (.bool true)) :=
  have k : ∀ {x : Nat}, x ≠ r → (wr.setCell ⟨r, j, none⟩ (.bool true)).heap[x]? = wr.heap[x]? := fun {x} hx => Below.heap_setCell _ _ _ _ hx
  have hn := h.n0
  ⟨h.bel.set_ rfl _, (k (by omega)).trans h.b0, (k (by omega)).trans h.b1, (k (by omega)).trans h.b2, by rw [heap_setC wr r j _ _ _ h.row, List.map_set, List.setIfInBounds_toArray], h.n0⟩
theorem AX.at_ (h : AX w N T i r s b wr) : wr.cell? ⟨N, 0, none⟩ = some (.pointer (some ⟨T, 0, none⟩)) ∧ wr.cell? ⟨N + 1, 0, none⟩ = some (.int .i64 (i : Nat)) ∧ wr.cell? ⟨N + 1 + 1, 0, none⟩ = some (.int .u32 (s : Nat)) := by
  refine ⟨?_, ?_, ?_⟩
  · rw [cell_of_row wr N 0 _ _ _ h.b0]; rfl
  · rw [cell_of_row wr (N + 1) 0 _ _ _ h.b1]; rfl
  · rw [cell_of_row wr (N + 1 + 1) 0 _ _ _ h.b2]; rfl
theorem AX.atR (h : AX w N T i r s b wr) {x : Nat} (hx : x < b.length) : wr.cell? ⟨r, x, none⟩ = some (.bool b[x]) := by
  rw [cell_of_row wr r x _ _ _ h.row]; simp [hx]
theorem AX.cell (h : AX w N T i r s b wr) {k j : Nat} (hk : k < w.heap.size) (hne : k ≠ r) : wr.cell? ⟨k, j, none⟩ = w.cell? ⟨k, j, none⟩ := World.cell?_of_block (h.bel.block k hk hne)
end
/-- In a round over the steps: what abides. -/
structure ZS (W0 W : World) (n₀ M Bx : Nat) (st : Step) (W' : World) : Prop where
  kf : KeepsFrom W0.heap.size W W'
  kb : KpB n₀ M W W'
  k0 : KeepsFrom 0 W0 W'
  bx : W'.heap[Bx]? = some (.cells st.cells.toArray 78 (0, 0))
section
variable {W0 W W' : World} {n₀ M Bx : Nat} {st : Step}
theorem ZS.drew (h : ZS W0 W n₀ M Bx st W') : ZS W0 W n₀ M Bx st W'.drew := ⟨h.kf.trans ((KeepsOthers.drew W').from _), ⟨h.kb.1.drew, h.kb.2⟩, h.k0.trans ((KeepsOthers.drew W').from _), h.bx⟩
theorem ZS.set (h : ZS W0 W n₀ M Bx st W') {r : Nat} (hr : n₀ ≤ r) (hM : r ≠ M) (hB : r ≠ Bx) (j : Nat) (v : Value) : ZS W0 W n₀ M Bx st (W'.setCell ⟨r, j, none⟩ v) :=
  ⟨h.kf.trans ((KeepsOthers.setCell _ _ _).from _), ⟨h.kb.1.setCell (p := ⟨r, j, none⟩) hr v, fun u hu => by rw [World.cell?_setCell_far _ _ _ _ hM]; exact h.kb.2 u hu⟩, h.k0.trans ((KeepsOthers.setCell _ _ _).from _), (Below.heap_setCell _ _ _ Bx (Ne.symm hB)).trans h.bx⟩
theorem ZS.at5 (h : ZS W0 W n₀ M Bx st W') : W'.cell? ⟨Bx, 0, none⟩ = some (.int .i64 st.op) ∧ W'.cell? ⟨Bx, 1, none⟩ = some (.int .i64 st.to) ∧ W'.cell? ⟨Bx, 2, none⟩ = some (.int .i64 st.a) ∧ W'.cell? ⟨Bx, 3, none⟩ = some (.int .i64 st.b) ∧ W'.cell? ⟨Bx, 4, none⟩ = some (.int .i64 st.val) := by
  refine ⟨?_, ?_, ?_, ?_, ?_⟩ <;> (rw [cell_of_row W' Bx _ _ _ _ h.bx]; rfl)
end
/-- The steps that are needed, from place j on, are noted. -/
def Mrk (b b' : List Bool) (c : List Step) (l j : Nat) : Prop := ∀ k, b'[k]? = some true ↔ b[k]? = some true ∨ (j ≤ k ∧ ctM c l k)
theorem ctM_lt {c : List Step} {l k : Nat} (h : ctM c l k) : k < c.length := by
  obtain ⟨s, h1, _⟩ := h
  exact (List.getElem?_eq_some_iff.1 h1).1
theorem ctM_at {c : List Step} {l k : Nat} (hk : k < c.length) : ctM c l k ↔ (ctC (c.drop (k + 1)) l).testBit c[k].to.toNat = true := by
  unfold ctM
  rw [List.getElem?_eq_getElem hk]
  exact ⟨fun ⟨s, h1, h2⟩ => by injection h1 with h1; rw [h1]; exact h2, fun h => ⟨_, rfl, h⟩⟩
theorem ctC_drop {c : List Step} {k : Nat} (hk : k < c.length) (l : Nat) : ctC (c.drop k) l = ctS c[k] (ctC (c.drop (k + 1)) l) := by
  rw [List.drop_eq_getElem_cons hk, ctC_cons]
theorem Mrk.start (b : List Bool) (c : List Step) (l : Nat) : Mrk b b c l c.length := fun k => ⟨.inl, fun h => h.elim id fun ⟨h1, h2⟩ => by have := ctM_lt h2; omega⟩
theorem Mrk.yes {b b' : List Bool} {c : List Step} {l k : Nat} (h : Mrk b b' c l (k + 1)) (hk : k < c.length) (hl : b'.length = c.length) (hb : (ctC (c.drop (k + 1)) l).testBit c[k].to.toNat = true) : Mrk b (b'.set k true) c l k := fun j => by
  rw [List.getElem?_set]
  by_cases e : k = j
  · subst e
    rw [if_pos rfl, if_pos (by omega)]
    exact ⟨fun _ => .inr ⟨Nat.le_refl _, (ctM_at hk).2 hb⟩, fun _ => rfl⟩
  · rw [if_neg e, h j]
    exact or_congr_right (and_congr_left fun _ => by omega)
theorem Mrk.no {b b' : List Bool} {c : List Step} {l k : Nat} (h : Mrk b b' c l (k + 1)) (hk : k < c.length) (hb : (ctC (c.drop (k + 1)) l).testBit c[k].to.toNat = false) : Mrk b b' c l k := fun j => by
  rw [h j]
  by_cases e : k = j
  · subst e
    refine or_congr_right ⟨fun h => by omega, fun h => ?_⟩
    rw [(ctM_at hk).1 h.2] at hb; cases hb
  · exact or_congr_right (and_congr_left fun _ => by omega)
/-- What next blocks need, of the first k. -/
noncomputable def nxC (F : List Nat) (l : List Int) (s k : Nat) : Nat := (l.take k).foldl (fun s j => s ||| getU F j.toNat) s
theorem nxC_zero (F : List Nat) (l : List Int) (s : Nat) : nxC F l s 0 = s := by simp [nxC]
theorem nxC_succ (F : List Nat) (l : List Int) (s : Nat) {k : Nat} (hk : k < l.length) : nxC F l s (k + 1) = nxC F l s k ||| getU F l[k].toNat := by
  unfold nxC; rw [List.take_succ_eq_append_getElem hk, List.foldl_append]; rfl
theorem nxC_all (F : List Nat) (l : List Int) (s : Nat) : nxC F l s l.length = l.foldl (fun s j => s ||| getU F j.toNat) s := by unfold nxC; rw [List.take_length]
theorem nxC_lt {F : List Nat} {n : Nat} (hF : ltU F (2 ^ n)) {l : List Int} {s k : Nat} (hs : s < 2 ^ n) : nxC F l s k < 2 ^ n := by
  unfold nxC
  generalize l.take k = l
  induction l generalizing s with
  | nil => exact hs
  | cons a l ih => exact ih (Nat.or_lt_two_pow hs (hF _))
def CutAhE (w : World) (r : Nat) (b : List Bool) (c : List Step) (l : Nat) (e : Ending) (w' : World) : Prop :=
  ∃ b', e = .returned (.int .u32 (ctC c l : Nat)) ∧ w'.heap[r]? = some (.cells (b'.map Value.bool).toArray 4 (0, 0)) ∧ b'.length = b.length ∧ Mrk b b' c l 0 ∧ Bel1 r w w'
theorem cell_far {w : World} {a j b k : Nat} {v x : Value} (hne : a ≠ b) (h : w.cell? ⟨b, k, none⟩ = some x) : (w.setCell ⟨a, j, none⟩ v).cell? ⟨b, k, none⟩ = some x := by
  rw [World.cell?_setCell_far _ _ _ _ hne]; exact h
theorem step_lt {vars : Int} (h6 : vars ≤ 6) {s : Step} (h : SOk vars s) : ∃ d : Nat, s.to = d ∧ d < 32 := by
  obtain ⟨-, -, -, -, ⟨t0, t1⟩, -⟩ := h
  obtain ⟨d, hd⟩ := Int.eq_ofNat_of_zero_le t0
  exact ⟨d, hd, by omega⟩
set_option maxRecDepth 100000 in
set_option maxHeartbeats 4000000 in
theorem cutAhead_calls (n : Nat) (A An : Option Addr) (p : List Blk) (cap capn : Nat) (w0' w : World) (T SB FB : Nat) (R : Nat → Nat) (cS want t : Nat) (F : List Nat) (B : Nat → List Bool) (i : Nat) (hi : i < p.length)
    (hct : CT w T SB FB R (.slice A p.length cap) (.slice An p.length capn) cS p.length want t F B) (hA : RdBk w0' A p) (hN : RdN w0' An (nexts p)) (hW : Below w0'.heap.size w0' w) (hR : w0'.heap.size ≤ R i) (hp : POk (n : Int) p)
    (hB : (B i).length = p[i].code.length) (hF : ltU F (2 ^ n)) (hw : want < 2 ^ n) (ht : t < 256) (htt : t.testBit i = true → 0 ≤ p[i].test) :
    Calls Try.prog 88 #[.pointer (some ⟨T, 0, none⟩), .int .i64 (i : Nat)] w (CutAhE w (R i) (B i) p[i].code (beC want F t i p[i])) := by
  have h6 : n ≤ 6 := by have := hp.v6; omega
  have h64 : 2 ^ n ≤ 64 := Nat.pow_le_pow_right (by decide) h6
  have hn8 := hp.n8
  have hmb := manyB_mem (List.getElem_mem hi)
  have hm20 := hp.many
  have hRl : R i < w.heap.size := lt_cells (hct.hB i hi)
  have hTl : T < w.heap.size := lt_cells hct.hT
  have hFl : FB < w.heap.size := lt_cells hct.hF
  have hSl : SB < w.heap.size := let ⟨_, h, _⟩ := hct.hS; lt_cells h
  have hRT : R i ≠ T := ty_ne (hct.hB i hi) hct.hT (by decide)
  have hRF : R i ≠ FB := ty_ne (hct.hB i hi) hct.hF (by decide)
  have hRS : R i ≠ SB := by obtain ⟨_, h, _⟩ := hct.hS; exact ty_ne (hct.hB i hi) h (by decide)
  have hrow := hct.hB i hi
  have hbo := hp.bs _ (List.getElem_mem hi)
  have hws := hW.size
  obtain ⟨pb, off, A', cap', rfl, hpb, d0, d1, d2, d3, hSt⟩ := RdBk.at_ hA hi
  have hni : i < (nexts p).length := by simp [nexts]; exact hi
  obtain ⟨nb, noff, A2, cap2, rfl, hnb, e0, hRl2⟩ := RdN.at_ hN hni
  have hnx : (nexts p)[i] = nxB p[i] := by simp [nexts]
  rw [hnx] at e0 hRl2
  have hnin : ∀ x ∈ nxB p[i], 0 ≤ x ∧ x < p.length := nxB_ok hbo
  -- what is read, in any later world
  have HK : Hid (∀ wr : World, Bel1 (R i) w wr → (wr.cell? ⟨T, 0, none⟩ = some (.slice (some ⟨pb, off, none⟩) p.length cap) ∧ wr.cell? ⟨T, 1, none⟩ = some (.slice (some ⟨nb, noff, none⟩) p.length capn) ∧ wr.cell? ⟨T, 2, none⟩ = some (.int .u32 (want : Nat)) ∧ wr.cell? ⟨T, 3, none⟩ = some (.slice (some ⟨SB, 0, none⟩) p.length cS) ∧ wr.cell? ⟨T, 4, none⟩ = some (.int .u32 (t : Nat)) ∧ wr.cell? ⟨T, 5, none⟩ = some (.slice (some ⟨FB, 0, none⟩) p.length p.length)) ∧ wr.cell? ⟨SB, i, none⟩ = some (.slice (some ⟨R i, 0, none⟩) (B i).length (B i).length) ∧ (∀ j, j < p.length → wr.cell? ⟨FB, j, none⟩ = some (.int .u32 (getU F j : Nat))) ∧
      wr.cell? ⟨pb, off + i * 4, none⟩ = some (.slice A' p[i].code.length cap') ∧ wr.cell? ⟨pb, off + i * 4 + 1, none⟩ = some (.int .i64 p[i].test) ∧ wr.cell? ⟨nb, noff + i, none⟩ = some (.slice A2 (nxB p[i]).length cap2) ∧ RdI wr A2 (nxB p[i]) ∧ RdSt wr A' p[i].code) := Lib.hid fun wr hb => by
    have k : ∀ {a j : Nat}, a < w.heap.size → a ≠ R i → wr.cell? ⟨a, j, none⟩ = w.cell? ⟨a, j, none⟩ := fun ha hne => World.cell?_of_block (hb.block _ ha hne)
    have hb0 : Below w0'.heap.size w0' wr := hW.trans (hb.below hR hws)
    obtain ⟨a0, a1, a2, a3, a4, a5⟩ := hct.at_
    refine ⟨⟨(k hTl (Ne.symm hRT)).trans a0, (k hTl (Ne.symm hRT)).trans a1, (k hTl (Ne.symm hRT)).trans a2, (k hTl (Ne.symm hRT)).trans a3, (k hTl (Ne.symm hRT)).trans a4, (k hTl (Ne.symm hRT)).trans a5⟩, (k hSl (Ne.symm hRS)).trans (hct.atS hi), fun j hj => (k hFl (Ne.symm hRF)).trans (hct.atF hj), ?_, ?_, ?_, ?_, ?_⟩
    · exact (hb0.cell (p := ⟨pb, off + i * 4, none⟩) hpb).trans d0
    · exact (hb0.cell (p := ⟨pb, off + i * 4 + 1, none⟩) hpb).trans d1
    · exact (hb0.cell (p := ⟨nb, noff + i, none⟩) hnb).trans e0
    · exact Rd.below hRl2 hb0
    · exact Rd.below hSt hb0
  have HSt := Lib.hid hSt
  have HW := Lib.hid hW
  have Hrow := Lib.hid hrow
  have Hcode := Lib.hid hbo.code
  have Htwo := Lib.hid hbo.two
  have Hhi := Lib.hid hbo.hi
  have Hin := Lib.hid hnin
  have HFl := Lib.hid hF
  have HB := Lib.hid hB
  have hbe : Hid (beC want F t i p[i] = nxC F (nxB p[i]) (if nxB p[i] = [] then want else 0) (nxB p[i]).length ||| if t.testBit i = true then 2 ^ p[i].test.toNat else 0) := Lib.hid (by unfold beC; rw [nxC_all])
  clear hct hA hN hW hrow hbo hnin hF hB d0 d1 d2 d3 e0 hRl2 hSt hnx hni hp
  have hlen20 : p[i].code.length ≤ 20 := by omega
  have htest6 : p[i].test < 6 := by have := Hhi.out; omega
  have hnl : (nxB p[i]).length ≤ 2 := by
    unfold nxB; rw [List.length_append]; split <;> split <;> simp
  clear hmb
  generalize hbx : beC want F t i p[i] = be at *
  clear hbx
  generalize p[i] = bk at *
  obtain ⟨code, test, thn, els⟩ := bk
  dsimp only at *
  generalize nxB ⟨code, test, thn, els⟩ = ls at *
  have Hil := Lib.hid hi
  have hi : ((i : Nat) : Int) < ((p.length : Nat) : Int) := by omega
  have hi0 : (0 : Int) ≤ ((i : Nat) : Int) := by omega
  refine calls_of_marks Try.func88 rfl ?_
  simp only [Try.ntmps88, List.size_toArray, List.length_cons, List.length_nil, Nat.reduceAdd, Nat.reduceSub, Array.replicate_succ, Array.replicate_zero, List.push_toArray, List.append_toArray, List.nil_append, List.cons_append]
  obtain ⟨N, hNe⟩ : ∃ N, N = w.heap.size := ⟨_, rfl⟩
  have HX0 : Hid (AX w N T i (R i) 0 (B i) (((w.alloc (.cells #[.pointer (some ⟨T, 0, none⟩)] 104)).alloc (.cells #[.int .i64 (i : Nat)] 3)).alloc (.cells #[.int .u32 0] 39))) := Lib.hid (by
    have k1 : ∀ (v : World) (o : Obj) {j : Nat} {x : Obj}, v.heap[j]? = some x → (v.alloc o).heap[j]? = some x := fun v o {j _} hx => (Below.heap_alloc v o j (lt_cells hx)).trans hx
    refine ⟨(((Bel1.refl _ w).alloc _).alloc _).alloc _, ?_, ?_, ?_, k1 _ _ (k1 _ _ (k1 _ _ Hrow.out)), by omega⟩
    · exact k1 _ _ (k1 _ _ (by rw [hNe]; exact heap_alloc_new w _))
    · refine k1 _ _ ?_
      have := heap_alloc_new (w.alloc (.cells #[.pointer (some ⟨T, 0, none⟩)] 104)) (.cells #[.int .i64 (i : Nat)] 3)
      rwa [show (w.alloc (.cells #[.pointer (some ⟨T, 0, none⟩)] 104)).heap.size = N + 1 by rw [hNe]; simp] at this
    · have := heap_alloc_new ((w.alloc (.cells #[.pointer (some ⟨T, 0, none⟩)] 104)).alloc (.cells #[.int .i64 (i : Nat)] 3)) (.cells #[.int .u32 0] 39)
      rwa [show ((w.alloc (.cells #[.pointer (some ⟨T, 0, none⟩)] 104)).alloc (.cells #[.int .i64 (i : Nat)] 3)).heap.size = N + 1 + 1 by rw [hNe]; simp] at this)
  go_upto_region 2 with fail
  rw [← hNe]
  have HNe := Lib.hid hNe
  clear hNe
  generalize (((w.alloc (.cells #[.pointer (some ⟨T, 0, none⟩)] 104)).alloc (.cells #[.int .i64 (i : Nat)] 3)).alloc (.cells #[.int .u32 0] 39)) = w1 at *
  obtain ⟨⟨t0, t1, t2, t3, t4, t5⟩, ts, tf, q0, q1, q2, hRn, hRs⟩ := HK.out w1 HX0.out.bel
  obtain ⟨x0, x1, x2⟩ := HX0.out.at_
  have f2 : w1.frozen? ⟨N + 1 + 1, 0, none⟩ = false := frozen_of HX0.out.b2
  have HRn := Lib.hid hRn
  clear hRn hRs tf
  go_quiet (fail)
  go_upto_if 18 with fail
  go_cut [] from 19 (fun wx => Hid (AX w N T i (R i) (if ls = [] then want else 0) (B i) wx))
  case first =>
    by_cases hl : ls = []
    · have HX1 : Hid (∀ nq, AX w N T i (R i) (if ls = [] then want else 0) (B i) ((w1.drewN nq).setCell ⟨N + 1 + 1, 0, none⟩ (.int .u32 want))) := Lib.hid fun nq => by rw [if_pos hl]; exact (HX0.out.drewN nq).set hRl want
      have d1 : (((ls.length : Nat) : Int) == 0) = true := by rw [hl]; rfl
      clear hl
      go_wp2
      go_meet
      case rel => exact Lib.hid (HX1.out _)
    · have HX1 : Hid (AX w N T i (R i) (if ls = [] then want else 0) (B i) (w1.drewN nq)) := Lib.hid (by rw [if_neg hl]; exact HX0.out.drewN nq)
      have d1 : (((ls.length : Nat) : Int) == 0) = false := by rw [beq_eq_false_iff_ne]; intro e; exact hl (List.eq_nil_of_length_eq_zero (by omega))
      clear hl
      go_wp2
      go_meet
      case rel => exact HX1
  case rest =>
  clear HX0 HRn t0 t1 t2 t3 t4 t5 ts q0 q1 q2 x0 x1 x2 f2
  have HX0 := hcut
  clear hcut
  have Hs0 : Hid ((if ls = [] then want else 0) < 2 ^ n) := Lib.hid (by split; exact hw; exact Nat.two_pow_pos n)
  generalize (if ls = [] then want else 0) = s0 at *
  obtain ⟨⟨t0, t1, t2, t3, t4, t5⟩, ts, tf, q0, q1, q2, hRn, hRs⟩ := HK.out wc HX0.out.bel
  obtain ⟨x0, x1, x2⟩ := HX0.out.at_
  clear hRn hRs tf t0 t2 t3 t4 t5 ts q0 q1 x2
  go_upto_region 4 with fail
  go_quiet (fail)
  have HX1 := Lib.hid (HX0.out.drewN nq)
  clear HX0 t1 q2 x0 x1
  generalize wc.drewN nq = w1 at *
  go_wp2_with fail
  go_loopw [31] (fun j wr => ∃ k : Nat, k ≤ ls.length ∧ j = .int .i64 k ∧ Hid (AX w N T i (R i) (nxC F ls s0 k) (B i) wr)) (fun j _ => ls.length - (intOf j).toNat)
  case atStart => exact ⟨0, Nat.zero_le _, rfl, by rw [nxC_zero]; exact HX1⟩
  case round =>
    obtain ⟨k, hk, rfl, HX⟩ := hrel
    clear HX1
    obtain ⟨⟨t0, t1, t2, t3, t4, t5⟩, ts, tf, q0, q1, q2, hRn, hRs⟩ := HK.out wr HX.out.bel
    obtain ⟨x0, x1, x2⟩ := HX.out.at_
    have f2 : wr.frozen? ⟨N + 1 + 1, 0, none⟩ = false := frozen_of HX.out.b2
    by_cases hlt : k < ls.length
    · obtain ⟨b2, off2, rfl, hb2, m0⟩ := RdI.at1 hRn hlt
      have hj := Hin.out _ (List.getElem_mem hlt)
      have Hst := Lib.hid (nxC_succ F ls s0 hlt)
      have Hlt := Lib.hid (show nxC F ls s0 k < 4294967296 from Nat.lt_of_lt_of_le (nxC_lt HFl.out Hs0.out) (by omega))
      generalize ls[k] = xj at *
      obtain ⟨j, rfl⟩ := Int.eq_ofNat_of_zero_le hj.1
      rw [Int.toNat_natCast] at Hst
      have f0 := tf j (by omega)
      have f1 := Nat.lt_of_lt_of_le (HFl.out j) (show 2 ^ n ≤ 4294967296 by omega)
      have r4 := or_u32 _ _ Hlt.out f1
      have HX' : Hid (∀ nq, AX w N T i (R i) (nxC F ls s0 (k + 1)) (B i) ((wr.drewN nq).setCell ⟨N + 1 + 1, 0, none⟩ (.int .u32 ((nxC F ls s0 k ||| getU F j : Nat) : Int)))) := Lib.hid fun nq => by rw [Hst.out]; exact (HX.out.drewN nq).set hRl _
      have q5 : ((j : Nat) : Int) < ((p.length : Nat) : Int) := by omega
      have q6 : ((k : Nat) : Int) < ((ls.length : Nat) : Int) := by omega
      clear tf hRn hRs HX Hst Hlt t0 t1 t2 t3 t4 ts q0 q1 q2 hj x1
      generalize nxC F ls s0 k = s at *
      generalize getU F j = f at *
      go_wp2
      go_still_tail 9, (by kernel_rfl)
      go_wp2
      go_roundw
      case rel => exact ⟨k + 1, by omega, by go_num, Lib.hid (HX'.out _)⟩
      case measure => simp [intOf]; omega
    · have hkl : k = ls.length := by omega
      subst hkl
      clear hlt
      have Hbl : Hid (be < 2 ^ n) := Lib.hid (by
        rw [hbe.out]
        refine Nat.or_lt_two_pow (nxC_lt HFl.out Hs0.out) ?_
        split
        · have := Hhi.out
          rename_i h1
          have := htt h1
          exact Nat.pow_lt_pow_right (by decide) (by omega)
        · exact Nat.two_pow_pos n)
      have Hn32 := Lib.hid (show nxC F ls s0 ls.length < 4294967296 from Nat.lt_of_lt_of_le (nxC_lt HFl.out Hs0.out) (by omega))
      generalize nxC F ls s0 ls.length = ss at *
      have r1 := W.test1_u32 t i (by omega)
      clear tf hRn hRs t0 t1 t2 t3 t5 ts q0 q1 q2 x2 f2 Hs0
      have hll : ¬ ((ls.length : Int) < (ls.length : Int)) := by omega
      go_wp2
      go_quiet (fail)
      clear hll t4 x0 x1 r1
      go_upto_if 52 with fail
      go_cut [] from 45 (fun wx => Hid (AX w N T i (R i) be (B i) wx))
      case first =>
        have HX1 := Lib.hid (HX.out.drewN nq)
        clear HX
        generalize wr.drewN nq = w1 at *
        obtain ⟨⟨t0, t1, t2, t3, t4, t5⟩, ts, tf, q0, q1, q2, hRn, hRs⟩ := HK.out w1 HX1.out.bel
        obtain ⟨x0, x1, x2⟩ := HX1.out.at_
        have f2 : w1.frozen? ⟨N + 1 + 1, 0, none⟩ = false := frozen_of HX1.out.b2
        clear tf hRn hRs t1 t2 t3 t4 t5 ts q0 q2
        by_cases hb : t.testBit i = true
        · have Htv := htt hb
          have d1 : t.testBit i = true := hb
          have Hbe := Lib.hid (hbe.out.trans (by rw [if_pos hb]))
          obtain ⟨v, rfl⟩ := Int.eq_ofNat_of_zero_le Htv
          rw [Int.toNat_natCast] at Hbe
          have v32 : v < 32 := by omega
          have r3 := pow_u32 v v32
          have pv : 2 ^ v < 2 ^ 32 := Nat.pow_lt_pow_right (by decide) v32
          have r4 := or_u32 ss (2 ^ v) Hn32.out (by omega)
          rw [Int.natCast_pow, show ((2 : Nat) : Int) = 2 from rfl] at r3 r4
          have HX' : Hid (AX w N T i (R i) be (B i) ((w1.setCell ⟨N + 1 + 1, 0, none⟩ (.int .u32 (bits .or .u32 (ss : Int) (2 ^ v)))).drew)) := Lib.hid (by rw [r4, Hbe.out]; exact (HX1.out.set hRl _).drew)
          clear HX1 pv htt hb hbe
          rw [d1]
          go_wp2
          go_still_tail 11, (by kernel_rfl)
          go_wp2
          go_meet
          case rel => exact HX'
        · have d1 : t.testBit i = false := by simpa using hb
          have Hbe := Lib.hid (hbe.out.trans (by rw [if_neg hb, Nat.or_zero]))
          have HX' : Hid (AX w N T i (R i) be (B i) w1) := Lib.hid (by rw [Hbe.out]; exact HX1.out)
          clear HX1 htt hb hbe
          rw [d1]
          go_wp2
          go_meet
          case rel => exact HX'
      case rest =>
      have HX1 := hcut
      clear hcut HX htt hbe Hn32
      clear ss
      obtain ⟨⟨t0, t1, t2, t3, t4, t5⟩, ts, tf, q0, q1, q2, hRn, hRs⟩ := HK.out wc HX1.out.bel
      obtain ⟨x0, x1, x2⟩ := HX1.out.at_
      clear tf hRn hRs t1 t2 t3 t4 t5 ts q1 q2 x2
      go_upto_region 11 with fail
      go_still_tail 8, (by kernel_rfl)
      go_wp2_with (go_at_call 48; refine (backS_calls _ _ _ _).mono ?_; rintro e w' ⟨rfl, rfl⟩)
      obtain ⟨M, hM⟩ : ∃ M, M = wc.heap.size := ⟨_, rfl⟩
      rw [← hM]
      have HX0 := Lib.hid ((HX1.out.alloc (.cells #[.slice A' code.length cap'] 22)).drew)
      have hBc : ((wc.alloc (.cells #[.slice A' code.length cap'] 22)).drew).cell? ⟨M, 0, none⟩ = some (.slice A' code.length cap') := cell_new wc _ _ _ hM.symm _
      have hsz : ((wc.alloc (.cells #[.slice A' code.length cap'] 22)).drew).heap.size = M + 1 := by rw [hM]; show (wc.alloc _).heap.size = _; simp
      generalize (wc.alloc (.cells #[.slice A' code.length cap'] 22)).drew = W0 at *
      have hMw := HX1.out.bel.size
      have hMN : N + 1 + 1 < M := by have := HX1.out.lt; omega
      rw [← hM] at hMw
      have hR0 : RdB w0'.heap.size Step.cells 5 W0 A' code := (RdB.of HSt.out).below (HW.out.trans (HX0.out.bel.below hR hws))
      clear HX1 hM t0 q0 x0 x1 HNe
      have hbel := Hbl.out
      have hb32 : 2 ^ n ≤ 4294967296 := by omega
      have HS : Hid (∀ wr : World, Bel1 (R i) w wr → wr.cell? ⟨T, 3, none⟩ = some (.slice (some ⟨SB, 0, none⟩) p.length cS) ∧ wr.cell? ⟨SB, i, none⟩ = some (.slice (some ⟨R i, 0, none⟩) (B i).length (B i).length)) := Lib.hid fun wr h => ⟨(HK.out wr h).1.2.2.2.1, (HK.out wr h).2.1⟩
      refine wp_rangeFuncT (n₀ := w0'.heap.size) (Bs := M) (gf := 72) (lb := #[.pointer (some ⟨M, 0, none⟩)]) rfl (enters_of Try.func72 (by kernel_rfl) rfl)
        (backS_stops M w0'.heap.size A' cap' code (by omega) W0 (by omega) (by omega) hBc hR0) (by omega) (fun _ => rfl)
        (fun pre W => ∃ (s : Nat) (b' : List Bool), AX w N T i (R i) s b' W ∧ b'.length = (B i).length ∧ s < 2 ^ n ∧ Hid (pre.map (·.1) = backN code.length pre.length → s = ctC (code.drop (code.length - pre.length)) be ∧ Mrk (B i) b' code be (code.length - pre.length)) ∧ KeepsFrom 0 W0 W)
        ?hI ⟨be, B i, HX0.out, rfl, hbel, Lib.hid (fun _ => by
          have e : code.length - ([] : List (Ix code.length)).length = code.length := rfl
          rw [e, List.drop_length]
          exact ⟨rfl, Mrk.start _ _ _⟩), KeepsFrom.refl _ _⟩
        (fun T_ x a' W => ∃ Bx, M < Bx ∧ W.heap[Bx]? = some (.cells (code[x.1]'x.2).cells.toArray 78 (0, 0)) ∧ a' = { tmps := (((T_.setIfInBounds 73 (.int .i64 (x.1 : Int))).setIfInBounds 74 (code[x.1]'x.2).agg).setIfInBounds 8 (.int .i64 (x.1 : Int))).setIfInBounds 9 (.pointer (some ⟨Bx, 0, none⟩)), defers := [] })
        ?hAx ?assign ?body ?done
      case hI =>
        rintro s W W' row ⟨s, b', hX, hl, hs, hpre, hk⟩ hg hr
        exact ⟨s, b', hX.grown hg (fun k a e hh => (grownBy_keeps_cells hg (fun k e => (hr k e).2) hh rfl).trans hh) (fun k e => by have := (hr k e).1; omega), hl, hs, hpre, ownFrom_keepsFrom (β := Unit) (Nat.le_refl _) () W W' row hk hg hr⟩
      case hAx =>
        rintro x a' _ W W' row ⟨Bx, h1, h2, h3⟩ hg hr
        exact ⟨Bx, h1, (grownBy_keeps_cells hg (fun k e => (hr k e).2) h2 rfl).trans h2, h3⟩
      case assign =>
        rintro l' pre x W K ⟨s, b', hX, hl, hs, hpre, hk⟩ hK
        have hk0 := hk.size
        have hagg : (code[x.1]'x.2).agg = .agg #[.int .i64 (code[x.1]'x.2).op, .int .i64 (code[x.1]'x.2).to, .int .i64 (code[x.1]'x.2).a, .int .i64 (code[x.1]'x.2).b, .int .i64 (code[x.1]'x.2).val] := rfl
        rw [hagg] at hK ⊢
        have HX := Lib.hid hX
        have Hpre := hpre
        have hwl : w.heap.size ≤ W.heap.size := hX.bel.size
        clear hX
        gi_wp2
        exact hK _ _ ((KeepsOthers.alloc _ _).from _) ⟨(Below.refl w0'.heap.size W).alloc (by omega) _, fun v hv => by rw [World.cell?_alloc_some _ _ _ (by rw [hv]; rfl)]; exact hv⟩ ⟨s, b', HX.out.alloc _, hl, hs, Hpre, hk.trans ((KeepsOthers.alloc _ _).from _)⟩ ⟨W.heap.size, by omega, heap_alloc_new W _, rfl⟩
      case body =>
        rintro l' pre x a' W hl0 ⟨s, b', hX, hl, hs, hpre, hk⟩ ⟨Bx, hBx, hhx, rfl⟩ hlt2
        obtain ⟨x, hx⟩ := x
        dsimp only at hhx ⊢
        have hBl := lt_cells hhx
        have HZ := Lib.hid (show ZS W0 W w0'.heap.size M Bx (code[x]'hx) W from ⟨KeepsFrom.refl _ _, ⟨Below.refl _ _, fun _ h => h⟩, hk, hhx⟩)
        have HX := Lib.hid hX
        have Hl := Lib.hid hl
        have Hs := Lib.hid hs
        have s32 : s < 4294967296 := by omega
        have Hsok := Lib.hid (Hcode.out _ (List.getElem_mem hx))
        obtain ⟨tg, htg, htg32⟩ := step_lt (show ((n : Nat) : Int) ≤ 6 by omega) Hsok.out
        have hR1 : w0'.heap.size ≤ R i := hR
        have hR2 : R i ≠ M := by omega
        have hR3 : R i ≠ Bx := by omega
        have hN0 := hX.n0
        have hN2 : N + 1 + 1 ≠ M := by omega
        have hN3 : N + 1 + 1 ≠ Bx := by omega
        have Hcl : Hid (b'.length = code.length) := Lib.hid (by rw [hl]; exact HB.out)
        have Hps : Hid ((pre ++ [(⟨x, hx⟩ : Ix code.length)]).map (·.1) = backN code.length (pre ++ [(⟨x, hx⟩ : Ix code.length)]).length → code.length - (pre ++ [(⟨x, hx⟩ : Ix code.length)]).length = x ∧ s = ctC (code.drop (x + 1)) be ∧ Mrk (B i) b' code be (x + 1)) := Lib.hid fun h => by
          obtain ⟨h1, h2⟩ := back_snoc h
          have h2 : x = code.length - 1 - pre.length := h2
          have h3 := hpre.out h1
          rw [show code.length - pre.length = x + 1 by omega] at h3
          exact ⟨by rw [List.length_append, List.length_singleton]; omega, h3⟩
        have hxB : ((x : Nat) : Int) < (((B i).length : Nat) : Int) := by have := HB.out; omega
        obtain ⟨b0, b1, b2, b3, b4⟩ := HZ.out.at5
        obtain ⟨x0, x1, x2⟩ := hX.at_
        rw [htg] at b1
        have rr := test_u32 s tg s32
        by_cases hb : s.testBit tg = true
        · have Hfin : Hid (∀ W' : World, AX w N T i (R i) (ahL code[x] s) (b'.set x true) W' → KeepsFrom 0 W0 W' → ∃ (s : Nat) (b' : List Bool), AX w N T i (R i) s b' W' ∧ b'.length = (B i).length ∧ s < 2 ^ n ∧ Hid ((pre ++ [(⟨x, hx⟩ : Ix code.length)]).map (·.1) = backN code.length (pre ++ [(⟨x, hx⟩ : Ix code.length)]).length → s = ctC (code.drop (code.length - (pre ++ [(⟨x, hx⟩ : Ix code.length)]).length)) be ∧ Mrk (B i) b' code be (code.length - (pre ++ [(⟨x, hx⟩ : Ix code.length)]).length)) ∧ KeepsFrom 0 W0 W') := Lib.hid fun W' h1 h2 => by
            refine ⟨_, _, h1, by rw [List.length_set]; exact Hl.out, ahL_lt Hsok.out rfl h6 Hs.out, Lib.hid fun h => ?_, h2⟩
            obtain ⟨e1, e2, e3⟩ := Hps.out h
            have hb2 : (ctC (code.drop (x + 1)) be).testBit code[x].to.toNat = true := by rw [htg, Int.toNat_natCast, ← e2]; exact hb
            rw [e1]
            exact ⟨by rw [ctC_drop hx, ctS, if_pos hb2, e2], e3.yes hx Hcl.out hb2⟩
          have HL : Hid (ahL code[x] s = if code[x].op = 1 then andN s (2 ^ tg) else if code[x].op = 2 then andN s (2 ^ tg) ||| 2 ^ code[x].val.toNat else (andN s (2 ^ tg) ||| 2 ^ code[x].a.toNat) ||| 2 ^ code[x].b.toNat) := Lib.hid (by unfold ahL; rw [htg]; rfl)
          have Hbb := Lib.hid hb
          clear hX hl hs hpre hk hhx Hps Hl Hs
          generalize code[x] = st at *
          generalize hsL : ahL st s = sL at *
          clear hsL
          obtain ⟨op, tg', sa', sb', sv'⟩ := st
          dsimp only at *
          subst htg
          obtain ⟨o1, o6, -, hov, -, hab⟩ := Hsok.out
          dsimp only at o1 o6 hov hab
          clear Hsok
          have pd : 2 ^ tg < 2 ^ 32 := Nat.pow_lt_pow_right (by decide) htg32
          have r1 := pow_u32 tg htg32
          have r2 := andN_u32 s (2 ^ tg) s32 (by omega)
          have y0 := andN_lt s (2 ^ tg)
          rw [Int.natCast_pow, show ((2 : Nat) : Int) = 2 from rfl] at r1 r2
          generalize andN s (2 ^ tg) = y at *
          have Hv : Hid (bits .andNot .u32 (s : Int) (IntKind.u32.wrap (2 ^ tg)) = ((y : Nat) : Int)) := Lib.hid (by
            show bits .andNot .u32 (s : Int) ((2 : Int) ^ tg % 4294967296) = _
            rw [r1]; exact r2)
          clear pd r1 r2
          have HS0 : Hid (W.cell? ⟨N, 0, none⟩ = some (.pointer (some ⟨T, 0, none⟩)) ∧ W.cell? ⟨N + 1, 0, none⟩ = some (.int .i64 (i : Nat)) ∧ W.cell? ⟨T, 3, none⟩ = some (.slice (some ⟨SB, 0, none⟩) p.length cS) ∧ W.cell? ⟨SB, i, none⟩ = some (.slice (some ⟨R i, 0, none⟩) (B i).length (B i).length)) := Lib.hid ⟨x0, x1, HS.out W HX.out.bel⟩
          clear x0 x1 b0 b2 b3 b4
          gi_wp2
          have hS0 : W.drew.cell? ⟨N, 0, none⟩ = some (.pointer (some ⟨T, 0, none⟩)) ∧ W.drew.cell? ⟨N + 1, 0, none⟩ = some (.int .i64 (i : Nat)) ∧ W.drew.cell? ⟨T, 3, none⟩ = some (.slice (some ⟨SB, 0, none⟩) p.length cS) ∧ W.drew.cell? ⟨SB, i, none⟩ = some (.slice (some ⟨R i, 0, none⟩) (B i).length (B i).length) := HS0.out
          have HX := Lib.hid HX.out.drew
          have HZ := Lib.hid HZ.out.drew
          refine wpIn_region_held_drew (S := fun w' => w'.cell? ⟨N, 0, none⟩ = some (.pointer (some ⟨T, 0, none⟩)) ∧ w'.cell? ⟨N + 1, 0, none⟩ = some (.int .i64 (i : Nat)) ∧ w'.cell? ⟨T, 3, none⟩ = some (.slice (some ⟨SB, 0, none⟩) p.length cS) ∧ w'.cell? ⟨SB, i, none⟩ = some (.slice (some ⟨R i, 0, none⟩) (B i).length (B i).length)) (by kernel_rfl) (by kernel_rfl) (fun h => by obtain ⟨_, _, h⟩ := h; exact h) hS0 (fun hH0 => ?_)
          clear hS0 HS0
          generalize W.drew = w0 at *
          have HSs : Hid (∀ v, w0.cell? ⟨N, 0, none⟩ = some (.pointer (some ⟨T, 0, none⟩)) ∧ w0.cell? ⟨N + 1, 0, none⟩ = some (.int .i64 (i : Nat)) ∧ w0.cell? ⟨T, 3, none⟩ = some (.slice (some ⟨SB, 0, none⟩) p.length cS) ∧ w0.cell? ⟨SB, i, none⟩ = some (.slice (some ⟨R i, 0, none⟩) (B i).length (B i).length) → (w0.setCell ⟨R i, x, none⟩ v).cell? ⟨N, 0, none⟩ = some (.pointer (some ⟨T, 0, none⟩)) ∧ (w0.setCell ⟨R i, x, none⟩ v).cell? ⟨N + 1, 0, none⟩ = some (.int .i64 (i : Nat)) ∧ (w0.setCell ⟨R i, x, none⟩ v).cell? ⟨T, 3, none⟩ = some (.slice (some ⟨SB, 0, none⟩) p.length cS) ∧ (w0.setCell ⟨R i, x, none⟩ v).cell? ⟨SB, i, none⟩ = some (.slice (some ⟨R i, 0, none⟩) (B i).length (B i).length)) := Lib.hid fun v h => ⟨cell_far (by omega) h.1, cell_far (by omega) h.2.1, cell_far hRT h.2.2.1, cell_far hRS h.2.2.2⟩
          refine wpAnyH_take (i := 0) (oi := { dst := some 81, op := Go.Op.load 104 (Go.Operand.tmp 2), type := 104, pos := "cut.go:40", after := #[], guard := none }) rfl (by kernel_rfl) (by kernel_rfl) (by kernel_rfl) (fun _ _ _ h => h) (Or.inl ⟨by rfl, fun w hw => by (obtain ⟨p0, p1, p2, p3⟩ := hw; go_simp; try with_reducible rfl)⟩) (by assumption) ?_
          try simp only [Act.put, List.setIfInBounds_toArray, List.set_cons_zero, List.set_cons_succ]
          refine wpAnyH_take (i := 1) (oi := { dst := some 82, op := Go.Op.nilCheck (Go.Operand.tmp 81), type := 0, pos := "cut.go:40", after := #[{ on := 0, ground := Go.Ground.data }], guard := none }) rfl (by kernel_rfl) (by kernel_rfl) (by kernel_rfl) (fun _ _ _ h => h) (Or.inl ⟨by rfl, fun w hw => by (obtain ⟨p0, p1, p2, p3⟩ := hw; go_simp; try with_reducible rfl)⟩) (by assumption) ?_
          try simp only [Act.put, List.setIfInBounds_toArray, List.set_cons_zero, List.set_cons_succ]
          refine wpAnyH_take (i := 2) (oi := { dst := some 83, op := Go.Op.fieldAddr 108 (Go.Operand.tmp 82) 3, type := 0, pos := "cut.go:40", after := #[{ on := 1, ground := Go.Ground.data }], guard := none }) rfl (by kernel_rfl) (by kernel_rfl) (by kernel_rfl) (fun _ _ _ h => h) (Or.inl ⟨by rfl, fun w hw => by (obtain ⟨p0, p1, p2, p3⟩ := hw; go_simp; try with_reducible rfl)⟩) (by assumption) ?_
          try simp only [Act.put, List.setIfInBounds_toArray, List.set_cons_zero, List.set_cons_succ]
          refine wpAnyH_take (i := 3) (oi := { dst := some 84, op := Go.Op.load 67 (Go.Operand.tmp 83), type := 67, pos := "cut.go:40", after := #[{ on := 2, ground := Go.Ground.data }], guard := none }) rfl (by kernel_rfl) (by kernel_rfl) (by kernel_rfl) (fun _ _ _ h => h) (Or.inl ⟨by rfl, fun w hw => by (obtain ⟨p0, p1, p2, p3⟩ := hw; go_simp; try with_reducible rfl)⟩) (by assumption) ?_
          try simp only [Act.put, List.setIfInBounds_toArray, List.set_cons_zero, List.set_cons_succ]
          refine wpAnyH_take (i := 4) (oi := { dst := some 85, op := Go.Op.load 3 (Go.Operand.tmp 3), type := 3, pos := "cut.go:40", after := #[], guard := none }) rfl (by kernel_rfl) (by kernel_rfl) (by kernel_rfl) (fun _ _ _ h => h) (Or.inl ⟨by rfl, fun w hw => by (obtain ⟨p0, p1, p2, p3⟩ := hw; go_simp; try with_reducible rfl)⟩) (by assumption) ?_
          try simp only [Act.put, List.setIfInBounds_toArray, List.set_cons_zero, List.set_cons_succ]
          refine wpAnyH_take (i := 5) (oi := { dst := some 86, op := Go.Op.indexAddr 67 (Go.Operand.tmp 84) (Go.Operand.tmp 85), type := 0, pos := "cut.go:40", after := #[{ on := 3, ground := Go.Ground.data }, { on := 4, ground := Go.Ground.data }], guard := none }) rfl (by kernel_rfl) (by kernel_rfl) (by kernel_rfl) (fun _ _ _ h => h) (Or.inl ⟨by rfl, fun w hw => by (obtain ⟨p0, p1, p2, p3⟩ := hw; go_simp; try with_reducible rfl)⟩) (by assumption) ?_
          try simp only [Act.put, List.setIfInBounds_toArray, List.set_cons_zero, List.set_cons_succ]
          refine wpAnyH_take (i := 6) (oi := { dst := some 87, op := Go.Op.load 71 (Go.Operand.tmp 86), type := 71, pos := "cut.go:40", after := #[{ on := 5, ground := Go.Ground.data }], guard := none }) rfl (by kernel_rfl) (by kernel_rfl) (by kernel_rfl) (fun _ _ _ h => h) (Or.inl ⟨by rfl, fun w hw => by (obtain ⟨p0, p1, p2, p3⟩ := hw; go_simp; try with_reducible rfl)⟩) (by assumption) ?_
          try simp only [Act.put, List.setIfInBounds_toArray, List.set_cons_zero, List.set_cons_succ]
          refine wpAnyH_take (i := 7) (oi := { dst := some 88, op := Go.Op.move (Go.Operand.tmp 8), type := 3, pos := "cut.go:40", after := #[], guard := none }) rfl (by kernel_rfl) (by kernel_rfl) (by kernel_rfl) (fun _ _ _ h => h) (Or.inl ⟨by rfl, fun w hw => by (obtain ⟨p0, p1, p2, p3⟩ := hw; go_simp; try with_reducible rfl)⟩) (by assumption) ?_
          try simp only [Act.put, List.setIfInBounds_toArray, List.set_cons_zero, List.set_cons_succ]
          refine wpAnyH_take (i := 8) (oi := { dst := some 89, op := Go.Op.indexAddr 71 (Go.Operand.tmp 87) (Go.Operand.tmp 88), type := 0, pos := "cut.go:40", after := #[{ on := 6, ground := Go.Ground.data }, { on := 7, ground := Go.Ground.data }, { on := 0, ground := Go.Ground.phase }, { on := 1, ground := Go.Ground.phase }, { on := 2, ground := Go.Ground.phase }, { on := 3, ground := Go.Ground.phase }, { on := 4, ground := Go.Ground.phase }, { on := 5, ground := Go.Ground.phase }, { on := 6, ground := Go.Ground.phase }, { on := 7, ground := Go.Ground.phase }], guard := none }) rfl (by kernel_rfl) (by kernel_rfl) (by kernel_rfl) (fun _ _ _ h => h) (Or.inl ⟨by rfl, fun w hw => by (obtain ⟨p0, p1, p2, p3⟩ := hw; go_simp; try with_reducible rfl)⟩) (by assumption) ?_
          try simp only [Act.put, List.setIfInBounds_toArray, List.set_cons_zero, List.set_cons_succ]
          refine wpAnyH_ready (rs := [9]) (by kernel_rfl) (by simp) ?_
          refine AllReadyH.cons (o := { dst := none, op := Go.Op.store 4 (Go.Operand.tmp 89) (Go.Operand.const (Go.Value.bool true)), type := 0, pos := "cut.go:40", after := #[{ on := 8, ground := Go.Ground.data }, { on := 0, ground := Go.Ground.phase }, { on := 1, ground := Go.Ground.phase }, { on := 2, ground := Go.Ground.phase }, { on := 3, ground := Go.Ground.phase }, { on := 4, ground := Go.Ground.phase }, { on := 5, ground := Go.Ground.phase }, { on := 6, ground := Go.Ground.phase }, { on := 7, ground := Go.Ground.phase }], guard := none }) rfl (fun K hK => ?_) AllReadyH.nil
          have ff : w0.frozen? ⟨R i, x, none⟩ = false := frozen_of HX.out.row
          have cc := HX.out.atR (by rw [Hcl.out]; exact hx)
          go_simp
          refine hK.out _ _ (HSs.out _ hH0) (fun _ => ?_)
          clear hK hH0 ff cc
          try simp only [Act.put, List.setIfInBounds_toArray, List.set_cons_zero, List.set_cons_succ]
          refine wpAnyH_done (by kernel_rfl) ?_ _

          have HX := Lib.hid (HX.out.mark hRl x)
          have HZ := Lib.hid (HZ.out.set hR1 hR2 hR3 x (.bool true))
          generalize w0.setCell ⟨R i, x, none⟩ (.bool true) = W at *
          clear rr
          obtain ⟨b0, b1, b2, b3, b4⟩ := HZ.out.at5
          have HS0 : Hid (W.cell? ⟨Bx, 1, none⟩ = some (.int .i64 (tg : Nat))) := Lib.hid b1
          clear b0 b1 b2 b3 b4
          gi_wp2
          have hS0 : W.drew.cell? ⟨Bx, 1, none⟩ = some (.int .i64 (tg : Nat)) := HS0.out
          have HX := Lib.hid HX.out.drew
          have HZ := Lib.hid HZ.out.drew
          refine wpIn_region_held_drew (S := fun w' => w'.cell? ⟨Bx, 1, none⟩ = some (.int .i64 (tg : Nat))) (by kernel_rfl) (by kernel_rfl) (fun h => by obtain ⟨_, _, h⟩ := h; exact h) hS0 (fun hH0 => ?_)
          clear hS0 HS0
          generalize W.drew = w0 at *
          have HSs : Hid (∀ v, w0.cell? ⟨Bx, 1, none⟩ = some (.int .i64 (tg : Nat)) → (w0.setCell ⟨N + 1 + 1, 0, none⟩ v).cell? ⟨Bx, 1, none⟩ = some (.int .i64 (tg : Nat))) := Lib.hid fun v h => cell_far hN3 h
          refine wpAnyH_take (i := 1) (oi := { dst := some 91, op := Go.Op.fieldAddr 78 (Go.Operand.tmp 9) 1, type := 0, pos := "cut.go:41", after := #[], guard := none }) rfl (by kernel_rfl) (by kernel_rfl) (by kernel_rfl) (fun _ _ _ h => h) (Or.inl ⟨by rfl, fun w hw => by (have p0 := hw; go_simp; try with_reducible rfl)⟩) (by assumption) ?_
          try simp only [Act.put, List.setIfInBounds_toArray, List.set_cons_zero, List.set_cons_succ]
          refine wpAnyH_take (i := 2) (oi := { dst := some 92, op := Go.Op.load 3 (Go.Operand.tmp 91), type := 3, pos := "cut.go:41", after := #[{ on := 1, ground := Go.Ground.data }], guard := none }) rfl (by kernel_rfl) (by kernel_rfl) (by kernel_rfl) (fun _ _ _ h => h) (Or.inl ⟨by rfl, fun w hw => by (have p0 := hw; go_simp; try with_reducible rfl)⟩) (by assumption) ?_
          try simp only [Act.put, List.setIfInBounds_toArray, List.set_cons_zero, List.set_cons_succ]
          refine wpAnyH_take (i := 3) (oi := { dst := some 93, op := Go.Op.binOp Go.BinOp.shl 39 (Go.Operand.const (Go.Value.int Go.IntKind.u32 1)) (Go.Operand.tmp 92) 3, type := 39, pos := "cut.go:41", after := #[{ on := 2, ground := Go.Ground.data }], guard := none }) rfl (by kernel_rfl) (by kernel_rfl) (by kernel_rfl) (fun _ _ _ h => h) (Or.inl ⟨by rfl, fun w hw => by (have p0 := hw; go_simp; try with_reducible rfl)⟩) (by assumption) ?_
          try simp only [Act.put, List.setIfInBounds_toArray, List.set_cons_zero, List.set_cons_succ]
          refine wpAnyH_ready (rs := [0]) (by kernel_rfl) (by simp) ?_
          refine AllReadyH.cons (o := { dst := some 90, op := Go.Op.load 39 (Go.Operand.tmp 5), type := 39, pos := "cut.go:41", after := #[], guard := none }) rfl (fun K hK => ?_) AllReadyH.nil
          have cc := HX.out.at_.2.2
          go_simp
          clear cc
          refine hK.out _ _ hH0 (fun hH1 => ?_)
          clear hK hH0
          have hH0 := hH1
          clear hH1
          try simp only [Act.put, List.setIfInBounds_toArray, List.set_cons_zero, List.set_cons_succ]
          refine wpAnyH_take (i := 4) (oi := { dst := some 94, op := Go.Op.binOp Go.BinOp.andNot 39 (Go.Operand.tmp 90) (Go.Operand.tmp 93) 39, type := 39, pos := "cut.go:41", after := #[{ on := 0, ground := Go.Ground.data }, { on := 3, ground := Go.Ground.data }], guard := none }) rfl (by kernel_rfl) (by kernel_rfl) (by kernel_rfl) (fun _ _ _ h => h) (Or.inl ⟨by rfl, fun w hw => by (have p0 := hw; go_simp; try with_reducible rfl)⟩) (by assumption) ?_
          try simp only [Act.put, List.setIfInBounds_toArray, List.set_cons_zero, List.set_cons_succ]
          refine wpAnyH_ready (rs := [5]) (by kernel_rfl) (by simp) ?_
          refine AllReadyH.cons (o := { dst := none, op := Go.Op.store 39 (Go.Operand.tmp 5) (Go.Operand.tmp 94), type := 0, pos := "cut.go:41", after := #[{ on := 4, ground := Go.Ground.data }, { on := 0, ground := Go.Ground.phase }, { on := 1, ground := Go.Ground.phase }, { on := 2, ground := Go.Ground.phase }, { on := 3, ground := Go.Ground.phase }, { on := 4, ground := Go.Ground.phase }], guard := none }) rfl (fun K hK => ?_) AllReadyH.nil
          have ff : w0.frozen? ⟨N + 1 + 1, 0, none⟩ = false := frozen_of HX.out.b2
          have cc := HX.out.at_.2.2
          go_simp
          refine hK.out _ _ (HSs.out _ hH0) (fun _ => ?_)
          clear hK hH0 ff cc
          try simp only [Act.put, List.setIfInBounds_toArray, List.set_cons_zero, List.set_cons_succ]
          refine wpAnyH_done (by kernel_rfl) ?_ _

          rw [Hv.out]
          clear Hv
          have HX := Lib.hid (HX.out.set hRl y)
          have HZ := Lib.hid (HZ.out.set (by omega) hN2 hN3 0 (.int .u32 (y : Nat)))
          generalize w0.setCell ⟨N + 1 + 1, 0, none⟩ (.int .u32 (y : Nat)) = W at *
          obtain ⟨b0, b1, b2, b3, b4⟩ := HZ.out.at5
          by_cases e1 : op = 1
          · have HL := Lib.hid (HL.out.trans (if_pos e1))
            have HF := Lib.hid (Hfin.out W (by rw [HL.out]; exact HX.out) HZ.out.k0)
            clear Hfin HL b1 b2 b3 b4 hov hab
            subst e1
            gi_wp2
            exact ⟨by first | exact HZ.out.kf | (rw [← hsz]; exact HZ.out.kf), HZ.out.kb, HF.out⟩
          have q1 : (op == 1) = false := by rw [beq_eq_false_iff_ne]; exact e1
          have HL := Lib.hid (HL.out.trans (if_neg e1))
          by_cases e2 : op = 2
          · have HL := Lib.hid (HL.out.trans (if_pos e2))
            obtain ⟨v0, v1⟩ := hov e2
            obtain ⟨sv, rfl⟩ := Int.eq_ofNat_of_zero_le v0
            have v32 : sv < 32 := by omega
            have r3 := pow_u32 sv v32
            have pv : 2 ^ sv < 2 ^ 32 := Nat.pow_lt_pow_right (by decide) v32
            have r4 := or_u32 y (2 ^ sv) y0 (by omega)
            rw [Int.toNat_natCast] at HL
            rw [Int.natCast_pow, show ((2 : Nat) : Int) = 2 from rfl] at r3 r4
            have Hv : Hid (bits .or .u32 (y : Int) (IntKind.u32.wrap (2 ^ sv)) = ((y ||| 2 ^ sv : Nat) : Int)) := Lib.hid (by
              show bits .or .u32 (y : Int) ((2 : Int) ^ sv % 4294967296) = _
              rw [r3]; exact r4)
            have HS0 : Hid (W.cell? ⟨Bx, 4, none⟩ = some (.int .i64 (sv : Nat))) := Lib.hid b4
            subst e2
            clear pv hov hab r3 r4 b1 b2 b3 b4
            gi_wp2
            clear b0
            gi_wp2
            have hS0 : W.drew.cell? ⟨Bx, 4, none⟩ = some (.int .i64 (sv : Nat)) := HS0.out
            have HX := Lib.hid HX.out.drew
            have HZ := Lib.hid HZ.out.drew
            refine wpIn_region_held_drew (S := fun w' => w'.cell? ⟨Bx, 4, none⟩ = some (.int .i64 (sv : Nat))) (by kernel_rfl) (by kernel_rfl) (fun h => by obtain ⟨_, _, h⟩ := h; exact h) hS0 (fun hH0 => ?_)
            clear hS0 HS0
            generalize W.drew = w0 at *
            have HSs : Hid (∀ v, w0.cell? ⟨Bx, 4, none⟩ = some (.int .i64 (sv : Nat)) → (w0.setCell ⟨N + 1 + 1, 0, none⟩ v).cell? ⟨Bx, 4, none⟩ = some (.int .i64 (sv : Nat))) := Lib.hid fun v h => cell_far hN3 h
            refine wpAnyH_take (i := 1) (oi := { dst := some 111, op := Go.Op.fieldAddr 78 (Go.Operand.tmp 9) 4, type := 0, pos := "cut.go:45", after := #[], guard := none }) rfl (by kernel_rfl) (by kernel_rfl) (by kernel_rfl) (fun _ _ _ h => h) (Or.inl ⟨by rfl, fun w hw => by (have p0 := hw; go_simp; try with_reducible rfl)⟩) (by assumption) ?_
            try simp only [Act.put, List.setIfInBounds_toArray, List.set_cons_zero, List.set_cons_succ]
            refine wpAnyH_take (i := 2) (oi := { dst := some 112, op := Go.Op.load 3 (Go.Operand.tmp 111), type := 3, pos := "cut.go:45", after := #[{ on := 1, ground := Go.Ground.data }], guard := none }) rfl (by kernel_rfl) (by kernel_rfl) (by kernel_rfl) (fun _ _ _ h => h) (Or.inl ⟨by rfl, fun w hw => by (have p0 := hw; go_simp; try with_reducible rfl)⟩) (by assumption) ?_
            try simp only [Act.put, List.setIfInBounds_toArray, List.set_cons_zero, List.set_cons_succ]
            refine wpAnyH_take (i := 3) (oi := { dst := some 113, op := Go.Op.binOp Go.BinOp.shl 39 (Go.Operand.const (Go.Value.int Go.IntKind.u32 1)) (Go.Operand.tmp 112) 3, type := 39, pos := "cut.go:45", after := #[{ on := 2, ground := Go.Ground.data }], guard := none }) rfl (by kernel_rfl) (by kernel_rfl) (by kernel_rfl) (fun _ _ _ h => h) (Or.inl ⟨by rfl, fun w hw => by (have p0 := hw; go_simp; try with_reducible rfl)⟩) (by assumption) ?_
            try simp only [Act.put, List.setIfInBounds_toArray, List.set_cons_zero, List.set_cons_succ]
            refine wpAnyH_ready (rs := [0]) (by kernel_rfl) (by simp) ?_
            refine AllReadyH.cons (o := { dst := some 110, op := Go.Op.load 39 (Go.Operand.tmp 5), type := 39, pos := "cut.go:45", after := #[], guard := none }) rfl (fun K hK => ?_) AllReadyH.nil
            have cc := HX.out.at_.2.2
            go_simp
            clear cc
            refine hK.out _ _ hH0 (fun hH1 => ?_)
            clear hK hH0
            have hH0 := hH1
            clear hH1
            try simp only [Act.put, List.setIfInBounds_toArray, List.set_cons_zero, List.set_cons_succ]
            refine wpAnyH_take (i := 4) (oi := { dst := some 114, op := Go.Op.binOp Go.BinOp.or 39 (Go.Operand.tmp 110) (Go.Operand.tmp 113) 39, type := 39, pos := "cut.go:45", after := #[{ on := 0, ground := Go.Ground.data }, { on := 3, ground := Go.Ground.data }], guard := none }) rfl (by kernel_rfl) (by kernel_rfl) (by kernel_rfl) (fun _ _ _ h => h) (Or.inl ⟨by rfl, fun w hw => by (have p0 := hw; go_simp; try with_reducible rfl)⟩) (by assumption) ?_
            try simp only [Act.put, List.setIfInBounds_toArray, List.set_cons_zero, List.set_cons_succ]
            refine wpAnyH_ready (rs := [5]) (by kernel_rfl) (by simp) ?_
            refine AllReadyH.cons (o := { dst := none, op := Go.Op.store 39 (Go.Operand.tmp 5) (Go.Operand.tmp 114), type := 0, pos := "cut.go:45", after := #[{ on := 4, ground := Go.Ground.data }, { on := 0, ground := Go.Ground.phase }, { on := 1, ground := Go.Ground.phase }, { on := 2, ground := Go.Ground.phase }, { on := 3, ground := Go.Ground.phase }, { on := 4, ground := Go.Ground.phase }], guard := none }) rfl (fun K hK => ?_) AllReadyH.nil
            have ff : w0.frozen? ⟨N + 1 + 1, 0, none⟩ = false := frozen_of HX.out.b2
            have cc := HX.out.at_.2.2
            go_simp
            refine hK.out _ _ (HSs.out _ hH0) (fun _ => ?_)
            clear hK hH0 ff cc
            try simp only [Act.put, List.setIfInBounds_toArray, List.set_cons_zero, List.set_cons_succ]
            refine wpAnyH_done (by kernel_rfl) ?_ _

            rw [Hv.out]
            have HX := Lib.hid (HX.out.set hRl (y ||| 2 ^ sv))
            have HZ := Lib.hid (HZ.out.set (by omega) hN2 hN3 0 (.int .u32 (y ||| 2 ^ sv : Nat)))
            have HF := Lib.hid (Hfin.out _ (by rw [HL.out]; exact HX.out) HZ.out.k0)
            gi_wp2
            exact ⟨by first | exact HZ.out.kf | (rw [← hsz]; exact HZ.out.kf), HZ.out.kb, HF.out⟩
          · have q2 : (op == 2) = false := by rw [beq_eq_false_iff_ne]; exact e2
            have HL := Lib.hid (HL.out.trans (if_neg e2))
            obtain ⟨⟨a0, a1⟩, c0, c1⟩ := hab (by omega)
            obtain ⟨sa, rfl⟩ := Int.eq_ofNat_of_zero_le a0
            obtain ⟨sb, rfl⟩ := Int.eq_ofNat_of_zero_le c0
            have a32 : sa < 32 := by omega
            have b32 : sb < 32 := by omega
            have r3 := pow_u32 sa a32
            have r5 := pow_u32 sb b32
            have pa : 2 ^ sa < 2 ^ 32 := Nat.pow_lt_pow_right (by decide) a32
            have pb : 2 ^ sb < 2 ^ 32 := Nat.pow_lt_pow_right (by decide) b32
            have pab : 2 ^ sa ||| 2 ^ sb < 2 ^ 32 := Nat.or_lt_two_pow pa pb
            have r4 := or_u32 (2 ^ sa) (2 ^ sb) (by omega) (by omega)
            have r6 := or_u32 y (2 ^ sa ||| 2 ^ sb) y0 (by omega)
            rw [Int.toNat_natCast, Int.toNat_natCast] at HL
            rw [Int.natCast_pow, show ((2 : Nat) : Int) = 2 from rfl] at r3 r5
            rw [Int.natCast_pow, Int.natCast_pow, show ((2 : Nat) : Int) = 2 from rfl] at r4
            have Hv : Hid (bits .or .u32 (y : Int) (bits .or .u32 (IntKind.u32.wrap (2 ^ sa)) (IntKind.u32.wrap (2 ^ sb))) = ((y ||| (2 ^ sa ||| 2 ^ sb) : Nat) : Int)) := Lib.hid (by
              show bits .or .u32 (y : Int) (bits .or .u32 ((2 : Int) ^ sa % 4294967296) ((2 : Int) ^ sb % 4294967296)) = _
              rw [r3, r5, r4]; exact r6)
            have HL : Hid (sL = y ||| (2 ^ sa ||| 2 ^ sb)) := Lib.hid (HL.out.trans (Nat.or_assoc _ _ _))
            have HS0 : Hid (W.cell? ⟨Bx, 2, none⟩ = some (.int .i64 (sa : Nat)) ∧ W.cell? ⟨Bx, 3, none⟩ = some (.int .i64 (sb : Nat))) := Lib.hid ⟨b2, b3⟩
            clear pa pb pab hov hab r3 r4 r5 r6 b1 b2 b3 b4
            gi_wp2
            clear b0
            gi_wp2
            have hS0 : W.drew.cell? ⟨Bx, 2, none⟩ = some (.int .i64 (sa : Nat)) ∧ W.drew.cell? ⟨Bx, 3, none⟩ = some (.int .i64 (sb : Nat)) := HS0.out
            have HX := Lib.hid HX.out.drew
            have HZ := Lib.hid HZ.out.drew
            refine wpIn_region_held_drew (S := fun w' => w'.cell? ⟨Bx, 2, none⟩ = some (.int .i64 (sa : Nat)) ∧ w'.cell? ⟨Bx, 3, none⟩ = some (.int .i64 (sb : Nat))) (by kernel_rfl) (by kernel_rfl) (fun h => by obtain ⟨_, _, h⟩ := h; exact h) hS0 (fun hH0 => ?_)
            clear hS0 HS0
            generalize W.drew = w0 at *
            have HSs : Hid (∀ v, w0.cell? ⟨Bx, 2, none⟩ = some (.int .i64 (sa : Nat)) ∧ w0.cell? ⟨Bx, 3, none⟩ = some (.int .i64 (sb : Nat)) → (w0.setCell ⟨N + 1 + 1, 0, none⟩ v).cell? ⟨Bx, 2, none⟩ = some (.int .i64 (sa : Nat)) ∧ (w0.setCell ⟨N + 1 + 1, 0, none⟩ v).cell? ⟨Bx, 3, none⟩ = some (.int .i64 (sb : Nat))) := Lib.hid fun v h => ⟨cell_far hN3 h.1, cell_far hN3 h.2⟩
            refine wpAnyH_take (i := 1) (oi := { dst := some 98, op := Go.Op.fieldAddr 78 (Go.Operand.tmp 9) 2, type := 0, pos := "cut.go:47", after := #[], guard := none }) rfl (by kernel_rfl) (by kernel_rfl) (by kernel_rfl) (fun _ _ _ h => h) (Or.inl ⟨by rfl, fun w hw => by (obtain ⟨p0, p1⟩ := hw; go_simp; try with_reducible rfl)⟩) (by assumption) ?_
            try simp only [Act.put, List.setIfInBounds_toArray, List.set_cons_zero, List.set_cons_succ]
            refine wpAnyH_take (i := 2) (oi := { dst := some 99, op := Go.Op.load 3 (Go.Operand.tmp 98), type := 3, pos := "cut.go:47", after := #[{ on := 1, ground := Go.Ground.data }], guard := none }) rfl (by kernel_rfl) (by kernel_rfl) (by kernel_rfl) (fun _ _ _ h => h) (Or.inl ⟨by rfl, fun w hw => by (obtain ⟨p0, p1⟩ := hw; go_simp; try with_reducible rfl)⟩) (by assumption) ?_
            try simp only [Act.put, List.setIfInBounds_toArray, List.set_cons_zero, List.set_cons_succ]
            refine wpAnyH_take (i := 3) (oi := { dst := some 100, op := Go.Op.binOp Go.BinOp.shl 39 (Go.Operand.const (Go.Value.int Go.IntKind.u32 1)) (Go.Operand.tmp 99) 3, type := 39, pos := "cut.go:47", after := #[{ on := 2, ground := Go.Ground.data }], guard := none }) rfl (by kernel_rfl) (by kernel_rfl) (by kernel_rfl) (fun _ _ _ h => h) (Or.inl ⟨by rfl, fun w hw => by (obtain ⟨p0, p1⟩ := hw; go_simp; try with_reducible rfl)⟩) (by assumption) ?_
            try simp only [Act.put, List.setIfInBounds_toArray, List.set_cons_zero, List.set_cons_succ]
            refine wpAnyH_take (i := 4) (oi := { dst := some 101, op := Go.Op.fieldAddr 78 (Go.Operand.tmp 9) 3, type := 0, pos := "cut.go:47", after := #[], guard := none }) rfl (by kernel_rfl) (by kernel_rfl) (by kernel_rfl) (fun _ _ _ h => h) (Or.inl ⟨by rfl, fun w hw => by (obtain ⟨p0, p1⟩ := hw; go_simp; try with_reducible rfl)⟩) (by assumption) ?_
            try simp only [Act.put, List.setIfInBounds_toArray, List.set_cons_zero, List.set_cons_succ]
            refine wpAnyH_take (i := 5) (oi := { dst := some 102, op := Go.Op.load 3 (Go.Operand.tmp 101), type := 3, pos := "cut.go:47", after := #[{ on := 4, ground := Go.Ground.data }], guard := none }) rfl (by kernel_rfl) (by kernel_rfl) (by kernel_rfl) (fun _ _ _ h => h) (Or.inl ⟨by rfl, fun w hw => by (obtain ⟨p0, p1⟩ := hw; go_simp; try with_reducible rfl)⟩) (by assumption) ?_
            try simp only [Act.put, List.setIfInBounds_toArray, List.set_cons_zero, List.set_cons_succ]
            refine wpAnyH_take (i := 6) (oi := { dst := some 103, op := Go.Op.binOp Go.BinOp.shl 39 (Go.Operand.const (Go.Value.int Go.IntKind.u32 1)) (Go.Operand.tmp 102) 3, type := 39, pos := "cut.go:47", after := #[{ on := 5, ground := Go.Ground.data }], guard := none }) rfl (by kernel_rfl) (by kernel_rfl) (by kernel_rfl) (fun _ _ _ h => h) (Or.inl ⟨by rfl, fun w hw => by (obtain ⟨p0, p1⟩ := hw; go_simp; try with_reducible rfl)⟩) (by assumption) ?_
            try simp only [Act.put, List.setIfInBounds_toArray, List.set_cons_zero, List.set_cons_succ]
            refine wpAnyH_take (i := 7) (oi := { dst := some 104, op := Go.Op.binOp Go.BinOp.or 39 (Go.Operand.tmp 100) (Go.Operand.tmp 103) 39, type := 39, pos := "cut.go:47", after := #[{ on := 3, ground := Go.Ground.data }, { on := 6, ground := Go.Ground.data }], guard := none }) rfl (by kernel_rfl) (by kernel_rfl) (by kernel_rfl) (fun _ _ _ h => h) (Or.inl ⟨by rfl, fun w hw => by (obtain ⟨p0, p1⟩ := hw; go_simp; try with_reducible rfl)⟩) (by assumption) ?_
            try simp only [Act.put, List.setIfInBounds_toArray, List.set_cons_zero, List.set_cons_succ]
            refine wpAnyH_ready (rs := [0]) (by kernel_rfl) (by simp) ?_
            refine AllReadyH.cons (o := { dst := some 97, op := Go.Op.load 39 (Go.Operand.tmp 5), type := 39, pos := "cut.go:47", after := #[], guard := none }) rfl (fun K hK => ?_) AllReadyH.nil
            have cc := HX.out.at_.2.2
            go_simp
            clear cc
            refine hK.out _ _ hH0 (fun hH1 => ?_)
            clear hK hH0
            have hH0 := hH1
            clear hH1
            try simp only [Act.put, List.setIfInBounds_toArray, List.set_cons_zero, List.set_cons_succ]
            refine wpAnyH_take (i := 8) (oi := { dst := some 105, op := Go.Op.binOp Go.BinOp.or 39 (Go.Operand.tmp 97) (Go.Operand.tmp 104) 39, type := 39, pos := "cut.go:47", after := #[{ on := 0, ground := Go.Ground.data }, { on := 7, ground := Go.Ground.data }], guard := none }) rfl (by kernel_rfl) (by kernel_rfl) (by kernel_rfl) (fun _ _ _ h => h) (Or.inl ⟨by rfl, fun w hw => by (obtain ⟨p0, p1⟩ := hw; go_simp; try with_reducible rfl)⟩) (by assumption) ?_
            try simp only [Act.put, List.setIfInBounds_toArray, List.set_cons_zero, List.set_cons_succ]
            refine wpAnyH_ready (rs := [9]) (by kernel_rfl) (by simp) ?_
            refine AllReadyH.cons (o := { dst := none, op := Go.Op.store 39 (Go.Operand.tmp 5) (Go.Operand.tmp 105), type := 0, pos := "cut.go:47", after := #[{ on := 8, ground := Go.Ground.data }, { on := 0, ground := Go.Ground.phase }, { on := 1, ground := Go.Ground.phase }, { on := 2, ground := Go.Ground.phase }, { on := 3, ground := Go.Ground.phase }, { on := 4, ground := Go.Ground.phase }, { on := 5, ground := Go.Ground.phase }, { on := 6, ground := Go.Ground.phase }, { on := 7, ground := Go.Ground.phase }, { on := 8, ground := Go.Ground.phase }], guard := none }) rfl (fun K hK => ?_) AllReadyH.nil
            have ff : w0.frozen? ⟨N + 1 + 1, 0, none⟩ = false := frozen_of HX.out.b2
            have cc := HX.out.at_.2.2
            go_simp
            refine hK.out _ _ (HSs.out _ hH0) (fun _ => ?_)
            clear hK hH0 ff cc
            try simp only [Act.put, List.setIfInBounds_toArray, List.set_cons_zero, List.set_cons_succ]
            refine wpAnyH_done (by kernel_rfl) ?_ _

            rw [Hv.out]
            have HX := Lib.hid (HX.out.set hRl (y ||| (2 ^ sa ||| 2 ^ sb)))
            have HZ := Lib.hid (HZ.out.set (by omega) hN2 hN3 0 (.int .u32 (y ||| (2 ^ sa ||| 2 ^ sb) : Nat)))
            have HF := Lib.hid (Hfin.out _ (by rw [HL.out]; exact HX.out) HZ.out.k0)
            gi_wp2
            exact ⟨by first | exact HZ.out.kf | (rw [← hsz]; exact HZ.out.kf), HZ.out.kb, HF.out⟩
        · have hb2 : s.testBit tg = false := by simpa using hb
          have Hfin : Hid (∃ (s : Nat) (b' : List Bool), AX w N T i (R i) s b' W ∧ b'.length = (B i).length ∧ s < 2 ^ n ∧ Hid ((pre ++ [(⟨x, hx⟩ : Ix code.length)]).map (·.1) = backN code.length (pre ++ [(⟨x, hx⟩ : Ix code.length)]).length → s = ctC (code.drop (code.length - (pre ++ [(⟨x, hx⟩ : Ix code.length)]).length)) be ∧ Mrk (B i) b' code be (code.length - (pre ++ [(⟨x, hx⟩ : Ix code.length)]).length)) ∧ KeepsFrom 0 W0 W) := Lib.hid (by
            refine ⟨_, _, HX.out, Hl.out, Hs.out, Lib.hid fun h => ?_, HZ.out.k0⟩
            obtain ⟨e1, e2, e3⟩ := Hps.out h
            have hb3 : (ctC (code.drop (x + 1)) be).testBit code[x].to.toNat = false := by rw [htg, Int.toNat_natCast, ← e2]; exact hb2
            rw [e1]
            exact ⟨by rw [ctC_drop hx, ctS, if_neg (by rw [hb3]; simp), e2], e3.no hx hb3⟩)
          clear hX hl hs hpre hk hhx Hps Hl Hs Hcl hb
          gi_wp2
          exact ⟨HZ.out.kf, HZ.out.kb, Hfin.out⟩
      case done =>
        rintro D ys W hD hys ⟨s, b', hX, hl, hs, hpre, hk⟩ hKd
        have hyl : ys.length = code.length := by rw [← List.length_map (f := fun x : Ix code.length => x.1), hys, backN_len]
        have hse := hpre.out (by rw [hyl]; exact hys)
        rw [hyl, Nat.sub_self, List.drop_zero] at hse
        have HX := Lib.hid hX
        have Hse := Lib.hid hse
        have Hl := Lib.hid hl
        have hM0 : Marks W0.heap.size [{ target := .collected D, args := #[] }] W := (Marks.nil _ W0).cons (Marks.nil _ W) (Nat.le_refl _) hD hKd
        have HM0 := Lib.hid hM0
        obtain ⟨x0, x1, x2⟩ := hX.at_
        clear hX hl hs hpre hk hKd hys hse hM0
        go_wp2_with fail
        refine marks_all HM0.out (fun W' hS => ⟨_, results_tmp rfl _ _ _, b', by rw [Hse.out.1]; rfl, (hS.block (R i) (.inl (by omega))).trans HX.out.row, Hl.out, Hse.out.2, ⟨hS.os.trans HX.out.bel.os, hS.tape.trans HX.out.bel.tape, hS.output.trans HX.out.bel.output, by rw [hS.size]; exact HX.out.bel.size, fun k hk hne => (hS.block k (.inl (by omega))).trans (HX.out.bel.block k hk hne)⟩⟩)

end Go.Proofs.Ytadmmciiahdmcaa
