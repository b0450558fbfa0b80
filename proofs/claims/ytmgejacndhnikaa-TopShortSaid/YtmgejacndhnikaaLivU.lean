/- live.Trim walked: rows and one block's way back. -/
import Derived.Test.YtmgejacndhnikaaHeapC
import Derived.Test.YtmgejacndhnikaaEntR
import Derived.Test.YtmgejacndhnikaaLivC
import Derived.Deep.CutRange
import Derived.Sort.CutIn
namespace Go.Proofs.Ytmgejacndhnikaa
set_option maxRecDepth 100000
open Go.RowKit Go.Shelf
attribute [local go_sem] Oper.semAt_some

/-- A row of blocks, each code as it lay at first or a row that the call made. -/
def PRow (w0 wr : World) (PB cap : Nat) (pc : List Blk) (lo N : Nat) : Prop :=
  ∃ es : List Ent, Own Ent.cells 4 wr w0.heap.size 85 (.slice (some ⟨PB, 0, none⟩) pc.length cap) es ∧ es.length = pc.length ∧ (∀ (i : Nat) (e : Ent) (b : Blk), es[i]? = some e → pc[i]? = some b → (e.n = b.code.length ∧ e.test = b.test ∧ e.thn = b.thn ∧ e.els = b.els) ∧ (RdSt w0 e.A b.code ∨ OwnSt wr w0.heap.size 87 (.slice e.A e.n e.cap) b.code)) ∧
    ∀ (i : Nat) (e : Ent), es[i]? = some e → lo ≤ i → ∀ a, e.A = some a → 0 < e.n → a.block < N
section
variable {w0 wr w' : World} {PB cap lo N : Nat} {pc : List Blk}
/-- One entry: what its cells say, its code. -/
theorem PRow.entry (h : PRow w0 wr PB cap pc lo N) (hb : Below w0.heap.size w0 wr) {k : Nat} (hk : k < pc.length) : ∃ (A' : Option Addr) (cap' : Nat), (wr.cell? ⟨PB, k * 4, none⟩ = some (.slice A' pc[k].code.length cap') ∧ wr.cell? ⟨PB, k * 4 + 1, none⟩ = some (.int .i64 pc[k].test) ∧ wr.cell? ⟨PB, k * 4 + 2, none⟩ = some (.int .i64 pc[k].thn) ∧ wr.cell? ⟨PB, k * 4 + 3, none⟩ = some (.int .i64 pc[k].els)) ∧ RdSt wr A' pc[k].code ∧ (lo ≤ k → ∀ a, A' = some a → 0 < pc[k].code.length → a.block < N) := by
  obtain ⟨es, h1, h2, h3, h4⟩ := h
  obtain ⟨A, c, e, hr, _⟩ := Own.form entCells_len h1
  have eA : A = some ⟨PB, 0, none⟩ := by injection e with e; exact e.symm
  subst eA
  have hke : k < es.length := by omega
  obtain ⟨b, off, e', hbl, hc⟩ := hr (by omega)
  injection e' with e'
  injection e' with e1 e2
  subst e1 e2
  obtain ⟨⟨f1, f2, f3, f4⟩, f5⟩ := h3 k es[k] pc[k] (List.getElem?_eq_getElem hke) (List.getElem?_eq_getElem hk)
  have hcc := hc k es[k] (List.getElem?_eq_getElem hke)
  refine ⟨es[k].A, es[k].cap, ⟨?_, ?_, ?_, ?_⟩, ?_, fun hl a ha hn => h4 k es[k] (List.getElem?_eq_getElem hke) hl a ha (by rw [f1]; exact hn)⟩
  · have := hcc 0 (by omega); simpa [Ent.cells, f1] using this
  · have := hcc 1 (by omega); simpa [Ent.cells, f2] using this
  · have := hcc 2 (by omega); simpa [Ent.cells, f3] using this
  · have := hcc 3 (by omega); simpa [Ent.cells, f4] using this
  · rcases f5 with f5 | f5
    · exact Rd.below f5 hb
    · obtain ⟨A', c', g1, g2, _⟩ := Own.form stepCells_len f5
      have : es[k].A = A' := by injection g1
      rw [this]; exact g2
theorem PRow.rd (h : PRow w0 wr PB cap pc lo N) (hb : Below w0.heap.size w0 wr) : RdBk wr (some ⟨PB, 0, none⟩) pc := by
  intro hn
  refine ⟨PB, 0, rfl, ?_, fun k x hk => ?_⟩
  · obtain ⟨es, h1, _⟩ := h
    exact (World.ownsRow.lt h1 PB rfl).2
  · have hkl := (List.getElem?_eq_some_iff.1 hk).1
    rw [List.getElem?_eq_getElem hkl] at hk
    injection hk with hk
    subst hk
    obtain ⟨A', cap', ⟨h1, h2, h3, h4⟩, h5, _⟩ := h.entry hb hkl
    rw [Nat.zero_add]
    exact ⟨A', cap', h1, h2, h3, h4, h5⟩
def TyK (w w' : World) : Prop := ∀ (k : Nat) (a : Array Value) (e : Nat), e = 85 ∨ e = 87 → w.heap[k]? = some (Obj.cells a e (0, 0)) → w'.heap[k]? = some (Obj.cells a e (0, 0))
theorem PRow.tyk (h : PRow w0 wr PB cap pc lo N) (hk : TyK wr w') : PRow w0 w' PB cap pc lo N :=
  let ⟨es, h1, h2, h3, h4⟩ := h
  ⟨es, own_tyk h1 fun k a => hk k a _ (.inl rfl), h2, fun i e b he hb => ⟨(h3 i e b he hb).1, (h3 i e b he hb).2.imp id fun h => own_tyk h fun k a => hk k a _ (.inr rfl)⟩, h4⟩
/-- All that there is lies below what comes. -/
theorem PRow.fresh (h : PRow w0 wr PB cap pc lo N) (hb : Below w0.heap.size w0 wr) : PRow w0 wr PB cap pc 0 wr.heap.size := by
  obtain ⟨es, h1, h2, h3, _⟩ := h
  refine ⟨es, h1, h2, h3, fun i e he _ a ha hn => ?_⟩
  have hi := (List.getElem?_eq_some_iff.1 he).1
  obtain ⟨⟨f1, _⟩, f5⟩ := h3 i e pc[i] he (List.getElem?_eq_getElem (by omega))
  rcases f5 with f5 | f5
  · obtain ⟨b, off, e', hbl, _⟩ := f5 (by omega)
    rw [ha] at e'
    injection e' with e'
    subst e'
    exact Nat.lt_of_lt_of_le hbl hb.size
  · rw [ha] at f5
    exact (World.ownsRow.lt f5 a.block rfl).2
theorem TyK.bel1 {M : Nat} {x : Array Value} {E : Nat} (hM : wr.heap[M]? = some (.cells x E (0, 0))) (h1 : E ≠ 85) (h2 : E ≠ 87) (hb : Bel1 M wr w') : TyK wr w' := fun k a e he hk => (hb.block k (lt_cells hk) (by
  rcases he with rfl | rfl
  · exact ty_ne hk hM (Ne.symm h1)
  · exact ty_ne hk hM (Ne.symm h2))).trans hk
theorem TyK.below (hb : Below wr.heap.size wr w') : TyK wr w' := fun k _ _ _ hk => (hb.block k (lt_cells hk)).trans hk
theorem PRow.ty (h : PRow w0 wr PB cap pc lo N) : ∃ cur, wr.heap[PB]? = some (.cells cur 85 (0, 0)) := by
  obtain ⟨es, h1, _⟩ := h
  exact own_ty h1 rfl
theorem PRow.at_ (h : PRow w0 wr PB cap pc lo N) : w0.heap.size ≤ PB := by
  obtain ⟨es, h1, _⟩ := h
  exact (World.ownsRow.lt h1 PB rfl).1
/-- A block's code is another. -/
theorem PRow.set {i : Nat} (h : PRow w0 wr PB cap pc i N) (hi : i < pc.length) {Ac : Option Addr} {n cc : Nat} {c : List Step} (hn : n = c.length) (hc : OwnSt wr w0.heap.size 87 (.slice Ac n cc) c) : PRow w0 (wr.setCell ⟨PB, i * 4, none⟩ (.slice Ac n cc)) PB cap (pc.set i { pc[i] with code := c }) (i + 1) N := by
  have hty := h.ty
  obtain ⟨es, h1, h2, h3, h4'⟩ := h
  obtain ⟨cur, hcur⟩ := hty
  have hst : ∀ (k : Nat) (a : Array Value), wr.heap[k]? = some (Obj.cells a 87 (0, 0)) → (wr.setCell ⟨PB, i * 4, none⟩ (.slice Ac n cc)).heap[k]? = some (Obj.cells a 87 (0, 0)) := fun k a hk => (Below.heap_setCell _ _ _ _ (ty_ne hk hcur (by decide))).trans hk
  have hie : i < es.length := by omega
  refine ⟨es.set i ⟨Ac, n, cc, es[i].test, es[i].thn, es[i].els⟩, ?_, by rw [List.length_set, List.length_set]; exact h2, fun j e b he hb => ?_, fun j e he hj a ha hna => ?_⟩
  · have hs : es.length = pc.length := h2
    have hw : wr.ownsRow w0.heap.size 85 4 (.slice (some ⟨PB, 0, none⟩) pc.length cap) pc.length (es.flatMap Ent.cells) := by have := h1; unfold Own at this; rw [hs] at this; exact this
    have h4 := Own.setJ hw (j := i * 4) (by omega) (.slice Ac n cc)
    have h5 := flat_set entCells_len es i 0 (.slice Ac n cc) ⟨Ac, n, cc, es[i].test, es[i].thn, es[i].els⟩ hie (by omega) rfl
    rw [Nat.add_zero] at h5
    rw [h5] at h4
    unfold Own
    rw [List.length_set, List.length_set, hs]
    exact h4
  · rw [List.getElem?_set] at he hb
    by_cases e1 : i = j
    · subst e1
      rw [if_pos rfl, if_pos hie] at he
      rw [if_pos rfl, if_pos hi] at hb
      injection he with he
      injection hb with hb
      subst he hb
      obtain ⟨⟨_, g2, g3, g4⟩, _⟩ := h3 i es[i] pc[i] (List.getElem?_eq_getElem hie) (List.getElem?_eq_getElem hi)
      exact ⟨⟨hn, g2, g3, g4⟩, .inr (own_tyk hc hst)⟩
    · rw [if_neg e1] at he hb
      exact ⟨(h3 j e b he hb).1, (h3 j e b he hb).2.imp id fun h => own_tyk h hst⟩
  · rw [List.getElem?_set, if_neg (by omega)] at he
    exact h4' j e he (by omega) a ha hna
end
/-- On the way back through a block. -/
structure TX (wr : World) (M N : Nat) (b : Bool) (s : Nat) (vc : Value) (lst : List Step) (W : World) : Prop where
  bel : Bel1 M wr W
  bM : W.heap[M]? = some (.cells #[.bool b] 4 (0, 0))
  bC : W.heap[N + 1]? = some (.cells #[vc] 48 (0, 0))
  bS : W.heap[N + 1 + 1]? = some (.cells #[.int .u32 (s : Nat)] 24 (0, 0))
  own : OwnSt W (N + 1 + 1 + 1 + 1) 87 vc lst
  n0 : wr.heap.size ≤ N
section
variable {wr W W' : World} {M N s : Nat} {b : Bool} {vc : Value} {lst : List Step}
theorem TX.alloc (h : TX wr M N b s vc lst W) (o : Obj) : TX wr M N b s vc lst (W.alloc o) :=
  have k : ∀ {j : Nat} {x : Obj}, W.heap[j]? = some x → (W.alloc o).heap[j]? = some x := fun {j _} hx => (Below.heap_alloc W o j (lt_cells hx)).trans hx
  ⟨h.bel.alloc o, k h.bM, k h.bC, k h.bS, Own.alloc h.own o, h.n0⟩
theorem TX.drew (h : TX wr M N b s vc lst W) : TX wr M N b s vc lst W.drew := ⟨h.bel.drew, h.bM, h.bC, h.bS, Own.drew h.own, h.n0⟩
theorem TX.below (h : TX wr M N b s vc lst W) (hb : Below W.heap.size W W') : TX wr M N b s vc lst W' :=
  have k : ∀ {j : Nat} {x : Obj}, W.heap[j]? = some x → W'.heap[j]? = some x := fun {j _} hx => (hb.block j (lt_cells hx)).trans hx
  ⟨h.bel.trans ⟨hb.os, hb.tape, hb.output, hb.size, fun j hj _ => hb.block j hj⟩, k h.bM, k h.bC, k h.bS, Own.below h.own hb, h.n0⟩
theorem TX.grown (h : TX wr M N b s vc lst W) {row : Option Nat} (hg : W.grownBy W' row) (hk : ∀ (k : Nat) (a : Array Value) (e : Nat), W.heap[k]? = some (Obj.cells a e (0, 0)) → W'.heap[k]? = some (Obj.cells a e (0, 0))) (hr : ∀ k, row = some k → wr.heap.size ≤ k) : TX wr M N b s vc lst W' :=
  ⟨⟨hg.os.trans h.bel.os, hg.tape.trans h.bel.tape, hg.output.trans h.bel.output, Nat.le_trans h.bel.size hg.size, fun j hj hne => (hg.block j (Nat.lt_of_lt_of_le hj h.bel.size) (fun e => by have := hr j e.symm; omega)).trans (h.bel.block j hj hne)⟩, hk _ _ _ h.bM, hk _ _ _ h.bC, hk _ _ _ h.bS, own_tyk h.own fun k a => hk k a _, h.n0⟩
theorem TX.lt (h : TX wr M N b s vc lst W) : M < W.heap.size ∧ N + 1 + 1 < W.heap.size := ⟨lt_cells h.bM, lt_cells h.bS⟩
theorem TX.setM (h : TX wr M N b s vc lst W) : TX wr M N true s vc lst (W.setCell ⟨M, 0, none⟩ (.bool true)) := by
  have k : ∀ {j : Nat} {x : Array Value} {e : Nat}, e ≠ 4 → W.heap[j]? = some (Obj.cells x e (0, 0)) → (W.setCell ⟨M, 0, none⟩ (.bool true)).heap[j]? = some (Obj.cells x e (0, 0)) := fun {j _ _} he hx => (Below.heap_setCell _ _ _ _ (ty_ne hx h.bM he)).trans hx
  exact ⟨h.bel.set_ rfl _, by rw [heap_setC W M 0 _ _ _ h.bM]; rfl, k (by decide) h.bC, k (by decide) h.bS, own_tyk h.own fun j a hj => k (by decide) hj, h.n0⟩
theorem TX.setS (h : TX wr M N b s vc lst W) (y : Nat) : TX wr M N b y vc lst (W.setCell ⟨N + 1 + 1, 0, none⟩ (.int .u32 (y : Nat))) := by
  have k : ∀ {j : Nat} {x : Array Value} {e : Nat}, e ≠ 24 → W.heap[j]? = some (Obj.cells x e (0, 0)) → (W.setCell ⟨N + 1 + 1, 0, none⟩ (.int .u32 (y : Nat))).heap[j]? = some (Obj.cells x e (0, 0)) := fun {j _ _} he hx => (Below.heap_setCell _ _ _ _ (ty_ne hx h.bS he)).trans hx
  have hn := h.n0
  refine ⟨⟨h.bel.os, h.bel.tape, h.bel.output, by have := h.bel.size; simp only [World.setCell]; simp; omega, fun j hj hne => (Below.heap_setCell _ _ _ _ (by show j ≠ N + 1 + 1; omega)).trans (h.bel.block j hj hne)⟩, k (by decide) h.bM, k (by decide) h.bC, by rw [heap_setC W (N + 1 + 1) 0 _ _ _ h.bS]; rfl, own_tyk h.own fun j a hj => k (by decide) hj, h.n0⟩
/-- The code has a row of its own that is another now. -/
theorem TX.setC (h : TX wr M N b s vc lst W) {v' : Value} {lst' : List Step} (hg : W.grownBy W' vc.ownBlock) (hown : OwnSt W' (N + 1 + 1 + 1 + 1) 87 v' lst') : TX wr M N b s v' lst' (W'.setCell ⟨N + 1, 0, none⟩ v') := by
  have k0 : ∀ {j : Nat} {x : Array Value} {e : Nat}, e ≠ 87 → W.heap[j]? = some (Obj.cells x e (0, 0)) → W'.heap[j]? = some (Obj.cells x e (0, 0)) := fun {j _ _} he hx => (hg.block j (lt_cells hx) (fun e' => by
    obtain ⟨cur, hc⟩ := own_ty h.own e'.symm
    rw [hx] at hc
    injection hc with hc
    injection hc with _ hc
    exact he hc)).trans hx
  have hC' := k0 (by decide) h.bC
  have k : ∀ {j : Nat} {x : Array Value} {e : Nat}, e ≠ 48 → W'.heap[j]? = some (Obj.cells x e (0, 0)) → (W'.setCell ⟨N + 1, 0, none⟩ v').heap[j]? = some (Obj.cells x e (0, 0)) := fun {j _ _} he hx => (Below.heap_setCell _ _ _ _ (ty_ne hx hC' he)).trans hx
  have hn := h.n0
  have hs := h.bel.size
  refine ⟨⟨hg.os.trans h.bel.os, hg.tape.trans h.bel.tape, hg.output.trans h.bel.output, by have := hg.size; simp only [World.setCell]; simp; omega, fun j hj hne => (Below.heap_setCell _ _ _ _ (by show j ≠ N + 1; omega)).trans ((hg.block j (by omega) (fun e => by have := (World.ownsRow.lt h.own _ e.symm).1; omega)).trans (h.bel.block j hj hne))⟩, k (by decide) (k0 (by decide) h.bM), by rw [heap_setC W' (N + 1) 0 _ _ _ hC']; rfl, k (by decide) (k0 (by decide) h.bS), own_tyk hown fun j a hj => k (by decide) hj, h.n0⟩
theorem TX.at_ (h : TX wr M N b s vc lst W) : W.cell? ⟨M, 0, none⟩ = some (.bool b) ∧ W.cell? ⟨N + 1, 0, none⟩ = some vc ∧ W.cell? ⟨N + 1 + 1, 0, none⟩ = some (.int .u32 (s : Nat)) ∧ W.frozen? ⟨M, 0, none⟩ = false ∧ W.frozen? ⟨N + 1, 0, none⟩ = false ∧ W.frozen? ⟨N + 1 + 1, 0, none⟩ = false := by
  refine ⟨?_, ?_, ?_, frozen_of h.bM, frozen_of h.bC, frozen_of h.bS⟩
  · rw [cell_of_row W M 0 _ _ _ h.bM]; rfl
  · rw [cell_of_row W (N + 1) 0 _ _ _ h.bC]; rfl
  · rw [cell_of_row W (N + 1 + 1) 0 _ _ _ h.bS]; rfl
end
section
variable {P : Program} {ops : Array Oper} {Q : Exit → Act → World → Prop} {n lvl : Nat}
def plainOp (o : Oper) : Bool := noDefer o && o.guard.isNone
theorem wpListIn_of_wpList (hL : ¬ LetsOut Q) : ∀ (l : List Oper), l.all plainOp = true → ∀ (a : Act) (w : World), wpList P ops Q l a w → wpListIn (Fence.wide.inRound lvl) n P ops Q l a w
  | [], _, _, _, h => h
  | o :: rest, hd, a, w, h => by
    rw [List.all_cons, Bool.and_eq_true] at hd
    have ih := wpListIn_of_wpList hL rest hd.2
    have h1 := hd.1
    unfold plainOp at h1
    rw [Bool.and_eq_true] at h1
    have hg : o.guard = none := by
      have := h1.2
      cases hgo : o.guard with
      | none => rfl
      | some x => rw [hgo] at this; cases this
    have hnd : ∀ o', (#[o] : Array Oper)[0]? = some o' → ∀ c, o'.op ≠ .defer c := fun o' ho' c e => by
      have : o = o' := by simpa using ho'
      subst this
      have := h1.1
      unfold noDefer at this
      rw [e] at this; cases this
    have hw : ∀ y, Region.wanted o y = true := fun y => by simp [Region.wanted, hg]
    unfold wpList at h
    rw [if_pos (hw _)] at h
    unfold wpListIn
    rw [if_pos (hw _)]
    have h0 : wpOp P #[o] Q 0 (wpList P ops Q rest) a w := by
      unfold wpOp
      simp only [show (#[o] : Array Oper)[0]? = some o from rfl, hw, if_true]
      exact h
    have h3 := wpOpIn_of_wp (n := n) (l := lvl) hnd hL (wpOp_mono (fun a w => ih a w) h0)
    unfold wpOpIn at h3
    simp only [show (#[o] : Array Oper)[0]? = some o from rfl, hw, if_true] at h3
    exact h3
/-- A region without draws in a round, walked as outside of it. -/
theorem wpIn_region_plain {id : Nat} {a : Act} {w : World} {l : List Oper} (hd : l.all plainOp = true) (hL : ¬ LetsOut Q) (h : wpList P l.toArray Q l a w) : (Code.region id l.toArray false).wpIn (Fence.wide.inRound lvl) n P Q a w :=
  wpIn_region_lit (wpListIn_of_wpList hL l hd a w h)
end
/-- In a round over the steps: what abides. -/
structure ZT (W0 W : World) (n₀ M : Nat) (W' : World) : Prop where
  kf : KeepsFrom W0.heap.size W W'
  kb : KpB n₀ M W W'
  k0 : KeepsFrom 0 W0 W'
section
variable {W0 W W' X : World} {n₀ M : Nat}
theorem ZT.set (h : ZT W0 W n₀ M W') {r : Nat} (hr : n₀ ≤ r) (hM : r ≠ M) (j : Nat) (v : Value) : ZT W0 W n₀ M (W'.setCell ⟨r, j, none⟩ v) :=
  ⟨h.kf.trans ((KeepsOthers.setCell _ _ _).from _), ⟨h.kb.1.setCell (p := ⟨r, j, none⟩) hr v, fun u hu => by rw [World.cell?_setCell_far _ _ _ _ hM]; exact h.kb.2 u hu⟩, h.k0.trans ((KeepsOthers.setCell _ _ _).from _)⟩
theorem keepsF_below {B : Nat} (hb : Below W'.heap.size W' X) : KeepsFrom B W' X := ⟨hb.size, fun k _ _ h1 _ => (hb.block k (Array.getElem?_eq_some_iff.1 h1).1).trans h1⟩
theorem ZT.below (h : ZT W0 W n₀ M W') (hM : M < W'.heap.size) (hn : n₀ ≤ W'.heap.size) (hb : Below W'.heap.size W' X) : ZT W0 W n₀ M X :=
  ⟨h.kf.trans (keepsF_below hb), ⟨h.kb.1.trans (hb.mono hn), fun v hv => (hb.cell (p := ⟨M, 0, none⟩) hM).trans (h.kb.2 v hv)⟩, h.k0.trans (keepsF_below hb)⟩
theorem ZT.grown (h : ZT W0 W n₀ M W') (hM : M < W'.heap.size) (hn : n₀ ≤ W'.heap.size) {row : Option Nat} (hg : W'.grownBy X row) (hr : ∀ r, row = some r → n₀ ≤ r ∧ r ≠ M ∧ ∃ a e, W'.heap[r]? = some (Obj.cells a e (0, 0))) : ZT W0 W n₀ M X := by
  have kk : ∀ B, KeepsFrom B W' X := fun B => ⟨hg.size, fun k o _ h1 h2 => (hg.block k (Array.getElem?_eq_some_iff.1 h1).1 (fun e => by
    obtain ⟨_, _, a, e', hc⟩ := hr k e.symm
    rw [h1] at hc; injection hc with hc
    subst hc; cases h2)).trans h1⟩
  exact ⟨h.kf.trans (kk _), ⟨h.kb.1.grown hg (by omega) (fun k e => (hr k e).1), fun v hv => (World.cell?_of_block (hg.block M hM (fun e => (hr M e.symm).2.1 rfl))).trans (h.kb.2 v hv)⟩, h.k0.trans (kk _)⟩
end
end Go.Proofs.Ytmgejacndhnikaa
namespace Go.Proofs.Ytmgejacndhnikaa
set_option maxRecDepth 100000
open Go.RowKit Go.Shelf
attribute [local go_sem] Oper.semAt_some

noncomputable def mixT (pc : List Blk) (want : Nat) (F : List Nat) (i : Nat) : List Blk := (trM pc want F).take i ++ pc.drop i
theorem mixT_len {pc : List Blk} {want : Nat} {F : List Nat} {i : Nat} (hi : i ≤ pc.length) : (mixT pc want F i).length = pc.length := by
  unfold mixT; rw [List.length_append, List.length_take, List.length_drop, trM_len]; omega
theorem mixT_zero (pc : List Blk) (want : Nat) (F : List Nat) : mixT pc want F 0 = pc := by simp [mixT]
theorem mixT_all (pc : List Blk) (want : Nat) (F : List Nat) : mixT pc want F pc.length = trM pc want F := by
  unfold mixT; rw [List.take_of_length_le (by rw [trM_len]; exact Nat.le_refl _), List.drop_of_length_le (Nat.le_refl _), List.append_nil]
theorem mixT_at {pc : List Blk} {want : Nat} {F : List Nat} {i : Nat} (hi : i < pc.length) : (mixT pc want F i)[i]'(by rw [mixT_len (by omega)]; exact hi) = pc[i] := by
  have hl : ((trM pc want F).take i).length = i := by rw [List.length_take, trM_len]; omega
  unfold mixT
  rw [List.getElem_append_right (by omega)]
  simp [hl]
theorem mixT_set {pc : List Blk} {want : Nat} {F : List Nat} {i : Nat} (hi : i < pc.length) : (mixT pc want F i).set i (trB want F pc[i]) = mixT pc want F (i + 1) := by
  have hl : ((trM pc want F).take i).length = i := by rw [List.length_take, trM_len]; omega
  unfold mixT
  rw [List.set_append_right _ _ (by omega), hl, Nat.sub_self, List.drop_eq_getElem_cons hi, List.set_cons_zero, List.take_succ_eq_append_getElem (by rw [trM_len]; exact hi), List.append_assoc]
  congr 2
  simp [trM]
/-- Block j has steps that are not needed. -/
def Lost (pc : List Blk) (want : Nat) (F : List Nat) (j : Nat) : Prop := ∃ b, pc[j]? = some b ∧ (kpC b.code (bhL want F b)).length ≠ b.code.length
theorem lost_none {pc : List Blk} {want : Nat} {F : List Nat} (h : ¬ ∃ j, j < pc.length ∧ Lost pc want F j) : trM pc want F = pc := by
  unfold trM
  refine (List.map_congr_left fun b hb => ?_).trans (List.map_id pc)
  obtain ⟨j, hj, rfl⟩ := List.mem_iff_getElem.1 hb
  have hf : (kpC pc[j].code (bhL want F pc[j])).length = pc[j].code.length := by
    by_cases e : (kpC pc[j].code (bhL want F pc[j])).length = pc[j].code.length
    · exact e
    · exact absurd ⟨j, hj, _, List.getElem?_eq_getElem hj, e⟩ h
  unfold trB
  rw [kpC_full hf]; rfl
theorem lost_some {pc : List Blk} {want : Nat} {F : List Nat} {j : Nat} (h : Lost pc want F j) : trM pc want F ≠ pc := fun e => by
  obtain ⟨b, hb, hne⟩ := h
  have h1 : (trM pc want F)[j]? = some (trB want F b) := by unfold trM; rw [List.getElem?_map, hb]; rfl
  rw [e, hb] at h1
  injection h1 with h1
  apply hne
  have := congrArg (fun b : Blk => b.code.length) h1
  exact this.symm
theorem kpC_drop {c : List Step} {k : Nat} (hk : k < c.length) (l : Nat) : kpC (c.drop k) l = if (ctC (c.drop (k + 1)) l).testBit c[k].to.toNat = true then c[k] :: kpC (c.drop (k + 1)) l else kpC (c.drop (k + 1)) l := by
  rw [List.drop_eq_getElem_cons hk]; rfl
theorem cell_farT {w : World} {a j b k : Nat} {v x : Value} (hne : a ≠ b) (h : w.cell? ⟨b, k, none⟩ = some x) : (w.setCell ⟨a, j, none⟩ v).cell? ⟨b, k, none⟩ = some x := by
  rw [World.cell?_setCell_far _ _ _ _ hne]; exact h
theorem ctC_drop' {c : List Step} {k : Nat} (hk : k < c.length) (l : Nat) : ctC (c.drop k) l = ctS c[k] (ctC (c.drop (k + 1)) l) := by
  rw [List.drop_eq_getElem_cons hk, ctC_cons]
def TrimE (p : List Blk) (want : Nat) (w : World) (e : Ending) (w' : World) : Prop :=
  ∃ (A' : Option Addr) (c' : Nat) (q : List Blk), e = .returned (.tuple #[.slice A' p.length c', .int .i64 0]) ∧ TrR want p q ∧ RdBk w' A' q ∧ q.length = p.length ∧ Below w.heap.size w w'
set_option maxHeartbeats 8000000 in
theorem trim_ok (n : Nat) (A : Option Addr) (p : List Blk) (cap want : Nat) (w : World) (hA : RdBk w A p) (hm : p.length ≤ maxLen) (hmc : smallB p) (h0 : pkErr (n : Int) p = 0) (hw : want < 2 ^ n) :
    Calls Try.prog 40 #[.int .i64 (n : Nat), .slice A p.length cap, .int .u32 want] w (TrimE p want w) := by
  have hp := pok_of h0
  have hn1 := hp.n1
  have hn8 := hp.n8
  have h6 : n ≤ 6 := by have := hp.v6; omega
  have h64 : 2 ^ n ≤ 64 := Nat.pow_le_pow_right (by decide) h6
  have Hw := Lib.hid hw
  have hw32 : want < 4294967296 := by omega
  have H0 := Lib.hid h0
  have Hwr := Lib.hid (lvWrong_calls (n : Int) A p cap want w hA hm hmc)
  have hlv : lvErr (n : Int) p want = 0 := by unfold lvErr; rw [if_pos h0, Int.toNat_natCast, if_pos hw]
  rw [hlv] at Hwr
  obtain ⟨es, he1, he2, he3⟩ := ents_of hA
  have Hes := Lib.hid he3
  have HR := Lib.hid he2
  have Hel := Lib.hid he1
  clear hA hp hw h0 hlv he1 he2 he3
  refine calls_of_marks Try.func40 rfl ?_
  simp only [Try.ntmps40, List.size_toArray, List.length_cons, List.length_nil, Nat.reduceAdd, Nat.reduceSub, Array.replicate_succ, Array.replicate_zero, List.push_toArray, List.append_toArray, List.nil_append, List.cons_append]
  go_upto_region 5 with (first
    | (go_at_call 91; refine Hwr.out.mono ?_; rintro e w1 ⟨rfl, hW⟩; have HW1 := Lib.hid hW; clear hW)
    | (go_at_call 92; have Hcl := (cloneBk_calls A es cap w1 (Rd.below HR.out HW1.out) (by rw [Hel.out]; exact hn1) (by rw [Hel.out]; omega)); rw [Hel.out] at Hcl; refine Hcl.mono ?_; clear Hcl; rintro e w2 ⟨v2, rfl, hO, hW⟩; have HW2 := Lib.hid (HW1.out.trans (hW.mono HW1.out.size)); have HO2 := Lib.hid (hO.base_ HW1.out.size); clear hW hO))
  have hO2 := HO2.out
  obtain ⟨PB, capc, rfl, -, -, -, -⟩ := Own.some_ hO2 (by rw [Hel.out]; exact hn1)
  rw [Hel.out]
  have HP2 : Hid (PRow w w2 PB capc p 0 w2.heap.size) := Lib.hid (PRow.fresh (lo := p.length) (N := 0) ⟨es, by have := HO2.out; rw [Hel.out] at this; exact this, Hel.out, fun i e b h1 h2 => ⟨⟨(Hes.out i e b h1 h2).1, (Hes.out i e b h1 h2).2.1, (Hes.out i e b h1 h2).2.2.1, (Hes.out i e b h1 h2).2.2.2.1⟩, .inl (Hes.out i e b h1 h2).2.2.2.2⟩, fun i e he hi => by have := (List.getElem?_eq_some_iff.1 he).1; rw [Hel.out] at this; omega⟩ HW2.out)
  clear hO2 HO2
  have HM2 : Hid ((w2.alloc (.cells #[.bool true] 4)).heap[w2.heap.size]? = some (.cells #[.bool true] 4 (0, 0))) := Lib.hid (heap_alloc_new w2 _)
  have HP3 := Lib.hid (HP2.out.tyk (TyK.below ((Below.refl w2.heap.size w2).alloc (Nat.le_refl _) (.cells #[.bool true] 4))))
  have HW3 := Lib.hid (HW2.out.alloc HW2.out.size (.cells #[.bool true] 4))
  have hws2 := HW2.out.size
  go_wp2_with fail
  refine wp_loop_slots 9 (fun k f ds wr => ∃ (M : Nat) (b : Bool) (pc : List Blk), f 9 = .pointer (some ⟨M, 0, none⟩) ∧ Hid (wr.heap[M]? = some (.cells #[.bool b] 4 (0, 0))) ∧ Hid (PRow w wr PB capc pc 0 M) ∧ Hid (pc.length = p.length) ∧ Hid (Below w.heap.size w wr) ∧ Hid (Marks w.heap.size ds wr) ∧ Hid (w.heap.size ≤ M) ∧ Hid (pkErr (n : Int) pc = 0) ∧ Hid (∀ q, TrR want pc q → TrR want p q) ∧ Hid (b = false → Tight want pc) ∧ Hid (k = 2 * manyB pc + (if b = true then 1 else 0))) (2 * manyB p + 1)
    ⟨w2.heap.size, true, p, rfl, HM2, HP3, Lib.hid rfl, HW3, Lib.hid (Marks.nil _ _), Lib.hid hws2, H0, Lib.hid (fun q h => h), Lib.hid (fun h => by cases h), Lib.hid rfl⟩ ?_
  clear HM2 HP3 HW3 HP2 HW2 HR Hes Hel Hwr HW1
  intro gk f ds wr hrel J K hJ hK
  obtain ⟨M, b, pc, h9, HM, HPc, Hpl, HW, HMk, HMb, Hpk, Htr, Hti, Hgk⟩ := hrel
  have HJ := Lib.hid hJ
  clear hJ
  simp only [frm, List.size_toArray, List.length_cons, List.length_nil, Nat.reduceAdd, Nat.reduceSub, List.take_succ_cons, List.take_zero, List.range'_succ, List.range'_zero, List.map_cons, List.map_nil, List.cons_append, List.nil_append]
  rw [h9]
  clear h9
  have cM : wr.cell? ⟨M, 0, none⟩ = some (.bool b) := by rw [cell_of_row wr M 0 _ _ _ HM.out]; rfl
  have fM : wr.frozen? ⟨M, 0, none⟩ = false := frozen_of HM.out
  cases b
  · go_wp2_with fail
    refine marks_all HMk.out (fun W' hS => ⟨_, results_tmp2 rfl _ _ _, some ⟨PB, 0, none⟩, capc, pc, rfl, ?_, ?_, Hpl.out, HW.out.trans (hS.below.mono (Nat.le_refl _))⟩)
    · obtain ⟨F, hF1, hF2⟩ := Hti.out (by first | rfl | trivial)
      exact Htr.out pc (TrR.done hF1 hF2)
    · have hP' : PRow w W' PB capc pc 0 M := HPc.out.tyk fun k a e he hk => (hS.block k (.inr (by rw [hk]; simp))).trans hk
      exact hP'.rd (HW.out.trans hS.below)
  · clear Hti
    have HP := Lib.hid (pok_of Hpk.out)
    have HM3 : Hid ((wr.setCell ⟨M, 0, none⟩ (.bool false)).heap[M]? = some (.cells #[.bool false] 4 (0, 0))) := Lib.hid (by rw [heap_setC wr M 0 _ _ _ HM.out]; rfl)
    have HP3 := Lib.hid (HPc.out.tyk (TyK.bel1 HM.out (by decide) (by decide) ((Bel1.refl M wr).set_ rfl (.bool false) (p := ⟨M, 0, none⟩))))
    have HW3 := Lib.hid (HW.out.setCell (p := ⟨M, 0, none⟩) HMb.out (.bool false))
    have HMk3 := Lib.hid (HMk.out.others (KeepsOthers.setCell wr ⟨M, 0, none⟩ (.bool false)))
    go_upto_region 8 with fail
    clear cM fM HM HPc HW HMk
    generalize wr.setCell ⟨M, 0, none⟩ (.bool false) = w3 at *
    have hpl := Hpl.out
    have hsv := solveL_calls (n : Int) (some ⟨PB, 0, none⟩) pc capc want w3 (HP3.out.rd HW3.out) HP.out Hw.out
    rw [hpl] at hsv
    have Hsv := Lib.hid hsv
    clear hsv
    go_wp2_with fail
    go_at_call 94
    refine Hsv.out.mono ?_
    rintro e w4 ⟨v4, F, rfl, hF, hFl, hO, hW⟩
    have hFlen : F.length = p.length := by obtain ⟨⟨j, rfl⟩, _⟩ := hF; rw [lvK_len]; exact hpl
    obtain ⟨g, c, rfl, -, -, -, -, -⟩ := OwnU.at_ hO (by omega)
    have HRF : Hid (RdU w4 (some ⟨g, 0, none⟩) F) := Lib.hid (by obtain ⟨A9, c9, e9, h9⟩ := OwnU.rd hO; injection e9 with e9; rw [e9]; exact h9)
    have HF := Lib.hid hF
    rw [Int.toNat_natCast] at hFl
    have HFl := Lib.hid hFl
    have HW4 := Lib.hid (HW3.out.trans (hW.mono HW3.out.size))
    have HP4 := Lib.hid (HP3.out.tyk (TyK.below hW))
    have HM4 : Hid (w4.heap[M]? = some (.cells #[.bool false] 4 (0, 0))) := Lib.hid ((hW.block M (lt_cells HM3.out)).trans HM3.out)
    have HMk4 := Lib.hid (HMk3.out.below hW)
    have hbe := behindL_calls (n : Int) (some ⟨PB, 0, none⟩) (some ⟨g, 0, none⟩) pc F capc c want w4 (HP4.out.rd HW4.out) HRF.out HP.out (by rw [hFlen, hpl]) (fun i => Nat.lt_of_lt_of_le (HFl.out i) (by omega)) hw32
    rw [hpl, hFlen] at hbe
    have Hbe := Lib.hid hbe
    clear hbe hF hFl hO hW HP3 HW3 HM3 HMk3 Hsv
    go_wp2_with fail
    go_at_call 93
    with_reducible refine Hbe.out.mono ?_
    rintro e w5 ⟨v5, rfl, hO5, hW⟩
    obtain ⟨g5, c5, rfl, -, -, -, -, -⟩ := OwnU.at_ hO5 (by rw [bhF_len]; omega)
    rw [bhF_len, hpl] at hO5
    rw [bhF_len, hpl]
    have HO5 := Lib.hid (hO5.base_ HW4.out.size)
    have HW5 := Lib.hid (HW4.out.trans (hW.mono HW4.out.size))
    have HP5 := Lib.hid (HP4.out.tyk (TyK.below hW))
    have HM5 : Hid (w5.heap[M]? = some (.cells #[.bool false] 4 (0, 0))) := Lib.hid ((hW.block M (lt_cells HM4.out)).trans HM4.out)
    have HMk5 := Lib.hid (HMk4.out.below hW)
    clear hO5 hW HP4 HW4 HM4 HMk4 Hbe HRF
    go_wp2_with fail
    refine wp_loop_slots 11 (fun k2 f2 ds2 wr2 => ∃ (i : Nat) (b2 : Bool), (f2 33 = .slice (some ⟨PB, 0, none⟩) p.length capc ∧ f2 34 = .int .i64 (p.length : Nat) ∧ f2 35 = .int .i64 i) ∧ i ≤ p.length ∧ Hid (PRow w wr2 PB capc (mixT pc want F i) i M) ∧ Hid (wr2.heap[M]? = some (.cells #[.bool b2] 4 (0, 0))) ∧ Hid (b2 = true ↔ ∃ j, j < i ∧ Lost pc want F j) ∧ Hid (Below w.heap.size w wr2) ∧ Hid (OwnU wr2 w.heap.size 24 (.slice (some ⟨g5, 0, none⟩) p.length c5) (bhF pc want F)) ∧ Hid (Marks w.heap.size ds2 wr2) ∧ k2 + i = p.length) p.length
      ⟨0, false, ⟨rfl, rfl, rfl⟩, Nat.zero_le _, by rw [mixT_zero]; exact HP5, HM5, Lib.hid ⟨fun h => (by cases h), fun ⟨j, h, _⟩ => by omega⟩, HW5, HO5, HMk5, rfl⟩ ?_
    clear HP5 HM5 HW5 HO5 HMk5
    intro gk2 f2 ds2 wr2 hrel2 J2 K2 hJ2 hK2
    obtain ⟨i, b2, ⟨h33, h34, h35⟩, hi, HP2, HM2, HL2, HW2, HO2, HMk2, hgk2⟩ := hrel2
    have HJ2 := Lib.hid hJ2
    have Hgk2 := Lib.hid hgk2
    clear hJ2 hgk2
    simp only [frm, List.size_toArray, List.length_cons, List.length_nil, Nat.reduceAdd, Nat.reduceSub, List.take_succ_cons, List.take_zero, List.range'_succ, List.range'_zero, List.map_cons, List.map_nil, List.cons_append, List.nil_append]
    rw [h33, h34, h35]
    clear h33 h34 h35
    by_cases hlt : i < p.length
    · have hlc : i < pc.length := by omega
      have hml : i < (mixT pc want F i).length := by rw [mixT_len (by omega)]; exact hlc
      obtain ⟨A', cap', ⟨c0, c1, c2, c3⟩, hSt, hbl⟩ := HP2.out.entry HW2.out hml
      have hbl := hbl (Nat.le_refl _)
      have Hml := Lib.hid hml
      have Hset : Hid ((mixT pc want F i).set i { (mixT pc want F i)[i]'hml with code := kpC pc[i].code (bhL want F pc[i]) } = mixT pc want F (i + 1)) := Lib.hid (by rw [mixT_at hlc]; exact mixT_set hlc)
      rw [mixT_at hlc] at c0 c1 c2 c3 hSt hbl
      have hbo := HP.out.bs _ (List.getElem_mem hlc)
      have hcl : pc[i].code.length ≤ 20 := by have := manyB_mem (List.getElem_mem hlc); have := HP.out.many; omega
      have Hlo : Hid (Lost pc want F i ↔ (kpC pc[i].code (bhL want F pc[i])).length ≠ pc[i].code.length) := Lib.hid ⟨fun ⟨b, h1, h2⟩ => by rw [List.getElem?_eq_getElem hlc] at h1; injection h1 with h1; rw [h1]; exact h2, fun h => ⟨_, List.getElem?_eq_getElem hlc, h⟩⟩
      have Hs0 := Lib.hid (bhL_lt hbo rfl Hw.out HFl.out)
      obtain ⟨g5', eg5, -, hg5l, -, -, b5⟩ := OwnU.at2 HO2.out (by rw [bhF_len]; omega)
      obtain rfl : g5 = g5' := by injection eg5 with eg5; injection eg5
      have b5 := b5 i (by rw [bhF_len]; exact hlc)
      have e5 : (bhF pc want F)[i]'(by rw [bhF_len]; exact hlc) = bhL want F pc[i] := by simp [bhF]
      rw [e5] at b5
      have Hcode := Lib.hid hbo.code
      have q1 : ((i : Nat) : Int) < ((p.length : Nat) : Int) := by omega
      have Hlt := Lib.hid hlt
      clear hbo eg5 e5 hlt
      generalize bhL want F pc[i] = s0 at *
      generalize pc[i] = bk at *
      obtain ⟨code, test, thn, els⟩ := bk
      dsimp only at c0 c1 c2 c3 hSt hbl Hset hcl Hlo Hcode
      have HSt := Lib.hid hSt
      have Hbl := Lib.hid hbl
      clear hSt hlc hi hbl
      have b6 : ((wr2.alloc (.cells #[.slice A' code.length cap', .int .i64 test, .int .i64 thn, .int .i64 els] 85)).alloc (.cells #[.slice none 0 0] 48)).cell? ⟨g5, i, none⟩ = some (.int .u32 (s0 : Nat)) := ((((Below.refl wr2.heap.size wr2).alloc (Nat.le_refl _) _).alloc (by simp) _).cell (p := ⟨g5, i, none⟩) hg5l).trans b5
      go_wp2_with (go_at_call 95; refine (backS_calls _ _ _ _).mono ?_; rintro e w' ⟨rfl, rfl⟩)
      obtain ⟨N, hN⟩ : ∃ N, N = wr2.heap.size := ⟨_, rfl⟩
      rw [← hN]
      have HTX0 : Hid (TX wr2 M N b2 s0 (.slice none 0 0) [] ((((wr2.alloc (.cells #[.slice A' code.length cap', .int .i64 test, .int .i64 thn, .int .i64 els] 85)).alloc (.cells #[.slice none 0 0] 48)).alloc (.cells #[.int .u32 s0] 24)).alloc (.cells #[.slice A' code.length cap'] 48))) := Lib.hid (by
        have k1 : ∀ (v : World) (o : Obj) {j : Nat} {x : Obj}, v.heap[j]? = some x → (v.alloc o).heap[j]? = some x := fun v o {j _} hx => (Below.heap_alloc v o j (lt_cells hx)).trans hx
        refine ⟨((((Bel1.refl _ wr2).alloc _).alloc _).alloc _).alloc _, k1 _ _ (k1 _ _ (k1 _ _ (k1 _ _ HM2.out))), ?_, ?_, Own.nil_ _ _ _, by omega⟩
        · refine k1 _ _ (k1 _ _ ?_)
          have := heap_alloc_new (wr2.alloc (.cells #[.slice A' code.length cap', .int .i64 test, .int .i64 thn, .int .i64 els] 85)) (.cells #[.slice none 0 0] 48)
          rwa [show (wr2.alloc (.cells #[.slice A' code.length cap', .int .i64 test, .int .i64 thn, .int .i64 els] 85)).heap.size = N + 1 by rw [hN]; simp] at this
        · refine k1 _ _ ?_
          have := heap_alloc_new ((wr2.alloc (.cells #[.slice A' code.length cap', .int .i64 test, .int .i64 thn, .int .i64 els] 85)).alloc (.cells #[.slice none 0 0] 48)) (.cells #[.int .u32 s0] 24)
          rwa [show ((wr2.alloc (.cells #[.slice A' code.length cap', .int .i64 test, .int .i64 thn, .int .i64 els] 85)).alloc (.cells #[.slice none 0 0] 48)).heap.size = N + 1 + 1 by rw [hN]; simp] at this)
      have HKa := Lib.hid ((((KeepsOthers.alloc wr2 (.cells #[.slice A' code.length cap', .int .i64 test, .int .i64 thn, .int .i64 els] 85)).trans (KeepsOthers.alloc _ (.cells #[.slice none 0 0] 48))).trans (KeepsOthers.alloc _ (.cells #[.int .u32 s0] 24))).trans (KeepsOthers.alloc _ (.cells #[.slice A' code.length cap'] 48)))
      have HB0 := Lib.hid (((((Below.refl wr2.heap.size wr2).alloc (Nat.le_refl _) (.cells #[.slice A' code.length cap', .int .i64 test, .int .i64 thn, .int .i64 els] 85)).alloc (by simp) (.cells #[.slice none 0 0] 48)).alloc (by simp; omega) (.cells #[.int .u32 s0] 24)).alloc (by simp; omega) (.cells #[.slice A' code.length cap'] 48))
      have hBc : ((((wr2.alloc (.cells #[.slice A' code.length cap', .int .i64 test, .int .i64 thn, .int .i64 els] 85)).alloc (.cells #[.slice none 0 0] 48)).alloc (.cells #[.int .u32 s0] 24)).alloc (.cells #[.slice A' code.length cap'] 48)).cell? ⟨N + 1 + 1 + 1, 0, none⟩ = some (.slice A' code.length cap') := by
        rw [cell_new _ _ _ (N + 1 + 1 + 1) (by rw [hN]; simp)]; rfl
      have hsz : ((((wr2.alloc (.cells #[.slice A' code.length cap', .int .i64 test, .int .i64 thn, .int .i64 els] 85)).alloc (.cells #[.slice none 0 0] 48)).alloc (.cells #[.int .u32 s0] 24)).alloc (.cells #[.slice A' code.length cap'] 48)).heap.size = N + 1 + 1 + 1 + 1 := by rw [hN]; simp
      generalize ((((wr2.alloc (.cells #[.slice A' code.length cap', .int .i64 test, .int .i64 thn, .int .i64 els] 85)).alloc (.cells #[.slice none 0 0] 48)).alloc (.cells #[.int .u32 s0] 24)).alloc (.cells #[.slice A' code.length cap'] 48)) = W0 at *
      have hMl : M < wr2.heap.size := lt_cells HM2.out
      have HMk0 := Lib.hid (HMk2.out.others HKa.out)
      have HNe := Lib.hid hN
      have hws2' := HW2.out.size
      have hMN : M < N := by omega
      have hwz : wr2.heap.size ≤ W0.heap.size := HB0.out.size
      -- what is read lies below the round's blocks, and is not the box
      have hR0 : RdB M Step.cells 5 W0 A' code := ⟨Rd.below HSt.out HB0.out, Hbl.out⟩
      have hb32 : 2 ^ n ≤ 4294967296 := by omega
      clear c0 c1 c2 c3 b5 b6 hN
      refine wp_rangeFuncT (n₀ := M) (Bs := N + 1 + 1 + 1) (gf := 118) (lb := #[.pointer (some ⟨N + 1 + 1 + 1, 0, none⟩)]) rfl (enters_of Try.func118 (by kernel_rfl) rfl)
        (backS_stops (N + 1 + 1 + 1) M A' cap' code (by omega) W0 (by omega) (by omega) hBc hR0) (by omega) (fun _ => rfl)
        (fun pre W => ∃ (b : Bool) (s : Nat) (vc : Value) (lst : List Step), TX wr2 M N b s vc lst W ∧ s < 2 ^ n ∧ lst.length ≤ pre.length ∧ Hid (pre.map (·.1) = backN code.length pre.length → s = ctC (code.drop (code.length - pre.length)) s0 ∧ lst.reverse = kpC (code.drop (code.length - pre.length)) s0 ∧ (b = true ↔ b2 = true ∨ lst.length ≠ pre.length)) ∧ KeepsFrom 0 W0 W)
        ?hI ⟨b2, s0, .slice none 0 0, [], HTX0.out, Hs0.out, Nat.le_refl _, Lib.hid (fun _ => by
          have e : code.length - ([] : List (Ix code.length)).length = code.length := rfl
          rw [e, List.drop_length]
          exact ⟨rfl, rfl, by simp⟩), KeepsFrom.refl _ _⟩
        (fun T_ x a' W => ∃ Bx, N + 1 + 1 + 1 < Bx ∧ W.heap[Bx]? = some (.cells (code[x.1]'x.2).cells.toArray 87 (0, 0)) ∧ a' = { tmps := ((T_.setIfInBounds 47 (.int .i64 (x.1 : Int))).setIfInBounds 48 (code[x.1]'x.2).agg).setIfInBounds 16 (.pointer (some ⟨Bx, 0, none⟩)), defers := [] })
        ?hAx ?assign ?body ?done
      case hI =>
        rintro s W W' row ⟨b, s, vc, lst, hX, hs, hl, hpre, hk⟩ hg hr
        exact ⟨b, s, vc, lst, hX.grown hg (fun k a e hh => (grownBy_keeps_cells hg (fun k e => (hr k e).2) hh rfl).trans hh) (fun k e => by have := (hr k e).1; omega), hs, hl, hpre, ownFrom_keepsFrom (β := Unit) (Nat.le_refl _) () W W' row hk hg hr⟩
      case hAx =>
        rintro x a' _ W W' row ⟨Bx, h1, h2, h3⟩ hg hr
        exact ⟨Bx, h1, (grownBy_keeps_cells hg (fun k e => (hr k e).2) h2 rfl).trans h2, h3⟩
      case assign =>
        rintro l' pre x W K ⟨b, s, vc, lst, hX, hs, hl, hpre, hk⟩ hK
        have hk0 := hk.size
        have hagg : (code[x.1]'x.2).agg = .agg #[.int .i64 (code[x.1]'x.2).op, .int .i64 (code[x.1]'x.2).to, .int .i64 (code[x.1]'x.2).a, .int .i64 (code[x.1]'x.2).b, .int .i64 (code[x.1]'x.2).val] := rfl
        rw [hagg] at hK ⊢
        have HX := Lib.hid hX
        have Hpre := hpre
        have hwl : wr2.heap.size ≤ W.heap.size := hX.bel.size
        have hA1 : M ≤ W.heap.size := by omega
        have hA2 : N + 1 + 1 + 1 < W.heap.size := by omega
        clear hX
        gi_wp2
        exact hK _ _ ((KeepsOthers.alloc _ _).from _) ⟨(Below.refl M W).alloc hA1 _, fun v hv => by rw [World.cell?_alloc_some _ _ _ (by rw [hv]; rfl)]; exact hv⟩ ⟨b, s, vc, lst, HX.out.alloc _, hs, hl, Hpre, hk.trans ((KeepsOthers.alloc _ _).from _)⟩ ⟨W.heap.size, hA2, heap_alloc_new W _, rfl⟩
      case body =>
        rintro l' pre x a' W hl0 ⟨b, s, vc, lst, hX, hs, hl, hpre, hk⟩ ⟨Bx, hBx, hhx, rfl⟩ hlt2
        obtain ⟨x, hx⟩ := x
        dsimp only at hhx ⊢
        have hBl := lt_cells hhx
        have HZ := Lib.hid (show ZT W0 W M (N + 1 + 1 + 1) W from ⟨KeepsFrom.refl _ _, ⟨Below.refl _ _, fun _ h => h⟩, hk⟩)
        have HX := Lib.hid hX
        have Hl := Lib.hid hl
        have Hs := Lib.hid hs
        have s32 : s < 4294967296 := by omega
        have Hsok := Lib.hid (Hcode.out _ (List.getElem_mem hx))
        obtain ⟨tg, htg, htg32⟩ : ∃ tg : Nat, (code[x]'hx).to = tg ∧ tg < 32 := by
          obtain ⟨-, -, -, -, ⟨t0, t1⟩, -⟩ := Hsok.out
          obtain ⟨d, hd⟩ := Int.eq_ofNat_of_zero_le t0
          exact ⟨d, hd, by omega⟩
        have Hps : Hid ((pre ++ [(⟨x, hx⟩ : Ix code.length)]).map (·.1) = backN code.length (pre ++ [(⟨x, hx⟩ : Ix code.length)]).length → code.length - (pre ++ [(⟨x, hx⟩ : Ix code.length)]).length = x ∧ s = ctC (code.drop (x + 1)) s0 ∧ lst.reverse = kpC (code.drop (x + 1)) s0 ∧ (b = true ↔ b2 = true ∨ lst.length ≠ pre.length)) := Lib.hid fun h => by
          obtain ⟨h1, h2⟩ := back_snoc h
          have h2 : x = code.length - 1 - pre.length := h2
          have h3 := hpre.out h1
          rw [show code.length - pre.length = x + 1 by omega] at h3
          exact ⟨by rw [List.length_append, List.length_singleton]; omega, h3⟩
        have Hpl2 : Hid ((pre ++ [(⟨x, hx⟩ : Ix code.length)]).length = pre.length + 1) := Lib.hid (by simp)
        have hMs : N + 1 + 1 + 1 < W.heap.size := by omega
        have b0 : W.cell? ⟨Bx, 0, none⟩ = some (.int .i64 (code[x]'hx).op) := by rw [cell_of_row W Bx 0 _ _ _ hhx]; rfl
        have b1 : W.cell? ⟨Bx, 1, none⟩ = some (.int .i64 (code[x]'hx).to) := by rw [cell_of_row W Bx 1 _ _ _ hhx]; rfl
        have b2' : W.cell? ⟨Bx, 2, none⟩ = some (.int .i64 (code[x]'hx).a) := by rw [cell_of_row W Bx 2 _ _ _ hhx]; rfl
        have b3 : W.cell? ⟨Bx, 3, none⟩ = some (.int .i64 (code[x]'hx).b) := by rw [cell_of_row W Bx 3 _ _ _ hhx]; rfl
        have b4 : W.cell? ⟨Bx, 4, none⟩ = some (.int .i64 (code[x]'hx).val) := by rw [cell_of_row W Bx 4 _ _ _ hhx]; rfl
        obtain ⟨xM, xC, xS, fM, fC, fS⟩ := hX.at_
        have b1' := b1
        rw [htg] at b1'
        have rr := test_u32 s tg s32
        by_cases hb : s.testBit tg = true
        · rw [hb] at rr
          have Hfin : Hid (∀ (W' : World) (v' : Value), TX wr2 M N b (ahL code[x] s) v' (lst ++ [code[x]]) W' → KeepsFrom 0 W0 W' → ∃ (b : Bool) (s : Nat) (vc : Value) (lst : List Step), TX wr2 M N b s vc lst W' ∧ s < 2 ^ n ∧ lst.length ≤ (pre ++ [(⟨x, hx⟩ : Ix code.length)]).length ∧ Hid ((pre ++ [(⟨x, hx⟩ : Ix code.length)]).map (·.1) = backN code.length (pre ++ [(⟨x, hx⟩ : Ix code.length)]).length → s = ctC (code.drop (code.length - (pre ++ [(⟨x, hx⟩ : Ix code.length)]).length)) s0 ∧ lst.reverse = kpC (code.drop (code.length - (pre ++ [(⟨x, hx⟩ : Ix code.length)]).length)) s0 ∧ (b = true ↔ b2 = true ∨ lst.length ≠ (pre ++ [(⟨x, hx⟩ : Ix code.length)]).length)) ∧ KeepsFrom 0 W0 W') := Lib.hid fun W' v' h1 h2 => by
            refine ⟨b, _, v', _, h1, ahL_lt Hsok.out rfl h6 Hs.out, by rw [Hpl2.out, List.length_append]; simp; exact Hl.out, Lib.hid fun h => ?_, h2⟩
            obtain ⟨e1, e2, e3, e4⟩ := Hps.out h
            have hb3 : (ctC (code.drop (x + 1)) s0).testBit code[x].to.toNat = true := by rw [htg, Int.toNat_natCast, ← e2]; exact hb
            rw [e1, ctC_drop' hx, kpC_drop hx, if_pos hb3, ctS, if_pos hb3, ← e2, ← e3]
            refine ⟨rfl, by simp, ?_⟩
            rw [Hpl2.out, List.length_append, e4]
            simp
          have hll : lst.length + 1 ≤ 1000 := by omega
          clear hX hl hs hpre hk hb hhx Hps Hl Hs b1
          have Hcl := Lib.hid (ahead_calls (n : Int) code[x] Hsok.out (by omega) s s32 W)
          generalize code[x] = st at *
          generalize hsL : ahL st s = sL at *
          obtain ⟨op, tg', sa, sb, sv⟩ := st
          dsimp only at b0 b2' b3 b4 htg
          subst htg
          unfold Step.agg at Hcl
          dsimp only at Hcl
          clear hsL
          gi_wp2
          refine ⟨trivial, ((callsIn_wide.2 Hcl.out).inRound l').mono ?_⟩
          rintro e wm ⟨rfl, hWm⟩
          have hWs := hWm.size
          have HXm := Lib.hid (HX.out.below hWm)
          have HZm := Lib.hid (HZ.out.below hMs (by omega) hWm)
          have HBm := Lib.hid hWm
          have c0 := (hWm.cell (p := ⟨Bx, 0, none⟩) hBl).trans b0
          have c1 := (hWm.cell (p := ⟨Bx, 1, none⟩) hBl).trans b1'
          have c2 := (hWm.cell (p := ⟨Bx, 2, none⟩) hBl).trans b2'
          have c3 := (hWm.cell (p := ⟨Bx, 3, none⟩) hBl).trans b3
          have c4 := (hWm.cell (p := ⟨Bx, 4, none⟩) hBl).trans b4
          obtain ⟨-, yC, yS, -, gC, gS⟩ := HXm.out.at_
          have hne1 : N + 1 + 1 ≠ Bx := by omega
          have d0 := cell_farT (j := 0) (v := .int .u32 (sL : Nat)) hne1 c0
          have d1 := cell_farT (j := 0) (v := .int .u32 (sL : Nat)) hne1 c1
          have d2 := cell_farT (j := 0) (v := .int .u32 (sL : Nat)) hne1 c2
          have d3 := cell_farT (j := 0) (v := .int .u32 (sL : Nat)) hne1 c3
          have d4 := cell_farT (j := 0) (v := .int .u32 (sL : Nat)) hne1 c4
          have dC := cell_farT (j := 0) (v := .int .u32 (sL : Nat)) (show N + 1 + 1 ≠ N + 1 by omega) yC
          have HX2 := Lib.hid (HXm.out.setS sL)
          have HZ2 := Lib.hid (HZm.out.set (show M ≤ N + 1 + 1 by omega) (show N + 1 + 1 ≠ N + 1 + 1 + 1 by omega) 0 (.int .u32 (sL : Nat)))
          clear hWm b0 b1' b2' b3 b4 c0 c1 c2 c3 c4 xM xC xS fM fC fS rr yC Hcl
          have HX3 := Lib.hid (HX2.out.alloc (.cells #[.int .i64 op, .int .i64 tg, .int .i64 sa, .int .i64 sb, .int .i64 sv] 87))
          have hsz2 : (wm.setCell ⟨N + 1 + 1, 0, none⟩ (.int .u32 (sL : Nat))).heap.size = wm.heap.size := by simp [World.setCell]
          have HZ3 := Lib.hid (HZ2.out.below (by rw [hsz2]; omega) (by rw [hsz2]; omega) ((Below.refl (wm.setCell ⟨N + 1 + 1, 0, none⟩ (.int .u32 (sL : Nat))).heap.size (wm.setCell ⟨N + 1 + 1, 0, none⟩ (.int .u32 (sL : Nat)))).alloc (Nat.le_refl _) (.cells #[.int .i64 op, .int .i64 tg, .int .i64 sa, .int .i64 sb, .int .i64 sv] 87)))
          have hsz3 : ((wm.setCell ⟨N + 1 + 1, 0, none⟩ (.int .u32 (sL : Nat))).alloc (.cells #[.int .i64 op, .int .i64 tg, .int .i64 sa, .int .i64 sb, .int .i64 sv] 87)).heap.size = wm.heap.size + 1 := by rw [← hsz2]; simp
          obtain ⟨v', w8, hrun, hown8, hg8, -⟩ := run_app1 (P := Try.prog) (w := (wm.setCell ⟨N + 1 + 1, 0, none⟩ (.int .u32 (sL : Nat))).alloc (.cells #[.int .i64 op, .int .i64 tg, .int .i64 sa, .int .i64 sb, .int .i64 sv] 87)) 48 48 Step.cells 5 40 87 (Step.mk 0 0 0 0 0).agg Try.underlying48 infoStep rfl (by decide) stepCells_len stepCells_one (N + 1 + 1 + 1 + 1) vc lst ⟨op, tg, sa, sb, sv⟩ HX3.out.own wm.heap.size 1 (fun j _ => by rw [cell_new _ _ _ _ hsz2]; simp [Step.cells]) (by unfold maxLen; omega) (by omega) (by omega)
          obtain ⟨g8, c8, rfl⟩ : ∃ g8 c8, v' = .slice (some ⟨g8, 0, none⟩) (lst.length + 1) c8 := by obtain ⟨g8, c8, e8, -⟩ := Own.some_ hown8 (by simp); exact ⟨g8, c8, by rw [e8]; simp⟩
          have HX4 := Lib.hid (HX3.out.setC hg8 hown8)
          have HZ4 := Lib.hid ((HZ3.out.grown (by omega) (by omega) hg8 (fun r e => ⟨by have := (World.ownsRow.lt HX3.out.own r e).1; omega, by have := (World.ownsRow.lt HX3.out.own r e).1; omega, by obtain ⟨cur, hc⟩ := own_ty HX3.out.own e; exact ⟨cur, _, hc⟩⟩)).set (show M ≤ N + 1 by omega) (show N + 1 ≠ N + 1 + 1 + 1 by omega) 0 (.slice (some ⟨g8, 0, none⟩) (lst.length + 1) c8))
          have hC8 : w8.heap[N + 1]? = some (Obj.cells #[vc] 48 (0, 0)) := (hg8.block (N + 1) (lt_cells HX3.out.bC) (fun e => by have := (World.ownsRow.lt HX3.out.own _ e.symm).1; omega)).trans HX3.out.bC
          have xC8 : w8.cell? ⟨N + 1, 0, none⟩ = some vc := by rw [cell_of_row w8 (N + 1) 0 _ _ _ hC8]; rfl
          have fC8 : w8.frozen? ⟨N + 1, 0, none⟩ = false := frozen_of hC8
          have HF := Lib.hid (Hfin.out _ _ HX4.out HZ4.out.k0)
          clear hown8 hg8 hC8 Hfin hsz3
          have Hrun := Lib.hid hrun
          clear hrun
          gi_upto_region 19 with fail
          refine wpIn_region_plain (by kernel_rfl) (fun h => by obtain ⟨_, _, h⟩ := h; exact h) ?_
          go_wp2_with (at_builtin; refine wpList_app_run rfl 48 _ _ rfl rfl rfl Hrun.out ?_)
          exact ⟨by first | exact HZ4.out.kf | (rw [← hsz]; exact HZ4.out.kf), HZ4.out.kb, HF.out⟩
        · have hb2 : s.testBit tg = false := by simpa using hb
          rw [hb2] at rr
          have Hfin : Hid (∃ (b : Bool) (s : Nat) (vc : Value) (lst : List Step), TX wr2 M N b s vc lst (W.setCell ⟨M, 0, none⟩ (.bool true)) ∧ s < 2 ^ n ∧ lst.length ≤ (pre ++ [(⟨x, hx⟩ : Ix code.length)]).length ∧ Hid ((pre ++ [(⟨x, hx⟩ : Ix code.length)]).map (·.1) = backN code.length (pre ++ [(⟨x, hx⟩ : Ix code.length)]).length → s = ctC (code.drop (code.length - (pre ++ [(⟨x, hx⟩ : Ix code.length)]).length)) s0 ∧ lst.reverse = kpC (code.drop (code.length - (pre ++ [(⟨x, hx⟩ : Ix code.length)]).length)) s0 ∧ (b = true ↔ b2 = true ∨ lst.length ≠ (pre ++ [(⟨x, hx⟩ : Ix code.length)]).length)) ∧ KeepsFrom 0 W0 (W.setCell ⟨M, 0, none⟩ (.bool true))) := Lib.hid (by
            refine ⟨true, s, vc, lst, HX.out.setM, Hs.out, by rw [Hpl2.out]; omega, Lib.hid fun h => ?_, HZ.out.k0.trans ((KeepsOthers.setCell _ _ _).from _)⟩
            obtain ⟨e1, e2, e3, e4⟩ := Hps.out h
            have hb3 : ¬ (ctC (code.drop (x + 1)) s0).testBit code[x].to.toNat = true := by rw [htg, Int.toNat_natCast, ← e2, hb2]; simp
            rw [e1, ctC_drop' hx, kpC_drop hx, if_neg hb3, ctS, if_neg hb3]
            exact ⟨e2, e3, ⟨fun _ => .inr (by rw [Hpl2.out]; omega), fun _ => rfl⟩⟩)
          have HZ' := Lib.hid (HZ.out.set (Nat.le_refl M) (show M ≠ N + 1 + 1 + 1 by omega) 0 (.bool true))
          clear hX hl hs hpre hk hb hb2 Hps Hl Hs
          gi_wp2
          exact ⟨by first | exact HZ'.out.kf | (rw [← hsz]; exact HZ'.out.kf), HZ'.out.kb, Hfin.out⟩
      case done =>
        rintro D ys W hD hys ⟨b, s, vc, lst, hX, hs, hl, hpre, hk⟩ hKd
        have hyl : ys.length = code.length := by rw [← List.length_map (f := fun x : Ix code.length => x.1), hys, backN_len]
        have hse := hpre.out (by rw [hyl]; exact hys)
        rw [hyl, Nat.sub_self, List.drop_zero] at hse
        obtain ⟨-, hse2, hse3⟩ := hse
        have hll : lst.length ≤ 1000 := by omega
        obtain ⟨Ac, cc, rfl, -, -, -⟩ := Own.form stepCells_len hX.own
        have hlk : lst.length = (kpC code s0).length := by rw [← hse2, List.length_reverse]
        have Hrv := Lib.hid (reverse_calls (N + 1 + 1 + 1 + 1) _ lst W hX.own hll)
        have hMf := HMk0.out.cons (HMk0.out.from hk (Nat.zero_le _)) (by omega) hD hKd
        have HMf := Lib.hid hMf
        have HX := Lib.hid hX
        have H2 := Lib.hid hse2
        have H3 := Lib.hid hse3
        have Hlk := Lib.hid hlk
        obtain ⟨-, xC, -, -, -, -⟩ := hX.at_
        have hws := hX.bel.size
        clear hX hs hl hpre hk hKd hys hse2 hse3 hMf hlk hBc hR0
        go_wp2_with fail
        go_at_call 97
        with_reducible refine Hrv.out.mono ?_
        rintro e wv ⟨⟨uu, rfl⟩, hov, hg⟩
        have hrow : ∀ r, (Value.slice Ac lst.length cc).ownBlock = some r → N + 1 + 1 + 1 + 1 ≤ r := fun r e => (World.ownsRow.lt HX.out.own r e).1
        have hBv : Bel1 M wr2 wv := ⟨hg.os.trans HX.out.bel.os, hg.tape.trans HX.out.bel.tape, hg.output.trans HX.out.bel.output, Nat.le_trans HX.out.bel.size hg.size, fun k hk hne => (hg.block k (Nat.lt_of_lt_of_le hk hws) (fun e => by have := hrow k e.symm; omega)).trans (HX.out.bel.block k hk hne)⟩
        have HBv := Lib.hid hBv
        have hMv : wv.heap[M]? = some (Obj.cells #[.bool b] 4 (0, 0)) := (hg.block M (lt_cells HX.out.bM) (fun e => by have := hrow M e.symm; omega)).trans HX.out.bM
        have hCv : wv.heap[N + 1]? = some (Obj.cells #[.slice Ac lst.length cc] 48 (0, 0)) := (hg.block (N + 1) (lt_cells HX.out.bC) (fun e => by have := hrow _ e.symm; omega)).trans HX.out.bC
        have hKo : KeepsOthers W wv := ⟨hg.size, fun k o hk ho => (hg.block k (lt_cells hk) (fun e => by
          obtain ⟨cur, hc⟩ := own_ty HX.out.own e.symm
          rw [hk] at hc; injection hc with hc
          subst hc; cases ho)).trans hk⟩
        have HPv := Lib.hid (HP2.out.tyk (TyK.bel1 HM2.out (by decide) (by decide) hBv))
        have HWv := Lib.hid (HW2.out.trans (hBv.below (by have := lt_cells HM2.out; have := HMb.out; omega) hws2'))
        have hoc : OwnSt wv w.heap.size 87 (.slice Ac lst.length cc) (kpC code s0) := by rw [← H2.out]; exact hov.base_ (by omega)
        have HPz := Lib.hid (HPv.out.set hml Hlk.out hoc)
        obtain ⟨cur, hcur⟩ := HPv.out.ty
        have HMz : Hid ((wv.setCell ⟨PB, i * 4, none⟩ (.slice Ac lst.length cc)).heap[M]? = some (.cells #[.bool b] 4 (0, 0))) := Lib.hid ((Below.heap_setCell _ _ _ _ (ty_ne hMv hcur (by decide))).trans hMv)
        have HWz := Lib.hid (HWv.out.setCell (p := ⟨PB, i * 4, none⟩) HPv.out.at_ (.slice Ac lst.length cc))
        have HOz : Hid (OwnU (wv.setCell ⟨PB, i * 4, none⟩ (.slice Ac lst.length cc)) w.heap.size 24 (.slice (some ⟨g5, 0, none⟩) p.length c5) (bhF pc want F)) := Lib.hid (own_tyk HO2.out fun k a hk => by
          have h1 : wv.heap[k]? = some (Obj.cells a 24 (0, 0)) := (HBv.out.block k (lt_cells hk) (ty_ne hk HM2.out (by decide))).trans hk
          exact (Below.heap_setCell _ _ _ _ (ty_ne h1 hcur (by decide))).trans h1)
        have HMkz := Lib.hid ((HMf.out.others hKo).others (KeepsOthers.setCell wv ⟨PB, i * 4, none⟩ (.slice Ac lst.length cc)))
        obtain ⟨A9, cap9, ⟨y0, -, -, -⟩, -, -⟩ := HPv.out.entry HWv.out hml
        have yf : wv.frozen? ⟨PB, i * 4, none⟩ = false := frozen_of hcur
        have yC : wv.cell? ⟨N + 1, 0, none⟩ = some (.slice Ac lst.length cc) := by rw [cell_of_row wv (N + 1) 0 _ _ _ hCv]; rfl
        have HL3 : Hid (b = true ↔ ∃ j, j < i + 1 ∧ Lost pc want F j) := Lib.hid (by
          rw [H3.out]
          constructor
          · rintro (h | h)
            · obtain ⟨j, hj, hlj⟩ := HL2.out.1 h
              exact ⟨j, by omega, hlj⟩
            · exact ⟨i, by omega, Hlo.out.2 (by rw [← Hlk.out]; exact h)⟩
          · rintro ⟨j, hj, hlj⟩
            rcases Nat.lt_or_ge j i with h | h
            · exact .inl (HL2.out.2 ⟨j, h, hlj⟩)
            · have : j = i := by omega
              subst this
              exact .inr (by rw [Hlk.out]; exact Hlo.out.1 hlj))
        have hpbi : ((i : Nat) : Int) < ((p.length : Nat) : Int) := q1
        clear hov hg hrow hBv hMv hCv hKo hoc hcur xC
        go_wp2_with fail
        refine Handed.intro (gk2 - 1) (by have := Hgk2.out; have := Hlt.out; omega) (HJ2.out _ _ _ ⟨i + 1, b, ⟨rfl, rfl, by first | rfl | go_num⟩, by have := Hlt.out; omega, Lib.hid (by have := HPz.out; rw [Hset.out] at this; exact this), HMz, HL3, HWz, HOz, HMkz, by have := Hgk2.out; have := Hlt.out; omega⟩ rfl rfl)
    · have hip : i = p.length := by omega
      subst hip
      have hll : ¬ ((p.length : Int) < (p.length : Int)) := by omega
      have cM : wr2.cell? ⟨M, 0, none⟩ = some (.bool b2) := by rw [cell_of_row wr2 M 0 _ _ _ HM2.out]; rfl
      have HP6 : Hid (PRow w wr2 PB capc (trM pc want F) 0 wr2.heap.size) := Lib.hid (by have := HP2.out; rw [← hpl, mixT_all] at this; exact this.fresh HW2.out)
      have HMn : Hid ((wr2.alloc (.cells #[.bool b2] 4)).heap[wr2.heap.size]? = some (.cells #[.bool b2] 4 (0, 0))) := Lib.hid (heap_alloc_new wr2 _)
      have HP7 := Lib.hid (HP6.out.tyk (TyK.below ((Below.refl wr2.heap.size wr2).alloc (Nat.le_refl _) (.cells #[.bool b2] 4))))
      have HW7 := Lib.hid (HW2.out.alloc HW2.out.size (.cells #[.bool b2] 4))
      have HMk7 := Lib.hid (HMk2.out.others (KeepsOthers.alloc wr2 (.cells #[.bool b2] 4)))
      have hw2s := HW2.out.size
      clear hlt hi
      go_wp2_with fail
      refine Handed.intro (2 * manyB (trM pc want F) + (if b2 = true then 1 else 0)) ?_ (HJ.out _ _ _ ⟨wr2.heap.size, b2, trM pc want F, rfl, HMn, HP7, Lib.hid (by rw [trM_len]; exact hpl), HW7, HMk7, Lib.hid hw2s, Lib.hid (pkErr_tr want F Hpk.out), Lib.hid (fun q hq => Htr.out q (TrR.step HF.out hq)), Lib.hid (fun h => ?_), Lib.hid rfl⟩ rfl rfl)
      · have h1 : gk = 2 * manyB pc + 1 := Hgk.out.trans (by simp)
        have h2 := many_sub (trB want F) (fun _ => (kpC_sub _ _).length_le) pc
        cases b2
        · simp only [Bool.false_eq_true, if_false]
          show 2 * manyB (trM pc want F) + 0 < gk
          unfold trM; omega
        · obtain ⟨j, hj, hlost⟩ := HL2.out.1 rfl
          have h3 := tr_less (lost_some hlost)
          rw [if_pos rfl]; omega
      · have hno : ¬ ∃ j, j < pc.length ∧ Lost pc want F j := fun ⟨j, hj, hl⟩ => by
          have := HL2.out.2 ⟨j, by rw [← hpl]; exact hj, hl⟩
          rw [h] at this; cases this
        have e := lost_none hno
        rw [e]
        exact ⟨F, HF.out, e⟩
end Go.Proofs.Ytmgejacndhnikaa
