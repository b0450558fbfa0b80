/- live.Trim walked: rows and one block's way back. -/
import Derived.Test.YtadmmciiahdmcaaCutA
import Derived.Test.YtadmmciiahdmcaaRevS
import Derived.Test.YtadmmciiahdmcaaLivC
import Derived.Deep.CutRange
import Derived.Sort.CutIn
namespace Go.Proofs.Ytadmmciiahdmcaa
set_option maxRecDepth 100000
open Go.RowKit Go.Shelf
attribute [local go_sem] Oper.semAt_some

/-- A row of blocks, each code as it lay at first or a row that the call made. -/
def PRow (w0 wr : World) (PB cap : Nat) (pc : List Blk) (lo N : Nat) : Prop :=
  ∃ es : List Ent, Own Ent.cells 4 wr w0.heap.size 25 (.slice (some ⟨PB, 0, none⟩) pc.length cap) es ∧ es.length = pc.length ∧ (∀ (i : Nat) (e : Ent) (b : Blk), es[i]? = some e → pc[i]? = some b → (e.n = b.code.length ∧ e.test = b.test ∧ e.thn = b.thn ∧ e.els = b.els) ∧ (RdSt w0 e.A b.code ∨ OwnSt wr w0.heap.size 78 (.slice e.A e.n e.cap) b.code)) ∧
    ∀ (i : Nat) (e : Ent), es[i]? = some e → lo ≤ i → ∀ a, e.A = some a → 0 < e.n → a.block < N
section
variable {w0 wr w' : World} {PB cap lo N : Nat} {pc : List Blk}
/-- One entry: what its cells say, its code. -/
theorem PRow.entry (h : PRow w0 wr PB cap pc lo N) (hb : Below w0.heap.size w0 wr) {k : Nat} (hk : k < pc.length) : ∃ (A' : Option Addr) (cap' : Nat), (wr.cell? ⟨PB, k * 4, none⟩ = some (.slice A' pc[k].code.length cap') ∧ wr.cell? ⟨PB, k * 4 + 1, none⟩ = some (.int .i64 pc[k].test) ∧ wr.cell? ⟨PB, k * 4 + 2, none⟩ = some (.int .i64 pc[k].thn) ∧ wr.cell? ⟨PB, k * 4 + 3, none⟩ = some (.int .i64 pc[k].els)) ∧ RdSt wr A' pc[k].code ∧ (lo ≤ k → ∀ a, A' = some a → 0 < pc[k].code.length → a.block < N) := by
  obtain ⟨es, h1, h2, h3, h4⟩ := h
  obtain ⟨A, c, e, hr, _⟩ := Own.form entCells_len h1
  have eA : A = some ⟨PB, 0, none⟩ := by injection e with e; exact e.symm
  subst eA
  have hke : k < es.length := by omega
  obtain ⟨b, off, e', hbl, hc⟩ := hr (by omega)
  injection e' with e'
  injection e' with e1 e2
  subst e1 e2
  obtain ⟨⟨f1, f2, f3, f4⟩, f5⟩ := h3 k es[k] pc[k] (List.getElem?_eq_getElem hke) (List.getElem?_eq_getElem hk)
  have hcc := hc k es[k] (List.getElem?_eq_getElem hke)
  refine ⟨es[k].A, es[k].cap, ⟨?_, ?_, ?_, ?_⟩, ?_, fun hl a ha hn => h4 k es[k] (List.getElem?_eq_getElem hke) hl a ha (by rw [f1]; exact hn)⟩
  · have := hcc 0 (by omega); simpa [Ent.cells, f1] using this
  · have := hcc 1 (by omega); simpa [Ent.cells, f2] using this
  · have := hcc 2 (by omega); simpa [Ent.cells, f3] using this
  · have := hcc 3 (by omega); simpa [Ent.cells, f4] using this
  · rcases f5 with f5 | f5
    · exact Rd.below f5 hb
    · obtain ⟨A', c', g1, g2, _⟩ := Own.form stepCells_len f5
      have : es[k].A = A' := by injection g1
      rw [this]; exact g2
theorem PRow.rd (h : PRow w0 wr PB cap pc lo N) (hb : Below w0.heap.size w0 wr) : RdBk wr (some ⟨PB, 0, none⟩) pc := by
  intro hn
  refine ⟨PB, 0, rfl, ?_, fun k x hk => ?_⟩
  · obtain ⟨es, h1, _⟩ := h
    exact (World.ownsRow.lt h1 PB rfl).2
  · have hkl := (List.getElem?_eq_some_iff.1 hk).1
    rw [List.getElem?_eq_getElem hkl] at hk
    injection hk with hk
    subst hk
    obtain ⟨A', cap', ⟨h1, h2, h3, h4⟩, h5, _⟩ := h.entry hb hkl
    rw [Nat.zero_add]
    exact ⟨A', cap', h1, h2, h3, h4, h5⟩
def TyK (w w' : World) : Prop := ∀ (k : Nat) (a : Array Value) (e : Nat), e = 25 ∨ e = 78 → w.heap[k]? = some (Obj.cells a e (0, 0)) → w'.heap[k]? = some (Obj.cells a e (0, 0))
theorem PRow.tyk (h : PRow w0 wr PB cap pc lo N) (hk : TyK wr w') : PRow w0 w' PB cap pc lo N :=
  let ⟨es, h1, h2, h3, h4⟩ := h
  ⟨es, own_tyk h1 fun k a => hk k a _ (.inl rfl), h2, fun i e b he hb => ⟨(h3 i e b he hb).1, (h3 i e b he hb).2.imp id fun h => own_tyk h fun k a => hk k a _ (.inr rfl)⟩, h4⟩
/-- All that there is lies below what comes. -/
theorem PRow.fresh (h : PRow w0 wr PB cap pc lo N) (hb : Below w0.heap.size w0 wr) : PRow w0 wr PB cap pc 0 wr.heap.size := by
  obtain ⟨es, h1, h2, h3, _⟩ := h
  refine ⟨es, h1, h2, h3, fun i e he _ a ha hn => ?_⟩
  have hi := (List.getElem?_eq_some_iff.1 he).1
  obtain ⟨⟨f1, _⟩, f5⟩ := h3 i e pc[i] he (List.getElem?_eq_getElem (by omega))
  rcases f5 with f5 | f5
  · obtain ⟨b, off, e', hbl, _⟩ := f5 (by omega)
    rw [ha] at e'
    injection e' with e'
    subst e'
    exact Nat.lt_of_lt_of_le hbl hb.size
  · rw [ha] at f5
    exact (World.ownsRow.lt f5 a.block rfl).2
theorem TyK.bel1 {M : Nat} {x : Array Value} {E : Nat} (hM : wr.heap[M]? = some (.cells x E (0, 0))) (h1 : E ≠ 25) (h2 : E ≠ 78) (hb : Bel1 M wr w') : TyK wr w' := fun k a e he hk => (hb.block k (lt_cells hk) (by
  rcases he with rfl | rfl
  · exact ty_ne hk hM (Ne.symm h1)
  · exact ty_ne hk hM (Ne.symm h2))).trans hk
theorem TyK.below (hb : Below wr.heap.size wr w') : TyK wr w' := fun k _ _ _ hk => (hb.block k (lt_cells hk)).trans hk
theorem PRow.ty (h : PRow w0 wr PB cap pc lo N) : ∃ cur, wr.heap[PB]? = some (.cells cur 25 (0, 0)) := by
  obtain ⟨es, h1, _⟩ := h
  exact own_ty h1 rfl
theorem PRow.at_ (h : PRow w0 wr PB cap pc lo N) : w0.heap.size ≤ PB := by
  obtain ⟨es, h1, _⟩ := h
  exact (World.ownsRow.lt h1 PB rfl).1
/-- A block's code is another. -/
theorem PRow.set {i : Nat} (h : PRow w0 wr PB cap pc i N) (hi : i < pc.length) {Ac : Option Addr} {n cc : Nat} {c : List Step} (hn : n = c.length) (hc : OwnSt wr w0.heap.size 78 (.slice Ac n cc) c) : PRow w0 (wr.setCell ⟨PB, i * 4, none⟩ (.slice Ac n cc)) PB cap (pc.set i { pc[i] with code := c }) (i + 1) N := by
  have hty := h.ty
  obtain ⟨es, h1, h2, h3, h4'⟩ := h
  obtain ⟨cur, hcur⟩ := hty
  have hst : ∀ (k : Nat) (a : Array Value), wr.heap[k]? = some (Obj.cells a 78 (0, 0)) → (wr.setCell ⟨PB, i * 4, none⟩ (.slice Ac n cc)).heap[k]? = some (Obj.cells a 78 (0, 0)) := fun k a hk => (Below.heap_setCell _ _ _ _ (ty_ne hk hcur (by decide))).trans hk
  have hie : i < es.length := by omega
  refine ⟨es.set i ⟨Ac, n, cc, es[i].test, es[i].thn, es[i].els⟩, ?_, by rw [List.length_set, List.length_set]; exact h2, fun j e b he hb => ?_, fun j e he hj a ha hna => ?_⟩
  · have hs : es.length = pc.length := h2
    have hw : wr.ownsRow w0.heap.size 25 4 (.slice (some ⟨PB, 0, none⟩) pc.length cap) pc.length (es.flatMap Ent.cells) := by have := h1; unfold Own at this; rw [hs] at this; exact this
    have h4 := Own.setJ hw (j := i * 4) (by omega) (.slice Ac n cc)
    have h5 := flat_set entCells_len es i 0 (.slice Ac n cc) ⟨Ac, n, cc, es[i].test, es[i].thn, es[i].els⟩ hie (by omega) rfl
    rw [Nat.add_zero] at h5
    rw [h5] at h4
    unfold Own
    rw [List.length_set, List.length_set, hs]
    exact h4
  · rw [List.getElem?_set] at he hb
    by_cases e1 : i = j
    · subst e1
      rw [if_pos rfl, if_pos hie] at he
      rw [if_pos rfl, if_pos hi] at hb
      injection he with he
      injection hb with hb
      subst he hb
      obtain ⟨⟨_, g2, g3, g4⟩, _⟩ := h3 i es[i] pc[i] (List.getElem?_eq_getElem hie) (List.getElem?_eq_getElem hi)
      exact ⟨⟨hn, g2, g3, g4⟩, .inr (own_tyk hc hst)⟩
    · rw [if_neg e1] at he hb
      exact ⟨(h3 j e b he hb).1, (h3 j e b he hb).2.imp id fun h => own_tyk h hst⟩
  · rw [List.getElem?_set, if_neg (by omega)] at he
    exact h4' j e he (by omega) a ha hna
end
/-- On the way back through a block. -/
structure TX (wr : World) (M N : Nat) (b : Bool) (s : Nat) (vc : Value) (lst : List Step) (W : World) : Prop where
  bel : Bel1 M wr W
  bM : W.heap[M]? = some (.cells #[.bool b] 4 (0, 0))
  bC : W.heap[N + 1]? = some (.cells #[vc] 22 (0, 0))
  bS : W.heap[N + 1 + 1]? = some (.cells #[.int .u32 (s : Nat)] 39 (0, 0))
  own : OwnSt W (N + 1 + 1 + 1 + 1) 78 vc lst
  n0 : wr.heap.size ≤ N
section
variable {wr W W' : World} {M N s : Nat} {b : Bool} {vc : Value} {lst : List Step}
theorem TX.alloc (h : TX wr M N b s vc lst W) (o : Obj) : TX wr M N b s vc lst (W.alloc o) :=
  have k : ∀ {j : Nat} {x : Obj}, W.heap[j]? = some x → (W.alloc o).heap[j]? = some x := fun {j _} hx => (Below.heap_alloc W o j (lt_cells hx)).trans hx
  ⟨h.bel.alloc o, k h.bM, k h.bC, k h.bS, Own.alloc h.own o, h.n0⟩
theorem TX.drew (h : TX wr M N b s vc lst W) : TX wr M N b s vc lst W.drew := ⟨h.bel.drew, h.bM, h.bC, h.bS, Own.drew h.own, h.n0⟩
theorem TX.below (h : TX wr M N b s vc lst W) (hb : Below W.heap.size W W') : TX wr M N b s vc lst W' :=
  have k : ∀ {j : Nat} {x : Obj}, W.heap[j]? = some x → W'.heap[j]? = some x := fun {j _} hx => (hb.block j (lt_cells hx)).trans hx
  ⟨h.bel.trans ⟨hb.os, hb.tape, hb.output, hb.size, fun j hj _ => hb.block j hj⟩, k h.bM, k h.bC, k h.bS, Own.below h.own hb, h.n0⟩
theorem TX.grown (h : TX wr M N b s vc lst W) {row : Option Nat} (hg : W.grownBy W' row) (hk : ∀ (k : Nat) (a : Array Value) (e : Nat), W.heap[k]? = some (Obj.cells a e (0, 0)) → W'.heap[k]? = some (Obj.cells a e (0, 0))) (hr : ∀ k, row = some k → wr.heap.size ≤ k) : TX wr M N b s vc lst W' :=
  ⟨⟨hg.os.trans h.bel.os, hg.tape.trans h.bel.tape, hg.output.trans h.bel.output, Nat.le_trans h.bel.size hg.size, fun j hj hne => (hg.block j (Nat.lt_of_lt_of_le hj h.bel.size) (fun e => by have := hr j e.symm; omega)).trans (h.bel.block j hj hne)⟩, hk _ _ _ h.bM, hk _ _ _ h.bC, hk _ _ _ h.bS, own_tyk h.own fun k a => hk k a _, h.n0⟩
theorem TX.lt (h : TX wr M N b s vc lst W) : M < W.heap.size ∧ N + 1 + 1 < W.heap.size := ⟨lt_cells h.bM, lt_cells h.bS⟩
theorem TX.setM (h : TX wr M N b s vc lst W) : TX wr M N true s vc lst (W.setCell ⟨M, 0, none⟩ (.bool true)) := by
  have k : ∀ {j : Nat} {x : Array Value} {e : Nat}, e ≠ 4 → W.heap[j]? = some (Obj.cells x e (0, 0)) → (W.setCell ⟨M, 0, none⟩ (.bool true)).heap[j]? = some (Obj.cells x e (0, 0)) := fun {j _ _} he hx => (Below.heap_setCell _ _ _ _ (ty_ne hx h.bM he)).trans hx
  exact ⟨h.bel.set_ rfl _, by rw [heap_setC W M 0 _ _ _ h.bM]; rfl, k (by decide) h.bC, k (by decide) h.bS, own_tyk h.own fun j a hj => k (by decide) hj, h.n0⟩
theorem TX.setS (h : TX wr M N b s vc lst W) (y : Nat) : TX wr M N b y vc lst (W.setCell ⟨N + 1 + 1, 0, none⟩ (.int .u32 (y : Nat))) := by
  have k : ∀ {j : Nat} {x : Array Value} {e : Nat}, e ≠ 39 → W.heap[j]? = some (Obj.cells x e (0, 0)) → (W.setCell ⟨N + 1 + 1, 0, none⟩ (.int .u32 (y : Nat))).heap[j]? = some (Obj.cells x e (0, 0)) := fun {j _ _} he hx => (Below.heap_setCell _ _ _ _ (ty_ne hx h.bS he)).trans hx
  have hn := h.n0
  refine ⟨⟨h.bel.os, h.bel.tape, h.bel.output, by have := h.bel.size; simp only [World.setCell]; simp; omega, fun j hj hne => (Below.heap_setCell _ _ _ _ (by show j ≠ N + 1 + 1; omega)).trans (h.bel.block j hj hne)⟩, k (by decide) h.bM, k (by decide) h.bC, by rw [heap_setC W (N + 1 + 1) 0 _ _ _ h.bS]; rfl, own_tyk h.own fun j a hj => k (by decide) hj, h.n0⟩
/-- The code has a row of its own that is another now. -/
theorem TX.setC (h : TX wr M N b s vc lst W) {v' : Value} {lst' : List Step} (hg : W.grownBy W' vc.ownBlock) (hown : OwnSt W' (N + 1 + 1 + 1 + 1) 78 v' lst') : TX wr M N b s v' lst' (W'.setCell ⟨N + 1, 0, none⟩ v') := by
  have k0 : ∀ {j : Nat} {x : Array Value} {e : Nat}, e ≠ 78 → W.heap[j]? = some (Obj.cells x e (0, 0)) → W'.heap[j]? = some (Obj.cells x e (0, 0)) := fun {j _ _} he hx => (hg.block j (lt_cells hx) (fun e' => by
    obtain ⟨cur, hc⟩ := own_ty h.own e'.symm
    rw [hx] at hc
    injection hc with hc
    injection hc with _ hc
    exact he hc)).trans hx
  have hC' := k0 (by decide) h.bC
  have k : ∀ {j : Nat} {x : Array Value} {e : Nat}, e ≠ 22 → W'.heap[j]? = some (Obj.cells x e (0, 0)) → (W'.setCell ⟨N + 1, 0, none⟩ v').heap[j]? = some (Obj.cells x e (0, 0)) := fun {j _ _} he hx => (Below.heap_setCell _ _ _ _ (ty_ne hx hC' he)).trans hx
  have hn := h.n0
  have hs := h.bel.size
  refine ⟨⟨hg.os.trans h.bel.os, hg.tape.trans h.bel.tape, hg.output.trans h.bel.output, by have := hg.size; simp only [World.setCell]; simp; omega, fun j hj hne => (Below.heap_setCell _ _ _ _ (by show j ≠ N + 1; omega)).trans ((hg.block j (by omega) (fun e => by have := (World.ownsRow.lt h.own _ e.symm).1; omega)).trans (h.bel.block j hj hne))⟩, k (by decide) (k0 (by decide) h.bM), by rw [heap_setC W' (N + 1) 0 _ _ _ hC']; rfl, k (by decide) (k0 (by decide) h.bS), own_tyk hown fun j a hj => k (by decide) hj, h.n0⟩
theorem TX.at_ (h : TX wr M N b s vc lst W) : W.cell? ⟨M, 0, none⟩ = some (.bool b) ∧ W.cell? ⟨N + 1, 0, none⟩ = some vc ∧ W.cell? ⟨N + 1 + 1, 0, none⟩ = some (.int .u32 (s : Nat)) ∧ W.frozen? ⟨M, 0, none⟩ = false ∧ W.frozen? ⟨N + 1, 0, none⟩ = false ∧ W.frozen? ⟨N + 1 + 1, 0, none⟩ = false := by
  refine ⟨?_, ?_, ?_, frozen_of h.bM, frozen_of h.bC, frozen_of h.bS⟩
  · rw [cell_of_row W M 0 _ _ _ h.bM]; rfl
  · rw [cell_of_row W (N + 1) 0 _ _ _ h.bC]; rfl
  · rw [cell_of_row W (N + 1 + 1) 0 _ _ _ h.bS]; rfl
end
section
variable {P : Program} {ops : Array Oper} {Q : Exit → Act → World → Prop} {n lvl : Nat}
def plainOp (o : Oper) : Bool := noDefer o && o.guard.isNone
theorem wpListIn_of_wpList (hL : ¬ LetsOut Q) : ∀ (l : List Oper), l.all plainOp = true → ∀ (a : Act) (w : World), wpList P ops Q l a w → wpListIn (Fence.wide.inRound lvl) n P ops Q l a w
  | [], _, _, _, h => h
  | o :: rest, hd, a, w, h => by
    rw [List.all_cons, Bool.and_eq_true] at hd
    have ih := wpListIn_of_wpList hL rest hd.2
    have h1 := hd.1
    unfold plainOp at h1
    rw [Bool.and_eq_true] at h1
    have hg : o.guard = none := by
      have := h1.2
      cases hgo : o.guard with
      | none => rfl
      | some x => rw [hgo] at this; cases this
    have hnd : ∀ o', (#[o] : Array Oper)[0]? = some o' → ∀ c, o'.op ≠ .defer c := fun o' ho' c e => by
      have : o = o' := by simpa using ho'
      subst this
      have := h1.1
      unfold noDefer at this
      rw [e] at this; cases this
    have hw : ∀ y, Region.wanted o y = true := fun y => by simp [Region.wanted, hg]
    unfold wpList at h
    rw [if_pos (hw _)] at h
    unfold wpListIn
    rw [if_pos (hw _)]
    have h0 : wpOp P #[o] Q 0 (wpList P ops Q rest) a w := by
      unfold wpOp
      simp only [show (#[o] : Array Oper)[0]? = some o from rfl, hw, if_true]
      exact h
    have h3 := wpOpIn_of_wp (n := n) (l := lvl) hnd hL (wpOp_mono (fun a w => ih a w) h0)
    unfold wpOpIn at h3
    simp only [show (#[o] : Array Oper)[0]? = some o from rfl, hw, if_true] at h3
    exact h3
/-- A region without draws in a round, walked as outside of it. -/
theorem wpIn_region_plain {id : Nat} {a : Act} {w : World} {l : List Oper} (hd : l.all plainOp = true) (hL : ¬ LetsOut Q) (h : wpList P l.toArray Q l a w) : (Code.region id l.toArray false).wpIn (Fence.wide.inRound lvl) n P Q a w :=
  wpIn_region_lit (wpListIn_of_wpList hL l hd a w h)
end
/-- In a round over the steps: what abides. -/
structure ZT (W0 W : World) (n₀ M : Nat) (W' : World) : Prop where
  kf : KeepsFrom W0.heap.size W W'
  kb : KpB n₀ M W W'
  k0 : KeepsFrom 0 W0 W'
section
variable {W0 W W' X : World} {n₀ M : Nat}
theorem ZT.set (h : ZT W0 W n₀ M W') {r : Nat} (hr : n₀ ≤ r) (hM : r ≠ M) (j : Nat) (v : Value) : ZT W0 W n₀ M (W'.setCell ⟨r, j, none⟩ v) :=
  ⟨h.kf.trans ((KeepsOthers.setCell _ _ _).from _), ⟨h.kb.1.setCell (p := ⟨r, j, none⟩) hr v, fun u hu => by rw [World.cell?_setCell_far _ _ _ _ hM]; exact h.kb.2 u hu⟩, h.k0.trans ((KeepsOthers.setCell _ _ _).from _)⟩
theorem keepsF_below {B : Nat} (hb : Below W'.heap.size W' X) : KeepsFrom B W' X := ⟨hb.size, fun k _ _ h1 _ => (hb.block k (Array.getElem?_eq_some_iff.1 h1).1).trans h1⟩
theorem ZT.below (h : ZT W0 W n₀ M W') (hM : M < W'.heap.size) (hn : n₀ ≤ W'.heap.size) (hb : Below W'.heap.size W' X) : ZT W0 W n₀ M X :=
  ⟨h.kf.trans (keepsF_below hb), ⟨h.kb.1.trans (hb.mono hn), fun v hv => (hb.cell (p := ⟨M, 0, none⟩) hM).trans (h.kb.2 v hv)⟩, h.k0.trans (keepsF_below hb)⟩
theorem ZT.grown (h : ZT W0 W n₀ M W') (hM : M < W'.heap.size) (hn : n₀ ≤ W'.heap.size) {row : Option Nat} (hg : W'.grownBy X row) (hr : ∀ r, row = some r → n₀ ≤ r ∧ r ≠ M ∧ ∃ a e, W'.heap[r]? = some (Obj.cells a e (0, 0))) : ZT W0 W n₀ M X := by
  have kk : ∀ B, KeepsFrom B W' X := fun B => ⟨hg.size, fun k o _ h1 h2 => (hg.block k (Array.getElem?_eq_some_iff.1 h1).1 (fun e => by
    obtain ⟨_, _, a, e', hc⟩ := hr k e.symm
    rw [h1] at hc; injection hc with hc
    subst hc; cases h2)).trans h1⟩
  exact ⟨h.kf.trans (kk _), ⟨h.kb.1.grown hg (by omega) (fun k e => (hr k e).1), fun v hv => (World.cell?_of_block (hg.block M hM (fun e => (hr M e.symm).2.1 rfl))).trans (h.kb.2 v hv)⟩, h.k0.trans (kk _)⟩
end
end Go.Proofs.Ytadmmciiahdmcaa
