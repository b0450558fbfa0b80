/- api.Block's row of the table. -/
import Derived.Test.YtmgejacndhnikaaRows
import Derived.Test.YtmgejacndhnikaaLib
import Derived.Test.YtmgejacndhnikaaBlkH
import Derived.Test.YtmgejacndhnikaaLLn
import Derived.Test.YtmgejacndhnikaaAppN
import Derived.Lib.SliceRun
namespace Go.Proofs.Ytmgejacndhnikaa
open Go.RowKit
theorem infoBlk : (Try.prog.info? 85).map (fun i => (i.zero, i.size, i.bytes)) = some (some (.agg #[.slice none 0 0, .int .i64 0, .int .i64 0, .int .i64 0]), 4, 48) := by kernel_rfl
end Go.Proofs.Ytmgejacndhnikaa
namespace Go.Proofs.Ytmgejacndhnikaa
open Go.RowKit

theorem flatSt_set (y : Step) : ∀ (l : List Step) (k : Nat), k < l.length → (l.set k y).flatMap Step.cells = (((((l.flatMap Step.cells).set (k * 5) (.int .i64 y.op)).set (k * 5 + 1) (.int .i64 y.to)).set (k * 5 + 2) (.int .i64 y.a)).set (k * 5 + 3) (.int .i64 y.b)).set (k * 5 + 4) (.int .i64 y.val)
  | [], _, h => absurd h (by simp)
  | x :: r, 0, _ => by simp [Step.cells]
  | x :: r, k + 1, h => by
    have ih := flatSt_set y r k (by simpa using h)
    have e : (k + 1) * 5 = k * 5 + 1 + 1 + 1 + 1 + 1 := by omega
    rw [List.set_cons_succ, List.flatMap_cons, ih, List.flatMap_cons, e]
    simp [Step.cells]
/-- l[k] = y -/
theorem OwnSt.set5 {w : World} {base g cap n : Nat} {l : List Step} (h : OwnSt w base 87 (.slice (some ⟨g, 0, none⟩) n cap) l) {k : Nat} (hk : k < l.length) (y : Step) :
    OwnSt (((((w.setCell ⟨g, k * 5, none⟩ (.int .i64 y.op)).setCell ⟨g, k * 5 + 1, none⟩ (.int .i64 y.to)).setCell ⟨g, k * 5 + 2, none⟩ (.int .i64 y.a)).setCell ⟨g, k * 5 + 3, none⟩ (.int .i64 y.b)).setCell ⟨g, k * 5 + 4, none⟩ (.int .i64 y.val)) base 87 (.slice (some ⟨g, 0, none⟩) n cap) (l.set k y) := by
  have hn : n = l.length := by
    rcases h.2 with ⟨h0, _⟩ | ⟨_, _, _, h0, _⟩
    · cases h0
    · injection h0
  subst hn
  have h1 := (World.ownsRow.stored (w := w) (base := base) (e := 87) (size := 5) (g := g) (cap := cap) (n := l.length) (xs := l.flatMap Step.cells) h (k * 5) (.int .i64 y.op)).1
  have h2 := (World.ownsRow.stored h1 (k * 5 + 1) (.int .i64 y.to)).1
  have h3 := (World.ownsRow.stored h2 (k * 5 + 2) (.int .i64 y.a)).1
  have h4 := (World.ownsRow.stored h3 (k * 5 + 3) (.int .i64 y.b)).1
  have h5 := (World.ownsRow.stored h4 (k * 5 + 4) (.int .i64 y.val)).1
  unfold OwnSt Own
  rw [List.length_set, flatSt_set y l k hk]
  exact h5
theorem OwnSt.at5 {w : World} {base n c : Nat} {A : Option Addr} {l : List Step} (h : OwnSt w base 87 (.slice A n c) l) (hl : 0 < l.length) :
    ∃ g, A = some ⟨g, 0, none⟩ ∧ base ≤ g ∧ g < w.heap.size ∧ (∀ j, w.frozen? ⟨g, j, none⟩ = false) ∧ ∀ k (_ : k < l.length), w.cell? ⟨g, k * 5, none⟩ = some (.int .i64 l[k].op) ∧ w.cell? ⟨g, k * 5 + 1, none⟩ = some (.int .i64 l[k].to) ∧ w.cell? ⟨g, k * 5 + 2, none⟩ = some (.int .i64 l[k].a) ∧ w.cell? ⟨g, k * 5 + 3, none⟩ = some (.int .i64 l[k].b) ∧ w.cell? ⟨g, k * 5 + 4, none⟩ = some (.int .i64 l[k].val) := by
  obtain ⟨g, cap, e, h1, h2, h3, h4⟩ := h.some_ hl
  injection e with e1 e2 e3
  subst e1 e3
  have h' := h
  rw [e2] at h'
  refine ⟨g, rfl, h1, h2, h4, fun k hk => ?_⟩
  have := fun j hj => Own.cell_ (f := Step.cells) stepCells_len h' hk (j := j) hj
  exact ⟨by simpa [Step.cells] using this 0 (by decide), by simpa [Step.cells] using this 1 (by decide), by simpa [Step.cells] using this 2 (by decide), by simpa [Step.cells] using this 3 (by decide), by simpa [Step.cells] using this 4 (by decide)⟩
theorem OwnSt.rd {w : World} {base : Nat} {v : Value} {l : List Step} (h : OwnSt w base 87 v l) : ∃ A cap, v = .slice A l.length cap ∧ RdSt w A l := by
  obtain ⟨A', cap', h1, h2, _⟩ := h.form stepCells_len
  exact ⟨A', cap', h1, h2⟩
set_option maxHeartbeats 1000000 in
theorem cloneSt_calls (A : Option Addr) (l : List Step) (cap : Nat) (w : World) (hA : RdSt w A l) (h16 : l.length ≤ 1000) :
    Calls Try.prog 89 #[.slice A l.length cap] w fun e w' => ∃ v, e = .returned v ∧ OwnSt w' w.heap.size 87 v l ∧ Below w.heap.size w w' := by
  have HA := Lib.hid hA
  have q22 : ∀ (w : World) (a : Option Addr) (n c n' c' : Nat), (binOp .eql 48 (.slice a n c) (.slice none n' c')).run Try.prog w = .ok (.bool a.isNone) w := fun w a n c n' c' => Lib.run_eql_slice_nil w _ _ a n c n' c' Try.underlying48
  cases A with
  | none =>
    have : l = [] := by
      by_cases hm : 0 < l.length
      · obtain ⟨_, _, e, _⟩ := hA hm; cases e
      · exact List.eq_nil_of_length_eq_zero (by omega)
    subst this
    clear hA HA
    go_enter Try.func89, Try.ntmps89
    go_wp2
    go_ret
    exact ⟨_, rfl, Own.nil_ _ _ _, Below.refl _ _⟩
  | some a =>
    clear hA
    have HE := Lib.hid (own_new Step.cells 5 87 stepCells_len w w.heap.size (Nat.le_refl _) [] (by simp [maxLen]))
    obtain ⟨v3, w3, hrun, hO3, hg3, -⟩ := run_appN (P := Try.prog) 48 48 Step.cells 5 40 87 (Step.mk 0 0 0 0 0).agg Try.underlying48 infoStep rfl (by decide) stepCells_len stepCells_one w.heap.size _ [] HE.out (some a) l cap (Rd.below HA.out ((Below.refl w.heap.size w).alloc (Nat.le_refl _) _)) (by simp [maxLen]; omega) (by simp; omega) (by simp)
    rw [List.nil_append] at hO3
    have HO3 := Lib.hid hO3
    have HW3 := Lib.hid (((Below.refl w.heap.size w).alloc (Nat.le_refl _) (.cells #[] 87)).grown hg3 (by simp) (fun k e => by have e : some w.heap.size = some k := e; injection e with e; omega))
    have Hrun := Lib.hid hrun
    clear hO3 hg3 hrun
    go_enter Try.func89, Try.ntmps89
    go_wp2_with (at_builtin; refine wpList_app_run rfl 48 _ _ rfl rfl rfl Hrun.out ?_)
    go_ret
    exact ⟨_, rfl, HO3.out, HW3.out⟩

/-- A block's cells. -/
structure RB where
  v : Value
  t : Int
  h : Int
  e : Int
  hv : v.oneCell' = true
def RB.cells (x : RB) : List Value := [x.v, .int .i64 x.t, .int .i64 x.h, .int .i64 x.e]
theorem rbCells_len (x : RB) : x.cells.length = 4 := rfl
theorem rbCells_one (x : RB) : ∀ u ∈ x.cells, u.oneCell' = true := by
  intro u hu; simp [RB.cells] at hu
  rcases hu with rfl | rfl | rfl | rfl
  · exact x.hv
  all_goals rfl
/-- A row of blocks of the call's own; the steps lie elsewhere. -/
def OwnBk (w : World) (base : Nat) (v : Value) (l : List Blk) : Prop :=
  ∃ raws : List RB, Own RB.cells 4 w base 85 v raws ∧ raws.length = l.length ∧ ∀ (k : Nat) (x : RB) (b : Blk), raws[k]? = some x → l[k]? = some b →
    x.t = b.test ∧ x.h = b.thn ∧ x.e = b.els ∧ ∃ A cap, x.v = .slice A b.code.length cap ∧ RdSt w A b.code ∧ ∀ p, A = some p → 0 < b.code.length → v.ownBlock ≠ some p.block
section
variable {w w' : World} {base : Nat} {v : Value} {l : List Blk}
theorem OwnBk.nil_ (w : World) (base : Nat) : OwnBk w base (.slice none 0 0) [] := ⟨[], Own.nil_ _ _ _, rfl, fun k x b h => by cases h⟩
theorem OwnBk.below (h : OwnBk w base v l) (hb : Below w.heap.size w w') : OwnBk w' base v l := by
  obtain ⟨raws, h1, h2, h3⟩ := h
  refine ⟨raws, Own.below h1 hb, h2, fun k x b hx hk => ?_⟩
  obtain ⟨e1, e2, e3, A, cap, e4, e5, e6⟩ := h3 k x b hx hk
  exact ⟨e1, e2, e3, A, cap, e4, Rd.below e5 hb, e6⟩
theorem OwnBk.rd (h : OwnBk w base v l) : ∃ A cap, v = .slice A l.length cap ∧ RdBk w A l := by
  obtain ⟨raws, h1, h2, h3⟩ := h
  obtain ⟨A, cap, e, hR, _⟩ := h1.form rbCells_len
  refine ⟨A, cap, by rw [e, h2], fun hn => ?_⟩
  obtain ⟨b, off, e1, hb, hc⟩ := hR (by omega)
  refine ⟨b, off, e1, hb, fun k x hx => ?_⟩
  have hk : k < raws.length := by rw [h2]; exact (List.getElem?_eq_some_iff.1 hx).1
  have hr := List.getElem?_eq_getElem hk
  obtain ⟨q1, q2, q3, A', cap', q4, q5, _⟩ := h3 k _ x hr hx
  have := hc k _ hr
  refine ⟨A', cap', ?_, ?_, ?_, ?_, q5⟩
  · have := this 0 (by decide); rw [← q4]; simpa [RB.cells] using this
  · have := this 1 (by decide); rw [← q1]; simpa [RB.cells] using this
  · have := this 2 (by decide); rw [← q2]; simpa [RB.cells] using this
  · have := this 3 (by decide); rw [← q3]; simpa [RB.cells] using this
/-- out = append(out, b), as a run: b's cells lie in a block of their own. -/
theorem OwnBk.app (h : OwnBk w base v l) (hbase : base ≤ w.heap.size) (hlen : l.length ≤ 1000000) (S c : Nat) (A : Option Addr) (cap : Nat) (b : Blk) (hs0 : w.cell? ⟨S, 0, none⟩ = some (.slice A b.code.length cap)) (hs1 : w.cell? ⟨S, 1, none⟩ = some (.int .i64 b.test)) (hs2 : w.cell? ⟨S, 2, none⟩ = some (.int .i64 b.thn)) (hs3 : w.cell? ⟨S, 3, none⟩ = some (.int .i64 b.els))
    (hR : RdSt w A b.code) (hne : ∀ p, A = some p → 0 < b.code.length → v.ownBlock ≠ some p.block) :
    ∃ v' w', (Builtin.append_ #[22, 22] 22 #[v, .slice (some ⟨S, 0, none⟩) 1 c]).run Try.prog w = .ok v' w' ∧ OwnBk w' base v' (l ++ [b]) ∧ w.grownBy w' v.ownBlock := by
  obtain ⟨raws, h1, h2, h3⟩ := h
  obtain ⟨v', w', hr, hO, hg, hat⟩ := run_app1 (P := Try.prog) (w := w) 22 22 RB.cells 4 48 85 (.agg #[.slice none 0 0, .int .i64 0, .int .i64 0, .int .i64 0]) Try.underlying22 infoBlk rfl (by decide) rbCells_len rbCells_one base v raws ⟨.slice A b.code.length cap, b.test, b.thn, b.els, rfl⟩ h1 S c (by
    intro j hj
    match j, hj with
    | 0, _ => exact hs0
    | 1, _ => exact hs1
    | 2, _ => exact hs2
    | 3, _ => exact hs3) (by rw [h2]; unfold maxLen; omega) (by rw [h2]; omega) hbase
  refine ⟨v', w', hr, ⟨raws ++ [_], hO, by rw [List.length_append, List.length_append, h2]; rfl, fun k x y hx hy => ?_⟩, hg⟩
  have keep : ∀ (A : Option Addr) (m : List Step), RdSt w A m → (∀ p, A = some p → 0 < m.length → v.ownBlock ≠ some p.block) → RdSt w' A m ∧ ∀ p, A = some p → 0 < m.length → v'.ownBlock ≠ some p.block := fun A m hm hn => by
    constructor
    · intro hp
      obtain ⟨bb, off, rfl, hb, hc⟩ := hm hp
      refine ⟨bb, off, rfl, Nat.lt_of_lt_of_le hb hg.size, fun k x hk j hj => ?_⟩
      rw [← hc k x hk j hj]
      exact cell_grown hg bb _ hb (fun e => hn _ rfl hp e.symm)
    · intro p hp h0
      obtain ⟨bb, off, e, hb, hc⟩ := hm h0
      rw [hp] at e
      injection e with e
      subst e
      rcases hat with e | e
      · rw [e]; exact hn _ hp h0
      · rw [e]; intro e2; injection e2 with e2; simp only at e2; omega
  rcases Nat.lt_or_ge k raws.length with hk | hk
  · rw [List.getElem?_append_left hk] at hx
    rw [List.getElem?_append_left (by omega)] at hy
    obtain ⟨q1, q2, q3, A', cap', q4, q5, q6⟩ := h3 k x y hx hy
    obtain ⟨r1, r2⟩ := keep A' _ q5 q6
    exact ⟨q1, q2, q3, A', cap', q4, r1, r2⟩
  · rw [List.getElem?_append_right hk] at hx
    rw [List.getElem?_append_right (by omega)] at hy
    match e : k - raws.length, hx with
    | 0, hx =>
      rw [show k - l.length = 0 by omega] at hy
      simp at hx hy
      subst hx hy
      obtain ⟨r1, r2⟩ := keep A _ hR hne
      exact ⟨rfl, rfl, rfl, A, cap, rfl, r1, r2⟩
    | n + 1, hx => simp at hx
theorem OwnBk.lt (h : OwnBk w base v l) : ∀ g, v.ownBlock = some g → base ≤ g ∧ g < w.heap.size := by
  obtain ⟨raws, h1, _⟩ := h
  exact own_lt h1
end
theorem heapSetCell (w : World) (g j : Nat) (v : Value) (cs : Array Value) (E : Nat) (h : w.heap[g]? = some (.cells cs E (0, 0))) : (w.setCell ⟨g, j, none⟩ v).heap[g]? = some (.cells (cs.setIfInBounds j v) E (0, 0)) := by
  obtain ⟨hlt, hv⟩ := Array.getElem?_eq_some_iff.1 h
  unfold World.setCell
  rw [Array.getElem?_eq_getElem (by simpa using hlt), Array.getElem_modify]
  simp [hv]
end Go.Proofs.Ytmgejacndhnikaa
