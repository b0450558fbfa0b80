/- TileMore: plain law, and rows of tiles of the call's own. -/
import Derived.Test.YtmgejacndhnikaaTileC
import Derived.Test.YtmgejacndhnikaaAppN
namespace Go.Proofs.Ytmgejacndhnikaa
set_option maxRecDepth 100000
open Go.RowKit

theorem errT_zero {vars : Int} {l : List Term} {tiles : List Tile} (h : errT vars l tiles = 0) : tileErr vars l tiles = 0 ∧ 0 ≤ costK l tiles ∧ valT vars l tiles = costK l tiles := by
  unfold errT at h
  by_cases h0 : tileErr vars l tiles = 0
  · rw [if_neg (by simp [h0])] at h
    by_cases h1 : costK l tiles < 0
    · rw [if_pos h1] at h; cases h
    · exact ⟨h0, by omega, by unfold valT; rw [if_neg (by simp [h0]), if_neg h1]⟩
  · rw [if_pos h0] at h; exact absurd h h0
theorem valT_zero {vars : Int} {l : List Term} {tiles : List Tile} (h : errT vars l tiles ≠ 0) : valT vars l tiles = 0 := by
  unfold errT at h
  unfold valT
  by_cases h0 : tileErr vars l tiles = 0
  · rw [if_neg (by simp [h0])] at h ⊢
    by_cases h1 : costK l tiles < 0
    · rw [if_pos h1]
    · rw [if_neg h1] at h; exact absurd rfl h
  · rw [if_pos h0]
/-- One tile more. -/
theorem tile_more {vars : Int} {l : List Term} {tiles : List Tile} {x : Tile} (h : errT vars l tiles = 0) (h10 : tiles.length ≠ 10) (hx : tilesErr [x] = 0) : errT vars l (tiles ++ [x]) = 0 := by
  obtain ⟨h0, h1, -⟩ := errT_zero h
  obtain ⟨hn, hl, hts⟩ := tileErr_ok h0
  obtain ⟨htE, _⟩ := needErr_ok hn
  obtain ⟨hv0, hv6, hl1, hl16, hok⟩ := tErr_ok htE
  have hxo : TlOk x := by
    refine tlOk_of (Classical.byContradiction fun hne => ?_)
    unfold tilesErr at hx
    rw [if_neg (by simp), show tlErrs [x] = if tlErr x = 0 then 0 else tlErr x from rfl, if_neg hne] at hx
    exact hne hx
  have hts2 : ∀ t ∈ tiles ++ [x], TlOk t := fun t ht => by
    rcases List.mem_append.1 ht with ht | ht
    · exact hts t ht
    · simp at ht; subst ht; exact hxo
  have h2 : tileErr vars l (tiles ++ [x]) = 0 := by
    unfold tileErr
    rw [if_neg (by simp [hn])]
    unfold tilesErr
    rw [if_neg (by rw [List.length_append]; simp; omega)]
    exact tlErrs_of hts2
  have h3 := solK_more hok hts hxo l.length (Nat.le_refl _) (l.length - 1)
  have h4 : 0 ≤ costK l (tiles ++ [x]) := (h3 h1).1
  unfold errT
  rw [if_neg (by simp [h2]), if_neg (by omega)]
theorem tile_less {vars : Int} {l : List Term} {tiles : List Tile} {x : Tile} (h : errT vars l tiles = 0) (h2 : errT vars l (tiles ++ [x]) = 0) : 0 ≤ valT vars l (tiles ++ [x]) ∧ valT vars l (tiles ++ [x]) ≤ valT vars l tiles := by
  obtain ⟨h0, h1, e1⟩ := errT_zero h
  obtain ⟨h0', h1', e1'⟩ := errT_zero h2
  obtain ⟨hn, hl, hts⟩ := tileErr_ok h0
  obtain ⟨_, _, hts2⟩ := tileErr_ok h0'
  obtain ⟨htE, _⟩ := needErr_ok hn
  obtain ⟨hv0, hv6, hl1, hl16, hok⟩ := tErr_ok htE
  have h3 := solK_more hok hts (hts2 x (by simp)) l.length (Nat.le_refl _) (l.length - 1)
  rw [e1, e1']
  exact h3 h1
theorem tile_one : valT 1 [⟨2, 0, 0, 0⟩] [⟨2, 0, 0, 5⟩] = 5 ∧ errT 1 [⟨2, 0, 0, 0⟩] [⟨2, 0, 0, 5⟩] = 0 := by decide +kernel

theorem infoTl : (Try.prog.info? 70).map (fun i => (i.zero, i.size, i.bytes)) = some (some (.agg #[.int .i64 0, .int .i64 0, .int .i64 0, .int .i64 0]), 4, 32) := by kernel_rfl
theorem tlCells_len (p : Tile) : p.cells.length = 4 := rfl
theorem tlCells_one (p : Tile) : ∀ u ∈ p.cells, u.oneCell' = true := by
  intro u hu
  simp [Tile.cells] at hu
  rcases hu with rfl | rfl | rfl | rfl <;> rfl
abbrev OwnTl (w : World) (base : Nat) (v : Value) (l : List Tile) : Prop := Own Tile.cells 4 w base 70 v l
theorem run_appTl {w : World} (ty : TypeId) (base : Nat) (v : Value) (l : List Tile) (hown : OwnTl w base v l) (A : Option Addr) (m : List Tile) (c : Nat) (hA : RdTl w A m) (hl : (l.length + m.length) * 32 ≤ 140737488355328) (hbase : base ≤ w.heap.size) :
    ∃ v' w', (Builtin.append_ #[68, 68] ty #[v, .slice A m.length c]).run Try.prog w = .ok v' w' ∧ OwnTl w' base v' (l ++ m) ∧ w.grownBy w' v.ownBlock ∧ (v'.ownBlock = v.ownBlock ∨ v'.ownBlock = some w.heap.size) :=
  run_appN 68 ty Tile.cells 4 32 70 _ Try.underlying68 infoTl rfl (by decide) tlCells_len tlCells_one base v l hown A m c hA (by unfold maxLen; omega) hl hbase
theorem own_ltX {α : Type} {f : α → List Value} {size base E : Nat} {w : World} {v : Value} {l : List α} (h : Own f size w base E v l) : ∀ g, v.ownBlock = some g → base ≤ g ∧ g < w.heap.size := fun g hg => World.ownsRow.lt h g hg
/-- The slice of the call's own in the midst of the region. -/
structure PS (W0 w : World) (v : Value) (l : List Tile) : Prop where
  bel : Below W0.heap.size W0 w
  own : OwnTl w W0.heap.size v l
/-- A literal of one element, in a block apart. -/
structure LS (w : World) (sl : Nat) (x : Tile) (v : Value) : Prop where
  lt : sl < w.heap.size
  rd : RdTl w (some ⟨sl, 0, none⟩) [x]
  ne : v.ownBlock ≠ some sl
section
variable {W0 w : World} {v : Value} {l : List Tile} {sl : Nat} {x : Tile}
theorem PS.alloc (h : PS W0 w v l) (o : Obj) : PS W0 (w.alloc o) v l := ⟨h.bel.alloc h.bel.size o, h.own.alloc o⟩
theorem PS.empty (h : PS W0 w v []) : PS W0 (w.alloc (.cells #[] 70)) (.slice (some ⟨w.heap.size, 0, none⟩) 0 0) [] :=
  ⟨h.bel.alloc h.bel.size _, own_new Tile.cells 4 70 tlCells_len w W0.heap.size h.bel.size [] (by simp)⟩
theorem LS.empty (h : LS w sl x v) : LS (w.alloc (.cells #[] 70)) sl x (.slice (some ⟨w.heap.size, 0, none⟩) 0 0) :=
  ⟨by have := h.lt; simp; omega, Rd.below h.rd ((Below.refl _ _).alloc (Nat.le_refl _) _), fun e => by
    have e : some w.heap.size = some sl := e
    injection e with e; have := h.lt; omega⟩
theorem PS.lit (h : PS W0 w v l) (x : Tile) : LS (w.alloc (.cells #[.int .i64 x.op, .int .i64 x.left, .int .i64 x.right, .int .i64 x.cost] 70)) w.heap.size x v :=
  ⟨by simp, (own_new Tile.cells 4 70 tlCells_len w 0 (Nat.zero_le _) [x] (by simp [maxLen])).form tlCells_len |> fun ⟨A', c', e, h', _⟩ => by
    injection e with e; rw [e]; exact h', fun e => by have := own_ltX h.own _ e; omega⟩
theorem PS.app (h : PS W0 w v l) {w' : World} {v' : Value} {l' : List Tile} (hown : OwnTl w' W0.heap.size v' l') (hg : w.grownBy w' v.ownBlock) : PS W0 w' v' l' :=
  ⟨h.bel.grown hg h.bel.size (fun k hk => (own_ltX h.own k hk).1), hown⟩
theorem LS.app (h : LS w sl x v) {w' : World} {v' : Value} (hg : w.grownBy w' v.ownBlock) (hat : v'.ownBlock = v.ownBlock ∨ v'.ownBlock = some w.heap.size) : LS w' sl x v' :=
  ⟨Nat.lt_of_lt_of_le h.lt hg.size, fun hn => by
    obtain ⟨b, off, e, hb, hc⟩ := h.rd hn
    injection e with e; injection e with e1 e2
    subst e1 e2
    refine ⟨sl, 0, rfl, Nat.lt_of_lt_of_le hb hg.size, fun k y hy j hj => ?_⟩
    rw [← hc k y hy j hj]
    exact World.cell?_of_block (hg.block sl hb (fun e => h.ne e.symm)), fun e => by
    rcases hat with e2 | e2
    · exact h.ne (e2.symm.trans e)
    · rw [e2] at e; injection e with e; have := h.lt; omega⟩
end
end Go.Proofs.Ytmgejacndhnikaa
