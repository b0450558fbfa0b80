/- tile.below walked (written by tiletree.py). -/
import Derived.Test.YtmgejacndhnikaaTileP
import Derived.Test.YtmgejacndhnikaaOwn
import Derived.Test.YtmgejacndhnikaaAppN
import Derived.Deep.RegionHeld3
namespace Go.Proofs.Ytmgejacndhnikaa
set_option maxRecDepth 100000
open Go.RowKit

def Tile.agg (t : Tile) : Value := .agg #[.int .i64 t.op, .int .i64 t.left, .int .i64 t.right, .int .i64 t.cost]
abbrev RdTl (w : World) (A : Option Addr) (l : List Tile) : Prop := Rd Tile.cells 4 w A l
theorem RdTl.at4 {w : World} {A : Option Addr} {l : List Tile} (h : RdTl w A l) {k : Nat} (hk : k < l.length) :
    ∃ b off, A = some ⟨b, off, none⟩ ∧ b < w.heap.size ∧ w.cell? ⟨b, off + k * 4, none⟩ = some (.int .i64 l[k].op) ∧ w.cell? ⟨b, off + k * 4 + 1, none⟩ = some (.int .i64 l[k].left) ∧
      w.cell? ⟨b, off + k * 4 + 2, none⟩ = some (.int .i64 l[k].right) ∧ w.cell? ⟨b, off + k * 4 + 3, none⟩ = some (.int .i64 l[k].cost) := by
  obtain ⟨b, off, e, hb, hc⟩ := h.at_ hk
  exact ⟨b, off, e, hb, by simpa [Tile.cells] using hc 0 (by omega), by simpa [Tile.cells] using hc 1 (by omega), by simpa [Tile.cells] using hc 2 (by omega), by simpa [Tile.cells] using hc 3 (by omega)⟩
def opK (t : Tile) : Nat → Int
  | 0 => t.left
  | _ => t.right
def jK (x : Term) : Nat → Int
  | 0 => x.a
  | _ => x.b
def sidesK (l : List Term) (t : Tile) (x : Term) : Nat → Option (List Int)
  | 0 => some []
  | k + 1 => catO (sidesK l t x k) (sideK l (opK t k) (jK x k))
theorem sidesK_2 (l : List Term) (t : Tile) (x : Term) : sidesK l t x 2 = catO (sideK l t.left x.a) (sideK l t.right x.b) := by
  show catO (catO (some []) (sideK l t.left x.a)) (sideK l t.right x.b) = _
  cases sideK l t.left x.a <;> rfl
def BelE (r : Option (List Int)) (w : World) (e : Ending) (w' : World) : Prop :=
  ∃ v, e = .returned (.tuple #[v, .bool r.isSome]) ∧ OwnI w' w.heap.size 3 v (r.getD []) ∧ Below w.heap.size w w'
set_option maxHeartbeats 16000000 in
theorem below_calls {vars : Int} (A : Option Addr) (l : List Term) (cap i : Nat) (t : Tile) (w : World) (hA : RdT w A l) (hok : ∀ k (h : k < l.length), TOk vars k l[k]) (hi : i < l.length) (_h16 : l.length ≤ 16) (ht : TlOk t) :
    Calls Try.prog 82 #[.slice A l.length cap, .int .i64 (i : Nat), t.agg] w (BelE (belowK l i t) w) := by
  have HA := Lib.hid hA
  obtain ⟨b, off, rfl, hb, c0, c1, c2, c3⟩ := RdT.at4 hA hi
  have ex : l.getD i nulX = l[i] := by rw [List.getD_eq_getElem?_getD, List.getElem?_eq_getElem hi]; rfl
  have hB : belowK l i t = if l[i].op ≠ t.op then none else if l[i].op ≤ 2 then some [] else catO (sideK l t.left l[i].a) (sideK l t.right l[i].b) := by unfold belowK; rw [ex]
  have hx := hok i hi
  have q2 : ((i : Nat) : Int) < ((l.length : Nat) : Int) := by omega
  rw [hB]
  clear hA hok hB ex
  generalize l[i] = x at *
  obtain ⟨xo, xa, xb, xv⟩ := x
  obtain ⟨to, tl, tr, tc⟩ := t
  obtain ⟨_, ⟨l0, l6⟩, ⟨r0, r6⟩, _, _, _⟩ := ht
  obtain ⟨_, _, _, _, hx5⟩ := hx
  unfold Tile.agg
  dsimp only at *
  by_cases h1 : xo = to
  case neg =>
    rw [if_pos h1]
    have q : (xo != to) = true := by rw [bne_iff_ne]; exact h1
    clear h1 hx5
    go_enter Try.func82, Try.ntmps82
    go_wp2
    go_ret2
    exact ⟨_, rfl, Own.nil_ _ _ _, (by (repeat (first | exact Below.refl _ _ | exact trivial | refine Below.alloc ?_ (by first | omega | (simp; done) | (simp; omega)) _ | refine Below.drew ?_)))⟩
  subst h1
  rw [if_neg (by simp)]
  by_cases h2 : xo ≤ 2
  case pos =>
    rw [if_pos h2]
    clear hx5
    go_enter Try.func82, Try.ntmps82
    go_wp2
    go_ret2
    exact ⟨_, rfl, Own.nil_ _ _ _, (by (repeat (first | exact Below.refl _ _ | exact trivial | refine Below.alloc ?_ (by first | omega | (simp; done) | (simp; omega)) _ | refine Below.drew ?_)))⟩
  rw [if_neg h2]
  have HJ0 := Lib.hid (show 0 ≤ xa ∧ xa < i by have := hx5 (by omega); omega)
  have HJ1 := Lib.hid (show 0 ≤ xb ∧ xb < i by have := hx5 (by omega); omega)
  have HP0 := Lib.hid (And.intro l0 l6)
  have HP1 := Lib.hid (And.intro r0 r6)
  clear hx5 l0 l6 r0 r6
  go_enter Try.func82, Try.ntmps82
  go_wp2
  obtain ⟨w3, hw3⟩ : ∃ w3, w3 = ((w.alloc (.cells #[.int .i64 xo, .int .i64 tl, .int .i64 tr, .int .i64 tc] 70)).alloc (.cells #[.int .i64 xo, .int .i64 xa, .int .i64 xb, .int .i64 xv] 62)).alloc (.cells #[.int .i64 tl, .int .i64 tr] 3) := ⟨_, rfl⟩
  rw [← hw3]
  have HB3 : Hid (Below w.heap.size w w3) := Lib.hid (by rw [hw3]; exact (by (repeat (first | exact Below.refl _ _ | exact trivial | refine Below.alloc ?_ (by first | omega | (simp; done) | (simp; omega)) _ | refine Below.drew ?_))))
  have cl0 : w3.cell? ⟨w.heap.size + 1 + 1, 0, none⟩ = some (.int .i64 tl) := by rw [hw3]; exact cell_new _ _ _ _ (by simp) 0
  have cl1 : w3.cell? ⟨w.heap.size + 1 + 1, 1, none⟩ = some (.int .i64 tr) := by rw [hw3]; exact cell_new _ _ _ _ (by simp) 1
  have cx0 : w3.cell? ⟨w.heap.size + 1, 1, none⟩ = some (.int .i64 xa) := by rw [hw3, World.cell?_alloc_some _ _ _ (by rw [cell_new _ _ _ (w.heap.size + 1) (by simp) 1]; rfl)]; exact cell_new _ _ _ _ (by simp) 1
  have cx1 : w3.cell? ⟨w.heap.size + 1, 2, none⟩ = some (.int .i64 xb) := by rw [hw3, World.cell?_alloc_some _ _ _ (by rw [cell_new _ _ _ (w.heap.size + 1) (by simp) 2]; rfl)]; exact cell_new _ _ _ _ (by simp) 2
  have hL : w.heap.size + 1 + 1 < w3.heap.size := by rw [hw3]; simp
  have hX : w.heap.size + 1 < w3.heap.size := by omega
  have HA3 := Lib.hid (Rd.below HA.out HB3.out)
  clear hw3 c0 c1 c2 c3 hb
  go_loopw [9, 31] (fun v i wr => ∃ (k : Nat) (r : List Int), k ≤ 2 ∧ i = .int .i64 k ∧ sidesK l ⟨xo, tl, tr, tc⟩ ⟨xo, xa, xb, xv⟩ k = some r ∧ r.length ≤ 2 * k ∧ OwnI wr w3.heap.size 3 v r ∧ Below w3.heap.size w3 wr) (fun _ i _ => 2 - (intOf i).toNat)
  case atStart => exact ⟨0, [], by omega, rfl, rfl, by simp, Own.nil_ _ _ _, Below.refl _ _⟩
  case round =>
    obtain ⟨k, r, hk, rfl, hS, hl, hO, hW⟩ := hrel
    obtain rfl | rfl | rfl : k = 0 ∨ k = 1 ∨ k = 2 := by omega
    · try rw [show ((0 : Nat) : Int) = 0 from rfl]
      have cL := (hW.cell (p := ⟨w.heap.size + 1 + 1, 0, none⟩) hL).trans cl0
      have cX := (hW.cell (p := ⟨w.heap.size + 1, 1, none⟩) hX).trans cx0
      
      have hs1 : sidesK l ⟨xo, tl, tr, tc⟩ ⟨xo, xa, xb, xv⟩ 1 = catO (some r) (sideK l tl xa) := by
        show catO (sidesK l ⟨xo, tl, tr, tc⟩ ⟨xo, xa, xb, xv⟩ 0) _ = _
        rw [hS]; rfl
      obtain ⟨j0, j1⟩ := HJ0.out
      have Hl := Lib.hid hl
      have Hp := Lib.hid HP0.out
      clear hS
      have HO := Lib.hid hO
      have HW := Lib.hid hW
      have hws := hW.size
      have q9 : tl ≤ 6 := Hp.out.2
      have q8 : 0 ≤ tl := Hp.out.1
      by_cases o0 : tl = 0
      · have q0 : (tl == 0) = true := by rw [beq_iff_eq]; exact o0
        have HS := Lib.hid (show sidesK l ⟨xo, tl, tr, tc⟩ ⟨xo, xa, xb, xv⟩ 1 = some (r ++ [xa]) by rw [hs1]; unfold sideK; rw [if_pos o0]; rfl)
        clear hs1 hO hW o0
        go_wp2_with (at_builtin; refine wpList_appI rfl _ _ rfl w3.heap.size _ r xa rfl (HO.out.alloc _) _ _ rfl (cell_new _ _ _ _ rfl 0) (by omega) (by simp; omega) ?_; intro v' w5 hown' hgrow)
        go_roundw
        case rel => exact ⟨1, r ++ [xa], by omega, by go_num, HS.out, by simp only [List.length_append, List.length_cons, List.length_nil]; have := Hl.out; omega, hown', below_own (HW.out.alloc hws _) hgrow (HO.out.alloc _) (Nat.le_refl _) (by simp; omega)⟩
        case measure => simp [intOf]
      · have q0 : (tl == 0) = false := by rw [beq_eq_false_iff_ne]; exact o0
        have hml : xa.toNat < l.length := by omega
        obtain ⟨m, hmj⟩ : ∃ m : Nat, xa.toNat = m := ⟨_, rfl⟩
        have hjm : xa = (m : Int) := by omega
        rw [hmj] at hml
        obtain ⟨b1, off1, eb, hb, d0, d1, d2, d3⟩ := RdT.at4 HA3.out hml
        injection eb with eb; injection eb with eb1 eb2
        subst eb1 eb2
        have hbr : b < wr.heap.size := Nat.lt_of_lt_of_le hb hws
        replace d0 := (hW.cell (p := ⟨b, off + m * 4, none⟩) hb).trans d0
        replace d1 := (hW.cell (p := ⟨b, off + m * 4 + 1, none⟩) hb).trans d1
        replace d2 := (hW.cell (p := ⟨b, off + m * 4 + 2, none⟩) hb).trans d2
        replace d3 := (hW.cell (p := ⟨b, off + m * 4 + 3, none⟩) hb).trans d3
        have eg : l.getD xa.toNat nulX = l[m] := by rw [hmj, List.getD_eq_getElem?_getD, List.getElem?_eq_getElem hml]; rfl
        have q3 : ((m : Nat) : Int) < ((l.length : Nat) : Int) := by omega
        rw [hjm] at cX
        have Hjm := Lib.hid hjm
        by_cases o1 : l[m].op = tl
        · have q1 : (l[m].op != tl) = false := by rw [bne_eq_false_iff_eq]; exact o1
          rw [o1] at q1 d0
          by_cases o3 : 3 ≤ tl
          · have HS := Lib.hid (show sidesK l ⟨xo, tl, tr, tc⟩ ⟨xo, xa, xb, xv⟩ 1 = some (r ++ [l[m].a, l[m].b]) by rw [hs1]; unfold sideK; rw [eg, if_neg o0, if_neg (by simp [o1]), if_pos o3]; rfl)
            have q5 : (2 : Int) < tl := by omega
            clear hs1 hO eg o0 o1 hjm hmj j0 j1
            generalize l[m] = z at *
            obtain ⟨zo, ma, mb, zv⟩ := z
            dsimp only at d0 d1 d2 d3 HS q1
            have hz3 : w3.heap.size ≤ wr.heap.size := hws
            clear hW
            go_wp2
            have D1 : Hid (wr.drew.cell? ⟨b, off + m * 4 + 1, none⟩ = some (.int .i64 ma)) := Lib.hid d1
            have D2 : Hid (wr.drew.cell? ⟨b, off + m * 4 + 2, none⟩ = some (.int .i64 mb)) := Lib.hid d2
            have HO0 := Lib.hid HO.out.drew
            have HW0 := Lib.hid HW.out.drew
            have hz3 : w3.heap.size ≤ wr.drew.heap.size := hws
            have hb0 : b < w3.heap.size := hb
            have hB0 : Below w3.heap.size wr.drew wr.drew := Below.refl _ _
            refine wp_region_held_drew (S := fun w' => Below w3.heap.size wr.drew w') (by kernel_rfl) hB0 (fun hH0 => ?_)
            clear d0 d1 d2 d3 cL cX HO HW hB0 hb
            generalize wr.drew = w0 at *
            refine wpAnyH_take (i := 0) (oi := { dst := some 60, op := Go.Op.move (Go.Operand.tmp 9), type := 23, pos := "tile.go:51", after := #[], guard := none }) rfl (by kernel_rfl) (by kernel_rfl) (by kernel_rfl) (fun _ _ _ h => h) (Or.inl ⟨by rfl, fun w hw => by (go_simp; try with_reducible rfl)⟩) (by assumption) ?_
            try simp only [Act.put, List.setIfInBounds_toArray, List.set_cons_zero, List.set_cons_succ]
            refine wpAnyH_take (i := 1) (oi := { dst := some 61, op := Go.Op.move (Go.Operand.tmp 0), type := 49, pos := "tile.go:51", after := #[], guard := none }) rfl (by kernel_rfl) (by kernel_rfl) (by kernel_rfl) (fun _ _ _ h => h) (Or.inl ⟨by rfl, fun w hw => by (go_simp; try with_reducible rfl)⟩) (by assumption) ?_
            try simp only [Act.put, List.setIfInBounds_toArray, List.set_cons_zero, List.set_cons_succ]
            refine wpAnyH_take (i := 2) (oi := { dst := some 62, op := Go.Op.move (Go.Operand.tmp 12), type := 3, pos := "tile.go:51", after := #[], guard := none }) rfl (by kernel_rfl) (by kernel_rfl) (by kernel_rfl) (fun _ _ _ h => h) (Or.inl ⟨by rfl, fun w hw => by (go_simp; try with_reducible rfl)⟩) (by assumption) ?_
            try simp only [Act.put, List.setIfInBounds_toArray, List.set_cons_zero, List.set_cons_succ]
            refine wpAnyH_take (i := 3) (oi := { dst := some 63, op := Go.Op.indexAddr 49 (Go.Operand.tmp 61) (Go.Operand.tmp 62), type := 0, pos := "tile.go:51", after := #[{ on := 1, ground := Go.Ground.data }, { on := 2, ground := Go.Ground.data }], guard := none }) rfl (by kernel_rfl) (by kernel_rfl) (by kernel_rfl) (fun _ _ _ h => h) (Or.inl ⟨by rfl, fun w hw => by (go_simp; try with_reducible rfl)⟩) (by assumption) ?_
            try simp only [Act.put, List.setIfInBounds_toArray, List.set_cons_zero, List.set_cons_succ]
            refine wpAnyH_take (i := 4) (oi := { dst := some 64, op := Go.Op.fieldAddr 62 (Go.Operand.tmp 63) 1, type := 0, pos := "tile.go:51", after := #[{ on := 3, ground := Go.Ground.data }], guard := none }) rfl (by kernel_rfl) (by kernel_rfl) (by kernel_rfl) (fun _ _ _ h => h) (Or.inl ⟨by rfl, fun w hw => by (go_simp; try with_reducible rfl)⟩) (by assumption) ?_
            try simp only [Act.put, List.setIfInBounds_toArray, List.set_cons_zero, List.set_cons_succ]
            refine wpAnyH_take (i := 5) (oi := { dst := some 65, op := Go.Op.load 3 (Go.Operand.tmp 64), type := 3, pos := "tile.go:51", after := #[{ on := 4, ground := Go.Ground.data }], guard := none }) rfl (by kernel_rfl) (by kernel_rfl) (by kernel_rfl) (fun _ _ _ h => h) (Or.inl ⟨by rfl, fun w hw => by (have p1 := (Below.cell hw (p := ⟨b, off + m * 4 + 1, none⟩) hb0).trans D1.out; have p2 := (Below.cell hw (p := ⟨b, off + m * 4 + 2, none⟩) hb0).trans D2.out; go_simp; try with_reducible rfl)⟩) (by assumption) ?_
            try simp only [Act.put, List.setIfInBounds_toArray, List.set_cons_zero, List.set_cons_succ]
            refine wpAnyH_take (i := 6) (oi := { dst := some 66, op := Go.Op.move (Go.Operand.tmp 0), type := 49, pos := "tile.go:51", after := #[], guard := none }) rfl (by kernel_rfl) (by kernel_rfl) (by kernel_rfl) (fun _ _ _ h => h) (Or.inl ⟨by rfl, fun w hw => by (go_simp; try with_reducible rfl)⟩) (by assumption) ?_
            try simp only [Act.put, List.setIfInBounds_toArray, List.set_cons_zero, List.set_cons_succ]
            refine wpAnyH_take (i := 7) (oi := { dst := some 67, op := Go.Op.move (Go.Operand.tmp 12), type := 3, pos := "tile.go:51", after := #[], guard := none }) rfl (by kernel_rfl) (by kernel_rfl) (by kernel_rfl) (fun _ _ _ h => h) (Or.inl ⟨by rfl, fun w hw => by (go_simp; try with_reducible rfl)⟩) (by assumption) ?_
            try simp only [Act.put, List.setIfInBounds_toArray, List.set_cons_zero, List.set_cons_succ]
            refine wpAnyH_take (i := 8) (oi := { dst := some 68, op := Go.Op.indexAddr 49 (Go.Operand.tmp 66) (Go.Operand.tmp 67), type := 0, pos := "tile.go:51", after := #[{ on := 6, ground := Go.Ground.data }, { on := 7, ground := Go.Ground.data }], guard := none }) rfl (by kernel_rfl) (by kernel_rfl) (by kernel_rfl) (fun _ _ _ h => h) (Or.inl ⟨by rfl, fun w hw => by (go_simp; try with_reducible rfl)⟩) (by assumption) ?_
            try simp only [Act.put, List.setIfInBounds_toArray, List.set_cons_zero, List.set_cons_succ]
            refine wpAnyH_take (i := 9) (oi := { dst := some 69, op := Go.Op.fieldAddr 62 (Go.Operand.tmp 68) 2, type := 0, pos := "tile.go:51", after := #[{ on := 8, ground := Go.Ground.data }], guard := none }) rfl (by kernel_rfl) (by kernel_rfl) (by kernel_rfl) (fun _ _ _ h => h) (Or.inl ⟨by rfl, fun w hw => by (go_simp; try with_reducible rfl)⟩) (by assumption) ?_
            try simp only [Act.put, List.setIfInBounds_toArray, List.set_cons_zero, List.set_cons_succ]
            refine wpAnyH_take (i := 10) (oi := { dst := some 70, op := Go.Op.load 3 (Go.Operand.tmp 69), type := 3, pos := "tile.go:51", after := #[{ on := 9, ground := Go.Ground.data }], guard := none }) rfl (by kernel_rfl) (by kernel_rfl) (by kernel_rfl) (fun _ _ _ h => h) (Or.inl ⟨by rfl, fun w hw => by (have p1 := (Below.cell hw (p := ⟨b, off + m * 4 + 1, none⟩) hb0).trans D1.out; have p2 := (Below.cell hw (p := ⟨b, off + m * 4 + 2, none⟩) hb0).trans D2.out; go_simp; try with_reducible rfl)⟩) (by assumption) ?_
            try simp only [Act.put, List.setIfInBounds_toArray, List.set_cons_zero, List.set_cons_succ]
            refine wpAnyH_ready (rs := [11]) (by kernel_rfl) (by simp) ?_
            refine AllReadyH.cons (o := { dst := some 71, op := Go.Op.buildSlice 23 2 #[(0, Go.Operand.tmp 65), (1, Go.Operand.tmp 70)], type := 23, pos := "tile.go:51", after := #[{ on := 5, ground := Go.Ground.data }, { on := 10, ground := Go.Ground.data }], guard := none }) rfl (fun K hK => ?_) AllReadyH.nil
            go_simp
            have HBa : Hid (Below w3.heap.size w0 (w0.alloc (Obj.cells #[Value.int IntKind.i64 ma, Value.int IntKind.i64 mb] 3))) := Lib.hid ((Below.refl _ _).alloc hz3 _)
            have HOa := Lib.hid (HO0.out.alloc (Obj.cells #[Value.int IntKind.i64 ma, Value.int IntKind.i64 mb] 3))
            have HRa := Lib.hid (rdI_new2 w0 ma mb 3 w0.heap.size rfl)
            have hza : w0.heap.size < (w0.alloc (Obj.cells #[Value.int IntKind.i64 ma, Value.int IntKind.i64 mb] 3)).heap.size := by simp
            refine hK.out _ _ HBa.out (fun hH1 => ?_)
            clear hK hH0
            have hH0 := hH1
            clear hH1
            generalize w0.alloc (Obj.cells #[Value.int IntKind.i64 ma, Value.int IntKind.i64 mb] 3) = wa at *
            try simp only [Act.put, List.setIfInBounds_toArray, List.set_cons_zero, List.set_cons_succ]
            refine wpAnyH_ready (rs := [12]) (by kernel_rfl) (by simp) ?_
            refine AllReadyH.cons (o := { dst := some 72, op := Go.Op.call { callee := Go.Callee.builtin Go.Builtin.append, args := #[Go.Operand.tmp 60, Go.Operand.tmp 71], argTypes := #[23, 23] }, type := 23, pos := "tile.go:51", after := #[{ on := 0, ground := Go.Ground.data }, { on := 11, ground := Go.Ground.data }], guard := none }) rfl (fun K hK => ?_) AllReadyH.nil
            obtain ⟨v5, w5, hrun, hown, hgrow, -⟩ := run_appN (P := Try.prog) 23 23 intCells 1 8 3 (.int .i64 0) Try.underlying23 infoInt rfl (by decide) intCells_len intCells_one w3.heap.size _ r HOa.out (some ⟨w0.heap.size, 0, none⟩) [ma, mb] 2 HRa.out (by simp [maxLen]; omega) (by simp; omega) (by omega)
            refine wp_app_run 23 _ _ rfl rfl rfl hrun ?_
            have HB5 := Lib.hid (below_own HBa.out hgrow HOa.out (Nat.le_refl _) (by omega))
            have HW5 := Lib.hid (HW0.out.trans HB5.out)
            have HO5 := Lib.hid hown
            refine hK.out _ _ HB5.out (fun hH1 => ?_)
            clear hK hH0 hH1 hrun hown hgrow
            try simp only [Act.put, List.setIfInBounds_toArray, List.set_cons_zero, List.set_cons_succ]
            refine wpAnyH_take (i := 13) (oi := { dst := some 9, op := Go.Op.assign (Go.Operand.tmp 72), type := 23, pos := "tile.go:51", after := #[{ on := 12, ground := Go.Ground.data }, { on := 12, ground := Go.Ground.chain }, { on := 0, ground := Go.Ground.phase }, { on := 1, ground := Go.Ground.phase }, { on := 2, ground := Go.Ground.phase }, { on := 3, ground := Go.Ground.phase }, { on := 4, ground := Go.Ground.phase }, { on := 5, ground := Go.Ground.phase }, { on := 6, ground := Go.Ground.phase }, { on := 7, ground := Go.Ground.phase }, { on := 8, ground := Go.Ground.phase }, { on := 9, ground := Go.Ground.phase }, { on := 10, ground := Go.Ground.phase }, { on := 11, ground := Go.Ground.phase }, { on := 12, ground := Go.Ground.phase }], guard := none }) rfl (by kernel_rfl) (by kernel_rfl) (by kernel_rfl) (fun _ _ _ h => h) (Or.inl ⟨by rfl, fun w hw => by (go_simp; try with_reducible rfl)⟩) (by assumption) ?_
            try simp only [Act.put, List.setIfInBounds_toArray, List.set_cons_zero, List.set_cons_succ]
            refine wpAnyH_done (by kernel_rfl) ?_ _
            go_wp2
            go_roundw
            case rel => exact ⟨1, r ++ [ma, mb], by omega, by go_num, HS.out, by simp only [List.length_append, List.length_cons, List.length_nil]; have := Hl.out; omega, HO5.out, HW5.out⟩
            case measure => simp [intOf]
          · have HS := Lib.hid (show sidesK l ⟨xo, tl, tr, tc⟩ ⟨xo, xa, xb, xv⟩ 1 = some (r ++ []) by rw [hs1]; unfold sideK; rw [eg, if_neg o0, if_neg (by simp [o1]), if_neg o3]; rfl)
            have q5 : ¬ (2 : Int) < tl := by omega
            clear hs1 hO hW eg o0 o1 hjm hmj j0 j1
            generalize l[m] = z at *
            obtain ⟨zo, ma, mb, zv⟩ := z
            dsimp only at d0 d1 d2 d3 q1
            go_wp2
            go_roundw
            case rel => exact ⟨1, r ++ [], by omega, by go_num, HS.out, by simp only [List.length_append, List.length_nil]; have := Hl.out; omega, by rw [List.append_nil]; exact HO.out, HW.out⟩
            case measure => simp [intOf]
        · have q1 : (l[m].op != tl) = true := by rw [bne_iff_ne]; exact o1
          have HN := Lib.hid (show catO (sideK l tl xa) (sideK l tr xb) = none by
            have : sideK l tl xa = none := by unfold sideK; rw [eg, if_neg o0, if_pos o1]
            rw [this]; rfl)
          have HW9 := Lib.hid (HB3.out.trans (hW.mono HB3.out.size))
          clear hs1 hO hW eg o0 o1 hjm hmj j0 j1
          generalize l[m] = z at *
          obtain ⟨zo, ma, mb, zv⟩ := z
          dsimp only at d0 d1 d2 d3 q1
          go_wp2
          go_ret2
          exact ⟨_, by rw [HN.out]; rfl, by rw [HN.out]; exact Own.nil_ _ _ _, HW9.out⟩
    · try rw [show ((1 : Nat) : Int) = 1 from rfl]
      have cL := (hW.cell (p := ⟨w.heap.size + 1 + 1, 1, none⟩) hL).trans cl1
      have cX := (hW.cell (p := ⟨w.heap.size + 1, 2, none⟩) hX).trans cx1
      have cXa := (hW.cell (p := ⟨w.heap.size + 1, 1, none⟩) hX).trans cx0
      have hs1 : sidesK l ⟨xo, tl, tr, tc⟩ ⟨xo, xa, xb, xv⟩ 2 = catO (some r) (sideK l tr xb) := by
        show catO (sidesK l ⟨xo, tl, tr, tc⟩ ⟨xo, xa, xb, xv⟩ 1) _ = _
        rw [hS]; rfl
      obtain ⟨j0, j1⟩ := HJ1.out
      have Hl := Lib.hid hl
      have Hp := Lib.hid HP1.out
      clear hS
      have HO := Lib.hid hO
      have HW := Lib.hid hW
      have hws := hW.size
      have q9 : tr ≤ 6 := Hp.out.2
      have q8 : 0 ≤ tr := Hp.out.1
      by_cases o0 : tr = 0
      · have q0 : (tr == 0) = true := by rw [beq_iff_eq]; exact o0
        have HS := Lib.hid (show sidesK l ⟨xo, tl, tr, tc⟩ ⟨xo, xa, xb, xv⟩ 2 = some (r ++ [xb]) by rw [hs1]; unfold sideK; rw [if_pos o0]; rfl)
        clear hs1 hO hW o0
        go_wp2_with (at_builtin; refine wpList_appI rfl _ _ rfl w3.heap.size _ r xb rfl (HO.out.alloc _) _ _ rfl (cell_new _ _ _ _ rfl 0) (by omega) (by simp; omega) ?_; intro v' w5 hown' hgrow)
        go_roundw
        case rel => exact ⟨2, r ++ [xb], by omega, by go_num, HS.out, by simp only [List.length_append, List.length_cons, List.length_nil]; have := Hl.out; omega, hown', below_own (HW.out.alloc hws _) hgrow (HO.out.alloc _) (Nat.le_refl _) (by simp; omega)⟩
        case measure => simp [intOf]
      · have q0 : (tr == 0) = false := by rw [beq_eq_false_iff_ne]; exact o0
        have hml : xb.toNat < l.length := by omega
        obtain ⟨m, hmj⟩ : ∃ m : Nat, xb.toNat = m := ⟨_, rfl⟩
        have hjm : xb = (m : Int) := by omega
        rw [hmj] at hml
        obtain ⟨b1, off1, eb, hb, d0, d1, d2, d3⟩ := RdT.at4 HA3.out hml
        injection eb with eb; injection eb with eb1 eb2
        subst eb1 eb2
        have hbr : b < wr.heap.size := Nat.lt_of_lt_of_le hb hws
        replace d0 := (hW.cell (p := ⟨b, off + m * 4, none⟩) hb).trans d0
        replace d1 := (hW.cell (p := ⟨b, off + m * 4 + 1, none⟩) hb).trans d1
        replace d2 := (hW.cell (p := ⟨b, off + m * 4 + 2, none⟩) hb).trans d2
        replace d3 := (hW.cell (p := ⟨b, off + m * 4 + 3, none⟩) hb).trans d3
        have eg : l.getD xb.toNat nulX = l[m] := by rw [hmj, List.getD_eq_getElem?_getD, List.getElem?_eq_getElem hml]; rfl
        have q3 : ((m : Nat) : Int) < ((l.length : Nat) : Int) := by omega
        rw [hjm] at cX
        have Hjm := Lib.hid hjm
        by_cases o1 : l[m].op = tr
        · have q1 : (l[m].op != tr) = false := by rw [bne_eq_false_iff_eq]; exact o1
          rw [o1] at q1 d0
          by_cases o3 : 3 ≤ tr
          · have HS := Lib.hid (show sidesK l ⟨xo, tl, tr, tc⟩ ⟨xo, xa, xb, xv⟩ 2 = some (r ++ [l[m].a, l[m].b]) by rw [hs1]; unfold sideK; rw [eg, if_neg o0, if_neg (by simp [o1]), if_pos o3]; rfl)
            have q5 : (2 : Int) < tr := by omega
            clear hs1 hO eg o0 o1 hjm hmj j0 j1
            generalize l[m] = z at *
            obtain ⟨zo, ma, mb, zv⟩ := z
            dsimp only at d0 d1 d2 d3 HS q1
            have hz3 : w3.heap.size ≤ wr.heap.size := hws
            clear hW
            go_wp2
            have D1 : Hid (wr.drew.cell? ⟨b, off + m * 4 + 1, none⟩ = some (.int .i64 ma)) := Lib.hid d1
            have D2 : Hid (wr.drew.cell? ⟨b, off + m * 4 + 2, none⟩ = some (.int .i64 mb)) := Lib.hid d2
            have HO0 := Lib.hid HO.out.drew
            have HW0 := Lib.hid HW.out.drew
            have hz3 : w3.heap.size ≤ wr.drew.heap.size := hws
            have hb0 : b < w3.heap.size := hb
            have hB0 : Below w3.heap.size wr.drew wr.drew := Below.refl _ _
            refine wp_region_held_drew (S := fun w' => Below w3.heap.size wr.drew w') (by kernel_rfl) hB0 (fun hH0 => ?_)
            clear d0 d1 d2 d3 cL cX cXa HO HW hB0 hb
            generalize wr.drew = w0 at *
            refine wpAnyH_take (i := 0) (oi := { dst := some 60, op := Go.Op.move (Go.Operand.tmp 9), type := 23, pos := "tile.go:51", after := #[], guard := none }) rfl (by kernel_rfl) (by kernel_rfl) (by kernel_rfl) (fun _ _ _ h => h) (Or.inl ⟨by rfl, fun w hw => by (go_simp; try with_reducible rfl)⟩) (by assumption) ?_
            try simp only [Act.put, List.setIfInBounds_toArray, List.set_cons_zero, List.set_cons_succ]
            refine wpAnyH_take (i := 1) (oi := { dst := some 61, op := Go.Op.move (Go.Operand.tmp 0), type := 49, pos := "tile.go:51", after := #[], guard := none }) rfl (by kernel_rfl) (by kernel_rfl) (by kernel_rfl) (fun _ _ _ h => h) (Or.inl ⟨by rfl, fun w hw => by (go_simp; try with_reducible rfl)⟩) (by assumption) ?_
            try simp only [Act.put, List.setIfInBounds_toArray, List.set_cons_zero, List.set_cons_succ]
            refine wpAnyH_take (i := 2) (oi := { dst := some 62, op := Go.Op.move (Go.Operand.tmp 12), type := 3, pos := "tile.go:51", after := #[], guard := none }) rfl (by kernel_rfl) (by kernel_rfl) (by kernel_rfl) (fun _ _ _ h => h) (Or.inl ⟨by rfl, fun w hw => by (go_simp; try with_reducible rfl)⟩) (by assumption) ?_
            try simp only [Act.put, List.setIfInBounds_toArray, List.set_cons_zero, List.set_cons_succ]
            refine wpAnyH_take (i := 3) (oi := { dst := some 63, op := Go.Op.indexAddr 49 (Go.Operand.tmp 61) (Go.Operand.tmp 62), type := 0, pos := "tile.go:51", after := #[{ on := 1, ground := Go.Ground.data }, { on := 2, ground := Go.Ground.data }], guard := none }) rfl (by kernel_rfl) (by kernel_rfl) (by kernel_rfl) (fun _ _ _ h => h) (Or.inl ⟨by rfl, fun w hw => by (go_simp; try with_reducible rfl)⟩) (by assumption) ?_
            try simp only [Act.put, List.setIfInBounds_toArray, List.set_cons_zero, List.set_cons_succ]
            refine wpAnyH_take (i := 4) (oi := { dst := some 64, op := Go.Op.fieldAddr 62 (Go.Operand.tmp 63) 1, type := 0, pos := "tile.go:51", after := #[{ on := 3, ground := Go.Ground.data }], guard := none }) rfl (by kernel_rfl) (by kernel_rfl) (by kernel_rfl) (fun _ _ _ h => h) (Or.inl ⟨by rfl, fun w hw => by (go_simp; try with_reducible rfl)⟩) (by assumption) ?_
            try simp only [Act.put, List.setIfInBounds_toArray, List.set_cons_zero, List.set_cons_succ]
            refine wpAnyH_take (i := 5) (oi := { dst := some 65, op := Go.Op.load 3 (Go.Operand.tmp 64), type := 3, pos := "tile.go:51", after := #[{ on := 4, ground := Go.Ground.data }], guard := none }) rfl (by kernel_rfl) (by kernel_rfl) (by kernel_rfl) (fun _ _ _ h => h) (Or.inl ⟨by rfl, fun w hw => by (have p1 := (Below.cell hw (p := ⟨b, off + m * 4 + 1, none⟩) hb0).trans D1.out; have p2 := (Below.cell hw (p := ⟨b, off + m * 4 + 2, none⟩) hb0).trans D2.out; go_simp; try with_reducible rfl)⟩) (by assumption) ?_
            try simp only [Act.put, List.setIfInBounds_toArray, List.set_cons_zero, List.set_cons_succ]
            refine wpAnyH_take (i := 6) (oi := { dst := some 66, op := Go.Op.move (Go.Operand.tmp 0), type := 49, pos := "tile.go:51", after := #[], guard := none }) rfl (by kernel_rfl) (by kernel_rfl) (by kernel_rfl) (fun _ _ _ h => h) (Or.inl ⟨by rfl, fun w hw => by (go_simp; try with_reducible rfl)⟩) (by assumption) ?_
            try simp only [Act.put, List.setIfInBounds_toArray, List.set_cons_zero, List.set_cons_succ]
            refine wpAnyH_take (i := 7) (oi := { dst := some 67, op := Go.Op.move (Go.Operand.tmp 12), type := 3, pos := "tile.go:51", after := #[], guard := none }) rfl (by kernel_rfl) (by kernel_rfl) (by kernel_rfl) (fun _ _ _ h => h) (Or.inl ⟨by rfl, fun w hw => by (go_simp; try with_reducible rfl)⟩) (by assumption) ?_
            try simp only [Act.put, List.setIfInBounds_toArray, List.set_cons_zero, List.set_cons_succ]
            refine wpAnyH_take (i := 8) (oi := { dst := some 68, op := Go.Op.indexAddr 49 (Go.Operand.tmp 66) (Go.Operand.tmp 67), type := 0, pos := "tile.go:51", after := #[{ on := 6, ground := Go.Ground.data }, { on := 7, ground := Go.Ground.data }], guard := none }) rfl (by kernel_rfl) (by kernel_rfl) (by kernel_rfl) (fun _ _ _ h => h) (Or.inl ⟨by rfl, fun w hw => by (go_simp; try with_reducible rfl)⟩) (by assumption) ?_
            try simp only [Act.put, List.setIfInBounds_toArray, List.set_cons_zero, List.set_cons_succ]
            refine wpAnyH_take (i := 9) (oi := { dst := some 69, op := Go.Op.fieldAddr 62 (Go.Operand.tmp 68) 2, type := 0, pos := "tile.go:51", after := #[{ on := 8, ground := Go.Ground.data }], guard := none }) rfl (by kernel_rfl) (by kernel_rfl) (by kernel_rfl) (fun _ _ _ h => h) (Or.inl ⟨by rfl, fun w hw => by (go_simp; try with_reducible rfl)⟩) (by assumption) ?_
            try simp only [Act.put, List.setIfInBounds_toArray, List.set_cons_zero, List.set_cons_succ]
            refine wpAnyH_take (i := 10) (oi := { dst := some 70, op := Go.Op.load 3 (Go.Operand.tmp 69), type := 3, pos := "tile.go:51", after := #[{ on := 9, ground := Go.Ground.data }], guard := none }) rfl (by kernel_rfl) (by kernel_rfl) (by kernel_rfl) (fun _ _ _ h => h) (Or.inl ⟨by rfl, fun w hw => by (have p1 := (Below.cell hw (p := ⟨b, off + m * 4 + 1, none⟩) hb0).trans D1.out; have p2 := (Below.cell hw (p := ⟨b, off + m * 4 + 2, none⟩) hb0).trans D2.out; go_simp; try with_reducible rfl)⟩) (by assumption) ?_
            try simp only [Act.put, List.setIfInBounds_toArray, List.set_cons_zero, List.set_cons_succ]
            refine wpAnyH_ready (rs := [11]) (by kernel_rfl) (by simp) ?_
            refine AllReadyH.cons (o := { dst := some 71, op := Go.Op.buildSlice 23 2 #[(0, Go.Operand.tmp 65), (1, Go.Operand.tmp 70)], type := 23, pos := "tile.go:51", after := #[{ on := 5, ground := Go.Ground.data }, { on := 10, ground := Go.Ground.data }], guard := none }) rfl (fun K hK => ?_) AllReadyH.nil
            go_simp
            have HBa : Hid (Below w3.heap.size w0 (w0.alloc (Obj.cells #[Value.int IntKind.i64 ma, Value.int IntKind.i64 mb] 3))) := Lib.hid ((Below.refl _ _).alloc hz3 _)
            have HOa := Lib.hid (HO0.out.alloc (Obj.cells #[Value.int IntKind.i64 ma, Value.int IntKind.i64 mb] 3))
            have HRa := Lib.hid (rdI_new2 w0 ma mb 3 w0.heap.size rfl)
            have hza : w0.heap.size < (w0.alloc (Obj.cells #[Value.int IntKind.i64 ma, Value.int IntKind.i64 mb] 3)).heap.size := by simp
            refine hK.out _ _ HBa.out (fun hH1 => ?_)
            clear hK hH0
            have hH0 := hH1
            clear hH1
            generalize w0.alloc (Obj.cells #[Value.int IntKind.i64 ma, Value.int IntKind.i64 mb] 3) = wa at *
            try simp only [Act.put, List.setIfInBounds_toArray, List.set_cons_zero, List.set_cons_succ]
            refine wpAnyH_ready (rs := [12]) (by kernel_rfl) (by simp) ?_
            refine AllReadyH.cons (o := { dst := some 72, op := Go.Op.call { callee := Go.Callee.builtin Go.Builtin.append, args := #[Go.Operand.tmp 60, Go.Operand.tmp 71], argTypes := #[23, 23] }, type := 23, pos := "tile.go:51", after := #[{ on := 0, ground := Go.Ground.data }, { on := 11, ground := Go.Ground.data }], guard := none }) rfl (fun K hK => ?_) AllReadyH.nil
            obtain ⟨v5, w5, hrun, hown, hgrow, -⟩ := run_appN (P := Try.prog) 23 23 intCells 1 8 3 (.int .i64 0) Try.underlying23 infoInt rfl (by decide) intCells_len intCells_one w3.heap.size _ r HOa.out (some ⟨w0.heap.size, 0, none⟩) [ma, mb] 2 HRa.out (by simp [maxLen]; omega) (by simp; omega) (by omega)
            refine wp_app_run 23 _ _ rfl rfl rfl hrun ?_
            have HB5 := Lib.hid (below_own HBa.out hgrow HOa.out (Nat.le_refl _) (by omega))
            have HW5 := Lib.hid (HW0.out.trans HB5.out)
            have HO5 := Lib.hid hown
            refine hK.out _ _ HB5.out (fun hH1 => ?_)
            clear hK hH0 hH1 hrun hown hgrow
            try simp only [Act.put, List.setIfInBounds_toArray, List.set_cons_zero, List.set_cons_succ]
            refine wpAnyH_take (i := 13) (oi := { dst := some 9, op := Go.Op.assign (Go.Operand.tmp 72), type := 23, pos := "tile.go:51", after := #[{ on := 12, ground := Go.Ground.data }, { on := 12, ground := Go.Ground.chain }, { on := 0, ground := Go.Ground.phase }, { on := 1, ground := Go.Ground.phase }, { on := 2, ground := Go.Ground.phase }, { on := 3, ground := Go.Ground.phase }, { on := 4, ground := Go.Ground.phase }, { on := 5, ground := Go.Ground.phase }, { on := 6, ground := Go.Ground.phase }, { on := 7, ground := Go.Ground.phase }, { on := 8, ground := Go.Ground.phase }, { on := 9, ground := Go.Ground.phase }, { on := 10, ground := Go.Ground.phase }, { on := 11, ground := Go.Ground.phase }, { on := 12, ground := Go.Ground.phase }], guard := none }) rfl (by kernel_rfl) (by kernel_rfl) (by kernel_rfl) (fun _ _ _ h => h) (Or.inl ⟨by rfl, fun w hw => by (go_simp; try with_reducible rfl)⟩) (by assumption) ?_
            try simp only [Act.put, List.setIfInBounds_toArray, List.set_cons_zero, List.set_cons_succ]
            refine wpAnyH_done (by kernel_rfl) ?_ _
            go_wp2
            go_roundw
            case rel => exact ⟨2, r ++ [ma, mb], by omega, by go_num, HS.out, by simp only [List.length_append, List.length_cons, List.length_nil]; have := Hl.out; omega, HO5.out, HW5.out⟩
            case measure => simp [intOf]
          · have HS := Lib.hid (show sidesK l ⟨xo, tl, tr, tc⟩ ⟨xo, xa, xb, xv⟩ 2 = some (r ++ []) by rw [hs1]; unfold sideK; rw [eg, if_neg o0, if_neg (by simp [o1]), if_neg o3]; rfl)
            have q5 : ¬ (2 : Int) < tr := by omega
            clear hs1 hO hW eg o0 o1 hjm hmj j0 j1
            generalize l[m] = z at *
            obtain ⟨zo, ma, mb, zv⟩ := z
            dsimp only at d0 d1 d2 d3 q1
            go_wp2
            go_roundw
            case rel => exact ⟨2, r ++ [], by omega, by go_num, HS.out, by simp only [List.length_append, List.length_nil]; have := Hl.out; omega, by rw [List.append_nil]; exact HO.out, HW.out⟩
            case measure => simp [intOf]
        · have q1 : (l[m].op != tr) = true := by rw [bne_iff_ne]; exact o1
          have HN := Lib.hid (show catO (sideK l tl xa) (sideK l tr xb) = none by
            have : sideK l tr xb = none := by unfold sideK; rw [eg, if_neg o0, if_pos o1]
            rw [this]; cases sideK l tl xa <;> rfl)
          have HW9 := Lib.hid (HB3.out.trans (hW.mono HB3.out.size))
          clear hs1 hO hW eg o0 o1 hjm hmj j0 j1
          generalize l[m] = z at *
          obtain ⟨zo, ma, mb, zv⟩ := z
          dsimp only at d0 d1 d2 d3 q1
          go_wp2
          go_ret2
          exact ⟨_, by rw [HN.out]; rfl, by rw [HN.out]; exact Own.nil_ _ _ _, HW9.out⟩
    · try rw [show ((2 : Nat) : Int) = 2 from rfl]
      have HO := Lib.hid (hO.base_ (b := w.heap.size) HB3.out.size)
      have HW := Lib.hid (HB3.out.trans (hW.mono HB3.out.size))
      have HS := Lib.hid ((sidesK_2 l ⟨xo, tl, tr, tc⟩ ⟨xo, xa, xb, xv⟩).symm.trans hS)
      clear hS hO hW
      go_wp2
      go_ret2
      exact ⟨_, by rw [HS.out]; rfl, by rw [HS.out]; exact HO.out, HW.out⟩
end Go.Proofs.Ytmgejacndhnikaa
