/- TileMore walked (written by tilemore.py). -/
import Derived.Test.YtmgejacndhnikaaTileD
import Derived.Deep.RegionHeld3
import Derived.Deep.CutRange
import Derived.Deep.DeepCutAuto
import Derived.BigGuardPart
namespace Go.Proofs.Ytmgejacndhnikaa
open Go.RowKit

set_option maxRecDepth 100000 in
set_option maxHeartbeats 8000000 in
theorem tileMore_calls (vars : Int) (A B : Option Addr) (l : List Term) (tiles : List Tile) (xo xl xr xc : Int) (capA capB : Nat) (w : World) (hA : RdT w A l) (hB : RdTl w B tiles) (hm : l.length ≤ maxLen) (hm2 : tiles.length * 32 ≤ 140737488351232) :
    Calls Try.prog 9 #[.int .i64 vars, .slice A l.length capA, .slice B tiles.length capB, .agg #[.int .i64 xo, .int .i64 xl, .int .i64 xr, .int .i64 xc]] w fun e w' => e = .returned (.bool true) ∧ Below w.heap.size w w' := by
  have hm' : tiles.length ≤ maxLen := by unfold maxLen; omega
  have HB0' := Lib.hid ((Below.refl w.heap.size w).alloc (Nat.le_refl _) (.cells #[.int .i64 xo, .int .i64 xl, .int .i64 xr, .int .i64 xc] 70))
  have HBx0 := Lib.hid (fun j => cell_new w #[Value.int .i64 xo, Value.int .i64 xl, Value.int .i64 xr, Value.int .i64 xc] 70 w.heap.size rfl j)
  have hwa : (w.alloc (Obj.cells #[Value.int IntKind.i64 xo, Value.int IntKind.i64 xl, Value.int IntKind.i64 xr, Value.int IntKind.i64 xc] 70)).heap.size = w.heap.size + 1 := by simp
  go_enter Try.func9, Try.ntmps9
  go_upto_region 1 with fail
  have HA := Lib.hid (Rd.below hA HB0'.out)
  have HB := Lib.hid (Rd.below hB HB0'.out)
  clear hA hB
  generalize w.alloc (Obj.cells #[Value.int IntKind.i64 xo, Value.int IntKind.i64 xl, Value.int IntKind.i64 xr, Value.int IntKind.i64 xc] 70) = wa at *
  generalize hp : w.heap.size = p at *
  have HBx : Hid (∀ w', Below wa.heap.size wa w' → (w'.cell? ⟨p, 0, none⟩ = some (.int .i64 xo) ∧ w'.cell? ⟨p, 1, none⟩ = some (.int .i64 xl) ∧ w'.cell? ⟨p, 2, none⟩ = some (.int .i64 xr) ∧ w'.cell? ⟨p, 3, none⟩ = some (.int .i64 xc))) := Lib.hid fun w' h =>
    ⟨(h.cell (p := ⟨p, 0, none⟩) (by show p < wa.heap.size; omega)).trans (HBx0.out 0), (h.cell (p := ⟨p, 1, none⟩) (by show p < wa.heap.size; omega)).trans (HBx0.out 1), (h.cell (p := ⟨p, 2, none⟩) (by show p < wa.heap.size; omega)).trans (HBx0.out 2), (h.cell (p := ⟨p, 3, none⟩) (by show p < wa.heap.size; omega)).trans (HBx0.out 3)⟩
  go_wp2_with fail
  obtain ⟨wb, hwb⟩ : ∃ wb, wb = (wa.alloc (.cells #[.int .i64 2, .int .i64 0, .int .i64 0, .int .i64 0] 62)).alloc (.cells #[.int .i64 2, .int .i64 0, .int .i64 0, .int .i64 5] 70) := ⟨_, rfl⟩
  rw [← hwb]
  have HWb : Hid (Below wa.heap.size wa wb) := Lib.hid (by rw [hwb]; exact ((Below.refl _ _).alloc (Nat.le_refl _) _).alloc (by simp) _)
  have HR1 : Hid (RdT wb (some ⟨wa.heap.size, 0, none⟩) [⟨2, 0, 0, 0⟩]) := Lib.hid (by
    rw [hwb]
    refine Rd.below (rd_new (f := Term.cells) wa [(⟨2, 0, 0, 0⟩ : Term)] _ _ _ rfl (fun k x hk j hj => by
      obtain ⟨hk0, hx⟩ := List.getElem?_eq_some_iff.1 hk
      have hk1 : k = 0 := by simp at hk0; exact hk0
      subst hk1
      simp at hx
      subst hx
      match j, hj with
      | 0, _ => rfl
      | 1, _ => rfl
      | 2, _ => rfl
      | 3, _ => rfl)) ((Below.refl _ _).alloc (Nat.le_refl _) _))
  have HR2 : Hid (RdTl wb (some ⟨wa.heap.size + 1, 0, none⟩) [⟨2, 0, 0, 5⟩]) := Lib.hid (by
    rw [hwb]
    exact rd_new (f := Tile.cells) _ [(⟨2, 0, 0, 5⟩ : Tile)] _ _ _ (by simp) (fun k x hk j hj => by
      obtain ⟨hk0, hx⟩ := List.getElem?_eq_some_iff.1 hk
      have hk1 : k = 0 := by simp at hk0; exact hk0
      subst hk1
      simp at hx
      subst hx
      match j, hj with
      | 0, _ => rfl
      | 1, _ => rfl
      | 2, _ => rfl
      | 3, _ => rfl))
  rw [hwa] at HR1 HR2
  have HC0 := Lib.hid (costT_calls 1 (some ⟨p + 1, 0, none⟩) (some ⟨p + 1 + 1, 0, none⟩) [⟨2, 0, 0, 0⟩] [⟨2, 0, 0, 5⟩] 1 1 wb HR1.out HR2.out (by simp [maxLen]) (by simp [maxLen]))
  rw [tile_one.1, tile_one.2] at HC0
  clear hwb HR1 HR2
  refine HC0.out.mono ?_
  rintro e w1 ⟨rfl, hW⟩
  have HW1 := Lib.hid (HWb.out.trans (hW.mono HWb.out.size))
  clear hW
  go_wp2_with fail
  refine (costT_calls vars A B l tiles capA capB w1 (Rd.below HA.out HW1.out) (Rd.below HB.out HW1.out) hm hm').mono ?_
  rintro e w3 ⟨rfl, hW⟩
  have HW3 := Lib.hid (HW1.out.trans (hW.mono HW1.out.size))
  clear hW HWb HC0
  have HA0 : Hid (RdT w3.drew A l) := Lib.hid (Rd.below HA.out HW3.out.drew)
  have HB0 : Hid (RdTl w3.drew B tiles) := Lib.hid (Rd.below HB.out HW3.out.drew)
  have Hkp : Hid (∀ w', Below w3.drew.heap.size w3.drew w' → (w'.cell? ⟨p, 0, none⟩ = some (.int .i64 xo) ∧ w'.cell? ⟨p, 1, none⟩ = some (.int .i64 xl) ∧ w'.cell? ⟨p, 2, none⟩ = some (.int .i64 xr) ∧ w'.cell? ⟨p, 3, none⟩ = some (.int .i64 xc))) :=
    Lib.hid fun w' h => HBx.out _ (HW3.out.trans (show Below wa.heap.size w3 w' from ⟨h.os, h.tape, h.output, h.size, fun k hk => h.block k (Nat.lt_of_lt_of_le hk HW3.out.size)⟩))
  have HP0 : Hid (PS w3.drew w3.drew (.slice none 0 0) []) := Lib.hid ⟨Below.refl _ _, Own.nil_ _ _ _⟩
  go_upto_region 5 with fail
  go_cut [13, 14] from 36 (fun v13 v14 wx => v13 = .int .i64 (valT vars l (tiles ++ [⟨xo, xl, xr, xc⟩])) ∧ v14 = .int .i64 (errT vars l (tiles ++ [⟨xo, xl, xr, xc⟩])) ∧ Hid (Below w3.drew.heap.size w3.drew wx))
  case first =>
    try go_upto_region 5 with fail
    refine wp_region_held_drew (S := fun w' => (w'.cell? ⟨p, 0, none⟩ = some (.int .i64 xo) ∧ w'.cell? ⟨p, 1, none⟩ = some (.int .i64 xl) ∧ w'.cell? ⟨p, 2, none⟩ = some (.int .i64 xr) ∧ w'.cell? ⟨p, 3, none⟩ = some (.int .i64 xc))) (by kernel_rfl) (Hkp.out _ (Below.refl _ _)) (fun hH0 => ?_)
    generalize w3.drew = w0 at *
    -- the region
    refine wpAnyH_take (i := 0) (oi := { dst := some 37, op := Go.Op.move (Go.Operand.tmp 0), type := 3, pos := "high.go:733", after := #[], guard := none }) rfl (by kernel_rfl) (by kernel_rfl) (by kernel_rfl) (fun _ _ _ h => h) (Or.inl ⟨by rfl, fun w hw => by (go_simp; try with_reducible rfl)⟩) (by assumption) ?_
    try simp only [Act.put, List.setIfInBounds_toArray, List.set_cons_zero, List.set_cons_succ]
    refine wpAnyH_take (i := 1) (oi := { dst := some 38, op := Go.Op.move (Go.Operand.tmp 1), type := 49, pos := "high.go:733", after := #[], guard := none }) rfl (by kernel_rfl) (by kernel_rfl) (by kernel_rfl) (fun _ _ _ h => h) (Or.inl ⟨by rfl, fun w hw => by (go_simp; try with_reducible rfl)⟩) (by assumption) ?_
    try simp only [Act.put, List.setIfInBounds_toArray, List.set_cons_zero, List.set_cons_succ]
    refine wpAnyH_take (i := 3) (oi := { dst := some 40, op := Go.Op.move (Go.Operand.tmp 2), type := 68, pos := "high.go:733", after := #[], guard := none }) rfl (by kernel_rfl) (by kernel_rfl) (by kernel_rfl) (fun _ _ _ h => h) (Or.inl ⟨by rfl, fun w hw => by (go_simp; try with_reducible rfl)⟩) (by assumption) ?_
    try simp only [Act.put, List.setIfInBounds_toArray, List.set_cons_zero, List.set_cons_succ]
    refine wpAnyH_take (i := 5) (oi := { dst := some 42, op := Go.Op.load 70 (Go.Operand.tmp 7), type := 70, pos := "high.go:733", after := #[], guard := none }) rfl (by kernel_rfl) (by kernel_rfl) (by kernel_rfl) (fun _ _ _ h => h) (Or.inl ⟨by rfl, fun w hw => by (obtain ⟨p0, p1, p2, p3⟩ := hw; go_simp; try with_reducible rfl)⟩) (by assumption) ?_
    try simp only [Act.put, List.setIfInBounds_toArray, List.set_cons_zero, List.set_cons_succ]
    refine wpAnyH_ready (rs := [2, 6]) (by kernel_rfl) (by simp) ?_
    refine AllReadyH.cons (o := { dst := some 39, op := Go.Op.buildSlice 68 0 #[], type := 68, pos := "high.go:733", after := #[], guard := none }) rfl (fun K hK => ?_) ?_
    · go_simp
      have HP1 := Lib.hid HP0.out.empty
      refine hK.out _ _ (Hkp.out _ HP1.out.bel) (fun hH1 => ?_)
      clear hK
      generalize w0.alloc (Obj.cells #[] 70) = w1 at *
      try simp only [Act.put, List.setIfInBounds_toArray, List.set_cons_zero, List.set_cons_succ]
      refine wpAnyH_ready (rs := [4, 6]) (by kernel_rfl) (by simp) ?_
      refine AllReadyH.cons (o := { dst := some 41, op := Go.Op.call { callee := Go.Callee.builtin Go.Builtin.append, args := #[Go.Operand.tmp 39, Go.Operand.tmp 40], argTypes := #[68, 68] }, type := 68, pos := "high.go:733", after := #[{ on := 2, ground := Go.Ground.data }, { on := 3, ground := Go.Ground.data }], guard := none }) rfl (fun K hK => ?_) ?_
      · obtain ⟨v2, w2, hrun, hown, hgrow, hat⟩ := run_appTl (w := w1) 68 w0.heap.size _ _ HP1.out.own B tiles capB (Rd.below HB0.out HP1.out.bel) (by simp; omega) HP1.out.bel.size
        rw [if_pos (by rfl)]
        refine wp_app_run 68 _ _ rfl rfl rfl hrun ?_
        rw [List.nil_append] at hown
        have HP2 := Lib.hid (HP1.out.app hown hgrow)
        refine hK.out _ _ (Hkp.out _ HP2.out.bel) (fun hH2 => ?_)
        clear hK hrun hown hgrow hat
        try simp only [Act.put, List.setIfInBounds_toArray, List.set_cons_zero, List.set_cons_succ]
        refine wpAnyH_ready (rs := [6]) (by kernel_rfl) (by simp) ?_
        refine AllReadyH.cons (o := { dst := some 43, op := Go.Op.buildSlice 68 1 #[(0, Go.Operand.tmp 42)], type := 68, pos := "high.go:733", after := #[{ on := 5, ground := Go.Ground.data }], guard := none }) rfl (fun K hK => ?_) AllReadyH.nil
        go_simp
        have HL3 := Lib.hid (HP2.out.lit ⟨xo, xl, xr, xc⟩)
        have HP3 := Lib.hid (HP2.out.alloc (Obj.cells #[Value.int IntKind.i64 xo, Value.int IntKind.i64 xl, Value.int IntKind.i64 xr, Value.int IntKind.i64 xc] 70))
        refine hK.out _ _ (Hkp.out _ HP3.out.bel) (fun hH3 => ?_)
        clear hK
        generalize w2.alloc (Obj.cells #[Value.int IntKind.i64 xo, Value.int IntKind.i64 xl, Value.int IntKind.i64 xr, Value.int IntKind.i64 xc] 70) = w3 at *
        try simp only [Act.put, List.setIfInBounds_toArray, List.set_cons_zero, List.set_cons_succ]
        refine wpAnyH_ready (rs := [7]) (by kernel_rfl) (by simp) ?_
        refine AllReadyH.cons (o := { dst := some 44, op := Go.Op.call { callee := Go.Callee.builtin Go.Builtin.append, args := #[Go.Operand.tmp 41, Go.Operand.tmp 43], argTypes := #[68, 68] }, type := 68, pos := "high.go:733", after := #[{ on := 4, ground := Go.Ground.data }, { on := 6, ground := Go.Ground.data }, { on := 4, ground := Go.Ground.chain }], guard := none }) rfl (fun K hK => ?_) AllReadyH.nil
        obtain ⟨v4, w4, hrun, hown, hgrow, hat⟩ := run_appTl (w := w3) 68 w0.heap.size _ _ HP3.out.own (some ⟨w2.heap.size, 0, none⟩) [⟨xo, xl, xr, xc⟩] 1 HL3.out.rd (by simp; omega) HP3.out.bel.size
        rw [if_pos (by rfl)]
        refine wp_app_run 68 _ _ rfl rfl rfl hrun ?_
        skip
        have HP4 := Lib.hid (HP3.out.app hown hgrow)
        refine hK.out _ _ (Hkp.out _ HP4.out.bel) (fun hH4 => ?_)
        clear hK hrun hown hgrow hat
        try simp only [Act.put, List.setIfInBounds_toArray, List.set_cons_zero, List.set_cons_succ]
        refine wpAnyH_ready (rs := [8]) (by kernel_rfl) (by simp) ?_
        refine AllReadyH.cons (o := { dst := some 45, op := Go.Op.call { callee := Go.Callee.value (Go.Operand.func 33), args := #[Go.Operand.tmp 37, Go.Operand.tmp 38, Go.Operand.tmp 44], argTypes := #[3, 49, 68] }, type := 71, pos := "high.go:733", after := #[{ on := 0, ground := Go.Ground.data }, { on := 1, ground := Go.Ground.data }, { on := 7, ground := Go.Ground.data }, { on := 7, ground := Go.Ground.chain }], guard := none }) rfl (fun K hK => ?_) AllReadyH.nil
        obtain ⟨g3, k3, rfl, hr3, _⟩ := Own.form tlCells_len HP4.out.own
        have HC3 := Lib.hid (costT_calls vars A g3 l (tiles ++ [⟨xo, xl, xr, xc⟩]) capA k3 w4 (Rd.below HA0.out HP4.out.bel) hr3 hm (by rw [List.length_append, List.length_singleton]; unfold maxLen; omega))
        clear hr3
        simp only [List.length_append, List.length_singleton] at HC3 ⊢
        go_simp
        go_at_call 33
        refine HC3.out.mono ?_
        rintro e w5 ⟨rfl, hB⟩
        have HE := Lib.hid (HP4.out.bel.trans (hB.mono HP4.out.bel.size))
        refine hK.out _ _ (Hkp.out _ HE.out) (fun hH5 => ?_)
        clear hK hB
        try simp only [Act.put, List.setIfInBounds_toArray, List.set_cons_zero, List.set_cons_succ]
        refine wpAnyH_take (i := 9) (oi := { dst := some 36, op := Go.Op.move (Go.Operand.tmp 45), type := 71, pos := "high.go:733", after := #[{ on := 8, ground := Go.Ground.data }], guard := none }) rfl (by kernel_rfl) (by kernel_rfl) (by kernel_rfl) (fun _ _ _ h => h) (Or.inl ⟨by rfl, fun w hw => by (go_simp; try with_reducible rfl)⟩) (by assumption) ?_
        try simp only [Act.put, List.setIfInBounds_toArray, List.set_cons_zero, List.set_cons_succ]
        refine wpAnyH_take (i := 10) (oi := { dst := some 46, op := Go.Op.extract (Go.Operand.tmp 36) 0, type := 3, pos := "high.go:733", after := #[{ on := 9, ground := Go.Ground.data }], guard := none }) rfl (by kernel_rfl) (by kernel_rfl) (by kernel_rfl) (fun _ _ _ h => h) (Or.inl ⟨by rfl, fun w hw => by (go_simp; try with_reducible rfl)⟩) (by assumption) ?_
        try simp only [Act.put, List.setIfInBounds_toArray, List.set_cons_zero, List.set_cons_succ]
        refine wpAnyH_take (i := 11) (oi := { dst := some 47, op := Go.Op.extract (Go.Operand.tmp 36) 1, type := 26, pos := "high.go:733", after := #[{ on := 9, ground := Go.Ground.data }, { on := 12, ground := Go.Ground.gcOnly Go.Departure.lateStores }], guard := none }) rfl (by kernel_rfl) (by kernel_rfl) (by kernel_rfl) (fun _ _ _ h => h) (Or.inl ⟨by rfl, fun w hw => by (go_simp; try with_reducible rfl)⟩) (by assumption) ?_
        try simp only [Act.put, List.setIfInBounds_toArray, List.set_cons_zero, List.set_cons_succ]
        refine wpAnyH_take (i := 12) (oi := { dst := some 13, op := Go.Op.assign (Go.Operand.tmp 46), type := 3, pos := "high.go:733", after := #[{ on := 10, ground := Go.Ground.data }, { on := 8, ground := Go.Ground.chain }, { on := 0, ground := Go.Ground.phase }, { on := 1, ground := Go.Ground.phase }, { on := 2, ground := Go.Ground.phase }, { on := 3, ground := Go.Ground.phase }, { on := 4, ground := Go.Ground.phase }, { on := 5, ground := Go.Ground.phase }, { on := 6, ground := Go.Ground.phase }, { on := 7, ground := Go.Ground.phase }, { on := 8, ground := Go.Ground.phase }, { on := 9, ground := Go.Ground.phase }, { on := 10, ground := Go.Ground.phase }, { on := 11, ground := Go.Ground.textOnly Go.Departure.lateStores }], guard := none }) rfl (by kernel_rfl) (by kernel_rfl) (by kernel_rfl) (fun _ _ _ h => h) (Or.inl ⟨by rfl, fun w hw => by (go_simp; try with_reducible rfl)⟩) (by assumption) ?_
        try simp only [Act.put, List.setIfInBounds_toArray, List.set_cons_zero, List.set_cons_succ]
        refine wpAnyH_take (i := 13) (oi := { dst := some 14, op := Go.Op.assign (Go.Operand.tmp 47), type := 26, pos := "high.go:733", after := #[{ on := 11, ground := Go.Ground.data }, { on := 12, ground := Go.Ground.chain }, { on := 0, ground := Go.Ground.phase }, { on := 1, ground := Go.Ground.phase }, { on := 2, ground := Go.Ground.phase }, { on := 3, ground := Go.Ground.phase }, { on := 4, ground := Go.Ground.phase }, { on := 5, ground := Go.Ground.phase }, { on := 6, ground := Go.Ground.phase }, { on := 7, ground := Go.Ground.phase }, { on := 8, ground := Go.Ground.phase }, { on := 9, ground := Go.Ground.phase }, { on := 10, ground := Go.Ground.phase }, { on := 11, ground := Go.Ground.phase }, { on := 12, ground := Go.Ground.phase }], guard := none }) rfl (by kernel_rfl) (by kernel_rfl) (by kernel_rfl) (fun _ _ _ h => h) (Or.inl ⟨by rfl, fun w hw => by (go_simp; try with_reducible rfl)⟩) (by assumption) ?_
        try simp only [Act.put, List.setIfInBounds_toArray, List.set_cons_zero, List.set_cons_succ]
        refine wpAnyH_done (by kernel_rfl) ?_ _
        go_wp2
        go_meet
        case rel => exact ⟨rfl, rfl, HE⟩
      refine AllReadyH.cons (o := { dst := some 43, op := Go.Op.buildSlice 68 1 #[(0, Go.Operand.tmp 42)], type := 68, pos := "high.go:733", after := #[{ on := 5, ground := Go.Ground.data }], guard := none }) rfl (fun K hK => ?_) AllReadyH.nil
      go_simp
      have HL2 := Lib.hid (HP1.out.lit ⟨xo, xl, xr, xc⟩)
      have HP2 := Lib.hid (HP1.out.alloc (Obj.cells #[Value.int IntKind.i64 xo, Value.int IntKind.i64 xl, Value.int IntKind.i64 xr, Value.int IntKind.i64 xc] 70))
      refine hK.out _ _ (Hkp.out _ HP2.out.bel) (fun hH2 => ?_)
      clear hK
      generalize w1.alloc (Obj.cells #[Value.int IntKind.i64 xo, Value.int IntKind.i64 xl, Value.int IntKind.i64 xr, Value.int IntKind.i64 xc] 70) = w2 at *
      try simp only [Act.put, List.setIfInBounds_toArray, List.set_cons_zero, List.set_cons_succ]
      refine wpAnyH_ready (rs := [4]) (by kernel_rfl) (by simp) ?_
      refine AllReadyH.cons (o := { dst := some 41, op := Go.Op.call { callee := Go.Callee.builtin Go.Builtin.append, args := #[Go.Operand.tmp 39, Go.Operand.tmp 40], argTypes := #[68, 68] }, type := 68, pos := "high.go:733", after := #[{ on := 2, ground := Go.Ground.data }, { on := 3, ground := Go.Ground.data }], guard := none }) rfl (fun K hK => ?_) AllReadyH.nil
      obtain ⟨v3, w3, hrun, hown, hgrow, hat⟩ := run_appTl (w := w2) 68 w0.heap.size _ _ HP2.out.own B tiles capB (Rd.below HB0.out HP2.out.bel) (by simp; omega) HP2.out.bel.size
      rw [if_pos (by rfl)]
      refine wp_app_run 68 _ _ rfl rfl rfl hrun ?_
      rw [List.nil_append] at hown
      have HP3 := Lib.hid (HP2.out.app hown hgrow)
      have HL3 := Lib.hid (HL2.out.app hgrow hat)
      refine hK.out _ _ (Hkp.out _ HP3.out.bel) (fun hH3 => ?_)
      clear hK hrun hown hgrow hat
      try simp only [Act.put, List.setIfInBounds_toArray, List.set_cons_zero, List.set_cons_succ]
      refine wpAnyH_ready (rs := [7]) (by kernel_rfl) (by simp) ?_
      refine AllReadyH.cons (o := { dst := some 44, op := Go.Op.call { callee := Go.Callee.builtin Go.Builtin.append, args := #[Go.Operand.tmp 41, Go.Operand.tmp 43], argTypes := #[68, 68] }, type := 68, pos := "high.go:733", after := #[{ on := 4, ground := Go.Ground.data }, { on := 6, ground := Go.Ground.data }, { on := 4, ground := Go.Ground.chain }], guard := none }) rfl (fun K hK => ?_) AllReadyH.nil
      obtain ⟨v4, w4, hrun, hown, hgrow, hat⟩ := run_appTl (w := w3) 68 w0.heap.size _ _ HP3.out.own (some ⟨w1.heap.size, 0, none⟩) [⟨xo, xl, xr, xc⟩] 1 HL3.out.rd (by simp; omega) HP3.out.bel.size
      rw [if_pos (by rfl)]
      refine wp_app_run 68 _ _ rfl rfl rfl hrun ?_
      skip
      have HP4 := Lib.hid (HP3.out.app hown hgrow)
      refine hK.out _ _ (Hkp.out _ HP4.out.bel) (fun hH4 => ?_)
      clear hK hrun hown hgrow hat
      try simp only [Act.put, List.setIfInBounds_toArray, List.set_cons_zero, List.set_cons_succ]
      refine wpAnyH_ready (rs := [8]) (by kernel_rfl) (by simp) ?_
      refine AllReadyH.cons (o := { dst := some 45, op := Go.Op.call { callee := Go.Callee.value (Go.Operand.func 33), args := #[Go.Operand.tmp 37, Go.Operand.tmp 38, Go.Operand.tmp 44], argTypes := #[3, 49, 68] }, type := 71, pos := "high.go:733", after := #[{ on := 0, ground := Go.Ground.data }, { on := 1, ground := Go.Ground.data }, { on := 7, ground := Go.Ground.data }, { on := 7, ground := Go.Ground.chain }], guard := none }) rfl (fun K hK => ?_) AllReadyH.nil
      obtain ⟨g3, k3, rfl, hr3, _⟩ := Own.form tlCells_len HP4.out.own
      have HC3 := Lib.hid (costT_calls vars A g3 l (tiles ++ [⟨xo, xl, xr, xc⟩]) capA k3 w4 (Rd.below HA0.out HP4.out.bel) hr3 hm (by rw [List.length_append, List.length_singleton]; unfold maxLen; omega))
      clear hr3
      simp only [List.length_append, List.length_singleton] at HC3 ⊢
      go_simp
      go_at_call 33
      refine HC3.out.mono ?_
      rintro e w5 ⟨rfl, hB⟩
      have HE := Lib.hid (HP4.out.bel.trans (hB.mono HP4.out.bel.size))
      refine hK.out _ _ (Hkp.out _ HE.out) (fun hH5 => ?_)
      clear hK hB
      try simp only [Act.put, List.setIfInBounds_toArray, List.set_cons_zero, List.set_cons_succ]
      refine wpAnyH_take (i := 9) (oi := { dst := some 36, op := Go.Op.move (Go.Operand.tmp 45), type := 71, pos := "high.go:733", after := #[{ on := 8, ground := Go.Ground.data }], guard := none }) rfl (by kernel_rfl) (by kernel_rfl) (by kernel_rfl) (fun _ _ _ h => h) (Or.inl ⟨by rfl, fun w hw => by (go_simp; try with_reducible rfl)⟩) (by assumption) ?_
      try simp only [Act.put, List.setIfInBounds_toArray, List.set_cons_zero, List.set_cons_succ]
      refine wpAnyH_take (i := 10) (oi := { dst := some 46, op := Go.Op.extract (Go.Operand.tmp 36) 0, type := 3, pos := "high.go:733", after := #[{ on := 9, ground := Go.Ground.data }], guard := none }) rfl (by kernel_rfl) (by kernel_rfl) (by kernel_rfl) (fun _ _ _ h => h) (Or.inl ⟨by rfl, fun w hw => by (go_simp; try with_reducible rfl)⟩) (by assumption) ?_
      try simp only [Act.put, List.setIfInBounds_toArray, List.set_cons_zero, List.set_cons_succ]
      refine wpAnyH_take (i := 11) (oi := { dst := some 47, op := Go.Op.extract (Go.Operand.tmp 36) 1, type := 26, pos := "high.go:733", after := #[{ on := 9, ground := Go.Ground.data }, { on := 12, ground := Go.Ground.gcOnly Go.Departure.lateStores }], guard := none }) rfl (by kernel_rfl) (by kernel_rfl) (by kernel_rfl) (fun _ _ _ h => h) (Or.inl ⟨by rfl, fun w hw => by (go_simp; try with_reducible rfl)⟩) (by assumption) ?_
      try simp only [Act.put, List.setIfInBounds_toArray, List.set_cons_zero, List.set_cons_succ]
      refine wpAnyH_take (i := 12) (oi := { dst := some 13, op := Go.Op.assign (Go.Operand.tmp 46), type := 3, pos := "high.go:733", after := #[{ on := 10, ground := Go.Ground.data }, { on := 8, ground := Go.Ground.chain }, { on := 0, ground := Go.Ground.phase }, { on := 1, ground := Go.Ground.phase }, { on := 2, ground := Go.Ground.phase }, { on := 3, ground := Go.Ground.phase }, { on := 4, ground := Go.Ground.phase }, { on := 5, ground := Go.Ground.phase }, { on := 6, ground := Go.Ground.phase }, { on := 7, ground := Go.Ground.phase }, { on := 8, ground := Go.Ground.phase }, { on := 9, ground := Go.Ground.phase }, { on := 10, ground := Go.Ground.phase }, { on := 11, ground := Go.Ground.textOnly Go.Departure.lateStores }], guard := none }) rfl (by kernel_rfl) (by kernel_rfl) (by kernel_rfl) (fun _ _ _ h => h) (Or.inl ⟨by rfl, fun w hw => by (go_simp; try with_reducible rfl)⟩) (by assumption) ?_
      try simp only [Act.put, List.setIfInBounds_toArray, List.set_cons_zero, List.set_cons_succ]
      refine wpAnyH_take (i := 13) (oi := { dst := some 14, op := Go.Op.assign (Go.Operand.tmp 47), type := 26, pos := "high.go:733", after := #[{ on := 11, ground := Go.Ground.data }, { on := 12, ground := Go.Ground.chain }, { on := 0, ground := Go.Ground.phase }, { on := 1, ground := Go.Ground.phase }, { on := 2, ground := Go.Ground.phase }, { on := 3, ground := Go.Ground.phase }, { on := 4, ground := Go.Ground.phase }, { on := 5, ground := Go.Ground.phase }, { on := 6, ground := Go.Ground.phase }, { on := 7, ground := Go.Ground.phase }, { on := 8, ground := Go.Ground.phase }, { on := 9, ground := Go.Ground.phase }, { on := 10, ground := Go.Ground.phase }, { on := 11, ground := Go.Ground.phase }, { on := 12, ground := Go.Ground.phase }], guard := none }) rfl (by kernel_rfl) (by kernel_rfl) (by kernel_rfl) (fun _ _ _ h => h) (Or.inl ⟨by rfl, fun w hw => by (go_simp; try with_reducible rfl)⟩) (by assumption) ?_
      try simp only [Act.put, List.setIfInBounds_toArray, List.set_cons_zero, List.set_cons_succ]
      refine wpAnyH_done (by kernel_rfl) ?_ _
      go_wp2
      go_meet
      case rel => exact ⟨rfl, rfl, HE⟩
    refine AllReadyH.cons (o := { dst := some 43, op := Go.Op.buildSlice 68 1 #[(0, Go.Operand.tmp 42)], type := 68, pos := "high.go:733", after := #[{ on := 5, ground := Go.Ground.data }], guard := none }) rfl (fun K hK => ?_) AllReadyH.nil
    go_simp
    have HL1 := Lib.hid (HP0.out.lit ⟨xo, xl, xr, xc⟩)
    have HP1 := Lib.hid (HP0.out.alloc (Obj.cells #[Value.int IntKind.i64 xo, Value.int IntKind.i64 xl, Value.int IntKind.i64 xr, Value.int IntKind.i64 xc] 70))
    refine hK.out _ _ (Hkp.out _ HP1.out.bel) (fun hH1 => ?_)
    clear hK
    generalize w0.alloc (Obj.cells #[Value.int IntKind.i64 xo, Value.int IntKind.i64 xl, Value.int IntKind.i64 xr, Value.int IntKind.i64 xc] 70) = w1 at *
    try simp only [Act.put, List.setIfInBounds_toArray, List.set_cons_zero, List.set_cons_succ]
    refine wpAnyH_ready (rs := [2]) (by kernel_rfl) (by simp) ?_
    refine AllReadyH.cons (o := { dst := some 39, op := Go.Op.buildSlice 68 0 #[], type := 68, pos := "high.go:733", after := #[], guard := none }) rfl (fun K hK => ?_) AllReadyH.nil
    go_simp
    have HP2 := Lib.hid HP1.out.empty
    have HL2 := Lib.hid HL1.out.empty
    refine hK.out _ _ (Hkp.out _ HP2.out.bel) (fun hH2 => ?_)
    clear hK
    generalize w1.alloc (Obj.cells #[] 70) = w2 at *
    try simp only [Act.put, List.setIfInBounds_toArray, List.set_cons_zero, List.set_cons_succ]
    refine wpAnyH_ready (rs := [4]) (by kernel_rfl) (by simp) ?_
    refine AllReadyH.cons (o := { dst := some 41, op := Go.Op.call { callee := Go.Callee.builtin Go.Builtin.append, args := #[Go.Operand.tmp 39, Go.Operand.tmp 40], argTypes := #[68, 68] }, type := 68, pos := "high.go:733", after := #[{ on := 2, ground := Go.Ground.data }, { on := 3, ground := Go.Ground.data }], guard := none }) rfl (fun K hK => ?_) AllReadyH.nil
    obtain ⟨v3, w3, hrun, hown, hgrow, hat⟩ := run_appTl (w := w2) 68 w0.heap.size _ _ HP2.out.own B tiles capB (Rd.below HB0.out HP2.out.bel) (by simp; omega) HP2.out.bel.size
    rw [if_pos (by rfl)]
    refine wp_app_run 68 _ _ rfl rfl rfl hrun ?_
    rw [List.nil_append] at hown
    have HP3 := Lib.hid (HP2.out.app hown hgrow)
    have HL3 := Lib.hid (HL2.out.app hgrow hat)
    refine hK.out _ _ (Hkp.out _ HP3.out.bel) (fun hH3 => ?_)
    clear hK hrun hown hgrow hat
    try simp only [Act.put, List.setIfInBounds_toArray, List.set_cons_zero, List.set_cons_succ]
    refine wpAnyH_ready (rs := [7]) (by kernel_rfl) (by simp) ?_
    refine AllReadyH.cons (o := { dst := some 44, op := Go.Op.call { callee := Go.Callee.builtin Go.Builtin.append, args := #[Go.Operand.tmp 41, Go.Operand.tmp 43], argTypes := #[68, 68] }, type := 68, pos := "high.go:733", after := #[{ on := 4, ground := Go.Ground.data }, { on := 6, ground := Go.Ground.data }, { on := 4, ground := Go.Ground.chain }], guard := none }) rfl (fun K hK => ?_) AllReadyH.nil
    obtain ⟨v4, w4, hrun, hown, hgrow, hat⟩ := run_appTl (w := w3) 68 w0.heap.size _ _ HP3.out.own (some ⟨w0.heap.size, 0, none⟩) [⟨xo, xl, xr, xc⟩] 1 HL3.out.rd (by simp; omega) HP3.out.bel.size
    rw [if_pos (by rfl)]
    refine wp_app_run 68 _ _ rfl rfl rfl hrun ?_
    skip
    have HP4 := Lib.hid (HP3.out.app hown hgrow)
    refine hK.out _ _ (Hkp.out _ HP4.out.bel) (fun hH4 => ?_)
    clear hK hrun hown hgrow hat
    try simp only [Act.put, List.setIfInBounds_toArray, List.set_cons_zero, List.set_cons_succ]
    refine wpAnyH_ready (rs := [8]) (by kernel_rfl) (by simp) ?_
    refine AllReadyH.cons (o := { dst := some 45, op := Go.Op.call { callee := Go.Callee.value (Go.Operand.func 33), args := #[Go.Operand.tmp 37, Go.Operand.tmp 38, Go.Operand.tmp 44], argTypes := #[3, 49, 68] }, type := 71, pos := "high.go:733", after := #[{ on := 0, ground := Go.Ground.data }, { on := 1, ground := Go.Ground.data }, { on := 7, ground := Go.Ground.data }, { on := 7, ground := Go.Ground.chain }], guard := none }) rfl (fun K hK => ?_) AllReadyH.nil
    obtain ⟨g3, k3, rfl, hr3, _⟩ := Own.form tlCells_len HP4.out.own
    have HC3 := Lib.hid (costT_calls vars A g3 l (tiles ++ [⟨xo, xl, xr, xc⟩]) capA k3 w4 (Rd.below HA0.out HP4.out.bel) hr3 hm (by rw [List.length_append, List.length_singleton]; unfold maxLen; omega))
    clear hr3
    simp only [List.length_append, List.length_singleton] at HC3 ⊢
    go_simp
    go_at_call 33
    refine HC3.out.mono ?_
    rintro e w5 ⟨rfl, hB⟩
    have HE := Lib.hid (HP4.out.bel.trans (hB.mono HP4.out.bel.size))
    refine hK.out _ _ (Hkp.out _ HE.out) (fun hH5 => ?_)
    clear hK hB
    try simp only [Act.put, List.setIfInBounds_toArray, List.set_cons_zero, List.set_cons_succ]
    refine wpAnyH_take (i := 9) (oi := { dst := some 36, op := Go.Op.move (Go.Operand.tmp 45), type := 71, pos := "high.go:733", after := #[{ on := 8, ground := Go.Ground.data }], guard := none }) rfl (by kernel_rfl) (by kernel_rfl) (by kernel_rfl) (fun _ _ _ h => h) (Or.inl ⟨by rfl, fun w hw => by (go_simp; try with_reducible rfl)⟩) (by assumption) ?_
    try simp only [Act.put, List.setIfInBounds_toArray, List.set_cons_zero, List.set_cons_succ]
    refine wpAnyH_take (i := 10) (oi := { dst := some 46, op := Go.Op.extract (Go.Operand.tmp 36) 0, type := 3, pos := "high.go:733", after := #[{ on := 9, ground := Go.Ground.data }], guard := none }) rfl (by kernel_rfl) (by kernel_rfl) (by kernel_rfl) (fun _ _ _ h => h) (Or.inl ⟨by rfl, fun w hw => by (go_simp; try with_reducible rfl)⟩) (by assumption) ?_
    try simp only [Act.put, List.setIfInBounds_toArray, List.set_cons_zero, List.set_cons_succ]
    refine wpAnyH_take (i := 11) (oi := { dst := some 47, op := Go.Op.extract (Go.Operand.tmp 36) 1, type := 26, pos := "high.go:733", after := #[{ on := 9, ground := Go.Ground.data }, { on := 12, ground := Go.Ground.gcOnly Go.Departure.lateStores }], guard := none }) rfl (by kernel_rfl) (by kernel_rfl) (by kernel_rfl) (fun _ _ _ h => h) (Or.inl ⟨by rfl, fun w hw => by (go_simp; try with_reducible rfl)⟩) (by assumption) ?_
    try simp only [Act.put, List.setIfInBounds_toArray, List.set_cons_zero, List.set_cons_succ]
    refine wpAnyH_take (i := 12) (oi := { dst := some 13, op := Go.Op.assign (Go.Operand.tmp 46), type := 3, pos := "high.go:733", after := #[{ on := 10, ground := Go.Ground.data }, { on := 8, ground := Go.Ground.chain }, { on := 0, ground := Go.Ground.phase }, { on := 1, ground := Go.Ground.phase }, { on := 2, ground := Go.Ground.phase }, { on := 3, ground := Go.Ground.phase }, { on := 4, ground := Go.Ground.phase }, { on := 5, ground := Go.Ground.phase }, { on := 6, ground := Go.Ground.phase }, { on := 7, ground := Go.Ground.phase }, { on := 8, ground := Go.Ground.phase }, { on := 9, ground := Go.Ground.phase }, { on := 10, ground := Go.Ground.phase }, { on := 11, ground := Go.Ground.textOnly Go.Departure.lateStores }], guard := none }) rfl (by kernel_rfl) (by kernel_rfl) (by kernel_rfl) (fun _ _ _ h => h) (Or.inl ⟨by rfl, fun w hw => by (go_simp; try with_reducible rfl)⟩) (by assumption) ?_
    try simp only [Act.put, List.setIfInBounds_toArray, List.set_cons_zero, List.set_cons_succ]
    refine wpAnyH_take (i := 13) (oi := { dst := some 14, op := Go.Op.assign (Go.Operand.tmp 47), type := 26, pos := "high.go:733", after := #[{ on := 11, ground := Go.Ground.data }, { on := 12, ground := Go.Ground.chain }, { on := 0, ground := Go.Ground.phase }, { on := 1, ground := Go.Ground.phase }, { on := 2, ground := Go.Ground.phase }, { on := 3, ground := Go.Ground.phase }, { on := 4, ground := Go.Ground.phase }, { on := 5, ground := Go.Ground.phase }, { on := 6, ground := Go.Ground.phase }, { on := 7, ground := Go.Ground.phase }, { on := 8, ground := Go.Ground.phase }, { on := 9, ground := Go.Ground.phase }, { on := 10, ground := Go.Ground.phase }, { on := 11, ground := Go.Ground.phase }, { on := 12, ground := Go.Ground.phase }], guard := none }) rfl (by kernel_rfl) (by kernel_rfl) (by kernel_rfl) (fun _ _ _ h => h) (Or.inl ⟨by rfl, fun w hw => by (go_simp; try with_reducible rfl)⟩) (by assumption) ?_
    try simp only [Act.put, List.setIfInBounds_toArray, List.set_cons_zero, List.set_cons_succ]
    refine wpAnyH_done (by kernel_rfl) ?_ _
    go_wp2
    go_meet
    case rel => exact ⟨rfl, rfl, HE⟩
  case rest =>
    subst hp
    obtain ⟨rfl, rfl, HE⟩ := hcut
    have HBc := Lib.hid (HW3.out.trans (show Below wa.heap.size w3 wc from ⟨HE.out.os, HE.out.tape, HE.out.output, HE.out.size, fun k hk => HE.out.block k (Nat.lt_of_lt_of_le hk HW3.out.size)⟩))
    have Hw := Lib.hid (HB0'.out.trans (HBc.out.mono (by omega)))
    obtain ⟨x0, x1, x2, x3⟩ := HBx.out _ HBc.out
    by_cases h0 : errT vars l tiles = 0
    · by_cases h1 : errT vars l (tiles ++ [⟨xo, xl, xr, xc⟩]) = 0
      · obtain ⟨l0, l1⟩ := tile_less h0 h1
        rw [h0, h1]
        clear h0 h1
        generalize valT vars l (tiles ++ [⟨xo, xl, xr, xc⟩]) = b at *
        generalize valT vars l tiles = a at *
        go_wp2
        go_ret
        exact ⟨by first | rfl | exact ret_bool (by simp; omega), Hw.out⟩
      · have hv := valT_zero h1
        have q : (errT vars l (tiles ++ [⟨xo, xl, xr, xc⟩]) != 0) = true := by rw [bne_iff_ne]; exact h1
        have hor : tiles.length = 10 ∨ (tiles.length ≠ 10 ∧ tilesErr [⟨xo, xl, xr, xc⟩] ≠ 0) := by
          by_cases h10 : tiles.length = 10
          · exact .inl h10
          · exact .inr ⟨h10, fun hx => h1 (tile_more h0 h10 hx)⟩
        rw [hv, h0]
        generalize errT vars l (tiles ++ [⟨xo, xl, xr, xc⟩]) = eb at *
        clear h0 h1 hv
        rcases hor with h10 | ⟨h10, hx⟩
        · have q10 : (((tiles.length : Nat) : Int) == 10) = true := by rw [beq_iff_eq]; omega
          clear h10
          go_wp2
          go_ret
          exact ⟨by first | rfl | exact ret_bool (by simp), Hw.out⟩
        · have q10 : (((tiles.length : Nat) : Int) == 10) = false := by rw [beq_eq_false_iff_ne]; omega
          have q11 : (tilesErr [⟨xo, xl, xr, xc⟩] != 0) = true := by rw [bne_iff_ne]; exact hx
          clear h10 hx
          go_wp2_with fail
          obtain ⟨wd, hwd⟩ : ∃ wd, wd = wc.alloc (Obj.cells #[Value.int IntKind.i64 xo, Value.int IntKind.i64 xl, Value.int IntKind.i64 xr, Value.int IntKind.i64 xc] 70) := ⟨_, rfl⟩
          rw [← hwd]
          have HWd : Hid (Below w.heap.size w wd) := Lib.hid (by rw [hwd]; exact Hw.out.alloc Hw.out.size _)
          have HRd : Hid (RdTl wd (some ⟨wc.heap.size, 0, none⟩) [⟨xo, xl, xr, xc⟩]) := Lib.hid (by
            rw [hwd]
            exact rd_new (f := Tile.cells) _ [(⟨xo, xl, xr, xc⟩ : Tile)] _ _ _ rfl (fun k x hk j hj => by
              obtain ⟨hk0, hx⟩ := List.getElem?_eq_some_iff.1 hk
              have hk1 : k = 0 := by simp at hk0; exact hk0
              subst hk1
              simp at hx
              subst hx
              match j, hj with
              | 0, _ => rfl
              | 1, _ => rfl
              | 2, _ => rfl
              | 3, _ => rfl))
          have HT := Lib.hid (tilesCheck_calls (some ⟨wc.heap.size, 0, none⟩) [⟨xo, xl, xr, xc⟩] 1 wd HRd.out (by simp [maxLen]))
          clear hwd HRd x0 x1 x2 x3
          generalize tilesErr [⟨xo, xl, xr, xc⟩] = ex at *
          refine HT.out.mono ?_
          rintro e w9 ⟨rfl, hW9⟩
          have HW9 := Lib.hid (HWd.out.trans (hW9.mono HWd.out.size))
          clear hW9
          go_wp2
          go_ret
          exact ⟨by first | rfl | exact ret_bool (by simp), HW9.out⟩
    · have hv := valT_zero h0
      have q : (errT vars l tiles != 0) = true := by rw [bne_iff_ne]; exact h0
      rw [hv]
      generalize errT vars l tiles = ea at *
      generalize errT vars l (tiles ++ [⟨xo, xl, xr, xc⟩]) = eb at *
      generalize valT vars l (tiles ++ [⟨xo, xl, xr, xc⟩]) = vb at *
      clear h0 hv
      go_wp2
      go_ret
      exact ⟨by first | rfl | exact ret_bool (by simp), Hw.out⟩
end Go.Proofs.Ytmgejacndhnikaa
