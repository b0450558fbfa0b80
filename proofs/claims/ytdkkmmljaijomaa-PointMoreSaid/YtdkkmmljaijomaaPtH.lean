/- PointMore walked. -/
import Derived.Test.YtdkkmmljaijomaaPtG
import Derived.Deep.RegionHeld3
import Derived.Deep.CutRange
import Derived.Deep.DeepCutAuto
namespace Go.Proofs.Ytdkkmmljaijomaa
open Go.RowKit

set_option maxRecDepth 100000 in
set_option maxHeartbeats 8000000 in
theorem pointMore_calls (n : Int) (A : Option Addr) (l : List Pt) (xk xt xf : Int) (cap : Nat) (w : World) (hA : RdPt w A l) (hm : l.length * 24 ≤ 140737488351232) :
    Calls Try.prog 11 #[.int .i64 n, .slice A l.length cap, .agg #[.int .i64 xk, .int .i64 xt, .int .i64 xf]] w fun e w' => e = .returned (.bool true) ∧ Below w.heap.size w w' := by
  have hm' : l.length ≤ maxLen := by unfold maxLen; omega
  have HB0 := Lib.hid ((Below.refl w.heap.size w).alloc (Nat.le_refl _) (.cells #[.int .i64 xk, .int .i64 xt, .int .i64 xf] 43))
  have HBx0 := Lib.hid (fun j => cell_new w #[Value.int .i64 xk, Value.int .i64 xt, Value.int .i64 xf] 43 w.heap.size rfl j)
  have hwa : (w.alloc (Obj.cells #[Value.int IntKind.i64 xk, Value.int IntKind.i64 xt, Value.int IntKind.i64 xf] 43)).heap.size = w.heap.size + 1 := by simp
  go_enter Try.func11, Try.ntmps11
  go_upto_region 1 with fail
  have HA := Lib.hid (Rd.below hA HB0.out)
  clear hA
  generalize w.alloc (Obj.cells #[Value.int IntKind.i64 xk, Value.int IntKind.i64 xt, Value.int IntKind.i64 xf] 43) = wa at *
  generalize hp : w.heap.size = p at *
  go_wp2_with fail
  refine (within2 n A l cap _ HA.out hm').mono ?_
  rintro e w1 ⟨hB, B1, r1, c1, rfl, hR1, hl1, h1⟩
  have HB1 := Lib.hid hB
  have hw1 := hB.size
  have HBx : Hid (∀ w', Below wa.heap.size wa w' → (w'.cell? ⟨p, 0, none⟩ = some (.int .i64 xk) ∧ w'.cell? ⟨p, 1, none⟩ = some (.int .i64 xt) ∧ w'.cell? ⟨p, 2, none⟩ = some (.int .i64 xf))) := Lib.hid fun w' h =>
    ⟨(h.cell (p := ⟨p, 0, none⟩) (by show p < wa.heap.size; omega)).trans (HBx0.out 0), (h.cell (p := ⟨p, 1, none⟩) (by show p < wa.heap.size; omega)).trans (HBx0.out 1), (h.cell (p := ⟨p, 2, none⟩) (by show p < wa.heap.size; omega)).trans (HBx0.out 2)⟩
  obtain ⟨b0, b1, b2⟩ := HBx.out _ hB
  have HR1 := Lib.hid hR1
  have H1 := Lib.hid h1
  clear hB hR1 h1 HBx0
  go_wp2_with (first
    | (at_builtin
       obtain ⟨v2, w2, hrun, hown, hgrow, hat⟩ := run_appPt (w := w1.alloc (Obj.cells #[Value.int IntKind.i64 xk, Value.int IntKind.i64 xt, Value.int IntKind.i64 xf] 43)) 41 w1.heap.size _ [⟨xk, xt, xf⟩] (own_new Pt.cells 3 43 ptCells_len w1 w1.heap.size (Nat.le_refl _) [⟨xk, xt, xf⟩] (by simp [maxLen])) A l cap (Rd.below HA.out (HB1.out.alloc hw1 _)) (by simp; omega) (by simp)
       refine wpList_app_run rfl 41 _ _ rfl rfl rfl hrun ?_
       have hW2 := (HB1.out.alloc hw1 _).grown hgrow (by simp; omega) (fun k hk => by have hk : some w1.heap.size = some k := hk; injection hk with hk; omega)
       have HW2 := Lib.hid hW2
       rw [List.singleton_append] at hown
       obtain ⟨g2, k2, rfl, hr2, _⟩ := Own.form ptCells_len hown
       have HC2 := Lib.hid (within2 n g2 (⟨xk, xt, xf⟩ :: l) k2 w2 hr2 (by rw [List.length_cons]; unfold maxLen; omega))
       try simp only [List.length_cons]
       try simp only [List.length_cons] at HC2
       have HM2 := Lib.hid (show Below w1.heap.size w1 w2 from ((Below.refl w1.heap.size w1).alloc (Nat.le_refl _) _).grown hgrow (by simp) (fun k hk => by have hk : some w1.heap.size = some k := hk; injection hk with hk; omega))
       clear hrun hown hgrow hat hr2 hW2)
    | (go_at_call 26
       refine HC2.out.mono ?_
       rintro e w3 ⟨hB, B2, r2, c2, rfl, hR2, hl2, h2⟩
       have HB3 := Lib.hid (HW2.out.trans (hB.mono HW2.out.size))
       have HR23 := Lib.hid hR2
       have HM3 := Lib.hid (HM2.out.trans (hB.mono HM2.out.size))
       have H2 := Lib.hid h2
       clear hB hR2 h2))
  have HA0 : Hid (RdPt w3.drew A l) := Lib.hid (Rd.below HA.out HB3.out.drew)
  have HA3 : Hid (RdPt w3 A l) := Lib.hid (Rd.below HA.out HB3.out)
  have Hkp : Hid (∀ w', Below w3.drew.heap.size w3.drew w' → (w'.cell? ⟨p, 0, none⟩ = some (.int .i64 xk) ∧ w'.cell? ⟨p, 1, none⟩ = some (.int .i64 xt) ∧ w'.cell? ⟨p, 2, none⟩ = some (.int .i64 xf))) :=
    Lib.hid fun w' h => HBx.out _ (HB3.out.trans (show Below wa.heap.size w3 w' from ⟨h.os, h.tape, h.output, h.size, fun k hk => h.block k (Nat.lt_of_lt_of_le hk HB3.out.size)⟩))
  have HP0 : Hid (PS w3.drew w3.drew (.slice none 0 0) []) := Lib.hid ⟨Below.refl _ _, Own.nil_ _ _ _⟩
  clear b0 b1 b2 HM2 HW2 HC2
  go_cut [11, 12] from 29 (fun v11 v12 wx => ∃ B3 r3 c3, v11 = .slice B3 r3.length c3 ∧ v12 = .int .i64 (ptErr n (l ++ [⟨xk, xt, xf⟩]) []) ∧ Hid (Below w3.drew.heap.size w3.drew wx) ∧ Hid (RdU wx B3 r3 ∧ r3.length ≤ 8 ∧ (ptErr n (l ++ [⟨xk, xt, xf⟩]) [] = 0 → ∃ m : Nat, n = m ∧ PtOk m (l ++ [⟨xk, xt, xf⟩]) ∧ r3 = ptL m (l ++ [⟨xk, xt, xf⟩]))))
  case first =>
    go_upto_region 3 with fail
    refine wp_region_held_drew (S := fun w' => w'.cell? ⟨p, 0, none⟩ = some (.int .i64 xk) ∧ w'.cell? ⟨p, 1, none⟩ = some (.int .i64 xt) ∧ w'.cell? ⟨p, 2, none⟩ = some (.int .i64 xf)) (by kernel_rfl) (Hkp.out _ (Below.refl _ _)) (fun hH0 => ?_)
    generalize w3.drew = w0 at *
    -- the region
    refine wpAnyH_take (i := 0) (oi := { dst := some 30, op := Go.Op.move (Go.Operand.tmp 0), type := 3, pos := "high.go:709", after := #[], guard := none }) rfl (by kernel_rfl) (by kernel_rfl) (by kernel_rfl) (fun _ _ _ h => h) (Or.inl ⟨by rfl, fun w hw => by (go_simp; try with_reducible rfl)⟩) (by assumption) ?_
    try simp only [Act.put, List.setIfInBounds_toArray, List.set_cons_zero, List.set_cons_succ]
    refine wpAnyH_take (i := 2) (oi := { dst := some 32, op := Go.Op.move (Go.Operand.tmp 1), type := 41, pos := "high.go:709", after := #[], guard := none }) rfl (by kernel_rfl) (by kernel_rfl) (by kernel_rfl) (fun _ _ _ h => h) (Or.inl ⟨by rfl, fun w hw => by (go_simp; try with_reducible rfl)⟩) (by assumption) ?_
    try simp only [Act.put, List.setIfInBounds_toArray, List.set_cons_zero, List.set_cons_succ]
    refine wpAnyH_take (i := 4) (oi := { dst := some 34, op := Go.Op.load 43 (Go.Operand.tmp 5), type := 43, pos := "high.go:709", after := #[], guard := none }) rfl (by kernel_rfl) (by kernel_rfl) (by kernel_rfl) (fun _ _ _ h => h) (Or.inl ⟨by rfl, fun w hw => by (obtain ⟨p0, p1, p2⟩ := hw; go_simp; try with_reducible rfl)⟩) (by assumption) ?_
    try simp only [Act.put, List.setIfInBounds_toArray, List.set_cons_zero, List.set_cons_succ]
    refine wpAnyH_ready (rs := [1, 5]) (by kernel_rfl) (by simp) ?_
    refine AllReadyH.cons (o := { dst := some 31, op := Go.Op.buildSlice 41 0 #[], type := 41, pos := "high.go:709", after := #[], guard := none }) rfl (fun K hK => ?_) ?_
    · go_simp
      have HP1 := Lib.hid HP0.out.empty
      refine hK.out _ _ (Hkp.out _ HP1.out.bel) (fun hH1 => ?_)
      clear hK
      generalize w0.alloc (Obj.cells #[] 43) = w1 at *
      try simp only [Act.put, List.setIfInBounds_toArray, List.set_cons_zero, List.set_cons_succ]
      refine wpAnyH_ready (rs := [3, 5]) (by kernel_rfl) (by simp) ?_
      refine AllReadyH.cons (o := { dst := some 33, op := Go.Op.call { callee := Go.Callee.builtin Go.Builtin.append, args := #[Go.Operand.tmp 31, Go.Operand.tmp 32], argTypes := #[41, 41] }, type := 41, pos := "high.go:709", after := #[{ on := 1, ground := Go.Ground.data }, { on := 2, ground := Go.Ground.data }], guard := none }) rfl (fun K hK => ?_) ?_
      · obtain ⟨v2, w2, hrun, hown, hgrow, hat⟩ := run_appPt (w := w1) 41 w0.heap.size _ _ HP1.out.own A l cap (Rd.below HA0.out HP1.out.bel) (by simp; omega) HP1.out.bel.size
        rw [if_pos (by rfl)]
        refine wp_app_run 41 _ _ rfl rfl rfl hrun ?_
        rw [List.nil_append] at hown
        have HP2 := Lib.hid (HP1.out.app hown hgrow)
        refine hK.out _ _ (Hkp.out _ HP2.out.bel) (fun hH2 => ?_)
        clear hK hrun hown hgrow hat
        try simp only [Act.put, List.setIfInBounds_toArray, List.set_cons_zero, List.set_cons_succ]
        refine wpAnyH_ready (rs := [5]) (by kernel_rfl) (by simp) ?_
        refine AllReadyH.cons (o := { dst := some 35, op := Go.Op.buildSlice 41 1 #[(0, Go.Operand.tmp 34)], type := 41, pos := "high.go:709", after := #[{ on := 4, ground := Go.Ground.data }], guard := none }) rfl (fun K hK => ?_) AllReadyH.nil
        go_simp
        have HL3 := Lib.hid (HP2.out.lit ⟨xk, xt, xf⟩)
        have HP3 := Lib.hid (HP2.out.alloc (Obj.cells #[Value.int IntKind.i64 xk, Value.int IntKind.i64 xt, Value.int IntKind.i64 xf] 43))
        refine hK.out _ _ (Hkp.out _ HP3.out.bel) (fun hH3 => ?_)
        clear hK
        generalize w2.alloc (Obj.cells #[Value.int IntKind.i64 xk, Value.int IntKind.i64 xt, Value.int IntKind.i64 xf] 43) = w3 at *
        try simp only [Act.put, List.setIfInBounds_toArray, List.set_cons_zero, List.set_cons_succ]
        refine wpAnyH_ready (rs := [6]) (by kernel_rfl) (by simp) ?_
        refine AllReadyH.cons (o := { dst := some 36, op := Go.Op.call { callee := Go.Callee.builtin Go.Builtin.append, args := #[Go.Operand.tmp 33, Go.Operand.tmp 35], argTypes := #[41, 41] }, type := 41, pos := "high.go:709", after := #[{ on := 3, ground := Go.Ground.data }, { on := 5, ground := Go.Ground.data }, { on := 3, ground := Go.Ground.chain }], guard := none }) rfl (fun K hK => ?_) AllReadyH.nil
        obtain ⟨v4, w4, hrun, hown, hgrow, hat⟩ := run_appPt (w := w3) 41 w0.heap.size _ _ HP3.out.own (some ⟨w2.heap.size, 0, none⟩) [⟨xk, xt, xf⟩] 1 HL3.out.rd (by simp; omega) HP3.out.bel.size
        rw [if_pos (by rfl)]
        refine wp_app_run 41 _ _ rfl rfl rfl hrun ?_
        skip
        have HP4 := Lib.hid (HP3.out.app hown hgrow)
        refine hK.out _ _ (Hkp.out _ HP4.out.bel) (fun hH4 => ?_)
        clear hK hrun hown hgrow hat
        try simp only [Act.put, List.setIfInBounds_toArray, List.set_cons_zero, List.set_cons_succ]
        refine wpAnyH_ready (rs := [7]) (by kernel_rfl) (by simp) ?_
        refine AllReadyH.cons (o := { dst := some 37, op := Go.Op.call { callee := Go.Callee.value (Go.Operand.func 26), args := #[Go.Operand.tmp 30, Go.Operand.tmp 36], argTypes := #[3, 41] }, type := 45, pos := "high.go:709", after := #[{ on := 0, ground := Go.Ground.data }, { on := 6, ground := Go.Ground.data }, { on := 6, ground := Go.Ground.chain }], guard := none }) rfl (fun K hK => ?_) AllReadyH.nil
        obtain ⟨g3, k3, rfl, hr3, _⟩ := Own.form ptCells_len HP4.out.own
        have HC3 := Lib.hid (within2 n g3 (l ++ [⟨xk, xt, xf⟩]) k3 w4 hr3 (by rw [List.length_append, List.length_singleton]; unfold maxLen; omega))
        clear hr3
        simp only [List.length_append, List.length_singleton] at HC3 ⊢
        go_simp
        go_at_call 26
        refine HC3.out.mono ?_
        rintro e w5 ⟨hB, B3, r3, c3, rfl, hR3, hl3, h3⟩
        have HE := Lib.hid (HP4.out.bel.trans (hB.mono HP4.out.bel.size))
        have HF := Lib.hid (And.intro hR3 (And.intro hl3 h3))
        refine hK.out _ _ (Hkp.out _ HE.out) (fun hH5 => ?_)
        clear hK hB hR3 hl3 h3
        try simp only [Act.put, List.setIfInBounds_toArray, List.set_cons_zero, List.set_cons_succ]
        refine wpAnyH_take (i := 8) (oi := { dst := some 29, op := Go.Op.move (Go.Operand.tmp 37), type := 45, pos := "high.go:709", after := #[{ on := 7, ground := Go.Ground.data }], guard := none }) rfl (by kernel_rfl) (by kernel_rfl) (by kernel_rfl) (fun _ _ _ h => h) (Or.inl ⟨by rfl, fun w hw => by (go_simp; try with_reducible rfl)⟩) (by assumption) ?_
        try simp only [Act.put, List.setIfInBounds_toArray, List.set_cons_zero, List.set_cons_succ]
        refine wpAnyH_take (i := 9) (oi := { dst := some 38, op := Go.Op.extract (Go.Operand.tmp 29) 0, type := 44, pos := "high.go:709", after := #[{ on := 8, ground := Go.Ground.data }], guard := none }) rfl (by kernel_rfl) (by kernel_rfl) (by kernel_rfl) (fun _ _ _ h => h) (Or.inl ⟨by rfl, fun w hw => by (go_simp; try with_reducible rfl)⟩) (by assumption) ?_
        try simp only [Act.put, List.setIfInBounds_toArray, List.set_cons_zero, List.set_cons_succ]
        refine wpAnyH_take (i := 11) (oi := { dst := some 11, op := Go.Op.assign (Go.Operand.tmp 38), type := 44, pos := "high.go:709", after := #[{ on := 9, ground := Go.Ground.data }, { on := 7, ground := Go.Ground.chain }, { on := 0, ground := Go.Ground.phase }, { on := 1, ground := Go.Ground.phase }, { on := 2, ground := Go.Ground.phase }, { on := 3, ground := Go.Ground.phase }, { on := 4, ground := Go.Ground.phase }, { on := 5, ground := Go.Ground.phase }, { on := 6, ground := Go.Ground.phase }, { on := 7, ground := Go.Ground.phase }, { on := 8, ground := Go.Ground.phase }, { on := 9, ground := Go.Ground.phase }, { on := 10, ground := Go.Ground.textOnly Go.Departure.lateStores }], guard := none }) rfl (by kernel_rfl) (by kernel_rfl) (by kernel_rfl) (fun _ _ _ h => h) (Or.inl ⟨by rfl, fun w hw => by (go_simp; try with_reducible rfl)⟩) (by assumption) ?_
        try simp only [Act.put, List.setIfInBounds_toArray, List.set_cons_zero, List.set_cons_succ]
        refine wpAnyH_take (i := 10) (oi := { dst := some 39, op := Go.Op.extract (Go.Operand.tmp 29) 1, type := 24, pos := "high.go:709", after := #[{ on := 8, ground := Go.Ground.data }, { on := 11, ground := Go.Ground.gcOnly Go.Departure.lateStores }], guard := none }) rfl (by kernel_rfl) (by kernel_rfl) (by kernel_rfl) (fun _ _ _ h => h) (Or.inl ⟨by rfl, fun w hw => by (go_simp; try with_reducible rfl)⟩) (by assumption) ?_
        try simp only [Act.put, List.setIfInBounds_toArray, List.set_cons_zero, List.set_cons_succ]
        refine wpAnyH_take (i := 12) (oi := { dst := some 12, op := Go.Op.assign (Go.Operand.tmp 39), type := 24, pos := "high.go:709", after := #[{ on := 10, ground := Go.Ground.data }, { on := 11, ground := Go.Ground.chain }, { on := 0, ground := Go.Ground.phase }, { on := 1, ground := Go.Ground.phase }, { on := 2, ground := Go.Ground.phase }, { on := 3, ground := Go.Ground.phase }, { on := 4, ground := Go.Ground.phase }, { on := 5, ground := Go.Ground.phase }, { on := 6, ground := Go.Ground.phase }, { on := 7, ground := Go.Ground.phase }, { on := 8, ground := Go.Ground.phase }, { on := 9, ground := Go.Ground.phase }, { on := 10, ground := Go.Ground.phase }, { on := 11, ground := Go.Ground.phase }], guard := none }) rfl (by kernel_rfl) (by kernel_rfl) (by kernel_rfl) (fun _ _ _ h => h) (Or.inl ⟨by rfl, fun w hw => by (go_simp; try with_reducible rfl)⟩) (by assumption) ?_
        try simp only [Act.put, List.setIfInBounds_toArray, List.set_cons_zero, List.set_cons_succ]
        refine wpAnyH_done (by kernel_rfl) ?_ _
        go_wp2
        go_meet
        case rel => exact ⟨B3, r3, c3, rfl, rfl, HE, HF⟩
      refine AllReadyH.cons (o := { dst := some 35, op := Go.Op.buildSlice 41 1 #[(0, Go.Operand.tmp 34)], type := 41, pos := "high.go:709", after := #[{ on := 4, ground := Go.Ground.data }], guard := none }) rfl (fun K hK => ?_) AllReadyH.nil
      go_simp
      have HL2 := Lib.hid (HP1.out.lit ⟨xk, xt, xf⟩)
      have HP2 := Lib.hid (HP1.out.alloc (Obj.cells #[Value.int IntKind.i64 xk, Value.int IntKind.i64 xt, Value.int IntKind.i64 xf] 43))
      refine hK.out _ _ (Hkp.out _ HP2.out.bel) (fun hH2 => ?_)
      clear hK
      generalize w1.alloc (Obj.cells #[Value.int IntKind.i64 xk, Value.int IntKind.i64 xt, Value.int IntKind.i64 xf] 43) = w2 at *
      try simp only [Act.put, List.setIfInBounds_toArray, List.set_cons_zero, List.set_cons_succ]
      refine wpAnyH_ready (rs := [3]) (by kernel_rfl) (by simp) ?_
      refine AllReadyH.cons (o := { dst := some 33, op := Go.Op.call { callee := Go.Callee.builtin Go.Builtin.append, args := #[Go.Operand.tmp 31, Go.Operand.tmp 32], argTypes := #[41, 41] }, type := 41, pos := "high.go:709", after := #[{ on := 1, ground := Go.Ground.data }, { on := 2, ground := Go.Ground.data }], guard := none }) rfl (fun K hK => ?_) AllReadyH.nil
      obtain ⟨v3, w3, hrun, hown, hgrow, hat⟩ := run_appPt (w := w2) 41 w0.heap.size _ _ HP2.out.own A l cap (Rd.below HA0.out HP2.out.bel) (by simp; omega) HP2.out.bel.size
      rw [if_pos (by rfl)]
      refine wp_app_run 41 _ _ rfl rfl rfl hrun ?_
      rw [List.nil_append] at hown
      have HP3 := Lib.hid (HP2.out.app hown hgrow)
      have HL3 := Lib.hid (HL2.out.app hgrow hat)
      refine hK.out _ _ (Hkp.out _ HP3.out.bel) (fun hH3 => ?_)
      clear hK hrun hown hgrow hat
      try simp only [Act.put, List.setIfInBounds_toArray, List.set_cons_zero, List.set_cons_succ]
      refine wpAnyH_ready (rs := [6]) (by kernel_rfl) (by simp) ?_
      refine AllReadyH.cons (o := { dst := some 36, op := Go.Op.call { callee := Go.Callee.builtin Go.Builtin.append, args := #[Go.Operand.tmp 33, Go.Operand.tmp 35], argTypes := #[41, 41] }, type := 41, pos := "high.go:709", after := #[{ on := 3, ground := Go.Ground.data }, { on := 5, ground := Go.Ground.data }, { on := 3, ground := Go.Ground.chain }], guard := none }) rfl (fun K hK => ?_) AllReadyH.nil
      obtain ⟨v4, w4, hrun, hown, hgrow, hat⟩ := run_appPt (w := w3) 41 w0.heap.size _ _ HP3.out.own (some ⟨w1.heap.size, 0, none⟩) [⟨xk, xt, xf⟩] 1 HL3.out.rd (by simp; omega) HP3.out.bel.size
      rw [if_pos (by rfl)]
      refine wp_app_run 41 _ _ rfl rfl rfl hrun ?_
      skip
      have HP4 := Lib.hid (HP3.out.app hown hgrow)
      refine hK.out _ _ (Hkp.out _ HP4.out.bel) (fun hH4 => ?_)
      clear hK hrun hown hgrow hat
      try simp only [Act.put, List.setIfInBounds_toArray, List.set_cons_zero, List.set_cons_succ]
      refine wpAnyH_ready (rs := [7]) (by kernel_rfl) (by simp) ?_
      refine AllReadyH.cons (o := { dst := some 37, op := Go.Op.call { callee := Go.Callee.value (Go.Operand.func 26), args := #[Go.Operand.tmp 30, Go.Operand.tmp 36], argTypes := #[3, 41] }, type := 45, pos := "high.go:709", after := #[{ on := 0, ground := Go.Ground.data }, { on := 6, ground := Go.Ground.data }, { on := 6, ground := Go.Ground.chain }], guard := none }) rfl (fun K hK => ?_) AllReadyH.nil
      obtain ⟨g3, k3, rfl, hr3, _⟩ := Own.form ptCells_len HP4.out.own
      have HC3 := Lib.hid (within2 n g3 (l ++ [⟨xk, xt, xf⟩]) k3 w4 hr3 (by rw [List.length_append, List.length_singleton]; unfold maxLen; omega))
      clear hr3
      simp only [List.length_append, List.length_singleton] at HC3 ⊢
      go_simp
      go_at_call 26
      refine HC3.out.mono ?_
      rintro e w5 ⟨hB, B3, r3, c3, rfl, hR3, hl3, h3⟩
      have HE := Lib.hid (HP4.out.bel.trans (hB.mono HP4.out.bel.size))
      have HF := Lib.hid (And.intro hR3 (And.intro hl3 h3))
      refine hK.out _ _ (Hkp.out _ HE.out) (fun hH5 => ?_)
      clear hK hB hR3 hl3 h3
      try simp only [Act.put, List.setIfInBounds_toArray, List.set_cons_zero, List.set_cons_succ]
      refine wpAnyH_take (i := 8) (oi := { dst := some 29, op := Go.Op.move (Go.Operand.tmp 37), type := 45, pos := "high.go:709", after := #[{ on := 7, ground := Go.Ground.data }], guard := none }) rfl (by kernel_rfl) (by kernel_rfl) (by kernel_rfl) (fun _ _ _ h => h) (Or.inl ⟨by rfl, fun w hw => by (go_simp; try with_reducible rfl)⟩) (by assumption) ?_
      try simp only [Act.put, List.setIfInBounds_toArray, List.set_cons_zero, List.set_cons_succ]
      refine wpAnyH_take (i := 9) (oi := { dst := some 38, op := Go.Op.extract (Go.Operand.tmp 29) 0, type := 44, pos := "high.go:709", after := #[{ on := 8, ground := Go.Ground.data }], guard := none }) rfl (by kernel_rfl) (by kernel_rfl) (by kernel_rfl) (fun _ _ _ h => h) (Or.inl ⟨by rfl, fun w hw => by (go_simp; try with_reducible rfl)⟩) (by assumption) ?_
      try simp only [Act.put, List.setIfInBounds_toArray, List.set_cons_zero, List.set_cons_succ]
      refine wpAnyH_take (i := 11) (oi := { dst := some 11, op := Go.Op.assign (Go.Operand.tmp 38), type := 44, pos := "high.go:709", after := #[{ on := 9, ground := Go.Ground.data }, { on := 7, ground := Go.Ground.chain }, { on := 0, ground := Go.Ground.phase }, { on := 1, ground := Go.Ground.phase }, { on := 2, ground := Go.Ground.phase }, { on := 3, ground := Go.Ground.phase }, { on := 4, ground := Go.Ground.phase }, { on := 5, ground := Go.Ground.phase }, { on := 6, ground := Go.Ground.phase }, { on := 7, ground := Go.Ground.phase }, { on := 8, ground := Go.Ground.phase }, { on := 9, ground := Go.Ground.phase }, { on := 10, ground := Go.Ground.textOnly Go.Departure.lateStores }], guard := none }) rfl (by kernel_rfl) (by kernel_rfl) (by kernel_rfl) (fun _ _ _ h => h) (Or.inl ⟨by rfl, fun w hw => by (go_simp; try with_reducible rfl)⟩) (by assumption) ?_
      try simp only [Act.put, List.setIfInBounds_toArray, List.set_cons_zero, List.set_cons_succ]
      refine wpAnyH_take (i := 10) (oi := { dst := some 39, op := Go.Op.extract (Go.Operand.tmp 29) 1, type := 24, pos := "high.go:709", after := #[{ on := 8, ground := Go.Ground.data }, { on := 11, ground := Go.Ground.gcOnly Go.Departure.lateStores }], guard := none }) rfl (by kernel_rfl) (by kernel_rfl) (by kernel_rfl) (fun _ _ _ h => h) (Or.inl ⟨by rfl, fun w hw => by (go_simp; try with_reducible rfl)⟩) (by assumption) ?_
      try simp only [Act.put, List.setIfInBounds_toArray, List.set_cons_zero, List.set_cons_succ]
      refine wpAnyH_take (i := 12) (oi := { dst := some 12, op := Go.Op.assign (Go.Operand.tmp 39), type := 24, pos := "high.go:709", after := #[{ on := 10, ground := Go.Ground.data }, { on := 11, ground := Go.Ground.chain }, { on := 0, ground := Go.Ground.phase }, { on := 1, ground := Go.Ground.phase }, { on := 2, ground := Go.Ground.phase }, { on := 3, ground := Go.Ground.phase }, { on := 4, ground := Go.Ground.phase }, { on := 5, ground := Go.Ground.phase }, { on := 6, ground := Go.Ground.phase }, { on := 7, ground := Go.Ground.phase }, { on := 8, ground := Go.Ground.phase }, { on := 9, ground := Go.Ground.phase }, { on := 10, ground := Go.Ground.phase }, { on := 11, ground := Go.Ground.phase }], guard := none }) rfl (by kernel_rfl) (by kernel_rfl) (by kernel_rfl) (fun _ _ _ h => h) (Or.inl ⟨by rfl, fun w hw => by (go_simp; try with_reducible rfl)⟩) (by assumption) ?_
      try simp only [Act.put, List.setIfInBounds_toArray, List.set_cons_zero, List.set_cons_succ]
      refine wpAnyH_done (by kernel_rfl) ?_ _
      go_wp2
      go_meet
      case rel => exact ⟨B3, r3, c3, rfl, rfl, HE, HF⟩
    refine AllReadyH.cons (o := { dst := some 35, op := Go.Op.buildSlice 41 1 #[(0, Go.Operand.tmp 34)], type := 41, pos := "high.go:709", after := #[{ on := 4, ground := Go.Ground.data }], guard := none }) rfl (fun K hK => ?_) AllReadyH.nil
    go_simp
    have HL1 := Lib.hid (HP0.out.lit ⟨xk, xt, xf⟩)
    have HP1 := Lib.hid (HP0.out.alloc (Obj.cells #[Value.int IntKind.i64 xk, Value.int IntKind.i64 xt, Value.int IntKind.i64 xf] 43))
    refine hK.out _ _ (Hkp.out _ HP1.out.bel) (fun hH1 => ?_)
    clear hK
    generalize w0.alloc (Obj.cells #[Value.int IntKind.i64 xk, Value.int IntKind.i64 xt, Value.int IntKind.i64 xf] 43) = w1 at *
    try simp only [Act.put, List.setIfInBounds_toArray, List.set_cons_zero, List.set_cons_succ]
    refine wpAnyH_ready (rs := [1]) (by kernel_rfl) (by simp) ?_
    refine AllReadyH.cons (o := { dst := some 31, op := Go.Op.buildSlice 41 0 #[], type := 41, pos := "high.go:709", after := #[], guard := none }) rfl (fun K hK => ?_) AllReadyH.nil
    go_simp
    have HP2 := Lib.hid HP1.out.empty
    have HL2 := Lib.hid HL1.out.empty
    refine hK.out _ _ (Hkp.out _ HP2.out.bel) (fun hH2 => ?_)
    clear hK
    generalize w1.alloc (Obj.cells #[] 43) = w2 at *
    try simp only [Act.put, List.setIfInBounds_toArray, List.set_cons_zero, List.set_cons_succ]
    refine wpAnyH_ready (rs := [3]) (by kernel_rfl) (by simp) ?_
    refine AllReadyH.cons (o := { dst := some 33, op := Go.Op.call { callee := Go.Callee.builtin Go.Builtin.append, args := #[Go.Operand.tmp 31, Go.Operand.tmp 32], argTypes := #[41, 41] }, type := 41, pos := "high.go:709", after := #[{ on := 1, ground := Go.Ground.data }, { on := 2, ground := Go.Ground.data }], guard := none }) rfl (fun K hK => ?_) AllReadyH.nil
    obtain ⟨v3, w3, hrun, hown, hgrow, hat⟩ := run_appPt (w := w2) 41 w0.heap.size _ _ HP2.out.own A l cap (Rd.below HA0.out HP2.out.bel) (by simp; omega) HP2.out.bel.size
    rw [if_pos (by rfl)]
    refine wp_app_run 41 _ _ rfl rfl rfl hrun ?_
    rw [List.nil_append] at hown
    have HP3 := Lib.hid (HP2.out.app hown hgrow)
    have HL3 := Lib.hid (HL2.out.app hgrow hat)
    refine hK.out _ _ (Hkp.out _ HP3.out.bel) (fun hH3 => ?_)
    clear hK hrun hown hgrow hat
    try simp only [Act.put, List.setIfInBounds_toArray, List.set_cons_zero, List.set_cons_succ]
    refine wpAnyH_ready (rs := [6]) (by kernel_rfl) (by simp) ?_
    refine AllReadyH.cons (o := { dst := some 36, op := Go.Op.call { callee := Go.Callee.builtin Go.Builtin.append, args := #[Go.Operand.tmp 33, Go.Operand.tmp 35], argTypes := #[41, 41] }, type := 41, pos := "high.go:709", after := #[{ on := 3, ground := Go.Ground.data }, { on := 5, ground := Go.Ground.data }, { on := 3, ground := Go.Ground.chain }], guard := none }) rfl (fun K hK => ?_) AllReadyH.nil
    obtain ⟨v4, w4, hrun, hown, hgrow, hat⟩ := run_appPt (w := w3) 41 w0.heap.size _ _ HP3.out.own (some ⟨w0.heap.size, 0, none⟩) [⟨xk, xt, xf⟩] 1 HL3.out.rd (by simp; omega) HP3.out.bel.size
    rw [if_pos (by rfl)]
    refine wp_app_run 41 _ _ rfl rfl rfl hrun ?_
    skip
    have HP4 := Lib.hid (HP3.out.app hown hgrow)
    refine hK.out _ _ (Hkp.out _ HP4.out.bel) (fun hH4 => ?_)
    clear hK hrun hown hgrow hat
    try simp only [Act.put, List.setIfInBounds_toArray, List.set_cons_zero, List.set_cons_succ]
    refine wpAnyH_ready (rs := [7]) (by kernel_rfl) (by simp) ?_
    refine AllReadyH.cons (o := { dst := some 37, op := Go.Op.call { callee := Go.Callee.value (Go.Operand.func 26), args := #[Go.Operand.tmp 30, Go.Operand.tmp 36], argTypes := #[3, 41] }, type := 45, pos := "high.go:709", after := #[{ on := 0, ground := Go.Ground.data }, { on := 6, ground := Go.Ground.data }, { on := 6, ground := Go.Ground.chain }], guard := none }) rfl (fun K hK => ?_) AllReadyH.nil
    obtain ⟨g3, k3, rfl, hr3, _⟩ := Own.form ptCells_len HP4.out.own
    have HC3 := Lib.hid (within2 n g3 (l ++ [⟨xk, xt, xf⟩]) k3 w4 hr3 (by rw [List.length_append, List.length_singleton]; unfold maxLen; omega))
    clear hr3
    simp only [List.length_append, List.length_singleton] at HC3 ⊢
    go_simp
    go_at_call 26
    refine HC3.out.mono ?_
    rintro e w5 ⟨hB, B3, r3, c3, rfl, hR3, hl3, h3⟩
    have HE := Lib.hid (HP4.out.bel.trans (hB.mono HP4.out.bel.size))
    have HF := Lib.hid (And.intro hR3 (And.intro hl3 h3))
    refine hK.out _ _ (Hkp.out _ HE.out) (fun hH5 => ?_)
    clear hK hB hR3 hl3 h3
    try simp only [Act.put, List.setIfInBounds_toArray, List.set_cons_zero, List.set_cons_succ]
    refine wpAnyH_take (i := 8) (oi := { dst := some 29, op := Go.Op.move (Go.Operand.tmp 37), type := 45, pos := "high.go:709", after := #[{ on := 7, ground := Go.Ground.data }], guard := none }) rfl (by kernel_rfl) (by kernel_rfl) (by kernel_rfl) (fun _ _ _ h => h) (Or.inl ⟨by rfl, fun w hw => by (go_simp; try with_reducible rfl)⟩) (by assumption) ?_
    try simp only [Act.put, List.setIfInBounds_toArray, List.set_cons_zero, List.set_cons_succ]
    refine wpAnyH_take (i := 9) (oi := { dst := some 38, op := Go.Op.extract (Go.Operand.tmp 29) 0, type := 44, pos := "high.go:709", after := #[{ on := 8, ground := Go.Ground.data }], guard := none }) rfl (by kernel_rfl) (by kernel_rfl) (by kernel_rfl) (fun _ _ _ h => h) (Or.inl ⟨by rfl, fun w hw => by (go_simp; try with_reducible rfl)⟩) (by assumption) ?_
    try simp only [Act.put, List.setIfInBounds_toArray, List.set_cons_zero, List.set_cons_succ]
    refine wpAnyH_take (i := 11) (oi := { dst := some 11, op := Go.Op.assign (Go.Operand.tmp 38), type := 44, pos := "high.go:709", after := #[{ on := 9, ground := Go.Ground.data }, { on := 7, ground := Go.Ground.chain }, { on := 0, ground := Go.Ground.phase }, { on := 1, ground := Go.Ground.phase }, { on := 2, ground := Go.Ground.phase }, { on := 3, ground := Go.Ground.phase }, { on := 4, ground := Go.Ground.phase }, { on := 5, ground := Go.Ground.phase }, { on := 6, ground := Go.Ground.phase }, { on := 7, ground := Go.Ground.phase }, { on := 8, ground := Go.Ground.phase }, { on := 9, ground := Go.Ground.phase }, { on := 10, ground := Go.Ground.textOnly Go.Departure.lateStores }], guard := none }) rfl (by kernel_rfl) (by kernel_rfl) (by kernel_rfl) (fun _ _ _ h => h) (Or.inl ⟨by rfl, fun w hw => by (go_simp; try with_reducible rfl)⟩) (by assumption) ?_
    try simp only [Act.put, List.setIfInBounds_toArray, List.set_cons_zero, List.set_cons_succ]
    refine wpAnyH_take (i := 10) (oi := { dst := some 39, op := Go.Op.extract (Go.Operand.tmp 29) 1, type := 24, pos := "high.go:709", after := #[{ on := 8, ground := Go.Ground.data }, { on := 11, ground := Go.Ground.gcOnly Go.Departure.lateStores }], guard := none }) rfl (by kernel_rfl) (by kernel_rfl) (by kernel_rfl) (fun _ _ _ h => h) (Or.inl ⟨by rfl, fun w hw => by (go_simp; try with_reducible rfl)⟩) (by assumption) ?_
    try simp only [Act.put, List.setIfInBounds_toArray, List.set_cons_zero, List.set_cons_succ]
    refine wpAnyH_take (i := 12) (oi := { dst := some 12, op := Go.Op.assign (Go.Operand.tmp 39), type := 24, pos := "high.go:709", after := #[{ on := 10, ground := Go.Ground.data }, { on := 11, ground := Go.Ground.chain }, { on := 0, ground := Go.Ground.phase }, { on := 1, ground := Go.Ground.phase }, { on := 2, ground := Go.Ground.phase }, { on := 3, ground := Go.Ground.phase }, { on := 4, ground := Go.Ground.phase }, { on := 5, ground := Go.Ground.phase }, { on := 6, ground := Go.Ground.phase }, { on := 7, ground := Go.Ground.phase }, { on := 8, ground := Go.Ground.phase }, { on := 9, ground := Go.Ground.phase }, { on := 10, ground := Go.Ground.phase }, { on := 11, ground := Go.Ground.phase }], guard := none }) rfl (by kernel_rfl) (by kernel_rfl) (by kernel_rfl) (fun _ _ _ h => h) (Or.inl ⟨by rfl, fun w hw => by (go_simp; try with_reducible rfl)⟩) (by assumption) ?_
    try simp only [Act.put, List.setIfInBounds_toArray, List.set_cons_zero, List.set_cons_succ]
    refine wpAnyH_done (by kernel_rfl) ?_ _
    go_wp2
    go_meet
    case rel => exact ⟨B3, r3, c3, rfl, rfl, HE, HF⟩
  case rest =>
    subst hp
    obtain ⟨B3, r3, c3, rfl, rfl, HE, HF⟩ := hcut
    have hl3 := HF.out.2.1
    have HBc := Lib.hid (HB3.out.trans (show Below wa.heap.size w3 wc from ⟨HE.out.os, HE.out.tape, HE.out.output, HE.out.size, fun k hk => HE.out.block k (Nat.lt_of_lt_of_le hk HB3.out.size)⟩))
    have HC := Lib.hid (pointCheck_calls n A none l [] cap 0 wc (Rd.below HA.out HBc.out) hm' Rd.nil_ (by simp))
    have Hw := Lib.hid (HB0.out.trans (HBc.out.mono (by omega)))
    have hwc := Hw.out.size
    by_cases h0 : ptErr n l [] = 0
    · obtain ⟨m, rfl, ok, rfl⟩ := H1.out h0
      have Hb := Lib.hid (ptErr_both ⟨xk, xt, xf⟩ h0)
      rw [h0] at HC
      rw [h0]
      rw [← Hb.out] at HF ⊢
      clear h0
      by_cases h2 : ptErr m (⟨xk, xt, xf⟩ :: l) [] = 0
      · obtain ⟨m2, hm2, ok2, rfl⟩ := H2.out h2
        have : m2 = m := by omega
        subst this
        obtain ⟨m3, hm3, ok3, e3⟩ := HF.out.2.2 h2
        have : m3 = m2 := by omega
        subst this
        rw [← ptL_both] at e3
        subst e3
        rw [h2]
        have Hok := Lib.hid ok
        have Hok2 := Lib.hid ok2
        have HRa := Lib.hid (Rd.below (Rd.below HR1.out HM3.out) (show Below w3.heap.size w3 wc from ⟨HE.out.os, HE.out.tape, HE.out.output, HE.out.size, HE.out.block⟩))
        have HRb := Lib.hid (Rd.below HR23.out (show Below w3.heap.size w3 wc from ⟨HE.out.os, HE.out.tape, HE.out.output, HE.out.size, HE.out.block⟩))
        have h8 := ok.n8
        have HWd := Lib.hid (fun w' h1 h2 => words_calls B2 B3 (ptL m3 (⟨xk, xt, xf⟩ :: l)) (ptL m3 (⟨xk, xt, xf⟩ :: l)) c2 c3 w' h1 h2 (by rw [ptL_len]; omega))
        have HRc := Lib.hid HF.out.1
        rw [decide_eq_true (p := ptL m3 (⟨xk, xt, xf⟩ :: l) = ptL m3 (⟨xk, xt, xf⟩ :: l)) rfl] at HWd
        simp only [ptL_len] at HWd ⊢
        clear ok ok2 hm2 hm3 h2 hl1 hl3 hl2 HF H1 H2
        go_wp2_with (first
          | (go_at_call 27
             refine HC.out.mono ?_
             rintro e w9 ⟨rfl, hB9⟩
             have HB9 := Lib.hid (Hw.out.trans (hB9.mono hwc))
             have HRa9 := Lib.hid (Rd.below HRa.out hB9)
             have HRb9 := Lib.hid (Rd.below HRb.out hB9)
             have HRc9 := Lib.hid (Rd.below HRc.out hB9)
             clear hB9)
          | (go_at_call 28
             refine (HWd.out w9 HRb9.out HRc9.out).mono ?_
             rintro e w10 ⟨rfl, nq, hw10⟩))
        go_loopw [76] (fun i wr => ∃ k : Nat, k ≤ m3 ∧ i = .int .i64 k ∧ ∃ nq, wr = w9.drewN nq) (fun i _ => m3 - (intOf i).toNat)
        case atStart => exact ⟨0, Nat.zero_le _, rfl, nq, by first | rfl | exact hw10⟩
        case round =>
          clear hw10
          obtain ⟨k, hk, rfl, nq2, hwr⟩ := hrel
          have Hwr := Lib.hid hwr
          by_cases hlt : k < m3
          · have hk1 : k < (ptL m3 l).length := by rw [ptL_len]; exact hlt
            have hk2 : k < (ptL m3 (⟨xk, xt, xf⟩ :: l)).length := by rw [ptL_len]; exact hlt
            obtain ⟨b1, off1, rfl, hb1, d1⟩ := RdU.at1 HRa9.out hk1
            obtain ⟨b2, off2, rfl, hb2, d2⟩ := RdU.at1 HRb9.out hk2
            rw [ptL_get] at d1 d2
            have d1 : wr.cell? ⟨b1, off1 + k, none⟩ = some (.int .u32 (ptS l k : Nat)) := by rw [hwr]; exact d1
            have d2 : wr.cell? ⟨b2, off2 + k, none⟩ = some (.int .u32 (ptS (⟨xk, xt, xf⟩ :: l) k : Nat)) := by rw [hwr]; exact d2
            have x1 := ptS_lt l k
            have x2 := ptS_lt (⟨xk, xt, xf⟩ :: l) k
            have q1 : ((k : Nat) : Int) < ((m3 : Nat) : Int) := by omega
            have Hcl := Lib.hid (fun w => in_calls (ptS l k) (ptS (⟨xk, xt, xf⟩ :: l) k) w (by omega) (by omega))
            rw [ptS_in Hok.out Hok2.out k] at Hcl
            clear hwr hk1 hk2
            generalize ptS l k = x at *
            generalize ptS (⟨xk, xt, xf⟩ :: l) k = y at *
            go_wp2
            go_quiet ((go_at_call 29; exact Calls.quiet_of_same (Hcl.out _)))
            go_wp2
            go_roundw
            case rel => exact ⟨k + 1, by omega, by go_num, nq2 + nq, by rw [Hwr.out, World.drewN_drewN]⟩
            case measure => simp [intOf]; omega
          · go_wp2
            go_ret
            exact ⟨rfl, below_dN HB9.out nq2⟩
      · have q1 : (ptErr m (⟨xk, xt, xf⟩ :: l) [] != 0) = true := by rw [bne_iff_ne]; exact h2
        clear h2
        generalize ptErr m (⟨xk, xt, xf⟩ :: l) [] = E at *
        go_wp2_with (go_at_call 27; refine HC.out.mono ?_; rintro e w9 ⟨rfl, hB9⟩; have HB9 := Lib.hid hB9; clear hB9)
        go_ret
        exact ⟨ret_bool (by simp), Hw.out.trans (HB9.out.mono hwc)⟩
    · have q1 : (ptErr n l [] != 0) = true := by rw [bne_iff_ne]; exact h0
      clear h0
      go_wp2_with (go_at_call 27; refine HC.out.mono ?_; rintro e w9 ⟨rfl, hB9⟩; have HB9 := Lib.hid hB9; clear hB9)
      go_ret
      exact ⟨rfl, Hw.out.trans (HB9.out.mono hwc)⟩
end Go.Proofs.Ytdkkmmljaijomaa
