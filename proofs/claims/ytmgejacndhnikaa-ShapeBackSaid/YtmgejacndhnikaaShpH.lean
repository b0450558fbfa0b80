/- (*flat).put walked (written by shph.py out of shph.txt). -/
import Derived.Test.YtmgejacndhnikaaShpG
namespace Go.Proofs.Ytmgejacndhnikaa
set_option maxRecDepth 100000
open Go.RowKit

theorem FS.app {w0 w : World} {T g cap : Nat} {raws : List RB} {l : List Blk} (h : FS w0 w T g cap raws l) (hl : l.length ≤ 1000) (t a e : Int) (S c : Nat)
    (hnew : w.heap[S]? = some (.cells #[.slice none 0 0, .int .i64 t, .int .i64 a, .int .i64 e] 85 (0, 0))) :
    ∃ g' cap' w', (Builtin.append_ #[22, 22] 22 #[.slice (some ⟨g, 0, none⟩) l.length cap, .slice (some ⟨S, 0, none⟩) 1 c]).run Try.prog w = .ok (.slice (some ⟨g', 0, none⟩) (l.length + 1) cap') w' ∧ w.grownBy w' (some g) ∧ w'.cell? ⟨T, 0, none⟩ = some (.slice (some ⟨g, 0, none⟩) l.length cap) ∧ w'.frozen? ⟨T, 0, none⟩ = false ∧ T < w'.heap.size ∧
      ∃ raws', FS w0 (w'.setCell ⟨T, 0, none⟩ (.slice (some ⟨g', 0, none⟩) (l.length + 1) cap')) T g' cap' raws' (l ++ [⟨[], t, a, e⟩]) ∧ FrS w (w'.setCell ⟨T, 0, none⟩ (.slice (some ⟨g', 0, none⟩) (l.length + 1) cap')) := by
  obtain ⟨v', w', hr, hO, hg, _⟩ := run_app1 (P := Try.prog) (w := w) 22 22 RB.cells 4 48 85 (.agg #[.slice none 0 0, .int .i64 0, .int .i64 0, .int .i64 0]) Try.underlying22 infoBlk rfl (by decide) rbCells_len rbCells_one w0.heap.size _ raws ⟨.slice none 0 0, t, a, e, rfl⟩ h.own S c (by
    intro j hj
    rw [cell_h hnew j]
    match j, hj with
    | 0, _ => rfl
    | 1, _ => rfl
    | 2, _ => rfl
    | 3, _ => rfl) (by rw [h.len]; unfold maxLen; omega) (by rw [h.len]; omega) h.bel.size
  have htc' := (hg.block T (lt_h h.tc) (fun e => h.gT (by have e : some T = some g := e; injection e))).trans h.tc
  obtain ⟨g', cap', e1, hF⟩ := h.put ⟨[], t, a, e⟩ rfl hO hg
  subst e1
  exact ⟨g', cap', w', hr, hg, cell_h htc' 0, fz_h htc' 0, lt_h htc', _, hF, ((FrS.refl w).grown h.own (by decide) hg).set (p := ⟨T, 0, none⟩) htc' (by decide)⟩
def PutE (w0 : World) (T : Nat) (l : List Blk) (b : Blk) (w : World) (e : Ending) (w' : World) : Prop :=
  e = .returned (.int .i64 (l.length : Nat)) ∧ ∃ g cap raws, FS w0 w' T g cap raws (l ++ [b]) ∧ FrS w w'
set_option maxHeartbeats 4000000 in
theorem fput_calls {w0 w : World} {T g cap : Nat} {raws : List RB} {l : List Blk} (h : FS w0 w T g cap raws l) (hl : l.length ≤ 1000) (t a e : Int) :
    Calls Try.prog 113 #[.pointer (some ⟨T, 0, none⟩), .agg #[.slice none 0 0, .int .i64 t, .int .i64 a, .int .i64 e]] w (PutE w0 T l ⟨[], t, a, e⟩ w) := by
  have h1 := (h.alloc (.cells #[.slice none 0 0, .int .i64 t, .int .i64 a, .int .i64 e] 85)).drew
  obtain ⟨w1, hw1⟩ : ∃ w1, w1 = w.alloc (.cells #[.slice none 0 0, .int .i64 t, .int .i64 a, .int .i64 e] 85) := ⟨_, rfl⟩
  obtain ⟨S, hS⟩ : ∃ S, S = w.heap.size := ⟨_, rfl⟩
  have hN1 : w1.drew.heap[S]? = some (.cells #[.slice none 0 0, .int .i64 t, .int .i64 a, .int .i64 e] 85 (0, 0)) := by rw [hw1, hS]; exact heap_alloc_new w _
  have hF1 : FrS w w1.drew := by rw [hw1]; exact ((FrS.refl w).alloc _).drew
  have HSg : Hid (g ≠ S ∧ T ≠ S) := Lib.hid (by have := h.glo.2; have := lt_h h.tc; omega)
  rw [← hw1] at h1
  have h2 := h1.alloc (.cells #[.slice none 0 0, .int .i64 t, .int .i64 a, .int .i64 e] 85)
  have hN2 := heap_alloc_new w1.drew (.cells #[.slice none 0 0, .int .i64 t, .int .i64 a, .int .i64 e] 85)
  have hN3 := (Below.heap_alloc w1.drew (.cells #[.slice none 0 0, .int .i64 t, .int .i64 a, .int .i64 e] 85) S (lt_h hN1)).trans hN1
  have hF2 : FrS w (w1.drew.alloc (.cells #[.slice none 0 0, .int .i64 t, .int .i64 a, .int .i64 e] 85)) := hF1.alloc _
  obtain ⟨w2, hw2⟩ : ∃ w2, w2 = w1.drew.alloc (.cells #[.slice none 0 0, .int .i64 t, .int .i64 a, .int .i64 e] 85) := ⟨_, rfl⟩
  rw [← hw2] at h2 hN2 hN3 hF2
  obtain ⟨g7, c7, w6, hrun, hg6, cT6, fT6, hT6, r7, h7, hF7⟩ := h2.app hl t a e w1.heap.size 1 hN2
  have HKs : Hid (∀ w' : World, w'.heap[S]? = some (.cells #[.slice none 0 0, .int .i64 t, .int .i64 a, .int .i64 e] 85 (0, 0)) → w'.cell? ⟨S, 0, none⟩ = some (.slice none 0 0) ∧ w'.cell? ⟨S, 1, none⟩ = some (.int .i64 t) ∧ w'.cell? ⟨S, 2, none⟩ = some (.int .i64 a) ∧ w'.cell? ⟨S, 3, none⟩ = some (.int .i64 e)) := Lib.hid (fun w' hN => ⟨cell_h hN 0, cell_h hN 1, cell_h hN 2, cell_h hN 3⟩)
  have hN6 := (hg6.block S (lt_h hN3) (fun e => HSg.out.1 (by have e : some S = some g := e; injection e with e; exact e.symm))).trans hN3
  have HK1 := Lib.hid (HKs.out _ hN1)
  have HK2 := Lib.hid (HKs.out _ hN3)
  have HK6 := Lib.hid (HKs.out _ hN6)
  have HK7 := Lib.hid (HKs.out _ ((Below.heap_setCell w6 ⟨T, 0, none⟩ (.slice (some ⟨g7, 0, none⟩) (l.length + 1) c7) S (fun e => HSg.out.2 e.symm)).trans hN6))
  have cT1 : w1.cell? ⟨T, 0, none⟩ = some (.slice (some ⟨g, 0, none⟩) l.length cap) := h1.tcell
  have cT2 := h2.tcell
  have HS7 := Lib.hid h7
  have HF7 := Lib.hid (hF2.trans hF7)
  have Hrun := Lib.hid hrun
  have HW2 : Hid ((w1.alloc (.cells #[.slice none 0 0, .int .i64 t, .int .i64 a, .int .i64 e] 85)).drew = w2) := Lib.hid hw2.symm
  have Hn1 : Hid ((l ++ [(⟨[], t, a, e⟩ : Blk)]).length = l.length + 1) := Lib.hid (by rw [List.length_append]; rfl)
  have u1 : IntKind.i64.wrap (((l.length : Nat) : Int) + 1 - 1) = ((l.length : Nat) : Int) := by rw [IntWalk.i64_in _ (by omega)]; omega
  clear h h1 h2 hN1 hN2 hN3 hF1 hF2 hg6 h7 hF7 hrun hN6 hw2 HSg
  unfold PutE
  generalize l.length = n at *
  go_enter Try.func113, Try.ntmps113
  go_wp2
  rw [← hS, ← hw1]
  clear hS hw1
  refine wp_region_held_drew (S := fun w' => w'.cell? ⟨S, 0, none⟩ = some (.slice none 0 0) ∧ w'.cell? ⟨S, 1, none⟩ = some (.int .i64 t) ∧ w'.cell? ⟨S, 2, none⟩ = some (.int .i64 a) ∧ w'.cell? ⟨S, 3, none⟩ = some (.int .i64 e)) (by kernel_rfl) HK1.out (fun hH0 => ?_)
  refine wpAnyH_take (i := 0) (oi := { dst := some 5, op := Go.Op.move (Go.Operand.tmp 0), type := 140, pos := "shape.go:135", after := #[], guard := none }) rfl (by kernel_rfl) (by kernel_rfl) (by kernel_rfl) (fun _ _ _ h => h) (Or.inl ⟨by rfl, fun w hw => by (go_simp; try with_reducible rfl)⟩) (by assumption) ?_
  try simp only [Act.put, List.setIfInBounds_toArray, List.set_cons_zero, List.set_cons_succ]
  refine wpAnyH_take (i := 1) (oi := { dst := some 6, op := Go.Op.move (Go.Operand.tmp 0), type := 140, pos := "shape.go:135", after := #[], guard := none }) rfl (by kernel_rfl) (by kernel_rfl) (by kernel_rfl) (fun _ _ _ h => h) (Or.inl ⟨by rfl, fun w hw => by (go_simp; try with_reducible rfl)⟩) (by assumption) ?_
  try simp only [Act.put, List.setIfInBounds_toArray, List.set_cons_zero, List.set_cons_succ]
  refine wpAnyH_take (i := 2) (oi := { dst := some 7, op := Go.Op.nilCheck (Go.Operand.tmp 6), type := 0, pos := "shape.go:135", after := #[{ on := 1, ground := Go.Ground.data }], guard := none }) rfl (by kernel_rfl) (by kernel_rfl) (by kernel_rfl) (fun _ _ _ h => h) (Or.inl ⟨by rfl, fun w hw => by (go_simp; try with_reducible rfl)⟩) (by assumption) ?_
  try simp only [Act.put, List.setIfInBounds_toArray, List.set_cons_zero, List.set_cons_succ]
  refine wpAnyH_take (i := 3) (oi := { dst := some 8, op := Go.Op.fieldAddr 142 (Go.Operand.tmp 7) 0, type := 0, pos := "shape.go:135", after := #[{ on := 2, ground := Go.Ground.data }], guard := none }) rfl (by kernel_rfl) (by kernel_rfl) (by kernel_rfl) (fun _ _ _ h => h) (Or.inl ⟨by rfl, fun w hw => by (go_simp; try with_reducible rfl)⟩) (by assumption) ?_
  try simp only [Act.put, List.setIfInBounds_toArray, List.set_cons_zero, List.set_cons_succ]
  refine wpAnyH_take (i := 5) (oi := { dst := some 10, op := Go.Op.load 85 (Go.Operand.tmp 3), type := 85, pos := "shape.go:135", after := #[], guard := none }) rfl (by kernel_rfl) (by kernel_rfl) (by kernel_rfl) (fun _ _ _ h => h) (Or.inl ⟨by rfl, fun w hw => by (obtain ⟨p0, p1, p2, p3⟩ := hw; go_simp; try with_reducible rfl)⟩) (by assumption) ?_
  try simp only [Act.put, List.setIfInBounds_toArray, List.set_cons_zero, List.set_cons_succ]
  refine wpAnyH_ready (rs := [4, 6]) (by kernel_rfl) (by simp) ?_
  refine AllReadyH.cons (o := { dst := some 9, op := Go.Op.load 22 (Go.Operand.tmp 8), type := 22, pos := "shape.go:135", after := #[{ on := 3, ground := Go.Ground.data }], guard := none }) rfl (fun K hK => ?_) ?_
  · have c9 := cT1
    go_simp
    clear c9
    refine hK.out _ _ hH0 (fun hH1 => ?_)
    clear hK hH0
    have hH0 := hH1
    clear hH1
    try simp only [Act.put, List.setIfInBounds_toArray, List.set_cons_zero, List.set_cons_succ]
    refine wpAnyH_ready (rs := [6]) (by kernel_rfl) (by simp) ?_
    refine AllReadyH.cons (o := { dst := some 11, op := Go.Op.buildSlice 22 1 #[(0, Go.Operand.tmp 10)], type := 22, pos := "shape.go:135", after := #[{ on := 5, ground := Go.Ground.data }], guard := none }) rfl (fun K hK => ?_) AllReadyH.nil
    go_simp
    rw [HW2.out]
    refine hK.out _ _ HK2.out (fun hH1 => ?_)
    clear hK hH0
    have hH0 := hH1
    clear hH1
    try simp only [Act.put, List.setIfInBounds_toArray, List.set_cons_zero, List.set_cons_succ]
    refine wpAnyH_ready (rs := [7]) (by kernel_rfl) (by simp) ?_
    refine AllReadyH.cons (o := { dst := some 12, op := Go.Op.call { callee := Go.Callee.builtin Go.Builtin.append, args := #[Go.Operand.tmp 9, Go.Operand.tmp 11], argTypes := #[22, 22] }, type := 22, pos := "shape.go:135", after := #[{ on := 4, ground := Go.Ground.data }, { on := 6, ground := Go.Ground.data }], guard := none }) rfl (fun K hK => ?_) AllReadyH.nil
    rw [if_pos (by rfl)]
    refine wp_app_run 22 _ _ rfl rfl rfl Hrun.out ?_
    refine hK.out _ _ HK6.out (fun hH1 => ?_)
    clear hK hH0
    have hH0 := hH1
    clear hH1
    try simp only [Act.put, List.setIfInBounds_toArray, List.set_cons_zero, List.set_cons_succ]
    refine wpAnyH_take (i := 8) (oi := { dst := some 13, op := Go.Op.nilCheck (Go.Operand.tmp 5), type := 0, pos := "shape.go:135", after := #[{ on := 0, ground := Go.Ground.data }, { on := 0, ground := Go.Ground.phase }, { on := 1, ground := Go.Ground.phase }, { on := 2, ground := Go.Ground.phase }, { on := 3, ground := Go.Ground.phase }, { on := 4, ground := Go.Ground.phase }, { on := 5, ground := Go.Ground.phase }, { on := 6, ground := Go.Ground.phase }, { on := 7, ground := Go.Ground.phase }], guard := none }) rfl (by kernel_rfl) (by kernel_rfl) (by kernel_rfl) (fun _ _ _ h => h) (Or.inl ⟨by rfl, fun w hw => by (go_simp; try with_reducible rfl)⟩) (by assumption) ?_
    try simp only [Act.put, List.setIfInBounds_toArray, List.set_cons_zero, List.set_cons_succ]
    refine wpAnyH_take (i := 9) (oi := { dst := some 14, op := Go.Op.fieldAddr 142 (Go.Operand.tmp 13) 0, type := 0, pos := "shape.go:135", after := #[{ on := 8, ground := Go.Ground.data }, { on := 0, ground := Go.Ground.phase }, { on := 1, ground := Go.Ground.phase }, { on := 2, ground := Go.Ground.phase }, { on := 3, ground := Go.Ground.phase }, { on := 4, ground := Go.Ground.phase }, { on := 5, ground := Go.Ground.phase }, { on := 6, ground := Go.Ground.phase }, { on := 7, ground := Go.Ground.phase }], guard := none }) rfl (by kernel_rfl) (by kernel_rfl) (by kernel_rfl) (fun _ _ _ h => h) (Or.inl ⟨by rfl, fun w hw => by (go_simp; try with_reducible rfl)⟩) (by assumption) ?_
    try simp only [Act.put, List.setIfInBounds_toArray, List.set_cons_zero, List.set_cons_succ]
    refine wpAnyH_ready (rs := [10]) (by kernel_rfl) (by simp) ?_
    refine AllReadyH.cons (o := { dst := none, op := Go.Op.store 22 (Go.Operand.tmp 14) (Go.Operand.tmp 12), type := 0, pos := "shape.go:135", after := #[{ on := 9, ground := Go.Ground.data }, { on := 7, ground := Go.Ground.data }, { on := 7, ground := Go.Ground.chain }, { on := 0, ground := Go.Ground.phase }, { on := 1, ground := Go.Ground.phase }, { on := 2, ground := Go.Ground.phase }, { on := 3, ground := Go.Ground.phase }, { on := 4, ground := Go.Ground.phase }, { on := 5, ground := Go.Ground.phase }, { on := 6, ground := Go.Ground.phase }, { on := 7, ground := Go.Ground.phase }], guard := none }) rfl (fun K hK => ?_) AllReadyH.nil
    have c9 := cT6
    have f9 := fT6
    go_simp
    clear c9 f9
    refine hK.out _ _ HK7.out (fun hH1 => ?_)
    clear hK hH0 hH1
    try simp only [Act.put, List.setIfInBounds_toArray, List.set_cons_zero, List.set_cons_succ]
    refine wpAnyH_done (by kernel_rfl) ?_ _
    have cT7 := HS7.out.tcell
    rw [Hn1.out] at cT7
    go_wp2
    go_ret
    exact ⟨rfl, _, _, _, HS7.out, HF7.out⟩
  refine AllReadyH.cons (o := { dst := some 11, op := Go.Op.buildSlice 22 1 #[(0, Go.Operand.tmp 10)], type := 22, pos := "shape.go:135", after := #[{ on := 5, ground := Go.Ground.data }], guard := none }) rfl (fun K hK => ?_) AllReadyH.nil
  go_simp
  rw [HW2.out]
  refine hK.out _ _ HK2.out (fun hH1 => ?_)
  clear hK hH0
  have hH0 := hH1
  clear hH1
  try simp only [Act.put, List.setIfInBounds_toArray, List.set_cons_zero, List.set_cons_succ]
  refine wpAnyH_ready (rs := [4]) (by kernel_rfl) (by simp) ?_
  refine AllReadyH.cons (o := { dst := some 9, op := Go.Op.load 22 (Go.Operand.tmp 8), type := 22, pos := "shape.go:135", after := #[{ on := 3, ground := Go.Ground.data }], guard := none }) rfl (fun K hK => ?_) AllReadyH.nil
  have c9 := cT2
  go_simp
  clear c9
  refine hK.out _ _ hH0 (fun hH1 => ?_)
  clear hK hH0
  have hH0 := hH1
  clear hH1
  try simp only [Act.put, List.setIfInBounds_toArray, List.set_cons_zero, List.set_cons_succ]
  refine wpAnyH_ready (rs := [7]) (by kernel_rfl) (by simp) ?_
  refine AllReadyH.cons (o := { dst := some 12, op := Go.Op.call { callee := Go.Callee.builtin Go.Builtin.append, args := #[Go.Operand.tmp 9, Go.Operand.tmp 11], argTypes := #[22, 22] }, type := 22, pos := "shape.go:135", after := #[{ on := 4, ground := Go.Ground.data }, { on := 6, ground := Go.Ground.data }], guard := none }) rfl (fun K hK => ?_) AllReadyH.nil
  rw [if_pos (by rfl)]
  refine wp_app_run 22 _ _ rfl rfl rfl Hrun.out ?_
  refine hK.out _ _ HK6.out (fun hH1 => ?_)
  clear hK hH0
  have hH0 := hH1
  clear hH1
  try simp only [Act.put, List.setIfInBounds_toArray, List.set_cons_zero, List.set_cons_succ]
  refine wpAnyH_take (i := 8) (oi := { dst := some 13, op := Go.Op.nilCheck (Go.Operand.tmp 5), type := 0, pos := "shape.go:135", after := #[{ on := 0, ground := Go.Ground.data }, { on := 0, ground := Go.Ground.phase }, { on := 1, ground := Go.Ground.phase }, { on := 2, ground := Go.Ground.phase }, { on := 3, ground := Go.Ground.phase }, { on := 4, ground := Go.Ground.phase }, { on := 5, ground := Go.Ground.phase }, { on := 6, ground := Go.Ground.phase }, { on := 7, ground := Go.Ground.phase }], guard := none }) rfl (by kernel_rfl) (by kernel_rfl) (by kernel_rfl) (fun _ _ _ h => h) (Or.inl ⟨by rfl, fun w hw => by (go_simp; try with_reducible rfl)⟩) (by assumption) ?_
  try simp only [Act.put, List.setIfInBounds_toArray, List.set_cons_zero, List.set_cons_succ]
  refine wpAnyH_take (i := 9) (oi := { dst := some 14, op := Go.Op.fieldAddr 142 (Go.Operand.tmp 13) 0, type := 0, pos := "shape.go:135", after := #[{ on := 8, ground := Go.Ground.data }, { on := 0, ground := Go.Ground.phase }, { on := 1, ground := Go.Ground.phase }, { on := 2, ground := Go.Ground.phase }, { on := 3, ground := Go.Ground.phase }, { on := 4, ground := Go.Ground.phase }, { on := 5, ground := Go.Ground.phase }, { on := 6, ground := Go.Ground.phase }, { on := 7, ground := Go.Ground.phase }], guard := none }) rfl (by kernel_rfl) (by kernel_rfl) (by kernel_rfl) (fun _ _ _ h => h) (Or.inl ⟨by rfl, fun w hw => by (go_simp; try with_reducible rfl)⟩) (by assumption) ?_
  try simp only [Act.put, List.setIfInBounds_toArray, List.set_cons_zero, List.set_cons_succ]
  refine wpAnyH_ready (rs := [10]) (by kernel_rfl) (by simp) ?_
  refine AllReadyH.cons (o := { dst := none, op := Go.Op.store 22 (Go.Operand.tmp 14) (Go.Operand.tmp 12), type := 0, pos := "shape.go:135", after := #[{ on := 9, ground := Go.Ground.data }, { on := 7, ground := Go.Ground.data }, { on := 7, ground := Go.Ground.chain }, { on := 0, ground := Go.Ground.phase }, { on := 1, ground := Go.Ground.phase }, { on := 2, ground := Go.Ground.phase }, { on := 3, ground := Go.Ground.phase }, { on := 4, ground := Go.Ground.phase }, { on := 5, ground := Go.Ground.phase }, { on := 6, ground := Go.Ground.phase }, { on := 7, ground := Go.Ground.phase }], guard := none }) rfl (fun K hK => ?_) AllReadyH.nil
  have c9 := cT6
  have f9 := fT6
  go_simp
  clear c9 f9
  refine hK.out _ _ HK7.out (fun hH1 => ?_)
  clear hK hH0 hH1
  try simp only [Act.put, List.setIfInBounds_toArray, List.set_cons_zero, List.set_cons_succ]
  refine wpAnyH_done (by kernel_rfl) ?_ _
  have cT7 := HS7.out.tcell
  rw [Hn1.out] at cT7
  go_wp2
  go_ret
  exact ⟨rfl, _, _, _, HS7.out, HF7.out⟩
end Go.Proofs.Ytmgejacndhnikaa
