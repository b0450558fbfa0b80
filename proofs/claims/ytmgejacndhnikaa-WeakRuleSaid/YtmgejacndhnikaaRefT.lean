/- codemasonref.Term: what a list of terms stands for. -/
import Derived.Test.YtmgejacndhnikaaTermB
import Derived.Test.YtmgejacndhnikaaAppRun
import Derived.StillTailTactics
import Derived.Deep.RegionHeld3
namespace Go.Proofs.Ytmgejacndhnikaa
open Go.RowKit

/-- The row when k values are in. -/
def vIn (hv : List Int) (l : List Term) (k : Nat) : List Int := valsTo hv l k ++ List.replicate (l.length - k) 0
theorem vIn_len (hv : List Int) {l : List Term} {k : Nat} (hk : k ≤ l.length) : (vIn hv l k).length = l.length := by
  unfold vIn
  rw [List.length_append, valsTo_len hv hk, List.length_replicate]; omega
theorem vIn_get (hv : List Int) {l : List Term} {k i : Nat} (hk : k ≤ l.length) (hi : i < k) (h : i < (vIn hv l k).length) : (vIn hv l k)[i] = (valsTo hv l k).getD i 0 := by
  have e : (vIn hv l k)[i]? = (valsTo hv l k)[i]? := List.getElem?_append_left (by rw [valsTo_len hv hk]; exact hi)
  rw [List.getElem?_eq_getElem h, List.getElem?_eq_getElem (by rw [valsTo_len hv hk]; exact hi)] at e
  injection e with e
  rw [e, getD_get (by rw [valsTo_len hv hk]; exact hi)]
theorem vIn_step (hv : List Int) {l : List Term} {k : Nat} (hk : k < l.length) : (vIn hv l k).set k (val1 hv (valsTo hv l k) l[k]) = vIn hv l (k + 1) := by
  unfold vIn
  rw [List.set_append_right _ _ (by rw [valsTo_len hv (by omega)]; omega), valsTo_len hv (by omega), Nat.sub_self, valsTo_succ hv hk]
  rw [show l.length - k = (l.length - (k + 1)) + 1 by omega, List.replicate_succ, List.set_cons_zero, List.append_assoc]; rfl
theorem vIn_zero (hv : List Int) (l : List Term) : vIn hv l 0 = List.replicate l.length 0 := rfl

set_option maxHeartbeats 8000000 in
theorem refTerm_calls (vars : Int) (A B : Option Addr) (l : List Term) (hv : List Int) (capA capB : Nat) (w : World) (hA : RdT w A l) (hB : RdI w B hv) (hl1 : 1 ≤ l.length) (hl16 : l.length ≤ 64) (_hv6 : vars ≤ 6) (hok : ∀ k (h : k < l.length), TOk vars k l[k]) (h1 : haveErr vars hv = 0) :
    Calls Try.prog 27 #[.slice A l.length capA, .slice B hv.length capB] w fun e w' => e = .returned (.int .i64 (tVal hv l)) ∧ Below w.heap.size w w' := by
  obtain ⟨hhl, hhb⟩ := haveErr_ok h1
  have Hbd := Lib.hid (valsTo_bd hok hhb)
  have Hok := Lib.hid hok
  have HA := Lib.hid hA
  have HB := Lib.hid hB
  have hhl1 : (hv.length : Int) ≤ vars := by omega
  have hhl2 : vars ≤ (hv.length : Int) := by omega
  clear hA hB h1 hok hhl hhb
  go_enter Try.func27, Try.ntmps27
  go_wp2_with (at_make; refine wpList_makeI rfl _ _ rfl w.heap.size l.length rfl rfl (by omega) (Nat.le_refl _) ?_; intro w1 hown1 hgrow1)
  have HB1 := Lib.hid ((Below.refl w.heap.size w).grown hgrow1 (Nat.le_refl _) (fun k hk => by cases hk))
  have Hown1 := Lib.hid hown1
  clear hown1 hgrow1
  go_loopw [13] (fun i wr => ∃ k : Nat, k ≤ l.length ∧ i = .int .i64 k ∧ OwnI wr w.heap.size 3 (.slice (some ⟨w.heap.size, 0, none⟩) l.length l.length) (vIn hv l k) ∧ Below w.heap.size w wr) (fun i _ => l.length - (intOf i).toNat)
  case atStart => exact ⟨0, Nat.zero_le _, rfl, Hown1.out, HB1.out⟩
  case round =>
    clear HB1 Hown1
    obtain ⟨k, hk, rfl, hown, hW⟩ := hrel
    have hw1 := hW.size
    have Hown := Lib.hid hown
    have HW := Lib.hid hW
    have Hvl := Lib.hid (vIn_len hv hk)
    by_cases hlt : k < l.length
    · obtain ⟨b, off, rfl, hb, c0, c1, c2, c3⟩ := RdT.at4 (Rd.below HA.out hW) hlt
      have Hst := Lib.hid (vIn_step hv hlt)
      have hto := Hok.out k hlt
      have Hbdk := Lib.hid (Hbd.out k hk)
      have Hg := Lib.hid (fun i (hi : i < k) h => vIn_get hv hk hi h)
      obtain ⟨g, eg, _, hgl, _, hfz, hcell⟩ := OwnI.at2 hown (by rw [Hvl.out]; omega)
      injection eg with eg; injection eg with eg
      subst eg
      have f1 := hfz k
      have d0 := hcell k (by rw [Hvl.out]; omega)
      have Hcell := Lib.hid hcell
      have Hl := Lib.hid (valsTo_len hv hk)
      generalize vIn hv l k = vs at *
      generalize valsTo hv l k = vv at *
      generalize l[k] = t at *
      obtain ⟨op, ta, tb, tv⟩ := t
      dsimp only at c0 c1 c2 c3
      obtain ⟨ho1, ho6, hon, hov, hob⟩ := hto
      dsimp only at ho1 ho6 hon hov hob
      clear hfz hcell hown hW
      have q0 : ((k : Nat) : Int) < ((l.length : Nat) : Int) := by omega
      generalize vs[k]'(by rw [Hvl.out]; omega) = old at *
      have Hset := Lib.hid (fun y => Own.alloc (OwnI.set_ Hown.out (k := k) (by rw [Hvl.out]; omega) y) (.cells #[.int .i64 op, .int .i64 ta, .int .i64 tb, .int .i64 tv] 62))
      rcases (show op = 1 ∨ op = 2 ∨ (3 ≤ op ∧ op ≤ 6) by omega) with rfl | rfl | ⟨h3, h6⟩
      · have hx : val1 hv vv ⟨1, ta, tb, tv⟩ = tv := by simp [val1]
        rw [hx] at Hst
        clear hx
        go_wp2
        go_roundw
        case rel => exact ⟨k + 1, by omega, by go_num, by rw [← Hst.out]; exact Hset.out tv, (HW.out.setCell (Nat.le_refl _) _).alloc (by simp [World.setCell]; omega) _⟩
        case measure => simp [intOf]; omega
      · obtain ⟨hv1, hv2⟩ := hov rfl
        obtain ⟨n, rfl⟩ := Int.eq_ofNat_of_zero_le hv1
        have hnl : n < hv.length := by omega
        obtain ⟨b2, off2, rfl, hb2, e0⟩ := RdI.at1 (Rd.below HB.out HW.out) hnl
        have hx : val1 hv vv ⟨2, ta, tb, n⟩ = hv[n] := by unfold val1; dsimp only; rw [if_neg (by decide), if_pos rfl, Int.toNat_natCast, getD_get hnl]
        rw [hx] at Hst
        generalize hv[n] = x at *
        clear hx
        go_wp2
        go_roundw
        case rel => exact ⟨k + 1, by omega, by go_num, by rw [← Hst.out]; exact Hset.out x, (HW.out.setCell (Nat.le_refl _) _).alloc (by simp [World.setCell]; omega) _⟩
        case measure => simp [intOf]; omega
      · obtain ⟨ha0, ha1, hb0, hb1⟩ := hob h3
        obtain ⟨na, rfl⟩ := Int.eq_ofNat_of_zero_le ha0
        obtain ⟨nb, rfl⟩ := Int.eq_ofNat_of_zero_le hb0
        have hvl := Hvl.out
        have d1 := Hcell.out na (by omega)
        have d2 := Hcell.out nb (by omega)
        rw [Hg.out na (by omega) (by omega)] at d1
        rw [Hg.out nb (by omega) (by omega)] at d2
        have hx : val1 hv vv ⟨op, na, nb, tv⟩ = doF op (vv.getD na 0) (vv.getD nb 0) := by
          unfold val1
          dsimp only
          rw [if_neg (by omega), if_neg (by omega), Int.toNat_natCast, Int.toNat_natCast]
        rw [hx] at Hst
        have bd1 := getD_mem_bd Hbdk.out na
        have bd2 := getD_mem_bd Hbdk.out nb
        generalize vv.getD na 0 = x at *
        generalize vv.getD nb 0 = y at *
        have Hcl := Lib.hid (fun w => op_calls op x y w ⟨h3, h6⟩ bd1 bd2)
        generalize doF op x y = z at *
        have q3 : ((na : Nat) : Int) < ((l.length : Nat) : Int) := by omega
        have q4 : ((nb : Nat) : Int) < ((l.length : Nat) : Int) := by omega
        have hcl2 : w.heap.size < wr.heap.size := hgl
        clear hx hvl
        go_wp2
        have Hwo := Lib.hid (Own.alloc Hown.out (.cells #[.int .i64 op, .int .i64 na, .int .i64 nb, .int .i64 tv] 62)).drew
        have HWb := Lib.hid (HW.out.alloc hw1 (.cells #[.int .i64 op, .int .i64 na, .int .i64 nb, .int .i64 tv] 62)).drew
        have Hkeep : Hid (∀ (w' : World) (v : Value), (fun w' => w'.cell? ⟨wr.heap.size, 0, none⟩ = some (.int .i64 op) ∧ w'.cell? ⟨wr.heap.size, 1, none⟩ = some (.int .i64 na) ∧ w'.cell? ⟨wr.heap.size, 2, none⟩ = some (.int .i64 nb) ∧ w'.cell? ⟨w.heap.size, na, none⟩ = some (.int .i64 x) ∧ w'.cell? ⟨w.heap.size, nb, none⟩ = some (.int .i64 y)) w' → (fun w' => w'.cell? ⟨wr.heap.size, 0, none⟩ = some (.int .i64 op) ∧ w'.cell? ⟨wr.heap.size, 1, none⟩ = some (.int .i64 na) ∧ w'.cell? ⟨wr.heap.size, 2, none⟩ = some (.int .i64 nb) ∧ w'.cell? ⟨w.heap.size, na, none⟩ = some (.int .i64 x) ∧ w'.cell? ⟨w.heap.size, nb, none⟩ = some (.int .i64 y)) (w'.setCell ⟨w.heap.size, k, none⟩ v)) := Lib.hid fun w' v hw => by
          obtain ⟨p0, p1, p2, p3, p4⟩ := hw
          refine ⟨?_, ?_, ?_, ?_, ?_⟩
          · rw [World.cell?_setCell_far _ _ _ _ (by show w.heap.size ≠ wr.heap.size; omega)]; exact p0
          · rw [World.cell?_setCell_far _ _ _ _ (by show w.heap.size ≠ wr.heap.size; omega)]; exact p1
          · rw [World.cell?_setCell_far _ _ _ _ (by show w.heap.size ≠ wr.heap.size; omega)]; exact p2
          · rw [World.cell?_setCell_other _ _ _ _ (fun e => by injection e with _ e; omega)]; exact p3
          · rw [World.cell?_setCell_other _ _ _ _ (fun e => by injection e with _ e; omega)]; exact p4
        refine wp_region_held_drew (S := fun w' => w'.cell? ⟨wr.heap.size, 0, none⟩ = some (.int .i64 op) ∧ w'.cell? ⟨wr.heap.size, 1, none⟩ = some (.int .i64 na) ∧ w'.cell? ⟨wr.heap.size, 2, none⟩ = some (.int .i64 nb) ∧ w'.cell? ⟨w.heap.size, na, none⟩ = some (.int .i64 x) ∧ w'.cell? ⟨w.heap.size, nb, none⟩ = some (.int .i64 y)) (by kernel_rfl) ⟨cell_new wr _ _ wr.heap.size rfl 0, cell_new wr _ _ wr.heap.size rfl 1, cell_new wr _ _ wr.heap.size rfl 2, (cell_grown (World.grownBy_alloc wr _ none) _ na hgl (by simp)).trans d1, (cell_grown (World.grownBy_alloc wr _ none) _ nb hgl (by simp)).trans d2⟩ (fun hH0 => ?_)
        have Hf : Hid ((wr.alloc (.cells #[.int .i64 op, .int .i64 na, .int .i64 nb, .int .i64 tv] 62)).drew.frozen? ⟨w.heap.size, k, none⟩ = false) := Lib.hid (by rw [World.frozen?_drew, frozen?_alloc_cells]; exact f1)
        have d9 : (wr.alloc (.cells #[.int .i64 op, .int .i64 na, .int .i64 nb, .int .i64 tv] 62)).drew.cell? ⟨w.heap.size, k, none⟩ = some (.int .i64 old) := (cell_grown (World.grownBy_alloc wr _ none) _ k hgl (by simp)).trans d0
        generalize (wr.alloc (.cells #[.int .i64 op, .int .i64 na, .int .i64 nb, .int .i64 tv] 62)).drew = wd at *
        refine wpAnyH_take (i := 0) (oi := { dst := some 20, op := Go.Op.move (Go.Operand.tmp 5), type := 23, pos := "low.go:187", after := #[], guard := none }) rfl (by kernel_rfl) (by kernel_rfl) (by kernel_rfl) (fun _ _ _ h => h) (Or.inl ⟨by rfl, fun w hw => by (go_simp; try with_reducible rfl)⟩) (by assumption) ?_
        try simp only [Act.put, List.setIfInBounds_toArray, List.set_cons_zero, List.set_cons_succ]
        refine wpAnyH_take (i := 1) (oi := { dst := some 21, op := Go.Op.move (Go.Operand.tmp 6), type := 3, pos := "low.go:187", after := #[], guard := none }) rfl (by kernel_rfl) (by kernel_rfl) (by kernel_rfl) (fun _ _ _ h => h) (Or.inl ⟨by rfl, fun w hw => by (go_simp; try with_reducible rfl)⟩) (by assumption) ?_
        try simp only [Act.put, List.setIfInBounds_toArray, List.set_cons_zero, List.set_cons_succ]
        refine wpAnyH_take (i := 2) (oi := { dst := some 22, op := Go.Op.fieldAddr 62 (Go.Operand.tmp 7) 0, type := 0, pos := "low.go:187", after := #[], guard := none }) rfl (by kernel_rfl) (by kernel_rfl) (by kernel_rfl) (fun _ _ _ h => h) (Or.inl ⟨by rfl, fun w hw => by (go_simp; try with_reducible rfl)⟩) (by assumption) ?_
        try simp only [Act.put, List.setIfInBounds_toArray, List.set_cons_zero, List.set_cons_succ]
        refine wpAnyH_take (i := 3) (oi := { dst := some 23, op := Go.Op.load 3 (Go.Operand.tmp 22), type := 3, pos := "low.go:187", after := #[{ on := 2, ground := Go.Ground.data }], guard := none }) rfl (by kernel_rfl) (by kernel_rfl) (by kernel_rfl) (fun _ _ _ h => h) (Or.inl ⟨by rfl, fun w hw => by (obtain ⟨p0, p1, p2, p3, p4⟩ := hw; go_simp; try with_reducible rfl)⟩) (by assumption) ?_
        try simp only [Act.put, List.setIfInBounds_toArray, List.set_cons_zero, List.set_cons_succ]
        refine wpAnyH_take (i := 4) (oi := { dst := some 24, op := Go.Op.move (Go.Operand.tmp 5), type := 23, pos := "low.go:187", after := #[], guard := none }) rfl (by kernel_rfl) (by kernel_rfl) (by kernel_rfl) (fun _ _ _ h => h) (Or.inl ⟨by rfl, fun w hw => by (go_simp; try with_reducible rfl)⟩) (by assumption) ?_
        try simp only [Act.put, List.setIfInBounds_toArray, List.set_cons_zero, List.set_cons_succ]
        refine wpAnyH_take (i := 5) (oi := { dst := some 25, op := Go.Op.fieldAddr 62 (Go.Operand.tmp 7) 1, type := 0, pos := "low.go:187", after := #[], guard := none }) rfl (by kernel_rfl) (by kernel_rfl) (by kernel_rfl) (fun _ _ _ h => h) (Or.inl ⟨by rfl, fun w hw => by (go_simp; try with_reducible rfl)⟩) (by assumption) ?_
        try simp only [Act.put, List.setIfInBounds_toArray, List.set_cons_zero, List.set_cons_succ]
        refine wpAnyH_take (i := 6) (oi := { dst := some 26, op := Go.Op.load 3 (Go.Operand.tmp 25), type := 3, pos := "low.go:187", after := #[{ on := 5, ground := Go.Ground.data }], guard := none }) rfl (by kernel_rfl) (by kernel_rfl) (by kernel_rfl) (fun _ _ _ h => h) (Or.inl ⟨by rfl, fun w hw => by (obtain ⟨p0, p1, p2, p3, p4⟩ := hw; go_simp; try with_reducible rfl)⟩) (by assumption) ?_
        try simp only [Act.put, List.setIfInBounds_toArray, List.set_cons_zero, List.set_cons_succ]
        refine wpAnyH_take (i := 7) (oi := { dst := some 27, op := Go.Op.indexAddr 23 (Go.Operand.tmp 24) (Go.Operand.tmp 26), type := 0, pos := "low.go:187", after := #[{ on := 4, ground := Go.Ground.data }, { on := 6, ground := Go.Ground.data }], guard := none }) rfl (by kernel_rfl) (by kernel_rfl) (by kernel_rfl) (fun _ _ _ h => h) (Or.inl ⟨by rfl, fun w hw => by (go_simp; try with_reducible rfl)⟩) (by assumption) ?_
        try simp only [Act.put, List.setIfInBounds_toArray, List.set_cons_zero, List.set_cons_succ]
        refine wpAnyH_take (i := 8) (oi := { dst := some 28, op := Go.Op.load 3 (Go.Operand.tmp 27), type := 3, pos := "low.go:187", after := #[{ on := 7, ground := Go.Ground.data }], guard := none }) rfl (by kernel_rfl) (by kernel_rfl) (by kernel_rfl) (fun _ _ _ h => h) (Or.inl ⟨by rfl, fun w hw => by (obtain ⟨p0, p1, p2, p3, p4⟩ := hw; go_simp; try with_reducible rfl)⟩) (by assumption) ?_
        try simp only [Act.put, List.setIfInBounds_toArray, List.set_cons_zero, List.set_cons_succ]
        refine wpAnyH_take (i := 9) (oi := { dst := some 29, op := Go.Op.move (Go.Operand.tmp 5), type := 23, pos := "low.go:187", after := #[], guard := none }) rfl (by kernel_rfl) (by kernel_rfl) (by kernel_rfl) (fun _ _ _ h => h) (Or.inl ⟨by rfl, fun w hw => by (go_simp; try with_reducible rfl)⟩) (by assumption) ?_
        try simp only [Act.put, List.setIfInBounds_toArray, List.set_cons_zero, List.set_cons_succ]
        refine wpAnyH_take (i := 10) (oi := { dst := some 30, op := Go.Op.fieldAddr 62 (Go.Operand.tmp 7) 2, type := 0, pos := "low.go:187", after := #[], guard := none }) rfl (by kernel_rfl) (by kernel_rfl) (by kernel_rfl) (fun _ _ _ h => h) (Or.inl ⟨by rfl, fun w hw => by (go_simp; try with_reducible rfl)⟩) (by assumption) ?_
        try simp only [Act.put, List.setIfInBounds_toArray, List.set_cons_zero, List.set_cons_succ]
        refine wpAnyH_take (i := 11) (oi := { dst := some 31, op := Go.Op.load 3 (Go.Operand.tmp 30), type := 3, pos := "low.go:187", after := #[{ on := 10, ground := Go.Ground.data }], guard := none }) rfl (by kernel_rfl) (by kernel_rfl) (by kernel_rfl) (fun _ _ _ h => h) (Or.inl ⟨by rfl, fun w hw => by (obtain ⟨p0, p1, p2, p3, p4⟩ := hw; go_simp; try with_reducible rfl)⟩) (by assumption) ?_
        try simp only [Act.put, List.setIfInBounds_toArray, List.set_cons_zero, List.set_cons_succ]
        refine wpAnyH_take (i := 12) (oi := { dst := some 32, op := Go.Op.indexAddr 23 (Go.Operand.tmp 29) (Go.Operand.tmp 31), type := 0, pos := "low.go:187", after := #[{ on := 9, ground := Go.Ground.data }, { on := 11, ground := Go.Ground.data }], guard := none }) rfl (by kernel_rfl) (by kernel_rfl) (by kernel_rfl) (fun _ _ _ h => h) (Or.inl ⟨by rfl, fun w hw => by (go_simp; try with_reducible rfl)⟩) (by assumption) ?_
        try simp only [Act.put, List.setIfInBounds_toArray, List.set_cons_zero, List.set_cons_succ]
        refine wpAnyH_take (i := 13) (oi := { dst := some 33, op := Go.Op.load 3 (Go.Operand.tmp 32), type := 3, pos := "low.go:187", after := #[{ on := 12, ground := Go.Ground.data }], guard := none }) rfl (by kernel_rfl) (by kernel_rfl) (by kernel_rfl) (fun _ _ _ h => h) (Or.inl ⟨by rfl, fun w hw => by (obtain ⟨p0, p1, p2, p3, p4⟩ := hw; go_simp; try with_reducible rfl)⟩) (by assumption) ?_
        try simp only [Act.put, List.setIfInBounds_toArray, List.set_cons_zero, List.set_cons_succ]
        refine wpAnyH_ready (rs := [14]) (by kernel_rfl) (by simp) ?_
        refine AllReadyH.cons (o := { dst := some 34, op := Go.Op.call { callee := Go.Callee.value (Go.Operand.func 74), args := #[Go.Operand.tmp 23, Go.Operand.tmp 28, Go.Operand.tmp 33], argTypes := #[3, 3, 3] }, type := 3, pos := "low.go:187", after := #[{ on := 3, ground := Go.Ground.data }, { on := 8, ground := Go.Ground.data }, { on := 13, ground := Go.Ground.data }], guard := none }) rfl (fun K hK => ?_) AllReadyH.nil
        go_simp
        go_at_call 74
        refine (Hcl.out _).mono ?_
        rintro e w9 ⟨rfl, rfl⟩
        refine hK.out _ _ hH0 (fun hH1 => ?_)
        clear hK hH0
        try simp only [Act.put, List.setIfInBounds_toArray, List.set_cons_zero, List.set_cons_succ]
        refine wpAnyH_take (i := 15) (oi := { dst := some 35, op := Go.Op.indexAddr 23 (Go.Operand.tmp 20) (Go.Operand.tmp 21), type := 0, pos := "low.go:187", after := #[{ on := 0, ground := Go.Ground.data }, { on := 1, ground := Go.Ground.data }, { on := 0, ground := Go.Ground.phase }, { on := 1, ground := Go.Ground.phase }, { on := 2, ground := Go.Ground.phase }, { on := 3, ground := Go.Ground.phase }, { on := 4, ground := Go.Ground.phase }, { on := 5, ground := Go.Ground.phase }, { on := 6, ground := Go.Ground.phase }, { on := 7, ground := Go.Ground.phase }, { on := 8, ground := Go.Ground.phase }, { on := 9, ground := Go.Ground.phase }, { on := 10, ground := Go.Ground.phase }, { on := 11, ground := Go.Ground.phase }, { on := 12, ground := Go.Ground.phase }, { on := 13, ground := Go.Ground.phase }, { on := 14, ground := Go.Ground.phase }], guard := none }) rfl (by kernel_rfl) (by kernel_rfl) (by kernel_rfl) (fun _ _ _ h => h) (Or.inl ⟨by rfl, fun w hw => by (go_simp; try with_reducible rfl)⟩) (by assumption) ?_
        try simp only [Act.put, List.setIfInBounds_toArray, List.set_cons_zero, List.set_cons_succ]
        refine wpAnyH_ready (rs := [16]) (by kernel_rfl) (by simp) ?_
        refine AllReadyH.cons (o := { dst := none, op := Go.Op.store 3 (Go.Operand.tmp 35) (Go.Operand.tmp 34), type := 0, pos := "low.go:187", after := #[{ on := 15, ground := Go.Ground.data }, { on := 14, ground := Go.Ground.data }, { on := 14, ground := Go.Ground.chain }, { on := 0, ground := Go.Ground.phase }, { on := 1, ground := Go.Ground.phase }, { on := 2, ground := Go.Ground.phase }, { on := 3, ground := Go.Ground.phase }, { on := 4, ground := Go.Ground.phase }, { on := 5, ground := Go.Ground.phase }, { on := 6, ground := Go.Ground.phase }, { on := 7, ground := Go.Ground.phase }, { on := 8, ground := Go.Ground.phase }, { on := 9, ground := Go.Ground.phase }, { on := 10, ground := Go.Ground.phase }, { on := 11, ground := Go.Ground.phase }, { on := 12, ground := Go.Ground.phase }, { on := 13, ground := Go.Ground.phase }, { on := 14, ground := Go.Ground.phase }], guard := none }) rfl (fun K hK => ?_) AllReadyH.nil
        have f9 := Hf.out
        go_simp
        refine hK.out _ _ (Hkeep.out _ _ hH1) (fun hH2 => ?_)
        clear hK hH1
        try simp only [Act.put, List.setIfInBounds_toArray, List.set_cons_zero, List.set_cons_succ]
        refine wpAnyH_done (by kernel_rfl) ?_ _
        clear hH2
        go_wp2
        go_roundw
        case rel => exact ⟨k + 1, by omega, by go_num, by rw [← Hst.out]; exact OwnI.set_ Hwo.out (k := k) (by rw [Hvl.out]; omega) z, HWb.out.setCell (Nat.le_refl _) _⟩
        case measure => simp [intOf]; omega
    · have : k = l.length := by omega
      subst this
      obtain ⟨g, eg, _, hgl, _, hfz, hcell⟩ := OwnI.at2 hown (by rw [Hvl.out]; omega)
      injection eg with eg; injection eg with eg
      subst eg
      have d1 := hcell (l.length - 1) (by rw [Hvl.out]; omega)
      rw [vIn_get hv hk (by omega)] at d1
      have q1 : ((l.length : Int) - 1).toNat = l.length - 1 := by omega
      clear hfz hcell hown
      go_wp2
      go_ret
      exact ⟨rfl, HW.out⟩
end Go.Proofs.Ytmgejacndhnikaa
