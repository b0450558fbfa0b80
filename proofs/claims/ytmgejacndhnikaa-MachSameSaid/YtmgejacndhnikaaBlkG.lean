/- block.Do walked (written by doblk.py). -/
import Derived.Test.YtmgejacndhnikaaBlkH
import Derived.Deep.RegionHeld3
namespace Go.Proofs.Ytmgejacndhnikaa
open Go.RowKit

set_option maxRecDepth 100000 in
set_option maxHeartbeats 8000000 in
theorem blkDo_calls (A : Option Addr) (c : List Step) (cap base g n vc : Nat) (r0 : List Int) (w0 w : World) (hA : RdSt w0 A c) (hw0 : Below w0.heap.size w0 w) (hb0 : w0.heap.size ≤ base) (hO : OwnI w base 3 (.slice (some ⟨g, 0, none⟩) n vc) r0) (hn1 : 1 ≤ n) (hn8 : n ≤ 8) (hc : c.length ≤ 1000000) (hs : ∀ s ∈ c, SOk n s) (hr : ∀ x ∈ r0, 0 ≤ x ∧ x ≤ 255) (hrn : r0.length = n) :
    Calls Try.prog 48 #[.slice A c.length cap, .slice (some ⟨g, 0, none⟩) n vc] w fun e w' => (∃ u, e = .returned u) ∧ OwnI w' base 3 (.slice (some ⟨g, 0, none⟩) n vc) (dgR r0 c) ∧ Bel1 g w w' := by
  have HA := Lib.hid hA
  have HS := Lib.hid hs
  have HW0 := Lib.hid hw0
  have HO0 := Lib.hid hO
  have Hr0 := Lib.hid hr
  have hgb : base ≤ g := by
    obtain ⟨g', eg, hg1, _⟩ := OwnI.at2 hO (by omega)
    injection eg with eg; injection eg with eg
    omega
  have hgw0 : w0.heap.size ≤ g := Nat.le_trans hb0 hgb
  have hws0 := hw0.size
  clear hA hw0 hO hs hr
  go_enter Try.func48, Try.ntmps48
  go_wp2
  go_loopw [8] (fun i wr => ∃ (k : Nat) (r : List Int), k ≤ c.length ∧ i = .int .i64 k ∧ OwnI wr base 3 (.slice (some ⟨g, 0, none⟩) n vc) r ∧ Hid (r = dgR r0 (c.take k) ∧ r.length = n ∧ ∀ x ∈ r, 0 ≤ x ∧ x ≤ 255) ∧ Bel1 g w wr) (fun i _ => c.length - (intOf i).toNat)
  case atStart => exact ⟨0, _, Nat.zero_le _, rfl, HO0.out, Lib.hid ⟨rfl, hrn, Hr0.out⟩, Bel1.refl _ _⟩
  case round =>
    clear HO0 Hr0 hrn
    obtain ⟨k, r, hk, rfl, hO, hE, hW⟩ := hrel
    have hws := hW.size
    have HO := Lib.hid hO
    have HW := Lib.hid hW
    by_cases hlt : k < c.length
    · obtain ⟨b, off, rfl, hb, k0, k1, k2, k3, k4⟩ := RdSt.at5 (Rd.below HA.out (HW0.out.trans (hW.below hgw0 hws0))) hlt
      have q1 : ((k : Nat) : Int) < ((c.length : Nat) : Int) := by omega
      have hok := HS.out c[k] (List.getElem_mem hlt)
      have hst : dg1 r c[k] = dgR r0 (c.take (k + 1)) ∧ (dg1 r c[k]).length = n ∧ ∀ x ∈ dg1 r c[k], 0 ≤ x ∧ x ≤ 255 := by
        refine ⟨?_, by rw [dg1_len]; exact hE.out.2.1, dg1_bd hE.out.2.2 hok⟩
        rw [List.take_succ_eq_append_getElem hlt, dgR_append, ← hE.out.1]; rfl
      have Hst := Lib.hid hst
      have hrl := hE.out.2.1
      have Hbd := Lib.hid hE.out.2.2
      obtain ⟨o1, o6, on, ov, ⟨t0, t1⟩, oab⟩ := hok
      clear hst hE
      generalize c[k] = s at *
      obtain ⟨op, sto, sa, sb, sv⟩ := s
      dsimp only at o1 o6 on ov t0 t1 oab k0 k1 k2 k3 k4
      obtain ⟨d, rfl⟩ := Int.eq_ofNat_of_zero_le t0
      have hd : d < n := by omega
      have qd : ((d : Nat) : Int) < ((n : Nat) : Int) := t1
      obtain ⟨g', eg, hg1, hg2, _, hfz, hcell⟩ := OwnI.at2 hO (by omega)
      injection eg with eg; injection eg with eg
      subst eg
      have c5 := hcell d (by omega)
      have f5 := hfz d
      have HOa := Lib.hid (fun o : Int => HO.out.alloc (.cells #[.int .i64 o, .int .i64 (d : Nat), .int .i64 sa, .int .i64 sb, .int .i64 sv] 87))
      have HWa := Lib.hid (fun o : Int => HW.out.alloc (.cells #[.int .i64 o, .int .i64 (d : Nat), .int .i64 sa, .int .i64 sb, .int .i64 sv] 87))
      have hgw : g < wr.heap.size := hg2
      clear hO hW
      by_cases h1 : op = 1
      · subst h1
        have e1 : dg1 r ⟨1, (d : Nat), sa, sb, sv⟩ = r.set d sv := by unfold dg1; dsimp only; rw [if_pos rfl, Int.toNat_natCast]
        rw [e1] at Hst
        have HOf := Lib.hid ((OwnI.set_ HO.out (k := d) (by omega) sv).alloc (.cells #[.int .i64 1, .int .i64 (d : Nat), .int .i64 sa, .int .i64 sb, .int .i64 sv] 87))
        have HWf := Lib.hid ((HW.out.set_ (p := ⟨g, d, none⟩) rfl (.int .i64 sv)).alloc (.cells #[.int .i64 1, .int .i64 (d : Nat), .int .i64 sa, .int .i64 sb, .int .i64 sv] 87))
        clear e1 hfz hcell on ov oab
        go_wp2
        go_roundw
        case rel => exact ⟨k + 1, _, by omega, by go_num, HOf.out, Hst, HWf.out⟩
        case measure => simp [intOf]; omega
      by_cases h2 : op = 2
      · subst h2
        obtain ⟨v0, v1⟩ := ov rfl
        obtain ⟨m, rfl⟩ := Int.eq_ofNat_of_zero_le v0
        have e1 : dg1 r ⟨2, (d : Nat), sa, sb, (m : Nat)⟩ = r.set d (r.getD m 0) := by unfold dg1; dsimp only; rw [if_neg (by decide), if_pos rfl, Int.toNat_natCast, Int.toNat_natCast]
        rw [e1] at Hst
        have ca := hcell m (by omega)
        rw [show r[m] = r.getD m 0 from (getI_get (by omega)).symm] at ca
        have HOf0 := Lib.hid (fun x : Int => OwnI.set_ (HOa.out 2).drew (k := d) (by omega) x)
        have HWf0 := Lib.hid (fun x : Int => (HWa.out 2).drew.set_ (p := ⟨g, d, none⟩) rfl (.int .i64 x))
        have Hk0 : Hid ((wr.alloc (.cells #[.int .i64 2, .int .i64 (d : Nat), .int .i64 sa, .int .i64 sb, .int .i64 (m : Nat)] 87)).drew.cell? ⟨g, d, none⟩ = some (.int .i64 (r[d]'(by omega)))) := Lib.hid ((cellB_grown (World.grownBy_alloc wr _ none) _ d hgw (by simp)).trans c5)
        have Hf0 : Hid ((wr.alloc (.cells #[.int .i64 2, .int .i64 (d : Nat), .int .i64 sa, .int .i64 sb, .int .i64 (m : Nat)] 87)).drew.frozen? ⟨g, d, none⟩ = false) := Lib.hid (by rw [World.frozen?_drew, frozen?_alloc_cells]; exact f5)
        have Hra : Hid ((wr.alloc (.cells #[.int .i64 2, .int .i64 (d : Nat), .int .i64 sa, .int .i64 sb, .int .i64 (m : Nat)] 87)).drew.cell? ⟨g, m, none⟩ = some (.int .i64 (r.getD m 0))) := Lib.hid ((cellB_grown (World.grownBy_alloc wr _ none) _ m hgw (by simp)).trans ca)
        have Hs0 : Hid ((wr.alloc (.cells #[.int .i64 2, .int .i64 (d : Nat), .int .i64 sa, .int .i64 sb, .int .i64 (m : Nat)] 87)).drew.cell? ⟨wr.heap.size, 1, none⟩ = some (.int .i64 (d : Nat)) ∧ (wr.alloc (.cells #[.int .i64 2, .int .i64 (d : Nat), .int .i64 sa, .int .i64 sb, .int .i64 (m : Nat)] 87)).drew.cell? ⟨wr.heap.size, 4, none⟩ = some (.int .i64 (m : Nat))) := Lib.hid ⟨cell_new wr _ _ wr.heap.size rfl 1, cell_new wr _ _ wr.heap.size rfl 4⟩
        have qa : ((m : Nat) : Int) < ((n : Nat) : Int) := v1
        clear e1 hfz hcell on ov oab HOa HWa c5 f5 ca
        generalize r.getD m 0 = z at *
        have HOf := Lib.hid (HOf0.out z)
        have HWf := Lib.hid (HWf0.out z)
        have Hkp : Hid (∀ (w' : World), (w'.cell? ⟨wr.heap.size, 1, none⟩ = some (.int .i64 (d : Nat)) ∧ w'.cell? ⟨wr.heap.size, 4, none⟩ = some (.int .i64 (m : Nat))) → ((w'.setCell ⟨g, d, none⟩ (.int .i64 z)).cell? ⟨wr.heap.size, 1, none⟩ = some (.int .i64 (d : Nat)) ∧ (w'.setCell ⟨g, d, none⟩ (.int .i64 z)).cell? ⟨wr.heap.size, 4, none⟩ = some (.int .i64 (m : Nat)))) := Lib.hid fun w' hs => by
          rw [World.cell?_setCell_far _ _ _ _ (by show g ≠ wr.heap.size; omega), World.cell?_setCell_far _ _ _ _ (by show g ≠ wr.heap.size; omega)]
          exact hs
        clear HOf0 HWf0
        go_wp2
        refine wp_region_held_drew (S := fun w' => w'.cell? ⟨wr.heap.size, 1, none⟩ = some (.int .i64 (d : Nat)) ∧ w'.cell? ⟨wr.heap.size, 4, none⟩ = some (.int .i64 (m : Nat))) (by kernel_rfl) Hs0.out (fun hH0 => ?_)
        generalize (wr.alloc (.cells #[.int .i64 2, .int .i64 (d : Nat), .int .i64 sa, .int .i64 sb, .int .i64 (m : Nat)] 87)).drew = w0 at *
        refine wpAnyH_take (i := 0) (oi := { dst := some 41, op := Go.Op.move (Go.Operand.tmp 1), type := 23, pos := "block.go:78", after := #[], guard := none }) rfl (by kernel_rfl) (by kernel_rfl) (by kernel_rfl) (fun _ _ _ h => h) (Or.inl ⟨by rfl, fun w hw => by (go_simp; try with_reducible rfl)⟩) (by assumption) ?_
        try simp only [Act.put, List.setIfInBounds_toArray, List.set_cons_zero, List.set_cons_succ]
        refine wpAnyH_take (i := 1) (oi := { dst := some 42, op := Go.Op.fieldAddr 87 (Go.Operand.tmp 5) 1, type := 0, pos := "block.go:78", after := #[], guard := none }) rfl (by kernel_rfl) (by kernel_rfl) (by kernel_rfl) (fun _ _ _ h => h) (Or.inl ⟨by rfl, fun w hw => by (go_simp; try with_reducible rfl)⟩) (by assumption) ?_
        try simp only [Act.put, List.setIfInBounds_toArray, List.set_cons_zero, List.set_cons_succ]
        refine wpAnyH_take (i := 2) (oi := { dst := some 43, op := Go.Op.load 3 (Go.Operand.tmp 42), type := 3, pos := "block.go:78", after := #[{ on := 1, ground := Go.Ground.data }], guard := none }) rfl (by kernel_rfl) (by kernel_rfl) (by kernel_rfl) (fun _ _ _ h => h) (Or.inl ⟨by rfl, fun w hw => by (obtain ⟨p0, p1⟩ := hw; go_simp; try with_reducible rfl)⟩) (by assumption) ?_
        try simp only [Act.put, List.setIfInBounds_toArray, List.set_cons_zero, List.set_cons_succ]
        refine wpAnyH_take (i := 3) (oi := { dst := some 44, op := Go.Op.move (Go.Operand.tmp 1), type := 23, pos := "block.go:78", after := #[], guard := none }) rfl (by kernel_rfl) (by kernel_rfl) (by kernel_rfl) (fun _ _ _ h => h) (Or.inl ⟨by rfl, fun w hw => by (go_simp; try with_reducible rfl)⟩) (by assumption) ?_
        try simp only [Act.put, List.setIfInBounds_toArray, List.set_cons_zero, List.set_cons_succ]
        refine wpAnyH_take (i := 4) (oi := { dst := some 45, op := Go.Op.fieldAddr 87 (Go.Operand.tmp 5) 4, type := 0, pos := "block.go:78", after := #[], guard := none }) rfl (by kernel_rfl) (by kernel_rfl) (by kernel_rfl) (fun _ _ _ h => h) (Or.inl ⟨by rfl, fun w hw => by (go_simp; try with_reducible rfl)⟩) (by assumption) ?_
        try simp only [Act.put, List.setIfInBounds_toArray, List.set_cons_zero, List.set_cons_succ]
        refine wpAnyH_take (i := 5) (oi := { dst := some 46, op := Go.Op.load 3 (Go.Operand.tmp 45), type := 3, pos := "block.go:78", after := #[{ on := 4, ground := Go.Ground.data }], guard := none }) rfl (by kernel_rfl) (by kernel_rfl) (by kernel_rfl) (fun _ _ _ h => h) (Or.inl ⟨by rfl, fun w hw => by (obtain ⟨p0, p1⟩ := hw; go_simp; try with_reducible rfl)⟩) (by assumption) ?_
        try simp only [Act.put, List.setIfInBounds_toArray, List.set_cons_zero, List.set_cons_succ]
        refine wpAnyH_take (i := 6) (oi := { dst := some 47, op := Go.Op.indexAddr 23 (Go.Operand.tmp 44) (Go.Operand.tmp 46), type := 0, pos := "block.go:78", after := #[{ on := 3, ground := Go.Ground.data }, { on := 5, ground := Go.Ground.data }], guard := none }) rfl (by kernel_rfl) (by kernel_rfl) (by kernel_rfl) (fun _ _ _ h => h) (Or.inl ⟨by rfl, fun w hw => by (go_simp; try with_reducible rfl)⟩) (by assumption) ?_
        try simp only [Act.put, List.setIfInBounds_toArray, List.set_cons_zero, List.set_cons_succ]
        refine wpAnyH_ready (rs := [7]) (by kernel_rfl) (by simp) ?_
        refine AllReadyH.cons (o := { dst := some 48, op := Go.Op.load 3 (Go.Operand.tmp 47), type := 3, pos := "block.go:78", after := #[{ on := 6, ground := Go.Ground.data }], guard := none }) rfl (fun K hK => ?_) AllReadyH.nil
        have cc := Hra.out
        go_simp
        clear cc
        refine hK.out _ _ hH0 (fun hH1 => ?_)
        clear hK hH0
        have hH0 := hH1
        clear hH1
        try simp only [Act.put, List.setIfInBounds_toArray, List.set_cons_zero, List.set_cons_succ]
        refine wpAnyH_take (i := 8) (oi := { dst := some 49, op := Go.Op.indexAddr 23 (Go.Operand.tmp 41) (Go.Operand.tmp 43), type := 0, pos := "block.go:78", after := #[{ on := 0, ground := Go.Ground.data }, { on := 2, ground := Go.Ground.data }, { on := 0, ground := Go.Ground.phase }, { on := 1, ground := Go.Ground.phase }, { on := 2, ground := Go.Ground.phase }, { on := 3, ground := Go.Ground.phase }, { on := 4, ground := Go.Ground.phase }, { on := 5, ground := Go.Ground.phase }, { on := 6, ground := Go.Ground.phase }, { on := 7, ground := Go.Ground.phase }], guard := none }) rfl (by kernel_rfl) (by kernel_rfl) (by kernel_rfl) (fun _ _ _ h => h) (Or.inl ⟨by rfl, fun w hw => by (go_simp; try with_reducible rfl)⟩) (by assumption) ?_
        try simp only [Act.put, List.setIfInBounds_toArray, List.set_cons_zero, List.set_cons_succ]
        refine wpAnyH_ready (rs := [9]) (by kernel_rfl) (by simp) ?_
        refine AllReadyH.cons (o := { dst := none, op := Go.Op.store 3 (Go.Operand.tmp 49) (Go.Operand.tmp 48), type := 0, pos := "block.go:78", after := #[{ on := 8, ground := Go.Ground.data }, { on := 7, ground := Go.Ground.data }, { on := 0, ground := Go.Ground.phase }, { on := 1, ground := Go.Ground.phase }, { on := 2, ground := Go.Ground.phase }, { on := 3, ground := Go.Ground.phase }, { on := 4, ground := Go.Ground.phase }, { on := 5, ground := Go.Ground.phase }, { on := 6, ground := Go.Ground.phase }, { on := 7, ground := Go.Ground.phase }], guard := none }) rfl (fun K hK => ?_) AllReadyH.nil
        have f0 := Hf0.out
        have e0 := Hk0.out
        go_simp
        refine hK.out _ _ (Hkp.out _ hH0) (fun hH2 => ?_)
        clear hK hH0
        try simp only [Act.put, List.setIfInBounds_toArray, List.set_cons_zero, List.set_cons_succ]
        refine wpAnyH_done (by kernel_rfl) ?_ _
        clear hH2
        go_wp2
        go_roundw
        case rel => exact ⟨k + 1, _, by omega, by go_num, HOf.out, Hst, HWf.out⟩
        case measure => simp [intOf]; omega
      · obtain ⟨⟨a0, a1⟩, b0, b1⟩ := oab (by omega)
        obtain ⟨a, rfl⟩ := Int.eq_ofNat_of_zero_le a0
        obtain ⟨b', rfl⟩ := Int.eq_ofNat_of_zero_le b0
        have e1 : dg1 r ⟨op, (d : Nat), (a : Nat), (b' : Nat), sv⟩ = r.set d (doF op (r.getD a 0) (r.getD b' 0)) := by unfold dg1; dsimp only; rw [if_neg h1, if_neg h2, Int.toNat_natCast, Int.toNat_natCast, Int.toNat_natCast]
        rw [e1] at Hst
        have ca := hcell a (by omega)
        have cb := hcell b' (by omega)
        rw [show r[a] = r.getD a 0 from (getI_get (by omega)).symm] at ca
        rw [show r[b'] = r.getD b' 0 from (getI_get (by omega)).symm] at cb
        have bx := getI_bd Hbd.out a
        have by_ := getI_bd Hbd.out b'
        have Hcl := Lib.hid (fun w => do_calls op (r.getD a 0) (r.getD b' 0) w bx by_)
        have HOf0 := Lib.hid (fun x : Int => OwnI.set_ (HOa.out op).drew (k := d) (by omega) x)
        have HWf0 := Lib.hid (fun x : Int => (HWa.out op).drew.set_ (p := ⟨g, d, none⟩) rfl (.int .i64 x))
        have Hk0 : Hid ((wr.alloc (.cells #[.int .i64 op, .int .i64 (d : Nat), .int .i64 (a : Nat), .int .i64 (b' : Nat), .int .i64 sv] 87)).drew.cell? ⟨g, d, none⟩ = some (.int .i64 (r[d]'(by omega)))) := Lib.hid ((cellB_grown (World.grownBy_alloc wr _ none) _ d hgw (by simp)).trans c5)
        have Hf0 : Hid ((wr.alloc (.cells #[.int .i64 op, .int .i64 (d : Nat), .int .i64 (a : Nat), .int .i64 (b' : Nat), .int .i64 sv] 87)).drew.frozen? ⟨g, d, none⟩ = false) := Lib.hid (by rw [World.frozen?_drew, frozen?_alloc_cells]; exact f5)
        have Hra : Hid ((wr.alloc (.cells #[.int .i64 op, .int .i64 (d : Nat), .int .i64 (a : Nat), .int .i64 (b' : Nat), .int .i64 sv] 87)).drew.cell? ⟨g, a, none⟩ = some (.int .i64 (r.getD a 0))) := Lib.hid ((cellB_grown (World.grownBy_alloc wr _ none) _ a hgw (by simp)).trans ca)
        have Hrb : Hid ((wr.alloc (.cells #[.int .i64 op, .int .i64 (d : Nat), .int .i64 (a : Nat), .int .i64 (b' : Nat), .int .i64 sv] 87)).drew.cell? ⟨g, b', none⟩ = some (.int .i64 (r.getD b' 0))) := Lib.hid ((cellB_grown (World.grownBy_alloc wr _ none) _ b' hgw (by simp)).trans cb)
        have Hs0 : Hid ((wr.alloc (.cells #[.int .i64 op, .int .i64 (d : Nat), .int .i64 (a : Nat), .int .i64 (b' : Nat), .int .i64 sv] 87)).drew.cell? ⟨wr.heap.size, 1, none⟩ = some (.int .i64 (d : Nat)) ∧ (wr.alloc (.cells #[.int .i64 op, .int .i64 (d : Nat), .int .i64 (a : Nat), .int .i64 (b' : Nat), .int .i64 sv] 87)).drew.cell? ⟨wr.heap.size, 0, none⟩ = some (.int .i64 op) ∧ (wr.alloc (.cells #[.int .i64 op, .int .i64 (d : Nat), .int .i64 (a : Nat), .int .i64 (b' : Nat), .int .i64 sv] 87)).drew.cell? ⟨wr.heap.size, 2, none⟩ = some (.int .i64 (a : Nat)) ∧ (wr.alloc (.cells #[.int .i64 op, .int .i64 (d : Nat), .int .i64 (a : Nat), .int .i64 (b' : Nat), .int .i64 sv] 87)).drew.cell? ⟨wr.heap.size, 3, none⟩ = some (.int .i64 (b' : Nat))) := Lib.hid ⟨cell_new wr _ _ wr.heap.size rfl 1, cell_new wr _ _ wr.heap.size rfl 0, cell_new wr _ _ wr.heap.size rfl 2, cell_new wr _ _ wr.heap.size rfl 3⟩
        have qa : ((a : Nat) : Int) < ((n : Nat) : Int) := a1
        have qb : ((b' : Nat) : Int) < ((n : Nat) : Int) := b1
        have q6 : (op == 1) = false := by rw [beq_eq_false_iff_ne]; exact h1
        have q7 : (op == 2) = false := by rw [beq_eq_false_iff_ne]; exact h2
        clear e1 hfz hcell on ov oab HOa HWa c5 f5 ca cb
        generalize r.getD a 0 = x at *
        generalize r.getD b' 0 = y at *
        have hdb := doF_bd op x y
        generalize doF op x y = z at *
        have HOf := Lib.hid (HOf0.out z)
        have HWf := Lib.hid (HWf0.out z)
        have Hkp : Hid (∀ (w' : World), (w'.cell? ⟨wr.heap.size, 1, none⟩ = some (.int .i64 (d : Nat)) ∧ w'.cell? ⟨wr.heap.size, 0, none⟩ = some (.int .i64 op) ∧ w'.cell? ⟨wr.heap.size, 2, none⟩ = some (.int .i64 (a : Nat)) ∧ w'.cell? ⟨wr.heap.size, 3, none⟩ = some (.int .i64 (b' : Nat))) → ((w'.setCell ⟨g, d, none⟩ (.int .i64 z)).cell? ⟨wr.heap.size, 1, none⟩ = some (.int .i64 (d : Nat)) ∧ (w'.setCell ⟨g, d, none⟩ (.int .i64 z)).cell? ⟨wr.heap.size, 0, none⟩ = some (.int .i64 op) ∧ (w'.setCell ⟨g, d, none⟩ (.int .i64 z)).cell? ⟨wr.heap.size, 2, none⟩ = some (.int .i64 (a : Nat)) ∧ (w'.setCell ⟨g, d, none⟩ (.int .i64 z)).cell? ⟨wr.heap.size, 3, none⟩ = some (.int .i64 (b' : Nat)))) := Lib.hid fun w' hs => by
          rw [World.cell?_setCell_far _ _ _ _ (by show g ≠ wr.heap.size; omega), World.cell?_setCell_far _ _ _ _ (by show g ≠ wr.heap.size; omega), World.cell?_setCell_far _ _ _ _ (by show g ≠ wr.heap.size; omega), World.cell?_setCell_far _ _ _ _ (by show g ≠ wr.heap.size; omega)]
          exact hs
        clear HOf0 HWf0
        go_wp2
        refine wp_region_held_drew (S := fun w' => w'.cell? ⟨wr.heap.size, 1, none⟩ = some (.int .i64 (d : Nat)) ∧ w'.cell? ⟨wr.heap.size, 0, none⟩ = some (.int .i64 op) ∧ w'.cell? ⟨wr.heap.size, 2, none⟩ = some (.int .i64 (a : Nat)) ∧ w'.cell? ⟨wr.heap.size, 3, none⟩ = some (.int .i64 (b' : Nat))) (by kernel_rfl) Hs0.out (fun hH0 => ?_)
        generalize (wr.alloc (.cells #[.int .i64 op, .int .i64 (d : Nat), .int .i64 (a : Nat), .int .i64 (b' : Nat), .int .i64 sv] 87)).drew = w0 at *
        refine wpAnyH_take (i := 0) (oi := { dst := some 14, op := Go.Op.move (Go.Operand.tmp 1), type := 23, pos := "block.go:80", after := #[], guard := none }) rfl (by kernel_rfl) (by kernel_rfl) (by kernel_rfl) (fun _ _ _ h => h) (Or.inl ⟨by rfl, fun w hw => by (go_simp; try with_reducible rfl)⟩) (by assumption) ?_
        try simp only [Act.put, List.setIfInBounds_toArray, List.set_cons_zero, List.set_cons_succ]
        refine wpAnyH_take (i := 1) (oi := { dst := some 15, op := Go.Op.fieldAddr 87 (Go.Operand.tmp 5) 1, type := 0, pos := "block.go:80", after := #[], guard := none }) rfl (by kernel_rfl) (by kernel_rfl) (by kernel_rfl) (fun _ _ _ h => h) (Or.inl ⟨by rfl, fun w hw => by (go_simp; try with_reducible rfl)⟩) (by assumption) ?_
        try simp only [Act.put, List.setIfInBounds_toArray, List.set_cons_zero, List.set_cons_succ]
        refine wpAnyH_take (i := 2) (oi := { dst := some 16, op := Go.Op.load 3 (Go.Operand.tmp 15), type := 3, pos := "block.go:80", after := #[{ on := 1, ground := Go.Ground.data }], guard := none }) rfl (by kernel_rfl) (by kernel_rfl) (by kernel_rfl) (fun _ _ _ h => h) (Or.inl ⟨by rfl, fun w hw => by (obtain ⟨p0, p1, p2, p3⟩ := hw; go_simp; try with_reducible rfl)⟩) (by assumption) ?_
        try simp only [Act.put, List.setIfInBounds_toArray, List.set_cons_zero, List.set_cons_succ]
        refine wpAnyH_take (i := 3) (oi := { dst := some 17, op := Go.Op.fieldAddr 87 (Go.Operand.tmp 5) 0, type := 0, pos := "block.go:80", after := #[], guard := none }) rfl (by kernel_rfl) (by kernel_rfl) (by kernel_rfl) (fun _ _ _ h => h) (Or.inl ⟨by rfl, fun w hw => by (go_simp; try with_reducible rfl)⟩) (by assumption) ?_
        try simp only [Act.put, List.setIfInBounds_toArray, List.set_cons_zero, List.set_cons_succ]
        refine wpAnyH_take (i := 4) (oi := { dst := some 18, op := Go.Op.load 3 (Go.Operand.tmp 17), type := 3, pos := "block.go:80", after := #[{ on := 3, ground := Go.Ground.data }], guard := none }) rfl (by kernel_rfl) (by kernel_rfl) (by kernel_rfl) (fun _ _ _ h => h) (Or.inl ⟨by rfl, fun w hw => by (obtain ⟨p0, p1, p2, p3⟩ := hw; go_simp; try with_reducible rfl)⟩) (by assumption) ?_
        try simp only [Act.put, List.setIfInBounds_toArray, List.set_cons_zero, List.set_cons_succ]
        refine wpAnyH_take (i := 5) (oi := { dst := some 19, op := Go.Op.move (Go.Operand.tmp 1), type := 23, pos := "block.go:80", after := #[], guard := none }) rfl (by kernel_rfl) (by kernel_rfl) (by kernel_rfl) (fun _ _ _ h => h) (Or.inl ⟨by rfl, fun w hw => by (go_simp; try with_reducible rfl)⟩) (by assumption) ?_
        try simp only [Act.put, List.setIfInBounds_toArray, List.set_cons_zero, List.set_cons_succ]
        refine wpAnyH_take (i := 6) (oi := { dst := some 20, op := Go.Op.fieldAddr 87 (Go.Operand.tmp 5) 2, type := 0, pos := "block.go:80", after := #[], guard := none }) rfl (by kernel_rfl) (by kernel_rfl) (by kernel_rfl) (fun _ _ _ h => h) (Or.inl ⟨by rfl, fun w hw => by (go_simp; try with_reducible rfl)⟩) (by assumption) ?_
        try simp only [Act.put, List.setIfInBounds_toArray, List.set_cons_zero, List.set_cons_succ]
        refine wpAnyH_take (i := 7) (oi := { dst := some 21, op := Go.Op.load 3 (Go.Operand.tmp 20), type := 3, pos := "block.go:80", after := #[{ on := 6, ground := Go.Ground.data }], guard := none }) rfl (by kernel_rfl) (by kernel_rfl) (by kernel_rfl) (fun _ _ _ h => h) (Or.inl ⟨by rfl, fun w hw => by (obtain ⟨p0, p1, p2, p3⟩ := hw; go_simp; try with_reducible rfl)⟩) (by assumption) ?_
        try simp only [Act.put, List.setIfInBounds_toArray, List.set_cons_zero, List.set_cons_succ]
        refine wpAnyH_take (i := 8) (oi := { dst := some 22, op := Go.Op.indexAddr 23 (Go.Operand.tmp 19) (Go.Operand.tmp 21), type := 0, pos := "block.go:80", after := #[{ on := 5, ground := Go.Ground.data }, { on := 7, ground := Go.Ground.data }], guard := none }) rfl (by kernel_rfl) (by kernel_rfl) (by kernel_rfl) (fun _ _ _ h => h) (Or.inl ⟨by rfl, fun w hw => by (go_simp; try with_reducible rfl)⟩) (by assumption) ?_
        try simp only [Act.put, List.setIfInBounds_toArray, List.set_cons_zero, List.set_cons_succ]
        refine wpAnyH_take (i := 10) (oi := { dst := some 24, op := Go.Op.move (Go.Operand.tmp 1), type := 23, pos := "block.go:80", after := #[], guard := none }) rfl (by kernel_rfl) (by kernel_rfl) (by kernel_rfl) (fun _ _ _ h => h) (Or.inl ⟨by rfl, fun w hw => by (go_simp; try with_reducible rfl)⟩) (by assumption) ?_
        try simp only [Act.put, List.setIfInBounds_toArray, List.set_cons_zero, List.set_cons_succ]
        refine wpAnyH_take (i := 11) (oi := { dst := some 25, op := Go.Op.fieldAddr 87 (Go.Operand.tmp 5) 3, type := 0, pos := "block.go:80", after := #[], guard := none }) rfl (by kernel_rfl) (by kernel_rfl) (by kernel_rfl) (fun _ _ _ h => h) (Or.inl ⟨by rfl, fun w hw => by (go_simp; try with_reducible rfl)⟩) (by assumption) ?_
        try simp only [Act.put, List.setIfInBounds_toArray, List.set_cons_zero, List.set_cons_succ]
        refine wpAnyH_take (i := 12) (oi := { dst := some 26, op := Go.Op.load 3 (Go.Operand.tmp 25), type := 3, pos := "block.go:80", after := #[{ on := 11, ground := Go.Ground.data }], guard := none }) rfl (by kernel_rfl) (by kernel_rfl) (by kernel_rfl) (fun _ _ _ h => h) (Or.inl ⟨by rfl, fun w hw => by (obtain ⟨p0, p1, p2, p3⟩ := hw; go_simp; try with_reducible rfl)⟩) (by assumption) ?_
        try simp only [Act.put, List.setIfInBounds_toArray, List.set_cons_zero, List.set_cons_succ]
        refine wpAnyH_take (i := 13) (oi := { dst := some 27, op := Go.Op.indexAddr 23 (Go.Operand.tmp 24) (Go.Operand.tmp 26), type := 0, pos := "block.go:80", after := #[{ on := 10, ground := Go.Ground.data }, { on := 12, ground := Go.Ground.data }], guard := none }) rfl (by kernel_rfl) (by kernel_rfl) (by kernel_rfl) (fun _ _ _ h => h) (Or.inl ⟨by rfl, fun w hw => by (go_simp; try with_reducible rfl)⟩) (by assumption) ?_
        try simp only [Act.put, List.setIfInBounds_toArray, List.set_cons_zero, List.set_cons_succ]
        refine wpAnyH_ready (rs := [9, 14]) (by kernel_rfl) (by simp) ?_
        refine AllReadyH.cons (o := { dst := some 23, op := Go.Op.load 3 (Go.Operand.tmp 22), type := 3, pos := "block.go:80", after := #[{ on := 8, ground := Go.Ground.data }], guard := none }) rfl (fun K hK => ?_) ?_
        · have cc := Hra.out
          go_simp
          clear cc
          refine hK.out _ _ hH0 (fun hH1 => ?_)
          clear hK hH0
          have hH0 := hH1
          clear hH1
          try simp only [Act.put, List.setIfInBounds_toArray, List.set_cons_zero, List.set_cons_succ]
          refine wpAnyH_ready (rs := [14]) (by kernel_rfl) (by simp) ?_
          refine AllReadyH.cons (o := { dst := some 28, op := Go.Op.load 3 (Go.Operand.tmp 27), type := 3, pos := "block.go:80", after := #[{ on := 13, ground := Go.Ground.data }], guard := none }) rfl (fun K hK => ?_) AllReadyH.nil
          have cc := Hrb.out
          go_simp
          clear cc
          refine hK.out _ _ hH0 (fun hH1 => ?_)
          clear hK hH0
          have hH0 := hH1
          clear hH1
          try simp only [Act.put, List.setIfInBounds_toArray, List.set_cons_zero, List.set_cons_succ]
          refine wpAnyH_ready (rs := [15]) (by kernel_rfl) (by simp) ?_
          refine AllReadyH.cons (o := { dst := some 29, op := Go.Op.call { callee := Go.Callee.value (Go.Operand.func 50), args := #[Go.Operand.tmp 18, Go.Operand.tmp 23, Go.Operand.tmp 28], argTypes := #[3, 3, 3] }, type := 3, pos := "block.go:80", after := #[{ on := 4, ground := Go.Ground.data }, { on := 9, ground := Go.Ground.data }, { on := 14, ground := Go.Ground.data }], guard := none }) rfl (fun K hK => ?_) AllReadyH.nil
          go_simp
          go_at_call 50
          refine (Hcl.out _).mono ?_
          rintro e w9 ⟨rfl, rfl⟩
          refine hK.out _ _ hH0 (fun hH1 => ?_)
          clear hK hH0
          have hH0 := hH1
          clear hH1
          try simp only [Act.put, List.setIfInBounds_toArray, List.set_cons_zero, List.set_cons_succ]
          refine wpAnyH_take (i := 16) (oi := { dst := some 30, op := Go.Op.indexAddr 23 (Go.Operand.tmp 14) (Go.Operand.tmp 16), type := 0, pos := "block.go:80", after := #[{ on := 0, ground := Go.Ground.data }, { on := 2, ground := Go.Ground.data }, { on := 0, ground := Go.Ground.phase }, { on := 1, ground := Go.Ground.phase }, { on := 2, ground := Go.Ground.phase }, { on := 3, ground := Go.Ground.phase }, { on := 4, ground := Go.Ground.phase }, { on := 5, ground := Go.Ground.phase }, { on := 6, ground := Go.Ground.phase }, { on := 7, ground := Go.Ground.phase }, { on := 8, ground := Go.Ground.phase }, { on := 9, ground := Go.Ground.phase }, { on := 10, ground := Go.Ground.phase }, { on := 11, ground := Go.Ground.phase }, { on := 12, ground := Go.Ground.phase }, { on := 13, ground := Go.Ground.phase }, { on := 14, ground := Go.Ground.phase }, { on := 15, ground := Go.Ground.phase }], guard := none }) rfl (by kernel_rfl) (by kernel_rfl) (by kernel_rfl) (fun _ _ _ h => h) (Or.inl ⟨by rfl, fun w hw => by (go_simp; try with_reducible rfl)⟩) (by assumption) ?_
          try simp only [Act.put, List.setIfInBounds_toArray, List.set_cons_zero, List.set_cons_succ]
          refine wpAnyH_ready (rs := [17]) (by kernel_rfl) (by simp) ?_
          refine AllReadyH.cons (o := { dst := none, op := Go.Op.store 3 (Go.Operand.tmp 30) (Go.Operand.tmp 29), type := 0, pos := "block.go:80", after := #[{ on := 16, ground := Go.Ground.data }, { on := 15, ground := Go.Ground.data }, { on := 15, ground := Go.Ground.chain }, { on := 0, ground := Go.Ground.phase }, { on := 1, ground := Go.Ground.phase }, { on := 2, ground := Go.Ground.phase }, { on := 3, ground := Go.Ground.phase }, { on := 4, ground := Go.Ground.phase }, { on := 5, ground := Go.Ground.phase }, { on := 6, ground := Go.Ground.phase }, { on := 7, ground := Go.Ground.phase }, { on := 8, ground := Go.Ground.phase }, { on := 9, ground := Go.Ground.phase }, { on := 10, ground := Go.Ground.phase }, { on := 11, ground := Go.Ground.phase }, { on := 12, ground := Go.Ground.phase }, { on := 13, ground := Go.Ground.phase }, { on := 14, ground := Go.Ground.phase }, { on := 15, ground := Go.Ground.phase }], guard := none }) rfl (fun K hK => ?_) AllReadyH.nil
          have f0 := Hf0.out
          have e0 := Hk0.out
          go_simp
          refine hK.out _ _ (Hkp.out _ hH0) (fun hH2 => ?_)
          clear hK hH0
          try simp only [Act.put, List.setIfInBounds_toArray, List.set_cons_zero, List.set_cons_succ]
          refine wpAnyH_done (by kernel_rfl) ?_ _
          clear hH2
          go_wp2
          go_roundw
          case rel => exact ⟨k + 1, _, by omega, by go_num, HOf.out, Hst, HWf.out⟩
          case measure => simp [intOf]; omega
        refine AllReadyH.cons (o := { dst := some 28, op := Go.Op.load 3 (Go.Operand.tmp 27), type := 3, pos := "block.go:80", after := #[{ on := 13, ground := Go.Ground.data }], guard := none }) rfl (fun K hK => ?_) AllReadyH.nil
        have cc := Hrb.out
        go_simp
        clear cc
        refine hK.out _ _ hH0 (fun hH1 => ?_)
        clear hK hH0
        have hH0 := hH1
        clear hH1
        try simp only [Act.put, List.setIfInBounds_toArray, List.set_cons_zero, List.set_cons_succ]
        refine wpAnyH_ready (rs := [9]) (by kernel_rfl) (by simp) ?_
        refine AllReadyH.cons (o := { dst := some 23, op := Go.Op.load 3 (Go.Operand.tmp 22), type := 3, pos := "block.go:80", after := #[{ on := 8, ground := Go.Ground.data }], guard := none }) rfl (fun K hK => ?_) AllReadyH.nil
        have cc := Hra.out
        go_simp
        clear cc
        refine hK.out _ _ hH0 (fun hH1 => ?_)
        clear hK hH0
        have hH0 := hH1
        clear hH1
        try simp only [Act.put, List.setIfInBounds_toArray, List.set_cons_zero, List.set_cons_succ]
        refine wpAnyH_ready (rs := [15]) (by kernel_rfl) (by simp) ?_
        refine AllReadyH.cons (o := { dst := some 29, op := Go.Op.call { callee := Go.Callee.value (Go.Operand.func 50), args := #[Go.Operand.tmp 18, Go.Operand.tmp 23, Go.Operand.tmp 28], argTypes := #[3, 3, 3] }, type := 3, pos := "block.go:80", after := #[{ on := 4, ground := Go.Ground.data }, { on := 9, ground := Go.Ground.data }, { on := 14, ground := Go.Ground.data }], guard := none }) rfl (fun K hK => ?_) AllReadyH.nil
        go_simp
        go_at_call 50
        refine (Hcl.out _).mono ?_
        rintro e w9 ⟨rfl, rfl⟩
        refine hK.out _ _ hH0 (fun hH1 => ?_)
        clear hK hH0
        have hH0 := hH1
        clear hH1
        try simp only [Act.put, List.setIfInBounds_toArray, List.set_cons_zero, List.set_cons_succ]
        refine wpAnyH_take (i := 16) (oi := { dst := some 30, op := Go.Op.indexAddr 23 (Go.Operand.tmp 14) (Go.Operand.tmp 16), type := 0, pos := "block.go:80", after := #[{ on := 0, ground := Go.Ground.data }, { on := 2, ground := Go.Ground.data }, { on := 0, ground := Go.Ground.phase }, { on := 1, ground := Go.Ground.phase }, { on := 2, ground := Go.Ground.phase }, { on := 3, ground := Go.Ground.phase }, { on := 4, ground := Go.Ground.phase }, { on := 5, ground := Go.Ground.phase }, { on := 6, ground := Go.Ground.phase }, { on := 7, ground := Go.Ground.phase }, { on := 8, ground := Go.Ground.phase }, { on := 9, ground := Go.Ground.phase }, { on := 10, ground := Go.Ground.phase }, { on := 11, ground := Go.Ground.phase }, { on := 12, ground := Go.Ground.phase }, { on := 13, ground := Go.Ground.phase }, { on := 14, ground := Go.Ground.phase }, { on := 15, ground := Go.Ground.phase }], guard := none }) rfl (by kernel_rfl) (by kernel_rfl) (by kernel_rfl) (fun _ _ _ h => h) (Or.inl ⟨by rfl, fun w hw => by (go_simp; try with_reducible rfl)⟩) (by assumption) ?_
        try simp only [Act.put, List.setIfInBounds_toArray, List.set_cons_zero, List.set_cons_succ]
        refine wpAnyH_ready (rs := [17]) (by kernel_rfl) (by simp) ?_
        refine AllReadyH.cons (o := { dst := none, op := Go.Op.store 3 (Go.Operand.tmp 30) (Go.Operand.tmp 29), type := 0, pos := "block.go:80", after := #[{ on := 16, ground := Go.Ground.data }, { on := 15, ground := Go.Ground.data }, { on := 15, ground := Go.Ground.chain }, { on := 0, ground := Go.Ground.phase }, { on := 1, ground := Go.Ground.phase }, { on := 2, ground := Go.Ground.phase }, { on := 3, ground := Go.Ground.phase }, { on := 4, ground := Go.Ground.phase }, { on := 5, ground := Go.Ground.phase }, { on := 6, ground := Go.Ground.phase }, { on := 7, ground := Go.Ground.phase }, { on := 8, ground := Go.Ground.phase }, { on := 9, ground := Go.Ground.phase }, { on := 10, ground := Go.Ground.phase }, { on := 11, ground := Go.Ground.phase }, { on := 12, ground := Go.Ground.phase }, { on := 13, ground := Go.Ground.phase }, { on := 14, ground := Go.Ground.phase }, { on := 15, ground := Go.Ground.phase }], guard := none }) rfl (fun K hK => ?_) AllReadyH.nil
        have f0 := Hf0.out
        have e0 := Hk0.out
        go_simp
        refine hK.out _ _ (Hkp.out _ hH0) (fun hH2 => ?_)
        clear hK hH0
        try simp only [Act.put, List.setIfInBounds_toArray, List.set_cons_zero, List.set_cons_succ]
        refine wpAnyH_done (by kernel_rfl) ?_ _
        clear hH2
        go_wp2
        go_roundw
        case rel => exact ⟨k + 1, _, by omega, by go_num, HOf.out, Hst, HWf.out⟩
        case measure => simp [intOf]; omega
    · have : k = c.length := by omega
      subst this
      have hf := hE.out.1
      rw [List.take_length] at hf
      have HF : Hid (OwnI wr base 3 (.slice (some ⟨g, 0, none⟩) n vc) (dgR r0 c)) := Lib.hid (by rw [← hf]; exact HO.out)
      clear hO hW hf
      go_wp2
      go_end0
      exact ⟨⟨_, rfl⟩, HF.out, HW.out⟩
end Go.Proofs.Ytmgejacndhnikaa
