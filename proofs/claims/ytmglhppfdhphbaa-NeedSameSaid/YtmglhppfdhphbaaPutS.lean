/- need.Run walked, for steps that may be. -/
import Derived.Test.YtmglhppfdhphbaaPutR
namespace Go.Proofs.Ytmglhppfdhphbaa
open Go.RowKit

section
variable {vars regs : Int} {hv : List Int}
theorem rg1_bd {r : List Int} {s : Step} (hh : ∀ x ∈ hv, 0 ≤ x ∧ x ≤ 255) (hr : ∀ x ∈ r, 0 ≤ x ∧ x ≤ 255) (hs : StOk vars regs s) : ∀ x ∈ rg1 hv r s, 0 ≤ x ∧ x ≤ 255 := by
  obtain ⟨o1, o6, on, ov, _, _⟩ := hs
  intro x hx
  unfold rg1 at hx
  rcases List.mem_or_eq_of_mem_set hx with h | h
  · exact hr x h
  · subst h
    split
    · rename_i h1; exact on h1
    · split
      · exact getD_mem_bd hh _
      · exact doF_bd _ _ _
theorem rgR_bd {c : List Step} (hh : ∀ x ∈ hv, 0 ≤ x ∧ x ≤ 255) (hs : ∀ s ∈ c, StOk vars regs s) : ∀ {r : List Int}, (∀ x ∈ r, 0 ≤ x ∧ x ≤ 255) → ∀ x ∈ rgR hv r c, 0 ≤ x ∧ x ≤ 255 := by
  induction c with
  | nil => intro r hr; exact hr
  | cons s c ih => intro r hr; exact ih (fun s' h => hs s' (by simp [h])) (rg1_bd hh hr (hs s (by simp)))
end
set_option maxRecDepth 100000 in
set_option maxHeartbeats 8000000 in
theorem needRun_ok (vars : Int) (n : Nat) (A B : Option Addr) (c : List Step) (hv : List Int) (capA capB : Nat) (w : World) (hA : RdSt w A c) (hB : RdI w B hv) (hv0 : 0 ≤ vars) (hv6 : vars ≤ 6) (hr1 : 1 ≤ n) (hr8 : n ≤ 8) (hn : c.length ≤ 40) (hs : ∀ s ∈ c, StOk vars n s) (h1 : haveErr vars hv = 0) :
    Calls Try.prog 35 #[.int .i64 vars, .slice A c.length capA, .int .i64 n, .slice B hv.length capB] w fun e w' => ∃ v, e = .returned (.tuple #[v, .int .i64 0]) ∧ OwnI w' w.heap.size 3 v (rgR hv (List.replicate n 0) c) ∧ Below w.heap.size w w' := by
  obtain ⟨hl, hh⟩ := haveErr_ok h1
  have HA := Lib.hid hA
  have HB := Lib.hid hB
  have HS := Lib.hid hs
  have H1 := Lib.hid h1
  have HH := Lib.hid hh
  have Hl := Lib.hid hl
  clear hA hB hs h1 hh hl
  go_enter Try.func35, Try.ntmps35
  go_wp2_with (first
    | (go_at_call 51; refine (needCheck_ok vars n A c capA w HA.out hv0 hv6 (by omega) (by omega) hn HS.out).mono ?_; rintro e w1 ⟨rfl, hW⟩; have HW1 := Lib.hid hW; have HA1 := Lib.hid (Rd.below HA.out hW); have HB1 := Lib.hid (Rd.below HB.out hW); clear hW)
    | (go_at_call 44; refine (have_calls vars B hv capB _ HB1.out (by have := Hl.out; unfold maxLen; omega)).mono ?_; rintro e w2 ⟨rfl, rfl⟩; rw [H1.out])
    | (at_make; refine wpList_makeI rfl _ _ rfl w2.heap.size n rfl rfl (by omega) (Nat.le_refl _) ?_; intro w3 hown3 hgrow3
       have HW3 := Lib.hid (HW1.out.trans (((Below.refl w2.heap.size w2).grown hgrow3 (Nat.le_refl _) (fun k hk => by cases hk)).mono HW1.out.size))
       have HO3 := Lib.hid hown3
       clear hown3 hgrow3))
  have hw2 := HW1.out.size
  go_loopw [32] (fun i wr => ∃ (k : Nat) (r : List Int), k ≤ c.length ∧ i = .int .i64 k ∧ OwnI wr w2.heap.size 3 (.slice (some ⟨w2.heap.size, 0, none⟩) n n) r ∧ Hid (r = rgR hv (List.replicate n 0) (c.take k) ∧ r.length = n ∧ ∀ x ∈ r, 0 ≤ x ∧ x ≤ 255) ∧ Below w.heap.size w wr) (fun i _ => c.length - (intOf i).toNat)
  case atStart => exact ⟨0, _, Nat.zero_le _, rfl, HO3.out, Lib.hid ⟨rfl, by simp, fun x hx => by have := (List.mem_replicate.1 hx).2; omega⟩, HW3.out⟩
  case round =>
    clear HO3 HW3
    obtain ⟨k, r, hk, rfl, hO, hE, hW⟩ := hrel
    have hws := hW.size
    have HO := Lib.hid hO
    have HW := Lib.hid hW
    by_cases hlt : k < c.length
    · obtain ⟨b, off, rfl, hb, k0, k1, k2, k3, k4⟩ := RdSt.at5 (Rd.below HA.out hW) hlt
      have q1 : ((k : Nat) : Int) < ((c.length : Nat) : Int) := by omega
      have hok := HS.out c[k] (List.getElem_mem hlt)
      have hst : rg1 hv r c[k] = rgR hv (List.replicate n 0) (c.take (k + 1)) ∧ (rg1 hv r c[k]).length = n ∧ ∀ x ∈ rg1 hv r c[k], 0 ≤ x ∧ x ≤ 255 := by
        refine ⟨?_, by rw [rg1_len]; exact hE.out.2.1, rg1_bd HH.out hE.out.2.2 hok⟩
        rw [List.take_succ_eq_append_getElem hlt, rgR_append, ← hE.out.1]; rfl
      have Hst := Lib.hid hst
      have hrl := hE.out.2.1
      have Hbd := Lib.hid hE.out.2.2
      obtain ⟨o1, o6, on, ov, ⟨t0, t1⟩, oab⟩ := hok
      clear hst hE
      generalize c[k] = s at *
      obtain ⟨op, sto, sa, sb, sv⟩ := s
      dsimp only at o1 o6 on ov t0 t1 oab k0 k1 k2 k3 k4
      obtain ⟨d, rfl⟩ := Int.eq_ofNat_of_zero_le t0
      have hd : d < n := by omega
      have qd : ((d : Nat) : Int) < ((n : Nat) : Int) := t1
      obtain ⟨g, eg, hg1, hg2, _, hfz, hcell⟩ := OwnI.at2 hO (by omega)
      injection eg with eg; injection eg with eg
      subst eg
      have c5 := hcell d (by omega)
      have f5 := hfz d
      have HOa := Lib.hid (fun o : Int => HO.out.alloc (.cells #[.int .i64 o, .int .i64 (d : Nat), .int .i64 sa, .int .i64 sb, .int .i64 sv] 44))
      have HWa := Lib.hid (fun o : Int => HW.out.alloc hws (.cells #[.int .i64 o, .int .i64 (d : Nat), .int .i64 sa, .int .i64 sb, .int .i64 sv] 44))
      have hgw : w2.heap.size < wr.heap.size := hg2
      clear hO hW
      by_cases h1 : op = 1
      · subst h1
        have e1 : rg1 hv r ⟨1, (d : Nat), sa, sb, sv⟩ = r.set d sv := by unfold rg1; dsimp only; rw [if_pos rfl, Int.toNat_natCast]
        rw [e1] at Hst
        have HOf := Lib.hid ((OwnI.set_ HO.out (k := d) (by omega) sv).alloc (.cells #[.int .i64 1, .int .i64 (d : Nat), .int .i64 sa, .int .i64 sb, .int .i64 sv] 44))
        have HWf := Lib.hid ((HW.out.setCell (p := ⟨w2.heap.size, d, none⟩) hw2 (.int .i64 sv)).alloc (by simpa [World.setCell] using hws) (.cells #[.int .i64 1, .int .i64 (d : Nat), .int .i64 sa, .int .i64 sb, .int .i64 sv] 44))
        clear e1 hfz hcell on ov oab
        go_wp2
        go_roundw
        case rel => exact ⟨k + 1, _, by omega, by go_num, HOf.out, Hst, HWf.out⟩
        case measure => simp [intOf]; omega
      by_cases h2 : op = 2
      · subst h2
        obtain ⟨v0, v1⟩ := ov rfl
        obtain ⟨m, rfl⟩ := Int.eq_ofNat_of_zero_le v0
        have hml : m < hv.length := by have := Hl.out; omega
        have e1 : rg1 hv r ⟨2, (d : Nat), sa, sb, (m : Nat)⟩ = r.set d (hv.getD m 0) := by unfold rg1; dsimp only; rw [if_neg (by decide), if_pos rfl, Int.toNat_natCast, Int.toNat_natCast]
        rw [e1] at Hst
        obtain ⟨bh, offh, rfl, hbh, -⟩ := RdI.at1 HB.out hml
        obtain ⟨bh', offh', eh, _, ch⟩ := RdI.at1 (Rd.below HB.out HW.out) hml
        injection eh with eh
        injection eh with eh1 eh2 _
        subst eh1 eh2
        rw [show hv[m] = hv.getD m 0 from (getD_get hml).symm] at ch
        have q2 : ((m : Nat) : Int) < ((hv.length : Nat) : Int) := by omega
        generalize hv.getD m 0 = x at *
        have HOf := Lib.hid (OwnI.set_ (HOa.out 2).drew (k := d) (by omega) x)
        have HWf := Lib.hid ((HWa.out 2).drew.setCell (p := ⟨w2.heap.size, d, none⟩) hw2 (.int .i64 x))
        have hbr : bh < wr.heap.size := by omega
        have Hk0 : Hid ((wr.alloc (.cells #[.int .i64 2, .int .i64 (d : Nat), .int .i64 sa, .int .i64 sb, .int .i64 (m : Nat)] 44)).drew.cell? ⟨w2.heap.size, d, none⟩ = some (.int .i64 (r[d]'(by omega)))) := Lib.hid ((cell_grown (World.grownBy_alloc wr _ none) _ d hgw (by simp)).trans c5)
        have Hf0 : Hid ((wr.alloc (.cells #[.int .i64 2, .int .i64 (d : Nat), .int .i64 sa, .int .i64 sb, .int .i64 (m : Nat)] 44)).drew.frozen? ⟨w2.heap.size, d, none⟩ = false) := Lib.hid (by rw [World.frozen?_drew, frozen?_alloc_cells]; exact f5)
        have Hs0 : Hid ((wr.alloc (.cells #[.int .i64 2, .int .i64 (d : Nat), .int .i64 sa, .int .i64 sb, .int .i64 (m : Nat)] 44)).drew.cell? ⟨wr.heap.size, 1, none⟩ = some (.int .i64 (d : Nat)) ∧ (wr.alloc (.cells #[.int .i64 2, .int .i64 (d : Nat), .int .i64 sa, .int .i64 sb, .int .i64 (m : Nat)] 44)).drew.cell? ⟨wr.heap.size, 4, none⟩ = some (.int .i64 (m : Nat)) ∧ (wr.alloc (.cells #[.int .i64 2, .int .i64 (d : Nat), .int .i64 sa, .int .i64 sb, .int .i64 (m : Nat)] 44)).drew.cell? ⟨bh, offh + m, none⟩ = some (.int .i64 x)) := Lib.hid ⟨cell_new wr _ _ wr.heap.size rfl 1, cell_new wr _ _ wr.heap.size rfl 4, (cell_grown (World.grownBy_alloc wr _ none) _ _ hbr (by simp)).trans ch⟩
        have Hkp : Hid (∀ (w' : World), (w'.cell? ⟨wr.heap.size, 1, none⟩ = some (.int .i64 (d : Nat)) ∧ w'.cell? ⟨wr.heap.size, 4, none⟩ = some (.int .i64 (m : Nat)) ∧ w'.cell? ⟨bh, offh + m, none⟩ = some (.int .i64 x)) → ((w'.setCell ⟨w2.heap.size, d, none⟩ (.int .i64 x)).cell? ⟨wr.heap.size, 1, none⟩ = some (.int .i64 (d : Nat)) ∧ (w'.setCell ⟨w2.heap.size, d, none⟩ (.int .i64 x)).cell? ⟨wr.heap.size, 4, none⟩ = some (.int .i64 (m : Nat)) ∧ (w'.setCell ⟨w2.heap.size, d, none⟩ (.int .i64 x)).cell? ⟨bh, offh + m, none⟩ = some (.int .i64 x))) := Lib.hid fun w' hs => by
          rw [World.cell?_setCell_far _ _ _ _ (by show w2.heap.size ≠ wr.heap.size; omega), World.cell?_setCell_far _ _ _ _ (by show w2.heap.size ≠ wr.heap.size; omega), World.cell?_setCell_far _ _ _ _ (by show w2.heap.size ≠ bh; omega)]
          exact hs
        clear e1 hfz hcell on ov oab HOa HWa c5 f5
        go_wp2
        refine wp_region_held_drew (S := fun w' => w'.cell? ⟨wr.heap.size, 1, none⟩ = some (.int .i64 (d : Nat)) ∧ w'.cell? ⟨wr.heap.size, 4, none⟩ = some (.int .i64 (m : Nat)) ∧ w'.cell? ⟨bh, offh + m, none⟩ = some (.int .i64 x)) (by kernel_rfl) Hs0.out (fun hH0 => ?_)
        generalize (wr.alloc (.cells #[.int .i64 2, .int .i64 (d : Nat), .int .i64 sa, .int .i64 sb, .int .i64 (m : Nat)] 44)).drew = w0 at *
        -- region 16
        refine wpAnyH_take (i := 0) (oi := { dst := some 65, op := Go.Op.move (Go.Operand.tmp 12), type := 23, pos := "need.go:137", after := #[], guard := none }) rfl (by kernel_rfl) (by kernel_rfl) (by kernel_rfl) (fun _ _ _ h => h) (Or.inl ⟨by rfl, fun w hw => by (go_simp; try with_reducible rfl)⟩) (by assumption) ?_
        try simp only [Act.put, List.setIfInBounds_toArray, List.set_cons_zero, List.set_cons_succ]
        refine wpAnyH_take (i := 1) (oi := { dst := some 66, op := Go.Op.fieldAddr 44 (Go.Operand.tmp 14) 1, type := 0, pos := "need.go:137", after := #[], guard := none }) rfl (by kernel_rfl) (by kernel_rfl) (by kernel_rfl) (fun _ _ _ h => h) (Or.inl ⟨by rfl, fun w hw => by (go_simp; try with_reducible rfl)⟩) (by assumption) ?_
        try simp only [Act.put, List.setIfInBounds_toArray, List.set_cons_zero, List.set_cons_succ]
        refine wpAnyH_take (i := 2) (oi := { dst := some 67, op := Go.Op.load 3 (Go.Operand.tmp 66), type := 3, pos := "need.go:137", after := #[{ on := 1, ground := Go.Ground.data }], guard := none }) rfl (by kernel_rfl) (by kernel_rfl) (by kernel_rfl) (fun _ _ _ h => h) (Or.inl ⟨by rfl, fun w hw => by (obtain ⟨p0, p1, p2⟩ := hw; go_simp; try with_reducible rfl)⟩) (by assumption) ?_
        try simp only [Act.put, List.setIfInBounds_toArray, List.set_cons_zero, List.set_cons_succ]
        refine wpAnyH_take (i := 3) (oi := { dst := some 68, op := Go.Op.move (Go.Operand.tmp 3), type := 23, pos := "need.go:137", after := #[], guard := none }) rfl (by kernel_rfl) (by kernel_rfl) (by kernel_rfl) (fun _ _ _ h => h) (Or.inl ⟨by rfl, fun w hw => by (go_simp; try with_reducible rfl)⟩) (by assumption) ?_
        try simp only [Act.put, List.setIfInBounds_toArray, List.set_cons_zero, List.set_cons_succ]
        refine wpAnyH_take (i := 4) (oi := { dst := some 69, op := Go.Op.fieldAddr 44 (Go.Operand.tmp 14) 4, type := 0, pos := "need.go:137", after := #[], guard := none }) rfl (by kernel_rfl) (by kernel_rfl) (by kernel_rfl) (fun _ _ _ h => h) (Or.inl ⟨by rfl, fun w hw => by (go_simp; try with_reducible rfl)⟩) (by assumption) ?_
        try simp only [Act.put, List.setIfInBounds_toArray, List.set_cons_zero, List.set_cons_succ]
        refine wpAnyH_take (i := 5) (oi := { dst := some 70, op := Go.Op.load 3 (Go.Operand.tmp 69), type := 3, pos := "need.go:137", after := #[{ on := 4, ground := Go.Ground.data }], guard := none }) rfl (by kernel_rfl) (by kernel_rfl) (by kernel_rfl) (fun _ _ _ h => h) (Or.inl ⟨by rfl, fun w hw => by (obtain ⟨p0, p1, p2⟩ := hw; go_simp; try with_reducible rfl)⟩) (by assumption) ?_
        try simp only [Act.put, List.setIfInBounds_toArray, List.set_cons_zero, List.set_cons_succ]
        refine wpAnyH_take (i := 6) (oi := { dst := some 71, op := Go.Op.indexAddr 23 (Go.Operand.tmp 68) (Go.Operand.tmp 70), type := 0, pos := "need.go:137", after := #[{ on := 3, ground := Go.Ground.data }, { on := 5, ground := Go.Ground.data }], guard := none }) rfl (by kernel_rfl) (by kernel_rfl) (by kernel_rfl) (fun _ _ _ h => h) (Or.inl ⟨by rfl, fun w hw => by (go_simp; try with_reducible rfl)⟩) (by assumption) ?_
        try simp only [Act.put, List.setIfInBounds_toArray, List.set_cons_zero, List.set_cons_succ]
        refine wpAnyH_take (i := 7) (oi := { dst := some 72, op := Go.Op.load 3 (Go.Operand.tmp 71), type := 3, pos := "need.go:137", after := #[{ on := 6, ground := Go.Ground.data }], guard := none }) rfl (by kernel_rfl) (by kernel_rfl) (by kernel_rfl) (fun _ _ _ h => h) (Or.inl ⟨by rfl, fun w hw => by (obtain ⟨p0, p1, p2⟩ := hw; go_simp; try with_reducible rfl)⟩) (by assumption) ?_
        try simp only [Act.put, List.setIfInBounds_toArray, List.set_cons_zero, List.set_cons_succ]
        refine wpAnyH_take (i := 8) (oi := { dst := some 73, op := Go.Op.indexAddr 23 (Go.Operand.tmp 65) (Go.Operand.tmp 67), type := 0, pos := "need.go:137", after := #[{ on := 0, ground := Go.Ground.data }, { on := 2, ground := Go.Ground.data }, { on := 0, ground := Go.Ground.phase }, { on := 1, ground := Go.Ground.phase }, { on := 2, ground := Go.Ground.phase }, { on := 3, ground := Go.Ground.phase }, { on := 4, ground := Go.Ground.phase }, { on := 5, ground := Go.Ground.phase }, { on := 6, ground := Go.Ground.phase }, { on := 7, ground := Go.Ground.phase }], guard := none }) rfl (by kernel_rfl) (by kernel_rfl) (by kernel_rfl) (fun _ _ _ h => h) (Or.inl ⟨by rfl, fun w hw => by (go_simp; try with_reducible rfl)⟩) (by assumption) ?_
        try simp only [Act.put, List.setIfInBounds_toArray, List.set_cons_zero, List.set_cons_succ]
        refine wpAnyH_ready (rs := [9]) (by kernel_rfl) (by simp) ?_
        refine AllReadyH.cons (o := { dst := none, op := Go.Op.store 3 (Go.Operand.tmp 73) (Go.Operand.tmp 72), type := 0, pos := "need.go:137", after := #[{ on := 8, ground := Go.Ground.data }, { on := 7, ground := Go.Ground.data }, { on := 0, ground := Go.Ground.phase }, { on := 1, ground := Go.Ground.phase }, { on := 2, ground := Go.Ground.phase }, { on := 3, ground := Go.Ground.phase }, { on := 4, ground := Go.Ground.phase }, { on := 5, ground := Go.Ground.phase }, { on := 6, ground := Go.Ground.phase }, { on := 7, ground := Go.Ground.phase }], guard := none }) rfl (fun K hK => ?_) AllReadyH.nil
        have f0 := Hf0.out
        have e0 := Hk0.out
        go_simp
        refine hK.out _ _ (Hkp.out _ hH0) (fun hH2 => ?_)
        clear hK hH0
        try simp only [Act.put, List.setIfInBounds_toArray, List.set_cons_zero, List.set_cons_succ]
        refine wpAnyH_done (by kernel_rfl) ?_ _
        clear hH2
        go_wp2
        go_roundw
        case rel => exact ⟨k + 1, _, by omega, by go_num, HOf.out, Hst.out, HWf.out⟩
        case measure => simp [intOf]; omega
        -- end region 16
      · obtain ⟨⟨a0, a1⟩, b0, b1⟩ := oab (by omega)
        obtain ⟨a, rfl⟩ := Int.eq_ofNat_of_zero_le a0
        obtain ⟨b', rfl⟩ := Int.eq_ofNat_of_zero_le b0
        have e1 : rg1 hv r ⟨op, (d : Nat), (a : Nat), (b' : Nat), sv⟩ = r.set d (doF op (r.getD a 0) (r.getD b' 0)) := by unfold rg1; dsimp only; rw [if_neg h1, if_neg h2, Int.toNat_natCast, Int.toNat_natCast, Int.toNat_natCast]
        rw [e1] at Hst
        have ca := hcell a (by omega)
        have cb := hcell b' (by omega)
        rw [show r[a] = r.getD a 0 from (getD_get (by omega)).symm] at ca
        rw [show r[b'] = r.getD b' 0 from (getD_get (by omega)).symm] at cb
        have bx := getD_mem_bd Hbd.out a
        have by_ := getD_mem_bd Hbd.out b'
        have Hcl := Lib.hid (fun w => do_calls op (r.getD a 0) (r.getD b' 0) w bx by_)
        have HOf0 := Lib.hid (fun x : Int => OwnI.set_ (HOa.out op).drew (k := d) (by omega) x)
        have HWf0 := Lib.hid (fun x : Int => (HWa.out op).drew.setCell (p := ⟨w2.heap.size, d, none⟩) hw2 (.int .i64 x))
        have Hk0 : Hid ((wr.alloc (.cells #[.int .i64 op, .int .i64 (d : Nat), .int .i64 (a : Nat), .int .i64 (b' : Nat), .int .i64 sv] 44)).drew.cell? ⟨w2.heap.size, d, none⟩ = some (.int .i64 (r[d]'(by omega)))) := Lib.hid ((cell_grown (World.grownBy_alloc wr _ none) _ d hgw (by simp)).trans c5)
        have Hf0 : Hid ((wr.alloc (.cells #[.int .i64 op, .int .i64 (d : Nat), .int .i64 (a : Nat), .int .i64 (b' : Nat), .int .i64 sv] 44)).drew.frozen? ⟨w2.heap.size, d, none⟩ = false) := Lib.hid (by rw [World.frozen?_drew, frozen?_alloc_cells]; exact f5)
        have Hra : Hid ((wr.alloc (.cells #[.int .i64 op, .int .i64 (d : Nat), .int .i64 (a : Nat), .int .i64 (b' : Nat), .int .i64 sv] 44)).drew.cell? ⟨w2.heap.size, a, none⟩ = some (.int .i64 (r.getD a 0))) := Lib.hid ((cell_grown (World.grownBy_alloc wr _ none) _ a hgw (by simp)).trans ca)
        have Hrb : Hid ((wr.alloc (.cells #[.int .i64 op, .int .i64 (d : Nat), .int .i64 (a : Nat), .int .i64 (b' : Nat), .int .i64 sv] 44)).drew.cell? ⟨w2.heap.size, b', none⟩ = some (.int .i64 (r.getD b' 0))) := Lib.hid ((cell_grown (World.grownBy_alloc wr _ none) _ b' hgw (by simp)).trans cb)
        have Hs0 : Hid ((wr.alloc (.cells #[.int .i64 op, .int .i64 (d : Nat), .int .i64 (a : Nat), .int .i64 (b' : Nat), .int .i64 sv] 44)).drew.cell? ⟨wr.heap.size, 1, none⟩ = some (.int .i64 (d : Nat)) ∧ (wr.alloc (.cells #[.int .i64 op, .int .i64 (d : Nat), .int .i64 (a : Nat), .int .i64 (b' : Nat), .int .i64 sv] 44)).drew.cell? ⟨wr.heap.size, 0, none⟩ = some (.int .i64 op) ∧ (wr.alloc (.cells #[.int .i64 op, .int .i64 (d : Nat), .int .i64 (a : Nat), .int .i64 (b' : Nat), .int .i64 sv] 44)).drew.cell? ⟨wr.heap.size, 2, none⟩ = some (.int .i64 (a : Nat)) ∧ (wr.alloc (.cells #[.int .i64 op, .int .i64 (d : Nat), .int .i64 (a : Nat), .int .i64 (b' : Nat), .int .i64 sv] 44)).drew.cell? ⟨wr.heap.size, 3, none⟩ = some (.int .i64 (b' : Nat))) := Lib.hid ⟨cell_new wr _ _ wr.heap.size rfl 1, cell_new wr _ _ wr.heap.size rfl 0, cell_new wr _ _ wr.heap.size rfl 2, cell_new wr _ _ wr.heap.size rfl 3⟩
        have qa : ((a : Nat) : Int) < ((n : Nat) : Int) := a1
        have qb : ((b' : Nat) : Int) < ((n : Nat) : Int) := b1
        have q6 : (op == 1) = false := by rw [beq_eq_false_iff_ne]; exact h1
        have q7 : (op == 2) = false := by rw [beq_eq_false_iff_ne]; exact h2
        clear e1 hfz hcell on ov oab HOa HWa c5 f5 ca cb
        generalize r.getD a 0 = x at *
        generalize r.getD b' 0 = y at *
        have hdb := doF_bd op x y
        generalize doF op x y = z at *
        have HOf := Lib.hid (HOf0.out z)
        have HWf := Lib.hid (HWf0.out z)
        have Hkp : Hid (∀ (w' : World), (w'.cell? ⟨wr.heap.size, 1, none⟩ = some (.int .i64 (d : Nat)) ∧ w'.cell? ⟨wr.heap.size, 0, none⟩ = some (.int .i64 op) ∧ w'.cell? ⟨wr.heap.size, 2, none⟩ = some (.int .i64 (a : Nat)) ∧ w'.cell? ⟨wr.heap.size, 3, none⟩ = some (.int .i64 (b' : Nat))) → ((w'.setCell ⟨w2.heap.size, d, none⟩ (.int .i64 z)).cell? ⟨wr.heap.size, 1, none⟩ = some (.int .i64 (d : Nat)) ∧ (w'.setCell ⟨w2.heap.size, d, none⟩ (.int .i64 z)).cell? ⟨wr.heap.size, 0, none⟩ = some (.int .i64 op) ∧ (w'.setCell ⟨w2.heap.size, d, none⟩ (.int .i64 z)).cell? ⟨wr.heap.size, 2, none⟩ = some (.int .i64 (a : Nat)) ∧ (w'.setCell ⟨w2.heap.size, d, none⟩ (.int .i64 z)).cell? ⟨wr.heap.size, 3, none⟩ = some (.int .i64 (b' : Nat)))) := Lib.hid fun w' hs => by
          rw [World.cell?_setCell_far _ _ _ _ (by show w2.heap.size ≠ wr.heap.size; omega), World.cell?_setCell_far _ _ _ _ (by show w2.heap.size ≠ wr.heap.size; omega), World.cell?_setCell_far _ _ _ _ (by show w2.heap.size ≠ wr.heap.size; omega), World.cell?_setCell_far _ _ _ _ (by show w2.heap.size ≠ wr.heap.size; omega)]
          exact hs
        clear HOf0 HWf0
        go_wp2
        refine wp_region_held_drew (S := fun w' => w'.cell? ⟨wr.heap.size, 1, none⟩ = some (.int .i64 (d : Nat)) ∧ w'.cell? ⟨wr.heap.size, 0, none⟩ = some (.int .i64 op) ∧ w'.cell? ⟨wr.heap.size, 2, none⟩ = some (.int .i64 (a : Nat)) ∧ w'.cell? ⟨wr.heap.size, 3, none⟩ = some (.int .i64 (b' : Nat))) (by kernel_rfl) Hs0.out (fun hH0 => ?_)
        generalize (wr.alloc (.cells #[.int .i64 op, .int .i64 (d : Nat), .int .i64 (a : Nat), .int .i64 (b' : Nat), .int .i64 sv] 44)).drew = w0 at *
        -- region 12
        refine wpAnyH_take (i := 0) (oi := { dst := some 38, op := Go.Op.move (Go.Operand.tmp 12), type := 23, pos := "need.go:139", after := #[], guard := none }) rfl (by kernel_rfl) (by kernel_rfl) (by kernel_rfl) (fun _ _ _ h => h) (Or.inl ⟨by rfl, fun w hw => by (go_simp; try with_reducible rfl)⟩) (by assumption) ?_
        try simp only [Act.put, List.setIfInBounds_toArray, List.set_cons_zero, List.set_cons_succ]
        refine wpAnyH_take (i := 1) (oi := { dst := some 39, op := Go.Op.fieldAddr 44 (Go.Operand.tmp 14) 1, type := 0, pos := "need.go:139", after := #[], guard := none }) rfl (by kernel_rfl) (by kernel_rfl) (by kernel_rfl) (fun _ _ _ h => h) (Or.inl ⟨by rfl, fun w hw => by (go_simp; try with_reducible rfl)⟩) (by assumption) ?_
        try simp only [Act.put, List.setIfInBounds_toArray, List.set_cons_zero, List.set_cons_succ]
        refine wpAnyH_take (i := 2) (oi := { dst := some 40, op := Go.Op.load 3 (Go.Operand.tmp 39), type := 3, pos := "need.go:139", after := #[{ on := 1, ground := Go.Ground.data }], guard := none }) rfl (by kernel_rfl) (by kernel_rfl) (by kernel_rfl) (fun _ _ _ h => h) (Or.inl ⟨by rfl, fun w hw => by (obtain ⟨p0, p1, p2, p3⟩ := hw; go_simp; try with_reducible rfl)⟩) (by assumption) ?_
        try simp only [Act.put, List.setIfInBounds_toArray, List.set_cons_zero, List.set_cons_succ]
        refine wpAnyH_take (i := 3) (oi := { dst := some 41, op := Go.Op.fieldAddr 44 (Go.Operand.tmp 14) 0, type := 0, pos := "need.go:139", after := #[], guard := none }) rfl (by kernel_rfl) (by kernel_rfl) (by kernel_rfl) (fun _ _ _ h => h) (Or.inl ⟨by rfl, fun w hw => by (go_simp; try with_reducible rfl)⟩) (by assumption) ?_
        try simp only [Act.put, List.setIfInBounds_toArray, List.set_cons_zero, List.set_cons_succ]
        refine wpAnyH_take (i := 4) (oi := { dst := some 42, op := Go.Op.load 3 (Go.Operand.tmp 41), type := 3, pos := "need.go:139", after := #[{ on := 3, ground := Go.Ground.data }], guard := none }) rfl (by kernel_rfl) (by kernel_rfl) (by kernel_rfl) (fun _ _ _ h => h) (Or.inl ⟨by rfl, fun w hw => by (obtain ⟨p0, p1, p2, p3⟩ := hw; go_simp; try with_reducible rfl)⟩) (by assumption) ?_
        try simp only [Act.put, List.setIfInBounds_toArray, List.set_cons_zero, List.set_cons_succ]
        refine wpAnyH_take (i := 5) (oi := { dst := some 43, op := Go.Op.move (Go.Operand.tmp 12), type := 23, pos := "need.go:139", after := #[], guard := none }) rfl (by kernel_rfl) (by kernel_rfl) (by kernel_rfl) (fun _ _ _ h => h) (Or.inl ⟨by rfl, fun w hw => by (go_simp; try with_reducible rfl)⟩) (by assumption) ?_
        try simp only [Act.put, List.setIfInBounds_toArray, List.set_cons_zero, List.set_cons_succ]
        refine wpAnyH_take (i := 6) (oi := { dst := some 44, op := Go.Op.fieldAddr 44 (Go.Operand.tmp 14) 2, type := 0, pos := "need.go:139", after := #[], guard := none }) rfl (by kernel_rfl) (by kernel_rfl) (by kernel_rfl) (fun _ _ _ h => h) (Or.inl ⟨by rfl, fun w hw => by (go_simp; try with_reducible rfl)⟩) (by assumption) ?_
        try simp only [Act.put, List.setIfInBounds_toArray, List.set_cons_zero, List.set_cons_succ]
        refine wpAnyH_take (i := 7) (oi := { dst := some 45, op := Go.Op.load 3 (Go.Operand.tmp 44), type := 3, pos := "need.go:139", after := #[{ on := 6, ground := Go.Ground.data }], guard := none }) rfl (by kernel_rfl) (by kernel_rfl) (by kernel_rfl) (fun _ _ _ h => h) (Or.inl ⟨by rfl, fun w hw => by (obtain ⟨p0, p1, p2, p3⟩ := hw; go_simp; try with_reducible rfl)⟩) (by assumption) ?_
        try simp only [Act.put, List.setIfInBounds_toArray, List.set_cons_zero, List.set_cons_succ]
        refine wpAnyH_take (i := 8) (oi := { dst := some 46, op := Go.Op.indexAddr 23 (Go.Operand.tmp 43) (Go.Operand.tmp 45), type := 0, pos := "need.go:139", after := #[{ on := 5, ground := Go.Ground.data }, { on := 7, ground := Go.Ground.data }], guard := none }) rfl (by kernel_rfl) (by kernel_rfl) (by kernel_rfl) (fun _ _ _ h => h) (Or.inl ⟨by rfl, fun w hw => by (go_simp; try with_reducible rfl)⟩) (by assumption) ?_
        try simp only [Act.put, List.setIfInBounds_toArray, List.set_cons_zero, List.set_cons_succ]
        refine wpAnyH_take (i := 10) (oi := { dst := some 48, op := Go.Op.move (Go.Operand.tmp 12), type := 23, pos := "need.go:139", after := #[], guard := none }) rfl (by kernel_rfl) (by kernel_rfl) (by kernel_rfl) (fun _ _ _ h => h) (Or.inl ⟨by rfl, fun w hw => by (go_simp; try with_reducible rfl)⟩) (by assumption) ?_
        try simp only [Act.put, List.setIfInBounds_toArray, List.set_cons_zero, List.set_cons_succ]
        refine wpAnyH_take (i := 11) (oi := { dst := some 49, op := Go.Op.fieldAddr 44 (Go.Operand.tmp 14) 3, type := 0, pos := "need.go:139", after := #[], guard := none }) rfl (by kernel_rfl) (by kernel_rfl) (by kernel_rfl) (fun _ _ _ h => h) (Or.inl ⟨by rfl, fun w hw => by (go_simp; try with_reducible rfl)⟩) (by assumption) ?_
        try simp only [Act.put, List.setIfInBounds_toArray, List.set_cons_zero, List.set_cons_succ]
        refine wpAnyH_take (i := 12) (oi := { dst := some 50, op := Go.Op.load 3 (Go.Operand.tmp 49), type := 3, pos := "need.go:139", after := #[{ on := 11, ground := Go.Ground.data }], guard := none }) rfl (by kernel_rfl) (by kernel_rfl) (by kernel_rfl) (fun _ _ _ h => h) (Or.inl ⟨by rfl, fun w hw => by (obtain ⟨p0, p1, p2, p3⟩ := hw; go_simp; try with_reducible rfl)⟩) (by assumption) ?_
        try simp only [Act.put, List.setIfInBounds_toArray, List.set_cons_zero, List.set_cons_succ]
        refine wpAnyH_take (i := 13) (oi := { dst := some 51, op := Go.Op.indexAddr 23 (Go.Operand.tmp 48) (Go.Operand.tmp 50), type := 0, pos := "need.go:139", after := #[{ on := 10, ground := Go.Ground.data }, { on := 12, ground := Go.Ground.data }], guard := none }) rfl (by kernel_rfl) (by kernel_rfl) (by kernel_rfl) (fun _ _ _ h => h) (Or.inl ⟨by rfl, fun w hw => by (go_simp; try with_reducible rfl)⟩) (by assumption) ?_
        try simp only [Act.put, List.setIfInBounds_toArray, List.set_cons_zero, List.set_cons_succ]
        refine wpAnyH_ready (rs := [9, 14]) (by kernel_rfl) (by simp) ?_
        refine AllReadyH.cons (o := { dst := some 47, op := Go.Op.load 3 (Go.Operand.tmp 46), type := 3, pos := "need.go:139", after := #[{ on := 8, ground := Go.Ground.data }], guard := none }) rfl (fun K hK => ?_) ?_
        · have cc := Hra.out
          go_simp
          clear cc
          refine hK.out _ _ hH0 (fun hH1 => ?_)
          clear hK hH0
          have hH0 := hH1
          clear hH1
          try simp only [Act.put, List.setIfInBounds_toArray, List.set_cons_zero, List.set_cons_succ]
          refine wpAnyH_ready (rs := [14]) (by kernel_rfl) (by simp) ?_
          refine AllReadyH.cons (o := { dst := some 52, op := Go.Op.load 3 (Go.Operand.tmp 51), type := 3, pos := "need.go:139", after := #[{ on := 13, ground := Go.Ground.data }], guard := none }) rfl (fun K hK => ?_) AllReadyH.nil
          have cc := Hrb.out
          go_simp
          clear cc
          refine hK.out _ _ hH0 (fun hH1 => ?_)
          clear hK hH0
          have hH0 := hH1
          clear hH1
          try simp only [Act.put, List.setIfInBounds_toArray, List.set_cons_zero, List.set_cons_succ]
          refine wpAnyH_ready (rs := [15]) (by kernel_rfl) (by simp) ?_
          refine AllReadyH.cons (o := { dst := some 53, op := Go.Op.call { callee := Go.Callee.value (Go.Operand.func 45), args := #[Go.Operand.tmp 42, Go.Operand.tmp 47, Go.Operand.tmp 52], argTypes := #[3, 3, 3] }, type := 3, pos := "need.go:139", after := #[{ on := 4, ground := Go.Ground.data }, { on := 9, ground := Go.Ground.data }, { on := 14, ground := Go.Ground.data }], guard := none }) rfl (fun K hK => ?_) AllReadyH.nil
          go_simp
          go_at_call 45
          refine (Hcl.out _).mono ?_
          rintro e w9 ⟨rfl, rfl⟩
          refine hK.out _ _ hH0 (fun hH1 => ?_)
          clear hK hH0
          have hH0 := hH1
          clear hH1
          try simp only [Act.put, List.setIfInBounds_toArray, List.set_cons_zero, List.set_cons_succ]
          refine wpAnyH_take (i := 16) (oi := { dst := some 54, op := Go.Op.indexAddr 23 (Go.Operand.tmp 38) (Go.Operand.tmp 40), type := 0, pos := "need.go:139", after := #[{ on := 0, ground := Go.Ground.data }, { on := 2, ground := Go.Ground.data }, { on := 0, ground := Go.Ground.phase }, { on := 1, ground := Go.Ground.phase }, { on := 2, ground := Go.Ground.phase }, { on := 3, ground := Go.Ground.phase }, { on := 4, ground := Go.Ground.phase }, { on := 5, ground := Go.Ground.phase }, { on := 6, ground := Go.Ground.phase }, { on := 7, ground := Go.Ground.phase }, { on := 8, ground := Go.Ground.phase }, { on := 9, ground := Go.Ground.phase }, { on := 10, ground := Go.Ground.phase }, { on := 11, ground := Go.Ground.phase }, { on := 12, ground := Go.Ground.phase }, { on := 13, ground := Go.Ground.phase }, { on := 14, ground := Go.Ground.phase }, { on := 15, ground := Go.Ground.phase }], guard := none }) rfl (by kernel_rfl) (by kernel_rfl) (by kernel_rfl) (fun _ _ _ h => h) (Or.inl ⟨by rfl, fun w hw => by (go_simp; try with_reducible rfl)⟩) (by assumption) ?_
          try simp only [Act.put, List.setIfInBounds_toArray, List.set_cons_zero, List.set_cons_succ]
          refine wpAnyH_ready (rs := [17]) (by kernel_rfl) (by simp) ?_
          refine AllReadyH.cons (o := { dst := none, op := Go.Op.store 3 (Go.Operand.tmp 54) (Go.Operand.tmp 53), type := 0, pos := "need.go:139", after := #[{ on := 16, ground := Go.Ground.data }, { on := 15, ground := Go.Ground.data }, { on := 15, ground := Go.Ground.chain }, { on := 0, ground := Go.Ground.phase }, { on := 1, ground := Go.Ground.phase }, { on := 2, ground := Go.Ground.phase }, { on := 3, ground := Go.Ground.phase }, { on := 4, ground := Go.Ground.phase }, { on := 5, ground := Go.Ground.phase }, { on := 6, ground := Go.Ground.phase }, { on := 7, ground := Go.Ground.phase }, { on := 8, ground := Go.Ground.phase }, { on := 9, ground := Go.Ground.phase }, { on := 10, ground := Go.Ground.phase }, { on := 11, ground := Go.Ground.phase }, { on := 12, ground := Go.Ground.phase }, { on := 13, ground := Go.Ground.phase }, { on := 14, ground := Go.Ground.phase }, { on := 15, ground := Go.Ground.phase }], guard := none }) rfl (fun K hK => ?_) AllReadyH.nil
          have f0 := Hf0.out
          have e0 := Hk0.out
          go_simp
          refine hK.out _ _ (Hkp.out _ hH0) (fun hH2 => ?_)
          clear hK hH0
          try simp only [Act.put, List.setIfInBounds_toArray, List.set_cons_zero, List.set_cons_succ]
          refine wpAnyH_done (by kernel_rfl) ?_ _
          clear hH2
          go_wp2
          go_roundw
          case rel => exact ⟨k + 1, _, by omega, by go_num, HOf.out, Hst.out, HWf.out⟩
          case measure => simp [intOf]; omega
        refine AllReadyH.cons (o := { dst := some 52, op := Go.Op.load 3 (Go.Operand.tmp 51), type := 3, pos := "need.go:139", after := #[{ on := 13, ground := Go.Ground.data }], guard := none }) rfl (fun K hK => ?_) AllReadyH.nil
        have cc := Hrb.out
        go_simp
        clear cc
        refine hK.out _ _ hH0 (fun hH1 => ?_)
        clear hK hH0
        have hH0 := hH1
        clear hH1
        try simp only [Act.put, List.setIfInBounds_toArray, List.set_cons_zero, List.set_cons_succ]
        refine wpAnyH_ready (rs := [9]) (by kernel_rfl) (by simp) ?_
        refine AllReadyH.cons (o := { dst := some 47, op := Go.Op.load 3 (Go.Operand.tmp 46), type := 3, pos := "need.go:139", after := #[{ on := 8, ground := Go.Ground.data }], guard := none }) rfl (fun K hK => ?_) AllReadyH.nil
        have cc := Hra.out
        go_simp
        clear cc
        refine hK.out _ _ hH0 (fun hH1 => ?_)
        clear hK hH0
        have hH0 := hH1
        clear hH1
        try simp only [Act.put, List.setIfInBounds_toArray, List.set_cons_zero, List.set_cons_succ]
        refine wpAnyH_ready (rs := [15]) (by kernel_rfl) (by simp) ?_
        refine AllReadyH.cons (o := { dst := some 53, op := Go.Op.call { callee := Go.Callee.value (Go.Operand.func 45), args := #[Go.Operand.tmp 42, Go.Operand.tmp 47, Go.Operand.tmp 52], argTypes := #[3, 3, 3] }, type := 3, pos := "need.go:139", after := #[{ on := 4, ground := Go.Ground.data }, { on := 9, ground := Go.Ground.data }, { on := 14, ground := Go.Ground.data }], guard := none }) rfl (fun K hK => ?_) AllReadyH.nil
        go_simp
        go_at_call 45
        refine (Hcl.out _).mono ?_
        rintro e w9 ⟨rfl, rfl⟩
        refine hK.out _ _ hH0 (fun hH1 => ?_)
        clear hK hH0
        have hH0 := hH1
        clear hH1
        try simp only [Act.put, List.setIfInBounds_toArray, List.set_cons_zero, List.set_cons_succ]
        refine wpAnyH_take (i := 16) (oi := { dst := some 54, op := Go.Op.indexAddr 23 (Go.Operand.tmp 38) (Go.Operand.tmp 40), type := 0, pos := "need.go:139", after := #[{ on := 0, ground := Go.Ground.data }, { on := 2, ground := Go.Ground.data }, { on := 0, ground := Go.Ground.phase }, { on := 1, ground := Go.Ground.phase }, { on := 2, ground := Go.Ground.phase }, { on := 3, ground := Go.Ground.phase }, { on := 4, ground := Go.Ground.phase }, { on := 5, ground := Go.Ground.phase }, { on := 6, ground := Go.Ground.phase }, { on := 7, ground := Go.Ground.phase }, { on := 8, ground := Go.Ground.phase }, { on := 9, ground := Go.Ground.phase }, { on := 10, ground := Go.Ground.phase }, { on := 11, ground := Go.Ground.phase }, { on := 12, ground := Go.Ground.phase }, { on := 13, ground := Go.Ground.phase }, { on := 14, ground := Go.Ground.phase }, { on := 15, ground := Go.Ground.phase }], guard := none }) rfl (by kernel_rfl) (by kernel_rfl) (by kernel_rfl) (fun _ _ _ h => h) (Or.inl ⟨by rfl, fun w hw => by (go_simp; try with_reducible rfl)⟩) (by assumption) ?_
        try simp only [Act.put, List.setIfInBounds_toArray, List.set_cons_zero, List.set_cons_succ]
        refine wpAnyH_ready (rs := [17]) (by kernel_rfl) (by simp) ?_
        refine AllReadyH.cons (o := { dst := none, op := Go.Op.store 3 (Go.Operand.tmp 54) (Go.Operand.tmp 53), type := 0, pos := "need.go:139", after := #[{ on := 16, ground := Go.Ground.data }, { on := 15, ground := Go.Ground.data }, { on := 15, ground := Go.Ground.chain }, { on := 0, ground := Go.Ground.phase }, { on := 1, ground := Go.Ground.phase }, { on := 2, ground := Go.Ground.phase }, { on := 3, ground := Go.Ground.phase }, { on := 4, ground := Go.Ground.phase }, { on := 5, ground := Go.Ground.phase }, { on := 6, ground := Go.Ground.phase }, { on := 7, ground := Go.Ground.phase }, { on := 8, ground := Go.Ground.phase }, { on := 9, ground := Go.Ground.phase }, { on := 10, ground := Go.Ground.phase }, { on := 11, ground := Go.Ground.phase }, { on := 12, ground := Go.Ground.phase }, { on := 13, ground := Go.Ground.phase }, { on := 14, ground := Go.Ground.phase }, { on := 15, ground := Go.Ground.phase }], guard := none }) rfl (fun K hK => ?_) AllReadyH.nil
        have f0 := Hf0.out
        have e0 := Hk0.out
        go_simp
        refine hK.out _ _ (Hkp.out _ hH0) (fun hH2 => ?_)
        clear hK hH0
        try simp only [Act.put, List.setIfInBounds_toArray, List.set_cons_zero, List.set_cons_succ]
        refine wpAnyH_done (by kernel_rfl) ?_ _
        clear hH2
        go_wp2
        go_roundw
        case rel => exact ⟨k + 1, _, by omega, by go_num, HOf.out, Hst.out, HWf.out⟩
        case measure => simp [intOf]; omega
        -- end region 12
    · have : k = c.length := by omega
      subst this
      have hf := hE.out.1
      rw [List.take_length] at hf
      have HF : Hid (OwnI wr w2.heap.size 3 (.slice (some ⟨w2.heap.size, 0, none⟩) n n) (rgR hv (List.replicate n 0) c)) := Lib.hid (by rw [← hf]; exact HO.out)
      clear hO hW hf
      go_wp2
      go_ret2
      exact ⟨_, rfl, Own.base_ HF.out hw2, HW.out⟩
end Go.Proofs.Ytmglhppfdhphbaa
