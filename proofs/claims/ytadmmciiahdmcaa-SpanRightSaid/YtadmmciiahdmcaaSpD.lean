/- span.behind walked (written by spdtree.py). -/
import Derived.Test.YtadmmciiahdmcaaSpC
import Derived.Test.YtadmmciiahdmcaaSpBb
import Derived.Test.YtadmmciiahdmcaaBlkA
import Derived.Deep.RegionHeld3
namespace Go.Proofs.Ytadmmciiahdmcaa
open Go.RowKit
theorem bel1_of {g : Nat} {w w' : World} (h : Below w.heap.size w w') : Bel1 g w w' := ⟨h.os, h.tape, h.output, h.size, fun k hk _ => h.block k hk⟩
def BehEndS (c : List Step) (a : List Sp) (w : World) (e : Ending) (w' : World) : Prop :=
  ∃ v g vc, e = .returned (.slice (some ⟨g, 0, none⟩) v.length vc) ∧ OwnS w' w.heap.size (.slice (some ⟨g, 0, none⟩) v.length vc) v ∧ BehR c a v ∧ w.heap.size ≤ g ∧ Below w.heap.size w w'

set_option maxRecDepth 100000 in
set_option maxHeartbeats 8000000 in
theorem behindS_calls (vars : Int) (c : List Step) (A B : Option Addr) (a : List Sp) (cap capB : Nat) (w : World) (hA : RdSt w A c) (hB : RdS w B a) (hl : (a.length : Int) = vars) (h1 : 1 ≤ a.length) (h8 : a.length ≤ 8) (hc : c.length ≤ 1000000) (hs : ∀ s ∈ c, SOk vars s) (hv : ∀ s ∈ a, spOk s) :
    Calls Try.prog 63 #[.slice A c.length cap, .slice B a.length capB] w (BehEndS c a w) := by
  subst hl
  have HA := Lib.hid hA
  have HS := Lib.hid hs
  have Hv := Lib.hid hv
  have Hcl := Lib.hid (cloneS_calls B a capB w hB h1 (by omega))
  clear hA hB hs hv
  go_enter Try.func63, Try.ntmps63
  go_wp2_with (go_at_call 75; refine Hcl.out.mono ?_; rintro e w2 ⟨u, rfl, hO, hW⟩
               obtain ⟨A2, c2, rfl, -⟩ := Own.form spCells_len hO
               obtain ⟨g, rfl, hgb, hgl, -⟩ := OwnS.at2 hO (by omega)
               have HO2 := Lib.hid hO
               have HW2 := Lib.hid hW
               have hz2 := hW.size
               clear hO hW Hcl)
  go_loopw [11] (fun i wr => ∃ (k : Nat) (r : List Sp), k ≤ c.length ∧ i = .int .i64 k ∧ OwnS wr w.heap.size (.slice (some ⟨g, 0, none⟩) a.length c2) r ∧ Hid (BehR (c.take k) a r) ∧ Bel1 g w2 wr) (fun i _ => c.length - (intOf i).toNat)
  case atStart => exact ⟨0, _, Nat.zero_le _, rfl, HO2.out, Lib.hid (BehR.start Hv.out), Bel1.refl _ _⟩
  case round =>
    clear HO2 Hv
    obtain ⟨k, r, hk, rfl, hO, hE, hB⟩ := hrel
    have hws := hB.size
    have HO := Lib.hid hO
    have HB := Lib.hid hB
    have HW := Lib.hid (HW2.out.trans (hB.below (B := w.heap.size) (by omega) (by omega)))
    have hrl := hE.out.1
    clear hB
    by_cases hlt : k < c.length
    · obtain ⟨b, off, rfl, hb, k0, k1, k2, k3, k4⟩ := RdSt.at5 (Rd.below HA.out HW.out) hlt
      have q1 : ((k : Nat) : Int) < ((c.length : Nat) : Int) := by omega
      have hok := HS.out c[k] (List.getElem_mem hlt)
      have Hnx : Hid (∀ (y : Sp) (d : Nat), c[k].to = (d : Nat) → d < r.length → spOk y → (∀ x, inS x r → y.1 ≤ (if c[k].op = 1 then c[k].val else if c[k].op = 2 then x.getD c[k].val.toNat 0 else doF c[k].op (x.getD c[k].a.toNat 0) (x.getD c[k].b.toNat 0)) ∧ (if c[k].op = 1 then c[k].val else if c[k].op = 2 then x.getD c[k].val.toNat 0 else doF c[k].op (x.getD c[k].a.toNat 0) (x.getD c[k].b.toNat 0)) ≤ y.2) → BehR (c.take (k + 1)) a (r.set d y)) := Lib.hid (fun y d h1 h2 h3 h4 => by
        rw [List.take_succ_eq_append_getElem hlt]
        exact hE.out.next h1 h2 h3 h4)
      have Hsp := Lib.hid hE.out.2.1
      clear hE
      obtain ⟨o1, o6, on, ov, ⟨t0, t1⟩, oab⟩ := hok
      generalize c[k] = s at *
      obtain ⟨op, sto, sa, sb, sv⟩ := s
      dsimp only at o1 o6 on ov t0 t1 oab k0 k1 k2 k3 k4 Hnx
      obtain ⟨d, rfl⟩ := Int.eq_ofNat_of_zero_le t0
      have hd : d < a.length := by omega
      have qd : ((d : Nat) : Int) < ((a.length : Nat) : Int) := t1
      have hdr : d < r.length := by omega
      obtain ⟨g', eg, -, hgr, -, hfz, hcell⟩ := OwnS.at2 hO (by omega)
      injection eg with eg; injection eg with eg
      subst eg
      obtain ⟨c5, c6⟩ := hcell d hdr
      have f5 := hfz (d * 2)
      have f6 := hfz (d * 2 + 1)
      clear hO
      by_cases h1 : op = 1
      · subst h1
        have Hst := Lib.hid (Hnx.out (sv, sv) d rfl hdr (by have := on rfl; unfold spOk; dsimp only; omega) (fun x _ => by rw [if_pos rfl]; exact ⟨Int.le_refl _, Int.le_refl _⟩))
        clear Hnx hfz hcell on ov oab
        go_wp2
        go_roundw
        case rel => exact ⟨k + 1, _, by omega, by go_num, (HO.out.set2 hdr (sv, sv)).alloc _, Hst, ((HB.out.set_ (p := ⟨g, d * 2, none⟩) rfl _).set_ (p := ⟨g, d * 2 + 1, none⟩) rfl _).alloc _⟩
        case measure => simp [intOf]; omega
      obtain ⟨P, hP⟩ : ∃ P, P = wr.heap.size := ⟨_, rfl⟩
      have hgP : g ≠ P := by omega
      by_cases h2 : op = 2
      · subst h2
        obtain ⟨v0, v1⟩ := ov rfl
        obtain ⟨m, rfl⟩ := Int.eq_ofNat_of_zero_le v0
        have hm : m < r.length := by omega
        have Hst := Lib.hid (Hnx.out (gS r m) d rfl hdr (spOk_at Hsp.out hm) (fun x hx => by rw [if_neg (by decide), if_pos rfl, Int.toNat_natCast]; exact hx.2 m hm))
        have hmm : ((m : Nat) : Int) < ((a.length : Nat) : Int) := v1
        obtain ⟨w0, hw0⟩ : ∃ w0, w0 = wr.alloc (.cells #[.int .i64 2, .int .i64 (d : Nat), .int .i64 sa, .int .i64 sb, .int .i64 (m : Nat)] 78) := ⟨_, rfl⟩
        have HO0 : Hid (OwnS w0.drew w.heap.size (.slice (some ⟨g, 0, none⟩) a.length c2) r) := Lib.hid (by rw [hw0]; exact (HO.out.alloc _).drew)
        have HB0 : Hid (Bel1 g w2 w0.drew) := Lib.hid (by rw [hw0]; exact (HB.out.alloc _).drew)
        have Hk0 : Hid (w0.drew.cell? ⟨P, 1, none⟩ = some (.int .i64 (d : Nat)) ∧ w0.drew.cell? ⟨P, 4, none⟩ = some (.int .i64 (m : Nat)) ∧ P < w0.drew.heap.size) := Lib.hid (by rw [hw0]; exact ⟨cell_new wr _ _ P hP.symm 1, cell_new wr _ _ P hP.symm 4, by rw [hP]; show _ < (World.alloc _ _).heap.size; simp⟩)
        have Hks : Hid (∀ (w' : World) (u v : Value), w'.cell? ⟨P, 1, none⟩ = some (.int .i64 (d : Nat)) ∧ w'.cell? ⟨P, 4, none⟩ = some (.int .i64 (m : Nat)) ∧ P < w'.heap.size → ((w'.setCell ⟨g, d * 2, none⟩ u).setCell ⟨g, d * 2 + 1, none⟩ v).cell? ⟨P, 1, none⟩ = some (.int .i64 (d : Nat)) ∧ ((w'.setCell ⟨g, d * 2, none⟩ u).setCell ⟨g, d * 2 + 1, none⟩ v).cell? ⟨P, 4, none⟩ = some (.int .i64 (m : Nat)) ∧ P < ((w'.setCell ⟨g, d * 2, none⟩ u).setCell ⟨g, d * 2 + 1, none⟩ v).heap.size) := Lib.hid (fun w' u v hs => by
          rw [World.cell?_setCell_far _ _ _ _ (by exact hgP), World.cell?_setCell_far _ _ _ _ (by exact hgP), World.cell?_setCell_far _ _ _ _ (by exact hgP), World.cell?_setCell_far _ _ _ _ (by exact hgP)]
          exact ⟨hs.1, hs.2.1, by have := hs.2.2; simp [World.setCell]; exact this⟩)
        have Hkb : Hid (∀ (w' w'' : World), (w'.cell? ⟨P, 1, none⟩ = some (.int .i64 (d : Nat)) ∧ w'.cell? ⟨P, 4, none⟩ = some (.int .i64 (m : Nat)) ∧ P < w'.heap.size) → Below w'.heap.size w' w'' → w''.cell? ⟨P, 1, none⟩ = some (.int .i64 (d : Nat)) ∧ w''.cell? ⟨P, 4, none⟩ = some (.int .i64 (m : Nat)) ∧ P < w''.heap.size) := Lib.hid (fun w' w'' hs hb => ⟨(hb.cell (p := ⟨P, 1, none⟩) hs.2.2).trans hs.1, (hb.cell (p := ⟨P, 4, none⟩) hs.2.2).trans hs.2.1, Nat.lt_of_lt_of_le hs.2.2 hb.size⟩)
        have HPh := Lib.hid hP
        have HW0 := Lib.hid hw0
        obtain ⟨g0, eg0, -, -, -, hfz0, hcell0⟩ := OwnS.at2 HO0.out (by omega)
        injection eg0 with eg0; injection eg0 with eg0
        subst eg0
        clear hP hw0
        obtain ⟨ca, cb⟩ := hcell0 m hm
        obtain ⟨c5, c6⟩ := hcell0 d hdr
        have f5 := hfz0 (d * 2)
        have f6 := hfz0 (d * 2 + 1)
        clear Hnx hfz hcell on ov oab hm hcell0 hfz0
        generalize gS r m = z at *
        obtain ⟨z1, z2⟩ := z
        dsimp only at ca cb
        go_wp2
        rw [← HPh.out, ← HW0.out]
        refine wp_region_held_drew (S := fun w' => w'.cell? ⟨P, 1, none⟩ = some (.int .i64 (d : Nat)) ∧ w'.cell? ⟨P, 4, none⟩ = some (.int .i64 (m : Nat)) ∧ P < w'.heap.size) (by kernel_rfl) Hk0.out (fun hH0 => ?_)
        generalize w0.drew = wd at *
        refine wpAnyH_take (i := 0) (oi := { dst := some 47, op := Go.Op.move (Go.Operand.tmp 1), type := 60, pos := "span.go:83", after := #[], guard := none }) rfl (by kernel_rfl) (by kernel_rfl) (by kernel_rfl) (fun _ _ _ h => h) (Or.inl ⟨by rfl, fun w hw => by (go_simp; try with_reducible rfl)⟩) (by assumption) ?_
        try simp only [Act.put, List.setIfInBounds_toArray, List.set_cons_zero, List.set_cons_succ]
        refine wpAnyH_take (i := 1) (oi := { dst := some 48, op := Go.Op.fieldAddr 78 (Go.Operand.tmp 6) 1, type := 0, pos := "span.go:83", after := #[], guard := none }) rfl (by kernel_rfl) (by kernel_rfl) (by kernel_rfl) (fun _ _ _ h => h) (Or.inl ⟨by rfl, fun w hw => by (go_simp; try with_reducible rfl)⟩) (by assumption) ?_
        try simp only [Act.put, List.setIfInBounds_toArray, List.set_cons_zero, List.set_cons_succ]
        refine wpAnyH_take (i := 2) (oi := { dst := some 49, op := Go.Op.load 3 (Go.Operand.tmp 48), type := 3, pos := "span.go:83", after := #[{ on := 1, ground := Go.Ground.data }], guard := none }) rfl (by kernel_rfl) (by kernel_rfl) (by kernel_rfl) (fun _ _ _ h => h) (Or.inl ⟨by rfl, fun w hw => by (obtain ⟨p1, p4, pl⟩ := hw; go_simp; try with_reducible rfl)⟩) (by assumption) ?_
        try simp only [Act.put, List.setIfInBounds_toArray, List.set_cons_zero, List.set_cons_succ]
        refine wpAnyH_take (i := 3) (oi := { dst := some 50, op := Go.Op.move (Go.Operand.tmp 1), type := 60, pos := "span.go:83", after := #[], guard := none }) rfl (by kernel_rfl) (by kernel_rfl) (by kernel_rfl) (fun _ _ _ h => h) (Or.inl ⟨by rfl, fun w hw => by (go_simp; try with_reducible rfl)⟩) (by assumption) ?_
        try simp only [Act.put, List.setIfInBounds_toArray, List.set_cons_zero, List.set_cons_succ]
        refine wpAnyH_take (i := 4) (oi := { dst := some 51, op := Go.Op.fieldAddr 78 (Go.Operand.tmp 6) 4, type := 0, pos := "span.go:83", after := #[], guard := none }) rfl (by kernel_rfl) (by kernel_rfl) (by kernel_rfl) (fun _ _ _ h => h) (Or.inl ⟨by rfl, fun w hw => by (go_simp; try with_reducible rfl)⟩) (by assumption) ?_
        try simp only [Act.put, List.setIfInBounds_toArray, List.set_cons_zero, List.set_cons_succ]
        refine wpAnyH_take (i := 5) (oi := { dst := some 52, op := Go.Op.load 3 (Go.Operand.tmp 51), type := 3, pos := "span.go:83", after := #[{ on := 4, ground := Go.Ground.data }], guard := none }) rfl (by kernel_rfl) (by kernel_rfl) (by kernel_rfl) (fun _ _ _ h => h) (Or.inl ⟨by rfl, fun w hw => by (obtain ⟨p1, p4, pl⟩ := hw; go_simp; try with_reducible rfl)⟩) (by assumption) ?_
        try simp only [Act.put, List.setIfInBounds_toArray, List.set_cons_zero, List.set_cons_succ]
        refine wpAnyH_take (i := 6) (oi := { dst := some 53, op := Go.Op.indexAddr 60 (Go.Operand.tmp 50) (Go.Operand.tmp 52), type := 0, pos := "span.go:83", after := #[{ on := 3, ground := Go.Ground.data }, { on := 5, ground := Go.Ground.data }], guard := none }) rfl (by kernel_rfl) (by kernel_rfl) (by kernel_rfl) (fun _ _ _ h => h) (Or.inl ⟨by rfl, fun w hw => by (go_simp; try with_reducible rfl)⟩) (by assumption) ?_
        try simp only [Act.put, List.setIfInBounds_toArray, List.set_cons_zero, List.set_cons_succ]
        refine wpAnyH_ready (rs := [7]) (by kernel_rfl) (by simp) ?_
        refine AllReadyH.cons (o := { dst := some 54, op := Go.Op.load 65 (Go.Operand.tmp 53), type := 65, pos := "span.go:83", after := #[{ on := 6, ground := Go.Ground.data }], guard := none }) rfl (fun K hK => ?_) AllReadyH.nil
        go_simp
        refine hK.out _ _ hH0 (fun hH1 => ?_)
        clear hK hH0
        have hH0 := hH1
        clear hH1
        try simp only [Act.put, List.setIfInBounds_toArray, List.set_cons_zero, List.set_cons_succ]
        refine wpAnyH_take (i := 8) (oi := { dst := some 55, op := Go.Op.indexAddr 60 (Go.Operand.tmp 47) (Go.Operand.tmp 49), type := 0, pos := "span.go:83", after := #[{ on := 0, ground := Go.Ground.data }, { on := 2, ground := Go.Ground.data }, { on := 0, ground := Go.Ground.phase }, { on := 1, ground := Go.Ground.phase }, { on := 2, ground := Go.Ground.phase }, { on := 3, ground := Go.Ground.phase }, { on := 4, ground := Go.Ground.phase }, { on := 5, ground := Go.Ground.phase }, { on := 6, ground := Go.Ground.phase }, { on := 7, ground := Go.Ground.phase }], guard := none }) rfl (by kernel_rfl) (by kernel_rfl) (by kernel_rfl) (fun _ _ _ h => h) (Or.inl ⟨by rfl, fun w hw => by (go_simp; try with_reducible rfl)⟩) (by assumption) ?_
        try simp only [Act.put, List.setIfInBounds_toArray, List.set_cons_zero, List.set_cons_succ]
        refine wpAnyH_ready (rs := [9]) (by kernel_rfl) (by simp) ?_
        refine AllReadyH.cons (o := { dst := none, op := Go.Op.store 65 (Go.Operand.tmp 55) (Go.Operand.tmp 54), type := 0, pos := "span.go:83", after := #[{ on := 8, ground := Go.Ground.data }, { on := 7, ground := Go.Ground.data }, { on := 0, ground := Go.Ground.phase }, { on := 1, ground := Go.Ground.phase }, { on := 2, ground := Go.Ground.phase }, { on := 3, ground := Go.Ground.phase }, { on := 4, ground := Go.Ground.phase }, { on := 5, ground := Go.Ground.phase }, { on := 6, ground := Go.Ground.phase }, { on := 7, ground := Go.Ground.phase }], guard := none }) rfl (fun K hK => ?_) AllReadyH.nil
        go_simp
        refine hK.out _ _ (Hks.out _ _ _ hH0) (fun hH2 => ?_)
        clear hK hH0
        try simp only [Act.put, List.setIfInBounds_toArray, List.set_cons_zero, List.set_cons_succ]
        refine wpAnyH_done (by kernel_rfl) ?_ _
        clear hH2
        go_wp2
        go_roundw
        case rel => exact ⟨k + 1, _, by omega, by go_num, OwnS.set2 HO0.out hdr (z1, z2), Hst, (HB0.out.set_ (p := ⟨g, d * 2, none⟩) rfl _).set_ (p := ⟨g, d * 2 + 1, none⟩) rfl _⟩
        case measure => simp [intOf]; omega
      · obtain ⟨⟨a0, a1⟩, b0, b1⟩ := oab (by omega)
        obtain ⟨x, rfl⟩ := Int.eq_ofNat_of_zero_le a0
        obtain ⟨y, rfl⟩ := Int.eq_ofNat_of_zero_le b0
        have hx : x < r.length := by omega
        have hy : y < r.length := by omega
        have sx := spOk_at Hsp.out hx
        have sy := spOk_at Hsp.out hy
        have Hcl : Hid (∀ wz : World, Calls Try.prog 76 #[.int .i64 op, spanV (gS r x).1 (gS r x).2, spanV (gS r y).1 (gS r y).2] wz (DoEnd op (gS r x).1 (gS r x).2 (gS r y).1 (gS r y).2 wz)) := Lib.hid (fun wz => spanDo_calls op _ _ _ _ wz (by omega) sx sy)
        have Hst : Hid (∀ lo hi, isSp lo hi → (∀ u v, (gS r x).1 ≤ u → u ≤ (gS r x).2 → (gS r y).1 ≤ v → v ≤ (gS r y).2 → lo ≤ doF op u v ∧ doF op u v ≤ hi) → BehR (c.take (k + 1)) a (r.set d (lo, hi))) := Lib.hid (fun lo hi hsp h => Hnx.out (lo, hi) d rfl hdr hsp (fun v hv => by
          rw [if_neg h1, if_neg h2, Int.toNat_natCast, Int.toNat_natCast]
          have e1 := hv.2 x hx
          have e2 := hv.2 y hy
          exact h _ _ e1.1 e1.2 e2.1 e2.2))
        have qx : ((x : Nat) : Int) < ((a.length : Nat) : Int) := a1
        have qy : ((y : Nat) : Int) < ((a.length : Nat) : Int) := b1
        have qo1 : (op == 1) = false := by rw [beq_eq_false_iff_ne]; exact h1
        have qo2 : (op == 2) = false := by rw [beq_eq_false_iff_ne]; exact h2
        obtain ⟨w0, hw0⟩ : ∃ w0, w0 = wr.alloc (.cells #[.int .i64 op, .int .i64 (d : Nat), .int .i64 (x : Nat), .int .i64 (y : Nat), .int .i64 sv] 78) := ⟨_, rfl⟩
        have HO0 : Hid (OwnS w0.drew w.heap.size (.slice (some ⟨g, 0, none⟩) a.length c2) r) := Lib.hid (by rw [hw0]; exact (HO.out.alloc _).drew)
        have HB0 : Hid (Bel1 g w2 w0.drew) := Lib.hid (by rw [hw0]; exact (HB.out.alloc _).drew)
        have Hk0 : Hid (w0.drew.cell? ⟨P, 0, none⟩ = some (.int .i64 op) ∧ w0.drew.cell? ⟨P, 1, none⟩ = some (.int .i64 (d : Nat)) ∧ w0.drew.cell? ⟨P, 2, none⟩ = some (.int .i64 (x : Nat)) ∧ w0.drew.cell? ⟨P, 3, none⟩ = some (.int .i64 (y : Nat)) ∧ P < w0.drew.heap.size) := Lib.hid (by rw [hw0]; exact ⟨cell_new wr _ _ P hP.symm 0, cell_new wr _ _ P hP.symm 1, cell_new wr _ _ P hP.symm 2, cell_new wr _ _ P hP.symm 3, by rw [hP]; show _ < (World.alloc _ _).heap.size; simp⟩)
        have Hks : Hid (∀ (w' : World) (u v : Value), w'.cell? ⟨P, 0, none⟩ = some (.int .i64 op) ∧ w'.cell? ⟨P, 1, none⟩ = some (.int .i64 (d : Nat)) ∧ w'.cell? ⟨P, 2, none⟩ = some (.int .i64 (x : Nat)) ∧ w'.cell? ⟨P, 3, none⟩ = some (.int .i64 (y : Nat)) ∧ P < w'.heap.size → ((w'.setCell ⟨g, d * 2, none⟩ u).setCell ⟨g, d * 2 + 1, none⟩ v).cell? ⟨P, 0, none⟩ = some (.int .i64 op) ∧ ((w'.setCell ⟨g, d * 2, none⟩ u).setCell ⟨g, d * 2 + 1, none⟩ v).cell? ⟨P, 1, none⟩ = some (.int .i64 (d : Nat)) ∧ ((w'.setCell ⟨g, d * 2, none⟩ u).setCell ⟨g, d * 2 + 1, none⟩ v).cell? ⟨P, 2, none⟩ = some (.int .i64 (x : Nat)) ∧ ((w'.setCell ⟨g, d * 2, none⟩ u).setCell ⟨g, d * 2 + 1, none⟩ v).cell? ⟨P, 3, none⟩ = some (.int .i64 (y : Nat)) ∧ P < ((w'.setCell ⟨g, d * 2, none⟩ u).setCell ⟨g, d * 2 + 1, none⟩ v).heap.size) := Lib.hid (fun w' u v hs => by
          rw [World.cell?_setCell_far _ _ _ _ (by exact hgP), World.cell?_setCell_far _ _ _ _ (by exact hgP), World.cell?_setCell_far _ _ _ _ (by exact hgP), World.cell?_setCell_far _ _ _ _ (by exact hgP), World.cell?_setCell_far _ _ _ _ (by exact hgP), World.cell?_setCell_far _ _ _ _ (by exact hgP), World.cell?_setCell_far _ _ _ _ (by exact hgP), World.cell?_setCell_far _ _ _ _ (by exact hgP)]
          exact ⟨hs.1, hs.2.1, hs.2.2.1, hs.2.2.2.1, by have := hs.2.2.2.2; simp [World.setCell]; exact this⟩)
        have Hkb : Hid (∀ (w' w'' : World), (w'.cell? ⟨P, 0, none⟩ = some (.int .i64 op) ∧ w'.cell? ⟨P, 1, none⟩ = some (.int .i64 (d : Nat)) ∧ w'.cell? ⟨P, 2, none⟩ = some (.int .i64 (x : Nat)) ∧ w'.cell? ⟨P, 3, none⟩ = some (.int .i64 (y : Nat)) ∧ P < w'.heap.size) → Below w'.heap.size w' w'' → w''.cell? ⟨P, 0, none⟩ = some (.int .i64 op) ∧ w''.cell? ⟨P, 1, none⟩ = some (.int .i64 (d : Nat)) ∧ w''.cell? ⟨P, 2, none⟩ = some (.int .i64 (x : Nat)) ∧ w''.cell? ⟨P, 3, none⟩ = some (.int .i64 (y : Nat)) ∧ P < w''.heap.size) := Lib.hid (fun w' w'' hs hb => ⟨(hb.cell (p := ⟨P, 0, none⟩) hs.2.2.2.2).trans hs.1, (hb.cell (p := ⟨P, 1, none⟩) hs.2.2.2.2).trans hs.2.1, (hb.cell (p := ⟨P, 2, none⟩) hs.2.2.2.2).trans hs.2.2.1, (hb.cell (p := ⟨P, 3, none⟩) hs.2.2.2.2).trans hs.2.2.2.1, Nat.lt_of_lt_of_le hs.2.2.2.2 hb.size⟩)
        have HPh := Lib.hid hP
        have HW0 := Lib.hid hw0
        obtain ⟨g0, eg0, -, -, -, hfz0, hcell0⟩ := OwnS.at2 HO0.out (by omega)
        injection eg0 with eg0; injection eg0 with eg0
        subst eg0
        clear hP hw0
        obtain ⟨ca, cb⟩ := hcell0 x hx
        obtain ⟨cc, cd⟩ := hcell0 y hy
        clear Hnx hfz hcell on ov oab hx hy sx sy c5 c6 f5 f6 hcell0 hfz0
        generalize gS r x = p at *
        generalize gS r y = q at *
        obtain ⟨p1, p2⟩ := p
        obtain ⟨q1', q2'⟩ := q
        dsimp only at ca cb cc cd Hcl Hst
        unfold spanV at Hcl
        go_wp2
        rw [← HPh.out, ← HW0.out]
        refine wp_region_held_drew (S := fun w' => w'.cell? ⟨P, 0, none⟩ = some (.int .i64 op) ∧ w'.cell? ⟨P, 1, none⟩ = some (.int .i64 (d : Nat)) ∧ w'.cell? ⟨P, 2, none⟩ = some (.int .i64 (x : Nat)) ∧ w'.cell? ⟨P, 3, none⟩ = some (.int .i64 (y : Nat)) ∧ P < w'.heap.size) (by kernel_rfl) Hk0.out (fun hH0 => ?_)
        generalize w0.drew = wd at *
        refine wpAnyH_take (i := 0) (oi := { dst := some 17, op := Go.Op.move (Go.Operand.tmp 1), type := 60, pos := "span.go:85", after := #[], guard := none }) rfl (by kernel_rfl) (by kernel_rfl) (by kernel_rfl) (fun _ _ _ h => h) (Or.inl ⟨by rfl, fun w hw => by (go_simp; try with_reducible rfl)⟩) (by assumption) ?_
        try simp only [Act.put, List.setIfInBounds_toArray, List.set_cons_zero, List.set_cons_succ]
        refine wpAnyH_take (i := 1) (oi := { dst := some 18, op := Go.Op.fieldAddr 78 (Go.Operand.tmp 6) 1, type := 0, pos := "span.go:85", after := #[], guard := none }) rfl (by kernel_rfl) (by kernel_rfl) (by kernel_rfl) (fun _ _ _ h => h) (Or.inl ⟨by rfl, fun w hw => by (go_simp; try with_reducible rfl)⟩) (by assumption) ?_
        try simp only [Act.put, List.setIfInBounds_toArray, List.set_cons_zero, List.set_cons_succ]
        refine wpAnyH_take (i := 2) (oi := { dst := some 19, op := Go.Op.load 3 (Go.Operand.tmp 18), type := 3, pos := "span.go:85", after := #[{ on := 1, ground := Go.Ground.data }], guard := none }) rfl (by kernel_rfl) (by kernel_rfl) (by kernel_rfl) (fun _ _ _ h => h) (Or.inl ⟨by rfl, fun w hw => by (obtain ⟨p0, p1, p2, p3, pl⟩ := hw; go_simp; try with_reducible rfl)⟩) (by assumption) ?_
        try simp only [Act.put, List.setIfInBounds_toArray, List.set_cons_zero, List.set_cons_succ]
        refine wpAnyH_take (i := 3) (oi := { dst := some 20, op := Go.Op.fieldAddr 78 (Go.Operand.tmp 6) 0, type := 0, pos := "span.go:85", after := #[], guard := none }) rfl (by kernel_rfl) (by kernel_rfl) (by kernel_rfl) (fun _ _ _ h => h) (Or.inl ⟨by rfl, fun w hw => by (go_simp; try with_reducible rfl)⟩) (by assumption) ?_
        try simp only [Act.put, List.setIfInBounds_toArray, List.set_cons_zero, List.set_cons_succ]
        refine wpAnyH_take (i := 4) (oi := { dst := some 21, op := Go.Op.load 3 (Go.Operand.tmp 20), type := 3, pos := "span.go:85", after := #[{ on := 3, ground := Go.Ground.data }], guard := none }) rfl (by kernel_rfl) (by kernel_rfl) (by kernel_rfl) (fun _ _ _ h => h) (Or.inl ⟨by rfl, fun w hw => by (obtain ⟨p0, p1, p2, p3, pl⟩ := hw; go_simp; try with_reducible rfl)⟩) (by assumption) ?_
        try simp only [Act.put, List.setIfInBounds_toArray, List.set_cons_zero, List.set_cons_succ]
        refine wpAnyH_take (i := 5) (oi := { dst := some 22, op := Go.Op.move (Go.Operand.tmp 1), type := 60, pos := "span.go:85", after := #[], guard := none }) rfl (by kernel_rfl) (by kernel_rfl) (by kernel_rfl) (fun _ _ _ h => h) (Or.inl ⟨by rfl, fun w hw => by (go_simp; try with_reducible rfl)⟩) (by assumption) ?_
        try simp only [Act.put, List.setIfInBounds_toArray, List.set_cons_zero, List.set_cons_succ]
        refine wpAnyH_take (i := 6) (oi := { dst := some 23, op := Go.Op.fieldAddr 78 (Go.Operand.tmp 6) 2, type := 0, pos := "span.go:85", after := #[], guard := none }) rfl (by kernel_rfl) (by kernel_rfl) (by kernel_rfl) (fun _ _ _ h => h) (Or.inl ⟨by rfl, fun w hw => by (go_simp; try with_reducible rfl)⟩) (by assumption) ?_
        try simp only [Act.put, List.setIfInBounds_toArray, List.set_cons_zero, List.set_cons_succ]
        refine wpAnyH_take (i := 7) (oi := { dst := some 24, op := Go.Op.load 3 (Go.Operand.tmp 23), type := 3, pos := "span.go:85", after := #[{ on := 6, ground := Go.Ground.data }], guard := none }) rfl (by kernel_rfl) (by kernel_rfl) (by kernel_rfl) (fun _ _ _ h => h) (Or.inl ⟨by rfl, fun w hw => by (obtain ⟨p0, p1, p2, p3, pl⟩ := hw; go_simp; try with_reducible rfl)⟩) (by assumption) ?_
        try simp only [Act.put, List.setIfInBounds_toArray, List.set_cons_zero, List.set_cons_succ]
        refine wpAnyH_take (i := 8) (oi := { dst := some 25, op := Go.Op.indexAddr 60 (Go.Operand.tmp 22) (Go.Operand.tmp 24), type := 0, pos := "span.go:85", after := #[{ on := 5, ground := Go.Ground.data }, { on := 7, ground := Go.Ground.data }], guard := none }) rfl (by kernel_rfl) (by kernel_rfl) (by kernel_rfl) (fun _ _ _ h => h) (Or.inl ⟨by rfl, fun w hw => by (go_simp; try with_reducible rfl)⟩) (by assumption) ?_
        try simp only [Act.put, List.setIfInBounds_toArray, List.set_cons_zero, List.set_cons_succ]
        refine wpAnyH_take (i := 10) (oi := { dst := some 27, op := Go.Op.move (Go.Operand.tmp 1), type := 60, pos := "span.go:85", after := #[], guard := none }) rfl (by kernel_rfl) (by kernel_rfl) (by kernel_rfl) (fun _ _ _ h => h) (Or.inl ⟨by rfl, fun w hw => by (go_simp; try with_reducible rfl)⟩) (by assumption) ?_
        try simp only [Act.put, List.setIfInBounds_toArray, List.set_cons_zero, List.set_cons_succ]
        refine wpAnyH_take (i := 11) (oi := { dst := some 28, op := Go.Op.fieldAddr 78 (Go.Operand.tmp 6) 3, type := 0, pos := "span.go:85", after := #[], guard := none }) rfl (by kernel_rfl) (by kernel_rfl) (by kernel_rfl) (fun _ _ _ h => h) (Or.inl ⟨by rfl, fun w hw => by (go_simp; try with_reducible rfl)⟩) (by assumption) ?_
        try simp only [Act.put, List.setIfInBounds_toArray, List.set_cons_zero, List.set_cons_succ]
        refine wpAnyH_take (i := 12) (oi := { dst := some 29, op := Go.Op.load 3 (Go.Operand.tmp 28), type := 3, pos := "span.go:85", after := #[{ on := 11, ground := Go.Ground.data }], guard := none }) rfl (by kernel_rfl) (by kernel_rfl) (by kernel_rfl) (fun _ _ _ h => h) (Or.inl ⟨by rfl, fun w hw => by (obtain ⟨p0, p1, p2, p3, pl⟩ := hw; go_simp; try with_reducible rfl)⟩) (by assumption) ?_
        try simp only [Act.put, List.setIfInBounds_toArray, List.set_cons_zero, List.set_cons_succ]
        refine wpAnyH_take (i := 13) (oi := { dst := some 30, op := Go.Op.indexAddr 60 (Go.Operand.tmp 27) (Go.Operand.tmp 29), type := 0, pos := "span.go:85", after := #[{ on := 10, ground := Go.Ground.data }, { on := 12, ground := Go.Ground.data }], guard := none }) rfl (by kernel_rfl) (by kernel_rfl) (by kernel_rfl) (fun _ _ _ h => h) (Or.inl ⟨by rfl, fun w hw => by (go_simp; try with_reducible rfl)⟩) (by assumption) ?_
        try simp only [Act.put, List.setIfInBounds_toArray, List.set_cons_zero, List.set_cons_succ]
        refine wpAnyH_ready (rs := [9, 14]) (by kernel_rfl) (by simp) ?_
        refine AllReadyH.cons (o := { dst := some 26, op := Go.Op.load 65 (Go.Operand.tmp 25), type := 65, pos := "span.go:85", after := #[{ on := 8, ground := Go.Ground.data }], guard := none }) rfl (fun K hK => ?_) ?_
        · go_simp
          refine hK.out _ _ hH0 (fun hH1 => ?_)
          clear hK hH0
          have hH0 := hH1
          clear hH1
          try simp only [Act.put, List.setIfInBounds_toArray, List.set_cons_zero, List.set_cons_succ]
          refine wpAnyH_ready (rs := [14]) (by kernel_rfl) (by simp) ?_
          refine AllReadyH.cons (o := { dst := some 31, op := Go.Op.load 65 (Go.Operand.tmp 30), type := 65, pos := "span.go:85", after := #[{ on := 13, ground := Go.Ground.data }], guard := none }) rfl (fun K hK => ?_) AllReadyH.nil
          go_simp
          refine hK.out _ _ hH0 (fun hH1 => ?_)
          clear hK hH0
          have hH0 := hH1
          clear hH1
          try simp only [Act.put, List.setIfInBounds_toArray, List.set_cons_zero, List.set_cons_succ]
          refine wpAnyH_ready (rs := [15]) (by kernel_rfl) (by simp) ?_
          refine AllReadyH.cons (o := { dst := some 32, op := Go.Op.call { callee := Go.Callee.value (Go.Operand.func 76), args := #[Go.Operand.tmp 21, Go.Operand.tmp 26, Go.Operand.tmp 31], argTypes := #[3, 65, 65] }, type := 65, pos := "span.go:85", after := #[{ on := 4, ground := Go.Ground.data }, { on := 9, ground := Go.Ground.data }, { on := 14, ground := Go.Ground.data }], guard := none }) rfl (fun K hK => ?_) AllReadyH.nil
          go_simp
          go_at_call 76
          with_reducible refine (Hcl.out _).mono ?_
          rintro e w9 ⟨hb9, lo, hi, rfl, hsp, hdo⟩
          have Hb9 := Lib.hid hb9
          have Hst9 := Lib.hid (Hst.out lo hi hsp hdo)
          have HO9 := Lib.hid (Own.below HO0.out hb9)
          obtain ⟨g9, eg9, -, -, -, hfz9, hcell9⟩ := OwnS.at2 HO9.out (by omega)
          injection eg9 with eg9; injection eg9 with eg9
          subst eg9
          obtain ⟨c5, c6⟩ := hcell9 d hdr
          have f5 := hfz9 (d * 2)
          have f6 := hfz9 (d * 2 + 1)
          clear hcell9 hfz9 hb9 hsp hdo
          unfold spanV
          refine hK.out _ _ (Hkb.out _ _ hH0 Hb9.out) (fun hH1 => ?_)
          clear hK hH0
          have hH0 := hH1
          clear hH1
          try simp only [Act.put, List.setIfInBounds_toArray, List.set_cons_zero, List.set_cons_succ]
          refine wpAnyH_take (i := 16) (oi := { dst := some 33, op := Go.Op.indexAddr 60 (Go.Operand.tmp 17) (Go.Operand.tmp 19), type := 0, pos := "span.go:85", after := #[{ on := 0, ground := Go.Ground.data }, { on := 2, ground := Go.Ground.data }, { on := 0, ground := Go.Ground.phase }, { on := 1, ground := Go.Ground.phase }, { on := 2, ground := Go.Ground.phase }, { on := 3, ground := Go.Ground.phase }, { on := 4, ground := Go.Ground.phase }, { on := 5, ground := Go.Ground.phase }, { on := 6, ground := Go.Ground.phase }, { on := 7, ground := Go.Ground.phase }, { on := 8, ground := Go.Ground.phase }, { on := 9, ground := Go.Ground.phase }, { on := 10, ground := Go.Ground.phase }, { on := 11, ground := Go.Ground.phase }, { on := 12, ground := Go.Ground.phase }, { on := 13, ground := Go.Ground.phase }, { on := 14, ground := Go.Ground.phase }, { on := 15, ground := Go.Ground.phase }], guard := none }) rfl (by kernel_rfl) (by kernel_rfl) (by kernel_rfl) (fun _ _ _ h => h) (Or.inl ⟨by rfl, fun w hw => by (go_simp; try with_reducible rfl)⟩) (by assumption) ?_
          try simp only [Act.put, List.setIfInBounds_toArray, List.set_cons_zero, List.set_cons_succ]
          refine wpAnyH_ready (rs := [17]) (by kernel_rfl) (by simp) ?_
          refine AllReadyH.cons (o := { dst := none, op := Go.Op.store 65 (Go.Operand.tmp 33) (Go.Operand.tmp 32), type := 0, pos := "span.go:85", after := #[{ on := 16, ground := Go.Ground.data }, { on := 15, ground := Go.Ground.data }, { on := 15, ground := Go.Ground.chain }, { on := 0, ground := Go.Ground.phase }, { on := 1, ground := Go.Ground.phase }, { on := 2, ground := Go.Ground.phase }, { on := 3, ground := Go.Ground.phase }, { on := 4, ground := Go.Ground.phase }, { on := 5, ground := Go.Ground.phase }, { on := 6, ground := Go.Ground.phase }, { on := 7, ground := Go.Ground.phase }, { on := 8, ground := Go.Ground.phase }, { on := 9, ground := Go.Ground.phase }, { on := 10, ground := Go.Ground.phase }, { on := 11, ground := Go.Ground.phase }, { on := 12, ground := Go.Ground.phase }, { on := 13, ground := Go.Ground.phase }, { on := 14, ground := Go.Ground.phase }, { on := 15, ground := Go.Ground.phase }], guard := none }) rfl (fun K hK => ?_) AllReadyH.nil
          go_simp
          refine hK.out _ _ (Hks.out _ _ _ hH0) (fun hH2 => ?_)
          clear hK hH0
          try simp only [Act.put, List.setIfInBounds_toArray, List.set_cons_zero, List.set_cons_succ]
          refine wpAnyH_done (by kernel_rfl) ?_ _
          clear hH2
          go_wp2
          go_roundw
          case rel => exact ⟨k + 1, _, by omega, by go_num, OwnS.set2 HO9.out hdr (lo, hi), Hst9, ((HB0.out.trans (bel1_of Hb9.out)).set_ (p := ⟨g, d * 2, none⟩) rfl _).set_ (p := ⟨g, d * 2 + 1, none⟩) rfl _⟩
          case measure => simp [intOf]; omega
        refine AllReadyH.cons (o := { dst := some 31, op := Go.Op.load 65 (Go.Operand.tmp 30), type := 65, pos := "span.go:85", after := #[{ on := 13, ground := Go.Ground.data }], guard := none }) rfl (fun K hK => ?_) AllReadyH.nil
        go_simp
        refine hK.out _ _ hH0 (fun hH1 => ?_)
        clear hK hH0
        have hH0 := hH1
        clear hH1
        try simp only [Act.put, List.setIfInBounds_toArray, List.set_cons_zero, List.set_cons_succ]
        refine wpAnyH_ready (rs := [9]) (by kernel_rfl) (by simp) ?_
        refine AllReadyH.cons (o := { dst := some 26, op := Go.Op.load 65 (Go.Operand.tmp 25), type := 65, pos := "span.go:85", after := #[{ on := 8, ground := Go.Ground.data }], guard := none }) rfl (fun K hK => ?_) AllReadyH.nil
        go_simp
        refine hK.out _ _ hH0 (fun hH1 => ?_)
        clear hK hH0
        have hH0 := hH1
        clear hH1
        try simp only [Act.put, List.setIfInBounds_toArray, List.set_cons_zero, List.set_cons_succ]
        refine wpAnyH_ready (rs := [15]) (by kernel_rfl) (by simp) ?_
        refine AllReadyH.cons (o := { dst := some 32, op := Go.Op.call { callee := Go.Callee.value (Go.Operand.func 76), args := #[Go.Operand.tmp 21, Go.Operand.tmp 26, Go.Operand.tmp 31], argTypes := #[3, 65, 65] }, type := 65, pos := "span.go:85", after := #[{ on := 4, ground := Go.Ground.data }, { on := 9, ground := Go.Ground.data }, { on := 14, ground := Go.Ground.data }], guard := none }) rfl (fun K hK => ?_) AllReadyH.nil
        go_simp
        go_at_call 76
        with_reducible refine (Hcl.out _).mono ?_
        rintro e w9 ⟨hb9, lo, hi, rfl, hsp, hdo⟩
        have Hb9 := Lib.hid hb9
        have Hst9 := Lib.hid (Hst.out lo hi hsp hdo)
        have HO9 := Lib.hid (Own.below HO0.out hb9)
        obtain ⟨g9, eg9, -, -, -, hfz9, hcell9⟩ := OwnS.at2 HO9.out (by omega)
        injection eg9 with eg9; injection eg9 with eg9
        subst eg9
        obtain ⟨c5, c6⟩ := hcell9 d hdr
        have f5 := hfz9 (d * 2)
        have f6 := hfz9 (d * 2 + 1)
        clear hcell9 hfz9 hb9 hsp hdo
        unfold spanV
        refine hK.out _ _ (Hkb.out _ _ hH0 Hb9.out) (fun hH1 => ?_)
        clear hK hH0
        have hH0 := hH1
        clear hH1
        try simp only [Act.put, List.setIfInBounds_toArray, List.set_cons_zero, List.set_cons_succ]
        refine wpAnyH_take (i := 16) (oi := { dst := some 33, op := Go.Op.indexAddr 60 (Go.Operand.tmp 17) (Go.Operand.tmp 19), type := 0, pos := "span.go:85", after := #[{ on := 0, ground := Go.Ground.data }, { on := 2, ground := Go.Ground.data }, { on := 0, ground := Go.Ground.phase }, { on := 1, ground := Go.Ground.phase }, { on := 2, ground := Go.Ground.phase }, { on := 3, ground := Go.Ground.phase }, { on := 4, ground := Go.Ground.phase }, { on := 5, ground := Go.Ground.phase }, { on := 6, ground := Go.Ground.phase }, { on := 7, ground := Go.Ground.phase }, { on := 8, ground := Go.Ground.phase }, { on := 9, ground := Go.Ground.phase }, { on := 10, ground := Go.Ground.phase }, { on := 11, ground := Go.Ground.phase }, { on := 12, ground := Go.Ground.phase }, { on := 13, ground := Go.Ground.phase }, { on := 14, ground := Go.Ground.phase }, { on := 15, ground := Go.Ground.phase }], guard := none }) rfl (by kernel_rfl) (by kernel_rfl) (by kernel_rfl) (fun _ _ _ h => h) (Or.inl ⟨by rfl, fun w hw => by (go_simp; try with_reducible rfl)⟩) (by assumption) ?_
        try simp only [Act.put, List.setIfInBounds_toArray, List.set_cons_zero, List.set_cons_succ]
        refine wpAnyH_ready (rs := [17]) (by kernel_rfl) (by simp) ?_
        refine AllReadyH.cons (o := { dst := none, op := Go.Op.store 65 (Go.Operand.tmp 33) (Go.Operand.tmp 32), type := 0, pos := "span.go:85", after := #[{ on := 16, ground := Go.Ground.data }, { on := 15, ground := Go.Ground.data }, { on := 15, ground := Go.Ground.chain }, { on := 0, ground := Go.Ground.phase }, { on := 1, ground := Go.Ground.phase }, { on := 2, ground := Go.Ground.phase }, { on := 3, ground := Go.Ground.phase }, { on := 4, ground := Go.Ground.phase }, { on := 5, ground := Go.Ground.phase }, { on := 6, ground := Go.Ground.phase }, { on := 7, ground := Go.Ground.phase }, { on := 8, ground := Go.Ground.phase }, { on := 9, ground := Go.Ground.phase }, { on := 10, ground := Go.Ground.phase }, { on := 11, ground := Go.Ground.phase }, { on := 12, ground := Go.Ground.phase }, { on := 13, ground := Go.Ground.phase }, { on := 14, ground := Go.Ground.phase }, { on := 15, ground := Go.Ground.phase }], guard := none }) rfl (fun K hK => ?_) AllReadyH.nil
        go_simp
        refine hK.out _ _ (Hks.out _ _ _ hH0) (fun hH2 => ?_)
        clear hK hH0
        try simp only [Act.put, List.setIfInBounds_toArray, List.set_cons_zero, List.set_cons_succ]
        refine wpAnyH_done (by kernel_rfl) ?_ _
        clear hH2
        go_wp2
        go_roundw
        case rel => exact ⟨k + 1, _, by omega, by go_num, OwnS.set2 HO9.out hdr (lo, hi), Hst9, ((HB0.out.trans (bel1_of Hb9.out)).set_ (p := ⟨g, d * 2, none⟩) rfl _).set_ (p := ⟨g, d * 2 + 1, none⟩) rfl _⟩
        case measure => simp [intOf]; omega
    · have hke : k = c.length := by omega
      subst hke
      have Hend : Hid (BehR c a r) := Lib.hid (by have := hE.out; rw [List.take_length] at this; exact this)
      clear hE
      go_wp2
      go_ret
      exact ⟨r, g, c2, by rw [hrl]; rfl, by rw [hrl]; exact HO.out, Hend.out, hgb, HW.out⟩
end Go.Proofs.Ytadmmciiahdmcaa
