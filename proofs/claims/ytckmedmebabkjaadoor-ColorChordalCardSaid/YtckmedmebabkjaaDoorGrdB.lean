/- ColorGreedy walked (written by grdb.py). -/
import Derived.Test.YtckmedmebabkjaaDoorGrdA
import Derived.Test.YtckmedmebabkjaaDoorColQ
import Derived.Test.YtckmedmebabkjaaDoorDmxP
import Derived.Test.YtckmedmebabkjaaDoorOnceR
import Derived.Deep.RegionHeld3
namespace Go.Proofs.YtckmedmebabkjaaDoor
set_option maxRecDepth 100000
open Go.RowKit

theorem nbL_deg {m : Nat} {ps : List (Int × Int)} {O : List Int} (hps : ClOk m ps) (hO : O.Nodup) (i : Nat) : (nbL ps i O).length ≤ degK ps i m := by
  have := nodup_sub_len_ (l := nbL ps i O) (m := ((List.range m).filter fun j => @decide (Cl ps i j) (Classical.propDecidable _)).map fun j : Nat => (j : Int)) (List.Nodup.sublist List.filter_sublist hO) (fun x hx => by
    obtain ⟨-, j, rfl, hj⟩ := mem_nbL.1 hx
    refine List.mem_map.2 ⟨j, ?_, rfl⟩
    rw [List.mem_filter, List.mem_range]
    exact ⟨(hj.lt hps).2.1, @decide_eq_true _ (Classical.propDecidable _) hj⟩)
  rw [List.length_map] at this
  exact this
theorem GrR.can {m : Nat} {ps : List (Int × Int)} {O : List Int} {l : List Nat} (h : GrR m ps O l) : Can m (Cl ps) (mostN l 0) :=
  ⟨fun i => l.getD i 0, fun i j hi hj hc => h.ne i j hi hj hc, fun i hi => by
    have h3 := (@mostN_ge l 0).2 (l[i]'(by rw [h.len]; exact hi)) (List.getElem_mem _)
    show l.getD i 0 < _
    rwa [getD_of (by rw [h.len]; exact hi)]⟩
theorem GrR.pos {m : Nat} {ps : List (Int × Int)} {O : List Int} {l : List Nat} (hps : ClOk m ps) (h : GrR m ps O l) : 1 ≤ mostN l 0 := by
  have := (@mostN_ge l 0).2 (l[0]'(by rw [h.len]; exact hps.n1)) (List.getElem_mem _)
  omega
theorem greedy_law {m K : Nat} {ps : List (Int × Int)} {O : List Int} {l c : List Nat} (hps : ClOk m ps) (h : GrR m ps O l) (hL : LeastL (clL m ps) c K) : mostN l 0 ≤ dmx ps m m + 1 ∧ mostN c 0 ≤ mostN l 0 := by
  have hlen : c.length = m := by rw [hL.len, clL_len]
  have hC := hL.toC hps
  refine ⟨mostN_le (by omega) (fun x hx => ?_), ?_⟩
  · obtain ⟨i, hi, rfl⟩ := List.getElem_of_mem hx
    have him : i < m := by rw [← h.len]; exact hi
    have hmem := h.ord.all i him
    obtain ⟨t, ht⟩ := List.mem_iff_getElem?.1 hmem
    have h1 := h.few t i ht
    rw [getD_of hi] at h1
    have h2 := nbL_deg hps (O := O.take t) (List.Nodup.sublist (List.take_sublist _ _) h.ord.one) i
    have h3 := dmx_ge ps m him
    omega
  · rw [hC.most hlen hps.n1 hL.k1]
    exact hC.least _ (h.pos hps) h.can
set_option maxHeartbeats 16000000 in
theorem colorGreedy_calls (n : Int) (A B : Option Addr) (ps : List (Int × Int)) (O : List Int) (cap c2 : Nat) (w : World) (hA : RdP w A ps) (hB : RdI w B O) (hm : ps.length ≤ maxLen) (hm2 : O.length ≤ maxLen) (hT : TabM w) (hw0 : 0 < w.heap.size) :
    Calls Tryd.prog 3 #[.int .i64 n, .slice A ps.length cap, .slice B O.length c2] w fun e w' => e = .returned (.bool true) ∧ Below w.heap.size w w' := by
  have HA := Lib.hid hA
  have HB := Lib.hid hB
  have Hgr := Lib.hid (greedy_calls n A B ps O cap c2 w hA hB hm hT hw0)
  clear hA hB hT
  go_enter Tryd.func3, Tryd.ntmps3
  go_wp2_with fail
  refine Hgr.out.mono ?_
  rintro e w1 ⟨hW, hr⟩
  have HW := Lib.hid hW
  have hw1 := hW.size
  have HA1 := Lib.hid (Rd.below HA.out hW)
  have HB1 := Lib.hid (Rd.below HB.out hW)
  have Hcl := Lib.hid (keepClashes_calls n A ps cap w1 HA1.out hm)
  clear hW Hgr
  rcases hr with ⟨⟨E, hE, rfl⟩, hno⟩ | ⟨m, A5, c5, l, rfl, hok, rfl, hR, hG⟩
  · have q3 : (E != 0) = true := by rw [bne_iff_ne]; exact hE
    have Hno := Lib.hid hno
    clear hE hno
    by_cases hc : clErr n ps = 0
    · rw [hc] at Hcl
      obtain ⟨m, rfl, hok⟩ := clErr_ok hc
      have Ho := Lib.hid (fun w hB => once_calls m B O c2 w hB hm2)
      have Hn := Lib.hid (Hno.out hc m rfl)
      clear hok hc
      go_wp2_with (first
        | (go_at_call 6; refine Hcl.out.mono ?_; rintro e w3 ⟨rfl, hB⟩; have HBb := Lib.hid (HW.out.trans (hB.mono hw1)); have HB3 := Lib.hid (Rd.below HB1.out hB); clear hB)
        | (go_at_call 7; refine (Ho.out _ HB3.out).mono ?_; rintro e w4 ⟨⟨b, hb, rfl⟩, rfl⟩; obtain rfl : b = false := (by cases b; rfl; exact absurd (hb.1 rfl) Hn.out); clear hb))
      go_ret
      exact ⟨rfl, HBb.out⟩
    · have q1 : (clErr n ps == 0) = false := by rw [beq_eq_false_iff_ne]; exact hc
      rw [q1] at Hcl
      clear hc q1
      go_wp2_with (go_at_call 6; refine Hcl.out.mono ?_; rintro e w3 ⟨rfl, hB⟩; have HBb := Lib.hid (HW.out.trans (hB.mono hw1)); clear hB)
      go_ret
      exact ⟨rfl, HBb.out⟩
  · have Hok := Lib.hid hok
    have h1 := hok.n1
    have h8 := hok.n8
    have h28 := hok.len
    have hlen : l.length = m := hG.len
    have HG := Lib.hid hG
    have HR := Lib.hid hR
    have Hlen := Lib.hid hlen
    have Ho := Lib.hid (fun w hB => once_calls m B O c2 w hB hm2)
    rw [hok.err] at Hcl
    clear hok hG hR hlen
    rw [Hlen.out]
    go_wp2_with (first
      | (go_at_call 6; refine Hcl.out.mono ?_; rintro e w3 ⟨rfl, hB⟩; have HW3 := Lib.hid (HW.out.trans (hB.mono hw1)); have HA3 := Lib.hid (Rd.below HA1.out hB); have HB3 := Lib.hid (Rd.below HB1.out hB); have HR3 := Lib.hid (Rd.below HR.out hB); clear hB)
      | (go_at_call 7; refine (Ho.out _ HB3.out).mono ?_; rintro e w4 ⟨⟨b, hb, rfl⟩, rfl⟩; obtain rfl : b = true := (hb.2 HG.out.ord); clear hb)
      | fail)
    have hw3 := HW3.out.size
    refine (least_calls _ _ _ _ _ HA3.out hm).mono ?_
    rintro e w5 ⟨hW5, hr2⟩
    have HW5 := Lib.hid (HW3.out.trans (hW5.mono hw3))
    have HA5 := Lib.hid (Rd.below HA3.out hW5)
    have HR5 := Lib.hid (Rd.below HR3.out hW5)
    have hw5 := HW5.out.size
    clear hW5 HW HA1 HB1 HW3 HA3 HB3 HR HR3 Hcl Ho
    rcases hr2 with ⟨h0, rfl⟩ | ⟨m', hm', hok, A6, cap6, c, K, rfl, hR6, hL⟩
    · exact absurd Hok.out.err h0
    have : m' = m := by omega
    subst this
    have Hlaw := Lib.hid (greedy_law Hok.out HG.out hL)
    have hclen : c.length = m' := by rw [hL.len, clL_len]
    have HL := Lib.hid hL
    have HR6 := Lib.hid hR6
    have Hmc := Lib.hid (fun (w : World) (h : RdC w A6 c) => most_calls A6 c cap6 w h (by omega) (fun x hx => by have := HL.out.good.1 x hx; have := HL.out.kn; rw [clL_len] at this; omega))
    have Hml := Lib.hid (fun (w : World) (h : RdC w A5 l) => most_calls A5 l c5 w h (by have := Hlen.out; omega) (fun x hx => by have := HG.out.lt x hx; omega))
    rw [Hlen.out] at Hml
    have hcm := LeastC.most (HL.out.toC Hok.out) hclen h1 HL.out.k1
    have hK8 : mostN c 0 ≤ 8 := by rw [hcm]; have := HL.out.kn; rw [clL_len] at this; omega
    rw [hclen] at Hmc
    rw [hclen]
    clear hok hR6 hL hm' hclen hcm
    go_wp2
    go_loopw [11, 12] (fun d i wr => ∃ k : Nat, k ≤ m' ∧ i = .int .i64 k ∧ d = .int .i64 (dmx ps m' k : Nat) ∧ Hid (Below w5.heap.size w5 wr)) (fun _ i _ => m' - (intOf i).toNat)
    case atStart => exact ⟨0, Nat.zero_le _, rfl, rfl, Lib.hid (Below.refl _ _)⟩
    case round =>
      obtain ⟨i, hi, rfl, rfl, HWk⟩ := hrel
      have hwk := HWk.out.size
      by_cases hlt : i < m'
      · have q1 : ((i : Nat) : Int) < ((m' : Nat) : Int) := by omega
        have hd1 := dmx_le ps m' i
        have hd2 := degK_le ps i m'
        have Hdg := Lib.hid (fun (w : World) (h : Below w5.heap.size w5 w) => degree_calls m' A ps cap i w (Rd.below HA5.out h) hm h8)
        obtain ⟨D, hD⟩ : ∃ D, D = dmx ps m' (i + 1) := ⟨_, rfl⟩
        have HD := Lib.hid hD
        have hdd : dmx ps m' (i + 1) = if dmx ps m' i < degK ps i m' then degK ps i m' else dmx ps m' i := by rw [dmx]
        rw [← hD] at hdd
        clear hD
        generalize dmx ps m' i = x at *
        generalize degK ps i m' = y at *
        go_wp2_with fail
        refine (Hdg.out _ HWk.out).mono ?_
        rintro e w6 ⟨rfl, hb6⟩
        have Hb6 := Lib.hid (HWk.out.trans (hb6.mono hwk))
        clear hb6
        by_cases hc : x < y
        · rw [if_pos hc] at hdd
          subst hdd
          have q2 : ((x : Nat) : Int) < ((D : Nat) : Int) := by omega
          have q3 : decide (((D : Nat) : Int) > ((x : Nat) : Int)) = true := decide_eq_true (by omega)
          clear hc
          go_wp2_with fail
          refine (Hdg.out _ Hb6.out).mono ?_
          rintro e w7 ⟨rfl, hb7⟩
          have Hb7 := Lib.hid (Hb6.out.trans (hb7.mono Hb6.out.size))
          clear hb7
          go_wp2
          obtain ⟨wo, hwo⟩ : ∃ wo : World, wo = w7 := ⟨_, rfl⟩
          go_loopw [13] (fun j wz => ∃ k : Nat, k ≤ i ∧ j = .int .i64 k ∧ Hid (Below w5.heap.size w5 wz)) (fun j _ => i - (intOf j).toNat)
          case atStart => exact ⟨0, Nat.zero_le _, rfl, Hb7⟩
          case round =>
            clear HWk hwk
            obtain ⟨j, hj, rfl, HWz⟩ := hrel
            have hwz := HWz.out.size
            by_cases hltj : j < i
            · obtain ⟨b, off, rfl, hb, c0⟩ := RdC.at1 (Rd.below HR5.out HWz.out) (show i < l.length by rw [Hlen.out]; exact hlt)
              obtain ⟨_, _, e, _, c1⟩ := RdC.at1 (Rd.below HR5.out HWz.out) (show j < l.length by rw [Hlen.out]; omega)
              cases e
              have HRA := Lib.hid (Rd.below HA5.out HWz.out)
              rw [← getD_of] at c0 c1
              have q4 : ((j : Nat) : Int) < ((m' : Nat) : Int) := by omega
              have q5 : (0 : Int) ≤ ((i : Nat) : Int) := by omega
              have q6 : (0 : Int) ≤ ((j : Nat) : Int) := by omega
              by_cases hcl : Cl ps i j
              · have hx := HG.out.ne i j hlt (by omega) hcl
                have Hcb : Hid (ClB ps i j true) := ⟨fun _ => hcl, fun _ => rfl⟩
                clear hcl
                generalize l.getD i 0 = xx at *
                generalize l.getD j 0 = yy at *
                have q7 : ((xx : Int) == (yy : Int)) = false := by rw [beq_eq_false_iff_ne]; omega
                clear hx
                go_wp2_with fail
                go_region_held3 (fun w' => w'.cell? ⟨b, off + i, none⟩ = some (.int .i64 (xx : Nat)) ∧ w'.cell? ⟨b, off + j, none⟩ = some (.int .i64 (yy : Nat)) ∧ Below wr.heap.size wr w')
                  (first
                    | exact ⟨c0, c1, (Below.refl _ _).drew⟩
                    | (go_split_ands
                       have h8 := (by assumption : Below wr.heap.size wr _)
                       have h8s := h8.size
                       exact ⟨(hB9.cell (p := ⟨b, off + i, none⟩) (by show b < _; omega)).trans (by assumption), (hB9.cell (p := ⟨b, off + j, none⟩) (by show b < _; omega)).trans (by assumption), h8.trans (hB9.mono h8s)⟩))
                  (first
                    | (go_at_call 10; refine (clash_calls _ ps cap i j _ (Rd.below HRA.out ?hb) hm true Hcb.out).mono ?_
                       case hb => (go_split_ands; assumption)
                       rintro e w9 ⟨rfl, hB9⟩))
                go_split_ands
                have h8 := (by assumption : Below wr.heap.size wr _)
                have HB9 := Lib.hid (HWz.out.trans (h8.mono hwz))
                clear h8
                go_wp2
                go_roundw
                case rel => exact ⟨j + 1, by omega, by go_num, HB9⟩
                case measure => simp [intOf]; omega
              · have Hcb : Hid (ClB ps i j false) := ⟨(fun h => by cases h), fun h => absurd h hcl⟩
                clear hcl
                generalize l.getD i 0 = xx at *
                generalize l.getD j 0 = yy at *
                go_wp2_with fail
                refine wp_region_held_drew (S := fun w' => Below wr.heap.size wr w') (by kernel_rfl) (Below.refl _ _).drew (fun hH => ?_)
                refine wpAnyH_take (i := 0) (oi := { dst := some 71, op := Go.Op.move (Go.Operand.tmp 1), type := 22, pos := "high.go:317", after := #[], guard := none }) rfl (by kernel_rfl) (by kernel_rfl) (by kernel_rfl) (fun _ _ _ h => h) (Or.inl ⟨by rfl, fun w hw => by (go_simp; try with_reducible rfl)⟩) (by assumption) ?_
                try simp only [Act.put, List.setIfInBounds_toArray, List.set_cons_zero, List.set_cons_succ]
                refine wpAnyH_take (i := 1) (oi := { dst := some 72, op := Go.Op.move (Go.Operand.tmp 12), type := 3, pos := "high.go:317", after := #[], guard := none }) rfl (by kernel_rfl) (by kernel_rfl) (by kernel_rfl) (fun _ _ _ h => h) (Or.inl ⟨by rfl, fun w hw => by (go_simp; try with_reducible rfl)⟩) (by assumption) ?_
                try simp only [Act.put, List.setIfInBounds_toArray, List.set_cons_zero, List.set_cons_succ]
                refine wpAnyH_take (i := 2) (oi := { dst := some 73, op := Go.Op.move (Go.Operand.tmp 13), type := 3, pos := "high.go:317", after := #[], guard := none }) rfl (by kernel_rfl) (by kernel_rfl) (by kernel_rfl) (fun _ _ _ h => h) (Or.inl ⟨by rfl, fun w hw => by (go_simp; try with_reducible rfl)⟩) (by assumption) ?_
                try simp only [Act.put, List.setIfInBounds_toArray, List.set_cons_zero, List.set_cons_succ]
                refine wpAnyH_ready (rs := [3]) (by kernel_rfl) (by simp) ?_
                refine AllReadyH.cons (o := { dst := some 74, op := Go.Op.call { callee := Go.Callee.value (Go.Operand.func 10), args := #[Go.Operand.tmp 71, Go.Operand.tmp 72, Go.Operand.tmp 73], argTypes := #[22, 3, 3] }, type := 4, pos := "high.go:317", after := #[{ on := 0, ground := Go.Ground.data }, { on := 1, ground := Go.Ground.data }, { on := 2, ground := Go.Ground.data }], guard := none }) rfl (fun K hK => ?_) AllReadyH.nil
                go_simp
                go_at_call 10
                refine (clash_calls _ ps cap i j _ (Rd.below HRA.out hH) hm false Hcb.out).mono ?_
                rintro e w9 ⟨rfl, hB9⟩
                refine hK.out _ _ (hH.trans (hB9.mono hH.size)) (fun hH2 => ?_)
                try simp only [Act.put, List.setIfInBounds_toArray, List.set_cons_zero, List.set_cons_succ]
                clear hK hB9
                refine wpAnyH_take (i := 4) (oi := { dst := some 75, op := Go.Op.move (Go.Operand.tmp 74), type := 4, pos := "high.go:317", after := #[{ on := 3, ground := Go.Ground.data }, { on := 3, ground := Go.Ground.chain }], guard := none }) rfl (by kernel_rfl) (by kernel_rfl) (by kernel_rfl) (fun _ _ _ h => h) (Or.inl ⟨by rfl, fun w hw => by (go_simp; try with_reducible rfl)⟩) (by assumption) ?_
                try simp only [Act.put, List.setIfInBounds_toArray, List.set_cons_zero, List.set_cons_succ]
                refine wpAnyH_take (i := 5) (oi := { dst := some 76, op := Go.Op.move (Go.Operand.tmp 7), type := 23, pos := "high.go:317", after := #[{ on := 4, ground := Go.Ground.guard }], guard := some (4, true) }) rfl (by kernel_rfl) (by kernel_rfl) (by kernel_rfl) (fun _ _ _ h => h) (Or.inr ⟨by rfl, rfl⟩) (by assumption) ?_
                try simp only [Act.put, List.setIfInBounds_toArray, List.set_cons_zero, List.set_cons_succ]
                refine wpAnyH_take (i := 6) (oi := { dst := some 77, op := Go.Op.move (Go.Operand.tmp 12), type := 3, pos := "high.go:317", after := #[{ on := 4, ground := Go.Ground.guard }], guard := some (4, true) }) rfl (by kernel_rfl) (by kernel_rfl) (by kernel_rfl) (fun _ _ _ h => h) (Or.inr ⟨by rfl, rfl⟩) (by assumption) ?_
                try simp only [Act.put, List.setIfInBounds_toArray, List.set_cons_zero, List.set_cons_succ]
                refine wpAnyH_take (i := 7) (oi := { dst := some 78, op := Go.Op.indexAddr 23 (Go.Operand.tmp 76) (Go.Operand.tmp 77), type := 0, pos := "high.go:317", after := #[{ on := 5, ground := Go.Ground.data }, { on := 6, ground := Go.Ground.data }, { on := 4, ground := Go.Ground.guard }], guard := some (4, true) }) rfl (by kernel_rfl) (by kernel_rfl) (by kernel_rfl) (fun _ _ _ h => h) (Or.inr ⟨by rfl, rfl⟩) (by assumption) ?_
                try simp only [Act.put, List.setIfInBounds_toArray, List.set_cons_zero, List.set_cons_succ]
                refine wpAnyH_take (i := 8) (oi := { dst := some 79, op := Go.Op.load 3 (Go.Operand.tmp 78), type := 3, pos := "high.go:317", after := #[{ on := 7, ground := Go.Ground.data }, { on := 4, ground := Go.Ground.guard }], guard := some (4, true) }) rfl (by kernel_rfl) (by kernel_rfl) (by kernel_rfl) (fun _ _ _ h => h) (Or.inr ⟨by rfl, rfl⟩) (by assumption) ?_
                try simp only [Act.put, List.setIfInBounds_toArray, List.set_cons_zero, List.set_cons_succ]
                refine wpAnyH_take (i := 9) (oi := { dst := some 80, op := Go.Op.move (Go.Operand.tmp 7), type := 23, pos := "high.go:317", after := #[{ on := 4, ground := Go.Ground.guard }], guard := some (4, true) }) rfl (by kernel_rfl) (by kernel_rfl) (by kernel_rfl) (fun _ _ _ h => h) (Or.inr ⟨by rfl, rfl⟩) (by assumption) ?_
                try simp only [Act.put, List.setIfInBounds_toArray, List.set_cons_zero, List.set_cons_succ]
                refine wpAnyH_take (i := 10) (oi := { dst := some 81, op := Go.Op.move (Go.Operand.tmp 13), type := 3, pos := "high.go:317", after := #[{ on := 4, ground := Go.Ground.guard }], guard := some (4, true) }) rfl (by kernel_rfl) (by kernel_rfl) (by kernel_rfl) (fun _ _ _ h => h) (Or.inr ⟨by rfl, rfl⟩) (by assumption) ?_
                try simp only [Act.put, List.setIfInBounds_toArray, List.set_cons_zero, List.set_cons_succ]
                refine wpAnyH_take (i := 11) (oi := { dst := some 82, op := Go.Op.indexAddr 23 (Go.Operand.tmp 80) (Go.Operand.tmp 81), type := 0, pos := "high.go:317", after := #[{ on := 9, ground := Go.Ground.data }, { on := 10, ground := Go.Ground.data }, { on := 4, ground := Go.Ground.guard }], guard := some (4, true) }) rfl (by kernel_rfl) (by kernel_rfl) (by kernel_rfl) (fun _ _ _ h => h) (Or.inr ⟨by rfl, rfl⟩) (by assumption) ?_
                try simp only [Act.put, List.setIfInBounds_toArray, List.set_cons_zero, List.set_cons_succ]
                refine wpAnyH_take (i := 12) (oi := { dst := some 83, op := Go.Op.load 3 (Go.Operand.tmp 82), type := 3, pos := "high.go:317", after := #[{ on := 11, ground := Go.Ground.data }, { on := 4, ground := Go.Ground.guard }], guard := some (4, true) }) rfl (by kernel_rfl) (by kernel_rfl) (by kernel_rfl) (fun _ _ _ h => h) (Or.inr ⟨by rfl, rfl⟩) (by assumption) ?_
                try simp only [Act.put, List.setIfInBounds_toArray, List.set_cons_zero, List.set_cons_succ]
                refine wpAnyH_take (i := 13) (oi := { dst := some 84, op := Go.Op.binOp Go.BinOp.eql 3 (Go.Operand.tmp 79) (Go.Operand.tmp 83) 3, type := 4, pos := "high.go:317", after := #[{ on := 8, ground := Go.Ground.data }, { on := 12, ground := Go.Ground.data }, { on := 4, ground := Go.Ground.guard }], guard := some (4, true) }) rfl (by kernel_rfl) (by kernel_rfl) (by kernel_rfl) (fun _ _ _ h => h) (Or.inr ⟨by rfl, rfl⟩) (by assumption) ?_
                try simp only [Act.put, List.setIfInBounds_toArray, List.set_cons_zero, List.set_cons_succ]
                refine wpAnyH_take (i := 14) (oi := { dst := some 85, op := Go.Op.pick (Go.Operand.tmp 75) (Go.Operand.tmp 84) (Go.Operand.const (Go.Value.bool false)), type := 4, pos := "high.go:317", after := #[{ on := 4, ground := Go.Ground.data }, { on := 13, ground := Go.Ground.data }], guard := none }) rfl (by kernel_rfl) (by kernel_rfl) (by kernel_rfl) (fun _ _ _ h => h) (Or.inl ⟨by rfl, fun w hw => by (go_simp; try with_reducible rfl)⟩) (by assumption) ?_
                try simp only [Act.put, List.setIfInBounds_toArray, List.set_cons_zero, List.set_cons_succ]
                refine wpAnyH_done (by kernel_rfl) ?_ _
                have HB9 := Lib.hid (HWz.out.trans (hH2.mono hwz))
                clear hH hH2
                go_wp2
                go_roundw
                case rel => exact ⟨j + 1, by omega, by go_num, HB9⟩
                case measure => simp [intOf]; omega
            · go_wp2
              go_roundw
              case rel => exact ⟨i + 1, by omega, by go_num, by rw [← HD.out], HWz⟩
              case measure => simp [intOf]; omega
        · rw [if_neg hc] at hdd
          subst hdd
          have q2 : ((y : Nat) : Int) ≤ ((D : Nat) : Int) := by omega
          have q3 : decide (((y : Nat) : Int) > ((D : Nat) : Int)) = false := decide_eq_false (by omega)
          have q3' : decide (D < y) = false := decide_eq_false (by omega)
          clear hc
          go_wp2
          obtain ⟨wo, hwo⟩ : ∃ wo : World, wo = w6 := ⟨_, rfl⟩
          go_loopw [13] (fun j wz => ∃ k : Nat, k ≤ i ∧ j = .int .i64 k ∧ Hid (Below w5.heap.size w5 wz)) (fun j _ => i - (intOf j).toNat)
          case atStart => exact ⟨0, Nat.zero_le _, rfl, Hb6⟩
          case round =>
            clear HWk hwk
            obtain ⟨j, hj, rfl, HWz⟩ := hrel
            have hwz := HWz.out.size
            by_cases hltj : j < i
            · obtain ⟨b, off, rfl, hb, c0⟩ := RdC.at1 (Rd.below HR5.out HWz.out) (show i < l.length by rw [Hlen.out]; exact hlt)
              obtain ⟨_, _, e, _, c1⟩ := RdC.at1 (Rd.below HR5.out HWz.out) (show j < l.length by rw [Hlen.out]; omega)
              cases e
              have HRA := Lib.hid (Rd.below HA5.out HWz.out)
              rw [← getD_of] at c0 c1
              have q4 : ((j : Nat) : Int) < ((m' : Nat) : Int) := by omega
              have q5 : (0 : Int) ≤ ((i : Nat) : Int) := by omega
              have q6 : (0 : Int) ≤ ((j : Nat) : Int) := by omega
              by_cases hcl : Cl ps i j
              · have hx := HG.out.ne i j hlt (by omega) hcl
                have Hcb : Hid (ClB ps i j true) := ⟨fun _ => hcl, fun _ => rfl⟩
                clear hcl
                generalize l.getD i 0 = xx at *
                generalize l.getD j 0 = yy at *
                have q7 : ((xx : Int) == (yy : Int)) = false := by rw [beq_eq_false_iff_ne]; omega
                clear hx
                go_wp2_with fail
                go_region_held3 (fun w' => w'.cell? ⟨b, off + i, none⟩ = some (.int .i64 (xx : Nat)) ∧ w'.cell? ⟨b, off + j, none⟩ = some (.int .i64 (yy : Nat)) ∧ Below wr.heap.size wr w')
                  (first
                    | exact ⟨c0, c1, (Below.refl _ _).drew⟩
                    | (go_split_ands
                       have h8 := (by assumption : Below wr.heap.size wr _)
                       have h8s := h8.size
                       exact ⟨(hB9.cell (p := ⟨b, off + i, none⟩) (by show b < _; omega)).trans (by assumption), (hB9.cell (p := ⟨b, off + j, none⟩) (by show b < _; omega)).trans (by assumption), h8.trans (hB9.mono h8s)⟩))
                  (first
                    | (go_at_call 10; refine (clash_calls _ ps cap i j _ (Rd.below HRA.out ?hb) hm true Hcb.out).mono ?_
                       case hb => (go_split_ands; assumption)
                       rintro e w9 ⟨rfl, hB9⟩))
                go_split_ands
                have h8 := (by assumption : Below wr.heap.size wr _)
                have HB9 := Lib.hid (HWz.out.trans (h8.mono hwz))
                clear h8
                go_wp2
                go_roundw
                case rel => exact ⟨j + 1, by omega, by go_num, HB9⟩
                case measure => simp [intOf]; omega
              · have Hcb : Hid (ClB ps i j false) := ⟨(fun h => by cases h), fun h => absurd h hcl⟩
                clear hcl
                generalize l.getD i 0 = xx at *
                generalize l.getD j 0 = yy at *
                go_wp2_with fail
                refine wp_region_held_drew (S := fun w' => Below wr.heap.size wr w') (by kernel_rfl) (Below.refl _ _).drew (fun hH => ?_)
                refine wpAnyH_take (i := 0) (oi := { dst := some 71, op := Go.Op.move (Go.Operand.tmp 1), type := 22, pos := "high.go:317", after := #[], guard := none }) rfl (by kernel_rfl) (by kernel_rfl) (by kernel_rfl) (fun _ _ _ h => h) (Or.inl ⟨by rfl, fun w hw => by (go_simp; try with_reducible rfl)⟩) (by assumption) ?_
                try simp only [Act.put, List.setIfInBounds_toArray, List.set_cons_zero, List.set_cons_succ]
                refine wpAnyH_take (i := 1) (oi := { dst := some 72, op := Go.Op.move (Go.Operand.tmp 12), type := 3, pos := "high.go:317", after := #[], guard := none }) rfl (by kernel_rfl) (by kernel_rfl) (by kernel_rfl) (fun _ _ _ h => h) (Or.inl ⟨by rfl, fun w hw => by (go_simp; try with_reducible rfl)⟩) (by assumption) ?_
                try simp only [Act.put, List.setIfInBounds_toArray, List.set_cons_zero, List.set_cons_succ]
                refine wpAnyH_take (i := 2) (oi := { dst := some 73, op := Go.Op.move (Go.Operand.tmp 13), type := 3, pos := "high.go:317", after := #[], guard := none }) rfl (by kernel_rfl) (by kernel_rfl) (by kernel_rfl) (fun _ _ _ h => h) (Or.inl ⟨by rfl, fun w hw => by (go_simp; try with_reducible rfl)⟩) (by assumption) ?_
                try simp only [Act.put, List.setIfInBounds_toArray, List.set_cons_zero, List.set_cons_succ]
                refine wpAnyH_ready (rs := [3]) (by kernel_rfl) (by simp) ?_
                refine AllReadyH.cons (o := { dst := some 74, op := Go.Op.call { callee := Go.Callee.value (Go.Operand.func 10), args := #[Go.Operand.tmp 71, Go.Operand.tmp 72, Go.Operand.tmp 73], argTypes := #[22, 3, 3] }, type := 4, pos := "high.go:317", after := #[{ on := 0, ground := Go.Ground.data }, { on := 1, ground := Go.Ground.data }, { on := 2, ground := Go.Ground.data }], guard := none }) rfl (fun K hK => ?_) AllReadyH.nil
                go_simp
                go_at_call 10
                refine (clash_calls _ ps cap i j _ (Rd.below HRA.out hH) hm false Hcb.out).mono ?_
                rintro e w9 ⟨rfl, hB9⟩
                refine hK.out _ _ (hH.trans (hB9.mono hH.size)) (fun hH2 => ?_)
                try simp only [Act.put, List.setIfInBounds_toArray, List.set_cons_zero, List.set_cons_succ]
                clear hK hB9
                refine wpAnyH_take (i := 4) (oi := { dst := some 75, op := Go.Op.move (Go.Operand.tmp 74), type := 4, pos := "high.go:317", after := #[{ on := 3, ground := Go.Ground.data }, { on := 3, ground := Go.Ground.chain }], guard := none }) rfl (by kernel_rfl) (by kernel_rfl) (by kernel_rfl) (fun _ _ _ h => h) (Or.inl ⟨by rfl, fun w hw => by (go_simp; try with_reducible rfl)⟩) (by assumption) ?_
                try simp only [Act.put, List.setIfInBounds_toArray, List.set_cons_zero, List.set_cons_succ]
                refine wpAnyH_take (i := 5) (oi := { dst := some 76, op := Go.Op.move (Go.Operand.tmp 7), type := 23, pos := "high.go:317", after := #[{ on := 4, ground := Go.Ground.guard }], guard := some (4, true) }) rfl (by kernel_rfl) (by kernel_rfl) (by kernel_rfl) (fun _ _ _ h => h) (Or.inr ⟨by rfl, rfl⟩) (by assumption) ?_
                try simp only [Act.put, List.setIfInBounds_toArray, List.set_cons_zero, List.set_cons_succ]
                refine wpAnyH_take (i := 6) (oi := { dst := some 77, op := Go.Op.move (Go.Operand.tmp 12), type := 3, pos := "high.go:317", after := #[{ on := 4, ground := Go.Ground.guard }], guard := some (4, true) }) rfl (by kernel_rfl) (by kernel_rfl) (by kernel_rfl) (fun _ _ _ h => h) (Or.inr ⟨by rfl, rfl⟩) (by assumption) ?_
                try simp only [Act.put, List.setIfInBounds_toArray, List.set_cons_zero, List.set_cons_succ]
                refine wpAnyH_take (i := 7) (oi := { dst := some 78, op := Go.Op.indexAddr 23 (Go.Operand.tmp 76) (Go.Operand.tmp 77), type := 0, pos := "high.go:317", after := #[{ on := 5, ground := Go.Ground.data }, { on := 6, ground := Go.Ground.data }, { on := 4, ground := Go.Ground.guard }], guard := some (4, true) }) rfl (by kernel_rfl) (by kernel_rfl) (by kernel_rfl) (fun _ _ _ h => h) (Or.inr ⟨by rfl, rfl⟩) (by assumption) ?_
                try simp only [Act.put, List.setIfInBounds_toArray, List.set_cons_zero, List.set_cons_succ]
                refine wpAnyH_take (i := 8) (oi := { dst := some 79, op := Go.Op.load 3 (Go.Operand.tmp 78), type := 3, pos := "high.go:317", after := #[{ on := 7, ground := Go.Ground.data }, { on := 4, ground := Go.Ground.guard }], guard := some (4, true) }) rfl (by kernel_rfl) (by kernel_rfl) (by kernel_rfl) (fun _ _ _ h => h) (Or.inr ⟨by rfl, rfl⟩) (by assumption) ?_
                try simp only [Act.put, List.setIfInBounds_toArray, List.set_cons_zero, List.set_cons_succ]
                refine wpAnyH_take (i := 9) (oi := { dst := some 80, op := Go.Op.move (Go.Operand.tmp 7), type := 23, pos := "high.go:317", after := #[{ on := 4, ground := Go.Ground.guard }], guard := some (4, true) }) rfl (by kernel_rfl) (by kernel_rfl) (by kernel_rfl) (fun _ _ _ h => h) (Or.inr ⟨by rfl, rfl⟩) (by assumption) ?_
                try simp only [Act.put, List.setIfInBounds_toArray, List.set_cons_zero, List.set_cons_succ]
                refine wpAnyH_take (i := 10) (oi := { dst := some 81, op := Go.Op.move (Go.Operand.tmp 13), type := 3, pos := "high.go:317", after := #[{ on := 4, ground := Go.Ground.guard }], guard := some (4, true) }) rfl (by kernel_rfl) (by kernel_rfl) (by kernel_rfl) (fun _ _ _ h => h) (Or.inr ⟨by rfl, rfl⟩) (by assumption) ?_
                try simp only [Act.put, List.setIfInBounds_toArray, List.set_cons_zero, List.set_cons_succ]
                refine wpAnyH_take (i := 11) (oi := { dst := some 82, op := Go.Op.indexAddr 23 (Go.Operand.tmp 80) (Go.Operand.tmp 81), type := 0, pos := "high.go:317", after := #[{ on := 9, ground := Go.Ground.data }, { on := 10, ground := Go.Ground.data }, { on := 4, ground := Go.Ground.guard }], guard := some (4, true) }) rfl (by kernel_rfl) (by kernel_rfl) (by kernel_rfl) (fun _ _ _ h => h) (Or.inr ⟨by rfl, rfl⟩) (by assumption) ?_
                try simp only [Act.put, List.setIfInBounds_toArray, List.set_cons_zero, List.set_cons_succ]
                refine wpAnyH_take (i := 12) (oi := { dst := some 83, op := Go.Op.load 3 (Go.Operand.tmp 82), type := 3, pos := "high.go:317", after := #[{ on := 11, ground := Go.Ground.data }, { on := 4, ground := Go.Ground.guard }], guard := some (4, true) }) rfl (by kernel_rfl) (by kernel_rfl) (by kernel_rfl) (fun _ _ _ h => h) (Or.inr ⟨by rfl, rfl⟩) (by assumption) ?_
                try simp only [Act.put, List.setIfInBounds_toArray, List.set_cons_zero, List.set_cons_succ]
                refine wpAnyH_take (i := 13) (oi := { dst := some 84, op := Go.Op.binOp Go.BinOp.eql 3 (Go.Operand.tmp 79) (Go.Operand.tmp 83) 3, type := 4, pos := "high.go:317", after := #[{ on := 8, ground := Go.Ground.data }, { on := 12, ground := Go.Ground.data }, { on := 4, ground := Go.Ground.guard }], guard := some (4, true) }) rfl (by kernel_rfl) (by kernel_rfl) (by kernel_rfl) (fun _ _ _ h => h) (Or.inr ⟨by rfl, rfl⟩) (by assumption) ?_
                try simp only [Act.put, List.setIfInBounds_toArray, List.set_cons_zero, List.set_cons_succ]
                refine wpAnyH_take (i := 14) (oi := { dst := some 85, op := Go.Op.pick (Go.Operand.tmp 75) (Go.Operand.tmp 84) (Go.Operand.const (Go.Value.bool false)), type := 4, pos := "high.go:317", after := #[{ on := 4, ground := Go.Ground.data }, { on := 13, ground := Go.Ground.data }], guard := none }) rfl (by kernel_rfl) (by kernel_rfl) (by kernel_rfl) (fun _ _ _ h => h) (Or.inl ⟨by rfl, fun w hw => by (go_simp; try with_reducible rfl)⟩) (by assumption) ?_
                try simp only [Act.put, List.setIfInBounds_toArray, List.set_cons_zero, List.set_cons_succ]
                refine wpAnyH_done (by kernel_rfl) ?_ _
                have HB9 := Lib.hid (HWz.out.trans (hH2.mono hwz))
                clear hH hH2
                go_wp2
                go_roundw
                case rel => exact ⟨j + 1, by omega, by go_num, HB9⟩
                case measure => simp [intOf]; omega
            · go_wp2
              go_roundw
              case rel => exact ⟨i + 1, by omega, by go_num, by rw [← HD.out], HWz⟩
              case measure => simp [intOf]; omega
      · have hke : i = m' := by omega
        subst hke
        have Hend := Lib.hid (HW5.out.trans (HWk.out.mono hw5))
        have hlw := Hlaw.out
        have hd1 := dmx_le ps i i
        have Hmc2 := Lib.hid (Hmc.out wr (Rd.below HR6.out HWk.out))
        have Hml2 := Lib.hid (Hml.out wr (Rd.below HR5.out HWk.out))
        clear Hmc Hml Hlaw
        generalize dmx ps i i = D at *
        generalize hM1 : mostN l 0 = M1 at *
        generalize hM2 : mostN c 0 = M2 at *
        have q1 : ((M1 : Nat) : Int) ≤ ((D : Nat) : Int) + 1 := by omega
        have q2 : ((M2 : Nat) : Int) ≤ ((M1 : Nat) : Int) := by omega
        have q3 : decide (((M1 : Nat) : Int) ≥ ((M2 : Nat) : Int)) = true := decide_eq_true (by omega)
        clear hM1 hM2 hlw
        go_wp2_with (first
          | (go_at_call 11; with_reducible refine Hml2.out.mono ?_; rintro e w9 ⟨rfl, rfl⟩)
          | (go_at_call 11; with_reducible refine Hmc2.out.mono ?_; rintro e w9 ⟨rfl, rfl⟩))
        all_goals first
          | (exfalso; omega)
          | (go_ret
             exact ⟨rfl, Hend.out⟩)
end Go.Proofs.YtckmedmebabkjaaDoor
