/- ColorChordal walked. -/
import Derived.Test.YtckmedmebabkjaaDoorPerA
import Derived.Test.YtckmedmebabkjaaDoorSizeR
namespace Go.Proofs.YtckmedmebabkjaaDoor
set_option maxRecDepth 100000
open Go.RowKit

set_option maxHeartbeats 16000000 in
theorem colorChordal_calls (n : Int) (A : Option Addr) (ps : List (Int × Int)) (cap : Nat) (w : World) (hA : RdP w A ps) (hm : ps.length ≤ maxLen) (hT : TabM w) (hw0 : 0 < w.heap.size) :
    Calls Tryd.prog 4 #[.int .i64 n, .slice A ps.length cap] w fun e w' => e = .returned (.bool true) ∧ Below w.heap.size w w' := by
  have HA := Lib.hid hA
  have HT := Lib.hid hT
  clear hA hT
  go_enter Tryd.func4, Tryd.ntmps4
  go_wp2_with fail
  refine (perfect_calls n A ps cap _ HA.out hm).mono ?_
  rintro e w1 ⟨hW, hr⟩
  have HW1 := Lib.hid hW
  have hw1 := hW.size
  have HA1 := Lib.hid (Rd.below HA.out hW)
  clear hW
  by_cases hc : clErr n ps = 0
  case neg =>
    have q1 : (clErr n ps == 0) = false := by rw [beq_eq_false_iff_ne]; exact hc
    have q2 : (clErr n ps != 0) = true := by rw [bne_iff_ne]; exact hc
    have Hc := Lib.hid hc
    rcases hr with ⟨E, hE, rfl⟩ | ⟨m, A5, c5, l, rfl, hok, -⟩
    · have q3 : (E != 0) = true := by rw [bne_iff_ne]; exact hE
      clear hE hc
      go_wp2_with fail
      refine (clique_calls _ _ _ _ _ HA1.out hm).mono ?_
      rintro e w2 ⟨hW2, hr2⟩
      have HW2 := Lib.hid (HW1.out.trans (hW2.mono hw1))
      have HA2 := Lib.hid (Rd.below HA1.out hW2)
      have hw2 := HW2.out.size
      clear hW2
      rcases hr2 with ⟨h0, E2, hE2, rfl⟩ | ⟨m, q, rfl, hok, -⟩
      · have q4 : (E2 != 0) = true := by rw [bne_iff_ne]; exact hE2
        clear hE2 h0
        go_wp2_with fail
        refine (least_calls _ _ _ _ _ HA2.out hm).mono ?_
        rintro e w3 ⟨hW3, hr3⟩
        have HW3 := Lib.hid (HW2.out.trans (hW3.mono hw2))
        have HA3 := Lib.hid (Rd.below HA2.out hW3)
        have hw3 := HW3.out.size
        clear hW3
        rcases hr3 with ⟨h0, rfl⟩ | ⟨m, rfl, hok, -⟩
        · clear h0
          have Hcl := Lib.hid (keepClashes_calls n A ps cap w3 HA3.out hm)
          rw [q1] at Hcl
          clear q1
          go_wp2_with (go_at_call 6; refine Hcl.out.mono ?_; rintro e w4 ⟨rfl, hB⟩; have HB4 := Lib.hid (HW3.out.trans (hB.mono hw3)); clear hB)
          go_ret
          exact ⟨rfl, HB4.out⟩
        · exact absurd hok.err Hc.out
      · exact absurd hok.err Hc.out
    · exact absurd hok.err hc
  obtain ⟨m, rfl, hok⟩ := clErr_ok hc
  have Hok := Lib.hid hok
  have h1 := hok.n1
  have h8 := hok.n8
  have Hc := Lib.hid hc
  -- what Clique, Least and clashes give, behind whatever Perfect gave
  have Hq := Lib.hid (fun (w' : World) (h : RdP w' A ps) => clique_calls m A ps cap w' h hm)
  have Hl := Lib.hid (fun (w' : World) (h : RdP w' A ps) => least_calls m A ps cap w' h hm)
  have Hcl := Lib.hid (fun (w' : World) (h : RdP w' A ps) => keepClashes_calls m A ps cap w' h hm)
  rw [show (clErr m ps == 0) = true by rw [beq_iff_eq]; exact hc] at Hcl
  clear hok hc
  rcases hr with ⟨E, hE, rfl⟩ | ⟨m', A5, c5, l, hm', -, rfl, hR5, hord, hpf⟩
  · have q3 : (E != 0) = true := by rw [bne_iff_ne]; exact hE
    clear hE
    go_wp2_with fail
    refine (Hq.out _ HA1.out).mono ?_
    rintro e w2 ⟨hW2, hr2⟩
    have HW2 := Lib.hid (HW1.out.trans (hW2.mono hw1))
    have HA2 := Lib.hid (Rd.below HA1.out hW2)
    have hw2 := HW2.out.size
    clear hW2
    rcases hr2 with ⟨h0, -⟩ | ⟨m2, q, hm2, -, rfl, hq⟩
    · exact absurd Hc.out h0
    obtain rfl : m2 = m := by omega
    have HQ := Lib.hid hq
    have hq8 : q < 256 := by have := hq.lt; have : 2 ^ m2 ≤ 2 ^ 8 := Nat.pow_le_pow_right (by decide) h8; omega
    clear hq hm2
    go_wp2_with fail
    refine (Hl.out _ HA2.out).mono ?_
    rintro e w3 ⟨hW3, hr3⟩
    have HW3 := Lib.hid (HW2.out.trans (hW3.mono hw2))
    have HA3 := Lib.hid (Rd.below HA2.out hW3)
    have hw3 := HW3.out.size
    clear hW3
    rcases hr3 with ⟨h0, -⟩ | ⟨m3, hm3, -, A6, cap6, c, K, rfl, hR6, hL⟩
    · exact absurd Hc.out h0
    obtain rfl : m3 = m2 := by omega
    have hclen : c.length = m3 := by rw [hL.len, clL_len]
    have hge := HQ.out.least Hok.out hL
    have HR6 := Lib.hid hR6
    have Hmc := Lib.hid (fun (w : World) (h : RdC w A6 c) => most_calls A6 c cap6 w h (by omega) (fun x hx => by have := hL.good.1 x hx; have := hL.kn; rw [clL_len] at this; omega))
    have hK8 : mostN c 0 ≤ 8 := by rw [LeastC.most (hL.toC Hok.out) hclen h1 hL.k1]; have := hL.kn; rw [clL_len] at this; omega
    rw [hclen] at Hmc ⊢
    have Hsz := Lib.hid (fun w => size_calls q w hq8)
    have Hcl3 := Lib.hid (Hcl.out _ HA3.out)
    have hcc := cnt8_le q
    clear hR6 hL hm3 hclen Hcl Hq Hl
    generalize mostN c 0 = M at *
    generalize cnt8 q = z at *
    have q5 : decide ((M : Int) < (z : Int)) = false := decide_eq_false (by omega)
    have q5' : (z : Int) ≤ (M : Int) := by omega
    have q5n : decide (M < z) = false := decide_eq_false (by omega)
    go_wp2_with (first
      | (go_at_call 6; with_reducible refine Hcl3.out.mono ?_; rintro e w4 ⟨rfl, hB⟩; have HB4 := Lib.hid (HW3.out.trans (hB.mono hw3)); have HR4 := Lib.hid (Rd.below HR6.out hB); clear hB)
      | (go_at_call 11; refine (Hmc.out _ HR4.out).mono ?_; rintro e w5 ⟨rfl, rfl⟩)
      | (go_at_call 14; refine (Hsz.out _).mono ?_; rintro e w6 ⟨rfl, rfl⟩))
    all_goals first
      | (exfalso; omega)
      | (go_ret
         exact ⟨rfl, HB4.out⟩)
  · obtain rfl : m' = m := by omega
    have Hord := Lib.hid hord
    have Hpf := Lib.hid hpf
    have HR5 := Lib.hid hR5
    have hll := hord.len
    have HT1 := Lib.hid (HT.out.below hw0 HW1.out)
    rw [hll]
    clear hord hpf hR5 hm'
    have Hll := Lib.hid hll
    clear hll
    go_wp2_with fail
    refine (Hq.out _ HA1.out).mono ?_
    rintro e w2 ⟨hW2, hr2⟩
    have HW2 := Lib.hid (HW1.out.trans (hW2.mono hw1))
    have HA2 := Lib.hid (Rd.below HA1.out hW2)
    have HR52 := Lib.hid (Rd.below HR5.out hW2)
    have hw2 := HW2.out.size
    clear hW2
    rcases hr2 with ⟨h0, -⟩ | ⟨m2, q, hm2, -, rfl, hq⟩
    · exact absurd Hc.out h0
    obtain rfl : m2 = m' := by omega
    have HQ := Lib.hid hq
    have hq8 : q < 256 := by have := hq.lt; have : 2 ^ m2 ≤ 2 ^ 8 := Nat.pow_le_pow_right (by decide) h8; omega
    clear hq hm2
    go_wp2_with fail
    refine (Hl.out _ HA2.out).mono ?_
    rintro e w3 ⟨hW3, hr3⟩
    have HW3 := Lib.hid (HW2.out.trans (hW3.mono hw2))
    have HA3 := Lib.hid (Rd.below HA2.out hW3)
    have HR53 := Lib.hid (Rd.below HR52.out hW3)
    have hw3 := HW3.out.size
    clear hW3
    rcases hr3 with ⟨h0, -⟩ | ⟨m3, hm3, -, A6, cap6, c, K, rfl, hR6, hL⟩
    · exact absurd Hc.out h0
    obtain rfl : m3 = m2 := by omega
    have hclen : c.length = m3 := by rw [hL.len, clL_len]
    have hge := HQ.out.least Hok.out hL
    have HR6 := Lib.hid hR6
    have Hmc := Lib.hid (fun (w : World) (h : RdC w A6 c) => most_calls A6 c cap6 w h (by omega) (fun x hx => by have := hL.good.1 x hx; have := hL.kn; rw [clL_len] at this; omega))
    have hK8 : mostN c 0 ≤ 8 := by rw [LeastC.most (hL.toC Hok.out) hclen h1 hL.k1]; have := hL.kn; rw [clL_len] at this; omega
    rw [hclen] at Hmc ⊢
    have Hlaw := Lib.hid (fun (d : List Nat) (hG : GrR m3 ps l.reverse d) => chordal_law Hok.out Hord.out Hpf.out HQ.out hL hG)
    have Hsz := Lib.hid (fun w => size_calls q w hq8)
    have Hcl3 := Lib.hid (Hcl.out _ HA3.out)
    have hcc := cnt8_le q
    clear hR6 hL hm3 hclen Hcl Hq Hl
    generalize mostN c 0 = M at *
    generalize cnt8 q = z at *
    have q5 : decide ((M : Int) < (z : Int)) = false := decide_eq_false (by omega)
    have q5' : (z : Int) ≤ (M : Int) := by omega
    have q5n : decide (M < z) = false := decide_eq_false (by omega)
    go_wp2_with (first
      | (go_at_call 6; with_reducible refine Hcl3.out.mono ?_; rintro e w4 ⟨rfl, hB⟩; have HB4 := Lib.hid (HW3.out.trans (hB.mono hw3)); have HR4 := Lib.hid (Rd.below HR6.out hB); have HA4 := Lib.hid (Rd.below HA3.out hB); have HR54 := Lib.hid (Rd.below HR53.out hB); clear hB)
      | (go_at_call 11; refine (Hmc.out _ HR4.out).mono ?_; rintro e w5 ⟨rfl, rfl⟩)
      | (go_at_call 14; refine (Hsz.out _).mono ?_; rintro e w6 ⟨rfl, rfl⟩))
    have hw6 := HB4.out.size
    have hl8 : l.length ≤ 8 := by have := Hll.out; omega
    go_loopw [11, 12] (fun bv iv wr => ∃ t : Nat, t ≤ m3 ∧ iv = .int .i64 ((m3 : Int) - 1 - t) ∧ Hid (OwnI wr w6.heap.size 3 bv (l.reverse.take t)) ∧ Hid (Below w6.heap.size w6 wr)) (fun _ iv _ => (intOf iv + 1).toNat)
    case atStart => exact ⟨0, Nat.zero_le _, by simp, Lib.hid (by rw [List.take_zero]; exact Own.nil_ _ _ _), Lib.hid (Below.refl _ _)⟩
    case round =>
      obtain ⟨t, ht, rfl, HO, HWr⟩ := hrel
      have hwr := HWr.out.size
      by_cases htm : t < m3
      · obtain ⟨k, hk⟩ : ∃ k : Nat, (m3 : Int) - 1 - t = k := ⟨m3 - 1 - t, by omega⟩
        have hkl : k < l.length := by have := Hll.out; omega
        obtain ⟨b, off, hA5, hb, c0⟩ := RdI.at1 (Rd.below HR54.out HWr.out) hkl
        have hrt : t < l.reverse.length := by rw [List.length_reverse]; have := Hll.out; omega
        have htk : l.reverse.take (t + 1) = l.reverse.take t ++ [l[k]] := by
          rw [List.take_succ_eq_append_getElem hrt, List.getElem_reverse]
          congr 2
          have := Hll.out
          congr 1
          omega
        have Htk := Lib.hid htk
        have htl : (l.reverse.take t).length ≤ 8 := by rw [List.length_take, List.length_reverse]; omega
        have hk1 : ((k : Nat) : Int) < ((m3 : Nat) : Int) := by omega
        have hk0 : (0 : Int) ≤ ((k : Nat) : Int) := by omega
        have Hk := Lib.hid hk
        have hkn : ((k : Nat) : Int) - 1 = (m3 : Int) - 1 - ((t + 1 : Nat) : Int) := by omega
        have Hkn := Lib.hid hkn
        subst hA5
        clear htk hrt hkn
        rw [hk]
        clear hk
        generalize l[k] = x at *
        go_wp2_with (at_builtin; refine wpList_appI rfl _ _ rfl w6.heap.size _ _ x rfl (HO.out.alloc _) _ _ rfl (cell_new _ _ _ _ rfl _) (by omega) (by simp; omega) ?_; intro v5 w5 hown5 hgrow5
                     have HO5 := Lib.hid hown5
                     have HW5 := Lib.hid ((HWr.out.alloc hwr _).grown hgrow5 (by simp; omega) (fun k hk => (World.ownsRow.lt HO.out k hk).1))
                     clear hown5 hgrow5)
        go_roundw
        case rel => exact ⟨t + 1, by omega, by rw [← Hkn.out], by rw [Htk.out]; exact HO5, HW5⟩
        case measure => simp [intOf]
      · have htm' : t = m3 := by omega
        subst htm'
        have hrl : l.reverse.take t = l.reverse := List.take_of_length_le (by rw [List.length_reverse]; have := Hll.out; omega)
        have hO := HO.out
        rw [hrl] at hO
        obtain ⟨Ab, cb, rfl, hRb⟩ := OwnI.rd hO
        have hrlen : l.reverse.length = t := by rw [List.length_reverse]; exact Hll.out
        have HWe := Lib.hid (HB4.out.trans (HWr.out.mono hw6))
        have HTe := Lib.hid (HT.out.below hw0 HWe.out)
        have Hgr := Lib.hid (greedy_calls t A Ab ps l.reverse cap cb wr (Rd.below HA4.out HWr.out) hRb hm HTe.out (by have := HWe.out.size; omega))
        have Hno := Lib.hid (ord_rev Hord.out)
        have HR6e := Lib.hid (Rd.below HR4.out HWr.out)
        rw [hrlen] at Hgr
        rw [hrlen]
        clear hO hrl hRb HO
        have qm : ((t : Nat) : Int) - 1 - ((t : Nat) : Int) = -1 := by omega
        rw [qm]
        go_wp2_with fail
        refine Hgr.out.mono ?_
        rintro e w7 ⟨hW7, hr7⟩
        have HW7 := Lib.hid (HWe.out.trans (hW7.mono HWe.out.size))
        have HR67 := Lib.hid (Rd.below HR6e.out hW7)
        clear hW7
        rcases hr7 with ⟨-, hno⟩ | ⟨m9, A9, c9, d, hm9, -, rfl, hRd, hG⟩
        · exact absurd Hno.out (hno Hc.out t rfl)
        obtain rfl : m9 = t := by omega
        have hdl := hG.len
        obtain ⟨hd1, hd2⟩ := Hlaw.out d hG
        have HRd := Lib.hid hRd
        have Hmd := Lib.hid (fun (w : World) (h : RdC w A9 d) => most_calls A9 d c9 w h (by omega) (fun x hx => by have := hG.lt x hx; omega))
        rw [hd1, hdl] at Hmd
        rw [hdl]
        subst hd2
        clear hG hRd hm9 hd1 Hlaw hdl
        go_wp2_with (first
          | (go_at_call 11; with_reducible refine (Hmd.out _ HRd.out).mono ?_; rintro e w8 ⟨rfl, rfl⟩)
          | (go_at_call 11; with_reducible refine (Hmc.out _ HR67.out).mono ?_; rintro e w8 ⟨rfl, rfl⟩)
          | (go_at_call 14; refine (Hsz.out _).mono ?_; rintro e w8 ⟨rfl, rfl⟩))
        all_goals first
          | (exfalso; omega)
          | (go_ret
             exact ⟨rfl, HW7.out⟩)
end Go.Proofs.YtckmedmebabkjaaDoor
