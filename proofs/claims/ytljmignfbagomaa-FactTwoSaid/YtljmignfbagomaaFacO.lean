/- FactTwo walked. -/
import Derived.Test.YtljmignfbagomaaFacN
namespace Go.Proofs.Ytljmignfbagomaa
open Go.RowKit

set_option maxRecDepth 100000 in
set_option maxHeartbeats 8000000 in
theorem factTwo_calls (A MA MB : Option Addr) (ls : List (List Int)) (L : LawD) (cap ca cb : Nat) (w : World) (hA : RdN w A ls) (hm : ls.length ≤ maxLen) (hL : RdL w MA MB L) (hl1 : L.makes.length ≤ maxLen) (hl2 : L.ends.length ≤ maxLen) :
    Calls Try.prog 15 #[.slice A ls.length cap, .agg #[.bool L.back, .bool L.all, .slice MA L.makes.length ca, .slice MB L.ends.length cb, .int .u32 (L.start : Nat)]] w fun e w' => e = .returned (.bool true) ∧ Below w.heap.size w w' := by
  have hB1 := (Below.refl w.heap.size w).alloc (Nat.le_refl _) (.cells #[.bool L.back, .bool L.all, .slice MA L.makes.length ca, .slice MB L.ends.length cb, .int .u32 (L.start : Nat)] 58)
  have HB1 := Lib.hid hB1
  have hlb := LB.new w MA MB L ca cb
  have HLB := Lib.hid hlb
  have hfr := fun off => fz_of (heap_alloc_new w (.cells #[Value.bool L.back, .bool L.all, .slice MA L.makes.length ca, .slice MB L.ends.length cb, .int .u32 (L.start : Nat)] 58)) off
  have Hfr := Lib.hid hfr
  clear hfr
  go_enter Try.func15, Try.ntmps15
  go_upto_region 1 with fail
  have HA0 := Lib.hid hA
  have HL0 := Lib.hid hL
  clear hA hL hB1
  obtain ⟨wa, hwa⟩ : ∃ wa, wa = w.alloc (Obj.cells #[Value.bool L.back, Value.bool L.all, Value.slice MA L.makes.length ca, Value.slice MB L.ends.length cb, Value.int IntKind.u32 (L.start : Nat)] 58) := ⟨_, rfl⟩
  rw [← hwa] at HB1 HLB hlb Hfr ⊢
  clear hwa
  have hw0 := HB1.out.size
  obtain ⟨p, hp⟩ : ∃ p, p = w.heap.size := ⟨_, rfl⟩
  have Hp := Lib.hid hp
  rw [← hp] at HLB hlb Hfr ⊢
  obtain ⟨hpl, c0, c1, c2, c3, c4⟩ := hlb
  have f0 := Hfr.out 0
  have f1 := Hfr.out 1
  clear hp
  go_upto_region 3 with fail
  have HLB2 := Lib.hid ((HLB.out.set1 true).set0 false)
  have HB2 : Hid (Below w.heap.size w ((wa.setCell ⟨p, 1, none⟩ (.bool true)).setCell ⟨p, 0, none⟩ (.bool false))) := Lib.hid ((HB1.out.setCell (by show w.heap.size ≤ p; rw [Hp.out]; exact Nat.le_refl _) _).setCell (by show w.heap.size ≤ p; rw [Hp.out]; exact Nat.le_refl _) _)
  have Hfr2 : Hid (∀ off, ((wa.setCell ⟨p, 1, none⟩ (.bool true)).setCell ⟨p, 0, none⟩ (.bool false)).frozen? ⟨p, off, none⟩ = false) := Lib.hid fun off => by rw [frozen_set, frozen_set]; exact Hfr.out off
  clear c0 c1 c2 c3 c4 f0 f1
  generalize (wa.setCell ⟨p, 1, none⟩ (.bool true)).setCell ⟨p, 0, none⟩ (.bool false) = w2 at *
  have hw2 := HB2.out.size
  have HA2 := Lib.hid (RdN.below HA0.out HB2.out)
  have HL2 : Hid (RdL w2 MA MB ⟨false, true, L.makes, L.ends, L.start⟩) := Lib.hid (by have h := HL0.out.below HB2.out; exact ⟨h.mr, h.er, h.st, h.mb, h.eb⟩)
  obtain ⟨hpl2, c0, c1, c2, c3, c4⟩ := HLB2.out
  have Hs1 := Lib.hid (solve_calls A MA MB ls ⟨false, true, L.makes, L.ends, L.start⟩ cap ca cb w2 HA2.out hm HL2.out hl1 hl2)
  go_wp2_with fail
  refine Hs1.out.mono ?_
  rintro e w3 ⟨hW3, B1, r1, k1, rfl, hR1, hr1, hS1, hq1⟩
  have HE1 := Lib.hid (show facErr ls ⟨false, true, L.makes, L.ends, L.start⟩ = facErr ls L from rfl)
  rw [HE1.out]
  have HW3 := Lib.hid hW3
  have HB3 := Lib.hid (HB2.out.trans (hW3.mono hw2))
  have HR1 := Lib.hid hR1
  have HS1 := Lib.hid hS1
  have Hq1 := Lib.hid hq1
  clear c0 c1 c2 c3 c4
  obtain ⟨hpl3, c0, c1, c2, c3, c4⟩ := HLB2.out.below hW3
  have HLB3 := Lib.hid (HLB2.out.below hW3)
  have f1 : w3.frozen? ⟨p, 1, none⟩ = false := (frozen_below HW3.out p 1 hpl2).trans (Hfr2.out 1)
  clear hW3 hR1 hS1 hq1
  go_upto_region 5 with fail
  have HLB4 := Lib.hid (HLB3.out.set1 false)
  have HB4 : Hid (Below w.heap.size w (w3.setCell ⟨p, 1, none⟩ (.bool false))) := Lib.hid (HB3.out.setCell (by show w.heap.size ≤ p; rw [Hp.out]; exact Nat.le_refl _) _)
  have HR14 : Hid (RdU (w3.setCell ⟨p, 1, none⟩ (.bool false)) B1 r1) := Lib.hid (Rd.grown HR1.out (grown_set w3 p 1 _) (fun q hq => by have := Hq1.out q hq; omega))
  clear c0 c1 c2 c3 c4 f1
  generalize w3.setCell ⟨p, 1, none⟩ (.bool false) = w4 at *
  have hw4 := HB4.out.size
  have HA4 := Lib.hid (RdN.below HA0.out HB4.out)
  have HL4 : Hid (RdL w4 MA MB ⟨false, false, L.makes, L.ends, L.start⟩) := Lib.hid (by have h := HL0.out.below HB4.out; exact ⟨h.mr, h.er, h.st, h.mb, h.eb⟩)
  obtain ⟨hpl4, c0, c1, c2, c3, c4⟩ := HLB4.out
  have Hs2 := Lib.hid (solve_calls A MA MB ls ⟨false, false, L.makes, L.ends, L.start⟩ cap ca cb w4 HA4.out hm HL4.out hl1 hl2)
  go_wp2_with fail
  refine Hs2.out.mono ?_
  rintro e w5 ⟨hW5, B2, r2, k2, rfl, hR2, hr2, hS2, _⟩
  have HE2 := Lib.hid (show facErr ls ⟨false, false, L.makes, L.ends, L.start⟩ = facErr ls L from rfl)
  rw [HE2.out]
  have HB5 := Lib.hid (HB4.out.trans (hW5.mono hw4))
  have HR15 := Lib.hid (Rd.below HR14.out hW5)
  have HR25 := Lib.hid hR2
  have HS2 := Lib.hid hS2
  have HLB5 := Lib.hid (HLB4.out.below hW5)
  have hw5 := HB5.out.size
  clear c0 c1 c2 c3 c4 hW5 hR2 hS2
  have Hre := Lib.hid (reach_calls A ls cap w5 (RdN.below HA0.out HB5.out) hm)
  go_wp2_with fail
  refine Hre.out.mono ?_
  rintro e w6 ⟨hW6, s, rfl, hs⟩
  have HB6 := Lib.hid (HB5.out.trans (hW6.mono hw5))
  have HR16 := Lib.hid (Rd.below HR15.out hW6)
  have HR26 := Lib.hid (Rd.below HR25.out hW6)
  obtain ⟨hpl6, c0, c1, c2, c3, c4⟩ := HLB5.out.below hW6
  have hw6 := HB6.out.size
  have Hs := Lib.hid hs
  clear hW6 hs
  have HL6 : Hid (RdL w6 MA MB ⟨false, false, L.makes, L.ends, L.start⟩) := Lib.hid (by have h := HL0.out.below HB6.out; exact ⟨h.mr, h.er, h.st, h.mb, h.eb⟩)
  have Hlaw := Lib.hid (lawful_calls A MA MB ls ⟨false, false, L.makes, L.ends, L.start⟩ cap ca cb w6 (RdN.below HA0.out HB6.out) hm HL6.out)
  rw [HE2.out] at Hlaw
  by_cases h0 : facErr ls L = 0
  case neg =>
    have hd : (facErr ls L != 0) = true := by rw [bne_iff_ne]; exact h0
    have hd2 : (facErr ls L == 0) = false := by simpa using h0
    rw [hd2] at Hlaw
    clear h0 hd2
    go_wp2_with (go_at_call 42; refine Hlaw.out.mono ?_; rintro e w7 ⟨rfl, hW7⟩; have HW7 := Lib.hid hW7; clear hW7)
    go_ret
    exact ⟨rfl, HB6.out.trans (HW7.out.mono hw6)⟩
  have hok := facErr_ok h0
  have hv := valid_of hok.way
  have h8 := hv.2.1
  have h1n := hv.1
  have HV := Lib.hid hv.2.2
  have hs' : s = fromS ls (-1) 0 := Hs.out hok.way
  subst hs'
  have hd2 : (facErr ls L == 0) = true := by simpa using h0
  rw [hd2] at Hlaw
  have HSa := Lib.hid (HS1.out h0)
  have HSb := Lib.hid (HS2.out h0)
  have HT := Lib.hid (two2 HSa.out HSb.out rfl rfl rfl rfl rfl rfl rfl)
  have H0 := Lib.hid h0
  have H00 := Lib.hid hok.way
  have hsb := Lib.hid (fun i => fromS_bit (wo := -1) (i := 0) h8 HV.out (by omega) i)
  have hslt : fromS ls (-1) 0 < 256 := setN_lt _
  have e1 : r1.length = ls.length := HSa.out.len
  have e2 : r2.length = ls.length := HSb.out.len
  rw [e1, e2, h0, hok.way]
  have E1 := Lib.hid e1
  have E2 := Lib.hid e2
  clear h0 hd2 hok hv e1 e2 hr1 hr2
  generalize fromS ls (-1) 0 = s at *
  go_wp2_with (go_at_call 42; refine Hlaw.out.mono ?_; rintro e w7 ⟨rfl, hW7⟩; have HB7 := Lib.hid (HB6.out.trans (hW7.mono hw6)); have HR17 := Lib.hid (Rd.below HR16.out hW7); have HR27 := Lib.hid (Rd.below HR26.out hW7); clear hW7)
  go_loopw [11] (fun i wr => ∃ k : Nat, k ≤ ls.length ∧ i = .int .i64 k ∧ ∃ nq, wr = w7.drewN nq) (fun i _ => ls.length - (intOf i).toNat)
  case atStart => exact ⟨0, Nat.zero_le _, rfl, 0, rfl⟩
  case round =>
    obtain ⟨k, hk, rfl, nq2, hwr⟩ := hrel
    have Hwr := Lib.hid hwr
    by_cases hlt : k < ls.length
    · have hk1 : k < r1.length := by rw [E1.out]; exact hlt
      have hk2 : k < r2.length := by rw [E2.out]; exact hlt
      obtain ⟨b1, off1, rfl, hb1, d1⟩ := RdU.at1 HR17.out hk1
      obtain ⟨b2, off2, rfl, hb2, d2⟩ := RdU.at1 HR27.out hk2
      rw [← getD_at] at d1 d2
      have d1 : wr.cell? ⟨b1, off1 + k, none⟩ = some (.int .u32 (r1.getD k 0 : Nat)) := by rw [hwr]; exact d1
      have d2 : wr.cell? ⟨b2, off2 + k, none⟩ = some (.int .u32 (r2.getD k 0 : Nat)) := by rw [hwr]; exact d2
      have x1 := HSa.out.lt k
      have x2 := HSb.out.lt k
      have q1 : ((k : Nat) : Int) < ((ls.length : Nat) : Int) := by omega
      have Hcl := Lib.hid (fun w => in_calls (r1.getD k 0) (r2.getD k 0) w (by omega) (by omega))
      have Hbt := Lib.hid (fun w => bit_calls s k w (by omega) (by omega))
      cases hbit : s.testBit k
      · have hno := HT.out.no k hlt (fun h => by rw [(hsb.out k).2 ⟨by decide, h⟩] at hbit; cases hbit)
        rw [hbit] at Hbt
        rw [hno.1] at d1
        rw [hno.2] at d2
        clear hwr hk1 hk2 hbit hno Hcl x1 x2
        go_wp2
        go_quiet ((go_at_call 19; exact Calls.quiet_of_same (Hbt.out _)))
        go_wp2
        go_roundw
        case rel => exact ⟨k + 1, by omega, by go_num, nq2 + nq, by rw [Hwr.out, World.drewN_drewN]⟩
        case measure => simp [intOf]; omega
      · have hyes := HT.out.yes k hlt ((hsb.out k).1 hbit).2
        rw [hbit] at Hbt
        rw [hyes] at Hcl
        clear hwr hk1 hk2 hbit hyes
        generalize r1.getD k 0 = x at *
        generalize r2.getD k 0 = y at *
        go_wp2
        go_quiet ((first
          | (go_at_call 19; exact Calls.quiet_of_same (Hbt.out _))
          | (go_at_call 25; exact Calls.quiet_of_same (Hcl.out _))))
        go_wp2
        go_roundw
        case rel => exact ⟨k + 1, by omega, by go_num, nq2 + nq, by rw [Hwr.out, World.drewN_drewN]⟩
        case measure => simp [intOf]; omega
    · go_wp2
      go_ret
      exact ⟨rfl, below_dN HB7.out nq2⟩
end Go.Proofs.Ytljmignfbagomaa
