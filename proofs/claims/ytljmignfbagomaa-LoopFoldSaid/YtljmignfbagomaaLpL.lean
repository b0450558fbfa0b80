/- loop.Fold walked. -/
import Derived.Test.YtljmignfbagomaaLpK
namespace Go.Proofs.Ytljmignfbagomaa
open Go.RowKit Go.Shelf

def FoldE (ls : List (List Int)) (w : World) (e : Ending) (w' : World) : Prop :=
  (wayErr ls ≠ 0 ∧ (∃ v, e = .returned (.tuple #[v, .int .i64 (wayErr ls)])) ∧ Below w.heap.size w w') ∨
  (wayErr ls = 0 ∧ ∃ (L : Nat) (F : List Nat), e = .returned (.tuple #[.int .i64 (cnt8 L : Nat), .int .i64 0]) ∧ FoS ls L F ∧ FoT L (fun j => F.getD j 0) ∧ Below w.heap.size w w')
set_option maxRecDepth 100000 in
set_option maxHeartbeats 8000000 in
theorem fold_calls (A : Option Addr) (ls : List (List Int)) (cap : Nat) (w : World) (hA : RdN w A ls) (hm : ls.length ≤ maxLen) (hLL : wayErr ls = 0 → Left (EdW ls) ls.length (walkL ls)) :
    Calls Try.prog 39 #[.slice A ls.length cap] w (FoldE ls w) := by
  have Hc := Lib.hid (check_calls A ls cap w hA hm)
  have HA := Lib.hid hA
  by_cases h0 : wayErr ls = 0
  case neg =>
    have H0 := Lib.hid h0
    have q : (wayErr ls != 0) = true := by rw [bne_iff_ne]; exact h0
    obtain ⟨x, hx⟩ : ∃ x, x = wayErr ls := ⟨_, rfl⟩
    rw [← hx] at q Hc
    have Hx := Lib.hid hx
    clear hA h0 hx hLL
    go_enter Try.func39, Try.ntmps39
    go_wp2_with fail
    refine Hc.out.mono ?_
    rintro e w1 ⟨rfl, hW⟩
    have HW := Lib.hid hW
    clear hW
    go_wp2
    go_ret2
    exact .inl ⟨H0.out, ⟨_, by rw [← Hx.out]; rfl⟩, HW.out⟩
  rw [h0] at Hc
  obtain ⟨h1, h8, hv⟩ := wayErr_ok h0
  have HV := Lib.hid hv
  have H0 := Lib.hid h0
  have HL0 : Hid (Left (EdW ls) ls.length (walkL ls)) := Lib.hid (hLL h0)
  have Hto := Lib.hid (fun w' (h : Below w.heap.size w w') => to_calls A ls cap w' (HA.out.below h) h0)
  have Hf := Lib.hid (fun w' (h : Below w.heap.size w w') => fromS_calls A ls cap w' 0 (-1) (HA.out.below h) h8 hv (by omega))
  rw [show ((0 : Nat) : Int) = 0 from rfl] at Hf
  have HS0 : Hid (FoS ls (fromS ls (-1) 0) (toR ls ls.length 0)) := Lib.hid (fo_start h1 h8 hv)
  clear hA hv h0 hLL
  go_enter Try.func39, Try.ntmps39
  go_wp2_with fail
  refine Hc.out.mono ?_
  rintro e w1 ⟨rfl, hW⟩
  have HW1 := Lib.hid hW
  have Hto1 := Lib.hid (Hto.out _ hW)
  clear hW
  go_wp2_with fail
  refine Hto1.out.mono ?_
  rintro e w2 ⟨v, rfl, hO, hW⟩
  obtain ⟨g5, c5, rfl, hg5, hg5s, -, -, -⟩ := OwnU.at_ hO (by rw [toR_len]; omega)
  rw [toR_len] at hO ⊢
  have HO2 := Lib.hid hO
  have HB2 := Lib.hid hW
  have HW2 := Lib.hid (HW1.out.trans (hW.mono HW1.out.size))
  have Hf2 := Lib.hid (Hf.out _ HW2.out)
  have hz2 := hW.size
  clear hW hO Hto Hf Hto1 Hc
  go_wp2_with fail
  refine Hf2.out.mono ?_
  rintro e w3 ⟨rfl, hW⟩
  have HO3 := Lib.hid (Own.below HO2.out hW)
  have HB3 := Lib.hid (HB2.out.trans (hW.mono hz2))
  generalize toR ls ls.length 0 = F0 at *
  generalize fromS ls (-1) 0 = L0 at *
  clear hW Hf2 HO2 HB2 HW2 hg5s
  go_wp2
  go_loopg [6, 7] (cnt8 L0 + 1) (fun g s6 s7 wr => ∃ (L : Nat) (b : Bool) (F : List Nat), s6 = .int .u32 L ∧ s7 = .bool b ∧ Hid (FoS ls L F) ∧ OwnU wr w1.heap.size 29 (.slice (some ⟨g5, 0, none⟩) ls.length c5) F ∧ Below w1.heap.size w1 wr ∧ Hid (b = true → cnt8 L < g) ∧ Hid (b = false → FoT L (fun j => F.getD j 0)))
  case atStart => exact ⟨L0, true, F0, rfl, rfl, HS0, HO3.out, HB3.out, Lib.hid (fun _ => by omega), Lib.hid (fun h => by cases h)⟩
  case round =>
    clear HS0 HO3 HB3
    obtain ⟨L1, b, F1, rfl, rfl, HS, hown, hW, Hlt, HT⟩ := hrel
    have Hown := Lib.hid hown
    have HWr := Lib.hid hW
    clear hown hW
    cases b
    · have HTT := Lib.hid (HT.out rfl)
      have hs := HS.out.sL
      have Ho := Lib.hid (ones_calls L1 wr hs)
      clear HT
      go_wp2_with fail
      refine Ho.out.mono ?_
      rintro e w' ⟨rfl, nq, hw'⟩
      have HW9 : Hid (Below w.heap.size w w') := Lib.hid (by rw [hw']; exact below_dN (HW1.out.trans (HWr.out.mono HW1.out.size)) nq)
      clear hw'
      go_wp2
      go_ret2
      exact .inr ⟨H0.out, L1, F1, rfl, HS.out, HTT.out, HW9.out⟩
    · have Hlt := Lib.hid (fun (_ : True) => Hlt.out rfl)
      go_wp2
      go_loopw [6, 7, 22] (fun s6 s7 i wr => ∃ (L : Nat) (b : Bool) (F : List Nat) (k : Nat), k ≤ ls.length ∧ s6 = .int .u32 L ∧ s7 = .bool b ∧ i = .int .i64 k ∧ Hid (FoP ls L1 L F b k) ∧ OwnU wr w1.heap.size 29 (.slice (some ⟨g5, 0, none⟩) ls.length c5) F ∧ Below w1.heap.size w1 wr) (fun _ _ i _ => ls.length - (intOf i).toNat)
      case atStart => exact ⟨L1, false, F1, 0, Nat.zero_le _, rfl, rfl, rfl, Lib.hid (FoP.start HS.out), Hown.out, HWr.out⟩
      case round =>
        clear Hown HWr HS HT
        obtain ⟨L, b, F, k, hk, rfl, rfl, rfl, HP, hown, hW⟩ := hrel
        have Hown := Lib.hid hown
        have HWr := Lib.hid hW
        have hFl := HP.out.s.len
        by_cases hlt : k < ls.length
        · have q1 : ((k : Nat) : Int) < ((ls.length : Nat) : Int) := by omega
          obtain ⟨g, eg, _, _, _, hfz, hcell⟩ := OwnU.at2 hown (by omega)
          injection eg with eg; injection eg with eg
          subst eg
          have f1 := hfz k
          have ck := hcell k (by omega)
          have e0 : F[k]'(by omega) = F.getD k 0 := by rw [List.getD_eq_getElem?_getD, List.getElem?_eq_getElem (by omega)]; rfl
          rw [e0] at ck
          have hsk := HP.out.s.sF k
          have k32 : k < 32 := by omega
          have pk : 2 ^ k < 2 ^ 8 := Nat.pow_lt_pow_right (by decide) (by omega)
          have r1 := pow_u32 k k32
          have r2 := andW_u32 (F.getD k 0) (2 ^ k) (by omega) (by omega)
          rw [Int.natCast_pow, show ((2 : Nat) : Int) = 2 from rfl] at r1 r2
          have HP1 := Lib.hid (HP.out.self hlt)
          have HO1 := Lib.hid (OwnU.set_ hown (k := k) (by omega) (andW (F.getD k 0) (2 ^ k)))
          have hself : (andW (F.getD k 0) (2 ^ k)).testBit k = false := by
            cases hb : (andW (F.getD k 0) (2 ^ k)).testBit k
            · rfl
            · exact absurd rfl ((andW_bit1 (by omega) k).1 hb).2
          have hgd : (F.set k (andW (F.getD k 0) (2 ^ k))).getD k 0 = andW (F.getD k 0) (2 ^ k) := by rw [set_getD _ _ _ (by omega), if_pos rfl]
          have HWs := Lib.hid (hW.setCell (p := ⟨g5, k, none⟩) hg5 (.int .u32 (andW (F.getD k 0) (2 ^ k) : Nat)))
          obtain ⟨F2, hF2⟩ : ∃ F2, F2 = F.set k (andW (F.getD k 0) (2 ^ k)) := ⟨_, rfl⟩
          rw [← hF2] at HP1 HO1 hgd
          clear hown hW hfz hcell e0 pk hF2 Hown HWr HP
          generalize andW (F.getD k 0) (2 ^ k) = y at *
          generalize F.getD k 0 = z at *
          have hF2l := HP1.out.s.len
          have hL8 := HP1.out.s.sL
          have hy8 : y < 256 := by rw [← hgd]; exact HP1.out.s.sF k
          have p1 := test_u32 L k (by omega)
          have hself2 : (F2.getD k 0).testBit k = false := by rw [hgd]; exact hself
          have HS2 := Lib.hid hself2
          have HG2 := Lib.hid hgd
          clear hself hself2 hgd
          by_cases hk0 : k = 0
          · have q0 : ((k : Int) == 0) = true := by rw [beq_iff_eq]; omega
            have HP2 := Lib.hid (HP1.out.skip HS2.out (fun h => absurd hk0 h))
            clear hk0 p1
            go_wp2
            go_still_tail 8, (by kernel_rfl)
            go_wp2
            go_roundw
            case rel => exact ⟨L, b, F2, k + 1, by omega, rfl, rfl, by go_num, HP2, HO1.out.drew, HWs.out.drew⟩
            case measure => simp [intOf]; omega
          · have q0 : ((k : Int) == 0) = false := by rw [beq_eq_false_iff_ne]; omega
            cases hb : L.testBit k
            · rw [hb] at p1
              have HP2 := Lib.hid (HP1.out.skip HS2.out (fun _ h => by rw [hb] at h; cases h))
              clear hk0 hb
              go_wp2
              go_still_tail 8, (by kernel_rfl)
              go_wp2
              go_roundw
              case rel => exact ⟨L, b, F2, k + 1, by omega, rfl, rfl, by go_num, HP2, HO1.out.drew, HWs.out.drew⟩
              case measure => simp [intOf]; omega
            · rw [hb] at p1
              have Hones := Lib.hid (fun w => ones_calls y w hy8)
              by_cases hc : cnt8 y = 1
              · have q5 : ((cnt8 y : Int) != 1) = false := by rw [bne_eq_false_iff_eq, hc]; rfl
                have HP2 := Lib.hid (HP1.out.merge HL0.out hk0 hb HS2.out (by rw [HG2.out]; exact hc))
                clear hk0 hb hc
                go_wp2
                go_still_tail 8, (by kernel_rfl)
                go_wp2_with fail
                refine (Hones.out _).mono ?_
                rintro e w6 ⟨rfl, nq, hw6⟩
                have HO6 : Hid (OwnU w6 w1.heap.size 29 (.slice (some ⟨g5, 0, none⟩) ls.length c5) (mgR F2 k 0)) := Lib.hid (by rw [hw6, mgR_zero]; exact HO1.out.drew.drewN nq)
                have HW6 : Hid (Below w1.heap.size w1 w6) := Lib.hid (by rw [hw6]; exact below_dN HWs.out.drew nq)
                clear hw6 HO1 HWs ck f1 Hones
                go_wp2
                go_loopw [52] (fun i wr => ∃ j : Nat, j ≤ ls.length ∧ i = .int .i64 j ∧ OwnU wr w1.heap.size 29 (.slice (some ⟨g5, 0, none⟩) ls.length c5) (mgR F2 k j) ∧ Below w1.heap.size w1 wr) (fun i _ => ls.length - (intOf i).toNat)
                case atStart => exact ⟨0, Nat.zero_le _, rfl, HO6.out, HW6.out⟩
                case round =>
                  clear HO6 HW6
                  obtain ⟨j, hj, rfl, hown, hW⟩ := hrel
                  by_cases hlj : j < ls.length
                  · have q6 : ((j : Nat) : Int) < ((ls.length : Nat) : Int) := by omega
                    obtain ⟨g, eg, _, _, _, hfz, hcell⟩ := OwnU.at2 hown (by rw [mgR_len]; omega)
                    injection eg with eg; injection eg with eg
                    subst eg
                    have f1 := hfz j
                    have cj := hcell j (by rw [mgR_len]; omega)
                    have ck := hcell k (by rw [mgR_len]; omega)
                    have ej : (mgR F2 k j)[j]'(by rw [mgR_len]; omega) = F2.getD j 0 := by
                      have := mgR_getD F2 k j j (by omega)
                      rw [if_neg (by omega)] at this
                      rw [← this, List.getD_eq_getElem?_getD, List.getElem?_eq_getElem (by rw [mgR_len]; omega)]; rfl
                    have ek : (mgR F2 k j)[k]'(by rw [mgR_len]; omega) = y := by
                      have := mgR_getD F2 k j k (by omega)
                      rw [if_neg (fun h => by rw [HS2.out] at h; cases h.2), HG2.out] at this
                      rw [← this, List.getD_eq_getElem?_getD, List.getElem?_eq_getElem (by rw [mgR_len]; omega)]; rfl
                    rw [ej] at cj
                    rw [ek] at ck
                    have hzj := HP1.out.s.sF j
                    have p2 := test1_u32 (F2.getD j 0) k (by omega)
                    cases hbj : (F2.getD j 0).testBit k
                    · rw [hbj] at p2
                      have HO := Lib.hid (show OwnU wr w1.heap.size 29 (.slice (some ⟨g5, 0, none⟩) ls.length c5) (mgR F2 k (j + 1)) from by rw [← mgR_no hbj]; exact hown)
                      have HWr := Lib.hid hW
                      clear hown hW hfz hcell ej ek hbj
                      generalize F2.getD j 0 = zj at *
                      go_wp2
                      go_roundw
                      case rel => exact ⟨j + 1, by omega, by go_num, HO.out, HWr.out⟩
                      case measure => simp [intOf]; omega
                    · rw [hbj] at p2
                      have HO := Lib.hid (OwnU.set_ hown (k := j) (by rw [mgR_len]; omega) (andW (F2.getD j 0) (2 ^ k) ||| F2.getD k 0))
                      rw [mgR_yes hbj, HG2.out] at HO
                      have haw := andW_256 (t := k) hzj
                      have s1 := pow_u32 k k32
                      have pk : 2 ^ k < 2 ^ 8 := Nat.pow_lt_pow_right (by decide) (by omega)
                      have s2 := andW_u32 (F2.getD j 0) (2 ^ k) (by omega) (by omega)
                      have s3 := or_u32 (andW (F2.getD j 0) (2 ^ k)) y (by omega) (by omega)
                      rw [Int.natCast_pow, show ((2 : Nat) : Int) = 2 from rfl] at s1 s2
                      have HWr := Lib.hid (hW.setCell (p := ⟨g5, j, none⟩) hg5 (.int .u32 (andW (F2.getD j 0) (2 ^ k) ||| y : Nat)))
                      clear hown hW hfz hcell ej ek hbj pk
                      generalize andW (F2.getD j 0) (2 ^ k) ||| y = u at *
                      generalize andW (F2.getD j 0) (2 ^ k) = aj at *
                      generalize F2.getD j 0 = zj at *
                      go_wp2
                      go_still_tail 15, (by kernel_rfl)
                      go_wp2
                      refine ⟨⟨j + 1, by omega, by go_num, HO.out.drew, ?_⟩, by simp [intOf]; omega⟩
                      exact HWr.out.drew
                  · have hje : j = ls.length := by omega
                    subst hje
                    rw [hF2l] at HP2
                    have HO := Lib.hid hown
                    have HWr := Lib.hid hW
                    have pk : 2 ^ k < 2 ^ 8 := Nat.pow_lt_pow_right (by decide) (by omega)
                    have s1 := pow_u32 k k32
                    have s2 := andW_u32 L (2 ^ k) (by omega) (by omega)
                    rw [Int.natCast_pow, show ((2 : Nat) : Int) = 2 from rfl] at s1 s2
                    clear hown hW pk
                    generalize andW L (2 ^ k) = L2 at *
                    go_wp2
                    go_roundw
                    case rel => exact ⟨L2, true, mgR F2 k ls.length, k + 1, by omega, rfl, rfl, by go_num, HP2, HO.out, HWr.out⟩
                    case measure => simp [intOf]; omega
              · have q5 : ((cnt8 y : Int) != 1) = true := by rw [bne_iff_ne]; omega
                have HP2 := Lib.hid (HP1.out.skip HS2.out (fun _ _ => by rw [HG2.out]; exact hc))
                clear hk0 hb hc
                go_wp2
                go_still_tail 8, (by kernel_rfl)
                go_wp2_with fail
                refine (Hones.out _).mono ?_
                rintro e w6 ⟨rfl, nq, hw6⟩
                have HO6 : Hid (OwnU w6 w1.heap.size 29 (.slice (some ⟨g5, 0, none⟩) ls.length c5) F2) := Lib.hid (by rw [hw6]; exact HO1.out.drew.drewN nq)
                have HW6 : Hid (Below w1.heap.size w1 w6) := Lib.hid (by rw [hw6]; exact below_dN HWs.out.drew nq)
                clear hw6 HO1 HWs ck f1 Hones
                go_wp2
                go_roundw
                case rel => exact ⟨L, b, F2, k + 1, by omega, rfl, rfl, by go_num, HP2, HO6.out, HW6.out⟩
                case measure => simp [intOf]; omega
        · have hke : k = ls.length := by omega
          subst hke
          have HPs := Lib.hid HP.out.s
          clear hown hW
          cases b
          · have HT2 : Hid (FoT L (fun j => F.getD j 0)) := Lib.hid (fun i h0 hb => by
              obtain ⟨pi, hI⟩ := HP.out.s.inv
              exact (HP.out.no rfl).2 i (Rch.lt h1 HV.out (hI.fix i hb).1) h0 hb)
            go_wp2
            go_roundg 0
            case measure => have := Hlt.out trivial; omega
            case rel => exact ⟨L, false, F, rfl, rfl, HPs, Hown.out, HWr.out, Lib.hid (fun h => by cases h), Lib.hid (fun _ => HT2.out)⟩
          · have Hy := Lib.hid (HP.out.yes rfl)
            go_wp2
            go_roundg (cnt8 L1)
            case measure => exact Hlt.out trivial
            case rel => exact ⟨L, true, F, rfl, rfl, HPs, Hown.out, HWr.out, Lib.hid (fun _ => Hy.out), Lib.hid (fun h => by cases h)⟩
end Go.Proofs.Ytljmignfbagomaa
