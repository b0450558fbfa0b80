/- LoopRound walked. -/
import Derived.Test.YtljmignfbagomaaLpG
import Derived.BigGuardPart
namespace Go.Proofs.Ytljmignfbagomaa
open Go.RowKit Go.Shelf

theorem dpR_get0 (rs : List Nat) (n i : Nat) (hr : rs.length = n) (h : i < (dpR rs n n 0).length) : (dpR rs n n 0)[i] = ((dsum rs i : Nat) : Int) := by
  simp [dpR, ← hr]
set_option maxRecDepth 100000 in
set_option maxHeartbeats 8000000 in
theorem loopRound_calls (A : Option Addr) (ls : List (List Int)) (cap : Nat) (w : World) (hA : RdN w A ls) (hm : ls.length ≤ maxLen) :
    Calls Try.prog 13 #[.slice A ls.length cap] w fun e w' => e = .returned (.bool true) ∧ Below w.heap.size w w' := by
  have Hta := Lib.hid (tame_calls A ls cap w hA hm)
  have Hde := Lib.hid (fun w' (h : Below w.heap.size w w') => deep_calls A ls cap w' (hA.below h) hm)
  have Hr := Lib.hid (fun w' (h : Below w.heap.size w w') => reachW_calls A ls cap w' (hA.below h) hm)
  have Hmy := Lib.hid (fun w' (h : Below w.heap.size w w') => may_calls A ls cap w' (hA.below h) hm)
  have HA := Lib.hid hA
  by_cases h0 : wayErr ls = 0
  case neg =>
    have Hp := Lib.hid (fun w' (h : Below w.heap.size w w') => parts_bad A ls cap w' (HA.out.below h) hm h0)
    have q : (wayErr ls != 0) = true := by rw [bne_iff_ne]; exact h0
    have q0 : (wayErr ls == 0) = false := by rw [beq_eq_false_iff_ne]; exact h0
    rw [q0] at Hmy
    have H0 := Lib.hid h0
    clear hA h0 q0
    go_enter Try.func13, Try.ntmps13
    go_wp2_with fail
    refine Hta.out.mono ?_
    rintro e w1 (⟨-, ⟨v, rfl⟩, hW⟩ | ⟨h9, -⟩)
    case inr => exact absurd h9 H0.out
    have HW1 := Lib.hid hW
    have Hde1 := Lib.hid (Hde.out _ hW)
    clear hW
    go_wp2_with fail
    refine Hde1.out.mono ?_
    rintro e w2 (⟨-, ⟨v2, rfl⟩, hW⟩ | ⟨h9, -⟩)
    case inr => exact absurd h9 H0.out
    have HW2 := Lib.hid (HW1.out.trans (hW.mono HW1.out.size))
    have Hp2 := Lib.hid (Hp.out _ HW2.out)
    clear hW
    go_wp2_with fail
    refine Hp2.out.mono ?_
    rintro e w3 ⟨rfl, hW⟩
    have HW3 := Lib.hid (HW2.out.trans (hW.mono HW2.out.size))
    have Hr3 := Lib.hid (Hr.out _ HW3.out)
    have Hm3 := Lib.hid (fun w' (h : Below w3.heap.size w3 w') => Hmy.out w' (HW3.out.trans (h.mono HW3.out.size)))
    clear hW
    go_wp2_with fail
    refine Hr3.out.mono ?_
    rintro e w4 ⟨⟨v3, rfl, -⟩, hW⟩
    have Hm4 := Lib.hid (Hm3.out _ hW)
    have HW4 := Lib.hid (HW3.out.trans (hW.mono HW3.out.size))
    clear hW
    generalize wayErr ls = x at *
    go_wp2_with fail
    refine Hm4.out.mono ?_
    rintro e w5 ⟨rfl, h4⟩
    rw [h4]
    clear h4
    go_wp2
    go_ret
    exact ⟨by first | rfl | exact ret_bool (by simp), HW4.out⟩
  obtain ⟨h1, h8, hv⟩ := wayErr_ok h0
  have HV := Lib.hid hv
  have Hp := Lib.hid (fun w' (h : Below w.heap.size w w') => parts_ok A ls cap w' (HA.out.below h) h0)
  have q0 : (wayErr ls == 0) = true := by rw [beq_iff_eq]; exact h0
  rw [q0] at Hmy
  rw [h0] at Hr
  have H0 := Lib.hid h0
  clear hA h0 q0 hv
  go_enter Try.func13, Try.ntmps13
  go_wp2_with fail
  refine Hta.out.mono ?_
  rintro e w1 (⟨h9, -⟩ | ⟨-, ib, bk1, rfl, htm, hL, hb1, hW⟩)
  case inl => exact absurd H0.out h9
  have HW1 := Lib.hid hW
  have Htm := Lib.hid htm
  have HL := Lib.hid hL
  have HB1 := Lib.hid hb1
  have Hde1 := Lib.hid (Hde.out _ hW)
  clear hW htm hL hb1
  go_wp2_with fail
  refine Hde1.out.mono ?_
  rintro e w2 (⟨h9, -⟩ | ⟨-, v, bk, rfl, hO, hbk, hW⟩)
  case inl => exact absurd H0.out h9
  have hdl : (dpR (lpR ls bk) ls.length ls.length 0).length = ls.length := dpR_len _ _ _ _
  obtain ⟨A4, c4, rfl, hR4⟩ := OwnI.rd hO
  rw [hdl]
  have HF1 : Hid (∀ i, i < ls.length → ib = true → Rnd ls i → dsum (lpR ls bk) i ≠ 0) := Lib.hid (fun i hi he hr => (lp_depth bk hi h8).2 (round_loop h1 h8 HV.out HL.out hbk hi (fun t h hm => Htm.out he t h ((bk_same hbk HB1.out _).1 hm)) hr))
  have HF2 : Hid (∀ i, i < ls.length → ¬ Rnd ls i → dsum (lpR ls bk) i = 0) := Lib.hid (fun i hi hn => Classical.byContradiction fun h => by
    obtain ⟨x, _, hp⟩ := (lp_depth bk hi h8).1 h
    exact hn (loop_round h1 h8 HV.out hbk hp))
  have Hdg : Hid (∀ i (h : i < (dpR (lpR ls bk) ls.length ls.length 0).length), (dpR (lpR ls bk) ls.length ls.length 0)[i] = ((dsum (lpR ls bk) i : Nat) : Int)) := Lib.hid (fun i h => dpR_get0 _ _ _ (lpR_len _ _) h)
  have HD2 := Lib.hid hR4
  have HW2 := Lib.hid (HW1.out.trans (hW.mono HW1.out.size))
  have Hp2 := Lib.hid (Hp.out _ HW2.out)
  obtain ⟨dv, hdv⟩ : ∃ dv, dv = dpR (lpR ls bk) ls.length ls.length 0 := ⟨_, rfl⟩
  rw [← hdv] at hdl HD2 Hdg
  clear hW hO hR4 hbk hdv Htm HB1
  generalize lpR ls bk = lp at *
  go_wp2_with fail
  refine Hp2.out.mono ?_
  rintro e w3 ⟨v5, rfl, hO5, hW⟩
  have HW3 := Lib.hid (HW2.out.trans (hW.mono HW2.out.size))
  have HD3 := Lib.hid (Rd.below HD2.out hW)
  have Hr3 := Lib.hid (Hr.out _ HW3.out)
  obtain ⟨A5, c5, rfl, hR5⟩ := OwnU.rd hO5
  have HR5 := Lib.hid hR5
  have Hm3 := Lib.hid (fun w' (h : Below w3.heap.size w3 w') => Hmy.out w' (HW3.out.trans (h.mono HW3.out.size)))
  rw [partsTo_len]
  clear hW hO5 hR5
  go_wp2_with fail
  refine Hr3.out.mono ?_
  rintro e w4 ⟨⟨v3, rfl, hv3⟩, hW⟩
  have hv3 := hv3 (by first | rfl | trivial)
  subst hv3
  have Hm4 := Lib.hid (Hm3.out _ hW)
  have HR6 := Lib.hid (Rd.below HR5.out hW)
  have HD4 := Lib.hid (Rd.below HD3.out hW)
  have HW4 := Lib.hid (HW3.out.trans (hW.mono HW3.out.size))
  have HA4 := Lib.hid (HA.out.below HW4.out)
  have hs : fromS ls (-1) 0 < 4294967296 := Nat.lt_trans (fromS_lt ls (-1) 0) (by decide)
  have Hbit := Lib.hid (fun i w (hi : i < 32) => bit_calls (fromS ls (-1) 0) i w hs hi)
  have Hrd : Hid (∀ i, Rnd ls i ↔ ((fromS ls (-1) 0).testBit i = true ∧ (1 < sizeN (partS ls i) ∨ (i : Int) ∈ ls.getD i []))) := Lib.hid (fun i => Iff.rfl)
  clear hW hs
  generalize fromS ls (-1) 0 = s at *
  go_wp2_with fail
  refine Hm4.out.mono ?_
  rintro e w5 ⟨rfl, h4⟩
  rw [h4]
  clear h4 Hm4
  have qq : ((ls.length : Int) != (ls.length : Int)) = false := by simp
  go_wp2
  go_loopw [11] (fun i wr => ∃ k : Nat, k ≤ ls.length ∧ i = .int .i64 k ∧ wr = w4) (fun i _ => ls.length - (intOf i).toNat)
  case atStart => exact ⟨0, Nat.zero_le _, rfl, rfl⟩
  case round =>
    obtain ⟨k, hk, rfl, rfl⟩ := hrel
    by_cases hlt : k < ls.length
    · have q1 : ((k : Nat) : Int) < ((ls.length : Nat) : Int) := by omega
      obtain ⟨b4, o4, rfl, hb4, e0⟩ := RdI.at1 HD4.out (k := k) (by omega)
      rw [Hdg.out] at e0
      have HF1 := Lib.hid (HF1.out k hlt)
      have HF2 := Lib.hid (HF2.out k hlt)
      have hdle : dsum lp k ≤ lp.length := dsum_le lp k
      clear hdle
      generalize dsum lp k = d at *
      have Hbk := Lib.hid (Hbit.out k wr (by omega))
      cases hb : s.testBit k
      · have HR : Hid (¬ Rnd ls k) := Lib.hid (fun h => by have := ((Hrd.out k).1 h).1; rw [hb] at this; cases this)
        rw [hb] at Hbk
        clear hb
        go_wp2_with fail
        refine Hbk.out.mono ?_
        rintro e w' ⟨rfl, rfl⟩

        have qd : ((d : Int) != 0) = false := by
          rw [bne_eq_false_iff_eq]; have := HF2.out HR.out; omega
        cases ib
        · go_wp2
          go_roundw
          case rel => exact ⟨k + 1, by omega, by go_num, by first | rfl | trivial⟩
          case measure => simp [intOf]; omega
        · go_wp2
          go_roundw
          case rel => exact ⟨k + 1, by omega, by go_num, by first | rfl | trivial⟩
          case measure => simp [intOf]; omega
      · obtain ⟨b5, o5, rfl, hb5, d0⟩ := RdU.at1 HR6.out (k := k) (by rw [partsTo_len]; exact hlt)
        rw [partsTo_get] at d0
        have Hsz := Lib.hid (size_calls (partS ls k) wr (Nat.lt_trans (partS_lt ls k) (by decide)))
        have hsl : sizeN (partS ls k) ≤ 32 := szTo_le _ _
        obtain ⟨bK, offK, A1, cap1, rfl, hbK, kc0, hR1⟩ := RdN.at_ HA4.out hlt
        have Hhas := Lib.hid (has_calls A1 ls[k] cap1 (k : Int) wr hR1 (by have := (HV.out _ (List.getElem_mem hlt)).1; unfold maxLen; omega))
        have Hgx : Hid (ls.getD k [] = ls[k]) := Lib.hid (by rw [List.getD_eq_getElem?_getD, List.getElem?_eq_getElem hlt]; rfl)
        have Hrk := Lib.hid (Hrd.out k)
        rw [Hgx.out] at Hrk
        rw [hb] at Hbk
        have Hb1 := Lib.hid hb
        clear hb hR1 Hgx
        generalize ls[k] = nx at *
        generalize sizeN (partS ls k) = sz at *
        generalize partS ls k = ps at *
        by_cases hz : 1 < sz
        · have HR : Hid (Rnd ls k) := Lib.hid (Hrk.out.2 ⟨Hb1.out, .inl hz⟩)
          have qz : (1 : Int) < ((sz : Nat) : Int) := by omega
          clear hz
          go_wp2_with fail
          refine Hbk.out.mono ?_
          rintro e w' ⟨rfl, rfl⟩

          go_wp2_with fail
          refine Hsz.out.mono ?_
          rintro e w' ⟨rfl, rfl⟩

          cases ib
          · go_wp2
            go_roundw
            case rel => exact ⟨k + 1, by omega, by go_num, by first | rfl | trivial⟩
            case measure => simp [intOf]; omega
          · have qd : ((d : Int) == 0) = false := by
              rw [beq_eq_false_iff_ne]; have := HF1.out rfl HR.out; omega
            go_wp2
            go_roundw
            case rel => exact ⟨k + 1, by omega, by go_num, by first | rfl | trivial⟩
            case measure => simp [intOf]; omega
        · have qz : ¬ (1 : Int) < ((sz : Nat) : Int) := by omega
          have Hrn : Hid (Rnd ls k ↔ (k : Int) ∈ nx) := Lib.hid (Hrk.out.trans ⟨fun h => h.2.resolve_left hz, fun h => ⟨Hb1.out, .inr h⟩⟩)
          clear hz
          cases hd : decide ((k : Int) ∈ nx)
          · have HR : Hid (¬ Rnd ls k) := Lib.hid (fun h => by have := Hrn.out.1 h; rw [decide_eq_false_iff_not] at hd; exact hd this)
            rw [hd] at Hhas
            clear hd
            go_wp2_with fail
            refine Hbk.out.mono ?_
            rintro e w' ⟨rfl, rfl⟩

            go_wp2_with fail
            refine Hsz.out.mono ?_
            rintro e w' ⟨rfl, rfl⟩

            go_wp2_with fail
            refine Hhas.out.mono ?_
            rintro e w' ⟨rfl, rfl⟩

            have qd : ((d : Int) != 0) = false := by
              rw [bne_eq_false_iff_eq]; have := HF2.out HR.out; omega
            cases ib
            · go_wp2
              go_roundw
              case rel => exact ⟨k + 1, by omega, by go_num, by first | rfl | trivial⟩
              case measure => simp [intOf]; omega
            · go_wp2
              go_roundw
              case rel => exact ⟨k + 1, by omega, by go_num, by first | rfl | trivial⟩
              case measure => simp [intOf]; omega
          · have HR : Hid (Rnd ls k) := Lib.hid (Hrn.out.2 (by rwa [decide_eq_true_eq] at hd))
            rw [hd] at Hhas
            clear hd
            go_wp2_with fail
            refine Hbk.out.mono ?_
            rintro e w' ⟨rfl, rfl⟩

            go_wp2_with fail
            refine Hsz.out.mono ?_
            rintro e w' ⟨rfl, rfl⟩

            go_wp2_with fail
            refine Hhas.out.mono ?_
            rintro e w' ⟨rfl, rfl⟩

            cases ib
            · go_wp2
              go_roundw
              case rel => exact ⟨k + 1, by omega, by go_num, by first | rfl | trivial⟩
              case measure => simp [intOf]; omega
            · have qd : ((d : Int) == 0) = false := by
                rw [beq_eq_false_iff_ne]; have := HF1.out rfl HR.out; omega
              go_wp2
              go_roundw
              case rel => exact ⟨k + 1, by omega, by go_num, by first | rfl | trivial⟩
              case measure => simp [intOf]; omega
    · have hke : k = ls.length := by omega
      subst hke
      go_wp2
      go_ret
      exact ⟨rfl, HW4.out⟩
end Go.Proofs.Ytljmignfbagomaa
