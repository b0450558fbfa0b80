/- WayRound walked. -/
import Derived.Test.YtljmignfbagomaaWalkD
import Derived.BigGuardPart
namespace Go.Proofs.Ytljmignfbagomaa
open Go.RowKit Go.Shelf

set_option maxRecDepth 100000 in
set_option maxHeartbeats 8000000 in
theorem wayRound_calls (A : Option Addr) (ls : List (List Int)) (cap : Nat) (w : World) (hA : RdN w A ls) (hm : ls.length ≤ maxLen) :
    Calls Try.prog 10 #[.slice A ls.length cap] w fun e w' => e = .returned (.bool true) ∧ Below w.heap.size w w' := by
  have Hb := Lib.hid (back_calls A ls cap w hA hm)
  have Hr := Lib.hid (fun w' (h : Below w.heap.size w w') => reachW_calls A ls cap w' (hA.below h) hm)
  have Hmy := Lib.hid (fun w' (h : Below w.heap.size w w') => may_calls A ls cap w' (hA.below h) hm)
  have HA := Lib.hid hA
  by_cases h0 : wayErr ls = 0
  case neg =>
    have Hp := Lib.hid (fun w' (h : Below w.heap.size w w') => parts_bad A ls cap w' (HA.out.below h) hm h0)
    have q : (wayErr ls != 0) = true := by rw [bne_iff_ne]; exact h0
    have q0 : (wayErr ls == 0) = false := by rw [beq_eq_false_iff_ne]; exact h0
    rw [q0] at Hmy
    have H0 := Lib.hid h0
    clear hA h0 q0
    go_enter Try.func10, Try.ntmps10
    go_wp2_with fail
    refine Hb.out.mono ?_
    rintro e w1 (⟨-, ⟨v, rfl⟩, hW⟩ | ⟨h9, -⟩)
    case inr => exact absurd h9 H0.out
    have HW1 := Lib.hid hW
    have Hp1 := Lib.hid (Hp.out _ hW)
    clear hW
    go_wp2_with fail
    refine Hp1.out.mono ?_
    rintro e w2 ⟨rfl, hW⟩
    have HW2 := Lib.hid (HW1.out.trans (hW.mono HW1.out.size))
    have Hr2 := Lib.hid (Hr.out _ HW2.out)
    have Hm2 := Lib.hid (fun w' (h : Below w2.heap.size w2 w') => Hmy.out w' (HW2.out.trans (h.mono HW2.out.size)))
    clear hW
    go_wp2_with fail
    refine Hr2.out.mono ?_
    rintro e w3 ⟨⟨v3, rfl, -⟩, hW⟩
    have Hm3 := Lib.hid (Hm2.out _ hW)
    have HW3 := Lib.hid (HW2.out.trans (hW.mono HW2.out.size))
    clear hW
    generalize wayErr ls = x at *
    go_wp2_with fail
    refine Hm3.out.mono ?_
    rintro e w4 ⟨rfl, h4⟩
    rw [h4]
    clear h4
    go_wp2
    go_ret
    exact ⟨by first | rfl | exact ret_bool (by simp), HW3.out⟩
  obtain ⟨h1, h8, hv⟩ := wayErr_ok h0
  have HV := Lib.hid hv
  have Hp := Lib.hid (fun w' (h : Below w.heap.size w w') => parts_ok A ls cap w' (HA.out.below h) h0)
  have q0 : (wayErr ls == 0) = true := by rw [beq_iff_eq]; exact h0
  rw [q0] at Hmy
  rw [h0] at Hr
  have H0 := Lib.hid h0
  clear hA h0 q0 hv
  go_enter Try.func10, Try.ntmps10
  go_wp2_with fail
  refine Hb.out.mono ?_
  rintro e w1 (⟨h9, -⟩ | ⟨-, v, bk, rfl, hO, hbl, hL, hbm, hW⟩)
  case inl => exact absurd H0.out h9
  obtain ⟨A3, c3, rfl, -⟩ := OwnP.rd hO
  have HW1 := Lib.hid hW
  have HF : Hid ((∃ i, i < ls.length ∧ Rnd ls i) ↔ bk ≠ []) := Lib.hid (by
    rw [round_iff h1 h8 HV.out hL]
    constructor
    · rintro ⟨i, j, hi, hj, hb⟩ e
      have := (hbm ((i : Int), (j : Int))).2 ⟨i, j, rfl, hi, hj, hb⟩
      rw [e] at this; cases this
    · intro hne
      obtain ⟨p, r, rfl⟩ := List.exists_cons_of_ne_nil hne
      obtain ⟨i, j, _, hi, hj, hb⟩ := (hbm p).1 (by simp)
      exact ⟨i, j, hi, hj, hb⟩)
  have Hp1 := Lib.hid (Hp.out _ hW)
  have hbl2 : bk.length ≤ 64 := hbl
  clear hW hO hL hbm hbl
  go_wp2_with fail
  refine Hp1.out.mono ?_
  rintro e w2 ⟨v5, rfl, hO5, hW⟩
  have HW2 := Lib.hid (HW1.out.trans (hW.mono HW1.out.size))
  have Hr2 := Lib.hid (Hr.out _ HW2.out)
  obtain ⟨A5, c5, rfl, hR5⟩ := OwnU.rd hO5
  have HR5 := Lib.hid hR5
  have Hm2 := Lib.hid (fun w' (h : Below w2.heap.size w2 w') => Hmy.out w' (HW2.out.trans (h.mono HW2.out.size)))
  rw [partsTo_len]
  clear hW hO5 hR5
  go_wp2_with fail
  refine Hr2.out.mono ?_
  rintro e w3 ⟨⟨v3, rfl, hv3⟩, hW⟩
  have hv3 := hv3 (by first | rfl | trivial)
  subst hv3
  have Hm3 := Lib.hid (Hm2.out _ hW)
  have HR6 := Lib.hid (Rd.below HR5.out hW)
  have HW3 := Lib.hid (HW2.out.trans (hW.mono HW2.out.size))
  have HA3 := Lib.hid (HA.out.below HW3.out)
  have hs : fromS ls (-1) 0 < 4294967296 := Nat.lt_trans (fromS_lt ls (-1) 0) (by decide)
  have Hbit := Lib.hid (fun i w (hi : i < 32) => bit_calls (fromS ls (-1) 0) i w hs hi)
  have Hrd : Hid (∀ i, Rnd ls i ↔ ((fromS ls (-1) 0).testBit i = true ∧ (1 < sizeN (partS ls i) ∨ (i : Int) ∈ ls.getD i []))) := Lib.hid (fun i => Iff.rfl)
  clear hW hs
  generalize fromS ls (-1) 0 = s at *
  go_wp2_with fail
  refine Hm3.out.mono ?_
  rintro e w4 ⟨rfl, h4⟩
  rw [h4]
  clear h4 Hm3
  have qq : ((ls.length : Int) != (ls.length : Int)) = false := by simp
  go_wp2
  go_loopw [9, 10] (fun b i wr => ∃ (k : Nat) (r : Bool), k ≤ ls.length ∧ i = .int .i64 k ∧ b = .bool r ∧ Hid (r = true ↔ ∃ i, i < k ∧ Rnd ls i) ∧ wr = w3) (fun _ i _ => ls.length - (intOf i).toNat)
  case atStart => exact ⟨0, false, Nat.zero_le _, rfl, rfl, Lib.hid (by simp), rfl⟩
  case round =>
    obtain ⟨k, r, hk, rfl, rfl, hR, rfl⟩ := hrel
    by_cases hlt : k < ls.length
    · have q1 : ((k : Nat) : Int) < ((ls.length : Nat) : Int) := by omega
      have Hsucc : Hid ((∃ i, i < k + 1 ∧ Rnd ls i) ↔ ((∃ i, i < k ∧ Rnd ls i) ∨ Rnd ls k)) := Lib.hid ⟨fun ⟨i, hi, h⟩ => by
        by_cases e : i = k
        · subst e; exact .inr h
        · exact .inl ⟨i, by omega, h⟩, fun h => by
        rcases h with ⟨i, hi, h⟩ | h
        · exact ⟨i, by omega, h⟩
        · exact ⟨k, by omega, h⟩⟩
      have HR := Lib.hid hR.out
      clear hR
      cases r
      · have Hno : Hid (¬ ∃ i, i < k ∧ Rnd ls i) := Lib.hid (fun h => by have := HR.out.2 h; cases this)
        have Hbk := Lib.hid (Hbit.out k wr (by omega))
        cases hb : s.testBit k
        · have HN : Hid (false = true ↔ ∃ i, i < k + 1 ∧ Rnd ls i) := Lib.hid (by
            rw [Hsucc.out]
            constructor
            · intro h; cases h
            · rintro (h | h)
              · exact absurd h Hno.out
              · have := ((Hrd.out k).1 h).1; rw [hb] at this; cases this)
          rw [hb] at Hbk
          clear hb
          go_wp2_with fail
          refine Hbk.out.mono ?_
          rintro e w' ⟨rfl, rfl⟩
          go_wp2
          go_roundw
          case rel => exact ⟨k + 1, false, by omega, by go_num, rfl, by first | exact HN | exact Lib.hid (by simpa using HN.out), by first | rfl | trivial⟩
          case measure => simp [intOf]; omega
        · obtain ⟨b5, o5, rfl, hb5, d0⟩ := RdU.at1 HR6.out (k := k) (by rw [partsTo_len]; exact hlt)
          rw [partsTo_get] at d0
          have Hsz := Lib.hid (size_calls (partS ls k) wr (Nat.lt_trans (partS_lt ls k) (by decide)))
          have hsl : sizeN (partS ls k) ≤ 32 := szTo_le _ _
          obtain ⟨bK, offK, A1, cap1, rfl, hbK, kc0, hR1⟩ := RdN.at_ HA3.out hlt
          have Hhas := Lib.hid (has_calls A1 ls[k] cap1 (k : Int) wr hR1 (by have := (HV.out _ (List.getElem_mem hlt)).1; unfold maxLen; omega))
          have Hgx : Hid (ls.getD k [] = ls[k]) := Lib.hid (by rw [List.getD_eq_getElem?_getD, List.getElem?_eq_getElem hlt]; rfl)
          have Hrk := Lib.hid (Hrd.out k)
          rw [Hgx.out] at Hrk
          rw [hb] at Hbk
          have Hb1 := Lib.hid hb
          clear hb hR1 Hgx
          generalize ls[k] = nx at *
          generalize sizeN (partS ls k) = sz at *
          generalize partS ls k = ps at *
          by_cases hz : 1 < sz
          · have HN : Hid (true = true ↔ ∃ i, i < k + 1 ∧ Rnd ls i) := Lib.hid (by
              rw [Hsucc.out]
              exact ⟨fun _ => .inr (Hrk.out.2 ⟨Hb1.out, .inl hz⟩), fun _ => rfl⟩)
            have qz : (1 : Int) < ((sz : Nat) : Int) := by omega
            clear hz
            go_wp2_with fail
            refine Hbk.out.mono ?_
            rintro e w' ⟨rfl, rfl⟩
            go_wp2_with fail
            refine Hsz.out.mono ?_
            rintro e w' ⟨rfl, rfl⟩
            go_wp2
            go_roundw
            case rel => exact ⟨k + 1, true, by omega, by go_num, rfl, by first | exact HN | exact Lib.hid (by simpa using HN.out), by first | rfl | trivial⟩
            case measure => simp [intOf]; omega
          · have qz : ¬ (1 : Int) < ((sz : Nat) : Int) := by omega
            have HN : Hid (decide ((k : Int) ∈ nx) = true ↔ ∃ i, i < k + 1 ∧ Rnd ls i) := Lib.hid (by
              rw [Hsucc.out, decide_eq_true_eq]
              constructor
              · intro h; exact .inr (Hrk.out.2 ⟨Hb1.out, .inr h⟩)
              · rintro (h | h)
                · exact absurd h Hno.out
                · exact ((Hrk.out.1 h).2).resolve_left hz)
            generalize decide ((k : Int) ∈ nx) = dk at *
            clear hz
            go_wp2_with fail
            refine Hbk.out.mono ?_
            rintro e w' ⟨rfl, rfl⟩
            go_wp2_with fail
            refine Hsz.out.mono ?_
            rintro e w' ⟨rfl, rfl⟩
            go_wp2_with fail
            refine Hhas.out.mono ?_
            rintro e w' ⟨rfl, rfl⟩
            go_wp2
            go_roundw
            case rel => exact ⟨k + 1, dk, by omega, by go_num, by first | rfl | (simp; done), by first | exact HN | exact Lib.hid (by simpa using HN.out), by first | rfl | trivial⟩
            case measure => simp [intOf]; omega
      · have HN : Hid (true = true ↔ ∃ i, i < k + 1 ∧ Rnd ls i) := Lib.hid (by
          rw [Hsucc.out]
          exact ⟨fun _ => .inl (HR.out.1 rfl), fun _ => rfl⟩)
        go_wp2
        go_roundw
        case rel => exact ⟨k + 1, true, by omega, by go_num, rfl, by first | exact HN | exact Lib.hid (by simpa using HN.out), by first | rfl | trivial⟩
        case measure => simp [intOf]; omega
    · have hke : k = ls.length := by omega
      subst hke
      have hfin : r = decide (0 < (bk.length : Int)) := by
        have h2 := hR.out.trans HF.out
        cases r
        · have : bk = [] := Classical.byContradiction fun hn => by have := h2.2 hn; cases this
          rw [this]; rfl
        · have : bk ≠ [] := h2.1 rfl
          have := List.length_pos_iff.2 this
          rw [decide_eq_true (by omega)]
      have qf : (r == decide (0 < (bk.length : Int))) = true := by rw [beq_iff_eq]; exact hfin
      clear hfin hR
      go_wp2
      go_ret
      exact ⟨by first | rfl | exact ret_bool (by simpa using qf), HW3.out⟩
end Go.Proofs.Ytljmignfbagomaa
