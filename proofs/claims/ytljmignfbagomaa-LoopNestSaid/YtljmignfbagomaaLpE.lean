/- LoopNest walked. -/
import Derived.Test.YtljmignfbagomaaLpD
import Derived.Test.YtljmignfbagomaaRuleC
namespace Go.Proofs.Ytljmignfbagomaa
open Go.RowKit Go.Shelf

set_option maxRecDepth 100000 in
set_option maxHeartbeats 8000000 in
theorem loopNest_calls (A : Option Addr) (ls : List (List Int)) (cap : Nat) (w : World) (hA : RdN w A ls) (hm : ls.length ≤ maxLen) :
    Calls Try.prog 11 #[.slice A ls.length cap] w fun e w' => e = .returned (.bool true) ∧ Below w.heap.size w w' := by
  have Hl := Lib.hid (loops_calls A ls cap w hA hm)
  have Hmy := Lib.hid (fun w' (h : Below w.heap.size w w') => may_calls A ls cap w' (hA.below h) hm)
  have HA := Lib.hid hA
  by_cases h0 : wayErr ls = 0
  case neg =>
    have Ht := Lib.hid (fun w' (h : Below w.heap.size w w') => table_bad A ls cap w' (HA.out.below h) hm h0)
    have q : (wayErr ls != 0) = true := by rw [bne_iff_ne]; exact h0
    have q0 : (wayErr ls == 0) = false := by rw [beq_eq_false_iff_ne]; exact h0
    rw [q0] at Hmy
    have H0 := Lib.hid h0
    clear hA h0 q0
    go_enter Try.func11, Try.ntmps11
    go_wp2_with fail
    refine Hl.out.mono ?_
    rintro e w1 (⟨-, ⟨v, rfl⟩, hW⟩ | ⟨h9, -⟩)
    case inr => exact absurd h9 H0.out
    have HW1 := Lib.hid hW
    have Ht1 := Lib.hid (Ht.out _ hW)
    clear hW
    go_wp2_with fail
    refine Ht1.out.mono ?_
    rintro e w2 ⟨rfl, hW⟩
    have HW2 := Lib.hid (HW1.out.trans (hW.mono HW1.out.size))
    have Hm2 := Lib.hid (Hmy.out _ HW2.out)
    clear hW
    generalize wayErr ls = x at *
    go_wp2_with fail
    refine Hm2.out.mono ?_
    rintro e w4 ⟨rfl, h4⟩
    rw [h4]
    clear h4
    go_wp2
    go_ret
    exact ⟨by first | rfl | exact ret_bool (by simp), HW2.out⟩
  obtain ⟨h1, h8, hv⟩ := wayErr_ok h0
  have HV := Lib.hid hv
  have Ht := Lib.hid (fun w' (h : Below w.heap.size w w') => table_ok A ls cap w' (HA.out.below h) h0)
  have q0 : (wayErr ls == 0) = true := by rw [beq_iff_eq]; exact h0
  rw [q0] at Hmy
  have H0 := Lib.hid h0
  clear hA h0 q0 hv
  go_enter Try.func11, Try.ntmps11
  go_wp2_with fail
  refine Hl.out.mono ?_
  rintro e w1 (⟨h9, -⟩ | ⟨-, v, bk, rfl, hO, -, hbk, hW⟩)
  case inl => exact absurd H0.out h9
  have HLaw := Lib.hid (lp_law h1 h8 HV.out hbk)
  obtain ⟨g4, c4, rfl, hg4, hg4s, -, -, hc4⟩ := OwnU.at_ hO (by rw [lpR_len]; omega)
  have hrl := lpR_len ls bk
  rw [hrl]
  have HC4 := Lib.hid hc4
  have HW1 := Lib.hid hW
  have Ht1 := Lib.hid (Ht.out _ hW)
  clear hW hO hc4 hbk
  generalize lpR ls bk = r at *
  go_wp2_with fail
  refine Ht1.out.mono ?_
  rintro e w2 ⟨v, rfl, hO, hW⟩
  obtain ⟨g5, c5, rfl, hg5, hg5s, -, -, hc5⟩ := OwnU.at_ hO (by rw [rulesL_len]; omega)
  rw [rulesL_len]
  have HC5 := Lib.hid hc5
  have HC4' : Hid (∀ k (hk : k < r.length), w2.cell? ⟨g4, k, none⟩ = some (.int .u32 (r[k] : Nat))) := Lib.hid (fun k hk => (hW.cell (p := ⟨g4, k, none⟩) hg4s).trans (HC4.out k hk))
  have HW2 := Lib.hid (HW1.out.trans (hW.mono HW1.out.size))
  have Hm2 := Lib.hid (Hmy.out _ HW2.out)
  clear hW hO hc5 HC4
  go_wp2_with fail
  refine Hm2.out.mono ?_
  rintro e w4 ⟨rfl, h4⟩
  rw [h4]
  clear h4 Hm2
  have qq : ((ls.length : Int) != (ls.length : Int)) = false := by simp
  go_wp2
  go_loopw [49] (fun i wr => ∃ k : Nat, k ≤ ls.length ∧ i = .int .i64 k ∧ wr = w2) (fun i _ => ls.length - (intOf i).toNat)
  case atStart => exact ⟨0, Nat.zero_le _, rfl, rfl⟩
  case round =>
    obtain ⟨ci, hci, rfl, rfl⟩ := hrel
    by_cases hlt : ci < ls.length
    · have q1 : ((ci : Nat) : Int) < ((ls.length : Nat) : Int) := by omega
      have c0 := HC4'.out ci (by omega)
      have ha := HLaw.out.lt ci (by omega)
      have Hn0 := Lib.hid (fun j hj => HLaw.out.nest ci j (by omega) hj)
      have Hh0 := Lib.hid (fun k => HLaw.out.head ci (by omega) k)
      obtain ⟨a, ea⟩ : ∃ a, a = r[ci]'(by omega) := ⟨_, rfl⟩
      rw [← ea] at c0 ha
      have Hn : Hid (∀ j (hj : j < r.length), ci ≠ j → a &&& r[j] ≠ 0 → (a ||| r[j] == r[j]) = true ∨ (r[j] ||| a == a) = true) := Lib.hid (by rw [ea]; exact Hn0.out)
      have Hh : Hid (∀ k, a.testBit k = true → k < ls.length ∧ (domS ls k).testBit ci = true) := Lib.hid (by rw [ea]; exact Hh0.out)
      clear ea Hn0 Hh0
      go_wp2
      go_loopw [56] (fun i wr2 => ∃ k : Nat, k ≤ ls.length ∧ i = .int .i64 k ∧ wr2 = wr) (fun i _ => ls.length - (intOf i).toNat)
      case atStart => exact ⟨0, Nat.zero_le _, rfl, rfl⟩
      case round =>
        clear c0
        obtain ⟨cj, hcj, rfl, rfl⟩ := hrel
        by_cases hlj : cj < ls.length
        · have q2 : ((cj : Nat) : Int) < ((ls.length : Nat) : Int) := by omega
          have c1 := HC4'.out cj (by omega)
          have hb := HLaw.out.lt cj (by omega)
          have hn := Hn.out cj (by omega)
          generalize r[cj] = b at *
          have p1 := and_u32 a b (by omega) (by omega)
          have Hi1 := Lib.hid (fun w => in_calls a b w (by omega) (by omega))
          have Hi2 := Lib.hid (fun w => in_calls b a w (by omega) (by omega))
          by_cases he : ci = cj
          · have q3 : ((ci : Int) != (cj : Int)) = false := by rw [bne_eq_false_iff_eq]; omega
            clear hn he p1
            go_wp2
            go_roundw
            case rel => exact ⟨cj + 1, by omega, by go_num, by first | rfl | trivial⟩
            case measure => simp [intOf]; omega
          · have q3 : ((ci : Int) != (cj : Int)) = true := by rw [bne_iff_ne]; omega
            by_cases hz : a &&& b = 0
            · have q4 : (((a &&& b : Nat) : Int) != 0) = false := by rw [bne_eq_false_iff_eq]; omega
              clear hn he hz
              generalize a &&& b = ab at *
              go_wp2
              go_roundw
              case rel => exact ⟨cj + 1, by omega, by go_num, by first | rfl | trivial⟩
              case measure => simp [intOf]; omega
            · have q4 : (((a &&& b : Nat) : Int) != 0) = true := by rw [bne_iff_ne]; omega
              have Hnn := Lib.hid (hn he hz)
              have Hi1' := Lib.hid (Hi1.out wr)
              have Hi2' := Lib.hid (Hi2.out wr)
              clear hn he hz Hi1 Hi2
              generalize a &&& b = ab at *
              generalize (a ||| b == b) = x1 at *
              generalize (b ||| a == a) = x2 at *
              cases x1
              · have hx2 : x2 = true := Hnn.out.resolve_left (by simp)
                subst hx2
                go_wp2_with fail
                refine Hi1'.out.mono ?_
                rintro e w' ⟨rfl, rfl⟩
                go_wp2_with fail
                refine Hi2'.out.mono ?_
                rintro e w' ⟨rfl, rfl⟩
                go_wp2
                go_roundw
                case rel => exact ⟨cj + 1, by omega, by go_num, by first | rfl | trivial⟩
                case measure => simp [intOf]; omega
              · go_wp2_with fail
                refine Hi1'.out.mono ?_
                rintro e w' ⟨rfl, rfl⟩
                go_wp2
                go_roundw
                case rel => exact ⟨cj + 1, by omega, by go_num, by first | rfl | trivial⟩
                case measure => simp [intOf]; omega
        · have hke : cj = ls.length := by omega
          subst hke
          go_wp2
          go_loopw [11] (fun i wr2 => ∃ k : Nat, k ≤ ls.length ∧ i = .int .i64 k ∧ wr2 = wr) (fun i _ => ls.length - (intOf i).toNat)
          case atStart => exact ⟨0, Nat.zero_le _, rfl, rfl⟩
          case round =>
            obtain ⟨ck, hck, rfl, rfl⟩ := hrel
            by_cases hlk : ck < ls.length
            · have q2 : ((ck : Nat) : Int) < ((ls.length : Nat) : Int) := by omega
              have Hb1 := Lib.hid (bit_calls a ck wr (by omega) (by omega))
              cases hb : a.testBit ck
              · rw [hb] at Hb1
                clear hb
                go_wp2_with fail
                refine Hb1.out.mono ?_
                rintro e w' ⟨rfl, rfl⟩
                go_wp2
                go_roundw
                case rel => exact ⟨ck + 1, by omega, by go_num, by first | rfl | trivial⟩
                case measure => simp [intOf]; omega
              · have c2 := HC5.out ck (by rw [rulesL_len]; exact hlk)
                rw [rulesL_get] at c2
                have hD := domS_lt ls ck
                have Hb2 := Lib.hid (bit_calls (domS ls ck) ci wr (by omega) (by omega))
                rw [(Hh.out ck hb).2] at Hb2
                rw [hb] at Hb1
                clear hb
                generalize domS ls ck = D at *
                go_wp2_with fail
                refine Hb1.out.mono ?_
                rintro e w' ⟨rfl, rfl⟩
                go_wp2_with fail
                refine Hb2.out.mono ?_
                rintro e w' ⟨rfl, rfl⟩
                go_wp2
                go_roundw
                case rel => exact ⟨ck + 1, by omega, by go_num, by first | rfl | trivial⟩
                case measure => simp [intOf]; omega
            · have hke : ck = ls.length := by omega
              subst hke
              go_wp2
              go_roundw
              case rel => exact ⟨ci + 1, by omega, by go_num, by first | rfl | trivial⟩
              case measure => simp [intOf]; omega
    · have hke : ci = ls.length := by omega
      subst hke
      go_wp2
      go_ret
      exact ⟨rfl, HW2.out⟩
end Go.Proofs.Ytljmignfbagomaa
