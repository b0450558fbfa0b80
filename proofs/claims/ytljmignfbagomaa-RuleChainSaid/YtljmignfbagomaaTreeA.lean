/- rule.Tree walked. -/
import Derived.Test.YtljmignfbagomaaTreeP
import Derived.Test.YtljmignfbagomaaRuleC
import Derived.Test.YtljmignfbagomaaOnes
namespace Go.Proofs.Ytljmignfbagomaa
open Go.RowKit

set_option maxHeartbeats 1000000 in
theorem tree_bad (A : Option Addr) (ls : List (List Int)) (cap : Nat) (w : World) (hA : RdN w A ls) (hm : ls.length ≤ maxLen) (h0 : wayErr ls ≠ 0) :
    Calls Try.prog 26 #[.slice A ls.length cap] w fun e w' => e = .returned (.tuple #[.slice none 0 0, .int .i64 (wayErr ls)]) ∧ Below w.heap.size w w' := by
  have HA := Lib.hid hA; clear hA
  have hd : (wayErr ls != 0) = true := by simpa using h0
  have H0 := Lib.hid h0
  clear h0
  go_enter Try.func26, Try.ntmps26
  go_wp2_with (go_at_call 24; refine (table_bad _ _ _ _ HA.out hm H0.out).mono ?_; rintro e w1 ⟨rfl, hW⟩; have HW := Lib.hid hW; clear hW)
  go_ret2
  exact ⟨rfl, HW.out⟩

set_option maxHeartbeats 8000000 in
theorem tree_ok (A : Option Addr) (ls : List (List Int)) (cap : Nat) (w : World) (hA : RdN w A ls) (h0 : wayErr ls = 0) :
    Calls Try.prog 26 #[.slice A ls.length cap] w fun e w' => ∃ v, e = .returned (.tuple #[v, .int .i64 0]) ∧ OwnI w' w.heap.size 3 v (upL ls) ∧ Below w.heap.size w w' := by
  obtain ⟨h1, h8, hv⟩ := valid_of h0
  have HA := Lib.hid hA; clear hA
  have H0 := Lib.hid h0; clear h0
  have Hlen := Lib.hid (rulesL_len ls)
  go_enter Try.func26, Try.ntmps26
  go_wp2_with (go_at_call 24; refine (table_ok _ _ _ _ HA.out H0.out).mono ?_
               rintro e w1 ⟨v, rfl, hown, hW⟩
               obtain ⟨gF, capF, rfl, hgF, hgF2, hcF, _, hcells⟩ := OwnU.at_ hown (by rw [Hlen.out]; omega)
               rw [Hlen.out]
               have HC := Lib.hid hcells
               have HW := Lib.hid hW
               clear hW hown hcells)
  have hw1 := HW.out.size
  go_loopw [6, 22] (fun o i wr => ∃ k : Nat, k ≤ ls.length ∧ i = .int .i64 k ∧ OwnI wr w1.heap.size 3 o (upsTo ls k) ∧ Below w1.heap.size w1 wr) (fun _ i _ => ls.length - (intOf i).toNat)
  case atStart => exact ⟨0, Nat.zero_le _, rfl, Own.nil_ _ _ _, Below.refl _ _⟩
  case round =>
    obtain ⟨wo, rfl⟩ : ∃ wo : World, wo = wr := ⟨_, rfl⟩
    obtain ⟨k, hk, rfl, hown, hW1⟩ := hrel
    have Hown := Lib.hid hown
    have HW1 := Lib.hid hW1
    clear hown
    by_cases hlt : k < ls.length
    · have c1 : wo.cell? ⟨gF, k, none⟩ = some (.int .u32 (domS ls k : Nat)) := by
        rw [HW1.out.cell hgF2]
        have := HC.out k (by rw [Hlen.out]; omega)
        rw [rulesL_get] at this
        exact this
      clear hW1
      have q1 : ((k : Nat) : Int) < ((ls.length : Nat) : Int) := by omega
      have hs := domS_lt ls k
      go_wp2
      go_loopw [9, 29] (fun u i wr2 => ∃ j : Nat, j ≤ ls.length ∧ u = .int .i64 (upTo ls k j) ∧ i = .int .i64 j ∧ ∃ nq, wr2 = wo.drewN nq) (fun _ i _ => ls.length - (intOf i).toNat)
      case atStart => exact ⟨0, Nat.zero_le _, rfl, rfl, 0, rfl⟩
      case round =>
        obtain ⟨j, hj, rfl, rfl, nq, hwr⟩ := hrel
        have Hwr := Lib.hid hwr
        have HWr : Hid (Below w1.heap.size w1 wr) := Lib.hid (by rw [hwr]; exact below_dN HW1.out nq)
        clear hwr
        by_cases hlj : j < ls.length
        · have c2 : wr.cell? ⟨gF, j, none⟩ = some (.int .u32 (domS ls j : Nat)) := by
            rw [HWr.out.cell hgF2]
            have := HC.out j (by rw [Hlen.out]; omega)
            rw [rulesL_get] at this
            exact this
          have q2 : ((j : Nat) : Int) < ((ls.length : Nat) : Int) := by omega
          have ho := domS_lt ls j
          have p1 := test1_u32 (domS ls k) j (by omega)
          have p2 : (((cnt8 (domS ls j) : Nat) : Int) == ((cnt8 (domS ls k) : Nat) : Int) - 1) = decide (cnt8 (domS ls j) + 1 = cnt8 (domS ls k)) := by
            rw [Bool.eq_iff_iff, beq_iff_eq, decide_eq_true_eq]; omega
          have HY := Lib.hid (@upTo_yes ls k j)
          have HN := Lib.hid (@upTo_no ls k j)
          have j32 : j < 32 := by omega
          have r3 : (j : Int) % 18446744073709551616 = j := by omega
          have hc1 := cnt8_le (domS ls j)
          have hc2 := cnt8_le (domS ls k)
          generalize upTo ls k j = u at *
          generalize domS ls j = o at *
          generalize domS ls k = s at *
          have Ho := Lib.hid (fun w => ones_calls o w ho)
          have Hs := Lib.hid (fun w => ones_calls s w hs)
          by_cases hjk : j = k
          · have q3 : (((j : Nat) : Int) != ((k : Nat) : Int)) = false := by rw [bne_eq_false_iff_eq, hjk]
            have HX := Lib.hid (HN.out (fun h => h.1 hjk))
            clear hjk HY HN
            go_wp2
            go_roundw
            case rel => exact ⟨j + 1, by omega, by rw [HX.out], by go_num, nq, Hwr.out⟩
            case measure => simp [intOf]; omega
          have q3 : (((j : Nat) : Int) != ((k : Nat) : Int)) = true := by rw [bne_iff_ne]; omega
          have Hjk := Lib.hid hjk
          clear hjk
          cases hb : s.testBit j
          · rw [hb] at p1
            have HX := Lib.hid (HN.out (fun h => by rw [hb] at h; cases h.2.1))
            clear hb HY HN
            go_wp2
            go_roundw
            case rel => exact ⟨j + 1, by omega, by rw [HX.out], by go_num, nq, Hwr.out⟩
            case measure => simp [intOf]; omega
          rw [hb] at p1
          by_cases hc : cnt8 o + 1 = cnt8 s
          · rw [decide_eq_true hc] at p2
            have HX := Lib.hid (HY.out Hjk.out hb hc)
            clear hb hc HY HN
            go_wp2_with (first
              | (go_at_call 49; with_reducible refine (Ho.out _).mono ?_; rintro e w2 ⟨rfl, n2, hw2⟩; have Hw2 := Lib.hid hw2; clear hw2)
              | (go_at_call 49; with_reducible refine (Hs.out _).mono ?_; rintro e w3 ⟨rfl, n3, hw3⟩; have Hw3 := Lib.hid hw3; clear hw3))
            go_roundw
            case rel => exact ⟨j + 1, by omega, by rw [HX.out], by go_num, _, by rw [Hw3.out, Hw2.out, Hwr.out, World.drewN_drewN, World.drewN_drewN]⟩
            case measure => simp [intOf]; omega
          · rw [decide_eq_false hc] at p2
            have HX := Lib.hid (HN.out (fun h => hc h.2.2))
            clear hb hc HY HN
            go_wp2_with (first
              | (go_at_call 49; with_reducible refine (Ho.out _).mono ?_; rintro e w2 ⟨rfl, n2, hw2⟩; have Hw2 := Lib.hid hw2; clear hw2)
              | (go_at_call 49; with_reducible refine (Hs.out _).mono ?_; rintro e w3 ⟨rfl, n3, hw3⟩; have Hw3 := Lib.hid hw3; clear hw3))
            go_roundw
            case rel => exact ⟨j + 1, by omega, by rw [HX.out], by go_num, _, by rw [Hw3.out, Hw2.out, Hwr.out, World.drewN_drewN, World.drewN_drewN]⟩
            case measure => simp [intOf]; omega
        · have : j = ls.length := by omega
          subst this
          have hS := upsTo_succ ls k
          have hl := upsTo_len ls k
          generalize upTo ls k ls.length = u at *
          have ho := Own.drewN Hown.out nq
          rw [← Hwr.out] at ho
          have hw2 := HWr.out.size
          go_wp2_with (at_builtin; refine wpList_appI rfl _ _ rfl w1.heap.size _ _ u rfl (Own.alloc ho _) _ _ rfl (cell_new _ _ _ _ rfl _) (by omega) (by simp; omega) ?_; intro v5 w5 hown5 hgrow5)
          have HB5 := Lib.hid (below_own (HWr.out.alloc hw2 _) hgrow5 (Own.alloc ho _) (Nat.le_refl _) (by simp; omega))
          rw [← hS] at hown5
          have Hown5 := Lib.hid hown5
          clear hown5 hgrow5
          go_roundw
          case rel => exact ⟨k + 1, by omega, by go_num, Hown5.out, HB5.out⟩
          case measure => simp [intOf]; omega
    · have : k = ls.length := by omega
      subst this
      go_wp2
      go_ret2
      exact ⟨_, rfl, Hown.out.base_ hw1, HW.out.trans (HW1.out.mono hw1)⟩
end Go.Proofs.Ytljmignfbagomaa
