/- RuleChain. -/
import Derived.Test.YtljmignfbagomaaTreeA
import Derived.Test.YtljmignfbagomaaInside
namespace Go.Proofs.Ytljmignfbagomaa
open Go.RowKit

set_option maxRecDepth 100000 in
set_option maxHeartbeats 8000000 in
theorem ruleChain_calls (A : Option Addr) (ls : List (List Int)) (cap : Nat) (w : World) (hA : RdN w A ls) (hm : ls.length ≤ maxLen) :
    Calls Try.prog 6 #[.slice A ls.length cap] w fun e w' => e = .returned (.bool true) ∧ Below w.heap.size w w' := by
  have HA := Lib.hid hA; clear hA
  by_cases h0 : wayErr ls = 0
  case neg =>
    have hd : (wayErr ls != 0) = true := by simpa using h0
    have hd2 : (wayErr ls == 0) = false := by simpa using h0
    have H0 := Lib.hid h0
    clear h0
    go_enter Try.func6, Try.ntmps6
    go_wp2_with (first
      | (go_at_call 24; refine (table_bad _ _ _ _ HA.out hm H0.out).mono ?_; rintro e w1 ⟨rfl, hW⟩; have HW := Lib.hid hW; clear hW)
      | (go_at_call 26; refine (tree_bad _ _ _ _ (RdN.below HA.out HW.out) hm H0.out).mono ?_; rintro e w2 ⟨rfl, hW2⟩; have HW2 := Lib.hid (HW.out.trans (hW2.mono HW.out.size)); clear hW2)
      | (go_at_call 18; refine (may_calls _ _ _ _ (RdN.below HA.out HW2.out) hm).mono ?_; rintro e w3 ⟨rfl, rfl⟩; rw [hd2]))
    go_ret
    exact ⟨rfl, HW2.out⟩
  obtain ⟨h1, h8, hv⟩ := valid_of h0
  have HV := Lib.hid hv; clear hv
  have H0 := Lib.hid h0
  have hd2 : (wayErr ls == 0) = true := by simpa using h0
  clear h0
  have Hlen := Lib.hid (rulesL_len ls)
  have Hlen2 := Lib.hid (upsTo_len ls ls.length)
  have HZ := Lib.hid (up_zero h1 h8 HV.out ls.length)
  go_enter Try.func6, Try.ntmps6
  go_wp2_with (first
    | (go_at_call 24; refine (table_ok _ _ _ _ HA.out H0.out).mono ?_
       rintro e w1 ⟨v, rfl, hown, hW⟩
       obtain ⟨gF, capF, rfl, hgF, hgF2, hcF, _, hcells⟩ := OwnU.at_ hown (by rw [Hlen.out]; omega)
       rw [Hlen.out]
       have HC := Lib.hid hcells
       have HW := Lib.hid hW
       clear hW hown hcells)
    | (go_at_call 26; refine (tree_ok _ _ _ _ (RdN.below HA.out HW.out) H0.out).mono ?_
       rintro e w2 ⟨v, rfl, hown, hW2⟩
       obtain ⟨gT, capT, rfl, hgT, hgT2, hcT, _, hcells⟩ := OwnI.at_ hown (by rw [Hlen2.out]; omega)
       rw [Hlen2.out]
       have HCT := Lib.hid hcells
       have cT0 := hcells 0 (by rw [Hlen2.out]; omega)
       rw [upsTo_get, HZ.out] at cT0
       have HW2 := Lib.hid (HW.out.trans (hW2.mono HW.out.size))
       have HW12 := Lib.hid hW2
       clear hW2 hown hcells)
    | (go_at_call 18; refine (may_calls _ _ _ _ (RdN.below HA.out HW2.out) hm).mono ?_; rintro e w3 ⟨rfl, rfl⟩; rw [hd2]))
  obtain ⟨wp, rfl⟩ : ∃ wp : World, wp = w3 := ⟨_, rfl⟩
  have hwp := HW12.out.size
  have HD : Hid (∀ k, k < ls.length → wp.cell? ⟨gF, k, none⟩ = some (.int .u32 (domS ls k : Nat))) := Lib.hid fun k hk => by
    rw [HW12.out.cell hgF2]
    have := HC.out k (by rw [Hlen.out]; omega)
    rw [rulesL_get] at this
    exact this
  have HU : Hid (∀ k, k < ls.length → wp.cell? ⟨gT, k, none⟩ = some (.int .i64 (upTo ls k ls.length))) := Lib.hid fun k hk => by
    have := HCT.out k (by rw [Hlen2.out]; omega)
    rw [upsTo_get] at this
    exact this
  have hgF3 : gF < wp.heap.size := by omega
  clear HC HCT
  go_loopw [61] (fun i wr => ∃ k : Nat, k ≤ ls.length ∧ i = .int .i64 k ∧ Below wp.heap.size wp wr) (fun i _ => ls.length - (intOf i).toNat)
  case atStart => exact ⟨0, Nat.zero_le _, rfl, Below.refl _ _⟩
  case round =>
    obtain ⟨wo, rfl⟩ : ∃ wo : World, wo = wr := ⟨_, rfl⟩
    obtain ⟨k, hk, rfl, hWo⟩ := hrel
    have HWo := Lib.hid hWo
    by_cases hlt : k < ls.length
    · have c1 := (hWo.cell hgF3).trans (HD.out k hlt)
      have q1 : ((k : Nat) : Int) < ((ls.length : Nat) : Int) := by omega
      have hs := domS_lt ls k
      have Hdk := Lib.hid (domS_bit h1 h8 HV.out k)
      clear hWo
      go_wp2
      go_loopw [9] (fun i wr => ∃ a : Nat, a ≤ ls.length ∧ i = .int .i64 a ∧ Below wp.heap.size wp wr) (fun i _ => ls.length - (intOf i).toNat)
      case atStart => exact ⟨0, Nat.zero_le _, rfl, HWo.out⟩
      case round =>
        clear HWo c1
        obtain ⟨wo, rfl⟩ : ∃ wo : World, wo = wr := ⟨_, rfl⟩
        obtain ⟨a, ha, rfl, hWo⟩ := hrel
        have HWo := Lib.hid hWo
        clear hWo
        by_cases hla : a < ls.length
        · go_wp2
          go_loopw [10] (fun i wr => ∃ b : Nat, b ≤ ls.length ∧ i = .int .i64 b ∧ Below wp.heap.size wp wr) (fun i _ => ls.length - (intOf i).toNat)
          case atStart => exact ⟨0, Nat.zero_le _, rfl, HWo.out⟩
          case round =>
            clear HWo
            obtain ⟨b, hb, rfl, hW⟩ := hrel
            have HWr := Lib.hid hW
            clear hW
            by_cases hlb : b < ls.length
            · have c2 := (HWr.out.cell hgF3).trans (HD.out a hla)
              have c3 := (HWr.out.cell hgF3).trans (HD.out b hlb)
              have q2 : ((a : Nat) : Int) < ((ls.length : Nat) : Int) := by omega
              have q3 : ((b : Nat) : Int) < ((ls.length : Nat) : Int) := by omega
              have hsa := domS_lt ls a
              have hsb := domS_lt ls b
              have Hda := Lib.hid (domS_bit h1 h8 HV.out a)
              have Hdb := Lib.hid (domS_bit h1 h8 HV.out b)
              generalize domS ls a = da at *
              generalize domS ls b = db at *
              generalize domS ls k = s at *
              have B1 := Lib.hid (fun w => bit_calls s a w (by omega) (by omega))
              have B2 := Lib.hid (fun w => bit_calls s b w (by omega) (by omega))
              have B3 := Lib.hid (fun w => bit_calls da b w (by omega) (by omega))
              have B4 := Lib.hid (fun w => bit_calls db a w (by omega) (by omega))
              have HX : Hid (s.testBit a = true → s.testBit b = true → da.testBit b = false → db.testBit a = false → False) := Lib.hid fun e1 e2 e3 e4 => by
                rcases ((Hdk.out a).1 e1).chain ((Hdk.out b).1 e2) with h | h
                · rw [(Hdb.out a).2 h] at e4; cases e4
                · rw [(Hda.out b).2 h] at e3; cases e3
              have HX' : Hid ((s.testBit a && s.testBit b && (!da.testBit b) && (!db.testBit a)) = false) := Lib.hid (by
                have := HX.out
                cases e1 : s.testBit a <;> cases e2 : s.testBit b <;> cases e3 : da.testBit b <;> cases e4 : db.testBit a <;> simp_all)
              generalize s.testBit a = b1 at *
              generalize s.testBit b = b2 at *
              generalize da.testBit b = b3 at *
              generalize db.testBit a = b4 at *
              have Hk := Lib.hid (show True from trivial)
              clear Hda Hdb
              cases b1 <;> cases b2 <;> cases b3 <;> cases b4
              all_goals first | exact absurd HX'.out (by decide) | skip
              all_goals (
                go_wp2_with (first
                  | (go_at_call 19; with_reducible refine (B1.out _).mono ?_; rintro e w' ⟨rfl, rfl⟩)
                  | (go_at_call 19; with_reducible refine (B2.out _).mono ?_; rintro e w' ⟨rfl, rfl⟩)
                  | (go_at_call 19; with_reducible refine (B3.out _).mono ?_; rintro e w' ⟨rfl, rfl⟩)
                  | (go_at_call 19; with_reducible refine (B4.out _).mono ?_; rintro e w' ⟨rfl, rfl⟩))
                go_roundw
                case rel => exact ⟨b + 1, by omega, by go_num, HWr.out⟩
                case measure => simp [intOf]; omega)
            · go_wp2
              go_roundw
              case rel => exact ⟨a + 1, by omega, by go_num, HWr.out⟩
              case measure => simp [intOf]; omega
        · by_cases hr : Rch ls k
          · have hz : ((domS ls k : Nat) : Int) ≠ 0 := by have := domS_some h1 h8 HV.out hr; omega
            have q4 : (((domS ls k : Nat) : Int) != 0) = true := by rw [bne_iff_ne]; exact hz
            have q5 : (((domS ls k : Nat) : Int) == 0) = false := by rw [beq_eq_false_iff_ne]; exact hz
            have HF := Lib.hid (Up.first h1 h8 HV.out hr)
            have HS := Lib.hid (fun st s n => @Up.step ls h1 h8 HV.out k st s n)
            clear hr hz
            go_wp2
            go_loopw [11, 12, 13] (fun x y z wr => ∃ (st s : Nat) (n : Int), x = .int .u32 s ∧ y = .int .i64 n ∧ z = .int .i64 st ∧ Hid (Up ls k st s n) ∧ s < 256 ∧ Below wp.heap.size wp wr) (fun _ _ z _ => ls.length + 1 - (intOf z).toNat)
            case atStart => exact ⟨0, 0, k, rfl, rfl, rfl, HF, by decide, HWo.out⟩
            case round =>
              obtain ⟨st, x, n, rfl, rfl, rfl, hU, hx, hW⟩ := hrel
              have HWr := Lib.hid hW
              clear hW HWo
              have hU' := hU.out
              rcases hU' with ⟨rfl, rfl, hst⟩ | ⟨n, rfl, hn, hrn, _, hc1, hc2⟩
              · have Hi : Hid (insideB (ls.length : Int) [-1] = false) := Lib.hid (by simp [insideB])
                have q7 : ((st : Nat) : Int) ≤ ((ls.length : Nat) : Int) := by omega
                clear hU HF HS
                go_wp2_with (go_at_call 27; refine (inside_calls _ _ [-1] _ _ (rdI_new1 _ _ _ _ (by simp)) (by simp [maxLen])).mono ?_; rintro e w' ⟨rfl, rfl⟩; rw [Hi.out])
                go_roundw
                case rel => exact ⟨k + 1, by omega, by go_num, HWr.out.alloc HWr.out.size _⟩
                case measure => simp [intOf]; omega
              · have Hi : Hid (insideB (ls.length : Int) [(n : Int)] = true) := Lib.hid (by simp [insideB]; omega)
                have q7 : ((st : Nat) : Int) ≤ ((ls.length : Nat) : Int) := by omega
                have q8 : ((n : Nat) : Int) < ((ls.length : Nat) : Int) := by omega
                have HU2 := Lib.hid (HS.out st x n hU.out)
                have c5 := (HWr.out.cell hgT2).trans (HU.out n hn)
                have hgT4 : gT < wr.heap.size := Nat.lt_of_lt_of_le hgT2 HWr.out.size
                have n32 : n < 32 := by omega
                have pn : 2 ^ n < 2 ^ 8 := Nat.pow_lt_pow_right (by decide) (by omega)
                have r1 := pow_u32 n n32
                have r2 := or_u32 x (2 ^ n) (by omega) (by omega)
                have r3 : (n : Int) % 18446744073709551616 = n := by omega
                have hy : x ||| 2 ^ n < 256 := Nat.or_lt_two_pow (n := 8) hx pn
                rw [Int.natCast_pow, show ((2 : Nat) : Int) = 2 from rfl] at r1 r2
                clear hU HF HS pn hc1
                generalize x ||| 2 ^ n = y at *
                generalize upTo ls n ls.length = n' at *
                go_wp2_with (go_at_call 27; refine (inside_calls _ _ [(n : Int)] _ _ (rdI_new1 _ _ _ _ (by simp)) (by simp [maxLen])).mono ?_; rintro e w' ⟨rfl, rfl⟩; rw [Hi.out])
                go_roundw
                case rel => exact ⟨st + 1, y, n', rfl, rfl, by go_num, HU2, hy, HWr.out.alloc HWr.out.size _⟩
                case measure => simp [intOf]; omega
          · have e0 := domS_none h1 h8 HV.out hr
            have e1 := up_off h1 h8 HV.out hr ls.length
            rw [e0] at *
            have c5 := (HWo.out.cell hgT2).trans (HU.out k hlt)
            rw [e1] at c5
            clear hr
            go_wp2
            go_loopw [11, 12, 13] (fun x y z wr => x = .int .u32 0 ∧ y = .int .i64 k ∧ z = .int .i64 0 ∧ wr = wo) (fun _ _ z _ => 0)
            case atStart => exact ⟨rfl, rfl, rfl, rfl⟩
            case round =>
              obtain ⟨rfl, rfl, rfl, rfl⟩ := hrel
              have q7 : (0 : Int) ≤ ((ls.length : Nat) : Int) := by omega
              go_wp2
              go_roundw
              case rel => exact ⟨k + 1, by omega, by go_num, HWo.out⟩
              case measure => simp [intOf]; omega
    · go_wp2
      go_ret
      exact ⟨rfl, HW2.out.trans (HWo.out.mono HW2.out.size)⟩
end Go.Proofs.Ytljmignfbagomaa
