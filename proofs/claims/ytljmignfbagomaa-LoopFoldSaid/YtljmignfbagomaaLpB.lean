/- loop.to walked. -/
import Derived.Test.YtljmignfbagomaaLpA
import Derived.BigQuiet
import Derived.Deep.QuietTactic
import Derived.BigGuardPart
import Derived.StillTailTactics
namespace Go.Proofs.Ytljmignfbagomaa
open Go.RowKit Go.Shelf

set_option maxRecDepth 100000 in
set_option maxHeartbeats 4000000 in
theorem to_calls (A : Option Addr) (ls : List (List Int)) (cap : Nat) (w : World) (hA : RdN w A ls) (h0 : wayErr ls = 0) :
    Calls Try.prog 55 #[.slice A ls.length cap] w fun e w' => ∃ v, e = .returned v ∧ OwnU w' w.heap.size 29 v (toR ls ls.length 0) ∧ Below w.heap.size w w' := by
  obtain ⟨h1, h8, hv⟩ := valid_of h0
  have HR0 := Lib.hid (fun b => fromS_bit (wo := -1) h8 hv h1 b)
  have Hf := Lib.hid (fromS_calls A ls cap w 0 (-1) hA h8 hv (by omega))
  have hF := fromS_lt ls (-1) 0
  rw [show ((0 : Nat) : Int) = 0 from rfl] at Hf
  have HA := Lib.hid hA; clear hA
  have HV := Lib.hid hv; clear hv h0
  have HZ := Lib.hid (toR_zero ls)
  generalize fromS ls (-1) 0 = F at *
  go_enter Try.func55, Try.ntmps55
  go_wp2_with fail
  refine Hf.out.mono ?_
  rintro e w1 ⟨rfl, hW⟩
  have HW := Lib.hid hW
  clear hW Hf
  go_wp2_with (first
    | (at_make; refine wpList_makeU rfl _ _ rfl w1.heap.size ls.length rfl rfl (by omega) (Nat.le_refl _) ?_; intro w2 hown2 hgrow2)
    | fail)
  have hw1 := HW.out.size
  have hW2 := (Below.refl w1.heap.size w1).grown hgrow2 (Nat.le_refl _) (fun k hk => by cases hk)
  rw [← HZ.out] at hown2
  go_loopw [16] (fun i wr => ∃ k : Nat, k ≤ ls.length ∧ i = .int .i64 k ∧ OwnU wr w1.heap.size 29 (.slice (some ⟨w1.heap.size, 0, none⟩) ls.length ls.length) (toR ls k 0) ∧ Below w1.heap.size w1 wr) (fun i _ => ls.length - (intOf i).toNat)
  case atStart => exact ⟨0, Nat.zero_le _, rfl, hown2, hW2⟩
  case round =>
    clear hown2 hW2 hgrow2
    obtain ⟨i, hi, rfl, hown, hW⟩ := hrel
    have Hown := Lib.hid hown
    have HWr := Lib.hid hW
    clear hown
    by_cases hlt : i < ls.length
    · obtain ⟨b2, off2, A2, cap2, rfl, hb2, c0, hR⟩ := RdN.at_ (RdN.below HA.out HW.out) hlt
      have c0 := (hW.cell (p := ⟨b2, off2 + i, none⟩) hb2).trans c0
      have hl3 := (HV.out _ (List.getElem_mem hlt)).1
      have Hin := Lib.hid ((HV.out _ (List.getElem_mem hlt)).2)
      have HR := Lib.hid hR
      have Hgx : Hid (ls.getD i [] = ls[i]) := Lib.hid (by rw [List.getD_eq_getElem?_getD, List.getElem?_eq_getElem hlt]; rfl)
      have q0 : ((i : Nat) : Int) < ((ls.length : Nat) : Int) := by omega
      clear hR hW
      generalize ls[i] = l at *
      go_wp2
      go_loopw [23] (fun t3 wr => ∃ t : Nat, t ≤ l.length ∧ t3 = .int .i64 t ∧ OwnU wr w1.heap.size 29 (.slice (some ⟨w1.heap.size, 0, none⟩) ls.length ls.length) (toR ls i t) ∧ Below w1.heap.size w1 wr) (fun t3 _ => l.length - (intOf t3).toNat)
      case atStart => exact ⟨0, Nat.zero_le _, rfl, Hown.out, HWr.out⟩
      case round =>
        clear Hown HWr c0
        obtain ⟨t, ht, rfl, hown, hW⟩ := hrel
        have Hown := Lib.hid hown
        have HWr := Lib.hid hW
        by_cases hltt : t < l.length
        · obtain ⟨b3, off3, rfl, hb3, c3'⟩ := RdI.at1 HR.out hltt
          have c3 := (hW.cell (p := ⟨b3, off3 + t, none⟩) hb3).trans c3'
          obtain ⟨x0, x1⟩ := Hin.out _ (List.getElem_mem hltt)
          obtain ⟨j, hj⟩ := Int.eq_ofNat_of_zero_le x0
          rw [hj] at c3
          have hj8 : j < ls.length := by omega
          have q2 : ((t : Nat) : Int) < ((l.length : Nat) : Int) := by omega
          have q3 : ((j : Nat) : Int) < ((ls.length : Nat) : Int) := by omega
          have i32 : i < 32 := by omega
          have p1 := test1_u32 F i (by omega)
          cases hb : F.testBit i
          · rw [hb] at p1
            have HO : Hid (OwnU wr w1.heap.size 29 (.slice (some ⟨w1.heap.size, 0, none⟩) ls.length ls.length) (toR ls i (t + 1))) := Lib.hid (by
              rw [← toR_skip (fun h => by
                have := (HR0.out i).2 ⟨by omega, h⟩
                rw [hb] at this; cases this)]
              exact hown)
            clear hb hown hj x0 x1 c3' hW
            go_wp2
            go_roundw
            case rel => exact ⟨t + 1, by omega, by go_num, HO.out, HWr.out⟩
            case measure => simp [intOf]; omega
          · rw [hb] at p1
            have Hput := Lib.hid (toR_put Hgx.out hltt hj (((HR0.out i).1 hb).2) (by omega))
            obtain ⟨g, eg, _, _, _, hfz, hcell⟩ := OwnU.at2 hown (by rw [toR_len]; omega)
            injection eg with eg; injection eg with eg
            subst eg
            have f1 := hfz j
            have c5 := hcell j (by rw [toR_len]; exact hj8)
            rw [toR_get] at c5
            have hy0 : setN (toP ls i t j) < 256 := setN_lt _
            have pi : 2 ^ i < 2 ^ 8 := Nat.pow_lt_pow_right (by decide) (by omega)
            have r1 := pow_u32 i i32
            have r2 := or_u32 (setN (toP ls i t j)) (2 ^ i) (by omega) (by omega)
            rw [Int.natCast_pow, show ((2 : Nat) : Int) = 2 from rfl] at r1 r2
            have Hown' := Lib.hid (OwnU.set_ hown (k := j) (by rw [toR_len]; exact hj8) (setN (toP ls i t j) ||| 2 ^ i))
            rw [Hput.out] at Hown'
            clear hb hown hj x0 x1 c3' hW hfz hcell pi Hput
            generalize setN (toP ls i t j) ||| 2 ^ i = y at *
            generalize setN (toP ls i t j) = z at *
            go_wp2
            go_still_tail 8, (by kernel_rfl)
            go_wp2
            refine ⟨⟨t + 1, by omega, by go_num, Hown'.out.drew, ?_⟩, by simp [intOf]; omega⟩
            exact (HWr.out.setCell (Nat.le_refl _) _).drew
        · have hte : t = l.length := by omega
          subst hte
          have HO : Hid (OwnU wr w1.heap.size 29 (.slice (some ⟨w1.heap.size, 0, none⟩) ls.length ls.length) (toR ls (i + 1) 0)) := Lib.hid (by rw [← toR_next Hgx.out]; exact hown)
          clear hown hW
          go_wp2
          go_roundw
          case rel => exact ⟨i + 1, by omega, by go_num, HO.out, HWr.out⟩
          case measure => simp [intOf]; omega
    · have hie : i = ls.length := by omega
      subst hie
      clear hW
      go_wp2
      go_ret
      exact ⟨_, rfl, Hown.out.base_ hw1, HW.out.trans (HWr.out.mono hw1)⟩
end Go.Proofs.Ytljmignfbagomaa
