/- ValueLeast walked. -/
import Derived.Test.YtmglhppfdhphbaaValM
import Derived.Test.YtmglhppfdhphbaaValS
import Derived.Test.YtmglhppfdhphbaaHave
import Derived.Test.YtmglhppfdhphbaaTermTwoA
import Derived.Test.YtmglhppfdhphbaaTermsR
namespace Go.Proofs.Ytmglhppfdhphbaa
open Go.RowKit

set_option maxRecDepth 100000 in
set_option maxHeartbeats 8000000 in
theorem valueLeast_calls (vars : Int) (A B : Option Addr) (l : List Term) (hv : List Int) (capA capB : Nat) (w : World) (hA : RdT w A l) (hB : RdI w B hv) (hm : l.length ≤ maxLen) (hm' : hv.length ≤ maxLen) :
    Calls Try.prog 10 #[.int .i64 vars, .slice A l.length capA, .slice B hv.length capB] w fun e w' => e = .returned (.bool true) ∧ Below w.heap.size w w' := by
  have HA := Lib.hid hA
  have HB := Lib.hid hB
  clear hA hB
  by_cases h0 : tErr vars l = 0
  case neg =>
    have hd : (tErr vars l != 0) = true := by rw [bne_iff_ne]; exact h0
    have hd2 : (tErr vars l == 0) = false := by rw [beq_eq_false_iff_ne]; exact h0
    have H0 := Lib.hid h0
    clear h0
    go_enter Try.func10, Try.ntmps10
    go_wp2_with (first
      | (go_at_call 32; refine (leastT_bad vars A l capA w HA.out hm H0.out).mono ?_; rintro e w1 ⟨rfl, hW⟩; have HW1 := Lib.hid hW; clear hW)
      | (go_at_call 15; refine (termed_calls _ _ _ _ _ (Rd.below HA.out HW1.out) hm).mono ?_; rintro e w2 ⟨rfl, hW2⟩; rw [hd2]; have HW2 := Lib.hid (HW1.out.trans (hW2.mono HW1.out.size)); clear hW2))
    go_ret
    exact ⟨rfl, HW2.out⟩
  obtain ⟨hv0, hv6, hl1, hl16, hok⟩ := tErr_ok h0
  have Hok := Lib.hid hok
  have H0 := Lib.hid h0
  have hd2 : (tErr vars l == 0) = true := by rw [beq_iff_eq]; exact h0
  obtain ⟨hm1, hm2⟩ := least_len1 hok hl1
  have Hok' := Lib.hid (least_ok hok hl1)
  have Ha0 := Lib.hid (tErr_of hv0 hv6 hm1 (by omega) (least_ok hok hl1))
  have Hid := Lib.hid (least_idem hok hl1)
  have Hown := Lib.hid ((least_own hok hl1 _ (Nat.le_refl _)).1)
  have Hval := Lib.hid (least_tVal hok hl1 hv)
  clear h0 hok
  go_enter Try.func10, Try.ntmps10
  go_wp2_with fail
  refine (leastT_calls vars A l capA w HA.out H0.out hl1 hl16 hv6 Hok.out).mono ?_
  rintro e w1 ⟨v1, rfl, hown1, hW1⟩
  obtain ⟨A1, c1, rfl, hR1⟩ := OwnT.rd hown1
  have HR1 := Lib.hid hR1
  have HW1 := Lib.hid hW1
  have hw1 := hW1.size
  clear hown1 hR1 hW1
  generalize leastL l = la at *
  have q3 : decide (l.length < la.length) = false := decide_eq_false (by omega)
  have q3' : decide ((l.length : Int) < (la.length : Int)) = false := decide_eq_false (by omega)
  go_wp2_with (first
    | (go_at_call 15; refine (termed_calls _ _ _ _ _ (Rd.below HA.out HW1.out) hm).mono ?_; rintro e w2 ⟨rfl, hW2⟩; rw [hd2]; have HW2 := Lib.hid (HW1.out.trans (hW2.mono hw1)); have HR2 := Lib.hid (Rd.below HR1.out hW2); have hw2 := HW2.out.size; clear hW2)
    | (go_at_call 32; refine (leastT_calls vars A1 la c1 w2 HR2.out Ha0.out hm1 (by omega) hv6 Hok'.out).mono ?_
       rintro e w3 ⟨v3, rfl, hown3, hW3⟩
       rw [Hid.out] at hown3
       obtain ⟨A3, c3, rfl, hR3⟩ := OwnT.rd hown3
       have HR3 := Lib.hid hR3
       have HW3 := Lib.hid (HW2.out.trans (hW3.mono hw2))
       have HR13 := Lib.hid (Rd.below HR2.out hW3)
       have hw3 := HW3.out.size
       clear hown3 hR3 hW3)
    | (go_at_call 33; refine (terms_same A1 A3 la c1 c3 w3 HR13.out HR3.out (by omega)).mono ?_; rintro e w4 ⟨rfl, nq4, hw4⟩; have HW4 := Lib.hid (show Below w.heap.size w w4 by rw [hw4]; exact below_dN HW3.out nq4); have HR4 := Lib.hid (show RdT w4 A1 la by rw [hw4]; exact HR13.out); clear hw4))
  have hw4 := HW4.out.size
  clear q3 q3'
  go_loopw [11] (fun i wr => ∃ k : Nat, k ≤ la.length ∧ i = .int .i64 k ∧ Below w4.heap.size w4 wr) (fun i _ => la.length - (intOf i).toNat)
  case atStart => exact ⟨0, Nat.zero_le _, rfl, Below.refl _ _⟩
  case round =>
    obtain ⟨i, hi, rfl, hW⟩ := hrel
    have HW := Lib.hid hW
    by_cases hlt : i < la.length
    · clear hW
      go_wp2
      go_loopw [12] (fun j wr => ∃ k : Nat, k ≤ i ∧ j = .int .i64 k ∧ Below w4.heap.size w4 wr) (fun j _ => i - (intOf j).toNat)
      case atStart => exact ⟨0, Nat.zero_le _, rfl, HW.out⟩
      case round =>
        clear HW
        obtain ⟨j, hj, rfl, hW⟩ := hrel
        have HW := Lib.hid hW
        by_cases hltj : j < i
        · have Hsm := Lib.hid (same_ok vars i j A1 la c1 wr (Rd.below HR4.out hW) Ha0.out hlt (by omega))
          rw [Hown.out i hlt, Hown.out j (by omega), decide_eq_false (show ¬ ((i : Nat) : Int) = ((j : Nat) : Int) by omega)] at Hsm
          have hws := hW.size
          clear hW
          go_wp2_with (go_at_call 14; refine Hsm.out.mono ?_; rintro e w5 ⟨rfl, hW5⟩; have HW5 := Lib.hid (HW.out.trans (hW5.mono hws)); clear hW5)
          go_roundw
          case rel => exact ⟨j + 1, by omega, by go_num, HW5.out⟩
          case measure => simp [intOf]; omega
        · clear hW
          go_wp2
          go_roundw
          case rel => exact ⟨i + 1, by omega, by go_num, HW.out⟩
          case measure => simp [intOf]; omega
    · clear hW
      have HWz := Lib.hid (HW4.out.trans (HW.out.mono hw4))
      have HAz := Lib.hid (Rd.below HA.out HWz.out)
      have HBz := Lib.hid (Rd.below HB.out HWz.out)
      have HRz := Lib.hid (Rd.below HR4.out HW.out)
      have hwz := HWz.out.size
      by_cases hg : haveErr vars hv = 0
      · have Hg := Lib.hid hg
        have q5 : (haveErr vars hv == 0) = true := by rw [beq_iff_eq]; exact hg
        have Hv1 := Lib.hid (value_ok vars A B l hv capA capB wr HAz.out HBz.out H0.out hg)
        clear hg
        go_wp2_with (first
          | (go_at_call 17; refine (given_calls _ _ _ _ _ HBz.out hm').mono ?_; rintro e w7 ⟨rfl, rfl⟩; rw [q5])
          | (go_at_call 22; with_reducible refine Hv1.out.mono ?_; rintro e w8 ⟨rfl, hW8⟩; have HW8 := Lib.hid (HWz.out.trans (hW8.mono hwz)); have HR8 := Lib.hid (Rd.below HRz.out hW8); have hw8 := HW8.out.size; clear hW8)
          | (go_at_call 22; refine (value_ok vars A1 B la hv c1 capB w8 HR8.out (Rd.below HB.out HW8.out) Ha0.out Hg.out).mono ?_; rintro e w9 ⟨rfl, hW9⟩; rw [Hval.out]; have HW9 := Lib.hid (HW8.out.trans (hW9.mono hw8)); clear hW9))
        go_ret
        exact ⟨ret_bool (by simp), HW9.out⟩
      · have q5 : (haveErr vars hv == 0) = false := by rw [beq_eq_false_iff_ne]; exact hg
        clear hg
        go_wp2_with (go_at_call 17; refine (given_calls _ _ _ _ _ HBz.out hm').mono ?_; rintro e w7 ⟨rfl, rfl⟩; rw [q5])
        go_ret
        exact ⟨rfl, HWz.out⟩
end Go.Proofs.Ytmglhppfdhphbaa
