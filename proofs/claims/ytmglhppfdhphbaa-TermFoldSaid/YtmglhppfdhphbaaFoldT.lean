/- TermFold walked. -/
import Derived.Test.YtmglhppfdhphbaaFoldS
import Derived.Test.YtmglhppfdhphbaaTermTwoA
import Derived.Test.YtmglhppfdhphbaaHave
import Derived.Test.YtmglhppfdhphbaaInR
namespace Go.Proofs.Ytmglhppfdhphbaa
open Go.RowKit

theorem fold_bad (vars : Int) (A : Option Addr) (l : List Term) (cap : Nat) (w : World) (hA : RdT w A l) (hm : l.length ≤ maxLen) (h0 : tErr vars l ≠ 0) :
    Calls Try.prog 25 #[.int .i64 vars, .slice A l.length cap] w fun e w' => e = .returned (.tuple #[.slice none 0 0, .int .i64 (tErr vars l)]) ∧ Below w.heap.size w w' := by
  have HA := Lib.hid hA; clear hA
  have hd : (tErr vars l != 0) = true := by rw [bne_iff_ne]; exact h0
  clear h0
  go_enter Try.func25, Try.ntmps25
  go_wp2_with (go_at_call 37; refine (check_calls vars A l cap w HA.out hm).mono ?_; rintro e w1 ⟨rfl, hW⟩; have HW1 := Lib.hid hW; clear hW)
  go_ret2
  exact ⟨rfl, HW1.out⟩

set_option maxRecDepth 100000 in
set_option maxHeartbeats 4000000 in
theorem termFold_calls (vars : Int) (A : Option Addr) (l : List Term) (cap : Nat) (w : World) (hA : RdT w A l) (hm : l.length ≤ maxLen) :
    Calls Try.prog 7 #[.int .i64 vars, .slice A l.length cap] w fun e w' => e = .returned (.bool true) ∧ Below w.heap.size w w' := by
  have HA := Lib.hid hA
  clear hA
  by_cases h0 : tErr vars l = 0
  case neg =>
    have hd : (tErr vars l != 0) = true := by rw [bne_iff_ne]; exact h0
    have hd2 : (tErr vars l == 0) = false := by rw [beq_eq_false_iff_ne]; exact h0
    have H0 := Lib.hid h0
    clear h0
    go_enter Try.func7, Try.ntmps7
    go_wp2_with (first
      | (go_at_call 25; refine (fold_bad vars A l cap w HA.out hm H0.out).mono ?_; rintro e w1 ⟨rfl, hW⟩; have HW1 := Lib.hid hW; clear hW)
      | (go_at_call 26; refine (uses_bad vars A l cap _ (Rd.below HA.out HW1.out) hm H0.out).mono ?_; rintro e w2 ⟨rfl, hW2⟩; have HW2 := Lib.hid (HW1.out.trans (hW2.mono HW1.out.size)); clear hW2)
      | (go_at_call 15; refine (termed_calls _ _ _ _ _ (Rd.below HA.out HW2.out) hm).mono ?_; rintro e w3 ⟨rfl, hW3⟩; rw [hd2]; have HW3 := Lib.hid (HW2.out.trans (hW3.mono HW2.out.size)); clear hW3))
    go_ret
    exact ⟨rfl, HW3.out⟩
  have H0 := Lib.hid h0
  have hd2 : (tErr vars l == 0) = true := by rw [beq_iff_eq]; exact h0
  obtain ⟨hv0, hv6, hl1, hl16, hok⟩ := tErr_ok h0
  obtain ⟨hm1, hm2⟩ := folded_len hok hl1
  have Ha0 := Lib.hid (tErr_of hv0 hv6 hm1 (by omega) (folded_ok hok hl1))
  have Htw := Lib.hid (folded_twice hok hl1)
  have Hus := Lib.hid ((in_iff _ _).2 (folded_uses hok hl1))
  have Hnum := Lib.hid (folded_num hok hv6 hl1)
  have u8 := uW_lt (l := l) l.length
  have v8 := uW_lt (l := foldedL l) (foldedL l).length
  clear h0 hok
  have Huw : Hid (uW l l.length = uW l l.length) := Lib.hid rfl
  generalize hU : uW l l.length = U at *
  have HU := Lib.hid hU
  clear hU Huw
  go_enter Try.func7, Try.ntmps7
  go_wp2_with fail
  refine (fold_ok vars A l cap w HA.out H0.out).mono ?_
  rintro e w1 ⟨v1, rfl, hown1, hW1⟩
  obtain ⟨A1, c1, rfl, hR1⟩ := OwnT.rd hown1
  have HR1 := Lib.hid hR1
  have HW1 := Lib.hid hW1
  have hw1 := hW1.size
  clear hown1 hR1 hW1
  generalize foldedL l = la at *
  generalize hV : uW la la.length = V at *
  have HV := Lib.hid hV
  clear hV
  have Hus2 := Hus.out
  have q0 : (la.length == 1) = decide (la.length = 1) := by rw [Bool.eq_iff_iff, beq_iff_eq, decide_eq_true_eq]
  by_cases hU0 : U = 0
  · obtain ⟨hn1, hn2⟩ := Hnum.out hU0
    obtain ⟨b1, off1, rfl, hb1, c0, -⟩ := RdT.at4 HR1.out (k := 0) (by omega)
    rw [getD_idx (by omega : 0 < la.length), hn2, Nat.zero_mul, Nat.add_zero] at c0
    have HC := Lib.hid c0
    have Hn1 := Lib.hid hn1
    have qU : (((U : Nat) : Int) != 0) = false := by rw [hU0]; rfl
    have q1 : (((la.length : Nat) : Int) == 1) = true := by rw [hn1]; rfl
    have q2 : (0 : Int) < ((la.length : Nat) : Int) := by omega
    clear c0 hn1 hn2 hU0
    go_wp2_with (first
      | (go_at_call 26; with_reducible refine (uses_ok vars A l cap w1 (Rd.below HA.out HW1.out) H0.out).mono ?_; rintro e w2 ⟨rfl, hW2⟩; rw [HU.out]; have HW2 := Lib.hid (HW1.out.trans (hW2.mono hw1)); have HR2 := Lib.hid (Rd.below HR1.out hW2); have HB2 := Lib.hid hW2; have hw2 := HW2.out.size; clear hW2)
      | (go_at_call 15; refine (termed_calls _ _ _ _ _ (Rd.below HA.out HW2.out) hm).mono ?_; rintro e w3 ⟨rfl, hW3⟩; rw [hd2]; have HR3 := Lib.hid (Rd.below HR2.out hW3); have HW3 := Lib.hid (HW2.out.trans (hW3.mono hw2)); have HB3 := Lib.hid (HB2.out.trans (hW3.mono HB2.out.size)); have hw3 := HW3.out.size; clear hW3)
      | (go_at_call 25; refine (fold_ok vars _ la c1 w3 HR3.out Ha0.out).mono ?_
         rintro e w4 ⟨v4, rfl, hown4, hW4⟩
         rw [Htw.out] at hown4
         obtain ⟨A4, c4, rfl, -⟩ := OwnT.rd hown4
         have HR4 := Lib.hid (Rd.below HR3.out hW4)
         have HW4 := Lib.hid (HW3.out.trans (hW4.mono hw3))
         have HB4 := Lib.hid (HB3.out.trans (hW4.mono HB3.out.size))
         have hw4 := HW4.out.size
         clear hown4 hW4)
      | (go_at_call 26; refine (uses_ok vars _ la c1 _ HR4.out Ha0.out).mono ?_; rintro e w5 ⟨rfl, hW5⟩; rw [HV.out]; have HW5 := Lib.hid (HW4.out.trans (hW5.mono hw4)); have HB5 := Lib.hid (HB4.out.trans (hW5.mono HB4.out.size)); have c9 := (HB5.out.cell (p := ⟨b1, off1, none⟩) hb1).trans HC.out; clear hW5)
      | (go_at_call 27; refine (in_calls V U _ (by omega) (by omega)).mono ?_; rintro e w6 ⟨rfl, rfl⟩; rw [Hus2]))
    go_ret
    exact ⟨rfl, by first | exact HW5.out | assumption⟩
  · have qU : (((U : Nat) : Int) != 0) = true := by rw [bne_iff_ne]; omega
    clear hU0
    go_wp2_with (first
      | (go_at_call 26; with_reducible refine (uses_ok vars A l cap w1 (Rd.below HA.out HW1.out) H0.out).mono ?_; rintro e w2 ⟨rfl, hW2⟩; rw [HU.out]; have HW2 := Lib.hid (HW1.out.trans (hW2.mono hw1)); have HR2 := Lib.hid (Rd.below HR1.out hW2); have hw2 := HW2.out.size; clear hW2)
      | (go_at_call 15; refine (termed_calls _ _ _ _ _ (Rd.below HA.out HW2.out) hm).mono ?_; rintro e w3 ⟨rfl, hW3⟩; rw [hd2]; have HR3 := Lib.hid (Rd.below HR2.out hW3); have HW3 := Lib.hid (HW2.out.trans (hW3.mono hw2)); have hw3 := HW3.out.size; clear hW3)
      | (go_at_call 25; refine (fold_ok vars _ la c1 w3 HR3.out Ha0.out).mono ?_
         rintro e w4 ⟨v4, rfl, hown4, hW4⟩
         rw [Htw.out] at hown4
         obtain ⟨A4, c4, rfl, -⟩ := OwnT.rd hown4
         have HR4 := Lib.hid (Rd.below HR3.out hW4)
         have HW4 := Lib.hid (HW3.out.trans (hW4.mono hw3))
         have hw4 := HW4.out.size
         clear hown4 hW4)
      | (go_at_call 26; refine (uses_ok vars _ la c1 _ HR4.out Ha0.out).mono ?_; rintro e w5 ⟨rfl, hW5⟩; rw [HV.out]; have HW5 := Lib.hid (HW4.out.trans (hW5.mono hw4)); clear hW5)
      | (go_at_call 27; refine (in_calls V U _ (by omega) (by omega)).mono ?_; rintro e w6 ⟨rfl, rfl⟩; rw [Hus2]))
    go_ret
    exact ⟨rfl, by first | exact HW5.out | assumption⟩
end Go.Proofs.Ytmglhppfdhphbaa
