/- StackSame walked. -/
import Derived.Test.YtmglhppfdhphbaaStkR
import Derived.Test.YtmglhppfdhphbaaStkN
namespace Go.Proofs.Ytmglhppfdhphbaa
open Go.RowKit

/-- term.Value, whatever comes. -/
theorem value_any (vars : Int) (A B : Option Addr) (l : List Term) (hv : List Int) (capA capB : Nat) (w : World) (hA : RdT w A l) (hB : RdI w B hv) (hm : l.length ≤ maxLen) (hm' : hv.length ≤ maxLen) :
    Calls Try.prog 22 #[.int .i64 vars, .slice A l.length capA, .slice B hv.length capB] w fun e w' => (∃ x f : Int, e = .returned (.tuple #[.int .i64 x, .int .i64 f])) ∧ Below w.heap.size w w' := by
  by_cases h0 : tErr vars l = 0
  · by_cases h1 : haveErr vars hv = 0
    · exact (value_ok vars A B l hv capA capB w hA hB h0 h1).mono fun e w' h => ⟨⟨_, _, h.1⟩, h.2⟩
    · exact (value_bad2 vars A B l hv capA capB w hA hB hm hm' h0 h1).mono fun e w' h => ⟨⟨_, _, h.1⟩, h.2⟩
  · exact (value_bad1 vars A B l hv capA capB w hA hm h0).mono fun e w' h => ⟨⟨_, _, h.1⟩, h.2⟩
theorem stk_same {vars : Int} {l : List Term} {hv : List Int} (h : needErr vars l = 0) : sErr vars (laid l (l.length - 1)) = 0 ∧ stkR hv [] (laid l (l.length - 1)) = [tVal hv l] ∧ (laid l (l.length - 1)).length = l.length := by
  obtain ⟨ht0, htree⟩ := needErr_ok h
  obtain ⟨hv0, hv6, h1, h16, hok⟩ := tErr_ok ht0
  have hl := laid_len h1 hok htree
  obtain ⟨a1, _⟩ := laid_run hok vars (Or.inl rfl) l.length (l.length - 1) (by omega) (by omega) 0 0 (by decide) (by decide)
  refine ⟨?_, ?_, hl⟩
  · unfold sErr; rw [if_neg (by omega)]; exact a1
  · rw [laid_val hok l.length (l.length - 1) (by omega) (by omega)]; rfl
set_option maxRecDepth 100000 in
set_option maxHeartbeats 4000000 in
theorem stackSame_calls (vars : Int) (A B : Option Addr) (l : List Term) (hv : List Int) (capA capB : Nat) (w : World) (hA : RdT w A l) (hB : RdI w B hv) (hm : l.length ≤ maxLen) (hm' : hv.length ≤ maxLen) :
    Calls Try.prog 13 #[.int .i64 vars, .slice A l.length capA, .slice B hv.length capB] w fun e w' => e = .returned (.bool true) ∧ Below w.heap.size w w' := by
  have HA := Lib.hid hA
  have HB := Lib.hid hB
  clear hA hB
  by_cases h0 : needErr vars l = 0
  case neg =>
    have H0 := Lib.hid h0
    have Hd := Lib.hid (decide_eq_false h0)
    have q : (needErr vars l != 0) = true := by rw [bne_iff_ne]; exact h0
    clear h0
    go_enter Try.func13, Try.ntmps13
    go_wp2_with (first
      | (go_at_call 30; refine (stkCode_bad _ _ _ _ _ HA.out hm H0.out).mono ?_; rintro e w1 ⟨rfl, hW⟩; have HW1 := Lib.hid hW; clear hW)
      | (go_at_call 22; refine (value_any _ _ _ _ _ _ _ _ (Rd.below HA.out HW1.out) (Rd.below HB.out HW1.out) hm hm').mono ?_; rintro e w2 ⟨⟨x, f, rfl⟩, hW⟩; have HW2 := Lib.hid (HW1.out.trans (hW.mono HW1.out.size)); clear hW)
      | (go_at_call 20; refine (treed_calls _ _ _ _ _ (Rd.below HA.out HW2.out) hm).mono ?_; rintro e w4 ⟨rfl, hW⟩; rw [Hd.out]; have HW4 := Lib.hid (HW2.out.trans (hW.mono HW2.out.size)); clear hW))
    go_ret
    exact ⟨rfl, HW4.out⟩
  have H0 := Lib.hid h0
  have Hd := Lib.hid (decide_eq_true h0)
  obtain ⟨d1, d2, d4⟩ := stk_same (hv := hv) h0
  have Ht := Lib.hid (needErr_ok h0).1
  obtain ⟨hv0, hv6, hl1, hl16, _⟩ := tErr_ok (needErr_ok h0).1
  have D1 := Lib.hid d1
  have D2 := Lib.hid d2
  have D4 := Lib.hid d4
  clear h0 d1 d2 d4
  by_cases h1 : haveErr vars hv = 0
  case neg =>
    have H1 := Lib.hid h1
    have q : (haveErr vars hv != 0) = true := by rw [bne_iff_ne]; exact h1
    have q5 : (haveErr vars hv == 0) = false := by rw [beq_eq_false_iff_ne]; exact h1
    clear h1
    go_enter Try.func13, Try.ntmps13
    go_wp2_with (first
      | (go_at_call 30; refine (stkCode_ok _ _ _ _ _ HA.out H0.out).mono ?_; rintro e w1 ⟨v1, rfl, _, hW⟩; have HW1 := Lib.hid hW; clear hW)
      | (go_at_call 22; refine (value_bad2 _ _ _ _ _ _ _ _ (Rd.below HA.out HW1.out) (Rd.below HB.out HW1.out) hm hm' Ht.out H1.out).mono ?_; rintro e w2 ⟨rfl, hW⟩; have HW2 := Lib.hid (HW1.out.trans (hW.mono HW1.out.size)); clear hW)
      | (go_at_call 20; refine (treed_calls _ _ _ _ _ (Rd.below HA.out HW2.out) hm).mono ?_; rintro e w4 ⟨rfl, hW⟩; rw [Hd.out]; have HW4 := Lib.hid (HW2.out.trans (hW.mono HW2.out.size)); clear hW)
      | (go_at_call 17; refine (given_calls _ _ _ _ _ (Rd.below HB.out HW4.out) hm').mono ?_; rintro e w7 ⟨rfl, rfl⟩; rw [q5]))
    go_ret
    exact ⟨rfl, HW4.out⟩
  have H1 := Lib.hid h1
  have q5 : (haveErr vars hv == 0) = true := by rw [beq_iff_eq]; exact h1
  clear h1
  go_enter Try.func13, Try.ntmps13
  go_wp2_with fail
  refine (stkCode_ok vars A l capA _ HA.out H0.out).mono ?_
  rintro e w1 ⟨v1, rfl, hO, hW⟩
  have HW1 := Lib.hid hW
  generalize laid l (l.length - 1) = lc at *
  obtain ⟨A3, c3, rfl, hR3, -⟩ := Own.form sopCells_len hO
  have HR3 := Lib.hid hR3
  clear hO hW hR3
  go_wp2_with (first
    | (go_at_call 22; refine (value_ok vars A B l hv capA capB w1 (Rd.below HA.out HW1.out) (Rd.below HB.out HW1.out) Ht.out H1.out).mono ?_; rintro e w2 ⟨rfl, hW⟩; have HW2 := Lib.hid (HW1.out.trans (hW.mono HW1.out.size)); have HR4 := Lib.hid (Rd.below HR3.out hW); clear hW)
    | (go_at_call 20; refine (treed_calls _ _ _ _ _ (Rd.below HA.out HW2.out) hm).mono ?_; rintro e w4 ⟨rfl, hW⟩; rw [Hd.out]; have HW4 := Lib.hid (HW2.out.trans (hW.mono HW2.out.size)); have HR5 := Lib.hid (Rd.below HR4.out hW); clear hW)
    | (go_at_call 17; refine (given_calls _ _ _ _ _ (Rd.below HB.out HW4.out) hm').mono ?_; rintro e w7 ⟨rfl, rfl⟩; rw [q5]))
  refine (stkRun_ok vars A3 B lc hv c3 capB _ HR5.out (Rd.below HB.out HW4.out) hv0 D1.out H1.out).mono ?_
  rintro e w8 ⟨v8, rfl, hO, hW⟩
  rw [D2.out] at hO
  have HW8 := Lib.hid (HW4.out.trans (hW.mono HW4.out.size))
  obtain ⟨g, c8, rfl, _, _, _, _, hcell⟩ := OwnI.at_ hO (Nat.zero_lt_one)
  have cc : w8.cell? ⟨g, 0, none⟩ = some (.int .i64 (tVal hv l)) := hcell 0 (Nat.zero_lt_one)
  clear hO hW hcell
  generalize tVal hv l = x at *
  go_wp2
  go_ret
  exact ⟨rfl, HW8.out⟩
end Go.Proofs.Ytmglhppfdhphbaa
