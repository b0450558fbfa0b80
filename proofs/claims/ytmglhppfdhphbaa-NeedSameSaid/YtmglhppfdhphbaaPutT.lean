/- NeedSame walked. -/
import Derived.Test.YtmglhppfdhphbaaPutS
import Derived.Test.YtmglhppfdhphbaaPutN
import Derived.Test.YtmglhppfdhphbaaStkS
namespace Go.Proofs.Ytmglhppfdhphbaa
open Go.RowKit

theorem need_same {vars : Int} {l : List Term} {hv : List Int} (h : needErr vars l = 0) : (rgR hv (List.replicate 8 0) (putT l (l.length - 1) 0)).getD 0 0 = tVal hv l ∧ (rgR hv (List.replicate 8 0) (putT l (l.length - 1) 0)).length = 8 ∧ (putT l (l.length - 1) 0).length = l.length ∧ (∀ s ∈ putT l (l.length - 1) 0, StOk vars 8 s) ∧ tNeed l ≤ 8 := by
  obtain ⟨n, hn, _, hn4, _⟩ := ershov h
  obtain ⟨ht0, htree⟩ := needErr_ok h
  obtain ⟨hv0, hv6, h1, h16, hok⟩ := tErr_ok ht0
  have hk : ndT l (l.length - 1) ≤ 8 := by show tNeed l ≤ 8; omega
  obtain ⟨a1, a2, _, _⟩ := put_run (hv := hv) hok l.length (l.length - 1) (by omega) (by omega) 0 (List.replicate 8 0) (by simp; omega)
  refine ⟨a2, by rw [a1]; simp, (putT_len hok l.length (l.length - 1) 0 (by omega) (by omega)).trans (laid_len h1 hok htree), put_ok hok l.length (l.length - 1) (by omega) (by omega) 0 8 (by omega), by omega⟩
/-- need.Code, whatever comes of right terms. -/
theorem needCode_8 (vars : Int) (A : Option Addr) (l : List Term) (cap : Nat) (w : World) (hA : RdT w A l) (h0 : needErr vars l = 0) :
    Calls Try.prog 24 #[.int .i64 vars, .slice A l.length cap, .int .i64 8] w fun e w' => ∃ v, e = .returned (.tuple #[v, .int .i64 0]) ∧ OwnSt w' w.heap.size 44 v (putT l (l.length - 1) 0) ∧ Below w.heap.size w w' :=
  needCode_ok vars 8 A l cap w hA h0 (by decide) (by decide) (need_same (hv := []) h0).2.2.2.2
set_option maxRecDepth 100000 in
set_option maxHeartbeats 4000000 in
theorem needSame_calls (vars : Int) (A B : Option Addr) (l : List Term) (hv : List Int) (capA capB : Nat) (w : World) (hA : RdT w A l) (hB : RdI w B hv) (hm : l.length ≤ maxLen) (hm' : hv.length ≤ maxLen) :
    Calls Try.prog 12 #[.int .i64 vars, .slice A l.length capA, .slice B hv.length capB] w fun e w' => e = .returned (.bool true) ∧ Below w.heap.size w w' := by
  have HA := Lib.hid hA
  have HB := Lib.hid hB
  clear hA hB
  by_cases h0 : needErr vars l = 0
  case neg =>
    have H0 := Lib.hid h0
    have Hd := Lib.hid (decide_eq_false h0)
    clear h0
    go_enter Try.func12, Try.ntmps12
    go_wp2_with fail
    refine (needCode_bad vars 8 A l capA _ HA.out hm H0.out).mono ?_
    rintro e w1 ⟨⟨e1, he1, rfl⟩, hW⟩
    have HW1 := Lib.hid hW
    have q : (e1 != 0) = true := by rw [bne_iff_ne]; exact he1
    clear hW he1
    go_wp2_with (first
      | (go_at_call 22; refine (value_any _ _ _ _ _ _ _ _ (Rd.below HA.out HW1.out) (Rd.below HB.out HW1.out) hm hm').mono ?_; rintro e w2 ⟨⟨x, f, rfl⟩, hW⟩; have HW2 := Lib.hid (HW1.out.trans (hW.mono HW1.out.size)); clear hW)
      | (go_at_call 20; refine (treed_calls _ _ _ _ _ (Rd.below HA.out HW2.out) hm).mono ?_; rintro e w4 ⟨rfl, hW⟩; rw [Hd.out]; have HW4 := Lib.hid (HW2.out.trans (hW.mono HW2.out.size)); clear hW))
    go_ret
    exact ⟨rfl, HW4.out⟩
  have H0 := Lib.hid h0
  have Hd := Lib.hid (decide_eq_true h0)
  obtain ⟨d1, d2, d3, d4, d5⟩ := need_same (hv := hv) h0
  have Ht := Lib.hid (needErr_ok h0).1
  obtain ⟨hv0, hv6, hl1, hl16, _⟩ := tErr_ok (needErr_ok h0).1
  have D1 := Lib.hid d1
  have D2 := Lib.hid d2
  have D3 := Lib.hid d3
  have D4 := Lib.hid d4
  clear h0 d1 d2 d3 d4 d5
  by_cases h1 : haveErr vars hv = 0
  case neg =>
    have H1 := Lib.hid h1
    have q : (haveErr vars hv != 0) = true := by rw [bne_iff_ne]; exact h1
    have q5 : (haveErr vars hv == 0) = false := by rw [beq_eq_false_iff_ne]; exact h1
    clear h1
    go_enter Try.func12, Try.ntmps12
    go_wp2_with (first
      | (go_at_call 24; refine (needCode_8 _ _ _ _ _ HA.out H0.out).mono ?_; rintro e w1 ⟨v1, rfl, _, hW⟩; have HW1 := Lib.hid hW; clear hW)
      | (go_at_call 22; refine (value_bad2 _ _ _ _ _ _ _ _ (Rd.below HA.out HW1.out) (Rd.below HB.out HW1.out) hm hm' Ht.out H1.out).mono ?_; rintro e w2 ⟨rfl, hW⟩; have HW2 := Lib.hid (HW1.out.trans (hW.mono HW1.out.size)); clear hW)
      | (go_at_call 20; refine (treed_calls _ _ _ _ _ (Rd.below HA.out HW2.out) hm).mono ?_; rintro e w4 ⟨rfl, hW⟩; rw [Hd.out]; have HW4 := Lib.hid (HW2.out.trans (hW.mono HW2.out.size)); clear hW)
      | (go_at_call 17; refine (given_calls _ _ _ _ _ (Rd.below HB.out HW4.out) hm').mono ?_; rintro e w7 ⟨rfl, rfl⟩; rw [q5]))
    go_ret
    exact ⟨rfl, HW4.out⟩
  have H1 := Lib.hid h1
  have q5 : (haveErr vars hv == 0) = true := by rw [beq_iff_eq]; exact h1
  clear h1
  go_enter Try.func12, Try.ntmps12
  go_wp2_with fail
  refine (needCode_8 vars A l capA _ HA.out H0.out).mono ?_
  rintro e w1 ⟨v1, rfl, hO, hW⟩
  have HW1 := Lib.hid hW
  generalize putT l (l.length - 1) 0 = lc at *
  obtain ⟨A3, c3, rfl, hR3, -⟩ := Own.form stepCells_len hO
  have HR3 := Lib.hid hR3
  clear hO hW hR3
  go_wp2_with (first
    | (go_at_call 22; refine (value_ok vars A B l hv capA capB w1 (Rd.below HA.out HW1.out) (Rd.below HB.out HW1.out) Ht.out H1.out).mono ?_; rintro e w2 ⟨rfl, hW⟩; have HW2 := Lib.hid (HW1.out.trans (hW.mono HW1.out.size)); have HR4 := Lib.hid (Rd.below HR3.out hW); clear hW)
    | (go_at_call 20; refine (treed_calls _ _ _ _ _ (Rd.below HA.out HW2.out) hm).mono ?_; rintro e w4 ⟨rfl, hW⟩; rw [Hd.out]; have HW4 := Lib.hid (HW2.out.trans (hW.mono HW2.out.size)); have HR5 := Lib.hid (Rd.below HR4.out hW); clear hW)
    | (go_at_call 17; refine (given_calls _ _ _ _ _ (Rd.below HB.out HW4.out) hm').mono ?_; rintro e w7 ⟨rfl, rfl⟩; rw [q5]))
  refine (needRun_ok vars 8 A3 B lc hv c3 capB _ HR5.out (Rd.below HB.out HW4.out) hv0 hv6 (by decide) (by decide) (by rw [D3.out]; omega) D4.out H1.out).mono ?_
  rintro e w8 ⟨v8, rfl, hO, hW⟩
  have HW8 := Lib.hid (HW4.out.trans (hW.mono HW4.out.size))
  obtain ⟨g, c8, rfl, _, _, _, _, hcell⟩ := OwnI.at_ hO (by rw [D2.out]; decide)
  have cc : w8.cell? ⟨g, 0, none⟩ = some (.int .i64 (tVal hv l)) := by
    rw [hcell 0 (by rw [D2.out]; decide), ← D1.out, List.getD_eq_getElem?_getD, List.getElem?_eq_getElem (by rw [D2.out]; decide)]; rfl
  rw [D2.out]
  clear hO hW hcell
  generalize tVal hv l = x at *
  go_wp2
  go_ret
  exact ⟨rfl, HW8.out⟩
end Go.Proofs.Ytmglhppfdhphbaa
