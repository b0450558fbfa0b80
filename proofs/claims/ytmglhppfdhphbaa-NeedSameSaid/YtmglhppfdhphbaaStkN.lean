/- StackNeed walked. -/
import Derived.Test.YtmglhppfdhphbaaStkC
import Derived.Test.YtmglhppfdhphbaaNeedD
namespace Go.Proofs.Ytmglhppfdhphbaa
open Go.RowKit

def sumT : List Term := [⟨2, 0, 0, 0⟩, ⟨2, 0, 0, 1⟩, ⟨3, 0, 1, 0⟩]
theorem sumT_ok : needErr 2 sumT = 0 := by
  unfold needErr
  rw [if_neg (by decide), if_pos]
  intro i hi
  match i, hi with
  | 0, _ => exact ⟨fun _ => by decide, fun h => absurd h (by decide)⟩
  | 1, _ => exact ⟨fun _ => by decide, fun h => absurd h (by decide)⟩
  | 2, _ => exact ⟨fun h => absurd h (by decide), fun _ => by decide⟩
theorem sumT_need : tNeed sumT = 2 := by decide
theorem stk_deep {vars : Int} {l : List Term} (h : needErr vars l = 0) : sErr (-1) (laid l (l.length - 1)) = 0 ∧ tNeed l ≤ sMost 0 0 (laid l (l.length - 1)) ∧ sMost 0 0 (laid l (l.length - 1)) ≤ leavesN l ∧ (laid l (l.length - 1)).length = l.length := by
  obtain ⟨ht0, htree⟩ := needErr_ok h
  obtain ⟨hv0, hv6, h1, h16, hok⟩ := tErr_ok ht0
  have hl := laid_len h1 hok htree
  obtain ⟨a1, a2, a3, a4⟩ := laid_run hok (-1) (Or.inr (by decide)) l.length (l.length - 1) (by omega) (by omega) 0 0 (by decide) (by decide)
  obtain ⟨b1, b2, b3⟩ := deep_bd hok l.length (l.length - 1) (by omega) (by omega)
  have hlv := leaves_eq h1 hok htree
  refine ⟨?_, ?_, ?_, hl⟩
  · unfold sErr; rw [if_neg (by omega)]; exact a1
  · rw [a3]; unfold tNeed; omega
  · rw [a3, ← hlv]; omega
set_option maxRecDepth 100000 in
set_option maxHeartbeats 4000000 in
theorem stackNeed_calls (vars : Int) (A : Option Addr) (l : List Term) (cap : Nat) (w : World) (hA : RdT w A l) (hm : l.length ≤ maxLen) :
    Calls Try.prog 9 #[.int .i64 vars, .slice A l.length cap] w fun e w' => e = .returned (.bool true) ∧ Below w.heap.size w w' := by
  have HA := Lib.hid hA
  clear hA
  have HW0 := Lib.hid ((Below.refl w.heap.size w).alloc (Nat.le_refl _) (.cells #[.int .i64 2, .int .i64 0, .int .i64 0, .int .i64 0, .int .i64 2, .int .i64 0, .int .i64 0, .int .i64 1, .int .i64 3, .int .i64 0, .int .i64 1, .int .i64 0] 37))
  have HC0 := Lib.hid (need_ok 2 (some ⟨w.heap.size, 0, none⟩) sumT 3 (w.alloc (.cells #[.int .i64 2, .int .i64 0, .int .i64 0, .int .i64 0, .int .i64 2, .int .i64 0, .int .i64 0, .int .i64 1, .int .i64 3, .int .i64 0, .int .i64 1, .int .i64 0] 37)) (rd_new w sumT _ _ _ rfl (fun k x hx j hj => by
    match k, hx with
    | 0, hx => injection hx with hx; subst hx; match j, hj with | 0, _ => rfl | 1, _ => rfl | 2, _ => rfl | 3, _ => rfl
    | 1, hx => injection hx with hx; subst hx; match j, hj with | 0, _ => rfl | 1, _ => rfl | 2, _ => rfl | 3, _ => rfl
    | 2, hx => injection hx with hx; subst hx; match j, hj with | 0, _ => rfl | 1, _ => rfl | 2, _ => rfl | 3, _ => rfl)) sumT_ok)
  rw [sumT_need] at HC0
  by_cases h0 : needErr vars l = 0
  case neg =>
    have H0 := Lib.hid h0
    have Hd := Lib.hid (decide_eq_false h0)
    have q : (needErr vars l != 0) = true := by rw [bne_iff_ne]; exact h0
    clear h0
    go_enter Try.func9, Try.ntmps9
    go_wp2_with fail
    refine HC0.out.mono ?_
    rintro e w1 ⟨rfl, hW1⟩
    have HW1 := Lib.hid (HW0.out.trans (hW1.mono (by simp)))
    clear hW1 HC0
    go_wp2_with (first
      | (go_at_call 19; refine (need_bad _ _ _ _ _ (Rd.below HA.out HW1.out) hm H0.out).mono ?_; rintro e w2 ⟨rfl, hW⟩; have HW2 := Lib.hid (HW1.out.trans (hW.mono HW1.out.size)); clear hW)
      | (go_at_call 30; refine (stkCode_bad _ _ _ _ _ (Rd.below HA.out HW2.out) hm H0.out).mono ?_; rintro e w3 ⟨rfl, hW⟩; have HW3 := Lib.hid (HW2.out.trans (hW.mono HW2.out.size)); clear hW)
      | (go_at_call 20; refine (treed_calls _ _ _ _ _ (Rd.below HA.out HW3.out) hm).mono ?_; rintro e w4 ⟨rfl, hW⟩; rw [Hd.out]; have HW4 := Lib.hid (HW3.out.trans (hW.mono HW3.out.size)); clear hW))
    go_ret
    exact ⟨rfl, HW4.out⟩
  obtain ⟨d1, d2, d3, d4⟩ := stk_deep h0
  obtain ⟨_, _, hl1, hl16, _⟩ := tErr_ok (needErr_ok h0).1
  have H0 := Lib.hid h0
  have Hd := Lib.hid (decide_eq_true h0)
  have D1 := Lib.hid d1
  have D4 := Lib.hid d4
  clear h0 d1 d4
  go_enter Try.func9, Try.ntmps9
  go_wp2_with fail
  refine HC0.out.mono ?_
  rintro e w1 ⟨rfl, hW1⟩
  have HW1 := Lib.hid (HW0.out.trans (hW1.mono (by simp)))
  clear hW1 HC0
  go_wp2_with (first
    | (go_at_call 19; refine (need_ok _ _ _ _ _ (Rd.below HA.out HW1.out) H0.out).mono ?_; rintro e w2 ⟨rfl, hW⟩; have HW2 := Lib.hid (HW1.out.trans (hW.mono HW1.out.size)); clear hW))
  refine (stkCode_ok vars A l cap _ (Rd.below HA.out HW2.out) H0.out).mono ?_
  rintro e w3 ⟨v3, rfl, hO, hW⟩
  have HW3 := Lib.hid (HW2.out.trans (hW.mono HW2.out.size))
  generalize laid l (l.length - 1) = lc at *
  obtain ⟨A3, c3, rfl, hR3, -⟩ := Own.form sopCells_len hO
  have HR3 := Lib.hid hR3
  have hlc : lc.length ≤ 16 := by rw [D4.out]; exact hl16
  have hw3 := HW3.out.size
  clear hO hW hR3
  have HSm : Hid (sMost 0 0 lc = sMost 0 0 lc) := Lib.hid rfl
  generalize hsm : sMost 0 0 lc = sm at *
  have Hsm := Lib.hid hsm
  clear hsm HSm
  have Hlv := Lib.hid (leaves_calls A l cap)
  generalize leavesN l = m at *
  go_wp2_with (first
    | (go_at_call 20; refine (treed_calls _ _ _ _ _ (Rd.below HA.out HW3.out) hm).mono ?_; rintro e w4 ⟨rfl, hW⟩; rw [Hd.out]; have HW4 := Lib.hid (HW3.out.trans (hW.mono hw3)); have HR4 := Lib.hid (Rd.below HR3.out hW); clear hW)
    | (go_at_call 31; refine (deep_ok _ lc _ _ HR4.out (by unfold maxLen; omega) D1.out).mono ?_; rintro e w5 ⟨rfl, hW⟩; rw [Hsm.out]; have HW5 := Lib.hid (HW4.out.trans (hW.mono HW4.out.size)); clear hW)
    | (go_at_call 21; refine (Hlv.out _ (Rd.below HA.out HW5.out) hl16).mono ?_; rintro e w6 ⟨rfl, hW⟩; have HW6 := Lib.hid (HW5.out.trans (hW.mono HW5.out.size)); clear hW))
  all_goals first
    | (exfalso; omega)
    | (go_ret
       exact ⟨rfl, HW6.out⟩)
end Go.Proofs.Ytmglhppfdhphbaa
