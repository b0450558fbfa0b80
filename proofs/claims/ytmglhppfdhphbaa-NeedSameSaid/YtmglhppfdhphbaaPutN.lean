/- need.Code, NeedJust walked. -/
import Derived.Test.YtmglhppfdhphbaaPutC
import Derived.Test.YtmglhppfdhphbaaNeedD
namespace Go.Proofs.Ytmglhppfdhphbaa
open Go.RowKit

set_option maxRecDepth 100000 in
set_option maxHeartbeats 4000000 in
theorem needCode_ok (vars regs : Int) (A : Option Addr) (l : List Term) (cap : Nat) (w : World) (hA : RdT w A l) (h0 : needErr vars l = 0) (hr1 : 1 ≤ regs) (hr8 : regs ≤ 8) (hk : tNeed l ≤ regs) :
    Calls Try.prog 24 #[.int .i64 vars, .slice A l.length cap, .int .i64 regs] w fun e w' => ∃ v, e = .returned (.tuple #[v, .int .i64 0]) ∧ OwnSt w' w.heap.size 44 v (putT l (l.length - 1) 0) ∧ Below w.heap.size w w' := by
  obtain ⟨ht0, htree⟩ := needErr_ok h0
  obtain ⟨hv0, hv6, h1, h16, hok⟩ := tErr_ok ht0
  have Hlen := Lib.hid ((putT_len hok l.length (l.length - 1) 0 (by omega) (by omega)).trans (laid_len h1 hok htree))
  have HA := Lib.hid hA
  have H0 := Lib.hid h0
  have Ht := Lib.hid ht0
  have Hok := Lib.hid hok
  have hnl := accTo_len need1 (l := l) (Nat.le_refl _)
  have hkk := (getD_get (l := accTo need1 l l.length) (i := l.length - 1) (by omega)).symm
  clear hA h0 ht0 htree hok
  go_enter Try.func24, Try.ntmps24
  go_wp2_with (go_at_call 41; refine (needWrong_calls _ _ _ _ _ HA.out (by unfold maxLen; omega)).mono ?_; rintro e w1 ⟨rfl, hW⟩; rw [H0.out]; have HW := Lib.hid hW; clear hW)
  all_goals (try (exfalso; omega))
  refine (needs_calls vars A l cap w1 (Rd.below HA.out HW.out) Ht.out).mono ?_
  rintro e w2 ⟨v, rfl, hown, hW2⟩
  have HW2 := Lib.hid (HW.out.trans (hW2.mono HW.out.size))
  obtain ⟨g, cn, rfl, hg1, hg2, _, _, hcell⟩ := OwnI.at_ hown (by omega)
  have hRN := OwnI.rd hown
  obtain ⟨AN, cN, eN, hRN⟩ := hRN
  rw [hnl] at eN ⊢
  injection eN with e1 _ e3
  subst e1 e3
  have HRN := Lib.hid hRN
  have c0 : w2.cell? ⟨g, l.length - 1, none⟩ = some (.int .i64 (tNeed l)) := by
    have h := hcell (l.length - 1) (by omega)
    rw [hkk] at h
    exact h
  have q2 : ((l.length : Nat) : Int) - 1 = ((l.length - 1 : Nat) : Int) := by omega
  have q3 : ((l.length - 1 : Nat) : Int) < ((l.length : Nat) : Int) := by omega
  have hd : decide (regs < tNeed l) = false := decide_eq_false (by omega)
  have hw2 := HW2.out.size
  clear hown hW2 hcell hkk hRN
  generalize tNeed l = kn at *
  go_wp2_with fail
  all_goals (try (exfalso; omega))
  have hS : StP w2 (w2.alloc (.cells #[.slice A l.length cap, .slice (some ⟨g, 0, none⟩) l.length cn, .slice none 0 0] 75)) w2.heap.size (w2.heap.size + 1) A cap (some ⟨g, 0, none⟩) cn l (.slice none 0 0) [] :=
    ⟨(Below.refl _ w2).alloc (Nat.le_refl _) _, heap_alloc_new w2 _, Own.nil_ _ _ _, by simp⟩
  have HC := Lib.hid (put_calls (Rd.below HA.out HW2.out) HRN.out (by omega) Hok.out l.length (l.length - 1) (by omega) (by omega) 0 _ _ _ (by omega) hS (by rw [Hlen.out]; simp; omega))
  clear hS
  refine HC.out.mono ?_
  rintro e w3 ⟨⟨u, rfl⟩, v3, hS3, -, -⟩
  rw [List.nil_append] at hS3
  have HS3 := Lib.hid hS3
  obtain ⟨A3, c3, rfl, -⟩ := Own.form stepCells_len hS3.out
  have cC := (cell_h hS3.hK 2).trans (show _ = some (Value.slice A3 (putT l (l.length - 1) 0).length c3) from rfl)
  rw [Hlen.out] at cC HS3
  clear hS3 HC
  go_wp2
  go_ret2
  exact ⟨_, rfl, Own.base_ HS3.out.out (by omega), HW2.out.trans (HS3.out.bel.mono hw2)⟩
set_option maxRecDepth 100000 in
set_option maxHeartbeats 4000000 in
theorem needCode_none (vars regs : Int) (A : Option Addr) (l : List Term) (cap : Nat) (w : World) (hA : RdT w A l) (h0 : needErr vars l = 0) (hk : regs < tNeed l) :
    Calls Try.prog 24 #[.int .i64 vars, .slice A l.length cap, .int .i64 regs] w fun e w' => (∃ e1 : Int, e1 ≠ 0 ∧ e = .returned (.tuple #[.slice none 0 0, .int .i64 e1])) ∧ Below w.heap.size w w' := by
  obtain ⟨ht0, htree⟩ := needErr_ok h0
  obtain ⟨hv0, hv6, h1, h16, hok⟩ := tErr_ok ht0
  by_cases hr : regs < 1 ∨ 8 < regs
  · go_enter Try.func24, Try.ntmps24
    go_wp2
    all_goals first
      | (exfalso; omega)
      | (go_ret2
         exact ⟨⟨1, by decide, rfl⟩, Below.refl _ _⟩)
  have HA := Lib.hid hA
  have H0 := Lib.hid h0
  have Ht := Lib.hid ht0
  have hnl := accTo_len need1 (l := l) (Nat.le_refl _)
  have hkk := (getD_get (l := accTo need1 l l.length) (i := l.length - 1) (by omega)).symm
  have hr1 : 1 ≤ regs := by omega
  have hr8 : regs ≤ 8 := by omega
  clear hA h0 ht0 htree hok hr
  go_enter Try.func24, Try.ntmps24
  go_wp2_with (go_at_call 41; refine (needWrong_calls _ _ _ _ _ HA.out (by unfold maxLen; omega)).mono ?_; rintro e w1 ⟨rfl, hW⟩; rw [H0.out]; have HW := Lib.hid hW; clear hW)
  all_goals (try (exfalso; omega))
  refine (needs_calls vars A l cap w1 (Rd.below HA.out HW.out) Ht.out).mono ?_
  rintro e w2 ⟨v, rfl, hown, hW2⟩
  have HW2 := Lib.hid (HW.out.trans (hW2.mono HW.out.size))
  obtain ⟨g, cn, rfl, hg1, hg2, _, _, hcell⟩ := OwnI.at_ hown (by omega)
  rw [hnl]
  have c0 : w2.cell? ⟨g, l.length - 1, none⟩ = some (.int .i64 (tNeed l)) := by
    have h := hcell (l.length - 1) (by omega)
    rw [hkk] at h
    exact h
  have q2 : ((l.length : Nat) : Int) - 1 = ((l.length - 1 : Nat) : Int) := by omega
  have q3 : ((l.length - 1 : Nat) : Int) < ((l.length : Nat) : Int) := by omega
  have hd : decide (regs < tNeed l) = true := decide_eq_true (by omega)
  have hw2 := HW2.out.size
  have HW3 := Lib.hid (HW2.out.alloc hw2 (.cells #[.slice A l.length cap, .slice (some ⟨g, 0, none⟩) l.length cn, .slice none 0 0] 75))
  clear hown hW2 hcell hkk
  generalize tNeed l = kn at *
  go_wp2
  go_ret2
  exact ⟨⟨5, by decide, rfl⟩, HW3.out⟩
set_option maxRecDepth 100000 in
set_option maxHeartbeats 4000000 in
theorem needCode_bad (vars regs : Int) (A : Option Addr) (l : List Term) (cap : Nat) (w : World) (hA : RdT w A l) (hm : l.length ≤ maxLen) (h0 : needErr vars l ≠ 0) :
    Calls Try.prog 24 #[.int .i64 vars, .slice A l.length cap, .int .i64 regs] w fun e w' => (∃ e1 : Int, e1 ≠ 0 ∧ e = .returned (.tuple #[.slice none 0 0, .int .i64 e1])) ∧ Below w.heap.size w w' := by
  by_cases hr : regs < 1 ∨ 8 < regs
  · go_enter Try.func24, Try.ntmps24
    go_wp2
    all_goals first
      | (exfalso; omega)
      | (go_ret2
         exact ⟨⟨1, by decide, rfl⟩, Below.refl _ _⟩)
  have hr1 : 1 ≤ regs := by omega
  have hr8 : regs ≤ 8 := by omega
  have HA := Lib.hid hA
  have H0 := Lib.hid h0
  have q : (needErr vars l != 0) = true := by rw [bne_iff_ne]; exact h0
  clear hr hA h0
  go_enter Try.func24, Try.ntmps24
  go_wp2_with (go_at_call 41; refine (needWrong_calls _ _ _ _ _ HA.out hm).mono ?_; rintro e w1 ⟨rfl, hW⟩; have HW := Lib.hid hW; clear hW)
  go_ret2
  exact ⟨⟨_, H0.out, rfl⟩, HW.out⟩
set_option maxRecDepth 100000 in
set_option maxHeartbeats 4000000 in
theorem needJust_calls (vars : Int) (A : Option Addr) (l : List Term) (cap : Nat) (w : World) (hA : RdT w A l) (hm : l.length ≤ maxLen) :
    Calls Try.prog 6 #[.int .i64 vars, .slice A l.length cap] w fun e w' => e = .returned (.bool true) ∧ Below w.heap.size w w' := by
  have HA := Lib.hid hA
  clear hA
  by_cases h0 : needErr vars l = 0
  case neg =>
    have H0 := Lib.hid h0
    have Hd := Lib.hid (decide_eq_false h0)
    have q : (needErr vars l != 0) = true := by rw [bne_iff_ne]; exact h0
    clear h0
    go_enter Try.func6, Try.ntmps6
    go_wp2_with (first
      | (go_at_call 19; refine (need_bad _ _ _ _ _ HA.out hm H0.out).mono ?_; rintro e w1 ⟨rfl, hW⟩; have HW1 := Lib.hid hW; clear hW)
      | (go_at_call 20; refine (treed_calls _ _ _ _ _ (Rd.below HA.out HW1.out) hm).mono ?_; rintro e w4 ⟨rfl, hW⟩; rw [Hd.out]; have HW4 := Lib.hid (HW1.out.trans (hW.mono HW1.out.size)); clear hW))
    go_ret
    exact ⟨rfl, HW4.out⟩
  obtain ⟨n, hn, _, hn4, _⟩ := ershov h0
  obtain ⟨ht0, htree⟩ := needErr_ok h0
  obtain ⟨hv0, hv6, h1, h16, hok⟩ := tErr_ok ht0
  have Hlen := Lib.hid ((putT_len hok l.length (l.length - 1) 0 (by omega) (by omega)).trans (laid_len h1 hok htree))
  have HOk := Lib.hid (put_ok hok l.length (l.length - 1) (by omega) (by omega) 0 (tNeed l) (by show (0 : Int) + tNeed l ≤ _; omega))
  have H0 := Lib.hid h0
  have Hd := Lib.hid (decide_eq_true h0)
  have HC1 := Lib.hid (fun w h => needCode_ok vars (tNeed l) A l cap w h h0 (by omega) (by omega) (by omega))
  have HC2 := Lib.hid (fun w h => needCode_none vars (tNeed l - 1) A l cap w h h0 (by omega))
  have HNd := Lib.hid (fun w h => need_ok vars A l cap w h h0)
  have hk1 : 1 ≤ tNeed l := by omega
  have hk8 : tNeed l ≤ 8 := by omega
  clear h0 ht0 htree hok hn
  generalize tNeed l = kn at *
  generalize hpc : putT l (l.length - 1) 0 = pc at *
  clear hpc
  go_enter Try.func6, Try.ntmps6
  go_wp2_with (first
    | (go_at_call 19; refine (HNd.out _ HA.out).mono ?_; rintro e w1 ⟨rfl, hW⟩; have HW1 := Lib.hid hW; clear hW)
    | (go_at_call 20; refine (treed_calls _ _ _ _ _ (Rd.below HA.out HW1.out) hm).mono ?_; rintro e w4 ⟨rfl, hW⟩; rw [Hd.out]; have HW4 := Lib.hid (HW1.out.trans (hW.mono HW1.out.size)); clear hW))
  all_goals (try (exfalso; omega))
  refine (HC1.out _ (Rd.below HA.out HW4.out)).mono ?_
  rintro e w5 ⟨v5, rfl, hO, hW⟩
  obtain ⟨A5, c5, rfl, hR5, -⟩ := Own.form stepCells_len hO
  have HR5 := Lib.hid hR5
  have HW5 := Lib.hid (HW4.out.trans (hW.mono HW4.out.size))
  clear hO hW hR5
  go_wp2_with fail
  refine (HC2.out _ (Rd.below HA.out HW5.out)).mono ?_
  rintro e w6 ⟨⟨e1, he1, rfl⟩, hW⟩
  have HR6 := Lib.hid (Rd.below HR5.out hW)
  have HW6 := Lib.hid (HW5.out.trans (hW.mono HW5.out.size))
  have qe : (e1 != 0) = true := by rw [bne_iff_ne]; exact he1
  have ql : (((pc.length : Nat) : Int) == ((l.length : Nat) : Int)) = true := by rw [Hlen.out]; simp
  clear hW he1
  go_wp2
  have hw6 := HW6.out.size
  have hpl : pc.length ≤ 16 := by rw [Hlen.out]; exact h16
  go_loopw [52] (fun i wr => ∃ k : Nat, k ≤ pc.length ∧ i = .int .i64 k ∧ Below w6.heap.size w6 wr) (fun i _ => pc.length - (intOf i).toNat)
  case atStart => exact ⟨0, Nat.zero_le _, rfl, Below.refl _ _⟩
  case round =>
    obtain ⟨k, hk, rfl, hW⟩ := hrel
    have HW := Lib.hid hW
    have hws := hW.size
    by_cases hlt : k < pc.length
    · obtain ⟨b, off, rfl, hb, k0, k1, k2, k3, k4⟩ := RdSt.at5 (Rd.below HR6.out hW) hlt
      have q1 : ((k : Nat) : Int) < ((pc.length : Nat) : Int) := by omega
      obtain ⟨_, _, _, _, ⟨t0, t1⟩, _⟩ := HOk.out pc[k] (List.getElem_mem hlt)
      have HWa := Lib.hid (HW.out.alloc hws (.cells #[.int .i64 pc[k].op, .int .i64 pc[k].to, .int .i64 pc[k].a, .int .i64 pc[k].b, .int .i64 pc[k].val] 44))
      have d1 : decide (pc[k].to < 0) = false := decide_eq_false (by omega)
      have d2 : decide (kn ≤ pc[k].to) = false := decide_eq_false (by omega)
      clear hW
      generalize pc[k] = s at *
      obtain ⟨op, sto, sa, sb, sv⟩ := s
      dsimp only at *
      go_wp2
      go_roundw
      case rel => exact ⟨k + 1, by omega, by go_num, HWa.out⟩
      case measure => simp [intOf]; omega
    · clear hW
      go_wp2
      go_ret
      exact ⟨rfl, HW6.out.trans (HW.out.mono hw6)⟩
end Go.Proofs.Ytmglhppfdhphbaa
