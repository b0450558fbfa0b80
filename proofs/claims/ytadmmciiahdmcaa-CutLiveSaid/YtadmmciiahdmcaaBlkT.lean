/- block.Way and BlockPath walked. -/
import Derived.Test.YtadmmciiahdmcaaBlkI
import Derived.Test.YtadmmciiahdmcaaBlkP
import Derived.Test.YtadmmciiahdmcaaBlkR
import Derived.Test.YtadmmciiahdmcaaBlkD
import Derived.Test.YtadmmciiahdmcaaHasR
namespace Go.Proofs.Ytadmmciiahdmcaa
open Go.RowKit

set_option maxHeartbeats 1000000 in
theorem way_ok (vars : Int) (A : Option Addr) (p : List Blk) (cap : Nat) (w : World) (hA : RdBk w A p) (hm : p.length ≤ maxLen) (hmc : smallB p) (h : pkErr vars p = 0) :
    Calls Try.prog 18 #[.int .i64 vars, .slice A p.length cap] w fun e w' => ∃ b : Nat, e = .returned (.tuple #[.slice (some ⟨b, 0, none⟩) p.length p.length, .int .i64 0]) ∧ RdN w' (some ⟨b, 0, none⟩) (nexts p) ∧ Below w.heap.size w w' := by
  have HA := Lib.hid hA
  have H0 := Lib.hid h
  have hp := pok_of h
  have n1 := hp.n1
  have n8 := hp.n8
  clear hA h hp
  go_enter Try.func18, Try.ntmps18
  go_wp2_with (first
    | (go_at_call 38; refine (blkCheck_calls vars A p cap w HA.out hm hmc).mono ?_; rintro e w1 ⟨rfl, hW⟩; rw [H0.out]; have HW1 := Lib.hid hW; clear hW)
    | (go_at_call 41; refine (next_calls A p cap w1 (HA.out.below HW1.out) n1 n8).mono ?_; rintro e w2 ⟨b, rfl, hR, hW2⟩; have HR := Lib.hid hR; have HW2 := Lib.hid (HW1.out.trans (hW2.mono HW1.out.size)); clear hR hW2))
  go_ret2
  exact ⟨_, rfl, HR.out, HW2.out⟩
set_option maxHeartbeats 1000000 in
theorem way_bad (vars : Int) (A : Option Addr) (p : List Blk) (cap : Nat) (w : World) (hA : RdBk w A p) (hm : p.length ≤ maxLen) (hmc : smallB p) (h : pkErr vars p ≠ 0) :
    Calls Try.prog 18 #[.int .i64 vars, .slice A p.length cap] w fun e w' => (∃ x, x ≠ 0 ∧ e = .returned (.tuple #[.slice none 0 0, .int .i64 x])) ∧ Below w.heap.size w w' := by
  have Hc := Lib.hid (blkCheck_calls vars A p cap w hA hm hmc)
  clear hA
  generalize pkErr vars p = er at *
  have q : (er != 0) = true := by rw [bne_iff_ne]; exact h
  go_enter Try.func18, Try.ntmps18
  go_wp2_with (go_at_call 38; refine Hc.out.mono ?_; rintro e w1 ⟨rfl, hW⟩; have HW1 := Lib.hid hW; clear hW)
  go_ret2
  exact ⟨⟨er, h, rfl⟩, HW1.out⟩
set_option maxRecDepth 100000 in
set_option maxHeartbeats 4000000 in
theorem blockPath_u (vars : Int) (A B : Option Addr) (p : List Blk) (hv : List Int) (cap capB : Nat) (w : World) (hA : RdBk w A p) (hB : RdI w B hv) (hm : p.length ≤ maxLen) (hmc : smallB p) (hm' : hv.length ≤ maxLen) :
    Calls Try.prog 4 #[.int .i64 vars, .slice A p.length cap, .slice B hv.length capB] w fun e w' => e = .returned (.bool true) ∧ Below w.heap.size w w' := by
  have HA := Lib.hid hA
  have HB := Lib.hid hB
  clear hA hB
  by_cases hr : pkErr vars p = 0 ∧ haveErr vars hv = 0
  · obtain ⟨r1, r2⟩ := hr
    have hp := pok_of r1
    obtain ⟨hl, hh⟩ := haveErr_ok r2
    have R1 := Lib.hid r1
    have R2 := Lib.hid r2
    have HP := Lib.hid hp
    have HH := Lib.hid hh
    have n1 := hp.n1
    have n8 := hp.n8
    have H3 : Hid (∀ w2, Below w.heap.size w w2 → Calls Try.prog 16 #[.int .i64 vars, .slice A p.length cap, .slice B hv.length capB] w2 fun e w' => e = .returned (.bool true) ∧ Below w2.heap.size w2 w') := Lib.hid (fun w2 h2 => by
      have := runs_calls vars A B p hv cap capB w2 (HA.out.below h2) (Rd.below HB.out h2) hm hmc hm'
      rw [r1, r2] at this; exact this)
    clear r1 r2 hp hh
    go_enter Try.func4, Try.ntmps4
    go_wp2_with fail
    refine (blkRun_ok vars A B p hv cap capB w HA.out HB.out hm hmc hm' R1.out R2.out).mono ?_
    rintro e w1 ⟨hW1, ⟨k, x, y, k1, k2, hrun, hneg, rfl, hx, hy⟩ | ⟨hrun, rfl⟩⟩
    · have HW1 := Lib.hid hW1
      obtain ⟨m, rfl⟩ : ∃ m, k = m + 1 := ⟨k - 1, by omega⟩
      have hst := st_ok HP.out hl HH.out (m + 1) hrun
      have Hg := Lib.hid (show (haveErr vars (stB p hv (m + 1)).2 == 0) = true by rw [haveErr_0 hst.1 hst.2.1]; rfl)
      have hvm : (stB p hv (m + 1)).2.length ≤ maxLen := by have := hst.1; have := HP.out.v6; unfold maxLen; omega
      have hwl := wasB_len p hv (m + 1)
      obtain ⟨X, cx, rfl, hX⟩ := OwnI.rd hx
      obtain ⟨Y, cy, e, hY⟩ := OwnI.rd hy
      rw [hwl] at e
      subst e
      obtain ⟨at_, hpath, hwat⟩ : ∃ at_ : Nat → Nat, Path p hv (m + 1) at_ ∧ ∀ j (_ : j < (wasB p hv (m + 1)).length), (wasB p hv (m + 1))[j] = ((at_ j : Nat) : Int) :=
        ⟨fun j => (stB p hv j).1.toNat, path_of HP.out hl HH.out hrun hneg, fun j h => by rw [wasB_get (by omega)]; have := hrun j (by omega); show (stB p hv j).1 = (((stB p hv j).1.toNat : Nat) : Int); omega⟩
      have Hwat := Lib.hid hwat
      have HPth := Lib.hid hpath
      have hm200 : m + 1 ≤ 200 := k2
      have HX := Lib.hid hX
      have HY := Lib.hid hY
      clear hx hy hX hY hwat hpath hst hrun hneg k1 k2 hW1
      generalize wasB p hv (m + 1) = ws at *
      generalize (stB p hv (m + 1)).2 = vs at *
      go_wp2_with (first
        | (go_at_call 18; refine (way_ok vars A p cap w1 (HA.out.below HW1.out) hm hmc R1.out).mono ?_; rintro e w2 ⟨b, rfl, hR, hW2⟩; have HW2 := Lib.hid (HW1.out.trans (hW2.mono HW1.out.size)); have HN2 := Lib.hid hR; have HX2 := Lib.hid (Rd.below HX.out hW2); have HY2 := Lib.hid (Rd.below HY.out hW2); clear hR hW2)
        | (go_at_call 16; refine (H3.out _ HW2.out).mono ?_; rintro e w4 ⟨rfl, hW4⟩; have HW4 := Lib.hid (HW2.out.trans (hW4.mono HW2.out.size)); have HN4 := Lib.hid (RdN.below HN2.out hW4); have HX4 := Lib.hid (Rd.below HX2.out hW4); have HY4 := Lib.hid (Rd.below HY2.out hW4); clear hW4
           obtain ⟨yb, yo, rfl, hyb, y0⟩ := RdI.at1 HY4.out (show 0 < ws.length by omega)
           rw [Hwat.out 0 (by omega), HPth.out.zero (by omega)] at y0
           simp only [Nat.add_zero] at y0)
        | (go_at_call 19; refine (given_calls vars X vs cx w4 HX4.out hvm).mono ?_; rintro e w5 ⟨rfl, rfl⟩; rw [Hg.out]))
      all_goals (try (exfalso; omega))
      go_loopw [75] (fun i wr => ∃ j : Nat, j ≤ m + 1 ∧ i = .int .i64 j ∧ Below w5.heap.size w5 wr) (fun i _ => m + 1 - (intOf i).toNat)
      case atStart => exact ⟨0, Nat.zero_le _, rfl, Below.refl _ _⟩
      case round =>
        obtain ⟨j, hj, rfl, hW⟩ := hrel
        have HW := Lib.hid hW
        have hws := hW.size
        have hgb : yb < wr.heap.size := by omega
        clear y0
        by_cases hlt : j < m + 1
        · obtain ⟨yb', yo', ey, _, y1⟩ := RdI.at1 (Rd.below HY4.out hW) (show j < ws.length by omega)
          injection ey with ey; injection ey with ey1 ey2
          subst ey1 ey2
          rw [Hwat.out j (by omega)] at y1
          have hl1 := HPth.out.lt j (by omega)
          have hi1 : ((at_ j : Nat) : Int) < (p.length : Int) := by omega
          cases j with
          | zero =>
            simp only [Nat.add_zero] at y1
            generalize at_ 0 = a0 at *
            go_wp2_with (go_at_call 20; first | ((with_reducible refine (in1_yes _ _ _ ?_ ?_ ?_).mono ?_); simp; omega; omega; rintro e w' ⟨rfl, rfl⟩) | ((with_reducible refine (in1_no _ _ _ ?_ ?_).mono ?_); simp; omega; rintro e w' ⟨rfl, rfl⟩) | ((with_reducible refine (in2_yes _ _ _ ?_ ?_ ?_).mono ?_); simp; omega; omega; rintro e w' ⟨rfl, rfl⟩) | ((with_reducible refine (in2_no _ _ _ ?_ ?_).mono ?_); simp; omega; rintro e w' ⟨rfl, rfl⟩))
            all_goals (try (exfalso; omega))
            go_roundw
            case rel => exact ⟨1, by omega, by go_num, HW.out.alloc hws _⟩
            case measure => simp [intOf]
          | succ j =>
            obtain ⟨yb', yo', ey, _, y2⟩ := RdI.at1 (Rd.below HY4.out hW) (show j < ws.length by omega)
            injection ey with ey; injection ey with ey1 ey2
            subst ey1 ey2
            rw [Hwat.out j (by omega)] at y2
            have hl2 := HPth.out.lt j (by omega)
            have hin := HPth.out.next j (by omega)
            obtain ⟨nb, no, A', cap', en, hnb, z0, hz⟩ := RdN.at_ (RdN.below HN4.out hW) (k := at_ j) (by unfold nexts; simp; exact hl2)
            injection en with en; injection en with en1 en2
            subst en1 en2
            rw [nexts_at hl2] at z0 hz
            rw [Nat.zero_add] at z0
            have HZ := Lib.hid (Rd.below hz ((Below.refl wr.heap.size wr).alloc (Nat.le_refl _) (.cells #[.int .i64 ((at_ (j + 1) : Nat) : Int)] 3)))
            have hnl : (nxB (p.getD (at_ j) bnul)).length ≤ 2 := by unfold nxB; split <;> split <;> simp
            have hi2 : ((at_ j : Nat) : Int) < (p.length : Int) := by omega
            have Hin := Lib.hid (decide_eq_true hin)
            clear hz hin hl1 hl2 hW
            generalize nxB (p.getD (at_ j) bnul) = row at *
            generalize at_ (j + 1) = a1 at *
            generalize at_ j = a0 at *
            go_wp2_with (first | (go_at_call 20; first | ((with_reducible refine (in1_yes _ _ _ ?_ ?_ ?_).mono ?_); simp; omega; omega; rintro e w' ⟨rfl, rfl⟩) | ((with_reducible refine (in1_no _ _ _ ?_ ?_).mono ?_); simp; omega; rintro e w' ⟨rfl, rfl⟩) | ((with_reducible refine (in2_yes _ _ _ ?_ ?_ ?_).mono ?_); simp; omega; omega; rintro e w' ⟨rfl, rfl⟩) | ((with_reducible refine (in2_no _ _ _ ?_ ?_).mono ?_); simp; omega; rintro e w' ⟨rfl, rfl⟩)) | (go_at_call 21; refine (has_calls A' row cap' a1 _ HZ.out (by unfold maxLen; omega)).mono ?_; rintro e w8 ⟨rfl, rfl⟩; rw [Hin.out]))
            all_goals (try (exfalso; omega))
            go_roundw
            case rel => exact ⟨j + 1 + 1, by omega, by go_num, HW.out.alloc hws _⟩
            case measure => simp [intOf]; omega
        · obtain ⟨yb', yo', ey, _, y1⟩ := RdI.at1 (Rd.below HY4.out hW) (show m < ws.length by omega)
          injection ey with ey; injection ey with ey1 ey2
          subst ey1 ey2
          rw [Hwat.out m (by omega)] at y1
          have hl1 := HPth.out.lt m (by omega)
          have hlast := HPth.out.last (by omega)
          rw [Nat.add_sub_cancel] at hlast
          obtain ⟨nb, no, A', cap', en, hnb, z0, hz⟩ := RdN.at_ (RdN.below HN4.out hW) (k := at_ m) (by unfold nexts; simp; exact hl1)
          injection en with en; injection en with en1 en2
          subst en1 en2
          rw [nexts_at hl1, hlast, Nat.zero_add] at z0
          have hi1 : ((at_ m : Nat) : Int) < (p.length : Int) := by omega
          clear hz hl1 hlast hW
          generalize at_ m = a0 at *
          go_wp2
          go_ret
          exact ⟨rfl, HW4.out.trans (HW.out.mono HW4.out.size)⟩
    · have HW1 := Lib.hid hW1
      clear hW1 hrun
      go_wp2_with (first
        | (go_at_call 18; refine (way_ok vars A p cap w1 (HA.out.below HW1.out) hm hmc R1.out).mono ?_; rintro e w2 ⟨b, rfl, hR, hW2⟩; have HW2 := Lib.hid (HW1.out.trans (hW2.mono HW1.out.size)); clear hR hW2)
        | (go_at_call 16; refine (H3.out _ HW2.out).mono ?_; rintro e w4 ⟨rfl, hW4⟩; have HW4 := Lib.hid (HW2.out.trans (hW4.mono HW2.out.size)); clear hW4))
      go_ret
      exact ⟨rfl, HW4.out⟩
  · have r1 : pkErr vars p ≠ 0 ∨ haveErr vars hv ≠ 0 := by omega
    have rb : (pkErr vars p == 0 && haveErr vars hv == 0) = false := by rw [Bool.and_eq_false_iff, beq_eq_false_iff_ne, beq_eq_false_iff_ne]; exact r1
    have H3 : Hid (∀ w2, Below w.heap.size w w2 → Calls Try.prog 16 #[.int .i64 vars, .slice A p.length cap, .slice B hv.length capB] w2 fun e w' => e = .returned (.bool false) ∧ Below w2.heap.size w2 w') := Lib.hid (fun w2 h2 => by
      have := runs_calls vars A B p hv cap capB w2 (HA.out.below h2) (Rd.below HB.out h2) hm hmc hm'
      rw [rb] at this; exact this)
    have Hw : Hid (∀ w2, Below w.heap.size w w2 → Calls Try.prog 18 #[.int .i64 vars, .slice A p.length cap] w2 fun e w' => (∃ v x, e = .returned (.tuple #[v, x])) ∧ Below w2.heap.size w2 w') := Lib.hid (fun w2 h2 => by
      by_cases hk : pkErr vars p = 0
      · exact (way_ok vars A p cap w2 (HA.out.below h2) hm hmc hk).mono (fun e w' ⟨b, h, _, h'⟩ => ⟨⟨_, _, h⟩, h'⟩)
      · exact (way_bad vars A p cap w2 (HA.out.below h2) hm hmc hk).mono (fun e w' ⟨⟨x, _, h⟩, h'⟩ => ⟨⟨_, _, h⟩, h'⟩))
    clear rb hr
    go_enter Try.func4, Try.ntmps4
    go_wp2_with (first
      | (go_at_call 15; refine (blkRun_bad vars A B p hv cap capB w HA.out HB.out hm hmc hm' r1).mono ?_; rintro e w1 ⟨⟨x1, hx1, rfl⟩, hW1⟩; have HW1 := Lib.hid hW1; have qx : (x1 != 0) = true := (by rw [bne_iff_ne]; exact hx1); clear hW1)
      | (go_at_call 18; refine (Hw.out _ HW1.out).mono ?_; rintro e w2 ⟨⟨v2, x2, rfl⟩, hW2⟩; have HW2 := Lib.hid (HW1.out.trans (hW2.mono HW1.out.size)); clear hW2)
      | (go_at_call 16; refine (H3.out _ HW2.out).mono ?_; rintro e w4 ⟨rfl, hW4⟩; have HW4 := Lib.hid (HW2.out.trans (hW4.mono HW2.out.size)); clear hW4))
    go_ret
    exact ⟨rfl, HW4.out⟩
end Go.Proofs.Ytadmmciiahdmcaa
