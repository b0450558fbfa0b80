/- weak.Holds walked: a beginning of which one says nothing but 1. -/
import Derived.Test.YtmgejacndhnikaaWkC
import Derived.Test.YtmgejacndhnikaaBlkG
import Derived.Test.YtmgejacndhnikaaKnB
import Derived.BigGuardPart
namespace Go.Proofs.Ytmgejacndhnikaa
set_option maxRecDepth 100000
open Go.RowKit

theorem wkErr_parts {vars : Int} {code : List Step} {post : List Term} (h0 : wkErr vars code post = 0) : wkE vars code = 0 ∧ tErr vars post = 0 := by
  have hE1 : wkE vars code = 0 := Classical.byContradiction fun h => by unfold wkErr at h0; rw [if_neg h] at h0; exact h h0
  exact ⟨hE1, by unfold wkErr at h0; rwa [if_pos hE1] at h0⟩
theorem haveErr_zero' {vars : Int} {l : List Int} (h1 : (l.length : Int) = vars) (h2 : ∀ x ∈ l, 0 ≤ x ∧ x ≤ 255) : haveErr vars l = 0 := by
  unfold haveErr
  rw [if_neg (by omega), if_neg]
  intro h
  rw [List.any_eq_true] at h
  obtain ⟨x, hx, hb⟩ := h
  have := h2 x hx
  unfold badVal at hb
  rw [decide_eq_true_eq] at hb
  omega
set_option maxHeartbeats 4000000 in
theorem holds_ok (vars : Int) (P A B H : Option Addr) (pre : List Term) (code : List Step) (post : List Term) (hv : List Int) (cp ca cb ch : Nat) (w : World) (hP : RdT w P pre) (hA : RdSt w A code) (hB : RdT w B post) (hH : RdI w H hv) (hm : code.length ≤ 140737488355328) (h0 : wkErr vars code post = 0) (h1 : tErr vars pre = 0) (h2 : haveErr vars hv = 0) (h3 : tVal hv pre = 1) :
    Calls Try.prog 30 #[.int .i64 vars, .slice P pre.length cp, .slice A code.length ca, .slice B post.length cb, .slice H hv.length ch] w fun e w' => e = .returned (.tuple #[.bool (decide (tVal (dgR hv code) post ≠ 0)), .int .i64 0]) ∧ Below w.heap.size w w' := by
  obtain ⟨hE1, hE2⟩ := wkErr_parts h0
  obtain ⟨hv1, hv6, hc20, hsok⟩ := wkE_ok hE1
  obtain ⟨-, -, hp1, hp16, -⟩ := tErr_ok h1
  obtain ⟨-, -, hq1, hq16, -⟩ := tErr_ok hE2
  obtain ⟨hhl, hhb⟩ := haveErr_ok h2
  have hn : vars = ((hv.length : Nat) : Int) := hhl.symm
  have hl1 : 1 ≤ hv.length := by omega
  have Hw := Lib.hid (wkWrong_calls vars A code ca w hA hm)
  rw [hE1] at Hw
  have Hc := Lib.hid (fun w hP => check_calls vars P pre cp w hP (by unfold maxLen; omega))
  rw [h1] at Hc
  have Hd := Lib.hid (fun w hB => check_calls vars B post cb w hB (by unfold maxLen; omega))
  rw [hE2] at Hd
  have Hv := Lib.hid (fun w hP hH => value_ok vars P H pre hv cp ch w hP hH h1 h2)
  rw [h3] at Hv
  have h9 : haveErr vars (dgR hv code) = 0 := haveErr_zero' (by rw [dgR_len]; exact hhl) (dgR_bd (vars := vars) hsok hhb)
  have Hz := Lib.hid (fun w C cc hB hC => value_ok vars B C post (dgR hv code) cb cc w hB hC hE2 h9)
  have HA := Lib.hid hA
  have HB := Lib.hid hB
  have HP := Lib.hid hP
  have HH := Lib.hid hH
  have Hcl := Lib.hid (fun w' (h : Below w.heap.size w w') => cloneI_calls H hv ch w' (Rd.below HH.out h) (by omega) (by omega))
  have Hdo := Lib.hid (fun w' base g vc (h : Below w.heap.size w w') (hb : w.heap.size ≤ base) hO => blkDo_calls A code ca base g hv.length vc hv w w' HA.out h hb hO (by omega) (by omega) (by omega) (fun s hs => by have := hsok s hs; rwa [hn] at this) hhb rfl)
  clear hA hB hP hH hsok hhb hhl h0 h1 h2 h3 hE1 hE2 h9 hn
  generalize hbz : decide (tVal (dgR hv code) post ≠ 0) = bz
  have Hbz := Lib.hid hbz
  clear hbz
  go_enter Try.func30, Try.ntmps30
  go_wp2_with fail
  refine Hw.out.mono ?_
  rintro e w1 ⟨rfl, hW⟩
  have HW1 := Lib.hid hW
  have HP1 := Lib.hid (Rd.below HP.out hW)
  clear hW
  go_wp2_with fail
  refine (Hc.out _ HP1.out).mono ?_
  rintro e w2 ⟨rfl, hW⟩
  have HW2 := Lib.hid (HW1.out.trans (hW.mono HW1.out.size))
  have HB2 := Lib.hid (Rd.below HB.out HW2.out)
  clear hW
  go_wp2_with fail
  refine (Hd.out _ HB2.out).mono ?_
  rintro e w3 ⟨rfl, hW⟩
  have HW3 := Lib.hid (HW2.out.trans (hW.mono HW2.out.size))
  clear hW
  go_wp2_with fail
  refine (Hv.out _ (Rd.below HP.out HW3.out) (Rd.below HH.out HW3.out)).mono ?_
  rintro e w4 ⟨rfl, hW⟩
  have HW4 := Lib.hid (HW3.out.trans (hW.mono HW3.out.size))
  clear hW
  go_wp2_with fail
  refine (Hcl.out _ HW4.out).mono ?_
  rintro e w5 ⟨v5, rfl, hO5, hW⟩
  have HW5 := Lib.hid (HW4.out.trans (hW.mono HW4.out.size))
  obtain ⟨g, vc, rfl, hgb, hg5, -⟩ := OwnI.at_ hO5 (by omega)
  have HO5 := Lib.hid hO5
  have hg9 : w.heap.size ≤ g := Nat.le_trans HW4.out.size hgb
  clear hW hO5
  go_wp2_with fail
  refine (Hdo.out _ _ g vc HW5.out HW4.out.size HO5.out).mono ?_
  rintro e w6 ⟨⟨u, rfl⟩, hO6, hBe⟩
  have HW6 := Lib.hid (HW5.out.trans ((hBe.below (B := w.heap.size) hg9 HW5.out.size)))
  obtain ⟨C, cc, hve, hRC⟩ := OwnI.rd hO6
  injection hve with hC hcn hcc
  subst hC hcc
  have HRC := Lib.hid hRC
  have hZ := Hz.out w6 _ vc (Rd.below HB.out HW6.out) hRC
  rw [dgR_len] at hZ
  have HZ := Lib.hid hZ
  clear hO6 hBe hZ hcn hRC
  go_wp2_with fail
  refine HZ.out.mono ?_
  rintro e w7 ⟨rfl, hW⟩
  have HW7 := Lib.hid (HW6.out.trans (hW.mono HW6.out.size))
  clear hW
  by_cases hz : tVal (dgR hv code) post = 0
  · have hb : bz = false := by rw [← Hbz.out]; simp [hz]
    rw [hz]
    clear hz Hbz
    subst hb
    go_wp2
    go_ret2
    exact ⟨rfl, HW7.out⟩
  · have hb : bz = true := by rw [← Hbz.out]; simp [hz]
    have q : (tVal (dgR hv code) post != 0) = true := by rw [bne_iff_ne]; exact hz
    clear hz Hbz
    subst hb
    generalize tVal (dgR hv code) post = z at *
    go_wp2
    go_ret2
    exact ⟨rfl, HW7.out⟩
end Go.Proofs.Ytmgejacndhnikaa
