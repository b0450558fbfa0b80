/- KnownFold walked. -/
import Derived.Test.YtadmmciiahdmcaaKnG
import Derived.Test.YtadmmciiahdmcaaBlkU
import Derived.Test.YtadmmciiahdmcaaBlkE
namespace Go.Proofs.Ytadmmciiahdmcaa
open Go.RowKit

theorem knFold_bad (vars : Int) (A B : Option Addr) (p : List Blk) (h0 : List Int) (cap capB : Nat) (w : World) (hA : RdBk w A p) (hB : RdI w B h0) (hm : p.length ≤ maxLen) (hmc : smallB p) (hm' : h0.length ≤ maxLen) (h : pkErr vars p ≠ 0 ∨ startErr vars h0 ≠ 0) :
    Calls Try.prog 33 #[.int .i64 vars, .slice A p.length cap, .slice B h0.length capB] w fun e w' => (∃ x, x ≠ 0 ∧ e = .returned (.tuple #[.slice none 0 0, .int .i64 x])) ∧ Below w.heap.size w w' := by
  have Hc := Lib.hid (knWrong_calls vars A B p h0 cap capB w hA hB hm hmc hm')
  have hx : (if pkErr vars p = 0 then startErr vars h0 else pkErr vars p) ≠ 0 := by
    by_cases e : pkErr vars p = 0
    · rw [if_pos e]; exact h.resolve_left (fun h => h e)
    · rw [if_neg e]; exact e
  obtain ⟨x, hxe⟩ : ∃ x, x = (if pkErr vars p = 0 then startErr vars h0 else pkErr vars p) := ⟨_, rfl⟩
  rw [← hxe] at Hc hx
  have Hx := Lib.hid hx
  have q : (x != 0) = true := by rw [bne_iff_ne]; exact hx
  clear hA hB hm hmc hm' h hx hxe
  go_enter Try.func33, Try.ntmps33
  go_wp2_with (go_at_call 51; refine Hc.out.mono ?_; rintro e w1 ⟨rfl, hW⟩; have HW1 := Lib.hid hW; clear hW)
  go_ret2
  exact ⟨⟨x, Hx.out, rfl⟩, HW1.out⟩
theorem foldP_small {vars : Int} {p : List Blk} (h : POk vars p) : smallB p := fun b hb => by
  have := manyB_mem hb
  have := h.many
  omega
set_option maxRecDepth 100000 in
set_option maxHeartbeats 8000000 in
theorem knownFold_u (vars : Int) (A B C : Option Addr) (p : List Blk) (st hv : List Int) (cap capB capC : Nat) (w : World) (hA : RdBk w A p) (hB : RdI w B st) (hC : RdI w C hv) (hm : p.length ≤ maxLen) (hmc : smallB p) (hm' : st.length ≤ maxLen) (hm2 : hv.length ≤ maxLen) :
    Calls Try.prog 10 #[.int .i64 vars, .slice A p.length cap, .slice B st.length capB, .slice C hv.length capC] w fun e w' => e = .returned (.bool true) ∧ Below w.heap.size w w' := by
  have HA := Lib.hid hA
  have HB := Lib.hid hB
  have HC := Lib.hid hC
  clear hA hB hC
  have Hpc := Lib.hid (fun w hA => progCheck_calls vars A p cap w hA hm hmc)
  have Hsc := Lib.hid (fun w hB => startCheck_calls vars B st capB w hB hm')
  by_cases hr : pkErr vars p = 0 ∧ startErr vars st = 0
  · obtain ⟨r1, r2⟩ := hr
    have HP := Lib.hid (pok_of r1)
    have R1 := Lib.hid r1
    rw [r1] at Hpc
    rw [r2] at Hsc
    have Hfo := Lib.hid (knFold_ok vars A B p st cap capB w HA.out HB.out hm hmc hm' r1 r2)
    clear r1 r2
    go_enter Try.func10, Try.ntmps10
    go_wp2_with fail
    refine Hfo.out.mono ?_
    rintro e w1 ⟨F, v, rfl, hS, hO, hW⟩
    have HW1 := Lib.hid hW
    have Hfl := Lib.hid (foldP_len hS.1.len)
    obtain ⟨Q, cq, hv1, hQ⟩ := OwnBk.rd hO
    subst hv1
    have HQ := Lib.hid hQ
    have HS := Lib.hid hS
    have Hfok := Lib.hid (foldP_ok HP.out hS.1)
    have Hpc2 := Lib.hid (fun w hA => progCheck_calls vars Q (foldP p F) cq w hA (by rw [Hfl.out]; exact hm) (foldP_small Hfok.out))
    rw [pkErr_of Hfok.out] at Hpc2
    clear hS hO hW hQ Hfo
    go_wp2_with (first
      | (go_at_call 23; refine (Hpc.out _ (HA.out.below HW1.out)).mono ?_; rintro e w2 ⟨rfl, hW⟩; have HW2 := Lib.hid (HW1.out.trans (hW.mono HW1.out.size)); have HQ2 := Lib.hid (RdBk.below HQ.out hW); clear hW Hpc)
      | (go_at_call 30; refine (Hsc.out _ (Rd.below HB.out HW2.out)).mono ?_; rintro e w3 ⟨rfl, rfl⟩)
      | fail)
    refine (Hpc2.out _ HQ2.out).mono ?_
    rintro e w4 ⟨rfl, hW⟩
    have HW4 := Lib.hid (HW2.out.trans (hW.mono HW2.out.size))
    have HQ4 := Lib.hid (RdBk.below HQ2.out hW)
    clear hW Hpc2 HQ2
    go_wp2_with fail
    refine (started_calls vars B C st hv capB capC _ (Rd.below HB.out HW4.out) (Rd.below HC.out HW4.out) hm' hm2).mono ?_
    rintro e w5 ⟨rfl, sb, rfl, hsb⟩
    have Hsb := Lib.hid hsb
    clear hsb
    cases sb
    · go_wp2
      go_ret
      exact ⟨rfl, HW4.out⟩
    obtain ⟨-, r3, hle⟩ := Hsb.out rfl
    have Hrun := Lib.hid (blkRun_ok vars A C p hv cap capC _ (HA.out.below HW4.out) (Rd.below HC.out HW4.out) hm hmc hm2 R1.out r3)
    have Hrun2 := Lib.hid (fun w hA hC => blkRun_ok vars Q C (foldP p F) hv cq capC w hA hC (by rw [Hfl.out]; exact hm) (foldP_small Hfok.out) hm2 (pkErr_of Hfok.out) r3)
    obtain ⟨hl, hh⟩ := haveErr_ok r3
    have Hst := Lib.hid (fold_run HP.out HS.out hl hh hle)
    have Hpair := Lib.hid (fun k (hr : runsB p hv k) => congrArg Prod.fst (Hst.out k hr))
    have Hwid := Lib.hid (fun k hr => (st_ok HP.out hl hh k hr).1)
    have hv6 := HP.out.v6
    clear Hsb r3 hle hl hh
    go_wp2_with fail
    refine Hrun.out.mono ?_
    rintro e w6 ⟨hW6, hcase⟩
    have HW6 := Lib.hid (HW4.out.trans (hW6.mono HW4.out.size))
    have HQ6 := Lib.hid (RdBk.below HQ4.out hW6)
    have hz6 := hW6.size
    clear hW6 Hrun HQ4 HS
    rcases hcase with ⟨K, x, y, k1, k2, hrun, hend, rfl, hx, hy⟩ | ⟨hloop, rfl⟩
    · have Hx := Lib.hid hx
      have Hy := Lib.hid hy
      clear hx hy
      go_wp2_with fail
      refine (Hrun2.out _ HQ6.out (Rd.below HC.out HW6.out)).mono ?_
      rintro e w7 ⟨hW7, ⟨K', x', y', -, -, hrun', hend', rfl, hx', hy'⟩ | ⟨hloop, rfl⟩⟩
      · obtain rfl := end_pair Hpair.out hrun hend hrun' hend'
        have hwas := was_pair Hpair.out hrun
        have hst := congrArg Prod.snd (Hst.out K' hrun)
        have hwl := wasB_len p hv K'
        have hsl := Hwid.out K' hrun
        rw [hwas] at hy'
        rw [hst] at hx'
        obtain ⟨X1, c1, rfl, hX1⟩ := OwnI.rd Hx.out
        obtain ⟨Y1, d1, rfl, hY1⟩ := OwnI.rd Hy.out
        obtain ⟨X2, c2, rfl, hX2⟩ := OwnI.rd hx'
        obtain ⟨Y2, d2, rfl, hY2⟩ := OwnI.rd hy'
        have HX1 := Lib.hid (Rd.below hX1 hW7)
        have HY1 := Lib.hid (Rd.below hY1 hW7)
        have HX2 := Lib.hid hX2
        have HY2 := Lib.hid hY2
        have HW7 := Lib.hid (HW6.out.trans (hW7.mono HW6.out.size))
        have Hi1 := Lib.hid (fun w hA hB => ints_eq Y1 Y2 (wasB p hv K') (wasB p hv K') d1 d2 w hA hB (by rw [hwl]; unfold maxLen; omega) rfl)
        have Hi2 := Lib.hid (fun w hA hB => ints_eq X1 X2 (stB p hv K').2 (stB p hv K').2 c1 c2 w hA hB (by unfold maxLen; omega) rfl)
        clear hwas hst hx' hy' hX1 hY1 hX2 hY2 hW7 Hx Hy hend hend' hrun hrun' hwl hsl
        go_wp2_with fail
        refine (Hi1.out _ HY1.out HY2.out).mono ?_
        rintro e w8 ⟨rfl, hW⟩
        have HW8 := Lib.hid (HW7.out.trans (hW.mono HW7.out.size))
        have HX1 := Lib.hid (Rd.below HX1.out hW)
        have HX2 := Lib.hid (Rd.below HX2.out hW)
        clear hW Hi1
        go_wp2_with fail
        refine (Hi2.out _ HX1.out HX2.out).mono ?_
        rintro e w9 ⟨rfl, hW⟩
        have HW9 := Lib.hid (HW8.out.trans (hW.mono HW8.out.size))
        clear hW Hi2
        go_wp2
        go_ret
        exact ⟨rfl, HW9.out⟩
      · exact (loop_pair Hpair.out k2 hrun hend hloop).elim
    · go_wp2_with fail
      refine (Hrun2.out _ HQ6.out (Rd.below HC.out HW6.out)).mono ?_
      rintro e w7 ⟨hW7, ⟨K', x', y', -, k2, hrun', hend', rfl, hx', hy'⟩ | ⟨hloop2, rfl⟩⟩
      · exact (pool_pair Hpair.out k2 hrun' hend' hloop).elim
      · have HW7 := Lib.hid (HW6.out.trans (hW7.mono HW6.out.size))
        have Hi1 := Lib.hid (fun w => ints_eq none none [] [] 0 0 w Rd.nil_ Rd.nil_ (by simp) rfl)
        clear hW7 hloop hloop2
        go_wp2_with fail
        refine (Hi1.out _).mono ?_
        rintro e w8 ⟨rfl, hW⟩
        have HW8 := Lib.hid (HW7.out.trans (hW.mono HW7.out.size))
        clear hW
        go_wp2_with fail
        refine (Hi1.out _).mono ?_
        rintro e w9 ⟨rfl, hW⟩
        have HW9 := Lib.hid (HW8.out.trans (hW.mono HW8.out.size))
        clear hW Hi1
        go_wp2
        go_ret
        exact ⟨rfl, HW9.out⟩
  · have Hbad := Lib.hid (knFold_bad vars A B p st cap capB w HA.out HB.out hm hmc hm' (by
      by_cases e : pkErr vars p = 0
      · exact .inr fun h => hr ⟨e, h⟩
      · exact .inl e))
    have hor : (pkErr vars p != 0) = true ∨ (pkErr vars p = 0 ∧ (startErr vars st != 0) = true) := by
      by_cases e : pkErr vars p = 0
      · exact .inr ⟨e, by rw [bne_iff_ne]; exact fun h => hr ⟨e, h⟩⟩
      · exact .inl (by rw [bne_iff_ne]; exact e)
    clear hr
    generalize pkErr vars p = a at *
    generalize startErr vars st = b at *
    rcases hor with hx | ⟨rfl, hx⟩
    all_goals
      go_enter Try.func10, Try.ntmps10
      go_wp2_with fail
      refine Hbad.out.mono ?_
      rintro e w1 ⟨⟨x, hx0, rfl⟩, hW⟩
      have HW1 := Lib.hid hW
      have q : (x != 0) = true := by rw [bne_iff_ne]; exact hx0
      clear hW hx0
      go_wp2_with (first
        | (go_at_call 23; refine (Hpc.out _ (HA.out.below HW1.out)).mono ?_; rintro e w2 ⟨rfl, hW⟩; have HW2 := Lib.hid (HW1.out.trans (hW.mono HW1.out.size)); clear hW)
        | (go_at_call 30; refine (Hsc.out _ (Rd.below HB.out HW2.out)).mono ?_; rintro e w3 ⟨rfl, rfl⟩)
        | fail)
      go_ret
      exact ⟨rfl, HW2.out⟩
end Go.Proofs.Ytadmmciiahdmcaa
