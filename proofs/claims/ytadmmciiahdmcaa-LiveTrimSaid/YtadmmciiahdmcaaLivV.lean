/- LiveTrim walked: what is not needed may go. -/
import Derived.Test.YtadmmciiahdmcaaLivU
import Derived.Test.YtadmmciiahdmcaaProgsR
import Derived.Test.YtadmmciiahdmcaaAlikeR
import Derived.Test.YtadmmciiahdmcaaFitsR
import Derived.Test.YtadmmciiahdmcaaBlkE
namespace Go.Proofs.Ytadmmciiahdmcaa
set_option maxRecDepth 100000
open Go.RowKit

theorem small_okT {vars : Int} {q : List Blk} (h : pkErr vars q = 0) : smallB q := fun b hb => by
  have h1 := (pok_of h).many
  have h2 := manyB_mem hb
  omega
set_option maxHeartbeats 1000000 in
theorem trim_bad (vars : Int) (A : Option Addr) (p : List Blk) (cap want : Nat) (w : World) (hA : RdBk w A p) (hm : p.length ≤ maxLen) (hmc : smallB p) (h0 : lvErr vars p want ≠ 0) :
    Calls Try.prog 27 #[.int .i64 vars, .slice A p.length cap, .int .u32 want] w fun e w' => (∃ x, x ≠ 0 ∧ e = .returned (.tuple #[.slice none 0 0, .int .i64 x])) ∧ Below w.heap.size w w' := by
  have Hwr := Lib.hid (lvWrong_calls vars A p cap want w hA hm hmc)
  have q : (lvErr vars p want != 0) = true := by rw [bne_iff_ne]; exact h0
  have H0 := Lib.hid h0
  clear hA h0
  generalize lvErr vars p want = x at *
  refine calls_of_marks Try.func27 rfl ?_
  simp only [Try.ntmps27, List.size_toArray, List.length_cons, List.length_nil, Nat.reduceAdd, Nat.reduceSub, Array.replicate_succ, Array.replicate_zero, List.push_toArray, List.append_toArray, List.nil_append, List.cons_append]
  go_wp2_with (go_at_call 43; refine Hwr.out.mono ?_; rintro e w1 ⟨rfl, hW⟩; have HW1 := Lib.hid hW; clear hW)
  refine marks_all (Marks.nil w1.heap.size _) (fun W' hS => ⟨_, results_tmp2 rfl _ _ _, ⟨x, H0.out, rfl⟩, HW1.out.trans (hS.below.mono HW1.out.size)⟩)
set_option maxHeartbeats 8000000 in
theorem liveTrim_u (vars : Int) (A B : Option Addr) (p : List Blk) (hv : List Int) (cap want capB : Nat) (w : World) (hA : RdBk w A p) (hB : RdI w B hv) (hm : p.length ≤ maxLen) (hmc : smallB p) (hm' : hv.length ≤ maxLen) (hw : want < 4294967296) :
    Calls Try.prog 7 #[.int .i64 vars, .slice A p.length cap, .int .u32 want, .slice B hv.length capB] w fun e w' => e = .returned (.bool true) ∧ Below w.heap.size w w' := by
  have HA := Lib.hid hA
  have HB := Lib.hid hB
  have Hc1 := Lib.hid fun w (hA : RdBk w A p) => progCheck_calls vars A p cap w hA hm hmc
  by_cases h0 : lvErr vars p want ≠ 0
  · have H1 := Lib.hid (trim_bad vars A p cap want w hA hm hmc h0)
    by_cases h1 : pkErr vars p = 0
    · have Hp := Lib.hid (pok_of h1)
      obtain ⟨n, rfl⟩ := Int.eq_ofNat_of_zero_le (show 0 ≤ vars by have := Hp.out.v1; omega)
      have hf : ¬ want < 2 ^ n := fun h => h0 (by unfold lvErr; rw [if_pos h1, Int.toNat_natCast, if_pos h])
      have HF := Lib.hid (fun w => fits_calls n want w (by have := Hp.out.v6; omega))
      rw [decide_eq_false hf] at HF
      rw [h1] at Hc1
      clear h0 h1 hf hA hB hm hmc hm'
      go_enter Try.func7, Try.ntmps7
      go_upto_region 3 with (first
        | (go_at_call 27; refine H1.out.mono ?_; rintro e w1 ⟨⟨x, hx, rfl⟩, hW⟩; have HW1 := Lib.hid hW; clear hW)
        | (go_at_call 23; refine (Hc1.out _ (HA.out.below HW1.out)).mono ?_; rintro e w2 ⟨rfl, hW⟩; have HW2 := Lib.hid (HW1.out.trans (hW.mono HW1.out.size)); clear hW)
        | (go_at_call 24; refine (HF.out _).mono ?_; rintro e w3 ⟨rfl, rfl⟩))
      have q : (x != 0) = true := by rw [bne_iff_ne]; exact hx
      clear hx
      go_wp2
      go_ret
      exact ⟨rfl, HW2.out⟩
    · have q1 : (pkErr vars p != 0) = true := by rw [bne_iff_ne]; exact h1
      clear h0 h1 hA hB hm hmc hm'
      generalize pkErr vars p = y at *
      go_enter Try.func7, Try.ntmps7
      go_upto_region 3 with (first
        | (go_at_call 27; refine H1.out.mono ?_; rintro e w1 ⟨⟨x, hx, rfl⟩, hW⟩; have HW1 := Lib.hid hW; clear hW)
        | (go_at_call 23; refine (Hc1.out _ (HA.out.below HW1.out)).mono ?_; rintro e w2 ⟨rfl, hW⟩; have HW2 := Lib.hid (HW1.out.trans (hW.mono HW1.out.size)); clear hW))
      have q : (x != 0) = true := by rw [bne_iff_ne]; exact hx
      clear hx
      go_wp2
      go_ret
      exact ⟨rfl, HW2.out⟩
  have h0 : lvErr vars p want = 0 := by simpa using h0
  have h1 : pkErr vars p = 0 := by
    by_cases h : pkErr vars p = 0
    · exact h
    · unfold lvErr at h0; rw [if_neg h] at h0; exact absurd h0 h
  have hp := pok_of h1
  obtain ⟨n, rfl⟩ := Int.eq_ofNat_of_zero_le (show 0 ≤ vars by have := hp.v1; omega)
  have hwn : want < 2 ^ n := by
    unfold lvErr at h0
    rw [if_pos h1, Int.toNat_natCast] at h0
    by_cases h : want < 2 ^ n
    · exact h
    · rw [if_neg h] at h0; cases h0
  have HP := Lib.hid hp
  have hn1 := hp.n1
  have hn8 := hp.n8
  have hn6 : n ≤ 6 := by have := hp.v6; omega
  have HF := Lib.hid (fun w => fits_calls n want w (by omega))
  rw [decide_eq_true hwn] at HF
  have H1 := Lib.hid (trim_ok n A p cap want w hA hm hmc h1 hwn)
  rw [h1] at Hc1
  have Hwn := Lib.hid hwn
  have Hpk := Lib.hid h1
  have Hg := Lib.hid fun (w' : World) (h : RdI w' B hv) => given_calls (n : Int) B hv capB w' h hm'
  clear h0 h1 hp hwn hA hB
  go_enter Try.func7, Try.ntmps7
  go_wp2_with fail
  go_at_call 27
  with_reducible refine H1.out.mono ?_
  rintro e w1 ⟨Aq, cq, q, rfl, hT, hRq, hql, hW⟩
  have HW1 := Lib.hid hW
  have HT := Lib.hid hT
  have HRq := Lib.hid hRq
  obtain ⟨hq0, -, hrun⟩ := hT.run rfl Hwn.out Hpk.out
  have Hq0 := Lib.hid hq0
  have Hrun := Lib.hid hrun
  have hqm : q.length ≤ maxLen := by rw [hql]; exact hm
  have H2 := Lib.hid fun (w' : World) (hA : RdBk w' Aq q) => trim_ok n Aq q cq want w' hA hqm (small_okT hq0) hq0 Hwn.out
  rw [hql] at H2
  clear hW hT hRq hq0 hrun H1
  go_upto_region 4 with (first
    | (go_at_call 23; refine (Hc1.out _ (HA.out.below HW1.out)).mono ?_; rintro e w2 ⟨rfl, hW⟩; have HW2 := Lib.hid (HW1.out.trans (hW.mono HW1.out.size)); have HRq2 := Lib.hid (HRq.out.below hW); clear hW)
    | (go_at_call 24; refine (HF.out _).mono ?_; rintro e w3 ⟨rfl, rfl⟩))
  go_wp2_with fail
  go_at_call 27
  with_reducible refine (H2.out _ HRq2.out).mono ?_
  rintro e w4 ⟨Ar, cr, r, rfl, hT2, hRr, hrl, hW⟩
  obtain rfl := hT2.same HT.out.tight
  have HW4 := Lib.hid (HW2.out.trans (hW.mono HW2.out.size))
  have HRq4 := Lib.hid (HRq2.out.below hW)
  have Hps := Lib.hid (progs_same Aq Ar r cq cr w4 HRq4.out hRr (by rw [hql]; exact hn8) (fun b hb => by have := manyB_mem hb; have := (pok_of Hq0.out).many; omega))
  rw [hql] at Hps
  clear hT2 hRr hW H2
  by_cases hh : haveErr (n : Int) hv = 0
  · have Hr := Lib.hid fun (w' : World) (hb : Below w.heap.size w w') => blkRun_ok (n : Int) A B p hv cap capB w' (HA.out.below hb) (Rd.below HB.out hb) hm hmc hm' Hpk.out hh
    have Hr2 := Lib.hid fun (w' : World) (hA : RdBk w' Aq r) (hb : Below w.heap.size w w') => blkRun_ok (n : Int) Aq B r hv cq capB w' hA (Rd.below HB.out hb) hqm (small_okT Hq0.out) hm' Hq0.out hh
    rw [hql] at Hr2
    obtain ⟨hvl, hvb⟩ := haveErr_ok hh
    have Hlike := Lib.hid (Hrun.out hv hvl hvb)
    have hlx := fun k (hr : runsB p hv k) => (st_ok HP.out hvl hvb k hr).1
    have Hlx := Lib.hid hlx
    have qh : (haveErr (n : Int) hv == 0) = true := by rw [beq_iff_eq]; exact hh
    rw [qh] at Hg
    clear hh hvl hvb hlx Hrun qh
    go_upto_region 9 with (first
      | (go_at_call 28; refine Hps.out.mono ?_; rintro e w5 ⟨rfl, hW⟩; have HW5 := Lib.hid (HW4.out.trans (hW.mono HW4.out.size)); have HRq5 := Lib.hid (HRq4.out.below hW); clear hW)
      | (go_at_call 19; refine (Hg.out _ (Rd.below HB.out HW5.out)).mono ?_; rintro e w6 ⟨rfl, rfl⟩))
    go_wp2_with fail
    go_at_call 15
    with_reducible refine (Hr.out _ HW5.out).mono ?_
    rintro e w7 ⟨hW, (⟨k, x, y, k1, k2, kr, ke, rfl, hO1, hO2⟩ | ⟨hr, rfl⟩)⟩
    · have HW7 := Lib.hid (HW5.out.trans (hW.mono HW5.out.size))
      have HRq7 := Lib.hid (HRq5.out.below hW)
      have Hkr := Lib.hid kr
      have Hke := Lib.hid ke
      obtain ⟨A1, c1, rfl, hR1⟩ := OwnI.rd hO1
      obtain ⟨A2, c2, rfl, hR2⟩ := OwnI.rd hO2
      have HR1 := Lib.hid hR1
      have HR2 := Lib.hid hR2
      clear hO1 hO2 hR1 hR2 kr ke hW Hr Hc1
      go_wp2_with fail
      go_at_call 15
      with_reducible refine (Hr2.out _ HRq7.out HW7.out).mono ?_
      rintro e w8 ⟨hW, (⟨k', x', y', k1', k2', kr', ke', rfl, hO1, hO2⟩ | ⟨hr, rfl⟩)⟩
      · have HW8 := Lib.hid (HW7.out.trans (hW.mono HW7.out.size))
        obtain ⟨A3, c3, rfl, hR3⟩ := OwnI.rd hO1
        obtain ⟨A4, c4, rfl, hR4⟩ := OwnI.rd hO2
        have hl1 : ∀ k, runsB p hv k → (stB r hv k).1 = (stB p hv k).1 := fun k hk => (Hlike.out k hk).1
        obtain rfl : k' = k := end_pair hl1 Hkr.out Hke.out kr' ke'
        have hwas : wasB r hv k' = wasB p hv k' := was_pair hl1 Hkr.out
        have hal := (Hlike.out k' Hkr.out).2 Hke.out
        have hlx := Hlx.out k' Hkr.out
        have Hal := Lib.hid (alike_calls A1 A3 (stB p hv k').2 (stB r hv k').2 c1 c3 want w8 (Rd.below HR1.out hW) hR3 (by omega) hw hal)
        have Hie := Lib.hid (ints_eq A2 A4 (wasB p hv k') (wasB r hv k') c2 c4 w8 (Rd.below HR2.out hW) hR4 (by rw [wasB_len]; unfold maxLen; omega) hwas.symm)
        have Hsub := Lib.hid fun w' (hb : Below w8.heap.size w8 w') => alike_calls A1 A3 (stB p hv k').2 (stB r hv k').2 c1 c3 want w' (Rd.below (Rd.below HR1.out hW) hb) (Rd.below hR3 hb) (by omega) hw hal
        clear hO1 hO2 hR3 hR4 kr' ke' hW hl1 hwas hal hlx Hr2 Hal Hlike Hlx
        generalize (stB p hv k').2 = xa at *
        generalize (stB r hv k').2 = xb at *
        generalize wasB r hv k' = wa at *
        generalize wasB p hv k' = wb at *
        go_wp2_with (first
          | (go_at_call 17; refine Hie.out.mono ?_; rintro e w9 ⟨rfl, hW⟩; have HW9 := Lib.hid hW; clear hW)
          | (go_at_call 26; refine (Hsub.out _ HW9.out).mono ?_; rintro e w10 ⟨rfl, nq, rfl⟩))
        go_ret
        exact ⟨rfl, below_dN (HW8.out.trans (HW9.out.mono HW8.out.size)) _⟩
      · exfalso
        exact loop_pair (fun k hk => (Hlike.out k hk).1) k2 Hkr.out Hke.out hr
    · have HW7 := Lib.hid (HW5.out.trans (hW.mono HW5.out.size))
      have HRq7 := Lib.hid (HRq5.out.below hW)
      have Hkr := Lib.hid hr
      clear hr hW Hr Hc1
      go_wp2_with fail
      go_at_call 15
      with_reducible refine (Hr2.out _ HRq7.out HW7.out).mono ?_
      rintro e w8 ⟨hW, (⟨k', x', y', k1', k2', kr', ke', rfl, hO1, hO2⟩ | ⟨hr, rfl⟩)⟩
      · exfalso
        exact pool_pair (fun k hk => (Hlike.out k hk).1) k2' kr' ke' Hkr.out
      · have HW8 := Lib.hid (HW7.out.trans (hW.mono HW7.out.size))
        have Hie := Lib.hid (ints_eq none none [] [] 0 0 w8 (fun h => by simp at h) (fun h => by simp at h) (by simp [maxLen]) rfl)
        simp only [List.length_nil] at Hie
        clear hr hW
        go_wp2_with (go_at_call 17; refine Hie.out.mono ?_; rintro e w9 ⟨rfl, hW⟩; have HW9 := Lib.hid hW; clear hW)
        go_ret
        exact ⟨rfl, HW8.out.trans (HW9.out.mono HW8.out.size)⟩
  · have qh : (haveErr (n : Int) hv == 0) = false := by rw [beq_eq_false_iff_ne]; exact hh
    rw [qh] at Hg
    clear hh qh
    go_wp2_with (first
      | (go_at_call 28; refine Hps.out.mono ?_; rintro e w5 ⟨rfl, hW⟩; have HW5 := Lib.hid (HW4.out.trans (hW.mono HW4.out.size)); clear hW)
      | (go_at_call 19; refine (Hg.out _ (Rd.below HB.out HW5.out)).mono ?_; rintro e w6 ⟨rfl, rfl⟩))
    go_ret
    exact ⟨rfl, HW5.out⟩
end Go.Proofs.Ytadmmciiahdmcaa
