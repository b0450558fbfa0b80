/- CutWeiser walked: what is cut from a program stops with the same in what is wanted. -/
import Derived.Test.YtadmmciiahdmcaaCutJ
import Derived.Test.YtadmmciiahdmcaaAlikeR
namespace Go.Proofs.Ytadmmciiahdmcaa
set_option maxRecDepth 100000
open Go.RowKit

theorem small_ok {vars : Int} {q : List Blk} (h : pkErr vars q = 0) : smallB q := fun b hb => by
  have h1 := (pok_of h).many
  have h2 := manyB_mem hb
  omega
set_option maxHeartbeats 8000000 in
theorem cutWeiser_u (vars : Int) (A B : Option Addr) (p : List Blk) (hv : List Int) (cap want capB : Nat) (w : World) (hA : RdBk w A p) (hB : RdI w B hv) (hm : p.length ≤ maxLen) (hmc : smallB p) (hm' : hv.length ≤ maxLen) (hw : want < 4294967296) :
    Calls Try.prog 13 #[.int .i64 vars, .slice A p.length cap, .int .u32 want, .slice B hv.length capB] w fun e w' => e = .returned (.bool true) ∧ Below w.heap.size w w' := by
  have HA := Lib.hid hA
  have HB := Lib.hid hB
  by_cases h0 : pkErr vars p ≠ 0
  · have H1 := Lib.hid (slice_bad vars A p cap want w hA hm hmc h0)
    clear hA hB h0
    go_enter Try.func13, Try.ntmps13
    go_upto_region 2 with (go_at_call 37; refine H1.out.mono ?_; rintro e w1 ⟨⟨x, hx, rfl⟩, hW⟩; have HW1 := Lib.hid hW; clear hW)
    have q : (x != 0) = true := by rw [bne_iff_ne]; exact hx
    clear hx
    go_wp2
    go_ret
    exact ⟨rfl, HW1.out⟩
  have h0 : pkErr vars p = 0 := by simpa using h0
  have hp := pok_of h0
  obtain ⟨n, rfl⟩ := Int.eq_ofNat_of_zero_le (show 0 ≤ vars by have := hp.v1; omega)
  have HP := Lib.hid hp
  have hn1 := hp.n1
  have hn8 := hp.n8
  have H0 := Lib.hid h0
  have H1 := Lib.hid (slice_calls n A p cap want w hA hm hmc)
  have Hc1 := Lib.hid fun w (hA : RdBk w A p) => progCheck_calls (n : Int) A p cap w hA hm hmc
  rw [h0] at Hc1
  clear hA hB h0 hp
  go_enter Try.func13, Try.ntmps13
  go_wp2_with (go_at_call 37; refine H1.out.mono ?_; clear H1; rintro e w1 ⟨(⟨x, hx, rfl⟩ | ⟨-, hwn, Aq, cq, q, T, f, rfl, hRq, hZ⟩), hW⟩)
  · have q : (x != 0) = true := by rw [bne_iff_ne]; exact hx
    have HW1 := Lib.hid hW
    clear hx hW
    go_wp2
    go_ret
    exact ⟨rfl, HW1.out⟩
  have HW1 := Lib.hid hW
  have HZ := Lib.hid hZ
  have HRq := Lib.hid hRq
  have hql := hZ.hq.1
  have hqk := hZ.ok H0.out
  have HQ0 := Lib.hid hqk
  have hqm : q.length ≤ maxLen := by unfold maxLen; omega
  have Hc2 := Lib.hid fun w (hA : RdBk w Aq q) => progCheck_calls (n : Int) Aq q cq w hA hqm (small_ok hqk)
  rw [hqk, hql] at Hc2
  clear hW hZ hRq hqk
  by_cases hh : haveErr (n : Int) hv ≠ 0
  · have Hr := Lib.hid fun (w' : World) (hb : Below w.heap.size w w') => blkRun_bad (n : Int) A B p hv cap capB w' (HA.out.below hb) (Rd.below HB.out hb) hm hmc hm' (.inr hh)
    clear hh
    go_upto_region 7 with (first
      | (go_at_call 15; with_reducible refine (Hr.out _ HW3.out).mono ?_; rintro e w4 ⟨⟨x, hx, rfl⟩, hW⟩; have HW4 := Lib.hid (HW3.out.trans (hW.mono HW3.out.size)); clear hW)
      | (go_at_call 23; with_reducible refine (Hc1.out _ (HA.out.below HW1.out)).mono ?_; rintro e w2 ⟨rfl, hW⟩; have HW2 := Lib.hid (HW1.out.trans (hW.mono HW1.out.size)); have HRq2 := Lib.hid (HRq.out.below hW); clear hW)
      | (go_at_call 23; with_reducible refine (Hc2.out _ HRq2.out).mono ?_; rintro e w3 ⟨rfl, hW⟩; have HW3 := Lib.hid (HW2.out.trans (hW.mono HW2.out.size)); clear hW))
    have q : (x != 0) = true := by rw [bne_iff_ne]; exact hx
    clear hx
    go_wp2
    go_ret
    exact ⟨rfl, HW4.out⟩
  have hh : haveErr (n : Int) hv = 0 := by simpa using hh
  have Hr := Lib.hid fun (w' : World) (hb : Below w.heap.size w w') => blkRun_ok (n : Int) A B p hv cap capB w' (HA.out.below hb) (Rd.below HB.out hb) hm hmc hm' H0.out hh
  have Hr2 := Lib.hid fun (w' : World) (hA : RdBk w' Aq q) (hb : Below w.heap.size w w') => blkRun_ok (n : Int) Aq B q hv cq capB w' hA (Rd.below HB.out hb) hqm (small_ok HQ0.out) hm' HQ0.out hh
  rw [hql] at Hr2
  obtain ⟨hvl, hvb⟩ := haveErr_ok hh
  have Hvl := Lib.hid hvl
  have Hvb := Lib.hid hvb
  clear hh hvl hvb
  go_wp2_with (first
    | (go_at_call 23; with_reducible refine (Hc1.out _ (HA.out.below HW1.out)).mono ?_; rintro e w2 ⟨rfl, hW⟩; have HW2 := Lib.hid (HW1.out.trans (hW.mono HW1.out.size)); have HRq2 := Lib.hid (HRq.out.below hW); clear hW)
    | (go_at_call 23; with_reducible refine (Hc2.out _ HRq2.out).mono ?_; rintro e w3 ⟨rfl, hW⟩; have HW3 := Lib.hid (HW2.out.trans (hW.mono HW2.out.size)); have HRq3 := Lib.hid (HRq2.out.below hW); clear hW))
  go_at_call 15
  with_reducible refine (Hr.out _ HW3.out).mono ?_
  rintro e w4 ⟨hW, (⟨k, x, y, k1, k2, kr, ke, rfl, hO1, hO2⟩ | ⟨hr, rfl⟩)⟩
  · have HW4 := Lib.hid (HW3.out.trans (hW.mono HW3.out.size))
    have HRq4 := Lib.hid (HRq3.out.below hW)
    have Hend := Lib.hid (HZ.out.run Hvl.out Hvb.out kr ke)
    have Hkr := Lib.hid kr
    have Hke := Lib.hid ke
    have hlx := (st_ok HP.out Hvl.out Hvb.out k kr).1
    obtain ⟨A1, c1, rfl, hR1⟩ := OwnI.rd hO1
    obtain ⟨A2, c2, rfl, hR2⟩ := OwnI.rd hO2
    have HR1 := Lib.hid hR1
    clear hO1 hO2 hR1 hR2 kr ke hW Hr Hc1 Hc2
    go_wp2_with fail
    go_at_call 15
    with_reducible refine (Hr2.out _ HRq4.out HW4.out).mono ?_
    rintro e w5 ⟨hW, (⟨k', x', y', k1', k2', kr', ke', rfl, hO1, hO2⟩ | ⟨hr, rfl⟩)⟩
    · have HW5 := Lib.hid (HW4.out.trans (hW.mono HW4.out.size))
      obtain ⟨A3, c3, rfl, hR3⟩ := OwnI.rd hO1
      obtain ⟨A4, c4, rfl, hR4⟩ := OwnI.rd hO2
      have HR3 := Lib.hid hR3
      have HR15 := Lib.hid (Rd.below HR1.out hW)
      obtain ⟨k'', e1, e2, e3, e4⟩ := Hend.out
      obtain rfl : k' = k'' := by
        rcases Nat.lt_trichotomy k' k'' with h | h | h
        · have := e2 k' h; omega
        · exact h
        · have := kr' k'' h; omega
      have Hal := Lib.hid (alike_calls A1 A3 (stB p hv k).2 (stB q hv k').2 c1 c3 want w5 HR15.out HR3.out (by have := HP.out.v6; omega) hw e4)
      have hlw : (wasB q hv k').length ≤ (wasB p hv k).length := by rw [wasB_len, wasB_len]; exact e1
      have d1 : decide (((wasB q hv k').length : Int) ≤ ((wasB p hv k).length : Int)) = true := decide_eq_true (by omega)
      clear hO1 hO2 hR3 hR4 kr' ke' hW e2 e3 e4 Hend hlx Hr2
      generalize (stB p hv k).2 = xa at *
      generalize (stB q hv k').2 = xb at *
      generalize wasB q hv k' = wa at *
      generalize wasB p hv k = wb at *
      go_wp2_with (go_at_call 26; refine Hal.out.mono ?_; rintro e w6 ⟨rfl, nq, rfl⟩)
      go_ret
      exact ⟨rfl, below_dN HW5.out _⟩
    · exfalso
      obtain ⟨k'', e1, e2, e3, e4⟩ := Hend.out
      have := hr k'' (by omega)
      omega
  · have HW4 := Lib.hid (HW3.out.trans (hW.mono HW3.out.size))
    clear hr hW
    go_wp2
    go_ret
    exact ⟨rfl, HW4.out⟩
end Go.Proofs.Ytadmmciiahdmcaa
