/- LiveSafe walked. -/
import Derived.Test.YtadmmciiahdmcaaLivD
import Derived.Test.YtadmmciiahdmcaaBlkU
import Derived.Test.YtadmmciiahdmcaaBitR
namespace Go.Proofs.Ytadmmciiahdmcaa
open Go.RowKit

set_option maxHeartbeats 1000000 in
theorem alike_calls (A B : Option Addr) (a b : List Int) (ca cb s : Nat) (w : World) (hA : RdI w A a) (hB : RdI w B b) (hl : a.length ≤ 8) (hs : s < 4294967296) (h : aliL s a b) :
    Calls Try.prog 26 #[.slice A a.length ca, .slice B b.length cb, .int .u32 s] w fun e w' => e = .returned (.bool true) ∧ ∃ nq, w' = w.drewN nq := by
  have HA := Lib.hid hA
  have HB := Lib.hid hB
  have H := Lib.hid h.2
  have Hl := Lib.hid h.1
  have hl2 : ((a.length : Nat) : Int) ≤ ((b.length : Nat) : Int) := by have := h.1; omega
  have hl3 : ((b.length : Nat) : Int) ≤ ((a.length : Nat) : Int) := by have := h.1; omega
  clear hA hB h
  go_enter Try.func26, Try.ntmps26
  go_wp2
  go_loopw [7] (fun i wr => ∃ k : Nat, k ≤ a.length ∧ i = .int .i64 k ∧ Hid (∃ nq, wr = w.drewN nq)) (fun i _ => a.length - (intOf i).toNat)
  case atStart => exact ⟨0, Nat.zero_le _, rfl, Lib.hid ⟨0, rfl⟩⟩
  case round =>
    obtain ⟨k, hk, rfl, HN⟩ := hrel
    by_cases hlt : k < a.length
    · obtain ⟨b1, o1, rfl, hb1, m1⟩ := RdI.at1 HA.out hlt
      obtain ⟨b2, o2, rfl, hb2, m2⟩ := RdI.at1 HB.out (k := k) (by have := Hl.out; omega)
      have m1 : wr.cell? ⟨b1, o1 + k, none⟩ = some (.int .i64 a[k]) := by obtain ⟨nq, rfl⟩ := HN.out; exact m1
      have m2 : wr.cell? ⟨b2, o2 + k, none⟩ = some (.int .i64 (b[k]'(by have := Hl.out; omega))) := by obtain ⟨nq, rfl⟩ := HN.out; exact m2
      have q1 : ((k : Nat) : Int) < ((a.length : Nat) : Int) := by omega
      have q2 : ((k : Nat) : Int) < ((b.length : Nat) : Int) := by omega
      have k32 : k < 32 := by omega
      have hk2 := H.out k
      rw [getI_get hlt, getI_get (by have := Hl.out; omega)] at hk2
      have Hb := Lib.hid (fun w => bit_calls s k w hs k32)
      by_cases hb : s.testBit k = true
      · have he := hk2 hb
        rw [hb] at Hb
        have q3 : (a[k] != b[k]'(by have := Hl.out; omega)) = false := by rw [bne_eq_false_iff_eq]; exact he
        rw [← he] at m2 q3
        clear hk2 he
        generalize a[k] = x at *
        go_wp2
        go_quiet ((go_at_call 25; exact Calls.quiet_of_same (Hb.out _)))
        go_wp2
        go_roundw
        case rel => exact ⟨k + 1, by omega, by go_num, Lib.hid (by obtain ⟨n0, rfl⟩ := HN.out; exact ⟨_, World.drewN_drewN _ _ _⟩)⟩
        case measure => simp [intOf]; omega
      · have hb' : s.testBit k = false := by simpa using hb
        rw [hb'] at Hb
        clear hk2 hb
        generalize a[k] = x at *
        generalize b[k]'(by have := Hl.out; omega) = y at *
        go_wp2
        go_quiet ((go_at_call 25; exact Calls.quiet_of_same (Hb.out _)))
        go_wp2
        go_roundw
        case rel => exact ⟨k + 1, by omega, by go_num, Lib.hid (by obtain ⟨n0, rfl⟩ := HN.out; exact ⟨_, World.drewN_drewN _ _ _⟩)⟩
        case measure => simp [intOf]; omega
    · have : k = a.length := by omega
      subst this
      have q5 : (((a.length : Nat) : Int) == ((b.length : Nat) : Int)) = true := by rw [beq_iff_eq]; omega
      go_wp2
      go_ret
      exact ⟨rfl, HN.out⟩

/-- What the copy holds so far. -/
structure Mx (s n k : Nat) (a m : List Int) : Prop where
  len : m.length = n
  bd : ∀ x ∈ m, 0 ≤ x ∧ x ≤ 255
  same : ∀ i, i < k → s.testBit i = true → m.getD i 0 = a.getD i 0
theorem Mx.skip {s n k : Nat} {a m : List Int} (h : Mx s n k a m) (hb : s.testBit k = false) : Mx s n (k + 1) a m := ⟨h.len, h.bd, fun i hi hs => by
  by_cases e : i = k
  · subst e; rw [hb] at hs; cases hs
  · exact h.same i (by omega) hs⟩
theorem Mx.take {s n k : Nat} {a m : List Int} (h : Mx s n k a m) (hk : k < n) (ha : a.length = n) (hbd : ∀ x ∈ a, 0 ≤ x ∧ x ≤ 255) : Mx s n (k + 1) a (m.set k (a[k]'(by omega))) := ⟨by rw [List.length_set]; exact h.len, fun x hx => by
  rcases List.mem_or_eq_of_mem_set hx with hx | rfl
  · exact h.bd x hx
  · exact hbd _ (List.getElem_mem _), fun i hi hs => by
  rw [getD_setI _ _ (by rw [h.len]; exact hk)]
  by_cases e : k = i
  · subst e; rw [if_pos rfl, getI_get (by omega)]
  · rw [if_neg e]; exact h.same i (by omega) hs⟩
theorem Mx.all {s n : Nat} {a m : List Int} (h : Mx s n n a m) (ha : a.length = n) : aliL s a m := ⟨by rw [h.len, ha], fun k hk => by
  rcases Nat.lt_or_ge k n with h1 | h1
  · exact (h.same k h1 hk).symm
  · rw [List.getD_eq_getElem?_getD, List.getD_eq_getElem?_getD, List.getElem?_eq_none (by omega), List.getElem?_eq_none (by rw [h.len]; omega)]⟩
theorem Mx.start {s n : Nat} {a b : List Int} (hb : b.length = n) (hbd : ∀ x ∈ b, 0 ≤ x ∧ x ≤ 255) : Mx s n 0 a b := ⟨hb, hbd, fun i hi => by omega⟩

set_option maxRecDepth 100000 in
set_option maxHeartbeats 8000000 in
theorem liveSafe_u (vars : Int) (A B C : Option Addr) (p : List Blk) (a b : List Int) (cap capB capC want : Nat) (w : World) (hA : RdBk w A p) (hB : RdI w B a) (hC : RdI w C b) (hm : p.length ≤ maxLen) (hmc : smallB p) (hma : a.length ≤ maxLen) (hmb : b.length ≤ maxLen) (hw : want < 4294967296) :
    Calls Try.prog 6 #[.int .i64 vars, .slice A p.length cap, .int .u32 want, .slice B a.length capB, .slice C b.length capC] w fun e w' => e = .returned (.bool true) ∧ Below w.heap.size w w' := by
  have HA := Lib.hid hA
  have HB := Lib.hid hB
  have HC := Lib.hid hC
  have HP := Lib.hid (fun w hA => progCheck_calls vars A p cap w hA hm hmc)
  by_cases h0 : lvErr vars p want = 0
  case neg =>
    have Hbad := Lib.hid (lvIn_bad vars A p cap want w hA hm hmc hw h0)
    have q : (lvErr vars p want != 0) = true := by rw [bne_iff_ne]; exact h0
    by_cases h1 : pkErr vars p = 0
    · have Hp := Lib.hid (pok_of h1)
      obtain ⟨n, rfl⟩ := Int.eq_ofNat_of_zero_le (show 0 ≤ vars by have := Hp.out.v1; omega)
      have hf : ¬ want < 2 ^ n := fun h => h0 (by unfold lvErr; rw [if_pos h1, Int.toNat_natCast, if_pos h])
      have HF := Lib.hid (fun w => fits_calls n want w (by have := Hp.out.v6; omega))
      rw [decide_eq_false hf] at HF
      rw [h1] at HP
      clear h0 h1 hf hA hB hC hm hmc hma hmb
      generalize lvErr (n : Int) p want = x at *
      go_enter Try.func6, Try.ntmps6
      go_wp2_with fail
      refine Hbad.out.mono ?_; rintro e w1 ⟨rfl, hW⟩; have HW1 := Lib.hid hW; clear hW
      go_wp2_with fail
      refine (HP.out _ (HA.out.below HW1.out)).mono ?_; rintro e w2 ⟨rfl, hW⟩; have HW2 := Lib.hid (HW1.out.trans (hW.mono HW1.out.size)); clear hW
      go_wp2_with fail
      refine (HF.out _).mono ?_; rintro e w3 ⟨rfl, rfl⟩
      go_wp2
      go_ret
      exact ⟨rfl, HW2.out⟩
    · have q1 : (pkErr vars p != 0) = true := by rw [bne_iff_ne]; exact h1
      clear h0 h1 hA hB hC hm hmc hma hmb
      generalize lvErr vars p want = x at *
      generalize pkErr vars p = y at *
      go_enter Try.func6, Try.ntmps6
      go_wp2_with fail
      refine Hbad.out.mono ?_; rintro e w1 ⟨rfl, hW⟩; have HW1 := Lib.hid hW; clear hW
      go_wp2_with fail
      refine (HP.out _ (HA.out.below HW1.out)).mono ?_; rintro e w2 ⟨rfl, hW⟩; have HW2 := Lib.hid (HW1.out.trans (hW.mono HW1.out.size)); clear hW
      go_wp2
      go_ret
      exact ⟨rfl, HW2.out⟩
  obtain ⟨h1, h2⟩ := lvErr_ok h0
  have Hp := Lib.hid (pok_of h1)
  have R1 := Lib.hid h1
  obtain ⟨n, rfl⟩ := Int.eq_ofNat_of_zero_le (show 0 ≤ vars by have := Hp.out.v1; omega)
  have hn6 : n ≤ 6 := by have := Hp.out.v6; omega
  have hn1 : 1 ≤ n := by have := Hp.out.v1; omega
  rw [Int.toNat_natCast] at h2
  have HF := Lib.hid (fun w => fits_calls n want w (by omega))
  rw [decide_eq_true h2] at HF
  rw [h1] at HP
  have Hin := Lib.hid (lvIn_ok (n : Int) A p cap want w hA hm hmc hw h0)
  have Hg1 := Lib.hid (fun w hB => given_calls (n : Int) B a capB w hB hma)
  have Hg2 := Lib.hid (fun w hC => given_calls (n : Int) C b capC w hC hmb)
  have H2 := Lib.hid h2
  have hp8 := Hp.out.n8
  have hp1 := Hp.out.n1
  clear h0 h1 h2 hA hB hC
  go_enter Try.func6, Try.ntmps6
  go_wp2_with fail
  refine Hin.out.mono ?_; rintro e w1 ⟨x1, F, rfl, hS, hL, hO, hW⟩
  rw [Int.toNat_natCast] at hL
  have HS := Lib.hid hS; have HL := Lib.hid hL; have HW1 := Lib.hid hW; clear hW hL
  have hFl : F.length = p.length := by obtain ⟨⟨k, rfl⟩, _⟩ := hS; exact lvK_len _ _ _
  obtain ⟨A1, c1, rfl, hR1⟩ := OwnU.rd hO
  have HR1 := Lib.hid hR1
  have HFl := Lib.hid hFl
  rw [hFl]
  clear hO hR1 hFl hS
  go_wp2_with fail
  refine (HP.out _ (HA.out.below HW1.out)).mono ?_; rintro e w2 ⟨rfl, hW⟩; have HW2 := Lib.hid (HW1.out.trans (hW.mono HW1.out.size)); have HR2 := Lib.hid (Rd.below HR1.out hW); clear hW HR1
  go_wp2_with fail
  refine (HF.out _).mono ?_; rintro e w3 ⟨rfl, rfl⟩
  go_wp2_with fail
  refine (Hg1.out _ (Rd.below HB.out HW2.out)).mono ?_; rintro e w4 ⟨rfl, rfl⟩
  by_cases g1 : haveErr (n : Int) a = 0
  case neg =>
    have q : (haveErr (n : Int) a == 0) = false := by rw [beq_eq_false_iff_ne]; exact g1
    rw [q]
    clear g1 q
    go_wp2
    go_ret
    exact ⟨rfl, HW2.out⟩
  have q : (haveErr (n : Int) a == 0) = true := by rw [beq_iff_eq]; exact g1
  rw [q]
  clear q
  have G1 := Lib.hid g1
  clear g1
  go_wp2_with fail
  refine (Hg2.out _ (Rd.below HC.out HW2.out)).mono ?_; rintro e w5 ⟨rfl, rfl⟩
  by_cases g2 : haveErr (n : Int) b = 0
  case neg =>
    have q : (haveErr (n : Int) b == 0) = false := by rw [beq_eq_false_iff_ne]; exact g2
    rw [q]
    clear g2 q
    go_wp2
    go_ret
    exact ⟨rfl, HW2.out⟩
  have q : (haveErr (n : Int) b == 0) = true := by rw [beq_iff_eq]; exact g2
  rw [q]
  clear q
  have G2 := Lib.hid g2
  have Ga := Lib.hid (haveErr_ok G1.out)
  have Gb := Lib.hid (haveErr_ok g2)
  have hal : a.length = n := by have := Ga.out.1; omega
  have hbl : b.length = n := by have := Gb.out.1; omega
  have Hal := Lib.hid hal
  have Hbl := Lib.hid hbl
  have hal1 : a.length ≤ 6 := by omega
  have hal2 : (n : Int) ≤ (a.length : Int) := by omega
  have hw3 := HW2.out.size
  have HE := Lib.hid (own_new intCells 1 3 intCells_len w5 w5.heap.size (Nat.le_refl _) [] (by simp [maxLen]))
  have HRc := Lib.hid (Rd.below (Rd.below HC.out HW2.out) ((Below.refl w5.heap.size w5).alloc (Nat.le_refl _) (.cells #[] 3)))
  obtain ⟨v3, w6, hrun, hO3, hg3, -⟩ := run_appN (P := Try.prog) 23 23 intCells 1 8 3 (.int .i64 0) Try.underlying23 infoInt rfl (by decide) intCells_len intCells_one w5.heap.size _ [] HE.out C b capC HRc.out (by simp [maxLen]; omega) (by simp; omega) (by simp)
  rw [List.nil_append] at hO3
  obtain ⟨g, vc, rfl, hgb, hgl, -⟩ := OwnI.at_ hO3 (by omega)
  have HO3 := Lib.hid hO3
  have HB6 := Lib.hid (((Below.refl w5.heap.size w5).alloc (Nat.le_refl _) (.cells #[] 3)).grown hg3 (by simp) (fun k e => by have e : some w5.heap.size = some k := e; injection e with e; omega))
  have Hrun := Lib.hid hrun
  have HMx := Lib.hid (Mx.start (s := getU F 0) (a := a) hbl Gb.out.2)
  clear hO3 hg3 hrun HE HRc g2 hal hbl
  go_wp2_with (at_builtin; refine wpList_app_run rfl 23 _ _ rfl rfl rfl Hrun.out ?_; clear Hrun)
  go_loopw [14] (fun i wr => ∃ (k : Nat) (m : List Int), k ≤ n ∧ i = .int .i64 k ∧ OwnI wr w5.heap.size 3 (.slice (some ⟨g, 0, none⟩) b.length vc) m ∧ Hid (Mx (getU F 0) n k a m) ∧ Below w5.heap.size w5 wr) (fun i _ => n - (intOf i).toNat)
  case atStart => exact ⟨0, b, Nat.zero_le _, rfl, HO3.out, HMx, HB6.out⟩
  case round =>
    obtain ⟨k, m, hk, rfl, hO, HM, hW⟩ := hrel
    have HO := Lib.hid hO
    have HW := Lib.hid hW
    have hws := hW.size
    clear hO hW
    by_cases hlt : k < n
    · obtain ⟨b1, o1, rfl, hb1, m1⟩ := RdI.at1 (Rd.below (Rd.below HB.out HW2.out) HW.out) (k := k) (by have := Hal.out; omega)
      have Hsk := Lib.hid (HM.out.skip)
      have Htk := Lib.hid (HM.out.take hlt Hal.out Ga.out.2)
      obtain ⟨b0, o0, rfl, hb0, f0⟩ := RdU.at1 (Rd.below HR2.out HW.out) (k := 0) (by have := HFl.out; omega)
      have e0 : F[0]'(by have := HFl.out; omega) = getU F 0 := (getU_get (by have := HFl.out; omega)).symm
      rw [e0, Nat.add_zero] at f0
      have hF0 : getU F 0 < 4294967296 := Nat.lt_of_lt_of_le (HL.out 0) (Nat.le_trans (Nat.pow_le_pow_right (by decide) hn6) (by decide))
      have Hb := Lib.hid (fun w => bit_calls (getU F 0) k w hF0 (by omega))
      obtain ⟨g9, eg9, _, hg9, _, hfz, hcell⟩ := OwnI.at2 HO.out (by have := HM.out.len; omega)
      injection eg9 with eg9; injection eg9 with eg9
      subst eg9
      have cg := hcell k (by have := HM.out.len; omega)
      have fg := hfz k
      have HOs := Lib.hid (OwnI.set_ HO.out (k := k) (by have := HM.out.len; omega) (a[k]'(by have := Hal.out; omega)))
      have HWs := Lib.hid (HW.out.setCell (p := ⟨g, k, none⟩) (show w5.heap.size ≤ g by omega) (.int .i64 (a[k]'(by have := Hal.out; omega))))
      have Hlt := Lib.hid hlt
      have q1 : ((k : Nat) : Int) < (n : Int) := by omega
      have q2 : ((k : Nat) : Int) < ((a.length : Nat) : Int) := by omega
      have q3 : ((k : Nat) : Int) < ((b.length : Nat) : Int) := by have := Hbl.out; omega
      have q4 : (0 : Int) < ((p.length : Nat) : Int) := by omega
      obtain ⟨y, hy⟩ : ∃ y, y = m[k]'(by have := HM.out.len; omega) := ⟨_, rfl⟩
      rw [← hy] at cg
      clear hcell hfz hy e0 hF0
      generalize a[k]'(by have := Hal.out; omega) = x at *
      generalize getU F 0 = s at *
      by_cases hb : s.testBit k = true
      · rw [hb] at Hb
        clear hb Hsk
        go_wp2_with (go_at_call 25; refine (Hb.out _).mono ?_; rintro e w' ⟨rfl, rfl⟩)
        go_roundw
        case rel => exact ⟨k + 1, _, by have := Hlt.out; omega, by go_num, HOs.out, Htk, HWs.out⟩
        case measure => have := Hlt.out; simp [intOf]; omega
      · have hb' : s.testBit k = false := by simpa using hb
        rw [hb'] at Hb
        have Hsk := Lib.hid (Hsk.out hb')
        clear hb hb' Htk
        go_wp2_with (go_at_call 25; refine (Hb.out _).mono ?_; rintro e w' ⟨rfl, rfl⟩)
        go_roundw
        case rel => exact ⟨k + 1, m, by have := Hlt.out; omega, by go_num, HO.out, Hsk, HW.out⟩
        case measure => have := Hlt.out; simp [intOf]; omega
    · have hkn : k = n := by omega
      subst hkn
      have hml := HM.out.len
      have Hm0 := Lib.hid (haveErr_0 (vars := (k : Int)) (l := m) (by omega) HM.out.bd)
      have Hali := Lib.hid (HM.out.all Hal.out)
      have HWw := Lib.hid (HW2.out.trans (HW.out.mono hw3))
      obtain ⟨M1, d1, e1, hM1⟩ := OwnI.rd HO.out
      injection e1 with e11 e12 e13
      subst e11 e13
      have HM1 := Lib.hid hM1
      have Hml := Lib.hid (show m.length = b.length by have := Hbl.out; omega)
      have Hrun1 := Lib.hid (fun w hA hB => blkRun_ok (k : Int) A B p a cap capB w hA hB hm hmc hma R1.out G1.out)
      have Hrun2 := Lib.hid (fun w hA hM => blkRun_ok (k : Int) A (some ⟨g, 0, none⟩) p m cap vc w hA hM hm hmc (by rw [Hml.out]; exact hmb) R1.out Hm0.out)
      rw [Hml.out] at Hrun2
      have Hlike := Lib.hid (run_like Hp.out (likeP_self Hp.out rfl H2.out HL.out HS.out.2) Ga.out.1 Ga.out.2 Hali.out)
      have Hpair := Lib.hid (fun j hr => (Hlike.out j hr).1)
      have Hwid := Lib.hid (fun j hr => (st_ok Hp.out Ga.out.1 Ga.out.2 j hr).1)
      clear hM1 e12 hml hlt hk HO HMx HM
      go_wp2_with fail
      refine (Hrun1.out _ (HA.out.below HWw.out) (Rd.below (Rd.below HB.out HW2.out) HW.out)).mono ?_
      rintro e w7 ⟨hW7, hcase⟩
      have HW7 := Lib.hid (HWw.out.trans (hW7.mono HWw.out.size))
      have HM7 := Lib.hid (Rd.below HM1.out hW7)
      clear hW7 Hrun1 HM1
      rcases hcase with ⟨K, x, y, k1, k2, hrun, hend, rfl, hx, hy⟩ | ⟨hloop, rfl⟩
      · have Hx := Lib.hid hx
        have Hy := Lib.hid hy
        clear hx hy
        go_wp2_with fail
        refine (Hrun2.out _ (HA.out.below HW7.out) HM7.out).mono ?_
        rintro e w8 ⟨hW8, ⟨K', x', y', -, -, hrun', hend', rfl, hx', hy'⟩ | ⟨hloop, rfl⟩⟩
        · obtain rfl := end_pair Hpair.out hrun hend hrun' hend'
          have hwas := was_pair Hpair.out hrun
          have Hal2 := Lib.hid ((Hlike.out K' hrun).2.2 hend)
          have hwl := wasB_len p a K'
          have hsl := Hwid.out K' hrun
          rw [hwas] at hy'
          obtain ⟨X1, f1, rfl, hX1⟩ := OwnI.rd Hx.out
          obtain ⟨Y1, f2, rfl, hY1⟩ := OwnI.rd Hy.out
          obtain ⟨X2, f3, rfl, hX2⟩ := OwnI.rd hx'
          obtain ⟨Y2, f4, rfl, hY2⟩ := OwnI.rd hy'
          have HX1 := Lib.hid (Rd.below hX1 hW8)
          have HY1 := Lib.hid (Rd.below hY1 hW8)
          have HX2 := Lib.hid hX2
          have HY2 := Lib.hid hY2
          have HW8 := Lib.hid (HW7.out.trans (hW8.mono HW7.out.size))
          have Hi1 := Lib.hid (fun w hA hB => ints_eq Y1 Y2 (wasB p a K') (wasB p a K') f2 f4 w hA hB (by rw [hwl]; unfold maxLen; omega) rfl)
          have Hi2 := Lib.hid (fun w hA hB => alike_calls X1 X2 (stB p a K').2 (stB p m K').2 f1 f3 want w hA hB (by omega) hw Hal2.out)
          clear hwas hx' hy' hX1 hY1 hX2 hY2 hW8 Hx Hy hend hend' hrun hrun' hwl hsl Hal2
          generalize (stB p a K').2 = va at *
          generalize (stB p m K').2 = vm at *
          go_wp2_with fail
          refine (Hi1.out _ HY1.out HY2.out).mono ?_
          rintro e w9 ⟨rfl, hW⟩
          have HW9 := Lib.hid (HW8.out.trans (hW.mono HW8.out.size))
          have HX1 := Lib.hid (Rd.below HX1.out hW)
          have HX2 := Lib.hid (Rd.below HX2.out hW)
          clear hW Hi1
          go_wp2_with fail
          refine (Hi2.out _ HX1.out HX2.out).mono ?_
          rintro e w10 ⟨rfl, nq, rfl⟩
          go_wp2
          go_ret
          exact ⟨rfl, below_dN HW9.out nq⟩
        · exact (loop_pair Hpair.out k2 hrun hend hloop).elim
      · go_wp2_with fail
        refine (Hrun2.out _ (HA.out.below HW7.out) HM7.out).mono ?_
        rintro e w8 ⟨hW8, ⟨K', x', y', -, k2, hrun', hend', rfl, hx', hy'⟩ | ⟨hloop2, rfl⟩⟩
        · exact (pool_pair Hpair.out k2 hrun' hend' hloop).elim
        · have HW8 := Lib.hid (HW7.out.trans (hW8.mono HW7.out.size))
          have Hi1 := Lib.hid (fun w => ints_eq none none [] [] 0 0 w Rd.nil_ Rd.nil_ (by simp) rfl)
          clear hW8 hloop hloop2
          go_wp2_with fail
          refine (Hi1.out _).mono ?_
          rintro e w9 ⟨rfl, hW⟩
          have HW9 := Lib.hid (HW8.out.trans (hW.mono HW8.out.size))
          clear hW
          go_wp2
          go_ret
          exact ⟨rfl, HW9.out⟩
end Go.Proofs.Ytadmmciiahdmcaa
