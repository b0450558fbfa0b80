/- block.Check walked. -/
import Derived.Test.YtmgejacndhnikaaBlkH
namespace Go.Proofs.Ytmgejacndhnikaa
open Go.RowKit

set_option maxRecDepth 100000 in
set_option maxHeartbeats 8000000 in
theorem blkCheck_calls (vars : Int) (A : Option Addr) (p : List Blk) (cap : Nat) (w : World) (hA : RdBk w A p) (hm : p.length ≤ maxLen) (hmc : smallB p) :
    Calls Try.prog 41 #[.int .i64 vars, .slice A p.length cap] w fun e w' => e = .returned (.int .i64 (pkErr vars p)) ∧ Below w.heap.size w w' := by
  unfold maxLen at hm
  unfold smallB at hmc
  have HA := Lib.hid hA
  have HC := Lib.hid hmc
  have HW0 := Lib.hid ((Below.refl w.heap.size w).alloc (Nat.le_refl _) (.cells #[.slice A p.length cap] 22))
  have HR0 := Lib.hid (heap_alloc_new w (.cells #[.slice A p.length cap] 22))
  clear hA hmc
  go_enter Try.func41, Try.ntmps41
  go_wp2
  go_loopw [5, 16] (fun m i wr => ∃ (k : Nat) (mm : Int), k ≤ p.length ∧ i = .int .i64 k ∧ m = .int .i64 mm ∧ Hid (p.length ≤ 8 → mm = manyB (p.take k) ∧ manyB (p.take k) ≤ k * 140737488355328) ∧ wr.heap[w.heap.size]? = some (.cells #[.slice A p.length cap] 22 (0, 0)) ∧ Below w.heap.size w wr) (fun _ i _ => p.length - (intOf i).toNat)
  case atStart => exact ⟨0, 0, Nat.zero_le _, rfl, rfl, Lib.hid (fun _ => ⟨rfl, Nat.zero_le _⟩), HR0.out, HW0.out⟩
  case round =>
    obtain ⟨k, mm, hk, rfl, rfl, hM, hR, hW⟩ := hrel
    have HW := Lib.hid hW
    have HR := Lib.hid hR
    have hws := hW.size
    by_cases hlt : k < p.length
    · obtain ⟨b, off, A', cap', rfl, hb, c0, c1, c2, c3, hS⟩ := RdBk.at_ (HA.out.below hW) hlt
      have hcl := HC.out p[k] (List.getElem_mem hlt)
      have HM : Hid (p.length ≤ 8 → mm + (p[k].code.length : Int) = manyB (p.take (k + 1)) ∧ manyB (p.take (k + 1)) ≤ (k + 1) * 140737488355328 ∧ 0 ≤ mm ∧ mm + (p[k].code.length : Int) < 9223372036854775808) := Lib.hid (fun h8 => by
        obtain ⟨h1, h2⟩ := hM.out h8
        rw [manyB_succ hlt]
        have : (k + 1) * 140737488355328 = k * 140737488355328 + 140737488355328 := by omega
        omega)
      have HWa := Lib.hid (fun (u t x e : Value) => HW.out.alloc hws (.cells #[u, t, x, e] 85))
      have HRa := Lib.hid (fun (u t x e : Value) => (Below.heap_alloc wr (.cells #[u, t, x, e] 85) _ (lt_h hR)).trans hR)
      clear hM hW hR hS
      generalize p[k] = bk at *
      obtain ⟨code, test, thn, els⟩ := bk
      dsimp only at c0 c1 c2 c3 hcl HM
      generalize code.length = cn at *
      go_wp2
      go_roundw
      case rel =>
        refine ⟨k + 1, wrap64 (mm + (cn : Int)), by omega, by go_num, rfl, Lib.hid (fun h8 => ?_), HRa.out _ _ _ _, HWa.out _ _ _ _⟩
        obtain ⟨h1, h2, h3, h4⟩ := HM.out h8
        refine ⟨?_, h2⟩
        show wrap64 (mm + (cn : Int)) = _
        rw [← h1]; unfold wrap64; omega
      case measure => simp [intOf]; omega
    · have hke : k = p.length := by omega
      subst hke
      have hM8 := hM.out
      rw [List.take_length] at hM8
      have HM8 := Lib.hid hM8
      have hR0 : wr.cell? ⟨w.heap.size, 0, none⟩ = some (.slice A p.length cap) := cell_h hR 0
      have hbig : (pkErr vars p = 1 ∧ (vars < 1 ∨ 6 < vars ∨ p.length < 1 ∨ 8 < p.length ∨ 20 < mm)) ∨ (1 ≤ vars ∧ vars ≤ 6 ∧ 1 ≤ p.length ∧ p.length ≤ 8 ∧ mm ≤ 20 ∧ pkErr vars p = bErrs vars p.length p) := by
        unfold pkErr
        by_cases h : vars < 1 ∨ 6 < vars ∨ p.length < 1 ∨ 8 < p.length ∨ 20 < manyB p
        · refine .inl ⟨by rw [if_pos h], ?_⟩
          by_cases h8 : p.length ≤ 8
          · have := hM8 h8; omega
          · omega
        · have := hM8 (by omega)
          exact .inr ⟨by omega, by omega, by omega, by omega, by omega, by rw [if_neg h]⟩
      rcases hbig with ⟨hbad, hwhy⟩ | ⟨v1, v6, n1, n8, m20, hgood⟩
      · have Hbad := Lib.hid hbad.symm
        have HWr := Lib.hid hW
        clear hM hM8 HM8 hR hW hbad
        go_wp2
        all_goals (try (exfalso; omega))
        all_goals (go_ret; exact ⟨ret_int Hbad.out, HWr.out⟩)
      · have Hgood := Lib.hid hgood
        have HWr := Lib.hid hW
        have HRr := Lib.hid hR
        clear hM hM8 HM8 hR hW hgood
        go_wp2
        all_goals (try (exfalso; omega))
        go_loopw [48] (fun i wo => ∃ k2 : Nat, k2 ≤ p.length ∧ i = .int .i64 k2 ∧ Hid (bErrs vars p.length (p.drop k2) = pkErr vars p) ∧ wo.heap[w.heap.size]? = some (.cells #[.slice A p.length cap] 22 (0, 0)) ∧ Below w.heap.size w wo) (fun i _ => p.length - (intOf i).toNat)
        case atStart => exact ⟨0, Nat.zero_le _, rfl, Lib.hid (by rw [List.drop_zero]; exact Hgood.out.symm), HRr.out, HWr.out⟩
        case round =>
          obtain ⟨wo, rfl⟩ : ∃ wo : World, wo = wr := ⟨_, rfl⟩
          obtain ⟨k2, hk2, rfl, hE, hRo, hWo⟩ := hrel
          have HWo := Lib.hid hWo
          have HRo := Lib.hid hRo
          have hwo := hWo.size
          by_cases hlt : k2 < p.length
          · obtain ⟨b, off, A', cap', rfl, hb, c0, c1, c2, c3, hS⟩ := RdBk.at_ (HA.out.below hWo) hlt
            have hcl := HC.out p[k2] (List.getElem_mem hlt)
            have HE := Lib.hid (bErrs_drop hlt hE.out)
            have HS := Lib.hid hS
            clear hE hRo hWo hS hR0
            generalize p[k2] = bk at *
            obtain ⟨code, test, thn, els⟩ := bk
            dsimp only at c0 c1 c2 c3 hcl HE HS
            go_wp2
            have HT := Lib.hid (heap_alloc_new wo (.cells #[.slice A' code.length cap', .int .i64 test, .int .i64 thn, .int .i64 els] 85))
            have HR1 := Lib.hid ((Below.heap_alloc wo (.cells #[.slice A' code.length cap', .int .i64 test, .int .i64 thn, .int .i64 els] 85) _ (lt_h HRo.out)).trans HRo.out)
            have HW1 := Lib.hid (HWo.out.alloc hwo (.cells #[.slice A' code.length cap', .int .i64 test, .int .i64 thn, .int .i64 els] 85))
            have HS1 := Lib.hid (Rd.below HS.out ((Below.refl wo.heap.size wo).alloc (Nat.le_refl _) (.cells #[.slice A' code.length cap', .int .i64 test, .int .i64 thn, .int .i64 els] 85)))
            generalize wo.alloc (.cells #[.slice A' code.length cap', .int .i64 test, .int .i64 thn, .int .i64 els] 85) = w1 at *
            clear c0 c1 c2 c3
            have hw1 := HW1.out.size
            go_loopw [55] (fun j wi => ∃ k3 : Nat, k3 ≤ code.length ∧ j = .int .i64 k3 ∧ Hid (cErrs vars (code.drop k3) = cErrs vars code) ∧ Below w1.heap.size w1 wi) (fun j _ => code.length - (intOf j).toNat)
            case atStart => exact ⟨0, Nat.zero_le _, rfl, Lib.hid (by rw [List.drop_zero]), Below.refl _ _⟩
            case round =>
              obtain ⟨wi, rfl⟩ : ∃ wi : World, wi = wr := ⟨_, rfl⟩
              obtain ⟨k3, hk3, rfl, hF, hWi⟩ := hrel
              have HWi := Lib.hid hWi
              have hwi := hWi.size
              by_cases hlt3 : k3 < code.length
              · obtain ⟨b3, off3, rfl, hb3, s0, s1, s2, s3, s4⟩ := RdSt.at5 (Rd.below HS1.out hWi) hlt3
                have HF := Lib.hid (cErrs_drop hlt3 hF.out)
                clear hF hWi
                generalize code[k3] = st at *
                obtain ⟨op, sto, sa, sb, sv⟩ := st
                dsimp only at s0 s1 s2 s3 s4 HF
                have HWa := Lib.hid (HWi.out.alloc hwi (.cells #[.int .i64 op, .int .i64 sto, .int .i64 sa, .int .i64 sb, .int .i64 sv] 87))
                have Hcl := Lib.hid (fun w => step_calls vars ⟨op, sto, sa, sb, sv⟩ w)
                generalize stErr vars ⟨op, sto, sa, sb, sv⟩ = er at *
                by_cases her : er = 0
                · subst her
                  have HFn := Lib.hid (HF.out.2 rfl)
                  clear HF
                  go_wp2_with (go_at_call 98; refine (Hcl.out _).mono ?_; rintro e w4 ⟨rfl, hW4⟩; have HW4 := Lib.hid (HWa.out.trans (hW4.mono HWa.out.size)); clear hW4)
                  go_roundw
                  case rel => exact ⟨k3 + 1, by omega, by go_num, HFn, HW4.out⟩
                  case measure => simp [intOf]; omega
                · have q : (er != 0) = true := by rw [bne_iff_ne]; exact her
                  go_wp2_with (go_at_call 98; refine (Hcl.out _).mono ?_; rintro e w4 ⟨rfl, hW4⟩; have HW4 := Lib.hid (HWa.out.trans (hW4.mono HWa.out.size)); clear hW4)
                  go_ret
                  exact ⟨ret_int (HE.out.1 er (HF.out.1 er rfl her) her).symm, HW1.out.trans (HW4.out.mono hw1)⟩
              · have hke3 : k3 = code.length := by omega
                subst hke3
                have hc0 : cErrs vars code = 0 := by rw [← hF.out, List.drop_length]; rfl
                have HE2 := Lib.hid (HE.out.2 hc0)
                have p0 := cell_h ((hWi.block _ (lt_h HT.out)).trans HT.out) 0
                have p1 := cell_h ((hWi.block _ (lt_h HT.out)).trans HT.out) 1
                have p2 := cell_h ((hWi.block _ (lt_h HT.out)).trans HT.out) 2
                have p3 := cell_h ((hWi.block _ (lt_h HT.out)).trans HT.out) 3
                have HR2 := Lib.hid ((hWi.block _ (lt_h HR1.out)).trans HR1.out)
                have HW2 := Lib.hid (HW1.out.trans (hWi.mono hw1))
                have Hy := Lib.hid (fun x h0 h1 => there_yes w.heap.size _ p.length cap x wi (cell_h HR2.out 0) h0 h1)
                have Hn := Lib.hid (fun x h => there_no w.heap.size _ p.length cap x wi (cell_h HR2.out 0) h)
                clear hF hWi hc0 HE HT
                by_cases t1 : test < -1
                · have Hx := Lib.hid (HE2.out.1 2 (eErr_2 (.inl t1)) (by decide))
                  go_wp2
                  all_goals (try (exfalso; omega))
                  go_ret
                  exact ⟨ret_int Hx.out.symm, HW2.out⟩
                by_cases t2 : vars ≤ test
                · have Hx := Lib.hid (HE2.out.1 2 (eErr_2 (.inr t2)) (by decide))
                  go_wp2
                  all_goals (try (exfalso; omega))
                  go_ret
                  exact ⟨ret_int Hx.out.symm, HW2.out⟩
                by_cases h0 : 0 ≤ thn ∧ thn < p.length
                · by_cases t3 : 0 ≤ test
                  · by_cases e0 : 0 ≤ els ∧ els < p.length
                    · have Hx := Lib.hid (HE2.out.2 (eErr_0 (by omega) (by omega)))
                      go_wp2_with (go_at_call 99; refine (Hy.out _ (by omega) (by omega)).mono ?_; rintro e w' ⟨rfl, rfl⟩)
                      all_goals (try (exfalso; omega))
                      go_roundw
                      case rel => exact ⟨k2 + 1, by omega, by go_num, Hx, HR2.out, HW2.out⟩
                      case measure => simp [intOf]; omega
                    · have Hx := Lib.hid (HE2.out.1 3 (eErr_3 (by omega) (.inr ⟨t3, by omega⟩)) (by decide))
                      go_wp2_with (go_at_call 99; first | (refine (Hy.out _ (by omega) (by omega)).mono ?_; rintro e w' ⟨rfl, rfl⟩) | (refine (Hn.out _ (by omega)).mono ?_; rintro e w' ⟨rfl, rfl⟩))
                      all_goals (try (exfalso; omega))
                      go_ret
                      exact ⟨ret_int Hx.out.symm, HW2.out⟩
                  · have Hx := Lib.hid (HE2.out.2 (eErr_0 (by omega) (by omega)))
                    go_wp2_with (go_at_call 99; refine (Hy.out _ (by omega) (by omega)).mono ?_; rintro e w' ⟨rfl, rfl⟩)
                    all_goals (try (exfalso; omega))
                    go_roundw
                    case rel => exact ⟨k2 + 1, by omega, by go_num, Hx, HR2.out, HW2.out⟩
                    case measure => simp [intOf]; omega
                · by_cases t3 : 0 ≤ test
                  · have Hx := Lib.hid (HE2.out.1 3 (eErr_3 (by omega) (.inl ⟨by omega, .inr t3⟩)) (by decide))
                    go_wp2_with (go_at_call 99; refine (Hn.out _ (by omega)).mono ?_; rintro e w' ⟨rfl, rfl⟩)
                    all_goals (try (exfalso; omega))
                    all_goals (go_ret; exact ⟨ret_int Hx.out.symm, HW2.out⟩)
                  · by_cases h1 : thn = -1
                    · have Hx := Lib.hid (HE2.out.2 (eErr_0 (by omega) (by omega)))
                      subst h1
                      go_wp2_with (go_at_call 99; refine (Hn.out _ (by omega)).mono ?_; rintro e w' ⟨rfl, rfl⟩)
                      all_goals (try (exfalso; omega))
                      go_roundw
                      case rel => exact ⟨k2 + 1, by omega, by go_num, Hx, HR2.out, HW2.out⟩
                      case measure => simp [intOf]; omega
                    · have Hx := Lib.hid (HE2.out.1 3 (eErr_3 (by omega) (.inl ⟨by omega, .inl h1⟩)) (by decide))
                      have q1 : (thn != -1) = true := by rw [bne_iff_ne]; exact h1
                      go_wp2_with (go_at_call 99; refine (Hn.out _ (by omega)).mono ?_; rintro e w' ⟨rfl, rfl⟩)
                      all_goals (try (exfalso; omega))
                      go_ret
                      exact ⟨ret_int Hx.out.symm, HW2.out⟩
          · have hke2 : k2 = p.length := by omega
            subst hke2
            have Hx := Lib.hid (show (0 : Int) = pkErr vars p by rw [← hE.out, List.drop_length]; rfl)
            clear hE hRo hWo
            go_wp2
            go_ret
            exact ⟨ret_int Hx.out, HWo.out⟩
end Go.Proofs.Ytmgejacndhnikaa
