/- CutMore walked: what is needed for some is needed for more. -/
import Derived.Test.YtadmmciiahdmcaaCutG
import Derived.Deep.QuietTactic
namespace Go.Proofs.Ytadmmciiahdmcaa
set_option maxRecDepth 100000
open Go.RowKit

set_option maxHeartbeats 4000000 in
theorem cutMore_u (vars : Int) (A : Option Addr) (p : List Blk) (cap a b : Nat) (w : World) (hA : RdBk w A p) (hm : p.length ≤ maxLen) (hmc : smallB p) (ha : a < 4294967296) (hb : b < 4294967296) :
    Calls Try.prog 12 #[.int .i64 vars, .slice A p.length cap, .int .u32 a, .int .u32 b] w fun e w' => e = .returned (.bool true) ∧ Below w.heap.size w w' := by
  have HA := Lib.hid hA
  have r0 := or_u32 a b ha hb
  by_cases h0 : pkErr vars p ≠ 0
  · have H1 := Lib.hid fun (w' : World) (hb : Below w.heap.size w w') (c : Nat) => needs_bad vars A p cap c w' (HA.out.below hb) hm hmc h0
    clear hA h0
    go_enter Try.func12, Try.ntmps12
    go_upto_region 2 with (go_at_call 35; with_reducible refine (H1.out w (Below.refl _ _) a).mono ?_; rintro e w1 ⟨x, hx, rfl, hW⟩; have HW1 := Lib.hid hW; clear hW)
    have q : (x != 0) = true := by rw [bne_iff_ne]; exact hx
    clear hx
    go_wp2_with (go_at_call 35; with_reducible refine (H1.out w1 HW1.out (a ||| b)).mono ?_; rintro e w2 ⟨y, hy, rfl, hW⟩; have HW2 := Lib.hid (HW1.out.trans (hW.mono HW1.out.size)); clear hW hy)
    go_ret
    exact ⟨rfl, HW2.out⟩
  have h0 : pkErr vars p = 0 := by simpa using h0
  have hp := pok_of h0
  obtain ⟨n, rfl⟩ := Int.eq_ofNat_of_zero_le (show 0 ≤ vars by have := hp.v1; omega)
  have HP := Lib.hid hp
  have hn1 := hp.n1
  have hn8 := hp.n8
  have H1 := Lib.hid fun (w' : World) (hb : Below w.heap.size w w') (c : Nat) => needs_calls n A p cap c w' (HA.out.below hb) hm hmc
  clear hA h0 hp
  go_enter Try.func12, Try.ntmps12
  go_wp2_with fail
  go_at_call 35
  with_reducible refine (H1.out w (Below.refl _ _) a).mono ?_
  rintro e w1 (⟨x, hx, rfl, hW⟩ | ⟨-, h1, T1, SB1, FB1, R1, b1, cS1, t1, F1, B1, rfl, hX1, hC1⟩)
  · have q : (x != 0) = true := by rw [bne_iff_ne]; exact hx
    have HW1 := Lib.hid hW
    clear hx hW
    go_wp2_with fail
    go_at_call 35
    with_reducible refine (H1.out w1 HW1.out (a ||| b)).mono ?_
    clear H1
    rintro e w2 (⟨y, hy, rfl, hW⟩ | ⟨-, h2, T2, SB2, FB2, R2, b2, cS2, t2, F2, B2, rfl, hX2, hC2⟩)
    · have HW2 := Lib.hid (HW1.out.trans (hW.mono HW1.out.size))
      clear hy hW
      go_wp2
      go_ret
      exact ⟨rfl, HW2.out⟩
    · have HW2 := Lib.hid (HW1.out.trans (hX2.bel.mono HW1.out.size))
      clear h2 hX2 hC2
      go_wp2
      go_ret
      exact ⟨rfl, HW2.out⟩
  · have HX1 := Lib.hid hX1
    have hb1 := Lib.hid hX1.bel
    clear h1 hX1 hC1
    go_wp2_with fail
    go_at_call 35
    with_reducible refine (H1.out w1 hb1.out (a ||| b)).mono ?_
    clear H1
    rintro e w2 (⟨y, hy, rfl, hW⟩ | ⟨-, h2, T2, SB2, FB2, R2, b2, cS2, t2, F2, B2, rfl, hX2, hC2⟩)
    · have q : (y != 0) = true := by rw [bne_iff_ne]; exact hy
      have q2 : (((p.length : Nat) : Int) == 0) = false := by rw [beq_eq_false_iff_ne]; omega
      have HW2 := Lib.hid (hb1.out.trans (hW.mono hb1.out.size))
      clear hy hW
      go_wp2
      go_ret
      exact ⟨rfl, HW2.out⟩
    · have HY := Lib.hid (HX1.out.keep hX2.bel)
      have HX2 := Lib.hid hX2
      have HC2 := Lib.hid hC2
      have Hle := Lib.hid (cut_more (pok32 HP.out) (w' := a ||| b) (fun x hx => by rw [Nat.testBit_or, hx]; rfl) HX1.out.low hC2)
      have Hin := Lib.hid (inRef_calls t1 t2 (Nat.lt_trans HX1.out.t8 (by decide)) (Nat.lt_trans hX2.t8 (by decide)) Hle.out.t)
      clear h2 hX2 hC2 HX1
      go_wp2_with (go_at_call 36; refine (Hin.out _).mono ?_; rintro e w3 ⟨rfl, rfl⟩)
      go_loopw [69] (fun i wr => ∃ k : Nat, k ≤ p.length ∧ i = .int .i64 k ∧ Hid (∃ nq, wr = w3.drewN nq)) (fun i _ => p.length - (intOf i).toNat)
      case atStart => exact ⟨0, Nat.zero_le _, rfl, Lib.hid ⟨0, rfl⟩⟩
      case round =>
        obtain ⟨k, hk, rfl, HWe⟩ := hrel
        obtain ⟨nq, rfl⟩ := HWe.out
        clear HWe
        by_cases hlt : k < p.length
        · have q1 : ((k : Nat) : Int) < ((p.length : Nat) : Int) := by omega
          have Hlt := Lib.hid hlt
          obtain ⟨pb, off, A', cap', rfl, hpb, d0, d1, d2, d3, -⟩ := RdBk.at_ (HA.out.below HY.out.bel) hlt
          have l1 := HY.out.len k _ (List.getElem?_eq_getElem hlt)
          have l2 := HX2.out.len k _ (List.getElem?_eq_getElem hlt)
          have hcl : p[k].code.length ≤ 20 := by have := manyB_mem (List.getElem_mem hlt); have := HP.out.many; omega
          have s1 := HY.out.ct.atS hlt
          have s2 := HX2.out.ct.atS hlt
          have Hr1 := Lib.hid (HY.out.ct.hB k hlt)
          have Hr2 := Lib.hid (HX2.out.ct.hB k hlt)
          generalize p[k] = bk at *
          obtain ⟨code, test, thn, els⟩ := bk
          dsimp only at d0 d1 d2 d3 l1 l2 hcl
          rw [l1] at s1
          rw [l2] at s2
          have L1 := Lib.hid l1
          have L2 := Lib.hid l2
          have qn : (((code.length : Nat) : Int) != ((code.length : Nat) : Int)) = false := by simp
          clear d1 d2 d3 l1 l2
          go_wp2
          go_quiet (fail)
          go_wp2
          go_loopw [103] (fun i wr => ∃ j : Nat, j ≤ code.length ∧ i = .int .i64 j ∧ Hid (∃ nq, wr = w3.drewN nq)) (fun i _ => code.length - (intOf i).toNat)
          case atStart => exact ⟨0, Nat.zero_le _, rfl, Lib.hid ⟨_, rfl⟩⟩
          case round =>
            obtain ⟨j, hj, rfl, HWe⟩ := hrel
            obtain ⟨nq3, rfl⟩ := HWe.out
            clear HWe
            by_cases hjl : j < code.length
            · have q2 : ((j : Nat) : Int) < ((code.length : Nat) : Int) := by omega
              have hj1 : j < (B1 k).length := by rw [L1.out]; exact hjl
              have hj2 : j < (B2 k).length := by rw [L2.out]; exact hjl
              have m1 : w3.cell? ⟨R1 k, j, none⟩ = some (.bool (B1 k)[j]) := by rw [cell_of_row w3 (R1 k) j _ _ _ Hr1.out]; simp [hj1]
              have m2 : w3.cell? ⟨R2 k, j, none⟩ = some (.bool (B2 k)[j]) := by rw [cell_of_row w3 (R2 k) j _ _ _ Hr2.out]; simp [hj2]
              have hsub := Hle.out.M k j
              have hsub : (B1 k)[j] = true → (B2 k)[j] = true := fun h => by
                have h2 := (hsub ⟨Hlt.out, by rw [List.getElem?_eq_getElem hj1, h]⟩).2
                rw [List.getElem?_eq_getElem hj2] at h2
                injection h2
              generalize (B1 k)[j] = y1 at *
              generalize (B2 k)[j] = y2 at *
              clear hj1 hj2
              cases y1
              · clear hsub
                go_wp2
                go_roundw
                case rel => exact ⟨j + 1, by omega, by go_num, Lib.hid ⟨_, rfl⟩⟩
                case measure => simp [intOf]; omega
              · have e2 := hsub rfl
                subst e2
                clear hsub
                go_wp2
                go_roundw
                case rel => exact ⟨j + 1, by omega, by go_num, Lib.hid ⟨_, rfl⟩⟩
                case measure => simp [intOf]; omega
            · have : j = code.length := by omega
              subst this
              have hll : ¬ ((code.length : Int) < (code.length : Int)) := by omega
              clear hjl hj
              go_wp2
              go_roundw
              case rel => exact ⟨k + 1, by have := Hlt.out; omega, by go_num, Lib.hid ⟨_, rfl⟩⟩
              case measure => simp [intOf]; omega
        · have : k = p.length := by omega
          subst this
          have hll : ¬ ((p.length : Int) < (p.length : Int)) := by omega
          clear hlt hk
          go_wp2
          go_ret
          exact ⟨rfl, below_dN HY.out.bel _⟩
end Go.Proofs.Ytadmmciiahdmcaa
