/- codemasonref.Progs at one program that lies in two places. -/
import Derived.Test.YtadmmciiahdmcaaBlkA
import Derived.BigQuiet
import Derived.Deep.QuietTactic
namespace Go.Proofs.Ytadmmciiahdmcaa
set_option maxRecDepth 100000
open Go.RowKit

set_option maxHeartbeats 4000000 in
theorem progs_same (A B : Option Addr) (l : List Blk) (ca cb : Nat) (w : World) (hA : RdBk w A l) (hB : RdBk w B l) (hm : l.length ≤ 8) (hc : ∀ b ∈ l, b.code.length ≤ 20) :
    Calls Try.prog 28 #[.slice A l.length ca, .slice B l.length cb] w fun e w' => e = .returned (.bool true) ∧ Below w.heap.size w w' := by
  have HA := Lib.hid hA
  have HB := Lib.hid hB
  have HC := Lib.hid hc
  clear hA hB hc
  have q0 : (((l.length : Nat) : Int) != ((l.length : Nat) : Int)) = false := by simp
  go_enter Try.func28, Try.ntmps28
  go_wp2
  go_loopw [5] (fun i wr => ∃ k : Nat, k ≤ l.length ∧ i = .int .i64 k ∧ Hid (∃ nq, wr = w.drewN nq)) (fun i _ => l.length - (intOf i).toNat)
  case atStart => exact ⟨0, Nat.zero_le _, rfl, Lib.hid ⟨0, rfl⟩⟩
  case round =>
    obtain ⟨k, hk, rfl, HWe⟩ := hrel
    obtain ⟨wo, rfl⟩ : ∃ wo : World, wo = wr := ⟨_, rfl⟩
    have HWn : Hid (∀ nq, ∃ m, wo.drewN nq = w.drewN m) := Lib.hid (by obtain ⟨n0, rfl⟩ := HWe.out; exact fun nq => ⟨n0 + nq, World.drewN_drewN _ _ _⟩)
    have Hcl : Hid (∀ a, wo.cell? a = w.cell? a) := Lib.hid (by obtain ⟨n0, rfl⟩ := HWe.out; exact fun _ => rfl)
    by_cases hlt : k < l.length
    · have Hlt := Lib.hid hlt
      obtain ⟨pa, oa, A1, c1, rfl, -, a0, a1, a2, a3, aS⟩ := RdBk.at_ HA.out hlt
      obtain ⟨pb, ob, B1, d1, rfl, -, b0, b1, b2, b3, bS⟩ := RdBk.at_ HB.out hlt
      have hcl := HC.out _ (List.getElem_mem hlt)
      generalize l[k] = bk at *
      obtain ⟨code, test, thn, els⟩ := bk
      dsimp only at a0 a1 a2 a3 b0 b1 b2 b3 aS bS hcl
      rw [← Hcl.out] at a0 a1 a2 a3 b0 b1 b2 b3
      have HaS := Lib.hid aS
      have HbS := Lib.hid bS
      have q1 : ((k : Nat) : Int) < ((l.length : Nat) : Int) := by omega
      have e1 : (test != test) = false := by simp
      have e2 : (thn != thn) = false := by simp
      have e3 : (els != els) = false := by simp
      have e4 : (((code.length : Nat) : Int) != ((code.length : Nat) : Int)) = false := by simp
      clear aS bS hlt
      go_wp2
      go_quiet (fail)
      go_wp2
      go_loopw [6] (fun i wr => ∃ j : Nat, j ≤ code.length ∧ i = .int .i64 j ∧ Hid (∃ nq, wr = wo.drewN nq)) (fun i _ => code.length - (intOf i).toNat)
      case atStart => exact ⟨0, Nat.zero_le _, rfl, Lib.hid ⟨_, rfl⟩⟩
      case round =>
        obtain ⟨j, hj, rfl, HWf⟩ := hrel
        have HWm : Hid (∀ nq, ∃ m, wr.drewN nq = wo.drewN m) := Lib.hid (by obtain ⟨n0, rfl⟩ := HWf.out; exact fun nq => ⟨n0 + nq, World.drewN_drewN _ _ _⟩)
        have Hcm : Hid (∀ a, wr.cell? a = wo.cell? a) := Lib.hid (by obtain ⟨n0, rfl⟩ := HWf.out; exact fun _ => rfl)
        rw [← Hcm.out] at a0 a1 a2 a3 b0 b1 b2 b3
        by_cases hjl : j < code.length
        · have Hjl := Lib.hid hjl
          obtain ⟨sa, xa, rfl, -, x0, x1, x2, x3, x4⟩ := RdSt.at5 HaS.out hjl
          obtain ⟨sb, xb, rfl, -, y0, y1, y2, y3, y4⟩ := RdSt.at5 HbS.out hjl
          generalize code[j] = st at *
          rw [← Hcl.out, ← Hcm.out] at x0 x1 x2 x3 x4 y0 y1 y2 y3 y4
          have q2 : ((j : Nat) : Int) < ((code.length : Nat) : Int) := by omega
          clear hjl
          go_wp2
          go_quiet (fail)
          go_wp2
          go_roundw
          case rel => exact ⟨j + 1, by have := Hjl.out; omega, by go_num, Lib.hid (HWm.out _)⟩
          case measure => have := Hjl.out; simp [intOf]; omega
        · have hje : j = code.length := by omega
          subst hje
          have hll : ¬ ((code.length : Int) < (code.length : Int)) := by omega
          clear hjl hj
          go_wp2
          go_roundw
          case rel => exact ⟨k + 1, by have := Hlt.out; omega, by go_num, Lib.hid (by obtain ⟨n1, rfl⟩ := HWf.out; exact HWn.out _)⟩
          case measure => have := Hlt.out; simp [intOf]; omega
    · have : k = l.length := by omega
      subst this
      have hll : ¬ ((l.length : Int) < (l.length : Int)) := by omega
      clear hlt hk
      go_wp2
      go_ret
      refine ⟨rfl, ?_⟩
      obtain ⟨n0, rfl⟩ := HWe.out
      exact below_dN (Below.refl _ _) _
end Go.Proofs.Ytadmmciiahdmcaa
