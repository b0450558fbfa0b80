/- codemasontop.alike at values that are alike. -/
import Derived.Test.YtmgejacndhnikaaLivP
import Derived.Test.YtmgejacndhnikaaAndN
import Derived.BigQuiet
import Derived.Deep.QuietTactic
namespace Go.Proofs.Ytmgejacndhnikaa
open Go.RowKit

set_option maxHeartbeats 1000000 in
theorem alike_calls (A B : Option Addr) (a b : List Int) (ca cb s : Nat) (w : World) (hA : RdI w A a) (hB : RdI w B b) (hl : a.length ≤ 8) (hs : s < 4294967296) (h : aliL s a b) :
    Calls Try.prog 19 #[.slice A a.length ca, .slice B b.length cb, .int .u32 s] w fun e w' => e = .returned (.bool true) ∧ ∃ nq, w' = w.drewN nq := by
  have HA := Lib.hid hA
  have HB := Lib.hid hB
  have H := Lib.hid h.2
  have Hl := Lib.hid h.1
  have hl2 : ((a.length : Nat) : Int) ≤ ((b.length : Nat) : Int) := by have := h.1; omega
  have hl3 : ((b.length : Nat) : Int) ≤ ((a.length : Nat) : Int) := by have := h.1; omega
  clear hA hB h
  go_enter Try.func19, Try.ntmps19
  go_wp2
  go_loopw [7] (fun i wr => ∃ k : Nat, k ≤ a.length ∧ i = .int .i64 k ∧ Hid (∃ nq, wr = w.drewN nq)) (fun i _ => a.length - (intOf i).toNat)
  case atStart => exact ⟨0, Nat.zero_le _, rfl, Lib.hid ⟨0, rfl⟩⟩
  case round =>
    obtain ⟨k, hk, rfl, HN⟩ := hrel
    by_cases hlt : k < a.length
    · obtain ⟨b1, o1, rfl, hb1, m1⟩ := RdI.at1 HA.out hlt
      obtain ⟨b2, o2, rfl, hb2, m2⟩ := RdI.at1 HB.out (k := k) (by have := Hl.out; omega)
      have m1 : wr.cell? ⟨b1, o1 + k, none⟩ = some (.int .i64 a[k]) := by obtain ⟨nq, rfl⟩ := HN.out; exact m1
      have m2 : wr.cell? ⟨b2, o2 + k, none⟩ = some (.int .i64 (b[k]'(by have := Hl.out; omega))) := by obtain ⟨nq, rfl⟩ := HN.out; exact m2
      have q1 : ((k : Nat) : Int) < ((a.length : Nat) : Int) := by omega
      have q2 : ((k : Nat) : Int) < ((b.length : Nat) : Int) := by omega
      have k32 : k < 32 := by omega
      have hk2 := H.out k
      rw [getI_get hlt, getI_get (by have := Hl.out; omega)] at hk2
      have Hb := Lib.hid (fun w => bit_calls s k w hs k32)
      by_cases hb : s.testBit k = true
      · have he := hk2 hb
        rw [hb] at Hb
        have q3 : (a[k] != b[k]'(by have := Hl.out; omega)) = false := by rw [bne_eq_false_iff_eq]; exact he
        rw [← he] at m2 q3
        clear hk2 he
        generalize a[k] = x at *
        go_wp2
        go_quiet ((go_at_call 51; exact Calls.quiet_of_same (Hb.out _)))
        go_wp2
        go_roundw
        case rel => exact ⟨k + 1, by omega, by go_num, Lib.hid (by obtain ⟨n0, rfl⟩ := HN.out; exact ⟨_, World.drewN_drewN _ _ _⟩)⟩
        case measure => simp [intOf]; omega
      · have hb' : s.testBit k = false := by simpa using hb
        rw [hb'] at Hb
        clear hk2 hb
        generalize a[k] = x at *
        generalize b[k]'(by have := Hl.out; omega) = y at *
        go_wp2
        go_quiet ((go_at_call 51; exact Calls.quiet_of_same (Hb.out _)))
        go_wp2
        go_roundw
        case rel => exact ⟨k + 1, by omega, by go_num, Lib.hid (by obtain ⟨n0, rfl⟩ := HN.out; exact ⟨_, World.drewN_drewN _ _ _⟩)⟩
        case measure => simp [intOf]; omega
    · have : k = a.length := by omega
      subst this
      have q5 : (((a.length : Nat) : Int) == ((b.length : Nat) : Int)) = true := by rw [beq_iff_eq]; omega
      go_wp2
      go_ret
      exact ⟨rfl, HN.out⟩
end Go.Proofs.Ytmgejacndhnikaa
