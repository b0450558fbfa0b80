/- slices.Equal of words. -/
import Derived.Test.YtdkkmmljaijomaaOwnU
import Derived.BigQuiet
import Derived.Deep.QuietTactic
import Derived.BigGuardPart
namespace Go.Proofs.Ytdkkmmljaijomaa
open Go.RowKit

set_option maxHeartbeats 400000 in
theorem equalU_calls (A B : Option Addr) (a b : List Nat) (ca cb : Nat) (w : World) (hA : RdU w A a) (hB : RdU w B b) (ha : a.length < 1000000) :
    Calls Try.prog 45 #[.slice A a.length ca, .slice B b.length cb] w fun e w' => e = .returned (.bool (decide (a = b))) ∧ ∃ nq, w' = w.drewN nq := by
  have HA := Lib.hid hA; clear hA
  have HB := Lib.hid hB; clear hB
  by_cases hl : a.length = b.length
  case neg =>
    have q1 : ((a.length : Int) != (b.length : Int)) = true := by rw [bne_iff_ne]; omega
    have H := Lib.hid (show a ≠ b from fun h => hl (by rw [h]))
    clear hl
    go_enter Try.func45, Try.ntmps45
    go_wp2
    all_goals first | (exfalso; omega) | (go_ret; exact ⟨ret_bool (decide_eq_false H.out).symm, 0, rfl⟩)
  have q1 : ((a.length : Int) != (b.length : Int)) = false := by rw [bne_eq_false_iff_eq]; omega
  have Hl := Lib.hid hl
  clear hl
  go_enter Try.func45, Try.ntmps45
  go_wp2
  clear q1
  go_loopw [13] (fun i wr => ∃ k : Nat, k ≤ a.length ∧ i = .int .i64 k ∧ Hid (a.take k = b.take k) ∧ ∃ nq, wr = w.drewN nq) (fun i _ => a.length - (intOf i).toNat)
  case atStart => exact ⟨0, Nat.zero_le _, rfl, Lib.hid rfl, 0, rfl⟩
  case round =>
    obtain ⟨k, hk, rfl, hE, nq, rfl⟩ := hrel
    by_cases hlt : k < a.length
    · have hltb : k < b.length := by have := Hl.out; omega
      obtain ⟨b1, off1, rfl, hb1, c0⟩ := RdU.at1 HA.out hlt
      obtain ⟨b2, off2, rfl, hb2, c1⟩ := RdU.at1 HB.out hltb
      have k1 : ((k : Nat) : Int) < ((a.length : Nat) : Int) := by omega
      have k2 : ((k : Nat) : Int) < ((b.length : Nat) : Int) := by omega
      by_cases he : a[k] = b[k]
      · have q2 : ((a[k] : Nat) : Int) = ((b[k] : Nat) : Int) := by rw [he]
        have Hn : Hid (a.take (k + 1) = b.take (k + 1)) := by
          rw [List.take_succ_eq_append_getElem hlt, List.take_succ_eq_append_getElem hltb, hE.out, he]; exact Lib.hid rfl
        clear he hE
        generalize a[k] = x at *
        generalize b[k] = y at *
        go_wp2
        go_quiet (fail)
        go_wp2
        go_roundw
        case rel => exact ⟨k + 1, by omega, by go_num, Hn, _, rfl⟩
        case measure => simp [intOf]; omega
      · have q2 : (((a[k] : Nat) : Int) != ((b[k] : Nat) : Int)) = true := by rw [bne_iff_ne]; omega
        have Hn := Lib.hid (show a ≠ b from fun h => he (by simp [h]))
        clear he hE
        generalize a[k] = x at *
        generalize b[k] = y at *
        go_wp2
        go_quiet (fail)
        go_wp2
        go_ret
        exact ⟨ret_bool (decide_eq_false Hn.out).symm, _, World.drewN_drewN _ _ _⟩
    · go_wp2
      go_ret
      refine ⟨ret_bool ?_, _, rfl⟩
      have := hE.out
      have hl := Hl.out
      rw [List.take_of_length_le (by omega), List.take_of_length_le (by omega)] at this
      exact (decide_eq_true this).symm
end Go.Proofs.Ytdkkmmljaijomaa
