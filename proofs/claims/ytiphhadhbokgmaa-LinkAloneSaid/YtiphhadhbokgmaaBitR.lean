/- codemasonref.Bit. -/
import Derived.Test.YtiphhadhbokgmaaBits
import Derived.Test.YtiphhadhbokgmaaOwn
namespace Go.Proofs.Ytiphhadhbokgmaa
open Go.RowKit

theorem and_pow_ne (s i : Nat) : ((s &&& 2 ^ i) != 0) = s.testBit i := by
  have h : ∀ k, (s &&& 2 ^ i).testBit k = (s.testBit k && decide (i = k)) := fun k => by rw [Nat.testBit_and, testBit_pow]
  cases hb : s.testBit i
  · have : s &&& 2 ^ i = 0 := set_ext fun k => by
      rw [h, Nat.zero_testBit]
      by_cases e : i = k
      · subst e; rw [hb]; rfl
      · rw [decide_eq_false e, Bool.and_false]
    rw [this]; rfl
  · have h1 := h i
    rw [hb, decide_eq_true rfl] at h1
    rw [bne_iff_ne]
    intro e
    rw [e, Nat.zero_testBit] at h1
    cases h1
set_option maxHeartbeats 400000 in
theorem bit_calls (s i : Nat) (w : World) (hs : s < 4294967296) (hi : i < 32) :
    Calls Try.prog 26 #[.int .u32 s, .int .i64 i] w fun e w' => e = .returned (.bool (s.testBit i)) ∧ w' = w := by
  have p1 := pow_u32 i hi
  have p2 := and_u32 s (2 ^ i) hs (Nat.lt_of_lt_of_le (Nat.pow_lt_pow_right (by decide) hi) (by decide))
  have p3 : (((s &&& 2 ^ i : Nat) : Int) != 0) = s.testBit i := by
    rw [← and_pow_ne]
    rw [Bool.eq_iff_iff]; simp
  rw [Int.natCast_pow, show ((2 : Nat) : Int) = 2 from rfl] at p1 p2
  generalize s &&& 2 ^ i = x at *
  have p4 : (i : Int) % 18446744073709551616 = i := by omega
  go_enter Try.func26, Try.ntmps26
  go_wp2
  all_goals first | (exfalso; omega) | (go_ret; exact ⟨rfl, rfl⟩)
end Go.Proofs.Ytiphhadhbokgmaa
