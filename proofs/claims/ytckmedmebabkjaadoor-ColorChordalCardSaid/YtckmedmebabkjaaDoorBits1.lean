/- Words: s >> j & 1 == 1. -/
import Derived.Test.YtckmedmebabkjaaDoorBits
namespace Go.Proofs.YtckmedmebabkjaaDoor
open Go.RowKit

theorem and_one01 (a : Nat) : (((a &&& 1 : Nat) : Int) == 1) = !(((a &&& 1 : Nat) : Int) == 0) := by
  have := @Nat.and_le_right a 1
  rcases (by omega : a &&& 1 = 0 ∨ a &&& 1 = 1) with h | h <;> rw [h] <;> rfl
/-- 's >> j & 1 == 1' -/
theorem test1_u32 (s j : Nat) (hs : s < 4294967296) : (bits .and .u32 ((s : Int) / 2 ^ j) 1 == 1) = s.testBit j := by
  have h := test_u32 s j hs
  rw [shr_u32, show (1 : Int) = ((1 : Nat) : Int) from rfl, and_u32 _ _ (Nat.lt_of_le_of_lt (Nat.shiftRight_le _ _) hs) (by decide)] at h ⊢
  rw [show ((1 : Nat) : Int) = 1 from rfl, and_one01, h, Bool.not_not]

end Go.Proofs.YtckmedmebabkjaaDoor
