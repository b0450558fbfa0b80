/- Words: a without b. -/
import Derived.Test.YtckmedmebabkjaaDoorSets
namespace Go.Proofs.YtckmedmebabkjaaDoor
open Go.RowKit

/-- a without b. -/
noncomputable def andN (a b : Nat) : Nat := setTo (fun i => a.testBit i = true ∧ b.testBit i = false) 32
theorem andN_bit {a : Nat} (b : Nat) (ha : a < 4294967296) (i : Nat) : (andN a b).testBit i = (a.testBit i && !b.testBit i) := by
  rw [Bool.eq_iff_iff]
  unfold andN
  rw [setTo_bit, Bool.and_eq_true, Bool.not_eq_true']
  exact ⟨fun h => h.2, fun h => ⟨bit_lt (n := 32) ha h.1, h⟩⟩
theorem andN_lt (a b : Nat) : andN a b < 4294967296 := lt_pow_of_bits (n := 32) fun _ hk => ((setTo_bit _ _ _).1 hk).1
theorem andN_u32 (a b : Nat) (ha : a < 4294967296) (hb : b < 4294967296) : bits .andNot .u32 (a : Int) (b : Int) = ((andN a b : Nat) : Int) := by
  show IntKind.u32.wrap ((BitVec.ofInt 32 (a : Int) &&& ~~~ BitVec.ofInt 32 (b : Int)).toNat : Int) = _
  have e : (BitVec.ofInt 32 (a : Int) &&& ~~~ BitVec.ofInt 32 (b : Int)).toNat = andN a b := by
    refine set_ext fun i => ?_
    rw [BitVec.testBit_toNat, BitVec.getLsbD_and, BitVec.getLsbD_not, andN_bit b ha]
    rw [← BitVec.testBit_toNat, ← BitVec.testBit_toNat, ofInt_u32 a ha, ofInt_u32 b hb]
    by_cases hi : i < 32
    · simp [hi]
    · have h1 : a.testBit i = false := by
        cases h : a.testBit i
        · rfl
        · exact absurd (bit_lt (n := 32) ha h) hi
      simp [h1]
  rw [e, IntKind.wrap_u32]
  have := andN_lt a b
  omega
end Go.Proofs.YtckmedmebabkjaaDoor
