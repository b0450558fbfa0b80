/- Words of 32 bits as numbers; sets of nodes. Program-independent. -/
import Derived.Test.YtiphhadhbokgmaaLib
import Derived.Laws.BitsAllLaws
import Derived.Laws.BitsLemmas
namespace Go.Proofs.Ytiphhadhbokgmaa
open Go.RowKit

theorem pow_u32 (j : Nat) (h : j < 32) : (2 : Int) ^ j % 4294967296 = ((2 ^ j : Nat) : Int) := by
  have h1 : 2 ^ j < 2 ^ 32 := Nat.pow_lt_pow_right (by decide) h
  have e : ((2 : Int) ^ j) = ((2 ^ j : Nat) : Int) := by rw [Int.natCast_pow]; rfl
  rw [e]
  have h2 : ((2 ^ j : Nat) : Int) < 4294967296 := by
    have : ((2 ^ j : Nat) : Int) < ((2 ^ 32 : Nat) : Int) := by exact_mod_cast h1
    simpa using this
  exact Int.emod_eq_of_lt (Int.natCast_nonneg _) h2
theorem ofInt_u32 (a : Nat) (ha : a < 4294967296) : (BitVec.ofInt 32 (a : Int)).toNat = a := by
  rw [BitVec.ofInt_natCast, BitVec.toNat_ofNat]; exact Nat.mod_eq_of_lt ha
theorem and_u32 (a b : Nat) (ha : a < 4294967296) (hb : b < 4294967296) : bits .and .u32 (a : Int) (b : Int) = ((a &&& b : Nat) : Int) := by
  have hx : a &&& b < 2 ^ 32 := Nat.and_lt_two_pow _ (by omega)
  show IntKind.u32.wrap ((BitVec.ofInt 32 (a : Int) &&& BitVec.ofInt 32 (b : Int)).toNat : Int) = _
  rw [BitVec.toNat_and, ofInt_u32 a ha, ofInt_u32 b hb, IntKind.wrap_u32]
  omega
theorem or_u32 (a b : Nat) (ha : a < 4294967296) (hb : b < 4294967296) : bits .or .u32 (a : Int) (b : Int) = ((a ||| b : Nat) : Int) := by
  have hx : a ||| b < 2 ^ 32 := Nat.or_lt_two_pow (by omega) (by omega)
  show IntKind.u32.wrap ((BitVec.ofInt 32 (a : Int) ||| BitVec.ofInt 32 (b : Int)).toNat : Int) = _
  rw [BitVec.toNat_or, ofInt_u32 a ha, ofInt_u32 b hb, IntKind.wrap_u32]
  omega
theorem shr_u32 (a j : Nat) : (a : Int) / 2 ^ j = ((a >>> j : Nat) : Int) := by
  rw [Nat.shiftRight_eq_div_pow, Int.natCast_ediv, Int.natCast_pow]; rfl
theorem testBit_and_one (a j : Nat) : ((a >>> j) &&& 1 == 0) = !a.testBit j := by
  have h : a.testBit j = (1 &&& a >>> j != 0) := rfl
  rw [h, Nat.and_comm, bne, Bool.not_not]
/-- 's >> j & 1 == 0' -/
theorem test_u32 (s j : Nat) (hs : s < 4294967296) : (bits .and .u32 ((s : Int) / 2 ^ j) 1 == 0) = !s.testBit j := by
  rw [shr_u32, show (1 : Int) = ((1 : Nat) : Int) from rfl, and_u32 _ _ (Nat.lt_of_le_of_lt (Nat.shiftRight_le _ _) hs) (by decide)]
  rw [← testBit_and_one]
  rw [Bool.eq_iff_iff, beq_iff_eq, beq_iff_eq]
  omega
theorem testBit_pow (j k : Nat) : (2 ^ j).testBit k = decide (j = k) := Nat.testBit_two_pow
theorem set_bit (s j k : Nat) : (s ||| 2 ^ j).testBit k = (s.testBit k || decide (j = k)) := by rw [Nat.testBit_or, testBit_pow]
/-- A set of numbers below n as a word. -/
theorem lt_pow_of_bits {s n : Nat} (h : ∀ k, s.testBit k = true → k < n) : s < 2 ^ n := by
  apply Nat.lt_pow_two_of_testBit
  intro i hi
  cases hb : s.testBit i
  · rfl
  · exact absurd (h i hb) (by omega)
theorem bit_lt {s n k : Nat} (h : s < 2 ^ n) (hb : s.testBit k = true) : k < n := by
  rcases Nat.lt_or_ge k n with h1 | h1
  · exact h1
  · rw [Nat.testBit_lt_two_pow (Nat.lt_of_lt_of_le h (Nat.pow_le_pow_right (by decide) h1))] at hb; cases hb
theorem set_ext {s t : Nat} (h : ∀ k, s.testBit k = t.testBit k) : s = t := Nat.eq_of_testBit_eq h
/-- How many of the numbers below 8 a set has. -/
def cnt8 (s : Nat) : Nat := ((List.range 8).filter fun k => s.testBit k).length
theorem cnt8_le (s : Nat) : cnt8 s ≤ 8 := by
  unfold cnt8
  have := List.length_filter_le (fun k => s.testBit k) (List.range 8)
  simpa using this
theorem cnt8_set {s j : Nat} (hj : j < 8) (h : s.testBit j = false) : cnt8 (s ||| 2 ^ j) = cnt8 s + 1 := by
  have key : ∀ l : List Nat, l.Nodup → ((l.filter fun k => (s ||| 2 ^ j).testBit k).length = (l.filter fun k => s.testBit k).length + if j ∈ l then 1 else 0) := fun l => by
    induction l with
    | nil => intro _; rfl
    | cons a l ih =>
      intro hn
      rw [List.nodup_cons] at hn
      have ih := ih hn.2
      rw [List.filter_cons, List.filter_cons, set_bit]
      by_cases e : j = a
      · subst e
        rw [h]
        simp only [decide_true, Bool.or_true, if_true, Bool.false_eq_true, if_false, List.length_cons, List.mem_cons, true_or]
        rw [ih, if_neg hn.1]
      · rw [decide_eq_false e, Bool.or_false]
        have hm : (j ∈ a :: l) ↔ j ∈ l := by simp [e]
        cases s.testBit a
        · simp only [Bool.false_eq_true, if_false]
          rw [ih]; simp [e]
        · simp only [if_true, List.length_cons]
          rw [ih]; simp [e]; omega
  have := key (List.range 8) List.nodup_range
  unfold cnt8
  rw [this, if_pos (by simpa using hj)]
end Go.Proofs.Ytiphhadhbokgmaa
