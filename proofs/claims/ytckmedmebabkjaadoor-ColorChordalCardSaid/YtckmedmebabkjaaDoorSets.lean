/- Sets of numbers below 8 by a law. -/
import Derived.Test.YtckmedmebabkjaaDoorBits
namespace Go.Proofs.YtckmedmebabkjaaDoor
open Go.RowKit

open Classical in
noncomputable def setTo (p : Nat → Prop) : Nat → Nat
  | 0 => 0
  | k + 1 => if p k then setTo p k ||| 2 ^ k else setTo p k
theorem setTo_bit (p : Nat → Prop) (n k : Nat) : (setTo p n).testBit k = true ↔ k < n ∧ p k := by
  induction n with
  | zero => simp [setTo]
  | succ n ih =>
    unfold setTo
    split
    · rename_i h
      rw [set_bit, Bool.or_eq_true, ih, decide_eq_true_eq]
      constructor
      · rintro (⟨h1, h2⟩ | rfl)
        · exact ⟨by omega, h2⟩
        · exact ⟨by omega, h⟩
      · rintro ⟨h1, h2⟩
        by_cases e : n = k
        · exact Or.inr e
        · exact Or.inl ⟨by omega, h2⟩
    · rename_i h
      rw [ih]
      constructor
      · rintro ⟨h1, h2⟩; exact ⟨by omega, h2⟩
      · rintro ⟨h1, h2⟩
        refine ⟨?_, h2⟩
        rcases Nat.lt_or_ge k n with h3 | h3
        · exact h3
        · have : k = n := by omega
          subst this; exact absurd h2 h
noncomputable def setN (p : Nat → Prop) : Nat := setTo p 8
theorem setN_bit (p : Nat → Prop) (k : Nat) : (setN p).testBit k = true ↔ k < 8 ∧ p k := setTo_bit p 8 k
theorem setN_ext {s : Nat} {p : Nat → Prop} (h : ∀ k, s.testBit k = true ↔ (k < 8 ∧ p k)) : s = setN p := set_ext fun k => by
  rw [Bool.eq_iff_iff, h, setN_bit]
theorem setN_congr {p q : Nat → Prop} (h : ∀ k, k < 8 → (p k ↔ q k)) : setN p = setN q := setN_ext fun k => by
  rw [setN_bit]; constructor
  · rintro ⟨h1, h2⟩; exact ⟨h1, (h k h1).1 h2⟩
  · rintro ⟨h1, h2⟩; exact ⟨h1, (h k h1).2 h2⟩
theorem setN_lt (p : Nat → Prop) : setN p < 256 := lt_pow_of_bits (n := 8) fun k h => ((setN_bit p k).1 h).1
theorem setN_false {p : Nat → Prop} (h : ∀ k, k < 8 → ¬ p k) : setN p = 0 := set_ext fun k => by
  rw [Bool.eq_iff_iff, setN_bit, Nat.zero_testBit]
  constructor
  · rintro ⟨h1, h2⟩; exact absurd h2 (h k h1)
  · intro h; cases h

end Go.Proofs.YtckmedmebabkjaaDoor
