/- Sets of nodes below 8 by a law; way.From as a function. -/
import Derived.Test.YtljmignfbagomaaFromW
import Derived.Test.YtljmignfbagomaaOwnU
namespace Go.Proofs.Ytljmignfbagomaa
open Go.RowKit

open Classical in
noncomputable def setTo (p : Nat → Prop) : Nat → Nat
  | 0 => 0
  | k + 1 => if p k then setTo p k ||| 2 ^ k else setTo p k
theorem setTo_bit (p : Nat → Prop) (n k : Nat) : (setTo p n).testBit k = true ↔ k < n ∧ p k := by
  induction n with
  | zero => simp [setTo]
  | succ n ih =>
    unfold setTo
    split
    · rename_i h
      rw [set_bit, Bool.or_eq_true, ih, decide_eq_true_eq]
      constructor
      · rintro (⟨h1, h2⟩ | rfl)
        · exact ⟨by omega, h2⟩
        · exact ⟨by omega, h⟩
      · rintro ⟨h1, h2⟩
        by_cases e : n = k
        · exact Or.inr e
        · exact Or.inl ⟨by omega, h2⟩
    · rename_i h
      rw [ih]
      constructor
      · rintro ⟨h1, h2⟩; exact ⟨by omega, h2⟩
      · rintro ⟨h1, h2⟩
        refine ⟨?_, h2⟩
        rcases Nat.lt_or_ge k n with h3 | h3
        · exact h3
        · have : k = n := by omega
          subst this; exact absurd h2 h
noncomputable def setN (p : Nat → Prop) : Nat := setTo p 8
theorem setN_bit (p : Nat → Prop) (k : Nat) : (setN p).testBit k = true ↔ k < 8 ∧ p k := setTo_bit p 8 k
theorem setN_ext {s : Nat} {p : Nat → Prop} (h : ∀ k, s.testBit k = true ↔ (k < 8 ∧ p k)) : s = setN p := set_ext fun k => by
  rw [Bool.eq_iff_iff, h, setN_bit]
theorem setN_congr {p q : Nat → Prop} (h : ∀ k, k < 8 → (p k ↔ q k)) : setN p = setN q := setN_ext fun k => by
  rw [setN_bit]; constructor
  · rintro ⟨h1, h2⟩; exact ⟨h1, (h k h1).1 h2⟩
  · rintro ⟨h1, h2⟩; exact ⟨h1, (h k h1).2 h2⟩
theorem setN_lt (p : Nat → Prop) : setN p < 256 := lt_pow_of_bits (n := 8) fun k h => ((setN_bit p k).1 h).1
theorem setN_false {p : Nat → Prop} (h : ∀ k, k < 8 → ¬ p k) : setN p = 0 := set_ext fun k => by
  rw [Bool.eq_iff_iff, setN_bit, Nat.zero_testBit]
  constructor
  · rintro ⟨h1, h2⟩; exact absurd h2 (h k h1)
  · intro h; cases h

noncomputable def fromS (ls : List (List Int)) (wo : Int) (i : Nat) : Nat := setN fun b => (i : Int) ≠ wo ∧ Comes_ ls wo i b
theorem Comes_.lt {ls : List (List Int)} {wo : Int} {a b : Nat} (hv : Valid ls) (ha : a < ls.length) (h : Comes_ ls wo a b) : b < ls.length :=
  Comes_.closed (p := fun x => x < ls.length) ha (fun _ _ _ he => (he.lt hv).2) b h
theorem fromS_bit {ls : List (List Int)} {wo : Int} {i : Nat} (h8 : ls.length ≤ 8) (hv : Valid ls) (hi : i < ls.length) (b : Nat) : (fromS ls wo i).testBit b = true ↔ ((i : Int) ≠ wo ∧ Comes_ ls wo i b) := by
  unfold fromS
  rw [setN_bit]
  constructor
  · exact fun h => h.2
  · exact fun h => ⟨by have := h.2.lt hv hi; omega, h⟩
theorem fromS_lt (ls : List (List Int)) (wo : Int) (i : Nat) : fromS ls wo i < 256 := setN_lt _
theorem IsFrom.eq {ls : List (List Int)} {wo : Int} {i s : Nat} (h8 : ls.length ≤ 8) (hv : Valid ls) (hi : i < ls.length) (h : IsFrom ls wo i s) : s = fromS ls wo i := set_ext fun k => by
  rw [Bool.eq_iff_iff, h k, fromS_bit h8 hv hi]
theorem fromS_calls (A : Option Addr) (ls : List (List Int)) (cap : Nat) (w : World) (i : Nat) (wo : Int) (hA : RdN w A ls) (h8 : ls.length ≤ 8) (hv : Valid ls) (hi : i < ls.length) :
    Calls Try.prog 45 #[.slice A ls.length cap, .int .i64 i, .int .i64 wo] w
      fun e w' => e = .returned (.int .u32 (fromS ls wo i : Nat)) ∧ Below w.heap.size w w' := by
  refine (from_calls A ls cap w i wo hA h8 hv hi).mono ?_
  rintro e w' ⟨s, rfl, h1, h2, h3⟩
  rw [h1.eq h8 hv hi]
  exact ⟨rfl, h3⟩
theorem valid_of {ls : List (List Int)} (h : wayErr ls = 0) : 1 ≤ ls.length ∧ ls.length ≤ 8 ∧ Valid ls := wayErr_ok h
end Go.Proofs.Ytljmignfbagomaa
