/- Words of 32 bits as numbers; sets of nodes. Program-independent. -/
import Derived.Test.YtmgejacndhnikaaLib
import Derived.Laws.BitsAllLaws
import Derived.Laws.BitsLemmas
import Derived.Test.YtmgejacndhnikaaTurnG
import Derived.BigGuardPart
namespace Go.Proofs.Ytmgejacndhnikaa
open Go.RowKit

theorem pow_u32 (j : Nat) (h : j < 32) : (2 : Int) ^ j % 4294967296 = ((2 ^ j : Nat) : Int) := by
  have h1 : 2 ^ j < 2 ^ 32 := Nat.pow_lt_pow_right (by decide) h
  have e : ((2 : Int) ^ j) = ((2 ^ j : Nat) : Int) := by rw [Int.natCast_pow]; rfl
  rw [e]
  have h2 : ((2 ^ j : Nat) : Int) < 4294967296 := by
    have : ((2 ^ j : Nat) : Int) < ((2 ^ 32 : Nat) : Int) := by exact_mod_cast h1
    simpa using this
  exact Int.emod_eq_of_lt (Int.natCast_nonneg _) h2
theorem ofInt_u32 (a : Nat) (ha : a < 4294967296) : (BitVec.ofInt 32 (a : Int)).toNat = a := by
  rw [BitVec.ofInt_natCast, BitVec.toNat_ofNat]; exact Nat.mod_eq_of_lt ha
theorem and_u32 (a b : Nat) (ha : a < 4294967296) (hb : b < 4294967296) : bits .and .u32 (a : Int) (b : Int) = ((a &&& b : Nat) : Int) := by
  have hx : a &&& b < 2 ^ 32 := Nat.and_lt_two_pow _ (by omega)
  show IntKind.u32.wrap ((BitVec.ofInt 32 (a : Int) &&& BitVec.ofInt 32 (b : Int)).toNat : Int) = _
  rw [BitVec.toNat_and, ofInt_u32 a ha, ofInt_u32 b hb, IntKind.wrap_u32]
  omega
theorem or_u32 (a b : Nat) (ha : a < 4294967296) (hb : b < 4294967296) : bits .or .u32 (a : Int) (b : Int) = ((a ||| b : Nat) : Int) := by
  have hx : a ||| b < 2 ^ 32 := Nat.or_lt_two_pow (by omega) (by omega)
  show IntKind.u32.wrap ((BitVec.ofInt 32 (a : Int) ||| BitVec.ofInt 32 (b : Int)).toNat : Int) = _
  rw [BitVec.toNat_or, ofInt_u32 a ha, ofInt_u32 b hb, IntKind.wrap_u32]
  omega
theorem shr_u32 (a j : Nat) : (a : Int) / 2 ^ j = ((a >>> j : Nat) : Int) := by
  rw [Nat.shiftRight_eq_div_pow, Int.natCast_ediv, Int.natCast_pow]; rfl
theorem testBit_and_one (a j : Nat) : ((a >>> j) &&& 1 == 0) = !a.testBit j := by
  have h : a.testBit j = (1 &&& a >>> j != 0) := rfl
  rw [h, Nat.and_comm, bne, Bool.not_not]
/-- 's >> j & 1 == 0' -/
theorem test_u32 (s j : Nat) (hs : s < 4294967296) : (bits .and .u32 ((s : Int) / 2 ^ j) 1 == 0) = !s.testBit j := by
  rw [shr_u32, show (1 : Int) = ((1 : Nat) : Int) from rfl, and_u32 _ _ (Nat.lt_of_le_of_lt (Nat.shiftRight_le _ _) hs) (by decide)]
  rw [← testBit_and_one]
  rw [Bool.eq_iff_iff, beq_iff_eq, beq_iff_eq]
  omega
theorem testBit_pow (j k : Nat) : (2 ^ j).testBit k = decide (j = k) := Nat.testBit_two_pow
theorem set_bit (s j k : Nat) : (s ||| 2 ^ j).testBit k = (s.testBit k || decide (j = k)) := by rw [Nat.testBit_or, testBit_pow]
/-- A set of numbers below n as a word. -/
theorem lt_pow_of_bits {s n : Nat} (h : ∀ k, s.testBit k = true → k < n) : s < 2 ^ n := by
  apply Nat.lt_pow_two_of_testBit
  intro i hi
  cases hb : s.testBit i
  · rfl
  · exact absurd (h i hb) (by omega)
theorem bit_lt {s n k : Nat} (h : s < 2 ^ n) (hb : s.testBit k = true) : k < n := by
  rcases Nat.lt_or_ge k n with h1 | h1
  · exact h1
  · rw [Nat.testBit_lt_two_pow (Nat.lt_of_lt_of_le h (Nat.pow_le_pow_right (by decide) h1))] at hb; cases hb
theorem set_ext {s t : Nat} (h : ∀ k, s.testBit k = t.testBit k) : s = t := Nat.eq_of_testBit_eq h
/-- How many of the numbers below 8 a set has. -/
def cnt8 (s : Nat) : Nat := ((List.range 8).filter fun k => s.testBit k).length
theorem cnt8_le (s : Nat) : cnt8 s ≤ 8 := by
  unfold cnt8
  have := List.length_filter_le (fun k => s.testBit k) (List.range 8)
  simpa using this
theorem cnt8_set {s j : Nat} (hj : j < 8) (h : s.testBit j = false) : cnt8 (s ||| 2 ^ j) = cnt8 s + 1 := by
  have key : ∀ l : List Nat, l.Nodup → ((l.filter fun k => (s ||| 2 ^ j).testBit k).length = (l.filter fun k => s.testBit k).length + if j ∈ l then 1 else 0) := fun l => by
    induction l with
    | nil => intro _; rfl
    | cons a l ih =>
      intro hn
      rw [List.nodup_cons] at hn
      have ih := ih hn.2
      rw [List.filter_cons, List.filter_cons, set_bit]
      by_cases e : j = a
      · subst e
        rw [h]
        simp only [decide_true, Bool.or_true, if_true, Bool.false_eq_true, if_false, List.length_cons, List.mem_cons, true_or]
        rw [ih, if_neg hn.1]
      · rw [decide_eq_false e, Bool.or_false]
        have hm : (j ∈ a :: l) ↔ j ∈ l := by simp [e]
        cases s.testBit a
        · simp only [Bool.false_eq_true, if_false]
          rw [ih]; simp [e]
        · simp only [if_true, List.length_cons]
          rw [ih]; simp [e]; omega
  have := key (List.range 8) List.nodup_range
  unfold cnt8
  rw [this, if_pos (by simpa using hj)]
end Go.Proofs.Ytmgejacndhnikaa
namespace Go.Proofs.Ytmgejacndhnikaa
open Go.RowKit

theorem fits_calls (n : Nat) (s : Nat) (w : World) (hn : n < 32) :
    Calls Try.prog 45 #[.int .i64 n, .int .u32 s] w fun e w' => e = .returned (.bool (decide (s < 2 ^ n))) ∧ w' = w := by
  have p1 := pow_u32 n hn
  have p2 : decide ((s : Int) < ((2 ^ n : Nat) : Int)) = decide (s < 2 ^ n) := by rw [decide_eq_decide]; omega
  rw [Int.natCast_pow, show ((2 : Nat) : Int) = 2 from rfl] at p1 p2
  have p4 : (n : Int) % 18446744073709551616 = n := by omega
  generalize decide (s < 2 ^ n) = d at *
  go_enter Try.func45, Try.ntmps45
  go_wp2
  all_goals first | (exfalso; omega) | (go_ret; exact ⟨rfl, rfl⟩)

end Go.Proofs.Ytmgejacndhnikaa
namespace Go.Proofs.Ytmgejacndhnikaa
open Go.RowKit

theorem and_pow_ne (s i : Nat) : ((s &&& 2 ^ i) != 0) = s.testBit i := by
  have h : ∀ k, (s &&& 2 ^ i).testBit k = (s.testBit k && decide (i = k)) := fun k => by rw [Nat.testBit_and, testBit_pow]
  cases hb : s.testBit i
  · have : s &&& 2 ^ i = 0 := set_ext fun k => by
      rw [h, Nat.zero_testBit]
      by_cases e : i = k
      · subst e; rw [hb]; rfl
      · rw [decide_eq_false e, Bool.and_false]
    rw [this]; rfl
  · have h1 := h i
    rw [hb, decide_eq_true rfl] at h1
    rw [bne_iff_ne]
    intro e
    rw [e, Nat.zero_testBit] at h1
    cases h1
set_option maxHeartbeats 400000 in
theorem bit_calls (s i : Nat) (w : World) (hs : s < 4294967296) (hi : i < 32) :
    Calls Try.prog 51 #[.int .u32 s, .int .i64 i] w fun e w' => e = .returned (.bool (s.testBit i)) ∧ w' = w := by
  have p1 := pow_u32 i hi
  have p2 := and_u32 s (2 ^ i) hs (Nat.lt_of_lt_of_le (Nat.pow_lt_pow_right (by decide) hi) (by decide))
  have p3 : (((s &&& 2 ^ i : Nat) : Int) != 0) = s.testBit i := by
    rw [← and_pow_ne]
    rw [Bool.eq_iff_iff]; simp
  rw [Int.natCast_pow, show ((2 : Nat) : Int) = 2 from rfl] at p1 p2
  generalize s &&& 2 ^ i = x at *
  have p4 : (i : Int) % 18446744073709551616 = i := by omega
  go_enter Try.func51, Try.ntmps51
  go_wp2
  all_goals first | (exfalso; omega) | (go_ret; exact ⟨rfl, rfl⟩)
end Go.Proofs.Ytmgejacndhnikaa
namespace Go.Proofs.Ytmgejacndhnikaa
open Go.RowKit

theorem cnt8_mono_lt {s t : Nat} (h : ∀ k, s.testBit k = true → t.testBit k = true) (hne : s ≠ t) (ht : t < 256) : cnt8 s < cnt8 t := by
  have key : ∀ l : List Nat, (l.filter fun k => s.testBit k).length ≤ (l.filter fun k => t.testBit k).length ∧ ((∃ k ∈ l, s.testBit k = false ∧ t.testBit k = true) → (l.filter fun k => s.testBit k).length < (l.filter fun k => t.testBit k).length) := fun l => by
    induction l with
    | nil => exact ⟨Nat.le_refl _, by rintro ⟨k, hk, _⟩; cases hk⟩
    | cons a l ih =>
      rw [List.filter_cons, List.filter_cons]
      cases hs : s.testBit a
      · cases ht : t.testBit a
        · simp only [Bool.false_eq_true, if_false]
          refine ⟨ih.1, ?_⟩
          rintro ⟨k, hk, h1, h2⟩
          rcases List.mem_cons.1 hk with rfl | hk
          · rw [ht] at h2; cases h2
          · exact ih.2 ⟨k, hk, h1, h2⟩
        · simp only [Bool.false_eq_true, if_false, if_true, List.length_cons]
          exact ⟨by omega, fun _ => by omega⟩
      · rw [h a hs]
        simp only [if_true, List.length_cons]
        refine ⟨by omega, ?_⟩
        rintro ⟨k, hk, h1, h2⟩
        rcases List.mem_cons.1 hk with rfl | hk
        · rw [hs] at h1; cases h1
        · have := ih.2 ⟨k, hk, h1, h2⟩; omega
  refine (key (List.range 8)).2 ?_
  apply Classical.byContradiction
  intro hn
  refine hne (set_ext fun k => ?_)
  cases hs : s.testBit k
  · cases htk : t.testBit k
    · rfl
    · exact absurd ⟨k, by have := bit_lt (n := 8) ht htk; simpa using this, hs, htk⟩ hn
  · rw [h k hs]
end Go.Proofs.Ytmgejacndhnikaa
namespace Go.Proofs.Ytmgejacndhnikaa
open Go.RowKit

open Classical in
noncomputable def setTo (p : Nat → Prop) : Nat → Nat
  | 0 => 0
  | k + 1 => if p k then setTo p k ||| 2 ^ k else setTo p k
theorem setTo_bit (p : Nat → Prop) (n k : Nat) : (setTo p n).testBit k = true ↔ k < n ∧ p k := by
  induction n with
  | zero => simp [setTo]
  | succ n ih =>
    unfold setTo
    split
    · rename_i h
      rw [set_bit, Bool.or_eq_true, ih, decide_eq_true_eq]
      constructor
      · rintro (⟨h1, h2⟩ | rfl)
        · exact ⟨by omega, h2⟩
        · exact ⟨by omega, h⟩
      · rintro ⟨h1, h2⟩
        by_cases e : n = k
        · exact Or.inr e
        · exact Or.inl ⟨by omega, h2⟩
    · rename_i h
      rw [ih]
      constructor
      · rintro ⟨h1, h2⟩; exact ⟨by omega, h2⟩
      · rintro ⟨h1, h2⟩
        refine ⟨?_, h2⟩
        rcases Nat.lt_or_ge k n with h3 | h3
        · exact h3
        · have : k = n := by omega
          subst this; exact absurd h2 h
noncomputable def setN (p : Nat → Prop) : Nat := setTo p 8
theorem setN_bit (p : Nat → Prop) (k : Nat) : (setN p).testBit k = true ↔ k < 8 ∧ p k := setTo_bit p 8 k
theorem setN_ext {s : Nat} {p : Nat → Prop} (h : ∀ k, s.testBit k = true ↔ (k < 8 ∧ p k)) : s = setN p := set_ext fun k => by
  rw [Bool.eq_iff_iff, h, setN_bit]
theorem setN_congr {p q : Nat → Prop} (h : ∀ k, k < 8 → (p k ↔ q k)) : setN p = setN q := setN_ext fun k => by
  rw [setN_bit]; constructor
  · rintro ⟨h1, h2⟩; exact ⟨h1, (h k h1).1 h2⟩
  · rintro ⟨h1, h2⟩; exact ⟨h1, (h k h1).2 h2⟩
theorem setN_lt (p : Nat → Prop) : setN p < 256 := lt_pow_of_bits (n := 8) fun k h => ((setN_bit p k).1 h).1
theorem setN_false {p : Nat → Prop} (h : ∀ k, k < 8 → ¬ p k) : setN p = 0 := set_ext fun k => by
  rw [Bool.eq_iff_iff, setN_bit, Nat.zero_testBit]
  constructor
  · rintro ⟨h1, h2⟩; exact absurd h2 (h k h1)
  · intro h; cases h

end Go.Proofs.Ytmgejacndhnikaa
namespace Go.Proofs.Ytmgejacndhnikaa
open Go.RowKit

/-- a without b. -/
noncomputable def andN (a b : Nat) : Nat := setTo (fun i => a.testBit i = true ∧ b.testBit i = false) 32
theorem andN_bit {a : Nat} (b : Nat) (ha : a < 4294967296) (i : Nat) : (andN a b).testBit i = (a.testBit i && !b.testBit i) := by
  rw [Bool.eq_iff_iff]
  unfold andN
  rw [setTo_bit, Bool.and_eq_true, Bool.not_eq_true']
  exact ⟨fun h => h.2, fun h => ⟨bit_lt (n := 32) ha h.1, h⟩⟩
theorem andN_lt (a b : Nat) : andN a b < 4294967296 := lt_pow_of_bits (n := 32) fun _ hk => ((setTo_bit _ _ _).1 hk).1
theorem andN_u32 (a b : Nat) (ha : a < 4294967296) (hb : b < 4294967296) : bits .andNot .u32 (a : Int) (b : Int) = ((andN a b : Nat) : Int) := by
  show IntKind.u32.wrap ((BitVec.ofInt 32 (a : Int) &&& ~~~ BitVec.ofInt 32 (b : Int)).toNat : Int) = _
  have e : (BitVec.ofInt 32 (a : Int) &&& ~~~ BitVec.ofInt 32 (b : Int)).toNat = andN a b := by
    refine set_ext fun i => ?_
    rw [BitVec.testBit_toNat, BitVec.getLsbD_and, BitVec.getLsbD_not, andN_bit b ha]
    rw [← BitVec.testBit_toNat, ← BitVec.testBit_toNat, ofInt_u32 a ha, ofInt_u32 b hb]
    by_cases hi : i < 32
    · simp [hi]
    · have h1 : a.testBit i = false := by
        cases h : a.testBit i
        · rfl
        · exact absurd (bit_lt (n := 32) ha h) hi
      simp [h1]
  rw [e, IntKind.wrap_u32]
  have := andN_lt a b
  omega
end Go.Proofs.Ytmgejacndhnikaa
