/- codemasonref.Bit, Size. -/
import Derived.Test.YtckmedmebabkjaaDoorBits
import Derived.Test.YtckmedmebabkjaaDoorOwn
namespace Go.Proofs.YtckmedmebabkjaaDoor
open Go.RowKit

theorem and_pow_ne (s i : Nat) : ((s &&& 2 ^ i) != 0) = s.testBit i := by
  have h : ∀ k, (s &&& 2 ^ i).testBit k = (s.testBit k && decide (i = k)) := fun k => by rw [Nat.testBit_and, testBit_pow]
  cases hb : s.testBit i
  · have : s &&& 2 ^ i = 0 := set_ext fun k => by
      rw [h, Nat.zero_testBit]
      by_cases e : i = k
      · subst e; rw [hb]; rfl
      · rw [decide_eq_false e, Bool.and_false]
    rw [this]; rfl
  · have h1 := h i
    rw [hb, decide_eq_true rfl] at h1
    rw [bne_iff_ne]
    intro e
    rw [e, Nat.zero_testBit] at h1
    cases h1
set_option maxHeartbeats 400000 in
theorem bit_calls (s i : Nat) (w : World) (hs : s < 4294967296) (hi : i < 32) :
    Calls Tryd.prog 23 #[.int .u32 s, .int .i64 i] w fun e w' => e = .returned (.bool (s.testBit i)) ∧ w' = w := by
  have p1 := pow_u32 i hi
  have p2 := and_u32 s (2 ^ i) hs (Nat.lt_of_lt_of_le (Nat.pow_lt_pow_right (by decide) hi) (by decide))
  have p3 : (((s &&& 2 ^ i : Nat) : Int) != 0) = s.testBit i := by
    rw [← and_pow_ne]
    rw [Bool.eq_iff_iff]; simp
  rw [Int.natCast_pow, show ((2 : Nat) : Int) = 2 from rfl] at p1 p2
  generalize s &&& 2 ^ i = x at *
  have p4 : (i : Int) % 18446744073709551616 = i := by omega
  go_enter Tryd.func23, Tryd.ntmps23
  go_wp2
  all_goals first | (exfalso; omega) | (go_ret; exact ⟨rfl, rfl⟩)
def szTo (s : Nat) : Nat → Nat
  | 0 => 0
  | k + 1 => szTo s k + if s.testBit k then 1 else 0
theorem szTo_le (s : Nat) : ∀ k, szTo s k ≤ k
  | 0 => Nat.le_refl _
  | k + 1 => by have := szTo_le s k; unfold szTo; split <;> omega
theorem szTo_eq (s : Nat) : ∀ k, szTo s k = ((List.range k).filter fun j => s.testBit j).length
  | 0 => rfl
  | k + 1 => by
    rw [List.range_succ, List.filter_append, List.length_append, ← szTo_eq s k, szTo, List.filter_cons]
    split <;> simp
theorem szTo_cnt8 {s : Nat} (hs : s < 256) : szTo s 32 = cnt8 s := by
  have key : ∀ k, szTo s (8 + k) = szTo s 8 := fun k => by
    induction k with
    | zero => rfl
    | succ k ih =>
      have hb : s.testBit (8 + k) = false := by
        cases h : s.testBit (8 + k)
        · rfl
        · have := bit_lt (n := 8) hs h; omega
      rw [show 8 + (k + 1) = 8 + k + 1 by omega, szTo, hb, ih]; rfl
  rw [show (32 : Nat) = 8 + 24 from rfl, key 24, szTo_eq]
  rfl
set_option maxHeartbeats 2000000 in
theorem size_calls (s : Nat) (w : World) (hs : s < 256) :
    Calls Tryd.prog 14 #[.int .u32 s] w fun e w' => e = .returned (.int .i64 (cnt8 s : Nat)) ∧ w' = w := by
  have Hb := Lib.hid (fun i w (hi : i < 32) => bit_calls s i w (by omega) hi)
  have H8 := Lib.hid (szTo_cnt8 hs)
  go_enter Tryd.func14, Tryd.ntmps14
  go_wp2
  go_loopw [3, 4] (fun n i wr => ∃ k : Nat, k ≤ 32 ∧ i = .int .i64 k ∧ n = .int .i64 (szTo s k : Nat) ∧ wr = w) (fun _ i _ => 32 - (intOf i).toNat)
  case atStart => exact ⟨0, Nat.zero_le _, rfl, rfl, rfl⟩
  case round =>
    obtain ⟨k, hk, rfl, rfl, rfl⟩ := hrel
    by_cases hlt : k < 32
    · have q1 : ((k : Nat) : Int) < 32 := by omega
      have Hk := Lib.hid (Hb.out k wr hlt)
      have Hs := Lib.hid (show szTo s (k + 1) = szTo s k + if s.testBit k then 1 else 0 from rfl)
      have hle := szTo_le s k
      cases hb : s.testBit k
      · rw [hb] at Hk Hs
        generalize szTo s k = z at *
        clear hb
        go_wp2_with fail
        refine Hk.out.mono ?_
        rintro e w' ⟨rfl, rfl⟩
        go_wp2
        go_roundw
        case rel => exact ⟨k + 1, by omega, by go_num, by rw [Hs.out]; simp, by first | rfl | trivial⟩
        case measure => simp [intOf]; omega
      · rw [hb] at Hk Hs
        generalize szTo s k = z at *
        clear hb
        go_wp2_with fail
        refine Hk.out.mono ?_
        rintro e w' ⟨rfl, rfl⟩
        go_wp2
        go_roundw
        case rel => exact ⟨k + 1, by omega, by go_num, by rw [Hs.out]; first | rfl | go_num | (simp; done), by first | rfl | trivial⟩
        case measure => simp [intOf]; omega
    · have hke : k = 32 := by omega
      subst hke
      generalize szTo s 32 = z at *
      go_wp2
      go_ret
      exact ⟨by rw [← H8.out]; rfl, rfl⟩
end Go.Proofs.YtckmedmebabkjaaDoor
