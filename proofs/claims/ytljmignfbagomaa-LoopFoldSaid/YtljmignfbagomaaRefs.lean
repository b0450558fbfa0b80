/- codemasonref.Has, Bit, Words, In, Fits. -/
import Derived.Test.YtljmignfbagomaaSetN
import Derived.BigQuiet
import Derived.Deep.QuietTactic
namespace Go.Proofs.Ytljmignfbagomaa
open Go.RowKit

set_option maxHeartbeats 400000 in
theorem has_calls (A : Option Addr) (l : List Int) (cap : Nat) (x : Int) (w : World) (hA : RdI w A l) (hm : l.length ≤ maxLen) :
    Calls Try.prog 36 #[.slice A l.length cap, .int .i64 x] w fun e w' => e = .returned (.bool (decide (x ∈ l))) ∧ w' = w := by
  unfold maxLen at hm
  have HA := Lib.hid hA; clear hA
  go_enter Try.func36, Try.ntmps36
  go_wp2
  go_loop [9] (fun i => ∃ k : Nat, k ≤ l.length ∧ i = .int .i64 k ∧ Hid (x ∉ l.take k)) (fun i => l.length - (intOf i).toNat)
  case atStart => exact ⟨0, Nat.zero_le _, rfl, Lib.hid (by simp)⟩
  case round =>
    obtain ⟨k, hk, rfl, hE⟩ := hrel
    by_cases hlt : k < l.length
    · obtain ⟨b, off, rfl, hb, c0⟩ := RdI.at1 HA.out hlt
      by_cases he : x = l[k]
      · have Hm := Lib.hid (show x ∈ l from by rw [he]; exact List.getElem_mem hlt)
        rw [← he] at c0
        clear he hE
        go_wp2
        go_ret
        exact ⟨ret_bool (decide_eq_true Hm.out).symm, rfl⟩
      · have Hn : Hid (x ∉ l.take (k + 1)) := by
          rw [List.take_succ_eq_append_getElem hlt]
          intro h
          rcases List.mem_append.1 h with h | h
          · exact hE.out h
          · simp at h; exact he h
        have q1 : (x == l[k]) = false := by simpa using he
        clear he hE
        generalize l[k] = y at *
        go_wp2
        go_round
        case rel => exact ⟨k + 1, by omega, by go_num, Hn⟩
        case measure => simp [intOf]; omega
    · go_wp2
      go_ret
      refine ⟨ret_bool ?_, rfl⟩
      have := hE.out
      rw [List.take_of_length_le (by omega)] at this
      exact (decide_eq_false this).symm

theorem and_pow_ne (s i : Nat) : ((s &&& 2 ^ i) != 0) = s.testBit i := by
  have h : ∀ k, (s &&& 2 ^ i).testBit k = (s.testBit k && decide (i = k)) := fun k => by rw [Nat.testBit_and, testBit_pow]
  cases hb : s.testBit i
  · have : s &&& 2 ^ i = 0 := set_ext fun k => by
      rw [h, Nat.zero_testBit]
      by_cases e : i = k
      · subst e; rw [hb]; rfl
      · rw [decide_eq_false e, Bool.and_false]
    rw [this]; rfl
  · have h1 := h i
    rw [hb, decide_eq_true rfl] at h1
    rw [bne_iff_ne]
    intro e
    rw [e, Nat.zero_testBit] at h1
    cases h1
set_option maxHeartbeats 400000 in
theorem bit_calls (s i : Nat) (w : World) (hs : s < 4294967296) (hi : i < 32) :
    Calls Try.prog 19 #[.int .u32 s, .int .i64 i] w fun e w' => e = .returned (.bool (s.testBit i)) ∧ w' = w := by
  have p1 := pow_u32 i hi
  have p2 := and_u32 s (2 ^ i) hs (Nat.lt_of_lt_of_le (Nat.pow_lt_pow_right (by decide) hi) (by decide))
  have p3 : (((s &&& 2 ^ i : Nat) : Int) != 0) = s.testBit i := by
    rw [← and_pow_ne]
    rw [Bool.eq_iff_iff]; simp
  rw [Int.natCast_pow, show ((2 : Nat) : Int) = 2 from rfl] at p1 p2
  generalize s &&& 2 ^ i = x at *
  have p4 : (i : Int) % 18446744073709551616 = i := by omega
  go_enter Try.func19, Try.ntmps19
  go_wp2
  all_goals first | (exfalso; omega) | (go_ret; exact ⟨rfl, rfl⟩)

set_option maxHeartbeats 400000 in
theorem in_calls (a b : Nat) (w : World) (ha : a < 4294967296) (hb : b < 4294967296) :
    Calls Try.prog 25 #[.int .u32 a, .int .u32 b] w fun e w' => e = .returned (.bool (a ||| b == b)) ∧ w' = w := by
  have p1 := or_u32 a b ha hb
  have p2 : (((a ||| b : Nat) : Int) == (b : Int)) = (a ||| b == b) := by rw [Bool.eq_iff_iff, beq_iff_eq, beq_iff_eq]; omega
  generalize a ||| b = x at *
  go_enter Try.func25, Try.ntmps25
  go_wp2
  go_ret
  exact ⟨ret_bool (by first | rfl | exact p2 | (rw [← p2]; rfl) | simp_all), rfl⟩
/-- In, in terms of elements. -/
theorem in_iff (a b : Nat) : (a ||| b == b) = true ↔ ∀ k, a.testBit k = true → b.testBit k = true := by
  rw [beq_iff_eq]
  constructor
  · intro h k hk
    have := congrArg (fun s => s.testBit k) h
    simp only [Nat.testBit_or, hk, Bool.true_or] at this
    exact this.symm
  · intro h
    refine set_ext fun k => ?_
    rw [Nat.testBit_or]
    cases ha : a.testBit k
    · rfl
    · rw [h k ha]; rfl

theorem fits_calls (n : Nat) (s : Nat) (w : World) (hn : n < 32) :
    Calls Try.prog 30 #[.int .i64 n, .int .u32 s] w fun e w' => e = .returned (.bool (decide (s < 2 ^ n))) ∧ w' = w := by
  have p1 := pow_u32 n hn
  have p2 : decide ((s : Int) < ((2 ^ n : Nat) : Int)) = decide (s < 2 ^ n) := by rw [decide_eq_decide]; omega
  rw [Int.natCast_pow, show ((2 : Nat) : Int) = 2 from rfl] at p1 p2
  have p4 : (n : Int) % 18446744073709551616 = n := by omega
  generalize decide (s < 2 ^ n) = d at *
  go_enter Try.func30, Try.ntmps30
  go_wp2
  all_goals first | (exfalso; omega) | (go_ret; exact ⟨rfl, rfl⟩)

set_option maxHeartbeats 400000 in
theorem words_calls (A B : Option Addr) (a b : List Nat) (ca cb : Nat) (w : World) (hA : RdU w A a) (hB : RdU w B b) (ha : a.length < 1000000) :
    Calls Try.prog 21 #[.slice A a.length ca, .slice B b.length cb] w fun e w' => e = .returned (.bool (decide (a = b))) ∧ ∃ nq, w' = w.drewN nq := by
  have HA := Lib.hid hA; clear hA
  have HB := Lib.hid hB; clear hB
  by_cases hl : a.length = b.length
  case neg =>
    have q1 : ((a.length : Int) != (b.length : Int)) = true := by rw [bne_iff_ne]; omega
    have H := Lib.hid (show a ≠ b from fun h => hl (by rw [h]))
    clear hl
    go_enter Try.func21, Try.ntmps21
    go_wp2
    all_goals first | (exfalso; omega) | (go_ret; exact ⟨ret_bool (decide_eq_false H.out).symm, 0, rfl⟩)
  have q1 : ((a.length : Int) != (b.length : Int)) = false := by rw [bne_eq_false_iff_eq]; omega
  have Hl := Lib.hid hl
  clear hl
  go_enter Try.func21, Try.ntmps21
  go_wp2
  clear q1
  go_loopw [5] (fun i wr => ∃ k : Nat, k ≤ a.length ∧ i = .int .i64 k ∧ Hid (a.take k = b.take k) ∧ ∃ nq, wr = w.drewN nq) (fun i _ => a.length - (intOf i).toNat)
  case atStart => exact ⟨0, Nat.zero_le _, rfl, Lib.hid rfl, 0, rfl⟩
  case round =>
    obtain ⟨k, hk, rfl, hE, nq, rfl⟩ := hrel
    by_cases hlt : k < a.length
    · have hltb : k < b.length := by have := Hl.out; omega
      obtain ⟨b1, off1, rfl, hb1, c0⟩ := RdU.at1 HA.out hlt
      obtain ⟨b2, off2, rfl, hb2, c1⟩ := RdU.at1 HB.out hltb
      have k1 : ((k : Nat) : Int) < ((a.length : Nat) : Int) := by omega
      have k2 : ((k : Nat) : Int) < ((b.length : Nat) : Int) := by omega
      by_cases he : a[k] = b[k]
      · have q2 : ((a[k] : Nat) : Int) = ((b[k] : Nat) : Int) := by rw [he]
        have Hn : Hid (a.take (k + 1) = b.take (k + 1)) := by
          rw [List.take_succ_eq_append_getElem hlt, List.take_succ_eq_append_getElem hltb, hE.out, he]; exact Lib.hid rfl
        clear he hE
        generalize a[k] = x at *
        generalize b[k] = y at *
        go_wp2
        go_quiet (fail)
        go_wp2
        go_roundw
        case rel => exact ⟨k + 1, by omega, by go_num, Hn, _, rfl⟩
        case measure => simp [intOf]; omega
      · have q2 : (((a[k] : Nat) : Int) != ((b[k] : Nat) : Int)) = true := by rw [bne_iff_ne]; omega
        have Hn := Lib.hid (show a ≠ b from fun h => he (by simp [h]))
        clear he hE
        generalize a[k] = x at *
        generalize b[k] = y at *
        go_wp2
        go_quiet (fail)
        go_wp2
        go_ret
        exact ⟨ret_bool (decide_eq_false Hn.out).symm, _, World.drewN_drewN _ _ _⟩
    · go_wp2
      go_ret
      refine ⟨ret_bool ?_, _, rfl⟩
      have := hE.out
      have hl := Hl.out
      rw [List.take_of_length_le (by omega), List.take_of_length_le (by omega)] at this
      exact (decide_eq_true this).symm
end Go.Proofs.Ytljmignfbagomaa
