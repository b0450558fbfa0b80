/- known.makes walked. -/
import Derived.Test.YtadmmciiahdmcaaKnP
import Derived.BigQuiet
import Derived.Deep.QuietTactic
namespace Go.Proofs.Ytadmmciiahdmcaa
open Go.RowKit

theorem mkK_1 {a : List Int} {op sto sa sb sv : Int} (h : op = 1) : mkK a ⟨op, sto, sa, sb, sv⟩ = sv := by unfold mkK; rw [if_pos h]
theorem mkK_2 {a : List Int} {sto sa sb : Int} (m : Nat) : mkK a ⟨2, sto, sa, sb, (m : Nat)⟩ = a.getD m 0 := by unfold mkK; rw [if_neg (show ¬ (2 : Int) = 1 by decide), if_pos rfl]; dsimp only; rw [Int.toNat_natCast]
theorem mkK_3 {a : List Int} {op sto sv : Int} (x y : Nat) (h1 : op ≠ 1) (h2 : op ≠ 2) : mkK a ⟨op, sto, (x : Nat), (y : Nat), sv⟩ = if op = 5 ∧ (a.getD x 0 = 0 ∨ a.getD y 0 = 0) then 0 else if a.getD x 0 = -1 ∨ a.getD y 0 = -1 then -1 else doF op (a.getD x 0) (a.getD y 0) := by
  unfold mkK; rw [if_neg h1, if_neg h2]; dsimp only; rw [Int.toNat_natCast, Int.toNat_natCast]
theorem getK_bd {l : List Int} (h : ∀ x ∈ l, -1 ≤ x ∧ x ≤ 255) (i : Nat) : -1 ≤ l.getD i 0 ∧ l.getD i 0 ≤ 255 := by
  by_cases hi : i < l.length
  · rw [List.getD_eq_getElem?_getD, List.getElem?_eq_getElem hi]; exact h _ (List.getElem_mem hi)
  · rw [List.getD_eq_getElem?_getD, List.getElem?_eq_none (by omega)]; simp
set_option maxRecDepth 100000 in
set_option maxHeartbeats 4000000 in
theorem makes_calls (vars : Int) (s : Step) (A : Option Addr) (v : List Int) (cap : Nat) (w : World) (hA : RdI w A v) (hl : (v.length : Int) = vars) (hs : SOk vars s) (hv : ∀ x ∈ v, -1 ≤ x ∧ x ≤ 255) :
    Calls Try.prog 58 #[s.agg, .slice A v.length cap] w fun e w' => e = .returned (.int .i64 (mkK v s)) ∧ Below w.heap.size w w' := by
  subst hl
  have HA := Lib.hid hA
  have Hv := Lib.hid hv
  clear hA hv
  obtain ⟨op, sto, sa, sb, sv⟩ := s
  obtain ⟨o1, o6, on, ov, ⟨t0, t1⟩, oab⟩ := hs
  dsimp only at o1 o6 on ov t0 t1 oab
  have HW := Lib.hid (fun o => (Below.refl w.heap.size w).alloc (Nat.le_refl _) (.cells #[.int .i64 o, .int .i64 sto, .int .i64 sa, .int .i64 sb, .int .i64 sv] 78))
  unfold Step.agg
  dsimp only
  by_cases h1 : op = 1
  · subst h1
    rw [mkK_1 rfl]
    clear on ov oab
    go_enter Try.func58, Try.ntmps58
    go_wp2
    go_ret
    exact ⟨rfl, HW.out _⟩
  have q1 : (op == 1) = false := by rw [beq_eq_false_iff_ne]; exact h1
  by_cases h2 : op = 2
  · subst h2
    obtain ⟨v0, v1⟩ := ov rfl
    obtain ⟨m, rfl⟩ := Int.eq_ofNat_of_zero_le v0
    have hm : m < v.length := by omega
    rw [mkK_2]
    obtain ⟨b, off, rfl, hb, c0⟩ := RdI.at1 HA.out hm
    rw [← getI_get hm] at c0
    generalize v.getD m 0 = x at *
    clear on ov oab q1
    go_enter Try.func58, Try.ntmps58
    go_wp2
    go_ret
    exact ⟨rfl, HW.out _⟩
  have q2 : (op == 2) = false := by rw [beq_eq_false_iff_ne]; exact h2
  obtain ⟨⟨a0, a1⟩, b0, b1⟩ := oab (by omega)
  obtain ⟨m, rfl⟩ := Int.eq_ofNat_of_zero_le a0
  obtain ⟨k, rfl⟩ := Int.eq_ofNat_of_zero_le b0
  have hm : m < v.length := by omega
  have hk : k < v.length := by omega
  rw [mkK_3 m k h1 h2]
  obtain ⟨b, off, rfl, hb, c0⟩ := RdI.at1 HA.out hm
  obtain ⟨b', off', eb, hb', c1⟩ := RdI.at1 HA.out hk
  injection eb with eb; injection eb with eb1 eb2
  subst eb1 eb2
  rw [← getI_get hm] at c0
  rw [← getI_get hk] at c1
  have xb := getK_bd Hv.out m
  have yb := getK_bd Hv.out k
  generalize v.getD m 0 = x at *
  generalize v.getD k 0 = y at *
  clear on ov oab
  by_cases h5 : op = 5 ∧ (x = 0 ∨ y = 0)
  · rw [if_pos h5]
    obtain ⟨rfl, h5⟩ := h5
    by_cases hx : x = 0
    · subst hx
      go_enter Try.func58, Try.ntmps58
      go_wp2
      go_quiet (fail)
      go_wp2
      go_ret
      exact ⟨rfl, below_dN (HW.out _) _⟩
    · obtain rfl : y = 0 := by omega
      have q3 : (x == 0) = false := by rw [beq_eq_false_iff_ne]; exact hx
      go_enter Try.func58, Try.ntmps58
      go_wp2
      go_quiet (fail)
      go_wp2
      go_ret
      exact ⟨rfl, below_dN (HW.out _) _⟩
  rw [if_neg h5]
  by_cases hmx : x = -1 ∨ y = -1
  · rw [if_pos hmx]
    by_cases h6 : op = 5
    · subst h6
      have q3 : (x == 0) = false := by rw [beq_eq_false_iff_ne]; omega
      have q4 : (y == 0) = false := by rw [beq_eq_false_iff_ne]; omega
      by_cases hx : x = -1
      · subst hx
        go_enter Try.func58, Try.ntmps58
        go_wp2
        go_quiet (fail)
        go_wp2
        go_ret
        exact ⟨rfl, below_dN (HW.out _) _⟩
      · obtain rfl : y = -1 := by omega
        have q5 : (x == -1) = false := by rw [beq_eq_false_iff_ne]; exact hx
        go_enter Try.func58, Try.ntmps58
        go_wp2
        go_quiet (fail)
        go_wp2
        go_ret
        exact ⟨rfl, below_dN (HW.out _) _⟩
    · have q6 : (op == 5) = false := by rw [beq_eq_false_iff_ne]; exact h6
      by_cases hx : x = -1
      · subst hx
        go_enter Try.func58, Try.ntmps58
        go_wp2
        go_quiet (fail)
        go_wp2
        go_ret
        exact ⟨rfl, below_dN (HW.out _) _⟩
      · obtain rfl : y = -1 := by omega
        have q5 : (x == -1) = false := by rw [beq_eq_false_iff_ne]; exact hx
        go_enter Try.func58, Try.ntmps58
        go_wp2
        go_quiet (fail)
        go_wp2
        go_ret
        exact ⟨rfl, below_dN (HW.out _) _⟩
  · rw [if_neg hmx]
    have q3 : (x == -1) = false := by rw [beq_eq_false_iff_ne]; omega
    have q4 : (y == -1) = false := by rw [beq_eq_false_iff_ne]; omega
    have Hcl := Lib.hid (fun w => do_calls op x y w (by omega) (by omega))
    by_cases h6 : op = 5
    · subst h6
      have q5 : (x == 0) = false := by rw [beq_eq_false_iff_ne]; omega
      have q6 : (y == 0) = false := by rw [beq_eq_false_iff_ne]; omega
      go_enter Try.func58, Try.ntmps58
      go_wp2
      go_quiet (fail)
      go_wp2_with (go_at_call 70; refine (Hcl.out _).mono ?_; rintro e w9 ⟨rfl, rfl⟩)
      go_ret
      exact ⟨rfl, below_dN (HW.out _) _⟩
    · have q6 : (op == 5) = false := by rw [beq_eq_false_iff_ne]; exact h6
      go_enter Try.func58, Try.ntmps58
      go_wp2
      go_quiet (fail)
      go_wp2_with (go_at_call 70; refine (Hcl.out _).mono ?_; rintro e w9 ⟨rfl, rfl⟩)
      go_ret
      exact ⟨rfl, below_dN (HW.out _) _⟩
end Go.Proofs.Ytadmmciiahdmcaa
