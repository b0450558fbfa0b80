/- live.ahead and live.wrong walked. -/
import Derived.Test.YtmgejacndhnikaaLivP
import Derived.Test.YtmgejacndhnikaaBlkC
import Derived.BigQuiet
import Derived.Deep.QuietTactic
namespace Go.Proofs.Ytmgejacndhnikaa
open Go.RowKit

set_option maxHeartbeats 1000000 in
theorem ahead_calls (vars : Int) (s : Step) (hs : SOk vars s) (h6 : vars ≤ 6) (l : Nat) (hl : l < 4294967296) (w : World) :
    Calls Try.prog 96 #[s.agg, .int .u32 l] w fun e w' => e = .returned (.int .u32 (ahL s l : Nat)) ∧ Below w.heap.size w w' := by
  obtain ⟨o1, o6, _, hov, ⟨t0, t1⟩, hab⟩ := hs
  have HL : Hid (ahL s l = if s.op = 1 then andN l (2 ^ s.to.toNat) else if s.op = 2 then andN l (2 ^ s.to.toNat) ||| 2 ^ s.val.toNat else (andN l (2 ^ s.to.toNat) ||| 2 ^ s.a.toNat) ||| 2 ^ s.b.toNat) := Lib.hid rfl
  obtain ⟨op, to, sa, sb, sv⟩ := s
  dsimp only at *
  obtain ⟨d, rfl⟩ := Int.eq_ofNat_of_zero_le t0
  have d32 : d < 32 := by omega
  have r1 := pow_u32 d d32
  have pd : 2 ^ d < 2 ^ 32 := Nat.pow_lt_pow_right (by decide) d32
  have r2 := andN_u32 l (2 ^ d) hl (by omega)
  have x0 := andN_lt l (2 ^ d)
  have HW := Lib.hid ((Below.refl w.heap.size w).alloc (Nat.le_refl _) (.cells #[.int .i64 op, .int .i64 d, .int .i64 sa, .int .i64 sb, .int .i64 sv] 87))
  rw [Int.toNat_natCast] at HL
  generalize andN l (2 ^ d) = x at *
  rw [Int.natCast_pow, show ((2 : Nat) : Int) = 2 from rfl] at r1 r2
  unfold Step.agg
  by_cases e1 : op = 1
  · have HL := Lib.hid (HL.out.trans (if_pos e1))
    subst e1
    clear pd hov hab
    go_enter Try.func96, Try.ntmps96
    go_wp2
    go_ret
    exact ⟨by rw [HL.out]; rfl, HW.out⟩
  have q1 : (op == 1) = false := by rw [beq_eq_false_iff_ne]; exact e1
  have HL := Lib.hid (HL.out.trans (if_neg e1))
  by_cases e2 : op = 2
  · have HL := Lib.hid (HL.out.trans (if_pos e2))
    obtain ⟨v0, v1⟩ := hov e2
    obtain ⟨v, rfl⟩ := Int.eq_ofNat_of_zero_le v0
    have v32 : v < 32 := by omega
    have r3 := pow_u32 v v32
    have pv : 2 ^ v < 2 ^ 32 := Nat.pow_lt_pow_right (by decide) v32
    have r4 := or_u32 x (2 ^ v) x0 (by omega)
    rw [Int.toNat_natCast] at HL
    rw [Int.natCast_pow, show ((2 : Nat) : Int) = 2 from rfl] at r3 r4
    subst e2
    clear pd pv hov hab
    go_enter Try.func96, Try.ntmps96
    go_wp2
    go_ret
    exact ⟨by rw [HL.out]; rfl, HW.out⟩
  have q2 : (op == 2) = false := by rw [beq_eq_false_iff_ne]; exact e2
  have HL := Lib.hid (HL.out.trans (if_neg e2))
  obtain ⟨⟨a0, a1⟩, b0, b1⟩ := hab (by omega)
  obtain ⟨a, rfl⟩ := Int.eq_ofNat_of_zero_le a0
  obtain ⟨b, rfl⟩ := Int.eq_ofNat_of_zero_le b0
  have a32 : a < 32 := by omega
  have b32 : b < 32 := by omega
  have r3 := pow_u32 a a32
  have pa : 2 ^ a < 2 ^ 32 := Nat.pow_lt_pow_right (by decide) a32
  have r5 := pow_u32 b b32
  have pb : 2 ^ b < 2 ^ 32 := Nat.pow_lt_pow_right (by decide) b32
  have r4 := or_u32 x (2 ^ a) x0 (by omega)
  have y0 : x ||| 2 ^ a < 4294967296 := Nat.or_lt_two_pow (n := 32) x0 pa
  have r6 := or_u32 (x ||| 2 ^ a) (2 ^ b) y0 (by omega)
  rw [Int.toNat_natCast, Int.toNat_natCast] at HL
  generalize x ||| 2 ^ a = y at *
  rw [Int.natCast_pow, show ((2 : Nat) : Int) = 2 from rfl] at r3 r4 r5 r6
  clear pd pa pb hov hab e1 e2
  go_enter Try.func96, Try.ntmps96
  go_wp2
  go_quiet (fail)
  go_wp2
  go_ret
  exact ⟨by rw [HL.out]; rfl, below_dN HW.out _⟩

/-- What is wrong with a program and a set. -/
def lvErr (vars : Int) (p : List Blk) (want : Nat) : Int := if pkErr vars p = 0 then (if want < 2 ^ vars.toNat then 0 else 4) else pkErr vars p
theorem shr_zero (a n : Nat) : a >>> n = 0 ↔ a < 2 ^ n := by
  rw [Nat.shiftRight_eq_div_pow, Nat.div_eq_zero_iff]
  have := Nat.two_pow_pos n
  omega
set_option maxHeartbeats 1000000 in
theorem lvWrong_calls (vars : Int) (A : Option Addr) (p : List Blk) (cap want : Nat) (w : World) (hA : RdBk w A p) (hm : p.length ≤ maxLen) (hmc : smallB p) :
    Calls Try.prog 91 #[.int .i64 vars, .slice A p.length cap, .int .u32 want] w fun e w' => e = .returned (.int .i64 (lvErr vars p want)) ∧ Below w.heap.size w w' := by
  have Hc := Lib.hid (blkCheck_calls vars A p cap w hA hm hmc)
  clear hA hm hmc
  by_cases h0 : pkErr vars p = 0
  · have hv := (pok_of h0).v1
    have hv6 := (pok_of h0).v6
    obtain ⟨n, rfl⟩ := Int.eq_ofNat_of_zero_le (show 0 ≤ vars by omega)
    have hs := shr_u32 want n
    have hz := shr_zero want n
    have Hr := Lib.hid (show lvErr (n : Int) p want = if want < 2 ^ n then 0 else 4 by unfold lvErr; rw [if_pos h0, Int.toNat_natCast])
    rw [h0] at Hc
    clear h0
    by_cases h1 : want < 2 ^ n
    · have h2 := hz.2 h1
      rw [h2] at hs
      have Hr := Lib.hid (Hr.out.trans (if_pos h1))
      rw [Hr.out]
      clear hz h1 h2
      go_enter Try.func91, Try.ntmps91
      go_wp2_with (go_at_call 41; refine Hc.out.mono ?_; rintro e w1 ⟨rfl, hW⟩; have HW1 := Lib.hid hW; clear hW)
      go_ret
      exact ⟨rfl, HW1.out⟩
    · have h2 : want >>> n ≠ 0 := fun e => h1 (hz.1 e)
      have Hr := Lib.hid (Hr.out.trans (if_neg h1))
      rw [Hr.out]
      have q : (((want >>> n : Nat) : Int) != 0) = true := by rw [bne_iff_ne]; omega
      clear hz h1 h2
      generalize want >>> n = x at *
      go_enter Try.func91, Try.ntmps91
      go_wp2_with (go_at_call 41; refine Hc.out.mono ?_; rintro e w1 ⟨rfl, hW⟩; have HW1 := Lib.hid hW; clear hW)
      go_ret
      exact ⟨rfl, HW1.out⟩
  · have Hr := Lib.hid (show lvErr vars p want = pkErr vars p by unfold lvErr; rw [if_neg h0])
    rw [Hr.out]
    have q : (pkErr vars p != 0) = true := by rw [bne_iff_ne]; exact h0
    clear h0
    generalize pkErr vars p = x at *
    go_enter Try.func91, Try.ntmps91
    go_wp2_with (go_at_call 41; refine Hc.out.mono ?_; rintro e w1 ⟨rfl, hW⟩; have HW1 := Lib.hid hW; clear hW)
    go_ret
    exact ⟨rfl, HW1.out⟩
end Go.Proofs.Ytmgejacndhnikaa
