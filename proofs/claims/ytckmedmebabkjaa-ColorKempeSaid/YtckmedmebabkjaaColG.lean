/- color.Peel. -/
import Derived.Test.YtckmedmebabkjaaColE
import Derived.Test.YtckmedmebabkjaaAndN
import Derived.Test.YtckmedmebabkjaaOnes
import Derived.Test.YtckmedmebabkjaaBits1
import Derived.Deep.LoopGhost
namespace Go.Proofs.Ytckmedmebabkjaa
open Go.RowKit

theorem Peels.congr {n k : Nat} {adj : Nat → Nat → Prop} {s t : Nat → Prop} (h : Peels n adj k s) (he : ∀ i, i < n → (t i → s i)) : Peels n adj k t := by
  induction h generalizing t with
  | none h => exact .none fun i hi ht => h i hi (he i hi ht)
  | one i l hl hall h ih =>
    refine .one i l hl (fun j hj ht ha => hall j hj (he j hj ht) ha) (ih fun j hj ht => ⟨he j hj ht.1, ht.2⟩)
/-- What is left is s: if that can be taken away so can all. -/
structure Left (m : Nat) (ps : List (Int × Int)) (k s : Nat) : Prop where
  lt : s < 2 ^ m
  all : Peels m (Cl ps) k (fun i => s.testBit i = true) → Peels m (Cl ps) k (fun _ => True)
theorem Left.first {m : Nat} (ps : List (Int × Int)) (k : Nat) : Left m ps k (2 ^ m - 1) :=
  ⟨by have := Nat.two_pow_pos m; omega, fun h => h.congr fun i hi _ => by rw [Nat.testBit_two_pow_sub_one]; simpa using hi⟩
theorem Left.step {m : Nat} {ps : List (Int × Int)} {k s i : Nat} (h : Left m ps k s) (h8 : m ≤ 8) (hc : cnt8 (clS ps i &&& s) < k) : Left m ps k (andN s (2 ^ i)) := by
  have hs : s < 4294967296 := by have := h.lt; have : 2 ^ m ≤ 2 ^ 8 := Nat.pow_le_pow_right (by decide) h8; omega
  have hb : ∀ j, (andN s (2 ^ i)).testBit j = true ↔ s.testBit j = true ∧ j ≠ i := fun j => by
    rw [andN_bit _ hs, Bool.and_eq_true, Bool.not_eq_true', testBit_pow, decide_eq_false_iff_not]
    exact and_congr Iff.rfl ⟨fun h e => h e.symm, fun h e => h e.symm⟩
  refine ⟨lt_pow_of_bits fun j hj => bit_lt h.lt ((hb j).1 hj).1, fun hp => h.all (.one i ((List.range 8).filter fun j => (clS ps i &&& s).testBit j) hc (fun j hj hsj ha => ?_) (hp.congr fun j _ hj => (hb j).2 hj))⟩
  rw [List.mem_filter]
  refine ⟨List.mem_range.2 (by omega), ?_⟩
  rw [Nat.testBit_and, hsj, Bool.and_true]
  unfold clS
  exact (setN_bit _ _).2 ⟨by omega, ha⟩
theorem cnt8_andN {s t : Nat} (hs : s < 4294967296) (ht : t < 8) (hb : s.testBit t = true) : cnt8 (andN s (2 ^ t)) < cnt8 s := by
  have e : s = andN s (2 ^ t) ||| 2 ^ t := set_ext fun j => by
    rw [set_bit, andN_bit _ hs, testBit_pow]
    by_cases h : t = j
    · subst h; rw [hb]; simp
    · simp [h]
  have h2 := cnt8_set (s := andN s (2 ^ t)) ht (by rw [andN_bit _ hs, testBit_pow]; simp)
  rw [← e] at h2
  omega
def PeelEnd (n : Int) (ps : List (Int × Int)) (k : Int) (w : World) (e : Ending) (w' : World) : Prop :=
  Below w.heap.size w w' ∧ (((clErr n ps ≠ 0 ∨ k < 0) ∧ ∃ E : Int, E ≠ 0 ∧ e = .returned (.tuple #[.int .u32 0, .int .i64 E])) ∨
    (∃ m k' s : Nat, n = m ∧ k = k' ∧ ClOk m ps ∧ e = .returned (.tuple #[.int .u32 s, .int .i64 0]) ∧ Left m ps k' s))
set_option maxHeartbeats 4000000 in
theorem peel_calls (n : Int) (A : Option Addr) (ps : List (Int × Int)) (cap : Nat) (k : Int) (hk2 : k ≤ 9223372036854775807) (w : World) (hA : RdP w A ps) (hm : ps.length ≤ maxLen) :
    Calls Try.prog 10 #[.int .i64 n, .slice A ps.length cap, .int .i64 k] w (PeelEnd n ps k w) := by
  have HA := Lib.hid hA; clear hA
  go_enter Try.func10, Try.ntmps10
  go_wp2_with fail
  refine (clashes_any _ _ _ _ _ HA.out hm).mono ?_
  rintro e w1 ⟨v, rfl, hW, hr⟩
  have HW := Lib.hid hW
  have hw1 := hW.size
  clear hW
  rcases hr with ⟨h0, rfl⟩ | ⟨m, rfl, hok, hown⟩
  · have q : (clErr n ps != 0) = true := by rw [bne_iff_ne]; exact h0
    have H0 := Lib.hid h0
    clear h0
    go_wp2
    go_ret2
    exact ⟨HW.out, .inl ⟨.inl H0.out, _, H0.out, rfl⟩⟩
  · rw [hok.err]
    have Hok := Lib.hid hok
    have h1 := hok.n1
    have h8 := hok.n8
    obtain ⟨B, capB, rfl, hR⟩ := hown.rd
    have HR := Lib.hid hR
    rw [clL_len]
    clear hok hown hR
    by_cases hk0 : k < 0
    · have Hk0 := Lib.hid hk0
      go_wp2
      go_ret2
      exact ⟨HW.out, .inl ⟨.inr Hk0.out, _, by decide, rfl⟩⟩
    obtain ⟨k, rfl⟩ := Int.eq_ofNat_of_zero_le (show 0 ≤ k by omega)
    have m32 : m < 32 := by omega
    have p1 := pow_u32 m m32
    have pm : 2 ^ m ≤ 2 ^ 8 := Nat.pow_le_pow_right (by decide) h8
    have pm1 := Nat.two_pow_pos m
    have HL0 := Lib.hid (Left.first (m := m) ps k)
    have p2 : (((2 ^ m : Nat) : Int) - 1) % 4294967296 = ((2 ^ m - 1 : Nat) : Int) := by omega
    rw [Int.natCast_pow, show ((2 : Nat) : Int) = 2 from rfl] at p1 p2
    clear pm pm1
    generalize 2 ^ m - 1 = s0 at *
    go_wp2
    go_loopg [10, 11] (cnt8 s0 + 1) (fun g l m_ wr => ∃ (s : Nat) (b : Bool), l = .int .u32 s ∧ m_ = .bool b ∧ Hid (Left m ps k s) ∧ Below w1.heap.size w1 wr ∧ (b = true → cnt8 s < g))
    case atStart => exact ⟨s0, true, by first | rfl | rw [p2], rfl, HL0.out, Below.refl _ _, fun _ => by omega⟩
    case round =>
      clear HL0 p1 p2
      obtain ⟨s, b, rfl, rfl, hL, hW, hlt⟩ := hrel
      have HW2 := Lib.hid hW
      have Hlt := Lib.hid hlt
      clear hW hlt
      cases b
      · go_wp2
        go_ret2
        exact ⟨HW.out.trans (HW2.out.mono hw1), .inr ⟨m, k, s, rfl, rfl, Hok.out, rfl, hL.out⟩⟩
      · go_wp2
        go_loopw [10, 33] (fun l i wr => ∃ (s' t : Nat), t ≤ m ∧ l = .int .u32 s' ∧ i = .int .i64 t ∧ Hid (Left m ps k s') ∧ Hid (s' = s ∨ cnt8 s' < cnt8 s) ∧ Below w1.heap.size w1 wr) (fun _ i _ => m - (intOf i).toNat)
        case atStart => exact ⟨s, 0, Nat.zero_le _, rfl, rfl, hL, Lib.hid (.inl rfl), HW2.out⟩
        case round =>
          clear HW2
          obtain ⟨s', t, ht, rfl, rfl, hL', hc, hW⟩ := hrel
          have HW2 := Lib.hid hW
          have hw2 := hW.size
          by_cases hltt : t < m
          · obtain ⟨b2, off2, rfl, hb2, c2⟩ := RdU.at1 (Rd.below HR.out hW) (show t < (clL m ps).length by rw [clL_len]; exact hltt)
            rw [clL_get] at c2
            have hS := clS_lt ps t
            have hs' : s' < 256 := Nat.lt_of_lt_of_le hL'.out.lt (Nat.pow_le_pow_right (by decide) h8 : 2 ^ m ≤ 2 ^ 8)
            have t32 : t < 32 := by omega
            have p1 := test1_u32 s' t (by omega)
            have p2 := and_u32 (clS ps t) s' (by omega) (by omega)
            have p3 := pow_u32 t t32
            have pt : 2 ^ t < 2 ^ 8 := Nat.pow_lt_pow_right (by decide) (by omega)
            have p4 := andN_u32 s' (2 ^ t) (by omega) (by omega)
            rw [Int.natCast_pow, show ((2 : Nat) : Int) = 2 from rfl] at p3 p4
            have hx : clS ps t &&& s' < 256 := Nat.lt_of_le_of_lt Nat.and_le_right hs'
            clear hW pt
            cases hb : s'.testBit t
            · rw [hb] at p1
              clear p2 p3 p4 hb
              generalize clS ps t = x at *
              go_wp2
              go_roundw
              case rel => exact ⟨s', t + 1, by omega, rfl, by go_num, hL', hc, HW2.out⟩
              case measure => simp [intOf]; omega
            · rw [hb] at p1
              have Hcl := Lib.hid (cnt8_andN (s := s') (t := t) (by omega) (by omega) hb)
              have Hst := Lib.hid (fun h => hL'.out.step (i := t) h8 h)
              clear hb
              have h4 := cnt8_le (clS ps t &&& s')
              by_cases hck : cnt8 (clS ps t &&& s') < k
              · have q : decide (((cnt8 (clS ps t &&& s') : Nat) : Int) < (k : Int)) = true := decide_eq_true (by omega)
                have q' : ((cnt8 (clS ps t &&& s') : Nat) : Int) < (k : Int) := by omega
                have Hst2 := Lib.hid (Hst.out hck)
                clear Hst hck
                generalize clS ps t &&& s' = y at *
                generalize clS ps t = x at *
                have Hok1 := Lib.hid (fun w => ones_calls y w hx)
                generalize cnt8 y = cy at *
                go_wp2_with (go_at_call 18; refine (Hok1.out _).mono ?_; rintro e w9 ⟨rfl, nq, rfl⟩)
                all_goals first
                  | (exfalso; omega)
                  | (go_roundw
                     case rel => exact ⟨_, t + 1, by omega, rfl, by go_num, Hst2, Lib.hid (.inr (by
                       rcases hc.out with h | h
                       · rw [← h]; exact Hcl.out
                       · have := Hcl.out; omega)), below_dN HW2.out _⟩
                     case measure => simp [intOf]; omega)
              · have q : decide (((cnt8 (clS ps t &&& s') : Nat) : Int) < (k : Int)) = false := decide_eq_false (by omega)
                have q' : ¬ ((cnt8 (clS ps t &&& s') : Nat) : Int) < (k : Int) := by omega
                clear Hst hck
                generalize clS ps t &&& s' = y at *
                generalize clS ps t = x at *
                have Hok1 := Lib.hid (fun w => ones_calls y w hx)
                generalize cnt8 y = cy at *
                go_wp2_with (go_at_call 18; refine (Hok1.out _).mono ?_; rintro e w9 ⟨rfl, nq, rfl⟩)
                all_goals first
                  | (exfalso; omega)
                  | (go_roundw
                     case rel => exact ⟨s', t + 1, by omega, rfl, by go_num, hL', hc, below_dN HW2.out _⟩
                     case measure => simp [intOf]; omega)
          · have : t = m := by omega
            subst this
            clear hW
            by_cases he : s' = s
            · have q : ((s' : Int) != (s : Int)) = false := by rw [bne_eq_false_iff_eq, he]
              clear he
              go_wp2
              go_roundg 0
              case measure => have := Hlt.out trivial; omega
              case rel => exact ⟨s', false, rfl, rfl, hL', HW2.out, (fun h => by cases h)⟩
            · have q : ((s' : Int) != (s : Int)) = true := by rw [bne_iff_ne]; omega
              have Hc := Lib.hid (hc.out.resolve_left he)
              clear he
              go_wp2
              go_roundg (cnt8 s)
              case measure => have := Hlt.out trivial; omega
              case rel => exact ⟨s', true, rfl, rfl, hL', HW2.out, fun _ => Hc.out⟩
end Go.Proofs.Ytckmedmebabkjaa
