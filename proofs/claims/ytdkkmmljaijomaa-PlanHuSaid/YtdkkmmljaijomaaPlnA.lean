/- plan.ready and plan.ahead walked. -/
import Derived.Test.YtdkkmmljaijomaaPlnP
import Derived.Test.YtdkkmmljaijomaaAndN
import Derived.Test.YtdkkmmljaijomaaPairs
import Derived.Test.YtdkkmmljaijomaaOwnU
import Derived.Test.YtdkkmmljaijomaaInside
import Derived.BigGuardPart
import Derived.StillTailTactics
import Derived.Deep.LoopGhost
namespace Go.Proofs.Ytdkkmmljaijomaa
open Go.RowKit

def inP (n : Int) (p : Int × Int) : Prop := 0 ≤ p.1 ∧ p.1 < n ∧ 0 ≤ p.2 ∧ p.2 < n
instance (n : Int) (p : Int × Int) : Decidable (inP n p) := by unfold inP; exact inferInstance
/-- By a pair i must be ahead of j. -/
def Pr (ps : List (Int × Int)) (i j : Nat) : Prop := ∃ p ∈ ps, p.1 = i ∧ p.2 = j
noncomputable def preS (ps : List (Int × Int)) (j : Nat) : Nat := setN fun i => Pr ps i j
noncomputable def preL (n : Nat) (ps : List (Int × Int)) : List Nat := (List.range n).map (preS ps)
theorem preL_len (n : Nat) (ps : List (Int × Int)) : (preL n ps).length = n := by simp [preL]
theorem preL_get (n : Nat) (ps : List (Int × Int)) (i : Nat) (h : i < (preL n ps).length) : (preL n ps)[i] = preS ps i := by simp [preL]
theorem preS_lt (ps : List (Int × Int)) (i : Nat) : preS ps i < 256 := setN_lt _
theorem preL_nil (n : Nat) : preL n [] = List.replicate n 0 := by
  refine List.ext_getElem (by simp [preL]) fun j h1 h2 => ?_
  rw [preL_get, List.getElem_replicate]
  exact setN_false fun k _ ⟨p, hp, _⟩ => by simp at hp
theorem preL_push {n : Nat} {ps : List (Int × Int)} {a b : Nat} (ha : a < n) (h8 : n ≤ 8) : (preL n ps).set b (preS ps b ||| 2 ^ a) = preL n (ps ++ [((a : Int), (b : Int))]) := by
  refine List.ext_getElem (by simp [preL]) fun j h1 h2 => ?_
  rw [preL_get, List.getElem_set]
  have key : ∀ k, (preS (ps ++ [((a : Int), (b : Int))]) j).testBit k = true ↔ k < 8 ∧ (Pr ps k j ∨ (a = k ∧ b = j)) := fun k => by
    unfold preS
    rw [setN_bit]
    refine and_congr Iff.rfl ⟨?_, ?_⟩
    · rintro ⟨p, hp, h⟩
      rcases List.mem_append.1 hp with hp | hp
      · exact .inl ⟨p, hp, h⟩
      · simp at hp; subst hp; dsimp only at h; omega
    · rintro (⟨p, hp, h⟩ | ⟨h, h'⟩)
      · exact ⟨p, by simp [hp], h⟩
      · exact ⟨_, List.mem_append_right _ (List.mem_singleton.2 rfl), by dsimp only; omega⟩
  have base : ∀ k, (preS ps j).testBit k = true ↔ k < 8 ∧ Pr ps k j := fun k => setN_bit _ _
  refine set_ext fun k => ?_
  rw [Bool.eq_iff_iff, key]
  by_cases e : b = j
  · subst e
    rw [if_pos rfl, set_bit, Bool.or_eq_true, base, decide_eq_true_eq]
    constructor
    · rintro (⟨h, h'⟩ | rfl)
      · exact ⟨h, .inl h'⟩
      · exact ⟨by omega, .inr ⟨rfl, rfl⟩⟩
    · rintro ⟨h, h' | ⟨h', _⟩⟩
      · exact .inl ⟨h, h'⟩
      · exact .inr h'
  · rw [if_neg e, preL_get, base]
    constructor
    · rintro ⟨h, h'⟩; exact ⟨h, .inl h'⟩
    · rintro ⟨h, h' | ⟨_, h'⟩⟩
      · exact ⟨h, h'⟩
      · exact absurd h' e
/-- The pairs lie within. -/
def Inn (n : Nat) (ps : List (Int × Int)) : Prop := ∀ p ∈ ps, inP n p
theorem Inn.lt {n : Nat} {ps : List (Int × Int)} (h : Inn n ps) {i j : Nat} (hr : Pr ps i j) : i < n ∧ j < n := by
  obtain ⟨p, hp, e1, e2⟩ := hr
  have := h p hp
  unfold inP at this
  omega
/-- Ready, by words. -/
theorem ready_word {n : Nat} {ps : List (Int × Int)} (hI : Inn n ps) (h8 : n ≤ 8) {d i : Nat} (hi : i < n) : Ready n (Pr ps) d i ↔ d.testBit i = false ∧ andN (preS ps i) d = 0 := by
  have hs := preS_lt ps i
  unfold Ready
  constructor
  · rintro ⟨_, h1, h2⟩
    refine ⟨h1, set_ext fun k => ?_⟩
    rw [andN_bit _ (by omega), Nat.zero_testBit, Bool.and_eq_false_iff]
    cases hk : (preS ps i).testBit k
    · exact .inl rfl
    · refine .inr ?_
      unfold preS at hk
      rw [setN_bit] at hk
      have := h2 k hk.2
      unfold inW at this
      rw [this]; rfl
  · rintro ⟨h1, h2⟩
    refine ⟨hi, h1, fun j hj => ?_⟩
    have h3 := congrArg (fun s => s.testBit j) h2
    simp only [andN_bit _ (show preS ps i < 4294967296 by omega), Nat.zero_testBit] at h3
    have h4 : (preS ps i).testBit j = true := by
      unfold preS; rw [setN_bit]
      have := (hI.lt hj).1
      exact ⟨by omega, hj⟩
    rw [h4] at h3
    unfold inW
    simpa using h3
noncomputable def rdK (n : Nat) (ps : List (Int × Int)) (d k : Nat) : Nat := setN fun i => i < k ∧ Ready n (Pr ps) d i
theorem rdK_zero (n : Nat) (ps : List (Int × Int)) (d : Nat) : rdK n ps d 0 = 0 := setN_false fun _ _ h => by omega
theorem rdK_all (n : Nat) (ps : List (Int × Int)) (d : Nat) : rdK n ps d n = rdW n (Pr ps) d := setN_congr fun _ _ => ⟨fun h => h.2, fun h => ⟨h.1, h⟩⟩
theorem rdK_lt (n : Nat) (ps : List (Int × Int)) (d k : Nat) : rdK n ps d k < 256 := setN_lt _
theorem rdK_yes {n : Nat} {ps : List (Int × Int)} {d k : Nat} (hk : k < 8) (h : Ready n (Pr ps) d k) : rdK n ps d k ||| 2 ^ k = rdK n ps d (k + 1) := setN_ext fun i => by
  rw [set_bit, Bool.or_eq_true, decide_eq_true_eq]
  unfold rdK
  rw [setN_bit]
  constructor
  · rintro (⟨h1, h2, h3⟩ | rfl)
    · exact ⟨h1, by omega, h3⟩
    · exact ⟨hk, by omega, h⟩
  · rintro ⟨h1, h2, h3⟩
    by_cases e : k = i
    · exact .inr e
    · exact .inl ⟨h1, by omega, h3⟩
theorem rdK_no {n : Nat} {ps : List (Int × Int)} {d k : Nat} (h : ¬ Ready n (Pr ps) d k) : rdK n ps d k = rdK n ps d (k + 1) := setN_congr fun i _ => by
  constructor
  · rintro ⟨h2, h3⟩; exact ⟨by omega, h3⟩
  · rintro ⟨h2, h3⟩
    by_cases e : i = k
    · subst e; exact absurd h3 h
    · exact ⟨by omega, h3⟩

set_option maxHeartbeats 1000000 in
theorem ready_calls (n : Nat) (A : Option Addr) (ps : List (Int × Int)) (cap d : Nat) (w : World) (hA : RdU w A (preL n ps)) (hI : Inn n ps) (h8 : n ≤ 8) (hd : d < 4294967296) :
    Calls Try.prog 40 #[.slice A n cap, .int .u32 d] w fun e w' => e = .returned (.int .u32 (rdW n (Pr ps) d : Nat)) ∧ w' = w := by
  have HA := Lib.hid hA
  have HI := Lib.hid hI
  have Hall := Lib.hid (rdK_all n ps d)
  clear hA hI
  go_enter Try.func40, Try.ntmps40
  go_wp2
  go_loop [5, 10] (fun s i => ∃ k : Nat, k ≤ n ∧ i = .int .i64 k ∧ s = .int .u32 (rdK n ps d k : Nat)) (fun _ i => n - (intOf i).toNat)
  case atStart => exact ⟨0, Nat.zero_le _, rfl, by rw [rdK_zero]; rfl⟩
  case round =>
    obtain ⟨k, hk, rfl, rfl⟩ := hrel
    by_cases hlt : k < n
    · obtain ⟨b, off, rfl, hb, c0⟩ := RdU.at1 HA.out (k := k) (by rw [preL_len]; exact hlt)
      rw [preL_get] at c0
      have hrw := ready_word HI.out h8 (d := d) hlt
      have Hy := Lib.hid (@rdK_yes n ps d k (by omega))
      have Hn := Lib.hid (@rdK_no n ps d k)
      have hs := preS_lt ps k
      have hr := rdK_lt n ps d k
      have t1 := test_u32 d k hd
      have t2 := andN_u32 (preS ps k) d (by omega) hd
      have t3 := andN_lt (preS ps k) d
      have k32 : k < 32 := by omega
      have r1 := pow_u32 k k32
      have pk : 2 ^ k < 2 ^ 8 := Nat.pow_lt_pow_right (by decide) (by omega)
      have r2 := or_u32 (rdK n ps d k) (2 ^ k) (by omega) (by omega)
      generalize andN (preS ps k) d = x at *
      generalize preS ps k = y at *
      have q1 : ((k : Nat) : Int) < (n : Int) := by omega
      by_cases hR : Ready n (Pr ps) d k
      · obtain ⟨e1, e2⟩ := hrw.1 hR
        rw [Hy.out hR] at r2
        rw [e1] at t1
        subst e2
        rw [Int.natCast_pow, show ((2 : Nat) : Int) = 2 from rfl] at r1 r2
        generalize rdK n ps d k = s at *
        clear hrw hR Hy Hn e1 pk
        go_wp2
        go_round
        case rel => exact ⟨k + 1, by omega, by go_num, rfl⟩
        case measure => simp [intOf]; omega
      · have hor : d.testBit k = true ∨ (d.testBit k = false ∧ ((x : Nat) : Int) ≠ 0) := by
          cases hk' : d.testBit k
          · refine .inr ⟨rfl, fun e => hR (hrw.2 ⟨hk', by omega⟩)⟩
          · exact .inl rfl
        have hn := Hn.out hR
        clear hrw hR Hy Hn pk r2
        rcases hor with h1 | ⟨h1, h2⟩
        · rw [h1] at t1
          clear h1
          go_wp2
          go_round
          case rel => exact ⟨k + 1, by omega, by go_num, by rw [← hn]⟩
          case measure => simp [intOf]; omega
        · rw [h1] at t1
          have h3 : (((x : Nat) : Int) == 0) = false := by rw [beq_eq_false_iff_ne]; exact h2
          clear h1 h2
          go_wp2
          go_round
          case rel => exact ⟨k + 1, by omega, by go_num, by rw [← hn]⟩
          case measure => simp [intOf]; omega
    · have : k = n := by omega
      subst this
      go_wp2
      go_ret
      exact ⟨by rw [← Hall.out]; rfl, rfl⟩
end Go.Proofs.Ytdkkmmljaijomaa
