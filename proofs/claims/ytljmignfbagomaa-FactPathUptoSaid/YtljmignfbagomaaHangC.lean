/- hang.last, hang.Last. -/
import Derived.Test.YtljmignfbagomaaHangB
import Derived.Test.YtljmignfbagomaaPartA
namespace Go.Proofs.Ytljmignfbagomaa
open Go.RowKit

/-- a without b. -/
noncomputable def andN (a b : Nat) : Nat := setTo (fun i => a.testBit i = true ∧ b.testBit i = false) 32
theorem andN_bit {a : Nat} (b : Nat) (ha : a < 4294967296) (i : Nat) : (andN a b).testBit i = (a.testBit i && !b.testBit i) := by
  rw [Bool.eq_iff_iff]
  unfold andN
  rw [setTo_bit, Bool.and_eq_true, Bool.not_eq_true']
  exact ⟨fun h => h.2, fun h => ⟨bit_lt (n := 32) ha h.1, h⟩⟩
theorem andN_lt (a b : Nat) : andN a b < 4294967296 := lt_pow_of_bits (n := 32) fun _ hk => ((setTo_bit _ _ _).1 hk).1
theorem andN_u32 (a b : Nat) (ha : a < 4294967296) (hb : b < 4294967296) : bits .andNot .u32 (a : Int) (b : Int) = ((andN a b : Nat) : Int) := by
  show IntKind.u32.wrap ((BitVec.ofInt 32 (a : Int) &&& ~~~ BitVec.ofInt 32 (b : Int)).toNat : Int) = _
  have e : (BitVec.ofInt 32 (a : Int) &&& ~~~ BitVec.ofInt 32 (b : Int)).toNat = andN a b := by
    refine set_ext fun i => ?_
    rw [BitVec.testBit_toNat, BitVec.getLsbD_and, BitVec.getLsbD_not, andN_bit b ha]
    rw [← BitVec.testBit_toNat, ← BitVec.testBit_toNat, ofInt_u32 a ha, ofInt_u32 b hb]
    by_cases hi : i < 32
    · simp [hi]
    · have h1 : a.testBit i = false := by
        cases h : a.testBit i
        · rfl
        · exact absurd (bit_lt (n := 32) ha h) hi
      simp [h1]
  rw [e, IntKind.wrap_u32]
  have := andN_lt a b
  omega
/-- Of which nodes below k node i is sure. -/
noncomputable def lastTo (ls : List (List Int)) (i k : Nat) : Nat := setN fun x => x < k ∧ Ends ls (-1) i ∧ ¬ Ends ls (x : Int) i
noncomputable def lastS (ls : List (List Int)) (i : Nat) : Nat := lastTo ls i ls.length
noncomputable def lastL (ls : List (List Int)) : List Nat := (List.range ls.length).map (lastS ls)
noncomputable def sureS (ls : List (List Int)) (k : Nat) : Nat := andN (endS ls (-1)) (endS ls (k : Int))
theorem sureS_bit {ls : List (List Int)} (h8 : ls.length ≤ 8) (k i : Nat) : (sureS ls k).testBit i = true ↔ Ends ls (-1) i ∧ ¬ Ends ls (k : Int) i := by
  unfold sureS
  have := endS_lt ls (-1)
  rw [andN_bit _ (by omega), Bool.and_eq_true, Bool.not_eq_true', endS_bit h8, ← endS_bit h8 (k : Int) i, Bool.not_eq_true]
theorem lastTo_succ {ls : List (List Int)} (h8 : ls.length ≤ 8) {i k : Nat} (hk : k < 8) : lastTo ls i (k + 1) = lastTo ls i k ||| (((sureS ls k >>> i) &&& 1) <<< k) := by
  rw [and_one_shift]
  rw [Nat.testBit_shiftRight, Nat.add_zero]
  refine (setN_ext fun j => ?_).symm
  cases hb : (sureS ls k).testBit i
  · simp only [Bool.false_eq_true, if_false, Nat.or_zero]
    have hn : ¬ (Ends ls (-1) i ∧ ¬ Ends ls (k : Int) i) := fun h => by rw [(sureS_bit h8 k i).2 h] at hb; cases hb
    unfold lastTo
    rw [setN_bit]
    constructor
    · rintro ⟨h1, h2, h3⟩; exact ⟨h1, by omega, h3⟩
    · rintro ⟨h1, h2, h3⟩
      refine ⟨h1, ?_, h3⟩
      rcases Nat.lt_or_ge j k with h | h
      · exact h
      · have : j = k := by omega
        subst this; exact absurd h3 hn
  · simp only [if_true]
    rw [set_bit, Bool.or_eq_true, decide_eq_true_eq]
    unfold lastTo
    rw [setN_bit]
    constructor
    · rintro (⟨h1, h2, h3⟩ | rfl)
      · exact ⟨h1, by omega, h3⟩
      · exact ⟨by omega, by omega, (sureS_bit h8 k i).1 hb⟩
    · rintro ⟨h1, h2, h3⟩
      by_cases e : k = j
      · exact Or.inr e
      · exact Or.inl ⟨h1, by omega, h3⟩
/-- The rows when of node k the first i are done. -/
noncomputable def lIn (ls : List (List Int)) (k i : Nat) : List Nat := (List.range ls.length).map fun a => lastTo ls a (if a < i then k + 1 else k)
theorem lIn_len (ls : List (List Int)) (k i : Nat) : (lIn ls k i).length = ls.length := by simp [lIn]
theorem lIn_get (ls : List (List Int)) (k i a : Nat) (h : a < (lIn ls k i).length) : (lIn ls k i)[a] = lastTo ls a (if a < i then k + 1 else k) := by simp [lIn]
theorem lIn_zero (ls : List (List Int)) : lIn ls 0 0 = List.replicate ls.length 0 := by
  refine List.ext_getElem (by simp [lIn]) fun j h1 h2 => ?_
  rw [lIn_get, List.getElem_replicate, if_neg (by omega)]
  exact setN_false fun k _ h => by omega
theorem lIn_next (ls : List (List Int)) (k : Nat) : lIn ls k ls.length = lIn ls (k + 1) 0 := by
  refine List.ext_getElem (by simp [lIn]) fun j h1 h2 => ?_
  rw [lIn_len] at h1
  rw [lIn_get, lIn_get, if_pos h1, if_neg (by omega)]
theorem lIn_all (ls : List (List Int)) : lIn ls ls.length 0 = lastL ls := by
  refine List.ext_getElem (by simp [lIn, lastL]) fun j h1 h2 => ?_
  rw [lIn_get, if_neg (by omega)]
  simp [lastL, lastS]
theorem lIn_step {ls : List (List Int)} (h8 : ls.length ≤ 8) {k i : Nat} (hk : k < 8) : (lIn ls k i).set i (lastTo ls i k ||| (((sureS ls k >>> i) &&& 1) <<< k)) = lIn ls k (i + 1) := by
  refine List.ext_getElem (by simp [lIn]) fun j h1 h2 => ?_
  rw [List.getElem_set, lIn_get, lIn_get]
  by_cases e : i = j
  · subst e
    have h' : i < i + 1 := by omega
    rw [if_pos rfl, if_pos h', lastTo_succ h8 hk]
  · rw [if_neg e]
    by_cases h : j < i
    · have h' : j < i + 1 := by omega
      rw [if_pos h, if_pos h']
    · rw [if_neg h, if_neg (by omega)]
theorem lastTo_lt (ls : List (List Int)) (i k : Nat) : lastTo ls i k < 256 := setN_lt _

set_option maxRecDepth 100000 in
set_option maxHeartbeats 4000000 in
theorem last_calls (A : Option Addr) (ls : List (List Int)) (cap : Nat) (w : World) (hA : RdN w A ls) (h0 : wayErr ls = 0) :
    Calls Try.prog 47 #[.slice A ls.length cap] w fun e w' => ∃ v, e = .returned v ∧ OwnU w' w.heap.size 29 v (lastL ls) ∧ Below w.heap.size w w' := by
  obtain ⟨h1, h8, _⟩ := valid_of h0
  have HA := Lib.hid hA; clear hA
  have H0 := Lib.hid h0; clear h0
  have HZ := Lib.hid (lIn_zero ls)
  have HC1 : Hid (∀ w, RdN w A ls → Calls Try.prog 62 #[.slice A ls.length cap, .int .i64 (-1)] w fun e w' => e = .returned (.int .u32 (endS ls (-1) : Nat)) ∧ Below w.heap.size w w') := fun w h => comes_calls A ls cap w (-1) h H0.out
  have hE := endS_lt ls (-1)
  go_enter Try.func47, Try.ntmps47
  go_wp2_with (first
    | (go_at_call 62; refine (HC1.out _ HA.out).mono ?_; rintro e w1 ⟨rfl, hW⟩; have hw1 := hW.size; have HW := Lib.hid hW; clear hW)
    | (at_make; refine wpList_makeU rfl _ _ rfl w1.heap.size ls.length rfl rfl (by omega) (Nat.le_refl _) ?_; intro w2 hown2 hgrow2))
  have hW2 := (Below.refl w1.heap.size w1).grown hgrow2 (Nat.le_refl _) (fun k hk => by cases hk)
  rw [← HZ.out] at hown2
  go_loopw [15] (fun i wr => ∃ k : Nat, k ≤ ls.length ∧ i = .int .i64 k ∧ OwnU wr w1.heap.size 29 (.slice (some ⟨w1.heap.size, 0, none⟩) ls.length ls.length) (lIn ls k 0) ∧ Below w1.heap.size w1 wr) (fun i _ => ls.length - (intOf i).toNat)
  case atStart => exact ⟨0, Nat.zero_le _, rfl, hown2, hW2⟩
  case round =>
    clear hown2 hW2 hgrow2
    obtain ⟨k, hk, rfl, hown, hW⟩ := hrel
    have Hown := Lib.hid hown
    have hw2 := hW.size
    have HWr := Lib.hid hW
    clear hown hW
    by_cases hlt : k < ls.length
    · have HC2 : Hid (∀ w, RdN w A ls → Calls Try.prog 62 #[.slice A ls.length cap, .int .i64 (k : Nat)] w fun e w' => e = .returned (.int .u32 (endS ls (k : Int) : Nat)) ∧ Below w.heap.size w w') := fun w h => comes_calls A ls cap w k h H0.out
      have hE2 := endS_lt ls (k : Int)
      have p1 := andN_u32 (endS ls (-1)) (endS ls (k : Int)) (by omega) (by omega)
      change _ = ((sureS ls k : Nat) : Int) at p1
      have hS := andN_lt (endS ls (-1)) (endS ls (k : Int))
      change sureS ls k < _ at hS
      have Hst := Lib.hid (fun i => @lIn_step ls h8 k i (by omega))
      have Hnx := Lib.hid (lIn_next ls k)
      generalize sureS ls k = S at *
      generalize endS ls (k : Int) = E2 at *
      go_wp2_with (go_at_call 62; refine (HC2.out _ (RdN.below HA.out (HW.out.trans (HWr.out.mono hw1)))).mono ?_; rintro e w3 ⟨rfl, hW3⟩; have hw3 := hW3.size; have HW3 := Lib.hid hW3; clear hW3)
      clear p1
      go_loopw [25] (fun i3 wr => ∃ i : Nat, i ≤ ls.length ∧ i3 = .int .i64 i ∧ OwnU wr w1.heap.size 29 (.slice (some ⟨w1.heap.size, 0, none⟩) ls.length ls.length) (lIn ls k i) ∧ Below w1.heap.size w1 wr) (fun i3 _ => ls.length - (intOf i3).toNat)
      case atStart => exact ⟨0, Nat.zero_le _, rfl, Own.below Hown.out HW3.out, HWr.out.trans (HW3.out.mono hw2)⟩
      case round =>
        clear Hown HWr HW3
        obtain ⟨i, hi, rfl, hown, hW⟩ := hrel
        have HWr := Lib.hid hW
        by_cases hlti : i < ls.length
        · have hlen := lIn_len ls k i
          obtain ⟨g, eg, _, _, _, hfz, hcell⟩ := OwnU.at2 hown (by omega)
          injection eg with eg; injection eg with eg
          subst eg
          have f1 := hfz i
          have c5 := hcell i (by omega)
          rw [lIn_get, if_neg (Nat.lt_irrefl i)] at c5
          have hx := lastTo_lt ls i k
          have q2 : ((i : Nat) : Int) < ((ls.length : Nat) : Int) := by omega
          have i32 : i < 32 := by omega
          have k32 : k < 32 := by omega
          have Hs := Lib.hid (Hst.out i)
          have p1 : bits .and .u32 ((S : Int) / 2 ^ i) 1 = ((S >>> i &&& 1 : Nat) : Int) := by
            rw [shr_u32]; exact and_u32 _ 1 (Nat.lt_of_le_of_lt (Nat.shiftRight_le _ _) hS) (by decide)
          have hy : S >>> i &&& 1 ≤ 1 := Nat.and_le_right
          generalize S >>> i &&& 1 = y at *
          have hz : y <<< k < 256 := by
            rw [Nat.shiftLeft_eq]
            have : 2 ^ k ≤ 2 ^ 7 := Nat.pow_le_pow_right (by decide) (by omega)
            have : y * 2 ^ k ≤ 1 * 2 ^ k := Nat.mul_le_mul_right _ hy
            omega
          have p3 : (y : Int) * 2 ^ k % 4294967296 = ((y <<< k : Nat) : Int) := by
            rw [show (y : Int) * 2 ^ k = ((y <<< k : Nat) : Int) by rw [Nat.shiftLeft_eq, Int.natCast_mul, Int.natCast_pow]; rfl]
            generalize y <<< k = z at *
            omega
          generalize y <<< k = z at *
          have p4 := or_u32 (lastTo ls i k) z (by omega) (by omega)
          have Hown' := Lib.hid (OwnU.set_ hown (k := i) (by omega) (lastTo ls i k ||| z))
          rw [Hs.out] at Hown'
          clear hfz hcell hown hW
          generalize lastTo ls i k ||| z = u at *
          generalize lastTo ls i k = x at *
          go_wp2
          go_still_tail 12, (by kernel_rfl)
          go_wp2
          refine ⟨⟨i + 1, by omega, by go_num, Hown'.out.drew, ?_⟩, by simp [intOf]; omega⟩
          exact (HWr.out.setCell (Nat.le_refl _) _).drew
        · have : i = ls.length := by omega
          subst this
          go_wp2
          go_roundw
          case rel => exact ⟨k + 1, by omega, by go_num, by rw [← Hnx.out]; exact hown, hW⟩
          case measure => simp [intOf]; omega
    · have : k = ls.length := by omega
      subst this
      have Hall := Lib.hid (lIn_all ls)
      go_wp2
      go_ret
      exact ⟨_, rfl, by rw [← Hall.out]; exact Hown.out.base_ hw1, HW.out.trans (HWr.out.mono hw1)⟩
end Go.Proofs.Ytljmignfbagomaa
