/- way.Parts. -/
import Derived.Test.YtljmignfbagomaaSetN
import Derived.BigQuiet
import Derived.Deep.QuietTactic
namespace Go.Proofs.Ytljmignfbagomaa
open Go.RowKit

noncomputable def partS (ls : List (List Int)) (i : Nat) : Nat := setN fun j => j < ls.length ∧ Comes_ ls (-1) i j ∧ Comes_ ls (-1) j i
noncomputable def partTo (ls : List (List Int)) (i k : Nat) : Nat := setN fun j => j < k ∧ Comes_ ls (-1) i j ∧ Comes_ ls (-1) j i
theorem partTo_zero (ls : List (List Int)) (i : Nat) : partTo ls i 0 = 0 := setN_false fun k _ h => by omega
theorem partTo_all (ls : List (List Int)) (i : Nat) : partTo ls i ls.length = partS ls i := rfl
theorem and_one_shift (x k : Nat) : (x &&& 1) <<< k = if x.testBit 0 then 2 ^ k else 0 := by
  rw [Nat.and_one_is_mod]
  rw [Nat.testBit_zero]
  rcases Nat.mod_two_eq_zero_or_one x with h | h
  · rw [h]; simp
  · rw [h]; simp [Nat.shiftLeft_eq]
theorem partTo_succ {ls : List (List Int)} (h8 : ls.length ≤ 8) (hv : Valid ls) {i k : Nat} (hi : i < ls.length) (hk : k < ls.length) :
    partTo ls i (k + 1) = partTo ls i k ||| ((((fromS ls (-1) i >>> k) &&& (fromS ls (-1) k >>> i)) &&& 1) <<< k) := by
  rw [and_one_shift]
  have e : ((fromS ls (-1) i >>> k) &&& (fromS ls (-1) k >>> i)).testBit 0 = ((fromS ls (-1) i).testBit k && (fromS ls (-1) k).testBit i) := by
    rw [Nat.testBit_and, Nat.testBit_shiftRight, Nat.testBit_shiftRight, Nat.add_zero, Nat.add_zero]
  have hB : (((fromS ls (-1) i).testBit k && (fromS ls (-1) k).testBit i) = true) ↔ (Comes_ ls (-1) i k ∧ Comes_ ls (-1) k i) := by
    rw [Bool.and_eq_true, fromS_bit h8 hv hi, fromS_bit h8 hv hk]
    constructor
    · rintro ⟨⟨_, h1⟩, _, h2⟩; exact ⟨h1, h2⟩
    · rintro ⟨h1, h2⟩; exact ⟨⟨by omega, h1⟩, by omega, h2⟩
  rw [e]
  refine (setN_ext fun j => ?_).symm
  cases hb : ((fromS ls (-1) i).testBit k && (fromS ls (-1) k).testBit i)
  · simp only [Bool.false_eq_true, if_false, Nat.or_zero]
    have hn : ¬ (Comes_ ls (-1) i k ∧ Comes_ ls (-1) k i) := fun h => by rw [hB.2 h] at hb; cases hb
    unfold partTo
    rw [setN_bit]
    constructor
    · rintro ⟨h1, h2, h3⟩; exact ⟨h1, by omega, h3⟩
    · rintro ⟨h1, h2, h3⟩
      refine ⟨h1, ?_, h3⟩
      rcases Nat.lt_or_ge j k with h | h
      · exact h
      · have : j = k := by omega
        subst this; exact absurd h3 hn
  · simp only [if_true]
    rw [set_bit, Bool.or_eq_true, decide_eq_true_eq]
    unfold partTo
    rw [setN_bit]
    constructor
    · rintro (⟨h1, h2, h3⟩ | rfl)
      · exact ⟨h1, by omega, h3⟩
      · exact ⟨by omega, by omega, hB.1 hb⟩
    · rintro ⟨h1, h2, h3⟩
      by_cases e : k = j
      · exact Or.inr e
      · exact Or.inl ⟨h1, by omega, h3⟩

noncomputable def fromsTo (ls : List (List Int)) (k : Nat) : List Nat := (List.range k).map (fromS ls (-1))
noncomputable def partsTo (ls : List (List Int)) (k : Nat) : List Nat := (List.range k).map (partS ls)
theorem range_map_succ {α : Type} (f : Nat → α) (k : Nat) : (List.range (k + 1)).map f = (List.range k).map f ++ [f k] := by rw [List.range_succ, List.map_append]; rfl
theorem fromsTo_len (ls : List (List Int)) (k : Nat) : (fromsTo ls k).length = k := by simp [fromsTo]
theorem partsTo_len (ls : List (List Int)) (k : Nat) : (partsTo ls k).length = k := by simp [partsTo]
theorem fromsTo_get (ls : List (List Int)) (k i : Nat) (h : i < (fromsTo ls k).length) : (fromsTo ls k)[i] = fromS ls (-1) i := by simp [fromsTo]

set_option maxHeartbeats 1000000 in
theorem parts_bad (A : Option Addr) (ls : List (List Int)) (cap : Nat) (w : World) (hA : RdN w A ls) (hm : ls.length ≤ maxLen) (h0 : wayErr ls ≠ 0) :
    Calls Try.prog 17 #[.slice A ls.length cap] w fun e w' => e = .returned (.tuple #[.slice none 0 0, .int .i64 (wayErr ls)]) ∧ Below w.heap.size w w' := by
  have HA := Lib.hid hA; clear hA
  have hd : (wayErr ls != 0) = true := by simpa using h0
  clear h0
  go_enter Try.func17, Try.ntmps17
  go_wp2_with (go_at_call 44; refine (check_calls _ _ _ _ HA.out hm).mono ?_; rintro e w1 ⟨rfl, hW⟩; have HW := Lib.hid hW; clear hW)
  go_ret2
  exact ⟨rfl, HW.out⟩

set_option maxHeartbeats 4000000 in
theorem parts_ok (A : Option Addr) (ls : List (List Int)) (cap : Nat) (w : World) (hA : RdN w A ls) (h0 : wayErr ls = 0) :
    Calls Try.prog 17 #[.slice A ls.length cap] w fun e w' => ∃ v, e = .returned (.tuple #[v, .int .i64 0]) ∧ OwnU w' w.heap.size 29 v (partsTo ls ls.length) ∧ Below w.heap.size w w' := by
  obtain ⟨h1, h8, hv⟩ := valid_of h0
  have HA := Lib.hid hA; clear hA
  have HV := Lib.hid hv; clear hv
  have H0 := Lib.hid h0; clear h0
  go_enter Try.func17, Try.ntmps17
  go_wp2_with (go_at_call 44; refine (check_calls _ _ _ _ HA.out (by unfold maxLen; omega)).mono ?_; rintro e w1 ⟨rfl, hW⟩; rw [H0.out]; have HW := Lib.hid hW; clear hW)
  go_loopw [5, 18] (fun v i wr => ∃ k : Nat, k ≤ ls.length ∧ i = .int .i64 k ∧ OwnU wr w.heap.size 29 v (fromsTo ls k) ∧ Below w.heap.size w wr) (fun _ i _ => ls.length - (intOf i).toNat)
  case atStart => exact ⟨0, Nat.zero_le _, rfl, Own.nil_ _ _ _, HW.out⟩
  case round =>
    clear HW
    obtain ⟨k, hk, rfl, hown, hW⟩ := hrel
    have hw1 := hW.size
    have Hlen := Lib.hid (fromsTo_len ls k)
    by_cases hlt : k < ls.length
    · have Hown := Lib.hid hown
      clear hown
      go_wp2_with (first
        | (go_at_call 45; refine (fromS_calls _ _ _ _ _ _ (RdN.below HA.out hW) h8 HV.out hlt).mono ?_; rintro e w2 ⟨rfl, hW2⟩; have hw2 := hW2.size; have HW2 := Lib.hid hW2; clear hW2)
        | (at_builtin; refine wpList_appU rfl _ _ rfl w.heap.size _ _ (fromS ls (-1) k) rfl ((Own.below Hown.out HW2.out).alloc _) _ _ rfl (cell_new _ _ _ _ (by simp) _) (by rw [Hlen.out]; omega) (by simp; omega) ?_; intro v' w3 hown' hgrow))
      go_roundw
      case rel => exact ⟨k + 1, by omega, by go_num, by unfold fromsTo; rw [range_map_succ]; exact hown', below_own (((below_via HW2.out hw1 hW).alloc (by omega) _)) hgrow ((Own.below Hown.out HW2.out).alloc _) (Nat.le_refl _) (by simp; omega)⟩
      case measure => simp [intOf]; omega
    · have : k = ls.length := by omega
      subst this
      clear hlt hk
      obtain ⟨wo, rfl⟩ : ∃ wo : World, wo = wr := ⟨_, rfl⟩
      obtain ⟨gF, capF, rfl, hgF, hgF2, hcF, _, hcells⟩ := OwnU.at_ hown (by rw [Hlen.out]; omega)
      rw [Hlen.out] at hown
      rw [Hlen.out]
      have HF := Lib.hid hown
      have HC := Lib.hid hcells
      clear hown hcells
      go_wp2
      go_loopw [6, 30] (fun v i wr => ∃ k : Nat, k ≤ ls.length ∧ i = .int .i64 k ∧ OwnU wr wo.heap.size 29 v (partsTo ls k) ∧ Below wo.heap.size wo wr) (fun _ i _ => ls.length - (intOf i).toNat)
      case atStart => exact ⟨0, Nat.zero_le _, rfl, Own.nil_ _ _ _, Below.refl _ _⟩
      case round =>
        obtain ⟨i, hi, rfl, hown, hB⟩ := hrel
        have hw2 := hB.size
        have HlenP := Lib.hid (partsTo_len ls i)
        have Hown := Lib.hid hown
        have HB := Lib.hid hB
        clear hown hB
        by_cases hlt : i < ls.length
        · go_wp2
          obtain ⟨w4, rfl⟩ : ∃ w4 : World, w4 = wr := ⟨_, rfl⟩
          go_loopw [9, 35] (fun s j wr => ∃ k : Nat, k ≤ ls.length ∧ j = .int .i64 k ∧ s = .int .u32 (partTo ls i k : Nat) ∧ OwnU wr wo.heap.size 29 u6 (partsTo ls i) ∧ Below wo.heap.size wo wr) (fun _ j _ => ls.length - (intOf j).toNat)
          case atStart => exact ⟨0, Nat.zero_le _, rfl, by rw [partTo_zero]; rfl, Hown.out, HB.out⟩
          case round =>
            clear Hown HB hw2
            obtain ⟨k, hk, rfl, rfl, hown, hB⟩ := hrel
            have hw2 := hB.size
            have Hown := Lib.hid hown
            have HB := Lib.hid hB
            clear hown hB
            by_cases hlk : k < ls.length
            · have c1 := (HB.out.cell (p := ⟨gF, i, none⟩) hgF2).trans (HC.out i (by rw [Hlen.out]; exact hlt))
              have c2 := (HB.out.cell (p := ⟨gF, k, none⟩) hgF2).trans (HC.out k (by rw [Hlen.out]; exact hlk))
              rw [fromsTo_get] at c1 c2
              have Hs := Lib.hid (partTo_succ h8 HV.out hlt hlk)
              have ha := fromS_lt ls (-1) i
              have hb := fromS_lt ls (-1) k
              have hs := setN_lt (fun j => j < k ∧ Comes_ ls (-1) i j ∧ Comes_ ls (-1) j i)
              change partTo ls i k < 256 at hs
              generalize fromS ls (-1) i = a at *
              generalize fromS ls (-1) k = b at *
              have p1 : bits .and .u32 ((a : Int) / 2 ^ k) ((b : Int) / 2 ^ i) = ((a >>> k &&& b >>> i : Nat) : Int) := by
                rw [shr_u32, shr_u32, and_u32 _ _ (Nat.lt_of_le_of_lt (Nat.shiftRight_le _ _) (by omega)) (Nat.lt_of_le_of_lt (Nat.shiftRight_le _ _) (by omega))]
              have hx : a >>> k &&& b >>> i < 4294967296 := Nat.lt_of_le_of_lt Nat.and_le_left (Nat.lt_of_le_of_lt (Nat.shiftRight_le _ _) (by omega))
              generalize a >>> k &&& b >>> i = x at *
              have p2 : bits .and .u32 (x : Int) 1 = ((x &&& 1 : Nat) : Int) := and_u32 x 1 hx (by decide)
              have hy : x &&& 1 ≤ 1 := Nat.and_le_right
              generalize x &&& 1 = y at *
              have hz : y <<< k < 256 := by
                rw [Nat.shiftLeft_eq]
                have : 2 ^ k ≤ 2 ^ 7 := Nat.pow_le_pow_right (by decide) (by omega)
                have : y * 2 ^ k ≤ 1 * 2 ^ k := Nat.mul_le_mul_right _ hy
                omega
              have p3 : (y : Int) * 2 ^ k % 4294967296 = ((y <<< k : Nat) : Int) := by
                rw [show (y : Int) * 2 ^ k = ((y <<< k : Nat) : Int) by rw [Nat.shiftLeft_eq, Int.natCast_mul, Int.natCast_pow]; rfl]
                generalize y <<< k = z at *
                omega
              generalize y <<< k = z at *
              have p4 := or_u32 (partTo ls i k) z (by omega) (by omega)
              generalize partTo ls i k = s at *
              have q1 : ((i : Nat) : Int) < ((ls.length : Nat) : Int) := by omega
              have q2 : ((k : Nat) : Int) < ((ls.length : Nat) : Int) := by omega
              have k1 : k < 32 := by omega
              have k2 : i < 32 := by omega
              go_wp2
              go_quiet (fail)
              go_wp2
              go_roundw
              case rel => exact ⟨k + 1, by omega, by go_num, by rw [Hs.out], Hown.out.drewN _, below_dN HB.out _⟩
              case measure => simp [intOf]; omega
            · have : k = ls.length := by omega
              subst this
              rw [partTo_all]
              clear hlk hk
              go_wp2_with (at_builtin; refine wpList_appU rfl _ _ rfl wo.heap.size _ _ (partS ls i) rfl (Hown.out.alloc _) _ _ rfl (cell_new _ _ _ _ (by simp) _) (by rw [HlenP.out]; omega) (by simp; omega) ?_; intro v' w5 hown' hgrow)
              go_roundw
              case rel => exact ⟨i + 1, by omega, by go_num, by unfold partsTo; rw [range_map_succ]; exact hown', below_own (HB.out.alloc hw2 _) hgrow (Hown.out.alloc _) (Nat.le_refl _) (by simp; omega)⟩
              case measure => simp [intOf]; omega
        · have : i = ls.length := by omega
          subst this
          go_wp2
          go_ret2
          exact ⟨_, rfl, Hown.out.base_ hw1, hW.trans (HB.out.mono hw1)⟩
end Go.Proofs.Ytljmignfbagomaa
