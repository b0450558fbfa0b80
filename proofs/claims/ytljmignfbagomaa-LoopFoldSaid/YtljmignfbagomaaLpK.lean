/- loop.Fold: what it keeps; walked. -/
import Derived.Test.YtljmignfbagomaaLpJ
import Derived.Test.YtljmignfbagomaaOnes
namespace Go.Proofs.Ytljmignfbagomaa
open Go.RowKit Go.Shelf

/-- a without b. -/
noncomputable def andW (a b : Nat) : Nat := setTo (fun i => a.testBit i = true ∧ b.testBit i = false) 32
theorem andW_bit {a : Nat} (b : Nat) (ha : a < 4294967296) (i : Nat) : (andW a b).testBit i = (a.testBit i && !b.testBit i) := by
  rw [Bool.eq_iff_iff]
  unfold andW
  rw [setTo_bit, Bool.and_eq_true, Bool.not_eq_true']
  exact ⟨fun h => h.2, fun h => ⟨bit_lt (n := 32) ha h.1, h⟩⟩
theorem andW_lt (a b : Nat) : andW a b < 4294967296 := lt_pow_of_bits (n := 32) fun _ hk => ((setTo_bit _ _ _).1 hk).1
theorem andW_u32 (a b : Nat) (ha : a < 4294967296) (hb : b < 4294967296) : bits .andNot .u32 (a : Int) (b : Int) = ((andW a b : Nat) : Int) := by
  show IntKind.u32.wrap ((BitVec.ofInt 32 (a : Int) &&& ~~~ BitVec.ofInt 32 (b : Int)).toNat : Int) = _
  have e : (BitVec.ofInt 32 (a : Int) &&& ~~~ BitVec.ofInt 32 (b : Int)).toNat = andW a b := by
    refine set_ext fun i => ?_
    rw [BitVec.testBit_toNat, BitVec.getLsbD_and, BitVec.getLsbD_not, andW_bit b ha]
    rw [← BitVec.testBit_toNat, ← BitVec.testBit_toNat, ofInt_u32 a ha, ofInt_u32 b hb]
    by_cases hi : i < 32
    · simp [hi]
    · have h1 : a.testBit i = false := by
        cases h : a.testBit i
        · rfl
        · exact absurd (bit_lt (n := 32) ha h) hi
      simp [h1]
  rw [e, IntKind.wrap_u32]
  have := andW_lt a b
  omega

theorem cnt8_andW {s t : Nat} (hs : s < 4294967296) (ht : t < 8) (hb : s.testBit t = true) : cnt8 (andW s (2 ^ t)) < cnt8 s := by
  have e : s = andW s (2 ^ t) ||| 2 ^ t := set_ext fun j => by
    rw [set_bit, andW_bit _ hs, testBit_pow]
    by_cases h : t = j
    · subst h; rw [hb]; simp
    · simp [h]
  have h2 := cnt8_set (s := andW s (2 ^ t)) ht (by rw [andW_bit _ hs, testBit_pow]; simp)
  rw [← e] at h2
  omega
theorem andW_bit1 {s t : Nat} (hs : s < 4294967296) (a : Nat) : (andW s (2 ^ t)).testBit a = true ↔ (s.testBit a = true ∧ a ≠ t) := by
  rw [andW_bit _ hs, testBit_pow, Bool.and_eq_true, Bool.not_eq_true', decide_eq_false_iff_not]
  exact and_congr_right fun _ => ⟨Ne.symm, Ne.symm⟩
theorem andW_256 {s t : Nat} (hs : s < 256) : andW s (2 ^ t) < 256 := lt_pow_of_bits (n := 8) fun k hk => bit_lt (n := 8) hs ((andW_bit1 (by omega) k).1 hk).1
theorem cnt8_is1 {s : Nat} (hs : s < 256) (h : cnt8 s = 1) : ∃ p, ∀ a, s.testBit a = true ↔ a = p := by
  unfold cnt8 at h
  obtain ⟨p, hp⟩ := List.length_eq_one_iff.1 h
  refine ⟨p, fun a => ?_⟩
  have hm : a ∈ (List.range 8).filter (fun k => s.testBit k) ↔ a = p := by rw [hp, List.mem_singleton]
  rw [← hm, List.mem_filter, List.mem_range]
  exact ⟨fun h => ⟨bit_lt (n := 8) hs h, h⟩, fun h => h.2⟩
theorem set_getD (F : List Nat) (i y : Nat) (hi : i < F.length) (j : Nat) : (F.set i y).getD j 0 = if j = i then y else F.getD j 0 := by
  rw [List.getD_eq_getElem?_getD, List.getD_eq_getElem?_getD, List.getElem?_set]
  by_cases e : i = j
  · subst e; simp [hi]
  · rw [if_neg e, if_neg (Ne.symm e)]
/-- What Fold keeps. -/
structure FoS (ls : List (List Int)) (L : Nat) (F : List Nat) : Prop where
  len : F.length = ls.length
  inv : ∃ pi, FoI ls (walkL ls) L (fun j => F.getD j 0) pi
  sL : L < 256
  sF : ∀ j, F.getD j 0 < 256
structure FoP (ls : List (List Int)) (L0 L : Nat) (F : List Nat) (b : Bool) (k : Nat) : Prop where
  s : FoS ls L F
  yes : b = true → cnt8 L < cnt8 L0
  no : b = false → L = L0 ∧ ∀ i, i < k → i ≠ 0 → L.testBit i = true → (F.getD i 0).testBit i = false ∧ cnt8 (F.getD i 0) ≠ 1
theorem FoP.start {ls : List (List Int)} {L : Nat} {F : List Nat} (h : FoS ls L F) : FoP ls L L F false 0 := ⟨h, (fun e => by cases e), fun _ => ⟨rfl, fun i hi => by omega⟩⟩
theorem FoS.self {ls : List (List Int)} {L : Nat} {F : List Nat} (h : FoS ls L F) {k : Nat} (hk : k < ls.length) : FoS ls L (F.set k (andW (F.getD k 0) (2 ^ k))) := by
  have hk2 : k < F.length := by rw [h.len]; exact hk
  have hs := h.sF k
  obtain ⟨pi, hI⟩ := h.inv
  refine ⟨by rw [List.length_set]; exact h.len, ⟨pi, hI.self fun j a ha => ?_⟩, h.sL, fun j => ?_⟩
  · rw [set_getD _ _ _ hk2]
    by_cases e : j = k
    · subst e
      rw [if_pos rfl, Bool.eq_iff_iff, andW_bit1 (by omega)]
      exact ⟨fun h => h.1, fun h => ⟨h, ha⟩⟩
    · rw [if_neg e]
  · rw [set_getD _ _ _ hk2]
    split
    · exact andW_256 hs
    · exact h.sF j
theorem FoP.self {ls : List (List Int)} {L0 L : Nat} {F : List Nat} {b : Bool} {k : Nat} (h : FoP ls L0 L F b k) (hk : k < ls.length) : FoP ls L0 L (F.set k (andW (F.getD k 0) (2 ^ k))) b k := by
  have hk2 : k < F.length := by rw [h.s.len]; exact hk
  refine ⟨h.s.self hk, h.yes, fun e => ⟨(h.no e).1, fun i hi => ?_⟩⟩
  rw [set_getD _ _ _ hk2, if_neg (by omega)]
  exact (h.no e).2 i hi
theorem FoP.skip {ls : List (List Int)} {L0 L : Nat} {F : List Nat} {b : Bool} {k : Nat} (h : FoP ls L0 L F b k) (hs : (F.getD k 0).testBit k = false) (hn : k ≠ 0 → L.testBit k = true → cnt8 (F.getD k 0) ≠ 1) : FoP ls L0 L F b (k + 1) := by
  refine ⟨h.s, h.yes, fun e => ⟨(h.no e).1, fun i hi h0 hb => ?_⟩⟩
  by_cases ei : i = k
  · subst ei; exact ⟨hs, hn h0 hb⟩
  · exact (h.no e).2 i (by omega) h0 hb
open Classical in
noncomputable def mgR (F : List Nat) (i j : Nat) : List Nat := (List.range F.length).map fun x => if x < j ∧ (F.getD x 0).testBit i = true then andW (F.getD x 0) (2 ^ i) ||| F.getD i 0 else F.getD x 0
theorem mgR_len (F : List Nat) (i j : Nat) : (mgR F i j).length = F.length := by simp [mgR]
theorem mgR_getD (F : List Nat) (i j x : Nat) (hx : x < F.length) : (mgR F i j).getD x 0 = if x < j ∧ (F.getD x 0).testBit i = true then andW (F.getD x 0) (2 ^ i) ||| F.getD i 0 else F.getD x 0 := by
  unfold mgR
  rw [List.getD_eq_getElem?_getD, List.getElem?_map, List.getElem?_range hx]
  rfl
theorem mgR_zero (F : List Nat) (i : Nat) : mgR F i 0 = F := by
  refine List.ext_getElem (mgR_len _ _ _) fun x h1 h2 => ?_
  have := mgR_getD F i 0 x h2
  rw [if_neg (by omega), List.getD_eq_getElem?_getD, List.getD_eq_getElem?_getD, List.getElem?_eq_getElem h1, List.getElem?_eq_getElem h2] at this
  exact this
theorem mgR_no {F : List Nat} {i j : Nat} (hb : (F.getD j 0).testBit i = false) : mgR F i j = mgR F i (j + 1) := by
  unfold mgR
  refine List.map_congr_left fun x _ => ?_
  by_cases e : x = j
  · subst e; rw [if_neg (by rw [hb]; simp), if_neg (by rw [hb]; simp)]
  · by_cases h : x < j
    · simp only [h, show x < j + 1 by omega]
    · simp only [h, show ¬ x < j + 1 by omega]
theorem mgR_yes {F : List Nat} {i j : Nat} (hb : (F.getD j 0).testBit i = true) : (mgR F i j).set j (andW (F.getD j 0) (2 ^ i) ||| F.getD i 0) = mgR F i (j + 1) := by
  unfold mgR
  rw [map_range_setW]
  refine List.map_congr_left fun x _ => ?_
  by_cases e : x = j
  · subst e; rw [if_pos rfl, if_pos ⟨by omega, hb⟩]
  · rw [if_neg e]
    by_cases h : x < j
    · simp only [h, show x < j + 1 by omega]
    · simp only [h, show ¬ x < j + 1 by omega]
theorem FoP.merge {ls : List (List Int)} (hL : Left (EdW ls) ls.length (walkL ls)) {L0 L : Nat} {F : List Nat} {b : Bool} {k : Nat} (h : FoP ls L0 L F b k) (hk0 : k ≠ 0) (hk : L.testBit k = true) (hs : (F.getD k 0).testBit k = false) (hc : cnt8 (F.getD k 0) = 1) :
    FoP ls L0 (andW L (2 ^ k)) (mgR F k F.length) true (k + 1) := by
  obtain ⟨p, hp⟩ := cnt8_is1 (h.s.sF k) hc
  have hpk : p ≠ k := fun e => by rw [(hp k).2 e.symm] at hs; cases hs
  obtain ⟨pi, hI⟩ := h.s.inv
  have hsL := h.s.sL
  refine ⟨⟨by rw [mgR_len]; exact h.s.len, ⟨_, hI.merge hL hk0 hk hp hpk (fun a => andW_bit1 (by omega) a) fun j hj a => ?_⟩, andW_256 hsL, fun j => ?_⟩, fun _ => ?_, fun e => by cases e⟩
  · by_cases hjl : j < F.length
    · have hsj := h.s.sF j
      simp only [mgR_getD F k F.length j hjl]
      by_cases hb : (F.getD j 0).testBit k = true
      · rw [if_pos ⟨hjl, hb⟩, if_pos hb, Nat.testBit_or, Bool.or_eq_true, andW_bit1 (by omega), hp]
      · rw [if_neg (fun h => hb h.2), if_neg hb]
    · have e1 : (mgR F k F.length).getD j 0 = 0 := by rw [List.getD_eq_getElem?_getD, List.getElem?_eq_none (by rw [mgR_len]; omega)]; rfl
      have e2 : F.getD j 0 = 0 := by rw [List.getD_eq_getElem?_getD, List.getElem?_eq_none (by omega)]; rfl
      simp only [e1, e2, Nat.zero_testBit, Bool.false_eq_true, if_false]
  · by_cases hjl : j < F.length
    · rw [mgR_getD F k F.length j hjl]
      split
      · exact Nat.or_lt_two_pow (n := 8) (andW_256 (h.s.sF j)) (h.s.sF k)
      · exact h.s.sF j
    · rw [List.getD_eq_getElem?_getD, List.getElem?_eq_none (by rw [mgR_len]; omega)]; decide
  · have hk8 : k < 8 := bit_lt (n := 8) hsL hk
    have hlt := cnt8_andW (by omega) hk8 hk
    cases b
    · rw [← (h.no rfl).1]; exact hlt
    · have := h.yes rfl; omega
theorem fo_start {ls : List (List Int)} (h1 : 1 ≤ ls.length) (h8 : ls.length ≤ 8) (hv : Valid ls) : FoS ls (fromS ls (-1) 0) (toR ls ls.length 0) := by
  have hg : ∀ j (hj : j < ls.length), (toR ls ls.length 0).getD j 0 = (toR ls ls.length 0)[j]'(by rw [toR_len]; exact hj) := fun j hj => by
    rw [List.getD_eq_getElem?_getD, List.getElem?_eq_getElem (by rw [toR_len]; exact hj)]; rfl
  refine ⟨toR_len _ _ _, ⟨id, FoI.start (fun j => ?_) fun j hj a => ?_⟩, fromS_lt _ _ _, fun j => ?_⟩
  · rw [fromS_bit h8 hv (by omega) j]
    exact ⟨fun h => h.2, fun h => ⟨by omega, h⟩⟩
  · rw [hg j (Rch.lt h1 hv hj), from_bit h8 (by rw [toR_len]; exact Rch.lt h1 hv hj) a]
    exact ⟨fun ⟨x, y⟩ => ⟨x, getD_lt y, y⟩, fun ⟨x, y⟩ => ⟨x, y.2⟩⟩
  · by_cases hj : j < ls.length
    · rw [hg j hj]; exact from_lt (by rw [toR_len]; exact hj)
    · rw [List.getD_eq_getElem?_getD, List.getElem?_eq_none (by rw [toR_len]; omega)]; decide
end Go.Proofs.Ytljmignfbagomaa
