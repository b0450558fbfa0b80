/- color.clashes, codemasonref.ClashCheck, codemasonref.Clash. -/
import Derived.Test.YtckmedmebabkjaaDoorPairs
import Derived.Test.YtckmedmebabkjaaDoorInside
import Derived.Test.YtckmedmebabkjaaDoorSets
import Derived.Test.YtckmedmebabkjaaDoorOwnU
import Derived.BigGuardPart
import Derived.StillTailTactics
import Derived.Outline
namespace Go.Proofs.YtckmedmebabkjaaDoor
open Go.RowKit

def inP (n : Int) (p : Int × Int) : Prop := 0 ≤ p.1 ∧ p.1 < n ∧ 0 ≤ p.2 ∧ p.2 < n
instance (n : Int) (p : Int × Int) : Decidable (inP n p) := by unfold inP; exact inferInstance
def clErr (n : Int) (ps : List (Int × Int)) : Int :=
  if n < 1 ∨ 8 < n ∨ 28 < ps.length then 1 else if ¬ ∀ p ∈ ps, inP n p then 2 else if ∃ p ∈ ps, p.1 = p.2 then 3 else 0
/-- Do two clash? -/
def Cl (ps : List (Int × Int)) (i j : Nat) : Prop := ∃ p ∈ ps, (p.1 = i ∧ p.2 = j) ∨ (p.1 = j ∧ p.2 = i)
theorem Cl.symm {ps : List (Int × Int)} {i j : Nat} (h : Cl ps i j) : Cl ps j i := let ⟨p, h1, h2⟩ := h; ⟨p, h1, h2.symm⟩
noncomputable def clS (ps : List (Int × Int)) (i : Nat) : Nat := setN (Cl ps i)
noncomputable def clL (n : Nat) (ps : List (Int × Int)) : List Nat := (List.range n).map (clS ps)
theorem clL_len (n : Nat) (ps : List (Int × Int)) : (clL n ps).length = n := by simp [clL]
theorem clL_get (n : Nat) (ps : List (Int × Int)) (i : Nat) (h : i < (clL n ps).length) : (clL n ps)[i] = clS ps i := by simp [clL]
theorem clS_lt (ps : List (Int × Int)) (i : Nat) : clS ps i < 256 := setN_lt _
theorem clL_nil (n : Nat) : clL n [] = List.replicate n 0 := by
  refine List.ext_getElem (by simp [clL]) fun j h1 h2 => ?_
  rw [clL_get, List.getElem_replicate]
  exact setN_false fun k _ ⟨p, hp, _⟩ => by simp at hp
theorem clL_push {n : Nat} {ps : List (Int × Int)} {a b : Nat} (ha : a < n) (hb : b < n) (h8 : n ≤ 8) (hne : a ≠ b) :
    ((clL n ps).set a (clS ps a ||| 2 ^ b)).set b (clS ps b ||| 2 ^ a) = clL n (ps ++ [((a : Int), (b : Int))]) := by
  refine List.ext_getElem (by simp [clL]) fun j h1 h2 => ?_
  rw [clL_get, List.getElem_set, List.getElem_set]
  simp only [List.length_set, clL_len] at h1
  have key : ∀ k, (clS (ps ++ [((a : Int), (b : Int))]) j).testBit k = true ↔ k < 8 ∧ (Cl ps j k ∨ (j = a ∧ k = b) ∨ (j = b ∧ k = a)) := fun k => by
    unfold clS
    rw [setN_bit]
    refine and_congr Iff.rfl ⟨?_, ?_⟩
    · rintro ⟨p, hp, h⟩
      rcases List.mem_append.1 hp with hp | hp
      · exact .inl ⟨p, hp, h⟩
      · simp at hp; subst hp; dsimp only at h; omega
    · rintro (⟨p, hp, h⟩ | ⟨h, h'⟩ | ⟨h, h'⟩)
      · exact ⟨p, by simp [hp], h⟩
      · exact ⟨_, List.mem_append_right _ (List.mem_singleton.2 rfl), by dsimp only; omega⟩
      · exact ⟨_, List.mem_append_right _ (List.mem_singleton.2 rfl), by dsimp only; omega⟩
  have base : ∀ k, (clS ps j).testBit k = true ↔ k < 8 ∧ Cl ps j k := fun k => setN_bit _ _
  refine set_ext fun k => ?_
  rw [Bool.eq_iff_iff, key]
  by_cases e1 : b = j
  · subst e1
    rw [if_pos rfl, set_bit, Bool.or_eq_true, base, decide_eq_true_eq]
    constructor
    · rintro (⟨h, h'⟩ | rfl)
      · exact ⟨h, .inl h'⟩
      · exact ⟨by omega, .inr (.inr ⟨rfl, rfl⟩)⟩
    · rintro ⟨h, h' | ⟨h', _⟩ | ⟨_, h'⟩⟩
      · exact .inl ⟨h, h'⟩
      · exact absurd h'.symm hne
      · exact .inr h'.symm
  · rw [if_neg e1]
    by_cases e2 : a = j
    · subst e2
      rw [if_pos rfl, set_bit, Bool.or_eq_true, base, decide_eq_true_eq]
      constructor
      · rintro (⟨h, h'⟩ | rfl)
        · exact ⟨h, .inl h'⟩
        · exact ⟨by omega, .inr (.inl ⟨rfl, rfl⟩)⟩
      · rintro ⟨h, h' | ⟨_, h'⟩ | ⟨h', _⟩⟩
        · exact .inl ⟨h, h'⟩
        · exact .inr h'.symm
        · exact absurd h'.symm e1
    · rw [if_neg e2, clL_get, base]
      constructor
      · rintro ⟨h, h'⟩; exact ⟨h, .inl h'⟩
      · rintro ⟨h, h' | ⟨h', _⟩ | ⟨h', _⟩⟩
        · exact ⟨h, h'⟩
        · exact absurd h'.symm e2
        · exact absurd h'.symm e1
theorem clErr_1 {n : Int} {ps : List (Int × Int)} (h : n < 1 ∨ 8 < n ∨ 28 < ps.length) : clErr n ps = 1 := by unfold clErr; rw [if_pos h]
theorem clErr_2 {n : Int} {ps : List (Int × Int)} (h : ¬ (n < 1 ∨ 8 < n ∨ 28 < ps.length)) {p : Int × Int} (hp : p ∈ ps) (hn : ¬ inP n p) : clErr n ps = 2 := by
  unfold clErr; rw [if_neg h, if_pos fun ha => hn (ha p hp)]
theorem clErr_3 {n : Int} {ps : List (Int × Int)} (h : ¬ (n < 1 ∨ 8 < n ∨ 28 < ps.length)) (ha : ∀ p ∈ ps, inP n p) {p : Int × Int} (hp : p ∈ ps) (he : p.1 = p.2) : clErr n ps = 3 := by
  unfold clErr; rw [if_neg h, if_neg fun hx => hx ha, if_pos ⟨p, hp, he⟩]
theorem clErr_0 {n : Int} {ps : List (Int × Int)} (h : ¬ (n < 1 ∨ 8 < n ∨ 28 < ps.length)) (ha : ∀ p ∈ ps, inP n p) (hn : ∀ p ∈ ps, p.1 ≠ p.2) : clErr n ps = 0 := by
  unfold clErr; rw [if_neg h, if_neg fun hx => hx ha, if_neg fun ⟨p, hp, he⟩ => hn p hp he]
/-- What things that clash are. -/
structure ClOk (n : Nat) (ps : List (Int × Int)) : Prop where
  n1 : 1 ≤ n
  n8 : n ≤ 8
  len : ps.length ≤ 28
  all : ∀ p ∈ ps, inP n p
  ne : ∀ p ∈ ps, p.1 ≠ p.2
theorem clErr_ok {n : Int} {ps : List (Int × Int)} (h : clErr n ps = 0) : ∃ m : Nat, n = m ∧ ClOk m ps := by
  unfold clErr at h
  split at h
  · cases h
  · rename_i h1
    split at h
    · cases h
    · rename_i h2
      split at h
      · cases h
      · rename_i h3
        obtain ⟨m, rfl⟩ := Int.eq_ofNat_of_zero_le (show 0 ≤ n by omega)
        refine ⟨m, rfl, by omega, by omega, by omega, Classical.not_not.1 h2, fun p hp he => h3 ⟨p, hp, he⟩⟩
theorem ClOk.err {n : Nat} {ps : List (Int × Int)} (h : ClOk n ps) : clErr n ps = 0 := clErr_0 (by have := h.n1; have := h.n8; have := h.len; omega) h.all h.ne
theorem Cl.lt {n : Nat} {ps : List (Int × Int)} (h : ClOk n ps) {i j : Nat} (hc : Cl ps i j) : i < n ∧ j < n ∧ i ≠ j := by
  obtain ⟨p, hp, he⟩ := hc
  have := h.all p hp; have := h.ne p hp
  unfold inP at *
  omega

theorem clTail {α : Type} {l : List α} {k : Nat} (hk : k < l.length) {p : α → Prop} (h : ∀ x ∈ l.take k, p x) (h' : p l[k]) : ∀ x ∈ l.take (k + 1), p x := by
  rw [List.take_succ_eq_append_getElem hk]
  intro x hx
  rcases List.mem_append.1 hx with h1 | h1
  · exact h x h1
  · simp at h1; subst h1; exact h'

def ClEnd (n : Int) (ps : List (Int × Int)) (w : World) (e : Ending) (w' : World) : Prop :=
  ∃ v, e = .returned (.tuple #[v, .int .i64 (clErr n ps)]) ∧ Below w.heap.size w w' ∧ ((clErr n ps ≠ 0 ∧ v = .slice none 0 0) ∨ (∃ m : Nat, n = m ∧ ClOk m ps ∧ OwnU w' w.heap.size 34 v (clL m ps)))
theorem ClEnd.bad {n : Int} {ps : List (Int × Int)} {w w' : World} {E : Int} (h : clErr n ps = E) (h0 : E ≠ 0) (hW : Below w.heap.size w w') : ClEnd n ps w (.returned (.tuple #[.slice none 0 0, .int .i64 E])) w' :=
  ⟨_, by rw [h], hW, .inl ⟨by rw [h]; exact h0, rfl⟩⟩
theorem ClEnd.ok {m : Nat} {ps : List (Int × Int)} {w w' : World} {v : Value} (h : ClOk m ps) (ho : OwnU w' w.heap.size 34 v (clL m ps)) (hW : Below w.heap.size w w') : ClEnd m ps w (.returned (.tuple #[v, .int .i64 0])) w' :=
  ⟨_, by rw [h.err], hW, .inr ⟨m, rfl, h, ho⟩⟩

set_option maxHeartbeats 8000000 in
/-- color.clashes -/
theorem clashes_any (n : Int) (A : Option Addr) (ps : List (Int × Int)) (cap : Nat) (w : World) (hA : RdP w A ps) (hm : ps.length ≤ maxLen) :
    Calls Tryd.prog 15 #[.int .i64 n, .slice A ps.length cap] w (ClEnd n ps w) := by
  unfold maxLen at hm
  have HA := Lib.hid hA; clear hA
  by_cases hn : n < 1 ∨ 8 < n ∨ 28 < ps.length
  · have He := Lib.hid (clErr_1 hn)
    have hd : n < 1 ∨ (1 ≤ n ∧ 8 < n) ∨ (1 ≤ n ∧ n ≤ 8 ∧ decide ((28 : Int) < (ps.length : Int)) = true) := by
      simp only [decide_eq_true_eq]; omega
    clear hn
    rcases hd with h1 | ⟨h1, h2⟩ | ⟨h1, h2, h3⟩
    all_goals
      go_enter Tryd.func15, Tryd.ntmps15
      go_wp2
      all_goals first | (exfalso; simp only [decide_eq_true_eq] at *; omega) | (go_ret2; exact ClEnd.bad He.out (by decide) (Below.refl _ _))
  obtain ⟨m, rfl⟩ := Int.eq_ofNat_of_zero_le (show 0 ≤ n by omega)
  have h1 : 1 ≤ m := by omega
  have h8 : m ≤ 8 := by omega
  have q1 : decide ((m : Int) < 1) = false := decide_eq_false (by omega)
  have q2 : decide (8 < m) = false := decide_eq_false (by omega)
  have q3 : decide (28 < ps.length) = false := decide_eq_false (by omega)
  have h28 : ps.length ≤ 28 := by omega
  have HN := Lib.hid hn
  clear hn hm
  go_enter Tryd.func15, Tryd.ntmps15
  go_wp2_with (at_make; refine wpList_makeU rfl _ _ rfl w.heap.size m rfl rfl (by omega) (Nat.le_refl _) ?_; intro w1 hown1 hgrow1)
  have HW1 := Lib.hid ((Below.refl w.heap.size w).grown hgrow1 (Nat.le_refl _) (fun k hk => by cases hk))
  rw [← clL_nil] at hown1
  have Hown1 := Lib.hid hown1
  have hz1 : w.heap.size < w1.heap.size := by
    obtain ⟨g, eg, _, hg, _⟩ := OwnU.at2 hown1 (by rw [clL_len]; omega)
    injection eg with eg; injection eg with eg
    omega
  clear q1 q2 q3 hown1 hgrow1
  go_loopw [26] (fun i wr => ∃ k : Nat, k ≤ ps.length ∧ i = .int .i64 k ∧ Hid (∀ p ∈ ps.take k, inP m p) ∧ Below w1.heap.size w1 wr) (fun i _ => ps.length - (intOf i).toNat)
  case atStart => exact ⟨0, Nat.zero_le _, rfl, fun p hp => by simp at hp, Below.refl _ _⟩
  case round =>
    obtain ⟨k, hk, rfl, hP, hW⟩ := hrel
    have hWw : Below w.heap.size w wr := HW1.out.trans (hW.mono (by omega))
    have HWw := Lib.hid hWw
    have HW := Lib.hid hW
    have hw2 := hW.size
    by_cases hlt : k < ps.length
    · obtain ⟨b, off, rfl, hb, c0, c1⟩ := RdP.at2 (Rd.below HA.out hWw) hlt
      have Hst := Lib.hid (fun h => clTail (p := inP m) hlt hP.out h)
      have Hmem := Lib.hid (List.getElem_mem hlt)
      clear hWw hW hP
      generalize ps[k] = p at *
      obtain ⟨x, y⟩ := p
      dsimp only at c0 c1
      by_cases hin : inP m (x, y)
      · have hin' := hin
        unfold inP at hin'
        dsimp only at hin'
        have Hin := Lib.hid hin
        clear hin
        obtain ⟨a1, a2, a3, a4⟩ := hin'
        rcases Int.lt_trichotomy x y with hab | rfl | hab
        all_goals
          go_wp2
          all_goals first
            | (exfalso; omega)
            | (go_roundw
               case rel => exact ⟨k + 1, by omega, by go_num, Hst.out Hin.out, HW.out.alloc hw2 _⟩
               case measure => simp [intOf]; omega)
      · have Hin := Lib.hid hin
        have hd : ¬ (0 ≤ x ∧ x < m ∧ 0 ≤ y ∧ y < m) := hin
        clear hin
        have Hf := Lib.hid (clErr_2 HN.out Hmem.out Hin.out)
        rcases Int.lt_trichotomy x y with hab | rfl | hab
        all_goals
          go_wp2
          all_goals first
            | (exfalso; omega)
            | (go_ret2
               exact ClEnd.bad Hf.out (by decide) (HWw.out.alloc (by omega) _))
    · have : k = ps.length := by omega
      subst this
      have Hall := Lib.hid (show ∀ p ∈ ps, inP m p by have := hP.out; rwa [List.take_length] at this)
      have Ho := Lib.hid (Own.below Hown1.out hW)
      clear hP hlt hk hWw hW
      go_wp2
      go_loopw [48] (fun i wr => ∃ k : Nat, k ≤ ps.length ∧ i = .int .i64 k ∧ Hid (∀ p ∈ ps.take k, p.1 ≠ p.2) ∧ OwnU wr w.heap.size 34 (.slice (some ⟨w.heap.size, 0, none⟩) m m) (clL m (ps.take k)) ∧ Below w.heap.size w wr) (fun i _ => ps.length - (intOf i).toNat)
      case atStart => exact ⟨0, Nat.zero_le _, rfl, fun p hp => by simp at hp, Ho.out, HWw.out⟩
      case round =>
        clear Ho HW HWw hw2
        obtain ⟨k, hk, rfl, hP, hown, hW⟩ := hrel
        have hw2 := hW.size
        have HW := Lib.hid hW
        have Hown := Lib.hid hown
        by_cases hlt : k < ps.length
        · obtain ⟨b, off, rfl, hb, c0, c1⟩ := RdP.at2 (Rd.below HA.out hW) hlt
          have Hst := Lib.hid (fun h => clTail (p := fun p : Int × Int => p.1 ≠ p.2) hlt hP.out h)
          have Hmem := Lib.hid (List.getElem_mem hlt)
          have Htk := Lib.hid (List.take_succ_eq_append_getElem hlt)
          have hin := Hall.out _ (List.getElem_mem hlt)
          unfold inP at hin
          clear hP hW
          generalize ps[k] = p at *
          obtain ⟨x, y⟩ := p
          dsimp only at c0 c1 hin
          obtain ⟨a1, a2, a3, a4⟩ := hin
          obtain ⟨a, rfl⟩ := Int.eq_ofNat_of_zero_le a1
          obtain ⟨b', rfl⟩ := Int.eq_ofNat_of_zero_le a3
          by_cases he : a = b'
          · subst he
            have Hf := Lib.hid (clErr_3 HN.out Hall.out Hmem.out rfl)
            have q : ((a : Int) == (a : Int)) = true := by simp
            clear hown
            go_wp2
            go_ret2
            exact ClEnd.bad Hf.out (by decide) (HW.out.alloc hw2 _)
          · have q : ((a : Int) == (b' : Int)) = false := by rw [beq_eq_false_iff_ne]; omega
            have am : a < m := by omega
            have bm : b' < m := by omega
            have a32 : a < 32 := by omega
            have b32 : b' < 32 := by omega
            obtain ⟨g, eg, _, hg, _, hfz, hcell⟩ := OwnU.at2 hown (by rw [clL_len]; omega)
            injection eg with eg; injection eg with eg
            subst eg
            have c2 := hcell a (by rw [clL_len]; omega)
            have c3 := hcell b' (by rw [clL_len]; omega)
            rw [clL_get] at c2 c3
            have f1 := hfz a
            have f2 := hfz b'
            have hSa := clS_lt (ps.take k) a
            have hSb := clS_lt (ps.take k) b'
            have pa : 2 ^ a < 2 ^ 8 := Nat.pow_lt_pow_right (by decide) (by omega)
            have pb : 2 ^ b' < 2 ^ 8 := Nat.pow_lt_pow_right (by decide) (by omega)
            have r1 := pow_u32 a a32
            have r2 := pow_u32 b' b32
            have r3 := or_u32 (clS (ps.take k) a) (2 ^ b') (by omega) (by omega)
            have r4 := or_u32 (clS (ps.take k) b') (2 ^ a) (by omega) (by omega)
            rw [Int.natCast_pow, show ((2 : Nat) : Int) = 2 from rfl] at r1 r2 r3 r4
            clear hown hfz hcell pa pb
            go_wp2
            obtain ⟨w2, hw2e⟩ : ∃ w2, w2 = wr.alloc (.cells #[.int .i64 a, .int .i64 b'] 46) := ⟨_, rfl⟩
            rw [← hw2e]
            have e0 : w2.cell? ⟨wr.heap.size, 0, none⟩ = some (.int .i64 a) := by rw [hw2e]; exact cell_new _ _ _ _ rfl 0
            have e1 : w2.cell? ⟨wr.heap.size, 1, none⟩ = some (.int .i64 b') := by rw [hw2e]; exact cell_new _ _ _ _ rfl 1
            have hB2 : Below wr.heap.size wr w2 := by rw [hw2e]; exact (Below.refl _ _).alloc (Nat.le_refl _) _
            have c2' := (hB2.cell (p := ⟨w.heap.size, a, none⟩) hg).trans c2
            have c3' := (hB2.cell (p := ⟨w.heap.size, b', none⟩) hg).trans c3
            have f1' := (hB2.frozen (p := ⟨w.heap.size, a, none⟩) hg).trans f1
            have f2' := (hB2.frozen (p := ⟨w.heap.size, b', none⟩) hg).trans f2
            have Hz2 := Lib.hid (show w2.heap.size = wr.heap.size + 1 by rw [hw2e]; simp)
            have HB2 := Lib.hid hB2
            have hown2 := Own.below Hown.out hB2
            have hown3 := OwnU.set_ hown2 (k := a) (by rw [clL_len]; omega) (clS (ps.take k) a ||| 2 ^ b')
            have Hown3 := Lib.hid hown3
            have HB3 := Lib.hid ((HW.out.trans (hB2.mono hw2)).setCell (p := ⟨w.heap.size, a, none⟩) (Nat.le_refl _) (.int .u32 (clS (ps.take k) a ||| 2 ^ b' : Nat)))
            clear hw2e hB2 c2 c3 f1 f2 c0 c1 hown2 hown3
            go_still_tail 10, (by kernel_rfl)
            go_wp2
            rw [r3]
            obtain ⟨w3, hw3e⟩ : ∃ w3, w3 = (w2.setCell ⟨w.heap.size, a, none⟩ (.int .u32 (clS (ps.take k) a ||| 2 ^ b' : Nat))).drew := ⟨_, rfl⟩
            rw [← hw3e]
            have hown3 : OwnU w3 w.heap.size 34 (.slice (some ⟨w.heap.size, 0, none⟩) m m) ((clL m (ps.take k)).set a (clS (ps.take k) a ||| 2 ^ b')) := by rw [hw3e]; exact Hown3.out.drewN 1
            have hB3 : Below w.heap.size w w3 := by rw [hw3e]; exact HB3.out.drew
            have g0 : w3.cell? ⟨wr.heap.size, 0, none⟩ = some (.int .i64 a) := by rw [hw3e]; exact (World.cell?_setCell_other w2 _ _ _ (by intro h; injection h; omega)).trans e0
            have g1 : w3.cell? ⟨wr.heap.size, 1, none⟩ = some (.int .i64 b') := by rw [hw3e]; exact (World.cell?_setCell_other w2 _ _ _ (by intro h; injection h; omega)).trans e1
            obtain ⟨_, eg, _, hg3, _, hfz, hcell⟩ := OwnU.at2 hown3 (by rw [List.length_set, clL_len]; omega)
            injection eg with eg; injection eg with eg
            subst eg
            have c3 := hcell b' (by rw [List.length_set, clL_len]; omega)
            rw [List.getElem_set_ne he, clL_get] at c3
            have f2 := hfz b'
            have hown4 := OwnU.set_ hown3 (k := b') (by rw [List.length_set, clL_len]; omega) (clS (ps.take k) b' ||| 2 ^ a)
            rw [clL_push am bm h8 he] at hown4
            have Hown4 := Lib.hid hown4
            have HB4 := Lib.hid (hB3.setCell (p := ⟨w.heap.size, b', none⟩) (Nat.le_refl _) (.int .u32 (clS (ps.take k) b' ||| 2 ^ a : Nat)))
            clear hw3e hown3 hown4 hB3 hfz hcell e0 e1 c2' c3' f1' f2' r3 r2 Hown3 HB3
            go_still_tail 10, (by kernel_rfl)
            go_wp2
            refine ⟨⟨k + 1, by omega, by go_num, Hst.out (show (a : Int) ≠ (b' : Int) by omega), by rw [Htk.out]; exact Hown4.out.drewN 1, HB4.out.drew⟩, by simp [intOf]; omega⟩
        · have : k = ps.length := by omega
          subst this
          have Hok : Hid (ClOk m ps) := ⟨h1, h8, h28, Hall.out, by have := hP.out; rwa [List.take_length] at this⟩
          rw [List.take_length] at Hown
          clear hown hW hP
          go_wp2
          go_ret2
          exact ClEnd.ok Hok.out Hown.out HW.out
end Go.Proofs.YtckmedmebabkjaaDoor
