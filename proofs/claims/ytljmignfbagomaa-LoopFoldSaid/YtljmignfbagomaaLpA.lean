/- Package loop, plain: of each node those that lead to it; the loop of a pair that goes back. -/
import Derived.Test.YtljmignfbagomaaWalkD
import Derived.Test.YtljmignfbagomaaTreeP
import Derived.Test.YtljmignfbagomaaRuleB
namespace Go.Proofs.Ytljmignfbagomaa
open Go.RowKit

def toP (ls : List (List Int)) (i t j a : Nat) : Prop := Rch ls a ∧ ((a < i ∧ (j : Int) ∈ ls.getD a []) ∨ (a = i ∧ (j : Int) ∈ (ls.getD i []).take t))
open Classical in
noncomputable def toR (ls : List (List Int)) (i t : Nat) : List Nat := (List.range ls.length).map fun j => setN (toP ls i t j)
theorem toR_len (ls : List (List Int)) (i t : Nat) : (toR ls i t).length = ls.length := by simp [toR]
theorem toR_get (ls : List (List Int)) (i t j : Nat) (h : j < (toR ls i t).length) : (toR ls i t)[j] = setN (toP ls i t j) := by simp [toR]
theorem toR_zero (ls : List (List Int)) : toR ls 0 0 = List.replicate ls.length 0 := by
  unfold toR
  rw [show (fun j => setN (toP ls 0 0 j)) = fun _ => 0 from funext fun j => setN_false fun k _ h => by
    rcases h.2 with ⟨h1, _⟩ | ⟨_, h2⟩
    · omega
    · simp at h2, List.map_const', List.length_range]
theorem toR_next {ls : List (List Int)} {i : Nat} {l : List Int} (hl : ls.getD i [] = l) : toR ls i l.length = toR ls (i + 1) 0 := by
  unfold toR
  refine List.map_congr_left fun j _ => setN_congr fun a _ => ?_
  unfold toP
  rw [hl, List.take_length]
  refine and_congr_right fun _ => ?_
  constructor
  · rintro (⟨h1, h2⟩ | ⟨h1, h2⟩)
    · exact .inl ⟨by omega, h2⟩
    · subst h1; exact .inl ⟨by omega, by rw [hl]; exact h2⟩
  · rintro (⟨h1, h2⟩ | ⟨h1, h2⟩)
    · by_cases e : a = i
      · subst e; exact .inr ⟨rfl, by rw [← hl]; exact h2⟩
      · exact .inl ⟨by omega, h2⟩
    · simp at h2
theorem toR_skip {ls : List (List Int)} {i t : Nat} (hn : ¬ Rch ls i) : toR ls i t = toR ls i (t + 1) := by
  unfold toR
  refine List.map_congr_left fun j _ => setN_congr fun a _ => ?_
  unfold toP
  refine and_congr_right fun hr => ?_
  have : a ≠ i := fun e => hn (e ▸ hr)
  constructor
  · rintro (h | ⟨h1, h2⟩)
    · exact .inl h
    · exact absurd h1 this
  · rintro (h | ⟨h1, h2⟩)
    · exact .inl h
    · exact absurd h1 this
theorem toR_put {ls : List (List Int)} {i t j : Nat} {l : List Int} (hl : ls.getD i [] = l) (ht : t < l.length) (hj : l[t] = (j : Int)) (hr : Rch ls i) (hi : i < 8) :
    (toR ls i t).set j (setN (toP ls i t j) ||| 2 ^ i) = toR ls i (t + 1) := by
  have hm : ∀ x : Int, x ∈ l.take (t + 1) ↔ x ∈ l.take t ∨ x = (j : Int) := fun x => by
    rw [List.take_succ_eq_append_getElem ht, List.mem_append, List.mem_singleton, hj]
  unfold toR
  rw [map_range_setW]
  refine List.map_congr_left fun j' _ => ?_
  by_cases e : j' = j
  · rw [if_pos e]
    subst e
    refine setN_ext fun a => ?_
    rw [set_bit, Bool.or_eq_true, decide_eq_true_eq, setN_bit]
    unfold toP
    rw [hl, hm]
    constructor
    · rintro (⟨h1, h2, h3 | ⟨h3, h4⟩⟩ | rfl)
      · exact ⟨h1, h2, .inl h3⟩
      · exact ⟨h1, h2, .inr ⟨h3, .inl h4⟩⟩
      · exact ⟨hi, hr, .inr ⟨rfl, .inr rfl⟩⟩
    · rintro ⟨h1, h2, h3 | ⟨h3, h4⟩⟩
      · exact .inl ⟨h1, h2, .inl h3⟩
      · exact .inr h3.symm
  · rw [if_neg e]
    refine setN_congr fun a _ => ?_
    unfold toP
    rw [hl, hm]
    refine and_congr_right fun _ => or_congr_right (and_congr_right fun _ => ?_)
    constructor
    · exact .inl
    · rintro (h | h)
      · exact h
      · exact absurd (by omega) e
theorem getD_lt {ls : List (List Int)} {a : Nat} {x : Int} (h : x ∈ ls.getD a []) : a < ls.length := Classical.byContradiction fun hn => by
  rw [List.getD_eq_getElem?_getD, List.getElem?_eq_none (by omega)] at h
  simp at h
theorem from_bit {ls : List (List Int)} (h8 : ls.length ≤ 8) {b : Nat} (h : b < (toR ls ls.length 0).length) (a : Nat) : (toR ls ls.length 0)[b].testBit a = true ↔ Rch ls a ∧ (b : Int) ∈ ls.getD a [] := by
  rw [toR_get, setN_bit]
  unfold toP
  constructor
  · rintro ⟨h1, h2, h3 | ⟨h3, h4⟩⟩
    · exact ⟨h2, h3.2⟩
    · simp at h4
  · rintro ⟨h1, h2⟩
    have := getD_lt h2
    exact ⟨by omega, h1, .inl ⟨this, h2⟩⟩
theorem from_lt {ls : List (List Int)} {b i t : Nat} (h : b < (toR ls i t).length) : (toR ls i t)[b] < 256 := by rw [toR_get]; exact setN_lt _
/-! ## The loop of a pair -/
inductive NatL (ls : List (List Int)) (h t : Nat) : Nat → Prop
  | head : NatL ls h t h
  | tail : NatL ls h t t
  | back {a b : Nat} : NatL ls h t b → b ≠ h → Rch ls a → (b : Int) ∈ ls.getD a [] → NatL ls h t a
structure LpI (ls : List (List Int)) (h t s : Nat) : Prop where
  sub : ∀ a, s.testBit a = true → NatL ls h t a
  hd : s.testBit h = true
  tl : s.testBit t = true
  lt : ∀ a, s.testBit a = true → a < ls.length
def LpC (ls : List (List Int)) (h s : Nat) : Prop := ∀ b a, s.testBit b = true → b ≠ h → Rch ls a → (b : Int) ∈ ls.getD a [] → s.testBit a = true
theorem LpI.all {ls : List (List Int)} {h t s : Nat} (hI : LpI ls h t s) (hc : LpC ls h s) (a : Nat) : s.testBit a = true ↔ NatL ls h t a := by
  refine ⟨hI.sub a, fun hn => ?_⟩
  induction hn with
  | head => exact hI.hd
  | tail => exact hI.tl
  | back _ hne hr hm ih => exact hc _ _ ih hne hr hm
theorem LpI.small {ls : List (List Int)} {h t s : Nat} (hI : LpI ls h t s) (h8 : ls.length ≤ 8) : s < 256 := lt_pow_of_bits (n := 8) fun k hk => by have := hI.lt k hk; omega
theorem LpI.start {ls : List (List Int)} {h t : Nat} (hh : h < ls.length) (ht : t < ls.length) : LpI ls h t (2 ^ h ||| 2 ^ t) := by
  have hb : ∀ a, (2 ^ h ||| 2 ^ t).testBit a = true ↔ (a = h ∨ a = t) := fun a => by
    rw [set_bit, testBit_pow, Bool.or_eq_true, decide_eq_true_eq, decide_eq_true_eq]
    exact or_congr ⟨Eq.symm, Eq.symm⟩ ⟨Eq.symm, Eq.symm⟩
  refine ⟨fun a ha => ?_, (hb h).2 (.inl rfl), (hb t).2 (.inr rfl), fun a ha => ?_⟩
  · rcases (hb a).1 ha with rfl | rfl
    · exact .head
    · exact .tail
  · rcases (hb a).1 ha with rfl | rfl <;> assumption
structure LpJ (ls : List (List Int)) (h t was s k : Nat) : Prop where
  i : LpI ls h t s
  up : ∀ a, was.testBit a = true → s.testBit a = true
  done : ∀ b, b < k → b ≠ h → was.testBit b = true → ∀ a, Rch ls a → (b : Int) ∈ ls.getD a [] → s.testBit a = true
theorem LpJ.start {ls : List (List Int)} {h t s : Nat} (hI : LpI ls h t s) : LpJ ls h t s s 0 := ⟨hI, fun _ h => h, fun b hb => by omega⟩
theorem LpJ.skip {ls : List (List Int)} {h t was s k : Nat} (hJ : LpJ ls h t was s k) (hk : k = h ∨ s.testBit k = false) : LpJ ls h t was s (k + 1) := by
  refine ⟨hJ.i, hJ.up, fun b hb hne hw a hr hm => ?_⟩
  by_cases e : b = k
  · subst e
    rcases hk with rfl | hk
    · exact absurd rfl hne
    · have := hJ.up _ hw; rw [hk] at this; cases this
  · exact hJ.done b (by omega) hne hw a hr hm
theorem LpJ.put {ls : List (List Int)} {h t was s k f : Nat} (hJ : LpJ ls h t was s k) (hk : k ≠ h) (hb : s.testBit k = true) (hf : ∀ a, f.testBit a = true ↔ Rch ls a ∧ (k : Int) ∈ ls.getD a []) : LpJ ls h t was (s ||| f) (k + 1) := by
  have hbit : ∀ a, (s ||| f).testBit a = true ↔ (s.testBit a = true ∨ (Rch ls a ∧ (k : Int) ∈ ls.getD a [])) := fun a => by rw [Nat.testBit_or, Bool.or_eq_true, hf]
  refine ⟨⟨fun a ha => ?_, (hbit _).2 (.inl hJ.i.hd), (hbit _).2 (.inl hJ.i.tl), fun a ha => ?_⟩, fun a ha => (hbit a).2 (.inl (hJ.up a ha)), fun b hlt hne hw a hr hm => (hbit a).2 ?_⟩
  · rcases (hbit a).1 ha with h1 | ⟨h1, h2⟩
    · exact hJ.i.sub a h1
    · exact .back (hJ.i.sub k hb) hk h1 h2
  · rcases (hbit a).1 ha with h1 | ⟨h1, h2⟩
    · exact hJ.i.lt a h1
    · exact getD_lt h2
  · by_cases e : b = k
    · subst e; exact .inr ⟨hr, hm⟩
    · exact .inl (hJ.done b (by omega) hne hw a hr hm)
theorem LpJ.fin {ls : List (List Int)} {h t s : Nat} (hJ : LpJ ls h t s s ls.length) : LpC ls h s := fun b a hb hne hr hm => hJ.done b (hJ.i.lt b hb) hne hb a hr hm
theorem LpJ.more {ls : List (List Int)} {h t was s k : Nat} (hJ : LpJ ls h t was s k) (h8 : ls.length ≤ 8) (hne : s ≠ was) : cnt8 was < cnt8 s := cnt8_mono_lt hJ.up (Ne.symm hne) (hJ.i.small h8)
/-! ## All loops -/
def lpP (ls : List (List Int)) (bk : List (Int × Int)) (h a : Nat) : Prop := ∃ t : Nat, ((t : Int), (h : Int)) ∈ bk ∧ Dom ls h t ∧ NatL ls h t a
open Classical in
noncomputable def lpR (ls : List (List Int)) (bk : List (Int × Int)) : List Nat := (List.range ls.length).map fun h => setN (lpP ls bk h)
theorem lpR_len (ls : List (List Int)) (bk : List (Int × Int)) : (lpR ls bk).length = ls.length := by simp [lpR]
theorem lpR_get (ls : List (List Int)) (bk : List (Int × Int)) (h : Nat) (hh : h < (lpR ls bk).length) : (lpR ls bk)[h] = setN (lpP ls bk h) := by simp [lpR]
theorem lpR_nil (ls : List (List Int)) : lpR ls [] = List.replicate ls.length 0 := by
  unfold lpR
  rw [show (fun h => setN (lpP ls [] h)) = fun _ => 0 from funext fun j => setN_false fun k _ hk => by
    obtain ⟨t, h, _⟩ := hk
    simp at h, List.map_const', List.length_range]
theorem lpR_no {ls : List (List Int)} {bk : List (Int × Int)} {h t : Nat} (hn : ¬ Dom ls h t) : lpR ls (bk ++ [((t : Int), (h : Int))]) = lpR ls bk := by
  unfold lpR
  refine List.map_congr_left fun j _ => setN_congr fun a _ => ?_
  constructor
  · rintro ⟨t', h1, h2, h3⟩
    rw [List.mem_append, List.mem_singleton] at h1
    rcases h1 with h1 | h1
    · exact ⟨t', h1, h2, h3⟩
    · injection h1 with e1 e2
      have e1 : t' = t := by omega
      have e2 : j = h := by omega
      subst e1 e2; exact absurd h2 hn
  · rintro ⟨t', h1, h2, h3⟩; exact ⟨t', List.mem_append_left _ h1, h2, h3⟩
theorem lpR_yes {ls : List (List Int)} {bk : List (Int × Int)} {h t s : Nat} (hd : Dom ls h t) (hs : ∀ a, s.testBit a = true ↔ NatL ls h t a) (hs8 : s < 256) :
    (lpR ls bk).set h (setN (lpP ls bk h) ||| s) = lpR ls (bk ++ [((t : Int), (h : Int))]) := by
  unfold lpR
  rw [map_range_setW]
  refine List.map_congr_left fun j _ => ?_
  by_cases e : j = h
  · rw [if_pos e]
    subst e
    refine setN_ext fun a => ?_
    rw [Nat.testBit_or, Bool.or_eq_true, setN_bit, hs]
    constructor
    · rintro (⟨h1, t', h2, h3, h4⟩ | h1)
      · exact ⟨h1, t', List.mem_append_left _ h2, h3, h4⟩
      · exact ⟨bit_lt (n := 8) hs8 ((hs a).2 h1), t, by simp, hd, h1⟩
    · rintro ⟨h1, t', h2, h3, h4⟩
      rw [List.mem_append, List.mem_singleton] at h2
      rcases h2 with h2 | h2
      · exact .inl ⟨h1, t', h2, h3, h4⟩
      · injection h2 with e1 e2
        have e1 : t' = t := by omega
        subst e1; exact .inr h4
  · rw [if_neg e]
    refine setN_congr fun a _ => ?_
    constructor
    · rintro ⟨t', h1, h2, h3⟩; exact ⟨t', List.mem_append_left _ h1, h2, h3⟩
    · rintro ⟨t', h1, h2, h3⟩
      rw [List.mem_append, List.mem_singleton] at h1
      rcases h1 with h1 | h1
      · exact ⟨t', h1, h2, h3⟩
      · injection h1 with e1 e2
        exact absurd (by omega) e
end Go.Proofs.Ytljmignfbagomaa
