/- mach.Size and mach.order. -/
import Derived.Test.YtmgejacndhnikaaRows
import Derived.Test.YtmgejacndhnikaaMchO
import Derived.BigGuardPart
import Derived.BigQuiet
import Derived.BigRegion
import Derived.RegionTactic
import Derived.Deep.QuietTactic
import Derived.ChangeAlike
import Derived.Outline
namespace Go.Proofs.Ytmgejacndhnikaa
open Go.RowKit

def byteCells (x : Int) : List Value := [.int .u8 x]
abbrev RdB (w : World) (A : Option Addr) (l : List Int) : Prop := Rd byteCells 1 w A l
theorem RdB.at1 {w : World} {A : Option Addr} {l : List Int} (h : RdB w A l) {k : Nat} (hk : k < l.length) :
    ∃ b off, A = some ⟨b, off, none⟩ ∧ b < w.heap.size ∧ w.cell? ⟨b, off + k, none⟩ = some (.int .u8 l[k]) := by
  obtain ⟨b, off, e, hb, hc⟩ := h.at_ hk
  refine ⟨b, off, e, hb, ?_⟩
  have := hc 0 (by omega)
  simpa [byteCells] using this

theorem mSize_bd (b : Int) : 0 ≤ mSize b ∧ mSize b ≤ 3 := by
  unfold mSize; repeat' split
  all_goals omega

set_option maxHeartbeats 400000 in
theorem size_calls (b : Int) (w : World) (h0 : 0 ≤ b) (h1 : b ≤ 255) :
    Calls Try.prog 103 #[.int .u8 b] w fun e w' => e = .returned (.int .i64 (mSize b)) ∧ w' = w := by
  go_enter Try.func103, Try.ntmps103
  go_wp2
  all_goals
    go_ret
    refine ⟨ret_int ?_, rfl⟩
    unfold mSize
    try simp only [beq_iff_eq, beq_eq_false_iff_ne] at *
    repeat' split
    all_goals omega

set_option maxHeartbeats 400000 in
theorem order_no1 (A : Option Addr) (l : List Int) (cap : Nat) (k : Nat) (w : World) (hk : l.length ≤ k) :
    Calls Try.prog 49 #[.slice A l.length cap, .int .i64 k] w fun e w' => e = .returned (.tuple #[(Step.mk 0 0 0 0 0).agg, .int .i64 0, .bool false]) ∧ Below w.heap.size w w' := by
  go_enter Try.func49, Try.ntmps49
  go_wp2
  exact bodyPost_ret (v := .tuple #[(Step.mk 0 0 0 0 0).agg, .int .i64 0, .bool false]) (by simp [results, Try.results49, go_sem, Step.agg]) rfl ⟨rfl, (Below.refl _ _).alloc (Nat.le_refl _) _⟩
def bytesOk (l : List Int) : Prop := ∀ x ∈ l, 0 ≤ x ∧ x ≤ 255

set_option maxHeartbeats 400000 in
theorem order_no2 (A : Option Addr) (l : List Int) (cap : Nat) (k : Nat) (w : World) (hA : RdB w A l) (hm : l.length ≤ 400) (hl : bytesOk l) (hk : k < l.length) (hn : mSize l[k] = 0 ∨ (l.length : Int) < k + mSize l[k]) :
    Calls Try.prog 49 #[.slice A l.length cap, .int .i64 k] w fun e w' => e = .returned (.tuple #[(Step.mk 0 0 0 0 0).agg, .int .i64 0, .bool false]) ∧ Below w.heap.size w w' := by
  obtain ⟨bb, off, rfl, hb, c0⟩ := RdB.at1 hA hk
  have hb1 := hl _ (List.getElem_mem hk)
  have hb2 := mSize_bd l[k]
  clear hl hA
  generalize l[k] = b at *
  generalize hms : mSize b = n at *
  have Hms := Lib.hid hms; clear hms
  have hd : (n == 0) = true ∨ ((n == 0) = false ∧ (l.length : Int) < k + n) := by
    rcases hn with h | h
    · left; simpa using h
    · by_cases h0 : n = 0
      · left; simpa using h0
      · right; exact ⟨by simpa using h0, h⟩
  clear hn
  rcases hd with hd | ⟨hd, hd2⟩
  all_goals
    go_enter Try.func49, Try.ntmps49
    go_wp2_with (go_at_call 103; refine (size_calls _ _ hb1.1 hb1.2).mono ?_; rintro e w' ⟨rfl, rfl⟩; rw [Hms.out])
    exact bodyPost_ret (v := .tuple #[(Step.mk 0 0 0 0 0).agg, .int .i64 0, .bool false]) (by simp [results, Try.results49, go_sem, Step.agg]) rfl ⟨rfl, (Below.refl _ _).alloc (Nat.le_refl _) _⟩

set_option maxHeartbeats 1000000 in
theorem order_yes (A : Option Addr) (l : List Int) (cap : Nat) (k : Nat) (w : World) (hA : RdB w A l) (hm : l.length ≤ 400) (hl : bytesOk l) (hk : k < l.length) (hn0 : mSize l[k] ≠ 0) (hn : k + mSize l[k] ≤ (l.length : Int)) :
    Calls Try.prog 49 #[.slice A l.length cap, .int .i64 k] w fun e w' => e = .returned (.tuple #[(ordOf l[k] (l.getD (k + 1) 0) (l.getD (k + 2) 0)).agg, .int .i64 (mSize l[k]), .bool true]) ∧ Below w.heap.size w w' := by
  obtain ⟨bb, off, rfl, hb, c0⟩ := RdB.at1 hA hk
  have hb1 := hl _ (List.getElem_mem hk)
  have hb2 := mSize_bd l[k]
  have c1 : k + 1 < l.length → w.cell? ⟨bb, off + (k + 1), none⟩ = some (.int .u8 (l.getD (k + 1) 0)) ∧ 0 ≤ l.getD (k + 1) 0 ∧ l.getD (k + 1) 0 ≤ 255 := fun h => by
    obtain ⟨b2, o2, e, _, c⟩ := RdB.at1 hA h
    cases e
    have := hl _ (List.getElem_mem h)
    rw [c, List.getD_eq_getElem?_getD, List.getElem?_eq_getElem h]
    exact ⟨rfl, this⟩
  have c2 : k + 2 < l.length → w.cell? ⟨bb, off + (k + 2), none⟩ = some (.int .u8 (l.getD (k + 2) 0)) ∧ 0 ≤ l.getD (k + 2) 0 ∧ l.getD (k + 2) 0 ≤ 255 := fun h => by
    obtain ⟨b2, o2, e, _, c⟩ := RdB.at1 hA h
    cases e
    have := hl _ (List.getElem_mem h)
    rw [c, List.getD_eq_getElem?_getD, List.getElem?_eq_getElem h]
    exact ⟨rfl, this⟩
  clear hl hA
  generalize l.getD (k + 1) 0 = x at *
  generalize l.getD (k + 2) 0 = y at *
  generalize l[k] = b at *
  have hd : (mSize b == 0) = false := by simpa using hn0
  clear hn0
  have hcase : (b / 8 = 0 ∧ mSize b = 1) ∨ (b / 8 = 1 ∧ mSize b = 2) ∨ (b / 8 = 8 ∧ mSize b = 3) ∨ (b / 8 = 9 ∧ mSize b = 3) ∨ (b / 8 ≠ 0 ∧ b / 8 ≠ 1 ∧ b / 8 ≠ 8 ∧ b / 8 ≠ 9) := by
    by_cases h0 : b / 8 = 0
    · left; exact ⟨h0, by unfold mSize; rw [if_neg (by omega), if_pos h0]⟩
    by_cases h1 : b / 8 = 1
    · right; left; exact ⟨h1, by unfold mSize; rw [if_neg (by omega), if_neg h0, if_pos h1]⟩
    by_cases h8 : b / 8 = 8
    · right; right; left; exact ⟨h8, by unfold mSize; rw [if_neg (by omega), if_neg h0, if_neg h1, if_pos h8]⟩
    by_cases h9 : b / 8 = 9
    · right; right; right; left
      refine ⟨h9, ?_⟩
      have hz : mSize b ≠ 0 := by simpa using hd
      unfold mSize at hz ⊢
      rw [if_neg (by omega), if_neg h0, if_neg h1, if_neg h8] at hz ⊢
      by_cases hc : 6 ≤ b % 8
      · rw [if_pos hc] at hz; exact absurd rfl hz
      · rw [if_neg hc, if_pos h9]
    · right; right; right; right; exact ⟨h0, h1, h8, h9⟩
  have q1 : ∀ i : Int, b / 8 = i → (b / 8 == i) = true := fun i h => by simpa using h
  have q0 : ∀ i : Int, b / 8 ≠ i → (b / 8 == i) = false := fun i h => by simpa using h
  rcases hcase with ⟨h, hs⟩ | ⟨h, hs⟩ | ⟨h, hs⟩ | ⟨h, hs⟩ | ⟨h0, h1, h8, h9⟩
  · have e0 := q1 0 h
    have ho : ordOf b x y = ⟨b / 8, 0, 0, 0, 0⟩ := by simp [ordOf, h]
    rw [ho]
    have Hs := Lib.hid hs
    clear c1 c2 q1 q0 hs h ho
    go_enter Try.func49, Try.ntmps49
    go_wp2_with (go_at_call 103; refine (size_calls _ _ hb1.1 hb1.2).mono ?_; rintro e w' ⟨rfl, rfl⟩)
    exact bodyPost_ret (v := .tuple #[(Step.mk (b / 8) 0 0 0 0).agg, .int .i64 (mSize b), .bool true]) (by simp [results, Try.results49, go_sem, Step.agg]) rfl ⟨rfl, (by repeat (first | exact Below.refl _ _ | refine Below.setCell ?_ (by simp) _ | refine Below.alloc ?_ (by simp) _ | refine below_dN ?_ _ | refine Below.drew ?_))⟩
  · have e0 := q0 0 (by omega)
    have e1 := q1 1 h
    have ho : ordOf b x y = ⟨b / 8, 0, 0, 0, x⟩ := by simp [ordOf, h]
    rw [ho]
    have Hs := Lib.hid hs
    have hlt : k + 1 < l.length := by omega
    obtain ⟨d1, hx0, hx1⟩ := c1 hlt
    have hlt' : (k : Int) + 1 < l.length := by omega
    clear c1 c2 q1 q0 hs h ho
    go_enter Try.func49, Try.ntmps49
    go_wp2_with (go_at_call 103; refine (size_calls _ _ hb1.1 hb1.2).mono ?_; rintro e w' ⟨rfl, rfl⟩)
    go_region
    all_goals go_wp2
    all_goals exact bodyPost_ret (v := .tuple #[(Step.mk (b / 8) 0 0 0 x).agg, .int .i64 (mSize b), .bool true]) (by simp [results, Try.results49, go_sem, Step.agg]) rfl ⟨rfl, (by repeat (first | exact Below.refl _ _ | refine Below.setCell ?_ (by simp) _ | refine Below.alloc ?_ (by simp) _ | refine below_dN ?_ _ | refine Below.drew ?_))⟩
  · have e0 := q0 0 (by omega)
    have e1 := q0 1 (by omega)
    have e8 := q1 8 h
    have ho : ordOf b x y = ⟨b / 8, 0, 0, 0, x + y * 256⟩ := by simp [ordOf, h]
    rw [ho]
    have Hs := Lib.hid hs
    have hlt : k + 2 < l.length := by omega
    obtain ⟨d1, hx0, hx1⟩ := c1 (by omega)
    obtain ⟨d2, hy0, hy1⟩ := c2 hlt
    have hlt' : (k : Int) + 2 < l.length := by omega
    have hlt2 : (k : Int) + 1 < l.length := by omega
    clear c1 c2 q1 q0 hs h ho
    go_enter Try.func49, Try.ntmps49
    go_wp2_with (go_at_call 103; refine (size_calls _ _ hb1.1 hb1.2).mono ?_; rintro e w' ⟨rfl, rfl⟩)
    go_region
    all_goals go_wp2
    all_goals exact bodyPost_ret (v := .tuple #[(Step.mk (b / 8) 0 0 0 (x + y * 256)).agg, .int .i64 (mSize b), .bool true]) (by simp [results, Try.results49, go_sem, Step.agg]) rfl ⟨rfl, (by repeat (first | exact Below.refl _ _ | refine Below.setCell ?_ (by simp) _ | refine Below.alloc ?_ (by simp) _ | refine below_dN ?_ _ | refine Below.drew ?_))⟩
  · have e0 := q0 0 (by omega)
    have e1 := q0 1 (by omega)
    have e8 := q0 8 (by omega)
    have e9 := q1 9 h
    have ho : ordOf b x y = ⟨b / 8, b % 8, 0, 0, x + y * 256⟩ := by simp [ordOf, h]
    rw [ho]
    have Hs := Lib.hid hs
    have hlt : k + 2 < l.length := by omega
    obtain ⟨d1, hx0, hx1⟩ := c1 (by omega)
    obtain ⟨d2, hy0, hy1⟩ := c2 hlt
    have hlt' : (k : Int) + 2 < l.length := by omega
    have hlt2 : (k : Int) + 1 < l.length := by omega
    clear c1 c2 q1 q0 hs h ho
    go_enter Try.func49, Try.ntmps49
    go_wp2_with (go_at_call 103; refine (size_calls _ _ hb1.1 hb1.2).mono ?_; rintro e w' ⟨rfl, rfl⟩)
    go_region
    all_goals go_wp2
    all_goals exact bodyPost_ret (v := .tuple #[(Step.mk (b / 8) (b % 8) 0 0 (x + y * 256)).agg, .int .i64 (mSize b), .bool true]) (by simp [results, Try.results49, go_sem, Step.agg]) rfl ⟨rfl, (by repeat (first | exact Below.refl _ _ | refine Below.setCell ?_ (by simp) _ | refine Below.alloc ?_ (by simp) _ | refine below_dN ?_ _ | refine Below.drew ?_))⟩
  · have e0 := q0 0 h0
    have e1 := q0 1 h1
    have e8 := q0 8 h8
    have e9 := q0 9 h9
    have ho : ordOf b x y = ⟨b / 8, b % 8, 0, 0, 0⟩ := by simp [ordOf, h0, h1, h8, h9]
    rw [ho]
    clear c1 c2 q1 q0 h0 h1 h8 h9 ho
    go_enter Try.func49, Try.ntmps49
    go_wp2_with (go_at_call 103; refine (size_calls _ _ hb1.1 hb1.2).mono ?_; rintro e w' ⟨rfl, rfl⟩)
    all_goals exact bodyPost_ret (v := .tuple #[(Step.mk (b / 8) (b % 8) 0 0 0).agg, .int .i64 (mSize b), .bool true]) (by simp [results, Try.results49, go_sem, Step.agg]) rfl ⟨rfl, (by repeat (first | exact Below.refl _ _ | refine Below.setCell ?_ (by simp) _ | refine Below.alloc ?_ (by simp) _ | refine below_dN ?_ _ | refine Below.drew ?_))⟩
end Go.Proofs.Ytmgejacndhnikaa
