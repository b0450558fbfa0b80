/- mach.Size and mach.order. -/
import Derived.Test.YtmgejacndhnikaaRows
import Derived.Test.YtmgejacndhnikaaBackS
import Derived.BigGuardPart
import Derived.BigQuiet
import Derived.BigRegion
import Derived.RegionTactic
import Derived.Deep.QuietTactic
import Derived.ChangeAlike
import Derived.Outline
namespace Go.Proofs.Ytmgejacndhnikaa
open Go.RowKit

def byteCells (x : Int) : List Value := [.int .u8 x]
abbrev RdBy (w : World) (A : Option Addr) (l : List Int) : Prop := Rd byteCells 1 w A l
theorem RdBy.at1 {w : World} {A : Option Addr} {l : List Int} (h : RdBy w A l) {k : Nat} (hk : k < l.length) :
    ∃ b off, A = some ⟨b, off, none⟩ ∧ b < w.heap.size ∧ w.cell? ⟨b, off + k, none⟩ = some (.int .u8 l[k]) := by
  obtain ⟨b, off, e, hb, hc⟩ := h.at_ hk
  refine ⟨b, off, e, hb, ?_⟩
  have := hc 0 (by omega)
  simpa [byteCells] using this

theorem mSize_bd (b : Int) : 0 ≤ mSize b ∧ mSize b ≤ 3 := by
  unfold mSize; repeat' split
  all_goals omega

set_option maxHeartbeats 400000 in
theorem size_calls (b : Int) (w : World) (h0 : 0 ≤ b) (h1 : b ≤ 255) :
    Calls Try.prog 103 #[.int .u8 b] w fun e w' => e = .returned (.int .i64 (mSize b)) ∧ w' = w := by
  go_enter Try.func103, Try.ntmps103
  go_wp2
  all_goals
    go_ret
    refine ⟨ret_int ?_, rfl⟩
    unfold mSize
    try simp only [beq_iff_eq, beq_eq_false_iff_ne] at *
    repeat' split
    all_goals omega

set_option maxHeartbeats 400000 in
theorem order_no1 (A : Option Addr) (l : List Int) (cap : Nat) (k : Nat) (w : World) (hk : l.length ≤ k) :
    Calls Try.prog 49 #[.slice A l.length cap, .int .i64 k] w fun e w' => e = .returned (.tuple #[(Step.mk 0 0 0 0 0).agg, .int .i64 0, .bool false]) ∧ Below w.heap.size w w' := by
  go_enter Try.func49, Try.ntmps49
  go_wp2
  exact bodyPost_ret (v := .tuple #[(Step.mk 0 0 0 0 0).agg, .int .i64 0, .bool false]) (by simp [results, Try.results49, go_sem, Step.agg]) rfl ⟨rfl, (Below.refl _ _).alloc (Nat.le_refl _) _⟩
def bytesOk (l : List Int) : Prop := ∀ x ∈ l, 0 ≤ x ∧ x ≤ 255

set_option maxHeartbeats 400000 in
theorem order_no2 (A : Option Addr) (l : List Int) (cap : Nat) (k : Nat) (w : World) (hA : RdBy w A l) (hm : l.length ≤ 400) (hl : bytesOk l) (hk : k < l.length) (hn : mSize l[k] = 0 ∨ (l.length : Int) < k + mSize l[k]) :
    Calls Try.prog 49 #[.slice A l.length cap, .int .i64 k] w fun e w' => e = .returned (.tuple #[(Step.mk 0 0 0 0 0).agg, .int .i64 0, .bool false]) ∧ Below w.heap.size w w' := by
  obtain ⟨bb, off, rfl, hb, c0⟩ := RdBy.at1 hA hk
  have hb1 := hl _ (List.getElem_mem hk)
  have hb2 := mSize_bd l[k]
  clear hl hA
  generalize l[k] = b at *
  generalize hms : mSize b = n at *
  have Hms := Lib.hid hms; clear hms
  have hd : (n == 0) = true ∨ ((n == 0) = false ∧ (l.length : Int) < k + n) := by
    rcases hn with h | h
    · left; simpa using h
    · by_cases h0 : n = 0
      · left; simpa using h0
      · right; exact ⟨by simpa using h0, h⟩
  clear hn
  rcases hd with hd | ⟨hd, hd2⟩
  all_goals
    go_enter Try.func49, Try.ntmps49
    go_wp2_with (go_at_call 103; refine (size_calls _ _ hb1.1 hb1.2).mono ?_; rintro e w' ⟨rfl, rfl⟩; rw [Hms.out])
    exact bodyPost_ret (v := .tuple #[(Step.mk 0 0 0 0 0).agg, .int .i64 0, .bool false]) (by simp [results, Try.results49, go_sem, Step.agg]) rfl ⟨rfl, (Below.refl _ _).alloc (Nat.le_refl _) _⟩

set_option maxHeartbeats 1000000 in
theorem order_yes (A : Option Addr) (l : List Int) (cap : Nat) (k : Nat) (w : World) (hA : RdBy w A l) (hm : l.length ≤ 400) (hl : bytesOk l) (hk : k < l.length) (hn0 : mSize l[k] ≠ 0) (hn : k + mSize l[k] ≤ (l.length : Int)) :
    Calls Try.prog 49 #[.slice A l.length cap, .int .i64 k] w fun e w' => e = .returned (.tuple #[(ordOf l[k] (l.getD (k + 1) 0) (l.getD (k + 2) 0)).agg, .int .i64 (mSize l[k]), .bool true]) ∧ Below w.heap.size w w' := by
  obtain ⟨bb, off, rfl, hb, c0⟩ := RdBy.at1 hA hk
  have hb1 := hl _ (List.getElem_mem hk)
  have hb2 := mSize_bd l[k]
  have c1 : k + 1 < l.length → w.cell? ⟨bb, off + (k + 1), none⟩ = some (.int .u8 (l.getD (k + 1) 0)) ∧ 0 ≤ l.getD (k + 1) 0 ∧ l.getD (k + 1) 0 ≤ 255 := fun h => by
    obtain ⟨b2, o2, e, _, c⟩ := RdBy.at1 hA h
    cases e
    have := hl _ (List.getElem_mem h)
    rw [c, List.getD_eq_getElem?_getD, List.getElem?_eq_getElem h]
    exact ⟨rfl, this⟩
  have c2 : k + 2 < l.length → w.cell? ⟨bb, off + (k + 2), none⟩ = some (.int .u8 (l.getD (k + 2) 0)) ∧ 0 ≤ l.getD (k + 2) 0 ∧ l.getD (k + 2) 0 ≤ 255 := fun h => by
    obtain ⟨b2, o2, e, _, c⟩ := RdBy.at1 hA h
    cases e
    have := hl _ (List.getElem_mem h)
    rw [c, List.getD_eq_getElem?_getD, List.getElem?_eq_getElem h]
    exact ⟨rfl, this⟩
  clear hl hA
  generalize l.getD (k + 1) 0 = x at *
  generalize l.getD (k + 2) 0 = y at *
  generalize l[k] = b at *
  have hd : (mSize b == 0) = false := by simpa using hn0
  clear hn0
  have hcase : (b / 8 = 0 ∧ mSize b = 1) ∨ (b / 8 = 1 ∧ mSize b = 2) ∨ (b / 8 = 8 ∧ mSize b = 3) ∨ (b / 8 = 9 ∧ mSize b = 3) ∨ (b / 8 ≠ 0 ∧ b / 8 ≠ 1 ∧ b / 8 ≠ 8 ∧ b / 8 ≠ 9) := by
    by_cases h0 : b / 8 = 0
    · left; exact ⟨h0, by unfold mSize; rw [if_neg (by omega), if_pos h0]⟩
    by_cases h1 : b / 8 = 1
    · right; left; exact ⟨h1, by unfold mSize; rw [if_neg (by omega), if_neg h0, if_pos h1]⟩
    by_cases h8 : b / 8 = 8
    · right; right; left; exact ⟨h8, by unfold mSize; rw [if_neg (by omega), if_neg h0, if_neg h1, if_pos h8]⟩
    by_cases h9 : b / 8 = 9
    · right; right; right; left
      refine ⟨h9, ?_⟩
      have hz : mSize b ≠ 0 := by simpa using hd
      unfold mSize at hz ⊢
      rw [if_neg (by omega), if_neg h0, if_neg h1, if_neg h8] at hz ⊢
      by_cases hc : 6 ≤ b % 8
      · rw [if_pos hc] at hz; exact absurd rfl hz
      · rw [if_neg hc, if_pos h9]
    · right; right; right; right; exact ⟨h0, h1, h8, h9⟩
  have q1 : ∀ i : Int, b / 8 = i → (b / 8 == i) = true := fun i h => by simpa using h
  have q0 : ∀ i : Int, b / 8 ≠ i → (b / 8 == i) = false := fun i h => by simpa using h
  rcases hcase with ⟨h, hs⟩ | ⟨h, hs⟩ | ⟨h, hs⟩ | ⟨h, hs⟩ | ⟨h0, h1, h8, h9⟩
  · have e0 := q1 0 h
    have ho : ordOf b x y = ⟨b / 8, 0, 0, 0, 0⟩ := by simp [ordOf, h]
    rw [ho]
    have Hs := Lib.hid hs
    clear c1 c2 q1 q0 hs h ho
    go_enter Try.func49, Try.ntmps49
    go_wp2_with (go_at_call 103; refine (size_calls _ _ hb1.1 hb1.2).mono ?_; rintro e w' ⟨rfl, rfl⟩)
    exact bodyPost_ret (v := .tuple #[(Step.mk (b / 8) 0 0 0 0).agg, .int .i64 (mSize b), .bool true]) (by simp [results, Try.results49, go_sem, Step.agg]) rfl ⟨rfl, (by repeat (first | exact Below.refl _ _ | refine Below.setCell ?_ (by simp) _ | refine Below.alloc ?_ (by simp) _ | refine below_dN ?_ _ | refine Below.drew ?_))⟩
  · have e0 := q0 0 (by omega)
    have e1 := q1 1 h
    have ho : ordOf b x y = ⟨b / 8, 0, 0, 0, x⟩ := by simp [ordOf, h]
    rw [ho]
    have Hs := Lib.hid hs
    have hlt : k + 1 < l.length := by omega
    obtain ⟨d1, hx0, hx1⟩ := c1 hlt
    have hlt' : (k : Int) + 1 < l.length := by omega
    clear c1 c2 q1 q0 hs h ho
    go_enter Try.func49, Try.ntmps49
    go_wp2_with (go_at_call 103; refine (size_calls _ _ hb1.1 hb1.2).mono ?_; rintro e w' ⟨rfl, rfl⟩)
    go_region
    all_goals go_wp2
    all_goals exact bodyPost_ret (v := .tuple #[(Step.mk (b / 8) 0 0 0 x).agg, .int .i64 (mSize b), .bool true]) (by simp [results, Try.results49, go_sem, Step.agg]) rfl ⟨rfl, (by repeat (first | exact Below.refl _ _ | refine Below.setCell ?_ (by simp) _ | refine Below.alloc ?_ (by simp) _ | refine below_dN ?_ _ | refine Below.drew ?_))⟩
  · have e0 := q0 0 (by omega)
    have e1 := q0 1 (by omega)
    have e8 := q1 8 h
    have ho : ordOf b x y = ⟨b / 8, 0, 0, 0, x + y * 256⟩ := by simp [ordOf, h]
    rw [ho]
    have Hs := Lib.hid hs
    have hlt : k + 2 < l.length := by omega
    obtain ⟨d1, hx0, hx1⟩ := c1 (by omega)
    obtain ⟨d2, hy0, hy1⟩ := c2 hlt
    have hlt' : (k : Int) + 2 < l.length := by omega
    have hlt2 : (k : Int) + 1 < l.length := by omega
    clear c1 c2 q1 q0 hs h ho
    go_enter Try.func49, Try.ntmps49
    go_wp2_with (go_at_call 103; refine (size_calls _ _ hb1.1 hb1.2).mono ?_; rintro e w' ⟨rfl, rfl⟩)
    go_region
    all_goals go_wp2
    all_goals exact bodyPost_ret (v := .tuple #[(Step.mk (b / 8) 0 0 0 (x + y * 256)).agg, .int .i64 (mSize b), .bool true]) (by simp [results, Try.results49, go_sem, Step.agg]) rfl ⟨rfl, (by repeat (first | exact Below.refl _ _ | refine Below.setCell ?_ (by simp) _ | refine Below.alloc ?_ (by simp) _ | refine below_dN ?_ _ | refine Below.drew ?_))⟩
  · have e0 := q0 0 (by omega)
    have e1 := q0 1 (by omega)
    have e8 := q0 8 (by omega)
    have e9 := q1 9 h
    have ho : ordOf b x y = ⟨b / 8, b % 8, 0, 0, x + y * 256⟩ := by simp [ordOf, h]
    rw [ho]
    have Hs := Lib.hid hs
    have hlt : k + 2 < l.length := by omega
    obtain ⟨d1, hx0, hx1⟩ := c1 (by omega)
    obtain ⟨d2, hy0, hy1⟩ := c2 hlt
    have hlt' : (k : Int) + 2 < l.length := by omega
    have hlt2 : (k : Int) + 1 < l.length := by omega
    clear c1 c2 q1 q0 hs h ho
    go_enter Try.func49, Try.ntmps49
    go_wp2_with (go_at_call 103; refine (size_calls _ _ hb1.1 hb1.2).mono ?_; rintro e w' ⟨rfl, rfl⟩)
    go_region
    all_goals go_wp2
    all_goals exact bodyPost_ret (v := .tuple #[(Step.mk (b / 8) (b % 8) 0 0 (x + y * 256)).agg, .int .i64 (mSize b), .bool true]) (by simp [results, Try.results49, go_sem, Step.agg]) rfl ⟨rfl, (by repeat (first | exact Below.refl _ _ | refine Below.setCell ?_ (by simp) _ | refine Below.alloc ?_ (by simp) _ | refine below_dN ?_ _ | refine Below.drew ?_))⟩
  · have e0 := q0 0 h0
    have e1 := q0 1 h1
    have e8 := q0 8 h8
    have e9 := q0 9 h9
    have ho : ordOf b x y = ⟨b / 8, b % 8, 0, 0, 0⟩ := by simp [ordOf, h0, h1, h8, h9]
    rw [ho]
    clear c1 c2 q1 q0 h0 h1 h8 h9 ho
    go_enter Try.func49, Try.ntmps49
    go_wp2_with (go_at_call 103; refine (size_calls _ _ hb1.1 hb1.2).mono ?_; rintro e w' ⟨rfl, rfl⟩)
    all_goals exact bodyPost_ret (v := .tuple #[(Step.mk (b / 8) (b % 8) 0 0 0).agg, .int .i64 (mSize b), .bool true]) (by simp [results, Try.results49, go_sem, Step.agg]) rfl ⟨rfl, (by repeat (first | exact Below.refl _ _ | refine Below.setCell ?_ (by simp) _ | refine Below.alloc ?_ (by simp) _ | refine below_dN ?_ _ | refine Below.drew ?_))⟩
end Go.Proofs.Ytmgejacndhnikaa
namespace Go.Proofs.Ytmgejacndhnikaa
open Go.RowKit

/-- From place k the orders are ss, up to place m. -/
def Chain (l : List Int) : Nat → List Step → Nat → Prop
  | k, [], m => k = m
  | k, s :: r, m => ordIs l k ∧ s = ordOf (l.getD k 0) (l.getD (k + 1) 0) (l.getD (k + 2) 0) ∧ Chain l (k + (mSize (l.getD k 0)).toNat) r m
theorem chain_snoc {l : List Int} : ∀ {ss : List Step} {k m : Nat}, Chain l k ss m → ordIs l m → Chain l k (ss ++ [ordOf (l.getD m 0) (l.getD (m + 1) 0) (l.getD (m + 2) 0)]) (m + (mSize (l.getD m 0)).toNat)
  | [], k, m, h, hi => by have h : k = m := h
                          subst h; exact ⟨hi, rfl, rfl⟩
  | s :: r, k, m, ⟨h1, h2, h3⟩, hi => ⟨h1, h2, chain_snoc h3 hi⟩

def TextEnd (l : List Int) (w : World) (e : Ending) (w' : World) : Prop :=
  Below w.heap.size w w' ∧
    ((∃ v ss, e = .returned (.tuple #[v, .int .i64 0]) ∧ OwnSt w' w.heap.size 87 v ss ∧ Chain l 0 ss l.length ∧ l.length ≤ 400 ∧ ss.length ≤ l.length) ∨
     (e = .returned (.tuple #[.slice none 0 0, .int .i64 1]) ∧ 400 < l.length) ∨
     (e = .returned (.tuple #[.slice none 0 0, .int .i64 6]) ∧ l.length ≤ 400 ∧ ∃ ss k, Chain l 0 ss k ∧ k < l.length ∧ ¬ ordIs l k))

set_option maxHeartbeats 400000 in
theorem text_calls (A : Option Addr) (l : List Int) (cap : Nat) (w : World) (hA : RdBy w A l) (hl : bytesOk l) (hm : l.length ≤ maxLen) :
    Calls Try.prog 37 #[.slice A l.length cap] w (TextEnd l w) := by
  unfold maxLen at hm
  have HA := Lib.hid hA; clear hA
  have Hl := Lib.hid hl; clear hl
  by_cases hn : 400 < l.length
  · go_enter Try.func37, Try.ntmps37
    go_wp2
    go_ret2
    exact ⟨Below.refl _ _, .inr (.inl ⟨rfl, hn⟩)⟩
  have hn' : l.length ≤ 400 := by omega
  clear hn
  go_enter Try.func37, Try.ntmps37
  go_wp2
  go_loopw [4, 5] (fun v i wr => ∃ (k : Nat) (ss : List Step), k ≤ l.length ∧ i = .int .i64 k ∧ OwnSt wr w.heap.size 87 v ss ∧ Chain l 0 ss k ∧ ss.length ≤ k ∧ Below w.heap.size w wr) (fun _ i _ => l.length - (intOf i).toNat)
  case atStart => exact ⟨0, [], Nat.zero_le _, rfl, Own.nil_ _ _ _, rfl, Nat.le_refl _, Below.refl _ _⟩
  case round =>
    obtain ⟨k, ss, hk, rfl, hown, hch, hss, hW⟩ := hrel
    have hw1 := hW.size
    by_cases hlt : k < l.length
    · have hgd : l.getD k 0 = l[k] := by rw [List.getD_eq_getElem?_getD, List.getElem?_eq_getElem hlt]; rfl
      have hbd := mSize_bd l[k]
      by_cases hok : mSize l[k] ≠ 0 ∧ (k : Int) + mSize l[k] ≤ l.length
      · have hoi : ordIs l k := ⟨hlt, by rw [hgd]; exact hok.1, by rw [hgd]; exact hok.2⟩
        have hch' := chain_snoc hch hoi
        rw [hgd] at hch'
        have Hch := Lib.hid hch'
        have Hok := Lib.hid hok
        have Hown := Lib.hid hown
        have hok2 := hok.2
        have hok1 : 1 ≤ mSize l[k] := by have := hok.1; omega
        clear hch hch' hoi hok hown hgd
        have hcall := order_yes A l cap k wr (Rd.below HA.out hW) hn' Hl.out hlt Hok.out.1 Hok.out.2
        have Hcall := Lib.hid hcall
        clear hcall Hok
        generalize l[k] = b at *
        generalize l.getD (k + 1) 0 = x at *
        generalize l.getD (k + 2) 0 = y at *
        generalize ho : ordOf b x y = s at *
        have Ho := Lib.hid ho
        clear ho
        obtain ⟨s1, s2, s3, s4, s5⟩ := s
        go_wp2_with (first
          | (go_at_call 49; refine Hcall.out.mono ?_; rintro e w2 ⟨rfl, hW2⟩; have HW2 := Lib.hid hW2; clear hW2; unfold Step.agg)
          | (at_builtin; refine wpList_appSt rfl _ _ rfl w.heap.size _ _ ⟨s1, s2, s3, s4, s5⟩ rfl (((Hown.out.below HW2.out).alloc _).alloc _) _ _ rfl (cellSt_new _ _ _ _ _ (by simp) rfl) (by omega) (by have := HW2.out.size; simp; omega) ?_; intro v' w3 hown' hgrow))
        go_roundw
        case rel =>
          refine ⟨k + (mSize b).toNat, ss ++ [⟨s1, s2, s3, s4, s5⟩], by omega, by go_num, hown', Hch.out, by simp; omega, ?_⟩
          have h2 := HW2.out
          exact below_own (((hW.trans (h2.mono hw1)).alloc (by have := h2.size; omega) _).alloc (by have := h2.size; simp; omega) _) hgrow (((Hown.out.below h2).alloc _).alloc _) (Nat.le_refl _) (by have := h2.size; simp; omega)
        case measure => simp [intOf]; omega
      · have hno : ¬ ordIs l k := fun h => hok ⟨by have := h.2.1; rwa [hgd] at this, by have := h.2.2; rwa [hgd] at this⟩
        have hcall := order_no2 A l cap k wr (Rd.below HA.out hW) hn' Hl.out hlt (by omega)
        have Hcall := Lib.hid hcall
        have Hno := Lib.hid hno
        have Hch := Lib.hid hch
        clear hcall hok hgd hbd hno hch
        go_wp2_with (go_at_call 49; refine Hcall.out.mono ?_; rintro e w2 ⟨rfl, hW2⟩; have HW2 := Lib.hid hW2; clear hW2; unfold Step.agg)
        go_ret2
        exact ⟨(hW.trans (HW2.out.mono hw1)).alloc (by have := HW2.out.size; omega) _, .inr (.inr ⟨rfl, hn', ss, k, Hch.out, hlt, Hno.out⟩)⟩
    · have : k = l.length := by omega
      subst this
      go_wp2
      go_ret2
      exact ⟨hW, .inl ⟨_, _, rfl, hown, hch, hn', hss⟩⟩
end Go.Proofs.Ytmgejacndhnikaa
