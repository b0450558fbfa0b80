/- color.all, color.Clique, codemasonkeep.degree. -/
import Derived.Test.YtckmedmebabkjaaDoorColEp
import Derived.Test.YtckmedmebabkjaaDoorAndN
import Derived.Test.YtckmedmebabkjaaDoorOnes
import Derived.Test.YtckmedmebabkjaaDoorBits1
namespace Go.Proofs.YtckmedmebabkjaaDoor
set_option maxRecDepth 100000
open Go.RowKit

/-- Any two of s clash, by their words. -/
def AllQ (ws : List Nat) (s : Nat) : Prop := ∀ i, i < ws.length → s.testBit i = true → andN s (ws.getD i 0) = 2 ^ i
theorem allQ_iff {m : Nat} {ps : List (Int × Int)} (h : ClOk m ps) {s : Nat} (hs : s < 2 ^ m) : AllQ (clL m ps) s ↔ ∀ i j, s.testBit i = true → s.testBit j = true → i ≠ j → Cl ps i j := by
  have h8 : 2 ^ m ≤ 2 ^ 8 := Nat.pow_le_pow_right (by decide) h.n8
  have hs32 : s < 4294967296 := by omega
  unfold AllQ
  rw [clL_len]
  constructor
  · intro ha i j hi hj hne
    have him := bit_lt hs hi
    have : (andN s ((clL m ps).getD i 0)).testBit j = (2 ^ i).testBit j := congrArg (fun x => Nat.testBit x j) (ha i him hi)
    rw [andN_bit _ hs32, hj, Bool.true_and, testBit_pow, decide_eq_false hne] at this
    rw [← clL_bit h him]
    cases hb : ((clL m ps).getD i 0).testBit j
    · rw [hb] at this; cases this
    · rfl
  · intro ha i him hi
    refine set_ext fun j => ?_
    rw [andN_bit _ hs32, testBit_pow]
    by_cases e : i = j
    · subst e
      rw [hi, decide_eq_true rfl]
      have : ((clL m ps).getD i 0).testBit i = false := by
        cases hb : ((clL m ps).getD i 0).testBit i
        · rfl
        · exact absurd rfl (((clL_bit h him).1 hb).lt h).2.2
      rw [this]; rfl
    · rw [decide_eq_false e]
      cases hj : s.testBit j
      · rfl
      · rw [(clL_bit h him).2 (ha i j hi hj e)]; rfl
def AllEnd (ws : List Nat) (s : Nat) (w : World) (e : Ending) (w' : World) : Prop := w' = w ∧ ∃ b, e = .returned (.bool b) ∧ (b = true ↔ AllQ ws s)
set_option maxHeartbeats 4000000 in
theorem all_calls (A : Option Addr) (ws : List Nat) (cap s : Nat) (w : World) (hA : RdU w A ws) (h8 : ws.length ≤ 8) (hs : s < 256) (hws : ∀ x ∈ ws, x < 256) :
    Calls Tryd.prog 21 #[.slice A ws.length cap, .int .u32 s] w (AllEnd ws s w) := by
  have HA := Lib.hid hA
  have Hws := Lib.hid hws
  clear hA hws
  go_enter Tryd.func21, Tryd.ntmps21
  go_wp2
  go_loopw [9] (fun i wr => ∃ k : Nat, k ≤ ws.length ∧ i = .int .i64 k ∧ Hid (∀ i, i < k → s.testBit i = true → andN s (ws.getD i 0) = 2 ^ i) ∧ wr = w) (fun i _ => ws.length - (intOf i).toNat)
  case atStart => exact ⟨0, Nat.zero_le _, rfl, Lib.hid (fun i hi => by omega), rfl⟩
  case round =>
    obtain ⟨k, hk, rfl, HP, rfl⟩ := hrel
    by_cases hlt : k < ws.length
    · obtain ⟨b, off, rfl, hb, c0⟩ := RdU.at1 HA.out hlt
      have hx := Hws.out _ (List.getElem_mem hlt)
      have Hst : Hid ((s.testBit k = true → andN s ws[k] = 2 ^ k) → ∀ i, i < k + 1 → s.testBit i = true → andN s (ws.getD i 0) = 2 ^ i) := Lib.hid (fun h i hi hb => by
        rcases Nat.lt_or_ge i k with h1 | h1
        · exact HP.out i h1 hb
        · obtain rfl : i = k := by omega
          rw [List.getD_eq_getElem?_getD, List.getElem?_eq_getElem hlt]
          exact h hb)
      have Hno : Hid (s.testBit k = true → andN s ws[k] ≠ 2 ^ k → ¬ AllQ ws s) := Lib.hid (fun h1 h2 h3 => h2 (by
        have := h3 k hlt h1
        rw [List.getD_eq_getElem?_getD, List.getElem?_eq_getElem hlt] at this
        exact this))
      clear HP
      have hltz : ((k : Nat) : Int) < ((ws.length : Nat) : Int) := by omega
      have k32 : k < 32 := by omega
      have k8 : k < 8 := by omega
      generalize ws[k] = x at *
      clear hlt
      have p1 := test1_u32 s k (by omega)
      have p3 := pow_u32 k k32
      have pt : 2 ^ k < 2 ^ 8 := Nat.pow_lt_pow_right (by decide) k8
      have p4 := andN_u32 s x (by omega) (by omega)
      rw [Int.natCast_pow, show ((2 : Nat) : Int) = 2 from rfl] at p3
      cases hb1 : s.testBit k
      · rw [hb1] at p1
        have HS := Lib.hid (Hst.out (fun h => by rw [hb1] at h; cases h))
        clear Hst Hno hb1 p4
        go_wp2
        go_roundw
        case rel => exact ⟨k + 1, by omega, by go_num, HS, by first | rfl | trivial⟩
        case measure => simp [intOf]; omega
      · rw [hb1] at p1
        by_cases he : andN s x = 2 ^ k
        · have HS := Lib.hid (Hst.out (fun _ => he))
          have q1 : (((andN s x : Nat) : Int) != 2 ^ k) = false := by rw [bne_eq_false_iff_eq, he, Int.natCast_pow]; rfl
          clear Hst Hno hb1 he
          generalize andN s x = y at *
          go_wp2
          go_roundw
          case rel => exact ⟨k + 1, by omega, by go_num, HS, by first | rfl | trivial⟩
          case measure => simp [intOf]; omega
        · have HS := Lib.hid (Hno.out hb1 he)
          have q1 : (((andN s x : Nat) : Int) != 2 ^ k) = true := by
            rw [bne_iff_ne]
            intro e
            apply he
            have : ((andN s x : Nat) : Int) = ((2 ^ k : Nat) : Int) := by rw [e, Int.natCast_pow]; rfl
            omega
          clear Hst Hno hb1 he
          generalize andN s x = y at *
          go_wp2
          go_ret
          exact ⟨rfl, false, rfl, ⟨fun h => (by cases h), fun h => absurd h HS.out⟩⟩
    · have hke : k = ws.length := by omega
      go_wp2
      go_ret
      exact ⟨rfl, true, rfl, ⟨fun _ i hi => HP.out i (by omega), fun _ => rfl⟩⟩
/-- What Clique says. -/
structure BestQ (m : Nat) (ps : List (Int × Int)) (q t : Nat) : Prop where
  lt : q < 2 ^ m
  all : AllQ (clL m ps) q
  best : ∀ u, u < t → AllQ (clL m ps) u → cnt8 u ≤ cnt8 q
def CliqueE (n : Int) (ps : List (Int × Int)) (w : World) (e : Ending) (w' : World) : Prop :=
  Below w.heap.size w w' ∧ ((clErr n ps ≠ 0 ∧ ∃ E : Int, E ≠ 0 ∧ e = .returned (.tuple #[.int .u32 0, .int .i64 E])) ∨
    (∃ m q : Nat, n = m ∧ ClOk m ps ∧ e = .returned (.tuple #[.int .u32 q, .int .i64 0]) ∧ BestQ m ps q (2 ^ m)))
set_option maxHeartbeats 4000000 in
theorem clique_calls (n : Int) (A : Option Addr) (ps : List (Int × Int)) (cap : Nat) (w : World) (hA : RdP w A ps) (hm : ps.length ≤ maxLen) :
    Calls Tryd.prog 13 #[.int .i64 n, .slice A ps.length cap] w (CliqueE n ps w) := by
  have HA := Lib.hid hA; clear hA
  go_enter Tryd.func13, Tryd.ntmps13
  go_wp2_with fail
  refine (clashes_any _ _ _ _ _ HA.out hm).mono ?_
  rintro e w1 ⟨v, rfl, hW, hr⟩
  have HW := Lib.hid hW
  have hw1 := hW.size
  clear hW
  rcases hr with ⟨h0, rfl⟩ | ⟨m, rfl, hok, hown⟩
  · have q : (clErr n ps != 0) = true := by rw [bne_iff_ne]; exact h0
    have H0 := Lib.hid h0
    clear h0
    go_wp2
    go_ret2
    exact ⟨HW.out, .inl ⟨H0.out, _, H0.out, rfl⟩⟩
  · rw [hok.err]
    have Hok := Lib.hid hok
    have h8 := hok.n8
    obtain ⟨B, capB, rfl, hR⟩ := hown.rd
    have HR := Lib.hid hR
    have Hal := Lib.hid (fun (s : Nat) (w : World) (h : RdU w B (clL m ps)) (hs : s < 256) => all_calls B (clL m ps) capB s w h (by rw [clL_len]; exact h8) hs (fun x hx => by
      obtain ⟨i, hi, rfl⟩ := List.getElem_of_mem hx
      rw [clL_get]; exact clS_lt _ _))
    have m32 : m < 32 := by omega
    have p1 := pow_u32 m m32
    have pm : 2 ^ m ≤ 2 ^ 8 := Nat.pow_le_pow_right (by decide) h8
    have H0 : Hid (BestQ m ps 0 0) := Lib.hid ⟨Nat.two_pow_pos m, fun i _ h => (by rw [Nat.zero_testBit] at h; cases h), fun u hu => by omega⟩
    have HBn : Hid (∀ q t, BestQ m ps q t → (AllQ (clL m ps) t → cnt8 t ≤ cnt8 q) → BestQ m ps q (t + 1)) := Lib.hid (fun q t h1 h2 => ⟨h1.lt, h1.all, fun u hu ha => by
      rcases Nat.lt_or_ge u t with h | h
      · exact h1.best u h ha
      · obtain rfl : u = t := by omega
        exact h2 ha⟩)
    have HBt : Hid (∀ q t, BestQ m ps q t → t < 2 ^ m → AllQ (clL m ps) t → cnt8 q < cnt8 t → BestQ m ps t (t + 1)) := Lib.hid (fun q t h1 h0 h2 h3 => ⟨h0, h2, fun u hu ha => by
      rcases Nat.lt_or_ge u t with h | h
      · have := h1.best u h ha; omega
      · obtain rfl : u = t := by omega
        exact Nat.le_refl _⟩)
    have hlb : ∀ q t, BestQ m ps q t → q < 256 := fun q t h => by have := h.lt; omega
    have Hlb := Lib.hid hlb
    rw [Int.natCast_pow, show ((2 : Nat) : Int) = 2 from rfl] at p1
    have pz : ((2 : Int) ^ m) = ((2 ^ m : Nat) : Int) := by rw [Int.natCast_pow]; rfl
    rw [pz] at p1
    clear hok hown hR hlb
    rw [clL_len] at Hal
    generalize hM : 2 ^ m = M at *
    have HM := Lib.hid hM
    clear hM
    have p1' : (2 : Int) ^ m % 4294967296 = (M : Int) := by rw [pz]; omega
    rw [clL_len]
    clear pz p1
    go_wp2
    rw [p1']
    go_loopw [8, 21] (fun q t wr => ∃ (b s : Nat), s ≤ M ∧ q = .int .u32 b ∧ t = .int .u32 s ∧ Hid (BestQ m ps b s) ∧ Hid (Below w1.heap.size w1 wr)) (fun _ t _ => M - (intOf t).toNat)
    case atStart => exact ⟨0, 0, Nat.zero_le _, rfl, rfl, H0, Lib.hid (Below.refl _ _)⟩
    case round =>
      clear H0
      obtain ⟨b, s, hs, rfl, rfl, HB, HW2⟩ := hrel
      have hb8 := Hlb.out _ _ HB.out
      by_cases hlt : s < M
      · have q1 : ((s : Nat) : Int) < ((M : Nat) : Int) := by omega
        have q2 : ((s : Int) + 1) % 4294967296 = ((s + 1 : Nat) : Int) := by omega
        have Hs1 := Lib.hid (fun w => ones_calls s w (by omega))
        have Hb1 := Lib.hid (fun w => ones_calls b w hb8)
        have hs8 : s < 256 := by omega
        by_cases hc : cnt8 b < cnt8 s
        · have q3 : decide (((cnt8 s : Nat) : Int) > ((cnt8 b : Nat) : Int)) = true := decide_eq_true (by omega)
          have q4 : ((cnt8 b : Nat) : Int) < ((cnt8 s : Nat) : Int) := by omega
          have HN := Lib.hid (HBn.out b s HB.out)
          have HT := Lib.hid (fun h1 h2 => HBt.out b s HB.out h1 h2 hc)
          clear HBn HBt hc
          generalize cnt8 s = cs at *
          generalize cnt8 b = cb at *
          have Hall := Lib.hid (fun (w' : World) (hb : Below w1.heap.size w1 w') => Hal.out s w' (Rd.below HR.out hb) hs8)
          have HWd := Lib.hid (fun k => below_dN HW2.out k)
          clear Hal
          go_wp2_with (first
            | (go_at_call 22; with_reducible refine (Hs1.out _).mono ?_; rintro e w9 ⟨rfl, nq1, rfl⟩)
            | (go_at_call 22; with_reducible refine (Hb1.out _).mono ?_; rintro e w9 ⟨rfl, nq2, rfl⟩)
            | fail)
          refine (Hall.out _ (HWd.out _)).mono ?_
          rintro e w10 ⟨rfl, r, rfl, hr⟩
          cases r
          · have HB2 := Lib.hid (HN.out (fun h => absurd (hr.2 h) (by decide)))
            clear hr HN HT
            go_wp2
            go_roundw
            case rel => exact ⟨b, s + 1, by omega, rfl, by first | rfl | rw [q2] | go_num, HB2, Lib.hid (HWd.out _)⟩
            case measure => simp [intOf]; omega
          · have HB2 := Lib.hid (HT.out hlt (hr.1 rfl))
            clear hr HN HT
            go_wp2
            go_roundw
            case rel => exact ⟨s, s + 1, by omega, rfl, by first | rfl | rw [q2] | go_num, HB2, Lib.hid (HWd.out _)⟩
            case measure => simp [intOf]; omega
        · have q3 : decide (((cnt8 s : Nat) : Int) > ((cnt8 b : Nat) : Int)) = false := decide_eq_false (by omega)
          have q4 : ((cnt8 s : Nat) : Int) ≤ ((cnt8 b : Nat) : Int) := by omega
          have HB2 := Lib.hid (HBn.out b s HB.out (fun _ => by omega))
          have HWd := Lib.hid (fun k => below_dN HW2.out k)
          clear HBn HBt hc Hal
          generalize cnt8 s = cs at *
          generalize cnt8 b = cb at *
          go_wp2_with (first
            | (go_at_call 22; with_reducible refine (Hs1.out _).mono ?_; rintro e w9 ⟨rfl, nq1, rfl⟩)
            | (go_at_call 22; with_reducible refine (Hb1.out _).mono ?_; rintro e w9 ⟨rfl, nq2, rfl⟩))
          go_roundw
          case rel => exact ⟨b, s + 1, by omega, rfl, by first | rfl | rw [q2] | go_num, HB2, Lib.hid (HWd.out _)⟩
          case measure => simp [intOf]; omega
      · have hke : s = M := by omega
        subst hke
        have Hend : Hid (BestQ m ps b (2 ^ m)) := Lib.hid (by rw [HM.out]; exact HB.out)
        clear HB HBn HBt
        go_wp2
        go_ret2
        exact ⟨HW.out.trans (HW2.out.mono hw1), .inr ⟨m, b, rfl, Hok.out, rfl, Hend.out⟩⟩
open Classical in
noncomputable def degK (ps : List (Int × Int)) (i k : Nat) : Nat := ((List.range k).filter fun j => decide (Cl ps i j)).length
open Classical in
theorem degK_succ (ps : List (Int × Int)) (i k : Nat) : degK ps i (k + 1) = degK ps i k + if Cl ps i k then 1 else 0 := by
  unfold degK
  rw [List.range_succ, List.filter_append, List.length_append, List.filter_cons]
  by_cases h : Cl ps i k
  · rw [if_pos h, if_pos (decide_eq_true h)]; rfl
  · rw [if_neg h, if_neg (by rw [decide_eq_false h]; decide)]; rfl
open Classical in
theorem degK_le (ps : List (Int × Int)) (i k : Nat) : degK ps i k ≤ k := by
  unfold degK
  have := List.length_filter_le (fun j => decide (Cl ps i j)) (List.range k)
  simpa using this
set_option maxHeartbeats 4000000 in
theorem degree_calls (m : Nat) (A : Option Addr) (ps : List (Int × Int)) (cap i : Nat) (w : World) (hA : RdP w A ps) (hm : ps.length ≤ maxLen) (h8 : m ≤ 8) :
    Calls Tryd.prog 9 #[.int .i64 (m : Nat), .slice A ps.length cap, .int .i64 (i : Nat)] w fun e w' => e = .returned (.int .i64 (degK ps i m : Nat)) ∧ Below w.heap.size w w' := by
  have HA := Lib.hid hA; clear hA
  go_enter Tryd.func9, Tryd.ntmps9
  go_wp2
  go_loopw [7, 8] (fun n j wr => ∃ k : Nat, k ≤ m ∧ j = .int .i64 k ∧ n = .int .i64 (degK ps i k : Nat) ∧ Hid (Below w.heap.size w wr)) (fun _ j _ => m - (intOf j).toNat)
  case atStart => exact ⟨0, Nat.zero_le _, rfl, rfl, Lib.hid (Below.refl _ _)⟩
  case round =>
    obtain ⟨k, hk, rfl, rfl, HW⟩ := hrel
    have hw := HW.out.size
    by_cases hlt : k < m
    · have q1 : ((k : Nat) : Int) < ((m : Nat) : Int) := by omega
      have hd := degK_le ps i k
      by_cases hc : Cl ps i k
      · have Hn := Lib.hid (show degK ps i (k + 1) = degK ps i k + 1 by rw [degK_succ, if_pos hc])
        have Hcl := Lib.hid (clash_calls A ps cap i k wr (Rd.below HA.out HW.out) hm true ⟨fun _ => hc, fun _ => rfl⟩)
        clear hc
        generalize degK ps i k = z at *
        go_wp2_with (go_at_call 10; refine Hcl.out.mono ?_; rintro e w2 ⟨rfl, hb⟩; have HW2 := Lib.hid (HW.out.trans (hb.mono hw)); clear hb)
        go_roundw
        case rel => exact ⟨k + 1, by omega, by go_num, by rw [Hn.out]; go_num, HW2⟩
        case measure => simp [intOf]; omega
      · have Hn := Lib.hid (show degK ps i (k + 1) = degK ps i k by rw [degK_succ, if_neg hc]; rfl)
        have Hcl := Lib.hid (clash_calls A ps cap i k wr (Rd.below HA.out HW.out) hm false ⟨fun h => (by cases h), fun h => absurd h hc⟩)
        clear hc
        generalize degK ps i k = z at *
        go_wp2_with (go_at_call 10; refine Hcl.out.mono ?_; rintro e w2 ⟨rfl, hb⟩; have HW2 := Lib.hid (HW.out.trans (hb.mono hw)); clear hb)
        go_roundw
        case rel => exact ⟨k + 1, by omega, by go_num, by rw [Hn.out], HW2⟩
        case measure => simp [intOf]; omega
    · have hke : k = m := by omega
      subst hke
      have hz : degK ps i k = degK ps i k := rfl
      generalize hzz : degK ps i k = z at *
      have Hz := Lib.hid hzz
      clear hzz hz
      go_wp2
      go_ret
      exact ⟨by rw [Hz.out]; rfl, HW.out⟩
end Go.Proofs.YtckmedmebabkjaaDoor
