/- stack.wrong, stack.Deep walked. -/
import Derived.Test.YtmglhppfdhphbaaStkP
import Derived.BigGuardPart
namespace Go.Proofs.Ytmglhppfdhphbaa
open Go.RowKit

theorem sErrs_drop {vars d : Int} {l : List SOp} {k : Nat} {E : Int} (hk : k < l.length) (h0 : sErrs vars d (l.drop k) = E) :
    (sErr1 vars d l[k] ≠ 0 → E = sErr1 vars d l[k]) ∧ (sErr1 vars d l[k] = 0 → sErrs vars (sNext d l[k]) (l.drop (k + 1)) = E) := by
  rw [List.drop_eq_getElem_cons hk, show ∀ s r, sErrs vars d (s :: r) = if sErr1 vars d s = 0 then sErrs vars (sNext d s) r else sErr1 vars d s from fun _ _ => rfl] at h0
  constructor
  · intro h; rw [if_neg h] at h0; exact h0.symm
  · intro h; rw [if_pos h] at h0; exact h0
theorem sErr1_6 {vars d op val : Int} (h : op < 1 ∨ 6 < op) : sErr1 vars d ⟨op, val⟩ = 6 := by unfold sErr1; rw [if_pos h]
theorem sErr1_4 {vars d op val : Int} (h1 : 1 ≤ op) (h2 : op ≤ 2) (h : 0 ≤ vars ∧ (val < 0 ∨ op = 1 ∧ 255 < val ∨ op = 2 ∧ vars ≤ val)) : sErr1 vars d ⟨op, val⟩ = 4 := by
  unfold sErr1; rw [if_neg (by dsimp only; omega), if_pos h2, if_pos h]
theorem sErr1_5 {vars d op val : Int} (h1 : 2 < op) (h2 : op ≤ 6) (h : d < 2) : sErr1 vars d ⟨op, val⟩ = 5 := by
  unfold sErr1; rw [if_neg (by dsimp only; omega), if_neg (by dsimp only; omega), if_pos h]

set_option maxRecDepth 100000 in
set_option maxHeartbeats 4000000 in
theorem stkWrong_calls (vars : Int) (A : Option Addr) (l : List SOp) (cap : Nat) (w : World) (hA : RdS w A l) (hm : l.length ≤ maxLen) :
    Calls Try.prog 50 #[.int .i64 vars, .slice A l.length cap] w fun e w' => e = .returned (.int .i64 (sErr vars l)) ∧ Below w.heap.size w w' := by
  unfold maxLen at hm
  by_cases hv : 6 < vars
  · have hd : decide (6 < vars) = true := decide_eq_true hv
    go_enter Try.func50, Try.ntmps50
    go_wp2
    go_ret
    exact ⟨ret_int (by unfold sErr; rw [if_pos (Or.inl hv)]), Below.refl _ _⟩
  have hd : decide (6 < vars) = false := decide_eq_false hv
  by_cases hn : 40 < l.length
  · have hd2 : decide (40 < (l.length : Int)) = true := decide_eq_true (by omega)
    go_enter Try.func50, Try.ntmps50
    go_wp2
    go_ret
    exact ⟨ret_int (by unfold sErr; rw [if_pos (Or.inr hn)]), Below.refl _ _⟩
  have hd2 : decide (40 < (l.length : Int)) = false := decide_eq_false (by omega)
  have Hfin : Hid (sErrs vars 0 l = sErr vars l) := Lib.hid (by unfold sErr; rw [if_neg (by omega)])
  have hn' : l.length ≤ 40 := by omega
  have HA := Lib.hid hA
  clear hA hn
  go_enter Try.func50, Try.ntmps50
  go_wp2
  go_loopw [5, 17] (fun dv i wr => ∃ (k : Nat) (d : Int), k ≤ l.length ∧ i = .int .i64 k ∧ dv = .int .i64 d ∧ (0 ≤ d ∧ d ≤ k) ∧ Hid (sErrs vars d (l.drop k) = sErr vars l) ∧ Below w.heap.size w wr) (fun _ i _ => l.length - (intOf i).toNat)
  case atStart => exact ⟨0, 0, Nat.zero_le _, rfl, rfl, by omega, Hfin, Below.refl _ _⟩
  case round =>
    obtain ⟨k, d, hk, rfl, rfl, ⟨hd0, hd1⟩, hE, hW⟩ := hrel
    have HW := Lib.hid hW
    have hw1 := hW.size
    by_cases hlt : k < l.length
    · obtain ⟨b, off, rfl, hb, c0, c1⟩ := RdS.at2 (Rd.below HA.out hW) hlt
      have HS := Lib.hid (sErrs_drop hlt hE.out)
      have q1 : ((k : Nat) : Int) < ((l.length : Nat) : Int) := by omega
      have HWa := Lib.hid (fun o : Int => HW.out.alloc hw1 (.cells #[.int .i64 o, .int .i64 l[k].val] 62))
      clear hW hE
      generalize l[k] = s at *
      obtain ⟨op, val⟩ := s
      dsimp only at c0 c1 HWa
      by_cases h6 : op < 1 ∨ 6 < op
      · have h4 : sErr1 vars d ⟨op, val⟩ = 6 := sErr1_6 h6
        have hx := HS.out.1 (by rw [h4]; decide)
        rw [h4] at hx
        have Hx := Lib.hid hx
        clear hx h4 HS
        go_wp2
        all_goals
          go_ret
          exact ⟨ret_int Hx.out.symm, HWa.out _⟩
      have h1 : 1 ≤ op := by omega
      have h6' : op ≤ 6 := by omega
      clear h6
      by_cases h2 : op ≤ 2
      · by_cases hb : 0 ≤ vars ∧ (val < 0 ∨ op = 1 ∧ 255 < val ∨ op = 2 ∧ vars ≤ val)
        · have h4 : sErr1 vars d ⟨op, val⟩ = 4 := sErr1_4 h1 h2 hb
          have hx := HS.out.1 (by rw [h4]; decide)
          rw [h4] at hx
          have Hx := Lib.hid hx
          clear hx h4 HS
          go_wp2
          all_goals first
            | (exfalso; omega)
            | (go_ret; exact ⟨ret_int Hx.out.symm, HWa.out _⟩)
        · have hx := HS.out.2 (sErr1_leaf (s := ⟨op, val⟩) h1 h2 hb)
          rw [sNext_leaf (s := ⟨op, val⟩) h2] at hx
          have Hx := Lib.hid hx
          clear hx HS
          go_wp2
          all_goals first
            | (exfalso; omega)
            | (go_roundw
               case rel => exact ⟨k + 1, d + 1, by omega, by go_num, by first | rfl | go_num, by omega, Hx, HWa.out _⟩
               case measure => simp [intOf]; omega)
      · by_cases hd2 : d < 2
        · have h4 : sErr1 vars d ⟨op, val⟩ = 5 := sErr1_5 (by omega) h6' hd2
          have hx := HS.out.1 (by rw [h4]; decide)
          rw [h4] at hx
          have Hx := Lib.hid hx
          clear hx h4 HS
          go_wp2
          all_goals first
            | (exfalso; omega)
            | (go_ret; exact ⟨ret_int Hx.out.symm, HWa.out _⟩)
        · have hx := HS.out.2 (sErr1_node (s := ⟨op, val⟩) (by exact Int.not_le.1 h2) h6' (by omega))
          rw [sNext_node (s := ⟨op, val⟩) (by exact Int.not_le.1 h2)] at hx
          have Hx := Lib.hid hx
          clear hx HS
          go_wp2
          all_goals first
            | (exfalso; omega)
            | (go_roundw
               case rel => exact ⟨k + 1, d - 1, by omega, by go_num, by first | rfl | go_num, by omega, Hx, HWa.out _⟩
               case measure => simp [intOf]; omega)
    · have : k = l.length := by omega
      subst this
      go_wp2
      go_ret
      exact ⟨ret_int (by rw [← hE.out, List.drop_length]; rfl), HW.out⟩

theorem sMost_drop {d m : Int} {l : List SOp} {k : Nat} {E : Int} (hk : k < l.length) (h0 : sMost d m (l.drop k) = E) : sMost (sNext d l[k]) (if l[k].op ≤ 2 then max m (d + 1) else m) (l.drop (k + 1)) = E := by
  rw [List.drop_eq_getElem_cons hk] at h0; exact h0
set_option maxRecDepth 100000 in
set_option maxHeartbeats 4000000 in
theorem deep_ok (A : Option Addr) (l : List SOp) (cap : Nat) (w : World) (hA : RdS w A l) (hm : l.length ≤ maxLen) (h0 : sErr (-1) l = 0) :
    Calls Try.prog 31 #[.slice A l.length cap] w fun e w' => e = .returned (.tuple #[.int .i64 (sMost 0 0 l), .int .i64 0]) ∧ Below w.heap.size w w' := by
  have hn : l.length ≤ 40 := by
    unfold sErr at h0
    by_cases h : 6 < (-1 : Int) ∨ 40 < l.length
    · rw [if_pos h] at h0; cases h0
    · omega
  have HA := Lib.hid hA
  have H0 := Lib.hid h0
  clear hA h0
  go_enter Try.func31, Try.ntmps31
  go_wp2_with (go_at_call 50; refine (stkWrong_calls _ A l cap w HA.out hm).mono ?_; rintro e w1 ⟨rfl, hW⟩; rw [H0.out]; have HW1 := Lib.hid hW; clear hW)
  go_loopw [5, 6, 16] (fun dv mv i wr => ∃ (k : Nat) (d m : Int), k ≤ l.length ∧ i = .int .i64 k ∧ dv = .int .i64 d ∧ mv = .int .i64 m ∧ (-(k : Int) ≤ d ∧ d ≤ k) ∧ (0 ≤ m ∧ m ≤ k) ∧ Hid (sMost d m (l.drop k) = sMost 0 0 l) ∧ Below w.heap.size w wr) (fun _ _ i _ => l.length - (intOf i).toNat)
  case atStart => exact ⟨0, 0, 0, Nat.zero_le _, rfl, rfl, rfl, by omega, by omega, Lib.hid rfl, HW1.out⟩
  case round =>
    obtain ⟨k, d, m, hk, rfl, rfl, rfl, ⟨hd0, hd1⟩, ⟨hm0, hm1⟩, hE, hW⟩ := hrel
    have HW := Lib.hid hW
    have hw1 := hW.size
    by_cases hlt : k < l.length
    · obtain ⟨b, off, rfl, hb, c0, c1⟩ := RdS.at2 (Rd.below HA.out hW) hlt
      have HS := Lib.hid (sMost_drop hlt hE.out)
      have q1 : ((k : Nat) : Int) < ((l.length : Nat) : Int) := by omega
      have HWa := Lib.hid (HW.out.alloc hw1 (.cells #[.int .i64 l[k].op, .int .i64 l[k].val] 62))
      clear hW hE
      generalize l[k] = s at *
      obtain ⟨op, val⟩ := s
      dsimp only at c0 c1 HWa HS
      by_cases h2 : 2 < op
      · have hx := HS.out
        rw [sNext_node (by exact h2), if_neg (by omega)] at hx
        have Hx := Lib.hid hx
        have hd : decide (2 < op) = true := decide_eq_true h2
        clear hx HS
        go_wp2
        go_roundw
        case rel => exact ⟨k + 1, d - 1, m, by omega, by go_num, by first | rfl | go_num, rfl, by omega, by omega, Hx, HWa.out⟩
        case measure => simp [intOf]; omega
      · have hx := HS.out
        rw [sNext_leaf (by dsimp only; omega), if_pos (by omega)] at hx
        have Hx := Lib.hid hx
        have hd : decide (2 < op) = false := decide_eq_false h2
        clear hx HS
        go_wp2
        go_roundw
        case rel => exact ⟨k + 1, d + 1, max m (d + 1), by omega, by go_num, by first | rfl | go_num, by first | rfl | go_num, by omega, by omega, Hx, HWa.out⟩
        case measure => simp [intOf]; omega
    · have : k = l.length := by omega
      subst this
      go_wp2
      go_ret2
      exact ⟨by rw [← hE.out, List.drop_length]; rfl, HW.out⟩
end Go.Proofs.Ytmglhppfdhphbaa
