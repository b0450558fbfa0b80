/- term.Uses walked. -/
import Derived.Test.YtmglhppfdhphbaaUsedA
import Derived.Test.YtmglhppfdhphbaaSets
namespace Go.Proofs.Ytmglhppfdhphbaa
open Go.RowKit

/-- The variables that the first k terms use, of those that the last one needs. -/
noncomputable def uW (l : List Term) (k : Nat) : Nat := setN fun v => ∃ i, i < k ∧ i < l.length ∧ Us l i ∧ (l.getD i ⟨0, 0, 0, 0⟩).op = 2 ∧ (l.getD i ⟨0, 0, 0, 0⟩).val = (v : Int)
section
variable {l : List Term} {vars : Int}
theorem uW_zero : uW l 0 = 0 := setN_false fun k _ h => by obtain ⟨i, h, _⟩ := h; omega
theorem uW_lt (k : Nat) : uW l k < 256 := setN_lt _
theorem uW_yes {k v : Nat} (hk : k < l.length) (hu : Us l k) (h2 : (l.getD k ⟨0, 0, 0, 0⟩).op = 2) (ev : (l.getD k ⟨0, 0, 0, 0⟩).val = (v : Int)) (hv : v < 8) : uW l k ||| 2 ^ v = uW l (k + 1) := by
  refine setN_ext fun j => ?_
  rw [set_bit, Bool.or_eq_true, decide_eq_true_eq]
  unfold uW
  rw [setN_bit]
  constructor
  · rintro (⟨h8, i, h1, h⟩ | rfl)
    · exact ⟨h8, i, by omega, h⟩
    · exact ⟨hv, k, by omega, hk, hu, h2, ev⟩
  · rintro ⟨h8, i, h1, h3, h4, h5, h6⟩
    by_cases e : i = k
    · subst e; exact Or.inr (by omega)
    · exact Or.inl ⟨h8, i, by omega, h3, h4, h5, h6⟩
theorem uW_no {k : Nat} (h : ¬ (Us l k ∧ (l.getD k ⟨0, 0, 0, 0⟩).op = 2)) : uW l k = uW l (k + 1) := by
  refine setN_congr fun j _ => ⟨fun ⟨i, h1, h2⟩ => ⟨i, by omega, h2⟩, fun ⟨i, h1, h2, h3, h4, h5⟩ => ?_⟩
  by_cases e : i = k
  · subst e; exact absurd ⟨h3, h4⟩ h
  · exact ⟨i, by omega, h2, h3, h4, h5⟩
theorem uW_bit (k j : Nat) : (uW l k).testBit j = true ↔ j < 8 ∧ ∃ i, i < k ∧ i < l.length ∧ Us l i ∧ (l.getD i ⟨0, 0, 0, 0⟩).op = 2 ∧ (l.getD i ⟨0, 0, 0, 0⟩).val = (j : Int) := setN_bit _ j
end
set_option maxHeartbeats 2000000 in
theorem uses_ok (vars : Int) (A : Option Addr) (l : List Term) (cap : Nat) (w : World) (hA : RdT w A l) (h0 : tErr vars l = 0) :
    Calls Try.prog 26 #[.int .i64 vars, .slice A l.length cap] w fun e w' => e = .returned (.tuple #[.int .u32 (uW l l.length : Nat), .int .i64 0]) ∧ Below w.heap.size w w' := by
  obtain ⟨hv0, hv6, h1, h16, hok⟩ := tErr_ok h0
  have HA := Lib.hid hA; clear hA
  have Hok := Lib.hid hok; clear hok
  have H0 := Lib.hid h0; clear h0
  go_enter Try.func26, Try.ntmps26
  go_wp2_with (first
    | (go_at_call 37; refine (check_calls vars A l cap w HA.out (by unfold maxLen; omega)).mono ?_; rintro e w1 ⟨rfl, hW⟩; rw [H0.out]; have HW1 := Lib.hid hW; have HA1 := Lib.hid (Rd.below HA.out hW); clear hW)
    | (go_at_call 48; refine (used_calls vars A l cap w1 HA1.out h1 h16 Hok.out).mono ?_
       rintro e w2 ⟨v, r, rfl, hO, hrl, hU, hW2⟩
       have hw1 := HW1.out.size
       have HW2 := Lib.hid (HW1.out.trans (hW2.mono hw1))
       have HA2 := Lib.hid (Rd.below HA1.out hW2)
       have HU := Lib.hid hU
       obtain ⟨g9, c9, rfl, hg9, hg9', _, hfz, hcell⟩ := OwnBo.at_ hO (by omega)
       rw [hrl]
       have Hcell : Hid (∀ k, k < l.length → w2.cell? ⟨g9, k, none⟩ = some (.bool (r.getD k false))) := Lib.hid fun k hk => by
         rw [hcell k (by omega), List.getD_eq_getElem?_getD, List.getElem?_eq_getElem (by omega)]; rfl
       clear hO hU hW2 hfz hcell))
  go_loopw [7, 19] (fun s i wr => ∃ k : Nat, k ≤ l.length ∧ i = .int .i64 k ∧ s = .int .u32 (uW l k : Nat) ∧ wr = w2) (fun _ i _ => l.length - (intOf i).toNat)
  case atStart => exact ⟨0, Nat.zero_le _, rfl, by rw [uW_zero]; rfl, rfl⟩
  case round =>
    obtain ⟨k, hk, rfl, rfl, rfl⟩ := hrel
    by_cases hlt : k < l.length
    · obtain ⟨b, off, rfl, hb, c0, c1, c2, c3⟩ := RdT.at4 HA2.out hlt
      have c5 := Hcell.out k hlt
      have q1 : ((k : Nat) : Int) < ((l.length : Nat) : Int) := by omega
      have hgx : l.getD k ⟨0, 0, 0, 0⟩ = l[k] := getD_at hlt
      have HY := Lib.hid (fun v => @uW_yes l k v hlt)
      have HN := Lib.hid (@uW_no l k)
      have hUk := HU.out k
      obtain ⟨o1, o6, _, hov, _⟩ := Hok.out k hlt
      rw [hgx] at HY HN
      have u8 := uW_lt (l := l) k
      generalize l[k] = t at *
      generalize uW l k = u at *
      by_cases hr : r.getD k false = true
      · have hu := hUk.1 hr
        rw [hr] at c5
        by_cases h2 : t.op = 2
        · obtain ⟨v0, v1⟩ := hov h2
          obtain ⟨v, ev⟩ := Int.eq_ofNat_of_zero_le v0
          have hv8 : v < 8 := by omega
          have hy := HY.out v hu h2 ev hv8
          rw [ev] at c3
          have v32 : v < 32 := by omega
          have r1 := pow_u32 v v32
          have pv : 2 ^ v < 2 ^ 8 := Nat.pow_lt_pow_right (by decide) hv8
          have r2 := or_u32 u (2 ^ v) (by omega) (by omega)
          rw [hy] at r2
          rw [Int.natCast_pow, show ((2 : Nat) : Int) = 2 from rfl] at r1 r2
          have q2 : (t.op == 2) = true := by rw [beq_iff_eq]; exact h2
          clear pv hy HY HN hUk
          go_wp2
          go_roundw
          case rel => exact ⟨k + 1, by omega, by go_num, by first | rfl | trivial, by first | trivial | rfl⟩
          case measure => simp [intOf]; omega
        · have hn := HN.out (fun h => h2 h.2)
          have q2 : (t.op == 2) = false := by rw [beq_eq_false_iff_ne]; exact h2
          clear HY HN hUk
          go_wp2
          go_roundw
          case rel => exact ⟨k + 1, by omega, by go_num, by rw [hn], by first | trivial | rfl⟩
          case measure => simp [intOf]; omega
      · have hn := HN.out (fun h => hr (hUk.2 h.1))
        have hr' : r.getD k false = false := by simpa using hr
        rw [hr'] at c5
        clear HY HN hUk
        go_wp2
        go_roundw
        case rel => exact ⟨k + 1, by omega, by go_num, by rw [hn], by first | trivial | rfl⟩
        case measure => simp [intOf]; omega
    · have : k = l.length := by omega
      subst this
      go_wp2
      go_ret2
      exact ⟨rfl, HW2.out⟩
theorem uses_bad (vars : Int) (A : Option Addr) (l : List Term) (cap : Nat) (w : World) (hA : RdT w A l) (hm : l.length ≤ maxLen) (h0 : tErr vars l ≠ 0) :
    Calls Try.prog 26 #[.int .i64 vars, .slice A l.length cap] w fun e w' => e = .returned (.tuple #[.int .u32 0, .int .i64 (tErr vars l)]) ∧ Below w.heap.size w w' := by
  have HA := Lib.hid hA; clear hA
  have hd : (tErr vars l != 0) = true := by rw [bne_iff_ne]; exact h0
  clear h0
  go_enter Try.func26, Try.ntmps26
  go_wp2_with (go_at_call 37; refine (check_calls vars A l cap w HA.out hm).mono ?_; rintro e w1 ⟨rfl, hW⟩; have HW1 := Lib.hid hW; clear hW)
  go_ret2
  exact ⟨rfl, HW1.out⟩
end Go.Proofs.Ytmglhppfdhphbaa
