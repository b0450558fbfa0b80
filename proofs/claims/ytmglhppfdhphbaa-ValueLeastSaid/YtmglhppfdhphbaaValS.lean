/- value.Same. -/
import Derived.Test.YtmglhppfdhphbaaValA
namespace Go.Proofs.Ytmglhppfdhphbaa
open Go.RowKit

set_option maxHeartbeats 1000000 in
theorem same_bad1 (vars i j : Int) (A : Option Addr) (l : List Term) (cap : Nat) (w : World) (hA : RdT w A l) (hm : l.length ≤ maxLen) (h0 : tErr vars l ≠ 0) :
    Calls Try.prog 14 #[.int .i64 vars, .slice A l.length cap, .int .i64 i, .int .i64 j] w fun e w' => e = .returned (.tuple #[.bool false, .int .i64 (tErr vars l)]) ∧ Below w.heap.size w w' := by
  have q : (tErr vars l != 0) = true := by rw [bne_iff_ne]; exact h0
  have HA := Lib.hid hA
  clear hA h0
  go_enter Try.func14, Try.ntmps14
  go_wp2_with (go_at_call 37; refine (check_calls _ _ _ _ _ HA.out hm).mono ?_; rintro e w' ⟨rfl, hW⟩; have HW := Lib.hid hW; clear hW)
  go_ret2
  exact ⟨rfl, HW.out⟩
set_option maxHeartbeats 1000000 in
theorem same_bad2 (vars i j : Int) (A : Option Addr) (l : List Term) (cap : Nat) (w : World) (hA : RdT w A l) (hm : l.length ≤ maxLen) (h0 : tErr vars l = 0) (hij : i < 0 ∨ j < 0 ∨ (l.length : Int) ≤ i ∨ (l.length : Int) ≤ j) :
    Calls Try.prog 14 #[.int .i64 vars, .slice A l.length cap, .int .i64 i, .int .i64 j] w fun e w' => e = .returned (.tuple #[.bool false, .int .i64 2]) ∧ Below w.heap.size w w' := by
  have HA := Lib.hid hA
  have H0 := Lib.hid h0
  clear hA h0
  go_enter Try.func14, Try.ntmps14
  go_wp2_with (go_at_call 37; refine (check_calls _ _ _ _ _ HA.out hm).mono ?_; rintro e w' ⟨rfl, hW⟩; rw [H0.out]; have HW := Lib.hid hW; clear hW)
  all_goals first
    | (go_ret2; exact ⟨rfl, HW.out⟩)
    | (exfalso; omega)
set_option maxHeartbeats 2000000 in
theorem same_ok (vars : Int) (i j : Nat) (A : Option Addr) (l : List Term) (cap : Nat) (w : World) (hA : RdT w A l) (h0 : tErr vars l = 0) (hi : i < l.length) (hj : j < l.length) :
    Calls Try.prog 14 #[.int .i64 vars, .slice A l.length cap, .int .i64 i, .int .i64 j] w fun e w' => e = .returned (.tuple #[.bool (decide ((fsTo l l.length).getD i 0 = (fsTo l l.length).getD j 0)), .int .i64 0]) ∧ Below w.heap.size w w' := by
  obtain ⟨hv0, hv6, hl1, hl16, hok⟩ := tErr_ok h0
  have HA := Lib.hid hA
  have H0 := Lib.hid h0
  have Hok := Lib.hid hok
  have hfl := fsTo_len (Nat.le_refl l.length)
  have Hfl := Lib.hid hfl
  have q1 : ((i : Nat) : Int) < ((l.length : Nat) : Int) := by omega
  have q2 : ((j : Nat) : Int) < ((l.length : Nat) : Int) := by omega
  rw [getD_get (by omega), getD_get (by omega)]
  generalize hx : (fsTo l l.length)[i] = x
  generalize hy : (fsTo l l.length)[j] = y
  have Hx := Lib.hid hx
  have Hy := Lib.hid hy
  clear hA h0 hok hx hy
  go_enter Try.func14, Try.ntmps14
  go_wp2_with (first
    | (go_at_call 37; refine (check_calls _ _ _ _ _ HA.out (by unfold maxLen; omega)).mono ?_; rintro e w1 ⟨rfl, hW⟩; rw [H0.out]; have HW := Lib.hid hW; clear hW)
    | (go_at_call 38; refine (numbers_calls vars _ l _ _ (Rd.below HA.out HW.out) hl16 hv6 Hok.out).mono ?_
       rintro e w2 ⟨v5, v6, rfl, hI, _, hW2⟩
       obtain ⟨g5, cap5, rfl, hg5, hg52, hcap5, _, hcells⟩ := OwnI.at_ hI (by omega)
       have d1 := hcells i (by omega)
       have d2 := hcells j (by omega)
       rw [Hx.out] at d1
       rw [Hy.out] at d2
       have HW2 := Lib.hid (HW.out.trans (hW2.mono HW.out.size))
       rw [hfl]
       clear hI hW2 hcells))
  all_goals first | (exfalso; omega) | skip
  all_goals (
    go_quiet (fail)
    go_wp2
    go_ret2
    exact ⟨rfl, below_dN HW2.out _⟩)
/-- What value.Same says. -/
def sameErr (vars : Int) (l : List Term) (i j : Int) : Int := if tErr vars l ≠ 0 then tErr vars l else if i < 0 ∨ j < 0 ∨ (l.length : Int) ≤ i ∨ (l.length : Int) ≤ j then 2 else 0
def sameB (vars : Int) (l : List Term) (i j : Int) : Bool := if sameErr vars l i j = 0 then decide ((fsTo l l.length).getD i.toNat 0 = (fsTo l l.length).getD j.toNat 0) else false
theorem same_calls (vars i j : Int) (A : Option Addr) (l : List Term) (cap : Nat) (w : World) (hA : RdT w A l) (hm : l.length ≤ maxLen) :
    Calls Try.prog 14 #[.int .i64 vars, .slice A l.length cap, .int .i64 i, .int .i64 j] w fun e w' => e = .returned (.tuple #[.bool (sameB vars l i j), .int .i64 (sameErr vars l i j)]) ∧ Below w.heap.size w w' := by
  unfold sameB
  by_cases h0 : tErr vars l = 0
  · by_cases hij : i < 0 ∨ j < 0 ∨ (l.length : Int) ≤ i ∨ (l.length : Int) ≤ j
    · have e : sameErr vars l i j = 2 := by unfold sameErr; rw [if_neg (fun h => h h0), if_pos hij]
      rw [e, if_neg (by decide)]
      exact same_bad2 vars i j A l cap w hA hm h0 hij
    · have e : sameErr vars l i j = 0 := by unfold sameErr; rw [if_neg (fun h => h h0), if_neg hij]
      rw [e, if_pos rfl]
      obtain ⟨a, rfl⟩ := Int.eq_ofNat_of_zero_le (show 0 ≤ i by omega)
      obtain ⟨b, rfl⟩ := Int.eq_ofNat_of_zero_le (show 0 ≤ j by omega)
      exact same_ok vars a b A l cap w hA h0 (by omega) (by omega)
  · have e : sameErr vars l i j = tErr vars l := by unfold sameErr; rw [if_pos h0]
    rw [e, if_neg h0]
    exact same_bad1 vars i j A l cap w hA hm h0
end Go.Proofs.Ytmglhppfdhphbaa
