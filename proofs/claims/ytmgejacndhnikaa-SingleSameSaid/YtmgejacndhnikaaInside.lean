/- codemasonref.Inside: each of the numbers lies in 0 .. n - 1. -/
import Derived.Test.YtmgejacndhnikaaRows
import Derived.Test.YtmgejacndhnikaaLib
namespace Go.Proofs.Ytmgejacndhnikaa
open Go.RowKit

def insideB (n : Int) (l : List Int) : Bool := l.all fun i => decide (0 ≤ i ∧ i < n)
theorem insideB_cons (n x : Int) (r : List Int) : insideB n (x :: r) = (decide (0 ≤ x ∧ x < n) && insideB n r) := rfl
theorem insideB_drop {n : Int} {l : List Int} {k : Nat} (hk : k < l.length) (h0 : insideB n (l.drop k) = insideB n l) :
    (¬ (0 ≤ l[k] ∧ l[k] < n) → insideB n l = false) ∧ ((0 ≤ l[k] ∧ l[k] < n) → insideB n (l.drop (k + 1)) = insideB n l) := by
  rw [List.drop_eq_getElem_cons hk, insideB_cons] at h0
  constructor
  · intro h; rw [← h0, decide_eq_false h, Bool.false_and]
  · intro h; rw [← h0, decide_eq_true h, Bool.true_and]

set_option maxHeartbeats 400000 in
theorem inside_calls (n : Int) (A : Option Addr) (l : List Int) (cap : Nat) (w : World) (hA : RdI w A l) (hm : l.length ≤ maxLen) :
    Calls Try.prog 62 #[.int .i64 n, .slice A l.length cap] w fun e w' => e = .returned (.bool (insideB n l)) ∧ w' = w := by
  unfold maxLen at hm
  have HA := Lib.hid hA; clear hA
  go_enter Try.func62, Try.ntmps62
  go_wp2
  go_loop [9] (fun i => ∃ k : Nat, k ≤ l.length ∧ i = .int .i64 k ∧ Hid (insideB n (l.drop k) = insideB n l)) (fun i => l.length - (intOf i).toNat)
  case atStart => exact ⟨0, Nat.zero_le _, rfl, Lib.hid rfl⟩
  case round =>
    obtain ⟨k, hk, rfl, hE⟩ := hrel
    by_cases hlt : k < l.length
    · obtain ⟨b, off, rfl, hb, c0⟩ := RdI.at1 HA.out hlt
      have HS := Lib.hid (insideB_drop hlt hE.out); clear hE
      generalize l[k] = x at *
      go_wp2
      all_goals first
        | (go_ret; exact ⟨ret_bool (HS.out.1 (by omega)).symm, rfl⟩)
        | (go_round
           case rel => exact ⟨k + 1, by omega, by go_num, Lib.hid (HS.out.2 (by omega))⟩
           case measure => simp [intOf]; omega)
    · go_wp2
      go_ret
      have : k = l.length := by omega
      subst this
      exact ⟨ret_bool (by rw [← hE.out, List.drop_length]; rfl), rfl⟩
end Go.Proofs.Ytmgejacndhnikaa
