/- codemasonref.Has. -/
import Derived.Test.YtckmedmebabkjaaDoorOwn
import Derived.BigGuardPart
namespace Go.Proofs.YtckmedmebabkjaaDoor
open Go.RowKit

set_option maxHeartbeats 400000 in
theorem has_calls (A : Option Addr) (l : List Int) (cap : Nat) (x : Int) (w : World) (hA : RdI w A l) (hm : l.length ≤ maxLen) :
    Calls Tryd.prog 19 #[.slice A l.length cap, .int .i64 x] w fun e w' => e = .returned (.bool (decide (x ∈ l))) ∧ w' = w := by
  unfold maxLen at hm
  have HA := Lib.hid hA; clear hA
  go_enter Tryd.func19, Tryd.ntmps19
  go_wp2
  go_loop [9] (fun i => ∃ k : Nat, k ≤ l.length ∧ i = .int .i64 k ∧ Hid (x ∉ l.take k)) (fun i => l.length - (intOf i).toNat)
  case atStart => exact ⟨0, Nat.zero_le _, rfl, Lib.hid (by simp)⟩
  case round =>
    obtain ⟨k, hk, rfl, hE⟩ := hrel
    by_cases hlt : k < l.length
    · obtain ⟨b, off, rfl, hb, c0⟩ := RdI.at1 HA.out hlt
      by_cases he : x = l[k]
      · have Hm := Lib.hid (show x ∈ l from by rw [he]; exact List.getElem_mem hlt)
        rw [← he] at c0
        clear he hE
        go_wp2
        go_ret
        exact ⟨ret_bool (decide_eq_true Hm.out).symm, rfl⟩
      · have Hn : Hid (x ∉ l.take (k + 1)) := by
          rw [List.take_succ_eq_append_getElem hlt]
          intro h
          rcases List.mem_append.1 h with h | h
          · exact hE.out h
          · simp at h; exact he h
        have q1 : (x == l[k]) = false := by simpa using he
        clear he hE
        generalize l[k] = y at *
        go_wp2
        go_round
        case rel => exact ⟨k + 1, by omega, by go_num, Hn⟩
        case measure => simp [intOf]; omega
    · go_wp2
      go_ret
      refine ⟨ret_bool ?_, rfl⟩
      have := hE.out
      rw [List.take_of_length_le (by omega)] at this
      exact (decide_eq_false this).symm

end Go.Proofs.YtckmedmebabkjaaDoor
