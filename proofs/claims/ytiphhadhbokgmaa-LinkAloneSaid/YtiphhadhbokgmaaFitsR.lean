/- codemasonref.Fits. -/
import Derived.Test.YtiphhadhbokgmaaBits
import Derived.Test.YtiphhadhbokgmaaOwn
import Derived.BigGuardPart
namespace Go.Proofs.Ytiphhadhbokgmaa
open Go.RowKit

theorem fits_calls (n : Nat) (s : Nat) (w : World) (hn : n < 32) :
    Calls Try.prog 25 #[.int .i64 n, .int .u32 s] w fun e w' => e = .returned (.bool (decide (s < 2 ^ n))) ∧ w' = w := by
  have p1 := pow_u32 n hn
  have p2 : decide ((s : Int) < ((2 ^ n : Nat) : Int)) = decide (s < 2 ^ n) := by rw [decide_eq_decide]; omega
  rw [Int.natCast_pow, show ((2 : Nat) : Int) = 2 from rfl] at p1 p2
  have p4 : (n : Int) % 18446744073709551616 = n := by omega
  generalize decide (s < 2 ^ n) = d at *
  go_enter Try.func25, Try.ntmps25
  go_wp2
  all_goals first | (exfalso; omega) | (go_ret; exact ⟨rfl, rfl⟩)

end Go.Proofs.Ytiphhadhbokgmaa
