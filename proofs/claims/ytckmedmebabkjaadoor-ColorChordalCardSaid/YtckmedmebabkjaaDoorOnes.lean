/- math/bits.OnesCount32 at words below 256. -/
import Derived.Test.YtckmedmebabkjaaDoorBits
import Derived.Test.YtckmedmebabkjaaDoorOwn
import Derived.BigQuiet
import Derived.Deep.QuietTactic
import Derived.Lib.BitFns
namespace Go.Proofs.YtckmedmebabkjaaDoor
open Go.RowKit
theorem pop8_cnt : ∀ n : Fin 256, Lib.pop8 (n.val : Int) % 256 = (cnt8 n.val : Int) := by decide +kernel
set_option maxHeartbeats 4000000 in
theorem ones_calls (s : Nat) (w : World) (hs : s < 256) :
    Calls Tryd.prog 22 #[.int .u32 (s : Nat)] w fun e w' => e = .returned (.int .i64 (cnt8 s : Nat)) ∧ ∃ nq, w' = w.drewN nq := by
  have z0 : Lib.pop8 0 = 0 := by decide +kernel
  have q1 : (s : Int) < 256 := by omega
  have q2 : (s : Int) ≤ 255 := by omega
  have p1 : (s : Int) / 16777216 = 0 := by omega
  have p2 : (s : Int) / 65536 = 0 := by omega
  have p3 : (s : Int) / 256 = 0 := by omega
  have b0 : bits .and .u32 0 255 = 0 := by decide
  have b1 : bits .and .u32 (s : Int) 255 = (s : Int) := by
    rw [show (255 : Int) = ((255 : Nat) : Int) from rfl, and_u32 s 255 (by omega) (by decide)]
    congr 1
    exact Nat.and_two_pow_sub_one_of_lt_two_pow (n := 8) hs
  go_enter Tryd.func22, Tryd.ntmps22
  go_wp2
  go_quiet (fail)
  go_wp2
  go_ret
  exact ⟨ret_int (pop8_cnt ⟨s, hs⟩), _, rfl⟩
end Go.Proofs.YtckmedmebabkjaaDoor
