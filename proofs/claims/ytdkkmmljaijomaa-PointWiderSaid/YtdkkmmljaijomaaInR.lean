/- codemasonref.In. -/
import Derived.Test.YtdkkmmljaijomaaBits
import Derived.Test.YtdkkmmljaijomaaOwn
import Derived.BigGuardPart
import Derived.BigQuiet
import Derived.Deep.QuietTactic
namespace Go.Proofs.Ytdkkmmljaijomaa
open Go.RowKit

theorem in_calls (a b : Nat) (w : World) (ha : a < 4294967296) (hb : b < 4294967296) :
    Calls Try.prog 29 #[.int .u32 a, .int .u32 b] w fun e w' => e = .returned (.bool (a ||| b == b)) ∧ w' = w := by
  have p1 := or_u32 a b ha hb
  have p2 : (((a ||| b : Nat) : Int) == (b : Int)) = (a ||| b == b) := by rw [Bool.eq_iff_iff, beq_iff_eq, beq_iff_eq]; omega
  generalize a ||| b = x at *
  go_enter Try.func29, Try.ntmps29
  go_wp2
  go_ret
  exact ⟨ret_bool (by first | rfl | exact p2 | (rw [← p2]; rfl) | simp_all), rfl⟩
/-- In, in terms of elements. -/
theorem in_iff (a b : Nat) : (a ||| b == b) = true ↔ ∀ k, a.testBit k = true → b.testBit k = true := by
  rw [beq_iff_eq]
  constructor
  · intro h k hk
    have := congrArg (fun s => s.testBit k) h
    simp only [Nat.testBit_or, hk, Bool.true_or] at this
    exact this.symm
  · intro h
    refine set_ext fun k => ?_
    rw [Nat.testBit_or]
    cases ha : a.testBit k
    · rfl
    · rw [h k ha]; rfl

end Go.Proofs.Ytdkkmmljaijomaa
