/- The most clashes of one. -/
import Derived.Test.YtckmedmebabkjaaDoorColQ
namespace Go.Proofs.YtckmedmebabkjaaDoor
noncomputable def dmx (ps : List (Int × Int)) (m : Nat) : Nat → Nat
  | 0 => 0
  | k + 1 => if dmx ps m k < degK ps k m then degK ps k m else dmx ps m k
theorem dmx_ge (ps : List (Int × Int)) (m : Nat) : ∀ {k i : Nat}, i < k → degK ps i m ≤ dmx ps m k
  | k + 1, i, h => by
    rw [dmx]
    rcases Nat.lt_or_ge i k with h1 | h1
    · have := dmx_ge ps m h1
      split <;> omega
    · obtain rfl : i = k := by omega
      split <;> omega
theorem dmx_le (ps : List (Int × Int)) (m : Nat) : ∀ k, dmx ps m k ≤ m
  | 0 => Nat.zero_le _
  | k + 1 => by
    rw [dmx]
    have := dmx_le ps m k
    have := degK_le ps k m
    split <;> omega
end Go.Proofs.YtckmedmebabkjaaDoor
