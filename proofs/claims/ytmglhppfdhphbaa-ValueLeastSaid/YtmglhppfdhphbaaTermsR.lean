/- codemasonref.Terms: of the same lists it says yes. -/
import Derived.Test.YtmglhppfdhphbaaTermB
import Derived.Test.YtmglhppfdhphbaaTermOwn
import Derived.BigQuiet
import Derived.Deep.QuietTactic
namespace Go.Proofs.Ytmglhppfdhphbaa
open Go.RowKit

set_option maxHeartbeats 1000000 in
theorem terms_same (A B : Option Addr) (l : List Term) (ca cb : Nat) (w : World) (hA : RdT w A l) (hB : RdT w B l) (hm : l.length ≤ 1000) :
    Calls Try.prog 33 #[.slice A l.length ca, .slice B l.length cb] w fun e w' => e = .returned (.bool true) ∧ ∃ nq, w' = w.drewN nq := by
  have HA := Lib.hid hA; clear hA
  have HB := Lib.hid hB; clear hB
  go_enter Try.func33, Try.ntmps33
  go_wp2
  go_loopw [5] (fun i wr => ∃ k : Nat, k ≤ l.length ∧ i = .int .i64 k ∧ ∃ nq, wr = w.drewN nq) (fun i _ => l.length - (intOf i).toNat)
  case atStart => exact ⟨0, Nat.zero_le _, rfl, 0, rfl⟩
  case round =>
    obtain ⟨k, hk, rfl, nq, rfl⟩ := hrel
    by_cases hlt : k < l.length
    · obtain ⟨b1, off1, rfl, hb1, c0, c1, c2, c3⟩ := RdT.at4 HA.out hlt
      obtain ⟨b2, off2, rfl, hb2, d0, d1, d2, d3⟩ := RdT.at4 HB.out hlt
      have q1 : ((k : Nat) : Int) < ((l.length : Nat) : Int) := by omega
      generalize l[k] = t at *
      obtain ⟨op, a, b, v⟩ := t
      dsimp only at *
      go_wp2
      go_quiet (fail)
      go_wp2
      go_roundw
      case rel => exact ⟨k + 1, by omega, by go_num, _, rfl⟩
      case measure => simp [intOf]; omega
    · go_wp2
      go_ret
      exact ⟨rfl, _, rfl⟩
end Go.Proofs.Ytmglhppfdhphbaa
