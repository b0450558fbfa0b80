/- codemasonref.Op -/
import Derived.Test.YtadmmciiahdmcaaTermDo
namespace Go.Proofs.Ytadmmciiahdmcaa
open Go.RowKit
set_option maxHeartbeats 400000 in
theorem op_calls (op a b : Int) (w : World) (ho : 3 ≤ op ∧ op ≤ 6) (ha : 0 ≤ a ∧ a ≤ 255) (hb : 0 ≤ b ∧ b ≤ 255) :
    Calls Try.prog 54 #[.int .i64 op, .int .i64 a, .int .i64 b] w fun e w' => e = .returned (.int .i64 (doF op a b)) ∧ w' = w := by
  have hm := mul_bd (m := 255) (n := 255) ha.1 (by omega) hb.1 (by omega)
  go_enter Try.func54, Try.ntmps54
  go_wp2
  all_goals
    go_ret
    refine ⟨ret_int ?_, rfl⟩
    unfold doF
    try simp only [beq_iff_eq, beq_eq_false_iff_ne] at *
    repeat' split
    all_goals first | omega | simp_all
  all_goals try omega
end Go.Proofs.Ytadmmciiahdmcaa
