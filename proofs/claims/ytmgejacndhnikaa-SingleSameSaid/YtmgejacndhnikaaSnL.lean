/- The load of a whole step out of its box. -/
import Derived.Test.YtmgejacndhnikaaSnD
import Derived.Deep.RegionHeld3
namespace Go.Proofs.Ytmgejacndhnikaa
open Go.RowKit

set_option maxHeartbeats 1000000 in
theorem load_step (a : Act) (o : Oper) (x : Operand) (ho : o.op = .load 87 x) (w : World) (p : Nat) (hx : a.eval x = .pointer (some ⟨p, 0, none⟩)) (v0 v1 v2 v3 v4 : Value)
    (p0 : w.cell? ⟨p, 0, none⟩ = some v0) (p1 : w.cell? ⟨p, 1, none⟩ = some v1) (p2 : w.cell? ⟨p, 2, none⟩ = some v2) (p3 : w.cell? ⟨p, 3, none⟩ = some v3) (p4 : w.cell? ⟨p, 4, none⟩ = some v4) :
    (execOp a.eval o).run Try.prog w = .ok (.value (.agg #[v0, v1, v2, v3, v4])) w := by
  unfold execOp
  simp only [ho, hx]
  go_simp
end Go.Proofs.Ytmgejacndhnikaa
