/- Slices of pairs ([][2]int) as lists of pairs. -/
import Derived.Test.YtiphhadhbokgmaaOwn
namespace Go.Proofs.Ytiphhadhbokgmaa
open Go.RowKit
def pairCells (p : Int × Int) : List Value := [.int .i64 p.1, .int .i64 p.2]
abbrev RdP (w : World) (A : Option Addr) (l : List (Int × Int)) : Prop := Rd pairCells 2 w A l
theorem RdP.at2 {w : World} {A : Option Addr} {l : List (Int × Int)} (h : RdP w A l) {k : Nat} (hk : k < l.length) :
    ∃ b off, A = some ⟨b, off, none⟩ ∧ b < w.heap.size ∧ w.cell? ⟨b, off + k * 2, none⟩ = some (.int .i64 l[k].1) ∧ w.cell? ⟨b, off + k * 2 + 1, none⟩ = some (.int .i64 l[k].2) := by
  obtain ⟨b, off, e, hb, hc⟩ := h.at_ hk
  exact ⟨b, off, e, hb, by simpa [pairCells] using hc 0 (by omega), by simpa [pairCells] using hc 1 (by omega)⟩
end Go.Proofs.Ytiphhadhbokgmaa
