/- Objects in memory. -/
import Derived.Test.YtiphhadhbokgmaaLnkP
import Derived.Test.YtiphhadhbokgmaaByteW
import Derived.Test.YtiphhadhbokgmaaPairs
namespace Go.Proofs.Ytiphhadhbokgmaa
open Go.RowKit

def RdOb (w : World) (A : Option Addr) (l : List Ob) : Prop := 0 < l.length → ∃ b off, A = some ⟨b, off, none⟩ ∧ b < w.heap.size ∧ ∀ (k : Nat) (o : Ob), l[k]? = some o → ∃ A1 c1 A2 c2 A3 c3,
  w.cell? ⟨b, off + k * 3, none⟩ = some (.slice A1 o.bytes.length c1) ∧ w.cell? ⟨b, off + k * 3 + 1, none⟩ = some (.slice A2 o.has.length c2) ∧ w.cell? ⟨b, off + k * 3 + 2, none⟩ = some (.slice A3 o.wants.length c3) ∧ RdB w A1 o.bytes ∧ RdP w A2 o.has ∧ RdP w A3 o.wants
theorem RdOb.below {w w' : World} {A : Option Addr} {l : List Ob} (h : RdOb w A l) (hb : Below w.heap.size w w') : RdOb w' A l := fun hn => by
  obtain ⟨b, off, e, hlt, hc⟩ := h hn
  refine ⟨b, off, e, Nat.lt_of_lt_of_le hlt hb.size, fun k o hk => ?_⟩
  obtain ⟨A1, c1, A2, c2, A3, c3, h1, h2, h3, h4, h5, h6⟩ := hc k o hk
  exact ⟨A1, c1, A2, c2, A3, c3, (hb.cell (p := ⟨b, _, none⟩) hlt).trans h1, (hb.cell (p := ⟨b, _, none⟩) hlt).trans h2, (hb.cell (p := ⟨b, _, none⟩) hlt).trans h3, Rd.below h4 hb, Rd.below h5 hb, Rd.below h6 hb⟩
theorem RdOb.at_ {w : World} {A : Option Addr} {l : List Ob} (h : RdOb w A l) {k : Nat} (hk : k < l.length) : ∃ b off A1 c1 A2 c2 A3 c3, A = some ⟨b, off, none⟩ ∧ b < w.heap.size ∧
    w.cell? ⟨b, off + k * 3, none⟩ = some (.slice A1 l[k].bytes.length c1) ∧ w.cell? ⟨b, off + k * 3 + 1, none⟩ = some (.slice A2 l[k].has.length c2) ∧ w.cell? ⟨b, off + k * 3 + 2, none⟩ = some (.slice A3 l[k].wants.length c3) ∧ RdB w A1 l[k].bytes ∧ RdP w A2 l[k].has ∧ RdP w A3 l[k].wants := by
  obtain ⟨b, off, e, hlt, hc⟩ := h (by omega)
  obtain ⟨A1, c1, A2, c2, A3, c3, h1⟩ := hc k _ (List.getElem?_eq_getElem hk)
  exact ⟨b, off, A1, c1, A2, c2, A3, c3, e, hlt, h1⟩
end Go.Proofs.Ytiphhadhbokgmaa
