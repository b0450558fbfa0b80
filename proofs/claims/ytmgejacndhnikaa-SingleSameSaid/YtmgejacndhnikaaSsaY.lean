/- SingleSame: named programs in memory. -/
import Derived.Test.YtmgejacndhnikaaSsaX
namespace Go.Proofs.Ytmgejacndhnikaa
set_option maxRecDepth 100000
open Go.RowKit

/-- The slice of Joins at A reads as l. -/
def RdJn (w : World) (A : Option Addr) (l : List Jn) : Prop :=
  0 < l.length → ∃ b off, A = some ⟨b, off, none⟩ ∧ b < w.heap.size ∧ ∀ (k : Nat) (x : Jn), l[k]? = some x → ∃ A' c', w.cell? ⟨b, off + k * 2, none⟩ = some (.int .i64 x.to) ∧ w.cell? ⟨b, off + k * 2 + 1, none⟩ = some (.slice A' x.fr.length c') ∧ RdI w A' x.fr
theorem RdJn.below {w w' : World} {A : Option Addr} {l : List Jn} (h : RdJn w A l) (hb : Below w.heap.size w w') : RdJn w' A l := fun hn => by
  obtain ⟨b, off, e, hlt, hc⟩ := h hn
  refine ⟨b, off, e, by have := hb.size; omega, fun k x hk => ?_⟩
  obtain ⟨A', c', h0, h1, h2⟩ := hc k x hk
  exact ⟨A', c', (hb.cell (p := ⟨b, _, none⟩) hlt).trans h0, (hb.cell (p := ⟨b, _, none⟩) hlt).trans h1, Rd.below h2 hb⟩
/-- The slice of Singles at A reads as l. -/
def RdSg (w : World) (A : Option Addr) (l : List Sg) : Prop :=
  0 < l.length → ∃ b off, A = some ⟨b, off, none⟩ ∧ b < w.heap.size ∧ ∀ (k : Nat) (x : Sg), l[k]? = some x → ∃ A1 c1 A2 c2 A3 c3,
    w.cell? ⟨b, off + k * 6, none⟩ = some (.slice A1 x.joins.length c1) ∧ w.cell? ⟨b, off + k * 6 + 1, none⟩ = some (.slice A2 x.code.length c2) ∧ w.cell? ⟨b, off + k * 6 + 2, none⟩ = some (.int .i64 x.test) ∧
    w.cell? ⟨b, off + k * 6 + 3, none⟩ = some (.int .i64 x.thn) ∧ w.cell? ⟨b, off + k * 6 + 4, none⟩ = some (.int .i64 x.els) ∧ w.cell? ⟨b, off + k * 6 + 5, none⟩ = some (.slice A3 x.last.length c3) ∧ RdJn w A1 x.joins ∧ RdSt w A2 x.code ∧ RdI w A3 x.last
theorem RdSg.below {w w' : World} {A : Option Addr} {l : List Sg} (h : RdSg w A l) (hb : Below w.heap.size w w') : RdSg w' A l := fun hn => by
  obtain ⟨b, off, e, hlt, hc⟩ := h hn
  refine ⟨b, off, e, by have := hb.size; omega, fun k x hk => ?_⟩
  obtain ⟨A1, c1, A2, c2, A3, c3, h0, h1, h2, h3, h4, h5, r1, r2, r3⟩ := hc k x hk
  exact ⟨A1, c1, A2, c2, A3, c3, (hb.cell (p := ⟨b, _, none⟩) hlt).trans h0, (hb.cell (p := ⟨b, _, none⟩) hlt).trans h1, (hb.cell (p := ⟨b, _, none⟩) hlt).trans h2, (hb.cell (p := ⟨b, _, none⟩) hlt).trans h3, (hb.cell (p := ⟨b, _, none⟩) hlt).trans h4, (hb.cell (p := ⟨b, _, none⟩) hlt).trans h5, r1.below hb, Rd.below r2 hb, Rd.below r3 hb⟩
theorem RdSg.at_ {w : World} {A : Option Addr} {l : List Sg} (h : RdSg w A l) {k : Nat} (hk : k < l.length) : ∃ b off A1 c1 A2 c2 A3 c3, A = some ⟨b, off, none⟩ ∧ b < w.heap.size ∧
    w.cell? ⟨b, off + k * 6, none⟩ = some (.slice A1 l[k].joins.length c1) ∧ w.cell? ⟨b, off + k * 6 + 1, none⟩ = some (.slice A2 l[k].code.length c2) ∧ w.cell? ⟨b, off + k * 6 + 2, none⟩ = some (.int .i64 l[k].test) ∧
    w.cell? ⟨b, off + k * 6 + 3, none⟩ = some (.int .i64 l[k].thn) ∧ w.cell? ⟨b, off + k * 6 + 4, none⟩ = some (.int .i64 l[k].els) ∧ w.cell? ⟨b, off + k * 6 + 5, none⟩ = some (.slice A3 l[k].last.length c3) ∧ RdJn w A1 l[k].joins ∧ RdSt w A2 l[k].code ∧ RdI w A3 l[k].last := by
  obtain ⟨b, off, e, hlt, hc⟩ := h (by omega)
  obtain ⟨A1, c1, A2, c2, A3, c3, r⟩ := hc k _ (List.getElem?_eq_getElem hk)
  exact ⟨b, off, A1, c1, A2, c2, A3, c3, e, hlt, r⟩
end Go.Proofs.Ytmgejacndhnikaa
