/- An argument of type api.Span, by value. -/
import Derived.Test.YtiphhadhbokgmaaRow
import Derived.Test.YtiphhadhbokgmaaSpanA
import Derived.Lib.SmallJoins
namespace Go.Proofs.Ytiphhadhbokgmaa
open Go.ChangeShapes Go.WideShapes Go.ChangeAt Go.RowKit Go.Deep Go.Joins
theorem cellsSpan : Try.prog.cellsOf 40 = 2 := by kernel_rfl
theorem open_Span {H : Type} {enc : TypeId × Value → H} {w : World} {base b0 : Nat} {spare : Nat → Bool} {held : Bool} {r : Reach} {v : Value} {d : DataW H} {ps : List MemPlace}
    (hval : Value.okWide Try.prog w r b0 40 v) (hd : DataW.Trod enc Try.prog w base spare held 40 v d ps) :
    ∃ s : Int × Int, v = spanV s.1 s.2 ∧ True := by
  obtain ⟨c0, c1, y0, y1, m, rfl, _, _, hy0, hy1⟩ := open_agg2 Try.underlying40 (by kernel_rfl) cellsSpan hval hd
  obtain ⟨a, e0, _, _⟩ := DataW.trod_int Try.underlying3 hy0
  obtain ⟨b, e1, _, _⟩ := DataW.trod_int Try.underlying3 hy1
  simp at e0 e1
  subst e0 e1
  exact ⟨(a, b), rfl, trivial⟩
end Go.Proofs.Ytiphhadhbokgmaa
