/- An argument of type []byte, as a list of numbers. -/
import Derived.Test.YtiphhadhbokgmaaRow
import Derived.Test.YtiphhadhbokgmaaMachA
namespace Go.Proofs.Ytiphhadhbokgmaa
open Go.ChangeShapes Go.WideShapes Go.ChangeAt Go.RowKit Go.Deep
theorem cellsU8 : Try.prog.cellsOf 5 = 1 := by kernel_rfl
theorem open_bytes {H : Type} {enc : TypeId × Value → H} {w : World} {base b0 : Nat} {held : Bool} {r : Reach} {v : Value} {d : DataW H} {ps : List MemPlace}
    (hval : Value.okWide Try.prog w r b0 31 v) (hd : DataW.Trod enc Try.prog w base (fun _ => true) held 31 v d ps) :
    ∃ (A : Option Addr) (cap : Nat) (l : List Int), v = .slice A l.length cap ∧ RdB w A l ∧ l.length ≤ maxLen ∧ bytesOk l := by
  obtain ⟨A, cap, l, h1, h2, h3, h4⟩ := open_nums Try.underlying31 Try.underlying5 cellsU8 hval hd
  exact ⟨A, cap, l, h1, h2, h3, fun x hx => wf_u8 (h4 x hx)⟩
end Go.Proofs.Ytiphhadhbokgmaa
