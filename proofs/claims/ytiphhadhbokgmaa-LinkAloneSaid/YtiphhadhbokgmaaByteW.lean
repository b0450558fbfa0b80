/- Slices of bytes. -/
import Derived.Test.YtiphhadhbokgmaaRow
import Derived.Test.YtiphhadhbokgmaaLib
namespace Go.Proofs.Ytiphhadhbokgmaa
open Go.ChangeShapes Go.WideShapes Go.ChangeAt Go.RowKit Go.Deep
def byteCells (x : Int) : List Value := [.int .u8 x]
abbrev RdB (w : World) (A : Option Addr) (l : List Int) : Prop := Rd byteCells 1 w A l
theorem RdB.at1 {w : World} {A : Option Addr} {l : List Int} (h : RdB w A l) {k : Nat} (hk : k < l.length) :
    ∃ b off, A = some ⟨b, off, none⟩ ∧ b < w.heap.size ∧ w.cell? ⟨b, off + k, none⟩ = some (.int .u8 l[k]) := by
  obtain ⟨b, off, e, hb, hc⟩ := h.at_ hk
  refine ⟨b, off, e, hb, ?_⟩
  have := hc 0 (by omega)
  simpa [byteCells] using this
def bytesOk (l : List Int) : Prop := ∀ x ∈ l, 0 ≤ x ∧ x ≤ 255
theorem cellsU8 : Try.prog.cellsOf 5 = 1 := by kernel_rfl
theorem open_bytes {H : Type} {enc : TypeId × Value → H} {w : World} {base b0 : Nat} {held : Bool} {r : Reach} {v : Value} {d : DataW H} {ps : List MemPlace}
    (hval : Value.okWide Try.prog w r b0 31 v) (hd : DataW.Trod enc Try.prog w base (fun _ => true) held 31 v d ps) :
    ∃ (A : Option Addr) (cap : Nat) (l : List Int), v = .slice A l.length cap ∧ RdB w A l ∧ l.length ≤ maxLen ∧ bytesOk l := by
  obtain ⟨A, cap, l, h1, h2, h3, h4⟩ := open_nums Try.underlying31 Try.underlying5 cellsU8 hval hd
  exact ⟨A, cap, l, h1, h2, h3, fun x hx => wf_u8 (h4 x hx)⟩
end Go.Proofs.Ytiphhadhbokgmaa
