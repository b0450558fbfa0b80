/-
  No cell of these rows narrows 'for every input' (looked for: loops, veiled, ifaces, maps, wideKeys, modest, calm, conditions, laid).
  DERIVED. THE GIVEN ROWS OF THIS SEAT. 6 by the template 'for every input the law returns true; each argument reads behind the call as it read before'; 0 by the template 'total and deterministic' (their statements: YtiphhadhbokgmaaTotals.lean).
  GIVEN WITH THE SEED: the statements are not yours to turn. If you find one false, say at which input.
  Laid BY PROGRAM, IN A SANDBOX (cutbox-rows.mjs): the forced cells as the released guide's own fill.sh prints them over the translation 6badb0b867eb10a4… (all of the seat's roots in one cut). By AI agents, Wed Nov 11 2026. No macro, syntax, notation, axiom, sorry.
-/
import Derived.Test.YtiphhadhbokgmaaChecked
import GoSem.Claim
import GoSem.ClaimJoined
import GoSem.ClaimMapViews
import Derived.JoinedTies
import Derived.KernelRfl
namespace Go.Proofs.Ytiphhadhbokgmaa
/- THE CELL 'sum', in the pinned program and in every row, IS THE sha256 OF THE DUMP (.gsa) THAT YtiphhadhbokgmaaProg.lean LOADS. Nothing in Lean hashes anything: it is a label: what it is worth is what the hold of that sum in a sandbox is worth. -/
noncomputable def Try.pinned : Pinned := { name := "ytiphhadhbokgmaa", sum := "6badb0b867eb10a4ad665547e069eebdc88e6f6b52d0badb2ae54524509f1cd6", checked := Try.checked }
namespace Rows
def none {H : Type} : Left H := { results := [], args := [] }

/-- 'codemasonkeep.JumpNear': WHATEVER THE INPUT: true; the input reads as it did. -/
def jumpNearSpec : ChangeSpec := { name := "jumpNear", fn := fun _ => fun
  | [d] => { results := [.lit (.bool true)], args := [d] }
  | _ => none }
def jumpNearRow : OpenClaim := { program := "ytiphhadhbokgmaa", sum := "6badb0b867eb10a4ad665547e069eebdc88e6f6b52d0badb2ae54524509f1cd6", func := "codemason/codemasonkeep.JumpNear", spec := "jumpNear", apart := false }
def JumpNearSaid : Prop := jumpNearRow.holds Try.pinned (OpenSpec.ofChange jumpNearSpec)

/-- ITS FALSE NEIGHBOUR: 'it returns false'. Refute it at one input. -/
def jumpNearWrong : ChangeSpec := { name := "jumpNear", fn := fun _ => fun
  | [d] => { results := [.lit (.bool false)], args := [d] }
  | _ => none }
def JumpNearWrongFalsely : Prop := jumpNearRow.holds Try.pinned (OpenSpec.ofChange jumpNearWrong)

/-- 'codemasonkeep.MachText': WHATEVER THE INPUT: true; the input reads as it did. -/
def machTextSpec : ChangeSpec := { name := "machText", fn := fun _ => fun
  | [d] => { results := [.lit (.bool true)], args := [d] }
  | _ => none }
def machTextRow : OpenClaim := { program := "ytiphhadhbokgmaa", sum := "6badb0b867eb10a4ad665547e069eebdc88e6f6b52d0badb2ae54524509f1cd6", func := "codemason/codemasonkeep.MachText", spec := "machText", apart := false }
def MachTextSaid : Prop := machTextRow.holds Try.pinned (OpenSpec.ofChange machTextSpec)

/-- ITS FALSE NEIGHBOUR: 'it returns false'. Refute it at one input. -/
def machTextWrong : ChangeSpec := { name := "machText", fn := fun _ => fun
  | [d] => { results := [.lit (.bool false)], args := [d] }
  | _ => none }
def MachTextWrongFalsely : Prop := machTextRow.holds Try.pinned (OpenSpec.ofChange machTextWrong)

/-- 'codemasonkeep.SpanHas': WHATEVER THE INPUT: true; the input reads as it did. -/
def spanHasSpec : ChangeSpec := { name := "spanHas", fn := fun _ => fun
  | [d1, d2, d3, d4, d5] => { results := [.lit (.bool true)], args := [d1, d2, d3, d4, d5] }
  | _ => none }
def spanHasRow : OpenClaim := { program := "ytiphhadhbokgmaa", sum := "6badb0b867eb10a4ad665547e069eebdc88e6f6b52d0badb2ae54524509f1cd6", func := "codemason/codemasonkeep.SpanHas", spec := "spanHas", apart := false }
def SpanHasSaid : Prop := spanHasRow.holds Try.pinned (OpenSpec.ofChange spanHasSpec)

/-- ITS FALSE NEIGHBOUR: 'it returns false'. Refute it at one input. -/
def spanHasWrong : ChangeSpec := { name := "spanHas", fn := fun _ => fun
  | [d1, d2, d3, d4, d5] => { results := [.lit (.bool false)], args := [d1, d2, d3, d4, d5] }
  | _ => none }
def SpanHasWrongFalsely : Prop := spanHasRow.holds Try.pinned (OpenSpec.ofChange spanHasWrong)

/-- 'codemasonkeep.SwapTwice': WHATEVER THE INPUT: true; the input reads as it did. -/
def swapTwiceSpec : ChangeSpec := { name := "swapTwice", fn := fun _ => fun
  | [d1, d2] => { results := [.lit (.bool true)], args := [d1, d2] }
  | _ => none }
def swapTwiceRow : OpenClaim := { program := "ytiphhadhbokgmaa", sum := "6badb0b867eb10a4ad665547e069eebdc88e6f6b52d0badb2ae54524509f1cd6", func := "codemason/codemasonkeep.SwapTwice", spec := "swapTwice", apart := false }
def SwapTwiceSaid : Prop := swapTwiceRow.holds Try.pinned (OpenSpec.ofChange swapTwiceSpec)

/-- ITS FALSE NEIGHBOUR: 'it returns false'. Refute it at one input. -/
def swapTwiceWrong : ChangeSpec := { name := "swapTwice", fn := fun _ => fun
  | [d1, d2] => { results := [.lit (.bool false)], args := [d1, d2] }
  | _ => none }
def SwapTwiceWrongFalsely : Prop := swapTwiceRow.holds Try.pinned (OpenSpec.ofChange swapTwiceWrong)

/-- 'codemasonkeep.LinkPlace': WHATEVER THE INPUT: true; the input reads as it did. -/
def linkPlaceSpec : ChangeSpec := { name := "linkPlace", fn := fun _ => fun
  | [d1, d2] => { results := [.lit (.bool true)], args := [d1, d2] }
  | _ => none }
def linkPlaceRow : OpenClaim := { program := "ytiphhadhbokgmaa", sum := "6badb0b867eb10a4ad665547e069eebdc88e6f6b52d0badb2ae54524509f1cd6", func := "codemason/codemasonkeep.LinkPlace", spec := "linkPlace", apart := false }
def LinkPlaceSaid : Prop := linkPlaceRow.holds Try.pinned (OpenSpec.ofChange linkPlaceSpec)

/-- ITS FALSE NEIGHBOUR: 'it returns false'. Refute it at one input. -/
def linkPlaceWrong : ChangeSpec := { name := "linkPlace", fn := fun _ => fun
  | [d1, d2] => { results := [.lit (.bool false)], args := [d1, d2] }
  | _ => none }
def LinkPlaceWrongFalsely : Prop := linkPlaceRow.holds Try.pinned (OpenSpec.ofChange linkPlaceWrong)

/-- 'codemasonkeep.LinkAlone': WHATEVER THE INPUT: true; the input reads as it did. -/
def linkAloneSpec : ChangeSpec := { name := "linkAlone", fn := fun _ => fun
  | [d] => { results := [.lit (.bool true)], args := [d] }
  | _ => none }
def linkAloneRow : OpenClaim := { program := "ytiphhadhbokgmaa", sum := "6badb0b867eb10a4ad665547e069eebdc88e6f6b52d0badb2ae54524509f1cd6", func := "codemason/codemasonkeep.LinkAlone", spec := "linkAlone", apart := false }
def LinkAloneSaid : Prop := linkAloneRow.holds Try.pinned (OpenSpec.ofChange linkAloneSpec)

/-- ITS FALSE NEIGHBOUR: 'it returns false'. Refute it at one input. -/
def linkAloneWrong : ChangeSpec := { name := "linkAlone", fn := fun _ => fun
  | [d] => { results := [.lit (.bool false)], args := [d] }
  | _ => none }
def LinkAloneWrongFalsely : Prop := linkAloneRow.holds Try.pinned (OpenSpec.ofChange linkAloneWrong)

/- THE SECOND FORM. 'bulk': how many values and letters a reading holds, each counted each time it is reached (what is shared counts as often as it is met; a slice's spare places count too). A statement '..UptoSaid' is the law's where the arguments, and the package variables that the reading takes, are together of bulk at most 1048576: NARROWER than '..Said'. Prove '..Said' where nothing that the law and all that it calls make is longer than what came in: it says more and counts as full. Else prove '..UptoSaid'. A law counts once. -/
mutual
def uptoBulk {H : Type} : DataW H → Nat
  | .lit (.string bytes) => bytes.length + 1
  | .lit _ => 1
  | .nil => 1
  | .ptr d => uptoBulk d + 1
  | .slice elems spare => uptoBulkAll elems + uptoBulkAll spare + 1
  | .agg parts => uptoBulkAll parts + 1
  | .iface _ d => uptoBulk d + 1
  | .map entries => uptoBulkEntries entries + 1
  | .held _ => 1
def uptoBulkAll {H : Type} : List (DataW H) → Nat
  | [] => 0
  | d :: r => uptoBulk d + uptoBulkAll r
def uptoBulkEntries {H : Type} : List (Lit × DataW H) → Nat
  | [] => 0
  | x :: r => uptoBulkEntry x + uptoBulkEntries r
def uptoBulkEntry {H : Type} : Lit × DataW H → Nat
  | (.string bytes, d) => bytes.length + uptoBulk d + 1
  | (_, d) => uptoBulk d + 1
 end
def uptoSmall : (H : Type) → List (DataW H) → Bool := fun _ ds => decide (uptoBulkAll ds ≤ 1048576)
def OpenSpec.upto (s : _root_.Go.ChangeSpec) : _root_.Go.OpenSpec := { _root_.Go.OpenSpec.ofChange s with cond := some uptoSmall }

/-- 'codemasonkeep.JumpNear', WHERE WHAT IT READS IS OF BULK AT MOST 1048576: true; the input reads as it did. -/
def jumpNearUptoRow : OpenClaim := { program := "ytiphhadhbokgmaa", sum := "6badb0b867eb10a4ad665547e069eebdc88e6f6b52d0badb2ae54524509f1cd6", func := "codemason/codemasonkeep.JumpNear", spec := "jumpNear", apart := false, narrowed := true }
def JumpNearUptoSaid : Prop := jumpNearUptoRow.holds Try.pinned (OpenSpec.upto jumpNearSpec)

/-- 'codemasonkeep.MachText', WHERE WHAT IT READS IS OF BULK AT MOST 1048576: true; the input reads as it did. -/
def machTextUptoRow : OpenClaim := { program := "ytiphhadhbokgmaa", sum := "6badb0b867eb10a4ad665547e069eebdc88e6f6b52d0badb2ae54524509f1cd6", func := "codemason/codemasonkeep.MachText", spec := "machText", apart := false, narrowed := true }
def MachTextUptoSaid : Prop := machTextUptoRow.holds Try.pinned (OpenSpec.upto machTextSpec)

/-- 'codemasonkeep.SpanHas', WHERE WHAT IT READS IS OF BULK AT MOST 1048576: true; the input reads as it did. -/
def spanHasUptoRow : OpenClaim := { program := "ytiphhadhbokgmaa", sum := "6badb0b867eb10a4ad665547e069eebdc88e6f6b52d0badb2ae54524509f1cd6", func := "codemason/codemasonkeep.SpanHas", spec := "spanHas", apart := false, narrowed := true }
def SpanHasUptoSaid : Prop := spanHasUptoRow.holds Try.pinned (OpenSpec.upto spanHasSpec)

/-- 'codemasonkeep.SwapTwice', WHERE WHAT IT READS IS OF BULK AT MOST 1048576: true; the input reads as it did. -/
def swapTwiceUptoRow : OpenClaim := { program := "ytiphhadhbokgmaa", sum := "6badb0b867eb10a4ad665547e069eebdc88e6f6b52d0badb2ae54524509f1cd6", func := "codemason/codemasonkeep.SwapTwice", spec := "swapTwice", apart := false, narrowed := true }
def SwapTwiceUptoSaid : Prop := swapTwiceUptoRow.holds Try.pinned (OpenSpec.upto swapTwiceSpec)

/-- 'codemasonkeep.LinkPlace', WHERE WHAT IT READS IS OF BULK AT MOST 1048576: true; the input reads as it did. -/
def linkPlaceUptoRow : OpenClaim := { program := "ytiphhadhbokgmaa", sum := "6badb0b867eb10a4ad665547e069eebdc88e6f6b52d0badb2ae54524509f1cd6", func := "codemason/codemasonkeep.LinkPlace", spec := "linkPlace", apart := false, narrowed := true }
def LinkPlaceUptoSaid : Prop := linkPlaceUptoRow.holds Try.pinned (OpenSpec.upto linkPlaceSpec)

/-- 'codemasonkeep.LinkAlone', WHERE WHAT IT READS IS OF BULK AT MOST 1048576: true; the input reads as it did. -/
def linkAloneUptoRow : OpenClaim := { program := "ytiphhadhbokgmaa", sum := "6badb0b867eb10a4ad665547e069eebdc88e6f6b52d0badb2ae54524509f1cd6", func := "codemason/codemasonkeep.LinkAlone", spec := "linkAlone", apart := false, narrowed := true }
def LinkAloneUptoSaid : Prop := linkAloneUptoRow.holds Try.pinned (OpenSpec.upto linkAloneSpec)

end Rows
end Go.Proofs.Ytiphhadhbokgmaa
