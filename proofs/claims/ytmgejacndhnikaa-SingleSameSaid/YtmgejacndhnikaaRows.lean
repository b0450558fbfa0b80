/-
  NARROWER THAN 'FOR EVERY INPUT', by the rows' own cells (each row's printed sentence says how): ShapeBack: loops.
  DERIVED. THE GIVEN ROWS OF THIS SEAT. 9 by the template 'for every input the law returns true; each argument reads behind the call as it read before'; 0 by the template 'total and deterministic' (their statements: YtmgejacndhnikaaTotals.lean).
  GIVEN WITH THE SEED: the statements are not yours to turn. If you find one false, say at which input.
  Laid BY PROGRAM, IN A SANDBOX (cutbox-rows.mjs): the forced cells as the released guide's own fill.sh prints them over the translation 4a553edab729fcb2… (all of the seat's roots in one cut). By AI agents, Wed Nov 11 2026. No macro, syntax, notation, axiom, sorry.
-/
import Derived.Test.YtmgejacndhnikaaChecked
import GoSem.Claim
import GoSem.ClaimJoined
import GoSem.ClaimMapViews
import Derived.JoinedTies
import Derived.KernelRfl
namespace Go.Proofs.Ytmgejacndhnikaa
/- THE CELL 'sum', in the pinned program and in every row, IS THE sha256 OF THE DUMP (.gsa) THAT YtmgejacndhnikaaProg.lean LOADS. Nothing in Lean hashes anything: it is a label: what it is worth is what the hold of that sum in a sandbox is worth. -/
noncomputable def Try.pinned : Pinned := { name := "ytmgejacndhnikaa", sum := "4a553edab729fcb2b684fc7a5de48c5dbff40f8b409da69129d36d22f6af6c9b", checked := Try.checked }
namespace Rows
def none {H : Type} : Left H := { results := [], args := [] }

/-- 'codemasontop.TopShort': WHATEVER THE INPUT: true; the input reads as it did. -/
def topShortSpec : ChangeSpec := { name := "topShort", fn := fun _ => fun
  | [d1, d2, d3, d4] => { results := [.lit (.bool true)], args := [d1, d2, d3, d4] }
  | _ => none }
def topShortRow : OpenClaim := { program := "ytmgejacndhnikaa", sum := "4a553edab729fcb2b684fc7a5de48c5dbff40f8b409da69129d36d22f6af6c9b", func := "codemason/codemasontop.TopShort", spec := "topShort", unfollowed := true, recurses := true, plainKeys := false, apart := false }
def TopShortSaid : Prop := topShortRow.holds Try.pinned (OpenSpec.ofChange topShortSpec)

/-- ITS FALSE NEIGHBOUR: 'it returns false'. Refute it at one input. -/
def topShortWrong : ChangeSpec := { name := "topShort", fn := fun _ => fun
  | [d1, d2, d3, d4] => { results := [.lit (.bool false)], args := [d1, d2, d3, d4] }
  | _ => none }
def TopShortWrongFalsely : Prop := topShortRow.holds Try.pinned (OpenSpec.ofChange topShortWrong)

/-- 'codemasontop.TopSame': WHATEVER THE INPUT: true; the input reads as it did. -/
def topSameSpec : ChangeSpec := { name := "topSame", fn := fun _ => fun
  | [d1, d2, d3, d4, d5] => { results := [.lit (.bool true)], args := [d1, d2, d3, d4, d5] }
  | _ => none }
def topSameRow : OpenClaim := { program := "ytmgejacndhnikaa", sum := "4a553edab729fcb2b684fc7a5de48c5dbff40f8b409da69129d36d22f6af6c9b", func := "codemason/codemasontop.TopSame", spec := "topSame", unfollowed := true, recurses := true, plainKeys := false, apart := false }
def TopSameSaid : Prop := topSameRow.holds Try.pinned (OpenSpec.ofChange topSameSpec)

/-- ITS FALSE NEIGHBOUR: 'it returns false'. Refute it at one input. -/
def topSameWrong : ChangeSpec := { name := "topSame", fn := fun _ => fun
  | [d1, d2, d3, d4, d5] => { results := [.lit (.bool false)], args := [d1, d2, d3, d4, d5] }
  | _ => none }
def TopSameWrongFalsely : Prop := topSameRow.holds Try.pinned (OpenSpec.ofChange topSameWrong)

/-- 'codemasonkeep.SingleSame': WHATEVER THE INPUT: true; the input reads as it did. -/
def singleSameSpec : ChangeSpec := { name := "singleSame", fn := fun _ => fun
  | [d1, d2, d3] => { results := [.lit (.bool true)], args := [d1, d2, d3] }
  | _ => none }
def singleSameRow : OpenClaim := { program := "ytmgejacndhnikaa", sum := "4a553edab729fcb2b684fc7a5de48c5dbff40f8b409da69129d36d22f6af6c9b", func := "codemason/codemasonkeep.SingleSame", spec := "singleSame", unfollowed := true, recurses := true, plainKeys := false, apart := false }
def SingleSameSaid : Prop := singleSameRow.holds Try.pinned (OpenSpec.ofChange singleSameSpec)

/-- ITS FALSE NEIGHBOUR: 'it returns false'. Refute it at one input. -/
def singleSameWrong : ChangeSpec := { name := "singleSame", fn := fun _ => fun
  | [d1, d2, d3] => { results := [.lit (.bool false)], args := [d1, d2, d3] }
  | _ => none }
def SingleSameWrongFalsely : Prop := singleSameRow.holds Try.pinned (OpenSpec.ofChange singleSameWrong)

/-- 'codemasonkeep.WeakTwo': WHATEVER THE INPUT: true; the input reads as it did. -/
def weakTwoSpec : ChangeSpec := { name := "weakTwo", fn := fun _ => fun
  | [d1, d2, d3, d4, d5] => { results := [.lit (.bool true)], args := [d1, d2, d3, d4, d5] }
  | _ => none }
def weakTwoRow : OpenClaim := { program := "ytmgejacndhnikaa", sum := "4a553edab729fcb2b684fc7a5de48c5dbff40f8b409da69129d36d22f6af6c9b", func := "codemason/codemasonkeep.WeakTwo", spec := "weakTwo", unfollowed := true, recurses := true, plainKeys := false, apart := false }
def WeakTwoSaid : Prop := weakTwoRow.holds Try.pinned (OpenSpec.ofChange weakTwoSpec)

/-- ITS FALSE NEIGHBOUR: 'it returns false'. Refute it at one input. -/
def weakTwoWrong : ChangeSpec := { name := "weakTwo", fn := fun _ => fun
  | [d1, d2, d3, d4, d5] => { results := [.lit (.bool false)], args := [d1, d2, d3, d4, d5] }
  | _ => none }
def WeakTwoWrongFalsely : Prop := weakTwoRow.holds Try.pinned (OpenSpec.ofChange weakTwoWrong)

/-- 'codemasonkeep.WeakRule': WHATEVER THE INPUT: true; the input reads as it did. -/
def weakRuleSpec : ChangeSpec := { name := "weakRule", fn := fun _ => fun
  | [d1, d2, d3, d4] => { results := [.lit (.bool true)], args := [d1, d2, d3, d4] }
  | _ => none }
def weakRuleRow : OpenClaim := { program := "ytmgejacndhnikaa", sum := "4a553edab729fcb2b684fc7a5de48c5dbff40f8b409da69129d36d22f6af6c9b", func := "codemason/codemasonkeep.WeakRule", spec := "weakRule", unfollowed := true, recurses := true, plainKeys := false, apart := false }
def WeakRuleSaid : Prop := weakRuleRow.holds Try.pinned (OpenSpec.ofChange weakRuleSpec)

/-- ITS FALSE NEIGHBOUR: 'it returns false'. Refute it at one input. -/
def weakRuleWrong : ChangeSpec := { name := "weakRule", fn := fun _ => fun
  | [d1, d2, d3, d4] => { results := [.lit (.bool false)], args := [d1, d2, d3, d4] }
  | _ => none }
def WeakRuleWrongFalsely : Prop := weakRuleRow.holds Try.pinned (OpenSpec.ofChange weakRuleWrong)

/-- 'codemasonkeep.ShapeBack': WHATEVER THE INPUT: true; the input reads as it did. -/
def shapeBackSpec : ChangeSpec := { name := "shapeBack", fn := fun _ => fun
  | [d1, d2, d3] => { results := [.lit (.bool true)], args := [d1, d2, d3] }
  | _ => none }
def shapeBackRow : OpenClaim := { program := "ytmgejacndhnikaa", sum := "4a553edab729fcb2b684fc7a5de48c5dbff40f8b409da69129d36d22f6af6c9b", func := "codemason/codemasonkeep.ShapeBack", spec := "shapeBack", unfollowed := true, recurses := true, loops := true, plainKeys := false, apart := false }
def ShapeBackSaid : Prop := shapeBackRow.holds Try.pinned (OpenSpec.ofChange shapeBackSpec)

/-- ITS FALSE NEIGHBOUR: 'it returns false'. Refute it at one input. -/
def shapeBackWrong : ChangeSpec := { name := "shapeBack", fn := fun _ => fun
  | [d1, d2, d3] => { results := [.lit (.bool false)], args := [d1, d2, d3] }
  | _ => none }
def ShapeBackWrongFalsely : Prop := shapeBackRow.holds Try.pinned (OpenSpec.ofChange shapeBackWrong)

/-- 'codemasonkeep.TileMore': WHATEVER THE INPUT: true; the input reads as it did. -/
def tileMoreSpec : ChangeSpec := { name := "tileMore", fn := fun _ => fun
  | [d1, d2, d3, d4] => { results := [.lit (.bool true)], args := [d1, d2, d3, d4] }
  | _ => none }
def tileMoreRow : OpenClaim := { program := "ytmgejacndhnikaa", sum := "4a553edab729fcb2b684fc7a5de48c5dbff40f8b409da69129d36d22f6af6c9b", func := "codemason/codemasonkeep.TileMore", spec := "tileMore", plainKeys := false, apart := false }
def TileMoreSaid : Prop := tileMoreRow.holds Try.pinned (OpenSpec.ofChange tileMoreSpec)

/-- ITS FALSE NEIGHBOUR: 'it returns false'. Refute it at one input. -/
def tileMoreWrong : ChangeSpec := { name := "tileMore", fn := fun _ => fun
  | [d1, d2, d3, d4] => { results := [.lit (.bool false)], args := [d1, d2, d3, d4] }
  | _ => none }
def TileMoreWrongFalsely : Prop := tileMoreRow.holds Try.pinned (OpenSpec.ofChange tileMoreWrong)

/-- 'codemasonkeep.TilePlain': WHATEVER THE INPUT: true; the input reads as it did. -/
def tilePlainSpec : ChangeSpec := { name := "tilePlain", fn := fun _ => fun
  | [d1, d2] => { results := [.lit (.bool true)], args := [d1, d2] }
  | _ => none }
def tilePlainRow : OpenClaim := { program := "ytmgejacndhnikaa", sum := "4a553edab729fcb2b684fc7a5de48c5dbff40f8b409da69129d36d22f6af6c9b", func := "codemason/codemasonkeep.TilePlain", spec := "tilePlain", plainKeys := false, apart := false }
def TilePlainSaid : Prop := tilePlainRow.holds Try.pinned (OpenSpec.ofChange tilePlainSpec)

/-- ITS FALSE NEIGHBOUR: 'it returns false'. Refute it at one input. -/
def tilePlainWrong : ChangeSpec := { name := "tilePlain", fn := fun _ => fun
  | [d1, d2] => { results := [.lit (.bool false)], args := [d1, d2] }
  | _ => none }
def TilePlainWrongFalsely : Prop := tilePlainRow.holds Try.pinned (OpenSpec.ofChange tilePlainWrong)

/-- 'codemasonkeep.MachSame': WHATEVER THE INPUT: true; the input reads as it did. -/
def machSameSpec : ChangeSpec := { name := "machSame", fn := fun _ => fun
  | [d1, d2, d3] => { results := [.lit (.bool true)], args := [d1, d2, d3] }
  | _ => none }
def machSameRow : OpenClaim := { program := "ytmgejacndhnikaa", sum := "4a553edab729fcb2b684fc7a5de48c5dbff40f8b409da69129d36d22f6af6c9b", func := "codemason/codemasonkeep.MachSame", spec := "machSame", unfollowed := true, recurses := true, plainKeys := false, apart := false }
def MachSameSaid : Prop := machSameRow.holds Try.pinned (OpenSpec.ofChange machSameSpec)

/-- ITS FALSE NEIGHBOUR: 'it returns false'. Refute it at one input. -/
def machSameWrong : ChangeSpec := { name := "machSame", fn := fun _ => fun
  | [d1, d2, d3] => { results := [.lit (.bool false)], args := [d1, d2, d3] }
  | _ => none }
def MachSameWrongFalsely : Prop := machSameRow.holds Try.pinned (OpenSpec.ofChange machSameWrong)

/- THE SECOND FORM. 'bulk': how many values and letters a reading holds, each counted each time it is reached (what is shared counts as often as it is met; a slice's spare places count too). A statement '..UptoSaid' is the law's where the arguments, and the package variables that the reading takes, are together of bulk at most 1048576: NARROWER than '..Said'. Prove '..Said' where nothing that the law and all that it calls make is longer than what came in: it says more and counts as full. Else prove '..UptoSaid'. A law counts once. -/
mutual
def uptoBulk {H : Type} : DataW H → Nat
  | .lit (.string bytes) => bytes.length + 1
  | .lit _ => 1
  | .nil => 1
  | .ptr d => uptoBulk d + 1
  | .slice elems spare => uptoBulkAll elems + uptoBulkAll spare + 1
  | .agg parts => uptoBulkAll parts + 1
  | .iface _ d => uptoBulk d + 1
  | .map entries => uptoBulkEntries entries + 1
  | .held _ => 1
def uptoBulkAll {H : Type} : List (DataW H) → Nat
  | [] => 0
  | d :: r => uptoBulk d + uptoBulkAll r
def uptoBulkEntries {H : Type} : List (Lit × DataW H) → Nat
  | [] => 0
  | x :: r => uptoBulkEntry x + uptoBulkEntries r
def uptoBulkEntry {H : Type} : Lit × DataW H → Nat
  | (.string bytes, d) => bytes.length + uptoBulk d + 1
  | (_, d) => uptoBulk d + 1
 end
def uptoSmall : (H : Type) → List (DataW H) → Bool := fun _ ds => decide (uptoBulkAll ds ≤ 1048576)
def OpenSpec.upto (s : _root_.Go.ChangeSpec) : _root_.Go.OpenSpec := { _root_.Go.OpenSpec.ofChange s with cond := some uptoSmall }

/-- 'codemasontop.TopShort', WHERE WHAT IT READS IS OF BULK AT MOST 1048576: true; the input reads as it did. -/
def topShortUptoRow : OpenClaim := { program := "ytmgejacndhnikaa", sum := "4a553edab729fcb2b684fc7a5de48c5dbff40f8b409da69129d36d22f6af6c9b", func := "codemason/codemasontop.TopShort", spec := "topShort", unfollowed := true, recurses := true, plainKeys := false, apart := false, narrowed := true }
def TopShortUptoSaid : Prop := topShortUptoRow.holds Try.pinned (OpenSpec.upto topShortSpec)

/-- 'codemasontop.TopSame', WHERE WHAT IT READS IS OF BULK AT MOST 1048576: true; the input reads as it did. -/
def topSameUptoRow : OpenClaim := { program := "ytmgejacndhnikaa", sum := "4a553edab729fcb2b684fc7a5de48c5dbff40f8b409da69129d36d22f6af6c9b", func := "codemason/codemasontop.TopSame", spec := "topSame", unfollowed := true, recurses := true, plainKeys := false, apart := false, narrowed := true }
def TopSameUptoSaid : Prop := topSameUptoRow.holds Try.pinned (OpenSpec.upto topSameSpec)

/-- 'codemasonkeep.SingleSame', WHERE WHAT IT READS IS OF BULK AT MOST 1048576: true; the input reads as it did. -/
def singleSameUptoRow : OpenClaim := { program := "ytmgejacndhnikaa", sum := "4a553edab729fcb2b684fc7a5de48c5dbff40f8b409da69129d36d22f6af6c9b", func := "codemason/codemasonkeep.SingleSame", spec := "singleSame", unfollowed := true, recurses := true, plainKeys := false, apart := false, narrowed := true }
def SingleSameUptoSaid : Prop := singleSameUptoRow.holds Try.pinned (OpenSpec.upto singleSameSpec)

/-- 'codemasonkeep.WeakTwo', WHERE WHAT IT READS IS OF BULK AT MOST 1048576: true; the input reads as it did. -/
def weakTwoUptoRow : OpenClaim := { program := "ytmgejacndhnikaa", sum := "4a553edab729fcb2b684fc7a5de48c5dbff40f8b409da69129d36d22f6af6c9b", func := "codemason/codemasonkeep.WeakTwo", spec := "weakTwo", unfollowed := true, recurses := true, plainKeys := false, apart := false, narrowed := true }
def WeakTwoUptoSaid : Prop := weakTwoUptoRow.holds Try.pinned (OpenSpec.upto weakTwoSpec)

/-- 'codemasonkeep.WeakRule', WHERE WHAT IT READS IS OF BULK AT MOST 1048576: true; the input reads as it did. -/
def weakRuleUptoRow : OpenClaim := { program := "ytmgejacndhnikaa", sum := "4a553edab729fcb2b684fc7a5de48c5dbff40f8b409da69129d36d22f6af6c9b", func := "codemason/codemasonkeep.WeakRule", spec := "weakRule", unfollowed := true, recurses := true, plainKeys := false, apart := false, narrowed := true }
def WeakRuleUptoSaid : Prop := weakRuleUptoRow.holds Try.pinned (OpenSpec.upto weakRuleSpec)

/-- 'codemasonkeep.ShapeBack', WHERE WHAT IT READS IS OF BULK AT MOST 1048576: true; the input reads as it did. -/
def shapeBackUptoRow : OpenClaim := { program := "ytmgejacndhnikaa", sum := "4a553edab729fcb2b684fc7a5de48c5dbff40f8b409da69129d36d22f6af6c9b", func := "codemason/codemasonkeep.ShapeBack", spec := "shapeBack", unfollowed := true, recurses := true, loops := true, plainKeys := false, apart := false, narrowed := true }
def ShapeBackUptoSaid : Prop := shapeBackUptoRow.holds Try.pinned (OpenSpec.upto shapeBackSpec)

/-- 'codemasonkeep.TileMore', WHERE WHAT IT READS IS OF BULK AT MOST 1048576: true; the input reads as it did. -/
def tileMoreUptoRow : OpenClaim := { program := "ytmgejacndhnikaa", sum := "4a553edab729fcb2b684fc7a5de48c5dbff40f8b409da69129d36d22f6af6c9b", func := "codemason/codemasonkeep.TileMore", spec := "tileMore", plainKeys := false, apart := false, narrowed := true }
def TileMoreUptoSaid : Prop := tileMoreUptoRow.holds Try.pinned (OpenSpec.upto tileMoreSpec)

/-- 'codemasonkeep.TilePlain', WHERE WHAT IT READS IS OF BULK AT MOST 1048576: true; the input reads as it did. -/
def tilePlainUptoRow : OpenClaim := { program := "ytmgejacndhnikaa", sum := "4a553edab729fcb2b684fc7a5de48c5dbff40f8b409da69129d36d22f6af6c9b", func := "codemason/codemasonkeep.TilePlain", spec := "tilePlain", plainKeys := false, apart := false, narrowed := true }
def TilePlainUptoSaid : Prop := tilePlainUptoRow.holds Try.pinned (OpenSpec.upto tilePlainSpec)

/-- 'codemasonkeep.MachSame', WHERE WHAT IT READS IS OF BULK AT MOST 1048576: true; the input reads as it did. -/
def machSameUptoRow : OpenClaim := { program := "ytmgejacndhnikaa", sum := "4a553edab729fcb2b684fc7a5de48c5dbff40f8b409da69129d36d22f6af6c9b", func := "codemason/codemasonkeep.MachSame", spec := "machSame", unfollowed := true, recurses := true, plainKeys := false, apart := false, narrowed := true }
def MachSameUptoSaid : Prop := machSameUptoRow.holds Try.pinned (OpenSpec.upto machSameSpec)

end Rows
end Go.Proofs.Ytmgejacndhnikaa
