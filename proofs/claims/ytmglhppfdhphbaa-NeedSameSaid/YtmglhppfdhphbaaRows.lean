/-
  No cell of these rows narrows 'for every input' (looked for: loops, veiled, ifaces, maps, wideKeys, modest, calm, conditions, laid).
  DERIVED. THE GIVEN ROWS OF THIS SEAT. 11 by the template 'for every input the law returns true; each argument reads behind the call as it read before'; 0 by the template 'total and deterministic' (their statements: YtmglhppfdhphbaaTotals.lean).
  GIVEN WITH THE SEED: the statements are not yours to turn. If you find one false, say at which input.
  Laid BY PROGRAM, IN A SANDBOX (cutbox-rows.mjs): the forced cells as the released guide's own fill.sh prints them over the translation 90cf4534f073bfea… (all of the seat's roots in one cut). By AI agents, Wed Nov 11 2026. No macro, syntax, notation, axiom, sorry.
-/
import Derived.Test.YtmglhppfdhphbaaChecked
import GoSem.Claim
import GoSem.ClaimJoined
import GoSem.ClaimMapViews
import Derived.JoinedTies
import Derived.KernelRfl
namespace Go.Proofs.Ytmglhppfdhphbaa
/- THE CELL 'sum', in the pinned program and in every row, IS THE sha256 OF THE DUMP (.gsa) THAT YtmglhppfdhphbaaProg.lean LOADS. Nothing in Lean hashes anything: it is a label: what it is worth is what the hold of that sum in a sandbox is worth. -/
noncomputable def Try.pinned : Pinned := { name := "ytmglhppfdhphbaa", sum := "90cf4534f073bfeab8715c3581a6a66c54721ce2d3915f19bcd34593d9f495d5", checked := Try.checked }
namespace Rows
def none {H : Type} : Left H := { results := [], args := [] }

/-- 'codemasonkeep.ValueSame': WHATEVER THE INPUT: true; the input reads as it did. -/
def valueSameSpec : ChangeSpec := { name := "valueSame", fn := fun _ => fun
  | [d1, d2, d3, d4, d5, d6] => { results := [.lit (.bool true)], args := [d1, d2, d3, d4, d5, d6] }
  | _ => none }
def valueSameRow : OpenClaim := { program := "ytmglhppfdhphbaa", sum := "90cf4534f073bfeab8715c3581a6a66c54721ce2d3915f19bcd34593d9f495d5", func := "codemason/codemasonkeep.ValueSame", spec := "valueSame", plainKeys := false, apart := false }
def ValueSameSaid : Prop := valueSameRow.holds Try.pinned (OpenSpec.ofChange valueSameSpec)

/-- ITS FALSE NEIGHBOUR: 'it returns false'. Refute it at one input. -/
def valueSameWrong : ChangeSpec := { name := "valueSame", fn := fun _ => fun
  | [d1, d2, d3, d4, d5, d6] => { results := [.lit (.bool false)], args := [d1, d2, d3, d4, d5, d6] }
  | _ => none }
def ValueSameWrongFalsely : Prop := valueSameRow.holds Try.pinned (OpenSpec.ofChange valueSameWrong)

/-- 'codemasonkeep.NeedErshov': WHATEVER THE INPUT: true; the input reads as it did. -/
def needErshovSpec : ChangeSpec := { name := "needErshov", fn := fun _ => fun
  | [d1, d2] => { results := [.lit (.bool true)], args := [d1, d2] }
  | _ => none }
def needErshovRow : OpenClaim := { program := "ytmglhppfdhphbaa", sum := "90cf4534f073bfeab8715c3581a6a66c54721ce2d3915f19bcd34593d9f495d5", func := "codemason/codemasonkeep.NeedErshov", spec := "needErshov", plainKeys := false, apart := false }
def NeedErshovSaid : Prop := needErshovRow.holds Try.pinned (OpenSpec.ofChange needErshovSpec)

/-- ITS FALSE NEIGHBOUR: 'it returns false'. Refute it at one input. -/
def needErshovWrong : ChangeSpec := { name := "needErshov", fn := fun _ => fun
  | [d1, d2] => { results := [.lit (.bool false)], args := [d1, d2] }
  | _ => none }
def NeedErshovWrongFalsely : Prop := needErshovRow.holds Try.pinned (OpenSpec.ofChange needErshovWrong)

/-- 'codemasonkeep.TermTwo': WHATEVER THE INPUT: true; the input reads as it did. -/
def termTwoSpec : ChangeSpec := { name := "termTwo", fn := fun _ => fun
  | [d1, d2, d3, d4, d5] => { results := [.lit (.bool true)], args := [d1, d2, d3, d4, d5] }
  | _ => none }
def termTwoRow : OpenClaim := { program := "ytmglhppfdhphbaa", sum := "90cf4534f073bfeab8715c3581a6a66c54721ce2d3915f19bcd34593d9f495d5", func := "codemason/codemasonkeep.TermTwo", spec := "termTwo", unfollowed := true, recurses := true, plainKeys := false, apart := false }
def TermTwoSaid : Prop := termTwoRow.holds Try.pinned (OpenSpec.ofChange termTwoSpec)

/-- ITS FALSE NEIGHBOUR: 'it returns false'. Refute it at one input. -/
def termTwoWrong : ChangeSpec := { name := "termTwo", fn := fun _ => fun
  | [d1, d2, d3, d4, d5] => { results := [.lit (.bool false)], args := [d1, d2, d3, d4, d5] }
  | _ => none }
def TermTwoWrongFalsely : Prop := termTwoRow.holds Try.pinned (OpenSpec.ofChange termTwoWrong)

/-- 'codemasonkeep.NeedJust': WHATEVER THE INPUT: true; the input reads as it did. -/
def needJustSpec : ChangeSpec := { name := "needJust", fn := fun _ => fun
  | [d1, d2] => { results := [.lit (.bool true)], args := [d1, d2] }
  | _ => none }
def needJustRow : OpenClaim := { program := "ytmglhppfdhphbaa", sum := "90cf4534f073bfeab8715c3581a6a66c54721ce2d3915f19bcd34593d9f495d5", func := "codemason/codemasonkeep.NeedJust", spec := "needJust", recurses := true, plainKeys := false, apart := false }
def NeedJustSaid : Prop := needJustRow.holds Try.pinned (OpenSpec.ofChange needJustSpec)

/-- ITS FALSE NEIGHBOUR: 'it returns false'. Refute it at one input. -/
def needJustWrong : ChangeSpec := { name := "needJust", fn := fun _ => fun
  | [d1, d2] => { results := [.lit (.bool false)], args := [d1, d2] }
  | _ => none }
def NeedJustWrongFalsely : Prop := needJustRow.holds Try.pinned (OpenSpec.ofChange needJustWrong)

/-- 'codemasonkeep.TermFold': WHATEVER THE INPUT: true; the input reads as it did. -/
def termFoldSpec : ChangeSpec := { name := "termFold", fn := fun _ => fun
  | [d1, d2] => { results := [.lit (.bool true)], args := [d1, d2] }
  | _ => none }
def termFoldRow : OpenClaim := { program := "ytmglhppfdhphbaa", sum := "90cf4534f073bfeab8715c3581a6a66c54721ce2d3915f19bcd34593d9f495d5", func := "codemason/codemasonkeep.TermFold", spec := "termFold", unfollowed := true, recurses := true, plainKeys := false, apart := false }
def TermFoldSaid : Prop := termFoldRow.holds Try.pinned (OpenSpec.ofChange termFoldSpec)

/-- ITS FALSE NEIGHBOUR: 'it returns false'. Refute it at one input. -/
def termFoldWrong : ChangeSpec := { name := "termFold", fn := fun _ => fun
  | [d1, d2] => { results := [.lit (.bool false)], args := [d1, d2] }
  | _ => none }
def TermFoldWrongFalsely : Prop := termFoldRow.holds Try.pinned (OpenSpec.ofChange termFoldWrong)

/-- 'codemasonkeep.TermUse': WHATEVER THE INPUT: true; the input reads as it did. -/
def termUseSpec : ChangeSpec := { name := "termUse", fn := fun _ => fun
  | [d1, d2, d3, d4] => { results := [.lit (.bool true)], args := [d1, d2, d3, d4] }
  | _ => none }
def termUseRow : OpenClaim := { program := "ytmglhppfdhphbaa", sum := "90cf4534f073bfeab8715c3581a6a66c54721ce2d3915f19bcd34593d9f495d5", func := "codemason/codemasonkeep.TermUse", spec := "termUse", unfollowed := true, recurses := true, plainKeys := false, apart := false }
def TermUseSaid : Prop := termUseRow.holds Try.pinned (OpenSpec.ofChange termUseSpec)

/-- ITS FALSE NEIGHBOUR: 'it returns false'. Refute it at one input. -/
def termUseWrong : ChangeSpec := { name := "termUse", fn := fun _ => fun
  | [d1, d2, d3, d4] => { results := [.lit (.bool false)], args := [d1, d2, d3, d4] }
  | _ => none }
def TermUseWrongFalsely : Prop := termUseRow.holds Try.pinned (OpenSpec.ofChange termUseWrong)

/-- 'codemasonkeep.StackNeed': WHATEVER THE INPUT: true; the input reads as it did. -/
def stackNeedSpec : ChangeSpec := { name := "stackNeed", fn := fun _ => fun
  | [d1, d2] => { results := [.lit (.bool true)], args := [d1, d2] }
  | _ => none }
def stackNeedRow : OpenClaim := { program := "ytmglhppfdhphbaa", sum := "90cf4534f073bfeab8715c3581a6a66c54721ce2d3915f19bcd34593d9f495d5", func := "codemason/codemasonkeep.StackNeed", spec := "stackNeed", unfollowed := true, recurses := true, plainKeys := false, apart := false }
def StackNeedSaid : Prop := stackNeedRow.holds Try.pinned (OpenSpec.ofChange stackNeedSpec)

/-- ITS FALSE NEIGHBOUR: 'it returns false'. Refute it at one input. -/
def stackNeedWrong : ChangeSpec := { name := "stackNeed", fn := fun _ => fun
  | [d1, d2] => { results := [.lit (.bool false)], args := [d1, d2] }
  | _ => none }
def StackNeedWrongFalsely : Prop := stackNeedRow.holds Try.pinned (OpenSpec.ofChange stackNeedWrong)

/-- 'codemasonkeep.ValueLeast': WHATEVER THE INPUT: true; the input reads as it did. -/
def valueLeastSpec : ChangeSpec := { name := "valueLeast", fn := fun _ => fun
  | [d1, d2, d3] => { results := [.lit (.bool true)], args := [d1, d2, d3] }
  | _ => none }
def valueLeastRow : OpenClaim := { program := "ytmglhppfdhphbaa", sum := "90cf4534f073bfeab8715c3581a6a66c54721ce2d3915f19bcd34593d9f495d5", func := "codemason/codemasonkeep.ValueLeast", spec := "valueLeast", unfollowed := true, recurses := true, plainKeys := false, apart := false }
def ValueLeastSaid : Prop := valueLeastRow.holds Try.pinned (OpenSpec.ofChange valueLeastSpec)

/-- ITS FALSE NEIGHBOUR: 'it returns false'. Refute it at one input. -/
def valueLeastWrong : ChangeSpec := { name := "valueLeast", fn := fun _ => fun
  | [d1, d2, d3] => { results := [.lit (.bool false)], args := [d1, d2, d3] }
  | _ => none }
def ValueLeastWrongFalsely : Prop := valueLeastRow.holds Try.pinned (OpenSpec.ofChange valueLeastWrong)

/-- 'codemasonkeep.StackBack': WHATEVER THE INPUT: true; the input reads as it did. -/
def stackBackSpec : ChangeSpec := { name := "stackBack", fn := fun _ => fun
  | [d1, d2] => { results := [.lit (.bool true)], args := [d1, d2] }
  | _ => none }
def stackBackRow : OpenClaim := { program := "ytmglhppfdhphbaa", sum := "90cf4534f073bfeab8715c3581a6a66c54721ce2d3915f19bcd34593d9f495d5", func := "codemason/codemasonkeep.StackBack", spec := "stackBack", unfollowed := true, recurses := true, plainKeys := false, apart := false }
def StackBackSaid : Prop := stackBackRow.holds Try.pinned (OpenSpec.ofChange stackBackSpec)

/-- ITS FALSE NEIGHBOUR: 'it returns false'. Refute it at one input. -/
def stackBackWrong : ChangeSpec := { name := "stackBack", fn := fun _ => fun
  | [d1, d2] => { results := [.lit (.bool false)], args := [d1, d2] }
  | _ => none }
def StackBackWrongFalsely : Prop := stackBackRow.holds Try.pinned (OpenSpec.ofChange stackBackWrong)

/-- 'codemasonkeep.NeedSame': WHATEVER THE INPUT: true; the input reads as it did. -/
def needSameSpec : ChangeSpec := { name := "needSame", fn := fun _ => fun
  | [d1, d2, d3] => { results := [.lit (.bool true)], args := [d1, d2, d3] }
  | _ => none }
def needSameRow : OpenClaim := { program := "ytmglhppfdhphbaa", sum := "90cf4534f073bfeab8715c3581a6a66c54721ce2d3915f19bcd34593d9f495d5", func := "codemason/codemasonkeep.NeedSame", spec := "needSame", unfollowed := true, recurses := true, plainKeys := false, apart := false }
def NeedSameSaid : Prop := needSameRow.holds Try.pinned (OpenSpec.ofChange needSameSpec)

/-- ITS FALSE NEIGHBOUR: 'it returns false'. Refute it at one input. -/
def needSameWrong : ChangeSpec := { name := "needSame", fn := fun _ => fun
  | [d1, d2, d3] => { results := [.lit (.bool false)], args := [d1, d2, d3] }
  | _ => none }
def NeedSameWrongFalsely : Prop := needSameRow.holds Try.pinned (OpenSpec.ofChange needSameWrong)

/-- 'codemasonkeep.StackSame': WHATEVER THE INPUT: true; the input reads as it did. -/
def stackSameSpec : ChangeSpec := { name := "stackSame", fn := fun _ => fun
  | [d1, d2, d3] => { results := [.lit (.bool true)], args := [d1, d2, d3] }
  | _ => none }
def stackSameRow : OpenClaim := { program := "ytmglhppfdhphbaa", sum := "90cf4534f073bfeab8715c3581a6a66c54721ce2d3915f19bcd34593d9f495d5", func := "codemason/codemasonkeep.StackSame", spec := "stackSame", unfollowed := true, recurses := true, plainKeys := false, apart := false }
def StackSameSaid : Prop := stackSameRow.holds Try.pinned (OpenSpec.ofChange stackSameSpec)

/-- ITS FALSE NEIGHBOUR: 'it returns false'. Refute it at one input. -/
def stackSameWrong : ChangeSpec := { name := "stackSame", fn := fun _ => fun
  | [d1, d2, d3] => { results := [.lit (.bool false)], args := [d1, d2, d3] }
  | _ => none }
def StackSameWrongFalsely : Prop := stackSameRow.holds Try.pinned (OpenSpec.ofChange stackSameWrong)

/- THE SECOND FORM. 'bulk': how many values and letters a reading holds, each counted each time it is reached (what is shared counts as often as it is met; a slice's spare places count too). A statement '..UptoSaid' is the law's where the arguments, and the package variables that the reading takes, are together of bulk at most 1048576: NARROWER than '..Said'. Prove '..Said' where nothing that the law and all that it calls make is longer than what came in: it says more and counts as full. Else prove '..UptoSaid'. A law counts once. -/
mutual
def uptoBulk {H : Type} : DataW H → Nat
  | .lit (.string bytes) => bytes.length + 1
  | .lit _ => 1
  | .nil => 1
  | .ptr d => uptoBulk d + 1
  | .slice elems spare => uptoBulkAll elems + uptoBulkAll spare + 1
  | .agg parts => uptoBulkAll parts + 1
  | .iface _ d => uptoBulk d + 1
  | .map entries => uptoBulkEntries entries + 1
  | .held _ => 1
def uptoBulkAll {H : Type} : List (DataW H) → Nat
  | [] => 0
  | d :: r => uptoBulk d + uptoBulkAll r
def uptoBulkEntries {H : Type} : List (Lit × DataW H) → Nat
  | [] => 0
  | x :: r => uptoBulkEntry x + uptoBulkEntries r
def uptoBulkEntry {H : Type} : Lit × DataW H → Nat
  | (.string bytes, d) => bytes.length + uptoBulk d + 1
  | (_, d) => uptoBulk d + 1
 end
def uptoSmall : (H : Type) → List (DataW H) → Bool := fun _ ds => decide (uptoBulkAll ds ≤ 1048576)
def OpenSpec.upto (s : _root_.Go.ChangeSpec) : _root_.Go.OpenSpec := { _root_.Go.OpenSpec.ofChange s with cond := some uptoSmall }

/-- 'codemasonkeep.ValueSame', WHERE WHAT IT READS IS OF BULK AT MOST 1048576: true; the input reads as it did. -/
def valueSameUptoRow : OpenClaim := { program := "ytmglhppfdhphbaa", sum := "90cf4534f073bfeab8715c3581a6a66c54721ce2d3915f19bcd34593d9f495d5", func := "codemason/codemasonkeep.ValueSame", spec := "valueSame", plainKeys := false, apart := false, narrowed := true }
def ValueSameUptoSaid : Prop := valueSameUptoRow.holds Try.pinned (OpenSpec.upto valueSameSpec)

/-- 'codemasonkeep.NeedErshov', WHERE WHAT IT READS IS OF BULK AT MOST 1048576: true; the input reads as it did. -/
def needErshovUptoRow : OpenClaim := { program := "ytmglhppfdhphbaa", sum := "90cf4534f073bfeab8715c3581a6a66c54721ce2d3915f19bcd34593d9f495d5", func := "codemason/codemasonkeep.NeedErshov", spec := "needErshov", plainKeys := false, apart := false, narrowed := true }
def NeedErshovUptoSaid : Prop := needErshovUptoRow.holds Try.pinned (OpenSpec.upto needErshovSpec)

/-- 'codemasonkeep.TermTwo', WHERE WHAT IT READS IS OF BULK AT MOST 1048576: true; the input reads as it did. -/
def termTwoUptoRow : OpenClaim := { program := "ytmglhppfdhphbaa", sum := "90cf4534f073bfeab8715c3581a6a66c54721ce2d3915f19bcd34593d9f495d5", func := "codemason/codemasonkeep.TermTwo", spec := "termTwo", unfollowed := true, recurses := true, plainKeys := false, apart := false, narrowed := true }
def TermTwoUptoSaid : Prop := termTwoUptoRow.holds Try.pinned (OpenSpec.upto termTwoSpec)

/-- 'codemasonkeep.NeedJust', WHERE WHAT IT READS IS OF BULK AT MOST 1048576: true; the input reads as it did. -/
def needJustUptoRow : OpenClaim := { program := "ytmglhppfdhphbaa", sum := "90cf4534f073bfeab8715c3581a6a66c54721ce2d3915f19bcd34593d9f495d5", func := "codemason/codemasonkeep.NeedJust", spec := "needJust", recurses := true, plainKeys := false, apart := false, narrowed := true }
def NeedJustUptoSaid : Prop := needJustUptoRow.holds Try.pinned (OpenSpec.upto needJustSpec)

/-- 'codemasonkeep.TermFold', WHERE WHAT IT READS IS OF BULK AT MOST 1048576: true; the input reads as it did. -/
def termFoldUptoRow : OpenClaim := { program := "ytmglhppfdhphbaa", sum := "90cf4534f073bfeab8715c3581a6a66c54721ce2d3915f19bcd34593d9f495d5", func := "codemason/codemasonkeep.TermFold", spec := "termFold", unfollowed := true, recurses := true, plainKeys := false, apart := false, narrowed := true }
def TermFoldUptoSaid : Prop := termFoldUptoRow.holds Try.pinned (OpenSpec.upto termFoldSpec)

/-- 'codemasonkeep.TermUse', WHERE WHAT IT READS IS OF BULK AT MOST 1048576: true; the input reads as it did. -/
def termUseUptoRow : OpenClaim := { program := "ytmglhppfdhphbaa", sum := "90cf4534f073bfeab8715c3581a6a66c54721ce2d3915f19bcd34593d9f495d5", func := "codemason/codemasonkeep.TermUse", spec := "termUse", unfollowed := true, recurses := true, plainKeys := false, apart := false, narrowed := true }
def TermUseUptoSaid : Prop := termUseUptoRow.holds Try.pinned (OpenSpec.upto termUseSpec)

/-- 'codemasonkeep.StackNeed', WHERE WHAT IT READS IS OF BULK AT MOST 1048576: true; the input reads as it did. -/
def stackNeedUptoRow : OpenClaim := { program := "ytmglhppfdhphbaa", sum := "90cf4534f073bfeab8715c3581a6a66c54721ce2d3915f19bcd34593d9f495d5", func := "codemason/codemasonkeep.StackNeed", spec := "stackNeed", unfollowed := true, recurses := true, plainKeys := false, apart := false, narrowed := true }
def StackNeedUptoSaid : Prop := stackNeedUptoRow.holds Try.pinned (OpenSpec.upto stackNeedSpec)

/-- 'codemasonkeep.ValueLeast', WHERE WHAT IT READS IS OF BULK AT MOST 1048576: true; the input reads as it did. -/
def valueLeastUptoRow : OpenClaim := { program := "ytmglhppfdhphbaa", sum := "90cf4534f073bfeab8715c3581a6a66c54721ce2d3915f19bcd34593d9f495d5", func := "codemason/codemasonkeep.ValueLeast", spec := "valueLeast", unfollowed := true, recurses := true, plainKeys := false, apart := false, narrowed := true }
def ValueLeastUptoSaid : Prop := valueLeastUptoRow.holds Try.pinned (OpenSpec.upto valueLeastSpec)

/-- 'codemasonkeep.StackBack', WHERE WHAT IT READS IS OF BULK AT MOST 1048576: true; the input reads as it did. -/
def stackBackUptoRow : OpenClaim := { program := "ytmglhppfdhphbaa", sum := "90cf4534f073bfeab8715c3581a6a66c54721ce2d3915f19bcd34593d9f495d5", func := "codemason/codemasonkeep.StackBack", spec := "stackBack", unfollowed := true, recurses := true, plainKeys := false, apart := false, narrowed := true }
def StackBackUptoSaid : Prop := stackBackUptoRow.holds Try.pinned (OpenSpec.upto stackBackSpec)

/-- 'codemasonkeep.NeedSame', WHERE WHAT IT READS IS OF BULK AT MOST 1048576: true; the input reads as it did. -/
def needSameUptoRow : OpenClaim := { program := "ytmglhppfdhphbaa", sum := "90cf4534f073bfeab8715c3581a6a66c54721ce2d3915f19bcd34593d9f495d5", func := "codemason/codemasonkeep.NeedSame", spec := "needSame", unfollowed := true, recurses := true, plainKeys := false, apart := false, narrowed := true }
def NeedSameUptoSaid : Prop := needSameUptoRow.holds Try.pinned (OpenSpec.upto needSameSpec)

/-- 'codemasonkeep.StackSame', WHERE WHAT IT READS IS OF BULK AT MOST 1048576: true; the input reads as it did. -/
def stackSameUptoRow : OpenClaim := { program := "ytmglhppfdhphbaa", sum := "90cf4534f073bfeab8715c3581a6a66c54721ce2d3915f19bcd34593d9f495d5", func := "codemason/codemasonkeep.StackSame", spec := "stackSame", unfollowed := true, recurses := true, plainKeys := false, apart := false, narrowed := true }
def StackSameUptoSaid : Prop := stackSameUptoRow.holds Try.pinned (OpenSpec.upto stackSameSpec)

end Rows
end Go.Proofs.Ytmglhppfdhphbaa
