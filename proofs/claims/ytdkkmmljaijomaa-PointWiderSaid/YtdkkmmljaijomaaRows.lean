/-
  No cell of these rows narrows 'for every input' (looked for: loops, veiled, ifaces, maps, wideKeys, modest, calm, conditions, laid).
  DERIVED. THE GIVEN ROWS OF THIS SEAT. 11 by the template 'for every input the law returns true; each argument reads behind the call as it read before'; 0 by the template 'total and deterministic' (their statements: YtdkkmmljaijomaaTotals.lean).
  GIVEN WITH THE SEED: the statements are not yours to turn. If you find one false, say at which input.
  Laid BY PROGRAM, IN A SANDBOX (cutbox-rows.mjs): the forced cells as the released guide's own fill.sh prints them over the translation 812a8f16305041ae… (all of the seat's roots in one cut). By AI agents, Wed Nov 11 2026. No macro, syntax, notation, axiom, sorry.
-/
import Derived.Test.YtdkkmmljaijomaaChecked
import GoSem.Claim
import GoSem.ClaimJoined
import GoSem.ClaimMapViews
import Derived.JoinedTies
import Derived.KernelRfl
namespace Go.Proofs.Ytdkkmmljaijomaa
/- THE CELL 'sum', in the pinned program and in every row, IS THE sha256 OF THE DUMP (.gsa) THAT YtdkkmmljaijomaaProg.lean LOADS. Nothing in Lean hashes anything: it is a label: what it is worth is what the hold of that sum in a sandbox is worth. -/
noncomputable def Try.pinned : Pinned := { name := "ytdkkmmljaijomaa", sum := "812a8f16305041aefd5845b05f09e0834e0de451235a17a8674565dce3d6823d", checked := Try.checked }
namespace Rows
def none {H : Type} : Left H := { results := [], args := [] }

/-- 'codemasonkeep.HoldMore': WHATEVER THE INPUT: true; the input reads as it did. -/
def holdMoreSpec : ChangeSpec := { name := "holdMore", fn := fun _ => fun
  | [d1, d2] => { results := [.lit (.bool true)], args := [d1, d2] }
  | _ => none }
def holdMoreRow : OpenClaim := { program := "ytdkkmmljaijomaa", sum := "812a8f16305041aefd5845b05f09e0834e0de451235a17a8674565dce3d6823d", func := "codemason/codemasonkeep.HoldMore", spec := "holdMore", unfollowed := true, recurses := true, apart := false }
def HoldMoreSaid : Prop := holdMoreRow.holds Try.pinned (OpenSpec.ofChange holdMoreSpec)

/-- ITS FALSE NEIGHBOUR: 'it returns false'. Refute it at one input. -/
def holdMoreWrong : ChangeSpec := { name := "holdMore", fn := fun _ => fun
  | [d1, d2] => { results := [.lit (.bool false)], args := [d1, d2] }
  | _ => none }
def HoldMoreWrongFalsely : Prop := holdMoreRow.holds Try.pinned (OpenSpec.ofChange holdMoreWrong)

/-- 'codemasonkeep.HoldSleator': WHATEVER THE INPUT: true; the input reads as it did. -/
def holdSleatorSpec : ChangeSpec := { name := "holdSleator", fn := fun _ => fun
  | [d1, d2, d3] => { results := [.lit (.bool true)], args := [d1, d2, d3] }
  | _ => none }
def holdSleatorRow : OpenClaim := { program := "ytdkkmmljaijomaa", sum := "812a8f16305041aefd5845b05f09e0834e0de451235a17a8674565dce3d6823d", func := "codemason/codemasonkeep.HoldSleator", spec := "holdSleator", unfollowed := true, recurses := true, apart := false }
def HoldSleatorSaid : Prop := holdSleatorRow.holds Try.pinned (OpenSpec.ofChange holdSleatorSpec)

/-- ITS FALSE NEIGHBOUR: 'it returns false'. Refute it at one input. -/
def holdSleatorWrong : ChangeSpec := { name := "holdSleator", fn := fun _ => fun
  | [d1, d2, d3] => { results := [.lit (.bool false)], args := [d1, d2, d3] }
  | _ => none }
def HoldSleatorWrongFalsely : Prop := holdSleatorRow.holds Try.pinned (OpenSpec.ofChange holdSleatorWrong)

/-- 'codemasonkeep.HoldBelady': WHATEVER THE INPUT: true; the input reads as it did. -/
def holdBeladySpec : ChangeSpec := { name := "holdBelady", fn := fun _ => fun
  | [d1, d2, d3] => { results := [.lit (.bool true)], args := [d1, d2, d3] }
  | _ => none }
def holdBeladyRow : OpenClaim := { program := "ytdkkmmljaijomaa", sum := "812a8f16305041aefd5845b05f09e0834e0de451235a17a8674565dce3d6823d", func := "codemason/codemasonkeep.HoldBelady", spec := "holdBelady", unfollowed := true, recurses := true, apart := false }
def HoldBeladySaid : Prop := holdBeladyRow.holds Try.pinned (OpenSpec.ofChange holdBeladySpec)

/-- ITS FALSE NEIGHBOUR: 'it returns false'. Refute it at one input. -/
def holdBeladyWrong : ChangeSpec := { name := "holdBelady", fn := fun _ => fun
  | [d1, d2, d3] => { results := [.lit (.bool false)], args := [d1, d2, d3] }
  | _ => none }
def HoldBeladyWrongFalsely : Prop := holdBeladyRow.holds Try.pinned (OpenSpec.ofChange holdBeladyWrong)

/-- 'codemasonkeep.HoldAll': WHATEVER THE INPUT: true; the input reads as it did. -/
def holdAllSpec : ChangeSpec := { name := "holdAll", fn := fun _ => fun
  | [d1, d2] => { results := [.lit (.bool true)], args := [d1, d2] }
  | _ => none }
def holdAllRow : OpenClaim := { program := "ytdkkmmljaijomaa", sum := "812a8f16305041aefd5845b05f09e0834e0de451235a17a8674565dce3d6823d", func := "codemason/codemasonkeep.HoldAll", spec := "holdAll", unfollowed := true, recurses := true, apart := false }
def HoldAllSaid : Prop := holdAllRow.holds Try.pinned (OpenSpec.ofChange holdAllSpec)

/-- ITS FALSE NEIGHBOUR: 'it returns false'. Refute it at one input. -/
def holdAllWrong : ChangeSpec := { name := "holdAll", fn := fun _ => fun
  | [d1, d2] => { results := [.lit (.bool false)], args := [d1, d2] }
  | _ => none }
def HoldAllWrongFalsely : Prop := holdAllRow.holds Try.pinned (OpenSpec.ofChange holdAllWrong)

/-- 'codemasonkeep.PlanOne': WHATEVER THE INPUT: true; the input reads as it did. -/
def planOneSpec : ChangeSpec := { name := "planOne", fn := fun _ => fun
  | [d1, d2, d3] => { results := [.lit (.bool true)], args := [d1, d2, d3] }
  | _ => none }
def planOneRow : OpenClaim := { program := "ytdkkmmljaijomaa", sum := "812a8f16305041aefd5845b05f09e0834e0de451235a17a8674565dce3d6823d", func := "codemason/codemasonkeep.PlanOne", spec := "planOne", apart := false }
def PlanOneSaid : Prop := planOneRow.holds Try.pinned (OpenSpec.ofChange planOneSpec)

/-- ITS FALSE NEIGHBOUR: 'it returns false'. Refute it at one input. -/
def planOneWrong : ChangeSpec := { name := "planOne", fn := fun _ => fun
  | [d1, d2, d3] => { results := [.lit (.bool false)], args := [d1, d2, d3] }
  | _ => none }
def PlanOneWrongFalsely : Prop := planOneRow.holds Try.pinned (OpenSpec.ofChange planOneWrong)

/-- 'codemasonkeep.PlanLevel': WHATEVER THE INPUT: true; the input reads as it did. -/
def planLevelSpec : ChangeSpec := { name := "planLevel", fn := fun _ => fun
  | [d1, d2, d3] => { results := [.lit (.bool true)], args := [d1, d2, d3] }
  | _ => none }
def planLevelRow : OpenClaim := { program := "ytdkkmmljaijomaa", sum := "812a8f16305041aefd5845b05f09e0834e0de451235a17a8674565dce3d6823d", func := "codemason/codemasonkeep.PlanLevel", spec := "planLevel", apart := false }
def PlanLevelSaid : Prop := planLevelRow.holds Try.pinned (OpenSpec.ofChange planLevelSpec)

/-- ITS FALSE NEIGHBOUR: 'it returns false'. Refute it at one input. -/
def planLevelWrong : ChangeSpec := { name := "planLevel", fn := fun _ => fun
  | [d1, d2, d3] => { results := [.lit (.bool false)], args := [d1, d2, d3] }
  | _ => none }
def PlanLevelWrongFalsely : Prop := planLevelRow.holds Try.pinned (OpenSpec.ofChange planLevelWrong)

/-- 'codemasonkeep.PlanGraham': WHATEVER THE INPUT: true; the input reads as it did. -/
def planGrahamSpec : ChangeSpec := { name := "planGraham", fn := fun _ => fun
  | [d1, d2, d3, d4] => { results := [.lit (.bool true)], args := [d1, d2, d3, d4] }
  | _ => none }
def planGrahamRow : OpenClaim := { program := "ytdkkmmljaijomaa", sum := "812a8f16305041aefd5845b05f09e0834e0de451235a17a8674565dce3d6823d", func := "codemason/codemasonkeep.PlanGraham", spec := "planGraham", apart := false }
def PlanGrahamSaid : Prop := planGrahamRow.holds Try.pinned (OpenSpec.ofChange planGrahamSpec)

/-- ITS FALSE NEIGHBOUR: 'it returns false'. Refute it at one input. -/
def planGrahamWrong : ChangeSpec := { name := "planGraham", fn := fun _ => fun
  | [d1, d2, d3, d4] => { results := [.lit (.bool false)], args := [d1, d2, d3, d4] }
  | _ => none }
def PlanGrahamWrongFalsely : Prop := planGrahamRow.holds Try.pinned (OpenSpec.ofChange planGrahamWrong)

/-- 'codemasonkeep.PlanHu': WHATEVER THE INPUT: true; the input reads as it did. -/
def planHuSpec : ChangeSpec := { name := "planHu", fn := fun _ => fun
  | [d1, d2, d3] => { results := [.lit (.bool true)], args := [d1, d2, d3] }
  | _ => none }
def planHuRow : OpenClaim := { program := "ytdkkmmljaijomaa", sum := "812a8f16305041aefd5845b05f09e0834e0de451235a17a8674565dce3d6823d", func := "codemason/codemasonkeep.PlanHu", spec := "planHu", apart := false }
def PlanHuSaid : Prop := planHuRow.holds Try.pinned (OpenSpec.ofChange planHuSpec)

/-- ITS FALSE NEIGHBOUR: 'it returns false'. Refute it at one input. -/
def planHuWrong : ChangeSpec := { name := "planHu", fn := fun _ => fun
  | [d1, d2, d3] => { results := [.lit (.bool false)], args := [d1, d2, d3] }
  | _ => none }
def PlanHuWrongFalsely : Prop := planHuRow.holds Try.pinned (OpenSpec.ofChange planHuWrong)

/-- 'codemasonkeep.PointMore': WHATEVER THE INPUT: true; the input reads as it did. -/
def pointMoreSpec : ChangeSpec := { name := "pointMore", fn := fun _ => fun
  | [d1, d2, d3] => { results := [.lit (.bool true)], args := [d1, d2, d3] }
  | _ => none }
def pointMoreRow : OpenClaim := { program := "ytdkkmmljaijomaa", sum := "812a8f16305041aefd5845b05f09e0834e0de451235a17a8674565dce3d6823d", func := "codemason/codemasonkeep.PointMore", spec := "pointMore", unfollowed := true, recurses := true, apart := false }
def PointMoreSaid : Prop := pointMoreRow.holds Try.pinned (OpenSpec.ofChange pointMoreSpec)

/-- ITS FALSE NEIGHBOUR: 'it returns false'. Refute it at one input. -/
def pointMoreWrong : ChangeSpec := { name := "pointMore", fn := fun _ => fun
  | [d1, d2, d3] => { results := [.lit (.bool false)], args := [d1, d2, d3] }
  | _ => none }
def PointMoreWrongFalsely : Prop := pointMoreRow.holds Try.pinned (OpenSpec.ofChange pointMoreWrong)

/-- 'codemasonkeep.PointSafe': WHATEVER THE INPUT: true; the input reads as it did. -/
def pointSafeSpec : ChangeSpec := { name := "pointSafe", fn := fun _ => fun
  | [d1, d2, d3] => { results := [.lit (.bool true)], args := [d1, d2, d3] }
  | _ => none }
def pointSafeRow : OpenClaim := { program := "ytdkkmmljaijomaa", sum := "812a8f16305041aefd5845b05f09e0834e0de451235a17a8674565dce3d6823d", func := "codemason/codemasonkeep.PointSafe", spec := "pointSafe", unfollowed := true, recurses := true, apart := false }
def PointSafeSaid : Prop := pointSafeRow.holds Try.pinned (OpenSpec.ofChange pointSafeSpec)

/-- ITS FALSE NEIGHBOUR: 'it returns false'. Refute it at one input. -/
def pointSafeWrong : ChangeSpec := { name := "pointSafe", fn := fun _ => fun
  | [d1, d2, d3] => { results := [.lit (.bool false)], args := [d1, d2, d3] }
  | _ => none }
def PointSafeWrongFalsely : Prop := pointSafeRow.holds Try.pinned (OpenSpec.ofChange pointSafeWrong)

/-- 'codemasonkeep.PointWider': WHATEVER THE INPUT: true; the input reads as it did. -/
def pointWiderSpec : ChangeSpec := { name := "pointWider", fn := fun _ => fun
  | [d1, d2] => { results := [.lit (.bool true)], args := [d1, d2] }
  | _ => none }
def pointWiderRow : OpenClaim := { program := "ytdkkmmljaijomaa", sum := "812a8f16305041aefd5845b05f09e0834e0de451235a17a8674565dce3d6823d", func := "codemason/codemasonkeep.PointWider", spec := "pointWider", unfollowed := true, recurses := true, apart := false }
def PointWiderSaid : Prop := pointWiderRow.holds Try.pinned (OpenSpec.ofChange pointWiderSpec)

/-- ITS FALSE NEIGHBOUR: 'it returns false'. Refute it at one input. -/
def pointWiderWrong : ChangeSpec := { name := "pointWider", fn := fun _ => fun
  | [d1, d2] => { results := [.lit (.bool false)], args := [d1, d2] }
  | _ => none }
def PointWiderWrongFalsely : Prop := pointWiderRow.holds Try.pinned (OpenSpec.ofChange pointWiderWrong)

/- THE SECOND FORM. 'bulk': how many values and letters a reading holds, each counted each time it is reached (what is shared counts as often as it is met; a slice's spare places count too). A statement '..UptoSaid' is the law's where the arguments, and the package variables that the reading takes, are together of bulk at most 1048576: NARROWER than '..Said'. Prove '..Said' where nothing that the law and all that it calls make is longer than what came in: it says more and counts as full. Else prove '..UptoSaid'. A law counts once. -/
mutual
def uptoBulk {H : Type} : DataW H → Nat
  | .lit (.string bytes) => bytes.length + 1
  | .lit _ => 1
  | .nil => 1
  | .ptr d => uptoBulk d + 1
  | .slice elems spare => uptoBulkAll elems + uptoBulkAll spare + 1
  | .agg parts => uptoBulkAll parts + 1
  | .iface _ d => uptoBulk d + 1
  | .map entries => uptoBulkEntries entries + 1
  | .held _ => 1
def uptoBulkAll {H : Type} : List (DataW H) → Nat
  | [] => 0
  | d :: r => uptoBulk d + uptoBulkAll r
def uptoBulkEntries {H : Type} : List (Lit × DataW H) → Nat
  | [] => 0
  | x :: r => uptoBulkEntry x + uptoBulkEntries r
def uptoBulkEntry {H : Type} : Lit × DataW H → Nat
  | (.string bytes, d) => bytes.length + uptoBulk d + 1
  | (_, d) => uptoBulk d + 1
 end
def uptoSmall : (H : Type) → List (DataW H) → Bool := fun _ ds => decide (uptoBulkAll ds ≤ 1048576)
def OpenSpec.upto (s : _root_.Go.ChangeSpec) : _root_.Go.OpenSpec := { _root_.Go.OpenSpec.ofChange s with cond := some uptoSmall }

/-- 'codemasonkeep.HoldMore', WHERE WHAT IT READS IS OF BULK AT MOST 1048576: true; the input reads as it did. -/
def holdMoreUptoRow : OpenClaim := { program := "ytdkkmmljaijomaa", sum := "812a8f16305041aefd5845b05f09e0834e0de451235a17a8674565dce3d6823d", func := "codemason/codemasonkeep.HoldMore", spec := "holdMore", unfollowed := true, recurses := true, apart := false, narrowed := true }
def HoldMoreUptoSaid : Prop := holdMoreUptoRow.holds Try.pinned (OpenSpec.upto holdMoreSpec)

/-- 'codemasonkeep.HoldSleator', WHERE WHAT IT READS IS OF BULK AT MOST 1048576: true; the input reads as it did. -/
def holdSleatorUptoRow : OpenClaim := { program := "ytdkkmmljaijomaa", sum := "812a8f16305041aefd5845b05f09e0834e0de451235a17a8674565dce3d6823d", func := "codemason/codemasonkeep.HoldSleator", spec := "holdSleator", unfollowed := true, recurses := true, apart := false, narrowed := true }
def HoldSleatorUptoSaid : Prop := holdSleatorUptoRow.holds Try.pinned (OpenSpec.upto holdSleatorSpec)

/-- 'codemasonkeep.HoldBelady', WHERE WHAT IT READS IS OF BULK AT MOST 1048576: true; the input reads as it did. -/
def holdBeladyUptoRow : OpenClaim := { program := "ytdkkmmljaijomaa", sum := "812a8f16305041aefd5845b05f09e0834e0de451235a17a8674565dce3d6823d", func := "codemason/codemasonkeep.HoldBelady", spec := "holdBelady", unfollowed := true, recurses := true, apart := false, narrowed := true }
def HoldBeladyUptoSaid : Prop := holdBeladyUptoRow.holds Try.pinned (OpenSpec.upto holdBeladySpec)

/-- 'codemasonkeep.HoldAll', WHERE WHAT IT READS IS OF BULK AT MOST 1048576: true; the input reads as it did. -/
def holdAllUptoRow : OpenClaim := { program := "ytdkkmmljaijomaa", sum := "812a8f16305041aefd5845b05f09e0834e0de451235a17a8674565dce3d6823d", func := "codemason/codemasonkeep.HoldAll", spec := "holdAll", unfollowed := true, recurses := true, apart := false, narrowed := true }
def HoldAllUptoSaid : Prop := holdAllUptoRow.holds Try.pinned (OpenSpec.upto holdAllSpec)

/-- 'codemasonkeep.PlanOne', WHERE WHAT IT READS IS OF BULK AT MOST 1048576: true; the input reads as it did. -/
def planOneUptoRow : OpenClaim := { program := "ytdkkmmljaijomaa", sum := "812a8f16305041aefd5845b05f09e0834e0de451235a17a8674565dce3d6823d", func := "codemason/codemasonkeep.PlanOne", spec := "planOne", apart := false, narrowed := true }
def PlanOneUptoSaid : Prop := planOneUptoRow.holds Try.pinned (OpenSpec.upto planOneSpec)

/-- 'codemasonkeep.PlanLevel', WHERE WHAT IT READS IS OF BULK AT MOST 1048576: true; the input reads as it did. -/
def planLevelUptoRow : OpenClaim := { program := "ytdkkmmljaijomaa", sum := "812a8f16305041aefd5845b05f09e0834e0de451235a17a8674565dce3d6823d", func := "codemason/codemasonkeep.PlanLevel", spec := "planLevel", apart := false, narrowed := true }
def PlanLevelUptoSaid : Prop := planLevelUptoRow.holds Try.pinned (OpenSpec.upto planLevelSpec)

/-- 'codemasonkeep.PlanGraham', WHERE WHAT IT READS IS OF BULK AT MOST 1048576: true; the input reads as it did. -/
def planGrahamUptoRow : OpenClaim := { program := "ytdkkmmljaijomaa", sum := "812a8f16305041aefd5845b05f09e0834e0de451235a17a8674565dce3d6823d", func := "codemason/codemasonkeep.PlanGraham", spec := "planGraham", apart := false, narrowed := true }
def PlanGrahamUptoSaid : Prop := planGrahamUptoRow.holds Try.pinned (OpenSpec.upto planGrahamSpec)

/-- 'codemasonkeep.PlanHu', WHERE WHAT IT READS IS OF BULK AT MOST 1048576: true; the input reads as it did. -/
def planHuUptoRow : OpenClaim := { program := "ytdkkmmljaijomaa", sum := "812a8f16305041aefd5845b05f09e0834e0de451235a17a8674565dce3d6823d", func := "codemason/codemasonkeep.PlanHu", spec := "planHu", apart := false, narrowed := true }
def PlanHuUptoSaid : Prop := planHuUptoRow.holds Try.pinned (OpenSpec.upto planHuSpec)

/-- 'codemasonkeep.PointMore', WHERE WHAT IT READS IS OF BULK AT MOST 1048576: true; the input reads as it did. -/
def pointMoreUptoRow : OpenClaim := { program := "ytdkkmmljaijomaa", sum := "812a8f16305041aefd5845b05f09e0834e0de451235a17a8674565dce3d6823d", func := "codemason/codemasonkeep.PointMore", spec := "pointMore", unfollowed := true, recurses := true, apart := false, narrowed := true }
def PointMoreUptoSaid : Prop := pointMoreUptoRow.holds Try.pinned (OpenSpec.upto pointMoreSpec)

/-- 'codemasonkeep.PointSafe', WHERE WHAT IT READS IS OF BULK AT MOST 1048576: true; the input reads as it did. -/
def pointSafeUptoRow : OpenClaim := { program := "ytdkkmmljaijomaa", sum := "812a8f16305041aefd5845b05f09e0834e0de451235a17a8674565dce3d6823d", func := "codemason/codemasonkeep.PointSafe", spec := "pointSafe", unfollowed := true, recurses := true, apart := false, narrowed := true }
def PointSafeUptoSaid : Prop := pointSafeUptoRow.holds Try.pinned (OpenSpec.upto pointSafeSpec)

/-- 'codemasonkeep.PointWider', WHERE WHAT IT READS IS OF BULK AT MOST 1048576: true; the input reads as it did. -/
def pointWiderUptoRow : OpenClaim := { program := "ytdkkmmljaijomaa", sum := "812a8f16305041aefd5845b05f09e0834e0de451235a17a8674565dce3d6823d", func := "codemason/codemasonkeep.PointWider", spec := "pointWider", unfollowed := true, recurses := true, apart := false, narrowed := true }
def PointWiderUptoSaid : Prop := pointWiderUptoRow.holds Try.pinned (OpenSpec.upto pointWiderSpec)

end Rows
end Go.Proofs.Ytdkkmmljaijomaa
