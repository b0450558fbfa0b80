/-
  No cell of these rows narrows 'for every input' (looked for: loops, veiled, ifaces, maps, wideKeys, modest, calm, conditions, laid).
  DERIVED. THE GIVEN ROWS OF THIS SEAT. 14 by the template 'for every input the law returns true; each argument reads behind the call as it read before'; 0 by the template 'total and deterministic' (their statements: YtljmignfbagomaaTotals.lean).
  GIVEN WITH THE SEED: the statements are not yours to turn. If you find one false, say at which input.
  Laid BY PROGRAM, IN A SANDBOX (cutbox-rows.mjs): the forced cells as the released guide's own fill.sh prints them over the translation d7e56bdc4709e70b… (all of the seat's roots in one cut). By AI agents, Wed Nov 11 2026. No macro, syntax, notation, axiom, sorry.
-/
import Derived.Test.YtljmignfbagomaaChecked
import GoSem.Claim
import GoSem.ClaimJoined
import GoSem.ClaimMapViews
import Derived.JoinedTies
import Derived.KernelRfl
namespace Go.Proofs.Ytljmignfbagomaa
/- THE CELL 'sum', in the pinned program and in every row, IS THE sha256 OF THE DUMP (.gsa) THAT YtljmignfbagomaaProg.lean LOADS. Nothing in Lean hashes anything: it is a label: what it is worth is what the hold of that sum in a sandbox is worth. -/
noncomputable def Try.pinned : Pinned := { name := "ytljmignfbagomaa", sum := "d7e56bdc4709e70b5d2a35f6c2ade947451e4b1dedd669cee028c26c308dbe3d", checked := Try.checked }
namespace Rows
def none {H : Type} : Left H := { results := [], args := [] }

/-- 'codemasonkeep.WayPart': WHATEVER THE INPUT: true; the input reads as it did. -/
def wayPartSpec : ChangeSpec := { name := "wayPart", fn := fun _ => fun
  | [d] => { results := [.lit (.bool true)], args := [d] }
  | _ => none }
def wayPartRow : OpenClaim := { program := "ytljmignfbagomaa", sum := "d7e56bdc4709e70b5d2a35f6c2ade947451e4b1dedd669cee028c26c308dbe3d", func := "codemason/codemasonkeep.WayPart", spec := "wayPart", unfollowed := true, recurses := true, apart := false }
def WayPartSaid : Prop := wayPartRow.holds Try.pinned (OpenSpec.ofChange wayPartSpec)

/-- ITS FALSE NEIGHBOUR: 'it returns false'. Refute it at one input. -/
def wayPartWrong : ChangeSpec := { name := "wayPart", fn := fun _ => fun
  | [d] => { results := [.lit (.bool false)], args := [d] }
  | _ => none }
def WayPartWrongFalsely : Prop := wayPartRow.holds Try.pinned (OpenSpec.ofChange wayPartWrong)

/-- 'codemasonkeep.HangOne': WHATEVER THE INPUT: true; the input reads as it did. -/
def hangOneSpec : ChangeSpec := { name := "hangOne", fn := fun _ => fun
  | [d] => { results := [.lit (.bool true)], args := [d] }
  | _ => none }
def hangOneRow : OpenClaim := { program := "ytljmignfbagomaa", sum := "d7e56bdc4709e70b5d2a35f6c2ade947451e4b1dedd669cee028c26c308dbe3d", func := "codemason/codemasonkeep.HangOne", spec := "hangOne", unfollowed := true, recurses := true, apart := false }
def HangOneSaid : Prop := hangOneRow.holds Try.pinned (OpenSpec.ofChange hangOneSpec)

/-- ITS FALSE NEIGHBOUR: 'it returns false'. Refute it at one input. -/
def hangOneWrong : ChangeSpec := { name := "hangOne", fn := fun _ => fun
  | [d] => { results := [.lit (.bool false)], args := [d] }
  | _ => none }
def HangOneWrongFalsely : Prop := hangOneRow.holds Try.pinned (OpenSpec.ofChange hangOneWrong)

/-- 'codemasonkeep.RulePath': WHATEVER THE INPUT: true; the input reads as it did. -/
def rulePathSpec : ChangeSpec := { name := "rulePath", fn := fun _ => fun
  | [d1, d2] => { results := [.lit (.bool true)], args := [d1, d2] }
  | _ => none }
def rulePathRow : OpenClaim := { program := "ytljmignfbagomaa", sum := "d7e56bdc4709e70b5d2a35f6c2ade947451e4b1dedd669cee028c26c308dbe3d", func := "codemason/codemasonkeep.RulePath", spec := "rulePath", unfollowed := true, recurses := true, apart := false }
def RulePathSaid : Prop := rulePathRow.holds Try.pinned (OpenSpec.ofChange rulePathSpec)

/-- ITS FALSE NEIGHBOUR: 'it returns false'. Refute it at one input. -/
def rulePathWrong : ChangeSpec := { name := "rulePath", fn := fun _ => fun
  | [d1, d2] => { results := [.lit (.bool false)], args := [d1, d2] }
  | _ => none }
def RulePathWrongFalsely : Prop := rulePathRow.holds Try.pinned (OpenSpec.ofChange rulePathWrong)

/-- 'codemasonkeep.RuleChain': WHATEVER THE INPUT: true; the input reads as it did. -/
def ruleChainSpec : ChangeSpec := { name := "ruleChain", fn := fun _ => fun
  | [d] => { results := [.lit (.bool true)], args := [d] }
  | _ => none }
def ruleChainRow : OpenClaim := { program := "ytljmignfbagomaa", sum := "d7e56bdc4709e70b5d2a35f6c2ade947451e4b1dedd669cee028c26c308dbe3d", func := "codemason/codemasonkeep.RuleChain", spec := "ruleChain", unfollowed := true, recurses := true, apart := false }
def RuleChainSaid : Prop := ruleChainRow.holds Try.pinned (OpenSpec.ofChange ruleChainSpec)

/-- ITS FALSE NEIGHBOUR: 'it returns false'. Refute it at one input. -/
def ruleChainWrong : ChangeSpec := { name := "ruleChain", fn := fun _ => fun
  | [d] => { results := [.lit (.bool false)], args := [d] }
  | _ => none }
def RuleChainWrongFalsely : Prop := ruleChainRow.holds Try.pinned (OpenSpec.ofChange ruleChainWrong)

/-- 'codemasonkeep.HangTurn': WHATEVER THE INPUT: true; the input reads as it did. -/
def hangTurnSpec : ChangeSpec := { name := "hangTurn", fn := fun _ => fun
  | [d] => { results := [.lit (.bool true)], args := [d] }
  | _ => none }
def hangTurnRow : OpenClaim := { program := "ytljmignfbagomaa", sum := "d7e56bdc4709e70b5d2a35f6c2ade947451e4b1dedd669cee028c26c308dbe3d", func := "codemason/codemasonkeep.HangTurn", spec := "hangTurn", unfollowed := true, recurses := true, apart := false }
def HangTurnSaid : Prop := hangTurnRow.holds Try.pinned (OpenSpec.ofChange hangTurnSpec)

/-- ITS FALSE NEIGHBOUR: 'it returns false'. Refute it at one input. -/
def hangTurnWrong : ChangeSpec := { name := "hangTurn", fn := fun _ => fun
  | [d] => { results := [.lit (.bool false)], args := [d] }
  | _ => none }
def HangTurnWrongFalsely : Prop := hangTurnRow.holds Try.pinned (OpenSpec.ofChange hangTurnWrong)

/-- 'codemasonkeep.RuleMeet': WHATEVER THE INPUT: true; the input reads as it did. -/
def ruleMeetSpec : ChangeSpec := { name := "ruleMeet", fn := fun _ => fun
  | [d1, d2, d3] => { results := [.lit (.bool true)], args := [d1, d2, d3] }
  | _ => none }
def ruleMeetRow : OpenClaim := { program := "ytljmignfbagomaa", sum := "d7e56bdc4709e70b5d2a35f6c2ade947451e4b1dedd669cee028c26c308dbe3d", func := "codemason/codemasonkeep.RuleMeet", spec := "ruleMeet", unfollowed := true, recurses := true, apart := false }
def RuleMeetSaid : Prop := ruleMeetRow.holds Try.pinned (OpenSpec.ofChange ruleMeetSpec)

/-- ITS FALSE NEIGHBOUR: 'it returns false'. Refute it at one input. -/
def ruleMeetWrong : ChangeSpec := { name := "ruleMeet", fn := fun _ => fun
  | [d1, d2, d3] => { results := [.lit (.bool false)], args := [d1, d2, d3] }
  | _ => none }
def RuleMeetWrongFalsely : Prop := ruleMeetRow.holds Try.pinned (OpenSpec.ofChange ruleMeetWrong)

/-- 'codemasonkeep.WayOrder': WHATEVER THE INPUT: true; the input reads as it did. -/
def wayOrderSpec : ChangeSpec := { name := "wayOrder", fn := fun _ => fun
  | [d] => { results := [.lit (.bool true)], args := [d] }
  | _ => none }
def wayOrderRow : OpenClaim := { program := "ytljmignfbagomaa", sum := "d7e56bdc4709e70b5d2a35f6c2ade947451e4b1dedd669cee028c26c308dbe3d", func := "codemason/codemasonkeep.WayOrder", spec := "wayOrder", unfollowed := true, recurses := true, apart := false }
def WayOrderSaid : Prop := wayOrderRow.holds Try.pinned (OpenSpec.ofChange wayOrderSpec)

/-- ITS FALSE NEIGHBOUR: 'it returns false'. Refute it at one input. -/
def wayOrderWrong : ChangeSpec := { name := "wayOrder", fn := fun _ => fun
  | [d] => { results := [.lit (.bool false)], args := [d] }
  | _ => none }
def WayOrderWrongFalsely : Prop := wayOrderRow.holds Try.pinned (OpenSpec.ofChange wayOrderWrong)

/-- 'codemasonkeep.WayRound': WHATEVER THE INPUT: true; the input reads as it did. -/
def wayRoundSpec : ChangeSpec := { name := "wayRound", fn := fun _ => fun
  | [d] => { results := [.lit (.bool true)], args := [d] }
  | _ => none }
def wayRoundRow : OpenClaim := { program := "ytljmignfbagomaa", sum := "d7e56bdc4709e70b5d2a35f6c2ade947451e4b1dedd669cee028c26c308dbe3d", func := "codemason/codemasonkeep.WayRound", spec := "wayRound", unfollowed := true, recurses := true, apart := false }
def WayRoundSaid : Prop := wayRoundRow.holds Try.pinned (OpenSpec.ofChange wayRoundSpec)

/-- ITS FALSE NEIGHBOUR: 'it returns false'. Refute it at one input. -/
def wayRoundWrong : ChangeSpec := { name := "wayRound", fn := fun _ => fun
  | [d] => { results := [.lit (.bool false)], args := [d] }
  | _ => none }
def WayRoundWrongFalsely : Prop := wayRoundRow.holds Try.pinned (OpenSpec.ofChange wayRoundWrong)

/-- 'codemasonkeep.LoopNest': WHATEVER THE INPUT: true; the input reads as it did. -/
def loopNestSpec : ChangeSpec := { name := "loopNest", fn := fun _ => fun
  | [d] => { results := [.lit (.bool true)], args := [d] }
  | _ => none }
def loopNestRow : OpenClaim := { program := "ytljmignfbagomaa", sum := "d7e56bdc4709e70b5d2a35f6c2ade947451e4b1dedd669cee028c26c308dbe3d", func := "codemason/codemasonkeep.LoopNest", spec := "loopNest", unfollowed := true, recurses := true, apart := false }
def LoopNestSaid : Prop := loopNestRow.holds Try.pinned (OpenSpec.ofChange loopNestSpec)

/-- ITS FALSE NEIGHBOUR: 'it returns false'. Refute it at one input. -/
def loopNestWrong : ChangeSpec := { name := "loopNest", fn := fun _ => fun
  | [d] => { results := [.lit (.bool false)], args := [d] }
  | _ => none }
def LoopNestWrongFalsely : Prop := loopNestRow.holds Try.pinned (OpenSpec.ofChange loopNestWrong)

/-- 'codemasonkeep.LoopFold': WHATEVER THE INPUT: true; the input reads as it did. -/
def loopFoldSpec : ChangeSpec := { name := "loopFold", fn := fun _ => fun
  | [d] => { results := [.lit (.bool true)], args := [d] }
  | _ => none }
def loopFoldRow : OpenClaim := { program := "ytljmignfbagomaa", sum := "d7e56bdc4709e70b5d2a35f6c2ade947451e4b1dedd669cee028c26c308dbe3d", func := "codemason/codemasonkeep.LoopFold", spec := "loopFold", unfollowed := true, recurses := true, apart := false }
def LoopFoldSaid : Prop := loopFoldRow.holds Try.pinned (OpenSpec.ofChange loopFoldSpec)

/-- ITS FALSE NEIGHBOUR: 'it returns false'. Refute it at one input. -/
def loopFoldWrong : ChangeSpec := { name := "loopFold", fn := fun _ => fun
  | [d] => { results := [.lit (.bool false)], args := [d] }
  | _ => none }
def LoopFoldWrongFalsely : Prop := loopFoldRow.holds Try.pinned (OpenSpec.ofChange loopFoldWrong)

/-- 'codemasonkeep.LoopRound': WHATEVER THE INPUT: true; the input reads as it did. -/
def loopRoundSpec : ChangeSpec := { name := "loopRound", fn := fun _ => fun
  | [d] => { results := [.lit (.bool true)], args := [d] }
  | _ => none }
def loopRoundRow : OpenClaim := { program := "ytljmignfbagomaa", sum := "d7e56bdc4709e70b5d2a35f6c2ade947451e4b1dedd669cee028c26c308dbe3d", func := "codemason/codemasonkeep.LoopRound", spec := "loopRound", unfollowed := true, recurses := true, apart := false }
def LoopRoundSaid : Prop := loopRoundRow.holds Try.pinned (OpenSpec.ofChange loopRoundSpec)

/-- ITS FALSE NEIGHBOUR: 'it returns false'. Refute it at one input. -/
def loopRoundWrong : ChangeSpec := { name := "loopRound", fn := fun _ => fun
  | [d] => { results := [.lit (.bool false)], args := [d] }
  | _ => none }
def LoopRoundWrongFalsely : Prop := loopRoundRow.holds Try.pinned (OpenSpec.ofChange loopRoundWrong)

/-- 'codemasonkeep.FactMore': WHATEVER THE INPUT: true; the input reads as it did. -/
def factMoreSpec : ChangeSpec := { name := "factMore", fn := fun _ => fun
  | [d1, d2, d3] => { results := [.lit (.bool true)], args := [d1, d2, d3] }
  | _ => none }
def factMoreRow : OpenClaim := { program := "ytljmignfbagomaa", sum := "d7e56bdc4709e70b5d2a35f6c2ade947451e4b1dedd669cee028c26c308dbe3d", func := "codemason/codemasonkeep.FactMore", spec := "factMore", unfollowed := true, recurses := true, apart := false }
def FactMoreSaid : Prop := factMoreRow.holds Try.pinned (OpenSpec.ofChange factMoreSpec)

/-- ITS FALSE NEIGHBOUR: 'it returns false'. Refute it at one input. -/
def factMoreWrong : ChangeSpec := { name := "factMore", fn := fun _ => fun
  | [d1, d2, d3] => { results := [.lit (.bool false)], args := [d1, d2, d3] }
  | _ => none }
def FactMoreWrongFalsely : Prop := factMoreRow.holds Try.pinned (OpenSpec.ofChange factMoreWrong)

/-- 'codemasonkeep.FactTwo': WHATEVER THE INPUT: true; the input reads as it did. -/
def factTwoSpec : ChangeSpec := { name := "factTwo", fn := fun _ => fun
  | [d1, d2] => { results := [.lit (.bool true)], args := [d1, d2] }
  | _ => none }
def factTwoRow : OpenClaim := { program := "ytljmignfbagomaa", sum := "d7e56bdc4709e70b5d2a35f6c2ade947451e4b1dedd669cee028c26c308dbe3d", func := "codemason/codemasonkeep.FactTwo", spec := "factTwo", unfollowed := true, recurses := true, apart := false }
def FactTwoSaid : Prop := factTwoRow.holds Try.pinned (OpenSpec.ofChange factTwoSpec)

/-- ITS FALSE NEIGHBOUR: 'it returns false'. Refute it at one input. -/
def factTwoWrong : ChangeSpec := { name := "factTwo", fn := fun _ => fun
  | [d1, d2] => { results := [.lit (.bool false)], args := [d1, d2] }
  | _ => none }
def FactTwoWrongFalsely : Prop := factTwoRow.holds Try.pinned (OpenSpec.ofChange factTwoWrong)

/-- 'codemasonkeep.FactPath': WHATEVER THE INPUT: true; the input reads as it did. -/
def factPathSpec : ChangeSpec := { name := "factPath", fn := fun _ => fun
  | [d1, d2, d3, d4] => { results := [.lit (.bool true)], args := [d1, d2, d3, d4] }
  | _ => none }
def factPathRow : OpenClaim := { program := "ytljmignfbagomaa", sum := "d7e56bdc4709e70b5d2a35f6c2ade947451e4b1dedd669cee028c26c308dbe3d", func := "codemason/codemasonkeep.FactPath", spec := "factPath", unfollowed := true, recurses := true, apart := false }
def FactPathSaid : Prop := factPathRow.holds Try.pinned (OpenSpec.ofChange factPathSpec)

/-- ITS FALSE NEIGHBOUR: 'it returns false'. Refute it at one input. -/
def factPathWrong : ChangeSpec := { name := "factPath", fn := fun _ => fun
  | [d1, d2, d3, d4] => { results := [.lit (.bool false)], args := [d1, d2, d3, d4] }
  | _ => none }
def FactPathWrongFalsely : Prop := factPathRow.holds Try.pinned (OpenSpec.ofChange factPathWrong)

/- THE SECOND FORM. 'bulk': how many values and letters a reading holds, each counted each time it is reached (what is shared counts as often as it is met; a slice's spare places count too). A statement '..UptoSaid' is the law's where the arguments, and the package variables that the reading takes, are together of bulk at most 1048576: NARROWER than '..Said'. Prove '..Said' where nothing that the law and all that it calls make is longer than what came in: it says more and counts as full. Else prove '..UptoSaid'. A law counts once. -/
mutual
def uptoBulk {H : Type} : DataW H → Nat
  | .lit (.string bytes) => bytes.length + 1
  | .lit _ => 1
  | .nil => 1
  | .ptr d => uptoBulk d + 1
  | .slice elems spare => uptoBulkAll elems + uptoBulkAll spare + 1
  | .agg parts => uptoBulkAll parts + 1
  | .iface _ d => uptoBulk d + 1
  | .map entries => uptoBulkEntries entries + 1
  | .held _ => 1
def uptoBulkAll {H : Type} : List (DataW H) → Nat
  | [] => 0
  | d :: r => uptoBulk d + uptoBulkAll r
def uptoBulkEntries {H : Type} : List (Lit × DataW H) → Nat
  | [] => 0
  | x :: r => uptoBulkEntry x + uptoBulkEntries r
def uptoBulkEntry {H : Type} : Lit × DataW H → Nat
  | (.string bytes, d) => bytes.length + uptoBulk d + 1
  | (_, d) => uptoBulk d + 1
 end
def uptoSmall : (H : Type) → List (DataW H) → Bool := fun _ ds => decide (uptoBulkAll ds ≤ 1048576)
def OpenSpec.upto (s : _root_.Go.ChangeSpec) : _root_.Go.OpenSpec := { _root_.Go.OpenSpec.ofChange s with cond := some uptoSmall }

/-- 'codemasonkeep.WayPart', WHERE WHAT IT READS IS OF BULK AT MOST 1048576: true; the input reads as it did. -/
def wayPartUptoRow : OpenClaim := { program := "ytljmignfbagomaa", sum := "d7e56bdc4709e70b5d2a35f6c2ade947451e4b1dedd669cee028c26c308dbe3d", func := "codemason/codemasonkeep.WayPart", spec := "wayPart", unfollowed := true, recurses := true, apart := false, narrowed := true }
def WayPartUptoSaid : Prop := wayPartUptoRow.holds Try.pinned (OpenSpec.upto wayPartSpec)

/-- 'codemasonkeep.HangOne', WHERE WHAT IT READS IS OF BULK AT MOST 1048576: true; the input reads as it did. -/
def hangOneUptoRow : OpenClaim := { program := "ytljmignfbagomaa", sum := "d7e56bdc4709e70b5d2a35f6c2ade947451e4b1dedd669cee028c26c308dbe3d", func := "codemason/codemasonkeep.HangOne", spec := "hangOne", unfollowed := true, recurses := true, apart := false, narrowed := true }
def HangOneUptoSaid : Prop := hangOneUptoRow.holds Try.pinned (OpenSpec.upto hangOneSpec)

/-- 'codemasonkeep.RulePath', WHERE WHAT IT READS IS OF BULK AT MOST 1048576: true; the input reads as it did. -/
def rulePathUptoRow : OpenClaim := { program := "ytljmignfbagomaa", sum := "d7e56bdc4709e70b5d2a35f6c2ade947451e4b1dedd669cee028c26c308dbe3d", func := "codemason/codemasonkeep.RulePath", spec := "rulePath", unfollowed := true, recurses := true, apart := false, narrowed := true }
def RulePathUptoSaid : Prop := rulePathUptoRow.holds Try.pinned (OpenSpec.upto rulePathSpec)

/-- 'codemasonkeep.RuleChain', WHERE WHAT IT READS IS OF BULK AT MOST 1048576: true; the input reads as it did. -/
def ruleChainUptoRow : OpenClaim := { program := "ytljmignfbagomaa", sum := "d7e56bdc4709e70b5d2a35f6c2ade947451e4b1dedd669cee028c26c308dbe3d", func := "codemason/codemasonkeep.RuleChain", spec := "ruleChain", unfollowed := true, recurses := true, apart := false, narrowed := true }
def RuleChainUptoSaid : Prop := ruleChainUptoRow.holds Try.pinned (OpenSpec.upto ruleChainSpec)

/-- 'codemasonkeep.HangTurn', WHERE WHAT IT READS IS OF BULK AT MOST 1048576: true; the input reads as it did. -/
def hangTurnUptoRow : OpenClaim := { program := "ytljmignfbagomaa", sum := "d7e56bdc4709e70b5d2a35f6c2ade947451e4b1dedd669cee028c26c308dbe3d", func := "codemason/codemasonkeep.HangTurn", spec := "hangTurn", unfollowed := true, recurses := true, apart := false, narrowed := true }
def HangTurnUptoSaid : Prop := hangTurnUptoRow.holds Try.pinned (OpenSpec.upto hangTurnSpec)

/-- 'codemasonkeep.RuleMeet', WHERE WHAT IT READS IS OF BULK AT MOST 1048576: true; the input reads as it did. -/
def ruleMeetUptoRow : OpenClaim := { program := "ytljmignfbagomaa", sum := "d7e56bdc4709e70b5d2a35f6c2ade947451e4b1dedd669cee028c26c308dbe3d", func := "codemason/codemasonkeep.RuleMeet", spec := "ruleMeet", unfollowed := true, recurses := true, apart := false, narrowed := true }
def RuleMeetUptoSaid : Prop := ruleMeetUptoRow.holds Try.pinned (OpenSpec.upto ruleMeetSpec)

/-- 'codemasonkeep.WayOrder', WHERE WHAT IT READS IS OF BULK AT MOST 1048576: true; the input reads as it did. -/
def wayOrderUptoRow : OpenClaim := { program := "ytljmignfbagomaa", sum := "d7e56bdc4709e70b5d2a35f6c2ade947451e4b1dedd669cee028c26c308dbe3d", func := "codemason/codemasonkeep.WayOrder", spec := "wayOrder", unfollowed := true, recurses := true, apart := false, narrowed := true }
def WayOrderUptoSaid : Prop := wayOrderUptoRow.holds Try.pinned (OpenSpec.upto wayOrderSpec)

/-- 'codemasonkeep.WayRound', WHERE WHAT IT READS IS OF BULK AT MOST 1048576: true; the input reads as it did. -/
def wayRoundUptoRow : OpenClaim := { program := "ytljmignfbagomaa", sum := "d7e56bdc4709e70b5d2a35f6c2ade947451e4b1dedd669cee028c26c308dbe3d", func := "codemason/codemasonkeep.WayRound", spec := "wayRound", unfollowed := true, recurses := true, apart := false, narrowed := true }
def WayRoundUptoSaid : Prop := wayRoundUptoRow.holds Try.pinned (OpenSpec.upto wayRoundSpec)

/-- 'codemasonkeep.LoopNest', WHERE WHAT IT READS IS OF BULK AT MOST 1048576: true; the input reads as it did. -/
def loopNestUptoRow : OpenClaim := { program := "ytljmignfbagomaa", sum := "d7e56bdc4709e70b5d2a35f6c2ade947451e4b1dedd669cee028c26c308dbe3d", func := "codemason/codemasonkeep.LoopNest", spec := "loopNest", unfollowed := true, recurses := true, apart := false, narrowed := true }
def LoopNestUptoSaid : Prop := loopNestUptoRow.holds Try.pinned (OpenSpec.upto loopNestSpec)

/-- 'codemasonkeep.LoopFold', WHERE WHAT IT READS IS OF BULK AT MOST 1048576: true; the input reads as it did. -/
def loopFoldUptoRow : OpenClaim := { program := "ytljmignfbagomaa", sum := "d7e56bdc4709e70b5d2a35f6c2ade947451e4b1dedd669cee028c26c308dbe3d", func := "codemason/codemasonkeep.LoopFold", spec := "loopFold", unfollowed := true, recurses := true, apart := false, narrowed := true }
def LoopFoldUptoSaid : Prop := loopFoldUptoRow.holds Try.pinned (OpenSpec.upto loopFoldSpec)

/-- 'codemasonkeep.LoopRound', WHERE WHAT IT READS IS OF BULK AT MOST 1048576: true; the input reads as it did. -/
def loopRoundUptoRow : OpenClaim := { program := "ytljmignfbagomaa", sum := "d7e56bdc4709e70b5d2a35f6c2ade947451e4b1dedd669cee028c26c308dbe3d", func := "codemason/codemasonkeep.LoopRound", spec := "loopRound", unfollowed := true, recurses := true, apart := false, narrowed := true }
def LoopRoundUptoSaid : Prop := loopRoundUptoRow.holds Try.pinned (OpenSpec.upto loopRoundSpec)

/-- 'codemasonkeep.FactMore', WHERE WHAT IT READS IS OF BULK AT MOST 1048576: true; the input reads as it did. -/
def factMoreUptoRow : OpenClaim := { program := "ytljmignfbagomaa", sum := "d7e56bdc4709e70b5d2a35f6c2ade947451e4b1dedd669cee028c26c308dbe3d", func := "codemason/codemasonkeep.FactMore", spec := "factMore", unfollowed := true, recurses := true, apart := false, narrowed := true }
def FactMoreUptoSaid : Prop := factMoreUptoRow.holds Try.pinned (OpenSpec.upto factMoreSpec)

/-- 'codemasonkeep.FactTwo', WHERE WHAT IT READS IS OF BULK AT MOST 1048576: true; the input reads as it did. -/
def factTwoUptoRow : OpenClaim := { program := "ytljmignfbagomaa", sum := "d7e56bdc4709e70b5d2a35f6c2ade947451e4b1dedd669cee028c26c308dbe3d", func := "codemason/codemasonkeep.FactTwo", spec := "factTwo", unfollowed := true, recurses := true, apart := false, narrowed := true }
def FactTwoUptoSaid : Prop := factTwoUptoRow.holds Try.pinned (OpenSpec.upto factTwoSpec)

/-- 'codemasonkeep.FactPath', WHERE WHAT IT READS IS OF BULK AT MOST 1048576: true; the input reads as it did. -/
def factPathUptoRow : OpenClaim := { program := "ytljmignfbagomaa", sum := "d7e56bdc4709e70b5d2a35f6c2ade947451e4b1dedd669cee028c26c308dbe3d", func := "codemason/codemasonkeep.FactPath", spec := "factPath", unfollowed := true, recurses := true, apart := false, narrowed := true }
def FactPathUptoSaid : Prop := factPathUptoRow.holds Try.pinned (OpenSpec.upto factPathSpec)

end Rows
end Go.Proofs.Ytljmignfbagomaa
