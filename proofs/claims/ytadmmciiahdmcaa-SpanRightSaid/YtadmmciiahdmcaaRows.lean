/-
  No cell of these rows narrows 'for every input' (looked for: loops, veiled, ifaces, maps, wideKeys, modest, calm, conditions, laid).
  DERIVED. THE GIVEN ROWS OF THIS SEAT. 12 by the template 'for every input the law returns true; each argument reads behind the call as it read before'; 0 by the template 'total and deterministic' (their statements: YtadmmciiahdmcaaTotals.lean).
  GIVEN WITH THE SEED: the statements are not yours to turn. If you find one false, say at which input.
  Laid BY PROGRAM, IN A SANDBOX (cutbox-rows.mjs): the forced cells as the released guide's own fill.sh prints them over the translation 32ef3b1da845ffa7… (all of the seat's roots in one cut). By AI agents, Wed Nov 11 2026. No macro, syntax, notation, axiom, sorry.
-/
import Derived.Test.YtadmmciiahdmcaaChecked
import GoSem.Claim
import GoSem.ClaimJoined
import GoSem.ClaimMapViews
import Derived.JoinedTies
import Derived.KernelRfl
namespace Go.Proofs.Ytadmmciiahdmcaa
/- THE CELL 'sum', in the pinned program and in every row, IS THE sha256 OF THE DUMP (.gsa) THAT YtadmmciiahdmcaaProg.lean LOADS. Nothing in Lean hashes anything: it is a label: what it is worth is what the hold of that sum in a sandbox is worth. -/
noncomputable def Try.pinned : Pinned := { name := "ytadmmciiahdmcaa", sum := "32ef3b1da845ffa7205de562ceadb3165cb64997c6d3dad7fd33bf97b3deef2e", checked := Try.checked }
namespace Rows
def none {H : Type} : Left H := { results := [], args := [] }

/-- 'codemasonkeep.BlockSplit': WHATEVER THE INPUT: true; the input reads as it did. -/
def blockSplitSpec : ChangeSpec := { name := "blockSplit", fn := fun _ => fun
  | [d1, d2, d3, d4] => { results := [.lit (.bool true)], args := [d1, d2, d3, d4] }
  | _ => none }
def blockSplitRow : OpenClaim := { program := "ytadmmciiahdmcaa", sum := "32ef3b1da845ffa7205de562ceadb3165cb64997c6d3dad7fd33bf97b3deef2e", func := "codemason/codemasonkeep.BlockSplit", spec := "blockSplit", unfollowed := true, recurses := true, apart := false }
def BlockSplitSaid : Prop := blockSplitRow.holds Try.pinned (OpenSpec.ofChange blockSplitSpec)

/-- ITS FALSE NEIGHBOUR: 'it returns false'. Refute it at one input. -/
def blockSplitWrong : ChangeSpec := { name := "blockSplit", fn := fun _ => fun
  | [d1, d2, d3, d4] => { results := [.lit (.bool false)], args := [d1, d2, d3, d4] }
  | _ => none }
def BlockSplitWrongFalsely : Prop := blockSplitRow.holds Try.pinned (OpenSpec.ofChange blockSplitWrong)

/-- 'codemasonkeep.BlockPath': WHATEVER THE INPUT: true; the input reads as it did. -/
def blockPathSpec : ChangeSpec := { name := "blockPath", fn := fun _ => fun
  | [d1, d2, d3] => { results := [.lit (.bool true)], args := [d1, d2, d3] }
  | _ => none }
def blockPathRow : OpenClaim := { program := "ytadmmciiahdmcaa", sum := "32ef3b1da845ffa7205de562ceadb3165cb64997c6d3dad7fd33bf97b3deef2e", func := "codemason/codemasonkeep.BlockPath", spec := "blockPath", unfollowed := true, recurses := true, apart := false }
def BlockPathSaid : Prop := blockPathRow.holds Try.pinned (OpenSpec.ofChange blockPathSpec)

/-- ITS FALSE NEIGHBOUR: 'it returns false'. Refute it at one input. -/
def blockPathWrong : ChangeSpec := { name := "blockPath", fn := fun _ => fun
  | [d1, d2, d3] => { results := [.lit (.bool false)], args := [d1, d2, d3] }
  | _ => none }
def BlockPathWrongFalsely : Prop := blockPathRow.holds Try.pinned (OpenSpec.ofChange blockPathWrong)

/-- 'codemasonkeep.LiveMore': WHATEVER THE INPUT: true; the input reads as it did. -/
def liveMoreSpec : ChangeSpec := { name := "liveMore", fn := fun _ => fun
  | [d1, d2, d3, d4] => { results := [.lit (.bool true)], args := [d1, d2, d3, d4] }
  | _ => none }
def liveMoreRow : OpenClaim := { program := "ytadmmciiahdmcaa", sum := "32ef3b1da845ffa7205de562ceadb3165cb64997c6d3dad7fd33bf97b3deef2e", func := "codemason/codemasonkeep.LiveMore", spec := "liveMore", unfollowed := true, recurses := true, apart := false }
def LiveMoreSaid : Prop := liveMoreRow.holds Try.pinned (OpenSpec.ofChange liveMoreSpec)

/-- ITS FALSE NEIGHBOUR: 'it returns false'. Refute it at one input. -/
def liveMoreWrong : ChangeSpec := { name := "liveMore", fn := fun _ => fun
  | [d1, d2, d3, d4] => { results := [.lit (.bool false)], args := [d1, d2, d3, d4] }
  | _ => none }
def LiveMoreWrongFalsely : Prop := liveMoreRow.holds Try.pinned (OpenSpec.ofChange liveMoreWrong)

/-- 'codemasonkeep.LiveSafe': WHATEVER THE INPUT: true; the input reads as it did. -/
def liveSafeSpec : ChangeSpec := { name := "liveSafe", fn := fun _ => fun
  | [d1, d2, d3, d4, d5] => { results := [.lit (.bool true)], args := [d1, d2, d3, d4, d5] }
  | _ => none }
def liveSafeRow : OpenClaim := { program := "ytadmmciiahdmcaa", sum := "32ef3b1da845ffa7205de562ceadb3165cb64997c6d3dad7fd33bf97b3deef2e", func := "codemason/codemasonkeep.LiveSafe", spec := "liveSafe", unfollowed := true, recurses := true, apart := false }
def LiveSafeSaid : Prop := liveSafeRow.holds Try.pinned (OpenSpec.ofChange liveSafeSpec)

/-- ITS FALSE NEIGHBOUR: 'it returns false'. Refute it at one input. -/
def liveSafeWrong : ChangeSpec := { name := "liveSafe", fn := fun _ => fun
  | [d1, d2, d3, d4, d5] => { results := [.lit (.bool false)], args := [d1, d2, d3, d4, d5] }
  | _ => none }
def LiveSafeWrongFalsely : Prop := liveSafeRow.holds Try.pinned (OpenSpec.ofChange liveSafeWrong)

/-- 'codemasonkeep.LiveTrim': WHATEVER THE INPUT: true; the input reads as it did. -/
def liveTrimSpec : ChangeSpec := { name := "liveTrim", fn := fun _ => fun
  | [d1, d2, d3, d4] => { results := [.lit (.bool true)], args := [d1, d2, d3, d4] }
  | _ => none }
def liveTrimRow : OpenClaim := { program := "ytadmmciiahdmcaa", sum := "32ef3b1da845ffa7205de562ceadb3165cb64997c6d3dad7fd33bf97b3deef2e", func := "codemason/codemasonkeep.LiveTrim", spec := "liveTrim", unfollowed := true, recurses := true, apart := false }
def LiveTrimSaid : Prop := liveTrimRow.holds Try.pinned (OpenSpec.ofChange liveTrimSpec)

/-- ITS FALSE NEIGHBOUR: 'it returns false'. Refute it at one input. -/
def liveTrimWrong : ChangeSpec := { name := "liveTrim", fn := fun _ => fun
  | [d1, d2, d3, d4] => { results := [.lit (.bool false)], args := [d1, d2, d3, d4] }
  | _ => none }
def LiveTrimWrongFalsely : Prop := liveTrimRow.holds Try.pinned (OpenSpec.ofChange liveTrimWrong)

/-- 'codemasonkeep.KnownMore': WHATEVER THE INPUT: true; the input reads as it did. -/
def knownMoreSpec : ChangeSpec := { name := "knownMore", fn := fun _ => fun
  | [d1, d2, d3, d4] => { results := [.lit (.bool true)], args := [d1, d2, d3, d4] }
  | _ => none }
def knownMoreRow : OpenClaim := { program := "ytadmmciiahdmcaa", sum := "32ef3b1da845ffa7205de562ceadb3165cb64997c6d3dad7fd33bf97b3deef2e", func := "codemason/codemasonkeep.KnownMore", spec := "knownMore", unfollowed := true, recurses := true, apart := false }
def KnownMoreSaid : Prop := knownMoreRow.holds Try.pinned (OpenSpec.ofChange knownMoreSpec)

/-- ITS FALSE NEIGHBOUR: 'it returns false'. Refute it at one input. -/
def knownMoreWrong : ChangeSpec := { name := "knownMore", fn := fun _ => fun
  | [d1, d2, d3, d4] => { results := [.lit (.bool false)], args := [d1, d2, d3, d4] }
  | _ => none }
def KnownMoreWrongFalsely : Prop := knownMoreRow.holds Try.pinned (OpenSpec.ofChange knownMoreWrong)

/-- 'codemasonkeep.KnownRight': WHATEVER THE INPUT: true; the input reads as it did. -/
def knownRightSpec : ChangeSpec := { name := "knownRight", fn := fun _ => fun
  | [d1, d2, d3, d4] => { results := [.lit (.bool true)], args := [d1, d2, d3, d4] }
  | _ => none }
def knownRightRow : OpenClaim := { program := "ytadmmciiahdmcaa", sum := "32ef3b1da845ffa7205de562ceadb3165cb64997c6d3dad7fd33bf97b3deef2e", func := "codemason/codemasonkeep.KnownRight", spec := "knownRight", unfollowed := true, recurses := true, apart := false }
def KnownRightSaid : Prop := knownRightRow.holds Try.pinned (OpenSpec.ofChange knownRightSpec)

/-- ITS FALSE NEIGHBOUR: 'it returns false'. Refute it at one input. -/
def knownRightWrong : ChangeSpec := { name := "knownRight", fn := fun _ => fun
  | [d1, d2, d3, d4] => { results := [.lit (.bool false)], args := [d1, d2, d3, d4] }
  | _ => none }
def KnownRightWrongFalsely : Prop := knownRightRow.holds Try.pinned (OpenSpec.ofChange knownRightWrong)

/-- 'codemasonkeep.KnownFold': WHATEVER THE INPUT: true; the input reads as it did. -/
def knownFoldSpec : ChangeSpec := { name := "knownFold", fn := fun _ => fun
  | [d1, d2, d3, d4] => { results := [.lit (.bool true)], args := [d1, d2, d3, d4] }
  | _ => none }
def knownFoldRow : OpenClaim := { program := "ytadmmciiahdmcaa", sum := "32ef3b1da845ffa7205de562ceadb3165cb64997c6d3dad7fd33bf97b3deef2e", func := "codemason/codemasonkeep.KnownFold", spec := "knownFold", unfollowed := true, recurses := true, apart := false }
def KnownFoldSaid : Prop := knownFoldRow.holds Try.pinned (OpenSpec.ofChange knownFoldSpec)

/-- ITS FALSE NEIGHBOUR: 'it returns false'. Refute it at one input. -/
def knownFoldWrong : ChangeSpec := { name := "knownFold", fn := fun _ => fun
  | [d1, d2, d3, d4] => { results := [.lit (.bool false)], args := [d1, d2, d3, d4] }
  | _ => none }
def KnownFoldWrongFalsely : Prop := knownFoldRow.holds Try.pinned (OpenSpec.ofChange knownFoldWrong)

/-- 'codemasonkeep.SpanRight': WHATEVER THE INPUT: true; the input reads as it did. -/
def spanRightSpec : ChangeSpec := { name := "spanRight", fn := fun _ => fun
  | [d1, d2, d3, d4] => { results := [.lit (.bool true)], args := [d1, d2, d3, d4] }
  | _ => none }
def spanRightRow : OpenClaim := { program := "ytadmmciiahdmcaa", sum := "32ef3b1da845ffa7205de562ceadb3165cb64997c6d3dad7fd33bf97b3deef2e", func := "codemason/codemasonkeep.SpanRight", spec := "spanRight", unfollowed := true, recurses := true, apart := false }
def SpanRightSaid : Prop := spanRightRow.holds Try.pinned (OpenSpec.ofChange spanRightSpec)

/-- ITS FALSE NEIGHBOUR: 'it returns false'. Refute it at one input. -/
def spanRightWrong : ChangeSpec := { name := "spanRight", fn := fun _ => fun
  | [d1, d2, d3, d4] => { results := [.lit (.bool false)], args := [d1, d2, d3, d4] }
  | _ => none }
def SpanRightWrongFalsely : Prop := spanRightRow.holds Try.pinned (OpenSpec.ofChange spanRightWrong)

/-- 'codemasonkeep.CutMore': WHATEVER THE INPUT: true; the input reads as it did. -/
def cutMoreSpec : ChangeSpec := { name := "cutMore", fn := fun _ => fun
  | [d1, d2, d3, d4] => { results := [.lit (.bool true)], args := [d1, d2, d3, d4] }
  | _ => none }
def cutMoreRow : OpenClaim := { program := "ytadmmciiahdmcaa", sum := "32ef3b1da845ffa7205de562ceadb3165cb64997c6d3dad7fd33bf97b3deef2e", func := "codemason/codemasonkeep.CutMore", spec := "cutMore", unfollowed := true, recurses := true, apart := false }
def CutMoreSaid : Prop := cutMoreRow.holds Try.pinned (OpenSpec.ofChange cutMoreSpec)

/-- ITS FALSE NEIGHBOUR: 'it returns false'. Refute it at one input. -/
def cutMoreWrong : ChangeSpec := { name := "cutMore", fn := fun _ => fun
  | [d1, d2, d3, d4] => { results := [.lit (.bool false)], args := [d1, d2, d3, d4] }
  | _ => none }
def CutMoreWrongFalsely : Prop := cutMoreRow.holds Try.pinned (OpenSpec.ofChange cutMoreWrong)

/-- 'codemasonkeep.CutWeiser': WHATEVER THE INPUT: true; the input reads as it did. -/
def cutWeiserSpec : ChangeSpec := { name := "cutWeiser", fn := fun _ => fun
  | [d1, d2, d3, d4] => { results := [.lit (.bool true)], args := [d1, d2, d3, d4] }
  | _ => none }
def cutWeiserRow : OpenClaim := { program := "ytadmmciiahdmcaa", sum := "32ef3b1da845ffa7205de562ceadb3165cb64997c6d3dad7fd33bf97b3deef2e", func := "codemason/codemasonkeep.CutWeiser", spec := "cutWeiser", unfollowed := true, recurses := true, apart := false }
def CutWeiserSaid : Prop := cutWeiserRow.holds Try.pinned (OpenSpec.ofChange cutWeiserSpec)

/-- ITS FALSE NEIGHBOUR: 'it returns false'. Refute it at one input. -/
def cutWeiserWrong : ChangeSpec := { name := "cutWeiser", fn := fun _ => fun
  | [d1, d2, d3, d4] => { results := [.lit (.bool false)], args := [d1, d2, d3, d4] }
  | _ => none }
def CutWeiserWrongFalsely : Prop := cutWeiserRow.holds Try.pinned (OpenSpec.ofChange cutWeiserWrong)

/-- 'codemasonkeep.CutLive': WHATEVER THE INPUT: true; the input reads as it did. -/
def cutLiveSpec : ChangeSpec := { name := "cutLive", fn := fun _ => fun
  | [d1, d2, d3] => { results := [.lit (.bool true)], args := [d1, d2, d3] }
  | _ => none }
def cutLiveRow : OpenClaim := { program := "ytadmmciiahdmcaa", sum := "32ef3b1da845ffa7205de562ceadb3165cb64997c6d3dad7fd33bf97b3deef2e", func := "codemason/codemasonkeep.CutLive", spec := "cutLive", unfollowed := true, recurses := true, apart := false }
def CutLiveSaid : Prop := cutLiveRow.holds Try.pinned (OpenSpec.ofChange cutLiveSpec)

/-- ITS FALSE NEIGHBOUR: 'it returns false'. Refute it at one input. -/
def cutLiveWrong : ChangeSpec := { name := "cutLive", fn := fun _ => fun
  | [d1, d2, d3] => { results := [.lit (.bool false)], args := [d1, d2, d3] }
  | _ => none }
def CutLiveWrongFalsely : Prop := cutLiveRow.holds Try.pinned (OpenSpec.ofChange cutLiveWrong)

/- THE SECOND FORM. 'bulk': how many values and letters a reading holds, each counted each time it is reached (what is shared counts as often as it is met; a slice's spare places count too). A statement '..UptoSaid' is the law's where the arguments, and the package variables that the reading takes, are together of bulk at most 1048576: NARROWER than '..Said'. Prove '..Said' where nothing that the law and all that it calls make is longer than what came in: it says more and counts as full. Else prove '..UptoSaid'. A law counts once. -/
mutual
def uptoBulk {H : Type} : DataW H → Nat
  | .lit (.string bytes) => bytes.length + 1
  | .lit _ => 1
  | .nil => 1
  | .ptr d => uptoBulk d + 1
  | .slice elems spare => uptoBulkAll elems + uptoBulkAll spare + 1
  | .agg parts => uptoBulkAll parts + 1
  | .iface _ d => uptoBulk d + 1
  | .map entries => uptoBulkEntries entries + 1
  | .held _ => 1
def uptoBulkAll {H : Type} : List (DataW H) → Nat
  | [] => 0
  | d :: r => uptoBulk d + uptoBulkAll r
def uptoBulkEntries {H : Type} : List (Lit × DataW H) → Nat
  | [] => 0
  | x :: r => uptoBulkEntry x + uptoBulkEntries r
def uptoBulkEntry {H : Type} : Lit × DataW H → Nat
  | (.string bytes, d) => bytes.length + uptoBulk d + 1
  | (_, d) => uptoBulk d + 1
 end
def uptoSmall : (H : Type) → List (DataW H) → Bool := fun _ ds => decide (uptoBulkAll ds ≤ 1048576)
def OpenSpec.upto (s : _root_.Go.ChangeSpec) : _root_.Go.OpenSpec := { _root_.Go.OpenSpec.ofChange s with cond := some uptoSmall }

/-- 'codemasonkeep.BlockSplit', WHERE WHAT IT READS IS OF BULK AT MOST 1048576: true; the input reads as it did. -/
def blockSplitUptoRow : OpenClaim := { program := "ytadmmciiahdmcaa", sum := "32ef3b1da845ffa7205de562ceadb3165cb64997c6d3dad7fd33bf97b3deef2e", func := "codemason/codemasonkeep.BlockSplit", spec := "blockSplit", unfollowed := true, recurses := true, apart := false, narrowed := true }
def BlockSplitUptoSaid : Prop := blockSplitUptoRow.holds Try.pinned (OpenSpec.upto blockSplitSpec)

/-- 'codemasonkeep.BlockPath', WHERE WHAT IT READS IS OF BULK AT MOST 1048576: true; the input reads as it did. -/
def blockPathUptoRow : OpenClaim := { program := "ytadmmciiahdmcaa", sum := "32ef3b1da845ffa7205de562ceadb3165cb64997c6d3dad7fd33bf97b3deef2e", func := "codemason/codemasonkeep.BlockPath", spec := "blockPath", unfollowed := true, recurses := true, apart := false, narrowed := true }
def BlockPathUptoSaid : Prop := blockPathUptoRow.holds Try.pinned (OpenSpec.upto blockPathSpec)

/-- 'codemasonkeep.LiveMore', WHERE WHAT IT READS IS OF BULK AT MOST 1048576: true; the input reads as it did. -/
def liveMoreUptoRow : OpenClaim := { program := "ytadmmciiahdmcaa", sum := "32ef3b1da845ffa7205de562ceadb3165cb64997c6d3dad7fd33bf97b3deef2e", func := "codemason/codemasonkeep.LiveMore", spec := "liveMore", unfollowed := true, recurses := true, apart := false, narrowed := true }
def LiveMoreUptoSaid : Prop := liveMoreUptoRow.holds Try.pinned (OpenSpec.upto liveMoreSpec)

/-- 'codemasonkeep.LiveSafe', WHERE WHAT IT READS IS OF BULK AT MOST 1048576: true; the input reads as it did. -/
def liveSafeUptoRow : OpenClaim := { program := "ytadmmciiahdmcaa", sum := "32ef3b1da845ffa7205de562ceadb3165cb64997c6d3dad7fd33bf97b3deef2e", func := "codemason/codemasonkeep.LiveSafe", spec := "liveSafe", unfollowed := true, recurses := true, apart := false, narrowed := true }
def LiveSafeUptoSaid : Prop := liveSafeUptoRow.holds Try.pinned (OpenSpec.upto liveSafeSpec)

/-- 'codemasonkeep.LiveTrim', WHERE WHAT IT READS IS OF BULK AT MOST 1048576: true; the input reads as it did. -/
def liveTrimUptoRow : OpenClaim := { program := "ytadmmciiahdmcaa", sum := "32ef3b1da845ffa7205de562ceadb3165cb64997c6d3dad7fd33bf97b3deef2e", func := "codemason/codemasonkeep.LiveTrim", spec := "liveTrim", unfollowed := true, recurses := true, apart := false, narrowed := true }
def LiveTrimUptoSaid : Prop := liveTrimUptoRow.holds Try.pinned (OpenSpec.upto liveTrimSpec)

/-- 'codemasonkeep.KnownMore', WHERE WHAT IT READS IS OF BULK AT MOST 1048576: true; the input reads as it did. -/
def knownMoreUptoRow : OpenClaim := { program := "ytadmmciiahdmcaa", sum := "32ef3b1da845ffa7205de562ceadb3165cb64997c6d3dad7fd33bf97b3deef2e", func := "codemason/codemasonkeep.KnownMore", spec := "knownMore", unfollowed := true, recurses := true, apart := false, narrowed := true }
def KnownMoreUptoSaid : Prop := knownMoreUptoRow.holds Try.pinned (OpenSpec.upto knownMoreSpec)

/-- 'codemasonkeep.KnownRight', WHERE WHAT IT READS IS OF BULK AT MOST 1048576: true; the input reads as it did. -/
def knownRightUptoRow : OpenClaim := { program := "ytadmmciiahdmcaa", sum := "32ef3b1da845ffa7205de562ceadb3165cb64997c6d3dad7fd33bf97b3deef2e", func := "codemason/codemasonkeep.KnownRight", spec := "knownRight", unfollowed := true, recurses := true, apart := false, narrowed := true }
def KnownRightUptoSaid : Prop := knownRightUptoRow.holds Try.pinned (OpenSpec.upto knownRightSpec)

/-- 'codemasonkeep.KnownFold', WHERE WHAT IT READS IS OF BULK AT MOST 1048576: true; the input reads as it did. -/
def knownFoldUptoRow : OpenClaim := { program := "ytadmmciiahdmcaa", sum := "32ef3b1da845ffa7205de562ceadb3165cb64997c6d3dad7fd33bf97b3deef2e", func := "codemason/codemasonkeep.KnownFold", spec := "knownFold", unfollowed := true, recurses := true, apart := false, narrowed := true }
def KnownFoldUptoSaid : Prop := knownFoldUptoRow.holds Try.pinned (OpenSpec.upto knownFoldSpec)

/-- 'codemasonkeep.SpanRight', WHERE WHAT IT READS IS OF BULK AT MOST 1048576: true; the input reads as it did. -/
def spanRightUptoRow : OpenClaim := { program := "ytadmmciiahdmcaa", sum := "32ef3b1da845ffa7205de562ceadb3165cb64997c6d3dad7fd33bf97b3deef2e", func := "codemason/codemasonkeep.SpanRight", spec := "spanRight", unfollowed := true, recurses := true, apart := false, narrowed := true }
def SpanRightUptoSaid : Prop := spanRightUptoRow.holds Try.pinned (OpenSpec.upto spanRightSpec)

/-- 'codemasonkeep.CutMore', WHERE WHAT IT READS IS OF BULK AT MOST 1048576: true; the input reads as it did. -/
def cutMoreUptoRow : OpenClaim := { program := "ytadmmciiahdmcaa", sum := "32ef3b1da845ffa7205de562ceadb3165cb64997c6d3dad7fd33bf97b3deef2e", func := "codemason/codemasonkeep.CutMore", spec := "cutMore", unfollowed := true, recurses := true, apart := false, narrowed := true }
def CutMoreUptoSaid : Prop := cutMoreUptoRow.holds Try.pinned (OpenSpec.upto cutMoreSpec)

/-- 'codemasonkeep.CutWeiser', WHERE WHAT IT READS IS OF BULK AT MOST 1048576: true; the input reads as it did. -/
def cutWeiserUptoRow : OpenClaim := { program := "ytadmmciiahdmcaa", sum := "32ef3b1da845ffa7205de562ceadb3165cb64997c6d3dad7fd33bf97b3deef2e", func := "codemason/codemasonkeep.CutWeiser", spec := "cutWeiser", unfollowed := true, recurses := true, apart := false, narrowed := true }
def CutWeiserUptoSaid : Prop := cutWeiserUptoRow.holds Try.pinned (OpenSpec.upto cutWeiserSpec)

/-- 'codemasonkeep.CutLive', WHERE WHAT IT READS IS OF BULK AT MOST 1048576: true; the input reads as it did. -/
def cutLiveUptoRow : OpenClaim := { program := "ytadmmciiahdmcaa", sum := "32ef3b1da845ffa7205de562ceadb3165cb64997c6d3dad7fd33bf97b3deef2e", func := "codemason/codemasonkeep.CutLive", spec := "cutLive", unfollowed := true, recurses := true, apart := false, narrowed := true }
def CutLiveUptoSaid : Prop := cutLiveUptoRow.holds Try.pinned (OpenSpec.upto cutLiveSpec)

end Rows
end Go.Proofs.Ytadmmciiahdmcaa
