/-
  DERIVED. GIVEN WITH THE SEED: THE CARDS: each row of YtckmedmebabkjaaDoorRows.lean that lists a variable, with what it lists TIED to the program's text (the seventh form; the later family's looks); each row that meets fmt, with fmt's text TOLD by the authors' own Lean function (tested against real Go, not proved from fmt's source: count such statements apart). THE CARD IS WHAT COUNTS. Prove the row's statement (the work); the ties are given (YtckmedmebabkjaaDoorTie.lean); close each card by the builder's one call (the guide's Derived/Test/ToyasCard.lean, 'card_holds'). Laid BY PROGRAM, IN A SANDBOX (cutbox-door.mjs). By AI agents, Wed Nov 11 2026. No macro, syntax, notation, axiom, sorry.
-/
import Derived.Test.YtckmedmebabkjaaDoorRows
import GoSem.ClaimSeven
namespace Go.Proofs.YtckmedmebabkjaaDoor
namespace Rows

/-- THE TIED CARD OF 'codemasonkeep.ColorGreedy'. -/
def colorGreedyCard : Claim7 := { stood := { row := colorGreedyRow, standIns := [], harness := (true, "557505e30cb962fddddc525d46db502a8c963ef815c7c3280dafb656a97345b2"), looks := false }, kinds := [], alts := [], laidByText := true, laidKinds := [.data], laidTests := true, laidLooks := .later }
def ColorGreedyCardSaid : Prop := Claim7.holds Tryd.pinned (.plain (OpenSpec.ofChange colorGreedySpec)) colorGreedyCard

/-- THE TIED CARD OF 'codemasonkeep.ColorChordal'. -/
def colorChordalCard : Claim7 := { stood := { row := colorChordalRow, standIns := [], harness := (true, "557505e30cb962fddddc525d46db502a8c963ef815c7c3280dafb656a97345b2"), looks := false }, kinds := [], alts := [], laidByText := true, laidKinds := [.data], laidTests := true, laidLooks := .later }
def ColorChordalCardSaid : Prop := Claim7.holds Tryd.pinned (.plain (OpenSpec.ofChange colorChordalSpec)) colorChordalCard

/-- THE SECOND FORM's CARD OF 'codemasonkeep.ColorGreedy'. -/
def colorGreedyUptoCard : Claim7 := { stood := { row := colorGreedyUptoRow, standIns := [], harness := (true, "557505e30cb962fddddc525d46db502a8c963ef815c7c3280dafb656a97345b2"), looks := false }, kinds := [], alts := [], laidByText := true, laidKinds := [.data], laidTests := true, laidLooks := .later }
def ColorGreedyUptoCardSaid : Prop := Claim7.holds Tryd.pinned (.plain (OpenSpec.upto colorGreedySpec)) colorGreedyUptoCard

/-- THE SECOND FORM's CARD OF 'codemasonkeep.ColorChordal'. -/
def colorChordalUptoCard : Claim7 := { stood := { row := colorChordalUptoRow, standIns := [], harness := (true, "557505e30cb962fddddc525d46db502a8c963ef815c7c3280dafb656a97345b2"), looks := false }, kinds := [], alts := [], laidByText := true, laidKinds := [.data], laidTests := true, laidLooks := .later }
def ColorChordalUptoCardSaid : Prop := Claim7.holds Tryd.pinned (.plain (OpenSpec.upto colorChordalSpec)) colorChordalUptoCard
end Rows
end Go.Proofs.YtckmedmebabkjaaDoor
