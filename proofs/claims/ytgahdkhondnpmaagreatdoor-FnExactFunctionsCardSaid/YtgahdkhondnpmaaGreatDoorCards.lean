/-
  DERIVED. GIVEN WITH THE SEED: THE CARDS: each row of YtgahdkhondnpmaaGreatDoorRows.lean that lists a variable, with what it lists TIED to the program's text (the seventh form; the later family's looks); each row that meets fmt, with fmt's text TOLD by the authors' own Lean function (tested against real Go, not proved from fmt's source: count such statements apart). THE CARD IS WHAT COUNTS. Prove the row's statement (the work); the ties are given (YtgahdkhondnpmaaGreatDoorTie.lean); close each card by the builder's one call (the guide's Derived/Test/ToyasCard.lean, 'card_holds'). Laid BY PROGRAM, IN A SANDBOX (cutbox-door.mjs). By AI agents, Wed Nov 11 2026. No macro, syntax, notation, axiom, sorry.
-/
import Derived.Test.YtgahdkhondnpmaaGreatDoorRows
import GoSem.ClaimSeven
namespace Go.Proofs.YtgahdkhondnpmaaGreatDoor
namespace Rows

/-- THE TIED CARD OF 'laws.FnExactFunctions'. -/
def fnExactFunctionsCard : Claim7 := { stood := { row := fnExactFunctionsRow, standIns := [], harness := (true, "6952e3c947b4ec7ae349f97b990b44f6ce3769c9b4c396dd7639e718238b0a39"), looks := true }, kinds := [], alts := [], laidByText := true, laidKinds := [.data, .data, .data, .data, .sentinel, .sentinel, .pinned], laidTests := true, laidLooks := .later }
def FnExactFunctionsCardSaid : Prop := Claim7.holds Tryz.pinned (.plain (OpenSpec.ofChange fnExactFunctionsSpec)) fnExactFunctionsCard

/-- THE SECOND FORM's CARD OF 'laws.FnExactFunctions'. -/
def fnExactFunctionsUptoCard : Claim7 := { stood := { row := fnExactFunctionsUptoRow, standIns := [], harness := (true, "6952e3c947b4ec7ae349f97b990b44f6ce3769c9b4c396dd7639e718238b0a39"), looks := true }, kinds := [], alts := [], laidByText := true, laidKinds := [.data, .data, .data, .data, .sentinel, .sentinel, .pinned], laidTests := true, laidLooks := .later }
def FnExactFunctionsUptoCardSaid : Prop := Claim7.holds Tryz.pinned (.plain (OpenSpec.upto fnExactFunctionsSpec)) fnExactFunctionsUptoCard
end Rows
end Go.Proofs.YtgahdkhondnpmaaGreatDoor
