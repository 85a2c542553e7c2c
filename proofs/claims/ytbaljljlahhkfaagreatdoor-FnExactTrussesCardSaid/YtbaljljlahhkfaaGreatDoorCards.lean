/-
  DERIVED. GIVEN WITH THE SEED: THE CARDS: each row of YtbaljljlahhkfaaGreatDoorRows.lean that lists a variable, with what it lists TIED to the program's text (the seventh form; the later family's looks); each row that meets fmt, with fmt's text TOLD by the authors' own Lean function (tested against real Go, not proved from fmt's source: count such statements apart). THE CARD IS WHAT COUNTS. Prove the row's statement (the work); the ties are given (YtbaljljlahhkfaaGreatDoorTie.lean); close each card by the builder's one call (the guide's Derived/Test/ToyasCard.lean, 'card_holds'). Laid BY PROGRAM, IN A SANDBOX (cutbox-door.mjs). By AI agents, Wed Nov 11 2026. No macro, syntax, notation, axiom, sorry.
-/
import Derived.Test.YtbaljljlahhkfaaGreatDoorRows
import GoSem.ClaimSeven
namespace Go.Proofs.YtbaljljlahhkfaaGreatDoor
namespace Rows

/-- THE TIED CARD OF 'laws.FnExactStrongParts'. -/
def fnExactStrongPartsCard : Claim7 := { stood := { row := fnExactStrongPartsRow, standIns := [], harness := (true, "a063ec22b121c4bbe05b00e36bfef59ff3f924121ec35662308a8680a563c61b"), looks := true }, kinds := [], alts := [], laidByText := true, laidKinds := [.data, .data, .data, .sentinel, .sentinel], laidTests := true, laidLooks := .later }
def FnExactStrongPartsCardSaid : Prop := Claim7.holds Tryz.pinned (.plain (OpenSpec.ofChange fnExactStrongPartsSpec)) fnExactStrongPartsCard

/-- THE TIED CARD OF 'laws.FnExactCores'. -/
def fnExactCoresCard : Claim7 := { stood := { row := fnExactCoresRow, standIns := [], harness := (true, "a063ec22b121c4bbe05b00e36bfef59ff3f924121ec35662308a8680a563c61b"), looks := true }, kinds := [], alts := [], laidByText := true, laidKinds := [.data, .data, .data, .sentinel, .sentinel], laidTests := true, laidLooks := .later }
def FnExactCoresCardSaid : Prop := Claim7.holds Tryz.pinned (.plain (OpenSpec.ofChange fnExactCoresSpec)) fnExactCoresCard

/-- THE TIED CARD OF 'laws.FnExactTrusses'. -/
def fnExactTrussesCard : Claim7 := { stood := { row := fnExactTrussesRow, standIns := [], harness := (true, "a063ec22b121c4bbe05b00e36bfef59ff3f924121ec35662308a8680a563c61b"), looks := true }, kinds := [], alts := [], laidByText := true, laidKinds := [.data, .data, .data, .sentinel, .sentinel], laidTests := true, laidLooks := .later }
def FnExactTrussesCardSaid : Prop := Claim7.holds Tryz.pinned (.plain (OpenSpec.ofChange fnExactTrussesSpec)) fnExactTrussesCard

/-- THE TIED CARD OF 'laws.FnExactCircleOf'. -/
def fnExactCircleOfCard : Claim7 := { stood := { row := fnExactCircleOfRow, standIns := [], harness := (true, "a063ec22b121c4bbe05b00e36bfef59ff3f924121ec35662308a8680a563c61b"), looks := true }, kinds := [], alts := [], laidByText := true, laidKinds := [.data, .data, .data, .sentinel, .sentinel], laidTests := true, laidLooks := .later }
def FnExactCircleOfCardSaid : Prop := Claim7.holds Tryz.pinned (.plain (OpenSpec.ofChange fnExactCircleOfSpec)) fnExactCircleOfCard

/-- THE TIED CARD OF 'laws.FnExactFarFrom'. -/
def fnExactFarFromCard : Claim7 := { stood := { row := fnExactFarFromRow, standIns := [], harness := (true, "a063ec22b121c4bbe05b00e36bfef59ff3f924121ec35662308a8680a563c61b"), looks := true }, kinds := [], alts := [], laidByText := true, laidKinds := [.data, .data, .data, .sentinel, .sentinel], laidTests := true, laidLooks := .later }
def FnExactFarFromCardSaid : Prop := Claim7.holds Tryz.pinned (.plain (OpenSpec.ofChange fnExactFarFromSpec)) fnExactFarFromCard

/-- THE SECOND FORM's CARD OF 'laws.FnExactStrongParts'. -/
def fnExactStrongPartsUptoCard : Claim7 := { stood := { row := fnExactStrongPartsUptoRow, standIns := [], harness := (true, "a063ec22b121c4bbe05b00e36bfef59ff3f924121ec35662308a8680a563c61b"), looks := true }, kinds := [], alts := [], laidByText := true, laidKinds := [.data, .data, .data, .sentinel, .sentinel], laidTests := true, laidLooks := .later }
def FnExactStrongPartsUptoCardSaid : Prop := Claim7.holds Tryz.pinned (.plain (OpenSpec.upto fnExactStrongPartsSpec)) fnExactStrongPartsUptoCard

/-- THE SECOND FORM's CARD OF 'laws.FnExactCores'. -/
def fnExactCoresUptoCard : Claim7 := { stood := { row := fnExactCoresUptoRow, standIns := [], harness := (true, "a063ec22b121c4bbe05b00e36bfef59ff3f924121ec35662308a8680a563c61b"), looks := true }, kinds := [], alts := [], laidByText := true, laidKinds := [.data, .data, .data, .sentinel, .sentinel], laidTests := true, laidLooks := .later }
def FnExactCoresUptoCardSaid : Prop := Claim7.holds Tryz.pinned (.plain (OpenSpec.upto fnExactCoresSpec)) fnExactCoresUptoCard

/-- THE SECOND FORM's CARD OF 'laws.FnExactTrusses'. -/
def fnExactTrussesUptoCard : Claim7 := { stood := { row := fnExactTrussesUptoRow, standIns := [], harness := (true, "a063ec22b121c4bbe05b00e36bfef59ff3f924121ec35662308a8680a563c61b"), looks := true }, kinds := [], alts := [], laidByText := true, laidKinds := [.data, .data, .data, .sentinel, .sentinel], laidTests := true, laidLooks := .later }
def FnExactTrussesUptoCardSaid : Prop := Claim7.holds Tryz.pinned (.plain (OpenSpec.upto fnExactTrussesSpec)) fnExactTrussesUptoCard

/-- THE SECOND FORM's CARD OF 'laws.FnExactCircleOf'. -/
def fnExactCircleOfUptoCard : Claim7 := { stood := { row := fnExactCircleOfUptoRow, standIns := [], harness := (true, "a063ec22b121c4bbe05b00e36bfef59ff3f924121ec35662308a8680a563c61b"), looks := true }, kinds := [], alts := [], laidByText := true, laidKinds := [.data, .data, .data, .sentinel, .sentinel], laidTests := true, laidLooks := .later }
def FnExactCircleOfUptoCardSaid : Prop := Claim7.holds Tryz.pinned (.plain (OpenSpec.upto fnExactCircleOfSpec)) fnExactCircleOfUptoCard

/-- THE SECOND FORM's CARD OF 'laws.FnExactFarFrom'. -/
def fnExactFarFromUptoCard : Claim7 := { stood := { row := fnExactFarFromUptoRow, standIns := [], harness := (true, "a063ec22b121c4bbe05b00e36bfef59ff3f924121ec35662308a8680a563c61b"), looks := true }, kinds := [], alts := [], laidByText := true, laidKinds := [.data, .data, .data, .sentinel, .sentinel], laidTests := true, laidLooks := .later }
def FnExactFarFromUptoCardSaid : Prop := Claim7.holds Tryz.pinned (.plain (OpenSpec.upto fnExactFarFromSpec)) fnExactFarFromUptoCard
end Rows
end Go.Proofs.YtbaljljlahhkfaaGreatDoor
