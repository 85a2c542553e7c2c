/-
  DERIVED. GIVEN WITH THE SEED: THE CARDS: each row of YtaoccbhdlkflfaaGreatDoorRows.lean that lists a variable, with what it lists TIED to the program's text (the seventh form; the later family's looks); each row that meets fmt, with fmt's text TOLD by the authors' own Lean function (tested against real Go, not proved from fmt's source: count such statements apart). THE CARD IS WHAT COUNTS. Prove the row's statement (the work); the ties are given (YtaoccbhdlkflfaaGreatDoorTie.lean); close each card by the builder's one call (the guide's Derived/Test/ToyasCard.lean, 'card_holds'). Laid BY PROGRAM, IN A SANDBOX (cutbox-door.mjs). By AI agents, Wed Nov 11 2026. No macro, syntax, notation, axiom, sorry.
-/
import Derived.Test.YtaoccbhdlkflfaaGreatDoorRows
import GoSem.ClaimSeven
namespace Go.Proofs.YtaoccbhdlkflfaaGreatDoor
namespace Rows

/-- THE TIED CARD OF 'laws.FnExactWeakParts'. -/
def fnExactWeakPartsCard : Claim7 := { stood := { row := fnExactWeakPartsRow, standIns := [], harness := (true, "63908d6609a1773db54114a5fe6657d13834290c80cbcf3a0750fae4285a16a8"), looks := true }, kinds := [], alts := [], laidByText := true, laidKinds := [.data, .data, .data, .sentinel, .sentinel], laidTests := true, laidLooks := .later }
def FnExactWeakPartsCardSaid : Prop := Claim7.holds Tryz.pinned (.plain (OpenSpec.ofChange fnExactWeakPartsSpec)) fnExactWeakPartsCard

/-- THE TIED CARD OF 'laws.FnExactBridges'. -/
def fnExactBridgesCard : Claim7 := { stood := { row := fnExactBridgesRow, standIns := [], harness := (true, "63908d6609a1773db54114a5fe6657d13834290c80cbcf3a0750fae4285a16a8"), looks := true }, kinds := [], alts := [], laidByText := true, laidKinds := [.data, .data, .data, .sentinel, .sentinel], laidTests := true, laidLooks := .later }
def FnExactBridgesCardSaid : Prop := Claim7.holds Tryz.pinned (.plain (OpenSpec.ofChange fnExactBridgesSpec)) fnExactBridgesCard

/-- THE TIED CARD OF 'laws.FnExactCutNodes'. -/
def fnExactCutNodesCard : Claim7 := { stood := { row := fnExactCutNodesRow, standIns := [], harness := (true, "63908d6609a1773db54114a5fe6657d13834290c80cbcf3a0750fae4285a16a8"), looks := true }, kinds := [], alts := [], laidByText := true, laidKinds := [.data, .data, .data, .sentinel, .sentinel], laidTests := true, laidLooks := .later }
def FnExactCutNodesCardSaid : Prop := Claim7.holds Tryz.pinned (.plain (OpenSpec.ofChange fnExactCutNodesSpec)) fnExactCutNodesCard

/-- THE TIED CARD OF 'laws.FnExactTriangles'. -/
def fnExactTrianglesCard : Claim7 := { stood := { row := fnExactTrianglesRow, standIns := [], harness := (true, "63908d6609a1773db54114a5fe6657d13834290c80cbcf3a0750fae4285a16a8"), looks := true }, kinds := [], alts := [], laidByText := true, laidKinds := [.data, .data, .data, .sentinel, .sentinel], laidTests := true, laidLooks := .later }
def FnExactTrianglesCardSaid : Prop := Claim7.holds Tryz.pinned (.plain (OpenSpec.ofChange fnExactTrianglesSpec)) fnExactTrianglesCard

/-- THE SECOND FORM's CARD OF 'laws.FnExactWeakParts'. -/
def fnExactWeakPartsUptoCard : Claim7 := { stood := { row := fnExactWeakPartsUptoRow, standIns := [], harness := (true, "63908d6609a1773db54114a5fe6657d13834290c80cbcf3a0750fae4285a16a8"), looks := true }, kinds := [], alts := [], laidByText := true, laidKinds := [.data, .data, .data, .sentinel, .sentinel], laidTests := true, laidLooks := .later }
def FnExactWeakPartsUptoCardSaid : Prop := Claim7.holds Tryz.pinned (.plain (OpenSpec.upto fnExactWeakPartsSpec)) fnExactWeakPartsUptoCard

/-- THE SECOND FORM's CARD OF 'laws.FnExactBridges'. -/
def fnExactBridgesUptoCard : Claim7 := { stood := { row := fnExactBridgesUptoRow, standIns := [], harness := (true, "63908d6609a1773db54114a5fe6657d13834290c80cbcf3a0750fae4285a16a8"), looks := true }, kinds := [], alts := [], laidByText := true, laidKinds := [.data, .data, .data, .sentinel, .sentinel], laidTests := true, laidLooks := .later }
def FnExactBridgesUptoCardSaid : Prop := Claim7.holds Tryz.pinned (.plain (OpenSpec.upto fnExactBridgesSpec)) fnExactBridgesUptoCard

/-- THE SECOND FORM's CARD OF 'laws.FnExactCutNodes'. -/
def fnExactCutNodesUptoCard : Claim7 := { stood := { row := fnExactCutNodesUptoRow, standIns := [], harness := (true, "63908d6609a1773db54114a5fe6657d13834290c80cbcf3a0750fae4285a16a8"), looks := true }, kinds := [], alts := [], laidByText := true, laidKinds := [.data, .data, .data, .sentinel, .sentinel], laidTests := true, laidLooks := .later }
def FnExactCutNodesUptoCardSaid : Prop := Claim7.holds Tryz.pinned (.plain (OpenSpec.upto fnExactCutNodesSpec)) fnExactCutNodesUptoCard

/-- THE SECOND FORM's CARD OF 'laws.FnExactTriangles'. -/
def fnExactTrianglesUptoCard : Claim7 := { stood := { row := fnExactTrianglesUptoRow, standIns := [], harness := (true, "63908d6609a1773db54114a5fe6657d13834290c80cbcf3a0750fae4285a16a8"), looks := true }, kinds := [], alts := [], laidByText := true, laidKinds := [.data, .data, .data, .sentinel, .sentinel], laidTests := true, laidLooks := .later }
def FnExactTrianglesUptoCardSaid : Prop := Claim7.holds Tryz.pinned (.plain (OpenSpec.upto fnExactTrianglesSpec)) fnExactTrianglesUptoCard
end Rows
end Go.Proofs.YtaoccbhdlkflfaaGreatDoor
