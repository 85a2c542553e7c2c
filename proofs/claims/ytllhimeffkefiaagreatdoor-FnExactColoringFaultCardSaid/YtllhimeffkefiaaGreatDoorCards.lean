/-
  DERIVED. GIVEN WITH THE SEED: THE CARDS: each row of YtllhimeffkefiaaGreatDoorRows.lean that lists a variable, with what it lists TIED to the program's text (the seventh form; the later family's looks); each row that meets fmt, with fmt's text TOLD by the authors' own Lean function (tested against real Go, not proved from fmt's source: count such statements apart). THE CARD IS WHAT COUNTS. Prove the row's statement (the work); the ties are given (YtllhimeffkefiaaGreatDoorTie.lean); close each card by the builder's one call (the guide's Derived/Test/ToyasCard.lean, 'card_holds'). Laid BY PROGRAM, IN A SANDBOX (cutbox-door.mjs). By AI agents, Wed Nov 11 2026. No macro, syntax, notation, axiom, sorry.
-/
import Derived.Test.YtllhimeffkefiaaGreatDoorRows
import GoSem.ClaimSeven
namespace Go.Proofs.YtllhimeffkefiaaGreatDoor
namespace Rows

/-- THE TIED CARD OF 'laws.FnExactColoringFault'. -/
def fnExactColoringFaultCard : Claim7 := { stood := { row := fnExactColoringFaultRow, standIns := [], harness := (true, "ca3a059e30129944077b217bca948e21f1a850b2b38c33d48f674884f4541622"), looks := true }, kinds := [], alts := [], laidByText := true, laidKinds := [.data, .data, .data, .sentinel, .sentinel], laidTests := true, laidLooks := .later }
def FnExactColoringFaultCardSaid : Prop := Claim7.holds Tryz.pinned (.plain (OpenSpec.ofChange fnExactColoringFaultSpec)) fnExactColoringFaultCard

/-- THE TIED CARD OF 'laws.FnExactCircleOf'. -/
def fnExactCircleOfCard : Claim7 := { stood := { row := fnExactCircleOfRow, standIns := [], harness := (true, "ca3a059e30129944077b217bca948e21f1a850b2b38c33d48f674884f4541622"), looks := true }, kinds := [], alts := [], laidByText := true, laidKinds := [.data, .data, .data, .sentinel, .sentinel], laidTests := true, laidLooks := .later }
def FnExactCircleOfCardSaid : Prop := Claim7.holds Tryz.pinned (.plain (OpenSpec.ofChange fnExactCircleOfSpec)) fnExactCircleOfCard

/-- THE TIED CARD OF 'laws.FnExactBetweenOf'. -/
def fnExactBetweenOfCard : Claim7 := { stood := { row := fnExactBetweenOfRow, standIns := [], harness := (true, "ca3a059e30129944077b217bca948e21f1a850b2b38c33d48f674884f4541622"), looks := true }, kinds := [], alts := [], laidByText := true, laidKinds := [.data, .data, .data, .sentinel, .sentinel], laidTests := true, laidLooks := .later }
def FnExactBetweenOfCardSaid : Prop := Claim7.holds Tryz.pinned (.plain (OpenSpec.ofChange fnExactBetweenOfSpec)) fnExactBetweenOfCard

/-- THE TIED CARD OF 'laws.FnExactFarFrom'. -/
def fnExactFarFromCard : Claim7 := { stood := { row := fnExactFarFromRow, standIns := [], harness := (true, "ca3a059e30129944077b217bca948e21f1a850b2b38c33d48f674884f4541622"), looks := true }, kinds := [], alts := [], laidByText := true, laidKinds := [.data, .data, .data, .sentinel, .sentinel], laidTests := true, laidLooks := .later }
def FnExactFarFromCardSaid : Prop := Claim7.holds Tryz.pinned (.plain (OpenSpec.ofChange fnExactFarFromSpec)) fnExactFarFromCard

/-- THE SECOND FORM's CARD OF 'laws.FnExactColoringFault'. -/
def fnExactColoringFaultUptoCard : Claim7 := { stood := { row := fnExactColoringFaultUptoRow, standIns := [], harness := (true, "ca3a059e30129944077b217bca948e21f1a850b2b38c33d48f674884f4541622"), looks := true }, kinds := [], alts := [], laidByText := true, laidKinds := [.data, .data, .data, .sentinel, .sentinel], laidTests := true, laidLooks := .later }
def FnExactColoringFaultUptoCardSaid : Prop := Claim7.holds Tryz.pinned (.plain (OpenSpec.upto fnExactColoringFaultSpec)) fnExactColoringFaultUptoCard

/-- THE SECOND FORM's CARD OF 'laws.FnExactCircleOf'. -/
def fnExactCircleOfUptoCard : Claim7 := { stood := { row := fnExactCircleOfUptoRow, standIns := [], harness := (true, "ca3a059e30129944077b217bca948e21f1a850b2b38c33d48f674884f4541622"), looks := true }, kinds := [], alts := [], laidByText := true, laidKinds := [.data, .data, .data, .sentinel, .sentinel], laidTests := true, laidLooks := .later }
def FnExactCircleOfUptoCardSaid : Prop := Claim7.holds Tryz.pinned (.plain (OpenSpec.upto fnExactCircleOfSpec)) fnExactCircleOfUptoCard

/-- THE SECOND FORM's CARD OF 'laws.FnExactBetweenOf'. -/
def fnExactBetweenOfUptoCard : Claim7 := { stood := { row := fnExactBetweenOfUptoRow, standIns := [], harness := (true, "ca3a059e30129944077b217bca948e21f1a850b2b38c33d48f674884f4541622"), looks := true }, kinds := [], alts := [], laidByText := true, laidKinds := [.data, .data, .data, .sentinel, .sentinel], laidTests := true, laidLooks := .later }
def FnExactBetweenOfUptoCardSaid : Prop := Claim7.holds Tryz.pinned (.plain (OpenSpec.upto fnExactBetweenOfSpec)) fnExactBetweenOfUptoCard

/-- THE SECOND FORM's CARD OF 'laws.FnExactFarFrom'. -/
def fnExactFarFromUptoCard : Claim7 := { stood := { row := fnExactFarFromUptoRow, standIns := [], harness := (true, "ca3a059e30129944077b217bca948e21f1a850b2b38c33d48f674884f4541622"), looks := true }, kinds := [], alts := [], laidByText := true, laidKinds := [.data, .data, .data, .sentinel, .sentinel], laidTests := true, laidLooks := .later }
def FnExactFarFromUptoCardSaid : Prop := Claim7.holds Tryz.pinned (.plain (OpenSpec.upto fnExactFarFromSpec)) fnExactFarFromUptoCard
end Rows
end Go.Proofs.YtllhimeffkefiaaGreatDoor
