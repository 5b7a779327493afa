/-
  DERIVED. GIVEN WITH THE SEED: THE CARDS: each row of YtfekmcfoehnhbaaGreatDoorRows.lean that lists a variable, with what it lists TIED to the program's text (the seventh form; the later family's looks); each row that meets fmt, with fmt's text TOLD by the authors' own Lean function (tested against real Go, not proved from fmt's source: count such statements apart). THE CARD IS WHAT COUNTS. Prove the row's statement (the work); the ties are given (YtfekmcfoehnhbaaGreatDoorTie.lean); close each card by the builder's one call (the guide's Derived/Test/ToyasCard.lean, 'card_holds'). Laid BY PROGRAM, IN A SANDBOX (cutbox-door.mjs). By AI agents, Wed Nov 11 2026. No macro, syntax, notation, axiom, sorry.
-/
import Derived.Test.YtfekmcfoehnhbaaGreatDoorRows
import GoSem.ClaimSeven
namespace Go.Proofs.YtfekmcfoehnhbaaGreatDoor
namespace Rows

/-- THE TIED CARD OF 'formularylaw12.RecalcReach'. -/
def recalcReachCard : Claim7 := { stood := { row := recalcReachRow, standIns := [], harness := (true, "02c5ec4c832b47275fb9836d40b2a4edf782c1151793875d3ececa4f6d8a5545"), looks := true }, kinds := [], alts := [], laidByText := true, laidKinds := [.data, .data, .data, .sentinel, .sentinel], laidTests := true, laidLooks := .later }
def RecalcReachCardSaid : Prop := Claim7.holds Tryz.pinned (.plain (OpenSpec.ofChange recalcReachSpec)) recalcReachCard

/-- THE TIED CARD OF 'formularylaw12.RecalcTurns'. -/
def recalcTurnsCard : Claim7 := { stood := { row := recalcTurnsRow, standIns := [], harness := (true, "02c5ec4c832b47275fb9836d40b2a4edf782c1151793875d3ececa4f6d8a5545"), looks := true }, kinds := [], alts := [], laidByText := true, laidKinds := [.data, .data, .data, .sentinel, .sentinel], laidTests := true, laidLooks := .later }
def RecalcTurnsCardSaid : Prop := Claim7.holds Tryz.pinned (.plain (OpenSpec.ofChange recalcTurnsSpec)) recalcTurnsCard

/-- THE TIED CARD OF 'formularylaw13.WizardMeans'. -/
def wizardMeansCard : Claim7 := { stood := { row := wizardMeansRow, standIns := [], harness := (true, "02c5ec4c832b47275fb9836d40b2a4edf782c1151793875d3ececa4f6d8a5545"), looks := true }, kinds := [], alts := [], laidByText := true, laidKinds := [.data, .data, .data, .sentinel, .sentinel], laidTests := true, laidLooks := .later }
def WizardMeansCardSaid : Prop := Claim7.holds Tryz.pinned (.plain (OpenSpec.ofChange wizardMeansSpec)) wizardMeansCard

/-- THE TIED CARD OF 'formularylaw13.WizardPages'. -/
def wizardPagesCard : Claim7 := { stood := { row := wizardPagesRow, standIns := [], harness := (true, "02c5ec4c832b47275fb9836d40b2a4edf782c1151793875d3ececa4f6d8a5545"), looks := true }, kinds := [], alts := [], laidByText := true, laidKinds := [.data, .data, .data, .sentinel, .sentinel], laidTests := true, laidLooks := .later }
def WizardPagesCardSaid : Prop := Claim7.holds Tryz.pinned (.plain (OpenSpec.ofChange wizardPagesSpec)) wizardPagesCard

/-- THE TIED CARD OF 'formularylaw13.WizardPlays'. -/
def wizardPlaysCard : Claim7 := { stood := { row := wizardPlaysRow, standIns := [], harness := (true, "02c5ec4c832b47275fb9836d40b2a4edf782c1151793875d3ececa4f6d8a5545"), looks := true }, kinds := [], alts := [], laidByText := true, laidKinds := [.data, .data, .data, .sentinel, .sentinel], laidTests := true, laidLooks := .later }
def WizardPlaysCardSaid : Prop := Claim7.holds Tryz.pinned (.plain (OpenSpec.ofChange wizardPlaysSpec)) wizardPlaysCard

/-- THE TIED CARD OF 'formularylaw13.WizardOfNothing'. -/
def wizardOfNothingCard : Claim7 := { stood := { row := wizardOfNothingRow, standIns := [], harness := (true, "02c5ec4c832b47275fb9836d40b2a4edf782c1151793875d3ececa4f6d8a5545"), looks := true }, kinds := [], alts := [], laidByText := true, laidKinds := [.data, .data, .data, .sentinel, .sentinel], laidTests := true, laidLooks := .later }
def WizardOfNothingCardSaid : Prop := Claim7.holds Tryz.pinned (.plain (OpenSpec.ofChange wizardOfNothingSpec)) wizardOfNothingCard

/-- THE SECOND FORM's CARD OF 'formularylaw12.RecalcReach'. -/
def recalcReachUptoCard : Claim7 := { stood := { row := recalcReachUptoRow, standIns := [], harness := (true, "02c5ec4c832b47275fb9836d40b2a4edf782c1151793875d3ececa4f6d8a5545"), looks := true }, kinds := [], alts := [], laidByText := true, laidKinds := [.data, .data, .data, .sentinel, .sentinel], laidTests := true, laidLooks := .later }
def RecalcReachUptoCardSaid : Prop := Claim7.holds Tryz.pinned (.plain (OpenSpec.upto recalcReachSpec)) recalcReachUptoCard

/-- THE SECOND FORM's CARD OF 'formularylaw12.RecalcTurns'. -/
def recalcTurnsUptoCard : Claim7 := { stood := { row := recalcTurnsUptoRow, standIns := [], harness := (true, "02c5ec4c832b47275fb9836d40b2a4edf782c1151793875d3ececa4f6d8a5545"), looks := true }, kinds := [], alts := [], laidByText := true, laidKinds := [.data, .data, .data, .sentinel, .sentinel], laidTests := true, laidLooks := .later }
def RecalcTurnsUptoCardSaid : Prop := Claim7.holds Tryz.pinned (.plain (OpenSpec.upto recalcTurnsSpec)) recalcTurnsUptoCard

/-- THE SECOND FORM's CARD OF 'formularylaw13.WizardMeans'. -/
def wizardMeansUptoCard : Claim7 := { stood := { row := wizardMeansUptoRow, standIns := [], harness := (true, "02c5ec4c832b47275fb9836d40b2a4edf782c1151793875d3ececa4f6d8a5545"), looks := true }, kinds := [], alts := [], laidByText := true, laidKinds := [.data, .data, .data, .sentinel, .sentinel], laidTests := true, laidLooks := .later }
def WizardMeansUptoCardSaid : Prop := Claim7.holds Tryz.pinned (.plain (OpenSpec.upto wizardMeansSpec)) wizardMeansUptoCard

/-- THE SECOND FORM's CARD OF 'formularylaw13.WizardPages'. -/
def wizardPagesUptoCard : Claim7 := { stood := { row := wizardPagesUptoRow, standIns := [], harness := (true, "02c5ec4c832b47275fb9836d40b2a4edf782c1151793875d3ececa4f6d8a5545"), looks := true }, kinds := [], alts := [], laidByText := true, laidKinds := [.data, .data, .data, .sentinel, .sentinel], laidTests := true, laidLooks := .later }
def WizardPagesUptoCardSaid : Prop := Claim7.holds Tryz.pinned (.plain (OpenSpec.upto wizardPagesSpec)) wizardPagesUptoCard

/-- THE SECOND FORM's CARD OF 'formularylaw13.WizardPlays'. -/
def wizardPlaysUptoCard : Claim7 := { stood := { row := wizardPlaysUptoRow, standIns := [], harness := (true, "02c5ec4c832b47275fb9836d40b2a4edf782c1151793875d3ececa4f6d8a5545"), looks := true }, kinds := [], alts := [], laidByText := true, laidKinds := [.data, .data, .data, .sentinel, .sentinel], laidTests := true, laidLooks := .later }
def WizardPlaysUptoCardSaid : Prop := Claim7.holds Tryz.pinned (.plain (OpenSpec.upto wizardPlaysSpec)) wizardPlaysUptoCard

/-- THE SECOND FORM's CARD OF 'formularylaw13.WizardOfNothing'. -/
def wizardOfNothingUptoCard : Claim7 := { stood := { row := wizardOfNothingUptoRow, standIns := [], harness := (true, "02c5ec4c832b47275fb9836d40b2a4edf782c1151793875d3ececa4f6d8a5545"), looks := true }, kinds := [], alts := [], laidByText := true, laidKinds := [.data, .data, .data, .sentinel, .sentinel], laidTests := true, laidLooks := .later }
def WizardOfNothingUptoCardSaid : Prop := Claim7.holds Tryz.pinned (.plain (OpenSpec.upto wizardOfNothingSpec)) wizardOfNothingUptoCard
end Rows
end Go.Proofs.YtfekmcfoehnhbaaGreatDoor
