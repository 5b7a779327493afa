/-
  DERIVED. GIVEN WITH THE SEED: THE CARDS: each row of YthmjnaiblimhmaaGreatDoorRows.lean that lists a variable, with what it lists TIED to the program's text (the seventh form; the later family's looks); each row that meets fmt, with fmt's text TOLD by the authors' own Lean function (tested against real Go, not proved from fmt's source: count such statements apart). THE CARD IS WHAT COUNTS. Prove the row's statement (the work); the ties are given (YthmjnaiblimhmaaGreatDoorTie.lean); close each card by the builder's one call (the guide's Derived/Test/ToyasCard.lean, 'card_holds'). Laid BY PROGRAM, IN A SANDBOX (cutbox-door.mjs). By AI agents, Wed Nov 11 2026. No macro, syntax, notation, axiom, sorry.
-/
import Derived.Test.YthmjnaiblimhmaaGreatDoorRows
import GoSem.ClaimSeven
namespace Go.Proofs.YthmjnaiblimhmaaGreatDoor
namespace Rows

/-- THE TIED CARD OF 'formularylaw26.ModelTurns'. -/
def modelTurnsCard : Claim7 := { stood := { row := modelTurnsRow, standIns := [], harness := (true, "2745e92290ced745424179567c114864b9a8109467d8cc72f2e09e7e53722bff"), looks := true }, kinds := [], alts := [], laidByText := true, laidKinds := [.data, .data, .data, .sentinel, .sentinel], laidTests := true, laidLooks := .later }
def ModelTurnsCardSaid : Prop := Claim7.holds Tryz.pinned (.plain (OpenSpec.ofChange modelTurnsSpec)) modelTurnsCard

/-- THE SECOND FORM's CARD OF 'formularylaw26.ModelTurns'. -/
def modelTurnsUptoCard : Claim7 := { stood := { row := modelTurnsUptoRow, standIns := [], harness := (true, "2745e92290ced745424179567c114864b9a8109467d8cc72f2e09e7e53722bff"), looks := true }, kinds := [], alts := [], laidByText := true, laidKinds := [.data, .data, .data, .sentinel, .sentinel], laidTests := true, laidLooks := .later }
def ModelTurnsUptoCardSaid : Prop := Claim7.holds Tryz.pinned (.plain (OpenSpec.upto modelTurnsSpec)) modelTurnsUptoCard
end Rows
end Go.Proofs.YthmjnaiblimhmaaGreatDoor
