/-
  DERIVED. GIVEN WITH THE SEED: THE CARDS: each row of YtgambdjpncpdaaaGreatDoorRows.lean that lists a variable, with what it lists TIED to the program's text (the seventh form; the later family's looks); each row that meets fmt, with fmt's text TOLD by the authors' own Lean function (tested against real Go, not proved from fmt's source: count such statements apart). THE CARD IS WHAT COUNTS. Prove the row's statement (the work); the ties are given (YtgambdjpncpdaaaGreatDoorTie.lean); close each card by the builder's one call (the guide's Derived/Test/ToyasCard.lean, 'card_holds'). Laid BY PROGRAM, IN A SANDBOX (cutbox-door.mjs). By AI agents, Wed Nov 11 2026. No macro, syntax, notation, axiom, sorry.
-/
import Derived.Test.YtgambdjpncpdaaaGreatDoorRows
import GoSem.ClaimSeven
namespace Go.Proofs.YtgambdjpncpdaaaGreatDoor
namespace Rows

/-- THE TIED CARD OF 'formularylaw24.GateOfNothing'. -/
def gateOfNothingCard : Claim7 := { stood := { row := gateOfNothingRow, standIns := [], harness := (true, "d7684d6db05d8cd7e60a4ddac580dc0990f3c7803e0356bdb74b4eacb3751776"), looks := true }, kinds := [], alts := [], laidByText := true, laidKinds := [.sentinel, .sentinel, .data, .data, .data, .pinned, .data], laidTests := true, laidLooks := .later }
def GateOfNothingCardSaid : Prop := Claim7.holds Tryz.pinned (.plain (OpenSpec.ofChange gateOfNothingSpec)) gateOfNothingCard

/-- THE SECOND FORM's CARD OF 'formularylaw24.GateOfNothing'. -/
def gateOfNothingUptoCard : Claim7 := { stood := { row := gateOfNothingUptoRow, standIns := [], harness := (true, "d7684d6db05d8cd7e60a4ddac580dc0990f3c7803e0356bdb74b4eacb3751776"), looks := true }, kinds := [], alts := [], laidByText := true, laidKinds := [.sentinel, .sentinel, .data, .data, .data, .pinned, .data], laidTests := true, laidLooks := .later }
def GateOfNothingUptoCardSaid : Prop := Claim7.holds Tryz.pinned (.plain (OpenSpec.upto gateOfNothingSpec)) gateOfNothingUptoCard
end Rows
end Go.Proofs.YtgambdjpncpdaaaGreatDoor
