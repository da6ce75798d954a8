/-
  DERIVED. GIVEN WITH THE SEED: THE CARDS: each row of YtbkckemigiklgacGreatDoorRows.lean that lists a variable, with what it lists TIED to the program's text (the seventh form; the later family's looks); each row that meets fmt, with fmt's text TOLD by the authors' own Lean function (tested against real Go, not proved from fmt's source: count such statements apart). THE CARD IS WHAT COUNTS. Prove the row's statement (the work); the ties are given (YtbkckemigiklgacGreatDoorTie.lean); close each card by the builder's one call (the guide's Derived/Test/ToyasCard.lean, 'card_holds'). Laid BY PROGRAM, IN A SANDBOX (cutbox-door.mjs). By AI agents, Wed Nov 11 2026. No macro, syntax, notation, axiom, sorry.
-/
import Derived.Test.YtbkckemigiklgacGreatDoorRows
import GoSem.ClaimSeven
namespace Go.Proofs.YtbkckemigiklgacGreatDoor
namespace Rows

/-- THE TIED CARD OF 'rifflelaw19.SteerNil'. -/
def steerNilCard : Claim7 := { stood := { row := steerNilRow, standIns := [], harness := (true, "f7ab6a415012e5cfcde3a0304909e0ecb5a214d91c5fd6458f551690ba348cf0"), looks := true }, kinds := [], alts := [], laidByText := true, laidKinds := [.handle], laidTests := true, laidLooks := .later }
def SteerNilCardSaid : Prop := Claim7.holds Tryz.pinned (.plain (OpenSpec.ofChange steerNilSpec)) steerNilCard

/-- THE SECOND FORM's CARD OF 'rifflelaw19.SteerNil'. -/
def steerNilUptoCard : Claim7 := { stood := { row := steerNilUptoRow, standIns := [], harness := (true, "f7ab6a415012e5cfcde3a0304909e0ecb5a214d91c5fd6458f551690ba348cf0"), looks := true }, kinds := [], alts := [], laidByText := true, laidKinds := [.handle], laidTests := true, laidLooks := .later }
def SteerNilUptoCardSaid : Prop := Claim7.holds Tryz.pinned (.plain (OpenSpec.upto steerNilSpec)) steerNilUptoCard
end Rows
end Go.Proofs.YtbkckemigiklgacGreatDoor
