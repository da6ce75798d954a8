/-
  DERIVED. GIVEN WITH THE SEED: THE CARDS: each row of YtdajbooimahmnaaGreatDoorRows.lean that lists a variable, with what it lists TIED to the program's text (the seventh form; the later family's looks); each row that meets fmt, with fmt's text TOLD by the authors' own Lean function (tested against real Go, not proved from fmt's source: count such statements apart). THE CARD IS WHAT COUNTS. Prove the row's statement (the work); the ties are given (YtdajbooimahmnaaGreatDoorTie.lean); close each card by the builder's one call (the guide's Derived/Test/ToyasCard.lean, 'card_holds'). Laid BY PROGRAM, IN A SANDBOX (cutbox-door.mjs). By AI agents, Wed Nov 11 2026. No macro, syntax, notation, axiom, sorry.
-/
import Derived.Test.YtdajbooimahmnaaGreatDoorRows
import GoSem.ClaimSeven
namespace Go.Proofs.YtdajbooimahmnaaGreatDoor
namespace Rows

/-- THE TIED CARD OF 'rifflelaw30.TallyNil'. -/
def tallyNilCard : Claim7 := { stood := { row := tallyNilRow, standIns := [], harness := (true, "1cbd88afb34b88870015d3cccefdc2e6d67bb6dbc3b043e741cb0f556a7104ea"), looks := true }, kinds := [], alts := [], laidByText := true, laidKinds := [.data, .data, .data], laidTests := true, laidLooks := .later }
def TallyNilCardSaid : Prop := Claim7.holds Tryz.pinned (.plain (OpenSpec.ofChange tallyNilSpec)) tallyNilCard

/-- THE SECOND FORM's CARD OF 'rifflelaw30.TallyNil'. -/
def tallyNilUptoCard : Claim7 := { stood := { row := tallyNilUptoRow, standIns := [], harness := (true, "1cbd88afb34b88870015d3cccefdc2e6d67bb6dbc3b043e741cb0f556a7104ea"), looks := true }, kinds := [], alts := [], laidByText := true, laidKinds := [.data, .data, .data], laidTests := true, laidLooks := .later }
def TallyNilUptoCardSaid : Prop := Claim7.holds Tryz.pinned (.plain (OpenSpec.upto tallyNilSpec)) tallyNilUptoCard
end Rows
end Go.Proofs.YtdajbooimahmnaaGreatDoor
