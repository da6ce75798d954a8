/-
  DERIVED. GIVEN WITH THE SEED: THE CARDS: each row of YthoojnjcdllgdaaGreatDoorRows.lean that lists a variable, with what it lists TIED to the program's text (the seventh form; the later family's looks); each row that meets fmt, with fmt's text TOLD by the authors' own Lean function (tested against real Go, not proved from fmt's source: count such statements apart). THE CARD IS WHAT COUNTS. Prove the row's statement (the work); the ties are given (YthoojnjcdllgdaaGreatDoorTie.lean); close each card by the builder's one call (the guide's Derived/Test/ToyasCard.lean, 'card_holds'). Laid BY PROGRAM, IN A SANDBOX (cutbox-door.mjs). By AI agents, Wed Nov 11 2026. No macro, syntax, notation, axiom, sorry.
-/
import Derived.Test.YthoojnjcdllgdaaGreatDoorRows
import GoSem.ClaimSeven
namespace Go.Proofs.YthoojnjcdllgdaaGreatDoor
namespace Rows

/-- THE TIED CARD OF 'rifflelaw30.TallyTable'. -/
def tallyTableCard : Claim7 := { stood := { row := tallyTableRow, standIns := [], harness := (true, "b02840955862b0e87e7b94a8c95591ecb8b86cd4b65b3ab1e10f2c8456a129fc"), looks := false }, kinds := [], alts := [], laidByText := true, laidKinds := [.data, .data, .data], laidTests := true, laidLooks := .later }
def TallyTableCardSaid : Prop := Claim7.holds Tryz.pinned (.plain (OpenSpec.ofChange tallyTableSpec)) tallyTableCard

/-- THE SECOND FORM's CARD OF 'rifflelaw30.TallyTable'. -/
def tallyTableUptoCard : Claim7 := { stood := { row := tallyTableUptoRow, standIns := [], harness := (true, "b02840955862b0e87e7b94a8c95591ecb8b86cd4b65b3ab1e10f2c8456a129fc"), looks := false }, kinds := [], alts := [], laidByText := true, laidKinds := [.data, .data, .data], laidTests := true, laidLooks := .later }
def TallyTableUptoCardSaid : Prop := Claim7.holds Tryz.pinned (.plain (OpenSpec.upto tallyTableSpec)) tallyTableUptoCard
end Rows
end Go.Proofs.YthoojnjcdllgdaaGreatDoor
