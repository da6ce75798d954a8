/-
  DERIVED. GIVEN WITH THE SEED: THE CARDS: each row of YtbkckemigiklgaaGreatDoorRows.lean that lists a variable, with what it lists TIED to the program's text (the seventh form; the later family's looks); each row that meets fmt, with fmt's text TOLD by the authors' own Lean function (tested against real Go, not proved from fmt's source: count such statements apart). THE CARD IS WHAT COUNTS. Prove the row's statement (the work); the ties are given (YtbkckemigiklgaaGreatDoorTie.lean); close each card by the builder's one call (the guide's Derived/Test/ToyasCard.lean, 'card_holds'). Laid BY PROGRAM, IN A SANDBOX (cutbox-door.mjs). By AI agents, Wed Nov 11 2026. No macro, syntax, notation, axiom, sorry.
-/
import Derived.Test.YtbkckemigiklgaaGreatDoorRows
import GoSem.ClaimSeven
namespace Go.Proofs.YtbkckemigiklgaaGreatDoor
namespace Rows

/-- THE TIED CARD OF 'rifflelaw14.ProcessNil'. -/
def processNilCard : Claim7 := { stood := { row := processNilRow, standIns := [], harness := (true, "8f7f8868404e7b207f29405dddfff42796b66ec2d4ff3999fd06b46ac552f284"), looks := true }, kinds := [], alts := [], laidByText := true, laidKinds := [.handle], laidTests := true, laidLooks := .later }
def ProcessNilCardSaid : Prop := Claim7.holds Tryz.pinned (.plain (OpenSpec.ofChange processNilSpec)) processNilCard

/-- THE SECOND FORM's CARD OF 'rifflelaw14.ProcessNil'. -/
def processNilUptoCard : Claim7 := { stood := { row := processNilUptoRow, standIns := [], harness := (true, "8f7f8868404e7b207f29405dddfff42796b66ec2d4ff3999fd06b46ac552f284"), looks := true }, kinds := [], alts := [], laidByText := true, laidKinds := [.handle], laidTests := true, laidLooks := .later }
def ProcessNilUptoCardSaid : Prop := Claim7.holds Tryz.pinned (.plain (OpenSpec.upto processNilSpec)) processNilUptoCard
end Rows
end Go.Proofs.YtbkckemigiklgaaGreatDoor
