/-
  DERIVED. GIVEN WITH THE SEED: THE CARDS: each row of YtmmhmnempoghkaaGreatDoorRows.lean that lists a variable, with what it lists TIED to the program's text (the seventh form; the later family's looks); each row that meets fmt, with fmt's text TOLD by the authors' own Lean function (tested against real Go, not proved from fmt's source: count such statements apart). THE CARD IS WHAT COUNTS. Prove the row's statement (the work); the ties are given (YtmmhmnempoghkaaGreatDoorTie.lean); close each card by the builder's one call (the guide's Derived/Test/ToyasCard.lean, 'card_holds'). Laid BY PROGRAM, IN A SANDBOX (cutbox-door.mjs). By AI agents, Wed Nov 11 2026. No macro, syntax, notation, axiom, sorry.
-/
import Derived.Test.YtmmhmnempoghkaaGreatDoorRows
import GoSem.ClaimSeven
namespace Go.Proofs.YtmmhmnempoghkaaGreatDoor
namespace Rows

/-- THE TIED CARD OF 'rifflelaw28.ClientWrongs'. -/
def clientWrongsCard : Claim7 := { stood := { row := clientWrongsRow, standIns := [], harness := (true, "f95926c5f82ce9e7b35f8877bc6d4e1f158bfb5482274eeafe86ac16e7d05faa"), looks := true }, kinds := [], alts := [], laidByText := true, laidKinds := [.handle], laidTests := true, laidLooks := .later }
def ClientWrongsCardSaid : Prop := Claim7.holds Tryz.pinned (.plain (OpenSpec.ofChange clientWrongsSpec)) clientWrongsCard

/-- THE SECOND FORM's CARD OF 'rifflelaw28.ClientWrongs'. -/
def clientWrongsUptoCard : Claim7 := { stood := { row := clientWrongsUptoRow, standIns := [], harness := (true, "f95926c5f82ce9e7b35f8877bc6d4e1f158bfb5482274eeafe86ac16e7d05faa"), looks := true }, kinds := [], alts := [], laidByText := true, laidKinds := [.handle], laidTests := true, laidLooks := .later }
def ClientWrongsUptoCardSaid : Prop := Claim7.holds Tryz.pinned (.plain (OpenSpec.upto clientWrongsSpec)) clientWrongsUptoCard
end Rows
end Go.Proofs.YtmmhmnempoghkaaGreatDoor
