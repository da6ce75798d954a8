/-
  DERIVED. GIVEN WITH THE SEED: THE CARDS: each row of YtlhopiehnaabgaaGreatDoorRows.lean that lists a variable, with what it lists TIED to the program's text (the seventh form; the later family's looks); each row that meets fmt, with fmt's text TOLD by the authors' own Lean function (tested against real Go, not proved from fmt's source: count such statements apart). THE CARD IS WHAT COUNTS. Prove the row's statement (the work); the ties are given (YtlhopiehnaabgaaGreatDoorTie.lean); close each card by the builder's one call (the guide's Derived/Test/ToyasCard.lean, 'card_holds'). Laid BY PROGRAM, IN A SANDBOX (cutbox-door.mjs). By AI agents, Wed Nov 11 2026. No macro, syntax, notation, axiom, sorry.
-/
import Derived.Test.YtlhopiehnaabgaaGreatDoorRows
import GoSem.ClaimSeven
namespace Go.Proofs.YtlhopiehnaabgaaGreatDoor
namespace Rows

/-- THE TIED CARD OF 'rifflelaw09.ModelSpoilt'. -/
def modelSpoiltCard : Claim7 := { stood := { row := modelSpoiltRow, standIns := [], harness := (true, "938bec9565b22ba776ccfc0c983d2e3a30a9170f99d461c3f3cb6863ed2e3b20"), looks := true }, kinds := [], alts := [], laidByText := true, laidKinds := [.data, .data, .data, .data, .sentinel, .sentinel, .pinned], laidTests := true, laidLooks := .later }
def ModelSpoiltCardSaid : Prop := Claim7.holds Tryz.pinned (.plain (OpenSpec.ofChange modelSpoiltSpec)) modelSpoiltCard

/-- THE TIED CARD OF 'rifflelaw09.ModelMay'. -/
def modelMayCard : Claim7 := { stood := { row := modelMayRow, standIns := [], harness := (true, "938bec9565b22ba776ccfc0c983d2e3a30a9170f99d461c3f3cb6863ed2e3b20"), looks := true }, kinds := [], alts := [], laidByText := true, laidKinds := [.data, .data, .data, .data, .sentinel, .sentinel, .pinned], laidTests := true, laidLooks := .later }
def ModelMayCardSaid : Prop := Claim7.holds Tryz.pinned (.plain (OpenSpec.ofChange modelMaySpec)) modelMayCard

/-- THE SECOND FORM's CARD OF 'rifflelaw09.ModelSpoilt'. -/
def modelSpoiltUptoCard : Claim7 := { stood := { row := modelSpoiltUptoRow, standIns := [], harness := (true, "938bec9565b22ba776ccfc0c983d2e3a30a9170f99d461c3f3cb6863ed2e3b20"), looks := true }, kinds := [], alts := [], laidByText := true, laidKinds := [.data, .data, .data, .data, .sentinel, .sentinel, .pinned], laidTests := true, laidLooks := .later }
def ModelSpoiltUptoCardSaid : Prop := Claim7.holds Tryz.pinned (.plain (OpenSpec.upto modelSpoiltSpec)) modelSpoiltUptoCard

/-- THE SECOND FORM's CARD OF 'rifflelaw09.ModelMay'. -/
def modelMayUptoCard : Claim7 := { stood := { row := modelMayUptoRow, standIns := [], harness := (true, "938bec9565b22ba776ccfc0c983d2e3a30a9170f99d461c3f3cb6863ed2e3b20"), looks := true }, kinds := [], alts := [], laidByText := true, laidKinds := [.data, .data, .data, .data, .sentinel, .sentinel, .pinned], laidTests := true, laidLooks := .later }
def ModelMayUptoCardSaid : Prop := Claim7.holds Tryz.pinned (.plain (OpenSpec.upto modelMaySpec)) modelMayUptoCard
end Rows
end Go.Proofs.YtlhopiehnaabgaaGreatDoor
