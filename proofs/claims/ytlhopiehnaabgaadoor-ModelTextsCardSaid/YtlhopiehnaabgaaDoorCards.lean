/-
  DERIVED. GIVEN WITH THE SEED: THE CARDS: each row of YtlhopiehnaabgaaDoorRows.lean that lists a variable, with what it lists TIED to the program's text (the seventh form; the later family's looks); each row that meets fmt, with fmt's text TOLD by the authors' own Lean function (tested against real Go, not proved from fmt's source: count such statements apart). THE CARD IS WHAT COUNTS. Prove the row's statement (the work); the ties are given (YtlhopiehnaabgaaDoorTie.lean); close each card by the builder's one call (the guide's Derived/Test/ToyasCard.lean, 'card_holds'). Laid BY PROGRAM, IN A SANDBOX (cutbox-door.mjs). By AI agents, Wed Nov 11 2026. No macro, syntax, notation, axiom, sorry.
-/
import Derived.Test.YtlhopiehnaabgaaDoorRows
import GoSem.ClaimSeven
namespace Go.Proofs.YtlhopiehnaabgaaDoor
namespace Rows

/-- THE TIED CARD OF 'rifflelaw09.ModelBytes'. -/
def modelBytesCard : Claim7 := { stood := { row := modelBytesRow, standIns := [], harness := (true, "6eae1d39769fc99a7b13058748346dc8c729a3eeb42a4f29dab0b5e6802b549e"), looks := true }, kinds := [], alts := [], laidByText := true, laidKinds := [.data, .data, .data], laidTests := true, laidLooks := .later }
def ModelBytesCardSaid : Prop := Claim7.holds Tryd.pinned (.plain (OpenSpec.ofChange modelBytesSpec)) modelBytesCard

/-- THE TIED CARD OF 'rifflelaw03.CodeTexts'. -/
def codeTextsCard : Claim7 := { stood := { row := codeTextsRow, standIns := [], harness := (true, "6eae1d39769fc99a7b13058748346dc8c729a3eeb42a4f29dab0b5e6802b549e"), looks := true }, kinds := [], alts := [], laidByText := true, laidKinds := [.data, .data, .data, .data, .sentinel, .sentinel, .pinned], laidTests := true, laidLooks := .later }
def CodeTextsCardSaid : Prop := Claim7.holds Tryd.pinned (.plain (OpenSpec.ofChange codeTextsSpec)) codeTextsCard

/-- THE TIED CARD OF 'rifflelaw03.CodeMay'. -/
def codeMayCard : Claim7 := { stood := { row := codeMayRow, standIns := [], harness := (true, "6eae1d39769fc99a7b13058748346dc8c729a3eeb42a4f29dab0b5e6802b549e"), looks := true }, kinds := [], alts := [], laidByText := true, laidKinds := [.data, .data, .data, .data, .sentinel, .sentinel, .pinned], laidTests := true, laidLooks := .later }
def CodeMayCardSaid : Prop := Claim7.holds Tryd.pinned (.plain (OpenSpec.ofChange codeMaySpec)) codeMayCard

/-- THE TIED CARD OF 'rifflelaw09.ModelTexts'. -/
def modelTextsCard : Claim7 := { stood := { row := modelTextsRow, standIns := [], harness := (true, "6eae1d39769fc99a7b13058748346dc8c729a3eeb42a4f29dab0b5e6802b549e"), looks := true }, kinds := [], alts := [], laidByText := true, laidKinds := [.data, .data, .data, .data, .sentinel, .sentinel, .pinned], laidTests := true, laidLooks := .later }
def ModelTextsCardSaid : Prop := Claim7.holds Tryd.pinned (.plain (OpenSpec.ofChange modelTextsSpec)) modelTextsCard

/-- THE SECOND FORM's CARD OF 'rifflelaw09.ModelBytes'. -/
def modelBytesUptoCard : Claim7 := { stood := { row := modelBytesUptoRow, standIns := [], harness := (true, "6eae1d39769fc99a7b13058748346dc8c729a3eeb42a4f29dab0b5e6802b549e"), looks := true }, kinds := [], alts := [], laidByText := true, laidKinds := [.data, .data, .data], laidTests := true, laidLooks := .later }
def ModelBytesUptoCardSaid : Prop := Claim7.holds Tryd.pinned (.plain (OpenSpec.upto modelBytesSpec)) modelBytesUptoCard

/-- THE SECOND FORM's CARD OF 'rifflelaw03.CodeTexts'. -/
def codeTextsUptoCard : Claim7 := { stood := { row := codeTextsUptoRow, standIns := [], harness := (true, "6eae1d39769fc99a7b13058748346dc8c729a3eeb42a4f29dab0b5e6802b549e"), looks := true }, kinds := [], alts := [], laidByText := true, laidKinds := [.data, .data, .data, .data, .sentinel, .sentinel, .pinned], laidTests := true, laidLooks := .later }
def CodeTextsUptoCardSaid : Prop := Claim7.holds Tryd.pinned (.plain (OpenSpec.upto codeTextsSpec)) codeTextsUptoCard

/-- THE SECOND FORM's CARD OF 'rifflelaw03.CodeMay'. -/
def codeMayUptoCard : Claim7 := { stood := { row := codeMayUptoRow, standIns := [], harness := (true, "6eae1d39769fc99a7b13058748346dc8c729a3eeb42a4f29dab0b5e6802b549e"), looks := true }, kinds := [], alts := [], laidByText := true, laidKinds := [.data, .data, .data, .data, .sentinel, .sentinel, .pinned], laidTests := true, laidLooks := .later }
def CodeMayUptoCardSaid : Prop := Claim7.holds Tryd.pinned (.plain (OpenSpec.upto codeMaySpec)) codeMayUptoCard

/-- THE SECOND FORM's CARD OF 'rifflelaw09.ModelTexts'. -/
def modelTextsUptoCard : Claim7 := { stood := { row := modelTextsUptoRow, standIns := [], harness := (true, "6eae1d39769fc99a7b13058748346dc8c729a3eeb42a4f29dab0b5e6802b549e"), looks := true }, kinds := [], alts := [], laidByText := true, laidKinds := [.data, .data, .data, .data, .sentinel, .sentinel, .pinned], laidTests := true, laidLooks := .later }
def ModelTextsUptoCardSaid : Prop := Claim7.holds Tryd.pinned (.plain (OpenSpec.upto modelTextsSpec)) modelTextsUptoCard
end Rows
end Go.Proofs.YtlhopiehnaabgaaDoor
