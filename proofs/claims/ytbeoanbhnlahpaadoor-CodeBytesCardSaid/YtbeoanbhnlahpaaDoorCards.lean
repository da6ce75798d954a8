/-
  DERIVED. GIVEN WITH THE SEED: THE CARDS: each row of YtbeoanbhnlahpaaDoorRows.lean that lists a variable, with what it lists TIED to the program's text (the seventh form; the later family's looks); each row that meets fmt, with fmt's text TOLD by the authors' own Lean function (tested against real Go, not proved from fmt's source: count such statements apart). THE CARD IS WHAT COUNTS. Prove the row's statement (the work); the ties are given (YtbeoanbhnlahpaaDoorTie.lean); close each card by the builder's one call (the guide's Derived/Test/ToyasCard.lean, 'card_holds'). Laid BY PROGRAM, IN A SANDBOX (cutbox-door.mjs). By AI agents, Wed Nov 11 2026. No macro, syntax, notation, axiom, sorry.
-/
import Derived.Test.YtbeoanbhnlahpaaDoorRows
import GoSem.ClaimSeven
namespace Go.Proofs.YtbeoanbhnlahpaaDoor
namespace Rows

/-- THE TIED CARD OF 'rifflelaw03.CodeWords'. -/
def codeWordsCard : Claim7 := { stood := { row := codeWordsRow, standIns := [], harness := (true, "4c2e2955a344c49b7c5330b61783e03873b5821aa29a849dc5a72daeb1dd2f0d"), looks := true }, kinds := [], alts := [], laidByText := true, laidKinds := [.data, .data, .data], laidTests := true, laidLooks := .later }
def CodeWordsCardSaid : Prop := Claim7.holds Tryd.pinned (.plain (OpenSpec.ofChange codeWordsSpec)) codeWordsCard

/-- THE TIED CARD OF 'rifflelaw03.CodeBounds'. -/
def codeBoundsCard : Claim7 := { stood := { row := codeBoundsRow, standIns := [], harness := (true, "4c2e2955a344c49b7c5330b61783e03873b5821aa29a849dc5a72daeb1dd2f0d"), looks := true }, kinds := [], alts := [], laidByText := true, laidKinds := [.data, .data, .data], laidTests := true, laidLooks := .later }
def CodeBoundsCardSaid : Prop := Claim7.holds Tryd.pinned (.plain (OpenSpec.ofChange codeBoundsSpec)) codeBoundsCard

/-- THE TIED CARD OF 'rifflelaw03.CodeBytes'. -/
def codeBytesCard : Claim7 := { stood := { row := codeBytesRow, standIns := [], harness := (true, "4c2e2955a344c49b7c5330b61783e03873b5821aa29a849dc5a72daeb1dd2f0d"), looks := true }, kinds := [], alts := [], laidByText := true, laidKinds := [.data, .data, .data], laidTests := true, laidLooks := .later }
def CodeBytesCardSaid : Prop := Claim7.holds Tryd.pinned (.plain (OpenSpec.ofChange codeBytesSpec)) codeBytesCard

/-- THE TIED CARD OF 'rifflelaw03.CodeCopies'. -/
def codeCopiesCard : Claim7 := { stood := { row := codeCopiesRow, standIns := [], harness := (true, "4c2e2955a344c49b7c5330b61783e03873b5821aa29a849dc5a72daeb1dd2f0d"), looks := true }, kinds := [], alts := [], laidByText := true, laidKinds := [.data, .data, .data], laidTests := true, laidLooks := .later }
def CodeCopiesCardSaid : Prop := Claim7.holds Tryd.pinned (.plain (OpenSpec.ofChange codeCopiesSpec)) codeCopiesCard

/-- THE TIED CARD OF 'rifflelaw03.CodeTexts'. -/
def codeTextsCard : Claim7 := { stood := { row := codeTextsRow, standIns := [], harness := (true, "4c2e2955a344c49b7c5330b61783e03873b5821aa29a849dc5a72daeb1dd2f0d"), looks := true }, kinds := [], alts := [], laidByText := true, laidKinds := [.data, .data, .data, .data, .sentinel, .sentinel, .pinned], laidTests := true, laidLooks := .later }
def CodeTextsCardSaid : Prop := Claim7.holds Tryd.pinned (.plain (OpenSpec.ofChange codeTextsSpec)) codeTextsCard

/-- THE TIED CARD OF 'rifflelaw03.CodeMay'. -/
def codeMayCard : Claim7 := { stood := { row := codeMayRow, standIns := [], harness := (true, "4c2e2955a344c49b7c5330b61783e03873b5821aa29a849dc5a72daeb1dd2f0d"), looks := true }, kinds := [], alts := [], laidByText := true, laidKinds := [.data, .data, .data, .data, .sentinel, .sentinel, .pinned], laidTests := true, laidLooks := .later }
def CodeMayCardSaid : Prop := Claim7.holds Tryd.pinned (.plain (OpenSpec.ofChange codeMaySpec)) codeMayCard

/-- THE SECOND FORM's CARD OF 'rifflelaw03.CodeWords'. -/
def codeWordsUptoCard : Claim7 := { stood := { row := codeWordsUptoRow, standIns := [], harness := (true, "4c2e2955a344c49b7c5330b61783e03873b5821aa29a849dc5a72daeb1dd2f0d"), looks := true }, kinds := [], alts := [], laidByText := true, laidKinds := [.data, .data, .data], laidTests := true, laidLooks := .later }
def CodeWordsUptoCardSaid : Prop := Claim7.holds Tryd.pinned (.plain (OpenSpec.upto codeWordsSpec)) codeWordsUptoCard

/-- THE SECOND FORM's CARD OF 'rifflelaw03.CodeBounds'. -/
def codeBoundsUptoCard : Claim7 := { stood := { row := codeBoundsUptoRow, standIns := [], harness := (true, "4c2e2955a344c49b7c5330b61783e03873b5821aa29a849dc5a72daeb1dd2f0d"), looks := true }, kinds := [], alts := [], laidByText := true, laidKinds := [.data, .data, .data], laidTests := true, laidLooks := .later }
def CodeBoundsUptoCardSaid : Prop := Claim7.holds Tryd.pinned (.plain (OpenSpec.upto codeBoundsSpec)) codeBoundsUptoCard

/-- THE SECOND FORM's CARD OF 'rifflelaw03.CodeBytes'. -/
def codeBytesUptoCard : Claim7 := { stood := { row := codeBytesUptoRow, standIns := [], harness := (true, "4c2e2955a344c49b7c5330b61783e03873b5821aa29a849dc5a72daeb1dd2f0d"), looks := true }, kinds := [], alts := [], laidByText := true, laidKinds := [.data, .data, .data], laidTests := true, laidLooks := .later }
def CodeBytesUptoCardSaid : Prop := Claim7.holds Tryd.pinned (.plain (OpenSpec.upto codeBytesSpec)) codeBytesUptoCard

/-- THE SECOND FORM's CARD OF 'rifflelaw03.CodeCopies'. -/
def codeCopiesUptoCard : Claim7 := { stood := { row := codeCopiesUptoRow, standIns := [], harness := (true, "4c2e2955a344c49b7c5330b61783e03873b5821aa29a849dc5a72daeb1dd2f0d"), looks := true }, kinds := [], alts := [], laidByText := true, laidKinds := [.data, .data, .data], laidTests := true, laidLooks := .later }
def CodeCopiesUptoCardSaid : Prop := Claim7.holds Tryd.pinned (.plain (OpenSpec.upto codeCopiesSpec)) codeCopiesUptoCard

/-- THE SECOND FORM's CARD OF 'rifflelaw03.CodeTexts'. -/
def codeTextsUptoCard : Claim7 := { stood := { row := codeTextsUptoRow, standIns := [], harness := (true, "4c2e2955a344c49b7c5330b61783e03873b5821aa29a849dc5a72daeb1dd2f0d"), looks := true }, kinds := [], alts := [], laidByText := true, laidKinds := [.data, .data, .data, .data, .sentinel, .sentinel, .pinned], laidTests := true, laidLooks := .later }
def CodeTextsUptoCardSaid : Prop := Claim7.holds Tryd.pinned (.plain (OpenSpec.upto codeTextsSpec)) codeTextsUptoCard

/-- THE SECOND FORM's CARD OF 'rifflelaw03.CodeMay'. -/
def codeMayUptoCard : Claim7 := { stood := { row := codeMayUptoRow, standIns := [], harness := (true, "4c2e2955a344c49b7c5330b61783e03873b5821aa29a849dc5a72daeb1dd2f0d"), looks := true }, kinds := [], alts := [], laidByText := true, laidKinds := [.data, .data, .data, .data, .sentinel, .sentinel, .pinned], laidTests := true, laidLooks := .later }
def CodeMayUptoCardSaid : Prop := Claim7.holds Tryd.pinned (.plain (OpenSpec.upto codeMaySpec)) codeMayUptoCard
end Rows
end Go.Proofs.YtbeoanbhnlahpaaDoor
