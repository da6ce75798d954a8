/-
  DERIVED. GIVEN WITH THE SEED: THE CARDS: each row of YtklgkdehnaecnaaDoorRows.lean that lists a variable, with what it lists TIED to the program's text (the seventh form; the later family's looks); each row that meets fmt, with fmt's text TOLD by the authors' own Lean function (tested against real Go, not proved from fmt's source: count such statements apart). THE CARD IS WHAT COUNTS. Prove the row's statement (the work); the ties are given (YtklgkdehnaecnaaDoorTie.lean); close each card by the builder's one call (the guide's Derived/Test/ToyasCard.lean, 'card_holds'). Laid BY PROGRAM, IN A SANDBOX (cutbox-door.mjs). By AI agents, Wed Nov 11 2026. No macro, syntax, notation, axiom, sorry.
-/
import Derived.Test.YtklgkdehnaecnaaDoorRows
import GoSem.ClaimSeven
namespace Go.Proofs.YtklgkdehnaecnaaDoor
namespace Rows

/-- THE TIED CARD OF 'rifflelaw09.ModelCopies'. -/
def modelCopiesCard : Claim7 := { stood := { row := modelCopiesRow, standIns := [], harness := (true, "4e6564df65b62b4aff7d90d35aab9e72248300e6ae85534ff7500ddc29165cfb"), looks := true }, kinds := [], alts := [], laidByText := true, laidKinds := [.data, .data, .data], laidTests := true, laidLooks := .later }
def ModelCopiesCardSaid : Prop := Claim7.holds Tryd.pinned (.plain (OpenSpec.ofChange modelCopiesSpec)) modelCopiesCard

/-- THE TIED CARD OF 'rifflelaw09.ModelBytes'. -/
def modelBytesCard : Claim7 := { stood := { row := modelBytesRow, standIns := [], harness := (true, "4e6564df65b62b4aff7d90d35aab9e72248300e6ae85534ff7500ddc29165cfb"), looks := true }, kinds := [], alts := [], laidByText := true, laidKinds := [.data, .data, .data], laidTests := true, laidLooks := .later }
def ModelBytesCardSaid : Prop := Claim7.holds Tryd.pinned (.plain (OpenSpec.ofChange modelBytesSpec)) modelBytesCard

/-- THE TIED CARD OF 'rifflelaw09.ModelTexts'. -/
def modelTextsCard : Claim7 := { stood := { row := modelTextsRow, standIns := [], harness := (true, "4e6564df65b62b4aff7d90d35aab9e72248300e6ae85534ff7500ddc29165cfb"), looks := true }, kinds := [], alts := [], laidByText := true, laidKinds := [.data, .data, .data, .data, .sentinel, .sentinel, .pinned], laidTests := true, laidLooks := .later }
def ModelTextsCardSaid : Prop := Claim7.holds Tryd.pinned (.plain (OpenSpec.ofChange modelTextsSpec)) modelTextsCard

/-- THE SECOND FORM's CARD OF 'rifflelaw09.ModelCopies'. -/
def modelCopiesUptoCard : Claim7 := { stood := { row := modelCopiesUptoRow, standIns := [], harness := (true, "4e6564df65b62b4aff7d90d35aab9e72248300e6ae85534ff7500ddc29165cfb"), looks := true }, kinds := [], alts := [], laidByText := true, laidKinds := [.data, .data, .data], laidTests := true, laidLooks := .later }
def ModelCopiesUptoCardSaid : Prop := Claim7.holds Tryd.pinned (.plain (OpenSpec.upto modelCopiesSpec)) modelCopiesUptoCard

/-- THE SECOND FORM's CARD OF 'rifflelaw09.ModelBytes'. -/
def modelBytesUptoCard : Claim7 := { stood := { row := modelBytesUptoRow, standIns := [], harness := (true, "4e6564df65b62b4aff7d90d35aab9e72248300e6ae85534ff7500ddc29165cfb"), looks := true }, kinds := [], alts := [], laidByText := true, laidKinds := [.data, .data, .data], laidTests := true, laidLooks := .later }
def ModelBytesUptoCardSaid : Prop := Claim7.holds Tryd.pinned (.plain (OpenSpec.upto modelBytesSpec)) modelBytesUptoCard

/-- THE SECOND FORM's CARD OF 'rifflelaw09.ModelTexts'. -/
def modelTextsUptoCard : Claim7 := { stood := { row := modelTextsUptoRow, standIns := [], harness := (true, "4e6564df65b62b4aff7d90d35aab9e72248300e6ae85534ff7500ddc29165cfb"), looks := true }, kinds := [], alts := [], laidByText := true, laidKinds := [.data, .data, .data, .data, .sentinel, .sentinel, .pinned], laidTests := true, laidLooks := .later }
def ModelTextsUptoCardSaid : Prop := Claim7.holds Tryd.pinned (.plain (OpenSpec.upto modelTextsSpec)) modelTextsUptoCard
end Rows
end Go.Proofs.YtklgkdehnaecnaaDoor
