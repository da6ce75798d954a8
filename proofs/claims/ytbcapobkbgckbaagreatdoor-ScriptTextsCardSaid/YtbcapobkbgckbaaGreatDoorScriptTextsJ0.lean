/-
  ScriptTexts: closed facts of the row.
-/
import Derived.Test.YtbcapobkbgckbaaGreatDoorRows
import Derived.Stop.Joined
import Derived.KernelRfl
import Derived.ProofKit
import Derived.Carry
set_option linter.all false
namespace Go.Proofs.YtbcapobkbgckbaaGreatDoor
open Go Go.ChangeShapes Go.WideShapes Go.ChangeAt Go.RowKit
set_option maxRecDepth 100000
set_option maxHeartbeats 4000000

theorem scriptTexts_j9 : (Rows.scriptTextsRow.inPlace == Tryz.checked.prog.inPlace 3) = true := by kernel_rfl

end Go.Proofs.YtbcapobkbgckbaaGreatDoor
