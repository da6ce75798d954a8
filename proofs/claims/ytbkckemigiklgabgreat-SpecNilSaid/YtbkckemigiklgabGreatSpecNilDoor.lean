/-
  SpecNil holds: the closed sentence is run, step by step, by the abstract machine in the kernel. No condition beyond the given statement.
-/
import Derived.Test.YtbkckemigiklgabGreatSpecNilRun
import Derived.Test.YtbkckemigiklgabGreatRfRa
import Derived.Test.YtbkckemigiklgabGreatRows
import Derived.WalkKit
import Derived.ProofKit
import Derived.OpenShut
import Derived.LaidMore
import Derived.Stop.Joined
import Derived.SevenTiedAt
import Derived.KernelRfl
set_option linter.all false
namespace Go.Proofs.YtbkckemigiklgabGreat
open Go Rf Go.ChangeShapes Go.WideShapes Go.ChangeAt Go.RowKit
set_option maxRecDepth 100000

theorem own : ownKnob Tryz.prog.godebug = none := by kernel_rfl
theorem specNil_noInit : Tryz.prog.inits.idxOf? 3 = none := by kernel_rfl
theorem specNil_lo : laidOutB Tryz.prog = true := by kernel_rfl

end Go.Proofs.YtbkckemigiklgabGreat
