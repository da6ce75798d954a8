/-
  SpecNil holds: the closed sentence is run, step by step, by the abstract machine in the kernel. No condition beyond the given statement.
-/
import Derived.Test.YtbkckemigiklgabGreatSpecNilLift
import Derived.Test.YtbkckemigiklgabGreatRfRa
import Derived.Test.YtbkckemigiklgabGreatRows
import Derived.WalkKit
import Derived.ProofKit
import Derived.OpenShut
import Derived.LaidMore
import Derived.Stop.Joined
import Derived.SevenTiedAt
import Derived.KernelRfl
set_option linter.all false
namespace Go.Proofs.YtbkckemigiklgabGreat
open Go Rf Go.ChangeShapes Go.WideShapes Go.ChangeAt Go.RowKit
set_option maxRecDepth 100000

theorem band {a b : Bool} (ha : a = true) (hb : b = true) : (a && b) = true := by rw [ha, hb]; rfl
set_option maxHeartbeats 20000000 in
theorem specNil_closed : joinedFacts Tryz.checked.prog 3 Tryz.f3 Rows.specNilSpec Rows.specNilRow = true := by
  unfold joinedFacts
  repeat' (with_reducible refine band ?_ ?_)
  all_goals (as_aux_lemma => kernel_rfl)
theorem specNil_named : Tryz.checked.prog.funcNamed Rows.specNilRow.func = some 3 := by kernel_rfl

theorem specNil_holds : Rows.SpecNilSaid :=
  OpenClaim.holds_of_wide 3 Tryz.f3 rfl rfl rfl rfl rfl rfl rfl ⟨rfl, rfl, rfl, rfl, rfl⟩ rfl rfl rfl rfl rfl specNil_named Tryz.func3 specNil_closed
    (of_decide_eq_true (by as_aux_lemma => kernel_rfl)) (by unfold Func.isWrapper; first | (rw [if_pos (by decide +kernel)]; kernel_rfl) | (rw [if_neg (by decide +kernel)]; exact ⟨rfl, rfl⟩))
    (fun os started H enc _ => specNil_lifted os started H enc)

#print axioms specNil_holds
end Go.Proofs.YtbkckemigiklgabGreat
