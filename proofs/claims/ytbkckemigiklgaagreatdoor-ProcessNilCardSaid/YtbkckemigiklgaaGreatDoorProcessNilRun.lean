/-
  ProcessNil holds: the closed sentence is run, step by step, by the abstract machine in the kernel. No condition beyond the given statement.
-/
import Derived.Test.YtbkckemigiklgaaGreatDoorProcessNilK1
import Derived.Test.YtbkckemigiklgaaGreatDoorRfRa
import Derived.Test.YtbkckemigiklgaaGreatDoorRows
import Derived.Test.YtbkckemigiklgaaGreatDoorCards
import Derived.Test.YtbkckemigiklgaaGreatDoorTie
import Derived.WalkKit
import Derived.ProofKit
import Derived.OpenShut
import Derived.LaidMore
import Derived.Stop.Joined
import Derived.SevenTiedAt
import Derived.KernelRfl
set_option linter.all false
namespace Go.Proofs.YtbkckemigiklgaaGreatDoor
open Go Rf Go.ChangeShapes Go.WideShapes Go.ChangeAt Go.RowKit
set_option maxRecDepth 100000


def kn : Cl := knL [(21, .b true)]
theorem kn_ok : ClOk gt0 Tryz.prog kn := fun f args s v s' h => by
  unfold kn knL at h
  split at h
  · simp only [knL.gtL'] at h
    split at h
    · rename_i u hu
      split at hu
      · rename_i hb
        have := Nat.eq_of_beq_eq_true hb
        subst this
        cases hu; cases h
        exact ⟨by kernel_rfl, known_pden _⟩
      · cases hu
    · cases h
  · cases h

theorem den_of {f : Nat} {args : List V} {s : St} {v : V} {n d : Nat} (h : (callA gt0 Tryz.prog wfz kn n d f args s).map (·.1) = some v) : ∃ s', Den gt0 Tryz.prog f args s v s' := by
  simp only [Option.map_eq_some_iff] at h
  obtain ⟨⟨v', s'⟩, h1, h2⟩ := h
  simp only at h2
  subst h2
  exact ⟨s', (callA_ok mixed kn_ok n d _ _ _ _ _ h1).2⟩

/-! ### the run -/
theorem processNil_run : (callA gt0 Tryz.prog wfz kn 200000 12 3 [] s0).map (·.1) = some (.b true) := by kernel_rfl
theorem processNil_den : ∃ s', Den gt0 Tryz.prog 3 [] s0 (.b true) s' := den_of processNil_run

end Go.Proofs.YtbkckemigiklgaaGreatDoor
