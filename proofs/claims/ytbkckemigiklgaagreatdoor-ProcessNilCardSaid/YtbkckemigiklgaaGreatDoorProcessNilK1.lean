/-
  A part of the run of the closed function 'known' of ProcessNil's package. No statement stands here.
-/
import Derived.Test.YtbkckemigiklgaaGreatDoorProcessNilK0
import Derived.Test.YtbkckemigiklgaaGreatDoorRfRa
import Derived.Test.YtbkckemigiklgaaGreatDoorRfU
import Derived.Test.YtbkckemigiklgaaGreatDoorRows
import Derived.KernelRfl
set_option linter.all false
namespace Go.Proofs.YtbkckemigiklgaaGreatDoor
open Go Rf
set_option maxRecDepth 100000

theorem kl : lastRun gt0 Tryz.prog wfz kn0 call0 21 100000 c1 = some (.b true) := by kernel_rfl
theorem known_pden : PDen gt0 Tryz.prog 21 [] (.b true) := by
  obtain ⟨s', h⟩ := Ends.den mixed kn0_ok call0_ok kp0 (Ends.last kl)
  exact Den.pure (fun g v h => by cases h) (fun x hx => by simp at hx) (.b _) h
end Go.Proofs.YtbkckemigiklgaaGreatDoor
