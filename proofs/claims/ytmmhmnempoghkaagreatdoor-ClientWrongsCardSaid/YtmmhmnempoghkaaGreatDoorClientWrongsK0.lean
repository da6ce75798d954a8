/-
  A part of the run of a closed function of ClientWrongs's package. No statement stands here.
-/
import Derived.Test.YtmmhmnempoghkaaGreatDoorClientWrongsKC
set_option linter.all false
namespace Go.Proofs.YtmmhmnempoghkaaGreatDoor
open Go Rf
set_option maxRecDepth 100000

theorem kp0 : startA gt0 Tryz.prog wfz kb call0 8006 7 [] s0 = some kc1 := by kernel_rfl
theorem kl : lastRun gt0 Tryz.prog wfz kb call0 7 1000000 kc1 = some (.b true) := by kernel_rfl
end Go.Proofs.YtmmhmnempoghkaaGreatDoor
