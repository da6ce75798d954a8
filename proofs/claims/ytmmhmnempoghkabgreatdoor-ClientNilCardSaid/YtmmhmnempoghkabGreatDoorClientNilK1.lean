/-
  A part of the run of a closed function of ClientNil's package. No statement stands here.
-/
import Derived.Test.YtmmhmnempoghkabGreatDoorClientNilKC
set_option linter.all false
namespace Go.Proofs.YtmmhmnempoghkabGreatDoor
open Go Rf
set_option maxRecDepth 100000

theorem kl : lastRun gt0 Tryz.prog wfz kb call0 23 1000000 kc1 = some (.b true) := by kernel_rfl
end Go.Proofs.YtmmhmnempoghkabGreatDoor
