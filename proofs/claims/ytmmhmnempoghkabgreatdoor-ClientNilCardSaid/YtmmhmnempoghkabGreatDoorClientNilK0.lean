/-
  A part of the run of a closed function of ClientNil's package. No statement stands here.
-/
import Derived.Test.YtmmhmnempoghkabGreatDoorClientNilKC
set_option linter.all false
namespace Go.Proofs.YtmmhmnempoghkabGreatDoor
open Go Rf
set_option maxRecDepth 100000

theorem kp0 : startA gt0 Tryz.prog wfz kb call0 8006 23 [] s0 = some kc1 := by kernel_rfl
end Go.Proofs.YtmmhmnempoghkabGreatDoor
