/-
  A part of the run of a closed function of ClientNil's package. No statement stands here.
-/
import Derived.Test.YtmmhmnempoghkabGreatDoorClientNilKC
set_option linter.all false
namespace Go.Proofs.YtmmhmnempoghkabGreatDoor
open Go Rf
set_option maxRecDepth 100000

theorem tl : lastRun gt0 Tryz.prog wfz kn0 callT 173 1000000 tc2 = some kv173 := by kernel_rfl
end Go.Proofs.YtmmhmnempoghkabGreatDoor
