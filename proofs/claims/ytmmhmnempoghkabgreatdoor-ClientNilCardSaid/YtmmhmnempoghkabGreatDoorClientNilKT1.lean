/-
  A part of the run of a closed function of ClientNil's package. No statement stands here.
-/
import Derived.Test.YtmmhmnempoghkabGreatDoorClientNilKC
set_option linter.all false
namespace Go.Proofs.YtmmhmnempoghkabGreatDoor
open Go Rf
set_option maxRecDepth 100000

theorem tp1 : thenA gt0 Tryz.prog wfz kn0 callT 21998 tc1 = some tc2 := by kernel_rfl
end Go.Proofs.YtmmhmnempoghkabGreatDoor
