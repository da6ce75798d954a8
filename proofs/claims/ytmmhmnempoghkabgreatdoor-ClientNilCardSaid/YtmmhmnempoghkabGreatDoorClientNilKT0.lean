/-
  A part of the run of a closed function of ClientNil's package. No statement stands here.
-/
import Derived.Test.YtmmhmnempoghkabGreatDoorClientNilKC
set_option linter.all false
namespace Go.Proofs.YtmmhmnempoghkabGreatDoor
open Go Rf
set_option maxRecDepth 100000

theorem tp0 : startA gt0 Tryz.prog wfz kn0 callT 22006 173 [] s0 = some tc1 := by kernel_rfl
end Go.Proofs.YtmmhmnempoghkabGreatDoor
