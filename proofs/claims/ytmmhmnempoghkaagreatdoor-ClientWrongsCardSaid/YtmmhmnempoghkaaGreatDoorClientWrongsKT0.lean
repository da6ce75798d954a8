/-
  A part of the run of a closed function of ClientWrongs's package. No statement stands here.
-/
import Derived.Test.YtmmhmnempoghkaaGreatDoorClientWrongsKC
set_option linter.all false
namespace Go.Proofs.YtmmhmnempoghkaaGreatDoor
open Go Rf
set_option maxRecDepth 100000

theorem tp0 : startA gt0 Tryz.prog wfz kn0 callT 22006 95 [] s0 = some tc1 := by kernel_rfl
theorem tp1 : thenA gt0 Tryz.prog wfz kn0 callT 21998 tc1 = some tc2 := by kernel_rfl
theorem tl : lastRun gt0 Tryz.prog wfz kn0 callT 95 1000000 tc2 = some kv95 := by kernel_rfl
end Go.Proofs.YtmmhmnempoghkaaGreatDoor
