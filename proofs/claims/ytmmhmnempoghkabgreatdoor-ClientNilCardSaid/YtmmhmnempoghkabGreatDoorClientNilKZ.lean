/-
  A part of the run of a closed function of ClientNil's package. No statement stands here.
-/
import Derived.Test.YtmmhmnempoghkabGreatDoorClientNilKT
import Derived.Test.YtmmhmnempoghkabGreatDoorClientNilK0
import Derived.Test.YtmmhmnempoghkabGreatDoorClientNilK1
set_option linter.all false
namespace Go.Proofs.YtmmhmnempoghkabGreatDoor
open Go Rf
set_option maxRecDepth 100000

theorem known_pden : PDen gt0 Tryz.prog 23 [] (.b true) := by
  obtain ⟨s', h⟩ := Ends.den mixed kb_ok call0_ok kp0 (Ends.last kl)
  exact Den.pure gnm0 (fun x hx => by simp at hx) (.b _) h
end Go.Proofs.YtmmhmnempoghkabGreatDoor
