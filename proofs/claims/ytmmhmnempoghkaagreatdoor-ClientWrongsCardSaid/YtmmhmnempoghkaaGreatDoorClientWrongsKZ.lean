/-
  A part of the run of a closed function of ClientWrongs's package. No statement stands here.
-/
import Derived.Test.YtmmhmnempoghkaaGreatDoorClientWrongsKT
import Derived.Test.YtmmhmnempoghkaaGreatDoorClientWrongsK0
set_option linter.all false
namespace Go.Proofs.YtmmhmnempoghkaaGreatDoor
open Go Rf
set_option maxRecDepth 100000

theorem known_pden : PDen gt0 Tryz.prog 7 [] (.b true) := by
  obtain ⟨s', h⟩ := Ends.den mixed kb_ok call0_ok kp0 (Ends.last kl)
  exact Den.pure gnm0 (fun x hx => by simp at hx) (.b _) h
end Go.Proofs.YtmmhmnempoghkaaGreatDoor
