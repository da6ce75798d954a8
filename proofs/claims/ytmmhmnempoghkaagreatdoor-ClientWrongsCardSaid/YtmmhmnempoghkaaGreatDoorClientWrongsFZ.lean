/-
  A part of the run of a closed function of ClientWrongs's package. No statement stands here.
-/
import Derived.Test.YtmmhmnempoghkaaGreatDoorClientWrongsKZ
import Derived.Test.YtmmhmnempoghkaaGreatDoorClientWrongsFS0
import Derived.Test.YtmmhmnempoghkaaGreatDoorClientWrongsFS1
import Derived.Test.YtmmhmnempoghkaaGreatDoorClientWrongsFS2
import Derived.Test.YtmmhmnempoghkaaGreatDoorClientWrongsFC10
import Derived.Test.YtmmhmnempoghkaaGreatDoorClientWrongsFC12
import Derived.Test.YtmmhmnempoghkaaGreatDoorClientWrongsFC13
import Derived.Test.YtmmhmnempoghkaaGreatDoorClientWrongsFC14
import Derived.Test.YtmmhmnempoghkaaGreatDoorClientWrongsFC19
set_option linter.all false
namespace Go.Proofs.YtmmhmnempoghkaaGreatDoor
open Go Rf
set_option maxRecDepth 100000

theorem fd0 : PDen gt0 Tryz.prog 5 a0 (.i .i64 (.ofNat 6)) := PDen.run mixed kb_ok gnm0 (by kernel_rfl) (by kernel_rfl) fr0
theorem fd1 : PDen gt0 Tryz.prog 5 a1 (.i .i64 (.ofNat 6)) := PDen.run mixed kb_ok gnm0 (by kernel_rfl) (by kernel_rfl) fr1
theorem fd2 : PDen gt0 Tryz.prog 5 a2 (.i .i64 (.ofNat 16)) := PDen.run mixed kb_ok gnm0 (by kernel_rfl) (by kernel_rfl) fr2
theorem fd3 : PDen gt0 Tryz.prog 5 a3 (.i .i64 (.ofNat 7)) := PDen.run mixed kb_ok gnm0 (by kernel_rfl) (by kernel_rfl) fr3
theorem fd4 : PDen gt0 Tryz.prog 5 a4 (.i .i64 (.ofNat 14)) := PDen.run mixed kb_ok gnm0 (by kernel_rfl) (by kernel_rfl) fr4
theorem fd5 : PDen gt0 Tryz.prog 5 a5 (.i .i64 (.ofNat 14)) := PDen.run mixed kb_ok gnm0 (by kernel_rfl) (by kernel_rfl) fr5
theorem fd6 : PDen gt0 Tryz.prog 5 a6 (.i .i64 (.ofNat 8)) := PDen.run mixed kb_ok gnm0 (by kernel_rfl) (by kernel_rfl) fr6
theorem fd7 : PDen gt0 Tryz.prog 5 a7 (.i .i64 (.ofNat 9)) := PDen.run mixed kb_ok gnm0 (by kernel_rfl) (by kernel_rfl) fr7
theorem fd8 : PDen gt0 Tryz.prog 5 a8 (.i .i64 (.ofNat 9)) := PDen.run mixed kb_ok gnm0 (by kernel_rfl) (by kernel_rfl) fr8
theorem fd9 : PDen gt0 Tryz.prog 5 a9 (.i .i64 (.ofNat 8)) := PDen.run mixed kb_ok gnm0 (by kernel_rfl) (by kernel_rfl) fr9
theorem fd10 : PDen gt0 Tryz.prog 5 a10 (.i .i64 (.ofNat 8)) := PDen.ends mixed kb_ok call0_ok gnm0 (by kernel_rfl) (by kernel_rfl) fp10i0 (Ends.last fl10)
theorem fd11 : PDen gt0 Tryz.prog 5 a11 (.i .i64 (.ofNat 16)) := PDen.run mixed kb_ok gnm0 (by kernel_rfl) (by kernel_rfl) fr11
theorem fd12 : PDen gt0 Tryz.prog 5 a12 (.i .i64 (.ofNat 16)) := PDen.ends mixed kb_ok call0_ok gnm0 (by kernel_rfl) (by kernel_rfl) fp12i0 (Ends.last fl12)
theorem fd13 : PDen gt0 Tryz.prog 5 a13 (.i .i64 (.ofNat 16)) := PDen.ends mixed kb_ok call0_ok gnm0 (by kernel_rfl) (by kernel_rfl) fp13i0 (Ends.last fl13)
theorem fd14 : PDen gt0 Tryz.prog 5 a14 (.i .i64 (.ofNat 8)) := PDen.ends mixed kb_ok call0_ok gnm0 (by kernel_rfl) (by kernel_rfl) fp14i0 (Ends.last fl14)
theorem fd15 : PDen gt0 Tryz.prog 5 a15 (.i .i64 (.ofNat 15)) := PDen.run mixed kb_ok gnm0 (by kernel_rfl) (by kernel_rfl) fr15
theorem fd16 : PDen gt0 Tryz.prog 5 a16 (.i .i64 (.ofNat 15)) := PDen.run mixed kb_ok gnm0 (by kernel_rfl) (by kernel_rfl) fr16
theorem fd17 : PDen gt0 Tryz.prog 5 a17 (.i .i64 (.ofNat 15)) := PDen.run mixed kb_ok gnm0 (by kernel_rfl) (by kernel_rfl) fr17
theorem fd18 : PDen gt0 Tryz.prog 5 a18 (.i .i64 (.ofNat 9)) := PDen.run mixed kb_ok gnm0 (by kernel_rfl) (by kernel_rfl) fr18
theorem fd19 : PDen gt0 Tryz.prog 5 a19 (.i .i64 (.ofNat 0)) := PDen.ends mixed kb_ok call0_ok gnm0 (by kernel_rfl) (by kernel_rfl) fp19i0 (Ends.thenA fp19i1 (Ends.last fl19))
def callsL : List (List V × V) := [(a0, (.i .i64 (.ofNat 6))), (a1, (.i .i64 (.ofNat 6))), (a2, (.i .i64 (.ofNat 16))), (a3, (.i .i64 (.ofNat 7))), (a4, (.i .i64 (.ofNat 14))), (a5, (.i .i64 (.ofNat 14))), (a6, (.i .i64 (.ofNat 8))), (a7, (.i .i64 (.ofNat 9))), (a8, (.i .i64 (.ofNat 9))), (a9, (.i .i64 (.ofNat 8))), (a10, (.i .i64 (.ofNat 8))), (a11, (.i .i64 (.ofNat 16))), (a12, (.i .i64 (.ofNat 16))), (a13, (.i .i64 (.ofNat 16))), (a14, (.i .i64 (.ofNat 8))), (a15, (.i .i64 (.ofNat 15))), (a16, (.i .i64 (.ofNat 15))), (a17, (.i .i64 (.ofNat 15))), (a18, (.i .i64 (.ofNat 9))), (a19, (.i .i64 (.ofNat 0)))]
theorem callsL_ok : ∀ x ∈ callsL, PDen gt0 Tryz.prog 5 x.1 x.2 := fun x hx => by
  rcases List.mem_cons.1 hx with rfl | hx
  · exact fd0
  rcases List.mem_cons.1 hx with rfl | hx
  · exact fd1
  rcases List.mem_cons.1 hx with rfl | hx
  · exact fd2
  rcases List.mem_cons.1 hx with rfl | hx
  · exact fd3
  rcases List.mem_cons.1 hx with rfl | hx
  · exact fd4
  rcases List.mem_cons.1 hx with rfl | hx
  · exact fd5
  rcases List.mem_cons.1 hx with rfl | hx
  · exact fd6
  rcases List.mem_cons.1 hx with rfl | hx
  · exact fd7
  rcases List.mem_cons.1 hx with rfl | hx
  · exact fd8
  rcases List.mem_cons.1 hx with rfl | hx
  · exact fd9
  rcases List.mem_cons.1 hx with rfl | hx
  · exact fd10
  rcases List.mem_cons.1 hx with rfl | hx
  · exact fd11
  rcases List.mem_cons.1 hx with rfl | hx
  · exact fd12
  rcases List.mem_cons.1 hx with rfl | hx
  · exact fd13
  rcases List.mem_cons.1 hx with rfl | hx
  · exact fd14
  rcases List.mem_cons.1 hx with rfl | hx
  · exact fd15
  rcases List.mem_cons.1 hx with rfl | hx
  · exact fd16
  rcases List.mem_cons.1 hx with rfl | hx
  · exact fd17
  rcases List.mem_cons.1 hx with rfl | hx
  · exact fd18
  rcases List.mem_cons.1 hx with rfl | hx
  · exact fd19
  cases hx
end Go.Proofs.YtmmhmnempoghkaaGreatDoor
