/-
  Functions in the intermediate code; Lean writes them itself. No statement stands here.
-/
import Derived.Test.YtbcapobkbgckbaaGreatDoorLF
import Derived.Test.YtbcapobkbgckbaaGreatDoorBase
set_option linter.all false
namespace Go.Proofs.YtbcapobkbgckbaaGreatDoor
open Go Rf
set_option maxRecDepth 100000
set_option maxHeartbeats 400000
noncomputable def gf14 : {c : F // cF gt0 Tryz.prog (wfa 14) 14 = some c} := ⟨_, by conv => lhs; reduce; simp only [oi, ou, on1]⟩
noncomputable def f14 : F := gf14.1
theorem hF14 : cF gt0 Tryz.prog (wfa 14) 14 = some f14 := gf14.2
noncomputable def gf29 : {c : F // cF gt0 Tryz.prog (wfa 29) 29 = some c} := ⟨_, by conv => lhs; reduce; simp only [oi, ou, on1]⟩
noncomputable def f29 : F := gf29.1
theorem hF29 : cF gt0 Tryz.prog (wfa 29) 29 = some f29 := gf29.2
noncomputable def gf6 : {c : F // cF gt0 Tryz.prog (wfa 6) 6 = some c} := ⟨_, by conv => lhs; reduce; simp only [oi, ou, on1]⟩
noncomputable def f6 : F := gf6.1
theorem hF6 : cF gt0 Tryz.prog (wfa 6) 6 = some f6 := gf6.2
noncomputable def gf18 : {c : F // cF gt0 Tryz.prog (wfa 18) 18 = some c} := ⟨_, by conv => lhs; reduce; simp only [oi, ou, on1]⟩
noncomputable def f18 : F := gf18.1
noncomputable def gf8 : {c : F // cF gt0 Tryz.prog (wfa 8) 8 = some c} := ⟨_, by conv => lhs; reduce; simp only [oi, ou, on1]⟩
noncomputable def f8 : F := gf8.1
noncomputable def gf22 : {c : F // cF gt0 Tryz.prog (wfa 22) 22 = some c} := ⟨_, by conv => lhs; reduce; simp only [oi, ou, on1]⟩
noncomputable def f22 : F := gf22.1
noncomputable def gf10 : {c : F // cF gt0 Tryz.prog (wfa 10) 10 = some c} := ⟨_, by conv => lhs; reduce; simp only [oi, ou, on1]⟩
noncomputable def f10 : F := gf10.1
noncomputable def gf21 : {c : F // cF gt0 Tryz.prog (wfa 21) 21 = some c} := ⟨_, by conv => lhs; reduce; simp only [oi, ou, on1]⟩
noncomputable def f21 : F := gf21.1
noncomputable def gf48 : {c : F // cF gt0 Tryz.prog (wfa 48) 48 = some c} := ⟨_, by conv => lhs; reduce; simp only [oi, ou, on1]⟩
noncomputable def f48 : F := gf48.1
noncomputable def gf3 : {c : F // cF gt0 Tryz.prog (wfa 3) 3 = some c} := ⟨_, by conv => lhs; reduce; simp only [oi, ou, on1]⟩
noncomputable def f3 : F := gf3.1
noncomputable def gf4 : {c : F // cF gt0 Tryz.prog (wfa 4) 4 = some c} := ⟨_, by conv => lhs; reduce; simp only [oi, ou, on1]⟩
noncomputable def f4 : F := gf4.1
noncomputable def gf5 : {c : F // cF gt0 Tryz.prog (wfa 5) 5 = some c} := ⟨_, by conv => lhs; reduce; simp only [oi, ou, on1]⟩
noncomputable def f5 : F := gf5.1
noncomputable def gf7 : {c : F // cF gt0 Tryz.prog (wfa 7) 7 = some c} := ⟨_, by conv => lhs; reduce; simp only [oi, ou, on1]⟩
noncomputable def f7 : F := gf7.1
theorem hF7 : cF gt0 Tryz.prog (wfa 7) 7 = some f7 := gf7.2
noncomputable def gf9 : {c : F // cF gt0 Tryz.prog (wfa 9) 9 = some c} := ⟨_, by conv => lhs; reduce; simp only [oi, ou, on1]⟩
noncomputable def f9 : F := gf9.1
theorem hF9 : cF gt0 Tryz.prog (wfa 9) 9 = some f9 := gf9.2
noncomputable def gf11 : {c : F // cF gt0 Tryz.prog (wfa 11) 11 = some c} := ⟨_, by conv => lhs; reduce; simp only [oi, ou, on1]⟩
noncomputable def f11 : F := gf11.1
theorem hF11 : cF gt0 Tryz.prog (wfa 11) 11 = some f11 := gf11.2
noncomputable def gf12 : {c : F // cF gt0 Tryz.prog (wfa 12) 12 = some c} := ⟨_, by conv => lhs; reduce; simp only [oi, ou, on1]⟩
noncomputable def f12 : F := gf12.1
theorem hF12 : cF gt0 Tryz.prog (wfa 12) 12 = some f12 := gf12.2
noncomputable def gf13 : {c : F // cF gt0 Tryz.prog (wfa 13) 13 = some c} := ⟨_, by conv => lhs; reduce; simp only [oi, ou, on1]⟩
noncomputable def f13 : F := gf13.1
theorem hF13 : cF gt0 Tryz.prog (wfa 13) 13 = some f13 := gf13.2
noncomputable def gf15 : {c : F // cF gt0 Tryz.prog (wfa 15) 15 = some c} := ⟨_, by conv => lhs; reduce; simp only [oi, ou, on1]⟩
noncomputable def f15 : F := gf15.1
theorem hF15 : cF gt0 Tryz.prog (wfa 15) 15 = some f15 := gf15.2
end Go.Proofs.YtbcapobkbgckbaaGreatDoor
