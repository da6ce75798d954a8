/-
  Functions in the intermediate code; Lean writes them itself. No statement stands here.
-/
import Derived.Test.YtbcapobkbgckbaaGreatDoorLF
import Derived.Test.YtbcapobkbgckbaaGreatDoorBase
set_option linter.all false
namespace Go.Proofs.YtbcapobkbgckbaaGreatDoor
open Go Rf
set_option maxRecDepth 100000
set_option maxHeartbeats 400000
noncomputable def gf20 : {c : F // cF gt0 Tryz.prog (wfa 20) 20 = some c} := ⟨_, by conv => lhs; reduce; simp only [oi, ou, on1]⟩
noncomputable def f20 : F := gf20.1
theorem hF20 : cF gt0 Tryz.prog (wfa 20) 20 = some f20 := gf20.2
noncomputable def gf24 : {c : F // cF gt0 Tryz.prog (wfa 24) 24 = some c} := ⟨_, by conv => lhs; reduce; simp only [oi, ou, on1]⟩
noncomputable def f24 : F := gf24.1
theorem hF24 : cF gt0 Tryz.prog (wfa 24) 24 = some f24 := gf24.2
noncomputable def gf25 : {c : F // cF gt0 Tryz.prog (wfa 25) 25 = some c} := ⟨_, by conv => lhs; reduce; simp only [oi, ou, on1]⟩
noncomputable def f25 : F := gf25.1
theorem hF25 : cF gt0 Tryz.prog (wfa 25) 25 = some f25 := gf25.2
noncomputable def gf26 : {c : F // cF gt0 Tryz.prog (wfa 26) 26 = some c} := ⟨_, by conv => lhs; reduce; simp only [oi, ou, on1]⟩
noncomputable def f26 : F := gf26.1
theorem hF26 : cF gt0 Tryz.prog (wfa 26) 26 = some f26 := gf26.2
noncomputable def gf27 : {c : F // cF gt0 Tryz.prog (wfa 27) 27 = some c} := ⟨_, by conv => lhs; reduce; simp only [oi, ou, on1]⟩
noncomputable def f27 : F := gf27.1
theorem hF27 : cF gt0 Tryz.prog (wfa 27) 27 = some f27 := gf27.2
noncomputable def gf28 : {c : F // cF gt0 Tryz.prog (wfa 28) 28 = some c} := ⟨_, by conv => lhs; reduce; simp only [oi, ou, on1]⟩
noncomputable def f28 : F := gf28.1
theorem hF28 : cF gt0 Tryz.prog (wfa 28) 28 = some f28 := gf28.2
noncomputable def gf52 : {c : F // cF gt0 Tryz.prog (wfa 52) 52 = some c} := ⟨_, by conv => lhs; reduce; simp only [oi, ou, on1]⟩
noncomputable def f52 : F := gf52.1
noncomputable def gf79 : {c : F // cF gt0 Tryz.prog (wfa 79) 79 = some c} := ⟨_, by conv => lhs; reduce; simp only [oi, ou, on1]⟩
noncomputable def f79 : F := gf79.1
theorem hF79 : cF gt0 Tryz.prog (wfa 79) 79 = some f79 := gf79.2
noncomputable def gf115 : {c : F // cF gt0 Tryz.prog (wfa 115) 115 = some c} := ⟨_, by conv => lhs; reduce; simp only [oi, ou, on1]⟩
noncomputable def f115 : F := gf115.1
theorem hF115 : cF gt0 Tryz.prog (wfa 115) 115 = some f115 := gf115.2
noncomputable def gf55 : {c : F // cF gt0 Tryz.prog (wfa 55) 55 = some c} := ⟨_, by conv => lhs; reduce; simp only [oi, ou, on1]⟩
noncomputable def f55 : F := gf55.1
theorem hF55 : cF gt0 Tryz.prog (wfa 55) 55 = some f55 := gf55.2
noncomputable def gf56 : {c : F // cF gt0 Tryz.prog (wfa 56) 56 = some c} := ⟨_, by conv => lhs; reduce; simp only [oi, ou, on1]⟩
noncomputable def f56 : F := gf56.1
theorem hF56 : cF gt0 Tryz.prog (wfa 56) 56 = some f56 := gf56.2
noncomputable def gf57 : {c : F // cF gt0 Tryz.prog (wfa 57) 57 = some c} := ⟨_, by conv => lhs; reduce; simp only [oi, ou, on1]⟩
noncomputable def f57 : F := gf57.1
theorem hF57 : cF gt0 Tryz.prog (wfa 57) 57 = some f57 := gf57.2
noncomputable def gf49 : {c : F // cF gt0 Tryz.prog (wfa 49) 49 = some c} := ⟨_, by conv => lhs; reduce; simp only [oi, ou, on1]⟩
noncomputable def f49 : F := gf49.1
noncomputable def gf47 : {c : F // cF gt0 Tryz.prog (wfa 47) 47 = some c} := ⟨_, by conv => lhs; reduce; simp only [oi, ou, on1]⟩
noncomputable def f47 : F := gf47.1
theorem hF47 : cF gt0 Tryz.prog (wfa 47) 47 = some f47 := gf47.2
noncomputable def gf17 : {c : F // cF gt0 Tryz.prog (wfa 17) 17 = some c} := ⟨_, by conv => lhs; reduce; simp only [oi, ou, on1]⟩
noncomputable def f17 : F := gf17.1
theorem hF17 : cF gt0 Tryz.prog (wfa 17) 17 = some f17 := gf17.2
noncomputable def gf19 : {c : F // cF gt0 Tryz.prog (wfa 19) 19 = some c} := ⟨_, by conv => lhs; reduce; simp only [oi, ou, on1]⟩
noncomputable def f19 : F := gf19.1
theorem hF19 : cF gt0 Tryz.prog (wfa 19) 19 = some f19 := gf19.2
noncomputable def gf44 : {c : F // cF gt0 Tryz.prog (wfa 44) 44 = some c} := ⟨_, by conv => lhs; reduce; simp only [oi, ou, on1]⟩
noncomputable def f44 : F := gf44.1
theorem hF44 : cF gt0 Tryz.prog (wfa 44) 44 = some f44 := gf44.2
end Go.Proofs.YtbcapobkbgckbaaGreatDoor
