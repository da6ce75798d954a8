import Derived.Test.YtlhopiehnaabgaaGreatDoorLC
import Derived.Test.YtlhopiehnaabgaaGreatDoorLE
import Derived.Test.YtlhopiehnaabgaaGreatDoorRows
import Derived.KernelRfl
set_option linter.all false
namespace Go.Proofs.YtlhopiehnaabgaaGreatDoor
open Go Rf
set_option maxRecDepth 100000
def gt0:Nat→Option V:=fun _=>none
theorem gnm0:GNm gt0:=fun g v h=>by cases h
def wfa (f:Nat):Nat→Nat→Bool:=fun _ _=> !(f==42)
def wfz (f id _:Nat):Bool:=false
def wfB (f:Nat):Nat→Nat→Bool:=fun _ _=> !(f==35||f==38||f==60)
noncomputable def tbB:Nat→Option F:=fun f=>if callOk Tryz.prog f then cF gt0 Tryz.prog (wfB f) f else none
theorem tbB_ok:TbOk gt0 Tryz.prog wfB tbB:=by
 refine ⟨fun f F h=> ?_,fun f F h=> ?_⟩
 ·unfold tbB at h;split at h
  ·exact h
  ·cases h
 ·unfold tbB at h;split at h
  ·assumption
  ·cases h
theorem mixed:Tryz.prog.follows .mixedOrders=true:=by kernel_rfl
theorem den_of {f:Nat}{args:List V}{s:St}{v:V}{n d:Nat}(h:(evFT tbB n d f args s).map (·.1)=some v):∃s',Den gt0 Tryz.prog f args s v s':=by
 simp only[Option.map_eq_some_iff] at h
 obtain ⟨⟨v',s'⟩,h1,h2⟩:=h
 simp only at h2
 subst h2
 exact ⟨s',(evFT_ok mixed tbB_ok n d _ _ _ _ _ h1).2⟩
theorem own:ownKnob Tryz.prog.godebug=none:=by kernel_rfl
theorem mknown_pden:PDen gt0 Tryz.prog 7 [] (.b true):=PDen.run (wf:=wfz) (kn:=kn0) (n:=200000) (d:=9) mixed kn0_ok gnm0 (by kernel_rfl) (by kernel_rfl) (by kernel_rfl)
end Go.Proofs.YtlhopiehnaabgaaGreatDoor
set_option linter.all false
namespace Go.Proofs.YtlhopiehnaabgaaGreatDoor
open Go Rf
set_option maxRecDepth 100000
set_option maxHeartbeats 400000
noncomputable def gf37:{c:F // cF gt0 Tryz.prog (wfa 37) 37=some c}:=⟨_,by conv=>lhs;reduce;simp only[oi,ou,on1]⟩
noncomputable def f37:F:=gf37.1
noncomputable def gf23:{c:F // cF gt0 Tryz.prog (wfa 23) 23=some c}:=⟨_,by conv=>lhs;reduce;simp only[oi,ou,on1]⟩
noncomputable def f23:F:=gf23.1
theorem hF23:cF gt0 Tryz.prog (wfa 23) 23=some f23:=gf23.2
noncomputable def gf58:{c:F // cF gt0 Tryz.prog (wfa 58) 58=some c}:=⟨_,by conv=>lhs;reduce;simp only[oi,ou,on1]⟩
noncomputable def f58:F:=gf58.1
noncomputable def gf35:{c:F // cF gt0 Tryz.prog (fun _ _=>false) 35=some c}:=⟨_,by conv=>lhs;reduce;simp only[oi,ou,on1]⟩
noncomputable def f35:F:=gf35.1
theorem hF35:cF gt0 Tryz.prog (fun _ _=>false) 35=some f35:=gf35.2
noncomputable def gf38:{c:F // cF gt0 Tryz.prog (fun _ _=>false) 38=some c}:=⟨_,by conv=>lhs;reduce;simp only[oi,ou,on1]⟩
noncomputable def f38:F:=gf38.1
theorem hF38:cF gt0 Tryz.prog (fun _ _=>false) 38=some f38:=gf38.2
noncomputable def gf22:{c:F // cF gt0 Tryz.prog (wfa 22) 22=some c}:=⟨_,by conv=>lhs;reduce;simp only[oi,ou,on1]⟩
noncomputable def f22:F:=gf22.1
theorem hF22:cF gt0 Tryz.prog (wfa 22) 22=some f22:=gf22.2
noncomputable def gf84:{c:F // cF gt0 Tryz.prog (wfa 84) 84=some c}:=⟨_,by conv=>lhs;reduce;simp only[oi,ou,on1]⟩
noncomputable def f84:F:=gf84.1
theorem hF84:cF gt0 Tryz.prog (wfa 84) 84=some f84:=gf84.2
noncomputable def gf60:{c:F // cF gt0 Tryz.prog (fun _ _=>false) 60=some c}:=⟨_,by conv=>lhs;reduce;simp only[oi,ou,on1]⟩
noncomputable def f60:F:=gf60.1
theorem hF60:cF gt0 Tryz.prog (fun _ _=>false) 60=some f60:=gf60.2
end Go.Proofs.YtlhopiehnaabgaaGreatDoor
