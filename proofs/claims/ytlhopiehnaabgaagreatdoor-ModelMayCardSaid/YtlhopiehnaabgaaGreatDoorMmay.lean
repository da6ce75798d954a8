import Derived.Test.YtlhopiehnaabgaaGreatDoorOrd
import Derived.Test.YtlhopiehnaabgaaGreatDoorLE
set_option linter.all false
namespace Go.Proofs.YtlhopiehnaabgaaGreatDoor
open Go Rf
set_option maxRecDepth 100000
set_option maxHeartbeats 4000000
def prOk (p:Pr):Bool:=mayP p.1.1 p.1.2&&eqZ (p.2.1.length:Nat) p.1.1
def evOk (n q:Nat)(e:Ev):Bool:=mayE e n&&(eqZ e.2.1 0&&eqZ e.2.2.1 (q:Nat))
structure MayM (ps:List Pr) (fs:List Ev):Prop where
 a :1≤ps.length
 b :ps.length≤16
 c :fs.length≤64
 p :∀(q:Nat)(p:Pr),ps[q]? =some p→prOk p=true
 e :∀(q:Nat)(e:Ev),fs[q]? =some e→evOk ps.length q e=true
noncomputable def mayM (ps:List Pr)(fs:List Ev):Bool:= @decide (MayM ps fs) (Classical.propDecidable _)
theorem mayM_t {ps:List Pr}{fs:List Ev}(h:MayM ps fs):mayM ps fs=true:= @decide_eq_true _ (Classical.propDecidable _) h
theorem mayM_f {ps:List Pr}{fs:List Ev}(h:¬MayM ps fs):mayM ps fs=false:= @decide_eq_false _ (Classical.propDecidable _) h
theorem mayM_iff {ps:List Pr}{fs:List Ev}:mayM ps fs=true↔MayM ps fs:= @decide_eq_true_iff _ (Classical.propDecidable _)
structure ShM (ps:List Pr) (fs:List Ev):Prop where
 a :ps.length≤800000
 b :fs.length≤800000
 p :∀(q:Nat)(p:Pr),ps[q]? =some p→p.1.2.length≤800000∧(∀k∈p.1.2,k.length≤800000)∧p.2.1.length≤800000
def ERm1 (ps:List Pr)(fs:List Ev)(i:Nat):List V:=(.bad:: .q (mV ps fs) 0:: .bad:: .i .i64 (ps.length:Nat):: .i .i64 (i:Nat)::List.replicate 76 .bad)
def ERm2 (ps:List Pr)(fs:List Ev)(i:Nat):List V:=(.bad:: .q (mV ps fs) 0:: .bad:: .i .i64 (ps.length:Nat):: .bad:: .i .i64 (i:Nat)::List.replicate 75 .bad)
theorem rmayM_den (ps:List Pr)(fs:List Ev)(hS:ShM ps fs)(s:St)(hx:NoX s):Den gt0 Tryz.prog 6 [mV ps fs] s (.b (mayM ps fs)) s:=by
 have hlp:(ps.map prV).length=ps.length:=List.length_map ..
 have hlf:(fs.map evV).length=fs.length:=List.length_map ..
 have hS1:=hS.a
 have hS2:=hS.b
 generalize hB:mayM ps fs=B
 have hBf:¬MayM ps fs→B=false:=fun h=>by rw[←hB];exact mayM_f h
 have hBt:MayM ps fs→B=true:=fun h=>by rw[←hB];exact mayM_t h
 refine Den.tidy fun ht=>Den.hm gnm0 hF6 ?_
 have K:=Kn.init ht.1 hx
 conv =>whnf
 refine kgo ?_;(repeat(first|intro(X:Nat)|intro(z:St)|intro(av:V)|intro(tk:Option Nat)|(intro(K1:Kn _ _ _);(try clear K);rename Kn _ _ _=>K)));conv=>whnf
 rw [hlp]
 cases h1:ltZ (ps.length:Nat) 1<;>conv=>whnf
 rotate_left
 ·refine kgo ?_;(repeat(first|intro(X:Nat)|intro(z:St)|intro(av:V)|intro(tk:Option Nat)|(intro(K1:Kn _ _ _);(try clear K);rename Kn _ _ _=>K)));conv=>whnf
  rw [hBf (fun m=>by have:=m.a;rw[ltZ_eq] at h1;simp only[decide_eq_true_eq] at h1;omega)]
  exact K.fin ht hx (.b _) (.refl _)
 refine kgo ?_;(repeat(first|intro(X:Nat)|intro(z:St)|intro(av:V)|intro(tk:Option Nat)|(intro(K1:Kn _ _ _);(try clear K);rename Kn _ _ _=>K)));conv=>whnf
 cases h2:ltZ 16 (ps.length:Nat)<;>conv=>whnf
 rotate_left
 ·refine kgo ?_;(repeat(first|intro(X:Nat)|intro(z:St)|intro(av:V)|intro(tk:Option Nat)|(intro(K1:Kn _ _ _);(try clear K);rename Kn _ _ _=>K)));conv=>whnf
  rw [hBf (fun m=>by have:=m.b;rw[ltZ_eq] at h2;simp at h2;omega)]
  exact K.fin ht hx (.b _) (.refl _)
 refine kgo ?_;(repeat(first|intro(X:Nat)|intro(z:St)|intro(av:V)|intro(tk:Option Nat)|(intro(K1:Kn _ _ _);(try clear K);rename Kn _ _ _=>K)));conv=>whnf
 rw [hlf]
 cases h3:ltZ 64 (fs.length:Nat)<;>conv=>whnf
 rotate_left
 ·refine kgo ?_;(repeat(first|intro(X:Nat)|intro(z:St)|intro(av:V)|intro(tk:Option Nat)|(intro(K1:Kn _ _ _);(try clear K);rename Kn _ _ _=>K)));conv=>whnf
  rw [hBf (fun m=>by have:=m.c;rw[ltZ_eq] at h3;simp at h3;omega)]
  exact K.fin ht hx (.b _) (.refl _)
 refine kgo ?_;(repeat(first|intro(X:Nat)|intro(z:St)|intro(av:V)|intro(tk:Option Nat)|(intro(K1:Kn _ _ _);(try clear K);rename Kn _ _ _=>K)));conv=>whnf
 rw [ltZ_eq] at h1 h2 h3
 simp only[decide_eq_false_iff_not] at h1 h2 h3
 refine HM.loop gnm0 fun hg=>⟨fun m e z'=>∃j:Nat,j≤ps.length∧m=ps.length-j∧e=ERm1 ps fs j∧(∀(q:Nat)(p:Pr),q<j→ps[q]? =some p→prOk p=true)∧Kn s z' [],
  ⟨ps.length,fg [1,3,4] _,_,WkM.fg hg,0,Nat.zero_le _,rfl,rfl,fun q p hq=>(by omega),K⟩, ?_⟩
 clear K
 rintro m e z1 ⟨j,hj,rfl,rfl,hpj,K⟩
 conv =>whnf
 refine kgo ?_;(repeat(first|intro(X:Nat)|intro(z:St)|intro(av:V)|intro(tk:Option Nat)|(intro(K1:Kn _ _ _);(try clear K);rename Kn _ _ _=>K)));conv=>whnf
 refine brL ⟨fun hlt=> ?_,fun hge=> ?_⟩<;>conv=>whnf
 ·have hp:ps[j]? =some ps[j]:=List.getElem?_eq_getElem hlt
  generalize ps[j]=p at hp
  obtain ⟨hk1,hk2,hk3⟩:=hS.p _ _ hp
  have hlv:(p.2.1.map iV).length=p.2.1.length:=List.length_map ..
  have hbad:prOk p=false→B=false:=fun h=>hBf fun m=>by have:=m.p _ _ hp;rw[h] at this;cases this
  refine kgo ?_;(repeat(first|intro(X:Nat)|intro(z:St)|intro(av:V)|intro(tk:Option Nat)|(intro(K1:Kn _ _ _);(try clear K);rename Kn _ _ _=>K)));conv=>whnf
  refine ⟨_,_,rmayL_den p.1.1 p.1.2 hk1 hk2 _, ?_⟩
  cases hm:mayP p.1.1 p.1.2<;>conv=>whnf
  ·refine kgo ?_;(repeat(first|intro(X:Nat)|intro(z:St)|intro(av:V)|intro(tk:Option Nat)|(intro(K1:Kn _ _ _);(try clear K);rename Kn _ _ _=>K)));conv=>whnf
   rw [hbad (by simp[prOk,hm])]
   exact K.fin ht hx (.b _) (.refl _)
  ·refine kgo ?_;(repeat(first|intro(X:Nat)|intro(z:St)|intro(av:V)|intro(tk:Option Nat)|(intro(K1:Kn _ _ _);(try clear K);rename Kn _ _ _=>K)));conv=>whnf
   rw [hlv]
   cases hq:eqZ (p.2.1.length:Nat) p.1.1<;>conv=>whnf
   ·refine kgo ?_;(repeat(first|intro(X:Nat)|intro(z:St)|intro(av:V)|intro(tk:Option Nat)|(intro(K1:Kn _ _ _);(try clear K);rename Kn _ _ _=>K)));conv=>whnf
    rw [hbad (by simp[prOk,hq])]
    exact K.fin ht hx (.b _) (.refl _)
   ·refine kgo ?_;(repeat(first|intro(X:Nat)|intro(z:St)|intro(av:V)|intro(tk:Option Nat)|(intro(K1:Kn _ _ _);(try clear K);rename Kn _ _ _=>K)));conv=>whnf
    intro hg'
    refine ⟨ps.length-(j+1),fg [1,3,4] _,_,by omega,WkM.fg hg',j+1,hlt,rfl,rfl,fun q p' hq' hp'=> ?_,K⟩
    by_cases e:q=j
    ·subst e;rw[hp] at hp';cases hp';simp[prOk,hm,hq]
    ·exact hpj q p' (by omega) hp'
 have hall:∀(q:Nat)(p:Pr),ps[q]? =some p→prOk p=true:=fun q p h=>hpj q p (by have:=(List.getElem?_eq_some_iff.1 h).1;omega) h
 refine kgo ?_;(repeat(first|intro(X:Nat)|intro(z:St)|intro(av:V)|intro(tk:Option Nat)|(intro(K1:Kn _ _ _);(try clear K);rename Kn _ _ _=>K)));conv=>whnf
 refine HM.loop gnm0 fun hg=>⟨fun m e z'=>∃j:Nat,j≤fs.length∧m=fs.length-j∧e=ERm2 ps fs j∧(∀(q:Nat)(p:Ev),q<j→fs[q]? =some p→evOk ps.length q p=true)∧Kn s z' [],
  ⟨fs.length,fg [1,3,5] _,_,WkM.fg hg,0,Nat.zero_le _,rfl,rfl,fun q p hq=>(by omega),K⟩, ?_⟩
 clear K
 rintro m e z1 ⟨j,hj,rfl,rfl,hej,K⟩
 conv =>whnf
 refine kgo ?_;(repeat(first|intro(X:Nat)|intro(z:St)|intro(av:V)|intro(tk:Option Nat)|(intro(K1:Kn _ _ _);(try clear K);rename Kn _ _ _=>K)));conv=>whnf
 rw [hlf]
 refine brL ⟨fun hlt=> ?_,fun hge=> ?_⟩<;>conv=>whnf
 ·have hp:fs[j]? =some fs[j]:=List.getElem?_eq_getElem hlt
  generalize fs[j]=p at hp
  have hbad:evOk ps.length j p=false→B=false:=fun h=>hBf fun m=>by have:=m.e _ _ hp;rw[h] at this;cases this
  refine kgo ?_;(repeat(first|intro(X:Nat)|intro(z:St)|intro(av:V)|intro(tk:Option Nat)|(intro(K1:Kn _ _ _);(try clear K);rename Kn _ _ _=>K)));conv=>whnf
  refine ⟨_,_,rmayE_den p ps.length _, ?_⟩
  cases hm:mayE p ps.length<;>conv=>whnf
  ·refine kgo ?_;(repeat(first|intro(X:Nat)|intro(z:St)|intro(av:V)|intro(tk:Option Nat)|(intro(K1:Kn _ _ _);(try clear K);rename Kn _ _ _=>K)));conv=>whnf
   rw [hbad (by simp[evOk,hm])]
   exact K.fin ht hx (.b _) (.refl _)
  ·refine kgo ?_;(repeat(first|intro(X:Nat)|intro(z:St)|intro(av:V)|intro(tk:Option Nat)|(intro(K1:Kn _ _ _);(try clear K);rename Kn _ _ _=>K)));conv=>whnf
   cases hq:eqZ p.2.1 0<;>conv=>whnf
   ·refine kgo ?_;(repeat(first|intro(X:Nat)|intro(z:St)|intro(av:V)|intro(tk:Option Nat)|(intro(K1:Kn _ _ _);(try clear K);rename Kn _ _ _=>K)));conv=>whnf
    rw [hbad (by simp[evOk,hq])]
    exact K.fin ht hx (.b _) (.refl _)
   ·refine kgo ?_;(repeat(first|intro(X:Nat)|intro(z:St)|intro(av:V)|intro(tk:Option Nat)|(intro(K1:Kn _ _ _);(try clear K);rename Kn _ _ _=>K)));conv=>whnf
    cases hr:eqZ p.2.2.1 (j:Nat)<;>conv=>whnf
    ·refine kgo ?_;(repeat(first|intro(X:Nat)|intro(z:St)|intro(av:V)|intro(tk:Option Nat)|(intro(K1:Kn _ _ _);(try clear K);rename Kn _ _ _=>K)));conv=>whnf
     rw [hbad (by simp[evOk,hr])]
     exact K.fin ht hx (.b _) (.refl _)
    ·refine kgo ?_;(repeat(first|intro(X:Nat)|intro(z:St)|intro(av:V)|intro(tk:Option Nat)|(intro(K1:Kn _ _ _);(try clear K);rename Kn _ _ _=>K)));conv=>whnf
     intro hg'
     refine ⟨fs.length-(j+1),fg [1,3,5] _,_,by omega,WkM.fg hg',j+1,hlt,rfl,rfl,fun q p' hq' hp'=> ?_,K.drop0 rfl⟩
     by_cases e:q=j
     ·subst e;rw[hp] at hp';cases hp';simp[evOk,hm,hq,hr]
     ·exact hej q p' (by omega) hp'
 ·refine kgo ?_;(repeat(first|intro(X:Nat)|intro(z:St)|intro(av:V)|intro(tk:Option Nat)|(intro(K1:Kn _ _ _);(try clear K);rename Kn _ _ _=>K)));conv=>whnf
  rw [hBt ⟨by omega,by omega,by omega,hall,fun q p h=>hej q p (by have:=(List.getElem?_eq_some_iff.1 h).1;omega) h⟩]
  exact K.fin ht hx (.b _) (.refl _)
end Go.Proofs.YtlhopiehnaabgaaGreatDoor
