import Derived.Test.YtlhopiehnaabgaaGreatDoorMtl
import Derived.Test.YtlhopiehnaabgaaGreatDoorMmay
set_option linter.all false
namespace Go.Proofs.YtlhopiehnaabgaaGreatDoor
open Go Rf
set_option maxRecDepth 100000
set_option maxHeartbeats 4000000
def prT (p:Pr):List UInt8:=[112,114,111,99]++vsT (p.2.2::p.2.1)++[10]++txt p.1.1 p.1.2
def evL (e:Ev):List Int:=[e.1,e.2.2.2.1,e.2.2.2.2.1,e.2.2.2.2.2]
def evT (e:Ev):List UInt8:=[102,105,114,115,116]++vsT (evL e)++[10]
def mT (ps:List Pr)(fs:List Ev):List UInt8:=ps.flatMap prT++fs.flatMap evT
noncomputable def mtxt (ps:List Pr)(fs:List Ev):List UInt8:=if mayM ps fs then mT ps fs else []
structure I64M (ps:List Pr) (fs:List Ev):Prop where
 p :∀p∈ps,i64 p.1.1∧(∀k∈p.1.2,∀x∈k,i64 x.2)∧(∀n∈p.2.1,i64 n)∧i64 p.2.2
 e :∀e∈fs,i64 e.1∧i64 e.2.2.2.1∧i64 e.2.2.2.2.1∧i64 e.2.2.2.2.2
theorem prOk_of {p:Pr}(h:prOk p=true):mayP p.1.1 p.1.2=true∧p.2.1.length≤8∧((p.2.1.length:Nat):Int)=p.1.1:=by
 unfold prOk at h
 simp only[Bool.and_eq_true,eqZ_eq,beq_iff_eq] at h
 refine ⟨h.1, ?_,h.2⟩
 have :=h.1
 unfold mayP at this
 simp only[Bool.and_eq_true,Bool.not_eq_true',Bool.or_eq_false_iff,decide_eq_false_iff_not] at this
 omega
theorem txt_len {v:Int}{ks:List Kd}(hv:i64 v)(hi:∀k∈ks,∀x∈k,i64 x.2):(txt v ks).length≤31000:=by
 unfold txt
 split
 ·rename_i hm
  obtain ⟨h8,h128⟩:=may_bnd hm
  have h1:=flat_len (f:=kT) (m:=3845) (l:=ks) fun k hk=>kT_len' (hi k hk) (h128 k hk)
  have h4:=Lib.itoa_length_le v hv.1 hv.2
  unfold pgT;simp only[List.length_append,List.length_cons,List.length_nil]
  omega
 ·simp
theorem prT_len {p:Pr}(h:i64 p.1.1∧(∀k∈p.1.2,∀x∈k,i64 x.2)∧(∀n∈p.2.1,i64 n)∧i64 p.2.2)(hl:p.2.1.length≤8):(prT p).length≤31300:=by
 have h1:=txt_len h.1 h.2.1
 have h2:=vsT_len (l:=p.2.2::p.2.1) fun n hn=>by
  rcases List.mem_cons.1 hn with rfl|hn
  ·exact h.2.2.2
  ·exact h.2.2.1 n hn
 simp only[List.length_cons] at h2
 unfold prT;simp only[List.length_append,List.length_cons,List.length_nil]
 omega
theorem evT_len {e:Ev}(h:i64 e.1∧i64 e.2.2.2.1∧i64 e.2.2.2.2.1∧i64 e.2.2.2.2.2):(evT e).length≤94:=by
 have h2:=vsT_len (l:=evL e) fun n hn=>by
  simp only[evL,List.mem_cons,List.not_mem_nil,or_false] at hn
  rcases hn with rfl|rfl|rfl|rfl
  ·exact h.1
  ·exact h.2.1
  ·exact h.2.2.1
  ·exact h.2.2.2
 have h3:(evL e).length=4:=rfl
 unfold evT;simp only[List.length_append,List.length_cons,List.length_nil]
 omega
def EX1 (ps:List Pr)(fs:List Ev)(t:List UInt8)(i:Nat):List V:=(.bad:: .q (mV ps fs) 0:: .bad:: .s t:: .i .i64 (i:Nat)::List.replicate 83 .bad)
def EX2 (ps:List Pr)(fs:List Ev)(t:List UInt8)(i X j:Nat):List V:=(.bad:: .q (mV ps fs) 0:: .bad:: .s t:: .i .i64 (i:Nat):: .p X 0:: .i .i64 (j:Nat)::List.replicate 81 .bad)
def EX3 (ps:List Pr)(fs:List Ev)(t:List UInt8)(i:Nat):List V:=(.bad:: .q (mV ps fs) 0:: .bad:: .s t:: .bad:: .bad:: .bad:: .i .i64 (i:Nat)::List.replicate 80 .bad)
def prO (p:Pr):O:= .c [.i .i64 p.1.1,ksV p.1.2,vsV p.2.1, .i .i64 p.2.2] 0 (some 50)
theorem rmtx_den (ps:List Pr)(fs:List Ev)(hS:ShM ps fs)(hi:I64M ps fs)(s:St)(hx:NoX s):Den gt0 Tryz.prog 8 [mV ps fs] s (.s (mtxt ps fs)) s:=by
 have hlp:(ps.map prV).length=ps.length:=List.length_map ..
 have hlf:(fs.map evV).length=fs.length:=List.length_map ..
 refine Den.tidy fun ht=>Den.hm gnm0 hF8 ?_
 have K:=Kn.init ht.1 hx
 conv =>whnf
 refine kgo ?_;(repeat(first|intro(X:Nat)|intro(z:St)|intro(av:V)|intro(tk:Option Nat)|(intro(K1:Kn _ _ _);(try clear K);rename Kn _ _ _=>K)));conv=>whnf
 refine ⟨_,_,rmayM_den ps fs hS _ K.x, ?_⟩
 conv =>whnf
 refine kgo ?_;(repeat(first|intro(X:Nat)|intro(z:St)|intro(av:V)|intro(tk:Option Nat)|(intro(K1:Kn _ _ _);(try clear K);rename Kn _ _ _=>K)));conv=>whnf
 cases hm:mayM ps fs<;>conv=>whnf
 ·rw[show mtxt ps fs=[] by simp[mtxt,hm]]
  refine kgo ?_;(repeat(first|intro(X:Nat)|intro(z:St)|intro(av:V)|intro(tk:Option Nat)|(intro(K1:Kn _ _ _);(try clear K);rename Kn _ _ _=>K)));conv=>whnf
  exact K.fin ht hx (.s _) (.refl _)
 rw [show mtxt ps fs=mT ps fs by simp[mtxt,hm]]
 have hM:=mayM_iff.1 hm
 have hb:=hM.b
 have hc:=hM.c
 refine kgo ?_;(repeat(first|intro(X:Nat)|intro(z:St)|intro(av:V)|intro(tk:Option Nat)|(intro(K1:Kn _ _ _);(try clear K);rename Kn _ _ _=>K)));conv=>whnf
 refine HM.loop gnm0 fun hg=>⟨fun m e z'=>∃i:Nat,i≤ps.length∧m=ps.length-i∧e=EX1 ps fs ((ps.take i).flatMap prT) i∧Kn s z' [],
  ⟨ps.length,fg [1,3,4] _,_,WkM.fg hg,0,Nat.zero_le _,rfl,rfl,K⟩, ?_⟩
 clear K
 rintro m e z1 ⟨i,hi1,rfl,rfl,K⟩
 have hT0:((ps.take i).flatMap prT).length≤600000:=by
  have h1:=flat_len (f:=prT) (m:=31300) (l:=ps.take i) fun p hp=>by
   have hp':=List.mem_of_mem_take hp
   obtain ⟨q,hq⟩:=List.mem_iff_getElem?.1 hp'
   exact prT_len (hi.p p hp') (prOk_of (hM.p q p hq)).2.1
  have h2:(ps.take i).length≤16:=by rw[List.length_take];omega
  omega
 have hstep:∀p,ps[i]? =some p→(ps.take (i+1)).flatMap prT=(ps.take i).flatMap prT++prT p:=fun p hp=>take_snoc_flat' hp
 have hend:ps.length≤i→(ps.take i).flatMap prT=ps.flatMap prT:=fun h=>by rw[List.take_of_length_le h]
 generalize (ps.take i).flatMap prT=T at hT0 hstep hend
 conv =>whnf
 refine kgo ?_;(repeat(first|intro(X:Nat)|intro(z:St)|intro(av:V)|intro(tk:Option Nat)|(intro(K1:Kn _ _ _);(try clear K);rename Kn _ _ _=>K)));conv=>whnf
 rw [hlp]
 refine brL ⟨fun hlt=> ?_,fun hge=> ?_⟩<;>conv=>whnf
 ·have hpi:ps[i]? =some ps[i]:=List.getElem?_eq_getElem hlt
  have hp:=hi.p ps[i] (List.getElem_mem ..)
  generalize ps[i]=p at hpi hp
  obtain ⟨hmp,hv8,-⟩:=prOk_of (hM.p i p hpi)
  obtain ⟨h8,h128⟩:=may_bnd hmp
  have hil:=Lib.itoa_length_le p.2.2 hp.2.2.2.1 hp.2.2.2.2
  have hlv:(p.2.1.map iV).length=p.2.1.length:=List.length_map ..
  refine kgo ?_;(repeat(first|intro(X:Nat)|intro(z:St)|intro(av:V)|intro(tk:Option Nat)|(intro(K1:Kn _ _ _);(try clear K);rename Kn _ _ _=>K)));conv=>whnf
  refine ⟨_,_,dig_den hp.2.2.2.1 hp.2.2.2.2 _, ?_⟩
  conv =>whnf
  refine kgo ?_;(repeat(first|intro(X:Nat)|intro(z:St)|intro(av:V)|intro(tk:Option Nat)|(intro(K1:Kn _ _ _);(try clear K);rename Kn _ _ _=>K)));conv=>whnf
  revert X;intro Y K
  refine HM.loop gnm0 fun hg=>⟨fun m e z'=>∃j:Nat,j≤p.2.1.length∧m=p.2.1.length-j∧e=EX2 ps fs (T++[112,114,111,99]++vsT (p.2.2::p.2.1.take j)) i Y j∧Kn s z' [.ob true Y (prO p)],
   ⟨p.2.1.length,fg [1,3,4,5,6] _,_,WkM.fg hg,0,Nat.zero_le _,rfl,by rw[show T++[112,114,111,99]++vsT (p.2.2::p.2.1.take 0)=T++[112,114,111,99,32]++Lib.itoa p.2.2 by simp[vsT]];rfl,K⟩, ?_⟩
  clear K
  rintro m e z2 ⟨j,hj,rfl,rfl,K⟩
  have hst2:∀n,p.2.1[j]? =some n→T++[112,114,111,99]++vsT (p.2.2::p.2.1.take (j+1))=(T++[112,114,111,99]++vsT (p.2.2::p.2.1.take j))++[32]++Lib.itoa n:=fun n hn=>by
   rw [List.take_add_one,hn];simp[vsT]
  have hen2:p.2.1.length≤j→T++[112,114,111,99]++vsT (p.2.2::p.2.1.take j)=T++[112,114,111,99]++vsT (p.2.2::p.2.1):=fun h=>by rw[List.take_of_length_le h]
  have hU:(T++[112,114,111,99]++vsT (p.2.2::p.2.1.take j)).length≤610000:=by
   have h2:=vsT_len (l:=p.2.2::p.2.1.take j) fun n hn=>by
    rcases List.mem_cons.1 hn with rfl|hn
    ·exact hp.2.2.2
    ·exact hp.2.2.1 n (List.mem_of_mem_take hn)
   have h3:(p.2.1.take j).length≤8:=by rw[List.length_take];omega
   simp only[List.length_append,List.length_cons,List.length_nil] at h2 ⊢;omega
  generalize T++[112,114,111,99]++vsT (p.2.2::p.2.1.take j)=U at hst2 hen2 hU
  unfold prO at K
  conv =>whnf
  refine kgo ?_;(repeat(first|intro(X:Nat)|intro(z:St)|intro(av:V)|intro(tk:Option Nat)|(intro(K1:Kn _ _ _);(try clear K);rename Kn _ _ _=>K)));conv=>whnf
  rw [hlv]
  refine brL ⟨fun hlt2=> ?_,fun hge2=> ?_⟩<;>conv=>whnf
  ·have hvj:p.2.1[j]? =some p.2.1[j]:=List.getElem?_eq_getElem hlt2
   have hn:=hp.2.2.1 p.2.1[j] (List.getElem_mem ..)
   generalize p.2.1[j]=n at hvj hn
   have hil2:=Lib.itoa_length_le n hn.1 hn.2
   refine kgo ?_;(repeat(first|intro(X:Nat)|intro(z:St)|intro(av:V)|intro(tk:Option Nat)|(intro(K1:Kn _ _ _);(try clear K);rename Kn _ _ _=>K)));conv=>whnf
   refine ⟨_,_,dig_den hn.1 hn.2 _, ?_⟩
   conv =>whnf
   refine kgo ?_;(repeat(first|intro(X:Nat)|intro(z:St)|intro(av:V)|intro(tk:Option Nat)|(intro(K1:Kn _ _ _);(try clear K);rename Kn _ _ _=>K)));conv=>whnf
   intro hg'
   exact ⟨p.2.1.length-(j+1),fg [1,3,4,5,6] _,_,by omega,WkM.fg hg',j+1,hlt2,rfl,by rw[hst2 n hvj];rfl,K⟩
  ·have htl:=txt_len hp.1 hp.2.1
   have hk5:∀k∈p.1.2,k.length≤5000:=fun k hk=>by have:=h128 k hk;omega
   refine kgo ?_;(repeat(first|intro(X:Nat)|intro(z:St)|intro(av:V)|intro(tk:Option Nat)|(intro(K1:Kn _ _ _);(try clear K);rename Kn _ _ _=>K)));conv=>whnf
   refine ⟨_,_,rtext_den p.1.1 p.1.2 (by omega) hk5 hp.1 hp.2.1 _ K.x, ?_⟩
   conv =>whnf
   refine kgo ?_;(repeat(first|intro(X:Nat)|intro(z:St)|intro(av:V)|intro(tk:Option Nat)|(intro(K1:Kn _ _ _);(try clear K);rename Kn _ _ _=>K)));conv=>whnf
   intro hg'
   exact ⟨ps.length-(i+1),fg [1,3,4] _,_,by omega,WkM.fg hg',i+1,hlt,rfl,by rw[hstep p hpi,hen2 hge2,prT];simp;rfl,K.drop0 rfl⟩
 ·rw[hend hge] at hT0
  have hT1:=hend hge
  subst hT1
  refine kgo ?_;(repeat(first|intro(X:Nat)|intro(z:St)|intro(av:V)|intro(tk:Option Nat)|(intro(K1:Kn _ _ _);(try clear K);rename Kn _ _ _=>K)));conv=>whnf
  refine HM.loop gnm0 fun hg=>⟨fun m e z'=>∃i:Nat,i≤fs.length∧m=fs.length-i∧e=EX3 ps fs (ps.flatMap prT++(fs.take i).flatMap evT) i∧Kn s z' [],
   ⟨fs.length,fg [1,3,7] _,_,WkM.fg hg,0,Nat.zero_le _,rfl,by rw[show ps.flatMap prT++(fs.take 0).flatMap evT=ps.flatMap prT by simp];rfl,K⟩, ?_⟩
  clear K
  rintro m e z2 ⟨j,hj,rfl,rfl,K⟩
  have hst2:∀x,fs[j]? =some x→ps.flatMap prT++(fs.take (j+1)).flatMap evT=(ps.flatMap prT++(fs.take j).flatMap evT)++evT x:=fun x hx=>by rw[take_snoc_flat' hx];simp
  have hen2:fs.length≤j→ps.flatMap prT++(fs.take j).flatMap evT=mT ps fs:=fun h=>by rw[List.take_of_length_le h];rfl
  have hU:(ps.flatMap prT++(fs.take j).flatMap evT).length≤700000:=by
   have h1:=flat_len (f:=evT) (m:=94) (l:=fs.take j) fun x hx=>evT_len (hi.e x (List.mem_of_mem_take hx))
   have h2:(fs.take j).length≤64:=by rw[List.length_take];omega
   rw [List.length_append];omega
  generalize ps.flatMap prT++(fs.take j).flatMap evT=U at hst2 hen2 hU
  conv =>whnf
  refine kgo ?_;(repeat(first|intro(X:Nat)|intro(z:St)|intro(av:V)|intro(tk:Option Nat)|(intro(K1:Kn _ _ _);(try clear K);rename Kn _ _ _=>K)));conv=>whnf
  rw [hlf]
  refine brL ⟨fun hlt2=> ?_,fun hge2=> ?_⟩<;>conv=>whnf
  ·have hxj:fs[j]? =some fs[j]:=List.getElem?_eq_getElem hlt2
   have hx:=hi.e fs[j] (List.getElem_mem ..)
   generalize fs[j]=x at hxj hx
   obtain ⟨h1,h2,h3,h4⟩:=hx
   have l1:=Lib.itoa_length_le x.1 h1.1 h1.2
   have l2:=Lib.itoa_length_le x.2.2.2.1 h2.1 h2.2
   have l3:=Lib.itoa_length_le x.2.2.2.2.1 h3.1 h3.2
   have l4:=Lib.itoa_length_le x.2.2.2.2.2 h4.1 h4.2
   refine kgo ?_;(repeat(first|intro(X:Nat)|intro(z:St)|intro(av:V)|intro(tk:Option Nat)|(intro(K1:Kn _ _ _);(try clear K);rename Kn _ _ _=>K)));conv=>whnf
   have h0:=K.get (w:=true) .here
   refine ⟨_,_,dig_den h1.1 h1.2 _, ?_⟩
   conv =>whnf
   refine kgo ?_;(repeat(first|intro(X:Nat)|intro(z:St)|intro(av:V)|intro(tk:Option Nat)|(intro(K1:Kn _ _ _);(try clear K);rename Kn _ _ _=>K)));conv=>whnf
   refine ⟨_,_,dig_den h2.1 h2.2 _, ?_⟩
   conv =>whnf
   refine kgo ?_;(repeat(first|intro(X:Nat)|intro(z:St)|intro(av:V)|intro(tk:Option Nat)|(intro(K1:Kn _ _ _);(try clear K);rename Kn _ _ _=>K)));conv=>whnf
   refine ⟨_,_,dig_den h3.1 h3.2 _, ?_⟩
   conv =>whnf
   refine kgo ?_;(repeat(first|intro(X:Nat)|intro(z:St)|intro(av:V)|intro(tk:Option Nat)|(intro(K1:Kn _ _ _);(try clear K);rename Kn _ _ _=>K)));conv=>whnf
   refine ⟨_,_,dig_den h4.1 h4.2 _, ?_⟩
   conv =>whnf
   refine kgo ?_;(repeat(first|intro(X:Nat)|intro(z:St)|intro(av:V)|intro(tk:Option Nat)|(intro(K1:Kn _ _ _);(try clear K);rename Kn _ _ _=>K)));conv=>whnf
   intro hg'
   exact ⟨fs.length-(j+1),fg [1,3,7] _,_,by omega,WkM.fg hg',j+1,hlt2,rfl,by rw[hst2 x hxj,evT,evL];simp[vsT];rfl,K.drop0 rfl⟩
  ·rw[hen2 hge2]
   refine kgo ?_;(repeat(first|intro(X:Nat)|intro(z:St)|intro(av:V)|intro(tk:Option Nat)|(intro(K1:Kn _ _ _);(try clear K);rename Kn _ _ _=>K)));conv=>whnf
   exact K.fin ht hx (.s _) (.refl _)
end Go.Proofs.YtlhopiehnaabgaaGreatDoor
