import Derived.Test.YtlhopiehnaabgaaGreatDoorMtx
import Derived.Test.YtlhopiehnaabgaaGreatDoorMmay2
import Derived.Test.YtlhopiehnaabgaaGreatDoorLE
import Derived.Test.YtlhopiehnaabgaaGreatDoorCodeT
set_option linter.all false
namespace Go.Proofs.YtlhopiehnaabgaaGreatDoor
open Go Rf
set_option maxRecDepth 100000
set_option maxHeartbeats 4000000
theorem hG12:cF gt1 Tryz.prog (wfa 12) 12=some f12:=by kernel_rfl
def EZ1 (ps:List Pr)(fs:List Ev)(B i:Nat):List V:=(.bad:: .q (mV ps fs) 0:: .bad:: .p B 0:: .bad:: .bad:: .bad:: .bad:: .bad:: .bad:: .bad:: .bad::psV ps:: .i .i64 (ps.length:Nat):: .i .i64 (i:Nat)::List.replicate 37 .bad)
def EZ2 (fs:List Ev)(B i:Nat):List V:=(.bad:: .bad:: .bad:: .p B 0:: .bad:: .bad:: .bad:: .bad:: .bad:: .bad:: .bad:: .bad:: .bad:: .bad:: .bad:: .bad:: .bad:: .bad:: .bad:: .bad:: .bad:: .bad:: .bad:: .bad:: .bad:: .bad:: .bad:: .bad:: .bad:: .bad:: .bad:: .bad::fsV fs:: .i .i64 (fs.length:Nat):: .i .i64 (i:Nat)::List.replicate 17 .bad)
theorem krun_bsl4i {e:List V}{s:St}{t:Nat}{z:V}{x y u v:Arg}{a b c d:Int}(hx:x.ev e=iV a)(hy:y.ev e=iV b)(hu:u.ev e=iV c)(hv:v.ev e=iV d):KRun gt1 Tryz.prog e s (.a (.bsl t true false 4 1 [z] [(0,1,x),(1,1,y),(2,1,u),(3,1,v)])) (.pu 1 ([a,b,c,d].map iV) (.x 4)) s:=by
 show aop e s (.bsl t true false 4 1 [z] [(0,1,x),(1,1,y),(2,1,u),(3,1,v)])=_
 simp only[aop,fillp,hx,hy,hu,hv]
 rfl
theorem mtext_den (ps:List Pr)(fs:List Ev)(hS:ShM ps fs)(hi:I64M ps fs)(s:St)(hx:NoX s):Den gt1 Tryz.prog 12 [mV ps fs] s (.s (mtxt ps fs)) s:=by
 have hlp:(ps.map prV).length=ps.length:=List.length_map ..
 have hlf:(fs.map evV).length=fs.length:=List.length_map ..
 refine Den.tidy fun ht=>Den.hm gnm1 hG12 ?_
 have K:=Kn.init ht.1 hx
 conv =>whnf
 refine kgo ?_;(repeat(first|intro(X:Nat)|intro(z:St)|intro(av:V)|intro(tk:Option Nat)|(intro(K1:Kn _ _ _);(try clear K);rename Kn _ _ _=>K)));conv=>whnf
 refine ⟨_,_,up0 (mmayM_den ps fs hS _ K.x), ?_⟩
 conv =>whnf
 refine kgo ?_;(repeat(first|intro(X:Nat)|intro(z:St)|intro(av:V)|intro(tk:Option Nat)|(intro(K1:Kn _ _ _);(try clear K);rename Kn _ _ _=>K)));conv=>whnf
 cases hm:mayM ps fs<;>conv=>whnf
 ·rw[show mtxt ps fs=[] by simp[mtxt,hm]]
  refine kgo ?_;(repeat(first|intro(X:Nat)|intro(z:St)|intro(av:V)|intro(tk:Option Nat)|(intro(K1:Kn _ _ _);(try clear K);rename Kn _ _ _=>K)));conv=>whnf
  exact K.fin ht hx (.s _) (.refl _)
 rw [show mtxt ps fs=mT ps fs by simp[mtxt,hm]]
 have hM:=mayM_iff.1 hm
 have hb:=hM.b
 have hc:=hM.c
 refine kgo ?_;(repeat(first|intro(X:Nat)|intro(z:St)|intro(av:V)|intro(tk:Option Nat)|(intro(K1:Kn _ _ _);(try clear K);rename Kn _ _ _=>K)));conv=>whnf
 rw [hlp]
 revert X;intro B K
 refine HM.loop gnm1 fun hg=>⟨fun m e z'=>∃(i:Nat)(a:V)(o:Option Nat),i≤ps.length∧m=ps.length-i∧e=EZ1 ps fs B i∧(a= .np∨a= .p B 0)∧Kn s z' (bldL B a ((ps.take i).flatMap prT) o)∧(o=none↔(ps.take i).flatMap prT=[]),
  ⟨ps.length,fg [1,3,12,13,14] _,_,WkM.fg hg,0, .np,none,Nat.zero_le _,rfl,rfl, .inl rfl,K,by simp⟩, ?_⟩
 clear K
 rintro m e z1 ⟨i,a,o,hi1,rfl,rfl,ha,K,hO⟩
 have hT0:((ps.take i).flatMap prT).length≤600000:=by
  have h1:=flat_len (f:=prT) (m:=31300) (l:=ps.take i) fun p hp=>by
   have hp':=List.mem_of_mem_take hp
   obtain ⟨q,hq⟩:=List.mem_iff_getElem?.1 hp'
   exact prT_len (hi.p p hp') (prOk_of (hM.p q p hq)).2.1
  have h2:(ps.take i).length≤16:=by rw[List.length_take];omega
  omega
 have hstep:∀p,ps[i]? =some p→(ps.take (i+1)).flatMap prT=(ps.take i).flatMap prT++prT p:=fun p hp=>take_snoc_flat' hp
 have hend:ps.length≤i→(ps.take i).flatMap prT=ps.flatMap prT:=fun h=>by rw[List.take_of_length_le h]
 generalize (ps.take i).flatMap prT=T at hT0 hstep hend K hO
 conv =>whnf
 refine kgo ?_;(repeat(first|intro(X:Nat)|intro(z:St)|intro(av:V)|intro(tk:Option Nat)|(intro(K1:Kn _ _ _);(try clear K);rename Kn _ _ _=>K)));conv=>whnf
 refine brL ⟨fun hlt=> ?_,fun hge=> ?_⟩<;>conv=>whnf
 ·have hpi:ps[i]? =some ps[i]:=List.getElem?_eq_getElem hlt
  have hp:=hi.p ps[i] (List.getElem_mem ..)
  generalize ps[i]=p at hpi hp
  obtain ⟨hmp,hv8,-⟩:=prOk_of (hM.p i p hpi)
  obtain ⟨h8,h128⟩:=may_bnd hmp
  have hk5:∀k∈p.1.2,k.length≤800000:=fun k hk=>by have:=h128 k hk;omega
  have hlv:(p.2.1.map iV).length=p.2.1.length:=List.length_map ..
  have htl:=txt_len hp.1 hp.2.1
  have hprl:=prT_len hp hv8
  have hvl:(vsT (p.2.2::p.2.1)).length≤40000:=by
   unfold prT at hprl
   simp only[List.length_append,List.length_cons,List.length_nil] at hprl
   omega
  repeat ((first|refine qe ?_|refine q6 ?_|refine de ?_|refine HM.seq ?_|refine mo ?_|refine HO.nil ?_|refine HD.nil ?_|refine q3 ?_|refine d3 ?_|refine kia ?_|refine k1 ?_|(refine ka (fun X z K1=> ?_);clear K;rename Kn _ _ _=>K)|(refine kst (fun z K1=> ?_);clear K;rename Kn _ _ _=>K)|refine kinc ?_|refine q9 ?_|refine q10 ?_|(refine kdappx (fun av z tk K1=> ?_);clear K;rename Kn _ _ _=>K)|refine kdbsl1 ?_|refine kd1 ?_|refine qk ?_|refine HM.blk ?_|refine HM.cond ?_|refine HM.skip ?_|refine HM.exit ?_|refine HM.ret ?_);conv=>whnf)
  have hX0:=K.get (w:=true) .here
  refine kgo ?_;(repeat(first|intro(X:Nat)|intro(z:St)|intro(av:V)|intro(tk:Option Nat)|(intro(K1:Kn _ _ _);(try clear K);rename Kn _ _ _=>K)));conv=>whnf
  have hX1:=K.get (w:=true) (.there .here)
  have hav:Vw1 av (vsV (p.2.2::p.2.1)):=by have:=K.vw .here;exact this
  refine ⟨_,_,(line_d [112,114,111,99] (p.2.2::p.2.1) (fun n hn=>by
   rcases List.mem_cons.1 hn with rfl|hn
   ·exact hp.2.2.2
   ·exact hp.2.2.1 n hn) (by simp only[List.length_cons];omega) (by decide) _ K.x).wk (.cons (.refl _) (.cons hav .nil)), ?_⟩
  conv =>whnf
  refine kgo ?_;(repeat(first|intro(X:Nat)|intro(z:St)|intro(av:V)|intro(tk:Option Nat)|(intro(K1:Kn _ _ _);(try clear K);rename Kn _ _ _=>K)));conv=>whnf
  refine HD.opA0 (krun_loadn (l:=X) (o:=0) rfl hX1 (by simp) rfl) (Nat.ne_of_beq_eq_false rfl) (fun t ht=>by
   simp at ht
   rcases ht with rfl|rfl
   ·exact krun_loadn (l:=X) (o:=0) rfl hX1 (by simp) rfl
   ·exact krun_loadn (l:=X) (o:=0) rfl hX0 (by simp) rfl) ?_
  conv =>whnf
  refine kgo ?_;(repeat(first|intro(X:Nat)|intro(z:St)|intro(av:V)|intro(tk:Option Nat)|(intro(K1:Kn _ _ _);(try clear K);rename Kn _ _ _=>K)));conv=>whnf
  refine ⟨_,_,ctext_den p.1.1 p.1.2 (by omega) hk5 hp.1 hp.2.1 _ K.x, ?_⟩
  conv =>whnf
  refine kgo ?_;(repeat(first|intro(X:Nat)|intro(z:St)|intro(av:V)|intro(tk:Option Nat)|(intro(K1:Kn _ _ _);(try clear K);rename Kn _ _ _=>K)));conv=>whnf
  refine wrs1 (A:=[_,_]) K hO ha ([112,114,111,99]++vsT (p.2.2::p.2.1)++[10]++txt p.1.1 p.1.2) (by
   unfold prT at hprl
   simp only[List.length_append,List.length_cons,List.length_nil] at hprl ⊢
   omega) fun z o K1 hO1=> ?_
  clear K hO;rename Kn _ _ _=>K;rename _↔_=>hO
  conv =>whnf
  refine kgo ?_;(repeat(first|intro(X:Nat)|intro(z:St)|intro(av:V)|intro(tk:Option Nat)|(intro(K1:Kn _ _ _);(try clear K);rename Kn _ _ _=>K)));conv=>whnf
  intro hg'
  have ee:T++([112,114,111,99]++vsT (p.2.2::p.2.1)++[10]++txt p.1.1 p.1.2)=(ps.take (i+1)).flatMap prT:=by rw[hstep p hpi,prT]
  rw [ee] at K hO
  exact ⟨ps.length-(i+1),fg [1,3,12,13,14] _,_,by omega,WkM.fg hg',i+1, .p B 0,o,hlt,rfl,rfl, .inr rfl,(K.drop0 rfl).drop0 rfl,hO⟩
 ·have hT1:=hend hge
  subst hT1
  refine kgo ?_;(repeat(first|intro(X:Nat)|intro(z:St)|intro(av:V)|intro(tk:Option Nat)|(intro(K1:Kn _ _ _);(try clear K);rename Kn _ _ _=>K)));conv=>whnf
  rw [hlf]
  refine HM.loop gnm1 fun hg=>⟨fun m e z'=>∃(j:Nat)(a:V)(o:Option Nat),j≤fs.length∧m=fs.length-j∧e=EZ2 fs B j∧(a= .np∨a= .p B 0)∧Kn s z' (bldL B a (ps.flatMap prT++(fs.take j).flatMap evT) o)∧(o=none↔ps.flatMap prT++(fs.take j).flatMap evT=[]),
   ⟨fs.length,fg [3,32,33,34] _,_,WkM.fg hg,0,a,o,Nat.zero_le _,rfl,rfl,ha,by rw[show ps.flatMap prT++(fs.take 0).flatMap evT=ps.flatMap prT by simp];exact K,by rw[show ps.flatMap prT++(fs.take 0).flatMap evT=ps.flatMap prT by simp];exact hO⟩, ?_⟩
  clear K ha hO
  rintro m e z2 ⟨j,a,o,hj,rfl,rfl,ha,K,hO⟩
  have hst2:∀x,fs[j]? =some x→ps.flatMap prT++(fs.take (j+1)).flatMap evT=(ps.flatMap prT++(fs.take j).flatMap evT)++evT x:=fun x hx=>by rw[take_snoc_flat' hx];simp
  have hen2:fs.length≤j→ps.flatMap prT++(fs.take j).flatMap evT=mT ps fs:=fun h=>by rw[List.take_of_length_le h];rfl
  have hU:(ps.flatMap prT++(fs.take j).flatMap evT).length≤700000:=by
   have h1:=flat_len (f:=evT) (m:=94) (l:=fs.take j) fun x hx=>evT_len (hi.e x (List.mem_of_mem_take hx))
   have h2:(fs.take j).length≤64:=by rw[List.length_take];omega
   rw [List.length_append];omega
  generalize ps.flatMap prT++(fs.take j).flatMap evT=U at hst2 hen2 hU K hO
  conv =>whnf
  refine kgo ?_;(repeat(first|intro(X:Nat)|intro(z:St)|intro(av:V)|intro(tk:Option Nat)|(intro(K1:Kn _ _ _);(try clear K);rename Kn _ _ _=>K)));conv=>whnf
  refine brL ⟨fun hlt2=> ?_,fun hge2=> ?_⟩<;>conv=>whnf
  ·have hxj:fs[j]? =some fs[j]:=List.getElem?_eq_getElem hlt2
   have hx:=hi.e fs[j] (List.getElem_mem ..)
   generalize fs[j]=x at hxj hx
   have hel:=evT_len hx
   refine kgo ?_;(repeat(first|intro(X:Nat)|intro(z:St)|intro(av:V)|intro(tk:Option Nat)|(intro(K1:Kn _ _ _);(try clear K);rename Kn _ _ _=>K)));conv=>whnf
   refine HO.opA (krun_bsl4i (a:=x.1) (b:=x.2.2.2.1) (c:=x.2.2.2.2.1) (d:=x.2.2.2.2.2) rfl rfl rfl rfl) ?_
   conv =>whnf
   refine kgo ?_;(repeat(first|intro(X:Nat)|intro(z:St)|intro(av:V)|intro(tk:Option Nat)|(intro(K1:Kn _ _ _);(try clear K);rename Kn _ _ _=>K)));conv=>whnf
   refine ⟨_,_,(line_d [102,105,114,115,116] (evL x) (fun n hn=>by
    simp only[evL,List.mem_cons,List.not_mem_nil,or_false] at hn
    rcases hn with rfl|rfl|rfl|rfl
    ·exact hx.1
    ·exact hx.2.1
    ·exact hx.2.2.1
    ·exact hx.2.2.2) (by rw[show(evL x).length=4 from rfl];decide) (by decide) _ K.x).wk (.cons (.refl _) (.cons (.pu 1 _ _) .nil)), ?_⟩
   conv =>whnf
   refine kgo ?_;(repeat(first|intro(X:Nat)|intro(z:St)|intro(av:V)|intro(tk:Option Nat)|(intro(K1:Kn _ _ _);(try clear K);rename Kn _ _ _=>K)));conv=>whnf
   refine wrs1 (A:=[_]) K hO ha ([102,105,114,115,116]++vsT (evL x)++[10]) (by
    unfold evT at hel
    simp only[List.length_append,List.length_cons,List.length_nil] at hel ⊢
    omega) fun z o K1 hO1=> ?_
   clear K hO;rename Kn _ _ _=>K;rename _↔_=>hO
   conv =>whnf
   refine kgo ?_;(repeat(first|intro(X:Nat)|intro(z:St)|intro(av:V)|intro(tk:Option Nat)|(intro(K1:Kn _ _ _);(try clear K);rename Kn _ _ _=>K)));conv=>whnf
   intro hg'
   have ee:U++([102,105,114,115,116]++vsT (evL x)++[10])=ps.flatMap prT++(fs.take (j+1)).flatMap evT:=by rw[hst2 x hxj,evT]
   rw [ee] at K hO
   exact ⟨fs.length-(j+1),fg [3,32,33,34] _,_,by omega,WkM.fg hg',j+1, .p B 0,o,hlt2,rfl,rfl, .inr rfl,K.drop0 rfl,hO⟩
  ·have hU1:=hen2 hge2
   subst hU1
   refine kgo ?_;(repeat(first|intro(X:Nat)|intro(z:St)|intro(av:V)|intro(tk:Option Nat)|(intro(K1:Kn _ _ _);(try clear K);rename Kn _ _ _=>K)));conv=>whnf
   refine bstr1 (A:=[]) K hO (by omega) fun z L' K1 hL'=> ?_
   clear K;rename Kn _ _ _=>K
   conv =>whnf
   refine kgo ?_;(repeat(first|intro(X:Nat)|intro(z:St)|intro(av:V)|intro(tk:Option Nat)|(intro(K1:Kn _ _ _);(try clear K);rename Kn _ _ _=>K)));conv=>whnf
   exact K.fin ht hx (.s _) (.refl _) (by simpa[En.own] using hL')
end Go.Proofs.YtlhopiehnaabgaaGreatDoor
set_option linter.all false
namespace Go.Proofs.YtlhopiehnaabgaaGreatDoor
open Go Rf
set_option maxRecDepth 100000
set_option maxHeartbeats 400000
noncomputable def gf28m:{c:F // cF gt0 Tryz.prog (fun r o=> !(r==8&&o==3)) 28=some c}:=⟨_,by conv=>lhs;reduce;simp only[oi,ou,on1]⟩
noncomputable def f28m:F:=gf28m.1
end Go.Proofs.YtlhopiehnaabgaaGreatDoor
