import Derived.Test.YtlhopiehnaabgaaGreatDoorRtx
set_option linter.all false
namespace Go.Proofs.YtlhopiehnaabgaaGreatDoor
open Go Rf
set_option maxRecDepth 100000
set_option maxHeartbeats 4000000
theorem hG37:cF gt1 Tryz.prog (wfa 37) 37=some f37:=by kernel_rfl
theorem wrs1 {sb s:St}{A:List En}{B:Nat}{a:V}{bs:List UInt8}{o:Option Nat}{nx:V→St→Prop}(K:Kn sb s (A++bldL B a bs o))(hO:o=none↔bs=[])(ha:a= .np∨a= .p B 0)(str:List UInt8)(hl:bs.length+str.length≤1000000)
  (h:∀z o',Kn sb z (A++bldL B (.p B 0) (bs++str) o')→(o'=none↔bs++str=[])→nx (.tu [.i .i64 (str.length:Nat), .ni]) z):∃v s',Den gt1 Tryz.prog 35 [.p B 0, .s str] s v s'∧nx v s':=by
 obtain ⟨v,s',h1,h2⟩:=wrs K hO ha str hl h
 exact ⟨v,s',up0 h1,h2⟩
theorem bstr1 {sb s:St}{A:List En}{B:Nat}{a:V}{bs:List UInt8}{o:Option Nat}{nx:V→St→Prop}(K:Kn sb s (A++bldL B a bs o))(hO:o=none↔bs=[])(hl:bs.length≤1000000)
  (h:∀z L',Kn sb z (A++ .ob true B (bldO a (vO bs o))::L')→L'.all En.own=true→nx (.s bs) z):∃v s',Den gt1 Tryz.prog 38 [.p B 0] s v s'∧nx v s':=by
 obtain ⟨v,s',h1,h2⟩:=bstr K hO hl h
 exact ⟨v,s',up0 h1,h2⟩
theorem may_bnd {v:Int}{ks:List Kd}(h:mayP v ks=true):ks.length≤8∧∀k∈ks,k.length≤128:=by
 simp only[mayP,kdBad,Bool.and_eq_true,Bool.not_eq_true',Bool.or_eq_false_iff,decide_eq_false_iff_not,List.any_eq_false] at h
 refine ⟨by omega,fun k hk=> ?_⟩
 have :=h.2 k hk
 simp only[Bool.or_eq_true,decide_eq_true_eq,not_or] at this
 omega
theorem kT_len' {k:Kd}(h:∀x∈k,i64 x.2)(hl:k.length≤128):(kT k).length≤3845:=by
 have h1:=flat_len (f:=insT) (m:=30) (l:=k) fun x hx=>insT_len (h x hx)
 unfold kT;simp only[List.length_append,List.length_cons,List.length_nil]
 omega
def EC1 (v:Int)(ks:List Kd)(B i:Nat):List V:=(.bad:: .q (pgV v ks) 0:: .bad:: .p B 0:: .bad:: .bad:: .bad:: .bad:: .bad:: .bad:: .bad:: .bad:: .bad:: .bad:: .bad:: .bad:: .bad:: .bad::ksV ks:: .i .i64 (ks.length:Nat):: .i .i64 (i:Nat)::List.replicate 27 .bad)
def EC2 (v:Int)(ks:List Kd)(B i:Nat)(k:Kd)(j:Nat):List V:=(.bad:: .q (pgV v ks) 0:: .bad:: .p B 0:: .bad:: .bad:: .bad:: .bad:: .bad:: .bad:: .bad:: .bad:: .bad:: .bad:: .bad:: .bad:: .bad:: .bad::ksV ks:: .i .i64 (ks.length:Nat):: .i .i64 (i:Nat):: .bad:: .bad:: .bad:: .bad::kV k:: .i .i64 (k.length:Nat):: .i .i64 (j:Nat)::List.replicate 20 .bad)
theorem ctext_den (v:Int)(ks:List Kd)(hl:ks.length≤800000)(hk:∀k∈ks,k.length≤800000)(hv:i64 v)(hi:∀k∈ks,∀x∈k,i64 x.2)(s:St)(hx:NoX s):Den gt1 Tryz.prog 37 [pgV v ks] s (.s (txt v ks)) s:=by
 refine Den.tidy fun ht=>Den.hm gnm1 hG37 ?_
 have K:=Kn.init ht.1 hx
 have hlk:(ks.map kV).length=ks.length:=List.length_map ..
 conv =>whnf
 refine kgo ?_;(repeat(first|intro(X:Nat)|intro(z:St)|intro(av:V)|intro(tk:Option Nat)|(intro(K1:Kn _ _ _);(try clear K);rename Kn _ _ _=>K)));conv=>whnf
 refine ⟨_,_,up0 (mayL_den v ks hl hk _ K.x), ?_⟩
 conv =>whnf
 refine kgo ?_;(repeat(first|intro(X:Nat)|intro(z:St)|intro(av:V)|intro(tk:Option Nat)|(intro(K1:Kn _ _ _);(try clear K);rename Kn _ _ _=>K)));conv=>whnf
 cases hm:mayP v ks<;>conv=>whnf
 ·rw[show txt v ks=[] by simp[txt,hm]]
  refine kgo ?_;(repeat(first|intro(X:Nat)|intro(z:St)|intro(av:V)|intro(tk:Option Nat)|(intro(K1:Kn _ _ _);(try clear K);rename Kn _ _ _=>K)));conv=>whnf
  exact K.fin ht hx (.s _) (.refl _)
 rw [show txt v ks=pgT v ks by simp[txt,hm]]
 obtain ⟨hm8,hm128⟩:=may_bnd hm
 have hil:=Lib.itoa_length_le v hv.1 hv.2
 refine kgo ?_;(repeat(first|intro(X:Nat)|intro(z:St)|intro(av:V)|intro(tk:Option Nat)|(intro(K1:Kn _ _ _);(try clear K);rename Kn _ _ _=>K)));conv=>whnf
 refine ⟨_,_,itoa_d hv.1 hv.2 _, ?_⟩
 conv =>whnf
 refine kgo ?_;(repeat(first|intro(X:Nat)|intro(z:St)|intro(av:V)|intro(tk:Option Nat)|(intro(K1:Kn _ _ _);(try clear K);rename Kn _ _ _=>K)));conv=>whnf
 refine wrs1 (A:=[]) (bs:=[]) (o:=none) (a:= .np) K ⟨fun _=>rfl,fun _=>rfl⟩ (.inl rfl) _ (by simp;omega) fun z o K1 hO=> ?_
 clear K;rename Kn _ _ _=>K
 conv =>whnf
 refine kgo ?_;(repeat(first|intro(X:Nat)|intro(z:St)|intro(av:V)|intro(tk:Option Nat)|(intro(K1:Kn _ _ _);(try clear K);rename Kn _ _ _=>K)));conv=>whnf
 rw [hlk]
 replace K:Kn s z (bldL X (.p X 0) ([118,97,114,115,32]++Lib.itoa v++[10]++(ks.take 0).flatMap kT) o):=K.cast (by simp)
 replace hO:o=none↔ [118,97,114,115,32]++Lib.itoa v++[10]++(ks.take 0).flatMap kT=[]:=by simpa using hO
 revert X;intro B K
 refine HM.loop gnm1 fun hg=>⟨fun m e z'=>∃(i:Nat)(o:Option Nat),i≤ks.length∧m=ks.length-i∧e=EC1 v ks B i∧Kn s z' (bldL B (.p B 0) ([118,97,114,115,32]++Lib.itoa v++[10]++(ks.take i).flatMap kT) o)∧(o=none↔ [118,97,114,115,32]++Lib.itoa v++[10]++(ks.take i).flatMap kT=[]),
  ⟨ks.length,fg [1,3,18,19,20] _,_,WkM.fg hg,0,o,Nat.zero_le _,rfl,rfl,K,hO⟩, ?_⟩
 clear K hO
 rintro m e z1 ⟨i,o,hi1,rfl,rfl,K,hO⟩
 have hS:([118,97,114,115,32]++Lib.itoa v++[10]++(ks.take i).flatMap kT).length≤40000:=by
  have h1:=flat_len (f:=kT) (m:=3845) (l:=ks.take i) fun k hk'=>kT_len' (hi k (List.mem_of_mem_take hk')) (hm128 k (List.mem_of_mem_take hk'))
  have h2:(ks.take i).length≤8:=by rw[List.length_take];omega
  simp only[List.length_append,List.length_cons,List.length_nil];omega
 have hstep:∀k,ks[i]? =some k→[118,97,114,115,32]++Lib.itoa v++[10]++(ks.take (i+1)).flatMap kT=([118,97,114,115,32]++Lib.itoa v++[10]++(ks.take i).flatMap kT)++kT k:=fun k hk=>by
  rw [take_snoc_flat' hk];simp
 have hend:ks.length≤i→[118,97,114,115,32]++Lib.itoa v++[10]++(ks.take i).flatMap kT=pgT v ks:=fun h=>by
  rw [List.take_of_length_le h];rfl
 generalize [118,97,114,115,32]++Lib.itoa v++[10]++(ks.take i).flatMap kT=S at hS hstep hend K hO
 conv =>whnf
 refine kgo ?_;(repeat(first|intro(X:Nat)|intro(z:St)|intro(av:V)|intro(tk:Option Nat)|(intro(K1:Kn _ _ _);(try clear K);rename Kn _ _ _=>K)));conv=>whnf
 refine brL ⟨fun hlt=> ?_,fun hge=> ?_⟩<;>conv=>whnf
 ·have hki:ks[i]? =some ks[i]:=List.getElem?_eq_getElem hlt
  generalize ks[i]=k at hki
  have hkl:=hm128 k (List.mem_of_getElem? hki)
  have hix:=hi k (List.mem_of_getElem? hki)
  have hlx:(k.map insV).length=k.length:=List.length_map ..
  refine kgo ?_;(repeat(first|intro(X:Nat)|intro(z:St)|intro(av:V)|intro(tk:Option Nat)|(intro(K1:Kn _ _ _);(try clear K);rename Kn _ _ _=>K)));conv=>whnf
  refine wrs1 (A:=[]) K hO (.inr rfl) _ (by simp only[List.length_append,List.length_cons,List.length_nil];omega) fun z o K1 hO1=> ?_
  clear K hO;rename Kn _ _ _=>K;rename _↔_=>hO
  conv =>whnf
  refine kgo ?_;(repeat(first|intro(X:Nat)|intro(z:St)|intro(av:V)|intro(tk:Option Nat)|(intro(K1:Kn _ _ _);(try clear K);rename Kn _ _ _=>K)));conv=>whnf
  rw [hlx]
  replace K:Kn s z (bldL B (.p B 0) (S++[107,105,110,100,10]++(k.take 0).flatMap insT) o):=K.cast (by simp)
  replace hO:o=none↔S++[107,105,110,100,10]++(k.take 0).flatMap insT=[]:=by simpa using hO
  refine HM.loop gnm1 fun hg=>⟨fun m e z'=>∃(j:Nat)(o:Option Nat),j≤k.length∧m=k.length-j∧e=EC2 v ks B i k j∧Kn s z' (bldL B (.p B 0) (S++[107,105,110,100,10]++(k.take j).flatMap insT) o)∧(o=none↔S++[107,105,110,100,10]++(k.take j).flatMap insT=[]),
   ⟨k.length,fg [1,3,18,19,20,25,26,27] _,_,WkM.fg hg,0,o,Nat.zero_le _,rfl,rfl,K,hO⟩, ?_⟩
  clear K hO
  rintro m e z2 ⟨j,o,hj1,rfl,rfl,K,hO⟩
  have hT:(S++[107,105,110,100,10]++(k.take j).flatMap insT).length≤50000:=by
   have h1:=flat_len (f:=insT) (m:=30) (l:=k.take j) fun x hx=>insT_len (hix x (List.mem_of_mem_take hx))
   have h2:(k.take j).length≤128:=by rw[List.length_take];omega
   simp only[List.length_append,List.length_cons,List.length_nil];omega
  have hstep2:∀x,k[j]? =some x→S++[107,105,110,100,10]++(k.take (j+1)).flatMap insT=(S++[107,105,110,100,10]++(k.take j).flatMap insT)++insT x:=fun x hx=>by
   rw [take_snoc_flat' hx];simp
  have hend2:k.length≤j→S++[107,105,110,100,10]++(k.take j).flatMap insT=S++kT k:=fun h=>by
   rw [List.take_of_length_le h,kT];simp
  generalize S++[107,105,110,100,10]++(k.take j).flatMap insT=T at hT hstep2 hend2 K hO
  conv =>whnf
  refine kgo ?_;(repeat(first|intro(X:Nat)|intro(z:St)|intro(av:V)|intro(tk:Option Nat)|(intro(K1:Kn _ _ _);(try clear K);rename Kn _ _ _=>K)));conv=>whnf
  refine brL ⟨fun hlt2=> ?_,fun hge2=> ?_⟩<;>conv=>whnf
  ·have hkj:k[j]? =some k[j]:=List.getElem?_eq_getElem hlt2
   generalize k[j]=x at hkj
   have hx2:=hix x (List.mem_of_getElem? hkj)
   have hwl:=wd_len x.1
   have hil2:=Lib.itoa_length_le x.2 hx2.1 hx2.2
   refine kgo ?_;(repeat(first|intro(X:Nat)|intro(z:St)|intro(av:V)|intro(tk:Option Nat)|(intro(K1:Kn _ _ _);(try clear K);rename Kn _ _ _=>K)));conv=>whnf
   refine ⟨_,_,up0 (wd_den x.1 _), ?_⟩
   conv =>whnf
   refine kgo ?_;(repeat(first|intro(X:Nat)|intro(z:St)|intro(av:V)|intro(tk:Option Nat)|(intro(K1:Kn _ _ _);(try clear K);rename Kn _ _ _=>K)));conv=>whnf
   refine wrs1 (A:=[_]) K hO (.inr rfl) _ (by simp only[List.length_append,List.length_cons,List.length_nil];omega) fun z o K1 hO1=> ?_
   clear K hO;rename Kn _ _ _=>K;rename _↔_=>hO
   conv =>whnf
   refine kgo ?_;(repeat(first|intro(X:Nat)|intro(z:St)|intro(av:V)|intro(tk:Option Nat)|(intro(K1:Kn _ _ _);(try clear K);rename Kn _ _ _=>K)));conv=>whnf
   refine ⟨_,_,up0 (nb_den x.1 _), ?_⟩
   conv =>whnf
   refine kgo ?_;(repeat(first|intro(X:Nat)|intro(z:St)|intro(av:V)|intro(tk:Option Nat)|(intro(K1:Kn _ _ _);(try clear K);rename Kn _ _ _=>K)));conv=>whnf
   cases hn:nb x.1<;>conv=>whnf
   ·refine kgo ?_;(repeat(first|intro(X:Nat)|intro(z:St)|intro(av:V)|intro(tk:Option Nat)|(intro(K1:Kn _ _ _);(try clear K);rename Kn _ _ _=>K)));conv=>whnf
    refine wrs1 (A:=[_]) K hO (.inr rfl) _ (by simp only[List.length_append,List.length_cons,List.length_nil];omega) fun z o K1 hO1=> ?_
    clear K hO;rename Kn _ _ _=>K;rename _↔_=>hO
    conv =>whnf
    refine kgo ?_;(repeat(first|intro(X:Nat)|intro(z:St)|intro(av:V)|intro(tk:Option Nat)|(intro(K1:Kn _ _ _);(try clear K);rename Kn _ _ _=>K)));conv=>whnf
    intro hg'
    have ee:T++([32,32]++wd x.1)++[10]=S++[107,105,110,100,10]++(k.take (j+1)).flatMap insT:=by rw[hstep2 x hkj,insT,hn];simp
    exact ⟨k.length-(j+1),fg [1,3,18,19,20,25,26,27] _,_,by omega,WkM.fg hg',j+1,o,hlt2,rfl,rfl,(K.drop0 rfl).cast (by rw[←ee];rfl),ee▸hO⟩
   ·refine kgo ?_;(repeat(first|intro(X:Nat)|intro(z:St)|intro(av:V)|intro(tk:Option Nat)|(intro(K1:Kn _ _ _);(try clear K);rename Kn _ _ _=>K)));conv=>whnf
    refine ⟨_,_,fmt_d hx2.1 hx2.2 _, ?_⟩
    conv =>whnf
    refine kgo ?_;(repeat(first|intro(X:Nat)|intro(z:St)|intro(av:V)|intro(tk:Option Nat)|(intro(K1:Kn _ _ _);(try clear K);rename Kn _ _ _=>K)));conv=>whnf
    refine wrs1 (A:=[_]) K hO (.inr rfl) _ (by simp only[List.length_append,List.length_cons,List.length_nil];omega) fun z o K1 hO1=> ?_
    clear K hO;rename Kn _ _ _=>K;rename _↔_=>hO
    conv =>whnf
    refine kgo ?_;(repeat(first|intro(X:Nat)|intro(z:St)|intro(av:V)|intro(tk:Option Nat)|(intro(K1:Kn _ _ _);(try clear K);rename Kn _ _ _=>K)));conv=>whnf
    refine wrs1 (A:=[_]) K hO (.inr rfl) _ (by simp only[List.length_append,List.length_cons,List.length_nil];omega) fun z o K1 hO1=> ?_
    clear K hO;rename Kn _ _ _=>K;rename _↔_=>hO
    conv =>whnf
    refine kgo ?_;(repeat(first|intro(X:Nat)|intro(z:St)|intro(av:V)|intro(tk:Option Nat)|(intro(K1:Kn _ _ _);(try clear K);rename Kn _ _ _=>K)));conv=>whnf
    intro hg'
    have ee:T++([32,32]++wd x.1)++([32]++Lib.itoa x.2)++[10]=S++[107,105,110,100,10]++(k.take (j+1)).flatMap insT:=by rw[hstep2 x hkj,insT,hn];simp
    exact ⟨k.length-(j+1),fg [1,3,18,19,20,25,26,27] _,_,by omega,WkM.fg hg',j+1,o,hlt2,rfl,rfl,(K.drop0 rfl).cast (by rw[←ee];rfl),ee▸hO⟩
  ·refine kgo ?_;(repeat(first|intro(X:Nat)|intro(z:St)|intro(av:V)|intro(tk:Option Nat)|(intro(K1:Kn _ _ _);(try clear K);rename Kn _ _ _=>K)));conv=>whnf
   intro hg'
   have ee:=(hend2 hge2).trans (hstep k hki).symm
   exact ⟨ks.length-(i+1),fg [1,3,18,19,20] _,_,by omega,WkM.fg hg',i+1,o,hlt,rfl,rfl,K.cast (by rw[ee]),ee▸hO⟩
 ·rw[←hend hge]
  refine kgo ?_;(repeat(first|intro(X:Nat)|intro(z:St)|intro(av:V)|intro(tk:Option Nat)|(intro(K1:Kn _ _ _);(try clear K);rename Kn _ _ _=>K)));conv=>whnf
  refine bstr1 (A:=[]) K hO (by omega) fun z L' K1 hL=> ?_
  clear K;rename Kn _ _ _=>K
  conv =>whnf
  refine kgo ?_;(repeat(first|intro(X:Nat)|intro(z:St)|intro(av:V)|intro(tk:Option Nat)|(intro(K1:Kn _ _ _);(try clear K);rename Kn _ _ _=>K)));conv=>whnf
  exact K.fin ht hx (.s _) (.refl _) (by simp[En.own,hL])
end Go.Proofs.YtlhopiehnaabgaaGreatDoor
