import Derived.Test.YtlhopiehnaabgaaGreatDoorDig
set_option linter.all false
namespace Go.Proofs.YtlhopiehnaabgaaGreatDoor
open Go Rf
set_option maxRecDepth 100000
set_option maxHeartbeats 4000000
def i64 (n:Int):Prop:=-9223372036854775808≤n∧n≤9223372036854775807
def insT (x:Int×Int):List UInt8:=[32,32]++wd x.1++(if nb x.1 then [32]++Lib.itoa x.2 else [])++[10]
def kT (k:Kd):List UInt8:=[107,105,110,100,10]++k.flatMap insT
def pgT (v:Int)(ks:List Kd):List UInt8:=[118,97,114,115,32]++Lib.itoa v++[10]++ks.flatMap kT
def txt (v:Int)(ks:List Kd):List UInt8:=if mayP v ks then pgT v ks else []
theorem wdN_len (n:Nat):(wdN n).length≤5:=by
 unfold wdN;split<;>simp
theorem wd_len (o:Int):(wd o).length≤5:=by
 cases o with
 | ofNat n=>exact wdN_len n
 | negSucc n=>exact Nat.zero_le _
theorem insT_len {x:Int×Int}(h:i64 x.2):(insT x).length≤30:=by
 have h1:=wd_len x.1
 have h2:=Lib.itoa_length_le x.2 h.1 h.2
 unfold insT
 split <;>simp<;>omega
theorem flat_len {α β:Type}{f:α→List β}{m:Nat}:∀ {l:List α},(∀a∈l,(f a).length≤m)→(l.flatMap f).length≤m* l.length
 | [],_=>by simp
 | a::l,h=>by
  have h1:=h a (List.mem_cons_self ..)
  have h2:=flat_len (f:=f) (m:=m) (l:=l) fun b hb=>h b (List.mem_cons_of_mem _ hb)
  rw [List.flatMap_cons,List.length_append,List.length_cons,Nat.mul_succ];omega
theorem kT_len {k:Kd}(h:∀x∈k,i64 x.2)(hl:k.length≤5000):(kT k).length≤150005:=by
 have h1:=flat_len (f:=insT) (m:=30) (l:=k) fun x hx=>insT_len (h x hx)
 unfold kT;simp only[List.length_append,List.length_cons,List.length_nil]
 omega
theorem take_snoc_flat' {α β:Type}{f:α→List β}{l:List α}{j:Nat}{a:α}(h:l[j]? =some a):(l.take (j+1)).flatMap f=(l.take j).flatMap f++f a:=by
 rw [List.take_add_one,h];simp
def EU1 (v:Int)(ks:List Kd)(s:List UInt8)(i:Nat):List V:=(.bad:: .q (pgV v ks) 0:: .bad:: .s s:: .i .i64 (i:Nat)::List.replicate 55 .bad)
def EU2 (v:Int)(ks:List Kd)(s:List UInt8)(i j:Nat):List V:=(.bad:: .q (pgV v ks) 0:: .bad:: .s s:: .i .i64 (i:Nat):: .i .i64 (j:Nat)::List.replicate 54 .bad)
theorem er1 {v:Int}{ks:List Kd}{i:Nat}{e:List V}{t t':List UInt8}(h:e=EU1 v ks t i)(ht:t=t'):e=EU1 v ks t' i:=ht▸h
theorem er2 {v:Int}{ks:List Kd}{i j:Nat}{e:List V}{t t':List UInt8}(h:e=EU2 v ks t i j)(ht:t=t'):e=EU2 v ks t' i j:=ht▸h
theorem rtext_den (v:Int)(ks:List Kd)(hl:ks.length≤5000)(hk:∀k∈ks,k.length≤5000)(hv:i64 v)(hi:∀k∈ks,∀x∈k,i64 x.2)(s:St)(hx:NoX s):Den gt0 Tryz.prog 23 [pgV v ks] s (.s (txt v ks)) s:=by
 refine Den.tidy fun ht=>Den.hm gnm0 hF23 ?_
 have K:=Kn.init ht.1 hx
 have hlk:(ks.map kV).length=ks.length:=List.length_map ..
 conv =>whnf
 refine kgo ?_;(repeat(first|intro(X:Nat)|intro(z:St)|intro(av:V)|intro(tk:Option Nat)|(intro(K1:Kn _ _ _);(try clear K);rename Kn _ _ _=>K)));conv=>whnf
 refine ⟨_,_,rmayL_den v ks (by omega) (fun k h=>by have:=hk k h;omega) _, ?_⟩
 conv =>whnf
 refine kgo ?_;(repeat(first|intro(X:Nat)|intro(z:St)|intro(av:V)|intro(tk:Option Nat)|(intro(K1:Kn _ _ _);(try clear K);rename Kn _ _ _=>K)));conv=>whnf
 cases hm:mayP v ks<;>conv=>whnf
 ·rw[show txt v ks=[] by simp[txt,hm]]
  refine kgo ?_;(repeat(first|intro(X:Nat)|intro(z:St)|intro(av:V)|intro(tk:Option Nat)|(intro(K1:Kn _ _ _);(try clear K);rename Kn _ _ _=>K)));conv=>whnf
  exact K.fin ht hx (.s _) (.refl _)
 rw [show txt v ks=pgT v ks by simp[txt,hm]]
 refine kgo ?_;(repeat(first|intro(X:Nat)|intro(z:St)|intro(av:V)|intro(tk:Option Nat)|(intro(K1:Kn _ _ _);(try clear K);rename Kn _ _ _=>K)));conv=>whnf
 refine ⟨_,_,dig_den hv.1 hv.2 _, ?_⟩
 have hil:=Lib.itoa_length_le v hv.1 hv.2
 conv =>whnf
 refine kgo ?_;(repeat(first|intro(X:Nat)|intro(z:St)|intro(av:V)|intro(tk:Option Nat)|(intro(K1:Kn _ _ _);(try clear K);rename Kn _ _ _=>K)));conv=>whnf
 refine HM.loop gnm0 fun hg=>⟨fun m e z'=>∃i:Nat,i≤ks.length∧m=ks.length-i∧e=EU1 v ks ([118,97,114,115,32]++Lib.itoa v++[10]++(ks.take i).flatMap kT) i∧Kn s z' [],
  ⟨ks.length,fg [1,3,4] _,_,WkM.fg hg,0,Nat.zero_le _,rfl,er1 rfl (by simp),K⟩, ?_⟩
 clear K
 rintro m e z1 ⟨i,hi1,rfl,rfl,K⟩
 have hS:([118,97,114,115,32]++Lib.itoa v++[10]++(ks.take i).flatMap kT).length≤1000000000:=by
  have h1:=flat_len (f:=kT) (m:=150005) (l:=ks.take i) fun k hk'=>kT_len (hi k (List.mem_of_mem_take hk')) (hk k (List.mem_of_mem_take hk'))
  have h2:(ks.take i).length≤5000:=by rw[List.length_take];omega
  simp only[List.length_append,List.length_cons,List.length_nil];omega
 have hstep:∀k,ks[i]? =some k→[118,97,114,115,32]++Lib.itoa v++[10]++(ks.take (i+1)).flatMap kT=([118,97,114,115,32]++Lib.itoa v++[10]++(ks.take i).flatMap kT)++kT k:=fun k hk=>by
  rw [take_snoc_flat' hk];simp
 have hend:ks.length≤i→[118,97,114,115,32]++Lib.itoa v++[10]++(ks.take i).flatMap kT=pgT v ks:=fun h=>by
  rw [List.take_of_length_le h];rfl
 generalize [118,97,114,115,32]++Lib.itoa v++[10]++(ks.take i).flatMap kT=S at hS hstep hend
 conv =>whnf
 refine kgo ?_;(repeat(first|intro(X:Nat)|intro(z:St)|intro(av:V)|intro(tk:Option Nat)|(intro(K1:Kn _ _ _);(try clear K);rename Kn _ _ _=>K)));conv=>whnf
 rw [hlk]
 refine brL ⟨fun hlt=> ?_,fun hge=> ?_⟩<;>conv=>whnf
 ·have hki:ks[i]? =some ks[i]:=List.getElem?_eq_getElem hlt
  generalize ks[i]=k at hki
  have hkl:=hk k (List.mem_of_getElem? hki)
  have hix:=hi k (List.mem_of_getElem? hki)
  have hlx:(k.map insV).length=k.length:=List.length_map ..
  refine kgo ?_;(repeat(first|intro(X:Nat)|intro(z:St)|intro(av:V)|intro(tk:Option Nat)|(intro(K1:Kn _ _ _);(try clear K);rename Kn _ _ _=>K)));conv=>whnf
  refine HM.loop gnm0 fun hg=>⟨fun m e z'=>∃j:Nat,j≤k.length∧m=k.length-j∧e=EU2 v ks (S++[107,105,110,100,10]++(k.take j).flatMap insT) i j∧Kn s z' [],
   ⟨k.length,fg [1,3,4,5] _,_,WkM.fg hg,0,Nat.zero_le _,rfl,er2 rfl (by simp),K⟩, ?_⟩
  clear K
  rintro m e z2 ⟨j,hj1,rfl,rfl,K⟩
  have hT:(S++[107,105,110,100,10]++(k.take j).flatMap insT).length≤2000000000:=by
   have h1:=flat_len (f:=insT) (m:=30) (l:=k.take j) fun x hx=>insT_len (hix x (List.mem_of_mem_take hx))
   have h2:(k.take j).length≤5000:=by rw[List.length_take];omega
   simp only[List.length_append,List.length_cons,List.length_nil];omega
  have hstep2:∀x,k[j]? =some x→S++[107,105,110,100,10]++(k.take (j+1)).flatMap insT=(S++[107,105,110,100,10]++(k.take j).flatMap insT)++insT x:=fun x hx=>by
   rw [take_snoc_flat' hx];simp
  have hend2:k.length≤j→S++[107,105,110,100,10]++(k.take j).flatMap insT=S++kT k:=fun h=>by
   rw [List.take_of_length_le h,kT];simp
  generalize S++[107,105,110,100,10]++(k.take j).flatMap insT=T at hT hstep2 hend2
  conv =>whnf
  refine kgo ?_;(repeat(first|intro(X:Nat)|intro(z:St)|intro(av:V)|intro(tk:Option Nat)|(intro(K1:Kn _ _ _);(try clear K);rename Kn _ _ _=>K)));conv=>whnf
  rw [hlx]
  refine brL ⟨fun hlt2=> ?_,fun hge2=> ?_⟩<;>conv=>whnf
  ·have hkj:k[j]? =some k[j]:=List.getElem?_eq_getElem hlt2
   generalize k[j]=x at hkj
   have hx2:=hix x (List.mem_of_getElem? hkj)
   have hwl:=wd_len x.1
   have hil2:=Lib.itoa_length_le x.2 hx2.1 hx2.2
   refine kgo ?_;(repeat(first|intro(X:Nat)|intro(z:St)|intro(av:V)|intro(tk:Option Nat)|(intro(K1:Kn _ _ _);(try clear K);rename Kn _ _ _=>K)));conv=>whnf
   refine ⟨_,_,rwd_den x.1 _, ?_⟩
   conv =>whnf
   refine kgo ?_;(repeat(first|intro(X:Nat)|intro(z:St)|intro(av:V)|intro(tk:Option Nat)|(intro(K1:Kn _ _ _);(try clear K);rename Kn _ _ _=>K)));conv=>whnf
   refine ⟨_,_,rnb_den x.1 _, ?_⟩
   conv =>whnf
   refine kgo ?_;(repeat(first|intro(X:Nat)|intro(z:St)|intro(av:V)|intro(tk:Option Nat)|(intro(K1:Kn _ _ _);(try clear K);rename Kn _ _ _=>K)));conv=>whnf
   cases hn:nb x.1<;>conv=>whnf
   ·refine kgo ?_;(repeat(first|intro(X:Nat)|intro(z:St)|intro(av:V)|intro(tk:Option Nat)|(intro(K1:Kn _ _ _);(try clear K);rename Kn _ _ _=>K)));conv=>whnf
    intro hg'
    exact ⟨k.length-(j+1),fg [1,3,4,5] _,_,by omega,WkM.fg hg',j+1,hlt2,rfl,er2 rfl (by rw[hstep2 x hkj,insT,hn];simp),K.drop0 rfl⟩
   ·refine kgo ?_;(repeat(first|intro(X:Nat)|intro(z:St)|intro(av:V)|intro(tk:Option Nat)|(intro(K1:Kn _ _ _);(try clear K);rename Kn _ _ _=>K)));conv=>whnf
    refine ⟨_,_,dig_den hx2.1 hx2.2 _, ?_⟩
    conv =>whnf
    refine kgo ?_;(repeat(first|intro(X:Nat)|intro(z:St)|intro(av:V)|intro(tk:Option Nat)|(intro(K1:Kn _ _ _);(try clear K);rename Kn _ _ _=>K)));conv=>whnf
    intro hg'
    exact ⟨k.length-(j+1),fg [1,3,4,5] _,_,by omega,WkM.fg hg',j+1,hlt2,rfl,er2 rfl (by rw[hstep2 x hkj,insT,hn];simp),K.drop0 rfl⟩
  ·refine kgo ?_;(repeat(first|intro(X:Nat)|intro(z:St)|intro(av:V)|intro(tk:Option Nat)|(intro(K1:Kn _ _ _);(try clear K);rename Kn _ _ _=>K)));conv=>whnf
   intro hg'
   exact ⟨ks.length-(i+1),fg [1,3,4] _,_,by omega,WkM.fg hg',i+1,hlt,rfl,er1 rfl ((hend2 hge2).trans (hstep k hki).symm),K⟩
 ·rw[←hend hge]
  refine kgo ?_;(repeat(first|intro(X:Nat)|intro(z:St)|intro(av:V)|intro(tk:Option Nat)|(intro(K1:Kn _ _ _);(try clear K);rename Kn _ _ _=>K)));conv=>whnf
  exact K.fin ht hx (.s _) (.refl _)
end Go.Proofs.YtlhopiehnaabgaaGreatDoor
