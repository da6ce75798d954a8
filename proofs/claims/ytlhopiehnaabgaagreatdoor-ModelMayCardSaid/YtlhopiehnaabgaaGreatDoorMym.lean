import Derived.Test.YtlhopiehnaabgaaGreatDoorMrx
import Derived.Test.YtlhopiehnaabgaaGreatDoorMmu
import Derived.Test.YtlhopiehnaabgaaGreatDoorCodeY
import Derived.Test.YtlhopiehnaabgaaGreatDoorZby
import Derived.Test.YtlhopiehnaabgaaGreatDoorZst
import Derived.Test.YtlhopiehnaabgaaGreatDoorZpl
import Derived.Test.YtlhopiehnaabgaaGreatDoorZpt
set_option linter.all false
namespace Go.Proofs.YtlhopiehnaabgaaGreatDoor
open Go Rf
set_option maxRecDepth 100000
set_option maxHeartbeats 4000000
theorem hG4:cF gt1 Tryz.prog (wfa 4) 4=some f4:=by kernel_rfl
def okAll (ps:List Pr)(fs:List Ev):Prop:=ps.length≤maxLen∧fs.length≤maxLen∧∀p∈ps,okP p
theorem encM_le {ps:List Pr}{fs:List Ev}(hm:MayM ps fs):(encM ps fs).length≤200000:=by
 have h1:=flat_le (f:=encPr) (c:=9310) ps fun y hy=>by
  obtain ⟨q,hq⟩:=List.mem_iff_getElem?.1 hy
  exact encPr_le (hm.p q y hq)
 have h2:=flat_le (f:=encEv) (c:=18) fs (fun w _=>Nat.le_of_eq (encEv_len w))
 have hb:=hm.b
 have hc:=hm.c
 simp only[encM,List.length_cons,List.length_append]
 omega
theorem mtxt_le {ps:List Pr}{fs:List Ev}(hi:I64M ps fs):(mtxt ps fs).length≤600000:=by
 unfold mtxt
 split
 ·rename_i hm
  have hM:=mayM_iff.1 hm
  have h1:=flat_len (f:=prT) (m:=31300) (l:=ps) fun p hp=>by
   obtain ⟨q,hq⟩:=List.mem_iff_getElem?.1 hp
   exact prT_len (hi.p p hp) (prOk_of (hM.p q p hq)).2.1
  have h2:=flat_len (f:=evT) (m:=94) (l:=fs) fun x hx=>evT_len (hi.e x hx)
  have hb:=hM.b
  have hc:=hM.c
  unfold mT
  rw [List.length_append]
  omega
 ·simp
theorem mmlaw_den (ps:List Pr)(fs:List Ev)(p:Int)(h:okAll ps fs)(hI:I64M ps fs)(hp:i64 p)(s:St)(hx:NoX s):Den gt1 Tryz.prog 4 [mV ps fs, .i .i64 p] s (.b true) s:=by
 refine Den.tidy fun ht=>Den.hm gnm1 hG4 ?_
 have K:=Kn.init ht.1 hx
 conv =>whnf
 refine kgo ?_;(repeat(first|intro(X:Nat)|intro(z:St)|intro(av:V)|intro(tk:Option Nat)|(intro(K1:Kn _ _ _);(try clear K);rename Kn _ _ _=>K)));conv=>whnf
 refine ⟨_,_,pup0 (mmuch_den ps fs h.1 (fun p hp=>(h.2.2 p hp).1)) _, ?_⟩
 cases hmu:muchM ps fs<;>conv=>whnf
 rotate_left
 ·refine kgo ?_;(repeat(first|intro(X:Nat)|intro(z:St)|intro(av:V)|intro(tk:Option Nat)|(intro(K1:Kn _ _ _);(try clear K);rename Kn _ _ _=>K)));conv=>whnf
  refine ⟨_,_,pup0 mknown_pden _, ?_⟩
  conv =>whnf
  refine kgo ?_;(repeat(first|intro(X:Nat)|intro(z:St)|intro(av:V)|intro(tk:Option Nat)|(intro(K1:Kn _ _ _);(try clear K);rename Kn _ _ _=>K)));conv=>whnf
  exact K.fin ht hx (.b _) (.refl _)
 have hok:=of_muchM hmu
 have hSh:ShM ps fs:=⟨by have:=hok.1;omega,by have:=hok.2.1;omega,fun q p hq=>by
  obtain ⟨h1,h2,h3⟩:=hok.2.2 p (List.mem_of_getElem? hq)
  exact ⟨by omega,fun k hk=>by have:=h2 k hk;omega,by omega⟩⟩
 have hvs:∀q∈ps,q.2.1.length≤900000:=fun q hq=>by have:=(hok.2.2 q hq).2.2;omega
 have hpl:ps.length≤900000:=by have:=hok.1;omega
 refine kgo ?_;(repeat(first|intro(X:Nat)|intro(z:St)|intro(av:V)|intro(tk:Option Nat)|(intro(K1:Kn _ _ _);(try clear K);rename Kn _ _ _=>K)));conv=>whnf
 refine ⟨_,_,up0 (rmayM_den ps fs hSh _ K.x), ?_⟩
 conv =>whnf
 refine kgo ?_;(repeat(first|intro(X:Nat)|intro(z:St)|intro(av:V)|intro(tk:Option Nat)|(intro(K1:Kn _ _ _);(try clear K);rename Kn _ _ _=>K)));conv=>whnf
 refine ⟨_,_,up0 (mbyt_den ps fs hSh _ K.x), ?_⟩
 have hsl:(startL ps p).length≤maxLen:=by
  have :1000000≤maxLen:=by decide
  unfold startL
  split
  ·rename_i hc
   obtain ⟨j,hj⟩:∃j:Nat,p.toNat-1=j:=⟨_,rfl⟩
   have hpj:ps[j]? =some ps[j]:=List.getElem?_eq_getElem (by omega)
   rw [hj,List.getD_eq_getElem?_getD,hpj]
   have :=hvs ps[j] (List.getElem_mem _)
   simp only[Option.getD_some];omega
  ·simp
 cases hm:mayM ps fs
 ·rw[if_neg (by simp)]
  conv =>whnf
  refine kgo ?_;(repeat(first|intro(X:Nat)|intro(z:St)|intro(av:V)|intro(tk:Option Nat)|(intro(K1:Kn _ _ _);(try clear K);rename Kn _ _ _=>K)));conv=>whnf
  refine ⟨_,_,mtext_den ps fs hSh hI _ K.x, ?_⟩
  generalize hT:mtxt ps fs=T at*
  have hTT:(T==T)=true:=by simp
  conv =>whnf
  refine kgo ?_;(repeat(first|intro(X:Nat)|intro(z:St)|intro(av:V)|intro(tk:Option Nat)|(intro(K1:Kn _ _ _);(try clear K);rename Kn _ _ _=>K)));conv=>whnf
  refine ⟨_,_,up0 (mmayM_den ps fs hSh _ K.x), ?_⟩
  rw [hm]
  conv =>whnf
  refine kgo ?_;(repeat(first|intro(X:Nat)|intro(z:St)|intro(av:V)|intro(tk:Option Nat)|(intro(K1:Kn _ _ _);(try clear K);rename Kn _ _ _=>K)));conv=>whnf
  refine ⟨_,_,up0 (rmtx_den ps fs hSh hI _ K.x), ?_⟩
  rw [hT]
  conv =>whnf
  refine kgo ?_;(repeat(first|intro(X:Nat)|intro(z:St)|intro(av:V)|intro(tk:Option Nat)|(intro(K1:Kn _ _ _);(try clear K);rename Kn _ _ _=>K)));conv=>whnf
  rw [hTT]
  conv =>whnf
  refine kgo ?_;(repeat(first|intro(X:Nat)|intro(z:St)|intro(av:V)|intro(tk:Option Nat)|(intro(K1:Kn _ _ _);(try clear K);rename Kn _ _ _=>K)));conv=>whnf
  refine ⟨_,_,up0 (start_den ps fs p hp hpl hvs _ K.x), ?_⟩
  conv =>whnf
  refine kgo ?_;(repeat(first|intro(X:Nat)|intro(z:St)|intro(av:V)|intro(tk:Option Nat)|(intro(K1:Kn _ _ _);(try clear K);rename Kn _ _ _=>K)));conv=>whnf
  refine ⟨stays_one rfl, ?_⟩
  conv =>whnf
  refine kgo ?_;(repeat(first|intro(X:Nat)|intro(z:St)|intro(av:V)|intro(tk:Option Nat)|(intro(K1:Kn _ _ _);(try clear K);rename Kn _ _ _=>K)));conv=>whnf
  refine ⟨_,_,up0 (rstart_den ps fs p hp hpl hvs _ K.x), ?_⟩
  conv =>whnf
  refine kgo ?_;(repeat(first|intro(X:Nat)|intro(z:St)|intro(av:V)|intro(tk:Option Nat)|(intro(K1:Kn _ _ _);(try clear K);rename Kn _ _ _=>K)));conv=>whnf
  refine ⟨_,_,up0 (rsst_den _ _ hsl _ K.x), ?_⟩
  rw [decide_eq_true rfl]
  conv =>whnf
  refine kgo ?_;(repeat(first|intro(X:Nat)|intro(z:St)|intro(av:V)|intro(tk:Option Nat)|(intro(K1:Kn _ _ _);(try clear K);rename Kn _ _ _=>K)));conv=>whnf
  have hTe:T=[]:=by rw[←hT];unfold mtxt;rw[if_neg (by simp[hm])]
  rw [hTe,show(([]:List UInt8)== [])=true from rfl]
  conv =>whnf
  refine kgo ?_;(repeat(first|intro(X:Nat)|intro(z:St)|intro(av:V)|intro(tk:Option Nat)|(intro(K1:Kn _ _ _);(try clear K);rename Kn _ _ _=>K)));conv=>whnf
  refine ⟨_,_,pup0 mknown_pden _, ?_⟩
  conv =>whnf
  refine kgo ?_;(repeat(first|intro(X:Nat)|intro(z:St)|intro(av:V)|intro(tk:Option Nat)|(intro(K1:Kn _ _ _);(try clear K);rename Kn _ _ _=>K)));conv=>whnf
  exact K.fin ht hx (.b _) (.refl _)
 ·rw[if_pos rfl]
  conv =>whnf
  refine kgo ?_;(repeat(first|intro(X:Nat)|intro(z:St)|intro(av:V)|intro(tk:Option Nat)|(intro(K1:Kn _ _ _);(try clear K);rename Kn _ _ _=>K)));conv=>whnf
  refine ⟨_,_,mtext_den ps fs hSh hI _ K.x, ?_⟩
  generalize hT:mtxt ps fs=T at*
  have hTT:(T==T)=true:=by simp
  conv =>whnf
  refine kgo ?_;(repeat(first|intro(X:Nat)|intro(z:St)|intro(av:V)|intro(tk:Option Nat)|(intro(K1:Kn _ _ _);(try clear K);rename Kn _ _ _=>K)));conv=>whnf
  refine ⟨_,_,up0 (mmayM_den ps fs hSh _ K.x), ?_⟩
  rw [hm]
  conv =>whnf
  refine kgo ?_;(repeat(first|intro(X:Nat)|intro(z:St)|intro(av:V)|intro(tk:Option Nat)|(intro(K1:Kn _ _ _);(try clear K);rename Kn _ _ _=>K)));conv=>whnf
  refine ⟨_,_,up0 (rmtx_den ps fs hSh hI _ K.x), ?_⟩
  rw [hT]
  conv =>whnf
  refine kgo ?_;(repeat(first|intro(X:Nat)|intro(z:St)|intro(av:V)|intro(tk:Option Nat)|(intro(K1:Kn _ _ _);(try clear K);rename Kn _ _ _=>K)));conv=>whnf
  rw [hTT]
  conv =>whnf
  refine kgo ?_;(repeat(first|intro(X:Nat)|intro(z:St)|intro(av:V)|intro(tk:Option Nat)|(intro(K1:Kn _ _ _);(try clear K);rename Kn _ _ _=>K)));conv=>whnf
  refine ⟨_,_,up0 (start_den ps fs p hp hpl hvs _ K.x), ?_⟩
  conv =>whnf
  refine kgo ?_;(repeat(first|intro(X:Nat)|intro(z:St)|intro(av:V)|intro(tk:Option Nat)|(intro(K1:Kn _ _ _);(try clear K);rename Kn _ _ _=>K)));conv=>whnf
  refine ⟨stays_one rfl, ?_⟩
  conv =>whnf
  refine kgo ?_;(repeat(first|intro(X:Nat)|intro(z:St)|intro(av:V)|intro(tk:Option Nat)|(intro(K1:Kn _ _ _);(try clear K);rename Kn _ _ _=>K)));conv=>whnf
  refine ⟨_,_,up0 (rstart_den ps fs p hp hpl hvs _ K.x), ?_⟩
  conv =>whnf
  refine kgo ?_;(repeat(first|intro(X:Nat)|intro(z:St)|intro(av:V)|intro(tk:Option Nat)|(intro(K1:Kn _ _ _);(try clear K);rename Kn _ _ _=>K)));conv=>whnf
  refine ⟨_,_,up0 (rsst_den _ _ hsl _ K.x), ?_⟩
  rw [decide_eq_true rfl]
  conv =>whnf
  refine kgo ?_;(repeat(first|intro(X:Nat)|intro(z:St)|intro(av:V)|intro(tk:Option Nat)|(intro(K1:Kn _ _ _);(try clear K);rename Kn _ _ _=>K)));conv=>whnf
  have hM:=mayM_iff.1 hm
  have hel:=encM_le hM
  have h3:∀p∈ps,p.1.2.length≤255∧(∀k∈p.1.2,k.length≤255)∧p.2.1.length≤255:=fun q hq=>by
   obtain ⟨h1,h2,h3⟩:=hok.2.2 q hq
   exact ⟨by omega,fun k hk=>by have:=h2 k hk;omega,by omega⟩
  have h1:ps.length≤255:=by have:=hok.1;omega
  have h2:fs.length≤255:=by have:=hok.2.1;omega
  obtain ⟨r,hr,hr1,hr2⟩:=foM_txt hM hI
  have hmT:mT ps fs=T:=by rw[←hT];unfold mtxt;rw[if_pos hm]
  have hTl:T.length≤700000:=by have:=mtxt_le hI;rw[hT] at this;omega
  rw [hmT] at hr
  have hee:(encM ps fs==encM ps fs)=true:=by simp
  have hmr:=mofR_enc hM hI
  generalize hE:encM ps fs=E at*
  refine ⟨_,_,up0 (rbyM_den ps fs (by rw[hE];exact hel) h3 h1 h2 _ K.x), ?_⟩
  rw [hE]
  conv =>whnf
  refine kgo ?_;(repeat(first|intro(X:Nat)|intro(z:St)|intro(av:V)|intro(tk:Option Nat)|(intro(K1:Kn _ _ _);(try clear K);rename Kn _ _ _=>K)));conv=>whnf
  refine ⟨_,_,b2s_b (bs:=E) rfl, ?_⟩
  conv =>whnf
  refine ⟨stays_one (b2s_b (bs:=E) rfl), ?_⟩
  conv =>whnf
  refine kgo ?_;(repeat(first|intro(X:Nat)|intro(z:St)|intro(av:V)|intro(tk:Option Nat)|(intro(K1:Kn _ _ _);(try clear K);rename Kn _ _ _=>K)));conv=>whnf
  refine ⟨_,_,b2s_b (bs:=E) rfl, ?_⟩
  conv =>whnf
  refine kgo ?_;(repeat(first|intro(X:Nat)|intro(z:St)|intro(av:V)|intro(tk:Option Nat)|(intro(K1:Kn _ _ _);(try clear K);rename Kn _ _ _=>K)));conv=>whnf
  rw [hee]
  conv =>whnf
  refine kgo ?_;(repeat(first|intro(X:Nat)|intro(z:St)|intro(av:V)|intro(tk:Option Nat)|(intro(K1:Kn _ _ _);(try clear K);rename Kn _ _ _=>K)));conv=>whnf
  refine ⟨_,_,up0 (mof_den E hel _ K.x), ?_⟩
  rw [hmr]
  conv =>whnf
  refine kgo ?_;(repeat(first|intro(X:Nat)|intro(z:St)|intro(av:V)|intro(tk:Option Nat)|(intro(K1:Kn _ _ _);(try clear K);rename Kn _ _ _=>K)));conv=>whnf
  refine ⟨_,_,read_den T hTl _ K.x r hr, ?_⟩
  rw [hr1,hr2,if_pos ⟨hm,hT⟩]
  conv =>whnf
  refine kgo ?_;(repeat(first|intro(X:Nat)|intro(z:St)|intro(av:V)|intro(tk:Option Nat)|(intro(K1:Kn _ _ _);(try clear K);rename Kn _ _ _=>K)));conv=>whnf
  have hss:=sameM ps fs h1 h2 h3
  refine ⟨_,_,pup0 hss _, ?_⟩
  conv =>whnf
  refine kgo ?_;(repeat(first|intro(X:Nat)|intro(z:St)|intro(av:V)|intro(tk:Option Nat)|(intro(K1:Kn _ _ _);(try clear K);rename Kn _ _ _=>K)));conv=>whnf
  refine ⟨_,_,pup0 hss _, ?_⟩
  conv =>whnf
  refine kgo ?_;(repeat(first|intro(X:Nat)|intro(z:St)|intro(av:V)|intro(tk:Option Nat)|(intro(K1:Kn _ _ _);(try clear K);rename Kn _ _ _=>K)));conv=>whnf
  refine ⟨_,_,pup0 mknown_pden _, ?_⟩
  conv =>whnf
  refine kgo ?_;(repeat(first|intro(X:Nat)|intro(z:St)|intro(av:V)|intro(tk:Option Nat)|(intro(K1:Kn _ _ _);(try clear K);rename Kn _ _ _=>K)));conv=>whnf
  exact K.fin ht hx (.b _) (.refl _)
end Go.Proofs.YtlhopiehnaabgaaGreatDoor
