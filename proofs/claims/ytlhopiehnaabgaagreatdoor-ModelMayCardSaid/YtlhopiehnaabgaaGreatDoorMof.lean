import Derived.Test.YtlhopiehnaabgaaGreatDoorLE
import Derived.Test.YtlhopiehnaabgaaGreatDoorIs
import Derived.Test.YtlhopiehnaabgaaGreatDoorMmay2
set_option linter.all false
namespace Go.Proofs.YtlhopiehnaabgaaGreatDoor
open Go Rf
set_option maxRecDepth 100000
set_option maxHeartbeats 400000
set_option maxHeartbeats 4000000
noncomputable def gf18m:{c:F // cF gt0 Tryz.prog (fun r o=> !(r==1&&o==2)) 18=some c}:=⟨_,by conv=>lhs;reduce;simp only[oi,ou,on1]⟩
noncomputable def f18m:F:=gf18m.1
theorem hF18m:cF gt0 Tryz.prog (fun r o=> !(r==1&&o==2)) 18=some f18m:=gf18m.2
def psR (bs:List UInt8):Nat→RS→List Pr×RS
 | 0,r=>([],r)
 | n+1,r=>((psR bs n r).1++[(prR bs (psR bs n r).2).1],(prR bs (psR bs n r).2).2)
def fsR (bs:List UInt8):Nat→RS→List Ev×RS
 | 0,r=>([],r)
 | n+1,r=>((fsR bs n r).1++[(fiR bs (n:Nat) (fsR bs n r).2).1],(fiR bs (n:Nat) (fsR bs n r).2).2)
theorem psR_le {bs:List UInt8}{r:RS}(h:r.1≤bs.length):∀n,(psR bs n r).2.1≤bs.length
 | 0=>h
 | n+1=>prR_le (psR_le h n)
theorem fsR_le {bs:List UInt8}{r:RS}(h:r.1≤bs.length):∀n,(fsR bs n r).2.1≤bs.length
 | 0=>h
 | n+1=>fiR_le (i:=((n:Nat):Int)) (fsR_le h n)
theorem psR_len {bs:List UInt8}{r:RS}:∀n,(psR bs n r).1.length=n
 | 0=>rfl
 | n+1=>by simp[psR,psR_len n]
theorem fsR_len {bs:List UInt8}{r:RS}:∀n,(fsR bs n r).1.length=n
 | 0=>rfl
 | n+1=>by simp[fsR,fsR_len n]
theorem prR_sh {bs:List UInt8}{r:RS}:(prR bs r).1.1.2.length≤255∧(∀k∈(prR bs r).1.1.2,k.length≤255)∧(prR bs r).1.2.1.length≤255:=by
 obtain ⟨a,k⟩:=r
 have h0:pr0.1.2.length≤255∧(∀k∈pr0.1.2,k.length≤255)∧pr0.2.1.length≤255:=⟨by decide,fun k hk=>by simp[pr0] at hk,by decide⟩
 cases k with
 | some k=>exact h0
 | none=>
  cases hof:ofB (bs.drop a) with
  | none=>simp only[prR,hof];exact h0
  | some x=>
   obtain ⟨v,ks,n⟩:=x
   obtain ⟨h1,h2,-,h4,h5⟩:=ofB_v hof
   simp only[prR,hof]
   exact ⟨h4,h5,by rw[vsR_len];omega⟩
theorem psR_sh {bs:List UInt8}{r:RS}:∀n,∀p∈(psR bs n r).1,p.1.2.length≤255∧(∀k∈p.1.2,k.length≤255)∧p.2.1.length≤255
 | 0,p,h=>by simp[psR] at h
 | n+1,p,h=>by
  rcases List.mem_append.1 h with h|h
  ·exact psR_sh n p h
  ·simp only[List.mem_singleton] at h;subst h;exact prR_sh
theorem nu1 (bs:List UInt8)(r:RS):∃c:Nat,c≤255∧(nuR bs 1 r).1=(c:Int):=by
 obtain ⟨a,k⟩:=r
 cases k with
 | some k=>exact⟨0,by omega,rfl⟩
 | none=>
  by_cases h:bs.length<a+1
  ·exact⟨0,by omega,by rw[nuR_short h];rfl⟩
  ·have hx:bs[a]? =some bs[a]:=List.getElem?_eq_getElem (by omega)
   generalize bs[a]=x at hx
   refine ⟨x.toNat, ?_, ?_⟩
   ·have:=x.toNat_lt;omega
   ·rw[nuR_ok (by omega)]
    exact drop_take1 hx
noncomputable def mofR (bs:List UInt8):Option (List Pr×List Ev):=
 let n:=nuR bs 1 (0,none)
 let p:=psR bs n.1.toNat n.2
 let m:=nuR bs 1 p.2
 let f:=fsR bs m.1.toNat m.2
 if f.2.2.isSome=true∨f.2.1<bs.length∨mayM p.1 f.1=false then none else some (p.1,f.1)
def mofV:Option (List Pr×List Ev)→V
 | none=> .tu [.ag [.ns, .ns], .i .i64 4]
 | some (p,f)=> .tu [mV p f, .i .i64 0]
theorem mofV_nm {L:Nat→Prop}(x:Option (List Pr×List Ev)):Nm L (mofV x):=by
 cases x with
 | none=>exact .tu _ (nm2 (.ag _ (nm2 .ns .ns)) (.i _ _))
 | some x=>exact .tu _ (nm2 (mV_nm _ _) (.i _ _))
def EO1 (bs:List UInt8)(Z R M cnt i:Nat):List V:=(bsV bs:: .bad:: .p Z 0:: .i .i64 0:: .p R 0:: .p M 0:: .bad:: .bad:: .bad:: .bad:: .bad:: .i .i64 (cnt:Nat):: .i .i64 (i:Nat)::List.replicate 45 .bad)
def EO2 (bs:List UInt8)(Z R M cnt i:Nat):List V:=(bsV bs:: .bad:: .p Z 0:: .i .i64 0:: .p R 0:: .p M 0:: .bad:: .bad:: .bad:: .bad:: .bad:: .bad:: .bad:: .bad:: .bad:: .bad:: .bad:: .bad:: .bad:: .bad:: .bad:: .bad:: .bad:: .i .i64 (cnt:Nat):: .i .i64 (i:Nat)::List.replicate 33 .bad)
theorem mof_den (bs:List UInt8)(hb:bs.length≤200000)(s:St)(hx:NoX s):Den gt0 Tryz.prog 18 [bsV bs] s (mofV (mofR bs)) s:=by
 have hlb:(bs.map bV).length=bs.length:=List.length_map ..
 generalize hB:mofV (mofR bs)=B
 have hBn:Nm s.L B:=by rw[←hB];exact mofV_nm _
 refine Den.tidy fun ht=>Den.hm gnm0 hF18m ?_
 have K:=Kn.init ht.1 hx
 conv =>whnf
 refine kgo ?_;(repeat(first|intro(X:Nat)|intro(z:St)|intro(av:V)|intro(tk:Option Nat)|(intro(K1:Kn _ _ _);(try clear K);rename Kn _ _ _=>K)));conv=>whnf
 rename_i Z _ R _
 revert X;intro M K
 have K:Kn s z [.ob true M (.c [.ns, .ns] 0 (some 25)), .ob true R (rdM bs (0,none)), .ob true Z (.c [.ns, .ns] 0 (some 25))]:=K
 have D:=mnum_den z K.x R bs hb (0,none) 1 (by omega) (Nat.zero_le _) (K.get (.there .here))
 obtain ⟨c1,hc1,e1⟩:=nu1 bs (0,none)
 rw [e1] at D
 have hr1l:(nuR bs 1 (0,none)).2.1≤bs.length:=nuR_le (Nat.zero_le _)
 generalize hr1:(nuR bs 1 (0,none)).2=r1 at*
 refine kc1 D fun z1 K1=> ?_
 clear K D;rename Kn _ _ _=>K
 conv =>whnf
 refine kgo ?_;(repeat(first|intro(X:Nat)|intro(z:St)|intro(av:V)|intro(tk:Option Nat)|(intro(K1:Kn _ _ _);(try clear K);rename Kn _ _ _=>K)));conv=>whnf
 refine HM.loop gnm0 fun hg=>⟨fun m e z'=>∃(j:Nat)(pv:V)(tk:Option Nat),j≤c1∧m=c1-j∧e=EO1 bs Z R M c1 j∧Kn s z' [.ac 4 pv ((psR bs j r1).1.map prV) tk, .ob true M (.c [pv, .ns] 0 (some 25)), .ob true R (rdM bs (psR bs j r1).2), .ob true Z (.c [.ns, .ns] 0 (some 25))],
  ⟨c1,fg [0,2,3,4,5,11,12] _,_,WkM.fg hg,0, .ns,none,Nat.zero_le _,rfl,rfl,K.acc0 4⟩, ?_⟩
 clear K
 rintro m e z2 ⟨j,pv,tk,hj,rfl,rfl,K⟩
 have hpl:=psR_len (bs:=bs) (r:=r1) j
 conv =>whnf
 refine kgo ?_;(repeat(first|intro(X:Nat)|intro(z:St)|intro(av:V)|intro(tk:Option Nat)|(intro(K1:Kn _ _ _);(try clear K);rename Kn _ _ _=>K)));conv=>whnf
 refine brL ⟨fun hlt=> ?_,fun hge=> ?_⟩<;>conv=>whnf
 ·refine kgo ?_;(repeat(first|intro(X:Nat)|intro(z:St)|intro(av:V)|intro(tk:Option Nat)|(intro(K1:Kn _ _ _);(try clear K);rename Kn _ _ _=>K)));conv=>whnf
  have h0:z2.get M=some (.c [pv, .ns] 0 (some 25)):=K.get (.there .here)
  have D:=mproc_den z2 K.x R bs hb (psR bs j r1).2 (psR_le hr1l j) (K.get (.there (.there .here)))
  refine kc1 D fun z1 K1=> ?_
  clear K D;rename Kn _ _ _=>K
  conv =>whnf
  refine kgo ?_;(repeat(first|intro(X:Nat)|intro(z:St)|intro(av:V)|intro(tk:Option Nat)|(intro(K1:Kn _ _ _);(try clear K);rename Kn _ _ _=>K)));conv=>whnf
  intro hg'
  refine ⟨c1-(j+1),fg [0,2,3,4,5,11,12] _,_,by omega,WkM.fg hg',j+1,av,tk,hlt,rfl,rfl,K.cast ?_⟩
  simp [psR]
  exact ⟨rfl,rfl⟩
 have hjc:j=c1:=by omega
 subst hjc
 refine kgo ?_;(repeat(first|intro(X:Nat)|intro(z:St)|intro(av:V)|intro(tk:Option Nat)|(intro(K1:Kn _ _ _);(try clear K);rename Kn _ _ _=>K)));conv=>whnf
 have hpsl:=psR_le hr1l j
 have D:=mnum_den z2 K.x R bs hb (psR bs j r1).2 1 (by omega) hpsl (K.get (.there (.there .here)))
 obtain ⟨c2,hc2,e2⟩:=nu1 bs (psR bs j r1).2
 rw [e2] at D
 have hr2l:(nuR bs 1 (psR bs j r1).2).2.1≤bs.length:=nuR_le hpsl
 generalize hr2:(nuR bs 1 (psR bs j r1).2).2=r2 at*
 refine kc1 D fun z1 K1=> ?_
 clear K D;rename Kn _ _ _=>K
 conv =>whnf
 refine kgo ?_;(repeat(first|intro(X:Nat)|intro(z:St)|intro(av:V)|intro(tk:Option Nat)|(intro(K1:Kn _ _ _);(try clear K);rename Kn _ _ _=>K)));conv=>whnf
 refine HM.loop gnm0 fun hg=>⟨fun m e z'=>∃(i:Nat)(fv:V)(tk2:Option Nat),i≤c2∧m=c2-i∧e=EO2 bs Z R M c2 i∧Kn s z' [.ac 6 fv ((fsR bs i r2).1.map evV) tk2, .ac 4 pv ((psR bs j r1).1.map prV) tk, .ob true M (.c [pv,fv] 0 (some 25)), .ob true R (rdM bs (fsR bs i r2).2), .ob true Z (.c [.ns, .ns] 0 (some 25))],
  ⟨c2,fg [0,2,3,4,5,23,24] _,_,WkM.fg hg,0, .ns,none,Nat.zero_le _,rfl,rfl,K.acc0 6⟩, ?_⟩
 clear K
 rintro m e z3 ⟨i,fv,tk2,hi,rfl,rfl,K⟩
 have hfl:=fsR_len (bs:=bs) (r:=r2) i
 conv =>whnf
 refine kgo ?_;(repeat(first|intro(X:Nat)|intro(z:St)|intro(av:V)|intro(tk:Option Nat)|(intro(K1:Kn _ _ _);(try clear K);rename Kn _ _ _=>K)));conv=>whnf
 refine brL ⟨fun hlt=> ?_,fun hge=> ?_⟩<;>conv=>whnf
 ·refine kgo ?_;(repeat(first|intro(X:Nat)|intro(z:St)|intro(av:V)|intro(tk:Option Nat)|(intro(K1:Kn _ _ _);(try clear K);rename Kn _ _ _=>K)));conv=>whnf
  have h0:z3.get M=some (.c [pv,fv] 0 (some 25)):=K.get (.there (.there .here))
  have D:=first_den z3 K.x R bs hb (fsR bs i r2).2 (i:Nat) (fsR_le hr2l i) (K.get (.there (.there (.there .here))))
  refine kc1 D fun z1 K1=> ?_
  clear K D;rename Kn _ _ _=>K
  conv =>whnf
  refine kgo ?_;(repeat(first|intro(X:Nat)|intro(z:St)|intro(av:V)|intro(tk:Option Nat)|(intro(K1:Kn _ _ _);(try clear K);rename Kn _ _ _=>K)));conv=>whnf
  intro hg'
  refine ⟨c2-(i+1),fg [0,2,3,4,5,23,24] _,_,by omega,WkM.fg hg',i+1,av,tk,hlt,rfl,rfl,K.cast ?_⟩
  simp [fsR]
  exact ⟨rfl,rfl⟩
 have hic:i=c2:=by omega
 subst hic
 have hmof:mofR bs=if (fsR bs i r2).2.2.isSome=true∨(fsR bs i r2).2.1<bs.length∨mayM (psR bs j r1).1 (fsR bs i r2).1=false then none else some ((psR bs j r1).1,(fsR bs i r2).1):=by
  unfold mofR
  simp only[e1,hr1,e2,hr2,Int.toNat_natCast]
 have hsh:ShM (psR bs j r1).1 (fsR bs i r2).1:=⟨by omega,by omega,fun q p hp=>by have h0:=psR_sh j p (List.mem_of_getElem? hp);exact⟨by omega,fun k hk=>by have:=h0.2.1 k hk;omega,by omega⟩⟩
 have hfsl:=fsR_le hr2l i
 refine kobw K (.there (.there .here)) (us:=[psV (psR bs j r1).1,fsV (fsR bs i r2).1]) (.cons (K.vw (.there .here)) (.cons (K.vw .here) .nil)) fun z4 K1=> ?_
 clear K;rename Kn _ _ _=>K
 generalize (fsR bs i r2).1=fs at*
 generalize (psR bs j r1).1=ps at*
 generalize (fsR bs i r2).2=rf at*
 obtain ⟨af,kf⟩:=rf
 cases kf with
 | some k=>
  refine kgo ?_;(repeat(first|intro(X:Nat)|intro(z:St)|intro(av:V)|intro(tk:Option Nat)|(intro(K1:Kn _ _ _);(try clear K);rename Kn _ _ _=>K)));conv=>whnf
  refine ⟨_,_,is_broken_den _ _, ?_⟩
  conv =>whnf
  refine kgo ?_;(repeat(first|intro(X:Nat)|intro(z:St)|intro(av:V)|intro(tk:Option Nat)|(intro(K1:Kn _ _ _);(try clear K);rename Kn _ _ _=>K)));conv=>whnf
  have hm:B= .tu [.ag [.ns, .ns], .i .i64 4]:=by rw[←hB,hmof];simp[mofV]
  subst hm
  exact K.ret [.ag [.ns, .ns], .i .i64 4] ht hx hBn (.refl _)
 | none=>
  refine kgo ?_;(repeat(first|intro(X:Nat)|intro(z:St)|intro(av:V)|intro(tk:Option Nat)|(intro(K1:Kn _ _ _);(try clear K);rename Kn _ _ _=>K)));conv=>whnf
  refine ⟨_,_,is_nil_den 4 _, ?_⟩
  conv =>whnf
  refine kgo ?_;(repeat(first|intro(X:Nat)|intro(z:St)|intro(av:V)|intro(tk:Option Nat)|(intro(K1:Kn _ _ _);(try clear K);rename Kn _ _ _=>K)));conv=>whnf
  rw [hlb,show((af,(none:Option Nat)):RS).fst=af from rfl]
  have hno:mofR bs=none→B= .tu [.ag [.ns, .ns], .i .i64 4]:=fun h=>by rw[←hB,h];rfl
  cases h1:ltZ (af:Nat) (bs.length:Nat)<;>conv=>whnf
  rotate_left
  ·refine kgo ?_;(repeat(first|intro(X:Nat)|intro(z:St)|intro(av:V)|intro(tk:Option Nat)|(intro(K1:Kn _ _ _);(try clear K);rename Kn _ _ _=>K)));conv=>whnf
   have hm:=hno (by rw[ltZ_eq] at h1;simp only[decide_eq_true_eq] at h1;rw[hmof,if_pos (.inr (.inl (by show af<_;omega)))])
   subst hm
   exact K.ret [.ag [.ns, .ns], .i .i64 4] ht hx hBn (.refl _)
  rw [K.get (X:=M) (.there (.there .here))]
  conv =>whnf
  refine kgo ?_;(repeat(first|intro(X:Nat)|intro(z:St)|intro(av:V)|intro(tk:Option Nat)|(intro(K1:Kn _ _ _);(try clear K);rename Kn _ _ _=>K)));conv=>whnf
  refine ⟨_,_,mmayM_den ps fs hsh _ K.x, ?_⟩
  cases hmy:mayM ps fs<;>conv=>whnf
  ·refine kgo ?_;(repeat(first|intro(X:Nat)|intro(z:St)|intro(av:V)|intro(tk:Option Nat)|(intro(K1:Kn _ _ _);(try clear K);rename Kn _ _ _=>K)));conv=>whnf
   have hm:=hno (by rw[hmof,if_pos (.inr (.inr hmy))])
   subst hm
   exact K.ret [.ag [.ns, .ns], .i .i64 4] ht hx hBn (.refl _)
  ·refine kgo ?_;(repeat(first|intro(X:Nat)|intro(z:St)|intro(av:V)|intro(tk:Option Nat)|(intro(K1:Kn _ _ _);(try clear K);rename Kn _ _ _=>K)));conv=>whnf
   have hm:B= .tu [mV ps fs, .i .i64 0]:=by
    rw [ltZ_eq] at h1;simp only[decide_eq_false_iff_not] at h1
    rw [←hB,hmof,if_neg (by simp[hmy];omega)];rfl
   subst hm
   exact K.ret [mV ps fs, .i .i64 0] ht hx hBn (.refl _)
end Go.Proofs.YtlhopiehnaabgaaGreatDoor
