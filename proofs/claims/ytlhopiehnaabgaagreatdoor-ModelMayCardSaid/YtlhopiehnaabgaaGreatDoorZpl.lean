import Derived.Test.YtlhopiehnaabgaaGreatDoorTpl
import Derived.Test.YtlhopiehnaabgaaGreatDoorCby
import Derived.Test.YtlhopiehnaabgaaGreatDoorOfB
import Derived.Test.YtlhopiehnaabgaaGreatDoorCodeY
import Derived.Test.YtlhopiehnaabgaaGreatDoorMtx
set_option linter.all false
namespace Go.Proofs.YtlhopiehnaabgaaGreatDoor
open Go Rf
set_option maxRecDepth 100000
set_option maxHeartbeats 4000000
theorem b8 {m:Nat}:(UInt8.ofNat m).toNat=m % 256:=UInt8.toNat_ofNat'
theorem be8_inj {m n:Nat}(hm:m<18446744073709551616)(hn:n<18446744073709551616)(h:be8 m=be8 n):m=n:=by
 unfold be8 at h
 simp only[List.cons.injEq,and_true] at h
 obtain ⟨h0,h1,h2,h3,h4,h5,h6,h7⟩:=h
 replace h0:=congrArg UInt8.toNat h0
 replace h1:=congrArg UInt8.toNat h1
 replace h2:=congrArg UInt8.toNat h2
 replace h3:=congrArg UInt8.toNat h3
 replace h4:=congrArg UInt8.toNat h4
 replace h5:=congrArg UInt8.toNat h5
 replace h6:=congrArg UInt8.toNat h6
 replace h7:=congrArg UInt8.toNat h7
 rw [b8,b8] at h0 h1 h2 h3 h4 h5 h6 h7
 have e6:m/256 % 256=n/256 % 256:=h6
 have g1:m % 65536=n % 65536:=by omega
 have g2:m % 16777216=n % 16777216:=by omega
 have g3:m % 4294967296=n % 4294967296:=by omega
 have g4:m % 1099511627776=n % 1099511627776:=by omega
 have g5:m % 281474976710656=n % 281474976710656:=by omega
 have g6:m % 72057594037927936=n % 72057594037927936:=by omega
 omega
theorem numb_enc8 {x:Int}(h:i64 x):numb (enc8 x)=x:=by
 obtain ⟨h0,h1⟩:=h
 have e:=be8_numU (enc8_len x)
 have hl:=numU_lt (enc8 x)
 have e1:numU (enc8 x)=(x % 18446744073709551616).toNat:=be8_inj hl (by omega) e
 rw [numb_eq,e1,wI]
 omega
theorem wd_rng (o:Int):wd o≠ []→1≤o∧o≤17:=by
 refine op_split (p:=fun o=>wd o≠ []→1≤o∧o≤17) (fun n h=>(h rfl).elim) (fun n h=>(h rfl).elim) (fun h=>(h rfl).elim)
  ?_ ?_ ?_ ?_ ?_ ?_ ?_ ?_ ?_ ?_ ?_ ?_ ?_ ?_ ?_ ?_ ?_ o<;>
 exact fun _=>⟨by decide,by decide⟩
theorem u8_of {n:Int}(h0:0≤n)(h1:n<256):(((u8 n).toNat:Nat):Int)=n:=by
 rw [u8,b8];omega
theorem get_mid {pre post:List UInt8}{b:UInt8}:(pre++(b::post))[pre.length]? =some b:=by simp
theorem insP_at {pre post:List UInt8}{x:Int×Int}(hx:InsOk x):insP (pre++(encI x++post)) pre.length=some (x,pre.length+(encI x).length):=by
 obtain ⟨h1,h2,h3⟩:=hx
 have hr:=wd_rng x.1 h1
 have hu:=u8_of (n:=x.1) (by omega) (by omega)
 obtain ⟨o,n⟩:=x
 simp only at*
 cases hn:nb o
 ·have he:encI (o,n)=[u8 o]:=by unfold encI;rw[if_neg (by simp[hn])]
  rw [he,insP,List.singleton_append,get_mid]
  simp only[hu]
  rw [if_neg (by simp[hn]),h3 hn];rfl
 ·have he:encI (o,n)=u8 o::enc8 n:=by unfold encI;rw[if_pos hn];rfl
  have hl:=enc8_len n
  rw [he,insP,List.cons_append,get_mid]
  simp only[hu]
  rw [if_pos hn,if_pos (by simp only[List.length_append,List.length_cons,hl];omega)]
  rw [show pre++u8 o::(enc8 n++post)=(pre++[u8 o])++(enc8 n++post) by simp,List.drop_left' (by simp),List.take_left' hl,numb_enc8 h2]
  simp only[List.length_cons,hl]
theorem kdI_at {pre post:List UInt8}{k:Kd}(hk:∀x∈k,InsOk x):∀n:Nat,n≤k.length→kdI (pre++(k.flatMap encI++post)) pre.length n=some (k.take n,pre.length+((k.take n).flatMap encI).length)
 | 0,_=>by simp[kdI]
 | n+1,h=>by
  have hg:k[n]? =some k[n]:=List.getElem?_eq_getElem h
  have hm:=hk k[n] (List.getElem_mem ..)
  have hsp:k=k.take n++k[n]::k.drop (n+1):=by rw[List.getElem_cons_drop,List.take_append_drop]
  generalize k[n]=x at hg hm hsp
  have e:pre++(k.flatMap encI++post)=(pre++(k.take n).flatMap encI)++(encI x++((k.drop (n+1)).flatMap encI++post)):=by
   conv =>lhs;rw[hsp]
   simp
  rw [kdI,kdI_at hk n (by omega)]
  simp only
  rw [show pre.length+((k.take n).flatMap encI).length=(pre++(k.take n).flatMap encI).length by simp,e,insP_at hm]
  simp only
  rw [List.take_add_one,hg]
  simp
  omega
theorem kindP_at {pre post:List UInt8}{k:Kd}(hk:∀x∈k,InsOk x)(hl:k.length≤128):kindP (pre++(encK k++post)) pre.length=some (k,pre.length+(encK k).length):=by
 have hu:(u8 (k.length:Nat)).toNat=k.length:=by rw[u8,b8];omega
 rw [kindP,encK,List.cons_append,get_mid]
 simp only[hu]
 have :=kdI_at (pre:=pre++[u8 (k.length:Nat)]) (post:=post) hk k.length (Nat.le_refl _)
 rw [List.take_length] at this
 rw [show pre++u8 (k.length:Nat)::(k.flatMap encI++post)=(pre++[u8 (k.length:Nat)])++(k.flatMap encI++post) by simp,show pre.length+1=(pre++[u8 (k.length:Nat)]).length by simp,this]
 simp
 omega
theorem ksI_at {a b:UInt8}{post:List UInt8}{ks:List Kd}(hk:KsOk ks)(hl:∀k∈ks,k.length≤128):∀n:Nat,n≤ks.length→ksI ([a,b]++(ks.flatMap encK++post)) n=some (ks.take n,2+((ks.take n).flatMap encK).length)
 | 0,_=>by simp[ksI]
 | n+1,h=>by
  have hg:ks[n]? =some ks[n]:=List.getElem?_eq_getElem h
  have hm:=hk ks[n] (List.getElem_mem ..)
  have hm2:=hl ks[n] (List.getElem_mem ..)
  have hsp:ks=ks.take n++ks[n]::ks.drop (n+1):=by rw[List.getElem_cons_drop,List.take_append_drop]
  generalize ks[n]=x at hg hm hm2 hsp
  have e:[a,b]++(ks.flatMap encK++post)=([a,b]++(ks.take n).flatMap encK)++(encK x++((ks.drop (n+1)).flatMap encK++post)):=by
   conv =>lhs;rw[hsp]
   simp
  rw [ksI,ksI_at hk hl n (by omega)]
  simp only
  rw [show 2+((ks.take n).flatMap encK).length=([a,b]++(ks.take n).flatMap encK).length by simp;omega,e,kindP_at hm hm2]
  simp only
  rw [List.take_add_one,hg]
  simp
  omega
theorem ofB_at {v:Int}{ks:List Kd}(post:List UInt8)(hm:mayP v ks=true)(hi:∀k∈ks,∀x∈k,i64 x.2):ofB (encP v ks++post)=some (v,ks,(encP v ks).length):=by
 obtain ⟨h8,h128⟩:=mayP_len hm
 have hv:0≤v∧v≤8:=by
  unfold mayP at hm
  simp only[Bool.and_eq_true,Bool.not_eq_true',Bool.or_eq_false_iff,decide_eq_false_iff_not] at hm
  omega
 have hu:=u8_of (n:=v) hv.1 (by omega)
 have hl:(u8 (ks.length:Nat)).toNat=ks.length:=by rw[u8,b8];omega
 have :=ksI_at (a:=u8 v) (b:=u8 (ks.length:Nat)) (post:=post) (ksOk_of hm hi) h128 ks.length (Nat.le_refl _)
 rw [List.take_length] at this
 have e:encP v ks++post=[u8 v,u8 (ks.length:Nat)]++(ks.flatMap encK++post):=by simp[encP]
 have e2:progP (encP v ks++post)=some (v,ks,(encP v ks).length):=by
  rw [e,progP]
  simp only[List.cons_append,List.nil_append,List.getElem?_cons_zero,List.getElem?_cons_succ,hl]
  simp only[List.cons_append,List.nil_append] at this
  rw [this]
  simp only[hu,encP,List.length_cons]
  congr 2
  congr 1
  omega
 rw [ofB,e2]
 simp only
 rw [if_pos hm]
end Go.Proofs.YtlhopiehnaabgaaGreatDoor
set_option linter.all false
namespace Go.Proofs.YtlhopiehnaabgaaGreatDoor
open Go Rf
set_option maxRecDepth 100000
set_option maxHeartbeats 400000
theorem takeL_at {n:Int}(h:i64 n)(r:List UInt8):takeL (enc8 n++r)=some (n,r):=by
 unfold takeL
 rw [if_neg (by rw[List.length_append,enc8_len];omega),List.take_left' (enc8_len n),List.drop_left' (enc8_len n),numb_enc8 h]
theorem rvsL_at {xs:List Int}(h:∀x∈xs,i64 x)(r:List UInt8):∀n,n≤xs.length→rvsL n (xs.flatMap enc8++r)=(xs.take n,some ((xs.drop n).flatMap enc8++r))
 | 0,_=>by simp[rvsL]
 | n+1,hn=>by
  have hg:xs[n]? =some xs[n]:=List.getElem?_eq_getElem (by omega)
  have hd:xs.drop n=xs[n]::xs.drop (n+1):=(List.getElem_cons_drop ..).symm
  have hm:=h xs[n] (List.getElem_mem _)
  simp only[rvsL,rvsL_at h r n (by omega),hd,List.flatMap_cons,List.append_assoc,takeL_at hm]
  rw [List.take_add_one,hg];rfl
theorem rprL_at {p:Pr}(hm:prOk p=true)(hi:i64 p.1.1∧(∀k∈p.1.2,∀x∈k,i64 x.2)∧(∀n∈p.2.1,i64 n)∧i64 p.2.2)(r:List UInt8):rprL (encPr p++r)=(p,some r):=by
 obtain ⟨⟨v,ks⟩,vs,sd⟩:=p
 obtain ⟨h1,h2,h3⟩:=prOk_of hm
 simp only at*
 have hof:ofB (encPr ((v,ks),vs,sd)++r)=some (v,ks,(encP v ks).length):=by
  rw [encPr,List.append_assoc];exact ofB_at _ h1 hi.2.1
 have hv:v.toNat=vs.length:=by omega
 have hd:(encPr ((v,ks),vs,sd)++r).drop (encP v ks).length=vs.flatMap enc8++(enc8 sd++r):=by
  rw [encPr,List.append_assoc,List.drop_left' rfl,List.append_assoc]
 have hr:=rvsL_at hi.2.2.1 (enc8 sd++r) vs.length (Nat.le_refl _)
 rw [List.take_length,List.drop_length,List.flatMap_nil,List.nil_append] at hr
 simp only[rprL,hof,hd,hv,hr,takeL_at hi.2.2.2]
theorem rpsL_at {ps:List Pr}(h:∀p∈ps,prOk p=true∧(i64 p.1.1∧(∀k∈p.1.2,∀x∈k,i64 x.2)∧(∀n∈p.2.1,i64 n)∧i64 p.2.2))(r:List UInt8):∀n,n≤ps.length→rpsL n (ps.flatMap encPr++r)=some (ps.take n,(ps.drop n).flatMap encPr++r)
 | 0,_=>by simp[rpsL]
 | n+1,hn=>by
  have hg:ps[n]? =some ps[n]:=List.getElem?_eq_getElem (by omega)
  have hd:ps.drop n=ps[n]::ps.drop (n+1):=(List.getElem_cons_drop ..).symm
  have hm:=h ps[n] (List.getElem_mem _)
  simp only[rpsL,rpsL_at h r n (by omega),hd,List.flatMap_cons,List.append_assoc,rprL_at hm.1 hm.2]
  rw [List.take_add_one,hg];rfl
theorem encEv_len' (e:Ev):(encEv e).length=18:=by simp[encEv,enc8_len]
theorem evs_len:∀(l:List Ev),(l.flatMap encEv).length=18* l.length
 | []=>rfl
 | e::l=>by rw[List.flatMap_cons,List.length_append,encEv_len',evs_len l,List.length_cons];omega
theorem evE_at {fs:List Ev}{i:Nat}{e:Ev}(y:UInt8)(h:fs[i]? =some e):evE (y::fs.flatMap encEv) i=encEv e:=by
 have hi:=(List.getElem?_eq_some_iff.1 h).1
 have hsp:fs=fs.take i++e::fs.drop (i+1):=by
  have :=(List.getElem?_eq_some_iff.1 h).2
  rw [←this,List.getElem_cons_drop,List.take_append_drop]
 have hl:((fs.take i).flatMap encEv).length=18* i:=by rw[evs_len,List.length_take];omega
 have e1:fs.flatMap encEv=(fs.take i).flatMap encEv++(encEv e++(fs.drop (i+1)).flatMap encEv):=by
  conv =>lhs;rw[hsp]
  simp
 unfold evE
 rw [e1,List.drop_take,show 19+18* i-(1+18* i)=18 by omega,show 1+18* i=18* i+1 by omega,List.drop_succ_cons,List.drop_left' hl,List.take_left' (encEv_len' e)]
theorem evA_at {fs:List Ev}{i n:Nat}{e:Ev}(y:UInt8)(h:fs[i]? =some e)(hn:n≤16)(ho:evOk n i e=true)(hi:i64 e.1∧i64 e.2.2.2.1∧i64 e.2.2.2.2.1∧i64 e.2.2.2.2.2):evA (y::fs.flatMap encEv) i=e:=by
 obtain ⟨t,o,s,to,k,d⟩:=e
 unfold evA
 rw [evE_at y h]
 simp only[evOk,mayE,wi,Bool.and_eq_true,eqZ_eq,decide_eq_true_eq,beq_iff_eq] at ho
 have h8:(encEv (t,o,s,to,k,d)).getD 8 0=u8 to:=rfl
 have h9:(encEv (t,o,s,to,k,d)).getD 9 0=u8 k:=rfl
 have ht:(encEv (t,o,s,to,k,d)).take 8=enc8 t:=rfl
 have hd:(encEv (t,o,s,to,k,d)).drop 10=enc8 d:=rfl
 rw [h8,h9,ht,hd,u8_of (by omega) (by omega),u8_of (by omega) (by omega),numb_enc8 hi.1,numb_enc8 hi.2.2.2]
 simp only[Prod.mk.injEq,true_and,and_true]
 omega
theorem mofR_enc {ps:List Pr}{fs:List Ev}(hm:MayM ps fs)(hi:I64M ps fs):mofR (encM ps fs)=some (ps,fs):=by
 have hb:=hm.b
 have hc:=hm.c
 have hr:=rpsL_at (ps:=ps) (fun p hp=>by
  obtain ⟨q,hq⟩:=List.mem_iff_getElem?.1 hp
  exact ⟨hm.p q p hq,hi.p p hp⟩) (u8 (fs.length:Nat)::fs.flatMap encEv) ps.length (Nat.le_refl _)
 rw [List.take_length,List.drop_length,List.flatMap_nil,List.nil_append] at hr
 have u1:(u8 (ps.length:Nat)).toNat=ps.length:=by rw[u8,b8];omega
 have u2:(u8 (fs.length:Nat)).toNat=fs.length:=by rw[u8,b8];omega
 have he:(List.range fs.length).map (evA (u8 (fs.length:Nat)::fs.flatMap encEv))=fs:=by
  apply List.ext_getElem?
  intro i
  rw [List.getElem?_map]
  by_cases h:i<fs.length
  ·have hg:fs[i]? =some fs[i]:=List.getElem?_eq_getElem h
   rw [List.getElem?_range h,hg,Option.map_some]
   exact congrArg some (evA_at _ hg hb (hm.e i _ hg) (hi.e _ (List.getElem_mem _)))
  ·rw[List.getElem?_eq_none (by simp;omega),List.getElem?_eq_none (by omega)];rfl
 rw [mof_eq,encM,rofM,u1,hr]
 simp only[u2]
 rw [if_pos (evs_len fs),he,if_pos (mayM_t hm)]
end Go.Proofs.YtlhopiehnaabgaaGreatDoor
