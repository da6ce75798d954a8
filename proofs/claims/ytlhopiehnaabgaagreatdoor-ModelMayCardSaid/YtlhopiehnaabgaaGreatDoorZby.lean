import Derived.Test.YtlhopiehnaabgaaGreatDoorZcl
import Derived.Test.YtlhopiehnaabgaaGreatDoorMmay2
import Derived.Test.YtlhopiehnaabgaaGreatDoorMtx
set_option linter.all false
namespace Go.Proofs.YtlhopiehnaabgaaGreatDoor
open Go Rf
set_option maxRecDepth 100000
set_option maxHeartbeats 4000000
theorem encPr_le {p:Pr}(h:prOk p=true):(encPr p).length≤9310:=by
 obtain ⟨h1,h2,-⟩:=prOk_of h
 obtain ⟨h8,h128⟩:=mayP_few h1
 have h3:=flat_le (f:=encK) (c:=1153) p.1.2 (fun y hy=>by
  have h3:=h128 y hy
  have h4:=flat_le (f:=encI) (c:=9) y (fun w _=>encI_le w)
  simp only[encK,List.length_cons];omega)
 have h4:=flat_le (f:=enc8) (c:=8) p.2.1 (fun y _=>Nat.le_of_eq (enc8_len y))
 simp only[encPr,encP,List.length_append,List.length_cons,enc8_len]
 omega
def EY1 (ps:List Pr)(fs:List Ev)(ov:V)(i:Nat):List V:=(.bad:: .q (mV ps fs) 0:: .bad:: .bad::ov:: .bad:: .bad:: .bad:: .bad:: .bad:: .bad:: .bad:: .bad:: .bad:: .bad:: .bad:: .bad:: .bad:: .bad:: .bad:: .bad:: .bad::psV ps:: .i .i64 (ps.length:Nat):: .i .i64 (i:Nat)::List.replicate 59 .bad)
def EY2 (ps:List Pr)(fs:List Ev)(ov:V)(i:Nat)(wv:V)(n j:Nat):List V:=(.bad:: .q (mV ps fs) 0:: .bad:: .bad::ov:: .bad:: .bad:: .bad:: .bad:: .bad:: .bad:: .bad:: .bad:: .bad:: .bad:: .bad:: .bad:: .bad:: .bad:: .bad:: .bad:: .bad::psV ps:: .i .i64 (ps.length:Nat):: .i .i64 (i:Nat):: .bad:: .bad:: .bad:: .bad:: .bad:: .bad:: .bad:: .bad:: .bad:: .bad:: .bad:: .bad:: .bad:: .bad:: .bad:: .bad:: .bad:: .bad::wv:: .i .i64 (n:Nat):: .i .i64 (j:Nat)::List.replicate 38 .bad)
def zA:C→C
 | .seq a _=>a
 | c=>c
def zB:C→C
 | .seq _ b=>b
 | c=>c
def zI:C→C
 | .blk _ a=>a
 | .loop a=>a
 | c=>c
noncomputable def c11l:C:=zI (zI (zB (zA (zB (zB (zB f11.body))))))
noncomputable def c11k:C:=zI (zB (zB (zB (zB (zI (zA (zB (zB c11l))))))))
theorem by_in {s z:St}{Q:XM→List V→St→Prop}(ps:List Pr)(fs:List Ev)(i:Nat)(ov wv:V)(ys:List UInt8)(ws:List Int)(tk tw:Option Nat)(hyl:ys.length≤210000)(hyn:ys≠ [])(hwl:ws.length≤9)
  {W:List V} (K:Kn s z [.ac 1 wv W tw, .ac 1 ov (ys.map bV) tk]) (hW:W=ws.map iV) (hQ:∀e z' ov' tk',fg [1,4,22,23,24] e=EY1 ps fs ov' i→Kn s z' [.ac 1 ov' ((ys++ws.flatMap enc8).map bV) tk']→Q (.exit 2) e z'):HM gt0 Tryz.prog s c11k (EY2 ps fs ov i wv W.length 0) z Q:=by
 subst hW
 rw [List.length_map]
 conv =>whnf
 refine kgo ?_;(repeat(first|intro(X:Nat)|intro(z:St)|intro(av:V)|intro(tk:Option Nat)|(intro(K1:Kn _ _ _);(try clear K);rename Kn _ _ _=>K)));conv=>whnf
 refine HM.loop gnm0 fun hg=>⟨fun m e z'=>∃(j:Nat)(ov:V)(tk:Option Nat),j≤ws.length∧m=ws.length-j∧e=EY2 ps fs ov i wv ws.length j∧Kn s z' [.ac 1 wv (ws.map iV) tw, .ac 1 ov ((ys++(ws.take j).flatMap enc8).map bV) tk],
  ⟨ws.length,fg [1,4,22,23,24,43,44,45] _,_,WkM.fg hg,0,_,tk,Nat.zero_le _,rfl,rfl,K.cast (by simp)⟩, ?_⟩
 clear K
 rintro m e z1 ⟨j,ov,tk,hj,rfl,rfl,K⟩
 have hz:=flat_le (f:=enc8) (c:=8) (ws.take j) (fun w _=>Nat.le_of_eq (enc8_len w))
 have hz2:(ws.take j).length≤9:=by rw[List.length_take];omega
 have hstep:∀x,ws[j]? =some x→ys++(ws.take (j+1)).flatMap enc8=(ys++(ws.take j).flatMap enc8)++enc8 x:=fun x h=>by rw[take_snoc_flat h];simp
 have hend:ws.length≤j→ys++(ws.take j).flatMap enc8=ys++ws.flatMap enc8:=fun h=>by rw[List.take_of_length_le h]
 have hzn:ys++(ws.take j).flatMap enc8≠ []:=by simp[hyn]
 have hzl:(ys++(ws.take j).flatMap enc8).length≤300000:=by rw[List.length_append];omega
 generalize ys++(ws.take j).flatMap enc8=zs at*
 conv =>whnf
 refine kgo ?_;(repeat(first|intro(X:Nat)|intro(z:St)|intro(av:V)|intro(tk:Option Nat)|(intro(K1:Kn _ _ _);(try clear K);rename Kn _ _ _=>K)));conv=>whnf
 refine brL ⟨fun hlt=> ?_,fun hge=> ?_⟩<;>conv=>whnf
 ·have hwj:ws[j]? =some ws[j]:=List.getElem?_eq_getElem hlt
  generalize ws[j]=x at hwj
  refine kgo ?_;(repeat(first|intro(X:Nat)|intro(z:St)|intro(av:V)|intro(tk:Option Nat)|(intro(K1:Kn _ _ _);(try clear K);rename Kn _ _ _=>K)));conv=>whnf
  obtain ⟨c,z',tk',hd,K1⟩:=put_kn K (.there .here) x 8 (by omega) hzn (by omega)
  clear K;rename Kn _ _ _=>K
  rw [pB8,←hstep x hwj] at hd K
  refine ⟨_,_,hd, ?_⟩
  conv =>whnf
  refine kgo ?_;(repeat(first|intro(X:Nat)|intro(z:St)|intro(av:V)|intro(tk:Option Nat)|(intro(K1:Kn _ _ _);(try clear K);rename Kn _ _ _=>K)));conv=>whnf
  intro hg'
  exact ⟨ws.length-(j+1),fg [1,4,22,23,24,43,44,45] _,_,by omega,WkM.fg hg',j+1,_,tk',hlt,rfl,rfl,K⟩
 ·rw[hend hge] at K
  refine kgo ?_;(repeat(first|intro(X:Nat)|intro(z:St)|intro(av:V)|intro(tk:Option Nat)|(intro(K1:Kn _ _ _);(try clear K);rename Kn _ _ _=>K)));conv=>whnf
  exact hQ _ _ _ _ rfl (K.drop0 rfl)
def EY9 (ps:List Pr)(fs:List Ev)(ov:V)(i:Nat):List V:=(.bad:: .q (mV ps fs) 0:: .bad:: .bad::ov:: .bad:: .bad:: .bad:: .bad:: .bad:: .bad:: .bad:: .bad:: .bad:: .bad:: .bad:: .bad:: .bad:: .bad:: .bad:: .bad:: .bad:: .bad:: .bad:: .bad:: .bad:: .bad:: .bad:: .bad:: .bad:: .bad:: .bad:: .bad:: .bad:: .bad:: .bad:: .bad:: .bad:: .bad:: .bad:: .bad:: .bad:: .bad:: .bad:: .bad:: .bad:: .bad:: .bad:: .bad:: .bad:: .bad:: .bad:: .bad:: .bad:: .bad:: .bad:: .bad:: .bad:: .bad:: .bad:: .bad:: .bad::fsV fs:: .i .i64 (fs.length:Nat):: .i .i64 (i:Nat)::List.replicate 19 .bad)
theorem encEv_len (e:Ev):(encEv e).length=18:=by simp[encEv,enc8_len]
theorem mbyt_den (ps:List Pr)(fs:List Ev)(hS:ShM ps fs)(s:St)(hx:NoX s):Den gt0 Tryz.prog 11 [mV ps fs] s (if mayM ps fs then .tu [bsV (encM ps fs), .i .i64 0] else .tu [bsV [], .i .i64 4]) s:=by
 have hlp:(ps.map prV).length=ps.length:=List.length_map ..
 have hlf:(fs.map evV).length=fs.length:=List.length_map ..
 refine Den.tidy fun ht=>Den.hm gnm0 hF11 ?_
 have K:=Kn.init ht.1 hx
 conv =>whnf
 refine kgo ?_;(repeat(first|intro(X:Nat)|intro(z:St)|intro(av:V)|intro(tk:Option Nat)|(intro(K1:Kn _ _ _);(try clear K);rename Kn _ _ _=>K)));conv=>whnf
 refine ⟨_,_,mmayM_den ps fs hS _ K.x, ?_⟩
 conv =>whnf
 refine kgo ?_;(repeat(first|intro(X:Nat)|intro(z:St)|intro(av:V)|intro(tk:Option Nat)|(intro(K1:Kn _ _ _);(try clear K);rename Kn _ _ _=>K)));conv=>whnf
 cases hm:mayM ps fs<;>conv=>whnf
 ·refine kgo ?_;(repeat(first|intro(X:Nat)|intro(z:St)|intro(av:V)|intro(tk:Option Nat)|(intro(K1:Kn _ _ _);(try clear K);rename Kn _ _ _=>K)));conv=>whnf
  rw [if_neg (by simp)]
  exact K.fin ht hx (.tu _ (nm2 (bsV_nm _) (.i _ _))) (.tu _ _ (.cons (.ns 1) (.cons (.refl _) .nil)))
 have hM:=mayM_iff.1 hm
 have hb16:=hM.b
 have hc64:=hM.c
 rw [if_pos rfl]
 refine kgo ?_;(repeat(first|intro(X:Nat)|intro(z:St)|intro(av:V)|intro(tk:Option Nat)|(intro(K1:Kn _ _ _);(try clear K);rename Kn _ _ _=>K)));conv=>whnf
 rw [hlp]
 refine HM.loop gnm0 fun hg=>⟨fun m e z'=>∃(i:Nat)(ov:V)(tk:Option Nat),i≤ps.length∧m=ps.length-i∧e=EY1 ps fs ov i∧Kn s z' [.ac 1 ov ((u8 (ps.length:Nat)::(ps.take i).flatMap encPr).map bV) tk],
  ⟨ps.length,fg [1,4,22,23,24] _,_,WkM.fg hg,0,_,none,Nat.zero_le _,rfl,rfl,(K.accx 1 [.i .u8 (wrapF .u8 (ps.length:Nat))]).cast (by simp[bV_u8])⟩, ?_⟩
 clear K
 rintro m e z1 ⟨i,ov,tk,hi,rfl,rfl,K⟩
 have hpl:=flat_le (f:=encPr) (c:=9310) (ps.take i) fun y hy=>by
  obtain ⟨q,hq⟩:=List.mem_iff_getElem?.1 (List.mem_of_mem_take hy)
  exact encPr_le (hM.p q y hq)
 have h2:(ps.take i).length≤16:=by rw[List.length_take];have:=hM.b;omega
 have hend:ps.length≤i→u8 (ps.length:Nat)::(ps.take i).flatMap encPr=u8 (ps.length:Nat)::ps.flatMap encPr:=fun h=>by rw[List.take_of_length_le h]
 have hstep:∀p,ps[i]? =some p→u8 (ps.length:Nat)::(ps.take (i+1)).flatMap encPr=(u8 (ps.length:Nat)::(ps.take i).flatMap encPr)++encPr p:=fun k h=>by
  rw [take_snoc_flat h];simp
 generalize hxs:u8 (ps.length:Nat)::(ps.take i).flatMap encPr=xs at*
 have hxl:xs.length≤200000:=by rw[←hxs];simp only[List.length_cons];omega
 have hxn:xs≠ []:=by rw[←hxs];simp
 clear hxs hpl
 conv =>whnf
 refine kgo ?_;(repeat(first|intro(X:Nat)|intro(z:St)|intro(av:V)|intro(tk:Option Nat)|(intro(K1:Kn _ _ _);(try clear K);rename Kn _ _ _=>K)));conv=>whnf
 refine brL ⟨fun hlt=> ?_,fun hge=> ?_⟩<;>conv=>whnf
 ·have hpi:ps[i]? =some ps[i]:=List.getElem?_eq_getElem hlt
  generalize ps[i]=p at hpi
  obtain ⟨hpo,hpv,-⟩:=prOk_of (hM.p i p hpi)
  obtain ⟨h8,h128⟩:=mayP_few hpo
  have hpe:=encPr_le (hM.p i p hpi)
  have hel:(encP p.1.1 p.1.2).length≤9310:=by simp only[encPr,List.length_append] at hpe;omega
  refine kgo ?_;(repeat(first|intro(X:Nat)|intro(z:St)|intro(av:V)|intro(tk:Option Nat)|(intro(K1:Kn _ _ _);(try clear K);rename Kn _ _ _=>K)));conv=>whnf
  refine ⟨_,_,cbyt_den p.1.1 p.1.2 (by omega) (fun k hk=>by have:=h128 k hk;omega) _ K.x, ?_⟩
  rw [if_pos hpo]
  conv =>whnf
  repeat ((first|refine qe ?_|refine q6 ?_|refine de ?_|refine d6 ?_|refine HM.seq ?_|refine mo ?_|refine HO.nil ?_|refine HD.nil ?_|refine q3 ?_|refine d3 ?_|(refine kapp (fun av z tk K1=> ?_);clear K;rename Kn _ _ _=>K)|refine kia ?_|refine k2p ?_|(refine ka (fun X z K1=> ?_);clear K;rename Kn _ _ _=>K)|(refine kst (fun z K1=> ?_);clear K;rename Kn _ _ _=>K)|refine kinc ?_|refine kbsl1 ?_|refine q9 ?_|refine q10 ?_|(refine kdapp (fun av z tk K1=> ?_);clear K;rename Kn _ _ _=>K)|(refine kdapp0 (fun av z tk K1=> ?_);clear K;rename Kn _ _ _=>K)|(refine kdappx (fun av z tk K1=> ?_);clear K;rename Kn _ _ _=>K)|refine kdbsl1 ?_|refine kd1 ?_|refine kdlen ?_|refine qk ?_|refine HM.blk ?_|refine HM.cond ?_|refine HM.skip ?_|refine HM.exit ?_|refine HM.ret ?_);conv=>whnf)
  replace K:Kn s z [.ob true X (.c [.i .i64 p.1.1,ksV p.1.2,vsV p.2.1, .i .i64 p.2.2] 0 (some 50)), .ac 1 av ((xs++encP p.1.1 p.1.2).map bV) tk]:=K.cast (by simp)
  have hstep':=hstep p hpi
  obtain ⟨⟨v,ks⟩,vs,sd⟩:=p
  simp only at hpo hpv h8 h128 hel K hstep'
  clear hstep hpe
  generalize hys:xs++encP v ks=ys at*
  have hyl:ys.length≤210000:=by rw[←hys,List.length_append];omega
  have hyn:ys≠ []:=by rw[←hys];simp[hxn]
  have hvl:vs.length≤8:=hpv
  cases vs with
  | nil=>
   refine HM.nz (A:=[.i .i64 v,ksV ks]) (B:=[.i .i64 sd]) (sz:=1) (K.get .here) ?_ ?_
   ·have K1:=K.put (o':= .c [.i .i64 v,ksV ks, .ns, .i .i64 sd] 0 (some 50)) .here rfl
    clear K;rename Kn _ _ _=>K
    simp only[List.cons_append,List.nil_append]
    generalize z.put X _=z2 at K ⊢
    have hX:=K.get (w:=true) (X:=X) .here
    refine kgo ?_;(repeat(first|intro(X:Nat)|intro(z:St)|intro(av:V)|intro(tk:Option Nat)|(intro(K1:Kn _ _ _);(try clear K);rename Kn _ _ _=>K)));conv=>whnf
    refine ⟨_,_,clone_ns _, ?_⟩
    conv =>whnf
    refine kgo ?_;(repeat(first|intro(X:Nat)|intro(z:St)|intro(av:V)|intro(tk:Option Nat)|(intro(K1:Kn _ _ _);(try clear K);rename Kn _ _ _=>K)));conv=>whnf
    refine HM.fgt gnm0 [1,4,22,23,24,43,44,45] fun _=> ?_
    refine by_in ps fs i _ _ ys ([]++[sd]) _ _ hyl hyn (by simp) (K.drop1 rfl) (by simp;rfl) ?_
    rintro e z' ov' tk' he K
    refine HM.fgt gnm0 [1,4,22,23,24] fun _=> ?_
    rw [he]
    conv =>whnf
    refine kgo ?_;(repeat(first|intro(X:Nat)|intro(z:St)|intro(av:V)|intro(tk:Option Nat)|(intro(K1:Kn _ _ _);(try clear K);rename Kn _ _ _=>K)));conv=>whnf
    intro hg'
    exact ⟨ps.length-(i+1),fg [1,4,22,23,24] _,_,by omega,WkM.fg hg',i+1,ov',tk',hlt,rfl,rfl,K.cast (by rw[hstep',encPr];simp[←hys])⟩
   ·have K1:=K.put (o':= .c [.i .i64 v,ksV ks, .pu 1 [] .z, .i .i64 sd] 0 (some 50)) .here rfl
    clear K;rename Kn _ _ _=>K
    simp only[List.cons_append,List.nil_append]
    generalize z.put X _=z2 at K ⊢
    have hX:=K.get (w:=true) (X:=X) .here
    refine kgo ?_;(repeat(first|intro(X:Nat)|intro(z:St)|intro(av:V)|intro(tk:Option Nat)|(intro(K1:Kn _ _ _);(try clear K);rename Kn _ _ _=>K)));conv=>whnf
    refine ⟨_,_,clone_z _, ?_⟩
    conv =>whnf
    refine kgo ?_;(repeat(first|intro(X:Nat)|intro(z:St)|intro(av:V)|intro(tk:Option Nat)|(intro(K1:Kn _ _ _);(try clear K);rename Kn _ _ _=>K)));conv=>whnf
    refine HM.fgt gnm0 [1,4,22,23,24,43,44,45] fun _=> ?_
    refine by_in ps fs i _ _ ys ([]++[sd]) _ _ hyl hyn (by simp) (K.drop1 rfl) (by simp;rfl) ?_
    rintro e z' ov' tk' he K
    refine HM.fgt gnm0 [1,4,22,23,24] fun _=> ?_
    rw [he]
    conv =>whnf
    refine kgo ?_;(repeat(first|intro(X:Nat)|intro(z:St)|intro(av:V)|intro(tk:Option Nat)|(intro(K1:Kn _ _ _);(try clear K);rename Kn _ _ _=>K)));conv=>whnf
    intro hg'
    exact ⟨ps.length-(i+1),fg [1,4,22,23,24] _,_,by omega,WkM.fg hg',i+1,ov',tk',hlt,rfl,rfl,K.cast (by rw[hstep',encPr];simp[←hys])⟩
  | cons v0 vr=>
   have hX:=K.get (w:=true) (X:=X) .here
   refine kgo ?_;(repeat(first|intro(X:Nat)|intro(z:St)|intro(av:V)|intro(tk:Option Nat)|(intro(K1:Kn _ _ _);(try clear K);rename Kn _ _ _=>K)));conv=>whnf
   have hvr:vr.length≤7:=by simp only[List.length_cons] at hvl;omega
   obtain ⟨c3,z3,tk3,hd3,K3⟩:=clone_kn K v0 vr (by simp only[List.length_cons] at hvl;omega)
   clear K;rename Kn _ _ _=>K
   refine ⟨_,_,hd3, ?_⟩
   conv =>whnf
   refine kgo ?_;(repeat(first|intro(X:Nat)|intro(z:St)|intro(av:V)|intro(tk:Option Nat)|(intro(K1:Kn _ _ _);(try clear K);rename Kn _ _ _=>K)));conv=>whnf
   refine HM.fgt gnm0 [1,4,22,23,24,43,44,45] fun _=> ?_
   refine by_in ps fs i _ _ ys ((v0::vr)++[sd]) _ _ hyl hyn (by simp;omega) (K.drop1 rfl) (by simp;rfl) ?_
   rintro e z' ov' tk' he K
   refine HM.fgt gnm0 [1,4,22,23,24] fun _=> ?_
   rw [he]
   conv =>whnf
   refine kgo ?_;(repeat(first|intro(X:Nat)|intro(z:St)|intro(av:V)|intro(tk:Option Nat)|(intro(K1:Kn _ _ _);(try clear K);rename Kn _ _ _=>K)));conv=>whnf
   intro hg'
   exact ⟨ps.length-(i+1),fg [1,4,22,23,24] _,_,by omega,WkM.fg hg',i+1,ov',tk',hlt,rfl,rfl,K.cast (by rw[hstep',encPr];simp[←hys])⟩
 ·rw[hend hge] at K
  have hxl2:(u8 (ps.length:Nat)::ps.flatMap encPr).length≤200000:=by rw[←hend hge];exact hxl
  clear hstep hend
  generalize hws:u8 (ps.length:Nat)::ps.flatMap encPr=ws at*
  have hwn:ws≠ []:=by rw[←hws];simp
  have hfin:encM ps fs=(ws++[u8 (fs.length:Nat)])++fs.flatMap encEv:=by rw[←hws];simp[encM]
  clear hws
  refine kgo ?_;(repeat(first|intro(X:Nat)|intro(z:St)|intro(av:V)|intro(tk:Option Nat)|(intro(K1:Kn _ _ _);(try clear K);rename Kn _ _ _=>K)));conv=>whnf
  rw [hlf] at K ⊢
  refine HM.loop gnm0 fun hg=>⟨fun m e z'=>∃(i:Nat)(ov:V)(tk:Option Nat),i≤fs.length∧m=fs.length-i∧e=EY9 ps fs ov i∧Kn s z' [.ac 1 ov (((ws++[u8 (fs.length:Nat)])++(fs.take i).flatMap encEv).map bV) tk],
   ⟨fs.length,fg [1,4,62,63,64] _,_,WkM.fg hg,0,_,tk,Nat.zero_le _,rfl,rfl,K.cast (by simp[bV_u8])⟩, ?_⟩
  clear K
  rintro m e z1 ⟨i,ov,tk,hi,rfl,rfl,K⟩
  have hz:=flat_le (f:=encEv) (c:=18) (fs.take i) (fun w _=>Nat.le_of_eq (encEv_len w))
  have hz2:(fs.take i).length≤64:=by rw[List.length_take];omega
  have hstep:∀x,fs[i]? =some x→(ws++[u8 (fs.length:Nat)])++(fs.take (i+1)).flatMap encEv=((ws++[u8 (fs.length:Nat)])++(fs.take i).flatMap encEv)++encEv x:=fun x h=>by rw[take_snoc_flat h];simp
  have hend:fs.length≤i→(ws++[u8 (fs.length:Nat)])++(fs.take i).flatMap encEv=encM ps fs:=fun h=>by rw[hfin,List.take_of_length_le h]
  have hzn:(ws++[u8 (fs.length:Nat)])++(fs.take i).flatMap encEv≠ []:=by simp[hwn]
  have hzl:((ws++[u8 (fs.length:Nat)])++(fs.take i).flatMap encEv).length≤300000:=by rw[List.length_append,List.length_append,List.length_singleton];omega
  generalize (ws++[u8 (fs.length:Nat)])++(fs.take i).flatMap encEv=zs at*
  conv =>whnf
  refine kgo ?_;(repeat(first|intro(X:Nat)|intro(z:St)|intro(av:V)|intro(tk:Option Nat)|(intro(K1:Kn _ _ _);(try clear K);rename Kn _ _ _=>K)));conv=>whnf
  refine brL ⟨fun hlt=> ?_,fun hge=> ?_⟩<;>conv=>whnf
  ·have hfi:fs[i]? =some fs[i]:=List.getElem?_eq_getElem hlt
   generalize fs[i]=x at hfi
   obtain ⟨et,eo,es,eto,ek,ed⟩:=x
   refine kgo ?_;(repeat(first|intro(X:Nat)|intro(z:St)|intro(av:V)|intro(tk:Option Nat)|(intro(K1:Kn _ _ _);(try clear K);rename Kn _ _ _=>K)));conv=>whnf
   have hX1:=K.get (w:=true) (X:=X) .here
   obtain ⟨c1,z1,tk1,hd1,K1⟩:=put_kn K (.there .here) et 8 (by omega) hzn (by omega)
   clear K;rename Kn _ _ _=>K
   rw [pB8] at hd1 K
   refine ⟨_,_,hd1, ?_⟩
   conv =>whnf
   refine kgo ?_;(repeat(first|intro(X:Nat)|intro(z:St)|intro(av:V)|intro(tk:Option Nat)|(intro(K1:Kn _ _ _);(try clear K);rename Kn _ _ _=>K)));conv=>whnf
   have hX2:=K.get (w:=true) (X:=X) .here
   obtain ⟨c2,z2,tk2,hd2,K2⟩:=put_kn K (.there .here) eto 1 (by omega) (by simp[hzn]) (by simp[enc8_len];omega)
   clear K;rename Kn _ _ _=>K
   rw [pB1] at hd2 K
   refine ⟨_,_,hd2, ?_⟩
   conv =>whnf
   refine kgo ?_;(repeat(first|intro(X:Nat)|intro(z:St)|intro(av:V)|intro(tk:Option Nat)|(intro(K1:Kn _ _ _);(try clear K);rename Kn _ _ _=>K)));conv=>whnf
   refine kd1x (v:= .i .i64 ek) (o:=4) ?_ K (by rfl) .here (by rfl) (by intro t ht;simp at ht;rcases ht with rfl|rfl;exact hX2;exact hX1)
   conv =>whnf
   refine kgo ?_;(repeat(first|intro(X:Nat)|intro(z:St)|intro(av:V)|intro(tk:Option Nat)|(intro(K1:Kn _ _ _);(try clear K);rename Kn _ _ _=>K)));conv=>whnf
   have hX3:=K.get (w:=true) (X:=X) .here
   obtain ⟨c3,z3,tk3,hd3,K3⟩:=put_kn K (.there .here) ek 1 (by omega) (by simp[hzn]) (by simp[enc8_len];omega)
   clear K;rename Kn _ _ _=>K
   rw [pB1] at hd3 K
   refine ⟨_,_,hd3, ?_⟩
   conv =>whnf
   refine kgo ?_;(repeat(first|intro(X:Nat)|intro(z:St)|intro(av:V)|intro(tk:Option Nat)|(intro(K1:Kn _ _ _);(try clear K);rename Kn _ _ _=>K)));conv=>whnf
   refine kd1x (v:= .i .i64 ed) (o:=5) ?_ K (by rfl) .here (by rfl) (by intro t ht;simp at ht;rcases ht with rfl|rfl|rfl;exact hX3;exact hX2;exact hX1)
   conv =>whnf
   refine kgo ?_;(repeat(first|intro(X:Nat)|intro(z:St)|intro(av:V)|intro(tk:Option Nat)|(intro(K1:Kn _ _ _);(try clear K);rename Kn _ _ _=>K)));conv=>whnf
   have hX4:=K.get (w:=true) (X:=X) .here
   obtain ⟨c4,z4,tk4,hd4,K4⟩:=put_kn K (.there .here) ed 8 (by omega) (by simp[hzn]) (by simp[enc8_len];omega)
   clear K;rename Kn _ _ _=>K
   rw [pB8] at hd4 K
   refine ⟨_,_,hd4, ?_⟩
   conv =>whnf
   refine kgo ?_;(repeat(first|intro(X:Nat)|intro(z:St)|intro(av:V)|intro(tk:Option Nat)|(intro(K1:Kn _ _ _);(try clear K);rename Kn _ _ _=>K)));conv=>whnf
   intro hg'
   exact ⟨fs.length-(i+1),fg [1,4,62,63,64] _,_,by omega,WkM.fg hg',i+1,_,tk4,hlt,rfl,rfl,(K.drop0 rfl).cast (by rw[hstep _ hfi];simp[encEv])⟩
  ·rw[hend hge] at K
   refine kgo ?_;(repeat(first|intro(X:Nat)|intro(z:St)|intro(av:V)|intro(tk:Option Nat)|(intro(K1:Kn _ _ _);(try clear K);rename Kn _ _ _=>K)));conv=>whnf
   exact K.fin ht hx (.tu _ (nm2 (bsV_nm _) (.i _ _))) (.tu _ _ (.cons (K.vw .here) (.cons (.refl _) .nil)))
end Go.Proofs.YtlhopiehnaabgaaGreatDoor
