import Derived.Test.YtlhopiehnaabgaaGreatDoorLE
import Derived.Test.YtlhopiehnaabgaaGreatDoorOrd
set_option linter.all false
namespace Go.Proofs.YtlhopiehnaabgaaGreatDoor
open Go Rf
set_option maxRecDepth 100000
set_option maxHeartbeats 4000000
def enc8 (n:Int):List UInt8:=be8 (n % 18446744073709551616).toNat
theorem enc8_len (n:Int):(enc8 n).length=8:=rfl
theorem high8 (n:Int):PDen gt0 Tryz.prog 42 [.i .u64 (wrapF .u64 n), .i .i64 8] (bsV (enc8 n)):=by
 have hhi:hiL (wrapF .u64 n)=(enc8 n).map bV:=by
  have e:wrapF .u64 n=(((n % 18446744073709551616).toNat:Nat):Int):=by rw[wU];omega
  rw [e,hiL_nat (by omega)];rfl
 have :=high_den (wrapF .u64 n)
 rwa [hhi] at this
def encPr (p:Pr):List UInt8:=encP p.1.1 p.1.2++(p.2.1.flatMap enc8++enc8 p.2.2)
def encEv (e:Ev):List UInt8:=enc8 e.1++([u8 e.2.2.2.1,u8 e.2.2.2.2.1]++enc8 e.2.2.2.2.2)
def encM (ps:List Pr)(fs:List Ev):List UInt8:=u8 (ps.length:Nat)::(ps.flatMap encPr++u8 (fs.length:Nat)::fs.flatMap encEv)
theorem flat_take_le {α β:Type}{f:α→List β}(l:List α)(j:Nat):((l.take j).flatMap f).length≤(l.flatMap f).length:=by
 have h:(l.flatMap f)=(l.take j).flatMap f++(l.drop j).flatMap f:=by rw[←List.flatMap_append,List.take_append_drop]
 rw [h,List.length_append];omega
theorem flat_get_le {α β:Type}{f:α→List β}{l:List α}{j:Nat}{a:α}(h:l[j]? =some a):((l.take j).flatMap f).length+(f a).length≤(l.flatMap f).length:=by
 have :=flat_take_le (f:=f) l (j+1)
 rw [take_snoc_flat h,List.length_append] at this
 exact this
def EB1 (ps:List Pr)(fs:List Ev)(ov:V)(j:Nat):List V:=(.bad:: .q (mV ps fs) 0:: .bad::ov:: .i .i64 (j:Nat)::List.replicate 89 .bad)
def EB2 (ps:List Pr)(fs:List Ev)(ov:V)(j P k:Nat):List V:=(.bad:: .q (mV ps fs) 0:: .bad::ov:: .i .i64 (j:Nat):: .p P 0:: .i .i64 (k:Nat)::List.replicate 87 .bad)
def EB3 (ps:List Pr)(fs:List Ev)(ov:V)(j:Nat):List V:=(.bad:: .q (mV ps fs) 0:: .bad::ov:: .bad:: .bad:: .bad:: .i .i64 (j:Nat)::List.replicate 86 .bad)
theorem rbyM_den (ps:List Pr)(fs:List Ev)(hE:(encM ps fs).length≤200000)(hp:∀p∈ps,p.1.2.length≤255∧(∀k∈p.1.2,k.length≤255)∧p.2.1.length≤255)(hpl:ps.length≤255)(hfl:fs.length≤255)(s:St)(hx:NoX s):Den gt0 Tryz.prog 17 [mV ps fs] s (bsV (encM ps fs)) s:=by
 have hlp:(ps.map prV).length=ps.length:=List.length_map ..
 have hlf:(fs.map evV).length=fs.length:=List.length_map ..
 have hLE:1+(ps.flatMap encPr).length+1+(fs.flatMap encEv).length≤200000:=by simp only[encM,List.length_cons,List.length_append] at hE;omega
 refine Den.tidy fun ht=>Den.hm gnm0 hF17 ?_
 have K:=Kn.init ht.1 hx
 conv =>whnf
 refine kgo ?_;(repeat(first|intro(X:Nat)|intro(z:St)|intro(av:V)|intro(tk:Option Nat)|(intro(K1:Kn _ _ _);(try clear K);rename Kn _ _ _=>K)));conv=>whnf
 rw [hlp]
 refine HM.loop gnm0 fun hg=>⟨fun m e z'=>∃(j:Nat)(ov:V)(tk:Option Nat),j≤ps.length∧m=ps.length-j∧e=EB1 ps fs ov j∧Kn s z' [.ac 1 ov ((u8 (ps.length:Nat)::(ps.take j).flatMap encPr).map bV) tk],
  ⟨ps.length,fg [1,3,4] _,_,WkM.fg hg,0,_,none,Nat.zero_le _,rfl,rfl,(K.accx 1 [.i .u8 (wrapF .u8 (ps.length:Nat))]).cast (by simp[bV_u8])⟩, ?_⟩
 clear K
 rintro m e z1 ⟨j,ov,tk,hj,rfl,rfl,K⟩
 conv =>whnf
 refine kgo ?_;(repeat(first|intro(X:Nat)|intro(z:St)|intro(av:V)|intro(tk:Option Nat)|(intro(K1:Kn _ _ _);(try clear K);rename Kn _ _ _=>K)));conv=>whnf
 rw [hlp]
 refine brL ⟨fun hlt=> ?_,fun hge=> ?_⟩<;>conv=>whnf
 ·have hpj:ps[j]? =some ps[j]:=List.getElem?_eq_getElem hlt
  generalize ps[j]=p at hpj
  obtain ⟨hk1,hk2,hk3⟩:=hp p (List.mem_of_getElem? hpj)
  have hle:=flat_get_le (f:=encPr) hpj
  have hpe:(encPr p).length=(encP p.1.1 p.1.2).length+((p.2.1.flatMap enc8).length+8):=by simp[encPr,enc8_len]
  generalize hxs:u8 (ps.length:Nat)::(ps.take j).flatMap encPr=xs at*
  have hxl:xs.length=1+((ps.take j).flatMap encPr).length:=by rw[←hxs,List.length_cons];omega
  refine kgo ?_;(repeat(first|intro(X:Nat)|intro(z:St)|intro(av:V)|intro(tk:Option Nat)|(intro(K1:Kn _ _ _);(try clear K);rename Kn _ _ _=>K)));conv=>whnf
  refine ⟨_,_,byt_den p.1.1 p.1.2 hk1 hk2 _ K.x, ?_⟩
  conv =>whnf
  refine kgo ?_;(repeat(first|intro(X:Nat)|intro(z:St)|intro(av:V)|intro(tk:Option Nat)|(intro(K1:Kn _ _ _);(try clear K);rename Kn _ _ _=>K)));conv=>whnf
  have hlv:(p.2.1.map iV).length=p.2.1.length:=List.length_map ..
  replace K:Kn s z [.ob true X (.c [.i .i64 p.1.1,ksV p.1.2,vsV p.2.1, .i .i64 p.2.2] 0 (some 50)), .ac 1 av ((xs++encP p.1.1 p.1.2).map bV) tk]:=K.cast (by simp)
  have hxp:(xs++encP p.1.1 p.1.2).length=xs.length+(encP p.1.1 p.1.2).length:=List.length_append ..
  generalize hws:xs++encP p.1.1 p.1.2=ws at*
  revert X;intro P0 K
  refine HM.loop gnm0 fun hg=>⟨fun m e z'=>∃(k:Nat)(ov2:V)(tk2:Option Nat),k≤p.2.1.length∧m=p.2.1.length-k∧e=EB2 ps fs ov2 j P0 k∧Kn s z' [.ob true P0 (.c [.i .i64 p.1.1,ksV p.1.2,vsV p.2.1, .i .i64 p.2.2] 0 (some 50)), .ac 1 ov2 ((ws++(p.2.1.take k).flatMap enc8).map bV) tk2],
   ⟨p.2.1.length,fg [1,3,4,5,6] _,_,WkM.fg hg,0,_,tk,Nat.zero_le _,rfl,rfl,K.cast (by simp)⟩, ?_⟩
  clear K
  rintro m e z2 ⟨k,ov2,tk2,hk,rfl,rfl,K⟩
  have hte:=flat_take_le (f:=enc8) p.2.1 k
  conv =>whnf
  refine kgo ?_;(repeat(first|intro(X:Nat)|intro(z:St)|intro(av:V)|intro(tk:Option Nat)|(intro(K1:Kn _ _ _);(try clear K);rename Kn _ _ _=>K)));conv=>whnf
  rw [hlv]
  refine brL ⟨fun hlt2=> ?_,fun hge2=> ?_⟩<;>conv=>whnf
  ·have hpk:p.2.1[k]? =some p.2.1[k]:=List.getElem?_eq_getElem hlt2
   generalize p.2.1[k]=n at hpk
   have hge3:=flat_get_le (f:=enc8) hpk
   have h8:=enc8_len n
   refine kgo ?_;(repeat(first|intro(X:Nat)|intro(z:St)|intro(av:V)|intro(tk:Option Nat)|(intro(K1:Kn _ _ _);(try clear K);rename Kn _ _ _=>K)));conv=>whnf
   refine ⟨_,_,high8 n _, ?_⟩
   conv =>whnf
   refine kgo ?_;(repeat(first|intro(X:Nat)|intro(z:St)|intro(av:V)|intro(tk:Option Nat)|(intro(K1:Kn _ _ _);(try clear K);rename Kn _ _ _=>K)));conv=>whnf
   intro hg'
   refine ⟨p.2.1.length-(k+1),fg [1,3,4,5,6] _,_,by omega,WkM.fg hg',k+1,av,tk,hlt2,rfl,rfl,K.cast ?_⟩
   rw [take_snoc_flat hpk];simp
  ·rw[List.take_of_length_le hge2] at K hte
   have h8:=enc8_len p.2.2
   refine kgo ?_;(repeat(first|intro(X:Nat)|intro(z:St)|intro(av:V)|intro(tk:Option Nat)|(intro(K1:Kn _ _ _);(try clear K);rename Kn _ _ _=>K)));conv=>whnf
   refine ⟨_,_,high8 p.2.2 _, ?_⟩
   conv =>whnf
   refine kgo ?_;(repeat(first|intro(X:Nat)|intro(z:St)|intro(av:V)|intro(tk:Option Nat)|(intro(K1:Kn _ _ _);(try clear K);rename Kn _ _ _=>K)));conv=>whnf
   intro hg'
   refine ⟨ps.length-(j+1),fg [1,3,4] _,_,by omega,WkM.fg hg',j+1,av,tk,hlt,rfl,rfl,(K.drop0 rfl).cast ?_⟩
   rw [take_snoc_flat hpj,encPr,←hws,←hxs]
   simp
 rw [List.take_of_length_le hge] at K
 have hfl0:((fs.take 0).flatMap encEv).length=0:=rfl
 refine kgo ?_;(repeat(first|intro(X:Nat)|intro(z:St)|intro(av:V)|intro(tk:Option Nat)|(intro(K1:Kn _ _ _);(try clear K);rename Kn _ _ _=>K)));conv=>whnf
 have hxl0:(u8 (ps.length:Nat)::ps.flatMap encPr).length=1+(ps.flatMap encPr).length:=by rw[List.length_cons];omega
 replace K:Kn s z [.ac 1 av ((u8 (ps.length:Nat)::ps.flatMap encPr++[u8 (fs.length:Nat)]).map bV) tk]:=K.cast (by simp[bV_u8])
 have hxs0:(u8 (ps.length:Nat)::ps.flatMap encPr++[u8 (fs.length:Nat)]).length=2+(ps.flatMap encPr).length:=by rw[List.length_append,hxl0,List.length_singleton];omega
 generalize hxs:u8 (ps.length:Nat)::ps.flatMap encPr++[u8 (fs.length:Nat)]=xs at*
 refine HM.loop gnm0 fun hg=>⟨fun m e z'=>∃(i:Nat)(ov:V)(tk:Option Nat),i≤fs.length∧m=fs.length-i∧e=EB3 ps fs ov i∧Kn s z' [.ac 1 ov ((xs++(fs.take i).flatMap encEv).map bV) tk],
  ⟨fs.length,fg [1,3,7] _,_,WkM.fg hg,0,av,tk,Nat.zero_le _,rfl,rfl,K.cast (by simp)⟩, ?_⟩
 clear K
 rintro m e z2 ⟨i,ov,tk,hi,rfl,rfl,K⟩
 conv =>whnf
 refine kgo ?_;(repeat(first|intro(X:Nat)|intro(z:St)|intro(av:V)|intro(tk:Option Nat)|(intro(K1:Kn _ _ _);(try clear K);rename Kn _ _ _=>K)));conv=>whnf
 rw [hlf]
 refine brL ⟨fun hlt2=> ?_,fun hge2=> ?_⟩<;>conv=>whnf
 ·have hpk:fs[i]? =some fs[i]:=List.getElem?_eq_getElem hlt2
  generalize fs[i]=f at hpk
  have hge3:=flat_get_le (f:=encEv) hpk
  have hfe:(encEv f).length=18:=by simp[encEv,enc8_len]
  have h8:=enc8_len f.1
  have h8':=enc8_len f.2.2.2.2.2
  refine kgo ?_;(repeat(first|intro(X:Nat)|intro(z:St)|intro(av:V)|intro(tk:Option Nat)|(intro(K1:Kn _ _ _);(try clear K);rename Kn _ _ _=>K)));conv=>whnf
  have h0:=K.get (w:=true) .here
  have hrow:RowOk false 1 [V.i .u8 (wrapF .u8 f.2.2.2.1),V.i .u8 (wrapF .u8 f.2.2.2.2.1)]:=⟨rfl,fun y hy=>by simp at hy;rcases hy with rfl|rfl<;>rfl⟩
  refine ⟨_,_,high8 f.1 _, ?_⟩
  conv =>whnf
  refine kgo ?_;(repeat(first|intro(X:Nat)|intro(z:St)|intro(av:V)|intro(tk:Option Nat)|(intro(K1:Kn _ _ _);(try clear K);rename Kn _ _ _=>K)));conv=>whnf
  refine ⟨_,_,high8 f.2.2.2.2.2 _, ?_⟩
  conv =>whnf
  refine kgo ?_;(repeat(first|intro(X:Nat)|intro(z:St)|intro(av:V)|intro(tk:Option Nat)|(intro(K1:Kn _ _ _);(try clear K);rename Kn _ _ _=>K)));conv=>whnf
  intro hg'
  refine ⟨fs.length-(i+1),fg [1,3,7] _,_,by omega,WkM.fg hg',i+1,av,tk,hlt2,rfl,rfl,(K.drop0 rfl).cast ?_⟩
  rw [take_snoc_flat hpk,encEv]
  simp [bV_u8]
 ·rw[List.take_of_length_le hge2] at K
  have hfin:xs++fs.flatMap encEv=encM ps fs:=by rw[←hxs];simp[encM]
  rw [hfin] at K
  refine kvw (t:=3) nthx ?_ K .here
  conv =>whnf
  refine kgo ?_;(repeat(first|intro(X:Nat)|intro(z:St)|intro(av:V)|intro(tk:Option Nat)|(intro(K1:Kn _ _ _);(try clear K);rename Kn _ _ _=>K)));conv=>whnf
  exact K.fin ht hx (bsV_nm _) (.refl _)
end Go.Proofs.YtlhopiehnaabgaaGreatDoor
