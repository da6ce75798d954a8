import Derived.Test.YtlhopiehnaabgaaGreatDoorRprc
import Derived.Test.YtlhopiehnaabgaaGreatDoorLE
set_option linter.all false
namespace Go.Proofs.YtlhopiehnaabgaaGreatDoor
open Go Rf
set_option maxRecDepth 100000
set_option maxHeartbeats 2000000
theorem rdO_nm {L:Nat→Prop}(bs:List UInt8)(a:Nat):∀c∈[bsV bs,V.i .i64 ((a:Nat):Int)],Nm L c:=fun c hc=>by
 simp only[List.mem_cons,List.not_mem_nil,or_false] at hc
 rcases hc with rfl|rfl
 ·exact bsV_nm _
 ·exact .i _ _
theorem prog_den (s:St)(l:Nat)(bs:List UInt8)(t:Option Nat)(hs:s.get l=some (rdO bs 0 t))(hb:bs.length≤300000)(hx:NoX s){v:Int}{ks:List Kd}{a:Nat}(h:progP bs=some (v,ks,a)):
  Den gt0 Tryz.prog 91 [.p l 0] s (pgV v ks) (s.put l (some (rdO bs a t))):=by
 refine Den.tidy fun ht=>Den.hm gnm0 hF91 (prog_hm s l bs t hs hb (fun hn=>by rw[h] at hn;cases hn) (fun v' ks' a' e s' N pkv hp hU hN hget hV=> ?_))
 rw [h] at hp
 cases hp
 refine finM_ret (vs:=[.ag [.i .i64 v,pkv]]) (.inl rfl) ?_ (.ag _ _ (.cons (.refl _) (.cons hV .nil))) (fun _=>⟨hU.end ht hx (ht.1.1 l _ hs) (rdO_nm bs a), .inr (pgV_nm v ks)⟩)
 show resV e s' [.cn 2 2]=_
 have h1:aop e s' (.loadn 2 (.t 2))=some (.ag [.i .i64 v,pkv],s'):=krun_load_all (gt:=gt0) (P:=Tryz.prog) (a:= .t 2) hN.get hget rfl
 simp only[resV,h1,Option.map]
theorem prog_pan (s:St)(l:Nat)(bs:List UInt8)(t:Option Nat)(hs:s.get l=some (rdO bs 0 t))(hb:bs.length≤300000)(hx:NoX s)(h:progP bs=none):
  PanDen gt0 Tryz.prog 91 [.p l 0] s (.ifc 133 (.ag [])) (s.put l (some (rdO bs bs.length t))):=by
 refine PanDen.tidy fun ht=>PanDen.hm gnm0 hF91 (prog_hm s l bs t hs hb (fun hn e s' hU=> ?_) (fun v' ks' a' e s' N pkv hp hU hN hget hV=>by rw[h] at hp;cases hp))
 exact ⟨.refl _,fun _=>⟨hU.end ht hx (ht.1.1 l _ hs) (rdO_nm bs _), .inr (.ifc _ _ (.ag _ (fun x hx=>by cases hx)))⟩⟩
end Go.Proofs.YtlhopiehnaabgaaGreatDoor
set_option linter.all false
namespace Go.Proofs.YtlhopiehnaabgaaGreatDoor
open Go Rf
set_option maxRecDepth 100000
set_option maxHeartbeats 2000000
def numOk (v:Int)(m len:Nat)(o n:Int):Bool:=
 if o=1 then true else decide (0≤n)&&decide (n<(if o=2 then v else if o=3 then v else if o=13 then(len:Nat)+1 else if o=14 then(len:Nat)+1 else if o=15 then(m:Nat) else 1))
theorem nm3 {n:Nat→Prop}{a b c:V}(ha:Nm n a)(hb:Nm n b)(hc:Nm n c):∀x∈[a,b,c],Nm n x:=fun x hx=>by
 simp only[List.mem_cons,List.not_mem_nil,or_false] at hx
 rcases hx with rfl|rfl|rfl<;>assumption
theorem numOk_den (v:Int)(ks:List Kd)(o n:Int)(len:Nat)(hl:len≤800000):PDen gt0 Tryz.prog 65 [pgV v ks,insV (o,n), .i .i64 (len:Nat)] (.b (numOk v ks.length len o n)):=by
 generalize hB:numOk v ks.length len o n=B
 refine PDen.hc gnm0 hF65 (nm3 (pgV_nm _ _) (insV_nm _) (.i _ _)) (.b _) ?_
 have hlk:(ks.map kV).length=ks.length:=List.length_map ..
 have hw:wrapF .i64 ((len:Nat)+1)=((len+1:Nat):Int):=wrap_succ (n:=900000) (by omega) (by decide)
 conv =>whnf
 repeat' (first|refine sgw ?_|(refine HO.opA (krun_box nthx (by rfl)) ?_;conv=>whnf)|(refine HD.opA0 (krun_box nthx (by rfl)) (by decide) (fun t _=>krun_box nthx (by rfl)) ?_;conv=>whnf)|(refine brB_iff.2 ⟨fun hc=> ?_,fun hc=> ?_⟩<;>conv=>whnf))
 all_goals
  try rw[hw]
  clear hw
  subst hB
  simp only[eqZ_eq,leZ_eq,ltZ_eq,hlk] at*
  simp_all [numOk]
  try (intro h9;omega)
def insBad (v:Int)(m len:Nat)(x:Int×Int):Bool:=(wd x.1== [])|| !numOk v m len x.1 x.2
theorem insBad_den (v:Int)(ks:List Kd)(x:Int×Int)(k:Kd)(hl:k.length≤800000)(s:St)(N:Nat)(hN:s.get N=some (.c [kV k] 0 (some 59))):Den gt0 Tryz.prog 64 [insV x, .q (pgV v ks) 0, .p N 0] s (.b (insBad v ks.length k.length x)) s:=by
 refine Den.hm gnm0 hF64 ?_
 conv =>whnf
 refine sgh ?_
 refine ⟨_,_,wd_den _ _, ?_⟩
 unfold insBad
 have hlk:(k.map insV).length=k.length:=List.length_map ..
 generalize wd x.1=w
 conv =>whnf
 refine sgh ?_
 cases hw:(w== [])<;>conv=>whnf
 ·refine sgh ?_
  rw [hlk]
  refine ⟨_,_,numOk_den v ks x.1 x.2 k.length hl s, ?_⟩
  conv =>whnf
  refine sgh ?_
  exact ⟨.refl _,fun hg=>⟨WkS.refl hg, .inl rfl⟩⟩
 ·refine sgh ?_
  exact ⟨.refl _,fun hg=>⟨WkS.refl hg, .inl rfl⟩⟩
def ixOf {α:Type}(p:α→Bool)(l:List α):Int:=if l.any p=true then((l.findIdx p:Nat):Int) else-1
theorem ixOf_found {α:Type}{p:α→Bool}{l:List α}{i:Nat}{a:α}(ha:l[i]? =some a)(hp:p a=true)(hb:(l.take i).any p=false):ixOf p l=(i:Nat):=by
 obtain ⟨hi,he⟩:=List.getElem?_eq_some_iff.1 ha
 have h1:l.any p=true:=List.any_eq_true.2 ⟨a,List.mem_of_getElem? ha,hp⟩
 rw [ixOf,if_pos h1]
 congr 1
 refine (List.findIdx_eq hi).2 ⟨by rw[he];exact hp,fun j hj=> ?_⟩
 rw [List.any_eq_false] at hb
 have :=hb (l[j]'(by omega)) (by
  have :l[j]'(by omega)=(l.take i)[j]'(by simp;omega):=by simp
  rw [this];exact List.getElem_mem ..)
 simpa using this
theorem ixOf_none {α:Type}{p:α→Bool}{l:List α}(h:l.any p=false):ixOf p l=-1:=by rw[ixOf,if_neg (by rw[h];decide)]
theorem ixOf_pos {α:Type}(p:α→Bool)(l:List α):leZ 0 (ixOf p l)=l.any p:=by
 rw [leZ_eq,ixOf]
 cases l.any p<;>simp
theorem any_snoc {α:Type}{p:α→Bool}{l:List α}{i:Nat}{a:α}(ha:l[i]? =some a)(hp:p a=false)(hb:(l.take i).any p=false):(l.take (i+1)).any p=false:=by
 rw [List.take_add_one,ha]
 simp [hb,hp]
def EI (v:Int)(ks:List Kd)(k:Kd)(N i:Nat):List V:=(kV k:: .fn 64 [.q (pgV v ks) 0, .p N 0]:: .bad:: .bad:: .bad:: .bad:: .bad:: .i .i64 ((k.map insV).length:Nat):: .i .i64 (i:Nat)::List.replicate 10 .bad)
theorem ix_den (v:Int)(ks:List Kd)(k:Kd)(hl:k.length≤800000)(s:St)(N:Nat)(hN:s.get N=some (.c [kV k] 0 (some 59))):Den gt0 Tryz.prog 89 [kV k, .fn 64 [.q (pgV v ks) 0, .p N 0]] s (.i .i64 (ixOf (insBad v ks.length k.length) k)) s:=by
 have hm:1000000≤maxLen:=by decide
 have hlk:(k.map insV).length=k.length:=List.length_map ..
 generalize hB:ixOf (insBad v ks.length k.length) k=B
 refine Den.hm gnm0 hF89 ?_
 conv =>whnf
 refine sgh ?_
 refine HM.loop gnm0 fun hg=>⟨fun n e s'=>s'=s∧∃i:Nat,i≤k.length∧n=k.length-i∧e=EI v ks k N i∧(k.take i).any (insBad v ks.length k.length)=false,⟨k.length,fg [0,1,7,8] _,_,WkM.fg hg,rfl,0,Nat.zero_le _,rfl,rfl,rfl⟩, ?_⟩
 rintro n e s' ⟨rfl,i,hi,rfl,rfl,ha⟩
 conv =>whnf
 refine sgh ?_
 refine brB_iff.2 ⟨fun h1=> ?_,fun h1=> ?_⟩<;>conv=>whnf
 ·have hlt:i<k.length:=by rw[ltZ_eq] at h1;simpa using h1
  have hgx:k[i]? =some k[i]:=by simp[hlt]
  have hmx:(k.map insV)[((i:Nat):Int).toNat]? =some (insV k[i]):=by simp[hlt]
  generalize k[i]=a at hmx hgx
  refine sgh ?_
  refine ⟨rfl,Int.natCast_nonneg _,_,hmx, ?_⟩
  conv =>whnf
  refine sgh ?_
  refine ⟨rfl,_,_,insBad_den v ks a k hl s' N hN, ?_⟩
  cases hp:insBad v ks.length k.length a
  ·conv=>whnf
   refine sgh ?_
   rw [wrap_succ hlt (by omega)]
   intro hg'
   exact ⟨k.length-(i+1),fg [0,1,7,8] _,_,by omega,WkM.fg hg',rfl,i+1,hlt,rfl,rfl,any_snoc hgx hp ha⟩
  ·conv=>whnf
   refine sgh ?_
   rw [←hB,ixOf_found hgx hp ha]
   exact ⟨.refl _,fun hg=>⟨WkS.refl hg, .inl rfl⟩⟩
 ·have hge:k.length≤i:=by rw[ltZ_eq] at h1;simpa using h1
  refine sgh ?_
  rw [List.take_of_length_le hge] at ha
  rw [←hB,ixOf_none ha]
  exact ⟨.refl _,fun hg=>⟨WkS.refl hg, .inl rfl⟩⟩
theorem any_den (v:Int)(ks:List Kd)(k:Kd)(hl:k.length≤800000)(s:St)(N:Nat)(hN:s.get N=some (.c [kV k] 0 (some 59))):Den gt0 Tryz.prog 66 [kV k, .fn 64 [.q (pgV v ks) 0, .p N 0]] s (.b (k.any (insBad v ks.length k.length))) s:=by
 rw [←ixOf_pos]
 refine Den.hm gnm0 hF66 ?_
 conv =>whnf
 refine sgh ?_
 refine ⟨_,_,ix_den v ks k hl s N hN, ?_⟩
 conv =>whnf
 refine sgh ?_
 exact ⟨.refl _,fun hg=>⟨WkS.refl hg, .inl rfl⟩⟩
end Go.Proofs.YtlhopiehnaabgaaGreatDoor
