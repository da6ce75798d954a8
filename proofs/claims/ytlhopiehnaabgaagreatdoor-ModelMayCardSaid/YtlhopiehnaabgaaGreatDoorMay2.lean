import Derived.Test.YtlhopiehnaabgaaGreatDoorLE
import Derived.Test.YtlhopiehnaabgaaGreatDoorMay1
set_option linter.all false
namespace Go.Proofs.YtlhopiehnaabgaaGreatDoor
open Go Rf
set_option maxRecDepth 100000
set_option maxHeartbeats 2000000
def kdBad (v:Int)(m:Nat)(k:Kd):Bool:=decide (128<k.length)||k.any (insBad v m k.length)
def mayP (v:Int)(ks:List Kd):Bool:= !(decide (v<0)||decide (8<v)||decide (ks.length<1)||decide (8<ks.length))&& !ks.any (kdBad v ks.length)
structure Grow (s s':St):Prop where
 n :s.n≤s'.n
 g :s'.g=s.g
 r :∀m,m<s.n→s'.get m=s.get m
theorem Grow.refl (s:St):Grow s s:=⟨Nat.le_refl _,rfl,fun _ _=>rfl⟩
theorem Grow.new {s s':St}(h:Grow s s')(o:O):Grow s (s'.new o):=
 ⟨Nat.le_succ_of_le h.n,h.g,fun m hm=>by rw[St.get_new_ne _ _ _ (Nat.ne_of_lt (Nat.lt_of_lt_of_le hm h.n))];exact h.r m hm⟩
theorem Grow.put {s s':St}(h:Grow s s'){j:Nat}(hj:s.n≤j)(o:Option O):Grow s (s'.put j o):=
 ⟨h.n,h.g,fun m hm=>by rw[St.get_put_ne _ _ _ _ (by omega)];exact h.r m hm⟩
theorem Grow.end {s s':St}(h:Grow s s')(ht:Tidy s)(hx:NoX s):WkS s s s':=by
 have hlt:∀m x,s.get m=some x→m<s.n:=fun m x hm=>(ht.1.1 m x hm).1
 refine ⟨fun m x hm=>by rw[h.r m (hlt m x hm)];exact hm,ht.1.2,ht.1.1, .inr fun m cs z t hm=>ht.2 m cs z t hm, .inr fun m o hm=>(hx m o hm).elim, .inr fun m hm=>hm⟩
def EK (v:Int)(ks:List Kd)(i:Nat):List V:=(.bad:: .q (pgV v ks) 0:: .bad:: .bad:: .bad:: .bad:: .bad:: .bad:: .bad:: .bad:: .bad:: .bad:: .bad:: .bad:: .bad:: .bad:: .bad:: .bad:: .bad:: .bad:: .bad:: .bad:: .bad:: .bad:: .bad:: .bad:: .bad::ksV ks:: .i .i64 (ks.length:Nat):: .i .i64 (i:Nat)::List.replicate 13 .bad)
theorem mayL_den (v:Int)(ks:List Kd)(hl:ks.length≤800000)(hk:∀k∈ks,k.length≤800000)(s:St)(hx:NoX s):Den gt0 Tryz.prog 39 [pgV v ks] s (.b (mayP v ks)) s:=by
 have hm:1000000≤maxLen:=by decide
 have hlk:(ks.map kV).length=ks.length:=List.length_map ..
 generalize hB:mayP v ks=B
 refine Den.tidy fun ht=>Den.hm gnm0 hF39 ?_
 conv =>whnf
 refine sgh ?_
 cases h1:ltZ v 0<;>conv=>whnf
 rotate_left
 ·refine sgh ?_
  refine ⟨?_,fun hg=>⟨WkS.refl hg, .inl rfl⟩⟩
  have :B=false:=by rw[←hB,mayP];rw[ltZ_eq] at h1;simp at h1;simp[h1]
  subst this;exact .refl _
 refine sgh ?_
 cases h2:ltZ 8 v<;>conv=>whnf
 rotate_left
 ·refine sgh ?_
  refine ⟨?_,fun hg=>⟨WkS.refl hg, .inl rfl⟩⟩
  have :B=false:=by rw[←hB,mayP];rw[ltZ_eq] at h2;simp at h2;simp[h2]
  subst this;exact .refl _
 refine sgh ?_
 rw [hlk]
 cases h3:ltZ (ks.length:Nat) 1<;>conv=>whnf
 rotate_left
 ·refine sgh ?_
  refine ⟨?_,fun hg=>⟨WkS.refl hg, .inl rfl⟩⟩
  have :B=false:=by
   rw [ltZ_eq] at h3;simp at h3
   have :ks=[]:=List.length_eq_zero_iff.1 (by omega)
   rw [←hB,this];simp[mayP]
  subst this;exact .refl _
 refine sgh ?_
 rw [hlk]
 cases h4:ltZ 8 (ks.length:Nat)<;>conv=>whnf
 rotate_left
 ·refine sgh ?_
  refine ⟨?_,fun hg=>⟨WkS.refl hg, .inl rfl⟩⟩
  have :B=false:=by rw[←hB,mayP];rw[ltZ_eq] at h4;simp at h4;simp;omega
  subst this;exact .refl _
 refine sgh ?_
 have hpre:mayP v ks= !ks.any (kdBad v ks.length):=by
  rw [ltZ_eq] at h1 h2 h3 h4
  simp only[decide_eq_false_iff_not] at h1 h2 h3 h4
  have e3:¬ks.length<1:=by omega
  have e4:¬8<ks.length:=by omega
  simp [mayP,h1,h2,e3,e4]
 refine HM.loop gnm0 fun hg=>⟨fun n e s'=>∃i:Nat,i≤ks.length∧n=ks.length-i∧e=EK v ks i∧Grow s s'∧(ks.take i).any (kdBad v ks.length)=false,⟨ks.length,fg [1,27,28,29] _,_,WkM.fg hg,0,Nat.zero_le _,rfl,by rw[hlk];rfl,Grow.refl s,rfl⟩, ?_⟩
 rintro n e s' ⟨i,hi,rfl,rfl,hG,ha⟩
 refine HM.good fun hgs=> ?_
 conv =>whnf
 refine sgh ?_
 refine brB_iff.2 ⟨fun h5=> ?_,fun h5=> ?_⟩<;>conv=>whnf
 ·have hlt:i<ks.length:=by rw[ltZ_eq] at h5;simpa using h5
  have hgx:ks[i]? =some ks[i]:=by simp[hlt]
  have hmx:(ks.map kV)[((i:Nat):Int).toNat]? =some (kV ks[i]):=by simp[hlt]
  have hkx:ks[i].length≤800000:=hk _ (List.getElem_mem ..)
  generalize ks[i]=k at hmx hgx hkx
  have hlx:(k.map insV).length=k.length:=List.length_map ..
  refine sgh ?_
  refine ⟨rfl,Int.natCast_nonneg _,_,hmx, ?_⟩
  conv =>whnf
  refine sgh ?_
  refine HO.opA krun_alloc ?_
  have hX:(s'.new (.c [.ns] 0 (some 59))).get s'.n=some (.c [.ns] 0 (some 59)):=St.get_new_same _ _
  have hG2:=hG.new (.c [.ns] 0 (some 59))
  have hXs:s.n≤s'.n:=hG.n
  generalize s'.new _=z at*
  generalize s'.n=X at*
  conv =>whnf
  refine sgh ?_
  refine HO.opA (krun_store (n:=1) (l:=X) (o:=0) (v:=kV k) (cs':=[kV k]) (by rfl) (by rfl) hX rfl rfl (Nat.zero_le _) (by simp) rfl) ?_
  have hX2:(z.put X (some (.c [kV k] 0 (some 59)))).get X=some (.c [kV k] 0 (some 59)):=St.get_put_same _ _ _
  have hG3:=hG2.put hXs (some (.c [kV k] 0 (some 59)))
  generalize z.put X _=z2 at*
  conv =>whnf
  refine sgh ?_
  have hbad:kdBad v ks.length k=true→B=false:=fun h=>by
   have :ks.any (kdBad v ks.length)=true:=List.any_eq_true.2 ⟨k,List.mem_of_getElem? hgx,h⟩
   rw [←hB,hpre,this];rfl
  rw [hlx]
  cases h6:ltZ 128 (k.length:Nat)<;>conv=>whnf
  ·rw[hX2]
   conv =>whnf
   refine sgh ?_
   refine ⟨_,_,any_den v ks k hkx z2 X hX2, ?_⟩
   cases hp:k.any (insBad v ks.length k.length)
   ·conv=>whnf
    refine sgh ?_
    rw [wrap_succ hlt (by omega)]
    intro hg'
    have hkb:kdBad v ks.length k=false:=by
     rw [ltZ_eq] at h6
     simp only[decide_eq_false_iff_not] at h6
     have h6':¬128<k.length:=by omega
     rw [kdBad,hp,decide_eq_false h6'];rfl
    exact ⟨ks.length-(i+1),fg [1,27,28,29] _,_,by omega,WkM.fg hg',i+1,hlt,rfl,rfl,hG3,any_snoc hgx hkb ha⟩
   ·conv=>whnf
    refine sgh ?_
    have :B=false:=hbad (by rw[kdBad,hp,Bool.or_true])
    subst this
    exact ⟨.refl _,fun hg=>⟨hG3.end ht hx, .inr (.b _)⟩⟩
  ·refine sgh ?_
   have :B=false:=hbad (by
    rw [ltZ_eq] at h6
    have h6':128<k.length:=by simp only[decide_eq_true_eq] at h6;omega
    rw [kdBad,decide_eq_true h6'];rfl)
   subst this
   exact ⟨.refl _,fun hg=>⟨hG3.end ht hx, .inr (.b _)⟩⟩
 ·have hge:ks.length≤i:=by rw[ltZ_eq] at h5;simpa using h5
  refine sgh ?_
  rw [List.take_of_length_le hge] at ha
  have :B=true:=by rw[←hB,hpre,ha];rfl
  subst this
  exact ⟨.refl _,fun hg=>⟨hG.end ht hx, .inr (.b _)⟩⟩
theorem may_den (v:Int)(ks:List Kd)(hl:ks.length≤255)(hk:∀k∈ks,k.length≤255)(s:St)(hx:NoX s):Den gt0 Tryz.prog 39 [pgV v ks] s (.b (mayP v ks)) s:=
 mayL_den v ks (Nat.le_trans hl (by decide)) (fun k h=>Nat.le_trans (hk k h) (by decide)) s hx
end Go.Proofs.YtlhopiehnaabgaaGreatDoor
