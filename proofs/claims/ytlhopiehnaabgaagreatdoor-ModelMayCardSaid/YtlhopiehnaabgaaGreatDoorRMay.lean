import Derived.Test.YtlhopiehnaabgaaGreatDoorLE
import Derived.Test.YtlhopiehnaabgaaGreatDoorMay2
set_option linter.all false
namespace Go.Proofs.YtlhopiehnaabgaaGreatDoor
open Go Rf
set_option maxRecDepth 100000
set_option maxHeartbeats 2000000
def rOk (v:Int)(m len:Nat)(w:List UInt8)(n:Int):Bool:=
 if w=[] then false else if w=[112,117,115,104] then true
 else if w=[108,111,97,100]∨w=[115,116,111,114,101] then decide (0≤n)&&decide (n<v)
 else if w=[106,117,109,112]∨w=[122,101,114,111] then decide (0≤n)&&decide (n≤(len:Nat))
 else if w=[115,101,110,100] then decide (0≤n)&&decide (n<(m:Nat)) else decide (n=0)
theorem rOk_den (v:Int)(ks:List Kd)(o n:Int)(len:Nat)(hl:len≤800000):PDen gt0 Tryz.prog 47 [pgV v ks,insV (o,n), .i .i64 (len:Nat)] (.b (rOk v ks.length len (wd o) n)):=by
 generalize hB:rOk v ks.length len (wd o) n=B
 refine PDen.hc gnm0 hF47 (nm3 (pgV_nm _ _) (insV_nm _) (.i _ _)) (.b _) ?_
 have hlk:(ks.map kV).length=ks.length:=List.length_map ..
 conv =>whnf
 repeat ((first|refine HO.opA (krun_box nthx (by rfl)) ?_|refine HC.seq ?_|refine HC.ops ?_|refine HO.k ?_|refine HO.nil ?_);conv=>whnf)
 refine ⟨_,_,rwd_den _ _, ?_⟩
 generalize wd o=w at*
 conv =>whnf
 repeat' (first|refine sgw ?_|(rw[hlk];conv=>whnf)|(refine brB_iff.2 ⟨fun hc=> ?_,fun hc=> ?_⟩<;>conv=>whnf))
 all_goals
  subst hB
  simp only[eqZ_eq,leZ_eq,ltZ_eq,hlk] at*
  simp_all [rOk]
  try (first|(intro h9;omega)|rfl)
theorem rOk_bad (v:Int)(m len:Nat)(o n:Int):insBad v m len (o,n)= !rOk v m len (wd o) n:=by
 refine op_split (p:=fun o=>insBad v m len (o,n)= !rOk v m len (wd o) n) (fun k=> ?_) (fun k=> ?_) ?_ ?_ ?_ ?_ ?_ ?_ ?_ ?_ ?_ ?_ ?_ ?_ ?_ ?_ ?_ ?_ ?_ ?_ o
 all_goals
  simp [insBad,rOk,numOk,wd,wdN,Int.lt_add_one_iff]
  try (rw[Bool.eq_iff_iff];simp;omega)
def EA (v:Int)(ks:List Kd)(i:Nat):List V:=(.bad:: .q (pgV v ks) 0:: .bad:: .i .i64 (i:Nat)::List.replicate 62 .bad)
def EB (v:Int)(ks:List Kd)(i j:Nat):List V:=(.bad:: .q (pgV v ks) 0:: .bad:: .i .i64 (i:Nat):: .i .i64 (j:Nat)::List.replicate 61 .bad)
theorem rmayL_den (v:Int)(ks:List Kd)(hl:ks.length≤800000)(hk:∀k∈ks,k.length≤800000):PDen gt0 Tryz.prog 20 [pgV v ks] (.b (mayP v ks)):=by
 have hm:1000000≤maxLen:=by decide
 have hlk:(ks.map kV).length=ks.length:=List.length_map ..
 generalize hB:mayP v ks=B
 refine PDen.hc gnm0 hF20 (fun x hx=>by simp only[List.mem_singleton] at hx;subst hx;exact pgV_nm _ _) (.b _) ?_
 conv =>whnf
 refine sgq ?_
 cases h1:ltZ v 0<;>conv=>whnf
 rotate_left
 ·refine sgo ?_
  have :B=false:=by rw[←hB,mayP];rw[ltZ_eq] at h1;simp at h1;simp[h1]
  subst this;rfl
 refine sgo ?_
 cases h2:ltZ 8 v<;>conv=>whnf
 rotate_left
 ·refine sgo ?_
  have :B=false:=by rw[←hB,mayP];rw[ltZ_eq] at h2;simp at h2;simp[h2]
  subst this;rfl
 refine sgo ?_
 rw [hlk]
 cases h3:ltZ (ks.length:Nat) 1<;>conv=>whnf
 rotate_left
 ·refine sgo ?_
  have :B=false:=by
   rw [ltZ_eq] at h3;simp at h3
   have :ks=[]:=List.length_eq_zero_iff.1 (by omega)
   rw [←hB,this];simp[mayP]
  subst this;rfl
 refine sgo ?_
 rw [hlk]
 cases h4:ltZ 8 (ks.length:Nat)<;>conv=>whnf
 rotate_left
 ·refine sgo ?_
  have :B=false:=by rw[←hB,mayP];rw[ltZ_eq] at h4;simp at h4;simp;omega
  subst this;rfl
 refine sgo ?_
 have hpre:mayP v ks= !ks.any (kdBad v ks.length):=by
  rw [ltZ_eq] at h1 h2 h3 h4
  simp only[decide_eq_false_iff_not] at h1 h2 h3 h4
  have e3:¬ks.length<1:=by omega
  have e4:¬8<ks.length:=by omega
  simp [mayP,h1,h2,e3,e4]
 refine HC.loop gnm0 fun hg=>⟨fun n e s=>s=s0∧∃i:Nat,i≤ks.length∧n=ks.length-i∧e=EA v ks i∧(ks.take i).any (kdBad v ks.length)=false,⟨ks.length,fg [1,3] _,_,Wk.fg hg.1 hg.2,rfl,0,Nat.zero_le _,rfl,rfl,rfl⟩, ?_⟩
 rintro n e s ⟨rfl,i,hi,rfl,rfl,ha⟩
 conv =>whnf
 refine sgo ?_
 rw [hlk]
 refine brB_iff.2 ⟨fun h5=> ?_,fun h5=> ?_⟩<;>conv=>whnf
 ·have hlt:i<ks.length:=by rw[ltZ_eq] at h5;simpa using h5
  have hgx:ks[i]? =some ks[i]:=by simp[hlt]
  have hmx:(ks.map kV)[((i:Nat):Int).toNat]? =some (kV ks[i]):=by simp[hlt]
  have hkx:ks[i].length≤800000:=hk _ (List.getElem_mem ..)
  generalize ks[i]=k at hmx hgx hkx
  have hlx:(k.map insV).length=k.length:=List.length_map ..
  have hbad:kdBad v ks.length k=true→B=false:=fun h=>by
   have :ks.any (kdBad v ks.length)=true:=List.any_eq_true.2 ⟨k,List.mem_of_getElem? hgx,h⟩
   rw [←hB,hpre,this];rfl
  refine sgo ?_
  refine ⟨rfl,Int.natCast_nonneg _,_,hmx, ?_⟩
  conv =>whnf
  refine sgo ?_
  rw [hlx]
  refine brB_iff.2 ⟨fun h6=> ?_,fun h6=> ?_⟩<;>conv=>whnf
  ·refine sgo ?_
   have :B=false:=hbad (by
    rw [ltZ_eq] at h6
    have h6':128<k.length:=by simp only[decide_eq_true_eq] at h6;omega
    rw [kdBad,decide_eq_true h6'];rfl)
   subst this
   rfl
  ·refine sgo ?_
   refine HC.loop gnm0 fun hg=>⟨fun n e s=>s=s0∧∃j:Nat,j≤k.length∧n=k.length-j∧e=EB v ks i j∧(k.take j).any (insBad v ks.length k.length)=false,⟨k.length,fg [1,3,4] _,_,Wk.fg hg.1 hg.2,rfl,0,Nat.zero_le _,rfl,rfl,rfl⟩, ?_⟩
   rintro n e s ⟨rfl,j,hj,rfl,rfl,hb⟩
   conv =>whnf
   refine sgo ?_
   refine ⟨rfl,Int.natCast_nonneg _,_,hmx, ?_⟩
   conv =>whnf
   refine sgo ?_
   rw [hlx]
   refine brB_iff.2 ⟨fun h7=> ?_,fun h7=> ?_⟩<;>conv=>whnf
   ·have hlt7:j<k.length:=by rw[ltZ_eq] at h7;simpa using h7
    have hgy:k[j]? =some k[j]:=by simp[hlt7]
    have hmy:(k.map insV)[((j:Nat):Int).toNat]? =some (insV k[j]):=by simp[hlt7]
    generalize k[j]=a at hmy hgy
    have hrb:insBad v ks.length k.length a= !rOk v ks.length k.length (wd a.1) a.2:=rOk_bad v ks.length k.length a.1 a.2
    refine sgo ?_
    refine ⟨rfl,Int.natCast_nonneg _,_,hmx, ?_⟩
    conv =>whnf
    refine sgo ?_
    refine ⟨rfl,Int.natCast_nonneg _,_,hmy, ?_⟩
    conv =>whnf
    refine sgo ?_
    refine ⟨rfl,Int.natCast_nonneg _,_,hmx, ?_⟩
    conv =>whnf
    refine sgo ?_
    rw [hlx]
    refine ⟨_,_,rOk_den v ks a.1 a.2 k.length hkx s0, ?_⟩
    cases hp:rOk v ks.length k.length (wd a.1) a.2
    ·conv=>whnf
     refine sgo ?_
     have :B=false:=hbad (by
      have :k.any (insBad v ks.length k.length)=true:=List.any_eq_true.2 ⟨a,List.mem_of_getElem? hgy,by rw[hrb,hp];rfl⟩
      rw [kdBad,this,Bool.or_true])
     subst this
     rfl
    ·conv=>whnf
     refine sgo ?_
     rw [wrap_succ hlt7 (by omega)]
     intro hg'
     exact ⟨k.length-(j+1),fg [1,3,4] _,_,by omega,Wk.fg hg'.1 hg'.2,rfl,j+1,hlt7,rfl,rfl,any_snoc hgy (by rw[hrb,hp];rfl) hb⟩
   ·have hge7:k.length≤j:=by rw[ltZ_eq] at h7;simpa using h7
    refine sgo ?_
    rw [wrap_succ hlt (by omega)]
    rw [List.take_of_length_le hge7] at hb
    have hkb:kdBad v ks.length k=false:=by
     rw [ltZ_eq] at h6
     simp only[decide_eq_false_iff_not] at h6
     have h6':¬128<k.length:=by omega
     rw [kdBad,hb,decide_eq_false h6'];rfl
    intro hg'
    exact ⟨ks.length-(i+1),fg [1,3] _,_,by omega,Wk.fg hg'.1 hg'.2,rfl,i+1,hlt,rfl,rfl,any_snoc hgx hkb ha⟩
 ·have hge:ks.length≤i:=by rw[ltZ_eq] at h5;simpa using h5
  refine sgo ?_
  rw [List.take_of_length_le hge] at ha
  have :B=true:=by rw[←hB,hpre,ha];rfl
  subst this
  rfl
end Go.Proofs.YtlhopiehnaabgaaGreatDoor
