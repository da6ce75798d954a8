import Derived.Test.YtlhopiehnaabgaaGreatDoorLE
import Derived.Test.YtlhopiehnaabgaaGreatDoorCode
set_option linter.all false
namespace Go.Proofs.YtlhopiehnaabgaaGreatDoor
open Go Rf
set_option maxRecDepth 100000
set_option maxHeartbeats 1000000
theorem wrap_succ {i n:Nat}(h:i<n)(hn:n≤maxLen):wrapF .i64 ((i:Int)+1)=((i+1:Nat):Int):=by
 have hm:maxLen≤9223372036854775807:=by decide
 rw [wrapF_eq,wrap_in]<;>simp[lim,IntKind.signed]<;>omega
def insV (x:Int×Int):V:= .ag [.i .i64 x.1, .i .i64 x.2]
abbrev Kd:=List (Int×Int)
def kV (k:Kd):V:= .pu 2 (k.map insV) .u
def ksV (ks:List Kd):V:= .pu 1 (ks.map kV) .u
def pgV (v:Int)(ks:List Kd):V:= .ag [.i .i64 v,ksV ks]
theorem insV_nm {L:Nat→Prop}(x:Int×Int):Nm L (insV x):= .ag _ (fun v hv=>by
 simp only[List.mem_cons,List.not_mem_nil,or_false] at hv
 rcases hv with rfl|rfl<;>exact .i _ _)
theorem kV_nm {L:Nat→Prop}(k:Kd):Nm L (kV k):= .pu _ _ _ (fun v hv=>by
 obtain ⟨x,-,rfl⟩:=List.mem_map.1 hv;exact insV_nm x) (fun k hk=>by cases hk)
theorem ksV_nm {L:Nat→Prop}(ks:List Kd):Nm L (ksV ks):= .pu _ _ _ (fun v hv=>by
 obtain ⟨x,-,rfl⟩:=List.mem_map.1 hv;exact kV_nm x) (fun k hk=>by cases hk)
theorem pgV_nm {L:Nat→Prop}(v:Int)(ks:List Kd):Nm L (pgV v ks):= .ag _ (fun x hx=>by
 simp only[List.mem_cons,List.not_mem_nil,or_false] at hx
 rcases hx with rfl|rfl
 ·exact .i _ _
 ·exact ksV_nm _)
theorem nm2 {L:Nat→Prop}{a b:V}(ha:Nm L a)(hb:Nm L b):∀x∈[a,b],Nm L x:=fun x hx=>by
 simp only[List.mem_cons,List.not_mem_nil,or_false] at hx
 rcases hx with rfl|rfl
 ·exact ha
 ·exact hb
theorem nm1 {L:Nat→Prop}{a:V}(ha:Nm L a):∀x∈[a],Nm L x:=fun x hx=>by
 simp only[List.mem_singleton] at hx;subst hx;exact ha
theorem take_succ_eq {α:Type}{x y:List α}{i:Nat}{a b:α}(ha:x[i]? =some a)(hb:y[i]? =some b)(h:x.take i=y.take i)(hab:a=b):x.take (i+1)=y.take (i+1):=by
 rw [List.take_add_one,List.take_add_one,h,ha,hb,hab]
theorem ne_of_get {α:Type}{x y:List α}{i:Nat}{a b:α}(ha:x[i]? =some a)(hb:y[i]? =some b)(hab:a≠b):x≠y:=fun h=>by
 subst h;rw[ha] at hb;exact hab (Option.some.inj hb)
def much (ks:List Kd):Bool:=decide (12<ks.length)||ks.any fun k=>decide (200<k.length)
def EMu (v:Int)(ks:List Kd)(i:Nat):List V:= .bad:: .q (pgV v ks) 0:: .b false:: .i .i64 (i:Nat)::List.replicate 18 .bad
theorem much_den (v:Int)(ks:List Kd)(hl:ks.length≤maxLen):PDen gt0 Tryz.prog 19 [pgV v ks] (.b (much ks)):=by
 generalize hB:much ks=B
 refine PDen.hc gnm0 hF19 (nm1 (pgV_nm _ _)) (.b _) ?_
 have hlx:(ks.map kV).length=ks.length:=List.length_map ..
 conv =>whnf
 refine sgo ?_
 refine brB_iff.2 ⟨fun h=> ?_,fun h=> ?_⟩<;>conv=>whnf
 ·refine sgo ?_
  have :12<ks.length:=by rw[ltZ_eq] at h;simp at h;omega
  rw [←hB];simp[much,this]
 ·have h12:¬12<ks.length:=by rw[ltZ_eq] at h;simp at h;omega
  refine sgo ?_
  refine HC.loop gnm0 fun hg=>⟨fun n e s=>s=s0∧∃i:Nat,i≤ks.length∧n=ks.length-i∧e=EMu v ks i∧∀k∈ks.take i,¬200<k.length,⟨ks.length,fg [1,2,3] _,_,Wk.fg hg.1 hg.2,rfl,0,Nat.zero_le _,rfl,rfl,fun k hk=>by simp at hk⟩, ?_⟩
  rintro n e s ⟨rfl,i,hi,rfl,rfl,ht⟩
  conv =>whnf
  refine sgo ?_
  refine brB_iff.2 ⟨fun h1=> ?_,fun h1=> ?_⟩<;>conv=>whnf
  ·have hlt:i<ks.length:=by rw[ltZ_eq] at h1;simpa using h1
   have hmx:(ks.map kV)[((i:Nat):Int).toNat]? =some (kV ks[i]):=by simp[hlt]
   have hgx:ks[i]? =some ks[i]:=by simp[hlt]
   generalize ks[i]=a at hmx hgx
   refine sgo ?_
   refine ⟨rfl,Int.natCast_nonneg _,_,hmx, ?_⟩
   conv =>whnf
   refine sgo ?_
   refine brB_iff.2 ⟨fun h2=> ?_,fun h2=> ?_⟩<;>conv=>whnf
   ·refine sgo ?_
    have h3:200<a.length:=by rw[ltZ_eq] at h2;simp at h2;omega
    rw [←hB]
    have :ks.any (fun k=>decide (200<k.length))=true:=List.any_eq_true.2 ⟨a,List.mem_of_getElem? hgx,by simpa using h3⟩
    simp [much,this]
   ·refine sgo ?_
    have h3:¬200<a.length:=by rw[ltZ_eq] at h2;simp at h2;omega
    rw [wrap_succ hlt hl]
    intro hg'
    refine ⟨ks.length-(i+1),fg [1,2,3] _,_,by omega,Wk.fg hg'.1 hg'.2,rfl,i+1,hlt,rfl,rfl,fun k hk=> ?_⟩
    rw [List.take_add_one,hgx] at hk
    rcases List.mem_append.1 hk with hk|hk
    ·exact ht k hk
    ·simp at hk;subst hk;exact h3
  ·have hge:ks.length≤i:=by rw[ltZ_eq] at h1;simpa using h1
   refine sgo ?_
   rw [List.take_of_length_le hge] at ht
   rw [←hB]
   have :ks.any (fun k=>decide (200<k.length))=false:=List.any_eq_false.2 fun k hk=>by simpa using ht k hk
   simp [much,this,h12]
def ES (v w:Int)(x y:List Kd)(i:Nat):List V:= .bad:: .bad:: .q (pgV v x) 0:: .q (pgV w y) 0:: .b false:: .i .i64 (i:Nat)::List.replicate 62 .bad
def ES2 (v w:Int)(x y:List Kd)(i k:Nat):List V:= .bad:: .bad:: .q (pgV v x) 0:: .q (pgV w y) 0:: .b false:: .i .i64 (i:Nat):: .i .i64 (k:Nat)::List.replicate 61 .bad
theorem rsame_den (v w:Int)(x y:List Kd)(hl:x.length≤maxLen)(hk:∀k∈x,k.length≤maxLen):PDen gt0 Tryz.prog 31 [pgV v x,pgV w y] (.b (decide (v=w∧x=y))):=by
 generalize hB:decide (v=w∧x=y)=B
 refine PDen.hc gnm0 hF31 (nm2 (pgV_nm _ _) (pgV_nm _ _)) (.b _) ?_
 have hlx:(x.map kV).length=x.length:=List.length_map ..
 have hly:(y.map kV).length=y.length:=List.length_map ..
 have out:¬(v=w∧x=y)→V.b false=V.b B:=fun h=>by rw[←hB,decide_eq_false h]
 conv =>whnf
 refine sgo ?_
 refine brB_iff.2 ⟨fun h=> ?_,fun h=> ?_⟩<;>conv=>whnf
 ·refine sgo ?_
  exact out fun e=>by simp[eqZ_eq,e.1] at h
 ·have hvw:v=w:=by simpa[eqZ_eq] using h
  refine sgo ?_
  refine brB_iff.2 ⟨fun h=> ?_,fun h=> ?_⟩<;>conv=>whnf
  ·refine sgo ?_
   exact out fun e=>by simp[eqZ_eq,e.2] at h
  ·have hxy:x.length=y.length:=by simp[eqZ_eq] at h;omega
   refine sgo ?_
   refine HC.loop gnm0 fun hg=>⟨fun n e s=>s=s0∧∃i:Nat,i≤x.length∧n=x.length-i∧e=ES v w x y i∧x.take i=y.take i,⟨x.length,fg [2,3,4,5] _,_,Wk.fg hg.1 hg.2,rfl,0,Nat.zero_le _,rfl,rfl,rfl⟩, ?_⟩
   rintro n e s ⟨rfl,i,hi,rfl,rfl,ht⟩
   conv =>whnf
   refine sgo ?_
   refine brB_iff.2 ⟨fun h1=> ?_,fun h1=> ?_⟩<;>conv=>whnf
   ·have hlt:i<x.length:=by rw[ltZ_eq] at h1;simpa using h1
    have hmx:(x.map kV)[((i:Nat):Int).toNat]? =some (kV x[i]):=by simp[hlt]
    have hmy:(y.map kV)[((i:Nat):Int).toNat]? =some (kV (y[i]'(hxy▸hlt))):=by simp[hxy▸hlt]
    have hgx:x[i]? =some x[i]:=by simp[hlt]
    have hgy:y[i]? =some (y[i]'(hxy▸hlt)):=by simp[hxy▸hlt]
    have hkl:=hk x[i] (List.getElem_mem hlt)
    generalize x[i]=a at hmx hgx hkl
    generalize y[i]'(hxy▸hlt)=b at hmy hgy
    have hla:(a.map insV).length=a.length:=List.length_map ..
    have hlb:(b.map insV).length=b.length:=List.length_map ..
    refine sgo ?_
    refine ⟨rfl,Int.natCast_nonneg _,_,hmx, ?_⟩
    conv =>whnf
    refine sgo ?_
    refine ⟨rfl,Int.natCast_nonneg _,_,hmy, ?_⟩
    conv =>whnf
    refine sgo ?_
    refine brB_iff.2 ⟨fun h=> ?_,fun h=> ?_⟩<;>conv=>whnf
    ·refine sgo ?_
     exact out fun e=>(ne_of_get hgx hgy (fun e=>by subst e;simp[eqZ_eq] at h)) e.2
    ·have hab:a.length=b.length:=by simp[eqZ_eq] at h;omega
     refine sgo ?_
     refine HC.loop gnm0 fun hg=>⟨fun n e s=>s=s0∧∃k:Nat,k≤a.length∧n=a.length-k∧e=ES2 v w x y i k∧a.take k=b.take k,⟨a.length,fg [2,3,4,5,6] _,_,Wk.fg hg.1 hg.2,rfl,0,Nat.zero_le _,rfl,rfl,rfl⟩, ?_⟩
     rintro n e s ⟨rfl,k,hik,rfl,rfl,htk⟩
     conv =>whnf
     refine sgo ?_
     refine ⟨rfl,Int.natCast_nonneg _,_,hmx, ?_⟩
     conv =>whnf
     refine sgo ?_
     refine brB_iff.2 ⟨fun h2=> ?_,fun h2=> ?_⟩<;>conv=>whnf
     ·have hltk:k<a.length:=by rw[ltZ_eq] at h2;simpa using h2
      have hax:(a.map insV)[((k:Nat):Int).toNat]? =some (insV a[k]):=by simp[hltk]
      have hay:(b.map insV)[((k:Nat):Int).toNat]? =some (insV (b[k]'(hab▸hltk))):=by simp[hab▸hltk]
      have gax:a[k]? =some a[k]:=by simp[hltk]
      have gay:b[k]? =some (b[k]'(hab▸hltk)):=by simp[hab▸hltk]
      generalize a[k]=p at hax gax
      generalize b[k]'(hab▸hltk)=q at hay gay
      refine sgo ?_
      refine ⟨rfl,Int.natCast_nonneg _,_,hmx, ?_⟩
      conv =>whnf
      refine sgo ?_
      refine ⟨rfl,Int.natCast_nonneg _,_,hax, ?_⟩
      conv =>whnf
      refine sgo ?_
      refine ⟨rfl,Int.natCast_nonneg _,_,hmy, ?_⟩
      conv =>whnf
      refine sgo ?_
      refine ⟨rfl,Int.natCast_nonneg _,_,hay, ?_⟩
      conv =>whnf
      refine sgo ?_
      refine brB_iff.2 ⟨fun h3=> ?_,fun h3=> ?_⟩<;>conv=>whnf
      ·refine sgo ?_
       exact out fun e=>(ne_of_get hgx hgy (ne_of_get gax gay (fun e=>by subst e;simp[eqZ_eq] at h3))) e.2
      ·have hpq:p=q:=by simpa[eqZ_eq,Prod.ext_iff] using h3
       refine sgo ?_
       rw [wrap_succ hltk hkl]
       intro hg'
       exact ⟨a.length-(k+1),fg [2,3,4,5,6] _,_,by omega,Wk.fg hg'.1 hg'.2,rfl,k+1,hltk,rfl,rfl,take_succ_eq gax gay htk hpq⟩
     ·have hge:a.length≤k:=by rw[ltZ_eq] at h2;simpa using h2
      rw [List.take_of_length_le hge,List.take_of_length_le (by omega)] at htk
      refine sgo ?_
      rw [wrap_succ hlt hl]
      intro hg'
      exact ⟨x.length-(i+1),fg [2,3,4,5] _,_,by omega,Wk.fg hg'.1 hg'.2,rfl,i+1,hlt,rfl,rfl,take_succ_eq hgx hgy ht htk⟩
   ·have hge:x.length≤i:=by rw[ltZ_eq] at h1;simpa using h1
    rw [List.take_of_length_le hge,List.take_of_length_le (by omega)] at ht
    refine sgo ?_
    rw [←hB,decide_eq_true ⟨hvw,ht⟩]
def iV (n:Int):V:= .i .i64 n
abbrev Ev:=Int×Int×Int×Int×Int×Int
def evV (e:Ev):V:= .ag [.i .i64 e.1, .i .i64 e.2.1, .i .i64 e.2.2.1, .i .i64 e.2.2.2.1, .i .i64 e.2.2.2.2.1, .i .i64 e.2.2.2.2.2]
def vsV (l:List Int):V:= .pu 1 (l.map iV) .u
def fsV (l:List Ev):V:= .pu 6 (l.map evV) .u
abbrev Pr:=(Int×List Kd)×List Int×Int
def prV (p:Pr):V:= .ag [.i .i64 p.1.1,ksV p.1.2,vsV p.2.1, .i .i64 p.2.2]
def psV (l:List Pr):V:= .pu 4 (l.map prV) .u
def mV (ps:List Pr)(fs:List Ev):V:= .ag [psV ps,fsV fs]
theorem iV_nm {L:Nat→Prop}(x:Int):Nm L (iV x):= .i _ _
theorem evV_nm {L:Nat→Prop}(x:Ev):Nm L (evV x):= .ag _ (fun v hv=>by
 simp only[List.mem_cons,List.not_mem_nil,or_false] at hv
 rcases hv with rfl|rfl|rfl|rfl|rfl|rfl<;>exact .i _ _)
theorem vsV_nm {L:Nat→Prop}(k:List Int):Nm L (vsV k):= .pu _ _ _ (fun v hv=>by
 obtain ⟨x,-,rfl⟩:=List.mem_map.1 hv;exact iV_nm x) (fun k hk=>by cases hk)
theorem fsV_nm {L:Nat→Prop}(k:List Ev):Nm L (fsV k):= .pu _ _ _ (fun v hv=>by
 obtain ⟨x,-,rfl⟩:=List.mem_map.1 hv;exact evV_nm x) (fun k hk=>by cases hk)
theorem prV_nm {L:Nat→Prop}(p:Pr):Nm L (prV p):= .ag _ (fun v hv=>by
 simp only[List.mem_cons,List.not_mem_nil,or_false] at hv
 rcases hv with rfl|rfl|rfl|rfl
 ·exact .i _ _
 ·exact ksV_nm _
 ·exact vsV_nm _
 ·exact .i _ _)
theorem psV_nm {L:Nat→Prop}(k:List Pr):Nm L (psV k):= .pu _ _ _ (fun v hv=>by
 obtain ⟨x,-,rfl⟩:=List.mem_map.1 hv;exact prV_nm x) (fun k hk=>by cases hk)
theorem mV_nm {L:Nat→Prop}(ps:List Pr)(fs:List Ev):Nm L (mV ps fs):= .ag _ (nm2 (psV_nm _) (fsV_nm _))
def Ei14 (x y:List Int)(i:Nat):List V:=vsV x::vsV y:: .bad:: .bad:: .b false:: .i .i64 (i:Nat)::List.replicate 20 .bad
theorem same14_den (x y:List Int)(hl:x.length≤maxLen):PDen gt0 Tryz.prog 30 [vsV x,vsV y] (.b (decide (x=y))):=by
 generalize hB:decide (x=y)=B
 refine PDen.hc gnm0 hF30 (nm2 (vsV_nm _) (vsV_nm _)) (.b _) ?_
 have hlx:(x.map iV).length=x.length:=List.length_map ..
 have hly:(y.map iV).length=y.length:=List.length_map ..
 conv =>whnf
 refine sgo ?_
 refine brB_iff.2 ⟨fun h=> ?_,fun h=> ?_⟩<;>conv=>whnf
 ·refine sgo ?_
  have h1:x≠y:=fun e=>by subst e;simp[eqZ_eq] at h
  rw [←hB,decide_eq_false h1]
 ·have hxy:x.length=y.length:=by simp[eqZ_eq] at h;omega
  refine sgo ?_
  refine HC.loop gnm0 fun hg=>⟨fun n e s=>s=s0∧∃i:Nat,i≤x.length∧n=x.length-i∧e=Ei14 x y i∧x.take i=y.take i,⟨x.length,fg [0,1,4,5] _,_,Wk.fg hg.1 hg.2,rfl,0,Nat.zero_le _,rfl,rfl,rfl⟩, ?_⟩
  rintro n e s ⟨rfl,i,hi,rfl,rfl,ht⟩
  conv =>whnf
  refine sgo ?_
  refine brB_iff.2 ⟨fun h1=> ?_,fun h1=> ?_⟩<;>conv=>whnf
  ·have hlt:i<x.length:=by rw[ltZ_eq] at h1;simp at h1;omega
   have hmx:(x.map iV)[((i:Nat):Int).toNat]? =some (iV x[i]):=by simp[hlt]
   have hmy:(y.map iV)[((i:Nat):Int).toNat]? =some (iV (y[i]'(hxy▸hlt))):=by simp[hxy▸hlt]
   have hgx:x[i]? =some x[i]:=by simp[hlt]
   have hgy:y[i]? =some (y[i]'(hxy▸hlt)):=by simp[hxy▸hlt]
   generalize x[i]=a at hmx hgx
   generalize y[i]'(hxy▸hlt)=b at hmy hgy
   refine sgo ?_
   refine ⟨rfl,Int.natCast_nonneg _,_,hmx, ?_⟩
   conv =>whnf
   refine sgo ?_
   refine ⟨rfl,Int.natCast_nonneg _,_,hmy, ?_⟩
   conv =>whnf
   refine sgo ?_
   refine brB_iff.2 ⟨fun h2=> ?_,fun h2=> ?_⟩<;>conv=>whnf
   ·refine sgo ?_
    have h1:x≠y:=ne_of_get hgx hgy (fun e=>by subst e;simp[eqZ_eq] at h2)
    rw [←hB,decide_eq_false h1]
   ·refine sgo ?_
    have hab:a=b:=by simpa[eqZ_eq,Prod.ext_iff] using h2
    rw [wrap_succ hlt hl]
    intro hg'
    exact ⟨x.length-(i+1),fg [0,1,4,5] _,_,by omega,Wk.fg hg'.1 hg'.2,rfl,i+1,hlt,rfl,rfl,take_succ_eq hgx hgy ht hab⟩
  ·have hge:x.length≤i:=by rw[ltZ_eq] at h1;simp at h1;omega
   refine sgo ?_
   rw [List.take_of_length_le hge,List.take_of_length_le (by omega)] at ht
   rw [←hB,decide_eq_true ht]
def Ee28 (x y:List Ev)(i:Nat):List V:=fsV x::fsV y:: .bad:: .bad:: .b false:: .i .i64 (i:Nat)::List.replicate 20 .bad
theorem same28_den (x y:List Ev)(hl:x.length≤maxLen):PDen gt0 Tryz.prog 29 [fsV x,fsV y] (.b (decide (x=y))):=by
 generalize hB:decide (x=y)=B
 refine PDen.hc gnm0 hF29 (nm2 (fsV_nm _) (fsV_nm _)) (.b _) ?_
 have hlx:(x.map evV).length=x.length:=List.length_map ..
 have hly:(y.map evV).length=y.length:=List.length_map ..
 conv =>whnf
 refine sgo ?_
 refine brB_iff.2 ⟨fun h=> ?_,fun h=> ?_⟩<;>conv=>whnf
 ·refine sgo ?_
  have h1:x≠y:=fun e=>by subst e;simp[eqZ_eq] at h
  rw [←hB,decide_eq_false h1]
 ·have hxy:x.length=y.length:=by simp[eqZ_eq] at h;omega
  refine sgo ?_
  refine HC.loop gnm0 fun hg=>⟨fun n e s=>s=s0∧∃i:Nat,i≤x.length∧n=x.length-i∧e=Ee28 x y i∧x.take i=y.take i,⟨x.length,fg [0,1,4,5] _,_,Wk.fg hg.1 hg.2,rfl,0,Nat.zero_le _,rfl,rfl,rfl⟩, ?_⟩
  rintro n e s ⟨rfl,i,hi,rfl,rfl,ht⟩
  conv =>whnf
  refine sgo ?_
  refine brB_iff.2 ⟨fun h1=> ?_,fun h1=> ?_⟩<;>conv=>whnf
  ·have hlt:i<x.length:=by rw[ltZ_eq] at h1;simp at h1;omega
   have hmx:(x.map evV)[((i:Nat):Int).toNat]? =some (evV x[i]):=by simp[hlt]
   have hmy:(y.map evV)[((i:Nat):Int).toNat]? =some (evV (y[i]'(hxy▸hlt))):=by simp[hxy▸hlt]
   have hgx:x[i]? =some x[i]:=by simp[hlt]
   have hgy:y[i]? =some (y[i]'(hxy▸hlt)):=by simp[hxy▸hlt]
   generalize x[i]=a at hmx hgx
   generalize y[i]'(hxy▸hlt)=b at hmy hgy
   refine sgo ?_
   refine ⟨rfl,Int.natCast_nonneg _,_,hmx, ?_⟩
   conv =>whnf
   refine sgo ?_
   refine ⟨rfl,Int.natCast_nonneg _,_,hmy, ?_⟩
   conv =>whnf
   refine sgo ?_
   refine brB_iff.2 ⟨fun h2=> ?_,fun h2=> ?_⟩<;>conv=>whnf
   ·refine sgo ?_
    have h1:x≠y:=ne_of_get hgx hgy (fun e=>by subst e;simp[eqZ_eq] at h2)
    rw [←hB,decide_eq_false h1]
   ·refine sgo ?_
    have hab:a=b:=by simpa[eqZ_eq,Prod.ext_iff] using h2
    rw [wrap_succ hlt hl]
    intro hg'
    exact ⟨x.length-(i+1),fg [0,1,4,5] _,_,by omega,Wk.fg hg'.1 hg'.2,rfl,i+1,hlt,rfl,rfl,take_succ_eq hgx hgy ht hab⟩
  ·have hge:x.length≤i:=by rw[ltZ_eq] at h1;simp at h1;omega
   refine sgo ?_
   rw [List.take_of_length_le hge,List.take_of_length_le (by omega)] at ht
   rw [←hB,decide_eq_true ht]
theorem wk_s0 {ks:List Nat}{e e1:List V}{s:St}(he:e1=fg ks e)(hn:∀v∈e1,Nm s0.L v):Wk e1 s0 e s:=by
 subst he
 have hno:∀l o,s0.get l≠some o:=fun l o h=>by rw[s0_get] at h;cases h
 exact ⟨fg_forg ks e,fun l o h=>(hno l o h).elim,fun l h=>(by simp[s0] at h),fun l o h=>(hno l o h).elim, .inr (fun l cs z t h=>(hno l _ h).elim), .inr (fun l o h=>(hno l _ h).elim), .inr hn⟩
def okP (p:Pr):Prop:=p.1.2.length≤maxLen∧(∀k∈p.1.2,k.length≤maxLen)∧p.2.1.length≤maxLen
theorem pr_eq {p q:Pr}(h1:p.2.2=q.2.2)(h2:p.2.1=q.2.1)(h3:p.1.1=q.1.1∧p.1.2=q.1.2):p=q:=by
 obtain ⟨⟨a,b⟩,c,d⟩:=p
 obtain ⟨⟨a',b'⟩,c',d'⟩:=q
 simp_all
def ERM (x y:List Pr)(f g:List Ev)(i:Nat):List V:= .bad:: .bad:: .q (mV x f) 0:: .q (mV y g) 0:: .b false:: .i .i64 (i:Nat)::List.replicate 55 .bad
theorem ERM_nm {L:Nat→Prop}(x y:List Pr)(f g:List Ev)(i:Nat):∀v∈ERM x y f g i,Nm L v:=fun v hv=>by
 simp only[ERM,List.mem_cons,List.mem_replicate] at hv
 rcases hv with rfl|rfl|rfl|rfl|rfl|rfl|⟨-,rfl⟩
 ·exact .bad
 ·exact .bad
 ·exact .q _ _ (mV_nm _ _)
 ·exact .q _ _ (mV_nm _ _)
 ·exact .b _
 ·exact .i _ _
 ·exact .bad
theorem rmsame_den (x y : List Pr) (f g : List Ev) (hl : x.length ≤ maxLen) (hk : ∀ p ∈ x, okP p) (hf : f.length ≤ maxLen) : PDen gt0 Tryz.prog 10 [mV x f, mV y g] (.b (decide (x = y) && decide (f = g))) := by
  generalize hB : (decide (x = y) && decide (f = g)) = B
  refine PDen.hc gnm0 hF10 (nm2 (mV_nm _ _) (mV_nm _ _)) (.b _) ?_
  have hlx : (x.map prV).length = x.length := List.length_map ..
  have hly : (y.map prV).length = y.length := List.length_map ..
  have out1 : x ≠ y → V.b false = V.b B := fun h => by rw [← hB, decide_eq_false h]; rfl
  have out2 : f ≠ g → V.b false = V.b B := fun h => by rw [← hB, decide_eq_false h, Bool.and_false]
  have e1 := same28_den f g hf
  conv => whnf
  refine sgo ?_
  refine brB_iff.2 ⟨fun h => ?_, fun h => ?_⟩ <;> conv => whnf
  · refine sgo ?_
    exact out1 fun e => by subst e; simp [eqZ_eq] at h
  · have hxy : x.length = y.length := by simp [eqZ_eq] at h; omega
    refine sgo ?_
    refine ⟨_, _, e1 _, ?_⟩
    conv => whnf
    refine sgo ?_
    refine brB_iff.2 ⟨fun h => ?_, fun h => ?_⟩ <;> conv => whnf
    · refine sgo ?_
      exact out2 (by simpa using h)
    · have hfg : f = g := by simpa using h
      refine sgo ?_
      refine HC.loop gnm0 fun hg => ⟨fun n e s => s = s0 ∧ ∃ i : Nat, i ≤ x.length ∧ n = x.length - i ∧ e = ERM x y f g i ∧ x.take i = y.take i, ⟨x.length, fg [2, 3, 4, 5] _, _, Wk.fg hg.1 hg.2, rfl, 0, Nat.zero_le _, rfl, rfl, rfl⟩, ?_⟩
      rintro n e s ⟨rfl, i, hi, rfl, rfl, ht⟩
      conv => whnf
      refine sgo ?_
      refine brB_iff.2 ⟨fun h1 => ?_, fun h1 => ?_⟩ <;> conv => whnf
      · have hlt : i < x.length := by rw [ltZ_eq] at h1; simp at h1; omega
        have hmx : (x.map prV)[((i : Nat) : Int).toNat]? = some (prV x[i]) := by simp [hlt]
        have hmy : (y.map prV)[((i : Nat) : Int).toNat]? = some (prV (y[i]'(hxy ▸ hlt))) := by simp [hxy ▸ hlt]
        have hgx : x[i]? = some x[i] := by simp [hlt]
        have hgy : y[i]? = some (y[i]'(hxy ▸ hlt)) := by simp [hxy ▸ hlt]
        have hkl := hk x[i] (List.getElem_mem hlt)
        generalize x[i] = a at hmx hgx hkl
        generalize y[i]'(hxy ▸ hlt) = b at hmy hgy
        have d1 := same14_den a.2.1 b.2.1 hkl.2.2
        have d2 := rsame_den a.1.1 b.1.1 a.1.2 b.1.2 hkl.1 hkl.2.1
        have hne : a ≠ b → V.b false = V.b B := fun h => out1 (ne_of_get hgx hgy h)
        generalize h1 : decide (a.2.1 = b.2.1) = b1 at d1
        generalize h2 : decide (a.1.1 = b.1.1 ∧ a.1.2 = b.1.2) = b2 at d2
        have hw := wrap_succ hlt hl
        repeat' (first | refine sgw ?_ | (refine ⟨rfl, Int.natCast_nonneg _, _, hmx, ?_⟩; conv => whnf) | (refine ⟨rfl, Int.natCast_nonneg _, _, hmy, ?_⟩; conv => whnf) | (refine ⟨_, _, d1 _, ?_⟩; conv => whnf) | (refine ⟨_, _, d2 _, ?_⟩; conv => whnf) | (refine ⟨stays_one rfl, ?_⟩; conv => whnf) | (refine brB_iff.2 ⟨fun hc => ?_, fun hc => ?_⟩ <;> conv => whnf))
        all_goals first
          | (refine hne (fun e => ?_)
             subst e
             simp_all [eqZ_eq])
          | (intro hg'
             rw [hw]
             have hab : a = b := pr_eq (by simp_all [eqZ_eq]) (by simp_all) (by simp_all)
             exact ⟨x.length - (i + 1), ERM x y f g (i + 1), _, by omega, wk_s0 (ks := [2, 3, 4, 5]) rfl (ERM_nm _ _ _ _ _), rfl, i + 1, hlt, rfl, rfl, take_succ_eq hgx hgy ht hab⟩)
      · have hge : x.length ≤ i := by rw [ltZ_eq] at h1; simp at h1; omega
        rw [List.take_of_length_le hge, List.take_of_length_le (by omega)] at ht
        refine sgo ?_
        rw [← hB, decide_eq_true ht, decide_eq_true hfg]
        rfl
end Go.Proofs.YtlhopiehnaabgaaGreatDoor
