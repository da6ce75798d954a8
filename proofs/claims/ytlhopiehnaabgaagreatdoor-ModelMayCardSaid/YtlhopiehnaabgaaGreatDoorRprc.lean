import Derived.Test.YtlhopiehnaabgaaGreatDoorLE
import Derived.Test.YtlhopiehnaabgaaGreatDoorOps
set_option linter.all false
namespace Go.Proofs.YtlhopiehnaabgaaGreatDoor
open Go Rf
set_option maxRecDepth 100000
set_option maxHeartbeats 2000000
theorem numb1_all:((List.range 256).all fun n=>eqZ (acc8 0 (UInt8.ofNat n)) (n:Nat))=true:=by kernel_rfl
theorem numb1 (x:UInt8):numb [x]=(x.toNat:Nat):=by
 have h:=List.all_eq_true.1 numb1_all x.toNat (List.mem_range.2 x.toNat_lt)
 rw [eqZ_eq,UInt8.ofNat_toNat] at h
 show acc8 0 x=_
 simpa using h
def insP (bs:List UInt8)(a:Nat):Option ((Int×Int)×Nat):=match bs[a]? with
 | none=>none
 | some x=>if nb (x.toNat:Nat)=true then(if a+9≤bs.length then some ((((x.toNat:Nat):Int),numb ((bs.drop (a+1)).take 8)),a+9) else none) else some ((((x.toNat:Nat):Int),0),a+1)
def kdI (bs:List UInt8)(a:Nat):Nat→Option (Kd×Nat)
 | 0=>some ([],a)
 | i+1=>match kdI bs a i with
  | none=>none
  | some (k,b)=>match insP bs b with
   | none=>none
   | some (x,c)=>some (k++[x],c)
def kindP (bs:List UInt8)(a:Nat):Option (Kd×Nat):=match bs[a]? with
 | none=>none
 | some m=>kdI bs (a+1) m.toNat
def ksI (bs:List UInt8):Nat→Option (List Kd×Nat)
 | 0=>some ([],2)
 | i+1=>match ksI bs i with
  | none=>none
  | some (ks,b)=>match kindP bs b with
   | none=>none
   | some (k,c)=>some (ks++[k],c)
def progP (bs:List UInt8):Option (Int×List Kd×Nat):=match bs[0]?,bs[1]? with
 | some v,some n=>match ksI bs n.toNat with
  | none=>none
  | some (ks,a)=>some (((v.toNat:Nat):Int),ks,a)
 | _,_=>none
theorem insP_le {bs:List UInt8}{a c:Nat}{x:Int×Int}(h:insP bs a=some (x,c)):c≤bs.length:=by
 unfold insP at h
 split at h
 ·cases h
 ·rename_i y hy
  have :=(List.getElem?_eq_some_iff.1 hy).1
  split at h
  ·split at h
   ·cases h;omega
   ·cases h
  ·cases h;omega
theorem kdI_le {bs:List UInt8}{a:Nat}(ha:a≤bs.length):∀(i:Nat){k:Kd}{c:Nat},kdI bs a i=some (k,c)→c≤bs.length∧k.length=i
 | 0,k,c,h=>by cases h;exact⟨ha,rfl⟩
 | i+1,k,c,h=>by
  simp only[kdI] at h
  split at h
  ·cases h
  ·rename_i k0 b h0
   split at h
   ·cases h
   ·rename_i x c0 h1
    cases h
    exact ⟨insP_le h1,by simp[(kdI_le ha i h0).2]⟩
theorem kdI_none {bs : List UInt8} {a i : Nat} (h : kdI bs a i = none) : ∀ j, i ≤ j → kdI bs a j = none := fun j hj => by
  induction j with
  | zero => have : i = 0 := by omega
            subst this; exact h
  | succ j ih =>
    by_cases e : i = j + 1
    · subst e; exact h
    · simp only [kdI, ih (by omega)]
theorem kindP_le {bs:List UInt8}{a c:Nat}{k:Kd}(h:kindP bs a=some (k,c)):c≤bs.length∧k.length≤255:=by
 unfold kindP at h
 split at h
 ·cases h
 ·rename_i m hm
  have h1:=(List.getElem?_eq_some_iff.1 hm).1
  have h2:=kdI_le (by omega) _ h
  have :=m.toNat_lt
  exact ⟨h2.1,by omega⟩
theorem ksI_le {bs:List UInt8}(hb:2≤bs.length):∀(i:Nat){ks:List Kd}{c:Nat},ksI bs i=some (ks,c)→c≤bs.length∧ks.length=i∧∀k∈ks,k.length≤255
 | 0,ks,c,h=>by cases h;exact⟨hb,rfl,fun k hk=>by simp at hk⟩
 | i+1,ks,c,h=>by
  simp only[ksI] at h
  split at h
  ·cases h
  ·rename_i k0 b h0
   split at h
   ·cases h
   ·rename_i x c0 h1
    cases h
    have h2:=ksI_le hb i h0
    have h3:=kindP_le h1
    refine ⟨h3.1,by simp[h2.2.1],fun k hk=> ?_⟩
    rcases List.mem_append.1 hk with hk|hk
    ·exact h2.2.2 k hk
    ·simp only[List.mem_singleton] at hk;subst hk;exact h3.2
theorem ksI_none {bs : List UInt8} {i : Nat} (h : ksI bs i = none) : ∀ j, i ≤ j → ksI bs j = none := fun j hj => by
  induction j with
  | zero => have : i = 0 := by omega
            subst this; exact h
  | succ j ih =>
    by_cases e : i = j + 1
    · subst e; exact h
    · simp only [ksI, ih (by omega)]
structure PI (s z:St) (l N:Nat) (bs:List UInt8) (a:Nat) (t:Option Nat) (v:Int) (pkv:V) (ks:List Kd) (tk:Option Nat):Prop where
 u :Ups s z l (rdO bs a t)
 n :z.get N=some (.c [.i .i64 v,pkv] 0 (some 48))
 a :Acc z 1 pkv (ks.map kV) tk
 g :Rf.Good z
 hN :s.n≤N
 hl :l<s.n
 tn :∀k,tk=some k→s.n≤k
section
variable {s z:St} {l N:Nat} {bs:List UInt8} {a:Nat} {t:Option Nat} {v:Int} {pkv:V} {ks:List Kd} {tk:Option Nat}
theorem PI.num (h:PI s z l N bs a t v pkv ks tk)(a':Nat):PI s (z.put l (some (rdO bs a' t))) l N bs a' t v pkv ks tk:=
 ⟨h.u.put _,by rw[St.get_put_ne _ _ _ _ (by have:=h.hl;have:=h.hN;omega)];exact h.n,h.a.putc h.u.o _,h.g.put h.u.o,h.hN,h.hl,h.tn⟩
theorem PI.lz (h:PI s z l N bs a t v pkv ks tk):l<z.n:=Nat.lt_of_lt_of_le h.hl h.u.n
theorem PI.new (h:PI s z l N bs a t v pkv ks tk)(o:O):PI s (z.new o) l N bs a t v pkv ks tk:=
 ⟨h.u.new h.lz o,by rw[St.get_new_ne _ _ _ (Nat.ne_of_lt (h.g.1 N _ h.n).1)];exact h.n,h.a.newk h.g o,h.g.new,h.hN,h.hl,h.tn⟩
theorem PI.oth (h:PI s z l N bs a t v pkv ks tk){X zz:Nat}{cs cs':List V}{ty:Option Nat}(hX:z.get X=some (.c cs zz ty))(h1:s.n≤X)(h2:X≠N):PI s (z.put X (some (.c cs' zz ty))) l N bs a t v pkv ks tk:=
 ⟨h.u.put2 h1 h.hl _,by rw[St.get_put_ne _ _ _ _ (Ne.symm h2)];exact h.n,h.a.putc hX _,h.g.put hX,h.hN,h.hl,h.tn⟩
theorem PI.row (h:PI s z l N bs a t v pkv ks tk){z':St}{o':Option Nat}(hg:Rf.Good z')(hn:z.n≤z'.n)(hgg:z'.g=z.g)(hfr:∀j,o'≠some j→j<z.n→z'.get j=z.get j)(h1:∀k,tk=some k→o'≠some k)(hl':o'≠some l)(hN':o'≠some N)(h4:∀k,o'=some k→s.n≤k):PI s z' l N bs a t v pkv ks tk:=by
 have hNn:=(h.g.1 N _ h.n).1
 refine ⟨⟨Nat.le_trans h.u.n hn,by rw[hgg,h.u.g],by rw[hfr l hl' h.lz];exact h.u.o,fun m hm hml=> ?_⟩,by rw[hfr N hN' hNn];exact h.n,h.a.keep fun k hk=>hfr k (h1 k hk) (by subst hk;exact h.a.lt h.g),hg,h.hN,h.hl,h.tn⟩
 rw [hfr m (fun e=>by have:=h4 m e;omega) (Nat.lt_of_lt_of_le hm h.u.n)]
 exact h.u.r m hm hml
end
theorem drop_take1 {bs:List UInt8}{a:Nat}{x:UInt8}(h:bs[a]? =some x):numb ((bs.drop a).take 1)=((x.toNat:Nat):Int):=by
 have :(bs.drop a).take 1=[x]:=by
  have :=take_snoc (at':=a) (j:=0) (by simpa using h)
  simpa using this
 rw [this,numb1]
def c35_2:C:= .blk 2 (.loop (.seq (.ops [⟨some 15,none, .a (.bin .lss (.t 14) (.t 13))⟩]) (.seq (.cond (.t 15) .skip (.exit 2)) (.seq (.blk 3 (.seq (.ops [⟨some 16,none, .a (.mov (.t 0))⟩,⟨some 17,none, .call 109 [.t 16, .c (.i .i64 1)]⟩,⟨some 18,none, .a (.build [.i .i64 0, .i .i64 0] [(0,1, .t 17)])⟩,⟨some 4,none, .a (.alloc 58 [.i .i64 0, .i .i64 0])⟩,⟨none,none, .a (.store 2 (.t 4) (.t 18))⟩]) (.seq (.seq (.ops [⟨some 19,none, .a (.fa 0 (.t 4))⟩,⟨some 20,none, .a (.load1 (.t 19))⟩,⟨some 21,none, .call 59 [.t 20]⟩]) (.cond (.t 21) (.ops [⟨some 22,none, .a (.mov (.t 0))⟩,⟨some 23,none, .call 109 [.t 22, .c (.i .i64 8)]⟩,⟨some 24,none, .a (.fa 1 (.t 4))⟩,⟨none,none, .a (.store 1 (.t 24) (.t 23))⟩]) .skip)) (.ops [⟨some 25,none, .a (.mov (.t 3))⟩,⟨some 26,none, .a (.loadn 2 (.t 4))⟩,⟨some 27,none, .a (.bsl 58 true true 1 2 [.i .i64 0, .i .i64 0] [(0,2, .t 26)])⟩,⟨some 28,none, .a (.app 58 true true 2 16 (.t 25) (.t 27))⟩,⟨some 3,none, .a (.mov (.t 28))⟩])))) (.ops [⟨some 29,none, .a (.bin .add (.t 14) (.c (.i .i64 1)))⟩,⟨some 14,none, .a (.mov (.t 29))⟩])))))
def EP (l N:Nat)(cnt i:Nat):List V:=(.p l 0:: .bad:: .p N 0:: .bad:: .bad:: .bad:: .bad:: .bad:: .bad:: .i .i64 (cnt:Nat):: .i .i64 (i:Nat)::List.replicate 27 .bad)
def EP3 (l N:Nat)(cnt i:Nat)(kv:V):List V:=(.p l 0:: .bad:: .p N 0::kv:: .bad:: .bad:: .bad:: .bad:: .bad:: .i .i64 (cnt:Nat):: .i .i64 (i:Nat)::List.replicate 27 .bad)
def EP2 (l N:Nat)(cnt i many j:Nat)(kv:V):List V:=(.p l 0:: .bad:: .p N 0::kv:: .bad:: .bad:: .bad:: .bad:: .bad:: .i .i64 (cnt:Nat):: .i .i64 (i:Nat):: .bad:: .bad:: .i .i64 (many:Nat):: .i .i64 (j:Nat)::List.replicate 23 .bad)
theorem PI.box {s z:St}{l N:Nat}{bs:List UInt8}{a:Nat}{t:Option Nat}{v:Int}{pkv:V}{ks:List Kd}{tk:Option Nat}(h:PI s z l N bs a t v pkv ks tk){v':Int}{pkv':V}{ks':List Kd}{tk':Option Nat}(hA:Acc z 1 pkv' (ks'.map kV) tk')(htn:∀k,tk'=some k→s.n≤k):
  PI s (z.put N (some (.c [.i .i64 v',pkv'] 0 (some 48)))) l N bs a t v' pkv' ks' tk':=
 ⟨h.u.put2 h.hN h.hl _,St.get_put_same _ _ _,hA.putc h.n _,h.g.put h.n,h.hN,h.hl,htn⟩
theorem PI.push {s z:St}{l N:Nat}{bs:List UInt8}{a:Nat}{t:Option Nat}{v:Int}{pkv:V}{ks:List Kd}{tk:Option Nat}(h:PI s z l N bs a t v pkv ks tk){z':St}{pkv':V}{ks':List Kd}{tk':Option Nat}(hA:Acc z' 1 pkv' (ks'.map kV) tk')(hg:Rf.Good z')
  (hor:tk'=tk∨(tk=none∧tk'=some z.n)) (hn:z.n≤z'.n) (hgg:z'.g=z.g) (hfr:∀j,tk'≠some j→j<z.n→z'.get j=z.get j):
  z'.get N=some (.c [.i .i64 v,pkv] 0 (some 48))∧PI s (z'.put N (some (.c [.i .i64 v,pkv'] 0 (some 48)))) l N bs a t v pkv' ks' tk':=by
 have hNn:=(h.g.1 N _ h.n).1
 have hl':tk'≠some l:=fun e=>by
  rcases hor with h1|⟨-,h1⟩
  ·rw[h1] at e;exact h.a.ne h.u.o e
  ·rw[h1] at e;cases e;exact Nat.lt_irrefl _ h.lz
 have hN':tk'≠some N:=fun e=>by
  rcases hor with h1|⟨-,h1⟩
  ·rw[h1] at e;exact h.a.ne h.n e
  ·rw[h1] at e;cases e;exact Nat.lt_irrefl _ hNn
 have htn:∀q,tk'=some q→s.n≤q:=fun q hq=>by
  rcases hor with h1|⟨-,h1⟩
  ·exact h.tn q (by rw[←h1];exact hq)
  ·rw[h1] at hq;cases hq;exact h.u.n
 have hzN:z'.get N=some (.c [.i .i64 v,pkv] 0 (some 48)):=by rw[hfr N hN' hNn];exact h.n
 have hU:Ups s z' l (rdO bs a t):=⟨Nat.le_trans h.u.n hn,by rw[hgg,h.u.g],by rw[hfr l hl' h.lz];exact h.u.o,fun m hm hml=>by
  rw [hfr m (fun e=>by have:=htn m e;omega) (Nat.lt_of_lt_of_le hm h.u.n)];exact h.u.r m hm hml⟩
 exact ⟨hzN,hU.put2 h.hN h.hl _,St.get_put_same _ _ _,hA.putc hzN _,hg.put hzN,h.hN,h.hl,htn⟩
theorem room_s {n b:Nat}(h:n≤300)(hb:b≤64):room n b=true:=by
 have :(2* n+1024)* b≤(2* 300+1024)* 64:=Nat.mul_le_mul (by omega) hb
 simp only[room,decide_eq_true_eq];omega
theorem ins_chunk (x:Int×Int):chunks true 2 (([V.ag [.i .i64 x.1, .i .i64 x.2]].map V.cells).flatten) 1=[x].map insV:=chunk_single (sz:=2) rfl
theorem kd_loop {s z:St}{l N:Nat}{bs:List UInt8}{a0:Nat}{t:Option Nat}{v:Int}{pkv:V}{ks:List Kd}{tk:Option Nat}(hb:bs.length≤300000)(ha0:a0≤bs.length)(h:PI s z l N bs a0 t v pkv ks tk){cnt i many:Nat}(hmany:many≤255){e:List V}(he:fg [0,2,3,9,10,13,14] e=EP2 l N cnt i many 0 .ns){Q:XM→List V→St→Prop}
  (hp:kdI bs a0 many=none→∀e s',Ups s s' l (rdO bs bs.length t)→Q (.pan (.ifc 133 (.ag []))) e s')
  (hq:∀k a e s' kv tk2,kdI bs a0 many=some (k,a)→fg [0,2,3,9,10] e=EP3 l N cnt i kv→PI s s' l N bs a t v pkv ks tk→Acc s' 2 kv (k.map insV) tk2→Q .nrm e s'):HM gt0 Tryz.prog s c35_2 e z Q:=by
 have hm:1000000≤maxLen:=by decide
 refine HM.blk ?_
 refine HM.loop gnm0 fun hg=>⟨fun n e s'=>∃(j:Nat)(k:Kd)(a:Nat)(kv:V)(tk2:Option Nat),j≤many∧n=many-j∧kdI bs a0 j=some (k,a)∧e=EP2 l N cnt i many j kv∧PI s s' l N bs a t v pkv ks tk∧Acc s' 2 kv (k.map insV) tk2∧(∀q,tk2=some q→s.n≤q)∧(∀q,tk=some q→tk2≠some q),
  ⟨many,fg [0,2,3,9,10,13,14] _,_,WkM.fg hg,0,[],a0, .ns,none,Nat.zero_le _,rfl,rfl,he,h,Acc.nil z 2,fun q hq=>(by cases hq),fun q _ hq=>(by cases hq)⟩, ?_⟩
 rintro n e s' ⟨j,k,a,kv,tk2,hj,rfl,hk,rfl,hPI,hA,ht2,ht3⟩
 obtain ⟨hal,hkl⟩:=kdI_le ha0 j hk
 conv =>whnf
 refine sghx ?_
 refine HM.ops ?_
 conv =>whnf
 refine sghx ?_
 refine brB_iff.2 ⟨fun h1=> ?_,fun h1=> ?_⟩<;>conv=>whnf
 ·have hlt:j<many:=by rw[ltZ_eq] at h1;simpa using h1
  refine sghx ?_
  have hrd:=hPI.u.o
  cases hx:bs[a]? with
  | none=>
   have hlen:bs.length≤a:=by rwa [List.getElem?_eq_none_iff] at hx
   have hbad:kdI bs a0 many=none:=kdI_none (i:=j+1) (by simp only[kdI,hk,insP,hx]) _ hlt
   refine HM.opsp ?_
   refine HP.opA (krun_mov nthx) ?_
   conv =>whnf
   refine HP.call (number_pan s' l bs a 1 t hrd hb (by omega) hal (by omega)) ?_
   exact hp hbad _ _ (hPI.num bs.length).u
  | some o=>
   have hlen:a<bs.length:=(List.getElem?_eq_some_iff.1 hx).1
   refine HM.ops ?_
   conv =>whnf
   refine sghx ?_
   refine ⟨_,_,number_den s' l bs a 1 t hrd hb (by omega) (by omega), ?_⟩
   rw [drop_take1 hx]
   have hz2:=hPI.num (a+1)
   have hA2:=hA.putc hrd (some (rdO bs (a+1) t))
   generalize St.put s' _ _=z2 at*
   conv =>whnf
   refine sghx ?_
   refine HO.opA (krun_build (cs:=[.i .i64 (o.toNat:Nat), .i .i64 0]) (fillp_cons rfl rfl rfl (by decide) rfl)) ?_
   conv =>whnf
   refine HO.opA krun_alloc ?_
   have hX3:(z2.new (.c [.i .i64 0, .i .i64 0] 0 (some 58))).get z2.n=some (.c [.i .i64 0, .i .i64 0] 0 (some 58)):=St.get_new_same _ _
   have hz3:=hz2.new (.c [.i .i64 0, .i .i64 0] 0 (some 58))
   have hA3:=hA2.newk hz2.g (.c [.i .i64 0, .i .i64 0] 0 (some 58))
   have hXN:z2.n≠N:=Nat.ne_of_gt (hz2.g.1 N _ hz2.n).1
   have hXs:s.n≤z2.n:=hz2.u.n
   generalize z2.new _=z3 at*
   generalize z2.n=X at*
   conv =>whnf
   refine HO.opA (krun_store (n:=2) (l:=X) (o:=0) (v:= .ag [.i .i64 (o.toNat:Nat), .i .i64 0]) (cs':=[.i .i64 (o.toNat:Nat), .i .i64 0]) (by rfl) (by rfl) hX3 rfl rfl (Nat.zero_le _) (by simp) rfl) ?_
   have hX4:(z3.put X (some (.c [.i .i64 (o.toNat:Nat), .i .i64 0] 0 (some 58)))).get X=some (.c [.i .i64 (o.toNat:Nat), .i .i64 0] 0 (some 58)):=St.get_put_same _ _ _
   have hz4:=hz3.oth (cs':=[.i .i64 (o.toNat:Nat), .i .i64 0]) hX3 hXs hXN
   have hA4:=hA3.putc hX3 (some (.c [.i .i64 (o.toNat:Nat), .i .i64 0] 0 (some 58)))
   generalize St.put z3 _ _=z4 at*
   conv =>whnf
   refine sghx ?_
   refine HM.ops ?_
   conv =>whnf
   refine sghx ?_
   refine ⟨_,_,nb_den _ _, ?_⟩
   conv =>whnf
   refine sghx ?_
   refine brB_iff.2 ⟨fun hnb=> ?_,fun hnb=> ?_⟩<;>conv=>whnf
   ·have hrd4:=hz4.u.o
    by_cases h9:a+9≤bs.length
    ·refine HM.ops ?_
     conv =>whnf
     refine sghx ?_
     refine ⟨_,_,number_den z4 l bs (a+1) 8 t hrd4 hb (by omega) (by omega), ?_⟩
     have hz5:=hz4.num (a+1+8)
     have hX5:(z4.put l (some (rdO bs (a+1+8) t))).get X=some (.c [.i .i64 (o.toNat:Nat), .i .i64 0] 0 (some 58)):=by
      rw [St.get_put_ne _ _ _ _ (fun e=>by have:=hz4.hl;omega)];exact hX4
     have hA5:=hA4.putc hrd4 (some (rdO bs (a+1+8) t))
     generalize St.put z4 _ _=z5 at*
     conv =>whnf
     refine sghx ?_
     refine HO.opA (krun_store (n:=1) (l:=X) (o:=0+1) (v:= .i .i64 (numb ((bs.drop (a+1)).take 8))) (cs':=[.i .i64 (o.toNat:Nat), .i .i64 (numb ((bs.drop (a+1)).take 8))]) (by rfl) (by rfl) hX5 rfl rfl (Nat.zero_le _) (by simp) rfl) ?_
     have hX6:(z5.put X (some (.c [.i .i64 (o.toNat:Nat), .i .i64 (numb ((bs.drop (a+1)).take 8))] 0 (some 58)))).get X=some (.c [.i .i64 (o.toNat:Nat), .i .i64 (numb ((bs.drop (a+1)).take 8))] 0 (some 58)):=St.get_put_same _ _ _
     have hz6:=hz5.oth (cs':=[.i .i64 (o.toNat:Nat), .i .i64 (numb ((bs.drop (a+1)).take 8))]) hX5 hXs hXN
     have hA6:=hA5.putc hX5 (some (.c [.i .i64 (o.toNat:Nat), .i .i64 (numb ((bs.drop (a+1)).take 8))] 0 (some 58)))
     clear hz5 hA5 hX5
     generalize St.put z5 _ _=z50 at*
     have hz5:=hz6
     have hA5:=hA6
     have hX5:=hX6
     conv =>whnf
     refine sghx ?_
     refine HM.ops ?_
     conv =>whnf
     refine sghx ?_
     refine app_step hz5.g rfl hA5 src_single (room_s (by rw[List.length_map];omega) (by omega)) (fun kv' z6 tk' hA6 hg6 hor hn6 hgg hfr=> ?_)
     rw [ins_chunk (((o.toNat:Nat):Int),numb ((bs.drop (a+1)).take 8)),←List.map_append] at hA6
     have hz6:PI s z6 l N bs (a+9) t v pkv ks tk:=hz5.row hg6 hn6 hgg hfr (fun q hq e=>by
      rcases hor with h|⟨-,h⟩
      ·exact ht3 q hq (by rw[←h];exact e)
      ·rw[h] at e;cases e
       exact Nat.lt_irrefl _ (by subst hq;exact hz5.a.lt hz5.g)) (fun e=>by
      rcases hor with h|⟨-,h⟩
      ·rw[h] at e;exact hA5.ne hz5.u.o e
      ·rw[h] at e;cases e;exact Nat.lt_irrefl _ hz5.lz) (fun e=>by
      rcases hor with h|⟨-,h⟩
      ·rw[h] at e;exact hA5.ne hz5.n e
      ·rw[h] at e;cases e;exact Nat.lt_irrefl _ (hz5.g.1 _ _ hz5.n).1) (fun q hq=>by
      rcases hor with h|⟨-,h⟩
      ·exact ht2 q (by rw[←h];exact hq)
      ·rw[h] at hq;cases hq;exact hz5.u.n)
     have ht2':∀q,tk'=some q→s.n≤q:=fun q hq=>by
      rcases hor with h|⟨-,h⟩
      ·exact ht2 q (by rw[←h];exact hq)
      ·rw[h] at hq;cases hq;exact hz5.u.n
     have ht3':∀q,tk=some q→tk'≠some q:=fun q hq e=>by
      rcases hor with h|⟨-,h⟩
      ·exact ht3 q hq (by rw[←h];exact e)
      ·rw[h] at e;cases e
       exact Nat.lt_irrefl _ (by subst hq;exact hz5.a.lt hz5.g)
     refine hN_abs ?_
     conv =>whnf
     refine sghx ?_
     refine HM.ops ?_
     conv =>whnf
     refine sghx ?_
     rw [wrap_succ hlt (by omega)]
     intro hg'
     exact ⟨many-(j+1),fg [0,2,3,9,10,13,14] _,_,by omega,WkM.fg hg',j+1,k++[(((o.toNat:Nat):Int),numb ((bs.drop (a+1)).take 8))],(a+9),kv',tk',hlt,rfl,by simp only[kdI,hk,insP,hx,hnb,if_true,if_pos h9],rfl,hz6,hA6,ht2',ht3'⟩
    ·have hbad:kdI bs a0 many=none:=kdI_none (i:=j+1) (by simp only[kdI,hk,insP,hx,hnb,if_true,if_neg h9]) _ hlt
     refine HM.opsp ?_
     refine HP.opA (krun_mov nthx) ?_
     conv =>whnf
     refine HP.call (number_pan z4 l bs (a+1) 8 t hrd4 hb (by omega) (by omega) (by omega)) ?_
     exact hp hbad _ _ (hz4.num bs.length).u
   ·have hz5:=hz4
    have hA5:=hA4
    have hX5:=hX4
    conv =>whnf
    refine sghx ?_
    refine HM.ops ?_
    conv =>whnf
    refine sghx ?_
    refine app_step hz5.g rfl hA5 src_single (room_s (by rw[List.length_map];omega) (by omega)) (fun kv' z6 tk' hA6 hg6 hor hn6 hgg hfr=> ?_)
    rw [ins_chunk (((o.toNat:Nat):Int),0),←List.map_append] at hA6
    have hz6:PI s z6 l N bs (a+1) t v pkv ks tk:=hz5.row hg6 hn6 hgg hfr (fun q hq e=>by
     rcases hor with h|⟨-,h⟩
     ·exact ht3 q hq (by rw[←h];exact e)
     ·rw[h] at e;cases e
      exact Nat.lt_irrefl _ (by subst hq;exact hz5.a.lt hz5.g)) (fun e=>by
     rcases hor with h|⟨-,h⟩
     ·rw[h] at e;exact hA5.ne hz5.u.o e
     ·rw[h] at e;cases e;exact Nat.lt_irrefl _ hz5.lz) (fun e=>by
     rcases hor with h|⟨-,h⟩
     ·rw[h] at e;exact hA5.ne hz5.n e
     ·rw[h] at e;cases e;exact Nat.lt_irrefl _ (hz5.g.1 _ _ hz5.n).1) (fun q hq=>by
     rcases hor with h|⟨-,h⟩
     ·exact ht2 q (by rw[←h];exact hq)
     ·rw[h] at hq;cases hq;exact hz5.u.n)
    have ht2':∀q,tk'=some q→s.n≤q:=fun q hq=>by
     rcases hor with h|⟨-,h⟩
     ·exact ht2 q (by rw[←h];exact hq)
     ·rw[h] at hq;cases hq;exact hz5.u.n
    have ht3':∀q,tk=some q→tk'≠some q:=fun q hq e=>by
     rcases hor with h|⟨-,h⟩
     ·exact ht3 q hq (by rw[←h];exact e)
     ·rw[h] at e;cases e
      exact Nat.lt_irrefl _ (by subst hq;exact hz5.a.lt hz5.g)
    refine hN_abs ?_
    conv =>whnf
    refine sghx ?_
    refine HM.ops ?_
    conv =>whnf
    refine sghx ?_
    rw [wrap_succ hlt (by omega)]
    intro hg'
    exact ⟨many-(j+1),fg [0,2,3,9,10,13,14] _,_,by omega,WkM.fg hg',j+1,k++[(((o.toNat:Nat):Int),(0:Int))],(a+1),kv',tk',hlt,rfl,by simp only[kdI,hk,insP,hx,hnb];rfl,rfl,hz6,hA6,ht2',ht3'⟩
 ·have hge:j=many:=by rw[ltZ_eq] at h1;simp at h1;omega
  subst hge
  refine sgh ?_
  exact hq k a _ _ kv tk2 hk rfl hPI hA
theorem prog_hm (s:St)(l:Nat)(bs:List UInt8)(t:Option Nat)(hs:s.get l=some (rdO bs 0 t))(hb:bs.length≤300000){Q:XM→List V→St→Prop}
  (hp:progP bs=none→∀e s',Ups s s' l (rdO bs bs.length t)→Q (.pan (.ifc 133 (.ag []))) e s')
  (hq:∀v ks a e s' N pkv,progP bs=some (v,ks,a)→Ups s s' l (rdO bs a t)→Nth e 2 (.p N 0)→s'.get N=some (.c [.i .i64 v,pkv] 0 (some 48))→Vw1 pkv (ksV ks)→Q .ret e s'):
  HM gt0 Tryz.prog s f91.body ([.p l 0]++List.replicate (f91.nt- [V.p l 0].length) unV) s Q:=by
 have hm:1000000≤maxLen:=by decide
 refine HM.good fun hg=> ?_
 have hl:l<s.n:=(hg.1 l _ hs).1
 refine HM.seq ?_
 refine HM.ops ?_
 conv =>whnf
 refine HO.opA krun_alloc ?_
 have hz:PI s (s.new (.c [.i .i64 0, .ns] 0 (some 48))) l s.n bs 0 t 0 .ns [] none:=
  ⟨(Ups.refl hs).new hl _,St.get_new_same _ _,⟨rfl,rfl⟩,hg.new,Nat.le_refl _,hl,fun k hk=>by cases hk⟩
 generalize s.new (.c [.i .i64 0, .ns] 0 (some 48))=z at hz
 generalize s.n=N at hz
 conv =>whnf
 refine HO.nil ?_
 conv =>whnf
 refine HM.seq ?_
 have hlen:=hz.u.o
 cases h0:bs[0]? with
 | none=>
  have hb0:bs.length=0:=by rw[List.getElem?_eq_none_iff] at h0;omega
  refine HM.opsp ?_
  refine HP.opA (krun_mov nthx) ?_
  conv =>whnf
  refine HP.call (number_pan z l bs 0 1 t hlen hb (by omega) (by omega) (by omega)) ?_
  exact hp (by simp only[progP,h0]) _ _ (hz.num bs.length).u
 | some v0=>
  have hb0:0<bs.length:=(List.getElem?_eq_some_iff.1 h0).1
  refine HM.ops ?_
  conv =>whnf
  refine sghx ?_
  refine ⟨_,_,number_den z l bs 0 1 t hlen hb (by omega) (by omega), ?_⟩
  rw [drop_take1 h0]
  have hz2:=hz.num (0+1)
  generalize St.put z _ _=z2 at*
  conv =>whnf
  refine sghx ?_
  refine HO.opA (krun_store (n:=1) (l:=N) (o:=0+0) (v:= .i .i64 (v0.toNat:Nat)) (cs':=[.i .i64 (v0.toNat:Nat), .ns]) (by rfl) (by rfl) hz2.n rfl rfl (Nat.zero_le _) (by simp) rfl) ?_
  have hz3:=hz2.box (v':=((v0.toNat:Nat):Int)) (pkv':= .ns) (ks':=[]) (tk':=none) (Acc.nil _ 1) (fun k hk=>by cases hk)
  generalize St.put z2 _ _=z3 at*
  conv =>whnf
  refine HO.nil ?_
  conv =>whnf
  refine HM.seq ?_
  refine HM.seq ?_
  have hrd3:=hz3.u.o
  cases h1:bs[1]? with
  | none=>
   have hb1:bs.length≤1:=by rwa [List.getElem?_eq_none_iff] at h1
   refine HM.opsp ?_
   refine HP.opA (krun_mov nthx) ?_
   conv =>whnf
   refine HP.call (number_pan z3 l bs (0+1) 1 t hrd3 hb (by omega) (by omega) (by omega)) ?_
   exact hp (by simp only[progP,h0,h1]) _ _ (hz3.num bs.length).u
  | some n0=>
   have hb1:1<bs.length:=(List.getElem?_eq_some_iff.1 h1).1
   have hn0:=n0.toNat_lt
   refine HM.ops ?_
   conv =>whnf
   refine sghx ?_
   refine ⟨_,_,number_den z3 l bs (0+1) 1 t hrd3 hb (by omega) (by omega), ?_⟩
   rw [drop_take1 (a:=0+1) h1]
   have hz4:=hz3.num (0+1+1)
   generalize St.put z3 _ _=z4 at*
   conv =>whnf
   refine sghx ?_
   refine HM.loop gnm0 fun hg=>⟨fun n e s'=>∃(i:Nat)(ks:List Kd)(a:Nat)(pkv:V)(tk:Option Nat),i≤n0.toNat∧n=n0.toNat-i∧ksI bs i=some (ks,a)∧e=EP l N n0.toNat i∧PI s s' l N bs a t ((v0.toNat:Nat):Int) pkv ks tk,
    ⟨n0.toNat,fg [0,2,9,10] _,_,WkM.fg hg,0,[],2, .ns,none,Nat.zero_le _,rfl,rfl,rfl,hz4⟩, ?_⟩
   rintro n e s' ⟨i,ks,a,pkv,tk,hi,rfl,hk,rfl,hPI⟩
   obtain ⟨hal,hkl,hkk⟩:=ksI_le (by omega) i hk
   have bad:ksI bs (i+1)=none→i<n0.toNat→progP bs=none:=fun hbad hlt=>by
    simp only[progP,h0,h1,ksI_none hbad _ hlt]
   conv =>whnf
   refine sghx ?_
   refine HM.ops ?_
   conv =>whnf
   refine sghx ?_
   refine brB_iff.2 ⟨fun h2=> ?_,fun h2=> ?_⟩<;>conv=>whnf
   ·have hlt:i<n0.toNat:=by rw[ltZ_eq] at h2;simpa using h2
    refine sghx ?_
    refine HM.ops ?_
    conv =>whnf
    refine sghx ?_
    have hrd:=hPI.u.o
    cases hx:bs[a]? with
    | none=>
     have hlen:bs.length≤a:=by rwa [List.getElem?_eq_none_iff] at hx
     refine HM.opsp ?_
     refine HP.opA (krun_mov nthx) ?_
     conv =>whnf
     refine HP.call (number_pan s' l bs a 1 t hrd hb (by omega) hal (by omega)) ?_
     exact hp (bad (by simp only[ksI,hk,kindP,hx]) hlt) _ _ (hPI.num bs.length).u
    | some m=>
     have hlen:a<bs.length:=(List.getElem?_eq_some_iff.1 hx).1
     have hm0:=m.toNat_lt
     refine HM.ops ?_
     conv =>whnf
     refine sghx ?_
     refine ⟨_,_,number_den s' l bs a 1 t hrd hb (by omega) (by omega), ?_⟩
     rw [drop_take1 hx]
     have hz5:=hPI.num (a+1)
     generalize St.put s' _ _=z5 at*
     conv =>whnf
     refine HO.k ?_
     conv =>whnf
     refine HO.nil ?_
     conv =>whnf
     refine kd_loop hb (by omega) hz5 (many:=m.toNat) (by omega) (cnt:=n0.toNat) (i:=i) rfl (fun hbad e6 z6 hU=> ?_) (fun k a' e6 z6 kv tk2 hkd he6 hz6 hA6=> ?_)
     ·exact hp (bad (by simp only[ksI,hk,kindP,hx,hbad]) hlt) _ _ hU
     ·conv=>whnf
      refine HM.fgt gnm0 [0,2,3,9,10] (fun hg=> ?_)
      rw [he6]
      refine HM.vw (t:=3) (u:=kV k) (.succ (.succ (.succ .zero))) (.one hA6.vw) ?_
      conv =>whnf
      have hN6:=hz6.n
      refine HM.ops ?_
      conv =>whnf
      refine sghx ?_
      refine HO.opA (krun_bsl1 (v:=kV k) (by rfl) rfl rfl) ?_
      conv =>whnf
      refine HO.kx rfl ?_
      conv =>whnf
      refine app_step hz6.g rfl hz6.a (src_one rfl) (room_s (by rw[List.length_map];omega) (by omega)) (fun pkv' z7 tk' hA7 hg7 hor hn7 hgg hfr=> ?_)
      have hA7':Rf.Acc z7 1 pkv' ((ks++[k]).map kV) tk':=by rw[List.map_append];exact hA7
      obtain ⟨hN7,hz8⟩:=hz6.push hA7' hg7 hor hn7 hgg hfr
      refine hN_abs ?_
      conv =>whnf
      refine sghx ?_
      refine HO.opA (krun_store (n:=1) (l:=N) (o:=0+1) (v:=pkv') (cs':=[.i .i64 (v0.toNat:Nat),pkv']) (by rfl) (by rfl) hN7 hA7.val.1 (by rw[hA7.val.2];rfl) (Nat.zero_le _) (by simp) (by rw[hA7.val.2];rfl)) ?_
      generalize St.put z7 _ _=z8 at*
      conv =>whnf
      refine HO.nil ?_
      conv =>whnf
      refine HM.ops ?_
      conv =>whnf
      refine sghx ?_
      rw [wrap_succ hlt (by omega)]
      intro hg'
      exact ⟨n0.toNat-(i+1),fg [0,2,9,10] _,_,by omega,WkM.fg hg',i+1,ks++[k],a',pkv',tk',hlt,rfl,by simp only[ksI,hk,kindP,hx,hkd],rfl,hz8⟩
   ·have hge:i=n0.toNat:=by rw[ltZ_eq] at h2;simp at h2;omega
    subst hge
    have hNx:=hPI.n
    refine sgh ?_
    refine HO.opA (krun_store (n:=2) (l:=N) (o:=0) (v:= .ag [.i .i64 (v0.toNat:Nat),pkv]) (cs':=[.i .i64 (v0.toNat:Nat),pkv]) (by rfl) (by rfl) hNx rfl rfl (Nat.zero_le _) (by simp) rfl) ?_
    have hU:=hPI.u.put2 hPI.hN hPI.hl (some (.c [.i .i64 (v0.toNat:Nat),pkv] 0 (some 48)))
    have hN9:(s'.put N (some (.c [.i .i64 (v0.toNat:Nat),pkv] 0 (some 48)))).get N=some (.c [.i .i64 (v0.toNat:Nat),pkv] 0 (some 48)):=St.get_put_same _ _ _
    generalize St.put s' _ _=z9 at*
    conv =>whnf
    refine sgh ?_
    exact hq _ ks a _ _ N pkv (by simp only[progP,h0,h1,hk]) hU nthx hN9 hPI.a.vw
end Go.Proofs.YtlhopiehnaabgaaGreatDoor
