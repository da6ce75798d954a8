import Derived.Test.YtlhopiehnaabgaaGreatDoorMpl
import Derived.Test.YtlhopiehnaabgaaGreatDoorRby
import Derived.Test.YtlhopiehnaabgaaGreatDoorLE
import Derived.Test.YtlhopiehnaabgaaGreatDoorCodeT
set_option linter.all false
namespace Go.Proofs.YtlhopiehnaabgaaGreatDoor
open Go Rf
theorem nu_ok2 {bs:List UInt8}{sz a:Nat}(h:a+sz≤bs.length):nuR bs sz (a,none)=(numb ((bs.drop a).take sz),(a+sz,none)):=nuR_ok h
theorem nuR_isSome {bs:List UInt8}{sz:Nat}{r:RS}(h:r.2.isSome=true):(nuR bs sz r).2.2.isSome=true:=by
 obtain ⟨a,k⟩:=r
 cases k with
 | none=>cases h
 | some k=>rfl
theorem nu_cases (bs:List UInt8)(sz a:Nat):(nuR bs sz (a,none)).2.2.isSome=true∨(a+sz≤bs.length∧(nuR bs sz (a,none)).2=(a+sz,none)):=by
 by_cases h:bs.length<a+sz
 ·left;rw[nuR_short h];rfl
 ·right;exact⟨by omega,by rw[nuR_ok (by omega)]⟩
theorem fi_isSome {bs:List UInt8}{i:Int}{r:RS}(h:r.2.isSome=true):(fiR bs i r).2.2.isSome=true:=nuR_isSome (nuR_isSome (nuR_isSome (nuR_isSome h)))
theorem fi_short {bs:List UInt8}{i:Int}{a:Nat}(h:bs.length<a+18):(fiR bs i (a,none)).2.2.isSome=true:=by
 unfold fiR
 dsimp only
 rcases nu_cases bs 8 a with h1|⟨h1,e1⟩
 ·exact nuR_isSome (nuR_isSome (nuR_isSome h1))
 rw [e1]
 rcases nu_cases bs 1 (a+8) with h2|⟨h2,e2⟩
 ·exact nuR_isSome (nuR_isSome h2)
 rw [e2]
 rcases nu_cases bs 1 (a+8+1) with h3|⟨h3,e3⟩
 ·exact nuR_isSome h3
 rw [e3]
 rcases nu_cases bs 8 (a+8+1+1) with h4|⟨h4,e4⟩
 ·exact h4
 ·omega
theorem numb_get {bs:List UInt8}{a:Nat}(h:a<bs.length):numb ((bs.drop a).take 1)=(((bs.getD a 0).toNat:Nat):Int):=by
 have hx:bs[a]? =some bs[a]:=List.getElem?_eq_getElem h
 rw [drop_take1 hx,List.getD_eq_getElem?_getD,hx];rfl
theorem fi_eq {bs:List UInt8}{c i:Nat}(h:c+1+18* i+18≤bs.length):fiR bs (i:Nat) (c+1+18* i,none)=(evA (bs.drop c) i,(c+1+18* (i+1),none)):=by
 have hE:evE (bs.drop c) i=(bs.drop (c+1+18* i)).take 18:=by
  unfold evE
  rw [List.drop_take,List.drop_drop,show 19+18* i-(1+18* i)=18 by omega]
  congr 2
  omega
 unfold fiR
 dsimp only
 rw [nu_ok2 (a:=c+1+18* i) (by omega)]
 dsimp only
 rw [nu_ok2 (a:=c+1+18* i+8) (by omega)]
 dsimp only
 rw [nu_ok2 (a:=c+1+18* i+8+1) (by omega)]
 dsimp only
 rw [nu_ok2 (a:=c+1+18* i+8+1+1) (by omega)]
 rw [numb_get (by omega),numb_get (by omega)]
 unfold evA
 rw [hE]
 rw [show c+1+18* i+8+1+1+8=c+1+18* (i+1) by omega]
 generalize c+1+18* (i+1)=A2
 generalize c+1+18* i=A
 have g8:((bs.drop A).take 18).getD 8 0=bs.getD (A+8) 0:=by simp[List.getD_eq_getElem?_getD,List.getElem?_take,List.getElem?_drop]
 have g9:((bs.drop A).take 18).getD 9 0=bs.getD (A+8+1) 0:=by simp[List.getD_eq_getElem?_getD,List.getElem?_take,List.getElem?_drop]
 have t8:((bs.drop A).take 18).take 8=(bs.drop A).take 8:=by rw[List.take_take];rfl
 have t10:((bs.drop A).take 18).drop 10=(bs.drop (A+8+1+1)).take 8:=by rw[List.drop_take,List.drop_drop]
 rw [g8,g9,t8,t10]
theorem fs_eq {bs:List UInt8}{c:Nat}:∀(n:Nat),c+1+18* n≤bs.length→fsR bs n (c+1,none)=((List.range n).map (evA (bs.drop c)),(c+1+18* n,none))
 | 0,_=>rfl
 | n+1,h=>by
  simp only[fsR]
  rw [fs_eq n (by omega)]
  dsimp only
  rw [fi_eq (by omega),List.range_succ,List.map_append]
  rfl
theorem fs_isSome {bs : List UInt8} {r : RS} {n : Nat} (h : (fsR bs n r).2.2.isSome = true) : ∀ m, n ≤ m → (fsR bs m r).2.2.isSome = true := fun m hm => by
  induction m with
  | zero => have : n = 0 := by omega
            subst this; exact h
  | succ m ih =>
    by_cases e : n = m + 1
    · subst e; exact h
    · simp only [fsR]; exact fi_isSome (ih (by omega))
theorem fs_short {bs:List UInt8}{c:Nat}(hc:c+1≤bs.length):∀(n:Nat),bs.length<c+1+18* n→(fsR bs n (c+1,none)).2.2.isSome=true
 | 0,h=>by omega
 | n+1,h=>by
  by_cases h2:bs.length<c+1+18* n
  ·exact fs_isSome (fs_short hc n h2) _ (by omega)
  ·simp only[fsR]
   rw [fs_eq n (by omega)]
   exact fi_short (by omega)
theorem mof_eq (bs:List UInt8):mofR bs=rofM bs:=by
 cases bs with
 | nil=>
  have h1:nuR [] 1 (0,none)=(0,(0,some 0)):=rfl
  have h2:fsR [] 0 (0,some 0)=([],(0,some 0)):=rfl
  unfold mofR
  dsimp only
  rw [h1]
  rfl
 | cons x l=>
  have hx:nuR (x::l) 1 (0,none)=(((x.toNat:Nat):Int),(1,none)):=by
   rw [nu_ok2 (by simp)]
   show (numb [x],_)=_
   rw [numb1]
  obtain ⟨h1,h2⟩:=ps_eqL (bs:=x::l) (a:=1) (by simp) x.toNat
  unfold mofR
  simp only[hx,Int.toNat_natCast]
  have hd:(x::l).drop 1=l:=rfl
  rw [hd] at h1 h2
  cases hr:rpsL x.toNat l with
  | none=>
   have h3:=h2 hr
   have hn:rofM (x::l)=none:=by simp only[rofM,hr]
   rw [hn]
   have h4:(fsR (x::l) (nuR (x::l) 1 (psR (x::l) x.toNat (1,none)).2).1.toNat (nuR (x::l) 1 (psR (x::l) x.toNat (1,none)).2).2).2.2.isSome=true:=by
    have h5:=nuR_isSome (bs:=x::l) (sz:=1) h3
    exact fs_isSome (n:=0) h5 _ (Nat.zero_le _)
   rw [if_pos (.inl h4)]
  | some w=>
   obtain ⟨ps,b⟩:=w
   obtain ⟨c,e1,e2,hc⟩:=h1 ps b hr
   simp only[e1]
   cases b with
   | nil=>
    have hn:rofM (x::l)=none:=by simp only[rofM,hr]
    have hcl:(x::l).length≤c:=by
     have :=congrArg List.length e2
     rw [List.length_drop,List.length_nil] at this;omega
    rw [hn,nuR_short (by omega)]
    have h4:=fs_isSome (bs:=x::l) (r:=(c,some c)) (n:=0) rfl (0:Int).toNat (Nat.zero_le _)
    rw [if_pos (.inl h4)]
   | cons y t=>
    have hcl:c+1+t.length=(x::l).length:=by
     have :=congrArg List.length e2
     rw [List.length_drop,List.length_cons] at this;omega
    have hy:nuR (x::l) 1 (c,none)=(((y.toNat:Nat):Int),(c+1,none)):=by
     have hg:(x::l)[c]? =some y:=by
      have :=congrArg (·[0]?) e2
      simp only[List.getElem?_cons_zero,List.getElem?_drop,Nat.add_zero] at this
      exact this.symm
     rw [nu_ok2 (by omega),drop_take1 hg]
    simp only[hy,Int.toNat_natCast]
    by_cases hT:t.length=18* y.toNat
    ·rw[fs_eq y.toNat (by omega)]
     have hr2:rofM (x::l)=if mayM ps ((List.range y.toNat).map (evA (y::t)))=true then some (ps,(List.range y.toNat).map (evA (y::t))) else none:=by simp only[rofM,hr];rw[if_pos hT]
     rw [hr2,←e2]
     have hlt:¬(c+1+18* y.toNat<(x::l).length):=by omega
     cases hm:mayM ps ((List.range y.toNat).map (evA (y::t)))
     ·rw[if_pos (.inr (.inr rfl)),if_neg (by decide)]
     ·rw[if_neg (by simp;simp at hlt;omega),if_pos rfl]
    ·have hr2:rofM (x::l)=none:=by simp only[rofM,hr];rw[if_neg hT]
     rw [hr2]
     by_cases hs:(x::l).length<c+1+18* y.toNat
     ·rw[if_pos (.inl (fs_short (by omega) _ hs))]
     ·rw[fs_eq y.toNat (by omega)]
      rw [if_pos (.inr (.inl (by show c+1+18* y.toNat<_;omega)))]
end Go.Proofs.YtlhopiehnaabgaaGreatDoor
set_option linter.all false
namespace Go.Proofs.YtlhopiehnaabgaaGreatDoor
open Go Rf
set_option maxRecDepth 100000
set_option maxHeartbeats 4000000
theorem toB (xs:List UInt8):toBytes (((xs.map bV).map V.cells).flatten)=some xs:=by
 induction xs with
 | nil=>rfl
 | cons x xs ih=>
  show toBytes (bV x::((xs.map bV).map V.cells).flatten)=some (x::xs)
  generalize ((xs.map bV).map V.cells).flatten=L at*
  simp [toBytes,bV,ih]
theorem b2s_b {e:List V}{s:St}{x:Arg}{bs:List UInt8}(hx:x.ev e=bsV bs):aop e s (.b2s x)=some (.s bs,s):=by
 simp only[aop,hx,bsV,toB];rfl
theorem sameM (ps:List Pr)(fs:List Ev)(h1:ps.length≤255)(h2:fs.length≤255)(h3:∀p∈ps,p.1.2.length≤255∧(∀k∈p.1.2,k.length≤255)∧p.2.1.length≤255):PDen gt0 Tryz.prog 10 [mV ps fs,mV ps fs] (.b true):=by
 have hm:10000≤maxLen:=by decide
 have :=rmsame_den ps ps fs fs (by omega) (fun p hp=>⟨by have:=(h3 p hp).1;omega,fun k hk=>by have:=(h3 p hp).2.1 k hk;omega,by have:=(h3 p hp).2.2;omega⟩) (by omega)
 rwa [decide_eq_true rfl,decide_eq_true rfl] at this
end Go.Proofs.YtlhopiehnaabgaaGreatDoor
set_option linter.all false
namespace Go.Proofs.YtlhopiehnaabgaaGreatDoor
open Go Rf
set_option maxRecDepth 100000
set_option maxHeartbeats 400000
noncomputable def gf34:{c:F // cF gt0 Tryz.prog (wfa 34) 34=some c}:=⟨_,by conv=>lhs;reduce;simp only[oi,ou,on1]⟩
noncomputable def f34:F:=gf34.1
theorem hF34:cF gt0 Tryz.prog (wfa 34) 34=some f34:=gf34.2
noncomputable def gf11:{c:F // cF gt0 Tryz.prog (wfa 11) 11=some c}:=⟨_,by conv=>lhs;reduce;simp only[oi,ou,on1]⟩
noncomputable def f11:F:=gf11.1
theorem hF11:cF gt0 Tryz.prog (wfa 11) 11=some f11:=gf11.2
noncomputable def gf15:{c:F // cF gt0 Tryz.prog (wfa 15) 15=some c}:=⟨_,by conv=>lhs;reduce;simp only[oi,ou,on1]⟩
noncomputable def f15:F:=gf15.1
theorem hF15:cF gt0 Tryz.prog (wfa 15) 15=some f15:=gf15.2
noncomputable def gf16:{c:F // cF gt0 Tryz.prog (wfa 16) 16=some c}:=⟨_,by conv=>lhs;reduce;simp only[oi,ou,on1]⟩
noncomputable def f16:F:=gf16.1
theorem hF16:cF gt0 Tryz.prog (wfa 16) 16=some f16:=gf16.2
noncomputable def gf14:{c:F // cF gt0 Tryz.prog (wfa 14) 14=some c}:=⟨_,by conv=>lhs;reduce;simp only[oi,ou,on1]⟩
noncomputable def f14:F:=gf14.1
theorem hF14:cF gt0 Tryz.prog (wfa 14) 14=some f14:=gf14.2
noncomputable def gf33:{c:F // cF gt0 Tryz.prog (wfa 33) 33=some c}:=⟨_,by conv=>lhs;reduce;simp only[oi,ou,on1]⟩
noncomputable def f33:F:=gf33.1
theorem hF33:cF gt0 Tryz.prog (wfa 33) 33=some f33:=gf33.2
noncomputable def gf4:{c:F // cF gt0 Tryz.prog (wfa 4) 4=some c}:=⟨_,by conv=>lhs;reduce;simp only[oi,ou,on1]⟩
noncomputable def f4:F:=gf4.1
end Go.Proofs.YtlhopiehnaabgaaGreatDoor
