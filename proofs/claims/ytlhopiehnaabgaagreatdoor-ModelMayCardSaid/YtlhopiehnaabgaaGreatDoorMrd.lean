import Derived.Test.YtlhopiehnaabgaaGreatDoorLE
import Derived.Test.YtlhopiehnaabgaaGreatDoorOfB
import Derived.Test.YtlhopiehnaabgaaGreatDoorDig
set_option linter.all false
namespace Go.Proofs.YtlhopiehnaabgaaGreatDoor
open Go Rf
set_option maxRecDepth 100000
set_option maxHeartbeats 4000000
abbrev RS:=Nat×Option Nat
def erV:Option Nat→V
 | none=> .ni
 | some k=> .ifc 112 (.ag [.i .i64 (k:Nat)])
theorem erV_nm {L:Nat→Prop}(k:Option Nat):Nm L (erV k):=by
 cases k with
 | none=>exact .ni
 | some k=>exact .ifc _ _ (.ag _ fun v hv=>by simp at hv;subst hv;exact .i _ _)
def rdM (bs:List UInt8)(r:RS):O:= .c [bsV bs, .i .i64 (r.1:Nat),erV r.2] 0 (some 90)
theorem rdM_nm {L:Nat→Prop}(bs:List UInt8)(a:Nat)(k:Option Nat):∀c∈[bsV bs,V.i .i64 (a:Nat),erV k],Nm L c:=fun c hc=>by
 simp at hc;rcases hc with rfl|rfl|rfl
 ·exact bsV_nm _
 ·exact .i _ _
 ·exact erV_nm _
def nuR (bs:List UInt8)(sz:Nat):RS→Int×RS
 | (a,some k)=>(0,(a,some k))
 | (a,none)=>if bs.length<a+sz then(0,(a,some a)) else(numb ((bs.drop a).take sz),(a+sz,none))
theorem nuR_short {bs:List UInt8}{a sz:Nat}(h:bs.length<a+sz):nuR bs sz (a,none)=(0,(a,some a)):=if_pos h
theorem nuR_ok {bs:List UInt8}{a sz:Nat}(h:a+sz≤bs.length):nuR bs sz (a,none)=(numb ((bs.drop a).take sz),(a+sz,none)):=if_neg (by omega)
def EMn (X sz:Nat)(ys:List UInt8)(i:Nat):List V:=(.p X 0:: .i .i64 (sz:Nat):: .bad:: .bad:: .i .i64 (numb (ys.take i)):: .bad:: .bad:: .bad:: .bad:: .bad:: .bad:: .bad:: .bad:: .bad:: .bad:: .bad:: .bad:: .bad:: .bad:: .bad:: .bad:: .bad:: .bad:: .bad:: .bad:: .bad:: .bad:: .bad:: .bad:: .bad:: .bad:: .bad:: .bad:: .bad:: .bad:: .bad:: .bad:: .bad:: .bad:: .bad:: .bad:: .bad:: .bad:: .bad:: .bad:: .bad:: .bad:: .bad:: .bad:: .bad:: .bad:: .bad:: .bad:: .bad::bsV ys:: .i .i64 ((ys.map bV).length:Nat):: .i .i64 (i:Nat)::List.replicate 18 .bad)
theorem mnum_err (s:St)(hx:NoX s)(X:Nat)(bs:List UInt8)(a k sz:Nat)(hs:s.get X=some (rdM bs (a,some k))):
  Den gt0 Tryz.prog 43 [.p X 0, .i .i64 (sz:Nat)] s (.i .i64 0) (s.put X (some (rdM bs (a,some k)))):=by
 have hs:s.get X=some (.c [bsV bs, .i .i64 (a:Nat), .ifc 112 (.ag [.i .i64 (k:Nat)])] 0 (some 90)):=hs
 refine Den.tidy fun ht=>Den.hm gnm0 hF43 ?_
 have hg:=ht.1
 have K:=Kn.init1 hg hx hs
 conv =>whnf
 refine kgo ?_;(repeat(first|intro(X:Nat)|intro(z:St)|intro(av:V)|intro(tk:Option Nat)|(intro(K1:Kn _ _ _);(try clear K);rename Kn _ _ _=>K)));conv=>whnf
 exact K.fin1 ht hx (.i _ _) (rdM_nm bs a (some k)) (.refl _) (hg.1 _ _ hs) .here (fun e he=> .inr (by simp at he;subst he;rfl))
theorem mnum_short (s:St)(hx:NoX s)(X:Nat)(bs:List UInt8)(hb:bs.length≤200000)(a sz:Nat)(hsz:sz≤8)(ha:a≤bs.length)(hr:bs.length<a+sz)(hs:s.get X=some (rdM bs (a,none))):
  Den gt0 Tryz.prog 43 [.p X 0, .i .i64 (sz:Nat)] s (.i .i64 0) (s.put X (some (rdM bs (a,some a)))):=by
 have hs:s.get X=some (.c [bsV bs, .i .i64 (a:Nat), .ni] 0 (some 90)):=hs
 have hlb:(bs.map bV).length=bs.length:=List.length_map ..
 refine Den.tidy fun ht=>Den.hm gnm0 hF43 ?_
 have hg:=ht.1
 have K:=Kn.init1 hg hx hs
 conv =>whnf
 refine kgo ?_;(repeat(first|intro(X:Nat)|intro(z:St)|intro(av:V)|intro(tk:Option Nat)|(intro(K1:Kn _ _ _);(try clear K);rename Kn _ _ _=>K)));conv=>whnf
 have h1:ltZ (wrapF .i64 (((bs.map bV).length:Nat)-(a:Nat):Int)) (sz:Nat)=true:=by rw[hlb,wI,ltZ_eq];simp;omega
 rw [h1]
 conv =>whnf
 refine kgo ?_;(repeat(first|intro(X:Nat)|intro(z:St)|intro(av:V)|intro(tk:Option Nat)|(intro(K1:Kn _ _ _);(try clear K);rename Kn _ _ _=>K)));conv=>whnf
 exact K.fin1 ht hx (.i _ _) (rdM_nm bs a (some a)) (.refl _) (hg.1 _ _ hs) .here (fun e he=> .inr (by simp at he;subst he;rfl))
theorem mnum_ok (s:St)(hx:NoX s)(X:Nat)(bs:List UInt8)(hb:bs.length≤200000)(a sz:Nat)(hsz:sz≤8)(hr:a+sz≤bs.length)(hs:s.get X=some (rdM bs (a,none))):
  Den gt0 Tryz.prog 43 [.p X 0, .i .i64 (sz:Nat)] s (.i .i64 (numb ((bs.drop a).take sz))) (s.put X (some (rdM bs (a+sz,none)))):=by
 have hs:s.get X=some (.c [bsV bs, .i .i64 (a:Nat), .ni] 0 (some 90)):=hs
 have hlb:(bs.map bV).length=bs.length:=List.length_map ..
 refine Den.tidy fun ht=>Den.hm gnm0 hF43 ?_
 have hg:=ht.1
 have K:=Kn.init1 hg hx hs
 conv =>whnf
 refine kgo ?_;(repeat(first|intro(X:Nat)|intro(z:St)|intro(av:V)|intro(tk:Option Nat)|(intro(K1:Kn _ _ _);(try clear K);rename Kn _ _ _=>K)));conv=>whnf
 have h1:ltZ (wrapF .i64 (((bs.map bV).length:Nat)-(a:Nat):Int)) (sz:Nat)=false:=by rw[hlb,wI,ltZ_eq];simp;omega
 rw [h1]
 conv =>whnf
 refine kgo ?_;(repeat(first|intro(X:Nat)|intro(z:St)|intro(av:V)|intro(tk:Option Nat)|(intro(K1:Kn _ _ _);(try clear K);rename Kn _ _ _=>K)));conv=>whnf
 have hw:wrapF .i64 ((a:Nat)+(sz:Nat):Int)=((a+sz:Nat):Int):=by rw[wI];omega
 rw [hw]
 refine kxslc (xs:=bs.map bV) a (a+sz) ?_ (by omega) (by omega)
 have hT:((bs.map bV).take (a+sz)).drop a=((bs.drop a).take sz).map bV:=by
  rw [List.map_take,List.map_drop,List.drop_take];congr 1;omega
 rw [hT]
 have hlt:((bs.drop a).take sz).length=sz:=by simp;omega
 generalize hY:(bs.drop a).take sz=ys at*
 conv =>whnf
 refine kgo ?_;(repeat(first|intro(X:Nat)|intro(z:St)|intro(av:V)|intro(tk:Option Nat)|(intro(K1:Kn _ _ _);(try clear K);rename Kn _ _ _=>K)));conv=>whnf
 refine HM.loop gnm0 fun hg=>⟨fun n e z'=>∃j:Nat,j≤ys.length∧n=ys.length-j∧e=EMn X sz ys j∧Kn s z' [.ob false X (.c [bsV bs, .i .i64 (a:Nat), .ni] 0 (some 90))],
  ⟨ys.length,fg [0,1,4,54,55,56] _,_,WkM.fg hg,0,Nat.zero_le _,rfl,rfl,K⟩, ?_⟩
 clear K
 rintro n e z1 ⟨j,hj,rfl,rfl,K⟩
 conv =>whnf
 refine kgo ?_;(repeat(first|intro(X:Nat)|intro(z:St)|intro(av:V)|intro(tk:Option Nat)|(intro(K1:Kn _ _ _);(try clear K);rename Kn _ _ _=>K)));conv=>whnf
 refine brLm ⟨fun x hx1 h1=> ?_,fun h1=> ?_⟩<;>conv=>whnf
 ·refine kgo ?_;(repeat(first|intro(X:Nat)|intro(z:St)|intro(av:V)|intro(tk:Option Nat)|(intro(K1:Kn _ _ _);(try clear K);rename Kn _ _ _=>K)));conv=>whnf
  intro hg'
  refine ⟨ys.length-(j+1),fg [0,1,4,54,55,56] _,_,by omega,WkM.fg hg',j+1,h1,rfl, ?_,K⟩
  have :ys.take (j+1)=ys.take j++[x]:=by rw[List.take_add_one,hx1];rfl
  rw [EMn,this,numb_snoc];rfl
 ·have hjl:j=ys.length:=by omega
  subst hjl
  refine kgo ?_;(repeat(first|intro(X:Nat)|intro(z:St)|intro(av:V)|intro(tk:Option Nat)|(intro(K1:Kn _ _ _);(try clear K);rename Kn _ _ _=>K)));conv=>whnf
  rw [hw] at K
  rw [List.take_length]
  exact K.fin1 ht hx (.i _ _) (rdM_nm bs (a+sz) none) (.refl _) (hg.1 _ _ hs) .here (fun e he=> .inr (by simp at he;subst he;rfl))
theorem mnum_den (s:St)(hx:NoX s)(X:Nat)(bs:List UInt8)(hb:bs.length≤200000)(r:RS)(sz:Nat)(hsz:sz≤8)(ha:r.1≤bs.length)(hs:s.get X=some (rdM bs r)):
  Den gt0 Tryz.prog 43 [.p X 0, .i .i64 (sz:Nat)] s (.i .i64 (nuR bs sz r).1) (s.put X (some (rdM bs (nuR bs sz r).2))):=by
 obtain ⟨a,k⟩:=r
 cases k with
 | some k=>exact mnum_err s hx X bs a k sz hs
 | none=>
  have ha:a≤bs.length:=ha
  by_cases h1:bs.length<a+sz
  ·rw[nuR_short h1];exact mnum_short s hx X bs hb a sz hsz ha h1 hs
  ·rw[nuR_ok (by omega)];exact mnum_ok s hx X bs hb a sz hsz (by omega) hs
theorem nuR_le {bs:List UInt8}{sz:Nat}{r:RS}(h:r.1≤bs.length):(nuR bs sz r).2.1≤bs.length:=by
 obtain ⟨a,k⟩:=r
 cases k with
 | some k=>exact h
 | none=>
  have h:a≤bs.length:=h
  by_cases h1:bs.length<a+sz
  ·rw[nuR_short h1];exact h
  ·rw[nuR_ok (by omega)];show a+sz≤_;omega
def fiR (bs:List UInt8)(i:Int)(r:RS):Ev×RS:=
 let a:=nuR bs 8 r
 let b:=nuR bs 1 a.2
 let c:=nuR bs 1 b.2
 let d:=nuR bs 8 c.2
 ((a.1,0,i,b.1,c.1,d.1),d.2)
theorem fiR_le {bs:List UInt8}{i:Int}{r:RS}(h:r.1≤bs.length):(fiR bs i r).2.1≤bs.length:=nuR_le (nuR_le (nuR_le (nuR_le h)))
theorem first_den (s:St)(hx:NoX s)(R:Nat)(bs:List UInt8)(hb:bs.length≤200000)(r:RS)(i:Int)(ha:r.1≤bs.length)(hs:s.get R=some (rdM bs r)):
  Den gt0 Tryz.prog 45 [.p R 0, .i .i64 i] s (evV (fiR bs i r).1) (s.put R (some (rdM bs (fiR bs i r).2))):=by
 refine Den.tidy fun ht=>Den.hm gnm0 hF45 ?_
 have hg:=ht.1
 have K:=Kn.init1 hg hx hs
 unfold fiR
 dsimp only
 have h1:=nuR_le (sz:=8) ha
 generalize ea:nuR bs 8 r=a at*
 have h2:=nuR_le (sz:=1) h1
 generalize eb:nuR bs 1 a.2=b at*
 have h3:=nuR_le (sz:=1) h2
 generalize ec:nuR bs 1 b.2=c at*
 generalize ed:nuR bs 8 c.2=d at*
 conv =>whnf
 refine kgo ?_;(repeat(first|intro(X:Nat)|intro(z:St)|intro(av:V)|intro(tk:Option Nat)|(intro(K1:Kn _ _ _);(try clear K);rename Kn _ _ _=>K)));conv=>whnf
 have D:=mnum_den z K.x R bs hb r 8 (by omega) ha (K.get (.there .here))
 rw [ea] at D
 refine kc1 D fun z K1=> ?_
 clear K D;rename Kn _ _ _=>K
 conv =>whnf
 refine kgo ?_;(repeat(first|intro(X:Nat)|intro(z:St)|intro(av:V)|intro(tk:Option Nat)|(intro(K1:Kn _ _ _);(try clear K);rename Kn _ _ _=>K)));conv=>whnf
 have D:=mnum_den z K.x R bs hb a.2 1 (by omega) h1 (K.get (.there .here))
 rw [eb] at D
 refine kc1 D fun z K1=> ?_
 clear K D;rename Kn _ _ _=>K
 conv =>whnf
 refine kgo ?_;(repeat(first|intro(X:Nat)|intro(z:St)|intro(av:V)|intro(tk:Option Nat)|(intro(K1:Kn _ _ _);(try clear K);rename Kn _ _ _=>K)));conv=>whnf
 have D:=mnum_den z K.x R bs hb b.2 1 (by omega) h2 (K.get (.there .here))
 rw [ec] at D
 refine kc1 D fun z K1=> ?_
 clear K D;rename Kn _ _ _=>K
 conv =>whnf
 refine kgo ?_;(repeat(first|intro(X:Nat)|intro(z:St)|intro(av:V)|intro(tk:Option Nat)|(intro(K1:Kn _ _ _);(try clear K);rename Kn _ _ _=>K)));conv=>whnf
 have D:=mnum_den z K.x R bs hb c.2 8 (by omega) h3 (K.get (.there .here))
 rw [ed] at D
 refine kc1 D fun z K1=> ?_
 clear K D;rename Kn _ _ _=>K
 conv =>whnf
 refine kgo ?_;(repeat(first|intro(X:Nat)|intro(z:St)|intro(av:V)|intro(tk:Option Nat)|(intro(K1:Kn _ _ _);(try clear K);rename Kn _ _ _=>K)));conv=>whnf
 have K:Kn s z [.ob true X (.c [.i .i64 a.1, .i .i64 0, .i .i64 i, .i .i64 b.1, .i .i64 c.1, .i .i64 d.1] 0 (some 54)), .ob false R (rdM bs d.2)]:=K
 exact K.ret1 [evV (a.1,0,i,b.1,c.1,d.1)] ht hx (evV_nm _) (rdM_nm bs _ _) (.refl _) (hg.1 _ _ hs)
end Go.Proofs.YtlhopiehnaabgaaGreatDoor
