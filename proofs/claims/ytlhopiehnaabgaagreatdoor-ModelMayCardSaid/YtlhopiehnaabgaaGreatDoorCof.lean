import Derived.Test.YtlhopiehnaabgaaGreatDoorCodeN
import Derived.Test.YtlhopiehnaabgaaGreatDoorCodeT3
import Derived.Test.YtlhopiehnaabgaaGreatDoorLE
set_option linter.all false
namespace Go.Proofs.YtlhopiehnaabgaaGreatDoor
open Go Rf
set_option maxRecDepth 100000
set_option maxHeartbeats 4000000
theorem aop_slS1 {e:List V}{s:St}{x y:Arg}{l:List UInt8}{a:Nat}(hx:x.ev e= .s l)(hy:y.ev e= .i .i64 ((a:Nat):Int))(ha:a≤l.length):aop e s (.slS x (some y) none)=some (.s (l.drop a),s):=by
 simp only[aop,hx,Option.map_some,Option.map_none,hy]
 delta slb
 simp [bnd_nat ha]
theorem split_c {l:List UInt8}{c:UInt8}(hl:l.length<4294967281)(s:St)(hx:NoX s):Den gt1 Tryz.prog 53 [.s l, .s [c]] s (.pu 1 ((cutL c l).map .s) .u) s:=by
 rw [←pieces_cut];exact split_d hl s hx
theorem pre_len {l p:List UInt8}(h:Lib.hasPrefix l p=true):p.length≤l.length:=by
 unfold Lib.hasPrefix at h
 exact (List.isPrefixOf_iff_prefix.1 h).length_le
theorem setAt_last (cs:List V)(a b:V){o:Nat}(h:o=cs.length):setAt (cs++[a]) o [b]=cs++[b]:=by
 subst h
 simp [setAt]
def addL (ks:List Kd)(x:Int×Int):List Kd:=ks.dropLast++[ks.getLastD []++[x]]
def stA (p:Int×List Kd)(i:Nat)(l:List UInt8):Int×List Kd:=
 if i=0 then(atoiV (Lib.trimPrefix l [118,97,114,115,32]),p.2)
 else if l=[107,105,110,100] then(p.1,p.2++[[]])
 else if Lib.hasPrefix l [32,32]&&decide (0<p.2.length) then(p.1,addL p.2 (insA (cutL 32 (l.drop 2))))
 else p
def foA:List (List UInt8)→Nat→Int×List Kd→Int×List Kd
 | [],_,p=>p
 | l::r,i,p=>foA r (i+1) (stA p i l)
theorem mapp0 {s z:St}{L:List En}(K:Kn s z L):∃l z',Kn s z' (.ob true l (.c [.ns] 0 (some 59))::L)∧∀(e:List V)(x y:Arg),x.ev e= .ns→y.ev e= .pu 1 [.ns] (.x 1)→aop e z (.app 59 false false 1 24 x y)=some (.sl 1 l 0 1 none,z'):=
 ⟨z.n,_,K.new rfl,fun e x y hx hy=>by
  have hr:room 1 24=true:=by decide
  simp [aop,hx,hy,srcOf,appV,hr,V.cells]⟩
theorem mapp1 {s z:St}{L:List En}{l n:Nat}{cs:List V}(K:Kn s z (.ob true l (.c cs 0 (some 59))::L))(hn:cs.length=n)(hl:n≤900000):∃l' z',Kn s z' (.ob true l' (.c (cs++[.ns]) 0 (some 59))::L)∧
  ∀ (e:List V)(x y:Arg),x.ev e= .sl 1 l 0 n none→y.ev e= .pu 1 [.ns] (.x 1)→aop e z (.app 59 false false 1 24 x y)=some (.sl 1 l' 0 (n+1) none,z'):=by
 subst hn
 have hok:=K.at .here
 have hn:l∉nms L:=fun h=>by
  have :=K.d
  rw [nms_cons,List.nodup_append] at this
  exact this.2.2 l (by simp[En.nm]) l h rfl
 refine ⟨z.n,_,((K.drop0 rfl).kill (hok.2.2.1 rfl) hn).new rfl,fun e x y hx hy=> ?_⟩
 have hg:=K.get (w:=true) .here
 have hr:room (cs.length+1) 24=true:=room_of (by omega) (by decide)
 have e3:¬(cs.length+1≤cs.length):=by omega
 simp [aop,hx,hy,srcOf,appV,hg,hr,V.cells,e3]
theorem trimP_len (l p:List UInt8):(Lib.trimPrefix l p).length≤l.length:=by
 unfold Lib.trimPrefix;split
 ·rw[List.length_drop];omega
 ·exact Nat.le_refl _
theorem vw_last {cs:List V}{a b:V}(h:Vw1 a b):All2 Vw1 (cs++[a]) (cs++[b]):=by
 induction cs with
 | nil=>exact .cons h .nil
 | cons x cs ih=>exact .cons (.refl x) ih
theorem hG28:cF gt1 Tryz.prog (fun r o=> !(r==8&&o==3)) 28=some f28m:=by kernel_rfl
def LA (X P:Nat)(v:Int):List En:=[.ob true P (.c [.i .i64 v, .ns] 0 (some 48)), .ob true X (.c [.i .i64 0, .ns] 0 (some 48))]
def LB (X P l:Nat)(v:Int)(c:List Kd)(last:Kd)(lv:V)(tk:Option Nat):List En:=
 [.ac 2 lv (last.map insV) tk, .ob true l (.c (c.map kV++[lv]) 0 (some 59)), .ob true P (.c [.i .i64 v, .sl 1 l 0 (c.length+1) none] 0 (some 48)), .ob true X (.c [.i .i64 0, .ns] 0 (some 48))]
def Rep (s z:St)(X P:Nat)(p:Int×List Kd):Prop:=
 (p.2=[]∧Kn s z (LA X P p.1))∨∃l c last lv tk,p.2=c++[last]∧Kn s z (LB X P l p.1 c last lv tk)
def Few (n:Nat)(p:Int×List Kd):Prop:=i64 p.1∧p.2.length≤n∧∀k∈p.2,k.length≤n∧∀x∈k,i64 x.2
theorem few_st {i:Nat}{p:Int×List Kd}{l:List UInt8}(h:Few i p):Few (i+1) (stA p i l):=by
 obtain ⟨h1,h2,h3⟩:=h
 unfold stA
 split
 ·exact⟨atoiV_i64 _,by simp only;omega,fun k hk=>⟨Nat.le_succ_of_le (h3 k hk).1,(h3 k hk).2⟩⟩
 ·split
  ·refine⟨h1,by simp;exact h2,fun k hk=> ?_⟩
   rcases List.mem_append.1 hk with hk|hk
   ·exact⟨Nat.le_succ_of_le (h3 k hk).1,(h3 k hk).2⟩
   ·simp at hk;subst hk;simp
  ·split
   ·refine⟨h1, ?_,fun k hk=> ?_⟩
    ·simp[addL]
     omega
    ·rcases List.mem_append.1 hk with hk|hk
     ·have:=h3 k ((List.dropLast_subset _) hk)
      exact ⟨Nat.le_succ_of_le this.1,this.2⟩
     ·simp only[List.mem_singleton] at hk
      subst hk
      have hg:p.2.getLastD []=[]∨p.2.getLastD []∈p.2:=by
       cases hp:p.2 with
       | nil=>exact .inl rfl
       | cons a r=>exact .inr (by simp[List.getLastD])
      have hi:i64 (insA (cutL 32 (l.drop 2))).2:=by
       unfold insA
       split
       ·exact parseV_i64 _
       ·exact⟨by show-9223372036854775808≤(0:Int);decide,by show(0:Int)≤9223372036854775807;decide⟩
      rcases hg with hg|hg
      ·rw[hg]
       exact ⟨by simp,fun x hx=>by simp at hx;subst hx;exact hi⟩
      ·have:=h3 _ hg
       refine ⟨by rw[List.length_append];exact Nat.succ_le_succ this.1,fun x hx=> ?_⟩
       rcases List.mem_append.1 hx with hx|hx
       ·exact this.2 x hx
       ·simp at hx;subst hx;exact hi
   ·exact⟨h1,Nat.le_succ_of_le h2,fun k hk=>⟨Nat.le_succ_of_le (h3 k hk).1,(h3 k hk).2⟩⟩
def EO (S:List UInt8)(X P:Nat)(ls:List (List UInt8))(i:Nat):List V:=(.s S:: .bad:: .p X 0:: .bad:: .p P 0:: .bad:: .bad:: .bad:: .bad:: .pu 1 (ls.map V.s) .u:: .i .i64 (ls.length:Nat):: .i .i64 (i:Nat)::List.replicate 61 .bad)
theorem rd_two {s:St}{a b b':V}(h:Rd s b b'):Rd s (.ag [a,b]) (.ag [a,b']):= .ag _ _ rfl fun j hj=>by
 match j,hj with
 | 0,_=>exact .refl _
 | 1,_=>exact h
theorem rd_tu2 {s:St}{a a' b:V}(h:Rd s a a'):Rd s (.tu [a,b]) (.tu [a',b]):= .tu _ _ rfl fun j hj=>by
 match j,hj with
 | 0,_=>exact h
 | 1,_=>exact .refl _
theorem rd_one {s:St}{a a':V}(h:Rd s a a'):∀j,j< [a].length→Rd s ([a].getD j .bad) ([a'].getD j .bad):=fun j hj=>by
 match j,hj with
 | 0,_=>exact h
theorem rd_rows {s:St}{l z:Nat}{ks:List Kd}{t:Option Nat}(hg:s.get l=some (.c (ks.map kV) z t)):Rd s (.sl 1 l 0 ks.length none) (ksV ks):=by
 refine .sl 1 l 0 ks.length none (ks.map kV) z t (ks.map kV) hg (by simp) (by simp) (fun i hi=> ?_) (fun i j hi hj=> ?_)
 ·rw[List.getD,List.getElem?_map,List.getElem?_eq_getElem hi];rfl
 ·obtain rfl:j=0:=by omega
  rw [show 0+i* 1+0=i by omega,List.getD,List.getElem?_map,List.getElem?_eq_getElem hi]
  exact .refl _
theorem rep_end {s z:St}{X P:Nat}{v:Int}{ks:List Kd}{c:C}{e:List V}{Q:XM→List V→St→Prop}(hR:Rep s z X P (v,ks))
  (h:∀kv z' cl,(∀z'' a b,Kn s z'' (a::b::cl)→Rd (z''.drop s.n) kv (ksV ks))→Kn s z' (.ob true P (.c [.i .i64 v,kv] 0 (some 48)):: .ob true X (.c [.i .i64 0, .ns] 0 (some 48))::cl)→cl.all En.own=true→HM gt1 Tryz.prog s c e z' Q):HM gt1 Tryz.prog s c e z Q:=by
 rcases hR with⟨hp,K⟩|⟨l,c1,last,lv,tk,hp,K⟩
 ·cases(show ks=[] from hp)
  unfold LA at K
  refine kobw K .here (us:=[.i .i64 v,ksV []]) (.cons (.refl _) (.cons (.ns 1) .nil)) fun z2 K1=> ?_
  exact h (ksV []) z2 [] (fun _ _ _ _=> .refl _) K1 rfl
 ·cases(show ks=c1++[last] from hp)
  unfold LB at K
  refine kobw K (.there .here) (us:=(c1++[last]).map kV) (by rw[List.map_append];exact vw_last (K.vw .here)) fun z2 K1=> ?_
  have K2:=(K1.drop0 rfl).rot
  refine h _ z2 [.ob true l (.c ((c1++[last]).map kV) 0 (some 59))] (fun z'' a b K3=> ?_) K2 rfl
  have :=rd_rows (K3.getd (.there (.there .here)))
  rwa [List.length_append] at this
theorem cof_den (S:List UInt8)(hS:S.length≤700000)(hL:(cutL 10 S).length≤700001)(s:St)(hx:NoX s)(r:Int×List Kd)(hr:foA (cutL 10 S) 0 (0,[])=r):
  Den gt1 Tryz.prog 28 [.s S] s (if mayP r.1 r.2∧pgT r.1 r.2=S then .tu [pgV r.1 r.2, .i .i64 0] else .tu [pgV 0 [], .i .i64 3]) s:=by
 refine Den.tidy fun ht=>Den.hmr gnm1 hG28 ?_
 have K:=Kn.init ht.1 hx
 conv =>whnf
 refine kgo ?_;(repeat(first|intro(X:Nat)|intro(z:St)|intro(av:V)|intro(tk:Option Nat)|(intro(K1:Kn _ _ _);(try clear K);rename Kn _ _ _=>K)));conv=>whnf
 have hsp:=split_d (c:=10) (l:=S) (by omega) z K.x
 rw [pieces_cut] at hsp
 refine ⟨_,_,hsp, ?_⟩
 have hlen:=hL
 have hel:=cutL_el 10 S
 clear hL
 generalize cutL 10 S=ls at hlen hel hr
 have hll:(ls.map V.s).length=ls.length:=List.length_map ..
 conv =>whnf
 refine kgo ?_;(repeat(first|intro(X:Nat)|intro(z:St)|intro(av:V)|intro(tk:Option Nat)|(intro(K1:Kn _ _ _);(try clear K);rename Kn _ _ _=>K)));conv=>whnf
 rw [hll]
 rename_i X0 z0
 revert X;intro P K
 refine HM.loop gnm1 fun hg=>⟨fun m e z'=>∃(i:Nat)(p:Int×List Kd),i≤ls.length∧m=ls.length-i∧e=EO S X0 P ls i∧foA (ls.drop i) i p=r∧Few i p∧Rep s z' X0 P p,
  ⟨ls.length,fg [0,2,4,9,10,11] _,_,WkM.fg hg,0,(0,[]),Nat.zero_le _,rfl,rfl,hr,⟨⟨by decide,by decide⟩,Nat.le_refl _,fun k hk=>by simp at hk⟩, .inl ⟨rfl,K⟩⟩, ?_⟩
 clear K
 rintro m e z1 ⟨i,p,hi1,rfl,rfl,hfo,hF,hR⟩
 conv =>whnf
 refine kgo ?_;(repeat(first|intro(X:Nat)|intro(z:St)|intro(av:V)|intro(tk:Option Nat)|(intro(K1:Kn _ _ _);(try clear K);rename Kn _ _ _=>K)));conv=>whnf
 refine brL ⟨fun hlt=> ?_,fun hge=> ?_⟩<;>conv=>whnf
 ·have hli:ls[i]? =some ls[i]:=List.getElem?_eq_getElem hlt
  rw [List.drop_eq_getElem_cons hlt,foA] at hfo
  generalize ls[i]=l at hli hfo
  have hl3:l.length≤700000:=Nat.le_trans (hel l (List.mem_of_getElem? hli)) hS
  obtain ⟨v,ks⟩:=p
  rcases hR with⟨hp,K⟩|⟨l1,c,last,lv,tk,hp,K⟩
  ·cases(show ks=[] from hp)
   by_cases h0:i=0
   ·subst h0
    refine kgo ?_;(repeat(first|intro(X:Nat)|intro(z:St)|intro(av:V)|intro(tk:Option Nat)|(intro(K1:Kn _ _ _);(try clear K);rename Kn _ _ _=>K)));conv=>whnf
    refine ⟨_,_,trimp_d _, ?_⟩
    conv =>whnf
    refine kgo ?_;(repeat(first|intro(X:Nat)|intro(z:St)|intro(av:V)|intro(tk:Option Nat)|(intro(K1:Kn _ _ _);(try clear K);rename Kn _ _ _=>K)));conv=>whnf
    refine ⟨_,_,atoi_d (Nat.le_trans (trimP_len _ _) (by omega)) _, ?_⟩
    conv =>whnf
    unfold LA at K
    refine kgo ?_;(repeat(first|intro(X:Nat)|intro(z:St)|intro(av:V)|intro(tk:Option Nat)|(intro(K1:Kn _ _ _);(try clear K);rename Kn _ _ _=>K)));conv=>whnf
    intro hg'
    refine ⟨ls.length-(0+1),fg [0,2,4,9,10,11] _,_,by omega,WkM.fg hg',0+1,_,hlt,rfl,rfl,hfo,few_st hF, ?_⟩
    rw [stA,if_pos rfl];exact .inl ⟨rfl,K⟩
   ·refine kgo ?_;(repeat(first|intro(X:Nat)|intro(z:St)|intro(av:V)|intro(tk:Option Nat)|(intro(K1:Kn _ _ _);(try clear K);rename Kn _ _ _=>K)));conv=>whnf
    rw [show eqZ ((i:Nat):Int) 0=false by rw[eqZ_eq];simpa using h0]
    conv =>whnf
    refine kgo ?_;(repeat(first|intro(X:Nat)|intro(z:St)|intro(av:V)|intro(tk:Option Nat)|(intro(K1:Kn _ _ _);(try clear K);rename Kn _ _ _=>K)));conv=>whnf
    by_cases hk:l=[107,105,110,100]
    ·rw[show(l== [107,105,110,100])=true from beq_iff_eq.2 hk]
     conv =>whnf
     unfold LA at K
     refine kgo ?_;(repeat(first|intro(X:Nat)|intro(z:St)|intro(av:V)|intro(tk:Option Nat)|(intro(K1:Kn _ _ _);(try clear K);rename Kn _ _ _=>K)));conv=>whnf
     obtain ⟨l0,z2,K1,ha⟩:=mapp0 K
     refine ⟨_,_,ha _ _ _ rfl rfl, ?_⟩
     clear K;rename Kn _ _ _=>K
     conv =>whnf
     refine kgo ?_;(repeat(first|intro(X:Nat)|intro(z:St)|intro(av:V)|intro(tk:Option Nat)|(intro(K1:Kn _ _ _);(try clear K);rename Kn _ _ _=>K)));conv=>whnf
     intro hg'
     refine ⟨ls.length-(i+1),fg [0,2,4,9,10,11] _,_,by omega,WkM.fg hg',i+1,_,hlt,rfl,rfl,hfo,few_st hF, ?_⟩
     rw [stA,if_neg h0,if_pos hk];exact .inr ⟨l0,[],[], .ns,none,rfl,K.acc0 2⟩
    ·rw[show(l== [107,105,110,100])=false from beq_eq_false_iff_ne.2 hk]
     conv =>whnf
     refine kgo ?_;(repeat(first|intro(X:Nat)|intro(z:St)|intro(av:V)|intro(tk:Option Nat)|(intro(K1:Kn _ _ _);(try clear K);rename Kn _ _ _=>K)));conv=>whnf
     refine ⟨_,_,pre_d _, ?_⟩
     conv =>whnf
     unfold LA at K
     refine kgo ?_;(repeat(first|intro(X:Nat)|intro(z:St)|intro(av:V)|intro(tk:Option Nat)|(intro(K1:Kn _ _ _);(try clear K);rename Kn _ _ _=>K)));conv=>whnf
     cases hpre:Lib.hasPrefix l [32,32]<;>conv=>whnf
     ·refine kgo ?_;(repeat(first|intro(X:Nat)|intro(z:St)|intro(av:V)|intro(tk:Option Nat)|(intro(K1:Kn _ _ _);(try clear K);rename Kn _ _ _=>K)));conv=>whnf
      intro hg'
      refine ⟨ls.length-(i+1),fg [0,2,4,9,10,11] _,_,by omega,WkM.fg hg',i+1,_,hlt,rfl,rfl,hfo,few_st hF, ?_⟩
      rw [stA,if_neg h0,if_neg hk,if_neg (by simp)];exact .inl ⟨rfl,K⟩
     ·refine kgo ?_;(repeat(first|intro(X:Nat)|intro(z:St)|intro(av:V)|intro(tk:Option Nat)|(intro(K1:Kn _ _ _);(try clear K);rename Kn _ _ _=>K)));conv=>whnf
      intro hg'
      refine ⟨ls.length-(i+1),fg [0,2,4,9,10,11] _,_,by omega,WkM.fg hg',i+1,_,hlt,rfl,rfl,hfo,few_st hF, ?_⟩
      rw [stA,if_neg h0,if_neg hk,if_neg (by simp)];exact .inl ⟨rfl,K⟩
  ·have h0:i≠0:=fun h=>by subst h;have:=hF.2.1;rw[hp] at this;simp at this
   cases (show ks=c++[last] from hp)
   by_cases hk:l=[107,105,110,100]
   ·unfold LB at K
    refine kobw K (.there .here) (us:=c.map kV++[kV last]) (vw_last (K.vw .here)) fun z2 K1=> ?_
    clear K;rename Kn _ _ _=>K
    replace K:=K.drop0 rfl
    conv =>whnf
    refine kgo ?_;(repeat(first|intro(X:Nat)|intro(z:St)|intro(av:V)|intro(tk:Option Nat)|(intro(K1:Kn _ _ _);(try clear K);rename Kn _ _ _=>K)));conv=>whnf
    rw [show eqZ ((i:Nat):Int) 0=false by rw[eqZ_eq];simpa using h0]
    conv =>whnf
    refine kgo ?_;(repeat(first|intro(X:Nat)|intro(z:St)|intro(av:V)|intro(tk:Option Nat)|(intro(K1:Kn _ _ _);(try clear K);rename Kn _ _ _=>K)));conv=>whnf
    rw [show(l== [107,105,110,100])=true from beq_iff_eq.2 hk]
    conv =>whnf
    refine kgo ?_;(repeat(first|intro(X:Nat)|intro(z:St)|intro(av:V)|intro(tk:Option Nat)|(intro(K1:Kn _ _ _);(try clear K);rename Kn _ _ _=>K)));conv=>whnf
    obtain ⟨l0,z3,K1,ha⟩:=mapp1 (n:=c.length+1) K (by simp) (by have:=hF.2.1;simp at this;omega)
    refine ⟨_,_,ha _ _ _ rfl rfl, ?_⟩
    clear K;rename Kn _ _ _=>K
    conv =>whnf
    refine kgo ?_;(repeat(first|intro(X:Nat)|intro(z:St)|intro(av:V)|intro(tk:Option Nat)|(intro(K1:Kn _ _ _);(try clear K);rename Kn _ _ _=>K)));conv=>whnf
    intro hg'
    refine ⟨ls.length-(i+1),fg [0,2,4,9,10,11] _,_,by omega,WkM.fg hg',i+1,_,hlt,rfl,rfl,hfo,few_st hF, ?_⟩
    rw [stA,if_neg h0,if_pos hk];exact .inr ⟨l0,c++[last],[], .ns,none,rfl,(K.acc0 2).cast (by simp[LB])⟩
   ·unfold LB at K
    refine kgo ?_;(repeat(first|intro(X:Nat)|intro(z:St)|intro(av:V)|intro(tk:Option Nat)|(intro(K1:Kn _ _ _);(try clear K);rename Kn _ _ _=>K)));conv=>whnf
    rw [show eqZ ((i:Nat):Int) 0=false by rw[eqZ_eq];simpa using h0]
    conv =>whnf
    refine kgo ?_;(repeat(first|intro(X:Nat)|intro(z:St)|intro(av:V)|intro(tk:Option Nat)|(intro(K1:Kn _ _ _);(try clear K);rename Kn _ _ _=>K)));conv=>whnf
    rw [show(l== [107,105,110,100])=false from beq_eq_false_iff_ne.2 hk]
    conv =>whnf
    refine kgo ?_;(repeat(first|intro(X:Nat)|intro(z:St)|intro(av:V)|intro(tk:Option Nat)|(intro(K1:Kn _ _ _);(try clear K);rename Kn _ _ _=>K)));conv=>whnf
    refine ⟨_,_,pre_d _, ?_⟩
    conv =>whnf
    refine kgo ?_;(repeat(first|intro(X:Nat)|intro(z:St)|intro(av:V)|intro(tk:Option Nat)|(intro(K1:Kn _ _ _);(try clear K);rename Kn _ _ _=>K)));conv=>whnf
    cases hpre:Lib.hasPrefix l [32,32]<;>conv=>whnf
    ·refine kgo ?_;(repeat(first|intro(X:Nat)|intro(z:St)|intro(av:V)|intro(tk:Option Nat)|(intro(K1:Kn _ _ _);(try clear K);rename Kn _ _ _=>K)));conv=>whnf
     intro hg'
     refine ⟨ls.length-(i+1),fg [0,2,4,9,10,11] _,_,by omega,WkM.fg hg',i+1,_,hlt,rfl,rfl,hfo,few_st hF, ?_⟩
     rw [stA,if_neg h0,if_neg hk,if_neg (by simp[hpre])];exact .inr ⟨l1,c,last,lv,tk,rfl,K⟩
    ·refine kgo ?_;(repeat(first|intro(X:Nat)|intro(z:St)|intro(av:V)|intro(tk:Option Nat)|(intro(K1:Kn _ _ _);(try clear K);rename Kn _ _ _=>K)));conv=>whnf
     have hwm:wrapF .i64 (((c.length+1:Nat):Int)-1)=((c.length:Nat):Int):=by
      have :=hF.2.1
      simp at this
      rw [wI];omega
     rw [hwm]
     refine ⟨rfl,Int.natCast_nonneg _,by omega, ?_⟩
     conv =>whnf
     refine kgo ?_;(repeat(first|intro(X:Nat)|intro(z:St)|intro(av:V)|intro(tk:Option Nat)|(intro(K1:Kn _ _ _);(try clear K);rename Kn _ _ _=>K)));conv=>whnf
     have hl2:2≤l.length:=pre_len hpre
     refine ⟨_,_,aop_slS1 (a:=2) rfl rfl hl2, ?_⟩
     conv =>whnf
     refine kgo ?_;(repeat(first|intro(X:Nat)|intro(z:St)|intro(av:V)|intro(tk:Option Nat)|(intro(K1:Kn _ _ _);(try clear K);rename Kn _ _ _=>K)));conv=>whnf
     refine ⟨_,_,split_c (c:=32) (l:=l.drop 2) (by rw[List.length_drop];omega) _ K.x, ?_⟩
     have hel2:=cutL_el 32 (l.drop 2)
     obtain ⟨a,rr,hc⟩:∃a rr,cutL 32 (l.drop 2)=a::rr:=by
      cases h:cutL 32 (l.drop 2) with
      | nil=>exact(cutL_ne _ _ h).elim
      | cons a rr=>exact⟨a,rr,rfl⟩
     rw [hc] at hel2 ⊢
     conv =>whnf
     refine kgo ?_;(repeat(first|intro(X:Nat)|intro(z:St)|intro(av:V)|intro(tk:Option Nat)|(intro(K1:Kn _ _ _);(try clear K);rename Kn _ _ _=>K)));conv=>whnf
     refine ⟨_,_,ins_den a rr (fun b hb=>Nat.le_trans (hel2 b (List.mem_cons_of_mem _ hb)) (by rw[List.length_drop];omega)) _ K.x, ?_⟩
     have h1:=K.get (w:=true) (.there .here)
     have hlb:last.length≤i:=(hF.2.2 last (by simp)).1
     have hcell:(c.map kV++[lv])[0+((c.length:Nat):Int).toNat* 1]? =some lv:=by simp
     conv =>whnf
     refine kgo ?_;(repeat(first|intro(X:Nat)|intro(z:St)|intro(av:V)|intro(tk:Option Nat)|(intro(K1:Kn _ _ _);(try clear K);rename Kn _ _ _=>K)));conv=>whnf
     have hset:setAt (c.map kV++[lv]) (0+((c.length:Nat):Int).toNat* 1) [av]=c.map kV++[av]:=setAt_last _ _ _ (by simp)
     refine kdstA (fun z3 K1=> ?_) (ho:=by simp) (hc:=hset)
     clear K;rename Kn _ _ _=>K
     conv =>whnf
     refine kgo ?_;(repeat(first|intro(X:Nat)|intro(z:St)|intro(av:V)|intro(tk:Option Nat)|(intro(K1:Kn _ _ _);(try clear K);rename Kn _ _ _=>K)));conv=>whnf
     intro hg'
     refine ⟨ls.length-(i+1),fg [0,2,4,9,10,11] _,_,by omega,WkM.fg hg',i+1,_,hlt,rfl,rfl,hfo,few_st hF, ?_⟩
     rw [stA,if_neg h0,if_neg hk,if_pos (by simp[hpre]),hc]
     exact .inr ⟨l1,c,last++[insA (a::rr)],av,tk,by simp[addL],K.cast (by simp[LB,insV])⟩
 ·rw[List.drop_of_length_le hge,foA] at hfo
  subst hfo
  obtain ⟨hv,hn1,hn2⟩:=hF
  obtain ⟨v,ks⟩:=p
  have hks:ks.length≤800000:=by simp only at hn1;omega
  have hkk:∀k∈ks,k.length≤800000:=fun k hk=>by have:=(hn2 k hk).1;omega
  have hki:∀k∈ks,∀x∈k,i64 x.2:=fun k hk=>(hn2 k hk).2
  refine rep_end hR fun kv z2 cl hrd K hcl=> ?_
  have hra:Rd z2 (.ag [.i .i64 v,kv]) (pgV v ks):=rd_two ((hrd _ _ _ K).le (fun l o h=>(z2.drop_sub s.n).2 l o h))
  have hm:=Den.still (args:=[.ag [.i .i64 v,kv]]) (up0 (gt:=gt1) (mayL_den v ks hks hkk z2.bare (fun l o h=>by rw[St.bare_get] at h;cases h))) rfl (rd_one hra) (plain_b _)
  have hc:=Den.still (args:=[.ag [.i .i64 v,kv]]) (ctext_den v ks hks hkk hv hki z2.bare (fun l o h=>by rw[St.bare_get] at h;cases h)) rfl (rd_one hra) (plain_s _)
  conv =>whnf
  refine kgo ?_;(repeat(first|intro(X:Nat)|intro(z:St)|intro(av:V)|intro(tk:Option Nat)|(intro(K1:Kn _ _ _);(try clear K);rename Kn _ _ _=>K)));conv=>whnf
  refine ⟨_,_,hm, ?_⟩
  conv =>whnf
  refine kgo ?_;(repeat(first|intro(X:Nat)|intro(z:St)|intro(av:V)|intro(tk:Option Nat)|(intro(K1:Kn _ _ _);(try clear K);rename Kn _ _ _=>K)));conv=>whnf
  cases hmay:mayP v ks<;>conv=>whnf
  ·rw[if_neg (by simp)]
   refine kgo ?_;(repeat(first|intro(X:Nat)|intro(z:St)|intro(av:V)|intro(tk:Option Nat)|(intro(K1:Kn _ _ _);(try clear K);rename Kn _ _ _=>K)));conv=>whnf
   exact K.retR [.ag [.i .i64 0, .ns], .i .i64 3] ht hx (.tu _ (nm2 (pgV_nm _ _) (.i _ _))) (.refl _) (.tus _ _ (.cons (.ag _ _ (.cons (.refl _) (.cons (.ns 1) .nil))) (.cons (.one (.refl _)) .nil))) (by simpa[En.own] using hcl)
  ·rw[K.get (w:=true) .here]
   conv =>whnf
   refine kgo ?_;(repeat(first|intro(X:Nat)|intro(z:St)|intro(av:V)|intro(tk:Option Nat)|(intro(K1:Kn _ _ _);(try clear K);rename Kn _ _ _=>K)));conv=>whnf
   refine ⟨_,_,hc, ?_⟩
   conv =>whnf
   refine kgo ?_;(repeat(first|intro(X:Nat)|intro(z:St)|intro(av:V)|intro(tk:Option Nat)|(intro(K1:Kn _ _ _);(try clear K);rename Kn _ _ _=>K)));conv=>whnf
   rw [show txt v ks=pgT v ks by simp[txt,hmay]]
   by_cases hS2:pgT v ks=S
   ·rw[show(pgT v ks==S)=true from beq_iff_eq.2 hS2,if_pos ⟨rfl,hS2⟩]
    conv =>whnf
    refine kgo ?_;(repeat(first|intro(X:Nat)|intro(z:St)|intro(av:V)|intro(tk:Option Nat)|(intro(K1:Kn _ _ _);(try clear K);rename Kn _ _ _=>K)));conv=>whnf
    exact K.retR [.ag [.i .i64 v,kv], .i .i64 0] ht hx (.tu _ (nm2 (pgV_nm _ _) (.i _ _))) (rd_tu2 (rd_two (hrd _ _ _ K))) (.one (.refl _)) (by simpa[En.own] using hcl)
   ·rw[show(pgT v ks==S)=false from beq_eq_false_iff_ne.2 hS2,if_neg (fun h=>hS2 h.2)]
    conv =>whnf
    refine kgo ?_;(repeat(first|intro(X:Nat)|intro(z:St)|intro(av:V)|intro(tk:Option Nat)|(intro(K1:Kn _ _ _);(try clear K);rename Kn _ _ _=>K)));conv=>whnf
    exact K.retR [.ag [.i .i64 0, .ns], .i .i64 3] ht hx (.tu _ (nm2 (pgV_nm _ _) (.i _ _))) (.refl _) (.tus _ _ (.cons (.ag _ _ (.cons (.refl _) (.cons (.ns 1) .nil))) (.cons (.one (.refl _)) .nil))) (by simpa[En.own] using hcl)
end Go.Proofs.YtlhopiehnaabgaaGreatDoor
