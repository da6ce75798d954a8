import Derived.Test.YtlhopiehnaabgaaGreatDoorMrx0
set_option linter.all false
namespace Go.Proofs.YtlhopiehnaabgaaGreatDoor
open Go Rf
set_option maxRecDepth 100000
set_option maxHeartbeats 4000000
theorem rdB {S:List UInt8}{X M i:Nat}{gv fv:V}{l w:List UInt8}{n:List Int}{ls:List (List UInt8)}{ps:List (List Int×Int)}{gs:List (List UInt8)}{fs:List Ev}{tk:Option Nat}{s z1:St}{Q:XM→List V→St→Prop}
  (hA:¬(w=wProc∧0<n.length)) (hO:OkM i 700000 (ps,gs,fs)) (hi:i≤700001) (hl9:l.length≤700001)
  (hR:(ps=[]∧gs=[]∧gv= .ns∧Kn s z1 (LM0 X M fs fv tk))∨∃lp lg,0<gs.length∧gv= .sl 1 lg 0 gs.length none∧Kn s z1 (LM1 X M lp lg ps gs fs fv tk))
  (hQ:∀e z gv',fg [0,2,4,5,14,15,16] e=ERd S X M gv' ls i→RepM s z X M (stN (ps,gs,fs) l w n) gv'→Q .nrm e z):HM gt1 Tryz.prog s c24b (ERe S X M gv l w n ls i) z1 Q:=by
 have hln:(n.map iV).length=n.length:=List.length_map ..
 have hv:∃L,Kn s z1 L:=by rcases hR with⟨_,_,_,K⟩|⟨_,_,_,_,K⟩<;>exact⟨_,K⟩
 obtain ⟨L0,K⟩:=hv
 conv =>whnf
 refine kgo ?_;(repeat(first|intro(X:Nat)|intro(z:St)|intro(av:V)|intro(tk:Option Nat)|(intro(K1:Kn _ _ _);(try clear K);rename Kn _ _ _=>K)));conv=>whnf
 refine orj (p:=¬w=wProc) (q:=w=wProc∧¬0<n.length) (by
  by_cases h:w=wProc
  ·exact .inr ⟨h,fun h2=>hA ⟨h,h2⟩⟩
  ·exact .inl h) (fun g h=>by
  rw [show(w== [112,114,111,99])=false from beq_eq_false_iff_ne.2 h]
  conv =>whnf
  refine kgx ?_;(repeat(first|intro(X:Nat)|intro(z:St)|intro(av:V)|intro(tk:Option Nat)|(intro(K1:Kn _ _ _);(try clear K);rename Kn _ _ _=>K)));conv=>whnf
  refine HM.fgt gnm1 [0,2,4,5,7,8,11,14,15,16] fun _=> ?_
  rw [show fg [0,2,4,5,7,8,11,14,15,16] _=ERe S X M gv l w n ls i from rfl]
  exact g.bxo) (fun g h=>by
  rw [show(w== [112,114,111,99])=true from beq_iff_eq.2 h.1]
  conv =>whnf
  refine kgo ?_;(repeat(first|intro(X:Nat)|intro(z:St)|intro(av:V)|intro(tk:Option Nat)|(intro(K1:Kn _ _ _);(try clear K);rename Kn _ _ _=>K)));conv=>whnf
  rw [hln,show ltZ 0 ((n.length:Nat):Int)=false by rw[ltZ_eq];simpa using h.2]
  conv =>whnf
  refine kgx ?_;(repeat(first|intro(X:Nat)|intro(z:St)|intro(av:V)|intro(tk:Option Nat)|(intro(K1:Kn _ _ _);(try clear K);rename Kn _ _ _=>K)));conv=>whnf
  refine HM.fgt gnm1 [0,2,4,5,7,8,11,14,15,16] fun _=> ?_
  rw [show fg [0,2,4,5,7,8,11,14,15,16] _=ERe S X M gv l w n ls i from rfl]
  exact g.bxo) ?_
 have hq:stN (ps,gs,fs) l w n=if¬w=wFirst∧0<gs.length then(ps,app1 gs l,fs)
  else if w=wFirst∧n.length=4 then(ps,gs,fs++[((n.getD 0 0,0,((fs.length:Nat):Int),n.getD 1 0,n.getD 2 0,n.getD 3 0):Ev)]) else(ps,gs,fs):=by
  unfold stN;rw[if_neg hA]
 rw [hq] at hQ
 clear hq K
 rcases hR with⟨hp1,hp2,hgv,K⟩|⟨lp,lg,hgl,hgv,K⟩
 ·cases(show ps=[] from hp1)
  cases (show gs=[] from hp2)
  subst hgv
  replace K:Kn s z1 (LM0 X M fs fv tk):=K
  unfold LM0 at K
  conv =>whnf
  refine kgo ?_;(repeat(first|intro(X:Nat)|intro(z:St)|intro(av:V)|intro(tk:Option Nat)|(intro(K1:Kn _ _ _);(try clear K);rename Kn _ _ _=>K)));conv=>whnf
  by_cases hF:w=wFirst
  ·rw[show(w== [102,105,114,115,116])=true from beq_iff_eq.2 hF]
   conv =>whnf
   refine kgo ?_;(repeat(first|intro(X:Nat)|intro(z:St)|intro(av:V)|intro(tk:Option Nat)|(intro(K1:Kn _ _ _);(try clear K);rename Kn _ _ _=>K)));conv=>whnf
   rw [show(w== [102,105,114,115,116])=true from beq_iff_eq.2 hF]
   conv =>whnf
   refine kgo ?_;(repeat(first|intro(X:Nat)|intro(z:St)|intro(av:V)|intro(tk:Option Nat)|(intro(K1:Kn _ _ _);(try clear K);rename Kn _ _ _=>K)));conv=>whnf
   rw [hln]
   by_cases h4:n.length=4
   ·rw[show eqZ ((n.length:Nat):Int) 4=true by rw[eqZ_eq];simp[h4]]
    rw [if_neg (fun h=>h.1 hF),if_pos ⟨hF,h4⟩,show fs.length=(fs.map evV).length by simp] at hQ
    obtain ⟨a,b,c,d,rfl⟩:∃a b c d,n=[a,b,c,d]:=by
     match n,h4 with
     | [a,b,c,d],_=>exact⟨a,b,c,d,rfl⟩
    have hfs:fs.length≤700001:=by have:=hO.a;simp only at this;omega
    conv =>whnf
    refine kgo ?_;(repeat(first|intro(X:Nat)|intro(z:St)|intro(av:V)|intro(tk:Option Nat)|(intro(K1:Kn _ _ _);(try clear K);rename Kn _ _ _=>K)));conv=>whnf
    refine ⟨rfl,by decide,_,rfl, ?_⟩
    conv =>whnf
    refine kgo ?_;(repeat(first|intro(X:Nat)|intro(z:St)|intro(av:V)|intro(tk:Option Nat)|(intro(K1:Kn _ _ _);(try clear K);rename Kn _ _ _=>K)));conv=>whnf
    refine ⟨rfl,by decide,_,rfl, ?_⟩
    conv =>whnf
    refine kgo ?_;(repeat(first|intro(X:Nat)|intro(z:St)|intro(av:V)|intro(tk:Option Nat)|(intro(K1:Kn _ _ _);(try clear K);rename Kn _ _ _=>K)));conv=>whnf
    refine ⟨rfl,by decide,_,rfl, ?_⟩
    conv =>whnf
    refine kgo ?_;(repeat(first|intro(X:Nat)|intro(z:St)|intro(av:V)|intro(tk:Option Nat)|(intro(K1:Kn _ _ _);(try clear K);rename Kn _ _ _=>K)));conv=>whnf
    refine ⟨rfl,by decide,_,rfl, ?_⟩
    conv =>whnf
    refine kgo ?_;(repeat(first|intro(X:Nat)|intro(z:St)|intro(av:V)|intro(tk:Option Nat)|(intro(K1:Kn _ _ _);(try clear K);rename Kn _ _ _=>K)));conv=>whnf
    exact hQ _ _ _ rfl ⟨av,tk, .inl ⟨rfl,rfl,rfl,K.cast (by rw[LM0,List.map_append];rfl)⟩⟩
   ·rw[show eqZ ((n.length:Nat):Int) 4=false by rw[eqZ_eq];simp;omega]
    rw [if_neg (fun h=>h.1 hF),if_neg (fun h=>h4 h.2)] at hQ
    conv =>whnf
    refine kgo ?_;(repeat(first|intro(X:Nat)|intro(z:St)|intro(av:V)|intro(tk:Option Nat)|(intro(K1:Kn _ _ _);(try clear K);rename Kn _ _ _=>K)));conv=>whnf
    exact hQ _ _ _ rfl ⟨fv,tk, .inl ⟨rfl,rfl,rfl,K⟩⟩
  ·rw[show(w== [102,105,114,115,116])=false from beq_eq_false_iff_ne.2 hF]
   conv =>whnf
   refine kgo ?_;(repeat(first|intro(X:Nat)|intro(z:St)|intro(av:V)|intro(tk:Option Nat)|(intro(K1:Kn _ _ _);(try clear K);rename Kn _ _ _=>K)));conv=>whnf
   rw [show(w== [102,105,114,115,116])=false from beq_eq_false_iff_ne.2 hF]
   rw [if_neg (fun h=>by simp at h),if_neg (fun h=>hF h.1)] at hQ
   conv =>whnf
   refine kgo ?_;(repeat(first|intro(X:Nat)|intro(z:St)|intro(av:V)|intro(tk:Option Nat)|(intro(K1:Kn _ _ _);(try clear K);rename Kn _ _ _=>K)));conv=>whnf
   exact hQ _ _ _ rfl ⟨fv,tk, .inl ⟨rfl,rfl,rfl,K⟩⟩
 ·replace hgl:0<gs.length:=hgl
  replace hgv:gv= .sl 1 lg 0 gs.length none:=hgv
  subst hgv
  replace K:Kn s z1 (LM1 X M lp lg ps gs fs fv tk):=K
  unfold LM1 at K
  conv =>whnf
  refine kgo ?_;(repeat(first|intro(X:Nat)|intro(z:St)|intro(av:V)|intro(tk:Option Nat)|(intro(K1:Kn _ _ _);(try clear K);rename Kn _ _ _=>K)));conv=>whnf
  by_cases hF:w=wFirst
  ·rw[show(w== [102,105,114,115,116])=true from beq_iff_eq.2 hF]
   conv =>whnf
   refine kgo ?_;(repeat(first|intro(X:Nat)|intro(z:St)|intro(av:V)|intro(tk:Option Nat)|(intro(K1:Kn _ _ _);(try clear K);rename Kn _ _ _=>K)));conv=>whnf
   rw [show(w== [102,105,114,115,116])=true from beq_iff_eq.2 hF]
   conv =>whnf
   refine kgo ?_;(repeat(first|intro(X:Nat)|intro(z:St)|intro(av:V)|intro(tk:Option Nat)|(intro(K1:Kn _ _ _);(try clear K);rename Kn _ _ _=>K)));conv=>whnf
   rw [hln]
   by_cases h4:n.length=4
   ·rw[show eqZ ((n.length:Nat):Int) 4=true by rw[eqZ_eq];simp[h4]]
    rw [if_neg (fun h=>h.1 hF),if_pos ⟨hF,h4⟩,show fs.length=(fs.map evV).length by simp] at hQ
    obtain ⟨a,b,c,d,rfl⟩:∃a b c d,n=[a,b,c,d]:=by
     match n,h4 with
     | [a,b,c,d],_=>exact⟨a,b,c,d,rfl⟩
    have hfs:fs.length≤700001:=by have:=hO.a;simp only at this;omega
    conv =>whnf
    refine kgo ?_;(repeat(first|intro(X:Nat)|intro(z:St)|intro(av:V)|intro(tk:Option Nat)|(intro(K1:Kn _ _ _);(try clear K);rename Kn _ _ _=>K)));conv=>whnf
    refine ⟨rfl,by decide,_,rfl, ?_⟩
    conv =>whnf
    refine kgo ?_;(repeat(first|intro(X:Nat)|intro(z:St)|intro(av:V)|intro(tk:Option Nat)|(intro(K1:Kn _ _ _);(try clear K);rename Kn _ _ _=>K)));conv=>whnf
    refine ⟨rfl,by decide,_,rfl, ?_⟩
    conv =>whnf
    refine kgo ?_;(repeat(first|intro(X:Nat)|intro(z:St)|intro(av:V)|intro(tk:Option Nat)|(intro(K1:Kn _ _ _);(try clear K);rename Kn _ _ _=>K)));conv=>whnf
    refine ⟨rfl,by decide,_,rfl, ?_⟩
    conv =>whnf
    refine kgo ?_;(repeat(first|intro(X:Nat)|intro(z:St)|intro(av:V)|intro(tk:Option Nat)|(intro(K1:Kn _ _ _);(try clear K);rename Kn _ _ _=>K)));conv=>whnf
    refine ⟨rfl,by decide,_,rfl, ?_⟩
    conv =>whnf
    refine kgo ?_;(repeat(first|intro(X:Nat)|intro(z:St)|intro(av:V)|intro(tk:Option Nat)|(intro(K1:Kn _ _ _);(try clear K);rename Kn _ _ _=>K)));conv=>whnf
    exact hQ _ _ _ rfl ⟨av,tk, .inr ⟨lp,lg,hgl,rfl,K.cast (by rw[LM1,List.map_append];rfl)⟩⟩
   ·rw[show eqZ ((n.length:Nat):Int) 4=false by rw[eqZ_eq];simp;omega]
    rw [if_neg (fun h=>h.1 hF),if_neg (fun h=>h4 h.2)] at hQ
    conv =>whnf
    refine kgo ?_;(repeat(first|intro(X:Nat)|intro(z:St)|intro(av:V)|intro(tk:Option Nat)|(intro(K1:Kn _ _ _);(try clear K);rename Kn _ _ _=>K)));conv=>whnf
    exact hQ _ _ _ rfl ⟨fv,tk, .inr ⟨lp,lg,hgl,rfl,K⟩⟩
  ·rw[show(w== [102,105,114,115,116])=false from beq_eq_false_iff_ne.2 hF]
   conv =>whnf
   refine kgo ?_;(repeat(first|intro(X:Nat)|intro(z:St)|intro(av:V)|intro(tk:Option Nat)|(intro(K1:Kn _ _ _);(try clear K);rename Kn _ _ _=>K)));conv=>whnf
   rw [show ltZ 0 ((gs.length:Nat):Int)=true by rw[ltZ_eq];simpa using hgl]
   rw [if_pos ⟨hF,hgl⟩] at hQ
   obtain ⟨c,g0,rfl⟩:∃c g0,gs=c++[g0]:=⟨_,_,(List.dropLast_concat_getLast (List.length_pos_iff.1 hgl)).symm⟩
   have hcl:c.length≤700001:=by have h1:=hO.l;have h2:=hO.a;simp at h1 h2;omega
   have hgb:g0.length≤700001:=by have:=hO.g;simp at this;omega
   rw [show(c++[g0]).length=c.length+1 by simp]
   replace K:=K.cast (L':=[.ac 6 fv (fs.map evV) tk, .ob true lp (.c (ps.flatMap cP) 0 (some 50)), .ob true lg (.c (c.map V.s++[.s g0]) 0 (some 9)), .ob true M (.c [.sl 4 lp 0 ps.length none,fv] 0 (some 25)), .ob true X (.c [.ns, .ns] 0 (some 25))]) (by simp)
   conv =>whnf
   refine kgo ?_;(repeat(first|intro(X:Nat)|intro(z:St)|intro(av:V)|intro(tk:Option Nat)|(intro(K1:Kn _ _ _);(try clear K);rename Kn _ _ _=>K)));conv=>whnf
   rw [show wrapF .i64 (((c.length+1:Nat):Int)-1)=((c.length:Nat):Int) by rw[wI];omega]
   have hcell:(c.map V.s++[V.s g0])[0+((c.length:Nat):Int).toNat* 1]? =some (.s g0):=by simp
   refine ⟨rfl,Int.natCast_nonneg _,by omega, ?_⟩
   conv =>whnf
   refine kgo ?_;(repeat(first|intro(X:Nat)|intro(z:St)|intro(av:V)|intro(tk:Option Nat)|(intro(K1:Kn _ _ _);(try clear K);rename Kn _ _ _=>K)));conv=>whnf
   refine ⟨_,binV_s (a:=g0) (b:=l) (by omega), ?_⟩
   conv =>whnf
   refine kgo ?_;(repeat(first|intro(X:Nat)|intro(z:St)|intro(av:V)|intro(tk:Option Nat)|(intro(K1:Kn _ _ _);(try clear K);rename Kn _ _ _=>K)));conv=>whnf
   refine ⟨rfl,Int.natCast_nonneg _,by omega, ?_⟩
   conv =>whnf
   refine kgo ?_;(repeat(first|intro(X:Nat)|intro(z:St)|intro(av:V)|intro(tk:Option Nat)|(intro(K1:Kn _ _ _);(try clear K);rename Kn _ _ _=>K)));conv=>whnf
   have hset:setAt (c.map V.s++[V.s g0]) (0+((c.length:Nat):Int).toNat* 1) [.s (g0++l)]=c.map V.s++[.s (g0++l)]:=setAt_last _ _ _ (by simp)
   refine kst (fun z3 K1=> ?_) (ho:=by simp) (hc:=hset)
   clear K;rename Kn _ _ _=>K
   conv =>whnf
   refine kgo ?_;(repeat(first|intro(X:Nat)|intro(z:St)|intro(av:V)|intro(tk:Option Nat)|(intro(K1:Kn _ _ _);(try clear K);rename Kn _ _ _=>K)));conv=>whnf
   exact hQ _ _ _ rfl ⟨fv,tk, .inr ⟨lp,lg,by simp[app1],by simp[app1],K.cast (by simp[LM1,app1])⟩⟩
end Go.Proofs.YtlhopiehnaabgaaGreatDoor
