import Derived.Test.YtlhopiehnaabgaaGreatDoorMrx0
set_option linter.all false
namespace Go.Proofs.YtlhopiehnaabgaaGreatDoor
open Go Rf
set_option maxRecDepth 100000
set_option maxHeartbeats 4000000
theorem rdA {S:List UInt8}{X M i:Nat}{gv fv:V}{l w:List UInt8}{a:Int}{rr:List Int}{ls:List (List UInt8)}{ps:List (List Int×Int)}{gs:List (List UInt8)}{fs:List Ev}{tk:Option Nat}{s z1:St}{Q:XM→List V→St→Prop}
  (hw:w=wProc) (hps:ps.length=gs.length) (hgs:gs.length≤700001)
  (hR:(ps=[]∧gs=[]∧gv= .ns∧Kn s z1 (LM0 X M fs fv tk))∨∃lp lg,0<gs.length∧gv= .sl 1 lg 0 gs.length none∧Kn s z1 (LM1 X M lp lg ps gs fs fv tk))
  (hQ:∀e z gv',fg [0,2,4,5,14,15,16] e=ERd S X M gv' ls i→RepM s z X M (ps++[(rr,a)],gs++[[]],fs) gv'→Q .nrm e z):HM gt1 Tryz.prog s c24b (ERe S X M gv l w (a::rr) ls i) z1 Q:=by
 have hln:((a::rr).map iV).length=(a::rr).length:=List.length_map ..
 refine orj hR (fun g h=>by
  obtain ⟨hp1,hp2,hgv,K⟩:=h
  replace hp1:ps=[]:=hp1
  replace hp2:gs=[]:=hp2
  replace K:Kn s z1 (LM0 X M fs fv tk):=K
  unfold LM0 at K
  rw [show gv= .ns from hgv]
  conv =>whnf
  refine kgo ?_;(repeat(first|intro(X:Nat)|intro(z:St)|intro(av:V)|intro(tk:Option Nat)|(intro(K1:Kn _ _ _);(try clear K);rename Kn _ _ _=>K)));conv=>whnf
  rw [show(w== [112,114,111,99])=true from beq_iff_eq.2 hw]
  conv =>whnf
  refine kgo ?_;(repeat(first|intro(X:Nat)|intro(z:St)|intro(av:V)|intro(tk:Option Nat)|(intro(K1:Kn _ _ _);(try clear K);rename Kn _ _ _=>K)));conv=>whnf
  refine ⟨rfl,by decide,_,rfl, ?_⟩
  conv =>whnf
  refine kgo ?_;(repeat(first|intro(X:Nat)|intro(z:St)|intro(av:V)|intro(tk:Option Nat)|(intro(K1:Kn _ _ _);(try clear K);rename Kn _ _ _=>K)));conv=>whnf
  refine kxslc 1 ((a::rr).map iV).length ?_ (by simp) (Nat.le_refl _)
  rw [show(((a::rr).map iV).take ((a::rr).map iV).length).drop 1=rr.map iV by rw[List.take_length];rfl]
  conv =>whnf
  refine kgo ?_;(repeat(first|intro(X:Nat)|intro(z:St)|intro(av:V)|intro(tk:Option Nat)|(intro(K1:Kn _ _ _);(try clear K);rename Kn _ _ _=>K)));conv=>whnf
  obtain ⟨lp,z2,K1,ha⟩:=mg0 K (sz:=4) (bytes:=64) (t:=50) (ag:=true) (cells:=cP (rr,a)) (by decide)
  refine ⟨_,_,ha _ _ _ rfl rfl, ?_⟩
  clear K;rename Kn _ _ _=>K
  conv =>whnf
  refine kgo ?_;(repeat(first|intro(X:Nat)|intro(z:St)|intro(av:V)|intro(tk:Option Nat)|(intro(K1:Kn _ _ _);(try clear K);rename Kn _ _ _=>K)));conv=>whnf
  obtain ⟨lg,z3,K1,ha⟩:=mg0 K (sz:=1) (bytes:=16) (t:=9) (ag:=false) (cells:=[.s []]) (by decide)
  refine ⟨_,_,ha _ _ _ rfl rfl, ?_⟩
  clear K;rename Kn _ _ _=>K
  conv =>whnf
  refine kgx ?_;(repeat(first|intro(X:Nat)|intro(z:St)|intro(av:V)|intro(tk:Option Nat)|(intro(K1:Kn _ _ _);(try clear K);rename Kn _ _ _=>K)));conv=>whnf
  refine mo ?_
  conv =>whnf
  refine kgx ?_;(repeat(first|intro(X:Nat)|intro(z:St)|intro(av:V)|intro(tk:Option Nat)|(intro(K1:Kn _ _ _);(try clear K);rename Kn _ _ _=>K)));conv=>whnf
  refine HM.fgt gnm1 [0,2,4,5,7,14,15,16] fun _=> ?_
  rw [show fg [0,2,4,5,7,14,15,16] _=ERb S X M (.sl 1 lg 0 1 none) ls i from rfl,show V.sl 1 lg 0 1 none=V.sl 1 lg 0 (gs.length+1) none by rw[hp2];rfl]
  replace K:=K.cast (L':=LB1 X M lp lg (ps++[(rr,a)]) (gs++[[]]) fs fv tk) (by rw[hp1,hp2];rfl)
  refine (?_:∀(lp lg:Nat)(z:St),Kn s z (LB1 X M lp lg (ps++[(rr,a)]) (gs++[[]]) fs fv tk)→HM gt1 Tryz.prog s _ (ERb S X M (.sl 1 lg 0 (gs.length+1) none) ls i) z _) _ _ _ K
  exact g.bxo) (fun g h=>by
  obtain ⟨lp,lg,hgl,hgv,K⟩:=h
  replace K:Kn s z1 (LM1 X M lp lg ps gs fs fv tk):=K
  unfold LM1 at K
  replace K:=kperm K (.swap _ _ _)
  rw [show gv= .sl 1 lg 0 gs.length none from hgv]
  conv =>whnf
  refine kgo ?_;(repeat(first|intro(X:Nat)|intro(z:St)|intro(av:V)|intro(tk:Option Nat)|(intro(K1:Kn _ _ _);(try clear K);rename Kn _ _ _=>K)));conv=>whnf
  rw [show(w== [112,114,111,99])=true from beq_iff_eq.2 hw]
  conv =>whnf
  refine kgo ?_;(repeat(first|intro(X:Nat)|intro(z:St)|intro(av:V)|intro(tk:Option Nat)|(intro(K1:Kn _ _ _);(try clear K);rename Kn _ _ _=>K)));conv=>whnf
  refine ⟨rfl,by decide,_,rfl, ?_⟩
  conv =>whnf
  refine kgo ?_;(repeat(first|intro(X:Nat)|intro(z:St)|intro(av:V)|intro(tk:Option Nat)|(intro(K1:Kn _ _ _);(try clear K);rename Kn _ _ _=>K)));conv=>whnf
  refine kxslc 1 ((a::rr).map iV).length ?_ (by simp) (Nat.le_refl _)
  rw [show(((a::rr).map iV).take ((a::rr).map iV).length).drop 1=rr.map iV by rw[List.take_length];rfl]
  conv =>whnf
  refine kgo ?_;(repeat(first|intro(X:Nat)|intro(z:St)|intro(av:V)|intro(tk:Option Nat)|(intro(K1:Kn _ _ _);(try clear K);rename Kn _ _ _=>K)));conv=>whnf
  obtain ⟨lp,z2,K1,ha⟩:=mg1 (n:=ps.length) (sz:=4) (bytes:=64) (ag:=true) (cells:=cP (rr,a)) K (flat_cP ps) (room_of (by omega) (by decide)) (by decide)
  refine ⟨_,_,ha _ _ _ rfl rfl, ?_⟩
  clear K;rename Kn _ _ _=>K
  conv =>whnf
  refine kgo ?_;(repeat(first|intro(X:Nat)|intro(z:St)|intro(av:V)|intro(tk:Option Nat)|(intro(K1:Kn _ _ _);(try clear K);rename Kn _ _ _=>K)));conv=>whnf
  replace K:=kperm K ((List.Perm.cons _ (.swap _ _ _)).trans (.swap _ _ _))
  obtain ⟨lg,z3,K1,ha⟩:=mg1 (n:=gs.length) (sz:=1) (bytes:=16) (ag:=false) (cells:=[.s []]) K (by simp) (room_of (by omega) (by decide)) (by decide)
  refine ⟨_,_,ha _ _ _ rfl rfl, ?_⟩
  clear K;rename Kn _ _ _=>K
  conv =>whnf
  refine kgx ?_;(repeat(first|intro(X:Nat)|intro(z:St)|intro(av:V)|intro(tk:Option Nat)|(intro(K1:Kn _ _ _);(try clear K);rename Kn _ _ _=>K)));conv=>whnf
  refine mo ?_
  conv =>whnf
  refine kgx ?_;(repeat(first|intro(X:Nat)|intro(z:St)|intro(av:V)|intro(tk:Option Nat)|(intro(K1:Kn _ _ _);(try clear K);rename Kn _ _ _=>K)));conv=>whnf
  refine HM.fgt gnm1 [0,2,4,5,7,14,15,16] fun _=> ?_
  rw [show fg [0,2,4,5,7,14,15,16] _=ERb S X M (.sl 1 lg 0 (gs.length+1) none) ls i from rfl]
  replace K:=K.cast (L':=LB1 X M lp lg (ps++[(rr,a)]) (gs++[[]]) fs fv tk) (by simp[LB1])
  refine (?_:∀(lp lg:Nat)(z:St),Kn s z (LB1 X M lp lg (ps++[(rr,a)]) (gs++[[]]) fs fv tk)→HM gt1 Tryz.prog s _ (ERb S X M (.sl 1 lg 0 (gs.length+1) none) ls i) z _) _ _ _ K
  exact g.bxo) ?_
 intro lp lg z2 K
 unfold LB1 at K
 replace K:=K.cast (L':=[.ob true lg (.c (gs.map V.s++[.s []]) 0 (some 9)), .ob true lp (.c ((ps++[(rr,a)]).flatMap cP) 0 (some 50)), .ac 6 fv (fs.map evV) tk, .ob true M (.c [.sl 4 lp 0 (ps++[(rr,a)]).length none,fv] 0 (some 25)), .ob true X (.c [.ns, .ns] 0 (some 25))]) (by simp)
 conv =>whnf
 refine kgo ?_;(repeat(first|intro(X:Nat)|intro(z:St)|intro(av:V)|intro(tk:Option Nat)|(intro(K1:Kn _ _ _);(try clear K);rename Kn _ _ _=>K)));conv=>whnf
 rw [show wrapF .i64 (((gs.length+1:Nat):Int)-1)=((gs.length:Nat):Int) by rw[wI];omega]
 have hcell:(gs.map V.s++[V.s []])[0+((gs.length:Nat):Int).toNat* 1]? =some (.s []):=by simp
 refine ⟨rfl,Int.natCast_nonneg _,by omega, ?_⟩
 conv =>whnf
 refine kgo ?_;(repeat(first|intro(X:Nat)|intro(z:St)|intro(av:V)|intro(tk:Option Nat)|(intro(K1:Kn _ _ _);(try clear K);rename Kn _ _ _=>K)));conv=>whnf
 have hset:setAt (gs.map V.s++[V.s []]) (0+((gs.length:Nat):Int).toNat* 1) [.s []]=gs.map V.s++[.s []]:=setAt_last _ _ _ (by simp)
 refine ⟨rfl,Int.natCast_nonneg _,by omega, ?_⟩
 conv =>whnf
 refine kgo ?_;(repeat(first|intro(X:Nat)|intro(z:St)|intro(av:V)|intro(tk:Option Nat)|(intro(K1:Kn _ _ _);(try clear K);rename Kn _ _ _=>K)));conv=>whnf
 refine kst (fun z3 K1=> ?_) (ho:=by simp) (hc:=hset)
 clear K;rename Kn _ _ _=>K
 conv =>whnf
 refine kgo ?_;(repeat(first|intro(X:Nat)|intro(z:St)|intro(av:V)|intro(tk:Option Nat)|(intro(K1:Kn _ _ _);(try clear K);rename Kn _ _ _=>K)));conv=>whnf
 exact hQ _ _ _ rfl ⟨fv,tk, .inr ⟨lp,lg,by simp,by simp,(kperm K (((List.Perm.swap _ _ _).trans (.cons _ (.swap _ _ _))).trans (.swap _ _ _))).cast (by simp[LM1])⟩⟩
end Go.Proofs.YtlhopiehnaabgaaGreatDoor
