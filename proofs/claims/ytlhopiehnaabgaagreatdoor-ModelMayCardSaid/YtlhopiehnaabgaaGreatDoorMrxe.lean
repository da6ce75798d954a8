import Derived.Test.YtlhopiehnaabgaaGreatDoorMrx0
set_option linter.all false
namespace Go.Proofs.YtlhopiehnaabgaaGreatDoor
open Go Rf
set_option maxRecDepth 100000
set_option maxHeartbeats 4000000
theorem rdP {S:List UInt8}{X M i:Nat}{p:RM}{gv fv:V}{tk:Option Nat}{ls:List (List UInt8)}{s z1:St}{Q:XM→List V→St→Prop}(hO:OkM i 700000 p)(hi:i≤700001)
  (hR:(p.1=[]∧p.2.1=[]∧gv= .ns∧Kn s z1 (LM0 X M p.2.2 fv tk))∨∃lp lg,0<p.2.1.length∧gv= .sl 1 lg 0 p.2.1.length none∧Kn s z1 (LM1 X M lp lg p.1 p.2.1 p.2.2 fv tk))
  (hQ:∀e z,fg [0,2,4] e=ERz S X M→EndR s z X M p→Q .nrm e z):HM gt1 Tryz.prog s c24p (ERd S X M gv ls i) z1 Q:=by
 have hps:p.1.length=p.2.1.length:=hO.l
 rcases hR with⟨hp1,hp2,hgv,K⟩|⟨lp,lg,hgl,hgv,K⟩
 ·rw[show gv= .ns from hgv]
  have hpm:psM p=[]:=by unfold psM;rw[hp1];rfl
  unfold LM0 at K
  refine kgo ?_;(repeat(first|intro(X:Nat)|intro(z:St)|intro(av:V)|intro(tk:Option Nat)|(intro(K1:Kn _ _ _);(try clear K);rename Kn _ _ _=>K)));conv=>whnf
  refine HM.loop gnm1 fun hg=>⟨fun m e z'=>e=ERp S X M .bad 0 0∧Kn s z' [.ac 6 fv (p.2.2.map evV) tk, .ob true M (.c [.ns,fv] 0 (some 25)), .ob true X (.c [.ns, .ns] 0 (some 25))],⟨0,fg [0,2,4,102,103] _,_,WkM.fg hg,rfl,K⟩, ?_⟩
  clear K
  rintro m e z1 ⟨rfl,K⟩
  refine HM.seq ?_
  conv =>whnf
  refine mo ?_
  conv =>whnf
  refine kgx ?_;(repeat(first|intro(X:Nat)|intro(z:St)|intro(av:V)|intro(tk:Option Nat)|(intro(K1:Kn _ _ _);(try clear K);rename Kn _ _ _=>K)));conv=>whnf
  exact hQ _ _ rfl ⟨fv,tk,_,_,[], .ns 4,rfl,K,fun _ _ _ _=>by rw[hpm];exact .refl _⟩
 ·rw[show gv= .sl 1 lg 0 p.2.1.length none from hgv]
  unfold LM1 at K
  refine kgo ?_;(repeat(first|intro(X:Nat)|intro(z:St)|intro(av:V)|intro(tk:Option Nat)|(intro(K1:Kn _ _ _);(try clear K);rename Kn _ _ _=>K)));conv=>whnf
  refine HM.loop gnm1 fun hg=>⟨fun m e z'=>∃j:Nat,j≤p.1.length∧m=p.1.length-j∧e=ERp S X M (.sl 1 lg 0 p.2.1.length none) p.1.length j∧Kn s z' [.ac 6 fv (p.2.2.map evV) tk, .ob true lp (.c (((psM p).take j).flatMap prC++(p.1.drop j).flatMap cP) 0 (some 50)), .ob true lg (.c (p.2.1.map V.s) 0 (some 9)), .ob true M (.c [.sl 4 lp 0 p.1.length none,fv] 0 (some 25)), .ob true X (.c [.ns, .ns] 0 (some 25))],
   ⟨p.1.length,fg [0,2,4,5,102,103] _,_,WkM.fg hg,0,Nat.zero_le _,rfl,rfl,K.cast (by simp)⟩, ?_⟩
  clear K
  rintro m e z1 ⟨j,hj,rfl,rfl,K⟩
  conv =>whnf
  refine kgo ?_;(repeat(first|intro(X:Nat)|intro(z:St)|intro(av:V)|intro(tk:Option Nat)|(intro(K1:Kn _ _ _);(try clear K);rename Kn _ _ _=>K)));conv=>whnf
  refine brL ⟨fun hlt=> ?_,fun hge=> ?_⟩<;>conv=>whnf
  ·have hlg:j<p.2.1.length:=by omega
   have hxj:p.1[j]? =some p.1[j]:=List.getElem?_eq_getElem hlt
   have hgj:p.2.1[j]? =some p.2.1[j]:=List.getElem?_eq_getElem hlg
   have hgm:=flatten_el (List.getElem_mem hlg)
   have hOg:=hO.g
   have hOa:=hO.a
   rw [List.drop_eq_getElem_cons hlt,List.flatMap_cons] at K
   generalize p.1[j]=x at hxj K
   generalize p.2.1[j]=g0 at hgj hgm
   have hqj:(psM p)[j]? =some (mkP x g0):=by unfold psM;simp[List.getElem?_zipWith,hxj,hgj]
   obtain ⟨ek,hcd⟩:=cofA_den g0 (by omega) _ K.x
   have hcell:(p.2.1.map V.s)[0+((j:Nat):Int).toNat* 1]? =some (.s g0):=by simp[hgj]
   refine kgo ?_;(repeat(first|intro(X:Nat)|intro(z:St)|intro(av:V)|intro(tk:Option Nat)|(intro(K1:Kn _ _ _);(try clear K);rename Kn _ _ _=>K)));conv=>whnf
   refine ⟨_,_,hcd, ?_⟩
   conv =>whnf
   refine kgo ?_;(repeat(first|intro(X:Nat)|intro(z:St)|intro(av:V)|intro(tk:Option Nat)|(intro(K1:Kn _ _ _);(try clear K);rename Kn _ _ _=>K)));conv=>whnf
   have hX:=K.get (w:=true) (.there (.there (.there .here)))
   refine HD.opA0 (krun_load1 rfl hX rfl) (by decide) (fun t ht=>by
    simp at ht
    subst ht
    exact krun_load1 rfl hX rfl) ?_
   conv =>whnf
   refine kgo ?_;(repeat(first|intro(X:Nat)|intro(z:St)|intro(av:V)|intro(tk:Option Nat)|(intro(K1:Kn _ _ _);(try clear K);rename Kn _ _ _=>K)));conv=>whnf
   have hpl:(psM p).length=p.1.length:=by unfold psM;rw[List.length_zipWith];omega
   have hlA:(((psM p).take j).flatMap prC).length=j* 4:=by rw[flat_prC,List.length_take];omega
   have hset:setAt (((psM p).take j).flatMap prC++(cP x++(p.1.drop (j+1)).flatMap cP)) (0+((j:Nat):Int).toNat* 4+0) (pgV (progA g0).1 (progA g0).2).cells=((psM p).take j).flatMap prC++(prC (mkP x g0)++(p.1.drop (j+1)).flatMap cP):=setAt_two _ _ _ _ _ _ _ _ (by rw[hlA];simp)
   refine kdst (fun z3 K1=> ?_) (ho:=by simp[hlA,cP]) (hc:=hset)
   clear K;rename Kn _ _ _=>K
   conv =>whnf
   refine kgo ?_;(repeat(first|intro(X:Nat)|intro(z:St)|intro(av:V)|intro(tk:Option Nat)|(intro(K1:Kn _ _ _);(try clear K);rename Kn _ _ _=>K)));conv=>whnf
   intro hg'
   exact ⟨p.1.length-(j+1),fg [0,2,4,5,102,103] _,_,by omega,WkM.fg hg',j+1,hlt,rfl,rfl,K.cast (by rw[take_snoc_flat' hqj,List.append_assoc])⟩
  ·rw[List.drop_of_length_le hge,List.flatMap_nil,List.append_nil,List.take_of_length_le (by unfold psM;rw[List.length_zipWith];omega)] at K
   refine HM.exit ?_
   conv =>whnf
   refine kgx ?_;(repeat(first|intro(X:Nat)|intro(z:St)|intro(av:V)|intro(tk:Option Nat)|(intro(K1:Kn _ _ _);(try clear K);rename Kn _ _ _=>K)));conv=>whnf
   have hpl:p.1.length=(psM p).length:=by unfold psM;rw[List.length_zipWith];omega
   have K2:=kperm K (L':=[.ac 6 fv (p.2.2.map evV) tk, .ob true M (.c [.sl 4 lp 0 p.1.length none,fv] 0 (some 25)), .ob true X (.c [.ns, .ns] 0 (some 25)), .ob true lp (.c ((psM p).flatMap prC) 0 (some 50)), .ob true lg (.c (p.2.1.map V.s) 0 (some 9))])
    (.cons _ (List.perm_append_comm (l₁:=[_,_]) (l₂:=[_,_])))
   exact hQ _ _ rfl ⟨fv,tk,_,_,_, .refl _,rfl,K2,fun z3 a b K3=>by rw[hpl];exact rd_prs (K3.getd (.there (.there .here)))⟩
end Go.Proofs.YtlhopiehnaabgaaGreatDoor
set_option linter.all false
namespace Go.Proofs.YtlhopiehnaabgaaGreatDoor
open Go Rf
set_option maxRecDepth 100000
set_option maxHeartbeats 4000000
theorem rdE {S:List UInt8}{X M:Nat}{p:RM}{pv:V}{s z2:St}(ht:Tidy s)(hx:NoX s)(hSh:ShM (psM p) p.2.2)(hI:I64M (psM p) p.2.2)(hE:EndC s z2 X M pv (psM p) p.2.2):
  HM gt1 Tryz.prog s c24e (ERz S X M) z2 (finR s f9m.res (if mayM (psM p) p.2.2∧mtxt (psM p) p.2.2=S then .tu [mV (psM p) p.2.2, .i .i64 0] else .tu [mV [] [], .i .i64 4])):=by
 obtain ⟨cl,hcl,K,hrd⟩:=hE
 have hra:Rd z2 (.ag [pv,fsV p.2.2]) (mV (psM p) p.2.2):= .ag _ _ rfl fun j hj=>by
  match j,hj with
  | 0,_=>exact(hrd _ _ _ K).le (fun l o h=>(z2.drop_sub s.n).2 l o h)
  | 1,_=>exact .refl _
 have hm:=Den.still (args:=[.ag [pv,fsV p.2.2]]) (up0 (gt:=gt1) (mmayM_den (psM p) p.2.2 hSh z2.bare (fun l o h=>by rw[St.bare_get] at h;cases h))) rfl (rd_one hra) (plain_b _)
 have hc:=Den.still (args:=[.ag [pv,fsV p.2.2]]) (mtext_den (psM p) p.2.2 hSh hI z2.bare (fun l o h=>by rw[St.bare_get] at h;cases h)) rfl (rd_one hra) (plain_s _)
 conv =>whnf
 refine kgo ?_;(repeat(first|intro(X:Nat)|intro(z:St)|intro(av:V)|intro(tk:Option Nat)|(intro(K1:Kn _ _ _);(try clear K);rename Kn _ _ _=>K)));conv=>whnf
 refine ⟨_,_,hm, ?_⟩
 conv =>whnf
 refine kgo ?_;(repeat(first|intro(X:Nat)|intro(z:St)|intro(av:V)|intro(tk:Option Nat)|(intro(K1:Kn _ _ _);(try clear K);rename Kn _ _ _=>K)));conv=>whnf
 cases hmay:mayM (psM p) p.2.2<;>conv=>whnf
 ·rw[if_neg (by simp)]
  refine kgo ?_;(repeat(first|intro(X:Nat)|intro(z:St)|intro(av:V)|intro(tk:Option Nat)|(intro(K1:Kn _ _ _);(try clear K);rename Kn _ _ _=>K)));conv=>whnf
  exact K.retR [.ag [.ns, .ns], .i .i64 4] ht hx (.tu _ (nm2 (mV_nm _ _) (.i _ _))) (.refl _) (.tus _ _ (.cons (.ag _ _ (.cons (.ns 4) (.cons (.ns 6) .nil))) (.cons (.one (.refl _)) .nil))) (by simpa[En.own] using hcl)
 ·rw[K.get (w:=true) .here]
  conv =>whnf
  refine kgo ?_;(repeat(first|intro(X:Nat)|intro(z:St)|intro(av:V)|intro(tk:Option Nat)|(intro(K1:Kn _ _ _);(try clear K);rename Kn _ _ _=>K)));conv=>whnf
  refine ⟨_,_,hc, ?_⟩
  conv =>whnf
  refine kgo ?_;(repeat(first|intro(X:Nat)|intro(z:St)|intro(av:V)|intro(tk:Option Nat)|(intro(K1:Kn _ _ _);(try clear K);rename Kn _ _ _=>K)));conv=>whnf
  by_cases hS2:mtxt (psM p) p.2.2=S
  ·rw[show(mtxt (psM p) p.2.2==S)=true from beq_iff_eq.2 hS2,if_pos ⟨rfl,hS2⟩]
   conv =>whnf
   refine kgo ?_;(repeat(first|intro(X:Nat)|intro(z:St)|intro(av:V)|intro(tk:Option Nat)|(intro(K1:Kn _ _ _);(try clear K);rename Kn _ _ _=>K)));conv=>whnf
   exact K.retR [.ag [pv,fsV p.2.2], .i .i64 0] ht hx (.tu _ (nm2 (mV_nm _ _) (.i _ _))) (rd_tu2 (show Rd _ (.ag [pv,fsV p.2.2]) (mV (psM p) p.2.2) from .ag _ _ rfl fun j hj=>by
    match j,hj with
    | 0,_=>exact hrd _ _ _ K
    | 1,_=>exact .refl _)) (.one (.refl _)) (by simpa[En.own] using hcl)
  ·rw[show(mtxt (psM p) p.2.2==S)=false from beq_eq_false_iff_ne.2 hS2,if_neg (fun h=>hS2 h.2)]
   conv =>whnf
   refine kgo ?_;(repeat(first|intro(X:Nat)|intro(z:St)|intro(av:V)|intro(tk:Option Nat)|(intro(K1:Kn _ _ _);(try clear K);rename Kn _ _ _=>K)));conv=>whnf
   exact K.retR [.ag [.ns, .ns], .i .i64 4] ht hx (.tu _ (nm2 (mV_nm _ _) (.i _ _))) (.refl _) (.tus _ _ (.cons (.ag _ _ (.cons (.ns 4) (.cons (.ns 6) .nil))) (.cons (.one (.refl _)) .nil))) (by simpa[En.own] using hcl)
end Go.Proofs.YtlhopiehnaabgaaGreatDoor
