import Derived.Test.YtlhopiehnaabgaaGreatDoorMrxa
import Derived.Test.YtlhopiehnaabgaaGreatDoorMrxb
import Derived.Test.YtlhopiehnaabgaaGreatDoorMrxe
set_option linter.all false
namespace Go.Proofs.YtlhopiehnaabgaaGreatDoor
open Go Rf
set_option maxRecDepth 100000
set_option maxHeartbeats 4000000
theorem rdAB {S:List UInt8}{X M i:Nat}{gv fv:V}{l w:List UInt8}{n:List Int}{ls:List (List UInt8)}{ps:List (List Int×Int)}{gs:List (List UInt8)}{fs:List Ev}{tk:Option Nat}{s z1:St}{Q:XM→List V→St→Prop}
  (hO:OkM i 700000 (ps,gs,fs)) (hi:i≤700001) (hl9:l.length≤700001)
  (hR:(ps=[]∧gs=[]∧gv= .ns∧Kn s z1 (LM0 X M fs fv tk))∨∃lp lg,0<gs.length∧gv= .sl 1 lg 0 gs.length none∧Kn s z1 (LM1 X M lp lg ps gs fs fv tk))
  (hQ:∀e z gv',fg [0,2,4,5,14,15,16] e=ERd S X M gv' ls i→RepM s z X M (stN (ps,gs,fs) l w n) gv'→Q .nrm e z):HM gt1 Tryz.prog s c24b (ERe S X M gv l w n ls i) z1 Q:=by
 by_cases hA:w=wProc∧0<n.length
 ·obtain⟨hw,hn0⟩:=hA
  obtain ⟨a,rr,rfl⟩:∃a rr,n=a::rr:=by
   cases n with
   | nil=>simp at hn0
   | cons a rr=>exact⟨a,rr,rfl⟩
  have hq:stN (ps,gs,fs) l w (a::rr)=(ps++[(rr,a)],gs++[[]],fs):=by
   unfold stN;rw[if_pos ⟨hw,hn0⟩];rfl
  rw [hq] at hQ
  have h1:ps.length=gs.length:=hO.l
  have h2:ps.length+fs.length≤i:=hO.a
  exact rdA hw h1 (by omega) hR hQ
 ·exact rdB hA hO hi hl9 hR hQ
theorem read_den (S:List UInt8)(hS:S.length≤700000)(s:St)(hx:NoX s)(r:RM)(hr:foM (cutA 10 S) ([],[],[])=r):
  Den gt1 Tryz.prog 9 [.s S] s (if mayM (psM r) r.2.2∧mtxt (psM r) r.2.2=S then .tu [mV (psM r) r.2.2, .i .i64 0] else .tu [mV [] [], .i .i64 4]) s:=by
 have hL:(cutA 10 S).length≤700001:=by have:=cutA_len 10 S;omega
 refine Den.tidy fun ht=>Den.hmr gnm1 hG9 ?_
 have K:=Kn.init ht.1 hx
 conv =>whnf
 refine kgo ?_;(repeat(first|intro(X:Nat)|intro(z:St)|intro(av:V)|intro(tk:Option Nat)|(intro(K1:Kn _ _ _);(try clear K);rename Kn _ _ _=>K)));conv=>whnf
 have hsp:=splita_d (c:=10) (l:=S) (by omega) z K.x
 rw [pieces_cutA] at hsp
 refine ⟨_,_,hsp, ?_⟩
 have hel:=cutA_el 10 S
 have hfl0:(cutA 10 S).flatten.length≤700000:=by rw[cutA_flat];omega
 generalize cutA 10 S=ls at hL hel hr hfl0
 have hll:(ls.map V.s).length=ls.length:=List.length_map ..
 conv =>whnf
 refine kgo ?_;(repeat(first|intro(X:Nat)|intro(z:St)|intro(av:V)|intro(tk:Option Nat)|(intro(K1:Kn _ _ _);(try clear K);rename Kn _ _ _=>K)));conv=>whnf
 rw [hll]
 rename_i X0 z0
 revert X;intro M K
 refine HM.loop gnm1 fun hg=>⟨fun m e z'=>∃(i:Nat)(p:RM)(gv:V),i≤ls.length∧m=ls.length-i∧e=ERd S X0 M gv ls i∧foM (ls.drop i) p=r∧OkM i 700000 p∧p.2.1.flatten.length+(ls.drop i).flatten.length≤700000∧RepM s z' X0 M p gv,
  ⟨ls.length,fg [0,2,4,5,14,15,16] _,_,WkM.fg hg,0,([],[],[]), .ns,Nat.zero_le _,rfl,rfl,hr,⟨rfl,Nat.le_refl _,fun x hx=>by simp at hx,fun x hx=>by simp at hx,by simp⟩,by simpa using hfl0, .ns,none, .inl ⟨rfl,rfl,rfl,K.acc0 6⟩⟩, ?_⟩
 clear K
 rintro m e z1 ⟨i,p,gv,hi1,rfl,rfl,hfo,hO,hfl,fv,tk,hR⟩
 conv =>whnf
 have hv:∃L,Kn s z1 L:=by rcases hR with⟨_,_,_,K⟩|⟨_,_,_,_,K⟩<;>exact⟨_,K⟩
 obtain ⟨L0,K⟩:=hv
 refine kgo ?_;(repeat(first|intro(X:Nat)|intro(z:St)|intro(av:V)|intro(tk:Option Nat)|(intro(K1:Kn _ _ _);(try clear K);rename Kn _ _ _=>K)));conv=>whnf
 refine brL ⟨fun hlt=> ?_,fun hge=> ?_⟩<;>conv=>whnf
 ·have hli:ls[i]? =some ls[i]:=List.getElem?_eq_getElem hlt
  rw [List.drop_eq_getElem_cons hlt] at hfo hfl
  have hl9:ls[i].length≤700001:=Nat.le_trans (hel _ (List.getElem_mem ..)) (by omega)
  generalize ls[i]=l at hli hfo hl9 hfl
  rw [foM,List.foldl_cons,←foM] at hfo
  rw [List.flatten_cons,List.length_append] at hfl
  have hO1:=okM_st (l:=l) hO (by omega)
  have hfl1:(stM p l).2.1.flatten.length+(ls.drop (i+1)).flatten.length≤700000:=by have:=stM_fl p l;omega
  have htl:=Lib.trimSuffix_le l [10]
  refine kgo ?_;(repeat(first|intro(X:Nat)|intro(z:St)|intro(av:V)|intro(tk:Option Nat)|(intro(K1:Kn _ _ _);(try clear K);rename Kn _ _ _=>K)));conv=>whnf
  refine ⟨_,_,trims_d (by omega) _, ?_⟩
  conv =>whnf
  refine kgo ?_;(repeat(first|intro(X:Nat)|intro(z:St)|intro(av:V)|intro(tk:Option Nat)|(intro(K1:Kn _ _ _);(try clear K);rename Kn _ _ _=>K)));conv=>whnf
  obtain ⟨cb,cc,hce⟩:=cutV_eq (Lib.trimSuffix l [10])
  refine ⟨_,_,hce▸cut_d (by omega) _ K.x, ?_⟩
  conv =>whnf
  refine kgo ?_;(repeat(first|intro(X:Nat)|intro(z:St)|intro(av:V)|intro(tk:Option Nat)|(intro(K1:Kn _ _ _);(try clear K);rename Kn _ _ _=>K)));conv=>whnf
  refine ⟨_,_,trims_d (by omega) _, ?_⟩
  conv =>whnf
  refine kgo ?_;(repeat(first|intro(X:Nat)|intro(z:St)|intro(av:V)|intro(tk:Option Nat)|(intro(K1:Kn _ _ _);(try clear K);rename Kn _ _ _=>K)));conv=>whnf
  refine ⟨_,_,nums_d (by omega) _ K.x, ?_⟩
  conv =>whnf
  refine HO.k ?_
  conv =>whnf
  refine HO.nil ?_
  conv =>whnf
  unfold stM at hfo hO1 hfl1
  generalize Lib.trimSuffix l [10]=t at*
  generalize wordM t=w at*
  generalize numsL t=n at*
  refine HM.fgt gnm1 [0,2,4,5,7,8,11,14,15,16] fun _=> ?_
  rw [show fg [0,2,4,5,7,8,11,14,15,16] _=ERe S X0 M gv l w n ls i from rfl]
  clear K
  obtain ⟨ps,gs,fs⟩:=p
  refine rdAB hO (by omega) hl9 hR fun e z gv' he hrep=> ?_
  conv =>whnf
  refine HM.fgt gnm1 [0,2,4,5,14,15,16] fun _=> ?_
  rw [he]
  obtain ⟨fv',tk',hR'⟩:=hrep
  have hv:∃L,Kn s z L:=by rcases hR' with⟨_,_,_,K⟩|⟨_,_,_,_,K⟩<;>exact⟨_,K⟩
  obtain ⟨L1,K⟩:=hv
  conv =>whnf
  refine kgo ?_;(repeat(first|intro(X:Nat)|intro(z:St)|intro(av:V)|intro(tk:Option Nat)|(intro(K1:Kn _ _ _);(try clear K);rename Kn _ _ _=>K)));conv=>whnf
  intro hg'
  exact ⟨ls.length-(i+1),fg [0,2,4,5,14,15,16] _,_,by omega,WkM.fg hg',i+1,stN (ps,gs,fs) l w n,gv',hlt,rfl,rfl,hfo,hO1,hfl1,fv',tk',hR'⟩
 ·rw[List.drop_of_length_le hge] at hfo
  replace hfo:p=r:=hfo
  subst hfo
  obtain ⟨hSh,hI⟩:=psM_ok hO (by omega) (by decide)
  refine HM.exit ?_
  conv =>whnf
  refine HM.seq ?_
  refine HM.fgt gnm1 [0,2,4,5,14,15,16] fun _=> ?_
  rw [show fg [0,2,4,5,14,15,16] _=ERd S X0 M gv ls i from rfl]
  refine rdP hO (by omega) hR fun e z he hE=> ?_
  obtain ⟨fv,tk,pv,pw,cl,hvw,hcl,K,hrd⟩:=hE
  conv =>whnf
  refine kobw K (.there .here) (us:=[pw,fsV p.2.2]) (.cons hvw (.cons (K.vw .here) .nil)) fun z2 K1=> ?_
  refine HM.fgt gnm1 [0,2,4] fun _=> ?_
  rw [he]
  exact rdE ht hx hSh hI ⟨cl,hcl,K1.drop0 rfl,hrd⟩
end Go.Proofs.YtlhopiehnaabgaaGreatDoor
