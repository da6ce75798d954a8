import Derived.Test.YtlhopiehnaabgaaGreatDoorMrq
import Derived.Test.YtlhopiehnaabgaaGreatDoorTpl
set_option linter.all false
namespace Go.Proofs.YtlhopiehnaabgaaGreatDoor
open Go Rf
set_option maxRecDepth 100000
set_option maxHeartbeats 400000
theorem trim_nl (l:List UInt8):Lib.trimSuffix (l++[10]) [10]=l:=by
 unfold Lib.trimSuffix
 rw [if_pos (by simp[Lib.hasSuffix])]
 simp
theorem cutA_lines (rest:List UInt8):∀(ls:List (List UInt8)),(∀l∈ls,10∉l)→cutA 10 (ls.flatMap (·++[10])++rest)=ls.map (·++[10])++cutA 10 rest
 | [],_=>rfl
 | l::ls,h=>by
  rw [List.flatMap_cons,List.append_assoc,List.append_assoc,List.singleton_append,cutA_app _ (h l (List.mem_cons_self ..)),cutA_lines rest ls fun x hx=>h x (List.mem_cons_of_mem _ hx)]
  rfl
theorem word_sp {a r:List UInt8}(h:32∉a):wordM (a++32::r)=a:=by
 unfold wordM
 rw [idx_app r h]
 show (a++32::r).take a.length=a
 rw [List.take_left' rfl]
theorem word_no {a:List UInt8}(h:32∉a):wordM a=a:=by
 unfold wordM
 rw [idx_none h]
 rfl
theorem cut_vs (a:List UInt8)(h:32∉a):∀l:List Int,cutL 32 (a++vsT l)=a::l.map Lib.itoa
 | []=>by simp[vsT,cutL_none h]
 | n::l=>by
  have :a++vsT (n::l)=a++32::(Lib.itoa n++vsT l):=by simp[vsT]
  rw [this,cutL_app _ h,cut_vs _ (itoa_no (by decide)) l,List.map_cons]
theorem nums_vs (a:List UInt8)(h:32∉a)(l:List Int)(hl:∀n∈l,i64 n):numsL (a++vsT l)=l:=by
 unfold numsL
 rw [cut_vs a h l,List.tail_cons,List.map_map]
 conv =>rhs;rw[←List.map_id l]
 exact List.map_congr_left fun n hn=>parseV_itoa (hl n hn)
theorem word_vs (a:List UInt8)(h:32∉a)(n:Int)(l:List Int):wordM (a++vsT (n::l))=a:=by
 have :a++vsT (n::l)=a++32::(Lib.itoa n++vsT l):=by simp[vsT]
 rw [this,word_sp h]
theorem stM_prog {p:RM}{l:List UInt8}(hw:wordM l≠wProc)(hf:wordM l≠wFirst)(hg:0<p.2.1.length):stM p (l++[10])=(p.1,app1 p.2.1 (l++[10]),p.2.2):=by
 unfold stM
 rw [trim_nl,stN,if_neg (fun h=>hw h.1),if_pos ⟨hf,hg⟩]
theorem app1_last (gs:List (List UInt8))(g l:List UInt8):app1 (gs++[g]) l=gs++[g++l]:=by simp[app1]
theorem fo_prog (A:List (List Int×Int))(gs:List (List UInt8))(fs:List Ev):∀(ls:List (List UInt8))(g:List UInt8),(∀l∈ls,wordM l≠wProc∧wordM l≠wFirst)→foM (ls.map (·++[10])) (A,gs++[g],fs)=(A,gs++[g++ls.flatMap (·++[10])],fs)
 | [],g,_=>by simp[foM]
 | l::ls,g,h=>by
  obtain ⟨h1,h2⟩:=h l (List.mem_cons_self ..)
  have :=fo_prog A gs fs ls (g++(l++[10])) fun x hx=>h x (List.mem_cons_of_mem _ hx)
  rw [List.map_cons,foM,List.foldl_cons,stM_prog h1 h2 (by simp)]
  simp only[app1_last]
  rw [foM] at this
  rw [this]
  simp
theorem lnI_word (x:Int×Int):wordM (lnI x)=[]:=by
 have :lnI x=[]++32::(32::(wd x.1++if nb x.1 then 32::Lib.itoa x.2 else [])):=rfl
 rw [this,word_sp (by simp)]
theorem pg_words {v:Int}{ks:List Kd}:∀l∈lnV v::ks.flatMap lnK,wordM l≠wProc∧wordM l≠wFirst:=fun l hl=>by
 rcases List.mem_cons.1 hl with rfl|hl
 ·have:lnV v=[118,97,114,115]++32::Lib.itoa v:=rfl
  rw [this,word_sp (by decide)]
  exact ⟨by decide,by decide⟩
 ·obtain⟨k,hk,hl⟩:=List.mem_flatMap.1 hl
  rcases List.mem_cons.1 hl with rfl|hl
  ·rw[word_no (by decide)];exact⟨by decide,by decide⟩
  ·obtain⟨x,hx,rfl⟩:=List.mem_map.1 hl
   rw [lnI_word];exact⟨by decide,by decide⟩
def lnP (p:Pr):List (List UInt8):=(wProc++vsT (p.2.2::p.2.1))::lnV p.1.1::p.1.2.flatMap lnK
def lnE (e:Ev):List UInt8:=wFirst++vsT (evL e)
theorem prT_ln {p:Pr}(h:prOk p=true):prT p=(lnP p).flatMap (·++[10]):=by
 obtain ⟨h1,-,-⟩:=prOk_of h
 unfold prT lnP txt
 rw [if_pos h1,pgT_ln,List.flatMap_cons,List.append_nil]
 rfl
theorem fo_app (a b:List (List UInt8))(p:RM):foM (a++b) p=foM b (foM a p):=List.foldl_append ..
theorem fo_pr {p:Pr}(hi:(∀n∈p.2.1,i64 n)∧i64 p.2.2)(A:List (List Int×Int))(gs:List (List UInt8))(fs:List Ev):foM ((lnP p).map (·++[10])) (A,gs,fs)=(A++[(p.2.1,p.2.2)],gs++[pgT p.1.1 p.1.2],fs):=by
 have h1:stM (A,gs,fs) ((wProc++vsT (p.2.2::p.2.1))++[10])=(A++[(p.2.1,p.2.2)],gs++[[]],fs):=by
  unfold stM
  rw [trim_nl,word_vs _ (by decide),nums_vs _ (by decide) _ (fun n hn=>by
   rcases List.mem_cons.1 hn with rfl|hn
   ·exact hi.2
   ·exact hi.1 n hn),stN,if_pos ⟨rfl,by simp⟩]
  rfl
 have h2:=fo_prog (A++[(p.2.1,p.2.2)]) gs fs (lnV p.1.1::p.1.2.flatMap lnK) [] pg_words
 rw [pgT_ln,List.append_nil]
 rw [List.nil_append] at h2
 rw [←h2]
 unfold lnP
 rw [List.map_cons,foM,List.foldl_cons,h1]
 rfl
theorem fo_prs:∀(ps:List Pr),(∀p∈ps,(∀n∈p.2.1,i64 n)∧i64 p.2.2)→∀(A:List (List Int×Int))(gs:List (List UInt8))(fs:List Ev),foM ((ps.flatMap lnP).map (·++[10])) (A,gs,fs)=(A++ps.map (·.2),gs++ps.map fun p=>pgT p.1.1 p.1.2,fs)
 | [],_,A,gs,fs=>by simp[foM]
 | p::ps,h,A,gs,fs=>by
  rw [List.flatMap_cons,List.map_append,fo_app,fo_pr (h p (List.mem_cons_self ..)),fo_prs ps fun q hq=>h q (List.mem_cons_of_mem _ hq)]
  simp
theorem fo_ev {e:Ev}{q n:Nat}(hi:i64 e.1∧i64 e.2.2.2.1∧i64 e.2.2.2.2.1∧i64 e.2.2.2.2.2)(ho:evOk n q e=true)(A:List (List Int×Int))(gs:List (List UInt8))(fs:List Ev)(hq:fs.length=q):stM (A,gs,fs) (lnE e++[10])=(A,gs,fs++[e]):=by
 obtain ⟨t,o,s,to,k,d⟩:=e
 simp only[evOk,Bool.and_eq_true,eqZ_eq,beq_iff_eq] at ho
 obtain ⟨-,ho1,ho2⟩:=ho
 simp only at ho1 ho2 hi
 unfold stM
 rw [trim_nl,lnE,evL,word_vs _ (by decide),nums_vs _ (by decide) _ (fun n hn=>by
  simp only[List.mem_cons,List.not_mem_nil,or_false] at hn
  rcases hn with rfl|rfl|rfl|rfl
  ·exact hi.1
  ·exact hi.2.1
  ·exact hi.2.2.1
  ·exact hi.2.2.2),stN,if_neg (fun h=>absurd h.1 (by decide)),if_neg (fun h=>absurd rfl h.1),if_pos ⟨rfl,rfl⟩]
 simp [ho1,ho2,hq]
theorem fo_evs (n:Nat)(A:List (List Int×Int))(gs:List (List UInt8)):∀(fs acc:List Ev),(∀e∈fs,i64 e.1∧i64 e.2.2.2.1∧i64 e.2.2.2.2.1∧i64 e.2.2.2.2.2)→(∀q e,fs[q]? =some e→evOk n (acc.length+q) e=true)→foM (fs.map fun e=>lnE e++[10]) (A,gs,acc)=(A,gs,acc++fs)
 | [],acc,_,_=>by simp[foM]
 | e::fs,acc,hi,ho=>by
  have h1:=fo_ev (hi e (List.mem_cons_self ..)) (ho 0 e rfl) A gs acc rfl
  have h2:=fo_evs n A gs fs (acc++[e]) (fun x hx=>hi x (List.mem_cons_of_mem _ hx)) fun q x hx=>by
   have :=ho (q+1) x hx
   rw [List.length_append,List.length_singleton,Nat.add_assoc,Nat.add_comm 1 q];exact this
  rw [List.map_cons,foM,List.foldl_cons,h1]
  rw [foM] at h2
  rw [h2];simp
theorem vs_no (l:List Int):10∉vsT l:=fun h=>by
 obtain ⟨n,-,h⟩:=List.mem_flatMap.1 h
 rcases List.mem_cons.1 h with h|h
 ·cases h
 ·exact itoa_no (by decide) h
theorem mT_ln {ps:List Pr}{fs:List Ev}(hp:∀p∈ps,prOk p=true):mT ps fs=(ps.flatMap lnP++fs.map lnE).flatMap (·++[10])++[]:=by
 unfold mT
 rw [List.append_nil,List.flatMap_append,List.flatMap_assoc,List.flatMap_map]
 congr 1
 induction ps with
 | nil=>rfl
 | cons p ps ih=>
  rw [List.flatMap_cons,List.flatMap_cons,prT_ln (hp p (List.mem_cons_self ..)),ih fun q hq=>hp q (List.mem_cons_of_mem _ hq)]
theorem foM_txt {ps:List Pr}{fs:List Ev}(hm:MayM ps fs)(hi:I64M ps fs):∃r,foM (cutA 10 (mT ps fs)) ([],[],[])=r∧psM r=ps∧r.2.2=fs:=by
 have hpo:∀p∈ps,prOk p=true:=fun p hp=>by
  obtain ⟨q,hq⟩:=List.mem_iff_getElem?.1 hp
  exact hm.p q p hq
 have hno:∀l∈ps.flatMap lnP++fs.map lnE,10∉l:=fun l hl=>by
  rcases List.mem_append.1 hl with hl|hl
  ·obtain⟨p,hp,hl⟩:=List.mem_flatMap.1 hl
   rcases List.mem_cons.1 hl with rfl|hl
   ·simp only[List.mem_append,not_or];exact⟨by decide,vs_no _⟩
   ·exact pg_no (ksOk_of (prOk_of (hpo p hp)).1 (hi.p p hp).2.1) l hl
  ·obtain⟨e,he,rfl⟩:=List.mem_map.1 hl
   unfold lnE
   simp only[List.mem_append,not_or];exact⟨by decide,vs_no _⟩
 have h1:=fo_prs ps (fun p hp=>(hi.p p hp).2.2) [] [] []
 have h2:=fo_evs ps.length (ps.map (·.2)) (ps.map fun p=>pgT p.1.1 p.1.2) fs [] hi.e fun q e hq=>by simpa using hm.e q e hq
 have h3:foM (cutA 10 (mT ps fs)) ([],[],[])=(ps.map (·.2),ps.map (fun p=>pgT p.1.1 p.1.2),fs):=by
  rw [mT_ln hpo,cutA_lines _ _ hno,fo_app,List.map_append,fo_app,h1,List.map_map]
  simp only[List.nil_append]
  have :((fun x:List UInt8=>x++[10])∘lnE)=fun e=>lnE e++[10]:=rfl
  rw [this,h2]
  have hl:0<(ps.map fun p=>pgT p.1.1 p.1.2).length:=by rw[List.length_map];exact hm.a
  show stM _ []=_
  have ht:Lib.trimSuffix [] [10]=[]:=by rfl
  unfold stM
  rw [ht,stN,if_neg (fun h=>absurd h.1 (by decide)),if_pos ⟨by decide,hl⟩]
  simp only[List.nil_append,Prod.mk.injEq,true_and,and_true]
  obtain ⟨a,b,hab⟩:∃a b,(ps.map fun p=>pgT p.1.1 p.1.2)=a++[b]:=⟨_,_,(List.dropLast_concat_getLast (List.length_pos_iff.1 hl)).symm⟩
  rw [hab,app1_last,List.append_nil]
 refine ⟨_,h3, ?_,rfl⟩
 unfold psM
 rw [List.zipWith_map_left,List.zipWith_map_right,List.zipWith_self]
 have :∀p∈ps,mkP p.2 (pgT p.1.1 p.1.2)=p:=fun p hp=>by
  have hk:=prOk_of (hpo p hp)
  have hf:=foA_pgT (hi.p p hp).1 (ksOk_of hk.1 (hi.p p hp).2.1)
  unfold mkP progA
  simp only[hf]
  rw [if_pos ⟨hk.1,trivial⟩]
 conv =>rhs;rw[←List.map_id ps]
 exact List.map_congr_left this
end Go.Proofs.YtlhopiehnaabgaaGreatDoor
