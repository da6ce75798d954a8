import Derived.Test.YtlhopiehnaabgaaGreatDoorCodeT3
import Derived.Test.YtlhopiehnaabgaaGreatDoorCof
set_option linter.all false
namespace Go.Proofs.YtlhopiehnaabgaaGreatDoor
open Go Rf
set_option maxRecDepth 100000
set_option maxHeartbeats 4000000
def cutA (c:UInt8):List UInt8→List (List UInt8)
 | []=>[[]]
 | b::r=>if b=c then [b]::cutA c r else match cutA c r with
  | []=>[[b]]
  | a::t=>(b::a)::t
theorem cutA_ne (c:UInt8):∀l,cutA c l≠ []
 | []=>by simp[cutA]
 | b::r=>by
  unfold cutA
  split
  ·simp
  ·split<;>simp
theorem cutA_app {c:UInt8}:∀ {a:List UInt8}(r:List UInt8),c∉a→cutA c (a++c::r)=(a++[c])::cutA c r
 | [],r,_=>by simp[cutA]
 | b::a,r,h=>by
  have hb:b≠c:=fun e=>h (e▸List.mem_cons_self ..)
  have ih:=cutA_app (a:=a) r fun e=>h (List.mem_cons_of_mem _ e)
  rw [List.cons_append,cutA,if_neg hb,ih];rfl
theorem cutA_none {c:UInt8}:∀ {a:List UInt8},c∉a→cutA c a=[a]
 | [],_=>rfl
 | b::a,h=>by
  have hb:b≠c:=fun e=>h (e▸List.mem_cons_self ..)
  rw [cutA,if_neg hb,cutA_none (a:=a) fun e=>h (List.mem_cons_of_mem _ e)]
theorem piecesA_eq (c:UInt8):∀(n:Nat)(l:List UInt8),l.length≤n→pieces l c 1=cutA c l:=by
 intro n
 induction n with
 | zero=>
  intro l hl
  obtain rfl:=List.length_eq_zero_iff.1 (Nat.le_zero.1 hl)
  rfl
 | succ n ih=>
  intro l hl
  rcases cases_c c l with h|⟨a,r,rfl,h⟩
  ·rw[cutA_none h]
   unfold pieces
   have :Lib.countByte l c=0:=List.count_eq_zero.2 h
   rw [this,Lib.splitB_zero]
   rfl
  ·rw[cutA_app r h,←ih r (by simp at hl;omega)]
   unfold pieces
   have e1:Lib.countByte (a++c::r) c=Lib.countByte r c+1:=by
    simp [Lib.countByte,List.count_append,List.count_eq_zero.2 h]
   have e2:Lib.indexB ⟨(a++c::r).toArray⟩ ⟨#[c]⟩=(a.length:Nat):=by
    unfold Lib.indexB
    rw [show(⟨#[c]⟩:ByteArray).data.toList=[c] from rfl,Lib.index_one]
    exact idx_app r h
   rw [e1,Lib.splitB_hit _ _ _ _ _ e2,List.map_cons]
   congr 1
   ·simp[ByteArray.data_extract,List.extract_eq_take_drop,List.take_append]
    exact List.take_of_length_le (by omega)
   ·congr 3
    apply ByteArray.ext
    apply Array.toList_inj.1
    rw [ByteArray.data_extract]
    simp only[ByteArray.size,Array.toList_extract]
    rw [show(⟨#[c]⟩:ByteArray).data.size=1 from rfl]
    simp [List.extract_eq_take_drop,List.drop_append]
    rw [List.drop_of_length_le (by omega),List.nil_append,List.take_of_length_le (by omega)]
theorem pieces_cutA (c:UInt8)(l:List UInt8):pieces l c 1=cutA c l:=piecesA_eq c l.length l (Nat.le_refl _)
theorem cutA_len (c:UInt8):∀l:List UInt8,(cutA c l).length≤l.length+1
 | []=>by simp[cutA]
 | b::r=>by
  have ih:=cutA_len c r
  unfold cutA
  split
  ·simp;omega
  ·split
   ·simp
   ·rename_i a t e;rw[e] at ih;simp at ih ⊢;omega
theorem cutA_flat (c:UInt8):∀l:List UInt8,(cutA c l).flatten=l
 | []=>rfl
 | b::r=>by
  have ih:=cutA_flat c r
  unfold cutA
  split
  ·simp[ih]
  ·split
   ·rename_i e;exact(cutA_ne c r e).elim
   ·rename_i a t e;rw[e] at ih;simp at ih ⊢;exact ih
theorem flatten_el {α:Type}:∀ {ls:List (List α)}{l:List α},l∈ls→l.length≤ls.flatten.length
 | a::ls,l,h=>by
  rcases List.mem_cons.1 h with rfl|h
  ·simp
  ·have:=flatten_el h;simp only[List.flatten_cons,List.length_append];omega
theorem cutA_el (c:UInt8)(l:List UInt8):∀p∈cutA c l,p.length≤l.length:=fun p hp=>by
 have :=flatten_el hp
 rwa [cutA_flat] at this
def wordM (t:List UInt8):List UInt8:=match Lib.indexByte t 32 with
 | .ofNat n=>t.take n
 | .negSucc _=>t
abbrev RM:=List (List Int×Int)×List (List UInt8)×List Ev
def app1 (gs:List (List UInt8))(l:List UInt8):List (List UInt8):=gs.dropLast++[gs.getLastD []++l]
def wProc:List UInt8:=[112,114,111,99]
def wFirst:List UInt8:=[102,105,114,115,116]
def stN (p:RM)(l w:List UInt8)(n:List Int):RM:=
 if w=wProc∧0<n.length then(p.1++[(n.tail,n.headD 0)],p.2.1++[[]],p.2.2)
 else if¬w=wFirst∧0<p.2.1.length then(p.1,app1 p.2.1 l,p.2.2)
 else if w=wFirst∧n.length=4 then(p.1,p.2.1,p.2.2++[((n.getD 0 0,0,((p.2.2.length:Nat):Int),n.getD 1 0,n.getD 2 0,n.getD 3 0):Ev)])
 else p
def stM (p:RM)(l:List UInt8):RM:=stN p l (wordM (Lib.trimSuffix l [10])) (numsL (Lib.trimSuffix l [10]))
def foM (ls:List (List UInt8))(p:RM):RM:=ls.foldl stM p
def progA (g:List UInt8):Int×List Kd:=let r:=foA (cutL 10 g) 0 (0,[]);if mayP r.1 r.2∧pgT r.1 r.2=g then r else(0,[])
def mkP (x:List Int×Int)(g:List UInt8):Pr:=(progA g,x.1,x.2)
def psM (p:RM):List Pr:=List.zipWith mkP p.1 p.2.1
theorem numsL_i64 (l:List UInt8):∀n∈numsL l,i64 n:=fun n hn=>by
 obtain ⟨w,-,rfl⟩:=List.mem_map.1 hn
 exact parseV_i64 w
structure OkM (n N:Nat) (p:RM):Prop where
 l :p.1.length=p.2.1.length
 a :p.1.length+p.2.2.length≤n
 v :∀x∈p.1,x.1.length≤N∧(∀y∈x.1,i64 y)∧i64 x.2
 e :∀x∈p.2.2,i64 x.1∧i64 x.2.2.2.1∧i64 x.2.2.2.2.1∧i64 x.2.2.2.2.2
 g :p.2.1.flatten.length≤N
theorem app1_len (gs:List (List UInt8))(l:List UInt8)(h:0<gs.length):(app1 gs l).length=gs.length:=by simp[app1];omega
theorem app1_flat {gs:List (List UInt8)}(l:List UInt8)(h:0<gs.length):(app1 gs l).flatten=gs.flatten++l:=by
 obtain ⟨a,b,rfl⟩:∃a b,gs=a++[b]:=⟨_,_,(List.dropLast_concat_getLast (List.length_pos_iff.1 h)).symm⟩
 simp [app1]
theorem okM_st {n N:Nat}{p:RM}{l:List UInt8}(h:OkM n N p)(hl:p.2.1.flatten.length+l.length≤N):OkM (n+1) N (stM p l):=by
 have hn:=numsL_i64 (Lib.trimSuffix l [10])
 have hnl:(numsL (Lib.trimSuffix l [10])).length≤l.length:=by
  unfold numsL
  have h1:=cutL_len 32 (Lib.trimSuffix l [10])
  have h2:=Lib.trimSuffix_le l [10]
  rw [List.length_map,List.length_tail];omega
 obtain ⟨h1,h2,h3,h4,h5⟩:=h
 have hgd:∀k,i64 ((numsL (Lib.trimSuffix l [10])).getD k 0):=fun k=>by
  rw [List.getD]
  cases hk:(numsL (Lib.trimSuffix l [10]))[k]? with
  | none=>exact⟨by decide,by decide⟩
  | some y=>exact hn y (List.mem_of_getElem? hk)
 unfold stM
 generalize numsL (Lib.trimSuffix l [10])=n' at*
 unfold stN
 split
 ·rename_i hc
  obtain ⟨m,ns,rfl⟩:∃m ns,n'=m::ns:=by
   cases n' with
   | nil=>exact absurd hc.2 (by simp)
   | cons m ns=>exact⟨m,ns,rfl⟩
  refine ⟨by simp[h1],by simp only[List.length_append,List.length_singleton];omega,fun x hx=> ?_,h4,by simpa using h5⟩
  rcases List.mem_append.1 hx with hx|hx
  ·exact h3 x hx
  ·simp only[List.mem_singleton] at hx
   subst hx
   refine ⟨?_,fun y hy=>hn y (List.mem_cons_of_mem _ hy),hn m (List.mem_cons_self ..)⟩
   simp only[List.length_cons,List.tail_cons] at hnl ⊢;omega
 ·split
  ·rename_i hc
   refine ⟨by rw[app1_len _ _ hc.2];exact h1,by simp only;omega,h3,h4, ?_⟩
   simp only
   rw [app1_flat _ hc.2,List.length_append];exact hl
  ·split
   ·refine⟨h1,by simp only[List.length_append,List.length_singleton];omega,h3,fun x hx=> ?_,h5⟩
    rcases List.mem_append.1 hx with hx|hx
    ·exact h4 x hx
    ·simp only[List.mem_singleton] at hx
     subst hx
     exact ⟨hgd 0,hgd 1,hgd 2,hgd 3⟩
   ·exact⟨h1,by omega,h3,h4,h5⟩
theorem stM_fl (p:RM)(l:List UInt8):(stM p l).2.1.flatten.length≤p.2.1.flatten.length+l.length:=by
 unfold stM stN
 split
 ·simp
 ·split
  ·rename_i hc
   simp only
   rw [app1_flat _ hc.2,List.length_append];exact Nat.le_refl _
  ·split<;>simp
end Go.Proofs.YtlhopiehnaabgaaGreatDoor
set_option linter.all false
namespace Go.Proofs.YtlhopiehnaabgaaGreatDoor
open Go Rf
set_option maxRecDepth 100000
set_option maxHeartbeats 4000000
theorem foA_few:∀(ls:List (List UInt8))(i:Nat)(p:Int×List Kd),Few i p→Few (i+ls.length) (foA ls i p)
 | [],_,_,h=>h
 | l::r,i,p,h=>by
  have :=foA_few r (i+1) _ (few_st (l:=l) h)
  rw [foA,List.length_cons,show i+(r.length+1)=i+1+r.length by omega]
  exact this
theorem progA_ok (g:List UInt8):i64 (progA g).1∧(progA g).2.length≤8∧∀k∈(progA g).2,k.length≤128∧∀x∈k,i64 x.2:=by
 have hf:=foA_few (cutL 10 g) 0 (0,[]) ⟨⟨by decide,by decide⟩,Nat.le_refl _,fun k hk=>by simp at hk⟩
 unfold progA
 simp only
 split
 ·rename_i h
  obtain ⟨h1,h2⟩:=may_bnd h.1
  exact ⟨hf.1,h1,fun k hk=>⟨h2 k hk,(hf.2.2 k hk).2⟩⟩
 ·exact⟨⟨by decide,by decide⟩,by simp,fun k hk=>by simp at hk⟩
theorem zip_mem {α β γ:Type}{f:α→β→γ}:∀ {ua:List α}{ub:List β}{x:γ},x∈List.zipWith f ua ub→∃a∈ua,∃b∈ub,x=f a b
 | a::ua,b::ub,x,h=>by
  rw [List.zipWith_cons_cons] at h
  rcases List.mem_cons.1 h with rfl|h
  ·exact⟨a,List.mem_cons_self ..,b,List.mem_cons_self ..,rfl⟩
  ·obtain⟨a',ha,b',hb,e⟩:=zip_mem h
   exact ⟨a',List.mem_cons_of_mem _ ha,b',List.mem_cons_of_mem _ hb,e⟩
 | [],_,x,h=>by simp at h
 | _::_,[],x,h=>by simp at h
theorem psM_ok {n N:Nat}{p:RM}(h:OkM n N p)(hn:n≤800000)(hN:N≤800000):ShM (psM p) p.2.2∧I64M (psM p) p.2.2:=by
 have hl:(psM p).length≤p.1.length:=by unfold psM;rw[List.length_zipWith];omega
 have ha:=h.a
 have hm:∀x∈psM p,(i64 x.1.1∧x.1.2.length≤8∧∀k∈x.1.2,k.length≤128∧∀y∈k,i64 y.2)∧x.2.1.length≤N∧(∀y∈x.2.1,i64 y)∧i64 x.2.2:=fun x hx=>by
  obtain ⟨a,ha,b,-,rfl⟩:=zip_mem hx
  exact ⟨progA_ok b,h.v a ha⟩
 refine ⟨⟨by omega,by omega,fun q x hq=> ?_⟩,⟨fun x hx=> ?_,h.e⟩⟩
 ·obtain⟨⟨-,h1,h2⟩,h3,-⟩:=hm x (List.mem_of_getElem? hq)
  exact ⟨by omega,fun k hk=>by have:=(h2 k hk).1;omega,by omega⟩
 ·obtain⟨⟨h0,h1,h2⟩,h3,h4,h5⟩:=hm x hx
  exact ⟨h0,fun k hk=>(h2 k hk).2,h4,h5⟩
end Go.Proofs.YtlhopiehnaabgaaGreatDoor
