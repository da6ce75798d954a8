import Derived.Test.YtlhopiehnaabgaaGreatDoorCof
import Derived.Test.YtlhopiehnaabgaaGreatDoorCodeN
import Derived.Test.YtlhopiehnaabgaaGreatDoorCodeT3
import Derived.Test.YtlhopiehnaabgaaGreatDoorLE
import Derived.Lib.AtoiAllCases
import Derived.Lib.ParseIntBTie
import Derived.Lib.ItoaNum
set_option linter.all false
namespace Go.Proofs.YtlhopiehnaabgaaGreatDoor
open Go Rf
set_option maxRecDepth 100000
set_option maxHeartbeats 4000000
def opR (w:List UInt8)(n:Nat):Int:=(wsL.take n).zipIdx.foldl (fun a x=>if x.1=w then(x.2:Nat)+1 else a) 0
theorem mayP_len {v:Int}{ks:List Kd}(h:mayP v ks=true):ks.length≤8∧∀k∈ks,k.length≤128:=by
 unfold mayP at h
 simp only[Bool.and_eq_true,Bool.not_eq_true',List.any_eq_false,Bool.or_eq_false_iff,decide_eq_false_iff_not] at h
 refine ⟨by omega,fun k hk=> ?_⟩
 have h1:=h.2 k hk
 unfold kdBad at h1
 simp only[Bool.or_eq_true,not_or,decide_eq_true_eq] at h1
 omega
end Go.Proofs.YtlhopiehnaabgaaGreatDoor
set_option linter.all false
namespace Go.Proofs.YtlhopiehnaabgaaGreatDoor
open Go Rf
set_option maxRecDepth 100000
set_option maxHeartbeats 4000000
theorem dig_n {d:Nat}(h:d<10):(UInt8.ofNat (48+d)).toNat=48+d:=by rw[UInt8.toNat_ofNat'];omega
theorem pu10_app:∀(l:List UInt8)(acc u d:Nat),d<10→u* 10+d<18446744073709551616→Lib.parseUint10 acc l= .ok u→Lib.parseUint10 acc (l++[UInt8.ofNat (48+d)])= .ok (u* 10+d)
 | [],acc,u,d,hd,hu,h=>by
  simp only[Lib.parseUint10] at h
  cases h
  simp only[List.nil_append,Lib.parseUint10,dig_n hd]
  rw [if_pos (by omega),if_neg (by omega),if_neg (by omega)]
  congr 1;omega
 | c::r,acc,u,d,hd,hu,h=>by
  simp only[Lib.parseUint10,List.cons_append] at h ⊢
  split at h
  ·rename_i h1
   rw [if_pos h1]
   split at h
   ·cases h
   ·rename_i h2
    rw [if_neg h2]
    split at h
    ·cases h
    ·rename_i h3
     rw [if_neg h3];exact pu10_app r _ u d hd hu h
  ·cases h
theorem pu10_dec (u:Nat)(h:u<18446744073709551616):Lib.parseUint10 0 (Lib.decDigits u)= .ok u:=by
 induction u using Nat.strongRecOn with
 | _ u ih=>
  rw [Lib.decDigits]
  by_cases hu:u<10
  ·rw[dif_pos hu]
   have :=pu10_app [] 0 0 u hu (by omega) rfl
   simpa using this
  ·rw[dif_neg hu,pu10_app (Lib.decDigits (u/10)) 0 (u/10) (u % 10) (by omega) (by omega) (ih (u/10) (by omega) (by omega))]
   congr 1;omega
theorem dec_ch (u:Nat):∀b∈Lib.decDigits u,48≤b.toNat∧b.toNat≤57:=by
 induction u using Nat.strongRecOn with
 | _ u ih=>
  intro b hb
  rw [Lib.decDigits] at hb
  by_cases hu:u<10
  ·rw[dif_pos hu,List.mem_singleton] at hb
   subst hb
   rw [dig_n hu];omega
  ·rw[dif_neg hu] at hb
   rcases List.mem_append.1 hb with hb|hb
   ·exact ih (u/10) (by omega) b hb
   ·rw[List.mem_singleton] at hb
    subst hb
    rw [dig_n (by omega)];omega
theorem dec_ne (u:Nat):Lib.decDigits u≠ []:=by
 rw [Lib.decDigits];split<;>simp
theorem dec_cons (u:Nat):∃c r,Lib.decDigits u=c::r∧c.toNat≠43∧c.toNat≠45:=by
 cases h:Lib.decDigits u with
 | nil=>exact(dec_ne u h).elim
 | cons c r=>
  have :=dec_ch u c (by rw[h];exact List.mem_cons_self ..)
  exact ⟨c,r,rfl,by omega,by omega⟩
theorem itoa_no {n:Int}{c:UInt8}(hc:c.toNat<45):c∉Lib.itoa n:=fun h=>by
 unfold Lib.itoa at h
 split at h
 ·rcases List.mem_cons.1 h with rfl|h
  ·exact absurd hc (by decide)
  ·have:=dec_ch _ _ h;omega
 ·have:=dec_ch _ _ h;omega
theorem mag_dec {u:Nat}(h:u<18446744073709551616):Lib.parseMag (Lib.decDigits u)= .ok u:=by
 unfold Lib.parseMag
 rw [if_neg (dec_ne u),pu10_dec u h]
theorem atoi_itoa {n:Int}(h:i64 n):Lib.atoiAll (Lib.itoa n)= .ok n:=by
 obtain ⟨h0,h1⟩:=h
 unfold Lib.itoa
 by_cases hn:n<0
 ·rw[if_pos hn,Lib.atoiAll_minus,mag_dec (by omega)]
  simp only[Lib.signed]
  rw [if_neg (by omega)]
  congr 1;omega
 ·rw[if_neg hn]
  have hm:=mag_dec (u:=n.toNat) (by omega)
  obtain ⟨c,r,e,h3,h4⟩:=dec_cons n.toNat
  rw [e] at hm ⊢
  rw [Lib.atoiAll_plain c r h3 h4,hm]
  simp only[Lib.signless]
  rw [if_neg (by omega)]
  congr 1;omega
theorem atoiV_itoa {n:Int}(h:i64 n):atoiV (Lib.itoa n)=n:=by
 unfold atoiV;rw[atoi_itoa h]
theorem parseV_itoa {n:Int}(h:i64 n):parseV (Lib.itoa n)=n:=by
 unfold parseV;rw[Lib.parseIntB_64,atoi_itoa h]
theorem wd_all (o:Int):wd o≠ []→10∉wd o∧32∉wd o∧ixS (wd o) wsL 0+1=o∧opR (wd o) 17=o:=by
 refine op_split (p:=fun o=>wd o≠ []→10∉wd o∧32∉wd o∧ixS (wd o) wsL 0+1=o∧opR (wd o) 17=o) (fun n h=>(h rfl).elim) (fun n h=>(h rfl).elim) (fun h=>(h rfl).elim)
  ?_ ?_ ?_ ?_ ?_ ?_ ?_ ?_ ?_ ?_ ?_ ?_ ?_ ?_ ?_ ?_ ?_ o<;>
 exact fun _=>⟨by decide,by decide,by decide,by decide⟩
def InsOk (x:Int×Int):Prop:=wd x.1≠ []∧i64 x.2∧(nb x.1=false→x.2=0)
theorem insOk_of {v : Int} {m len : Nat} {x : Int × Int} (h : insBad v m len x = false) (hx : i64 x.2) : InsOk x := by
  unfold insBad at h
  simp only [Bool.or_eq_false_iff, beq_eq_false_iff_ne, Bool.not_eq_false'] at h
  refine ⟨h.1, hx, fun hn => ?_⟩
  obtain ⟨o, n⟩ := x
  simp only at *
  obtain ⟨h1, h2⟩ := h
  revert hn h1 h2
  refine op_split (p := fun o => nb o = false → wd o ≠ [] → numOk v m len o n = true → n = 0) (fun k _ h => (h rfl).elim) (fun k _ h => (h rfl).elim) (fun _ h => (h rfl).elim)
    ?_ ?_ ?_ ?_ ?_ ?_ ?_ ?_ ?_ ?_ ?_ ?_ ?_ ?_ ?_ ?_ ?_ o <;>
  · intro hn _ h2
    first
    | (cases hn; done)
    | (unfold numOk at h2
       simp at h2
       omega)
def lnI (x:Int×Int):List UInt8:=[32,32]++(wd x.1++if nb x.1 then 32::Lib.itoa x.2 else [])
theorem insT_ln (x:Int×Int):insT x=lnI x++[10]:=by
 unfold insT lnI;simp
theorem lnI_no {x:Int×Int}(h:InsOk x):10∉lnI x:=by
 have h1:=(wd_all x.1 h.1).1
 have h2:10∉Lib.itoa x.2:=itoa_no (by decide)
 unfold lnI
 simp only[List.mem_append,not_or]
 refine ⟨by decide,h1, ?_⟩
 split
 ·simp only[List.mem_cons,not_or];exact⟨by decide,h2⟩
 ·simp
theorem insA_ln {x:Int×Int}(h:InsOk x):insA (cutL 32 ((lnI x).drop 2))=x:=by
 obtain ⟨h1,h2,h3⟩:=h
 obtain ⟨-,h4,h5,-⟩:=wd_all x.1 h1
 obtain ⟨o,n⟩:=x
 simp only at*
 rw [show(lnI (o,n)).drop 2=wd o++if nb o then 32::Lib.itoa n else [] from rfl]
 cases hn:nb o
 ·rw[if_neg (by simp),List.append_nil,cutL_none h4,h3 hn]
  simp only[insA,List.headD_cons,h5]
 ·rw[if_pos rfl,cutL_app _ h4,cutL_none (itoa_no (by decide))]
  simp only[insA,List.headD_cons,h5,parseV_itoa h2]
def kdL:List UInt8:=[107,105,110,100]
def lnK (k:Kd):List (List UInt8):=kdL::k.map lnI
def lnV (v:Int):List UInt8:=[118,97,114,115,32]++Lib.itoa v
theorem cut_lines (rest:List UInt8):∀(ls:List (List UInt8)),(∀l∈ls,10∉l)→cutL 10 (ls.flatMap (·++[10])++rest)=ls++cutL 10 rest
 | [],_=>rfl
 | l::ls,h=>by
  rw [List.flatMap_cons,List.append_assoc,List.append_assoc,List.singleton_append,cutL_app _ (h l (List.mem_cons_self ..)),cut_lines rest ls fun x hx=>h x (List.mem_cons_of_mem _ hx)]
  rfl
theorem flat_kT (k:Kd):kT k=(lnK k).flatMap (·++[10]):=by
 unfold kT lnK
 simp only[List.flatMap_cons,List.flatMap_map,←insT_ln]
 rfl
theorem pgT_ln (v:Int)(ks:List Kd):pgT v ks=(lnV v::ks.flatMap lnK).flatMap (·++[10])++[]:=by
 unfold pgT lnV
 rw [List.flatMap_cons,List.flatMap_assoc,List.append_nil]
 congr 1
 congr 1
 funext k
 exact flat_kT k
def KsOk (ks:List Kd):Prop:=∀k∈ks,∀x∈k,InsOk x
theorem ksOk_of {v:Int}{ks:List Kd}(h:mayP v ks=true)(hi:∀k∈ks,∀x∈k,i64 x.2):KsOk ks:=fun k hk x hx=>by
 unfold mayP at h
 simp only[Bool.and_eq_true,Bool.not_eq_true',List.any_eq_false] at h
 have h1:=h.2 k hk
 unfold kdBad at h1
 simp only[Bool.or_eq_true,not_or,List.any_eq_true,not_exists,not_and] at h1
 exact insOk_of (by simpa using h1.2 x hx) (hi k hk x hx)
theorem pg_no {v:Int}{ks:List Kd}(h:KsOk ks):∀l∈lnV v::ks.flatMap lnK,10∉l:=fun l hl=>by
 rcases List.mem_cons.1 hl with rfl|hl
 ·unfold lnV
  simp only[List.mem_append,not_or]
  exact ⟨by decide,itoa_no (by decide)⟩
 ·obtain⟨k,hk,hl⟩:=List.mem_flatMap.1 hl
  rcases List.mem_cons.1 hl with rfl|hl
  ·decide
  ·obtain⟨x,hx,rfl⟩:=List.mem_map.1 hl
   exact lnI_no (h k hk x hx)
theorem pg_cut {v:Int}{ks:List Kd}(h:KsOk ks):cutL 10 (pgT v ks)=(lnV v::ks.flatMap lnK)++[[]]:=by
 rw [pgT_ln,cut_lines _ _ (pg_no h)];rfl
theorem addL_last (c:List Kd)(k:Kd)(x:Int×Int):addL (c++[k]) x=c++[k++[x]]:=by simp[addL]
theorem stA_i {i:Nat}{v:Int}{c:List Kd}{k:Kd}{x:Int×Int}(hi:i≠0)(h:InsOk x):stA (v,c++[k]) i (lnI x)=(v,c++[k++[x]]):=by
 have hp:Lib.hasPrefix (lnI x) [32,32]=true:=by
  unfold Lib.hasPrefix lnI;rfl
 rw [stA,if_neg hi,if_neg (by unfold lnI;simp),if_pos (by rw[hp];simp),insA_ln h,addL_last]
theorem foA_k (rest:List (List UInt8))(v:Int)(c:List Kd):∀(k2:Kd)(i:Nat)(k1:Kd),i≠0→(∀x∈k2,InsOk x)→∃j,j≠0∧foA (k2.map lnI++rest) i (v,c++[k1])=foA rest j (v,c++[k1++k2])
 | [],i,k1,hi,_=>⟨i,hi,by simp⟩
 | x::k2,i,k1,hi,h=>by
  obtain ⟨j,hj,e⟩:=foA_k rest v c k2 (i+1) (k1++[x]) (Nat.succ_ne_zero _) fun y hy=>h y (List.mem_cons_of_mem _ hy)
  refine ⟨j,hj, ?_⟩
  rw [List.map_cons,List.cons_append,foA,stA_i hi (h x (List.mem_cons_self ..)),e]
  simp
theorem foA_ks (rest:List (List UInt8))(v:Int):∀(ks:List Kd)(i:Nat)(c:List Kd),i≠0→KsOk ks→∃j,j≠0∧foA (ks.flatMap lnK++rest) i (v,c)=foA rest j (v,c++ks)
 | [],i,c,hi,_=>⟨i,hi,by simp⟩
 | k::ks,i,c,hi,h=>by
  obtain ⟨j,hj,e⟩:=foA_k (ks.flatMap lnK++rest) v c k (i+1) [] (Nat.succ_ne_zero _) (h k (List.mem_cons_self ..))
  obtain ⟨j2,hj2,e2⟩:=foA_ks rest v ks j (c++[k]) hj fun y hy=>h y (List.mem_cons_of_mem _ hy)
  refine ⟨j2,hj2, ?_⟩
  rw [List.flatMap_cons,lnK,List.append_assoc,List.cons_append,foA,stA,if_neg hi,if_pos (show kdL=[107,105,110,100] from rfl),e,List.nil_append,e2]
  simp
theorem foA_pgT {v:Int}{ks:List Kd}(hv:i64 v)(h:KsOk ks):foA (cutL 10 (pgT v ks)) 0 (0,[])=(v,ks):=by
 obtain ⟨j,hj,e⟩:=foA_ks [[]] v ks 1 [] (by decide) h
 have ht:atoiV (Lib.trimPrefix (lnV v) [118,97,114,115,32])=v:=by
  have hp:Lib.hasPrefix (lnV v) [118,97,114,115,32]=true:=rfl
  unfold Lib.trimPrefix
  rw [if_pos hp]
  exact atoiV_itoa hv
 rw [pg_cut h,List.cons_append,foA,stA,if_pos rfl,ht,e,List.nil_append,foA,foA,stA,if_neg hj,if_neg (by decide),if_neg (by simp[Lib.hasPrefix])]
end Go.Proofs.YtlhopiehnaabgaaGreatDoor
