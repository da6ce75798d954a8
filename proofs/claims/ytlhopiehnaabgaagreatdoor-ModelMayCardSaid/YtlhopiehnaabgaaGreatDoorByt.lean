import Derived.Test.YtlhopiehnaabgaaGreatDoorLE
import Derived.Test.YtlhopiehnaabgaaGreatDoorHigh
set_option linter.all false
namespace Go.Proofs.YtlhopiehnaabgaaGreatDoor
open Go Rf
set_option maxRecDepth 100000
set_option maxHeartbeats 4000000
def u8 (n:Int):UInt8:=UInt8.ofNat (n % 256).toNat
theorem bV_u8 (n:Int):V.i .u8 (wrapF .u8 n)=bV (u8 n):=by
 rw [wrapF_eq,bV,u8,UInt8.toNat_ofNat']
 congr 1
 simp [IntKind.wrap,IntKind.bits,IntKind.signed]
 omega
def encI (x:Int×Int):List UInt8:=if nb x.1=true then u8 x.1::be8 (x.2 % 18446744073709551616).toNat else [u8 x.1]
def encK (k:Kd):List UInt8:=u8 (k.length:Nat)::k.flatMap encI
def encP (v:Int)(ks:List Kd):List UInt8:=u8 v::u8 (ks.length:Nat)::ks.flatMap encK
def Bcc (z:St)(v:V)(xs:List UInt8):Option Nat→Prop
 | none=>v= .pu 1 (xs.map bV) (.x xs.length)
 | some k=>v= .pu 1 (xs.map bV) (.t k)∧z.get k=some (.t xs.length)
theorem Bcc.vw {z:St}{v:V}{xs:List UInt8}{o:Option Nat}(h:Bcc z v xs o):Vw1 v (bsV xs):=by
 cases o with
 | none=>rw[show v=_ from h];exact .pu 1 _ _
 | some k=>rw[h.1];exact .pu 1 _ _
theorem Bcc.keep {z z':St}{v:V}{xs:List UInt8}{o:Option Nat}(h:Bcc z v xs o)(hs:∀k,o=some k→z'.get k=z.get k):Bcc z' v xs o:=by
 cases o with
 | none=>exact h
 | some k=>exact⟨h.1,by rw[hs k rfl];exact h.2⟩
theorem Bcc.ne {z:St}{v:V}{xs:List UInt8}{o:Option Nat}(h:Bcc z v xs o){j zz:Nat}{cs:List V}{ty:Option Nat}(hj:z.get j=some (.c cs zz ty)):o≠some j:=fun e=>by
 subst e
 have :=h.2
 rw [hj] at this;cases this
theorem Bcc.putc {z:St}{v:V}{xs:List UInt8}{o:Option Nat}(h:Bcc z v xs o){j zz:Nat}{cs:List V}{ty:Option Nat}(hj:z.get j=some (.c cs zz ty))(w:Option O):Bcc (z.put j w) v xs o:=
 h.keep fun k hk=>St.get_put_ne _ _ _ _ fun e=>by subst e;exact h.ne hj hk
theorem Bcc.newk {z:St}{v:V}{xs:List UInt8}{o:Option Nat}(h:Bcc z v xs o)(hg:Rf.Good z)(w:O):Bcc (z.new w) v xs o:=
 h.keep fun k hk=>St.get_new_ne _ _ _ (by subst hk;exact Nat.ne_of_lt (hg.1 _ _ h.2).1)
theorem bytes_chunks (ys:List UInt8):chunks false 1 (((ys.map bV).map V.cells).flatten) ys.length=ys.map bV:=by
 induction ys with
 | nil=>rfl
 | cons y ys ih=>
  exact congrArg (fun l=>bV y::l) ih
theorem Bcc.app {s:St}{xs ys:List UInt8}{o:Option Nat}{e:List V}{x y:Arg}{v:V}{c:Cap}{t:Nat}(hg:Rf.Good s)(hx:x.ev e=v)(h:Bcc s v xs o)(hy:y.ev e= .pu 1 (ys.map bV) c)(hn:ys.length≠0)(hr:room (xs.length+ys.length) 1=true){Q:V→St→Prop}
  (k:∀v' s' o',Bcc s' v' (xs++ys) o'→Rf.Good s'→(o'=o∨(o=none∧o'=some s.n))→s.n≤s'.n→s'.g=s.g→(∀j,o'≠some j→j<s.n→s'.get j=s.get j)→Q v' s'):∃v' s',aop e s (.app t true false 1 1 x y)=some (v',s')∧Q v' s':=by
 have hy':srcOf s 1 (y.ev e)=some (ys.length,((ys.map bV).map V.cells).flatten):=by rw[hy];simp[srcOf]
 cases o with
 | none=>
  have hv:v= .pu 1 (xs.map bV) (.x xs.length):=h
  refine ⟨.pu 1 ((xs++ys).map bV) (.t s.n),s.new (.t (xs++ys).length), ?_,k _ _ (some s.n) ⟨rfl,St.get_new_same _ _⟩ hg.new (.inr ⟨rfl,rfl⟩) (Nat.le_succ _) rfl fun j _ hlt=> ?_⟩
  ·simp only[aop,hy',hx,hv,appV,bytes_chunks]
   simp [hn,hr]
  ·rw[St.get_new_ne _ _ _ (Nat.ne_of_lt hlt)]
 | some q=>
  obtain ⟨hv,hk⟩:=h
  refine ⟨.pu 1 ((xs++ys).map bV) (.t q),s.put q (some (.t (xs++ys).length)), ?_,k _ _ (some q) ⟨rfl,St.get_put_same _ _ _⟩ (hg.put hk) (.inl rfl) (Nat.le_refl _) rfl fun j hj _=> ?_⟩
  ·simp only[aop,hy',hx,hv,appV,bytes_chunks]
   simp [hn,hr,hk]
  ·rw[St.get_put_ne _ _ _ _ (fun e=>hj (by rw[e]))]
theorem krun_bsl2 {e:List V}{s:St}{t:Nat}{z:V}{x y:Arg}{a b:UInt8}(hx:x.ev e=bV a)(hy:y.ev e=bV b):KRun gt0 Tryz.prog e s (.a (.bsl t true false 2 1 [z] [(0,1,x),(1,1,y)])) (.pu 1 ([a,b].map bV) (.x 2)) s:=by
 show aop e s (.bsl t true false 2 1 [z] [(0,1,x),(1,1,y)])=_
 simp only[aop,fillp,hx,hy]
 rfl
theorem room_b {n:Nat}(h:n≤1000000):room n 1=true:=by simp only[room,decide_eq_true_eq];omega
theorem flat_le {α β:Type}{f:α→List β}{c:Nat}:∀(l:List α),(∀x∈l,(f x).length≤c)→(l.flatMap f).length≤l.length* c
 | [],_=>by simp
 | x::l,h=>by
  have h1:=h x (List.mem_cons_self ..)
  have h2:=flat_le l (fun y hy=>h y (List.mem_cons_of_mem _ hy))
  simp only[List.flatMap_cons,List.length_append,List.length_cons]
  rw [Nat.succ_mul];omega
theorem encI_le (x:Int×Int):(encI x).length≤9:=by unfold encI;split<;>simp[be8]
theorem take_snoc_flat {α β:Type}{f:α→List β}{l:List α}{i:Nat}{a:α}(h:l[i]? =some a):(l.take (i+1)).flatMap f=(l.take i).flatMap f++f a:=by
 rw [List.take_add_one,h];simp
structure YI (s z:St) (ov:V) (xs:List UInt8) (tk:Option Nat):Prop where
 w :Grow s z
 a :Bcc z ov xs tk
 g :Rf.Good z
 tn :∀k,tk=some k→s.n≤k
theorem YI.new {s z:St}{ov:V}{xs:List UInt8}{tk:Option Nat}(h:YI s z ov xs tk)(o:O):YI s (z.new o) ov xs tk:=⟨h.w.new o,h.a.newk h.g o,h.g.new,h.tn⟩
theorem YI.oth {s z:St}{ov:V}{xs:List UInt8}{tk:Option Nat}(h:YI s z ov xs tk){X zz:Nat}{cs cs':List V}{ty:Option Nat}(hX:z.get X=some (.c cs zz ty))(h1:s.n≤X):YI s (z.put X (some (.c cs' zz ty))) ov xs tk:=⟨h.w.put h1 _,h.a.putc hX _,h.g.put hX,h.tn⟩
theorem YI.app {s z:St}{ov:V}{xs ys:List UInt8}{tk:Option Nat}(h:YI s z ov xs tk){e:List V}{x y:Arg}{c:Cap}{t:Nat}(hx:x.ev e=ov)(hy:y.ev e= .pu 1 (ys.map bV) c)(hn:ys.length≠0)(hr:room (xs.length+ys.length) 1=true){Q:V→St→Prop}
  (k:∀v' s' o',YI s s' v' (xs++ys) o'→(∀X cs zz ty,z.get X=some (.c cs zz ty)→s'.get X=some (.c cs zz ty))→Q v' s'):∃v' s',aop e z (.app t true false 1 1 x y)=some (v',s')∧Q v' s':=
 Bcc.app h.g hx h.a hy hn hr fun v' s' o' hA hg hor hn' hgg hfr=>k v' s' o' (by
  have htn:∀q,o'=some q→s.n≤q:=fun q hq=>by
   rcases hor with h1|⟨-,h1⟩
   ·exact h.tn q (by rw[←h1];exact hq)
   ·rw[h1] at hq;cases hq;exact h.w.n
  exact ⟨⟨Nat.le_trans h.w.n hn',by rw[hgg,h.w.g],fun m hm=>by
   rw [hfr m (fun e=>by have:=htn m e;omega) (Nat.lt_of_lt_of_le hm h.w.n)];exact h.w.r m hm⟩,hA,hg,htn⟩) (fun X cs zz ty hX=>by
  rw [hfr X (fun e1=>by
   rcases hor with h1|⟨-,h1⟩
   ·rw[h1] at e1;exact h.a.ne hX e1
   ·rw[h1] at e1;cases e1;exact Nat.lt_irrefl _ (h.g.1 _ _ hX).1) (h.g.1 _ _ hX).1];exact hX)
def c18_2:C:= .blk 2 (.loop (.seq (.seq (.ops [⟨some 32,none, .a (.mov (.t 5))⟩,⟨some 33,none, .a (.fa 1 (.t 1))⟩,⟨some 34,none, .a (.load1 (.t 33))⟩,⟨some 35,none, .a (.mov (.t 4))⟩,⟨some 36,none, .a (.ia 1 (.t 34) (.t 35))⟩,⟨some 37,none, .a (.load1 (.t 36))⟩,⟨some 38,none, .a (.len (.t 37))⟩,⟨some 39,none, .a (.bin .lss (.t 32) (.t 38))⟩]) (.cond (.t 39) .skip (.exit 2))) (.seq (.blk 3 (.seq (.ops [⟨some 42,none, .a (.fa 1 (.t 1))⟩,⟨some 43,none, .a (.load1 (.t 42))⟩,⟨some 44,none, .a (.mov (.t 4))⟩,⟨some 45,none, .a (.ia 1 (.t 43) (.t 44))⟩,⟨some 46,none, .a (.load1 (.t 45))⟩,⟨some 47,none, .a (.mov (.t 5))⟩,⟨some 48,none, .a (.ia 2 (.t 46) (.t 47))⟩,⟨some 49,none, .a (.loadn 2 (.t 48))⟩,⟨some 6,none, .a (.alloc 58 [.i .i64 0, .i .i64 0])⟩,⟨none,none, .a (.store 2 (.t 6) (.t 49))⟩]) (.seq (.ops [⟨some 50,none, .a (.mov (.t 3))⟩,⟨some 51,none, .a (.fa 0 (.t 6))⟩,⟨some 52,none, .a (.load1 (.t 51))⟩,⟨some 53,none, .a (.conv .u8 (.t 52))⟩,⟨some 54,none, .a (.bsl 5 true false 1 1 [.i .u8 0] [(0,1, .t 53)])⟩,⟨some 55,none, .a (.app 5 true false 1 1 (.t 50) (.t 54))⟩,⟨some 3,none, .a (.mov (.t 55))⟩]) (.seq (.ops [⟨some 56,none, .a (.fa 0 (.t 6))⟩,⟨some 57,none, .a (.load1 (.t 56))⟩,⟨some 58,none, .call 49 [.t 57]⟩]) (.cond (.t 58) (.ops [⟨some 59,none, .a (.mov (.t 3))⟩,⟨some 60,none, .a (.fa 1 (.t 6))⟩,⟨some 61,none, .a (.load1 (.t 60))⟩,⟨some 62,none, .a (.conv .u64 (.t 61))⟩,⟨some 63,none, .call 42 [.t 62, .c (.i .i64 8)]⟩,⟨some 64,none, .a (.app 5 true false 1 1 (.t 59) (.t 63))⟩,⟨some 3,none, .a (.mov (.t 64))⟩]) .skip))))) (.ops [⟨some 40,none, .a (.mov (.t 5))⟩,⟨some 41,none, .a (.bin .add (.t 40) (.c (.i .i64 1)))⟩,⟨some 5,none, .a (.mov (.t 41))⟩]))))
def EY (v:Int)(ks:List Kd)(ov:V)(i j:Nat):List V:=(.bad:: .q (pgV v ks) 0:: .bad::ov:: .i .i64 (i:Nat):: .i .i64 (j:Nat)::List.replicate 60 .bad)
def EY3 (v:Int)(ks:List Kd)(ov:V)(i:Nat):List V:=(.bad:: .q (pgV v ks) 0:: .bad::ov:: .i .i64 (i:Nat)::List.replicate 61 .bad)
theorem by18 {s z:St}{v:Int}{ks:List Kd}{k:Kd}{i:Nat}(hk:ks[i]? =some k)(hkl:k.length≤255){ov:V}{xs:List UInt8}{tk:Option Nat}(hxl:xs.length≤900000)(h:YI s z ov xs tk){e:List V}(he:fg [1,3,4,5] e=EY v ks ov i 0){Q:XM→List V→St→Prop}
  (hq:∀e z' ov' tk',fg [1,3,4] e=EY3 v ks ov' i→YI s z' ov' (xs++k.flatMap encI) tk'→Q .nrm e z'):HM gt0 Tryz.prog s c18_2 e z Q:=by
 have hm:10000≤maxLen:=by decide
 have hlk:(ks.map kV).length=ks.length:=List.length_map ..
 have hlx:(k.map insV).length=k.length:=List.length_map ..
 have hmx:(ks.map kV)[((i:Nat):Int).toNat]? =some (kV k):=by simp[hk]
 refine HM.blk ?_
 refine HM.loop gnm0 fun hg=>⟨fun n e z'=>∃(j:Nat)(ov':V)(tk':Option Nat),j≤k.length∧n=k.length-j∧e=EY v ks ov' i j∧YI s z' ov' (xs++(k.take j).flatMap encI) tk',
  ⟨k.length,fg [1,3,4,5] _,_,WkM.fg hg,0,ov,tk,Nat.zero_le _,rfl,he,by simpa using h⟩, ?_⟩
 rintro n e z1 ⟨j,ov',tk',hj,rfl,rfl,hY⟩
 conv =>whnf
 refine sghx ?_
 refine HM.ops ?_
 conv =>whnf
 refine sghx ?_
 refine ⟨rfl,Int.natCast_nonneg _,_,hmx, ?_⟩
 conv =>whnf
 refine sghx ?_
 rw [hlx]
 refine brB_iff.2 ⟨fun h1=> ?_,fun h1=> ?_⟩<;>conv=>whnf
 ·have hlt:j<k.length:=by rw[ltZ_eq] at h1;simpa using h1
  have hgy:k[j]? =some k[j]:=by simp[hlt]
  have hmy:(k.map insV)[((j:Nat):Int).toNat]? =some (insV k[j]):=by simp[hlt]
  generalize k[j]=x at hmy hgy
  have hpl:((k.take j).flatMap encI).length≤2295:=by
   have :=flat_le (f:=encI) (c:=9) (k.take j) (fun y _=>encI_le y)
   have h2:(k.take j).length≤255:=by rw[List.length_take];omega
   omega
  have hxx:(xs++(k.take j).flatMap encI).length≤910000:=by rw[List.length_append];omega
  refine sghx ?_
  refine HM.ops ?_
  conv =>whnf
  refine sghx ?_
  refine ⟨rfl,Int.natCast_nonneg _,_,hmx, ?_⟩
  conv =>whnf
  refine sghx ?_
  refine ⟨rfl,Int.natCast_nonneg _,_,hmy, ?_⟩
  conv =>whnf
  refine sghx ?_
  refine HO.opA krun_alloc ?_
  have hX:(z1.new (.c [.i .i64 0, .i .i64 0] 0 (some 58))).get z1.n=some (.c [.i .i64 0, .i .i64 0] 0 (some 58)):=St.get_new_same _ _
  have hY2:=hY.new (.c [.i .i64 0, .i .i64 0] 0 (some 58))
  have hXs:s.n≤z1.n:=hY.w.n
  generalize z1.new _=z2 at*
  generalize z1.n=X at*
  conv =>whnf
  refine sghx ?_
  refine HO.opA (krun_store (n:=2) (l:=X) (o:=0) (v:=insV x) (cs':=[.i .i64 x.1, .i .i64 x.2]) (by rfl) (by rfl) hX rfl rfl (Nat.zero_le _) (by simp) rfl) ?_
  have hX3:(z2.put X (some (.c [.i .i64 x.1, .i .i64 x.2] 0 (some 58)))).get X=some (.c [.i .i64 x.1, .i .i64 x.2] 0 (some 58)):=St.get_put_same _ _ _
  have hY3:=hY2.oth (cs':=[.i .i64 x.1, .i .i64 x.2]) hX hXs
  generalize z2.put X _=z3 at*
  conv =>whnf
  refine sghx ?_
  refine HM.ops ?_
  conv =>whnf
  refine sghx ?_
  refine HO.opA (krun_bsl1 (v:=bV (u8 x.1)) (bV_u8 x.1) rfl rfl) ?_
  conv =>whnf
  refine HO.kx rfl ?_
  conv =>whnf
  refine hY3.app (ys:=[u8 x.1]) rfl rfl Nat.one_ne_zero (room_b (by simp only[List.length_cons,List.length_nil];omega)) (fun ov4 z4 tk4 hY4 hfr4=> ?_)
  have hX4:=hfr4 _ _ _ _ hX3
  refine hN_abs ?_
  conv =>whnf
  refine sghx ?_
  refine HM.ops ?_
  conv =>whnf
  refine sghx ?_
  refine ⟨_,_,rnb_den _ _, ?_⟩
  conv =>whnf
  refine sghx ?_
  refine brB_iff.2 ⟨fun hnb=> ?_,fun hnb=> ?_⟩<;>conv=>whnf
  ·have hhi:hiL (wrapF .u64 x.2)=(be8 (x.2 % 18446744073709551616).toNat).map bV:=by
    have e:wrapF .u64 x.2=(((x.2 % 18446744073709551616).toNat:Nat):Int):=by rw[wU];omega
    rw [e,hiL_nat (by omega)]
   refine sghx ?_
   refine HM.ops ?_
   conv =>whnf
   refine sghx ?_
   refine ⟨_,_,high_den _ _, ?_⟩
   conv =>whnf
   refine sghx ?_
   refine hY4.app (c:= .u) (ys:=be8 (x.2 % 18446744073709551616).toNat) rfl (by exact congrArg (fun l=>V.pu 1 l .u) hhi) (by simp[be8]) (room_b (by simp only[List.length_append,List.length_cons,List.length_nil,be8] at*;omega)) (fun ov5 z5 tk5 hY5 hfr5=> ?_)
   refine hN_abs ?_
   conv =>whnf
   refine sghx ?_
   refine HM.ops ?_
   conv =>whnf
   refine sghx ?_
   rw [wrap_succ hlt (by omega)]
   intro hg'
   exact ⟨k.length-(j+1),fg [1,3,4,5] _,_,by omega,WkM.fg hg',j+1,ov5,tk5,hlt,rfl,rfl,by
    have e1:xs++(k.take (j+1)).flatMap encI=xs++(k.take j).flatMap encI++[u8 x.1]++be8 (x.2 % 18446744073709551616).toNat:=by
     rw [take_snoc_flat hgy,encI,if_pos hnb];simp
    rw [e1];exact hY5⟩
  ·refine sghx ?_
   refine HM.ops ?_
   conv =>whnf
   refine sghx ?_
   rw [wrap_succ hlt (by omega)]
   intro hg'
   exact ⟨k.length-(j+1),fg [1,3,4,5] _,_,by omega,WkM.fg hg',j+1,ov4,tk4,hlt,rfl,rfl,by
    have e1:xs++(k.take (j+1)).flatMap encI=xs++(k.take j).flatMap encI++[u8 x.1]:=by
     rw [take_snoc_flat hgy,encI,if_neg (by rw[hnb];decide)];simp
    rw [e1];exact hY4⟩
 ·have hge:k.length≤j:=by rw[ltZ_eq] at h1;simpa using h1
  rw [List.take_of_length_le hge] at hY
  refine sgh ?_
  exact hq _ _ ov' tk' rfl hY
def EY0 (v:Int)(ks:List Kd)(ov:V)(i:Nat):List V:=(.bad:: .q (pgV v ks) 0:: .bad::ov:: .i .i64 (i:Nat)::List.replicate 61 .bad)
theorem byt_den (v:Int)(ks:List Kd)(hl:ks.length≤255)(hk:∀k∈ks,k.length≤255)(s:St)(hx:NoX s):Den gt0 Tryz.prog 41 [pgV v ks] s (bsV (encP v ks)) s:=by
 have hm:10000≤maxLen:=by decide
 have hlk:(ks.map kV).length=ks.length:=List.length_map ..
 refine Den.tidy fun ht=>Den.hm gnm0 hF41 ?_
 have hg0:=ht.1
 conv =>whnf
 refine sghx ?_
 refine HM.ops ?_
 conv =>whnf
 refine sghx ?_
 refine HM.ops ?_
 conv =>whnf
 refine sghx ?_
 rw [hlk]
 refine HO.opA (krun_bsl2 (a:=u8 v) (b:=u8 (ks.length:Nat)) (bV_u8 _) (bV_u8 _)) ?_
 conv =>whnf
 refine sgh ?_
 have hY0:YI s s (.pu 1 ([u8 v,u8 (ks.length:Nat)].map bV) (.x 2)) [u8 v,u8 (ks.length:Nat)] none:=⟨Grow.refl s,rfl,hg0,fun q hq=>by cases hq⟩
 refine HM.loop gnm0 fun hg=>⟨fun n e z=>∃(i:Nat)(ov:V)(tk:Option Nat),i≤ks.length∧n=ks.length-i∧e=EY0 v ks ov i∧YI s z ov (u8 v::u8 (ks.length:Nat)::(ks.take i).flatMap encK) tk,
  ⟨ks.length,fg [1,3,4] _,_,WkM.fg hg,0,_,none,Nat.zero_le _,rfl,rfl,by simpa using hY0⟩, ?_⟩
 rintro n e z ⟨i,ov,tk,hi,rfl,rfl,hY⟩
 conv =>whnf
 refine sghx ?_
 refine HM.ops ?_
 conv =>whnf
 refine sghx ?_
 rw [hlk]
 refine brB_iff.2 ⟨fun h1=> ?_,fun h1=> ?_⟩<;>conv=>whnf
 ·have hlt:i<ks.length:=by rw[ltZ_eq] at h1;simpa using h1
  have hgx:ks[i]? =some ks[i]:=by simp[hlt]
  have hmx:(ks.map kV)[((i:Nat):Int).toNat]? =some (kV ks[i]):=by simp[hlt]
  have hkx:ks[i].length≤255:=hk _ (List.getElem_mem ..)
  generalize ks[i]=k at hmx hgx hkx
  have hlx:(k.map insV).length=k.length:=List.length_map ..
  have hpl:((ks.take i).flatMap encK).length≤585480:=by
   have h0:=flat_le (f:=encK) (c:=2296) (ks.take i) (fun y hy=>by
    have h3:=hk y (List.mem_of_mem_take hy)
    have h4:=flat_le (f:=encI) (c:=9) y (fun w _=>encI_le w)
    simp only[encK,List.length_cons];omega)
   have h2:(ks.take i).length≤255:=by rw[List.length_take];omega
   omega
  refine sghx ?_
  refine HM.ops ?_
  conv =>whnf
  refine sghx ?_
  refine ⟨rfl,Int.natCast_nonneg _,_,hmx, ?_⟩
  conv =>whnf
  refine sghx ?_
  rw [hlx]
  refine HO.opA (krun_bsl1 (v:=bV (u8 (k.length:Nat))) (bV_u8 _) rfl rfl) ?_
  conv =>whnf
  refine HO.kx rfl ?_
  conv =>whnf
  refine hY.app (ys:=[u8 (k.length:Nat)]) rfl rfl Nat.one_ne_zero (room_b (by simp only[List.length_cons,List.length_nil];omega)) (fun ov4 z4 tk4 hY4 hfr4=> ?_)
  refine hN_abs ?_
  conv =>whnf
  refine HO.opA (krun_mov nthx) ?_
  conv =>whnf
  repeat ((first|refine HM.seq ?_|refine HM.ops ?_|refine HO.kx rfl ?_|refine HO.nil ?_);conv=>whnf)
  refine by18 (v:=v) hgx hkx (by simp only[List.length_append,List.length_cons,List.length_nil];omega) hY4 (by rfl) (fun e6 z6 ov6 tk6 he6 hY6=> ?_)
  conv =>whnf
  refine HM.fgt gnm0 [1,3,4] (fun hg=> ?_)
  rw [he6]
  refine HM.ops ?_
  conv =>whnf
  refine sghx ?_
  rw [wrap_succ hlt (by omega)]
  intro hg'
  exact ⟨ks.length-(i+1),fg [1,3,4] _,_,by omega,WkM.fg hg',i+1,ov6,tk6,hlt,rfl,rfl,by
   have e1:u8 v::u8 (ks.length:Nat)::(ks.take (i+1)).flatMap encK=(u8 v::u8 (ks.length:Nat)::(ks.take i).flatMap encK)++[u8 (k.length:Nat)]++k.flatMap encI:=by
    rw [take_snoc_flat hgx,encK];simp
   rw [e1];exact hY6⟩
 ·have hge:ks.length≤i:=by rw[ltZ_eq] at h1;simpa using h1
  rw [List.take_of_length_le hge] at hY
  refine HM.vw (t:=3) (u:=bsV (encP v ks)) (.succ (.succ (.succ .zero))) (.one hY.a.vw) ?_
  conv =>whnf
  refine sgh ?_
  exact ⟨.refl _,fun hg=>⟨hY.w.end ht hx, .inr (bsV_nm _)⟩⟩
end Go.Proofs.YtlhopiehnaabgaaGreatDoor
