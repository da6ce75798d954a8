import Derived.Test.YtlhopiehnaabgaaGreatDoorRby
import Derived.Test.YtlhopiehnaabgaaGreatDoorIns
set_option linter.all false
namespace Go.Proofs.YtlhopiehnaabgaaGreatDoor
open Go Rf
set_option maxRecDepth 100000
set_option maxHeartbeats 4000000
def shB (x:Int)(m:Nat):UInt8:=u8 (x.fdiv (2^(56-8* m)))
theorem shB_p {x:Int}{m:Nat}(p:Int)(hp:(2:Int)^(56-8* m)=p)(h0:0≤p):shB x m=u8 (x/p):=by
 unfold shB;rw[hp,Int.fdiv_eq_ediv_of_nonneg _ h0]
theorem u8_eq {a:Int}{b:Nat}(h:(a % 256).toNat=b % 256):u8 a=UInt8.ofNat b:=by
 unfold u8
 apply UInt8.toNat.inj
 rw [UInt8.toNat_ofNat',UInt8.toNat_ofNat',h]
 omega
theorem shB_all (x:Int):(List.range 8).map (shB x)=enc8 x:=by
 show [shB x 0,shB x 1,shB x 2,shB x 3,shB x 4,shB x 5,shB x 6,shB x 7]=_
 rw [shB_p (m:=0) 72057594037927936 (by decide) (by decide),shB_p (m:=1) 281474976710656 (by decide) (by decide),shB_p (m:=2) 1099511627776 (by decide) (by decide),shB_p (m:=3) 4294967296 (by decide) (by decide),
  shB_p (m:=4) 16777216 (by decide) (by decide),shB_p (m:=5) 65536 (by decide) (by decide),shB_p (m:=6) 256 (by decide) (by decide),shB_p (m:=7) 1 (by decide) (by decide)]
 unfold enc8 be8
 have h0:0≤x % 18446744073709551616:=by omega
 have h1:(((x % 18446744073709551616).toNat:Nat):Int)=x % 18446744073709551616:=by omega
 generalize (x % 18446744073709551616).toNat=n at h1
 simp only[List.cons.injEq,and_true]
 refine ⟨u8_eq ?_,u8_eq ?_,u8_eq ?_,u8_eq ?_,u8_eq ?_,u8_eq ?_,u8_eq ?_,u8_eq ?_⟩<;>omega
theorem sh_of {x:Int}{m:Nat}(hm:m<8):binV .shr (.i .i64 x) (.i .i64 (56-8* (m:Int)))=some (.i .i64 (x.fdiv (2^(56-8* m)))):=by
 show (if (56-8* (m:Int))<0 then none else some (V.i .i64 (x.fdiv (2^(min (56-8* (m:Int)).toNat 64)))))=_
 rw [if_neg (by omega),Nat.min_eq_left (by omega),show(56-8* (m:Int)).toNat=56-8* m by omega]
theorem mayP_few {v:Int}{ks:List Kd}(h:mayP v ks=true):ks.length≤8∧∀k∈ks,k.length≤128:=by
 unfold mayP at h
 simp only[Bool.and_eq_true,Bool.not_eq_true',List.any_eq_false,Bool.or_eq_false_iff,decide_eq_false_iff_not] at h
 refine ⟨by omega,fun k hk=> ?_⟩
 have h1:=h.2 k hk
 unfold kdBad at h1
 simp only[Bool.or_eq_true,not_or,decide_eq_true_eq] at h1
 omega
def EJ1 (ks:List Kd)(ov:V)(i:Nat):List V:=(.bad:: .bad:: .bad:: .bad::ov:: .bad:: .bad:: .bad:: .bad:: .bad:: .bad:: .bad:: .bad:: .bad:: .bad:: .bad:: .bad:: .bad:: .bad:: .bad:: .bad:: .bad::ksV ks:: .i .i64 (ks.length:Nat):: .i .i64 (i:Nat)::List.replicate 41 .bad)
def EJ2 (ks:List Kd)(ov:V)(i:Nat)(k:Kd)(j:Nat):List V:=(.bad:: .bad:: .bad:: .bad::ov:: .bad:: .bad:: .bad:: .bad:: .bad:: .bad:: .bad:: .bad:: .bad:: .bad:: .bad:: .bad:: .bad:: .bad:: .bad:: .bad:: .bad::ksV ks:: .i .i64 (ks.length:Nat):: .i .i64 (i:Nat):: .bad:: .bad:: .bad:: .bad:: .bad:: .bad:: .bad:: .bad:: .bad::kV k:: .i .i64 (k.length:Nat):: .i .i64 (j:Nat)::List.replicate 29 .bad)
def EJ3 (ks:List Kd)(ov:V)(i:Nat)(k:Kd)(j X m:Nat):List V:=(.bad:: .bad:: .bad:: .bad::ov:: .bad:: .bad:: .bad:: .p X 0:: .i .i64 (56-8* (m:Int)):: .bad:: .bad:: .bad:: .bad:: .bad:: .bad:: .bad:: .bad:: .bad:: .bad:: .bad:: .bad::ksV ks:: .i .i64 (ks.length:Nat):: .i .i64 (i:Nat):: .bad:: .bad:: .bad:: .bad:: .bad:: .bad:: .bad:: .bad:: .bad::kV k:: .i .i64 (k.length:Nat):: .i .i64 (j:Nat)::List.replicate 29 .bad)
theorem cbyt_den (v:Int)(ks:List Kd)(hl:ks.length≤255)(hk:∀k∈ks,k.length≤255)(s:St)(hx:NoX s):Den gt0 Tryz.prog 32 [pgV v ks] s (if mayP v ks then .tu [bsV (encP v ks), .i .i64 0] else .tu [bsV [], .i .i64 3]) s:=by
 have hlk:(ks.map kV).length=ks.length:=List.length_map ..
 refine Den.tidy fun ht=>Den.hm gnm0 hF32 ?_
 have K:=Kn.init ht.1 hx
 conv =>whnf
 refine kgo ?_;(repeat(first|intro(X:Nat)|intro(z:St)|intro(av:V)|intro(tk:Option Nat)|(intro(K1:Kn _ _ _);(try clear K);rename Kn _ _ _=>K)));conv=>whnf
 refine ⟨_,_,may_den v ks hl hk _ K.x, ?_⟩
 conv =>whnf
 refine kgo ?_;(repeat(first|intro(X:Nat)|intro(z:St)|intro(av:V)|intro(tk:Option Nat)|(intro(K1:Kn _ _ _);(try clear K);rename Kn _ _ _=>K)));conv=>whnf
 cases hm:mayP v ks<;>conv=>whnf
 ·refine kgo ?_;(repeat(first|intro(X:Nat)|intro(z:St)|intro(av:V)|intro(tk:Option Nat)|(intro(K1:Kn _ _ _);(try clear K);rename Kn _ _ _=>K)));conv=>whnf
  rw [if_neg (by simp)]
  exact K.fin ht hx (.tu _ (nm2 (bsV_nm _) (.i _ _))) (.tu _ _ (.cons (.ns 1) (.cons (.refl _) .nil)))
 obtain ⟨h8,h128⟩:=mayP_few hm
 rw [if_pos rfl]
 refine kgo ?_;(repeat(first|intro(X:Nat)|intro(z:St)|intro(av:V)|intro(tk:Option Nat)|(intro(K1:Kn _ _ _);(try clear K);rename Kn _ _ _=>K)));conv=>whnf
 rw [hlk]
 refine HM.loop gnm0 fun hg=>⟨fun m e z'=>∃(i:Nat)(ov:V)(tk:Option Nat),i≤ks.length∧m=ks.length-i∧e=EJ1 ks ov i∧Kn s z' [.ac 1 ov ((u8 v::u8 (ks.length:Nat)::(ks.take i).flatMap encK).map bV) tk],
  ⟨ks.length,fg [4,22,23,24] _,_,WkM.fg hg,0,_,none,Nat.zero_le _,rfl,rfl,(K.accx 1 [.i .u8 (wrapF .u8 v), .i .u8 (wrapF .u8 (ks.length:Nat))]).cast (by simp[bV_u8])⟩, ?_⟩
 clear K
 rintro m e z1 ⟨i,ov,tk,hi,rfl,rfl,K⟩
 have hpl:((ks.take i).flatMap encK).length≤585480:=by
  have h0:=flat_le (f:=encK) (c:=2296) (ks.take i) (fun y hy=>by
   have h3:=hk y (List.mem_of_mem_take hy)
   have h4:=flat_le (f:=encI) (c:=9) y (fun w _=>encI_le w)
   simp only[encK,List.length_cons];omega)
  have h2:(ks.take i).length≤255:=by rw[List.length_take];omega
  omega
 have hend:ks.length≤i→u8 v::u8 (ks.length:Nat)::(ks.take i).flatMap encK=encP v ks:=fun h=>by rw[List.take_of_length_le h];rfl
 have hstep:∀k,ks[i]? =some k→u8 v::u8 (ks.length:Nat)::(ks.take (i+1)).flatMap encK=(u8 v::u8 (ks.length:Nat)::(ks.take i).flatMap encK)++[u8 (k.length:Nat)]++k.flatMap encI:=fun k h=>by
  rw [take_snoc_flat h,encK];simp
 generalize hxs:u8 v::u8 (ks.length:Nat)::(ks.take i).flatMap encK=xs at*
 have hxl:xs.length≤600000:=by rw[←hxs];simp only[List.length_cons];omega
 clear hxs hpl
 conv =>whnf
 refine kgo ?_;(repeat(first|intro(X:Nat)|intro(z:St)|intro(av:V)|intro(tk:Option Nat)|(intro(K1:Kn _ _ _);(try clear K);rename Kn _ _ _=>K)));conv=>whnf
 refine brL ⟨fun hlt=> ?_,fun hge=> ?_⟩<;>conv=>whnf
 ·have hki:ks[i]? =some ks[i]:=List.getElem?_eq_getElem hlt
  generalize ks[i]=k at hki
  have hkl:=hk k (List.mem_of_getElem? hki)
  have hlx:(k.map insV).length=k.length:=List.length_map ..
  refine kgo ?_;(repeat(first|intro(X:Nat)|intro(z:St)|intro(av:V)|intro(tk:Option Nat)|(intro(K1:Kn _ _ _);(try clear K);rename Kn _ _ _=>K)));conv=>whnf
  rw [hlx] at K ⊢
  replace K:Kn s z [.ac 1 av ((xs++[u8 (k.length:Nat)]).map bV) tk]:=K.cast (by simp[bV_u8])
  have hstep':=hstep k hki
  generalize hys:xs++[u8 (k.length:Nat)]=ys at*
  have hyl:ys.length≤600001:=by rw[←hys,List.length_append,List.length_singleton];omega
  refine HM.loop gnm0 fun hg=>⟨fun m e z'=>∃(j:Nat)(ov:V)(tk:Option Nat),j≤k.length∧m=k.length-j∧e=EJ2 ks ov i k j∧Kn s z' [.ac 1 ov ((ys++(k.take j).flatMap encI).map bV) tk],
   ⟨k.length,fg [4,22,23,24,34,35,36] _,_,WkM.fg hg,0,_,tk,Nat.zero_le _,rfl,rfl,K.cast (by simp)⟩, ?_⟩
  clear K
  rintro m e z2 ⟨j,ov2,tk2,hj,rfl,rfl,K⟩
  have hz:=flat_le (f:=encI) (c:=9) (k.take j) (fun w _=>encI_le w)
  have hz2:(k.take j).length≤255:=by rw[List.length_take];omega
  have hstep2:∀x,k[j]? =some x→ys++(k.take (j+1)).flatMap encI=(ys++(k.take j).flatMap encI)++encI x:=fun x h=>by rw[take_snoc_flat h];simp
  have hend2:k.length≤j→ys++(k.take j).flatMap encI=ys++k.flatMap encI:=fun h=>by rw[List.take_of_length_le h]
  generalize hzs:ys++(k.take j).flatMap encI=zs at*
  have hzl:zs.length≤610000:=by rw[←hzs,List.length_append];omega
  conv =>whnf
  refine kgo ?_;(repeat(first|intro(X:Nat)|intro(z:St)|intro(av:V)|intro(tk:Option Nat)|(intro(K1:Kn _ _ _);(try clear K);rename Kn _ _ _=>K)));conv=>whnf
  refine brL ⟨fun hlt2=> ?_,fun hge2=> ?_⟩<;>conv=>whnf
  ·have hkj:k[j]? =some k[j]:=List.getElem?_eq_getElem hlt2
   generalize k[j]=x at hkj
   refine kgo ?_;(repeat(first|intro(X:Nat)|intro(z:St)|intro(av:V)|intro(tk:Option Nat)|(intro(K1:Kn _ _ _);(try clear K);rename Kn _ _ _=>K)));conv=>whnf
   replace K:Kn s z [.ob true X (.c [.i .i64 x.1, .i .i64 x.2] 0 (some 58)), .ac 1 av ((zs++[u8 x.1]).map bV) tk]:=K.cast (by simp[bV_u8])
   have hst3:=hstep2 x hkj
   generalize hws:zs++[u8 x.1]=ws at*
   have hwl:ws.length≤610001:=by rw[←hws,List.length_append,List.length_singleton];omega
   revert X;intro Y K
   refine HM.loop gnm0 fun hg=>⟨fun m e z'=>∃(q:Nat)(ov:V)(tk:Option Nat),q≤8∧(q=0∨nb x.1=true)∧m=8-q∧e=EJ3 ks ov i k j Y q∧Kn s z' [.ob true Y (.c [.i .i64 x.1, .i .i64 x.2] 0 (some 58)), .ac 1 ov ((ws++(List.range q).map (shB x.2)).map bV) tk],
    ⟨8,fg [4,8,9,22,23,24,34,35,36] _,_,WkM.fg hg,0,_,tk,Nat.zero_le _, .inl rfl,rfl,rfl,K.cast (by simp)⟩, ?_⟩
   clear K
   rintro m e z3 ⟨q,ov3,tk3,hq,hq0,rfl,rfl,K⟩
   have hvl:(ws++(List.range q).map (shB x.2)).length≤610009:=by rw[List.length_append,List.length_map,List.length_range];omega
   have hst4:ws++(List.range (q+1)).map (shB x.2)=(ws++(List.range q).map (shB x.2))++[shB x.2 q]:=by rw[List.range_succ];simp
   have hend3:(q=8∧nb x.1=true)∨(q=0∧nb x.1=false)→ws++(List.range q).map (shB x.2)=zs++encI x:=fun h=>by
    rw [←hws]
    rcases h with⟨rfl,h⟩|⟨rfl,h⟩
    ·rw[shB_all,encI,if_pos h];simp[enc8]
    ·rw[encI,if_neg (by simp[h])];simp
   generalize ws++(List.range q).map (shB x.2)=vs at*
   conv =>whnf
   refine kgo ?_;(repeat(first|intro(X:Nat)|intro(z:St)|intro(av:V)|intro(tk:Option Nat)|(intro(K1:Kn _ _ _);(try clear K);rename Kn _ _ _=>K)));conv=>whnf
   by_cases hq8:q<8
   ·rw[show leZ 0 (56-8* (q:Int))=true by rw[leZ_eq];simp;omega]
    conv =>whnf
    refine kgo ?_;(repeat(first|intro(X:Nat)|intro(z:St)|intro(av:V)|intro(tk:Option Nat)|(intro(K1:Kn _ _ _);(try clear K);rename Kn _ _ _=>K)));conv=>whnf
    refine ⟨_,_,nb_den x.1 _, ?_⟩
    conv =>whnf
    refine kgo ?_;(repeat(first|intro(X:Nat)|intro(z:St)|intro(av:V)|intro(tk:Option Nat)|(intro(K1:Kn _ _ _);(try clear K);rename Kn _ _ _=>K)));conv=>whnf
    cases hn:nb x.1<;>conv=>whnf
    ·have hq00:q=0:=hq0.elim id fun h=>by rw[h] at hn;cases hn
     rw [hend3 (.inr ⟨hq00,hn⟩)] at K
     refine kgo ?_;(repeat(first|intro(X:Nat)|intro(z:St)|intro(av:V)|intro(tk:Option Nat)|(intro(K1:Kn _ _ _);(try clear K);rename Kn _ _ _=>K)));conv=>whnf
     intro hg'
     refine ⟨k.length-(j+1),fg [4,22,23,24,34,35,36] _,_,by omega,WkM.fg hg',j+1,ov3,tk3,hlt2,rfl,rfl,(K.drop0 rfl).cast (by rw[hst3])⟩
    ·refine kgo ?_;(repeat(first|intro(X:Nat)|intro(z:St)|intro(av:V)|intro(tk:Option Nat)|(intro(K1:Kn _ _ _);(try clear K);rename Kn _ _ _=>K)));conv=>whnf
     conv =>pattern (binV _ _ _);change binV .shr (.i .i64 x.2) (.i .i64 (56-8* (q:Int)));rw[sh_of hq8]
     conv =>whnf
     refine kgo ?_;(repeat(first|intro(X:Nat)|intro(z:St)|intro(av:V)|intro(tk:Option Nat)|(intro(K1:Kn _ _ _);(try clear K);rename Kn _ _ _=>K)));conv=>whnf
     rw [show wrapF .i64 (56-8* (q:Int)-8)=56-8* ((q+1:Nat):Int) by rw[wI];omega]
     intro hg'
     refine ⟨8-(q+1),fg [4,8,9,22,23,24,34,35,36] _,_,by omega,WkM.fg hg',q+1,av,tk,hq8, .inr rfl,rfl,rfl,K.cast (by rw[hst4];simp[shB,bV_u8])⟩
   ·obtain rfl:q=8:=by omega
    rw [show leZ 0 (56-8* ((8:Nat):Int))=false from rfl]
    conv =>whnf
    rw [hend3 (.inl ⟨rfl,hq0.elim (fun h=>by cases h) id⟩)] at K
    refine kgo ?_;(repeat(first|intro(X:Nat)|intro(z:St)|intro(av:V)|intro(tk:Option Nat)|(intro(K1:Kn _ _ _);(try clear K);rename Kn _ _ _=>K)));conv=>whnf
    intro hg'
    refine ⟨k.length-(j+1),fg [4,22,23,24,34,35,36] _,_,by omega,WkM.fg hg',j+1,ov3,tk3,hlt2,rfl,rfl,(K.drop0 rfl).cast (by rw[hst3])⟩
  ·rw[hend2 hge2] at K
   refine kgo ?_;(repeat(first|intro(X:Nat)|intro(z:St)|intro(av:V)|intro(tk:Option Nat)|(intro(K1:Kn _ _ _);(try clear K);rename Kn _ _ _=>K)));conv=>whnf
   intro hg'
   refine ⟨ks.length-(i+1),fg [4,22,23,24] _,_,by omega,WkM.fg hg',i+1,ov2,tk2,hlt,rfl,rfl,K.cast ?_⟩
   rw [hstep']
 ·rw[hend hge] at K
  refine kgo ?_;(repeat(first|intro(X:Nat)|intro(z:St)|intro(av:V)|intro(tk:Option Nat)|(intro(K1:Kn _ _ _);(try clear K);rename Kn _ _ _=>K)));conv=>whnf
  exact K.fin ht hx (.tu _ (nm2 (bsV_nm _) (.i _ _))) (.tu _ _ (.cons (K.vw .here) (.cons (.refl _) .nil)))
end Go.Proofs.YtlhopiehnaabgaaGreatDoor
