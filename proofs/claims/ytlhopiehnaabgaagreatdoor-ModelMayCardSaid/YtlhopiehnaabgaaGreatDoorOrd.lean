import Derived.Test.YtlhopiehnaabgaaGreatDoorByt
import Derived.Test.YtlhopiehnaabgaaGreatDoorLE
import Derived.Test.YtlhopiehnaabgaaGreatDoorOfB
set_option linter.all false
namespace Go.Proofs.YtlhopiehnaabgaaGreatDoor
open Go Rf
set_option maxRecDepth 100000
set_option maxHeartbeats 2000000
theorem u8_nat (x:UInt8):u8 ((x.toNat:Nat):Int)=x:=by
 have h:=x.toNat_lt
 apply UInt8.toNat.inj
 rw [u8,UInt8.toNat_ofNat']
 omega
theorem take1 {bs:List UInt8}{a:Nat}{x:UInt8}(h:bs[a]? =some x):bs.take (a+1)=bs.take a++[x]:=by rw[List.take_add_one,h];rfl
theorem insP_enc {bs:List UInt8}{a c:Nat}{x:Int×Int}(h:insP bs a=some (x,c)):bs.take c=bs.take a++encI x:=by
 unfold insP at h
 split at h
 ·cases h
 ·rename_i o ho
  split at h
  ·rename_i hnb
   split at h
   ·rename_i h9
    cases h
    have e1:(numb ((bs.drop (a+1)).take 8) % 18446744073709551616).toNat=numU ((bs.drop (a+1)).take 8):=by
     have :=numb_u ((bs.drop (a+1)).take 8)
     rw [wU] at this
     rw [this];rfl
    have hlen:((bs.drop (a+1)).take 8).length=8:=by rw[List.length_take,List.length_drop];omega
    simp only[encI,hnb,if_true,u8_nat,e1,be8_numU hlen]
    rw [show a+9=a+1+8 by omega,List.take_add,take1 ho]
    simp
   ·cases h
  ·rename_i hnb
   cases h
   simp only[encI,if_neg hnb,u8_nat]
   exact take1 ho
theorem kdI_enc {bs:List UInt8}{a:Nat}:∀(i:Nat){k:Kd}{c:Nat},kdI bs a i=some (k,c)→bs.take c=bs.take a++k.flatMap encI
 | 0,k,c,h=>by cases h;simp
 | i+1,k,c,h=>by
  simp only[kdI] at h
  split at h
  ·cases h
  ·rename_i k0 b h0
   split at h
   ·cases h
   ·rename_i x c0 h1
    cases h
    rw [insP_enc h1,kdI_enc i h0]
    simp
theorem kdI_len {bs:List UInt8}{a:Nat}:∀(i:Nat){k:Kd}{c:Nat},kdI bs a i=some (k,c)→k.length=i
 | 0,k,c,h=>by cases h;rfl
 | i+1,k,c,h=>by
  simp only[kdI] at h
  split at h
  ·cases h
  ·rename_i k0 b h0
   split at h
   ·cases h
   ·cases h
    simp [kdI_len i h0]
theorem kindP_enc {bs:List UInt8}{a c:Nat}{k:Kd}(h:kindP bs a=some (k,c)):bs.take c=bs.take a++encK k:=by
 unfold kindP at h
 split at h
 ·cases h
 ·rename_i m hm
  rw [kdI_enc _ h,take1 hm,encK,kdI_len _ h,u8_nat]
  simp
theorem ksI_enc {bs:List UInt8}:∀(i:Nat){ks:List Kd}{c:Nat},ksI bs i=some (ks,c)→bs.take c=bs.take 2++ks.flatMap encK
 | 0,ks,c,h=>by cases h;simp
 | i+1,ks,c,h=>by
  simp only[ksI] at h
  split at h
  ·cases h
  ·rename_i k0 b h0
   split at h
   ·cases h
   ·rename_i k c0 h1
    cases h
    rw [kindP_enc h1,ksI_enc i h0]
    simp
theorem progP_enc {bs:List UInt8}{v:Int}{ks:List Kd}{a:Nat}(h:progP bs=some (v,ks,a)):encP v ks=bs.take a:=by
 unfold progP at h
 split at h
 ·rename_i v0 n h0 h1
  split at h
  ·cases h
  ·rename_i ks' a' hk
   cases h
   have hb:=(List.getElem?_eq_some_iff.1 h1).1
   obtain ⟨-,hl,-⟩:=ksI_le (by omega) _ hk
   rw [ksI_enc _ hk,show(2:Nat)=0+1+1 from rfl,take1 (a:=0+1) h1,take1 h0,encP,hl,u8_nat,u8_nat]
   simp
 ·cases h
theorem ofB_enc {bs:List UInt8}{v:Int}{ks:List Kd}{a:Nat}(h:ofB bs=some (v,ks,a)):encP v ks=bs.take a∧a≤bs.length∧ks.length≤255∧∀k∈ks,k.length≤255:=by
 unfold ofB at h
 split at h
 ·rename_i hp
  split at h
  ·cases h
   exact ⟨progP_enc hp,progP_le hp⟩
  ·cases h
 ·cases h
end Go.Proofs.YtlhopiehnaabgaaGreatDoor
set_option linter.all false
namespace Go.Proofs.YtlhopiehnaabgaaGreatDoor
open Go Rf
set_option maxRecDepth 100000
set_option maxHeartbeats 2000000
theorem evV_nml (e:Ev):Nml (evV e):= .ag (nmlc (.i _ _) (nmlc (.i _ _) (nmlc (.i _ _) (nmlc (.i _ _) (nmlc (.i _ _) (nmlc (.i _ _) nml0))))))
def wi (a b c:Int):Bool:=decide (b≤a)&&decide (a≤c)
def mayE (e:Ev)(n:Int):Bool:=wi e.1 0 1099511627776&&(wi e.2.1 0 17&&(wi e.2.2.1 0 4611686018427387904&&(wi e.2.2.2.1 1 n&&wi e.2.2.2.2.1 0 7)))
theorem wi64_den (a b c:Int):PDen gt0 Tryz.prog 67 [.i .i64 a, .i .i64 b, .i .i64 c] (.b (wi a b c)):=by
 generalize hB:wi a b c=B
 refine PDen.hc gnm0 hF67 (nm3 (.i _ _) (.i _ _) (.i _ _)) (.b _) ?_
 conv =>whnf
 repeat' (first|refine sgw ?_|(refine brB_iff.2 ⟨fun hc=> ?_,fun hc=> ?_⟩<;>conv=>whnf))
 all_goals
  subst hB
  simp only[leZ_eq,decide_eq_true_eq,decide_eq_false_iff_not] at*
  simp_all [wi]
  try omega
theorem wi_den (a b c:Int):PDen gt0 Tryz.prog 68 [.i .i64 a, .i .i64 b, .i .i64 c] (.b (wi a b c)):=by
 generalize hB:wi a b c=B
 refine PDen.hc gnm0 hF68 (nm3 (.i _ _) (.i _ _) (.i _ _)) (.b _) ?_
 conv =>whnf
 repeat' (first|refine sgw ?_|(refine brB_iff.2 ⟨fun hc=> ?_,fun hc=> ?_⟩<;>conv=>whnf))
 all_goals
  subst hB
  simp only[leZ_eq,decide_eq_true_eq,decide_eq_false_iff_not] at*
  simp_all [wi]
  try omega
theorem mayE_den (e:Ev)(n:Int):PDen gt0 Tryz.prog 40 [evV e, .i .i64 n] (.b (mayE e n)):=by
 obtain ⟨t,o,q,to,kd,d⟩:=e
 generalize hB:mayE ⟨t,o,q,to,kd,d⟩ n=B
 refine PDen.hc gnm0 hF40 (nm2 (evV_nml _ _) (.i _ _)) (.b _) ?_
 conv =>whnf
 refine sgq ?_
 refine ⟨_,_,wi64_den _ _ _ _, ?_⟩
 cases h1:wi t 0 1099511627776<;>conv=>whnf
 ·refine sgo ?_
  subst hB;simp[mayE,h1]
 refine sgo ?_
 refine ⟨_,_,wi_den _ _ _ _, ?_⟩
 cases h2:wi o 0 17<;>conv=>whnf
 ·refine sgo ?_
  subst hB;simp[mayE,h2]
 refine sgo ?_
 refine ⟨_,_,wi64_den _ _ _ _, ?_⟩
 cases h3:wi q 0 4611686018427387904<;>conv=>whnf
 ·refine sgo ?_
  subst hB;simp[mayE,h3]
 refine sgo ?_
 refine ⟨_,_,wi_den _ _ _ _, ?_⟩
 cases h4:wi to 1 n<;>conv=>whnf
 ·refine sgo ?_
  subst hB;simp[mayE,h4]
 refine sgo ?_
 refine ⟨_,_,wi_den _ _ _ _, ?_⟩
 cases h5:wi kd 0 7<;>conv=>whnf
 ·refine sgo ?_
  subst hB;simp[mayE,h5]
 refine sgo ?_
 subst hB;simp[mayE,h1,h2,h3,h4,h5]
theorem rmayE_den (e:Ev)(n:Int):PDen gt0 Tryz.prog 21 [evV e, .i .i64 n] (.b (mayE e n)):=by
 obtain ⟨t,o,q,to,kd,d⟩:=e
 generalize hB:mayE ⟨t,o,q,to,kd,d⟩ n=B
 refine PDen.hc gnm0 hF21 (nm2 (evV_nml _ _) (.i _ _)) (.b _) ?_
 conv =>whnf
 repeat ((first|refine HO.opA (krun_box nthx (by rfl)) ?_|refine HC.seq ?_|refine HC.ops ?_|refine HO.k ?_|refine HO.nil ?_);conv=>whnf)
 repeat' (first|refine sgw ?_|(refine brB_iff.2 ⟨fun hc=> ?_,fun hc=> ?_⟩<;>conv=>whnf))
 all_goals
  cases hq:ltZ kd 8<;>cases B
 all_goals first
  | rfl
  | (simp only[hq];rfl)
  | (rw[hq];rfl)
  | (exfalso;simp only[leZ_eq,ltZ_eq,mayE,wi,Bool.and_eq_true,Bool.and_eq_false_iff,decide_eq_true_eq,decide_eq_false_iff_not] at*;omega)
end Go.Proofs.YtlhopiehnaabgaaGreatDoor
