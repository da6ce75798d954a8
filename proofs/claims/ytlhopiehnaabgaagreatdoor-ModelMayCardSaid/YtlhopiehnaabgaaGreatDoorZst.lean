import Derived.Test.YtlhopiehnaabgaaGreatDoorZcl
import Derived.Test.YtlhopiehnaabgaaGreatDoorMmay2
import Derived.Test.YtlhopiehnaabgaaGreatDoorMtx
set_option linter.all false
namespace Go.Proofs.YtlhopiehnaabgaaGreatDoor
open Go Rf
set_option maxRecDepth 100000
set_option maxHeartbeats 4000000
theorem acr_pu {z:St}{sz:Nat}{v:V}{xs:List V}{tk:Option Nat}(h:Acr z sz v xs tk)(hx:xs≠ []):∃c,v= .pu sz xs c:=by
 cases tk with
 | none=>
  rcases h with⟨-,h⟩|h
  ·exact(hx h).elim
  ·exact⟨_,h⟩
 | some k=>exact⟨_,h.1⟩
theorem acr_or {z:St}{sz:Nat}{v:V}{xs:List V}{tk:Option Nat}(h:Acr z sz v xs tk):(v= .ns∧xs=[])∨∃c,v= .pu sz xs c:=by
 cases tk with
 | none=>exact h.imp id fun h=>⟨_,h⟩
 | some k=>exact .inr ⟨_,h.1⟩
theorem clone_r (xs:List Int)(hl:xs.length≤900000)(s:St)(hx:NoX s):Den gt0 Tryz.prog 33 [vsV xs] s (vsV xs) s:=by
 have hlx:(xs.map iV).length=xs.length:=List.length_map ..
 cases xs with
 | nil=>
  refine Den.empty1 (Den.tidy fun ht=>Den.hm gnm0 hF33 ?_) (Den.tidy fun ht=>Den.hm gnm0 hF33 ?_)
  ·have K:=Kn.init ht.1 hx
   conv =>whnf
   refine kgo ?_;(repeat(first|intro(X:Nat)|intro(z:St)|intro(av:V)|intro(tk:Option Nat)|(intro(K1:Kn _ _ _);(try clear K);rename Kn _ _ _=>K)));conv=>whnf
   exact K.fin ht hx (vsV_nm _) (.one (.ns 1))
  ·have K:=Kn.init ht.1 hx
   conv =>whnf
   refine kgo ?_;(repeat(first|intro(X:Nat)|intro(z:St)|intro(av:V)|intro(tk:Option Nat)|(intro(K1:Kn _ _ _);(try clear K);rename Kn _ _ _=>K)));conv=>whnf
   refine HO.opA (v:= .pu 1 [] (.x 0)) (s1:=s) rfl ?_
   conv =>whnf
   refine kgo ?_;(repeat(first|intro(X:Nat)|intro(z:St)|intro(av:V)|intro(tk:Option Nat)|(intro(K1:Kn _ _ _);(try clear K);rename Kn _ _ _=>K)));conv=>whnf
   refine ⟨.pu 1 [] (.x 0),s,rfl, ?_⟩
   conv =>whnf
   refine kgo ?_;(repeat(first|intro(X:Nat)|intro(z:St)|intro(av:V)|intro(tk:Option Nat)|(intro(K1:Kn _ _ _);(try clear K);rename Kn _ _ _=>K)));conv=>whnf
   exact K.fin ht hx (vsV_nm _) (.one (.pu _ _ _))
 | cons x r=>
  have hr:r.length≤899999:=by simp only[List.length_cons] at hl;omega
  refine Den.tidy fun ht=>Den.hm gnm0 hF33 ?_
  have K:=Kn.init ht.1 hx
  conv =>whnf
  refine kgo ?_;(repeat(first|intro(X:Nat)|intro(z:St)|intro(av:V)|intro(tk:Option Nat)|(intro(K1:Kn _ _ _);(try clear K);rename Kn _ _ _=>K)));conv=>whnf
  refine HO.opA (v:= .pu 1 [] (.x 0)) (s1:=s) rfl ?_
  conv =>whnf
  refine kgo ?_;(repeat(first|intro(X:Nat)|intro(z:St)|intro(av:V)|intro(tk:Option Nat)|(intro(K1:Kn _ _ _);(try clear K);rename Kn _ _ _=>K)));conv=>whnf
  obtain ⟨c,rfl⟩:=acr_pu (K.at .here).1 (by simp)
  conv =>whnf
  exact K.fin ht hx (vsV_nm _) (.one (.pu _ _ _))
def startL (ps:List Pr)(p:Int):List Int:=if 1≤p∧p≤(ps.length:Nat) then(ps.getD (p.toNat-1) ((0,[]),[],0)).2.1 else []
def staV (vs:List Int):V:= .ag [vsV vs, .i .i64 0, .i .i64 0]
theorem staV_nm {L:Nat→Prop}(vs:List Int):Nm L (staV vs):= .ag _ (fun v hv=>by
 simp at hv
 rcases hv with rfl|rfl
 ·exact vsV_nm _
 ·exact .i _ _)
theorem start_den (ps:List Pr)(fs:List Ev)(p:Int)(hp:i64 p)(hl:ps.length≤900000)(hv:∀q∈ps,q.2.1.length≤900000)(s:St)(hx:NoX s):Den gt0 Tryz.prog 15 [mV ps fs, .i .i64 p] s (staV (startL ps p)) s:=by
 have hlp:(ps.map prV).length=ps.length:=List.length_map ..
 refine Den.tidy fun ht=>Den.hm gnm0 hF15 ?_
 have K:=Kn.init ht.1 hx
 conv =>whnf
 refine kgo ?_;(repeat(first|intro(X:Nat)|intro(z:St)|intro(av:V)|intro(tk:Option Nat)|(intro(K1:Kn _ _ _);(try clear K);rename Kn _ _ _=>K)));conv=>whnf
 cases h1:ltZ p 1<;>conv=>whnf
 rotate_left
 ·refine kgo ?_;(repeat(first|intro(X:Nat)|intro(z:St)|intro(av:V)|intro(tk:Option Nat)|(intro(K1:Kn _ _ _);(try clear K);rename Kn _ _ _=>K)));conv=>whnf
  have hs:startL ps p=[]:=if_neg fun h=>by rw[ltZ_eq] at h1;simp at h1;omega
  rw [hs]
  exact K.ret [.ag [.ns, .i .i64 0, .i .i64 0]] ht hx (staV_nm _) (.ag _ _ (.cons (.ns 1) (.cons (.refl _) (.cons (.refl _) .nil))))
 have h1':1≤p:=by rw[ltZ_eq] at h1;simp at h1;omega
 refine kgo ?_;(repeat(first|intro(X:Nat)|intro(z:St)|intro(av:V)|intro(tk:Option Nat)|(intro(K1:Kn _ _ _);(try clear K);rename Kn _ _ _=>K)));conv=>whnf
 rw [hlp]
 cases h2:ltZ ((ps.length:Nat):Int) p<;>conv=>whnf
 rotate_left
 ·refine kgo ?_;(repeat(first|intro(X:Nat)|intro(z:St)|intro(av:V)|intro(tk:Option Nat)|(intro(K1:Kn _ _ _);(try clear K);rename Kn _ _ _=>K)));conv=>whnf
  have hs:startL ps p=[]:=if_neg fun h=>by rw[ltZ_eq] at h2;simp at h2;omega
  rw [hs]
  exact K.ret [.ag [.ns, .i .i64 0, .i .i64 0]] ht hx (staV_nm _) (.ag _ _ (.cons (.ns 1) (.cons (.refl _) (.cons (.refl _) .nil))))
 have h2':p≤(ps.length:Nat):=by rw[ltZ_eq] at h2;simp at h2;omega
 obtain ⟨j,rfl⟩:∃j:Nat,p=(j:Nat)+1:=⟨(p-1).toNat,by omega⟩
 have hpj:ps[j]? =some ps[j]:=List.getElem?_eq_getElem (by omega)
 generalize ps[j]=q at hpj
 have hs:startL ps ((j:Nat)+1)=q.2.1:=by
  unfold startL
  rw [if_pos ⟨h1',h2'⟩,show(((j:Nat):Int)+1).toNat-1=j by omega,List.getD_eq_getElem?_getD,hpj];rfl
 rw [hs]
 have hq:=hv q (List.mem_of_getElem? hpj)
 refine kgo ?_;(repeat(first|intro(X:Nat)|intro(z:St)|intro(av:V)|intro(tk:Option Nat)|(intro(K1:Kn _ _ _);(try clear K);rename Kn _ _ _=>K)));conv=>whnf
 rw [show wrapF .i64 ((j:Int)+1-1)=(j:Nat) by rw[wI];omega]
 conv =>whnf
 refine kgo ?_;(repeat(first|intro(X:Nat)|intro(z:St)|intro(av:V)|intro(tk:Option Nat)|(intro(K1:Kn _ _ _);(try clear K);rename Kn _ _ _=>K)));conv=>whnf
 refine ⟨rfl,Int.natCast_nonneg _,_,by rw[Int.toNat_natCast];exact get_map hpj, ?_⟩
 conv =>whnf
 refine kgo ?_;(repeat(first|intro(X:Nat)|intro(z:St)|intro(av:V)|intro(tk:Option Nat)|(intro(K1:Kn _ _ _);(try clear K);rename Kn _ _ _=>K)));conv=>whnf
 refine ⟨_,_,clone_r q.2.1 hq _ K.x, ?_⟩
 conv =>whnf
 refine kgo ?_;(repeat(first|intro(X:Nat)|intro(z:St)|intro(av:V)|intro(tk:Option Nat)|(intro(K1:Kn _ _ _);(try clear K);rename Kn _ _ _=>K)));conv=>whnf
 exact K.ret [staV q.2.1] ht hx (staV_nm _) (.refl _)
theorem rstart_den (ps:List Pr)(fs:List Ev)(p:Int)(hp:i64 p)(hl:ps.length≤900000)(hv:∀q∈ps,q.2.1.length≤900000)(s:St)(hx:NoX s):Den gt0 Tryz.prog 16 [mV ps fs, .i .i64 p] s (staV (startL ps p)) s:=by
 have hlp:(ps.map prV).length=ps.length:=List.length_map ..
 refine Den.tidy fun ht=>Den.hm gnm0 hF16 ?_
 have K:=Kn.init ht.1 hx
 conv =>whnf
 refine kgo ?_;(repeat(first|intro(X:Nat)|intro(z:St)|intro(av:V)|intro(tk:Option Nat)|(intro(K1:Kn _ _ _);(try clear K);rename Kn _ _ _=>K)));conv=>whnf
 cases h1:ltZ p 1<;>conv=>whnf
 rotate_left
 ·refine kgo ?_;(repeat(first|intro(X:Nat)|intro(z:St)|intro(av:V)|intro(tk:Option Nat)|(intro(K1:Kn _ _ _);(try clear K);rename Kn _ _ _=>K)));conv=>whnf
  have hs:startL ps p=[]:=if_neg fun h=>by rw[ltZ_eq] at h1;simp at h1;omega
  rw [hs]
  exact K.ret [.ag [.ns, .i .i64 0, .i .i64 0]] ht hx (staV_nm _) (.ag _ _ (.cons (.ns 1) (.cons (.refl _) (.cons (.refl _) .nil))))
 have h1':1≤p:=by rw[ltZ_eq] at h1;simp at h1;omega
 refine kgo ?_;(repeat(first|intro(X:Nat)|intro(z:St)|intro(av:V)|intro(tk:Option Nat)|(intro(K1:Kn _ _ _);(try clear K);rename Kn _ _ _=>K)));conv=>whnf
 rw [hlp]
 cases h2:ltZ ((ps.length:Nat):Int) p<;>conv=>whnf
 rotate_left
 ·refine kgo ?_;(repeat(first|intro(X:Nat)|intro(z:St)|intro(av:V)|intro(tk:Option Nat)|(intro(K1:Kn _ _ _);(try clear K);rename Kn _ _ _=>K)));conv=>whnf
  have hs:startL ps p=[]:=if_neg fun h=>by rw[ltZ_eq] at h2;simp at h2;omega
  rw [hs]
  exact K.ret [.ag [.ns, .i .i64 0, .i .i64 0]] ht hx (staV_nm _) (.ag _ _ (.cons (.ns 1) (.cons (.refl _) (.cons (.refl _) .nil))))
 have h2':p≤(ps.length:Nat):=by rw[ltZ_eq] at h2;simp at h2;omega
 obtain ⟨j,rfl⟩:∃j:Nat,p=(j:Nat)+1:=⟨(p-1).toNat,by omega⟩
 have hpj:ps[j]? =some ps[j]:=List.getElem?_eq_getElem (by omega)
 generalize ps[j]=q at hpj
 have hs:startL ps ((j:Nat)+1)=q.2.1:=by
  unfold startL
  rw [if_pos ⟨h1',h2'⟩,show(((j:Nat):Int)+1).toNat-1=j by omega,List.getD_eq_getElem?_getD,hpj];rfl
 rw [hs]
 have hq:=hv q (List.mem_of_getElem? hpj)
 refine kgo ?_;(repeat(first|intro(X:Nat)|intro(z:St)|intro(av:V)|intro(tk:Option Nat)|(intro(K1:Kn _ _ _);(try clear K);rename Kn _ _ _=>K)));conv=>whnf
 rw [show wrapF .i64 ((j:Int)+1-1)=(j:Nat) by rw[wI];omega]
 conv =>whnf
 refine kgo ?_;(repeat(first|intro(X:Nat)|intro(z:St)|intro(av:V)|intro(tk:Option Nat)|(intro(K1:Kn _ _ _);(try clear K);rename Kn _ _ _=>K)));conv=>whnf
 refine ⟨rfl,Int.natCast_nonneg _,_,by rw[Int.toNat_natCast];exact get_map hpj, ?_⟩
 conv =>whnf
 refine kgo ?_;(repeat(first|intro(X:Nat)|intro(z:St)|intro(av:V)|intro(tk:Option Nat)|(intro(K1:Kn _ _ _);(try clear K);rename Kn _ _ _=>K)));conv=>whnf
 rcases acr_or (K.at .here).1 with⟨rfl,he⟩|⟨c,rfl⟩
 ·conv=>whnf
  refine kgo ?_;(repeat(first|intro(X:Nat)|intro(z:St)|intro(av:V)|intro(tk:Option Nat)|(intro(K1:Kn _ _ _);(try clear K);rename Kn _ _ _=>K)));conv=>whnf
  refine K.ret [.ag [.ns, .i .i64 0, .i .i64 0]] ht hx (staV_nm _) ?_
  rw [staV,vsV,he]
  exact .ag _ _ (.cons (.ns 1) (.cons (.refl _) (.cons (.refl _) .nil)))
 ·conv=>whnf
  refine kgo ?_;(repeat(first|intro(X:Nat)|intro(z:St)|intro(av:V)|intro(tk:Option Nat)|(intro(K1:Kn _ _ _);(try clear K);rename Kn _ _ _=>K)));conv=>whnf
  exact K.ret [.ag [.pu 1 (q.2.1.map iV) c, .i .i64 0, .i .i64 0]] ht hx (staV_nm _) (.ag _ _ (.cons (.pu _ _ _) (.cons (.refl _) (.cons (.refl _) .nil))))
theorem rsst_den (x y:List Int)(hl:x.length≤maxLen)(s:St)(hx:NoX s):Den gt0 Tryz.prog 14 [staV x,staV y] s (.b (decide (x=y))) s:=by
 refine Den.tidy fun ht=>Den.hm gnm0 hF14 ?_
 have K:=Kn.init ht.1 hx
 conv =>whnf
 refine kgo ?_;(repeat(first|intro(X:Nat)|intro(z:St)|intro(av:V)|intro(tk:Option Nat)|(intro(K1:Kn _ _ _);(try clear K);rename Kn _ _ _=>K)));conv=>whnf
 refine ⟨_,_,same14_den x y hl _, ?_⟩
 conv =>whnf
 refine kgo ?_;(repeat(first|intro(X:Nat)|intro(z:St)|intro(av:V)|intro(tk:Option Nat)|(intro(K1:Kn _ _ _);(try clear K);rename Kn _ _ _=>K)));conv=>whnf
 exact K.fin ht hx (.b _) (.refl _)
end Go.Proofs.YtlhopiehnaabgaaGreatDoor
