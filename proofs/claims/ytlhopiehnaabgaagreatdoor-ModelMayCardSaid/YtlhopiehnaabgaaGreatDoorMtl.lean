import Derived.Test.YtlhopiehnaabgaaGreatDoorCodeN
import Derived.Test.YtlhopiehnaabgaaGreatDoorLE
set_option linter.all false
namespace Go.Proofs.YtlhopiehnaabgaaGreatDoor
open Go Rf
set_option maxRecDepth 100000
set_option maxHeartbeats 4000000
theorem lays219_221:Lays.n219 Tryz.prog Tryz.lays221_ren:={lays143_221 with}
theorem six_d {l:List UInt8}{c:UInt8}:PDen gt1 Tryz.prog 76 [.s l, .s [c]] (.i .i64 (Lib.indexByte l c)):=sindex1_pden lays219_221
theorem trims_d {l p:List UInt8}(hl:l.length≤281474976710656):PDen gt1 Tryz.prog 26 [.s l, .s p] (.s (Lib.trimSuffix l p)):=trimSuffix_pden Tryz.lays102 hl
theorem hG24:cF gt1 Tryz.prog (wfa 24) 24=some f24:=by kernel_rfl
theorem hG25:cF gt1 Tryz.prog (wfa 25) 25=some f25:=by kernel_rfl
theorem hG51:cF gt1 Tryz.prog (wfa 51) 51=some f51:=by kernel_rfl
theorem hG27:cF gt1 Tryz.prog (wfa 27) 27=some f27:=by kernel_rfl
theorem hG36:cF gt1 Tryz.prog (wfa 36) 36=some f36:=by kernel_rfl
theorem splita_d {l:List UInt8}{c:UInt8}(hl:l.length<4294967281)(s:St)(hx:NoX s):Den gt1 Tryz.prog 24 [.s l, .s [c]] s (.pu 1 ((pieces l c 1).map .s) .u) s:=by
 refine Den.tidy fun ht=>Den.hm gnm1 hG24 ?_
 have K:=Kn.init ht.1 hx
 conv =>whnf
 refine kgo ?_;(repeat(first|intro(X:Nat)|intro(z:St)|intro(av:V)|intro(tk:Option Nat)|(intro(K1:Kn _ _ _);(try clear K);rename Kn _ _ _=>K)));conv=>whnf
 refine ⟨_,_,gsplit_d (sv:=1) (by decide) hl _, ?_⟩
 conv =>whnf
 refine kgo ?_;(repeat(first|intro(X:Nat)|intro(z:St)|intro(av:V)|intro(tk:Option Nat)|(intro(K1:Kn _ _ _);(try clear K);rename Kn _ _ _=>K)));conv=>whnf
 exact K.fin ht hx (.pu _ _ _ (ss_nm _) (fun k hk=>by cases hk)) (.refl _)
theorem cutm_d {l:List UInt8}(h:32∉l)(s:St)(hx:NoX s):Den gt1 Tryz.prog 51 [.s l, .s [32]] s (.tu [.s l, .s [], .b false]) s:=by
 refine Den.tidy fun ht=>Den.hm gnm1 hG51 ?_
 have K:=Kn.init ht.1 hx
 conv =>whnf
 refine kgo ?_;(repeat(first|intro(X:Nat)|intro(z:St)|intro(av:V)|intro(tk:Option Nat)|(intro(K1:Kn _ _ _);(try clear K);rename Kn _ _ _=>K)));conv=>whnf
 refine ⟨_,_,six_d _, ?_⟩
 rw [idx_none h]
 conv =>whnf
 refine kgo ?_;(repeat(first|intro(X:Nat)|intro(z:St)|intro(av:V)|intro(tk:Option Nat)|(intro(K1:Kn _ _ _);(try clear K);rename Kn _ _ _=>K)));conv=>whnf
 exact K.fin ht hx (.tu _ (nm3 (.s _) (.s _) (.b _))) (.refl _)
theorem aop_slSt {e:List V}{s:St}{x y:Arg}{l:List UInt8}{b:Nat}(hx:x.ev e= .s l)(hy:y.ev e= .i .i64 ((b:Nat):Int))(hb:b≤l.length):aop e s (.slS x none (some y))=some (.s (l.take b),s):=by
 simp only[aop,hx,Option.map_some,Option.map_none,hy]
 delta slb
 simp [bnd_nat hb]
theorem aop_slSd {e:List V}{s:St}{x y:Arg}{l:List UInt8}{a:Nat}(hx:x.ev e= .s l)(hy:y.ev e= .i .i64 ((a:Nat):Int))(ha:a≤l.length):aop e s (.slS x (some y) none)=some (.s (l.drop a),s):=by
 simp only[aop,hx,Option.map_some,Option.map_none,hy]
 delta slb
 simp [bnd_nat ha]
theorem cuth_d {a r:List UInt8}(h:32∉a)(hl:(a++32::r).length≤900000)(s:St)(hx:NoX s):Den gt1 Tryz.prog 51 [.s (a++32::r), .s [32]] s (.tu [.s a, .s r, .b true]) s:=by
 refine Den.tidy fun ht=>Den.hm gnm1 hG51 ?_
 have K:=Kn.init ht.1 hx
 have hl':a.length+1+r.length≤900000:=by simp at hl;omega
 conv =>whnf
 refine kgo ?_;(repeat(first|intro(X:Nat)|intro(z:St)|intro(av:V)|intro(tk:Option Nat)|(intro(K1:Kn _ _ _);(try clear K);rename Kn _ _ _=>K)));conv=>whnf
 refine ⟨_,_,six_d _, ?_⟩
 rw [idx_app r h]
 conv =>whnf
 refine kgo ?_;(repeat(first|intro(X:Nat)|intro(z:St)|intro(av:V)|intro(tk:Option Nat)|(intro(K1:Kn _ _ _);(try clear K);rename Kn _ _ _=>K)));conv=>whnf
 refine ⟨_,_,aop_slSt (b:=a.length) rfl rfl (by simp), ?_⟩
 rw [List.take_left' rfl]
 conv =>whnf
 refine kgo ?_;(repeat(first|intro(X:Nat)|intro(z:St)|intro(av:V)|intro(tk:Option Nat)|(intro(K1:Kn _ _ _);(try clear K);rename Kn _ _ _=>K)));conv=>whnf
 rw [show wrapF .i64 (((a.length:Nat):Int)+((([32]:List UInt8).length:Nat):Int))=((a.length+1:Nat):Int) by rw[wI,List.length_singleton];omega]
 refine ⟨_,_,aop_slSd (a:=a.length+1) rfl rfl (by simp), ?_⟩
 rw [show(a++32::r).drop (a.length+1)=r by rw[show a++32::r=(a++[32])++r by simp,List.drop_left' (by simp)]]
 conv =>whnf
 refine kgo ?_;(repeat(first|intro(X:Nat)|intro(z:St)|intro(av:V)|intro(tk:Option Nat)|(intro(K1:Kn _ _ _);(try clear K);rename Kn _ _ _=>K)));conv=>whnf
 exact K.fin ht hx (.tu _ (nm3 (.s _) (.s _) (.b _))) (.refl _)
def cutV (l:List UInt8):V:= .tu (match Lib.indexByte l 32 with
 | .ofNat n=>[.s (l.take n), .s (l.drop (n+1)), .b true]
 | .negSucc _=>[.s l, .s [], .b false])
theorem cut_d {l:List UInt8}(hl:l.length≤900000)(s:St)(hx:NoX s):Den gt1 Tryz.prog 25 [.s l, .s [32]] s (cutV l) s:=by
 have hin:Den gt1 Tryz.prog 51 [.s l, .s [32]] s (cutV l) s∧∃a b c,cutV l= .tu [.s a, .s b, .b c]:=by
  unfold cutV
  rcases cases_c 32 l with h|⟨a,r,rfl,h⟩
  ·rw[idx_none h]
   exact ⟨cutm_d h s hx,_,_,_,rfl⟩
  ·rw[idx_app r h]
   show Den gt1 Tryz.prog 51 _ s (.tu [.s ((a++32::r).take a.length), .s ((a++32::r).drop (a.length+1)), .b true]) s∧_
   refine ⟨?_,_,_,_,rfl⟩
   rw [List.take_left' rfl,show(a++32::r).drop (a.length+1)=r by rw[show a++32::r=(a++[32])++r by simp,List.drop_left' (by simp)]]
   exact cuth_d h hl s hx
 obtain ⟨hin,a,b,c,he⟩:=hin
 rw [he] at hin ⊢
 refine Den.tidy fun ht=>Den.hm gnm1 hG25 ?_
 have K:=Kn.init ht.1 hx
 conv =>whnf
 refine kgo ?_;(repeat(first|intro(X:Nat)|intro(z:St)|intro(av:V)|intro(tk:Option Nat)|(intro(K1:Kn _ _ _);(try clear K);rename Kn _ _ _=>K)));conv=>whnf
 refine ⟨_,_,hin, ?_⟩
 conv =>whnf
 refine kgo ?_;(repeat(first|intro(X:Nat)|intro(z:St)|intro(av:V)|intro(tk:Option Nat)|(intro(K1:Kn _ _ _);(try clear K);rename Kn _ _ _=>K)));conv=>whnf
 exact K.fin ht hx (.tu _ (nm3 (.s _) (.s _) (.b _))) (.refl _)
def numsL (l:List UInt8):List Int:=(cutL 32 l).tail.map parseV
def EN1 (l:List UInt8)(ws:List (List UInt8))(ov:V)(i:Nat):List V:=(.bad:: .bad::ov:: .bad:: .bad:: .bad:: .bad:: .bad:: .bad:: .pu 1 (ws.map V.s) .u:: .i .i64 (ws.length:Nat):: .i .i64 (i:Nat)::List.replicate 14 .bad)
theorem nums_d {l:List UInt8}(hl:l.length≤900000)(s:St)(hx:NoX s):Den gt1 Tryz.prog 27 [.s l] s (.pu 1 ((numsL l).map iV) .u) s:=by
 refine Den.tidy fun ht=>Den.hm gnm1 hG27 ?_
 have K:=Kn.init ht.1 hx
 have hsp:=split_d (c:=32) (l:=l) (by omega) s hx
 rw [pieces_cut] at hsp
 have hlen:=cutL_len 32 l
 have hel:=cutL_el 32 l
 have hne:=cutL_ne 32 l
 conv =>whnf
 refine kgo ?_;(repeat(first|intro(X:Nat)|intro(z:St)|intro(av:V)|intro(tk:Option Nat)|(intro(K1:Kn _ _ _);(try clear K);rename Kn _ _ _=>K)));conv=>whnf
 refine ⟨_,_,hsp, ?_⟩
 unfold numsL
 generalize cutL 32 l=ls at hlen hel hne
 cases ls with
 | nil=>exact(hne rfl).elim
 | cons w0 ws=>
  simp only[List.tail_cons,List.length_cons] at hlen ⊢
  have hll:(ws.map V.s).length=ws.length:=List.length_map ..
  conv =>whnf
  refine kgo ?_;(repeat(first|intro(X:Nat)|intro(z:St)|intro(av:V)|intro(tk:Option Nat)|(intro(K1:Kn _ _ _);(try clear K);rename Kn _ _ _=>K)));conv=>whnf
  refine kxslc (xs:=(w0::ws).map V.s) 1 ((w0::ws).map V.s).length ?_ (by simp) (Nat.le_refl _)
  rw [show(((w0::ws).map V.s).take ((w0::ws).map V.s).length).drop 1=ws.map V.s by rw[List.take_length];rfl]
  conv =>whnf
  refine kgo ?_;(repeat(first|intro(X:Nat)|intro(z:St)|intro(av:V)|intro(tk:Option Nat)|(intro(K1:Kn _ _ _);(try clear K);rename Kn _ _ _=>K)));conv=>whnf
  rw [hll]
  refine HM.loop gnm1 fun hg=>⟨fun m e z'=>∃(i:Nat)(ov:V)(tk:Option Nat),i≤ws.length∧m=ws.length-i∧e=EN1 l ws ov i∧Kn s z' [.ac 1 ov ((ws.take i).map fun w=>iV (parseV w)) tk],
   ⟨ws.length,fg [2,9,10,11] _,_,WkM.fg hg,0,_,none,Nat.zero_le _,rfl,rfl,K.acc0 1⟩, ?_⟩
  clear K
  rintro m e z1 ⟨i,ov,tk,hi,rfl,rfl,K⟩
  conv =>whnf
  refine kgo ?_;(repeat(first|intro(X:Nat)|intro(z:St)|intro(av:V)|intro(tk:Option Nat)|(intro(K1:Kn _ _ _);(try clear K);rename Kn _ _ _=>K)));conv=>whnf
  refine brL ⟨fun hlt=> ?_,fun hge=> ?_⟩<;>conv=>whnf
  ·have hwi:ws[i]? =some ws[i]:=List.getElem?_eq_getElem hlt
   have hwl:=hel ws[i] (List.mem_cons_of_mem _ (List.getElem_mem ..))
   have htk:((ws.take i).map fun w=>iV (parseV w)).length≤900001:=by rw[List.length_map,List.length_take];omega
   generalize ws[i]=w at hwi hwl
   refine kgo ?_;(repeat(first|intro(X:Nat)|intro(z:St)|intro(av:V)|intro(tk:Option Nat)|(intro(K1:Kn _ _ _);(try clear K);rename Kn _ _ _=>K)));conv=>whnf
   refine ⟨_,_,parse_d (l:=w) (by omega) _, ?_⟩
   conv =>whnf
   refine kgo ?_;(repeat(first|intro(X:Nat)|intro(z:St)|intro(av:V)|intro(tk:Option Nat)|(intro(K1:Kn _ _ _);(try clear K);rename Kn _ _ _=>K)));conv=>whnf
   intro hg'
   refine ⟨ws.length-(i+1),fg [2,9,10,11] _,_,by omega,WkM.fg hg',i+1,av,tk,hlt,rfl,rfl,K.cast ?_⟩
   rw [List.take_add_one,hwi];simp;rfl
  ·rw[List.take_of_length_le hge,show(ws.map fun w=>iV (parseV w))=(ws.map parseV).map iV by rw[List.map_map];rfl] at K
   refine kvw (t:=2) nthx ?_ K .here
   conv =>whnf
   refine kgo ?_;(repeat(first|intro(X:Nat)|intro(z:St)|intro(av:V)|intro(tk:Option Nat)|(intro(K1:Kn _ _ _);(try clear K);rename Kn _ _ _=>K)));conv=>whnf
   exact K.fin ht hx (show Nm _ (vsV (ws.map parseV)) from vsV_nm _) (.refl _)
def vsT (l:List Int):List UInt8:=l.flatMap fun n=>32::Lib.itoa n
theorem vsT_len {l:List Int}(h:∀n∈l,i64 n):(vsT l).length≤22* l.length:=
 flat_len (f:=fun n=>32::Lib.itoa n) (m:=22) fun n hn=>by
  have :=Lib.itoa_length_le n (h n hn).1 (h n hn).2
  rw [List.length_cons];omega
def EN2 (l:List Int)(t:List UInt8)(i:Nat):List V:=(.s t:: .bad:: .bad:: .bad:: .bad:: .bad:: .bad::vsV l:: .i .i64 (l.length:Nat):: .i .i64 (i:Nat)::List.replicate 11 .bad)
theorem line_d (w:List UInt8)(l:List Int)(h:∀n∈l,i64 n)(hl:l.length≤10000)(hw:w.length≤10000)(s:St)(hx:NoX s):Den gt1 Tryz.prog 36 [.s w,vsV l] s (.s (w++vsT l++[10])) s:=by
 have hll:(l.map iV).length=l.length:=List.length_map ..
 refine Den.tidy fun ht=>Den.hm gnm1 hG36 ?_
 have K:=Kn.init ht.1 hx
 conv =>whnf
 refine kgo ?_;(repeat(first|intro(X:Nat)|intro(z:St)|intro(av:V)|intro(tk:Option Nat)|(intro(K1:Kn _ _ _);(try clear K);rename Kn _ _ _=>K)));conv=>whnf
 rw [hll]
 refine HM.loop gnm1 fun hg=>⟨fun m e z'=>∃i:Nat,i≤l.length∧m=l.length-i∧e=EN2 l (w++vsT (l.take i)) i∧Kn s z' [],
  ⟨l.length,fg [0,7,8,9] _,_,WkM.fg hg,0,Nat.zero_le _,rfl,by rw[show w++vsT (l.take 0)=w by simp[vsT]];rfl,K⟩, ?_⟩
 clear K
 rintro m e z1 ⟨i,hi,rfl,rfl,K⟩
 have htl:=vsT_len (l:=l.take i) fun n hn=>h n (List.mem_of_mem_take hn)
 have htl2:(l.take i).length≤10000:=by rw[List.length_take];omega
 have hT:(w++vsT (l.take i)).length≤300000:=by rw[List.length_append];omega
 have hstep:∀n,l[i]? =some n→w++vsT (l.take (i+1))=(w++vsT (l.take i))++([32]++Lib.itoa n):=fun n hn=>by
  rw [List.take_add_one,hn];simp[vsT]
 have hend:l.length≤i→w++vsT (l.take i)=w++vsT l:=fun h=>by rw[List.take_of_length_le h]
 generalize w++vsT (l.take i)=T at hT hstep hend
 conv =>whnf
 refine kgo ?_;(repeat(first|intro(X:Nat)|intro(z:St)|intro(av:V)|intro(tk:Option Nat)|(intro(K1:Kn _ _ _);(try clear K);rename Kn _ _ _=>K)));conv=>whnf
 refine brL ⟨fun hlt=> ?_,fun hge=> ?_⟩<;>conv=>whnf
 ·have hni:l[i]? =some l[i]:=List.getElem?_eq_getElem hlt
  have hn:=h l[i] (List.getElem_mem ..)
  generalize l[i]=n at hni hn
  have hil:=Lib.itoa_length_le n hn.1 hn.2
  refine kgo ?_;(repeat(first|intro(X:Nat)|intro(z:St)|intro(av:V)|intro(tk:Option Nat)|(intro(K1:Kn _ _ _);(try clear K);rename Kn _ _ _=>K)));conv=>whnf
  refine ⟨_,_,fmt_d hn.1 hn.2 _, ?_⟩
  conv =>whnf
  refine kgo ?_;(repeat(first|intro(X:Nat)|intro(z:St)|intro(av:V)|intro(tk:Option Nat)|(intro(K1:Kn _ _ _);(try clear K);rename Kn _ _ _=>K)));conv=>whnf
  intro hg'
  exact ⟨l.length-(i+1),fg [0,7,8,9] _,_,by omega,WkM.fg hg',i+1,hlt,rfl,by rw[hstep n hni];rfl,K⟩
 ·rw[hend hge]
  rw [hend hge,List.length_append] at hT
  refine kgo ?_;(repeat(first|intro(X:Nat)|intro(z:St)|intro(av:V)|intro(tk:Option Nat)|(intro(K1:Kn _ _ _);(try clear K);rename Kn _ _ _=>K)));conv=>whnf
  exact K.fin ht hx (.s _) (.refl _)
end Go.Proofs.YtlhopiehnaabgaaGreatDoor
