import Derived.Test.YtlhopiehnaabgaaGreatDoorLE
import Derived.Test.YtlhopiehnaabgaaGreatDoorCodeT
import Derived.Test.YtlhopiehnaabgaaGreatDoorCtx
import Derived.Test.YtlhopiehnaabgaaGreatDoorLD
set_option linter.all false
namespace Go.Proofs.YtlhopiehnaabgaaGreatDoor
open Go Rf
set_option maxRecDepth 100000
set_option maxHeartbeats 400000
noncomputable def gf53:{c:F // cF gt0 Tryz.prog (wfa 53) 53=some c}:=⟨_,by conv=>lhs;reduce;simp only[oi,ou,on1]⟩
noncomputable def f53:F:=gf53.1
noncomputable def gf32:{c:F // cF gt0 Tryz.prog (wfa 32) 32=some c}:=⟨_,by conv=>lhs;reduce;simp only[oi,ou,on1]⟩
noncomputable def f32:F:=gf32.1
theorem hF32:cF gt0 Tryz.prog (wfa 32) 32=some f32:=gf32.2
end Go.Proofs.YtlhopiehnaabgaaGreatDoor
set_option linter.all false
namespace Go.Proofs.YtlhopiehnaabgaaGreatDoor
open Go Rf
set_option maxRecDepth 100000
set_option maxHeartbeats 4000000
def wsL:List (List UInt8):=[wdN 1,wdN 2,wdN 3,wdN 4,wdN 5,wdN 6,wdN 7,wdN 8,wdN 9,wdN 10,wdN 11,wdN 12,wdN 13,wdN 14,wdN 15,wdN 16,wdN 17]
theorem words_run:(evFT tbB 1000 1000 83 [] s0).map (·.1)=some (.ag (([]::wsL).map V.s)):=by kernel_rfl
theorem ss_nm {L:Nat→Prop}(l:List (List UInt8)):∀v∈l.map V.s,Nm L v:=fun v hv=>by
 obtain ⟨x,-,rfl⟩:=List.mem_map.1 hv;exact .s _
theorem words_den:PDen gt0 Tryz.prog 83 [] (.ag (([]::wsL).map V.s)):=by
 obtain ⟨s',h⟩:=den_of words_run
 exact fun s=>h.pure gnm0 (fun x hx=>by simp at hx) (.ag _ (ss_nm _)) s
def ixS (w:List UInt8):List (List UInt8)→Nat→Int
 | [],_=>-1
 | a::r,i=>if w=a then(i:Nat) else ixS w r (i+1)
def EX (w:List UInt8)(ws:List (List UInt8))(i:Nat):List V:=(.pu 1 (ws.map V.s) .u:: .s w:: .bad:: .bad:: .bad:: .bad:: .bad:: .i .i64 (ws.length:Nat):: .i .i64 (i:Nat)::List.replicate 10 .bad)
theorem ixs_den (w : List UInt8) (ws : List (List UInt8)) (hl : ws.length ≤ 1000) : PDen gt0 Tryz.prog 84 [.pu 1 (ws.map V.s) .u, .s w] (.i .i64 (ixS w ws 0)) := by
  have hlw : (ws.map V.s).length = ws.length := List.length_map ..
  generalize hB : V.i .i64 (ixS w ws 0) = B
  refine PDen.hc gnm0 hF84 (nm2 (.pu _ _ _ (ss_nm _) (fun k hk => by cases hk)) (.s _)) (by rw [← hB]; exact .i _ _) ?_
  conv => whnf
  refine sgo ?_
  rw [hlw]
  refine HC.loop gnm0 fun hg => ⟨fun n e s => s = s0 ∧ ∃ i : Nat, i ≤ ws.length ∧ n = ws.length - i ∧ e = EX w ws i ∧ V.i .i64 (ixS w (ws.drop i) i) = B, ⟨ws.length, fg [0, 1, 7, 8] _, _, Wk.fg hg.1 hg.2, rfl, 0, Nat.zero_le _, rfl, rfl, hB⟩, ?_⟩
  rintro n e s ⟨rfl, i, hi, rfl, rfl, hd⟩
  conv => whnf
  refine sgo ?_
  refine brL ⟨fun hlt => ?_, fun hge => ?_⟩ <;> conv => whnf
  · have hgx : ws[i]? = some ws[i] := List.getElem?_eq_getElem hlt
    have hdr : ws.drop i = ws[i] :: ws.drop (i + 1) := List.drop_eq_getElem_cons hlt
    generalize ws[i] = a at hgx hdr
    have hmx : (ws.map V.s)[((i : Nat) : Int).toNat]? = some (.s a) := by simp [hgx]
    rw [hdr, ixS] at hd
    refine sgo ?_
    refine ⟨rfl, Int.natCast_nonneg _, _, hmx, ?_⟩
    conv => whnf
    refine sgo ?_
    refine brB_iff.2 ⟨fun h2 => ?_, fun h2 => ?_⟩ <;> conv => whnf
    · refine sgo ?_
      rw [if_pos (by simpa using h2)] at hd
      exact hd
    · rw [if_neg (by simpa using h2)] at hd
      refine sgo ?_
      rw [wrap_succ hlt (by have : 2000 ≤ maxLen := by decide
                            omega)]
      intro hg'
      exact ⟨ws.length - (i + 1), fg [0, 1, 7, 8] _, _, by omega, Wk.fg hg'.1 hg'.2, rfl, i + 1, hlt, rfl, rfl, hd⟩
  · rw [List.drop_of_length_le hge, ixS] at hd
    refine sgo ?_
    exact hd
theorem aop_slA1 {e:List V}{s:St}{x:Arg}{X z:Nat}{cs:List V}{ty:Option Nat}(hx:x.ev e= .p X 0)(hs:s.get X=some (.c cs z ty))(hl:cs.length=18):aop e s (.slA 1 18 x (some (.c (.i .i64 1))) none none)=some (.sl 1 X 1 17 (some 17),s):=by
 simp only[aop,hx,hs,hl]
 rfl
theorem ixS_bnd (w:List UInt8):∀(ws:List (List UInt8))(i:Nat),-1≤ixS w ws i∧ixS w ws i<((i+ws.length:Nat):Int)+1
 | [],i=>by unfold ixS;omega
 | a::r,i=>by
  have :=ixS_bnd w r (i+1)
  unfold ixS
  rw [List.length_cons]
  split <;>omega
theorem wId1 {n:Int}(h0:-1≤n)(h1:n<100000):wrapF .i64 (n+1)=n+1:=by rw[wI];omega
theorem ixsX {s:St}{X:Nat}(hX:s.get X=some (.c (([]::wsL).map V.s) 0 (some 124)))(a:List UInt8):Den gt1 Tryz.prog 84 [.sl 1 X 1 17 (some 17), .s a] s (.i .i64 (ixS a wsL 0)) s:=by
 refine PDen.still (pup0 (ixs_den a wsL (by decide))) rfl (Rd2 (.sl 1 X 1 17 (some 17) _ 0 (some 124) (wsL.map V.s) hX (by decide) rfl (fun i hi=> ?_) (fun i j hi hj=> ?_)) (.refl _)) (plain_i _ _)
 ·rw[List.getD,List.getElem?_map,List.getElem?_eq_getElem hi];rfl
 ·obtain rfl:j=0:=by omega
  rw [show 1+i* 1+0=i+1 by omega]
  show Rd s ((wsL.map V.s).getD i .bad) _
  rw [List.getD,List.getElem?_map,List.getElem?_eq_getElem hi]
  exact .refl _
def insA (ls:List (List UInt8)):Int×Int:=(ixS (ls.headD []) wsL 0+1,match ls with|_::b::_=>parseV b|_=>0)
theorem hG58:cF gt1 Tryz.prog (wfa 58) 58=some f58:=by kernel_rfl
theorem ins_den (a:List UInt8)(ls:List (List UInt8))(hl:∀b∈ls,b.length≤281474976710656)(s:St)(hx:NoX s):Den gt1 Tryz.prog 58 [.pu 1 ((a::ls).map V.s) .u] s (insV (insA (a::ls))) s:=by
 refine Den.tidy fun ht=>Den.hm gnm1 hG58 ?_
 have K:=Kn.init ht.1 hx
 conv =>whnf
 refine kgo ?_;(repeat(first|intro(X:Nat)|intro(z:St)|intro(av:V)|intro(tk:Option Nat)|(intro(K1:Kn _ _ _);(try clear K);rename Kn _ _ _=>K)));conv=>whnf
 refine ⟨_,_,up0 (words_den _), ?_⟩
 conv =>whnf
 refine kgo ?_;(repeat(first|intro(X:Nat)|intro(z:St)|intro(av:V)|intro(tk:Option Nat)|(intro(K1:Kn _ _ _);(try clear K);rename Kn _ _ _=>K)));conv=>whnf
 have hX:=K.get (w:=true) .here
 refine ⟨_,_,aop_slA1 rfl hX rfl, ?_⟩
 conv =>whnf
 refine kgo ?_;(repeat(first|intro(X:Nat)|intro(z:St)|intro(av:V)|intro(tk:Option Nat)|(intro(K1:Kn _ _ _);(try clear K);rename Kn _ _ _=>K)));conv=>whnf
 refine ⟨rfl,Int.le_refl _,_,rfl, ?_⟩
 conv =>whnf
 refine kgo ?_;(repeat(first|intro(X:Nat)|intro(z:St)|intro(av:V)|intro(tk:Option Nat)|(intro(K1:Kn _ _ _);(try clear K);rename Kn _ _ _=>K)));conv=>whnf
 refine ⟨_,_,ixsX hX a, ?_⟩
 conv =>whnf
 refine kgo ?_;(repeat(first|intro(X:Nat)|intro(z:St)|intro(av:V)|intro(tk:Option Nat)|(intro(K1:Kn _ _ _);(try clear K);rename Kn _ _ _=>K)));conv=>whnf
 have hw:=wId1 (ixS_bnd a wsL 0).1 (Int.lt_of_lt_of_le (ixS_bnd a wsL 0).2 (by decide))
 cases ls with
 | nil=>
  conv =>whnf
  refine kgo ?_;(repeat(first|intro(X:Nat)|intro(z:St)|intro(av:V)|intro(tk:Option Nat)|(intro(K1:Kn _ _ _);(try clear K);rename Kn _ _ _=>K)));conv=>whnf
  exact K.ret [.ag [.i .i64 (wrapF .i64 (ixS a wsL 0+1)), .i .i64 0]] ht hx (insV_nm (insA [a])) (by rw[hw];exact .refl _)
 | cons b ls=>
  rw [show ltZ 1 (((List.map V.s (a::b::ls)).length:Nat):Int)=true by rw[ltZ_eq];simp;omega]
  conv =>whnf
  refine kgo ?_;(repeat(first|intro(X:Nat)|intro(z:St)|intro(av:V)|intro(tk:Option Nat)|(intro(K1:Kn _ _ _);(try clear K);rename Kn _ _ _=>K)));conv=>whnf
  refine ⟨rfl,by decide,_,rfl, ?_⟩
  conv =>whnf
  refine kgo ?_;(repeat(first|intro(X:Nat)|intro(z:St)|intro(av:V)|intro(tk:Option Nat)|(intro(K1:Kn _ _ _);(try clear K);rename Kn _ _ _=>K)));conv=>whnf
  refine ⟨_,_,parse_d (hl b (List.mem_cons_self ..)) _, ?_⟩
  conv =>whnf
  refine kgo ?_;(repeat(first|intro(X:Nat)|intro(z:St)|intro(av:V)|intro(tk:Option Nat)|(intro(K1:Kn _ _ _);(try clear K);rename Kn _ _ _=>K)));conv=>whnf
  exact K.ret [.ag [.i .i64 (wrapF .i64 (ixS a wsL 0+1)), .i .i64 (parseV b)]] ht hx (insV_nm (insA (a::b::ls))) (by rw[hw];exact .refl _)
theorem hG53:cF gt1 Tryz.prog (wfa 53) 53=some f53:=by kernel_rfl
theorem split_d {l:List UInt8}{c:UInt8}(hl:l.length<4294967281)(s:St)(hx:NoX s):Den gt1 Tryz.prog 53 [.s l, .s [c]] s (.pu 1 ((pieces l c 0).map .s) .u) s:=by
 refine Den.tidy fun ht=>Den.hm gnm1 hG53 ?_
 have K:=Kn.init ht.1 hx
 conv =>whnf
 refine kgo ?_;(repeat(first|intro(X:Nat)|intro(z:St)|intro(av:V)|intro(tk:Option Nat)|(intro(K1:Kn _ _ _);(try clear K);rename Kn _ _ _=>K)));conv=>whnf
 refine ⟨_,_,gsplit_d (sv:=0) (by decide) hl _, ?_⟩
 conv =>whnf
 refine kgo ?_;(repeat(first|intro(X:Nat)|intro(z:St)|intro(av:V)|intro(tk:Option Nat)|(intro(K1:Kn _ _ _);(try clear K);rename Kn _ _ _=>K)));conv=>whnf
 exact K.fin ht hx (.pu _ _ _ (ss_nm _) (fun k hk=>by cases hk)) (.refl _)
end Go.Proofs.YtlhopiehnaabgaaGreatDoor
