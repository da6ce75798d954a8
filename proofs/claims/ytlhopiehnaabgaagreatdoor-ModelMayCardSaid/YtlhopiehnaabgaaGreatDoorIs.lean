import Derived.Test.YtlhopiehnaabgaaGreatDoorLE
import Derived.Test.YtlhopiehnaabgaaGreatDoorMrd
import Derived.Test.YtlhopiehnaabgaaGreatDoorOrd
import Derived.Test.YtlhopiehnaabgaaGreatDoorCodeT
import Derived.Test.YtlhopiehnaabgaaGreatDoorChecked
import Derived.WalkKit
import Derived.LaidEql
import Derived.Stop.Asserts
import Derived.RowKitTokens
set_option linter.all false
namespace Go.Proofs.YtlhopiehnaabgaaGreatDoor
open Go Rf
set_option maxRecDepth 100000
set_option maxHeartbeats 4000000
def vsR (bs:List UInt8):Nat→RS→List Int×RS
 | 0,r=>([],r)
 | n+1,r=>((vsR bs n r).1++[(nuR bs 8 (vsR bs n r).2).1],(nuR bs 8 (vsR bs n r).2).2)
theorem vsR_le {bs:List UInt8}{r:RS}(h:r.1≤bs.length):∀n,(vsR bs n r).2.1≤bs.length
 | 0=>h
 | n+1=>nuR_le (vsR_le h n)
theorem vsR_len {bs:List UInt8}{r:RS}:∀n,(vsR bs n r).1.length=n
 | 0=>rfl
 | n+1=>by simp[vsR,vsR_len n]
def pr0:Pr:=((0,[]),[],0)
def prR (bs:List UInt8):RS→Pr×RS
 | (a,some k)=>(pr0,(a,some k))
 | (a,none)=>match ofB (bs.drop a) with
  | none=>(pr0,(a,some a))
  | some (v,ks,n)=>
   (((v,ks),(vsR bs v.toNat (a+n,none)).1,(nuR bs 8 (vsR bs v.toNat (a+n,none)).2).1),(nuR bs 8 (vsR bs v.toNat (a+n,none)).2).2)
theorem ofB_v {bs:List UInt8}{v:Int}{ks:List Kd}{n:Nat}(h:ofB bs=some (v,ks,n)):0≤v∧v≤8∧n≤bs.length∧ks.length≤255∧∀k∈ks,k.length≤255:=by
 have h2:=(ofB_enc h).2
 unfold ofB at h
 cases hp:progP bs with
 | none=>rw[hp] at h;cases h
 | some y=>
  obtain ⟨v',ks',a'⟩:=y
  rw [hp] at h
  simp only at h
  split at h
  ·rename_i hm
   cases h
   refine ⟨?_, ?_,h2⟩<;>(simp[mayP] at hm;omega)
  ·cases h
theorem prR_le {bs:List UInt8}{r:RS}(h:r.1≤bs.length):(prR bs r).2.1≤bs.length:=by
 obtain ⟨a,k⟩:=r
 cases k with
 | some k=>exact h
 | none=>
  have h:a≤bs.length:=h
  cases hof:ofB (bs.drop a) with
  | none=>simp only[prR,hof];exact h
  | some x=>
   obtain ⟨v,ks,n⟩:=x
   have h2:=(ofB_v hof).2.2.1
   rw [List.length_drop] at h2
   simp only[prR,hof]
   exact nuR_le (vsR_le (by show a+n≤_;omega) _)
theorem pr0_vw:Vw (.ag [.i .i64 0, .ns, .ns, .i .i64 0]) (prV pr0):= .ag _ _ (.cons (.refl _) (.cons (.ns 1) (.cons (.ns 1) (.cons (.refl _) .nil))))
def EV (R P cnt i:Nat):List V:=(.p R 0:: .bad:: .p P 0:: .bad:: .bad:: .bad:: .bad:: .bad:: .bad:: .bad:: .bad:: .bad:: .bad:: .bad:: .bad:: .bad:: .bad:: .bad:: .bad:: .bad:: .bad:: .bad:: .bad:: .bad:: .bad:: .bad:: .bad:: .bad:: .bad:: .bad:: .bad:: .bad:: .bad:: .bad:: .bad:: .bad:: .bad:: .bad:: .bad:: .bad:: .bad:: .bad:: .bad:: .bad:: .bad:: .bad:: .bad:: .bad:: .bad:: .i .i64 (cnt:Nat):: .i .i64 (i:Nat)::List.replicate 13 .bad)
theorem mproc_den (s:St)(hx:NoX s)(R:Nat)(bs:List UInt8)(hb:bs.length≤200000)(r:RS)(ha:r.1≤bs.length)(hs:s.get R=some (rdM bs r)):
  Den gt0 Tryz.prog 44 [.p R 0] s (prV (prR bs r).1) (s.put R (some (rdM bs (prR bs r).2))):=by
 have hlb:(bs.map bV).length=bs.length:=List.length_map ..
 have hdr:∀a,((bs.map bV).take (bs.map bV).length).drop a=(bs.drop a).map bV:=fun a=>by rw[List.take_length,List.map_drop]
 obtain ⟨a,k⟩:=r
 have ha:a≤bs.length:=ha
 cases k with
 | some k=>
  have hs:s.get R=some (.c [bsV bs, .i .i64 (a:Nat), .ifc 112 (.ag [.i .i64 (k:Nat)])] 0 (some 90)):=hs
  refine Den.tidy fun ht=>Den.hm gnm0 hF44 ?_
  have hg:=ht.1
  have K:=Kn.init1 hg hx hs
  conv =>whnf
  refine kgo ?_;(repeat(first|intro(X:Nat)|intro(z:St)|intro(av:V)|intro(tk:Option Nat)|(intro(K1:Kn _ _ _);(try clear K);rename Kn _ _ _=>K)));conv=>whnf
  exact K.ret1 [.ag [.i .i64 0, .ns, .ns, .i .i64 0]] ht hx (prV_nm _) (rdM_nm bs a (some k)) pr0_vw (hg.1 _ _ hs)
 | none=>
  have hs:s.get R=some (.c [bsV bs, .i .i64 (a:Nat), .ni] 0 (some 90)):=hs
  refine Den.tidy fun ht=>Den.hm gnm0 hF44 ?_
  have hg:=ht.1
  have hR:s.L R:=hg.1 _ _ hs
  have K:=Kn.init1 hg hx hs
  conv =>whnf
  refine kgo ?_;(repeat(first|intro(X:Nat)|intro(z:St)|intro(av:V)|intro(tk:Option Nat)|(intro(K1:Kn _ _ _);(try clear K);rename Kn _ _ _=>K)));conv=>whnf
  revert X;intro P0 K
  refine kxslc (xs:=bs.map bV) a (bs.map bV).length ?_ (by omega) (Nat.le_refl _)
  rw [hdr]
  conv =>whnf
  refine kgo ?_;(repeat(first|intro(X:Nat)|intro(z:St)|intro(av:V)|intro(tk:Option Nat)|(intro(K1:Kn _ _ _);(try clear K);rename Kn _ _ _=>K)));conv=>whnf
  refine ⟨_,_,ofB_den (bs.drop a) (by rw[List.length_drop];omega) _, ?_⟩
  cases hof:ofB (bs.drop a) with
  | none=>
   have e1:prR bs (a,none)=(pr0,(a,some a)):=by simp only[prR,hof]
   rw [e1]
   conv =>whnf
   refine kgo ?_;(repeat(first|intro(X:Nat)|intro(z:St)|intro(av:V)|intro(tk:Option Nat)|(intro(K1:Kn _ _ _);(try clear K);rename Kn _ _ _=>K)));conv=>whnf
   exact K.ret1 [.ag [.i .i64 0, .ns, .ns, .i .i64 0]] ht hx (prV_nm _) (rdM_nm bs a (some a)) pr0_vw (hg.1 _ _ hs)
  | some x=>
   obtain ⟨v,ks,n⟩:=x
   obtain ⟨hv0,hv8,hn,-,-⟩:=ofB_v hof
   rw [List.length_drop] at hn
   obtain ⟨c,rfl⟩:=Int.eq_ofNat_of_zero_le hv0
   have e1:prR bs (a,none)=((((c:Int),ks),(vsR bs c (a+n,none)).1,(nuR bs 8 (vsR bs c (a+n,none)).2).1),(nuR bs 8 (vsR bs c (a+n,none)).2).2):=by simp only[prR,hof,Int.toNat_natCast]
   rw [e1]
   conv =>whnf
   refine kgo ?_;(repeat(first|intro(X:Nat)|intro(z:St)|intro(av:V)|intro(tk:Option Nat)|(intro(K1:Kn _ _ _);(try clear K);rename Kn _ _ _=>K)));conv=>whnf
   have hw:wrapF .i64 ((a:Nat)+(n:Nat):Int)=((a+n:Nat):Int):=by rw[wI];omega
   rw [hw] at K
   have hle:=fun j=>vsR_le (bs:=bs) (r:=(a+n,none)) (by show a+n≤_;omega) j
   generalize hr0:((a+n,none):RS)=r0 at*
   have K:=K.drop0 rfl
   refine HM.loop gnm0 fun hg=>⟨fun m e z'=>∃(j:Nat)(vv:V)(tk:Option Nat),j≤c∧m=c-j∧e=EV R P0 c j∧Kn s z' [.ac 1 vv ((vsR bs j r0).1.map iV) tk, .ob true P0 (.c [.i .i64 (c:Int),ksV ks,vv, .i .i64 0] 0 (some 50)), .ob false R (rdM bs (vsR bs j r0).2)],
    ⟨c,fg [0,2,49,50] _,_,WkM.fg hg,0, .ns,none,Nat.zero_le _,rfl,rfl,by subst hr0;exact K.acc0 1⟩, ?_⟩
   clear K
   rintro m e z1 ⟨j,vv,tk,hj,rfl,rfl,K⟩
   have hvl:=vsR_len (bs:=bs) (r:=r0) j
   conv =>whnf
   refine kgo ?_;(repeat(first|intro(X:Nat)|intro(z:St)|intro(av:V)|intro(tk:Option Nat)|(intro(K1:Kn _ _ _);(try clear K);rename Kn _ _ _=>K)));conv=>whnf
   refine brL ⟨fun h1=> ?_,fun h1=> ?_⟩<;>conv=>whnf
   ·refine kgo ?_;(repeat(first|intro(X:Nat)|intro(z:St)|intro(av:V)|intro(tk:Option Nat)|(intro(K1:Kn _ _ _);(try clear K);rename Kn _ _ _=>K)));conv=>whnf
    have h0:z1.get P0=some (.c [.i .i64 (c:Int),ksV ks,vv, .i .i64 0] 0 (some 50)):=K.get (.there .here)
    have D:=mnum_den z1 K.x R bs hb (vsR bs j r0).2 8 (by omega) (hle j) (K.get (.there (.there .here)))
    refine kc1 D fun z2 K1=> ?_
    clear K D;rename Kn _ _ _=>K
    conv =>whnf
    refine kgo ?_;(repeat(first|intro(X:Nat)|intro(z:St)|intro(av:V)|intro(tk:Option Nat)|(intro(K1:Kn _ _ _);(try clear K);rename Kn _ _ _=>K)));conv=>whnf
    intro hg'
    refine ⟨c-(j+1),fg [0,2,49,50] _,_,by omega,WkM.fg hg',j+1,av,tk,h1,rfl,rfl,K.cast ?_⟩
    simp [vsR,iV]
    rfl
   ·have hjc:j=c:=by omega
    subst hjc
    refine kgo ?_;(repeat(first|intro(X:Nat)|intro(z:St)|intro(av:V)|intro(tk:Option Nat)|(intro(K1:Kn _ _ _);(try clear K);rename Kn _ _ _=>K)));conv=>whnf
    have D:=mnum_den z1 K.x R bs hb (vsR bs j r0).2 8 (by omega) (hle j) (K.get (.there (.there .here)))
    refine kc1 D fun z2 K1=> ?_
    clear K D;rename Kn _ _ _=>K
    conv =>whnf
    refine kgo ?_;(repeat(first|intro(X:Nat)|intro(z:St)|intro(av:V)|intro(tk:Option Nat)|(intro(K1:Kn _ _ _);(try clear K);rename Kn _ _ _=>K)));conv=>whnf
    exact K.ret1 [.ag [.i .i64 (j:Int),ksV ks,vv, .i .i64 (nuR bs 8 (vsR bs j r0).2).1]] ht hx (prV_nm _) (rdM_nm bs _ _) (.ag _ _ (.cons (.refl _) (.cons (.refl _) (.cons (K.vw .here) (.cons (.refl _) .nil))))) hR
end Go.Proofs.YtlhopiehnaabgaaGreatDoor
set_option linter.all false
namespace Go.Proofs.YtlhopiehnaabgaaGreatDoor
set_option maxRecDepth 100000
open Go Go.RowKit Go.Extern.Stop Go.Stop Go.Extern
theorem call67 (v:Value)(w:World):(callFunc 70 #[.iface 30 v]).run Tryz.prog w= .ok (.value (.iface 139 (.agg #[.pointer (some ⟨8,30,none⟩)]))) w:=by kernel_rfl
theorem call150 (w:World):(callFunc 146 #[.agg #[.pointer (some ⟨8,30,none⟩)]]).run Tryz.prog w= .ok (.value (.bool true)) w:=by kernel_rfl
theorem isMethodComparable (v:Value)(w:World):(Go.method 320 139 v "Comparable").run Tryz.prog w= .ok (146,v) w:=by kernel_rfl
theorem eql28 (w:World):(binOp .eql 80 (.iface 30 (.int .i64 4)) (.iface 30 (.int .i64 4))).run Tryz.prog w= .ok (.bool true) w:=by kernel_rfl
theorem eql119 (v:Value)(w:World):(binOp .eql 80 (.iface 112 v) (.iface 30 (.int .i64 4))).run Tryz.prog w= .ok (.bool false) w:=
 run_eql_iface_types (P:=Tryz.prog) 112 30 v (.int .i64 4) Tryz.underlying80 (by decide) w
theorem noIsB (v:Value)(xT:TypeId)(w:World):(Instr.typeAssert (.iface 112 v) xT 141 true).run Tryz.prog w= .ok (.tuple #[.nilIface, .bool false]) w:=run_typeAssert_lacksB Tryz.underlying141 (by kernel_rfl) (by kernel_rfl) v xT w
theorem hasUnwrapB (v:Value)(xT:TypeId)(w:World):(Instr.typeAssert (.iface 112 v) xT 144 true).run Tryz.prog w= .ok (.tuple #[.iface 112 v, .bool true]) w:=run_typeAssert_hasB Tryz.underlying144 (by kernel_rfl) v xT w
theorem methodUnwrap (v:Value)(w:World):(Go.method 320 112 v "Unwrap").run Tryz.prog w= .ok (142,v) w:=by kernel_rfl
theorem is_nil (n:Int)(w:World):
  Calls Tryz.prog 46 #[.nilIface, .iface 30 (.int .i64 n)] w fun e w'=>e= .returned (.bool false)∧w'=w:=by
 have hn:=run_eql_iface_nil_left (P:=Tryz.prog) w 30 (.int .i64 n) Tryz.underlying80
 go_enter Tryz.func46,Tryz.ntmps46
 go_wp2
 go_ret
 exact ⟨rfl,rfl⟩
theorem is_broken (k:Int)(w:World):
  Calls Tryz.prog 46 #[.iface 112 (.agg #[.int .i64 k]), .iface 30 (.int .i64 4)] w fun e w'=>e= .returned (.bool true)∧Below w.heap.size w w':=by
 have h67:=call67
 have h150:=call150
 have mR:=isMethodComparable
 have nI:=noIsB
 have uB:=hasUnwrapB
 have mU:=methodUnwrap
 have e1:=eql28
 have e2:=eql119
 go_enter Tryz.func46,Tryz.ntmps46
 go_wp2
 refine wp_loop_rounds 2 ?_
 rw [rounds_succ]
 go_wp2
 rw [rounds_succ]
 go_wp2
 go_ret
 exact ⟨rfl,(Below.refl _ w).alloc (Nat.le_refl _) _⟩
open Rf
theorem is_nil_den (n:Int):PDen gt0 Tryz.prog 46 [.ni, .ifc 30 (.i .i64 n)] (.b false):=
 PDen.belowv (fun cx w m xs G A=>by
  obtain ⟨y,h1,h2⟩:=arep A (j:=0) rfl
  obtain ⟨z,h3,h4⟩:=arep A (j:=1) rfl
  cases h2;cases h4;rename_i h4;cases h4
  rw [arr2 A.len h1 h3]
  exact (is_nil n w).mono fun e w' ⟨h5,h6⟩=>⟨h5,h6▸ .refl _ _⟩) (fun _ _ _=> .b _)
theorem is_broken_den (k:Int):PDen gt0 Tryz.prog 46 [.ifc 112 (.ag [.i .i64 k]), .ifc 30 (.i .i64 4)] (.b true):=
 PDen.belowv (fun cx w m xs G A=>by
  obtain ⟨y,h1,h2⟩:=arep A (j:=0) rfl
  obtain ⟨z,h3,h4⟩:=arep A (j:=1) rfl
  cases h4;rename_i h4;cases h4
  cases h2;rename_i h2
  cases h2 with
  | ag _ vs hs _ hv=>
   have h5:vs= #[Value.int .i64 k]:=by
    have h6:=hv 0 (by simp)
    have hs:vs.size=1:=hs
    have h7:vs[0]? =some (Value.int .i64 k):=by
     rw [show vs.getD 0 undef=vs[0] by simp[Array.getD_eq_getD_getElem?,hs]] at h6
     rw [Array.getElem?_eq_getElem (by omega)]
     generalize vs[0]=q at h6
     have h6:VRep cx w.heap m (.i .i64 k) q:=h6
     cases h6;rfl
    exact arr1 hs h7
   subst h5
   rw [arr2 A.len h1 h3]
   exact is_broken k w) (fun _ _ _=> .b _)
end Go.Proofs.YtlhopiehnaabgaaGreatDoor
