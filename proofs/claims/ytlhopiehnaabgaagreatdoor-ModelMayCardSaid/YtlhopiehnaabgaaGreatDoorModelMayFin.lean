import Derived.Test.YtlhopiehnaabgaaGreatDoorMym
import Derived.Test.YtlhopiehnaabgaaGreatDoorLE
import Derived.Lay
import Derived.Test.YtlhopiehnaabgaaGreatDoorLC
import Derived.Test.YtlhopiehnaabgaaGreatDoorCards
import Derived.Test.YtlhopiehnaabgaaGreatDoorTie
import Derived.WalkKit
import Derived.ProofKit
import Derived.OpenShut
import Derived.LaidMore
import Derived.Carry
import Derived.Stop.Joined
import Derived.SevenTiedAt
set_option linter.all false
namespace Go.Proofs.YtlhopiehnaabgaaGreatDoor
open Go Rf Go.ChangeShapes Go.WideShapes Go.ChangeAt Go.RowKit
set_option maxRecDepth 100000
theorem star_es: "*" ++ "errors.errorString" = "*errors.errorString" :=by decide
theorem row_es (u:TypeId)(h:Tryz.prog.typeName? 3 u=some "*errors.errorString"):u=184:=
 typeName_ptr_named (nm:= "errors.errorString") (by rw[star_es];kernel_rfl) (by kernel_rfl) (by decide) u (by rw[star_es];exact h)
theorem gt1_of {W:World}(hL:laidMetH Tryz.prog Rows.modelMayRow.laid W):GRep gt1 (cx0 W) W.heap s0.L:=
 grep_cons (tab_of hL "internal/strconv.uint64pow10" .u64 Lib.pow10Tab (by kernel_rfl) (t:=176) (e:=87) (n:=20) (by kernel_rfl) (by kernel_rfl) (by kernel_rfl) (by kernel_rfl) (by kernel_rfl) (by kernel_rfl))
  (grep_cons (sent_of hL "strconv.ErrSyntax" "*errors.errorString" (d:= .ptr (.agg [.lit (.string [105,110,118,97,108,105,100,32,115,121,110,116,97,120])])) (by kernel_rfl) (by kernel_rfl) (t:=80) (by kernel_rfl) Tryz.underlying80 row_es)
   (grep_cons (sent_of hL "strconv.ErrRange" "*errors.errorString" (d:= .ptr (.agg [.lit (.string [118,97,108,117,101,32,111,117,116,32,111,102,32,114,97,110,103,101])])) (by kernel_rfl) (by kernel_rfl) (t:=80) (by kernel_rfl) Tryz.underlying80 row_es) grep_nil))
theorem uA0:Tryz.prog.underlying 3=some (.int .i64):=by kernel_rfl
theorem uA1:Tryz.prog.underlying 46=some (.slice 59):=by kernel_rfl
theorem lvB:leaves Tryz.prog Tryz.prog.depth 59=some [59]:=by kernel_rfl
theorem uB:Tryz.prog.underlying 59=some (.slice 58):=by kernel_rfl
theorem lvC:leaves Tryz.prog Tryz.prog.depth 58=some [56,2]:=by kernel_rfl
theorem uO:Tryz.prog.underlying 56=some (.int .i64):=by kernel_rfl
theorem uN:Tryz.prog.underlying 2=some (.int .i64):=by kernel_rfl
theorem aB:agP Tryz.prog 59=some false:=by kernel_rfl
theorem aC:agP Tryz.prog 58=some true:=by kernel_rfl
theorem lvN:leaves Tryz.prog Tryz.prog.depth 2=some [2]:=by kernel_rfl
theorem aN:agP Tryz.prog 2=some false:=by kernel_rfl
theorem lvI:leaves Tryz.prog Tryz.prog.depth 3=some [3]:=by kernel_rfl
theorem aI:agP Tryz.prog 3=some false:=by kernel_rfl
theorem lvR:leaves Tryz.prog Tryz.prog.depth 50=some [3,46,38,2]:=by kernel_rfl
theorem aR:agP Tryz.prog 50=some true:=by kernel_rfl
theorem uV:Tryz.prog.underlying 38=some (.slice 2):=by kernel_rfl
theorem lvE:leaves Tryz.prog Tryz.prog.depth 54=some [2,3,2,3,3,2]:=by kernel_rfl
theorem aE:agP Tryz.prog 54=some true:=by kernel_rfl
theorem lvM:leaves Tryz.prog Tryz.prog.depth 25=some [22,23]:=by kernel_rfl
theorem aM:agP Tryz.prog 25=some true:=by kernel_rfl
theorem uM0:Tryz.prog.underlying 22=some (.slice 50):=by kernel_rfl
theorem uM1:Tryz.prog.underlying 23=some (.slice 54):=by kernel_rfl
theorem wf_i64 {n:Int}(h:(Lit.int .i64 n).wf=true):i64 n:=by
 have :-9223372036854775808≤n∧n≤9223372036854775807:=by simpa[Lit.wf,IntKind.min,IntKind.max,IntKind.bits,IntKind.signed] using h
 exact this
theorem map_of {α:Type}{f:α→V}{t:TypeId}{p:α→Prop}(h1:∀x,ASh Tryz.prog t x→∃a,x=f a∧p a):∀(xs:List V),(∀x∈xs,ASh Tryz.prog t x)→∃ks:List α,xs=ks.map f∧∀k∈ks,p k
 | [],_=>⟨[],rfl,fun k hk=>by simp at hk⟩
 | x::r,h=>by
  obtain ⟨m,rfl,hm⟩:=h1 x (h x (List.mem_cons_self ..))
  obtain ⟨ms,rfl,hms⟩:=map_of h1 r (fun y hy=>h y (List.mem_cons_of_mem _ hy))
  exact ⟨m::ms,rfl,fun k hk=>by
   rcases List.mem_cons.1 hk with rfl|hk
   ·exact hm
   ·exact hms k hk⟩
theorem ins_of (x:V)(h:ASh Tryz.prog 58 x):∃i:Int×Int,x=insV i∧i64 i.2:=by
 obtain ⟨l,h1,h2,h3,h4⟩:=h
 rw [lvC] at h1;cases h1
 obtain ⟨cs,rfl⟩:=h3.1 aC
 have hc:cs.length=2:=h2
 obtain ⟨a,e0,-⟩:=(h4 0 56 rfl).int uO
 obtain ⟨b,e1,hw⟩:=(h4 1 2 rfl).int uN
 match cs,hc with
 | [c0,c1],_=>
  have e0:c0= .i .i64 a:=e0
  have e1:c1= .i .i64 b:=e1
  subst e0 e1
  exact ⟨(a,b),rfl,wf_i64 hw⟩
theorem kd_of (x:V)(h:ASh Tryz.prog 59 x):∃k:Kd,x=kV k∧(k.length≤maxLen∧∀i∈k,i64 i.2):=by
 obtain ⟨xs,hx,hxl,hxa⟩:=(h.leaf lvB (by rw[aB];decide)).slice uB lvC (by decide)
 obtain ⟨k,rfl,hk⟩:=map_of ins_of xs hxa
 exact ⟨k,hx,by simpa using hxl,hk⟩
theorem int_of (x:V)(h:ASh Tryz.prog 2 x):∃i:Int,x=iV i∧i64 i:=by
 obtain ⟨i,hi,hw⟩:=(h.leaf lvN (by rw[aN];decide)).int uN
 exact ⟨i,hi,wf_i64 hw⟩
theorem ks_of {x:V}(h:LSh Tryz.prog 46 x):∃ks:List Kd,x=ksV ks∧ks.length≤maxLen∧∀k∈ks,(k.length≤maxLen∧∀i∈k,i64 i.2):=by
 obtain ⟨xs,e1,hxl,hxa⟩:=h.slice uA1 lvB (by decide)
 obtain ⟨ks,rfl,hks⟩:=map_of kd_of xs hxa
 exact ⟨ks,e1,by simpa using hxl,hks⟩
theorem vs_of {x:V}(h:LSh Tryz.prog 38 x):∃vs:List Int,x=vsV vs∧vs.length≤maxLen∧∀n∈vs,i64 n:=by
 obtain ⟨xs,e1,hxl,hxa⟩:=h.slice uV lvN (by decide)
 obtain ⟨vs,rfl,hvs⟩:=map_of int_of xs hxa
 exact ⟨vs,e1,by simpa using hxl,hvs⟩
def prI (p:Pr):Prop:=i64 p.1.1∧(∀k∈p.1.2,∀x∈k,i64 x.2)∧(∀n∈p.2.1,i64 n)∧i64 p.2.2
def evI (e:Ev):Prop:=i64 e.1∧i64 e.2.2.2.1∧i64 e.2.2.2.2.1∧i64 e.2.2.2.2.2
theorem pr_of (x:V)(h:ASh Tryz.prog 50 x):∃p:Pr,x=prV p∧(okP p∧prI p):=by
 obtain ⟨l,h1,h2,h3,h4⟩:=h
 rw [lvR] at h1;cases h1
 obtain ⟨cs,rfl⟩:=h3.1 aR
 have hc:cs.length=4:=h2
 obtain ⟨a,e0,hwa⟩:=(h4 0 3 rfl).int uA0
 obtain ⟨ks,e1,hk1,hk2⟩:=ks_of (h4 1 46 rfl)
 obtain ⟨vs,e2,hv,hvi⟩:=vs_of (h4 2 38 rfl)
 obtain ⟨b,e3,hwb⟩:=(h4 3 2 rfl).int uN
 match cs,hc with
 | [c0,c1,c2,c3],_=>
  have e0:c0= .i .i64 a:=e0
  have e1:c1=ksV ks:=e1
  have e2:c2=vsV vs:=e2
  have e3:c3= .i .i64 b:=e3
  subst e0 e1 e2 e3
  exact ⟨((a,ks),vs,b),rfl,⟨hk1,fun k hk=>(hk2 k hk).1,hv⟩,wf_i64 hwa,fun k hk=>(hk2 k hk).2,hvi,wf_i64 hwb⟩
theorem ev_of (x:V)(h:ASh Tryz.prog 54 x):∃e:Ev,x=evV e∧evI e:=by
 obtain ⟨l,h1,h2,h3,h4⟩:=h
 rw [lvE] at h1;cases h1
 obtain ⟨cs,rfl⟩:=h3.1 aE
 have hc:cs.length=6:=h2
 obtain ⟨a,e0,w0⟩:=(h4 0 2 rfl).int uN
 obtain ⟨b,e1,-⟩:=(h4 1 3 rfl).int uA0
 obtain ⟨c,e2,-⟩:=(h4 2 2 rfl).int uN
 obtain ⟨d,e3,w3⟩:=(h4 3 3 rfl).int uA0
 obtain ⟨f,e4,w4⟩:=(h4 4 3 rfl).int uA0
 obtain ⟨g,e5,w5⟩:=(h4 5 2 rfl).int uN
 match cs,hc with
 | [c0,c1,c2,c3,c4,c5],_=>
  have e0:c0= .i .i64 a:=e0
  have e1:c1= .i .i64 b:=e1
  have e2:c2= .i .i64 c:=e2
  have e3:c3= .i .i64 d:=e3
  have e4:c4= .i .i64 f:=e4
  have e5:c5= .i .i64 g:=e5
  subst e0 e1 e2 e3 e4 e5
  exact ⟨(a,b,c,d,f,g),rfl,wf_i64 w0,wf_i64 w3,wf_i64 w4,wf_i64 w5⟩
theorem m_of {x:V}(h:ASh Tryz.prog 25 x):∃(ps:List Pr)(fs:List Ev),x=mV ps fs∧okAll ps fs∧I64M ps fs:=by
 obtain ⟨l,h1,h2,h3,h4⟩:=h
 rw [lvM] at h1;cases h1
 obtain ⟨cs,rfl⟩:=h3.1 aM
 have hc:cs.length=2:=h2
 obtain ⟨xs,e0,hxl,hxa⟩:=(h4 0 22 rfl).slice uM0 lvR (by decide)
 obtain ⟨ps,rfl,hps⟩:=map_of pr_of xs hxa
 obtain ⟨ys,e1,hyl,hya⟩:=(h4 1 23 rfl).slice uM1 lvE (by decide)
 obtain ⟨fs,rfl,hfs⟩:=map_of ev_of ys hya
 match cs,hc with
 | [c0,c1],_=>
  have e0:c0=psV ps:=e0
  have e1:c1=fsV fs:=e1
  subst e0 e1
  exact ⟨ps,fs,rfl,⟨by simpa using hxl,by simpa using hyl,fun p hp=>(hps p hp).1⟩,⟨fun p hp=>(hps p hp).2,hfs⟩⟩
theorem modelMay_door (os:Os)(args:Array Value):laidMetH Tryz.prog Rows.modelMayRow.laid ((World.laidAll Tryz.prog os (Rows.modelMayRow.laid.filter fun x=>x.2.handleName?.isNone)).forCall (fun _ _=>0) ⟨#[],args,[]⟩).memory:=
 laidMetH_of_parts3 (fuel:=8) (laidMet_laidAll args (by kernel_rfl) (by kernel_rfl)) (by kernel_rfl) (by kernel_rfl)
theorem modelMay_lifted (os:Os)(started:os.Started)(H:Type)(enc:TypeId×Value→H):
  ReturnsInHanded {} Tryz.checked os 4 .any (fun w args=>(Rows.modelMaySpec.pre enc Tryz.prog Tryz.f4 [] false w args∧laidMetH Tryz.prog Rows.modelMayRow.laid w)∧sizedMet enc Tryz.prog Tryz.f4 (OpenSpec.ofChange Rows.modelMaySpec) false w args)
   (Rows.modelMaySpec.post enc Tryz.prog Tryz.f4 false true false false):=by
 refine returnsInHanded_of_change_and (C:=Tryz.checked) (X:=fun w _=>laidMetH Tryz.prog Rows.modelMayRow.laid w) (fun _ _ _ hh h=>h.of_heap hh) own started (by kernel_rfl) Tryz.func4
  (ChangeSpec.witness_shaped (enc:=enc) (C:=Tryz.checked) (os:=os) (X:=fun w _=>laidMetH Tryz.prog Rows.modelMayRow.laid w) false (World.laidAll Tryz.prog os (Rows.modelMayRow.laid.filter fun x=>x.2.handleName?.isNone)) #[.agg #[.slice none 0 0, .slice none 0 0], .int .i64 0] 8 (World.laidAll_os _ _ _) (World.shaped_of_ZipB (by kernel_rfl) (by kernel_rfl)) (by kernel_rfl) (by kernel_rfl) (by kernel_rfl) (modelMay_door os _)) ?_
 intro W base args ds gs before hval0 hW _ _ hL _
 have hval:∀(j:Nat) t v,Tryz.f4.params[j]? =some t→args[j]? =some v→Value.okWide Tryz.prog W .any base t v:=hval0
 have hW':=hW
 obtain ⟨p,q,hA0,hV,rfl,hfz,hnd⟩:=hW
 have hA:DataW.TrodAll enc Tryz.prog W 0 (fun _=>true) true Tryz.f4.params.toList args.toList ds p:=hA0
 rw [Tryz.params4] at hA hval
 obtain ⟨us,ha,hlen,hsh⟩:=args_of (ts:=[25,3]) (fun j t v h1 h2=>hval j t v (by simpa using h1) (by simpa using h2)) hA (by kernel_rfl)
 obtain ⟨d0,d1,rfl⟩:∃d0 d1,ds=[d0,d1]:=by
  obtain ⟨v0,v1,d0,d1,p0,p1,-,hd,-⟩:=trodAll_two hA
  exact ⟨d0,d1,hd⟩
 match us,hlen with
 | [u0,u1],_=>
  obtain ⟨ps,fs,rfl,hok,hI⟩:=m_of (hsh 0 25 rfl)
  obtain ⟨a,rfl,ha9⟩:=((hsh 1 3 rfl).leaf lvI (by rw[aI];decide)).int uA0
  have ha':ARep (cx0 W) W.heap s0.L [mV ps fs, .i .i64 a] args:=by simpa using ha
  exact law_post (tb:=4) (by kernel_rfl) (by kernel_rfl) (by kernel_rfl) (show Tryz.prog.underlying 4=some .bool by kernel_rfl) rfl (fun gs=>by cases gs<;>rfl) hW' (gt1_of hL) ha'
   (mmlaw_den ps fs a hok hI (wf_i64 ha9) s0 (fun l o h=>by simp[s0_get] at h))
theorem modelMay_holds:Rows.ModelMaySaid:=
 OpenClaim.holds_of_wide 4 Tryz.f4 rfl rfl rfl rfl rfl rfl rfl ⟨rfl,rfl,rfl,rfl,rfl⟩ rfl rfl rfl rfl rfl (by kernel_rfl) Tryz.func4 (by kernel_rfl)
  (of_decide_eq_true (by kernel_rfl)) (by unfold Func.isWrapper;first|(rw[if_pos (by decide+kernel)];kernel_rfl)|(rw[if_neg (by decide+kernel)];exact⟨rfl,rfl⟩))
  (fun os started H enc _=>modelMay_lifted os started H enc)
theorem modelMay_card:Rows.ModelMayCardSaid:=
 Claim7.holds_tied_plain_at .later [] [.data, .data, .data, .data, .sentinel, .sentinel, .pinned] true (true, "938bec9565b22ba776ccfc0c983d2e3a30a9170f99d461c3f3cb6863ed2e3b20") true
  modelMay_holds (fun _ h=>by cases h) (by kernel_rfl) (fun _ h=>by cases h) modelMay_row_tie rfl ⟨rfl,rfl⟩ (by kernel_rfl) rfl
  (fun f fn hf hfn=>by
   obtain rfl:f=4:=Option.some.inj ((show Tryz.prog.funcNamed Tryz.f4.name=some 4 by kernel_rfl).symm.trans hf) |>.symm
   obtain rfl:fn=Tryz.f4:=(Option.some.inj (Tryz.func4.symm.trans hfn)).symm
   exact ⟨by kernel_rfl,fun j t ht=>by
    rw [Tryz.params4] at ht
    have h3:t=3∨t=25:=by
     rcases j with _|_|j
     ·have:=ht.symm;simp at this;subst this;decide
     ·have:=ht.symm;simp at this;subst this;decide
     ·simp at ht
    rcases h3 with rfl|rfl
    ·exact(show Tryz.prog.wantsStandIn 3=false by kernel_rfl)
    ·exact(show Tryz.prog.wantsStandIn 25=false by kernel_rfl)⟩)
  (by kernel_rfl)
#print axioms modelMay_card
end Go.Proofs.YtlhopiehnaabgaaGreatDoor
