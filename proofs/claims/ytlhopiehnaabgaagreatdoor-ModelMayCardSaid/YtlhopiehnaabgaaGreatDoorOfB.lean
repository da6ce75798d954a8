import Derived.Test.YtlhopiehnaabgaaGreatDoorLE
import Derived.Test.YtlhopiehnaabgaaGreatDoorCodeT
import Derived.Test.YtlhopiehnaabgaaGreatDoorMay2
set_option linter.all false
namespace Go.Proofs.YtlhopiehnaabgaaGreatDoor
open Go Rf
set_option maxRecDepth 100000
set_option maxHeartbeats 400000
noncomputable def gf6:{c:F // cF gt0 Tryz.prog (wfa 6) 6=some c}:=⟨_,by conv=>lhs;reduce;simp only[oi,ou,on1]⟩
noncomputable def f6:F:=gf6.1
theorem hF6:cF gt0 Tryz.prog (wfa 6) 6=some f6:=gf6.2
noncomputable def gf43:{c:F // cF gt0 Tryz.prog (wfa 43) 43=some c}:=⟨_,by conv=>lhs;reduce;simp only[oi,ou,on1]⟩
noncomputable def f43:F:=gf43.1
theorem hF43:cF gt0 Tryz.prog (wfa 43) 43=some f43:=gf43.2
noncomputable def gf44:{c:F // cF gt0 Tryz.prog (wfa 44) 44=some c}:=⟨_,by conv=>lhs;reduce;simp only[oi,ou,on1]⟩
noncomputable def f44:F:=gf44.1
theorem hF44:cF gt0 Tryz.prog (wfa 44) 44=some f44:=gf44.2
noncomputable def gf45:{c:F // cF gt0 Tryz.prog (wfa 45) 45=some c}:=⟨_,by conv=>lhs;reduce;simp only[oi,ou,on1]⟩
noncomputable def f45:F:=gf45.1
theorem hF45:cF gt0 Tryz.prog (wfa 45) 45=some f45:=gf45.2
noncomputable def gf13:{c:F // cF gt0 Tryz.prog (wfa 13) 13=some c}:=⟨_,by conv=>lhs;reduce;simp only[oi,ou,on1]⟩
noncomputable def f13:F:=gf13.1
theorem hF13:cF gt0 Tryz.prog (wfa 13) 13=some f13:=gf13.2
noncomputable def gf21:{c:F // cF gt0 Tryz.prog (wfa 21) 21=some c}:=⟨_,by conv=>lhs;reduce;simp only[oi,ou,on1]⟩
noncomputable def f21:F:=gf21.1
theorem hF21:cF gt0 Tryz.prog (wfa 21) 21=some f21:=gf21.2
noncomputable def gf40:{c:F // cF gt0 Tryz.prog (wfa 40) 40=some c}:=⟨_,by conv=>lhs;reduce;simp only[oi,ou,on1]⟩
noncomputable def f40:F:=gf40.1
theorem hF40:cF gt0 Tryz.prog (wfa 40) 40=some f40:=gf40.2
noncomputable def gf67:{c:F // cF gt0 Tryz.prog (wfa 67) 67=some c}:=⟨_,by conv=>lhs;reduce;simp only[oi,ou,on1]⟩
noncomputable def f67:F:=gf67.1
theorem hF67:cF gt0 Tryz.prog (wfa 67) 67=some f67:=gf67.2
noncomputable def gf68:{c:F // cF gt0 Tryz.prog (wfa 68) 68=some c}:=⟨_,by conv=>lhs;reduce;simp only[oi,ou,on1]⟩
noncomputable def f68:F:=gf68.1
theorem hF68:cF gt0 Tryz.prog (wfa 68) 68=some f68:=gf68.2
end Go.Proofs.YtlhopiehnaabgaaGreatDoor
set_option linter.all false
namespace Go.Proofs.YtlhopiehnaabgaaGreatDoor
open Go Rf
set_option maxRecDepth 100000
set_option maxHeartbeats 2000000
theorem NoX_s0:NoX s0:=fun l o h=>by simp[s0_get] at h
theorem NoX.new {s:St}(h:NoX s){cs:List V}{z:Nat}{t:Option Nat}:NoX (s.new (.c cs z t)):=fun l o hg=>by
 by_cases e:l=s.n
 ·subst e;rw[St.get_new_same] at hg;cases hg
 ·rw[St.get_new_ne _ _ _ e] at hg;exact h l o hg
theorem NoX.put {s:St}(h:NoX s){j:Nat}{cs:List V}{z:Nat}{t:Option Nat}:NoX (s.put j (some (.c cs z t))):=fun l o hg=>by
 by_cases e:l=j
 ·subst e;rw[St.get_put_same] at hg;cases hg
 ·rw[St.get_put_ne _ _ _ _ e] at hg;exact h l o hg
def badV:V:= .tu [.ag [.i .i64 0, .ns], .i .i64 0, .i .i64 3]
def ofB (bs:List UInt8):Option (Int×List Kd×Nat):=match progP bs with
 | some (v,ks,a)=>if mayP v ks=true then some (v,ks,a) else none
 | none=>none
def ofV:Option (Int×List Kd×Nat)→V
 | some (v,ks,a)=> .tu [pgV v ks, .i .i64 (a:Nat), .i .i64 0]
 | none=>badV
theorem ofV_nm {L:Nat→Prop}(x:Option (Int×List Kd×Nat)):Nm L (ofV x):=by
 cases x with
 | none=>exact .tu _ (nm3 (.ag _ (nm2 (.i _ _) .ns)) (.i _ _) (.i _ _))
 | some x=>exact .tu _ (nm3 (pgV_nm _ _) (.i _ _) (.i _ _))
theorem progP_le {bs:List UInt8}{v:Int}{ks:List Kd}{a:Nat}(h:progP bs=some (v,ks,a)):a≤bs.length∧ks.length≤255∧∀k∈ks,k.length≤255:=by
 unfold progP at h
 split at h
 ·rename_i v0 n h0 h1
  split at h
  ·cases h
  ·rename_i ks' a' hk
   cases h
   have hb:=(List.getElem?_eq_some_iff.1 h1).1
   obtain ⟨g1,g2,g3⟩:=ksI_le (by omega) _ hk
   have :=n.toNat_lt
   exact ⟨g1,by omega,g3⟩
 ·cases h
def wm:Nat→Nat→Nat→Bool:=fun _ _ _=>false
noncomputable def c0 (bs:List UInt8):Cfg:=entC Tryz.prog 69 [bsV bs] s0
noncomputable def c1 (bs:List UInt8):Cfg:=thenD gt0 Tryz.prog wm kn0 kn0 22 (c0 bs)
def sR (bs:List UInt8):St:=(((s0.new (.c [.i .i64 0, .ns] 0 (some 48))).new (.c [.i .i64 0] 0 (some 3))).new (.c [.i .i64 0] 0 (some 30))).new (rdO bs 0 (some 136))
noncomputable def c2 (bs:List UInt8)(v:Int)(ks:List Kd)(a:Nat):Cfg:=cNext (c1 bs) (pgV v ks) ((sR bs).put 3 (some (rdO bs a (some 136))))
theorem c1_call (bs:List UInt8):cAt Tryz.prog (c1 bs)=some (91,[.p 3 0]):=by kernel_rfl
theorem c1_st (bs:List UInt8):(c1 bs).2.2=sR bs:=by kernel_rfl
theorem c1_some (bs:List UInt8):(thenA gt0 Tryz.prog wm kn0 kn0 22 (c0 bs)).isSome=true:=by kernel_rfl
theorem pan_last (bs:List UInt8):(runA gt0 Tryz.prog wm kn0 kn0 69 300 (cPan (c1 bs) (.ifc 133 (.ag [])) ((sR bs).put 3 (some (rdO bs bs.length (some 136))))).1 (cPan (c1 bs) (.ifc 133 (.ag [])) ((sR bs).put 3 (some (rdO bs bs.length (some 136))))).2.1 (cPan (c1 bs) (.ifc 133 (.ag [])) ((sR bs).put 3 (some (rdO bs bs.length (some 136))))).2.2).map (·.1)=some badV:=by kernel_rfl
noncomputable def c3 (bs:List UInt8)(v:Int)(ks:List Kd)(a:Nat):Cfg:=thenD gt0 Tryz.prog wm kn0 kn0 5 (c2 bs v ks a)
def sP (bs:List UInt8)(v:Int)(ks:List Kd)(a:Nat):St:=((sR bs).put 3 (some (rdO bs a (some 136)))).put 0 (some (.c [.i .i64 v,ksV ks] 0 (some 48)))
section
variable (bs:List UInt8) (v:Int) (ks:List Kd) (a:Nat)
theorem c2_some:(thenA gt0 Tryz.prog wm kn0 kn0 5 (c2 bs v ks a)).isSome=true:=by kernel_rfl
theorem c3_call:cAt Tryz.prog (c3 bs v ks a)=some (39,[pgV v ks]):=by kernel_rfl
theorem c3_st:(c3 bs v ks a).2.2=sP bs v ks a:=by kernel_rfl
noncomputable def c4:Cfg:=thenD gt0 Tryz.prog wm kn0 kn0 5 (cNext (c3 bs v ks a) (.b true) (sP bs v ks a))
theorem c4_some:(thenA gt0 Tryz.prog wm kn0 kn0 5 (cNext (c3 bs v ks a) (.b true) (sP bs v ks a))).isSome=true:=by kernel_rfl
theorem c4_drw:(cDrwU gt0 Tryz.prog wm kn0 (c4 bs v ks a)).map (·.2)=some [(.i .i64 (a:Nat), .i .i64 (a:Nat))]:=by kernel_rfl
noncomputable def c5:Cfg:=cDrwN gt0 Tryz.prog wm kn0 (c4 bs v ks a)
theorem fine_last:(runA gt0 Tryz.prog wm kn0 kn0 69 300 (c5 bs v ks a).1 (c5 bs v ks a).2.1 (c5 bs v ks a).2.2).map (·.1)=some (.tu [pgV v ks, .i .i64 (a:Nat), .i .i64 0]):=by kernel_rfl
theorem bad_last:(runA gt0 Tryz.prog wm kn0 kn0 69 300 (cNext (c3 bs v ks a) (.b false) (sP bs v ks a)).1 (cNext (c3 bs v ks a) (.b false) (sP bs v ks a)).2.1 (cNext (c3 bs v ks a) (.b false) (sP bs v ks a)).2.2).map (·.1)=some badV:=by kernel_rfl
end
theorem sR_nox (bs:List UInt8):NoX (sR bs):=NoX.new (NoX.new (NoX.new (NoX.new NoX_s0)))
theorem sP_nox (bs:List UInt8)(v:Int)(ks:List Kd)(a:Nat):NoX (sP bs v ks a):=NoX.put (NoX.put (sR_nox bs))
theorem sR_get (bs:List UInt8):(sR bs).get 3=some (rdO bs 0 (some 136)):=St.get_new_same _ _
theorem ofB_den (bs:List UInt8)(hb:bs.length≤300000):PDen gt0 Tryz.prog 69 [bsV bs] (ofV (ofB bs)):=by
 have h:∃s',Den gt0 Tryz.prog 69 [bsV bs] s0 (ofV (ofB bs)) s':=by
  refine Evx.den (by kernel_rfl) ?_
  show Evx gt0 Tryz.prog 69 _ (c0 bs)
  refine Evx.runD mixed (kn0_ok) (kn0_ok) 22 (c1_some bs) ?_
  show Evx gt0 Tryz.prog 69 _ (c1 bs)
  unfold ofB
  cases hp:progP bs with
  | none=>
   refine Evx.panc mixed (c1_call bs) (c1_st bs) (prog_pan _ _ bs (some 136) (sR_get bs) hb (sR_nox bs) hp) ?_
   exact Evx.lastD mixed kn0_ok kn0_ok 300 (pan_last bs)
  | some x=>
   obtain ⟨v,ks,a⟩:=x
   show Evx gt0 Tryz.prog 69 (ofV (if mayP v ks=true then some (v,ks,a) else none)) _
   refine Evx.callc mixed (c1_call bs) (c1_st bs) (prog_den _ _ bs (some 136) (sR_get bs) hb (sR_nox bs) hp) ?_
   show Evx gt0 Tryz.prog 69 (ofV (if mayP v ks=true then some (v,ks,a) else none)) (c2 bs v ks a)
   refine Evx.runD mixed kn0_ok kn0_ok 5 (c2_some bs v ks a) ?_
   show Evx gt0 Tryz.prog 69 _ (c3 bs v ks a)
   obtain ⟨-,h2,h3⟩:=progP_le hp
   refine Evx.callc mixed (c3_call bs v ks a) (c3_st bs v ks a) (may_den v ks h2 h3 _ (sP_nox bs v ks a)) ?_
   cases mayP v ks with
   | true=>
    refine Evx.runD mixed kn0_ok kn0_ok 5 (c4_some bs v ks a) ?_
    show Evx gt0 Tryz.prog 69 _ (c4 bs v ks a)
    refine Evx.drwc mixed kn0_ok kn0_ok (c4_drw bs v ks a) (fun p hp=> ?_) ?_
    ·simp only[List.mem_singleton] at hp;subst hp;exact sameV_i _ _
    show Evx gt0 Tryz.prog 69 _ (c5 bs v ks a)
    exact Evx.lastD mixed kn0_ok kn0_ok 300 (fine_last bs v ks a)
   | false=>exact Evx.lastD mixed kn0_ok kn0_ok 300 (bad_last bs v ks a)
 obtain ⟨s',h⟩:=h
 exact Den.pure gnm0 (fun x hx=>by simp only[List.mem_singleton] at hx;subst hx;exact bsV_nm _) (ofV_nm _) h
end Go.Proofs.YtlhopiehnaabgaaGreatDoor
