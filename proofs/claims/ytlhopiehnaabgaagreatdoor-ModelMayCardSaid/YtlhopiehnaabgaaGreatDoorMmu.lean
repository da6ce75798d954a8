import Derived.Test.YtlhopiehnaabgaaGreatDoorCodeT
import Derived.Test.YtlhopiehnaabgaaGreatDoorSame
import Derived.Test.YtlhopiehnaabgaaGreatDoorLE
set_option linter.all false
namespace Go.Proofs.YtlhopiehnaabgaaGreatDoor
open Go Rf
set_option maxRecDepth 100000
def f3:Rf.F:={np:=3,nt:=73,body:= .seq (.ops [⟨some 3,none, .a (.box 25 true (.t 0))⟩,⟨some 6,none, .a (.mov (.c (.b false)))⟩]) (.seq (.seq (.ops [⟨some 10,none, .a (.loadn 2 (.t 3))⟩,⟨some 11,none, .call 5 [.t 10]⟩,⟨some 12,none, .a (.mov (.t 11))⟩,⟨some 13,some (12,false), .a (.loadn 2 (.t 3))⟩,⟨some 14,some (12,false), .call 6 [.t 13]⟩,⟨some 15,some (12,false), .a (.not (.t 14))⟩,⟨some 16,none, .a (.pick (.t 12) (.c (.b true)) (.t 15))⟩]) (.cond (.t 16) (.seq (.ops [⟨some 17,none, .call 7 []⟩,⟨some 6,none, .a (.mov (.t 17))⟩]) .ret) .skip)) (.seq (.ops [⟨some 18,none, .a (.loadn 2 (.t 3))⟩,⟨some 19,none, .call 8 [.t 18]⟩,⟨some 20,none, .a (.s2b 5 false (.t 19))⟩,⟨some 7,none, .a (.mov (.t 20))⟩]) (.seq (.seq (.ops [⟨some 21,none, .a (.mov (.t 1))⟩,⟨some 22,none, .a (.bin .lss (.t 21) (.c (.i .i64 0)))⟩,⟨some 23,none, .a (.mov (.t 22))⟩,⟨some 24,some (23,false), .a (.mov (.t 1))⟩,⟨some 25,some (23,false), .a (.mov (.t 7))⟩,⟨some 26,some (23,false), .a (.len (.t 25))⟩,⟨some 27,some (23,false), .a (.bin .geq (.t 24) (.t 26))⟩,⟨some 28,none, .a (.pick (.t 23) (.c (.b true)) (.t 27))⟩,⟨some 29,none, .a (.mov (.t 28))⟩,⟨some 30,some (29,false), .a (.mov (.t 7))⟩,⟨some 31,some (29,false), .a (.mov (.t 1))⟩,⟨some 32,some (29,false), .a (.ia 1 (.t 30) (.t 31))⟩,⟨some 33,some (29,false), .a (.load1 (.t 32))⟩,⟨some 34,some (29,false), .a (.mov (.t 2))⟩,⟨some 35,some (29,false), .a (.eql false .n (.t 33) (.t 34))⟩,⟨some 36,none, .a (.pick (.t 29) (.c (.b true)) (.t 35))⟩]) (.cond (.t 36) (.seq (.ops [⟨some 37,none, .call 7 []⟩,⟨some 6,none, .a (.mov (.t 37))⟩]) .ret) .skip)) (.seq (.ops [⟨some 38,none, .a (.mov (.t 7))⟩,⟨some 39,none, .a (.mov (.t 1))⟩,⟨some 40,none, .a (.mov (.t 2))⟩,⟨some 41,none, .a (.ia 1 (.t 38) (.t 39))⟩,⟨none,none, .a (.store 1 (.t 41) (.t 40))⟩]) (.seq (.ops [⟨some 43,none, .a (.mov (.t 7))⟩,⟨some 44,none, .a (.b2s (.t 43))⟩,⟨some 45,none, .call 9 [.t 44]⟩,⟨some 42,none, .a (.mov (.t 45))⟩,⟨some 46,none, .a (.ext (.t 42) 0)⟩,⟨some 47,none, .a (.ext (.t 42) 1)⟩,⟨some 8,none, .a (.alloc 25 [.ns, .ns])⟩,⟨none,none, .a (.store 2 (.t 8) (.t 46))⟩,⟨some 9,none, .a (.mov (.t 47))⟩]) (.seq (.seq (.ops [⟨some 48,none, .a (.mov (.t 9))⟩,⟨some 49,none, .a (.eql true .n (.t 48) (.c (.i .i64 0)))⟩]) (.cond (.t 49) (.seq (.ops [⟨some 50,none, .a (.mov (.t 9))⟩,⟨some 51,none, .a (.eql false .n (.t 50) (.c (.i .i64 4)))⟩,⟨some 52,none, .a (.mov (.t 51))⟩,⟨some 53,some (52,true), .call 7 []⟩,⟨some 54,none, .a (.pick (.t 52) (.t 53) (.c (.b false)))⟩,⟨some 6,none, .a (.mov (.t 54))⟩]) .ret) .skip)) (.seq (.drw [(0,⟨some 55,none, .a (.loadn 2 (.t 8))⟩),(0,⟨some 56,none, .call 6 [.t 55]⟩),(0,⟨some 57,none, .a (.mov (.t 56))⟩),(0,⟨some 58,some (57,true), .a (.loadn 2 (.t 8))⟩),(0,⟨some 59,some (57,true), .a (.loadn 2 (.t 3))⟩),(0,⟨some 60,some (57,true), .call 10 [.t 58, .t 59]⟩),(0,⟨some 61,some (57,true), .a (.not (.t 60))⟩),(0,⟨some 62,none, .a (.pick (.t 57) (.t 61) (.c (.b false)))⟩),(0,⟨some 63,none, .a (.mov (.t 62))⟩),(0,⟨some 64,some (63,true), .a (.loadn 2 (.t 8))⟩),(0,⟨some 65,some (63,true), .call 8 [.t 64]⟩),(0,⟨some 66,some (63,true), .a (.mov (.t 7))⟩),(1,⟨some 67,some (63,true), .a (.b2s (.t 66))⟩),(0,⟨some 68,some (63,true), .a (.eql false .n (.t 65) (.t 67))⟩),(0,⟨some 69,none, .a (.pick (.t 63) (.t 68) (.c (.b false)))⟩),(0,⟨some 70,none, .a (.mov (.t 69))⟩),(0,⟨some 71,some (70,true), .call 7 []⟩),(0,⟨some 72,none, .a (.pick (.t 70) (.t 71) (.c (.b false)))⟩),(0,⟨some 6,none, .a (.mov (.t 72))⟩)]) .ret))))))),res:=[.t 6]}
def f5:Rf.F:={np:=1,nt:=38,body:= .seq (.ops [⟨some 1,none, .a (.box 25 true (.t 0))⟩,⟨some 2,none, .a (.mov (.c (.b false)))⟩]) (.seq (.seq (.ops [⟨some 4,none, .a (.fa 0 (.t 1))⟩,⟨some 5,none, .a (.load1 (.t 4))⟩,⟨some 6,none, .a (.len (.t 5))⟩,⟨some 7,none, .a (.bin .gtr (.t 6) (.c (.i .i64 20)))⟩,⟨some 8,none, .a (.mov (.t 7))⟩,⟨some 9,some (8,false), .a (.fa 1 (.t 1))⟩,⟨some 10,some (8,false), .a (.load1 (.t 9))⟩,⟨some 11,some (8,false), .a (.len (.t 10))⟩,⟨some 12,some (8,false), .a (.bin .gtr (.t 11) (.c (.i .i64 80)))⟩,⟨some 13,none, .a (.pick (.t 8) (.c (.b true)) (.t 12))⟩]) (.cond (.t 13) (.seq (.ops [⟨some 2,none, .a (.mov (.c (.b true)))⟩]) .ret) .skip)) (.seq (.seq (.ops [⟨some 3,none, .a (.mov (.c (.i .i64 0)))⟩]) (.blk 0 (.loop (.seq (.seq (.ops [⟨some 14,none, .a (.mov (.t 3))⟩,⟨some 15,none, .a (.fa 0 (.t 1))⟩,⟨some 16,none, .a (.load1 (.t 15))⟩,⟨some 17,none, .a (.len (.t 16))⟩,⟨some 18,none, .a (.bin .lss (.t 14) (.t 17))⟩]) (.cond (.t 18) .skip (.exit 0))) (.seq (.blk 1 (.seq (.ops [⟨some 21,none, .a (.fa 0 (.t 1))⟩,⟨some 22,none, .a (.load1 (.t 21))⟩,⟨some 23,none, .a (.mov (.t 3))⟩,⟨some 24,none, .a (.ia 4 (.t 22) (.t 23))⟩,⟨some 25,none, .a (.fa 0 (.t 24))⟩,⟨some 26,none, .a (.loadn 2 (.t 25))⟩,⟨some 27,none, .call 19 [.t 26]⟩,⟨some 28,none, .a (.mov (.t 27))⟩,⟨some 29,some (28,false), .a (.fa 0 (.t 1))⟩,⟨some 30,some (28,false), .a (.load1 (.t 29))⟩,⟨some 31,some (28,false), .a (.mov (.t 3))⟩,⟨some 32,some (28,false), .a (.ia 4 (.t 30) (.t 31))⟩,⟨some 33,some (28,false), .a (.fa 2 (.t 32))⟩,⟨some 34,some (28,false), .a (.load1 (.t 33))⟩,⟨some 35,some (28,false), .a (.len (.t 34))⟩,⟨some 36,some (28,false), .a (.bin .gtr (.t 35) (.c (.i .i64 20)))⟩,⟨some 37,none, .a (.pick (.t 28) (.c (.b true)) (.t 36))⟩]) (.cond (.t 37) (.seq (.ops [⟨some 2,none, .a (.mov (.c (.b true)))⟩]) .ret) .skip))) (.ops [⟨some 19,none, .a (.mov (.t 3))⟩,⟨some 20,none, .a (.bin .add (.t 19) (.c (.i .i64 1)))⟩,⟨some 3,none, .a (.mov (.t 20))⟩])))))) (.seq (.ops [⟨some 2,none, .a (.mov (.c (.b false)))⟩]) .ret))),res:=[.t 2]}
theorem hF5:Rf.cF gt0 Tryz.prog (wfa 5) 5=some f5:=by kernel_rfl
end Go.Proofs.YtlhopiehnaabgaaGreatDoor
set_option linter.all false
namespace Go.Proofs.YtlhopiehnaabgaaGreatDoor
open Go Rf
set_option maxRecDepth 100000
set_option maxHeartbeats 4000000
def muchP (p:Pr):Bool:=much p.1.2||decide (20<p.2.1.length)
def muchM (ps:List Pr)(fs:List Ev):Bool:=decide (20<ps.length)||decide (80<fs.length)||ps.any muchP
def EMM (ps:List Pr)(fs:List Ev)(i:Nat):List V:= .bad:: .q (mV ps fs) 0:: .b false:: .i .i64 (i:Nat)::List.replicate 34 .bad
theorem mmuch_den (ps : List Pr) (fs : List Ev) (hl : ps.length ≤ maxLen) (hk : ∀ p ∈ ps, p.1.2.length ≤ maxLen) : PDen gt0 Tryz.prog 5 [mV ps fs] (.b (muchM ps fs)) := by
  generalize hB : muchM ps fs = B
  refine PDen.hc gnm0 hF5 (nm1 (mV_nm _ _)) (.b _) ?_
  have hlx : (ps.map prV).length = ps.length := List.length_map ..
  have hly : (fs.map evV).length = fs.length := List.length_map ..
  conv => whnf
  refine sgo ?_
  refine brB_iff.2 ⟨fun h => ?_, fun h => ?_⟩ <;> conv => whnf
  · refine sgo ?_
    have : 20 < ps.length := by rw [ltZ_eq] at h; simp at h; omega
    rw [← hB]; simp [muchM, this]
  · have h20 : ¬ 20 < ps.length := by rw [ltZ_eq] at h; simp at h; omega
    refine sgo ?_
    refine brB_iff.2 ⟨fun h => ?_, fun h => ?_⟩ <;> conv => whnf
    · refine sgo ?_
      have : 80 < fs.length := by rw [ltZ_eq] at h; simp at h; omega
      rw [← hB]; simp [muchM, this]
    · have h80 : ¬ 80 < fs.length := by rw [ltZ_eq] at h; simp at h; omega
      refine sgo ?_
      refine HC.loop gnm0 fun hg => ⟨fun n e s => s = s0 ∧ ∃ i : Nat, i ≤ ps.length ∧ n = ps.length - i ∧ e = EMM ps fs i ∧ ∀ p ∈ ps.take i, muchP p = false, ⟨ps.length, fg [1, 2, 3] _, _, Wk.fg hg.1 hg.2, rfl, 0, Nat.zero_le _, rfl, rfl, fun k hk => by simp at hk⟩, ?_⟩
      rintro n e s ⟨rfl, i, hi, rfl, rfl, ht⟩
      conv => whnf
      refine sgo ?_
      refine brB_iff.2 ⟨fun h1 => ?_, fun h1 => ?_⟩ <;> conv => whnf
      · have hlt : i < ps.length := by rw [ltZ_eq] at h1; simp at h1; omega
        have hmx : (ps.map prV)[((i : Nat) : Int).toNat]? = some (prV ps[i]) := by simp [hlt]
        have hgx : ps[i]? = some ps[i] := by simp [hlt]
        have hkl := hk ps[i] (List.getElem_mem hlt)
        generalize ps[i] = a at hmx hgx hkl
        have hla : (a.2.1.map iV).length = a.2.1.length := List.length_map ..
        have d1 := much_den a.1.1 a.1.2 hkl
        have hw := wrap_succ hlt hl
        have bad : muchP a = true → V.b true = V.b B := fun h => by
          have : ps.any muchP = true := List.any_eq_true.2 ⟨a, List.mem_of_getElem? hgx, h⟩
          rw [← hB]; simp [muchM, this]
        generalize h2 : much a.1.2 = m1 at d1
        repeat' (first | refine sgw ?_ | (refine ⟨rfl, Int.natCast_nonneg _, _, hmx, ?_⟩; conv => whnf) | (refine ⟨_, _, d1 _, ?_⟩; conv => whnf) | (refine brB_iff.2 ⟨fun hc => ?_, fun hc => ?_⟩ <;> conv => whnf))
        all_goals first
          | (refine bad ?_
             simp_all [muchP, ltZ_eq]
             done)
          | (refine bad ?_
             simp_all [muchP, ltZ_eq]
             omega)
          | (intro hg'
             rw [hw]
             have hp : muchP a = false := by
               simp only [muchP, Bool.or_eq_false_iff, decide_eq_false_iff_not]
               refine ⟨by simp_all, ?_⟩
               simp_all [ltZ_eq]
               try omega
             refine ⟨ps.length - (i + 1), fg [1, 2, 3] _, _, by omega, Wk.fg hg'.1 hg'.2, rfl, i + 1, hlt, rfl, rfl, fun k hk => ?_⟩
             rw [List.take_add_one, hgx] at hk
             rcases List.mem_append.1 hk with hk | hk
             · exact ht k hk
             · simp at hk; subst hk; exact hp)
      · have hge : ps.length ≤ i := by rw [ltZ_eq] at h1; simp at h1; omega
        refine sgo ?_
        rw [List.take_of_length_le hge] at ht
        rw [← hB]
        have : ps.any muchP = false := List.any_eq_false.2 fun k hk => by simpa using ht k hk
        simp [muchM, this, h20, h80]
def okM (ps:List Pr)(fs:List Ev):Prop:=ps.length≤20∧fs.length≤80∧∀p∈ps,p.1.2.length≤12∧(∀k∈p.1.2,k.length≤200)∧p.2.1.length≤20
theorem of_muchM {ps:List Pr}{fs:List Ev}(h:muchM ps fs=false):okM ps fs:=by
 simp only[muchM,Bool.or_eq_false_iff,decide_eq_false_iff_not,List.any_eq_false] at h
 refine ⟨by omega,by omega,fun p hp=> ?_⟩
 have h3:=h.2 p hp
 simp only[muchP,much,Bool.not_eq_true,Bool.or_eq_false_iff,decide_eq_false_iff_not,List.any_eq_false,decide_eq_true_eq] at h3
 exact ⟨by omega,fun k hk=>by have:=h3.1.2 k hk;omega,by omega⟩
end Go.Proofs.YtlhopiehnaabgaaGreatDoor
