/-
  Contracts: may an event stand? by both roads. No statement stands here.
-/
import Derived.Test.YtlhopiehnaabgaaGreatDoorLE
import Derived.Test.YtlhopiehnaabgaaGreatDoorCodeM
import Derived.Test.YtlhopiehnaabgaaGreatDoorPlain
set_option linter.all false
namespace Go.Proofs.YtlhopiehnaabgaaGreatDoor
open Go Rf
set_option maxRecDepth 100000
set_option maxHeartbeats 2000000

theorem evV_nml (e : Ev) : Nml (evV e) := .ag (nmlc (.i _ _) (nmlc (.i _ _) (nmlc (.i _ _) (nmlc (.i _ _) (nmlc (.i _ _) (nmlc (.i _ _) nml0))))))
def wi (a b c : Int) : Bool := decide (b ≤ a) && decide (a ≤ c)
def mayE (e : Ev) (n : Int) : Bool := wi e.1 0 1099511627776 && (wi e.2.1 0 17 && (wi e.2.2.1 0 4611686018427387904 && (wi e.2.2.2.1 1 n && wi e.2.2.2.2.1 0 7)))

theorem wi64_den (a b c : Int) : PDen gt0 Tryz.prog 67 [.i .i64 a, .i .i64 b, .i .i64 c] (.b (wi a b c)) := by
  generalize hB : wi a b c = B
  refine PDen.hc gnm0 hF67 (nm3 (.i _ _) (.i _ _) (.i _ _)) (.b _) ?_
  conv => whnf
  repeat' (first | refine sgw ?_ | (refine brB_iff.2 ⟨fun hc => ?_, fun hc => ?_⟩ <;> conv => whnf))
  all_goals
    subst hB
    simp only [leZ_eq, decide_eq_true_eq, decide_eq_false_iff_not] at *
    simp_all [wi]
    try omega
theorem wi_den (a b c : Int) : PDen gt0 Tryz.prog 68 [.i .i64 a, .i .i64 b, .i .i64 c] (.b (wi a b c)) := by
  generalize hB : wi a b c = B
  refine PDen.hc gnm0 hF68 (nm3 (.i _ _) (.i _ _) (.i _ _)) (.b _) ?_
  conv => whnf
  repeat' (first | refine sgw ?_ | (refine brB_iff.2 ⟨fun hc => ?_, fun hc => ?_⟩ <;> conv => whnf))
  all_goals
    subst hB
    simp only [leZ_eq, decide_eq_true_eq, decide_eq_false_iff_not] at *
    simp_all [wi]
    try omega
theorem mayE_den (e : Ev) (n : Int) : PDen gt0 Tryz.prog 40 [evV e, .i .i64 n] (.b (mayE e n)) := by
  obtain ⟨t, o, q, to, kd, d⟩ := e
  generalize hB : mayE ⟨t, o, q, to, kd, d⟩ n = B
  refine PDen.hc gnm0 hF40 (nm2 (evV_nml _ _) (.i _ _)) (.b _) ?_
  conv => whnf
  refine sgq ?_
  refine ⟨_, _, wi64_den _ _ _ _, ?_⟩
  cases h1 : wi t 0 1099511627776 <;> conv => whnf
  · refine sgo ?_
    subst hB; simp [mayE, h1]
  refine sgo ?_
  refine ⟨_, _, wi_den _ _ _ _, ?_⟩
  cases h2 : wi o 0 17 <;> conv => whnf
  · refine sgo ?_
    subst hB; simp [mayE, h2]
  refine sgo ?_
  refine ⟨_, _, wi64_den _ _ _ _, ?_⟩
  cases h3 : wi q 0 4611686018427387904 <;> conv => whnf
  · refine sgo ?_
    subst hB; simp [mayE, h3]
  refine sgo ?_
  refine ⟨_, _, wi_den _ _ _ _, ?_⟩
  cases h4 : wi to 1 n <;> conv => whnf
  · refine sgo ?_
    subst hB; simp [mayE, h4]
  refine sgo ?_
  refine ⟨_, _, wi_den _ _ _ _, ?_⟩
  cases h5 : wi kd 0 7 <;> conv => whnf
  · refine sgo ?_
    subst hB; simp [mayE, h5]
  refine sgo ?_
  subst hB; simp [mayE, h1, h2, h3, h4, h5]
theorem rmayE_den (e : Ev) (n : Int) : PDen gt0 Tryz.prog 21 [evV e, .i .i64 n] (.b (mayE e n)) := by
  obtain ⟨t, o, q, to, kd, d⟩ := e
  generalize hB : mayE ⟨t, o, q, to, kd, d⟩ n = B
  refine PDen.hc gnm0 hF21 (nm2 (evV_nml _ _) (.i _ _)) (.b _) ?_
  conv => whnf
  repeat ((first | refine HO.opA (krun_box nthx (by rfl)) ?_ | refine HC.seq ?_ | refine HC.ops ?_ | refine HO.k ?_ | refine HO.nil ?_); conv => whnf)
  repeat' (first | refine sgw ?_ | (refine brB_iff.2 ⟨fun hc => ?_, fun hc => ?_⟩ <;> conv => whnf))
  all_goals
    cases hq : ltZ kd 8 <;> cases B
  all_goals first
    | rfl
    | (simp only [hq]; rfl)
    | (rw [hq]; rfl)
    | (exfalso; simp only [leZ_eq, ltZ_eq, mayE, wi, Bool.and_eq_true, Bool.and_eq_false_iff, decide_eq_true_eq, decide_eq_false_iff_not] at *; omega)
end Go.Proofs.YtlhopiehnaabgaaGreatDoor
