/-
  How much a model is. No statement stands here.
-/
import Derived.Test.YtlhopiehnaabgaaGreatDoorSame
import Derived.Test.YtlhopiehnaabgaaGreatDoorCodeZ
import Derived.Test.YtlhopiehnaabgaaGreatDoorLE
set_option linter.all false
namespace Go.Proofs.YtlhopiehnaabgaaGreatDoor
open Go Rf
set_option maxRecDepth 100000
set_option maxHeartbeats 4000000

def muchP (p : Pr) : Bool := much p.1.2 || decide (20 < p.2.1.length)
def muchM (ps : List Pr) (fs : List Ev) : Bool := decide (20 < ps.length) || decide (80 < fs.length) || ps.any muchP
def EMM (ps : List Pr) (fs : List Ev) (i : Nat) : List V := .bad :: .q (mV ps fs) 0 :: .b false :: .i .i64 (i : Nat) :: List.replicate 34 .bad
theorem mmuch_den (ps : List Pr) (fs : List Ev) (hl : ps.length ≤ maxLen) (hk : ∀ p ∈ ps, p.1.2.length ≤ maxLen) : PDen gt0 Tryz.prog 5 [mV ps fs] (.b (muchM ps fs)) := by
  generalize hB : muchM ps fs = B
  refine PDen.hc gnm0 hF5 (nm1 (mV_nm _ _)) (.b _) ?_
  have hlx : (ps.map prV).length = ps.length := List.length_map ..
  have hly : (fs.map evV).length = fs.length := List.length_map ..
  conv => whnf
  refine sgo ?_
  refine brB_iff.2 ⟨fun h => ?_, fun h => ?_⟩ <;> conv => whnf
  · refine sgo ?_
    have : 20 < ps.length := by rw [ltZ_eq] at h; simp at h; omega
    rw [← hB]; simp [muchM, this]
  · have h20 : ¬ 20 < ps.length := by rw [ltZ_eq] at h; simp at h; omega
    refine sgo ?_
    refine brB_iff.2 ⟨fun h => ?_, fun h => ?_⟩ <;> conv => whnf
    · refine sgo ?_
      have : 80 < fs.length := by rw [ltZ_eq] at h; simp at h; omega
      rw [← hB]; simp [muchM, this]
    · have h80 : ¬ 80 < fs.length := by rw [ltZ_eq] at h; simp at h; omega
      refine sgo ?_
      refine HC.loop gnm0 fun hg => ⟨fun n e s => s = s0 ∧ ∃ i : Nat, i ≤ ps.length ∧ n = ps.length - i ∧ e = EMM ps fs i ∧ ∀ p ∈ ps.take i, muchP p = false, ⟨ps.length, fg [1, 2, 3] _, _, Wk.fg hg.1 hg.2, rfl, 0, Nat.zero_le _, rfl, rfl, fun k hk => by simp at hk⟩, ?_⟩
      rintro n e s ⟨rfl, i, hi, rfl, rfl, ht⟩
      conv => whnf
      refine sgo ?_
      refine brB_iff.2 ⟨fun h1 => ?_, fun h1 => ?_⟩ <;> conv => whnf
      · have hlt : i < ps.length := by rw [ltZ_eq] at h1; simp at h1; omega
        have hmx : (ps.map prV)[((i : Nat) : Int).toNat]? = some (prV ps[i]) := by simp [hlt]
        have hgx : ps[i]? = some ps[i] := by simp [hlt]
        have hkl := hk ps[i] (List.getElem_mem hlt)
        generalize ps[i] = a at hmx hgx hkl
        have hla : (a.2.1.map iV).length = a.2.1.length := List.length_map ..
        have d1 := much_den a.1.1 a.1.2 hkl
        have hw := wrap_succ hlt hl
        have bad : muchP a = true → V.b true = V.b B := fun h => by
          have : ps.any muchP = true := List.any_eq_true.2 ⟨a, List.mem_of_getElem? hgx, h⟩
          rw [← hB]; simp [muchM, this]
        generalize h2 : much a.1.2 = m1 at d1
        repeat' (first | refine sgw ?_ | (refine ⟨rfl, Int.natCast_nonneg _, _, hmx, ?_⟩; conv => whnf) | (refine ⟨_, _, d1 _, ?_⟩; conv => whnf) | (refine brB_iff.2 ⟨fun hc => ?_, fun hc => ?_⟩ <;> conv => whnf))
        all_goals first
          | (refine bad ?_
             simp_all [muchP, ltZ_eq]
             done)
          | (refine bad ?_
             simp_all [muchP, ltZ_eq]
             omega)
          | (intro hg'
             rw [hw]
             have hp : muchP a = false := by
               simp only [muchP, Bool.or_eq_false_iff, decide_eq_false_iff_not]
               refine ⟨by simp_all, ?_⟩
               simp_all [ltZ_eq]
               try omega
             refine ⟨ps.length - (i + 1), fg [1, 2, 3] _, _, by omega, Wk.fg hg'.1 hg'.2, rfl, i + 1, hlt, rfl, rfl, fun k hk => ?_⟩
             rw [List.take_add_one, hgx] at hk
             rcases List.mem_append.1 hk with hk | hk
             · exact ht k hk
             · simp at hk; subst hk; exact hp)
      · have hge : ps.length ≤ i := by rw [ltZ_eq] at h1; simp at h1; omega
        refine sgo ?_
        rw [List.take_of_length_le hge] at ht
        rw [← hB]
        have : ps.any muchP = false := List.any_eq_false.2 fun k hk => by simpa using ht k hk
        simp [muchM, this, h20, h80]
def okM (ps : List Pr) (fs : List Ev) : Prop := ps.length ≤ 20 ∧ fs.length ≤ 80 ∧ ∀ p ∈ ps, p.1.2.length ≤ 12 ∧ (∀ k ∈ p.1.2, k.length ≤ 200) ∧ p.2.1.length ≤ 20
theorem of_muchM {ps : List Pr} {fs : List Ev} (h : muchM ps fs = false) : okM ps fs := by
  simp only [muchM, Bool.or_eq_false_iff, decide_eq_false_iff_not, List.any_eq_false] at h
  refine ⟨by omega, by omega, fun p hp => ?_⟩
  have h3 := h.2 p hp
  simp only [muchP, much, Bool.not_eq_true, Bool.or_eq_false_iff, decide_eq_false_iff_not, List.any_eq_false, decide_eq_true_eq] at h3
  exact ⟨by omega, fun k hk => by have := h3.1.2 k hk; omega, by omega⟩
end Go.Proofs.YtlhopiehnaabgaaGreatDoor
