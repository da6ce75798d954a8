/-
  Contract: the document's tally of moves. No statement stands here.
-/
import Derived.Test.YthoojnjcdllgdaaTof
import Derived.Test.YthoojnjcdllgdaaTre
set_option linter.all false
namespace Go.Proofs.Ythoojnjcdllgdaa
open Go Rf TallyP
set_option maxRecDepth 100000
set_option maxHeartbeats 4000000

theorem one_ev {m : Mv} (h : isEv m = true) : one m = ⟨1, m.rl.length, 0, 0, 0, 0, m.t, m.t⟩ := by
  have h2 : m.k = 2 := by
    unfold isEv at h
    simp [eqZ_eq] at h
    exact h.1
  unfold one
  rw [h2, show eqZ 2 1 = false from by decide, show eqZ 2 3 = false from by decide, h]
  simp
theorem one_no {m : Mv} (h : isEv m = false) : (one m).ev = 0 ∧ (one m).rc = 0 ∧ (one m).fi = -1 ∧ (one m).la = -1 := by
  unfold one
  rw [h]
  (repeat' split) <;> simp_all [Tl.z]
def firstT : List Mv → Int
  | [] => -1
  | m :: _ => m.t
def lastT : List Mv → Int
  | [] => -1
  | [m] => m.t
  | _ :: m :: r => lastT (m :: r)
def sumR : List Mv → Nat
  | [] => 0
  | m :: r => m.rl.length + sumR r
theorem evs_cons (m : Mv) (r : List Mv) : evs (m :: r) = if isEv m then m :: evs r else evs r := by
  unfold evs
  cases h : isEv m
  · rw [List.filter_cons_of_neg (by simp [h])]; rfl
  · rw [List.filter_cons_of_pos h]; rfl
theorem ofT_evs : ∀ ms : List Mv, (ofT ms).ev = (evs ms).length ∧ (ofT ms).rc = sumR (evs ms) ∧ (ofT ms).fi = firstT (evs ms) ∧ (ofT ms).la = lastT (evs ms)
  | [] => ⟨rfl, rfl, rfl, rfl⟩
  | m :: r => by
    obtain ⟨h1, h2, h3, h4⟩ := ofT_evs r
    rw [evs_cons]
    cases h : isEv m
    · obtain ⟨e1, e2, e3, e4⟩ := one_no h
      simp only [Bool.false_eq_true, if_false, ofT, Tl.add, e1, e2, e4, Nat.zero_add, if_true, h1, h2, h3, h4, true_and]
      by_cases hz : (evs r).length = 0
      · rw [if_pos hz, List.eq_nil_of_length_eq_zero hz]; rfl
      · rw [if_neg hz]
    · have e := one_ev h
      simp only [if_true, ofT, Tl.add, e, h1, h2, h4, List.length_cons, sumR, firstT]
      refine ⟨by omega, trivial, by simp, ?_⟩
      cases hr : evs r with
      | nil => simp [lastT]
      | cons a b => simp [lastT]
end Go.Proofs.Ythoojnjcdllgdaa
