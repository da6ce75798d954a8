/-
  A window of twice a length is two of them, plainly. No statement stands here.
-/
import Derived.Test.YthoojnjcdllgdaaTxc
import Derived.Test.YthoojnjcdllgdaaTmu
set_option linter.all false
namespace Go.Proofs.Ythoojnjcdllgdaa
open Go Rf TallyP
set_option maxRecDepth 100000
set_option maxHeartbeats 4000000

theorem wr_wr (a b : Int) : wrapF .i64 (wrapF .i64 a + b) = wrapF .i64 (a + b) := by rw [wI, wI, wI]; omega
theorem much_ok : ∀ (ms : List Mv) (L i : Nat) (c : Int), L = i + ms.length → muchGo L ms i c = false → L ≤ 80 ∧ ∀ m ∈ ms, -1152921504606846976 ≤ m.t ∧ m.t ≤ 1152921504606846976
  | [], L, i, c, hL, h => by
    simp only [muchGo, Bool.or_eq_false_iff, ltZ_eq, decide_eq_false_iff_not] at h
    exact ⟨by omega, fun m hm => by cases hm⟩
  | m :: r, L, i, c, hL, h => by
    unfold muchGo at h
    by_cases hi : leZ i 80 = true
    · rw [if_pos hi] at h
      by_cases ht : ltZ m.t (-1152921504606846976) = true ∨ ltZ 1152921504606846976 m.t = true
      · rw [if_pos ht] at h; cases h
      · rw [if_neg ht] at h
        obtain ⟨h1, h2⟩ := much_ok r L (i + 1) _ (by rw [hL, List.length_cons]; omega) h
        refine ⟨h1, fun x hx => ?_⟩
        rcases List.mem_cons.1 hx with rfl | hx
        · simp only [ltZ_eq, decide_eq_true_eq, not_or] at ht
          omega
        · exact h2 x hx
    · rw [if_neg hi] at h
      exfalso
      simp only [leZ_eq, decide_eq_true_eq] at hi
      simp only [Bool.or_eq_false_iff, ltZ_eq, decide_eq_false_iff_not] at h
      rw [List.length_cons] at hL
      omega
end Go.Proofs.Ythoojnjcdllgdaa
