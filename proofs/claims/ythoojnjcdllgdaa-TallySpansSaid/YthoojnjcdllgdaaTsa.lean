/-
  Contract: the same windows. No statement stands here.
-/
import Derived.Test.YthoojnjcdllgdaaTsq
set_option linter.all false
namespace Go.Proofs.Ythoojnjcdllgdaa
open Go Rf TallyP
set_option maxRecDepth 100000
set_option maxHeartbeats 4000000

def EA (xs : List (Int × Sm)) (i : Nat) : List V := (.pu 3 (xs.map spV) .u :: .pu 3 (xs.map spV) .u :: .bad :: .bad :: .bad :: .i .i64 (i : Nat) :: List.replicate 20 .bad)
theorem same10_den (xs : List (Int × Sm)) (hl : xs.length ≤ 100000) (s : St) (hx : NoX s) : Den gt0 Try.prog 10 [.pu 3 (xs.map spV) .u, .pu 3 (xs.map spV) .u] s (.b true) s := by
  have hll : (xs.map spV).length = xs.length := List.length_map ..
  refine Den.tidy fun hty => Den.hm gnm0 hF10 ?_
  have K := Kn.init hty.1 hx
  conv => whnf
  refine kgo ?_; (repeat (first | intro (X:Nat) | intro (z:St) | intro (av:V) | intro (tk:Option Nat) | (intro (K1:Kn _ _ _); (try clear K); rename Kn _ _ _ => K))); conv => whnf
  rw [hll, show eqZ ((xs.length : Nat) : Int) ((xs.length : Nat) : Int) = true by rw [eqZ_eq]; simp]
  conv => whnf
  refine kgo ?_; (repeat (first | intro (X:Nat) | intro (z:St) | intro (av:V) | intro (tk:Option Nat) | (intro (K1:Kn _ _ _); (try clear K); rename Kn _ _ _ => K))); conv => whnf
  refine HM.loop gnm0 fun hg => ⟨fun n e z => ∃ i : Nat, i ≤ xs.length ∧ n = xs.length - i ∧ e = EA xs i ∧ Kn s z [],
    ⟨xs.length, fg [0, 1, 5] _, _, WkM.fg hg, 0, Nat.zero_le _, rfl, rfl, K⟩, ?_⟩
  clear K
  rintro n e z1 ⟨i, hi, rfl, rfl, K⟩
  conv => whnf
  refine kgo ?_; (repeat (first | intro (X:Nat) | intro (z:St) | intro (av:V) | intro (tk:Option Nat) | (intro (K1:Kn _ _ _); (try clear K); rename Kn _ _ _ => K))); conv => whnf
  rw [hll]
  refine brL ⟨fun hlt => ?_, fun hge => ?_⟩ <;> conv => whnf
  · have hmi : xs[i]? = some xs[i] := List.getElem?_eq_getElem hlt
    generalize xs[i] = x at hmi
    refine kgo ?_; (repeat (first | intro (X:Nat) | intro (z:St) | intro (av:V) | intro (tk:Option Nat) | (intro (K1:Kn _ _ _); (try clear K); rename Kn _ _ _ => K))); conv => whnf
    have eqr : ∀ a : Int, eqZ a a = true := fun a => by rw [eqZ_eq]; simp
    rw [eqr, eqr, eqr]
    conv => whnf
    refine kgo ?_; (repeat (first | intro (X:Nat) | intro (z:St) | intro (av:V) | intro (tk:Option Nat) | (intro (K1:Kn _ _ _); (try clear K); rename Kn _ _ _ => K))); conv => whnf
    intro hg'
    exact ⟨xs.length - (i + 1), fg [0, 1, 5] _, _, by omega, WkM.fg hg', i + 1, hlt, rfl, rfl, K⟩
  · refine kgo ?_; (repeat (first | intro (X:Nat) | intro (z:St) | intro (av:V) | intro (tk:Option Nat) | (intro (K1:Kn _ _ _); (try clear K); rename Kn _ _ _ => K))); conv => whnf
    exact K.fin hty hx (.b _) (.refl _)
end Go.Proofs.Ythoojnjcdllgdaa
