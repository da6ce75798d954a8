/-
  The law's walk: CodeTexts answers true. No statement stands here.
-/
import Derived.Test.YtlhopiehnaabgaaDoorTpl
import Derived.Test.YtlhopiehnaabgaaDoorRof
set_option linter.all false
namespace Go.Proofs.YtlhopiehnaabgaaDoor
open Go Rf
set_option maxRecDepth 100000
set_option maxHeartbeats 4000000

theorem hG4 : cF gt1 Tryd.prog (wfa 4) 4 = some f4 := by kernel_rfl
theorem pg_same {v : Int} {ks : List Kd} (h : ks.length ≤ 1000) (hk : ∀ k ∈ ks, k.length ≤ 1000) : PDen gt1 Tryd.prog 15 [pgV v ks, pgV v ks] (.b true) := by
  have hm : 1000 ≤ maxLen := by decide
  have := pup0 (gt := gt1) (rsame_den v v ks ks (by omega) fun k h => by have := hk k h; omega)
  rwa [decide_eq_true ⟨rfl, rfl⟩] at this
theorem tlaw_den (S : List UInt8) (s : St) (hx : NoX s) : Den gt1 Tryd.prog 4 [.s S] s (.b true) s := by
  refine Den.tidy fun ht => Den.hm gnm1 hG4 ?_
  have K := Kn.init ht.1 hx
  conv => whnf
  refine kgo ?_; (repeat (first | intro (X:Nat) | intro (z:St) | intro (av:V) | intro (tk:Option Nat) | (intro (K1:Kn _ _ _); (try clear K); rename Kn _ _ _ => K))); conv => whnf
  refine brB_iff.2 ⟨fun h => ?_, fun h => ?_⟩ <;> conv => whnf
  · refine kgo ?_; (repeat (first | intro (X:Nat) | intro (z:St) | intro (av:V) | intro (tk:Option Nat) | (intro (K1:Kn _ _ _); (try clear K); rename Kn _ _ _ => K))); conv => whnf
    refine ⟨_, _, known_d _, ?_⟩
    conv => whnf
    refine kgo ?_; (repeat (first | intro (X:Nat) | intro (z:St) | intro (av:V) | intro (tk:Option Nat) | (intro (K1:Kn _ _ _); (try clear K); rename Kn _ _ _ => K))); conv => whnf
    exact K.fin ht hx (.b _) (.refl _)
  have hS : S.length ≤ 3000 := by rw [ltZ_eq] at h; simp only [decide_eq_false_iff_not] at h; omega
  refine kgo ?_; (repeat (first | intro (X:Nat) | intro (z:St) | intro (av:V) | intro (tk:Option Nat) | (intro (K1:Kn _ _ _); (try clear K); rename Kn _ _ _ => K))); conv => whnf
  obtain ⟨r, hr⟩ : ∃ r, foA (cutL 10 S) 0 (0, []) = r := ⟨_, rfl⟩
  obtain ⟨q, hq⟩ : ∃ q, foB (cutL 10 S).dropLast 0 (0, []) = q := ⟨_, rfl⟩
  have hT := rofT_eq hr hq
  refine ⟨_, _, cof_den S (by omega) (by have := cutL_len 10 S; omega) _ K.x r hr, ?_⟩
  by_cases hA : mayP r.1 r.2 = true ∧ pgT r.1 r.2 = S
  · rw [if_pos hA] at hT ⊢
    obtain ⟨hl, hk⟩ := mayP_len hA.1
    conv => whnf
    refine kgo ?_; (repeat (first | intro (X:Nat) | intro (z:St) | intro (av:V) | intro (tk:Option Nat) | (intro (K1:Kn _ _ _); (try clear K); rename Kn _ _ _ => K))); conv => whnf
    refine ⟨_, _, rofT_den S hS _ K.x q hq, ?_⟩
    rw [hT]
    conv => whnf
    refine kgo ?_; (repeat (first | intro (X:Nat) | intro (z:St) | intro (av:V) | intro (tk:Option Nat) | (intro (K1:Kn _ _ _); (try clear K); rename Kn _ _ _ => K))); conv => whnf
    refine ⟨_, _, pg_same (by omega) (fun k h => by have := hk k h; omega) _, ?_⟩
    conv => whnf
    refine kgo ?_; (repeat (first | intro (X:Nat) | intro (z:St) | intro (av:V) | intro (tk:Option Nat) | (intro (K1:Kn _ _ _); (try clear K); rename Kn _ _ _ => K))); conv => whnf
    refine ⟨_, _, known_d _, ?_⟩
    conv => whnf
    refine kgo ?_; (repeat (first | intro (X:Nat) | intro (z:St) | intro (av:V) | intro (tk:Option Nat) | (intro (K1:Kn _ _ _); (try clear K); rename Kn _ _ _ => K))); conv => whnf
    exact K.fin ht hx (.b _) (.refl _)
  · rw [if_neg hA] at hT ⊢
    conv => whnf
    refine kgo ?_; (repeat (first | intro (X:Nat) | intro (z:St) | intro (av:V) | intro (tk:Option Nat) | (intro (K1:Kn _ _ _); (try clear K); rename Kn _ _ _ => K))); conv => whnf
    refine ⟨_, _, rofT_den S hS _ K.x q hq, ?_⟩
    rw [hT]
    conv => whnf
    refine kgo ?_; (repeat (first | intro (X:Nat) | intro (z:St) | intro (av:V) | intro (tk:Option Nat) | (intro (K1:Kn _ _ _); (try clear K); rename Kn _ _ _ => K))); conv => whnf
    refine ⟨_, _, pg_same (ks := []) (by decide) (fun k h => by cases h) _, ?_⟩
    conv => whnf
    refine kgo ?_; (repeat (first | intro (X:Nat) | intro (z:St) | intro (av:V) | intro (tk:Option Nat) | (intro (K1:Kn _ _ _); (try clear K); rename Kn _ _ _ => K))); conv => whnf
    refine ⟨_, _, known_d _, ?_⟩
    conv => whnf
    refine kgo ?_; (repeat (first | intro (X:Nat) | intro (z:St) | intro (av:V) | intro (tk:Option Nat) | (intro (K1:Kn _ _ _); (try clear K); rename Kn _ _ _ => K))); conv => whnf
    exact K.fin ht hx (.b _) (.refl _)
end Go.Proofs.YtlhopiehnaabgaaDoor
