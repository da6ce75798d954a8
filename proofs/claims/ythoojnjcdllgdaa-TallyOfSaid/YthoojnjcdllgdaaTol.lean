/-
  The law's walk: TallyOf answers true. No statement stands here.
-/
import Derived.Test.YthoojnjcdllgdaaTsm
import Derived.Test.YthoojnjcdllgdaaToh
import Derived.Test.YthoojnjcdllgdaaTxd
import Derived.Test.YthoojnjcdllgdaaTkn
set_option linter.all false
namespace Go.Proofs.Ythoojnjcdllgdaa
open Go Rf TallyP
set_option maxRecDepth 100000
set_option maxHeartbeats 4000000

theorem of_law (ms : List Mv) (hn : ∀ m ∈ ms, Nm s0.L m.v) (hw : ∀ m ∈ ms, m.wf) (hl : ms.length ≤ maxLen) (s : St) (hx : NoX s) : Den gt0 Try.prog 4 [.pu 47 (ms.map Mv.v) .u] s (.b true) s := by
  refine Den.tidy fun hty => Den.hm gnm0 hF4 ?_
  have K := Kn.init hty.1 hx
  conv => whnf
  refine kgo ?_; (repeat (first | intro (X:Nat) | intro (z:St) | intro (av:V) | intro (tk:Option Nat) | (intro (K1:Kn _ _ _); (try clear K); rename Kn _ _ _ => K))); conv => whnf
  refine ⟨_, _, much_den ms hn hl _, ?_⟩
  cases hmu : muchGo ms.length ms 0 0 <;> conv => whnf
  · obtain ⟨h80, ht⟩ := much_ok ms _ 0 0 (by omega) hmu
    have hel := List.length_filter_le isEv ms
    have hP : (refP (evs ms)).length ≤ 100000 := by
      have h := ref_lenP (evs ms) (evs ms).length (Nat.le_refl _)
      rw [List.take_length] at h; unfold evs at h ⊢; omega
    have hK : (refK (evs ms)).length ≤ 100000 := by
      have h := ref_lenK (evs ms) (evs ms).length (Nat.le_refl _)
      rw [List.take_length] at h; unfold evs at h ⊢; omega
    have hF : (refF (evs ms)).length ≤ 100000 := by
      have h := ref_lenF (evs ms) (evs ms).length (Nat.le_refl _)
      rw [List.take_length] at h; unfold evs at h ⊢; omega
    have d1 := of_den ms hn hl
    have d2 := rof_den ms (by omega) hn
    obtain ⟨t1, t2, t3, t4, t5, t6, t7, t8, hv⟩ : ∃ t1 t2 t3 t4 t5 t6 t7 t8, (ofT ms).v = vT t1 t2 t3 t4 t5 t6 t7 t8 := ⟨_, _, _, _, _, _, _, _, rfl⟩
    rw [hv] at d1 d2
    have eqr : ∀ a : Int, eqZ a a = true := fun a => by rw [eqZ_eq]; simp
    refine kgo ?_; (repeat (first | intro (X:Nat) | intro (z:St) | intro (av:V) | intro (tk:Option Nat) | (intro (K1:Kn _ _ _); (try clear K); rename Kn _ _ _ => K))); conv => whnf
    refine ⟨_, _, d1 _, ?_⟩
    conv => whnf
    refine kgo ?_; (repeat (first | intro (X:Nat) | intro (z:St) | intro (av:V) | intro (tk:Option Nat) | (intro (K1:Kn _ _ _); (try clear K); rename Kn _ _ _ => K))); conv => whnf
    refine ⟨_, _, d2 _ K.x, ?_⟩
    conv => whnf
    refine kgo ?_; (repeat (first | intro (X:Nat) | intro (z:St) | intro (av:V) | intro (tk:Option Nat) | (intro (K1:Kn _ _ _); (try clear K); rename Kn _ _ _ => K))); conv => whnf
    rw [eqr t1, eqr t2, eqr t3, eqr t4, eqr t5, eqr t6, eqr t7, eqr t8]
    conv => whnf
    refine kgo ?_; (repeat (first | intro (X:Nat) | intro (z:St) | intro (av:V) | intro (tk:Option Nat) | (intro (K1:Kn _ _ _); (try clear K); rename Kn _ _ _ => K))); conv => whnf
    refine ⟨_, _, talPw_den ms (by omega) hn hw _ K.x, ?_⟩
    conv => whnf
    refine kgo ?_; (repeat (first | intro (X:Nat) | intro (z:St) | intro (av:V) | intro (tk:Option Nat) | (intro (K1:Kn _ _ _); (try clear K); rename Kn _ _ _ => K))); conv => whnf
    refine ⟨_, _, refP_den ms (by omega) hn _ K.x, ?_⟩
    conv => whnf
    refine kgo ?_; (repeat (first | intro (X:Nat) | intro (z:St) | intro (av:V) | intro (tk:Option Nat) | (intro (K1:Kn _ _ _); (try clear K); rename Kn _ _ _ => K))); conv => whnf
    refine ⟨_, _, sameP_den _ hP _ K.x, ?_⟩
    conv => whnf
    refine kgo ?_; (repeat (first | intro (X:Nat) | intro (z:St) | intro (av:V) | intro (tk:Option Nat) | (intro (K1:Kn _ _ _); (try clear K); rename Kn _ _ _ => K))); conv => whnf
    refine ⟨_, _, talKw_den ms (by omega) hn hw _ K.x, ?_⟩
    conv => whnf
    refine kgo ?_; (repeat (first | intro (X:Nat) | intro (z:St) | intro (av:V) | intro (tk:Option Nat) | (intro (K1:Kn _ _ _); (try clear K); rename Kn _ _ _ => K))); conv => whnf
    refine ⟨_, _, refK_den ms (by omega) hn _ K.x, ?_⟩
    conv => whnf
    refine kgo ?_; (repeat (first | intro (X:Nat) | intro (z:St) | intro (av:V) | intro (tk:Option Nat) | (intro (K1:Kn _ _ _); (try clear K); rename Kn _ _ _ => K))); conv => whnf
    refine ⟨_, _, sameK_den _ hK _ K.x, ?_⟩
    conv => whnf
    refine kgo ?_; (repeat (first | intro (X:Nat) | intro (z:St) | intro (av:V) | intro (tk:Option Nat) | (intro (K1:Kn _ _ _); (try clear K); rename Kn _ _ _ => K))); conv => whnf
    refine ⟨_, _, talFw_den ms (by omega) hn hw _ K.x, ?_⟩
    conv => whnf
    refine kgo ?_; (repeat (first | intro (X:Nat) | intro (z:St) | intro (av:V) | intro (tk:Option Nat) | (intro (K1:Kn _ _ _); (try clear K); rename Kn _ _ _ => K))); conv => whnf
    refine ⟨_, _, refF_den ms (by omega) hn _ K.x, ?_⟩
    conv => whnf
    refine kgo ?_; (repeat (first | intro (X:Nat) | intro (z:St) | intro (av:V) | intro (tk:Option Nat) | (intro (K1:Kn _ _ _); (try clear K); rename Kn _ _ _ => K))); conv => whnf
    refine ⟨_, _, sameF_den _ hF _ K.x, ?_⟩
    conv => whnf
    refine kgo ?_; (repeat (first | intro (X:Nat) | intro (z:St) | intro (av:V) | intro (tk:Option Nat) | (intro (K1:Kn _ _ _); (try clear K); rename Kn _ _ _ => K))); conv => whnf
    refine ⟨_, _, known_pden _, ?_⟩
    conv => whnf
    refine kgo ?_; (repeat (first | intro (X:Nat) | intro (z:St) | intro (av:V) | intro (tk:Option Nat) | (intro (K1:Kn _ _ _); (try clear K); rename Kn _ _ _ => K))); conv => whnf
    exact K.fin hty hx (.b _) (.refl _)
  · refine kgo ?_; (repeat (first | intro (X:Nat) | intro (z:St) | intro (av:V) | intro (tk:Option Nat) | (intro (K1:Kn _ _ _); (try clear K); rename Kn _ _ _ => K))); conv => whnf
    refine ⟨_, _, known_pden _, ?_⟩
    conv => whnf
    refine kgo ?_; (repeat (first | intro (X:Nat) | intro (z:St) | intro (av:V) | intro (tk:Option Nat) | (intro (K1:Kn _ _ _); (try clear K); rename Kn _ _ _ => K))); conv => whnf
    exact K.fin hty hx (.b _) (.refl _)
end Go.Proofs.Ythoojnjcdllgdaa
