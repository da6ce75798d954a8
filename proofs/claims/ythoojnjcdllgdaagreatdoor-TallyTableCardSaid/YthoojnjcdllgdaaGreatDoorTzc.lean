/-
  Contract: the document's busiest process. No statement stands here.
-/
import Derived.Test.YthoojnjcdllgdaaGreatDoorTzb
set_option linter.all false
namespace Go.Proofs.YthoojnjcdllgdaaGreatDoor
open Go Rf TallyP
set_option maxRecDepth 100000
set_option maxHeartbeats 4000000

def EBr (l : List RwP) (b : Int) (i : Nat) : List V := (.bad :: .bad :: .bad :: .bad :: .pu 5 (l.map fun x => .ag (csP x)) .u :: .i .i64 b :: .i .i64 (i : Nat) :: List.replicate 31 .bad)
theorem bus23_den (ms : List Mv) (hms : ms.length ≤ 1000) (hn : ∀ m ∈ ms, Nm s0.L m.v) (hP : (refP (evs ms)).length ≤ 100000) (s : St) (hx : NoX s) :
    Den gt0 Tryz.prog 23 [.pu 47 (ms.map Mv.v) .u] s (busyV (refP (evs ms))) s := by
  refine Den.tidy fun hty => Den.hm gnm0 hF23 ?_
  have K := Kn.init hty.1 hx
  conv => whnf
  refine kgo ?_; (repeat (first | intro (X:Nat) | intro (z:St) | intro (av:V) | intro (tk:Option Nat) | (intro (K1:Kn _ _ _); (try clear K); rename Kn _ _ _ => K))); conv => whnf
  refine ⟨_, _, refP_den ms hms hn _ K.x, ?_⟩
  generalize refP (evs ms) = l at hP ⊢
  have hll : (l.map fun x => V.ag (csP x)).length = l.length := List.length_map ..
  have hstep : ∀ i x, l[i]? = some x → busy (l.take (i + 1)) = pickP (busy (l.take i)) x := fun i x h => by
    unfold busy
    rw [List.take_add_one, h, List.foldl_append]; rfl
  conv => whnf
  refine kgo ?_; (repeat (first | intro (X:Nat) | intro (z:St) | intro (av:V) | intro (tk:Option Nat) | (intro (K1:Kn _ _ _); (try clear K); rename Kn _ _ _ => K))); conv => whnf
  refine HM.loop gnm0 fun hg => ⟨fun n e z => ∃ (i : Nat) (b : Int), i ≤ l.length ∧ n = l.length - i ∧ e = EBr l b i ∧ ((b = -1 ∧ i = 0) ∨ ∃ (k : Nat) (x : RwP), b = k ∧ l[k]? = some x ∧ busy (l.take i) = some x) ∧ Kn s z [],
    ⟨l.length, fg [4, 5, 6] _, _, WkM.fg hg, 0, -1, Nat.zero_le _, rfl, rfl, .inl ⟨rfl, rfl⟩, K⟩, ?_⟩
  clear K
  rintro n e z1 ⟨i, b, hi, rfl, rfl, ⟨rfl, rfl⟩ | ⟨k, x, rfl, hk, hbx⟩, K⟩
  · conv => whnf
    refine kgo ?_; (repeat (first | intro (X:Nat) | intro (z:St) | intro (av:V) | intro (tk:Option Nat) | (intro (K1:Kn _ _ _); (try clear K); rename Kn _ _ _ => K))); conv => whnf
    rw [hll]
    refine brL ⟨fun hlt => ?_, fun hge => ?_⟩ <;> conv => whnf
    · have hxi : l[0]? = some l[0] := List.getElem?_eq_getElem hlt
      generalize l[0] = w at hxi
      have hst := hstep 0 w hxi
      refine kgo ?_; (repeat (first | intro (X:Nat) | intro (z:St) | intro (av:V) | intro (tk:Option Nat) | (intro (K1:Kn _ _ _); (try clear K); rename Kn _ _ _ => K))); conv => whnf
      intro hg'
      exact ⟨l.length - 1, fg [4, 5, 6] _, _, by omega, WkM.fg hg', 1, ((0 : Nat) : Int), hlt, rfl, rfl, .inr ⟨0, w, rfl, hxi, by rw [hst]; rfl⟩, K⟩
    · have h0 : l = [] := List.eq_nil_of_length_eq_zero (by omega)
      subst h0
      refine kgo ?_; (repeat (first | intro (X:Nat) | intro (z:St) | intro (av:V) | intro (tk:Option Nat) | (intro (K1:Kn _ _ _); (try clear K); rename Kn _ _ _ => K))); conv => whnf
      exact K.fin hty hx (busyV_nm []) (.refl _)
  · have hkl : k < l.length := by
      rcases Nat.lt_or_ge k l.length with h | h
      · exact h
      · rw [List.getElem?_eq_none h] at hk; cases hk
    have hmk : (l.map fun x => V.ag (csP x))[((k : Nat) : Int).toNat]? = some (.ag (csP x)) := by simp [hk]
    have hneg : ltZ ((k : Nat) : Int) 0 = false := by rw [ltZ_eq]; simp
    conv => whnf
    refine kgo ?_; (repeat (first | intro (X:Nat) | intro (z:St) | intro (av:V) | intro (tk:Option Nat) | (intro (K1:Kn _ _ _); (try clear K); rename Kn _ _ _ => K))); conv => whnf
    rw [hll]
    refine brL ⟨fun hlt => ?_, fun hge => ?_⟩ <;> conv => whnf
    · have hxi : l[i]? = some l[i] := List.getElem?_eq_getElem hlt
      generalize l[i] = w at hxi
      have hmi : (l.map fun x => V.ag (csP x))[((i : Nat) : Int).toNat]? = some (.ag (csP w)) := by simp [hxi]
      have hst := hstep i w hxi
      rw [hbx] at hst
      refine kgo ?_; (repeat (first | intro (X:Nat) | intro (z:St) | intro (av:V) | intro (tk:Option Nat) | (intro (K1:Kn _ _ _); (try clear K); rename Kn _ _ _ => K))); conv => whnf
      rw [hneg]
      conv => whnf
      refine kgo ?_; (repeat (first | intro (X:Nat) | intro (z:St) | intro (av:V) | intro (tk:Option Nat) | (intro (K1:Kn _ _ _); (try clear K); rename Kn _ _ _ => K))); conv => whnf
      cases hc : ltZ x.2.1 w.2.1 <;> conv => whnf
      · refine kgo ?_; (repeat (first | intro (X:Nat) | intro (z:St) | intro (av:V) | intro (tk:Option Nat) | (intro (K1:Kn _ _ _); (try clear K); rename Kn _ _ _ => K))); conv => whnf
        intro hg'
        exact ⟨l.length - (i + 1), fg [4, 5, 6] _, _, by omega, WkM.fg hg', i + 1, ((k : Nat) : Int), hlt, rfl, rfl, .inr ⟨k, x, rfl, hk, by rw [hst]; show (if ltZ x.2.1 w.2.1 = true then some w else some x) = _; rw [hc]; rfl⟩, K⟩
      · refine kgo ?_; (repeat (first | intro (X:Nat) | intro (z:St) | intro (av:V) | intro (tk:Option Nat) | (intro (K1:Kn _ _ _); (try clear K); rename Kn _ _ _ => K))); conv => whnf
        intro hg'
        exact ⟨l.length - (i + 1), fg [4, 5, 6] _, _, by omega, WkM.fg hg', i + 1, ((i : Nat) : Int), hlt, rfl, rfl, .inr ⟨i, w, rfl, hxi, by rw [hst]; show (if ltZ x.2.1 w.2.1 = true then some w else some x) = _; rw [hc]; rfl⟩, K⟩
    · rw [List.take_of_length_le hge] at hbx
      refine kgo ?_; (repeat (first | intro (X:Nat) | intro (z:St) | intro (av:V) | intro (tk:Option Nat) | (intro (K1:Kn _ _ _); (try clear K); rename Kn _ _ _ => K))); conv => whnf
      rw [hneg]
      conv => whnf
      refine kgo ?_; (repeat (first | intro (X:Nat) | intro (z:St) | intro (av:V) | intro (tk:Option Nat) | (intro (K1:Kn _ _ _); (try clear K); rename Kn _ _ _ => K))); conv => whnf
      have hbn := busyV_nm (n := s.L) l
      unfold busyV at hbn ⊢
      rw [hbx] at hbn ⊢
      exact K.fin hty hx hbn (.refl _)
end Go.Proofs.YthoojnjcdllgdaaGreatDoor
