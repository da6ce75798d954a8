/-
  The law of reading: walked whole. No statement stands here.
-/
import Derived.Test.YtbcapobkbgckbaaGreatDoorSkn
import Derived.Test.YtbcapobkbgckbaaGreatDoorSof
import Derived.Test.YtbcapobkbgckbaaGreatDoorSrf
import Derived.Test.YtbcapobkbgckbaaGreatDoorSrt
import Derived.Test.YtbcapobkbgckbaaGreatDoorSsm
set_option linter.all false
namespace Go.Proofs.YtbcapobkbgckbaaGreatDoor
open Go Rf
set_option maxRecDepth 100000
set_option maxHeartbeats 4000000

theorem hG4 : cF gt1 Tryz.prog (wfa 4) 4 = some f4 := by kernel_rfl
theorem may_len {e : Ey} (h : mayS e = true) : e.b.length ≤ 100000 := by
  obtain ⟨f, -, hm⟩ := mayS_some h
  have := (mayF_iff.1 hm).2.2.2.2.2.1
  omega
theorem txS_all {w : List Ey} (h : ∀ e ∈ w, EyOk e ∧ mayS e = true) : txS w = txL w := by
  unfold txS
  rw [if_pos (List.all_eq_true.2 fun e he => (h e he).2)]
theorem txL_len (w : List Ey) : w.length ≤ (txL w).length := by
  unfold txL
  induction w with
  | nil => simp
  | cons e w ih => simp only [List.flatMap_cons, List.length_append, List.length_cons, List.length_nil]; omega
theorem rlaw_den (S : List UInt8) (s : St) (hx : NoX s) : Den gt1 Tryz.prog 4 [.s S] s (.b true) s := by
  refine Den.tidy fun ht => Den.hm gnm1 hG4 ?_
  have K := Kn.init ht.1 hx
  conv => whnf
  refine kgo ?_; (repeat (first | intro (X:Nat) | intro (z:St) | intro (av:V) | intro (tk:Option Nat) | (intro (K1:Kn _ _ _); (try clear K); rename Kn _ _ _ => K))); conv => whnf
  cases hS : ltZ 4000 (S.length : Nat) <;> conv => whnf
  rotate_left
  · refine kgo ?_; (repeat (first | intro (X:Nat) | intro (z:St) | intro (av:V) | intro (tk:Option Nat) | (intro (K1:Kn _ _ _); (try clear K); rename Kn _ _ _ => K))); conv => whnf
    refine ⟨_, _, known_den _ K.x, ?_⟩
    conv => whnf
    refine kgo ?_; (repeat (first | intro (X:Nat) | intro (z:St) | intro (av:V) | intro (tk:Option Nat) | (intro (K1:Kn _ _ _); (try clear K); rename Kn _ _ _ => K))); conv => whnf
    exact K.fin ht hx (.b _) (.refl _)
  rw [ltZ_eq] at hS
  simp only [decide_eq_false_iff_not] at hS
  refine kgo ?_; (repeat (first | intro (X:Nat) | intro (z:St) | intro (av:V) | intro (tk:Option Nat) | (intro (K1:Kn _ _ _); (try clear K); rename Kn _ _ _ => K))); conv => whnf
  refine ⟨_, _, of_den S (by omega) _ K.x, ?_⟩
  cases ho : ofS S with
  | none =>
    conv => whnf
    refine kgo ?_; (repeat (first | intro (X:Nat) | intro (z:St) | intro (av:V) | intro (tk:Option Nat) | (intro (K1:Kn _ _ _); (try clear K); rename Kn _ _ _ => K))); conv => whnf
    have hr := rof_den S (by omega) s K.x
    rw [ho] at hr
    refine ⟨_, _, up0 hr, ?_⟩
    conv => whnf
    refine kgo ?_; (repeat (first | intro (X:Nat) | intro (z:St) | intro (av:V) | intro (tk:Option Nat) | (intro (K1:Kn _ _ _); (try clear K); rename Kn _ _ _ => K))); conv => whnf
    refine ⟨_, _, up0 (rsame_den [] (by decide) _ K.x), ?_⟩
    conv => whnf
    refine kgo ?_; (repeat (first | intro (X:Nat) | intro (z:St) | intro (av:V) | intro (tk:Option Nat) | (intro (K1:Kn _ _ _); (try clear K); rename Kn _ _ _ => K))); conv => whnf
    refine ⟨_, _, up0 (same_den [] (by decide) (fun e he => by cases he) _ K.x), ?_⟩
    conv => whnf
    refine kgo ?_; (repeat (first | intro (X:Nat) | intro (z:St) | intro (av:V) | intro (tk:Option Nat) | (intro (K1:Kn _ _ _); (try clear K); rename Kn _ _ _ => K))); conv => whnf
    refine ⟨_, _, known_den _ K.x, ?_⟩
    conv => whnf
    refine kgo ?_; (repeat (first | intro (X:Nat) | intro (z:St) | intro (av:V) | intro (tk:Option Nat) | (intro (K1:Kn _ _ _); (try clear K); rename Kn _ _ _ => K))); conv => whnf
    exact K.fin ht hx (.b _) (.refl _)
  | some w =>
    obtain ⟨hw, htx⟩ := ofS_some ho
    have htl : txL w = S := by rw [← txS_all hw]; exact htx
    have hwl : w.length ≤ 4000 := Nat.le_trans (txL_len w) (by rw [htl]; omega)
    have hwb : ∀ e ∈ w, e.b.length ≤ 100000 := fun e he => may_len (hw e he).2
    have hTl : (txL w).length ≤ 900000 := by rw [htl]; omega
    conv => whnf
    refine kgo ?_; (repeat (first | intro (X:Nat) | intro (z:St) | intro (av:V) | intro (tk:Option Nat) | (intro (K1:Kn _ _ _); (try clear K); rename Kn _ _ _ => K))); conv => whnf
    have hr := rof_den S (by omega) s K.x
    rw [ho] at hr
    refine ⟨_, _, up0 hr, ?_⟩
    conv => whnf
    refine kgo ?_; (repeat (first | intro (X:Nat) | intro (z:St) | intro (av:V) | intro (tk:Option Nat) | (intro (K1:Kn _ _ _); (try clear K); rename Kn _ _ _ => K))); conv => whnf
    refine ⟨_, _, up0 (rsame_den w (by omega) _ K.x), ?_⟩
    conv => whnf
    refine kgo ?_; (repeat (first | intro (X:Nat) | intro (z:St) | intro (av:V) | intro (tk:Option Nat) | (intro (K1:Kn _ _ _); (try clear K); rename Kn _ _ _ => K))); conv => whnf
    refine ⟨_, _, up0 (same_den w (by omega) hwb _ K.x), ?_⟩
    conv => whnf
    refine kgo ?_; (repeat (first | intro (X:Nat) | intro (z:St) | intro (av:V) | intro (tk:Option Nat) | (intro (K1:Kn _ _ _); (try clear K); rename Kn _ _ _ => K))); conv => whnf
    refine ⟨_, _, up0 (rtext_den w (fun e he => (hw e he).1) hwb hTl (by omega) _ K.x), ?_⟩
    rw [htx]
    conv => whnf
    refine kgo ?_; (repeat (first | intro (X:Nat) | intro (z:St) | intro (av:V) | intro (tk:Option Nat) | (intro (K1:Kn _ _ _); (try clear K); rename Kn _ _ _ => K))); conv => whnf
    rw [beq_self_eq_true]
    conv => whnf
    refine kgo ?_; (repeat (first | intro (X:Nat) | intro (z:St) | intro (av:V) | intro (tk:Option Nat) | (intro (K1:Kn _ _ _); (try clear K); rename Kn _ _ _ => K))); conv => whnf
    refine ⟨_, _, known_den _ K.x, ?_⟩
    conv => whnf
    refine kgo ?_; (repeat (first | intro (X:Nat) | intro (z:St) | intro (av:V) | intro (tk:Option Nat) | (intro (K1:Kn _ _ _); (try clear K); rename Kn _ _ _ => K))); conv => whnf
    exact K.fin ht hx (.b _) (.refl _)
end Go.Proofs.YtbcapobkbgckbaaGreatDoor
