/-
  The law's walk: TallyWhole answers true. No statement stands here.
-/
import Derived.Test.YthoojnjcdllgdaaTwb
import Derived.Test.YthoojnjcdllgdaaTkn
set_option linter.all false
namespace Go.Proofs.Ythoojnjcdllgdaa
open Go Rf TallyP
set_option maxRecDepth 100000
set_option maxHeartbeats 4000000

def EZ (T A B i : Nat) : List V := (.bad :: .bad :: .bad :: .bad :: .bad :: .p T 0 :: .p A 0 :: .p B 0 :: .bad :: .bad :: .bad :: .bad :: .bad :: .bad :: .bad :: .bad :: .bad :: .i .i64 (i : Nat) :: List.replicate 134 .bad)
theorem wl9 {s z : St} {T A B : Nat} {t1 t2 t3 t4 t5 t6 t7 t8 : Int} {Q : XM → List V → St → Prop} (K : Kn s z [.ob true B (ar4 t2 t2 t2 t2), .ob true A (ar4 t1 t1 t1 t1), .ob true T (.c (vT t1 t2 t3 t4 t5 t6 t7 t8) 0 (some 36))])
    (hQ : ∀ e z', fg [5] e = (.bad :: .bad :: .bad :: .bad :: .bad :: .p T 0 :: List.replicate 146 .bad) → Kn s z' [.ob true B (ar4 t2 t2 t2 t2), .ob true A (ar4 t1 t1 t1 t1), .ob true T (.c (vT t1 t2 t3 t4 t5 t6 t7 t8) 0 (some 36))] → Q .nrm e z') :
    HM gt0 Try.prog s (sA (nB 11 f5.body)) (.bad :: .bad :: .bad :: .bad :: .bad :: .p T 0 :: .p A 0 :: .p B 0 :: List.replicate 144 .bad) z Q := by
  have eqr : ∀ a : Int, eqZ a a = true := fun a => by rw [eqZ_eq]; simp
  unfold ar4 vT at K
  refine kgo ?_; (repeat (first | intro (X:Nat) | intro (z:St) | intro (av:V) | intro (tk:Option Nat) | (intro (K1:Kn _ _ _); (try clear K); rename Kn _ _ _ => K))); conv => whnf
  refine HM.loop gnm0 fun hg => ⟨fun n e z' => ∃ i : Nat, i ≤ 4 ∧ n = 4 - i ∧ e = EZ T A B i ∧ Kn s z' [.ob true B (ar4 t2 t2 t2 t2), .ob true A (ar4 t1 t1 t1 t1), .ob true T (.c (vT t1 t2 t3 t4 t5 t6 t7 t8) 0 (some 36))],
    ⟨4, fg [5, 6, 7, 17] _, _, WkM.fg hg, 0, Nat.zero_le _, rfl, rfl, K⟩, ?_⟩
  clear K
  rintro n e z1 ⟨i, hi, rfl, rfl, K⟩
  unfold ar4 vT at K
  have h5 : i = 0 ∨ i = 1 ∨ i = 2 ∨ i = 3 ∨ i = 4 := by omega
  rcases h5 with rfl | rfl | rfl | rfl | rfl
  · conv => whnf
    refine kgo ?_; (repeat (first | intro (X:Nat) | intro (z:St) | intro (av:V) | intro (tk:Option Nat) | (intro (K1:Kn _ _ _); (try clear K); rename Kn _ _ _ => K))); conv => whnf
    rw [eqr]
    conv => whnf
    refine kgo ?_; (repeat (first | intro (X:Nat) | intro (z:St) | intro (av:V) | intro (tk:Option Nat) | (intro (K1:Kn _ _ _); (try clear K); rename Kn _ _ _ => K))); conv => whnf
    rw [eqr]
    conv => whnf
    refine kgo ?_; (repeat (first | intro (X:Nat) | intro (z:St) | intro (av:V) | intro (tk:Option Nat) | (intro (K1:Kn _ _ _); (try clear K); rename Kn _ _ _ => K))); conv => whnf
    intro hg'
    exact ⟨4 - 1, fg [5, 6, 7, 17] _, _, by omega, WkM.fg hg', 1, by omega, rfl, rfl, K⟩
  · conv => whnf
    refine kgo ?_; (repeat (first | intro (X:Nat) | intro (z:St) | intro (av:V) | intro (tk:Option Nat) | (intro (K1:Kn _ _ _); (try clear K); rename Kn _ _ _ => K))); conv => whnf
    rw [eqr]
    conv => whnf
    refine kgo ?_; (repeat (first | intro (X:Nat) | intro (z:St) | intro (av:V) | intro (tk:Option Nat) | (intro (K1:Kn _ _ _); (try clear K); rename Kn _ _ _ => K))); conv => whnf
    rw [eqr]
    conv => whnf
    refine kgo ?_; (repeat (first | intro (X:Nat) | intro (z:St) | intro (av:V) | intro (tk:Option Nat) | (intro (K1:Kn _ _ _); (try clear K); rename Kn _ _ _ => K))); conv => whnf
    intro hg'
    exact ⟨4 - 2, fg [5, 6, 7, 17] _, _, by omega, WkM.fg hg', 2, by omega, rfl, rfl, K⟩
  · conv => whnf
    refine kgo ?_; (repeat (first | intro (X:Nat) | intro (z:St) | intro (av:V) | intro (tk:Option Nat) | (intro (K1:Kn _ _ _); (try clear K); rename Kn _ _ _ => K))); conv => whnf
    rw [eqr]
    conv => whnf
    refine kgo ?_; (repeat (first | intro (X:Nat) | intro (z:St) | intro (av:V) | intro (tk:Option Nat) | (intro (K1:Kn _ _ _); (try clear K); rename Kn _ _ _ => K))); conv => whnf
    rw [eqr]
    conv => whnf
    refine kgo ?_; (repeat (first | intro (X:Nat) | intro (z:St) | intro (av:V) | intro (tk:Option Nat) | (intro (K1:Kn _ _ _); (try clear K); rename Kn _ _ _ => K))); conv => whnf
    intro hg'
    exact ⟨4 - 3, fg [5, 6, 7, 17] _, _, by omega, WkM.fg hg', 3, by omega, rfl, rfl, K⟩
  · conv => whnf
    refine kgo ?_; (repeat (first | intro (X:Nat) | intro (z:St) | intro (av:V) | intro (tk:Option Nat) | (intro (K1:Kn _ _ _); (try clear K); rename Kn _ _ _ => K))); conv => whnf
    rw [eqr]
    conv => whnf
    refine kgo ?_; (repeat (first | intro (X:Nat) | intro (z:St) | intro (av:V) | intro (tk:Option Nat) | (intro (K1:Kn _ _ _); (try clear K); rename Kn _ _ _ => K))); conv => whnf
    rw [eqr]
    conv => whnf
    refine kgo ?_; (repeat (first | intro (X:Nat) | intro (z:St) | intro (av:V) | intro (tk:Option Nat) | (intro (K1:Kn _ _ _); (try clear K); rename Kn _ _ _ => K))); conv => whnf
    intro hg'
    exact ⟨4 - 4, fg [5, 6, 7, 17] _, _, by omega, WkM.fg hg', 4, by omega, rfl, rfl, K⟩
  · conv => whnf
    refine kgo ?_; (repeat (first | intro (X:Nat) | intro (z:St) | intro (av:V) | intro (tk:Option Nat) | (intro (K1:Kn _ _ _); (try clear K); rename Kn _ _ _ => K))); conv => whnf
    exact hQ _ _ rfl K
theorem whole_law (ms : List Mv) (len : Int) (hn : ∀ m ∈ ms, Nm s0.L m.v) (hw : ∀ m ∈ ms, m.wf) (hl : ms.length ≤ maxLen) (s : St) (hx : NoX s) : Den gt0 Try.prog 5 [.pu 47 (ms.map Mv.v) .u, .i .i64 len] s (.b true) s := by
  refine Den.tidy fun hty => Den.hm gnm0 hF5 ?_
  have K := Kn.init hty.1 hx
  conv => whnf
  refine kgo ?_; (repeat (first | intro (X:Nat) | intro (z:St) | intro (av:V) | intro (tk:Option Nat) | (intro (K1:Kn _ _ _); (try clear K); rename Kn _ _ _ => K))); conv => whnf
  refine ⟨_, _, much_den ms hn hl _, ?_⟩
  cases hmu : muchGo ms.length ms 0 0 <;> conv => whnf
  · refine kgo ?_; (repeat (first | intro (X:Nat) | intro (z:St) | intro (av:V) | intro (tk:Option Nat) | (intro (K1:Kn _ _ _); (try clear K); rename Kn _ _ _ => K))); conv => whnf
    cases h1 : ltZ len 1 <;> conv => whnf
    · refine kgo ?_; (repeat (first | intro (X:Nat) | intro (z:St) | intro (av:V) | intro (tk:Option Nat) | (intro (K1:Kn _ _ _); (try clear K); rename Kn _ _ _ => K))); conv => whnf
      cases hb : ltZ 1125899906842624 len <;> conv => whnf
      · rw [ltZ_eq] at h1 hb
        simp only [decide_eq_false_iff_not] at h1 hb
        obtain ⟨h80, ht⟩ := much_ok ms _ 0 0 (by omega) hmu
        have hel := List.length_filter_le isEv ms
        have hP : (refP (evs ms)).length ≤ 100000 := by
          have h := ref_lenP (evs ms) (evs ms).length (Nat.le_refl _)
          rw [List.take_length] at h; unfold evs at h ⊢; omega
        have hK : (refK (evs ms)).length ≤ 100000 := by
          have h := ref_lenK (evs ms) (evs ms).length (Nat.le_refl _)
          rw [List.take_length] at h; unfold evs at h ⊢; omega
        have hF : (refF (evs ms)).length ≤ 100000 := by
          have h := ref_lenF (evs ms) (evs ms).length (Nat.le_refl _)
          rw [List.take_length] at h; unfold evs at h ⊢; omega
        have hS : (refR len (evs ms)).length ≤ 100000 := by
          have h := ref_len len (evs ms) (evs ms).length (Nat.le_refl _)
          rw [List.take_length] at h; unfold evs at h ⊢; omega
        have d1 := of_den ms hn hl
        obtain ⟨q1, q2, q3, q4⟩ := ofT_evs ms
        obtain ⟨t1, t2, t3, t4, t5, t6, t7, t8, hv⟩ : ∃ t1 t2 t3 t4 t5 t6 t7 t8, (ofT ms).v = vT t1 t2 t3 t4 t5 t6 t7 t8 := ⟨_, _, _, _, _, _, _, _, rfl⟩
        have e1 : t1 = wrapF .i64 (((evs ms).length : Nat) : Int) := by
          have := congrArg (fun l => l[0]?) hv
          simp only [Tl.v, vT, List.getElem?_cons_zero, Option.some.injEq, V.i.injEq, true_and] at this
          rw [← this, q1]
        have e2 : t2 = wrapF .i64 ((sumR (evs ms) : Nat) : Int) := by
          have := congrArg (fun l => l[1]?) hv
          simp only [Tl.v, vT, List.getElem?_cons_zero, List.getElem?_cons_succ, Option.some.injEq, V.i.injEq, true_and] at this
          rw [← this, q2]
        rw [hv] at d1
        have w1 := evP (evs ms)
        have w2 := rcP (evs ms)
        have w3 := evK (evs ms)
        have w4 := rcK (evs ms)
        have w5 := evS len (evs ms)
        have w6 := rcS len (evs ms)
        have w7 := evF (evs ms)
        rw [← e1] at w1 w3 w5 w7
        rw [← e2] at w2 w4 w6
        have eqr : ∀ a : Int, eqZ a a = true := fun a => by rw [eqZ_eq]; simp
        refine kgo ?_; (repeat (first | intro (X:Nat) | intro (z:St) | intro (av:V) | intro (tk:Option Nat) | (intro (K1:Kn _ _ _); (try clear K); rename Kn _ _ _ => K))); conv => whnf
        refine ⟨_, _, d1 _, ?_⟩
        conv => whnf
        refine kgo ?_; (repeat (first | intro (X:Nat) | intro (z:St) | intro (av:V) | intro (tk:Option Nat) | (intro (K1:Kn _ _ _); (try clear K); rename Kn _ _ _ => K))); conv => whnf
        refine ⟨_, _, talPw_den ms (by omega) hn hw _ K.x, ?_⟩
        conv => whnf
        refine kgo ?_; (repeat (first | intro (X:Nat) | intro (z:St) | intro (av:V) | intro (tk:Option Nat) | (intro (K1:Kn _ _ _); (try clear K); rename Kn _ _ _ => K))); conv => whnf
        refine ⟨_, _, talKw_den ms (by omega) hn hw _ K.x, ?_⟩
        conv => whnf
        refine kgo ?_; (repeat (first | intro (X:Nat) | intro (z:St) | intro (av:V) | intro (tk:Option Nat) | (intro (K1:Kn _ _ _); (try clear K); rename Kn _ _ _ => K))); conv => whnf
        refine ⟨_, _, talFw_den ms (by omega) hn hw _ K.x, ?_⟩
        conv => whnf
        refine kgo ?_; (repeat (first | intro (X:Nat) | intro (z:St) | intro (av:V) | intro (tk:Option Nat) | (intro (K1:Kn _ _ _); (try clear K); rename Kn _ _ _ => K))); conv => whnf
        refine ⟨_, _, spans8w_den ms len (by omega) (by omega) (by omega) hn ht _ K.x, ?_⟩
        generalize refP (evs ms) = P at *
        generalize refK (evs ms) = G at *
        generalize refF (evs ms) = F at *
        generalize refR len (evs ms) = S at *
        generalize hR : mS gt0 Try.prog s _ _ = R
        conv => whnf
        refine kgo ?_; (repeat (first | intro (X:Nat) | intro (z:St) | intro (av:V) | intro (tk:Option Nat) | (intro (K1:Kn _ _ _); (try clear K); rename Kn _ _ _ => K))); conv => whnf
        subst hR
        refine HM.fgt (c := nB 6 f5.body) gnm0 [5, 6, 7, 8, 9, 10, 11] fun _ => ?_
        refine HM.seq (a := sA (nB 6 f5.body)) ?_
        refine wlP (a0 := 0) (b0 := 0) P G S F hP K fun e z he K => ?_
        refine HM.fgt (c := nB 7 f5.body) gnm0 [5, 6, 7, 8, 9, 10, 11] fun _ => ?_
        rw [he]
        refine HM.seq (a := sA (nB 7 f5.body)) ?_
        refine wlK (a1 := 0) (b1 := 0) P G S F hK K fun e z he K => ?_
        refine HM.fgt (c := nB 8 f5.body) gnm0 [5, 6, 7, 8, 9, 10, 11] fun _ => ?_
        rw [he]
        refine HM.seq (a := sA (nB 8 f5.body)) ?_
        refine wlS (a2 := 0) (b2 := 0) P G S F hS K fun e z he K => ?_
        refine HM.fgt (c := nB 9 f5.body) gnm0 [5, 6, 7, 8, 9, 10, 11] fun _ => ?_
        rw [he]
        refine HM.seq (a := sA (nB 9 f5.body)) ?_
        refine wlF (a3 := 0) P G S F hF K fun e z he K => ?_
        refine HM.fgt (c := nB 10 f5.body) gnm0 [5, 6, 7, 8, 9, 10, 11] fun _ => ?_
        rw [he]
        rw [w1, w2, w3, w4, w5, w6, w7] at K
        unfold ar4 at K
        refine HM.seq (a := .ops _) ?_
        generalize hR : mS gt0 Try.prog s _ _ = R
        refine kgo ?_; (repeat (first | intro (X:Nat) | intro (z:St) | intro (av:V) | intro (tk:Option Nat) | (intro (K1:Kn _ _ _); (try clear K); rename Kn _ _ _ => K))); conv => whnf
        subst hR
        refine HM.fgt (c := nB 11 f5.body) gnm0 [5, 6, 7] fun _ => ?_
        refine HM.seq (a := sA (nB 11 f5.body)) ?_
        refine wl9 K fun e z he K => ?_
        refine HM.fgt (c := nB 12 f5.body) gnm0 [5] fun _ => ?_
        rw [he]
        refine kgo ?_; (repeat (first | intro (X:Nat) | intro (z:St) | intro (av:V) | intro (tk:Option Nat) | (intro (K1:Kn _ _ _); (try clear K); rename Kn _ _ _ => K))); conv => whnf
        refine ⟨_, _, known_pden _, ?_⟩
        conv => whnf
        refine kgo ?_; (repeat (first | intro (X:Nat) | intro (z:St) | intro (av:V) | intro (tk:Option Nat) | (intro (K1:Kn _ _ _); (try clear K); rename Kn _ _ _ => K))); conv => whnf
        exact K.fin hty hx (.b _) (.refl _)
      · refine kgo ?_; (repeat (first | intro (X:Nat) | intro (z:St) | intro (av:V) | intro (tk:Option Nat) | (intro (K1:Kn _ _ _); (try clear K); rename Kn _ _ _ => K))); conv => whnf
        refine ⟨_, _, known_pden _, ?_⟩
        conv => whnf
        refine kgo ?_; (repeat (first | intro (X:Nat) | intro (z:St) | intro (av:V) | intro (tk:Option Nat) | (intro (K1:Kn _ _ _); (try clear K); rename Kn _ _ _ => K))); conv => whnf
        exact K.fin hty hx (.b _) (.refl _)
    · refine kgo ?_; (repeat (first | intro (X:Nat) | intro (z:St) | intro (av:V) | intro (tk:Option Nat) | (intro (K1:Kn _ _ _); (try clear K); rename Kn _ _ _ => K))); conv => whnf
      refine ⟨_, _, known_pden _, ?_⟩
      conv => whnf
      refine kgo ?_; (repeat (first | intro (X:Nat) | intro (z:St) | intro (av:V) | intro (tk:Option Nat) | (intro (K1:Kn _ _ _); (try clear K); rename Kn _ _ _ => K))); conv => whnf
      exact K.fin hty hx (.b _) (.refl _)
  · refine kgo ?_; (repeat (first | intro (X:Nat) | intro (z:St) | intro (av:V) | intro (tk:Option Nat) | (intro (K1:Kn _ _ _); (try clear K); rename Kn _ _ _ => K))); conv => whnf
    refine ⟨_, _, known_pden _, ?_⟩
    conv => whnf
    refine kgo ?_; (repeat (first | intro (X:Nat) | intro (z:St) | intro (av:V) | intro (tk:Option Nat) | (intro (K1:Kn _ _ _); (try clear K); rename Kn _ _ _ => K))); conv => whnf
    exact K.fin hty hx (.b _) (.refl _)
end Go.Proofs.Ythoojnjcdllgdaa
