/-
  The law's walk: TallySpans answers true. No statement stands here.
-/
import Derived.Test.YthoojnjcdllgdaaTxf
set_option linter.all false
namespace Go.Proofs.Ythoojnjcdllgdaa
open Go Rf TallyP
set_option maxRecDepth 100000
set_option maxHeartbeats 4000000

noncomputable def c3o : C := sI (sI (sB (sA (sB (sB (sB (sB (sB (sB (sB (sB f3.body)))))))))))
noncomputable def c3b : C := sI (sA (sB c3o))
noncomputable def c3i : C := sA (sB c3b)
noncomputable def c3r : C := sB (sB c3b)
def EO (len : Int) (X Z : List Rw2) (i : Nat) : List V := (.bad :: .i .i64 len :: .bad :: .bad :: .bad :: .pu 3 (X.map rwV) .u :: .bad :: .bad :: .bad :: .pu 3 (Z.map rwV) .u :: .bad :: .i .i64 (i : Nat) :: List.replicate 112 .bad)
def EP (len : Int) (X Z : List Rw2) (i : Nat) (a : Int × Int) : List V := (.bad :: .i .i64 len :: .bad :: .bad :: .bad :: .pu 3 (X.map rwV) .u :: .bad :: .bad :: .bad :: .pu 3 (Z.map rwV) .u :: .bad :: .i .i64 (i : Nat) :: .i .i64 a.1 :: .i .i64 a.2 :: List.replicate 110 .bad)
def EJ (len : Int) (X Z : List Rw2) (i : Nat) (a : Int × Int) (k : Nat) : List V := (.bad :: .i .i64 len :: .bad :: .bad :: .bad :: .pu 3 (X.map rwV) .u :: .bad :: .bad :: .bad :: .pu 3 (Z.map rwV) .u :: .bad :: .i .i64 (i : Nat) :: .i .i64 a.1 :: .i .i64 a.2 :: .i .i64 (k : Nat) :: List.replicate 109 .bad)
theorem win_loop {s z : St} {L : List En} {Q : XM → List V → St → Prop} (X Z : List Rw2) (len : Int) (i : Nat) (w : Rw2) (hw : Z[i]? = some w) (hX : X.length ≤ 100000) (hZ : Z.length ≤ 100000) (K : Kn s z L)
    (hQ : ∀ e z', fg [1, 5, 9, 11, 12, 13] e = EP len X Z i (X.foldl (stepW w.1 (wrapF .i64 (w.1 + len))) (0, 0)) → Kn s z' L → Q .nrm e z') :
    HM gt0 Try.prog s c3i (EP len X Z i (0, 0)) z Q := by
  have hll : (X.map rwV).length = X.length := List.length_map ..
  have hzl : i < Z.length := by
    rcases Nat.lt_or_ge i Z.length with h | h
    · exact h
    · rw [List.getElem?_eq_none h] at hw; cases hw
  refine kgo ?_; (repeat (first | intro (X:Nat) | intro (z:St) | intro (av:V) | intro (tk:Option Nat) | (intro (K1:Kn _ _ _); (try clear K); rename Kn _ _ _ => K))); conv => whnf
  refine HM.loop gnm0 fun hg => ⟨fun n e z' => ∃ k : Nat, k ≤ X.length ∧ n = X.length - k ∧ e = EJ len X Z i ((X.take k).foldl (stepW w.1 (wrapF .i64 (w.1 + len))) (0, 0)) k ∧ Kn s z' L,
    ⟨X.length, fg [1, 5, 9, 11, 12, 13, 14] _, _, WkM.fg hg, 0, Nat.zero_le _, rfl, rfl, K⟩, ?_⟩
  clear K
  rintro n e z1 ⟨k, hk, rfl, rfl, K⟩
  obtain ⟨a, ha⟩ : ∃ a, (X.take k).foldl (stepW w.1 (wrapF .i64 (w.1 + len))) (0, 0) = a := ⟨_, rfl⟩
  rw [ha]
  conv => whnf
  refine kgo ?_; (repeat (first | intro (X:Nat) | intro (z:St) | intro (av:V) | intro (tk:Option Nat) | (intro (K1:Kn _ _ _); (try clear K); rename Kn _ _ _ => K))); conv => whnf
  rw [hll]
  refine brL ⟨fun hlt => ?_, fun hge => ?_⟩ <;> conv => whnf
  · have hx : X[k]? = some X[k] := List.getElem?_eq_getElem hlt
    generalize X[k] = x at hx
    have hst : (X.take (k + 1)).foldl (stepW w.1 (wrapF .i64 (w.1 + len))) (0, 0) = stepW w.1 (wrapF .i64 (w.1 + len)) a x := by
      rw [List.take_add_one, hx, List.foldl_append, ha]; rfl
    refine kgo ?_; (repeat (first | intro (X:Nat) | intro (z:St) | intro (av:V) | intro (tk:Option Nat) | (intro (K1:Kn _ _ _); (try clear K); rename Kn _ _ _ => K))); conv => whnf
    have hup : ∀ a', stepW w.1 (wrapF .i64 (w.1 + len)) a x = a' → (X.take (k + 1)).foldl (stepW w.1 (wrapF .i64 (w.1 + len))) (0, 0) = a' := fun a' h => hst.trans h
    cases h1 : eqZ x.1 w.1 <;> conv => whnf
    · refine kgo ?_; (repeat (first | intro (X:Nat) | intro (z:St) | intro (av:V) | intro (tk:Option Nat) | (intro (K1:Kn _ _ _); (try clear K); rename Kn _ _ _ => K))); conv => whnf
      cases h2 : eqZ x.1 (wrapF .i64 (w.1 + len)) <;> conv => whnf
      · refine kgo ?_; (repeat (first | intro (X:Nat) | intro (z:St) | intro (av:V) | intro (tk:Option Nat) | (intro (K1:Kn _ _ _); (try clear K); rename Kn _ _ _ => K))); conv => whnf
        intro hg'
        exact ⟨X.length - (k + 1), fg [1, 5, 9, 11, 12, 13, 14] _, _, by omega, WkM.fg hg', k + 1, hlt, rfl, by rw [hup a (by unfold stepW; rw [if_neg (by simp [h1, h2])])]; rfl, K⟩
      · refine kgo ?_; (repeat (first | intro (X:Nat) | intro (z:St) | intro (av:V) | intro (tk:Option Nat) | (intro (K1:Kn _ _ _); (try clear K); rename Kn _ _ _ => K))); conv => whnf
        intro hg'
        exact ⟨X.length - (k + 1), fg [1, 5, 9, 11, 12, 13, 14] _, _, by omega, WkM.fg hg', k + 1, hlt, rfl, by rw [hup _ (by unfold stepW; rw [if_pos (by simp [h2])])]; rfl, K⟩
    · refine kgo ?_; (repeat (first | intro (X:Nat) | intro (z:St) | intro (av:V) | intro (tk:Option Nat) | (intro (K1:Kn _ _ _); (try clear K); rename Kn _ _ _ => K))); conv => whnf
      intro hg'
      exact ⟨X.length - (k + 1), fg [1, 5, 9, 11, 12, 13, 14] _, _, by omega, WkM.fg hg', k + 1, hlt, rfl, by rw [hup _ (by unfold stepW; rw [if_pos (by simp [h1])])]; rfl, K⟩
  · refine kgo ?_; (repeat (first | intro (X:Nat) | intro (z:St) | intro (av:V) | intro (tk:Option Nat) | (intro (K1:Kn _ _ _); (try clear K); rename Kn _ _ _ => K))); conv => whnf
    rw [List.take_of_length_le hge] at ha
    refine hQ _ _ ?_ K
    rw [ha]
    rfl
theorem spans_law (ms : List Mv) (len : Int) (hn : ∀ m ∈ ms, Nm s0.L m.v) (hl : ms.length ≤ maxLen) (s : St) (hx : NoX s) : Den gt0 Try.prog 3 [.pu 47 (ms.map Mv.v) .u, .i .i64 len] s (.b true) s := by
  refine Den.tidy fun hty => Den.hm gnm0 hF3 ?_
  have K := Kn.init hty.1 hx
  conv => whnf
  refine kgo ?_; (repeat (first | intro (X:Nat) | intro (z:St) | intro (av:V) | intro (tk:Option Nat) | (intro (K1:Kn _ _ _); (try clear K); rename Kn _ _ _ => K))); conv => whnf
  refine ⟨_, _, much_den ms hn hl _, ?_⟩
  cases hmu : muchGo ms.length ms 0 0 <;> conv => whnf
  · refine kgo ?_; (repeat (first | intro (X:Nat) | intro (z:St) | intro (av:V) | intro (tk:Option Nat) | (intro (K1:Kn _ _ _); (try clear K); rename Kn _ _ _ => K))); conv => whnf
    cases hb : ltZ 1125899906842624 len <;> conv => whnf
    · obtain ⟨h80, ht⟩ := much_ok ms _ 0 0 (by omega) hmu
      refine kgo ?_; (repeat (first | intro (X:Nat) | intro (z:St) | intro (av:V) | intro (tk:Option Nat) | (intro (K1:Kn _ _ _); (try clear K); rename Kn _ _ _ => K))); conv => whnf
      cases h1 : ltZ len 1
      · rw [ltZ_eq] at h1 hb
        simp only [decide_eq_false_iff_not] at h1 hb
        refine ⟨_, _, spans8w_den ms len (by omega) (by omega) (by omega) hn ht _ K.x, ?_⟩
        conv => whnf
        refine kgo ?_; (repeat (first | intro (X:Nat) | intro (z:St) | intro (av:V) | intro (tk:Option Nat) | (intro (K1:Kn _ _ _); (try clear K); rename Kn _ _ _ => K))); conv => whnf
        refine ⟨_, _, f9_den ms len (by omega) hn (by omega) (by omega) (fun m hm => ht m (List.mem_filter.1 hm).1) _ K.x, ?_⟩
        have hXl : (refR len (evs ms)).length ≤ 1000 := by
          have h := ref_len len (evs ms) (evs ms).length (Nat.le_refl _)
          rw [List.take_length] at h
          have := List.length_filter_le isEv ms
          unfold evs at h ⊢
          omega
        have hZl : (refR (2 * len) (evs ms)).length ≤ 1000 := by
          have h := ref_len (2 * len) (evs ms) (evs ms).length (Nat.le_refl _)
          rw [List.take_length] at h
          have := List.length_filter_le isEv ms
          unfold evs at h ⊢
          omega
        have htw := fun z hz => two_win (len := len) (by omega) (evs ms) z hz
        have hte : ∀ m ∈ evs ms, -1152921504606846976 ≤ m.t ∧ m.t ≤ 1152921504606846976 := fun m hm => ht m (List.mem_filter.1 hm).1
        have hZd := spans8w_den ms (2 * len) (by omega) (by omega) (by omega) hn ht
        generalize hX : refR len (evs ms) = X at *
        generalize hZ : refR (2 * len) (evs ms) = Z at *
        have hsd := same10w_den X (by omega)
        conv => whnf
        refine kgo ?_; (repeat (first | intro (X:Nat) | intro (z:St) | intro (av:V) | intro (tk:Option Nat) | (intro (K1:Kn _ _ _); (try clear K); rename Kn _ _ _ => K))); conv => whnf
        refine ⟨_, _, hsd _ K.x, ?_⟩
        conv => whnf
        refine kgo ?_; (repeat (first | intro (X:Nat) | intro (z:St) | intro (av:V) | intro (tk:Option Nat) | (intro (K1:Kn _ _ _); (try clear K); rename Kn _ _ _ => K))); conv => whnf
        rw [wIn (n := 2 * len) (by omega) (by omega)]
        refine ⟨_, _, hZd _ K.x, ?_⟩
        conv => whnf
        refine kgo ?_; (repeat (first | intro (X:Nat) | intro (z:St) | intro (av:V) | intro (tk:Option Nat) | (intro (K1:Kn _ _ _); (try clear K); rename Kn _ _ _ => K))); conv => whnf
        refine HM.loop gnm0 fun hg => ⟨fun n e z' => ∃ i : Nat, i ≤ Z.length ∧ n = Z.length - i ∧ e = EO len X Z i ∧ Kn s z' [],
          ⟨Z.length, fg [1, 5, 9, 11] _, _, WkM.fg hg, 0, Nat.zero_le _, rfl, rfl, K⟩, ?_⟩
        clear K
        have hll : (Z.map rwV).length = Z.length := List.length_map ..
        rintro n e z1 ⟨i, hi, rfl, rfl, K⟩
        conv => whnf
        refine kgo ?_; (repeat (first | intro (X:Nat) | intro (z:St) | intro (av:V) | intro (tk:Option Nat) | (intro (K1:Kn _ _ _); (try clear K); rename Kn _ _ _ => K))); conv => whnf
        rw [hll]
        refine brL ⟨fun hlt => ?_, fun hge => ?_⟩ <;> conv => whnf
        · have hw : Z[i]? = some Z[i] := List.getElem?_eq_getElem hlt
          obtain ⟨⟨m, hm, hzm⟩, hsum⟩ := htw Z[i] (List.getElem_mem _)
          generalize Z[i] = w at hw hzm hsum
          obtain ⟨b1, b2⟩ := from_bnd (len := 2 * len) (t := m.t) (by omega) (by omega) (hte m hm).1 (hte m hm).2
          rw [← hzm] at b1 b2
          refine HM.skip ?_
          refine HM.seq (HM.blk (HM.seq ?_))
          generalize hR : mS gt0 Try.prog s _ _ = R
          conv => whnf
          refine kgo ?_; (repeat (first | intro (X:Nat) | intro (z:St) | intro (av:V) | intro (tk:Option Nat) | (intro (K1:Kn _ _ _); (try clear K); rename Kn _ _ _ => K))); conv => whnf
          subst hR
          refine HM.fgt (c := .seq c3i c3r) gnm0 [1, 5, 9, 11, 12, 13] fun _ => ?_
          refine HM.seq (a := c3i) ?_
          refine win_loop X Z len i w hw (by omega) (by omega) K fun e z2 he K => ?_
          refine HM.fgt (c := c3r) gnm0 [1, 5, 9, 11, 12, 13] fun _ => ?_
          rw [he, wIn (n := w.1 + len) (by omega) (by omega), hsum]
          have eqr : ∀ a : Int, eqZ a a = true := fun a => by rw [eqZ_eq]; simp
          conv => whnf
          refine kgo ?_; (repeat (first | intro (X:Nat) | intro (z:St) | intro (av:V) | intro (tk:Option Nat) | (intro (K1:Kn _ _ _); (try clear K); rename Kn _ _ _ => K))); conv => whnf
          rw [eqr]
          conv => whnf
          refine kgo ?_; (repeat (first | intro (X:Nat) | intro (z:St) | intro (av:V) | intro (tk:Option Nat) | (intro (K1:Kn _ _ _); (try clear K); rename Kn _ _ _ => K))); conv => whnf
          rw [eqr]
          conv => whnf
          refine kgo ?_; (repeat (first | intro (X:Nat) | intro (z:St) | intro (av:V) | intro (tk:Option Nat) | (intro (K1:Kn _ _ _); (try clear K); rename Kn _ _ _ => K))); conv => whnf
          intro hg'
          exact ⟨Z.length - (i + 1), fg [1, 5, 9, 11] _, _, by omega, WkM.fg hg', i + 1, hlt, rfl, rfl, K⟩
        · refine kgo ?_; (repeat (first | intro (X:Nat) | intro (z:St) | intro (av:V) | intro (tk:Option Nat) | (intro (K1:Kn _ _ _); (try clear K); rename Kn _ _ _ => K))); conv => whnf
          refine ⟨_, _, known_pden _, ?_⟩
          conv => whnf
          refine kgo ?_; (repeat (first | intro (X:Nat) | intro (z:St) | intro (av:V) | intro (tk:Option Nat) | (intro (K1:Kn _ _ _); (try clear K); rename Kn _ _ _ => K))); conv => whnf
          exact K.fin hty hx (.b _) (.refl _)
      · refine ⟨_, _, spans8_no _ len h1 _ K.x, ?_⟩
        conv => whnf
        refine kgo ?_; (repeat (first | intro (X:Nat) | intro (z:St) | intro (av:V) | intro (tk:Option Nat) | (intro (K1:Kn _ _ _); (try clear K); rename Kn _ _ _ => K))); conv => whnf
        refine ⟨_, _, spans9_no _ len h1 _ K.x, ?_⟩
        conv => whnf
        refine kgo ?_; (repeat (first | intro (X:Nat) | intro (z:St) | intro (av:V) | intro (tk:Option Nat) | (intro (K1:Kn _ _ _); (try clear K); rename Kn _ _ _ => K))); conv => whnf
        refine ⟨_, _, same10w_den [] (by simp) _ K.x, ?_⟩
        conv => whnf
        refine kgo ?_; (repeat (first | intro (X:Nat) | intro (z:St) | intro (av:V) | intro (tk:Option Nat) | (intro (K1:Kn _ _ _); (try clear K); rename Kn _ _ _ => K))); conv => whnf
        refine ⟨_, _, known_pden _, ?_⟩
        conv => whnf
        refine kgo ?_; (repeat (first | intro (X:Nat) | intro (z:St) | intro (av:V) | intro (tk:Option Nat) | (intro (K1:Kn _ _ _); (try clear K); rename Kn _ _ _ => K))); conv => whnf
        exact K.fin hty hx (.b _) (.refl _)
    · refine kgo ?_; (repeat (first | intro (X:Nat) | intro (z:St) | intro (av:V) | intro (tk:Option Nat) | (intro (K1:Kn _ _ _); (try clear K); rename Kn _ _ _ => K))); conv => whnf
      refine ⟨_, _, known_pden _, ?_⟩
      conv => whnf
      refine kgo ?_; (repeat (first | intro (X:Nat) | intro (z:St) | intro (av:V) | intro (tk:Option Nat) | (intro (K1:Kn _ _ _); (try clear K); rename Kn _ _ _ => K))); conv => whnf
      exact K.fin hty hx (.b _) (.refl _)
  · refine kgo ?_; (repeat (first | intro (X:Nat) | intro (z:St) | intro (av:V) | intro (tk:Option Nat) | (intro (K1:Kn _ _ _); (try clear K); rename Kn _ _ _ => K))); conv => whnf
    refine ⟨_, _, known_pden _, ?_⟩
    conv => whnf
    refine kgo ?_; (repeat (first | intro (X:Nat) | intro (z:St) | intro (av:V) | intro (tk:Option Nat) | (intro (K1:Kn _ _ _); (try clear K); rename Kn _ _ _ => K))); conv => whnf
    exact K.fin hty hx (.b _) (.refl _)
end Go.Proofs.Ythoojnjcdllgdaa
