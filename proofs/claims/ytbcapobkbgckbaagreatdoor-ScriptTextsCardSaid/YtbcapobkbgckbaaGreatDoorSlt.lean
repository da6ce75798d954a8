/-
  The law of texts: walked whole. No statement stands here.
-/
import Derived.Test.YtbcapobkbgckbaaGreatDoorSlr
import Derived.Test.YtbcapobkbgckbaaGreatDoorStx
set_option linter.all false
namespace Go.Proofs.YtbcapobkbgckbaaGreatDoor
open Go Rf
set_option maxRecDepth 100000
set_option maxHeartbeats 4000000

theorem hG3 : cF gt1 Tryz.prog (wfa 3) 3 = some f3 := by kernel_rfl
def smE (l : List Ey) : Nat := (l.map fun e => e.b.length).sum
def ESm (l : List Ey) (n : Int) (i : Nat) : List V := (slS l :: .bad :: .bad :: .i .i64 n :: .i .i64 (i : Nat) :: List.replicate 89 .bad)
def EMy (l : List Ey) (w : Bool) (i : Nat) : List V := (slS l :: .bad :: .bad :: .bad :: .bad :: .b w :: .i .i64 (i : Nat) :: List.replicate 87 .bad)
theorem smE_snoc (l : List Ey) (e : Ey) : smE (l ++ [e]) = smE l + e.b.length := by unfold smE; simp
theorem smE_le : ∀ (l : List Ey), (∀ e ∈ l, e.b.length ≤ 65536) → smE l ≤ 65536 * l.length
  | [], _ => Nat.le_refl _
  | e :: l, h => by
    have h1 := smE_le l fun x hx => h x (List.mem_cons_of_mem _ hx)
    have h2 := h e List.mem_cons_self
    have h3 : smE (e :: l) = e.b.length + smE l := by unfold smE; simp
    rw [h3, List.length_cons]; omega
theorem lnS_le {e : Ey} (he : EyOk e) (hm : mayS e = true) : (lnS e ++ [10]).length ≤ 53 + 2 * e.b.length := by
  obtain ⟨f, hf, -⟩ := mayS_some hm
  have h1 := (fm_no e.k f hf).2.2.2.2.1
  have h2 := numF_len (b := f.a) he.2.1
  have h3 := numF_len (b := f.n) he.2.2
  have h4 : (if f.b then [32] else ([] : List UInt8)).length ≤ 1 := by split <;> simp
  rw [lnS_of hf]
  unfold lnF
  simp only [List.length_append, hx_len, List.length_cons, List.length_nil]
  omega
theorem txL_le : ∀ (l : List Ey), (∀ e ∈ l, EyOk e ∧ mayS e = true) → (txL l).length ≤ 53 * l.length + 2 * smE l
  | [], _ => Nat.le_refl _
  | e :: l, h => by
    have h1 := txL_le l fun x hx => h x (List.mem_cons_of_mem _ hx)
    have h2 := lnS_le (h e List.mem_cons_self).1 (h e List.mem_cons_self).2
    have h3 : smE (e :: l) = e.b.length + smE l := by unfold smE; simp
    have h4 : (txL (e :: l)).length = (lnS e ++ [10]).length + (txL l).length := by unfold txL; rw [List.flatMap_cons, List.length_append]
    rw [h4, h3, List.length_cons]; omega
theorem may_le {e : Ey} (h : mayS e = true) : e.b.length ≤ 65536 := by
  obtain ⟨f, -, hm⟩ := mayS_some h
  exact (mayF_iff.1 hm).2.2.2.2.2.1
theorem tlaw_den (l : List Ey) (he : ∀ e ∈ l, EyOk e) (s : St) (hx : NoX s) : Den gt1 Tryz.prog 3 [slS l] s (.b true) s := by
  have hll : (l.map eyV).length = l.length := List.length_map ..
  refine Den.tidy fun ht => Den.hm gnm1 hG3 ?_
  have K := Kn.init ht.1 hx
  conv => whnf
  refine kgo ?_; (repeat (first | intro (X:Nat) | intro (z:St) | intro (av:V) | intro (tk:Option Nat) | (intro (K1:Kn _ _ _); (try clear K); rename Kn _ _ _ => K))); conv => whnf
  refine HM.loop gnm1 fun hg => ⟨fun m ev z' => ∃ (n : Int) (i : Nat), i ≤ l.length ∧ i ≤ 61 ∧ m = l.length - i ∧ ev = ESm l n i ∧ ((∀ e ∈ l.take i, e.b.length ≤ 65536) → n = (smE (l.take i) : Nat)) ∧ Kn s z' [],
    ⟨l.length, fg [0, 3, 4] _, _, WkM.fg hg, 0, 0, Nat.zero_le _, by omega, rfl, rfl, (fun _ => rfl), K⟩, ?_⟩
  clear K
  rintro m ev z1 ⟨n, i, hi, hi2, rfl, rfl, hn, K⟩
  conv => whnf
  refine kgo ?_; (repeat (first | intro (X:Nat) | intro (z:St) | intro (av:V) | intro (tk:Option Nat) | (intro (K1:Kn _ _ _); (try clear K); rename Kn _ _ _ => K))); conv => whnf
  rw [hll]
  refine brL ⟨fun hlt => ?_, fun hge => ?_⟩ <;> conv => whnf
  · have hki : l[i]? = some l[i] := List.getElem?_eq_getElem hlt
    have hmem : l[i] ∈ l := List.getElem_mem hlt
    have hsm : l.take (i + 1) = l.take i ++ [l[i]] := by rw [List.take_add_one, hki]; rfl
    generalize l[i] = e at hki hmem hsm
    have hbl : (e.b.map bV).length = e.b.length := List.length_map ..
    refine kgo ?_; (repeat (first | intro (X:Nat) | intro (z:St) | intro (av:V) | intro (tk:Option Nat) | (intro (K1:Kn _ _ _); (try clear K); rename Kn _ _ _ => K))); conv => whnf
    cases h60 : leZ (i : Nat) 60 <;> conv => whnf
    · rw [leZ_eq] at h60
      simp only [decide_eq_false_iff_not] at h60
      refine kgo ?_; (repeat (first | intro (X:Nat) | intro (z:St) | intro (av:V) | intro (tk:Option Nat) | (intro (K1:Kn _ _ _); (try clear K); rename Kn _ _ _ => K))); conv => whnf
      rw [hll, show ltZ 60 (l.length : Nat) = true by rw [ltZ_eq]; simp only [decide_eq_true_eq]; omega]
      conv => whnf
      refine kgo ?_; (repeat (first | intro (X:Nat) | intro (z:St) | intro (av:V) | intro (tk:Option Nat) | (intro (K1:Kn _ _ _); (try clear K); rename Kn _ _ _ => K))); conv => whnf
      refine ⟨_, _, known_den _ K.x, ?_⟩
      conv => whnf
      refine kgo ?_; (repeat (first | intro (X:Nat) | intro (z:St) | intro (av:V) | intro (tk:Option Nat) | (intro (K1:Kn _ _ _); (try clear K); rename Kn _ _ _ => K))); conv => whnf
      exact K.fin ht hx (.b _) (.refl _)
    rw [leZ_eq] at h60
    simp only [decide_eq_true_eq] at h60
    refine kgo ?_; (repeat (first | intro (X:Nat) | intro (z:St) | intro (av:V) | intro (tk:Option Nat) | (intro (K1:Kn _ _ _); (try clear K); rename Kn _ _ _ => K))); conv => whnf
    intro hg'
    refine ⟨l.length - (i + 1), fg [0, 3, 4] _, _, by omega, WkM.fg hg', wrapF .i64 (n + ((e.b.map bV).length : Nat)), i + 1, hlt, by omega, rfl, rfl, fun hb => ?_, K⟩
    rw [hsm] at hb ⊢
    have hb1 : ∀ x ∈ l.take i, x.b.length ≤ 65536 := fun x hx => hb x (List.mem_append_left _ hx)
    have hb2 := hb e (by simp)
    have h3 := smE_le _ hb1
    rw [List.length_take] at h3
    rw [hn hb1, hbl, smE_snoc, wrapF_eq, wrap_in .i64 _ (by simp [IntKind.signed, lim]; omega) (by simp [lim]; omega)]
    omega
  · refine kgo ?_; (repeat (first | intro (X:Nat) | intro (z:St) | intro (av:V) | intro (tk:Option Nat) | (intro (K1:Kn _ _ _); (try clear K); rename Kn _ _ _ => K))); conv => whnf
    rw [hll]
    cases h60 : ltZ 60 (l.length : Nat) <;> conv => whnf
    rotate_left
    · refine kgo ?_; (repeat (first | intro (X:Nat) | intro (z:St) | intro (av:V) | intro (tk:Option Nat) | (intro (K1:Kn _ _ _); (try clear K); rename Kn _ _ _ => K))); conv => whnf
      refine ⟨_, _, known_den _ K.x, ?_⟩
      conv => whnf
      refine kgo ?_; (repeat (first | intro (X:Nat) | intro (z:St) | intro (av:V) | intro (tk:Option Nat) | (intro (K1:Kn _ _ _); (try clear K); rename Kn _ _ _ => K))); conv => whnf
      exact K.fin ht hx (.b _) (.refl _)
    rw [ltZ_eq] at h60
    simp only [decide_eq_false_iff_not] at h60
    have hn1 := hn
    rw [List.take_of_length_le hge] at hn1
    refine kgo ?_; (repeat (first | intro (X:Nat) | intro (z:St) | intro (av:V) | intro (tk:Option Nat) | (intro (K1:Kn _ _ _); (try clear K); rename Kn _ _ _ => K))); conv => whnf
    cases h12 : ltZ 12000 n <;> conv => whnf
    rotate_left
    · refine kgo ?_; (repeat (first | intro (X:Nat) | intro (z:St) | intro (av:V) | intro (tk:Option Nat) | (intro (K1:Kn _ _ _); (try clear K); rename Kn _ _ _ => K))); conv => whnf
      refine ⟨_, _, known_den _ K.x, ?_⟩
      conv => whnf
      refine kgo ?_; (repeat (first | intro (X:Nat) | intro (z:St) | intro (av:V) | intro (tk:Option Nat) | (intro (K1:Kn _ _ _); (try clear K); rename Kn _ _ _ => K))); conv => whnf
      exact K.fin ht hx (.b _) (.refl _)
    refine kgo ?_; (repeat (first | intro (X:Nat) | intro (z:St) | intro (av:V) | intro (tk:Option Nat) | (intro (K1:Kn _ _ _); (try clear K); rename Kn _ _ _ => K))); conv => whnf
    refine HM.loop gnm1 fun hg => ⟨fun m ev z' => ∃ (w : Bool) (i : Nat), i ≤ l.length ∧ m = l.length - i ∧ ev = EMy l w i ∧ w = (l.take i).all mayS ∧ Kn s z' [],
      ⟨l.length, fg [0, 5, 6] _, _, WkM.fg hg, true, 0, Nat.zero_le _, rfl, rfl, rfl, K⟩, ?_⟩
    clear K
    rintro m ev z2 ⟨w, j, hj, rfl, rfl, hw, K⟩
    conv => whnf
    refine kgo ?_; (repeat (first | intro (X:Nat) | intro (z:St) | intro (av:V) | intro (tk:Option Nat) | (intro (K1:Kn _ _ _); (try clear K); rename Kn _ _ _ => K))); conv => whnf
    rw [hll]
    refine brL ⟨fun hlt => ?_, fun hge => ?_⟩ <;> conv => whnf
    · have hki : l[j]? = some l[j] := List.getElem?_eq_getElem hlt
      have hmem : l[j] ∈ l := List.getElem_mem hlt
      have hsm : l.take (j + 1) = l.take j ++ [l[j]] := by rw [List.take_add_one, hki]; rfl
      generalize l[j] = e at hki hmem hsm
      refine kgo ?_; (repeat (first | intro (X:Nat) | intro (z:St) | intro (av:V) | intro (tk:Option Nat) | (intro (K1:Kn _ _ _); (try clear K); rename Kn _ _ _ => K))); conv => whnf
      refine ⟨_, _, up0 (may_den e _ K.x), ?_⟩
      conv => whnf
      refine kgo ?_; (repeat (first | intro (X:Nat) | intro (z:St) | intro (av:V) | intro (tk:Option Nat) | (intro (K1:Kn _ _ _); (try clear K); rename Kn _ _ _ => K))); conv => whnf
      refine ⟨stays_one rfl, ?_⟩
      conv => whnf
      refine kgo ?_; (repeat (first | intro (X:Nat) | intro (z:St) | intro (av:V) | intro (tk:Option Nat) | (intro (K1:Kn _ _ _); (try clear K); rename Kn _ _ _ => K))); conv => whnf
      refine ⟨_, _, up0 (rmay_den e (he e hmem).2.2 _ K.x), ?_⟩
      cases hme : mayS e <;> conv => whnf
      · refine kgo ?_; (repeat (first | intro (X:Nat) | intro (z:St) | intro (av:V) | intro (tk:Option Nat) | (intro (K1:Kn _ _ _); (try clear K); rename Kn _ _ _ => K))); conv => whnf
        cases w <;> conv => whnf
        · refine kgo ?_; (repeat (first | intro (X:Nat) | intro (z:St) | intro (av:V) | intro (tk:Option Nat) | (intro (K1:Kn _ _ _); (try clear K); rename Kn _ _ _ => K))); conv => whnf
          intro hg'
          exact ⟨l.length - (j + 1), fg [0, 5, 6] _, _, by omega, WkM.fg hg', _, j + 1, hlt, rfl, rfl, by rw [hsm, List.all_append, ← hw]; simp [hme], K⟩
        · refine kgo ?_; (repeat (first | intro (X:Nat) | intro (z:St) | intro (av:V) | intro (tk:Option Nat) | (intro (K1:Kn _ _ _); (try clear K); rename Kn _ _ _ => K))); conv => whnf
          refine ⟨_, _, up0 (rmay_den e (he e hmem).2.2 _ K.x), ?_⟩
          rw [hme]
          conv => whnf
          refine kgo ?_; (repeat (first | intro (X:Nat) | intro (z:St) | intro (av:V) | intro (tk:Option Nat) | (intro (K1:Kn _ _ _); (try clear K); rename Kn _ _ _ => K))); conv => whnf
          intro hg'
          exact ⟨l.length - (j + 1), fg [0, 5, 6] _, _, by omega, WkM.fg hg', _, j + 1, hlt, rfl, rfl, by rw [hsm, List.all_append, ← hw]; simp [hme], K⟩
      · refine kgo ?_; (repeat (first | intro (X:Nat) | intro (z:St) | intro (av:V) | intro (tk:Option Nat) | (intro (K1:Kn _ _ _); (try clear K); rename Kn _ _ _ => K))); conv => whnf
        cases w <;> conv => whnf
        · refine kgo ?_; (repeat (first | intro (X:Nat) | intro (z:St) | intro (av:V) | intro (tk:Option Nat) | (intro (K1:Kn _ _ _); (try clear K); rename Kn _ _ _ => K))); conv => whnf
          intro hg'
          exact ⟨l.length - (j + 1), fg [0, 5, 6] _, _, by omega, WkM.fg hg', _, j + 1, hlt, rfl, rfl, by rw [hsm, List.all_append, ← hw]; simp [hme], K⟩
        · refine kgo ?_; (repeat (first | intro (X:Nat) | intro (z:St) | intro (av:V) | intro (tk:Option Nat) | (intro (K1:Kn _ _ _); (try clear K); rename Kn _ _ _ => K))); conv => whnf
          refine ⟨_, _, up0 (rmay_den e (he e hmem).2.2 _ K.x), ?_⟩
          rw [hme]
          conv => whnf
          refine kgo ?_; (repeat (first | intro (X:Nat) | intro (z:St) | intro (av:V) | intro (tk:Option Nat) | (intro (K1:Kn _ _ _); (try clear K); rename Kn _ _ _ => K))); conv => whnf
          intro hg'
          exact ⟨l.length - (j + 1), fg [0, 5, 6] _, _, by omega, WkM.fg hg', _, j + 1, hlt, rfl, rfl, by rw [hsm, List.all_append, ← hw]; simp [hme], K⟩
    · rw [List.take_of_length_le hge] at hw
      have hT : ∀ i, (∀ e ∈ l.take i, mayS e = true) → (txL (l.take i)).length ≤ 8000000 := fun i hi => by
        have h1 := txL_le (l.take i) fun e h => ⟨he e (List.mem_of_mem_take h), hi e h⟩
        have h2 := smE_le (l.take i) fun e h => may_le (hi e h)
        have h3 : (l.take i).length ≤ 60 := by rw [List.length_take]; omega
        omega
      refine kgo ?_; (repeat (first | intro (X:Nat) | intro (z:St) | intro (av:V) | intro (tk:Option Nat) | (intro (K1:Kn _ _ _); (try clear K); rename Kn _ _ _ => K))); conv => whnf
      refine ⟨_, _, text_dn l he hT (by omega) _ K.x, ?_⟩
      conv => whnf
      refine kgo ?_; (repeat (first | intro (X:Nat) | intro (z:St) | intro (av:V) | intro (tk:Option Nat) | (intro (K1:Kn _ _ _); (try clear K); rename Kn _ _ _ => K))); conv => whnf
      refine ⟨_, _, up0 (rtext_dn l he hT (by omega) _ K.x), ?_⟩
      conv => whnf
      refine kgo ?_; (repeat (first | intro (X:Nat) | intro (z:St) | intro (av:V) | intro (tk:Option Nat) | (intro (K1:Kn _ _ _); (try clear K); rename Kn _ _ _ => K))); conv => whnf
      rw [beq_self_eq_true]
      conv => whnf
      refine kgo ?_; (repeat (first | intro (X:Nat) | intro (z:St) | intro (av:V) | intro (tk:Option Nat) | (intro (K1:Kn _ _ _); (try clear K); rename Kn _ _ _ => K))); conv => whnf
      cases hwv : w <;> conv => whnf
      · refine kgo ?_; (repeat (first | intro (X:Nat) | intro (z:St) | intro (av:V) | intro (tk:Option Nat) | (intro (K1:Kn _ _ _); (try clear K); rename Kn _ _ _ => K))); conv => whnf
        have ht0 : txS l = [] := by
          unfold txS
          rw [if_neg (by rw [← hw, hwv]; decide)]
        rw [ht0]
        conv => whnf
        refine kgo ?_; (repeat (first | intro (X:Nat) | intro (z:St) | intro (av:V) | intro (tk:Option Nat) | (intro (K1:Kn _ _ _); (try clear K); rename Kn _ _ _ => K))); conv => whnf
        refine ⟨_, _, known_den _ K.x, ?_⟩
        conv => whnf
        refine kgo ?_; (repeat (first | intro (X:Nat) | intro (z:St) | intro (av:V) | intro (tk:Option Nat) | (intro (K1:Kn _ _ _); (try clear K); rename Kn _ _ _ => K))); conv => whnf
        exact K.fin ht hx (.b _) (.refl _)
      · have hall : ∀ e ∈ l, EyOk e ∧ mayS e = true := fun e h => ⟨he e h, List.all_eq_true.1 (hw.symm.trans hwv) e h⟩
        have hbl : ∀ e ∈ l, e.b.length ≤ 100000 := fun e h => may_len (hall e h).2
        have hS : (txL l).length ≤ 60000 := by
          have h1 := txL_le l hall
          have h2 := hn1 fun e h => may_le (hall e h).2
          rw [ltZ_eq] at h12
          simp only [decide_eq_false_iff_not] at h12
          omega
        refine kgo ?_; (repeat (first | intro (X:Nat) | intro (z:St) | intro (av:V) | intro (tk:Option Nat) | (intro (K1:Kn _ _ _); (try clear K); rename Kn _ _ _ => K))); conv => whnf
        have ho := of_den (txS l) (by rw [txS_all hall]; exact hS) z2 K.x
        rw [txS_all hall, ofS_tx hall] at ho
        rw [txS_all hall]
        refine ⟨_, _, ho, ?_⟩
        conv => whnf
        refine kgo ?_; (repeat (first | intro (X:Nat) | intro (z:St) | intro (av:V) | intro (tk:Option Nat) | (intro (K1:Kn _ _ _); (try clear K); rename Kn _ _ _ => K))); conv => whnf
        refine ⟨_, _, up0 (rsame_den l (by omega) _ K.x), ?_⟩
        conv => whnf
        refine kgo ?_; (repeat (first | intro (X:Nat) | intro (z:St) | intro (av:V) | intro (tk:Option Nat) | (intro (K1:Kn _ _ _); (try clear K); rename Kn _ _ _ => K))); conv => whnf
        refine ⟨_, _, up0 (same_den l (by omega) hbl _ K.x), ?_⟩
        conv => whnf
        refine kgo ?_; (repeat (first | intro (X:Nat) | intro (z:St) | intro (av:V) | intro (tk:Option Nat) | (intro (K1:Kn _ _ _); (try clear K); rename Kn _ _ _ => K))); conv => whnf
        refine ⟨_, _, known_den _ K.x, ?_⟩
        conv => whnf
        refine kgo ?_; (repeat (first | intro (X:Nat) | intro (z:St) | intro (av:V) | intro (tk:Option Nat) | (intro (K1:Kn _ _ _); (try clear K); rename Kn _ _ _ => K))); conv => whnf
        exact K.fin ht hx (.b _) (.refl _)
end Go.Proofs.YtbcapobkbgckbaaGreatDoor
