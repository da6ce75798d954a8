/-
  Contracts: may an entry be, the document's. No statement stands here.
-/
import Derived.Test.YtbcapobkbgckbaaGreatDoorWc
import Derived.Test.YtbcapobkbgckbaaGreatDoorSpl
import Derived.Test.YtbcapobkbgckbaaGreatDoorLF
set_option linter.all false
namespace Go.Proofs.YtbcapobkbgckbaaGreatDoor
open Go Rf
set_option maxRecDepth 100000
set_option maxHeartbeats 4000000

theorem rmay_den (e : Ey) (hi : i64 e.n) (s : St) (hx : NoX s) : Den gt0 Tryz.prog 7 [eyV e] s (.b (mayS e)) s := by
  have hl : (e.b.map bV).length = e.b.length := List.length_map ..
  refine Den.tidy fun ht => Den.hm gnm0 hF7 ?_
  have K := Kn.init ht.1 hx
  conv => whnf
  refine kgo ?_; (repeat (first | intro (X:Nat) | intro (z:St) | intro (av:V) | intro (tk:Option Nat) | (intro (K1:Kn _ _ _); (try clear K); rename Kn _ _ _ => K))); conv => whnf
  refine ⟨_, _, word_den e.k _, ?_⟩
  conv => whnf
  refine kgo ?_; (repeat (first | intro (X:Nat) | intro (z:St) | intro (av:V) | intro (tk:Option Nat) | (intro (K1:Kn _ _ _); (try clear K); rename Kn _ _ _ => K))); conv => whnf
  cases hf : fmS e.k with
  | none =>
    rw [show woV e.k = .tu [.s [], .s []] by rw [woV, hf], show mayS e = false by rw [mayS, hf]]
    conv => whnf
    refine kgo ?_; (repeat (first | intro (X:Nat) | intro (z:St) | intro (av:V) | intro (tk:Option Nat) | (intro (K1:Kn _ _ _); (try clear K); rename Kn _ _ _ => K))); conv => whnf
    exact K.fin ht hx (.b _) (.refl _)
  | some f =>
    rw [show woV e.k = .tu [.s f.w, .s (whF f)] by rw [woV, hf], mayS_of hf]
    obtain ⟨-, -, hw, hnb, -⟩ := fm_no _ f hf
    obtain ⟨hA, hN, hB⟩ := has_den e.k f hf
    conv => whnf
    refine kgo ?_; (repeat (first | intro (X:Nat) | intro (z:St) | intro (av:V) | intro (tk:Option Nat) | (intro (K1:Kn _ _ _); (try clear K); rename Kn _ _ _ => K))); conv => whnf
    rw [show (f.w == []) = false by simpa using hw]
    conv => whnf
    refine kgo ?_; (repeat (first | intro (X:Nat) | intro (z:St) | intro (av:V) | intro (tk:Option Nat) | (intro (K1:Kn _ _ _); (try clear K); rename Kn _ _ _ => K))); conv => whnf
    cases h1 : ltZ e.a 0 <;> conv => whnf
    rotate_left
    · refine kgo ?_; (repeat (first | intro (X:Nat) | intro (z:St) | intro (av:V) | intro (tk:Option Nat) | (intro (K1:Kn _ _ _); (try clear K); rename Kn _ _ _ => K))); conv => whnf
      rw [mayF_f fun h => by rw [ltZ_eq] at h1; simp at h1; omega]
      exact K.fin ht hx (.b _) (.refl _)
    refine kgo ?_; (repeat (first | intro (X:Nat) | intro (z:St) | intro (av:V) | intro (tk:Option Nat) | (intro (K1:Kn _ _ _); (try clear K); rename Kn _ _ _ => K))); conv => whnf
    cases h2 : ltZ 2147483647 e.a <;> conv => whnf
    rotate_left
    · refine kgo ?_; (repeat (first | intro (X:Nat) | intro (z:St) | intro (av:V) | intro (tk:Option Nat) | (intro (K1:Kn _ _ _); (try clear K); rename Kn _ _ _ => K))); conv => whnf
      rw [mayF_f fun h => by rw [ltZ_eq] at h2; simp at h2; omega]
      exact K.fin ht hx (.b _) (.refl _)
    refine kgo ?_; (repeat (first | intro (X:Nat) | intro (z:St) | intro (av:V) | intro (tk:Option Nat) | (intro (K1:Kn _ _ _); (try clear K); rename Kn _ _ _ => K))); conv => whnf
    rw [hl]
    cases h3 : ltZ 65536 (e.b.length : Nat) <;> conv => whnf
    rotate_left
    · refine kgo ?_; (repeat (first | intro (X:Nat) | intro (z:St) | intro (av:V) | intro (tk:Option Nat) | (intro (K1:Kn _ _ _); (try clear K); rename Kn _ _ _ => K))); conv => whnf
      rw [mayF_f fun h => by rw [ltZ_eq] at h3; simp at h3; omega]
      exact K.fin ht hx (.b _) (.refl _)
    rw [ltZ_eq] at h1 h2 h3
    simp only [decide_eq_false_iff_not] at h1 h2 h3
    refine kgo ?_; (repeat (first | intro (X:Nat) | intro (z:St) | intro (av:V) | intro (tk:Option Nat) | (intro (K1:Kn _ _ _); (try clear K); rename Kn _ _ _ => K))); conv => whnf
    have h4 : f.a = false → eqZ e.a 0 = false → mayF f e = false := fun h h' => mayF_f fun hm => by
      rw [eqZ_eq] at h'; simp at h'; rw [h] at hm; simp at hm; omega
    have h5 : f.n = false → eqZ e.n 0 = false → mayF f e = false := fun h h' => mayF_f fun hm => by
      rw [eqZ_eq] at h'; simp at h'; rw [h] at hm; simp at hm; exact h' hm.2.2.2.1
    have h7 : (!(ltZ 0 (e.b.length : Nat) == f.b)) = true → mayF f e = false := fun h => mayF_f fun hm => by
      have hx : ltZ 0 (e.b.length : Nat) = f.b := by
        rw [ltZ_eq, Bool.eq_iff_iff, decide_eq_true_eq, hm.2.2.2.2.1]; omega
      rw [hx] at h; simp at h
    have hk : (eqZ e.k 3 = true ∨ eqZ e.k 9 = true) ∧ f.n = true ∧ f.l = 0 ∨ eqZ e.k 3 = false ∧ eqZ e.k 9 = false ∧ (f.n = false ∨ f.n = true ∧ f.l = -9223372036854775808) := by
      have hf' := hf
      rcases fmS_cases e.k with ⟨-, g⟩ | ⟨hk, g⟩ | ⟨hk, g⟩ | ⟨hk, g⟩ | ⟨hk, g⟩ | ⟨hk, g⟩ | ⟨hk, g⟩ | ⟨hk, g⟩ | ⟨hk, g⟩ | ⟨hk, g⟩ <;> rw [g] at hf' <;> cases hf' <;> rw [hk] <;> decide
    have hO : eqZ e.k 3 = false → eqZ e.k 9 = false → (f.a = true ∨ eqZ e.a 0 = true) → (f.n = true ∨ eqZ e.n 0 = true) → (!(ltZ 0 (e.b.length : Nat) == f.b)) = false → mayF f e = true := fun g1 g2 g3 g4 g5 => by
      rw [mayF_iff]
      have gb : f.b = true ↔ 0 < e.b.length := by
        have : ltZ 0 (e.b.length : Nat) = f.b := by simpa using g5
        rw [← this, ltZ_eq, decide_eq_true_eq]; omega
      rw [eqZ_eq] at g3 g4
      simp only [beq_iff_eq] at g3 g4
      refine ⟨by omega, by omega, g3.imp id fun h => by omega, g4, gb, by omega, ?_⟩
      rcases hk with ⟨h | h, -⟩ | ⟨-, -, h | ⟨-, h⟩⟩
      · rw [g1] at h; cases h
      · rw [g2] at h; cases h
      · exact .inl h
      · have := hi.1
        exact .inr ⟨by omega, .inl (by omega)⟩
    have hT : (eqZ e.k 3 = true ∨ eqZ e.k 9 = true) → leZ 0 e.n = true → (f.a = true ∨ eqZ e.a 0 = true) → (f.n = true ∨ eqZ e.n 0 = true) → (!(ltZ 0 (e.b.length : Nat) == f.b)) = false → mayF f e = leZ e.n 2147483647 := fun g1 g2 g3 g4 g5 => by
      have gb : f.b = true ↔ 0 < e.b.length := by
        have : ltZ 0 (e.b.length : Nat) = f.b := by simpa using g5
        rw [← this, ltZ_eq, decide_eq_true_eq]; omega
      rw [eqZ_eq] at g3 g4
      rw [leZ_eq] at g2
      simp only [beq_iff_eq, decide_eq_true_eq] at g2 g3 g4
      rw [Bool.eq_iff_iff, mayF_iff, leZ_eq, decide_eq_true_eq]
      rcases hk with ⟨-, gn, h⟩ | ⟨h1, h2, -⟩
      · constructor
        · rintro ⟨-, -, -, -, -, -, hl⟩
          rcases hl with hl | hl
          · rw [gn] at hl; cases hl
          · omega
        · intro hl
          exact ⟨by omega, by omega, g3.imp id fun h => by omega, g4, gb, by omega, .inr ⟨by omega, .inr hl⟩⟩
      · rw [h1, h2] at g1; simp at g1
    have hT' : (eqZ e.k 3 = true ∨ eqZ e.k 9 = true) → leZ 0 e.n = false → mayF f e = false := fun g1 g2 => mayF_f fun hm => by
      rw [leZ_eq] at g2
      simp only [decide_eq_false_iff_not] at g2
      rcases hk with ⟨-, hn, h⟩ | ⟨h1, h2, -⟩
      · rcases hm.2.2.2.2.2.2 with h3 | h3
        · rw [hn] at h3; cases h3
        · omega
      · rw [h1, h2] at g1; simp at g1
    clear hk
    cases h4' : eqZ e.a 0 <;> conv => whnf
    · refine kgo ?_; (repeat (first | intro (X:Nat) | intro (z:St) | intro (av:V) | intro (tk:Option Nat) | (intro (K1:Kn _ _ _); (try clear K); rename Kn _ _ _ => K))); conv => whnf
      refine ⟨_, _, hA _, ?_⟩
      cases hfa : f.a <;> conv => whnf
      · refine kgo ?_; (repeat (first | intro (X:Nat) | intro (z:St) | intro (av:V) | intro (tk:Option Nat) | (intro (K1:Kn _ _ _); (try clear K); rename Kn _ _ _ => K))); conv => whnf
        rw [h4 hfa h4']
        exact K.fin ht hx (.b _) (.refl _)
      refine kgo ?_; (repeat (first | intro (X:Nat) | intro (z:St) | intro (av:V) | intro (tk:Option Nat) | (intro (K1:Kn _ _ _); (try clear K); rename Kn _ _ _ => K))); conv => whnf
      cases h5' : eqZ e.n 0 <;> conv => whnf
      · refine kgo ?_; (repeat (first | intro (X:Nat) | intro (z:St) | intro (av:V) | intro (tk:Option Nat) | (intro (K1:Kn _ _ _); (try clear K); rename Kn _ _ _ => K))); conv => whnf
        refine ⟨_, _, hN _, ?_⟩
        cases hfn : f.n <;> conv => whnf
        · refine kgo ?_; (repeat (first | intro (X:Nat) | intro (z:St) | intro (av:V) | intro (tk:Option Nat) | (intro (K1:Kn _ _ _); (try clear K); rename Kn _ _ _ => K))); conv => whnf
          rw [h5 hfn h5']
          exact K.fin ht hx (.b _) (.refl _)
        refine kgo ?_; (repeat (first | intro (X:Nat) | intro (z:St) | intro (av:V) | intro (tk:Option Nat) | (intro (K1:Kn _ _ _); (try clear K); rename Kn _ _ _ => K))); conv => whnf
        refine ⟨_, _, hB _, ?_⟩
        conv => whnf
        refine kgo ?_; (repeat (first | intro (X:Nat) | intro (z:St) | intro (av:V) | intro (tk:Option Nat) | (intro (K1:Kn _ _ _); (try clear K); rename Kn _ _ _ => K))); conv => whnf
        refine ⟨stays_one rfl, ?_⟩
        conv => whnf
        refine kgo ?_; (repeat (first | intro (X:Nat) | intro (z:St) | intro (av:V) | intro (tk:Option Nat) | (intro (K1:Kn _ _ _); (try clear K); rename Kn _ _ _ => K))); conv => whnf
        rw [hl]
        cases h6 : (!(ltZ 0 (e.b.length : Nat) == f.b)) <;> conv => whnf
        rotate_left
        · refine kgo ?_; (repeat (first | intro (X:Nat) | intro (z:St) | intro (av:V) | intro (tk:Option Nat) | (intro (K1:Kn _ _ _); (try clear K); rename Kn _ _ _ => K))); conv => whnf
          rw [h7 h6]
          exact K.fin ht hx (.b _) (.refl _)
        refine kgo ?_; (repeat (first | intro (X:Nat) | intro (z:St) | intro (av:V) | intro (tk:Option Nat) | (intro (K1:Kn _ _ _); (try clear K); rename Kn _ _ _ => K))); conv => whnf
        cases h8 : eqZ e.k 3 <;> conv => whnf
        · refine kgo ?_; (repeat (first | intro (X:Nat) | intro (z:St) | intro (av:V) | intro (tk:Option Nat) | (intro (K1:Kn _ _ _); (try clear K); rename Kn _ _ _ => K))); conv => whnf
          cases h9 : eqZ e.k 9 <;> conv => whnf
          · refine kgo ?_; (repeat (first | intro (X:Nat) | intro (z:St) | intro (av:V) | intro (tk:Option Nat) | (intro (K1:Kn _ _ _); (try clear K); rename Kn _ _ _ => K))); conv => whnf
            rw [hO h8 h9 (.inl hfa) (.inl hfn) h6]
            exact K.fin ht hx (.b _) (.refl _)
          refine kgo ?_; (repeat (first | intro (X:Nat) | intro (z:St) | intro (av:V) | intro (tk:Option Nat) | (intro (K1:Kn _ _ _); (try clear K); rename Kn _ _ _ => K))); conv => whnf
          cases h10 : leZ 0 e.n <;> conv => whnf
          · refine kgo ?_; (repeat (first | intro (X:Nat) | intro (z:St) | intro (av:V) | intro (tk:Option Nat) | (intro (K1:Kn _ _ _); (try clear K); rename Kn _ _ _ => K))); conv => whnf
            rw [hT' (.inr h9) h10]
            exact K.fin ht hx (.b _) (.refl _)
          refine kgo ?_; (repeat (first | intro (X:Nat) | intro (z:St) | intro (av:V) | intro (tk:Option Nat) | (intro (K1:Kn _ _ _); (try clear K); rename Kn _ _ _ => K))); conv => whnf
          rw [hT (.inr h9) h10 (.inl hfa) (.inl hfn) h6]
          exact K.fin ht hx (.b _) (.refl _)
        refine kgo ?_; (repeat (first | intro (X:Nat) | intro (z:St) | intro (av:V) | intro (tk:Option Nat) | (intro (K1:Kn _ _ _); (try clear K); rename Kn _ _ _ => K))); conv => whnf
        cases h10 : leZ 0 e.n <;> conv => whnf
        · refine kgo ?_; (repeat (first | intro (X:Nat) | intro (z:St) | intro (av:V) | intro (tk:Option Nat) | (intro (K1:Kn _ _ _); (try clear K); rename Kn _ _ _ => K))); conv => whnf
          rw [hT' (.inl h8) h10]
          exact K.fin ht hx (.b _) (.refl _)
        refine kgo ?_; (repeat (first | intro (X:Nat) | intro (z:St) | intro (av:V) | intro (tk:Option Nat) | (intro (K1:Kn _ _ _); (try clear K); rename Kn _ _ _ => K))); conv => whnf
        rw [hT (.inl h8) h10 (.inl hfa) (.inl hfn) h6]
        exact K.fin ht hx (.b _) (.refl _)
      · refine kgo ?_; (repeat (first | intro (X:Nat) | intro (z:St) | intro (av:V) | intro (tk:Option Nat) | (intro (K1:Kn _ _ _); (try clear K); rename Kn _ _ _ => K))); conv => whnf
        refine ⟨_, _, hB _, ?_⟩
        conv => whnf
        refine kgo ?_; (repeat (first | intro (X:Nat) | intro (z:St) | intro (av:V) | intro (tk:Option Nat) | (intro (K1:Kn _ _ _); (try clear K); rename Kn _ _ _ => K))); conv => whnf
        refine ⟨stays_one rfl, ?_⟩
        conv => whnf
        refine kgo ?_; (repeat (first | intro (X:Nat) | intro (z:St) | intro (av:V) | intro (tk:Option Nat) | (intro (K1:Kn _ _ _); (try clear K); rename Kn _ _ _ => K))); conv => whnf
        rw [hl]
        cases h6 : (!(ltZ 0 (e.b.length : Nat) == f.b)) <;> conv => whnf
        rotate_left
        · refine kgo ?_; (repeat (first | intro (X:Nat) | intro (z:St) | intro (av:V) | intro (tk:Option Nat) | (intro (K1:Kn _ _ _); (try clear K); rename Kn _ _ _ => K))); conv => whnf
          rw [h7 h6]
          exact K.fin ht hx (.b _) (.refl _)
        refine kgo ?_; (repeat (first | intro (X:Nat) | intro (z:St) | intro (av:V) | intro (tk:Option Nat) | (intro (K1:Kn _ _ _); (try clear K); rename Kn _ _ _ => K))); conv => whnf
        cases h8 : eqZ e.k 3 <;> conv => whnf
        · refine kgo ?_; (repeat (first | intro (X:Nat) | intro (z:St) | intro (av:V) | intro (tk:Option Nat) | (intro (K1:Kn _ _ _); (try clear K); rename Kn _ _ _ => K))); conv => whnf
          cases h9 : eqZ e.k 9 <;> conv => whnf
          · refine kgo ?_; (repeat (first | intro (X:Nat) | intro (z:St) | intro (av:V) | intro (tk:Option Nat) | (intro (K1:Kn _ _ _); (try clear K); rename Kn _ _ _ => K))); conv => whnf
            rw [hO h8 h9 (.inl hfa) (.inr h5') h6]
            exact K.fin ht hx (.b _) (.refl _)
          refine kgo ?_; (repeat (first | intro (X:Nat) | intro (z:St) | intro (av:V) | intro (tk:Option Nat) | (intro (K1:Kn _ _ _); (try clear K); rename Kn _ _ _ => K))); conv => whnf
          cases h10 : leZ 0 e.n <;> conv => whnf
          · refine kgo ?_; (repeat (first | intro (X:Nat) | intro (z:St) | intro (av:V) | intro (tk:Option Nat) | (intro (K1:Kn _ _ _); (try clear K); rename Kn _ _ _ => K))); conv => whnf
            rw [hT' (.inr h9) h10]
            exact K.fin ht hx (.b _) (.refl _)
          refine kgo ?_; (repeat (first | intro (X:Nat) | intro (z:St) | intro (av:V) | intro (tk:Option Nat) | (intro (K1:Kn _ _ _); (try clear K); rename Kn _ _ _ => K))); conv => whnf
          rw [hT (.inr h9) h10 (.inl hfa) (.inr h5') h6]
          exact K.fin ht hx (.b _) (.refl _)
        refine kgo ?_; (repeat (first | intro (X:Nat) | intro (z:St) | intro (av:V) | intro (tk:Option Nat) | (intro (K1:Kn _ _ _); (try clear K); rename Kn _ _ _ => K))); conv => whnf
        cases h10 : leZ 0 e.n <;> conv => whnf
        · refine kgo ?_; (repeat (first | intro (X:Nat) | intro (z:St) | intro (av:V) | intro (tk:Option Nat) | (intro (K1:Kn _ _ _); (try clear K); rename Kn _ _ _ => K))); conv => whnf
          rw [hT' (.inl h8) h10]
          exact K.fin ht hx (.b _) (.refl _)
        refine kgo ?_; (repeat (first | intro (X:Nat) | intro (z:St) | intro (av:V) | intro (tk:Option Nat) | (intro (K1:Kn _ _ _); (try clear K); rename Kn _ _ _ => K))); conv => whnf
        rw [hT (.inl h8) h10 (.inl hfa) (.inr h5') h6]
        exact K.fin ht hx (.b _) (.refl _)
    · refine kgo ?_; (repeat (first | intro (X:Nat) | intro (z:St) | intro (av:V) | intro (tk:Option Nat) | (intro (K1:Kn _ _ _); (try clear K); rename Kn _ _ _ => K))); conv => whnf
      cases h5' : eqZ e.n 0 <;> conv => whnf
      · refine kgo ?_; (repeat (first | intro (X:Nat) | intro (z:St) | intro (av:V) | intro (tk:Option Nat) | (intro (K1:Kn _ _ _); (try clear K); rename Kn _ _ _ => K))); conv => whnf
        refine ⟨_, _, hN _, ?_⟩
        cases hfn : f.n <;> conv => whnf
        · refine kgo ?_; (repeat (first | intro (X:Nat) | intro (z:St) | intro (av:V) | intro (tk:Option Nat) | (intro (K1:Kn _ _ _); (try clear K); rename Kn _ _ _ => K))); conv => whnf
          rw [h5 hfn h5']
          exact K.fin ht hx (.b _) (.refl _)
        refine kgo ?_; (repeat (first | intro (X:Nat) | intro (z:St) | intro (av:V) | intro (tk:Option Nat) | (intro (K1:Kn _ _ _); (try clear K); rename Kn _ _ _ => K))); conv => whnf
        refine ⟨_, _, hB _, ?_⟩
        conv => whnf
        refine kgo ?_; (repeat (first | intro (X:Nat) | intro (z:St) | intro (av:V) | intro (tk:Option Nat) | (intro (K1:Kn _ _ _); (try clear K); rename Kn _ _ _ => K))); conv => whnf
        refine ⟨stays_one rfl, ?_⟩
        conv => whnf
        refine kgo ?_; (repeat (first | intro (X:Nat) | intro (z:St) | intro (av:V) | intro (tk:Option Nat) | (intro (K1:Kn _ _ _); (try clear K); rename Kn _ _ _ => K))); conv => whnf
        rw [hl]
        cases h6 : (!(ltZ 0 (e.b.length : Nat) == f.b)) <;> conv => whnf
        rotate_left
        · refine kgo ?_; (repeat (first | intro (X:Nat) | intro (z:St) | intro (av:V) | intro (tk:Option Nat) | (intro (K1:Kn _ _ _); (try clear K); rename Kn _ _ _ => K))); conv => whnf
          rw [h7 h6]
          exact K.fin ht hx (.b _) (.refl _)
        refine kgo ?_; (repeat (first | intro (X:Nat) | intro (z:St) | intro (av:V) | intro (tk:Option Nat) | (intro (K1:Kn _ _ _); (try clear K); rename Kn _ _ _ => K))); conv => whnf
        cases h8 : eqZ e.k 3 <;> conv => whnf
        · refine kgo ?_; (repeat (first | intro (X:Nat) | intro (z:St) | intro (av:V) | intro (tk:Option Nat) | (intro (K1:Kn _ _ _); (try clear K); rename Kn _ _ _ => K))); conv => whnf
          cases h9 : eqZ e.k 9 <;> conv => whnf
          · refine kgo ?_; (repeat (first | intro (X:Nat) | intro (z:St) | intro (av:V) | intro (tk:Option Nat) | (intro (K1:Kn _ _ _); (try clear K); rename Kn _ _ _ => K))); conv => whnf
            rw [hO h8 h9 (.inr h4') (.inl hfn) h6]
            exact K.fin ht hx (.b _) (.refl _)
          refine kgo ?_; (repeat (first | intro (X:Nat) | intro (z:St) | intro (av:V) | intro (tk:Option Nat) | (intro (K1:Kn _ _ _); (try clear K); rename Kn _ _ _ => K))); conv => whnf
          cases h10 : leZ 0 e.n <;> conv => whnf
          · refine kgo ?_; (repeat (first | intro (X:Nat) | intro (z:St) | intro (av:V) | intro (tk:Option Nat) | (intro (K1:Kn _ _ _); (try clear K); rename Kn _ _ _ => K))); conv => whnf
            rw [hT' (.inr h9) h10]
            exact K.fin ht hx (.b _) (.refl _)
          refine kgo ?_; (repeat (first | intro (X:Nat) | intro (z:St) | intro (av:V) | intro (tk:Option Nat) | (intro (K1:Kn _ _ _); (try clear K); rename Kn _ _ _ => K))); conv => whnf
          rw [hT (.inr h9) h10 (.inr h4') (.inl hfn) h6]
          exact K.fin ht hx (.b _) (.refl _)
        refine kgo ?_; (repeat (first | intro (X:Nat) | intro (z:St) | intro (av:V) | intro (tk:Option Nat) | (intro (K1:Kn _ _ _); (try clear K); rename Kn _ _ _ => K))); conv => whnf
        cases h10 : leZ 0 e.n <;> conv => whnf
        · refine kgo ?_; (repeat (first | intro (X:Nat) | intro (z:St) | intro (av:V) | intro (tk:Option Nat) | (intro (K1:Kn _ _ _); (try clear K); rename Kn _ _ _ => K))); conv => whnf
          rw [hT' (.inl h8) h10]
          exact K.fin ht hx (.b _) (.refl _)
        refine kgo ?_; (repeat (first | intro (X:Nat) | intro (z:St) | intro (av:V) | intro (tk:Option Nat) | (intro (K1:Kn _ _ _); (try clear K); rename Kn _ _ _ => K))); conv => whnf
        rw [hT (.inl h8) h10 (.inr h4') (.inl hfn) h6]
        exact K.fin ht hx (.b _) (.refl _)
      · refine kgo ?_; (repeat (first | intro (X:Nat) | intro (z:St) | intro (av:V) | intro (tk:Option Nat) | (intro (K1:Kn _ _ _); (try clear K); rename Kn _ _ _ => K))); conv => whnf
        refine ⟨_, _, hB _, ?_⟩
        conv => whnf
        refine kgo ?_; (repeat (first | intro (X:Nat) | intro (z:St) | intro (av:V) | intro (tk:Option Nat) | (intro (K1:Kn _ _ _); (try clear K); rename Kn _ _ _ => K))); conv => whnf
        refine ⟨stays_one rfl, ?_⟩
        conv => whnf
        refine kgo ?_; (repeat (first | intro (X:Nat) | intro (z:St) | intro (av:V) | intro (tk:Option Nat) | (intro (K1:Kn _ _ _); (try clear K); rename Kn _ _ _ => K))); conv => whnf
        rw [hl]
        cases h6 : (!(ltZ 0 (e.b.length : Nat) == f.b)) <;> conv => whnf
        rotate_left
        · refine kgo ?_; (repeat (first | intro (X:Nat) | intro (z:St) | intro (av:V) | intro (tk:Option Nat) | (intro (K1:Kn _ _ _); (try clear K); rename Kn _ _ _ => K))); conv => whnf
          rw [h7 h6]
          exact K.fin ht hx (.b _) (.refl _)
        refine kgo ?_; (repeat (first | intro (X:Nat) | intro (z:St) | intro (av:V) | intro (tk:Option Nat) | (intro (K1:Kn _ _ _); (try clear K); rename Kn _ _ _ => K))); conv => whnf
        cases h8 : eqZ e.k 3 <;> conv => whnf
        · refine kgo ?_; (repeat (first | intro (X:Nat) | intro (z:St) | intro (av:V) | intro (tk:Option Nat) | (intro (K1:Kn _ _ _); (try clear K); rename Kn _ _ _ => K))); conv => whnf
          cases h9 : eqZ e.k 9 <;> conv => whnf
          · refine kgo ?_; (repeat (first | intro (X:Nat) | intro (z:St) | intro (av:V) | intro (tk:Option Nat) | (intro (K1:Kn _ _ _); (try clear K); rename Kn _ _ _ => K))); conv => whnf
            rw [hO h8 h9 (.inr h4') (.inr h5') h6]
            exact K.fin ht hx (.b _) (.refl _)
          refine kgo ?_; (repeat (first | intro (X:Nat) | intro (z:St) | intro (av:V) | intro (tk:Option Nat) | (intro (K1:Kn _ _ _); (try clear K); rename Kn _ _ _ => K))); conv => whnf
          cases h10 : leZ 0 e.n <;> conv => whnf
          · refine kgo ?_; (repeat (first | intro (X:Nat) | intro (z:St) | intro (av:V) | intro (tk:Option Nat) | (intro (K1:Kn _ _ _); (try clear K); rename Kn _ _ _ => K))); conv => whnf
            rw [hT' (.inr h9) h10]
            exact K.fin ht hx (.b _) (.refl _)
          refine kgo ?_; (repeat (first | intro (X:Nat) | intro (z:St) | intro (av:V) | intro (tk:Option Nat) | (intro (K1:Kn _ _ _); (try clear K); rename Kn _ _ _ => K))); conv => whnf
          rw [hT (.inr h9) h10 (.inr h4') (.inr h5') h6]
          exact K.fin ht hx (.b _) (.refl _)
        refine kgo ?_; (repeat (first | intro (X:Nat) | intro (z:St) | intro (av:V) | intro (tk:Option Nat) | (intro (K1:Kn _ _ _); (try clear K); rename Kn _ _ _ => K))); conv => whnf
        cases h10 : leZ 0 e.n <;> conv => whnf
        · refine kgo ?_; (repeat (first | intro (X:Nat) | intro (z:St) | intro (av:V) | intro (tk:Option Nat) | (intro (K1:Kn _ _ _); (try clear K); rename Kn _ _ _ => K))); conv => whnf
          rw [hT' (.inl h8) h10]
          exact K.fin ht hx (.b _) (.refl _)
        refine kgo ?_; (repeat (first | intro (X:Nat) | intro (z:St) | intro (av:V) | intro (tk:Option Nat) | (intro (K1:Kn _ _ _); (try clear K); rename Kn _ _ _ => K))); conv => whnf
        rw [hT (.inl h8) h10 (.inr h4') (.inr h5') h6]
        exact K.fin ht hx (.b _) (.refl _)
end Go.Proofs.YtbcapobkbgckbaaGreatDoor
