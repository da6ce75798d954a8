/-
  Contract: may an entry be, the code's. No statement stands here.
-/
import Derived.Test.YtbcapobkbgckbaaGreatDoorWa
import Derived.Test.YtbcapobkbgckbaaGreatDoorWc
set_option linter.all false
namespace Go.Proofs.YtbcapobkbgckbaaGreatDoor
open Go Rf TallyP
set_option maxRecDepth 100000
set_option maxHeartbeats 4000000

theorem may_den (e : Ey) (s : St) (hx : NoX s) : Den gt0 Tryz.prog 6 [eyV e] s (.b (mayS e)) s := by
  have hl : (e.b.map bV).length = e.b.length := List.length_map ..
  refine Den.tidy fun ht => Den.hm gnm0 hF6 ?_
  have K := Kn.init ht.1 hx
  conv => whnf
  refine kgo ?_; (repeat (first | intro (X:Nat) | intro (z:St) | intro (av:V) | intro (tk:Option Nat) | (intro (K1:Kn _ _ _); (try clear K); rename Kn _ _ _ => K))); conv => whnf
  refine ⟨_, _, forms_den _ K.x, ?_⟩
  have K1 := K.newX (.mp (mEs iE fmE fmsL 0) 9)
  clear K; rename Kn _ _ _ => K
  generalize s.new (.x (.mp (mEs iE fmE fmsL 0) 9)) = z at K ⊢
  conv => whnf
  refine kgo ?_; (repeat (first | intro (X:Nat) | intro (z:St) | intro (av:V) | intro (tk:Option Nat) | (intro (K1:Kn _ _ _); (try clear K); rename Kn _ _ _ => K))); conv => whnf
  have hM := K.get (w := true) .here
  rw [aym_look1 (k := e.k) (l := fmsL) enc_i hM]
  rotate_left
  · rfl
  · rfl
  rcases lkk_fms e.k with ⟨hf, hlk⟩ | ⟨f, d, hf, hlk⟩
  · rw [hlk, show mayS e = false by rw [mayS, hf]]
    conv => whnf
    refine kgo ?_; (repeat (first | intro (X:Nat) | intro (z:St) | intro (av:V) | intro (tk:Option Nat) | (intro (K1:Kn _ _ _); (try clear K); rename Kn _ _ _ => K))); conv => whnf
    exact K.fin ht hx (.b _) (.refl _)
  rw [hlk, mayS_of hf]
  obtain ⟨fw, fa, fn, fb, fl⟩ := f
  clear hM
  conv => whnf
  have hq : ∀ {x : Bool}, (!(fb == x)) = true → (fb == x) = false := fun h => by simpa using h
  have hq' : ∀ {x : Bool}, (!(fb == x)) = false → (fb == x) = true := fun h => by simpa using h
  have hle : leZ fl e.n = false → ltZ e.n fl = true := fun h => by simpa [leZ] using h
  have hle' : leZ fl e.n = true → ltZ e.n fl = false := fun h => by simpa [leZ] using h
  cases fa <;> cases fn <;> conv => whnf
  · refine kgo ?_; (repeat (first | intro (X:Nat) | intro (z:St) | intro (av:V) | intro (tk:Option Nat) | (intro (K1:Kn _ _ _); (try clear K); rename Kn _ _ _ => K))); conv => whnf
    cases h1 : ltZ e.a 0 <;> conv => whnf
    rotate_left
    · refine kgo ?_; (repeat (first | intro (X:Nat) | intro (z:St) | intro (av:V) | intro (tk:Option Nat) | (intro (K1:Kn _ _ _); (try clear K); rename Kn _ _ _ => K))); conv => whnf
      rw [show mayF ⟨fw, false, false, fb, fl⟩ e = false by simp [mayF, h1]]
      exact K.fin ht hx (.b _) (.refl _)
    refine kgo ?_; (repeat (first | intro (X:Nat) | intro (z:St) | intro (av:V) | intro (tk:Option Nat) | (intro (K1:Kn _ _ _); (try clear K); rename Kn _ _ _ => K))); conv => whnf
    cases h2 : ltZ 2147483647 e.a <;> conv => whnf
    rotate_left
    · refine kgo ?_; (repeat (first | intro (X:Nat) | intro (z:St) | intro (av:V) | intro (tk:Option Nat) | (intro (K1:Kn _ _ _); (try clear K); rename Kn _ _ _ => K))); conv => whnf
      rw [show mayF ⟨fw, false, false, fb, fl⟩ e = false by simp [mayF, h1, h2]]
      exact K.fin ht hx (.b _) (.refl _)
    refine kgo ?_; (repeat (first | intro (X:Nat) | intro (z:St) | intro (av:V) | intro (tk:Option Nat) | (intro (K1:Kn _ _ _); (try clear K); rename Kn _ _ _ => K))); conv => whnf
    cases h3 : ltZ 0 e.a <;> conv => whnf
    rotate_left
    · refine kgo ?_; (repeat (first | intro (X:Nat) | intro (z:St) | intro (av:V) | intro (tk:Option Nat) | (intro (K1:Kn _ _ _); (try clear K); rename Kn _ _ _ => K))); conv => whnf
      rw [show mayF ⟨fw, false, false, fb, fl⟩ e = false by simp [mayF, h1, h2, h3]]
      exact K.fin ht hx (.b _) (.refl _)
    refine kgo ?_; (repeat (first | intro (X:Nat) | intro (z:St) | intro (av:V) | intro (tk:Option Nat) | (intro (K1:Kn _ _ _); (try clear K); rename Kn _ _ _ => K))); conv => whnf
    cases h4 : eqZ e.n 0 <;> conv => whnf
    · refine kgo ?_; (repeat (first | intro (X:Nat) | intro (z:St) | intro (av:V) | intro (tk:Option Nat) | (intro (K1:Kn _ _ _); (try clear K); rename Kn _ _ _ => K))); conv => whnf
      rw [show mayF ⟨fw, false, false, fb, fl⟩ e = false by simp [mayF, h1, h2, h3, h4]]
      exact K.fin ht hx (.b _) (.refl _)
    refine kgo ?_; (repeat (first | intro (X:Nat) | intro (z:St) | intro (av:V) | intro (tk:Option Nat) | (intro (K1:Kn _ _ _); (try clear K); rename Kn _ _ _ => K))); conv => whnf
    rw [hl]
    cases h5 : (!(fb == ltZ 0 (e.b.length : Nat))) <;> conv => whnf
    rotate_left
    · refine kgo ?_; (repeat (first | intro (X:Nat) | intro (z:St) | intro (av:V) | intro (tk:Option Nat) | (intro (K1:Kn _ _ _); (try clear K); rename Kn _ _ _ => K))); conv => whnf
      rw [show mayF ⟨fw, false, false, fb, fl⟩ e = false by simp [mayF, h1, h2, h3, h4, hq h5]]
      exact K.fin ht hx (.b _) (.refl _)
    refine kgo ?_; (repeat (first | intro (X:Nat) | intro (z:St) | intro (av:V) | intro (tk:Option Nat) | (intro (K1:Kn _ _ _); (try clear K); rename Kn _ _ _ => K))); conv => whnf
    rw [hl]
    cases h6 : ltZ 65536 (e.b.length : Nat) <;> conv => whnf
    rotate_left
    · refine kgo ?_; (repeat (first | intro (X:Nat) | intro (z:St) | intro (av:V) | intro (tk:Option Nat) | (intro (K1:Kn _ _ _); (try clear K); rename Kn _ _ _ => K))); conv => whnf
      rw [show mayF ⟨fw, false, false, fb, fl⟩ e = false by simp [mayF, h1, h2, h3, h4, hq' h5, h6]]
      exact K.fin ht hx (.b _) (.refl _)
    refine kgo ?_; (repeat (first | intro (X:Nat) | intro (z:St) | intro (av:V) | intro (tk:Option Nat) | (intro (K1:Kn _ _ _); (try clear K); rename Kn _ _ _ => K))); conv => whnf
    rw [show mayF ⟨fw, false, false, fb, fl⟩ e = true by simp [mayF, h1, h2, h3, h4, hq' h5, h6]]
    exact K.fin ht hx (.b _) (.refl _)
  · refine kgo ?_; (repeat (first | intro (X:Nat) | intro (z:St) | intro (av:V) | intro (tk:Option Nat) | (intro (K1:Kn _ _ _); (try clear K); rename Kn _ _ _ => K))); conv => whnf
    cases h1 : ltZ e.a 0 <;> conv => whnf
    rotate_left
    · refine kgo ?_; (repeat (first | intro (X:Nat) | intro (z:St) | intro (av:V) | intro (tk:Option Nat) | (intro (K1:Kn _ _ _); (try clear K); rename Kn _ _ _ => K))); conv => whnf
      rw [show mayF ⟨fw, false, true, fb, fl⟩ e = false by simp [mayF, h1]]
      exact K.fin ht hx (.b _) (.refl _)
    refine kgo ?_; (repeat (first | intro (X:Nat) | intro (z:St) | intro (av:V) | intro (tk:Option Nat) | (intro (K1:Kn _ _ _); (try clear K); rename Kn _ _ _ => K))); conv => whnf
    cases h2 : ltZ 2147483647 e.a <;> conv => whnf
    rotate_left
    · refine kgo ?_; (repeat (first | intro (X:Nat) | intro (z:St) | intro (av:V) | intro (tk:Option Nat) | (intro (K1:Kn _ _ _); (try clear K); rename Kn _ _ _ => K))); conv => whnf
      rw [show mayF ⟨fw, false, true, fb, fl⟩ e = false by simp [mayF, h1, h2]]
      exact K.fin ht hx (.b _) (.refl _)
    refine kgo ?_; (repeat (first | intro (X:Nat) | intro (z:St) | intro (av:V) | intro (tk:Option Nat) | (intro (K1:Kn _ _ _); (try clear K); rename Kn _ _ _ => K))); conv => whnf
    cases h3 : ltZ 0 e.a <;> conv => whnf
    rotate_left
    · refine kgo ?_; (repeat (first | intro (X:Nat) | intro (z:St) | intro (av:V) | intro (tk:Option Nat) | (intro (K1:Kn _ _ _); (try clear K); rename Kn _ _ _ => K))); conv => whnf
      rw [show mayF ⟨fw, false, true, fb, fl⟩ e = false by simp [mayF, h1, h2, h3]]
      exact K.fin ht hx (.b _) (.refl _)
    refine kgo ?_; (repeat (first | intro (X:Nat) | intro (z:St) | intro (av:V) | intro (tk:Option Nat) | (intro (K1:Kn _ _ _); (try clear K); rename Kn _ _ _ => K))); conv => whnf
    rw [hl]
    cases h5 : (!(fb == ltZ 0 (e.b.length : Nat))) <;> conv => whnf
    rotate_left
    · refine kgo ?_; (repeat (first | intro (X:Nat) | intro (z:St) | intro (av:V) | intro (tk:Option Nat) | (intro (K1:Kn _ _ _); (try clear K); rename Kn _ _ _ => K))); conv => whnf
      rw [show mayF ⟨fw, false, true, fb, fl⟩ e = false by simp [mayF, h1, h2, h3, hq h5]]
      exact K.fin ht hx (.b _) (.refl _)
    refine kgo ?_; (repeat (first | intro (X:Nat) | intro (z:St) | intro (av:V) | intro (tk:Option Nat) | (intro (K1:Kn _ _ _); (try clear K); rename Kn _ _ _ => K))); conv => whnf
    rw [hl]
    cases h6 : ltZ 65536 (e.b.length : Nat) <;> conv => whnf
    rotate_left
    · refine kgo ?_; (repeat (first | intro (X:Nat) | intro (z:St) | intro (av:V) | intro (tk:Option Nat) | (intro (K1:Kn _ _ _); (try clear K); rename Kn _ _ _ => K))); conv => whnf
      rw [show mayF ⟨fw, false, true, fb, fl⟩ e = false by simp [mayF, h1, h2, h3, hq' h5, h6]]
      exact K.fin ht hx (.b _) (.refl _)
    refine kgo ?_; (repeat (first | intro (X:Nat) | intro (z:St) | intro (av:V) | intro (tk:Option Nat) | (intro (K1:Kn _ _ _); (try clear K); rename Kn _ _ _ => K))); conv => whnf
    cases h7 : leZ fl e.n <;> conv => whnf
    · refine kgo ?_; (repeat (first | intro (X:Nat) | intro (z:St) | intro (av:V) | intro (tk:Option Nat) | (intro (K1:Kn _ _ _); (try clear K); rename Kn _ _ _ => K))); conv => whnf
      rw [show mayF ⟨fw, false, true, fb, fl⟩ e = false by simp [mayF, h1, h2, h3, hq' h5, h6, hle h7]]
      exact K.fin ht hx (.b _) (.refl _)
    refine kgo ?_; (repeat (first | intro (X:Nat) | intro (z:St) | intro (av:V) | intro (tk:Option Nat) | (intro (K1:Kn _ _ _); (try clear K); rename Kn _ _ _ => K))); conv => whnf
    cases h8 : ltZ fl 0 <;> conv => whnf
    · refine kgo ?_; (repeat (first | intro (X:Nat) | intro (z:St) | intro (av:V) | intro (tk:Option Nat) | (intro (K1:Kn _ _ _); (try clear K); rename Kn _ _ _ => K))); conv => whnf
      rw [show mayF ⟨fw, false, true, fb, fl⟩ e = leZ e.n 2147483647 by simp [mayF, leZ, h1, h2, h3, hq' h5, h6, hle' h7, h8]]
      exact K.fin ht hx (.b _) (.refl _)
    refine kgo ?_; (repeat (first | intro (X:Nat) | intro (z:St) | intro (av:V) | intro (tk:Option Nat) | (intro (K1:Kn _ _ _); (try clear K); rename Kn _ _ _ => K))); conv => whnf
    rw [show mayF ⟨fw, false, true, fb, fl⟩ e = true by simp [mayF, h1, h2, h3, hq' h5, h6, hle' h7, h8]]
    exact K.fin ht hx (.b _) (.refl _)
  · refine kgo ?_; (repeat (first | intro (X:Nat) | intro (z:St) | intro (av:V) | intro (tk:Option Nat) | (intro (K1:Kn _ _ _); (try clear K); rename Kn _ _ _ => K))); conv => whnf
    cases h1 : ltZ e.a 0 <;> conv => whnf
    rotate_left
    · refine kgo ?_; (repeat (first | intro (X:Nat) | intro (z:St) | intro (av:V) | intro (tk:Option Nat) | (intro (K1:Kn _ _ _); (try clear K); rename Kn _ _ _ => K))); conv => whnf
      rw [show mayF ⟨fw, true, false, fb, fl⟩ e = false by simp [mayF, h1]]
      exact K.fin ht hx (.b _) (.refl _)
    refine kgo ?_; (repeat (first | intro (X:Nat) | intro (z:St) | intro (av:V) | intro (tk:Option Nat) | (intro (K1:Kn _ _ _); (try clear K); rename Kn _ _ _ => K))); conv => whnf
    cases h2 : ltZ 2147483647 e.a <;> conv => whnf
    rotate_left
    · refine kgo ?_; (repeat (first | intro (X:Nat) | intro (z:St) | intro (av:V) | intro (tk:Option Nat) | (intro (K1:Kn _ _ _); (try clear K); rename Kn _ _ _ => K))); conv => whnf
      rw [show mayF ⟨fw, true, false, fb, fl⟩ e = false by simp [mayF, h1, h2]]
      exact K.fin ht hx (.b _) (.refl _)
    refine kgo ?_; (repeat (first | intro (X:Nat) | intro (z:St) | intro (av:V) | intro (tk:Option Nat) | (intro (K1:Kn _ _ _); (try clear K); rename Kn _ _ _ => K))); conv => whnf
    cases h4 : eqZ e.n 0 <;> conv => whnf
    · refine kgo ?_; (repeat (first | intro (X:Nat) | intro (z:St) | intro (av:V) | intro (tk:Option Nat) | (intro (K1:Kn _ _ _); (try clear K); rename Kn _ _ _ => K))); conv => whnf
      rw [show mayF ⟨fw, true, false, fb, fl⟩ e = false by simp [mayF, h1, h2, h4]]
      exact K.fin ht hx (.b _) (.refl _)
    refine kgo ?_; (repeat (first | intro (X:Nat) | intro (z:St) | intro (av:V) | intro (tk:Option Nat) | (intro (K1:Kn _ _ _); (try clear K); rename Kn _ _ _ => K))); conv => whnf
    rw [hl]
    cases h5 : (!(fb == ltZ 0 (e.b.length : Nat))) <;> conv => whnf
    rotate_left
    · refine kgo ?_; (repeat (first | intro (X:Nat) | intro (z:St) | intro (av:V) | intro (tk:Option Nat) | (intro (K1:Kn _ _ _); (try clear K); rename Kn _ _ _ => K))); conv => whnf
      rw [show mayF ⟨fw, true, false, fb, fl⟩ e = false by simp [mayF, h1, h2, h4, hq h5]]
      exact K.fin ht hx (.b _) (.refl _)
    refine kgo ?_; (repeat (first | intro (X:Nat) | intro (z:St) | intro (av:V) | intro (tk:Option Nat) | (intro (K1:Kn _ _ _); (try clear K); rename Kn _ _ _ => K))); conv => whnf
    rw [hl]
    cases h6 : ltZ 65536 (e.b.length : Nat) <;> conv => whnf
    rotate_left
    · refine kgo ?_; (repeat (first | intro (X:Nat) | intro (z:St) | intro (av:V) | intro (tk:Option Nat) | (intro (K1:Kn _ _ _); (try clear K); rename Kn _ _ _ => K))); conv => whnf
      rw [show mayF ⟨fw, true, false, fb, fl⟩ e = false by simp [mayF, h1, h2, h4, hq' h5, h6]]
      exact K.fin ht hx (.b _) (.refl _)
    refine kgo ?_; (repeat (first | intro (X:Nat) | intro (z:St) | intro (av:V) | intro (tk:Option Nat) | (intro (K1:Kn _ _ _); (try clear K); rename Kn _ _ _ => K))); conv => whnf
    rw [show mayF ⟨fw, true, false, fb, fl⟩ e = true by simp [mayF, h1, h2, h4, hq' h5, h6]]
    exact K.fin ht hx (.b _) (.refl _)
  · refine kgo ?_; (repeat (first | intro (X:Nat) | intro (z:St) | intro (av:V) | intro (tk:Option Nat) | (intro (K1:Kn _ _ _); (try clear K); rename Kn _ _ _ => K))); conv => whnf
    cases h1 : ltZ e.a 0 <;> conv => whnf
    rotate_left
    · refine kgo ?_; (repeat (first | intro (X:Nat) | intro (z:St) | intro (av:V) | intro (tk:Option Nat) | (intro (K1:Kn _ _ _); (try clear K); rename Kn _ _ _ => K))); conv => whnf
      rw [show mayF ⟨fw, true, true, fb, fl⟩ e = false by simp [mayF, h1]]
      exact K.fin ht hx (.b _) (.refl _)
    refine kgo ?_; (repeat (first | intro (X:Nat) | intro (z:St) | intro (av:V) | intro (tk:Option Nat) | (intro (K1:Kn _ _ _); (try clear K); rename Kn _ _ _ => K))); conv => whnf
    cases h2 : ltZ 2147483647 e.a <;> conv => whnf
    rotate_left
    · refine kgo ?_; (repeat (first | intro (X:Nat) | intro (z:St) | intro (av:V) | intro (tk:Option Nat) | (intro (K1:Kn _ _ _); (try clear K); rename Kn _ _ _ => K))); conv => whnf
      rw [show mayF ⟨fw, true, true, fb, fl⟩ e = false by simp [mayF, h1, h2]]
      exact K.fin ht hx (.b _) (.refl _)
    refine kgo ?_; (repeat (first | intro (X:Nat) | intro (z:St) | intro (av:V) | intro (tk:Option Nat) | (intro (K1:Kn _ _ _); (try clear K); rename Kn _ _ _ => K))); conv => whnf
    rw [hl]
    cases h5 : (!(fb == ltZ 0 (e.b.length : Nat))) <;> conv => whnf
    rotate_left
    · refine kgo ?_; (repeat (first | intro (X:Nat) | intro (z:St) | intro (av:V) | intro (tk:Option Nat) | (intro (K1:Kn _ _ _); (try clear K); rename Kn _ _ _ => K))); conv => whnf
      rw [show mayF ⟨fw, true, true, fb, fl⟩ e = false by simp [mayF, h1, h2, hq h5]]
      exact K.fin ht hx (.b _) (.refl _)
    refine kgo ?_; (repeat (first | intro (X:Nat) | intro (z:St) | intro (av:V) | intro (tk:Option Nat) | (intro (K1:Kn _ _ _); (try clear K); rename Kn _ _ _ => K))); conv => whnf
    rw [hl]
    cases h6 : ltZ 65536 (e.b.length : Nat) <;> conv => whnf
    rotate_left
    · refine kgo ?_; (repeat (first | intro (X:Nat) | intro (z:St) | intro (av:V) | intro (tk:Option Nat) | (intro (K1:Kn _ _ _); (try clear K); rename Kn _ _ _ => K))); conv => whnf
      rw [show mayF ⟨fw, true, true, fb, fl⟩ e = false by simp [mayF, h1, h2, hq' h5, h6]]
      exact K.fin ht hx (.b _) (.refl _)
    refine kgo ?_; (repeat (first | intro (X:Nat) | intro (z:St) | intro (av:V) | intro (tk:Option Nat) | (intro (K1:Kn _ _ _); (try clear K); rename Kn _ _ _ => K))); conv => whnf
    cases h7 : leZ fl e.n <;> conv => whnf
    · refine kgo ?_; (repeat (first | intro (X:Nat) | intro (z:St) | intro (av:V) | intro (tk:Option Nat) | (intro (K1:Kn _ _ _); (try clear K); rename Kn _ _ _ => K))); conv => whnf
      rw [show mayF ⟨fw, true, true, fb, fl⟩ e = false by simp [mayF, h1, h2, hq' h5, h6, hle h7]]
      exact K.fin ht hx (.b _) (.refl _)
    refine kgo ?_; (repeat (first | intro (X:Nat) | intro (z:St) | intro (av:V) | intro (tk:Option Nat) | (intro (K1:Kn _ _ _); (try clear K); rename Kn _ _ _ => K))); conv => whnf
    cases h8 : ltZ fl 0 <;> conv => whnf
    · refine kgo ?_; (repeat (first | intro (X:Nat) | intro (z:St) | intro (av:V) | intro (tk:Option Nat) | (intro (K1:Kn _ _ _); (try clear K); rename Kn _ _ _ => K))); conv => whnf
      rw [show mayF ⟨fw, true, true, fb, fl⟩ e = leZ e.n 2147483647 by simp [mayF, leZ, h1, h2, hq' h5, h6, hle' h7, h8]]
      exact K.fin ht hx (.b _) (.refl _)
    refine kgo ?_; (repeat (first | intro (X:Nat) | intro (z:St) | intro (av:V) | intro (tk:Option Nat) | (intro (K1:Kn _ _ _); (try clear K); rename Kn _ _ _ => K))); conv => whnf
    rw [show mayF ⟨fw, true, true, fb, fl⟩ e = true by simp [mayF, h1, h2, hq' h5, h6, hle' h7, h8]]
    exact K.fin ht hx (.b _) (.refl _)
end Go.Proofs.YtbcapobkbgckbaaGreatDoor
