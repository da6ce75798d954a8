/-
  Contract: a number's digits. No statement stands here.
-/
import Derived.Test.YtbcapobkbgckbaaGreatDoorSsh
import Derived.Lib.ItoaLen
set_option linter.all false
namespace Go.Proofs.YtbcapobkbgckbaaGreatDoor
open Go Rf
set_option maxRecDepth 100000
set_option maxHeartbeats 4000000

def dg (u : Nat) (acc : List UInt8) : List UInt8 := if u = 0 ∧ acc ≠ [] then acc else Lib.decDigits u ++ acc
theorem dg_len (u : Nat) (acc : List UInt8) : acc.length ≤ (dg u acc).length := by
  unfold dg; split
  · exact Nat.le_refl _
  · rw [List.length_append]; omega
theorem dg_step {u : Nat} {acc : List UInt8} (h : 0 < u ∨ acc = []) : dg (u / 10) (UInt8.ofNat (48 + u % 10) :: acc) = dg u acc := by
  have h1 : ¬ (u = 0 ∧ acc ≠ []) := fun ⟨a, b⟩ => h.elim (fun h => by omega) b
  unfold dg
  rw [if_neg h1]
  conv => rhs; rw [Lib.decDigits]
  by_cases hu : u < 10
  · rw [dif_pos hu, if_pos ⟨by omega, by simp⟩, Nat.mod_eq_of_lt hu]; rfl
  · rw [dif_neg hu, if_neg (fun h => by omega)]; simp
theorem rem10 (u : Nat) : binV .rem (.i .u64 (u : Nat)) (.i .u64 10) = some (.i .u64 ((u % 10 : Nat) : Int)) := by
  show binI .rem .u64 (u : Nat) 10 = _
  simp only [binI]
  rw [if_neg (by decide)]; rfl
theorem quo10 (u : Nat) (hu : u < 18446744073709551616) : binV .quo (.i .u64 (u : Nat)) (.i .u64 10) = some (.i .u64 ((u / 10 : Nat) : Int)) := by
  show binI .quo .u64 (u : Nat) 10 = _
  simp only [binI]
  rw [if_neg (by decide)]
  have e : ((u : Nat) : Int).tdiv 10 = ((u / 10 : Nat) : Int) := rfl
  rw [e]
  show some (V.i .u64 (wrapF .u64 _)) = _
  rw [wU]
  congr 2; omega
theorem u8dig (u : Nat) : UInt8.ofNat (wrapF .u8 (wrapF .u64 (48 + ((u % 10 : Nat) : Int)))).toNat = UInt8.ofNat (48 + u % 10) := by
  have h : u % 10 < 10 := Nat.mod_lt _ (by decide)
  generalize u % 10 = k at h
  have e1 : wrapF .u64 (48 + (k : Int)) = ((48 + k : Nat) : Int) := by rw [wU]; omega
  rw [e1]
  have e2 : wrapF .u8 ((48 + k : Nat) : Int) = ((48 + k : Nat) : Int) := by rw [wrapF_eq]; simp [IntKind.wrap, IntKind.bits, IntKind.signed]; omega
  rw [e2, Int.toNat_natCast]
theorem b2s1 {e : List V} {s : St} {x : Arg} {c : Cap} (k : Int) (hx : x.ev e = .pu 1 [.i .u8 k] c) : aop e s (.b2s x) = some (.s [UInt8.ofNat k.toNat], s) := by
  simp only [aop, hx]
  rfl
def EDg (n : Int) (u : Nat) (acc : List UInt8) : List V := (.i .i64 n :: .bad :: .bad :: .i .u64 (u : Nat) :: .s acc :: List.replicate 27 .bad)
theorem dig_den {n : Int} (h0 : -9223372036854775808 ≤ n) (h1 : n ≤ 9223372036854775807) : PDen gt0 Tryz.prog 47 [.i .i64 n] (.s (Lib.itoa n)) := by
  generalize hB : V.s (Lib.itoa n) = B
  refine PDen.hc gnm0 hF47 (fun x hx => by simp only [List.mem_singleton] at hx; subst hx; exact .i _ _) (by rw [← hB]; exact .s _) ?_
  conv => whnf
  refine sgo ?_
  refine brB_iff.2 ⟨fun h => ?_, fun h => ?_⟩ <;> conv => whnf
  all_goals
    refine sgo ?_
    obtain ⟨u0, hu0, hu1⟩ : ∃ u0 : Nat, u0 = n.natAbs ∧ u0 < 18446744073709551616 := ⟨_, rfl, by omega⟩
    have hn : (n < 0 ∧ ltZ n 0 = true) ∨ (0 ≤ n ∧ ltZ n 0 = false) := by
      rw [ltZ_eq]; by_cases h : n < 0
      · exact .inl ⟨h, by simp [h]⟩
      · exact .inr ⟨by omega, by simp; omega⟩
    have e1 : n < 0 → wrapF .u64 n = ((18446744073709551616 - u0 : Nat) : Int) := fun hn => by rw [wU]; omega
    have e2 : n < 0 → wrapF .u64 (0 - wrapF .u64 n) = (u0 : Nat) := fun hn => by rw [e1 hn, wU]; omega
    have e3 : 0 ≤ n → wrapF .u64 n = (u0 : Nat) := fun hn => by rw [wU]; omega
    have hdl : (Lib.decDigits u0).length ≤ 21 := by
      have h3 := Lib.itoa_length_le n h0 h1
      unfold Lib.itoa at h3
      split at h3
      · rw [← hu0] at h3; simp at h3; omega
      · rw [show n.toNat = u0 by omega] at h3; exact h3
    first | (rw [e2 (hn.elim (fun h => h.1) (fun h' => by rw [h] at h'; cases h'.2))]) | (rw [e3 (hn.elim (fun h' => by rw [h] at h'; cases h'.2) (fun h => h.1))])
    refine HC.loop gnm0 fun hg => ⟨fun m e s => s = s0 ∧ ∃ (u : Nat) (acc : List UInt8), u < 18446744073709551616 ∧ dg u acc = Lib.decDigits u0 ∧ m = u + (if acc = [] then 1 else 0) ∧ e = EDg n u acc, ⟨_, fg [0, 3, 4] _, _, Wk.fg hg.1 hg.2, rfl, u0, [], hu1, by simp [dg], rfl, rfl⟩, ?_⟩
    rintro m e s ⟨rfl, u, acc, hu, hd, rfl, rfl⟩
    conv => whnf
    have hal : acc.length ≤ 21 := Nat.le_trans (dg_len u acc) (by rw [hd]; exact hdl)
    refine sgo ?_
    by_cases hp : 0 < u
    · rw [show ltZ 0 ((u : Nat) : Int) = true by rw [ltZ_eq]; simpa using hp]
      conv => whnf
      refine sgo ?_
      refine ⟨_, rem10 u, ?_⟩
      conv => whnf
      refine sgo ?_
      refine ⟨_, _, b2s1 _ rfl, ?_⟩
      conv => whnf
      refine sgo ?_
      refine ⟨_, quo10 u hu, ?_⟩
      conv => whnf
      refine sgo ?_
      rw [u8dig]
      intro hg'
      refine ⟨_, fg [0, 3, 4] _, _, ?_, Wk.fg hg'.1 hg'.2, rfl, u / 10, _, by omega, (dg_step (.inl hp)).trans hd, rfl, rfl⟩
      simp; split <;> omega
    · rw [show ltZ 0 ((u : Nat) : Int) = false by rw [ltZ_eq]; simpa using hp]
      conv => whnf
      obtain rfl : u = 0 := by omega
      cases acc with
      | nil =>
        refine sgo ?_
        refine ⟨_, rem10 0, ?_⟩
        conv => whnf
        refine sgo ?_
        refine ⟨_, _, b2s1 _ rfl, ?_⟩
        conv => whnf
        refine sgo ?_
        refine ⟨_, quo10 0 hu, ?_⟩
        conv => whnf
        refine sgo ?_
        rw [u8dig]
        intro hg'
        refine ⟨_, fg [0, 3, 4] _, _, ?_, Wk.fg hg'.1 hg'.2, rfl, 0 / 10, _, by omega, (dg_step (.inr rfl)).trans hd, rfl, rfl⟩
        simp
      | cons a acc =>
        have hd' : a :: acc = Lib.decDigits u0 := by rw [← hd]; simp [dg]
        simp only [List.length_cons] at hal
        refine sgo ?_
        rw [h]
        conv => whnf
        refine sgo ?_
        rw [← hB]
        simp only [Lib.itoa]
        rcases hn with ⟨h1, h2⟩ | ⟨h1, h2⟩
        · first | (rw [h2] at h; cases h; done) | (rw [if_pos h1, hd', hu0]; try exact rfl)
        · first | (rw [h2] at h; cases h; done) | (rw [if_neg (by omega), hd', hu0, show n.toNat = n.natAbs by omega]; try exact rfl)
end Go.Proofs.YtbcapobkbgckbaaGreatDoor
