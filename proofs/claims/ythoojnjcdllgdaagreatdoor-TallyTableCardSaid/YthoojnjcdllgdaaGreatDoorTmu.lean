/-
  Contract: how much moves are. No statement stands here.
-/
import Derived.Test.YthoojnjcdllgdaaGreatDoorCode
import Derived.Test.YthoojnjcdllgdaaGreatDoorLF
set_option linter.all false
namespace Go.Proofs.YthoojnjcdllgdaaGreatDoor
open Go Rf
set_option maxRecDepth 100000
set_option maxHeartbeats 4000000

theorem wrap_succ {i n : Nat} (h : i < n) (hn : n ≤ maxLen) : wrapF .i64 ((i : Int) + 1) = ((i + 1 : Nat) : Int) := by
  have hm : maxLen ≤ 9223372036854775807 := by decide
  rw [wrapF_eq, wrap_in] <;> simp [lim, IntKind.signed] <;> omega

theorem nm_moves {ms : List Mv} (hn : ∀ m ∈ ms, Nm s0.L m.v) : Nm s0.L (.pu 47 (ms.map Mv.v) .u) :=
  .pu _ _ _ (fun x hx => by obtain ⟨m, hm, rfl⟩ := List.mem_map.1 hx; exact hn m hm) (fun k hk => by cases hk)

def muchGo (L : Nat) : List Mv → Nat → Int → Bool
  | [], _, c => ltZ 80 L || ltZ 9000 c
  | m :: r, i, c => if leZ i 80 = true then
      (if ltZ m.t (-1152921504606846976) = true ∨ ltZ 1152921504606846976 m.t = true then true
      else muchGo L r (i + 1) (wrapF .i64 (wrapF .i64 (wrapF .i64 (c + m.bs.length) + m.rl.length) + m.vs.length)))
    else ltZ 80 L || ltZ 9000 c

def EM (ms : List Mv) (i : Nat) (c : Int) : List V := .pu 47 (ms.map Mv.v) .u :: .bad :: .b false :: .i .i64 c :: .i .i64 i :: List.replicate 57 .bad

theorem much_den (ms : List Mv) (hn : ∀ m ∈ ms, Nm s0.L m.v) (hl : ms.length ≤ maxLen) : PDen gt0 Tryz.prog 4 [.pu 47 (ms.map Mv.v) .u] (.b (muchGo ms.length ms 0 0)) := by
  generalize hB : muchGo ms.length ms 0 0 = B
  refine PDen.hc gnm0 hF4 (fun x hx => by simp only [List.mem_singleton] at hx; subst hx; exact nm_moves hn) (.b _) ?_
  conv => whnf
  refine sgo ?_
  refine HC.loop gnm0 fun hg => ⟨fun n e s => s = s0 ∧ ∃ i : Nat, ∃ c : Int, i ≤ ms.length ∧ n = ms.length - i ∧ e = EM ms i c ∧ muchGo ms.length (ms.drop i) i c = B, ⟨ms.length, fg [0, 2, 3, 4] _, _, Wk.fg hg.1 hg.2, rfl, 0, 0, Nat.zero_le _, rfl, rfl, hB⟩, ?_⟩
  rintro n e s ⟨rfl, i, c, hi, rfl, rfl, hgo⟩
  have hlen : (ms.map Mv.v).length = ms.length := List.length_map ..
  conv => whnf
  refine sgo ?_
  rw [hlen]
  refine brB_iff.2 ⟨fun h1 => ?_, fun h1 => ?_⟩ <;> conv => whnf
  · have hlt : i < ms.length := by rw [ltZ_eq] at h1; simpa using h1
    have hm : ms[i]? = some ms[i] := by simp [hlt]
    generalize hmv : ms[i] = m at hm
    have hmm : (ms.map Mv.v)[((i : Nat) : Int).toNat]? = some m.v := by simp [hm]
    have hdrop : ms.drop i = m :: ms.drop (i + 1) := by rw [List.drop_eq_getElem_cons hlt, hmv]
    rw [hdrop] at hgo
    refine sgo ?_
    refine brB_iff.2 ⟨fun h2 => ?_, fun h2 => ?_⟩ <;> conv => whnf
    · simp only [muchGo, h2, if_true] at hgo
      refine sgo ?_
      refine ⟨rfl, Int.natCast_nonneg _, _, hmm, ?_⟩
      conv => whnf
      refine sgo ?_
      refine ⟨rfl, Int.natCast_nonneg _, _, hmm, ?_⟩
      conv => whnf
      refine sgo ?_
      refine ⟨rfl, Int.natCast_nonneg _, _, hmm, ?_⟩
      conv => whnf
      refine sgo ?_
      refine ⟨rfl, Int.natCast_nonneg _, _, hmm, ?_⟩
      conv => whnf
      refine sgo ?_
      refine brB_iff.2 ⟨fun h3 => ?_, fun h3 => ?_⟩ <;> conv => whnf
      · refine sgo ?_
        simp only [h3, true_or, if_true] at hgo
        rw [← hgo]
      · refine sgo ?_
        refine brB_iff.2 ⟨fun h4 => ?_, fun h4 => ?_⟩ <;> conv => whnf
        · refine sgo ?_
          simp only [h4, or_true, if_true] at hgo
          rw [← hgo]
        · refine sgo ?_
          simp only [h3, h4, Bool.false_eq_true, or_self, if_false] at hgo
          rw [wrap_succ hlt hl]
          intro hg'
          exact ⟨ms.length - (i + 1), fg [0, 2, 3, 4] _, _, by omega, Wk.fg hg'.1 hg'.2, rfl, i + 1, _, hlt, rfl, rfl, hgo⟩
    · simp only [muchGo, h2, Bool.false_eq_true, if_false] at hgo
      refine sgo ?_
      rw [hlen]
      refine brB_iff.2 ⟨fun h3 => ?_, fun h3 => ?_⟩ <;> conv => whnf
      · refine sgo ?_
        rw [← hgo, h3]; rfl
      · refine sgo ?_
        rw [← hgo, h3]; rfl
  · have hge : ms.length ≤ i := by rw [ltZ_eq] at h1; simpa using h1
    have hd0 : ms.drop i = [] := List.drop_eq_nil_of_le hge
    refine sgo ?_
    rw [hlen]
    refine brB_iff.2 ⟨fun h3 => ?_, fun h3 => ?_⟩ <;> conv => whnf
    · refine sgo ?_
      rw [← hgo, hd0]; simp only [muchGo, h3]; rfl
    · refine sgo ?_
      rw [← hgo, hd0]; simp only [muchGo, h3]; rfl
end Go.Proofs.YthoojnjcdllgdaaGreatDoor
