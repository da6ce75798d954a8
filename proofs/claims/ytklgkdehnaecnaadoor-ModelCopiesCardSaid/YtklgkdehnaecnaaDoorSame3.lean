/-
  Contracts: which processes, models and states are the same; much. No statement stands here.
-/
import Derived.Test.YtklgkdehnaecnaaDoorSame2
set_option linter.all false
namespace Go.Proofs.YtklgkdehnaecnaaDoor
open Go Rf
set_option maxRecDepth 100000
set_option maxHeartbeats 4000000

theorem wk_s0 {ks : List Nat} {e e1 : List V} {s : St} (he : e1 = fg ks e) (hn : ∀ v ∈ e1, Nm s0.L v) : Wk e1 s0 e s := by
  subst he
  have hno : ∀ l o, s0.get l ≠ some o := fun l o h => by rw [s0_get] at h; cases h
  exact ⟨fg_forg ks e, fun l o h => (hno l o h).elim, fun l h => (by simp [s0] at h), fun l o h => (hno l o h).elim, .inr (fun l cs z t h => (hno l _ h).elim), .inr (fun l o h => hno l _ h), .inr hn⟩

def okP (p : Pr) : Prop := p.1.2.length ≤ maxLen ∧ (∀ k ∈ p.1.2, k.length ≤ maxLen) ∧ p.2.1.length ≤ maxLen
theorem pr_eq {p q : Pr} (h1 : p.2.2 = q.2.2) (h2 : p.2.1 = q.2.1) (h3 : p.1.1 = q.1.1 ∧ p.1.2 = q.1.2) : p = q := by
  obtain ⟨⟨a, b⟩, c, d⟩ := p
  obtain ⟨⟨a', b'⟩, c', d'⟩ := q
  simp_all

theorem clos_den (p q : Pr) (hp : okP p) : PDen gt0 Tryd.prog 25 [prV p, prV q] (.b (decide (p = q))) := by
  generalize hB : decide (p = q) = B
  have e1 := same26_den p.2.1 q.2.1 hp.2.2
  have e2 := same_den p.1.1 q.1.1 p.1.2 q.1.2 hp.1 hp.2.1
  generalize h1 : decide (p.2.1 = q.2.1) = b1 at e1
  generalize h2 : decide (p.1.1 = q.1.1 ∧ p.1.2 = q.1.2) = b2 at e2
  have fin : V.b (eqZ p.2.2 q.2.2 && b1 && b2) = V.b B := by
    rw [← hB, ← h1, ← h2]
    congr 1
    rw [Bool.eq_iff_iff]
    simp only [eqZ_eq, Bool.and_eq_true, decide_eq_true_eq]
    exact ⟨fun h => pr_eq (by simpa using h.1.1) h.1.2 h.2, fun h => by subst h; simp⟩
  refine PDen.hc gnm0 hF25 (nm2 (prV_nm _) (prV_nm _)) (.b _) ?_
  conv => whnf
  repeat' (first | ((first | refine HO.bsl1 rfl rfl rfl ?_ | refine HC.seq ?_ | refine HC.ops ?_ | refine HO.k ?_ | refine HO.g ?_ | refine HO.nil ?_ | refine HC.drw mixed ?_ | refine HD.k ?_ | refine HD.g ?_ | refine HD.nil ?_ | refine HC.blk ?_ | refine HC.cond ?_ | refine HC.skip ?_ | refine HC.exit ?_ | refine HC.ret ?_ | rw [fL_eq] | rw [fN_eq] | refine HC.ret ?_ | refine ⟨_, _, e1 _, ?_⟩ | refine ⟨_, _, e2 _, ?_⟩); conv => whnf) | (refine brB_iff.2 ⟨fun hc => ?_, fun hc => ?_⟩ <;> conv => whnf))
  all_goals
    rw [← fin]
    simp_all

/-- slices.EqualFunc at processes -/
def EFP (x y : List Pr) (i : Nat) : List V := psV x :: psV y :: .fn 25 [] :: .bad :: .bad :: .bad :: .bad :: .bad :: .bad :: .bad :: .bad :: .bad :: .bad :: .bad :: .bad :: psV x :: .i .i64 ((x.map prV).length : Nat) :: .i .i64 (i : Nat) :: List.replicate 14 .bad
theorem EFP_nm {L : Nat → Prop} (x y : List Pr) (i : Nat) : ∀ v ∈ EFP x y i, Nm L v := fun v hv => by
  simp only [EFP, List.mem_cons, List.replicate, List.not_mem_nil, or_false] at hv
  rcases hv with rfl | rfl | rfl | rfl | rfl | rfl | rfl | rfl | rfl | rfl | rfl | rfl | rfl | rfl | rfl | rfl | rfl | rfl | rfl | rfl | rfl | rfl | rfl | rfl | rfl | rfl | rfl | rfl | rfl | rfl | rfl | rfl
  all_goals first | exact .bad | exact psV_nm _ | exact .i _ _ | exact .fn _ _ (fun x hx => by simp at hx)

theorem efp_den (x y : List Pr) (hl : x.length ≤ maxLen) (hk : ∀ p ∈ x, okP p) : PDen gt0 Tryd.prog 24 [psV x, psV y, .fn 25 []] (.b (decide (x = y))) := by
  generalize hB : decide (x = y) = B
  refine PDen.hc gnm0 hF24 (fun v hv => ?_) (.b _) ?_
  · simp only [List.mem_cons, List.not_mem_nil, or_false] at hv
    rcases hv with rfl | rfl | rfl
    · exact psV_nm _
    · exact psV_nm _
    · exact .fn _ _ (fun x hx => by simp at hx)
  have hlx : (x.map prV).length = x.length := List.length_map ..
  have hly : (y.map prV).length = y.length := List.length_map ..
  conv => whnf
  repeat ((first | refine HO.bsl1 rfl rfl rfl ?_ | refine HC.seq ?_ | refine HC.ops ?_ | refine HO.k ?_ | refine HO.g ?_ | refine HO.nil ?_ | refine HC.drw mixed ?_ | refine HD.k ?_ | refine HD.g ?_ | refine HD.nil ?_ | refine HC.blk ?_ | refine HC.cond ?_ | refine HC.skip ?_ | refine HC.exit ?_ | refine HC.ret ?_ | rw [fL_eq] | rw [fN_eq]); conv => whnf)
  refine brB_iff.2 ⟨fun h => ?_, fun h => ?_⟩ <;> conv => whnf
  · repeat ((first | refine HO.bsl1 rfl rfl rfl ?_ | refine HC.seq ?_ | refine HC.ops ?_ | refine HO.k ?_ | refine HO.g ?_ | refine HO.nil ?_ | refine HC.drw mixed ?_ | refine HD.k ?_ | refine HD.g ?_ | refine HD.nil ?_ | refine HC.blk ?_ | refine HC.cond ?_ | refine HC.skip ?_ | refine HC.exit ?_ | refine HC.ret ?_ | rw [fL_eq] | rw [fN_eq]); conv => whnf)
    have h1 : x ≠ y := fun e => by subst e; simp [eqZ_eq] at h
    rw [← hB, decide_eq_false h1]
  · have hxy : x.length = y.length := by simp [eqZ_eq] at h; omega
    repeat ((first | refine HO.bsl1 rfl rfl rfl ?_ | refine HC.seq ?_ | refine HC.ops ?_ | refine HO.k ?_ | refine HO.g ?_ | refine HO.nil ?_ | refine HC.drw mixed ?_ | refine HD.k ?_ | refine HD.g ?_ | refine HD.nil ?_ | refine HC.blk ?_ | refine HC.cond ?_ | refine HC.skip ?_ | refine HC.exit ?_ | refine HC.ret ?_ | rw [fL_eq] | rw [fN_eq]); conv => whnf)
    refine HC.loop gnm0 fun hg => ⟨fun n e s => s = s0 ∧ ∃ i : Nat, i ≤ x.length ∧ n = x.length - i ∧ e = EFP x y i ∧ x.take i = y.take i, ⟨x.length, fg [0, 1, 2, 15, 16, 17] _, _, Wk.fg hg.1 hg.2, rfl, 0, Nat.zero_le _, rfl, rfl, rfl⟩, ?_⟩
    rintro n e s ⟨rfl, i, hi, rfl, rfl, ht⟩
    conv => whnf
    repeat ((first | refine HO.bsl1 rfl rfl rfl ?_ | refine HC.seq ?_ | refine HC.ops ?_ | refine HO.k ?_ | refine HO.g ?_ | refine HO.nil ?_ | refine HC.drw mixed ?_ | refine HD.k ?_ | refine HD.g ?_ | refine HD.nil ?_ | refine HC.blk ?_ | refine HC.cond ?_ | refine HC.skip ?_ | refine HC.exit ?_ | refine HC.ret ?_ | rw [fL_eq] | rw [fN_eq]); conv => whnf)
    refine brB_iff.2 ⟨fun h1 => ?_, fun h1 => ?_⟩ <;> conv => whnf
    · have hlt : i < x.length := by rw [ltZ_eq] at h1; simp at h1; omega
      have hmx : (x.map prV)[((i : Nat) : Int).toNat]? = some (prV x[i]) := by simp [hlt]
      have hmy : (y.map prV)[((i : Nat) : Int).toNat]? = some (prV (y[i]'(hxy ▸ hlt))) := by simp [hxy ▸ hlt]
      have hgx : x[i]? = some x[i] := by simp [hlt]
      have hgy : y[i]? = some (y[i]'(hxy ▸ hlt)) := by simp [hxy ▸ hlt]
      have hkl := hk x[i] (List.getElem_mem hlt)
      generalize x[i] = a at hmx hgx hkl
      generalize y[i]'(hxy ▸ hlt) = b at hmy hgy
      have hC := clos_den a b hkl
      repeat ((first | refine HO.bsl1 rfl rfl rfl ?_ | refine HC.seq ?_ | refine HC.ops ?_ | refine HO.k ?_ | refine HO.g ?_ | refine HO.nil ?_ | refine HC.drw mixed ?_ | refine HD.k ?_ | refine HD.g ?_ | refine HD.nil ?_ | refine HC.blk ?_ | refine HC.cond ?_ | refine HC.skip ?_ | refine HC.exit ?_ | refine HC.ret ?_ | rw [fL_eq] | rw [fN_eq]); conv => whnf)
      refine ⟨rfl, Int.natCast_nonneg _, _, hmx, ?_⟩
      conv => whnf
      repeat ((first | refine HO.bsl1 rfl rfl rfl ?_ | refine HC.seq ?_ | refine HC.ops ?_ | refine HO.k ?_ | refine HO.g ?_ | refine HO.nil ?_ | refine HC.drw mixed ?_ | refine HD.k ?_ | refine HD.g ?_ | refine HD.nil ?_ | refine HC.blk ?_ | refine HC.cond ?_ | refine HC.skip ?_ | refine HC.exit ?_ | refine HC.ret ?_ | rw [fL_eq] | rw [fN_eq]); conv => whnf)
      refine ⟨rfl, Int.natCast_nonneg _, _, hmy, ?_⟩
      conv => whnf
      repeat ((first | refine HO.bsl1 rfl rfl rfl ?_ | refine HC.seq ?_ | refine HC.ops ?_ | refine HO.k ?_ | refine HO.g ?_ | refine HO.nil ?_ | refine HC.drw mixed ?_ | refine HD.k ?_ | refine HD.g ?_ | refine HD.nil ?_ | refine HC.blk ?_ | refine HC.cond ?_ | refine HC.skip ?_ | refine HC.exit ?_ | refine HC.ret ?_ | rw [fL_eq] | rw [fN_eq]); conv => whnf)
      refine ⟨rfl, _, _, hC _, ?_⟩
      conv => whnf
      repeat ((first | refine HO.bsl1 rfl rfl rfl ?_ | refine HC.seq ?_ | refine HC.ops ?_ | refine HO.k ?_ | refine HO.g ?_ | refine HO.nil ?_ | refine HC.drw mixed ?_ | refine HD.k ?_ | refine HD.g ?_ | refine HD.nil ?_ | refine HC.blk ?_ | refine HC.cond ?_ | refine HC.skip ?_ | refine HC.exit ?_ | refine HC.ret ?_ | rw [fL_eq] | rw [fN_eq]); conv => whnf)
      refine brB_iff.2 ⟨fun h2 => ?_, fun h2 => ?_⟩ <;> conv => whnf
      · repeat ((first | refine HO.bsl1 rfl rfl rfl ?_ | refine HC.seq ?_ | refine HC.ops ?_ | refine HO.k ?_ | refine HO.g ?_ | refine HO.nil ?_ | refine HC.drw mixed ?_ | refine HD.k ?_ | refine HD.g ?_ | refine HD.nil ?_ | refine HC.blk ?_ | refine HC.cond ?_ | refine HC.skip ?_ | refine HC.exit ?_ | refine HC.ret ?_ | rw [fL_eq] | rw [fN_eq]); conv => whnf)
        have h1 : x ≠ y := ne_of_get hgx hgy (by simpa using h2)
        rw [← hB, decide_eq_false h1]
      · repeat ((first | refine HO.bsl1 rfl rfl rfl ?_ | refine HC.seq ?_ | refine HC.ops ?_ | refine HO.k ?_ | refine HO.g ?_ | refine HO.nil ?_ | refine HC.drw mixed ?_ | refine HD.k ?_ | refine HD.g ?_ | refine HD.nil ?_ | refine HC.blk ?_ | refine HC.cond ?_ | refine HC.skip ?_ | refine HC.exit ?_ | refine HC.ret ?_ | rw [fL_eq] | rw [fN_eq]); conv => whnf)
        have hab : a = b := by simpa using h2
        rw [wrap_succ hlt hl]
        intro hg'
        exact ⟨x.length - (i + 1), EFP x y (i + 1), _, by omega, wk_s0 (ks := [0, 1, 2, 15, 16, 17]) rfl (EFP_nm _ _ _), rfl, i + 1, hlt, rfl, rfl, take_succ_eq hgx hgy ht hab⟩
    · have hge : x.length ≤ i := by rw [ltZ_eq] at h1; simp at h1; omega
      repeat ((first | refine HO.bsl1 rfl rfl rfl ?_ | refine HC.seq ?_ | refine HC.ops ?_ | refine HO.k ?_ | refine HO.g ?_ | refine HO.nil ?_ | refine HC.drw mixed ?_ | refine HD.k ?_ | refine HD.g ?_ | refine HD.nil ?_ | refine HC.blk ?_ | refine HC.cond ?_ | refine HC.skip ?_ | refine HC.exit ?_ | refine HC.ret ?_ | rw [fL_eq] | rw [fN_eq]); conv => whnf)
      rw [List.take_of_length_le hge, List.take_of_length_le (by omega)] at ht
      rw [← hB, decide_eq_true ht]

/-- model.Same -/
theorem msame_den (x y : List Pr) (f g : List Ev) (hl : x.length ≤ maxLen) (hk : ∀ p ∈ x, okP p) (hf : f.length ≤ maxLen) : PDen gt0 Tryd.prog 8 [mV x f, mV y g] (.b (decide (x = y) && decide (f = g))) := by
  refine PDen.hc gnm0 hF8 (nm2 (mV_nm _ _) (mV_nm _ _)) (.b _) ?_
  have e1 := same23_den f g hf
  have e2 := efp_den x y hl hk
  conv => whnf
  repeat' (first | ((first | refine HO.bsl1 rfl rfl rfl ?_ | refine HC.seq ?_ | refine HC.ops ?_ | refine HO.k ?_ | refine HO.g ?_ | refine HO.nil ?_ | refine HC.drw mixed ?_ | refine HD.k ?_ | refine HD.g ?_ | refine HD.nil ?_ | refine HC.blk ?_ | refine HC.cond ?_ | refine HC.skip ?_ | refine HC.exit ?_ | refine HC.ret ?_ | rw [fL_eq] | rw [fN_eq] | refine HC.ret ?_ | refine ⟨_, _, e1 _, ?_⟩ | refine ⟨_, _, e2 _, ?_⟩); conv => whnf) | (refine brB_iff.2 ⟨fun hc => ?_, fun hc => ?_⟩ <;> conv => whnf))
  all_goals
    simp_all [eqZ_eq]

theorem ssame_den (x y : List Int) (a b c d : Int) (hl : x.length ≤ maxLen) : PDen gt0 Tryd.prog 10 [stV x a b, stV y c d] (.b (decide (x = y ∧ a = c ∧ b = d))) := by
  refine PDen.hc gnm0 hF10 (nm2 (stV_nm _ _ _) (stV_nm _ _ _)) (.b _) ?_
  have e1 := same26_den x y hl
  conv => whnf
  repeat' (first | ((first | refine HO.bsl1 rfl rfl rfl ?_ | refine HC.seq ?_ | refine HC.ops ?_ | refine HO.k ?_ | refine HO.g ?_ | refine HO.nil ?_ | refine HC.drw mixed ?_ | refine HD.k ?_ | refine HD.g ?_ | refine HD.nil ?_ | refine HC.blk ?_ | refine HC.cond ?_ | refine HC.skip ?_ | refine HC.exit ?_ | refine HC.ret ?_ | rw [fL_eq] | rw [fN_eq] | refine HC.ret ?_ | refine ⟨_, _, e1 _, ?_⟩); conv => whnf) | (refine brB_iff.2 ⟨fun hc => ?_, fun hc => ?_⟩ <;> conv => whnf))
  all_goals
    simp_all [eqZ_eq]
theorem srsame_den (x y : List Int) (a b c d : Int) (hl : x.length ≤ maxLen) : PDen gt0 Tryd.prog 11 [stV x a b, stV y c d] (.b (decide (x = y ∧ a = c ∧ b = d))) := by
  refine PDen.hc gnm0 hF11 (nm2 (stV_nm _ _ _) (stV_nm _ _ _)) (.b _) ?_
  have e1 := same14_den x y hl
  conv => whnf
  repeat' (first | ((first | refine HO.bsl1 rfl rfl rfl ?_ | refine HC.seq ?_ | refine HC.ops ?_ | refine HO.k ?_ | refine HO.g ?_ | refine HO.nil ?_ | refine HC.drw mixed ?_ | refine HD.k ?_ | refine HD.g ?_ | refine HD.nil ?_ | refine HC.blk ?_ | refine HC.cond ?_ | refine HC.skip ?_ | refine HC.exit ?_ | refine HC.ret ?_ | rw [fL_eq] | rw [fN_eq] | refine HC.ret ?_ | refine ⟨_, _, e1 _, ?_⟩); conv => whnf) | (refine brB_iff.2 ⟨fun hc => ?_, fun hc => ?_⟩ <;> conv => whnf))
  all_goals
    simp_all [eqZ_eq]
end Go.Proofs.YtklgkdehnaecnaaDoor
