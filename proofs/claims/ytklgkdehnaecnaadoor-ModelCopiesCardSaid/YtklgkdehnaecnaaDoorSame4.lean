/-
  Contracts: the document's Same and Much of models. No statement stands here.
-/
import Derived.Test.YtklgkdehnaecnaaDoorSame3
set_option linter.all false
namespace Go.Proofs.YtklgkdehnaecnaaDoor
open Go Rf
set_option maxRecDepth 100000
set_option maxHeartbeats 4000000

/-- the document's Same of models -/
def ERM (x y : List Pr) (f g : List Ev) (i : Nat) : List V := .bad :: .bad :: .q (mV x f) 0 :: .q (mV y g) 0 :: .b false :: .i .i64 (i : Nat) :: List.replicate 55 .bad
theorem ERM_nm {L : Nat → Prop} (x y : List Pr) (f g : List Ev) (i : Nat) : ∀ v ∈ ERM x y f g i, Nm L v := fun v hv => by
  simp only [ERM, List.mem_cons, List.mem_replicate] at hv
  rcases hv with rfl | rfl | rfl | rfl | rfl | rfl | ⟨-, rfl⟩
  · exact .bad
  · exact .bad
  · exact .q _ _ (mV_nm _ _)
  · exact .q _ _ (mV_nm _ _)
  · exact .b _
  · exact .i _ _
  · exact .bad

theorem rmsame_den (x y : List Pr) (f g : List Ev) (hl : x.length ≤ maxLen) (hk : ∀ p ∈ x, okP p) (hf : f.length ≤ maxLen) : PDen gt0 Tryd.prog 9 [mV x f, mV y g] (.b (decide (x = y) && decide (f = g))) := by
  generalize hB : (decide (x = y) && decide (f = g)) = B
  refine PDen.hc gnm0 hF9 (nm2 (mV_nm _ _) (mV_nm _ _)) (.b _) ?_
  have hlx : (x.map prV).length = x.length := List.length_map ..
  have hly : (y.map prV).length = y.length := List.length_map ..
  have out1 : x ≠ y → V.b false = V.b B := fun h => by rw [← hB, decide_eq_false h]; rfl
  have out2 : f ≠ g → V.b false = V.b B := fun h => by rw [← hB, decide_eq_false h, Bool.and_false]
  have e1 := same28_den f g hf
  conv => whnf
  repeat ((first | refine HO.bsl1 rfl rfl rfl ?_ | refine HC.seq ?_ | refine HC.ops ?_ | refine HO.k ?_ | refine HO.g ?_ | refine HO.nil ?_ | refine HC.drw mixed ?_ | refine HD.k ?_ | refine HD.g ?_ | refine HD.nil ?_ | refine HC.blk ?_ | refine HC.cond ?_ | refine HC.skip ?_ | refine HC.exit ?_ | refine HC.ret ?_ | rw [fL_eq] | rw [fN_eq]); conv => whnf)
  refine brB_iff.2 ⟨fun h => ?_, fun h => ?_⟩ <;> conv => whnf
  · repeat ((first | refine HO.bsl1 rfl rfl rfl ?_ | refine HC.seq ?_ | refine HC.ops ?_ | refine HO.k ?_ | refine HO.g ?_ | refine HO.nil ?_ | refine HC.drw mixed ?_ | refine HD.k ?_ | refine HD.g ?_ | refine HD.nil ?_ | refine HC.blk ?_ | refine HC.cond ?_ | refine HC.skip ?_ | refine HC.exit ?_ | refine HC.ret ?_ | rw [fL_eq] | rw [fN_eq]); conv => whnf)
    exact out1 fun e => by subst e; simp [eqZ_eq] at h
  · have hxy : x.length = y.length := by simp [eqZ_eq] at h; omega
    repeat ((first | refine HO.bsl1 rfl rfl rfl ?_ | refine HC.seq ?_ | refine HC.ops ?_ | refine HO.k ?_ | refine HO.g ?_ | refine HO.nil ?_ | refine HC.drw mixed ?_ | refine HD.k ?_ | refine HD.g ?_ | refine HD.nil ?_ | refine HC.blk ?_ | refine HC.cond ?_ | refine HC.skip ?_ | refine HC.exit ?_ | refine HC.ret ?_ | rw [fL_eq] | rw [fN_eq]); conv => whnf)
    refine ⟨_, _, e1 _, ?_⟩
    conv => whnf
    repeat ((first | refine HO.bsl1 rfl rfl rfl ?_ | refine HC.seq ?_ | refine HC.ops ?_ | refine HO.k ?_ | refine HO.g ?_ | refine HO.nil ?_ | refine HC.drw mixed ?_ | refine HD.k ?_ | refine HD.g ?_ | refine HD.nil ?_ | refine HC.blk ?_ | refine HC.cond ?_ | refine HC.skip ?_ | refine HC.exit ?_ | refine HC.ret ?_ | rw [fL_eq] | rw [fN_eq]); conv => whnf)
    refine brB_iff.2 ⟨fun h => ?_, fun h => ?_⟩ <;> conv => whnf
    · repeat ((first | refine HO.bsl1 rfl rfl rfl ?_ | refine HC.seq ?_ | refine HC.ops ?_ | refine HO.k ?_ | refine HO.g ?_ | refine HO.nil ?_ | refine HC.drw mixed ?_ | refine HD.k ?_ | refine HD.g ?_ | refine HD.nil ?_ | refine HC.blk ?_ | refine HC.cond ?_ | refine HC.skip ?_ | refine HC.exit ?_ | refine HC.ret ?_ | rw [fL_eq] | rw [fN_eq]); conv => whnf)
      exact out2 (by simpa using h)
    · have hfg : f = g := by simpa using h
      repeat ((first | refine HO.bsl1 rfl rfl rfl ?_ | refine HC.seq ?_ | refine HC.ops ?_ | refine HO.k ?_ | refine HO.g ?_ | refine HO.nil ?_ | refine HC.drw mixed ?_ | refine HD.k ?_ | refine HD.g ?_ | refine HD.nil ?_ | refine HC.blk ?_ | refine HC.cond ?_ | refine HC.skip ?_ | refine HC.exit ?_ | refine HC.ret ?_ | rw [fL_eq] | rw [fN_eq]); conv => whnf)
      refine HC.loop gnm0 fun hg => ⟨fun n e s => s = s0 ∧ ∃ i : Nat, i ≤ x.length ∧ n = x.length - i ∧ e = ERM x y f g i ∧ x.take i = y.take i, ⟨x.length, fg [2, 3, 4, 5] _, _, Wk.fg hg.1 hg.2, rfl, 0, Nat.zero_le _, rfl, rfl, rfl⟩, ?_⟩
      rintro n e s ⟨rfl, i, hi, rfl, rfl, ht⟩
      conv => whnf
      repeat ((first | refine HO.bsl1 rfl rfl rfl ?_ | refine HC.seq ?_ | refine HC.ops ?_ | refine HO.k ?_ | refine HO.g ?_ | refine HO.nil ?_ | refine HC.drw mixed ?_ | refine HD.k ?_ | refine HD.g ?_ | refine HD.nil ?_ | refine HC.blk ?_ | refine HC.cond ?_ | refine HC.skip ?_ | refine HC.exit ?_ | refine HC.ret ?_ | rw [fL_eq] | rw [fN_eq]); conv => whnf)
      refine brB_iff.2 ⟨fun h1 => ?_, fun h1 => ?_⟩ <;> conv => whnf
      · have hlt : i < x.length := by rw [ltZ_eq] at h1; simp at h1; omega
        have hmx : (x.map prV)[((i : Nat) : Int).toNat]? = some (prV x[i]) := by simp [hlt]
        have hmy : (y.map prV)[((i : Nat) : Int).toNat]? = some (prV (y[i]'(hxy ▸ hlt))) := by simp [hxy ▸ hlt]
        have hgx : x[i]? = some x[i] := by simp [hlt]
        have hgy : y[i]? = some (y[i]'(hxy ▸ hlt)) := by simp [hxy ▸ hlt]
        have hkl := hk x[i] (List.getElem_mem hlt)
        generalize x[i] = a at hmx hgx hkl
        generalize y[i]'(hxy ▸ hlt) = b at hmy hgy
        have d1 := same14_den a.2.1 b.2.1 hkl.2.2
        have d2 := rsame_den a.1.1 b.1.1 a.1.2 b.1.2 hkl.1 hkl.2.1
        have hne : a ≠ b → V.b false = V.b B := fun h => out1 (ne_of_get hgx hgy h)
        generalize h1 : decide (a.2.1 = b.2.1) = b1 at d1
        generalize h2 : decide (a.1.1 = b.1.1 ∧ a.1.2 = b.1.2) = b2 at d2
        have hw := wrap_succ hlt hl
        repeat' (first | ((first | refine HO.bsl1 rfl rfl rfl ?_ | refine HC.seq ?_ | refine HC.ops ?_ | refine HO.k ?_ | refine HO.g ?_ | refine HO.nil ?_ | refine HC.drw mixed ?_ | refine HD.k ?_ | refine HD.g ?_ | refine HD.nil ?_ | refine HC.blk ?_ | refine HC.cond ?_ | refine HC.skip ?_ | refine HC.exit ?_ | refine HC.ret ?_ | rw [fL_eq] | rw [fN_eq] | refine ⟨rfl, Int.natCast_nonneg _, _, hmx, ?_⟩ | refine ⟨rfl, Int.natCast_nonneg _, _, hmy, ?_⟩ | refine ⟨_, _, d1 _, ?_⟩ | refine ⟨_, _, d2 _, ?_⟩ | refine ⟨stays_one rfl, ?_⟩); conv => whnf) | (refine brB_iff.2 ⟨fun hc => ?_, fun hc => ?_⟩ <;> conv => whnf))
        all_goals first
          | (refine hne (fun e => ?_)
             subst e
             simp_all [eqZ_eq])
          | (intro hg'
             rw [hw]
             have hab : a = b := pr_eq (by simp_all [eqZ_eq]) (by simp_all) (by simp_all)
             exact ⟨x.length - (i + 1), ERM x y f g (i + 1), _, by omega, wk_s0 (ks := [2, 3, 4, 5]) rfl (ERM_nm _ _ _ _ _), rfl, i + 1, hlt, rfl, rfl, take_succ_eq hgx hgy ht hab⟩)
      · have hge : x.length ≤ i := by rw [ltZ_eq] at h1; simp at h1; omega
        rw [List.take_of_length_le hge, List.take_of_length_le (by omega)] at ht
        repeat ((first | refine HO.bsl1 rfl rfl rfl ?_ | refine HC.seq ?_ | refine HC.ops ?_ | refine HO.k ?_ | refine HO.g ?_ | refine HO.nil ?_ | refine HC.drw mixed ?_ | refine HD.k ?_ | refine HD.g ?_ | refine HD.nil ?_ | refine HC.blk ?_ | refine HC.cond ?_ | refine HC.skip ?_ | refine HC.exit ?_ | refine HC.ret ?_ | rw [fL_eq] | rw [fN_eq]); conv => whnf)
        rw [← hB, decide_eq_true ht, decide_eq_true hfg]
        rfl

/-- how much a model is -/
def muchP (p : Pr) : Bool := much p.1.2 || decide (20 < p.2.1.length)
def muchM (ps : List Pr) (fs : List Ev) : Bool := decide (20 < ps.length) || decide (80 < fs.length) || ps.any muchP
def EMM (ps : List Pr) (fs : List Ev) (i : Nat) : List V := .bad :: .q (mV ps fs) 0 :: .b false :: .i .i64 (i : Nat) :: List.replicate 34 .bad

theorem mmuch_den (ps : List Pr) (fs : List Ev) (hl : ps.length ≤ maxLen) (hk : ∀ p ∈ ps, p.1.2.length ≤ maxLen) : PDen gt0 Tryd.prog 6 [mV ps fs] (.b (muchM ps fs)) := by
  generalize hB : muchM ps fs = B
  refine PDen.hc gnm0 hF6 (nm1 (mV_nm _ _)) (.b _) ?_
  have hlx : (ps.map prV).length = ps.length := List.length_map ..
  have hly : (fs.map evV).length = fs.length := List.length_map ..
  conv => whnf
  repeat ((first | refine HO.bsl1 rfl rfl rfl ?_ | refine HC.seq ?_ | refine HC.ops ?_ | refine HO.k ?_ | refine HO.g ?_ | refine HO.nil ?_ | refine HC.drw mixed ?_ | refine HD.k ?_ | refine HD.g ?_ | refine HD.nil ?_ | refine HC.blk ?_ | refine HC.cond ?_ | refine HC.skip ?_ | refine HC.exit ?_ | refine HC.ret ?_ | rw [fL_eq] | rw [fN_eq]); conv => whnf)
  refine brB_iff.2 ⟨fun h => ?_, fun h => ?_⟩ <;> conv => whnf
  · repeat ((first | refine HO.bsl1 rfl rfl rfl ?_ | refine HC.seq ?_ | refine HC.ops ?_ | refine HO.k ?_ | refine HO.g ?_ | refine HO.nil ?_ | refine HC.drw mixed ?_ | refine HD.k ?_ | refine HD.g ?_ | refine HD.nil ?_ | refine HC.blk ?_ | refine HC.cond ?_ | refine HC.skip ?_ | refine HC.exit ?_ | refine HC.ret ?_ | rw [fL_eq] | rw [fN_eq]); conv => whnf)
    have : 20 < ps.length := by rw [ltZ_eq] at h; simp at h; omega
    rw [← hB]; simp [muchM, this]
  · have h20 : ¬ 20 < ps.length := by rw [ltZ_eq] at h; simp at h; omega
    repeat ((first | refine HO.bsl1 rfl rfl rfl ?_ | refine HC.seq ?_ | refine HC.ops ?_ | refine HO.k ?_ | refine HO.g ?_ | refine HO.nil ?_ | refine HC.drw mixed ?_ | refine HD.k ?_ | refine HD.g ?_ | refine HD.nil ?_ | refine HC.blk ?_ | refine HC.cond ?_ | refine HC.skip ?_ | refine HC.exit ?_ | refine HC.ret ?_ | rw [fL_eq] | rw [fN_eq]); conv => whnf)
    refine brB_iff.2 ⟨fun h => ?_, fun h => ?_⟩ <;> conv => whnf
    · repeat ((first | refine HO.bsl1 rfl rfl rfl ?_ | refine HC.seq ?_ | refine HC.ops ?_ | refine HO.k ?_ | refine HO.g ?_ | refine HO.nil ?_ | refine HC.drw mixed ?_ | refine HD.k ?_ | refine HD.g ?_ | refine HD.nil ?_ | refine HC.blk ?_ | refine HC.cond ?_ | refine HC.skip ?_ | refine HC.exit ?_ | refine HC.ret ?_ | rw [fL_eq] | rw [fN_eq]); conv => whnf)
      have : 80 < fs.length := by rw [ltZ_eq] at h; simp at h; omega
      rw [← hB]; simp [muchM, this]
    · have h80 : ¬ 80 < fs.length := by rw [ltZ_eq] at h; simp at h; omega
      repeat ((first | refine HO.bsl1 rfl rfl rfl ?_ | refine HC.seq ?_ | refine HC.ops ?_ | refine HO.k ?_ | refine HO.g ?_ | refine HO.nil ?_ | refine HC.drw mixed ?_ | refine HD.k ?_ | refine HD.g ?_ | refine HD.nil ?_ | refine HC.blk ?_ | refine HC.cond ?_ | refine HC.skip ?_ | refine HC.exit ?_ | refine HC.ret ?_ | rw [fL_eq] | rw [fN_eq]); conv => whnf)
      refine HC.loop gnm0 fun hg => ⟨fun n e s => s = s0 ∧ ∃ i : Nat, i ≤ ps.length ∧ n = ps.length - i ∧ e = EMM ps fs i ∧ ∀ p ∈ ps.take i, muchP p = false, ⟨ps.length, fg [1, 2, 3] _, _, Wk.fg hg.1 hg.2, rfl, 0, Nat.zero_le _, rfl, rfl, fun k hk => by simp at hk⟩, ?_⟩
      rintro n e s ⟨rfl, i, hi, rfl, rfl, ht⟩
      conv => whnf
      repeat ((first | refine HO.bsl1 rfl rfl rfl ?_ | refine HC.seq ?_ | refine HC.ops ?_ | refine HO.k ?_ | refine HO.g ?_ | refine HO.nil ?_ | refine HC.drw mixed ?_ | refine HD.k ?_ | refine HD.g ?_ | refine HD.nil ?_ | refine HC.blk ?_ | refine HC.cond ?_ | refine HC.skip ?_ | refine HC.exit ?_ | refine HC.ret ?_ | rw [fL_eq] | rw [fN_eq]); conv => whnf)
      refine brB_iff.2 ⟨fun h1 => ?_, fun h1 => ?_⟩ <;> conv => whnf
      · have hlt : i < ps.length := by rw [ltZ_eq] at h1; simp at h1; omega
        have hmx : (ps.map prV)[((i : Nat) : Int).toNat]? = some (prV ps[i]) := by simp [hlt]
        have hgx : ps[i]? = some ps[i] := by simp [hlt]
        have hkl := hk ps[i] (List.getElem_mem hlt)
        generalize ps[i] = a at hmx hgx hkl
        have hla : (a.2.1.map iV).length = a.2.1.length := List.length_map ..
        have d1 := much_den a.1.1 a.1.2 hkl
        have hw := wrap_succ hlt hl
        have bad : muchP a = true → V.b true = V.b B := fun h => by
          have : ps.any muchP = true := List.any_eq_true.2 ⟨a, List.mem_of_getElem? hgx, h⟩
          rw [← hB]; simp [muchM, this]
        generalize h2 : much a.1.2 = m1 at d1
        repeat' (first | ((first | refine HO.bsl1 rfl rfl rfl ?_ | refine HC.seq ?_ | refine HC.ops ?_ | refine HO.k ?_ | refine HO.g ?_ | refine HO.nil ?_ | refine HC.drw mixed ?_ | refine HD.k ?_ | refine HD.g ?_ | refine HD.nil ?_ | refine HC.blk ?_ | refine HC.cond ?_ | refine HC.skip ?_ | refine HC.exit ?_ | refine HC.ret ?_ | rw [fL_eq] | rw [fN_eq] | refine ⟨rfl, Int.natCast_nonneg _, _, hmx, ?_⟩ | refine ⟨_, _, d1 _, ?_⟩); conv => whnf) | (refine brB_iff.2 ⟨fun hc => ?_, fun hc => ?_⟩ <;> conv => whnf))
        all_goals first
          | (refine bad ?_
             simp_all [muchP, ltZ_eq]
             done)
          | (refine bad ?_
             simp_all [muchP, ltZ_eq]
             omega)
          | (intro hg'
             rw [hw]
             have hp : muchP a = false := by
               simp only [muchP, Bool.or_eq_false_iff, decide_eq_false_iff_not]
               refine ⟨by simp_all, ?_⟩
               simp_all [ltZ_eq]
               try omega
             refine ⟨ps.length - (i + 1), fg [1, 2, 3] _, _, by omega, Wk.fg hg'.1 hg'.2, rfl, i + 1, hlt, rfl, rfl, fun k hk => ?_⟩
             rw [List.take_add_one, hgx] at hk
             rcases List.mem_append.1 hk with hk | hk
             · exact ht k hk
             · simp at hk; subst hk; exact hp)
      · have hge : ps.length ≤ i := by rw [ltZ_eq] at h1; simp at h1; omega
        repeat ((first | refine HO.bsl1 rfl rfl rfl ?_ | refine HC.seq ?_ | refine HC.ops ?_ | refine HO.k ?_ | refine HO.g ?_ | refine HO.nil ?_ | refine HC.drw mixed ?_ | refine HD.k ?_ | refine HD.g ?_ | refine HD.nil ?_ | refine HC.blk ?_ | refine HC.cond ?_ | refine HC.skip ?_ | refine HC.exit ?_ | refine HC.ret ?_ | rw [fL_eq] | rw [fN_eq]); conv => whnf)
        rw [List.take_of_length_le hge] at ht
        rw [← hB]
        have : ps.any muchP = false := List.any_eq_false.2 fun k hk => by simpa using ht k hk
        simp [muchM, this, h20, h80]
end Go.Proofs.YtklgkdehnaecnaaDoor
