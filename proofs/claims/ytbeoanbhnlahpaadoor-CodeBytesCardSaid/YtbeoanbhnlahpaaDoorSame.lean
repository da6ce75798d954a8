/-
  Contracts: programs as values; which are the same. No statement stands here.
-/
import Derived.Test.YtbeoanbhnlahpaaDoorLD
import Derived.Test.YtbeoanbhnlahpaaDoorCode
set_option linter.all false
namespace Go.Proofs.YtbeoanbhnlahpaaDoor
open Go Rf
set_option maxRecDepth 100000
set_option maxHeartbeats 400000

theorem wrap_succ {i n : Nat} (h : i < n) (hn : n ≤ maxLen) : wrapF .i64 ((i : Int) + 1) = ((i + 1 : Nat) : Int) := by
  have hm : maxLen ≤ 9223372036854775807 := by decide
  rw [wrapF_eq, wrap_in] <;> simp [lim, IntKind.signed] <;> omega

/-- an instruction, a kind, kinds, a program -/
def insV (x : Int × Int) : V := .ag [.i .i64 x.1, .i .i64 x.2]
abbrev Kd := List (Int × Int)
def kV (k : Kd) : V := .pu 2 (k.map insV) .u
def ksV (ks : List Kd) : V := .pu 1 (ks.map kV) .u
def pgV (v : Int) (ks : List Kd) : V := .ag [.i .i64 v, ksV ks]
theorem insV_nm {L : Nat → Prop} (x : Int × Int) : Nm L (insV x) := .ag _ (fun v hv => by
  simp only [List.mem_cons, List.not_mem_nil, or_false] at hv
  rcases hv with rfl | rfl <;> exact .i _ _)
theorem kV_nm {L : Nat → Prop} (k : Kd) : Nm L (kV k) := .pu _ _ _ (fun v hv => by
  obtain ⟨x, -, rfl⟩ := List.mem_map.1 hv; exact insV_nm x) (fun k hk => by cases hk)
theorem ksV_nm {L : Nat → Prop} (ks : List Kd) : Nm L (ksV ks) := .pu _ _ _ (fun v hv => by
  obtain ⟨x, -, rfl⟩ := List.mem_map.1 hv; exact kV_nm x) (fun k hk => by cases hk)
theorem pgV_nm {L : Nat → Prop} (v : Int) (ks : List Kd) : Nm L (pgV v ks) := .ag _ (fun x hx => by
  simp only [List.mem_cons, List.not_mem_nil, or_false] at hx
  rcases hx with rfl | rfl
  · exact .i _ _
  · exact ksV_nm _)
theorem nm2 {L : Nat → Prop} {a b : V} (ha : Nm L a) (hb : Nm L b) : ∀ x ∈ [a, b], Nm L x := fun x hx => by
  simp only [List.mem_cons, List.not_mem_nil, or_false] at hx
  rcases hx with rfl | rfl
  · exact ha
  · exact hb
theorem nm1 {L : Nat → Prop} {a : V} (ha : Nm L a) : ∀ x ∈ [a], Nm L x := fun x hx => by
  simp only [List.mem_singleton] at hx; subst hx; exact ha

theorem eqZ_t {a b : Int} (h : eqZ a b = true) : a = b := by simpa [eqZ_eq] using h
theorem eqZ_f {a b : Int} (h : eqZ a b = false) : a ≠ b := by simpa [eqZ_eq] using h

/-- slices.Equal at kinds -/
def EQ (x y : Kd) (i : Nat) : List V := kV x :: kV y :: .bad :: .bad :: .bad :: .bad :: .bad :: .bad :: .bad :: .bad :: .bad :: .bad :: .i .i64 ((x.map insV).length : Nat) :: .i .i64 (i : Nat) :: List.replicate 12 .bad

theorem take_succ_eq {α : Type} {x y : List α} {i : Nat} {a b : α} (ha : x[i]? = some a) (hb : y[i]? = some b) (h : x.take i = y.take i) (hab : a = b) : x.take (i + 1) = y.take (i + 1) := by
  rw [List.take_add_one, List.take_add_one, h, ha, hb, hab]
theorem ne_of_get {α : Type} {x y : List α} {i : Nat} {a b : α} (ha : x[i]? = some a) (hb : y[i]? = some b) (hab : a ≠ b) : x ≠ y := fun h => by
  subst h; rw [ha] at hb; exact hab (Option.some.inj hb)

theorem eq_den (x y : Kd) (hl : x.length ≤ maxLen) : PDen gt0 Tryd.prog 39 [kV x, kV y] (.b (decide (x = y))) := by
  generalize hB : decide (x = y) = B
  refine PDen.hc gnm0 hF39 (nm2 (kV_nm _) (kV_nm _)) (.b _) ?_
  have hlx : (x.map insV).length = x.length := List.length_map ..
  have hly : (y.map insV).length = y.length := List.length_map ..
  conv => whnf
  repeat ((first | refine HC.seq ?_ | refine HC.ops ?_ | refine HO.k ?_ | refine HO.g ?_ | refine HO.nil ?_ | refine HC.drw mixed ?_ | refine HD.k ?_ | refine HD.g ?_ | refine HD.nil ?_ | refine HC.blk ?_ | refine HC.cond ?_ | refine HC.skip ?_ | refine HC.exit ?_ | refine HC.ret ?_ | rw [fL_eq]); conv => whnf)
  refine brB_iff.2 ⟨fun h => ?_, fun h => ?_⟩ <;> conv => whnf
  · repeat ((first | refine HC.seq ?_ | refine HC.ops ?_ | refine HO.k ?_ | refine HO.g ?_ | refine HO.nil ?_ | refine HC.drw mixed ?_ | refine HD.k ?_ | refine HD.g ?_ | refine HD.nil ?_ | refine HC.blk ?_ | refine HC.cond ?_ | refine HC.skip ?_ | refine HC.exit ?_ | refine HC.ret ?_ | rw [fL_eq]); conv => whnf)
    have h1 : x ≠ y := fun e => by subst e; simp [eqZ_eq] at h
    rw [← hB, decide_eq_false h1]
  · have hxy : x.length = y.length := by simp [eqZ_eq] at h; omega
    repeat ((first | refine HC.seq ?_ | refine HC.ops ?_ | refine HO.k ?_ | refine HO.g ?_ | refine HO.nil ?_ | refine HC.drw mixed ?_ | refine HD.k ?_ | refine HD.g ?_ | refine HD.nil ?_ | refine HC.blk ?_ | refine HC.cond ?_ | refine HC.skip ?_ | refine HC.exit ?_ | refine HC.ret ?_ | rw [fL_eq]); conv => whnf)
    refine HC.loop gnm0 fun hg => ⟨fun n e s => s = s0 ∧ ∃ i : Nat, i ≤ x.length ∧ n = x.length - i ∧ e = EQ x y i ∧ x.take i = y.take i, ⟨x.length, fg [0, 1, 12, 13] _, _, Wk.fg hg.1 hg.2, rfl, 0, Nat.zero_le _, rfl, rfl, rfl⟩, ?_⟩
    rintro n e s ⟨rfl, i, hi, rfl, rfl, ht⟩
    conv => whnf
    repeat ((first | refine HC.seq ?_ | refine HC.ops ?_ | refine HO.k ?_ | refine HO.g ?_ | refine HO.nil ?_ | refine HC.drw mixed ?_ | refine HD.k ?_ | refine HD.g ?_ | refine HD.nil ?_ | refine HC.blk ?_ | refine HC.cond ?_ | refine HC.skip ?_ | refine HC.exit ?_ | refine HC.ret ?_ | rw [fL_eq]); conv => whnf)
    refine brB_iff.2 ⟨fun h1 => ?_, fun h1 => ?_⟩ <;> conv => whnf
    · have hlt : i < x.length := by rw [ltZ_eq] at h1; simpa using h1
      have hmx : (x.map insV)[((i : Nat) : Int).toNat]? = some (insV x[i]) := by simp [hlt]
      have hmy : (y.map insV)[((i : Nat) : Int).toNat]? = some (insV (y[i]'(hxy ▸ hlt))) := by simp [hxy ▸ hlt]
      have hgx : x[i]? = some x[i] := by simp [hlt]
      have hgy : y[i]? = some (y[i]'(hxy ▸ hlt)) := by simp [hxy ▸ hlt]
      generalize x[i] = a at hmx hgx
      generalize y[i]'(hxy ▸ hlt) = b at hmy hgy
      repeat ((first | refine HC.seq ?_ | refine HC.ops ?_ | refine HO.k ?_ | refine HO.g ?_ | refine HO.nil ?_ | refine HC.drw mixed ?_ | refine HD.k ?_ | refine HD.g ?_ | refine HD.nil ?_ | refine HC.blk ?_ | refine HC.cond ?_ | refine HC.skip ?_ | refine HC.exit ?_ | refine HC.ret ?_ | rw [fL_eq]); conv => whnf)
      refine ⟨rfl, Int.natCast_nonneg _, _, hmx, ?_⟩
      conv => whnf
      repeat ((first | refine HC.seq ?_ | refine HC.ops ?_ | refine HO.k ?_ | refine HO.g ?_ | refine HO.nil ?_ | refine HC.drw mixed ?_ | refine HD.k ?_ | refine HD.g ?_ | refine HD.nil ?_ | refine HC.blk ?_ | refine HC.cond ?_ | refine HC.skip ?_ | refine HC.exit ?_ | refine HC.ret ?_ | rw [fL_eq]); conv => whnf)
      refine ⟨rfl, Int.natCast_nonneg _, _, hmy, ?_⟩
      conv => whnf
      repeat ((first | refine HC.seq ?_ | refine HC.ops ?_ | refine HO.k ?_ | refine HO.g ?_ | refine HO.nil ?_ | refine HC.drw mixed ?_ | refine HD.k ?_ | refine HD.g ?_ | refine HD.nil ?_ | refine HC.blk ?_ | refine HC.cond ?_ | refine HC.skip ?_ | refine HC.exit ?_ | refine HC.ret ?_ | rw [fL_eq]); conv => whnf)
      refine brB_iff.2 ⟨fun h2 => ?_, fun h2 => ?_⟩ <;> conv => whnf
      · repeat ((first | refine HC.seq ?_ | refine HC.ops ?_ | refine HO.k ?_ | refine HO.g ?_ | refine HO.nil ?_ | refine HC.drw mixed ?_ | refine HD.k ?_ | refine HD.g ?_ | refine HD.nil ?_ | refine HC.blk ?_ | refine HC.cond ?_ | refine HC.skip ?_ | refine HC.exit ?_ | refine HC.ret ?_ | rw [fL_eq]); conv => whnf)
        have h1 : x ≠ y := ne_of_get hgx hgy (fun e => by subst e; simp [eqZ_eq] at h2)
        rw [← hB, decide_eq_false h1]
      · repeat ((first | refine HC.seq ?_ | refine HC.ops ?_ | refine HO.k ?_ | refine HO.g ?_ | refine HO.nil ?_ | refine HC.drw mixed ?_ | refine HD.k ?_ | refine HD.g ?_ | refine HD.nil ?_ | refine HC.blk ?_ | refine HC.cond ?_ | refine HC.skip ?_ | refine HC.exit ?_ | refine HC.ret ?_ | rw [fL_eq]); conv => whnf)
        have hab : a = b := by simpa [eqZ_eq, Prod.ext_iff] using h2
        rw [wrap_succ hlt hl]
        intro hg'
        exact ⟨x.length - (i + 1), fg [0, 1, 12, 13] _, _, by omega, Wk.fg hg'.1 hg'.2, rfl, i + 1, hlt, rfl, rfl, take_succ_eq hgx hgy ht hab⟩
    · have hge : x.length ≤ i := by rw [ltZ_eq] at h1; simpa using h1
      repeat ((first | refine HC.seq ?_ | refine HC.ops ?_ | refine HO.k ?_ | refine HO.g ?_ | refine HO.nil ?_ | refine HC.drw mixed ?_ | refine HD.k ?_ | refine HD.g ?_ | refine HD.nil ?_ | refine HC.blk ?_ | refine HC.cond ?_ | refine HC.skip ?_ | refine HC.exit ?_ | refine HC.ret ?_ | rw [fL_eq]); conv => whnf)
      rw [List.take_of_length_le hge, List.take_of_length_le (by omega)] at ht
      rw [← hB, decide_eq_true ht]

/-- slices.EqualFunc at programs' kinds -/
def EF (x y : List Kd) (i : Nat) : List V := ksV x :: ksV y :: .fn 39 [] :: .bad :: .bad :: .bad :: .bad :: .bad :: .bad :: .bad :: .bad :: .bad :: .bad :: .bad :: .bad :: ksV x :: .i .i64 ((x.map kV).length : Nat) :: .i .i64 (i : Nat) :: List.replicate 14 .bad

theorem ef_den (x y : List Kd) (hl : x.length ≤ maxLen) (hk : ∀ k ∈ x, k.length ≤ maxLen) : PDen gt0 Tryd.prog 38 [ksV x, ksV y, .fn 39 []] (.b (decide (x = y))) := by
  generalize hB : decide (x = y) = B
  refine PDen.hc gnm0 hF38 (fun v hv => ?_) (.b _) ?_
  · simp only [List.mem_cons, List.not_mem_nil, or_false] at hv
    rcases hv with rfl | rfl | rfl
    · exact ksV_nm _
    · exact ksV_nm _
    · exact .fn _ _ (fun x hx => by simp at hx)
  have hlx : (x.map kV).length = x.length := List.length_map ..
  have hly : (y.map kV).length = y.length := List.length_map ..
  conv => whnf
  repeat ((first | refine HC.seq ?_ | refine HC.ops ?_ | refine HO.k ?_ | refine HO.g ?_ | refine HO.nil ?_ | refine HC.drw mixed ?_ | refine HD.k ?_ | refine HD.g ?_ | refine HD.nil ?_ | refine HC.blk ?_ | refine HC.cond ?_ | refine HC.skip ?_ | refine HC.exit ?_ | refine HC.ret ?_ | rw [fL_eq]); conv => whnf)
  refine brB_iff.2 ⟨fun h => ?_, fun h => ?_⟩ <;> conv => whnf
  · repeat ((first | refine HC.seq ?_ | refine HC.ops ?_ | refine HO.k ?_ | refine HO.g ?_ | refine HO.nil ?_ | refine HC.drw mixed ?_ | refine HD.k ?_ | refine HD.g ?_ | refine HD.nil ?_ | refine HC.blk ?_ | refine HC.cond ?_ | refine HC.skip ?_ | refine HC.exit ?_ | refine HC.ret ?_ | rw [fL_eq]); conv => whnf)
    have h1 : x ≠ y := fun e => by subst e; simp [eqZ_eq] at h
    rw [← hB, decide_eq_false h1]
  · have hxy : x.length = y.length := by simp [eqZ_eq] at h; omega
    repeat ((first | refine HC.seq ?_ | refine HC.ops ?_ | refine HO.k ?_ | refine HO.g ?_ | refine HO.nil ?_ | refine HC.drw mixed ?_ | refine HD.k ?_ | refine HD.g ?_ | refine HD.nil ?_ | refine HC.blk ?_ | refine HC.cond ?_ | refine HC.skip ?_ | refine HC.exit ?_ | refine HC.ret ?_ | rw [fL_eq]); conv => whnf)
    refine HC.loop gnm0 fun hg => ⟨fun n e s => s = s0 ∧ ∃ i : Nat, i ≤ x.length ∧ n = x.length - i ∧ e = EF x y i ∧ x.take i = y.take i, ⟨x.length, fg [0, 1, 2, 15, 16, 17] _, _, Wk.fg hg.1 hg.2, rfl, 0, Nat.zero_le _, rfl, rfl, rfl⟩, ?_⟩
    rintro n e s ⟨rfl, i, hi, rfl, rfl, ht⟩
    conv => whnf
    repeat ((first | refine HC.seq ?_ | refine HC.ops ?_ | refine HO.k ?_ | refine HO.g ?_ | refine HO.nil ?_ | refine HC.drw mixed ?_ | refine HD.k ?_ | refine HD.g ?_ | refine HD.nil ?_ | refine HC.blk ?_ | refine HC.cond ?_ | refine HC.skip ?_ | refine HC.exit ?_ | refine HC.ret ?_ | rw [fL_eq]); conv => whnf)
    refine brB_iff.2 ⟨fun h1 => ?_, fun h1 => ?_⟩ <;> conv => whnf
    · have hlt : i < x.length := by rw [ltZ_eq] at h1; simpa using h1
      have hmx : (x.map kV)[((i : Nat) : Int).toNat]? = some (kV x[i]) := by simp [hlt]
      have hmy : (y.map kV)[((i : Nat) : Int).toNat]? = some (kV (y[i]'(hxy ▸ hlt))) := by simp [hxy ▸ hlt]
      have hgx : x[i]? = some x[i] := by simp [hlt]
      have hgy : y[i]? = some (y[i]'(hxy ▸ hlt)) := by simp [hxy ▸ hlt]
      have hkl := hk x[i] (List.getElem_mem hlt)
      generalize x[i] = a at hmx hgx hkl
      generalize y[i]'(hxy ▸ hlt) = b at hmy hgy
      repeat ((first | refine HC.seq ?_ | refine HC.ops ?_ | refine HO.k ?_ | refine HO.g ?_ | refine HO.nil ?_ | refine HC.drw mixed ?_ | refine HD.k ?_ | refine HD.g ?_ | refine HD.nil ?_ | refine HC.blk ?_ | refine HC.cond ?_ | refine HC.skip ?_ | refine HC.exit ?_ | refine HC.ret ?_ | rw [fL_eq]); conv => whnf)
      refine ⟨rfl, Int.natCast_nonneg _, _, hmx, ?_⟩
      conv => whnf
      repeat ((first | refine HC.seq ?_ | refine HC.ops ?_ | refine HO.k ?_ | refine HO.g ?_ | refine HO.nil ?_ | refine HC.drw mixed ?_ | refine HD.k ?_ | refine HD.g ?_ | refine HD.nil ?_ | refine HC.blk ?_ | refine HC.cond ?_ | refine HC.skip ?_ | refine HC.exit ?_ | refine HC.ret ?_ | rw [fL_eq]); conv => whnf)
      refine ⟨rfl, Int.natCast_nonneg _, _, hmy, ?_⟩
      conv => whnf
      repeat ((first | refine HC.seq ?_ | refine HC.ops ?_ | refine HO.k ?_ | refine HO.g ?_ | refine HO.nil ?_ | refine HC.drw mixed ?_ | refine HD.k ?_ | refine HD.g ?_ | refine HD.nil ?_ | refine HC.blk ?_ | refine HC.cond ?_ | refine HC.skip ?_ | refine HC.exit ?_ | refine HC.ret ?_ | rw [fL_eq]); conv => whnf)
      refine ⟨rfl, _, _, eq_den a b hkl _, ?_⟩
      conv => whnf
      repeat ((first | refine HC.seq ?_ | refine HC.ops ?_ | refine HO.k ?_ | refine HO.g ?_ | refine HO.nil ?_ | refine HC.drw mixed ?_ | refine HD.k ?_ | refine HD.g ?_ | refine HD.nil ?_ | refine HC.blk ?_ | refine HC.cond ?_ | refine HC.skip ?_ | refine HC.exit ?_ | refine HC.ret ?_ | rw [fL_eq]); conv => whnf)
      refine brB_iff.2 ⟨fun h2 => ?_, fun h2 => ?_⟩ <;> conv => whnf
      · repeat ((first | refine HC.seq ?_ | refine HC.ops ?_ | refine HO.k ?_ | refine HO.g ?_ | refine HO.nil ?_ | refine HC.drw mixed ?_ | refine HD.k ?_ | refine HD.g ?_ | refine HD.nil ?_ | refine HC.blk ?_ | refine HC.cond ?_ | refine HC.skip ?_ | refine HC.exit ?_ | refine HC.ret ?_ | rw [fL_eq]); conv => whnf)
        have h1 : x ≠ y := ne_of_get hgx hgy (by simpa using h2)
        rw [← hB, decide_eq_false h1]
      · repeat ((first | refine HC.seq ?_ | refine HC.ops ?_ | refine HO.k ?_ | refine HO.g ?_ | refine HO.nil ?_ | refine HC.drw mixed ?_ | refine HD.k ?_ | refine HD.g ?_ | refine HD.nil ?_ | refine HC.blk ?_ | refine HC.cond ?_ | refine HC.skip ?_ | refine HC.exit ?_ | refine HC.ret ?_ | rw [fL_eq]); conv => whnf)
        have hab : a = b := by simpa using h2
        rw [wrap_succ hlt hl]
        intro hg'
        exact ⟨x.length - (i + 1), fg [0, 1, 2, 15, 16, 17] _, _, by omega, Wk.fg hg'.1 hg'.2, rfl, i + 1, hlt, rfl, rfl, take_succ_eq hgx hgy ht hab⟩
    · have hge : x.length ≤ i := by rw [ltZ_eq] at h1; simpa using h1
      repeat ((first | refine HC.seq ?_ | refine HC.ops ?_ | refine HO.k ?_ | refine HO.g ?_ | refine HO.nil ?_ | refine HC.drw mixed ?_ | refine HD.k ?_ | refine HD.g ?_ | refine HD.nil ?_ | refine HC.blk ?_ | refine HC.cond ?_ | refine HC.skip ?_ | refine HC.exit ?_ | refine HC.ret ?_ | rw [fL_eq]); conv => whnf)
      rw [List.take_of_length_le hge, List.take_of_length_le (by omega)] at ht
      rw [← hB, decide_eq_true ht]

/-- code.Same -/
theorem same_den (v w : Int) (x y : List Kd) (hl : x.length ≤ maxLen) (hk : ∀ k ∈ x, k.length ≤ maxLen) : PDen gt0 Tryd.prog 20 [pgV v x, pgV w y] (.b (decide (v = w ∧ x = y))) := by
  refine PDen.hc gnm0 hF20 (nm2 (pgV_nm _ _) (pgV_nm _ _)) (.b _) ?_
  conv => whnf
  repeat' (first | ((first | refine HC.seq ?_ | refine HC.ops ?_ | refine HO.k ?_ | refine HO.g ?_ | refine HO.nil ?_ | refine HC.drw mixed ?_ | refine HD.k ?_ | refine HD.g ?_ | refine HD.nil ?_ | refine HC.blk ?_ | refine HC.cond ?_ | refine HC.skip ?_ | refine HC.exit ?_ | refine HC.ret ?_ | rw [fL_eq] | refine HC.ret ?_ | refine ⟨_, _, ef_den x y hl hk _, ?_⟩); conv => whnf) | (refine brB_iff.2 ⟨fun hc => ?_, fun hc => ?_⟩ <;> conv => whnf))
  all_goals
    simp_all [eqZ_eq]

/-- how much a program is -/
def much (ks : List Kd) : Bool := decide (12 < ks.length) || ks.any fun k => decide (200 < k.length)
def EMu (v : Int) (ks : List Kd) (i : Nat) : List V := .bad :: .q (pgV v ks) 0 :: .b false :: .i .i64 (i : Nat) :: List.replicate 18 .bad

theorem much_den (v : Int) (ks : List Kd) (hl : ks.length ≤ maxLen) : PDen gt0 Tryd.prog 19 [pgV v ks] (.b (much ks)) := by
  generalize hB : much ks = B
  refine PDen.hc gnm0 hF19 (nm1 (pgV_nm _ _)) (.b _) ?_
  have hlx : (ks.map kV).length = ks.length := List.length_map ..
  conv => whnf
  repeat ((first | refine HC.seq ?_ | refine HC.ops ?_ | refine HO.k ?_ | refine HO.g ?_ | refine HO.nil ?_ | refine HC.drw mixed ?_ | refine HD.k ?_ | refine HD.g ?_ | refine HD.nil ?_ | refine HC.blk ?_ | refine HC.cond ?_ | refine HC.skip ?_ | refine HC.exit ?_ | refine HC.ret ?_ | rw [fL_eq]); conv => whnf)
  refine brB_iff.2 ⟨fun h => ?_, fun h => ?_⟩ <;> conv => whnf
  · repeat ((first | refine HC.seq ?_ | refine HC.ops ?_ | refine HO.k ?_ | refine HO.g ?_ | refine HO.nil ?_ | refine HC.drw mixed ?_ | refine HD.k ?_ | refine HD.g ?_ | refine HD.nil ?_ | refine HC.blk ?_ | refine HC.cond ?_ | refine HC.skip ?_ | refine HC.exit ?_ | refine HC.ret ?_ | rw [fL_eq]); conv => whnf)
    have : 12 < ks.length := by rw [ltZ_eq] at h; simp at h; omega
    rw [← hB]; simp [much, this]
  · have h12 : ¬ 12 < ks.length := by rw [ltZ_eq] at h; simp at h; omega
    repeat ((first | refine HC.seq ?_ | refine HC.ops ?_ | refine HO.k ?_ | refine HO.g ?_ | refine HO.nil ?_ | refine HC.drw mixed ?_ | refine HD.k ?_ | refine HD.g ?_ | refine HD.nil ?_ | refine HC.blk ?_ | refine HC.cond ?_ | refine HC.skip ?_ | refine HC.exit ?_ | refine HC.ret ?_ | rw [fL_eq]); conv => whnf)
    refine HC.loop gnm0 fun hg => ⟨fun n e s => s = s0 ∧ ∃ i : Nat, i ≤ ks.length ∧ n = ks.length - i ∧ e = EMu v ks i ∧ ∀ k ∈ ks.take i, ¬ 200 < k.length, ⟨ks.length, fg [1, 2, 3] _, _, Wk.fg hg.1 hg.2, rfl, 0, Nat.zero_le _, rfl, rfl, fun k hk => by simp at hk⟩, ?_⟩
    rintro n e s ⟨rfl, i, hi, rfl, rfl, ht⟩
    conv => whnf
    repeat ((first | refine HC.seq ?_ | refine HC.ops ?_ | refine HO.k ?_ | refine HO.g ?_ | refine HO.nil ?_ | refine HC.drw mixed ?_ | refine HD.k ?_ | refine HD.g ?_ | refine HD.nil ?_ | refine HC.blk ?_ | refine HC.cond ?_ | refine HC.skip ?_ | refine HC.exit ?_ | refine HC.ret ?_ | rw [fL_eq]); conv => whnf)
    refine brB_iff.2 ⟨fun h1 => ?_, fun h1 => ?_⟩ <;> conv => whnf
    · have hlt : i < ks.length := by rw [ltZ_eq] at h1; simpa using h1
      have hmx : (ks.map kV)[((i : Nat) : Int).toNat]? = some (kV ks[i]) := by simp [hlt]
      have hgx : ks[i]? = some ks[i] := by simp [hlt]
      generalize ks[i] = a at hmx hgx
      repeat ((first | refine HC.seq ?_ | refine HC.ops ?_ | refine HO.k ?_ | refine HO.g ?_ | refine HO.nil ?_ | refine HC.drw mixed ?_ | refine HD.k ?_ | refine HD.g ?_ | refine HD.nil ?_ | refine HC.blk ?_ | refine HC.cond ?_ | refine HC.skip ?_ | refine HC.exit ?_ | refine HC.ret ?_ | rw [fL_eq]); conv => whnf)
      refine ⟨rfl, Int.natCast_nonneg _, _, hmx, ?_⟩
      conv => whnf
      repeat ((first | refine HC.seq ?_ | refine HC.ops ?_ | refine HO.k ?_ | refine HO.g ?_ | refine HO.nil ?_ | refine HC.drw mixed ?_ | refine HD.k ?_ | refine HD.g ?_ | refine HD.nil ?_ | refine HC.blk ?_ | refine HC.cond ?_ | refine HC.skip ?_ | refine HC.exit ?_ | refine HC.ret ?_ | rw [fL_eq]); conv => whnf)
      refine brB_iff.2 ⟨fun h2 => ?_, fun h2 => ?_⟩ <;> conv => whnf
      · repeat ((first | refine HC.seq ?_ | refine HC.ops ?_ | refine HO.k ?_ | refine HO.g ?_ | refine HO.nil ?_ | refine HC.drw mixed ?_ | refine HD.k ?_ | refine HD.g ?_ | refine HD.nil ?_ | refine HC.blk ?_ | refine HC.cond ?_ | refine HC.skip ?_ | refine HC.exit ?_ | refine HC.ret ?_ | rw [fL_eq]); conv => whnf)
        have h3 : 200 < a.length := by rw [ltZ_eq] at h2; simp at h2; omega
        rw [← hB]
        have : ks.any (fun k => decide (200 < k.length)) = true := List.any_eq_true.2 ⟨a, List.mem_of_getElem? hgx, by simpa using h3⟩
        simp [much, this]
      · repeat ((first | refine HC.seq ?_ | refine HC.ops ?_ | refine HO.k ?_ | refine HO.g ?_ | refine HO.nil ?_ | refine HC.drw mixed ?_ | refine HD.k ?_ | refine HD.g ?_ | refine HD.nil ?_ | refine HC.blk ?_ | refine HC.cond ?_ | refine HC.skip ?_ | refine HC.exit ?_ | refine HC.ret ?_ | rw [fL_eq]); conv => whnf)
        have h3 : ¬ 200 < a.length := by rw [ltZ_eq] at h2; simp at h2; omega
        rw [wrap_succ hlt hl]
        intro hg'
        refine ⟨ks.length - (i + 1), fg [1, 2, 3] _, _, by omega, Wk.fg hg'.1 hg'.2, rfl, i + 1, hlt, rfl, rfl, fun k hk => ?_⟩
        rw [List.take_add_one, hgx] at hk
        rcases List.mem_append.1 hk with hk | hk
        · exact ht k hk
        · simp at hk; subst hk; exact h3
    · have hge : ks.length ≤ i := by rw [ltZ_eq] at h1; simpa using h1
      repeat ((first | refine HC.seq ?_ | refine HC.ops ?_ | refine HO.k ?_ | refine HO.g ?_ | refine HO.nil ?_ | refine HC.drw mixed ?_ | refine HD.k ?_ | refine HD.g ?_ | refine HD.nil ?_ | refine HC.blk ?_ | refine HC.cond ?_ | refine HC.skip ?_ | refine HC.exit ?_ | refine HC.ret ?_ | rw [fL_eq]); conv => whnf)
      rw [List.take_of_length_le hge] at ht
      rw [← hB]
      have : ks.any (fun k => decide (200 < k.length)) = false := List.any_eq_false.2 fun k hk => by simpa using ht k hk
      simp [much, this, h12]

/-- the document's Same -/
def ES (v w : Int) (x y : List Kd) (i : Nat) : List V := .bad :: .bad :: .q (pgV v x) 0 :: .q (pgV w y) 0 :: .b false :: .i .i64 (i : Nat) :: List.replicate 62 .bad
def ES2 (v w : Int) (x y : List Kd) (i k : Nat) : List V := .bad :: .bad :: .q (pgV v x) 0 :: .q (pgV w y) 0 :: .b false :: .i .i64 (i : Nat) :: .i .i64 (k : Nat) :: List.replicate 61 .bad

set_option maxHeartbeats 2000000 in
theorem rsame_den (v w : Int) (x y : List Kd) (hl : x.length ≤ maxLen) (hk : ∀ k ∈ x, k.length ≤ maxLen) : PDen gt0 Tryd.prog 17 [pgV v x, pgV w y] (.b (decide (v = w ∧ x = y))) := by
  generalize hB : decide (v = w ∧ x = y) = B
  refine PDen.hc gnm0 hF17 (nm2 (pgV_nm _ _) (pgV_nm _ _)) (.b _) ?_
  have hlx : (x.map kV).length = x.length := List.length_map ..
  have hly : (y.map kV).length = y.length := List.length_map ..
  have out : ¬ (v = w ∧ x = y) → V.b false = V.b B := fun h => by rw [← hB, decide_eq_false h]
  conv => whnf
  repeat ((first | refine HC.seq ?_ | refine HC.ops ?_ | refine HO.k ?_ | refine HO.g ?_ | refine HO.nil ?_ | refine HC.drw mixed ?_ | refine HD.k ?_ | refine HD.g ?_ | refine HD.nil ?_ | refine HC.blk ?_ | refine HC.cond ?_ | refine HC.skip ?_ | refine HC.exit ?_ | refine HC.ret ?_ | rw [fL_eq]); conv => whnf)
  refine brB_iff.2 ⟨fun h => ?_, fun h => ?_⟩ <;> conv => whnf
  · repeat ((first | refine HC.seq ?_ | refine HC.ops ?_ | refine HO.k ?_ | refine HO.g ?_ | refine HO.nil ?_ | refine HC.drw mixed ?_ | refine HD.k ?_ | refine HD.g ?_ | refine HD.nil ?_ | refine HC.blk ?_ | refine HC.cond ?_ | refine HC.skip ?_ | refine HC.exit ?_ | refine HC.ret ?_ | rw [fL_eq]); conv => whnf)
    exact out fun e => by simp [eqZ_eq, e.1] at h
  · have hvw : v = w := by simpa [eqZ_eq] using h
    repeat ((first | refine HC.seq ?_ | refine HC.ops ?_ | refine HO.k ?_ | refine HO.g ?_ | refine HO.nil ?_ | refine HC.drw mixed ?_ | refine HD.k ?_ | refine HD.g ?_ | refine HD.nil ?_ | refine HC.blk ?_ | refine HC.cond ?_ | refine HC.skip ?_ | refine HC.exit ?_ | refine HC.ret ?_ | rw [fL_eq]); conv => whnf)
    refine brB_iff.2 ⟨fun h => ?_, fun h => ?_⟩ <;> conv => whnf
    · repeat ((first | refine HC.seq ?_ | refine HC.ops ?_ | refine HO.k ?_ | refine HO.g ?_ | refine HO.nil ?_ | refine HC.drw mixed ?_ | refine HD.k ?_ | refine HD.g ?_ | refine HD.nil ?_ | refine HC.blk ?_ | refine HC.cond ?_ | refine HC.skip ?_ | refine HC.exit ?_ | refine HC.ret ?_ | rw [fL_eq]); conv => whnf)
      exact out fun e => by simp [eqZ_eq, e.2] at h
    · have hxy : x.length = y.length := by simp [eqZ_eq] at h; omega
      repeat ((first | refine HC.seq ?_ | refine HC.ops ?_ | refine HO.k ?_ | refine HO.g ?_ | refine HO.nil ?_ | refine HC.drw mixed ?_ | refine HD.k ?_ | refine HD.g ?_ | refine HD.nil ?_ | refine HC.blk ?_ | refine HC.cond ?_ | refine HC.skip ?_ | refine HC.exit ?_ | refine HC.ret ?_ | rw [fL_eq]); conv => whnf)
      refine HC.loop gnm0 fun hg => ⟨fun n e s => s = s0 ∧ ∃ i : Nat, i ≤ x.length ∧ n = x.length - i ∧ e = ES v w x y i ∧ x.take i = y.take i, ⟨x.length, fg [2, 3, 4, 5] _, _, Wk.fg hg.1 hg.2, rfl, 0, Nat.zero_le _, rfl, rfl, rfl⟩, ?_⟩
      rintro n e s ⟨rfl, i, hi, rfl, rfl, ht⟩
      conv => whnf
      repeat ((first | refine HC.seq ?_ | refine HC.ops ?_ | refine HO.k ?_ | refine HO.g ?_ | refine HO.nil ?_ | refine HC.drw mixed ?_ | refine HD.k ?_ | refine HD.g ?_ | refine HD.nil ?_ | refine HC.blk ?_ | refine HC.cond ?_ | refine HC.skip ?_ | refine HC.exit ?_ | refine HC.ret ?_ | rw [fL_eq]); conv => whnf)
      refine brB_iff.2 ⟨fun h1 => ?_, fun h1 => ?_⟩ <;> conv => whnf
      · have hlt : i < x.length := by rw [ltZ_eq] at h1; simpa using h1
        have hmx : (x.map kV)[((i : Nat) : Int).toNat]? = some (kV x[i]) := by simp [hlt]
        have hmy : (y.map kV)[((i : Nat) : Int).toNat]? = some (kV (y[i]'(hxy ▸ hlt))) := by simp [hxy ▸ hlt]
        have hgx : x[i]? = some x[i] := by simp [hlt]
        have hgy : y[i]? = some (y[i]'(hxy ▸ hlt)) := by simp [hxy ▸ hlt]
        have hkl := hk x[i] (List.getElem_mem hlt)
        generalize x[i] = a at hmx hgx hkl
        generalize y[i]'(hxy ▸ hlt) = b at hmy hgy
        have hla : (a.map insV).length = a.length := List.length_map ..
        have hlb : (b.map insV).length = b.length := List.length_map ..
        repeat ((first | refine HC.seq ?_ | refine HC.ops ?_ | refine HO.k ?_ | refine HO.g ?_ | refine HO.nil ?_ | refine HC.drw mixed ?_ | refine HD.k ?_ | refine HD.g ?_ | refine HD.nil ?_ | refine HC.blk ?_ | refine HC.cond ?_ | refine HC.skip ?_ | refine HC.exit ?_ | refine HC.ret ?_ | rw [fL_eq]); conv => whnf)
        refine ⟨rfl, Int.natCast_nonneg _, _, hmx, ?_⟩
        conv => whnf
        repeat ((first | refine HC.seq ?_ | refine HC.ops ?_ | refine HO.k ?_ | refine HO.g ?_ | refine HO.nil ?_ | refine HC.drw mixed ?_ | refine HD.k ?_ | refine HD.g ?_ | refine HD.nil ?_ | refine HC.blk ?_ | refine HC.cond ?_ | refine HC.skip ?_ | refine HC.exit ?_ | refine HC.ret ?_ | rw [fL_eq]); conv => whnf)
        refine ⟨rfl, Int.natCast_nonneg _, _, hmy, ?_⟩
        conv => whnf
        repeat ((first | refine HC.seq ?_ | refine HC.ops ?_ | refine HO.k ?_ | refine HO.g ?_ | refine HO.nil ?_ | refine HC.drw mixed ?_ | refine HD.k ?_ | refine HD.g ?_ | refine HD.nil ?_ | refine HC.blk ?_ | refine HC.cond ?_ | refine HC.skip ?_ | refine HC.exit ?_ | refine HC.ret ?_ | rw [fL_eq]); conv => whnf)
        refine brB_iff.2 ⟨fun h => ?_, fun h => ?_⟩ <;> conv => whnf
        · repeat ((first | refine HC.seq ?_ | refine HC.ops ?_ | refine HO.k ?_ | refine HO.g ?_ | refine HO.nil ?_ | refine HC.drw mixed ?_ | refine HD.k ?_ | refine HD.g ?_ | refine HD.nil ?_ | refine HC.blk ?_ | refine HC.cond ?_ | refine HC.skip ?_ | refine HC.exit ?_ | refine HC.ret ?_ | rw [fL_eq]); conv => whnf)
          exact out fun e => (ne_of_get hgx hgy (fun e => by subst e; simp [eqZ_eq] at h)) e.2
        · have hab : a.length = b.length := by simp [eqZ_eq] at h; omega
          repeat ((first | refine HC.seq ?_ | refine HC.ops ?_ | refine HO.k ?_ | refine HO.g ?_ | refine HO.nil ?_ | refine HC.drw mixed ?_ | refine HD.k ?_ | refine HD.g ?_ | refine HD.nil ?_ | refine HC.blk ?_ | refine HC.cond ?_ | refine HC.skip ?_ | refine HC.exit ?_ | refine HC.ret ?_ | rw [fL_eq]); conv => whnf)
          refine HC.loop gnm0 fun hg => ⟨fun n e s => s = s0 ∧ ∃ k : Nat, k ≤ a.length ∧ n = a.length - k ∧ e = ES2 v w x y i k ∧ a.take k = b.take k, ⟨a.length, fg [2, 3, 4, 5, 6] _, _, Wk.fg hg.1 hg.2, rfl, 0, Nat.zero_le _, rfl, rfl, rfl⟩, ?_⟩
          rintro n e s ⟨rfl, k, hik, rfl, rfl, htk⟩
          conv => whnf
          repeat ((first | refine HC.seq ?_ | refine HC.ops ?_ | refine HO.k ?_ | refine HO.g ?_ | refine HO.nil ?_ | refine HC.drw mixed ?_ | refine HD.k ?_ | refine HD.g ?_ | refine HD.nil ?_ | refine HC.blk ?_ | refine HC.cond ?_ | refine HC.skip ?_ | refine HC.exit ?_ | refine HC.ret ?_ | rw [fL_eq]); conv => whnf)
          refine ⟨rfl, Int.natCast_nonneg _, _, hmx, ?_⟩
          conv => whnf
          repeat ((first | refine HC.seq ?_ | refine HC.ops ?_ | refine HO.k ?_ | refine HO.g ?_ | refine HO.nil ?_ | refine HC.drw mixed ?_ | refine HD.k ?_ | refine HD.g ?_ | refine HD.nil ?_ | refine HC.blk ?_ | refine HC.cond ?_ | refine HC.skip ?_ | refine HC.exit ?_ | refine HC.ret ?_ | rw [fL_eq]); conv => whnf)
          refine brB_iff.2 ⟨fun h2 => ?_, fun h2 => ?_⟩ <;> conv => whnf
          · have hltk : k < a.length := by rw [ltZ_eq] at h2; simpa using h2
            have hax : (a.map insV)[((k : Nat) : Int).toNat]? = some (insV a[k]) := by simp [hltk]
            have hay : (b.map insV)[((k : Nat) : Int).toNat]? = some (insV (b[k]'(hab ▸ hltk))) := by simp [hab ▸ hltk]
            have gax : a[k]? = some a[k] := by simp [hltk]
            have gay : b[k]? = some (b[k]'(hab ▸ hltk)) := by simp [hab ▸ hltk]
            generalize a[k] = p at hax gax
            generalize b[k]'(hab ▸ hltk) = q at hay gay
            repeat ((first | refine HC.seq ?_ | refine HC.ops ?_ | refine HO.k ?_ | refine HO.g ?_ | refine HO.nil ?_ | refine HC.drw mixed ?_ | refine HD.k ?_ | refine HD.g ?_ | refine HD.nil ?_ | refine HC.blk ?_ | refine HC.cond ?_ | refine HC.skip ?_ | refine HC.exit ?_ | refine HC.ret ?_ | rw [fL_eq]); conv => whnf)
            refine ⟨rfl, Int.natCast_nonneg _, _, hmx, ?_⟩
            conv => whnf
            repeat ((first | refine HC.seq ?_ | refine HC.ops ?_ | refine HO.k ?_ | refine HO.g ?_ | refine HO.nil ?_ | refine HC.drw mixed ?_ | refine HD.k ?_ | refine HD.g ?_ | refine HD.nil ?_ | refine HC.blk ?_ | refine HC.cond ?_ | refine HC.skip ?_ | refine HC.exit ?_ | refine HC.ret ?_ | rw [fL_eq]); conv => whnf)
            refine ⟨rfl, Int.natCast_nonneg _, _, hax, ?_⟩
            conv => whnf
            repeat ((first | refine HC.seq ?_ | refine HC.ops ?_ | refine HO.k ?_ | refine HO.g ?_ | refine HO.nil ?_ | refine HC.drw mixed ?_ | refine HD.k ?_ | refine HD.g ?_ | refine HD.nil ?_ | refine HC.blk ?_ | refine HC.cond ?_ | refine HC.skip ?_ | refine HC.exit ?_ | refine HC.ret ?_ | rw [fL_eq]); conv => whnf)
            refine ⟨rfl, Int.natCast_nonneg _, _, hmy, ?_⟩
            conv => whnf
            repeat ((first | refine HC.seq ?_ | refine HC.ops ?_ | refine HO.k ?_ | refine HO.g ?_ | refine HO.nil ?_ | refine HC.drw mixed ?_ | refine HD.k ?_ | refine HD.g ?_ | refine HD.nil ?_ | refine HC.blk ?_ | refine HC.cond ?_ | refine HC.skip ?_ | refine HC.exit ?_ | refine HC.ret ?_ | rw [fL_eq]); conv => whnf)
            refine ⟨rfl, Int.natCast_nonneg _, _, hay, ?_⟩
            conv => whnf
            repeat ((first | refine HC.seq ?_ | refine HC.ops ?_ | refine HO.k ?_ | refine HO.g ?_ | refine HO.nil ?_ | refine HC.drw mixed ?_ | refine HD.k ?_ | refine HD.g ?_ | refine HD.nil ?_ | refine HC.blk ?_ | refine HC.cond ?_ | refine HC.skip ?_ | refine HC.exit ?_ | refine HC.ret ?_ | rw [fL_eq]); conv => whnf)
            refine brB_iff.2 ⟨fun h3 => ?_, fun h3 => ?_⟩ <;> conv => whnf
            · repeat ((first | refine HC.seq ?_ | refine HC.ops ?_ | refine HO.k ?_ | refine HO.g ?_ | refine HO.nil ?_ | refine HC.drw mixed ?_ | refine HD.k ?_ | refine HD.g ?_ | refine HD.nil ?_ | refine HC.blk ?_ | refine HC.cond ?_ | refine HC.skip ?_ | refine HC.exit ?_ | refine HC.ret ?_ | rw [fL_eq]); conv => whnf)
              exact out fun e => (ne_of_get hgx hgy (ne_of_get gax gay (fun e => by subst e; simp [eqZ_eq] at h3))) e.2
            · have hpq : p = q := by simpa [eqZ_eq, Prod.ext_iff] using h3
              repeat ((first | refine HC.seq ?_ | refine HC.ops ?_ | refine HO.k ?_ | refine HO.g ?_ | refine HO.nil ?_ | refine HC.drw mixed ?_ | refine HD.k ?_ | refine HD.g ?_ | refine HD.nil ?_ | refine HC.blk ?_ | refine HC.cond ?_ | refine HC.skip ?_ | refine HC.exit ?_ | refine HC.ret ?_ | rw [fL_eq]); conv => whnf)
              rw [wrap_succ hltk hkl]
              intro hg'
              exact ⟨a.length - (k + 1), fg [2, 3, 4, 5, 6] _, _, by omega, Wk.fg hg'.1 hg'.2, rfl, k + 1, hltk, rfl, rfl, take_succ_eq gax gay htk hpq⟩
          · have hge : a.length ≤ k := by rw [ltZ_eq] at h2; simpa using h2
            rw [List.take_of_length_le hge, List.take_of_length_le (by omega)] at htk
            repeat ((first | refine HC.seq ?_ | refine HC.ops ?_ | refine HO.k ?_ | refine HO.g ?_ | refine HO.nil ?_ | refine HC.drw mixed ?_ | refine HD.k ?_ | refine HD.g ?_ | refine HD.nil ?_ | refine HC.blk ?_ | refine HC.cond ?_ | refine HC.skip ?_ | refine HC.exit ?_ | refine HC.ret ?_ | rw [fL_eq]); conv => whnf)
            rw [wrap_succ hlt hl]
            intro hg'
            exact ⟨x.length - (i + 1), fg [2, 3, 4, 5] _, _, by omega, Wk.fg hg'.1 hg'.2, rfl, i + 1, hlt, rfl, rfl, take_succ_eq hgx hgy ht htk⟩
      · have hge : x.length ≤ i := by rw [ltZ_eq] at h1; simpa using h1
        rw [List.take_of_length_le hge, List.take_of_length_le (by omega)] at ht
        repeat ((first | refine HC.seq ?_ | refine HC.ops ?_ | refine HO.k ?_ | refine HO.g ?_ | refine HO.nil ?_ | refine HC.drw mixed ?_ | refine HD.k ?_ | refine HD.g ?_ | refine HD.nil ?_ | refine HC.blk ?_ | refine HC.cond ?_ | refine HC.skip ?_ | refine HC.exit ?_ | refine HC.ret ?_ | rw [fL_eq]); conv => whnf)
        rw [← hB, decide_eq_true ⟨hvw, ht⟩]
end Go.Proofs.YtbeoanbhnlahpaaDoor
