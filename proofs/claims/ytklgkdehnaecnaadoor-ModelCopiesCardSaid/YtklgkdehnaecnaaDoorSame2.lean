/-
  Contracts: which numbers, events, processes, models and states are the same. No statement stands here.
-/
import Derived.Test.YtklgkdehnaecnaaDoorSame
set_option linter.all false
namespace Go.Proofs.YtklgkdehnaecnaaDoor
open Go Rf
set_option maxRecDepth 100000
set_option maxHeartbeats 1000000

def iV (n : Int) : V := .i .i64 n
abbrev Ev := Int × Int × Int × Int × Int × Int
def evV (e : Ev) : V := .ag [.i .i64 e.1, .i .i64 e.2.1, .i .i64 e.2.2.1, .i .i64 e.2.2.2.1, .i .i64 e.2.2.2.2.1, .i .i64 e.2.2.2.2.2]
def vsV (l : List Int) : V := .pu 1 (l.map iV) .u
def fsV (l : List Ev) : V := .pu 6 (l.map evV) .u
/-- a process: its program's variables and kinds, its variables, its seed -/
abbrev Pr := (Int × List Kd) × List Int × Int
def prV (p : Pr) : V := .ag [.i .i64 p.1.1, ksV p.1.2, vsV p.2.1, .i .i64 p.2.2]
def psV (l : List Pr) : V := .pu 4 (l.map prV) .u
def mV (ps : List Pr) (fs : List Ev) : V := .ag [psV ps, fsV fs]
def stV (vs : List Int) (a b : Int) : V := .ag [vsV vs, .i .i64 a, .i .i64 b]
theorem iV_nm {L : Nat → Prop} (x : Int) : Nm L (iV x) := .i _ _
theorem evV_nm {L : Nat → Prop} (x : Ev) : Nm L (evV x) := .ag _ (fun v hv => by
  simp only [List.mem_cons, List.not_mem_nil, or_false] at hv
  rcases hv with rfl | rfl | rfl | rfl | rfl | rfl <;> exact .i _ _)
theorem vsV_nm {L : Nat → Prop} (k : List Int) : Nm L (vsV k) := .pu _ _ _ (fun v hv => by
  obtain ⟨x, -, rfl⟩ := List.mem_map.1 hv; exact iV_nm x) (fun k hk => by cases hk)
theorem fsV_nm {L : Nat → Prop} (k : List Ev) : Nm L (fsV k) := .pu _ _ _ (fun v hv => by
  obtain ⟨x, -, rfl⟩ := List.mem_map.1 hv; exact evV_nm x) (fun k hk => by cases hk)
theorem prV_nm {L : Nat → Prop} (p : Pr) : Nm L (prV p) := .ag _ (fun v hv => by
  simp only [List.mem_cons, List.not_mem_nil, or_false] at hv
  rcases hv with rfl | rfl | rfl | rfl
  · exact .i _ _
  · exact ksV_nm _
  · exact vsV_nm _
  · exact .i _ _)
theorem psV_nm {L : Nat → Prop} (k : List Pr) : Nm L (psV k) := .pu _ _ _ (fun v hv => by
  obtain ⟨x, -, rfl⟩ := List.mem_map.1 hv; exact prV_nm x) (fun k hk => by cases hk)
theorem mV_nm {L : Nat → Prop} (ps : List Pr) (fs : List Ev) : Nm L (mV ps fs) := .ag _ (nm2 (psV_nm _) (fsV_nm _))
theorem stV_nm {L : Nat → Prop} (vs : List Int) (a b : Int) : Nm L (stV vs a b) := .ag _ (fun v hv => by
  simp only [List.mem_cons, List.not_mem_nil, or_false] at hv
  rcases hv with rfl | rfl | rfl
  · exact vsV_nm _
  · exact .i _ _
  · exact .i _ _)

def Ei26 (x y : List Int) (i : Nat) : List V := vsV x :: vsV y :: .bad :: .bad :: .bad :: .bad :: .bad :: .bad :: .bad :: .bad :: .bad :: .bad :: .i .i64 ((x.map iV).length : Nat) :: .i .i64 (i : Nat) :: List.replicate 12 .bad
theorem same26_den (x y : List Int) (hl : x.length ≤ maxLen) : PDen gt0 Tryd.prog 26 [vsV x, vsV y] (.b (decide (x = y))) := by
  generalize hB : decide (x = y) = B
  refine PDen.hc gnm0 hF26 (nm2 (vsV_nm _) (vsV_nm _)) (.b _) ?_
  have hlx : (x.map iV).length = x.length := List.length_map ..
  have hly : (y.map iV).length = y.length := List.length_map ..
  conv => whnf
  repeat ((first | refine HO.bsl1 rfl rfl rfl ?_ | refine HC.seq ?_ | refine HC.ops ?_ | refine HO.k ?_ | refine HO.g ?_ | refine HO.nil ?_ | refine HC.drw mixed ?_ | refine HD.k ?_ | refine HD.g ?_ | refine HD.nil ?_ | refine HC.blk ?_ | refine HC.cond ?_ | refine HC.skip ?_ | refine HC.exit ?_ | refine HC.ret ?_ | rw [fL_eq] | rw [fN_eq]); conv => whnf)
  refine brB_iff.2 ⟨fun h => ?_, fun h => ?_⟩ <;> conv => whnf
  · repeat ((first | refine HO.bsl1 rfl rfl rfl ?_ | refine HC.seq ?_ | refine HC.ops ?_ | refine HO.k ?_ | refine HO.g ?_ | refine HO.nil ?_ | refine HC.drw mixed ?_ | refine HD.k ?_ | refine HD.g ?_ | refine HD.nil ?_ | refine HC.blk ?_ | refine HC.cond ?_ | refine HC.skip ?_ | refine HC.exit ?_ | refine HC.ret ?_ | rw [fL_eq] | rw [fN_eq]); conv => whnf)
    have h1 : x ≠ y := fun e => by subst e; simp [eqZ_eq] at h
    rw [← hB, decide_eq_false h1]
  · have hxy : x.length = y.length := by simp [eqZ_eq] at h; omega
    repeat ((first | refine HO.bsl1 rfl rfl rfl ?_ | refine HC.seq ?_ | refine HC.ops ?_ | refine HO.k ?_ | refine HO.g ?_ | refine HO.nil ?_ | refine HC.drw mixed ?_ | refine HD.k ?_ | refine HD.g ?_ | refine HD.nil ?_ | refine HC.blk ?_ | refine HC.cond ?_ | refine HC.skip ?_ | refine HC.exit ?_ | refine HC.ret ?_ | rw [fL_eq] | rw [fN_eq]); conv => whnf)
    refine HC.loop gnm0 fun hg => ⟨fun n e s => s = s0 ∧ ∃ i : Nat, i ≤ x.length ∧ n = x.length - i ∧ e = Ei26 x y i ∧ x.take i = y.take i, ⟨x.length, fg [0, 1, 12, 13] _, _, Wk.fg hg.1 hg.2, rfl, 0, Nat.zero_le _, rfl, rfl, rfl⟩, ?_⟩
    rintro n e s ⟨rfl, i, hi, rfl, rfl, ht⟩
    conv => whnf
    repeat ((first | refine HO.bsl1 rfl rfl rfl ?_ | refine HC.seq ?_ | refine HC.ops ?_ | refine HO.k ?_ | refine HO.g ?_ | refine HO.nil ?_ | refine HC.drw mixed ?_ | refine HD.k ?_ | refine HD.g ?_ | refine HD.nil ?_ | refine HC.blk ?_ | refine HC.cond ?_ | refine HC.skip ?_ | refine HC.exit ?_ | refine HC.ret ?_ | rw [fL_eq] | rw [fN_eq]); conv => whnf)
    refine brB_iff.2 ⟨fun h1 => ?_, fun h1 => ?_⟩ <;> conv => whnf
    · have hlt : i < x.length := by rw [ltZ_eq] at h1; simp at h1; omega
      have hmx : (x.map iV)[((i : Nat) : Int).toNat]? = some (iV x[i]) := by simp [hlt]
      have hmy : (y.map iV)[((i : Nat) : Int).toNat]? = some (iV (y[i]'(hxy ▸ hlt))) := by simp [hxy ▸ hlt]
      have hgx : x[i]? = some x[i] := by simp [hlt]
      have hgy : y[i]? = some (y[i]'(hxy ▸ hlt)) := by simp [hxy ▸ hlt]
      generalize x[i] = a at hmx hgx
      generalize y[i]'(hxy ▸ hlt) = b at hmy hgy
      repeat ((first | refine HO.bsl1 rfl rfl rfl ?_ | refine HC.seq ?_ | refine HC.ops ?_ | refine HO.k ?_ | refine HO.g ?_ | refine HO.nil ?_ | refine HC.drw mixed ?_ | refine HD.k ?_ | refine HD.g ?_ | refine HD.nil ?_ | refine HC.blk ?_ | refine HC.cond ?_ | refine HC.skip ?_ | refine HC.exit ?_ | refine HC.ret ?_ | rw [fL_eq] | rw [fN_eq]); conv => whnf)
      refine ⟨rfl, Int.natCast_nonneg _, _, hmx, ?_⟩
      conv => whnf
      repeat ((first | refine HO.bsl1 rfl rfl rfl ?_ | refine HC.seq ?_ | refine HC.ops ?_ | refine HO.k ?_ | refine HO.g ?_ | refine HO.nil ?_ | refine HC.drw mixed ?_ | refine HD.k ?_ | refine HD.g ?_ | refine HD.nil ?_ | refine HC.blk ?_ | refine HC.cond ?_ | refine HC.skip ?_ | refine HC.exit ?_ | refine HC.ret ?_ | rw [fL_eq] | rw [fN_eq]); conv => whnf)
      refine ⟨rfl, Int.natCast_nonneg _, _, hmy, ?_⟩
      conv => whnf
      repeat ((first | refine HO.bsl1 rfl rfl rfl ?_ | refine HC.seq ?_ | refine HC.ops ?_ | refine HO.k ?_ | refine HO.g ?_ | refine HO.nil ?_ | refine HC.drw mixed ?_ | refine HD.k ?_ | refine HD.g ?_ | refine HD.nil ?_ | refine HC.blk ?_ | refine HC.cond ?_ | refine HC.skip ?_ | refine HC.exit ?_ | refine HC.ret ?_ | rw [fL_eq] | rw [fN_eq]); conv => whnf)
      refine brB_iff.2 ⟨fun h2 => ?_, fun h2 => ?_⟩ <;> conv => whnf
      · repeat ((first | refine HO.bsl1 rfl rfl rfl ?_ | refine HC.seq ?_ | refine HC.ops ?_ | refine HO.k ?_ | refine HO.g ?_ | refine HO.nil ?_ | refine HC.drw mixed ?_ | refine HD.k ?_ | refine HD.g ?_ | refine HD.nil ?_ | refine HC.blk ?_ | refine HC.cond ?_ | refine HC.skip ?_ | refine HC.exit ?_ | refine HC.ret ?_ | rw [fL_eq] | rw [fN_eq]); conv => whnf)
        have h1 : x ≠ y := ne_of_get hgx hgy (fun e => by subst e; simp [eqZ_eq] at h2)
        rw [← hB, decide_eq_false h1]
      · repeat ((first | refine HO.bsl1 rfl rfl rfl ?_ | refine HC.seq ?_ | refine HC.ops ?_ | refine HO.k ?_ | refine HO.g ?_ | refine HO.nil ?_ | refine HC.drw mixed ?_ | refine HD.k ?_ | refine HD.g ?_ | refine HD.nil ?_ | refine HC.blk ?_ | refine HC.cond ?_ | refine HC.skip ?_ | refine HC.exit ?_ | refine HC.ret ?_ | rw [fL_eq] | rw [fN_eq]); conv => whnf)
        have hab : a = b := by simpa [eqZ_eq, Prod.ext_iff] using h2
        rw [wrap_succ hlt hl]
        intro hg'
        exact ⟨x.length - (i + 1), fg [0, 1, 12, 13] _, _, by omega, Wk.fg hg'.1 hg'.2, rfl, i + 1, hlt, rfl, rfl, take_succ_eq hgx hgy ht hab⟩
    · have hge : x.length ≤ i := by rw [ltZ_eq] at h1; simp at h1; omega
      repeat ((first | refine HO.bsl1 rfl rfl rfl ?_ | refine HC.seq ?_ | refine HC.ops ?_ | refine HO.k ?_ | refine HO.g ?_ | refine HO.nil ?_ | refine HC.drw mixed ?_ | refine HD.k ?_ | refine HD.g ?_ | refine HD.nil ?_ | refine HC.blk ?_ | refine HC.cond ?_ | refine HC.skip ?_ | refine HC.exit ?_ | refine HC.ret ?_ | rw [fL_eq] | rw [fN_eq]); conv => whnf)
      rw [List.take_of_length_le hge, List.take_of_length_le (by omega)] at ht
      rw [← hB, decide_eq_true ht]

def Ee23 (x y : List Ev) (i : Nat) : List V := fsV x :: fsV y :: .bad :: .bad :: .bad :: .bad :: .bad :: .bad :: .bad :: .bad :: .bad :: .bad :: .i .i64 ((x.map evV).length : Nat) :: .i .i64 (i : Nat) :: List.replicate 12 .bad
theorem same23_den (x y : List Ev) (hl : x.length ≤ maxLen) : PDen gt0 Tryd.prog 23 [fsV x, fsV y] (.b (decide (x = y))) := by
  generalize hB : decide (x = y) = B
  refine PDen.hc gnm0 hF23 (nm2 (fsV_nm _) (fsV_nm _)) (.b _) ?_
  have hlx : (x.map evV).length = x.length := List.length_map ..
  have hly : (y.map evV).length = y.length := List.length_map ..
  conv => whnf
  repeat ((first | refine HO.bsl1 rfl rfl rfl ?_ | refine HC.seq ?_ | refine HC.ops ?_ | refine HO.k ?_ | refine HO.g ?_ | refine HO.nil ?_ | refine HC.drw mixed ?_ | refine HD.k ?_ | refine HD.g ?_ | refine HD.nil ?_ | refine HC.blk ?_ | refine HC.cond ?_ | refine HC.skip ?_ | refine HC.exit ?_ | refine HC.ret ?_ | rw [fL_eq] | rw [fN_eq]); conv => whnf)
  refine brB_iff.2 ⟨fun h => ?_, fun h => ?_⟩ <;> conv => whnf
  · repeat ((first | refine HO.bsl1 rfl rfl rfl ?_ | refine HC.seq ?_ | refine HC.ops ?_ | refine HO.k ?_ | refine HO.g ?_ | refine HO.nil ?_ | refine HC.drw mixed ?_ | refine HD.k ?_ | refine HD.g ?_ | refine HD.nil ?_ | refine HC.blk ?_ | refine HC.cond ?_ | refine HC.skip ?_ | refine HC.exit ?_ | refine HC.ret ?_ | rw [fL_eq] | rw [fN_eq]); conv => whnf)
    have h1 : x ≠ y := fun e => by subst e; simp [eqZ_eq] at h
    rw [← hB, decide_eq_false h1]
  · have hxy : x.length = y.length := by simp [eqZ_eq] at h; omega
    repeat ((first | refine HO.bsl1 rfl rfl rfl ?_ | refine HC.seq ?_ | refine HC.ops ?_ | refine HO.k ?_ | refine HO.g ?_ | refine HO.nil ?_ | refine HC.drw mixed ?_ | refine HD.k ?_ | refine HD.g ?_ | refine HD.nil ?_ | refine HC.blk ?_ | refine HC.cond ?_ | refine HC.skip ?_ | refine HC.exit ?_ | refine HC.ret ?_ | rw [fL_eq] | rw [fN_eq]); conv => whnf)
    refine HC.loop gnm0 fun hg => ⟨fun n e s => s = s0 ∧ ∃ i : Nat, i ≤ x.length ∧ n = x.length - i ∧ e = Ee23 x y i ∧ x.take i = y.take i, ⟨x.length, fg [0, 1, 12, 13] _, _, Wk.fg hg.1 hg.2, rfl, 0, Nat.zero_le _, rfl, rfl, rfl⟩, ?_⟩
    rintro n e s ⟨rfl, i, hi, rfl, rfl, ht⟩
    conv => whnf
    repeat ((first | refine HO.bsl1 rfl rfl rfl ?_ | refine HC.seq ?_ | refine HC.ops ?_ | refine HO.k ?_ | refine HO.g ?_ | refine HO.nil ?_ | refine HC.drw mixed ?_ | refine HD.k ?_ | refine HD.g ?_ | refine HD.nil ?_ | refine HC.blk ?_ | refine HC.cond ?_ | refine HC.skip ?_ | refine HC.exit ?_ | refine HC.ret ?_ | rw [fL_eq] | rw [fN_eq]); conv => whnf)
    refine brB_iff.2 ⟨fun h1 => ?_, fun h1 => ?_⟩ <;> conv => whnf
    · have hlt : i < x.length := by rw [ltZ_eq] at h1; simp at h1; omega
      have hmx : (x.map evV)[((i : Nat) : Int).toNat]? = some (evV x[i]) := by simp [hlt]
      have hmy : (y.map evV)[((i : Nat) : Int).toNat]? = some (evV (y[i]'(hxy ▸ hlt))) := by simp [hxy ▸ hlt]
      have hgx : x[i]? = some x[i] := by simp [hlt]
      have hgy : y[i]? = some (y[i]'(hxy ▸ hlt)) := by simp [hxy ▸ hlt]
      generalize x[i] = a at hmx hgx
      generalize y[i]'(hxy ▸ hlt) = b at hmy hgy
      repeat ((first | refine HO.bsl1 rfl rfl rfl ?_ | refine HC.seq ?_ | refine HC.ops ?_ | refine HO.k ?_ | refine HO.g ?_ | refine HO.nil ?_ | refine HC.drw mixed ?_ | refine HD.k ?_ | refine HD.g ?_ | refine HD.nil ?_ | refine HC.blk ?_ | refine HC.cond ?_ | refine HC.skip ?_ | refine HC.exit ?_ | refine HC.ret ?_ | rw [fL_eq] | rw [fN_eq]); conv => whnf)
      refine ⟨rfl, Int.natCast_nonneg _, _, hmx, ?_⟩
      conv => whnf
      repeat ((first | refine HO.bsl1 rfl rfl rfl ?_ | refine HC.seq ?_ | refine HC.ops ?_ | refine HO.k ?_ | refine HO.g ?_ | refine HO.nil ?_ | refine HC.drw mixed ?_ | refine HD.k ?_ | refine HD.g ?_ | refine HD.nil ?_ | refine HC.blk ?_ | refine HC.cond ?_ | refine HC.skip ?_ | refine HC.exit ?_ | refine HC.ret ?_ | rw [fL_eq] | rw [fN_eq]); conv => whnf)
      refine ⟨rfl, Int.natCast_nonneg _, _, hmy, ?_⟩
      conv => whnf
      repeat ((first | refine HO.bsl1 rfl rfl rfl ?_ | refine HC.seq ?_ | refine HC.ops ?_ | refine HO.k ?_ | refine HO.g ?_ | refine HO.nil ?_ | refine HC.drw mixed ?_ | refine HD.k ?_ | refine HD.g ?_ | refine HD.nil ?_ | refine HC.blk ?_ | refine HC.cond ?_ | refine HC.skip ?_ | refine HC.exit ?_ | refine HC.ret ?_ | rw [fL_eq] | rw [fN_eq]); conv => whnf)
      refine brB_iff.2 ⟨fun h2 => ?_, fun h2 => ?_⟩ <;> conv => whnf
      · repeat ((first | refine HO.bsl1 rfl rfl rfl ?_ | refine HC.seq ?_ | refine HC.ops ?_ | refine HO.k ?_ | refine HO.g ?_ | refine HO.nil ?_ | refine HC.drw mixed ?_ | refine HD.k ?_ | refine HD.g ?_ | refine HD.nil ?_ | refine HC.blk ?_ | refine HC.cond ?_ | refine HC.skip ?_ | refine HC.exit ?_ | refine HC.ret ?_ | rw [fL_eq] | rw [fN_eq]); conv => whnf)
        have h1 : x ≠ y := ne_of_get hgx hgy (fun e => by subst e; simp [eqZ_eq] at h2)
        rw [← hB, decide_eq_false h1]
      · repeat ((first | refine HO.bsl1 rfl rfl rfl ?_ | refine HC.seq ?_ | refine HC.ops ?_ | refine HO.k ?_ | refine HO.g ?_ | refine HO.nil ?_ | refine HC.drw mixed ?_ | refine HD.k ?_ | refine HD.g ?_ | refine HD.nil ?_ | refine HC.blk ?_ | refine HC.cond ?_ | refine HC.skip ?_ | refine HC.exit ?_ | refine HC.ret ?_ | rw [fL_eq] | rw [fN_eq]); conv => whnf)
        have hab : a = b := by simpa [eqZ_eq, Prod.ext_iff] using h2
        rw [wrap_succ hlt hl]
        intro hg'
        exact ⟨x.length - (i + 1), fg [0, 1, 12, 13] _, _, by omega, Wk.fg hg'.1 hg'.2, rfl, i + 1, hlt, rfl, rfl, take_succ_eq hgx hgy ht hab⟩
    · have hge : x.length ≤ i := by rw [ltZ_eq] at h1; simp at h1; omega
      repeat ((first | refine HO.bsl1 rfl rfl rfl ?_ | refine HC.seq ?_ | refine HC.ops ?_ | refine HO.k ?_ | refine HO.g ?_ | refine HO.nil ?_ | refine HC.drw mixed ?_ | refine HD.k ?_ | refine HD.g ?_ | refine HD.nil ?_ | refine HC.blk ?_ | refine HC.cond ?_ | refine HC.skip ?_ | refine HC.exit ?_ | refine HC.ret ?_ | rw [fL_eq] | rw [fN_eq]); conv => whnf)
      rw [List.take_of_length_le hge, List.take_of_length_le (by omega)] at ht
      rw [← hB, decide_eq_true ht]

def Ei14 (x y : List Int) (i : Nat) : List V := vsV x :: vsV y :: .bad :: .bad :: .b false :: .i .i64 (i : Nat) :: List.replicate 20 .bad
theorem same14_den (x y : List Int) (hl : x.length ≤ maxLen) : PDen gt0 Tryd.prog 14 [vsV x, vsV y] (.b (decide (x = y))) := by
  generalize hB : decide (x = y) = B
  refine PDen.hc gnm0 hF14 (nm2 (vsV_nm _) (vsV_nm _)) (.b _) ?_
  have hlx : (x.map iV).length = x.length := List.length_map ..
  have hly : (y.map iV).length = y.length := List.length_map ..
  conv => whnf
  repeat ((first | refine HO.bsl1 rfl rfl rfl ?_ | refine HC.seq ?_ | refine HC.ops ?_ | refine HO.k ?_ | refine HO.g ?_ | refine HO.nil ?_ | refine HC.drw mixed ?_ | refine HD.k ?_ | refine HD.g ?_ | refine HD.nil ?_ | refine HC.blk ?_ | refine HC.cond ?_ | refine HC.skip ?_ | refine HC.exit ?_ | refine HC.ret ?_ | rw [fL_eq] | rw [fN_eq]); conv => whnf)
  refine brB_iff.2 ⟨fun h => ?_, fun h => ?_⟩ <;> conv => whnf
  · repeat ((first | refine HO.bsl1 rfl rfl rfl ?_ | refine HC.seq ?_ | refine HC.ops ?_ | refine HO.k ?_ | refine HO.g ?_ | refine HO.nil ?_ | refine HC.drw mixed ?_ | refine HD.k ?_ | refine HD.g ?_ | refine HD.nil ?_ | refine HC.blk ?_ | refine HC.cond ?_ | refine HC.skip ?_ | refine HC.exit ?_ | refine HC.ret ?_ | rw [fL_eq] | rw [fN_eq]); conv => whnf)
    have h1 : x ≠ y := fun e => by subst e; simp [eqZ_eq] at h
    rw [← hB, decide_eq_false h1]
  · have hxy : x.length = y.length := by simp [eqZ_eq] at h; omega
    repeat ((first | refine HO.bsl1 rfl rfl rfl ?_ | refine HC.seq ?_ | refine HC.ops ?_ | refine HO.k ?_ | refine HO.g ?_ | refine HO.nil ?_ | refine HC.drw mixed ?_ | refine HD.k ?_ | refine HD.g ?_ | refine HD.nil ?_ | refine HC.blk ?_ | refine HC.cond ?_ | refine HC.skip ?_ | refine HC.exit ?_ | refine HC.ret ?_ | rw [fL_eq] | rw [fN_eq]); conv => whnf)
    refine HC.loop gnm0 fun hg => ⟨fun n e s => s = s0 ∧ ∃ i : Nat, i ≤ x.length ∧ n = x.length - i ∧ e = Ei14 x y i ∧ x.take i = y.take i, ⟨x.length, fg [0, 1, 4, 5] _, _, Wk.fg hg.1 hg.2, rfl, 0, Nat.zero_le _, rfl, rfl, rfl⟩, ?_⟩
    rintro n e s ⟨rfl, i, hi, rfl, rfl, ht⟩
    conv => whnf
    repeat ((first | refine HO.bsl1 rfl rfl rfl ?_ | refine HC.seq ?_ | refine HC.ops ?_ | refine HO.k ?_ | refine HO.g ?_ | refine HO.nil ?_ | refine HC.drw mixed ?_ | refine HD.k ?_ | refine HD.g ?_ | refine HD.nil ?_ | refine HC.blk ?_ | refine HC.cond ?_ | refine HC.skip ?_ | refine HC.exit ?_ | refine HC.ret ?_ | rw [fL_eq] | rw [fN_eq]); conv => whnf)
    refine brB_iff.2 ⟨fun h1 => ?_, fun h1 => ?_⟩ <;> conv => whnf
    · have hlt : i < x.length := by rw [ltZ_eq] at h1; simp at h1; omega
      have hmx : (x.map iV)[((i : Nat) : Int).toNat]? = some (iV x[i]) := by simp [hlt]
      have hmy : (y.map iV)[((i : Nat) : Int).toNat]? = some (iV (y[i]'(hxy ▸ hlt))) := by simp [hxy ▸ hlt]
      have hgx : x[i]? = some x[i] := by simp [hlt]
      have hgy : y[i]? = some (y[i]'(hxy ▸ hlt)) := by simp [hxy ▸ hlt]
      generalize x[i] = a at hmx hgx
      generalize y[i]'(hxy ▸ hlt) = b at hmy hgy
      repeat ((first | refine HO.bsl1 rfl rfl rfl ?_ | refine HC.seq ?_ | refine HC.ops ?_ | refine HO.k ?_ | refine HO.g ?_ | refine HO.nil ?_ | refine HC.drw mixed ?_ | refine HD.k ?_ | refine HD.g ?_ | refine HD.nil ?_ | refine HC.blk ?_ | refine HC.cond ?_ | refine HC.skip ?_ | refine HC.exit ?_ | refine HC.ret ?_ | rw [fL_eq] | rw [fN_eq]); conv => whnf)
      refine ⟨rfl, Int.natCast_nonneg _, _, hmx, ?_⟩
      conv => whnf
      repeat ((first | refine HO.bsl1 rfl rfl rfl ?_ | refine HC.seq ?_ | refine HC.ops ?_ | refine HO.k ?_ | refine HO.g ?_ | refine HO.nil ?_ | refine HC.drw mixed ?_ | refine HD.k ?_ | refine HD.g ?_ | refine HD.nil ?_ | refine HC.blk ?_ | refine HC.cond ?_ | refine HC.skip ?_ | refine HC.exit ?_ | refine HC.ret ?_ | rw [fL_eq] | rw [fN_eq]); conv => whnf)
      refine ⟨rfl, Int.natCast_nonneg _, _, hmy, ?_⟩
      conv => whnf
      repeat ((first | refine HO.bsl1 rfl rfl rfl ?_ | refine HC.seq ?_ | refine HC.ops ?_ | refine HO.k ?_ | refine HO.g ?_ | refine HO.nil ?_ | refine HC.drw mixed ?_ | refine HD.k ?_ | refine HD.g ?_ | refine HD.nil ?_ | refine HC.blk ?_ | refine HC.cond ?_ | refine HC.skip ?_ | refine HC.exit ?_ | refine HC.ret ?_ | rw [fL_eq] | rw [fN_eq]); conv => whnf)
      refine brB_iff.2 ⟨fun h2 => ?_, fun h2 => ?_⟩ <;> conv => whnf
      · repeat ((first | refine HO.bsl1 rfl rfl rfl ?_ | refine HC.seq ?_ | refine HC.ops ?_ | refine HO.k ?_ | refine HO.g ?_ | refine HO.nil ?_ | refine HC.drw mixed ?_ | refine HD.k ?_ | refine HD.g ?_ | refine HD.nil ?_ | refine HC.blk ?_ | refine HC.cond ?_ | refine HC.skip ?_ | refine HC.exit ?_ | refine HC.ret ?_ | rw [fL_eq] | rw [fN_eq]); conv => whnf)
        have h1 : x ≠ y := ne_of_get hgx hgy (fun e => by subst e; simp [eqZ_eq] at h2)
        rw [← hB, decide_eq_false h1]
      · repeat ((first | refine HO.bsl1 rfl rfl rfl ?_ | refine HC.seq ?_ | refine HC.ops ?_ | refine HO.k ?_ | refine HO.g ?_ | refine HO.nil ?_ | refine HC.drw mixed ?_ | refine HD.k ?_ | refine HD.g ?_ | refine HD.nil ?_ | refine HC.blk ?_ | refine HC.cond ?_ | refine HC.skip ?_ | refine HC.exit ?_ | refine HC.ret ?_ | rw [fL_eq] | rw [fN_eq]); conv => whnf)
        have hab : a = b := by simpa [eqZ_eq, Prod.ext_iff] using h2
        rw [wrap_succ hlt hl]
        intro hg'
        exact ⟨x.length - (i + 1), fg [0, 1, 4, 5] _, _, by omega, Wk.fg hg'.1 hg'.2, rfl, i + 1, hlt, rfl, rfl, take_succ_eq hgx hgy ht hab⟩
    · have hge : x.length ≤ i := by rw [ltZ_eq] at h1; simp at h1; omega
      repeat ((first | refine HO.bsl1 rfl rfl rfl ?_ | refine HC.seq ?_ | refine HC.ops ?_ | refine HO.k ?_ | refine HO.g ?_ | refine HO.nil ?_ | refine HC.drw mixed ?_ | refine HD.k ?_ | refine HD.g ?_ | refine HD.nil ?_ | refine HC.blk ?_ | refine HC.cond ?_ | refine HC.skip ?_ | refine HC.exit ?_ | refine HC.ret ?_ | rw [fL_eq] | rw [fN_eq]); conv => whnf)
      rw [List.take_of_length_le hge, List.take_of_length_le (by omega)] at ht
      rw [← hB, decide_eq_true ht]

def Ee28 (x y : List Ev) (i : Nat) : List V := fsV x :: fsV y :: .bad :: .bad :: .b false :: .i .i64 (i : Nat) :: List.replicate 20 .bad
theorem same28_den (x y : List Ev) (hl : x.length ≤ maxLen) : PDen gt0 Tryd.prog 28 [fsV x, fsV y] (.b (decide (x = y))) := by
  generalize hB : decide (x = y) = B
  refine PDen.hc gnm0 hF28 (nm2 (fsV_nm _) (fsV_nm _)) (.b _) ?_
  have hlx : (x.map evV).length = x.length := List.length_map ..
  have hly : (y.map evV).length = y.length := List.length_map ..
  conv => whnf
  repeat ((first | refine HO.bsl1 rfl rfl rfl ?_ | refine HC.seq ?_ | refine HC.ops ?_ | refine HO.k ?_ | refine HO.g ?_ | refine HO.nil ?_ | refine HC.drw mixed ?_ | refine HD.k ?_ | refine HD.g ?_ | refine HD.nil ?_ | refine HC.blk ?_ | refine HC.cond ?_ | refine HC.skip ?_ | refine HC.exit ?_ | refine HC.ret ?_ | rw [fL_eq] | rw [fN_eq]); conv => whnf)
  refine brB_iff.2 ⟨fun h => ?_, fun h => ?_⟩ <;> conv => whnf
  · repeat ((first | refine HO.bsl1 rfl rfl rfl ?_ | refine HC.seq ?_ | refine HC.ops ?_ | refine HO.k ?_ | refine HO.g ?_ | refine HO.nil ?_ | refine HC.drw mixed ?_ | refine HD.k ?_ | refine HD.g ?_ | refine HD.nil ?_ | refine HC.blk ?_ | refine HC.cond ?_ | refine HC.skip ?_ | refine HC.exit ?_ | refine HC.ret ?_ | rw [fL_eq] | rw [fN_eq]); conv => whnf)
    have h1 : x ≠ y := fun e => by subst e; simp [eqZ_eq] at h
    rw [← hB, decide_eq_false h1]
  · have hxy : x.length = y.length := by simp [eqZ_eq] at h; omega
    repeat ((first | refine HO.bsl1 rfl rfl rfl ?_ | refine HC.seq ?_ | refine HC.ops ?_ | refine HO.k ?_ | refine HO.g ?_ | refine HO.nil ?_ | refine HC.drw mixed ?_ | refine HD.k ?_ | refine HD.g ?_ | refine HD.nil ?_ | refine HC.blk ?_ | refine HC.cond ?_ | refine HC.skip ?_ | refine HC.exit ?_ | refine HC.ret ?_ | rw [fL_eq] | rw [fN_eq]); conv => whnf)
    refine HC.loop gnm0 fun hg => ⟨fun n e s => s = s0 ∧ ∃ i : Nat, i ≤ x.length ∧ n = x.length - i ∧ e = Ee28 x y i ∧ x.take i = y.take i, ⟨x.length, fg [0, 1, 4, 5] _, _, Wk.fg hg.1 hg.2, rfl, 0, Nat.zero_le _, rfl, rfl, rfl⟩, ?_⟩
    rintro n e s ⟨rfl, i, hi, rfl, rfl, ht⟩
    conv => whnf
    repeat ((first | refine HO.bsl1 rfl rfl rfl ?_ | refine HC.seq ?_ | refine HC.ops ?_ | refine HO.k ?_ | refine HO.g ?_ | refine HO.nil ?_ | refine HC.drw mixed ?_ | refine HD.k ?_ | refine HD.g ?_ | refine HD.nil ?_ | refine HC.blk ?_ | refine HC.cond ?_ | refine HC.skip ?_ | refine HC.exit ?_ | refine HC.ret ?_ | rw [fL_eq] | rw [fN_eq]); conv => whnf)
    refine brB_iff.2 ⟨fun h1 => ?_, fun h1 => ?_⟩ <;> conv => whnf
    · have hlt : i < x.length := by rw [ltZ_eq] at h1; simp at h1; omega
      have hmx : (x.map evV)[((i : Nat) : Int).toNat]? = some (evV x[i]) := by simp [hlt]
      have hmy : (y.map evV)[((i : Nat) : Int).toNat]? = some (evV (y[i]'(hxy ▸ hlt))) := by simp [hxy ▸ hlt]
      have hgx : x[i]? = some x[i] := by simp [hlt]
      have hgy : y[i]? = some (y[i]'(hxy ▸ hlt)) := by simp [hxy ▸ hlt]
      generalize x[i] = a at hmx hgx
      generalize y[i]'(hxy ▸ hlt) = b at hmy hgy
      repeat ((first | refine HO.bsl1 rfl rfl rfl ?_ | refine HC.seq ?_ | refine HC.ops ?_ | refine HO.k ?_ | refine HO.g ?_ | refine HO.nil ?_ | refine HC.drw mixed ?_ | refine HD.k ?_ | refine HD.g ?_ | refine HD.nil ?_ | refine HC.blk ?_ | refine HC.cond ?_ | refine HC.skip ?_ | refine HC.exit ?_ | refine HC.ret ?_ | rw [fL_eq] | rw [fN_eq]); conv => whnf)
      refine ⟨rfl, Int.natCast_nonneg _, _, hmx, ?_⟩
      conv => whnf
      repeat ((first | refine HO.bsl1 rfl rfl rfl ?_ | refine HC.seq ?_ | refine HC.ops ?_ | refine HO.k ?_ | refine HO.g ?_ | refine HO.nil ?_ | refine HC.drw mixed ?_ | refine HD.k ?_ | refine HD.g ?_ | refine HD.nil ?_ | refine HC.blk ?_ | refine HC.cond ?_ | refine HC.skip ?_ | refine HC.exit ?_ | refine HC.ret ?_ | rw [fL_eq] | rw [fN_eq]); conv => whnf)
      refine ⟨rfl, Int.natCast_nonneg _, _, hmy, ?_⟩
      conv => whnf
      repeat ((first | refine HO.bsl1 rfl rfl rfl ?_ | refine HC.seq ?_ | refine HC.ops ?_ | refine HO.k ?_ | refine HO.g ?_ | refine HO.nil ?_ | refine HC.drw mixed ?_ | refine HD.k ?_ | refine HD.g ?_ | refine HD.nil ?_ | refine HC.blk ?_ | refine HC.cond ?_ | refine HC.skip ?_ | refine HC.exit ?_ | refine HC.ret ?_ | rw [fL_eq] | rw [fN_eq]); conv => whnf)
      refine brB_iff.2 ⟨fun h2 => ?_, fun h2 => ?_⟩ <;> conv => whnf
      · repeat ((first | refine HO.bsl1 rfl rfl rfl ?_ | refine HC.seq ?_ | refine HC.ops ?_ | refine HO.k ?_ | refine HO.g ?_ | refine HO.nil ?_ | refine HC.drw mixed ?_ | refine HD.k ?_ | refine HD.g ?_ | refine HD.nil ?_ | refine HC.blk ?_ | refine HC.cond ?_ | refine HC.skip ?_ | refine HC.exit ?_ | refine HC.ret ?_ | rw [fL_eq] | rw [fN_eq]); conv => whnf)
        have h1 : x ≠ y := ne_of_get hgx hgy (fun e => by subst e; simp [eqZ_eq] at h2)
        rw [← hB, decide_eq_false h1]
      · repeat ((first | refine HO.bsl1 rfl rfl rfl ?_ | refine HC.seq ?_ | refine HC.ops ?_ | refine HO.k ?_ | refine HO.g ?_ | refine HO.nil ?_ | refine HC.drw mixed ?_ | refine HD.k ?_ | refine HD.g ?_ | refine HD.nil ?_ | refine HC.blk ?_ | refine HC.cond ?_ | refine HC.skip ?_ | refine HC.exit ?_ | refine HC.ret ?_ | rw [fL_eq] | rw [fN_eq]); conv => whnf)
        have hab : a = b := by simpa [eqZ_eq, Prod.ext_iff] using h2
        rw [wrap_succ hlt hl]
        intro hg'
        exact ⟨x.length - (i + 1), fg [0, 1, 4, 5] _, _, by omega, Wk.fg hg'.1 hg'.2, rfl, i + 1, hlt, rfl, rfl, take_succ_eq hgx hgy ht hab⟩
    · have hge : x.length ≤ i := by rw [ltZ_eq] at h1; simp at h1; omega
      repeat ((first | refine HO.bsl1 rfl rfl rfl ?_ | refine HC.seq ?_ | refine HC.ops ?_ | refine HO.k ?_ | refine HO.g ?_ | refine HO.nil ?_ | refine HC.drw mixed ?_ | refine HD.k ?_ | refine HD.g ?_ | refine HD.nil ?_ | refine HC.blk ?_ | refine HC.cond ?_ | refine HC.skip ?_ | refine HC.exit ?_ | refine HC.ret ?_ | rw [fL_eq] | rw [fN_eq]); conv => whnf)
      rw [List.take_of_length_le hge, List.take_of_length_le (by omega)] at ht
      rw [← hB, decide_eq_true ht]

end Go.Proofs.YtklgkdehnaecnaaDoor
