/-
  Contracts: which programs, events, numbers and models are the same. No statement stands here.
-/
import Derived.Test.YtlhopiehnaabgaaDoorLE
import Derived.Test.YtlhopiehnaabgaaDoorCode
set_option linter.all false
namespace Go.Proofs.YtlhopiehnaabgaaDoor
open Go Rf
set_option maxRecDepth 100000
set_option maxHeartbeats 1000000

theorem wrap_succ {i n : Nat} (h : i < n) (hn : n ≤ maxLen) : wrapF .i64 ((i : Int) + 1) = ((i + 1 : Nat) : Int) := by
  have hm : maxLen ≤ 9223372036854775807 := by decide
  rw [wrapF_eq, wrap_in] <;> simp [lim, IntKind.signed] <;> omega

def insV (x : Int × Int) : V := .ag [.i .i64 x.1, .i .i64 x.2]
abbrev Kd := List (Int × Int)
def kV (k : Kd) : V := .pu 2 (k.map insV) .u
def ksV (ks : List Kd) : V := .pu 1 (ks.map kV) .u
def pgV (v : Int) (ks : List Kd) : V := .ag [.i .i64 v, ksV ks]
theorem insV_nm {L : Nat → Prop} (x : Int × Int) : Nm L (insV x) := .ag _ (fun v hv => by
  simp only [List.mem_cons, List.not_mem_nil, or_false] at hv
  rcases hv with rfl | rfl <;> exact .i _ _)
theorem kV_nm {L : Nat → Prop} (k : Kd) : Nm L (kV k) := .pu _ _ _ (fun v hv => by
  obtain ⟨x, -, rfl⟩ := List.mem_map.1 hv; exact insV_nm x) (fun k hk => by cases hk)
theorem ksV_nm {L : Nat → Prop} (ks : List Kd) : Nm L (ksV ks) := .pu _ _ _ (fun v hv => by
  obtain ⟨x, -, rfl⟩ := List.mem_map.1 hv; exact kV_nm x) (fun k hk => by cases hk)
theorem pgV_nm {L : Nat → Prop} (v : Int) (ks : List Kd) : Nm L (pgV v ks) := .ag _ (fun x hx => by
  simp only [List.mem_cons, List.not_mem_nil, or_false] at hx
  rcases hx with rfl | rfl
  · exact .i _ _
  · exact ksV_nm _)
theorem nm2 {L : Nat → Prop} {a b : V} (ha : Nm L a) (hb : Nm L b) : ∀ x ∈ [a, b], Nm L x := fun x hx => by
  simp only [List.mem_cons, List.not_mem_nil, or_false] at hx
  rcases hx with rfl | rfl
  · exact ha
  · exact hb
theorem nm1 {L : Nat → Prop} {a : V} (ha : Nm L a) : ∀ x ∈ [a], Nm L x := fun x hx => by
  simp only [List.mem_singleton] at hx; subst hx; exact ha

theorem take_succ_eq {α : Type} {x y : List α} {i : Nat} {a b : α} (ha : x[i]? = some a) (hb : y[i]? = some b) (h : x.take i = y.take i) (hab : a = b) : x.take (i + 1) = y.take (i + 1) := by
  rw [List.take_add_one, List.take_add_one, h, ha, hb, hab]
theorem ne_of_get {α : Type} {x y : List α} {i : Nat} {a b : α} (ha : x[i]? = some a) (hb : y[i]? = some b) (hab : a ≠ b) : x ≠ y := fun h => by
  subst h; rw [ha] at hb; exact hab (Option.some.inj hb)

def much (ks : List Kd) : Bool := decide (12 < ks.length) || ks.any fun k => decide (200 < k.length)
def EMu (v : Int) (ks : List Kd) (i : Nat) : List V := .bad :: .q (pgV v ks) 0 :: .b false :: .i .i64 (i : Nat) :: List.replicate 18 .bad

theorem much_den (v : Int) (ks : List Kd) (hl : ks.length ≤ maxLen) : PDen gt0 Tryd.prog 16 [pgV v ks] (.b (much ks)) := by
  generalize hB : much ks = B
  refine PDen.hc gnm0 hF16 (nm1 (pgV_nm _ _)) (.b _) ?_
  have hlx : (ks.map kV).length = ks.length := List.length_map ..
  conv => whnf
  refine sgo ?_
  refine brB_iff.2 ⟨fun h => ?_, fun h => ?_⟩ <;> conv => whnf
  · refine sgo ?_
    have : 12 < ks.length := by rw [ltZ_eq] at h; simp at h; omega
    rw [← hB]; simp [much, this]
  · have h12 : ¬ 12 < ks.length := by rw [ltZ_eq] at h; simp at h; omega
    refine sgo ?_
    refine HC.loop gnm0 fun hg => ⟨fun n e s => s = s0 ∧ ∃ i : Nat, i ≤ ks.length ∧ n = ks.length - i ∧ e = EMu v ks i ∧ ∀ k ∈ ks.take i, ¬ 200 < k.length, ⟨ks.length, fg [1, 2, 3] _, _, Wk.fg hg.1 hg.2, rfl, 0, Nat.zero_le _, rfl, rfl, fun k hk => by simp at hk⟩, ?_⟩
    rintro n e s ⟨rfl, i, hi, rfl, rfl, ht⟩
    conv => whnf
    refine sgo ?_
    refine brB_iff.2 ⟨fun h1 => ?_, fun h1 => ?_⟩ <;> conv => whnf
    · have hlt : i < ks.length := by rw [ltZ_eq] at h1; simpa using h1
      have hmx : (ks.map kV)[((i : Nat) : Int).toNat]? = some (kV ks[i]) := by simp [hlt]
      have hgx : ks[i]? = some ks[i] := by simp [hlt]
      generalize ks[i] = a at hmx hgx
      refine sgo ?_
      refine ⟨rfl, Int.natCast_nonneg _, _, hmx, ?_⟩
      conv => whnf
      refine sgo ?_
      refine brB_iff.2 ⟨fun h2 => ?_, fun h2 => ?_⟩ <;> conv => whnf
      · refine sgo ?_
        have h3 : 200 < a.length := by rw [ltZ_eq] at h2; simp at h2; omega
        rw [← hB]
        have : ks.any (fun k => decide (200 < k.length)) = true := List.any_eq_true.2 ⟨a, List.mem_of_getElem? hgx, by simpa using h3⟩
        simp [much, this]
      · refine sgo ?_
        have h3 : ¬ 200 < a.length := by rw [ltZ_eq] at h2; simp at h2; omega
        rw [wrap_succ hlt hl]
        intro hg'
        refine ⟨ks.length - (i + 1), fg [1, 2, 3] _, _, by omega, Wk.fg hg'.1 hg'.2, rfl, i + 1, hlt, rfl, rfl, fun k hk => ?_⟩
        rw [List.take_add_one, hgx] at hk
        rcases List.mem_append.1 hk with hk | hk
        · exact ht k hk
        · simp at hk; subst hk; exact h3
    · have hge : ks.length ≤ i := by rw [ltZ_eq] at h1; simpa using h1
      refine sgo ?_
      rw [List.take_of_length_le hge] at ht
      rw [← hB]
      have : ks.any (fun k => decide (200 < k.length)) = false := List.any_eq_false.2 fun k hk => by simpa using ht k hk
      simp [much, this, h12]

def ES (v w : Int) (x y : List Kd) (i : Nat) : List V := .bad :: .bad :: .q (pgV v x) 0 :: .q (pgV w y) 0 :: .b false :: .i .i64 (i : Nat) :: List.replicate 62 .bad
def ES2 (v w : Int) (x y : List Kd) (i k : Nat) : List V := .bad :: .bad :: .q (pgV v x) 0 :: .q (pgV w y) 0 :: .b false :: .i .i64 (i : Nat) :: .i .i64 (k : Nat) :: List.replicate 61 .bad

theorem rsame_den (v w : Int) (x y : List Kd) (hl : x.length ≤ maxLen) (hk : ∀ k ∈ x, k.length ≤ maxLen) : PDen gt0 Tryd.prog 15 [pgV v x, pgV w y] (.b (decide (v = w ∧ x = y))) := by
  generalize hB : decide (v = w ∧ x = y) = B
  refine PDen.hc gnm0 hF15 (nm2 (pgV_nm _ _) (pgV_nm _ _)) (.b _) ?_
  have hlx : (x.map kV).length = x.length := List.length_map ..
  have hly : (y.map kV).length = y.length := List.length_map ..
  have out : ¬ (v = w ∧ x = y) → V.b false = V.b B := fun h => by rw [← hB, decide_eq_false h]
  conv => whnf
  refine sgo ?_
  refine brB_iff.2 ⟨fun h => ?_, fun h => ?_⟩ <;> conv => whnf
  · refine sgo ?_
    exact out fun e => by simp [eqZ_eq, e.1] at h
  · have hvw : v = w := by simpa [eqZ_eq] using h
    refine sgo ?_
    refine brB_iff.2 ⟨fun h => ?_, fun h => ?_⟩ <;> conv => whnf
    · refine sgo ?_
      exact out fun e => by simp [eqZ_eq, e.2] at h
    · have hxy : x.length = y.length := by simp [eqZ_eq] at h; omega
      refine sgo ?_
      refine HC.loop gnm0 fun hg => ⟨fun n e s => s = s0 ∧ ∃ i : Nat, i ≤ x.length ∧ n = x.length - i ∧ e = ES v w x y i ∧ x.take i = y.take i, ⟨x.length, fg [2, 3, 4, 5] _, _, Wk.fg hg.1 hg.2, rfl, 0, Nat.zero_le _, rfl, rfl, rfl⟩, ?_⟩
      rintro n e s ⟨rfl, i, hi, rfl, rfl, ht⟩
      conv => whnf
      refine sgo ?_
      refine brB_iff.2 ⟨fun h1 => ?_, fun h1 => ?_⟩ <;> conv => whnf
      · have hlt : i < x.length := by rw [ltZ_eq] at h1; simpa using h1
        have hmx : (x.map kV)[((i : Nat) : Int).toNat]? = some (kV x[i]) := by simp [hlt]
        have hmy : (y.map kV)[((i : Nat) : Int).toNat]? = some (kV (y[i]'(hxy ▸ hlt))) := by simp [hxy ▸ hlt]
        have hgx : x[i]? = some x[i] := by simp [hlt]
        have hgy : y[i]? = some (y[i]'(hxy ▸ hlt)) := by simp [hxy ▸ hlt]
        have hkl := hk x[i] (List.getElem_mem hlt)
        generalize x[i] = a at hmx hgx hkl
        generalize y[i]'(hxy ▸ hlt) = b at hmy hgy
        have hla : (a.map insV).length = a.length := List.length_map ..
        have hlb : (b.map insV).length = b.length := List.length_map ..
        refine sgo ?_
        refine ⟨rfl, Int.natCast_nonneg _, _, hmx, ?_⟩
        conv => whnf
        refine sgo ?_
        refine ⟨rfl, Int.natCast_nonneg _, _, hmy, ?_⟩
        conv => whnf
        refine sgo ?_
        refine brB_iff.2 ⟨fun h => ?_, fun h => ?_⟩ <;> conv => whnf
        · refine sgo ?_
          exact out fun e => (ne_of_get hgx hgy (fun e => by subst e; simp [eqZ_eq] at h)) e.2
        · have hab : a.length = b.length := by simp [eqZ_eq] at h; omega
          refine sgo ?_
          refine HC.loop gnm0 fun hg => ⟨fun n e s => s = s0 ∧ ∃ k : Nat, k ≤ a.length ∧ n = a.length - k ∧ e = ES2 v w x y i k ∧ a.take k = b.take k, ⟨a.length, fg [2, 3, 4, 5, 6] _, _, Wk.fg hg.1 hg.2, rfl, 0, Nat.zero_le _, rfl, rfl, rfl⟩, ?_⟩
          rintro n e s ⟨rfl, k, hik, rfl, rfl, htk⟩
          conv => whnf
          refine sgo ?_
          refine ⟨rfl, Int.natCast_nonneg _, _, hmx, ?_⟩
          conv => whnf
          refine sgo ?_
          refine brB_iff.2 ⟨fun h2 => ?_, fun h2 => ?_⟩ <;> conv => whnf
          · have hltk : k < a.length := by rw [ltZ_eq] at h2; simpa using h2
            have hax : (a.map insV)[((k : Nat) : Int).toNat]? = some (insV a[k]) := by simp [hltk]
            have hay : (b.map insV)[((k : Nat) : Int).toNat]? = some (insV (b[k]'(hab ▸ hltk))) := by simp [hab ▸ hltk]
            have gax : a[k]? = some a[k] := by simp [hltk]
            have gay : b[k]? = some (b[k]'(hab ▸ hltk)) := by simp [hab ▸ hltk]
            generalize a[k] = p at hax gax
            generalize b[k]'(hab ▸ hltk) = q at hay gay
            refine sgo ?_
            refine ⟨rfl, Int.natCast_nonneg _, _, hmx, ?_⟩
            conv => whnf
            refine sgo ?_
            refine ⟨rfl, Int.natCast_nonneg _, _, hax, ?_⟩
            conv => whnf
            refine sgo ?_
            refine ⟨rfl, Int.natCast_nonneg _, _, hmy, ?_⟩
            conv => whnf
            refine sgo ?_
            refine ⟨rfl, Int.natCast_nonneg _, _, hay, ?_⟩
            conv => whnf
            refine sgo ?_
            refine brB_iff.2 ⟨fun h3 => ?_, fun h3 => ?_⟩ <;> conv => whnf
            · refine sgo ?_
              exact out fun e => (ne_of_get hgx hgy (ne_of_get gax gay (fun e => by subst e; simp [eqZ_eq] at h3))) e.2
            · have hpq : p = q := by simpa [eqZ_eq, Prod.ext_iff] using h3
              refine sgo ?_
              rw [wrap_succ hltk hkl]
              intro hg'
              exact ⟨a.length - (k + 1), fg [2, 3, 4, 5, 6] _, _, by omega, Wk.fg hg'.1 hg'.2, rfl, k + 1, hltk, rfl, rfl, take_succ_eq gax gay htk hpq⟩
          · have hge : a.length ≤ k := by rw [ltZ_eq] at h2; simpa using h2
            rw [List.take_of_length_le hge, List.take_of_length_le (by omega)] at htk
            refine sgo ?_
            rw [wrap_succ hlt hl]
            intro hg'
            exact ⟨x.length - (i + 1), fg [2, 3, 4, 5] _, _, by omega, Wk.fg hg'.1 hg'.2, rfl, i + 1, hlt, rfl, rfl, take_succ_eq hgx hgy ht htk⟩
      · have hge : x.length ≤ i := by rw [ltZ_eq] at h1; simpa using h1
        rw [List.take_of_length_le hge, List.take_of_length_le (by omega)] at ht
        refine sgo ?_
        rw [← hB, decide_eq_true ⟨hvw, ht⟩]
end Go.Proofs.YtlhopiehnaabgaaDoor
