/-
  Contracts: code.Copy. No statement stands here.
-/
import Derived.Test.YtbeoanbhnlahpaaDoorClone
set_option linter.all false
namespace Go.Proofs.YtbeoanbhnlahpaaDoor
open Go Rf
set_option maxRecDepth 100000
set_option maxHeartbeats 400000

/-- of a tree's objects some are dropped -/
inductive TSub : Tr O → Tr O → Prop
  | e : TSub .e .e
  | n {l l' r r' : Tr O} {x x' : Option O} (hl : TSub l l') (hx : x = none ∨ x = x') (hr : TSub r r') : TSub (.n l x r) (.n l' x' r')
theorem TSub.get {t t' : Tr O} (h : TSub t t') : ∀ (f k : Nat) (o : O), Tr.get f t k = some o → Tr.get f t' k = some o := by
  induction h with
  | e => intro f k o h; exact h
  | n _ hx _ il ir =>
    intro f k o h
    cases f with
    | zero => cases h
    | succ f =>
      simp only [Tr.get] at h ⊢
      split at h
      · rename_i h0
        rw [if_pos h0]
        rcases hx with hx | hx
        · rw [hx] at h; cases h
        · rw [← hx]; exact h
      · rename_i h0
        rw [if_neg h0]
        split at h
        · rename_i h1; rw [if_pos h1]; exact il _ _ _ h
        · rename_i h1; rw [if_neg h1]; exact ir _ _ _ h
theorem TSub.sub {t t' : Tr O} (h : TSub t t') (n : Nat) (g : List Nat) : Sub ⟨t, n, g⟩ ⟨t', n, g⟩ := ⟨⟨rfl, rfl⟩, fun l o hg => h.get _ _ _ hg⟩

/-- in Copy: the argument's box, the result's, the kinds, one kind -/
def SA (v : Int) (n : Nat) (cs : List V) : St := ⟨.n (.n .e (some (.c [.i .i64 0, .ns] 0 (some 32))) .e) (some (.c [.i .i64 v, .sl 1 2 0 n none] 0 (some 32))) (.n .e (some (.c cs 0 (some 27))) .e), 3, []⟩
def SB (v : Int) (n : Nat) (cs ds : List V) : St := ⟨.n (.n (.n .e (some (.c ds 0 (some 29))) .e) (some (.c [.i .i64 0, .ns] 0 (some 32))) .e) (some (.c [.i .i64 v, .sl 1 2 0 n none] 0 (some 32))) (.n .e (some (.c cs 0 (some 27))) .e), 4, []⟩
/-- behind it -/
def RA (cs : List V) : St := ⟨.n (.n .e none .e) none (.n .e (some (.c cs 0 (some 27))) .e), 3, []⟩
def RB (cs ds : List V) : St := ⟨.n (.n (.n .e (some (.c ds 0 (some 29))) .e) none .e) none (.n .e (some (.c cs 0 (some 27))) .e), 4, []⟩
def EC (n i : Nat) : List V := .bad :: .p 0 0 :: .p 1 0 :: .bad :: .bad :: .bad :: .bad :: .bad :: .bad :: .bad :: .sl 1 2 0 n none :: .i .i64 (n : Nat) :: .i .i64 (i : Nat) :: List.replicate 12 .bad
def pV (v : Int) (n : Nat) : V := .ag [.i .i64 v, .sl 1 2 0 n none]

theorem stays_one {gt : Nat → Option V} {P : Program} {e : List V} {v : V} {t s' : St} {l : List St} {y : A} (h : aop e t y = some (v, s')) : stays gt P e v (.a y) (List.take 1 (t :: l)) := by
  simp only [List.take, stays, h, and_self]

theorem cloneO_heap' (ks : List Kd) (h0 : ks ≠ []) (hl : ks.length ≤ 200) (h : Tr O) (n : Nat) : Den gt0 Tryd.prog 40 [ksV ks] ⟨h, n, []⟩ (.sl 1 n 0 ks.length none) ⟨Tr.put (some (.c (ks.map kV) 0 (some 27))) (n + 1) h n, n + 1, []⟩ := cloneO_heap ks h0 hl ⟨h, n, []⟩
theorem cloneK_heap' (k : Kd) (h0 : k ≠ []) (hl : k.length ≤ 200) (h : Tr O) (n : Nat) : Den gt0 Tryd.prog 41 [kV k] ⟨h, n, []⟩ (.sl 2 n 0 k.length none) ⟨Tr.put (some (.c (insC k) 0 (some 29))) (n + 1) h n, n + 1, []⟩ := cloneK_heap k h0 hl ⟨h, n, []⟩

theorem copy_nil (v : Int) : PDen gt0 Tryd.prog 21 [pgV v []] (pgV v []) := by
  refine PDen.hcw gnm0 hF21 (nm1 (pgV_nm _ _)) (pgV_nm _ _) ?_
  conv => whnf
  repeat ((first | refine HC.seq ?_ | refine HC.ops ?_ | refine HO.k ?_ | refine HO.g ?_ | refine HO.nil ?_ | refine HC.drw mixed ?_ | refine HD.k ?_ | refine HD.g ?_ | refine HD.nil ?_ | refine HC.blk ?_ | refine HC.cond ?_ | refine HC.skip ?_ | refine HC.exit ?_ | refine HC.ret ?_ | rw [fL_eq]); conv => whnf)
  refine ⟨_, _, cloneO_nil _, ?_⟩
  conv => whnf
  repeat ((first | refine HC.seq ?_ | refine HC.ops ?_ | refine HO.k ?_ | refine HO.g ?_ | refine HO.nil ?_ | refine HC.drw mixed ?_ | refine HD.k ?_ | refine HD.g ?_ | refine HD.nil ?_ | refine HC.blk ?_ | refine HC.cond ?_ | refine HC.skip ?_ | refine HC.exit ?_ | refine HC.ret ?_ | rw [fL_eq]); conv => whnf)
  refine HC.loop gnm0 fun hg => ⟨fun n e s => s = _ ∧ e = _, ⟨0, fg [1, 2, 10, 11, 12] _, _, Wk.fg hg.1 hg.2, rfl, rfl⟩, ?_⟩
  rintro n e s ⟨rfl, rfl⟩
  conv => whnf
  repeat ((first | refine HC.seq ?_ | refine HC.ops ?_ | refine HO.k ?_ | refine HO.g ?_ | refine HO.nil ?_ | refine HC.drw mixed ?_ | refine HD.k ?_ | refine HD.g ?_ | refine HD.nil ?_ | refine HC.blk ?_ | refine HC.cond ?_ | refine HC.skip ?_ | refine HC.exit ?_ | refine HC.ret ?_ | rw [fL_eq]); conv => whnf)
  exact .refl _

theorem set_same {α : Type} {l : List α} {i : Nat} {a : α} (h : l[i]? = some a) : l.set i a = l := by
  apply List.ext_getElem?
  intro j
  rw [List.getElem?_set]
  by_cases hj : i = j
  · subst hj; rw [h, if_pos rfl]; simp [(List.getElem?_eq_some_iff.1 h).1]
  · rw [if_neg hj]

theorem copy_den (v : Int) (ks : List Kd) (h0 : ks ≠ []) (hl : ks.length ≤ 12) (hk : ∀ k ∈ ks, k.length ≤ 200) : Den gt0 Tryd.prog 21 [pgV v ks] s0 (pV v ks.length) (RA (ks.map kV)) := by
  have hm : maxLen ≥ 12 := by decide
  refine Den.hc hF21 ?_
  have hlx : (ks.map kV).length = ks.length := List.length_map ..
  conv => whnf
  repeat ((first | refine HC.seq ?_ | refine HC.ops ?_ | refine HO.k ?_ | refine HO.g ?_ | refine HO.nil ?_ | refine HC.drw mixed ?_ | refine HD.k ?_ | refine HD.g ?_ | refine HD.nil ?_ | refine HC.blk ?_ | refine HC.cond ?_ | refine HC.skip ?_ | refine HC.exit ?_ | refine HC.ret ?_ | rw [fL_eq]); conv => whnf)
  refine ⟨_, _, cloneO_heap' ks h0 (by omega) _ _, ?_⟩
  conv => whnf
  repeat ((first | refine HC.seq ?_ | refine HC.ops ?_ | refine HO.k ?_ | refine HO.g ?_ | refine HO.nil ?_ | refine HC.drw mixed ?_ | refine HD.k ?_ | refine HD.g ?_ | refine HD.nil ?_ | refine HC.blk ?_ | refine HC.cond ?_ | refine HC.skip ?_ | refine HC.exit ?_ | refine HC.ret ?_ | rw [fL_eq]); conv => whnf)
  refine HC.loop gnm0 fun hg => ⟨fun n e s => s = SA v ks.length (ks.map kV) ∧ ∃ i : Nat, i ≤ ks.length ∧ n = ks.length - i ∧ e = EC ks.length i, ⟨ks.length, fg [1, 2, 10, 11, 12] _, _, Wk.fg hg.1 hg.2, rfl, 0, Nat.zero_le _, rfl, rfl⟩, ?_⟩
  rintro n e s ⟨rfl, i, hi, rfl, rfl⟩
  conv => whnf
  repeat ((first | refine HC.seq ?_ | refine HC.ops ?_ | refine HO.k ?_ | refine HO.g ?_ | refine HO.nil ?_ | refine HC.drw mixed ?_ | refine HD.k ?_ | refine HD.g ?_ | refine HD.nil ?_ | refine HC.blk ?_ | refine HC.cond ?_ | refine HC.skip ?_ | refine HC.exit ?_ | refine HC.ret ?_ | rw [fL_eq]); conv => whnf)
  refine brB_iff.2 ⟨fun h1 => ?_, fun h1 => ?_⟩ <;> conv => whnf
  · have hlt : i < ks.length := by rw [ltZ_eq] at h1; simpa using h1
    have hmx : (ks.map kV)[0 + ((i : Nat) : Int).toNat * 1]? = some (kV ks[i]) := by simp [hlt]
    have hkl := hk ks[i] (List.getElem_mem hlt)
    generalize ks[i] = a at hmx hkl
    repeat ((first | refine HC.seq ?_ | refine HC.ops ?_ | refine HO.k ?_ | refine HO.g ?_ | refine HO.nil ?_ | refine HC.drw mixed ?_ | refine HD.k ?_ | refine HD.g ?_ | refine HD.nil ?_ | refine HC.blk ?_ | refine HC.cond ?_ | refine HC.skip ?_ | refine HC.exit ?_ | refine HC.ret ?_ | rw [fL_eq]); conv => whnf)
    refine ⟨rfl, Int.natCast_nonneg _, by omega, ?_⟩
    conv => whnf
    repeat ((first | refine HC.seq ?_ | refine HC.ops ?_ | refine HO.k ?_ | refine HO.g ?_ | refine HO.nil ?_ | refine HC.drw mixed ?_ | refine HD.k ?_ | refine HD.g ?_ | refine HD.nil ?_ | refine HC.blk ?_ | refine HC.cond ?_ | refine HC.skip ?_ | refine HC.exit ?_ | refine HC.ret ?_ | rw [fL_eq]); conv => whnf)
    refine fNth_of hmx ?_
    conv => whnf
    repeat ((first | refine HC.seq ?_ | refine HC.ops ?_ | refine HO.k ?_ | refine HO.g ?_ | refine HO.nil ?_ | refine HC.drw mixed ?_ | refine HD.k ?_ | refine HD.g ?_ | refine HD.nil ?_ | refine HC.blk ?_ | refine HC.cond ?_ | refine HC.skip ?_ | refine HC.exit ?_ | refine HC.ret ?_ | rw [fL_eq]); conv => whnf)
    refine ⟨_, _, cloneK_den a hkl _, ?_⟩
    conv => whnf
    repeat ((first | refine HC.seq ?_ | refine HC.ops ?_ | refine HO.k ?_ | refine HO.g ?_ | refine HO.nil ?_ | refine HC.drw mixed ?_ | refine HD.k ?_ | refine HD.g ?_ | refine HD.nil ?_ | refine HC.blk ?_ | refine HC.cond ?_ | refine HC.skip ?_ | refine HC.exit ?_ | refine HC.ret ?_ | rw [fL_eq]); conv => whnf)
    refine ⟨stays_one rfl, ?_⟩
    conv => whnf
    repeat ((first | refine HC.seq ?_ | refine HC.ops ?_ | refine HO.k ?_ | refine HO.g ?_ | refine HO.nil ?_ | refine HC.drw mixed ?_ | refine HD.k ?_ | refine HD.g ?_ | refine HD.nil ?_ | refine HC.blk ?_ | refine HC.cond ?_ | refine HC.skip ?_ | refine HC.exit ?_ | refine HC.ret ?_ | rw [fL_eq]); conv => whnf)
    refine ⟨rfl, Int.natCast_nonneg _, by omega, ?_⟩
    conv => whnf
    repeat ((first | refine HC.seq ?_ | refine HC.ops ?_ | refine HO.k ?_ | refine HO.g ?_ | refine HO.nil ?_ | refine HC.drw mixed ?_ | refine HD.k ?_ | refine HD.g ?_ | refine HD.nil ?_ | refine HC.blk ?_ | refine HC.cond ?_ | refine HC.skip ?_ | refine HC.exit ?_ | refine HC.ret ?_ | rw [fL_eq]); conv => whnf)
    refine fPut1 (v := kV a) (by simpa using hlt) ?_
    rw [set_same hmx]
    conv => whnf
    repeat ((first | refine HC.seq ?_ | refine HC.ops ?_ | refine HO.k ?_ | refine HO.g ?_ | refine HO.nil ?_ | refine HC.drw mixed ?_ | refine HD.k ?_ | refine HD.g ?_ | refine HD.nil ?_ | refine HC.blk ?_ | refine HC.cond ?_ | refine HC.skip ?_ | refine HC.exit ?_ | refine HC.ret ?_ | rw [fL_eq]); conv => whnf)
    rw [wrap_succ hlt (by omega)]
    intro hg'
    exact ⟨ks.length - (i + 1), fg [1, 2, 10, 11, 12] _, _, by omega, Wk.fg hg'.1 hg'.2, rfl, i + 1, hlt, rfl, rfl⟩
  · repeat ((first | refine HC.seq ?_ | refine HC.ops ?_ | refine HO.k ?_ | refine HO.g ?_ | refine HO.nil ?_ | refine HC.drw mixed ?_ | refine HD.k ?_ | refine HD.g ?_ | refine HD.nil ?_ | refine HC.blk ?_ | refine HC.cond ?_ | refine HC.skip ?_ | refine HC.exit ?_ | refine HC.ret ?_ | rw [fL_eq]); conv => whnf)
    exact ⟨.refl _, TSub.sub (.n (.n .e (.inl rfl) .e) (.inl rfl) (.n .e (.inr rfl) .e)) _ _⟩

set_option maxHeartbeats 2000000 in
theorem copy_pick (v : Int) (ks : List Kd) (p : Nat) (kp : Kd) (hp : ks[p]? = some kp) (hne : kp ≠ []) (hl : ks.length ≤ 12) (hk : ∀ k ∈ ks, k.length ≤ 200) :
    Den gt0 Tryd.prog 21 [pgV v ks] s0 (pV v ks.length) (RB ((ks.map kV).set p (.sl 2 3 0 kp.length none)) (insC kp)) := by
  have hm : maxLen ≥ 12 := by decide
  have hpl : p < ks.length := (List.getElem?_eq_some_iff.1 hp).1
  have h0 : ks ≠ [] := fun h => by subst h; simp at hpl
  refine Den.hc hF21 ?_
  have hlx : (ks.map kV).length = ks.length := List.length_map ..
  conv => whnf
  repeat ((first | refine HC.seq ?_ | refine HC.ops ?_ | refine HO.k ?_ | refine HO.g ?_ | refine HO.nil ?_ | refine HC.drw mixed ?_ | refine HD.k ?_ | refine HD.g ?_ | refine HD.nil ?_ | refine HC.blk ?_ | refine HC.cond ?_ | refine HC.skip ?_ | refine HC.exit ?_ | refine HC.ret ?_ | rw [fL_eq]); conv => whnf)
  refine ⟨_, _, cloneO_heap' ks h0 (by omega) _ _, ?_⟩
  conv => whnf
  repeat ((first | refine HC.seq ?_ | refine HC.ops ?_ | refine HO.k ?_ | refine HO.g ?_ | refine HO.nil ?_ | refine HC.drw mixed ?_ | refine HD.k ?_ | refine HD.g ?_ | refine HD.nil ?_ | refine HC.blk ?_ | refine HC.cond ?_ | refine HC.skip ?_ | refine HC.exit ?_ | refine HC.ret ?_ | rw [fL_eq]); conv => whnf)
  refine HC.loop gnm0 fun hg => ⟨fun n e s => ∃ i : Nat, i ≤ ks.length ∧ n = ks.length - i ∧ e = EC ks.length i ∧ ((i ≤ p ∧ s = SA v ks.length (ks.map kV)) ∨ (p < i ∧ s = SB v ks.length ((ks.map kV).set p (.sl 2 3 0 kp.length none)) (insC kp))), ⟨ks.length, fg [1, 2, 10, 11, 12] _, _, Wk.fg hg.1 hg.2, 0, Nat.zero_le _, rfl, rfl, .inl ⟨Nat.zero_le _, rfl⟩⟩, ?_⟩
  rintro n e s ⟨i, hi, rfl, rfl, ⟨hip, rfl⟩ | ⟨hip, rfl⟩⟩
  · conv => whnf
    repeat ((first | refine HC.seq ?_ | refine HC.ops ?_ | refine HO.k ?_ | refine HO.g ?_ | refine HO.nil ?_ | refine HC.drw mixed ?_ | refine HD.k ?_ | refine HD.g ?_ | refine HD.nil ?_ | refine HC.blk ?_ | refine HC.cond ?_ | refine HC.skip ?_ | refine HC.exit ?_ | refine HC.ret ?_ | rw [fL_eq]); conv => whnf)
    refine brB_iff.2 ⟨fun h1 => ?_, fun h1 => ?_⟩ <;> conv => whnf
    · have hlt : i < ks.length := by omega
      have hgi : ks[i]? = some ks[i] := by simp [hlt]
      have hmx : (ks.map kV)[0 + ((i : Nat) : Int).toNat * 1]? = some (kV ks[i]) := by simp [hlt]
      have hkl := hk ks[i] (List.getElem_mem hlt)
      generalize ks[i] = a at hmx hkl hgi
      by_cases he : i = p
      · subst he
        have ha : a = kp := by rw [hp] at hgi; exact (Option.some.inj hgi).symm
        subst ha
        repeat ((first | refine HC.seq ?_ | refine HC.ops ?_ | refine HO.k ?_ | refine HO.g ?_ | refine HO.nil ?_ | refine HC.drw mixed ?_ | refine HD.k ?_ | refine HD.g ?_ | refine HD.nil ?_ | refine HC.blk ?_ | refine HC.cond ?_ | refine HC.skip ?_ | refine HC.exit ?_ | refine HC.ret ?_ | rw [fL_eq]); conv => whnf)
        refine ⟨rfl, Int.natCast_nonneg _, by omega, ?_⟩
        conv => whnf
        repeat ((first | refine HC.seq ?_ | refine HC.ops ?_ | refine HO.k ?_ | refine HO.g ?_ | refine HO.nil ?_ | refine HC.drw mixed ?_ | refine HD.k ?_ | refine HD.g ?_ | refine HD.nil ?_ | refine HC.blk ?_ | refine HC.cond ?_ | refine HC.skip ?_ | refine HC.exit ?_ | refine HC.ret ?_ | rw [fL_eq]); conv => whnf)
        refine fNth_of hmx ?_
        conv => whnf
        repeat ((first | refine HC.seq ?_ | refine HC.ops ?_ | refine HO.k ?_ | refine HO.g ?_ | refine HO.nil ?_ | refine HC.drw mixed ?_ | refine HD.k ?_ | refine HD.g ?_ | refine HD.nil ?_ | refine HC.blk ?_ | refine HC.cond ?_ | refine HC.skip ?_ | refine HC.exit ?_ | refine HC.ret ?_ | rw [fL_eq]); conv => whnf)
        refine ⟨_, _, cloneK_heap' a hne hkl _ _, ?_⟩
        conv => whnf
        repeat ((first | refine HC.seq ?_ | refine HC.ops ?_ | refine HO.k ?_ | refine HO.g ?_ | refine HO.nil ?_ | refine HC.drw mixed ?_ | refine HD.k ?_ | refine HD.g ?_ | refine HD.nil ?_ | refine HC.blk ?_ | refine HC.cond ?_ | refine HC.skip ?_ | refine HC.exit ?_ | refine HC.ret ?_ | rw [fL_eq]); conv => whnf)
        refine ⟨stays_one rfl, ?_⟩
        conv => whnf
        repeat ((first | refine HC.seq ?_ | refine HC.ops ?_ | refine HO.k ?_ | refine HO.g ?_ | refine HO.nil ?_ | refine HC.drw mixed ?_ | refine HD.k ?_ | refine HD.g ?_ | refine HD.nil ?_ | refine HC.blk ?_ | refine HC.cond ?_ | refine HC.skip ?_ | refine HC.exit ?_ | refine HC.ret ?_ | rw [fL_eq]); conv => whnf)
        refine ⟨rfl, Int.natCast_nonneg _, by omega, ?_⟩
        conv => whnf
        repeat ((first | refine HC.seq ?_ | refine HC.ops ?_ | refine HO.k ?_ | refine HO.g ?_ | refine HO.nil ?_ | refine HC.drw mixed ?_ | refine HD.k ?_ | refine HD.g ?_ | refine HD.nil ?_ | refine HC.blk ?_ | refine HC.cond ?_ | refine HC.skip ?_ | refine HC.exit ?_ | refine HC.ret ?_ | rw [fL_eq]); conv => whnf)
        refine fPut1 (v := .sl 2 3 0 a.length none) (by simpa using hlt) ?_
        rw [show 0 + ((i : Nat) : Int).toNat * 1 = i by simp]
        conv => whnf
        repeat ((first | refine HC.seq ?_ | refine HC.ops ?_ | refine HO.k ?_ | refine HO.g ?_ | refine HO.nil ?_ | refine HC.drw mixed ?_ | refine HD.k ?_ | refine HD.g ?_ | refine HD.nil ?_ | refine HC.blk ?_ | refine HC.cond ?_ | refine HC.skip ?_ | refine HC.exit ?_ | refine HC.ret ?_ | rw [fL_eq]); conv => whnf)
        rw [wrap_succ hlt (by omega)]
        intro hg'
        exact ⟨ks.length - (i + 1), fg [1, 2, 10, 11, 12] _, _, by omega, Wk.fg hg'.1 hg'.2, i + 1, hlt, rfl, rfl, .inr ⟨Nat.lt_succ_self _, rfl⟩⟩
      · repeat ((first | refine HC.seq ?_ | refine HC.ops ?_ | refine HO.k ?_ | refine HO.g ?_ | refine HO.nil ?_ | refine HC.drw mixed ?_ | refine HD.k ?_ | refine HD.g ?_ | refine HD.nil ?_ | refine HC.blk ?_ | refine HC.cond ?_ | refine HC.skip ?_ | refine HC.exit ?_ | refine HC.ret ?_ | rw [fL_eq]); conv => whnf)
        refine ⟨rfl, Int.natCast_nonneg _, by omega, ?_⟩
        conv => whnf
        repeat ((first | refine HC.seq ?_ | refine HC.ops ?_ | refine HO.k ?_ | refine HO.g ?_ | refine HO.nil ?_ | refine HC.drw mixed ?_ | refine HD.k ?_ | refine HD.g ?_ | refine HD.nil ?_ | refine HC.blk ?_ | refine HC.cond ?_ | refine HC.skip ?_ | refine HC.exit ?_ | refine HC.ret ?_ | rw [fL_eq]); conv => whnf)
        refine fNth_of hmx ?_
        conv => whnf
        repeat ((first | refine HC.seq ?_ | refine HC.ops ?_ | refine HO.k ?_ | refine HO.g ?_ | refine HO.nil ?_ | refine HC.drw mixed ?_ | refine HD.k ?_ | refine HD.g ?_ | refine HD.nil ?_ | refine HC.blk ?_ | refine HC.cond ?_ | refine HC.skip ?_ | refine HC.exit ?_ | refine HC.ret ?_ | rw [fL_eq]); conv => whnf)
        refine ⟨_, _, cloneK_den a hkl _, ?_⟩
        conv => whnf
        repeat ((first | refine HC.seq ?_ | refine HC.ops ?_ | refine HO.k ?_ | refine HO.g ?_ | refine HO.nil ?_ | refine HC.drw mixed ?_ | refine HD.k ?_ | refine HD.g ?_ | refine HD.nil ?_ | refine HC.blk ?_ | refine HC.cond ?_ | refine HC.skip ?_ | refine HC.exit ?_ | refine HC.ret ?_ | rw [fL_eq]); conv => whnf)
        refine ⟨stays_one rfl, ?_⟩
        conv => whnf
        repeat ((first | refine HC.seq ?_ | refine HC.ops ?_ | refine HO.k ?_ | refine HO.g ?_ | refine HO.nil ?_ | refine HC.drw mixed ?_ | refine HD.k ?_ | refine HD.g ?_ | refine HD.nil ?_ | refine HC.blk ?_ | refine HC.cond ?_ | refine HC.skip ?_ | refine HC.exit ?_ | refine HC.ret ?_ | rw [fL_eq]); conv => whnf)
        refine ⟨rfl, Int.natCast_nonneg _, by omega, ?_⟩
        conv => whnf
        repeat ((first | refine HC.seq ?_ | refine HC.ops ?_ | refine HO.k ?_ | refine HO.g ?_ | refine HO.nil ?_ | refine HC.drw mixed ?_ | refine HD.k ?_ | refine HD.g ?_ | refine HD.nil ?_ | refine HC.blk ?_ | refine HC.cond ?_ | refine HC.skip ?_ | refine HC.exit ?_ | refine HC.ret ?_ | rw [fL_eq]); conv => whnf)
        refine fPut1 (v := kV a) (by simpa using hlt) ?_
        rw [set_same hmx]
        conv => whnf
        repeat ((first | refine HC.seq ?_ | refine HC.ops ?_ | refine HO.k ?_ | refine HO.g ?_ | refine HO.nil ?_ | refine HC.drw mixed ?_ | refine HD.k ?_ | refine HD.g ?_ | refine HD.nil ?_ | refine HC.blk ?_ | refine HC.cond ?_ | refine HC.skip ?_ | refine HC.exit ?_ | refine HC.ret ?_ | rw [fL_eq]); conv => whnf)
        rw [wrap_succ hlt (by omega)]
        intro hg'
        exact ⟨ks.length - (i + 1), fg [1, 2, 10, 11, 12] _, _, by omega, Wk.fg hg'.1 hg'.2, i + 1, hlt, rfl, rfl, .inl ⟨by omega, rfl⟩⟩
    · exfalso
      rw [ltZ_eq] at h1; simp at h1; omega
  · conv => whnf
    repeat ((first | refine HC.seq ?_ | refine HC.ops ?_ | refine HO.k ?_ | refine HO.g ?_ | refine HO.nil ?_ | refine HC.drw mixed ?_ | refine HD.k ?_ | refine HD.g ?_ | refine HD.nil ?_ | refine HC.blk ?_ | refine HC.cond ?_ | refine HC.skip ?_ | refine HC.exit ?_ | refine HC.ret ?_ | rw [fL_eq]); conv => whnf)
    refine brB_iff.2 ⟨fun h1 => ?_, fun h1 => ?_⟩ <;> conv => whnf
    · have hlt : i < ks.length := by rw [ltZ_eq] at h1; simpa using h1
      have hmx : ((ks.map kV).set p (.sl 2 3 0 kp.length none))[0 + ((i : Nat) : Int).toNat * 1]? = some (kV ks[i]) := by
        rw [List.getElem?_set_ne (by simp; omega)]; simp [hlt]
      have hkl := hk ks[i] (List.getElem_mem hlt)
      generalize ks[i] = a at hmx hkl
      repeat ((first | refine HC.seq ?_ | refine HC.ops ?_ | refine HO.k ?_ | refine HO.g ?_ | refine HO.nil ?_ | refine HC.drw mixed ?_ | refine HD.k ?_ | refine HD.g ?_ | refine HD.nil ?_ | refine HC.blk ?_ | refine HC.cond ?_ | refine HC.skip ?_ | refine HC.exit ?_ | refine HC.ret ?_ | rw [fL_eq]); conv => whnf)
      refine ⟨rfl, Int.natCast_nonneg _, by omega, ?_⟩
      conv => whnf
      repeat ((first | refine HC.seq ?_ | refine HC.ops ?_ | refine HO.k ?_ | refine HO.g ?_ | refine HO.nil ?_ | refine HC.drw mixed ?_ | refine HD.k ?_ | refine HD.g ?_ | refine HD.nil ?_ | refine HC.blk ?_ | refine HC.cond ?_ | refine HC.skip ?_ | refine HC.exit ?_ | refine HC.ret ?_ | rw [fL_eq]); conv => whnf)
      refine fNth_of hmx ?_
      conv => whnf
      repeat ((first | refine HC.seq ?_ | refine HC.ops ?_ | refine HO.k ?_ | refine HO.g ?_ | refine HO.nil ?_ | refine HC.drw mixed ?_ | refine HD.k ?_ | refine HD.g ?_ | refine HD.nil ?_ | refine HC.blk ?_ | refine HC.cond ?_ | refine HC.skip ?_ | refine HC.exit ?_ | refine HC.ret ?_ | rw [fL_eq]); conv => whnf)
      refine ⟨_, _, cloneK_den a hkl _, ?_⟩
      conv => whnf
      repeat ((first | refine HC.seq ?_ | refine HC.ops ?_ | refine HO.k ?_ | refine HO.g ?_ | refine HO.nil ?_ | refine HC.drw mixed ?_ | refine HD.k ?_ | refine HD.g ?_ | refine HD.nil ?_ | refine HC.blk ?_ | refine HC.cond ?_ | refine HC.skip ?_ | refine HC.exit ?_ | refine HC.ret ?_ | rw [fL_eq]); conv => whnf)
      refine ⟨stays_one rfl, ?_⟩
      conv => whnf
      repeat ((first | refine HC.seq ?_ | refine HC.ops ?_ | refine HO.k ?_ | refine HO.g ?_ | refine HO.nil ?_ | refine HC.drw mixed ?_ | refine HD.k ?_ | refine HD.g ?_ | refine HD.nil ?_ | refine HC.blk ?_ | refine HC.cond ?_ | refine HC.skip ?_ | refine HC.exit ?_ | refine HC.ret ?_ | rw [fL_eq]); conv => whnf)
      refine ⟨rfl, Int.natCast_nonneg _, by omega, ?_⟩
      conv => whnf
      repeat ((first | refine HC.seq ?_ | refine HC.ops ?_ | refine HO.k ?_ | refine HO.g ?_ | refine HO.nil ?_ | refine HC.drw mixed ?_ | refine HD.k ?_ | refine HD.g ?_ | refine HD.nil ?_ | refine HC.blk ?_ | refine HC.cond ?_ | refine HC.skip ?_ | refine HC.exit ?_ | refine HC.ret ?_ | rw [fL_eq]); conv => whnf)
      refine fPut1 (v := kV a) (by simpa using hlt) ?_
      rw [set_same hmx]
      conv => whnf
      repeat ((first | refine HC.seq ?_ | refine HC.ops ?_ | refine HO.k ?_ | refine HO.g ?_ | refine HO.nil ?_ | refine HC.drw mixed ?_ | refine HD.k ?_ | refine HD.g ?_ | refine HD.nil ?_ | refine HC.blk ?_ | refine HC.cond ?_ | refine HC.skip ?_ | refine HC.exit ?_ | refine HC.ret ?_ | rw [fL_eq]); conv => whnf)
      rw [wrap_succ hlt (by omega)]
      intro hg'
      exact ⟨ks.length - (i + 1), fg [1, 2, 10, 11, 12] _, _, by omega, Wk.fg hg'.1 hg'.2, i + 1, hlt, rfl, rfl, .inr ⟨by omega, rfl⟩⟩
    · repeat ((first | refine HC.seq ?_ | refine HC.ops ?_ | refine HO.k ?_ | refine HO.g ?_ | refine HO.nil ?_ | refine HC.drw mixed ?_ | refine HD.k ?_ | refine HD.g ?_ | refine HD.nil ?_ | refine HC.blk ?_ | refine HC.cond ?_ | refine HC.skip ?_ | refine HC.exit ?_ | refine HC.ret ?_ | rw [fL_eq]); conv => whnf)
      exact ⟨.refl _, TSub.sub (.n (.n (.n .e (.inr rfl) .e) (.inl rfl) .e) (.inl rfl) (.n .e (.inr rfl) .e)) _ _⟩
end Go.Proofs.YtbeoanbhnlahpaaDoor
