/-
  The law's walk: CodeCopies answers true. No statement stands here.
-/
import Derived.Test.YtbeoanbhnlahpaaDoorCopy
import Derived.Laws.BitsLemmas
set_option linter.all false
namespace Go.Proofs.YtbeoanbhnlahpaaDoor
open Go Rf
set_option maxRecDepth 100000
set_option maxHeartbeats 4000000

theorem known_pden : PDen gt0 Tryd.prog 13 [] (.b true) := by
  obtain ⟨s', h⟩ := den_of known_run
  exact Den.pure gnm0 (fun x hx => by simp at hx) (.b _) h

theorem self_den (v : Int) (ks : List Kd) (hl : ks.length ≤ maxLen) (hk : ∀ k ∈ ks, k.length ≤ maxLen) : PDen gt0 Tryd.prog 20 [pgV v ks, pgV v ks] (.b true) := by
  have := same_den v v ks ks hl hk
  rwa [decide_eq_true ⟨rfl, rfl⟩] at this
theorem rself_den (v : Int) (ks : List Kd) (hl : ks.length ≤ maxLen) (hk : ∀ k ∈ ks, k.length ≤ maxLen) : PDen gt0 Tryd.prog 17 [pgV v ks, pgV v ks] (.b true) := by
  have := rsame_den v v ks ks hl hk
  rwa [decide_eq_true ⟨rfl, rfl⟩] at this

/-- a kind that lies in an object; kinds; a program -/
theorem rd_kind {s : St} {l n : Nat} {k : Kd} {z : Nat} {t : Option Nat} (hg : s.get l = some (.c (insC k) z t)) (hn : n = k.length) : Rd s (.sl 2 l 0 n none) (kV k) := by
  subst hn
  have hlen : ∀ k : Kd, (insC k).length = k.length * 2 := fun k => by
    induction k with
    | nil => rfl
    | cons x k ih => rw [insC_cons]; simp only [List.length_cons, ih]; omega
  have hcell : ∀ (k : Kd) (i j : Nat), i < k.length → j < 2 → (insC k).getD (0 + i * 2 + j) .bad = ((k.map insV).getD i .bad).cells.getD j .bad := fun k => by
    induction k with
    | nil => intro i j hi; simp at hi
    | cons x k ih =>
      intro i j hi hj
      rw [insC_cons]
      cases i with
      | zero => match j, hj with
        | 0, _ => rfl
        | 1, _ => rfl
      | succ i =>
        have := ih i j (by simpa using hi) hj
        have e : 0 + (i + 1) * 2 + j = (0 + i * 2 + j) + 2 := by omega
        rw [e]
        simpa [List.getD] using this
  refine .sl 2 l 0 k.length none (insC k) z t (k.map insV) hg (by rw [hlen]; omega) (by simp) (fun i hi => ?_) (fun i j hi hj => ?_)
  · rw [List.getD, List.getElem?_map, List.getElem?_eq_getElem hi]; rfl
  · rw [hcell k i j hi hj]; exact .refl _
theorem rd_kinds {s : St} {l n : Nat} {ks : List Kd} {cs : List V} {z : Nat} {t : Option Nat} (hg : s.get l = some (.c cs z t)) (hn : n = ks.length) (hc : cs.length = ks.length) (h : ∀ j k, ks[j]? = some k → Rd s (cs.getD j .bad) (kV k)) : Rd s (.sl 1 l 0 n none) (ksV ks) := by
  subst hn
  refine .sl 1 l 0 ks.length none cs z t (ks.map kV) hg (by omega) (by simp) (fun i hi => ?_) (fun i j hi hj => ?_)
  · rw [List.getD, List.getElem?_map, List.getElem?_eq_getElem hi]; rfl
  · have hj : j = 0 := by omega
    subst hj
    have e0 : (ks.map kV).getD i .bad = kV ks[i] := by rw [List.getD, List.getElem?_map, List.getElem?_eq_getElem hi]; rfl
    have e : ((ks.map kV).getD i .bad).cells.getD 0 .bad = kV ks[i] := by rw [e0]; rfl
    rw [e, show 0 + i * 1 + 0 = i by omega]
    exact h i ks[i] (List.getElem?_eq_getElem hi)
theorem rd_pg {s : St} {v : Int} {n : Nat} {ks : List Kd} (h : Rd s (.sl 1 2 0 n none) (ksV ks)) : Rd s (pV v n) (pgV v ks) :=
  .ag _ _ rfl fun j hj => by
    match j, hj with
    | 0, _ => exact .refl _
    | 1, _ => exact h

theorem law_much (v w : Int) (ks js : List Kd) (kd at' : Int) (h1 : ks.length ≤ maxLen) (h2 : js.length ≤ maxLen) (hm : much ks = true ∨ much js = true) : PDen gt0 Tryd.prog 6 [pgV v ks, pgV w js, .i .i64 kd, .i .i64 at'] (.b true) := by
  refine PDen.hc gnm0 hF6 (fun x hx => ?_) (.b _) ?_
  · simp only [List.mem_cons, List.not_mem_nil, or_false] at hx
    rcases hx with rfl | rfl | rfl | rfl
    · exact pgV_nm _ _
    · exact pgV_nm _ _
    · exact .i _ _
    · exact .i _ _
  have d1 := much_den v ks h1
  have d2 := much_den w js h2
  generalize much ks = m1 at d1 hm
  generalize much js = m2 at d2 hm
  conv => whnf
  repeat ((first | refine HC.seq ?_ | refine HC.ops ?_ | refine HO.k ?_ | refine HO.g ?_ | refine HO.nil ?_ | refine HC.drw mixed ?_ | refine HD.k ?_ | refine HD.g ?_ | refine HD.nil ?_ | refine HC.blk ?_ | refine HC.cond ?_ | refine HC.skip ?_ | refine HC.exit ?_ | refine HC.ret ?_ | rw [fL_eq]); conv => whnf)
  refine ⟨_, _, d1 _, ?_⟩
  conv => whnf
  cases m1
  · cases m2
    · simp at hm
    · repeat ((first | refine HC.seq ?_ | refine HC.ops ?_ | refine HO.k ?_ | refine HO.g ?_ | refine HO.nil ?_ | refine HC.drw mixed ?_ | refine HD.k ?_ | refine HD.g ?_ | refine HD.nil ?_ | refine HC.blk ?_ | refine HC.cond ?_ | refine HC.skip ?_ | refine HC.exit ?_ | refine HC.ret ?_ | rw [fL_eq]); conv => whnf)
      refine ⟨_, _, d2 _, ?_⟩
      conv => whnf
      repeat ((first | refine HC.seq ?_ | refine HC.ops ?_ | refine HO.k ?_ | refine HO.g ?_ | refine HO.nil ?_ | refine HC.drw mixed ?_ | refine HD.k ?_ | refine HD.g ?_ | refine HD.nil ?_ | refine HC.blk ?_ | refine HC.cond ?_ | refine HC.skip ?_ | refine HC.exit ?_ | refine HC.ret ?_ | rw [fL_eq]); conv => whnf)
      refine ⟨_, _, known_pden _, ?_⟩
      conv => whnf
      repeat ((first | refine HC.seq ?_ | refine HC.ops ?_ | refine HO.k ?_ | refine HO.g ?_ | refine HO.nil ?_ | refine HC.drw mixed ?_ | refine HD.k ?_ | refine HD.g ?_ | refine HD.nil ?_ | refine HC.blk ?_ | refine HC.cond ?_ | refine HC.skip ?_ | refine HC.exit ?_ | refine HC.ret ?_ | rw [fL_eq]); conv => whnf)
  · repeat ((first | refine HC.seq ?_ | refine HC.ops ?_ | refine HO.k ?_ | refine HO.g ?_ | refine HO.nil ?_ | refine HC.drw mixed ?_ | refine HD.k ?_ | refine HD.g ?_ | refine HD.nil ?_ | refine HC.blk ?_ | refine HC.cond ?_ | refine HC.skip ?_ | refine HC.exit ?_ | refine HC.ret ?_ | rw [fL_eq]); conv => whnf)
    refine ⟨_, _, known_pden _, ?_⟩
    conv => whnf
    repeat ((first | refine HC.seq ?_ | refine HC.ops ?_ | refine HO.k ?_ | refine HO.g ?_ | refine HO.nil ?_ | refine HC.drw mixed ?_ | refine HD.k ?_ | refine HD.g ?_ | refine HD.nil ?_ | refine HC.blk ?_ | refine HC.cond ?_ | refine HC.skip ?_ | refine HC.exit ?_ | refine HC.ret ?_ | rw [fL_eq]); conv => whnf)

theorem not_much {ks : List Kd} (hl : ks.length ≤ 12) (hk : ∀ k ∈ ks, k.length ≤ 200) : much ks = false := by
  have h1 : ks.any (fun k => decide (200 < k.length)) = false := List.any_eq_false.2 fun k h => by simpa using hk k h
  simp [much, h1]; omega
theorem of_much {ks : List Kd} (h : much ks = false) : ks.length ≤ 12 ∧ ∀ k ∈ ks, k.length ≤ 200 := by
  simp only [much, Bool.or_eq_false_iff, decide_eq_false_iff_not, List.any_eq_false, decide_eq_true_eq] at h
  exact ⟨by omega, fun k hk => by have := h.2 k hk; omega⟩

theorem law_nil (v w : Int) (js : List Kd) (kd at' : Int) (hl' : js.length ≤ 12) (hk' : ∀ k ∈ js, k.length ≤ 200) : PDen gt0 Tryd.prog 6 [pgV v [], pgV w js, .i .i64 kd, .i .i64 at'] (.b true) := by
  obtain ⟨ks, hks⟩ : ∃ ks : List Kd, ks = [] := ⟨_, rfl⟩
  have hl : ks.length ≤ 12 := by subst hks; decide
  have hk : ∀ k ∈ ks, k.length ≤ 200 := by subst hks; simp
  rw [← hks]
  have hx1 : ks.length ≤ maxLen := Nat.le_trans hl (by decide)
  have hx2 : ∀ k ∈ ks, k.length ≤ maxLen := fun k h => Nat.le_trans (hk k h) (by decide)
  have hy1 : js.length ≤ maxLen := Nat.le_trans hl' (by decide)
  have hy2 : ∀ k ∈ js, k.length ≤ maxLen := fun k h => Nat.le_trans (hk' k h) (by decide)
  refine PDen.hc gnm0 hF6 (fun x hx => ?_) (.b _) ?_
  · simp only [List.mem_cons, List.not_mem_nil, or_false] at hx
    rcases hx with rfl | rfl | rfl | rfl
    · exact pgV_nm _ _
    · exact pgV_nm _ _
    · exact .i _ _
    · exact .i _ _
  have d1 := much_den v ks hx1
  have d2 := much_den w js hy1
  rw [not_much hl hk] at d1
  rw [not_much hl' hk'] at d2
  have e1 := same_den v w ks js hx1 hx2
  have e2 := rsame_den v w ks js hx1 hx2
  have e3 := same_den w v js ks hy1 hy2
  have e4 := rsame_den w v js ks hy1 hy2
  have hd : decide (w = v ∧ js = ks) = decide (v = w ∧ ks = js) := decide_eq_decide.2 ⟨fun h => ⟨h.1.symm, h.2.symm⟩, fun h => ⟨h.1.symm, h.2.symm⟩⟩
  rw [hd] at e3 e4
  generalize decide (v = w ∧ ks = js) = d at e1 e2 e3 e4
  clear hd
  have s1 := self_den v ks hx1 hx2
  have s2 := rself_den v ks hx1 hx2

  have hC := copy_nil v
  rw [← hks] at hC
  cases d <;> (conv => whnf)
  all_goals
    repeat' (first | ((first | refine HC.seq ?_ | refine HC.ops ?_ | refine HO.k ?_ | refine HO.g ?_ | refine HO.nil ?_ | refine HC.drw mixed ?_ | refine HD.k ?_ | refine HD.g ?_ | refine HD.nil ?_ | refine HC.blk ?_ | refine HC.cond ?_ | refine HC.skip ?_ | refine HC.exit ?_ | refine HC.ret ?_ | rw [fL_eq] | refine ⟨_, _, d1 _, ?_⟩ | refine ⟨_, _, d2 _, ?_⟩ | refine ⟨_, _, e1 _, ?_⟩ | refine ⟨_, _, e2 _, ?_⟩ | refine ⟨_, _, e3 _, ?_⟩ | refine ⟨_, _, e4 _, ?_⟩ | refine ⟨stays_one rfl, ?_⟩ | refine ⟨_, _, known_pden _, ?_⟩ | refine ⟨_, _, hC _, ?_⟩ | refine ⟨_, _, s1 _, ?_⟩ | refine ⟨_, _, s2 _, ?_⟩); conv => whnf) | (refine brB_iff.2 ⟨fun hc => ?_, fun hc => ?_⟩ <;> conv => whnf))
  all_goals
    exfalso
    subst hks
    simp_all [ltZ_eq, leZ_eq]
    try omega

theorem law_out (v w : Int) (ks js : List Kd) (kd at' : Int) (hl : ks.length ≤ 12) (hk : ∀ k ∈ ks, k.length ≤ 200) (hl' : js.length ≤ 12) (hk' : ∀ k ∈ js, k.length ≤ 200) (h0 : ks ≠ []) (hout : ¬ ∃ (p : Nat) (kp : Kd) (q : Nat), kd = p ∧ ks[p]? = some kp ∧ at' = q ∧ q < kp.length) : PDen gt0 Tryd.prog 6 [pgV v ks, pgV w js, .i .i64 kd, .i .i64 at'] (.b true) := by
  have hx1 : ks.length ≤ maxLen := Nat.le_trans hl (by decide)
  have hx2 : ∀ k ∈ ks, k.length ≤ maxLen := fun k h => Nat.le_trans (hk k h) (by decide)
  have hy1 : js.length ≤ maxLen := Nat.le_trans hl' (by decide)
  have hy2 : ∀ k ∈ js, k.length ≤ maxLen := fun k h => Nat.le_trans (hk' k h) (by decide)
  refine PDen.hc gnm0 hF6 (fun x hx => ?_) (.b _) ?_
  · simp only [List.mem_cons, List.not_mem_nil, or_false] at hx
    rcases hx with rfl | rfl | rfl | rfl
    · exact pgV_nm _ _
    · exact pgV_nm _ _
    · exact .i _ _
    · exact .i _ _
  have d1 := much_den v ks hx1
  have d2 := much_den w js hy1
  rw [not_much hl hk] at d1
  rw [not_much hl' hk'] at d2
  have e1 := same_den v w ks js hx1 hx2
  have e2 := rsame_den v w ks js hx1 hx2
  have e3 := same_den w v js ks hy1 hy2
  have e4 := rsame_den w v js ks hy1 hy2
  have hd : decide (w = v ∧ js = ks) = decide (v = w ∧ ks = js) := decide_eq_decide.2 ⟨fun h => ⟨h.1.symm, h.2.symm⟩, fun h => ⟨h.1.symm, h.2.symm⟩⟩
  rw [hd] at e3 e4
  generalize decide (v = w ∧ ks = js) = d at e1 e2 e3 e4
  clear hd
  have s1 := self_den v ks hx1 hx2
  have s2 := rself_den v ks hx1 hx2

  have hC := copy_den v ks h0 hl hk
  have hR : ∀ s : St, s.get 2 = some (.c (ks.map kV) 0 (some 27)) → Rd s (pV v ks.length) (pgV v ks) := fun s hs => rd_pg (rd_kinds hs rfl (by simp) (fun j k hj => by
    have : (ks.map kV).getD j .bad = kV k := by rw [List.getD, List.getElem?_map, hj]; rfl
    rw [this]; exact .refl _))
  have hF : ∀ (f : FuncId) (s : St), PDen gt0 Tryd.prog f [pgV v ks, pgV v ks] (.b true) → s.get 2 = some (.c (ks.map kV) 0 (some 27)) → Den gt0 Tryd.prog f [pV v ks.length, pgV v ks] s (.b true) s := fun f s h hs => PDen.still h rfl (Rd2 (hR s hs) (.refl _)) (plain_b _)
  cases d <;> (conv => whnf)
  all_goals
    repeat' (first | ((first | refine HC.seq ?_ | refine HC.ops ?_ | refine HO.k ?_ | refine HO.g ?_ | refine HO.nil ?_ | refine HC.drw mixed ?_ | refine HD.k ?_ | refine HD.g ?_ | refine HD.nil ?_ | refine HC.blk ?_ | refine HC.cond ?_ | refine HC.skip ?_ | refine HC.exit ?_ | refine HC.ret ?_ | rw [fL_eq] | refine ⟨_, _, d1 _, ?_⟩ | refine ⟨_, _, d2 _, ?_⟩ | refine ⟨_, _, e1 _, ?_⟩ | refine ⟨_, _, e2 _, ?_⟩ | refine ⟨_, _, e3 _, ?_⟩ | refine ⟨_, _, e4 _, ?_⟩ | refine ⟨stays_one rfl, ?_⟩ | refine ⟨_, _, known_pden _, ?_⟩ | refine ⟨_, _, hC, ?_⟩ | refine ⟨_, _, hF _ _ s1 rfl, ?_⟩ | refine ⟨_, _, hF _ _ s2 rfl, ?_⟩); conv => whnf) | (refine brB_iff.2 ⟨fun hc => ?_, fun hc => ?_⟩ <;> conv => whnf))
  all_goals
    have q1 : 0 ≤ kd := by have h : leZ 0 kd = true := by assumption
                           simpa [leZ_eq] using h
    have q2 : kd < ks.length := by have h : ltZ kd ks.length = true := by assumption
                                   simpa [ltZ_eq] using h
    have q3 : 0 ≤ at' := by have h : leZ 0 at' = true := by assumption
                            simpa [leZ_eq] using h
    obtain ⟨p, rfl⟩ := Int.eq_ofNat_of_zero_le q1
    obtain ⟨q, rfl⟩ := Int.eq_ofNat_of_zero_le q3
    have hpl : p < ks.length := by omega
    have hgp : ks[p]? = some ks[p] := by simp [hpl]
    have hAp : (ks.map kV)[0 + ((p : Nat) : Int).toNat * 1]? = some (kV ks[p]) := by simp [hpl]
    have hout2 : ¬ q < (ks[p]).length := fun h => hout ⟨p, ks[p], q, rfl, hgp, rfl, h⟩
    generalize ks[p] = kp at hgp hAp hout2
    have hkl : (kp.map insV).length = kp.length := List.length_map ..
    refine ⟨rfl, q1, q2, ?_⟩
    conv => whnf
    repeat' (first | ((first | refine HC.seq ?_ | refine HC.ops ?_ | refine HO.k ?_ | refine HO.g ?_ | refine HO.nil ?_ | refine HC.drw mixed ?_ | refine HD.k ?_ | refine HD.g ?_ | refine HD.nil ?_ | refine HC.blk ?_ | refine HC.cond ?_ | refine HC.skip ?_ | refine HC.exit ?_ | refine HC.ret ?_ | rw [fL_eq] | refine fNth_of hAp ?_ | refine ⟨_, _, known_pden _, ?_⟩); conv => whnf) | (refine brB_iff.2 ⟨fun hc => ?_, fun hc => ?_⟩ <;> conv => whnf))
    all_goals
      exfalso
      have h : ltZ q (kp.map insV).length = true := by assumption
      rw [ltZ_eq] at h
      simp at h
      omega

/-- the place that is written -/
theorem insC_get : ∀ (k : Kd) (q : Nat) (x : Int × Int), k[q]? = some x → (insC k)[q * 2]? = some (.i .i64 x.1) ∧ (insC k)[q * 2 + 1]? = some (.i .i64 x.2)
  | [], q, x, h => by simp at h
  | y :: k, 0, x, h => by simp at h; subst h; exact ⟨rfl, rfl⟩
  | y :: k, q + 1, x, h => by
    have := insC_get k q x (by simpa using h)
    rw [insC_cons, show (q + 1) * 2 = q * 2 + 2 by omega]
    simpa using this
theorem insC_set : ∀ (k : Kd) (q : Nat) (x : Int × Int) (n : Int), k[q]? = some x → (insC k).set (q * 2 + 1) (.i .i64 n) = insC (k.set q (x.1, n))
  | [], q, x, n, h => by simp at h
  | y :: k, 0, x, n, h => by simp at h; subst h; rfl
  | y :: k, q + 1, x, n, h => by
    have := insC_set k q x n (by simpa using h)
    rw [insC_cons, show (q + 1) * 2 + 1 = (q * 2 + 1) + 2 by omega, List.set_cons_succ, List.set_cons_succ, this]
    rfl
theorem insC_len (k : Kd) : (insC k).length = k.length * 2 := by
  induction k with
  | nil => rfl
  | cons x k ih => rw [insC_cons]; simp only [List.length_cons, ih]; omega
theorem wrap_ne (n : Int) : wrapF .i64 (n + 1) ≠ n := by
  rw [wrapF_eq, IntKind.wrap_i64]
  omega

theorem law_pick (v w : Int) (ks js : List Kd) (p q : Nat) (kp : Kd) (x : Int × Int) (hl : ks.length ≤ 12) (hk : ∀ k ∈ ks, k.length ≤ 200) (hl' : js.length ≤ 12) (hk' : ∀ k ∈ js, k.length ≤ 200) (hp : ks[p]? = some kp) (hq : kp[q]? = some x) : PDen gt0 Tryd.prog 6 [pgV v ks, pgV w js, .i .i64 (p : Nat), .i .i64 (q : Nat)] (.b true) := by
  have hx1 : ks.length ≤ maxLen := Nat.le_trans hl (by decide)
  have hx2 : ∀ k ∈ ks, k.length ≤ maxLen := fun k h => Nat.le_trans (hk k h) (by decide)
  have hy1 : js.length ≤ maxLen := Nat.le_trans hl' (by decide)
  have hy2 : ∀ k ∈ js, k.length ≤ maxLen := fun k h => Nat.le_trans (hk' k h) (by decide)
  refine PDen.hc gnm0 hF6 (fun x hx => ?_) (.b _) ?_
  · simp only [List.mem_cons, List.not_mem_nil, or_false] at hx
    rcases hx with rfl | rfl | rfl | rfl
    · exact pgV_nm _ _
    · exact pgV_nm _ _
    · exact .i _ _
    · exact .i _ _
  have d1 := much_den v ks hx1
  have d2 := much_den w js hy1
  rw [not_much hl hk] at d1
  rw [not_much hl' hk'] at d2
  have e1 := same_den v w ks js hx1 hx2
  have e2 := rsame_den v w ks js hx1 hx2
  have e3 := same_den w v js ks hy1 hy2
  have e4 := rsame_den w v js ks hy1 hy2
  have hd : decide (w = v ∧ js = ks) = decide (v = w ∧ ks = js) := decide_eq_decide.2 ⟨fun h => ⟨h.1.symm, h.2.symm⟩, fun h => ⟨h.1.symm, h.2.symm⟩⟩
  rw [hd] at e3 e4
  generalize decide (v = w ∧ ks = js) = d at e1 e2 e3 e4
  clear hd
  have s1 := self_den v ks hx1 hx2
  have s2 := rself_den v ks hx1 hx2

  have hne : kp ≠ [] := fun h => by subst h; simp at hq
  have hpl : p < ks.length := (List.getElem?_eq_some_iff.1 hp).1
  have hql : q < kp.length := (List.getElem?_eq_some_iff.1 hq).1
  have hkp := hk kp (List.mem_of_getElem? hp)
  have hC := copy_pick v ks p kp hp hne hl hk
  generalize hK : (ks.map kV).set p (.sl 2 3 0 kp.length none) = K at hC
  have hKp : K[0 + ((p : Nat) : Int).toNat * 1]? = some (.sl 2 3 0 kp.length none) := by subst hK; simp [hpl]
  have hKl : K.length = ks.length := by subst hK; simp
  have hAp : (ks.map kV)[((p : Nat) : Int).toNat]? = some (kV kp) := by simp [hp]
  have hAq : (kp.map insV)[((q : Nat) : Int).toNat]? = some (insV x) := by simp [hq]
  have hxp : (x.1, wrapF .i64 (x.2 + 1)) ≠ x := fun h => wrap_ne x.2 (congrArg Prod.snd h)
  have hR : ∀ (s : St) (c : Kd), s.get 2 = some (.c K 0 (some 27)) → s.get 3 = some (.c (insC c) 0 (some 29)) → c.length = kp.length → Rd s (pV v ks.length) (pgV v (ks.set p c)) := fun s c h2 h3 hc => rd_pg (rd_kinds h2 (by simp) (by simp [hKl]) (fun j k hj => by
    subst hK
    by_cases e : j = p
    · subst e
      have hk0 : k = c := by rw [List.getElem?_set_self hpl] at hj; exact (Option.some.inj hj).symm
      subst hk0
      have : ((ks.map kV).set j (.sl 2 3 0 kp.length none)).getD j .bad = .sl 2 3 0 kp.length none := by rw [List.getD, List.getElem?_set_self (by simpa using hpl)]; rfl
      rw [this]
      exact rd_kind h3 hc.symm
    · rw [List.getElem?_set_ne (Ne.symm e)] at hj
      have : ((ks.map kV).set p (.sl 2 3 0 kp.length none)).getD j .bad = kV k := by rw [List.getD, List.getElem?_set_ne (Ne.symm e), List.getElem?_map, hj]; rfl
      rw [this]; exact .refl _))
  have hF : ∀ (f : FuncId) (s : St), PDen gt0 Tryd.prog f [pgV v ks, pgV v ks] (.b true) → s.get 2 = some (.c K 0 (some 27)) → s.get 3 = some (.c (insC kp) 0 (some 29)) → Den gt0 Tryd.prog f [pV v ks.length, pgV v ks] s (.b true) s := fun f s h h2 h3 => PDen.still h rfl (Rd2 (by have := hR s kp h2 h3 rfl; rwa [set_same hp] at this) (.refl _)) (plain_b _)
  have hN : PDen gt0 Tryd.prog 20 [pgV v (ks.set p (kp.set q (x.1, wrapF .i64 (x.2 + 1)))), pgV v ks] (.b false) := by
    have := same_den v v (ks.set p (kp.set q (x.1, wrapF .i64 (x.2 + 1)))) ks (by simpa using hx1) (fun k hk0 => by
      rcases List.mem_or_eq_of_mem_set hk0 with h | h
      · exact hx2 k h
      · subst h; simpa using hx2 kp (List.mem_of_getElem? hp))
    have hne : ¬ (v = v ∧ ks.set p (kp.set q (x.1, wrapF .i64 (x.2 + 1))) = ks) := fun h => by
      have h1 := congrArg (fun l : List Kd => l[p]?) h.2
      simp only [List.getElem?_set_self hpl, hp, Option.some.injEq] at h1
      have h2 := congrArg (fun l : Kd => l[q]?) h1
      simp only [List.getElem?_set_self hql, hq, Option.some.injEq] at h2
      exact hxp h2
    rwa [decide_eq_false hne] at this
  have hG : ∀ s : St, s.get 2 = some (.c K 0 (some 27)) → s.get 3 = some (.c ((insC kp).set (0 + ((q : Nat) : Int).toNat * 2 + 1) (.i .i64 (wrapF .i64 (x.2 + 1)))) 0 (some 29)) → Den gt0 Tryd.prog 20 [pV v ks.length, pgV v ks] s (.b false) s := fun s h2 h3 => PDen.still hN rfl (Rd2 (hR s _ h2 (by rw [h3, show 0 + ((q : Nat) : Int).toNat * 2 + 1 = q * 2 + 1 by simp, insC_set kp q x _ hq]) (by simp)) (.refl _)) (plain_b _)
  cases d <;> (conv => whnf)
  all_goals
    repeat' (first | ((first | refine HC.seq ?_ | refine HC.ops ?_ | refine HO.k ?_ | refine HO.g ?_ | refine HO.nil ?_ | refine HC.drw mixed ?_ | refine HD.k ?_ | refine HD.g ?_ | refine HD.nil ?_ | refine HC.blk ?_ | refine HC.cond ?_ | refine HC.skip ?_ | refine HC.exit ?_ | refine HC.ret ?_ | rw [fL_eq] | refine ⟨_, _, d1 _, ?_⟩ | refine ⟨_, _, d2 _, ?_⟩ | refine ⟨_, _, e1 _, ?_⟩ | refine ⟨_, _, e2 _, ?_⟩ | refine ⟨_, _, e3 _, ?_⟩ | refine ⟨_, _, e4 _, ?_⟩ | refine ⟨stays_one rfl, ?_⟩ | refine ⟨_, _, known_pden _, ?_⟩ | refine ⟨_, _, hC, ?_⟩ | refine ⟨_, _, hF _ _ s1 rfl rfl, ?_⟩ | refine ⟨_, _, hF _ _ s2 rfl rfl, ?_⟩); conv => whnf) | (refine brB_iff.2 ⟨fun hc => ?_, fun hc => ?_⟩ <;> conv => whnf))
  all_goals
    have hQ : (insC kp)[0 + ((q : Nat) : Int).toNat * 2 + 1]? = some (.i .i64 x.2) := by
      rw [show 0 + ((q : Nat) : Int).toNat * 2 + 1 = q * 2 + 1 by simp]; exact (insC_get kp q x hq).2
    have hL : 0 + ((q : Nat) : Int).toNat * 2 + 1 < (insC kp).length := by
      rw [insC_len, show 0 + ((q : Nat) : Int).toNat * 2 + 1 = q * 2 + 1 by simp]; omega
    refine ⟨rfl, Int.natCast_nonneg _, by omega, ?_⟩
    conv => whnf
    repeat' (first | ((first | refine HC.seq ?_ | refine HC.ops ?_ | refine HO.k ?_ | refine HO.g ?_ | refine HO.nil ?_ | refine HC.drw mixed ?_ | refine HD.k ?_ | refine HD.g ?_ | refine HD.nil ?_ | refine HC.blk ?_ | refine HC.cond ?_ | refine HC.skip ?_ | refine HC.exit ?_ | refine HC.ret ?_ | rw [fL_eq] | refine ⟨rfl, Int.natCast_nonneg _, by omega, ?_⟩ | refine ⟨rfl, Int.natCast_nonneg _, _, hAp, ?_⟩ | refine ⟨rfl, Int.natCast_nonneg _, _, hAq, ?_⟩ | refine fNth_of hKp ?_ | refine fNth_of hQ ?_ | refine fPut1 (v := .i .i64 (wrapF .i64 (x.2 + 1))) hL ?_ | refine ⟨_, _, hG _ rfl rfl, ?_⟩ | refine ⟨_, _, known_pden _, ?_⟩); conv => whnf) | (refine brB_iff.2 ⟨fun hc => ?_, fun hc => ?_⟩ <;> conv => whnf))
  all_goals
    exfalso
    clear hR hF hG hC hN
    simp [eqZ_eq] at hc
end Go.Proofs.YtbeoanbhnlahpaaDoor
