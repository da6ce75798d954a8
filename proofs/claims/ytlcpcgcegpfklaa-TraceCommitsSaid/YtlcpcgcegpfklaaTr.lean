/-
  Contracts: what a trace has of records, events and hits. No statement stands here.
-/
import Derived.Test.YtlcpcgcegpfklaaSelf
set_option linter.all false
namespace Go.Proofs.Ytlcpcgcegpfklaa
open Go Rf
set_option maxRecDepth 100000
set_option maxHeartbeats 2000000

/-- one token, of name 1, and nothing else -/
def ST (t : Nat) : St := ⟨.n (.n .e (some (.t t)) .e) none .e, 2, []⟩
theorem ST_get {t l : Nat} {o : O} (h : (ST t).get l = some o) : l = 1 ∧ o = .t t := by
  have e : ST t = ⟨Tr.put (some (.t t)) 2 .e 1, 2, []⟩ := rfl
  rw [e] at h
  unfold St.get at h
  by_cases h1 : l = 1
  · subst h1
    rw [Tr.get_put_same _ _ _ _ (by omega)] at h
    cases h; exact ⟨rfl, rfl⟩
  · rw [Tr.get_put_ne _ _ _ _ _ _ (by omega) (by omega) h1] at h
    simp [Tr.get] at h
theorem ST_L (t : Nat) : (ST t).L = below 2 := by funext l; simp [St.L, ST, below]
theorem wk_tok {e1 e : List V} {s : St} (ks : List Nat) (he : e1 = fg ks e) {t : Nat} (h1 : s.get 1 = some (.t t)) (hv : ∀ v ∈ e1, Nm (below 2) v) : Wk e1 (ST t) e s := by
  refine ⟨he ▸ fg_forg ks e, fun l o h => ?_, fun l h => by simp [ST] at h, fun l o h => ?_, .inr fun l cs z ty h => ?_, .inr fun l o h => ?_, .inr fun v h => ?_⟩
  · obtain ⟨rfl, rfl⟩ := ST_get h; exact h1
  · rw [ST_L]; obtain ⟨rfl, rfl⟩ := ST_get h; simp [below]
  · obtain ⟨_, h2⟩ := ST_get h; cases h2
  · obtain ⟨_, h2⟩ := ST_get h; cases h2
  · rw [ST_L]; exact hv v h
theorem wk_none {e1 e : List V} {s : St} (ks : List Nat) (he : e1 = fg ks e) (hv : ∀ v ∈ e1, Nm s0.L v) : Wk e1 s0 e s :=
  ⟨he ▸ fg_forg ks e, fun l o h => (by rw [s0_get] at h; cases h), fun l h => (by simp [s0] at h), fun l o h => (by rw [s0_get] at h; cases h), .inr fun l cs z ty h => (by rw [s0_get] at h; cases h), .inr fun l o h => (by rw [s0_get] at h; cases h), .inr hv⟩

section
variable {e : List V} {h : Tr O} {x y : Arg} {t sz bytes k n : Nat} {ag : Bool} {cs : List V}
theorem app_ns (hx : x.ev e = .ns) (hy : srcOf ⟨h, n, []⟩ sz (y.ev e) = some (k, cs)) (hk : k ≠ 0) (hr : room k bytes = true) {zs : List V} (hz : chunks ag sz cs k = zs) :
    aop e ⟨h, n, []⟩ (.app t true ag sz bytes x y) = some (.pu sz zs (.t n), ⟨Tr.put (some (.t (zs.length * sz))) (n + 1) h n, n + 1, []⟩) := by
  subst hz
  simp [aop, hx, hy, appV, hk, hr, St.new, chunks_len]
theorem app_tok {xs : List V} (hx : x.ev e = .pu sz xs (.t 1)) (hs : (⟨h, n, []⟩ : St).get 1 = some (.t (xs.length * sz))) (hy : srcOf ⟨h, n, []⟩ sz (y.ev e) = some (k, cs)) (hk : k ≠ 0) (hr : room (xs.length + k) bytes = true) {zs : List V} (hz : xs ++ chunks ag sz cs k = zs) :
    aop e ⟨h, n, []⟩ (.app t true ag sz bytes x y) = some (.pu sz zs (.t 1), ⟨Tr.put (some (.t (zs.length * sz))) 2 h 1, n, []⟩) := by
  subst hz
  simp [aop, hx, hy, appV, hk, hr, hs, St.put, chunks_len]
theorem app_ns0 (hx : x.ev e = .ns) (hy : srcOf ⟨h, n, []⟩ sz (y.ev e) = some (0, cs)) : aop e ⟨h, n, []⟩ (.app t true ag sz bytes x y) = some (.ns, ⟨h, n, []⟩) := by
  simp [aop, hx, hy, appV]
theorem app_tok0 {xs : List V} {c : Cap} (hx : x.ev e = .pu sz xs c) (hy : srcOf ⟨h, n, []⟩ sz (y.ev e) = some (0, cs)) : aop e ⟨h, n, []⟩ (.app t true ag sz bytes x y) = some (.pu sz xs c, ⟨h, n, []⟩) := by
  simp [aop, hx, hy, appV]
end
theorem room_le {n b : Nat} (h : n ≤ 6000) (hb : b ≤ 424) : room n b = true := by
  have : (2 * n + 1024) * b ≤ (2 * 6000 + 1024) * 424 := Nat.mul_le_mul (by omega) hb
  simp only [room, decide_eq_true_eq]; omega
theorem rl_cells (l : List Rc) : chunks true 6 ((l.map rV).map V.cells).flatten l.length = l.map rV := by
  induction l with
  | nil => rfl
  | cons r l ih => show rV r :: chunks true 6 ((l.map rV).map V.cells).flatten l.length = rV r :: l.map rV; rw [ih]
theorem src_rl (s : St) (l : List Rc) : srcOf s 6 (rlV l) = some (l.length, ((l.map rV).map V.cells).flatten) := by simp [srcOf, rlV]
theorem take_at {ms : List Mt} {i : Nat} {m : Mt} (h : ms[i]? = some m) : ms.take (i + 1) = ms.take i ++ [m] := by
  rw [List.take_add_one, h]; rfl
theorem pu_nm {L : Nat → Prop} (l : List Rc) (k : Nat) (hk : L k) : Nm L (.pu 6 (l.map rV) (.t k)) := .pu _ _ _ (fun v hv => by
  obtain ⟨x, -, rfl⟩ := List.mem_map.1 hv; exact rV_nm x) (fun k' hk' => by cases hk'; exact hk)
/-- at most so many records -/
def few6 (ms : List Mt) : Prop := ms.length ≤ 60 ∧ (recs ms).length ≤ 3000 ∧ ∀ m ∈ ms, m.rl.length ≤ 3000 ∧ m.vs.length ≤ 3000 ∧ m.bs.length ≤ 3000
theorem recs_take_le (ms : List Mt) (i : Nat) : (recs (ms.take i)).length ≤ (recs ms).length := by
  have : recs ms = recs (ms.take i) ++ recs (ms.drop i) := by
    unfold recs
    rw [← List.flatMap_append, ← List.filter_append, List.take_append_drop]
  rw [this, List.length_append]; omega

/-- trace.Committed -/
def E14 (ms : List Mt) (i : Nat) (v : V) : List V := .bad :: .bad :: v :: .bad :: .bad :: msV ms :: .i .i64 ((ms.map Mt.v).length : Nat) :: .i .i64 (i : Nat) :: List.replicate 13 .bad
theorem E14_nm {L : Nat → Prop} {ms : List Mt} {i : Nat} {v : V} (h : Nm L v) : ∀ x ∈ E14 ms i v, Nm L x := fun x hx => by
  simp only [E14, List.mem_cons, List.mem_replicate] at hx
  rcases hx with rfl | rfl | rfl | rfl | rfl | rfl | rfl | rfl | ⟨_, rfl⟩ <;> first | exact .bad | exact .i _ _ | exact msV_nm _ | exact h

theorem trc_den (ms : List Mt) (hf : few6 ms) : PDen gt0 Try.prog 14 [msV ms] (rlV (recs ms)) := by
  obtain ⟨hl, hrl, hm⟩ := hf
  have hml : ms.length ≤ maxLen := Nat.le_trans hl (by decide)
  refine PDen.hcw gnm0 hF14 (nm1 (msV_nm _)) (rlV_nm _) ?_
  have hlx : (ms.map Mt.v).length = ms.length := List.length_map ..
  conv => whnf
  repeat ((first | refine HO.bsl1 rfl rfl rfl ?_ | refine HC.seq ?_ | refine HC.ops ?_ | refine HO.k ?_ | refine HO.g ?_ | refine HO.nil ?_ | refine HC.drw mixed ?_ | refine HD.k ?_ | refine HD.g ?_ | refine HD.nil ?_ | refine HC.blk ?_ | refine HC.cond ?_ | refine HC.skip ?_ | refine HC.exit ?_ | refine HC.ret ?_ | rw [fL_eq]); conv => whnf)
  refine HC.loop gnm0 fun hg => ⟨fun n e s => ∃ i : Nat, i ≤ ms.length ∧ n = ms.length - i ∧ ((recs (ms.take i) = [] ∧ e = E14 ms i .ns ∧ s = s0) ∨ (e = E14 ms i (.pu 6 ((recs (ms.take i)).map rV) (.t 1)) ∧ s = ST (((recs (ms.take i)).map rV).length * 6))), ⟨ms.length, fg [2, 5, 6, 7] _, _, Wk.fg hg.1 hg.2, 0, Nat.zero_le _, rfl, .inl ⟨rfl, rfl, rfl⟩⟩, ?_⟩
  rintro n e s ⟨i, hi, rfl, ⟨hr0, rfl, rfl⟩ | ⟨rfl, rfl⟩⟩
  · conv => whnf
    repeat ((first | refine HO.bsl1 rfl rfl rfl ?_ | refine HC.seq ?_ | refine HC.ops ?_ | refine HO.k ?_ | refine HO.g ?_ | refine HO.nil ?_ | refine HC.drw mixed ?_ | refine HD.k ?_ | refine HD.g ?_ | refine HD.nil ?_ | refine HC.blk ?_ | refine HC.cond ?_ | refine HC.skip ?_ | refine HC.exit ?_ | refine HC.ret ?_ | rw [fL_eq]); conv => whnf)
    refine brB_iff.2 ⟨fun h1 => ?_, fun h1 => ?_⟩ <;> conv => whnf
    · have hlt : i < ms.length := by rw [ltZ_eq] at h1; simp at h1; omega
      have hmx : (ms.map Mt.v)[((i : Nat) : Int).toNat]? = some (ms[i]).v := by simp [hlt]
      have hgi : ms[i]? = some ms[i] := by simp [hlt]
      have hmi := hm ms[i] (List.getElem_mem hlt)
      generalize ms[i] = m at hmx hgi hmi
      have htk := take_at hgi
      have hra := recs_app (ms.take i) m
      rw [← htk, hr0, List.nil_append] at hra
      repeat ((first | refine HO.bsl1 rfl rfl rfl ?_ | refine HC.seq ?_ | refine HC.ops ?_ | refine HO.k ?_ | refine HO.g ?_ | refine HO.nil ?_ | refine HC.drw mixed ?_ | refine HD.k ?_ | refine HD.g ?_ | refine HD.nil ?_ | refine HC.blk ?_ | refine HC.cond ?_ | refine HC.skip ?_ | refine HC.exit ?_ | refine HC.ret ?_ | rw [fL_eq]); conv => whnf)
      refine ⟨rfl, Int.natCast_nonneg _, _, hmx, ?_⟩
      conv => whnf
      repeat ((first | refine HO.bsl1 rfl rfl rfl ?_ | refine HC.seq ?_ | refine HC.ops ?_ | refine HO.k ?_ | refine HO.g ?_ | refine HO.nil ?_ | refine HC.drw mixed ?_ | refine HD.k ?_ | refine HD.g ?_ | refine HD.nil ?_ | refine HC.blk ?_ | refine HC.cond ?_ | refine HC.skip ?_ | refine HC.exit ?_ | refine HC.ret ?_ | rw [fL_eq]); conv => whnf)
      refine brB_iff.2 ⟨fun h2 => ?_, fun h2 => ?_⟩ <;> conv => whnf
      · rw [if_pos (show isC m = true from h2)] at hra
        repeat ((first | refine HO.bsl1 rfl rfl rfl ?_ | refine HC.seq ?_ | refine HC.ops ?_ | refine HO.k ?_ | refine HO.g ?_ | refine HO.nil ?_ | refine HC.drw mixed ?_ | refine HD.k ?_ | refine HD.g ?_ | refine HD.nil ?_ | refine HC.blk ?_ | refine HC.cond ?_ | refine HC.skip ?_ | refine HC.exit ?_ | refine HC.ret ?_ | rw [fL_eq]); conv => whnf)
        by_cases hz : m.rl = []
        · refine ⟨_, _, app_ns0 rfl (by rw [show (_ : V) = rlV m.rl from rfl, hz]; rfl), ?_⟩
          conv => whnf
          repeat ((first | refine HO.bsl1 rfl rfl rfl ?_ | refine HC.seq ?_ | refine HC.ops ?_ | refine HO.k ?_ | refine HO.g ?_ | refine HO.nil ?_ | refine HC.drw mixed ?_ | refine HD.k ?_ | refine HD.g ?_ | refine HD.nil ?_ | refine HC.blk ?_ | refine HC.cond ?_ | refine HC.skip ?_ | refine HC.exit ?_ | refine HC.ret ?_ | rw [fL_eq]); conv => whnf)
          rw [wrap_succ hlt hml]
          intro hg'
          exact ⟨ms.length - (i + 1), _, _, by omega, wk_none [2, 5, 6, 7] rfl (E14_nm .ns), i + 1, hlt, rfl, .inl ⟨by rw [hra, hz], rfl, rfl⟩⟩
        · refine ⟨_, _, app_ns (zs := (recs (ms.take (i + 1))).map rV) rfl (src_rl _ m.rl) (by simpa using hz) (room_le (by omega) (by omega)) ((rl_cells m.rl).trans (by rw [hra])), ?_⟩
          conv => whnf
          repeat ((first | refine HO.bsl1 rfl rfl rfl ?_ | refine HC.seq ?_ | refine HC.ops ?_ | refine HO.k ?_ | refine HO.g ?_ | refine HO.nil ?_ | refine HC.drw mixed ?_ | refine HD.k ?_ | refine HD.g ?_ | refine HD.nil ?_ | refine HC.blk ?_ | refine HC.cond ?_ | refine HC.skip ?_ | refine HC.exit ?_ | refine HC.ret ?_ | rw [fL_eq]); conv => whnf)
          rw [wrap_succ hlt hml]
          intro hg'
          exact ⟨ms.length - (i + 1), _, _, by omega, wk_tok [2, 5, 6, 7] rfl rfl (E14_nm (pu_nm _ 1 (by simp [below]))), i + 1, hlt, rfl, .inr ⟨rfl, rfl⟩⟩
      · rw [if_neg (by rw [show isC m = false from h2]; decide)] at hra
        repeat ((first | refine HO.bsl1 rfl rfl rfl ?_ | refine HC.seq ?_ | refine HC.ops ?_ | refine HO.k ?_ | refine HO.g ?_ | refine HO.nil ?_ | refine HC.drw mixed ?_ | refine HD.k ?_ | refine HD.g ?_ | refine HD.nil ?_ | refine HC.blk ?_ | refine HC.cond ?_ | refine HC.skip ?_ | refine HC.exit ?_ | refine HC.ret ?_ | rw [fL_eq]); conv => whnf)
        rw [wrap_succ hlt hml]
        intro hg'
        exact ⟨ms.length - (i + 1), _, _, by omega, wk_none [2, 5, 6, 7] rfl (E14_nm .ns), i + 1, hlt, rfl, .inl ⟨hra, rfl, rfl⟩⟩
    · have hge : ms.length ≤ i := by rw [ltZ_eq] at h1; simp at h1; omega
      repeat ((first | refine HO.bsl1 rfl rfl rfl ?_ | refine HC.seq ?_ | refine HC.ops ?_ | refine HO.k ?_ | refine HO.g ?_ | refine HO.nil ?_ | refine HC.drw mixed ?_ | refine HD.k ?_ | refine HD.g ?_ | refine HD.nil ?_ | refine HC.blk ?_ | refine HC.cond ?_ | refine HC.skip ?_ | refine HC.exit ?_ | refine HC.ret ?_ | rw [fL_eq]); conv => whnf)
      rw [List.take_of_length_le hge] at hr0
      rw [hr0]
      exact .one (.ns 6)
  · conv => whnf
    repeat ((first | refine HO.bsl1 rfl rfl rfl ?_ | refine HC.seq ?_ | refine HC.ops ?_ | refine HO.k ?_ | refine HO.g ?_ | refine HO.nil ?_ | refine HC.drw mixed ?_ | refine HD.k ?_ | refine HD.g ?_ | refine HD.nil ?_ | refine HC.blk ?_ | refine HC.cond ?_ | refine HC.skip ?_ | refine HC.exit ?_ | refine HC.ret ?_ | rw [fL_eq]); conv => whnf)
    refine brB_iff.2 ⟨fun h1 => ?_, fun h1 => ?_⟩ <;> conv => whnf
    · have hlt : i < ms.length := by rw [ltZ_eq] at h1; simp at h1; omega
      have hmx : (ms.map Mt.v)[((i : Nat) : Int).toNat]? = some (ms[i]).v := by simp [hlt]
      have hgi : ms[i]? = some ms[i] := by simp [hlt]
      have hmi := hm ms[i] (List.getElem_mem hlt)
      generalize ms[i] = m at hmx hgi hmi
      have htk := take_at hgi
      have hra := recs_app (ms.take i) m
      rw [← htk] at hra
      have hle := recs_take_le ms i
      repeat ((first | refine HO.bsl1 rfl rfl rfl ?_ | refine HC.seq ?_ | refine HC.ops ?_ | refine HO.k ?_ | refine HO.g ?_ | refine HO.nil ?_ | refine HC.drw mixed ?_ | refine HD.k ?_ | refine HD.g ?_ | refine HD.nil ?_ | refine HC.blk ?_ | refine HC.cond ?_ | refine HC.skip ?_ | refine HC.exit ?_ | refine HC.ret ?_ | rw [fL_eq]); conv => whnf)
      refine ⟨rfl, Int.natCast_nonneg _, _, hmx, ?_⟩
      conv => whnf
      repeat ((first | refine HO.bsl1 rfl rfl rfl ?_ | refine HC.seq ?_ | refine HC.ops ?_ | refine HO.k ?_ | refine HO.g ?_ | refine HO.nil ?_ | refine HC.drw mixed ?_ | refine HD.k ?_ | refine HD.g ?_ | refine HD.nil ?_ | refine HC.blk ?_ | refine HC.cond ?_ | refine HC.skip ?_ | refine HC.exit ?_ | refine HC.ret ?_ | rw [fL_eq]); conv => whnf)
      refine brB_iff.2 ⟨fun h2 => ?_, fun h2 => ?_⟩ <;> conv => whnf
      · rw [if_pos (show isC m = true from h2)] at hra
        repeat ((first | refine HO.bsl1 rfl rfl rfl ?_ | refine HC.seq ?_ | refine HC.ops ?_ | refine HO.k ?_ | refine HO.g ?_ | refine HO.nil ?_ | refine HC.drw mixed ?_ | refine HD.k ?_ | refine HD.g ?_ | refine HD.nil ?_ | refine HC.blk ?_ | refine HC.cond ?_ | refine HC.skip ?_ | refine HC.exit ?_ | refine HC.ret ?_ | rw [fL_eq]); conv => whnf)
        by_cases hz : m.rl = []
        · refine ⟨_, _, app_tok0 (xs := (recs (ms.take i)).map rV) (c := .t 1) rfl (by rw [show (_ : V) = rlV m.rl from rfl, hz]; rfl), ?_⟩
          rw [show recs (ms.take i) = recs (ms.take (i + 1)) by rw [hra, hz, List.append_nil]]
          conv => whnf
          repeat ((first | refine HO.bsl1 rfl rfl rfl ?_ | refine HC.seq ?_ | refine HC.ops ?_ | refine HO.k ?_ | refine HO.g ?_ | refine HO.nil ?_ | refine HC.drw mixed ?_ | refine HD.k ?_ | refine HD.g ?_ | refine HD.nil ?_ | refine HC.blk ?_ | refine HC.cond ?_ | refine HC.skip ?_ | refine HC.exit ?_ | refine HC.ret ?_ | rw [fL_eq]); conv => whnf)
          rw [wrap_succ hlt hml]
          intro hg'
          exact ⟨ms.length - (i + 1), _, _, by omega, wk_tok [2, 5, 6, 7] rfl rfl (E14_nm (pu_nm _ 1 (by simp [below]))), i + 1, hlt, rfl, .inr ⟨rfl, rfl⟩⟩
        · refine ⟨_, _, app_tok (zs := (recs (ms.take (i + 1))).map rV) (xs := (recs (ms.take i)).map rV) rfl rfl (src_rl _ m.rl) (by simpa using hz) (room_le (by rw [List.length_map]; omega) (by omega)) (by rw [rl_cells, hra, List.map_append]), ?_⟩
          conv => whnf
          repeat ((first | refine HO.bsl1 rfl rfl rfl ?_ | refine HC.seq ?_ | refine HC.ops ?_ | refine HO.k ?_ | refine HO.g ?_ | refine HO.nil ?_ | refine HC.drw mixed ?_ | refine HD.k ?_ | refine HD.g ?_ | refine HD.nil ?_ | refine HC.blk ?_ | refine HC.cond ?_ | refine HC.skip ?_ | refine HC.exit ?_ | refine HC.ret ?_ | rw [fL_eq]); conv => whnf)
          rw [wrap_succ hlt hml]
          intro hg'
          exact ⟨ms.length - (i + 1), _, _, by omega, wk_tok [2, 5, 6, 7] rfl rfl (E14_nm (pu_nm _ 1 (by simp [below]))), i + 1, hlt, rfl, .inr ⟨rfl, rfl⟩⟩
      · rw [if_neg (by rw [show isC m = false from h2]; decide), List.append_nil] at hra
        repeat ((first | refine HO.bsl1 rfl rfl rfl ?_ | refine HC.seq ?_ | refine HC.ops ?_ | refine HO.k ?_ | refine HO.g ?_ | refine HO.nil ?_ | refine HC.drw mixed ?_ | refine HD.k ?_ | refine HD.g ?_ | refine HD.nil ?_ | refine HC.blk ?_ | refine HC.cond ?_ | refine HC.skip ?_ | refine HC.exit ?_ | refine HC.ret ?_ | rw [fL_eq]); conv => whnf)
        rw [← hra]
        rw [wrap_succ hlt hml]
        intro hg'
        exact ⟨ms.length - (i + 1), _, _, by omega, wk_tok [2, 5, 6, 7] rfl rfl (E14_nm (pu_nm _ 1 (by simp [below]))), i + 1, hlt, rfl, .inr ⟨rfl, rfl⟩⟩
    · have hge : ms.length ≤ i := by rw [ltZ_eq] at h1; simp at h1; omega
      repeat ((first | refine HO.bsl1 rfl rfl rfl ?_ | refine HC.seq ?_ | refine HC.ops ?_ | refine HO.k ?_ | refine HO.g ?_ | refine HO.nil ?_ | refine HC.drw mixed ?_ | refine HD.k ?_ | refine HD.g ?_ | refine HD.nil ?_ | refine HC.blk ?_ | refine HC.cond ?_ | refine HC.skip ?_ | refine HC.exit ?_ | refine HC.ret ?_ | rw [fL_eq]); conv => whnf)
      rw [List.take_of_length_le hge]
      exact .one (.pu 6 _ _)

theorem evs_take_le (ms : List Mt) (i : Nat) : (evs (ms.take i)).length ≤ ms.length := by
  unfold evs
  rw [List.length_map]
  exact Nat.le_trans (List.length_filter_le _ _) (by rw [List.length_take]; omega)
theorem hits_take_le (ms : List Mt) (i : Nat) : (hits (ms.take i)).length ≤ ms.length := by
  unfold hits
  exact Nat.le_trans (List.length_filter_le _ _) (by rw [List.length_take]; omega)
theorem puM_nm {L : Nat → Prop} (l : List Mt) (k : Nat) (hk : L k) : Nm L (.pu 47 (l.map Mt.v) (.t k)) := .pu _ _ _ (fun v hv => by
  obtain ⟨x, -, rfl⟩ := List.mem_map.1 hv; exact mv_nm x) (fun k' hk' => by cases hk'; exact hk)
theorem stays_one {gt : Nat → Option V} {P : Program} {e : List V} {v : V} {t s' : St} {l : List St} {y : A} (h : aop e t y = some (v, s')) : stays gt P e v (.a y) (List.take 1 (t :: l)) := by
  simp only [List.take, stays, h, and_self]

/-- trace.Events -/
def E16 (ms : List Mt) (i : Nat) (v : V) : List V := .bad :: .bad :: v :: .bad :: .bad :: msV ms :: .i .i64 ((ms.map Mt.v).length : Nat) :: .i .i64 (i : Nat) :: List.replicate 20 .bad
theorem E16_nm {L : Nat → Prop} {ms : List Mt} {i : Nat} {v : V} (h : Nm L v) : ∀ x ∈ E16 ms i v, Nm L x := fun x hx => by
  simp only [E16, List.mem_cons, List.mem_replicate] at hx
  rcases hx with rfl | rfl | rfl | rfl | rfl | rfl | rfl | rfl | ⟨_, rfl⟩ <;> first | exact .bad | exact .i _ _ | exact msV_nm _ | exact h

set_option maxHeartbeats 8000000 in
theorem tre_den (ms : List Mt) (hf : few6 ms) : PDen gt0 Try.prog 16 [msV ms] (rlV (evs ms)) := by
  obtain ⟨hl, hrl, hm⟩ := hf
  have hml : ms.length ≤ maxLen := Nat.le_trans hl (by decide)
  refine PDen.hcw gnm0 hF16 (nm1 (msV_nm _)) (rlV_nm _) ?_
  have hlx : (ms.map Mt.v).length = ms.length := List.length_map ..
  conv => whnf
  repeat ((first | refine HO.bsl1 rfl rfl rfl ?_ | refine HC.seq ?_ | refine HC.ops ?_ | refine HO.k ?_ | refine HO.g ?_ | refine HO.nil ?_ | refine HC.drw mixed ?_ | refine HD.k ?_ | refine HD.g ?_ | refine HD.nil ?_ | refine HC.blk ?_ | refine HC.cond ?_ | refine HC.skip ?_ | refine HC.exit ?_ | refine HC.ret ?_ | rw [fL_eq]); conv => whnf)
  refine HC.loop gnm0 fun hg => ⟨fun n e s => ∃ i : Nat, i ≤ ms.length ∧ n = ms.length - i ∧ ((evs (ms.take i) = [] ∧ e = E16 ms i .ns ∧ s = s0) ∨ (e = E16 ms i (.pu 6 ((evs (ms.take i)).map rV) (.t 1)) ∧ s = ST (((evs (ms.take i)).map rV).length * 6))), ⟨ms.length, fg [2, 5, 6, 7] _, _, Wk.fg hg.1 hg.2, 0, Nat.zero_le _, rfl, .inl ⟨rfl, rfl, rfl⟩⟩, ?_⟩
  rintro n e s ⟨i, hi, rfl, ⟨hr0, rfl, rfl⟩ | ⟨rfl, rfl⟩⟩
  · conv => whnf
    repeat ((first | refine HO.bsl1 rfl rfl rfl ?_ | refine HC.seq ?_ | refine HC.ops ?_ | refine HO.k ?_ | refine HO.g ?_ | refine HO.nil ?_ | refine HC.drw mixed ?_ | refine HD.k ?_ | refine HD.g ?_ | refine HD.nil ?_ | refine HC.blk ?_ | refine HC.cond ?_ | refine HC.skip ?_ | refine HC.exit ?_ | refine HC.ret ?_ | rw [fL_eq]); conv => whnf)
    refine brB_iff.2 ⟨fun h1 => ?_, fun h1 => ?_⟩ <;> conv => whnf
    · have hlt : i < ms.length := by rw [ltZ_eq] at h1; simp at h1; omega
      have hmx : (ms.map Mt.v)[((i : Nat) : Int).toNat]? = some (ms[i]).v := by simp [hlt]
      have hgi : ms[i]? = some ms[i] := by simp [hlt]
      have hmi := hm ms[i] (List.getElem_mem hlt)
      generalize ms[i] = m at hmx hgi hmi
      have htk := take_at hgi
      have hra := evs_app (ms.take i) m
      rw [← htk, hr0, List.nil_append] at hra
      have hle := evs_take_le ms i
      repeat ((first | refine HO.bsl1 rfl rfl rfl ?_ | refine HC.seq ?_ | refine HC.ops ?_ | refine HO.k ?_ | refine HO.g ?_ | refine HO.nil ?_ | refine HC.drw mixed ?_ | refine HD.k ?_ | refine HD.g ?_ | refine HD.nil ?_ | refine HC.blk ?_ | refine HC.cond ?_ | refine HC.skip ?_ | refine HC.exit ?_ | refine HC.ret ?_ | rw [fL_eq]); conv => whnf)
      refine ⟨rfl, Int.natCast_nonneg _, _, hmx, ?_⟩
      conv => whnf
      repeat ((first | refine HO.bsl1 rfl rfl rfl ?_ | refine HC.seq ?_ | refine HC.ops ?_ | refine HO.k ?_ | refine HO.g ?_ | refine HO.nil ?_ | refine HC.drw mixed ?_ | refine HD.k ?_ | refine HD.g ?_ | refine HD.nil ?_ | refine HC.blk ?_ | refine HC.cond ?_ | refine HC.skip ?_ | refine HC.exit ?_ | refine HC.ret ?_ | rw [fL_eq]); conv => whnf)
      refine brB_iff.2 ⟨fun h2 => ?_, fun h2 => ?_⟩ <;> conv => whnf
      · repeat ((first | refine HO.bsl1 rfl rfl rfl ?_ | refine HC.seq ?_ | refine HC.ops ?_ | refine HO.k ?_ | refine HO.g ?_ | refine HO.nil ?_ | refine HC.drw mixed ?_ | refine HD.k ?_ | refine HD.g ?_ | refine HD.nil ?_ | refine HC.blk ?_ | refine HC.cond ?_ | refine HC.skip ?_ | refine HC.exit ?_ | refine HC.ret ?_ | rw [fL_eq]); conv => whnf)
        refine brB_iff.2 ⟨fun h3 => ?_, fun h3 => ?_⟩ <;> conv => whnf
        · rw [if_pos (show isE m = true by unfold isE isC; rw [h2, h3]; rfl)] at hra
          repeat ((first | refine HO.bsl1 rfl rfl rfl ?_ | refine HC.seq ?_ | refine HC.ops ?_ | refine HO.k ?_ | refine HO.g ?_ | refine HO.nil ?_ | refine HC.drw mixed ?_ | refine HD.k ?_ | refine HD.g ?_ | refine HD.nil ?_ | refine HC.blk ?_ | refine HC.cond ?_ | refine HC.skip ?_ | refine HC.exit ?_ | refine HC.ret ?_ | rw [fL_eq]); conv => whnf)
          
          refine ⟨_, _, app_ns (k := 1) (zs := (evs (ms.take (i + 1))).map rV) rfl rfl (by decide) (room_le (by omega) (by omega)) (by rw [hra]; rfl), ?_⟩
          conv => whnf
          repeat ((first | refine HO.bsl1 rfl rfl rfl ?_ | refine HC.seq ?_ | refine HC.ops ?_ | refine HO.k ?_ | refine HO.g ?_ | refine HO.nil ?_ | refine HC.drw mixed ?_ | refine HD.k ?_ | refine HD.g ?_ | refine HD.nil ?_ | refine HC.blk ?_ | refine HC.cond ?_ | refine HC.skip ?_ | refine HC.exit ?_ | refine HC.ret ?_ | rw [fL_eq]); conv => whnf)
          rw [wrap_succ hlt hml]; intro hg'; exact ⟨ms.length - (i + 1), _, _, by omega, wk_tok [2, 5, 6, 7] rfl rfl (E16_nm (pu_nm _ 1 (by simp [below]))), i + 1, hlt, rfl, .inr ⟨rfl, rfl⟩⟩
        · rw [if_neg (by rw [show isE m = false by unfold isE isC; rw [h2, h3]; rfl]; decide)] at hra
          repeat ((first | refine HO.bsl1 rfl rfl rfl ?_ | refine HC.seq ?_ | refine HC.ops ?_ | refine HO.k ?_ | refine HO.g ?_ | refine HO.nil ?_ | refine HC.drw mixed ?_ | refine HD.k ?_ | refine HD.g ?_ | refine HD.nil ?_ | refine HC.blk ?_ | refine HC.cond ?_ | refine HC.skip ?_ | refine HC.exit ?_ | refine HC.ret ?_ | rw [fL_eq]); conv => whnf)
          
          rw [wrap_succ hlt hml]; intro hg'; exact ⟨ms.length - (i + 1), _, _, by omega, wk_none [2, 5, 6, 7] rfl (E16_nm .ns), i + 1, hlt, rfl, .inl ⟨hra, rfl, rfl⟩⟩
      · rw [if_neg (by rw [show isE m = false by unfold isE isC; rw [h2]; rfl]; decide)] at hra
        repeat ((first | refine HO.bsl1 rfl rfl rfl ?_ | refine HC.seq ?_ | refine HC.ops ?_ | refine HO.k ?_ | refine HO.g ?_ | refine HO.nil ?_ | refine HC.drw mixed ?_ | refine HD.k ?_ | refine HD.g ?_ | refine HD.nil ?_ | refine HC.blk ?_ | refine HC.cond ?_ | refine HC.skip ?_ | refine HC.exit ?_ | refine HC.ret ?_ | rw [fL_eq]); conv => whnf)
        
        rw [wrap_succ hlt hml]; intro hg'; exact ⟨ms.length - (i + 1), _, _, by omega, wk_none [2, 5, 6, 7] rfl (E16_nm .ns), i + 1, hlt, rfl, .inl ⟨hra, rfl, rfl⟩⟩
    · have hge : ms.length ≤ i := by rw [ltZ_eq] at h1; simp at h1; omega
      repeat ((first | refine HO.bsl1 rfl rfl rfl ?_ | refine HC.seq ?_ | refine HC.ops ?_ | refine HO.k ?_ | refine HO.g ?_ | refine HO.nil ?_ | refine HC.drw mixed ?_ | refine HD.k ?_ | refine HD.g ?_ | refine HD.nil ?_ | refine HC.blk ?_ | refine HC.cond ?_ | refine HC.skip ?_ | refine HC.exit ?_ | refine HC.ret ?_ | rw [fL_eq]); conv => whnf)
      rw [List.take_of_length_le hge] at hr0
      rw [hr0]
      exact .one (.ns 6)
  · conv => whnf
    repeat ((first | refine HO.bsl1 rfl rfl rfl ?_ | refine HC.seq ?_ | refine HC.ops ?_ | refine HO.k ?_ | refine HO.g ?_ | refine HO.nil ?_ | refine HC.drw mixed ?_ | refine HD.k ?_ | refine HD.g ?_ | refine HD.nil ?_ | refine HC.blk ?_ | refine HC.cond ?_ | refine HC.skip ?_ | refine HC.exit ?_ | refine HC.ret ?_ | rw [fL_eq]); conv => whnf)
    refine brB_iff.2 ⟨fun h1 => ?_, fun h1 => ?_⟩ <;> conv => whnf
    · have hlt : i < ms.length := by rw [ltZ_eq] at h1; simp at h1; omega
      have hmx : (ms.map Mt.v)[((i : Nat) : Int).toNat]? = some (ms[i]).v := by simp [hlt]
      have hgi : ms[i]? = some ms[i] := by simp [hlt]
      have hmi := hm ms[i] (List.getElem_mem hlt)
      generalize ms[i] = m at hmx hgi hmi
      have htk := take_at hgi
      have hra := evs_app (ms.take i) m
      rw [← htk] at hra
      have hle := evs_take_le ms i
      repeat ((first | refine HO.bsl1 rfl rfl rfl ?_ | refine HC.seq ?_ | refine HC.ops ?_ | refine HO.k ?_ | refine HO.g ?_ | refine HO.nil ?_ | refine HC.drw mixed ?_ | refine HD.k ?_ | refine HD.g ?_ | refine HD.nil ?_ | refine HC.blk ?_ | refine HC.cond ?_ | refine HC.skip ?_ | refine HC.exit ?_ | refine HC.ret ?_ | rw [fL_eq]); conv => whnf)
      refine ⟨rfl, Int.natCast_nonneg _, _, hmx, ?_⟩
      conv => whnf
      repeat ((first | refine HO.bsl1 rfl rfl rfl ?_ | refine HC.seq ?_ | refine HC.ops ?_ | refine HO.k ?_ | refine HO.g ?_ | refine HO.nil ?_ | refine HC.drw mixed ?_ | refine HD.k ?_ | refine HD.g ?_ | refine HD.nil ?_ | refine HC.blk ?_ | refine HC.cond ?_ | refine HC.skip ?_ | refine HC.exit ?_ | refine HC.ret ?_ | rw [fL_eq]); conv => whnf)
      refine brB_iff.2 ⟨fun h2 => ?_, fun h2 => ?_⟩ <;> conv => whnf
      · repeat ((first | refine HO.bsl1 rfl rfl rfl ?_ | refine HC.seq ?_ | refine HC.ops ?_ | refine HO.k ?_ | refine HO.g ?_ | refine HO.nil ?_ | refine HC.drw mixed ?_ | refine HD.k ?_ | refine HD.g ?_ | refine HD.nil ?_ | refine HC.blk ?_ | refine HC.cond ?_ | refine HC.skip ?_ | refine HC.exit ?_ | refine HC.ret ?_ | rw [fL_eq]); conv => whnf)
        refine brB_iff.2 ⟨fun h3 => ?_, fun h3 => ?_⟩ <;> conv => whnf
        · rw [if_pos (show isE m = true by unfold isE isC; rw [h2, h3]; rfl)] at hra
          repeat ((first | refine HO.bsl1 rfl rfl rfl ?_ | refine HC.seq ?_ | refine HC.ops ?_ | refine HO.k ?_ | refine HO.g ?_ | refine HO.nil ?_ | refine HC.drw mixed ?_ | refine HD.k ?_ | refine HD.g ?_ | refine HD.nil ?_ | refine HC.blk ?_ | refine HC.cond ?_ | refine HC.skip ?_ | refine HC.exit ?_ | refine HC.ret ?_ | rw [fL_eq]); conv => whnf)
          
          refine ⟨_, _, app_tok (k := 1) (xs := (evs (ms.take i)).map rV) (zs := (evs (ms.take (i + 1))).map rV) rfl rfl rfl (by decide) (room_le (by rw [List.length_map]; omega) (by omega)) (by rw [hra, List.map_append]; rfl), ?_⟩
          conv => whnf
          repeat ((first | refine HO.bsl1 rfl rfl rfl ?_ | refine HC.seq ?_ | refine HC.ops ?_ | refine HO.k ?_ | refine HO.g ?_ | refine HO.nil ?_ | refine HC.drw mixed ?_ | refine HD.k ?_ | refine HD.g ?_ | refine HD.nil ?_ | refine HC.blk ?_ | refine HC.cond ?_ | refine HC.skip ?_ | refine HC.exit ?_ | refine HC.ret ?_ | rw [fL_eq]); conv => whnf)
          rw [wrap_succ hlt hml]; intro hg'; exact ⟨ms.length - (i + 1), _, _, by omega, wk_tok [2, 5, 6, 7] rfl rfl (E16_nm (pu_nm _ 1 (by simp [below]))), i + 1, hlt, rfl, .inr ⟨rfl, rfl⟩⟩
        · rw [if_neg (by rw [show isE m = false by unfold isE isC; rw [h2, h3]; rfl]; decide), List.append_nil] at hra
          repeat ((first | refine HO.bsl1 rfl rfl rfl ?_ | refine HC.seq ?_ | refine HC.ops ?_ | refine HO.k ?_ | refine HO.g ?_ | refine HO.nil ?_ | refine HC.drw mixed ?_ | refine HD.k ?_ | refine HD.g ?_ | refine HD.nil ?_ | refine HC.blk ?_ | refine HC.cond ?_ | refine HC.skip ?_ | refine HC.exit ?_ | refine HC.ret ?_ | rw [fL_eq]); conv => whnf)
          rw [show evs (ms.take i) = evs (ms.take (i + 1)) from hra.symm]
          rw [wrap_succ hlt hml]; intro hg'; exact ⟨ms.length - (i + 1), _, _, by omega, wk_tok [2, 5, 6, 7] rfl rfl (E16_nm (pu_nm _ 1 (by simp [below]))), i + 1, hlt, rfl, .inr ⟨rfl, rfl⟩⟩
      · rw [if_neg (by rw [show isE m = false by unfold isE isC; rw [h2]; rfl]; decide), List.append_nil] at hra
        repeat ((first | refine HO.bsl1 rfl rfl rfl ?_ | refine HC.seq ?_ | refine HC.ops ?_ | refine HO.k ?_ | refine HO.g ?_ | refine HO.nil ?_ | refine HC.drw mixed ?_ | refine HD.k ?_ | refine HD.g ?_ | refine HD.nil ?_ | refine HC.blk ?_ | refine HC.cond ?_ | refine HC.skip ?_ | refine HC.exit ?_ | refine HC.ret ?_ | rw [fL_eq]); conv => whnf)
        rw [show evs (ms.take i) = evs (ms.take (i + 1)) from hra.symm]
        rw [wrap_succ hlt hml]; intro hg'; exact ⟨ms.length - (i + 1), _, _, by omega, wk_tok [2, 5, 6, 7] rfl rfl (E16_nm (pu_nm _ 1 (by simp [below]))), i + 1, hlt, rfl, .inr ⟨rfl, rfl⟩⟩
    · have hge : ms.length ≤ i := by rw [ltZ_eq] at h1; simp at h1; omega
      repeat ((first | refine HO.bsl1 rfl rfl rfl ?_ | refine HC.seq ?_ | refine HC.ops ?_ | refine HO.k ?_ | refine HO.g ?_ | refine HO.nil ?_ | refine HC.drw mixed ?_ | refine HD.k ?_ | refine HD.g ?_ | refine HD.nil ?_ | refine HC.blk ?_ | refine HC.cond ?_ | refine HC.skip ?_ | refine HC.exit ?_ | refine HC.ret ?_ | rw [fL_eq]); conv => whnf)
      rw [List.take_of_length_le hge]
      exact .one (.pu 6 _ _)
end Go.Proofs.Ytlcpcgcegpfklaa
