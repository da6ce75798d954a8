/-
  Contracts: clones; the hits of a trace; its floor; whether moves are few. No statement stands here.
-/
import Derived.Test.YtlcpcgcegpfklaaTr
set_option linter.all false
namespace Go.Proofs.Ytlcpcgcegpfklaa
open Go Rf
set_option maxRecDepth 100000
set_option maxHeartbeats 2000000

theorem app_pure {e : List V} {s : St} {x y : Arg} {t sz bytes n : Nat} {ag : Bool} {cs zs : List V} (hx : x.ev e = .pu sz [] (.x 0)) (hy : srcOf s sz (y.ev e) = some (n, cs)) (hn : n ≠ 0) (hr : room n bytes = true) (hz : chunks ag sz cs n = zs) :
    aop e s (.app t true ag sz bytes x y) = some (.pu sz zs (.t s.n), s.new (.t (n * sz))) := by
  subst hz
  simp [aop, hx, hy, appV, hn, hr]
theorem chunks_one : ∀ l : List V, chunks false 1 l l.length = l
  | [] => rfl
  | x :: l => by show x :: chunks false 1 l l.length = x :: l; rw [chunks_one l]
theorem flat_b : ∀ l : List UInt8, ((bytesOf l).map V.cells).flatten = bytesOf l
  | [] => rfl
  | b :: l => by show V.i .u8 b.toNat :: ((bytesOf l).map V.cells).flatten = _ :: bytesOf l; rw [flat_b l]
theorem flat_v : ∀ l : List Int, ((l.map fun n => V.i .i64 n).map V.cells).flatten = l.map fun n => V.i .i64 n
  | [] => rfl
  | b :: l => by show V.i .i64 b :: ((l.map fun n => V.i .i64 n).map V.cells).flatten = _ :: (l.map fun n => V.i .i64 n); rw [flat_v l]
theorem src_b (s : St) (l : List UInt8) : srcOf s 1 (bsV l) = some ((bytesOf l).length, bytesOf l) := by simp only [srcOf, bsV, if_true, flat_b]
theorem src_v (s : St) (l : List Int) : srcOf s 1 (vsV l) = some ((l.map fun n => V.i .i64 n).length, l.map fun n => V.i .i64 n) := by simp only [srcOf, vsV, if_true, flat_v]

theorem cloneR_den (l : List Rc) (hl : l.length ≤ 3000) : PDen gt0 Try.prog 22 [rlV l] (rlV l) := by
  cases l with
  | nil =>
    refine PDen.empty1 (PDen.hcw gnm0 hF22 (nm1 .ns) (rlV_nm []) ?_) (PDen.hcw gnm0 hF22 (nm1 (.pu _ _ _ (fun x hx => by simp at hx) (fun k hk => by cases hk))) (rlV_nm []) ?_)
    · conv => whnf
      repeat ((first | refine HO.bsl1 rfl rfl rfl ?_ | refine HC.seq ?_ | refine HC.ops ?_ | refine HO.k ?_ | refine HO.g ?_ | refine HO.nil ?_ | refine HC.drw mixed ?_ | refine HD.k ?_ | refine HD.g ?_ | refine HD.nil ?_ | refine HC.blk ?_ | refine HC.cond ?_ | refine HC.skip ?_ | refine HC.exit ?_ | refine HC.ret ?_ | rw [fL_eq]); conv => whnf)
      exact .one (.ns 6)
    · conv => whnf
      repeat ((first | refine HO.bsl1 rfl rfl rfl ?_ | refine HC.seq ?_ | refine HC.ops ?_ | refine HO.k ?_ | refine HO.g ?_ | refine HO.nil ?_ | refine HC.drw mixed ?_ | refine HD.k ?_ | refine HD.g ?_ | refine HD.nil ?_ | refine HC.blk ?_ | refine HC.cond ?_ | refine HC.skip ?_ | refine HC.exit ?_ | refine HC.ret ?_ | rw [fL_eq]); conv => whnf)
      refine ⟨_, _, rfl, ?_⟩
      conv => whnf
      repeat ((first | refine HO.bsl1 rfl rfl rfl ?_ | refine HC.seq ?_ | refine HC.ops ?_ | refine HO.k ?_ | refine HO.g ?_ | refine HO.nil ?_ | refine HC.drw mixed ?_ | refine HD.k ?_ | refine HD.g ?_ | refine HD.nil ?_ | refine HC.blk ?_ | refine HC.cond ?_ | refine HC.skip ?_ | refine HC.exit ?_ | refine HC.ret ?_ | rw [fL_eq]); conv => whnf)
      exact .one (.pu 6 [] _)
  | cons x r =>
    refine PDen.hcw gnm0 hF22 (nm1 (rlV_nm _)) (rlV_nm _) ?_
    conv => whnf
    repeat ((first | refine HO.bsl1 rfl rfl rfl ?_ | refine HC.seq ?_ | refine HC.ops ?_ | refine HO.k ?_ | refine HO.g ?_ | refine HO.nil ?_ | refine HC.drw mixed ?_ | refine HD.k ?_ | refine HD.g ?_ | refine HD.nil ?_ | refine HC.blk ?_ | refine HC.cond ?_ | refine HC.skip ?_ | refine HC.exit ?_ | refine HC.ret ?_ | rw [fL_eq]); conv => whnf)
    refine ⟨_, _, app_pure rfl (src_rl _ (x :: r)) (by simp) (room_le (by simp at hl ⊢; omega) (by omega)) (rl_cells _), ?_⟩
    conv => whnf
    repeat ((first | refine HO.bsl1 rfl rfl rfl ?_ | refine HC.seq ?_ | refine HC.ops ?_ | refine HO.k ?_ | refine HO.g ?_ | refine HO.nil ?_ | refine HC.drw mixed ?_ | refine HD.k ?_ | refine HD.g ?_ | refine HD.nil ?_ | refine HC.blk ?_ | refine HC.cond ?_ | refine HC.skip ?_ | refine HC.exit ?_ | refine HC.ret ?_ | rw [fL_eq]); conv => whnf)
    exact .one (.pu 6 _ _)

theorem cloneB_den (l : List UInt8) (hl : l.length ≤ 3000) : PDen gt0 Try.prog 23 [bsV l] (bsV l) := by
  cases l with
  | nil =>
    refine PDen.empty1 (PDen.hcw gnm0 hF23 (nm1 .ns) (bsV_nm []) ?_) (PDen.hcw gnm0 hF23 (nm1 (.pu _ _ _ (fun x hx => by simp at hx) (fun k hk => by cases hk))) (bsV_nm []) ?_)
    · conv => whnf
      repeat ((first | refine HO.bsl1 rfl rfl rfl ?_ | refine HC.seq ?_ | refine HC.ops ?_ | refine HO.k ?_ | refine HO.g ?_ | refine HO.nil ?_ | refine HC.drw mixed ?_ | refine HD.k ?_ | refine HD.g ?_ | refine HD.nil ?_ | refine HC.blk ?_ | refine HC.cond ?_ | refine HC.skip ?_ | refine HC.exit ?_ | refine HC.ret ?_ | rw [fL_eq]); conv => whnf)
      exact .one (.ns 1)
    · conv => whnf
      repeat ((first | refine HO.bsl1 rfl rfl rfl ?_ | refine HC.seq ?_ | refine HC.ops ?_ | refine HO.k ?_ | refine HO.g ?_ | refine HO.nil ?_ | refine HC.drw mixed ?_ | refine HD.k ?_ | refine HD.g ?_ | refine HD.nil ?_ | refine HC.blk ?_ | refine HC.cond ?_ | refine HC.skip ?_ | refine HC.exit ?_ | refine HC.ret ?_ | rw [fL_eq]); conv => whnf)
      refine ⟨_, _, rfl, ?_⟩
      conv => whnf
      repeat ((first | refine HO.bsl1 rfl rfl rfl ?_ | refine HC.seq ?_ | refine HC.ops ?_ | refine HO.k ?_ | refine HO.g ?_ | refine HO.nil ?_ | refine HC.drw mixed ?_ | refine HD.k ?_ | refine HD.g ?_ | refine HD.nil ?_ | refine HC.blk ?_ | refine HC.cond ?_ | refine HC.skip ?_ | refine HC.exit ?_ | refine HC.ret ?_ | rw [fL_eq]); conv => whnf)
      exact .one (.pu 1 [] _)
  | cons x r =>
    refine PDen.hcw gnm0 hF23 (nm1 (bsV_nm _)) (bsV_nm _) ?_
    conv => whnf
    repeat ((first | refine HO.bsl1 rfl rfl rfl ?_ | refine HC.seq ?_ | refine HC.ops ?_ | refine HO.k ?_ | refine HO.g ?_ | refine HO.nil ?_ | refine HC.drw mixed ?_ | refine HD.k ?_ | refine HD.g ?_ | refine HD.nil ?_ | refine HC.blk ?_ | refine HC.cond ?_ | refine HC.skip ?_ | refine HC.exit ?_ | refine HC.ret ?_ | rw [fL_eq]); conv => whnf)
    refine ⟨_, _, app_pure rfl (src_b _ (x :: r)) (by simp [bytesOf]) (room_le (by simp [bytesOf]; simp at hl; omega) (by omega)) (chunks_one _), ?_⟩
    conv => whnf
    repeat ((first | refine HO.bsl1 rfl rfl rfl ?_ | refine HC.seq ?_ | refine HC.ops ?_ | refine HO.k ?_ | refine HO.g ?_ | refine HO.nil ?_ | refine HC.drw mixed ?_ | refine HD.k ?_ | refine HD.g ?_ | refine HD.nil ?_ | refine HC.blk ?_ | refine HC.cond ?_ | refine HC.skip ?_ | refine HC.exit ?_ | refine HC.ret ?_ | rw [fL_eq]); conv => whnf)
    exact .one (.pu 1 _ _)

theorem cloneV_den (l : List Int) (hl : l.length ≤ 3000) : PDen gt0 Try.prog 24 [vsV l] (vsV l) := by
  cases l with
  | nil =>
    refine PDen.empty1 (PDen.hcw gnm0 hF24 (nm1 .ns) (vsV_nm []) ?_) (PDen.hcw gnm0 hF24 (nm1 (.pu _ _ _ (fun x hx => by simp at hx) (fun k hk => by cases hk))) (vsV_nm []) ?_)
    · conv => whnf
      repeat ((first | refine HO.bsl1 rfl rfl rfl ?_ | refine HC.seq ?_ | refine HC.ops ?_ | refine HO.k ?_ | refine HO.g ?_ | refine HO.nil ?_ | refine HC.drw mixed ?_ | refine HD.k ?_ | refine HD.g ?_ | refine HD.nil ?_ | refine HC.blk ?_ | refine HC.cond ?_ | refine HC.skip ?_ | refine HC.exit ?_ | refine HC.ret ?_ | rw [fL_eq]); conv => whnf)
      exact .one (.ns 1)
    · conv => whnf
      repeat ((first | refine HO.bsl1 rfl rfl rfl ?_ | refine HC.seq ?_ | refine HC.ops ?_ | refine HO.k ?_ | refine HO.g ?_ | refine HO.nil ?_ | refine HC.drw mixed ?_ | refine HD.k ?_ | refine HD.g ?_ | refine HD.nil ?_ | refine HC.blk ?_ | refine HC.cond ?_ | refine HC.skip ?_ | refine HC.exit ?_ | refine HC.ret ?_ | rw [fL_eq]); conv => whnf)
      refine ⟨_, _, rfl, ?_⟩
      conv => whnf
      repeat ((first | refine HO.bsl1 rfl rfl rfl ?_ | refine HC.seq ?_ | refine HC.ops ?_ | refine HO.k ?_ | refine HO.g ?_ | refine HO.nil ?_ | refine HC.drw mixed ?_ | refine HD.k ?_ | refine HD.g ?_ | refine HD.nil ?_ | refine HC.blk ?_ | refine HC.cond ?_ | refine HC.skip ?_ | refine HC.exit ?_ | refine HC.ret ?_ | rw [fL_eq]); conv => whnf)
      exact .one (.pu 1 [] _)
  | cons x r =>
    refine PDen.hcw gnm0 hF24 (nm1 (vsV_nm _)) (vsV_nm _) ?_
    conv => whnf
    repeat ((first | refine HO.bsl1 rfl rfl rfl ?_ | refine HC.seq ?_ | refine HC.ops ?_ | refine HO.k ?_ | refine HO.g ?_ | refine HO.nil ?_ | refine HC.drw mixed ?_ | refine HD.k ?_ | refine HD.g ?_ | refine HD.nil ?_ | refine HC.blk ?_ | refine HC.cond ?_ | refine HC.skip ?_ | refine HC.exit ?_ | refine HC.ret ?_ | rw [fL_eq]); conv => whnf)
    refine ⟨_, _, app_pure rfl (src_v _ (x :: r)) (by simp) (room_le (by simp; simp at hl; omega) (by omega)) (chunks_one _), ?_⟩
    conv => whnf
    repeat ((first | refine HO.bsl1 rfl rfl rfl ?_ | refine HC.seq ?_ | refine HC.ops ?_ | refine HO.k ?_ | refine HO.g ?_ | refine HO.nil ?_ | refine HC.drw mixed ?_ | refine HD.k ?_ | refine HD.g ?_ | refine HD.nil ?_ | refine HC.blk ?_ | refine HC.cond ?_ | refine HC.skip ?_ | refine HC.exit ?_ | refine HC.ret ?_ | rw [fL_eq]); conv => whnf)
    exact .one (.pu 1 _ _)

theorem mv_chunk (m : Mt) : chunks true 47 (([m.v].map V.cells).flatten) 1 = [m].map Mt.v := chunk_single (sz := 47) rfl

/-- trace.Hits -/
def E12 (ms : List Mt) (i : Nat) (v : V) : List V := .bad :: .bad :: v :: .bad :: .bad :: msV ms :: .i .i64 ((ms.map Mt.v).length : Nat) :: .i .i64 (i : Nat) :: List.replicate 36 .bad
theorem E12_nm {L : Nat → Prop} {ms : List Mt} {i : Nat} {v : V} (h : Nm L v) : ∀ x ∈ E12 ms i v, Nm L x := fun x hx => by
  simp only [E12, List.mem_cons, List.mem_replicate] at hx
  rcases hx with rfl | rfl | rfl | rfl | rfl | rfl | rfl | rfl | ⟨_, rfl⟩ <;> first | exact .bad | exact .i _ _ | exact msV_nm _ | exact h

set_option maxHeartbeats 8000000 in
theorem trh_den (ms : List Mt) (hf : few6 ms) : PDen gt0 Try.prog 12 [msV ms] (msV (hits ms)) := by
  obtain ⟨hl, hrl, hm⟩ := hf
  have hml : ms.length ≤ maxLen := Nat.le_trans hl (by decide)
  refine PDen.hcw gnm0 hF12 (nm1 (msV_nm _)) (msV_nm _) ?_
  have hlx : (ms.map Mt.v).length = ms.length := List.length_map ..
  conv => whnf
  repeat ((first | refine HO.bsl1 rfl rfl rfl ?_ | refine HC.seq ?_ | refine HC.ops ?_ | refine HO.k ?_ | refine HO.g ?_ | refine HO.nil ?_ | refine HC.drw mixed ?_ | refine HD.k ?_ | refine HD.g ?_ | refine HD.nil ?_ | refine HC.blk ?_ | refine HC.cond ?_ | refine HC.skip ?_ | refine HC.exit ?_ | refine HC.ret ?_ | rw [fL_eq]); conv => whnf)
  refine HC.loop gnm0 fun hg => ⟨fun n e s => ∃ i : Nat, i ≤ ms.length ∧ n = ms.length - i ∧ ((hits (ms.take i) = [] ∧ e = E12 ms i .ns ∧ s = s0) ∨ (e = E12 ms i (.pu 47 ((hits (ms.take i)).map Mt.v) (.t 1)) ∧ s = ST (((hits (ms.take i)).map Mt.v).length * 47))), ⟨ms.length, fg [2, 5, 6, 7] _, _, Wk.fg hg.1 hg.2, 0, Nat.zero_le _, rfl, .inl ⟨rfl, rfl, rfl⟩⟩, ?_⟩
  rintro n e s ⟨i, hi, rfl, ⟨hr0, rfl, rfl⟩ | ⟨rfl, rfl⟩⟩
  · conv => whnf
    repeat ((first | refine HO.bsl1 rfl rfl rfl ?_ | refine HC.seq ?_ | refine HC.ops ?_ | refine HO.k ?_ | refine HO.g ?_ | refine HO.nil ?_ | refine HC.drw mixed ?_ | refine HD.k ?_ | refine HD.g ?_ | refine HD.nil ?_ | refine HC.blk ?_ | refine HC.cond ?_ | refine HC.skip ?_ | refine HC.exit ?_ | refine HC.ret ?_ | rw [fL_eq]); conv => whnf)
    refine brB_iff.2 ⟨fun h1 => ?_, fun h1 => ?_⟩ <;> conv => whnf
    · have hlt : i < ms.length := by rw [ltZ_eq] at h1; simp at h1; omega
      have hmx : (ms.map Mt.v)[((i : Nat) : Int).toNat]? = some (ms[i]).v := by simp [hlt]
      have hgi : ms[i]? = some ms[i] := by simp [hlt]
      have hmi := hm ms[i] (List.getElem_mem hlt)
      generalize ms[i] = m at hmx hgi hmi
      have htk := take_at hgi
      have hra := hits_app (ms.take i) m
      rw [← htk, hr0, List.nil_append] at hra
      have hle := hits_take_le ms i
      repeat ((first | refine HO.bsl1 rfl rfl rfl ?_ | refine HC.seq ?_ | refine HC.ops ?_ | refine HO.k ?_ | refine HO.g ?_ | refine HO.nil ?_ | refine HC.drw mixed ?_ | refine HD.k ?_ | refine HD.g ?_ | refine HD.nil ?_ | refine HC.blk ?_ | refine HC.cond ?_ | refine HC.skip ?_ | refine HC.exit ?_ | refine HC.ret ?_ | rw [fL_eq]); conv => whnf)
      refine ⟨rfl, Int.natCast_nonneg _, _, hmx, ?_⟩
      conv => whnf
      repeat ((first | refine HO.bsl1 rfl rfl rfl ?_ | refine HC.seq ?_ | refine HC.ops ?_ | refine HO.k ?_ | refine HO.g ?_ | refine HO.nil ?_ | refine HC.drw mixed ?_ | refine HD.k ?_ | refine HD.g ?_ | refine HD.nil ?_ | refine HC.blk ?_ | refine HC.cond ?_ | refine HC.skip ?_ | refine HC.exit ?_ | refine HC.ret ?_ | rw [fL_eq]); conv => whnf)
      refine brB_iff.2 ⟨fun h2 => ?_, fun h2 => ?_⟩ <;> conv => whnf
      · repeat ((first | refine HO.bsl1 rfl rfl rfl ?_ | refine HC.seq ?_ | refine HC.ops ?_ | refine HO.k ?_ | refine HO.g ?_ | refine HO.nil ?_ | refine HC.drw mixed ?_ | refine HD.k ?_ | refine HD.g ?_ | refine HD.nil ?_ | refine HC.blk ?_ | refine HC.cond ?_ | refine HC.skip ?_ | refine HC.exit ?_ | refine HC.ret ?_ | rw [fL_eq]); conv => whnf)
        refine brB_iff.2 ⟨fun h3 => ?_, fun h3 => ?_⟩ <;> conv => whnf
        · rw [if_pos (show isH m = true by unfold isH isC; rw [h2, h3]; rfl)] at hra
          repeat ((first | refine HO.bsl1 rfl rfl rfl ?_ | refine HC.seq ?_ | refine HC.ops ?_ | refine HO.k ?_ | refine HO.g ?_ | refine HO.nil ?_ | refine HC.drw mixed ?_ | refine HD.k ?_ | refine HD.g ?_ | refine HD.nil ?_ | refine HC.blk ?_ | refine HC.cond ?_ | refine HC.skip ?_ | refine HC.exit ?_ | refine HC.ret ?_ | rw [fL_eq]); conv => whnf)
          
          refine ⟨_, _, cloneR_den m.rl hmi.1 _, ?_⟩
          conv => whnf
          repeat ((first | refine HO.bsl1 rfl rfl rfl ?_ | refine HC.seq ?_ | refine HC.ops ?_ | refine HO.k ?_ | refine HO.g ?_ | refine HO.nil ?_ | refine HC.drw mixed ?_ | refine HD.k ?_ | refine HD.g ?_ | refine HD.nil ?_ | refine HC.blk ?_ | refine HC.cond ?_ | refine HC.skip ?_ | refine HC.exit ?_ | refine HC.ret ?_ | rw [fL_eq]); conv => whnf)
          refine ⟨_, _, cloneB_den m.bs hmi.2.2 _, ?_⟩
          conv => whnf
          repeat ((first | refine HO.bsl1 rfl rfl rfl ?_ | refine HC.seq ?_ | refine HC.ops ?_ | refine HO.k ?_ | refine HO.g ?_ | refine HO.nil ?_ | refine HC.drw mixed ?_ | refine HD.k ?_ | refine HD.g ?_ | refine HD.nil ?_ | refine HC.blk ?_ | refine HC.cond ?_ | refine HC.skip ?_ | refine HC.exit ?_ | refine HC.ret ?_ | rw [fL_eq]); conv => whnf)
          refine ⟨stays_one rfl, ?_⟩
          conv => whnf
          repeat ((first | refine HO.bsl1 rfl rfl rfl ?_ | refine HC.seq ?_ | refine HC.ops ?_ | refine HO.k ?_ | refine HO.g ?_ | refine HO.nil ?_ | refine HC.drw mixed ?_ | refine HD.k ?_ | refine HD.g ?_ | refine HD.nil ?_ | refine HC.blk ?_ | refine HC.cond ?_ | refine HC.skip ?_ | refine HC.exit ?_ | refine HC.ret ?_ | rw [fL_eq]); conv => whnf)
          refine ⟨_, _, cloneV_den m.vs hmi.2.1 _, ?_⟩
          conv => whnf
          repeat ((first | refine HO.bsl1 rfl rfl rfl ?_ | refine HC.seq ?_ | refine HC.ops ?_ | refine HO.k ?_ | refine HO.g ?_ | refine HO.nil ?_ | refine HC.drw mixed ?_ | refine HD.k ?_ | refine HD.g ?_ | refine HD.nil ?_ | refine HC.blk ?_ | refine HC.cond ?_ | refine HC.skip ?_ | refine HC.exit ?_ | refine HC.ret ?_ | rw [fL_eq]); conv => whnf)
          refine ⟨_, _, app_ns (k := 1) (cs := ([m.v].map V.cells).flatten) (zs := (hits (ms.take (i + 1))).map Mt.v) rfl src_single (by decide) (room_le (by omega) (by omega)) ((mv_chunk m).trans (by rw [hra])), ?_⟩
          conv => whnf
          repeat ((first | refine HO.bsl1 rfl rfl rfl ?_ | refine HC.seq ?_ | refine HC.ops ?_ | refine HO.k ?_ | refine HO.g ?_ | refine HO.nil ?_ | refine HC.drw mixed ?_ | refine HD.k ?_ | refine HD.g ?_ | refine HD.nil ?_ | refine HC.blk ?_ | refine HC.cond ?_ | refine HC.skip ?_ | refine HC.exit ?_ | refine HC.ret ?_ | rw [fL_eq]); conv => whnf)
          rw [wrap_succ hlt hml]; intro hg'; exact ⟨ms.length - (i + 1), _, _, by omega, wk_tok [2, 5, 6, 7] rfl rfl (E12_nm (puM_nm _ 1 (by simp [below]))), i + 1, hlt, rfl, .inr ⟨rfl, rfl⟩⟩
        · rw [if_neg (by rw [show isH m = false by unfold isH isC; rw [h2, h3]; rfl]; decide)] at hra
          repeat ((first | refine HO.bsl1 rfl rfl rfl ?_ | refine HC.seq ?_ | refine HC.ops ?_ | refine HO.k ?_ | refine HO.g ?_ | refine HO.nil ?_ | refine HC.drw mixed ?_ | refine HD.k ?_ | refine HD.g ?_ | refine HD.nil ?_ | refine HC.blk ?_ | refine HC.cond ?_ | refine HC.skip ?_ | refine HC.exit ?_ | refine HC.ret ?_ | rw [fL_eq]); conv => whnf)
          
          rw [wrap_succ hlt hml]; intro hg'; exact ⟨ms.length - (i + 1), _, _, by omega, wk_none [2, 5, 6, 7] rfl (E12_nm .ns), i + 1, hlt, rfl, .inl ⟨hra, rfl, rfl⟩⟩
      · rw [if_neg (by rw [show isH m = false by unfold isH isC; rw [h2]; rfl]; decide)] at hra
        repeat ((first | refine HO.bsl1 rfl rfl rfl ?_ | refine HC.seq ?_ | refine HC.ops ?_ | refine HO.k ?_ | refine HO.g ?_ | refine HO.nil ?_ | refine HC.drw mixed ?_ | refine HD.k ?_ | refine HD.g ?_ | refine HD.nil ?_ | refine HC.blk ?_ | refine HC.cond ?_ | refine HC.skip ?_ | refine HC.exit ?_ | refine HC.ret ?_ | rw [fL_eq]); conv => whnf)
        
        rw [wrap_succ hlt hml]; intro hg'; exact ⟨ms.length - (i + 1), _, _, by omega, wk_none [2, 5, 6, 7] rfl (E12_nm .ns), i + 1, hlt, rfl, .inl ⟨hra, rfl, rfl⟩⟩
    · have hge : ms.length ≤ i := by rw [ltZ_eq] at h1; simp at h1; omega
      repeat ((first | refine HO.bsl1 rfl rfl rfl ?_ | refine HC.seq ?_ | refine HC.ops ?_ | refine HO.k ?_ | refine HO.g ?_ | refine HO.nil ?_ | refine HC.drw mixed ?_ | refine HD.k ?_ | refine HD.g ?_ | refine HD.nil ?_ | refine HC.blk ?_ | refine HC.cond ?_ | refine HC.skip ?_ | refine HC.exit ?_ | refine HC.ret ?_ | rw [fL_eq]); conv => whnf)
      rw [List.take_of_length_le hge] at hr0
      rw [hr0]
      exact .one (.ns 47)
  · conv => whnf
    repeat ((first | refine HO.bsl1 rfl rfl rfl ?_ | refine HC.seq ?_ | refine HC.ops ?_ | refine HO.k ?_ | refine HO.g ?_ | refine HO.nil ?_ | refine HC.drw mixed ?_ | refine HD.k ?_ | refine HD.g ?_ | refine HD.nil ?_ | refine HC.blk ?_ | refine HC.cond ?_ | refine HC.skip ?_ | refine HC.exit ?_ | refine HC.ret ?_ | rw [fL_eq]); conv => whnf)
    refine brB_iff.2 ⟨fun h1 => ?_, fun h1 => ?_⟩ <;> conv => whnf
    · have hlt : i < ms.length := by rw [ltZ_eq] at h1; simp at h1; omega
      have hmx : (ms.map Mt.v)[((i : Nat) : Int).toNat]? = some (ms[i]).v := by simp [hlt]
      have hgi : ms[i]? = some ms[i] := by simp [hlt]
      have hmi := hm ms[i] (List.getElem_mem hlt)
      generalize ms[i] = m at hmx hgi hmi
      have htk := take_at hgi
      have hra := hits_app (ms.take i) m
      rw [← htk] at hra
      have hle := hits_take_le ms i
      repeat ((first | refine HO.bsl1 rfl rfl rfl ?_ | refine HC.seq ?_ | refine HC.ops ?_ | refine HO.k ?_ | refine HO.g ?_ | refine HO.nil ?_ | refine HC.drw mixed ?_ | refine HD.k ?_ | refine HD.g ?_ | refine HD.nil ?_ | refine HC.blk ?_ | refine HC.cond ?_ | refine HC.skip ?_ | refine HC.exit ?_ | refine HC.ret ?_ | rw [fL_eq]); conv => whnf)
      refine ⟨rfl, Int.natCast_nonneg _, _, hmx, ?_⟩
      conv => whnf
      repeat ((first | refine HO.bsl1 rfl rfl rfl ?_ | refine HC.seq ?_ | refine HC.ops ?_ | refine HO.k ?_ | refine HO.g ?_ | refine HO.nil ?_ | refine HC.drw mixed ?_ | refine HD.k ?_ | refine HD.g ?_ | refine HD.nil ?_ | refine HC.blk ?_ | refine HC.cond ?_ | refine HC.skip ?_ | refine HC.exit ?_ | refine HC.ret ?_ | rw [fL_eq]); conv => whnf)
      refine brB_iff.2 ⟨fun h2 => ?_, fun h2 => ?_⟩ <;> conv => whnf
      · repeat ((first | refine HO.bsl1 rfl rfl rfl ?_ | refine HC.seq ?_ | refine HC.ops ?_ | refine HO.k ?_ | refine HO.g ?_ | refine HO.nil ?_ | refine HC.drw mixed ?_ | refine HD.k ?_ | refine HD.g ?_ | refine HD.nil ?_ | refine HC.blk ?_ | refine HC.cond ?_ | refine HC.skip ?_ | refine HC.exit ?_ | refine HC.ret ?_ | rw [fL_eq]); conv => whnf)
        refine brB_iff.2 ⟨fun h3 => ?_, fun h3 => ?_⟩ <;> conv => whnf
        · rw [if_pos (show isH m = true by unfold isH isC; rw [h2, h3]; rfl)] at hra
          repeat ((first | refine HO.bsl1 rfl rfl rfl ?_ | refine HC.seq ?_ | refine HC.ops ?_ | refine HO.k ?_ | refine HO.g ?_ | refine HO.nil ?_ | refine HC.drw mixed ?_ | refine HD.k ?_ | refine HD.g ?_ | refine HD.nil ?_ | refine HC.blk ?_ | refine HC.cond ?_ | refine HC.skip ?_ | refine HC.exit ?_ | refine HC.ret ?_ | rw [fL_eq]); conv => whnf)
          
          refine ⟨_, _, cloneR_den m.rl hmi.1 _, ?_⟩
          conv => whnf
          repeat ((first | refine HO.bsl1 rfl rfl rfl ?_ | refine HC.seq ?_ | refine HC.ops ?_ | refine HO.k ?_ | refine HO.g ?_ | refine HO.nil ?_ | refine HC.drw mixed ?_ | refine HD.k ?_ | refine HD.g ?_ | refine HD.nil ?_ | refine HC.blk ?_ | refine HC.cond ?_ | refine HC.skip ?_ | refine HC.exit ?_ | refine HC.ret ?_ | rw [fL_eq]); conv => whnf)
          refine ⟨_, _, cloneB_den m.bs hmi.2.2 _, ?_⟩
          conv => whnf
          repeat ((first | refine HO.bsl1 rfl rfl rfl ?_ | refine HC.seq ?_ | refine HC.ops ?_ | refine HO.k ?_ | refine HO.g ?_ | refine HO.nil ?_ | refine HC.drw mixed ?_ | refine HD.k ?_ | refine HD.g ?_ | refine HD.nil ?_ | refine HC.blk ?_ | refine HC.cond ?_ | refine HC.skip ?_ | refine HC.exit ?_ | refine HC.ret ?_ | rw [fL_eq]); conv => whnf)
          refine ⟨stays_one rfl, ?_⟩
          conv => whnf
          repeat ((first | refine HO.bsl1 rfl rfl rfl ?_ | refine HC.seq ?_ | refine HC.ops ?_ | refine HO.k ?_ | refine HO.g ?_ | refine HO.nil ?_ | refine HC.drw mixed ?_ | refine HD.k ?_ | refine HD.g ?_ | refine HD.nil ?_ | refine HC.blk ?_ | refine HC.cond ?_ | refine HC.skip ?_ | refine HC.exit ?_ | refine HC.ret ?_ | rw [fL_eq]); conv => whnf)
          refine ⟨_, _, cloneV_den m.vs hmi.2.1 _, ?_⟩
          conv => whnf
          repeat ((first | refine HO.bsl1 rfl rfl rfl ?_ | refine HC.seq ?_ | refine HC.ops ?_ | refine HO.k ?_ | refine HO.g ?_ | refine HO.nil ?_ | refine HC.drw mixed ?_ | refine HD.k ?_ | refine HD.g ?_ | refine HD.nil ?_ | refine HC.blk ?_ | refine HC.cond ?_ | refine HC.skip ?_ | refine HC.exit ?_ | refine HC.ret ?_ | rw [fL_eq]); conv => whnf)
          refine ⟨_, _, app_tok (k := 1) (cs := ([m.v].map V.cells).flatten) (xs := (hits (ms.take i)).map Mt.v) (zs := (hits (ms.take (i + 1))).map Mt.v) rfl rfl src_single (by decide) (room_le (by rw [List.length_map]; omega) (by omega)) (by rw [mv_chunk, hra, List.map_append]), ?_⟩
          conv => whnf
          repeat ((first | refine HO.bsl1 rfl rfl rfl ?_ | refine HC.seq ?_ | refine HC.ops ?_ | refine HO.k ?_ | refine HO.g ?_ | refine HO.nil ?_ | refine HC.drw mixed ?_ | refine HD.k ?_ | refine HD.g ?_ | refine HD.nil ?_ | refine HC.blk ?_ | refine HC.cond ?_ | refine HC.skip ?_ | refine HC.exit ?_ | refine HC.ret ?_ | rw [fL_eq]); conv => whnf)
          rw [wrap_succ hlt hml]; intro hg'; exact ⟨ms.length - (i + 1), _, _, by omega, wk_tok [2, 5, 6, 7] rfl rfl (E12_nm (puM_nm _ 1 (by simp [below]))), i + 1, hlt, rfl, .inr ⟨rfl, rfl⟩⟩
        · rw [if_neg (by rw [show isH m = false by unfold isH isC; rw [h2, h3]; rfl]; decide), List.append_nil] at hra
          repeat ((first | refine HO.bsl1 rfl rfl rfl ?_ | refine HC.seq ?_ | refine HC.ops ?_ | refine HO.k ?_ | refine HO.g ?_ | refine HO.nil ?_ | refine HC.drw mixed ?_ | refine HD.k ?_ | refine HD.g ?_ | refine HD.nil ?_ | refine HC.blk ?_ | refine HC.cond ?_ | refine HC.skip ?_ | refine HC.exit ?_ | refine HC.ret ?_ | rw [fL_eq]); conv => whnf)
          rw [show hits (ms.take i) = hits (ms.take (i + 1)) from hra.symm]
          rw [wrap_succ hlt hml]; intro hg'; exact ⟨ms.length - (i + 1), _, _, by omega, wk_tok [2, 5, 6, 7] rfl rfl (E12_nm (puM_nm _ 1 (by simp [below]))), i + 1, hlt, rfl, .inr ⟨rfl, rfl⟩⟩
      · rw [if_neg (by rw [show isH m = false by unfold isH isC; rw [h2]; rfl]; decide), List.append_nil] at hra
        repeat ((first | refine HO.bsl1 rfl rfl rfl ?_ | refine HC.seq ?_ | refine HC.ops ?_ | refine HO.k ?_ | refine HO.g ?_ | refine HO.nil ?_ | refine HC.drw mixed ?_ | refine HD.k ?_ | refine HD.g ?_ | refine HD.nil ?_ | refine HC.blk ?_ | refine HC.cond ?_ | refine HC.skip ?_ | refine HC.exit ?_ | refine HC.ret ?_ | rw [fL_eq]); conv => whnf)
        rw [show hits (ms.take i) = hits (ms.take (i + 1)) from hra.symm]
        rw [wrap_succ hlt hml]; intro hg'; exact ⟨ms.length - (i + 1), _, _, by omega, wk_tok [2, 5, 6, 7] rfl rfl (E12_nm (puM_nm _ 1 (by simp [below]))), i + 1, hlt, rfl, .inr ⟨rfl, rfl⟩⟩
    · have hge : ms.length ≤ i := by rw [ltZ_eq] at h1; simp at h1; omega
      repeat ((first | refine HO.bsl1 rfl rfl rfl ?_ | refine HC.seq ?_ | refine HC.ops ?_ | refine HO.k ?_ | refine HO.g ?_ | refine HO.nil ?_ | refine HC.drw mixed ?_ | refine HD.k ?_ | refine HD.g ?_ | refine HD.nil ?_ | refine HC.blk ?_ | refine HC.cond ?_ | refine HC.skip ?_ | refine HC.exit ?_ | refine HC.ret ?_ | rw [fL_eq]); conv => whnf)
      rw [List.take_of_length_le hge]
      exact .one (.pu 47 _ _)
end Go.Proofs.Ytlcpcgcegpfklaa
