/-
  Contracts: a move, and lists of records and events, are the same as themselves. No statement stands here.
-/
import Derived.Test.YtlcpcgcegpfklaaTrace
set_option linter.all false
namespace Go.Proofs.Ytlcpcgcegpfklaa
open Go Rf
set_option maxRecDepth 100000
set_option maxHeartbeats 1000000

def ER2 (l : List Rc) (i : Nat) : List V := rlV l :: rlV l :: .bad :: .bad :: .b false :: .i .i64 (i : Nat) :: List.replicate 20 .bad

theorem srec_den (l : List Rc) (hl : l.length ≤ maxLen) : PDen gt0 Try.prog 13 [rlV l, rlV l] (.b true) := by
  refine PDen.hc gnm0 hF13 (nm2 (rlV_nm _) (rlV_nm _)) (.b _) ?_
  have hlx : (l.map rV).length = l.length := List.length_map ..
  conv => whnf
  repeat ((first | refine HC.seq ?_ | refine HC.ops ?_ | refine HO.k ?_ | refine HO.g ?_ | refine HO.nil ?_ | refine HC.drw mixed ?_ | refine HD.k ?_ | refine HD.g ?_ | refine HD.nil ?_ | refine HC.blk ?_ | refine HC.cond ?_ | refine HC.skip ?_ | refine HC.exit ?_ | refine HC.ret ?_ | rw [fL_eq]); conv => whnf)
  refine brB_iff.2 ⟨fun h => ?_, fun h => ?_⟩ <;> conv => whnf
  · exfalso; simp [eqZ_eq] at h
  · repeat ((first | refine HC.seq ?_ | refine HC.ops ?_ | refine HO.k ?_ | refine HO.g ?_ | refine HO.nil ?_ | refine HC.drw mixed ?_ | refine HD.k ?_ | refine HD.g ?_ | refine HD.nil ?_ | refine HC.blk ?_ | refine HC.cond ?_ | refine HC.skip ?_ | refine HC.exit ?_ | refine HC.ret ?_ | rw [fL_eq]); conv => whnf)
    refine HC.loop gnm0 fun hg => ⟨fun n e s => s = s0 ∧ ∃ i : Nat, i ≤ l.length ∧ n = l.length - i ∧ e = ER2 l i, ⟨l.length, fg [0, 1, 4, 5] _, _, Wk.fg hg.1 hg.2, rfl, 0, Nat.zero_le _, rfl, rfl⟩, ?_⟩
    rintro n e s ⟨rfl, i, hi, rfl, rfl⟩
    conv => whnf
    repeat ((first | refine HC.seq ?_ | refine HC.ops ?_ | refine HO.k ?_ | refine HO.g ?_ | refine HO.nil ?_ | refine HC.drw mixed ?_ | refine HD.k ?_ | refine HD.g ?_ | refine HD.nil ?_ | refine HC.blk ?_ | refine HC.cond ?_ | refine HC.skip ?_ | refine HC.exit ?_ | refine HC.ret ?_ | rw [fL_eq]); conv => whnf)
    refine brB_iff.2 ⟨fun h1 => ?_, fun h1 => ?_⟩ <;> conv => whnf
    · have hlt : i < l.length := by rw [ltZ_eq] at h1; simp at h1; omega
      have hmx : (l.map rV)[((i : Nat) : Int).toNat]? = some (rV l[i]) := by simp [hlt]
      generalize l[i] = a at hmx
      repeat ((first | refine HC.seq ?_ | refine HC.ops ?_ | refine HO.k ?_ | refine HO.g ?_ | refine HO.nil ?_ | refine HC.drw mixed ?_ | refine HD.k ?_ | refine HD.g ?_ | refine HD.nil ?_ | refine HC.blk ?_ | refine HC.cond ?_ | refine HC.skip ?_ | refine HC.exit ?_ | refine HC.ret ?_ | rw [fL_eq]); conv => whnf)
      refine ⟨rfl, Int.natCast_nonneg _, _, hmx, ?_⟩
      conv => whnf
      repeat ((first | refine HC.seq ?_ | refine HC.ops ?_ | refine HO.k ?_ | refine HO.g ?_ | refine HO.nil ?_ | refine HC.drw mixed ?_ | refine HD.k ?_ | refine HD.g ?_ | refine HD.nil ?_ | refine HC.blk ?_ | refine HC.cond ?_ | refine HC.skip ?_ | refine HC.exit ?_ | refine HC.ret ?_ | rw [fL_eq]); conv => whnf)
      refine ⟨rfl, Int.natCast_nonneg _, _, hmx, ?_⟩
      conv => whnf
      repeat ((first | refine HC.seq ?_ | refine HC.ops ?_ | refine HO.k ?_ | refine HO.g ?_ | refine HO.nil ?_ | refine HC.drw mixed ?_ | refine HD.k ?_ | refine HD.g ?_ | refine HD.nil ?_ | refine HC.blk ?_ | refine HC.cond ?_ | refine HC.skip ?_ | refine HC.exit ?_ | refine HC.ret ?_ | rw [fL_eq]); conv => whnf)
      refine brB_iff.2 ⟨fun h2 => ?_, fun h2 => ?_⟩ <;> conv => whnf
      · exfalso; simp [eqZ_eq] at h2
      · repeat ((first | refine HC.seq ?_ | refine HC.ops ?_ | refine HO.k ?_ | refine HO.g ?_ | refine HO.nil ?_ | refine HC.drw mixed ?_ | refine HD.k ?_ | refine HD.g ?_ | refine HD.nil ?_ | refine HC.blk ?_ | refine HC.cond ?_ | refine HC.skip ?_ | refine HC.exit ?_ | refine HC.ret ?_ | rw [fL_eq]); conv => whnf)
        rw [wrap_succ hlt hl]
        intro hg'
        exact ⟨l.length - (i + 1), fg [0, 1, 4, 5] _, _, by omega, Wk.fg hg'.1 hg'.2, rfl, i + 1, hlt, rfl, rfl⟩
    · repeat ((first | refine HC.seq ?_ | refine HC.ops ?_ | refine HO.k ?_ | refine HO.g ?_ | refine HO.nil ?_ | refine HC.drw mixed ?_ | refine HD.k ?_ | refine HD.g ?_ | refine HD.nil ?_ | refine HC.blk ?_ | refine HC.cond ?_ | refine HC.skip ?_ | refine HC.exit ?_ | refine HC.ret ?_ | rw [fL_eq]); conv => whnf)

theorem sev_den (l : List Rc) (hl : l.length ≤ maxLen) : PDen gt0 Try.prog 15 [rlV l, rlV l] (.b true) := by
  refine PDen.hc gnm0 hF15 (nm2 (rlV_nm _) (rlV_nm _)) (.b _) ?_
  have hlx : (l.map rV).length = l.length := List.length_map ..
  conv => whnf
  repeat ((first | refine HC.seq ?_ | refine HC.ops ?_ | refine HO.k ?_ | refine HO.g ?_ | refine HO.nil ?_ | refine HC.drw mixed ?_ | refine HD.k ?_ | refine HD.g ?_ | refine HD.nil ?_ | refine HC.blk ?_ | refine HC.cond ?_ | refine HC.skip ?_ | refine HC.exit ?_ | refine HC.ret ?_ | rw [fL_eq]); conv => whnf)
  refine brB_iff.2 ⟨fun h => ?_, fun h => ?_⟩ <;> conv => whnf
  · exfalso; simp [eqZ_eq] at h
  · repeat ((first | refine HC.seq ?_ | refine HC.ops ?_ | refine HO.k ?_ | refine HO.g ?_ | refine HO.nil ?_ | refine HC.drw mixed ?_ | refine HD.k ?_ | refine HD.g ?_ | refine HD.nil ?_ | refine HC.blk ?_ | refine HC.cond ?_ | refine HC.skip ?_ | refine HC.exit ?_ | refine HC.ret ?_ | rw [fL_eq]); conv => whnf)
    refine HC.loop gnm0 fun hg => ⟨fun n e s => s = s0 ∧ ∃ i : Nat, i ≤ l.length ∧ n = l.length - i ∧ e = ER2 l i, ⟨l.length, fg [0, 1, 4, 5] _, _, Wk.fg hg.1 hg.2, rfl, 0, Nat.zero_le _, rfl, rfl⟩, ?_⟩
    rintro n e s ⟨rfl, i, hi, rfl, rfl⟩
    conv => whnf
    repeat ((first | refine HC.seq ?_ | refine HC.ops ?_ | refine HO.k ?_ | refine HO.g ?_ | refine HO.nil ?_ | refine HC.drw mixed ?_ | refine HD.k ?_ | refine HD.g ?_ | refine HD.nil ?_ | refine HC.blk ?_ | refine HC.cond ?_ | refine HC.skip ?_ | refine HC.exit ?_ | refine HC.ret ?_ | rw [fL_eq]); conv => whnf)
    refine brB_iff.2 ⟨fun h1 => ?_, fun h1 => ?_⟩ <;> conv => whnf
    · have hlt : i < l.length := by rw [ltZ_eq] at h1; simp at h1; omega
      have hmx : (l.map rV)[((i : Nat) : Int).toNat]? = some (rV l[i]) := by simp [hlt]
      generalize l[i] = a at hmx
      repeat ((first | refine HC.seq ?_ | refine HC.ops ?_ | refine HO.k ?_ | refine HO.g ?_ | refine HO.nil ?_ | refine HC.drw mixed ?_ | refine HD.k ?_ | refine HD.g ?_ | refine HD.nil ?_ | refine HC.blk ?_ | refine HC.cond ?_ | refine HC.skip ?_ | refine HC.exit ?_ | refine HC.ret ?_ | rw [fL_eq]); conv => whnf)
      refine ⟨rfl, Int.natCast_nonneg _, _, hmx, ?_⟩
      conv => whnf
      repeat ((first | refine HC.seq ?_ | refine HC.ops ?_ | refine HO.k ?_ | refine HO.g ?_ | refine HO.nil ?_ | refine HC.drw mixed ?_ | refine HD.k ?_ | refine HD.g ?_ | refine HD.nil ?_ | refine HC.blk ?_ | refine HC.cond ?_ | refine HC.skip ?_ | refine HC.exit ?_ | refine HC.ret ?_ | rw [fL_eq]); conv => whnf)
      refine ⟨rfl, Int.natCast_nonneg _, _, hmx, ?_⟩
      conv => whnf
      repeat ((first | refine HC.seq ?_ | refine HC.ops ?_ | refine HO.k ?_ | refine HO.g ?_ | refine HO.nil ?_ | refine HC.drw mixed ?_ | refine HD.k ?_ | refine HD.g ?_ | refine HD.nil ?_ | refine HC.blk ?_ | refine HC.cond ?_ | refine HC.skip ?_ | refine HC.exit ?_ | refine HC.ret ?_ | rw [fL_eq]); conv => whnf)
      refine brB_iff.2 ⟨fun h2 => ?_, fun h2 => ?_⟩ <;> conv => whnf
      · exfalso; simp [eqZ_eq] at h2
      · repeat ((first | refine HC.seq ?_ | refine HC.ops ?_ | refine HO.k ?_ | refine HO.g ?_ | refine HO.nil ?_ | refine HC.drw mixed ?_ | refine HD.k ?_ | refine HD.g ?_ | refine HD.nil ?_ | refine HC.blk ?_ | refine HC.cond ?_ | refine HC.skip ?_ | refine HC.exit ?_ | refine HC.ret ?_ | rw [fL_eq]); conv => whnf)
        rw [wrap_succ hlt hl]
        intro hg'
        exact ⟨l.length - (i + 1), fg [0, 1, 4, 5] _, _, by omega, Wk.fg hg'.1 hg'.2, rfl, i + 1, hlt, rfl, rfl⟩
    · repeat ((first | refine HC.seq ?_ | refine HC.ops ?_ | refine HO.k ?_ | refine HO.g ?_ | refine HO.nil ?_ | refine HC.drw mixed ?_ | refine HD.k ?_ | refine HD.g ?_ | refine HD.nil ?_ | refine HC.blk ?_ | refine HC.cond ?_ | refine HC.skip ?_ | refine HC.exit ?_ | refine HC.ret ?_ | rw [fL_eq]); conv => whnf)

/-- a request, a response, an outcome: parts of a move -/
def rqV (m : Mt) : V := .ag [.i .i64 (m.x 2), .i .u32 (m.x 3), .i .i64 (m.x 4), bsV m.bs, .i .i64 (m.x 6), .i .i64 (m.x 7), .i .i64 (m.x 8), .i .i64 (m.x 9), .i .i64 (m.x 10), .i .i64 (m.x 11), .i .u32 (m.x 12), .i .i64 (m.x 13), .i .i64 (m.x 14), .i .i64 (m.x 15), .i .i64 (m.x 16), .i .i64 (m.x 17), .i .i64 (m.x 18)]
def rsV (m : Mt) : V := .ag [.i .i64 (m.x 19), .i .u32 (m.x 20), .i .i64 (m.x 21), .i .i64 (m.x 22), vsV m.vs, .i .i64 (m.x 24), .i .i64 (m.x 25), .i .i64 (m.x 26), .i .i64 (m.x 27), .i .i64 (m.x 28), .i .i64 (m.x 29), .i .u32 (m.x 30), .i .i64 (m.x 31), .i .i64 (m.x 32), .i .i64 (m.x 33), .i .i64 (m.x 34), .i .i64 (m.x 35), .i .i64 (m.x 36)]
def ocV (m : Mt) : V := .ag [.i .i64 (m.x 37), .i .i64 (m.x 38), .i .i64 (m.x 39), .i .i64 (m.x 40), .i .i64 (m.x 41), .i .i64 (m.x 42), .i .i64 (m.x 43), rlV m.rl, .i .u32 (m.x 45)]
theorem rqV_nm {L : Nat → Prop} (m : Mt) : Nm L (rqV m) := .ag _ (fun v hv => by
  simp only [List.mem_cons, List.not_mem_nil, or_false] at hv
  rcases hv with rfl | rfl | rfl | rfl | rfl | rfl | rfl | rfl | rfl | rfl | rfl | rfl | rfl | rfl | rfl | rfl | rfl <;> first | exact .i _ _ | exact bsV_nm _)
theorem rsV_nm {L : Nat → Prop} (m : Mt) : Nm L (rsV m) := .ag _ (fun v hv => by
  simp only [List.mem_cons, List.not_mem_nil, or_false] at hv
  rcases hv with rfl | rfl | rfl | rfl | rfl | rfl | rfl | rfl | rfl | rfl | rfl | rfl | rfl | rfl | rfl | rfl | rfl | rfl <;> first | exact .i _ _ | exact vsV_nm _)
theorem ocV_nm {L : Nat → Prop} (m : Mt) : Nm L (ocV m) := .ag _ (fun v hv => by
  simp only [List.mem_cons, List.not_mem_nil, or_false] at hv
  rcases hv with rfl | rfl | rfl | rfl | rfl | rfl | rfl | rfl | rfl <;> first | exact .i _ _ | exact rlV_nm _)

theorem toBytes_of : ∀ l : List UInt8, toBytes ((bytesOf l).map V.cells).flatten = some l
  | [] => rfl
  | b :: l => by
    have ih := toBytes_of l
    show (toBytes ((bytesOf l).map V.cells).flatten).map (UInt8.ofNat ((b.toNat : Int)).toNat :: ·) = _
    rw [ih]; simp
theorem b2s_of {e : List V} {s : St} {x : Arg} {l : List UInt8} (hx : x.ev e = bsV l) : aop e s (.b2s x) = some (.s l, s) := by
  simp only [aop, hx, bsV, if_true, toBytes_of, Option.map_some]

theorem srq_den (m : Mt) : PDen gt0 Try.prog 25 [rqV m, rqV m] (.b true) := by
  refine PDen.hc gnm0 hF25 (nm2 (rqV_nm _) (rqV_nm _)) (.b _) ?_
  conv => whnf
  repeat' (first | ((first | refine HC.seq ?_ | refine HC.ops ?_ | refine HO.k ?_ | refine HO.g ?_ | refine HO.nil ?_ | refine HC.drw mixed ?_ | refine HD.k ?_ | refine HD.g ?_ | refine HD.nil ?_ | refine HC.blk ?_ | refine HC.cond ?_ | refine HC.skip ?_ | refine HC.exit ?_ | refine HC.ret ?_ | rw [fL_eq] | refine ⟨_, _, b2s_of rfl, ?_⟩); conv => whnf) | (refine brB_iff.2 ⟨fun hc => ?_, fun hc => ?_⟩ <;> conv => whnf))
  all_goals
    first
      | (exfalso; simp [eqZ_eq] at hc; done)
      | (simp [eqZ_eq]; done)
theorem soc_den (m : Mt) (hl : m.rl.length ≤ maxLen) : PDen gt0 Try.prog 27 [ocV m, ocV m] (.b true) := by
  refine PDen.hc gnm0 hF27 (nm2 (ocV_nm _) (ocV_nm _)) (.b _) ?_
  conv => whnf
  repeat' (first | ((first | refine HC.seq ?_ | refine HC.ops ?_ | refine HO.k ?_ | refine HO.g ?_ | refine HO.nil ?_ | refine HC.drw mixed ?_ | refine HD.k ?_ | refine HD.g ?_ | refine HD.nil ?_ | refine HC.blk ?_ | refine HC.cond ?_ | refine HC.skip ?_ | refine HC.exit ?_ | refine HC.ret ?_ | rw [fL_eq] | refine ⟨_, _, srec_den m.rl hl _, ?_⟩); conv => whnf) | (refine brB_iff.2 ⟨fun hc => ?_, fun hc => ?_⟩ <;> conv => whnf))
  all_goals
    first
      | (exfalso; simp [eqZ_eq] at hc; done)
      | (simp [eqZ_eq]; done)

def ERs (m : Mt) (i : Nat) : List V := .bad :: .bad :: .q (rsV m) 0 :: .q (rsV m) 0 :: .b false :: .i .i64 (i : Nat) :: List.replicate 72 .bad
theorem srs_den (m : Mt) (hl : m.vs.length ≤ maxLen) : PDen gt0 Try.prog 26 [rsV m, rsV m] (.b true) := by
  refine PDen.hc gnm0 hF26 (nm2 (rsV_nm _) (rsV_nm _)) (.b _) ?_
  have hlx : (m.vs.map fun n => V.i .i64 n).length = m.vs.length := List.length_map ..
  conv => whnf
  repeat' (first | ((first | refine HC.seq ?_ | refine HC.ops ?_ | refine HO.k ?_ | refine HO.g ?_ | refine HO.nil ?_ | refine HC.drw mixed ?_ | refine HD.k ?_ | refine HD.g ?_ | refine HD.nil ?_ | refine HC.blk ?_ | refine HC.cond ?_ | refine HC.skip ?_ | refine HC.exit ?_ | refine HC.ret ?_ | rw [fL_eq] | refine HC.ret ?_); conv => whnf) | (refine brB_iff.2 ⟨fun hc => ?_, fun hc => ?_⟩ <;> conv => whnf))
  all_goals
    first
      | (exfalso; simp [eqZ_eq] at hc; done)
      | skip
  refine HC.loop gnm0 fun hg => ⟨fun n e s => s = s0 ∧ ∃ i : Nat, i ≤ m.vs.length ∧ n = m.vs.length - i ∧ e = ERs m i, ⟨m.vs.length, fg [2, 3, 4, 5] _, _, Wk.fg hg.1 hg.2, rfl, 0, Nat.zero_le _, rfl, rfl⟩, ?_⟩
  rintro n e s ⟨rfl, i, hi, rfl, rfl⟩
  conv => whnf
  repeat ((first | refine HC.seq ?_ | refine HC.ops ?_ | refine HO.k ?_ | refine HO.g ?_ | refine HO.nil ?_ | refine HC.drw mixed ?_ | refine HD.k ?_ | refine HD.g ?_ | refine HD.nil ?_ | refine HC.blk ?_ | refine HC.cond ?_ | refine HC.skip ?_ | refine HC.exit ?_ | refine HC.ret ?_ | rw [fL_eq]); conv => whnf)
  refine brB_iff.2 ⟨fun h1 => ?_, fun h1 => ?_⟩ <;> conv => whnf
  · have hlt : i < m.vs.length := by rw [ltZ_eq] at h1; simp at h1; omega
    have hmx : (m.vs.map fun n => V.i .i64 n)[((i : Nat) : Int).toNat]? = some (.i .i64 m.vs[i]) := by simp [hlt]
    generalize m.vs[i] = a at hmx
    repeat ((first | refine HC.seq ?_ | refine HC.ops ?_ | refine HO.k ?_ | refine HO.g ?_ | refine HO.nil ?_ | refine HC.drw mixed ?_ | refine HD.k ?_ | refine HD.g ?_ | refine HD.nil ?_ | refine HC.blk ?_ | refine HC.cond ?_ | refine HC.skip ?_ | refine HC.exit ?_ | refine HC.ret ?_ | rw [fL_eq]); conv => whnf)
    refine ⟨rfl, Int.natCast_nonneg _, _, hmx, ?_⟩
    conv => whnf
    repeat ((first | refine HC.seq ?_ | refine HC.ops ?_ | refine HO.k ?_ | refine HO.g ?_ | refine HO.nil ?_ | refine HC.drw mixed ?_ | refine HD.k ?_ | refine HD.g ?_ | refine HD.nil ?_ | refine HC.blk ?_ | refine HC.cond ?_ | refine HC.skip ?_ | refine HC.exit ?_ | refine HC.ret ?_ | rw [fL_eq]); conv => whnf)
    refine ⟨rfl, Int.natCast_nonneg _, _, hmx, ?_⟩
    conv => whnf
    repeat ((first | refine HC.seq ?_ | refine HC.ops ?_ | refine HO.k ?_ | refine HO.g ?_ | refine HO.nil ?_ | refine HC.drw mixed ?_ | refine HD.k ?_ | refine HD.g ?_ | refine HD.nil ?_ | refine HC.blk ?_ | refine HC.cond ?_ | refine HC.skip ?_ | refine HC.exit ?_ | refine HC.ret ?_ | rw [fL_eq]); conv => whnf)
    refine brB_iff.2 ⟨fun h2 => ?_, fun h2 => ?_⟩ <;> conv => whnf
    · exfalso; simp [eqZ_eq] at h2
    · repeat ((first | refine HC.seq ?_ | refine HC.ops ?_ | refine HO.k ?_ | refine HO.g ?_ | refine HO.nil ?_ | refine HC.drw mixed ?_ | refine HD.k ?_ | refine HD.g ?_ | refine HD.nil ?_ | refine HC.blk ?_ | refine HC.cond ?_ | refine HC.skip ?_ | refine HC.exit ?_ | refine HC.ret ?_ | rw [fL_eq]); conv => whnf)
      rw [wrap_succ hlt hl]
      intro hg'
      exact ⟨m.vs.length - (i + 1), fg [2, 3, 4, 5] _, _, by omega, Wk.fg hg'.1 hg'.2, rfl, i + 1, hlt, rfl, rfl⟩
  · repeat' (first | ((first | refine HC.seq ?_ | refine HC.ops ?_ | refine HO.k ?_ | refine HO.g ?_ | refine HO.nil ?_ | refine HC.drw mixed ?_ | refine HD.k ?_ | refine HD.g ?_ | refine HD.nil ?_ | refine HC.blk ?_ | refine HC.cond ?_ | refine HC.skip ?_ | refine HC.exit ?_ | refine HC.ret ?_ | rw [fL_eq] | refine HC.ret ?_); conv => whnf) | (refine brB_iff.2 ⟨fun hc => ?_, fun hc => ?_⟩ <;> conv => whnf))
    all_goals
      first
        | (exfalso; simp [eqZ_eq] at hc; done)
        | (simp [eqZ_eq]; done)

theorem smove_den (m : Mt) (hv : m.vs.length ≤ maxLen) (hr : m.rl.length ≤ maxLen) : PDen gt0 Try.prog 17 [m.v, m.v] (.b true) := by
  refine PDen.hc gnm0 hF17 (nm2 (mv_nm _) (mv_nm _)) (.b _) ?_
  conv => whnf
  repeat' (first | ((first | refine HC.seq ?_ | refine HC.ops ?_ | refine HO.k ?_ | refine HO.g ?_ | refine HO.nil ?_ | refine HC.drw mixed ?_ | refine HD.k ?_ | refine HD.g ?_ | refine HD.nil ?_ | refine HC.blk ?_ | refine HC.cond ?_ | refine HC.skip ?_ | refine HC.exit ?_ | refine HC.ret ?_ | rw [fL_eq] | refine ⟨_, _, srq_den m _, ?_⟩ | refine ⟨_, _, srs_den m hv _, ?_⟩ | refine ⟨_, _, soc_den m hr _, ?_⟩); conv => whnf) | (refine brB_iff.2 ⟨fun hc => ?_, fun hc => ?_⟩ <;> conv => whnf))
  all_goals
    first
      | (exfalso; simp [eqZ_eq] at hc; done)
      | (simp [eqZ_eq]; done)
end Go.Proofs.Ytlcpcgcegpfklaa
