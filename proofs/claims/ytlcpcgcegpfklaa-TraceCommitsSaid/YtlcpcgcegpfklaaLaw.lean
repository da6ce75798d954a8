/-
  The law's walk: TraceCommits answers true. No statement stands here.
-/
import Derived.Test.YtlcpcgcegpfklaaRef
set_option linter.all false
namespace Go.Proofs.Ytlcpcgcegpfklaa
open Go Rf
set_option maxRecDepth 100000
set_option maxHeartbeats 4000000

def hV (ms : List Mt) : V := .pu 1 ((hidx 0 ms).map iV) .u
def E4 (ms : List Mt) (i : Nat) : List V := msV ms :: .bad :: .bad :: .bad :: rlV (evs ms) :: hV ms :: msV (hits ms) :: .i .i64 (i : Nat) :: List.replicate 69 .bad

theorem sum_mem : ∀ {ms : List Mt} {m : Mt}, m ∈ ms → szM m ≤ sumM ms
  | x :: r, m, h => by
    simp only [sumM, List.map_cons, List.sum_cons]
    rcases List.mem_cons.1 h with rfl | h
    · omega
    · have := sum_mem h
      simp only [sumM] at this
      omega
theorem recs_sum : ∀ ms : List Mt, (recs ms).length ≤ sumM ms
  | [] => Nat.zero_le _
  | m :: r => by
    have := recs_sum r
    have hz : m.rl.length ≤ szM m := by unfold szM; simp only [List.length_map]; omega
    unfold recs at *
    simp only [sumM, List.map_cons, List.sum_cons] at *
    by_cases h : isC m = true
    · rw [List.filter_cons_of_pos h, List.flatMap_cons, List.length_append]
      omega
    · rw [List.filter_cons_of_neg h]
      omega
theorem few_of {ms : List Mt} (h : fewB ms = true) : few6 ms := by
  unfold fewB at h
  simp only [Bool.and_eq_true, leZ_eq, decide_eq_true_eq] at h
  have h1 : ms.length ≤ 60 := by omega
  have h2 : sumM ms ≤ 3000 := by have := h.2; rw [List.take_of_length_le (by omega)] at this; omega
  refine ⟨h1, Nat.le_trans (recs_sum ms) h2, fun m hm => ?_⟩
  have := Nat.le_trans (sum_mem hm) h2
  unfold szM bytesOf at this
  simp only [List.length_map] at this
  omega

theorem law_den (ms : List Mt) (hml : ms.length ≤ maxLen) (hw : ∀ m ∈ ms, szM m ≤ 1125899906842624) : PDen gt0 Try.prog 4 [msV ms] (.b true) := by
  have hfd := few_den ms hml hw
  have hfo := few_of (ms := ms)
  generalize fewB ms = fb at hfd hfo
  refine PDen.hc gnm0 hF4 (nm1 (msV_nm _)) (.b _) ?_
  conv => whnf
  repeat ((first | refine HO.bsl1 rfl rfl rfl ?_ | refine HC.seq ?_ | refine HC.ops ?_ | refine HO.k ?_ | refine HO.g ?_ | refine HO.nil ?_ | refine HC.drw mixed ?_ | refine HD.k ?_ | refine HD.g ?_ | refine HD.nil ?_ | refine HC.blk ?_ | refine HC.cond ?_ | refine HC.skip ?_ | refine HC.exit ?_ | refine HC.ret ?_ | rw [fL_eq] | rw [fN_eq]); conv => whnf)
  refine ⟨_, _, hfd _, ?_⟩
  conv => whnf
  cases fb
  · repeat ((first | refine HO.bsl1 rfl rfl rfl ?_ | refine HC.seq ?_ | refine HC.ops ?_ | refine HO.k ?_ | refine HO.g ?_ | refine HO.nil ?_ | refine HC.drw mixed ?_ | refine HD.k ?_ | refine HD.g ?_ | refine HD.nil ?_ | refine HC.blk ?_ | refine HC.cond ?_ | refine HC.skip ?_ | refine HC.exit ?_ | refine HC.ret ?_ | rw [fL_eq] | rw [fN_eq]); conv => whnf)
    refine ⟨_, _, known_pden _, ?_⟩
    conv => whnf
    repeat ((first | refine HO.bsl1 rfl rfl rfl ?_ | refine HC.seq ?_ | refine HC.ops ?_ | refine HO.k ?_ | refine HO.g ?_ | refine HO.nil ?_ | refine HC.drw mixed ?_ | refine HD.k ?_ | refine HD.g ?_ | refine HD.nil ?_ | refine HC.blk ?_ | refine HC.cond ?_ | refine HC.skip ?_ | refine HC.exit ?_ | refine HC.ret ?_ | rw [fL_eq] | rw [fN_eq]); conv => whnf)
  · have hf := hfo rfl
    obtain ⟨hl, hrl, hm⟩ := hf
    have hle : (evs ms).length ≤ 60 := Nat.le_trans (by have := evs_take_le ms ms.length; rwa [List.take_length] at this) hl
    have hhl := hlen ms 0
    have hhe : (hits ms).length ≤ 60 := Nat.le_trans (by have := hits_take_le ms ms.length; rwa [List.take_length] at this) hl
    have hmx3 : 3000 ≤ maxLen := by decide
    repeat ((first | refine HO.bsl1 rfl rfl rfl ?_ | refine HC.seq ?_ | refine HC.ops ?_ | refine HO.k ?_ | refine HO.g ?_ | refine HO.nil ?_ | refine HC.drw mixed ?_ | refine HD.k ?_ | refine HD.g ?_ | refine HD.nil ?_ | refine HC.blk ?_ | refine HC.cond ?_ | refine HC.skip ?_ | refine HC.exit ?_ | refine HC.ret ?_ | rw [fL_eq] | rw [fN_eq]); conv => whnf)
    refine ⟨_, _, refc_den ms ⟨hl, hrl, hm⟩ _, ?_⟩
    conv => whnf
    repeat ((first | refine HO.bsl1 rfl rfl rfl ?_ | refine HC.seq ?_ | refine HC.ops ?_ | refine HO.k ?_ | refine HO.g ?_ | refine HO.nil ?_ | refine HC.drw mixed ?_ | refine HD.k ?_ | refine HD.g ?_ | refine HD.nil ?_ | refine HC.blk ?_ | refine HC.cond ?_ | refine HC.skip ?_ | refine HC.exit ?_ | refine HC.ret ?_ | rw [fL_eq] | rw [fN_eq]); conv => whnf)
    refine ⟨_, _, trh_den ms ⟨hl, hrl, hm⟩ _, ?_⟩
    conv => whnf
    repeat ((first | refine HO.bsl1 rfl rfl rfl ?_ | refine HC.seq ?_ | refine HC.ops ?_ | refine HO.k ?_ | refine HO.g ?_ | refine HO.nil ?_ | refine HC.drw mixed ?_ | refine HD.k ?_ | refine HD.g ?_ | refine HD.nil ?_ | refine HC.blk ?_ | refine HC.cond ?_ | refine HC.skip ?_ | refine HC.exit ?_ | refine HC.ret ?_ | rw [fL_eq] | rw [fN_eq]); conv => whnf)
    refine ⟨_, _, trc_den ms ⟨hl, hrl, hm⟩ _, ?_⟩
    conv => whnf
    repeat ((first | refine HO.bsl1 rfl rfl rfl ?_ | refine HC.seq ?_ | refine HC.ops ?_ | refine HO.k ?_ | refine HO.g ?_ | refine HO.nil ?_ | refine HC.drw mixed ?_ | refine HD.k ?_ | refine HD.g ?_ | refine HD.nil ?_ | refine HC.blk ?_ | refine HC.cond ?_ | refine HC.skip ?_ | refine HC.exit ?_ | refine HC.ret ?_ | rw [fL_eq] | rw [fN_eq]); conv => whnf)
    refine ⟨_, _, srec_den (recs ms) (by omega) _, ?_⟩
    conv => whnf
    repeat ((first | refine HO.bsl1 rfl rfl rfl ?_ | refine HC.seq ?_ | refine HC.ops ?_ | refine HO.k ?_ | refine HO.g ?_ | refine HO.nil ?_ | refine HC.drw mixed ?_ | refine HD.k ?_ | refine HD.g ?_ | refine HD.nil ?_ | refine HC.blk ?_ | refine HC.cond ?_ | refine HC.skip ?_ | refine HC.exit ?_ | refine HC.ret ?_ | rw [fL_eq] | rw [fN_eq]); conv => whnf)
    refine ⟨_, _, tre_den ms ⟨hl, hrl, hm⟩ _, ?_⟩
    conv => whnf
    repeat ((first | refine HO.bsl1 rfl rfl rfl ?_ | refine HC.seq ?_ | refine HC.ops ?_ | refine HO.k ?_ | refine HO.g ?_ | refine HO.nil ?_ | refine HC.drw mixed ?_ | refine HD.k ?_ | refine HD.g ?_ | refine HD.nil ?_ | refine HC.blk ?_ | refine HC.cond ?_ | refine HC.skip ?_ | refine HC.exit ?_ | refine HC.ret ?_ | rw [fL_eq] | rw [fN_eq]); conv => whnf)
    refine ⟨_, _, sev_den (evs ms) (by omega) _, ?_⟩
    conv => whnf
    repeat ((first | refine HO.bsl1 rfl rfl rfl ?_ | refine HC.seq ?_ | refine HC.ops ?_ | refine HO.k ?_ | refine HO.g ?_ | refine HO.nil ?_ | refine HC.drw mixed ?_ | refine HD.k ?_ | refine HD.g ?_ | refine HD.nil ?_ | refine HC.blk ?_ | refine HC.cond ?_ | refine HC.skip ?_ | refine HC.exit ?_ | refine HC.ret ?_ | rw [fL_eq] | rw [fN_eq]); conv => whnf)
    refine brB_iff.2 ⟨fun h1 => ?_, fun h1 => ?_⟩ <;> conv => whnf
    · exfalso
      simp [eqZ_eq, hhl] at h1
    · repeat ((first | refine HO.bsl1 rfl rfl rfl ?_ | refine HC.seq ?_ | refine HC.ops ?_ | refine HO.k ?_ | refine HO.g ?_ | refine HO.nil ?_ | refine HC.drw mixed ?_ | refine HD.k ?_ | refine HD.g ?_ | refine HD.nil ?_ | refine HC.blk ?_ | refine HC.cond ?_ | refine HC.skip ?_ | refine HC.exit ?_ | refine HC.ret ?_ | rw [fL_eq] | rw [fN_eq]); conv => whnf)
      refine HC.loop gnm0 fun hg => ⟨fun n e s => s = s0 ∧ ∃ i : Nat, i ≤ (hidx 0 ms).length ∧ n = (hidx 0 ms).length - i ∧ e = E4 ms i, ⟨(hidx 0 ms).length, fg [0, 4, 5, 6, 7] _, _, Wk.fg hg.1 hg.2, rfl, 0, Nat.zero_le _, rfl, rfl⟩, ?_⟩
      rintro n e s ⟨rfl, i, hi, rfl, rfl⟩
      conv => whnf
      repeat ((first | refine HO.bsl1 rfl rfl rfl ?_ | refine HC.seq ?_ | refine HC.ops ?_ | refine HO.k ?_ | refine HO.g ?_ | refine HO.nil ?_ | refine HC.drw mixed ?_ | refine HD.k ?_ | refine HD.g ?_ | refine HD.nil ?_ | refine HC.blk ?_ | refine HC.cond ?_ | refine HC.skip ?_ | refine HC.exit ?_ | refine HC.ret ?_ | rw [fL_eq] | rw [fN_eq]); conv => whnf)
      refine brB_iff.2 ⟨fun h2 => ?_, fun h2 => ?_⟩ <;> conv => whnf
      · have hlt : i < (hidx 0 ms).length := by rw [ltZ_eq] at h2; simp at h2; omega
        obtain ⟨-, m, g1, g2⟩ := hits_at ms 0 i (hidx 0 ms)[i] (by simp [hlt])
        rw [Nat.sub_zero] at g1
        have hj : ((hidx 0 ms).map iV)[((i : Nat) : Int).toNat]? = some (iV (hidx 0 ms)[i]) := by simp [hlt]
        generalize (hidx 0 ms)[i] = j at g1 hj
        have hx1 : ((hits ms).map Mt.v)[((i : Nat) : Int).toNat]? = some m.v := by simp [g2]
        have hx2 : (ms.map Mt.v)[((j : Nat) : Int).toNat]? = some m.v := by simp [g1]
        have hmm := hm m (List.mem_of_getElem? g1)
        repeat ((first | refine HO.bsl1 rfl rfl rfl ?_ | refine HC.seq ?_ | refine HC.ops ?_ | refine HO.k ?_ | refine HO.g ?_ | refine HO.nil ?_ | refine HC.drw mixed ?_ | refine HD.k ?_ | refine HD.g ?_ | refine HD.nil ?_ | refine HC.blk ?_ | refine HC.cond ?_ | refine HC.skip ?_ | refine HC.exit ?_ | refine HC.ret ?_ | rw [fL_eq] | rw [fN_eq]); conv => whnf)
        refine ⟨rfl, Int.natCast_nonneg _, _, hx1, ?_⟩
        conv => whnf
        repeat ((first | refine HO.bsl1 rfl rfl rfl ?_ | refine HC.seq ?_ | refine HC.ops ?_ | refine HO.k ?_ | refine HO.g ?_ | refine HO.nil ?_ | refine HC.drw mixed ?_ | refine HD.k ?_ | refine HD.g ?_ | refine HD.nil ?_ | refine HC.blk ?_ | refine HC.cond ?_ | refine HC.skip ?_ | refine HC.exit ?_ | refine HC.ret ?_ | rw [fL_eq] | rw [fN_eq]); conv => whnf)
        refine ⟨rfl, Int.natCast_nonneg _, _, hj, ?_⟩
        conv => whnf
        repeat ((first | refine HO.bsl1 rfl rfl rfl ?_ | refine HC.seq ?_ | refine HC.ops ?_ | refine HO.k ?_ | refine HO.g ?_ | refine HO.nil ?_ | refine HC.drw mixed ?_ | refine HD.k ?_ | refine HD.g ?_ | refine HD.nil ?_ | refine HC.blk ?_ | refine HC.cond ?_ | refine HC.skip ?_ | refine HC.exit ?_ | refine HC.ret ?_ | rw [fL_eq] | rw [fN_eq]); conv => whnf)
        refine ⟨rfl, Int.natCast_nonneg _, _, hx2, ?_⟩
        conv => whnf
        repeat ((first | refine HO.bsl1 rfl rfl rfl ?_ | refine HC.seq ?_ | refine HC.ops ?_ | refine HO.k ?_ | refine HO.g ?_ | refine HO.nil ?_ | refine HC.drw mixed ?_ | refine HD.k ?_ | refine HD.g ?_ | refine HD.nil ?_ | refine HC.blk ?_ | refine HC.cond ?_ | refine HC.skip ?_ | refine HC.exit ?_ | refine HC.ret ?_ | rw [fL_eq] | rw [fN_eq]); conv => whnf)
        refine ⟨_, _, smove_den m (by omega) (by omega) _, ?_⟩
        conv => whnf
        repeat ((first | refine HO.bsl1 rfl rfl rfl ?_ | refine HC.seq ?_ | refine HC.ops ?_ | refine HO.k ?_ | refine HO.g ?_ | refine HO.nil ?_ | refine HC.drw mixed ?_ | refine HD.k ?_ | refine HD.g ?_ | refine HD.nil ?_ | refine HC.blk ?_ | refine HC.cond ?_ | refine HC.skip ?_ | refine HC.exit ?_ | refine HC.ret ?_ | rw [fL_eq] | rw [fN_eq]); conv => whnf)
        rw [wrap_succ hlt (by omega)]
        intro hg'
        exact ⟨(hidx 0 ms).length - (i + 1), fg [0, 4, 5, 6, 7] _, _, by omega, Wk.fg hg'.1 hg'.2, rfl, i + 1, hlt, rfl, rfl⟩
      · repeat ((first | refine HO.bsl1 rfl rfl rfl ?_ | refine HC.seq ?_ | refine HC.ops ?_ | refine HO.k ?_ | refine HO.g ?_ | refine HO.nil ?_ | refine HC.drw mixed ?_ | refine HD.k ?_ | refine HD.g ?_ | refine HD.nil ?_ | refine HC.blk ?_ | refine HC.cond ?_ | refine HC.skip ?_ | refine HC.exit ?_ | refine HC.ret ?_ | rw [fL_eq] | rw [fN_eq]); conv => whnf)
        refine brB_iff.2 ⟨fun h3 => ?_, fun h3 => ?_⟩ <;> conv => whnf
        · have h0 : (evs ms).length ≠ 0 := by rw [ltZ_eq] at h3; simp at h3; intro h; rw [List.length_eq_zero_iff.1 h] at h3; simp at h3
          obtain ⟨r, hr, hlast⟩ := last_at h0
          have hwr : wrapF .i64 ((((evs ms).map rV).length : Int) - 1) = (((evs ms).length - 1 : Nat) : Int) := by
            rw [List.length_map, show (((evs ms).length : Int) - 1) = (((evs ms).length - 1 : Nat) : Int) by omega, wrap_nat (by omega)]
          repeat ((first | refine HO.bsl1 rfl rfl rfl ?_ | refine HC.seq ?_ | refine HC.ops ?_ | refine HO.k ?_ | refine HO.g ?_ | refine HO.nil ?_ | refine HC.drw mixed ?_ | refine HD.k ?_ | refine HD.g ?_ | refine HD.nil ?_ | refine HC.blk ?_ | refine HC.cond ?_ | refine HC.skip ?_ | refine HC.exit ?_ | refine HC.ret ?_ | rw [fL_eq] | rw [fN_eq]); conv => whnf)
          rw [hwr]
          refine ⟨rfl, Int.natCast_nonneg _, _, hr, ?_⟩
          conv => whnf
          repeat ((first | refine HO.bsl1 rfl rfl rfl ?_ | refine HC.seq ?_ | refine HC.ops ?_ | refine HO.k ?_ | refine HO.g ?_ | refine HO.nil ?_ | refine HC.drw mixed ?_ | refine HD.k ?_ | refine HD.g ?_ | refine HD.nil ?_ | refine HC.blk ?_ | refine HC.cond ?_ | refine HC.skip ?_ | refine HC.exit ?_ | refine HC.ret ?_ | rw [fL_eq] | rw [fN_eq]); conv => whnf)
          refine ⟨_, _, floor_den ms ⟨hl, hrl, hm⟩ _, ?_⟩
          conv => whnf
          repeat ((first | refine HO.bsl1 rfl rfl rfl ?_ | refine HC.seq ?_ | refine HC.ops ?_ | refine HO.k ?_ | refine HO.g ?_ | refine HO.nil ?_ | refine HC.drw mixed ?_ | refine HD.k ?_ | refine HD.g ?_ | refine HD.nil ?_ | refine HC.blk ?_ | refine HC.cond ?_ | refine HC.skip ?_ | refine HC.exit ?_ | refine HC.ret ?_ | rw [fL_eq] | rw [fN_eq]); conv => whnf)
          refine brB_iff.2 ⟨fun h4 => ?_, fun h4 => ?_⟩ <;> conv => whnf
          · repeat ((first | refine HO.bsl1 rfl rfl rfl ?_ | refine HC.seq ?_ | refine HC.ops ?_ | refine HO.k ?_ | refine HO.g ?_ | refine HO.nil ?_ | refine HC.drw mixed ?_ | refine HD.k ?_ | refine HD.g ?_ | refine HD.nil ?_ | refine HC.blk ?_ | refine HC.cond ?_ | refine HC.skip ?_ | refine HC.exit ?_ | refine HC.ret ?_ | rw [fL_eq] | rw [fN_eq]); conv => whnf)
            refine ⟨_, _, known_pden _, ?_⟩
            conv => whnf
            repeat ((first | refine HO.bsl1 rfl rfl rfl ?_ | refine HC.seq ?_ | refine HC.ops ?_ | refine HO.k ?_ | refine HO.g ?_ | refine HO.nil ?_ | refine HC.drw mixed ?_ | refine HD.k ?_ | refine HD.g ?_ | refine HD.nil ?_ | refine HC.blk ?_ | refine HC.cond ?_ | refine HC.skip ?_ | refine HC.exit ?_ | refine HC.ret ?_ | rw [fL_eq] | rw [fN_eq]); conv => whnf)
          · exfalso
            rw [hlast] at h4
            simp [eqZ_eq] at h4
        · have h0 : evs ms = [] := by
            rw [ltZ_eq] at h3
            simp at h3
            cases h : evs ms with
            | nil => rfl
            | cons a l => rw [h] at h3; simp at h3
          have hlast : lastT (evs ms) = -1 := by rw [h0]; rfl
          repeat ((first | refine HO.bsl1 rfl rfl rfl ?_ | refine HC.seq ?_ | refine HC.ops ?_ | refine HO.k ?_ | refine HO.g ?_ | refine HO.nil ?_ | refine HC.drw mixed ?_ | refine HD.k ?_ | refine HD.g ?_ | refine HD.nil ?_ | refine HC.blk ?_ | refine HC.cond ?_ | refine HC.skip ?_ | refine HC.exit ?_ | refine HC.ret ?_ | rw [fL_eq] | rw [fN_eq]); conv => whnf)
          refine ⟨_, _, floor_den ms ⟨hl, hrl, hm⟩ _, ?_⟩
          conv => whnf
          repeat ((first | refine HO.bsl1 rfl rfl rfl ?_ | refine HC.seq ?_ | refine HC.ops ?_ | refine HO.k ?_ | refine HO.g ?_ | refine HO.nil ?_ | refine HC.drw mixed ?_ | refine HD.k ?_ | refine HD.g ?_ | refine HD.nil ?_ | refine HC.blk ?_ | refine HC.cond ?_ | refine HC.skip ?_ | refine HC.exit ?_ | refine HC.ret ?_ | rw [fL_eq] | rw [fN_eq]); conv => whnf)
          refine brB_iff.2 ⟨fun h4 => ?_, fun h4 => ?_⟩ <;> conv => whnf
          · repeat ((first | refine HO.bsl1 rfl rfl rfl ?_ | refine HC.seq ?_ | refine HC.ops ?_ | refine HO.k ?_ | refine HO.g ?_ | refine HO.nil ?_ | refine HC.drw mixed ?_ | refine HD.k ?_ | refine HD.g ?_ | refine HD.nil ?_ | refine HC.blk ?_ | refine HC.cond ?_ | refine HC.skip ?_ | refine HC.exit ?_ | refine HC.ret ?_ | rw [fL_eq] | rw [fN_eq]); conv => whnf)
            refine ⟨_, _, known_pden _, ?_⟩
            conv => whnf
            repeat ((first | refine HO.bsl1 rfl rfl rfl ?_ | refine HC.seq ?_ | refine HC.ops ?_ | refine HO.k ?_ | refine HO.g ?_ | refine HO.nil ?_ | refine HC.drw mixed ?_ | refine HD.k ?_ | refine HD.g ?_ | refine HD.nil ?_ | refine HC.blk ?_ | refine HC.cond ?_ | refine HC.skip ?_ | refine HC.exit ?_ | refine HC.ret ?_ | rw [fL_eq] | rw [fN_eq]); conv => whnf)
          · exfalso
            rw [hlast] at h4
            simp [eqZ_eq] at h4
end Go.Proofs.Ytlcpcgcegpfklaa
