/-
  Contracts: windows. No statement stands here.
-/
import Derived.Test.YthoojnjcdllgdaaTga
import Derived.Test.YthoojnjcdllgdaaTsk
import Derived.Test.YthoojnjcdllgdaaTsum
set_option linter.all false
namespace Go.Proofs.Ythoojnjcdllgdaa
open Go Rf TallyP
set_option maxRecDepth 100000
set_option maxHeartbeats 4000000

theorem wI (n : Int) : wrapF .i64 n = (n + 9223372036854775808) % 18446744073709551616 - 9223372036854775808 := by
  rw [wrapF_eq]
  simp only [IntKind.wrap, IntKind.bits, IntKind.signed, Bool.true_and, decide_eq_true_eq, ge_iff_le]
  split <;> omega
theorem wIn {n : Int} (h1 : -9223372036854775808 ≤ n) (h2 : n ≤ 9223372036854775807) : wrapF .i64 n = n := by rw [wI]; omega
theorem bv_quo {a b : Int} (hb : 0 < b) (h1 : -1152921504606846976 ≤ a) (h2 : a ≤ 1152921504606846976) : binV .quo (.i .i64 a) (.i .i64 b) = some (.i .i64 (a.tdiv b)) := by
  have := Int.natAbs_tdiv_le_natAbs a b
  have e : wrapF .i64 (a.tdiv b) = a.tdiv b := wIn (by omega) (by omega)
  show (if b = 0 then none else some (wrapK .i64 (a.tdiv b))) = _
  rw [if_neg (by omega), wrapK, e]
theorem bv_rem {a b : Int} (hb : 0 < b) : binV .rem (.i .i64 a) (.i .i64 b) = some (.i .i64 (a.tmod b)) := by
  show (if b = 0 then none else some (V.i .i64 (a.tmod b))) = _
  rw [if_neg (by omega)]
theorem from_pos {t len : Int} (hl : 0 < len) (h : ¬ t.tmod len < 0) : t.tdiv len * len = fromW len t := by
  have h1 := Int.tdiv_mul_add_tmod t len
  have h2 := Int.tmod_lt_of_pos t hl
  have e : t % len = t.tmod len := by
    rw [show t % len = (t.tmod len + len * t.tdiv len) % len by rw [Int.mul_comm, Int.add_comm, h1], Int.add_mul_emod_self_left, Int.emod_eq_of_lt (by omega) h2]
  unfold fromW
  omega
theorem from_neg {t len : Int} (hl : 0 < len) (h : t.tmod len < 0) : (t.tdiv len - 1) * len = fromW len t := by
  have h1 := Int.tdiv_mul_add_tmod t len
  have h2 := Int.lt_tmod_of_pos t hl
  have e : t % len = t.tmod len + len := by
    rw [show t % len = (t.tmod len + len + len * (t.tdiv len - 1)) % len by rw [Int.mul_sub, Int.mul_comm]; congr 1; omega, Int.add_mul_emod_self_left, Int.emod_eq_of_lt (by omega) (by omega)]
  unfold fromW
  rw [Int.sub_mul]
  omega
theorem from_bnd {t len : Int} (hl : 0 < len) (hl2 : len ≤ 4503599627370496) (h1 : -1152921504606846976 ≤ t) (h2 : t ≤ 1152921504606846976) : -1200000000000000000 ≤ fromW len t ∧ fromW len t ≤ 1152921504606846976 := by
  unfold fromW
  have := Int.emod_nonneg t (show len ≠ 0 by omega)
  have := Int.emod_lt_of_pos t hl
  omega
theorem mv_cell {m : Mv} (hn : Nm s0.L m.v) : ∀ c ∈ m.c, Nm s0.L c := by
  cases hn with
  | ag _ h => exact h
theorem mv_e {m : Mv} (hn : Nm s0.L m.v) : Nm s0.L (.ag m.e) := by
  have h := mv_cell hn
  refine .ag _ fun c hc => ?_
  simp only [Mv.e, List.mem_cons, List.not_mem_nil, or_false] at hc
  rcases hc with rfl | rfl | rfl | rfl | rfl | rfl
  · exact .i _ _
  · exact .i _ _
  · exact h _ (by simp [Mv.c])
  · exact .i _ _
  · exact .i _ _
  · exact h _ (by simp [Mv.c])
theorem win_den (m : Mv) (len : Int) (hl : 0 < len) (hl2 : len ≤ 4503599627370496) (ht1 : -1152921504606846976 ≤ m.t) (ht2 : m.t ≤ 1152921504606846976) (hn : Nm s0.L m.v) : PDen gt0 Try.prog 24 (.ag m.e :: [.q (.i .i64 len) 0]) (iE (fromW len m.t)) := by
  refine PDen.hc gnm0 hF24 (fun x hx => by
    simp at hx
    rcases hx with rfl | rfl
    · exact mv_e hn
    · exact .q _ _ (.i _ _)) (.i _ _) ?_
  conv => whnf
  refine sgo ?_
  have hq1 := Int.natAbs_tdiv_le_natAbs m.t len
  refine ⟨_, bv_quo hl ht1 ht2, ?_⟩
  conv => whnf
  refine sgo ?_
  refine ⟨_, bv_rem hl, ?_⟩
  conv => whnf
  refine sgo ?_
  obtain ⟨b1, b2⟩ := from_bnd hl hl2 ht1 ht2
  cases hr : ltZ (m.t.tmod len) 0 <;> conv => whnf
  · refine sgo ?_
    rw [ltZ_eq] at hr
    simp only [decide_eq_false_iff_not] at hr
    rw [from_pos hl hr, wIn (by omega) (by omega)]
    rfl
  · refine sgo ?_
    rw [ltZ_eq] at hr
    simp only [decide_eq_true_eq] at hr
    rw [wIn (n := m.t.tdiv len - 1) (by omega) (by omega), from_neg hl hr, wIn (by omega) (by omega)]
    rfl
end Go.Proofs.Ythoojnjcdllgdaa
