/-
  A window of twice a length is two of them, plainly. No statement stands here.
-/
import Derived.Test.YthoojnjcdllgdaaTxc
import Derived.Test.YthoojnjcdllgdaaTmu
set_option linter.all false
namespace Go.Proofs.Ythoojnjcdllgdaa
open Go Rf TallyP
set_option maxRecDepth 100000
set_option maxHeartbeats 4000000

theorem wr_wr (a b : Int) : wrapF .i64 (wrapF .i64 a + b) = wrapF .i64 (a + b) := by rw [wI, wI, wI]; omega
theorem wr_wr2 (a b : Int) : wrapF .i64 (wrapF .i64 a + wrapF .i64 b) = wrapF .i64 (a + b) := by rw [wI, wI, wI, wI]; omega
def incU (n : Nat) (o : Option (Int × Int)) : Int × Int := ((o.getD (0, 0)).1 + 1, (o.getD (0, 0)).2 + n)
def wr2 (s : Int × Int) : Int × Int := (wrapF .i64 s.1, wrapF .i64 s.2)
def refU (len : Int) (es : List Mv) : List Rw2 := es.foldl (fun l m => insR ltI (incU m.rl.length) (fromW len m.t) l) []
theorem inc_wr (n : Nat) (o : Option (Int × Int)) : wr2 (incU n o) = incS n (o.map wr2) := by
  cases o with
  | none => rfl
  | some s => simp only [wr2, incU, incS, Option.map_some, Option.getD_some, wr_wr]
theorem ref_wr (len : Int) (es : List Mv) : (refU len es).map (fun x => (x.1, wr2 x.2)) = refR len es :=
  fold_map (g := wr2) (fun e o => inc_wr e.rl.length o) es []
theorem adds_U (n : Nat) : adds id (n : Int) (incU n) := ⟨by simp [incU], fun s => by simp [incU, add2, Int.add_comm]⟩
def stepW (a b : Int) (acc : Int × Int) (x : Rw2) : Int × Int := if eqZ x.1 a = true ∨ eqZ x.1 b = true then (wrapF .i64 (acc.1 + x.2.1), wrapF .i64 (acc.2 + x.2.2)) else acc
theorem step_fold (a b : Int) : ∀ (U : List Rw2) (c : Int × Int), (U.map fun x => (x.1, wr2 x.2)).foldl (stepW a b) (wr2 c) = wr2 (add2 c (sumq id (fun k => eqZ k a || eqZ k b) U))
  | [], c => by simp [sumq, add2]
  | x :: U, c => by
    obtain ⟨k, s⟩ := x
    rw [List.map_cons, List.foldl_cons]
    by_cases h : (eqZ k a || eqZ k b) = true
    · have e : stepW a b (wr2 c) (k, wr2 s) = wr2 (add2 c s) := by
        unfold stepW
        rw [if_pos (by simpa using h)]
        simp only [wr2, add2, wr_wr2]
      rw [show stepW a b (wr2 c) ((fun x : Rw2 => (x.1, wr2 x.2)) (k, s)) = wr2 (add2 c s) from e, step_fold a b U, sumq, if_pos h, add2_assoc]; rfl
    · have e : stepW a b (wr2 c) (k, wr2 s) = wr2 c := by
        unfold stepW
        rw [if_neg (by simpa using h)]
      rw [show stepW a b (wr2 c) ((fun x : Rw2 => (x.1, wr2 x.2)) (k, s)) = wr2 c from e, step_fold a b U, sumq, if_neg h]
theorem sumq_ref (len : Int) (es : List Mv) (q : Int → Bool) : sumq id q (refU len es) = tot (fun m : Mv => (m.rl.length : Int)) (fun m => q (fromW len m.t)) es := by
  have := sumq_fold (lt := ltI) (pr := (id : Int × Int → Int × Int)) (q := q) (n := fun m : Mv => (m.rl.length : Int)) (key := fun m => fromW len m.t) (f := fun m => incU m.rl.length) (fun e => adds_U _) es []
  unfold refU
  rw [this]
  simp [sumq, add2_zero]
theorem asc_ref (len : Int) (es : List Mv) : Asc ltI (refU len es) :=
  (fold_same ordI (fun m : Mv => fromW len m.t) (fun m => incU m.rl.length) es [] [] List.Pairwise.nil List.nodup_nil (fun _ => rfl)).1
theorem two_win {len : Int} (hl : 0 < len) (es : List Mv) (z : Rw2) (hz : z ∈ refR (2 * len) es) :
    (∃ m ∈ es, z.1 = fromW (2 * len) m.t) ∧ (refR len es).foldl (stepW z.1 (z.1 + len)) (0, 0) = z.2 := by
  rw [← ref_wr] at hz
  obtain ⟨⟨k, s⟩, hu, rfl⟩ := List.mem_map.1 hz
  have hk : ∃ m ∈ es, fromW (2 * len) m.t = k := by
    rcases key_fold (key := fun m : Mv => fromW (2 * len) m.t) (f := fun m => incU m.rl.length) hu with h | h
    · exact h
    · cases h
  obtain ⟨m, hm, rfl⟩ := hk
  refine ⟨⟨m, hm, rfl⟩, ?_⟩
  have h1 := sumq_one (pr := (id : Int × Int → Int × Int)) ordI (asc_ref (2 * len) es) hu
  have hf := step_fold (fromW (2 * len) m.t) (fromW (2 * len) m.t + len) (refU len es) (0, 0)
  rw [ref_wr] at hf
  have h0 : wr2 (0, 0) = (0, 0) := by decide
  rw [h0] at hf
  show (refR len es).foldl (stepW (fromW (2 * len) m.t) (fromW (2 * len) m.t + len)) (0, 0) = wr2 s
  rw [hf, show s = id s from rfl, ← h1, sumq_ref, sumq_ref]
  have e : (fun e : Mv => eqZ (fromW len e.t) (fromW (2 * len) m.t) || eqZ (fromW len e.t) (fromW (2 * len) m.t + len)) = (fun e : Mv => decide (fromW (2 * len) e.t = fromW (2 * len) m.t)) := by
    funext e
    rw [Bool.eq_iff_iff]
    simp only [eqZ_eq, Bool.or_eq_true, decide_eq_true_eq, beq_iff_eq]
    exact (from_win hl).symm
  rw [e]
  have h2 : ∀ x : Int × Int, add2 (0, 0) x = x := fun x => by simp [add2]
  rw [h2]
theorem much_ok : ∀ (ms : List Mv) (L i : Nat) (c : Int), L = i + ms.length → muchGo L ms i c = false → L ≤ 80 ∧ ∀ m ∈ ms, -1152921504606846976 ≤ m.t ∧ m.t ≤ 1152921504606846976
  | [], L, i, c, hL, h => by
    simp only [muchGo, Bool.or_eq_false_iff, ltZ_eq, decide_eq_false_iff_not] at h
    exact ⟨by omega, fun m hm => by cases hm⟩
  | m :: r, L, i, c, hL, h => by
    unfold muchGo at h
    by_cases hi : leZ i 80 = true
    · rw [if_pos hi] at h
      by_cases ht : ltZ m.t (-1152921504606846976) = true ∨ ltZ 1152921504606846976 m.t = true
      · rw [if_pos ht] at h; cases h
      · rw [if_neg ht] at h
        obtain ⟨h1, h2⟩ := much_ok r L (i + 1) _ (by rw [hL, List.length_cons]; omega) h
        refine ⟨h1, fun x hx => ?_⟩
        rcases List.mem_cons.1 hx with rfl | hx
        · simp only [ltZ_eq, decide_eq_true_eq, not_or] at ht
          omega
        · exact h2 x hx
    · rw [if_neg hi] at h
      exfalso
      simp only [leZ_eq, decide_eq_true_eq] at hi
      simp only [Bool.or_eq_false_iff, ltZ_eq, decide_eq_false_iff_not] at h
      rw [List.length_cons] at hL
      omega
end Go.Proofs.Ythoojnjcdllgdaa
