/-
  A map's keys that are pairs, collected. No statement stands here.
-/
import Derived.Test.YthoojnjcdllgdaaTpa
set_option linter.all false
namespace Go.Proofs.Ythoojnjcdllgdaa
open Go Go.RowKit Go.Maps Go.Sort Go.Shelf Go.Proofs
set_option maxRecDepth 100000
set_option maxHeartbeats 4000000

def rP (_ : Value) : Option (DataW Unit × List MemPlace) := some (.lit (.bool true), [])

theorem keys1P_in (n : Nat) (hn : 1 ≤ n) (l Bm b nn : Nat) (D0 : DataW Unit) (J : List (Int × Int) → World → Prop)
    (hY : ∀ pre x W, J pre W → pre.length < Maps.size D0 → YieldAt Fence.wide (n - 1) Try.prog l #[encP x] W fun e W' => e = .returned (.bool true) ∧ J (pre ++ [x]) W' ∧ KeepsWalks W W')
    (W : World) (hJ : AbidesFrom W.heap.size J) (hm : W.cell? ⟨Bm, 0, none⟩ = some (.map (some b))) (hown : W.ownsMap Try.prog 103 rP b nn D0) (h0 : J [] W) :
    CallsIn Fence.wide n Try.prog 48 #[.func (.yield l) #[] #[], .pointer (some ⟨Bm, 0, none⟩)] W fun e W' => (∃ v, e = .returned v) ∧ ∃ ss : List (Int × Int), (∃ left, CollP D0 left ss ∧ ∀ kl, left kl = false) ∧ J ss W' := by
  have h10 : Fence.wide.fn 48 := trivial
  have hro : Fence.wide.round = none := rfl
  have mixed : Try.prog.follows .mixedOrders = true := by kernel_rfl
  have t0 := Try.underlying0; have a0 := Try.isAgg0; have z0 := Try.sizeOf0; have v0 := Try.zeroValue0; have t4 := Try.underlying4; have a4 := Try.isAgg4; have z4 := Try.sizeOf4; have v4 := Try.zeroValue4
  have t23 := Try.underlying100; have a23 := Try.isAgg100; have z23 := Try.sizeOf100; have v23 := Try.zeroValue100; have a26 := Try.isAgg103; have z26 := Try.sizeOf103; have v26 := Try.zeroValue103; have t33 := Try.underlying118; have a33 := Try.isAgg118; have z33 := Try.sizeOf118; have v33 := Try.zeroValue118
  have u0 := run_underlying Try.underlying0; have u4 := run_underlying Try.underlying4; have u23 := run_underlying Try.underlying100; have u33 := run_underlying Try.underlying118
  refine callsIn_of_wp Try.func48 rfl h10 ?_ hro
  simp only [Try.ntmps48, List.size_toArray, List.length_cons, List.length_nil, Nat.reduceAdd, Nat.reduceSub, Array.replicate_succ, Array.replicate_zero, List.push_toArray, List.append_toArray, List.nil_append, List.cons_append]
  gi_wp2_with (first
    | (gi_at_range; refine wpListIn_range_own _ rfl _ 100 rfl 103 87 keyedP Try.underlying100 _ b nn _ rfl hown ?_; intro w0 hrg0 hg0 hs0)
    | gi_in)
  go_frame
  gi_loopw [3] (fun _ wr => ∃ (left : Lit → Bool) (cnt : Nat) (ss : List (Int × Int)), wr.ranges Try.prog 103 rP b W.heap.size nn D0 left cnt ∧ ss.length + cnt ≤ Maps.size D0 ∧ CollP D0 left ss ∧ J ss wr)
    (fun _ wr => wr.rangeLeft b W.heap.size)
  case atStart =>
    exact ⟨_, _, [], hrg0, by simp, CollP.start D0, hJ [] W w0 none h0 hg0 (fun r e => by cases e)⟩
  case round =>
    obtain ⟨left, cnt, ss, hrg, hcs, hC, hJs⟩ := hrel
    gi_wp2_with (first
      | (gi_at_next; refine wpListIn_next_ranges _ rfl _ rfl 103 keyedP rP encP id (fun key kl hk => by obtain ⟨x, hx, _⟩ := inv_P hk; exact ⟨x, hx⟩) (fun v _ _ => ⟨v, rfl⟩) b W.heap.size nn _ _ _ rfl hrg ?_ ?_)
      | gi_in)
    · -- NOTHING IS LEFT
      intro hc0 hl0
      gi_wp2
      go_end0
      exact ⟨⟨_, rfl⟩, ss, ⟨left, hC, hl0⟩, hJs⟩
    · -- AN ENTRY HAS COME: yield(k)
      intro x1 x2 c kl yd yp w2 cnt2 hkey hlk hv hat hrg2 hlt hg2 hs2 hen
      have hJ2 : J ss w2 := hJ ss wr w2 (some W.heap.size) hJs hg2 (fun r e => by cases e; exact ⟨Nat.le_refl _, hrg.iter_walk⟩)
      clear hs2
      have hga : w2.grownBy (w2.alloc (.cells #[.int .i64 x1, .int .i64 x2] 103)) none := World.grownBy_alloc _ _ _
      have hJ3 := hJ ss w2 _ none hJ2 hga (fun r e => by cases e)
      have hka : KeepsWalks w2 (w2.alloc (.cells #[.int .i64 x1, .int .i64 x2] 103)) := KeepsWalks.alloc _ _
      have hrga := hrg2.of_walks hka
      obtain ⟨fn, tmps, assign, body, hy, hR⟩ := hY ss (x1, x2) _ hJ3 (by omega)
      replace hy : (Instr.yield l #[.agg #[.int .i64 x1, .int .i64 x2]]).run Try.prog (w2.alloc (.cells #[.int .i64 x1, .int .i64 x2] 103)) = .ok (.round l fn tmps assign body) (w2.alloc (.cells #[.int .i64 x1, .int .i64 x2] 103)) := hy
      clear hJ2 hga hJ3 hka
      gi_wp2
      refine hR.mono ?_
      rintro e W3 ⟨rfl, hJ4, hk3⟩
      gi_wp2
      have hrg3 := hrga.of_walks hk3
      go_roundw
      case rel => exact ⟨_, cnt2, ss ++ [(x1, x2)], hrg3, by simp; omega, hC.step hkey hlk hat, hJ4⟩
      case measure => rw [hrg3.left_eq, hrg.left_eq]; exact hlt
end Go.Proofs.Ythoojnjcdllgdaa
