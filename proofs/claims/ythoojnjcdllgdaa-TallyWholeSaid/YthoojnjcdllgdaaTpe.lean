/-
  How two pairs stand. No statement stands here.
-/
import Derived.Test.YthoojnjcdllgdaaShelfP
import Derived.Deep.RegionHeld3
import Derived.RangeFuncRecord
set_option linter.all false
namespace Go.Proofs.Ythoojnjcdllgdaa
open Go Go.RowKit Go.Lib Go.Sort Go.Shelf Go.Proofs
set_option maxRecDepth 100000
set_option maxHeartbeats 4000000

def orI (p q : Int) : Int := if p = 0 then q else p
theorem or_calls (b : Nat) (p q : Int) (w : World) (h0 : w.cell? ⟨b, 0, none⟩ = some (.int .i64 p)) (h1 : w.cell? ⟨b, 1, none⟩ = some (.int .i64 q)) :
    Calls Try.prog 49 #[.slice (some ⟨b, 0, none⟩) 2 2] w fun e w' => e = .returned (.int .i64 (orI p q)) ∧ w' = w := by
  have t3 := Try.underlying3; have a3 := Try.isAgg3; have z3 := Try.sizeOf3; have v3 := Try.zeroValue3
  have t95 := Try.underlying95; have a95 := Try.isAgg95; have z95 := Try.sizeOf95; have v95 := Try.zeroValue95
  go_enter Try.func49, Try.ntmps49
  go_wp2
  refine wp_loop_rounds 3 ?_
  rw [rounds_succ]
  by_cases hp : p = 0
  · subst hp
    go_wp2
    rw [rounds_succ]
    by_cases hq : q = 0
    · subst hq
      go_wp2
      rw [rounds_succ]
      go_wp2
      go_ret
      exact ⟨rfl, rfl⟩
    · go_wp2
      go_ret
      exact ⟨by rw [orI, if_pos rfl]; rfl, rfl⟩
  · go_wp2
    go_ret
    exact ⟨by rw [orI, if_neg hp]; rfl, rfl⟩
theorem two_new (W : World) (n : Nat) (hn : W.heap.size = n) (p q : Value) (t : TypeId) : (W.alloc (.cells #[p, q] t)).drew.cell? ⟨n, 0, none⟩ = some p ∧ (W.alloc (.cells #[p, q] t)).drew.cell? ⟨n, 1, none⟩ = some q := by
  subst hn
  have h : (W.alloc (.cells #[p, q] t)).drew.heap[W.heap.size]? = some (.cells #[p, q] t (0, 0)) := World.alloc_heap_new W _
  exact ⟨by unfold World.cell?; rw [h]; rfl, by unfold World.cell?; rw [h]; rfl⟩
def cfP (x y : Int × Int) : Int := orI (Lib.compareInt x.1 y.1) (Lib.compareInt x.2 y.2)
theorem order_calls (x y : Int × Int) (W : World) : Calls Try.prog 38 #[.agg #[.int .i64 x.1, .int .i64 x.2], .agg #[.int .i64 y.1, .int .i64 y.2]] W fun e w' => e = .returned (.int .i64 (cfP x y)) ∧ ∃ q os', w' = grow (W.drewN q) os' := by
  have hcon := fun a b W' => AnyG.cmp_Compare_int Try.cmpP a b W'
  change ∀ a b W', Calls Try.prog 50 _ _ _ at hcon
  unfold cfP
  generalize Lib.compareInt = cI at hcon ⊢
  obtain ⟨x1, x2⟩ := x
  obtain ⟨y1, y2⟩ := y
  have mixed : Try.prog.follows .mixedOrders = true := by kernel_rfl
  have t3 := Try.underlying3; have a3 := Try.isAgg3; have z3 := Try.sizeOf3; have v3 := Try.zeroValue3
  have t95 := Try.underlying95; have a95 := Try.isAgg95; have z95 := Try.sizeOf95; have v95 := Try.zeroValue95
  have t103 := Try.underlying103; have a103 := Try.isAgg103; have z103 := Try.sizeOf103; have v103 := Try.zeroValue103
  go_enter Try.func38, Try.ntmps38
  go_wp2
  go_region_held3 (fun w' => w'.cell? ⟨W.heap.size, 0, none⟩ = some (.int .i64 x1) ∧ w'.cell? ⟨W.heap.size, 1, none⟩ = some (.int .i64 x2) ∧ w'.cell? ⟨W.heap.size + 1, 0, none⟩ = some (.int .i64 y1) ∧ w'.cell? ⟨W.heap.size + 1, 1, none⟩ = some (.int .i64 y2)) (go_keep)
    (first | (go_at_call 50; refine (hcon _ _ _).mono ?_; rintro e w' ⟨rfl, rfl⟩) | (go_at_call 49; refine (or_calls _ (cI x1 y1) (cI x2 y2) _ (two_new _ _ (by simp) _ _ _).1 (two_new _ _ (by simp) _ _ _).2).mono ?_; rintro e w' ⟨rfl, rfl⟩))
  go_wp2
  go_ret
  exact ⟨rfl, 1, _, by rw [alloc_eq_grow, alloc_eq_grow, alloc_eq_grow, grow_grow, grow_grow]; rfl⟩
end Go.Proofs.Ythoojnjcdllgdaa
