/-
  A map's keys that are pairs, sorted. No statement stands here.
-/
import Derived.Test.YthoojnjcdllgdaaTpd
import Derived.Test.YthoojnjcdllgdaaTpe
import Derived.Test.YthoojnjcdllgdaaTplain
set_option linter.all false
namespace Go.Proofs.Ythoojnjcdllgdaa
open Go Go.RowKit Go.Maps Go.Lib Go.Sort Go.Shelf Go.Proofs TallyP
set_option maxRecDepth 100000
set_option maxHeartbeats 4000000

theorem ltOf_P (x y : Int × Int) : ltOf cfP x y = ltP x y := by
  unfold ltOf cfP orI Lib.compareInt ltP
  rw [Bool.eq_iff_iff]
  simp only [decide_eq_true_eq, Bool.or_eq_true, Bool.and_eq_true]
  split <;> split <;> rename_i h1 h2 <;> (try split at h1) <;> (try split) <;> omega
theorem swoP : SWO (ltOf cfP) where
  irrefl x := by rw [ltOf_P]; simp [ltP]
  trans x y z h1 h2 := by rw [ltOf_P] at *; simp [ltP] at *; omega
  ntrans x y z h1 h2 := by rw [ltOf_P] at *; simp [ltP] at *; omega
theorem totP (x y : Int × Int) (h1 : ltOf cfP x y = false) (h2 : ltOf cfP y x = false) : x = y := by
  rw [ltOf_P] at h1 h2
  exact ordP.tot _ _ h1 h2
def encL (x : Int × Int) : List Value := [.int .i64 x.1, .int .i64 x.2]
theorem encF_at : ∀ (ss : List (Int × Int)) (i j : Nat) (x : Int × Int), ss[i]? = some x → j < 2 → (encF ss)[i * 2 + j]? = (encL x)[j]?
  | [], i, j, x, h, _ => by simp at h
  | a :: l, 0, j, q, h, hj => by
    cases (show a = q by simpa using h)
    rw [encF, List.flatMap_cons, List.getElem?_append_left (by simp; omega), Nat.zero_mul, Nat.zero_add]; rfl
  | a :: l, i + 1, j, q, h, hj => by
    rw [encF, List.flatMap_cons, List.getElem?_append_right (by simp; omega)]
    have := encF_at l i j q (by simpa using h) hj
    rw [encF] at this
    rw [← this]
    congr 1
    simp; omega
theorem flat_F (ss : List (Int × Int)) : (flatK encL 2 ss.toArray).toList = encF ss := by
  apply List.ext_getElem?
  intro t
  by_cases ht : t < ss.length * 2
  · have hi : t / 2 < ss.length := by omega
    have hx : ss[t / 2]? = some ss[t / 2] := List.getElem?_eq_getElem hi
    have h1 := encF_at ss (t / 2) (t % 2) _ hx (Nat.mod_lt _ (by decide))
    rw [show t / 2 * 2 + t % 2 = t by omega] at h1
    rw [h1]
    have h2 := get_flatK encL 2 ss.toArray t (by simpa using ht)
    have hs : t < (flatK encL 2 ss.toArray).size := by simpa using ht
    rw [getElem!_pos _ t hs] at h2
    rw [Array.getElem?_toList, Array.getElem?_eq_getElem hs, h2]
    rw [getElem!_pos _ (t / 2) (by simpa using hi)]
    simp only [List.getElem_toArray]
    generalize ss[t / 2] = x
    have : t % 2 = 0 ∨ t % 2 = 1 := by omega
    rcases this with e | e <;> rw [e] <;> rfl
  · rw [List.getElem?_eq_none (by simp; omega), List.getElem?_eq_none (by rw [encF_len]; omega)]
theorem holds_id {w : World} {g : Nat} {cur : Array Value} {e : TypeId} {ys : Array Value} (hb : w.heap[g]? = some (.cells cur e (0, 0))) (ht : cur.toList.take ys.size = ys.toList) : Holds id w g 0 ys := by
  intro j hj
  refine ⟨?_, by simp [World.frozen?, hb]⟩
  have h1 : (cur.toList.take ys.size)[j]? = ys.toList[j]? := by rw [ht]
  rw [List.getElem?_take_of_lt hj] at h1
  simp only [World.cell?, hb, Nat.zero_add]
  simp only [Option.isSome_none, Bool.false_eq_true, if_false]
  rw [← Array.getElem?_toList, h1]
  simp [hj]
theorem heap_srt {w : World} {g n : Nat} {os : Array Obj} {cur : Array Value} {e : TypeId} {fr : Nat × Nat} (d : Array Value) (hb : w.heap[g]? = some (.cells cur e fr)) :
    (grow (putRow id (Sort.ahead w n) g 0 d) os).heap[g]? = some (.cells (putCells id 0 d cur) e fr) := by
  have hg : g < w.heap.size := (Array.getElem?_eq_some_iff.1 hb).1
  rw [heap_grow_old _ _ (by simpa using hg)]
  simp [putRow, mapBlock, Sort.ahead, Array.getElem?_modify, hb, onCells]
theorem grown_srt {w : World} {g n : Nat} {os : Array Obj} (d : Array Value) : w.grownBy (grow (putRow id (Sort.ahead w n) g 0 d) os) (some g) := by
  refine ⟨rfl, rfl, rfl, by simp, fun k hk hne => ?_⟩
  rw [heap_grow_old _ _ (by simpa using hk)]
  have : g ≠ k := fun e => hne (by rw [e])
  simp [putRow, mapBlock, Sort.ahead, Array.getElem?_modify, this]
theorem take_srt (cur ys : Array Value) (h : ys.size ≤ cur.size) : (putCells id 0 ys cur).toList.take ys.size = ys.toList := by
  apply List.ext_getElem?
  intro j
  by_cases hj : j < ys.size
  · rw [List.getElem?_take_of_lt hj, Array.getElem?_toList]
    simp [putCells, hj, show j < cur.size by omega]
  · rw [List.getElem?_take_eq_none (by omega), List.getElem?_eq_none (by simp; omega)]
def sortP (ss : List (Int × Int)) : List (Int × Int) := ss.mergeSort fun x y => !(ltP y x)
theorem owns_srt {w : World} {base g cap n : Nat} {os : Array Obj} {cur : Array Value} {ss ts : List (Int × Int)} (hl : ts.length = ss.length) (hbase : base ≤ g) (hb : w.heap[g]? = some (.cells cur 103 (0, 0)))
    (h1 : ss.length ≤ cap) (h2 : cap ≤ maxLen) (h3 : cur.size = cap * 2) :
    (sortWorldK encL 2 w g 0 n ts.toArray os).ownsRow base 103 2 (.slice (some ⟨g, 0, none⟩) ss.length cap) ss.length (encF ts) := by
  have hf : (flatK encL 2 ts.toArray).size = ss.length * 2 := by simp [hl]
  refine ⟨by rw [encF_len, hl], .inr ⟨g, cap, _, rfl, hbase, heap_srt _ hb, h1, h2, by simp [putCells, h3], ?_⟩⟩
  rw [← hf, take_srt _ _ (by omega), flat_F]
theorem sortedFP (w : World) (Bm b nn : Nat) (D0 : DataW Unit) (hBm : Bm < w.heap.size) (hm : w.cell? ⟨Bm, 0, none⟩ = some (.map (some b))) (hown : w.ownsMap Try.prog 103 rP b nn D0) (hmax : Maps.size D0 ≤ maxLen) (hbytes : Maps.size D0 * 16 ≤ 140737488355328) :
    Calls Try.prog 36 #[.func (.func 48) #[] #[.pointer (some ⟨Bm, 0, none⟩)], .func (.func 38) #[] #[]] w fun e w' => ∃ (v : Value) (ss : List (Int × Int)), e = .returned v ∧ KeysP D0 ss ∧ w'.ownsRow w.heap.size 103 2 v ss.length (encF (sortP ss)) ∧ Below w.heap.size w w' := by
  refine (callsIn_wide (n := 5)).1 ?_
  have hro : Fence.wide.round = none := rfl
  have h46 : Fence.wide.fn 46 := trivial
  have h47 : Fence.wide.fn 47 := trivial
  have e46 : ∀ args w, (callFunc 46 args).run Try.prog w = .ok (.enter 46 args) w := enters_of Try.func46 (by kernel_rfl) rfl
  have e47 : ∀ args w, (callFunc 47 args).run Try.prog w = .ok (.enter 47 args) w := enters_of Try.func47 (by kernel_rfl) rfl
  have e38 : ∀ args w, (callFunc 38 args).run Try.prog w = .ok (.enter 38 args) w := enters_of Try.func38 (by kernel_rfl) rfl
  have e48 : ∀ args w, (callFunc 48 args).run Try.prog w = .ok (.enter 48 args) w := enters_of Try.func48 (by kernel_rfl) rfl
  have mixed : Try.prog.follows .mixedOrders = true := by kernel_rfl
  have t24 := Try.underlying105; have a24 := Try.isAgg105; have z24 := Try.sizeOf105; have v24 := Try.zeroValue105; have t28 := Try.underlying108; have a28 := Try.isAgg108; have z28 := Try.sizeOf108; have v28 := Try.zeroValue108
  have t0 := Try.underlying0; have a0 := Try.isAgg0; have z0 := Try.sizeOf0; have v0 := Try.zeroValue0
  have t110 := Try.underlying110; have a110 := Try.isAgg110; have z110 := Try.sizeOf110; have v110 := Try.zeroValue110
  have hseq := (keysP_gives (5 - 1 - 1 - 1) (by omega) Bm b nn D0 w hBm hm hown).bounded
  refine callsIn_of_wp Try.func36 rfl trivial ?_ hro
  simp only [Try.ntmps36, List.size_toArray, List.length_cons, List.length_nil, Nat.reduceAdd, Nat.reduceSub, Array.replicate_succ, Array.replicate_zero, List.push_toArray, List.append_toArray, List.nil_append, List.cons_append]
  gi_wp2_with (gi_at_fn 46; refine (collectP_in (5 - 1) (by omega) 48 #[.pointer (some ⟨Bm, 0, none⟩)] e48 _ (Maps.size D0) hmax hbytes _ hseq).mono ?_; rintro e W ⟨v, ss, rfl, ⟨hS, hlen⟩, hrow, hb⟩)
  rcases hrow.2 with ⟨rfl, hz⟩ | ⟨gb, cap, cur, rfl, hbase, hgb, r1, r2, r3, r4⟩
  · have hss : ss = [] := List.eq_nil_of_length_eq_zero hz
    subst hss
    have cS : CallsIn Fence.wide (5 - 1) Try.prog 47 #[.slice none 0 0, .func (.func 38) #[] #[]] W fun e w' => e = .returned (.tuple #[]) ∧ w' = W := callsIn_wide.2 (AnyF.slices_SortFunc_none Try.sortP none 0 _ W)
    gi_wp2_with (gi_at_fn 47; refine cS.mono ?_; rintro e w' ⟨rfl, rfl⟩)
    go_ret
    exact ⟨.slice none 0 0, [], rfl, hS, by simpa [sortP, encF] using hrow, hb⟩
  · have hH : HoldsK encL 2 W gb 0 ss.toArray := holds_id hgb (by rw [flat_F, size_flatK]; simpa using r4)
    have hgl : gb < W.heap.size := (Array.getElem?_eq_some_iff.1 hgb).1
    have hsz : ss.toArray.size < 4611686018427387904 := by simp; omega
    have cS : CallsIn Fence.wide (5 - 1) Try.prog 47 #[.slice (some ⟨gb, 0, none⟩) ss.length cap, .func (.func 38) #[] #[]] W fun e w' => e = .returned (.tuple #[]) ∧ ∃ n os, w' = sortWorldK encL 2 W gb 0 n (sortP ss).toArray os := by
      have := AnyQ.slices_SortFunc_total Try.sortP 2 Try.isAgg103 Try.sizeOf103 encL (fun _ => rfl) (fun x v hv => by simp [encL] at hv; rcases hv with rfl | rfl <;> rfl) cfP swoP 38 #[] gb 0 cap ss.toArray W e38 (fun m os dk hdk x y => order_calls x y _) hH hgl hsz totP
      have e : (ss.toArray.toList.mergeSort fun x y => !(ltOf cfP) y x) = sortP ss := by
        unfold sortP
        simp only [ltOf_P]
      rw [e] at this
      exact callsIn_wide.2 this
    gi_wp2_with (gi_at_fn 47; refine cS.mono ?_; rintro e w' ⟨rfl, nn, os, rfl⟩)
    go_ret
    exact ⟨_, ss, rfl, hS, owns_srt (by simp [sortP]) hbase hgb r1 r2 r3, hb.grown (grown_srt _) hb.size (fun j hj => by cases hj; exact hbase)⟩
end Go.Proofs.Ythoojnjcdllgdaa
