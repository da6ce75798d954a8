/-
  A map's keys that are pairs, sorted. No statement stands here.
-/
import Derived.Test.YthoojnjcdllgdaaGreatDoorTpd
import Derived.Test.YthoojnjcdllgdaaGreatDoorTplain
set_option linter.all false
namespace Go.Proofs.YthoojnjcdllgdaaGreatDoor
open Go Go.RowKit Go.Maps Go.Lib Go.Sort Go.Shelf Go.Proofs TallyP
set_option maxRecDepth 100000
set_option maxHeartbeats 4000000

theorem ltOf_P (x y : Int × Int) : ltOf cfP x y = ltP x y := by
  unfold ltOf cfP orI Lib.compareInt ltP
  rw [Bool.eq_iff_iff]
  simp only [decide_eq_true_eq, Bool.or_eq_true, Bool.and_eq_true]
  split <;> split <;> rename_i h1 h2 <;> (try split at h1) <;> (try split) <;> omega
theorem swoP : SWO (ltOf cfP) where
  irrefl x := by rw [ltOf_P]; simp [ltP]
  trans x y z h1 h2 := by rw [ltOf_P] at *; simp [ltP] at *; omega
  ntrans x y z h1 h2 := by rw [ltOf_P] at *; simp [ltP] at *; omega
theorem totP (x y : Int × Int) (h1 : ltOf cfP x y = false) (h2 : ltOf cfP y x = false) : x = y := by
  rw [ltOf_P] at h1 h2
  exact ordP.tot _ _ h1 h2
def encL (x : Int × Int) : List Value := [.int .i64 x.1, .int .i64 x.2]
theorem encF_at : ∀ (ss : List (Int × Int)) (i j : Nat) (x : Int × Int), ss[i]? = some x → j < 2 → (encF ss)[i * 2 + j]? = (encL x)[j]?
  | [], i, j, x, h, _ => by simp at h
  | a :: l, 0, j, q, h, hj => by
    cases (show a = q by simpa using h)
    rw [encF, List.flatMap_cons, List.getElem?_append_left (by simp; omega), Nat.zero_mul, Nat.zero_add]; rfl
  | a :: l, i + 1, j, q, h, hj => by
    rw [encF, List.flatMap_cons, List.getElem?_append_right (by simp; omega)]
    have := encF_at l i j q (by simpa using h) hj
    rw [encF] at this
    rw [← this]
    congr 1
    simp; omega
theorem flat_F (ss : List (Int × Int)) : (flatK encL 2 ss.toArray).toList = encF ss := by
  apply List.ext_getElem?
  intro t
  by_cases ht : t < ss.length * 2
  · have hi : t / 2 < ss.length := by omega
    have hx : ss[t / 2]? = some ss[t / 2] := List.getElem?_eq_getElem hi
    have h1 := encF_at ss (t / 2) (t % 2) _ hx (Nat.mod_lt _ (by decide))
    rw [show t / 2 * 2 + t % 2 = t by omega] at h1
    rw [h1]
    have h2 := get_flatK encL 2 ss.toArray t (by simpa using ht)
    have hs : t < (flatK encL 2 ss.toArray).size := by simpa using ht
    rw [getElem!_pos _ t hs] at h2
    rw [Array.getElem?_toList, Array.getElem?_eq_getElem hs, h2]
    rw [getElem!_pos _ (t / 2) (by simpa using hi)]
    simp only [List.getElem_toArray]
    generalize ss[t / 2] = x
    have : t % 2 = 0 ∨ t % 2 = 1 := by omega
    rcases this with e | e <;> rw [e] <;> rfl
  · rw [List.getElem?_eq_none (by simp; omega), List.getElem?_eq_none (by rw [encF_len]; omega)]
theorem holds_id {w : World} {g : Nat} {cur : Array Value} {e : TypeId} {ys : Array Value} (hb : w.heap[g]? = some (.cells cur e (0, 0))) (ht : cur.toList.take ys.size = ys.toList) : Holds id w g 0 ys := by
  intro j hj
  refine ⟨?_, by simp [World.frozen?, hb]⟩
  have h1 : (cur.toList.take ys.size)[j]? = ys.toList[j]? := by rw [ht]
  rw [List.getElem?_take_of_lt hj] at h1
  simp only [World.cell?, hb, Nat.zero_add]
  simp only [Option.isSome_none, Bool.false_eq_true, if_false]
  rw [← Array.getElem?_toList, h1]
  simp [hj]
theorem heap_srt {w : World} {g n : Nat} {os : Array Obj} {cur : Array Value} {e : TypeId} {fr : Nat × Nat} (d : Array Value) (hb : w.heap[g]? = some (.cells cur e fr)) :
    (grow (putRow id (Sort.ahead w n) g 0 d) os).heap[g]? = some (.cells (putCells id 0 d cur) e fr) := by
  have hg : g < w.heap.size := (Array.getElem?_eq_some_iff.1 hb).1
  rw [heap_grow_old _ _ (by simpa using hg)]
  simp [putRow, mapBlock, Sort.ahead, Array.getElem?_modify, hb, onCells]
theorem grown_srt {w : World} {g n : Nat} {os : Array Obj} (d : Array Value) : w.grownBy (grow (putRow id (Sort.ahead w n) g 0 d) os) (some g) := by
  refine ⟨rfl, rfl, rfl, by simp, fun k hk hne => ?_⟩
  rw [heap_grow_old _ _ (by simpa using hk)]
  have : g ≠ k := fun e => hne (by rw [e])
  simp [putRow, mapBlock, Sort.ahead, Array.getElem?_modify, this]
theorem take_srt (cur ys : Array Value) (h : ys.size ≤ cur.size) : (putCells id 0 ys cur).toList.take ys.size = ys.toList := by
  apply List.ext_getElem?
  intro j
  by_cases hj : j < ys.size
  · rw [List.getElem?_take_of_lt hj, Array.getElem?_toList]
    simp [putCells, hj, show j < cur.size by omega]
  · rw [List.getElem?_take_eq_none (by omega), List.getElem?_eq_none (by simp; omega)]
def sortP (ss : List (Int × Int)) : List (Int × Int) := ss.mergeSort fun x y => !(ltP y x)
theorem owns_srt {w : World} {base g cap n : Nat} {os : Array Obj} {cur : Array Value} {ss ts : List (Int × Int)} (hl : ts.length = ss.length) (hbase : base ≤ g) (hb : w.heap[g]? = some (.cells cur 109 (0, 0)))
    (h1 : ss.length ≤ cap) (h2 : cap ≤ maxLen) (h3 : cur.size = cap * 2) :
    (sortWorldK encL 2 w g 0 n ts.toArray os).ownsRow base 109 2 (.slice (some ⟨g, 0, none⟩) ss.length cap) ss.length (encF ts) := by
  have hf : (flatK encL 2 ts.toArray).size = ss.length * 2 := by simp [hl]
  refine ⟨by rw [encF_len, hl], .inr ⟨g, cap, _, rfl, hbase, heap_srt _ hb, h1, h2, by simp [putCells, h3], ?_⟩⟩
  rw [← hf, take_srt _ _ (by omega), flat_F]
theorem sortedFP (w : World) (Bm b nn : Nat) (D0 : DataW Unit) (hBm : Bm < w.heap.size) (hm : w.cell? ⟨Bm, 0, none⟩ = some (.map (some b))) (hown : w.ownsMap Tryz.prog 109 rP b nn D0) (hmax : Maps.size D0 ≤ maxLen) (hbytes : Maps.size D0 * 16 ≤ 140737488355328) :
    Calls Tryz.prog 37 #[.func (.func 56) #[] #[.pointer (some ⟨Bm, 0, none⟩)], .func (.func 39) #[] #[]] w fun e w' => ∃ (v : Value) (ss : List (Int × Int)), e = .returned v ∧ KeysP D0 ss ∧ w'.ownsRow w.heap.size 109 2 v ss.length (encF (sortP ss)) ∧ Below w.heap.size w w' := by
  refine (callsIn_wide (n := 5)).1 ?_
  have hro : Fence.wide.round = none := rfl
  have h46 : Fence.wide.fn 54 := trivial
  have h47 : Fence.wide.fn 55 := trivial
  have e46 : ∀ args w, (callFunc 54 args).run Tryz.prog w = .ok (.enter 54 args) w := enters_of Tryz.func54 (by kernel_rfl) rfl
  have e47 : ∀ args w, (callFunc 55 args).run Tryz.prog w = .ok (.enter 55 args) w := enters_of Tryz.func55 (by kernel_rfl) rfl
  have e38 : ∀ args w, (callFunc 39 args).run Tryz.prog w = .ok (.enter 39 args) w := enters_of Tryz.func39 (by kernel_rfl) rfl
  have e48 : ∀ args w, (callFunc 56 args).run Tryz.prog w = .ok (.enter 56 args) w := enters_of Tryz.func56 (by kernel_rfl) rfl
  have mixed : Tryz.prog.follows .mixedOrders = true := by kernel_rfl
  have t24 := Tryz.underlying111; have a24 := Tryz.isAgg111; have z24 := Tryz.sizeOf111; have v24 := Tryz.zeroValue111; have t28 := Tryz.underlying114; have a28 := Tryz.isAgg114; have z28 := Tryz.sizeOf114; have v28 := Tryz.zeroValue114
  have t0 := Tryz.underlying0; have a0 := Tryz.isAgg0; have z0 := Tryz.sizeOf0; have v0 := Tryz.zeroValue0
  have t110 := Tryz.underlying116; have a110 := Tryz.isAgg116; have z110 := Tryz.sizeOf116; have v110 := Tryz.zeroValue116
  have hseq := (keysP_gives (5 - 1 - 1 - 1) (by omega) Bm b nn D0 w hBm hm hown).bounded
  refine callsIn_of_wp Tryz.func37 rfl trivial ?_ hro
  simp only [Tryz.ntmps37, List.size_toArray, List.length_cons, List.length_nil, Nat.reduceAdd, Nat.reduceSub, Array.replicate_succ, Array.replicate_zero, List.push_toArray, List.append_toArray, List.nil_append, List.cons_append]
  gi_wp2_with (gi_at_fn 54; refine (collectP_in (5 - 1) (by omega) 56 #[.pointer (some ⟨Bm, 0, none⟩)] e48 _ (Maps.size D0) hmax hbytes _ hseq).mono ?_; rintro e W ⟨v, ss, rfl, ⟨hS, hlen⟩, hrow, hb⟩)
  rcases hrow.2 with ⟨rfl, hz⟩ | ⟨gb, cap, cur, rfl, hbase, hgb, r1, r2, r3, r4⟩
  · have hss : ss = [] := List.eq_nil_of_length_eq_zero hz
    subst hss
    have cS : CallsIn Fence.wide (5 - 1) Tryz.prog 55 #[.slice none 0 0, .func (.func 39) #[] #[]] W fun e w' => e = .returned (.tuple #[]) ∧ w' = W := callsIn_wide.2 (AnyF.slices_SortFunc_none Tryz.sortP none 0 _ W)
    gi_wp2_with (gi_at_fn 55; refine cS.mono ?_; rintro e w' ⟨rfl, rfl⟩)
    go_ret
    exact ⟨.slice none 0 0, [], rfl, hS, by simpa [sortP, encF] using hrow, hb⟩
  · have hH : HoldsK encL 2 W gb 0 ss.toArray := holds_id hgb (by rw [flat_F, size_flatK]; simpa using r4)
    have hgl : gb < W.heap.size := (Array.getElem?_eq_some_iff.1 hgb).1
    have hsz : ss.toArray.size < 4611686018427387904 := by simp; omega
    have cS : CallsIn Fence.wide (5 - 1) Tryz.prog 55 #[.slice (some ⟨gb, 0, none⟩) ss.length cap, .func (.func 39) #[] #[]] W fun e w' => e = .returned (.tuple #[]) ∧ ∃ n os, w' = sortWorldK encL 2 W gb 0 n (sortP ss).toArray os := by
      have := AnyQ.slices_SortFunc_total Tryz.sortP 2 Tryz.isAgg109 Tryz.sizeOf109 encL (fun _ => rfl) (fun x v hv => by simp [encL] at hv; rcases hv with rfl | rfl <;> rfl) cfP swoP 39 #[] gb 0 cap ss.toArray W e38 (fun m os dk hdk x y => order_calls x y _) hH hgl hsz totP
      have e : (ss.toArray.toList.mergeSort fun x y => !(ltOf cfP) y x) = sortP ss := by
        unfold sortP
        simp only [ltOf_P]
      rw [e] at this
      exact callsIn_wide.2 this
    gi_wp2_with (gi_at_fn 55; refine cS.mono ?_; rintro e w' ⟨rfl, nn, os, rfl⟩)
    go_ret
    exact ⟨_, ss, rfl, hS, owns_srt (by simp [sortP]) hbase hgb r1 r2 r3, hb.grown (grown_srt _) hb.size (fun j hj => by cases hj; exact hbase)⟩
end Go.Proofs.YthoojnjcdllgdaaGreatDoor
