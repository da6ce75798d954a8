import Derived.Test.YthoojnjcdllgdaaGreatDoorShelf
import Derived.Test.YthoojnjcdllgdaaGreatDoorCode
import Derived.Test.YthoojnjcdllgdaaGreatDoorTsort
import Derived.Shelf.SortM.Plain
import Derived.Shelf.SortM.SortNone
import Derived.Shelf.AbstractIn
import Derived.Test.YthoojnjcdllgdaaGreatDoorTplain
import Derived.Test.YthoojnjcdllgdaaGreatDoorTga
/-
  Contracts: a map's keys, sorted. No statement stands here.
-/
set_option linter.all false
namespace Go.Proofs.YthoojnjcdllgdaaGreatDoor
open Go Rf TallyP Go.RowKit Go.Maps Go.Sort Go.Shelf Go.Proofs
set_option maxRecDepth 100000
set_option maxHeartbeats 4000000

theorem sortsA (m : Nat) : AnyZI.SortsIn Tryz.prog Tryz.sortedA_ren Fence.wide m :=
  ⟨fun blk off cap ss W hH hblk hsz => callsIn_wide.2 (AnyM.slices_Sort_int Tryz.sortA blk off cap ss W hH hblk hsz),
   fun p cap W => callsIn_wide.2 (AnyM.slices_Sort_int_none Tryz.sortA p cap W)⟩
theorem hcA (w : World) (Bm b nn : Nat) (D0 : DataW Unit) (hBm : Bm < w.heap.size) (hm : w.cell? ⟨Bm, 0, none⟩ = some (.map (some b))) (hown : w.ownsMap Tryz.prog 2 rT b nn D0) (hmax : Maps.size D0 ≤ maxLen) (hbytes : Maps.size D0 * 8 ≤ 140737488355328) :
    Calls Tryz.prog 28 #[.func (.func 49) #[] #[.pointer (some ⟨Bm, 0, none⟩)]] w fun e w' => ∃ (v : Value) (ss : List Int), e = .returned v ∧ ss.Perm (intKeys D0) ∧ w'.ownsRow w.heap.size 2 1 v ss.length ((ss.mergeSort fun x y => decide (x ≤ y)).map encZ) ∧ Below w.heap.size w w' := by
  refine (callsIn_wide (n := 5)).1 ?_
  have hseq : SeqGives Fence.wide 2 Tryz.prog 49 #[.pointer (some ⟨Bm, 0, none⟩)] encZ (fun ss => ss.Perm (intKeys D0)) (Maps.size D0) w :=
    AnyZI.keys_gives (ρ := Tryz.keysA_ren) { Tryz.keysA with } Fence.wide _ trivial rfl (by omega) Bm b nn D0 w hBm hm hown
  have cS := AnyZI.sorted_in Tryz.sortedA Fence.wide 5 trivial trivial trivial trivial rfl (by omega) (sortsA _) (enters_of Tryz.func48 (by kernel_rfl) rfl) 49 #[.pointer (some ⟨Bm, 0, none⟩)] trivial (enters_of Tryz.func49 (by kernel_rfl) rfl) _ _ hmax hbytes _ hseq
  change CallsIn _ _ Tryz.prog 28 _ _ _ at cS
  exact cS.mono fun e w' ⟨v, ss, h1, h2, h3, _, h5⟩ => ⟨v, ss, h1, h2, h3, h5⟩
theorem sorted25_den {sE : (Int × Int × Int × Int) → V} {s : St} {B M clk zf ty : Nat} {l : List (Int × (Int × Int × Int × Int))} (hB : s.get B = some (.c [.m M] zf (some ty))) (hM : s.get M = some (.x (.mp (mEs (fun k => .i .i64 k) sE l 0) clk))) (hc : clk = l.length)
    (hk : ∀ k ∈ keysL l, (Lit.int .i64 k).wf = true) (hd : (keysL l).Nodup) (hn : l.length ≤ 1000000) :
    Den gt0 Tryz.prog 28 [.fn 49 [.p B 0]] s (.pu 1 (((keysL l).mergeSort fun x y => decide (x ≤ y)).map fun k => .i .i64 k) .u) s :=
  sortedI_den (T := 2) (T' := 2) (by kernel_rfl) hcA hB hM hc hk hd hn
theorem keys26_den {s : St} {M : Nat} : Den gt0 Tryz.prog 29 [.m M] s (.fn 49 [.p s.n 0]) (s.new (.c [.m M] 0 (some 88))) := by
  refine Den.hm gnm0 hF29 ?_
  conv => whnf
  refine sgh ?_
  refine HO.k ?_
  conv => whnf
  refine sgh ?_
  exact ⟨.refl _, fun hg => ⟨WkS.refl hg, .inl rfl⟩⟩
end Go.Proofs.YthoojnjcdllgdaaGreatDoor
/-
  Sums of events, plainly. No statement stands here.
-/
set_option linter.all false
namespace TallyP
section
variable {K S E : Type} [DecidableEq K] {lt : K → K → Bool}
def add2 (a b : Int × Int) : Int × Int := (a.1 + b.1, a.2 + b.2)
def tot (n : E → Int) (p : E → Bool) : List E → Int × Int
  | [] => (0, 0)
  | e :: r => if p e = true then add2 (1, n e) (tot n p r) else tot n p r
def adds (pr : S → Int × Int) (n : Int) (f : Option S → S) : Prop := pr (f none) = (1, n) ∧ ∀ s, pr (f (some s)) = add2 (1, n) (pr s)
def sumq (pr : S → Int × Int) (q : K → Bool) : List (K × S) → Int × Int
  | [] => (0, 0)
  | (k, s) :: r => if q k = true then add2 (pr s) (sumq pr q r) else sumq pr q r
theorem add2_comm (a b : Int × Int) : add2 a b = add2 b a := by simp [add2, Int.add_comm]
theorem add2_assoc (a b c : Int × Int) : add2 (add2 a b) c = add2 a (add2 b c) := by simp [add2, Int.add_assoc]
theorem add2_zero (a : Int × Int) : add2 a (0, 0) = a := by simp [add2]
theorem sumq_insR {pr : S → Int × Int} {q : K → Bool} {f : Option S → S} {n : Int} (hf : adds pr n f) (k : K) : ∀ l : List (K × S), sumq pr q (insR lt f k l) = if q k = true then add2 (1, n) (sumq pr q l) else sumq pr q l
  | [] => by
    by_cases h : q k = true
    · simp [insR, sumq, h, hf.1, add2_zero]
    · simp [insR, sumq, h]
  | (a, s) :: r => by
    have ih := sumq_insR (q := q) hf k r
    unfold insR
    split
    · simp only [sumq, ih]
      by_cases h : q k = true <;> by_cases h2 : q a = true <;> simp only [h, h2, if_true, if_false, Bool.false_eq_true]
      rw [← add2_assoc, ← add2_assoc, add2_comm (pr s)]
    · split
      · rename_i e
        subst e
        by_cases h : q a = true
        · simp [sumq, h, hf.2, add2_assoc]
        · simp [sumq, h]
      · by_cases h : q k = true
        · simp [sumq, h, hf.1]
        · simp [sumq, h]
theorem sumq_fold {pr : S → Int × Int} {q : K → Bool} {n : E → Int} {key : E → K} {f : E → Option S → S} (hf : ∀ e, adds pr (n e) (f e)) : ∀ (evs : List E) (l : List (K × S)), sumq pr q (evs.foldl (fun L e => insR lt (f e) (key e) L) l) = add2 (tot n (fun e => q (key e)) evs) (sumq pr q l)
  | [], l => by simp [tot, add2]
  | e :: evs, l => by
    rw [List.foldl_cons, sumq_fold hf evs, sumq_insR (hf e)]
    by_cases h : q (key e) = true
    · simp only [h, if_true, tot]; rw [← add2_assoc, add2_comm (tot n _ evs)]
    · simp only [h, if_false, tot, Bool.false_eq_true]
theorem insR_map {T : Type} {g : S → T} {f : Option S → S} {f' : Option T → T} (h : ∀ o, g (f o) = f' (o.map g)) (k : K) : ∀ l : List (K × S), (insR lt f k l).map (fun x => (x.1, g x.2)) = insR lt f' k (l.map fun x => (x.1, g x.2))
  | [] => by simp [insR, h]
  | (a, s) :: r => by
    have ih := insR_map h k r
    by_cases h1 : lt a k = true
    · simp only [insR, h1, if_true, List.map_cons, ih]
    · by_cases h2 : a = k
      · subst h2
        simp only [insR, h1, if_true, if_false, List.map_cons, Bool.false_eq_true, h, Option.map_some]
      · simp only [insR, h1, h2, if_false, List.map_cons, Bool.false_eq_true, h, Option.map_none]
theorem fold_map {T : Type} {g : S → T} {key : E → K} {f : E → Option S → S} {f' : E → Option T → T} (h : ∀ e o, g (f e o) = f' e (o.map g)) : ∀ (evs : List E) (l : List (K × S)), (evs.foldl (fun L e => insR lt (f e) (key e) L) l).map (fun x => (x.1, g x.2)) = evs.foldl (fun L e => insR lt (f' e) (key e) L) (l.map fun x => (x.1, g x.2))
  | [], _ => rfl
  | e :: evs, l => by rw [List.foldl_cons, List.foldl_cons, fold_map h evs, insR_map (h e)]
end
def fromW (len t : Int) : Int := t - t % len
end TallyP
/-
  Contracts: windows. No statement stands here.
-/
set_option linter.all false
namespace Go.Proofs.YthoojnjcdllgdaaGreatDoor
open Go Rf TallyP
set_option maxRecDepth 100000
set_option maxHeartbeats 4000000

theorem wI (n : Int) : wrapF .i64 n = (n + 9223372036854775808) % 18446744073709551616 - 9223372036854775808 := by
  rw [wrapF_eq]
  simp only [IntKind.wrap, IntKind.bits, IntKind.signed, Bool.true_and, decide_eq_true_eq, ge_iff_le]
  split <;> omega
theorem wIn {n : Int} (h1 : -9223372036854775808 ≤ n) (h2 : n ≤ 9223372036854775807) : wrapF .i64 n = n := by rw [wI]; omega
theorem bv_quo {a b : Int} (hb : 0 < b) (h1 : -1152921504606846976 ≤ a) (h2 : a ≤ 1152921504606846976) : binV .quo (.i .i64 a) (.i .i64 b) = some (.i .i64 (a.tdiv b)) := by
  have := Int.natAbs_tdiv_le_natAbs a b
  have e : wrapF .i64 (a.tdiv b) = a.tdiv b := wIn (by omega) (by omega)
  show (if b = 0 then none else some (wrapK .i64 (a.tdiv b))) = _
  rw [if_neg (by omega), wrapK, e]
theorem bv_rem {a b : Int} (hb : 0 < b) : binV .rem (.i .i64 a) (.i .i64 b) = some (.i .i64 (a.tmod b)) := by
  show (if b = 0 then none else some (V.i .i64 (a.tmod b))) = _
  rw [if_neg (by omega)]
theorem from_pos {t len : Int} (hl : 0 < len) (h : ¬ t.tmod len < 0) : t.tdiv len * len = fromW len t := by
  have h1 := Int.tdiv_mul_add_tmod t len
  have h2 := Int.tmod_lt_of_pos t hl
  have e : t % len = t.tmod len := by
    rw [show t % len = (t.tmod len + len * t.tdiv len) % len by rw [Int.mul_comm, Int.add_comm, h1], Int.add_mul_emod_self_left, Int.emod_eq_of_lt (by omega) h2]
  unfold fromW
  omega
theorem from_neg {t len : Int} (hl : 0 < len) (h : t.tmod len < 0) : (t.tdiv len - 1) * len = fromW len t := by
  have h1 := Int.tdiv_mul_add_tmod t len
  have h2 := Int.lt_tmod_of_pos t hl
  have e : t % len = t.tmod len + len := by
    rw [show t % len = (t.tmod len + len + len * (t.tdiv len - 1)) % len by rw [Int.mul_sub, Int.mul_comm]; congr 1; omega, Int.add_mul_emod_self_left, Int.emod_eq_of_lt (by omega) (by omega)]
  unfold fromW
  rw [Int.sub_mul]
  omega
theorem from_bnd {t len : Int} (hl : 0 < len) (hl2 : len ≤ 4503599627370496) (h1 : -1152921504606846976 ≤ t) (h2 : t ≤ 1152921504606846976) : -1200000000000000000 ≤ fromW len t ∧ fromW len t ≤ 1152921504606846976 := by
  unfold fromW
  have := Int.emod_nonneg t (show len ≠ 0 by omega)
  have := Int.emod_lt_of_pos t hl
  omega
theorem mv_cell {m : Mv} (hn : Nm s0.L m.v) : ∀ c ∈ m.c, Nm s0.L c := by
  cases hn with
  | ag _ h => exact h
theorem mv_e {m : Mv} (hn : Nm s0.L m.v) : Nm s0.L (.ag m.e) := by
  have h := mv_cell hn
  refine .ag _ fun c hc => ?_
  simp only [Mv.e, List.mem_cons, List.not_mem_nil, or_false] at hc
  rcases hc with rfl | rfl | rfl | rfl | rfl | rfl
  · exact .i _ _
  · exact .i _ _
  · exact h _ (by simp [Mv.c])
  · exact .i _ _
  · exact .i _ _
  · exact h _ (by simp [Mv.c])
theorem win_den (m : Mv) (len : Int) (hl : 0 < len) (hl2 : len ≤ 4503599627370496) (ht1 : -1152921504606846976 ≤ m.t) (ht2 : m.t ≤ 1152921504606846976) (hn : Nm s0.L m.v) : PDen gt0 Tryz.prog 27 (.ag m.e :: [.q (.i .i64 len) 0]) (iE (fromW len m.t)) := by
  refine PDen.hc gnm0 hF27 (fun x hx => by
    simp at hx
    rcases hx with rfl | rfl
    · exact mv_e hn
    · exact .q _ _ (.i _ _)) (.i _ _) ?_
  conv => whnf
  refine sgo ?_
  have hq1 := Int.natAbs_tdiv_le_natAbs m.t len
  refine ⟨_, bv_quo hl ht1 ht2, ?_⟩
  conv => whnf
  refine sgo ?_
  refine ⟨_, bv_rem hl, ?_⟩
  conv => whnf
  refine sgo ?_
  obtain ⟨b1, b2⟩ := from_bnd hl hl2 ht1 ht2
  cases hr : ltZ (m.t.tmod len) 0 <;> conv => whnf
  · refine sgo ?_
    rw [ltZ_eq] at hr
    simp only [decide_eq_false_iff_not] at hr
    rw [from_pos hl hr, wIn (by omega) (by omega)]
    rfl
  · refine sgo ?_
    rw [ltZ_eq] at hr
    simp only [decide_eq_true_eq] at hr
    rw [wIn (n := m.t.tdiv len - 1) (by omega) (by omega), from_neg hl hr, wIn (by omega) (by omega)]
    rfl
end Go.Proofs.YthoojnjcdllgdaaGreatDoor
