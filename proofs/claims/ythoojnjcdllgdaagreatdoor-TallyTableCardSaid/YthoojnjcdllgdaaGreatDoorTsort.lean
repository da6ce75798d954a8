/-
  A map's keys, sorted: the library's contract in this layer's words. No statement stands here.
-/
import Derived.Test.YthoojnjcdllgdaaGreatDoorBase
import Derived.Test.YthoojnjcdllgdaaGreatDoorLF
import Derived.Shelf.SlIterI.Nil
set_option linter.all false
namespace Rf
open Go TallyP Go.RowKit Go.Maps Go.Sort Go.WideElems Go.WideShapes Go.Lib Go.Proofs

theorem Den.below {gt : Nat → Option V} {P : Program} {f : FuncId} {args : List V} {s : St} {v : V} (h : ∀ (cx : Cx) (w : World) (xs : Array Value), Rel cx s w.heap → GRep gt cx w.heap s.L → ARep cx w.heap s.L args xs →
    Calls P f xs w fun e w' => ∃ x, ∃ F : Nat → Nat → Prop, e = .returned x ∧ Below w.heap.size w w' ∧ (∀ b o, F b o → w.heap.size ≤ b ∧ (cellAt w'.heap b o).isSome = true) ∧ ∀ cx' n', (∀ b o, F b o → cx'.fz b o) → VRep cx' w'.heap n' v x) : Den gt P f args s v s := by
  intro cx w xs R G A
  refine (h cx w xs R G A).mono fun e w' ⟨x, F, h1, h2, h3, h4⟩ => ?_
  obtain ⟨cx', h5, h6, h7, h8⟩ := R.grow h2 F h3
  exact ⟨x, cx', h1, h4 cx' _ h5, h6, h7, h8⟩
theorem row_rep {w : World} {base : Nat} {T : TypeId} {sz n : Nat} {v : Value} {ys : List Value} {xs : List V} (h : w.ownsRow base T sz v n ys) (hn : xs.length = n) (hs : ∀ i, i < n → (xs.getD i .bad).cells.length = sz) (ho : ∀ y ∈ ys, y.oneCell' = true)
    (hv : ∀ (cx : Cx) (h : Array Obj) (m : Nat → Prop) (i j : Nat), i < n → j < sz → VRep cx h m ((xs.getD i .bad).cells.getD j .bad) (ys.getD (i * sz + j) undef)) :
    ∃ F : Nat → Nat → Prop, (∀ b o, F b o → base ≤ b ∧ (cellAt w.heap b o).isSome = true) ∧ ∀ (cx' : Cx) (n' : Nat → Prop), (∀ b o, F b o → cx'.fz b o) → VRep cx' w.heap n' (.pu sz xs .u) v := by
  obtain ⟨hl, h⟩ := h
  rcases h with ⟨rfl, h0⟩ | ⟨g, cap, cur, rfl, hb, hg, h1, h2, h3, h4⟩
  · obtain rfl : xs = [] := List.length_eq_zero_iff.1 (hn.trans h0)
    exact ⟨fun _ _ => False, fun _ _ h => h.elim, fun _ _ _ => .pu0 _ _ trivial⟩
  · subst hn
    have hc : ∀ k, k < xs.length * sz → cellAt w.heap g k = some (ys.getD k undef) := fun k hk => by
      have hk2 : k < ys.length := by omega
      unfold cellAt
      rw [hg]
      simp only
      rw [List.getD, List.getElem?_eq_getElem hk2, Option.getD_some]
      have : cur.toList[k]? = some ys[k] := by
        rw [← List.getElem?_eq_getElem hk2, ← h4, List.getElem?_take]
        rw [if_pos hk]
      rw [← this, Array.getElem?_toList]
    have hij : ∀ i j, i < xs.length → j < sz → i * sz + j < xs.length * sz := fun i j hi hj => by
      have := Nat.mul_le_mul_right sz (show i + 1 ≤ xs.length from hi)
      rw [Nat.succ_mul] at this; omega
    refine ⟨fun b o => b = g ∧ o < xs.length * sz, fun b o ⟨e, ho⟩ => ⟨by omega, by rw [e, hc o ho]; rfl⟩, fun cx' n' hf => ?_⟩
    refine .pu sz xs .u ⟨g, 0, none⟩ cap (fun i j => ys.getD (i * sz + j) undef) (fun _ => rfl) (fun i j hi hj => ?_) hs (fun i j hi hj => hf _ _ ⟨rfl, ?_⟩) (fun i j hi hj => ?_) (fun i j hi hj => hv _ _ _ i j hi hj) h1 trivial (fun _ h => by cases h)
    · have := hij i j hi hj
      have hk2 : i * sz + j < ys.length := by omega
      refine ho _ ?_
      rw [List.getD, List.getElem?_eq_getElem hk2]
      exact List.getElem_mem hk2
    · have := hij i j hi hj
      simpa using this
    · have := hc _ (hij i j hi hj)
      simpa using this
def rT (_ : Value) : Option (DataW Unit × List MemPlace) := some (.lit (.bool true), [])
variable {K S : Type}
theorem er_keys {sE : S → V} {cx : Cx} {h : Array Obj} {n : Nat → Prop} : ∀ {l : List (Int × S)} {b : Nat} {ml : List MapEntry}, All2 (ER cx h n) (mEs (fun k => .i .i64 k) sE l b) ml → ml.map (·.key) = (keysL l).map (fun k => Value.int .i64 k) ∧ ml.map (·.born) = List.range' b l.length
  | [], b, ml, h => by cases h; exact ⟨rfl, rfl⟩
  | (k, s) :: r, b, ml, h => by
    cases h with
    | @cons _ y _ m h1 h2 =>
      obtain ⟨e1, e2⟩ := er_keys h2
      obtain ⟨hb, hk, -⟩ := h1
      have hk : VRep cx _ n (.i .i64 k) y.key := hk
      generalize hy : y.key = yk at hk
      cases hk
      refine ⟨?_, ?_⟩
      · rw [List.map_cons, e1, hy]; rfl
      · rw [List.map_cons, e2, hb, List.length_cons, List.range'_succ]
theorem keyOf_int {P : Program} {T : TypeId} (hT : P.underlying T = some (.int .i64)) {k : Int} (hk : (Lit.int .i64 k).wf = true) : keyOf P T (.int .i64 k) = some (.int .i64 k) := by
  simp [keyOf, mapKey, hT, hk]
theorem owns_of {P : Program} {T : TypeId} (hT : P.underlying T = some (.int .i64)) {sE : S → V} {cx : Cx} {s : St} {w : World} (R : Rel cx s w.heap) {M clk : Nat} {l : List (Int × S)} (hg : s.get M = some (.x (.mp (mEs (fun k => .i .i64 k) sE l 0) clk))) (hc : clk = l.length)
    (hk : ∀ k ∈ keysL l, (Lit.int .i64 k).wf = true) (hd : (keysL l).Nodup) (hn : l.length ≤ maxLen) : ∃ D0 : DataW Unit, w.ownsMap P T rT (cx.r M).b l.length D0 ∧ (intKeys D0).Perm (keysL l) ∧ Maps.size D0 = l.length := by
  obtain ⟨ml, h1, h2⟩ := (R.obj M _ hg).2
  obtain ⟨e1, e2⟩ := er_keys h2
  have hlen : ml.length = l.length := by have := congrArg List.length e1; simpa [keysL] using this
  have hrd : ∀ x ∈ ml, ∃ k ∈ keysL l, x.key = .int .i64 k := fun x hx => by
    have : x.key ∈ (keysL l).map (fun k => Value.int .i64 k) := by rw [← e1]; exact List.mem_map_of_mem hx
    obtain ⟨k, hk, e⟩ := List.mem_map.1 this
    exact ⟨k, hk, e.symm⟩
  have hrdx : ∀ x ∈ ml, ∀ k, x.key = .int .i64 k → (Lit.int .i64 k).wf = true → WideElems.rd (H := Unit) P T rT x = some (.int .i64 k, .lit (.bool true)) := fun x hx k e hw => by
    unfold WideElems.rd
    rw [e, keyOf_int hT hw]; rfl
  have hrg : (ml.map (rg (H := Unit) P T rT)).map (fun p => Go.intOf p.1) = keysL l := by
    have : ∀ x ∈ ml, ∀ k, x.key = Value.int .i64 k → k ∈ keysL l → Go.intOf (rg (H := Unit) P T rT x).1 = k := fun x hx k e hk' => by
      rw [rg, hrdx x hx k e (hk k hk')]; rfl
    have aux : ∀ (ml : List MapEntry) (ks : List Int), ml.map (·.key) = ks.map (fun k => Value.int .i64 k) → (∀ x ∈ ml, ∀ k, x.key = Value.int .i64 k → k ∈ ks → Go.intOf (rg (H := Unit) P T rT x).1 = k) → (ml.map (rg (H := Unit) P T rT)).map (fun p => Go.intOf p.1) = ks := by
      intro ml
      induction ml with
      | nil => intro ks h _; cases ks with
        | nil => rfl
        | cons => cases h
      | cons x ml ih =>
        intro ks h hh
        cases ks with
        | nil => cases h
        | cons k ks =>
          simp only [List.map_cons, List.cons.injEq] at h
          simp only [List.map_cons]
          rw [hh x (List.mem_cons_self ..) k h.1 (List.mem_cons_self ..), ih ks h.2 fun y hy k' e hk' => hh y (List.mem_cons_of_mem _ hy) k' e (List.mem_cons_of_mem _ hk')]
    exact aux ml _ e1 this
  refine ⟨.map ((ml.map (rg P T rT)).foldr DataW.insert []), ⟨ml.toArray, clk, h1, ⟨?_, ⟨fun x hx => ?_, ?_, ?_⟩, fun x hx => ?_⟩, ?_, ?_⟩, ?_, ?_⟩
  · simp [hlen, hn]
  · have hx : x ∈ ml := by simpa using hx
    have : x.born ∈ List.range' 0 l.length := by rw [← e2]; exact List.mem_map_of_mem hx
    rw [List.mem_range'_1] at this
    omega
  · simp only [List.toList_toArray]
    rw [e2]; exact List.nodup_range'
  · simp only [List.toList_toArray]
    rw [e1]
    exact (List.pairwise_map.2 (hd.imp fun h e => h (by cases e; rfl)))
  · have hx : x ∈ ml := by simpa using hx
    obtain ⟨k, hkm, e⟩ := hrd x hx
    exact ⟨_, hrdx x hx k e (hk k hkm)⟩
  · simp [hlen]
  · simp
  · have := (sorted_perm (ml.map (rg (H := Unit) P T rT))).map (fun p => Go.intOf p.1)
    rw [hrg] at this
    exact this
  · show (List.foldr DataW.insert [] (ml.map (rg (H := Unit) P T rT))).length = _
    rw [(sorted_perm _).length_eq, List.length_map, hlen]
theorem sortedI_den {P : Program} {gt : Nat → Option V} {f g : FuncId} {T T' ty : TypeId} (hT : P.underlying T = some (.int .i64))
    (hcS : ∀ (w : World) (Bm b nn : Nat) (D0 : DataW Unit), Bm < w.heap.size → w.cell? ⟨Bm, 0, none⟩ = some (.map (some b)) → w.ownsMap P T rT b nn D0 → Maps.size D0 ≤ maxLen → Maps.size D0 * 8 ≤ 140737488355328 →
      Calls P f #[.func (.func g) #[] #[.pointer (some ⟨Bm, 0, none⟩)]] w fun e w' => ∃ (v : Value) (ss : List Int), e = .returned v ∧ ss.Perm (intKeys D0) ∧ w'.ownsRow w.heap.size T' 1 v ss.length ((ss.mergeSort fun x y => decide (x ≤ y)).map encZ) ∧ Below w.heap.size w w')
    {sE : S → V} {s : St} {B M clk zf : Nat} {l : List (Int × S)} (hB : s.get B = some (.c [.m M] zf (some ty))) (hM : s.get M = some (.x (.mp (mEs (fun k => .i .i64 k) sE l 0) clk))) (hc : clk = l.length)
    (hk : ∀ k ∈ keysL l, (Lit.int .i64 k).wf = true) (hd : (keysL l).Nodup) (hn : l.length ≤ 1000000) :
    Den gt P f [.fn g [.p B 0]] s (.pu 1 (((keysL l).mergeSort fun x y => decide (x ≤ y)).map fun k => .i .i64 k) .u) s := by
  have hmx : 1000000 ≤ maxLen := by decide
  refine Den.below fun cx w xs R G A => ?_
  obtain ⟨D0, hown, hperm, hsize⟩ := owns_of hT R hM hc hk hd (by omega)
  obtain ⟨arr, el, lo, hi, a1, a2, a3, a4, -⟩ := R.obj B _ hB
  obtain ⟨b1, b2, b3, b4⟩ := a2
  have hd0 : (cx.r B).d = 0 := (b4 ty rfl).2.1
  have h40 := a4 0 (by simp)
  rw [hd0] at h40
  have hcell : w.cell? ⟨(cx.r B).b, 0, none⟩ = some (.map (some (cx.r M).b)) := by
    rw [cell?_eq, cellAt, a1]
    simp only
    have h0 : 0 < arr.size := by rw [hd0] at b1; simp at b1; omega
    rw [Array.getElem?_eq_getElem h0]
    rw [show arr.getD (0 + 0) undef = arr[0] by simp [Array.getD_eq_getD_getElem?, h0]] at h40
    generalize arr[0] = y at h40
    have h40 : VRep cx w.heap s.L (.m M) y := h40
    cases h40
    rfl
  obtain ⟨y, hy, hr⟩ := arep A (j := 0) rfl
  have hxs : xs = #[.func (.func g) #[] #[.pointer (some ⟨(cx.r B).b, 0, none⟩)]] := by
    refine arr1 (by rw [A.len]; rfl) ?_
    rw [hy]
    cases hr with
    | fn _ _ vs hs hv =>
      have h0 := hv 0 (by simp)
      have hs1 : vs.size = 1 := hs
      have : vs = #[.pointer (some ⟨(cx.r B).b, 0, none⟩)] := by
        refine arr1 hs1 ?_
        rw [show vs.getD 0 undef = vs[0] by simp [Array.getD_eq_getD_getElem?, hs1]] at h0
        rw [Array.getElem?_eq_getElem (by omega)]
        generalize vs[0] = z at h0
        have h0 : VRep cx w.heap s.L (.p B 0) z := h0
        cases h0
        rw [hd0]
      rw [this]
  rw [hxs]
  have hlt : (cx.r B).b < w.heap.size := by
    rcases Nat.lt_or_ge (cx.r B).b w.heap.size with h | h
    · exact h
    · rw [Array.getElem?_eq_none h] at a1; cases a1
  refine (hcS w (cx.r B).b _ _ D0 hlt hcell hown (by omega) (by omega)).mono fun e w' ⟨v, ss, h1, h2, h3, h4⟩ => ?_
  have hms : (ss.mergeSort fun x y => decide (x ≤ y)) = (keysL l).mergeSort fun x y => decide (x ≤ y) := mergeSort_of_perm_i (h2.trans hperm)
  have hln : ss.length = ((keysL l).mergeSort fun x y => decide (x ≤ y)).length := by rw [← hms, List.length_mergeSort]
  rw [hms] at h3
  generalize ((keysL l).mergeSort fun x y => decide (x ≤ y)) = rr at h3 hln
  obtain ⟨F, h5, h6⟩ := row_rep (xs := rr.map fun k => V.i .i64 k) h3 (by rw [List.length_map, hln]) (fun i hi => by
    have hi : i < rr.length := by omega
    simp [List.getD, hi, V.cells]) (fun y hy => by
      obtain ⟨k, -, rfl⟩ := List.mem_map.1 hy
      rfl) (fun cx h m i j hi hj => by
    obtain rfl : j = 0 := by omega
    have hi : i < rr.length := by omega
    simp only [List.getD, List.getElem?_map, List.getElem?_eq_getElem hi, Option.map_some, Option.getD_some, V.cells, Nat.mul_one, Nat.add_zero]
    exact .i _ _)
  exact ⟨v, F, h1, h4, h5, h6⟩
end Rf
