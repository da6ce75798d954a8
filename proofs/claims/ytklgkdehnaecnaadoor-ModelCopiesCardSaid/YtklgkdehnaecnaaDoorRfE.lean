/-
  Each operation's run in the model: memory (loads, stores, what is made).
-/
import Derived.Test.YtklgkdehnaecnaaDoorRfD
set_option linter.all false
set_option linter.unusedSimpArgs false
namespace Rf
open Go

/-- cells stand for cells -/
structure Row (cx : Cx) (h : Array Obj) (n : Nat → Prop) (l : List V) (a : Array Value) : Prop where
  len : a.size = l.length
  one : ∀ j, j < l.length → (a.getD j undef).oneCell' = true
  rep : ∀ j, j < l.length → VRep cx h n (l.getD j .bad) (a.getD j undef)

theorem Row.ag {cx : Cx} {h : Array Obj} {n : Nat → Prop} {l : List V} {a : Array Value} (r : Row cx h n l a) : VRep cx h n (.ag l) (.agg a) := .ag l a r.len r.one r.rep
theorem VRep.row {cx : Cx} {h : Array Obj} {n : Nat → Prop} {v : V} {x : Value} (hv : VRep cx h n v x) (hi : v.isVal = true) : Row cx h n v.cells x.cells :=
  let ⟨h1, h2, h3⟩ := hv.cells hi; ⟨h1, h2, h3⟩
theorem Row.later {cx cx' : Cx} {h h' : Array Obj} {n n' : Nat → Prop} (L : Later cx h n cx' h' n') {l : List V} {a : Array Value} (r : Row cx h n l a) : Row cx' h' n' l a :=
  ⟨r.len, r.one, fun j hj => (r.rep j hj).later L⟩

theorem Row.mk' {cx : Cx} {h : Array Obj} {n : Nat → Prop} {l : List V} (f : Nat → Value) (h1 : ∀ j, j < l.length → (f j).oneCell' = true) (hv : ∀ j, j < l.length → VRep cx h n (l.getD j .bad) (f j)) :
    Row cx h n l ((List.range l.length).map f).toArray := by
  have : ∀ j, j < l.length → (((List.range l.length).map f).toArray).getD j undef = f j := fun j hj => by
    simp [Array.getD_eq_getD_getElem?, hj]
  exact ⟨by simp, fun j hj => by rw [this j hj]; exact h1 j hj, fun j hj => by rw [this j hj]; exact hv j hj⟩

theorem Row.put {cx : Cx} {h : Array Obj} {n : Nat → Prop} {l vs : List V} {a xs : Array Value} (r : Row cx h n l a) (r' : Row cx h n vs xs) (o : Nat) (ho : o + vs.length ≤ l.length) :
    Row cx h n (setAt l o vs) (putAt a o xs.toList) := by
  have hl : xs.toList.length = vs.length := by simp [r'.len]
  have key : ∀ j, j < l.length → ((setAt l o vs).getD j .bad = if o ≤ j ∧ j < o + vs.length then vs.getD (j - o) .bad else l.getD j .bad) ∧
      ((putAt a o xs.toList).getD j undef = if o ≤ j ∧ j < o + vs.length then xs.getD (j - o) undef else a.getD j undef) := fun j hj => by
    have h1 := setAt_get vs l o j ho
    have h2 := putAt_get xs.toList a o j (by rw [hl, r.len]; exact ho)
    rw [hl] at h2
    by_cases hc : o ≤ j ∧ j < o + vs.length
    · rw [if_pos hc] at h1 h2 ⊢
      rw [if_pos hc]
      exact ⟨listGetD_eq h1, by simp [Array.getD_eq_getD_getElem?, h2]⟩
    · rw [if_neg hc] at h1 h2 ⊢
      rw [if_neg hc]
      exact ⟨listGetD_eq h1, arrGetD_eq h2⟩
  refine ⟨by rw [putAt_size, setAt_len, r.len], fun j hj => ?_, fun j hj => ?_⟩
  · rw [setAt_len] at hj
    rw [(key j hj).2]
    split
    · rename_i hc; exact r'.one _ (by omega)
    · exact r.one j hj
  · rw [setAt_len] at hj
    rw [(key j hj).1, (key j hj).2]
    split
    · rename_i hc; exact r'.rep _ (by omega)
    · exact r.rep j hj

/-- an object's cells in memory -/
theorem obj_cells {cx : Cx} {s : St} {h : Array Obj} (R : Rel cx s h) {l : Nat} {cs : List V} {z : Nat} {ty : Option Nat} (hg : s.get l = some (.c cs z ty)) :
    ∃ f : Nat → Value, (∀ j, j < cs.length → cellAt h (cx.r l).b ((cx.r l).d + j) = some (f j)) ∧ (∀ j, j < cs.length → (f j).oneCell' = true) ∧ (∀ j, j < cs.length → VRep cx h s.L (cs.getD j .bad) (f j)) := by
  obtain ⟨arr, el, lo, hi, h1, h2, h3, h4, h5⟩ := R.obj l _ hg
  have h2 := h2.1
  refine ⟨fun j => arr.getD ((cx.r l).d + j) undef, fun j hj => ?_, h3, h4⟩
  rw [cellAt_of h1]
  have : (cx.r l).d + j < arr.size := by omega
  simp [Array.getD_eq_getD_getElem?, this]

theorem list_seg {l : List V} {o n j : Nat} (h : o + n ≤ l.length) (hj : j < n) : ((l.drop o).take n).getD j .bad = l.getD (o + j) .bad := by
  simp [List.getD, List.getElem?_take, List.getElem?_drop, hj]

theorem seg_len {α : Type} {l : List α} {o n : Nat} (h : o + n ≤ l.length) : ((l.drop o).take n).length = n := by simp; omega

/-- a stretch of cells as a row -/
theorem Row.seg {cx : Cx} {h : Array Obj} {m : Nat → Prop} {l : List V} {o n : Nat} (f : Nat → Value) (hl : o + n ≤ l.length) (h1 : ∀ j, j < l.length → (f j).oneCell' = true)
    (hv : ∀ j, j < l.length → VRep cx h m (l.getD j .bad) (f j)) : Row cx h m ((l.drop o).take n) ((List.range n).map fun j => f (o + j)).toArray := by
  have hlen := seg_len hl
  have := Row.mk' (cx := cx) (h := h) (n := m) (l := (l.drop o).take n) (fun j => f (o + j)) (fun j hj => h1 _ (by omega)) (fun j hj => by rw [list_seg hl (by omega)]; exact hv _ (by omega))
  rwa [hlen] at this

section
variable {gt : Nat → Option V} {P : Program} {w : World} {cx : Cx} {s : St} {e : List V} {act : Act}

theorem sim_load1 (R : Rel cx s w.heap) {t : TypeId} (ht : agP P t = some false) {a : Arg} {x : Value} (hx : VRep cx w.heap s.L (a.ev e) x) {v : V} {s' : St} (hop : aop e s (.load1 a) = some (v, s')) :
    Ok ((Instr.loadAt t x).run P w) cx s w v s' := by
  simp only [aop] at hop
  split at hop
  · rename_i l o hev
    rw [hev] at hx
    split at hop
    · rename_i cs z ty hg
      simp only [Option.map_eq_some_iff] at hop
      obtain ⟨v', h1, h2⟩ := hop
      cases h2
      cases hx
      obtain ⟨f, f1, f2, f3⟩ := obj_cells R hg
      have ho : o < cs.length := by
        rcases Nat.lt_or_ge o cs.length with h | h
        · exact h
        · rw [List.getElem?_eq_none h] at h1; cases h1
      refine ⟨f o, w, cx, ?_, ?_, R, .refl _ _ _, .rfl⟩
      · simp only [Instr.loadAt, Instr.sureAddr, Sem.run_bind, Sem.run_pure, Result.andThen_ok, loadVar, r_isAgg w ht, Bool.false_eq_true, if_false]
        exact r_load w _ _ _ (f1 o ho)
      · have := f3 o ho
        rwa [List.getD, h1] at this
    · cases hop
  · rename_i q o hev
    rw [hev] at hx
    simp only [Option.map_eq_some_iff] at hop
    obtain ⟨v', h1, h2⟩ := hop
    cases h2
    cases hx
    rename_i b d f g1 hz hc hv
    have ho : o < q.cells.length := by
      rcases Nat.lt_or_ge o q.cells.length with h | h
      · exact h
      · rw [List.getElem?_eq_none h] at h1; cases h1
    refine ⟨f o, w, cx, ?_, ?_, R, .refl _ _ _, .rfl⟩
    · simp only [Instr.loadAt, Instr.sureAddr, Sem.run_bind, Sem.run_pure, Result.andThen_ok, loadVar, r_isAgg w ht, Bool.false_eq_true, if_false]
      exact r_load w _ _ _ (hc o ho)
    · have := hv o ho
      rwa [List.getD, h1] at this
  · cases hop

theorem sim_loadn (R : Rel cx s w.heap) {t : TypeId} {n : Nat} (ht : agP P t = some true) (hn : szP P t = some n) {a : Arg} {x : Value} (hx : VRep cx w.heap s.L (a.ev e) x) {v : V} {s' : St} (hop : aop e s (.loadn n a) = some (v, s')) :
    Ok ((Instr.loadAt t x).run P w) cx s w v s' := by
  simp only [aop] at hop
  split at hop
  · rename_i l o hev
    rw [hev] at hx
    split at hop
    · rename_i cs z ty hg
      split at hop
      · rename_i hle
        cases hop
        cases hx
        obtain ⟨f, f1, f2, f3⟩ := obj_cells R hg
        refine ⟨_, w, cx, ?_, (Row.seg f hle f2 f3).ag, R, .refl _ _ _, .rfl⟩
        simp only [Instr.loadAt, Instr.sureAddr, Sem.run_bind, Sem.run_pure, Result.andThen_ok, loadVar, r_isAgg w ht, if_true, r_size w hn,
          r_loadCells w (cx.r l).b ((cx.r l).d + o) n (fun j => f (o + j)) (fun j hj => by rw [Nat.add_assoc]; exact f1 _ (by omega))]
      · cases hop
    · cases hop
  · rename_i q o hev
    rw [hev] at hx
    split at hop
    · rename_i hle
      cases hop
      cases hx
      rename_i b d f g1 hz hc hv
      refine ⟨_, w, cx, ?_, (Row.seg f hle g1 hv).ag, R, .refl _ _ _, .rfl⟩
      simp only [Instr.loadAt, Instr.sureAddr, Sem.run_bind, Sem.run_pure, Result.andThen_ok, loadVar, r_isAgg w ht, if_true, r_size w hn,
        r_loadCells w b (d + o) n (fun j => f (o + j)) (fun j hj => by rw [Nat.add_assoc]; exact hc _ (by omega))]
    · cases hop
  · cases hop

theorem mem_toList_one {a : Array Value} (h : ∀ j, j < a.size → (a.getD j undef).oneCell' = true) : ∀ v ∈ a.toList, v.oneCell' = true := by
  intro v hv
  obtain ⟨j, hj, rfl⟩ := List.mem_iff_getElem.1 hv
  have hj' : j < a.size := by simpa using hj
  have := h j hj'
  simpa [Array.getD_eq_getD_getElem?, hj'] using this

/-- vs are written into an object's cells, from o on -/
theorem obj_store (R : Rel cx s w.heap) {l : Nat} {cs : List V} {z : Nat} {ty : Option Nat} (hg : s.get l = some (.c cs z ty)) {vs : List V} {xs : Array Value} (r : Row cx w.heap s.L vs xs) {o : Nat} (ho : o + vs.length ≤ cs.length) (hz : vs.length = 0 ∨ z ≤ o) :
    ∃ w', (storeCells ⟨(cx.r l).b, (cx.r l).d + o, none⟩ xs.toList).run P w = .ok () w' ∧ Rel cx (s.put l (some (.c (setAt cs o vs) z ty))) w'.heap ∧ Ext cx s w.heap cx (s.put l (some (.c (setAt cs o vs) z ty))) w'.heap ∧ Qt w w' := by
  obtain ⟨arr, el, lo, hi, h1, ⟨h2, h2k, h2z, h2t⟩, h3, h4, h5⟩ := R.obj l _ hg
  have hl : xs.toList.length = vs.length := by simp [r.len]
  obtain ⟨w', e1, e2, eq⟩ := r_storeCells (P := P) (cx.r l).b ((cx.r l).d + o) el lo hi xs.toList 0 arr w h1 (by rw [hl]; omega)
    (fun j hj hj' => h5 j (by rw [hl] at hj'; omega) (by rw [hl] at hj'; omega)) (mem_toList_one fun j hj => r.one j (by rw [← r.len]; exact hj))
  refine ⟨w', e1, ?_⟩
  rw [← and_assoc]
  refine ⟨?_, eq⟩
  rw [Nat.add_zero] at e2
  have key : ∀ j, j < cs.length → ((setAt cs o vs).getD j .bad = if o ≤ j ∧ j < o + vs.length then vs.getD (j - o) .bad else cs.getD j .bad) ∧
      ((putAt arr ((cx.r l).d + o) xs.toList).getD ((cx.r l).d + j) undef = if o ≤ j ∧ j < o + vs.length then xs.getD (j - o) undef else arr.getD ((cx.r l).d + j) undef) := fun j hj => by
    have k1 := setAt_get vs cs o j ho
    have k2 := putAt_get xs.toList arr ((cx.r l).d + o) ((cx.r l).d + j) (by rw [hl]; omega)
    rw [hl] at k2
    by_cases hc : o ≤ j ∧ j < o + vs.length
    · rw [if_pos hc] at k1 ⊢
      rw [if_pos (by omega)] at k2
      rw [if_pos hc]
      refine ⟨listGetD_eq k1, ?_⟩
      rw [show (cx.r l).d + j - ((cx.r l).d + o) = j - o by omega] at k2
      simp [Array.getD_eq_getD_getElem?, k2]
    · rw [if_neg hc] at k1 ⊢
      rw [if_neg (by omega)] at k2
      rw [if_neg hc]
      exact ⟨listGetD_eq k1, arrGetD_eq k2⟩
  exact R.upd hg (setAt cs o vs) z (putAt arr ((cx.r l).d + o) xs.toList) el lo hi ⟨_, _, h1⟩ (fun T hT => (h2t T hT).2.2) (by rw [setAt_len, putAt_size]; exact h2) (setAt_len _ _ _) (by rw [putAt_size]; exact h2z)
    (fun j hj => by
      rw [setAt_len] at hj; rw [(key j hj).2]; split
      · exact r.one _ (by omega)
      · exact h3 j hj)
    (fun j hj => by
      rw [setAt_len] at hj; rw [(key j hj).1, (key j hj).2]; split
      · exact r.rep _ (by omega)
      · exact h4 j hj)
    (by rw [putAt_size]; exact h5) _ e2

theorem sim_store (R : Rel cx s w.heap) {t : TypeId} {n : Nat} (hn : szP P t = some n) {a b : Arg} {x y : Value} (hx : VRep cx w.heap s.L (a.ev e) x) (hy : VRep cx w.heap s.L (b.ev e) y) {v : V} {s' : St} (hop : aop e s (.store n a b) = some (v, s')) :
    ∃ w' cx', (Instr.storeAt t x y).run P w = .ok () w' ∧ v = unV ∧ Rel cx' s' w'.heap ∧ Ext cx s w.heap cx' s' w'.heap ∧ Qt w w' := by
  simp only [aop] at hop
  split at hop
  · rename_i l o hev
    rw [hev] at hx
    split at hop
    · rename_i cs z ty hg
      split at hop
      · rename_i hc
        obtain ⟨hi, hlen, hle, hz⟩ := hc
        cases hop
        cases hx
        have r := hy.row hi
        obtain ⟨w', e1, e2, e3, e4⟩ := obj_store (P := P) R hg r (o := o) (by omega) (by omega)
        refine ⟨w', cx, ?_, rfl, e2, e3, e4⟩
        have hsz : y.cells.size = n := by rw [r.len, hlen]
        simp only [Instr.storeAt, Instr.sureAddr, Sem.run_bind, Sem.run_pure, Result.andThen_ok, storeVar, r_size w hn, hsz, ne_eq, not_true, if_false, e1]
      · cases hop
    · cases hop
  · cases hop

theorem newRow_run (el : TypeId) (arr : Array Value) : (newRow el arr).run P w = .ok ⟨w.heap.size, 0, none⟩ { w with heap := w.heap.push (.cells arr el) } := by
  simp [newRow]

theorem sim_alloc (R : Rel cx s w.heap) {t : TypeId} {z : List V} (hz : zeroP P t = some z) {v : V} {s' : St} (hop : aop e s (.alloc t z) = some (v, s')) :
    Ok ((Instr.alloc t true (.tuple #[])).run P w) cx s w v s' := by
  simp only [aop] at hop
  cases hop
  obtain ⟨x, e1, e2, e3, e4⟩ := r_zero (P := P) w hz
  obtain ⟨cx', c1, c2, c3⟩ := R.new z x.cells t (some t) (fun _ h => by cases h; rfl) (by omega) e3 (fun j hj => e4 cx w.heap s.L j hj)
  refine ⟨.pointer (some ⟨w.heap.size, 0, none⟩), { w with heap := w.heap.push (.cells x.cells t) }, cx', ?_, ?_, c2, c3, ⟨rfl, rfl⟩⟩
  · simp only [Instr.alloc, Sem.run_bind, e1, Result.andThen_ok, newVar, newRow_run, Sem.run_pure]
  · have : VRep cx' (w.heap.push (.cells x.cells t)) (s.new (.c z 0 (some t))).L (.p s.n 0) (.pointer (some ⟨(cx'.r s.n).b, (cx'.r s.n).d + 0, none⟩)) := .p s.n 0 (St.new_L0 _ R.gl)
    rw [c1] at this
    simpa using this

theorem sim_box (R : Rel cx s w.heap) {t : TypeId} {b : Bool} {a : Arg} {x : Value} (hx : VRep cx w.heap s.L (a.ev e) x) {v : V} {s' : St} (hop : aop e s (.box t b a) = some (v, s')) :
    Ok ((Instr.box t x).run P w) cx s w v s' := by
  simp only [aop] at hop
  split at hop
  · rename_i hi
    have r := hx.row hi
    split at hop
    · cases hop
      obtain ⟨cx', c1, c2, c3⟩ := R.imm x.cells t (0, 0)
      refine ⟨.pointer (some ⟨w.heap.size, 0, none⟩), { w with heap := w.heap.push (.cells x.cells t) }, cx', ?_, ?_, c2, c3, ⟨rfl, rfl⟩⟩
      · simp only [Instr.box, Sem.run_bind, newVar, newRow_run, Result.andThen_ok, Sem.run_pure]
      · have rl := r.later c3.later
        have : VRep cx' (w.heap.push (.cells x.cells t)) s.L (.q (a.ev e) 0) (.pointer (some ⟨w.heap.size, 0 + 0, none⟩)) :=
          .q (a.ev e) 0 w.heap.size 0 (fun j => x.cells.getD j undef) r.one (fun j hj => by rw [Nat.zero_add]; exact c1 j (by rw [r.len]; exact hj))
            (fun j hj => by
              rw [cellAt_push_new, Nat.zero_add]
              have : j < x.cells.size := by rw [r.len]; exact hj
              simp [Array.getD_eq_getD_getElem?, this])
            rl.rep
        simpa using this
    · cases hop
      obtain ⟨cx', c1, c2, c3⟩ := R.new (a.ev e).cells x.cells t (some t) (fun _ h => by cases h; rfl) (by rw [r.len]; exact Nat.le_refl _) r.one r.rep
      refine ⟨.pointer (some ⟨w.heap.size, 0, none⟩), { w with heap := w.heap.push (.cells x.cells t) }, cx', ?_, ?_, c2, c3, ⟨rfl, rfl⟩⟩
      · simp only [Instr.box, Sem.run_bind, newVar, newRow_run, Result.andThen_ok, Sem.run_pure]
      · have : VRep cx' (w.heap.push (.cells x.cells t)) (s.new (.c (a.ev e).cells 0 (some t))).L (.p s.n 0) (.pointer (some ⟨(cx'.r s.n).b, (cx'.r s.n).d + 0, none⟩)) := .p s.n 0 (St.new_L0 _ R.gl)
        rw [c1] at this
        simpa using this
  · cases hop

end

/-! build -/
theorem foldl_put (off : Nat) : ∀ (vs : List Value) (k : Nat) (cs : Array Value), (vs.zipIdx k).foldl (fun cs (x : Value × Nat) => cs.setIfInBounds (off + x.2) x.1) cs = putAt cs (off + k) vs
  | [], _, _ => rfl
  | v :: vs, k, cs => by
    simp only [List.zipIdx_cons, List.foldl_cons, putAt]
    rw [foldl_put off vs (k + 1)]
    rfl

theorem foldl_put' (off : Nat) (vs cs : Array Value) : (vs.zipIdx.foldl (fun cs (c, j) => cs.setIfInBounds (off + j) c) cs) = putAt cs off vs.toList := by
  have h := foldl_put off vs.toList 0 cs
  rw [Nat.add_zero] at h
  rw [← h, ← Array.foldl_toList, Array.toList_zipIdx]

theorem fill_rep {gt : Nat → Option V} {cx : Cx} {h : Array Obj} {n : Nat → Prop} {e : List V} {act : Act} (E : ERep gt cx h n e act.tmps) (pl : Nat → Option (Nat × Nat)) : ∀ (ps : List (Nat × Operand)) (ps' : List (Nat × Nat × Arg)), cParts gt pl ps = some ps' →
    ∀ (l l' : List V) (a : Array Value), Row cx h n l a → fillp e l ps' = some l' → ∃ a', Instr.fill pl a (ps.map fun (i, x) => (i, act.eval x)) = some a' ∧ Row cx h n l' a'
  | [], ps', hp, l, l', a, r, hf => by
    simp [cParts] at hp; subst hp
    simp [fillp] at hf; subst hf
    exact ⟨a, rfl, r⟩
  | (i, x) :: ps, ps', hp, l, l', a, r, hf => by
    simp only [cParts] at hp
    split at hp
    · rename_i o m x' r' h1 h2 h3
      cases hp
      simp only [fillp] at hf
      split at hf
      · rename_i hc
        obtain ⟨c1, c2, c3⟩ := hc
        have rx := (arg_rep E h2).row c1
        have r2 := r.put rx o (by omega)
        obtain ⟨a', e1, e2⟩ := fill_rep E pl ps r' h3 _ l' _ r2 hf
        refine ⟨a', ?_, e2⟩
        simp only [List.map_cons, Instr.fill, h1]
        rw [if_neg (by have := rx.len; have := r.len; simp; omega), foldl_put']
        exact e1
      · cases hf
    · cases hp

section
variable {gt : Nat → Option V} {P : Program} {w : World} {cx : Cx} {s : St} {e : List V} {act : Act}

theorem mapM_places (fs : List Field) (h : fs.all (fun f => (szP P f.type).isSome) = true) :
    (fs.mapM (fun f => (do pure (f.offset, ← Go.sizeOf f.type) : Sem (Nat × Nat)))).run P w = .ok (fs.map fun f => (f.offset, (szP P f.type).getD 0)) w := by
  induction fs with
  | nil => rfl
  | cons f fs ih =>
    simp only [List.all_cons, Bool.and_eq_true] at h
    obtain ⟨n, hn⟩ := Option.isSome_iff_exists.1 h.1
    simp only [List.mapM_cons, Sem.run_bind, r_size w hn, Result.andThen_ok, Sem.run_pure, ih h.2, List.map_cons, hn, Option.getD_some]

theorem sim_build (E : ERep gt cx w.heap s.L e act.tmps) (R : Rel cx s w.heap) {t : TypeId} {z : List V} (hz : zeroP P t = some z) (ps : Array (Nat × Operand)) (ps' : List (Nat × Nat × Arg))
    (hc : (∃ fs, P.underlying t = some (.struct fs) ∧ fs.toList.all (fun f => (szP P f.type).isSome) = true ∧ cParts gt (fieldPl P fs) ps.toList = some ps') ∨
      (∃ k el n, P.underlying t = some (.array k el) ∧ szP P el = some n ∧ cParts gt (fun i => some (i * n, n)) ps.toList = some ps'))
    {v : V} {s' : St} (hop : aop e s (.build z ps') = some (v, s')) :
    Ok ((Instr.build t (ps.map fun (i, x) => (i, act.eval x))).run P w) cx s w v s' := by
  simp only [aop, Option.map_eq_some_iff] at hop
  obtain ⟨l', h1, h2⟩ := hop
  cases h2
  obtain ⟨x, e1, e2, e3, e4⟩ := r_zero (P := P) w hz
  have r0 : Row cx w.heap s.L z x.cells := ⟨e2, e3, fun j hj => e4 cx w.heap s.L j hj⟩
  rcases hc with ⟨fs, hu, hall, hp⟩ | ⟨k, el, n, hu, hs, hp⟩
  · obtain ⟨a', f1, f2⟩ := fill_rep E _ _ _ hp z l' x.cells r0 h1
    refine ⟨.agg a', w, cx, ?_, f2.ag, R, .refl _ _ _, .rfl⟩
    have hm : (fs.mapM (fun f => (do pure (f.offset, ← Go.sizeOf f.type) : Sem (Nat × Nat)))).run P w = .ok (fs.map fun f => (f.offset, (szP P f.type).getD 0)) w := by
      rw [Array.mapM_eq_mapM_toList, Sem.run_map, mapM_places (w := w) fs.toList hall]
      simp only [Result.andThen_ok]
      congr 1
      apply Array.ext'
      simp
    have hpl : (fun i => (fs.map fun f => (f.offset, (szP P f.type).getD 0))[i]?) = fieldPl P fs := by
      funext i
      simp only [fieldPl, Array.getElem?_map]
      cases hf : fs[i]? with
      | none => rfl
      | some f =>
        have := List.all_eq_true.1 hall f (Array.mem_toList_iff.2 (Array.mem_of_getElem? hf))
        obtain ⟨n, hn⟩ := Option.isSome_iff_exists.1 this
        simp [hn]
    simp only [Instr.build, Sem.run_bind, e1, Result.andThen_ok, r_und w hu, hm, Array.toList_map, hpl, f1, Sem.run_pure]
  · obtain ⟨a', f1, f2⟩ := fill_rep E _ _ _ hp z l' x.cells r0 h1
    refine ⟨.agg a', w, cx, ?_, f2.ag, R, .refl _ _ _, .rfl⟩
    simp only [Instr.build, Sem.run_bind, e1, Result.andThen_ok, r_und w hu, r_size w hs, Array.toList_map, f1, Sem.run_pure]

end
end Rf
