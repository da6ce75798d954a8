/-
  Each operation's run in the model is what the abstract machine says: first part (values, memory).
-/
import Derived.Test.YtklgkdehnaecnaaDoorRfC
import Derived.Test.YtklgkdehnaecnaaDoorRfP
import Derived.Laws.Cells
import Derived.Laws.StructEq
set_option linter.all false
set_option linter.unusedSimpArgs false
namespace Rf
open Go

structure ERep (gt : Nat → Option V) (cx : Cx) (h : Array Obj) (n : Nat → Prop) (e : List V) (tmps : Array Value) : Prop where
  gl : ∀ g v, gt g = some v → VRep cx h n (.q v 0) (.pointer (some ⟨g, 0, none⟩))
  len : e.length = tmps.size
  rep : ∀ t, VRep cx h n (e.getD t unV) (tmps.getD t undef)

theorem VRep.un (cx : Cx) (h : Array Obj) (n : Nat → Prop) : VRep cx h n unV undef :=
  .tu [] #[] rfl (fun j hj => by simp at hj)

theorem ERep.later {gt : Nat → Option V} {cx cx' : Cx} {h h' : Array Obj} {n n' : Nat → Prop} {e : List V} {tmps : Array Value} (E : ERep gt cx h n e tmps) (L : Later cx h n cx' h' n') : ERep gt cx' h' n' e tmps :=
  ⟨fun g v hg => (E.gl g v hg).later L, E.len, fun t => (E.rep t).later L⟩

theorem ERep.set {gt : Nat → Option V} {cx : Cx} {h : Array Obj} {n : Nat → Prop} {e : List V} {tmps : Array Value} (E : ERep gt cx h n e tmps) {v : V} {x : Value} (hv : VRep cx h n v x) (d : Nat) :
    ERep gt cx h n (e.set d v) (tmps.setIfInBounds d x) := by
  refine ⟨E.gl, by simp [E.len], fun t => ?_⟩
  have h0 := E.rep t
  have hl := E.len
  by_cases hd : t = d
  · subst hd
    by_cases ht : t < e.length
    · simpa [List.getD, Array.getD_eq_getD_getElem?, ht, ← hl] using hv
    · simp only [List.getD, Array.getD_eq_getD_getElem?] at h0 ⊢
      rw [List.getElem?_eq_none (by simpa using ht), Array.getElem?_eq_none (by simp [← hl]; omega)]
      exact VRep.un cx h n
  · simp only [List.getD, Array.getD_eq_getD_getElem?] at h0 ⊢
    rw [List.getElem?_set_ne (Ne.symm hd), Array.getElem?_setIfInBounds_ne (Ne.symm hd)]
    exact h0

theorem cst_rep (cx : Cx) (h : Array Obj) (k : Nat → Prop) : ∀ (n : Nat) (x : Value) (v : V), cst n x = some v → VRep cx h k v x := by
  intro n
  induction n with
  | zero => intro x v hc; simp [cst] at hc
  | succ n ih =>
    intro x v hc
    simp only [cst] at hc
    split at hc <;> first
      | (cases hc; done)
      | skip
    · cases hc; exact .b _
    · cases hc; exact .i _ _
    · cases hc
      rename_i s
      have : VRep cx h k (.s s.data.toList) (.string ⟨s.data.toList.toArray⟩) := .s _
      simpa using this
    · cases hc; exact .np
    · cases hc; exact .ns
    · cases hc; exact .nm
    · rename_i f a c
      split at hc
      · rename_i hac
        cases hc
        have e1 : a = #[] := Array.eq_empty_of_size_eq_zero hac.1
        have e2 : c = #[] := Array.eq_empty_of_size_eq_zero hac.2
        subst e1; subst e2
        exact .fn _ [] #[] rfl (fun j hj => by simp at hj)
      · cases hc
    · cases hc; exact .nf
    · cases hc; exact .ni
    · rename_i t x
      cases hx : cst n x with
      | none => simp [hx] at hc
      | some v' => simp [hx] at hc; subst hc; exact .ifc _ _ _ (ih x v' hx)
    · rename_i cs
      split at hc
      · rename_i hall
        cases hm : mapO (cst n) cs.toList with
        | none => simp [hm] at hc
        | some l =>
          simp [hm] at hc; subst hc
          obtain ⟨h1, h2⟩ := mapO_get _ _ _ hm
          have hsz : cs.size = l.length := by simp [h1]
          refine .ag l cs hsz (fun j hj => ?_) (fun j hj => ?_)
          · have hj' : j < cs.size := by omega
            have := List.all_eq_true.1 hall cs[j] (by simp)
            simpa [Array.getD_eq_getD_getElem?, hj'] using this
          · have hj' : j < cs.size := by omega
            obtain ⟨b, h3, h4⟩ := h2 j cs[j] (by simp [hj'])
            have := ih _ _ h3
            simpa [Array.getD_eq_getD_getElem?, hj', List.getD, h4] using this
      · cases hc

theorem arg_rep {gt : Nat → Option V} {cx : Cx} {h : Array Obj} {n : Nat → Prop} {e : List V} {act : Act} (E : ERep gt cx h n e act.tmps) {x : Operand} {a : Arg} (hc : cArg gt x = some a) : VRep cx h n (a.ev e) (act.eval x) := by
  cases x with
  | tmp t => simp [cArg] at hc; subst hc; exact E.rep t
  | const v =>
    simp [cArg] at hc
    obtain ⟨v', h1, rfl⟩ := hc
    exact cst_rep cx h n 8 v v' h1
  | func f => simp [cArg] at hc; subst hc; exact .fn f [] #[] rfl (fun j hj => by simp at hj)
  | global g =>
    simp [cArg] at hc
    obtain ⟨v', h1, rfl⟩ := hc
    exact E.gl g v' h1

/-- a value's cells -/
theorem VRep.cells {cx : Cx} {h : Array Obj} {n : Nat → Prop} {v : V} {x : Value} (hv : VRep cx h n v x) (hi : v.isVal = true) :
    x.cells.size = v.cells.length ∧ (∀ j, j < v.cells.length → (x.cells.getD j undef).oneCell' = true) ∧ (∀ j, j < v.cells.length → VRep cx h n (v.cells.getD j .bad) (x.cells.getD j undef)) := by
  cases hv with
  | bad => simp [V.isVal] at hi
  | tu => simp [V.isVal] at hi
  | ag cs vs hs h1 hv => exact ⟨hs, h1, hv⟩
  | q v o b d f h1 hz hc hv => exact ⟨rfl, fun j hj => by simp [V.cells] at hj; subst hj; rfl, fun j hj => by simp [V.cells] at hj; subst hj; exact .q v o b d f h1 hz hc hv⟩
  | pu sz xs c a cap f ha h1 hs hz hc hv hl hr hp => exact ⟨rfl, fun j hj => by simp [V.cells] at hj; subst hj; rfl, fun j hj => by simp [V.cells] at hj; subst hj; exact .pu sz xs c a cap f ha h1 hs hz hc hv hl hr hp⟩
  | b x => exact ⟨rfl, fun j hj => by simp [V.cells] at hj; subst hj; rfl, fun j hj => by simp [V.cells] at hj; subst hj; exact .b x⟩
  | i k x => exact ⟨rfl, fun j hj => by simp [V.cells] at hj; subst hj; rfl, fun j hj => by simp [V.cells] at hj; subst hj; exact .i k x⟩
  | s l => exact ⟨rfl, fun j hj => by simp [V.cells] at hj; subst hj; rfl, fun j hj => by simp [V.cells] at hj; subst hj; exact .s l⟩
  | np => exact ⟨rfl, fun j hj => by simp [V.cells] at hj; subst hj; rfl, fun j hj => by simp [V.cells] at hj; subst hj; exact .np⟩
  | p l o hl => exact ⟨rfl, fun j hj => by simp [V.cells] at hj; subst hj; rfl, fun j hj => by simp [V.cells] at hj; subst hj; exact .p l o hl⟩
  | ns => exact ⟨rfl, fun j hj => by simp [V.cells] at hj; subst hj; rfl, fun j hj => by simp [V.cells] at hj; subst hj; exact .ns⟩
  | sl sz l o k c cap hl hk hc => exact ⟨rfl, fun j hj => by simp [V.cells] at hj; subst hj; rfl, fun j hj => by simp [V.cells] at hj; subst hj; exact .sl sz l o k c cap hl hk hc⟩
  | pu0 sz c hc => exact ⟨rfl, fun j hj => by simp [V.cells] at hj; subst hj; rfl, fun j hj => by simp [V.cells] at hj; subst hj; exact .pu0 sz c hc⟩
  | tp b t => exact ⟨rfl, fun j hj => by simp [V.cells] at hj; subst hj; rfl, fun j hj => by simp [V.cells] at hj; subst hj; exact .tp b t⟩
  | nm => exact ⟨rfl, fun j hj => by simp [V.cells] at hj; subst hj; rfl, fun j hj => by simp [V.cells] at hj; subst hj; exact .nm⟩
  | m l hl => exact ⟨rfl, fun j hj => by simp [V.cells] at hj; subst hj; rfl, fun j hj => by simp [V.cells] at hj; subst hj; exact .m l hl⟩
  | fn f cs vs hs hv => exact ⟨rfl, fun j hj => by simp [V.cells] at hj; subst hj; rfl, fun j hj => by simp [V.cells] at hj; subst hj; exact .fn f cs vs hs hv⟩
  | nf => exact ⟨rfl, fun j hj => by simp [V.cells] at hj; subst hj; rfl, fun j hj => by simp [V.cells] at hj; subst hj; exact .nf⟩
  | ifc t v x hv => exact ⟨rfl, fun j hj => by simp [V.cells] at hj; subst hj; rfl, fun j hj => by simp [V.cells] at hj; subst hj; exact .ifc t v x hv⟩
  | ni => exact ⟨rfl, fun j hj => by simp [V.cells] at hj; subst hj; rfl, fun j hj => by simp [V.cells] at hj; subst hj; exact .ni⟩
  | yl l hl => exact ⟨rfl, fun j hj => by simp [V.cells] at hj; subst hj; rfl, fun j hj => by simp [V.cells] at hj; subst hj; exact .yl l hl⟩
  | se sz l a cap hl hc => exact ⟨rfl, fun j hj => by simp [V.cells] at hj; subst hj; rfl, fun j hj => by simp [V.cells] at hj; subst hj; exact .se sz l a cap hl hc⟩

/-- of the world besides its heap: what runs here leaves alone -/
structure Qt (w w' : World) : Prop where
  os : w'.os = w.os
  out : w'.output = w.output

theorem Qt.rfl {w : World} : Qt w w := ⟨.refl _, .refl _⟩
theorem Qt.trans {w w' w'' : World} (a : Qt w w') (b : Qt w' w'') : Qt w w'' := ⟨b.os.trans a.os, b.out.trans a.out⟩

/-- What an operation's run has to be. -/
def Ok (r : Result Value) (cx : Cx) (s : St) (w : World) (v : V) (s' : St) : Prop :=
  ∃ x w' cx', r = .ok x w' ∧ VRep cx' w'.heap s'.L v x ∧ Rel cx' s' w'.heap ∧ Ext cx s w.heap cx' s' w'.heap ∧ Qt w w'

theorem Ok.pure {cx : Cx} {s : St} {w : World} {v : V} {x : Value} (R : Rel cx s w.heap) (hv : VRep cx w.heap s.L v x) : Ok (.ok x w) cx s w v s :=
  ⟨x, w, cx, rfl, hv, R, .refl _ _ _, .rfl⟩

section
variable {P : Program} (w : World)

theorem r_und {t : TypeId} {d : TypeDesc} (h : P.underlying t = some d) : (underlying t).run P w = .ok d w := by simp [underlying, h]
theorem r_size {t : TypeId} {n : Nat} (h : szP P t = some n) : (Go.sizeOf t).run P w = .ok n w := by
  simp only [szP, Option.map_eq_some_iff] at h
  obtain ⟨i, h1, rfl⟩ := h
  simp [Go.sizeOf, typeInfo, h1]
theorem r_isAgg {t : TypeId} {b : Bool} (h : agP P t = some b) : (isAgg t).run P w = .ok b w := by
  simp only [agP, Option.map_eq_some_iff] at h
  obtain ⟨d, h1, h2⟩ := h
  simp only [isAgg, Sem.run_bind, r_und w h1, Result.andThen_ok]
  cases d <;> simp_all
theorem r_bytes {t : TypeId} {n : Nat} (h : byP P t = some n) : ∃ i, (typeInfo t).run P w = .ok i w ∧ i.bytes = n := by
  simp only [byP, Option.map_eq_some_iff] at h
  obtain ⟨i, h1, rfl⟩ := h
  exact ⟨i, by simp [typeInfo, h1], rfl⟩
theorem r_zero {t : TypeId} {z : List V} (h : zeroP P t = some z) : ∃ v, (zeroValue t).run P w = .ok v w ∧ v.cells.size = z.length ∧ (∀ j, j < z.length → (v.cells.getD j undef).oneCell' = true) ∧
    ∀ cx hp n j, j < z.length → VRep cx hp n (z.getD j .bad) (v.cells.getD j undef) := by
  simp only [zeroP] at h
  split at h
  · rename_i v hv
    split at h
    · rename_i hall
      cases hi : P.info? t with
      | none => simp [hi] at hv
      | some i =>
        simp [hi] at hv
        obtain ⟨h1, h2⟩ := mapO_get _ _ _ h
        have hsz : v.cells.size = z.length := by simp [h1]
        refine ⟨v, by simp [zeroValue, typeInfo, hi, hv], hsz, fun j hj => ?_, fun cx hp n j hj => ?_⟩
        · have hj' : j < v.cells.size := by omega
          have := List.all_eq_true.1 hall v.cells[j] (by simp)
          simpa [Array.getD_eq_getD_getElem?, hj'] using this
        · have hj' : j < v.cells.size := by omega
          obtain ⟨b, h3, h4⟩ := h2 j v.cells[j] (by simp [hj'])
          have := cst_rep cx hp n _ _ _ h3
          simpa [Array.getD_eq_getD_getElem?, hj', List.getD, h4] using this
    · cases h
  · cases h

theorem add_none (b o n : Nat) : (⟨b, o, none⟩ : Addr).add n = ⟨b, o + n, none⟩ := by
  unfold Addr.add; split <;> simp_all

/-- a row of cells is loaded -/
theorem r_loadCells (b o n : Nat) (f : Nat → Value) (h : ∀ j, j < n → cellAt w.heap b (o + j) = some (f j)) :
    (loadCells ⟨b, o, none⟩ n).run P w = .ok ((List.range n).map f).toArray w :=
  run_loadCells w _ n f (fun j hj => by rw [add_none, cell?_eq]; exact h j hj)

theorem r_load (b o : Nat) (x : Value) (h : cellAt w.heap b o = some x) : (load ⟨b, o, none⟩).run P w = .ok x w := by
  rw [run_load, cell?_eq, h]

theorem frozen?_of {b : Nat} {arr : Array Value} {el : TypeId} {lo hi : Nat} (hb : w.heap[b]? = some (.cells arr el (lo, hi))) (o : Nat) (h : ¬ (lo ≤ o ∧ o < hi)) : w.frozen? ⟨b, o, none⟩ = false := by
  simp only [World.frozen?, hb]
  by_cases h1 : lo ≤ o <;> by_cases h2 : o < hi <;> simp_all

/-- arr with vs from o on -/
def putAt (arr : Array Value) (o : Nat) : List Value → Array Value
  | [] => arr
  | v :: vs => putAt (arr.setIfInBounds o v) (o + 1) vs

theorem putAt_size (vs : List Value) : ∀ (arr : Array Value) (o : Nat), (putAt arr o vs).size = arr.size := by
  induction vs with
  | nil => intro arr o; rfl
  | cons v vs ih => intro arr o; simp [putAt, ih]

theorem putAt_get (vs : List Value) : ∀ (arr : Array Value) (o j : Nat), o + vs.length ≤ arr.size →
    (putAt arr o vs)[j]? = if o ≤ j ∧ j < o + vs.length then vs[j - o]? else arr[j]? := by
  induction vs with
  | nil => intro arr o j _; simp [putAt]; omega
  | cons v vs ih =>
    intro arr o j h
    simp only [List.length_cons] at h
    simp only [putAt, List.length_cons]
    rw [ih _ _ _ (by simp; omega)]
    by_cases h1 : j = o
    · subst h1
      rw [if_neg (by omega), if_pos (by omega)]
      simp [show j < arr.size by omega]
    · by_cases h2 : o + 1 ≤ j ∧ j < o + 1 + vs.length
      · rw [if_pos h2, if_pos (by omega), show j - o = (j - (o + 1)) + 1 by omega]
        simp
      · rw [if_neg h2, if_neg (by omega), Array.getElem?_setIfInBounds_ne (by omega)]

theorem setCell_heap (w : World) (b o : Nat) (v : Value) {arr : Array Value} {el : TypeId} {fr : Nat × Nat} (hb : w.heap[b]? = some (.cells arr el fr)) :
    (w.setCell ⟨b, o, none⟩ v).heap = w.heap.setIfInBounds b (.cells (arr.setIfInBounds o v) el fr) := by
  simp only [World.setCell]
  apply Array.ext_getElem?
  intro i
  rw [Array.getElem?_modify, Array.getElem?_setIfInBounds]
  by_cases h : b = i
  · subst h
    have hb' := hb
    have hlt : b < w.heap.size := by
      rcases Nat.lt_or_ge b w.heap.size with h1 | h1
      · exact h1
      · rw [Array.getElem?_eq_none h1] at hb; cases hb
    rw [Array.getElem?_eq_getElem hlt] at hb'
    simp [hlt, Option.some.inj hb']
  · simp [h]

/-- a row of cells is stored -/
theorem r_storeCells (b o : Nat) (el : TypeId) (lo hi : Nat) : ∀ (vs : List Value) (i : Nat) (arr : Array Value) (w : World), w.heap[b]? = some (.cells arr el (lo, hi)) →
    o + i + vs.length ≤ arr.size → (∀ j, o + i ≤ j → j < o + i + vs.length → ¬ (lo ≤ j ∧ j < hi)) → (∀ v ∈ vs, v.oneCell' = true) →
    ∃ w', (storeCells ⟨b, o, none⟩ vs i).run P w = .ok () w' ∧ w'.heap = w.heap.setIfInBounds b (.cells (putAt arr (o + i) vs) el (lo, hi)) ∧ Qt w w'
  | [], i, arr, w, hb, _, _, _ => by
    refine ⟨w, rfl, ?_, .rfl⟩
    apply Array.ext_getElem?
    intro j
    rw [Array.getElem?_setIfInBounds]
    by_cases h : b = j
    · subst h
      have hlt : b < w.heap.size := by
        rcases Nat.lt_or_ge b w.heap.size with h1 | h1
        · exact h1
        · rw [Array.getElem?_eq_none h1] at hb; cases hb
      have hb' := hb
      rw [Array.getElem?_eq_getElem hlt] at hb'
      simp [hlt, Option.some.inj hb', putAt]
    · simp [h]
  | v :: vs, i, arr, w, hb, hs, hf, h1 => by
    simp only [List.length_cons] at hs hf
    have hi' : o + i < arr.size := by omega
    have hcell : w.cell? ⟨b, o + i, none⟩ = some arr[o + i] := by rw [cell?_eq, cellAt_of hb]; simp [hi']
    have hfr := frozen?_of w hb (o + i) (hf (o + i) (by omega) (by omega))
    have hst : (store ((⟨b, o, none⟩ : Addr).add i) v).run P w = .ok () (w.setCell ⟨b, o + i, none⟩ v) := by
      rw [add_none, run_store P w _ v _ (h1 v (by simp)), hcell]; simp [hfr]
    have hh := setCell_heap w b (o + i) v hb
    have hlt : b < w.heap.size := by
      rcases Nat.lt_or_ge b w.heap.size with h2 | h2
      · exact h2
      · rw [Array.getElem?_eq_none h2] at hb; cases hb
    obtain ⟨w', e1, e2, e3⟩ := r_storeCells b o el lo hi vs (i + 1) (arr.setIfInBounds (o + i) v) (w.setCell ⟨b, o + i, none⟩ v) (by rw [hh]; simp [hlt]) (by simp; omega)
      (fun j hj hj' => hf j (by omega) (by omega)) (fun x hx => h1 x (by simp [hx]))
    refine ⟨w', by simp only [storeCells, Sem.run_bind, hst, Result.andThen_ok, e1], ?_, Qt.trans (w' := w.setCell ⟨b, o + i, none⟩ v) ⟨rfl, rfl⟩ e3⟩
    rw [e2, hh]
    simp [putAt, Nat.add_assoc]
end

theorem setAt_len (vs : List V) : ∀ (cs : List V) (o : Nat), (setAt cs o vs).length = cs.length := by
  induction vs with
  | nil => intro cs o; rfl
  | cons v vs ih => intro cs o; simp [setAt, ih]

theorem setAt_get (vs : List V) : ∀ (cs : List V) (o j : Nat), o + vs.length ≤ cs.length →
    (setAt cs o vs)[j]? = if o ≤ j ∧ j < o + vs.length then vs[j - o]? else cs[j]? := by
  induction vs with
  | nil => intro cs o j _; simp [setAt]; omega
  | cons v vs ih =>
    intro cs o j h
    simp only [List.length_cons] at h
    simp only [setAt, List.length_cons]
    rw [ih _ _ _ (by simp; omega)]
    by_cases h1 : j = o
    · subst h1
      rw [if_neg (by omega), if_pos (by omega)]
      simp [show j < cs.length by omega]
    · by_cases h2 : o + 1 ≤ j ∧ j < o + 1 + vs.length
      · rw [if_pos h2, if_pos (by omega), show j - o = (j - (o + 1)) + 1 by omega]
        simp
      · rw [if_neg h2, if_neg (by omega), List.getElem?_set_ne (by omega)]

theorem listGetD_eq {l l' : List V} {i j : Nat} (h : l[i]? = l'[j]?) : l.getD i .bad = l'.getD j .bad := by simp [List.getD, h]
theorem arrGetD_eq {l l' : Array Value} {i j : Nat} (h : l[i]? = l'[j]?) : l.getD i undef = l'.getD j undef := by simp [Array.getD_eq_getD_getElem?, h]
theorem arrGetD_list {l : Array Value} {l' : List Value} {i j : Nat} (h : l[i]? = l'[j]?) : l.getD i undef = l'.getD j undef := by simp [Array.getD_eq_getD_getElem?, List.getD, h]

end Rf
