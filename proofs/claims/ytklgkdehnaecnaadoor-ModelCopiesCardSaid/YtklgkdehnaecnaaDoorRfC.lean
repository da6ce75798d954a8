/-
  Changes of the world that the relation survives: one object is made or changed; a new row that is never written.
-/
import Derived.Test.YtklgkdehnaecnaaDoorRfB
set_option linter.all false
namespace Rf
open Go

theorem getD_of_getElem? {α : Type} {a : Array α} {i : Nat} {d x : α} (h : a[i]? = some x) : a.getD i d = x := by
  simp [Array.getD_eq_getD_getElem?, h]

theorem Rel.change {cx cx' : Cx} {s s' : St} {h h' : Array Obj} (R : Rel cx s h) (l0 : Nat) (o0 : O) (B : Nat) (hB : blk cx' l0 o0 = B)
    (hn : ∀ l, s.L l → s'.L l) (hgl : ∀ l ∈ s'.g, l < s'.n) (hl0 : s'.L l0) (get0 : s'.get l0 = some o0) (getO : ∀ l, l ≠ l0 → ∀ o, s'.get l = some o → s.get l = some o)
    (cxr : ∀ l, l ≠ l0 → cx'.r l = cx.r l) (cxt : ∀ l, l ≠ l0 → cx'.tk l = cx.tk l)
    (r0 : s.L l0 → cx'.r l0 = cx.r l0) (tk0 : s.L l0 → cx'.tk l0 = cx.tk l0 ∨ (cx.tk l0).e < (cx'.tk l0).e)
    (size : h.size ≤ h'.size) (same : ∀ b, b < h.size → b ≠ B → h'[b]? = h[b]?)
    (own : h.size ≤ B ∨ ∃ l1 o1, s.get l1 = some o1 ∧ blk cx l1 o1 = B ∧ (l1 = l0 ∨ s'.get l1 = none))
    (fz : ∀ b o, cx.fz b o → cx'.fz b o) (fzB : ∀ o, cx.fz B o → cellAt h' B o = cellAt h B o)
    (nfz : ∀ b o, cx'.fz b o → cx.fz b o ∨ (b = B ∧ (cellAt h' b o).isSome))
    (rep0 : Later cx h s.L cx' h' s'.L → ORep cx' h' s'.L l0 o0)
    (fzo0 : ∀ cs z t, o0 = .c cs z t → ∀ o, ¬ cx'.fz B o) (fzt0 : ∀ e, o0 = .t e → ∀ o, cx'.fz B o → o < (cx'.tk l0).d + e) :
    Rel cx' s' h' ∧ Ext cx s h cx' s' h' := by
  have hcell : ∀ b o, cx.fz b o → cellAt h' b o = cellAt h b o := fun b o hf => by
    by_cases hb : b = B
    · rw [hb] at hf ⊢; exact fzB o hf
    · have := cellAt_lt (R.fzl b o hf)
      unfold cellAt; rw [same b this hb]
  have later : Later cx h s.L cx' h' s'.L :=
    ⟨hn, fun l hl => if he : l = l0 then by rw [he]; exact r0 (he ▸ hl) else cxr l he, fun l hl => if he : l = l0 then by rw [he]; exact tk0 (he ▸ hl) else .inl (cxt l he), fz, hcell⟩
  -- another object's block
  have blkS : ∀ l, l ≠ l0 → ∀ o, blk cx' l o = blk cx l o := fun l he o => by cases o <;> simp [blk, cxr l he, cxt l he]
  have blkB : ∀ l, l ≠ l0 → ∀ o, s'.get l = some o → blk cx l o ≠ B := fun l he o hg hb => by
    have hg0 := getO l he o hg
    rcases own with h1 | ⟨l1, o1, h1, h2, h3⟩
    · have := R.own_lt ⟨l, o, hg0, rfl⟩; omega
    · by_cases e1 : l = l1
      · subst e1
        rcases h3 with h3 | h3
        · exact he h3
        · rw [h3] at hg; cases hg
      · exact R.inj l l1 o o1 hg0 h1 e1 (by rw [hb, h2])
  have heapS : ∀ l, l ≠ l0 → ∀ o, s'.get l = some o → h'[blk cx l o]? = h[blk cx l o]? := fun l he o hg =>
    same _ (R.own_lt ⟨l, o, getO l he o hg, rfl⟩) (blkB l he o hg)
  refine ⟨⟨?_, hgl, ?_, ?_, ?_, ?_, ?_⟩, later, size, ?_, ?_, ?_⟩
  · intro l hl
    cases hg : s'.get l with
    | none => rfl
    | some o =>
      by_cases he : l = l0
      · exact (hl (he ▸ hl0)).elim
      · exact (hl (hn l (R.name_L (getO l he o hg)))).elim
  · intro l o hg
    by_cases he : l = l0
    · subst he; rw [get0] at hg; cases hg; exact rep0 later
    · have h1 := R.obj l o (getO l he o hg)
      have h2 := heapS l he o hg
      cases o with
      | c cs z ty =>
        obtain ⟨arr, el, lo, hi, a1, a2, a3, a4, a5⟩ := h1
        simp only [blk] at h2
        refine ⟨arr, el, lo, hi, by rw [cxr l he, h2, a1], by rw [cxr l he]; exact a2, by rw [cxr l he]; exact a3, fun j hj => by rw [cxr l he]; exact (a4 j hj).later later, by rw [cxr l he]; exact a5⟩
      | t e =>
        obtain ⟨arr, el, lo, hi, a1, a2, a3, a4⟩ := h1
        simp only [blk] at h2
        exact ⟨arr, el, lo, hi, by rw [cxt l he, h2, a1], by rw [cxt l he]; exact a2, by rw [cxt l he]; exact a3, by rw [cxt l he]; exact a4⟩
      | x o =>
        simp only [blk] at h2
        show (cx'.r l).d = 0 ∧ XRep cx' h' s'.L (cx'.r l).b o
        rw [cxr l he]; exact ⟨h1.1, XRep.later later h2 h1.2⟩
  · intro l l' o o' hg hg' hne
    by_cases he : l = l0
    · subst he
      rw [get0] at hg; cases hg
      rw [blkS l' (Ne.symm hne), hB]
      exact Ne.symm (blkB l' (Ne.symm hne) o' hg')
    · rw [blkS l he]
      by_cases he' : l' = l0
      · subst he'
        rw [get0] at hg'; cases hg'
        rw [hB]; exact blkB l he o hg
      · rw [blkS l' he']
        exact R.inj l l' o o' (getO l he o hg) (getO l' he' o' hg') hne
  · intro b o hf
    rcases nfz b o hf with h1 | ⟨_, h2⟩
    · rw [hcell b o h1]; exact R.fzl b o h1
    · exact h2
  · intro l cs z ty hg o hf
    by_cases he : l = l0
    · subst he; rw [get0] at hg; cases hg
      have hB' : (cx'.r l).b = B := hB
      rw [hB'] at hf; exact fzo0 cs z ty rfl o hf
    · rw [cxr l he] at hf
      rcases nfz _ o hf with h1 | ⟨h1, _⟩
      · exact R.fzo l cs z ty (getO l he _ hg) o h1
      · exact blkB l he _ hg h1
  · intro l e hg o hf
    by_cases he : l = l0
    · subst he; rw [get0] at hg; cases hg
      have hB' : (cx'.tk l).b = B := hB
      rw [hB'] at hf; exact fzt0 e rfl o hf
    · rw [cxt l he] at hf ⊢
      rcases nfz _ o hf with h1 | ⟨h1, _⟩
      · exact R.fzt l e (getO l he _ hg) o h1
      · exact (blkB l he _ hg h1).elim
  · intro b hb ho
    refine same b hb (fun hbB => ?_)
    rcases own with h1 | ⟨l1, o1, h1, h2, _⟩
    · omega
    · exact ho ⟨l1, o1, h1, by rw [h2, hbB]⟩
  · rintro b ⟨l, o, hg, hbl⟩
    by_cases he : l = l0
    · subst he; rw [get0] at hg; cases hg
      rw [hB] at hbl
      rcases own with h1 | ⟨l1, o1, h1, h2, _⟩
      · exact .inr (by omega)
      · exact .inl ⟨l1, o1, h1, by rw [h2, hbl]⟩
    · rw [blkS l he] at hbl
      exact .inl ⟨l, o, getO l he o hg, hbl⟩
  · intro b o hf
    rcases nfz b o hf with h1 | ⟨h1, _⟩
    · exact .inl h1
    · rcases own with h2 | ⟨l1, o1, h2, h3, _⟩
      · exact .inr (.inr (by omega))
      · exact .inr (.inl ⟨l1, o1, h2, by rw [h3, h1]⟩)

theorem cellAt_push_lt {h : Array Obj} {x : Obj} {b o : Nat} (hb : b < h.size) : cellAt (h.push x) b o = cellAt h b o := by
  unfold cellAt; rw [Array.getElem?_push_lt hb, Array.getElem?_eq_getElem hb]

theorem cellAt_push_new {h : Array Obj} {arr : Array Value} {el : TypeId} {fr : Nat × Nat} {o : Nat} : cellAt (h.push (.cells arr el fr)) h.size o = arr[o]? := by
  simp [cellAt]

/-- A new object. -/
theorem Rel.new {cx : Cx} {s : St} {h : Array Obj} (R : Rel cx s h) (cs : List V) (arr : Array Value) (el : TypeId) (ty : Option Nat) (hty : ∀ T, ty = some T → el = T) (hs : cs.length ≤ arr.size)
    (h1 : ∀ j, j < cs.length → (arr.getD j undef).oneCell' = true) (hv : ∀ j, j < cs.length → VRep cx h s.L (cs.getD j .bad) (arr.getD j undef)) :
    ∃ cx', cx'.r s.n = ⟨h.size, 0, cs.length, arr.size⟩ ∧ Rel cx' (s.new (.c cs 0 ty)) (h.push (.cells arr el)) ∧ Ext cx s h cx' (s.new (.c cs 0 ty)) (h.push (.cells arr el)) := by
  refine ⟨{ cx with r := fun l => if l = s.n then ⟨h.size, 0, cs.length, arr.size⟩ else cx.r l }, by simp, ?_⟩
  have hfz : ∀ o, ¬ cx.fz h.size o := fun o hf => by have := cellAt_lt (R.fzl _ _ hf); omega
  refine R.change s.n (.c cs 0 ty) h.size (by simp [blk]) (fun _ h => St.new_L _ h) (fun l hl => Nat.lt_succ_of_lt (R.gl l hl)) (St.new_L0 _ R.gl) (by simp) (fun l hl o hg => by rwa [St.get_new_ne _ _ _ hl] at hg)
    (fun l hl => by simp [hl]) (fun _ _ => rfl) (fun hl => (Nat.lt_irrefl _ hl.1).elim) (fun _ => .inl rfl) (by simp)
    (fun b hb _ => by rw [Array.getElem?_push_lt hb, Array.getElem?_eq_getElem hb]) (.inl (Nat.le_refl _)) (fun _ _ h => h) (fun o hf => (hfz o hf).elim) (fun _ _ h => .inl h)
    (fun L => ?_) (fun _ _ _ _ o hf => hfz o hf) (fun _ he => by cases he)
  exact ⟨arr, el, 0, 0, by simp, ⟨by simpa using hs, by simp, by simp, fun T hT => ⟨hty T hT, by simp, .inl rfl⟩⟩, by simpa using h1, fun j hj => by simpa using (hv j hj).later L, fun j _ _ => by omega⟩

/-- A new object, of whose block something behind its cells is frozen. -/
theorem Rel.newF {cx : Cx} {s : St} {h : Array Obj} (R : Rel cx s h) (cs : List V) (arr : Array Value) (el : TypeId) (lo hi : Nat) (hf : ∀ j, j < arr.size → ¬ (lo ≤ j ∧ j < hi)) (hs : cs.length ≤ arr.size)
    (h1 : ∀ j, j < cs.length → (arr.getD j undef).oneCell' = true) (hv : ∀ j, j < cs.length → VRep cx h s.L (cs.getD j .bad) (arr.getD j undef)) :
    ∃ cx', cx'.r s.n = ⟨h.size, 0, cs.length, arr.size⟩ ∧ Rel cx' (s.new (.c cs 0 none)) (h.push (.cells arr el (lo, hi))) ∧ Ext cx s h cx' (s.new (.c cs 0 none)) (h.push (.cells arr el (lo, hi))) := by
  refine ⟨{ cx with r := fun l => if l = s.n then ⟨h.size, 0, cs.length, arr.size⟩ else cx.r l }, by simp, ?_⟩
  have hfz : ∀ o, ¬ cx.fz h.size o := fun o hf => by have := cellAt_lt (R.fzl _ _ hf); omega
  refine R.change s.n (.c cs 0 none) h.size (by simp [blk]) (fun _ h => St.new_L _ h) (fun l hl => Nat.lt_succ_of_lt (R.gl l hl)) (St.new_L0 _ R.gl) (by simp) (fun l hl o hg => by rwa [St.get_new_ne _ _ _ hl] at hg)
    (fun l hl => by simp [hl]) (fun _ _ => rfl) (fun hl => (Nat.lt_irrefl _ hl.1).elim) (fun _ => .inl rfl) (by simp)
    (fun b hb _ => by rw [Array.getElem?_push_lt hb, Array.getElem?_eq_getElem hb]) (.inl (Nat.le_refl _)) (fun _ _ h => h) (fun o hf => (hfz o hf).elim) (fun _ _ h => .inl h)
    (fun L => ?_) (fun _ _ _ _ o hf => hfz o hf) (fun _ he => by cases he)
  exact ⟨arr, el, lo, hi, by simp, ⟨by simpa using hs, by simp, by simp, fun T hT => by cases hT⟩, by simpa using h1, fun j hj => by simpa using (hv j hj).later L, fun j _ hj => hf j hj⟩

/-- A new row that is never written. -/
theorem Rel.imm {cx : Cx} {s : St} {h : Array Obj} (R : Rel cx s h) (arr : Array Value) (el : TypeId) (fr : Nat × Nat) :
    ∃ cx', (∀ j, j < arr.size → cx'.fz h.size j) ∧ Rel cx' s (h.push (.cells arr el fr)) ∧ Ext cx s h cx' s (h.push (.cells arr el fr)) := by
  refine ⟨{ cx with fz := fun b o => cx.fz b o ∨ (b = h.size ∧ o < arr.size) }, fun j hj => .inr ⟨rfl, hj⟩, ?_⟩
  have hcell : ∀ b o, cx.fz b o → cellAt (h.push (.cells arr el fr)) b o = cellAt h b o := fun b o hf => cellAt_push_lt (cellAt_lt (R.fzl b o hf))
  have later : Later cx h s.L { cx with fz := fun b o => cx.fz b o ∨ (b = h.size ∧ o < arr.size) } (h.push (.cells arr el fr)) s.L :=
    ⟨fun _ h => h, fun _ _ => rfl, fun _ _ => .inl rfl, fun _ _ h => .inl h, hcell⟩
  have heap : ∀ b, b < h.size → (h.push (.cells arr el fr))[b]? = h[b]? := fun b hb => by rw [Array.getElem?_push_lt hb, Array.getElem?_eq_getElem hb]
  refine ⟨⟨R.wf, R.gl, fun l o hg => ?_, R.inj, fun b o hf => ?_, fun l cs z ty hg o hf => ?_, fun l e hg o hf => ?_⟩, later, by simp, fun b hb _ => heap b hb, fun b hb => .inl hb, fun b o hf => ?_⟩
  · have h1 := R.obj l o hg
    have h2 := heap _ (R.own_lt ⟨l, o, hg, rfl⟩)
    cases o with
    | c cs z ty =>
      obtain ⟨arr', el', lo, hi, a1, a2, a3, a4, a5⟩ := h1
      exact ⟨arr', el', lo, hi, h2.trans a1, a2, a3, fun j hj => (a4 j hj).later later, a5⟩
    | t e =>
      obtain ⟨arr', el', lo, hi, a1, a2⟩ := h1
      exact ⟨arr', el', lo, hi, h2.trans a1, a2⟩
    | x o => exact ⟨h1.1, XRep.later later h2 h1.2⟩
  · rcases hf with hf | ⟨rfl, hf⟩
    · rw [hcell b o hf]; exact R.fzl b o hf
    · rw [cellAt_push_new]; simp [hf]
  · rcases hf with hf | ⟨hf, _⟩
    · exact R.fzo l cs z ty hg o hf
    · have := R.own_lt ⟨l, _, hg, rfl⟩; simp only [blk] at this; have hf' : (cx.r l).b = h.size := hf; omega
  · rcases hf with hf | ⟨hf, _⟩
    · exact R.fzt l e hg o hf
    · have := R.own_lt ⟨l, _, hg, rfl⟩; simp only [blk] at this; have hf' : (cx.tk l).b = h.size := hf; omega
  · rcases hf with hf | ⟨rfl, _⟩
    · exact .inl hf
    · exact .inr (.inr (Nat.le_refl _))

/-- An object's cells are others now (its block's row: arr'). -/
theorem Rel.upd {cx : Cx} {s : St} {h : Array Obj} (R : Rel cx s h) {l : Nat} {cs : List V} {z : Nat} {ty : Option Nat} (hg : s.get l = some (.c cs z ty)) (cs' : List V) (z' : Nat) (arr' : Array Value) (el : TypeId) (lo hi : Nat) (hel : ∃ arr0 fr0, h[(cx.r l).b]? = some (.cells arr0 el fr0)) (hfr : ∀ T, ty = some T → lo = hi ∨ hi ≤ z')
    (hs : (cx.r l).d + cs'.length ≤ arr'.size) (hk : cs'.length = cs.length) (hz : arr'.size = (cx.r l).z)
    (h1 : ∀ j, j < cs'.length → (arr'.getD ((cx.r l).d + j) undef).oneCell' = true) (hv : ∀ j, j < cs'.length → VRep cx h s.L (cs'.getD j .bad) (arr'.getD ((cx.r l).d + j) undef))
    (hf : ∀ j, (cx.r l).d + z' ≤ j → j < arr'.size → ¬ (lo ≤ j ∧ j < hi)) (h' : Array Obj) (hh : h' = h.setIfInBounds (cx.r l).b (.cells arr' el (lo, hi))) :
    Rel cx (s.put l (some (.c cs' z' ty))) h' ∧ Ext cx s h cx (s.put l (some (.c cs' z' ty))) h' := by
  subst hh
  have hb := R.own_lt ⟨l, _, hg, rfl⟩
  simp only [blk] at hb
  have hl := R.name_L hg
  have hfz := R.fzo l cs z ty hg
  refine R.change l (.c cs' z' ty) (cx.r l).b (by simp [blk]) (fun _ h => h) R.gl hl (by simp) (fun l' hl' o ho => by rwa [St.get_put_ne _ _ _ _ hl'] at ho)
    (fun _ _ => rfl) (fun _ _ => rfl) (fun _ => rfl) (fun _ => .inl rfl) (by simp) (fun b hb' hne => by rw [Array.getElem?_setIfInBounds_ne (Ne.symm hne)])
    (.inr ⟨l, _, hg, rfl, .inl rfl⟩) (fun _ _ h => h) (fun o hf => (hfz o hf).elim) (fun _ _ h => .inl h) (fun L => ?_) (fun _ _ _ _ o hf => hfz o hf) (fun _ he => by cases he)
  obtain ⟨_, _, _, _, hb0, ⟨_, hk0, _, hty⟩, _⟩ := R.obj l _ hg
  obtain ⟨arr0, fr0, hel⟩ := hel
  rw [hb0] at hel; cases hel
  exact ⟨arr', el, lo, hi, by simp [hb], ⟨hs, by rw [hk, hk0], hz, fun T hT => ⟨(hty T hT).1, (hty T hT).2.1, hfr T hT⟩⟩, h1, fun j hj => (hv j hj).later L, hf⟩


/-- A new row behind a new token: its first e cells are taken. -/
theorem Rel.tokNew {cx : Cx} {s : St} {h : Array Obj} (R : Rel cx s h) (arr : Array Value) (el : TypeId) (e : Nat) (he : e ≤ arr.size) :
    ∃ cx', cx'.tk s.n = ⟨h.size, 0, e, arr.size⟩ ∧ (∀ j, j < e → cx'.fz h.size j) ∧ Rel cx' (s.new (.t e)) (h.push (.cells arr el)) ∧ Ext cx s h cx' (s.new (.t e)) (h.push (.cells arr el)) := by
  refine ⟨{ cx with tk := fun l => if l = s.n then ⟨h.size, 0, e, arr.size⟩ else cx.tk l, fz := fun b o => cx.fz b o ∨ (b = h.size ∧ o < e) }, by simp, fun j hj => .inr ⟨rfl, hj⟩, ?_⟩
  have hfz : ∀ o, ¬ cx.fz h.size o := fun o hf => by have := cellAt_lt (R.fzl _ _ hf); omega
  refine R.change s.n (.t e) h.size (by simp [blk]) (fun _ h => St.new_L _ h) (fun l hl => Nat.lt_succ_of_lt (R.gl l hl)) (St.new_L0 _ R.gl) (by simp) (fun l hl o hg => by rwa [St.get_new_ne _ _ _ hl] at hg)
    (fun l hl => rfl) (fun l hl => by simp [hl]) (fun hl => (Nat.lt_irrefl _ hl.1).elim) (fun hl => (Nat.lt_irrefl _ hl.1).elim) (by simp)
    (fun b hb _ => by rw [Array.getElem?_push_lt hb, Array.getElem?_eq_getElem hb]) (.inl (Nat.le_refl _)) (fun _ _ h => .inl h) (fun o hf => (hfz o hf).elim) (fun b o h => ?_)
    (fun L => ?_) (fun _ _ _ h => by cases h) (fun e' h' o hf => ?_)
  · rcases h with h | ⟨rfl, h⟩
    · exact .inl h
    · exact .inr ⟨rfl, by rw [cellAt_push_new]; simp; omega⟩
  · exact ⟨arr, el, 0, 0, by simp, by simp, by simpa using he, fun j _ _ => by omega⟩
  · cases h'
    rcases hf with hf | ⟨_, hf⟩
    · exact (hfz o hf).elim
    · simpa using hf

/-- A token whose row moves to a new block, and grows. -/
theorem Rel.tokMove {cx : Cx} {s : St} {h : Array Obj} (R : Rel cx s h) {k e : Nat} (hg : s.get k = some (.t e)) (arr : Array Value) (el : TypeId) (e' : Nat) (he : e' ≤ arr.size) (hlt : e < e') :
    ∃ cx', cx'.tk k = ⟨h.size, 0, e', arr.size⟩ ∧ (∀ j, j < e' → cx'.fz h.size j) ∧ Rel cx' (s.put k (some (.t e'))) (h.push (.cells arr el)) ∧ Ext cx s h cx' (s.put k (some (.t e'))) (h.push (.cells arr el)) := by
  refine ⟨{ cx with tk := fun l => if l = k then ⟨h.size, 0, e', arr.size⟩ else cx.tk l, fz := fun b o => cx.fz b o ∨ (b = h.size ∧ o < e') }, by simp, fun j hj => .inr ⟨rfl, hj⟩, ?_⟩
  have hfz : ∀ o, ¬ cx.fz h.size o := fun o hf => by have := cellAt_lt (R.fzl _ _ hf); omega
  have hk := R.name_L hg
  obtain ⟨arr0, el0, lo0, hi0, -, he0, -⟩ := R.obj k _ hg
  refine R.change k (.t e') h.size (by simp [blk]) (fun _ h => h) R.gl hk (by simp) (fun l hl o ho => by rwa [St.get_put_ne _ _ _ _ hl] at ho)
    (fun l hl => rfl) (fun l hl => by simp [hl]) (fun _ => rfl) (fun _ => .inr (by simp [he0, hlt])) (by simp)
    (fun b hb _ => by rw [Array.getElem?_push_lt hb, Array.getElem?_eq_getElem hb]) (.inl (Nat.le_refl _)) (fun _ _ h => .inl h) (fun o hf => (hfz o hf).elim) (fun b o h => ?_)
    (fun L => ?_) (fun _ _ _ h => by cases h) (fun e1 h' o hf => ?_)
  · rcases h with h | ⟨rfl, h⟩
    · exact .inl h
    · exact .inr ⟨rfl, by rw [cellAt_push_new]; simp; omega⟩
  · exact ⟨arr, el, 0, 0, by simp, by simp, by simpa using he, fun j _ _ => by omega⟩
  · cases h'
    rcases hf with hf | ⟨_, hf⟩
    · exact (hfz o hf).elim
    · simpa using hf

/-- A token whose row grows where it lies. -/
theorem Rel.tokGrow {cx : Cx} {s : St} {h : Array Obj} (R : Rel cx s h) {k e : Nat} (hg : s.get k = some (.t e)) (arr arr' : Array Value) (el : TypeId) (lo hi : Nat)
    (hb : h[(cx.tk k).b]? = some (.cells arr el (lo, hi))) (hsz : arr'.size = arr.size) (hold : ∀ j, j < (cx.tk k).d + e → arr'[j]? = arr[j]?)
    (e' : Nat) (he : (cx.tk k).d + e' ≤ arr.size) (hlt : e < e') (h' : Array Obj) (hh : h' = h.setIfInBounds (cx.tk k).b (.cells arr' el (lo, hi))) :
    ∃ cx', cx'.tk k = ⟨(cx.tk k).b, (cx.tk k).d, e', (cx.tk k).z⟩ ∧ (∀ j, j < (cx.tk k).d + e' → (cx.tk k).d + e ≤ j → cx'.fz (cx.tk k).b j) ∧ Rel cx' (s.put k (some (.t e'))) h' ∧ Ext cx s h cx' (s.put k (some (.t e'))) h' := by
  subst hh
  refine ⟨{ cx with tk := fun l => if l = k then ⟨(cx.tk k).b, (cx.tk k).d, e', (cx.tk k).z⟩ else cx.tk l, fz := fun b o => cx.fz b o ∨ (b = (cx.tk k).b ∧ (cx.tk k).d + e ≤ o ∧ o < (cx.tk k).d + e') }, by simp, fun j hj hj' => .inr ⟨rfl, hj', hj⟩, ?_⟩
  have hk := R.name_L hg
  obtain ⟨arr0, el0, lo0, hi0, h0, he0, hs0, hf0⟩ := R.obj k _ hg
  rw [hb] at h0; cases h0
  have hbl : (cx.tk k).b < h.size := by have := R.own_lt ⟨k, _, hg, rfl⟩; simpa [blk] using this
  have hnew : ∀ o, cellAt (h.setIfInBounds (cx.tk k).b (.cells arr' el (lo, hi))) (cx.tk k).b o = arr'[o]? := fun o => by simp [cellAt, hbl]
  refine R.change k (.t e') (cx.tk k).b (by simp [blk]) (fun _ h => h) R.gl hk (by simp) (fun l hl o ho => by rwa [St.get_put_ne _ _ _ _ hl] at ho)
    (fun l hl => rfl) (fun l hl => by simp [hl]) (fun _ => rfl) (fun _ => .inr (by simp [he0, hlt])) (by simp)
    (fun b hb' hne => by rw [Array.getElem?_setIfInBounds_ne (Ne.symm hne)]) (.inr ⟨k, _, hg, rfl, .inl rfl⟩) (fun _ _ h => .inl h) (fun o hf => ?_) (fun b o h => ?_)
    (fun L => ?_) (fun _ _ _ h => by cases h) (fun e1 h' o hf => ?_)
  · rw [hnew, hold o (R.fzt k e hg o hf), cellAt_of hb]
  · rcases h with h | ⟨rfl, h1, h2⟩
    · exact .inl h
    · exact .inr ⟨rfl, by rw [hnew]; simp; omega⟩
  · exact ⟨arr', el, lo, hi, by simp [hbl], by simp, ⟨by simpa [hsz] using he, by simp [hsz, hs0.2]⟩, fun j hj hj' => hf0 j (by simp at hj; omega) (by omega)⟩
  · cases h'
    rcases hf with hf | ⟨_, _, hf⟩
    · have := R.fzt k e hg o hf; simp; omega
    · simpa using hf

/-- What is appended to an object's row in place, beyond the cells that are known: a new name for it. -/
theorem Rel.regrow {cx : Cx} {s : St} {h : Array Obj} (R : Rel cx s h) {l : Nat} {cs : List V} {z : Nat} {ty : Option Nat} (hg : s.get l = some (.c cs z ty)) (d : Nat) (cs' : List V) (z' : Nat) (ty' : Option Nat) (hty' : ∀ T, ty' = some T → ty = some T ∧ d = 0) (arr' : Array Value) (el : TypeId) (lo hi : Nat) (hel : ∃ arr0 fr0, h[(cx.r l).b]? = some (.cells arr0 el fr0)) (hfr : ∀ T, ty' = some T → lo = hi ∨ hi ≤ z')
    (hs : (cx.r l).d + d + cs'.length ≤ arr'.size) (hz : arr'.size = (cx.r l).z)
    (h1 : ∀ j, j < cs'.length → (arr'.getD ((cx.r l).d + d + j) undef).oneCell' = true) (hv : ∀ j, j < cs'.length → VRep cx h s.L (cs'.getD j .bad) (arr'.getD ((cx.r l).d + d + j) undef))
    (hf : ∀ j, (cx.r l).d + d + z' ≤ j → j < arr'.size → ¬ (lo ≤ j ∧ j < hi)) (h' : Array Obj) (hh : h' = h.setIfInBounds (cx.r l).b (.cells arr' el (lo, hi))) :
    ∃ cx', cx'.r s.n = ⟨(cx.r l).b, (cx.r l).d + d, cs'.length, (cx.r l).z⟩ ∧ Rel cx' ((s.put l none).new (.c cs' z' ty')) h' ∧ Ext cx s h cx' ((s.put l none).new (.c cs' z' ty')) h' := by
  subst hh
  have hb := R.own_lt ⟨l, _, hg, rfl⟩
  simp only [blk] at hb
  have hl := R.name_L hg
  have hfz := R.fzo l cs z ty hg
  refine ⟨{ cx with r := fun i => if i = s.n then ⟨(cx.r l).b, (cx.r l).d + d, cs'.length, (cx.r l).z⟩ else cx.r i }, by simp, ?_⟩
  refine R.change s.n (.c cs' z' ty') (cx.r l).b (by simp [blk]) (fun _ h => St.new_L (s := s.put l none) _ h) (fun l hl => Nat.lt_succ_of_lt (R.gl l hl)) (St.new_L0 (s := s.put l none) _ R.gl) (St.get_new_same (s.put l none) (.c cs' z' ty')) (fun l' hl' o ho => ?_)
    (fun _ hl' => by simp [hl']) (fun _ _ => rfl) (fun hl' => (Nat.lt_irrefl _ hl'.1).elim) (fun _ => .inl rfl) (by simp) (fun b hb' hne => by rw [Array.getElem?_setIfInBounds_ne (Ne.symm hne)])
    (.inr ⟨l, _, hg, rfl, .inr ?_⟩) (fun _ _ h => h) (fun o hf => (hfz o hf).elim) (fun _ _ h => .inl h) (fun L => ?_) (fun _ _ _ _ o hf => hfz o hf) (fun _ he => by cases he)
  · rw [St.get_new_ne _ _ _ (by simpa using hl')] at ho
    by_cases e : l' = l
    · subst e; simp at ho
    · rwa [St.get_put_ne _ _ _ _ e] at ho
  · rw [St.get_new_ne _ _ _ (by have := hl.1; simp; omega)]; simp
  · obtain ⟨_, _, _, _, hb0, ⟨_, _, _, hty⟩, _⟩ := R.obj l _ hg
    obtain ⟨arr0, fr0, hel⟩ := hel
    rw [hb0] at hel; cases hel
    exact ⟨arr', el, lo, hi, by simp [hb], ⟨by simpa [Nat.add_assoc] using hs, by simp, by simp [hz], fun T hT => by
      obtain ⟨h1, hd⟩ := hty' T hT
      have := hty T h1; exact ⟨this.1, by simp [this.2.1, hd], hfr T hT⟩⟩, by simpa [Nat.add_assoc] using h1, fun j hj => by simpa [Nat.add_assoc] using (hv j hj).later L, by simpa [Nat.add_assoc] using hf⟩

/-- A new object that is no row of cells. -/
theorem Rel.newX {cx : Cx} {s : St} {h : Array Obj} (R : Rel cx s h) (o : Ox) (x : Obj) (hrep : ∀ cx', cx'.r s.n = ⟨h.size, 0, 0, 0⟩ → Later cx h s.L cx' (h.push x) (s.new (.x o)).L → XRep cx' (h.push x) (s.new (.x o)).L h.size o) :
    ∃ cx', cx'.r s.n = ⟨h.size, 0, 0, 0⟩ ∧ Rel cx' (s.new (.x o)) (h.push x) ∧ Ext cx s h cx' (s.new (.x o)) (h.push x) := by
  refine ⟨{ cx with r := fun l => if l = s.n then ⟨h.size, 0, 0, 0⟩ else cx.r l }, by simp, ?_⟩
  have hfz : ∀ o, ¬ cx.fz h.size o := fun o hf => by have := cellAt_lt (R.fzl _ _ hf); omega
  refine R.change s.n (.x o) h.size (by simp [blk]) (fun _ h => St.new_L _ h) (fun l hl => Nat.lt_succ_of_lt (R.gl l hl)) (St.new_L0 _ R.gl) (by simp) (fun l hl o hg => by rwa [St.get_new_ne _ _ _ hl] at hg)
    (fun l hl => by simp [hl]) (fun _ _ => rfl) (fun hl => (Nat.lt_irrefl _ hl.1).elim) (fun _ => .inl rfl) (by simp)
    (fun b hb _ => by rw [Array.getElem?_push_lt hb, Array.getElem?_eq_getElem hb]) (.inl (Nat.le_refl _)) (fun _ _ h => h) (fun o hf => (hfz o hf).elim) (fun _ _ h => .inl h)
    (fun L => ?_) (fun _ _ _ he => by cases he) (fun _ he => by cases he)
  have := hrep _ (by simp) L
  simpa [ORep] using this

/-- Such an object is another one now. -/
theorem Rel.updX {cx : Cx} {s : St} {h : Array Obj} (R : Rel cx s h) {l : Nat} {o : Ox} (hg : s.get l = some (.x o)) (o' : Ox) (x : Obj) (hrep : Later cx h s.L cx (h.setIfInBounds (cx.r l).b x) s.L → XRep cx (h.setIfInBounds (cx.r l).b x) s.L (cx.r l).b o')
    (hx : ∀ c el fr, x ≠ .cells c el fr) : Rel cx (s.put l (some (.x o'))) (h.setIfInBounds (cx.r l).b x) ∧ Ext cx s h cx (s.put l (some (.x o'))) (h.setIfInBounds (cx.r l).b x) := by
  have hb := R.own_lt ⟨l, _, hg, rfl⟩
  simp only [blk] at hb
  have hl := R.name_L hg
  have hfz : ∀ o, ¬ cx.fz (cx.r l).b o := fun i hf => by
    have h1 := R.fzl _ _ hf
    have h2 : XRep cx h s.L (cx.r l).b o := (R.obj l _ hg).2
    unfold cellAt at h1
    cases o with
    | mp es clk => obtain ⟨arr, h3, -⟩ := h2; rw [h3] at h1; cases h1
    | it m since seen last => rw [h2.1] at h1; cases h1
    | lp st pend f e ps as bd ds => obtain ⟨tmps, h3, -⟩ := h2; rw [h3] at h1; cases h1
    | df taken => have h3 : h[(cx.r l).b]? = _ := h2; rw [h3] at h1; cases h1
  refine R.change l (.x o') (cx.r l).b (by simp [blk]) (fun _ h => h) R.gl hl (by simp) (fun l' hl' o ho => by rwa [St.get_put_ne _ _ _ _ hl'] at ho)
    (fun _ _ => rfl) (fun _ _ => rfl) (fun _ => rfl) (fun _ => .inl rfl) (by simp) (fun b hb' hne => by rw [Array.getElem?_setIfInBounds_ne (Ne.symm hne)])
    (.inr ⟨l, _, hg, rfl, .inl rfl⟩) (fun _ _ h => h) (fun o hf => (hfz o hf).elim) (fun _ _ h => .inl h) (fun L => ?_) (fun _ _ _ he => by cases he) (fun _ he => by cases he)
  exact ⟨(R.obj l _ hg).1, hrep L⟩

end Rf
