/-
  What the abstract machine's values and heap stand for in a world of the model, and that this lasts while the world grows.
-/
import Derived.Test.YtklgkdehnaecnaaDoorRfA
import Derived.Laws.Sem
set_option linter.all false
namespace Rf
open Go

def cellAt (h : Array Obj) (b o : Nat) : Option Value :=
  match h[b]? with
  | some (.cells c _ _) => c[o]?
  | _ => none

theorem cell?_eq (w : World) (b o : Nat) : w.cell? ⟨b, o, none⟩ = cellAt w.heap b o := by
  unfold World.cell? cellAt
  split <;> simp_all

/-- where a token's row lies: its block, where it begins, how many cells are taken -/
structure Tk where
  b : Nat
  d : Nat
  e : Nat
  z : Nat
  deriving Inhabited

/-- where an object lies: its block, where it begins, how many cells of it are known, how many its block has -/
structure Rw where
  b : Nat
  d : Nat
  k : Nat
  z : Nat
  deriving Inhabited

/-- r: where an object lies; tk: a token; fz: the cells that are never written again -/
structure Cx where
  r : Nat → Rw
  tk : Nat → Tk
  fz : Nat → Nat → Prop

def capR (cx : Cx) (n : Nat → Prop) (c : Cap) (b d sz len cells cap : Nat) : Prop :=
  match c with
  | .u => True
  | .z => True
  | .x c => cap = c
  | .t k => n k ∧ cells ≤ (cx.tk k).e ∧ (cells = (cx.tk k).e → b = (cx.tk k).b ∧ d = (cx.tk k).d ∧ d + cap * sz ≤ (cx.tk k).z) ∧ len ≤ cap

def capN : Cap → Prop
  | .u => True
  | .z => False
  | .x c => c = 0
  | .t _ => False

/-- a slice's capacity, and what is known of its object's cells -/
def slR (cx : Cx) (sz l o : Nat) (c : Option Nat) (cap : Nat) : Prop :=
  match c with
  | some c => cap = c ∧ o + c * sz ≤ (cx.r l).k
  | none => (cx.r l).k ≤ o + cap * sz ∧ (cx.r l).d + o + cap * sz ≤ (cx.r l).z

inductive VRep (cx : Cx) (h : Array Obj) (n : Nat → Prop) : V → Value → Prop
  | bad (v : Value) : VRep cx h n .bad v
  | b (x : Bool) : VRep cx h n (.b x) (.bool x)
  | i (k : IntKind) (x : Int) : VRep cx h n (.i k x) (.int k x)
  | s (l : List UInt8) : VRep cx h n (.s l) (.string ⟨l.toArray⟩)
  | np : VRep cx h n .np (.pointer none)
  | p (l o : Nat) (hl : n l) : VRep cx h n (.p l o) (.pointer (some ⟨(cx.r l).b, (cx.r l).d + o, none⟩))
  | q (v : V) (o b d : Nat) (f : Nat → Value) (h1 : ∀ j, j < v.cells.length → (f j).oneCell' = true) (hz : ∀ j, j < v.cells.length → cx.fz b (d + j))
      (hc : ∀ j, j < v.cells.length → cellAt h b (d + j) = some (f j))
      (hv : ∀ j, j < v.cells.length → VRep cx h n (v.cells.getD j .bad) (f j)) :
      VRep cx h n (.q v o) (.pointer (some ⟨b, d + o, none⟩))
  | ns : VRep cx h n .ns (.slice none 0 0)
  | sl (sz l o k : Nat) (c : Option Nat) (cap : Nat) (hl : n l) (hk : k ≤ cap) (hc : slR cx sz l o c cap) :
      VRep cx h n (.sl sz l o k c) (.slice (some ⟨(cx.r l).b, (cx.r l).d + o, none⟩) k cap)
  | pu0 (sz : Nat) (c : Cap) (hc : capN c) : VRep cx h n (.pu sz [] c) (.slice none 0 0)
  | pu (sz : Nat) (xs : List V) (c : Cap) (a : Addr) (cap : Nat) (f : Nat → Nat → Value)
      (ha : xs ≠ [] → a.spot = none)
      (h1 : ∀ i j, i < xs.length → j < sz → (f i j).oneCell' = true)
      (hs : ∀ i, i < xs.length → (xs.getD i .bad).cells.length = sz)
      (hz : ∀ i j, i < xs.length → j < sz → cx.fz a.block (a.off + i * sz + j))
      (hc : ∀ i j, i < xs.length → j < sz → cellAt h a.block (a.off + i * sz + j) = some (f i j))
      (hv : ∀ i j, i < xs.length → j < sz → VRep cx h n ((xs.getD i .bad).cells.getD j .bad) (f i j))
      (hl : xs.length ≤ cap) (hr : capR cx n c a.block a.off sz xs.length (xs.length * sz) cap) (hp : ∀ k, c = .t k → a.spot = none) :
      VRep cx h n (.pu sz xs c) (.slice (some a) xs.length cap)
  | tp (b t : Nat) : VRep cx h n (.tp b t) (.pointer (some ⟨b, t, none⟩))
  | nm : VRep cx h n .nm (.map none)
  | m (l : Nat) (hl : n l) : VRep cx h n (.m l) (.map (some (cx.r l).b))
  | fn (f : Nat) (cs : List V) (vs : Array Value) (hs : vs.size = cs.length)
      (hv : ∀ j, j < cs.length → VRep cx h n (cs.getD j .bad) (vs.getD j undef)) : VRep cx h n (.fn f cs) (.func (.func f) #[] vs)
  | nf : VRep cx h n .nf .nilFunc
  | ifc (t : Nat) (v : V) (x : Value) (hv : VRep cx h n v x) : VRep cx h n (.ifc t v) (.iface t x)
  | ni : VRep cx h n .ni .nilIface
  | ag (cs : List V) (vs : Array Value) (hs : vs.size = cs.length) (h1 : ∀ j, j < cs.length → (vs.getD j undef).oneCell' = true)
      (hv : ∀ j, j < cs.length → VRep cx h n (cs.getD j .bad) (vs.getD j undef)) : VRep cx h n (.ag cs) (.agg vs)
  | tu (cs : List V) (vs : Array Value) (hs : vs.size = cs.length)
      (hv : ∀ j, j < cs.length → VRep cx h n (cs.getD j .bad) (vs.getD j undef)) : VRep cx h n (.tu cs) (.tuple vs)
  | yl (l : Nat) (hl : n l) : VRep cx h n (.yl l) (.func (.yield (cx.r l).b) #[] #[])
  | se (sz l : Nat) (a : Addr) (cap : Nat) (hl : n l) (hc : cap = 0 ∨ (a = ⟨(cx.r l).b, (cx.r l).d + (cx.r l).k, none⟩ ∧ (cx.r l).d + (cx.r l).k + cap * sz ≤ (cx.r l).z)) : VRep cx h n (.se sz l) (.slice (some a) 0 cap)

/-- The world has grown as far as values see: -/
structure Later (cx : Cx) (h : Array Obj) (n : Nat → Prop) (cx' : Cx) (h' : Array Obj) (n' : Nat → Prop) : Prop where
  nle : ∀ l, n l → n' l
  r : ∀ l, n l → cx'.r l = cx.r l
  tk : ∀ l, n l → cx'.tk l = cx.tk l ∨ (cx.tk l).e < (cx'.tk l).e
  fz : ∀ b o, cx.fz b o → cx'.fz b o
  cell : ∀ b o, cx.fz b o → cellAt h' b o = cellAt h b o

theorem Later.refl (cx : Cx) (h : Array Obj) (n : Nat → Prop) : Later cx h n cx h n :=
  ⟨fun _ h => h, fun _ _ => rfl, fun _ _ => .inl rfl, fun _ _ h => h, fun _ _ _ => rfl⟩

theorem Later.trans {cx cx' cx'' : Cx} {h h' h'' : Array Obj} {n n' n'' : Nat → Prop} (a : Later cx h n cx' h' n') (b : Later cx' h' n' cx'' h'' n'') :
    Later cx h n cx'' h'' n'' where
  nle := fun l hl => b.nle l (a.nle l hl)
  r := fun l hl => by rw [b.r l (a.nle l hl), a.r l hl]
  tk := fun l hl => by
    rcases b.tk l (a.nle l hl) with h1 | h1 <;> rcases a.tk l hl with h2 | h2
    · exact .inl (by rw [h1, h2])
    · exact .inr (by rw [h1]; exact h2)
    · exact .inr (by rw [← h2]; exact h1)
    · exact .inr (Nat.lt_trans h2 h1)
  fz := fun b' o hf => b.fz _ _ (a.fz _ _ hf)
  cell := fun b' o hf => by rw [b.cell _ _ (a.fz _ _ hf), a.cell _ _ hf]

theorem VRep.later {cx cx' : Cx} {h h' : Array Obj} {n n' : Nat → Prop} (L : Later cx h n cx' h' n') {v : V} {x : Value} (hv : VRep cx h n v x) :
    VRep cx' h' n' v x := by
  induction hv with
  | bad v => exact .bad v
  | b x => exact .b x
  | i k x => exact .i k x
  | s l => exact .s l
  | np => exact .np
  | p l o hl => rw [← L.r l hl]; exact .p l o (L.nle _ hl)
  | q v o b d f h1 hz hc _ ih =>
    exact .q v o b d f h1 (fun j hj => L.fz _ _ (hz j hj)) (fun j hj => by rw [L.cell _ _ (hz j hj)]; exact hc j hj) (fun j hj => ih j hj)
  | ns => exact .ns
  | sl sz l o k c cap hl hk hc => rw [← L.r l hl]; exact .sl sz l o k c cap (L.nle _ hl) hk (by unfold slR at hc ⊢; rw [L.r l hl]; exact hc)
  | pu0 sz c hc => exact .pu0 sz c hc
  | pu sz xs c a cap f ha h1 hs hz hc _ hl hr hp ih =>
    refine .pu sz xs c a cap f ha h1 hs (fun i j hi hj => L.fz _ _ (hz i j hi hj)) (fun i j hi hj => by rw [L.cell _ _ (hz i j hi hj)]; exact hc i j hi hj) (fun i j hi hj => ih i j hi hj) hl ?_ hp
    cases c with
    | u => trivial
    | z => trivial
    | x c => exact hr
    | t k =>
      obtain ⟨h1, h2, h3, h4⟩ := hr
      rcases L.tk k h1 with e | e
      · refine ⟨L.nle _ h1, by rw [e]; exact h2, by rw [e]; exact h3, h4⟩
      · refine ⟨L.nle _ h1, by omega, fun h => by omega, h4⟩
  | tp b t => exact .tp b t
  | nm => exact .nm
  | m l hl => rw [← L.r l hl]; exact .m l (L.nle _ hl)
  | fn f cs vs hs _ ih => exact .fn f cs vs hs ih
  | nf => exact .nf
  | ifc t v x _ ih => exact .ifc t v x ih
  | ni => exact .ni
  | ag cs vs hs h1 _ ih => exact .ag cs vs hs h1 ih
  | tu cs vs hs _ ih => exact .tu cs vs hs ih
  | yl l hl => rw [← L.r l hl]; exact .yl l (L.nle _ hl)
  | se sz l a cap hl hc => exact .se sz l a cap (L.nle _ hl) (by rw [L.r l hl]; exact hc)

inductive All2 {α β : Type} (R : α → β → Prop) : List α → List β → Prop
  | nil : All2 R [] []
  | cons {a : α} {b : β} {l : List α} {m : List β} (h : R a b) (t : All2 R l m) : All2 R (a :: l) (b :: m)

theorem All2.mono {α β : Type} {R R' : α → β → Prop} (hr : ∀ a b, R a b → R' a b) : ∀ {l : List α} {m : List β}, All2 R l m → All2 R' l m
  | _, _, .nil => .nil
  | _, _, .cons h t => .cons (hr _ _ h) (t.mono hr)
theorem All2.inv_cons {α β : Type} {R : α → β → Prop} {a : α} {l : List α} {m : List β} (h : All2 R (a :: l) m) : ∃ b m', m = b :: m' ∧ R a b ∧ All2 R l m' := by
  cases h with
  | cons h t => exact ⟨_, _, rfl, h, t⟩
theorem All2.inv_nil {α β : Type} {R : α → β → Prop} {m : List β} (h : All2 R [] m) : m = [] := by cases h; rfl
theorem All2.append {α β : Type} {R : α → β → Prop} : ∀ {l l' : List α} {m m' : List β}, All2 R l m → All2 R l' m' → All2 R (l ++ l') (m ++ m')
  | _, _, _, _, .nil, h => h
  | _, _, _, _, .cons h t, h' => .cons h (t.append h')
theorem All2.len {α β : Type} {R : α → β → Prop} : ∀ {l : List α} {m : List β}, All2 R l m → l.length = m.length
  | _, _, .nil => rfl
  | _, _, .cons _ t => by simp [t.len]

/-- an entry of a map -/
def ER (cx : Cx) (h : Array Obj) (n : Nat → Prop) (x : V × V × Nat) (y : MapEntry) : Prop := y.born = x.2.2 ∧ VRep cx h n x.1 y.key ∧ VRep cx h n x.2.1 y.val

/-- what is no row of cells -/
def XRep (cx : Cx) (h : Array Obj) (n : Nat → Prop) (b : Nat) : Ox → Prop
  | .mp es clk => ∃ l : List MapEntry, h[b]? = some (.map l.toArray clk) ∧ All2 (ER cx h n) es l
  | .it m since seen last => h[b]? = some (.mapIter (m.map fun l => (cx.r l).b) since seen.toArray last) ∧ ∀ k, m = some k → n k
  | .lp st pend f e ps as bd ds => ∃ tmps : Array Value, h[b]? = some (.loop ⟨st, pend, f, tmps, ps.toArray, as, bd, (cx.r ds).b⟩) ∧ n ds ∧
      ∃ el : List V, el.length = e.m ∧ (∀ t, e.get t = el.getD t unV) ∧ el.length = tmps.size ∧ ∀ t, VRep cx h n (el.getD t unV) (tmps.getD t undef)
  | .df taken => h[b]? = some (.deferred (if taken then none else some []))

theorem XRep.later {cx cx' : Cx} {h h' : Array Obj} {n n' : Nat → Prop} (L : Later cx h n cx' h' n') {b : Nat} (hb : h'[b]? = h[b]?) {o : Ox} (H : XRep cx h n b o) : XRep cx' h' n' b o := by
  cases o with
  | mp es clk =>
    obtain ⟨l, h1, h2⟩ := H
    exact ⟨l, by rw [hb, h1], h2.mono fun x y hx => ⟨hx.1, hx.2.1.later L, hx.2.2.later L⟩⟩
  | it m since seen last =>
    obtain ⟨h1, h2⟩ := H
    refine ⟨?_, fun k hk => L.nle _ (h2 k hk)⟩
    rw [hb, h1]
    cases m with
    | none => rfl
    | some k => simp only [Option.map_some]; rw [L.r k (h2 k rfl)]
  | lp st pend f e ps as bd ds =>
    obtain ⟨tmps, h1, h2, el, h3, h4, h5, h6⟩ := H
    exact ⟨tmps, by rw [hb, h1, L.r ds h2], L.nle _ h2, el, h3, h4, h5, fun t => (h6 t).later L⟩
  | df taken => exact hb.trans H

/-- What an object is: its cells (its block may be longer), of which those from z on are not frozen; a token. -/
def ORep (cx : Cx) (h : Array Obj) (n : Nat → Prop) (l : Nat) : O → Prop
  | .c cs z t => ∃ arr el lo hi, h[(cx.r l).b]? = some (.cells arr el (lo, hi)) ∧ ((cx.r l).d + cs.length ≤ arr.size ∧ cs.length = (cx.r l).k ∧ arr.size = (cx.r l).z ∧ ∀ T, t = some T → el = T ∧ (cx.r l).d = 0 ∧ (lo = hi ∨ hi ≤ z)) ∧
      (∀ j, j < cs.length → (arr.getD ((cx.r l).d + j) undef).oneCell' = true) ∧
      (∀ j, j < cs.length → VRep cx h n (cs.getD j .bad) (arr.getD ((cx.r l).d + j) undef)) ∧
      (∀ j, (cx.r l).d + z ≤ j → j < arr.size → ¬ (lo ≤ j ∧ j < hi))
  | .t e => ∃ arr el lo hi, h[(cx.tk l).b]? = some (.cells arr el (lo, hi)) ∧ (cx.tk l).e = e ∧ ((cx.tk l).d + e ≤ arr.size ∧ arr.size = (cx.tk l).z) ∧
      (∀ j, (cx.tk l).d + e ≤ j → j < arr.size → ¬ (lo ≤ j ∧ j < hi))
  | .x o => (cx.r l).d = 0 ∧ XRep cx h n (cx.r l).b o

def blk (cx : Cx) (l : Nat) : O → Nat
  | .c _ _ _ => (cx.r l).b
  | .t _ => (cx.tk l).b
  | .x _ => (cx.r l).b

theorem XRep.some {cx : Cx} {h : Array Obj} {n : Nat → Prop} {b : Nat} {o : Ox} (H : XRep cx h n b o) : ∃ x, h[b]? = some x := by
  cases o with
  | mp es clk => obtain ⟨arr, h1, -⟩ := H; exact ⟨_, h1⟩
  | it m since seen last => exact ⟨_, H.1⟩
  | lp st pend f e ps as bd ds => obtain ⟨tmps, h1, -⟩ := H; exact ⟨_, h1⟩
  | df taken => exact ⟨_, H⟩

def Own (cx : Cx) (s : St) (b : Nat) : Prop := ∃ l o, s.get l = some o ∧ blk cx l o = b

structure Rel (cx : Cx) (s : St) (h : Array Obj) : Prop where
  wf : ∀ l, ¬ s.L l → s.get l = none
  gl : ∀ l ∈ s.g, l < s.n
  obj : ∀ l o, s.get l = some o → ORep cx h s.L l o
  inj : ∀ l l' o o', s.get l = some o → s.get l' = some o' → l ≠ l' → blk cx l o ≠ blk cx l' o'
  fzl : ∀ b o, cx.fz b o → (cellAt h b o).isSome
  fzo : ∀ l cs z t, s.get l = some (.c cs z t) → ∀ o, ¬ cx.fz (cx.r l).b o
  fzt : ∀ l e, s.get l = some (.t e) → ∀ o, cx.fz (cx.tk l).b o → o < (cx.tk l).d + e

/-- From one state to a later one: what was not owned is as it was; what is owned now was, or is new. -/
structure Ext (cx : Cx) (s : St) (h : Array Obj) (cx' : Cx) (s' : St) (h' : Array Obj) : Prop where
  later : Later cx h s.L cx' h' s'.L
  size : h.size ≤ h'.size
  frame : ∀ b, b < h.size → ¬ Own cx s b → h'[b]? = h[b]?
  own : ∀ b, Own cx' s' b → Own cx s b ∨ h.size ≤ b
  nfz : ∀ b o, cx'.fz b o → cx.fz b o ∨ Own cx s b ∨ h.size ≤ b

theorem Ext.refl (cx : Cx) (s : St) (h : Array Obj) : Ext cx s h cx s h :=
  ⟨.refl _ _ _, Nat.le_refl _, fun _ _ _ => rfl, fun _ h => .inl h, fun _ _ h => .inl h⟩

theorem Ext.trans {cx cx' cx'' : Cx} {s s' s'' : St} {h h' h'' : Array Obj} (a : Ext cx s h cx' s' h') (b : Ext cx' s' h' cx'' s'' h'') : Ext cx s h cx'' s'' h'' where
  later := a.later.trans b.later
  size := Nat.le_trans a.size b.size
  frame := fun x hx ho => by
    rw [b.frame x (Nat.lt_of_lt_of_le hx a.size) (fun h1 => (a.own x h1).elim ho (fun h2 => by omega)), a.frame x hx ho]
  own := fun x hx => (b.own x hx).elim (fun h1 => a.own x h1) (fun h1 => .inr (Nat.le_trans a.size h1))
  nfz := fun x o hx => (b.nfz x o hx).elim (fun h1 => a.nfz x o h1) (fun h1 => h1.elim (fun h2 => .inr (a.own x h2)) (fun h2 => .inr (.inr (Nat.le_trans a.size h2))))

theorem cellAt_lt {h : Array Obj} {b o : Nat} (hc : (cellAt h b o).isSome) : b < h.size := by
  unfold cellAt at hc
  rcases Nat.lt_or_ge b h.size with h1 | h1
  · exact h1
  · rw [Array.getElem?_eq_none h1] at hc; simp at hc

/-- a block's row -/
theorem cellAt_of {h : Array Obj} {b : Nat} {arr : Array Value} {el : TypeId} {fr : Nat × Nat} (hb : h[b]? = some (.cells arr el fr)) (o : Nat) : cellAt h b o = arr[o]? := by
  simp [cellAt, hb]

/-- dropping objects -/
def Sub (s' s : St) : Prop := (s'.n = s.n ∧ s'.g = s.g) ∧ ∀ l o, s'.get l = some o → s.get l = some o

theorem Sub.refl (s : St) : Sub s s := ⟨⟨rfl, rfl⟩, fun _ _ h => h⟩
theorem Sub.L {s' s : St} (h : Sub s' s) : s'.L = s.L := by unfold St.L; rw [h.1.1, h.1.2]
theorem Sub.trans {a b c : St} (h : Sub a b) (h' : Sub b c) : Sub a c := ⟨⟨h.1.1.trans h'.1.1, h.1.2.trans h'.1.2⟩, fun l o x => h'.2 l o (h.2 l o x)⟩

theorem Own.sub {cx : Cx} {s' s : St} (hs : Sub s' s) {b : Nat} (h : Own cx s' b) : Own cx s b :=
  let ⟨l, o, h1, h2⟩ := h; ⟨l, o, hs.2 l o h1, h2⟩

theorem Rel.sub {cx : Cx} {s' s : St} {h : Array Obj} (hs : Sub s' s) (R : Rel cx s h) : Rel cx s' h where
  wf := fun l hl => by
    cases hg : s'.get l with
    | none => rfl
    | some o => have := hs.2 l o hg; rw [R.wf l (by rw [← hs.L]; exact hl)] at this; cases this
  obj := fun l o hg => by have := R.obj l o (hs.2 l o hg); rw [← hs.L] at this; exact this
  gl := fun l hl => by rw [hs.1.1]; exact R.gl l (by rw [← hs.1.2]; exact hl)
  inj := fun l l' o o' h1 h2 => R.inj l l' o o' (hs.2 l o h1) (hs.2 l' o' h2)
  fzl := R.fzl
  fzo := fun l cs z t hg => R.fzo l cs z t (hs.2 l _ hg)
  fzt := fun l e hg => R.fzt l e (hs.2 l _ hg)

/-- a later state, and some of its objects dropped -/
theorem Ext.sub {cx cx' : Cx} {s s' s'' : St} {h h' : Array Obj} (E : Ext cx s h cx' s' h') (hs : Sub s'' s') : Ext cx s h cx' s'' h' where
  later := by rw [hs.L]; exact E.later
  size := E.size
  frame := E.frame
  own := fun b hb => E.own b (hb.sub hs)
  nfz := E.nfz

theorem Rel.own_lt {cx : Cx} {s : St} {h : Array Obj} (R : Rel cx s h) {b : Nat} (hb : Own cx s b) : b < h.size := by
  obtain ⟨l, o, h1, h2⟩ := hb
  have ho := R.obj l o h1
  cases o with
  | c cs z ty =>
    obtain ⟨arr, el, lo, hi, h3, -⟩ := ho
    rw [← h2]; simp only [blk]
    rcases Nat.lt_or_ge (cx.r l).b h.size with h4 | h4
    · exact h4
    · rw [Array.getElem?_eq_none h4] at h3; cases h3
  | t e =>
    obtain ⟨arr, el, lo, hi, h3, -⟩ := ho
    rw [← h2]; simp only [blk]
    rcases Nat.lt_or_ge (cx.tk l).b h.size with h4 | h4
    · exact h4
    · rw [Array.getElem?_eq_none h4] at h3; cases h3
  | x o =>
    obtain ⟨y, h3⟩ := XRep.some ho.2
    rw [← h2]; simp only [blk]
    rcases Nat.lt_or_ge (cx.r l).b h.size with h4 | h4
    · exact h4
    · rw [Array.getElem?_eq_none h4] at h3; cases h3

theorem Rel.name_L {cx : Cx} {s : St} {h : Array Obj} (R : Rel cx s h) {l : Nat} {o : O} (hg : s.get l = some o) : s.L l := by
  rcases Classical.em (s.L l) with h1 | h1
  · exact h1
  · rw [R.wf l h1] at hg; cases hg
theorem Rel.name_lt {cx : Cx} {s : St} {h : Array Obj} (R : Rel cx s h) {l : Nat} {o : O} (hg : s.get l = some o) : l < s.n := (R.name_L hg).1

end Rf
