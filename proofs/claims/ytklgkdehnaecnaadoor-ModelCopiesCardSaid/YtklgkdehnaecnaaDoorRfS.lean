/-
  Names; contracts of functions that meet no caller's object; code seen from its function's entry.
-/
import Derived.Test.YtklgkdehnaecnaaDoorRfR
set_option linter.all false
set_option linter.unusedSimpArgs false
namespace Rf
open Go

/-- a value's names are below n -/
inductive Nm (n : Nat → Prop) : V → Prop
  | bad : Nm n .bad
  | b (x : Bool) : Nm n (.b x)
  | i (k : IntKind) (x : Int) : Nm n (.i k x)
  | s (l : List UInt8) : Nm n (.s l)
  | np : Nm n .np
  | p (l o : Nat) (h : n l) : Nm n (.p l o)
  | q (v : V) (o : Nat) (h : Nm n v) : Nm n (.q v o)
  | ns : Nm n .ns
  | sl (sz l o k : Nat) (c : Option Nat) (h : n l) : Nm n (.sl sz l o k c)
  | pu (sz : Nat) (xs : List V) (c : Cap) (h : ∀ x ∈ xs, Nm n x) (hc : ∀ k, c = .t k → n k) : Nm n (.pu sz xs c)
  | tp (b t : Nat) : Nm n (.tp b t)
  | nm : Nm n .nm
  | m (l : Nat) (h : n l) : Nm n (.m l)
  | fn (f : Nat) (cs : List V) (h : ∀ x ∈ cs, Nm n x) : Nm n (.fn f cs)
  | nf : Nm n .nf
  | ifc (t : Nat) (v : V) (h : Nm n v) : Nm n (.ifc t v)
  | ni : Nm n .ni
  | ag (cs : List V) (h : ∀ x ∈ cs, Nm n x) : Nm n (.ag cs)
  | tu (cs : List V) (h : ∀ x ∈ cs, Nm n x) : Nm n (.tu cs)
  | yl (l : Nat) (h : n l) : Nm n (.yl l)
  | se (sz l : Nat) (h : n l) : Nm n (.se sz l)

theorem Nm.mono {n m : Nat → Prop} (hm : ∀ l, n l → m l) {v : V} (h : Nm n v) : Nm m v := by
  induction h with
  | bad => exact .bad
  | b x => exact .b x
  | i k x => exact .i k x
  | s l => exact .s l
  | np => exact .np
  | p l o h => exact .p l o (hm _ h)
  | q v o _ ih => exact .q v o ih
  | ns => exact .ns
  | sl sz l o k c h => exact .sl sz l o k c (hm _ h)
  | pu sz xs c _ hc ih => exact .pu sz xs c ih (fun k hk => hm _ (hc k hk))
  | tp b t => exact .tp b t
  | nm => exact .nm
  | m l h => exact .m l (hm _ h)
  | fn f cs _ ih => exact .fn f cs ih
  | nf => exact .nf
  | ifc t v _ ih => exact .ifc t v ih
  | ni => exact .ni
  | ag cs _ ih => exact .ag cs ih
  | tu cs _ ih => exact .tu cs ih
  | yl l h => exact .yl l (hm _ h)
  | se sz l h => exact .se sz l (hm _ h)

theorem Nm.getD {n : Nat → Prop} {cs : List V} (h : ∀ x ∈ cs, Nm n x) (j : Nat) : Nm n (cs.getD j .bad) := by
  rw [List.getD]
  cases hj : cs[j]? with
  | none => exact .bad
  | some x => exact h x (List.mem_of_getElem? hj)

theorem Nm.cells {n : Nat → Prop} {v : V} (h : Nm n v) : ∀ x ∈ v.cells, Nm n x := by
  intro x hx
  cases h <;> simp only [V.cells, List.mem_singleton] at hx <;> first
    | (subst hx; first | exact .bad | exact .b _ | exact .i _ _ | exact .s _ | exact .np | exact .ns | exact .nm | exact .nf | exact .ni | exact .tp _ _)
    | (subst hx; exact .p _ _ (by assumption))
    | (subst hx; exact .q _ _ (by assumption))
    | (subst hx; exact .sl _ _ _ _ _ (by assumption))
    | (subst hx; exact .pu _ _ _ (by assumption) (by assumption))
    | (subst hx; exact .m _ (by assumption))
    | (subst hx; exact .yl _ (by assumption))
    | (subst hx; exact .se _ _ (by assumption))
    | (subst hx; exact .fn _ _ (by assumption))
    | (subst hx; exact .ifc _ _ (by assumption))
    | (subst hx; exact .tu _ (by assumption))
    | (rename_i h; exact h x hx)

theorem VRep.names {cx cx' : Cx} {h h' : Array Obj} {n n' : Nat → Prop} (hr : ∀ l, n' l → cx'.r l = cx.r l) (ht : ∀ l, n' l → cx'.tk l = cx.tk l) (hf : ∀ b o, cx.fz b o → cx'.fz b o) (hcl : ∀ b o, cx.fz b o → cellAt h' b o = cellAt h b o)
    {v : V} {x : Value} (hv : VRep cx h n v x) : Nm n' v → VRep cx' h' n' v x := by
  induction hv with
  | bad v => intro _; exact .bad v
  | b x => intro _; exact .b x
  | i k x => intro _; exact .i k x
  | s l => intro _; exact .s l
  | np => intro _; exact .np
  | p l o hl => intro hn; cases hn with | p _ _ h => rw [← hr l h]; exact .p l o h
  | q v o b d f h1 hz hc _ ih =>
    intro hn
    cases hn with
    | q _ _ hn => exact .q v o b d f h1 (fun j hj => hf _ _ (hz j hj)) (fun j hj => by rw [hcl _ _ (hz j hj)]; exact hc j hj) (fun j hj => ih j hj (Nm.getD hn.cells j))
  | ns => intro _; exact .ns
  | sl sz l o k c cap hl hk hc => intro hn; cases hn with | sl _ _ _ _ _ h => rw [← hr l h]; exact .sl sz l o k c cap h hk (by unfold slR at hc ⊢; rw [hr l h]; exact hc)
  | pu0 sz c hc => intro _; exact .pu0 sz c hc
  | pu sz xs c a cap f ha h1 hs hz hc _ hl hrr hp ih =>
    intro hn
    cases hn with
    | pu _ _ _ hx hk =>
      refine .pu sz xs c a cap f ha h1 hs (fun i j hi hj => hf _ _ (hz i j hi hj)) (fun i j hi hj => by rw [hcl _ _ (hz i j hi hj)]; exact hc i j hi hj) (fun i j hi hj => ih i j hi hj (Nm.getD (Nm.getD hx i).cells j)) hl ?_ hp
      cases c with
      | u => trivial
      | z => trivial
      | x c => exact hrr
      | t k =>
        obtain ⟨h1, h2, h3, h4⟩ := hrr
        have := hk k rfl
        exact ⟨this, by rw [ht k this]; exact h2, by rw [ht k this]; exact h3, h4⟩
  | tp b t => intro _; exact .tp b t
  | nm => intro _; exact .nm
  | m l hl => intro hn; cases hn with | m _ h => rw [← hr l h]; exact .m l h
  | fn f cs vs hs _ ih => intro hn; cases hn with | fn _ _ hn => exact .fn f cs vs hs (fun j hj => ih j hj (Nm.getD hn j))
  | nf => intro _; exact .nf
  | ifc t v x _ ih => intro hn; cases hn with | ifc _ _ hn => exact .ifc t v x (ih hn)
  | ni => intro _; exact .ni
  | ag cs vs hs h1 _ ih => intro hn; cases hn with | ag _ hn => exact .ag cs vs hs h1 (fun j hj => ih j hj (Nm.getD hn j))
  | tu cs vs hs _ ih => intro hn; cases hn with | tu _ hn => exact .tu cs vs hs (fun j hj => ih j hj (Nm.getD hn j))
  | yl l hl => intro hn; cases hn with | yl _ h => rw [← hr l h]; exact .yl l h
  | se sz l a cap hl hc => intro hn; cases hn with | se _ _ h => exact .se sz l a cap h (by rw [hr l h]; exact hc)

section
variable {gt : Nat → Option V} {P : Program}

theorem rel_s0 {cx : Cx} {s : St} {h : Array Obj} (R : Rel cx s h) : Rel cx s0 h where
  wf := fun l _ => s0_get l
  gl := fun l h => by simp [s0] at h
  obj := fun l o h => by rw [s0_get] at h; cases h
  inj := fun l _ o _ h => by rw [s0_get] at h; cases h
  fzl := R.fzl
  fzo := fun l _ _ _ h => by rw [s0_get] at h; cases h
  fzt := fun l _ h => by rw [s0_get] at h; cases h

theorem not_own_s0 (cx : Cx) (b : Nat) : ¬ Own cx s0 b := fun ⟨l, o, h, _⟩ => by rw [s0_get] at h; cases h

/-- the laid variables bear no names -/
def GNm (gt : Nat → Option V) : Prop := ∀ g v, gt g = some v → Nm s0.L v

/-- A contract in the empty state serves in every state. -/
theorem Den.pure {f : FuncId} {args : List V} {v : V} {s' : St} (hgt : GNm gt) (ha : ∀ x ∈ args, Nm s0.L x) (hv : Nm s0.L v) (h : Den gt P f args s0 v s') (s : St) : Den gt P f args s v s := by
  intro cx w xs R G A
  have keep : ∀ {v : V} {x : Value}, Nm s0.L v → VRep cx w.heap s.L v x → VRep cx w.heap s0.L v x := fun hn hr => VRep.names (n' := s0.L) (fun _ h => (Nat.not_lt_zero _ h.1).elim) (fun _ h => (Nat.not_lt_zero _ h.1).elim) (fun _ _ h => h) (fun _ _ _ => rfl) hr hn
  refine (h cx w xs (rel_s0 R) (fun g v hg => keep (.q _ _ (hgt g v hg)) (G g v hg)) ⟨A.len, fun j hj => keep (Nm.getD ha j) (A.rep j hj)⟩).mono fun e w' ⟨x, cx', h1, h2, h3, h4, h5⟩ => ?_
  -- the caller's objects, as they were
  have hfzc : ∀ b o, cx.fz b o → cellAt w'.heap b o = cellAt w.heap b o := h4.later.cell
  let cx2 : Cx := { r := cx.r, tk := cx.tk, fz := cx'.fz }
  have L : Later cx w.heap s.L cx2 w'.heap s.L := ⟨fun _ h => h, fun _ _ => rfl, fun _ _ => .inl rfl, h4.later.fz, hfzc⟩
  have hblk : ∀ b, b < w.heap.size → w'.heap[b]? = w.heap[b]? := fun b hb => h4.frame b hb (not_own_s0 cx b)
  have hnew : ∀ b o, cx'.fz b o → b < w.heap.size → cx.fz b o := fun b o hf hb => by
    rcases h4.nfz b o hf with h6 | h6 | h6
    · exact h6
    · exact (not_own_s0 cx b h6).elim
    · omega
  refine ⟨x, cx2, h1, VRep.names (n' := s.L) (fun l hl => ?_) (fun l hl => ?_) (fun _ _ h => h) (fun _ _ _ => rfl) (VRep.names (cx := cx') (cx' := { r := cx.r, tk := cx.tk, fz := cx'.fz }) (h' := w'.heap) (n' := s0.L) (fun _ h => (Nat.not_lt_zero _ h.1).elim) (fun _ h => (Nat.not_lt_zero _ h.1).elim) (fun _ _ h => h) (fun _ _ _ => rfl) h2 hv) (hv.mono fun _ h => (Nat.not_lt_zero _ h.1).elim), ?_, ?_, h5⟩
  · rfl
  · rfl
  · refine ⟨R.wf, R.gl, fun l o hg => ?_, R.inj, h3.fzl, fun l cs z ty hg o hf => ?_, fun l e hg o hf => ?_⟩
    · have h6 := R.obj l o hg
      have hb : blk cx l o < w.heap.size := R.own_lt ⟨l, o, hg, rfl⟩
      cases o with
      | c cs z ty =>
        obtain ⟨arr, el, lo, hi, a1, a2, a3, a4, a5⟩ := h6
        exact ⟨arr, el, lo, hi, by rw [← a1]; exact hblk _ hb, a2, a3, fun j hj => (a4 j hj).later L, a5⟩
      | t e =>
        obtain ⟨arr, el, lo, hi, a1, a2, a3, a4⟩ := h6
        exact ⟨arr, el, lo, hi, by rw [← a1]; exact hblk _ hb, a2, a3, a4⟩
      | x o => exact ⟨h6.1, XRep.later L (hblk _ hb) h6.2⟩
    · exact R.fzo l cs z ty hg o (hnew _ _ hf (R.own_lt ⟨l, _, hg, rfl⟩))
    · exact R.fzt l e hg o (hnew _ _ hf (R.own_lt ⟨l, _, hg, rfl⟩))
  · exact ⟨L, h4.size, fun b hb _ => hblk b hb, fun b hb => .inl hb, fun b o hf => by
      rcases h4.nfz b o hf with h6 | h6 | h6
      · exact .inl h6
      · exact (not_own_s0 cx b h6).elim
      · exact .inr (.inr h6)⟩

end
end Rf
