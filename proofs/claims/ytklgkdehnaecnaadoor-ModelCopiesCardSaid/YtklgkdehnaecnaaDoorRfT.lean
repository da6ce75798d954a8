/-
  Contracts that only read, called with rows that lie in the state's objects: for the time of the call these are never written. An empty row is nil or it is not. Contracts that hand back a state; a contract that makes one object serves in every state.
-/
import Derived.Test.YtklgkdehnaecnaaDoorRfY
set_option linter.all false
set_option linter.unusedSimpArgs false
namespace Rf
open Go

/-- in this state the value reads as one that is never written -/
inductive Rd (s : St) : V → V → Prop
  | refl (v : V) : Rd s v v
  | ag (cs ds : List V) (hl : cs.length = ds.length) (h : ∀ j, j < cs.length → Rd s (cs.getD j .bad) (ds.getD j .bad)) : Rd s (.ag cs) (.ag ds)
  | ifc (t : Nat) (v u : V) (h : Rd s v u) : Rd s (.ifc t v) (.ifc t u)
  | p (l o : Nat) (cs : List V) (z : Nat) (t : Option Nat) (ds : List V) (hg : s.get l = some (.c cs z t)) (hlen : ds.length ≤ cs.length) (h : ∀ j, j < ds.length → Rd s (cs.getD j .bad) (ds.getD j .bad)) : Rd s (.p l o) (.q (.ag ds) o)
  | sl (sz l o n : Nat) (c : Option Nat) (cs : List V) (z : Nat) (t : Option Nat) (xs : List V) (hg : s.get l = some (.c cs z t)) (hlen : o + n * sz ≤ cs.length) (hx : xs.length = n) (hs : ∀ i, i < n → (xs.getD i .bad).cells.length = sz)
      (h : ∀ i j, i < n → j < sz → Rd s (cs.getD (o + i * sz + j) .bad) ((xs.getD i .bad).cells.getD j .bad)) : Rd s (.sl sz l o n c) (.pu sz xs .u)

/-- all objects' cells are never written -/
def Cx.still (cx : Cx) (s : St) (h : Array Obj) : Cx := { cx with fz := fun b o => (cx.fz b o ∨ ∃ l cs z t, s.get l = some (.c cs z t) ∧ b = (cx.r l).b ∧ (cx.r l).d ≤ o ∧ o < (cx.r l).d + cs.length) ∧ (cellAt h b o).isSome }

def St.bare (s : St) : St := { h := .e, n := s.n, g := s.g }
theorem St.bare_get (s : St) (l : Nat) : s.bare.get l = none := by
  simp [St.get, St.bare, Tr.get]

theorem still_later {cx : Cx} {s : St} {h : Array Obj} (R : Rel cx s h) : Later cx h s.L (cx.still s h) h s.L :=
  ⟨fun _ h => h, fun _ _ => rfl, fun _ _ => .inl rfl, fun b o hf => ⟨.inl hf, R.fzl b o hf⟩, fun _ _ _ => rfl⟩

theorem Rd.rep {cx : Cx} {s : St} {h : Array Obj} (R : Rel cx s h) {v u : V} (hr : Rd s v u) : ∀ {x : Value}, VRep cx h s.L v x → VRep (cx.still s h) h s.L u x := by
  induction hr with
  | refl v => intro x hv; exact hv.later (still_later R)
  | ag cs ds hl _ ih =>
    intro x hv
    cases hv with
    | ag _ vs hs h1 hv => exact .ag ds vs (by omega) (fun j hj => h1 j (by omega)) (fun j hj => ih j (by omega) (hv j (by omega)))
  | ifc t v u _ ih =>
    intro x hv
    cases hv with
    | ifc _ _ y hv => exact .ifc t u y (ih hv)
  | p l o cs z t ds hg hlen _ ih =>
    intro x hv
    cases hv with
    | p _ _ hl =>
      obtain ⟨arr, el, lo, hi, a1, ⟨a2, -⟩, a3, a4, -⟩ := R.obj l _ hg
      have hc : ∀ j, j < ds.length → cellAt h (cx.r l).b ((cx.r l).d + j) = some (arr.getD ((cx.r l).d + j) undef) := fun j hj => by
        have hlt : (cx.r l).d + j < arr.size := by omega
        rw [cellAt_of a1]; simp [Array.getD_eq_getD_getElem?, hlt]
      exact .q (.ag ds) o (cx.r l).b (cx.r l).d (fun j => arr.getD ((cx.r l).d + j) undef) (fun j hj => a3 j (by simp only [V.cells] at hj; omega))
        (fun j hj => ⟨.inr ⟨l, cs, z, t, hg, rfl, by omega, by simp only [V.cells] at hj; omega⟩, by rw [hc j hj]; rfl⟩) (fun j hj => hc j hj) (fun j hj => ih j hj (a4 j (by simp only [V.cells] at hj; omega)))
  | sl sz l o n c cs z t xs hg hlen hx hs _ ih =>
    intro x hv
    cases hv with
    | sl _ _ _ _ _ cap hl hk hc0 =>
      obtain ⟨arr, el, lo, hi, a1, ⟨a2, -⟩, a3, a4, -⟩ := R.obj l _ hg
      subst hx
      have hij : ∀ i j, i < xs.length → j < sz → o + i * sz + j < cs.length := fun i j hi hj => by
        have : i * sz + sz ≤ xs.length * sz := by rw [← Nat.succ_mul]; exact Nat.mul_le_mul_right sz hi
        omega
      have hc : ∀ i j, i < xs.length → j < sz → cellAt h (cx.r l).b ((cx.r l).d + o + i * sz + j) = some (arr.getD ((cx.r l).d + (o + i * sz + j)) undef) := fun i j hi hj => by
        have := hij i j hi hj
        have hlt : (cx.r l).d + o + i * sz + j < arr.size := by omega
        have e : (cx.r l).d + (o + i * sz + j) = (cx.r l).d + o + i * sz + j := by omega
        rw [cellAt_of a1, e]; simp [Array.getD_eq_getD_getElem?, hlt]
      exact .pu sz xs .u ⟨(cx.r l).b, (cx.r l).d + o, none⟩ cap (fun i j => arr.getD ((cx.r l).d + (o + i * sz + j)) undef) (fun _ => rfl) (fun i j hi hj => a3 _ (hij i j hi hj)) (fun i hi => hs i hi)
        (fun i j hi hj => ⟨.inr ⟨l, cs, z, t, hg, rfl, by show _ ≤ (cx.r l).d + o + i * sz + j; omega, by have := hij i j hi hj; show (cx.r l).d + o + i * sz + j < _; omega⟩, by rw [hc i j hi hj]; rfl⟩) (fun i j hi hj => hc i j hi hj)
        (fun i j hi hj => ih i j hi hj (a4 _ (hij i j hi hj))) hk trivial (fun k hk => by cases hk)

theorem bare_rel {cx : Cx} {s : St} {h : Array Obj} (R : Rel cx s h) : Rel (cx.still s h) s.bare h where
  wf := fun l _ => s.bare_get l
  gl := R.gl
  obj := fun l o h => by rw [St.bare_get] at h; cases h
  inj := fun l _ o _ h => by rw [St.bare_get] at h; cases h
  fzl := fun _ _ h => h.2
  fzo := fun l _ _ _ h => by rw [St.bare_get] at h; cases h
  fzt := fun l _ h => by rw [St.bare_get] at h; cases h

section
variable {gt : Nat → Option V} {P : Program}

/-- a value that names nothing and reads nothing -/
def Plain (v : V) : Prop := ∀ cx h n x cx' h' n', VRep cx h n v x → VRep cx' h' n' v x
theorem plain_b (b : Bool) : Plain (.b b) := fun _ _ _ _ _ _ _ h => by cases h; exact .b b
theorem plain_i (k : IntKind) (n : Int) : Plain (.i k n) := fun _ _ _ _ _ _ _ h => by cases h; exact .i k n
theorem plain_s (l : List UInt8) : Plain (.s l) := fun _ _ _ _ _ _ _ h => by cases h; exact .s l

/-- a call that only reads, while the objects are left as they are -/
theorem Den.still {f : FuncId} {args args' : List V} {v : V} {s s1 : St} (hD : Den gt P f args' s.bare v s1) (hl : args.length = args'.length) (hA : ∀ j, j < args.length → Rd s (args.getD j .bad) (args'.getD j .bad)) (hv : Plain v) : Den gt P f args s v s := by
  intro cx w xs R G A
  refine (hD (cx.still s w.heap) w xs (bare_rel R) (G.later (still_later R)) ⟨by rw [A.len, hl], fun j hj => (hA j (by omega)).rep R (A.rep j (by omega))⟩).mono fun e w' ⟨x, cx', h1, h2, h3, h4, h5⟩ => ?_
  have hno : ∀ b, ¬ Own (cx.still s w.heap) s.bare b := fun b ⟨l, o, hg, _⟩ => by rw [St.bare_get] at hg; cases hg
  have hblk : ∀ b, b < w.heap.size → w'.heap[b]? = w.heap[b]? := fun b hb => h4.frame b hb (hno b)
  have hcell : ∀ b o, cx.fz b o → cellAt w'.heap b o = cellAt w.heap b o := fun b o hf => by
    have := cellAt_lt (R.fzl b o hf)
    unfold cellAt; rw [hblk b this]
  have L2 : Later cx w.heap s.L cx w'.heap s.L := ⟨fun _ h => h, fun _ _ => rfl, fun _ _ => .inl rfl, fun _ _ h => h, hcell⟩
  refine ⟨x, cx, h1, hv _ _ _ _ _ _ _ h2, ⟨R.wf, R.gl, fun l o hg => ?_, R.inj, fun b o hf => by rw [hcell b o hf]; exact R.fzl b o hf, R.fzo, R.fzt⟩, ⟨L2, h4.size, fun b hb _ => hblk b hb, fun b hb => .inl hb, fun b o hf => .inl hf⟩, h5⟩
  have h6 := R.obj l o hg
  have hb : blk cx l o < w.heap.size := R.own_lt ⟨l, o, hg, rfl⟩
  cases o with
  | c cs z ty =>
    obtain ⟨arr, el, lo, hi, a1, a2, a3, a4, a5⟩ := h6
    exact ⟨arr, el, lo, hi, by rw [← a1]; exact hblk _ hb, a2, a3, fun j hj => (a4 j hj).later L2, a5⟩
  | t e =>
    obtain ⟨arr, el, lo, hi, a1, a2, a3, a4⟩ := h6
    exact ⟨arr, el, lo, hi, by rw [← a1]; exact hblk _ hb, a2, a3, a4⟩
  | x o => exact ⟨h6.1, XRep.later L2 (hblk _ hb) h6.2⟩

theorem PDen.still {f : FuncId} {args args' : List V} {v : V} {s : St} (hD : PDen gt P f args' v) (hl : args.length = args'.length) (hA : ∀ j, j < args.length → Rd s (args.getD j .bad) (args'.getD j .bad)) (hv : Plain v) : Den gt P f args s v s :=
  Den.still (hD s.bare) hl hA hv

theorem Rd2 {s : St} {a b a' b' : V} (h1 : Rd s a a') (h2 : Rd s b b') : ∀ j, j < [a, b].length → Rd s ([a, b].getD j .bad) ([a', b'].getD j .bad) := fun j hj => by
  match j, hj with
  | 0, _ => exact h1
  | 1, _ => exact h2

/-- an empty row is nil, or it is not -/
theorem VRep.empty {cx : Cx} {h : Array Obj} {n : Nat → Prop} {sz : Nat} {x : Value} (hv : VRep cx h n (.pu sz [] .u) x) : VRep cx h n .ns x ∨ VRep cx h n (.pu sz [] .z) x := by
  cases hv with
  | pu0 => exact .inl .ns
  | pu _ _ _ a cap f ha h1 hs hz hc hv hl hr hp => exact .inr (.pu sz [] .z a cap f ha h1 hs hz hc hv hl trivial (fun k hk => by cases hk))

theorem Den.empty1 {f : FuncId} {sz : Nat} {v : V} {s s1 : St} (h1 : Den gt P f [.ns] s v s1) (h2 : Den gt P f [.pu sz [] .z] s v s1) : Den gt P f [.pu sz [] .u] s v s1 := by
  intro cx w xs R G A
  have hx := A.rep 0 (by simp)
  rcases hx.empty with hx | hx
  · exact h1 cx w xs R G ⟨A.len, fun j hj => by
      match j, hj with
      | 0, _ => exact hx⟩
  · exact h2 cx w xs R G ⟨A.len, fun j hj => by
      match j, hj with
      | 0, _ => exact hx⟩

/-- a function's end: its value, its state -/
def finS (rs : List Rs) (v : V) (s1 : St) (x : X) (e : List V) (s : St) : Prop :=
  match x with
  | .exit _ => False
  | _ => match resV e s rs with
    | some vs => fL vs fun vs => fV (packV vs) fun u => Vw u v ∧ Sub s1 s
    | none => False

theorem Den.hc {wf : Nat → Nat → Bool} {f : FuncId} {F : F} {args : List V} {v : V} {s1 : St} (hF : cF gt P wf f = some F)
    (h : HC gt P F.body (args ++ List.replicate (F.nt - args.length) unV) s0 (finS F.res v s1)) : Den gt P f args s0 v s1 := by
  intro cx w xs R G A
  unfold cF at hF
  split at hF
  · cases hF
  · rename_i fn hfn
    split at hF
    · cases hF
    · rename_i b hb
      split at hF
      · rename_i rs hrs
        cases hF
        simp only at h
        have E0 : ERep gt cx w.heap s0.L (args ++ List.replicate (fn.ntmps - args.length) unV) (xs ++ Array.replicate (fn.ntmps - xs.size) undef) := by
          refine ⟨G, by simp [A.len], fun t => ?_⟩
          by_cases ht : t < args.length
          · have h1 := A.rep t ht
            have e1 : (args ++ List.replicate (fn.ntmps - args.length) unV).getD t unV = args.getD t .bad := by
              simp only [List.getD]; rw [List.getElem?_append_left ht, List.getElem?_eq_getElem ht]; rfl
            have e2 : (xs ++ Array.replicate (fn.ntmps - xs.size) undef).getD t undef = xs.getD t undef := by
              apply arrGetD_eq; rw [Array.getElem?_append_left (by rw [A.len]; exact ht)]
            rw [e1, e2]; exact h1
          · have e1 : (args ++ List.replicate (fn.ntmps - args.length) unV).getD t unV = unV := by
              simp only [List.getD]; rw [List.getElem?_append_right (by omega), List.getElem?_replicate]
              split <;> rfl
            have e2 : (xs ++ Array.replicate (fn.ntmps - xs.size) undef).getD t undef = undef := by
              rw [Array.getD_eq_getD_getElem?, Array.getElem?_append_right (by rw [A.len]; omega), Array.getElem?_replicate]
              split <;> rfl
            rw [e1, e2]; exact VRep.un _ _ _
        refine calls_of_wp hfn hb (wp_mono (h.out wf b rfl cx w cx w { tmps := xs ++ Array.replicate (fn.ntmps - xs.size) undef, defers := [] } ⟨E0, rfl, R, .refl _ _ _, .rfl⟩) fun ex a' w' ⟨x, e1, s2, cx', h1, h2, N⟩ => ?_)
        have hfin : x = .nrm ∨ x = .ret := by
          cases x with
          | nrm => exact .inl rfl
          | ret => exact .inr rfl
          | exit i => exact h2.elim
        have h2 : ∃ vs, resV e1 s2 rs = some vs ∧ Vw (packV vs) v ∧ Sub s1 s2 := by
          rcases hfin with rfl | rfl <;> simp only [finS] at h2 <;> split at h2 <;> first
            | (rename_i vs hvs; rw [fL_eq, fV_eq] at h2; exact ⟨vs, hvs, h2⟩)
            | exact h2.elim
        obtain ⟨vs, h3, h4, h5⟩ := h2
        have hfin2 : a'.defers = [] ∧ ∃ y, (results fn a'.tmps).run P w' = .ok y w' ∧ ∃ z cx', Ending.returned y = .returned z ∧ VRep cx' w'.heap s1.L v z ∧ Rel cx' s1 w'.heap ∧ Ext cx s0 w.heap cx' s1 w'.heap ∧ Qt w w' := by
          obtain ⟨y, y1, y2⟩ := results_rep N.E N.R hrs h3
          exact ⟨N.hd, y, y1, y, cx', rfl, by rw [h5.L]; exact VRep.weak h4 y2, N.R.sub h5, N.X.sub h5, N.q⟩
        rcases hfin with rfl | rfl
        · subst h1; exact hfin2
        · subst h1; exact hfin2
      · cases hF

theorem PDen.empty1 {f : FuncId} {sz : Nat} {v : V} (h1 : PDen gt P f [.ns] v) (h2 : PDen gt P f [.pu sz [] .z] v) : PDen gt P f [.pu sz [] .u] v := fun s => Den.empty1 (h1 s) (h2 s)

/-- a function's end: a value that may say less -/
def finW (rs : List Rs) (v : V) (x : X) (e : List V) (s : St) : Prop :=
  match x with
  | .exit _ => False
  | _ => match resV e s rs with
    | some vs => fL vs fun vs => fV (packV vs) fun u => Vw u v
    | none => False

theorem PDen.hcw {wf : Nat → Nat → Bool} {f : FuncId} {F : F} {args : List V} {v : V} (hgt : GNm gt) (hF : cF gt P wf f = some F) (ha : ∀ x ∈ args, Nm s0.L x) (hn : Nm s0.L v)
    (h : HC gt P F.body (args ++ List.replicate (F.nt - args.length) unV) s0 (finW F.res v)) : PDen gt P f args v :=
  PDen.ofw hgt hF ha hn ((h.out wf).mono fun x e s h => by
    have hx : x = .nrm ∨ x = .ret := by
      cases x with
      | nrm => exact .inl rfl
      | ret => exact .inr rfl
      | exit i => exact h.elim
    refine ⟨hx, ?_⟩
    rcases hx with rfl | rfl <;> simp only [finW] at h <;> split at h <;> first
      | (rename_i vs hvs; rw [fL_eq, fV_eq] at h; exact ⟨vs, hvs, h⟩)
      | exact h.elim)

/-- what makes one object in the empty state makes it in every state -/
theorem Den.one {f : FuncId} {args : List V} {sz k0 n : Nat} {cells : List V} {z : Nat} {t : Option Nat} {s1 : St} (hgt : GNm gt) (ha : ∀ x ∈ args, Nm s0.L x) (hc : ∀ x ∈ cells, Nm s0.L x) (hg : s1.get k0 = some (.c cells z t))
    (hD : Den gt P f args s0 (.sl sz k0 0 n none) s1) (s : St) : Den gt P f args s (.sl sz s.n 0 n none) (s.new (.c cells z t)) := by
  intro cx w xs R G A
  have keep : ∀ {v : V} {x : Value}, Nm s0.L v → VRep cx w.heap s.L v x → VRep cx w.heap s0.L v x := fun hn hr => VRep.names (n' := s0.L) (fun _ h => (Nat.not_lt_zero _ h.1).elim) (fun _ h => (Nat.not_lt_zero _ h.1).elim) (fun _ _ h => h) (fun _ _ _ => rfl) hr hn
  refine (hD cx w xs (rel_s0 R) (fun g v hg => keep (.q _ _ (hgt g v hg)) (G g v hg)) ⟨A.len, fun j hj => keep (Nm.getD ha j) (A.rep j hj)⟩).mono fun e w' ⟨x, cx', h1, h2, h3, h4, h5⟩ => ?_
  have hfzc : ∀ b o, cx.fz b o → cellAt w'.heap b o = cellAt w.heap b o := h4.later.cell
  let cx2 : Cx := { r := fun l => if l = s.n then cx'.r k0 else cx.r l, tk := cx.tk, fz := cx'.fz }
  have hr0 : cx2.r s.n = cx'.r k0 := if_pos rfl
  have hr1 : ∀ l, l ≠ s.n → cx2.r l = cx.r l := fun l hl => if_neg hl
  have L : Later cx w.heap s.L cx2 w'.heap (s.new (.c cells z t)).L := ⟨fun _ h => St.new_L _ h, fun l hl => hr1 l (Nat.ne_of_lt hl.1), fun _ _ => .inl rfl, h4.later.fz, hfzc⟩
  have hblk : ∀ b, b < w.heap.size → w'.heap[b]? = w.heap[b]? := fun b hb => h4.frame b hb (not_own_s0 cx b)
  have hnew : ∀ b o, cx'.fz b o → b < w.heap.size → cx.fz b o := fun b o hf hb => by
    rcases h4.nfz b o hf with h6 | h6 | h6
    · exact h6
    · exact (not_own_s0 cx b h6).elim
    · omega
  have hbk : w.heap.size ≤ (cx'.r k0).b := by
    rcases h4.own _ ⟨k0, _, hg, rfl⟩ with h6 | h6
    · exact (not_own_s0 cx _ h6).elim
    · exact h6
  have hge : ∀ l, l ≠ s.n → ∀ o, (s.new (.c cells z t)).get l = some o → s.get l = some o := fun l hl o hg => by rwa [St.get_new_ne _ _ _ hl] at hg
  have hbs : ∀ l, l ≠ s.n → ∀ o, blk cx2 l o = blk cx l o := fun l hl o => by
    cases o with
    | c cs z ty => show (cx2.r l).b = _; rw [hr1 l hl]; rfl
    | t e => rfl
    | x o => show (cx2.r l).b = _; rw [hr1 l hl]; rfl
  have hb0 : ∀ o, (s.new (.c cells z t)).get s.n = some o → o = .c cells z t := fun o ho => by rw [St.get_new_same] at ho; exact (Option.some.inj ho).symm
  refine ⟨x, cx2, h1, ?_, ?_, ?_, h5⟩
  · cases h2 with
    | sl _ _ _ _ _ cap hl hk hc0 =>
      have := VRep.sl (cx := cx2) (h := w'.heap) (n := (s.new (.c cells z t)).L) sz s.n 0 n none cap (St.new_L0 _ R.gl) hk (by unfold slR at hc0 ⊢; rw [hr0]; exact hc0)
      rw [hr0] at this; exact this
  · refine ⟨fun l hl => ?_, fun l hl => Nat.lt_succ_of_lt (R.gl l hl), fun l o hl => ?_, fun l l' o o' h1 h2 hne => ?_, h3.fzl, fun l cs z' ty hl o hf => ?_, fun l e hl o hf => ?_⟩
    · by_cases e : l = s.n
      · subst e; exact (hl (St.new_L0 _ R.gl)).elim
      · rw [St.get_new_ne _ _ _ e]; exact R.wf l (fun h => hl (St.new_L _ h))
    · by_cases e : l = s.n
      · subst e
        cases hb0 o hl
        obtain ⟨arr, el, lo, hi, a1, a2, a3, a4, a5⟩ := h3.obj k0 _ hg
        refine ⟨arr, el, lo, hi, by rw [hr0]; exact a1, by rw [hr0]; exact a2, by rw [hr0]; exact a3, fun j hj => ?_, by rw [hr0]; exact a5⟩
        rw [hr0]
        have hn := Nm.getD hc j
        exact VRep.names (n' := (s.new (.c cells z t)).L) (fun l hl => rfl) (fun l hl => rfl) (fun _ _ h => h) (fun _ _ _ => rfl) (VRep.names (cx := cx') (cx' := cx2) (h' := w'.heap) (n' := s0.L) (fun _ h => (Nat.not_lt_zero _ h.1).elim) (fun _ h => (Nat.not_lt_zero _ h.1).elim) (fun _ _ h => h) (fun _ _ _ => rfl) (a4 j hj) hn) (hn.mono fun _ h => (Nat.not_lt_zero _ h.1).elim)
      · have hg' := hge l e o hl
        have h6 := R.obj l o hg'
        have hb : blk cx l o < w.heap.size := R.own_lt ⟨l, o, hg', rfl⟩
        cases o with
        | c cs z ty =>
          obtain ⟨arr, el, lo, hi, a1, a2, a3, a4, a5⟩ := h6
          refine ⟨arr, el, lo, hi, ?_, ?_⟩
          · rw [hr1 l e, ← a1]; exact hblk _ hb
          · rw [hr1 l e]; exact ⟨a2, a3, fun j hj => (a4 j hj).later L, a5⟩
        | t e0 =>
          obtain ⟨arr, el, lo, hi, a1, a2, a3, a4⟩ := h6
          exact ⟨arr, el, lo, hi, by rw [← a1]; exact hblk _ hb, a2, a3, a4⟩
        | x o =>
          show (cx2.r l).d = 0 ∧ XRep cx2 w'.heap _ (cx2.r l).b o
          rw [hr1 l e]; exact ⟨h6.1, XRep.later L (hblk _ hb) h6.2⟩
    · by_cases e : l = s.n
      · subst e
        cases hb0 o h1
        have hg' := hge l' (Ne.symm hne) o' h2
        have := R.own_lt ⟨l', o', hg', rfl⟩
        rw [hbs l' (Ne.symm hne)]
        intro h
        have h : (cx2.r s.n).b = blk cx l' o' := h
        rw [hr0] at h; omega
      · by_cases e' : l' = s.n
        · subst e'
          cases hb0 o' h2
          have hg' := hge l e o h1
          have := R.own_lt ⟨l, o, hg', rfl⟩
          rw [hbs l e]
          intro h
          have h : blk cx l o = (cx2.r s.n).b := h
          rw [hr0] at h; omega
        · rw [hbs l e, hbs l' e']
          exact R.inj l l' o o' (hge l e o h1) (hge l' e' o' h2) hne
    · by_cases e : l = s.n
      · subst e
        cases hb0 _ hl
        rw [hr0] at hf
        exact h3.fzo k0 _ _ _ hg o hf
      · rw [hr1 l e] at hf
        exact R.fzo l cs z' ty (hge l e _ hl) o (hnew _ _ hf (R.own_lt ⟨l, _, hge l e _ hl, rfl⟩))
    · by_cases e' : l = s.n
      · subst e'
        cases hb0 _ hl
      · exact R.fzt l e (hge l e' _ hl) o (hnew _ _ hf (R.own_lt ⟨l, _, hge l e' _ hl, rfl⟩))
  · refine ⟨L, h4.size, fun b hb _ => hblk b hb, fun b ⟨l, o, hl, hbl⟩ => ?_, fun b o hf => ?_⟩
    · by_cases e : l = s.n
      · subst e
        cases hb0 _ hl
        have hbl : (cx2.r s.n).b = b := hbl
        rw [hr0] at hbl
        exact .inr (by omega)
      · exact .inl ⟨l, o, hge l e o hl, by rw [← hbl, hbs l e]⟩
    · rcases h4.nfz b o hf with h6 | h6 | h6
      · exact .inl h6
      · exact (not_own_s0 cx b h6).elim
      · exact .inr (.inr h6)

end
end Rf
