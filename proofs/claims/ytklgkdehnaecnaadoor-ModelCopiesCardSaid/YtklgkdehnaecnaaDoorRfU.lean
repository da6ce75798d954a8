/-
  Code seen from its function's entry; weakest preconditions that the kernel reduces.
-/
import Derived.Test.YtklgkdehnaecnaaDoorRfS
set_option linter.all false
set_option linter.unusedSimpArgs false
namespace Rf
open Go

structure Now (gt : Nat → Option V) (cxb : Cx) (wb : World) (cx : Cx) (e : List V) (s : St) (act : Act) (w : World) : Prop where
  E : ERep gt cx w.heap s.L e act.tmps
  hd : act.defers = []
  R : Rel cx s w.heap
  X : Ext cxb s0 wb.heap cx s w.heap
  q : Qt wb w

/-- what a piece of code comes to, its function begun in the empty state -/
def Cf (gt : Nat → Option V) (P : Program) (wf : Nat → Nat → Bool) (c : C) (e : List V) (s : St) (Q : X → List V → St → Prop) : Prop :=
  ∀ code, cC gt P wf code = c → ∀ (cxb : Cx) (wb : World) (cx : Cx) (w : World) (act : Act), Now gt cxb wb cx e s act w →
    code.wp P (fun ex a' w' => ∃ x e' s' cx', exitOf x = ex ∧ Q x e' s' ∧ Now gt cxb wb cx' e' s' a' w') act w

/-- what may be told with less: slots forgotten, objects dropped, names given back -/
structure Wk (e1 : List V) (s1 : St) (e : List V) (s : St) : Prop where
  f : Forg e1 e
  g : ∀ l o, s1.get l = some o → s.get l = some o
  gl : ∀ l ∈ s1.g, l < s1.n
  l : ∀ l o, s1.get l = some o → s1.L l
  o : s1.L = s.L ∨ (∀ l cs z t, s1.get l = some (.c cs z t) → ∀ c ∈ cs, Nm s1.L c)
  x : s1.L = s.L ∨ ∀ l o, s1.get l ≠ some (.x o)
  e : s1.L = s.L ∨ (∀ v ∈ e1, Nm s1.L v)

section
variable {gt : Nat → Option V} {P : Program} {wf : Nat → Nat → Bool} {e : List V} {s : St} {Q : X → List V → St → Prop}

theorem Now.wk {cxb : Cx} {wb : World} {cx : Cx} {act : Act} {w : World} (hgt : GNm gt) (N : Now gt cxb wb cx e s act w) {e1 : List V} {s1 : St} (k : Wk e1 s1 e s) : Now gt cxb wb cx e1 s1 act w := by
  have nm : ∀ {v : V} {x : Value}, (s1.L = s.L ∨ Nm s1.L v) → VRep cx w.heap s.L v x → VRep cx w.heap s1.L v x := fun hn hv => by
    rcases hn with hn | hn
    · rw [hn]; exact hv
    · exact VRep.names (fun _ _ => rfl) (fun _ _ => rfl) (fun _ _ h => h) (fun _ _ _ => rfl) hv hn
  have E1 := N.E.forg k.f
  have hsz := N.E.len
  refine ⟨⟨fun g v hg => nm (.inr (.q _ _ ((hgt g v hg).mono fun _ h => (Nat.not_lt_zero _ h.1).elim))) (N.E.gl g v hg), E1.len, fun t => nm ?_ (E1.rep t)⟩, N.hd, ?_, ?_, N.q⟩
  · rcases k.e with h | h
    · exact .inl h
    · right
      rw [List.getD]
      cases ht : e1[t]? with
      | none => exact .tu [] (fun x hx => by simp at hx)
      | some v => exact h v (List.mem_of_getElem? ht)
  · refine ⟨fun l hl => ?_, k.gl, fun l o hg => ?_, fun l l' o o' h1 h2 => N.R.inj l l' o o' (k.g l o h1) (k.g l' o' h2), N.R.fzl, fun l cs z t hg => N.R.fzo l cs z t (k.g l _ hg), fun l e hg => N.R.fzt l e (k.g l _ hg)⟩
    · cases hg : s1.get l with
      | none => rfl
      | some o => exact (hl (k.l l o hg)).elim
    · have ho := N.R.obj l o (k.g l o hg)
      cases o with
      | c cs z ty =>
        obtain ⟨arr, el, lo, hi, a1, a2, a3, a4, a5⟩ := ho
        refine ⟨arr, el, lo, hi, a1, a2, a3, fun j hj => nm ?_ (a4 j hj), a5⟩
        rcases k.o with h | h
        · exact .inl h
        · exact .inr (Nm.getD (h l cs z ty hg) j)
      | t e => exact ho
      | x o =>
        rcases k.x with h | h
        · show _ ∧ XRep cx w.heap s1.L _ o; rw [h]; exact ho
        · exact (h l o hg).elim
  · refine ⟨⟨fun _ h => (Nat.not_lt_zero _ h.1).elim, N.X.later.r, N.X.later.tk, N.X.later.fz, N.X.later.cell⟩, N.X.size, N.X.frame, fun b ⟨l, o, hg, hb⟩ => N.X.own b ⟨l, o, k.g l o hg, hb⟩, N.X.nfz⟩

theorem Wk.refl (R : ∀ l o, s.get l = some o → s.L l) (g : ∀ l ∈ s.g, l < s.n) : Wk e s e s := ⟨Forg.refl _, fun _ _ h => h, g, R, .inl rfl, .inl rfl, .inl rfl⟩

theorem Co.cf {c : C} (h : Co gt P wf c e s Q) : Cf gt P wf c e s Q := fun code hc cxb wb cx w act N =>
  wp_mono (h code hc cx w act N.E N.hd N.R) fun _ _ _ ⟨x, e', s', h1, h2, cx', x1, x2, x3, x4, x5⟩ => ⟨x, e', s', cx', h1, h2, x1, x2, x3, N.X.trans x4, N.q.trans x5⟩

theorem Cf.mono {c : C} {Q' : X → List V → St → Prop} (h : Cf gt P wf c e s Q) (hq : ∀ x e' s', Q x e' s' → Q' x e' s') : Cf gt P wf c e s Q' := fun code hc cxb wb cx w act N =>
  wp_mono (h code hc cxb wb cx w act N) fun _ _ _ ⟨x, e', s', cx', h1, h2, h3⟩ => ⟨x, e', s', cx', h1, hq _ _ _ h2, h3⟩

theorem Cf.pre {c : C} {e1 : List V} {s1 : St} (hgt : GNm gt) (k : Wk e1 s1 e s) (h : Cf gt P wf c e1 s1 Q) : Cf gt P wf c e s Q := fun code hc cxb wb cx w act N =>
  h code hc cxb wb cx w act (N.wk hgt k)

theorem Cf.wfs {c : C} (h : (∀ l o, s.get l = some o → s.L l) → Cf gt P wf c e s Q) : Cf gt P wf c e s Q := fun code hc cxb wb cx w act N =>
  h (fun l o hg => N.R.name_L hg) code hc cxb wb cx w act N

theorem Cf.seq {a b : C} (h : Cf gt P wf a e s fun x e' s' => match x with | .nrm => Cf gt P wf b e' s' Q | x => Q x e' s') : Cf gt P wf (.seq a b) e s Q := by
  intro code hc cxb wb cx w act N
  cases code with
  | seq ca cb =>
    simp only [cC, C.seq.injEq] at hc
    refine wp_seq (wp_mono (h ca hc.1 cxb wb cx w act N) fun ex a' w' ⟨x, e', s', cx', h1, h2, h3⟩ => ?_)
    subst h1
    cases x with
    | nrm => exact h2 cb hc.2 cxb wb cx' w' a' h3
    | ret => exact ⟨.ret, e', s', cx', rfl, h2, h3⟩
    | exit id => exact ⟨.exit id, e', s', cx', rfl, h2, h3⟩
  | region id ops draw =>
    simp only [cC] at hc
    split at hc
    · split at hc
      · split at hc <;> cases hc
      · cases hc
    · cases hc
  | cond c a b => simp only [cC] at hc; split at hc <;> cases hc
  | _ => simp only [cC] at hc; cases hc

theorem Cf.blk {id : Nat} {a : C} (h : Cf gt P wf a e s fun x e' s' => match x with | .exit i => if i = id then Q .nrm e' s' else Q (.exit i) e' s' | x => Q x e' s') : Cf gt P wf (.blk id a) e s Q := by
  intro code hc cxb wb cx w act N
  cases code with
  | block id' ca =>
    simp only [cC, C.blk.injEq] at hc
    obtain ⟨rfl, hc⟩ := hc
    refine wp_block (wp_mono (h ca hc cxb wb cx w act N) fun ex a' w' ⟨x, e', s', cx', h1, h2, h3⟩ => ?_)
    subst h1
    cases x with
    | nrm => exact ⟨.nrm, e', s', cx', rfl, h2, h3⟩
    | ret => exact ⟨.ret, e', s', cx', rfl, h2, h3⟩
    | exit i =>
      simp only [exitOf, Exit.inBlock]
      by_cases hi : i = id'
      · simp only [hi, if_true] at h2 ⊢
        exact ⟨.nrm, e', s', cx', rfl, h2, h3⟩
      · simp only [hi, if_false] at h2 ⊢
        exact ⟨.exit i, e', s', cx', rfl, h2, h3⟩
  | region id ops draw =>
    simp only [cC] at hc
    split at hc
    · split at hc
      · split at hc <;> cases hc
      · cases hc
    · cases hc
  | cond c a b => simp only [cC] at hc; split at hc <;> cases hc
  | _ => simp only [cC] at hc; cases hc

theorem Cf.cond {c : Arg} {a b : C} {t : Bool} (hc0 : c.ev e = .b t) (h : Cf gt P wf (if t then a else b) e s Q) : Cf gt P wf (.cond c a b) e s Q := by
  intro code hc cxb wb cx w act N
  cases code with
  | cond c' ca cb =>
    simp only [cC] at hc
    split at hc
    · rename_i c1 hc1
      cases hc
      have hr := arg_rep N.E hc1
      rw [hc0] at hr
      generalize hx : act.eval c' = x at hr
      cases hr
      refine wp_cond hx ?_
      cases t
      · exact h cb rfl cxb wb cx w act N
      · exact h ca rfl cxb wb cx w act N
    · cases hc
  | region id ops draw =>
    simp only [cC] at hc
    split at hc
    · split at hc
      · split at hc <;> cases hc
      · cases hc
    · cases hc
  | _ => simp only [cC] at hc; cases hc

theorem Cf.loop {c : C} (hgt : GNm gt) (Inv : Nat → List V → St → Prop) {n : Nat} (h0 : Inv n e s) (round : ∀ n e s, Inv n e s → Cf gt P wf c e s fun x e' s' => match x with | .nrm => ∃ m e1 s1, m < n ∧ Wk e1 s1 e' s' ∧ Inv m e1 s1 | x => Q x e' s') : Cf gt P wf (.loop c) e s Q := by
  intro code hc cxb wb cx w act N
  cases code with
  | loop cc =>
    simp only [cC, C.loop.injEq] at hc
    refine wp_loop_gen (fun n a' w' => ∃ e1 s1 cx1, Inv n e1 s1 ∧ Now gt cxb wb cx1 e1 s1 a' w') (fun n a' w' ⟨e1, s1, cx1, hi, N1⟩ => ?_) (n := n) ⟨e, s, cx, h0, N⟩
    refine wp_mono (round n e1 s1 hi cc hc cxb wb cx1 w' a' N1) fun ex a'' w'' ⟨x, e2, s2, cx2, g1, g2, g3⟩ => ?_
    subst g1
    cases x with
    | nrm =>
      obtain ⟨m, e3, s3, hm, hk, hi'⟩ := g2
      exact ⟨m, hm, e3, s3, cx2, hi', g3.wk hgt hk⟩
    | ret => exact ⟨.ret, e2, s2, cx2, rfl, g2, g3⟩
    | exit id => exact ⟨.exit id, e2, s2, cx2, rfl, g2, g3⟩
  | region id ops draw =>
    simp only [cC] at hc
    split at hc
    · split at hc
      · split at hc <;> cases hc
      · cases hc
    · cases hc
  | cond c a b => simp only [cC] at hc; split at hc <;> cases hc
  | _ => simp only [cC] at hc; cases hc

/-- a function's contract, wherever it is called -/
def PDen (gt : Nat → Option V) (P : Program) (f : FuncId) (args : List V) (v : V) : Prop := ∀ s, Den gt P f args s v s

theorem results_rep {cx : Cx} {w : World} {act : Act} (E : ERep gt cx w.heap s.L e act.tmps) (R : Rel cx s w.heap) {fn : Func} {rs : List Rs} (hrs : mapO (cRs P) fn.results.toList = some rs) {vs : List V} (hv : resV e s rs = some vs) :
    ∃ y, (results fn act.tmps).run P w = .ok y w ∧ VRep cx w.heap s.L (packV vs) y := by
  obtain ⟨ys, y1, y2, y3⟩ := loadVar_rep E R fn.results.toList rs hrs vs hv
  have hres : (results fn act.tmps).run P w = .ok (if h : ys.toArray.size = 1 then ys.toArray[0] else .tuple ys.toArray) w := by
    have : results fn act.tmps = (do let vs ← fn.results.mapM (resM act.tmps); pure (if h : vs.size = 1 then vs[0] else .tuple vs)) := rfl
    rw [this, Sem.run_bind, Array.mapM_eq_mapM_toList, Sem.run_map, y1]
    rfl
  refine ⟨_, hres, ?_⟩
  unfold packV
  split
  · rename_i v1
    have hl : ys.length = 1 := by rw [y2]; rfl
    have := y3 0 (by simp)
    obtain ⟨y, rfl⟩ := List.length_eq_one_iff.1 hl
    simpa using this
  · rename_i hne
    have hl : ys.toArray.size ≠ 1 := by
      intro hl
      have : vs.length = 1 := by rw [← y2]; simpa using hl
      obtain ⟨y, rfl⟩ := List.length_eq_one_iff.1 this
      exact hne y rfl
    rw [dif_neg hl]
    refine .tu vs ys.toArray (by simp [y2]) (fun j hj => ?_)
    have := y3 j hj
    simpa [Array.getD_eq_getD_getElem?, List.getD] using this

/-- a value that says less: a row's capacity forgotten; nil as an empty row -/
inductive Vw1 : V → V → Prop
  | refl (v : V) : Vw1 v v
  | pu (n : Nat) (xs : List V) (c : Cap) : Vw1 (.pu n xs c) (.pu n xs .u)
  | ns (n : Nat) : Vw1 .ns (.pu n [] .u)

/-- the same, or a tuple of such -/
inductive Vw : V → V → Prop
  | one {v u : V} (h : Vw1 v u) : Vw v u
  | tu (vs us : List V) (h : All2 Vw1 vs us) : Vw (.tu vs) (.tu us)

theorem Vw.refl (v : V) : Vw v v := .one (.refl v)

theorem VRep.weak1 {cx : Cx} {h : Array Obj} {n : Nat → Prop} {v u : V} {x : Value} (hw : Vw1 v u) (hv : VRep cx h n v x) : VRep cx h n u x := by
  cases hw with
  | refl => exact hv
  | pu n' xs c =>
    cases hv with
    | pu0 => exact .pu0 _ _ trivial
    | pu _ _ _ a cap f ha h1 hs hz hc hv hl hr hp => exact .pu _ xs .u a cap f ha h1 hs hz hc hv hl trivial (fun k hk => by cases hk)
  | ns n' => cases hv; exact .pu0 _ _ trivial

theorem VRep.weak {cx : Cx} {h : Array Obj} {n : Nat → Prop} {v u : V} {x : Value} (hw : Vw v u) (hv : VRep cx h n v x) : VRep cx h n u x := by
  cases hw with
  | one h1 => exact hv.weak1 h1
  | tu vs us hA =>
    cases hv with
    | tu _ ys hs hr =>
      refine .tu us ys (by rw [hs]; exact hA.len) (fun j hj => ?_)
      have hj' : j < vs.length := by rw [hA.len]; exact hj
      obtain ⟨b, hb, hw⟩ := all2_get hA j vs[j] (by simp [hj'])
      have h1 := hr j hj'
      have e1 : vs.getD j .bad = vs[j] := by simp [List.getD, hj']
      have e2 : us.getD j .bad = b := by simp [List.getD, hb]
      rw [e1] at h1
      rw [e2]
      exact h1.weak1 hw

theorem PDen.ofw {f : FuncId} {F : F} {args : List V} {v : V} (hgt : GNm gt) (hF : cF gt P wf f = some F) (ha : ∀ x ∈ args, Nm s0.L x) (hv : Nm s0.L v)
    (h : Cf gt P wf F.body (args ++ List.replicate (F.nt - args.length) unV) s0 fun x e1 s1 => (x = .nrm ∨ x = .ret) ∧ ∃ vs, resV e1 s1 F.res = some vs ∧ Vw (packV vs) v) : PDen gt P f args v := by
  refine fun s => Den.pure hgt ha hv (s' := s0) ?_ s
  intro cx w xs R G A
  unfold cF at hF
  split at hF
  · cases hF
  · rename_i fn hfn
    split at hF
    · cases hF
    · rename_i b hb
      split at hF
      · rename_i rs hrs
        cases hF
        simp only at h
        have E0 : ERep gt cx w.heap s0.L (args ++ List.replicate (fn.ntmps - args.length) unV) (xs ++ Array.replicate (fn.ntmps - xs.size) undef) := by
          refine ⟨G, by simp [A.len], fun t => ?_⟩
          by_cases ht : t < args.length
          · have h1 := A.rep t ht
            have e1 : (args ++ List.replicate (fn.ntmps - args.length) unV).getD t unV = args.getD t .bad := by
              simp only [List.getD]; rw [List.getElem?_append_left ht, List.getElem?_eq_getElem ht]; rfl
            have e2 : (xs ++ Array.replicate (fn.ntmps - xs.size) undef).getD t undef = xs.getD t undef := by
              apply arrGetD_eq; rw [Array.getElem?_append_left (by rw [A.len]; exact ht)]
            rw [e1, e2]; exact h1
          · have e1 : (args ++ List.replicate (fn.ntmps - args.length) unV).getD t unV = unV := by
              simp only [List.getD]; rw [List.getElem?_append_right (by omega), List.getElem?_replicate]
              split <;> rfl
            have e2 : (xs ++ Array.replicate (fn.ntmps - xs.size) undef).getD t undef = undef := by
              rw [Array.getD_eq_getD_getElem?, Array.getElem?_append_right (by rw [A.len]; omega), Array.getElem?_replicate]
              split <;> rfl
            rw [e1, e2]; exact VRep.un _ _ _
        refine calls_of_wp hfn hb (wp_mono (h b rfl cx w cx w { tmps := xs ++ Array.replicate (fn.ntmps - xs.size) undef, defers := [] } ⟨E0, rfl, R, .refl _ _ _, .rfl⟩) fun ex a' w' ⟨x, e1, s1, cx', h1, ⟨h2, vs, h3, h4⟩, N⟩ => ?_)
        have hfin : a'.defers = [] ∧ ∃ y, (results fn a'.tmps).run P w' = .ok y w' ∧ ∃ z cx', Ending.returned y = .returned z ∧ VRep cx' w'.heap s0.L v z ∧ Rel cx' s0 w'.heap ∧ Ext cx s0 w.heap cx' s0 w'.heap ∧ Qt w w' := by
          obtain ⟨y, y1, y2⟩ := results_rep N.E N.R hrs h3
          refine ⟨N.hd, y, y1, y, cx', rfl, VRep.names (n' := s0.L) (fun _ h => (Nat.not_lt_zero _ h.1).elim) (fun _ h => (Nat.not_lt_zero _ h.1).elim) (fun _ _ h => h) (fun _ _ _ => rfl) (VRep.weak h4 y2) hv, rel_s0 N.R, ?_, N.q⟩
          exact ⟨⟨fun _ h => h, N.X.later.r, N.X.later.tk, N.X.later.fz, N.X.later.cell⟩, N.X.size, N.X.frame, fun b hb => (not_own_s0 _ b hb).elim, N.X.nfz⟩
        rcases h2 with rfl | rfl
        · subst h1; exact hfin
        · subst h1; exact hfin
      · cases hF

theorem PDen.of {f : FuncId} {F : F} {args : List V} {v : V} (hgt : GNm gt) (hF : cF gt P wf f = some F) (ha : ∀ x ∈ args, Nm s0.L x) (hv : Nm s0.L v)
    (h : Cf gt P wf F.body (args ++ List.replicate (F.nt - args.length) unV) s0 fun x e1 s1 => (x = .nrm ∨ x = .ret) ∧ ∃ vs, resV e1 s1 F.res = some vs ∧ packV vs = v) : PDen gt P f args v :=
  PDen.ofw hgt hF ha hv (h.mono fun _ _ _ ⟨h1, vs, h2, h3⟩ => ⟨h1, vs, h2, h3 ▸ .refl _⟩)

/-! weakest preconditions -/
def brB (b : Bool) (x y : Prop) : Prop := match b with
  | true => x
  | false => y

theorem brB_iff {b : Bool} {x y : Prop} : brB b x y ↔ (b = true → x) ∧ (b = false → y) := by cases b <;> simp [brB]
theorem brB.t {b : Bool} {x y : Prop} (h : brB b x y) (hb : b = true) : x := (brB_iff.1 h).1 hb
theorem brB.f {b : Bool} {x y : Prop} (h : brB b x y) (hb : b = false) : y := (brB_iff.1 h).2 hb

/-- what is told to the walk: of a slot, the value that comes into it (and the state, if it changes) -/
abbrev Hint := Nat → Option (V × Option St)

/-- a step that is told: what is owed -/
def owes (gt : Nat → Option V) (P : Program) (e : List V) (s : St) (k : K) (v : V) (s' : St) : Prop :=
  match k with
  | .a (.ia sz x i) => match x.ev e, i.ev e, v with
    | .pu z xs _, .i _ k, .q m 0 => (z = sz ∧ s' = s) ∧ 0 ≤ k ∧ xs[k.toNat]? = some m
    | _, _, _ => KRun gt P e s (.a (.ia sz x i)) v s'
  | .call f args => s' = s ∧ PDen gt P f (args.map (·.ev e)) v
  | k => KRun gt P e s k v s'

theorem owes_ok {k : K} {v : V} {s' : St} (h : owes gt P e s k v s') : KRun gt P e s k v s' := by
  unfold owes at h
  split at h
  · rename_i sz x i
    split at h
    · rename_i z xs c kk k m h1 h2
      obtain ⟨⟨rfl, rfl⟩, h4, h5⟩ := h
      simp only [KRun, aop, h1, h2]
      simp [h4, h5]
    · exact h
  · obtain ⟨h0, h⟩ := h; subst h0; exact h _
  · exact h

def wpK (gt : Nat → Option V) (P : Program) (hv : Hint) (e : List V) (s : St) (d : Option Nat) (k : K) (next : V → St → Prop) : Prop :=
  match d.bind hv with
  | some (v, none) => owes gt P e s k v s ∧ next v s
  | some (v, some s') => owes gt P e s k v s' ∧ next v s'
  | none => match k with
    | .a (.pick c a b) => match c.ev e with
      | .b t => brB t (next (a.ev e) s) (next (b.ev e) s)
      | _ => False
    | .a y => match aop e s y with
      | some (v, s') => next v s'
      | none => False
    | _ => False

theorem wpK_ok {hv : Hint} {d : Option Nat} {k : K} {next : V → St → Prop} (h : wpK gt P hv e s d k next) : ∃ v s', KRun gt P e s k v s' ∧ next v s' := by
  unfold wpK at h
  split at h
  · exact ⟨_, _, owes_ok h.1, h.2⟩
  · exact ⟨_, _, owes_ok h.1, h.2⟩
  · split at h
    · split at h
      · rename_i t ht
        cases t
        · exact ⟨_, s, by simp only [KRun, aop, ht], h.f rfl⟩
        · exact ⟨_, s, by simp only [KRun, aop, ht], h.t rfl⟩
      · exact h.elim
    · split at h
      · rename_i v s' hk; exact ⟨v, s', hk, h⟩
      · exact h.elim
    · exact h.elim

def wpO (gt : Nat → Option V) (P : Program) (hv : Hint) : List I → List V → St → (List V → St → Prop) → Prop
  | [], e, s, next => next e s
  | i :: r, e, s, next => match i.g with
    | none => wpK gt P hv e s i.d i.k fun v s' => wpO gt P hv r (setD e i.d v) s' next
    | some (t, w) => match e.getD t unV with
      | .b b => match w with
        | true => brB b (wpK gt P hv (e.set t (.b true)) s i.d i.k fun v s' => wpO gt P hv r (setD (e.set t (.b true)) i.d v) s' next) (wpO gt P hv r (setD (e.set t (.b false)) i.d unV) s next)
        | false => brB b (wpO gt P hv r (setD (e.set t (.b true)) i.d unV) s next) (wpK gt P hv (e.set t (.b false)) s i.d i.k fun v s' => wpO gt P hv r (setD (e.set t (.b false)) i.d v) s' next)
      | .bad => False
      | _ => wpO gt P hv r (setD e i.d unV) s next

theorem set_self {e : List V} {t : Nat} {b : Bool} (h : e.getD t unV = .b b) : e.set t (.b b) = e := by
  apply List.ext_getElem?
  intro j
  rw [List.getElem?_set]
  by_cases hj : t = j
  · subst hj
    rw [if_pos rfl]
    rw [List.getD] at h
    cases ht : e[t]? with
    | none => rw [ht] at h; cases h
    | some x =>
      rw [ht] at h
      have : x = .b b := h
      subst this
      have hlt := (List.getElem?_eq_some_iff.1 ht).1
      rw [if_pos hlt]
  · rw [if_neg hj]

theorem wpO_ok {hv : Hint} : ∀ (l : List I) (e : List V) (s : St) (next : List V → St → Prop), wpO gt P hv l e s next → ∃ e' s', Run gt P l e s e' s' ∧ next e' s'
  | [], e, s, next, h => ⟨e, s, .nil _ _, h⟩
  | i :: r, e, s, next, h => by
    have doit : wanted e i.g = some true → (wpK gt P hv e s i.d i.k fun v s' => wpO gt P hv r (setD e i.d v) s' next) → ∃ e' s', Run gt P (i :: r) e s e' s' ∧ next e' s' := fun hw h => by
      obtain ⟨v, s1, h1, h2⟩ := wpK_ok h
      obtain ⟨e', s', h3, h4⟩ := wpO_ok r _ _ next h2
      exact ⟨e', s', .op v s1 hw h1 h3, h4⟩
    have skip : wanted e i.g = some false → wpO gt P hv r (setD e i.d unV) s next → ∃ e' s', Run gt P (i :: r) e s e' s' ∧ next e' s' := fun hw h => by
      obtain ⟨e', s', h3, h4⟩ := wpO_ok r _ _ next h
      exact ⟨e', s', .skip hw h3, h4⟩
    simp only [wpO] at h
    split at h
    · rename_i hg
      exact doit (by rw [hg]; rfl) h
    · rename_i t w hg
      split at h
      · rename_i b hb
        cases hb' : b
        · subst hb'
          rw [set_self hb] at h
          cases w
          · exact doit (by rw [hg]; simp only [wanted, hb]; rfl) (h.f rfl)
          · exact skip (by rw [hg]; simp only [wanted, hb]; rfl) (h.f rfl)
        · subst hb'
          rw [set_self hb] at h
          cases w
          · exact skip (by rw [hg]; simp only [wanted, hb]; rfl) (h.t rfl)
          · exact doit (by rw [hg]; simp only [wanted, hb]; rfl) (h.t rfl)
      · exact h.elim
      · rename_i h1 h2
        refine skip ?_ h
        rw [hg]
        unfold wanted
        simp only

/-- an operation that reads gives the same in the states before -/
def stays (gt : Nat → Option V) (P : Program) (e : List V) (v : V) (k : K) : List St → Prop
  | [] => True
  | t :: ts => (match k with
    | .a y => (match aop e t y with
      | some (u, _) => u = v
      | none => False)
    | _ => False) ∧ stays gt P e v k ts

theorem stays_ok {e : List V} {v : V} {k : K} (hk1 : k.cls ≠ 2) : ∀ {l : List St}, stays gt P e v k l → ∀ t ∈ l, KRun gt P e t k v t
  | [], _, t, ht => by simp at ht
  | a :: l, h, t, ht => by
    rcases List.mem_cons.1 ht with rfl | ht
    · cases k with
      | a y =>
        have h1 := h.1
        simp only at h1
        split at h1
        · rename_i u s1 hu
          subst h1
          have hk : KRun gt P e t (.a y) u s1 := hu
          have := krun_cls hk1 hk
          subst this
          exact hu
        · exact h1.elim
      | _ => exact h.1.elim
    · exact stays_ok hk1 h.2 t ht

def wpD (gt : Nat → Option V) (P : Program) (hv : Hint) : List St → List (Nat × I) → List V → St → (List V → St → Prop) → Prop
  | _, [], e, s, next => next e s
  | hist, (b, i) :: r, e, s, next =>
    let doit := fun (e : List V) => wpK gt P hv e s i.d i.k fun v s' => match i.k.cls with
      | 2 => wpD gt P hv (s :: hist) r (setD e i.d v) s' next
      | 0 => wpD gt P hv hist r (setD e i.d v) s' next
      | _ => stays gt P e v i.k (hist.take b) ∧ wpD gt P hv hist r (setD e i.d v) s' next
    let skip := fun (e : List V) => wpD gt P hv (match i.k.cls with | 2 => s :: hist | _ => hist) r (setD e i.d unV) s next
    match i.g with
    | none => doit e
    | some (t, w) => match e.getD t unV with
      | .b b => match w with
        | true => brB b (doit (e.set t (.b true))) (skip (e.set t (.b false)))
        | false => brB b (skip (e.set t (.b true))) (doit (e.set t (.b false)))
      | .bad => False
      | _ => skip e

theorem wpD_ok {hv : Hint} : ∀ (l : List (Nat × I)) (hist : List St) (e : List V) (s : St) (next : List V → St → Prop), wpD gt P hv hist l e s next → ∃ e' s', RunD gt P hist l e s e' s' ∧ next e' s'
  | [], hist, e, s, next, h => ⟨e, s, .nil _ _ _, h⟩
  | (b, i) :: r, hist, e, s, next, h => by
    have doit : wanted e i.g = some true → (wpK gt P hv e s i.d i.k fun v s' => match i.k.cls with
      | 2 => wpD gt P hv (s :: hist) r (setD e i.d v) s' next
      | 0 => wpD gt P hv hist r (setD e i.d v) s' next
      | _ => stays gt P e v i.k (hist.take b) ∧ wpD gt P hv hist r (setD e i.d v) s' next) → ∃ e' s', RunD gt P hist ((b, i) :: r) e s e' s' ∧ next e' s' := fun hw h => by
      obtain ⟨v, s1, h1, h2⟩ := wpK_ok h
      split at h2
      · rename_i hc
        obtain ⟨e', s', h3, h4⟩ := wpD_ok r _ _ _ next h2
        exact ⟨e', s', .op2 v s1 hw hc h1 h3, h4⟩
      · rename_i hc
        obtain ⟨hs, ht⟩ := krun_cls0 hc h1
        subst hs
        obtain ⟨e', s', h3, h4⟩ := wpD_ok r _ _ _ next h2
        exact ⟨e', s', .op0 v hw (by omega) h1 (fun t _ => ht t) h3, h4⟩
      · rename_i hc2 hc0
        have hs := krun_cls hc2 h1
        subst hs
        obtain ⟨e', s', h3, h4⟩ := wpD_ok r _ _ _ next h2.2
        exact ⟨e', s', .op0 v hw hc2 h1 (stays_ok hc2 h2.1) h3, h4⟩
    have skip : wanted e i.g = some false → wpD gt P hv (match i.k.cls with | 2 => s :: hist | _ => hist) r (setD e i.d unV) s next → ∃ e' s', RunD gt P hist ((b, i) :: r) e s e' s' ∧ next e' s' := fun hw h => by
      obtain ⟨e', s', h3, h4⟩ := wpD_ok r _ _ _ next h
      refine ⟨e', s', .skip hw ?_, h4⟩
      split at h3
      · rename_i hc; rw [if_pos hc]; exact h3
      · rename_i hc; rw [if_neg hc]; exact h3
    simp only [wpD] at h
    split at h
    · rename_i hg
      exact doit (by rw [hg]; rfl) h
    · rename_i t w hg
      split at h
      · rename_i bb hb
        cases hb' : bb
        · subst hb'
          rw [set_self hb] at h
          cases w
          · exact doit (by rw [hg]; simp only [wanted, hb]; rfl) (h.f rfl)
          · exact skip (by rw [hg]; simp only [wanted, hb]; rfl) (h.f rfl)
        · subst hb'
          rw [set_self hb] at h
          cases w
          · exact skip (by rw [hg]; simp only [wanted, hb]; rfl) (h.t rfl)
          · exact doit (by rw [hg]; simp only [wanted, hb]; rfl) (h.t rfl)
      · exact h.elim
      · rename_i h1 h2
        refine skip ?_ h
        rw [hg]
        unfold wanted
        simp only

/-- a piece of code without a loop -/
def wpC (gt : Nat → Option V) (P : Program) (hv : Hint) : C → List V → St → (X → List V → St → Prop) → Prop
  | .skip, e, s, Q => Q .nrm e s
  | .ops l, e, s, Q => wpO gt P hv l e s (Q .nrm)
  | .drw l, e, s, Q => wpD gt P hv [] l e s (Q .nrm)
  | .seq a b, e, s, Q => wpC gt P hv a e s fun x e' s' => match x with
    | .nrm => wpC gt P hv b e' s' Q
    | x => Q x e' s'
  | .cond c a b, e, s, Q => match c.ev e with
    | .b t => brB t (wpC gt P hv a e s Q) (wpC gt P hv b e s Q)
    | _ => False
  | .blk id a, e, s, Q => wpC gt P hv a e s fun x e' s' => match x with
    | .exit i => if i = id then Q .nrm e' s' else Q (.exit i) e' s'
    | x => Q x e' s'
  | .exit id, e, s, Q => Q (.exit id) e s
  | .ret, e, s, Q => Q .ret e s
  | _, _, _, _ => False

theorem wpC_ok (hm : P.follows .mixedOrders = true) {hv : Hint} : ∀ (c : C) (e : List V) (s : St) (Q : X → List V → St → Prop), wpC gt P hv c e s Q → Cf gt P wf c e s Q
  | .skip, e, s, Q, h => (Co.skip h).cf
  | .ops l, e, s, Q, h => by
    obtain ⟨e', s', h1, h2⟩ := wpO_ok l e s _ h
    exact (Co.ops h1 h2).cf
  | .drw l, e, s, Q, h => by
    obtain ⟨e', s', h1, h2⟩ := wpD_ok l [] e s _ h
    exact (Co.drw hm h1 h2).cf
  | .seq a b, e, s, Q, h => by
    refine Cf.seq ((wpC_ok hm a e s _ h).mono fun x e' s' h1 => ?_)
    cases x with
    | nrm => exact wpC_ok hm b e' s' Q h1
    | ret => exact h1
    | exit i => exact h1
  | .cond c a b, e, s, Q, h => by
    simp only [wpC] at h
    split at h
    · rename_i t ht
      refine Cf.cond ht ?_
      cases t
      · exact wpC_ok hm b e s Q (h.f rfl)
      · exact wpC_ok hm a e s Q (h.t rfl)
    · exact h.elim
  | .blk id a, e, s, Q, h => Cf.blk ((wpC_ok hm a e s _ h).mono fun x e' s' h1 => by cases x <;> exact h1)
  | .exit id, e, s, Q, h => (Co.exit h).cf
  | .ret, e, s, Q, h => (Co.ret h).cf
  | .loop a, e, s, Q, h => h.elim
  | .bad, e, s, Q, h => h.elim

/-- a function's end: its value -/
def fin (rs : List Rs) (v : V) (x : X) (e : List V) (s : St) : Prop :=
  match x with
  | .exit _ => False
  | _ => match resV e s rs with
    | some vs => packV vs = v
    | none => False

theorem fin_ok {rs : List Rs} {v : V} {x : X} {e : List V} {s : St} (h : fin rs v x e s) : (x = .nrm ∨ x = .ret) ∧ ∃ vs, resV e s rs = some vs ∧ packV vs = v := by
  unfold fin at h
  split at h
  · exact h.elim
  · rename_i hx
    split at h
    · rename_i vs hvs
      refine ⟨?_, vs, hvs, h⟩
      cases x with
      | nrm => exact .inl rfl
      | ret => exact .inr rfl
      | exit i => exact (hx i rfl).elim
    · exact h.elim

/-- a function without a loop -/
theorem PDen.wp (hm : P.follows .mixedOrders = true) {f : FuncId} {F : F} {args : List V} {v : V} (hv : Hint) (hgt : GNm gt) (hF : cF gt P wf f = some F) (ha : ∀ x ∈ args, Nm s0.L x) (hn : Nm s0.L v)
    (h : wpC gt P hv F.body (args ++ List.replicate (F.nt - args.length) unV) s0 (fin F.res v)) : PDen gt P f args v :=
  PDen.of hgt hF ha hn ((wpC_ok hm _ _ _ _ h).mono fun _ _ _ h => fin_ok h)

end
end Rf
