/-
  Regions that keep the text's order; code; functions.
-/
import Derived.Test.YtklgkdehnaecnaaDoorRfM
set_option linter.all false
set_option linter.unusedSimpArgs false
namespace Rf
open Go

/-- a region that draws its order, gone through in one order; 'hist': the states ahead of the changes so far, the last one first -/
inductive RunD (gt : Nat → Option V) (P : Program) : List St → List (Nat × I) → List V → St → List V → St → Prop
  | nil (hist : List St) (e : List V) (s : St) : RunD gt P hist [] e s e s
  | skip {hist : List St} {b : Nat} {i : I} {r : List (Nat × I)} {e : List V} {s : St} {e' : List V} {s' : St} (hw : wanted e i.g = some false) (h : RunD gt P (if i.k.cls = 2 then s :: hist else hist) r (setD e i.d unV) s e' s') : RunD gt P hist ((b, i) :: r) e s e' s'
  | op0 {hist : List St} {b : Nat} {i : I} {r : List (Nat × I)} {e : List V} {s : St} {e' : List V} {s' : St} (v : V) (hw : wanted e i.g = some true) (hc : i.k.cls ≠ 2) (hk : KRun gt P e s i.k v s) (hb : ∀ t ∈ hist.take b, KRun gt P e t i.k v t)
      (h : RunD gt P hist r (setD e i.d v) s e' s') : RunD gt P hist ((b, i) :: r) e s e' s'
  | op2 {hist : List St} {b : Nat} {i : I} {r : List (Nat × I)} {e : List V} {s : St} {e' : List V} {s' : St} (v : V) (s1 : St) (hw : wanted e i.g = some true) (hc : i.k.cls = 2) (hk : KRun gt P e s i.k v s1)
      (h : RunD gt P (s :: hist) r (setD e i.d v) s1 e' s') : RunD gt P hist ((b, i) :: r) e s e' s'

def exitOf : X → Exit
  | .nrm => .normal
  | .ret => .ret
  | .exit id => .exit id

section
variable {gt : Nat → Option V} {P : Program}

theorem After.trans {cx cx1 : Cx} {s s1 : St} {w w1 : World} {e' : List V} {s' : St} {a' : Act} {w' : World} (E : Ext cx s w.heap cx1 s1 w1.heap) (q : Qt w w1) (A : After gt cx1 s1 w1 e' s' a' w') : After gt cx s w e' s' a' w' :=
  let ⟨cx', x1, x2, x3, x4, x5⟩ := A; ⟨cx', x1, x2, x3, E.trans x4, q.trans x5⟩

theorem put_defers (a : Act) (d : Option Tmp) (x : Value) : (a.put d x).defers = a.defers := by cases d <;> rfl

theorem cI_dk {wh : Bool} {ops : Array Oper} {o : Oper} {i : I} (hc : cI gt P wh ops o = some i) : i.d = o.dst ∧ i.k = cK gt P wh o.op := by
  unfold cI at hc
  split at hc
  · cases hc; exact ⟨rfl, rfl⟩
  · split at hc
    · cases hc; exact ⟨rfl, rfl⟩
    · cases hc

theorem ops_wp {ops : Array Oper} {wf : Nat → Bool} {Q : Exit → Act → World → Prop} : ∀ (l : List Oper) (i : Nat) (is : List I), l = ops.toList.drop i → cOps gt P wf ops i l = some is → ∀ (e : List V) (s : St) (e' : List V) (s' : St), Run gt P is e s e' s' →
    ∀ (cx : Cx) (w : World) (act : Act), ERep gt cx w.heap s.L e act.tmps → act.defers = [] → Rel cx s w.heap → (∀ a' w', After gt cx s w e' s' a' w' → Q .normal a' w') → wpOps P ops Q (List.range' i l.length) act w
  | [], i, is, hl, hc, e, s, e', s', hr, cx, w, act, E, hd, R, hQ => by
    simp [cOps] at hc; subst hc
    cases hr
    exact hQ act w ⟨cx, E, hd, R, .refl _ _ _, .rfl⟩
  | o :: l, i, is, hl, hc, e, s, e', s', hr, cx, w, act, E, hd, R, hQ => by
    simp only [cOps] at hc
    split at hc
    · rename_i x xs h1 h2
      cases hc
      have hi : ops[i]? = some o := by
        have : (ops.toList.drop i)[0]? = some o := by rw [← hl]; rfl
        simpa using this
      have hl' : l = ops.toList.drop (i + 1) := by
        have : (ops.toList.drop i).tail = l := by rw [← hl]; rfl
        rw [← this]; simp
      obtain ⟨hdst, hkk⟩ := cI_dk h1
      simp only [List.length_cons, List.range'_succ, wpOps, hi]
      cases hr with
      | skip hw h =>
        rw [wanted_run E h1 hw]
        simp only [Bool.false_eq_true, if_false]
        rw [hdst] at h
        exact ops_wp l (i + 1) xs hl' h2 _ _ _ _ h cx w _ (E.setD (VRep.un _ _ _) o.dst) (by rw [put_defers]; exact hd) R hQ
      | op v s1 hw hk h =>
        rw [wanted_run E h1 hw]
        simp only [if_true]
        left
        rw [hkk] at hk
        rw [hdst] at h
        exact oper_run E hd R hk (fun y w' cx' e1 e2 e3 e4 => ops_wp l (i + 1) xs hl' h2 _ _ _ _ h cx' w' _ e1 (by rw [put_defers]; exact hd) e2 (fun a' w'' hA => hQ a' w'' (hA.trans e3 e4)))
    · cases hc

/-- What a piece of code comes to. -/
def Co (gt : Nat → Option V) (P : Program) (wf : Nat → Nat → Bool) (c : C) (e : List V) (s : St) (Q : X → List V → St → Prop) : Prop :=
  ∀ code, cC gt P wf code = c → ∀ (cx : Cx) (w : World) (act : Act), ERep gt cx w.heap s.L e act.tmps → act.defers = [] → Rel cx s w.heap →
    code.wp P (fun ex a' w' => ∃ x e' s', exitOf x = ex ∧ Q x e' s' ∧ After gt cx s w e' s' a' w') act w

variable {wf : Nat → Nat → Bool} {e : List V} {s : St} {Q : X → List V → St → Prop}

theorem Co.mono {c : C} {Q' : X → List V → St → Prop} (h : Co gt P wf c e s Q) (hq : ∀ x e' s', Q x e' s' → Q' x e' s') : Co gt P wf c e s Q' :=
  fun code hc cx w act E hd R => wp_mono (h code hc cx w act E hd R) fun _ _ _ ⟨x, e', s', h1, h2, h3⟩ => ⟨x, e', s', h1, hq _ _ _ h2, h3⟩

/-- slots forgotten -/
def Forg (e1 e : List V) : Prop := e1.length = e.length ∧ ∀ t, t < e.length → e1.getD t unV = e.getD t unV ∨ e1.getD t unV = .bad

theorem Forg.refl (e : List V) : Forg e e := ⟨rfl, fun _ _ => .inl rfl⟩

theorem ERep.forg {cx : Cx} {h : Array Obj} {n : Nat → Prop} {e1 e : List V} {tmps : Array Value} (E : ERep gt cx h n e tmps) (hf : Forg e1 e) : ERep gt cx h n e1 tmps := by
  refine ⟨E.gl, by rw [hf.1, E.len], fun t => ?_⟩
  by_cases ht : t < e.length
  · rcases hf.2 t ht with h1 | h1
    · rw [h1]; exact E.rep t
    · rw [h1]; exact .bad _
  · have h0 := E.rep t
    have e1' : e1.getD t unV = unV := by simp only [List.getD]; rw [List.getElem?_eq_none (by rw [hf.1]; omega)]; rfl
    have e2' : e.getD t unV = unV := by simp only [List.getD]; rw [List.getElem?_eq_none (by omega)]; rfl
    rw [e1', ← e2']; exact h0

theorem After.weak {cx : Cx} {w : World} {e' e1 : List V} {s' s1 : St} {a' : Act} {w' : World} (A : After gt cx s w e' s' a' w') (hf : Forg e1 e') (hs : Sub s1 s') : After gt cx s w e1 s1 a' w' :=
  let ⟨cx', x1, x2, x3, x4, x5⟩ := A
  ⟨cx', by rw [hs.L]; exact x1.forg hf, x2, x3.sub hs, x4.sub hs, x5⟩

/-- the end may be told with less -/
theorem Co.weak {c : C} {Q' : X → List V → St → Prop} (h : Co gt P wf c e s Q') (hq : ∀ x e' s', Q' x e' s' → ∃ e1 s1, Forg e1 e' ∧ Sub s1 s' ∧ Q x e1 s1) : Co gt P wf c e s Q :=
  fun code hc cx w act E hd R => wp_mono (h code hc cx w act E hd R) fun _ _ _ ⟨x, e', s', h1, h2, h3⟩ =>
    let ⟨e1, s1, f1, f2, f3⟩ := hq _ _ _ h2; ⟨x, e1, s1, h1, f3, h3.weak f1 f2⟩

/-- the beginning may be told with less -/
theorem Co.pre {c : C} {e1 : List V} {s1 : St} (hf : Forg e1 e) (hs : Sub s1 s) (h : Co gt P wf c e1 s1 Q) : Co gt P wf c e s Q := by
  intro code hc cx w act E hd R
  refine wp_mono (h code hc cx w act (by rw [hs.L]; exact E.forg hf) hd (R.sub hs)) fun _ _ _ ⟨x, e', s', h1, h2, h3⟩ => ⟨x, e', s', h1, h2, ?_⟩
  have : Ext cx s w.heap cx s1 w.heap := (Ext.refl cx s w.heap).sub hs
  exact h3.trans this .rfl

/-- what every state knows -/
theorem Co.wfs {c : C} (h : (∀ l, ¬ s.L l → s.get l = none) → Co gt P wf c e s Q) : Co gt P wf c e s Q :=
  fun code hc cx w act E hd R => h R.wf code hc cx w act E hd R

theorem Co.skip (h : Q .nrm e s) : Co gt P wf .skip e s Q := by
  intro code hc cx w act E hd R
  cases code <;> simp only [cC] at hc <;> first
    | (cases hc; done)
    | exact wp_skip ⟨.nrm, e, s, rfl, h, cx, E, hd, R, .refl _ _ _, .rfl⟩
    | (split at hc <;> first | (cases hc; done) | (split at hc <;> first | (cases hc; done) | (split at hc <;> cases hc)))

theorem Co.ops {l : List I} {e' : List V} {s' : St} (hr : Run gt P l e s e' s') (h : Q .nrm e' s') : Co gt P wf (.ops l) e s Q := by
  intro code hc cx w act E hd R
  cases code with
  | region id ops draw =>
    simp only [cC] at hc
    split at hc
    · rename_i is his
      split at hc
      · split at hc <;> cases hc
      · rename_i hdr
        cases hc
        have hdr' : draw = false := by simpa using hdr
        subst hdr'
        refine wp_region ?_
        have := ops_wp (Q := fun ex a' w' => ∃ x e' s', exitOf x = ex ∧ Q x e' s' ∧ After gt cx s w e' s' a' w') ops.toList 0 l (by simp) his e s e' s' hr cx w act E hd R (fun a' w' hA => ⟨.nrm, e', s', rfl, h, hA⟩)
        rw [List.range_eq_range']
        simpa using this
    · cases hc
  | cond c a b => simp only [cC] at hc; split at hc <;> cases hc
  | _ => simp only [cC] at hc; cases hc

theorem Co.seq {a b : C} (h : Co gt P wf a e s fun x e' s' => match x with | .nrm => Co gt P wf b e' s' Q | x => Q x e' s') : Co gt P wf (.seq a b) e s Q := by
  intro code hc cx w act E hd R
  cases code with
  | seq ca cb =>
    simp only [cC, C.seq.injEq] at hc
    refine wp_seq (wp_mono (h ca hc.1 cx w act E hd R) fun ex a' w' ⟨x, e', s', h1, h2, h3⟩ => ?_)
    subst h1
    cases x with
    | nrm =>
      obtain ⟨cx', x1, x2, x3, x4, x5⟩ := h3
      exact wp_mono (h2 cb hc.2 cx' w' a' x1 x2 x3) fun ex' a'' w'' ⟨y, e2, s2, g1, g2, g3⟩ => ⟨y, e2, s2, g1, g2, g3.trans x4 x5⟩
    | ret => exact ⟨.ret, e', s', rfl, h2, h3⟩
    | exit id => exact ⟨.exit id, e', s', rfl, h2, h3⟩
  | region id ops draw =>
    simp only [cC] at hc
    split at hc
    · split at hc
      · split at hc <;> cases hc
      · cases hc
    · cases hc
  | cond c a b => simp only [cC] at hc; split at hc <;> cases hc
  | _ => simp only [cC] at hc; cases hc

theorem Co.cond {c : Arg} {a b : C} {t : Bool} (hc0 : c.ev e = .b t) (h : Co gt P wf (if t then a else b) e s Q) : Co gt P wf (.cond c a b) e s Q := by
  intro code hc cx w act E hd R
  cases code with
  | cond c' ca cb =>
    simp only [cC] at hc
    split at hc
    · rename_i c1 hc1
      cases hc
      have hr := arg_rep E hc1
      rw [hc0] at hr
      generalize hx : act.eval c' = x at hr
      cases hr
      refine wp_cond hx ?_
      cases t
      · exact h cb rfl cx w act E hd R
      · exact h ca rfl cx w act E hd R
    · cases hc
  | region id ops draw =>
    simp only [cC] at hc
    split at hc
    · split at hc
      · split at hc <;> cases hc
      · cases hc
    · cases hc
  | _ => simp only [cC] at hc; cases hc

theorem Co.blk {id : Nat} {a : C} (h : Co gt P wf a e s fun x e' s' => match x with | .exit i => if i = id then Q .nrm e' s' else Q (.exit i) e' s' | x => Q x e' s') : Co gt P wf (.blk id a) e s Q := by
  intro code hc cx w act E hd R
  cases code with
  | block id' ca =>
    simp only [cC, C.blk.injEq] at hc
    obtain ⟨rfl, hc⟩ := hc
    refine wp_block (wp_mono (h ca hc cx w act E hd R) fun ex a' w' ⟨x, e', s', h1, h2, h3⟩ => ?_)
    subst h1
    cases x with
    | nrm => exact ⟨.nrm, e', s', rfl, h2, h3⟩
    | ret => exact ⟨.ret, e', s', rfl, h2, h3⟩
    | exit i =>
      simp only [exitOf, Exit.inBlock]
      by_cases hi : i = id'
      · simp only [hi, if_true] at h2 ⊢
        exact ⟨.nrm, e', s', rfl, h2, h3⟩
      · simp only [hi, if_false] at h2 ⊢
        exact ⟨.exit i, e', s', rfl, h2, h3⟩
  | region id ops draw =>
    simp only [cC] at hc
    split at hc
    · split at hc
      · split at hc <;> cases hc
      · cases hc
    · cases hc
  | cond c a b => simp only [cC] at hc; split at hc <;> cases hc
  | _ => simp only [cC] at hc; cases hc

theorem Co.exit {id : Nat} (h : Q (.exit id) e s) : Co gt P wf (.exit id) e s Q := by
  intro code hc cx w act E hd R
  cases code with
  | exit id' =>
    simp only [cC, C.exit.injEq] at hc
    subst hc
    exact wp_exit ⟨.exit id', e, s, rfl, h, cx, E, hd, R, .refl _ _ _, .rfl⟩
  | region id ops draw =>
    simp only [cC] at hc
    split at hc
    · split at hc
      · split at hc <;> cases hc
      · cases hc
    · cases hc
  | cond c a b => simp only [cC] at hc; split at hc <;> cases hc
  | _ => simp only [cC] at hc; cases hc

theorem Co.ret (h : Q .ret e s) : Co gt P wf .ret e s Q := by
  intro code hc cx w act E hd R
  cases code with
  | ret => exact wp_ret ⟨.ret, e, s, rfl, h, cx, E, hd, R, .refl _ _ _, .rfl⟩
  | region id ops draw =>
    simp only [cC] at hc
    split at hc
    · split at hc
      · split at hc <;> cases hc
      · cases hc
    · cases hc
  | cond c a b => simp only [cC] at hc; split at hc <;> cases hc
  | _ => simp only [cC] at hc; cases hc

/-- loops, by a measure that need not stand in a slot -/
theorem wp_loop_gen {c : Code} {Q : Exit → Act → World → Prop} (J : Nat → Act → World → Prop) (round : ∀ n a w, J n a w → c.wp P (Exit.then (fun a' w' => ∃ m, m < n ∧ J m a' w') Q) a w) {n : Nat} {a : Act} {w : World} (h0 : J n a w) : (Code.loop c).wp P Q a w := by
  classical
  have hex : ∀ a w, (∃ n, J n a w) → ∃ m, J m a w ∧ ∀ k, J k a w → m ≤ k := fun a w ⟨n, hn⟩ => by
    induction n using Nat.strongRecOn with
    | _ n ih =>
      by_cases h : ∃ k, k < n ∧ J k a w
      · obtain ⟨k, hk, hj⟩ := h; exact ih k hk hj
      · exact ⟨n, hn, fun k hk => by rcases Nat.lt_or_ge k n with h1 | h1; exact (h ⟨k, h1, hk⟩).elim; exact h1⟩
  let μ : Act → World → Nat := fun a w => if h : ∃ n, J n a w then Classical.choose (hex a w h) else 0
  have hμ : ∀ a w, (∃ n, J n a w) → J (μ a w) a w ∧ ∀ k, J k a w → μ a w ≤ k := fun a w h => by
    simp only [μ, h, dif_pos]; exact Classical.choose_spec (hex a w h)
  refine wp_loop (fun a w => ∃ n, J n a w) μ ⟨n, h0⟩ fun a w hI => ?_
  refine wp_mono (round _ a w (hμ a w hI).1) fun ex a' w' hq => ?_
  cases ex with
  | normal =>
    obtain ⟨m, hm, hj⟩ := hq
    exact ⟨⟨m, hj⟩, Nat.lt_of_le_of_lt ((hμ a' w' ⟨m, hj⟩).2 m hj) hm⟩
  | _ => exact hq

theorem Co.loop {c : C} (Inv : Nat → List V → St → Prop) {n : Nat} (h0 : Inv n e s) (round : ∀ n e s, Inv n e s → Co gt P wf c e s fun x e' s' => match x with | .nrm => ∃ m e1 s1, m < n ∧ Forg e1 e' ∧ Sub s1 s' ∧ Inv m e1 s1 | x => Q x e' s') : Co gt P wf (.loop c) e s Q := by
  intro code hc cx w act E hd R
  cases code with
  | loop cc =>
    simp only [cC, C.loop.injEq] at hc
    refine wp_loop_gen (fun n a' w' => ∃ e1 s1, Inv n e1 s1 ∧ After gt cx s w e1 s1 a' w') (fun n a' w' ⟨e1, s1, hi, cx1, x1, x2, x3, x4, x5⟩ => ?_) (n := n) ⟨e, s, h0, cx, E, hd, R, .refl _ _ _, .rfl⟩
    refine wp_mono (round n e1 s1 hi cc hc cx1 w' a' x1 x2 x3) fun ex a'' w'' ⟨x, e2, s2, g1, g2, g3⟩ => ?_
    subst g1
    cases x with
    | nrm =>
      obtain ⟨m, e3, s3, hm, hf, hs, hi'⟩ := g2
      exact ⟨m, hm, e3, s3, hi', (g3.weak hf hs).trans x4 x5⟩
    | ret => exact ⟨.ret, e2, s2, rfl, g2, g3.trans x4 x5⟩
    | exit id => exact ⟨.exit id, e2, s2, rfl, g2, g3.trans x4 x5⟩
  | region id ops draw =>
    simp only [cC] at hc
    split at hc
    · split at hc
      · split at hc <;> cases hc
      · cases hc
    · cases hc
  | cond c a b => simp only [cC] at hc; split at hc <;> cases hc
  | _ => simp only [cC] at hc; cases hc

/-! functions -/
def resM (tmps : Array Value) : ResultVar → Sem Value
  | .tmp t => pure (tmps.getD t undef)
  | .cell a t => do loadVar t (← asAddr (tmps.getD a undef))

theorem loadVar_rep {cx : Cx} {w : World} {act : Act} (E : ERep gt cx w.heap s.L e act.tmps) (R : Rel cx s w.heap) : ∀ (rs : List ResultVar) (rs' : List Rs), mapO (cRs P) rs = some rs' → ∀ vs, resV e s rs' = some vs →
    ∃ xs : List Value, (rs.mapM (resM act.tmps)).run P w = .ok xs w ∧ xs.length = vs.length ∧ ∀ j, j < vs.length → VRep cx w.heap s.L (vs.getD j .bad) (xs.getD j undef)
  | [], rs', hm, vs, hv => by
    simp [mapO] at hm; subst hm
    simp [resV] at hv; subst hv
    exact ⟨[], rfl, rfl, fun j hj => by simp at hj⟩
  | r :: rs, rs', hm, vs, hv => by
    simp only [mapO] at hm
    split at hm
    · rename_i r1 rs1 h1 h2
      cases hm
      simp only [resV] at hv
      split at hv
      · cases hv
      · rename_i v hv1
        split at hv
        · cases hv
        · rename_i vs' hv2
          cases hv
          obtain ⟨xs, e1, e2, e3⟩ := loadVar_rep E R rs rs1 h2 vs' hv2
          have key : ∃ x, (resM act.tmps r).run P w = .ok x w ∧ VRep cx w.heap s.L v x := by
            cases r with
            | tmp t =>
              simp only [cRs] at h1; cases h1
              simp only at hv1; cases hv1
              exact ⟨_, rfl, E.rep t⟩
            | cell a t =>
              have hp : ∀ vp, VRep cx w.heap s.L vp (act.tmps.getD a undef) → (∃ l o, vp = .p l o) ∨ (∃ q o, vp = .q q o) → (resM act.tmps (.cell a t)).run P w = (Instr.loadAt t (act.tmps.getD a undef)).run P w := fun vp hr hvp => by
                show (do loadVar t (← asAddr (act.tmps.getD a undef)) : Sem Value).run P w = _
                generalize act.tmps.getD a undef = ta at hr ⊢
                rcases hvp with ⟨l, o, rfl⟩ | ⟨q, o, rfl⟩ <;> cases hr <;> simp [asAddr, Instr.loadAt, Instr.sureAddr]
              simp only [cRs] at h1
              split at h1
              · rename_i n g1 g2
                cases h1
                simp only [Option.map_eq_some_iff] at hv1
                obtain ⟨⟨v1, s1⟩, k1, k2⟩ := hv1
                cases k2
                have hshape : (∃ l o, (Arg.t a).ev e = .p l o) ∨ (∃ q o, (Arg.t a).ev e = .q q o) := by
                  simp only [aop] at k1
                  split at k1
                  · rename_i l o h; exact .inl ⟨l, o, h⟩
                  · rename_i q o h; exact .inr ⟨q, o, h⟩
                  · cases k1
                have hs1 : s1 = s := by
                  simp only [aop] at k1
                  split at k1
                  · split at k1
                    · split at k1
                      · cases k1; rfl
                      · cases k1
                    · cases k1
                  · split at k1
                    · cases k1; rfl
                    · cases k1
                  · cases k1
                subst hs1
                rw [hp _ (E.rep a) hshape]
                obtain ⟨x, w', cx', f1, f2, f3, f4⟩ := sim_loadn (P := P) (a := .t a) R g1 g2 (E.rep a) k1
                have := sim_loadn (P := P) (a := .t a) R g1 g2 (E.rep a) k1
                simp only [aop] at k1
                split at k1
                · rename_i l o hev
                  split at k1
                  · rename_i cs z ty hg
                    split at k1
                    · rename_i hle
                      cases k1
                      have hx := E.rep a
                      have hev' : e.getD a unV = .p l o := hev
                      rw [hev'] at hx
                      generalize act.tmps.getD a undef = ta at hx
                      cases hx
                      obtain ⟨fc, c1, c2, c3⟩ := obj_cells R hg
                      refine ⟨_, ?_, (Row.seg fc hle c2 c3).ag⟩
                      simp only [Instr.loadAt, Instr.sureAddr, Sem.run_bind, Sem.run_pure, Result.andThen_ok, loadVar, r_isAgg w g1, if_true, r_size w g2,
                        r_loadCells w (cx.r l).b ((cx.r l).d + o) n (fun j => fc (o + j)) (fun j hj => by rw [Nat.add_assoc]; exact c1 _ (by omega))]
                    · cases k1
                  · cases k1
                · rename_i q o hev
                  split at k1
                  · rename_i hle
                    cases k1
                    have hx := E.rep a
                    have hev' : e.getD a unV = .q q o := hev
                    rw [hev'] at hx
                    generalize act.tmps.getD a undef = ta at hx
                    cases hx
                    rename_i b d fc o1 hz hcc hvv
                    refine ⟨_, ?_, (Row.seg fc hle o1 hvv).ag⟩
                    simp only [Instr.loadAt, Instr.sureAddr, Sem.run_bind, Sem.run_pure, Result.andThen_ok, loadVar, r_isAgg w g1, if_true, r_size w g2,
                      r_loadCells w b (d + o) n (fun j => fc (o + j)) (fun j hj => by rw [Nat.add_assoc]; exact hcc _ (by omega))]
                  · cases k1
                · cases k1
              · rename_i n g1 g2
                cases h1
                simp only [Option.map_eq_some_iff] at hv1
                obtain ⟨⟨v1, s1⟩, k1, k2⟩ := hv1
                cases k2
                simp only [aop] at k1
                split at k1
                · rename_i l o hev
                  split at k1
                  · rename_i cs z ty hg
                    simp only [Option.map_eq_some_iff] at k1
                    obtain ⟨v', k3, k4⟩ := k1
                    cases k4
                    have hx := E.rep a
                    have hev' : e.getD a unV = .p l o := hev
                    rw [hp _ (E.rep a) (.inl ⟨l, o, hev'⟩)]
                    rw [hev'] at hx
                    generalize act.tmps.getD a undef = ta at hx
                    cases hx
                    obtain ⟨fc, c1, c2, c3⟩ := obj_cells R hg
                    have ho := list_get_lt k3
                    refine ⟨fc o, ?_, ?_⟩
                    · simp only [Instr.loadAt, Instr.sureAddr, Sem.run_bind, Sem.run_pure, Result.andThen_ok, loadVar, r_isAgg w g1, Bool.false_eq_true, if_false]
                      exact r_load w _ _ _ (c1 o ho)
                    · have := c3 o ho
                      rwa [List.getD, k3] at this
                  · cases k1
                · rename_i q o hev
                  simp only [Option.map_eq_some_iff] at k1
                  obtain ⟨v', k3, k4⟩ := k1
                  cases k4
                  have hx := E.rep a
                  have hev' : e.getD a unV = .q q o := hev
                  rw [hp _ (E.rep a) (.inr ⟨q, o, hev'⟩)]
                  rw [hev'] at hx
                  generalize act.tmps.getD a undef = ta at hx
                  cases hx
                  rename_i b d fc o1 hz hcc hvv
                  have ho := list_get_lt k3
                  refine ⟨fc o, ?_, ?_⟩
                  · simp only [Instr.loadAt, Instr.sureAddr, Sem.run_bind, Sem.run_pure, Result.andThen_ok, loadVar, r_isAgg w g1, Bool.false_eq_true, if_false]
                    exact r_load w _ _ _ (hcc o ho)
                  · have := hvv o ho
                    rwa [List.getD, k3] at this
                · cases k1
              · cases h1
          obtain ⟨x, f1, f2⟩ := key
          refine ⟨x :: xs, ?_, by simp [e2], fun j hj => ?_⟩
          · simp only [List.mapM_cons, Sem.run_bind, f1, Result.andThen_ok, e1, Sem.run_pure]
          · cases j with
            | zero => simpa using f2
            | succ j => simpa using e3 j (by simpa using hj)
    · cases hm

theorem Den.of {f : FuncId} {F : F} {args : List V} {v : V} {s' : St} (hF : cF gt P wf f = some F)
    (h : Co gt P wf F.body (args ++ List.replicate (F.nt - args.length) unV) s fun x e1 s1 => (x = .nrm ∨ x = .ret) ∧ ∃ s2 vs, Sub s' s2 ∧ s2 = s1 ∧ resV e1 s1 F.res = some vs ∧ packV vs = v) : Den gt P f args s v s' := by
  intro cx w xs R G A
  unfold cF at hF
  split at hF
  · cases hF
  · rename_i fn hfn
    split at hF
    · cases hF
    · rename_i b hb
      split at hF
      · rename_i rs hrs
        cases hF
        simp only at h
        have E0 : ERep gt cx w.heap s.L (args ++ List.replicate (fn.ntmps - args.length) unV) (xs ++ Array.replicate (fn.ntmps - xs.size) undef) := by
          refine ⟨G, by simp [A.len], fun t => ?_⟩
          by_cases ht : t < args.length
          · have h1 := A.rep t ht
            have e1 : (args ++ List.replicate (fn.ntmps - args.length) unV).getD t unV = args.getD t .bad := by
              simp only [List.getD]; rw [List.getElem?_append_left ht, List.getElem?_eq_getElem ht]; rfl
            have e2 : (xs ++ Array.replicate (fn.ntmps - xs.size) undef).getD t undef = xs.getD t undef := by
              apply arrGetD_eq; rw [Array.getElem?_append_left (by rw [A.len]; exact ht)]
            rw [e1, e2]; exact h1
          · have e1 : (args ++ List.replicate (fn.ntmps - args.length) unV).getD t unV = unV := by
              simp only [List.getD]; rw [List.getElem?_append_right (by omega), List.getElem?_replicate]
              split <;> rfl
            have e2 : (xs ++ Array.replicate (fn.ntmps - xs.size) undef).getD t undef = undef := by
              rw [Array.getD_eq_getD_getElem?, Array.getElem?_append_right (by rw [A.len]; omega), Array.getElem?_replicate]
              split <;> rfl
            rw [e1, e2]; exact VRep.un _ _ _
        refine calls_of_wp hfn hb (wp_mono (h b rfl cx w { tmps := xs ++ Array.replicate (fn.ntmps - xs.size) undef, defers := [] } E0 rfl R) fun ex a' w' ⟨x, e1, s1, h1, ⟨h2, s2, vs, h3, h4, h5, h6⟩, cx', x1, x2, x3, x4, x5⟩ => ?_)
        subst h4
        have hfin : a'.defers = [] ∧ ∃ y, (results fn a'.tmps).run P w' = .ok y w' ∧ ∃ z cx', Ending.returned y = .returned z ∧ VRep cx' w'.heap s'.L v z ∧ Rel cx' s' w'.heap ∧ Ext cx s w.heap cx' s' w'.heap ∧ Qt w w' := by
          refine ⟨x2, ?_⟩
          obtain ⟨ys, y1, y2, y3⟩ := loadVar_rep x1 x3 fn.results.toList rs hrs vs h5
          have hres : (results fn a'.tmps).run P w' = .ok (if h : ys.toArray.size = 1 then ys.toArray[0] else .tuple ys.toArray) w' := by
            have : results fn a'.tmps = (do let vs ← fn.results.mapM (resM a'.tmps); pure (if h : vs.size = 1 then vs[0] else .tuple vs)) := rfl
            rw [this, Sem.run_bind, Array.mapM_eq_mapM_toList, Sem.run_map, y1]
            rfl
          refine ⟨_, hres, _, cx', rfl, ?_, x3.sub h3, x4.sub h3, x5⟩
          rw [h3.L, ← h6]
          unfold packV
          split
          · rename_i v1
            have hl : ys.length = 1 := by rw [y2]; rfl
            have := y3 0 (by simp)
            obtain ⟨y, rfl⟩ := List.length_eq_one_iff.1 hl
            simpa using this
          · rename_i hne
            have hl : ys.toArray.size ≠ 1 := by
              intro hl
              have : vs.length = 1 := by rw [← y2]; simpa using hl
              obtain ⟨y, rfl⟩ := List.length_eq_one_iff.1 this
              exact hne y rfl
            rw [dif_neg hl]
            refine .tu vs ys.toArray (by simp [y2]) (fun j hj => ?_)
            have := y3 j hj
            simpa [Array.getD_eq_getD_getElem?, List.getD] using this
        rcases h2 with rfl | rfl
        · subst h1; exact hfin
        · subst h1; exact hfin
      · cases hF

end
end Rf
