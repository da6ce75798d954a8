/-
  Calls, regions and code: what the abstract machine does, the model does.
-/
import Derived.Test.YtklgkdehnaecnaaDoorRfL
set_option linter.all false
set_option linter.unusedSimpArgs false
namespace Rf
open Go

def GRep (gt : Nat → Option V) (cx : Cx) (h : Array Obj) (n : Nat → Prop) : Prop := ∀ g v, gt g = some v → VRep cx h n (.q v 0) (.pointer (some ⟨g, 0, none⟩))

theorem GRep.later {gt : Nat → Option V} {cx cx' : Cx} {h h' : Array Obj} {n n' : Nat → Prop} (G : GRep gt cx h n) (L : Later cx h n cx' h' n') : GRep gt cx' h' n' := fun g v hg => (G g v hg).later L

structure ARep (cx : Cx) (h : Array Obj) (n : Nat → Prop) (args : List V) (xs : Array Value) : Prop where
  len : xs.size = args.length
  rep : ∀ j, j < args.length → VRep cx h n (args.getD j .bad) (xs.getD j undef)

/-- What a call comes to: this value, this state. -/
def Den (gt : Nat → Option V) (P : Program) (f : FuncId) (args : List V) (s : St) (v : V) (s' : St) : Prop :=
  ∀ (cx : Cx) (w : World) (xs : Array Value), Rel cx s w.heap → GRep gt cx w.heap s.L → ARep cx w.heap s.L args xs →
    Calls P f xs w fun e w' => ∃ x cx', e = .returned x ∧ VRep cx' w'.heap s'.L v x ∧ Rel cx' s' w'.heap ∧ Ext cx s w.heap cx' s' w'.heap ∧ Qt w w'

/-- a step of a region -/
def KRun (gt : Nat → Option V) (P : Program) (e : List V) (s : St) (k : K) (v : V) (s' : St) : Prop :=
  match k with
  | .a y => aop e s y = some (v, s')
  | .call f args => Den gt P f (args.map (·.ev e)) s v s'
  | .callv fa args => ∃ f cap, fa.ev e = .fn f cap ∧ callOk P f = true ∧ Den gt P f (args.map (·.ev e) ++ cap) s v s'
  | .bad => False

/-- a region, its operations in their order -/
inductive Run (gt : Nat → Option V) (P : Program) : List I → List V → St → List V → St → Prop
  | nil (e : List V) (s : St) : Run gt P [] e s e s
  | skip {i : I} {r : List I} {e : List V} {s : St} {e' : List V} {s' : St} (hw : wanted e i.g = some false) (h : Run gt P r (setD e i.d unV) s e' s') : Run gt P (i :: r) e s e' s'
  | op {i : I} {r : List I} {e : List V} {s : St} {e' : List V} {s' : St} (v : V) (s1 : St) (hw : wanted e i.g = some true) (hk : KRun gt P e s i.k v s1) (h : Run gt P r (setD e i.d v) s1 e' s') : Run gt P (i :: r) e s e' s'

section
variable {gt : Nat → Option V} {P : Program}

theorem ERep.setD {cx : Cx} {h : Array Obj} {n : Nat → Prop} {e : List V} {act : Act} (E : ERep gt cx h n e act.tmps) {v : V} {x : Value} (hv : VRep cx h n v x) (d : Option Nat) : ERep gt cx h n (Rf.setD e d v) (act.put d x).tmps := by
  cases d with
  | none => exact E
  | some d => exact E.set hv d

theorem wanted_run {cx : Cx} {h : Array Obj} {n : Nat → Prop} {e : List V} {act : Act} (E : ERep gt cx h n e act.tmps) {ops : Array Oper} {o : Oper} {wh : Bool} {i : I} (hc : cI gt P wh ops o = some i) {b : Bool} (hw : wanted e i.g = some b) :
    Region.wanted o (yielded ops act.tmps) = b := by
  unfold cI at hc
  unfold Region.wanted
  split at hc
  · rename_i hg
    cases hc
    simp only [wanted] at hw
    cases hw
    rw [hg]
  · rename_i j want hg
    split at hc
    · rename_i t ht
      cases hc
      simp only [wanted] at hw
      rw [hg]
      have hrep := E.rep t
      simp only [yielded, ht, Option.bind_some]
      generalize e.getD t unV = ev at hw hrep
      cases hx : act.tmps[t]? with
      | none =>
        have hu : act.tmps.getD t undef = undef := by simp [Array.getD_eq_getD_getElem?, hx]
        rw [hu] at hrep
        cases hrep with
        | bad => cases hw
        | tu => cases hw; rfl
      | some x =>
        have hu : act.tmps.getD t undef = x := by simp [Array.getD_eq_getD_getElem?, hx]
        rw [hu] at hrep
        cases hrep <;> first
          | (cases hw; done)
          | (cases hw; rfl)
    · cases hc

theorem args_rep {cx : Cx} {h : Array Obj} {n : Nat → Prop} {e : List V} {act : Act} (E : ERep gt cx h n e act.tmps) {args : Array Operand} {l : List Arg} (hl : mapO (cArg gt) args.toList = some l) : ARep cx h n (l.map (·.ev e)) (args.map act.eval) := by
  obtain ⟨h1, h2⟩ := mapO_get _ _ _ hl
  refine ⟨by simp [h1], fun j hj => ?_⟩
  have hj' : j < args.size := by simpa [h1] using hj
  obtain ⟨b, h3, h4⟩ := h2 j args[j] (by simp [hj'])
  have := arg_rep E h3
  simpa [List.getD, h4, Array.getD_eq_getD_getElem?, hj'] using this

theorem call_run {f : FuncId} (hf : callOk P f = true) (args : Array Value) (w : World) : (callFunc f args).run P w = .ok (.enter f args) w := by
  unfold callOk at hf
  split at hf
  · rename_i fn hfn
    simp only [Bool.and_eq_true, bne_iff_ne, ne_eq] at hf
    have hb : fn.body.isNone = false := by rw [← Option.not_isSome]; simp [hf.1]
    simp only [callFunc, Sem.run_bind, run_program, Result.andThen_ok, hfn]
    have hn : (fn.name == "runtime.NumGoroutine") = false := by simpa using hf.2
    simp [hn, hb]
  · cases hf

/-- the state after a call -/
def After (gt : Nat → Option V) (cx : Cx) (s : St) (w : World) (e' : List V) (s' : St) (a' : Act) (w' : World) : Prop :=
  ∃ cx', ERep gt cx' w'.heap s'.L e' a'.tmps ∧ a'.defers = [] ∧ Rel cx' s' w'.heap ∧ Ext cx s w.heap cx' s' w'.heap ∧ Qt w w'

/-- One operation that is wanted. -/
theorem oper_run {cx : Cx} {s : St} {w : World} {e : List V} {act : Act} (E : ERep gt cx w.heap s.L e act.tmps) (hd : act.defers = []) (R : Rel cx s w.heap) {o : Oper} {wh : Bool} {v : V} {s1 : St} (hk : KRun gt P e s (cK gt P wh o.op) v s1)
    {next : Act → World → Prop} {Q : Exit → Act → World → Prop} (hn : ∀ x w' cx', ERep gt cx' w'.heap s1.L (setD e o.dst v) (act.put o.dst x).tmps → Rel cx' s1 w'.heap → Ext cx s w.heap cx' s1 w'.heap → Qt w w' → next (act.put o.dst x) w') :
    o.wp P act w next Q := by
  have G : GRep gt cx w.heap s.L := E.gl
  have hA : ∀ y, cA gt P wh o.op = some y → aop e s y = some (v, s1) → o.wp P act w next Q := fun y hy hop => by
    obtain ⟨x, w', cx', h1, h2, h3, h4, h5⟩ := sim_op (P := P) E R hy hop
    have hE : ERep gt cx' w'.heap s1.L (setD e o.dst v) (act.put o.dst x).tmps := (E.later h4.later).setD h2 o.dst
    rcases h1 with h1 | ⟨h1, rfl⟩
    · unfold Oper.wp; rw [h1]; exact hn x w' cx' hE h3 h4 h5
    · unfold Oper.wp; rw [h1]; exact hn undef w' cx' hE h3 h4 h5
  have hB : KRun gt P e s (orBad ((cA gt P wh o.op).map .a)) v s1 → o.wp P act w next Q := fun h => by
    cases hy : cA gt P wh o.op with
    | none => rw [hy] at h; exact h.elim
    | some y => rw [hy] at h; exact hA y hy h
  have hC : ∀ (f : FuncId) (args : List V) (xs : Array Value), (execOp act.eval o).run P w = .ok (.enter f xs) w → ARep cx w.heap s.L args xs → Den gt P f args s v s1 → o.wp P act w next Q := fun f args xs hrun hx hden => by
    unfold Oper.wp
    rw [hrun]
    refine (hden cx w xs R G hx).mono fun en w' ⟨x, cx', h1, h2, h3, h4, h5⟩ => ?_
    subst h1
    exact hn x w' cx' ((E.later h4.later).setD h2 o.dst) h3 h4 h5
  obtain ⟨dst, op, ty, pos, after, guard⟩ := o
  unfold cK at hk
  split at hk
  · rename_i c hop
    obtain ⟨callee, args, ats⟩ := c
    simp only at hop
    split at hk
    · rename_i f hcal
      simp only at hcal
      split at hk
      · rename_i hok
        cases hm : mapO (cArg gt) args.toList with
        | none => rw [hm] at hk; exact hk.elim
        | some l =>
          rw [hm] at hk
          refine hC f _ (args.map act.eval) ?_ (args_rep E hm) hk
          simp only [hop, hcal, execOp, resolve, Act.eval, Deferred.ofValue, Sem.run_bind, Sem.run_pure, Result.andThen_ok, invoke]
          rw [call_run hok]
          simp
      · cases hx : cX gt P f args.toList with
        | none => rw [hx] at hk; exact hk.elim
        | some y =>
          rw [hx] at hk
          obtain ⟨x, w', cx', h1, h2, h3, h4, h5⟩ := sim_X (P := P) E R hx hk
          have hE : ERep gt cx' w'.heap s1.L (setD e dst v) (act.put dst x).tmps := (E.later h4.later).setD h2 dst
          unfold Oper.wp
          have hrun : (execOp act.eval { dst := dst, op := op, type := ty, pos := pos, after := after, guard := guard }).run P w = .ok (.value x) w' := by
            simp only [hop, hcal, execOp, resolve, Act.eval, Deferred.ofValue, Sem.run_bind, Sem.run_pure, Result.andThen_ok, invoke, Array.append_empty, Array.empty_append]
            exact h1
          rw [hrun]
          exact hn x w' cx' hE h3 h4 h5
    · rename_i f a b hcal
      simp only at hcal
      split at hk
      · rename_i hok
        obtain ⟨hok, ha, hb⟩ := hok
        have ha' : a = #[] := Array.eq_empty_of_size_eq_zero ha
        have hb' : b = #[] := Array.eq_empty_of_size_eq_zero hb
        subst ha'; subst hb'
        cases hm : mapO (cArg gt) args.toList with
        | none => rw [hm] at hk; exact hk.elim
        | some l =>
          rw [hm] at hk
          refine hC f _ (args.map act.eval) ?_ (args_rep E hm) hk
          simp only [hop, hcal, execOp, resolve, Act.eval, Deferred.ofValue, Sem.run_bind, Sem.run_pure, Result.andThen_ok, invoke]
          rw [call_run hok]
          simp
      · exact hk.elim
    · rename_i t hcal
      simp only at hcal
      cases hm : mapO (cArg gt) args.toList with
      | none => rw [hm] at hk; exact hk.elim
      | some l =>
        rw [hm] at hk
        obtain ⟨f, cap, hf, hok, hden⟩ := hk
        have hr := E.rep t
        have hf' : e.getD t unV = .fn f cap := hf
        rw [hf'] at hr
        generalize hv : act.tmps.getD t undef = tv at hr
        cases hr
        rename_i vs hvs hvr
        have ar := args_rep E hm
        refine hC f _ (args.map act.eval ++ vs) ?_ ?_ hden
        · simp only [hop, hcal, execOp, resolve, Act.eval, Deferred.ofValue, Sem.run_bind, Sem.run_pure, Result.andThen_ok, invoke, hv]
          rw [call_run hok]
          simp
        · have al := ar.len
          refine ⟨by rw [Array.size_append, al, hvs, List.length_append], fun j hj => ?_⟩
          by_cases hj1 : j < (l.map (·.ev e)).length
          · have h1 := ar.rep j hj1
            have e1 : ((l.map (·.ev e)) ++ cap).getD j .bad = (l.map (·.ev e)).getD j .bad := by
              simp only [List.getD]; rw [List.getElem?_append_left hj1]
            have e2 : (args.map act.eval ++ vs).getD j undef = (args.map act.eval).getD j undef := by
              apply arrGetD_eq; rw [Array.getElem?_append_left (by rw [al]; exact hj1)]
            rw [e1, e2]; exact h1
          · have h1 := hvr (j - (l.map (·.ev e)).length) (by rw [List.length_append] at hj; omega)
            have e1 : ((l.map (·.ev e)) ++ cap).getD j .bad = cap.getD (j - (l.map (·.ev e)).length) .bad := by
              simp only [List.getD]; rw [List.getElem?_append_right (by omega)]
            have e2 : (args.map act.eval ++ vs).getD j undef = vs.getD (j - (l.map (·.ev e)).length) undef := by
              apply arrGetD_eq; rw [Array.getElem?_append_right (by rw [al]; omega), al]
            rw [e1, e2]; exact h1
    · exact hB hk
  · exact hB hk

end
end Rf
