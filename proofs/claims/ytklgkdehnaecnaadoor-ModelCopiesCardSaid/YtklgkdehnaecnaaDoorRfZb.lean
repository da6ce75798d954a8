/-
  The step-by-step machine says what the model does: a region in any frame; frames left.
-/
import Derived.Test.YtklgkdehnaecnaaDoorRfZa
set_option linter.all false
set_option linter.unusedSimpArgs false
namespace Rf
open Go
section
variable {gt : Nat → Option V} {P : Program}

/-- a region's operations in any frame, where nothing is put off and nothing goes wrong -/
theorem ops_frame {ops : Array Oper} (hnd : ∀ (i : Nat) (o : Oper), ops[i]? = some o → isDef o.op = false) {Q : Exit → Act → World → Prop} (hQ : ∀ ex a w, Q ex a w → ex = .normal) : ∀ (l : List Nat) (a : Act) (w : World), wpOps P ops Q l a w →
    ∀ (F : Frame) (k : List Item) (cs : List Frame) (ds : List Deferred), F.mode = .run → F.todo = .inRegion ops l :: k → F.tmps = a.tmps → F.defers = a.defers ++ ds → ∃ a' w', Q .normal a' w' ∧ Steps P (lone F cs w) (lone { F with tmps := a'.tmps, todo := k, defers := a'.defers ++ ds } cs w')
  | [], a, w, h, F, k, cs, ds, hm, ht, he, hdf => by
    refine ⟨a, w, h, .one (step_lone_go ?_)⟩
    simp only [stepG, hm, stepG.exec, ht, GStep.bare_go, ← he, ← hdf]
  | i :: rest, a, w, h, F, k, cs, ds, hm, ht, he, hdf => by
    simp only [wpOps] at h
    cases ho : ops[i]? with
    | none =>
      simp only [ho] at h
      have hs : step P (lone F cs w) = .next (lone { F with todo := .inRegion ops rest :: k } cs w) := by
        refine step_lone_go ?_
        have hfin : F.finish undef = { F with todo := .inRegion ops rest :: k } := by simp only [Frame.finish, ht, ho, Option.bind_none]
        rw [← hfin]
        simp only [stepG, hm, stepG.exec, ht, ho, Option.map_none, Option.getD_none, Bool.false_eq_true, if_false, GStep.bare_go]
      obtain ⟨a', w', hq, hss⟩ := ops_frame hnd hQ rest a w h { F with todo := .inRegion ops rest :: k } k cs ds hm rfl he hdf
      exact ⟨a', w', hq, .head hs hss⟩
    | some o =>
      simp only [ho] at h
      have hd := hnd i o ho
      have hev : F.eval = a.eval := by rw [evalF F]; funext x; cases x <;> simp [Act.eval, he]
      by_cases hw : Region.wanted o (yielded ops a.tmps) = true
      · simp only [hw, if_true] at h
        have hwF : Region.wanted o (yielded ops F.tmps) = true := by rw [he]; exact hw
        rcases h with h | ⟨_, a₀, w₀, hq⟩
        case inr => have := hQ _ _ _ hq; cases this
        have hput : ∀ x, ((⟨F.tmps, []⟩ : Act).put o.dst x).tmps = (a.put o.dst x).tmps := fun x => by rw [he]; cases o.dst <;> rfl
        simp only [Oper.wp, Oper.upon] at h
        split at h
        · rename_i v w' hr
          have hs := step_val (P := P) (cs := cs) (x := v) hm ht ho hwF hd (.inl (by rw [hev]; exact hr))
          obtain ⟨a', w'', hq, hss⟩ := ops_frame hnd hQ rest _ _ h { F with tmps := ((⟨F.tmps, []⟩ : Act).put o.dst v).tmps, todo := .inRegion ops rest :: k } k cs ds (by exact hm) rfl (by simp only [hput]) (by simp only [put_defers]; exact hdf)
          exact ⟨a', w'', hq, .head hs hss⟩
        · rename_i w' hr
          have hs := step_val (P := P) (cs := cs) (x := undef) hm ht ho hwF hd (.inr ⟨by rw [hev]; exact hr, rfl⟩)
          obtain ⟨a', w'', hq, hss⟩ := ops_frame hnd hQ rest _ _ h { F with tmps := ((⟨F.tmps, []⟩ : Act).put o.dst undef).tmps, todo := .inRegion ops rest :: k } k cs ds (by exact hm) rfl (by simp only [hput]) (by simp only [put_defers]; exact hdf)
          exact ⟨a', w'', hq, .head hs hss⟩
        · rename_i d w' hr
          have hfin : ({ F with defers := d :: F.defers } : Frame).finish undef = { F with defers := d :: F.defers, tmps := ((⟨F.tmps, []⟩ : Act).put o.dst undef).tmps, todo := .inRegion ops rest :: k } := by
            simp only [Frame.finish, ht, ho, Option.bind_some]
            cases o.dst <;> rfl
          have hs : step P (lone F cs w) = .next (lone { F with defers := d :: F.defers, tmps := ((⟨F.tmps, []⟩ : Act).put o.dst undef).tmps, todo := .inRegion ops rest :: k } cs w') := by
            refine step_lone_go ?_
            rw [stepG_F hm ht ho hwF, oper_apply ht ho hd, ← hfin]
            simp [stepG.apply, Sem.runT_eq, hev, hr]
          obtain ⟨a', w'', hq, hss⟩ := ops_frame hnd hQ rest _ _ h { F with defers := d :: F.defers, tmps := ((⟨F.tmps, []⟩ : Act).put o.dst undef).tmps, todo := .inRegion ops rest :: k } k cs ds (by exact hm) rfl (by simp only [hput]; cases o.dst <;> rfl) (by simp only [put_defers, hdf]; rfl)
          exact ⟨a', w'', hq, .head hs hss⟩
        · rename_i f args w' hr
          obtain ⟨en, w'', fr, hR, hsteps, _, hleave⟩ := h (F :: cs)
          have henter := step_enter (P := P) (cs := cs) hm ht ho hwF hd (by rw [hev]; exact hr)
          cases en with
          | returned v =>
            have hback := step_leave_returned (c := F) (cs := cs) hleave
            have hfin : F.finish v = { F with tmps := ((⟨F.tmps, []⟩ : Act).put o.dst v).tmps, todo := .inRegion ops rest :: k } := by
              simp only [Frame.finish, ht, ho, Option.bind_some]
              cases o.dst <;> rfl
            rw [hfin] at hback
            obtain ⟨a', w₃, hq, hss⟩ := ops_frame hnd hQ rest _ _ hR { F with tmps := ((⟨F.tmps, []⟩ : Act).put o.dst v).tmps, todo := .inRegion ops rest :: k } k cs ds (by exact hm) rfl (by simp only [hput]) (by simp only [put_defers]; exact hdf)
            exact ⟨a', w₃, hq, .head henter (hsteps.trans (.head hback hss))⟩
          | panicked chain => have := hQ _ _ _ hR; cases this
          | outgrown => obtain ⟨a₀, w₀, hq⟩ := hR; have := hQ _ _ _ hq; cases this
        · rename_i row args w' hr
          obtain ⟨v, w'', hR, hsteps⟩ := h F cs
          have henter : step P (lone F cs w) = .next (lone (Frame.ofRow P row args .normal) (F :: cs) w') := by
            refine step_lone_go ?_
            rw [stepG_F hm ht ho hwF, oper_apply ht ho hd]
            simp [stepG.apply, Sem.runT_eq, hev, hr, ht]
          have hfin : F.finish v = { F with tmps := ((⟨F.tmps, []⟩ : Act).put o.dst v).tmps, todo := .inRegion ops rest :: k } := by
            simp only [Frame.finish, ht, ho, Option.bind_some]
            cases o.dst <;> rfl
          rw [hfin] at hsteps
          obtain ⟨a', w₃, hq, hss⟩ := ops_frame hnd hQ rest _ _ hR { F with tmps := ((⟨F.tmps, []⟩ : Act).put o.dst v).tmps, todo := .inRegion ops rest :: k } k cs ds (by exact hm) rfl (by simp only [hput]) (by simp only [put_defers]; exact hdf)
          exact ⟨a', w₃, hq, .head henter (hsteps.trans hss)⟩
        · have := hQ _ _ _ h; cases this
        · exact h.elim
      · simp only [hw, if_false, Bool.false_eq_true] at h
        have hs := step_skipop (P := P) (cs := cs) (w := w) hm ht ho (by rw [he]; simpa using hw)
        obtain ⟨a', w'', hq, hss⟩ := ops_frame hnd hQ rest _ _ h { F with tmps := ((⟨F.tmps, []⟩ : Act).put o.dst undef).tmps, todo := .inRegion ops rest :: k } k cs ds (by exact hm) rfl (by rw [he]; cases o.dst <;> rfl) (by simp only [put_defers]; exact hdf)
        exact ⟨a', w'', hq, .head hs hss⟩


/-- one operation in any frame -/
theorem op_frame {ops : Array Oper} {i : Nat} {rest : List Nat} {o : Oper} {F : Frame} {k : List Item} {cs : List Frame} {w : World} {next : Act → World → Prop} (hm : F.mode = .run) (ht : F.todo = .inRegion ops (i :: rest) :: k) (ho : ops[i]? = some o) (hd : isDef o.op = false)
    (hw : Region.wanted o (yielded ops F.tmps) = true) (hn : ∀ a w, next a w → a.defers = []) (h : o.wp P ⟨F.tmps, []⟩ w next (fun _ _ _ => False)) :
    ∃ a' w', next a' w' ∧ Steps P (lone F cs w) (lone { F with tmps := a'.tmps, todo := .inRegion ops rest :: k } cs w') := by
  have hev : F.eval = (⟨F.tmps, []⟩ : Act).eval := evalF F
  simp only [Oper.wp, Oper.upon] at h
  split at h
  · rename_i v w' hr
    exact ⟨_, _, h, .one (step_val (x := v) hm ht ho hw hd (.inl (by rw [hev]; exact hr)))⟩
  · rename_i w' hr
    exact ⟨_, _, h, .one (step_val (x := undef) hm ht ho hw hd (.inr ⟨by rw [hev]; exact hr, rfl⟩))⟩
  · rename_i d w' hr
    have := hn _ _ h
    rw [put_defers] at this
    cases this
  · rename_i f args w' hr
    obtain ⟨en, w'', fr, hR, hsteps, _, hleave⟩ := h (F :: cs)
    have henter := step_enter (P := P) (cs := cs) hm ht ho hw hd (by rw [hev]; exact hr)
    cases en with
    | returned v =>
      have hback := step_leave_returned (c := F) (cs := cs) hleave
      have hfin : F.finish v = { F with tmps := ((⟨F.tmps, []⟩ : Act).put o.dst v).tmps, todo := .inRegion ops rest :: k } := by
        simp only [Frame.finish, ht, ho, Option.bind_some]
        cases o.dst <;> rfl
      rw [hfin] at hback
      exact ⟨_, _, hR, .head henter (hsteps.trans (.one hback))⟩
    | panicked chain => exact hR.elim
    | outgrown => obtain ⟨a₀, w₀, hq⟩ := hR; exact hq.elim
  · rename_i row args w' hr
    obtain ⟨v, w'', hR, hsteps⟩ := h F cs
    have henter : step P (lone F cs w) = .next (lone (Frame.ofRow P row args .normal) (F :: cs) w') := by
      refine step_lone_go ?_
      rw [stepG_F hm ht ho hw, oper_apply ht ho hd]
      simp [stepG.apply, Sem.runT_eq, hev, hr, ht]
    have hfin : F.finish v = { F with tmps := ((⟨F.tmps, []⟩ : Act).put o.dst v).tmps, todo := .inRegion ops rest :: k } := by
      simp only [Frame.finish, ht, ho, Option.bind_some]
      cases o.dst <;> rfl
    rw [hfin] at hsteps
    exact ⟨_, _, hR, .head henter hsteps⟩
  · exact h.elim
  · exact h.elim

section exec
variable {cx : Cx} {s : St} {w : World} {e : List V} {act : Act} {o : Oper} {wh : Bool}

/-- a call of a known function, as an operation -/
theorem call_exec (E : ERep gt cx w.heap s.L e act.tmps) {g : Nat} {args : List Arg} (hk : cK gt P wh o.op = .call g args) :
    ∃ xs, (execOp act.eval o).run P w = .ok (.enter g xs) w ∧ ARep cx w.heap s.L (args.map (·.ev e)) xs := by
  obtain ⟨dst, op, ty, pos, after, guard⟩ := o
  unfold cK at hk
  split at hk
  · rename_i c hop
    obtain ⟨callee, cargs, ats⟩ := c
    simp only at hop
    split at hk
    · rename_i f hcal
      simp only at hcal
      split at hk
      · rename_i hok
        cases hm : mapO (cArg gt) cargs.toList with
        | none => rw [hm] at hk; cases hk
        | some l =>
          rw [hm] at hk
          cases hk
          refine ⟨cargs.map act.eval, ?_, args_rep E hm⟩
          simp only [hop, hcal, execOp, resolve, Act.eval, Deferred.ofValue, Sem.run_bind, Sem.run_pure, Result.andThen_ok, invoke]
          rw [call_run hok]
          simp
      · cases hx : cX gt P f cargs.toList with
        | none => rw [hx] at hk; cases hk
        | some y => rw [hx] at hk; cases hk
    · rename_i f a b hcal
      simp only at hcal
      split at hk
      · rename_i hok
        obtain ⟨hok, ha, hb⟩ := hok
        have ha' : a = #[] := Array.eq_empty_of_size_eq_zero ha
        have hb' : b = #[] := Array.eq_empty_of_size_eq_zero hb
        subst ha'; subst hb'
        cases hm : mapO (cArg gt) cargs.toList with
        | none => rw [hm] at hk; cases hk
        | some l =>
          rw [hm] at hk
          cases hk
          refine ⟨cargs.map act.eval, ?_, args_rep E hm⟩
          simp only [hop, hcal, execOp, resolve, Act.eval, Deferred.ofValue, Sem.run_bind, Sem.run_pure, Result.andThen_ok, invoke]
          rw [call_run hok]
          simp
      · cases hk
    · rename_i t hcal
      cases hm : mapO (cArg gt) cargs.toList with
      | none => rw [hm] at hk; cases hk
      | some l => rw [hm] at hk; cases hk
    · cases hy : cA gt P wh op with
      | none => rw [hy] at hk; cases hk
      | some y => rw [hy] at hk; cases hk
  · cases hy : cA gt P wh op with
    | none => rw [hy] at hk; cases hk
    | some y => rw [hy] at hk; cases hk

/-- arguments behind which a function's own values come -/
theorem ARep.append {cx : Cx} {h : Array Obj} {n : Nat → Prop} {l cap : List V} {xs vs : Array Value} (a : ARep cx h n l xs) (b : ARep cx h n cap vs) : ARep cx h n (l ++ cap) (xs ++ vs) := by
  refine ⟨by rw [Array.size_append, a.len, b.len, List.length_append], fun j hj => ?_⟩
  by_cases hj1 : j < l.length
  · have h1 := a.rep j hj1
    have e1 : (l ++ cap).getD j .bad = l.getD j .bad := by simp only [List.getD]; rw [List.getElem?_append_left hj1]
    have e2 : (xs ++ vs).getD j undef = xs.getD j undef := by apply arrGetD_eq; rw [Array.getElem?_append_left (by rw [a.len]; exact hj1)]
    rw [e1, e2]; exact h1
  · have h1 := b.rep (j - l.length) (by rw [List.length_append] at hj; omega)
    have e1 : (l ++ cap).getD j .bad = cap.getD (j - l.length) .bad := by simp only [List.getD]; rw [List.getElem?_append_right (by omega)]
    have e2 : (xs ++ vs).getD j undef = vs.getD (j - l.length) undef := by apply arrGetD_eq; rw [Array.getElem?_append_right (by rw [a.len]; omega), a.len]
    rw [e1, e2]; exact h1

/-- a call of a function value -/
theorem callv_exec (E : ERep gt cx w.heap s.L e act.tmps) {fa : Arg} {args : List Arg} (hk : cK gt P wh o.op = .callv fa args) :
    ∃ x xs, VRep cx w.heap s.L (fa.ev e) x ∧ ARep cx w.heap s.L (args.map (·.ev e)) xs ∧ execOp act.eval o = (do let d ← Deferred.ofValue x xs; invoke d.target d.args) := by
  obtain ⟨dst, op, ty, pos, after, guard⟩ := o
  unfold cK at hk
  split at hk
  · rename_i c hop
    obtain ⟨callee, cargs, ats⟩ := c
    simp only at hop
    split at hk
    · rename_i f hcal
      split at hk
      · cases hm : mapO (cArg gt) cargs.toList with
        | none => rw [hm] at hk; cases hk
        | some l => rw [hm] at hk; cases hk
      · cases hx : cX gt P f cargs.toList with
        | none => rw [hx] at hk; cases hk
        | some y => rw [hx] at hk; cases hk
    · split at hk
      · cases hm : mapO (cArg gt) cargs.toList with
        | none => rw [hm] at hk; cases hk
        | some l => rw [hm] at hk; cases hk
      · cases hk
    · rename_i t hcal
      simp only at hcal
      cases hm : mapO (cArg gt) cargs.toList with
      | none => rw [hm] at hk; cases hk
      | some l =>
        rw [hm] at hk
        cases hk
        exact ⟨act.tmps.getD t undef, cargs.map act.eval, E.rep t, args_rep E hm, by simp only [hop, hcal, execOp, resolve]; rfl⟩
    · cases hy : cA gt P wh op with
      | none => rw [hy] at hk; cases hk
      | some y => rw [hy] at hk; cases hk
  · cases hy : cA gt P wh op with
    | none => rw [hy] at hk; cases hk
    | some y => rw [hy] at hk; cases hk

theorem fn_call {g : Nat} (hok : callOk P g = true) {vs xs : Array Value} : ((do let d ← Deferred.ofValue (.func (.func g) #[] vs) xs; invoke d.target d.args) : Sem Next).run P w = .ok (.enter g (xs ++ vs)) w := by
  simp only [Deferred.ofValue, Sem.run_bind, Sem.run_pure, Result.andThen_ok, invoke]
  rw [call_run hok]
  simp
end exec

end
end Rf
