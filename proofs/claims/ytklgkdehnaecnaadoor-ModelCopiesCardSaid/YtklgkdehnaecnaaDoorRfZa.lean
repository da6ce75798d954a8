/-
  The step-by-step machine says what the model does: frames, and each step.
-/
import Derived.Test.YtklgkdehnaecnaaDoorRfZ
import Derived.Test.YtklgkdehnaecnaaDoorRfU
import Derived.AtR
import Derived.Defers
import Derived.RangeFuncRecord
import Derived.RangeFuncNested
set_option linter.all false
set_option linter.unusedSimpArgs false
namespace Rf
open Go

theorem isDef_bad {gt : Nat → Option V} {P : Program} {wh : Bool} {op : Op} (h : isDef op = true) : cK gt P wh op = .bad := by
  cases op <;> first | (cases h; done) | rfl

section
variable (gt : Nat → Option V) (P : Program)

/-- what is put off -/
inductive DR (cx : Cx) (h : Array Obj) (n : Nat → Prop) : D → Deferred → Prop
  | f (g : Nat) (args : List V) (xs cap : Array Value) (ha : ARep cx h n args (xs ++ cap)) : DR cx h n (.f g args) { target := .fn (.func g) cap, args := xs }
  | col (l : Nat) (xs : Array Value) (hl : n l) : DR cx h n (.col l) { target := .collected (cx.r l).b, args := xs }

/-- what is to be done -/
inductive TR (cx : Cx) (n : Nat → Prop) : T → Item → Prop
  | c (c : Code) : TR cx n (.c c) (.code c)
  | blk (id : Nat) : TR cx n (.blk id) (.inBlock id)
  | lp (c : Code) : TR cx n (.lp c) (.inLoop c)
  | reg (ops : Array Oper) (i : Nat) (r : List Oper) (is : List I) (wf : Nat → Bool) (hr : r = ops.toList.drop i) (hc : cOps gt P wf ops i r = some is) : TR cx n (.reg ops i r is) (.inRegion ops (List.range' i r.length))
  | rf (l : Nat) (hl : n l) : TR cx n (.rf l) (.inRangeFunc (cx.r l).b)
  | erf (l : Nat) (hl : n l) : TR cx n (.erf l) (.endRangeFunc (cx.r l).b)
  | br : TR cx n .br .beginRound

def PR (cx : Cx) (h : Array Obj) (n : Nat → Prop) (p : V × Bool) (x : PanicEntry) : Prop := VRep cx h n p.1 x.v ∧ x.recovered = p.2 ∧ x.goexit = false

inductive MR (cx : Cx) (h : Array Obj) (n : Nat → Prop) : Md → FrameMode → Prop
  | run : MR cx h n .run .run
  | ret : MR cx h n .ret .returning
  | pan (ch : List (V × Bool)) (chain : List PanicEntry) (hc : All2 (PR cx h n) ch chain) : MR cx h n (.pan ch) (.panicking chain)

def kdOf : Bool → CallKind
  | true => .deferred
  | false => .normal

structure FR (cx : Cx) (h : Array Obj) (n : Nat → Prop) (a : AF) (F : Frame) : Prop where
  f : F.fn = a.f
  e : ∃ el, SR a.e el ∧ ERep gt cx h n el F.tmps
  k : All2 (TR gt P cx n) a.k F.todo
  ds : All2 (DR cx h n) a.ds F.defers
  md : MR cx h n a.md F.mode
  kd : F.kind = kdOf a.kd
  ro : F.roundOf = a.ro.map fun l => (cx.r l).b
  rn : ∀ l, a.ro = some l → n l

variable {gt P}

theorem ARep.later {cx cx' : Cx} {h h' : Array Obj} {n n' : Nat → Prop} (L : Later cx h n cx' h' n') {args : List V} {xs : Array Value} (A : ARep cx h n args xs) : ARep cx' h' n' args xs := ⟨A.len, fun j hj => (A.rep j hj).later L⟩

theorem FR.later {cx cx' : Cx} {h h' : Array Obj} {n n' : Nat → Prop} (L : Later cx h n cx' h' n') {a : AF} {F : Frame} (H : FR gt P cx h n a F) : FR gt P cx' h' n' a F where
  f := H.f
  e := let ⟨el, h1, h2⟩ := H.e; ⟨el, h1, h2.later L⟩
  k := H.k.mono fun t i hti => by
    cases hti with
    | c c => exact .c c
    | blk id => exact .blk id
    | lp c => exact .lp c
    | reg ops i r is wf hr hc => exact .reg ops i r is wf hr hc
    | rf l hl => rw [← L.r l hl]; exact .rf l (L.nle _ hl)
    | erf l hl => rw [← L.r l hl]; exact .erf l (L.nle _ hl)
    | br => exact .br
  ds := H.ds.mono fun d x hdx => by
    cases hdx with
    | f g args xs cap ha => exact .f g args xs cap (ha.later L)
    | col l xs hl => rw [← L.r l hl]; exact .col l xs (L.nle _ hl)
  md := by
    have := H.md
    generalize a.md = m at this
    generalize F.mode = fm at this
    cases this with
    | run => exact .run
    | ret => exact .ret
    | pan ch chain hc => exact .pan ch chain (hc.mono fun p x hx => ⟨hx.1.later L, hx.2⟩)
  kd := H.kd
  ro := by
    rw [H.ro]
    cases hr : a.ro with
    | none => rfl
    | some l => simp only [Option.map_some]; rw [L.r l (H.rn l hr)]
  rn := fun l hl => L.nle _ (H.rn l hl)

/-- where the machine has come to -/
def At (cx0 : Cx) (s0 : St) (w0 : World) (m : Machine) (P : Program) (bs : List Frame) (a : AF) (as : List AF) (s : St) : Prop :=
  ∃ (F : Frame) (Fs : List Frame) (w : World) (cx : Cx), Steps P m (lone F (Fs ++ bs) w) ∧ FR gt P cx w.heap s.L a F ∧ All2 (FR gt P cx w.heap s.L) as Fs ∧ Rel cx s w.heap ∧ GRep gt cx w.heap s.L ∧
    Ext cx0 s0 w0.heap cx s w.heap ∧ Qt w0 w

/-- a step from here -/
structure Hr (cx : Cx) (s : St) (w : World) (a : AF) (F : Frame) (as : List AF) (Fs : List Frame) : Prop where
  fr : FR gt P cx w.heap s.L a F
  frs : All2 (FR gt P cx w.heap s.L) as Fs
  rel : Rel cx s w.heap
  g : GRep gt cx w.heap s.L

/-- what one step leads to -/
def To (cx : Cx) (s : St) (w : World) (F : Frame) (Fs : List Frame) (c : Cfg) : Prop :=
  ∀ bs, ∃ (F' : Frame) (Fs' : List Frame) (w' : World) (cx' : Cx), Steps P (lone F (Fs ++ bs) w) (lone F' (Fs' ++ bs) w') ∧ Hr (gt := gt) (P := P) cx' c.2.2 w' c.1 F' c.2.1 Fs' ∧ Ext cx s w.heap cx' c.2.2 w'.heap ∧ Qt w w'

theorem exitA_ok {cx : Cx} {n : Nat → Prop} {id : Nat} : ∀ {k : List T} {todo : List Item}, All2 (TR gt P cx n) k todo → match exitA id k with
    | some k' => ∃ todo', exitTo id todo = some todo' ∧ All2 (TR gt P cx n) k' todo'
    | none => exitTo id todo = none
  | _, _, .nil => rfl
  | _, _, .cons h t => by
    have ih := exitA_ok (id := id) t
    cases h with
    | blk id' =>
      simp only [exitA, exitTo]
      by_cases hi : id' = id
      · simp only [hi, if_true, beq_self_eq_true]
        exact ⟨_, rfl, t⟩
      · have hb : (id' == id) = false := by simpa using hi
        simp only [hi, if_false, hb, Bool.false_eq_true]
        exact ih
    | _ => exact ih


theorem evalF (F : Frame) : F.eval = (⟨F.tmps, []⟩ : Act).eval := funext fun x => by cases x <;> rfl

/-- only what is to be done changes -/
theorem Hr.to {cx : Cx} {s : St} {w : World} {f : Nat} {e : Sl} {k k' : List T} {ds : List D} {md : Md} {kd : Bool} {ro : Option Nat} {F : Frame} {as : List AF} {Fs : List Frame} {todo' : List Item}
    (H : Hr (gt := gt) (P := P) cx s w ⟨f, e, k, ds, md, kd, ro⟩ F as Fs) (hk : All2 (TR gt P cx s.L) k' todo') (hs : ∀ cs, step P (lone F cs w) = .next (lone { F with todo := todo' } cs w)) :
    To (gt := gt) (P := P) cx s w F Fs (⟨f, e, k', ds, md, kd, ro⟩, as, s) := fun bs =>
  ⟨{ F with todo := todo' }, Fs, w, cx, .one (hs _), ⟨⟨H.fr.f, H.fr.e, hk, H.fr.ds, H.fr.md, H.fr.kd, H.fr.ro, H.fr.rn⟩, H.frs, H.rel, H.g⟩, .refl _ _ _, .rfl⟩

section steps
variable {F : Frame} {cs : List Frame} {w w' : World} {ops : Array Oper} {i : Nat} {rest : List Nat} {k : List Item} {o : Oper}

theorem oper_apply (ht : F.todo = .inRegion ops (i :: rest) :: k) (ho : ops[i]? = some o) (hd : isDef o.op = false) : stepG.oper P true F cs none w = stepG.apply P true F cs none (execOp F.eval o) w := by
  unfold stepG.oper
  simp only [Frame.oper?, ht, ho]
  split
  · rename_i h; rw [h] at hd; cases hd
  · rfl

theorem stepG_F (hm : F.mode = .run) (ht : F.todo = .inRegion ops (i :: rest) :: k) (ho : ops[i]? = some o) (hw : Region.wanted o (yielded ops F.tmps) = true) :
    stepG P true { frame := F, callers := cs, status := .running, dying := none } w = stepG.oper P true F cs none w := by
  simp only [stepG, hm, stepG.exec, ht, ho, hw, Option.map_some, Option.getD_some, if_true]

theorem step_val {x : Value} (hm : F.mode = .run) (ht : F.todo = .inRegion ops (i :: rest) :: k) (ho : ops[i]? = some o) (hw : Region.wanted o (yielded ops F.tmps) = true) (hd : isDef o.op = false)
    (hr : (execOp F.eval o).run P w = .ok (.value x) w' ∨ ((execOp F.eval o).run P w = .ok .skip w' ∧ x = undef)) :
    step P (lone F cs w) = .next (lone { F with tmps := ((⟨F.tmps, []⟩ : Act).put o.dst x).tmps, todo := .inRegion ops rest :: k } cs w') := by
  have hfin : F.finish x = { F with tmps := ((⟨F.tmps, []⟩ : Act).put o.dst x).tmps, todo := .inRegion ops rest :: k } := by
    simp only [Frame.finish, ht, ho, Option.bind_some]
    cases o.dst <;> rfl
  refine step_lone_go ?_
  rw [stepG_F hm ht ho hw, oper_apply ht ho hd, ← hfin]
  rcases hr with hr | ⟨hr, rfl⟩ <;> simp [stepG.apply, Sem.runT_eq, hr]

theorem step_skipop (hm : F.mode = .run) (ht : F.todo = .inRegion ops (i :: rest) :: k) (ho : ops[i]? = some o) (hw : Region.wanted o (yielded ops F.tmps) = false) :
    step P (lone F cs w) = .next (lone { F with tmps := ((⟨F.tmps, []⟩ : Act).put o.dst undef).tmps, todo := .inRegion ops rest :: k } cs w) := by
  have hfin : F.finish undef = { F with tmps := ((⟨F.tmps, []⟩ : Act).put o.dst undef).tmps, todo := .inRegion ops rest :: k } := by
    simp only [Frame.finish, ht, ho, Option.bind_some]
    cases o.dst <;> rfl
  refine step_lone_go ?_
  rw [← hfin]
  simp only [stepG, hm, stepG.exec, ht, ho, hw, Option.map_some, Option.getD_some, Bool.false_eq_true, if_false, GStep.bare_go]

theorem step_enter {g : Nat} {xs : Array Value} (hm : F.mode = .run) (ht : F.todo = .inRegion ops (i :: rest) :: k) (ho : ops[i]? = some o) (hw : Region.wanted o (yielded ops F.tmps) = true) (hd : isDef o.op = false)
    (hr : (execOp F.eval o).run P w = .ok (.enter g xs) w') : step P (lone F cs w) = .next (lone (Frame.enter P g xs .normal) (F :: cs) w') := by
  refine step_lone_go ?_
  rw [stepG_F hm ht ho hw, oper_apply ht ho hd]
  simp [stepG.apply, Sem.runT_eq, hr, ht]

theorem step_round {l f : Nat} {xs : Array Value} {as bd : Code} (hm : F.mode = .run) (ht : F.todo = .inRegion ops (i :: rest) :: k) (ho : ops[i]? = some o) (hw : Region.wanted o (yielded ops F.tmps) = true) (hd : isDef o.op = false)
    (hr : (execOp F.eval o).run P w = .ok (.round l f xs as bd) w') : step P (lone F cs w) = .next (lone (Frame.round l f xs as bd .normal) (F :: cs) w') := by
  refine step_lone_go ?_
  rw [stepG_F hm ht ho hw, oper_apply ht ho hd]
  simp [stepG.apply, Sem.runT_eq, hr]

theorem step_panicop {v : Value} (hm : F.mode = .run) (ht : F.todo = .inRegion ops (i :: rest) :: k) (ho : ops[i]? = some o) (hw : Region.wanted o (yielded ops F.tmps) = true) (hd : isDef o.op = false)
    (hr : (execOp F.eval o).run P w = .halt (.panic v) w') : step P (lone F cs w) = .next (lone { F with mode := .panicking [{ v, recovered := false }] } cs w') := by
  refine step_lone_go ?_
  rw [stepG_F hm ht ho hw, oper_apply ht ho hd]
  simp [stepG.apply, Sem.runT_eq, hr, Frame.raise, hm]

theorem step_deferop {d : Deferred} (hm : F.mode = .run) (hro : F.roundOf = none) (ht : F.todo = .inRegion ops (i :: rest) :: k) (ho : ops[i]? = some o) (hw : Region.wanted o (yielded ops F.tmps) = true)
    (hr : (execOp F.eval o).run P w = .ok (.defer d) w') :
    step P (lone F cs w) = .next (lone { F with defers := d :: F.defers, tmps := ((⟨F.tmps, []⟩ : Act).put o.dst undef).tmps, todo := .inRegion ops rest :: k } cs w') := by
  have hfin : ({ F with defers := d :: F.defers } : Frame).finish undef = { F with defers := d :: F.defers, tmps := ((⟨F.tmps, []⟩ : Act).put o.dst undef).tmps, todo := .inRegion ops rest :: k } := by
    simp only [Frame.finish, ht, ho, Option.bind_some]
    cases o.dst <;> rfl
  refine step_lone_go ?_
  have hop : stepG.oper P true F cs none w = stepG.apply P true F cs none (execOp F.eval o) w := by
    unfold stepG.oper
    simp only [Frame.oper?, ht, ho, hro]
  rw [stepG_F hm ht ho hw, hop, ← hfin]
  simp [stepG.apply, Sem.runT_eq, hr]

theorem step_recoverop (hm : F.mode = .run) (hro : F.roundOf = none) (ht : F.todo = .inRegion ops (i :: rest) :: k) (ho : ops[i]? = some o) (hw : Region.wanted o (yielded ops F.tmps) = true) (hd : isDef o.op = false)
    (hr : (execOp F.eval o).run P w = .ok .recover w') :
    step P (lone F cs w) = .next (match tryRecover F cs with
      | some (v, cs') => lone { F with tmps := ((⟨F.tmps, []⟩ : Act).put o.dst v).tmps, todo := .inRegion ops rest :: k } cs' w'
      | none => lone { F with tmps := ((⟨F.tmps, []⟩ : Act).put o.dst .nilIface).tmps, todo := .inRegion ops rest :: k } cs w') := by
  have hfin : ∀ x, F.finish x = { F with tmps := ((⟨F.tmps, []⟩ : Act).put o.dst x).tmps, todo := .inRegion ops rest :: k } := fun x => by
    simp only [Frame.finish, ht, ho, Option.bind_some]
    cases o.dst <;> rfl
  cases htr : tryRecover F cs with
  | none =>
    refine step_lone_go ?_
    rw [stepG_F hm ht ho hw, oper_apply ht ho hd, ← hfin]
    simp [stepG.apply, Sem.runT_eq, hr, hro, htr]
  | some p =>
    obtain ⟨v, cs'⟩ := p
    refine step_lone_go ?_
    rw [stepG_F hm ht ho hw, oper_apply ht ho hd, ← hfin]
    simp [stepG.apply, Sem.runT_eq, hr, hro, htr]
end steps

/-- a function entered -/
theorem enterA_ok {g : Nat} {args : List V} {kd : Bool} {n : AF} (h : enterA P g args kd = some n) : callOk P g = true ∧ ∀ {cx : Cx} {hp : Array Obj} {m : Nat → Prop} {xs : Array Value}, GRep gt cx hp m → ARep cx hp m args xs →
    FR gt P cx hp m n (Frame.enter P g xs (kdOf kd)) := by
  unfold enterA at h
  split at h
  · cases h
  · rename_i fn hfn
    split at h
    · cases h
    · rename_i b hb
      split at h
      · rename_i hn
        cases h
        refine ⟨by simp [callOk, hfn, hb, hn], fun {cx hp m xs} G A => ?_⟩
        have E0 : ERep gt cx hp m (args ++ List.replicate (fn.ntmps - args.length) unV) (xs ++ Array.replicate (fn.ntmps - xs.size) undef) := by
          refine ⟨G, by simp [A.len], fun t => ?_⟩
          by_cases ht : t < args.length
          · have h1 := A.rep t ht
            have e1 : (args ++ List.replicate (fn.ntmps - args.length) unV).getD t unV = args.getD t .bad := by
              simp only [List.getD]; rw [List.getElem?_append_left ht, List.getElem?_eq_getElem ht]; rfl
            have e2 : (xs ++ Array.replicate (fn.ntmps - xs.size) undef).getD t undef = xs.getD t undef := by
              apply arrGetD_eq; rw [Array.getElem?_append_left (by rw [A.len]; exact ht)]
            rw [e1, e2]; exact h1
          · have e1 : (args ++ List.replicate (fn.ntmps - args.length) unV).getD t unV = unV := by
              simp only [List.getD]; rw [List.getElem?_append_right (by omega), List.getElem?_replicate]
              split <;> rfl
            have e2 : (xs ++ Array.replicate (fn.ntmps - xs.size) undef).getD t undef = undef := by
              rw [Array.getD_eq_getD_getElem?, Array.getElem?_append_right (by rw [A.len]; omega), Array.getElem?_replicate]
              split <;> rfl
            rw [e1, e2]; exact VRep.un _ _ _
        exact {
          f := rfl
          e := ⟨_, SR.of args fn.ntmps, by simpa [Frame.enter, hfn] using E0⟩
          k := by simp only [Frame.enter, hfn, hb, Option.bind_some, Option.getD_some]; exact .cons (.c b) .nil
          ds := .nil
          md := .run
          kd := rfl
          ro := rfl
          rn := fun l hl => by cases hl }
      · cases h

end
end Rf
