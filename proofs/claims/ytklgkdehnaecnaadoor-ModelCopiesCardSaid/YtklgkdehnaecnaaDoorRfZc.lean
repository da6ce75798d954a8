/-
  The step-by-step machine says what the model does: every step; whole runs.
-/
import Derived.Test.YtklgkdehnaecnaaDoorRfZb
set_option linter.all false
set_option linter.unusedSimpArgs false
namespace Rf
open Go
section
variable {gt : Nat → Option V} {P : Program}

theorem MR.mode {cx : Cx} {h : Array Obj} {n : Nat → Prop} {fm : FrameMode} (H : MR cx h n .run fm) : fm = .run := by cases H; rfl
theorem MR.retm {cx : Cx} {h : Array Obj} {n : Nat → Prop} {fm : FrameMode} (H : MR cx h n .ret fm) : fm = .returning := by cases H; rfl

variable {cx : Cx} {s : St} {w : World} {F : Frame} {as : List AF} {Fs : List Frame}

theorem Hr.mode {f : Nat} {e : Sl} {k : List T} {ds : List D} {md md' : Md} {kd : Bool} {ro : Option Nat} {m' : FrameMode} (H : Hr (gt := gt) (P := P) cx s w ⟨f, e, k, ds, md, kd, ro⟩ F as Fs)
    (hmd : MR cx w.heap s.L md' m') (hs : ∀ cs, step P (lone F cs w) = .next (lone { F with mode := m' } cs w)) : To (gt := gt) (P := P) cx s w F Fs (⟨f, e, k, ds, md', kd, ro⟩, as, s) := fun bs =>
  ⟨{ F with mode := m' }, Fs, w, cx, .one (hs _), ⟨⟨H.fr.f, H.fr.e, H.fr.k, H.fr.ds, hmd, H.fr.kd, H.fr.ro, H.fr.rn⟩, H.frs, H.rel, H.g⟩, .refl _ _ _, .rfl⟩

/-- the world changes, an object besides; the frames stay -/
theorem FR.put {cx : Cx} {h h' : Array Obj} {s s' : St} {a : AF} (E : Ext cx s h cx s' h') (H : FR gt P cx h s.L a F) : FR gt P cx h' s'.L a F := H.later E.later

/-- a frame into which a call's value has come -/
def backF (kd : Bool) (C : Frame) (x : Value) : Frame := match kd with
  | false => C.finish x
  | true => { C with mode := settle C.mode }

/-- back to a caller: a call's value comes -/
theorem backA_ok {c c' : AF} {v : V} {x : Value} {C : Frame} {kd : Bool} (hb : backA kd c v = some c') (H : FR gt P cx w.heap s.L c C) (hv : VRep cx w.heap s.L v x) :
    ∃ C', FR gt P cx w.heap s.L c' C' ∧ backF kd C x = C' := by
  cases kd with
  | true =>
    simp only [backA] at hb
    cases hb
    refine ⟨{ C with mode := settle C.mode }, ⟨H.f, H.e, H.k, H.ds, ?_, H.kd, H.ro, H.rn⟩, rfl⟩
    have := H.md
    simp only
    generalize C.mode = fm at this ⊢
    generalize c.md = m at this ⊢
    cases this with
    | run => exact .run
    | ret => exact .ret
    | pan ch chain hc =>
      cases hc with
      | nil => exact .pan _ _ .nil
      | @cons p y l m hp ht =>
        obtain ⟨pv, pb⟩ := p
        obtain ⟨yv, yr, yg⟩ := y
        obtain ⟨h1, h2, h3⟩ := hp
        simp only at h1 h2 h3
        subst h2; subst h3
        cases yr with
        | false => exact .pan _ _ (.cons ⟨h1, rfl, rfl⟩ ht)
        | true =>
          have hall : m.dropWhile (fun x => !x.goexit) = [] := by
            clear h1
            induction ht with
            | nil => rfl
            | cons h _ ih => rw [List.dropWhile_cons, h.2.2]; simpa using ih
          simp only [settleA, settle, hall]
          exact .ret
  | false =>
    simp only [backA, finA] at hb
    split at hb
    · rename_i ops i o r x0 is k hk
      cases hb
      have hK := H.k
      rw [hk] at hK
      obtain ⟨it, todo', ht, hti, hkk⟩ := hK.inv_cons
      cases hti with
      | reg _ _ _ _ wf hr hc =>
        have ho : ops[i]? = some o := by
          have : (ops.toList.drop i)[0]? = some o := by rw [← hr]; rfl
          simpa using this
        have hr' : r = ops.toList.drop (i + 1) := by
          have : (ops.toList.drop i).tail = r := by rw [← hr]; rfl
          rw [← this]; simp
        simp only [cOps] at hc
        split at hc
        · rename_i y ys h1 h2
          cases hc
          refine ⟨_, ?_, rfl⟩
          obtain ⟨el, hsr, hE⟩ := H.e
          have hfin : C.finish x = { C with tmps := ((⟨C.tmps, []⟩ : Act).put o.dst x).tmps, todo := .inRegion ops (List.range' (i + 1) r.length) :: todo' } := by
            simp only [Frame.finish, ht, List.length_cons, List.range'_succ, ho, Option.bind_some]
            cases o.dst <;> rfl
          show FR gt P cx w.heap s.L _ (C.finish x)
          rw [hfin]
          refine ⟨H.f, ⟨_, hsr.setD o.dst v, ?_⟩, .cons (.reg ops (i + 1) r is wf hr' h2) hkk, H.ds, H.md, H.kd, H.ro, H.rn⟩
          exact ERep.setD (act := ⟨C.tmps, []⟩) hE hv o.dst
        · cases hc
    · rename_i l k hk
      cases hb
      have hK := H.k
      rw [hk] at hK
      obtain ⟨it, todo', ht, hti, hkk⟩ := hK.inv_cons
      cases hti with
      | rf _ hl =>
        refine ⟨_, ?_, rfl⟩
        show FR gt P cx w.heap s.L _ (C.finish x)
        simp only [Frame.finish, ht]
        exact ⟨H.f, H.e, .cons (.erf l hl) hkk, H.ds, H.md, H.kd, H.ro, H.rn⟩
    · rename_i k hk
      cases hb
      have hK := H.k
      rw [hk] at hK
      obtain ⟨it, todo', ht, hti, hkk⟩ := hK.inv_cons
      cases hti
      refine ⟨_, ?_, rfl⟩
      show FR gt P cx w.heap s.L _ (C.finish x)
      simp only [Frame.finish, ht]
      exact ⟨H.f, H.e, hkk, H.ds, H.md, H.kd, H.ro, H.rn⟩
    · cases hb

/-- what 'doReturn' does for such frames -/
theorem doReturn_back {c : Frame} {cs : List Frame} {x : Value} {kd : Bool} (hk : F.kind = kdOf kd) :
    (doReturn P true F (c :: cs) none x w).bare = .go { frame := backF kd c x, callers := cs, status := .running, dying := none } w := by
  cases kd with
  | false => simp [doReturn, hk, kdOf, backF]
  | true =>
    obtain ⟨cf, ct, ctd, cd, cm, ck, cr⟩ := c
    simp only [doReturn, hk, kdOf, backF, GStep.bare_go]
    congr 2
    unfold settle
    cases cm with
    | run => rfl
    | returning => rfl
    | panicking chain =>
      cases chain with
      | nil => rfl
      | cons p older =>
        obtain ⟨pv, pr, pg⟩ := p
        cases pr with
        | false => rfl
        | true =>
          cases hd : List.dropWhile (fun x : PanicEntry => !x.goexit) older <;> simp only [hd]

/-- a round's end -/
theorem roundEnd_ok {a : AF} {l : Nat} {jump : Option Code} {c : Cfg} (h : roundEnd a as s l jump = some c) (hro : a.ro = some l) (H : Hr (gt := gt) (P := P) cx s w a F as Fs)
    (hs : ∀ cs v w', (Instr.endRound (cx.r l).b jump).run P w = .ok v w' → (stepG P true { frame := F, callers := cs, status := .running, dying := none } w).bare = (doReturn P true F cs none v w').bare) : To (gt := gt) (P := P) cx s w F Fs c := by
  unfold roundEnd at h
  split at h
  · rename_i st pend f e ps asn bd dd c0 r hg
    simp only [Option.map_eq_some_iff] at h
    obtain ⟨c1, hb, rfl⟩ := h
    obtain ⟨C, Fs', rfl, hC, hFs⟩ := H.frs.inv_cons
    obtain ⟨tmps, h1, h2, el, h3, h4, h5, h6⟩ := obj_x H.rel hg
    have hrun := run_endRound (P := P) jump h1
    obtain ⟨R', E'⟩ := H.rel.updX hg (.lp (if jump.isNone then .ready else .done) jump f e ps asn bd dd) (.loop ⟨if jump.isNone then .ready else .done, jump, f, tmps, ps.toArray, asn, bd, (cx.r dd).b⟩)
      (fun L => ⟨tmps, by simp [lt_of_get h1], h2, el, h3, h4, h5, fun t => (h6 t).later L⟩) (fun _ _ _ => by simp)
    obtain ⟨C', hC', hfin⟩ := backA_ok (w := w.putObj (cx.r l).b (.loop ⟨if jump.isNone then .ready else .done, jump, f, tmps, ps.toArray, asn, bd, (cx.r dd).b⟩)) (s := s.put l (some (.x (.lp (if jump.isNone then .ready else .done) jump f e ps asn bd dd)))) hb (hC.later E'.later) (.b jump.isNone)
    intro bs
    refine ⟨C', Fs', w.putObj (cx.r l).b _, cx, .one (step_lone_go ?_), ⟨hC', hFs.mono fun _ _ hx => hx.later E'.later, R', H.g.later E'.later⟩, E', ⟨rfl, rfl⟩⟩
    rw [hs _ _ _ hrun, List.cons_append, doReturn_back H.fr.kd, hfin]
  · cases h


/-- a call that is put off, or a function value: what it stands for -/
theorem setPs_ok {hp : Array Obj} {n : Nat → Prop} : ∀ (ps : List Nat) (vs : List V) (e e2 : Sl), setPs e ps vs = some e2 → ∀ (el : List V) (tmps : Array Value) (xs : List Value), SR e el → ERep gt cx hp n el tmps → xs.length = vs.length → (∀ j, j < vs.length → VRep cx hp n (vs.getD j .bad) (xs.getD j undef)) →
    ps.length = vs.length ∧ ∃ el2, SR e2 el2 ∧ ERep gt cx hp n el2 ((ps.zip xs).foldl (fun tmps (t, a) => tmps.setIfInBounds t a) tmps)
  | [], [], e, e2, h, el, tmps, xs, hs, hE, hl, hv => by
    cases h
    exact ⟨rfl, el, hs, by simpa using hE⟩
  | p :: ps, v :: vs, e, e2, h, el, tmps, [], hs, hE, hl, hv => by simp at hl
  | p :: ps, v :: vs, e, e2, h, el, tmps, x :: xs, hs, hE, hl, hv => by
    have hx : VRep cx hp n v x := by simpa using hv 0 (by simp)
    obtain ⟨h1, el2, h2, h3⟩ := setPs_ok ps vs _ e2 h (el.set p v) (tmps.setIfInBounds p x) xs (hs.set p v) (hE.set hx p) (by simpa using hl) (fun j hj => by simpa using hv (j + 1) (by simpa using hj))
    exact ⟨by simp [h1], el2, h2, by simpa using h3⟩
  | [], v :: vs, e, e2, h, _, _, _, _, _, _, _ => by cases h
  | p :: ps, [], e, e2, h, _, _, _, _, _, _, _ => by cases h

/-- an operation whose value comes into its frame -/
theorem op_ok {f : Nat} {e : Sl} {ops : Array Oper} {i : Nat} {o : Oper} {r : List Oper} {x : I} {is : List I} {k : List T} {ds : List D} {kd : Bool} {ro : Option Nat}
    (H : Hr (gt := gt) (P := P) cx s w ⟨f, e, .reg ops i (o :: r) (x :: is) :: k, ds, .run, kd, ro⟩ F as Fs) :
    ∃ (wf : Nat → Bool) (el : List V) (todo' : List Item), SR e el ∧ ERep gt cx w.heap s.L el F.tmps ∧ F.mode = .run ∧ F.todo = .inRegion ops (i :: List.range' (i + 1) r.length) :: todo' ∧ ops[i]? = some o ∧
      cI gt P (wf i) ops o = some x ∧ TR gt P cx s.L (.reg ops (i + 1) r is) (.inRegion ops (List.range' (i + 1) r.length)) ∧ All2 (TR gt P cx s.L) k todo' ∧ (∀ cx' n', (∀ l, n' l → True) → TR gt P cx' n' (.reg ops (i + 1) r is) (.inRegion ops (List.range' (i + 1) r.length))) := by
  obtain ⟨el, hsr, hE⟩ := H.fr.e
  obtain ⟨it, todo', ht, hti, hkk⟩ := H.fr.k.inv_cons
  cases hti with
  | reg _ _ _ _ wf hr hc =>
    have ho : ops[i]? = some o := by
      have : (ops.toList.drop i)[0]? = some o := by rw [← hr]; rfl
      simpa using this
    have hr' : r = ops.toList.drop (i + 1) := by
      have : (ops.toList.drop i).tail = r := by rw [← hr]; rfl
      rw [← this]; simp
    simp only [cOps] at hc
    split at hc
    · rename_i y ys h1 h2
      cases hc
      exact ⟨wf, el, todo', hsr, hE, H.fr.md.mode, by rw [ht]; simp [List.range'_succ], ho, h1, .reg ops (i + 1) r is wf hr' h2, hkk, fun _ _ _ => .reg ops (i + 1) r is wf hr' h2⟩
    · cases hc

theorem cons0 (x : Value) (a : Array Value) : (#[x] ++ a)[0]? = some x := by
  rw [Array.getElem?_append_left (by simp)]; rfl
theorem cons1 (x : Value) (a : Array Value) : (#[x] ++ a).extract 1 (#[x] ++ a).size = a := by
  apply Array.ext'
  rw [Array.toList_extract, Array.toList_append, Array.size_append]
  simp
  exact List.take_of_length_le (by simp)

/-- a promoted method's receiver -/
theorem pathA_ok {cx : Cx} {h : Array Obj} {n : Nat → Prop} {w : World} : ∀ (l : List FieldStep) (t : Nat) (u : V) (ux : Value) (t1 : Nat) (v1 : V), VRep cx h n u ux → pathA P l t u = some (t1, v1) → ∃ x, (follow l t (.val ux)).run P w = .ok (t1, .val x) w ∧ VRep cx h n v1 x
  | [], t, u, ux, t1, v1, hu, hp => by
    simp only [pathA, Option.some.injEq, Prod.mk.injEq] at hp
    obtain ⟨rfl, rfl⟩ := hp
    exact ⟨ux, by simp [follow], hu⟩
  | st :: r, t, u, ux, t1, v1, hu, hp => by
    simp only [pathA] at hp
    split at hp
    case h_2 => cases hp
    rename_i fs cs hd hs
    split at hp
    case h_2 => cases hp
    rename_i fd hf
    split at hp
    case h_2 => cases hp
    rename_i u' ha hc
    cases hu
    rename_i vs q1 q2 q3
    have ho := list_get_lt hc
    have ho' : fd.offset < vs.size := by rw [q1]; exact ho
    have hrep : VRep cx h n u' vs[fd.offset] := by
      have := q3 fd.offset ho
      simpa [List.getD, hc, Array.getD_eq_getD_getElem?, ho'] using this
    obtain ⟨x, h1, h2⟩ := pathA_ok r fd.type u' vs[fd.offset] t1 v1 hrep hp
    refine ⟨x, ?_, h2⟩
    simp only [follow, Sem.run_bind, r_und w hs, Result.andThen_ok, hf, hd, Bool.false_eq_true, if_false]
    simp only [part, Sem.run_bind, r_isAgg w ha, Result.andThen_ok, Bool.false_eq_true, if_false, Array.getElem?_eq_getElem ho', Sem.run_pure]
    exact h1

theorem specA_ok {f : Nat} {e : Sl} {ops : Array Oper} {i : Nat} {o : Oper} {r : List Oper} {x : I} {is : List I} {k : List T} {ds : List D} {kd : Bool} {ro : Option Nat} {c : Cfg}
    (H : Hr (gt := gt) (P := P) cx s w ⟨f, e, .reg ops i (o :: r) (x :: is) :: k, ds, .run, kd, ro⟩ F as Fs) (hw : wantedT e x.g = some true)
    (h : specA gt P ⟨f, e, .reg ops i (o :: r) (x :: is) :: k, ds, .run, kd, ro⟩ as s o = some c) : To (gt := gt) (P := P) cx s w F Fs c := by
  obtain ⟨wf, el, todo', hsr, hE, hm, ht, ho, hcI, hTR, hkk, _⟩ := op_ok H
  rw [hsr.wanted] at hw
  have hwF : Region.wanted o (yielded ops F.tmps) = true := wanted_run (act := ⟨F.tmps, []⟩) hE hcI hw
  have hev := evalF F
  have hsv : (fun a : Arg => a.sv e) = fun a => a.ev el := funext hsr.ev
  obtain ⟨dst, op, ty, pos, after, guard⟩ := o
  -- a panic
  have hpan : ∀ (v : V) (y : Value) , VRep cx w.heap s.L v y → (∀ (t : Nat) (u : Value), y = .iface t u → (execOp F.eval ⟨dst, op, ty, pos, after, guard⟩).run P w = .halt (.panic y) w) → isDef op = false →
      panA ⟨f, e, .reg ops i (⟨dst, op, ty, pos, after, guard⟩ :: r) (x :: is) :: k, ds, .run, kd, ro⟩ as s v = some c → To (gt := gt) (P := P) cx s w F Fs c := fun v y hv hrun hd hp => by
    unfold panA at hp
    split at hp
    · rename_i t u
      cases hp
      cases hv
      rename_i u' hu
      refine H.mode (m' := .panicking [{ v := .iface t u', recovered := false }]) (.pan _ _ (.cons ⟨.ifc t u u' hu, rfl, rfl⟩ .nil)) (fun cs => ?_)
      exact step_panicop hm ht ho hwF hd (hrun _ _ rfl)
    · cases hp
  cases op with
  | defer cl =>
    obtain ⟨callee, cargs, ats⟩ := cl
    cases ro with
    | some l0 => cases h
    | none =>
      cases callee with
      | invoke a b => cases h
      | builtin b => cases h
      | value xo =>
        simp only [specA] at h
        split at h
        case h_2 => cases h
        rename_i xa l hx hl
        split at h
        case h_2 => cases h
        rename_i g cap hg
        simp only [finA, Option.map_some, Option.some.injEq] at h
        subst h
        have hr1 := arg_rep (act := ⟨F.tmps, []⟩) hE hx
        rw [hsr.ev] at hg
        rw [hg] at hr1
        generalize hxv : Act.eval ⟨F.tmps, []⟩ xo = xv at hr1
        cases hr1
        rename_i vs hvs hvr
        have ar := args_rep (act := ⟨F.tmps, []⟩) hE hl
        have hrun : (execOp F.eval ⟨dst, .defer ⟨.value xo, cargs, ats⟩, ty, pos, after, guard⟩).run P w = .ok (.defer { target := .fn (.func g) vs, args := #[] ++ cargs.map (Act.eval ⟨F.tmps, []⟩) }) w := by
          simp only [execOp, resolve, hev, hxv, Deferred.ofValue, Sem.run_bind, Sem.run_pure, Result.andThen_ok]
        intro bs
        refine ⟨_, Fs, w, cx, .one (step_deferop hm H.fr.ro ht ho hwF hrun), ⟨⟨H.fr.f, ⟨_, hsr.setD dst unV, ?_⟩, .cons hTR hkk, .cons ?_ H.fr.ds, H.fr.md, H.fr.kd, H.fr.ro, H.fr.rn⟩, H.frs, H.rel, H.g⟩, .refl _ _ _, .rfl⟩
        · exact ERep.setD (act := ⟨F.tmps, []⟩) hE (VRep.un _ _ _) dst
        · refine .f g _ _ vs ?_
          have := ARep.append (b := ⟨hvs, hvr⟩) ar
          simpa [hsv] using this
  | panic xo =>
    simp only [specA] at h
    split at h
    case h_2 => cases h
    rename_i xa hx
    have hr1 := arg_rep (act := ⟨F.tmps, []⟩) hE hx
    rw [hsr.ev] at h
    refine hpan _ _ hr1 (fun t u hy => ?_) rfl h
    rw [hev]
    simp only [execOp, hy, Instr.panic, goPanic, Sem.run_bind]
    rfl
  | call cl =>
    obtain ⟨callee, cargs, ats⟩ := cl
    cases callee with
    | value xo => cases h
    | builtin b =>
      cases b <;> try (cases h; done)
      case panic =>
        simp only [specA] at h
        split at h
        case h_2 => cases h
        rename_i xo hca
        split at h
        case h_2 => cases h
        rename_i xa hx
        have hr1 := arg_rep (act := ⟨F.tmps, []⟩) hE hx
        rw [hsr.ev] at h
        refine hpan _ _ hr1 (fun t u hy => ?_) rfl h
        have hca' : cargs = #[xo] := by apply Array.ext'; exact hca
        subst hca'
        rw [hev]
        simp only [execOp, resolve, Sem.run_bind, Sem.run_pure, Result.andThen_ok, invoke, builtin]
        have : (#[xo].map (Act.eval ⟨F.tmps, []⟩)).getD 0 .nilIface = Act.eval ⟨F.tmps, []⟩ xo := by simp [Array.getD]
        rw [this, hy]
        rfl
      case recover =>
        simp only [specA] at h
        split at h
        case h_2 => cases h
        rename_i v cs' hrec
        simp only [finA, Option.map_some, Option.some.injEq] at h
        subst h
        have hrun : (execOp F.eval ⟨dst, .call ⟨.builtin .recover, cargs, ats⟩, ty, pos, after, guard⟩).run P w = .ok .recover w := by
          simp only [execOp, resolve, Sem.run_bind, Sem.run_pure, Result.andThen_ok, invoke, builtin]
        have hkd : F.kind = kdOf kd := H.fr.kd
        intro bs
        have hstep := step_recoverop (P := P) (cs := Fs ++ bs) hm H.fr.ro ht ho hwF rfl hrun
        have hnone : tryRecover F (Fs ++ bs) = none → (v, cs') = (.ni, as) → ∃ (F' : Frame) (Fs' : List Frame) (w' : World) (cx' : Cx), Steps P (lone F (Fs ++ bs) w) (lone F' (Fs' ++ bs) w') ∧
            Hr (gt := gt) (P := P) cx' s w' ⟨f, e.setD dst v, .reg ops (i + 1) r is :: k, ds, .run, kd, none⟩ F' cs' Fs' ∧ Ext cx s w.heap cx' s w'.heap ∧ Qt w w' := fun htr heq => by
          cases heq
          rw [htr] at hstep
          exact ⟨_, Fs, w, cx, .one hstep, ⟨⟨H.fr.f, ⟨_, hsr.setD dst .ni, ERep.setD (act := ⟨F.tmps, []⟩) hE .ni dst⟩, .cons hTR hkk, H.fr.ds, H.fr.md, H.fr.kd, H.fr.ro, H.fr.rn⟩, H.frs, H.rel, H.g⟩, .refl _ _ _, .rfl⟩
        unfold recoverA at hrec
        cases kd with
        | false =>
          simp only [Option.some.injEq] at hrec
          exact hnone (by unfold tryRecover; rw [hkd]; rfl) hrec.symm
        | true =>
          cases as with
          | nil =>
            cases hrec
          | cons c0 as' =>
            obtain ⟨C, Fs', rfl, hC, hFs⟩ := H.frs.inv_cons
            simp only at hrec
            have htr0 : tryRecover F (C :: Fs' ++ bs) = match C.mode with
              | .panicking ({ v, recovered := false, goexit := false } :: older) => some (v, { C with mode := .panicking ({ v, recovered := true } :: older) } :: (Fs' ++ bs))
              | _ => none := by
              unfold tryRecover
              rw [hkd]
              rfl
            have hMR := hC.md
            split at hrec
            · rename_i pv old hmd
              cases hrec
              rw [hmd] at hMR
              generalize hcm : C.mode = cm at hMR htr0
              cases hMR with
              | pan _ chain hch =>
                obtain ⟨p, m', rfl, hp, hrest⟩ := hch.inv_cons
                obtain ⟨yv, yr, yg⟩ := p
                obtain ⟨h1, h2, h3⟩ := hp
                simp only at h1 h2 h3
                subst h2; subst h3
                simp only at htr0
                rw [htr0] at hstep
                refine ⟨_, { C with mode := .panicking ({ v := yv, recovered := true } :: m') } :: Fs', w, cx, .one hstep, ⟨⟨H.fr.f, ⟨_, hsr.setD dst v, ERep.setD (act := ⟨F.tmps, []⟩) hE h1 dst⟩, .cons hTR hkk, H.fr.ds, H.fr.md, H.fr.kd, H.fr.ro, H.fr.rn⟩, .cons ?_ hFs, H.rel, H.g⟩, .refl _ _ _, .rfl⟩
                exact ⟨hC.f, hC.e, hC.k, hC.ds, .pan _ _ (.cons ⟨h1, rfl, rfl⟩ hrest), hC.kd, hC.ro, hC.rn⟩
            · rename_i hno
              simp only [Option.some.injEq] at hrec
              refine hnone ?_ hrec.symm
              rw [htr0]
              generalize hcm : C.mode = cm at hMR
              split
              · rename_i yv older
                exfalso
                cases hmd : c0.md with
                | run => rw [hmd] at hMR; cases hMR
                | ret => rw [hmd] at hMR; cases hMR
                | pan ch =>
                  rw [hmd] at hMR
                  cases hMR with
                  | pan _ _ hch =>
                    cases hch with
                    | cons hp hrest =>
                      rename_i q l
                      obtain ⟨qv, qb⟩ := q
                      have h2 := hp.2.1
                      simp only at h2
                      subst h2
                      exact hno _ _ hmd
              · rfl
    | invoke xo m =>
      simp only [specA] at h
      split at h
      case h_2 => cases h
      rename_i xa l hx hl
      split at h
      case h_2 => cases h
      rename_i t u hg
      split at h
      case h_2 => cases h
      rename_i info hinfo
      split at h
      case h_2 => cases h
      rename_i mt hmt
      split at h
      case h_2 => cases h
      rename_i t1 v1 g ptr hpath hfunc
      have hr1 := arg_rep (act := ⟨F.tmps, []⟩) hE hx
      rw [hsr.ev] at hg
      rw [hg] at hr1
      generalize hxv : Act.eval ⟨F.tmps, []⟩ xo = xv at hr1
      cases hr1
      rename_i ux0 hux0
      obtain ⟨ux, hfol, hux⟩ := pathA_ok (w := w) _ _ _ _ _ _ hux0 hpath
      have ar := args_rep (act := ⟨F.tmps, []⟩) hE hl
      have hent : ∀ n, enterA P g (v1 :: l.map (·.sv e)) false = some n → c = (n, ⟨f, e, .reg ops i (⟨dst, .call ⟨.invoke xo m, cargs, ats⟩, ty, pos, after, guard⟩ :: r) (x :: is) :: k, ds, .run, kd, ro⟩ :: as, s) →
          (receiverAt t1 (.val ux) ptr (if mt.path.isEmpty then some ((m.splitOn ".").getLastD m) else none)).run P w = .ok ux w → To (gt := gt) (P := P) cx s w F Fs c := fun n hn hc hrecv => by
        subst hc
        obtain ⟨hok, hF⟩ := enterA_ok (gt := gt) hn
        have har : ARep cx w.heap s.L (v1 :: l.map (·.sv e)) (#[ux] ++ cargs.map (Act.eval ⟨F.tmps, []⟩)) := by
          have h1 : ARep cx w.heap s.L [v1] #[ux] := ⟨rfl, fun j hj => by
            match j, hj with
            | 0, _ => simpa using hux⟩
          have := h1.append ar
          simpa [hsv] using this
        have hrun : (execOp F.eval ⟨dst, .call ⟨.invoke xo m, cargs, ats⟩, ty, pos, after, guard⟩).run P w = .ok (.enter g (#[ux] ++ cargs.map (Act.eval ⟨F.tmps, []⟩))) w := by
          have hinf : (typeInfo t).run P w = .ok info w := by simp [typeInfo, hinfo]
          have hfind : info.methods.find? (fun x => x.name == m) = some mt := hmt
          have hmeth : (method (P.types.size + Made.depth) t ux0 m).run P w = .ok (g, ux) w := by
            have hpos : 0 < Made.depth := by decide
            have : P.types.size + Made.depth = (P.types.size + Made.depth - 1) + 1 := by omega
            rw [this, method]
            simp only [Sem.run_bind, hinf, Result.andThen_ok, hfind, hfol, Sem.run_pure, hfunc, hrecv]
          simp only [execOp, resolve, hev, hxv, Sem.run_bind, Sem.run_pure, Result.andThen_ok, invoke]
          simp only [cons0, cons1, callMethod, Sem.run_bind, run_program, Result.andThen_ok, hmeth]
          rw [call_run hok]
        intro bs
        exact ⟨_, F :: Fs, w, cx, .one (step_enter hm ht ho hwF rfl hrun), ⟨hF H.g har, .cons H.fr H.frs, H.rel, H.g⟩, .refl _ _ _, .rfl⟩
      split at h
      · rename_i el' hu
        simp only [Option.map_eq_some_iff] at h
        obtain ⟨n, hn, hc⟩ := h
        exact hent n hn hc.symm (by simp only [receiverAt, Sem.run_bind, r_und w hu, Result.andThen_ok, Place.get, Sem.run_pure])
      · cases h
      · rename_i d hnp hu
        simp only [Option.map_eq_some_iff] at h
        obtain ⟨n, hn, hc⟩ := h
        refine hent n hn hc.symm ?_
        cases d with
        | pointer el' => exact (hnp _ rfl).elim
        | _ => simp only [receiverAt, Sem.run_bind, r_und w hu, Result.andThen_ok, Place.get, Sem.run_pure]
      · cases h
  | _ => cases h


theorem enter_frame {g : Nat} {args : List V} {kd : Bool} {n : AF} {xs : Array Value} (hn : enterA P g args kd = some n) {cx : Cx} {hp : Array Obj} {m : Nat → Prop} (G : GRep gt cx hp m) (A : ARep cx hp m args xs) : FR gt P cx hp m n (Frame.enter P g xs (kdOf kd)) := (enterA_ok (gt := gt) hn).2 G A

/-- a range over a function is entered -/
theorem step_rangeF {F : Frame} {cs : List Frame} {w w1 w2 : World} {g : Operand} {ps : Array Tmp} {asn bd : Code} {k : List Item} {l : Nat} {mark : List Deferred} {f : FuncId} {args : Array Value} (hm : F.mode = .run) (ht : F.todo = .code (.rangeFunc g ps asn bd) :: k)
    (he : (Instr.enterLoop F.fn F.tmps ps asn bd F.roundOf).run P w = .ok (l, mark) w1)
    (hi : (do let d ← resolve F.eval (rangeCall g l) 0; invoke d.target d.args : Sem Next).run P w1 = .ok (.enter f args) w2) :
    step P (lone F cs w) = .next (lone (Frame.enter P f args .normal) ({ F with todo := .inRangeFunc l :: k, defers := mark ++ F.defers } :: cs) w2) := by
  obtain ⟨fn, tmps, todo, defers, mode, kind, ro⟩ := F
  simp only at hm ht he
  subst hm; subst ht
  refine step_lone_go ?_
  have hev : (Frame.eval { fn := fn, tmps := tmps, todo := .inRangeFunc l :: k, defers := mark ++ defers, mode := .run, kind := kind, roundOf := ro }) = Frame.eval { fn := fn, tmps := tmps, todo := .code (.rangeFunc g ps asn bd) :: k, defers := defers, mode := .run, kind := kind, roundOf := ro } := funext fun x => by cases x <;> rfl
  rw [← hev] at hi
  simp only [stepG, stepG.exec, Sem.runT_eq, he, GStep.bare_after]
  simp [stepG.apply, Sem.runT_eq, hi]

/-- on the way out: what is put off; then the rest -/
theorem unwindA_ok {wf : Nat → Nat → Nat → Bool} {kn call : Cl} {f : Nat} {e : Sl} {k : List T} {ds : List D} {md : Md} {kd : Bool} {ro : Option Nat} {c : Cfg} (hmd : md ≠ .run) (hmf : F.mode ≠ .run)
    (h : stepA gt P wf kn call ⟨f, e, k, ds, md, kd, ro⟩ as s = some c) (H : Hr (gt := gt) (P := P) cx s w ⟨f, e, k, ds, md, kd, ro⟩ F as Fs)
    (hlast : ∀ c0 r, lastA P f e md kd ro c0 r s = some c → F.defers = [] → as = c0 :: r → To (gt := gt) (P := P) cx s w F Fs c) : To (gt := gt) (P := P) cx s w F Fs c := by
  cases ds with
  | nil =>
    have hd : F.defers = [] := H.fr.ds.inv_nil
    cases md with
    | run => exact (hmd rfl).elim
    | ret =>
      cases as with
      | nil => cases h
      | cons c0 r => exact hlast c0 r h hd rfl
    | pan ch =>
      cases as with
      | nil => cases h
      | cons c0 r => exact hlast c0 r h hd rfl
  | cons d ds =>
    obtain ⟨dd, ds', hd, hdr, hds⟩ := H.fr.ds.inv_cons
    have h2 : (match d with
      | .col b => (match s.get b with
        | some (.x (.df false)) => some (⟨f, e, k, ds, md, kd, ro⟩, as, s.put b (some (.x (.df true))))
        | _ => none)
      | .f g args => (enterA P g args true).map fun n => (n, ⟨f, e, k, ds, md, kd, ro⟩ :: as, s) : Option Cfg) = some c := by
      cases md with
      | run => exact (hmd rfl).elim
      | ret => cases d <;> exact h
      | pan ch => cases d <;> exact h
    cases hdr with
    | f g args xs cap ha =>
      simp only [Option.map_eq_some_iff] at h2
      obtain ⟨n, hn, rfl⟩ := h2
      have hok := (enterA_ok (gt := gt) hn).1
      have hi : (invoke (.fn (.func g) cap) xs).run P w = .ok (.enter g (xs ++ cap)) w := by simp only [invoke]; exact call_run hok _ _
      intro bs
      exact ⟨_, { F with defers := ds' } :: Fs, w, cx, .one (step_defer hmf hd rfl hi), ⟨enter_frame hn H.g ha, .cons ⟨H.fr.f, H.fr.e, H.fr.k, hds, H.fr.md, H.fr.kd, H.fr.ro, H.fr.rn⟩ H.frs, H.rel, H.g⟩, .refl _ _ _, .rfl⟩
    | col b xs hl =>
      simp only at h2
      split at h2
      case h_2 => cases h2
      rename_i hg
      cases h2
      have h1 : w.heap[(cx.r b).b]? = some (.deferred (some [])) := by have := obj_x H.rel hg; simpa [XRep] using this
      have hk := run_takeDeferred (P := P) h1
      obtain ⟨R', E'⟩ := H.rel.updX hg (.df true) (.deferred none) (fun L => by simp [XRep, lt_of_get h1]) (fun _ _ _ => by simp)
      have hFL := H.fr.later E'.later
      intro bs
      refine ⟨{ F with defers := [] ++ ds' }, Fs, w.putObj (cx.r b).b (.deferred none), cx, .one (step_collected hmf hd rfl hk), ⟨⟨hFL.f, hFL.e, hFL.k, ?_, hFL.md, hFL.kd, hFL.ro, hFL.rn⟩, H.frs.mono fun _ _ hx => hx.later E'.later, R', H.g.later E'.later⟩, E', ⟨rfl, rfl⟩⟩
      obtain ⟨_, _, q1, _, q3⟩ := hFL.ds.inv_cons
      rw [hd] at q1
      cases q1
      exact q3

theorem stepA_ok (hmo : P.follows .mixedOrders = true) {wf : Nat → Nat → Nat → Bool} {kn call : Cl} (hkn : ClOk gt P kn) (hcall : ClOk gt P call) {a : AF} {c : Cfg} (h : stepA gt P wf kn call a as s = some c) (H : Hr (gt := gt) (P := P) cx s w a F as Fs) : To (gt := gt) (P := P) cx s w F Fs c := by
  obtain ⟨f, e, k, ds, md, kd, ro⟩ := a
  obtain ⟨el, hsr, hE⟩ := H.fr.e
  have hev := evalF F
  have hsv : (fun a : Arg => a.sv e) = fun a => a.ev el := funext hsr.ev
  cases md with
  | run =>
    have hm : F.mode = .run := H.fr.md.mode
    cases k with
    | nil =>
      have ht : F.todo = [] := H.fr.k.inv_nil
      cases ro with
      | none =>
        cases h
        have hro : F.roundOf = none := H.fr.ro
        exact H.mode .ret (fun cs => step_lone_go (by simp only [stepG, hm, stepG.exec, ht, hro, GStep.bare_go, if_true]))
      | some l =>
        have hro : F.roundOf = some (cx.r l).b := H.fr.ro
        refine roundEnd_ok (jump := none) h rfl H (fun cs v w' hr => ?_)
        simp only [stepG, hm, stepG.exec, ht, hro, Sem.runT_eq, hr, GStep.bare_after]
    | cons t k =>
      obtain ⟨it, todo', ht, hti, hkk⟩ := H.fr.k.inv_cons
      cases t with
      | blk id =>
        cases hti
        cases h
        exact H.to hkk (fun cs => step_lone_go (by simp only [stepG, hm, stepG.exec, ht, GStep.bare_go]))
      | lp cc =>
        cases hti
        cases h
        exact H.to (.cons (.c _) (.cons (.lp _) hkk)) (fun cs => step_lone_go (by simp only [stepG, hm, stepG.exec, ht, GStep.bare_go]))
      | br =>
        cases hti
        simp only [stepA] at h
        split at h
        case h_2 => cases h
        rename_i l
        split at h
        case h_2 => cases h
        rename_i pend f1 e1 ps asn bd d0 hg
        cases h
        have hro : F.roundOf = some (cx.r l).b := H.fr.ro
        obtain ⟨tmps, h1, h2, el1, h3, h4, h5, h6⟩ := obj_x H.rel hg
        have hrun := run_beginRound (P := P) h1 rfl
        obtain ⟨R', E'⟩ := H.rel.updX hg (.lp .busy pend f1 e1 ps asn bd d0) (.loop ⟨.busy, pend, f1, tmps, ps.toArray, asn, bd, (cx.r d0).b⟩)
          (fun L => ⟨tmps, by simp [lt_of_get h1], h2, el1, h3, h4, h5, fun t => (h6 t).later L⟩) (fun _ _ _ => by simp)
        intro bs
        refine ⟨{ F with todo := todo' }, Fs, w.putObj (cx.r l).b _, cx, .one (step_lone_go ?_), ⟨⟨H.fr.f, ⟨el, hsr, hE.later E'.later⟩, hkk, ?_, ?_, H.fr.kd, H.fr.ro, H.fr.rn⟩, H.frs.mono fun _ _ hx => hx.later E'.later, R', H.g.later E'.later⟩, E', ⟨rfl, rfl⟩⟩
        · have hfin : F.finish undef = { F with todo := todo' } := by simp only [Frame.finish, ht]
          rw [← hfin]
          simp only [stepG, hm, stepG.exec, ht]
          simp [stepG.apply, Sem.runT_eq, hro, Option.elim, hrun]
        · exact (H.fr.later E'.later).ds
        · exact (H.fr.later E'.later).md
      | rf l => cases h
      | erf l =>
        cases hti
        rename_i hl
        simp only [stepA] at h
        split at h
        case h_2 => cases h
        rename_i st pend f1 e1 ps asn bd d0 hg
        obtain ⟨tmps, h1, h2, el1, h3, h4, h5, h6⟩ := obj_x H.rel hg
        have hnb : st ≠ .busy := by rintro rfl; cases h
        have hrun := run_endLoop (P := P) h1 hnb
        obtain ⟨R', E'⟩ := H.rel.updX hg (.lp .exhausted pend f1 e1 ps asn bd d0) (.loop ⟨.exhausted, pend, f1, tmps, ps.toArray, asn, bd, (cx.r d0).b⟩)
          (fun L => ⟨tmps, by simp [lt_of_get h1], h2, el1, h3, h4, h5, fun t => (h6 t).later L⟩) (fun _ _ _ => by simp)
        have hc : c = (⟨f, e, pendA pend k, ds, .run, kd, ro⟩, as, s.put l (some (.x (.lp .exhausted pend f1 e1 ps asn bd d0)))) := by
          cases st <;> first | (cases h; rfl) | (cases h)
        subst hc
        intro bs
        refine ⟨{ F with todo := (pend.map Item.code).toList ++ todo' }, Fs, w.putObj (cx.r l).b _, cx, .one (step_lone_go ?_), ⟨⟨H.fr.f, ⟨el, hsr, hE.later E'.later⟩, ?_, (H.fr.later E'.later).ds, (H.fr.later E'.later).md, H.fr.kd, H.fr.ro, H.fr.rn⟩, H.frs.mono fun _ _ hx => hx.later E'.later, R', H.g.later E'.later⟩, E', ⟨rfl, rfl⟩⟩
        · simp only [stepG, hm, stepG.exec, ht, Sem.runT_eq, hrun, GStep.bare_after, GStep.bare_go]
        · cases pend with
          | none => exact hkk
          | some cc => exact .cons (.c cc) hkk
      | reg ops i r is =>
        cases r with
        | nil =>
          cases hti with
          | reg _ _ _ _ wfr hr hc =>
            have : c = (⟨f, e, k, ds, .run, kd, ro⟩, as, s) := by cases is <;> (cases h; rfl)
            subst this
            exact H.to hkk (fun cs => step_lone_go (by simp only [stepG, hm, stepG.exec, ht, List.length_nil, List.range'_zero, GStep.bare_go]))
        | cons o r =>
          cases is with
          | nil => cases h
          | cons x is =>
            obtain ⟨wfr, el', todo2, hsr', hE', hm', ht', ho, hcI, hTR, hkk', _⟩ := op_ok H
            simp only [stepA] at h
            split at h
            · rename_i hw
              have hw1 := hw
              rw [hsr'.wanted] at hw
              have hwF : Region.wanted o (yielded ops F.tmps) = true := wanted_run (act := ⟨F.tmps, []⟩) hE' hcI hw
              obtain ⟨hxd, hxk⟩ := cI_dk hcI
              have hnd : x.k ≠ .bad → isDef o.op = false := fun hb => by
                cases hd : isDef o.op with
                | false => rfl
                | true => rw [hxk, isDef_bad hd] at hb; exact (hb rfl).elim
              split at h
              · -- an operation
                rename_i y hy
                split at h
                case h_2 => cases h
                rename_i v s1 hop
                cases h
                rw [hsr'.aop] at hop
                have hk : KRun gt P el' s (cK gt P (wfr i) o.op) v s1 := by rw [← hxk, hy]; exact hop
                intro bs
                obtain ⟨a', w', hA, hss⟩ := op_frame (P := P) (cs := Fs ++ bs) (k := todo2) (next := fun a' w' => a'.defers = [] ∧ ∃ cx', ERep gt cx' w'.heap s1.L (setD el' o.dst v) a'.tmps ∧ Rel cx' s1 w'.heap ∧ Ext cx s w.heap cx' s1 w'.heap ∧ Qt w w') hm' ht' ho (hnd (by rw [hy]; simp)) hwF (fun a w h => h.1)
                  (oper_run (act := ⟨F.tmps, []⟩) hE' rfl H.rel hk (fun x w' cx' e1 e2 e3 e4 => ⟨by rw [put_defers], cx', e1, e2, e3, e4⟩))
                obtain ⟨-, cx', e1, e2, e3, e4⟩ := hA
                exact ⟨_, Fs, w', cx', hss, ⟨⟨H.fr.f, ⟨_, hsr'.setD o.dst v, e1⟩, .cons (by cases hTR with | reg _ _ _ _ a b c => exact .reg _ _ _ _ a b c) ((H.fr.later e3.later).k.inv_cons.elim fun b hb => by obtain ⟨m', q1, q2, q3⟩ := hb; rw [ht'] at q1; cases q1; exact q3), (H.fr.later e3.later).ds, (H.fr.later e3.later).md, H.fr.kd, (H.fr.later e3.later).ro, (H.fr.later e3.later).rn⟩, H.frs.mono fun _ _ hx => hx.later e3.later, e2, e1.gl⟩, e3, e4⟩
              · -- a call
                rename_i g args hy
                split at h
                · rename_i v s1 hkv
                  cases h
                  have hsv' : (fun a : Arg => a.sv e) = fun a => a.ev el' := funext hsr'.ev
                  rw [hsv'] at hkv
                  have hk : KRun gt P el' s (cK gt P (wfr i) o.op) v s1 := by rw [← hxk, hy]; exact (hkn _ _ _ _ _ hkv).2
                  intro bs
                  obtain ⟨a', w', hA, hss⟩ := op_frame (P := P) (cs := Fs ++ bs) (k := todo2) (next := fun a' w' => a'.defers = [] ∧ ∃ cx', ERep gt cx' w'.heap s1.L (setD el' o.dst v) a'.tmps ∧ Rel cx' s1 w'.heap ∧ Ext cx s w.heap cx' s1 w'.heap ∧ Qt w w') hm' ht' ho (hnd (by rw [hy]; simp)) hwF (fun a w h => h.1)
                    (oper_run (act := ⟨F.tmps, []⟩) hE' rfl H.rel hk (fun x w' cx' e1 e2 e3 e4 => ⟨by rw [put_defers], cx', e1, e2, e3, e4⟩))
                  obtain ⟨-, cx', e1, e2, e3, e4⟩ := hA
                  exact ⟨_, Fs, w', cx', hss, ⟨⟨H.fr.f, ⟨_, hsr'.setD o.dst v, e1⟩, .cons (by cases hTR with | reg _ _ _ _ a b c => exact .reg _ _ _ _ a b c) ((H.fr.later e3.later).k.inv_cons.elim fun b hb => by obtain ⟨m', q1, q2, q3⟩ := hb; rw [ht'] at q1; cases q1; exact q3), (H.fr.later e3.later).ds, (H.fr.later e3.later).md, H.fr.kd, (H.fr.later e3.later).ro, (H.fr.later e3.later).rn⟩, H.frs.mono fun _ _ hx => hx.later e3.later, e2, e1.gl⟩, e3, e4⟩
                simp only [Option.map_eq_some_iff] at h
                obtain ⟨n, hn, rfl⟩ := h
                obtain ⟨xs, hrun, har⟩ := call_exec (act := ⟨F.tmps, []⟩) (o := o) (wh := wfr i) hE' (by rw [← hxk, hy])
                rw [← hev] at hrun
                have hsv' : (fun a : Arg => a.sv e) = fun a => a.ev el' := funext hsr'.ev
                rw [← hsv'] at har
                intro bs
                exact ⟨_, F :: Fs, w, cx, .one (step_enter hm' ht' ho hwF (hnd (by rw [hy]; simp)) hrun), ⟨enter_frame hn H.g har, .cons H.fr H.frs, H.rel, H.g⟩, .refl _ _ _, .rfl⟩
              · -- a call of a value
                rename_i fa args hy
                obtain ⟨y, xs, hyv, har, hex⟩ := callv_exec (act := ⟨F.tmps, []⟩) (o := o) (wh := wfr i) hE' (by rw [← hxk, hy])
                rw [← hev] at hex
                have hsv' : (fun a : Arg => a.sv e) = fun a => a.ev el' := funext hsr'.ev
                have har0 := har
                rw [← hsv'] at har
                have hdn := hnd (by rw [hy]; simp)
                split at h
                · rename_i g cap hfa
                  simp only [Option.map_eq_some_iff] at h
                  obtain ⟨n, hn, rfl⟩ := h
                  rw [hsr'.ev] at hfa
                  rw [hfa] at hyv
                  cases hyv
                  rename_i vs hvs hvr
                  have hok := (enterA_ok (gt := gt) hn).1
                  intro bs
                  refine ⟨_, F :: Fs, w, cx, .one (step_enter hm' ht' ho hwF hdn (xs := xs ++ vs) (g := g) (w' := w) ?_), ⟨enter_frame hn H.g (har.append ⟨hvs, hvr⟩), .cons H.fr H.frs, H.rel, H.g⟩, .refl _ _ _, .rfl⟩
                  rw [hex]; exact fn_call hok
                · rename_i l hfa
                  split at h
                  case h_2 => cases h
                  rename_i st pend f1 e1 ps asn bd d0 hg
                  split at h
                  case h_2 => cases h
                  rename_i e2 hps
                  cases h
                  rw [hsr'.ev] at hfa
                  rw [hfa] at hyv
                  cases hyv
                  rename_i hl
                  obtain ⟨tmps, h1, h2, el1, h3, h4, h5, h6⟩ := obj_x H.rel hg
                  obtain ⟨q1, el2, q2, q3⟩ := setPs_ok (gt := gt) (hp := w.heap) (n := s.L) ps (args.map (·.sv e)) e1 e2 hps el1 tmps xs.toList ⟨h3, h4⟩ ⟨H.g, h5, h6⟩ (by simpa using har.len) (fun j hj => by
                    have := har.rep j hj
                    rwa [show xs.getD j undef = xs.toList.getD j undef by simp [Array.getD_eq_getD_getElem?, List.getD]] at this)
                  have hlen : xs.size = ps.toArray.size := by rw [har.len]; simp [q1]
                  have hy := run_yield (P := P) (args := xs) h1 hlen
                  intro bs
                  refine ⟨_, F :: Fs, w, cx, .one (step_round hm' ht' ho hwF hdn (l := (cx.r l).b) (f := f1) (as := asn) (bd := bd) (w' := w) (xs := (ps.zip xs.toList).foldl (fun tmps (x : Nat × Value) => tmps.setIfInBounds x.1 x.2) tmps) ?_), ⟨⟨rfl, ⟨el2, q2, q3⟩, .cons (.c _) (.cons .br (.cons (.c _) .nil)), .nil, .run, rfl, rfl, fun l' hl' => by cases hl'; exact hl⟩, .cons H.fr H.frs, H.rel, H.g⟩, .refl _ _ _, .rfl⟩
                  rw [hex]
                  simp only [Deferred.ofValue, Sem.run_bind, Sem.run_pure, Result.andThen_ok, invoke, Array.empty_append, hy]
                  congr 2
                  rw [← Array.foldl_toList, Array.toList_zip]
                · cases h
              · -- another one
                exact specA_ok H hw1 h
            · rename_i hw
              rw [hsr'.wanted] at hw
              cases h
              have hwF : Region.wanted o (yielded ops F.tmps) = false := wanted_run (act := ⟨F.tmps, []⟩) hE' hcI hw
              intro bs
              exact ⟨_, Fs, w, cx, .one (step_skipop hm' ht' ho hwF), ⟨⟨H.fr.f, ⟨_, hsr'.setD o.dst unV, ERep.setD (act := ⟨F.tmps, []⟩) hE' (VRep.un _ _ _) o.dst⟩, .cons hTR hkk', H.fr.ds, H.fr.md, H.fr.kd, H.fr.ro, H.fr.rn⟩, H.frs, H.rel, H.g⟩, .refl _ _ _, .rfl⟩
            · cases h
      | c cc =>
        cases hti
        cases cc with
        | skip =>
          cases h
          exact H.to hkk (fun cs => step_lone_go (by simp only [stepG, hm, stepG.exec, ht, GStep.bare_go]))
        | ret =>
          cases ro with
          | none =>
            cases h
            have hro : F.roundOf = none := H.fr.ro
            exact H.mode .ret (fun cs => step_lone_go (by simp only [stepG, hm, stepG.exec, ht, hro, GStep.bare_go, if_true]))
          | some l =>
            have hro : F.roundOf = some (cx.r l).b := H.fr.ro
            refine roundEnd_ok (jump := some .ret) h rfl H (fun cs v w' hr => ?_)
            simp only [stepG, hm, stepG.exec, ht, hro, Sem.runT_eq, hr, GStep.bare_after]
        | seq a b =>
          cases h
          exact H.to (.cons (.c a) (.cons (.c b) hkk)) (fun cs => step_lone_go (by simp only [stepG, hm, stepG.exec, ht, GStep.bare_go]))
        | cond x a b =>
          simp only [stepA] at h
          split at h
          case h_2 => cases h
          rename_i xa hx
          have hr1 := arg_rep (act := ⟨F.tmps, []⟩) hE hx
          split at h
          · rename_i hb
            cases h
            rw [hsr.ev] at hb
            rw [hb] at hr1
            have hxv : F.eval x = .bool true := by rw [hev]; generalize Act.eval ⟨F.tmps, []⟩ x = xv at hr1 ⊢; cases hr1; rfl
            exact H.to (.cons (.c a) hkk) (fun cs => step_lone_go (by simp only [stepG, hm, stepG.exec, ht, hxv, if_true, GStep.bare_go]))
          · rename_i hb
            cases h
            rw [hsr.ev] at hb
            rw [hb] at hr1
            have hxv : F.eval x = .bool false := by rw [hev]; generalize Act.eval ⟨F.tmps, []⟩ x = xv at hr1 ⊢; cases hr1; rfl
            exact H.to (.cons (.c b) hkk) (fun cs => step_lone_go (by simp only [stepG, hm, stepG.exec, ht, hxv, Bool.false_eq_true, if_false, GStep.bare_go]))
          · cases h
        | block id a =>
          cases h
          exact H.to (.cons (.c a) (.cons (.blk id) hkk)) (fun cs => step_lone_go (by simp only [stepG, hm, stepG.exec, ht, GStep.bare_go]))
        | loop a =>
          cases h
          exact H.to (.cons (.c a) (.cons (.lp a) hkk)) (fun cs => step_lone_go (by simp only [stepG, hm, stepG.exec, ht, GStep.bare_go]))
        | exit id =>
          simp only [stepA] at h
          have hx := exitA_ok (gt := gt) (P := P) (id := id) hkk
          split at h
          · rename_i k' hk'
            cases h
            rw [hk'] at hx
            obtain ⟨todo2, h1, h2⟩ := hx
            exact H.to h2 (fun cs => step_lone_go (by simp only [stepG, hm, stepG.exec, ht, h1, Option.elim, GStep.bare_go]))
          · rename_i hk'
            rw [hk'] at hx
            cases ro with
            | none => cases h
            | some l =>
              have hro : F.roundOf = some (cx.r l).b := H.fr.ro
              refine roundEnd_ok (jump := some (.exit id)) h rfl H (fun cs v w' hr => ?_)
              have hx' : exitTo id todo' = none := hx
              simp only [stepG, hm, stepG.exec, ht, hx', Option.elim, hro, Sem.runT_eq, hr, GStep.bare_after]
        | region id ops draw =>
          simp only [stepA] at h
          split at h
          case h_2 => cases h
          rename_i is his
          cases draw with
          | false =>
            cases h
            refine H.to (todo' := .inRegion ops (List.range' 0 ops.toList.length) :: todo') (.cons (.reg ops 0 ops.toList is (wf f id) rfl his) hkk) (fun cs => step_lone_go ?_)
            simp only [stepG, hm, stepG.exec, ht, Bool.not_false, if_true, List.range_eq_range', Array.length_toList, GStep.bare_go]
          | true =>
            simp only at h
            split at h
            · cases h
            rename_i hnd
            have hx : ∃ e' s' el', some ((⟨f, e', k, ds, .run, kd, ro⟩ : AF), as, s') = some c ∧ SR e' el' ∧ ∀ t, wpOps P ops (fun ex a' w' => ∃ x e2 s2, exitOf x = ex ∧ (x = X.nrm ∧ e2 = el' ∧ s2 = s') ∧ After gt cx s w e2 s2 a' w') (Region.schedule (P.follows .mixedOrders) ops t) ⟨F.tmps, []⟩ { w with drawn := w.drawn + 1 } := by
              split at h
              · rename_i l hl
                split at h
                case h_2 => cases h
                rename_i e' s' hev'
                obtain ⟨el', hsr2, hrun⟩ := evDrwT_ok call l [] e el s e' s' hsr hev'
                exact ⟨e', s', el', h, hsr2, drw_any (P := P) (gt := gt) (wf := wf f) (id := id) hmo his hl (evDrw_ok hcall l [] el s el' s' hrun) (Q := fun x e2 s2 => x = .nrm ∧ e2 = el' ∧ s2 = s') ⟨rfl, rfl, rfl⟩ cx w ⟨F.tmps, []⟩ hE rfl H.rel⟩
              · split at h
                case h_2 => cases h
                rename_i e' s' hev'
                obtain ⟨el', h1, h2⟩ := anyA_any hmo his hcall hsr hev' cx w ⟨F.tmps, []⟩ hE rfl H.rel
                exact ⟨e', s', el', h, h1, h2⟩
            obtain ⟨e', s', el', h, hsr2, hall⟩ := hx
            cases h
            have hnd' : ∀ (i : Nat) (o : Oper), ops[i]? = some o → isDef o.op = false := fun i o ho => by
              cases hd : isDef o.op with
              | false => rfl
              | true =>
                exfalso
                apply hnd
                rw [List.any_eq_true]
                exact ⟨o, by rw [Array.mem_toList_iff]; exact Array.mem_of_getElem? ho, hd⟩
            intro bs
            have hstep : step P (lone F (Fs ++ bs) w) = .next (lone { F with todo := .inRegion ops (Region.schedule (P.follows .mixedOrders) ops (w.tape w.drawn (.order F.fn id))) :: todo' } (Fs ++ bs) { w with drawn := w.drawn + 1 }) := by
              refine step_lone_go ?_
              simp only [stepG, hm, stepG.exec, ht]
              simp [choose, Sem.run, Question.forced, Question.cut, hm]
            obtain ⟨a', w', ⟨x2, e2, s2, hx2, ⟨rfl, rfl, rfl⟩, cx', A1, A2, A3, A4, A5⟩, hss⟩ := ops_frame (P := P) hnd' (Q := fun ex a' w' => ∃ x e2 s2, exitOf x = ex ∧ (x = X.nrm ∧ e2 = el' ∧ s2 = s') ∧ After gt cx s w e2 s2 a' w') (fun ex a w ⟨x, _, _, h1, ⟨h2, _⟩, _⟩ => by subst h2; exact h1.symm)
              _ ⟨F.tmps, []⟩ { w with drawn := w.drawn + 1 } (hall (w.tape w.drawn (.order F.fn id))) { F with todo := .inRegion ops (Region.schedule (P.follows .mixedOrders) ops (w.tape w.drawn (.order F.fn id))) :: todo' } todo' (Fs ++ bs) F.defers hm rfl rfl rfl
            rw [A2] at hss
            have hFL := H.fr.later A4.later
            exact ⟨_, Fs, w', cx', .head hstep hss, ⟨⟨H.fr.f, ⟨_, hsr2, A1⟩, (hFL.k.inv_cons).elim fun b hb => by obtain ⟨m', q1, q2, q3⟩ := hb; rw [ht] at q1; cases q1; exact q3, hFL.ds, hFL.md, hFL.kd, hFL.ro, hFL.rn⟩, H.frs.mono fun _ _ hx => hx.later A4.later, A3, A1.gl⟩, A4, A5⟩
        | rangeFunc g ps asn bd =>
          cases ro with
          | none =>
            simp only [stepA] at h
            split at h
            case h_3 => cases h
            case h_2 h0 _ => cases h0
            rename_i xa _ hx
            have hr1 := arg_rep (act := ⟨F.tmps, []⟩) hE hx
            split at h
            case h_2 => cases h
            rename_i g' cap hg
            simp only [Option.map_eq_some_iff] at h
            obtain ⟨n, hn, rfl⟩ := h
            rw [hsr.ev] at hg
            rw [hg] at hr1
            generalize hxv : Act.eval ⟨F.tmps, []⟩ g = xv at hr1
            cases hr1
            rename_i vs hvs hvr
            have hro : F.roundOf = none := H.fr.ro
            have hfn : F.fn = f := H.fr.f
            obtain ⟨cx1, c1, c2, c3⟩ := H.rel.newX (.df false) (.deferred (some [])) (fun cx' hc L => by simp [XRep])
            obtain ⟨cx2, d1, d2, d3⟩ := c2.newX (.lp .ready none f e ps.toList asn bd s.n) (.loop ⟨.ready, none, F.fn, F.tmps, ps, asn, bd, w.heap.size⟩) (fun cx' hc L => by
              have hsn : (s.new (.x (.df false))).L s.n := St.new_L0 _ H.rel.gl
              refine ⟨F.tmps, ?_, L.nle _ hsn, el, hsr.1, hsr.2, hE.len, fun t => ((hE.rep t).later c3.later).later L⟩
              rw [Array.getElem?_push_size, L.r _ hsn, c1]
              simp [hfn])
            have E2 := c3.trans d3
            have hen := run_enterLoop_outer (P := P) (w := w) F.fn F.tmps ps asn bd
            rw [← hro] at hen
            have hok := (enterA_ok (gt := gt) hn).1
            have hinv : (do let d ← resolve F.eval (rangeCall g (w.heap.size + 1)) 0; invoke d.target d.args : Sem Next).run P ((w.alloc (.deferred (some []))).alloc (.loop { state := .ready, pending := none, fn := F.fn, tmps := F.tmps, params := ps, assign := asn, body := bd, defers := w.heap.size })) = .ok (.enter g' (#[Value.func (.yield (w.heap.size + 1)) #[] #[]] ++ vs)) ((w.alloc (.deferred (some []))).alloc (.loop { state := .ready, pending := none, fn := F.fn, tmps := F.tmps, params := ps, assign := asn, body := bd, defers := w.heap.size })) := by
              have : F.eval (.const (.func (.yield (w.heap.size + 1)) #[] #[])) = .func (.yield (w.heap.size + 1)) #[] #[] := rfl
              have hmap : ∀ v, Array.map (Act.eval ⟨F.tmps, []⟩) #[Operand.const v] = #[v] := fun v => by simp [Act.eval]
              simp only [resolve, rangeCall, hev, hxv, hmap]
              exact fn_call hok
            have hstep := fun cs => step_rangeF (P := P) (cs := cs) hm ht hen hinv
            intro bs
            have hL2 := E2.later
            have hyl : VRep cx2 ((w.heap.push (.deferred (some []))).push (.loop ⟨.ready, none, F.fn, F.tmps, ps, asn, bd, w.heap.size⟩)) ((s.new (.x (.df false))).new (.x (.lp .ready none f e ps.toList asn bd s.n))).L (.yl (s.n + 1)) (.func (.yield (w.heap.size + 1)) #[] #[]) := by
              have := VRep.yl (cx := cx2) (h := (w.heap.push (.deferred (some []))).push (.loop ⟨.ready, none, F.fn, F.tmps, ps, asn, bd, w.heap.size⟩)) (n := ((s.new (.x (.df false))).new (.x (.lp .ready none f e ps.toList asn bd s.n))).L) (s.n + 1) (St.new_L0 (s := s.new (.x (.df false))) _ c2.gl)
              have hd1 : cx2.r (s.n + 1) = ⟨w.heap.size + 1, 0, 0, 0⟩ := by have := d1; simpa using this
              rw [hd1] at this
              exact this
            have hFL := H.fr.later hL2
            have hcol : cx2.r s.n = ⟨w.heap.size, 0, 0, 0⟩ := by rw [d3.later.r _ (St.new_L0 _ H.rel.gl), c1]
            have hrf : cx2.r (s.n + 1) = ⟨w.heap.size + 1, 0, 0, 0⟩ := by have := d1; simpa using this
            refine ⟨_, { F with todo := .inRangeFunc (w.heap.size + 1) :: todo', defers := [{ target := .collected w.heap.size, args := #[] }] ++ F.defers } :: Fs, (w.alloc (.deferred (some []))).alloc (.loop { state := .ready, pending := none, fn := F.fn, tmps := F.tmps, params := ps, assign := asn, body := bd, defers := w.heap.size }), cx2, .one (hstep _), ⟨enter_frame hn (H.g.later hL2) ?_, .cons ⟨hFL.f, hFL.e, .cons ?_ ?_, .cons ?_ hFL.ds, hFL.md, hFL.kd, hFL.ro, hFL.rn⟩ (H.frs.mono fun _ _ hx => hx.later hL2), d2, H.g.later hL2⟩, E2, ⟨rfl, rfl⟩⟩
            · have h1 : ARep cx2 _ _ [V.yl (s.n + 1)] #[Value.func (.yield (w.heap.size + 1)) #[] #[]] := ⟨rfl, fun j hj => by
                match j, hj with
                | 0, _ => simpa using hyl⟩
              have h2 : ARep cx w.heap s.L cap vs := ⟨hvs, hvr⟩
              exact h1.append (h2.later hL2)
            · have := TR.rf (gt := gt) (P := P) (cx := cx2) (n := ((s.new (.x (.df false))).new (.x (.lp .ready none f e ps.toList asn bd s.n))).L) (s.n + 1) (St.new_L0 (s := s.new (.x (.df false))) _ c2.gl)
              rwa [hrf] at this
            · exact (hFL.k.inv_cons).elim fun b hb => by obtain ⟨m', q1, q2, q3⟩ := hb; rw [ht] at q1; cases q1; exact q3
            · have := DR.col (cx := cx2) (h := (w.heap.push (.deferred (some []))).push (.loop ⟨.ready, none, F.fn, F.tmps, ps, asn, bd, w.heap.size⟩)) (n := ((s.new (.x (.df false))).new (.x (.lp .ready none f e ps.toList asn bd s.n))).L) s.n #[] (d3.later.nle _ (St.new_L0 _ H.rel.gl))
              rwa [hcol] at this
          | some l0 =>
            simp only [stepA] at h
            split at h
            case h_3 => cases h
            case h_1 h0 _ => cases h0
            rename_i l0' xa hl0 hx
            cases hl0
            have hr1 := arg_rep (act := ⟨F.tmps, []⟩) hE hx
            split at h
            case h_2 => cases h
            rename_i g' cap st0 pend0 f0 e0 ps0 as0 bd0 d0 hg hg0
            simp only [Option.map_eq_some_iff] at h
            obtain ⟨n, hn, rfl⟩ := h
            rw [hsr.ev] at hg
            rw [hg] at hr1
            generalize hxv : Act.eval ⟨F.tmps, []⟩ g = xv at hr1
            cases hr1
            rename_i vs hvs hvr
            have hro : F.roundOf = some (cx.r l0).b := H.fr.ro
            have hfn : F.fn = f := H.fr.f
            obtain ⟨tm0, g1, g2, -⟩ := obj_x H.rel hg0
            obtain ⟨cx2, d1, d2, d3⟩ := H.rel.newX (.lp .ready none f e ps.toList asn bd d0) (.loop ⟨.ready, none, F.fn, F.tmps, ps, asn, bd, (cx.r d0).b⟩) (fun cx' hc L => by
              refine ⟨F.tmps, ?_, L.nle _ g2, el, hsr.1, hsr.2, hE.len, fun t => (hE.rep t).later L⟩
              rw [L.r _ g2]
              simp [hfn])
            have hen := run_enterLoop_inner (P := P) g1 F.fn F.tmps ps asn bd
            rw [← hro] at hen
            have hok := (enterA_ok (gt := gt) hn).1
            have hinv : (do let d ← resolve F.eval (rangeCall g w.heap.size) 0; invoke d.target d.args : Sem Next).run P (w.alloc (.loop { state := .ready, pending := none, fn := F.fn, tmps := F.tmps, params := ps, assign := asn, body := bd, defers := (cx.r d0).b })) = .ok (.enter g' (#[Value.func (.yield w.heap.size) #[] #[]] ++ vs)) (w.alloc (.loop { state := .ready, pending := none, fn := F.fn, tmps := F.tmps, params := ps, assign := asn, body := bd, defers := (cx.r d0).b })) := by
              have hmap : ∀ v, Array.map (Act.eval ⟨F.tmps, []⟩) #[Operand.const v] = #[v] := fun v => by simp [Act.eval]
              simp only [resolve, rangeCall, hev, hxv, hmap]
              exact fn_call hok
            have hstep := fun cs => step_rangeF (P := P) (cs := cs) hm ht hen hinv
            intro bs
            have hL2 := d3.later
            have hyl := VRep.yl (cx := cx2) (h := w.heap.push (.loop ⟨.ready, none, F.fn, F.tmps, ps, asn, bd, (cx.r d0).b⟩)) (n := (s.new (.x (.lp .ready none f e ps.toList asn bd d0))).L) s.n (St.new_L0 _ H.rel.gl)
            rw [d1] at hyl
            have hFL := H.fr.later hL2
            refine ⟨_, { F with todo := .inRangeFunc w.heap.size :: todo', defers := [] ++ F.defers } :: Fs, w.alloc (.loop { state := .ready, pending := none, fn := F.fn, tmps := F.tmps, params := ps, assign := asn, body := bd, defers := (cx.r d0).b }), cx2, .one (hstep _), ⟨enter_frame hn (H.g.later hL2) ?_, .cons ⟨hFL.f, hFL.e, .cons ?_ ?_, hFL.ds, hFL.md, hFL.kd, hFL.ro, hFL.rn⟩ (H.frs.mono fun _ _ hx => hx.later hL2), d2, H.g.later hL2⟩, d3, ⟨rfl, rfl⟩⟩
            · have h1 : ARep cx2 _ _ [V.yl s.n] #[Value.func (.yield w.heap.size) #[] #[]] := ⟨rfl, fun j hj => by
                match j, hj with
                | 0, _ => simpa using hyl⟩
              have h2 : ARep cx w.heap s.L cap vs := ⟨hvs, hvr⟩
              exact h1.append (h2.later hL2)
            · have := TR.rf (gt := gt) (P := P) (cx := cx2) (n := (s.new (.x (.lp .ready none f e ps.toList asn bd d0))).L) s.n (St.new_L0 _ H.rel.gl)
              rwa [d1] at this
            · exact (hFL.k.inv_cons).elim fun b hb => by obtain ⟨m', q1, q2, q3⟩ := hb; rw [ht] at q1; cases q1; exact q3
        | _ => cases h
  | ret =>
    have hm : F.mode = .returning := H.fr.md.retm
    refine unwindA_ok (md := .ret) (by simp) (by rw [hm]; simp) h H (fun c0 r hc hds has => ?_)
    subst has
    cases ro with
    | some l => cases hc
    | none =>
      simp only [lastA] at hc
      split at hc
      · cases hc
      rename_i fn hfn
      split at hc
      · cases hc
      rename_i rs hrs
      split at hc
      · cases hc
      rename_i vs hvs
      simp only [Option.map_eq_some_iff] at hc
      obtain ⟨c1, hb, rfl⟩ := hc
      obtain ⟨C, Fs', rfl, hC, hFs⟩ := H.frs.inv_cons
      rw [hsr.resV] at hvs
      obtain ⟨y, y1, y2⟩ := results_rep (act := ⟨F.tmps, []⟩) hE H.rel hrs hvs
      obtain ⟨C', hC', hfin⟩ := backA_ok hb hC y2
      have hfn' : P.funcs[F.fn]? = some fn := by rw [H.fr.f]; exact hfn
      intro bs
      refine ⟨C', Fs', w, cx, .one (step_lone_go ?_), ⟨hC', hFs, H.rel, H.g⟩, .refl _ _ _, .rfl⟩
      have y1' : (results fn F.tmps).run P w = .ok y w := y1
      have := doReturn_back (F := F) (P := P) (c := C) (cs := Fs' ++ bs) (x := y) (w := w) (kd := kd) H.fr.kd
      rw [hfin] at this
      rw [← this]
      simp only [stepG, hm, unwind, hds, hfn', Sem.runT_eq, y1', GStep.bare_after, List.cons_append]
  | pan ch =>
    have hMR := H.fr.md
    generalize hmf : F.mode = fm at hMR
    cases hMR with
    | pan _ chain hch =>
      refine unwindA_ok (md := .pan ch) (by simp) (by rw [hmf]; simp) h H (fun c0 r hc hds has => ?_)
      subst has
      simp only [lastA, Option.some.injEq] at hc
      subst hc
      obtain ⟨C, Fs', rfl, hC, hFs⟩ := H.frs.inv_cons
      have hcat : F.catches P = false := by
        unfold Frame.catches
        split
        · rename_i h1 h2
          have := H.fr.k
          rw [h2] at this
          cases this with
          | cons hti _ => cases hti
        · rfl
      have hstep : ∀ cs, step P (lone F (C :: cs) w) = .next (lone (C.raise chain) cs w) := fun cs => step_lone_go (by simp [stepG, unwind, hcat, hmf, hds])
      intro bs
      refine ⟨C.raise chain, Fs', w, cx, .one (hstep _), ⟨?_, hFs, H.rel, H.g⟩, .refl _ _ _, .rfl⟩
      have hCm := hC.md
      unfold raiseA Frame.raise
      generalize hcm : C.mode = cm at hCm
      generalize hcmd : c0.md = cmd at hCm
      cases hCm with
      | run => exact ⟨hC.f, hC.e, hC.k, hC.ds, .pan _ _ hch, hC.kd, hC.ro, hC.rn⟩
      | ret => exact ⟨hC.f, hC.e, hC.k, hC.ds, .pan _ _ hch, hC.kd, hC.ro, hC.rn⟩
      | pan ch2 chain2 hch2 => exact ⟨hC.f, hC.e, hC.k, hC.ds, .pan _ _ (hch.append hch2), hC.kd, hC.ro, hC.rn⟩


/-- a whole run -/
theorem runA_ok (hmo : P.follows .mixedOrders = true) {wf : Nat → Nat → Nat → Bool} {kn call : Cl} (hkn : ClOk gt P kn) (hcall : ClOk gt P call) {f0 : Nat} {v : V} {s' : St} : ∀ (n : Nat) {a : AF} {as : List AF} {s : St} {cx : Cx} {w : World} {F : Frame} {Fs : List Frame}, runA gt P wf kn call f0 n a as s = some (v, s') → Hr (gt := gt) (P := P) cx s w a F as Fs →
    ∀ bs, ∃ (F' : Frame) (w' : World) (x : Value) (cx' : Cx), Steps P (lone F (Fs ++ bs) w) (lone F' bs w') ∧ F'.leaving P w' (.returned x) ∧ F'.fn = f0 ∧ VRep cx' w'.heap s'.L v x ∧ Rel cx' s' w'.heap ∧ Ext cx s w.heap cx' s' w'.heap ∧ Qt w w'
  | 0, a, as, s, cx, w, F, Fs, h, H, bs => by cases h
  | n + 1, a, as, s, cx, w, F, Fs, h, H, bs => by
    simp only [runA, stepQ_eq] at h
    split at h
    · rename_i fr' cs' s1 hst
      obtain ⟨F1, Fs1, w1, cx1, h1, h2, h3, h4⟩ := stepA_ok hmo hkn hcall hst H bs
      obtain ⟨F', w', x, cx', g1, g2, g3, g4, g5, g6, g7⟩ := runA_ok hmo hkn hcall n h h2 bs
      exact ⟨F', w', x, cx', h1.trans g1, g2, g3, g4, g5, h3.trans g6, h4.trans g7⟩
    · obtain ⟨f, e, k, ds, md, kd, ro⟩ := a
      simp only [endA] at h
      split at h
      case h_2 => cases h
      split at h
      case h_2 => cases h
      split at h
      case h_2 => cases h
      split at h
      case h_2 => cases h
      split at h
      case h_2 => cases h
      rename_i hb
      split at h
      · cases h
      rename_i fn hfn
      split at h
      · cases h
      rename_i rs hrs
      split at h
      · cases h
      rename_i vs hvs
      cases h
      have hFs := H.frs.inv_nil
      subst hFs
      obtain ⟨el, hsr, hE⟩ := H.fr.e
      rw [hsr.resV] at hvs
      obtain ⟨y, y1, y2⟩ := results_rep (act := ⟨F.tmps, []⟩) hE H.rel hrs hvs
      have hf : f = f0 := Nat.eq_of_beq_eq_true hb
      exact ⟨F, w, y, cx, Steps.refl P _, ⟨H.fr.md.retm, H.fr.ds.inv_nil, H.fr.kd, fn, by rw [H.fr.f]; exact hfn, y1⟩, by rw [H.fr.f]; exact hf, y2, H.rel, .refl _ _ _, .rfl⟩

theorem callA_ok (hmo : P.follows .mixedOrders = true) {wf : Nat → Nat → Nat → Bool} {kn : Cl} (hkn : ClOk gt P kn) (n : Nat) : ∀ d, ClOk gt P (callA gt P wf kn n d)
  | 0, f, args, s, v, s', h => by cases h
  | d + 1, f, args, s, v, s', h => by
    simp only [callA] at h
    split at h
    · rename_i r hr
      cases h
      exact hkn _ _ _ _ _ hr
    · split at h
      · rename_i fr hfr
        refine ⟨(enterA_ok (gt := gt) hfr).1, fun cx w xs R G A cs => ?_⟩
        obtain ⟨F', w', x, cx', h1, h2, h3, h4⟩ := runA_ok hmo hkn (callA_ok hmo hkn n d) n h (F := Frame.enter P f xs .normal) (Fs := []) (cx := cx) (w := w) ⟨enter_frame hfr G A, .nil, R, G⟩ cs
        exact ⟨.returned x, w', F', ⟨x, cx', rfl, h4⟩, h1, h3, h2⟩
      · cases h

/-- nothing is known -/
def kn0 : Cl := fun _ _ _ => none
theorem kn0_ok : ClOk gt P kn0 := fun _ _ _ _ _ h => by cases h

end
end Rf
