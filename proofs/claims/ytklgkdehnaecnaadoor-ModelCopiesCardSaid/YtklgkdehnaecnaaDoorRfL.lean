/-
  All operations: what the model does is what the abstract machine does.
-/
import Derived.Test.YtklgkdehnaecnaaDoorRfWa
set_option linter.all false
set_option linter.unusedSimpArgs false
namespace Rf
open Go

def OkN (r : Result Next) (cx : Cx) (s : St) (w : World) (v : V) (s' : St) : Prop :=
  ∃ x w' cx', (r = .ok (.value x) w' ∨ (r = .ok .skip w' ∧ x = undef)) ∧ VRep cx' w'.heap s'.L v x ∧ Rel cx' s' w'.heap ∧ Ext cx s w.heap cx' s' w'.heap ∧ Qt w w'

section
variable {gt : Nat → Option V} {P : Program} {w : World} {cx : Cx} {s : St} {e : List V} {act : Act}

theorem Ok.val {m : Sem Value} {v : V} {s' : St} (h : Ok (m.run P w) cx s w v s') : OkN ((do Pure.pure (Next.value (← m)) : Sem Next).run P w) cx s w v s' := by
  obtain ⟨x, w', cx', h1, h2, h3, h4⟩ := h
  exact ⟨x, w', cx', .inl (by simp only [Sem.run_bind, h1, Result.andThen_ok, Sem.run_pure]), h2, h3, h4⟩

theorem opt_rep (E : ERep gt cx w.heap s.L e act.tmps) {x : Option Operand} {a : Option Arg} (hc : cOpt gt x = some a) : ORp cx w.heap s.L (a.map (·.ev e)) (x.map act.eval) := by
  cases x with
  | none => simp [cOpt] at hc; subst hc; trivial
  | some x =>
    simp only [cOpt, Option.map_eq_some_iff] at hc
    obtain ⟨a', h1, rfl⟩ := hc
    exact arg_rep E h1

theorem sim_B (E : ERep gt cx w.heap s.L e act.tmps) (R : Rel cx s w.heap) {wh : Bool} {b : Builtin} {ts : List TypeId} {args : List Operand} {a : A} (hc : cB gt P wh b ts args = some a) {v : V} {s' : St} (hop : aop e s a = some (v, s')) (ty : TypeId) (cs : Array Bool) :
    OkN ((builtin b ts.toArray ty cs (args.map act.eval).toArray).run P w) cx s w v s' := by
  unfold cB at hc
  split at hc
  · split at hc
    · rename_i t t2 x y
      split at hc
      · rename_i el x' y' hu hx hy
        split at hc
        · rename_i sz ag by_ z d2 h1 h2 h3 h4 h5
          split at hc
          · rename_i hcond
            obtain ⟨c1, c2, c3, c4⟩ := hcond
            cases hc
            have := sim_app (P := P) (ty := ty) R hu h1 h3 h4 c2 c1 c3 h5 c4 (arg_rep E hx) (arg_rep E hy) hop
            exact this.val
          · cases hc
        · cases hc
      · cases hc
    · cases hc
  · split at hc
    · rename_i t t2 x y
      split at hc
      · rename_i el x' y' hu hx hy
        split at hc
        · rename_i sz h1
          split at hc
          · cases hc
            exact (sim_cpy (P := P) (ty := ty) (t2 := t2) R hu h1 (arg_rep E hx) (arg_rep E hy) hop).val
          · cases hc
        · cases hc
      · cases hc
    · cases hc
  · split at hc
    · rename_i x y
      split at hc
      · rename_i x' y' hx hy
        cases hc
        exact (sim_mmx (P := P) R (arg_rep E hx) (arg_rep E hy) hop ts.toArray ty).val
      · cases hc
    · cases hc
  · split at hc
    · rename_i x y
      split at hc
      · rename_i x' y' hx hy
        cases hc
        exact (sim_mmx (P := P) R (arg_rep E hx) (arg_rep E hy) hop ts.toArray ty).val
      · cases hc
    · cases hc
  · split at hc
    · rename_i t x
      split at hc
      · rename_i el x' hu hx
        cases hc
        exact (sim_len (P := P) R hu (arg_rep E hx) hop ty).val
      · rename_i x' hu hx
        cases hc
        exact (sim_lenS (P := P) R hu (arg_rep E hx) hop ty).val
      · rename_i kt et x' hu hx
        cases hc
        exact (sim_mlen (P := P) (ty := ty) R hu (arg_rep E hx) hop).val
      · cases hc
    · cases hc
  · split at hc
    · rename_i t t2 x y
      split at hc
      · rename_i kt et x' y' hu hx hy
        simp only [Option.map_eq_some_iff] at hc
        obtain ⟨kk, hk, rfl⟩ := hc
        exact (sim_mdel (P := P) (ty := ty) (t2 := t2) R hu hk (arg_rep E hx) (arg_rep E hy) hop).val
      · cases hc
    · cases hc
  · split at hc
    · rename_i t x
      split at hc
      · rename_i kt et x' hu hx
        cases hc
        exact (sim_mclr (P := P) (ty := ty) R hu (arg_rep E hx) hop).val
      · rename_i el x' hu hx
        simp only [Option.map_eq_some_iff] at hc
        obtain ⟨z, hz, rfl⟩ := hc
        exact (sim_sclr (P := P) (ty := ty) R hu hz (arg_rep E hx) hop).val
      · cases hc
    · cases hc
  · split at hc
    · rename_i x
      simp only [Option.map_eq_some_iff] at hc
      obtain ⟨x', hx, rfl⟩ := hc
      exact (sim_usd (P := P) R (arg_rep E hx) ts.toArray ty hop).val
    · cases hc
  · split at hc
    · rename_i t t2 x n
      split at hc
      · rename_i el x' n' hu hx hn
        split at hc
        · rename_i h1
          cases hc
          exact (sim_ustr (P := P) (ty := ty) (it := t2) R hu h1 (arg_rep E hx) (arg_rep E hn) hop).val
        · cases hc
      · cases hc
    · cases hc
  · cases hc

theorem sim_op (E : ERep gt cx w.heap s.L e act.tmps) (R : Rel cx s w.heap) {o : Oper} {wh : Bool} {a : A} (hc : cA gt P wh o.op = some a) {v : V} {s' : St} (hop : aop e s a = some (v, s')) :
    OkN ((execOp act.eval o).run P w) cx s w v s' := by
  obtain ⟨dst, op, ty, pos, after, guard⟩ := o
  simp only at hc
  unfold cA at hc
  split at hc
  · -- move
    simp only [Option.map_eq_some_iff] at hc
    obtain ⟨x', hx, rfl⟩ := hc
    simp only [aop] at hop; cases hop
    exact ⟨_, w, cx, .inl rfl, arg_rep E hx, R, .refl _ _ _, .rfl⟩
  · simp only [Option.map_eq_some_iff] at hc
    obtain ⟨x', hx, rfl⟩ := hc
    simp only [aop] at hop; cases hop
    exact ⟨_, w, cx, .inl rfl, arg_rep E hx, R, .refl _ _ _, .rfl⟩
  · -- pick
    rename_i c a b
    split at hc
    · rename_i c' a' b' h1 h2 h3
      cases hc
      have r1 := arg_rep E h1
      simp only [aop] at hop
      split at hop
      · rename_i hev
        rw [hev] at r1; cases hop
        generalize hc : act.eval c = cv at r1
        cases r1
        refine ⟨act.eval a, w, cx, .inl ?_, arg_rep E h2, R, .refl _ _ _, .rfl⟩
        simp only [execOp, hc, asBool, Sem.run_bind, Sem.run_pure, Result.andThen_ok, if_true]
      · rename_i hev
        rw [hev] at r1; cases hop
        generalize hc : act.eval c = cv at r1
        cases r1
        refine ⟨act.eval b, w, cx, .inl ?_, arg_rep E h3, R, .refl _ _ _, .rfl⟩
        simp only [execOp, hc, asBool, Sem.run_bind, Sem.run_pure, Result.andThen_ok, Bool.false_eq_true, if_false]
      · cases hop
    · cases hc
  · -- alloc
    simp only [Option.map_eq_some_iff] at hc
    obtain ⟨z, hz, rfl⟩ := hc
    exact (sim_alloc (P := P) R hz hop).val
  · simp only [Option.map_eq_some_iff] at hc
    obtain ⟨x', hx, rfl⟩ := hc
    exact (sim_box (P := P) R (arg_rep E hx) hop).val
  · -- build
    rename_i t ps
    split at hc
    · rename_i fs z hu hz
      split at hc
      · rename_i hall
        simp only [Option.map_eq_some_iff] at hc
        obtain ⟨ps', hp, rfl⟩ := hc
        exact (sim_build (P := P) E R hz ps ps' (.inl ⟨fs, hu, hall, hp⟩) hop).val
      · cases hc
    · rename_i k el z hu hz
      split at hc
      · rename_i n hn
        simp only [Option.map_eq_some_iff] at hc
        obtain ⟨ps', hp, rfl⟩ := hc
        exact (sim_build (P := P) E R hz ps ps' (.inr ⟨k, el, n, hu, hn, hp⟩) hop).val
      · cases hc
    · cases hc
  · -- buildSlice
    rename_i t n ps
    split at hc
    · rename_i el hu
      split at hc
      · rename_i sz ag z h1 h2 h3
        split at hc
        · rename_i hcond
          obtain ⟨c1, c2, c3, c4⟩ := hcond
          simp only [Option.map_eq_some_iff] at hc
          obtain ⟨ps', hp, rfl⟩ := hc
          exact (sim_bsl (P := P) E R hu h1 h3 c1 c2 c3 c4 ps ps' hp hop).val
        · cases hc
      · cases hc
    · cases hc
  · -- load
    split at hc
    · rename_i n a' h1 h2 h3
      cases hc
      exact (sim_loadn (P := P) R h1 h2 (arg_rep E h3) hop).val
    · rename_i n a' h1 h2 h3
      cases hc
      exact (sim_load1 (P := P) R h1 (arg_rep E h3) hop).val
    · cases hc
  · -- store
    split at hc
    · rename_i n a' v' h1 h2 h3
      cases hc
      obtain ⟨w', cx', e1, rfl, e3, e4⟩ := sim_store (P := P) R h1 (arg_rep E h2) (arg_rep E h3) hop
      refine ⟨undef, w', cx', .inr ⟨?_, rfl⟩, VRep.un _ _ _, e3, e4⟩
      simp only [execOp, Sem.run_bind, e1, Result.andThen_ok, Sem.run_pure]
    · cases hc
  · -- nilCheck
    simp only [Option.map_eq_some_iff] at hc
    obtain ⟨x', hx, rfl⟩ := hc
    rename_i x
    obtain ⟨rfl, h1, h2, h3, h4, h5⟩ := sim_nilc R (arg_rep E hx) hop
    refine ⟨act.eval x, w, cx, .inl ?_, h1, R, .refl _ _ _, .rfl⟩
    simp only [execOp]
    first
      | rfl
      | (split
         · rename_i h; exact (h2 h).elim
         · rename_i h; exact (h3 h).elim
         · rename_i h; exact (h4 h).elim
         · rename_i h; exact (h5 _ _ _ h).elim
         · rfl)
  · -- binOp
    rename_i bop t x y t2
    split at hc
    · rename_i x' y' hx hy
      split at hc
      · rename_i hb
        cases hc
        obtain ⟨r, w', cx', e1, e2, e3, e4⟩ := sim_bin (P := P) (t := t) R hb (arg_rep E hx) (arg_rep E hy) hop
        refine ⟨r, w', cx', .inl ?_, e2, e3, e4⟩
        have hg : (eqGuard bop t x y (act.eval x) (act.eval y)).run P w = .ok () w := by cases bop <;> first | rfl | (simp [isBin] at hb)
        simp only [execOp, Sem.run_bind, hg, Result.andThen_ok, e1, Sem.run_pure]
      · rename_i hb
        simp only [Option.map_eq_some_iff] at hc
        obtain ⟨kd, hk, rfl⟩ := hc
        have hop2 : bop = .eql ∨ bop = .neq := by cases bop <;> simp_all [isBin]
        exact (sim_eql (P := P) R hop2 hk (arg_rep E hx) (arg_rep E hy) hop).val
    · cases hc
  · simp only [Option.map_eq_some_iff] at hc
    obtain ⟨x', hx, rfl⟩ := hc
    exact (sim_not (P := P) R (arg_rep E hx) hop).val
  · simp only [Option.map_eq_some_iff] at hc
    obtain ⟨x', hx, rfl⟩ := hc
    exact (sim_neg (P := P) R (arg_rep E hx) hop).val
  · simp only [Option.map_eq_some_iff] at hc
    obtain ⟨x', hx, rfl⟩ := hc
    exact (sim_xr (P := P) R (arg_rep E hx) hop).val
  · -- convert
    split at hc
    · rename_i k0 k x' h1 h2 hx
      cases hc
      exact (sim_conv (P := P) R h1 h2 (arg_rep E hx) hop).val
    · rename_i x' h1 h2 hx
      cases hc
      exact (sim_convS (P := P) R h1 h2 (arg_rep E hx) hop).val
    · rename_i el x' h1 h2 hx
      split at hc
      · rename_i hel
        cases hc
        have hel' : P.underlying el = some (.int .u8) := by
          first
            | exact hel
            | (split at hel
               · assumption
               · cases hel)
        exact (sim_s2b (P := P) R h1 h2 hel' (arg_rep E hx) hop).val
      · cases hc
    · rename_i el x' h1 h2 hx
      split at hc
      · rename_i hel
        cases hc
        have hel' : P.underlying el = some (.int .u8) := by
          first
            | exact hel
            | (split at hel
               · assumption
               · cases hel)
        exact (sim_b2s (P := P) R h1 hel' h2 (arg_rep E hx) hop).val
      · cases hc
    · rename_i el x' h1 h2 hx
      split at hc
      · rename_i n hn
        split at hc
        · rename_i h0
          cases hc
          exact (sim_u1 (P := P) R h1 h2 hn h0 (arg_rep E hx) hop).val
        · cases hc
      · cases hc
    · rename_i el x' h1 h2 hx
      split at hc
      · rename_i n hn
        split at hc
        · rename_i h0
          cases hc
          exact (sim_u2 (P := P) R h1 h2 hn h0 (arg_rep E hx) hop).val
        · cases hc
      · cases hc
    · cases hc
  · -- fieldAddr
    split at hc
    · rename_i fs x' hu hx
      split at hc
      · rename_i fd hf
        split at hc
        · rename_i n hn
          split at hc
          · rename_i h0
            cases hc
            exact (sim_fa (P := P) R hu hf hn h0 (arg_rep E hx) hop).val
          · cases hc
        · cases hc
      · cases hc
    · cases hc
  · -- field
    split at hc
    · rename_i fs x' hu hx
      split at hc
      · rename_i fd hf
        split at hc
        · rename_i n h1 h2
          cases hc
          exact (sim_fld (P := P) (ag := true) R hu hf h1 h2 (arg_rep E hx) hop).val
        · rename_i n h1 h2
          cases hc
          exact (sim_fld (P := P) (ag := false) R hu hf h1 h2 (arg_rep E hx) hop).val
        · cases hc
      · cases hc
    · cases hc
  · -- indexAddr
    split at hc
    · rename_i el x' i' hu hx hi
      split at hc
      · rename_i n hn
        split at hc
        · cases hc
          exact (sim_ia (P := P) R hu hn (arg_rep E hx) (arg_rep E hi) hop).val
        · cases hc
      · cases hc
    · rename_i len el x' i' hu hx hi
      split at hc
      · rename_i n hn
        split at hc
        · cases hc
          exact (sim_iaA (P := P) R hu hn (arg_rep E hx) (arg_rep E hi) hop).val
        · cases hc
      · cases hc
    · cases hc
  · -- index
    split at hc
    · rename_i len el x' i' hu hx hi
      split at hc
      · rename_i n ag hn hag
        cases hc
        exact (sim_idxA (P := P) R hu hn hag (arg_rep E hx) (arg_rep E hi) hop).val
      · cases hc
    · rename_i x' i' hu hx hi
      cases hc
      exact (sim_idxS (P := P) R hu (arg_rep E hx) (arg_rep E hi) hop).val
    · cases hc
  · simp only [Option.map_eq_some_iff] at hc
    obtain ⟨x', hx, rfl⟩ := hc
    exact (sim_ext (P := P) R (arg_rep E hx) hop).val
  · -- makeSlice
    split at hc
    · rename_i el n' c' hu hn hcc
      split at hc
      · rename_i sz by_ z h1 h2 h3
        split at hc
        · rename_i hcond
          cases hc
          exact (sim_mks (P := P) R hu h1 h2 h3 hcond.1 hcond.2 (arg_rep E hn) (arg_rep E hcc) hop).val
        · cases hc
      · cases hc
    · cases hc
  · -- slice
    rename_i t0 x0 l0 h0 m0
    split at hc
    · rename_i el x' l' h' m' hu hx hl hh hm
      split at hc
      · rename_i n hn
        split at hc
        · cases hc
          exact (sim_slc (P := P) R hu hn (arg_rep E hx) (opt_rep E hl) (opt_rep E hh) (opt_rep E hm) hop).val
        · cases hc
      · cases hc
    · rename_i x' l' h' hu hx hl hh hm
      cases hc
      have hm0 : m0 = none := by
        cases m0 with
        | none => rfl
        | some m => simp [cOpt] at hm
      subst hm0
      exact (sim_slS (P := P) R hu (arg_rep E hx) (opt_rep E hl) (opt_rep E hh) hop).val
    · rename_i len el x' l' h' m' hu hx hl hh hm
      split at hc
      · rename_i n hn
        split at hc
        · cases hc
          exact (sim_slA (P := P) R hu hn (arg_rep E hx) (opt_rep E hl) (opt_rep E hh) (opt_rep E hm) hop).val
        · cases hc
      · cases hc
    · cases hc
  · -- makeFunc
    rename_i f first cap
    split at hc
    · cases hc
    · rename_i hf
      simp only [Option.map_eq_some_iff] at hc
      obtain ⟨l, hl, rfl⟩ := hc
      simp only [aop] at hop; cases hop
      have hf' : first = #[] := Array.eq_empty_of_size_eq_zero (by simpa using hf)
      subst hf'
      obtain ⟨h1, h2⟩ := mapO_get _ _ _ hl
      refine ⟨.func (.func f) #[] (cap.map act.eval), w, cx, .inl (by simp [execOp, Instr.makeFunc]), ?_, R, .refl _ _ _, .rfl⟩
      refine .fn f _ _ (by simp [h1]) (fun j hj => ?_)
      have hj' : j < cap.size := by simpa [h1] using hj
      obtain ⟨b, h3, h4⟩ := h2 j cap[j] (by simp [hj'])
      have := arg_rep E h3
      simpa [List.getD, h4, Array.getD_eq_getD_getElem?, hj'] using this
  · -- makeInterface
    split at hc
    · cases hc
    · rename_i d hd hu
      simp only [Option.map_eq_some_iff] at hc
      obtain ⟨x', hx, rfl⟩ := hc
      simp only [aop] at hop; cases hop
      exact (sim_mki (P := P) R hu (fun m hm => hd m hm) (arg_rep E hx)).val
    · cases hc
  · -- builtins
    rename_i c
    split at hc
    · rename_i b hb
      have := sim_B (P := P) E R hc hop ty (c.args.map fun | .const _ => true | _ => false)
      obtain ⟨callee, args, argTypes⟩ := c
      simp only at hb; subst hb
      simp only [execOp, resolve, Sem.run_bind, Sem.run_pure, Result.andThen_ok, invoke]
      have he : (args.toList.map act.eval).toArray = args.map act.eval := by apply Array.ext'; simp
      rw [he, Array.toArray_toList] at this
      exact this
    · cases hc
  · -- makeMap
    rename_i t r
    split at hc
    · rename_i kt et r' hu hr
      cases hc
      refine (sim_mkm (P := P) (r := r'.map (·.ev e)) R hu (opt_rep E hr) ?_).val
      rw [← hop]; simp only [aop]; cases r' <;> rfl
    · cases hc
  · -- lookup
    split at hc
    · rename_i kt et m' k' hu hm hk
      split at hc
      · rename_i kk z h1 h2
        cases hc
        exact (sim_look (P := P) R hu h1 h2 (arg_rep E hm) (arg_rep E hk) hop).val
      · cases hc
    · cases hc
  · -- mapUpdate
    split at hc
    · rename_i kt et m' k' x' hu hm hk hx
      simp only [Option.map_eq_some_iff] at hc
      obtain ⟨kk, h1, rfl⟩ := hc
      obtain ⟨w', cx', g1, g2⟩ := sim_upd (P := P) R hu h1 (arg_rep E hm) (arg_rep E hk) (arg_rep E hx) hop
      exact ⟨undef, w', cx', .inr ⟨by simp only [execOp, Sem.run_bind, g1, Result.andThen_ok, Sem.run_pure], rfl⟩, g2⟩
    · cases hc
  · -- insert
    split at hc
    · rename_i kt et m' k' x' hu hm hk hx
      simp only [Option.map_eq_some_iff] at hc
      obtain ⟨kk, h1, rfl⟩ := hc
      obtain ⟨w', cx', g1, g2⟩ := sim_upd (P := P) R hu h1 (arg_rep E hm) (arg_rep E hk) (arg_rep E hx) hop
      exact ⟨undef, w', cx', .inr ⟨by simp only [execOp, Sem.run_bind, g1, Result.andThen_ok, Sem.run_pure], rfl⟩, g2⟩
    · cases hc
  · -- mapEntry
    split at hc
    · rename_i kt et m' k' hu hm hk
      split at hc
      · rename_i kk z h1 h2
        cases hc
        exact (sim_ent (P := P) R hu h1 h2 (arg_rep E hm) (arg_rep E hk) hop).val
      · cases hc
    · cases hc
  · -- entryStore
    rename_i t m b x
    split at hc
    · rename_i m' b' x' hm hb hx
      cases hc
      obtain ⟨w', cx', g1, g2⟩ := sim_ens (P := P) (t := t) R (arg_rep E hm) (arg_rep E hb) (arg_rep E hx) hop
      exact ⟨undef, w', cx', .inr ⟨by simp only [execOp, Sem.run_bind, g1, Result.andThen_ok, Sem.run_pure], rfl⟩, g2⟩
    · cases hc
  · -- range
    split at hc
    · rename_i kt et x' hu hx
      cases hc
      exact (sim_rng (P := P) R hu (arg_rep E hx) hop).val
    · cases hc
  · -- next
    simp only [Option.map_eq_some_iff] at hc
    obtain ⟨x', hx, rfl⟩ := hc
    exact (sim_nxt (P := P) R (arg_rep E hx) hop).val
  · -- entry
    simp only [Option.map_eq_some_iff] at hc
    obtain ⟨x', hx, rfl⟩ := hc
    exact (sim_ery (P := P) R (arg_rep E hx) hop).val
  · -- typeAssert
    rename_i x xt t ok
    split at hc
    · cases hc
    · rename_i d x' hd hu hx
      split at hc
      · simp only [Option.map_eq_some_iff] at hc
        obtain ⟨z, hz, rfl⟩ := hc
        exact (sim_ta (P := P) R hu (fun m hm => hd m hm) (fun _ => hz) (arg_rep E hx) hop).val
      · cases hc
        exact (sim_ta (P := P) R hu (fun m hm => hd m hm) (fun h => by cases h) (arg_rep E hx) hop).val
    · cases hc
  · cases hc

end
end Rf
