/-
  Regions that draw their order, of which some new objects and their first stores may be done whenever.
-/
import Derived.Test.YtklgkdehnaecnaaDoorRfO
set_option linter.all false
set_option linter.unusedSimpArgs false
namespace Rf
open Go

section
variable {gt : Nat → Option V} {P : Program}

/-! the pairs -/
theorem pairAt_spec {all : List (Nat × I)} {x : Nat × I} {p : TP} (h : pairAt all x = some p) : x = (p.ia, p.ai) ∧ (p.is, p.si) ∈ all ∧ p.t ∉ p.v.ts := by
  obtain ⟨k0, d0, g0, kk0⟩ := x
  unfold pairAt at h
  split at h
  · rename_i t ty z h1 h2 h3
    simp only at h1 h2 h3
    subst h1; subst h2; subst h3
    split at h
    · rename_i k y o hf hw
      split at h
      · rename_i n t' v g1 g2 g3
        split at h
        · rename_i hc
          obtain ⟨rfl, rfl, hv⟩ := hc
          cases h
          have hm : (k, y) ∈ all := by
            have : (k, y) ∈ all.filter (fun y => y.2.ts.contains t') := by rw [hf]; exact List.mem_singleton.2 rfl
            exact (List.mem_filter.1 this).1
          obtain ⟨yd, yg, yk⟩ := y
          simp only at g1 g2 g3
          subst g1; subst g2; subst g3
          exact ⟨rfl, hm, by simpa using hv⟩
        · cases h
      · cases h
    · cases h
  · cases h

theorem pairsOf_spec {all : List (Nat × I)} : ∀ {l : List (Nat × I)} {p : TP}, p ∈ pairsOf all l → (p.ia, p.ai) ∈ l ∧ (p.is, p.si) ∈ all ∧ p.t ∉ p.v.ts
  | [], p, h => by simp [pairsOf] at h
  | x :: r, p, h => by
    simp only [pairsOf] at h
    split at h
    · rename_i q hq
      rcases List.mem_cons.1 h with rfl | h
      · obtain ⟨h1, h2, h3⟩ := pairAt_spec hq
        exact ⟨by rw [← h1]; exact List.mem_cons_self .., h2, h3⟩
      · obtain ⟨h1, h2⟩ := pairsOf_spec h
        exact ⟨List.mem_cons_of_mem _ h1, h2⟩
    · obtain ⟨h1, h2⟩ := pairsOf_spec h
      exact ⟨List.mem_cons_of_mem _ h1, h2⟩

structure St2 (P : Program) (gt : Nat → Option V) (wf : Nat → Bool) (ops : Array Oper) (is : List I) (L : List Nb) (ps : List TP) : Prop where
  his : cOps gt P wf ops 0 ops.toList = some is
  back : backOk 0 ops.toList = true
  nd : (L.map (·.1) ++ tNums ps).Nodup
  lt : ∀ k ∈ L.map (·.1) ++ tNums ps, k < ops.size
  all : ∀ k, k < ops.size → k ∈ L.map (·.1) ++ tNums ps
  val : ∀ p ∈ L, is[p.1]? = some p.2.2
  conf : L.Pairwise fun p q => conf p.2.2 q.2.2 = true → ((masks ops.toList []).getD q.1 0).testBit p.1 = true
  pre : ∀ (M : List Nb) (q : Nb), (M ++ [q]).Sublist L → q.2.2.k.cls = 1 → cntN (masks ops.toList []) q.1 M ≤ q.2.1
  pa : ∀ p ∈ ps, is[p.ia]? = some p.ai ∧ is[p.is]? = some p.si
  po : ∀ p ∈ ps, isAllocO ops[p.ia]? = true ∧ isStoreO ops[p.is]? = true
  tn : (ps.map (·.t)).Nodup
  tv : ∀ p ∈ ps, ∀ q ∈ ps, q.t ∉ p.v.ts
  tm : ∀ p ∈ ps, ((masks ops.toList []).getD p.is 0).testBit p.ia = true
  ap : ∀ p ∈ ps, ∀ x ∈ L, x.2.2.d ≠ some p.t ∧ p.t ∉ x.2.2.ts ∧ ∀ d, x.2.2.d = some d → d ∈ p.v.ts → ((masks ops.toList []).getD p.is 0).testBit x.1 = true

theorem st2_of {wf : Nat → Bool} {ops : Array Oper} {is : List I} {l : List (Nat × I)} (his : cOps gt P wf ops 0 ops.toList = some is) (h : cDrw2 ops.toList is = some l) : ∃ L ps, l = L.map (·.2) ++ tOps ps ∧ St2 P gt wf ops is L ps := by
  unfold cDrw2 at h
  simp only at h
  generalize hps : pairsOf (numbered 0 is) (numbered 0 is) = ps at h
  generalize hlM : canon (masks ops.toList []) ((numbered 0 is).filter fun x => !((tNums ps).contains x.1)) = lM at h
  have hmem : ∀ x ∈ lM, x ∈ numbered 0 is := fun x hx => by rw [← hlM] at hx; exact (List.mem_filter.1 (canon_mem hx)).1
  split at h
  · rename_i hc
    simp only [Bool.and_eq_true] at hc
    obtain ⟨⟨⟨hb, hp⟩, hcf⟩, ht⟩ := hc
    simp only [Option.map_eq_some_iff] at h
    obtain ⟨l0, h0, rfl⟩ := h
    obtain ⟨L, h1, h2, h3⟩ := backs_spec _ _ _ h0
    have hlen := (cops_get _ _ _ his).1
    have hn : (L.map (·.1)) = lM.map (·.1) := by rw [← h1, List.map_map]; rfl
    simp only [permOk, Bool.and_eq_true, List.all_eq_true, decide_eq_true_eq, List.mem_range, List.contains_eq_mem] at hp
    have hpa : ∀ p ∈ ps, is[p.ia]? = some p.ai ∧ is[p.is]? = some p.si ∧ p.t ∉ p.v.ts := fun p hpp => by
      rw [← hps] at hpp
      obtain ⟨g1, g2, g3⟩ := pairsOf_spec hpp
      exact ⟨by simpa using (numbered_mem _ _ _ _ g1).2, by simpa using (numbered_mem _ _ _ _ g2).2, g3⟩
    simp only [tOk, Bool.and_eq_true, List.all_eq_true, Bool.not_eq_true', List.contains_eq_mem, decide_eq_false_iff_not] at ht
    obtain ⟨⟨hops, htn⟩, htt⟩ := ht
    refine ⟨L, ps, by rw [h2], his, hb, by rw [hn]; exact nodupB_nodup hp.1.1, fun k hk => ?_, fun k hk => ?_, fun p hm => ?_, ?_, fun M q hM hq => ?_, fun p hpp => ⟨(hpa p hpp).1, (hpa p hpp).2.1⟩, fun p hpp => ?_, nodupB_nodup htn, fun p hpp q hq => (htt p hpp).1.1 q hq, fun p hpp => (htt p hpp).1.2, fun p hpp x hx => ?_⟩
    · have := hp.1.2 k (by rw [← hn]; exact hk)
      rw [hlen] at this; simpa using this
    · have := hp.2 k (by rw [hlen]; simpa using hk)
      rw [hn]; exact this
    · have hm' : (p.1, p.2.2) ∈ lM := by rw [← h1]; exact List.mem_map.2 ⟨p, hm, rfl⟩
      have := (numbered_mem _ _ _ _ (hmem _ hm')).2
      simpa using this
    · have := confOk_pair hcf
      rw [← h1, List.pairwise_map] at this
      exact this
    · have := h3 M q hM hq
      have h0 : cntH (masks ops.toList []) q.1 [] = 0 := rfl
      omega
    · have := hops p hpp
      simpa using this
    · have hx' : (x.1, x.2.2) ∈ lM := by rw [← h1]; exact List.mem_map.2 ⟨x, hx, rfl⟩
      have := (htt p hpp).2 _ hx'
      simp only [apart1, Bool.and_eq_true, Bool.not_eq_true', beq_eq_false_iff_ne, ne_eq, List.contains_eq_mem, decide_eq_false_iff_not] at this
      obtain ⟨⟨g1, g2⟩, g3⟩ := this
      refine ⟨g1, g2, fun d hd hdv => ?_⟩
      rw [hd] at g3
      simp only [Bool.or_eq_true, Bool.not_eq_true', decide_eq_false_iff_not] at g3
      exact g3.resolve_left (fun h => h hdv)
  · cases h

/-! the fresh objects -/
inductive Ts where
  | n
  | a (b : Nat) (arr : Array Value)
  | s (b : Nat) (arr : Array Value)

def Ts.b : Ts → Option Nat
  | .n => none
  | .a b _ => some b
  | .s b _ => some b

/-- a fresh block with these cells -/
structure Fr (cx : Cx) (h : Array Obj) (s : St) (base : Nat) (tmps : Array Value) (p : TP) (cs : List V) (b : Nat) (arr : Array Value) : Prop where
  heap : h[b]? = some (.cells arr p.ty (0, 0))
  row : Row cx h s.L cs arr
  own : ¬ Own cx s b
  nfz : ∀ o, ¬ cx.fz b o
  ge : base ≤ b
  tmp : tmps.getD p.t undef = .pointer (some ⟨b, 0, none⟩)

def cont (p : TP) (e : List V) : List V := setAt p.z 0 (p.v.ev e).cells

def FrS (cx : Cx) (h : Array Obj) (s : St) (base : Nat) (tmps : Array Value) (e : List V) (p : TP) : Ts → Prop
  | .n => True
  | .a b arr => Fr cx h s base tmps p p.z b arr
  | .s b arr => Fr cx h s base tmps p (cont p e) b arr

theorem lt_of_get {h : Array Obj} {b : Nat} {o : Obj} (hb : h[b]? = some o) : b < h.size := (Array.getElem?_eq_some_iff.1 hb).1

theorem FrS.b_lt {cx : Cx} {h : Array Obj} {s : St} {base : Nat} {tmps : Array Value} {e : List V} {p : TP} {st : Ts} (F : FrS cx h s base tmps e p st) {b : Nat} (hb : st.b = some b) : b < h.size ∧ ¬ Own cx s b ∧ base ≤ b := by
  cases st with
  | n => cases hb
  | a b' arr => cases hb; exact ⟨lt_of_get F.heap, F.own, F.ge⟩
  | s b' arr => cases hb; exact ⟨lt_of_get F.heap, F.own, F.ge⟩

theorem Fr.step {cx cx' : Cx} {h h' : Array Obj} {s s' : St} {base : Nat} {tmps tmps' : Array Value} {p : TP} {cs : List V} {b : Nat} {arr : Array Value} (F : Fr cx h s base tmps p cs b arr)
    (later : Later cx h s.L cx' h' s'.L) (frame : h'[b]? = h[b]?) (own : Own cx' s' b → Own cx s b) (nfz : ∀ o, cx'.fz b o → cx.fz b o) (ht : tmps'.getD p.t undef = tmps.getD p.t undef) : Fr cx' h' s' base tmps' p cs b arr :=
  ⟨by rw [frame]; exact F.heap, F.row.later later, fun h => F.own (own h), fun o h => F.nfz o (nfz o h), F.ge, by rw [ht]; exact F.tmp⟩

theorem FrS.step {cx cx' : Cx} {h h' : Array Obj} {s s' : St} {base : Nat} {tmps tmps' : Array Value} {e e' : List V} {p : TP} {st : Ts} (F : FrS cx h s base tmps e p st)
    (later : Later cx h s.L cx' h' s'.L) (frame : ∀ b, st.b = some b → h'[b]? = h[b]?) (own : ∀ b, st.b = some b → Own cx' s' b → Own cx s b) (nfz : ∀ b, st.b = some b → ∀ o, cx'.fz b o → cx.fz b o)
    (ht : tmps'.getD p.t undef = tmps.getD p.t undef) (he : ∀ b arr, st = .s b arr → cont p e' = cont p e) : FrS cx' h' s' base tmps' e' p st := by
  cases st with
  | n => trivial
  | a b arr => exact Fr.step F later (frame b rfl) (own b rfl) (nfz b rfl) ht
  | s b arr => rw [FrS, he b arr rfl]; exact Fr.step F later (frame b rfl) (own b rfl) (nfz b rfl) ht

/-- a block of nobody's is made or changed -/
theorem Rel.foreign {cx : Cx} {s : St} {h h' : Array Obj} (R : Rel cx s h) (B : Nat) (hB : ¬ Own cx s B) (nfz : ∀ o, ¬ cx.fz B o) (size : h.size ≤ h'.size) (same : ∀ b, b < h.size → b ≠ B → h'[b]? = h[b]?) :
    Rel cx s h' ∧ Later cx h s.L cx h' s.L := by
  have hcell : ∀ b o, cx.fz b o → cellAt h' b o = cellAt h b o := fun b o hf => by
    have hb : b ≠ B := fun e => nfz o (e ▸ hf)
    have := cellAt_lt (R.fzl b o hf)
    unfold cellAt; rw [same b this hb]
  have later : Later cx h s.L cx h' s.L := ⟨fun _ h => h, fun _ _ => rfl, fun _ _ => .inl rfl, fun _ _ h => h, hcell⟩
  refine ⟨⟨R.wf, R.gl, fun l o hg => ?_, R.inj, fun b o hf => by rw [hcell b o hf]; exact R.fzl b o hf, R.fzo, R.fzt⟩, later⟩
  have h1 := R.obj l o hg
  have hlt := R.own_lt ⟨l, o, hg, rfl⟩
  have hne : blk cx l o ≠ B := fun e => hB ⟨l, o, hg, e⟩
  have h2 := same _ hlt hne
  cases o with
  | c cs z ty =>
    obtain ⟨arr', el', lo, hi, a1, a2, a3, a4, a5⟩ := h1
    exact ⟨arr', el', lo, hi, h2.trans a1, a2, a3, fun j hj => (a4 j hj).later later, a5⟩
  | t e =>
    obtain ⟨arr', el', lo, hi, a1, a2⟩ := h1
    exact ⟨arr', el', lo, hi, h2.trans a1, a2⟩
  | x o => exact ⟨h1.1, XRep.later later h2 h1.2⟩


/-! what the operations are -/
theorem cK_alloc {wh : Bool} {t0 : TypeId} {ty : Nat} {z : List V} (h : cK gt P wh (.alloc t0) = .a (.alloc ty z)) : t0 = ty ∧ zeroP P ty = some z := by
  simp only [cK, cA] at h
  cases hz : zeroP P t0 with
  | none => rw [hz] at h; cases h
  | some z0 => rw [hz] at h; cases h; exact ⟨rfl, hz⟩

theorem cK_store {wh : Bool} {T : TypeId} {a x : Operand} {n t : Nat} {v : Arg} (h : cK gt P wh (.store T a x) = .a (.store n (.t t) v)) : szP P T = some n ∧ a = .tmp t ∧ cArg gt x = some v := by
  simp only [cK, cA] at h
  cases h1 : szP P T with
  | none => rw [h1] at h; cases h
  | some n0 =>
    cases h2 : cArg gt a with
    | none => rw [h1, h2] at h; cases h
    | some a0 =>
      cases h3 : cArg gt x with
      | none => rw [h1, h2, h3] at h; cases h
      | some x0 =>
        rw [h1, h2, h3] at h
        cases h
        refine ⟨rfl, ?_, rfl⟩
        cases a with
        | tmp t' => simp [cArg] at h2; rw [h2]
        | const c => simp [cArg] at h2
        | func f => simp [cArg] at h2
        | global g => simp [cArg] at h2

/-! the tail -/
theorem RunD.split {e' : List V} {s' : St} : ∀ (l1 : List (Nat × I)) {l2 : List (Nat × I)} (hist : List St) (e : List V) (s : St), RunD gt P hist (l1 ++ l2) e s e' s' → ∃ hist1 e1 s1, RunD gt P hist l1 e s e1 s1 ∧ RunD gt P hist1 l2 e1 s1 e' s'
  | [], l2, hist, e, s, h => ⟨hist, e, s, .nil _ _ _, h⟩
  | (b, x) :: l1, l2, hist, e, s, h => by
    obtain ⟨v, s1, hs, hr⟩ := RunD.inv h
    obtain ⟨hist1, e1, s2, h1, h2⟩ := RunD.split l1 _ _ _ hr
    exact ⟨hist1, e1, s2, RunD.step hs h1, h2⟩

/-- but for some slots -/
def AgX (T : List Nat) (e e2 : List V) : Prop := e.length = e2.length ∧ ∀ t, t ∉ T → e.getD t unV = e2.getD t unV

theorem AgX.setD {T : List Nat} {e e2 : List V} (h : AgX T e e2) (d : Option Nat) (v : V) : AgX T (Rf.setD e d v) (Rf.setD e2 d v) := by
  cases d with
  | none => exact h
  | some d =>
    refine ⟨by simp [Rf.setD, h.1], fun t ht => ?_⟩
    have h0 := h.2 t ht
    simp only [Rf.setD, List.getD] at h0 ⊢
    by_cases hd : d = t
    · subst hd
      by_cases hl : d < e.length
      · rw [List.getElem?_set_self hl, List.getElem?_set_self (by rw [← h.1]; exact hl)]
      · rw [List.getElem?_eq_none (by simp; omega), List.getElem?_eq_none (by simp; rw [← h.1]; omega)]
    · rw [List.getElem?_set_ne hd, List.getElem?_set_ne hd]; exact h0

theorem RunD.agree {T : List Nat} {e' : List V} {s' : St} : ∀ (l : List (Nat × I)) (hist : List St) (e e2 : List V) (s : St), (∀ x ∈ l, ∀ t ∈ T, t ∉ x.2.ts) → AgX T e e2 → RunD gt P hist l e s e' s' → ∃ e2', RunD gt P hist l e2 s e2' s' ∧ AgX T e' e2'
  | [], hist, e, e2, s, hT, hA, h => by cases h; exact ⟨e2, .nil _ _ _, hA⟩
  | (b, x) :: l, hist, e, e2, s, hT, hA, h => by
    obtain ⟨v, s1, hs, hr⟩ := RunD.inv h
    have ag : Ag x.ts e e2 := fun t ht => hA.2 t (fun hm => hT (b, x) (List.mem_cons_self ..) t hm ht)
    obtain ⟨e2', h1, h2⟩ := RunD.agree l _ _ (Rf.setD e2 x.d v) _ (fun y hy => hT y (List.mem_cons_of_mem _ hy)) (hA.setD x.d v) hr
    exact ⟨e2', RunD.step (hs.congr ag) h1, h2⟩

theorem cont_congr {p : TP} {e e2 : List V} (h : Ag p.v.ts e e2) : cont p e = cont p e2 := by unfold cont; rw [h.arg]

structure Tail (e : List V) (s : St) (e' : List V) (s' : St) (ps : List TP) : Prop where
  len : e'.length = e.length
  out : ∀ t, t ∉ ps.map (·.t) → e'.getD t unV = e.getD t unV
  n : s'.n = s.n + ps.length
  g : s'.g = s.g
  old : ∀ l, l < s.n ∨ s.n + ps.length ≤ l → s'.get l = s.get l
  slot : ∀ i p, ps[i]? = some p → p.t < e.length → e'.getD p.t unV = .p (s.n + i) 0
  obj : ∀ i p, ps[i]? = some p → s'.get (s.n + i) = some (.c (cont p e) 0 (some p.ty))
  val : ∀ p ∈ ps, (p.v.ev e).isVal = true ∧ (p.v.ev e).cells.length = p.z.length
  lt : ∀ p ∈ ps, p.t < e.length

theorem tail_run {e' : List V} {s' : St} : ∀ (ps : List TP) (hist : List St) (e : List V) (s : St), (ps.map (·.t)).Nodup → (∀ p ∈ ps, ∀ q ∈ ps, q.t ∉ p.v.ts) → RunD gt P hist (tOps ps) e s e' s' → Tail e s e' s' ps
  | [], hist, e, s, hn, hv, h => by
    cases h
    exact ⟨rfl, fun _ _ => rfl, rfl, rfl, fun _ _ => rfl, fun i p hp => by simp at hp, fun i p hp => by simp at hp, fun p hp => by simp at hp, fun p hp => by simp at hp⟩
  | p :: ps, hist, e, s, hn, hv, h => by
    have hl : tOps (p :: ps) = (0, p.ai) :: (0, p.si) :: tOps ps := rfl
    rw [hl] at h
    obtain ⟨v1, s1, hs1, h⟩ := RunD.inv h
    obtain ⟨v2, s2, hs2, h⟩ := RunD.inv h
    rcases hs1 with ⟨hw, _⟩ | ⟨-, hk1, -⟩
    · cases hw
    rcases hs2 with ⟨hw, _⟩ | ⟨-, hk2, -⟩
    · cases hw
    simp only [TP.ai, KRun, aop, Option.some.injEq, Prod.mk.injEq] at hk1
    obtain ⟨rfl, rfl⟩ := hk1
    have hpv : p.t ∉ p.v.ts := hv p (List.mem_cons_self ..) p (List.mem_cons_self ..)
    have agv : Ag p.v.ts (setD e (some p.t) (.p s.n 0)) e := (ag_setD (fun x hx => by cases hx; exact hpv)).symm
    have hev : p.v.ev (setD e (some p.t) (.p s.n 0)) = p.v.ev e := agv.arg
    have hn' := List.nodup_cons.1 hn
    simp only [TP.ai] at h hk2
    -- the slot
    by_cases hlt : p.t < e.length
    · have ht : (setD e (some p.t) (.p s.n 0)).getD p.t unV = .p s.n 0 := by simp [setD, List.getD, hlt]
      have ht' : (Arg.t p.t).ev (setD e (some p.t) (.p s.n 0)) = .p s.n 0 := ht
      simp only [TP.si, KRun, aop, ht', St.get_new_same, hev] at hk2
      split at hk2
      · rename_i hcond
        simp only [Option.some.injEq, Prod.mk.injEq] at hk2
        obtain ⟨-, rfl⟩ := hk2
        replace h : RunD gt P _ (tOps ps) (setD e (some p.t) (.p s.n 0)) _ e' s' := h
        have T := tail_run ps _ _ _ hn'.2 (fun q hq r hr => hv q (List.mem_cons_of_mem _ hq) r (List.mem_cons_of_mem _ hr)) h
        have agq : ∀ q ∈ ps, Ag q.v.ts (setD e (some p.t) (.p s.n 0)) e := fun q hq => (ag_setD (d := some p.t) (fun x hx => by cases hx; exact hv q (List.mem_cons_of_mem _ hq) p (List.mem_cons_self ..))).symm
        refine ⟨?_, fun t ht => ?_, ?_, ?_, fun l hl => ?_, fun i q hq hqt => ?_, fun i q hq => ?_, fun q hq => ?_, fun q hq => ?_⟩
        · rw [T.len]; simp [setD]
        · simp only [List.map_cons, List.mem_cons, not_or] at ht
          rw [T.out t ht.2]
          simp only [setD, List.getD]
          rw [List.getElem?_set_ne (Ne.symm ht.1)]
        · rw [T.n]; simp; omega
        · rw [T.g]; rfl
        · rw [T.old l (by simp only [St.put_n, St.new_n, List.length_cons] at hl ⊢; omega)]
          rw [St.get_put_ne _ _ _ _ (by simp only [List.length_cons] at hl; omega), St.get_new_ne _ _ _ (by simp only [List.length_cons] at hl; omega)]
        · cases i with
          | zero =>
            simp at hq; subst hq
            rw [T.out _ hn'.1]
            simpa [setD] using ht
          | succ i =>
            have := T.slot i q (by simpa using hq) (by simpa [setD] using hqt)
            rw [this]; simp only [St.put_n, St.new_n]; congr 1; omega
        · cases i with
          | zero =>
            simp at hq; subst hq
            rw [Nat.add_zero, T.old _ (.inl (by simp)), St.get_put_same]
            rfl
          | succ i =>
            have := T.obj i q (by simpa using hq)
            rw [cont_congr (agq q (List.mem_of_getElem? (by simpa using hq : ps[i]? = some q)))] at this
            rw [← this]; simp only [St.put_n, St.new_n]; congr 1; omega
        · rcases List.mem_cons.1 hq with rfl | hq
          · exact ⟨hcond.1, hcond.2.1⟩
          · have := T.val q hq
            rwa [(agq q hq).arg] at this
        · rcases List.mem_cons.1 hq with rfl | hq
          · exact hlt
          · have := T.lt q hq
            simpa [setD] using this
      · cases hk2
    · exfalso
      have ht : (setD e (some p.t) (.p s.n 0)).getD p.t unV = unV := by
        simp only [setD, List.getD]
        rw [List.getElem?_eq_none (by simp; omega)]; rfl
      have ht' : (Arg.t p.t).ev (setD e (some p.t) (.p s.n 0)) = unV := ht
      simp only [TP.si, KRun, aop, ht'] at hk2
      cases hk2

end
end Rf
