/-
  Steps over objects with open names; rows that lie in objects, told by their shape alone; weaker arguments.
-/
import Derived.Test.YtklgkdehnaecnaaDoorRfTb
set_option linter.all false
set_option linter.unusedSimpArgs false
namespace Rf
open Go

/-- a slot's value, found by its place -/
inductive Nth : List V → Nat → V → Prop
  | zero {v : V} {r : List V} : Nth (v :: r) 0 v
  | succ {x v : V} {r : List V} {n : Nat} (h : Nth r n v) : Nth (x :: r) (n + 1) v
theorem Nth.get {e : List V} {n : Nat} {v : V} (h : Nth e n v) : e.getD n unV = v := by
  induction h with
  | zero => rfl
  | succ _ ih => simpa using ih

section
variable {gt : Nat → Option V} {P : Program} {e : List V} {s : St}

theorem krun_mov {t : Nat} {v : V} (h : Nth e t v) : KRun gt P e s (.a (.mov (.t t))) v s := by
  show aop e s (.mov (.t t)) = _
  simp only [aop, Arg.ev, h.get]
theorem krun_box {t T : Nat} {v : V} (h : Nth e t v) (hv : v.isVal = true) : KRun gt P e s (.a (.box T true (.t t))) (.q v 0) s := by
  show aop e s (.box T true (.t t)) = _
  have e1 : (Arg.t t).ev e = v := h.get
  simp only [aop, e1]
  rw [if_pos hv]
theorem krun_fa {off l o : Nat} {a : Arg} (ha : a.ev e = .p l o) : KRun gt P e s (.a (.fa off a)) (.p l (o + off)) s := by
  show aop e s (.fa off a) = _
  simp only [aop, ha]
theorem krun_ia {sz l o n i : Nat} {c : Option Nat} {k : IntKind} {x y : Arg} (hx : x.ev e = .sl sz l o n c) (hy : y.ev e = .i k ((i : Nat) : Int)) (hi : i < n) : KRun gt P e s (.a (.ia sz x y)) (.p l (o + i * sz)) s := by
  show aop e s (.ia sz x y) = _
  simp only [aop, hx, hy]
  rw [if_pos ⟨trivial, Int.natCast_nonneg _, by omega⟩]
  rfl
theorem krun_load_all {n : Nat} {a : Arg} {l z : Nat} {cs : List V} {ty : Option Nat} (ha : a.ev e = .p l 0) (hg : s.get l = some (.c cs z ty)) (hn : cs.length = n) : KRun gt P e s (.a (.loadn n a)) (.ag cs) s := by
  show aop e s (.loadn n a) = _
  simp only [aop, ha, hg]
  rw [if_pos (by omega)]
  subst hn
  simp
theorem fillp_cons {z cs : List V} {o n : Nat} {x : Arg} {r : List (Nat × Nat × Arg)} {v : V} (hx : x.ev e = v) (hv : v.isVal = true) (hl : v.cells.length = n) (ho : o + n ≤ z.length) (h : fillp e (setAt z o v.cells) r = some cs) : fillp e z ((o, n, x) :: r) = some cs := by
  subst hx
  simp only [fillp]
  rw [if_pos ⟨hv, hl, ho⟩]
  exact h
theorem krun_build {z cs : List V} {ps : List (Nat × Nat × Arg)} (h : fillp e z ps = some cs) : KRun gt P e s (.a (.build z ps)) (.ag cs) s := by
  show aop e s (.build z ps) = _
  simp only [aop, h, Option.map_some]
theorem krun_len {x : Arg} {sz l o n : Nat} {c : Option Nat} (hx : x.ev e = .sl sz l o n c) : KRun gt P e s (.a (.len x)) (.i .i64 (n : Nat)) s := by
  show aop e s (.len x) = _
  simp only [aop, hx]
theorem krun_call {f : FuncId} {args : List Arg} {v : V} {s' : St} {as : List V} (ha : args.map (·.ev e) = as) (h : Den gt P f as s v s') : KRun gt P e s (.call f args) v s' := by
  subst ha; exact h

/-- what writes, or makes an object -/
def K.mem : K → Bool
  | .a (.store ..) => true
  | .a (.alloc ..) => true
  | .a (.box _ false _) => true
  | .a (.build ..) => true
  | .a (.load1 ..) => true
  | .a (.loadn ..) => true
  | _ => false
theorem HO.kx {d : Option Nat} {k : K} {r : List I} {next : List V → St → Prop} (_ : k.mem = false) (h : wqK gt P e s k (hN gt P d r next e)) : HO gt P ({ d := d, g := none, k := k } :: r) e s next := HO.k h
theorem HD.kx {hist : List St} {b : Nat} {d : Option Nat} {k : K} {r : List (Nat × I)} {next : List V → St → Prop} (_ : k.mem = false) (h : wqK gt P e s k (hDN gt P hist b d k r next e s)) : HD gt P hist ((b, { d := d, g := none, k := k }) :: r) e s next := HD.k h

theorem HO.lq1 {d : Option Nat} {a : Arg} {v : V} {o : Nat} {r : List I} {next : List V → St → Prop} (_ : a.ev e = .q v o) (h : wqK gt P e s (.a (.load1 a)) (hN gt P d r next e)) : HO gt P ({ d := d, g := none, k := .a (.load1 a) } :: r) e s next := HO.k h
theorem HO.lqn {d : Option Nat} {n : Nat} {a : Arg} {v : V} {o : Nat} {r : List I} {next : List V → St → Prop} (_ : a.ev e = .q v o) (h : wqK gt P e s (.a (.loadn n a)) (hN gt P d r next e)) : HO gt P ({ d := d, g := none, k := .a (.loadn n a) } :: r) e s next := HO.k h
theorem HD.lq1 {hist : List St} {b : Nat} {d : Option Nat} {a : Arg} {v : V} {o : Nat} {r : List (Nat × I)} {next : List V → St → Prop} (_ : a.ev e = .q v o) (h : wqK gt P e s (.a (.load1 a)) (hDN gt P hist b d (.a (.load1 a)) r next e s)) : HD gt P hist ((b, { d := d, g := none, k := .a (.load1 a) }) :: r) e s next := HD.k h
theorem HD.lqn {hist : List St} {b n : Nat} {d : Option Nat} {a : Arg} {v : V} {o : Nat} {r : List (Nat × I)} {next : List V → St → Prop} (_ : a.ev e = .q v o) (h : wqK gt P e s (.a (.loadn n a)) (hDN gt P hist b d (.a (.loadn n a)) r next e s)) : HD gt P hist ((b, { d := d, g := none, k := .a (.loadn n a) }) :: r) e s next := HD.k h
theorem stays_one {v : V} {t s' : St} {l : List St} {y : A} (h : aop e t y = some (v, s')) : stays gt P e v (.a y) (List.take 1 (t :: l)) := by
  simp only [List.take, stays, h, and_self]
theorem is_lit {os : List O} (h : s = Rf.s0.adds os) : Is s os := by
  subst h
  have := Is.s0.adds os
  rwa [List.nil_append] at this
theorem Is.eq {os os' : List O} (h : Is s os) (e : os = os') : Is s os' := e ▸ h
theorem sub_eq {a b : St} (h : a = b) : Sub a b := h ▸ .refl a

/-- weaker arguments -/
theorem Den.argw {f : FuncId} {as bs : List V} {v : V} {s' : St} (h : Den gt P f bs s v s') (hl : as.length = bs.length) (hw : ∀ j, j < as.length → Vw (as.getD j .bad) (bs.getD j .bad)) : Den gt P f as s v s' := fun cx w xs R G A =>
  h cx w xs R G ⟨by rw [A.len, hl], fun j hj => (A.rep j (by omega)).weak (hw j (by omega))⟩

theorem Rd.le {s' : St} (hs : Le s s') {v u : V} (h : Rd s v u) : Rd s' v u := by
  induction h with
  | refl v => exact .refl v
  | ag cs ds hl _ ih => exact .ag cs ds hl ih
  | ifc t v u _ ih => exact .ifc t v u ih
  | p l o cs z t ds hg hlen _ ih => exact .p l o cs z t ds (hs _ _ hg) hlen ih
  | sl sz l o n c cs z t xs hg hlen hx hsz _ ih => exact .sl sz l o n c cs z t xs (hs _ _ hg) hlen hx hsz ih

/-! rows that lie in objects, told by their shape -/
/-- a row of n elements of sz cells each, each cell as told; an empty one lies nowhere -/
def Lay (s : St) (sz : Nat) (v : V) (n : Nat) (Q : Nat → V → Prop) : Prop :=
  (n = 0 ∧ ∃ c, v = .pu sz [] c) ∨ ∃ l cs t, v = .sl sz l 0 n none ∧ s.get l = some (.c cs 0 t) ∧ cs.length = n * sz ∧ ∀ i j, i < n → j < sz → ∃ x, cs[i * sz + j]? = some x ∧ Q j x
theorem Lay.evo {s' : St} {sz n : Nat} {v : V} {Q Q' : Nat → V → Prop} (h : Lay s sz v n Q) (hE : Evo s s') (hQ : ∀ j x, Q j x → intc x → ∀ y, intc y → Q' j y) (hQ' : ∀ j x, Q j x → Q' j x) : Lay s' sz v n Q' := by
  rcases h with h | ⟨l, cs, t, h1, h2, h3, h4⟩
  · exact .inl h
  · obtain ⟨cs', g1, g2, g3⟩ := hE.cell h2
    refine .inr ⟨l, cs', t, h1, g1, g2.trans h3, fun i j hi hj => ?_⟩
    obtain ⟨x, k1, k2⟩ := h4 i j hi hj
    rcases g3 (i * sz + j) with e | ⟨a, b, e1, e2⟩
    · exact ⟨x, e.trans k1, hQ' j x k2⟩
    · rw [k1] at e1
      exact ⟨_, e2, hQ j x k2 ⟨a, Option.some.inj e1⟩ _ ⟨b, rfl⟩⟩
theorem Lay.le {s' : St} {sz n : Nat} {v : V} {Q Q' : Nat → V → Prop} (h : Lay s sz v n Q) (hs : Le s s') (hQ : ∀ j x, Q j x → Q' j x) : Lay s' sz v n Q' := by
  rcases h with h | ⟨l, cs, t, h1, h2, h3, h4⟩
  · exact .inl h
  · refine .inr ⟨l, cs, t, h1, hs _ _ h2, h3, fun i j hi hj => ?_⟩
    obtain ⟨x, k1, k2⟩ := h4 i j hi hj
    exact ⟨x, k1, hQ j x k2⟩
theorem Lay.len {sz n : Nat} {v : V} {Q : Nat → V → Prop} (h : Lay s sz v n Q) {x : Arg} (hx : x.ev e = v) : KRun gt P e s (.a (.len x)) (.i .i64 (n : Nat)) s := by
  show aop e s (.len x) = _
  rcases h with ⟨rfl, c, rfl⟩ | ⟨l, cs, t, rfl, -⟩ <;> simp only [aop, hx] <;> rfl
/-- where an element lies -/
theorem Lay.at {sz n i : Nat} {v : V} {Q : Nat → V → Prop} (h : Lay s sz v n Q) (hi : i < n) : ∃ l cs t, v = .sl sz l 0 n none ∧ s.get l = some (.c cs 0 t) ∧ cs.length = n * sz ∧ ∀ j, j < sz → ∃ x, cs[0 + i * sz + j]? = some x ∧ Q j x := by
  rcases h with ⟨rfl, -⟩ | ⟨l, cs, t, h1, h2, h3, h4⟩
  · omega
  · exact ⟨l, cs, t, h1, h2, h3, fun j hj => by rw [Nat.zero_add]; exact h4 i j hi hj⟩
/-- an object without ints stays -/
theorem Evo.const {s' : St} (h : Evo s s') {l z : Nat} {cs : List V} {t : Option Nat} (hg : s.get l = some (.c cs z t)) (hc : ∀ v ∈ cs, ¬ intc v) : s'.get l = some (.c cs z t) := by
  obtain ⟨cs', g1, g2, g3⟩ := h.cell hg
  have : cs' = cs := by
    apply List.ext_getElem?
    intro j
    rcases g3 j with e | ⟨a, b, e1, -⟩
    · exact e
    · exact (hc _ (List.mem_of_getElem? e1) ⟨a, rfl⟩).elim
  rw [g1, this]
theorem intc_sl {a b c d : Nat} {e : Option Nat} : ¬ intc (.sl a b c d e) := fun ⟨_, h⟩ => by cases h
theorem intc_pu {a : Nat} {b : List V} {c : Cap} : ¬ intc (.pu a b c) := fun ⟨_, h⟩ => by cases h
theorem Lay.nint {sz n : Nat} {v : V} {Q : Nat → V → Prop} (h : Lay s sz v n Q) : ¬ intc v := by
  rcases h with ⟨-, c, rfl⟩ | ⟨l, cs, t, rfl, -⟩
  · exact intc_pu
  · exact intc_sl
theorem Evo.le {s' t : St} (h : Evo s s') (hs : Evo s' t) : Evo s t := h.trans hs
end
end Rf
