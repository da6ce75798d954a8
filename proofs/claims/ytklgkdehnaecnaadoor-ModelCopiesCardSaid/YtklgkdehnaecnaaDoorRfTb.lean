/-
  Steps in states that are not spelt out: rules that say what they read and write; a state told by the list of its objects; ints that change while all else stays.
-/
import Derived.Test.YtklgkdehnaecnaaDoorRfTa
import Derived.Test.YtklgkdehnaecnaaDoorRfAc
set_option linter.all false
set_option linter.unusedSimpArgs false
namespace Rf
open Go

section
variable {gt : Nat → Option V} {P : Program} {e : List V} {s : St}

/-! regions in the text's order -/
theorem HO.opA {d : Option Nat} {k : K} {r : List I} {next : List V → St → Prop} {v : V} {s1 : St} (hk : KRun gt P e s k v s1) (h : fSetD e d v fun e => HO gt P r e s1 next) : HO gt P ({ d := d, g := none, k := k } :: r) e s next := by
  rw [fSetD_eq] at h
  obtain ⟨e', s', h3, h4⟩ := h.out
  exact ⟨e', s', .op v s1 rfl hk h3, h4⟩
theorem HO.gA {d : Option Nat} {t : Nat} {w : Bool} {k : K} {r : List I} {next : List V → St → Prop} {v : V} {s1 : St} (hw : e.getD t unV = .b w) (hk : KRun gt P e s k v s1) (h : fSetD e d v fun e => HO gt P r e s1 next) : HO gt P ({ d := d, g := some (t, w), k := k } :: r) e s next := by
  rw [fSetD_eq] at h
  obtain ⟨e', s', h3, h4⟩ := h.out
  refine ⟨e', s', .op v s1 ?_ hk h3, h4⟩
  simp only [wanted, hw, beq_self_eq_true]
theorem krun_load1 {a : Arg} {l o z : Nat} {cs : List V} {ty : Option Nat} {v : V} (ha : a.ev e = .p l o) (hg : s.get l = some (.c cs z ty)) (hc : cs[o]? = some v) : KRun gt P e s (.a (.load1 a)) v s := by
  show aop e s (.load1 a) = _
  simp only [aop, ha, hg, hc, Option.map_some]
theorem krun_loadn {n : Nat} {a : Arg} {l o z : Nat} {cs cs' : List V} {ty : Option Nat} (ha : a.ev e = .p l o) (hg : s.get l = some (.c cs z ty)) (ho : o + n ≤ cs.length) (hc : (cs.drop o).take n = cs') : KRun gt P e s (.a (.loadn n a)) (.ag cs') s := by
  subst hc
  show aop e s (.loadn n a) = _
  simp only [aop, ha, hg]
  rw [if_pos ho]
theorem krun_store {n l o z : Nat} {a x : Arg} {cs cs' : List V} {ty : Option Nat} {v : V} (ha : a.ev e = .p l o) (hx : x.ev e = v) (hg : s.get l = some (.c cs z ty)) (hv : v.isVal = true) (hn : v.cells.length = n) (hz : z ≤ o) (ho : o + n ≤ cs.length) (hc : setAt cs o v.cells = cs') : KRun gt P e s (.a (.store n a x)) unV (s.put l (some (.c cs' z ty))) := by
  subst hc hx
  show aop e s (.store n a x) = _
  simp only [aop, ha, hg]
  rw [if_pos ⟨hv, hn, ho, .inr hz⟩]
theorem krun_alloc {t : Nat} {z : List V} : KRun gt P e s (.a (.alloc t z)) (.p s.n 0) (s.new (.c z 0 (some t))) := rfl

/-! regions that draw their order -/
theorem HD.opA2 {hist : List St} {b : Nat} {d : Option Nat} {k : K} {r : List (Nat × I)} {next : List V → St → Prop} {v : V} {s1 : St} (hk : KRun gt P e s k v s1) (hc : k.cls = 2) (h : fSetD e d v fun e => HD gt P (s :: hist) r e s1 next) : HD gt P hist ((b, { d := d, g := none, k := k }) :: r) e s next := by
  rw [fSetD_eq] at h
  obtain ⟨e', s', h3, h4⟩ := h.out
  exact ⟨e', s', .op2 v s1 rfl hc hk h3, h4⟩
theorem HD.opA0 {hist : List St} {b : Nat} {d : Option Nat} {k : K} {r : List (Nat × I)} {next : List V → St → Prop} {v : V} (hk : KRun gt P e s k v s) (hc : k.cls ≠ 2) (hb : ∀ t ∈ hist.take b, KRun gt P e t k v t) (h : fSetD e d v fun e => HD gt P hist r e s next) : HD gt P hist ((b, { d := d, g := none, k := k }) :: r) e s next := by
  rw [fSetD_eq] at h
  obtain ⟨e', s', h3, h4⟩ := h.out
  exact ⟨e', s', .op0 v rfl hc hk hb h3, h4⟩

/-! a function's end -/
theorem finS_ret {rs : List Rs} {v : V} {s1 : St} {x : X} {vs : List V} (hx : x = .ret ∨ x = .nrm) (hr : resV e s rs = some vs) (hv : Vw (packV vs) v) (hs : Sub s1 s) : finS rs v s1 x e s := by
  rcases hx with rfl | rfl <;> (unfold finS; simp only [hr, fL_eq, fV_eq]; exact ⟨hv, hs⟩)
theorem resV_cn {t n l z : Nat} {cs : List V} {ty : Option Nat} (ht : e.getD t unV = .p l 0) (hg : s.get l = some (.c cs z ty)) (hn : cs.length = n) : resV e s [.cn t n] = some [.ag cs] := by
  have ha : (Arg.t t).ev e = .p l 0 := ht
  have : aop e s (.loadn n (.t t)) = some (.ag cs, s) := by
    simp only [aop, ha, hg]
    rw [if_pos (by omega)]
    subst hn
    simp
  simp only [resV, this, Option.map_some]

/-- a state told by the list of its objects -/
structure Is (s : St) (os : List O) : Prop where
  n : s.n = os.length
  g : s.g = []
  o : ∀ l, s.get l = os[l]?
theorem Is.of_good {os : List O} (hg : Good s) (hn : s.n = os.length) (hgl : s.g = []) (h : ∀ l, l < os.length → s.get l = os[l]?) : Is s os := by
  refine ⟨hn, hgl, fun l => ?_⟩
  by_cases hl : l < os.length
  · exact h l hl
  · rw [List.getElem?_eq_none (by omega)]
    cases hgg : s.get l with
    | none => rfl
    | some o => have := (hg.1 l o hgg).1; omega
theorem Is.new {os : List O} (h : Is s os) (o : O) : Is (s.new o) (os ++ [o]) := by
  refine ⟨by simp [h.n], by simp [h.g], fun l => ?_⟩
  by_cases e : l = s.n
  · subst e; rw [St.get_new_same, h.n]; simp
  · rw [St.get_new_ne _ _ _ e, h.o l]
    by_cases hl : l < os.length
    · rw [List.getElem?_append_left hl]
    · rw [List.getElem?_eq_none (by omega), List.getElem?_eq_none (by rw [h.n] at e; simp; omega)]
theorem Is.put {os : List O} (h : Is s os) {l : Nat} {o o' : O} (hl : s.get l = some o) : Is (s.put l (some o')) (os.set l o') := by
  rw [h.o] at hl
  have hlt := (List.getElem?_eq_some_iff.1 hl).1
  refine ⟨by simp [h.n], by simp [h.g], fun j => ?_⟩
  by_cases e : j = l
  · subst e; rw [St.get_put_same, List.getElem?_set_self hlt]
  · rw [St.get_put_ne _ _ _ _ e, h.o j, List.getElem?_set_ne (Ne.symm e)]
theorem Is.adds : ∀ (as : List O) {s : St} {os : List O}, Is s os → Is (s.adds as) (os ++ as)
  | [], s, os, h => by rw [List.append_nil]; exact h
  | a :: as, s, os, h => by
    rw [St.adds_cons]
    have := Is.adds as (h.new a)
    rwa [List.append_assoc, List.singleton_append] at this
theorem Is.s0 : Is s0 [] := ⟨rfl, rfl, fun l => by rw [s0_get]; rfl⟩
theorem Is.sub {os : List O} (h : Is s os) : Sub (Rf.s0.adds os) s := by
  have h2 : Is (Rf.s0.adds os) os := by have := Is.s0.adds os; rwa [List.nil_append] at this
  exact ⟨⟨h2.n.trans h.n.symm, h2.g.trans h.g.symm⟩, fun l o hl => by rw [h.o, ← h2.o]; exact hl⟩
theorem Is.good {os : List O} (h : Is s os) : Good s := by
  refine ⟨fun l o hl => ⟨?_, by rw [h.g]; exact List.not_mem_nil⟩, fun l hl => by rw [h.g] at hl; cases hl⟩
  rw [h.o] at hl
  rw [h.n]
  exact (List.getElem?_eq_some_iff.1 hl).1
theorem Is.ge {os : List O} (h : Is s os) (l : Nat) (hl : s.n ≤ l) : s.get l = none := by
  rw [h.o, List.getElem?_eq_none (by rw [← h.n]; exact hl)]

/-- a later state holds all that one holds -/
def Le (s s' : St) : Prop := ∀ l o, s.get l = some o → s'.get l = some o
theorem Le.refl (s : St) : Le s s := fun _ _ h => h
theorem Le.trans {a b c : St} (h : Le a b) (h' : Le b c) : Le a c := fun l o x => h' l o (h l o x)
theorem Le.new {s : St} (hg : Good s) (o : O) : Le s (s.new o) := fun l x h => by rw [St.get_new_ne _ _ _ (Nat.ne_of_lt (hg.1 l x h).1)]; exact h
theorem Le.adds {os : List O} (h : Is s os) (as : List O) : Le s (s.adds as) := fun l x hl => by
  rw [St.adds_lt _ _ _ (h.good.1 l x hl).1]; exact hl

theorem setAt_mid (A B B' C : List V) (h : B.length = B'.length) : setAt (A ++ B ++ C) A.length B' = A ++ B' ++ C := by
  rw [setAt_take _ _ _ (by simp; omega)]
  simp [List.take_append, List.drop_append, ← h]
theorem setAt_mid' {A B B' C cs : List V} {o : Nat} (hcs : cs = A ++ B ++ C) (ho : o = A.length) (h : B.length = B'.length) : setAt cs o B' = A ++ B' ++ C := by
  subst hcs ho; exact setAt_mid A B B' C h

/-! ints that change -/
def intc (v : V) : Prop := ∃ a, v = .i .i64 a
/-- all stays but ints in objects -/
structure Evo (s s' : St) : Prop where
  n : s'.n = s.n
  g : s'.g = s.g
  o : ∀ l, s.get l = s'.get l ∨ ∃ cs cs' z t, s.get l = some (.c cs z t) ∧ s'.get l = some (.c cs' z t) ∧ cs'.length = cs.length ∧ ∀ j : Nat, cs'[j]? = cs[j]? ∨ ∃ a b, cs[j]? = some (.i .i64 a) ∧ cs'[j]? = some (.i .i64 b)
theorem Evo.refl (s : St) : Evo s s := ⟨rfl, rfl, fun _ => .inl rfl⟩
theorem Evo.cell {s' : St} (h : Evo s s') {l z : Nat} {cs : List V} {t : Option Nat} (hg : s.get l = some (.c cs z t)) : ∃ cs', s'.get l = some (.c cs' z t) ∧ cs'.length = cs.length ∧ ∀ j : Nat, cs'[j]? = cs[j]? ∨ ∃ a b, cs[j]? = some (.i .i64 a) ∧ cs'[j]? = some (.i .i64 b) := by
  rcases h.o l with h1 | ⟨cs1, cs', z1, t1, h1, h2, h3, h4⟩
  · exact ⟨cs, by rw [← h1]; exact hg, rfl, fun j => .inl rfl⟩
  · rw [hg] at h1; cases h1
    exact ⟨cs', h2, h3, h4⟩
theorem Evo.trans {a b c : St} (h : Evo a b) (h' : Evo b c) : Evo a c := by
  refine ⟨h'.n.trans h.n, h'.g.trans h.g, fun l => ?_⟩
  rcases h.o l with h1 | ⟨cs, cs', z, t, h1, h2, h3, h4⟩
  · rcases h'.o l with h5 | ⟨cs, cs', z, t, h5, h6, h7, h8⟩
    · exact .inl (h1.trans h5)
    · exact .inr ⟨cs, cs', z, t, by rw [h1]; exact h5, h6, h7, h8⟩
  · obtain ⟨cs2, g1, g2, g3⟩ := h'.cell h2
    refine .inr ⟨cs, cs2, z, t, h1, g1, g2.trans h3, fun j => ?_⟩
    rcases g3 j with e | ⟨x, y, e1, e2⟩
    · rcases h4 j with e' | ⟨x', y', e3, e4⟩
      · exact .inl (e.trans e')
      · exact .inr ⟨x', y', e3, e.trans e4⟩
    · rcases h4 j with e' | ⟨x', y', e3, e4⟩
      · exact .inr ⟨x, y, by rw [← e']; exact e1, e2⟩
      · exact .inr ⟨x', y, e3, e2⟩
theorem Evo.put {l z j : Nat} {cs : List V} {t : Option Nat} {a b : Int} (hg : s.get l = some (.c cs z t)) (hj : cs[j]? = some (.i .i64 a)) : Evo s (s.put l (some (.c (setAt cs j [.i .i64 b]) z t))) := by
  refine ⟨rfl, rfl, fun k => ?_⟩
  by_cases e : k = l
  · subst e
    have hlt := (List.getElem?_eq_some_iff.1 hj).1
    refine .inr ⟨cs, _, z, t, hg, St.get_put_same _ _ _, by rw [setAt_len], fun i => ?_⟩
    have e1 : setAt cs j [.i .i64 b] = cs.set j (.i .i64 b) := rfl
    rw [e1]
    by_cases hi : i = j
    · subst hi; exact .inr ⟨a, b, hj, by rw [List.getElem?_set_self hlt]⟩
    · exact .inl (List.getElem?_set_ne (Ne.symm hi))
  · exact .inl (St.get_put_ne _ _ _ _ e).symm
/-- a cell that is no int is as it was; an int is an int -/
theorem Evo.same {s' : St} (h : Evo s s') {l z j : Nat} {cs : List V} {t : Option Nat} {v : V} (hg : s.get l = some (.c cs z t)) (hj : cs[j]? = some v) (hv : ¬ intc v) : ∃ cs', s'.get l = some (.c cs' z t) ∧ cs'.length = cs.length ∧ cs'[j]? = some v := by
  obtain ⟨cs', g1, g2, g3⟩ := h.cell hg
  refine ⟨cs', g1, g2, ?_⟩
  rcases g3 j with e | ⟨a, b, e, -⟩
  · rw [e, hj]
  · rw [hj] at e; exact (hv ⟨a, Option.some.inj e⟩).elim
theorem Evo.int {s' : St} (h : Evo s s') {l z j : Nat} {cs : List V} {t : Option Nat} {a : Int} (hg : s.get l = some (.c cs z t)) (hj : cs[j]? = some (.i .i64 a)) : ∃ cs' b, s'.get l = some (.c cs' z t) ∧ cs'.length = cs.length ∧ cs'[j]? = some (.i .i64 b) := by
  obtain ⟨cs', g1, g2, g3⟩ := h.cell hg
  rcases g3 j with e | ⟨x, y, -, e⟩
  · exact ⟨cs', a, g1, g2, by rw [e, hj]⟩
  · exact ⟨cs', y, g1, g2, e⟩
theorem Evo.good {s' : St} (h : Evo s s') (hg : Good s) : Good s' := by
  have hL : s'.L = s.L := by unfold St.L; rw [h.n, h.g]
  refine ⟨fun l o hl => ?_, fun l hl => by rw [h.n]; exact hg.2 l (by rw [← h.g]; exact hl)⟩
  rw [hL]
  rcases h.o l with h1 | ⟨cs, cs', z, t, h1, -⟩
  · exact hg.1 l o (by rw [h1]; exact hl)
  · exact hg.1 l _ h1
end
end Rf
