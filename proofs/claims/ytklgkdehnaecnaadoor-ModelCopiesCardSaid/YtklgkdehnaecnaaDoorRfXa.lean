/-
  A region in all its orders: what each part of its operations comes to, but for names, is computed once.
-/
import Derived.Test.YtklgkdehnaecnaaDoorRfX
set_option linter.all false
set_option linter.unusedSimpArgs false
namespace Rf
open Go

/-- an operation: its number; what comes before it; may it be done whenever its arguments are there? -/
structure On where
  i : Nat
  am : Nat
  z : Bool
  x : I

/-- what a part of the operations comes to: which; slots; state; who made which names -/
structure Ent where
  c : Nat
  e : Sl
  s : St
  o : List (Nat × Nat × Nat)

def dIs (x : I) (t : Nat) : Bool := match x.d with
  | some d => Nat.beq d t
  | none => false
def dNe (x y : I) : Bool := match x.d with
  | some d => !(dIs y d)
  | none => true

def onsOf (ms : List Nat) (l : List (Nat × I)) : List On := l.map fun p => ⟨p.1, ms.getD p.1 0, Nat.beq p.2.k.cls 0 && p.2.ts.all fun t => l.all fun q => !(dIs q.2 t) || (ms.getD p.1 0).testBit q.1, p.2⟩

def okA (os : List On) : Bool := os.all fun o => os.all fun o' => (Nat.beq o.i o'.i || dNe o.x o'.x) && (o.x.ts.all fun t => !(dIs o'.x t) || (o.am.testBit o'.i || (!o.z && o'.am.testBit o.i)))

def subM (m c : Nat) : Bool := Nat.beq (m &&& c) m

def doOn (call : Cl) (o : On) (n : Ent) : Option Ent := match wantedT n.e o.x.g with
  | some true => match evKT call n.e n.s o.x.k with
    | some (v, s1) => some ⟨n.c ||| 2 ^ o.i, n.e.setD o.x.d v, s1, match Nat.beq s1.n n.s.n with
      | true => n.o
      | false => (o.i, n.s.n, s1.n - n.s.n) :: n.o⟩
    | none => none
  | some false => some ⟨n.c ||| 2 ^ o.i, n.e.setD o.x.d unV, n.s, n.o⟩
  | none => none

def closeZ (call : Cl) : List On → Ent → Option Ent
  | [], n => some n
  | o :: r, n => match o.z && (!(n.c.testBit o.i) && subM o.am n.c) with
    | true => match doOn call o n with
      | some n1 => closeZ call r n1
      | none => none
    | false => closeZ call r n

def zDone (os : List On) (n : Ent) : Bool := os.all fun o => !o.z || (n.c.testBit o.i || !(subM o.am n.c))

def stepN (call : Cl) (os : List On) (o : On) (n : Ent) : Option Ent := match doOn call o n with
  | some n1 => match closeZ call os n1 with
    | some n2 => match zDone os n2 with
      | true => some n2
      | false => none
    | none => none
  | none => none

def lookO (i : Nat) : List (Nat × Nat × Nat) → Nat
  | [] => 0
  | (j, a, _) :: r => match Nat.beq i j with
    | true => a
    | false => lookO i r
def pF (l : Nat) : List (Nat × Nat × Nat) → Nat
  | [] => 0
  | (a, b, c) :: r => match Nat.ble a l && Nat.blt l (a + c) with
    | true => b + (l - a)
    | false => pF l r
def pOf (n0 : Nat) (prs : List (Nat × Nat × Nat)) (l : Nat) : Nat := match Nat.blt l n0 with
  | true => l
  | false => pF l prs

def envG (q : Nat → Bool) : Nat → Bool
  | 0 => true
  | j + 1 => q j && envG q j

def sameE (p r : Nat → Nat) (n0 : Nat) (x y : Ent) : Bool :=
  stR p r 12 n0 x.s y.s && (Nat.beq x.e.m y.e.m && envG (fun t => renN p y.s.n 12 (x.e.get t) (y.e.get t)) y.e.m)

def sameEnt (n0 : Nat) (x y : Ent) : Bool :=
  sameE (pOf n0 (y.o.map fun t => (t.2.1, lookO t.1 x.o, t.2.2))) (pOf n0 (y.o.map fun t => (lookO t.1 x.o, t.2.1, t.2.2))) n0 x y

def insE (n0 : Nat) (x : Ent) : List Ent → Option (List Ent)
  | [] => some [x]
  | y :: l => match Nat.beq x.c y.c with
    | true => match sameEnt n0 x y with
      | true => some (y :: l)
      | false => none
    | false => match insE n0 x l with
      | some l' => some (y :: l')
      | none => none

def goOs (call : Cl) (os : List On) (n0 : Nat) (n : Ent) : List On → List Ent → Option (List Ent)
  | [], acc => some acc
  | o :: r, acc => match !o.z && (!(n.c.testBit o.i) && subM o.am n.c) with
    | true => match stepN call os o n with
      | some n1 => match insE n0 n1 acc with
        | some acc => goOs call os n0 n r acc
        | none => none
      | none => none
    | false => goOs call os n0 n r acc

def goNs (call : Cl) (os : List On) (n0 : Nat) : List Ent → List Ent → Option (List Ent)
  | [], acc => some acc
  | n :: l, acc => match goOs call os n0 n os acc with
    | some acc => goNs call os n0 l acc
    | none => none

def fullE (os : List On) (n : Ent) : Bool := os.all fun o => n.c.testBit o.i

def goLay (call : Cl) (os : List On) (n0 : Nat) : Nat → List Ent → Option Ent
  | 0, l => match l with
    | [n] => match fullE os n with
      | true => some n
      | false => none
    | _ => none
  | k + 1, l => match l.any (fullE os) with
    | true => none
    | false => match goNs call os n0 l [] with
      | some l' => goLay call os n0 k l'
      | none => none

def anyA (call : Cl) (ops : List Oper) (is : List I) (e : Sl) (s : St) : Option (Sl × St) :=
  match backOk 0 ops && okA (onsOf (masks ops []) (numbered 0 is)) with
  | true => match closeZ call (onsOf (masks ops []) (numbered 0 is)) ⟨0, e, s, []⟩ with
    | some n => match zDone (onsOf (masks ops []) (numbered 0 is)) n with
      | true => match goLay call (onsOf (masks ops []) (numbered 0 is)) s.n ((onsOf (masks ops []) (numbered 0 is)).filter fun o => !o.z).length [n] with
        | some n => some (n.e, n.s)
        | none => none
      | false => none
    | none => none
  | false => none

/-! ### it is so -/
structure OsOk (ops : Array Oper) (is : List I) (os : List On) : Prop where
  uni : ∀ o ∈ os, ∀ o' ∈ os, o.i = o'.i → o = o'
  all : ∀ k, k < ops.size → ∃ o ∈ os, o.i = k
  mem : ∀ o ∈ os, o.i < ops.size ∧ o.am = (masks ops.toList []).getD o.i 0 ∧ is[o.i]? = some o.x
  dd : ∀ o ∈ os, ∀ o' ∈ os, o.i ≠ o'.i → ∀ d, o.x.d = some d → o'.x.d ≠ some d
  ts : ∀ o ∈ os, ∀ o' ∈ os, ∀ t ∈ o.x.ts, o'.x.d = some t → o.am.testBit o'.i = true ∨ (o.z = false ∧ o'.am.testBit o.i = true)
  zc : ∀ o ∈ os, o.z = true → o.x.k.cls = 0

theorem dIs_iff {x : I} {t : Nat} : dIs x t = true ↔ x.d = some t := by
  unfold dIs
  cases x.d with
  | none => simp
  | some d => simp [Nat.beq_eq]

theorem numbered_get {α : Type} : ∀ (l : List α) (i k : Nat) (x : α), l[k]? = some x → (i + k, x) ∈ numbered i l
  | [], i, k, x, h => by simp at h
  | y :: l, i, k, x, h => by
    cases k with
    | zero => simp at h; subst h; simp [numbered]
    | succ k =>
      have := numbered_get l (i + 1) k x (by simpa using h)
      rw [numbered, show i + (k + 1) = i + 1 + k by omega]
      exact List.mem_cons_of_mem _ this

theorem osOk_of {ops : Array Oper} {is : List I} (hlen : is.length = ops.size) (h : okA (onsOf (masks ops.toList []) (numbered 0 is)) = true) : OsOk ops is (onsOf (masks ops.toList []) (numbered 0 is)) := by
  have hmem : ∀ o ∈ onsOf (masks ops.toList []) (numbered 0 is), ∃ p ∈ numbered 0 is, o.i = p.1 ∧ o.am = (masks ops.toList []).getD p.1 0 ∧ o.x = p.2 ∧ is[p.1]? = some p.2 ∧ (o.z = true → p.2.k.cls = 0) := fun o ho => by
    obtain ⟨p, hp, rfl⟩ := List.mem_map.1 ho
    refine ⟨p, hp, rfl, rfl, rfl, by simpa using (numbered_mem _ _ p.1 p.2 hp).2, fun hz => ?_⟩
    simp only [Bool.and_eq_true, Nat.beq_eq] at hz
    exact hz.1
  unfold okA at h
  rw [List.all_eq_true] at h
  have h' : ∀ o ∈ onsOf (masks ops.toList []) (numbered 0 is), ∀ o' ∈ onsOf (masks ops.toList []) (numbered 0 is), (o.i = o'.i ∨ dNe o.x o'.x = true) ∧ ∀ t ∈ o.x.ts, dIs o'.x t = true → o.am.testBit o'.i = true ∨ (o.z = false ∧ o'.am.testBit o.i = true) := fun o ho o' ho' => by
    have h1 := h o ho
    rw [List.all_eq_true] at h1
    have h2 := h1 o' ho'
    simp only [Bool.and_eq_true, Bool.or_eq_true, Nat.beq_eq, List.all_eq_true, Bool.not_eq_true'] at h2
    refine ⟨h2.1, fun t ht hd => ?_⟩
    rcases h2.2 t ht with h3 | h3
    · rw [hd] at h3; cases h3
    · exact h3
  refine ⟨fun o ho o' ho' he => ?_, fun k hk => ?_, fun o ho => ?_, fun o ho o' ho' hne d hd hd' => ?_, fun o ho o' ho' t ht hd => ?_, fun o ho hz => ?_⟩
  · obtain ⟨p, hp, rfl⟩ := List.mem_map.1 ho
    obtain ⟨q, hq, rfl⟩ := List.mem_map.1 ho'
    have he' : p.1 = q.1 := he
    have h1 := (numbered_mem _ _ p.1 p.2 hp).2
    have h2 := (numbered_mem _ _ q.1 q.2 hq).2
    rw [← he', h1] at h2
    have h3 : p.2 = q.2 := Option.some.inj h2
    have : p = q := Prod.ext he' h3
    rw [this]
  · have h1 : is[k]? = some (is[k]'(by omega)) := by simp [hk, hlen]
    have h2 := numbered_get is 0 k _ h1
    rw [Nat.zero_add] at h2
    exact ⟨_, List.mem_map.2 ⟨_, h2, rfl⟩, rfl⟩
  · obtain ⟨p, hp, h1, h2, h3, h4, -⟩ := hmem o ho
    refine ⟨?_, by rw [h1]; exact h2, by rw [h1, h3]; exact h4⟩
    rw [h1, ← hlen]; exact (List.getElem?_eq_some_iff.1 h4).1
  · rcases (h' o ho o' ho').1 with h1 | h1
    · exact hne h1
    · unfold dNe at h1
      rw [hd] at h1
      simp only [Bool.not_eq_true'] at h1
      rw [dIs_iff.2 hd'] at h1; cases h1
  · exact (h' o ho o' ho').2 t ht (dIs_iff.2 hd)
  · obtain ⟨p, hp, h1, h2, h3, h4, h5⟩ := hmem o ho
    rw [h3]; exact h5 hz

theorem bit_or {c i j : Nat} : (c ||| 2 ^ i).testBit j = true ↔ c.testBit j = true ∨ i = j := by
  rw [Nat.testBit_or, Bool.or_eq_true, Nat.testBit_two_pow, decide_eq_true_eq]

theorem subM_of {m c : Nat} (h : subM m c = true) (j : Nat) (hj : m.testBit j = true) : c.testBit j = true := by
  have e : m &&& c = m := by simpa [subM, Nat.beq_eq] using h
  have := congrArg (fun n => n.testBit j) e
  simp only [Nat.testBit_and] at this
  rw [hj] at this
  simpa using this

theorem subM_to {m c : Nat} (h : ∀ j, m.testBit j = true → c.testBit j = true) : subM m c = true := by
  have : m &&& c = m := by
    apply Nat.eq_of_testBit_eq
    intro j
    rw [Nat.testBit_and]
    cases hm : m.testBit j with
    | false => rfl
    | true => rw [h j hm]; rfl
  simp [subM, Nat.beq_eq, this]

def Sl.l (e : Sl) : List V := (List.range e.m).map e.get

theorem SR.toL {e : Sl} {el : List V} (h : SR e el) : e.l = el := by
  apply List.ext_getElem
  · simp [Sl.l, h.1]
  · intro j h1 h2
    simp only [Sl.l, List.getElem_map, List.getElem_range]
    rw [h.2 j, List.getD, List.getElem?_eq_getElem h2]
    rfl

theorem setD_len (e : List V) (d : Option Nat) (v : V) : (setD e d v).length = e.length := by
  cases d <;> simp [setD]

theorem setD_get (e : List V) (d : Option Nat) (v : V) (t : Nat) : (setD e d v).getD t unV = if d = some t ∧ t < e.length then v else e.getD t unV := by
  cases d with
  | none => simp [setD]
  | some d =>
    simp only [setD, Option.some.injEq, List.getD]
    by_cases hd : d = t
    · subst hd
      by_cases hl : d < e.length
      · rw [List.getElem?_set_self hl, if_pos ⟨rfl, hl⟩]; rfl
      · rw [if_neg (fun h => hl h.2), List.getElem?_eq_none (by simp; omega), List.getElem?_eq_none (by omega)]
    · rw [List.getElem?_set_ne hd, if_neg (fun h => hd h.1)]

section
variable {gt : Nat → Option V} {P : Program}

/-- an operation that is done, seen from the end -/
def Vz (gt : Nat → Option V) (P : Program) (e : List V) (x : I) : Prop :=
  ∃ v, ((wanted e x.g = some false ∧ v = unV) ∨ (wanted e x.g = some true ∧ ∀ t, KRun gt P e t x.k v t)) ∧ ∀ d, x.d = some d → d < e.length → e.getD d unV = v

structure Gd (gt : Nat → Option V) (P : Program) (os : List On) (n : Ent) : Prop where
  sr : SR n.e n.e.l
  g1 : ∀ o ∈ os, n.c.testBit o.i = true → ∀ j, o.am.testBit j = true → n.c.testBit j = true
  g2 : ∀ o ∈ os, o.z = true → n.c.testBit o.i = true → Vz gt P n.e.l o.x

/-- one step -/
structure Dn1 (gt : Nat → Option V) (P : Program) (o : On) (n n1 : Ent) (v : V) : Prop where
  st : (wanted n.e.l o.x.g = some false ∧ v = unV ∧ n1.s = n.s) ∨ (wanted n.e.l o.x.g = some true ∧ KRun gt P n.e.l n.s o.x.k v n1.s)
  c : n1.c = n.c ||| 2 ^ o.i
  sr : SR n1.e n1.e.l
  l : n1.e.l = setD n.e.l o.x.d v

theorem doOn_ok {call : Cl} (hc : ClOk gt P call) {o : On} {n n1 : Ent} (sr : SR n.e n.e.l) (h : doOn call o n = some n1) : ∃ v, Dn1 gt P o n n1 v := by
  unfold doOn at h
  split at h
  · rename_i hw
    split at h
    · rename_i v s1 hk
      cases h
      have h1 := sr.setD o.x.d v
      refine ⟨v, .inr ⟨by rw [← sr.wanted]; exact hw, evK_ok hc (by rw [← sr.evK]; exact hk)⟩, rfl, ?_, h1.toL⟩
      show SR (n.e.setD o.x.d v) (n.e.setD o.x.d v).l
      rw [h1.toL]; exact h1
    · cases h
  · rename_i hw
    cases h
    have h1 := sr.setD o.x.d unV
    refine ⟨unV, .inl ⟨by rw [← sr.wanted]; exact hw, rfl, rfl⟩, rfl, ?_, h1.toL⟩
    show SR (n.e.setD o.x.d unV) (n.e.setD o.x.d unV).l
    rw [h1.toL]; exact h1
  · cases h

variable {ops : Array Oper} {is : List I} {os : List On} {call : Cl}

theorem Gd.add (K : OsOk ops is os) (hc : ClOk gt P call) {n n1 : Ent} (G : Gd gt P os n) {o : On} (ho : o ∈ os) (hn : n.c.testBit o.i = false) (hr : ∀ j, o.am.testBit j = true → n.c.testBit j = true) {v : V} (D : Dn1 gt P o n n1 v) : Gd gt P os n1 := by
  obtain ⟨hst, hcc, hsr, hl⟩ := D
  have hself : ∀ d, o.x.d = some d → d ∉ o.x.ts := fun d hd ht => by
    rcases K.ts o ho o ho d ht hd with h1 | ⟨-, h1⟩ <;> (have := hr _ h1; rw [hn] at this; cases this)
  refine ⟨hsr, fun o' ho' hb j hj => ?_, fun o' ho' hz hb => ?_⟩
  · rw [hcc, bit_or] at hb
    rw [hcc, bit_or]
    rcases hb with hb | hb
    · exact .inl (G.g1 o' ho' hb j hj)
    · have := K.uni o ho o' ho' hb
      subst this; exact .inl (hr j hj)
  · rw [hcc, bit_or] at hb
    by_cases hb' : n.c.testBit o'.i = true
    · obtain ⟨u, g1, g2⟩ := G.g2 o' ho' hz hb'
      have hne : o.i ≠ o'.i := fun e => by rw [← e, hn] at hb'; cases hb'
      have ag : Ag o'.x.ts n.e.l n1.e.l := by
        rw [hl]
        exact ag_setD (fun d hd ht => by
          rcases K.ts o' ho' o ho d ht hd with h1 | ⟨h1, -⟩
          · have := G.g1 o' ho' hb' _ h1; rw [hn] at this; cases this
          · rw [hz] at h1; cases h1)
      refine ⟨u, ?_, fun d hd hlt => ?_⟩
      · rcases g1 with ⟨a, b⟩ | ⟨a, b⟩
        · exact .inl ⟨by rw [← wanted_congr ag]; exact a, b⟩
        · exact .inr ⟨by rw [← wanted_congr ag]; exact a, fun t => krun_congr ag.k (b t)⟩
      · rw [hl, setD_len] at hlt
        rw [hl, setD_get, if_neg (fun h => K.dd o ho o' ho' hne d h.1 hd)]
        exact g2 d hd hlt
    · have := K.uni o ho o' ho' (hb.resolve_left hb')
      subst this
      have ag : Ag o.x.ts n.e.l n1.e.l := by rw [hl]; exact ag_setD hself
      refine ⟨v, ?_, fun d hd hlt => ?_⟩
      · rcases hst with ⟨a, b, -⟩ | ⟨a, b⟩
        · exact .inl ⟨by rw [← wanted_congr ag]; exact a, b⟩
        · exact .inr ⟨by rw [← wanted_congr ag]; exact a, fun t => krun_congr ag.k ((krun_cls0 (K.zc o ho hz) b).2 t)⟩
      · rw [hl, setD_len] at hlt
        rw [hl, setD_get, if_pos ⟨hd, hlt⟩]

theorem closeZ_ind {C : Ent → Prop} (hstep : ∀ o ∈ os, ∀ n n1, C n → o.z = true → n.c.testBit o.i = false → (∀ j, o.am.testBit j = true → n.c.testBit j = true) → doOn call o n = some n1 → C n1) :
    ∀ (l : List On) (n n2 : Ent), (∀ o ∈ l, o ∈ os) → closeZ call l n = some n2 → C n → C n2
  | [], n, n2, _, h, hC => by cases h; exact hC
  | o :: r, n, n2, hl, h, hC => by
    simp only [closeZ] at h
    split at h
    · rename_i hcond
      simp only [Bool.and_eq_true, Bool.not_eq_true'] at hcond
      split at h
      · rename_i n1 h1
        exact closeZ_ind hstep r n1 n2 (fun o ho => hl o (List.mem_cons_of_mem _ ho)) h (hstep o (hl o (List.mem_cons_self ..)) n n1 hC hcond.1 hcond.2.1 (subM_of hcond.2.2) h1)
      · cases h
    · exact closeZ_ind hstep r n n2 (fun o ho => hl o (List.mem_cons_of_mem _ ho)) h hC

theorem zDone_of {n : Ent} (h : zDone os n = true) {o : On} (ho : o ∈ os) (hz : o.z = true) (hr : ∀ j, o.am.testBit j = true → n.c.testBit j = true) : n.c.testBit o.i = true := by
  unfold zDone at h
  rw [List.all_eq_true] at h
  have := h o ho
  rw [hz, subM_to hr] at this
  simpa using this

/-- slots of operations that the table has done ahead -/
def Pend (os : List On) (listed : Array Bool) (c : Nat) (t : Nat) : Prop := ∃ o ∈ os, o.z = true ∧ c.testBit o.i = true ∧ listed.getD o.i false = false ∧ o.x.d = some t

structure Rl (gt : Nat → Option V) (cxb : Cx) (sb : St) (wb : World) (os : List On) (listed : Array Bool) (n : Ent) (cx : Cx) (rl : List V) (act : Act) (w : World) : Prop where
  E : ERep gt cx w.heap n.s.L rl act.tmps
  hd : act.defers = []
  R : Rel cx n.s w.heap
  X : Ext cxb sb wb.heap cx n.s w.heap
  q : Qt wb w
  le : ∀ j, listed.getD j false = true → n.c.testBit j = true
  nz : ∀ o ∈ os, o.z = false → n.c.testBit o.i = true → listed.getD o.i false = true
  len : rl.length = n.e.l.length
  env : ∀ t, ¬ Pend os listed n.c t → rl.getD t unV = n.e.l.getD t unV

variable {cxb : Cx} {sb : St} {wb : World} {listed : Array Bool}

theorem Rl.addZ (K : OsOk ops is os) {n n1 : Ent} {cx : Cx} {rl : List V} {act : Act} {w : World} (H : Rl gt cxb sb wb os listed n cx rl act w) {o : On} (ho : o ∈ os) (hz : o.z = true) (hn : n.c.testBit o.i = false) {v : V} (D : Dn1 gt P o n n1 v) : Rl gt cxb sb wb os listed n1 cx rl act w := by
  obtain ⟨hst, hcc, hsr, hl⟩ := D
  have hs : n1.s = n.s := by
    rcases hst with ⟨-, -, h⟩ | ⟨-, h⟩
    · exact h
    · exact (krun_cls0 (K.zc o ho hz) h).1
  refine ⟨by rw [hs]; exact H.E, H.hd, by rw [hs]; exact H.R, by rw [hs]; exact H.X, H.q, fun j hj => ?_, fun o' ho' hz' hb => ?_, by rw [hl, setD_len]; exact H.len, fun t ht => ?_⟩
  · rw [hcc, bit_or]; exact .inl (H.le j hj)
  · rw [hcc, bit_or] at hb
    rcases hb with hb | hb
    · exact H.nz o' ho' hz' hb
    · have := K.uni o ho o' ho' hb
      subst this; rw [hz] at hz'; cases hz'
  · have hol : listed.getD o.i false = false := by
      cases hb : listed.getD o.i false with
      | false => rfl
      | true => have := H.le _ hb; rw [hn] at this; cases this
    rw [hl, setD_get, if_neg (fun h => ht ⟨o, ho, hz, by rw [hcc, bit_or]; exact .inr rfl, hol, h.1⟩)]
    refine H.env t (fun ⟨o', ho', a, b, c, d⟩ => ht ⟨o', ho', a, by rw [hcc, bit_or]; exact .inl b, c, d⟩)

theorem listed_set (hsz : listed.size = ops.size) {k : Nat} (hk : k < ops.size) (j : Nat) : (listed.setIfInBounds k true).getD j false = true ↔ j = k ∨ listed.getD j false = true := by
  by_cases hj : k = j
  · subst hj
    have : (listed.setIfInBounds k true).getD k false = true := by simp [hsz, hk]
    simp [this]
  · rw [getD_set_ne false hj]
    exact ⟨fun h => .inr h, fun h => h.resolve_left (fun e => hj e.symm)⟩

theorem Rl.fire (K : OsOk ops is os) (hsz : listed.size = ops.size) {n n1 : Ent} {cx cx' : Cx} {rl : List V} {act act' : Act} {w w' : World} (H : Rl gt cxb sb wb os listed n cx rl act w) {o : On} (ho : o ∈ os) (hol : listed.getD o.i false = false) {v : V}
    (hcc : n1.c = n.c ||| 2 ^ o.i) (hl : n1.e.l.length = n.e.l.length) (hl1 : ∀ d, o.x.d = some d → d < n.e.l.length → n1.e.l.getD d unV = v) (hl2 : ∀ t, o.x.d ≠ some t → n1.e.l.getD t unV = n.e.l.getD t unV)
    (E' : ERep gt cx' w'.heap n1.s.L (setD rl o.x.d v) act'.tmps) (hd' : act'.defers = []) (R' : Rel cx' n1.s w'.heap) (X' : Ext cxb sb wb.heap cx' n1.s w'.heap) (q' : Qt wb w') :
    Rl gt cxb sb wb os (listed.setIfInBounds o.i true) n1 cx' (setD rl o.x.d v) act' w' := by
  have hset := listed_set hsz (K.mem o ho).1
  refine ⟨E', hd', R', X', q', fun j hj => ?_, fun o' ho' hz' hb => ?_, by rw [setD_len, hl]; exact H.len, fun t ht => ?_⟩
  · rw [hcc, bit_or]
    rcases (hset j).1 hj with h | h
    · exact .inr h.symm
    · exact .inl (H.le j h)
  · rw [hset]
    rw [hcc, bit_or] at hb
    rcases hb with hb | hb
    · exact .inr (H.nz o' ho' hz' hb)
    · exact .inl hb.symm
  · rw [setD_get]
    by_cases hd : o.x.d = some t
    · by_cases hlt : t < rl.length
      · rw [if_pos ⟨hd, hlt⟩]
        exact (hl1 t hd (by rw [← H.len]; exact hlt)).symm
      · rw [if_neg (fun h => hlt h.2)]
        simp only [List.getD]
        rw [List.getElem?_eq_none (by omega), List.getElem?_eq_none (by rw [hl, ← H.len]; omega)]
    · rw [if_neg (fun h => hd h.1), hl2 t hd]
      refine H.env t (fun ⟨o', ho', a, b, c, d⟩ => ht ⟨o', ho', a, by rw [hcc, bit_or]; exact .inl b, ?_, d⟩)
      have hne : o'.i ≠ o.i := fun e => by
        have := K.uni o ho o' ho' e.symm
        subst this; exact hd d
      cases hb : (listed.setIfInBounds o.i true).getD o'.i false with
      | false => rfl
      | true =>
        rcases (hset o'.i).1 hb with h | h
        · exact (hne h).elim
        · rw [c] at h; cases h

theorem pOf_old (n0 : Nat) (prs : List (Nat × Nat × Nat)) (l : Nat) (h : l < n0) : pOf n0 prs l = l := by
  have : Nat.blt l n0 = true := by simpa [Nat.blt_eq] using h
  simp only [pOf, this]

theorem envG_of {q : Nat → Bool} : ∀ (m : Nat), envG q m = true → ∀ t, t < m → q t = true
  | 0, _, t, h => by omega
  | m + 1, h, t, ht => by
    simp only [envG, Bool.and_eq_true] at h
    rcases Nat.lt_or_ge t m with h1 | h1
    · exact envG_of m h.2 t h1
    · have : t = m := by omega
      subst this; exact h.1

open Classical in
theorem Rl.ren (hG : GRep gt cxb wb.heap sb.L) {n y : Ent} (Gn : SR n.e n.e.l) (Gy : SR y.e y.e.l) {cx : Cx} {rl : List V} {act : Act} {w : World} (H : Rl gt cxb sb wb os listed n cx rl act w) (hcc : n.c = y.c) (hs : sameEnt sb.n n y = true) : ∃ cx' rl', Rl gt cxb sb wb os listed y cx' rl' act w := by
  unfold sameEnt sameE at hs
  generalize hp : pOf sb.n (y.o.map fun t => (t.2.1, lookO t.1 n.o, t.2.2)) = p at hs
  have hpo : ∀ l, l < sb.n → p l = l := fun l hl => by rw [← hp]; exact pOf_old _ _ _ hl
  simp only [Bool.and_eq_true, Nat.beq_eq] at hs
  obtain ⟨h1, h2, h3⟩ := hs
  have S := stR_iff h1
  have X' := H.X.ren S (Nat.le_refl _) hpo H.R
  have hlen : y.e.l.length = n.e.l.length := by simp [Sl.l, h2]
  have hm : ∀ l, l < y.s.n → y.s.L l := fun l hl => S.L hl
  refine ⟨cx.ren p, (List.range y.e.m).map (fun t => if Pend os listed y.c t then .bad else y.e.l.getD t unV), ⟨hG.later X'.later, ?_, fun t => ?_⟩, H.hd, H.R.ren S, X', H.q, fun j hj => by rw [← hcc]; exact H.le j hj, fun o ho hz hb => H.nz o ho hz (by rw [hcc]; exact hb), by simp [Sl.l], fun t ht => ?_⟩
  · have := H.E.len
    rw [List.length_map, List.length_range, ← h2, ← this, H.len]
    simp [Sl.l]
  · by_cases ht : t < y.e.m
    · have e1 : ((List.range y.e.m).map (fun t => if Pend os listed y.c t then V.bad else y.e.l.getD t unV)).getD t unV = if Pend os listed y.c t then .bad else y.e.l.getD t unV := by
        simp only [List.getD, List.getElem?_map, List.getElem?_range ht, Option.map_some, Option.getD_some]
      rw [e1]
      by_cases hpe : Pend os listed y.c t
      · rw [if_pos hpe]; exact .bad _
      · rw [if_neg hpe]
        have h4 := H.E.rep t
        rw [H.env t (by rw [hcc]; exact hpe), ← Gn.2 t] at h4
        rw [← Gy.2 t]
        exact h4.ren hm 12 _ _ _ (envG_of _ h3 t ht)
    · have e1 : ((List.range y.e.m).map (fun t => if Pend os listed y.c t then V.bad else y.e.l.getD t unV)).getD t unV = unV := by
        simp only [List.getD]; rw [List.getElem?_eq_none (by simp; omega)]; rfl
      rw [e1]
      have h4 := H.E.rep t
      have e2 : rl.getD t unV = unV := by
        simp only [List.getD]
        rw [List.getElem?_eq_none (by rw [H.len, ← hlen]; simp [Sl.l]; omega)]; rfl
      rw [e2] at h4
      exact h4.ren (m := 0) (fun l hl => by omega) 12 unV unV _ rfl
  · by_cases hlt : t < y.e.m
    · simp only [List.getD, List.getElem?_map, List.getElem?_range hlt, Option.map_some, Option.getD_some]
      rw [if_neg ht]
    · simp only [List.getD]
      rw [List.getElem?_eq_none (by simp; omega), List.getElem?_eq_none (by simp [Sl.l]; omega)]

/-! tables -/
def Nxt (call : Cl) (os : List On) (n : Ent) (o : On) (y : Ent) : Prop := o.z = false ∧ n.c.testBit o.i = false ∧ subM o.am n.c = true ∧ stepN call os o n = some y

theorem insE_ok {n0 : Nat} {x : Ent} : ∀ (l l' : List Ent), insE n0 x l = some l' → (∀ y ∈ l, y ∈ l') ∧ (∀ y ∈ l', y ∈ l ∨ y = x) ∧ ∃ y ∈ l', y = x ∨ (x.c = y.c ∧ sameEnt n0 x y = true)
  | [], l', h => by
    cases h
    exact ⟨fun y hy => by simp at hy, fun y hy => .inr (by simpa using hy), x, by simp, .inl rfl⟩
  | z :: l, l', h => by
    simp only [insE] at h
    split at h
    · rename_i hc
      split at h
      · rename_i hs
        cases h
        exact ⟨fun y hy => hy, fun y hy => .inl hy, z, by simp, .inr ⟨Nat.eq_of_beq_eq_true hc, hs⟩⟩
      · cases h
    · split at h
      · rename_i l2 h2
        cases h
        obtain ⟨a, b, y, hy, c⟩ := insE_ok l l2 h2
        refine ⟨fun y hy => ?_, fun y hy => ?_, y, List.mem_cons_of_mem _ hy, c⟩
        · rcases List.mem_cons.1 hy with h | h
          · rw [h]; exact List.mem_cons_self ..
          · exact List.mem_cons_of_mem _ (a y h)
        · rcases List.mem_cons.1 hy with h | h
          · rw [h]; exact .inl (List.mem_cons_self ..)
          · exact (b y h).imp (fun h => List.mem_cons_of_mem _ h) id
      · cases h

theorem goOs_ok {n0 : Nat} {n : Ent} : ∀ (l : List On) (acc acc' : List Ent), goOs call os n0 n l acc = some acc' →
    (∀ y ∈ acc, y ∈ acc') ∧ (∀ y ∈ acc', y ∈ acc ∨ ∃ o ∈ l, Nxt call os n o y) ∧ ∀ o ∈ l, o.z = false → n.c.testBit o.i = false → subM o.am n.c = true → ∃ n1, stepN call os o n = some n1 ∧ ∃ y ∈ acc', y = n1 ∨ (n1.c = y.c ∧ sameEnt n0 n1 y = true)
  | [], acc, acc', h => by cases h; exact ⟨fun _ h => h, fun _ h => .inl h, fun o ho => by simp at ho⟩
  | o :: r, acc, acc', h => by
    simp only [goOs] at h
    split at h
    · rename_i hcond
      simp only [Bool.and_eq_true, Bool.not_eq_true'] at hcond
      split at h
      · rename_i n1 h1
        split at h
        · rename_i acc1 h2
          obtain ⟨a1, a2, y, hy, a3⟩ := insE_ok _ _ h2
          obtain ⟨b1, b2, b3⟩ := goOs_ok r _ _ h
          refine ⟨fun y hy => b1 _ (a1 _ hy), fun z hz => ?_, fun o' ho' g1 g2 g3 => ?_⟩
          · rcases b2 z hz with h | ⟨o', ho', h⟩
            · rcases a2 z h with h | h
              · exact .inl h
              · subst h; exact .inr ⟨o, List.mem_cons_self .., hcond.1, hcond.2.1, hcond.2.2, h1⟩
            · exact .inr ⟨o', List.mem_cons_of_mem _ ho', h⟩
          · rcases List.mem_cons.1 ho' with e | e
            · subst e; exact ⟨n1, h1, y, b1 _ hy, a3⟩
            · exact b3 o' e g1 g2 g3
        · cases h
      · cases h
    · rename_i hcond
      obtain ⟨b1, b2, b3⟩ := goOs_ok r _ _ h
      refine ⟨b1, fun z hz => (b2 z hz).imp id (fun ⟨o', ho', h⟩ => ⟨o', List.mem_cons_of_mem _ ho', h⟩), fun o' ho' g1 g2 g3 => ?_⟩
      rcases List.mem_cons.1 ho' with e | e
      · subst e; simp [g1, g2, g3] at hcond
      · exact b3 o' e g1 g2 g3

theorem goNs_ok {n0 : Nat} : ∀ (l acc acc' : List Ent), goNs call os n0 l acc = some acc' →
    (∀ y ∈ acc, y ∈ acc') ∧ (∀ y ∈ acc', y ∈ acc ∨ ∃ n ∈ l, ∃ o ∈ os, Nxt call os n o y) ∧ ∀ n ∈ l, ∀ o ∈ os, o.z = false → n.c.testBit o.i = false → subM o.am n.c = true → ∃ n1, stepN call os o n = some n1 ∧ ∃ y ∈ acc', y = n1 ∨ (n1.c = y.c ∧ sameEnt n0 n1 y = true)
  | [], acc, acc', h => by cases h; exact ⟨fun _ h => h, fun _ h => .inl h, fun n hn => by simp at hn⟩
  | n :: l, acc, acc', h => by
    simp only [goNs] at h
    split at h
    · rename_i acc1 h1
      obtain ⟨a1, a2, a3⟩ := goOs_ok _ _ _ h1
      obtain ⟨b1, b2, b3⟩ := goNs_ok l _ _ h
      refine ⟨fun y hy => b1 _ (a1 _ hy), fun z hz => ?_, fun n' hn' o ho g1 g2 g3 => ?_⟩
      · rcases b2 z hz with h | ⟨n', hn', h⟩
        · rcases a2 z h with h | h
          · exact .inl h
          · exact .inr ⟨n, List.mem_cons_self .., h⟩
        · exact .inr ⟨n', List.mem_cons_of_mem _ hn', h⟩
      · rcases List.mem_cons.1 hn' with e | e
        · subst e
          obtain ⟨n1, c1, y, hy, c2⟩ := a3 o ho g1 g2 g3
          exact ⟨n1, c1, y, b1 _ hy, c2⟩
        · exact b3 n' e o ho g1 g2 g3
    · cases h

theorem stepN_ok (K : OsOk ops is os) (hc : ClOk gt P call) {n y : Ent} (G : Gd gt P os n) {o : On} (ho : o ∈ os) (hn : n.c.testBit o.i = false) (hr : subM o.am n.c = true) (h : stepN call os o n = some y) : Gd gt P os y ∧ zDone os y = true := by
  unfold stepN at h
  split at h
  · rename_i n1 h1
    obtain ⟨v, D⟩ := doOn_ok hc G.sr h1
    have G1 := G.add K hc ho hn (subM_of hr) D
    split at h
    · rename_i n2 h2
      split at h
      · rename_i hz
        cases h
        refine ⟨closeZ_ind (C := Gd gt P os) (fun o ho m m1 Gm hz hb hs hd => ?_) os n1 _ (fun o h => h) h2 G1, hz⟩
        obtain ⟨u, Du⟩ := doOn_ok hc Gm.sr hd
        exact Gm.add K hc ho hb hs Du
      · cases h
    · cases h
  · cases h

end

section
variable {gt : Nat → Option V} {P : Program} {call : Cl} {ops : Array Oper} {is : List I} {os : List On} {cxb : Cx} {sb : St} {wb : World}

/-- what comes before a ready operation is done -/
theorem ready_anc {listed : Array Bool} (hcl : ∀ k, listed.getD k false = true → ∀ j, ((masks ops.toList []).getD k 0).testBit j = true → listed.getD j false = true) {k : Nat} (hk : k ∈ Region.ready .any ops listed) : ∀ j, ((masks ops.toList []).getD k 0).testBit j = true → listed.getD j false = true := fun j hj => by
  obtain ⟨hun, o, ho, hedges⟩ := mem_ready.1 hk
  obtain ⟨o', ho', ed, he, hb, hj'⟩ := mask_bit hj
  have : o' = o := by
    have h1 : ops.toList[k]? = ops[k]? := by simp
    rw [h1, ho] at ho'; cases ho'; rfl
  subst this
  have hon := hedges ed (by simpa using he) hb
  rcases hj' with rfl | hj'
  · exact hon
  · exact hcl _ hon j hj'

theorem some_ready (hback : backOk 0 ops.toList = true) {listed : Array Bool} (hsz : listed.size = ops.size) {fuel : Nat} (hl : left listed (List.range ops.size) = fuel + 1) : Region.ready .any ops listed ≠ [] := by
  intro hn
  have hpos : 0 < left listed (List.range ops.size) := by omega
  obtain ⟨k0, hk0, hk1⟩ := List.countP_pos_iff.1 hpos
  have hmin : ∃ k, k < ops.size ∧ listed.getD k true = false ∧ ∀ j, j < k → listed.getD j true = true := by
    have : ∀ n, ∀ k, k ≤ n → k < ops.size → listed.getD k true = false → ∃ k, k < ops.size ∧ listed.getD k true = false ∧ ∀ j, j < k → listed.getD j true = true := by
      intro n
      induction n with
      | zero => intro k hk h1 h2; exact ⟨k, h1, h2, fun j hj => by omega⟩
      | succ n ihn =>
        intro k hk h1 h2
        by_cases h : ∃ j, j < k ∧ listed.getD j true = false
        · obtain ⟨j, hj, hjf⟩ := h; exact ihn j (by omega) (by omega) hjf
        · exact ⟨k, h1, h2, fun j hj => by
            cases hb : listed.getD j true with
            | true => rfl
            | false => exact (h ⟨j, hj, hb⟩).elim⟩
    exact this k0 k0 (Nat.le_refl _) (List.mem_range.1 hk0) (by simpa using hk1)
  obtain ⟨k, hks, hkf, hmn⟩ := hmin
  have : k ∈ Region.ready .any ops listed := by
    refine mem_ready.2 ⟨hkf, ops[k], by simp [hks], fun ed he hb => ?_⟩
    have hon := backOk_get ops.toList 0 hback k ops[k] (by simp [hks]) ed (by simpa using he) hb
    rw [getD_bool (by rw [hsz]; omega) false true]
    exact hmn _ (by omega)
  rw [hn] at this; cases this

theorem any_wpA {wf : Nat → Bool} (K : OsOk ops is os) (his : cOps gt P wf ops 0 ops.toList = some is) (hback : backOk 0 ops.toList = true) (hc : ClOk gt P call) (hG : GRep gt cxb wb.heap sb.L) {Q : Exit → Act → World → Prop} {fin : Ent}
    (hQ : ∀ listed cx rl act w, (∀ k, k < ops.size → listed.getD k false = true) → Gd gt P os fin → Rl gt cxb sb wb os listed fin cx rl act w → Q .normal act w) :
    ∀ (fuel k : Nat) (l : List Ent) (n : Ent) (listed : Array Bool) (cx : Cx) (rl : List V) (act : Act) (w : World), left listed (List.range ops.size) = fuel → listed.size = ops.size →
    (∀ k, listed.getD k false = true → ∀ j, ((masks ops.toList []).getD k 0).testBit j = true → listed.getD j false = true) → n ∈ l → (∀ y ∈ l, Gd gt P os y ∧ zDone os y = true) → goLay call os sb.n k l = some fin →
    Rl gt cxb sb wb os listed n cx rl act w → wpAny P .any ops Q fuel listed act w := by
  intro fuel
  induction fuel with
  | zero =>
    intro k l n listed cx rl act w hl hsz hcl hn hg hgo H
    have hall : ∀ k, k < ops.size → listed.getD k false = true := fun k hk => by
      have := List.countP_eq_zero.1 hl k (List.mem_range.2 hk)
      rw [getD_bool (by rw [hsz]; exact hk) false true]
      simpa using this
    refine ⟨?_, ?_⟩
    · rw [List.eq_nil_iff_forall_not_mem]
      intro j hj
      obtain ⟨h1, o, ho, -⟩ := mem_ready.1 hj
      have hj' := (Array.getElem?_eq_some_iff.1 ho).1
      have := hall j hj'
      rw [getD_bool (by rw [hsz]; exact hj') false true, h1] at this; cases this
    · cases k with
      | zero =>
        simp only [goLay] at hgo
        split at hgo
        · split at hgo
          · cases hgo
            have : n = fin := by simpa using hn
            subst this
            exact hQ listed cx rl act w hall (hg n hn).1 H
          · cases hgo
        · cases hgo
      | succ k =>
        exfalso
        simp only [goLay] at hgo
        split at hgo
        · cases hgo
        · rename_i hany
          have : l.any (fullE os) = true := by
            rw [List.any_eq_true]
            refine ⟨n, hn, ?_⟩
            unfold fullE
            rw [List.all_eq_true]
            exact fun o ho => H.le _ (hall _ (K.mem o ho).1)
          rw [this] at hany; cases hany
  | succ fuel ih =>
    intro k l n listed cx rl act w hl hsz hcl hn hg hgo H
    refine ⟨fun h => (some_ready hback hsz hl h).elim, fun i hi => ?_⟩
    have hanc := ready_anc hcl hi
    obtain ⟨hun, o, ho, hedges⟩ := mem_ready.1 hi
    have his' : i < ops.size := (Array.getElem?_eq_some_iff.1 ho).1
    have hleft : left (listed.setIfInBounds i true) (List.range ops.size) = fuel := by
      have := (left_set hun (List.range ops.size) List.nodup_range).1 (List.mem_range.2 his')
      omega
    have hsz' : (listed.setIfInBounds i true).size = ops.size := by simp [hsz]
    have hclosed : ∀ k', (listed.setIfInBounds i true).getD k' false = true → ∀ j, ((masks ops.toList []).getD k' 0).testBit j = true → (listed.setIfInBounds i true).getD j false = true := fun k' hkd j hj => by
      rw [listed_set hsz his'] at hkd ⊢
      rcases hkd with rfl | hkd
      · exact .inr (hanc j hj)
      · exact .inr (hcl k' hkd j hj)
    obtain ⟨on, hon, rfl⟩ := K.all i his'
    obtain ⟨-, hmk, hisx⟩ := K.mem on hon
    obtain ⟨y, hy1, hy2⟩ : ∃ y, is[on.i]? = some y ∧ cI gt P (wf (0 + on.i)) ops o = some y := (cops_get _ _ _ his).2 on.i o (by simpa using ho)
    have hy : y = on.x := by rw [hisx] at hy1; cases hy1; rfl
    subst hy
    obtain ⟨hdst, hkk⟩ := cI_dk hy2
    have hol : listed.getD on.i false = false := by rw [getD_bool (by rw [hsz]; exact his') false true]; exact hun
    have hanc' : ∀ j, on.am.testBit j = true → listed.getD j false = true := fun j hj => hanc j (by rw [← hmk]; exact hj)
    have hancC : ∀ j, on.am.testBit j = true → n.c.testBit j = true := fun j hj => H.le j (hanc' j hj)
    obtain ⟨Gn, hzn⟩ := hg n hn
    -- the arguments are there
    have ag : Ag on.x.ts n.e.l rl := fun t ht => by
      refine (H.env t (fun ⟨o', ho', hz', hb', hl', hd'⟩ => ?_)).symm
      rcases K.ts on hon o' ho' t ht hd' with h1 | ⟨h0, h1⟩
      · have := hanc' _ h1; rw [hl'] at this; cases this
      · have h2 := Gn.g1 o' ho' hb' _ h1
        have := H.nz on hon h0 h2
        rw [hol] at this; cases this
    -- a step, and what follows
    have fire : ∀ (v : V) (s1 : St), ((wanted n.e.l on.x.g = some false ∧ v = unV ∧ s1 = n.s) ∨ (wanted n.e.l on.x.g = some true ∧ KRun gt P n.e.l n.s on.x.k v s1)) →
        (∀ cx' act' w', ERep gt cx' w'.heap s1.L (setD rl on.x.d v) act'.tmps → act'.defers = [] → Rel cx' s1 w'.heap → Ext cxb sb wb.heap cx' s1 w'.heap → Qt wb w' → wpAny P .any ops Q fuel (listed.setIfInBounds on.i true) act' w') →
        wpOp P ops Q on.i (wpAny P .any ops Q fuel (listed.setIfInBounds on.i true)) act w := by
      intro v s1 hst hnext
      unfold wpOp
      simp only [ho]
      rcases hst with ⟨hw, rfl, rfl⟩ | ⟨hw, hkr⟩
      · rw [wanted_congr ag] at hw
        rw [wanted_run H.E hy2 hw]
        simp only [Bool.false_eq_true, if_false]
        have hE := H.E.setD (VRep.un _ _ _) o.dst
        rw [← hdst] at hE ⊢
        exact hnext cx _ w hE (by rw [put_defers]; exact H.hd) H.R H.X H.q
      · rw [wanted_congr ag] at hw
        rw [wanted_run H.E hy2 hw]
        simp only [if_true]
        left
        have hkr' := krun_congr ag.k hkr
        rw [hkk] at hkr'
        exact oper_run H.E H.hd H.R hkr' (fun x w' cx' e1 e2 e3 e4 => hnext cx' _ w' (by rw [hdst]; exact e1) (by rw [put_defers]; exact H.hd) e2 (H.X.trans e3) (H.q.trans e4))
    by_cases hb : n.c.testBit on.i = true
    · -- the table has done it ahead
      have hz : on.z = true := by
        cases hz : on.z with
        | true => rfl
        | false => have := H.nz on hon hz hb; rw [hol] at this; cases this
      obtain ⟨v, hst, hv⟩ := Gn.g2 on hon hz hb
      have hcc : n.c = n.c ||| 2 ^ on.i := by
        apply Nat.eq_of_testBit_eq
        intro j
        cases h1 : (n.c ||| 2 ^ on.i).testBit j with
        | true =>
          rcases bit_or.1 h1 with h | h
          · exact h
          · rw [← h]; exact hb
        | false =>
          cases h2 : n.c.testBit j with
          | false => rfl
          | true => rw [bit_or.2 (.inl h2)] at h1; cases h1
      refine fire v n.s (hst.imp (fun h => ⟨h.1, h.2, rfl⟩) (fun h => ⟨h.1, h.2 _⟩)) (fun cx' act' w' e1 e2 e3 e4 e5 => ?_)
      exact ih k l n _ cx' _ act' w' hleft hsz' hclosed hn hg hgo (H.fire K hsz hon hol hcc rfl hv (fun t _ => rfl) e1 e2 e3 e4 e5)
    · have hb : n.c.testBit on.i = false := by simpa using hb
      have hz : on.z = false := by
        cases hz : on.z with
        | false => rfl
        | true => have := zDone_of hzn hon hz hancC; rw [hb] at this; cases this
      cases k with
      | zero =>
        -- nothing is left
        exfalso
        simp only [goLay] at hgo
        split at hgo
        · split at hgo
          · rename_i m hfull
            cases hgo
            have : n = fin := by simpa using hn
            subst this
            unfold fullE at hfull
            rw [List.all_eq_true] at hfull
            have := hfull on hon
            rw [hb] at this; cases this
          · cases hgo
        · cases hgo
      | succ k =>
        simp only [goLay] at hgo
        split at hgo
        · cases hgo
        split at hgo
        case h_2 => cases hgo
        rename_i hany l' hl'
        obtain ⟨-, a2, a3⟩ := goNs_ok _ _ _ hl'
        have hg' : ∀ y ∈ l', Gd gt P os y ∧ zDone os y = true := fun y hy => by
          rcases a2 y hy with h | ⟨m, hm, o', ho', h1, h2, h3, h4⟩
          · simp at h
          · exact stepN_ok K hc (hg m hm).1 ho' h2 h3 h4
        obtain ⟨n2, hst2, z, hz', hzz⟩ := a3 n hn on hon hz hb (subM_to hancC)
        have G2 := (stepN_ok K hc Gn hon hb (subM_to hancC) hst2).1
        unfold stepN at hst2
        split at hst2
        case h_2 => cases hst2
        rename_i n1 h1
        obtain ⟨v, D⟩ := doOn_ok hc Gn.sr h1
        have G1 := Gn.add K hc hon hb hancC D
        split at hst2
        case h_2 => cases hst2
        rename_i n2' h2
        split at hst2
        case h_2 => cases hst2
        cases hst2
        refine fire v n1.s D.st (fun cx' act' w' e1 e2 e3 e4 e5 => ?_)
        have H1 : Rl gt cxb sb wb os (listed.setIfInBounds on.i true) n1 cx' (setD rl on.x.d v) act' w' := H.fire K hsz hon hol D.c (by rw [D.l, setD_len]) (fun d hd hlt => by rw [D.l, setD_get, if_pos ⟨hd, hlt⟩]) (fun t ht => by rw [D.l, setD_get, if_neg (fun h => ht h.1)]) e1 e2 e3 e4 e5
        have H2 := (closeZ_ind (os := os) (C := fun m => Gd gt P os m ∧ Rl gt cxb sb wb os (listed.setIfInBounds on.i true) m cx' (setD rl on.x.d v) act' w') (fun o' ho' m m1 Gm hz' hb' hs' hd' => by
          obtain ⟨u, Du⟩ := doOn_ok hc Gm.1.sr hd'
          exact ⟨Gm.1.add K hc ho' hb' hs' Du, Gm.2.addZ K ho' hz' hb' Du⟩) os n1 n2 (fun o h => h) h2 ⟨G1, H1⟩).2
        rcases hzz with rfl | ⟨hcc, hs⟩
        · exact ih k l' z _ cx' _ act' w' hleft hsz' hclosed hz' hg' hgo H2
        · obtain ⟨cx2, rl2, H3⟩ := H2.ren hG G2.sr (hg' z hz').1.sr hcc hs
          exact ih k l' z _ cx2 rl2 act' w' hleft hsz' hclosed hz' hg' hgo H3

theorem goLay_gd (K : OsOk ops is os) (hc : ClOk gt P call) {n0 : Nat} : ∀ (k : Nat) (l : List Ent) (fin : Ent), (∀ y ∈ l, Gd gt P os y ∧ zDone os y = true) → goLay call os n0 k l = some fin → Gd gt P os fin
  | 0, l, fin, hg, h => by
    simp only [goLay] at h
    split at h
    · split at h
      · cases h; exact (hg _ (by simp)).1
      · cases h
    · cases h
  | k + 1, l, fin, hg, h => by
    simp only [goLay] at h
    split at h
    · cases h
    split at h
    case h_2 => cases h
    rename_i l' hl'
    obtain ⟨-, a2, -⟩ := goNs_ok _ _ _ hl'
    refine goLay_gd K hc k l' fin (fun y hy => ?_) h
    rcases a2 y hy with h | ⟨m, hm, o', ho', h1, h2, h3, h4⟩
    · simp at h
    · exact stepN_ok K hc (hg m hm).1 ho' h2 h3 h4

/-- a region that draws its order, by its table -/
theorem anyA_any {wf : Nat → Bool} {e : Sl} {el : List V} {s : St} {e' : Sl} {s' : St} (hm : P.follows .mixedOrders = true) (his : cOps gt P wf ops 0 ops.toList = some is) (hc : ClOk gt P call) (hsr : SR e el) (h : anyA call ops.toList is e s = some (e', s')) (cx : Cx) (w : World) (act : Act) (E : ERep gt cx w.heap s.L el act.tmps) (hd : act.defers = []) (R : Rel cx s w.heap) :
    ∃ el', SR e' el' ∧ ∀ t, wpOps P ops (fun ex a' w' => ∃ x e2 s2, exitOf x = ex ∧ (x = .nrm ∧ e2 = el' ∧ s2 = s') ∧ After gt cx s w e2 s2 a' w') (Region.schedule (P.follows .mixedOrders) ops t) act { w with drawn := w.drawn + 1 } := by
  unfold anyA at h
  generalize hos : onsOf (masks ops.toList []) (numbered 0 is) = os at h
  split at h
  case h_2 => cases h
  rename_i hok
  simp only [Bool.and_eq_true] at hok
  obtain ⟨hback, hokA⟩ := hok
  split at h
  case h_2 => cases h
  rename_i n hn
  split at h
  case h_2 => cases h
  rename_i hz
  split at h
  case h_2 => cases h
  rename_i fin hgo
  cases h
  have hlen : is.length = ops.size := by simpa using (cops_get _ _ _ his).1
  have K : OsOk ops is os := by rw [← hos]; exact osOk_of hlen (by rw [hos]; exact hokA)
  have hsr0 : SR e e.l := by rw [hsr.toL]; exact hsr
  have G0 : Gd gt P os ⟨0, e, s, []⟩ := ⟨hsr0, fun o ho hb => by simp at hb, fun o ho _ hb => by simp at hb⟩
  have G1 := closeZ_ind (os := os) (C := Gd gt P os) (fun o ho m m1 Gm hz hb hs hd => by
    obtain ⟨u, Du⟩ := doOn_ok hc Gm.sr hd
    exact Gm.add K hc ho hb hs Du) os _ n (fun o h => h) hn G0
  have hg : ∀ y ∈ [n], Gd gt P os y ∧ zDone os y = true := fun y hy => by
    have : y = n := by simpa using hy
    subst this; exact ⟨G1, hz⟩
  have hrep : ∀ j, (Array.replicate ops.size false).getD j false = false := fun j => by
    rw [Array.getD_eq_getD_getElem?, Array.getElem?_replicate]; split <;> rfl
  have H0 : Rl gt cx s { w with drawn := w.drawn + 1 } os (Array.replicate ops.size false) ⟨0, e, s, []⟩ cx el act { w with drawn := w.drawn + 1 } := by
    refine ⟨E, hd, R, .refl _ _ _, .rfl, fun j hj => ?_, fun o ho _ hb => by simp at hb, by rw [hsr.toL], fun t _ => by rw [hsr.toL]⟩
    rw [hrep] at hj; cases hj
  have H1 := (closeZ_ind (os := os) (C := fun m => Gd gt P os m ∧ Rl gt cx s { w with drawn := w.drawn + 1 } os (Array.replicate ops.size false) m cx el act { w with drawn := w.drawn + 1 }) (fun o' ho' m m1 Gm hz' hb' hs' hd' => by
    obtain ⟨u, Du⟩ := doOn_ok hc Gm.1.sr hd'
    exact ⟨Gm.1.add K hc ho' hb' hs' Du, Gm.2.addZ K ho' hz' hb' Du⟩) os _ n (fun o h => h) hn ⟨G0, H0⟩).2
  refine ⟨fin.e.l, (goLay_gd K hc _ _ _ hg hgo).sr, fun t => ?_⟩
  simp only [Region.schedule, hm, Bool.true_or, if_true]
  refine wpAny_sound ops.size t _ act _ ?_
  refine any_wpA K his hback hc (cxb := cx) (sb := s) (wb := { w with drawn := w.drawn + 1 }) (fin := fin) E.gl (fun listed cx2 rl act2 w2 hall G H => ?_) ops.size _ [n] n _ cx el act _ ?_ (by simp) (fun k hk => ?_) (by simp) hg hgo H1
  · have hrl : rl = fin.e.l := by
      apply List.ext_getElem H.len
      intro j h1 h2
      have := H.env j (fun ⟨o, ho, _, _, hl, _⟩ => by rw [hall _ (K.mem o ho).1] at hl; cases hl)
      simpa [List.getD, h1, h2] using this
    subst hrl
    exact ⟨.nrm, _, fin.s, rfl, ⟨rfl, rfl, rfl⟩, cx2, H.E, H.hd, H.R, H.X, ⟨H.q.os, H.q.out⟩⟩
  · unfold left
    rw [List.countP_eq_length.2]
    · simp
    · intro k hk
      have : k < ops.size := List.mem_range.1 hk
      simp [this]
  · rw [hrep] at hk; cases hk

end
end Rf
