/-
  The abstract machine that goes step by step: frames, what is put off, panics, rounds of loops over functions. Definitions.
-/
import Derived.Test.YtklgkdehnaecnaaDoorRfXa
set_option linter.all false
set_option linter.unusedSimpArgs false
namespace Rf
open Go

/-- what is put off: a call; the calls that a block of a loop holds -/
inductive D where
  | f (g : Nat) (args : List V)
  | col (l : Nat)
  deriving Inhabited

/-- what is to be done in a frame -/
inductive T where
  | c (c : Code)
  | blk (id : Nat)
  | lp (c : Code)
  | reg (ops : Array Oper) (i : Nat) (r : List Oper) (is : List I)
  | rf (l : Nat)
  | erf (l : Nat)
  | br

inductive Md where
  | run
  | ret
  | pan (ch : List (V × Bool))

structure AF where
  f : Nat
  e : Sl
  k : List T
  ds : List D
  md : Md
  kd : Bool
  ro : Option Nat

abbrev Cfg := AF × List AF × St

def exitA (id : Nat) : List T → Option (List T)
  | .blk id' :: k => if id' = id then some k else exitA id k
  | _ :: k => exitA id k
  | [] => none

/-- a value comes into a frame -/
def finA (c : AF) (v : V) : Option AF :=
  match c.k with
  | .reg ops i (o :: r) (_ :: is) :: k => some { c with e := c.e.setD o.dst v, k := .reg ops (i + 1) r is :: k }
  | .rf l :: k => some { c with k := .erf l :: k }
  | .br :: k => some { c with k := k }
  | _ => none

def raiseA (c : AF) (ch : List (V × Bool)) : AF :=
  match c.md with
  | .pan old => { c with md := .pan (ch ++ old) }
  | _ => { c with md := .pan ch }

def settleA : Md → Md
  | .pan ((_, true) :: _) => .ret
  | m => m

/-- back to the caller -/
def backA (kd : Bool) (c : AF) (v : V) : Option AF :=
  match kd with
  | false => finA c v
  | true => some { c with md := settleA c.md }

def enterA (P : Program) (f : Nat) (args : List V) (kd : Bool) : Option AF :=
  match P.funcs[f]? with
  | none => none
  | some fn => match fn.body with
    | none => none
    | some b => if fn.name != "runtime.NumGoroutine" then some { f := f, e := Sl.of args fn.ntmps, k := [.c b], ds := [], md := .run, kd := kd, ro := none } else none

def setPs (e : Sl) : List Nat → List V → Option Sl
  | [], [] => some e
  | p :: ps, v :: vs => setPs (e.set p v) ps vs
  | _, _ => none

def recoverA (top : AF) (cs : List AF) : Option (V × List AF) :=
  match top.kd with
  | true => match cs with
    | c :: r => match c.md with
      | .pan ((v, false) :: old) => some (v, { c with md := .pan ((v, true) :: old) } :: r)
      | _ => some (.ni, cs)
    | [] => none
  | false => some (.ni, cs)

def isDef : Op → Bool
  | .defer _ => true
  | _ => false

/-- the panic's value -/
def panA (fr : AF) (cs : List AF) (s : St) (v : V) : Option Cfg :=
  match v with
  | .ifc t v => some (raiseA fr [(.ifc t v, false)], cs, s)
  | _ => none

/-- the receiver of a promoted method: through fields that lie in the value itself -/
def pathA (P : Program) : List FieldStep → Nat → V → Option (Nat × V)
  | [], t, v => some (t, v)
  | st :: r, _, v => match st.deref, P.underlying st.struct, v with
    | false, some (.struct fs), .ag cs => match fs[st.index]? with
      | some fd => match agP P fd.type, cs[fd.offset]? with
        | some false, some u => pathA P r fd.type u
        | _, _ => none
      | none => none
    | _, _, _ => none

/-- operations that are no operations of regions -/
def specA (gt : Nat → Option V) (P : Program) (fr : AF) (cs : List AF) (s : St) (o : Oper) : Option Cfg :=
  match o.op with
  | .defer c => match fr.ro, c.callee with
    | none, .value x => match cArg gt x, mapO (cArg gt) c.args.toList with
      | some x, some l => match x.sv fr.e with
        | .fn g cap => (finA fr unV).map fun n => ({ n with ds := .f g (l.map (·.sv fr.e) ++ cap) :: n.ds }, cs, s)
        | _ => none
      | _, _ => none
    | _, _ => none
  | .panic x => match cArg gt x with
    | some x => panA fr cs s (x.sv fr.e)
    | none => none
  | .call c => match c.callee with
    | .builtin .panic => match c.args.toList with
      | [x] => match cArg gt x with
        | some x => panA fr cs s (x.sv fr.e)
        | none => none
      | _ => none
    | .builtin .recover => match fr.ro, recoverA fr cs with
      | none, some (v, cs') => (finA fr v).map fun fr => (fr, cs', s)
      | _, _ => none
    | .invoke x m => match cArg gt x, mapO (cArg gt) c.args.toList with
      | some x, some l => match x.sv fr.e with
        | .ifc t v => match P.info? t with
          | some info => match info.methods.find? (·.name == m) with
            | some mt => match pathA P mt.path.toList t v, mt.func with
              | some (t1, v1), some (f, ptr) => match P.underlying t1, ptr with
                | some (.pointer _), true => (enterA P f (v1 :: l.map (·.sv fr.e)) false).map fun n => (n, fr :: cs, s)
                | some (.pointer _), false => none
                | some _, false => (enterA P f (v1 :: l.map (·.sv fr.e)) false).map fun n => (n, fr :: cs, s)
                | _, _ => none
              | _, _ => none
            | none => none
          | none => none
        | _ => none
      | _, _ => none
    | _ => none
  | _ => none

/-- a jump that waits -/
def pendA (p : Option Code) (k : List T) : List T := match p with
  | some c => .c c :: k
  | none => k

def wantedA (e : Sl) (g : Option (Nat × Bool)) : Option Bool := wantedT e g

/-- out of a round: by which jump -/
def roundEnd (fr : AF) (cs : List AF) (s : St) (l : Nat) (jump : Option Code) : Option Cfg :=
  match s.get l, cs with
  | some (.x (.lp _ _ f e ps as bd ds)), c :: r =>
    (backA fr.kd c (.b jump.isNone)).map fun c => (c, r, s.put l (some (.x (.lp (if jump.isNone then .ready else .done) jump f e ps as bd ds))))
  | _, _ => none

/-- nothing is put off: back to the caller -/
def lastA (P : Program) (f : Nat) (e : Sl) (md : Md) (kd : Bool) (ro : Option Nat) (c : AF) (r : List AF) (s : St) : Option Cfg :=
  match md with
  | .pan ch => some (raiseA c ch, r, s)
  | .ret => match ro with
    | some _ => none
    | none => match P.funcs[f]? with
      | none => none
      | some fn => match mapO (cRs P) fn.results.toList with
        | none => none
        | some rs => match resVT e s rs with
          | none => none
          | some vs => (backA kd c (packV vs)).map fun c => (c, r, s)
  | .run => none

def stepA (gt : Nat → Option V) (P : Program) (wf : Nat → Nat → Nat → Bool) (kn call : Cl) : AF → List AF → St → Option Cfg
  | ⟨f, e, k, ds, md, kd, ro⟩, cs, s =>
  match md with
  | .run => match k with
    | [] => match ro with
      | none => some (⟨f, e, k, ds, .ret, kd, ro⟩, cs, s)
      | some l => roundEnd ⟨f, e, k, ds, md, kd, ro⟩ cs s l none
    | .c c :: k => match c with
      | .ret => match ro with
        | none => some (⟨f, e, .c .ret :: k, ds, .ret, kd, ro⟩, cs, s)
        | some l => roundEnd ⟨f, e, .c c :: k, ds, md, kd, ro⟩ cs s l (some .ret)
      | .skip => some (⟨f, e, k, ds, md, kd, ro⟩, cs, s)
      | .seq a b => some (⟨f, e, .c a :: .c b :: k, ds, md, kd, ro⟩, cs, s)
      | .cond x a b => match cArg gt x with
        | some x => match x.sv e with
          | .b true => some (⟨f, e, .c a :: k, ds, md, kd, ro⟩, cs, s)
          | .b false => some (⟨f, e, .c b :: k, ds, md, kd, ro⟩, cs, s)
          | _ => none
        | none => none
      | .block id a => some (⟨f, e, .c a :: .blk id :: k, ds, md, kd, ro⟩, cs, s)
      | .loop a => some (⟨f, e, .c a :: .lp a :: k, ds, md, kd, ro⟩, cs, s)
      | .exit id => match exitA id k with
        | some k => some (⟨f, e, k, ds, md, kd, ro⟩, cs, s)
        | none => match ro with
          | none => none
          | some l => roundEnd ⟨f, e, .c c :: k, ds, md, kd, ro⟩ cs s l (some (.exit id))
      | .region id ops draw => match cOps gt P (wf f id) ops 0 ops.toList with
        | some is => match draw with
          | false => some (⟨f, e, .reg ops 0 ops.toList is :: k, ds, md, kd, ro⟩, cs, s)
          | true => if ops.toList.any (fun o => isDef o.op) then none else match cDrw ops.toList is with
            | some l => match evDrwT call [] l e s with
              | some (e', s') => some (⟨f, e', k, ds, md, kd, ro⟩, cs, s')
              | none => none
            | none => match anyA call ops.toList is e s with
              | some (e', s') => some (⟨f, e', k, ds, md, kd, ro⟩, cs, s')
              | none => none
        | none => none
      | .rangeFunc g ps as bd => match ro, cArg gt g with
        | none, some x => match x.sv e with
          | .fn g cap =>
            (enterA P g (.yl (s.n + 1) :: cap) false).map fun n =>
              (n, ⟨f, e, .rf (s.n + 1) :: k, .col s.n :: ds, md, kd, ro⟩ :: cs, (s.new (.x (.df false))).new (.x (.lp .ready none f e ps.toList as bd s.n)))
          | _ => none
        | some l0, some x => match x.sv e, s.get l0 with
          | .fn g cap, some (.x (.lp _ _ _ _ _ _ _ d0)) =>
            (enterA P g (.yl s.n :: cap) false).map fun n =>
              (n, ⟨f, e, .rf s.n :: k, ds, md, kd, ro⟩ :: cs, s.new (.x (.lp .ready none f e ps.toList as bd d0)))
          | _, _ => none
        | _, _ => none
      | _ => none
    | .blk _ :: k => some (⟨f, e, k, ds, md, kd, ro⟩, cs, s)
    | .lp a :: k => some (⟨f, e, .c a :: .lp a :: k, ds, md, kd, ro⟩, cs, s)
    | .reg ops i (o :: r) (x :: is) :: k => match wantedT e x.g with
      | some true => match x.k with
        | .a y => match aopT e s y with
          | some (v, s1) => some (⟨f, e.setD o.dst v, .reg ops (i + 1) r is :: k, ds, md, kd, ro⟩, cs, s1)
          | none => none
        | .call g args => match kn g (args.map (·.sv e)) s with
          | some (v, s1) => some (⟨f, e.setD o.dst v, .reg ops (i + 1) r is :: k, ds, md, kd, ro⟩, cs, s1)
          | none => (enterA P g (args.map (·.sv e)) false).map fun n => (n, ⟨f, e, .reg ops i (o :: r) (x :: is) :: k, ds, md, kd, ro⟩ :: cs, s)
        | .callv fa args => match fa.sv e with
          | .fn g cap => (enterA P g (args.map (·.sv e) ++ cap) false).map fun n => (n, ⟨f, e, .reg ops i (o :: r) (x :: is) :: k, ds, md, kd, ro⟩ :: cs, s)
          | .yl l => match s.get l with
            | some (.x (.lp _ _ f1 e1 ps as bd _)) => match setPs e1 ps (args.map (·.sv e)) with
              | some e2 => some (⟨f1, e2, [.c as, .br, .c bd], [], .run, false, some l⟩, ⟨f, e, .reg ops i (o :: r) (x :: is) :: k, ds, md, kd, ro⟩ :: cs, s)
              | none => none
            | _ => none
          | _ => none
        | .bad => specA gt P ⟨f, e, .reg ops i (o :: r) (x :: is) :: k, ds, md, kd, ro⟩ cs s o
      | some false => some (⟨f, e.setD o.dst unV, .reg ops (i + 1) r is :: k, ds, md, kd, ro⟩, cs, s)
      | none => none
    | .reg _ _ [] _ :: k => some (⟨f, e, k, ds, md, kd, ro⟩, cs, s)
    | .reg _ _ _ _ :: _ => none
    | .rf _ :: _ => none
    | .erf l :: k => match s.get l with
      | some (.x (.lp st pend f1 e1 ps as bd d0)) => match st with
        | .busy => none
        | _ => some (⟨f, e, pendA pend k, ds, md, kd, ro⟩, cs, s.put l (some (.x (.lp .exhausted pend f1 e1 ps as bd d0))))
      | _ => none
    | .br :: k => match ro with
      | some l => match s.get l with
        | some (.x (.lp .ready pend f1 e1 ps as bd d0)) => some (⟨f, e, k, ds, md, kd, ro⟩, cs, s.put l (some (.x (.lp .busy pend f1 e1 ps as bd d0))))
        | _ => none
      | none => none
  | md => match ds with
    | .col b :: ds => match s.get b with
      | some (.x (.df false)) => some (⟨f, e, k, ds, md, kd, ro⟩, cs, s.put b (some (.x (.df true))))
      | _ => none
    | .f g args :: ds => (enterA P g args true).map fun n => (n, ⟨f, e, k, ds, md, kd, ro⟩ :: cs, s)
    | [] => match cs with
      | c :: r => lastA P f e md kd ro c r s
      | [] => none

/-! the frequent operations, their bodies small: the kernel keeps less -/
def qNth (s : St) : List V → Nat → Option (V × St)
  | [], _ => none
  | v :: _, 0 => some (v, s)
  | _ :: r, o + 1 => qNth s r o
theorem qNth_eq (s : St) : ∀ (cs : List V) (o : Nat), qNth s cs o = (cs[o]?).map fun v => (v, s)
  | [], _ => rfl
  | _ :: _, 0 => rfl
  | _ :: r, o + 1 => by simp only [qNth, qNth_eq s r o, List.getElem?_cons_succ]
def qObj1 (s : St) (o : Nat) : Option O → Option (V × St)
  | some (.c cs _ _) => qNth s cs o
  | _ => none
def qLoad1 (s : St) : V → Option (V × St)
  | .p l o => qObj1 s o (s.get l)
  | .q v o => qNth s v.cells o
  | _ => none
def qTk (s : St) (cs : List V) (o n : Nat) : Option (V × St) := match Nat.ble (o + n) cs.length with
  | true => some (.ag ((cs.drop o).take n), s)
  | false => none
def qObjn (s : St) (n o : Nat) : Option O → Option (V × St)
  | some (.c cs _ _) => qTk s cs o n
  | _ => none
def qLoadn (s : St) (n : Nat) : V → Option (V × St)
  | .p l o => qObjn s n o (s.get l)
  | .q v o => qTk s v.cells o n
  | _ => none
def qPut (s : St) (n l o : Nat) (v : V) : Option O → Option (V × St)
  | some (.c cs z ty) => match v.isVal && (Nat.beq v.cells.length n && (Nat.ble (o + n) cs.length && (Nat.beq n 0 || Nat.ble z o))) with
    | true => some (unV, s.put l (some (.c (setAt cs o v.cells) z ty)))
    | false => none
  | _ => none
def qStore (s : St) (n : Nat) (v : V) : V → Option (V × St)
  | .p l o => qPut s n l o v (s.get l)
  | _ => none
def qFa (s : St) (off : Nat) : V → Option (V × St)
  | .p l o => some (.p l (o + off), s)
  | .q v o => some (.q v (o + off), s)
  | _ => none
def qPick (s : St) (a b : V) : V → Option (V × St)
  | .b true => some (a, s)
  | .b false => some (b, s)
  | _ => none
def qNot (s : St) : V → Option (V × St)
  | .b v => some (.b !v, s)
  | _ => none
def qLen (s : St) : V → Option (V × St)
  | .ns => some (.i .i64 0, s)
  | .sl _ _ _ n _ => some (.i .i64 n, s)
  | .se _ _ => some (.i .i64 0, s)
  | .pu _ xs _ => some (.i .i64 xs.length, s)
  | _ => none
def qExt (s : St) (i : Nat) : V → Option (V × St)
  | .tu vs => qNth s vs i
  | _ => none
def qNilc (s : St) : V → Option (V × St)
  | .p l o => some (.p l o, s)
  | .q v o => some (.q v o, s)
  | .ifc t v => some (.ifc t v, s)
  | .fn f c => some (.fn f c, s)
  | _ => none
def qO (s : St) : Option V → Option (V × St)
  | some v => some (v, s)
  | none => none
def qB (s : St) (neg : Bool) : Option Bool → Option (V × St)
  | some v => some (.b (if neg then !v else v), s)
  | none => none
def aopQ (e : Sl) (s : St) (y : A) : Option (V × St) := match y with
  | .mov x => some (x.sv e, s)
  | .pick c a b => qPick s (a.sv e) (b.sv e) (c.sv e)
  | .alloc t z => some (.p s.n 0, s.new (.c z 0 (some t)))
  | .load1 a => qLoad1 s (a.sv e)
  | .loadn n a => qLoadn s n (a.sv e)
  | .store n a v => qStore s n (v.sv e) (a.sv e)
  | .nilc x => qNilc s (x.sv e)
  | .bin op x y => qO s (binV op (x.sv e) (y.sv e))
  | .eql neg kd x y => qB s neg (peq kd (x.sv e) (y.sv e))
  | .not x => qNot s (x.sv e)
  | .fa off x => qFa s off (x.sv e)
  | .ext x i => qExt s i (x.sv e)
  | .len x => qLen s (x.sv e)
  | y => aopT e s y
theorem aopQ_eq (e : Sl) (s : St) (y : A) : aopQ e s y = aopT e s y := by
  cases y <;> first
    | rfl
    | skip
  case load1 a =>
    show qLoad1 s (a.sv e) = aop [] s (.load1 (.c (a.sv e))); simp only [aop, ev_c]
    cases a.sv e <;> try rfl
    · rename_i l o
      simp only [qLoad1]
      cases s.get l with
      | none => rfl
      | some ob => cases ob <;> first | rfl | exact qNth_eq s _ _
    · exact qNth_eq s _ _
  case loadn n a =>
    have hT : ∀ (cs : List V) (o : Nat), qTk s cs o n = if o + n ≤ cs.length then some (.ag ((cs.drop o).take n), s) else none := fun cs o => by
      unfold qTk
      by_cases h : o + n ≤ cs.length
      · rw [if_pos h, show Nat.ble (o + n) cs.length = true by simpa using h]
      · rw [if_neg h, show Nat.ble (o + n) cs.length = false by rw [← Bool.not_eq_true, Nat.ble_eq]; exact h]
    show qLoadn s n (a.sv e) = aop [] s (.loadn n (.c (a.sv e))); simp only [aop, ev_c]
    cases a.sv e <;> try rfl
    · rename_i l o
      simp only [qLoadn]
      cases s.get l with
      | none => rfl
      | some ob => cases ob <;> first | rfl | exact hT _ _
    · exact hT _ _
  case store n a v =>
    show qStore s n (v.sv e) (a.sv e) = aop [] s (.store n (.c (a.sv e)) (.c (v.sv e)))
    generalize v.sv e = u
    have h0 : aop [] s (.store n (.c (a.sv e)) (.c u)) = (match a.sv e with
      | .p l o => match s.get l with
        | some (.c cs z ty) => if u.isVal = true ∧ u.cells.length = n ∧ o + n ≤ cs.length ∧ (n = 0 ∨ z ≤ o) then some (unV, s.put l (some (.c (setAt cs o u.cells) z ty))) else none
        | _ => none
      | _ => none) := rfl
    rw [h0]
    cases a.sv e <;> try rfl
    rename_i l o
    simp only [qStore]
    cases s.get l with
    | none => rfl
    | some ob =>
      cases ob <;> try rfl
      rename_i cs z ty
      simp only [qPut]
      by_cases h : u.isVal = true ∧ u.cells.length = n ∧ o + n ≤ cs.length ∧ (n = 0 ∨ z ≤ o)
      · rw [if_pos h]
        have : (u.isVal && (Nat.beq u.cells.length n && (Nat.ble (o + n) cs.length && (Nat.beq n 0 || Nat.ble z o)))) = true := by
          simpa [Bool.and_eq_true, Nat.beq_eq, Nat.ble_eq] using h
        rw [this]
      · rw [if_neg h]
        have : (u.isVal && (Nat.beq u.cells.length n && (Nat.ble (o + n) cs.length && (Nat.beq n 0 || Nat.ble z o)))) = false := by
          rw [← Bool.not_eq_true]; intro h2
          exact h (by simpa [Bool.and_eq_true, Nat.beq_eq, Nat.ble_eq] using h2)
        rw [this]
  case bin op x y => show qO s (binV op (x.sv e) (y.sv e)) = aop [] s (.bin op (.c (x.sv e)) (.c (y.sv e))); simp only [aop, ev_c]; cases binV op (x.sv e) (y.sv e) <;> rfl
  case eql neg kd x y => show qB s neg (peq kd (x.sv e) (y.sv e)) = aop [] s (.eql neg kd (.c (x.sv e)) (.c (y.sv e))); simp only [aop, ev_c]; cases peq kd (x.sv e) (y.sv e) <;> rfl
  case ext x i => show qExt s i (x.sv e) = aop [] s (.ext (.c (x.sv e)) i); simp only [aop, ev_c]; cases x.sv e <;> first | rfl | exact qNth_eq s _ _

/-- behind an operation -/
def qNext (f : Nat) (e : Sl) (ds : List D) (kd : Bool) (ro : Option Nat) (cs : List AF) (ops : Array Oper) (i : Nat) (o : Oper) (r : List Oper) (is : List I) (k : List T) : Option (V × St) → Option Cfg
  | some (v, s1) => some (⟨f, e.setD o.dst v, .reg ops (i + 1) r is :: k, ds, .run, kd, ro⟩, cs, s1)
  | none => none
def qOp (gt : Nat → Option V) (P : Program) (wf : Nat → Nat → Nat → Bool) (kn call : Cl) (f : Nat) (e : Sl) (ds : List D) (kd : Bool) (ro : Option Nat) (cs : List AF) (s : St) (ops : Array Oper) (i : Nat) (o : Oper) (r : List Oper) (x : I) (is : List I) (k : List T) : Option Cfg :=
  match x.k with
  | .a y => qNext f e ds kd ro cs ops i o r is k (aopQ e s y)
  | _ => stepA gt P wf kn call ⟨f, e, .reg ops i (o :: r) (x :: is) :: k, ds, .run, kd, ro⟩ cs s
def qW (gt : Nat → Option V) (P : Program) (wf : Nat → Nat → Nat → Bool) (kn call : Cl) (f : Nat) (e : Sl) (ds : List D) (kd : Bool) (ro : Option Nat) (cs : List AF) (s : St) (ops : Array Oper) (i : Nat) (o : Oper) (r : List Oper) (x : I) (is : List I) (k : List T) : Option Bool → Option Cfg
  | some true => qOp gt P wf kn call f e ds kd ro cs s ops i o r x is k
  | _ => stepA gt P wf kn call ⟨f, e, .reg ops i (o :: r) (x :: is) :: k, ds, .run, kd, ro⟩ cs s
def qK (gt : Nat → Option V) (P : Program) (wf : Nat → Nat → Nat → Bool) (kn call : Cl) (f : Nat) (e : Sl) (ds : List D) (kd : Bool) (ro : Option Nat) (cs : List AF) (s : St) (k : List T) : Option Cfg := match k with
  | .reg ops i (o :: r) (x :: is) :: k => qW gt P wf kn call f e ds kd ro cs s ops i o r x is k (wantedT e x.g)
  | k => stepA gt P wf kn call ⟨f, e, k, ds, .run, kd, ro⟩ cs s
def stepQ (gt : Nat → Option V) (P : Program) (wf : Nat → Nat → Nat → Bool) (kn call : Cl) : AF → List AF → St → Option Cfg
  | ⟨f, e, k, ds, md, kd, ro⟩, cs, s => match md with
    | .run => qK gt P wf kn call f e ds kd ro cs s k
    | md => stepA gt P wf kn call ⟨f, e, k, ds, md, kd, ro⟩ cs s
theorem stepQ_eq (gt : Nat → Option V) (P : Program) (wf : Nat → Nat → Nat → Bool) (kn call : Cl) (a : AF) (cs : List AF) (s : St) : stepQ gt P wf kn call a cs s = stepA gt P wf kn call a cs s := by
  obtain ⟨f, e, k, ds, md, kd, ro⟩ := a
  cases md <;> try rfl
  show qK gt P wf kn call f e ds kd ro cs s k = _
  unfold qK
  split
  · rename_i ops i o r x is k
    unfold qW
    split
    · rename_i hw
      unfold qOp
      split
      · rename_i y hy
        simp only [stepA, hw, hy, aopQ_eq]
        cases aopT e s y <;> rfl
      · rfl
    · rfl
  · rfl

/-- the first frame's result -/
def endA (P : Program) (f0 : Nat) : AF → List AF → St → Option (V × St)
  | ⟨f, e, _, ds, md, kd, _⟩, cs, s => match cs with
    | [] => match ds with
      | [] => match md with
        | .ret => match kd with
          | false => match Nat.beq f f0 with
            | true => match P.funcs[f]? with
              | none => none
              | some fn => match mapO (cRs P) fn.results.toList with
                | none => none
                | some rs => match resVT e s rs with
                  | none => none
                  | some vs => some (packV vs, s)
            | false => none
          | true => none
        | _ => none
      | _ => none
    | _ => none

/-- until the first frame has its result -/
def runA (gt : Nat → Option V) (P : Program) (wf : Nat → Nat → Nat → Bool) (kn call : Cl) (f0 : Nat) : Nat → AF → List AF → St → Option (V × St)
  | 0, _, _, _ => none
  | n + 1, fr, cs, s => match stepQ gt P wf kn call fr cs s with
    | some (fr', cs', s') => runA gt P wf kn call f0 n fr' cs' s'
    | none => endA P f0 fr cs s

/-- 'n': steps; then the depth of calls within regions that draw their order; 'kn': what is known of functions -/
def callA (gt : Nat → Option V) (P : Program) (wf : Nat → Nat → Nat → Bool) (kn : Cl) (n : Nat) : Nat → Cl
  | 0, _, _, _ => none
  | d + 1, f, args, s => match kn f args s with
    | some r => some r
    | none => match enterA P f args false with
      | some fr => runA gt P wf kn (callA gt P wf kn n d) f n fr [] s
      | none => none

end Rf
