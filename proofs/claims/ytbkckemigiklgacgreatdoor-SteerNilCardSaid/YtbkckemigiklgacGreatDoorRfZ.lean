/-
  The abstract machine that goes step by step: frames, what is put off, panics, rounds of loops over functions. Definitions.
-/
import Derived.Test.YtbkckemigiklgacGreatDoorRfXa
set_option linter.all false
set_option linter.unusedSimpArgs false
namespace Rf
open Go

/-- what is put off: a call; the calls that a block of a loop holds -/
inductive D where
  | f (g : Nat) (args : List V)
  | col (l : Nat)
  deriving Inhabited

/-- what is to be done in a frame -/
inductive T where
  | c (c : Code)
  | blk (id : Nat)
  | lp (c : Code)
  | reg (ops : Array Oper) (i : Nat) (r : List Oper) (is : List I)
  | rf (l : Nat)
  | erf (l : Nat)
  | br

inductive Md where
  | run
  | ret
  | pan (ch : List (V × Bool))

structure AF where
  f : Nat
  e : Sl
  k : List T
  ds : List D
  md : Md
  kd : Bool
  ro : Option Nat

abbrev Cfg := AF × List AF × St

def exitA (id : Nat) : List T → Option (List T)
  | .blk id' :: k => if id' = id then some k else exitA id k
  | _ :: k => exitA id k
  | [] => none

/-- a value comes into a frame -/
def finA (c : AF) (v : V) : Option AF :=
  match c.k with
  | .reg ops i (o :: r) (_ :: is) :: k => some { c with e := c.e.setD o.dst v, k := .reg ops (i + 1) r is :: k }
  | .rf l :: k => some { c with k := .erf l :: k }
  | .br :: k => some { c with k := k }
  | _ => none

def raiseA (c : AF) (ch : List (V × Bool)) : AF :=
  match c.md with
  | .pan old => { c with md := .pan (ch ++ old) }
  | _ => { c with md := .pan ch }

def settleA : Md → Md
  | .pan ((_, true) :: _) => .ret
  | m => m

/-- back to the caller -/
def backA (kd : Bool) (c : AF) (v : V) : Option AF :=
  match kd with
  | false => finA c v
  | true => some { c with md := settleA c.md }

def enterA (P : Program) (f : Nat) (args : List V) (kd : Bool) : Option AF :=
  match P.funcs[f]? with
  | none => none
  | some fn => match fn.body with
    | none => none
    | some b => if fn.name != "runtime.NumGoroutine" then some { f := f, e := Sl.of args fn.ntmps, k := [.c b], ds := [], md := .run, kd := kd, ro := none } else none

def setPs (e : Sl) : List Nat → List V → Option Sl
  | [], [] => some e
  | p :: ps, v :: vs => setPs (e.set p v) ps vs
  | _, _ => none

def recoverA (top : AF) (cs : List AF) : Option (V × List AF) :=
  match top.kd with
  | true => match cs with
    | c :: r => match c.md with
      | .pan ((v, false) :: old) => some (v, { c with md := .pan ((v, true) :: old) } :: r)
      | _ => some (.ni, cs)
    | [] => none
  | false => some (.ni, cs)

def isDef : Op → Bool
  | .defer _ => true
  | _ => false

/-- the panic's value -/
def panA (fr : AF) (cs : List AF) (s : St) (v : V) : Option Cfg :=
  match v with
  | .ifc t v => some (raiseA fr [(.ifc t v, false)], cs, s)
  | _ => none

/-- the receiver of a promoted method: through fields that lie in the value itself -/
def pathA (P : Program) : List FieldStep → Nat → V → Option (Nat × V)
  | [], t, v => some (t, v)
  | st :: r, _, v => match st.deref, P.underlying st.struct, v with
    | false, some (.struct fs), .ag cs => match fs[st.index]? with
      | some fd => match agP P fd.type, cs[fd.offset]? with
        | some false, some u => pathA P r fd.type u
        | _, _ => none
      | none => none
    | _, _, _ => none

/-- operations that are no operations of regions -/
def specA (gt : Nat → Option V) (P : Program) (fr : AF) (cs : List AF) (s : St) (o : Oper) : Option Cfg :=
  match o.op with
  | .defer c => match fr.ro, c.callee with
    | none, .value x => match cArg gt x, mapO (cArg gt) c.args.toList with
      | some x, some l => match x.sv fr.e with
        | .fn g cap => (finA fr unV).map fun n => ({ n with ds := .f g (l.map (·.sv fr.e) ++ cap) :: n.ds }, cs, s)
        | _ => none
      | _, _ => none
    | _, _ => none
  | .panic x => match cArg gt x with
    | some x => panA fr cs s (x.sv fr.e)
    | none => none
  | .call c => match c.callee with
    | .builtin .panic => match c.args.toList with
      | [x] => match cArg gt x with
        | some x => panA fr cs s (x.sv fr.e)
        | none => none
      | _ => none
    | .builtin .recover => match fr.ro, recoverA fr cs with
      | none, some (v, cs') => (finA fr v).map fun fr => (fr, cs', s)
      | _, _ => none
    | .invoke x m => match cArg gt x, mapO (cArg gt) c.args.toList with
      | some x, some l => match x.sv fr.e with
        | .ifc t v => match P.info? t with
          | some info => match info.methods.find? (·.name == m) with
            | some mt => match pathA P mt.path.toList t v, mt.func with
              | some (t1, v1), some (f, ptr) => match P.underlying t1, ptr with
                | some (.pointer _), true => (enterA P f (v1 :: l.map (·.sv fr.e)) false).map fun n => (n, fr :: cs, s)
                | some (.pointer _), false => none
                | some _, false => (enterA P f (v1 :: l.map (·.sv fr.e)) false).map fun n => (n, fr :: cs, s)
                | _, _ => none
              | _, _ => none
            | none => none
          | none => none
        | _ => none
      | _, _ => none
    | _ => none
  | _ => none

/-- a jump that waits -/
def pendA (p : Option Code) (k : List T) : List T := match p with
  | some c => .c c :: k
  | none => k

def wantedA (e : Sl) (g : Option (Nat × Bool)) : Option Bool := wantedT e g

/-- out of a round: by which jump -/
def roundEnd (fr : AF) (cs : List AF) (s : St) (l : Nat) (jump : Option Code) : Option Cfg :=
  match s.get l, cs with
  | some (.x (.lp _ _ f e ps as bd ds)), c :: r =>
    (backA fr.kd c (.b jump.isNone)).map fun c => (c, r, s.put l (some (.x (.lp (if jump.isNone then .ready else .done) jump f e ps as bd ds))))
  | _, _ => none

/-- nothing is put off: back to the caller -/
def lastA (P : Program) (f : Nat) (e : Sl) (md : Md) (kd : Bool) (ro : Option Nat) (c : AF) (r : List AF) (s : St) : Option Cfg :=
  match md with
  | .pan ch => some (raiseA c ch, r, s)
  | .ret => match ro with
    | some _ => none
    | none => match P.funcs[f]? with
      | none => none
      | some fn => match mapO (cRs P) fn.results.toList with
        | none => none
        | some rs => match resVT e s rs with
          | none => none
          | some vs => (backA kd c (packV vs)).map fun c => (c, r, s)
  | .run => none

def stepA (gt : Nat → Option V) (P : Program) (wf : Nat → Nat → Nat → Bool) (kn call : Cl) : AF → List AF → St → Option Cfg
  | ⟨f, e, k, ds, md, kd, ro⟩, cs, s =>
  match md with
  | .run => match k with
    | [] => match ro with
      | none => some (⟨f, e, k, ds, .ret, kd, ro⟩, cs, s)
      | some l => roundEnd ⟨f, e, k, ds, md, kd, ro⟩ cs s l none
    | .c c :: k => match c with
      | .ret => match ro with
        | none => some (⟨f, e, .c .ret :: k, ds, .ret, kd, ro⟩, cs, s)
        | some l => roundEnd ⟨f, e, .c c :: k, ds, md, kd, ro⟩ cs s l (some .ret)
      | .skip => some (⟨f, e, k, ds, md, kd, ro⟩, cs, s)
      | .seq a b => some (⟨f, e, .c a :: .c b :: k, ds, md, kd, ro⟩, cs, s)
      | .cond x a b => match cArg gt x with
        | some x => match x.sv e with
          | .b true => some (⟨f, e, .c a :: k, ds, md, kd, ro⟩, cs, s)
          | .b false => some (⟨f, e, .c b :: k, ds, md, kd, ro⟩, cs, s)
          | _ => none
        | none => none
      | .block id a => some (⟨f, e, .c a :: .blk id :: k, ds, md, kd, ro⟩, cs, s)
      | .loop a => some (⟨f, e, .c a :: .lp a :: k, ds, md, kd, ro⟩, cs, s)
      | .exit id => match exitA id k with
        | some k => some (⟨f, e, k, ds, md, kd, ro⟩, cs, s)
        | none => match ro with
          | none => none
          | some l => roundEnd ⟨f, e, .c c :: k, ds, md, kd, ro⟩ cs s l (some (.exit id))
      | .region id ops draw => match cOps gt P (wf f id) ops 0 ops.toList with
        | some is => match draw with
          | false => some (⟨f, e, .reg ops 0 ops.toList is :: k, ds, md, kd, ro⟩, cs, s)
          | true => if ops.toList.any (fun o => isDef o.op) then none else match cDrw ops.toList is with
            | some l => match evDrwT call [] l e s with
              | some (e', s') => some (⟨f, e', k, ds, md, kd, ro⟩, cs, s')
              | none => none
            | none => match anyA call ops.toList is e s with
              | some (e', s') => some (⟨f, e', k, ds, md, kd, ro⟩, cs, s')
              | none => none
        | none => none
      | .rangeFunc g ps as bd => match ro, cArg gt g with
        | none, some x => match x.sv e with
          | .fn g cap =>
            (enterA P g (.yl (s.n + 1) :: cap) false).map fun n =>
              (n, ⟨f, e, .rf (s.n + 1) :: k, .col s.n :: ds, md, kd, ro⟩ :: cs, (s.new (.x (.df false))).new (.x (.lp .ready none f e ps.toList as bd s.n)))
          | _ => none
        | some l0, some x => match x.sv e, s.get l0 with
          | .fn g cap, some (.x (.lp _ _ _ _ _ _ _ d0)) =>
            (enterA P g (.yl s.n :: cap) false).map fun n =>
              (n, ⟨f, e, .rf s.n :: k, ds, md, kd, ro⟩ :: cs, s.new (.x (.lp .ready none f e ps.toList as bd d0)))
          | _, _ => none
        | _, _ => none
      | _ => none
    | .blk _ :: k => some (⟨f, e, k, ds, md, kd, ro⟩, cs, s)
    | .lp a :: k => some (⟨f, e, .c a :: .lp a :: k, ds, md, kd, ro⟩, cs, s)
    | .reg ops i (o :: r) (x :: is) :: k => match wantedT e x.g with
      | some true => match x.k with
        | .a y => match aopT e s y with
          | some (v, s1) => some (⟨f, e.setD o.dst v, .reg ops (i + 1) r is :: k, ds, md, kd, ro⟩, cs, s1)
          | none => none
        | .call g args => match kn g (args.map (·.sv e)) s with
          | some (v, s1) => some (⟨f, e.setD o.dst v, .reg ops (i + 1) r is :: k, ds, md, kd, ro⟩, cs, s1)
          | none => (enterA P g (args.map (·.sv e)) false).map fun n => (n, ⟨f, e, .reg ops i (o :: r) (x :: is) :: k, ds, md, kd, ro⟩ :: cs, s)
        | .callv fa args => match fa.sv e with
          | .fn g cap => (enterA P g (args.map (·.sv e) ++ cap) false).map fun n => (n, ⟨f, e, .reg ops i (o :: r) (x :: is) :: k, ds, md, kd, ro⟩ :: cs, s)
          | .yl l => match s.get l with
            | some (.x (.lp _ _ f1 e1 ps as bd _)) => match setPs e1 ps (args.map (·.sv e)) with
              | some e2 => some (⟨f1, e2, [.c as, .br, .c bd], [], .run, false, some l⟩, ⟨f, e, .reg ops i (o :: r) (x :: is) :: k, ds, md, kd, ro⟩ :: cs, s)
              | none => none
            | _ => none
          | _ => none
        | .bad => specA gt P ⟨f, e, .reg ops i (o :: r) (x :: is) :: k, ds, md, kd, ro⟩ cs s o
      | some false => some (⟨f, e.setD o.dst unV, .reg ops (i + 1) r is :: k, ds, md, kd, ro⟩, cs, s)
      | none => none
    | .reg _ _ [] _ :: k => some (⟨f, e, k, ds, md, kd, ro⟩, cs, s)
    | .reg _ _ _ _ :: _ => none
    | .rf _ :: _ => none
    | .erf l :: k => match s.get l with
      | some (.x (.lp st pend f1 e1 ps as bd d0)) => match st with
        | .busy => none
        | _ => some (⟨f, e, pendA pend k, ds, md, kd, ro⟩, cs, s.put l (some (.x (.lp .exhausted pend f1 e1 ps as bd d0))))
      | _ => none
    | .br :: k => match ro with
      | some l => match s.get l with
        | some (.x (.lp .ready pend f1 e1 ps as bd d0)) => some (⟨f, e, k, ds, md, kd, ro⟩, cs, s.put l (some (.x (.lp .busy pend f1 e1 ps as bd d0))))
        | _ => none
      | none => none
  | md => match ds with
    | .col b :: ds => match s.get b with
      | some (.x (.df false)) => some (⟨f, e, k, ds, md, kd, ro⟩, cs, s.put b (some (.x (.df true))))
      | _ => none
    | .f g args :: ds => (enterA P g args true).map fun n => (n, ⟨f, e, k, ds, md, kd, ro⟩ :: cs, s)
    | [] => match cs with
      | c :: r => lastA P f e md kd ro c r s
      | [] => none

/-- the first frame's result -/
def endA (P : Program) (f0 : Nat) : AF → List AF → St → Option (V × St)
  | ⟨f, e, _, ds, md, kd, _⟩, cs, s => match cs with
    | [] => match ds with
      | [] => match md with
        | .ret => match kd with
          | false => match Nat.beq f f0 with
            | true => match P.funcs[f]? with
              | none => none
              | some fn => match mapO (cRs P) fn.results.toList with
                | none => none
                | some rs => match resVT e s rs with
                  | none => none
                  | some vs => some (packV vs, s)
            | false => none
          | true => none
        | _ => none
      | _ => none
    | _ => none

/-- until the first frame has its result -/
def runA (gt : Nat → Option V) (P : Program) (wf : Nat → Nat → Nat → Bool) (kn call : Cl) (f0 : Nat) : Nat → AF → List AF → St → Option (V × St)
  | 0, _, _, _ => none
  | n + 1, fr, cs, s => match stepA gt P wf kn call fr cs s with
    | some (fr', cs', s') => runA gt P wf kn call f0 n fr' cs' s'
    | none => endA P f0 fr cs s

/-- 'n': steps; then the depth of calls within regions that draw their order; 'kn': what is known of functions -/
def callA (gt : Nat → Option V) (P : Program) (wf : Nat → Nat → Nat → Bool) (kn : Cl) (n : Nat) : Nat → Cl
  | 0, _, _, _ => none
  | d + 1, f, args, s => match kn f args s with
    | some r => some r
    | none => match enterA P f args false with
      | some fr => runA gt P wf kn (callA gt P wf kn n d) f n fr [] s
      | none => none

end Rf
