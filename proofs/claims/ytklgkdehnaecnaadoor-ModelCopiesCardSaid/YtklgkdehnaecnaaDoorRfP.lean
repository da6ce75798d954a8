/-
  From the model's code to the intermediate code.
-/
import Derived.Test.YtklgkdehnaecnaaDoorRfA
import Derived.Laws.Sem
set_option linter.all false
namespace Rf
open Go

def mapO {α β : Type} (f : α → Option β) : List α → Option (List β)
  | [] => some []
  | a :: r => match f a, mapO f r with
    | some b, some bs => some (b :: bs)
    | _, _ => none

theorem mapO_get {α β : Type} (f : α → Option β) : ∀ (l : List α) (m : List β), mapO f l = some m → m.length = l.length ∧ ∀ (i : Nat) (a : α), l[i]? = some a → ∃ b, f a = some b ∧ m[i]? = some b
  | [], m, h => by simp [mapO] at h; subst h; simp
  | a :: r, m, h => by
    simp only [mapO] at h
    split at h
    · rename_i b bs h1 h2
      cases h
      obtain ⟨e1, e2⟩ := mapO_get f r bs h2
      refine ⟨by simp [e1], fun i x hx => ?_⟩
      cases i with
      | zero => simp at hx; subst hx; exact ⟨b, h1, by simp⟩
      | succ i => simpa using e2 i x (by simpa using hx)
    · cases h

/-- a constant -/
def cst : Nat → Value → Option V
  | 0, _ => none
  | n + 1, v => match v with
    | .bool b => some (.b b)
    | .int k x => some (.i k x)
    | .string s => some (.s s.data.toList)
    | .pointer none => some .np
    | .slice none 0 0 => some .ns
    | .map none => some .nm
    | .func (.func f) a c => if a.size = 0 ∧ c.size = 0 then some (.fn f []) else none
    | .nilFunc => some .nf
    | .nilIface => some .ni
    | .iface t v => (cst n v).map (.ifc t)
    | .agg cs => if cs.toList.all (·.oneCell') then (mapO (cst n) cs.toList).map .ag else none
    | _ => none

def cArg (gt : Nat → Option V) : Operand → Option Arg
  | .tmp t => some (.t t)
  | .const v => (cst 8 v).map .c
  | .func f => some (.c (.fn f []))
  | .global g => (gt g).map fun v => .c (.q v 0)

def cOpt (gt : Nat → Option V) : Option Operand → Option (Option Arg)
  | none => some none
  | some x => (cArg gt x).map some

def szP (P : Program) (t : TypeId) : Option Nat := (P.info? t).map (·.size)
def byP (P : Program) (t : TypeId) : Option Nat := (P.info? t).map (·.bytes)
def agP (P : Program) (t : TypeId) : Option Bool := (P.underlying t).map fun | .struct _ | .array _ _ => true | _ => false
/-- the zero value's cells -/
def zeroP (P : Program) (t : TypeId) : Option (List V) :=
  match (P.info? t).bind (·.zero) with
  | some v => if v.cells.toList.all (·.oneCell') then mapO (cst 8) v.cells.toList else none
  | none => none

/-- is a type's equality that of its cells one by one? their kinds -/
def eqFs (go : TypeId → Option (List LK)) (P : Program) : Nat → List Field → Option (List LK)
  | _, [] => some []
  | o, f :: r => match go f.type with
    | some ks => if f.name ≠ "_" ∧ f.offset = o ∧ szP P f.type = some ks.length then (eqFs go P (o + ks.length) r).map (ks ++ ·) else none
    | none => none
def eqTy (P : Program) : Nat → TypeId → Option (List LK)
  | 0, _ => none
  | d + 1, t => match P.underlying t with
    | some .bool => some [.b]
    | some (.int _) => some [.i]
    | some .string => some [.s]
    | some (.struct fs) => if P.stoodInHeld t then none else eqFs (eqTy P d) P 0 fs.toList
    | _ => none

/-- a type's zero value -/
def zeroV (P : Program) (t : TypeId) : Option V := ((P.info? t).bind (·.zero)).bind (cst 8)
/-- how a map's keys are held against each other -/
def kkP (P : Program) (t : TypeId) : Option KK :=
  match P.underlying t with
  | some .bool => some .b
  | some (.int _) => some .i
  | some .string => some .s
  | some (.struct _) => (eqTy P 20 t).map .g
  | _ => none

def isCn : Operand → Bool
  | .const _ => true
  | _ => false

/-- how two values of the type are held against each other here -/
def eqK (P : Program) (t : TypeId) (x y : Operand) : Option EK :=
  match P.underlying t with
  | some .bool => some .b
  | some (.int _) => some .n
  | some .string => some .n
  | some (.struct _) => match eqTy P 20 t with
    | some ks => if !P.eqGuardType P.depth t then some (.g ks) else none
    | none => none
  | some (.pointer e) => match szP P e with
    | some n => if n ≠ 0 then some .p else none
    | none => none
  | some (.slice _) => some .s
  | some (.map ..) => some .m
  | some (.func ..) => some .f
  | some (.interface _) => if isCn x || isCn y then some .i else none
  | _ => none

/-- parts: index, operand ↦ place, size, argument -/
def cParts (gt : Nat → Option V) (pl : Nat → Option (Nat × Nat)) : List (Nat × Operand) → Option (List (Nat × Nat × Arg))
  | [] => some []
  | (i, x) :: r => match pl i, cArg gt x, cParts gt pl r with
    | some (o, n), some x, some r => some ((o, n, x) :: r)
    | _, _, _ => none

def fieldPl (P : Program) (fs : Array Field) : Nat → Option (Nat × Nat) := fun i =>
  match fs[i]? with
  | some f => (szP P f.type).map fun n => (f.offset, n)
  | none => none

def isNeq : BinOp → Bool
  | .neq => true
  | _ => false

def isBin : BinOp → Bool
  | .eql | .neq => false
  | _ => true

def isSrc : TypeDesc → Bool
  | .slice _ => true
  | .string => true
  | _ => false

def cB (gt : Nat → Option V) (P : Program) (w : Bool) (b : Builtin) (ts : List TypeId) (args : List Operand) : Option A :=
  match b with
  | .append => match ts, args with
    | [t, t2], [x, y] => match P.underlying t, cArg gt x, cArg gt y with
      | some (.slice el), some x, some y => match szP P el, agP P el, byP P el, zeroP P el, P.underlying t2 with
        | some sz, some ag, some by_, some z, some d2 => if 0 < sz ∧ z.length = sz ∧ (ag = true ∨ sz = 1) ∧ isSrc d2 = true then some (.app el w ag sz by_ x y) else none
        | _, _, _, _, _ => none
      | _, _, _ => none
    | _, _ => none
  | .copy => match ts, args with
    | [t, _], [x, y] => match P.underlying t, cArg gt x, cArg gt y with
      | some (.slice el), some x, some y => match szP P el with
        | some sz => if 0 < sz then some (.cpy sz x y) else none
        | none => none
      | _, _, _ => none
    | _, _ => none
  | .min => match args with
    | [x, y] => match cArg gt x, cArg gt y with
      | some x, some y => some (.mmx false x y)
      | _, _ => none
    | _ => none
  | .max => match args with
    | [x, y] => match cArg gt x, cArg gt y with
      | some x, some y => some (.mmx true x y)
      | _, _ => none
    | _ => none
  | .len => match ts, args with
    | [t], [x] => match P.underlying t, cArg gt x with
      | some (.slice _), some x => some (.len x)
      | some .string, some x => some (.lenS x)
      | some (.map _ _), some x => some (.ym .mlen [x])
      | _, _ => none
    | _, _ => none
  | .delete => match ts, args with
    | [t, _], [x, y] => match P.underlying t, cArg gt x, cArg gt y with
      | some (.map kt _), some x, some y => (kkP P kt).map fun kk => .ym (.mdel kk) [x, y]
      | _, _, _ => none
    | _, _ => none
  | .clear => match ts, args with
    | [t], [x] => match P.underlying t, cArg gt x with
      | some (.map _ _), some x => some (.ym .mclr [x])
      | some (.slice el), some x => (zeroP P el).map fun z => .ym (.sclr z) [x]
      | _, _ => none
    | _, _ => none
  | .unsafeSliceData => match args with
    | [x] => (cArg gt x).map .usd
    | _ => none
  | .unsafeString => match ts, args with
    | [t, _], [x, n] => match P.underlying t, cArg gt x, cArg gt n with
      | some (.pointer el), some x, some n => if szP P el = some 1 then some (.ustr el x n) else none
      | _, _, _ => none
    | _, _ => none
  | _ => none

def cA (gt : Nat → Option V) (P : Program) (w : Bool) : Op → Option A
  | .move x => (cArg gt x).map .mov
  | .assign x => (cArg gt x).map .mov
  | .pick c a b => match cArg gt c, cArg gt a, cArg gt b with
    | some c, some a, some b => some (.pick c a b)
    | _, _, _ => none
  | .alloc t => (zeroP P t).map (.alloc t)
  | .box t x => (cArg gt x).map (.box t w)
  | .build t ps => match P.underlying t, zeroP P t with
    | some (.struct fs), some z => if fs.toList.all (fun f => (szP P f.type).isSome) then (cParts gt (fieldPl P fs) ps.toList).map (.build z) else none
    | some (.array _ el), some z => match szP P el with
      | some n => (cParts gt (fun i => some (i * n, n)) ps.toList).map (.build z)
      | none => none
    | _, _ => none
  | .buildSlice t n ps => match P.underlying t with
    | some (.slice el) => match szP P el, agP P el, zeroP P el with
      | some sz, some ag, some z => if 0 < sz ∧ z.length = sz ∧ n * sz ≤ 16777216 ∧ (ag = true ∨ sz = 1) then (cParts gt (fun i => some (i * sz, sz)) ps.toList).map (.bsl el w ag n sz z) else none
      | _, _, _ => none
    | _ => none
  | .load t a => match agP P t, szP P t, cArg gt a with
    | some true, some n, some a => some (.loadn n a)
    | some false, some _, some a => some (.load1 a)
    | _, _, _ => none
  | .store t a v => match szP P t, cArg gt a, cArg gt v with
    | some n, some a, some v => some (.store n a v)
    | _, _, _ => none
  | .nilCheck x => (cArg gt x).map .nilc
  | .binOp op t x y _ => match cArg gt x, cArg gt y with
    | some x', some y' =>
      if isBin op then some (.bin op x' y')
      else (eqK P t x y).map fun kd => .eql (isNeq op) kd x' y'
    | _, _ => none
  | .unOp .not _ x => (cArg gt x).map .not
  | .unOp .neg _ x => (cArg gt x).map .neg
  | .unOp .xor _ x => (cArg gt x).map .xr
  | .convert s d x => match P.underlying s, P.underlying d, cArg gt x with
    | some (.int _), some (.int k), some x => some (.conv k x)
    | some .string, some .string, some x => some (.movS x)
    | some .string, some (.slice e), some x => if (P.underlying e matches some (.int .u8)) then some (.s2b e w x) else none
    | some (.slice e), some .string, some x => if (P.underlying e matches some (.int .u8)) then some (.b2s x) else none
    | some (.pointer t), some .unsafePointer, some x => match szP P t with
      | some n => if n ≠ 0 then some (.u1 x) else none
      | none => none
    | some .unsafePointer, some (.pointer t), some x => match szP P t with
      | some n => if n ≠ 0 then some (.u2 t n x) else none
      | none => none
    | _, _, _ => none
  | .fieldAddr t x f => match P.underlying t, cArg gt x with
    | some (.struct fs), some x => match fs[f]? with
      | some fd => match szP P fd.type with
        | some n => if n ≠ 0 then some (.fa fd.offset x) else none
        | none => none
      | none => none
    | _, _ => none
  | .field t x f => match P.underlying t, cArg gt x with
    | some (.struct fs), some x => match fs[f]? with
      | some fd => match agP P fd.type, szP P fd.type with
        | some true, some n => some (.fld fd.offset (some n) x)
        | some false, some _ => some (.fld fd.offset none x)
        | _, _ => none
      | none => none
    | _, _ => none
  | .indexAddr t x i => match P.underlying t, cArg gt x, cArg gt i with
    | some (.slice el), some x, some i => match szP P el with
      | some n => if 0 < n then some (.ia n x i) else none
      | none => none
    | some (.array len el), some x, some i => match szP P el with
      | some n => if 0 < n then some (.iaA n len x i) else none
      | none => none
    | _, _, _ => none
  | .index t x i => match P.underlying t, cArg gt x, cArg gt i with
    | some (.array len el), some x, some i => match szP P el, agP P el with
      | some n, some ag => some (.idxA n ag len x i)
      | _, _ => none
    | some .string, some x, some i => some (.idxS x i)
    | _, _, _ => none
  | .extract x i => (cArg gt x).map fun x => .ext x i
  | .makeSlice t n c => match P.underlying t, cArg gt n, cArg gt c with
    | some (.slice el), some n, some c => match szP P el, byP P el, zeroP P el with
      | some sz, some by_, some z => if 0 < sz ∧ z.length = sz then some (.mks el sz by_ z n c) else none
      | _, _, _ => none
    | _, _, _ => none
  | .slice t x l h m => match P.underlying t, cArg gt x, cOpt gt l, cOpt gt h, cOpt gt m with
    | some (.slice el), some x, some l, some h, some m => match szP P el with
      | some n => if 0 < n then some (.slc n x l h m) else none
      | none => none
    | some .string, some x, some l, some h, some none => some (.slS x l h)
    | some (.array len el), some x, some l, some h, some m => match szP P el with
      | some n => if 0 < n then some (.slA n len x l h m) else none
      | none => none
    | _, _, _, _, _ => none
  | .makeFunc (.func f) first cap => if first.size ≠ 0 then none else (mapO (cArg gt) cap.toList).map (.mkf f)
  | .makeInterface t x => match P.underlying t with
    | some (.interface _) => none
    | some _ => (cArg gt x).map (.mki t)
    | none => none
  | .call c => match c.callee with
    | .builtin b => cB gt P w b c.argTypes.toList c.args.toList
    | _ => none
  | .makeMap t r => match P.underlying t, cOpt gt r with
    | some (.map _ _), some r => some (.ym .mkm r.toList)
    | _, _ => none
  | .lookup t m k ok => match P.underlying t, cArg gt m, cArg gt k with
    | some (.map kt et), some m, some k => match kkP P kt, zeroV P et with
      | some kk, some z => some (.ym (.look kk ok z) [m, k])
      | _, _ => none
    | _, _, _ => none
  | .mapUpdate t m k x => match P.underlying t, cArg gt m, cArg gt k, cArg gt x with
    | some (.map kt _), some m, some k, some x => (kkP P kt).map fun kk => .ym (.upd kk) [m, k, x]
    | _, _, _, _ => none
  | .insert t m k x => match P.underlying t, cArg gt m, cArg gt k, cArg gt x with
    | some (.map kt _), some m, some k, some x => (kkP P kt).map fun kk => .ym (.upd kk) [m, k, x]
    | _, _, _, _ => none
  | .mapEntry t m k => match P.underlying t, cArg gt m, cArg gt k with
    | some (.map kt et), some m, some k => match kkP P kt, zeroV P et with
      | some kk, some z => some (.ym (.ent kk z) [m, k])
      | _, _ => none
    | _, _, _ => none
  | .entryStore _ m b x => match cArg gt m, cArg gt b, cArg gt x with
    | some m, some b, some x => some (.ym .ens [m, b, x])
    | _, _, _ => none
  | .range t x => match P.underlying t, cArg gt x with
    | some (.map _ _), some x => some (.ym .rng [x])
    | _, _ => none
  | .next x false => (cArg gt x).map fun x => .ym .nxt [x]
  | .entry x => (cArg gt x).map fun x => .ym .ery [x]
  | .typeAssert x _ t ok => match P.underlying t, cArg gt x with
    | some (.interface _), _ => none
    | some _, some x => (match ok with
      | true => (zeroV P t).map fun z => .ym (.ta t true z) [x]
      | false => some (.ym (.ta t false .ni) [x]))
    | _, _ => none
  | _ => none

/-- has the function a body, and is it no function of the model's own? -/
def callOk (P : Program) (f : FuncId) : Bool :=
  match P.funcs[f]? with
  | some fn => fn.body.isSome && fn.name != "runtime.NumGoroutine"
  | none => false

/-- functions of the model's own -/
def cX (gt : Nat → Option V) (P : Program) (f : FuncId) (args : List Operand) : Option A :=
  match P.funcs[f]? with
  | some fn => if fn.body.isNone && (fn.origin == "" || fn.origin == fn.name) then
      (if fn.name == "internal/abi.NoEscape" then (match args with | [x] => (cArg gt x).map .mov | _ => none)
      else if fn.name == "internal/bytealg.CountString" then (match args with | [x, c] => (match cArg gt x, cArg gt c with | some x, some c => some (.cnt x c) | _, _ => none) | _ => none)
      else if fn.name == "internal/bytealg.IndexByteString" then (match args with | [x, c] => (match cArg gt x, cArg gt c with | some x, some c => some (.ixb x c) | _, _ => none) | _ => none)
      else if fn.name == "maps.clone" then (match args with | [x] => (cArg gt x).map fun x => .ym .mcl [x] | _ => none)
      else none) else none
  | none => none

def orBad (o : Option K) : K := o.getD .bad

def cK (gt : Nat → Option V) (P : Program) (w : Bool) (o : Op) : K :=
  match o with
  | .call c => match c.callee with
    | .value (.func f) => if callOk P f then orBad ((mapO (cArg gt) c.args.toList).map (.call f)) else orBad ((cX gt P f c.args.toList).map .a)
    | .value (.const (.func (.func f) a b)) => if callOk P f ∧ a.size = 0 ∧ b.size = 0 then orBad ((mapO (cArg gt) c.args.toList).map (.call f)) else .bad
    | .value (.tmp t) => orBad ((mapO (cArg gt) c.args.toList).map (.callv (.t t)))
    | _ => orBad ((cA gt P w o).map .a)
  | _ => orBad ((cA gt P w o).map .a)

def cI (gt : Nat → Option V) (P : Program) (w : Bool) (ops : Array Oper) (o : Oper) : Option I :=
  match o.guard with
  | none => some { d := o.dst, g := none, k := cK gt P w o.op }
  | some (j, b) => match (ops[j]?).bind (·.dst) with
    | some t => some { d := o.dst, g := some (t, b), k := cK gt P w o.op }
    | none => none

/-- 'w': which operations of which regions make what is immutable -/
def cOps (gt : Nat → Option V) (P : Program) (w : Nat → Bool) (ops : Array Oper) : Nat → List Oper → Option (List I)
  | _, [] => some []
  | i, o :: r => match cI gt P (w i) ops o, cOps gt P w ops (i + 1) r with
    | some x, some xs => some (x :: xs)
    | _, _ => none

/-! regions that draw their order -/
/-- 0: neither reads nor changes the heap; 1: reads it; 2: changes it -/
def Y.cls : Y → Nat
  | .look _ _ _ => 1
  | .mlen => 1
  | .ery => 1
  | .ta _ _ _ => 0
  | .tai _ _ => 0
  | .ieq _ _ => 0
  | _ => 2
def A.cls : A → Nat
  | .load1 _ => 1
  | .loadn _ _ => 1
  | .b2s _ => 1
  | .u1 _ => 1
  | .u2 _ _ _ => 1
  | .ustr _ _ _ => 2
  | .slc _ _ _ _ _ => 1
  | .slA _ _ _ _ _ _ => 1
  | .alloc _ _ => 2
  | .box _ w _ => if w then 0 else 2
  | .bsl _ w _ _ _ _ _ => if w then 0 else 2
  | .s2b _ w _ => if w then 0 else 2
  | .store _ _ _ => 2
  | .app _ _ _ _ _ _ _ => 2
  | .cpy _ _ _ => 2
  | .mks _ _ _ _ _ _ => 2
  | .ym n _ => n.cls
  | _ => 0
def K.cls : K → Nat
  | .a y => y.cls
  | _ => 2

def Arg.ts : Arg → List Nat
  | .t n => [n]
  | .c _ => []
def optTs : Option Arg → List Nat
  | some a => a.ts
  | none => []
def partTs (ps : List (Nat × Nat × Arg)) : List Nat := ps.flatMap fun p => p.2.2.ts

/-- the slots that an operation reads -/
def A.ts : A → List Nat
  | .mov x => x.ts
  | .pick c a b => c.ts ++ a.ts ++ b.ts
  | .alloc _ _ => []
  | .box _ _ x => x.ts
  | .build _ ps => partTs ps
  | .bsl _ _ _ _ _ _ ps => partTs ps
  | .load1 a => a.ts
  | .loadn _ a => a.ts
  | .store _ a v => a.ts ++ v.ts
  | .nilc x => x.ts
  | .bin _ x y => x.ts ++ y.ts
  | .eql _ _ x y => x.ts ++ y.ts
  | .not x => x.ts
  | .neg x => x.ts
  | .conv _ x => x.ts
  | .s2b _ _ x => x.ts
  | .b2s x => x.ts
  | .fa _ x => x.ts
  | .fld _ _ x => x.ts
  | .ia _ x i => x.ts ++ i.ts
  | .iaA _ _ x i => x.ts ++ i.ts
  | .idxA _ _ _ x i => x.ts ++ i.ts
  | .idxS x i => x.ts ++ i.ts
  | .ext x _ => x.ts
  | .len x => x.ts
  | .lenS x => x.ts
  | .movS x => x.ts
  | .app _ _ _ _ _ x y => x.ts ++ y.ts
  | .cpy _ x y => x.ts ++ y.ts
  | .mks _ _ _ _ n c => n.ts ++ c.ts
  | .slS x l h => x.ts ++ optTs l ++ optTs h
  | .slc _ x l h m => x.ts ++ optTs l ++ optTs h ++ optTs m
  | .slA _ _ x l h m => x.ts ++ optTs l ++ optTs h ++ optTs m
  | .mkf _ cap => cap.flatMap Arg.ts
  | .mki _ x => x.ts
  | .mmx _ x y => x.ts ++ y.ts
  | .xr x => x.ts
  | .u1 x => x.ts
  | .u2 _ _ x => x.ts
  | .usd x => x.ts
  | .ustr _ x n => x.ts ++ n.ts
  | .cnt x c => x.ts ++ c.ts
  | .ixb x c => x.ts ++ c.ts
  | .ym _ xs => xs.flatMap Arg.ts
def K.ts : K → List Nat
  | .a y => y.ts
  | .call _ args => args.flatMap Arg.ts
  | .callv f args => f.ts ++ args.flatMap Arg.ts
  | .bad => []
def I.ts (i : I) : List Nat :=
  (match i.g with | some (t, _) => [t] | none => []) ++ i.k.ts

/-- what comes before an operation, through any number of edges, as a mask -/
def maskOf (acc : List Nat) (es : List Edge) : Nat := es.foldl (fun m e => if Region.binds .any e then m ||| 2 ^ e.on ||| acc.getD e.on 0 else m) 0
def masks : List Oper → List Nat → List Nat
  | [], acc => acc
  | o :: r, acc => masks r (acc ++ [maskOf acc o.after.toList])
/-- each edge leads back -/
def backOk : Nat → List Oper → Bool
  | _, [] => true
  | i, o :: r => o.after.toList.all (fun e => !Region.binds .any e || decide (e.on < i)) && backOk (i + 1) r

/-- do two operations (the first stands ahead) have to keep their order? -/
def conf (x y : I) : Bool :=
  (match x.d with
    | some d => y.ts.contains d || y.d == some d
    | none => false) ||
  (match y.d with
    | some d => x.ts.contains d
    | none => false) ||
  (decide (y.k.cls = 2) && decide (1 ≤ x.k.cls))

/-- (number, operation): everything that has to keep its order does -/
def confOk (ms : List Nat) : List (Nat × I) → Bool
  | [] => true
  | (j, x) :: r => r.all (fun (k, y) => !conf x y || (ms.getD k 0).testBit j) && confOk ms r

/-- for each operation: how many of the last changes of the heap may come after it; 'hs': the numbers of the changes so far, the last one first -/
def backs (ms : List Nat) : List Nat → List (Nat × I) → Option (List (Nat × I))
  | _, [] => some []
  | hs, (k, y) :: r =>
    let b := (hs.takeWhile fun j => !(ms.getD k 0).testBit j).length
    if (hs.drop b).all (fun j => (ms.getD k 0).testBit j) then
      (backs ms (if y.k.cls = 2 then k :: hs else hs) r).map ((if y.k.cls = 1 then b else 0, y) :: ·)
    else if y.k.cls = 1 then none
    else (backs ms (if y.k.cls = 2 then k :: hs else hs) r).map ((0, y) :: ·)

/-- the order in which the abstract machine goes through: ahead of each change of the heap what it hangs on; the rest last -/
def canon (ms : List Nat) (l : List (Nat × I)) : List (Nat × I) :=
  let hs := l.filter fun x => x.2.k.cls = 2
  let out := hs.foldl (fun (out : List (Nat × I)) h => out ++ (l.filter fun x => !(out.any (·.1 == x.1)) && ((ms.getD h.1 0).testBit x.1 || x.1 == h.1))) []
  out ++ l.filter fun x => !(out.any (·.1 == x.1))

def numbered {α : Type} : Nat → List α → List (Nat × α)
  | _, [] => []
  | i, x :: r => (i, x) :: numbered (i + 1) r

/-- no number twice, all of them -/
def nodupB : List Nat → Bool
  | [] => true
  | x :: r => !r.contains x && nodupB r
def permOk (n : Nat) (l : List Nat) : Bool := nodupB l && l.all (fun i => decide (i < n)) && (List.range n).all fun i => l.contains i

def cDrw1 (ops : List Oper) (is : List I) : Option (List (Nat × I)) :=
  let ms := masks ops []
  let l := canon ms (numbered 0 is)
  if backOk 0 ops && permOk is.length (l.map (·.1)) && confOk ms l then backs ms [] l else none

/-- a new object and the one store of its whole: they hang on nothing but the value that is stored -/
structure TP where
  ia : Nat
  is : Nat
  t : Nat
  ty : Nat
  z : List V
  v : Arg
def TP.ai (p : TP) : I := { d := some p.t, g := none, k := .a (.alloc p.ty p.z) }
def TP.si (p : TP) : I := { d := none, g := none, k := .a (.store p.z.length (.t p.t) p.v) }

def pairAt (all : List (Nat × I)) (x : Nat × I) : Option TP :=
  match x.2.d, x.2.g, x.2.k with
  | some t, none, .a (.alloc ty z) =>
    match all.filter (fun y => y.2.ts.contains t), all.filter (fun y => y.2.d == some t) with
    | [(k, y)], [_] => match y.d, y.g, y.k with
      | none, none, .a (.store n (.t t') v) => if t' = t ∧ n = z.length ∧ v.ts.contains t = false then some ⟨x.1, k, t, ty, z, v⟩ else none
      | _, _, _ => none
    | _, _ => none
  | _, _, _ => none
def pairsOf (all : List (Nat × I)) : List (Nat × I) → List TP
  | [] => []
  | x :: r => match pairAt all x with
    | some p => p :: pairsOf all r
    | none => pairsOf all r

/-- what is done besides has nothing to do with them -/
def apart1 (ms : List Nat) (p : TP) (x : Nat × I) : Bool :=
  !(x.2.d == some p.t) && !(x.2.ts.contains p.t) && (match x.2.d with
    | some d => !(p.v.ts.contains d) || (ms.getD p.is 0).testBit x.1
    | none => true)
def isAllocO : Option Oper → Bool
  | some o => match o.op with
    | .alloc _ => true
    | _ => false
  | none => false
def isStoreO : Option Oper → Bool
  | some o => match o.op with
    | .store _ _ _ => true
    | _ => false
  | none => false
def tOk (ops : List Oper) (ms : List Nat) (lM : List (Nat × I)) (ps : List TP) : Bool :=
  ps.all (fun p => isAllocO ops[p.ia]? && isStoreO ops[p.is]?) && nodupB (ps.map (·.t)) && ps.all (fun p => ps.all (fun q => !(p.v.ts.contains q.t)) && (ms.getD p.is 0).testBit p.ia && lM.all (apart1 ms p))

def tNums (ps : List TP) : List Nat := ps.flatMap fun p => [p.ia, p.is]
def tOps (ps : List TP) : List (Nat × I) := ps.flatMap fun p => [(0, p.ai), (0, p.si)]

def cDrw2 (ops : List Oper) (is : List I) : Option (List (Nat × I)) :=
  let ms := masks ops []
  let all := numbered 0 is
  let ps := pairsOf all all
  let lM := canon ms (all.filter fun x => !((tNums ps).contains x.1))
  if backOk 0 ops && permOk is.length (lM.map (·.1) ++ tNums ps) && confOk ms lM && tOk ops ms lM ps then
    (backs ms [] lM).map (· ++ tOps ps)
  else none

def cDrw (ops : List Oper) (is : List I) : Option (List (Nat × I)) :=
  match cDrw1 ops is with
  | some l => some l
  | none => cDrw2 ops is

def cC (gt : Nat → Option V) (P : Program) (w : Nat → Nat → Bool) : Code → C
  | .skip => .skip
  | .region id ops draw => match cOps gt P (w id) ops 0 ops.toList with
    | some is => if draw then (match cDrw ops.toList is with | some l => .drw l | none => .bad) else .ops is
    | none => .bad
  | .seq a b => .seq (cC gt P w a) (cC gt P w b)
  | .cond c a b => match cArg gt c with
    | some c => .cond c (cC gt P w a) (cC gt P w b)
    | none => .bad
  | .block id a => .blk id (cC gt P w a)
  | .loop a => .loop (cC gt P w a)
  | .exit id => .exit id
  | .ret => .ret
  | _ => .bad

def cRs (P : Program) : ResultVar → Option Rs
  | .tmp t => some (.t t)
  | .cell a t => match agP P t, szP P t with
    | some true, some n => some (.cn a n)
    | some false, some _ => some (.c1 a)
    | _, _ => none

def cF (gt : Nat → Option V) (P : Program) (w : Nat → Nat → Bool) (f : FuncId) : Option F :=
  match P.funcs[f]? with
  | none => none
  | some fn => match fn.body with
    | none => none
    | some b => match mapO (cRs P) fn.results.toList with
      | some rs => some { np := fn.params.size, nt := fn.ntmps, body := cC gt P w b, res := rs }
      | none => none

end Rf
