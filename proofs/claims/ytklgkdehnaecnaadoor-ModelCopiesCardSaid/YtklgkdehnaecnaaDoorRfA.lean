/-
  The abstract machine: values that forget block numbers and capacities, an intermediate code, and its evaluator. Own work; nothing of a program stands here.
-/
import Derived.Calls
set_option linter.all false
namespace Rf
open Go

/-- What is known of an immutable slice's capacity: nothing; the number; a token (who holds it may append in place). -/
inductive Cap where
  | u
  | x (c : Nat)
  | t (k : Nat)
  | z
  deriving Inhabited, DecidableEq

inductive V where
  | bad
  | b (b : Bool)
  | i (k : IntKind) (n : Int)
  | s (l : List UInt8)
  | np
  | p (l o : Nat)
  | q (v : V) (o : Nat)
  | ns
  | sl (sz l o n : Nat) (c : Option Nat)
  | pu (sz : Nat) (xs : List V) (c : Cap)
  | nm
  | m (l : Nat)
  | fn (f : Nat) (cap : List V)
  | nf
  | ifc (t : Nat) (v : V)
  | ni
  | ag (cs : List V)
  | tu (vs : List V)
  | yl (l : Nat)
  | tp (b t : Nat)
  | se (sz l : Nat)
  deriving Inhabited

def V.cells : V → List V
  | .ag cs => cs
  | v => [v]

/-- a value that may lie in memory -/
def V.isVal : V → Bool
  | .tu _ => false
  | .bad => false
  | _ => true

def unV : V := .tu []

inductive Arg where
  | t (n : Nat)
  | c (v : V)
  deriving Inhabited

/-- kinds of cells that are held against each other -/
inductive LK where
  | b
  | i
  | s
  deriving Inhabited, DecidableEq

/-- of what is held against each other: ints or strings; bools; structs of so many cells; pointers, slices, interface values, functions, maps against nil -/
inductive EK where
  | n
  | b
  | g (ks : List LK)
  | p
  | s
  | i
  | f
  | m
  deriving Inhabited, DecidableEq

/-- how a map's keys are held against each other -/
inductive KK where
  | i
  | s
  | b
  | g (ks : List LK)
  deriving Inhabited

/-- operations on maps and interface values; their arguments stand in a list -/
inductive Y where
  | mkm
  | mcl
  | mclr
  | sclr (z : List V)
  | look (kk : KK) (ok : Bool) (z : V)
  | upd (kk : KK)
  | ent (kk : KK) (z : V)
  | ens
  | mlen
  | mdel (kk : KK)
  | rng
  | nxt
  | ery
  | ta (t : Nat) (ok : Bool) (z : V)
  | tai (has : List Nat) (ok : Bool)
  | ieq (neg : Bool) (ts : List (Nat × EK))
  deriving Inhabited

/-- Operations without a call. 'w' (where it stands): true: the result is immutable. -/
inductive A where
  | mov (x : Arg)
  | pick (c a b : Arg)
  | alloc (t : Nat) (z : List V)
  | box (t : Nat) (w : Bool) (x : Arg)
  | build (z : List V) (ps : List (Nat × Nat × Arg))
  | bsl (t : Nat) (w ag : Bool) (n sz : Nat) (z : List V) (ps : List (Nat × Nat × Arg))
  | load1 (a : Arg)
  | loadn (n : Nat) (a : Arg)
  | store (n : Nat) (a v : Arg)
  | nilc (x : Arg)
  | bin (op : BinOp) (x y : Arg)
  | eql (neg : Bool) (kd : EK) (x y : Arg)
  | not (x : Arg)
  | neg (x : Arg)
  | conv (k : IntKind) (x : Arg)
  | s2b (t : Nat) (w : Bool) (x : Arg)
  | b2s (x : Arg)
  | fa (off : Nat) (x : Arg)
  | fld (off : Nat) (n : Option Nat) (x : Arg)
  | ia (sz : Nat) (x i : Arg)
  | iaA (sz len : Nat) (x i : Arg)
  | idxA (sz : Nat) (ag : Bool) (len : Nat) (x i : Arg)
  | idxS (x i : Arg)
  | ext (x : Arg) (i : Nat)
  | len (x : Arg)
  | lenS (x : Arg)
  | movS (x : Arg)
  | app (t : Nat) (w ag : Bool) (sz bytes : Nat) (x y : Arg)
  | cpy (sz : Nat) (x y : Arg)
  | mks (t : Nat) (sz bytes : Nat) (z : List V) (n c : Arg)
  | slS (x : Arg) (l h : Option Arg)
  | slc (sz : Nat) (x : Arg) (l h m : Option Arg)
  | slA (sz len : Nat) (x : Arg) (l h m : Option Arg)
  | mkf (f : Nat) (cap : List Arg)
  | mki (t : Nat) (x : Arg)
  | mmx (max : Bool) (x y : Arg)
  | xr (x : Arg)
  | u1 (x : Arg)
  | u2 (t n : Nat) (x : Arg)
  | usd (x : Arg)
  | ustr (t : Nat) (x n : Arg)
  | cnt (x c : Arg)
  | ixb (x c : Arg)
  | ym (n : Y) (xs : List Arg)
  deriving Inhabited

inductive K where
  | a (a : A)
  | call (f : Nat) (args : List Arg)
  | callv (f : Arg) (args : List Arg)
  | bad
  deriving Inhabited

structure I where
  d : Option Nat
  g : Option (Nat × Bool)
  k : K
  deriving Inhabited

inductive C where
  | skip
  | ops (l : List I)
  | drw (l : List (Nat × I))
  | seq (a b : C)
  | cond (c : Arg) (a b : C)
  | blk (id : Nat) (a : C)
  | loop (a : C)
  | exit (id : Nat)
  | ret
  | bad
  deriving Inhabited

inductive Rs where
  | t (t : Nat)
  | c1 (t : Nat)
  | cn (t n : Nat)
  deriving Inhabited

structure F where
  np : Nat
  nt : Nat
  body : C
  res : List Rs
  deriving Inhabited

/-! The heap: a binary trie by numbers. -/
inductive Tr (α : Type) where
  | e
  | n (l : Tr α) (x : Option α) (r : Tr α)

def Tr.get {α : Type} : Nat → Tr α → Nat → Option α
  | 0, _, _ => none
  | _ + 1, .e, _ => none
  | f + 1, .n l x r, k => if k = 0 then x else if k % 2 = 1 then Tr.get f l (k / 2) else Tr.get f r (k / 2 - 1)
def Tr.put {α : Type} (v : Option α) : Nat → Tr α → Nat → Tr α
  | 0, t, _ => t
  | f + 1, .e, k => if k = 0 then .n .e v .e else if k % 2 = 1 then .n (Tr.put v f .e (k / 2)) none .e else .n .e none (Tr.put v f .e (k / 2 - 1))
  | f + 1, .n l x r, k => if k = 0 then .n l v r else if k % 2 = 1 then .n (Tr.put v f l (k / 2)) x r else .n l x (Tr.put v f r (k / 2 - 1))

theorem Tr.get_put_same {α : Type} (v : Option α) : ∀ (f : Nat) (t : Tr α) (k : Nat), k < f → Tr.get f (Tr.put v f t k) k = v := by
  intro f
  induction f with
  | zero => intro t k h; omega
  | succ f ih =>
    intro t k h
    cases t with
    | e =>
      simp only [Tr.put]
      by_cases h0 : k = 0
      · simp [h0, Tr.get]
      · by_cases h1 : k % 2 = 1
        · simp [h0, h1, Tr.get, ih .e (k / 2) (by omega)]
        · simp [h0, h1, Tr.get, ih .e (k / 2 - 1) (by omega)]
    | n l x r =>
      simp only [Tr.put]
      by_cases h0 : k = 0
      · simp [h0, Tr.get]
      · by_cases h1 : k % 2 = 1
        · simp [h0, h1, Tr.get, ih l (k / 2) (by omega)]
        · simp [h0, h1, Tr.get, ih r (k / 2 - 1) (by omega)]

theorem Tr.get_e {α : Type} (f k : Nat) : Tr.get f (.e : Tr α) k = none := by cases f <;> rfl

theorem Tr.get_put_ne {α : Type} (v : Option α) : ∀ (f g : Nat) (t : Tr α) (k j : Nat), k < f → j < g → j ≠ k → Tr.get g (Tr.put v f t k) j = Tr.get g t j := by
  intro f
  induction f with
  | zero => intro g t k j h; omega
  | succ f ih =>
    intro g t k j hk hj hne
    cases g with
    | zero => omega
    | succ g =>
      cases t with
      | e =>
        simp only [Tr.put]
        by_cases h0 : k = 0
        · by_cases hj0 : j = 0
          · omega
          · by_cases hj1 : j % 2 = 1 <;> simp [h0, Tr.get, hj0, hj1, Tr.get_e]
        · by_cases h1 : k % 2 = 1
          · simp only [h0, h1, if_true, if_false, Tr.get]
            by_cases hj0 : j = 0
            · simp [hj0]
            · by_cases hj1 : j % 2 = 1
              · simp only [hj0, hj1, if_true, if_false]
                rw [ih g .e (k / 2) (j / 2) (by omega) (by omega) (by omega), Tr.get_e]
              · simp [hj0, hj1, Tr.get_e]
          · simp only [h0, h1, if_false, Tr.get]
            by_cases hj0 : j = 0
            · simp [hj0]
            · by_cases hj1 : j % 2 = 1
              · simp [hj0, hj1, Tr.get_e]
              · simp only [hj0, hj1, if_false]
                rw [ih g .e (k / 2 - 1) (j / 2 - 1) (by omega) (by omega) (by omega), Tr.get_e]
      | n l x r =>
        simp only [Tr.put]
        by_cases h0 : k = 0
        · by_cases hj0 : j = 0
          · omega
          · by_cases hj1 : j % 2 = 1 <;> simp [h0, Tr.get, hj0, hj1]
        · by_cases h1 : k % 2 = 1
          · simp only [h0, h1, if_true, if_false, Tr.get]
            by_cases hj0 : j = 0
            · simp [hj0]
            · by_cases hj1 : j % 2 = 1
              · simp only [hj0, hj1, if_true, if_false]
                rw [ih g l (k / 2) (j / 2) (by omega) (by omega) (by omega)]
              · simp [hj0, hj1]
          · simp only [h0, h1, if_false, Tr.get]
            by_cases hj0 : j = 0
            · simp [hj0]
            · by_cases hj1 : j % 2 = 1
              · simp [hj0, hj1]
              · simp only [hj0, hj1, if_false]
                rw [ih g r (k / 2 - 1) (j / 2 - 1) (by omega) (by omega) (by omega)]

theorem Tr.put_comm {α : Type} (v w : Option α) : ∀ (f g : Nat) (t : Tr α) (k j : Nat), k < f → j < g → j ≠ k → Tr.put v f (Tr.put w g t j) k = Tr.put w g (Tr.put v f t k) j := by
  intro f
  induction f with
  | zero => intro g t k j h; omega
  | succ f ih =>
    intro g t k j hk hj hne
    cases g with
    | zero => omega
    | succ g =>
      cases t <;> simp only [Tr.put] <;>
      by_cases hk0 : k = 0 <;> by_cases hj0 : j = 0 <;> by_cases hk1 : k % 2 = 1 <;> by_cases hj1 : j % 2 = 1 <;> simp only [hk0, hj0, hk1, hj1, if_true, if_false, Tr.put] <;> first
        | rfl
        | omega
        | (rw [ih g _ (k / 2) (j / 2) (by omega) (by omega) (by omega)])
        | (rw [ih g _ (k / 2 - 1) (j / 2 - 1) (by omega) (by omega) (by omega)])
        | simp_all

/-- slots: a trie; so many there are -/
structure Sl where
  t : Tr V
  m : Nat

def Sl.get (e : Sl) (t : Nat) : V := match Tr.get (t + 1) e.t t with
  | some v => v
  | none => unV
def Sl.set (e : Sl) (t : Nat) (v : V) : Sl := match Nat.blt t e.m with
  | true => ⟨Tr.put (some v) (t + 1) e.t t, e.m⟩
  | false => e
def Sl.setD (e : Sl) (d : Option Nat) (v : V) : Sl := match d with
  | some d => e.set d v
  | none => e

/-- what is no row of cells: a map's entries (key, value, when it came) and its clock; one that goes over a map; a loop over a function; what is put off in its rounds (nothing, and not yet taken: false) -/
inductive Ox where
  | mp (es : List (V × V × Nat)) (clk : Nat)
  | it (m : Option Nat) (since : Nat) (seen : List Nat) (last : Nat)
  | lp (st : LoopState) (pend : Option Code) (f : Nat) (e : Sl) (ps : List Nat) (as bd : Code) (ds : Nat)
  | df (taken : Bool)
  deriving Inhabited

/-- objects: cells, of which the first z may not be written, and the type of their block, if it begins there; a token: so many cells are taken. -/
inductive O where
  | c (cs : List V) (z : Nat) (t : Option Nat)
  | t (e : Nat)
  | x (o : Ox)
  deriving Inhabited

/-- 'g': names laid out that nothing bears yet -/
structure St where
  h : Tr O
  n : Nat
  g : List Nat := []

def St.get (s : St) (l : Nat) : Option O := Tr.get (l + 1) s.h l
def St.put (s : St) (l : Nat) (o : Option O) : St := { s with h := Tr.put o (l + 1) s.h l }
def St.new (s : St) (o : O) : St := { s with h := Tr.put (some o) (s.n + 1) s.h s.n, n := s.n + 1 }
/-- the names that are borne -/
def St.L (s : St) (l : Nat) : Prop := l < s.n ∧ l ∉ s.g

@[simp] theorem St.put_n (s : St) (l : Nat) (o : Option O) : (s.put l o).n = s.n := rfl
@[simp] theorem St.new_n (s : St) (o : O) : (s.new o).n = s.n + 1 := rfl
@[simp] theorem St.put_g (s : St) (l : Nat) (o : Option O) : (s.put l o).g = s.g := rfl
@[simp] theorem St.new_g (s : St) (o : O) : (s.new o).g = s.g := rfl
@[simp] theorem St.put_L (s : St) (l : Nat) (o : Option O) : (s.put l o).L = s.L := rfl
theorem St.new_L {s : St} (o : O) {l : Nat} (h : s.L l) : (s.new o).L l := ⟨Nat.lt_succ_of_lt h.1, h.2⟩
theorem St.new_L0 {s : St} (o : O) (h : ∀ l ∈ s.g, l < s.n) : (s.new o).L s.n := ⟨Nat.lt_succ_self _, fun hm => Nat.lt_irrefl _ (h _ hm)⟩
@[simp] theorem St.get_put_same (s : St) (l : Nat) (o : Option O) : (s.put l o).get l = o :=
  Tr.get_put_same o (l + 1) s.h l (by omega)
theorem St.get_put_ne (s : St) (l j : Nat) (o : Option O) (h : j ≠ l) : (s.put l o).get j = s.get j :=
  Tr.get_put_ne o (l + 1) (j + 1) s.h l j (by omega) (by omega) h
@[simp] theorem St.get_new_same (s : St) (o : O) : (s.new o).get s.n = some o :=
  Tr.get_put_same (some o) (s.n + 1) s.h s.n (by omega)
theorem St.get_new_ne (s : St) (o : O) (j : Nat) (h : j ≠ s.n) : (s.new o).get j = s.get j :=
  Tr.get_put_ne (some o) (s.n + 1) (j + 1) s.h s.n j (by omega) (by omega) h

def Arg.ev (e : List V) : Arg → V
  | .t n => e.getD n unV
  | .c v => v

/-- vs into cs from o on -/
def setAt (cs : List V) (o : Nat) : List V → List V
  | [] => cs
  | v :: vs => setAt (cs.set o v) (o + 1) vs

/-- parts: a place, its size, what comes into it -/
def fillp (e : List V) : List V → List (Nat × Nat × Arg) → Option (List V)
  | z, [] => some z
  | z, (o, n, x) :: r => if (x.ev e).isVal = true ∧ (x.ev e).cells.length = n ∧ o + n ≤ z.length then fillp e (setAt z o (x.ev e).cells) r else none

/-! comparisons and wraps that the kernel runs fast, and with a number open -/
def ltZ : Int → Int → Bool
  | .ofNat a, .ofNat b => Nat.blt a b
  | .negSucc _, .ofNat _ => true
  | .ofNat _, .negSucc _ => false
  | .negSucc a, .negSucc b => Nat.blt b a
def leZ (a b : Int) : Bool := !(ltZ b a)
def eqZ : Int → Int → Bool
  | .ofNat a, .ofNat b => Nat.beq a b
  | .negSucc a, .negSucc b => Nat.beq a b
  | _, _ => false
def lim : IntKind → Nat
  | .i8 => 127
  | .i16 => 32767
  | .i32 => 2147483647
  | .i64 => 9223372036854775807
  | .u8 => 255
  | .u16 => 65535
  | .u32 => 4294967295
  | .u64 => 18446744073709551615
def wrapF (k : IntKind) (n : Int) : Int :=
  match n with
  | .ofNat m => (match Nat.ble m (lim k) with | true => .ofNat m | false => k.wrap (.ofNat m))
  | .negSucc m => (match k.signed && Nat.ble m (lim k) with | true => .negSucc m | false => k.wrap (.negSucc m))

theorem ltZ_eq (a b : Int) : ltZ a b = decide (a < b) := by
  rw [Bool.eq_iff_iff]
  cases a <;> cases b <;> simp [ltZ, Nat.blt_eq] <;> omega
theorem leZ_eq (a b : Int) : leZ a b = decide (a ≤ b) := by
  rw [leZ, ltZ_eq, Bool.eq_iff_iff]; simp
theorem eqZ_eq (a b : Int) : eqZ a b = (a == b) := by
  rw [Bool.eq_iff_iff]
  cases a <;> cases b <;> simp [eqZ] <;> omega
theorem wrap_in (k : IntKind) (x : Int) (h0 : (if k.signed then -((lim k : Nat) : Int) - 1 else 0) ≤ x) (h1 : x ≤ ((lim k : Nat) : Int)) : k.wrap x = x := by
  unfold IntKind.wrap
  cases k <;> simp only [lim, IntKind.bits, IntKind.signed, Bool.true_and, Bool.false_and, decide_eq_true_eq, Bool.false_eq_true, if_false, if_true, ge_iff_le] at h0 h1 ⊢ <;> (try split) <;> omega
theorem wrapF_eq (k : IntKind) (n : Int) : wrapF k n = k.wrap n := by
  cases n with
  | ofNat m =>
    simp only [wrapF]
    split
    · rename_i h
      have h : m ≤ lim k := by simpa [Nat.ble_eq] using h
      exact (wrap_in k _ (by split <;> simp <;> omega) (by simp; omega)).symm
    · rfl
  | negSucc m =>
    simp only [wrapF]
    split
    · rename_i h
      simp only [Bool.and_eq_true, Nat.ble_eq] at h
      exact (wrap_in k _ (by rw [if_pos h.1]; omega) (by omega)).symm
    · rfl

/-- cells -/
def veq : LK → V → V → Option Bool
  | .b, .b a, .b b => some (a == b)
  | .i, .i k a, .i k' b => if k = k' then some (eqZ a b) else none
  | .s, .s a, .s b => some (a == b)
  | _, _, _ => none
def veqs : List LK → List V → List V → Option Bool
  | [], [], [] => some true
  | k :: ks, a :: x, b :: y => match veq k a b with
    | some true => veqs ks x y
    | r => r
  | _, _, _ => none

def peq : EK → V → V → Option Bool
  | .n, .i k a, .i k' b => if k = k' then some (eqZ a b) else none
  | .n, .s a, .s b => some (a == b)
  | .b, .b a, .b b => some (a == b)
  | .g ks, .ag a, .ag b => if a.length = ks.length ∧ b.length = ks.length then veqs ks a b else none
  | .p, .np, .np => some true
  | .p, .np, .p .. => some false
  | .p, .p .., .np => some false
  | .p, .p l o, .p l' o' => if l = l' then some (o == o') else none
  | .p, .np, .q .. => some false
  | .p, .q .., .np => some false
  | .s, .ns, .ns => some true
  | .s, .ns, .sl .. => some false
  | .s, .sl .., .ns => some false
  | .s, .se .., .ns => some false
  | .s, .pu _ (_ :: _) _, .ns => some false
  | .s, .pu _ [] .z, .ns => some false
  | .i, .ni, .ni => some true
  | .i, .ni, .ifc .. => some false
  | .i, .ifc .., .ni => some false
  | .f, .nf, .nf => some true
  | .f, .nf, .fn .. => some false
  | .f, .fn .., .nf => some false
  | .m, .nm, .nm => some true
  | .m, .m _, .nm => some false
  | .m, .nm, .m _ => some false
  | _, _, _ => none

def wrapK (k : IntKind) (n : Int) : V := .i k (wrapF k n)
theorem wrapK_eq (k : IntKind) (n : Int) : wrapK k n = .i k (k.wrap n) := by rw [wrapK, wrapF_eq]

def binI (op : BinOp) (k : IntKind) (a b : Int) : Option V :=
  match op with
  | .add => some (wrapK k (a + b))
  | .sub => some (wrapK k (a - b))
  | .mul => some (wrapK k (a * b))
  | .quo => if b = 0 then none else some (wrapK k (a.tdiv b))
  | .rem => if b = 0 then none else some (.i k (a.tmod b))
  | .and => some (wrapK k (BitVec.ofInt k.bits a &&& BitVec.ofInt k.bits b).toNat)
  | .or => some (wrapK k (BitVec.ofInt k.bits a ||| BitVec.ofInt k.bits b).toNat)
  | .xor => some (wrapK k (BitVec.ofInt k.bits a ^^^ BitVec.ofInt k.bits b).toNat)
  | .lss => some (.b (ltZ a b))
  | .leq => some (.b (leZ a b))
  | .gtr => some (.b (ltZ b a))
  | .geq => some (.b (leZ b a))
  | _ => none

def binV (op : BinOp) (x y : V) : Option V :=
  match op, x, y with
  | .shl, .i k a, .i _ b => if b < 0 then none else some (wrapK k (a * 2 ^ (min b.toNat k.bits)))
  | .shr, .i k a, .i _ b => if b < 0 then none else some (.i k (a.fdiv (2 ^ (min b.toNat k.bits))))
  | op, .i k a, .i k' b => if k = k' then binI op k a b else none
  | .add, .s a, .s b => if a.length + b.length < 9223372036854775808 then some (.s (a ++ b)) else none
  | .lss, .s a, .s b => some (.b (Op.bytesLess a b))
  | .leq, .s a, .s b => some (.b (Op.bytesLess a b || a == b))
  | .gtr, .s a, .s b => some (.b !(Op.bytesLess a b || a == b))
  | .geq, .s a, .s b => some (.b !(Op.bytesLess a b))
  | _, _, _ => none

/-- the bounds of a slice expression; a bound's value: an int -/
def bnd (top : Nat) : V → Option Nat
  | .i _ v => if 0 ≤ v ∧ v ≤ top then some v.toNat else none
  | _ => none
/-- low, high, max (max: .. or 'cap', if it is not given) -/
def slb (len cap : Nat) (l h m : Option V) : Option (Nat × Nat × Nat) :=
  match (match m with | some v => bnd cap v | none => some cap) with
  | none => none
  | some m' =>
    match (match h, m with | some v, _ => bnd m' v | none, none => some len | none, some _ => none) with
    | none => none
    | some h' =>
      match (match l with | some v => bnd h' v | none => some 0) with
      | none => none
      | some l' => some (l', h', m')

def capOr (c : Cap) (d : Nat) : Nat :=
  match c with
  | .x c => c
  | _ => d

/-- an element of so many cells -/
def mkEl (ag : Bool) (cs : List V) : V := if ag then .ag cs else cs.headD .bad
def chunks (ag : Bool) (sz : Nat) (cs : List V) : Nat → List V
  | 0 => []
  | n + 1 => mkEl ag (cs.take sz) :: chunks ag sz (cs.drop sz) n

def bytesOf (l : List UInt8) : List V := l.map fun b => .i .u8 b.toNat

/-- the cells of a row as bytes -/
def toBytes : List V → Option (List UInt8)
  | [] => some []
  | .i .u8 n :: r => (toBytes r).map (UInt8.ofNat n.toNat :: ·)
  | _ => none

/-- what is appended or copied: how many elements, their cells -/
def srcOf (s : St) (sz : Nat) : V → Option (Nat × List V)
  | .ns => some (0, [])
  | .se z _ => if z = sz then some (0, []) else none
  | .sl z l o n _ => match s.get l with
    | some (.c cs _ _) => if z = sz ∧ o + n * sz ≤ cs.length then some (n, (cs.drop o).take (n * sz)) else none
    | _ => none
  | .pu z xs _ => if z = sz then some (xs.length, (xs.map V.cells).flatten) else none
  | .s l => if sz = 1 then some (l.length, bytesOf l) else none
  | _ => none

/-- so many bytes no row may pass (a bound well below what the model bears) -/
def room (n bytes : Nat) : Bool := decide (n ≤ 2305843009213693952 ∧ (2 * n + 1024) * bytes ≤ 281474976710656)

def appV (s : St) (t : Nat) (w ag : Bool) (sz bytes : Nat) (x : V) (k : Nat) (new : List V) : Option (V × St) :=
  match x with
  | .ns =>
    if k = 0 then some (.ns, s) else
    if !room k bytes then none else
    if w then some (.pu sz (chunks ag sz new k) (.t s.n), s.new (.t (k * sz)))
    else some (.sl sz s.n 0 k none, s.new (.c new 0 (some t)))
  | .pu z xs c =>
    if z ≠ sz then none else
    if k = 0 then some (.pu z xs c, s) else
    if !room (xs.length + k) bytes then none else
    match c with
    | .u => none
    | .z => none
    | .x c => if c = xs.length then some (.pu sz (xs ++ chunks ag sz new k) (.t s.n), s.new (.t ((xs.length + k) * sz))) else none
    | .t t => match s.get t with
      | some (.t e) => if e = xs.length * sz then some (.pu sz (xs ++ chunks ag sz new k) (.t t), s.put t (some (.t ((xs.length + k) * sz)))) else none
      | _ => none
  | .se z' l =>
    match s.get l with
    | some (.c cs z _) =>
      if z' ≠ sz then none else
      if k = 0 then some (.se sz l, s) else
      if !room k bytes then none else
      if z ≤ cs.length then some (.sl sz s.n 0 k none, (s.put l none).new (.c new 0 none)) else none
    | _ => none
  | .sl z' l o n c =>
    match s.get l with
    | some (.c cs z ty) =>
      if z' ≠ sz then none else
      if k = 0 then some (.sl sz l o n c, s) else
      if !room (n + k) bytes then none else
      if cs.length < o + n * sz then none else
      match c with
      | some c =>
        if n + k ≤ c then
          if o + (n + k) * sz ≤ cs.length ∧ z ≤ o + n * sz then some (.sl sz l o (n + k) (some c), s.put l (some (.c (setAt cs (o + n * sz) new) z ty))) else none
        else some (.sl sz s.n 0 (n + k) none, s.new (.c ((cs.drop o).take (n * sz) ++ new) 0 (some t)))
      | none =>
        if o + (n + k) * sz ≤ cs.length then
          if z ≤ o + n * sz then some (.sl sz l o (n + k) none, s.put l (some (.c (setAt cs (o + n * sz) new) z ty))) else none
        else if z ≤ o + n * sz then
          some (.sl sz s.n 0 (n + k) none, (s.put l none).new (.c ((cs.drop o).take (n * sz) ++ new) (z - o) (if o = 0 ∧ ty = some t then some t else none)))
        else none
    | _ => none
  | _ => none

/-- how often, and where first, a byte stands among some -/
def cntB (c : UInt8) : List UInt8 → Nat
  | [] => 0
  | b :: r => if b = c then cntB c r + 1 else cntB c r
def ixB (c : UInt8) : List UInt8 → Option Nat
  | [] => none
  | b :: r => if b = c then some 0 else (ixB c r).map (· + 1)

def keq : KK → V → V → Option Bool
  | .i, .i k a, .i k' b => if k = k' then some (eqZ a b) else none
  | .s, .s a, .s b => some (a == b)
  | .b, .b a, .b b => some (a == b)
  | .g ks, .ag a, .ag b => if a.length = ks.length ∧ b.length = ks.length then veqs ks a b else none
  | _, _, _ => none
/-- a key's kind -/
def kOk : KK → V → Bool
  | .i, .i _ _ => true
  | .s, .s _ => true
  | .b, .b _ => true
  | .g ks, .ag cs => Nat.beq cs.length ks.length
  | _, _ => false
/-- the place and the value of a key -/
def findK (kk : KK) (key : V) : List (V × V × Nat) → Nat → Option (Option (Nat × V))
  | [], _ => some none
  | (k, v, _) :: r, i => match keq kk key k with
    | some true => some (some (i, v))
    | some false => findK kk key r (i + 1)
    | none => none
def setVal (es : List (V × V × Nat)) (i : Nat) (k v : V) : List (V × V × Nat) := match es, i with
  | [], _ => []
  | (_, _, b) :: r, 0 => (k, v, b) :: r
  | x :: r, i + 1 => x :: setVal r i k v
def onlyVal (es : List (V × V × Nat)) (b : Nat) (v : V) : Option (List (V × V × Nat)) := match es with
  | [] => none
  | (k, u, b') :: r => if b' = b then some ((k, v, b) :: r) else (onlyVal r b v).map ((k, u, b') :: ·)
def bornAt (es : List (V × V × Nat)) (b : Nat) : Option (V × V) := match es with
  | [] => none
  | (k, v, b') :: r => if b' = b then some (k, v) else bornAt r b

def mop (s : St) : Y → List V → Option (V × St)
  | .mkm, [] => some (.m s.n, s.new (.x (.mp [] 0)))
  | .mkm, [.i _ _] => some (.m s.n, s.new (.x (.mp [] 0)))
  | .mclr, [m] => match m with
    | .nm => some (unV, s)
    | .m l => match s.get l with
      | some (.x (.mp _ clk)) => some (unV, s.put l (some (.x (.mp [] clk))))
      | _ => none
    | _ => none
  | .sclr z, [x] => match x with
    | .ns => some (unV, s)
    | .se .. => some (unV, s)
    | .pu _ [] _ => some (unV, s)
    | .sl z' l o n _ => if n = 0 then some (unV, s) else match s.get l with
      | some (.c cs zf ty) => if z' = z.length ∧ 0 < z.length ∧ o + n * z.length ≤ cs.length ∧ zf ≤ o then some (unV, s.put l (some (.c (setAt cs o (List.replicate n z).flatten) zf ty))) else none
      | _ => none
    | _ => none
  | .mcl, [x] => match x with
    | .ifc t (.m l) => match s.get l with
      | some (.x (.mp es clk)) => some (.ifc t (.m s.n), s.new (.x (.mp es clk)))
      | _ => none
    | _ => none
  | .look kk ok z, [m, k] => if kOk kk k then match m with
    | .nm => some (if ok then .tu [z, .b false] else z, s)
    | .m l => match s.get l with
      | some (.x (.mp es _)) => match findK kk k es 0 with
        | some (some (_, v)) => some (if ok then .tu [v, .b true] else v, s)
        | some none => some (if ok then .tu [z, .b false] else z, s)
        | none => none
      | _ => none
    | _ => none else none
  | .upd kk, [m, k, v] => if kOk kk k then match m with
    | .m l => match s.get l with
      | some (.x (.mp es clk)) => match findK kk k es 0 with
        | some (some (i, _)) => some (unV, s.put l (some (.x (.mp (setVal es i k v) clk))))
        | some none => some (unV, s.put l (some (.x (.mp (es ++ [(k, v, clk)]) (clk + 1)))))
        | none => none
      | _ => none
    | _ => none else none
  | .ent kk z, [m, k] => if kOk kk k then match m with
    | .m l => match s.get l with
      | some (.x (.mp es clk)) => match findK kk k es 0 with
        | some (some (i, v)) => match es[i]? with
          | some (_, _, b) => some (.tu [v, .i .i64 b], s.put l (some (.x (.mp (setVal es i k v) clk))))
          | none => none
        | some none => some (.tu [z, .i .i64 clk], s.put l (some (.x (.mp (es ++ [(k, z, clk)]) (clk + 1)))))
        | none => none
      | _ => none
    | _ => none else none
  | .ens, [m, b, v] => match m, b with
    | .m l, .i _ b => match s.get l with
      | some (.x (.mp es clk)) => if 0 ≤ b then match onlyVal es b.toNat v with
        | some es' => some (unV, s.put l (some (.x (.mp es' clk))))
        | none => none else none
      | _ => none
    | _, _ => none
  | .mlen, [m] => match m with
    | .nm => some (.i .i64 0, s)
    | .m l => match s.get l with
      | some (.x (.mp es _)) => some (.i .i64 es.length, s)
      | _ => none
    | _ => none
  | .mdel kk, [m, k] => if kOk kk k then match m with
    | .nm => some (unV, s)
    | .m l => match s.get l with
      | some (.x (.mp es clk)) => match findK kk k es 0 with
        | some (some (i, _)) => some (unV, s.put l (some (.x (.mp (es.eraseIdx i) clk))))
        | some none => some (unV, s.put l (some (.x (.mp es clk))))
        | none => none
      | _ => none
    | _ => none else none
  | .rng, [m] => match m with
    | .nm => some (.p s.n 0, s.new (.x (.it none 0 [] 0)))
    | .m l => match s.get l with
      | some (.x (.mp _ clk)) => some (.p s.n 0, s.new (.x (.it (some l) clk [] clk)))
      | _ => none
    | _ => none
  | .nxt, [x] => match x with
    | .p r 0 => match s.get r with
      | some (.x (.it none _ _ _)) => some (.tu [.b false], s)
      | some (.x (.it (some l) since seen last)) => match s.get l with
        | some (.x (.mp es clk)) =>
          if !seen.isEmpty && !es.isEmpty && es.all (fun x => decide (last ≤ x.2.2)) then none else
          match (es.filter fun x => !seen.contains x.2.2).filter (fun x => decide (x.2.2 < since)), (es.filter fun x => !seen.contains x.2.2).filter (fun x => decide (since ≤ x.2.2)) with
          | [], [] => some (.tu [.b false], s)
          | [(k, v, b)], [] => some (.tu [.b true, k, v], s.put r (some (.x (.it (some l) since (seen ++ [b]) clk))))
          | _, _ => none
        | _ => none
      | _ => none
    | _ => none
  | .ery, [x] => match x with
    | .p r 0 => match s.get r with
      | some (.x (.it (some l) _ seen last)) => match s.get l with
        | some (.x (.mp es clk)) => if clk = last then match seen.getLast? with
          | some b => match bornAt es b with
            | some (k, v) => some (.tu [k, v], s)
            | none => none
          | none => none else none
        | _ => none
      | _ => none
    | _ => none
  | .ta t ok z, [x] => match x with
    | .ni => if ok then some (.tu [z, .b false], s) else none
    | .ifc t' v => if t' = t then some (if ok then .tu [v, .b true] else v, s) else if ok then some (.tu [z, .b false], s) else none
    | _ => none
  | .tai has ok, [x] => match x with
    | .ni => if ok then some (.tu [.ni, .b false], s) else none
    | .ifc t v => if has.contains t then some (if ok then .tu [.ifc t v, .b true] else .ifc t v, s) else if ok then some (.tu [.ni, .b false], s) else none
    | _ => none
  | .ieq neg ts, [x, y] => match x, y with
    | .ifc t v, .ifc t' v' => if t = t' then match ts.find? (fun p => p.1 == t) with
      | some (_, kd) => (peq kd v v').map fun b => (.b (if neg then !b else b), s)
      | none => none else some (.b neg, s)
    | .ni, .ifc .. => some (.b neg, s)
    | .ifc .., .ni => some (.b neg, s)
    | _, _ => none
  | _, _ => none

def aop (e : List V) (s : St) : A → Option (V × St)
  | .mov x => some (x.ev e, s)
  | .pick c a b => match c.ev e with
    | .b true => some (a.ev e, s)
    | .b false => some (b.ev e, s)
    | _ => none
  | .alloc t z => some (.p s.n 0, s.new (.c z 0 (some t)))
  | .box t w x => if (x.ev e).isVal = true then (match w with
    | true => some (.q (x.ev e) 0, s)
    | false => some (.p s.n 0, s.new (.c (x.ev e).cells 0 (some t)))) else none
  | .build z ps => (fillp e z ps).map fun cs => (.ag cs, s)
  | .bsl t w ag n sz z ps => match fillp e (List.replicate n z).flatten ps with
    | none => none
    | some cs => match w with
      | true => some (.pu sz (chunks ag sz cs n) (.x n), s)
      | false => some (.sl sz s.n 0 n (some n), s.new (.c cs 0 (some t)))
  | .load1 a => match a.ev e with
    | .p l o => match s.get l with
      | some (.c cs _ _) => (cs[o]?).map fun v => (v, s)
      | _ => none
    | .q v o => (v.cells[o]?).map fun v => (v, s)
    | _ => none
  | .loadn n a => match a.ev e with
    | .p l o => match s.get l with
      | some (.c cs _ _) => if o + n ≤ cs.length then some (.ag ((cs.drop o).take n), s) else none
      | _ => none
    | .q v o => if o + n ≤ v.cells.length then some (.ag ((v.cells.drop o).take n), s) else none
    | _ => none
  | .store n a v => match a.ev e with
    | .p l o => match s.get l with
      | some (.c cs z ty) => if (v.ev e).isVal = true ∧ (v.ev e).cells.length = n ∧ o + n ≤ cs.length ∧ (n = 0 ∨ z ≤ o) then some (unV, s.put l (some (.c (setAt cs o (v.ev e).cells) z ty))) else none
      | _ => none
    | _ => none
  | .nilc x => match x.ev e with
    | .p l o => some (.p l o, s)
    | .q v o => some (.q v o, s)
    | .ifc t v => some (.ifc t v, s)
    | .fn f c => some (.fn f c, s)
    | _ => none
  | .bin op x y => (binV op (x.ev e) (y.ev e)).map fun v => (v, s)
  | .eql neg kd x y => (peq kd (x.ev e) (y.ev e)).map fun v => (.b (if neg then !v else v), s)
  | .not x => match x.ev e with
    | .b v => some (.b !v, s)
    | _ => none
  | .neg x => match x.ev e with
    | .i k v => some (wrapK k (0 - v), s)
    | _ => none
  | .conv k x => match x.ev e with
    | .i _ v => some (wrapK k v, s)
    | _ => none
  | .s2b t w x => match x.ev e with
    | .s l => match w with
      | true => some (.pu 1 (bytesOf l) .u, s)
      | false => some (.sl 1 s.n 0 l.length none, s.new (.c (bytesOf l) 0 none))
    | _ => none
  | .b2s x => match x.ev e with
    | .ns => some (.s [], s)
    | .sl z l o n _ => match s.get l with
      | some (.c cs _ _) => if z = 1 ∧ o + n ≤ cs.length then (toBytes ((cs.drop o).take n)).map fun l => (.s l, s) else none
      | _ => none
    | .pu z xs _ => if z = 1 then (toBytes ((xs.map V.cells).flatten)).map fun l => (.s l, s) else none
    | _ => none
  | .fa off x => match x.ev e with
    | .p l o => some (.p l (o + off), s)
    | .q v o => some (.q v (o + off), s)
    | _ => none
  | .fld off n x => match x.ev e with
    | .ag cs => match n with
      | none => (cs[off]?).map fun v => (v, s)
      | some n => if off + n ≤ cs.length then some (.ag ((cs.drop off).take n), s) else none
    | _ => none
  | .ia sz x i => match x.ev e, i.ev e with
    | .sl z l o n _, .i _ k => if z = sz ∧ 0 ≤ k ∧ k < n then some (.p l (o + k.toNat * sz), s) else none
    | .pu z xs _, .i _ k => if z = sz ∧ 0 ≤ k then (xs[k.toNat]?).map fun v => (.q v 0, s) else none
    | _, _ => none
  | .iaA sz len x i => match x.ev e, i.ev e with
    | .p l o, .i _ k => if 0 ≤ k ∧ k < len then some (.p l (o + k.toNat * sz), s) else none
    | .q v o, .i _ k => if 0 ≤ k ∧ k < len then some (.q v (o + k.toNat * sz), s) else none
    | _, _ => none
  | .idxA sz ag len x i => match x.ev e, i.ev e with
    | .ag cs, .i _ k => if 0 ≤ k ∧ k < len then
        (match ag with
        | true => if k.toNat * sz + sz ≤ cs.length then some (.ag ((cs.drop (k.toNat * sz)).take sz), s) else none
        | false => (cs[k.toNat * sz]?).map fun v => (v, s)) else none
    | _, _ => none
  | .idxS x i => match x.ev e, i.ev e with
    | .s l, .i _ k => if 0 ≤ k then (l[k.toNat]?).map fun v => (.i .u8 v.toNat, s) else none
    | _, _ => none
  | .ext x i => match x.ev e with
    | .tu vs => (vs[i]?).map fun v => (v, s)
    | _ => none
  | .len x => match x.ev e with
    | .ns => some (.i .i64 0, s)
    | .sl _ _ _ n _ => some (.i .i64 n, s)
    | .se _ _ => some (.i .i64 0, s)
    | .pu _ xs _ => some (.i .i64 xs.length, s)
    | _ => none
  | .lenS x => match x.ev e with
    | .s l => some (.i .i64 l.length, s)
    | _ => none
  | .movS x => match x.ev e with
    | .s l => some (.s l, s)
    | _ => none
  | .app t w ag sz bytes x y => match srcOf s sz (y.ev e) with
    | some (k, new) => appV s t w ag sz bytes (x.ev e) k new
    | none => none
  | .cpy sz x y => match x.ev e, srcOf s sz (y.ev e) with
    | .ns, some _ => some (.i .i64 0, s)
    | .sl z' l o n _, some (k, new) => match s.get l with
      | some (.c cs z ty) => if z' = sz ∧ o + n * sz ≤ cs.length ∧ z ≤ o then some (.i .i64 (min k n : Nat), s.put l (some (.c (setAt cs o (new.take (min k n * sz))) z ty))) else none
      | _ => none
    | _, _ => none
  | .mks t sz bytes z n c => match n.ev e, c.ev e with
    | .i _ n, .i _ c => if 0 ≤ n ∧ n ≤ c ∧ c * bytes ≤ 281474976710656 ∧ c < 9223372036854775808 then
        some (.sl sz s.n 0 n.toNat (some c.toNat), s.new (.c (List.replicate c.toNat z).flatten 0 (some t))) else none
    | _, _ => none
  | .slS x l h => match x.ev e with
    | .s t => (slb t.length t.length (l.map (·.ev e)) (h.map (·.ev e)) none).map fun (a, b, _) => (.s ((t.take b).drop a), s)
    | _ => none
  | .slc sz x l h m => match x.ev e with
    | .ns => (slb 0 0 (l.map (·.ev e)) (h.map (·.ev e)) (m.map (·.ev e))).map fun _ => (.ns, s)
    | .sl z i o n c => if z ≠ sz then none else match slb n (c.getD n) (l.map (·.ev e)) (h.map (·.ev e)) (m.map (·.ev e)) with
      | some (a, b, mm) =>
        match c, m with
        | none, none => if a = 0 ∨ a < n then some (.sl sz i (o + a * sz) (b - a) none, s) else match s.get i with
          | some (.c cs _ _) => if o + n * sz = cs.length then some (.se sz i, s) else some (.pu sz [] .u, s)
          | _ => none
        | none, some _ => match s.get i with
          | some (.c cs _ _) => if o + mm * sz ≤ cs.length then
              (if a = 0 ∨ a < mm then some (.sl sz i (o + a * sz) (b - a) (some (mm - a)), s) else some (.pu sz [] (.x 0), s)) else none
          | _ => none
        | some _, _ => if a = 0 ∨ a < mm then some (.sl sz i (o + a * sz) (b - a) (some (mm - a)), s) else some (.pu sz [] (.x 0), s)
      | none => match c, m with
        | none, none => (match s.get i with
          | some (.c cs _ _) => if sz = 0 then none else (match slb n ((cs.length - o) / sz) (l.map (·.ev e)) (h.map (·.ev e)) none with
            | some (a, b, _) => if n ≤ (cs.length - o) / sz ∧ (a = 0 ∨ a < (cs.length - o) / sz) then some (.sl sz i (o + a * sz) (b - a) none, s) else none
            | none => none)
          | _ => none)
        | _, _ => none
    | .pu z xs c => match slb xs.length (capOr c xs.length) (l.map (·.ev e)) (h.map (·.ev e)) (m.map (·.ev e)) with
      | some (a, b, mm) =>
        if z ≠ sz then none else
        if xs.length < b then none else
        match c, m with
        | .x _, _ => some (.pu z ((xs.take b).drop a) (.x (mm - a)), s)
        | _, some _ => some (.pu z ((xs.take b).drop a) (.x (mm - a)), s)
        | c, none => if a = 0 ∧ b = xs.length then some (.pu z xs c, s) else some (.pu z ((xs.take b).drop a) .u, s)
      | none => none
    | .se z i => if z ≠ sz then none else match slb 0 0 (l.map (·.ev e)) (h.map (·.ev e)) (m.map (·.ev e)) with
      | some _ => match m with
        | none => some (.se z i, s)
        | some _ => some (.pu z [] (.x 0), s)
      | none => none
    | _ => none
  | .slA sz len x l h m => match x.ev e with
    | .p i o => match s.get i with
      | some (.c cs _ _) => if o + len * sz ≤ cs.length then
          (slb len len (l.map (·.ev e)) (h.map (·.ev e)) (m.map (·.ev e))).map fun (a, b, mm) =>
            (if mm = a then .pu sz [] (.x 0) else .sl sz i (o + a * sz) (b - a) (some (mm - a)), s) else none
      | _ => none
    | _ => none
  | .mkf f cap => some (.fn f (cap.map (·.ev e)), s)
  | .mki t x => some (.ifc t (x.ev e), s)
  | .mmx max x y => match x.ev e, y.ev e with
    | .i k a, .i k' b => if k = k' then some (.i k (if max then (if a < b then b else a) else (if b < a then b else a)), s) else none
    | _, _ => none
  | .xr x => match x.ev e with
    | .i k v => (binI .xor k (if k.signed then -1 else k.max) v).map fun v => (v, s)
    | _ => none
  | .u1 x => match x.ev e with
    | .np => some (.np, s)
    | .p l o => match s.get l with
      | some (.c cs _ _) => if o < cs.length then some (.p l o, s) else none
      | _ => none
    | _ => none
  | .u2 t n x => match x.ev e with
    | .np => some (.np, s)
    | .p l o => match s.get l with
      | some (.c cs _ (some T)) => if T = t ∧ o = 0 ∧ n ≤ cs.length then some (.p l 0, s) else none
      | _ => none
    | _ => none
  | .usd x => match x.ev e with
    | .ns => some (.np, s)
    | .sl _ l o n c => if 0 < n ∨ 0 < c.getD 0 then some (.p l o, s) else none
    | _ => none
  | .ustr t x n => match x.ev e, n.ev e with
    | .np, .i .i64 k => if k = 0 then some (.s [], s) else none
    | .p l o, .i .i64 k => if k = 0 then some (.s [], s) else match s.get l with
      | some (.c cs z (some T)) => if T = t ∧ o = 0 ∧ 0 ≤ k ∧ k.toNat ≤ cs.length ∧ k ≤ 9223372036854775807 then
          (toBytes (cs.take k.toNat)).map fun bs => (.s bs, s.put l (some (.c cs (max z k.toNat) (some T)))) else none
      | _ => none
    | _, _ => none
  | .cnt x c => match x.ev e, c.ev e with
    | .s l, .i .u8 n => some (.i .i64 (cntB (UInt8.ofNat n.toNat) l), s)
    | _, _ => none
  | .ixb x c => match x.ev e, c.ev e with
    | .s l, .i .u8 n => some (.i .i64 (match ixB (UInt8.ofNat n.toNat) l with | some i => i | none => -1), s)
    | _, _ => none
  | .ym n xs => mop s n (xs.map (·.ev e))

inductive X where
  | nrm
  | ret
  | exit (id : Nat)
  deriving DecidableEq, Inhabited

def setD (e : List V) (d : Option Nat) (v : V) : List V :=
  match d with
  | some d => e.set d v
  | none => e

/-- is it to be done? (none: that can't be said) -/
def wanted (e : List V) : Option (Nat × Bool) → Option Bool
  | none => some true
  | some (t, w) => match e.getD t unV with
    | .b b => some (b == w)
    | .bad => none
    | _ => some false

def resV (e : List V) (s : St) : List Rs → Option (List V)
  | [] => some []
  | r :: rs =>
    match (match r with
      | .t t => some (e.getD t unV)
      | .c1 t => (aop e s (.load1 (.t t))).map (·.1)
      | .cn t n => (aop e s (.loadn n (.t t))).map (·.1)) with
    | none => none
    | some v => match resV e s rs with
      | none => none
      | some vs => some (v :: vs)

def packV : List V → V
  | [v] => v
  | vs => .tu vs

end Rf
