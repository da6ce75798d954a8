/-
  A layer of own lemmas, part 1: no statement of the program stands here.
-/
import Derived.Calls
import Derived.Laws.Sem
import Derived.Laws.Cells
import Derived.Laws.StructEq
import Derived.Laws.Strings
set_option linter.all false
namespace Rf
open Go
inductive Cap where
  | u
  | x (c : Nat)
  | t (k : Nat)
  | z
  deriving Inhabited, DecidableEq
inductive V where
  | bad
  | b (b : Bool)
  | i (k : IntKind) (n : Int)
  | s (l : List UInt8)
  | np
  | p (l o : Nat)
  | q (v : V) (o : Nat)
  | ns
  | sl (sz l o n : Nat) (c : Option Nat)
  | pu (sz : Nat) (xs : List V) (c : Cap)
  | nm
  | m (l : Nat)
  | fn (f : Nat) (cap : List V)
  | nf
  | ifc (t : Nat) (v : V)
  | ni
  | ag (cs : List V)
  | tu (vs : List V)
  | yl (l : Nat)
  | tp (b t : Nat)
  | se (sz l : Nat)
  deriving Inhabited
def V.cells : V → List V
  | .ag cs => cs
  | v => [v]
def V.isVal : V → Bool
  | .tu _ => false
  | .bad => false
  | _ => true
def unV : V := .tu []
inductive Arg where
  | t (n : Nat)
  | c (v : V)
  deriving Inhabited
inductive LK where
  | b
  | i
  | s
  deriving Inhabited, DecidableEq
inductive EK where
  | n
  | b
  | g (ks : List LK)
  | p
  | s
  | i
  | f
  | m
  deriving Inhabited, DecidableEq
inductive KK where
  | i
  | s
  | b
  | g (ks : List LK)
  deriving Inhabited
inductive Y where
  | mkm
  | mcl
  | mclr
  | sclr (z : List V)
  | look (kk : KK) (ok : Bool) (z : V)
  | upd (kk : KK)
  | ent (kk : KK) (z : V)
  | ens
  | mlen
  | mdel (kk : KK)
  | rng
  | nxt
  | ery
  | ta (t : Nat) (ok : Bool) (z : V)
  | tai (has : List Nat) (ok : Bool)
  | ieq (neg : Bool) (ts : List (Nat × EK))
  deriving Inhabited
inductive A where
  | mov (x : Arg)
  | pick (c a b : Arg)
  | alloc (t : Nat) (z : List V)
  | box (t : Nat) (w : Bool) (x : Arg)
  | build (z : List V) (ps : List (Nat × Nat × Arg))
  | bsl (t : Nat) (w ag : Bool) (n sz : Nat) (z : List V) (ps : List (Nat × Nat × Arg))
  | load1 (a : Arg)
  | loadn (n : Nat) (a : Arg)
  | store (n : Nat) (a v : Arg)
  | nilc (x : Arg)
  | bin (op : BinOp) (x y : Arg)
  | eql (neg : Bool) (kd : EK) (x y : Arg)
  | not (x : Arg)
  | neg (x : Arg)
  | conv (k : IntKind) (x : Arg)
  | s2b (t : Nat) (w : Bool) (x : Arg)
  | b2s (x : Arg)
  | fa (off : Nat) (x : Arg)
  | fld (off : Nat) (n : Option Nat) (x : Arg)
  | ia (sz : Nat) (x i : Arg)
  | iaA (sz len : Nat) (x i : Arg)
  | idxA (sz : Nat) (ag : Bool) (len : Nat) (x i : Arg)
  | idxS (x i : Arg)
  | ext (x : Arg) (i : Nat)
  | len (x : Arg)
  | lenS (x : Arg)
  | movS (x : Arg)
  | app (t : Nat) (w ag : Bool) (sz bytes : Nat) (x y : Arg)
  | cpy (sz : Nat) (x y : Arg)
  | mks (t : Nat) (sz bytes : Nat) (z : List V) (n c : Arg)
  | slS (x : Arg) (l h : Option Arg)
  | slc (sz : Nat) (x : Arg) (l h m : Option Arg)
  | slA (sz len : Nat) (x : Arg) (l h m : Option Arg)
  | mkf (f : Nat) (cap : List Arg)
  | mki (t : Nat) (x : Arg)
  | mmx (max : Bool) (x y : Arg)
  | xr (x : Arg)
  | u1 (x : Arg)
  | u2 (t n : Nat) (x : Arg)
  | usd (x : Arg)
  | ustr (t : Nat) (x n : Arg)
  | cnt (x c : Arg)
  | ixb (x c : Arg)
  | ym (n : Y) (xs : List Arg)
  deriving Inhabited
inductive K where
  | a (a : A)
  | call (f : Nat) (args : List Arg)
  | callv (f : Arg) (args : List Arg)
  | pan (x : Arg)
  | bad
  deriving Inhabited
structure I where
  d : Option Nat
  g : Option (Nat × Bool)
  k : K
  deriving Inhabited
inductive C where
  | skip
  | ops (l : List I)
  | drw (l : List (Nat × I))
  | seq (a b : C)
  | cond (c : Arg) (a b : C)
  | blk (id : Nat) (a : C)
  | loop (a : C)
  | exit (id : Nat)
  | ret
  | bad
  deriving Inhabited
inductive Rs where
  | t (t : Nat)
  | c1 (t : Nat)
  | cn (t n : Nat)
  deriving Inhabited
structure F where
  np : Nat
  nt : Nat
  body : C
  res : List Rs
  deriving Inhabited
inductive Tr (α : Type) where
  | e
  | n (l : Tr α) (x : Option α) (r : Tr α)
def Tr.get {α : Type} : Nat → Tr α → Nat → Option α
  | 0, _, _ => none
  | _ + 1, .e, _ => none
  | f + 1, .n l x r, k => if k = 0 then x else if k % 2 = 1 then Tr.get f l (k / 2) else Tr.get f r (k / 2 - 1)
def Tr.put {α : Type} (v : Option α) : Nat → Tr α → Nat → Tr α
  | 0, t, _ => t
  | f + 1, .e, k => if k = 0 then .n .e v .e else if k % 2 = 1 then .n (Tr.put v f .e (k / 2)) none .e else .n .e none (Tr.put v f .e (k / 2 - 1))
  | f + 1, .n l x r, k => if k = 0 then .n l v r else if k % 2 = 1 then .n (Tr.put v f l (k / 2)) x r else .n l x (Tr.put v f r (k / 2 - 1))
theorem Tr.get_put_same {α : Type} (v : Option α) : ∀ (f : Nat) (t : Tr α) (k : Nat), k < f → Tr.get f (Tr.put v f t k) k = v := by
  intro f
  induction f with
  | zero => intro t k h; omega
  | succ f ih =>
    intro t k h
    cases t with
    | e =>
      simp only [Tr.put]
      by_cases h0 : k = 0
      · simp [h0, Tr.get]
      · by_cases h1 : k % 2 = 1
        · simp [h0, h1, Tr.get, ih .e (k / 2) (by omega)]
        · simp [h0, h1, Tr.get, ih .e (k / 2 - 1) (by omega)]
    | n l x r =>
      simp only [Tr.put]
      by_cases h0 : k = 0
      · simp [h0, Tr.get]
      · by_cases h1 : k % 2 = 1
        · simp [h0, h1, Tr.get, ih l (k / 2) (by omega)]
        · simp [h0, h1, Tr.get, ih r (k / 2 - 1) (by omega)]
theorem Tr.get_e {α : Type} (f k : Nat) : Tr.get f (.e : Tr α) k = none := by cases f <;> rfl
theorem Tr.get_put_ne {α : Type} (v : Option α) : ∀ (f g : Nat) (t : Tr α) (k j : Nat), k < f → j < g → j ≠ k → Tr.get g (Tr.put v f t k) j = Tr.get g t j := by
  intro f
  induction f with
  | zero => intro g t k j h; omega
  | succ f ih =>
    intro g t k j hk hj hne
    cases g with
    | zero => omega
    | succ g =>
      cases t with
      | e =>
        simp only [Tr.put]
        by_cases h0 : k = 0
        · by_cases hj0 : j = 0
          · omega
          · by_cases hj1 : j % 2 = 1 <;> simp [h0, Tr.get, hj0, hj1, Tr.get_e]
        · by_cases h1 : k % 2 = 1
          · simp only [h0, h1, if_true, if_false, Tr.get]
            by_cases hj0 : j = 0
            · simp [hj0]
            · by_cases hj1 : j % 2 = 1
              · simp only [hj0, hj1, if_true, if_false]
                rw [ih g .e (k / 2) (j / 2) (by omega) (by omega) (by omega), Tr.get_e]
              · simp [hj0, hj1, Tr.get_e]
          · simp only [h0, h1, if_false, Tr.get]
            by_cases hj0 : j = 0
            · simp [hj0]
            · by_cases hj1 : j % 2 = 1
              · simp [hj0, hj1, Tr.get_e]
              · simp only [hj0, hj1, if_false]
                rw [ih g .e (k / 2 - 1) (j / 2 - 1) (by omega) (by omega) (by omega), Tr.get_e]
      | n l x r =>
        simp only [Tr.put]
        by_cases h0 : k = 0
        · by_cases hj0 : j = 0
          · omega
          · by_cases hj1 : j % 2 = 1 <;> simp [h0, Tr.get, hj0, hj1]
        · by_cases h1 : k % 2 = 1
          · simp only [h0, h1, if_true, if_false, Tr.get]
            by_cases hj0 : j = 0
            · simp [hj0]
            · by_cases hj1 : j % 2 = 1
              · simp only [hj0, hj1, if_true, if_false]
                rw [ih g l (k / 2) (j / 2) (by omega) (by omega) (by omega)]
              · simp [hj0, hj1]
          · simp only [h0, h1, if_false, Tr.get]
            by_cases hj0 : j = 0
            · simp [hj0]
            · by_cases hj1 : j % 2 = 1
              · simp [hj0, hj1]
              · simp only [hj0, hj1, if_false]
                rw [ih g r (k / 2 - 1) (j / 2 - 1) (by omega) (by omega) (by omega)]
structure Sl where
  t : Tr V
  m : Nat
def Sl.get (e : Sl) (t : Nat) : V := match Tr.get (t + 1) e.t t with
  | some v => v
  | none => unV
def Sl.set (e : Sl) (t : Nat) (v : V) : Sl := match Nat.blt t e.m with
  | true => ⟨Tr.put (some v) (t + 1) e.t t, e.m⟩
  | false => e
def Sl.setD (e : Sl) (d : Option Nat) (v : V) : Sl := match d with
  | some d => e.set d v
  | none => e
inductive Ox where
  | mp (es : List (V × V × Nat)) (clk : Nat)
  | it (m : Option Nat) (since : Nat) (seen : List Nat) (last : Nat)
  | lp (st : LoopState) (pend : Option Code) (f : Nat) (e : Sl) (ps : List Nat) (al9 bd : Code) (ds : Nat)
  | df (taken : Bool)
  deriving Inhabited
inductive O where
  | c (cs : List V) (z : Nat) (t : Option Nat)
  | t (e : Nat)
  | x (o : Ox)
  deriving Inhabited
structure St where
  h : Tr O
  n : Nat
  g : List Nat := []
def St.get (s : St) (l : Nat) : Option O := Tr.get (l + 1) s.h l
def St.put (s : St) (l : Nat) (o : Option O) : St := { s with h := Tr.put o (l + 1) s.h l }
def St.new (s : St) (o : O) : St := { s with h := Tr.put (some o) (s.n + 1) s.h s.n, n := s.n + 1 }
def St.L (s : St) (l : Nat) : Prop := l < s.n ∧ l ∉ s.g
@[simp] theorem St.put_n (s : St) (l : Nat) (o : Option O) : (s.put l o).n = s.n := rfl
@[simp] theorem St.new_n (s : St) (o : O) : (s.new o).n = s.n + 1 := rfl
@[simp] theorem St.put_g (s : St) (l : Nat) (o : Option O) : (s.put l o).g = s.g := rfl
@[simp] theorem St.new_g (s : St) (o : O) : (s.new o).g = s.g := rfl
@[simp] theorem St.put_L (s : St) (l : Nat) (o : Option O) : (s.put l o).L = s.L := rfl
theorem St.new_L {s : St} (o : O) {l : Nat} (h : s.L l) : (s.new o).L l := ⟨Nat.lt_succ_of_lt h.1, h.2⟩
theorem St.new_L0 {s : St} (o : O) (h : ∀ l ∈ s.g, l < s.n) : (s.new o).L s.n := ⟨Nat.lt_succ_self _, fun hm => Nat.lt_irrefl _ (h _ hm)⟩
@[simp] theorem St.get_put_same (s : St) (l : Nat) (o : Option O) : (s.put l o).get l = o :=
  Tr.get_put_same o (l + 1) s.h l (by omega)
theorem St.get_put_ne (s : St) (l j : Nat) (o : Option O) (h : j ≠ l) : (s.put l o).get j = s.get j :=
  Tr.get_put_ne o (l + 1) (j + 1) s.h l j (by omega) (by omega) h
@[simp] theorem St.get_new_same (s : St) (o : O) : (s.new o).get s.n = some o :=
  Tr.get_put_same (some o) (s.n + 1) s.h s.n (by omega)
theorem St.get_new_ne (s : St) (o : O) (j : Nat) (h : j ≠ s.n) : (s.new o).get j = s.get j :=
  Tr.get_put_ne (some o) (s.n + 1) (j + 1) s.h s.n j (by omega) (by omega) h
def Arg.ev (e : List V) : Arg → V
  | .t n => e.getD n unV
  | .c v => v
def setAt (cs : List V) (o : Nat) : List V → List V
  | [] => cs
  | v :: vs => setAt (cs.set o v) (o + 1) vs
def fillp (e : List V) : List V → List (Nat × Nat × Arg) → Option (List V)
  | z, [] => some z
  | z, (o, n, x) :: r => if (x.ev e).isVal = true ∧ (x.ev e).cells.length = n ∧ o + n ≤ z.length then fillp e (setAt z o (x.ev e).cells) r else none
def ltZ : Int → Int → Bool
  | .ofNat a, .ofNat b => Nat.blt a b
  | .negSucc _, .ofNat _ => true
  | .ofNat _, .negSucc _ => false
  | .negSucc a, .negSucc b => Nat.blt b a
def leZ (a b : Int) : Bool := !(ltZ b a)
def eqZ : Int → Int → Bool
  | .ofNat a, .ofNat b => Nat.beq a b
  | .negSucc a, .negSucc b => Nat.beq a b
  | _, _ => false
def lim : IntKind → Nat
  | .i8 => 127
  | .i16 => 32767
  | .i32 => 2147483647
  | .i64 => 9223372036854775807
  | .u8 => 255
  | .u16 => 65535
  | .u32 => 4294967295
  | .u64 => 18446744073709551615
def wrapF (k : IntKind) (n : Int) : Int :=
  match n with
  | .ofNat m => (match Nat.ble m (lim k) with | true => .ofNat m | false => k.wrap (.ofNat m))
  | .negSucc m => (match k.signed && Nat.ble m (lim k) with | true => .negSucc m | false => k.wrap (.negSucc m))
theorem ltZ_eq (a b : Int) : ltZ a b = decide (a < b) := by
  rw [Bool.eq_iff_iff]
  cases a <;> cases b <;> simp [ltZ, Nat.blt_eq] <;> omega
theorem leZ_eq (a b : Int) : leZ a b = decide (a ≤ b) := by
  rw [leZ, ltZ_eq, Bool.eq_iff_iff]; simp
theorem eqZ_eq (a b : Int) : eqZ a b = (a == b) := by
  rw [Bool.eq_iff_iff]
  cases a <;> cases b <;> simp [eqZ] <;> omega
theorem wrap_in (k : IntKind) (x : Int) (h0 : (if k.signed then -((lim k : Nat) : Int) - 1 else 0) ≤ x) (h1 : x ≤ ((lim k : Nat) : Int)) : k.wrap x = x := by
  unfold IntKind.wrap
  cases k <;> simp only [lim, IntKind.bits, IntKind.signed, Bool.true_and, Bool.false_and, decide_eq_true_eq, Bool.false_eq_true, if_false, if_true, ge_iff_le] at h0 h1 ⊢ <;> (try split) <;> omega
theorem wrapF_eq (k : IntKind) (n : Int) : wrapF k n = k.wrap n := by
  cases n with
  | ofNat m =>
    simp only [wrapF]
    split
    · rename_i h
      have h : m ≤ lim k := by simpa [Nat.ble_eq] using h
      exact (wrap_in k _ (by split <;> simp <;> omega) (by simp; omega)).symm
    · rfl
  | negSucc m =>
    simp only [wrapF]
    split
    · rename_i h
      simp only [Bool.and_eq_true, Nat.ble_eq] at h
      exact (wrap_in k _ (by rw [if_pos h.1]; omega) (by omega)).symm
    · rfl
def veq : LK → V → V → Option Bool
  | .b, .b a, .b b => some (a == b)
  | .i, .i k a, .i k' b => if k = k' then some (eqZ a b) else none
  | .s, .s a, .s b => some (a == b)
  | _, _, _ => none
def veqs : List LK → List V → List V → Option Bool
  | [], [], [] => some true
  | k :: ks, a :: x, b :: y => match veq k a b with
    | some true => veqs ks x y
    | r => r
  | _, _, _ => none
def peq : EK → V → V → Option Bool
  | .n, .i k a, .i k' b => if k = k' then some (eqZ a b) else none
  | .n, .s a, .s b => some (a == b)
  | .b, .b a, .b b => some (a == b)
  | .g ks, .ag a, .ag b => if a.length = ks.length ∧ b.length = ks.length then veqs ks a b else none
  | .p, .np, .np => some true
  | .p, .np, .p .. => some false
  | .p, .p .., .np => some false
  | .p, .p l o, .p l' o' => if l = l' then some (o == o') else none
  | .p, .np, .q .. => some false
  | .p, .q .., .np => some false
  | .s, .ns, .ns => some true
  | .s, .ns, .sl .. => some false
  | .s, .sl .., .ns => some false
  | .s, .se .., .ns => some false
  | .s, .pu _ (_ :: _) _, .ns => some false
  | .s, .pu _ [] .z, .ns => some false
  | .i, .ni, .ni => some true
  | .i, .ni, .ifc .. => some false
  | .i, .ifc .., .ni => some false
  | .f, .nf, .nf => some true
  | .f, .nf, .fn .. => some false
  | .f, .fn .., .nf => some false
  | .m, .nm, .nm => some true
  | .m, .m _, .nm => some false
  | .m, .nm, .m _ => some false
  | _, _, _ => none
def wrapK (k : IntKind) (n : Int) : V := .i k (wrapF k n)
theorem wrapK_eq (k : IntKind) (n : Int) : wrapK k n = .i k (k.wrap n) := by rw [wrapK, wrapF_eq]
def binI (op : BinOp) (k : IntKind) (a b : Int) : Option V :=
  match op with
  | .add => some (wrapK k (a + b))
  | .sub => some (wrapK k (a - b))
  | .mul => some (wrapK k (a * b))
  | .quo => if b = 0 then none else some (wrapK k (a.tdiv b))
  | .rem => if b = 0 then none else some (.i k (a.tmod b))
  | .and => some (wrapK k (BitVec.ofInt k.bits a &&& BitVec.ofInt k.bits b).toNat)
  | .or => some (wrapK k (BitVec.ofInt k.bits a ||| BitVec.ofInt k.bits b).toNat)
  | .xor => some (wrapK k (BitVec.ofInt k.bits a ^^^ BitVec.ofInt k.bits b).toNat)
  | .lss => some (.b (ltZ a b))
  | .leq => some (.b (leZ a b))
  | .gtr => some (.b (ltZ b a))
  | .geq => some (.b (leZ b a))
  | _ => none
def binV (op : BinOp) (x y : V) : Option V :=
  match op, x, y with
  | .shl, .i k a, .i _ b => if b < 0 then none else some (wrapK k (a * 2 ^ (min b.toNat k.bits)))
  | .shr, .i k a, .i _ b => if b < 0 then none else some (.i k (a.fdiv (2 ^ (min b.toNat k.bits))))
  | op, .i k a, .i k' b => if k = k' then binI op k a b else none
  | .add, .s a, .s b => if a.length + b.length < 9223372036854775808 then some (.s (a ++ b)) else none
  | .lss, .s a, .s b => some (.b (Op.bytesLess a b))
  | .leq, .s a, .s b => some (.b (Op.bytesLess a b || a == b))
  | .gtr, .s a, .s b => some (.b !(Op.bytesLess a b || a == b))
  | .geq, .s a, .s b => some (.b !(Op.bytesLess a b))
  | _, _, _ => none
def bnd (top : Nat) : V → Option Nat
  | .i _ v => if 0 ≤ v ∧ v ≤ top then some v.toNat else none
  | _ => none
def slb (len cap : Nat) (l h m : Option V) : Option (Nat × Nat × Nat) :=
  match (match m with | some v => bnd cap v | none => some cap) with
  | none => none
  | some m' =>
    match (match h, m with | some v, _ => bnd m' v | none, none => some len | none, some _ => none) with
    | none => none
    | some h' =>
      match (match l with | some v => bnd h' v | none => some 0) with
      | none => none
      | some l' => some (l', h', m')
def capOr (c : Cap) (d : Nat) : Nat :=
  match c with
  | .x c => c
  | _ => d
def mkEl (ag : Bool) (cs : List V) : V := if ag then .ag cs else cs.headD .bad
def chunks (ag : Bool) (sz : Nat) (cs : List V) : Nat → List V
  | 0 => []
  | n + 1 => mkEl ag (cs.take sz) :: chunks ag sz (cs.drop sz) n
def bytesOf (l : List UInt8) : List V := l.map fun b => .i .u8 b.toNat
def toBytes : List V → Option (List UInt8)
  | [] => some []
  | .i .u8 n :: r => (toBytes r).map (UInt8.ofNat n.toNat :: ·)
  | _ => none
def srcOf (s : St) (sz : Nat) : V → Option (Nat × List V)
  | .ns => some (0, [])
  | .se z _ => if z = sz then some (0, []) else none
  | .sl z l o n _ => match s.get l with
    | some (.c cs _ _) => if z = sz ∧ o + n * sz ≤ cs.length then some (n, (cs.drop o).take (n * sz)) else none
    | _ => none
  | .pu z xs _ => if z = sz then some (xs.length, (xs.map V.cells).flatten) else none
  | .s l => if sz = 1 then some (l.length, bytesOf l) else none
  | _ => none
def room (n bytes : Nat) : Bool := decide (n ≤ 2305843009213693952 ∧ (2 * n + 1024) * bytes ≤ 281474976710656)
def appV (s : St) (t : Nat) (w ag : Bool) (sz bytes : Nat) (x : V) (k : Nat) (new : List V) : Option (V × St) :=
  match x with
  | .ns =>
    if k = 0 then some (.ns, s) else
    if !room k bytes then none else
    if w then some (.pu sz (chunks ag sz new k) (.t s.n), s.new (.t (k * sz)))
    else some (.sl sz s.n 0 k none, s.new (.c new 0 (some t)))
  | .pu z xs c =>
    if z ≠ sz then none else
    if k = 0 then some (.pu z xs c, s) else
    if !room (xs.length + k) bytes then none else
    match c with
    | .u => none
    | .z => none
    | .x c => if c = xs.length then some (.pu sz (xs ++ chunks ag sz new k) (.t s.n), s.new (.t ((xs.length + k) * sz))) else none
    | .t t => match s.get t with
      | some (.t e) => if e = xs.length * sz then some (.pu sz (xs ++ chunks ag sz new k) (.t t), s.put t (some (.t ((xs.length + k) * sz)))) else none
      | _ => none
  | .se z' l =>
    match s.get l with
    | some (.c cs z _) =>
      if z' ≠ sz then none else
      if k = 0 then some (.se sz l, s) else
      if !room k bytes then none else
      if z ≤ cs.length then some (.sl sz s.n 0 k none, (s.put l none).new (.c new 0 none)) else none
    | _ => none
  | .sl z' l o n c =>
    match s.get l with
    | some (.c cs z ty) =>
      if z' ≠ sz then none else
      if k = 0 then some (.sl sz l o n c, s) else
      if !room (n + k) bytes then none else
      if cs.length < o + n * sz then none else
      match c with
      | some c =>
        if n + k ≤ c then
          if o + (n + k) * sz ≤ cs.length ∧ z ≤ o + n * sz then some (.sl sz l o (n + k) (some c), s.put l (some (.c (setAt cs (o + n * sz) new) z ty))) else none
        else some (.sl sz s.n 0 (n + k) none, s.new (.c ((cs.drop o).take (n * sz) ++ new) 0 (some t)))
      | none =>
        if o + (n + k) * sz ≤ cs.length then
          if z ≤ o + n * sz then some (.sl sz l o (n + k) none, s.put l (some (.c (setAt cs (o + n * sz) new) z ty))) else none
        else if z ≤ o + n * sz then
          some (.sl sz s.n 0 (n + k) none, (s.put l none).new (.c ((cs.drop o).take (n * sz) ++ new) (z - o) (if o = 0 ∧ ty = some t then some t else none)))
        else none
    | _ => none
  | _ => none
def cntB (c : UInt8) : List UInt8 → Nat
  | [] => 0
  | b :: r => if b = c then cntB c r + 1 else cntB c r
def ixB (c : UInt8) : List UInt8 → Option Nat
  | [] => none
  | b :: r => if b = c then some 0 else (ixB c r).map (· + 1)
def keq : KK → V → V → Option Bool
  | .i, .i k a, .i k' b => if k = k' then some (eqZ a b) else none
  | .s, .s a, .s b => some (a == b)
  | .b, .b a, .b b => some (a == b)
  | .g ks, .ag a, .ag b => if a.length = ks.length ∧ b.length = ks.length then veqs ks a b else none
  | _, _, _ => none
def kOk : KK → V → Bool
  | .i, .i _ _ => true
  | .s, .s _ => true
  | .b, .b _ => true
  | .g ks, .ag cs => Nat.beq cs.length ks.length
  | _, _ => false
def findK (kk : KK) (key : V) : List (V × V × Nat) → Nat → Option (Option (Nat × V))
  | [], _ => some none
  | (k, v, _) :: r, i => match keq kk key k with
    | some true => some (some (i, v))
    | some false => findK kk key r (i + 1)
    | none => none
def setVal (es : List (V × V × Nat)) (i : Nat) (k v : V) : List (V × V × Nat) := match es, i with
  | [], _ => []
  | (_, _, b) :: r, 0 => (k, v, b) :: r
  | x :: r, i + 1 => x :: setVal r i k v
def onlyVal (es : List (V × V × Nat)) (b : Nat) (v : V) : Option (List (V × V × Nat)) := match es with
  | [] => none
  | (k, u, b') :: r => if b' = b then some ((k, v, b) :: r) else (onlyVal r b v).map ((k, u, b') :: ·)
def bornAt (es : List (V × V × Nat)) (b : Nat) : Option (V × V) := match es with
  | [] => none
  | (k, v, b') :: r => if b' = b then some (k, v) else bornAt r b
def mop (s : St) : Y → List V → Option (V × St)
  | .mkm, [] => some (.m s.n, s.new (.x (.mp [] 0)))
  | .mkm, [.i _ _] => some (.m s.n, s.new (.x (.mp [] 0)))
  | .mclr, [m] => match m with
    | .nm => some (unV, s)
    | .m l => match s.get l with
      | some (.x (.mp _ clk)) => some (unV, s.put l (some (.x (.mp [] clk))))
      | _ => none
    | _ => none
  | .sclr z, [x] => match x with
    | .ns => some (unV, s)
    | .se .. => some (unV, s)
    | .pu _ [] _ => some (unV, s)
    | .sl z' l o n _ => if n = 0 then some (unV, s) else match s.get l with
      | some (.c cs zf ty) => if z' = z.length ∧ 0 < z.length ∧ o + n * z.length ≤ cs.length ∧ zf ≤ o then some (unV, s.put l (some (.c (setAt cs o (List.replicate n z).flatten) zf ty))) else none
      | _ => none
    | _ => none
  | .mcl, [x] => match x with
    | .ifc t (.m l) => match s.get l with
      | some (.x (.mp es clk)) => some (.ifc t (.m s.n), s.new (.x (.mp es clk)))
      | _ => none
    | _ => none
  | .look kk ok z, [m, k] => if kOk kk k then match m with
    | .nm => some (if ok then .tu [z, .b false] else z, s)
    | .m l => match s.get l with
      | some (.x (.mp es _)) => match findK kk k es 0 with
        | some (some (_, v)) => some (if ok then .tu [v, .b true] else v, s)
        | some none => some (if ok then .tu [z, .b false] else z, s)
        | none => none
      | _ => none
    | _ => none else none
  | .upd kk, [m, k, v] => if kOk kk k then match m with
    | .m l => match s.get l with
      | some (.x (.mp es clk)) => match findK kk k es 0 with
        | some (some (i, _)) => some (unV, s.put l (some (.x (.mp (setVal es i k v) clk))))
        | some none => some (unV, s.put l (some (.x (.mp (es ++ [(k, v, clk)]) (clk + 1)))))
        | none => none
      | _ => none
    | _ => none else none
  | .ent kk z, [m, k] => if kOk kk k then match m with
    | .m l => match s.get l with
      | some (.x (.mp es clk)) => match findK kk k es 0 with
        | some (some (i, v)) => match es[i]? with
          | some (_, _, b) => some (.tu [v, .i .i64 b], s.put l (some (.x (.mp (setVal es i k v) clk))))
          | none => none
        | some none => some (.tu [z, .i .i64 clk], s.put l (some (.x (.mp (es ++ [(k, z, clk)]) (clk + 1)))))
        | none => none
      | _ => none
    | _ => none else none
  | .ens, [m, b, v] => match m, b with
    | .m l, .i _ b => match s.get l with
      | some (.x (.mp es clk)) => if 0 ≤ b then match onlyVal es b.toNat v with
        | some es' => some (unV, s.put l (some (.x (.mp es' clk))))
        | none => none else none
      | _ => none
    | _, _ => none
  | .mlen, [m] => match m with
    | .nm => some (.i .i64 0, s)
    | .m l => match s.get l with
      | some (.x (.mp es _)) => some (.i .i64 es.length, s)
      | _ => none
    | _ => none
  | .mdel kk, [m, k] => if kOk kk k then match m with
    | .nm => some (unV, s)
    | .m l => match s.get l with
      | some (.x (.mp es clk)) => match findK kk k es 0 with
        | some (some (i, _)) => some (unV, s.put l (some (.x (.mp (es.eraseIdx i) clk))))
        | some none => some (unV, s.put l (some (.x (.mp es clk))))
        | none => none
      | _ => none
    | _ => none else none
  | .rng, [m] => match m with
    | .nm => some (.p s.n 0, s.new (.x (.it none 0 [] 0)))
    | .m l => match s.get l with
      | some (.x (.mp _ clk)) => some (.p s.n 0, s.new (.x (.it (some l) clk [] clk)))
      | _ => none
    | _ => none
  | .nxt, [x] => match x with
    | .p r 0 => match s.get r with
      | some (.x (.it none _ _ _)) => some (.tu [.b false], s)
      | some (.x (.it (some l) since seen last)) => match s.get l with
        | some (.x (.mp es clk)) =>
          if !seen.isEmpty && !es.isEmpty && es.all (fun x => decide (last ≤ x.2.2)) then none else
          match (es.filter fun x => !seen.contains x.2.2).filter (fun x => decide (x.2.2 < since)), (es.filter fun x => !seen.contains x.2.2).filter (fun x => decide (since ≤ x.2.2)) with
          | [], [] => some (.tu [.b false], s)
          | [(k, v, b)], [] => some (.tu [.b true, k, v], s.put r (some (.x (.it (some l) since (seen ++ [b]) clk))))
          | _, _ => none
        | _ => none
      | _ => none
    | _ => none
  | .ery, [x] => match x with
    | .p r 0 => match s.get r with
      | some (.x (.it (some l) _ seen last)) => match s.get l with
        | some (.x (.mp es clk)) => if clk = last then match seen.getLast? with
          | some b => match bornAt es b with
            | some (k, v) => some (.tu [k, v], s)
            | none => none
          | none => none else none
        | _ => none
      | _ => none
    | _ => none
  | .ta t ok z, [x] => match x with
    | .ni => if ok then some (.tu [z, .b false], s) else none
    | .ifc t' v => if t' = t then some (if ok then .tu [v, .b true] else v, s) else if ok then some (.tu [z, .b false], s) else none
    | _ => none
  | .tai has ok, [x] => match x with
    | .ni => if ok then some (.tu [.ni, .b false], s) else none
    | .ifc t v => if has.contains t then some (if ok then .tu [.ifc t v, .b true] else .ifc t v, s) else if ok then some (.tu [.ni, .b false], s) else none
    | _ => none
  | .ieq neg ts, [x, y] => match x, y with
    | .ifc t v, .ifc t' v' => if t = t' then match ts.find? (fun p => p.1 == t) with
      | some (_, kd) => (peq kd v v').map fun b => (.b (if neg then !b else b), s)
      | none => none else some (.b neg, s)
    | .ni, .ifc .. => some (.b neg, s)
    | .ifc .., .ni => some (.b neg, s)
    | _, _ => none
  | _, _ => none
def aop (e : List V) (s : St) : A → Option (V × St)
  | .mov x => some (x.ev e, s)
  | .pick c a b => match c.ev e with
    | .b true => some (a.ev e, s)
    | .b false => some (b.ev e, s)
    | _ => none
  | .alloc t z => some (.p s.n 0, s.new (.c z 0 (some t)))
  | .box t w x => if (x.ev e).isVal = true then (match w with
    | true => some (.q (x.ev e) 0, s)
    | false => some (.p s.n 0, s.new (.c (x.ev e).cells 0 (some t)))) else none
  | .build z ps => (fillp e z ps).map fun cs => (.ag cs, s)
  | .bsl t w ag n sz z ps => match fillp e (List.replicate n z).flatten ps with
    | none => none
    | some cs => match w with
      | true => some (.pu sz (chunks ag sz cs n) (.x n), s)
      | false => some (.sl sz s.n 0 n (some n), s.new (.c cs 0 (some t)))
  | .load1 a => match a.ev e with
    | .p l o => match s.get l with
      | some (.c cs _ _) => (cs[o]?).map fun v => (v, s)
      | _ => none
    | .q v o => (v.cells[o]?).map fun v => (v, s)
    | _ => none
  | .loadn n a => match a.ev e with
    | .p l o => match s.get l with
      | some (.c cs _ _) => if o + n ≤ cs.length then some (.ag ((cs.drop o).take n), s) else none
      | _ => none
    | .q v o => if o + n ≤ v.cells.length then some (.ag ((v.cells.drop o).take n), s) else none
    | _ => none
  | .store n a v => match a.ev e with
    | .p l o => match s.get l with
      | some (.c cs z ty) => if (v.ev e).isVal = true ∧ (v.ev e).cells.length = n ∧ o + n ≤ cs.length ∧ (n = 0 ∨ z ≤ o) then some (unV, s.put l (some (.c (setAt cs o (v.ev e).cells) z ty))) else none
      | _ => none
    | _ => none
  | .nilc x => match x.ev e with
    | .p l o => some (.p l o, s)
    | .q v o => some (.q v o, s)
    | .ifc t v => some (.ifc t v, s)
    | .fn f c => some (.fn f c, s)
    | _ => none
  | .bin op x y => (binV op (x.ev e) (y.ev e)).map fun v => (v, s)
  | .eql neg kd x y => (peq kd (x.ev e) (y.ev e)).map fun v => (.b (if neg then !v else v), s)
  | .not x => match x.ev e with
    | .b v => some (.b !v, s)
    | _ => none
  | .neg x => match x.ev e with
    | .i k v => some (wrapK k (0 - v), s)
    | _ => none
  | .conv k x => match x.ev e with
    | .i _ v => some (wrapK k v, s)
    | _ => none
  | .s2b t w x => match x.ev e with
    | .s l => match w with
      | true => some (.pu 1 (bytesOf l) .u, s)
      | false => some (.sl 1 s.n 0 l.length none, s.new (.c (bytesOf l) 0 none))
    | _ => none
  | .b2s x => match x.ev e with
    | .ns => some (.s [], s)
    | .sl z l o n _ => match s.get l with
      | some (.c cs _ _) => if z = 1 ∧ o + n ≤ cs.length then (toBytes ((cs.drop o).take n)).map fun l => (.s l, s) else none
      | _ => none
    | .pu z xs _ => if z = 1 then (toBytes ((xs.map V.cells).flatten)).map fun l => (.s l, s) else none
    | _ => none
  | .fa off x => match x.ev e with
    | .p l o => some (.p l (o + off), s)
    | .q v o => some (.q v (o + off), s)
    | _ => none
  | .fld off n x => match x.ev e with
    | .ag cs => match n with
      | none => (cs[off]?).map fun v => (v, s)
      | some n => if off + n ≤ cs.length then some (.ag ((cs.drop off).take n), s) else none
    | _ => none
  | .ia sz x i => match x.ev e, i.ev e with
    | .sl z l o n _, .i _ k => if z = sz ∧ 0 ≤ k ∧ k < n then some (.p l (o + k.toNat * sz), s) else none
    | .pu z xs _, .i _ k => if z = sz ∧ 0 ≤ k then (xs[k.toNat]?).map fun v => (.q v 0, s) else none
    | _, _ => none
  | .iaA sz len x i => match x.ev e, i.ev e with
    | .p l o, .i _ k => if 0 ≤ k ∧ k < len then some (.p l (o + k.toNat * sz), s) else none
    | .q v o, .i _ k => if 0 ≤ k ∧ k < len then some (.q v (o + k.toNat * sz), s) else none
    | _, _ => none
  | .idxA sz ag len x i => match x.ev e, i.ev e with
    | .ag cs, .i _ k => if 0 ≤ k ∧ k < len then
        (match ag with
        | true => if k.toNat * sz + sz ≤ cs.length then some (.ag ((cs.drop (k.toNat * sz)).take sz), s) else none
        | false => (cs[k.toNat * sz]?).map fun v => (v, s)) else none
    | _, _ => none
  | .idxS x i => match x.ev e, i.ev e with
    | .s l, .i _ k => if 0 ≤ k then (l[k.toNat]?).map fun v => (.i .u8 v.toNat, s) else none
    | _, _ => none
  | .ext x i => match x.ev e with
    | .tu vs => (vs[i]?).map fun v => (v, s)
    | _ => none
  | .len x => match x.ev e with
    | .ns => some (.i .i64 0, s)
    | .sl _ _ _ n _ => some (.i .i64 n, s)
    | .se _ _ => some (.i .i64 0, s)
    | .pu _ xs _ => some (.i .i64 xs.length, s)
    | _ => none
  | .lenS x => match x.ev e with
    | .s l => some (.i .i64 l.length, s)
    | _ => none
  | .movS x => match x.ev e with
    | .s l => some (.s l, s)
    | _ => none
  | .app t w ag sz bytes x y => match srcOf s sz (y.ev e) with
    | some (k, new) => appV s t w ag sz bytes (x.ev e) k new
    | none => none
  | .cpy sz x y => match x.ev e, srcOf s sz (y.ev e) with
    | .ns, some _ => some (.i .i64 0, s)
    | .sl z' l o n _, some (k, new) => match s.get l with
      | some (.c cs z ty) => if z' = sz ∧ o + n * sz ≤ cs.length ∧ z ≤ o then some (.i .i64 (min k n : Nat), s.put l (some (.c (setAt cs o (new.take (min k n * sz))) z ty))) else none
      | _ => none
    | _, _ => none
  | .mks t sz bytes z n c => match n.ev e, c.ev e with
    | .i _ n, .i _ c => if 0 ≤ n ∧ n ≤ c ∧ c * bytes ≤ 281474976710656 ∧ c < 9223372036854775808 then
        some (.sl sz s.n 0 n.toNat (some c.toNat), s.new (.c (List.replicate c.toNat z).flatten 0 (some t))) else none
    | _, _ => none
  | .slS x l h => match x.ev e with
    | .s t => (slb t.length t.length (l.map (·.ev e)) (h.map (·.ev e)) none).map fun (a, b, _) => (.s ((t.take b).drop a), s)
    | _ => none
  | .slc sz x l h m => match x.ev e with
    | .ns => (slb 0 0 (l.map (·.ev e)) (h.map (·.ev e)) (m.map (·.ev e))).map fun _ => (.ns, s)
    | .sl z i o n c => if z ≠ sz then none else match slb n (c.getD n) (l.map (·.ev e)) (h.map (·.ev e)) (m.map (·.ev e)) with
      | some (a, b, mm) =>
        match c, m with
        | none, none => if a = 0 ∨ a < n then some (.sl sz i (o + a * sz) (b - a) none, s) else match s.get i with
          | some (.c cs _ _) => if o + n * sz = cs.length then some (.se sz i, s) else some (.pu sz [] .u, s)
          | _ => none
        | none, some _ => match s.get i with
          | some (.c cs _ _) => if o + mm * sz ≤ cs.length then
              (if a = 0 ∨ a < mm then some (.sl sz i (o + a * sz) (b - a) (some (mm - a)), s) else some (.pu sz [] (.x 0), s)) else none
          | _ => none
        | some _, _ => if a = 0 ∨ a < mm then some (.sl sz i (o + a * sz) (b - a) (some (mm - a)), s) else some (.pu sz [] (.x 0), s)
      | none => match c, m with
        | none, none => (match s.get i with
          | some (.c cs _ _) => if sz = 0 then none else (match slb n ((cs.length - o) / sz) (l.map (·.ev e)) (h.map (·.ev e)) none with
            | some (a, b, _) => if n ≤ (cs.length - o) / sz ∧ (a = 0 ∨ a < (cs.length - o) / sz) then some (.sl sz i (o + a * sz) (b - a) none, s) else none
            | none => none)
          | _ => none)
        | _, _ => none
    | .pu z xs c => match slb xs.length (capOr c xs.length) (l.map (·.ev e)) (h.map (·.ev e)) (m.map (·.ev e)) with
      | some (a, b, mm) =>
        if z ≠ sz then none else
        if xs.length < b then none else
        match c, m with
        | .x _, _ => some (.pu z ((xs.take b).drop a) (.x (mm - a)), s)
        | _, some _ => some (.pu z ((xs.take b).drop a) (.x (mm - a)), s)
        | c, none => if a = 0 ∧ b = xs.length then some (.pu z xs c, s) else some (.pu z ((xs.take b).drop a) .u, s)
      | none => none
    | .se z i => if z ≠ sz then none else match slb 0 0 (l.map (·.ev e)) (h.map (·.ev e)) (m.map (·.ev e)) with
      | some _ => match m with
        | none => some (.se z i, s)
        | some _ => some (.pu z [] (.x 0), s)
      | none => none
    | _ => none
  | .slA sz len x l h m => match x.ev e with
    | .p i o => match s.get i with
      | some (.c cs _ _) => if o + len * sz ≤ cs.length then
          (slb len len (l.map (·.ev e)) (h.map (·.ev e)) (m.map (·.ev e))).map fun (a, b, mm) =>
            (if mm = a then .pu sz [] (.x 0) else .sl sz i (o + a * sz) (b - a) (some (mm - a)), s) else none
      | _ => none
    | _ => none
  | .mkf f cap => some (.fn f (cap.map (·.ev e)), s)
  | .mki t x => some (.ifc t (x.ev e), s)
  | .mmx max x y => match x.ev e, y.ev e with
    | .i k a, .i k' b => if k = k' then some (.i k (if max then (if a < b then b else a) else (if b < a then b else a)), s) else none
    | _, _ => none
  | .xr x => match x.ev e with
    | .i k v => (binI .xor k (if k.signed then -1 else k.max) v).map fun v => (v, s)
    | _ => none
  | .u1 x => match x.ev e with
    | .np => some (.np, s)
    | .p l o => match s.get l with
      | some (.c cs _ _) => if o < cs.length then some (.p l o, s) else none
      | _ => none
    | _ => none
  | .u2 t n x => match x.ev e with
    | .np => some (.np, s)
    | .p l o => match s.get l with
      | some (.c cs _ (some T)) => if T = t ∧ o = 0 ∧ n ≤ cs.length then some (.p l 0, s) else none
      | _ => none
    | _ => none
  | .usd x => match x.ev e with
    | .ns => some (.np, s)
    | .sl _ l o n c => if 0 < n ∨ 0 < c.getD 0 then some (.p l o, s) else none
    | _ => none
  | .ustr t x n => match x.ev e, n.ev e with
    | .np, .i .i64 k => if k = 0 then some (.s [], s) else none
    | .p l o, .i .i64 k => if k = 0 then some (.s [], s) else match s.get l with
      | some (.c cs z (some T)) => if T = t ∧ o = 0 ∧ 0 ≤ k ∧ k.toNat ≤ cs.length ∧ k ≤ 9223372036854775807 then
          (toBytes (cs.take k.toNat)).map fun bs => (.s bs, s.put l (some (.c cs (max z k.toNat) (some T)))) else none
      | _ => none
    | _, _ => none
  | .cnt x c => match x.ev e, c.ev e with
    | .s l, .i .u8 n => some (.i .i64 (cntB (UInt8.ofNat n.toNat) l), s)
    | _, _ => none
  | .ixb x c => match x.ev e, c.ev e with
    | .s l, .i .u8 n => some (.i .i64 (match ixB (UInt8.ofNat n.toNat) l with | some i => i | none => -1), s)
    | _, _ => none
  | .ym n xs => mop s n (xs.map (·.ev e))
inductive X where
  | nrm
  | ret
  | exit (id : Nat)
  deriving DecidableEq, Inhabited
def setD (e : List V) (d : Option Nat) (v : V) : List V :=
  match d with
  | some d => e.set d v
  | none => e
def wanted (e : List V) : Option (Nat × Bool) → Option Bool
  | none => some true
  | some (t, w) => match e.getD t unV with
    | .b b => some (b == w)
    | .bad => none
    | _ => some false
def resV (e : List V) (s : St) : List Rs → Option (List V)
  | [] => some []
  | r :: rs =>
    match (match r with
      | .t t => some (e.getD t unV)
      | .c1 t => (aop e s (.load1 (.t t))).map (·.1)
      | .cn t n => (aop e s (.loadn n (.t t))).map (·.1)) with
    | none => none
    | some v => match resV e s rs with
      | none => none
      | some vs => some (v :: vs)
def packV : List V → V
  | [v] => v
  | vs => .tu vs
end Rf
namespace Rf
open Go
def cellAt (h : Array Obj) (b o : Nat) : Option Value :=
  match h[b]? with
  | some (.cells c _ _) => c[o]?
  | _ => none
theorem cell?_eq (w : World) (b o : Nat) : w.cell? ⟨b, o, none⟩ = cellAt w.heap b o := by
  unfold World.cell? cellAt
  split <;> simp_all
def szAt (h : Array Obj) (b : Nat) : Option Nat :=
  match h[b]? with
  | some (.cells c _ _) => some c.size
  | _ => none
theorem szAt_same {h h' : Array Obj} {b : Nat} (e : h'[b]? = h[b]?) : szAt h' b = szAt h b := by unfold szAt; rw [e]
structure Tk where
  b : Nat
  d : Nat
  e : Nat
  z : Nat
  deriving Inhabited
structure Rw where
  b : Nat
  d : Nat
  k : Nat
  z : Nat
  deriving Inhabited
structure Cx where
  r : Nat → Rw
  tk : Nat → Tk
  fz : Nat → Nat → Prop
def capR (cx : Cx) (n : Nat → Prop) (c : Cap) (b d sz len cells cap : Nat) : Prop :=
  match c with
  | .u => True
  | .z => True
  | .x c => cap = c
  | .t k => n k ∧ cells ≤ (cx.tk k).e ∧ (cells = (cx.tk k).e → b = (cx.tk k).b ∧ d = (cx.tk k).d ∧ d + cap * sz ≤ (cx.tk k).z) ∧ len ≤ cap
def capN : Cap → Prop
  | .u => True
  | .z => False
  | .x c => c = 0
  | .t _ => False
def slR (cx : Cx) (sz l o : Nat) (c : Option Nat) (cap : Nat) : Prop :=
  match c with
  | some c => cap = c ∧ o + c * sz ≤ (cx.r l).k
  | none => (cx.r l).k ≤ o + cap * sz ∧ (cx.r l).d + o + cap * sz ≤ (cx.r l).z
inductive VRep (cx : Cx) (h : Array Obj) (n : Nat → Prop) : V → Value → Prop
  | bad (v : Value) : VRep cx h n .bad v
  | b (x : Bool) : VRep cx h n (.b x) (.bool x)
  | i (k : IntKind) (x : Int) : VRep cx h n (.i k x) (.int k x)
  | s (l : List UInt8) : VRep cx h n (.s l) (.string ⟨l.toArray⟩)
  | np : VRep cx h n .np (.pointer none)
  | p (l o : Nat) (hl : n l) : VRep cx h n (.p l o) (.pointer (some ⟨(cx.r l).b, (cx.r l).d + o, none⟩))
  | q (v : V) (o b d : Nat) (f : Nat → Value) (h1 : ∀ j, j < v.cells.length → (f j).oneCell' = true) (hz : ∀ j, j < v.cells.length → cx.fz b (d + j))
      (hc : ∀ j, j < v.cells.length → cellAt h b (d + j) = some (f j))
      (hv : ∀ j, j < v.cells.length → VRep cx h n (v.cells.getD j .bad) (f j)) :
      VRep cx h n (.q v o) (.pointer (some ⟨b, d + o, none⟩))
  | ns : VRep cx h n .ns (.slice none 0 0)
  | sl (sz l o k : Nat) (c : Option Nat) (cap : Nat) (hl : n l) (hk : k ≤ cap) (hc : slR cx sz l o c cap) :
      VRep cx h n (.sl sz l o k c) (.slice (some ⟨(cx.r l).b, (cx.r l).d + o, none⟩) k cap)
  | pu0 (sz : Nat) (c : Cap) (hc : capN c) : VRep cx h n (.pu sz [] c) (.slice none 0 0)
  | pu (sz : Nat) (xs : List V) (c : Cap) (a : Addr) (cap : Nat) (f : Nat → Nat → Value)
      (ha : xs ≠ [] → a.spot = none)
      (h1 : ∀ i j, i < xs.length → j < sz → (f i j).oneCell' = true)
      (hs : ∀ i, i < xs.length → (xs.getD i .bad).cells.length = sz)
      (hz : ∀ i j, i < xs.length → j < sz → cx.fz a.block (a.off + i * sz + j))
      (hc : ∀ i j, i < xs.length → j < sz → cellAt h a.block (a.off + i * sz + j) = some (f i j))
      (hv : ∀ i j, i < xs.length → j < sz → VRep cx h n ((xs.getD i .bad).cells.getD j .bad) (f i j))
      (hl : xs.length ≤ cap) (hr : capR cx n c a.block a.off sz xs.length (xs.length * sz) cap) (hp : ∀ k, c = .t k → a.spot = none) :
      VRep cx h n (.pu sz xs c) (.slice (some a) xs.length cap)
  | tp (b t : Nat) : VRep cx h n (.tp b t) (.pointer (some ⟨b, t, none⟩))
  | nm : VRep cx h n .nm (.map none)
  | m (l : Nat) (hl : n l) : VRep cx h n (.m l) (.map (some (cx.r l).b))
  | fn (f : Nat) (cs : List V) (vs : Array Value) (hs : vs.size = cs.length)
      (hv : ∀ j, j < cs.length → VRep cx h n (cs.getD j .bad) (vs.getD j undef)) : VRep cx h n (.fn f cs) (.func (.func f) #[] vs)
  | nf : VRep cx h n .nf .nilFunc
  | ifc (t : Nat) (v : V) (x : Value) (hv : VRep cx h n v x) : VRep cx h n (.ifc t v) (.iface t x)
  | ni : VRep cx h n .ni .nilIface
  | ag (cs : List V) (vs : Array Value) (hs : vs.size = cs.length) (h1 : ∀ j, j < cs.length → (vs.getD j undef).oneCell' = true)
      (hv : ∀ j, j < cs.length → VRep cx h n (cs.getD j .bad) (vs.getD j undef)) : VRep cx h n (.ag cs) (.agg vs)
  | tu (cs : List V) (vs : Array Value) (hs : vs.size = cs.length)
      (hv : ∀ j, j < cs.length → VRep cx h n (cs.getD j .bad) (vs.getD j undef)) : VRep cx h n (.tu cs) (.tuple vs)
  | yl (l : Nat) (hl : n l) : VRep cx h n (.yl l) (.func (.yield (cx.r l).b) #[] #[])
  | se (sz l : Nat) (a : Addr) (cap : Nat) (hl : n l) (hc : cap = 0 ∨ (a = ⟨(cx.r l).b, (cx.r l).d + (cx.r l).k, none⟩ ∧ (cx.r l).d + (cx.r l).k + cap * sz ≤ (cx.r l).z)) : VRep cx h n (.se sz l) (.slice (some a) 0 cap)
structure Later (cx : Cx) (h : Array Obj) (n : Nat → Prop) (cx' : Cx) (h' : Array Obj) (n' : Nat → Prop) : Prop where
  nle : ∀ l, n l → n' l
  r : ∀ l, n l → cx'.r l = cx.r l
  tk : ∀ l, n l → cx'.tk l = cx.tk l ∨ (cx.tk l).e < (cx'.tk l).e
  fz : ∀ b o, cx.fz b o → cx'.fz b o
  cell : ∀ b o, cx.fz b o → cellAt h' b o = cellAt h b o
  sz : ∀ b o, cx.fz b o → szAt h' b = szAt h b
theorem Later.refl (cx : Cx) (h : Array Obj) (n : Nat → Prop) : Later cx h n cx h n :=
  ⟨fun _ h => h, fun _ _ => rfl, fun _ _ => .inl rfl, fun _ _ h => h, fun _ _ _ => rfl, fun _ _ _ => rfl⟩
theorem Later.trans {cx cx' cx'' : Cx} {h h' h'' : Array Obj} {n n' n'' : Nat → Prop} (a : Later cx h n cx' h' n') (b : Later cx' h' n' cx'' h'' n'') :
    Later cx h n cx'' h'' n'' where
  nle := fun l hl => b.nle l (a.nle l hl)
  r := fun l hl => by rw [b.r l (a.nle l hl), a.r l hl]
  tk := fun l hl => by
    rcases b.tk l (a.nle l hl) with h1 | h1 <;> rcases a.tk l hl with h2 | h2
    · exact .inl (by rw [h1, h2])
    · exact .inr (by rw [h1]; exact h2)
    · exact .inr (by rw [← h2]; exact h1)
    · exact .inr (Nat.lt_trans h2 h1)
  fz := fun b' o hf => b.fz _ _ (a.fz _ _ hf)
  cell := fun b' o hf => by rw [b.cell _ _ (a.fz _ _ hf), a.cell _ _ hf]
  sz := fun b' o hf => by rw [b.sz _ _ (a.fz _ _ hf), a.sz _ _ hf]
theorem VRep.later {cx cx' : Cx} {h h' : Array Obj} {n n' : Nat → Prop} (L : Later cx h n cx' h' n') {v : V} {x : Value} (hv : VRep cx h n v x) :
    VRep cx' h' n' v x := by
  induction hv with
  | bad v => exact .bad v
  | b x => exact .b x
  | i k x => exact .i k x
  | s l => exact .s l
  | np => exact .np
  | p l o hl => rw [← L.r l hl]; exact .p l o (L.nle _ hl)
  | q v o b d f h1 hz hc _ ih =>
    exact .q v o b d f h1 (fun j hj => L.fz _ _ (hz j hj)) (fun j hj => by rw [L.cell _ _ (hz j hj)]; exact hc j hj) (fun j hj => ih j hj)
  | ns => exact .ns
  | sl sz l o k c cap hl hk hc => rw [← L.r l hl]; exact .sl sz l o k c cap (L.nle _ hl) hk (by unfold slR at hc ⊢; rw [L.r l hl]; exact hc)
  | pu0 sz c hc => exact .pu0 sz c hc
  | pu sz xs c a cap f ha h1 hs hz hc _ hl hr hp ih =>
    refine .pu sz xs c a cap f ha h1 hs (fun i j hi hj => L.fz _ _ (hz i j hi hj)) (fun i j hi hj => by rw [L.cell _ _ (hz i j hi hj)]; exact hc i j hi hj) (fun i j hi hj => ih i j hi hj) hl ?_ hp
    cases c with
    | u => trivial
    | z => trivial
    | x c => exact hr
    | t k =>
      obtain ⟨h1, h2, h3, h4⟩ := hr
      rcases L.tk k h1 with e | e
      · refine ⟨L.nle _ h1, by rw [e]; exact h2, by rw [e]; exact h3, h4⟩
      · refine ⟨L.nle _ h1, by omega, fun h => by omega, h4⟩
  | tp b t => exact .tp b t
  | nm => exact .nm
  | m l hl => rw [← L.r l hl]; exact .m l (L.nle _ hl)
  | fn f cs vs hs _ ih => exact .fn f cs vs hs ih
  | nf => exact .nf
  | ifc t v x _ ih => exact .ifc t v x ih
  | ni => exact .ni
  | ag cs vs hs h1 _ ih => exact .ag cs vs hs h1 ih
  | tu cs vs hs _ ih => exact .tu cs vs hs ih
  | yl l hl => rw [← L.r l hl]; exact .yl l (L.nle _ hl)
  | se sz l a cap hl hc => exact .se sz l a cap (L.nle _ hl) (by rw [L.r l hl]; exact hc)
inductive All2 {α β : Type} (R : α → β → Prop) : List α → List β → Prop
  | nil : All2 R [] []
  | cons {a : α} {b : β} {l : List α} {m : List β} (h : R a b) (t : All2 R l m) : All2 R (a :: l) (b :: m)
theorem All2.mono {α β : Type} {R R' : α → β → Prop} (hr : ∀ a b, R a b → R' a b) : ∀ {l : List α} {m : List β}, All2 R l m → All2 R' l m
  | _, _, .nil => .nil
  | _, _, .cons h t => .cons (hr _ _ h) (t.mono hr)
theorem All2.inv_cons {α β : Type} {R : α → β → Prop} {a : α} {l : List α} {m : List β} (h : All2 R (a :: l) m) : ∃ b m', m = b :: m' ∧ R a b ∧ All2 R l m' := by
  cases h with
  | cons h t => exact ⟨_, _, rfl, h, t⟩
theorem All2.inv_nil {α β : Type} {R : α → β → Prop} {m : List β} (h : All2 R [] m) : m = [] := by cases h; rfl
theorem All2.append {α β : Type} {R : α → β → Prop} : ∀ {l l' : List α} {m m' : List β}, All2 R l m → All2 R l' m' → All2 R (l ++ l') (m ++ m')
  | _, _, _, _, .nil, h => h
  | _, _, _, _, .cons h t, h' => .cons h (t.append h')
theorem All2.len {α β : Type} {R : α → β → Prop} : ∀ {l : List α} {m : List β}, All2 R l m → l.length = m.length
  | _, _, .nil => rfl
  | _, _, .cons _ t => by simp [t.len]
def ER (cx : Cx) (h : Array Obj) (n : Nat → Prop) (x : V × V × Nat) (y : MapEntry) : Prop := y.born = x.2.2 ∧ VRep cx h n x.1 y.key ∧ VRep cx h n x.2.1 y.val
def XRep (cx : Cx) (h : Array Obj) (n : Nat → Prop) (b : Nat) : Ox → Prop
  | .mp es clk => ∃ l : List MapEntry, h[b]? = some (.map l.toArray clk) ∧ All2 (ER cx h n) es l
  | .it m since seen last => h[b]? = some (.mapIter (m.map fun l => (cx.r l).b) since seen.toArray last) ∧ ∀ k, m = some k → n k
  | .lp st pend f e ps al9 bd ds => ∃ tmps : Array Value, h[b]? = some (.loop ⟨st, pend, f, tmps, ps.toArray, al9, bd, (cx.r ds).b⟩) ∧ n ds ∧
      ∃ el : List V, el.length = e.m ∧ (∀ t, e.get t = el.getD t unV) ∧ el.length = tmps.size ∧ ∀ t, VRep cx h n (el.getD t unV) (tmps.getD t undef)
  | .df taken => h[b]? = some (.deferred (if taken then none else some []))
theorem XRep.later {cx cx' : Cx} {h h' : Array Obj} {n n' : Nat → Prop} (L : Later cx h n cx' h' n') {b : Nat} (hb : h'[b]? = h[b]?) {o : Ox} (H : XRep cx h n b o) : XRep cx' h' n' b o := by
  cases o with
  | mp es clk =>
    obtain ⟨l, h1, h2⟩ := H
    exact ⟨l, by rw [hb, h1], h2.mono fun x y hx => ⟨hx.1, hx.2.1.later L, hx.2.2.later L⟩⟩
  | it m since seen last =>
    obtain ⟨h1, h2⟩ := H
    refine ⟨?_, fun k hk => L.nle _ (h2 k hk)⟩
    rw [hb, h1]
    cases m with
    | none => rfl
    | some k => simp only [Option.map_some]; rw [L.r k (h2 k rfl)]
  | lp st pend f e ps al9 bd ds =>
    obtain ⟨tmps, h1, h2, el, h3, h4, h5, h6⟩ := H
    exact ⟨tmps, by rw [hb, h1, L.r ds h2], L.nle _ h2, el, h3, h4, h5, fun t => (h6 t).later L⟩
  | df taken => exact hb.trans H
def ORep (cx : Cx) (h : Array Obj) (n : Nat → Prop) (l : Nat) : O → Prop
  | .c cs z t => ∃ arr el lo hi, h[(cx.r l).b]? = some (.cells arr el (lo, hi)) ∧ ((cx.r l).d + cs.length ≤ arr.size ∧ cs.length = (cx.r l).k ∧ arr.size = (cx.r l).z ∧ ∀ T, t = some T → el = T ∧ (cx.r l).d = 0 ∧ (lo = hi ∨ hi ≤ z)) ∧
      (∀ j, j < cs.length → (arr.getD ((cx.r l).d + j) undef).oneCell' = true) ∧
      (∀ j, j < cs.length → VRep cx h n (cs.getD j .bad) (arr.getD ((cx.r l).d + j) undef)) ∧
      (∀ j, (cx.r l).d + z ≤ j → j < arr.size → ¬ (lo ≤ j ∧ j < hi))
  | .t e => ∃ arr el lo hi, h[(cx.tk l).b]? = some (.cells arr el (lo, hi)) ∧ (cx.tk l).e = e ∧ ((cx.tk l).d + e ≤ arr.size ∧ arr.size = (cx.tk l).z) ∧
      (∀ j, (cx.tk l).d + e ≤ j → j < arr.size → ¬ (lo ≤ j ∧ j < hi))
  | .x o => (cx.r l).d = 0 ∧ XRep cx h n (cx.r l).b o
def blk (cx : Cx) (l : Nat) : O → Nat
  | .c _ _ _ => (cx.r l).b
  | .t _ => (cx.tk l).b
  | .x _ => (cx.r l).b
theorem XRep.some {cx : Cx} {h : Array Obj} {n : Nat → Prop} {b : Nat} {o : Ox} (H : XRep cx h n b o) : ∃ x, h[b]? = some x := by
  cases o with
  | mp es clk => obtain ⟨arr, h1, -⟩ := H; exact ⟨_, h1⟩
  | it m since seen last => exact ⟨_, H.1⟩
  | lp st pend f e ps al9 bd ds => obtain ⟨tmps, h1, -⟩ := H; exact ⟨_, h1⟩
  | df taken => exact ⟨_, H⟩
def Own (cx : Cx) (s : St) (b : Nat) : Prop := ∃ l o, s.get l = some o ∧ blk cx l o = b
structure Rel (cx : Cx) (s : St) (h : Array Obj) : Prop where
  wf : ∀ l, ¬ s.L l → s.get l = none
  gl : ∀ l ∈ s.g, l < s.n
  obj : ∀ l o, s.get l = some o → ORep cx h s.L l o
  inj : ∀ l l' o o', s.get l = some o → s.get l' = some o' → l ≠ l' → blk cx l o ≠ blk cx l' o'
  fzl : ∀ b o, cx.fz b o → (cellAt h b o).isSome
  fzo : ∀ l cs z t, s.get l = some (.c cs z t) → ∀ o, ¬ cx.fz (cx.r l).b o
  fzt : ∀ l e, s.get l = some (.t e) → ∀ o, cx.fz (cx.tk l).b o → o < (cx.tk l).d + e
structure Ext (cx : Cx) (s : St) (h : Array Obj) (cx' : Cx) (s' : St) (h' : Array Obj) : Prop where
  later : Later cx h s.L cx' h' s'.L
  size : h.size ≤ h'.size
  frame : ∀ b, b < h.size → ¬ Own cx s b → h'[b]? = h[b]?
  own : ∀ b, Own cx' s' b → Own cx s b ∨ h.size ≤ b
  nfz : ∀ b o, cx'.fz b o → cx.fz b o ∨ Own cx s b ∨ h.size ≤ b
theorem Ext.refl (cx : Cx) (s : St) (h : Array Obj) : Ext cx s h cx s h :=
  ⟨.refl _ _ _, Nat.le_refl _, fun _ _ _ => rfl, fun _ h => .inl h, fun _ _ h => .inl h⟩
theorem Ext.trans {cx cx' cx'' : Cx} {s s' s'' : St} {h h' h'' : Array Obj} (a : Ext cx s h cx' s' h') (b : Ext cx' s' h' cx'' s'' h'') : Ext cx s h cx'' s'' h'' where
  later := a.later.trans b.later
  size := Nat.le_trans a.size b.size
  frame := fun x hx ho => by
    rw [b.frame x (Nat.lt_of_lt_of_le hx a.size) (fun h1 => (a.own x h1).elim ho (fun h2 => by omega)), a.frame x hx ho]
  own := fun x hx => (b.own x hx).elim (fun h1 => a.own x h1) (fun h1 => .inr (Nat.le_trans a.size h1))
  nfz := fun x o hx => (b.nfz x o hx).elim (fun h1 => a.nfz x o h1) (fun h1 => h1.elim (fun h2 => .inr (a.own x h2)) (fun h2 => .inr (.inr (Nat.le_trans a.size h2))))
theorem cellAt_lt {h : Array Obj} {b o : Nat} (hc : (cellAt h b o).isSome) : b < h.size := by
  unfold cellAt at hc
  rcases Nat.lt_or_ge b h.size with h1 | h1
  · exact h1
  · rw [Array.getElem?_eq_none h1] at hc; simp at hc
theorem cellAt_of {h : Array Obj} {b : Nat} {arr : Array Value} {el : TypeId} {fr : Nat × Nat} (hb : h[b]? = some (.cells arr el fr)) (o : Nat) : cellAt h b o = arr[o]? := by
  simp [cellAt, hb]
def Sub (s' s : St) : Prop := (s'.n = s.n ∧ s'.g = s.g) ∧ ∀ l o, s'.get l = some o → s.get l = some o
theorem Sub.refl (s : St) : Sub s s := ⟨⟨rfl, rfl⟩, fun _ _ h => h⟩
theorem Sub.L {s' s : St} (h : Sub s' s) : s'.L = s.L := by unfold St.L; rw [h.1.1, h.1.2]
theorem Own.sub {cx : Cx} {s' s : St} (hs : Sub s' s) {b : Nat} (h : Own cx s' b) : Own cx s b :=
  let ⟨l, o, h1, h2⟩ := h; ⟨l, o, hs.2 l o h1, h2⟩
theorem Rel.sub {cx : Cx} {s' s : St} {h : Array Obj} (hs : Sub s' s) (R : Rel cx s h) : Rel cx s' h where
  wf := fun l hl => by
    cases hg : s'.get l with
    | none => rfl
    | some o => have := hs.2 l o hg; rw [R.wf l (by rw [← hs.L]; exact hl)] at this; cases this
  obj := fun l o hg => by have := R.obj l o (hs.2 l o hg); rw [← hs.L] at this; exact this
  gl := fun l hl => by rw [hs.1.1]; exact R.gl l (by rw [← hs.1.2]; exact hl)
  inj := fun l l' o o' h1 h2 => R.inj l l' o o' (hs.2 l o h1) (hs.2 l' o' h2)
  fzl := R.fzl
  fzo := fun l cs z t hg => R.fzo l cs z t (hs.2 l _ hg)
  fzt := fun l e hg => R.fzt l e (hs.2 l _ hg)
theorem Ext.sub {cx cx' : Cx} {s s' s'' : St} {h h' : Array Obj} (E : Ext cx s h cx' s' h') (hs : Sub s'' s') : Ext cx s h cx' s'' h' where
  later := by rw [hs.L]; exact E.later
  size := E.size
  frame := E.frame
  own := fun b hb => E.own b (hb.sub hs)
  nfz := E.nfz
theorem Rel.own_lt {cx : Cx} {s : St} {h : Array Obj} (R : Rel cx s h) {b : Nat} (hb : Own cx s b) : b < h.size := by
  obtain ⟨l, o, h1, h2⟩ := hb
  have ho := R.obj l o h1
  cases o with
  | c cs z ty =>
    obtain ⟨arr, el, lo, hi, h3, -⟩ := ho
    rw [← h2]; simp only [blk]
    rcases Nat.lt_or_ge (cx.r l).b h.size with h4 | h4
    · exact h4
    · rw [Array.getElem?_eq_none h4] at h3; cases h3
  | t e =>
    obtain ⟨arr, el, lo, hi, h3, -⟩ := ho
    rw [← h2]; simp only [blk]
    rcases Nat.lt_or_ge (cx.tk l).b h.size with h4 | h4
    · exact h4
    · rw [Array.getElem?_eq_none h4] at h3; cases h3
  | x o =>
    obtain ⟨y, h3⟩ := XRep.some ho.2
    rw [← h2]; simp only [blk]
    rcases Nat.lt_or_ge (cx.r l).b h.size with h4 | h4
    · exact h4
    · rw [Array.getElem?_eq_none h4] at h3; cases h3
theorem Rel.name_L {cx : Cx} {s : St} {h : Array Obj} (R : Rel cx s h) {l : Nat} {o : O} (hg : s.get l = some o) : s.L l := by
  rcases Classical.em (s.L l) with h1 | h1
  · exact h1
  · rw [R.wf l h1] at hg; cases hg
theorem Rel.name_lt {cx : Cx} {s : St} {h : Array Obj} (R : Rel cx s h) {l : Nat} {o : O} (hg : s.get l = some o) : l < s.n := (R.name_L hg).1
def GV (cx : Cx) (h : Array Obj) (n : Nat → Prop) (g : Nat) (v : V) : Prop :=
  VRep cx h n (.q v 0) (.pointer (some ⟨g, 0, none⟩)) ∧ ∀ cs, v = .ag cs → cs ≠ [] → szAt h g = some cs.length
theorem GV.later {cx cx' : Cx} {h h' : Array Obj} {n n' : Nat → Prop} {g : Nat} {v : V} (H : GV cx h n g v) (L : Later cx h n cx' h' n') : GV cx' h' n' g v := by
  refine ⟨H.1.later L, fun cs e hne => ?_⟩
  rw [← H.2 cs e hne]
  have h1 := H.1
  subst e
  generalize ex : Value.pointer (some ⟨g, 0, none⟩) = x at h1
  cases h1 with
  | q v o b d f h1 hz hc hv =>
    cases ex
    exact L.sz _ _ (hz 0 (List.length_pos_iff.2 hne))
end Rf
namespace Rf
open Go
theorem Rel.change {cx cx' : Cx} {s s' : St} {h h' : Array Obj} (R : Rel cx s h) (l0 : Nat) (o0 : O) (B : Nat) (hB : blk cx' l0 o0 = B)
    (hn : ∀ l, s.L l → s'.L l) (hgl : ∀ l ∈ s'.g, l < s'.n) (hl0 : s'.L l0) (get0 : s'.get l0 = some o0) (getO : ∀ l, l ≠ l0 → ∀ o, s'.get l = some o → s.get l = some o)
    (cxr : ∀ l, l ≠ l0 → cx'.r l = cx.r l) (cxt : ∀ l, l ≠ l0 → cx'.tk l = cx.tk l)
    (r0 : s.L l0 → cx'.r l0 = cx.r l0) (tk0 : s.L l0 → cx'.tk l0 = cx.tk l0 ∨ (cx.tk l0).e < (cx'.tk l0).e)
    (size : h.size ≤ h'.size) (same : ∀ b, b < h.size → b ≠ B → h'[b]? = h[b]?)
    (own : h.size ≤ B ∨ ∃ l1 o1, s.get l1 = some o1 ∧ blk cx l1 o1 = B ∧ (l1 = l0 ∨ s'.get l1 = none))
    (fz : ∀ b o, cx.fz b o → cx'.fz b o) (fzB : ∀ o, cx.fz B o → cellAt h' B o = cellAt h B o ∧ szAt h' B = szAt h B)
    (nfz : ∀ b o, cx'.fz b o → cx.fz b o ∨ (b = B ∧ (cellAt h' b o).isSome))
    (rep0 : Later cx h s.L cx' h' s'.L → ORep cx' h' s'.L l0 o0)
    (fzo0 : ∀ cs z t, o0 = .c cs z t → ∀ o, ¬ cx'.fz B o) (fzt0 : ∀ e, o0 = .t e → ∀ o, cx'.fz B o → o < (cx'.tk l0).d + e) :
    Rel cx' s' h' ∧ Ext cx s h cx' s' h' := by
  have hcell : ∀ b o, cx.fz b o → cellAt h' b o = cellAt h b o := fun b o hf => by
    by_cases hb : b = B
    · rw [hb] at hf ⊢; exact (fzB o hf).1
    · have := cellAt_lt (R.fzl b o hf)
      unfold cellAt; rw [same b this hb]
  have hsz : ∀ b o, cx.fz b o → szAt h' b = szAt h b := fun b o hf => by
    by_cases hb : b = B
    · rw [hb] at hf ⊢; exact (fzB o hf).2
    · exact szAt_same (same b (cellAt_lt (R.fzl b o hf)) hb)
  have later : Later cx h s.L cx' h' s'.L :=
    ⟨hn, fun l hl => if he : l = l0 then by rw [he]; exact r0 (he ▸ hl) else cxr l he, fun l hl => if he : l = l0 then by rw [he]; exact tk0 (he ▸ hl) else .inl (cxt l he), fz, hcell, hsz⟩
  -- another object's block
  have blkS : ∀ l, l ≠ l0 → ∀ o, blk cx' l o = blk cx l o := fun l he o => by cases o <;> simp [blk, cxr l he, cxt l he]
  have blkB : ∀ l, l ≠ l0 → ∀ o, s'.get l = some o → blk cx l o ≠ B := fun l he o hg hb => by
    have hg0 := getO l he o hg
    rcases own with h1 | ⟨l1, o1, h1, h2, h3⟩
    · have := R.own_lt ⟨l, o, hg0, rfl⟩; omega
    · by_cases e1 : l = l1
      · subst e1
        rcases h3 with h3 | h3
        · exact he h3
        · rw [h3] at hg; cases hg
      · exact R.inj l l1 o o1 hg0 h1 e1 (by rw [hb, h2])
  have heapS : ∀ l, l ≠ l0 → ∀ o, s'.get l = some o → h'[blk cx l o]? = h[blk cx l o]? := fun l he o hg =>
    same _ (R.own_lt ⟨l, o, getO l he o hg, rfl⟩) (blkB l he o hg)
  refine ⟨⟨?_, hgl, ?_, ?_, ?_, ?_, ?_⟩, later, size, ?_, ?_, ?_⟩
  · intro l hl
    cases hg : s'.get l with
    | none => rfl
    | some o =>
      by_cases he : l = l0
      · exact (hl (he ▸ hl0)).elim
      · exact (hl (hn l (R.name_L (getO l he o hg)))).elim
  · intro l o hg
    by_cases he : l = l0
    · subst he; rw [get0] at hg; cases hg; exact rep0 later
    · have h1 := R.obj l o (getO l he o hg)
      have h2 := heapS l he o hg
      cases o with
      | c cs z ty =>
        obtain ⟨arr, el, lo, hi, a1, a2, a3, a4, a5⟩ := h1
        simp only [blk] at h2
        refine ⟨arr, el, lo, hi, by rw [cxr l he, h2, a1], by rw [cxr l he]; exact a2, by rw [cxr l he]; exact a3, fun j hj => by rw [cxr l he]; exact (a4 j hj).later later, by rw [cxr l he]; exact a5⟩
      | t e =>
        obtain ⟨arr, el, lo, hi, a1, a2, a3, a4⟩ := h1
        simp only [blk] at h2
        exact ⟨arr, el, lo, hi, by rw [cxt l he, h2, a1], by rw [cxt l he]; exact a2, by rw [cxt l he]; exact a3, by rw [cxt l he]; exact a4⟩
      | x o =>
        simp only [blk] at h2
        show (cx'.r l).d = 0 ∧ XRep cx' h' s'.L (cx'.r l).b o
        rw [cxr l he]; exact ⟨h1.1, XRep.later later h2 h1.2⟩
  · intro l l' o o' hg hg' hne
    by_cases he : l = l0
    · subst he
      rw [get0] at hg; cases hg
      rw [blkS l' (Ne.symm hne), hB]
      exact Ne.symm (blkB l' (Ne.symm hne) o' hg')
    · rw [blkS l he]
      by_cases he' : l' = l0
      · subst he'
        rw [get0] at hg'; cases hg'
        rw [hB]; exact blkB l he o hg
      · rw [blkS l' he']
        exact R.inj l l' o o' (getO l he o hg) (getO l' he' o' hg') hne
  · intro b o hf
    rcases nfz b o hf with h1 | ⟨_, h2⟩
    · rw [hcell b o h1]; exact R.fzl b o h1
    · exact h2
  · intro l cs z ty hg o hf
    by_cases he : l = l0
    · subst he; rw [get0] at hg; cases hg
      have hB' : (cx'.r l).b = B := hB
      rw [hB'] at hf; exact fzo0 cs z ty rfl o hf
    · rw [cxr l he] at hf
      rcases nfz _ o hf with h1 | ⟨h1, _⟩
      · exact R.fzo l cs z ty (getO l he _ hg) o h1
      · exact blkB l he _ hg h1
  · intro l e hg o hf
    by_cases he : l = l0
    · subst he; rw [get0] at hg; cases hg
      have hB' : (cx'.tk l).b = B := hB
      rw [hB'] at hf; exact fzt0 e rfl o hf
    · rw [cxt l he] at hf ⊢
      rcases nfz _ o hf with h1 | ⟨h1, _⟩
      · exact R.fzt l e (getO l he _ hg) o h1
      · exact (blkB l he _ hg h1).elim
  · intro b hb ho
    refine same b hb (fun hbB => ?_)
    rcases own with h1 | ⟨l1, o1, h1, h2, _⟩
    · omega
    · exact ho ⟨l1, o1, h1, by rw [h2, hbB]⟩
  · rintro b ⟨l, o, hg, hbl⟩
    by_cases he : l = l0
    · subst he; rw [get0] at hg; cases hg
      rw [hB] at hbl
      rcases own with h1 | ⟨l1, o1, h1, h2, _⟩
      · exact .inr (by omega)
      · exact .inl ⟨l1, o1, h1, by rw [h2, hbl]⟩
    · rw [blkS l he] at hbl
      exact .inl ⟨l, o, getO l he o hg, hbl⟩
  · intro b o hf
    rcases nfz b o hf with h1 | ⟨h1, _⟩
    · exact .inl h1
    · rcases own with h2 | ⟨l1, o1, h2, h3, _⟩
      · exact .inr (.inr (by omega))
      · exact .inr (.inl ⟨l1, o1, h2, by rw [h3, h1]⟩)
theorem cellAt_push_lt {h : Array Obj} {x : Obj} {b o : Nat} (hb : b < h.size) : cellAt (h.push x) b o = cellAt h b o := by
  unfold cellAt; rw [Array.getElem?_push_lt hb, Array.getElem?_eq_getElem hb]
theorem cellAt_push_new {h : Array Obj} {arr : Array Value} {el : TypeId} {fr : Nat × Nat} {o : Nat} : cellAt (h.push (.cells arr el fr)) h.size o = arr[o]? := by
  simp [cellAt]
theorem Rel.new {cx : Cx} {s : St} {h : Array Obj} (R : Rel cx s h) (cs : List V) (arr : Array Value) (el : TypeId) (ty : Option Nat) (hty : ∀ T, ty = some T → el = T) (hs : cs.length ≤ arr.size)
    (h1 : ∀ j, j < cs.length → (arr.getD j undef).oneCell' = true) (hv : ∀ j, j < cs.length → VRep cx h s.L (cs.getD j .bad) (arr.getD j undef)) :
    ∃ cx', cx'.r s.n = ⟨h.size, 0, cs.length, arr.size⟩ ∧ Rel cx' (s.new (.c cs 0 ty)) (h.push (.cells arr el)) ∧ Ext cx s h cx' (s.new (.c cs 0 ty)) (h.push (.cells arr el)) := by
  refine ⟨{ cx with r := fun l => if l = s.n then ⟨h.size, 0, cs.length, arr.size⟩ else cx.r l }, by simp, ?_⟩
  have hfz : ∀ o, ¬ cx.fz h.size o := fun o hf => by have := cellAt_lt (R.fzl _ _ hf); omega
  refine R.change s.n (.c cs 0 ty) h.size (by simp [blk]) (fun _ h => St.new_L _ h) (fun l hl => Nat.lt_succ_of_lt (R.gl l hl)) (St.new_L0 _ R.gl) (by simp) (fun l hl o hg => by rwa [St.get_new_ne _ _ _ hl] at hg)
    (fun l hl => by simp [hl]) (fun _ _ => rfl) (fun hl => (Nat.lt_irrefl _ hl.1).elim) (fun _ => .inl rfl) (by simp)
    (fun b hb _ => by rw [Array.getElem?_push_lt hb, Array.getElem?_eq_getElem hb]) (.inl (Nat.le_refl _)) (fun _ _ h => h) (fun o hf => (hfz o hf).elim) (fun _ _ h => .inl h)
    (fun L => ?_) (fun _ _ _ _ o hf => hfz o hf) (fun _ he => by cases he)
  exact ⟨arr, el, 0, 0, by simp, ⟨by simpa using hs, by simp, by simp, fun T hT => ⟨hty T hT, by simp, .inl rfl⟩⟩, by simpa using h1, fun j hj => by simpa using (hv j hj).later L, fun j _ _ => by omega⟩
theorem Rel.newF {cx : Cx} {s : St} {h : Array Obj} (R : Rel cx s h) (cs : List V) (arr : Array Value) (el : TypeId) (lo hi : Nat) (hf : ∀ j, j < arr.size → ¬ (lo ≤ j ∧ j < hi)) (hs : cs.length ≤ arr.size)
    (h1 : ∀ j, j < cs.length → (arr.getD j undef).oneCell' = true) (hv : ∀ j, j < cs.length → VRep cx h s.L (cs.getD j .bad) (arr.getD j undef)) :
    ∃ cx', cx'.r s.n = ⟨h.size, 0, cs.length, arr.size⟩ ∧ Rel cx' (s.new (.c cs 0 none)) (h.push (.cells arr el (lo, hi))) ∧ Ext cx s h cx' (s.new (.c cs 0 none)) (h.push (.cells arr el (lo, hi))) := by
  refine ⟨{ cx with r := fun l => if l = s.n then ⟨h.size, 0, cs.length, arr.size⟩ else cx.r l }, by simp, ?_⟩
  have hfz : ∀ o, ¬ cx.fz h.size o := fun o hf => by have := cellAt_lt (R.fzl _ _ hf); omega
  refine R.change s.n (.c cs 0 none) h.size (by simp [blk]) (fun _ h => St.new_L _ h) (fun l hl => Nat.lt_succ_of_lt (R.gl l hl)) (St.new_L0 _ R.gl) (by simp) (fun l hl o hg => by rwa [St.get_new_ne _ _ _ hl] at hg)
    (fun l hl => by simp [hl]) (fun _ _ => rfl) (fun hl => (Nat.lt_irrefl _ hl.1).elim) (fun _ => .inl rfl) (by simp)
    (fun b hb _ => by rw [Array.getElem?_push_lt hb, Array.getElem?_eq_getElem hb]) (.inl (Nat.le_refl _)) (fun _ _ h => h) (fun o hf => (hfz o hf).elim) (fun _ _ h => .inl h)
    (fun L => ?_) (fun _ _ _ _ o hf => hfz o hf) (fun _ he => by cases he)
  exact ⟨arr, el, lo, hi, by simp, ⟨by simpa using hs, by simp, by simp, fun T hT => by cases hT⟩, by simpa using h1, fun j hj => by simpa using (hv j hj).later L, fun j _ hj => hf j hj⟩
theorem Rel.imm {cx : Cx} {s : St} {h : Array Obj} (R : Rel cx s h) (arr : Array Value) (el : TypeId) (fr : Nat × Nat) :
    ∃ cx', (∀ j, j < arr.size → cx'.fz h.size j) ∧ Rel cx' s (h.push (.cells arr el fr)) ∧ Ext cx s h cx' s (h.push (.cells arr el fr)) := by
  refine ⟨{ cx with fz := fun b o => cx.fz b o ∨ (b = h.size ∧ o < arr.size) }, fun j hj => .inr ⟨rfl, hj⟩, ?_⟩
  have hcell : ∀ b o, cx.fz b o → cellAt (h.push (.cells arr el fr)) b o = cellAt h b o := fun b o hf => cellAt_push_lt (cellAt_lt (R.fzl b o hf))
  have later : Later cx h s.L { cx with fz := fun b o => cx.fz b o ∨ (b = h.size ∧ o < arr.size) } (h.push (.cells arr el fr)) s.L :=
    ⟨fun _ h => h, fun _ _ => rfl, fun _ _ => .inl rfl, fun _ _ h => .inl h, hcell, fun b o hf => szAt_same (by have hb := cellAt_lt (R.fzl b o hf); rw [Array.getElem?_push_lt hb, Array.getElem?_eq_getElem hb])⟩
  have heap : ∀ b, b < h.size → (h.push (.cells arr el fr))[b]? = h[b]? := fun b hb => by rw [Array.getElem?_push_lt hb, Array.getElem?_eq_getElem hb]
  refine ⟨⟨R.wf, R.gl, fun l o hg => ?_, R.inj, fun b o hf => ?_, fun l cs z ty hg o hf => ?_, fun l e hg o hf => ?_⟩, later, by simp, fun b hb _ => heap b hb, fun b hb => .inl hb, fun b o hf => ?_⟩
  · have h1 := R.obj l o hg
    have h2 := heap _ (R.own_lt ⟨l, o, hg, rfl⟩)
    cases o with
    | c cs z ty =>
      obtain ⟨arr', el', lo, hi, a1, a2, a3, a4, a5⟩ := h1
      exact ⟨arr', el', lo, hi, h2.trans a1, a2, a3, fun j hj => (a4 j hj).later later, a5⟩
    | t e =>
      obtain ⟨arr', el', lo, hi, a1, a2⟩ := h1
      exact ⟨arr', el', lo, hi, h2.trans a1, a2⟩
    | x o => exact ⟨h1.1, XRep.later later h2 h1.2⟩
  · rcases hf with hf | ⟨rfl, hf⟩
    · rw [hcell b o hf]; exact R.fzl b o hf
    · rw [cellAt_push_new]; simp [hf]
  · rcases hf with hf | ⟨hf, _⟩
    · exact R.fzo l cs z ty hg o hf
    · have := R.own_lt ⟨l, _, hg, rfl⟩; simp only [blk] at this; have hf' : (cx.r l).b = h.size := hf; omega
  · rcases hf with hf | ⟨hf, _⟩
    · exact R.fzt l e hg o hf
    · have := R.own_lt ⟨l, _, hg, rfl⟩; simp only [blk] at this; have hf' : (cx.tk l).b = h.size := hf; omega
  · rcases hf with hf | ⟨rfl, _⟩
    · exact .inl hf
    · exact .inr (.inr (Nat.le_refl _))
theorem Rel.upd {cx : Cx} {s : St} {h : Array Obj} (R : Rel cx s h) {l : Nat} {cs : List V} {z : Nat} {ty : Option Nat} (hg : s.get l = some (.c cs z ty)) (cs' : List V) (z' : Nat) (arr' : Array Value) (el : TypeId) (lo hi : Nat) (hel : ∃ arr0 fr0, h[(cx.r l).b]? = some (.cells arr0 el fr0)) (hfr : ∀ T, ty = some T → lo = hi ∨ hi ≤ z')
    (hs : (cx.r l).d + cs'.length ≤ arr'.size) (hk : cs'.length = cs.length) (hz : arr'.size = (cx.r l).z)
    (h1 : ∀ j, j < cs'.length → (arr'.getD ((cx.r l).d + j) undef).oneCell' = true) (hv : ∀ j, j < cs'.length → VRep cx h s.L (cs'.getD j .bad) (arr'.getD ((cx.r l).d + j) undef))
    (hf : ∀ j, (cx.r l).d + z' ≤ j → j < arr'.size → ¬ (lo ≤ j ∧ j < hi)) (h' : Array Obj) (hh : h' = h.setIfInBounds (cx.r l).b (.cells arr' el (lo, hi))) :
    Rel cx (s.put l (some (.c cs' z' ty))) h' ∧ Ext cx s h cx (s.put l (some (.c cs' z' ty))) h' := by
  subst hh
  have hb := R.own_lt ⟨l, _, hg, rfl⟩
  simp only [blk] at hb
  have hl := R.name_L hg
  have hfz := R.fzo l cs z ty hg
  refine R.change l (.c cs' z' ty) (cx.r l).b (by simp [blk]) (fun _ h => h) R.gl hl (by simp) (fun l' hl' o ho => by rwa [St.get_put_ne _ _ _ _ hl'] at ho)
    (fun _ _ => rfl) (fun _ _ => rfl) (fun _ => rfl) (fun _ => .inl rfl) (by simp) (fun b hb' hne => by rw [Array.getElem?_setIfInBounds_ne (Ne.symm hne)])
    (.inr ⟨l, _, hg, rfl, .inl rfl⟩) (fun _ _ h => h) (fun o hf => (hfz o hf).elim) (fun _ _ h => .inl h) (fun L => ?_) (fun _ _ _ _ o hf => hfz o hf) (fun _ he => by cases he)
  obtain ⟨_, _, _, _, hb0, ⟨_, hk0, _, hty⟩, _⟩ := R.obj l _ hg
  obtain ⟨arr0, fr0, hel⟩ := hel
  rw [hb0] at hel; cases hel
  exact ⟨arr', el, lo, hi, by simp [hb], ⟨hs, by rw [hk, hk0], hz, fun T hT => ⟨(hty T hT).1, (hty T hT).2.1, hfr T hT⟩⟩, h1, fun j hj => (hv j hj).later L, hf⟩
theorem Rel.tokNew {cx : Cx} {s : St} {h : Array Obj} (R : Rel cx s h) (arr : Array Value) (el : TypeId) (e : Nat) (he : e ≤ arr.size) :
    ∃ cx', cx'.tk s.n = ⟨h.size, 0, e, arr.size⟩ ∧ (∀ j, j < e → cx'.fz h.size j) ∧ Rel cx' (s.new (.t e)) (h.push (.cells arr el)) ∧ Ext cx s h cx' (s.new (.t e)) (h.push (.cells arr el)) := by
  refine ⟨{ cx with tk := fun l => if l = s.n then ⟨h.size, 0, e, arr.size⟩ else cx.tk l, fz := fun b o => cx.fz b o ∨ (b = h.size ∧ o < e) }, by simp, fun j hj => .inr ⟨rfl, hj⟩, ?_⟩
  have hfz : ∀ o, ¬ cx.fz h.size o := fun o hf => by have := cellAt_lt (R.fzl _ _ hf); omega
  refine R.change s.n (.t e) h.size (by simp [blk]) (fun _ h => St.new_L _ h) (fun l hl => Nat.lt_succ_of_lt (R.gl l hl)) (St.new_L0 _ R.gl) (by simp) (fun l hl o hg => by rwa [St.get_new_ne _ _ _ hl] at hg)
    (fun l hl => rfl) (fun l hl => by simp [hl]) (fun hl => (Nat.lt_irrefl _ hl.1).elim) (fun hl => (Nat.lt_irrefl _ hl.1).elim) (by simp)
    (fun b hb _ => by rw [Array.getElem?_push_lt hb, Array.getElem?_eq_getElem hb]) (.inl (Nat.le_refl _)) (fun _ _ h => .inl h) (fun o hf => (hfz o hf).elim) (fun b o h => ?_)
    (fun L => ?_) (fun _ _ _ h => by cases h) (fun e' h' o hf => ?_)
  · rcases h with h | ⟨rfl, h⟩
    · exact .inl h
    · exact .inr ⟨rfl, by rw [cellAt_push_new]; simp; omega⟩
  · exact ⟨arr, el, 0, 0, by simp, by simp, by simpa using he, fun j _ _ => by omega⟩
  · cases h'
    rcases hf with hf | ⟨_, hf⟩
    · exact (hfz o hf).elim
    · simpa using hf
theorem Rel.tokMove {cx : Cx} {s : St} {h : Array Obj} (R : Rel cx s h) {k e : Nat} (hg : s.get k = some (.t e)) (arr : Array Value) (el : TypeId) (e' : Nat) (he : e' ≤ arr.size) (hlt : e < e') :
    ∃ cx', cx'.tk k = ⟨h.size, 0, e', arr.size⟩ ∧ (∀ j, j < e' → cx'.fz h.size j) ∧ Rel cx' (s.put k (some (.t e'))) (h.push (.cells arr el)) ∧ Ext cx s h cx' (s.put k (some (.t e'))) (h.push (.cells arr el)) := by
  refine ⟨{ cx with tk := fun l => if l = k then ⟨h.size, 0, e', arr.size⟩ else cx.tk l, fz := fun b o => cx.fz b o ∨ (b = h.size ∧ o < e') }, by simp, fun j hj => .inr ⟨rfl, hj⟩, ?_⟩
  have hfz : ∀ o, ¬ cx.fz h.size o := fun o hf => by have := cellAt_lt (R.fzl _ _ hf); omega
  have hk := R.name_L hg
  obtain ⟨arr0, el0, lo0, hi0, -, he0, -⟩ := R.obj k _ hg
  refine R.change k (.t e') h.size (by simp [blk]) (fun _ h => h) R.gl hk (by simp) (fun l hl o ho => by rwa [St.get_put_ne _ _ _ _ hl] at ho)
    (fun l hl => rfl) (fun l hl => by simp [hl]) (fun _ => rfl) (fun _ => .inr (by simp [he0, hlt])) (by simp)
    (fun b hb _ => by rw [Array.getElem?_push_lt hb, Array.getElem?_eq_getElem hb]) (.inl (Nat.le_refl _)) (fun _ _ h => .inl h) (fun o hf => (hfz o hf).elim) (fun b o h => ?_)
    (fun L => ?_) (fun _ _ _ h => by cases h) (fun e1 h' o hf => ?_)
  · rcases h with h | ⟨rfl, h⟩
    · exact .inl h
    · exact .inr ⟨rfl, by rw [cellAt_push_new]; simp; omega⟩
  · exact ⟨arr, el, 0, 0, by simp, by simp, by simpa using he, fun j _ _ => by omega⟩
  · cases h'
    rcases hf with hf | ⟨_, hf⟩
    · exact (hfz o hf).elim
    · simpa using hf
theorem Rel.tokGrow {cx : Cx} {s : St} {h : Array Obj} (R : Rel cx s h) {k e : Nat} (hg : s.get k = some (.t e)) (arr arr' : Array Value) (el : TypeId) (lo hi : Nat)
    (hb : h[(cx.tk k).b]? = some (.cells arr el (lo, hi))) (hsz : arr'.size = arr.size) (hold : ∀ j, j < (cx.tk k).d + e → arr'[j]? = arr[j]?)
    (e' : Nat) (he : (cx.tk k).d + e' ≤ arr.size) (hlt : e < e') (h' : Array Obj) (hh : h' = h.setIfInBounds (cx.tk k).b (.cells arr' el (lo, hi))) :
    ∃ cx', cx'.tk k = ⟨(cx.tk k).b, (cx.tk k).d, e', (cx.tk k).z⟩ ∧ (∀ j, j < (cx.tk k).d + e' → (cx.tk k).d + e ≤ j → cx'.fz (cx.tk k).b j) ∧ Rel cx' (s.put k (some (.t e'))) h' ∧ Ext cx s h cx' (s.put k (some (.t e'))) h' := by
  subst hh
  refine ⟨{ cx with tk := fun l => if l = k then ⟨(cx.tk k).b, (cx.tk k).d, e', (cx.tk k).z⟩ else cx.tk l, fz := fun b o => cx.fz b o ∨ (b = (cx.tk k).b ∧ (cx.tk k).d + e ≤ o ∧ o < (cx.tk k).d + e') }, by simp, fun j hj hj' => .inr ⟨rfl, hj', hj⟩, ?_⟩
  have hk := R.name_L hg
  obtain ⟨arr0, el0, lo0, hi0, h0, he0, hs0, hf0⟩ := R.obj k _ hg
  rw [hb] at h0; cases h0
  have hbl : (cx.tk k).b < h.size := by have := R.own_lt ⟨k, _, hg, rfl⟩; simpa [blk] using this
  have hnew : ∀ o, cellAt (h.setIfInBounds (cx.tk k).b (.cells arr' el (lo, hi))) (cx.tk k).b o = arr'[o]? := fun o => by simp [cellAt, hbl]
  refine R.change k (.t e') (cx.tk k).b (by simp [blk]) (fun _ h => h) R.gl hk (by simp) (fun l hl o ho => by rwa [St.get_put_ne _ _ _ _ hl] at ho)
    (fun l hl => rfl) (fun l hl => by simp [hl]) (fun _ => rfl) (fun _ => .inr (by simp [he0, hlt])) (by simp)
    (fun b hb' hne => by rw [Array.getElem?_setIfInBounds_ne (Ne.symm hne)]) (.inr ⟨k, _, hg, rfl, .inl rfl⟩) (fun _ _ h => .inl h) (fun o hf => ?_) (fun b o h => ?_)
    (fun L => ?_) (fun _ _ _ h => by cases h) (fun e1 h' o hf => ?_)
  · refine ⟨by rw [hnew, hold o (R.fzt k e hg o hf), cellAt_of hb], ?_⟩
    simp only [szAt, hb, Array.getElem?_setIfInBounds_self_of_lt hbl, hsz]
  · rcases h with h | ⟨rfl, h1, h2⟩
    · exact .inl h
    · exact .inr ⟨rfl, by rw [hnew]; simp; omega⟩
  · exact ⟨arr', el, lo, hi, by simp [hbl], by simp, ⟨by simpa [hsz] using he, by simp [hsz, hs0.2]⟩, fun j hj hj' => hf0 j (by simp at hj; omega) (by omega)⟩
  · cases h'
    rcases hf with hf | ⟨_, _, hf⟩
    · have := R.fzt k e hg o hf; simp; omega
    · simpa using hf
theorem Rel.regrow {cx : Cx} {s : St} {h : Array Obj} (R : Rel cx s h) {l : Nat} {cs : List V} {z : Nat} {ty : Option Nat} (hg : s.get l = some (.c cs z ty)) (d : Nat) (cs' : List V) (z' : Nat) (ty' : Option Nat) (hty' : ∀ T, ty' = some T → ty = some T ∧ d = 0) (arr' : Array Value) (el : TypeId) (lo hi : Nat) (hel : ∃ arr0 fr0, h[(cx.r l).b]? = some (.cells arr0 el fr0)) (hfr : ∀ T, ty' = some T → lo = hi ∨ hi ≤ z')
    (hs : (cx.r l).d + d + cs'.length ≤ arr'.size) (hz : arr'.size = (cx.r l).z)
    (h1 : ∀ j, j < cs'.length → (arr'.getD ((cx.r l).d + d + j) undef).oneCell' = true) (hv : ∀ j, j < cs'.length → VRep cx h s.L (cs'.getD j .bad) (arr'.getD ((cx.r l).d + d + j) undef))
    (hf : ∀ j, (cx.r l).d + d + z' ≤ j → j < arr'.size → ¬ (lo ≤ j ∧ j < hi)) (h' : Array Obj) (hh : h' = h.setIfInBounds (cx.r l).b (.cells arr' el (lo, hi))) :
    ∃ cx', cx'.r s.n = ⟨(cx.r l).b, (cx.r l).d + d, cs'.length, (cx.r l).z⟩ ∧ Rel cx' ((s.put l none).new (.c cs' z' ty')) h' ∧ Ext cx s h cx' ((s.put l none).new (.c cs' z' ty')) h' := by
  subst hh
  have hb := R.own_lt ⟨l, _, hg, rfl⟩
  simp only [blk] at hb
  have hl := R.name_L hg
  have hfz := R.fzo l cs z ty hg
  refine ⟨{ cx with r := fun i => if i = s.n then ⟨(cx.r l).b, (cx.r l).d + d, cs'.length, (cx.r l).z⟩ else cx.r i }, by simp, ?_⟩
  refine R.change s.n (.c cs' z' ty') (cx.r l).b (by simp [blk]) (fun _ h => St.new_L (s := s.put l none) _ h) (fun l hl => Nat.lt_succ_of_lt (R.gl l hl)) (St.new_L0 (s := s.put l none) _ R.gl) (St.get_new_same (s.put l none) (.c cs' z' ty')) (fun l' hl' o ho => ?_)
    (fun _ hl' => by simp [hl']) (fun _ _ => rfl) (fun hl' => (Nat.lt_irrefl _ hl'.1).elim) (fun _ => .inl rfl) (by simp) (fun b hb' hne => by rw [Array.getElem?_setIfInBounds_ne (Ne.symm hne)])
    (.inr ⟨l, _, hg, rfl, .inr ?_⟩) (fun _ _ h => h) (fun o hf => (hfz o hf).elim) (fun _ _ h => .inl h) (fun L => ?_) (fun _ _ _ _ o hf => hfz o hf) (fun _ he => by cases he)
  · rw [St.get_new_ne _ _ _ (by simpa using hl')] at ho
    by_cases e : l' = l
    · subst e; simp at ho
    · rwa [St.get_put_ne _ _ _ _ e] at ho
  · rw [St.get_new_ne _ _ _ (by have := hl.1; simp; omega)]; simp
  · obtain ⟨_, _, _, _, hb0, ⟨_, _, _, hty⟩, _⟩ := R.obj l _ hg
    obtain ⟨arr0, fr0, hel⟩ := hel
    rw [hb0] at hel; cases hel
    exact ⟨arr', el, lo, hi, by simp [hb], ⟨by simpa [Nat.add_assoc] using hs, by simp, by simp [hz], fun T hT => by
      obtain ⟨h1, hd⟩ := hty' T hT
      have := hty T h1; exact ⟨this.1, by simp [this.2.1, hd], hfr T hT⟩⟩, by simpa [Nat.add_assoc] using h1, fun j hj => by simpa [Nat.add_assoc] using (hv j hj).later L, by simpa [Nat.add_assoc] using hf⟩
theorem Rel.newX {cx : Cx} {s : St} {h : Array Obj} (R : Rel cx s h) (o : Ox) (x : Obj) (hrep : ∀ cx', cx'.r s.n = ⟨h.size, 0, 0, 0⟩ → Later cx h s.L cx' (h.push x) (s.new (.x o)).L → XRep cx' (h.push x) (s.new (.x o)).L h.size o) :
    ∃ cx', cx'.r s.n = ⟨h.size, 0, 0, 0⟩ ∧ Rel cx' (s.new (.x o)) (h.push x) ∧ Ext cx s h cx' (s.new (.x o)) (h.push x) := by
  refine ⟨{ cx with r := fun l => if l = s.n then ⟨h.size, 0, 0, 0⟩ else cx.r l }, by simp, ?_⟩
  have hfz : ∀ o, ¬ cx.fz h.size o := fun o hf => by have := cellAt_lt (R.fzl _ _ hf); omega
  refine R.change s.n (.x o) h.size (by simp [blk]) (fun _ h => St.new_L _ h) (fun l hl => Nat.lt_succ_of_lt (R.gl l hl)) (St.new_L0 _ R.gl) (by simp) (fun l hl o hg => by rwa [St.get_new_ne _ _ _ hl] at hg)
    (fun l hl => by simp [hl]) (fun _ _ => rfl) (fun hl => (Nat.lt_irrefl _ hl.1).elim) (fun _ => .inl rfl) (by simp)
    (fun b hb _ => by rw [Array.getElem?_push_lt hb, Array.getElem?_eq_getElem hb]) (.inl (Nat.le_refl _)) (fun _ _ h => h) (fun o hf => (hfz o hf).elim) (fun _ _ h => .inl h)
    (fun L => ?_) (fun _ _ _ he => by cases he) (fun _ he => by cases he)
  have := hrep _ (by simp) L
  simpa [ORep] using this
theorem Rel.updX {cx : Cx} {s : St} {h : Array Obj} (R : Rel cx s h) {l : Nat} {o : Ox} (hg : s.get l = some (.x o)) (o' : Ox) (x : Obj) (hrep : Later cx h s.L cx (h.setIfInBounds (cx.r l).b x) s.L → XRep cx (h.setIfInBounds (cx.r l).b x) s.L (cx.r l).b o')
    (hx : ∀ c el fr, x ≠ .cells c el fr) : Rel cx (s.put l (some (.x o'))) (h.setIfInBounds (cx.r l).b x) ∧ Ext cx s h cx (s.put l (some (.x o'))) (h.setIfInBounds (cx.r l).b x) := by
  have hb := R.own_lt ⟨l, _, hg, rfl⟩
  simp only [blk] at hb
  have hl := R.name_L hg
  have hfz : ∀ o, ¬ cx.fz (cx.r l).b o := fun i hf => by
    have h1 := R.fzl _ _ hf
    have h2 : XRep cx h s.L (cx.r l).b o := (R.obj l _ hg).2
    unfold cellAt at h1
    cases o with
    | mp es clk => obtain ⟨arr, h3, -⟩ := h2; rw [h3] at h1; cases h1
    | it m since seen last => rw [h2.1] at h1; cases h1
    | lp st pend f e ps al9 bd ds => obtain ⟨tmps, h3, -⟩ := h2; rw [h3] at h1; cases h1
    | df taken => have h3 : h[(cx.r l).b]? = _ := h2; rw [h3] at h1; cases h1
  refine R.change l (.x o') (cx.r l).b (by simp [blk]) (fun _ h => h) R.gl hl (by simp) (fun l' hl' o ho => by rwa [St.get_put_ne _ _ _ _ hl'] at ho)
    (fun _ _ => rfl) (fun _ _ => rfl) (fun _ => rfl) (fun _ => .inl rfl) (by simp) (fun b hb' hne => by rw [Array.getElem?_setIfInBounds_ne (Ne.symm hne)])
    (.inr ⟨l, _, hg, rfl, .inl rfl⟩) (fun _ _ h => h) (fun o hf => (hfz o hf).elim) (fun _ _ h => .inl h) (fun L => ?_) (fun _ _ _ he => by cases he) (fun _ he => by cases he)
  exact ⟨(R.obj l _ hg).1, hrep L⟩
end Rf
namespace Rf
open Go
def mapO {α β : Type} (f : α → Option β) : List α → Option (List β)
  | [] => some []
  | a :: r => match f a, mapO f r with
    | some b, some bs => some (b :: bs)
    | _, _ => none
theorem mapO_get {α β : Type} (f : α → Option β) : ∀ (l : List α) (m : List β), mapO f l = some m → m.length = l.length ∧ ∀ (i : Nat) (a : α), l[i]? = some a → ∃ b, f a = some b ∧ m[i]? = some b
  | [], m, h => by simp [mapO] at h; subst h; simp
  | a :: r, m, h => by
    simp only [mapO] at h
    split at h
    · rename_i b bs h1 h2
      cases h
      obtain ⟨e1, e2⟩ := mapO_get f r bs h2
      refine ⟨by simp [e1], fun i x hx => ?_⟩
      cases i with
      | zero => simp at hx; subst hx; exact ⟨b, h1, by simp⟩
      | succ i => simpa using e2 i x (by simpa using hx)
    · cases h
def cst : Nat → Value → Option V
  | 0, _ => none
  | n + 1, v => match v with
    | .bool b => some (.b b)
    | .int k x => some (.i k x)
    | .string s => some (.s s.data.toList)
    | .pointer none => some .np
    | .slice none 0 0 => some .ns
    | .map none => some .nm
    | .func (.func f) a c => if a.size = 0 ∧ c.size = 0 then some (.fn f []) else none
    | .nilFunc => some .nf
    | .nilIface => some .ni
    | .iface t v => (cst n v).map (.ifc t)
    | .agg cs => if cs.toList.all (·.oneCell') then (mapO (cst n) cs.toList).map .ag else none
    | _ => none
def cArg (gt : Nat → Option V) : Operand → Option Arg
  | .tmp t => some (.t t)
  | .const v => (cst 8 v).map .c
  | .func f => some (.c (.fn f []))
  | .global g => (gt g).map fun v => .c (.q v 0)
def cOpt (gt : Nat → Option V) : Option Operand → Option (Option Arg)
  | none => some none
  | some x => (cArg gt x).map some
def szP (P : Program) (t : TypeId) : Option Nat := (P.info? t).map (·.size)
def byP (P : Program) (t : TypeId) : Option Nat := (P.info? t).map (·.bytes)
def agP (P : Program) (t : TypeId) : Option Bool := (P.underlying t).map fun | .struct _ | .array _ _ => true | _ => false
def zeroP (P : Program) (t : TypeId) : Option (List V) :=
  match (P.info? t).bind (·.zero) with
  | some v => if v.cells.toList.all (·.oneCell') then mapO (cst 8) v.cells.toList else none
  | none => none
def eqFs (go : TypeId → Option (List LK)) (P : Program) : Nat → List Field → Option (List LK)
  | _, [] => some []
  | o, f :: r => match go f.type with
    | some ks => if f.name ≠ "_" ∧ f.offset = o ∧ szP P f.type = some ks.length then (eqFs go P (o + ks.length) r).map (ks ++ ·) else none
    | none => none
def eqTy (P : Program) : Nat → TypeId → Option (List LK)
  | 0, _ => none
  | d + 1, t => match P.underlying t with
    | some .bool => some [.b]
    | some (.int _) => some [.i]
    | some .string => some [.s]
    | some (.struct fs) => if P.stoodInHeld t then none else eqFs (eqTy P d) P 0 fs.toList
    | _ => none
def zeroV (P : Program) (t : TypeId) : Option V := ((P.info? t).bind (·.zero)).bind (cst 8)
def kkP (P : Program) (t : TypeId) : Option KK :=
  match P.underlying t with
  | some .bool => some .b
  | some (.int _) => some .i
  | some .string => some .s
  | some (.struct _) => (eqTy P 20 t).map .g
  | _ => none
def isCn : Operand → Bool
  | .const _ => true
  | _ => false
def eqK (P : Program) (t : TypeId) (x y : Operand) : Option EK :=
  match P.underlying t with
  | some .bool => some .b
  | some (.int _) => some .n
  | some .string => some .n
  | some (.struct _) => match eqTy P 20 t with
    | some ks => if !P.eqGuardType P.depth t then some (.g ks) else none
    | none => none
  | some (.pointer e) => match szP P e with
    | some n => if n ≠ 0 then some .p else none
    | none => none
  | some (.slice _) => some .s
  | some (.map ..) => some .m
  | some (.func ..) => some .f
  | some (.interface _) => if isCn x || isCn y then some .i else none
  | _ => none
def cParts (gt : Nat → Option V) (pl : Nat → Option (Nat × Nat)) : List (Nat × Operand) → Option (List (Nat × Nat × Arg))
  | [] => some []
  | (i, x) :: r => match pl i, cArg gt x, cParts gt pl r with
    | some (o, n), some x, some r => some ((o, n, x) :: r)
    | _, _, _ => none
def fieldPl (P : Program) (fs : Array Field) : Nat → Option (Nat × Nat) := fun i =>
  match fs[i]? with
  | some f => (szP P f.type).map fun n => (f.offset, n)
  | none => none
def isNeq : BinOp → Bool
  | .neq => true
  | _ => false
def isBin : BinOp → Bool
  | .eql | .neq => false
  | _ => true
def isSrc : TypeDesc → Bool
  | .slice _ => true
  | .string => true
  | _ => false
def cB (gt : Nat → Option V) (P : Program) (w : Bool) (b : Builtin) (ts : List TypeId) (args : List Operand) : Option A :=
  match b with
  | .append => match ts, args with
    | [t, t2], [x, y] => match P.underlying t, cArg gt x, cArg gt y with
      | some (.slice el), some x, some y => match szP P el, agP P el, byP P el, zeroP P el, P.underlying t2 with
        | some sz, some ag, some by_, some z, some d2 => if 0 < sz ∧ z.length = sz ∧ (ag = true ∨ sz = 1) ∧ isSrc d2 = true then some (.app el w ag sz by_ x y) else none
        | _, _, _, _, _ => none
      | _, _, _ => none
    | _, _ => none
  | .copy => match ts, args with
    | [t, _], [x, y] => match P.underlying t, cArg gt x, cArg gt y with
      | some (.slice el), some x, some y => match szP P el with
        | some sz => if 0 < sz then some (.cpy sz x y) else none
        | none => none
      | _, _, _ => none
    | _, _ => none
  | .min => match args with
    | [x, y] => match cArg gt x, cArg gt y with
      | some x, some y => some (.mmx false x y)
      | _, _ => none
    | _ => none
  | .max => match args with
    | [x, y] => match cArg gt x, cArg gt y with
      | some x, some y => some (.mmx true x y)
      | _, _ => none
    | _ => none
  | .len => match ts, args with
    | [t], [x] => match P.underlying t, cArg gt x with
      | some (.slice _), some x => some (.len x)
      | some .string, some x => some (.lenS x)
      | some (.map _ _), some x => some (.ym .mlen [x])
      | _, _ => none
    | _, _ => none
  | .delete => match ts, args with
    | [t, _], [x, y] => match P.underlying t, cArg gt x, cArg gt y with
      | some (.map kt _), some x, some y => (kkP P kt).map fun kk => .ym (.mdel kk) [x, y]
      | _, _, _ => none
    | _, _ => none
  | .clear => match ts, args with
    | [t], [x] => match P.underlying t, cArg gt x with
      | some (.map _ _), some x => some (.ym .mclr [x])
      | some (.slice el), some x => (zeroP P el).map fun z => .ym (.sclr z) [x]
      | _, _ => none
    | _, _ => none
  | .unsafeSliceData => match args with
    | [x] => (cArg gt x).map .usd
    | _ => none
  | .unsafeString => match ts, args with
    | [t, _], [x, n] => match P.underlying t, cArg gt x, cArg gt n with
      | some (.pointer el), some x, some n => if szP P el = some 1 then some (.ustr el x n) else none
      | _, _, _ => none
    | _, _ => none
  | _ => none
def cA (gt : Nat → Option V) (P : Program) (w : Bool) : Op → Option A
  | .move x => (cArg gt x).map .mov
  | .assign x => (cArg gt x).map .mov
  | .pick c a b => match cArg gt c, cArg gt a, cArg gt b with
    | some c, some a, some b => some (.pick c a b)
    | _, _, _ => none
  | .alloc t => (zeroP P t).map (.alloc t)
  | .box t x => (cArg gt x).map (.box t w)
  | .build t ps => match P.underlying t, zeroP P t with
    | some (.struct fs), some z => if fs.toList.all (fun f => (szP P f.type).isSome) then (cParts gt (fieldPl P fs) ps.toList).map (.build z) else none
    | some (.array _ el), some z => match szP P el with
      | some n => (cParts gt (fun i => some (i * n, n)) ps.toList).map (.build z)
      | none => none
    | _, _ => none
  | .buildSlice t n ps => match P.underlying t with
    | some (.slice el) => match szP P el, agP P el, zeroP P el with
      | some sz, some ag, some z => if 0 < sz ∧ z.length = sz ∧ n * sz ≤ 16777216 ∧ (ag = true ∨ sz = 1) then (cParts gt (fun i => some (i * sz, sz)) ps.toList).map (.bsl el w ag n sz z) else none
      | _, _, _ => none
    | _ => none
  | .load t a => match agP P t, szP P t, cArg gt a with
    | some true, some n, some a => some (.loadn n a)
    | some false, some _, some a => some (.load1 a)
    | _, _, _ => none
  | .store t a v => match szP P t, cArg gt a, cArg gt v with
    | some n, some a, some v => some (.store n a v)
    | _, _, _ => none
  | .nilCheck x => (cArg gt x).map .nilc
  | .binOp op t x y _ => match cArg gt x, cArg gt y with
    | some x', some y' =>
      if isBin op then some (.bin op x' y')
      else (eqK P t x y).map fun kd => .eql (isNeq op) kd x' y'
    | _, _ => none
  | .unOp .not _ x => (cArg gt x).map .not
  | .unOp .neg _ x => (cArg gt x).map .neg
  | .unOp .xor _ x => (cArg gt x).map .xr
  | .convert s d x => match P.underlying s, P.underlying d, cArg gt x with
    | some (.int _), some (.int k), some x => some (.conv k x)
    | some .string, some .string, some x => some (.movS x)
    | some .string, some (.slice e), some x => if (P.underlying e matches some (.int .u8)) then some (.s2b e w x) else none
    | some (.slice e), some .string, some x => if (P.underlying e matches some (.int .u8)) then some (.b2s x) else none
    | some (.pointer t), some .unsafePointer, some x => match szP P t with
      | some n => if n ≠ 0 then some (.u1 x) else none
      | none => none
    | some .unsafePointer, some (.pointer t), some x => match szP P t with
      | some n => if n ≠ 0 then some (.u2 t n x) else none
      | none => none
    | _, _, _ => none
  | .fieldAddr t x f => match P.underlying t, cArg gt x with
    | some (.struct fs), some x => match fs[f]? with
      | some fd => match szP P fd.type with
        | some n => if n ≠ 0 then some (.fa fd.offset x) else none
        | none => none
      | none => none
    | _, _ => none
  | .field t x f => match P.underlying t, cArg gt x with
    | some (.struct fs), some x => match fs[f]? with
      | some fd => match agP P fd.type, szP P fd.type with
        | some true, some n => some (.fld fd.offset (some n) x)
        | some false, some _ => some (.fld fd.offset none x)
        | _, _ => none
      | none => none
    | _, _ => none
  | .indexAddr t x i => match P.underlying t, cArg gt x, cArg gt i with
    | some (.slice el), some x, some i => match szP P el with
      | some n => if 0 < n then some (.ia n x i) else none
      | none => none
    | some (.array len el), some x, some i => match szP P el with
      | some n => if 0 < n then some (.iaA n len x i) else none
      | none => none
    | _, _, _ => none
  | .index t x i => match P.underlying t, cArg gt x, cArg gt i with
    | some (.array len el), some x, some i => match szP P el, agP P el with
      | some n, some ag => some (.idxA n ag len x i)
      | _, _ => none
    | some .string, some x, some i => some (.idxS x i)
    | _, _, _ => none
  | .extract x i => (cArg gt x).map fun x => .ext x i
  | .makeSlice t n c => match P.underlying t, cArg gt n, cArg gt c with
    | some (.slice el), some n, some c => match szP P el, byP P el, zeroP P el with
      | some sz, some by_, some z => if 0 < sz ∧ z.length = sz then some (.mks el sz by_ z n c) else none
      | _, _, _ => none
    | _, _, _ => none
  | .slice t x l h m => match P.underlying t, cArg gt x, cOpt gt l, cOpt gt h, cOpt gt m with
    | some (.slice el), some x, some l, some h, some m => match szP P el with
      | some n => if 0 < n then some (.slc n x l h m) else none
      | none => none
    | some .string, some x, some l, some h, some none => some (.slS x l h)
    | some (.array len el), some x, some l, some h, some m => match szP P el with
      | some n => if 0 < n then some (.slA n len x l h m) else none
      | none => none
    | _, _, _, _, _ => none
  | .makeFunc (.func f) first cap => if first.size ≠ 0 then none else (mapO (cArg gt) cap.toList).map (.mkf f)
  | .makeInterface t x => match P.underlying t with
    | some (.interface _) => none
    | some _ => (cArg gt x).map (.mki t)
    | none => none
  | .call c => match c.callee with
    | .builtin b => cB gt P w b c.argTypes.toList c.args.toList
    | _ => none
  | .makeMap t r => match P.underlying t, cOpt gt r with
    | some (.map _ _), some r => some (.ym .mkm r.toList)
    | _, _ => none
  | .lookup t m k ok => match P.underlying t, cArg gt m, cArg gt k with
    | some (.map kt et), some m, some k => match kkP P kt, zeroV P et with
      | some kk, some z => some (.ym (.look kk ok z) [m, k])
      | _, _ => none
    | _, _, _ => none
  | .mapUpdate t m k x => match P.underlying t, cArg gt m, cArg gt k, cArg gt x with
    | some (.map kt _), some m, some k, some x => (kkP P kt).map fun kk => .ym (.upd kk) [m, k, x]
    | _, _, _, _ => none
  | .insert t m k x => match P.underlying t, cArg gt m, cArg gt k, cArg gt x with
    | some (.map kt _), some m, some k, some x => (kkP P kt).map fun kk => .ym (.upd kk) [m, k, x]
    | _, _, _, _ => none
  | .mapEntry t m k => match P.underlying t, cArg gt m, cArg gt k with
    | some (.map kt et), some m, some k => match kkP P kt, zeroV P et with
      | some kk, some z => some (.ym (.ent kk z) [m, k])
      | _, _ => none
    | _, _, _ => none
  | .entryStore _ m b x => match cArg gt m, cArg gt b, cArg gt x with
    | some m, some b, some x => some (.ym .ens [m, b, x])
    | _, _, _ => none
  | .range t x => match P.underlying t, cArg gt x with
    | some (.map _ _), some x => some (.ym .rng [x])
    | _, _ => none
  | .next x false => (cArg gt x).map fun x => .ym .nxt [x]
  | .entry x => (cArg gt x).map fun x => .ym .ery [x]
  | .typeAssert x _ t ok => match P.underlying t, cArg gt x with
    | some (.interface _), _ => none
    | some _, some x => (match ok with
      | true => (zeroV P t).map fun z => .ym (.ta t true z) [x]
      | false => some (.ym (.ta t false .ni) [x]))
    | _, _ => none
  | _ => none
def callOk (P : Program) (f : FuncId) : Bool :=
  match P.funcs[f]? with
  | some fn => fn.body.isSome && fn.name != "runtime.NumGoroutine"
  | none => false
def cX (gt : Nat → Option V) (P : Program) (f : FuncId) (args : List Operand) : Option A :=
  match P.funcs[f]? with
  | some fn => if fn.body.isNone && (fn.origin == "" || fn.origin == fn.name) then
      (if fn.name == "internal/abi.NoEscape" then (match args with | [x] => (cArg gt x).map .mov | _ => none)
      else if fn.name == "internal/bytealg.CountString" then (match args with | [x, c] => (match cArg gt x, cArg gt c with | some x, some c => some (.cnt x c) | _, _ => none) | _ => none)
      else if fn.name == "internal/bytealg.IndexByteString" then (match args with | [x, c] => (match cArg gt x, cArg gt c with | some x, some c => some (.ixb x c) | _, _ => none) | _ => none)
      else if fn.name == "maps.clone" then (match args with | [x] => (cArg gt x).map fun x => .ym .mcl [x] | _ => none)
      else none) else none
  | none => none
def orBad (o : Option K) : K := o.getD .bad
def cK (gt : Nat → Option V) (P : Program) (w : Bool) (o : Op) : K :=
  match o with
  | .call c => match c.callee with
    | .value (.func f) => if callOk P f then orBad ((mapO (cArg gt) c.args.toList).map (.call f)) else orBad ((cX gt P f c.args.toList).map .a)
    | .value (.const (.func (.func f) a b)) => if callOk P f ∧ a.size = 0 ∧ b.size = 0 then orBad ((mapO (cArg gt) c.args.toList).map (.call f)) else .bad
    | .value (.tmp t) => orBad ((mapO (cArg gt) c.args.toList).map (.callv (.t t)))
    | .builtin .panic => match c.args.toList with
      | [x] => orBad ((cArg gt x).map .pan)
      | _ => .bad
    | _ => orBad ((cA gt P w o).map .a)
  | .panic x => orBad ((cArg gt x).map .pan)
  | _ => orBad ((cA gt P w o).map .a)
def cI (gt : Nat → Option V) (P : Program) (w : Bool) (ops : Array Oper) (o : Oper) : Option I :=
  match o.guard with
  | none => some { d := o.dst, g := none, k := cK gt P w o.op }
  | some (j, b) => match (ops[j]?).bind (·.dst) with
    | some t => some { d := o.dst, g := some (t, b), k := cK gt P w o.op }
    | none => none
def cOps (gt : Nat → Option V) (P : Program) (w : Nat → Bool) (ops : Array Oper) : Nat → List Oper → Option (List I)
  | _, [] => some []
  | i, o :: r => match cI gt P (w i) ops o, cOps gt P w ops (i + 1) r with
    | some x, some xs => some (x :: xs)
    | _, _ => none
def Y.cls : Y → Nat
  | .look _ _ _ => 1
  | .mlen => 1
  | .ery => 1
  | .ta _ _ _ => 0
  | .tai _ _ => 0
  | .ieq _ _ => 0
  | _ => 2
def A.cls : A → Nat
  | .load1 _ => 1
  | .loadn _ _ => 1
  | .b2s _ => 1
  | .u1 _ => 1
  | .u2 _ _ _ => 1
  | .ustr _ _ _ => 2
  | .slc _ _ _ _ _ => 1
  | .slA _ _ _ _ _ _ => 1
  | .alloc _ _ => 2
  | .box _ w _ => if w then 0 else 2
  | .bsl _ w _ _ _ _ _ => if w then 0 else 2
  | .s2b _ w _ => if w then 0 else 2
  | .store _ _ _ => 2
  | .app _ _ _ _ _ _ _ => 2
  | .cpy _ _ _ => 2
  | .mks _ _ _ _ _ _ => 2
  | .ym n _ => n.cls
  | _ => 0
def K.cls : K → Nat
  | .a y => y.cls
  | _ => 2
def Arg.ts : Arg → List Nat
  | .t n => [n]
  | .c _ => []
def optTs : Option Arg → List Nat
  | some a => a.ts
  | none => []
def partTs (ps : List (Nat × Nat × Arg)) : List Nat := ps.flatMap fun p => p.2.2.ts
def A.ts : A → List Nat
  | .mov x => x.ts
  | .pick c a b => c.ts ++ a.ts ++ b.ts
  | .alloc _ _ => []
  | .box _ _ x => x.ts
  | .build _ ps => partTs ps
  | .bsl _ _ _ _ _ _ ps => partTs ps
  | .load1 a => a.ts
  | .loadn _ a => a.ts
  | .store _ a v => a.ts ++ v.ts
  | .nilc x => x.ts
  | .bin _ x y => x.ts ++ y.ts
  | .eql _ _ x y => x.ts ++ y.ts
  | .not x => x.ts
  | .neg x => x.ts
  | .conv _ x => x.ts
  | .s2b _ _ x => x.ts
  | .b2s x => x.ts
  | .fa _ x => x.ts
  | .fld _ _ x => x.ts
  | .ia _ x i => x.ts ++ i.ts
  | .iaA _ _ x i => x.ts ++ i.ts
  | .idxA _ _ _ x i => x.ts ++ i.ts
  | .idxS x i => x.ts ++ i.ts
  | .ext x _ => x.ts
  | .len x => x.ts
  | .lenS x => x.ts
  | .movS x => x.ts
  | .app _ _ _ _ _ x y => x.ts ++ y.ts
  | .cpy _ x y => x.ts ++ y.ts
  | .mks _ _ _ _ n c => n.ts ++ c.ts
  | .slS x l h => x.ts ++ optTs l ++ optTs h
  | .slc _ x l h m => x.ts ++ optTs l ++ optTs h ++ optTs m
  | .slA _ _ x l h m => x.ts ++ optTs l ++ optTs h ++ optTs m
  | .mkf _ cap => cap.flatMap Arg.ts
  | .mki _ x => x.ts
  | .mmx _ x y => x.ts ++ y.ts
  | .xr x => x.ts
  | .u1 x => x.ts
  | .u2 _ _ x => x.ts
  | .usd x => x.ts
  | .ustr _ x n => x.ts ++ n.ts
  | .cnt x c => x.ts ++ c.ts
  | .ixb x c => x.ts ++ c.ts
  | .ym _ xs => xs.flatMap Arg.ts
def K.ts : K → List Nat
  | .a y => y.ts
  | .call _ args => args.flatMap Arg.ts
  | .callv f args => f.ts ++ args.flatMap Arg.ts
  | .pan x => x.ts
  | .bad => []
def I.ts (i : I) : List Nat :=
  (match i.g with | some (t, _) => [t] | none => []) ++ i.k.ts
def maskOf (acc : List Nat) (es : List Edge) : Nat := es.foldl (fun m e => if Region.binds .any e then m ||| 2 ^ e.on ||| acc.getD e.on 0 else m) 0
def masks : List Oper → List Nat → List Nat
  | [], acc => acc
  | o :: r, acc => masks r (acc ++ [maskOf acc o.after.toList])
def backOk : Nat → List Oper → Bool
  | _, [] => true
  | i, o :: r => o.after.toList.all (fun e => !Region.binds .any e || decide (e.on < i)) && backOk (i + 1) r
def conf (x y : I) : Bool :=
  (match x.d with
    | some d => y.ts.contains d || y.d == some d
    | none => false) ||
  (match y.d with
    | some d => x.ts.contains d
    | none => false) ||
  (decide (y.k.cls = 2) && decide (1 ≤ x.k.cls))
def confOk (ms : List Nat) : List (Nat × I) → Bool
  | [] => true
  | (j, x) :: r => r.all (fun (k, y) => !conf x y || (ms.getD k 0).testBit j) && confOk ms r
def backs (ms : List Nat) : List Nat → List (Nat × I) → Option (List (Nat × I))
  | _, [] => some []
  | hs, (k, y) :: r =>
    let b := (hs.takeWhile fun j => !(ms.getD k 0).testBit j).length
    if (hs.drop b).all (fun j => (ms.getD k 0).testBit j) then
      (backs ms (if y.k.cls = 2 then k :: hs else hs) r).map ((if y.k.cls = 1 then b else 0, y) :: ·)
    else if y.k.cls = 1 then none
    else (backs ms (if y.k.cls = 2 then k :: hs else hs) r).map ((0, y) :: ·)
def canon (ms : List Nat) (l : List (Nat × I)) : List (Nat × I) :=
  let hs := l.filter fun x => x.2.k.cls = 2
  let out := hs.foldl (fun (out : List (Nat × I)) h => out ++ (l.filter fun x => !(out.any (·.1 == x.1)) && ((ms.getD h.1 0).testBit x.1 || x.1 == h.1))) []
  out ++ l.filter fun x => !(out.any (·.1 == x.1))
def numbered {α : Type} : Nat → List α → List (Nat × α)
  | _, [] => []
  | i, x :: r => (i, x) :: numbered (i + 1) r
def nodupB : List Nat → Bool
  | [] => true
  | x :: r => !r.contains x && nodupB r
def permOk (n : Nat) (l : List Nat) : Bool := nodupB l && l.all (fun i => decide (i < n)) && (List.range n).all fun i => l.contains i
def cDrw1 (ops : List Oper) (is : List I) : Option (List (Nat × I)) :=
  let ms := masks ops []
  let l := canon ms (numbered 0 is)
  if backOk 0 ops && permOk is.length (l.map (·.1)) && confOk ms l then backs ms [] l else none
structure TP where
  ia : Nat
  is : Nat
  t : Nat
  ty : Nat
  z : List V
  v : Arg
def TP.ai (p : TP) : I := { d := some p.t, g := none, k := .a (.alloc p.ty p.z) }
def TP.si (p : TP) : I := ⟨none, none, .a (.store p.z.length (.t p.t) p.v)⟩
def pairAt (all : List (Nat × I)) (x : Nat × I) : Option TP :=
  match x.2.d, x.2.g, x.2.k with
  | some t, none, .a (.alloc ty z) =>
    match all.filter (fun y => y.2.ts.contains t), all.filter (fun y => y.2.d == some t) with
    | [(k, y)], [_] => match y.d, y.g, y.k with
      | none, none, .a (.store n (.t t') v) => if t' = t ∧ n = z.length ∧ v.ts.contains t = false then some ⟨x.1, k, t, ty, z, v⟩ else none
      | _, _, _ => none
    | _, _ => none
  | _, _, _ => none
def pairsOf (all : List (Nat × I)) : List (Nat × I) → List TP
  | [] => []
  | x :: r => match pairAt all x with
    | some p => p :: pairsOf all r
    | none => pairsOf all r
def apart1 (ms : List Nat) (p : TP) (x : Nat × I) : Bool :=
  !(x.2.d == some p.t) && !(x.2.ts.contains p.t) && (match x.2.d with
    | some d => !(p.v.ts.contains d) || (ms.getD p.is 0).testBit x.1
    | none => true)
def isAllocO : Option Oper → Bool
  | some o => match o.op with
    | .alloc _ => true
    | _ => false
  | none => false
def isStoreO : Option Oper → Bool
  | some o => match o.op with
    | .store _ _ _ => true
    | _ => false
  | none => false
def tOk (ops : List Oper) (ms : List Nat) (lM : List (Nat × I)) (ps : List TP) : Bool :=
  ps.all (fun p => isAllocO ops[p.ia]? && isStoreO ops[p.is]?) && nodupB (ps.map (·.t)) && ps.all (fun p => ps.all (fun q => !(p.v.ts.contains q.t)) && (ms.getD p.is 0).testBit p.ia && lM.all (apart1 ms p))
def tNums (ps : List TP) : List Nat := ps.flatMap fun p => [p.ia, p.is]
def tOps (ps : List TP) : List (Nat × I) := ps.flatMap fun p => [(0, p.ai), (0, p.si)]
def cDrw2 (ops : List Oper) (is : List I) : Option (List (Nat × I)) :=
  let ms := masks ops []
  let all := numbered 0 is
  let ps := pairsOf all all
  let lM := canon ms (all.filter fun x => !((tNums ps).contains x.1))
  if backOk 0 ops && permOk is.length (lM.map (·.1) ++ tNums ps) && confOk ms lM && tOk ops ms lM ps then
    (backs ms [] lM).map (· ++ tOps ps)
  else none
def cDrw (ops : List Oper) (is : List I) : Option (List (Nat × I)) :=
  match cDrw1 ops is with
  | some l => some l
  | none => cDrw2 ops is
def cC (gt : Nat → Option V) (P : Program) (w : Nat → Nat → Bool) : Code → C
  | .skip => .skip
  | .region id ops draw => match cOps gt P (w id) ops 0 ops.toList with
    | some is => if draw then (match cDrw ops.toList is with | some l => .drw l | none => .bad) else .ops is
    | none => .bad
  | .seq a b => .seq (cC gt P w a) (cC gt P w b)
  | .cond c a b => match cArg gt c with
    | some c => .cond c (cC gt P w a) (cC gt P w b)
    | none => .bad
  | .block id a => .blk id (cC gt P w a)
  | .loop a => .loop (cC gt P w a)
  | .exit id => .exit id
  | .ret => .ret
  | _ => .bad
def cRs (P : Program) : ResultVar → Option Rs
  | .tmp t => some (.t t)
  | .cell a t => match agP P t, szP P t with
    | some true, some n => some (.cn a n)
    | some false, some _ => some (.c1 a)
    | _, _ => none
def cF (gt : Nat → Option V) (P : Program) (w : Nat → Nat → Bool) (f : FuncId) : Option F :=
  match P.funcs[f]? with
  | none => none
  | some fn => match fn.body with
    | none => none
    | some b => match mapO (cRs P) fn.results.toList with
      | some rs => some { np := fn.params.size, nt := fn.ntmps, body := cC gt P w b, res := rs }
      | none => none
end Rf
namespace Rf
open Go
structure ERep (gt : Nat → Option V) (cx : Cx) (h : Array Obj) (n : Nat → Prop) (e : List V) (tmps : Array Value) : Prop where
  gl : ∀ g v, gt g = some v → GV cx h n g v
  len : e.length = tmps.size
  rep : ∀ t, VRep cx h n (e.getD t unV) (tmps.getD t undef)
theorem VRep.un (cx : Cx) (h : Array Obj) (n : Nat → Prop) : VRep cx h n unV undef :=
  .tu [] #[] rfl (fun j hj => by simp at hj)
theorem ERep.later {gt : Nat → Option V} {cx cx' : Cx} {h h' : Array Obj} {n n' : Nat → Prop} {e : List V} {tmps : Array Value} (E : ERep gt cx h n e tmps) (L : Later cx h n cx' h' n') : ERep gt cx' h' n' e tmps :=
  ⟨fun g v hg => (E.gl g v hg).later L, E.len, fun t => (E.rep t).later L⟩
theorem ERep.set {gt : Nat → Option V} {cx : Cx} {h : Array Obj} {n : Nat → Prop} {e : List V} {tmps : Array Value} (E : ERep gt cx h n e tmps) {v : V} {x : Value} (hv : VRep cx h n v x) (d : Nat) :
    ERep gt cx h n (e.set d v) (tmps.setIfInBounds d x) := by
  refine ⟨E.gl, by simp [E.len], fun t => ?_⟩
  have h0 := E.rep t
  have hl := E.len
  by_cases hd : t = d
  · subst hd
    by_cases ht : t < e.length
    · simpa [List.getD, Array.getD_eq_getD_getElem?, ht, ← hl] using hv
    · simp only [List.getD, Array.getD_eq_getD_getElem?] at h0 ⊢
      rw [List.getElem?_eq_none (by simpa using ht), Array.getElem?_eq_none (by simp [← hl]; omega)]
      exact VRep.un cx h n
  · simp only [List.getD, Array.getD_eq_getD_getElem?] at h0 ⊢
    rw [List.getElem?_set_ne (Ne.symm hd), Array.getElem?_setIfInBounds_ne (Ne.symm hd)]
    exact h0
theorem cst_rep (cx : Cx) (h : Array Obj) (k : Nat → Prop) : ∀ (n : Nat) (x : Value) (v : V), cst n x = some v → VRep cx h k v x := by
  intro n
  induction n with
  | zero => intro x v hc; simp [cst] at hc
  | succ n ih =>
    intro x v hc
    simp only [cst] at hc
    split at hc <;> first
      | (cases hc; done)
      | skip
    · cases hc; exact .b _
    · cases hc; exact .i _ _
    · cases hc
      rename_i s
      have : VRep cx h k (.s s.data.toList) (.string ⟨s.data.toList.toArray⟩) := .s _
      simpa using this
    · cases hc; exact .np
    · cases hc; exact .ns
    · cases hc; exact .nm
    · rename_i f a c
      split at hc
      · rename_i hac
        cases hc
        have e1 : a = #[] := Array.eq_empty_of_size_eq_zero hac.1
        have e2 : c = #[] := Array.eq_empty_of_size_eq_zero hac.2
        subst e1; subst e2
        exact .fn _ [] #[] rfl (fun j hj => by simp at hj)
      · cases hc
    · cases hc; exact .nf
    · cases hc; exact .ni
    · rename_i t x
      cases hx : cst n x with
      | none => simp [hx] at hc
      | some v' => simp [hx] at hc; subst hc; exact .ifc _ _ _ (ih x v' hx)
    · rename_i cs
      split at hc
      · rename_i hall
        cases hm : mapO (cst n) cs.toList with
        | none => simp [hm] at hc
        | some l =>
          simp [hm] at hc; subst hc
          obtain ⟨h1, h2⟩ := mapO_get _ _ _ hm
          have hsz : cs.size = l.length := by simp [h1]
          refine .ag l cs hsz (fun j hj => ?_) (fun j hj => ?_)
          · have hj' : j < cs.size := by omega
            have := List.all_eq_true.1 hall cs[j] (by simp)
            simpa [Array.getD_eq_getD_getElem?, hj'] using this
          · have hj' : j < cs.size := by omega
            obtain ⟨b, h3, h4⟩ := h2 j cs[j] (by simp [hj'])
            have := ih _ _ h3
            simpa [Array.getD_eq_getD_getElem?, hj', List.getD, h4] using this
      · cases hc
theorem arg_rep {gt : Nat → Option V} {cx : Cx} {h : Array Obj} {n : Nat → Prop} {e : List V} {act : Act} (E : ERep gt cx h n e act.tmps) {x : Operand} {a : Arg} (hc : cArg gt x = some a) : VRep cx h n (a.ev e) (act.eval x) := by
  cases x with
  | tmp t => simp [cArg] at hc; subst hc; exact E.rep t
  | const v =>
    simp [cArg] at hc
    obtain ⟨v', h1, rfl⟩ := hc
    exact cst_rep cx h n 8 v v' h1
  | func f => simp [cArg] at hc; subst hc; exact .fn f [] #[] rfl (fun j hj => by simp at hj)
  | global g =>
    simp [cArg] at hc
    obtain ⟨v', h1, rfl⟩ := hc
    exact (E.gl g v' h1).1
theorem VRep.cells {cx : Cx} {h : Array Obj} {n : Nat → Prop} {v : V} {x : Value} (hv : VRep cx h n v x) (hi : v.isVal = true) :
    x.cells.size = v.cells.length ∧ (∀ j, j < v.cells.length → (x.cells.getD j undef).oneCell' = true) ∧ (∀ j, j < v.cells.length → VRep cx h n (v.cells.getD j .bad) (x.cells.getD j undef)) := by
  cases hv with
  | bad => simp [V.isVal] at hi
  | tu => simp [V.isVal] at hi
  | ag cs vs hs h1 hv => exact ⟨hs, h1, hv⟩
  | q v o b d f h1 hz hc hv => exact ⟨rfl, fun j hj => by simp [V.cells] at hj; subst hj; rfl, fun j hj => by simp [V.cells] at hj; subst hj; exact .q v o b d f h1 hz hc hv⟩
  | pu sz xs c a cap f ha h1 hs hz hc hv hl hr hp => exact ⟨rfl, fun j hj => by simp [V.cells] at hj; subst hj; rfl, fun j hj => by simp [V.cells] at hj; subst hj; exact .pu sz xs c a cap f ha h1 hs hz hc hv hl hr hp⟩
  | b x => exact ⟨rfl, fun j hj => by simp [V.cells] at hj; subst hj; rfl, fun j hj => by simp [V.cells] at hj; subst hj; exact .b x⟩
  | i k x => exact ⟨rfl, fun j hj => by simp [V.cells] at hj; subst hj; rfl, fun j hj => by simp [V.cells] at hj; subst hj; exact .i k x⟩
  | s l => exact ⟨rfl, fun j hj => by simp [V.cells] at hj; subst hj; rfl, fun j hj => by simp [V.cells] at hj; subst hj; exact .s l⟩
  | np => exact ⟨rfl, fun j hj => by simp [V.cells] at hj; subst hj; rfl, fun j hj => by simp [V.cells] at hj; subst hj; exact .np⟩
  | p l o hl => exact ⟨rfl, fun j hj => by simp [V.cells] at hj; subst hj; rfl, fun j hj => by simp [V.cells] at hj; subst hj; exact .p l o hl⟩
  | ns => exact ⟨rfl, fun j hj => by simp [V.cells] at hj; subst hj; rfl, fun j hj => by simp [V.cells] at hj; subst hj; exact .ns⟩
  | sl sz l o k c cap hl hk hc => exact ⟨rfl, fun j hj => by simp [V.cells] at hj; subst hj; rfl, fun j hj => by simp [V.cells] at hj; subst hj; exact .sl sz l o k c cap hl hk hc⟩
  | pu0 sz c hc => exact ⟨rfl, fun j hj => by simp [V.cells] at hj; subst hj; rfl, fun j hj => by simp [V.cells] at hj; subst hj; exact .pu0 sz c hc⟩
  | tp b t => exact ⟨rfl, fun j hj => by simp [V.cells] at hj; subst hj; rfl, fun j hj => by simp [V.cells] at hj; subst hj; exact .tp b t⟩
  | nm => exact ⟨rfl, fun j hj => by simp [V.cells] at hj; subst hj; rfl, fun j hj => by simp [V.cells] at hj; subst hj; exact .nm⟩
  | m l hl => exact ⟨rfl, fun j hj => by simp [V.cells] at hj; subst hj; rfl, fun j hj => by simp [V.cells] at hj; subst hj; exact .m l hl⟩
  | fn f cs vs hs hv => exact ⟨rfl, fun j hj => by simp [V.cells] at hj; subst hj; rfl, fun j hj => by simp [V.cells] at hj; subst hj; exact .fn f cs vs hs hv⟩
  | nf => exact ⟨rfl, fun j hj => by simp [V.cells] at hj; subst hj; rfl, fun j hj => by simp [V.cells] at hj; subst hj; exact .nf⟩
  | ifc t v x hv => exact ⟨rfl, fun j hj => by simp [V.cells] at hj; subst hj; rfl, fun j hj => by simp [V.cells] at hj; subst hj; exact .ifc t v x hv⟩
  | ni => exact ⟨rfl, fun j hj => by simp [V.cells] at hj; subst hj; rfl, fun j hj => by simp [V.cells] at hj; subst hj; exact .ni⟩
  | yl l hl => exact ⟨rfl, fun j hj => by simp [V.cells] at hj; subst hj; rfl, fun j hj => by simp [V.cells] at hj; subst hj; exact .yl l hl⟩
  | se sz l a cap hl hc => exact ⟨rfl, fun j hj => by simp [V.cells] at hj; subst hj; rfl, fun j hj => by simp [V.cells] at hj; subst hj; exact .se sz l a cap hl hc⟩
structure Qt (w w' : World) : Prop where
  os : w'.os = w.os
  out : w'.output = w.output
theorem Qt.rfl {w : World} : Qt w w := ⟨.refl _, .refl _⟩
theorem Qt.trans {w w' w'' : World} (a : Qt w w') (b : Qt w' w'') : Qt w w'' := ⟨b.os.trans a.os, b.out.trans a.out⟩
def Ok (r : Result Value) (cx : Cx) (s : St) (w : World) (v : V) (s' : St) : Prop :=
  ∃ x w' cx', r = .ok x w' ∧ VRep cx' w'.heap s'.L v x ∧ Rel cx' s' w'.heap ∧ Ext cx s w.heap cx' s' w'.heap ∧ Qt w w'
section
variable {P : Program} (w : World)
theorem r_und {t : TypeId} {d : TypeDesc} (h : P.underlying t = some d) : (underlying t).run P w = .ok d w := by simp [underlying, h]
theorem r_size {t : TypeId} {n : Nat} (h : szP P t = some n) : (Go.sizeOf t).run P w = .ok n w := by
  simp only [szP, Option.map_eq_some_iff] at h
  obtain ⟨i, h1, rfl⟩ := h
  simp [Go.sizeOf, typeInfo, h1]
theorem r_isAgg {t : TypeId} {b : Bool} (h : agP P t = some b) : (isAgg t).run P w = .ok b w := by
  simp only [agP, Option.map_eq_some_iff] at h
  obtain ⟨d, h1, h2⟩ := h
  simp only [isAgg, Sem.run_bind, r_und w h1, Result.andThen_ok]
  cases d <;> simp_all
theorem r_bytes {t : TypeId} {n : Nat} (h : byP P t = some n) : ∃ i, (typeInfo t).run P w = .ok i w ∧ i.bytes = n := by
  simp only [byP, Option.map_eq_some_iff] at h
  obtain ⟨i, h1, rfl⟩ := h
  exact ⟨i, by simp [typeInfo, h1], rfl⟩
theorem r_zero {t : TypeId} {z : List V} (h : zeroP P t = some z) : ∃ v, (zeroValue t).run P w = .ok v w ∧ v.cells.size = z.length ∧ (∀ j, j < z.length → (v.cells.getD j undef).oneCell' = true) ∧
    ∀ cx hp n j, j < z.length → VRep cx hp n (z.getD j .bad) (v.cells.getD j undef) := by
  simp only [zeroP] at h
  split at h
  · rename_i v hv
    split at h
    · rename_i hall
      cases hi : P.info? t with
      | none => simp [hi] at hv
      | some i =>
        simp [hi] at hv
        obtain ⟨h1, h2⟩ := mapO_get _ _ _ h
        have hsz : v.cells.size = z.length := by simp [h1]
        refine ⟨v, by simp [zeroValue, typeInfo, hi, hv], hsz, fun j hj => ?_, fun cx hp n j hj => ?_⟩
        · have hj' : j < v.cells.size := by omega
          have := List.all_eq_true.1 hall v.cells[j] (by simp)
          simpa [Array.getD_eq_getD_getElem?, hj'] using this
        · have hj' : j < v.cells.size := by omega
          obtain ⟨b, h3, h4⟩ := h2 j v.cells[j] (by simp [hj'])
          have := cst_rep cx hp n _ _ _ h3
          simpa [Array.getD_eq_getD_getElem?, hj', List.getD, h4] using this
    · cases h
  · cases h
theorem add_none (b o n : Nat) : (⟨b, o, none⟩ : Addr).add n = ⟨b, o + n, none⟩ := by
  unfold Addr.add; split <;> simp_all
theorem r_loadCells (b o n : Nat) (f : Nat → Value) (h : ∀ j, j < n → cellAt w.heap b (o + j) = some (f j)) :
    (loadCells ⟨b, o, none⟩ n).run P w = .ok ((List.range n).map f).toArray w :=
  run_loadCells w _ n f (fun j hj => by rw [add_none, cell?_eq]; exact h j hj)
theorem r_load (b o : Nat) (x : Value) (h : cellAt w.heap b o = some x) : (load ⟨b, o, none⟩).run P w = .ok x w := by
  rw [run_load, cell?_eq, h]
theorem frozen?_of {b : Nat} {arr : Array Value} {el : TypeId} {lo hi : Nat} (hb : w.heap[b]? = some (.cells arr el (lo, hi))) (o : Nat) (h : ¬ (lo ≤ o ∧ o < hi)) : w.frozen? ⟨b, o, none⟩ = false := by
  simp only [World.frozen?, hb]
  by_cases h1 : lo ≤ o <;> by_cases h2 : o < hi <;> simp_all
def putAt (arr : Array Value) (o : Nat) : List Value → Array Value
  | [] => arr
  | v :: vs => putAt (arr.setIfInBounds o v) (o + 1) vs
theorem putAt_size (vs : List Value) : ∀ (arr : Array Value) (o : Nat), (putAt arr o vs).size = arr.size := by
  induction vs with
  | nil => intro arr o; rfl
  | cons v vs ih => intro arr o; simp [putAt, ih]
theorem putAt_get (vs : List Value) : ∀ (arr : Array Value) (o j : Nat), o + vs.length ≤ arr.size →
    (putAt arr o vs)[j]? = if o ≤ j ∧ j < o + vs.length then vs[j - o]? else arr[j]? := by
  induction vs with
  | nil => intro arr o j _; simp [putAt]; omega
  | cons v vs ih =>
    intro arr o j h
    simp only [List.length_cons] at h
    simp only [putAt, List.length_cons]
    rw [ih _ _ _ (by simp; omega)]
    by_cases h1 : j = o
    · subst h1
      rw [if_neg (by omega), if_pos (by omega)]
      simp [show j < arr.size by omega]
    · by_cases h2 : o + 1 ≤ j ∧ j < o + 1 + vs.length
      · rw [if_pos h2, if_pos (by omega), show j - o = (j - (o + 1)) + 1 by omega]
        simp
      · rw [if_neg h2, if_neg (by omega), Array.getElem?_setIfInBounds_ne (by omega)]
theorem setCell_heap (w : World) (b o : Nat) (v : Value) {arr : Array Value} {el : TypeId} {fr : Nat × Nat} (hb : w.heap[b]? = some (.cells arr el fr)) :
    (w.setCell ⟨b, o, none⟩ v).heap = w.heap.setIfInBounds b (.cells (arr.setIfInBounds o v) el fr) := by
  simp only [World.setCell]
  apply Array.ext_getElem?
  intro i
  rw [Array.getElem?_modify, Array.getElem?_setIfInBounds]
  by_cases h : b = i
  · subst h
    have hb' := hb
    have hlt : b < w.heap.size := by
      rcases Nat.lt_or_ge b w.heap.size with h1 | h1
      · exact h1
      · rw [Array.getElem?_eq_none h1] at hb; cases hb
    rw [Array.getElem?_eq_getElem hlt] at hb'
    simp [hlt, Option.some.inj hb']
  · simp [h]
theorem r_storeCells (b o : Nat) (el : TypeId) (lo hi : Nat) : ∀ (vs : List Value) (i : Nat) (arr : Array Value) (w : World), w.heap[b]? = some (.cells arr el (lo, hi)) →
    o + i + vs.length ≤ arr.size → (∀ j, o + i ≤ j → j < o + i + vs.length → ¬ (lo ≤ j ∧ j < hi)) → (∀ v ∈ vs, v.oneCell' = true) →
    ∃ w', (storeCells ⟨b, o, none⟩ vs i).run P w = .ok () w' ∧ w'.heap = w.heap.setIfInBounds b (.cells (putAt arr (o + i) vs) el (lo, hi)) ∧ Qt w w'
  | [], i, arr, w, hb, _, _, _ => by
    refine ⟨w, rfl, ?_, .rfl⟩
    apply Array.ext_getElem?
    intro j
    rw [Array.getElem?_setIfInBounds]
    by_cases h : b = j
    · subst h
      have hlt : b < w.heap.size := by
        rcases Nat.lt_or_ge b w.heap.size with h1 | h1
        · exact h1
        · rw [Array.getElem?_eq_none h1] at hb; cases hb
      have hb' := hb
      rw [Array.getElem?_eq_getElem hlt] at hb'
      simp [hlt, Option.some.inj hb', putAt]
    · simp [h]
  | v :: vs, i, arr, w, hb, hs, hf, h1 => by
    simp only [List.length_cons] at hs hf
    have hi' : o + i < arr.size := by omega
    have hcell : w.cell? ⟨b, o + i, none⟩ = some arr[o + i] := by rw [cell?_eq, cellAt_of hb]; simp [hi']
    have hfr := frozen?_of w hb (o + i) (hf (o + i) (by omega) (by omega))
    have hst : (store ((⟨b, o, none⟩ : Addr).add i) v).run P w = .ok () (w.setCell ⟨b, o + i, none⟩ v) := by
      rw [add_none, run_store P w _ v _ (h1 v (by simp)), hcell]; simp [hfr]
    have hh := setCell_heap w b (o + i) v hb
    have hlt : b < w.heap.size := by
      rcases Nat.lt_or_ge b w.heap.size with h2 | h2
      · exact h2
      · rw [Array.getElem?_eq_none h2] at hb; cases hb
    obtain ⟨w', e1, e2, e3⟩ := r_storeCells b o el lo hi vs (i + 1) (arr.setIfInBounds (o + i) v) (w.setCell ⟨b, o + i, none⟩ v) (by rw [hh]; simp [hlt]) (by simp; omega)
      (fun j hj hj' => hf j (by omega) (by omega)) (fun x hx => h1 x (by simp [hx]))
    refine ⟨w', by simp only [storeCells, Sem.run_bind, hst, Result.andThen_ok, e1], ?_, Qt.trans (w' := w.setCell ⟨b, o + i, none⟩ v) ⟨rfl, rfl⟩ e3⟩
    rw [e2, hh]
    simp [putAt, Nat.add_assoc]
end
theorem setAt_len (vs : List V) : ∀ (cs : List V) (o : Nat), (setAt cs o vs).length = cs.length := by
  induction vs with
  | nil => intro cs o; rfl
  | cons v vs ih => intro cs o; simp [setAt, ih]
theorem setAt_get (vs : List V) : ∀ (cs : List V) (o j : Nat), o + vs.length ≤ cs.length →
    (setAt cs o vs)[j]? = if o ≤ j ∧ j < o + vs.length then vs[j - o]? else cs[j]? := by
  induction vs with
  | nil => intro cs o j _; simp [setAt]; omega
  | cons v vs ih =>
    intro cs o j h
    simp only [List.length_cons] at h
    simp only [setAt, List.length_cons]
    rw [ih _ _ _ (by simp; omega)]
    by_cases h1 : j = o
    · subst h1
      rw [if_neg (by omega), if_pos (by omega)]
      simp [show j < cs.length by omega]
    · by_cases h2 : o + 1 ≤ j ∧ j < o + 1 + vs.length
      · rw [if_pos h2, if_pos (by omega), show j - o = (j - (o + 1)) + 1 by omega]
        simp
      · rw [if_neg h2, if_neg (by omega), List.getElem?_set_ne (by omega)]
theorem listGetD_eq {l l' : List V} {i j : Nat} (h : l[i]? = l'[j]?) : l.getD i .bad = l'.getD j .bad := by simp [List.getD, h]
theorem arrGetD_eq {l l' : Array Value} {i j : Nat} (h : l[i]? = l'[j]?) : l.getD i undef = l'.getD j undef := by simp [Array.getD_eq_getD_getElem?, h]
end Rf
namespace Rf
open Go
structure Row (cx : Cx) (h : Array Obj) (n : Nat → Prop) (l : List V) (a : Array Value) : Prop where
  len : a.size = l.length
  one : ∀ j, j < l.length → (a.getD j undef).oneCell' = true
  rep : ∀ j, j < l.length → VRep cx h n (l.getD j .bad) (a.getD j undef)
theorem Row.ag {cx : Cx} {h : Array Obj} {n : Nat → Prop} {l : List V} {a : Array Value} (r : Row cx h n l a) : VRep cx h n (.ag l) (.agg a) := .ag l a r.len r.one r.rep
theorem VRep.row {cx : Cx} {h : Array Obj} {n : Nat → Prop} {v : V} {x : Value} (hv : VRep cx h n v x) (hi : v.isVal = true) : Row cx h n v.cells x.cells :=
  let ⟨h1, h2, h3⟩ := hv.cells hi; ⟨h1, h2, h3⟩
theorem Row.later {cx cx' : Cx} {h h' : Array Obj} {n n' : Nat → Prop} (L : Later cx h n cx' h' n') {l : List V} {a : Array Value} (r : Row cx h n l a) : Row cx' h' n' l a :=
  ⟨r.len, r.one, fun j hj => (r.rep j hj).later L⟩
theorem Row.mk' {cx : Cx} {h : Array Obj} {n : Nat → Prop} {l : List V} (f : Nat → Value) (h1 : ∀ j, j < l.length → (f j).oneCell' = true) (hv : ∀ j, j < l.length → VRep cx h n (l.getD j .bad) (f j)) :
    Row cx h n l ((List.range l.length).map f).toArray := by
  have : ∀ j, j < l.length → (((List.range l.length).map f).toArray).getD j undef = f j := fun j hj => by
    simp [Array.getD_eq_getD_getElem?, hj]
  exact ⟨by simp, fun j hj => by rw [this j hj]; exact h1 j hj, fun j hj => by rw [this j hj]; exact hv j hj⟩
theorem Row.put {cx : Cx} {h : Array Obj} {n : Nat → Prop} {l vs : List V} {a xs : Array Value} (r : Row cx h n l a) (r' : Row cx h n vs xs) (o : Nat) (ho : o + vs.length ≤ l.length) :
    Row cx h n (setAt l o vs) (putAt a o xs.toList) := by
  have hl : xs.toList.length = vs.length := by simp [r'.len]
  have key : ∀ j, j < l.length → ((setAt l o vs).getD j .bad = if o ≤ j ∧ j < o + vs.length then vs.getD (j - o) .bad else l.getD j .bad) ∧
      ((putAt a o xs.toList).getD j undef = if o ≤ j ∧ j < o + vs.length then xs.getD (j - o) undef else a.getD j undef) := fun j hj => by
    have h1 := setAt_get vs l o j ho
    have h2 := putAt_get xs.toList a o j (by rw [hl, r.len]; exact ho)
    rw [hl] at h2
    by_cases hc : o ≤ j ∧ j < o + vs.length
    · rw [if_pos hc] at h1 h2 ⊢
      rw [if_pos hc]
      exact ⟨listGetD_eq h1, by simp [Array.getD_eq_getD_getElem?, h2]⟩
    · rw [if_neg hc] at h1 h2 ⊢
      rw [if_neg hc]
      exact ⟨listGetD_eq h1, arrGetD_eq h2⟩
  refine ⟨by rw [putAt_size, setAt_len, r.len], fun j hj => ?_, fun j hj => ?_⟩
  · rw [setAt_len] at hj
    rw [(key j hj).2]
    split
    · rename_i hc; exact r'.one _ (by omega)
    · exact r.one j hj
  · rw [setAt_len] at hj
    rw [(key j hj).1, (key j hj).2]
    split
    · rename_i hc; exact r'.rep _ (by omega)
    · exact r.rep j hj
theorem obj_cells {cx : Cx} {s : St} {h : Array Obj} (R : Rel cx s h) {l : Nat} {cs : List V} {z : Nat} {ty : Option Nat} (hg : s.get l = some (.c cs z ty)) :
    ∃ f : Nat → Value, (∀ j, j < cs.length → cellAt h (cx.r l).b ((cx.r l).d + j) = some (f j)) ∧ (∀ j, j < cs.length → (f j).oneCell' = true) ∧ (∀ j, j < cs.length → VRep cx h s.L (cs.getD j .bad) (f j)) := by
  obtain ⟨arr, el, lo, hi, h1, h2, h3, h4, h5⟩ := R.obj l _ hg
  have h2 := h2.1
  refine ⟨fun j => arr.getD ((cx.r l).d + j) undef, fun j hj => ?_, h3, h4⟩
  rw [cellAt_of h1]
  have : (cx.r l).d + j < arr.size := by omega
  simp [Array.getD_eq_getD_getElem?, this]
theorem list_seg {l : List V} {o n j : Nat} (h : o + n ≤ l.length) (hj : j < n) : ((l.drop o).take n).getD j .bad = l.getD (o + j) .bad := by
  simp [List.getD, List.getElem?_take, List.getElem?_drop, hj]
theorem seg_len {α : Type} {l : List α} {o n : Nat} (h : o + n ≤ l.length) : ((l.drop o).take n).length = n := by simp; omega
theorem Row.seg {cx : Cx} {h : Array Obj} {m : Nat → Prop} {l : List V} {o n : Nat} (f : Nat → Value) (hl : o + n ≤ l.length) (h1 : ∀ j, j < l.length → (f j).oneCell' = true)
    (hv : ∀ j, j < l.length → VRep cx h m (l.getD j .bad) (f j)) : Row cx h m ((l.drop o).take n) ((List.range n).map fun j => f (o + j)).toArray := by
  have hlen := seg_len hl
  have := Row.mk' (cx := cx) (h := h) (n := m) (l := (l.drop o).take n) (fun j => f (o + j)) (fun j hj => h1 _ (by omega)) (fun j hj => by rw [list_seg hl (by omega)]; exact hv _ (by omega))
  rwa [hlen] at this
section
variable {gt : Nat → Option V} {P : Program} {w : World} {cx : Cx} {s : St} {e : List V} {act : Act}
theorem sim_load1 (R : Rel cx s w.heap) {t : TypeId} (ht : agP P t = some false) {a : Arg} {x : Value} (hx : VRep cx w.heap s.L (a.ev e) x) {v : V} {s' : St} (hop : aop e s (.load1 a) = some (v, s')) :
    Ok ((Instr.loadAt t x).run P w) cx s w v s' := by
  simp only [aop] at hop
  split at hop
  · rename_i l o hev
    rw [hev] at hx
    split at hop
    · rename_i cs z ty hg
      simp only [Option.map_eq_some_iff] at hop
      obtain ⟨v', h1, h2⟩ := hop
      cases h2
      cases hx
      obtain ⟨f, f1, f2, f3⟩ := obj_cells R hg
      have ho : o < cs.length := by
        rcases Nat.lt_or_ge o cs.length with h | h
        · exact h
        · rw [List.getElem?_eq_none h] at h1; cases h1
      refine ⟨f o, w, cx, ?_, ?_, R, .refl _ _ _, .rfl⟩
      · simp only [Instr.loadAt, Instr.sureAddr, Sem.run_bind, Sem.run_pure, Result.andThen_ok, loadVar, r_isAgg w ht, Bool.false_eq_true, if_false]
        exact r_load w _ _ _ (f1 o ho)
      · have := f3 o ho
        rwa [List.getD, h1] at this
    · cases hop
  · rename_i q o hev
    rw [hev] at hx
    simp only [Option.map_eq_some_iff] at hop
    obtain ⟨v', h1, h2⟩ := hop
    cases h2
    cases hx
    rename_i b d f g1 hz hc hv
    have ho : o < q.cells.length := by
      rcases Nat.lt_or_ge o q.cells.length with h | h
      · exact h
      · rw [List.getElem?_eq_none h] at h1; cases h1
    refine ⟨f o, w, cx, ?_, ?_, R, .refl _ _ _, .rfl⟩
    · simp only [Instr.loadAt, Instr.sureAddr, Sem.run_bind, Sem.run_pure, Result.andThen_ok, loadVar, r_isAgg w ht, Bool.false_eq_true, if_false]
      exact r_load w _ _ _ (hc o ho)
    · have := hv o ho
      rwa [List.getD, h1] at this
  · cases hop
theorem sim_loadn (R : Rel cx s w.heap) {t : TypeId} {n : Nat} (ht : agP P t = some true) (hn : szP P t = some n) {a : Arg} {x : Value} (hx : VRep cx w.heap s.L (a.ev e) x) {v : V} {s' : St} (hop : aop e s (.loadn n a) = some (v, s')) :
    Ok ((Instr.loadAt t x).run P w) cx s w v s' := by
  simp only [aop] at hop
  split at hop
  · rename_i l o hev
    rw [hev] at hx
    split at hop
    · rename_i cs z ty hg
      split at hop
      · rename_i hle
        cases hop
        cases hx
        obtain ⟨f, f1, f2, f3⟩ := obj_cells R hg
        refine ⟨_, w, cx, ?_, (Row.seg f hle f2 f3).ag, R, .refl _ _ _, .rfl⟩
        simp only [Instr.loadAt, Instr.sureAddr, Sem.run_bind, Sem.run_pure, Result.andThen_ok, loadVar, r_isAgg w ht, if_true, r_size w hn,
          r_loadCells w (cx.r l).b ((cx.r l).d + o) n (fun j => f (o + j)) (fun j hj => by rw [Nat.add_assoc]; exact f1 _ (by omega))]
      · cases hop
    · cases hop
  · rename_i q o hev
    rw [hev] at hx
    split at hop
    · rename_i hle
      cases hop
      cases hx
      rename_i b d f g1 hz hc hv
      refine ⟨_, w, cx, ?_, (Row.seg f hle g1 hv).ag, R, .refl _ _ _, .rfl⟩
      simp only [Instr.loadAt, Instr.sureAddr, Sem.run_bind, Sem.run_pure, Result.andThen_ok, loadVar, r_isAgg w ht, if_true, r_size w hn,
        r_loadCells w b (d + o) n (fun j => f (o + j)) (fun j hj => by rw [Nat.add_assoc]; exact hc _ (by omega))]
    · cases hop
  · cases hop
theorem mem_toList_one {a : Array Value} (h : ∀ j, j < a.size → (a.getD j undef).oneCell' = true) : ∀ v ∈ a.toList, v.oneCell' = true := by
  intro v hv
  obtain ⟨j, hj, rfl⟩ := List.mem_iff_getElem.1 hv
  have hj' : j < a.size := by simpa using hj
  have := h j hj'
  simpa [Array.getD_eq_getD_getElem?, hj'] using this
theorem obj_store (R : Rel cx s w.heap) {l : Nat} {cs : List V} {z : Nat} {ty : Option Nat} (hg : s.get l = some (.c cs z ty)) {vs : List V} {xs : Array Value} (r : Row cx w.heap s.L vs xs) {o : Nat} (ho : o + vs.length ≤ cs.length) (hz : vs.length = 0 ∨ z ≤ o) :
    ∃ w', (storeCells ⟨(cx.r l).b, (cx.r l).d + o, none⟩ xs.toList).run P w = .ok () w' ∧ Rel cx (s.put l (some (.c (setAt cs o vs) z ty))) w'.heap ∧ Ext cx s w.heap cx (s.put l (some (.c (setAt cs o vs) z ty))) w'.heap ∧ Qt w w' := by
  obtain ⟨arr, el, lo, hi, h1, ⟨h2, h2k, h2z, h2t⟩, h3, h4, h5⟩ := R.obj l _ hg
  have hl : xs.toList.length = vs.length := by simp [r.len]
  obtain ⟨w', e1, e2, eq⟩ := r_storeCells (P := P) (cx.r l).b ((cx.r l).d + o) el lo hi xs.toList 0 arr w h1 (by rw [hl]; omega)
    (fun j hj hj' => h5 j (by rw [hl] at hj'; omega) (by rw [hl] at hj'; omega)) (mem_toList_one fun j hj => r.one j (by rw [← r.len]; exact hj))
  refine ⟨w', e1, ?_⟩
  rw [← and_assoc]
  refine ⟨?_, eq⟩
  rw [Nat.add_zero] at e2
  have key : ∀ j, j < cs.length → ((setAt cs o vs).getD j .bad = if o ≤ j ∧ j < o + vs.length then vs.getD (j - o) .bad else cs.getD j .bad) ∧
      ((putAt arr ((cx.r l).d + o) xs.toList).getD ((cx.r l).d + j) undef = if o ≤ j ∧ j < o + vs.length then xs.getD (j - o) undef else arr.getD ((cx.r l).d + j) undef) := fun j hj => by
    have k1 := setAt_get vs cs o j ho
    have k2 := putAt_get xs.toList arr ((cx.r l).d + o) ((cx.r l).d + j) (by rw [hl]; omega)
    rw [hl] at k2
    by_cases hc : o ≤ j ∧ j < o + vs.length
    · rw [if_pos hc] at k1 ⊢
      rw [if_pos (by omega)] at k2
      rw [if_pos hc]
      refine ⟨listGetD_eq k1, ?_⟩
      rw [show (cx.r l).d + j - ((cx.r l).d + o) = j - o by omega] at k2
      simp [Array.getD_eq_getD_getElem?, k2]
    · rw [if_neg hc] at k1 ⊢
      rw [if_neg (by omega)] at k2
      rw [if_neg hc]
      exact ⟨listGetD_eq k1, arrGetD_eq k2⟩
  exact R.upd hg (setAt cs o vs) z (putAt arr ((cx.r l).d + o) xs.toList) el lo hi ⟨_, _, h1⟩ (fun T hT => (h2t T hT).2.2) (by rw [setAt_len, putAt_size]; exact h2) (setAt_len _ _ _) (by rw [putAt_size]; exact h2z)
    (fun j hj => by
      rw [setAt_len] at hj; rw [(key j hj).2]; split
      · exact r.one _ (by omega)
      · exact h3 j hj)
    (fun j hj => by
      rw [setAt_len] at hj; rw [(key j hj).1, (key j hj).2]; split
      · exact r.rep _ (by omega)
      · exact h4 j hj)
    (by rw [putAt_size]; exact h5) _ e2
theorem sim_store (R : Rel cx s w.heap) {t : TypeId} {n : Nat} (hn : szP P t = some n) {a b : Arg} {x y : Value} (hx : VRep cx w.heap s.L (a.ev e) x) (hy : VRep cx w.heap s.L (b.ev e) y) {v : V} {s' : St} (hop : aop e s (.store n a b) = some (v, s')) :
    ∃ w' cx', (Instr.storeAt t x y).run P w = .ok () w' ∧ v = unV ∧ Rel cx' s' w'.heap ∧ Ext cx s w.heap cx' s' w'.heap ∧ Qt w w' := by
  simp only [aop] at hop
  split at hop
  · rename_i l o hev
    rw [hev] at hx
    split at hop
    · rename_i cs z ty hg
      split at hop
      · rename_i hc
        obtain ⟨hi, hlen, hle, hz⟩ := hc
        cases hop
        cases hx
        have r := hy.row hi
        obtain ⟨w', e1, e2, e3, e4⟩ := obj_store (P := P) R hg r (o := o) (by omega) (by omega)
        refine ⟨w', cx, ?_, rfl, e2, e3, e4⟩
        have hsz : y.cells.size = n := by rw [r.len, hlen]
        simp only [Instr.storeAt, Instr.sureAddr, Sem.run_bind, Sem.run_pure, Result.andThen_ok, storeVar, r_size w hn, hsz, ne_eq, not_true, if_false, e1]
      · cases hop
    · cases hop
  · cases hop
theorem newRow_run (el : TypeId) (arr : Array Value) : (newRow el arr).run P w = .ok ⟨w.heap.size, 0, none⟩ { w with heap := w.heap.push (.cells arr el) } := by
  simp [newRow]
theorem sim_alloc (R : Rel cx s w.heap) {t : TypeId} {z : List V} (hz : zeroP P t = some z) {v : V} {s' : St} (hop : aop e s (.alloc t z) = some (v, s')) :
    Ok ((Instr.alloc t true (.tuple #[])).run P w) cx s w v s' := by
  simp only [aop] at hop
  cases hop
  obtain ⟨x, e1, e2, e3, e4⟩ := r_zero (P := P) w hz
  obtain ⟨cx', c1, c2, c3⟩ := R.new z x.cells t (some t) (fun _ h => by cases h; rfl) (by omega) e3 (fun j hj => e4 cx w.heap s.L j hj)
  refine ⟨.pointer (some ⟨w.heap.size, 0, none⟩), { w with heap := w.heap.push (.cells x.cells t) }, cx', ?_, ?_, c2, c3, ⟨rfl, rfl⟩⟩
  · simp only [Instr.alloc, Sem.run_bind, e1, Result.andThen_ok, newVar, newRow_run, Sem.run_pure]
  · have : VRep cx' (w.heap.push (.cells x.cells t)) (s.new (.c z 0 (some t))).L (.p s.n 0) (.pointer (some ⟨(cx'.r s.n).b, (cx'.r s.n).d + 0, none⟩)) := .p s.n 0 (St.new_L0 _ R.gl)
    rw [c1] at this
    simpa using this
theorem sim_box (R : Rel cx s w.heap) {t : TypeId} {b : Bool} {a : Arg} {x : Value} (hx : VRep cx w.heap s.L (a.ev e) x) {v : V} {s' : St} (hop : aop e s (.box t b a) = some (v, s')) :
    Ok ((Instr.box t x).run P w) cx s w v s' := by
  simp only [aop] at hop
  split at hop
  · rename_i hi
    have r := hx.row hi
    split at hop
    · cases hop
      obtain ⟨cx', c1, c2, c3⟩ := R.imm x.cells t (0, 0)
      refine ⟨.pointer (some ⟨w.heap.size, 0, none⟩), { w with heap := w.heap.push (.cells x.cells t) }, cx', ?_, ?_, c2, c3, ⟨rfl, rfl⟩⟩
      · simp only [Instr.box, Sem.run_bind, newVar, newRow_run, Result.andThen_ok, Sem.run_pure]
      · have rl := r.later c3.later
        have : VRep cx' (w.heap.push (.cells x.cells t)) s.L (.q (a.ev e) 0) (.pointer (some ⟨w.heap.size, 0 + 0, none⟩)) :=
          .q (a.ev e) 0 w.heap.size 0 (fun j => x.cells.getD j undef) r.one (fun j hj => by rw [Nat.zero_add]; exact c1 j (by rw [r.len]; exact hj))
            (fun j hj => by
              rw [cellAt_push_new, Nat.zero_add]
              have : j < x.cells.size := by rw [r.len]; exact hj
              simp [Array.getD_eq_getD_getElem?, this])
            rl.rep
        simpa using this
    · cases hop
      obtain ⟨cx', c1, c2, c3⟩ := R.new (a.ev e).cells x.cells t (some t) (fun _ h => by cases h; rfl) (by rw [r.len]; exact Nat.le_refl _) r.one r.rep
      refine ⟨.pointer (some ⟨w.heap.size, 0, none⟩), { w with heap := w.heap.push (.cells x.cells t) }, cx', ?_, ?_, c2, c3, ⟨rfl, rfl⟩⟩
      · simp only [Instr.box, Sem.run_bind, newVar, newRow_run, Result.andThen_ok, Sem.run_pure]
      · have : VRep cx' (w.heap.push (.cells x.cells t)) (s.new (.c (a.ev e).cells 0 (some t))).L (.p s.n 0) (.pointer (some ⟨(cx'.r s.n).b, (cx'.r s.n).d + 0, none⟩)) := .p s.n 0 (St.new_L0 _ R.gl)
        rw [c1] at this
        simpa using this
  · cases hop
end
theorem foldl_put (off : Nat) : ∀ (vs : List Value) (k : Nat) (cs : Array Value), (vs.zipIdx k).foldl (fun cs (x : Value × Nat) => cs.setIfInBounds (off + x.2) x.1) cs = putAt cs (off + k) vs
  | [], _, _ => rfl
  | v :: vs, k, cs => by
    simp only [List.zipIdx_cons, List.foldl_cons, putAt]
    rw [foldl_put off vs (k + 1)]
    rfl
theorem foldl_put' (off : Nat) (vs cs : Array Value) : (vs.zipIdx.foldl (fun cs (c, j) => cs.setIfInBounds (off + j) c) cs) = putAt cs off vs.toList := by
  have h := foldl_put off vs.toList 0 cs
  rw [Nat.add_zero] at h
  rw [← h, ← Array.foldl_toList, Array.toList_zipIdx]
theorem fill_rep {gt : Nat → Option V} {cx : Cx} {h : Array Obj} {n : Nat → Prop} {e : List V} {act : Act} (E : ERep gt cx h n e act.tmps) (pl : Nat → Option (Nat × Nat)) : ∀ (ps : List (Nat × Operand)) (ps' : List (Nat × Nat × Arg)), cParts gt pl ps = some ps' →
    ∀ (l l' : List V) (a : Array Value), Row cx h n l a → fillp e l ps' = some l' → ∃ a', Instr.fill pl a (ps.map fun (i, x) => (i, act.eval x)) = some a' ∧ Row cx h n l' a'
  | [], ps', hp, l, l', a, r, hf => by
    simp [cParts] at hp; subst hp
    simp [fillp] at hf; subst hf
    exact ⟨a, rfl, r⟩
  | (i, x) :: ps, ps', hp, l, l', a, r, hf => by
    simp only [cParts] at hp
    split at hp
    · rename_i o m x' r' h1 h2 h3
      cases hp
      simp only [fillp] at hf
      split at hf
      · rename_i hc
        obtain ⟨c1, c2, c3⟩ := hc
        have rx := (arg_rep E h2).row c1
        have r2 := r.put rx o (by omega)
        obtain ⟨a', e1, e2⟩ := fill_rep E pl ps r' h3 _ l' _ r2 hf
        refine ⟨a', ?_, e2⟩
        simp only [List.map_cons, Instr.fill, h1]
        rw [if_neg (by have := rx.len; have := r.len; simp; omega), foldl_put']
        exact e1
      · cases hf
    · cases hp
section
variable {gt : Nat → Option V} {P : Program} {w : World} {cx : Cx} {s : St} {e : List V} {act : Act}
theorem mapM_places (fs : List Field) (h : fs.all (fun f => (szP P f.type).isSome) = true) :
    (fs.mapM (fun f => (do pure (f.offset, ← Go.sizeOf f.type) : Sem (Nat × Nat)))).run P w = .ok (fs.map fun f => (f.offset, (szP P f.type).getD 0)) w := by
  induction fs with
  | nil => rfl
  | cons f fs ih =>
    simp only [List.all_cons, Bool.and_eq_true] at h
    obtain ⟨n, hn⟩ := Option.isSome_iff_exists.1 h.1
    simp only [List.mapM_cons, Sem.run_bind, r_size w hn, Result.andThen_ok, Sem.run_pure, ih h.2, List.map_cons, hn, Option.getD_some]
theorem sim_build (E : ERep gt cx w.heap s.L e act.tmps) (R : Rel cx s w.heap) {t : TypeId} {z : List V} (hz : zeroP P t = some z) (ps : Array (Nat × Operand)) (ps' : List (Nat × Nat × Arg))
    (hc : (∃ fs, P.underlying t = some (.struct fs) ∧ fs.toList.all (fun f => (szP P f.type).isSome) = true ∧ cParts gt (fieldPl P fs) ps.toList = some ps') ∨
      (∃ k el n, P.underlying t = some (.array k el) ∧ szP P el = some n ∧ cParts gt (fun i => some (i * n, n)) ps.toList = some ps'))
    {v : V} {s' : St} (hop : aop e s (.build z ps') = some (v, s')) :
    Ok ((Instr.build t (ps.map fun (i, x) => (i, act.eval x))).run P w) cx s w v s' := by
  simp only [aop, Option.map_eq_some_iff] at hop
  obtain ⟨l', h1, h2⟩ := hop
  cases h2
  obtain ⟨x, e1, e2, e3, e4⟩ := r_zero (P := P) w hz
  have r0 : Row cx w.heap s.L z x.cells := ⟨e2, e3, fun j hj => e4 cx w.heap s.L j hj⟩
  rcases hc with ⟨fs, hu, hall, hp⟩ | ⟨k, el, n, hu, hs, hp⟩
  · obtain ⟨a', f1, f2⟩ := fill_rep E _ _ _ hp z l' x.cells r0 h1
    refine ⟨.agg a', w, cx, ?_, f2.ag, R, .refl _ _ _, .rfl⟩
    have hm : (fs.mapM (fun f => (do pure (f.offset, ← Go.sizeOf f.type) : Sem (Nat × Nat)))).run P w = .ok (fs.map fun f => (f.offset, (szP P f.type).getD 0)) w := by
      rw [Array.mapM_eq_mapM_toList, Sem.run_map, mapM_places (w := w) fs.toList hall]
      simp only [Result.andThen_ok]
      congr 1
      apply Array.ext'
      simp
    have hpl : (fun i => (fs.map fun f => (f.offset, (szP P f.type).getD 0))[i]?) = fieldPl P fs := by
      funext i
      simp only [fieldPl, Array.getElem?_map]
      cases hf : fs[i]? with
      | none => rfl
      | some f =>
        have := List.all_eq_true.1 hall f (Array.mem_toList_iff.2 (Array.mem_of_getElem? hf))
        obtain ⟨n, hn⟩ := Option.isSome_iff_exists.1 this
        simp [hn]
    simp only [Instr.build, Sem.run_bind, e1, Result.andThen_ok, r_und w hu, hm, Array.toList_map, hpl, f1, Sem.run_pure]
  · obtain ⟨a', f1, f2⟩ := fill_rep E _ _ _ hp z l' x.cells r0 h1
    refine ⟨.agg a', w, cx, ?_, f2.ag, R, .refl _ _ _, .rfl⟩
    simp only [Instr.build, Sem.run_bind, e1, Result.andThen_ok, r_und w hu, r_size w hs, Array.toList_map, f1, Sem.run_pure]
end
end Rf
namespace Rf
open Go
theorem VRep.one_cells {cx : Cx} {h : Array Obj} {n : Nat → Prop} {v : V} {x : Value} (hv : VRep cx h n v x) (h1 : x.oneCell' = true) : v.cells = [v] := by
  cases hv <;> first | rfl | (simp [Value.oneCell'] at h1)
theorem flat_len {sz : Nat} : ∀ (xs : List V), (∀ x ∈ xs, x.cells.length = sz) → ((xs.map V.cells).flatten).length = xs.length * sz
  | [], _ => by simp
  | x :: xs, h => by
    simp only [List.map_cons, List.flatten_cons, List.length_append, List.length_cons]
    rw [flat_len xs (fun y hy => h y (by simp [hy])), h x (by simp), Nat.succ_mul, Nat.add_comm]
theorem flat_get {sz : Nat} : ∀ (xs : List V), (∀ x ∈ xs, x.cells.length = sz) → ∀ i j, i < xs.length → j < sz →
    ((xs.map V.cells).flatten).getD (i * sz + j) .bad = (xs.getD i .bad).cells.getD j .bad
  | [], _, i, j, hi, _ => by simp at hi
  | x :: xs, h, i, j, hi, hj => by
    simp only [List.map_cons, List.flatten_cons]
    have hx := h x (by simp)
    cases i with
    | zero =>
      simp only [Nat.zero_mul, Nat.zero_add, List.getD_cons_zero]
      simp only [List.getD]
      rw [List.getElem?_append_left (by omega)]
    | succ i =>
      have := flat_get xs (fun y hy => h y (by simp [hy])) i j (by simpa using hi) hj
      simp only [List.getD_cons_succ]
      rw [← this]
      simp only [List.getD]
      rw [List.getElem?_append_right (by rw [hx, Nat.succ_mul]; omega), hx, Nat.succ_mul, show i * sz + sz + j - sz = i * sz + j by omega]
theorem VRep.pu_flat {cx : Cx} {h : Array Obj} {m : Nat → Prop} {sz : Nat} {xs : List V} {c : Cap} {b d cap : Nat} (g : Nat → Value) (hs : ∀ x ∈ xs, x.cells.length = sz)
    (one : ∀ j, j < xs.length * sz → (g j).oneCell' = true) (hz : ∀ j, j < xs.length * sz → cx.fz b (d + j)) (hc : ∀ j, j < xs.length * sz → cellAt h b (d + j) = some (g j))
    (hv : ∀ j, j < xs.length * sz → VRep cx h m (((xs.map V.cells).flatten).getD j .bad) (g j)) (hl : xs.length ≤ cap) (hr : capR cx m c b d sz xs.length (xs.length * sz) cap) :
    VRep cx h m (.pu sz xs c) (.slice (some ⟨b, d, none⟩) xs.length cap) := by
  have key : ∀ i j, i < xs.length → j < sz → i * sz + j < xs.length * sz := fun i j hi hj => by
    have : (i + 1) * sz ≤ xs.length * sz := Nat.mul_le_mul_right sz hi
    rw [Nat.succ_mul] at this; omega
  refine .pu sz xs c ⟨b, d, none⟩ cap (fun i j => g (i * sz + j)) (fun _ => rfl) (fun i j hi hj => one _ (key i j hi hj)) (fun i hi => ?_) (fun i j hi hj => ?_) (fun i j hi hj => ?_) (fun i j hi hj => ?_) hl hr (fun _ _ => rfl)
  · refine hs _ ?_
    simp [List.getD, hi]
  · rw [Nat.add_assoc]; exact hz _ (key i j hi hj)
  · rw [Nat.add_assoc]; exact hc _ (key i j hi hj)
  · rw [← flat_get xs hs i j hi hj]; exact hv _ (key i j hi hj)
theorem VRep.pu_flat' {cx : Cx} {h : Array Obj} {m : Nat → Prop} {sz : Nat} {xs : List V} {c : Cap} {x : Value} (hv : VRep cx h m (.pu sz xs c) x) :
    (∀ y ∈ xs, y.cells.length = sz) ∧ ((xs = [] ∧ x = .slice none 0 0 ∧ capN c) ∨ ∃ (a : Addr) (cap : Nat) (g : Nat → Value), x = .slice (some a) xs.length cap ∧ (xs ≠ [] → a.spot = none) ∧ xs.length ≤ cap ∧
      (∀ j, j < xs.length * sz → (g j).oneCell' = true) ∧ (∀ j, j < xs.length * sz → cx.fz a.block (a.off + j)) ∧
      (∀ j, j < xs.length * sz → cellAt h a.block (a.off + j) = some (g j)) ∧ (∀ j, j < xs.length * sz → VRep cx h m (((xs.map V.cells).flatten).getD j .bad) (g j)) ∧
      capR cx m c a.block a.off sz xs.length (xs.length * sz) cap ∧ (∀ k, c = .t k → a.spot = none)) := by
  cases hv with
  | pu0 sz c hc => exact ⟨by simp, .inl ⟨rfl, rfl, hc⟩⟩
  | pu sz xs c a cap f ha h1 hs hz hc hv hl hr hp =>
    have hs' : ∀ y ∈ xs, y.cells.length = sz := fun y hy => by
      obtain ⟨i, hi, rfl⟩ := List.mem_iff_getElem.1 hy
      have := hs i hi
      simpa [List.getD, hi] using this
    refine ⟨hs', .inr ⟨a, cap, fun j => f (j / sz) (j % sz), rfl, ha, hl, ?_⟩⟩
    have key : ∀ j, j < xs.length * sz → j / sz < xs.length ∧ j % sz < sz ∧ j / sz * sz + j % sz = j := fun j hj => by
      have h0 : 0 < sz := by
        rcases Nat.eq_zero_or_pos sz with h | h
        · subst h; simp at hj
        · exact h
      refine ⟨Nat.div_lt_of_lt_mul (by rw [Nat.mul_comm]; exact hj), Nat.mod_lt _ h0, ?_⟩
      rw [Nat.mul_comm]; exact Nat.div_add_mod j sz
    refine ⟨fun j hj => h1 _ _ (key j hj).1 (key j hj).2.1, fun j hj => ?_, fun j hj => ?_, fun j hj => ?_, hr, hp⟩
    · have := hz _ _ (key j hj).1 (key j hj).2.1
      rwa [Nat.add_assoc, (key j hj).2.2] at this
    · have := hc _ _ (key j hj).1 (key j hj).2.1
      rwa [Nat.add_assoc, (key j hj).2.2] at this
    · have := hv _ _ (key j hj).1 (key j hj).2.1
      rw [← flat_get xs hs' _ _ (key j hj).1 (key j hj).2.1, (key j hj).2.2] at this
      exact this
theorem chunks_len (ag : Bool) (sz : Nat) : ∀ (n : Nat) (cs : List V), (chunks ag sz cs n).length = n
  | 0, _ => rfl
  | n + 1, cs => by simp [chunks, chunks_len ag sz n]
theorem chunks_flat (ag : Bool) (sz : Nat) (hag : ag = true ∨ sz = 1) : ∀ (n : Nat) (cs : List V), cs.length = n * sz → (ag = false → ∀ v ∈ cs, v.cells = [v]) →
    ((chunks ag sz cs n).map V.cells).flatten = cs ∧ ∀ x ∈ chunks ag sz cs n, x.cells.length = sz
  | 0, cs, h, _ => by
    have : cs = [] := by simpa using h
    subst this; simp [chunks]
  | n + 1, cs, h, h1 => by
    rw [Nat.succ_mul] at h
    obtain ⟨e1, e2⟩ := chunks_flat ag sz hag n (cs.drop sz) (by simp; omega) (fun ha v hv => h1 ha v (List.mem_of_mem_drop hv))
    have key : (mkEl ag (cs.take sz)).cells = cs.take sz := by
      cases ag with
      | true => rfl
      | false =>
        have hs : sz = 1 := by simpa using hag
        subst hs
        cases cs with
        | nil => simp at h
        | cons c cs => simp only [mkEl, List.take_succ_cons, List.take_zero, List.headD_cons, Bool.false_eq_true, if_false]; exact h1 rfl c (by simp)
    simp only [chunks, List.map_cons, List.flatten_cons, e1, key, List.take_append_drop, true_and]
    intro x hx
    rcases List.mem_cons.1 hx with rfl | hx
    · rw [key]; simp; omega
    · exact e2 x hx
theorem rep_flat_len (n : Nat) (z : List V) : ((List.replicate n z).flatten).length = n * z.length := by
  induction n with
  | zero => simp
  | succ n ih => simp [List.replicate_succ, ih, Nat.succ_mul, Nat.add_comm]
theorem rep_flat_get (z : List V) (hz : 0 < z.length) : ∀ (n j : Nat), j < n * z.length → ((List.replicate n z).flatten).getD j .bad = z.getD (j % z.length) .bad
  | 0, j, h => by simp at h
  | n + 1, j, h => by
    simp only [List.replicate_succ, List.flatten_cons]
    rw [Nat.succ_mul] at h
    by_cases hj : j < z.length
    · rw [Nat.mod_eq_of_lt hj]
      simp only [List.getD]
      rw [List.getElem?_append_left hj]
    · have := rep_flat_get z hz n (j - z.length) (by omega)
      rw [Nat.mod_eq_sub_mod (by omega), ← this]
      simp only [List.getD]
      rw [List.getElem?_append_right (by omega)]
theorem zero_row {cx : Cx} {h : Array Obj} {m : Nat → Prop} {z : List V} {zs : Array Value} (hz0 : 0 < z.length) (r : Row cx h m z zs) (n : Nat) :
    Row cx h m (List.replicate n z).flatten ((Array.range (n * z.length)).map (zs[· % zs.size]!)) := by
  have hl := rep_flat_len n z
  have key : ∀ j, j < n * z.length → ((Array.range (n * z.length)).map (zs[· % zs.size]!)).getD j undef = zs.getD (j % z.length) undef := fun j hj => by
    have : j % zs.size < zs.size := Nat.mod_lt _ (by rw [r.len]; exact hz0)
    simp only [Array.getD_eq_getD_getElem?, Array.getElem?_map, Array.getElem?_range, hj, if_true, Option.map_some, Option.getD_some]
    rw [← r.len, getElem!_pos zs _ this, Array.getElem?_eq_getElem this, Option.getD_some]
  refine ⟨by simp [hl], fun j hj => ?_, fun j hj => ?_⟩
  · rw [hl] at hj
    rw [key j hj]; exact r.one _ (Nat.mod_lt _ hz0)
  · rw [hl] at hj
    rw [key j hj, rep_flat_get z hz0 n j hj]; exact r.rep _ (Nat.mod_lt _ hz0)
theorem row_one_cells {cx : Cx} {h : Array Obj} {m : Nat → Prop} {l : List V} {a : Array Value} (r : Row cx h m l a) : ∀ v ∈ l, v.cells = [v] := by
  intro v hv
  obtain ⟨j, hj, rfl⟩ := List.mem_iff_getElem.1 hv
  have := (r.rep j hj).one_cells (r.one j hj)
  simpa [List.getD, hj] using this
section
variable {gt : Nat → Option V} {P : Program} {w : World} {cx : Cx} {s : St} {e : List V} {act : Act}
theorem sim_bsl (E : ERep gt cx w.heap s.L e act.tmps) (R : Rel cx s w.heap) {t el : TypeId} {n sz : Nat} {wh ag : Bool} {z : List V} (hu : P.underlying t = some (.slice el)) (hsz : szP P el = some sz) (hz : zeroP P el = some z)
    (h0 : 0 < sz) (hzl : z.length = sz) (hle : n * sz ≤ 16777216) (hag : ag = true ∨ sz = 1) (ps : Array (Nat × Operand)) (ps' : List (Nat × Nat × Arg)) (hp : cParts gt (fun i => some (i * sz, sz)) ps.toList = some ps')
    {v : V} {s' : St} (hop : aop e s (.bsl el wh ag n sz z ps') = some (v, s')) :
    Ok ((Instr.buildSlice t n (ps.map fun (i, x) => (i, act.eval x))).run P w) cx s w v s' := by
  simp only [aop] at hop
  split at hop
  · cases hop
  · rename_i cs hcs
    obtain ⟨x, e1, e2, e3, e4⟩ := r_zero (P := P) w hz
    have r0 : Row cx w.heap s.L z x.cells := ⟨e2, e3, fun j hj => e4 cx w.heap s.L j hj⟩
    have r1 := zero_row (by omega) r0 n
    rw [hzl] at r1
    obtain ⟨a', f1, f2⟩ := fill_rep E _ _ _ hp _ cs _ r1 hcs
    have hcl : cs.length = n * sz := by
      have : ∀ (ps : List (Nat × Nat × Arg)) (l l' : List V), fillp e l ps = some l' → l'.length = l.length := by
        intro ps
        induction ps with
        | nil => intro l l' h; simp [fillp] at h; rw [h]
        | cons p ps ih =>
          intro l l' h
          obtain ⟨o, m, y⟩ := p
          simp only [fillp] at h
          split at h
          · rw [ih _ _ h, setAt_len]
          · cases h
      rw [this _ _ _ hcs, rep_flat_len, hzl]
    have hrun : (Instr.buildSlice t n (ps.map fun (i, x) => (i, act.eval x))).run P w = .ok (.slice (some ⟨w.heap.size, 0, none⟩) n n) { w with heap := w.heap.push (.cells a' el) } := by
      by_cases h : n * sz = 0
      · have harr : (Array.range (n * sz)).map ((#[] : Array Value)[· % (#[] : Array Value).size]!) = (Array.range (n * sz)).map (x.cells[· % x.cells.size]!) := by simp [h]
        simp only [Instr.buildSlice, Sem.run_bind, r_und w hu, Result.andThen_ok, r_size w hsz, Sem.run_ite, h, show ¬ (0 > 2 ^ 24) by decide, if_false, if_true, Sem.run_pure]
        rw [h] at harr f1
        rw [harr, Array.toList_map, f1]
        simp only [Sem.run_bind, newRow_run, Result.andThen_ok, Sem.run_pure]
      · simp only [Instr.buildSlice, Sem.run_bind, r_und w hu, Result.andThen_ok, r_size w hsz, Sem.run_ite, show ¬ (n * sz > 2 ^ 24) by simp; omega, if_false, h, e1, Sem.run_pure, Array.toList_map, f1, newRow_run]
    rw [hrun]
    split at hop
    · cases hop
      obtain ⟨cx', c1, c2, c3⟩ := R.imm a' el (0, 0)
      have r2 := f2.later c3.later
      obtain ⟨k1, k2⟩ := chunks_flat ag sz hag n cs hcl (fun _ => row_one_cells f2)
      refine ⟨_, _, cx', rfl, ?_, c2, c3, ⟨rfl, rfl⟩⟩
      have hl := chunks_len ag sz n cs
      have : VRep cx' (w.heap.push (.cells a' el)) s.L (.pu sz (chunks ag sz cs n) (.x n)) (.slice (some ⟨w.heap.size, 0, none⟩) (chunks ag sz cs n).length n) :=
        VRep.pu_flat (fun j => a'.getD j undef) k2 (fun j hj => r2.one j (by rw [hcl]; rwa [hl] at hj)) (fun j hj => by rw [Nat.zero_add]; exact c1 j (by rw [r2.len, hcl]; rwa [hl] at hj))
          (fun j hj => by
            rw [hl] at hj
            rw [cellAt_push_new, Nat.zero_add]
            have : j < a'.size := by rw [r2.len, hcl]; exact hj
            simp [Array.getD_eq_getD_getElem?, this])
          (fun j hj => by rw [k1]; exact r2.rep j (by rw [hcl]; rwa [hl] at hj)) (by rw [hl]; exact Nat.le_refl _) (by simp [capR])
      rwa [hl] at this
    · cases hop
      obtain ⟨cx', c1, c2, c3⟩ := R.new cs a' el (some el) (fun _ h => by cases h; rfl) (by rw [f2.len]; exact Nat.le_refl _) f2.one f2.rep
      refine ⟨_, _, cx', rfl, ?_, c2, c3, ⟨rfl, rfl⟩⟩
      have : VRep cx' (w.heap.push (.cells a' el)) (s.new (.c cs 0 (some el))).L (.sl sz s.n 0 n (some n)) (.slice (some ⟨(cx'.r s.n).b, (cx'.r s.n).d + 0, none⟩) n n) :=
        .sl sz s.n 0 n (some n) n (St.new_L0 _ R.gl) (Nat.le_refl _) ⟨rfl, by rw [c1]; simp [hcl]⟩
      rw [c1] at this
      simpa using this
theorem sim_fa (R : Rel cx s w.heap) {t : TypeId} {fs : Array Field} {i n : Nat} {fd : Field} (hu : P.underlying t = some (.struct fs)) (hf : fs[i]? = some fd) (hn : szP P fd.type = some n) (h0 : n ≠ 0) {a : Arg} {x : Value} (hx : VRep cx w.heap s.L (a.ev e) x)
    {v : V} {s' : St} (hop : aop e s (.fa fd.offset a) = some (v, s')) : Ok ((Instr.fieldAt t x i).run P w) cx s w v s' := by
  simp only [aop] at hop
  split at hop
  · rename_i l o hev
    rw [hev] at hx; cases hop; cases hx
    rename_i hl
    refine ⟨.pointer (some ⟨(cx.r l).b, (cx.r l).d + (o + fd.offset), none⟩), w, cx, ?_, .p l (o + fd.offset) hl, R, .refl _ _ _, .rfl⟩
    simp only [Instr.fieldAt, Sem.run_bind, r_und w hu, Result.andThen_ok, hf, Instr.sureAddr, Sem.run_pure, fieldPlace, r_size w hn, h0, if_false, add_none, Nat.add_assoc]
  · rename_i q o hev
    rw [hev] at hx; cases hop; cases hx
    rename_i b d f h1 hz hc hv
    refine ⟨.pointer (some ⟨b, d + (o + fd.offset), none⟩), w, cx, ?_, .q q (o + fd.offset) b d f h1 hz hc hv, R, .refl _ _ _, .rfl⟩
    simp only [Instr.fieldAt, Sem.run_bind, r_und w hu, Result.andThen_ok, hf, Instr.sureAddr, Sem.run_pure, fieldPlace, r_size w hn, h0, if_false, add_none, Nat.add_assoc]
  · cases hop
theorem list_get_lt {α : Type} {l : List α} {i : Nat} {x : α} (h : l[i]? = some x) : i < l.length := by
  rcases Nat.lt_or_ge i l.length with h1 | h1
  · exact h1
  · rw [List.getElem?_eq_none h1] at h; cases h
theorem seg_row {cs : List V} {vs : Array Value} {h : Array Obj} {m : Nat → Prop} (r : Row cx h m cs vs) {o n : Nat} (hle : o + n ≤ cs.length) : Row cx h m ((cs.drop o).take n) (vs.extract o (o + n)) := by
  have hl := seg_len hle
  have key : ∀ j, j < n → (vs.extract o (o + n)).getD j undef = vs.getD (o + j) undef := fun j hj => by
    apply arrGetD_eq
    rw [Array.getElem?_extract]
    have := r.len
    rw [if_pos (by omega)]
  refine ⟨by rw [hl]; have := r.len; simp; omega, fun j hj => ?_, fun j hj => ?_⟩
  · rw [key j (by omega)]; exact r.one _ (by omega)
  · rw [key j (by omega), list_seg hle (by omega)]; exact r.rep _ (by omega)
theorem r_part {cs : List V} {vs : Array Value} (r : Row cx w.heap s.L cs vs) (R : Rel cx s w.heap) {t : TypeId} {ag : Bool} (ha : agP P t = some ag) {n : Nat} (hn : szP P t = some n) (o : Nat) {v : V} {s' : St}
    (hop : (match ag with | true => if o + n ≤ cs.length then some (V.ag ((cs.drop o).take n), s) else none | false => (cs[o]?).map fun v => (v, s)) = some (v, s')) :
    Ok ((part t vs o).run P w) cx s w v s' := by
  cases ag with
  | true =>
    simp only at hop
    split at hop
    · rename_i hle
      cases hop
      refine ⟨_, w, cx, ?_, (seg_row r hle).ag, R, .refl _ _ _, .rfl⟩
      simp only [part, Sem.run_bind, r_isAgg w ha, Result.andThen_ok, if_true, r_size w hn, Sem.run_pure]
    · cases hop
  | false =>
    simp only [Option.map_eq_some_iff] at hop
    obtain ⟨v', h1, h2⟩ := hop
    cases h2
    have ho := list_get_lt h1
    have ho' : o < vs.size := by rw [r.len]; exact ho
    refine ⟨vs[o], w, cx, ?_, ?_, R, .refl _ _ _, .rfl⟩
    · simp [part, Sem.run_bind, r_isAgg w ha, Array.getElem?_eq_getElem ho']
    · have := r.rep o ho
      simpa [List.getD, h1, Array.getD_eq_getD_getElem?, ho'] using this
theorem sim_fld (R : Rel cx s w.heap) {t : TypeId} {fs : Array Field} {i n : Nat} {fd : Field} {ag : Bool} (hu : P.underlying t = some (.struct fs)) (hf : fs[i]? = some fd) (ha : agP P fd.type = some ag) (hn : szP P fd.type = some n) {a : Arg} {x : Value} (hx : VRep cx w.heap s.L (a.ev e) x)
    {v : V} {s' : St} (hop : aop e s (.fld fd.offset (if ag then some n else none) a) = some (v, s')) : Ok ((Instr.field t x i).run P w) cx s w v s' := by
  simp only [aop] at hop
  split at hop
  · rename_i cs hev
    rw [hev] at hx
    have hr := hx.row rfl
    cases hx
    rename_i vs h1 h2 h3
    have := r_part (P := P) hr R ha hn fd.offset (v := v) (s' := s') (by cases ag <;> simp only [Bool.false_eq_true, if_true, if_false] at hop <;> exact hop)
    simpa only [Instr.field, Sem.run_bind, r_und w hu, Result.andThen_ok, hf, asAgg, Sem.run_pure, Value.cells] using this
  · cases hop
theorem sim_ext (R : Rel cx s w.heap) {i : Nat} {a : Arg} {x : Value} (hx : VRep cx w.heap s.L (a.ev e) x) {v : V} {s' : St} (hop : aop e s (.ext a i) = some (v, s')) : Ok ((Instr.extract x i).run P w) cx s w v s' := by
  simp only [aop] at hop
  split at hop
  · rename_i cs hev
    rw [hev] at hx; cases hx
    rename_i vs h1 h2
    simp only [Option.map_eq_some_iff] at hop
    obtain ⟨v', h3, h4⟩ := hop
    cases h4
    have ho := list_get_lt h3
    have ho' : i < vs.size := by omega
    refine ⟨vs[i], w, cx, ?_, ?_, R, .refl _ _ _, .rfl⟩
    · simp [Instr.extract, Array.getElem?_eq_getElem ho']
    · have := h2 i ho
      simpa [List.getD, h3, Array.getD_eq_getD_getElem?, ho'] using this
  · cases hop
end
end Rf
namespace Rf
open Go
section
variable {P : Program} {w : World} {cx : Cx} {s : St} {e : List V} {act : Act}
theorem sim_ia (R : Rel cx s w.heap) {t el : TypeId} {n : Nat} (hu : P.underlying t = some (.slice el)) (hn : szP P el = some n) {a b : Arg} {x y : Value} (hx : VRep cx w.heap s.L (a.ev e) x) (hy : VRep cx w.heap s.L (b.ev e) y)
    {v : V} {s' : St} (hop : aop e s (.ia n a b) = some (v, s')) : Ok ((Instr.indexAt t x y).run P w) cx s w v s' := by
  simp only [aop] at hop
  split at hop
  · rename_i z l o m c kd k hea heb
    rw [hea] at hx; rw [heb] at hy
    split at hop
    · rename_i hk
      obtain ⟨rfl, hk⟩ := hk
      cases hop; cases hx; cases hy
      rename_i cap hl hk' hc
      refine ⟨_, w, cx, ?_, .p l (o + k.toNat * z) hl, R, .refl _ _ _, .rfl⟩
      simp only [Instr.indexAt, asIntOf, Sem.run_bind, Sem.run_pure, Result.andThen_ok, r_und w hu, hk, and_self, if_true, r_size w hn, add_none, Nat.add_assoc]
    · cases hop
  · rename_i z xs c kd k hea heb
    rw [hea] at hx; rw [heb] at hy
    split at hop
    · rename_i hk
      obtain ⟨rfl, hk0⟩ := hk
      simp only [Option.map_eq_some_iff] at hop
      obtain ⟨v', h1, h2⟩ := hop
      cases h2; cases hy
      have hi := list_get_lt h1
      have hkl : k < (xs.length : Int) := by omega
      cases hx with
      | pu0 => simp at hi
      | pu _ _ _ ad cap f ha hone hs hz hc hv hl hr hp =>
        have hsp := ha (by intro h; subst h; simp at hi)
        obtain ⟨bb, bo, bs⟩ := ad
        simp only at hsp; subst hsp
        have hgd : xs.getD k.toNat .bad = v' := by simp [List.getD, h1]
        have hsz := hs k.toNat hi
        rw [hgd] at hsz
        refine ⟨_, w, cx, ?_, .q v' 0 bb (bo + k.toNat * z) (f k.toNat) (fun j hj => hone _ j hi (by omega)) (fun j hj => hz _ j hi (by omega)) (fun j hj => hc _ j hi (by omega)) (fun j hj => by have := hv _ j hi (by omega : j < z); rwa [hgd] at this), R, .refl _ _ _, .rfl⟩
        simp only [Instr.indexAt, asIntOf, Sem.run_bind, Sem.run_pure, Result.andThen_ok, r_und w hu, hk0, hkl, and_self, if_true, r_size w hn, add_none, Nat.add_zero]
    · cases hop
  · cases hop
theorem sim_iaA (R : Rel cx s w.heap) {t el : TypeId} {n len : Nat} (hu : P.underlying t = some (.array len el)) (hn : szP P el = some n) {a b : Arg} {x y : Value} (hx : VRep cx w.heap s.L (a.ev e) x) (hy : VRep cx w.heap s.L (b.ev e) y)
    {v : V} {s' : St} (hop : aop e s (.iaA n len a b) = some (v, s')) : Ok ((Instr.indexAt t x y).run P w) cx s w v s' := by
  simp only [aop] at hop
  split at hop
  · rename_i l o kd k hea heb
    rw [hea] at hx; rw [heb] at hy
    split at hop
    · rename_i hk
      cases hop; cases hx; cases hy
      rename_i hl
      refine ⟨_, w, cx, ?_, .p l (o + k.toNat * n) hl, R, .refl _ _ _, .rfl⟩
      simp only [Instr.indexAt, asIntOf, Sem.run_bind, Sem.run_pure, Result.andThen_ok, r_und w hu, Instr.sureAddr, hk, and_self, if_true, r_size w hn, add_none, Nat.add_assoc]
    · cases hop
  · rename_i q o kd k hea heb
    rw [hea] at hx; rw [heb] at hy
    split at hop
    · rename_i hk
      cases hop; cases hx; cases hy
      rename_i b d f h1 hz hc hv
      refine ⟨_, w, cx, ?_, .q q (o + k.toNat * n) b d f h1 hz hc hv, R, .refl _ _ _, .rfl⟩
      simp only [Instr.indexAt, asIntOf, Sem.run_bind, Sem.run_pure, Result.andThen_ok, r_und w hu, Instr.sureAddr, hk, and_self, if_true, r_size w hn, add_none, Nat.add_assoc]
    · cases hop
  · cases hop
theorem sim_idxA (R : Rel cx s w.heap) {t el : TypeId} {n len : Nat} {ag : Bool} (hu : P.underlying t = some (.array len el)) (hn : szP P el = some n) (ha : agP P el = some ag) {a b : Arg} {x y : Value} (hx : VRep cx w.heap s.L (a.ev e) x) (hy : VRep cx w.heap s.L (b.ev e) y)
    {v : V} {s' : St} (hop : aop e s (.idxA n ag len a b) = some (v, s')) : Ok ((Instr.index t x y).run P w) cx s w v s' := by
  simp only [aop] at hop
  split at hop
  · rename_i cs kd k hea heb
    rw [hea] at hx; rw [heb] at hy
    split at hop
    · rename_i hk
      have hr := hx.row rfl
      cases hx; cases hy
      rename_i vs h1 h2 h3
      have := r_part (P := P) hr R ha hn (k.toNat * n) (v := v) (s' := s') (by cases ag <;> exact hop)
      simpa only [Instr.index, asIntOf, Sem.run_bind, Sem.run_pure, Result.andThen_ok, r_und w hu, hk, and_self, if_true, r_size w hn, Value.cells] using this
    · cases hop
  · cases hop
theorem bytes_get (l : List UInt8) (i : Nat) : (⟨l.toArray⟩ : ByteArray)[i]? = l[i]? := by
  by_cases h : i < l.length
  · rw [List.getElem?_eq_getElem h, getElem?_pos _ i (by show i < l.toArray.size; simpa using h)]
    show some (l.toArray[i]'_) = _
    simp
  · rw [List.getElem?_eq_none (by omega), getElem?_neg _ i (by show ¬ i < l.toArray.size; simpa using h)]
theorem sim_idxS (R : Rel cx s w.heap) {t : TypeId} (hu : P.underlying t = some .string) {a b : Arg} {x y : Value} (hx : VRep cx w.heap s.L (a.ev e) x) (hy : VRep cx w.heap s.L (b.ev e) y)
    {v : V} {s' : St} (hop : aop e s (.idxS a b) = some (v, s')) : Ok ((Instr.index t x y).run P w) cx s w v s' := by
  simp only [aop] at hop
  split at hop
  · rename_i l kd k hea heb
    rw [hea] at hx; rw [heb] at hy
    split at hop
    · rename_i hk
      cases hx; cases hy
      simp only [Option.map_eq_some_iff] at hop
      obtain ⟨v', h1, h2⟩ := hop
      cases h2
      refine ⟨_, w, cx, ?_, .i .u8 v'.toNat, R, .refl _ _ _, .rfl⟩
      simp only [Instr.index, asIntOf, Sem.run_bind, Sem.run_pure, Result.andThen_ok, r_und w hu, hk, if_true, bytes_get, h1]
    · cases hop
  · cases hop
theorem sim_len (R : Rel cx s w.heap) {t el : TypeId} (hu : P.underlying t = some (.slice el)) {a : Arg} {x : Value} (hx : VRep cx w.heap s.L (a.ev e) x)
    {v : V} {s' : St} (hop : aop e s (.len a) = some (v, s')) (ty : TypeId) : Ok ((Builtin.len_ #[t] ty #[x]).run P w) cx s w v s' := by
  have key : ∀ b n c, x = .slice b n c → v = .i .i64 n → s' = s → Ok ((Builtin.len_ #[t] ty #[x]).run P w) cx s w v s' := by
    intro b n c hxe hve hse
    subst hxe; subst hve; subst hse
    refine ⟨_, w, cx, ?_, .i .i64 n, R, .refl _ _ _, .rfl⟩
    simp [Builtin.len_, Sem.run_bind, r_und w hu, goInt]
  simp only [aop] at hop
  split at hop
  · rename_i hea
    rw [hea] at hx; cases hop; cases hx
    exact key _ _ _ rfl rfl rfl
  · rename_i z l o n c hea
    rw [hea] at hx; cases hop; cases hx
    exact key _ _ _ rfl rfl rfl
  · rename_i z l hea
    rw [hea] at hx; cases hop; cases hx
    exact key _ _ _ rfl rfl rfl
  · rename_i z xs c hea
    rw [hea] at hx; cases hop
    cases hx
    · exact key _ _ _ rfl rfl rfl
    · exact key _ _ _ rfl rfl rfl
  · cases hop
theorem sim_lenS (R : Rel cx s w.heap) {t : TypeId} (hu : P.underlying t = some .string) {a : Arg} {x : Value} (hx : VRep cx w.heap s.L (a.ev e) x)
    {v : V} {s' : St} (hop : aop e s (.lenS a) = some (v, s')) (ty : TypeId) : Ok ((Builtin.len_ #[t] ty #[x]).run P w) cx s w v s' := by
  simp only [aop] at hop
  split at hop
  · rename_i l hea
    rw [hea] at hx; cases hop; cases hx
    refine ⟨_, w, cx, ?_, .i .i64 l.length, R, .refl _ _ _, .rfl⟩
    simp [Builtin.len_, Sem.run_bind, r_und w hu, goInt]
    rfl
  · cases hop
theorem sim_not (R : Rel cx s w.heap) {a : Arg} {x : Value} (hx : VRep cx w.heap s.L (a.ev e) x) {v : V} {s' : St} (hop : aop e s (.not a) = some (v, s')) : Ok ((Op.unary .not x).run P w) cx s w v s' := by
  simp only [aop] at hop
  split at hop
  · rename_i b hea
    rw [hea] at hx; cases hop; cases hx
    exact ⟨_, w, cx, by simp [Op.unary], .b (!b), R, .refl _ _ _, .rfl⟩
  · cases hop
theorem sim_neg (R : Rel cx s w.heap) {a : Arg} {x : Value} (hx : VRep cx w.heap s.L (a.ev e) x) {v : V} {s' : St} (hop : aop e s (.neg a) = some (v, s')) : Ok ((Op.unary .neg x).run P w) cx s w v s' := by
  simp only [aop] at hop
  split at hop
  · rename_i k n hea
    rw [hea] at hx; cases hop; cases hx
    exact ⟨_, w, cx, by simp [Op.unary, Op.intArith, wrapF_eq], .i k _, R, .refl _ _ _, .rfl⟩
  · cases hop
theorem sim_conv (R : Rel cx s w.heap) {t t' : TypeId} {k0 k : IntKind} (hu : P.underlying t = some (.int k0)) (hu' : P.underlying t' = some (.int k)) {a : Arg} {x : Value} (hx : VRep cx w.heap s.L (a.ev e) x) {v : V} {s' : St} (hop : aop e s (.conv k a) = some (v, s')) : Ok ((convert t t' x).run P w) cx s w v s' := by
  simp only [aop] at hop
  split at hop
  · rename_i k1 n hea
    rw [hea] at hx; cases hop; cases hx
    exact ⟨_, w, cx, by simp only [convert, Sem.run_bind, r_und w hu, r_und w hu', Result.andThen_ok, Conv.intToInt, Sem.run_pure, wrapF_eq], .i k _, R, .refl _ _ _, .rfl⟩
  · cases hop
theorem sim_convS (R : Rel cx s w.heap) {t t' : TypeId} (hu : P.underlying t = some .string) (hu' : P.underlying t' = some .string) {a : Arg} {x : Value} (hx : VRep cx w.heap s.L (a.ev e) x) {v : V} {s' : St} (hop : aop e s (.movS a) = some (v, s')) : Ok ((convert t t' x).run P w) cx s w v s' := by
  simp only [aop] at hop
  split at hop
  · rename_i l hea
    rw [hea] at hx; cases hop; cases hx
    exact ⟨_, w, cx, by simp only [convert, Sem.run_bind, r_und w hu, r_und w hu', Result.andThen_ok, Sem.run_pure], .s l, R, .refl _ _ _, .rfl⟩
  · cases hop
theorem sim_mki (R : Rel cx s w.heap) {t : TypeId} {d : TypeDesc} (hu : P.underlying t = some d) (hd : ∀ m, d ≠ .interface m) {a : Arg} {x : Value} (hx : VRep cx w.heap s.L (a.ev e) x) : Ok ((Instr.makeInterface t x).run P w) cx s w (.ifc t (a.ev e)) s := by
  refine ⟨_, w, cx, ?_, .ifc t _ x hx, R, .refl _ _ _, .rfl⟩
  cases d <;> simp_all [Instr.makeInterface, Sem.run_bind, r_und w hu]
theorem sim_mmx (R : Rel cx s w.heap) {mx : Bool} {a b : Arg} {x y : Value} (hx : VRep cx w.heap s.L (a.ev e) x) (hy : VRep cx w.heap s.L (b.ev e) y)
    {v : V} {s' : St} (hop : aop e s (.mmx mx a b) = some (v, s')) (ts : Array TypeId) (ty : TypeId) : Ok (((if mx then Builtin.max_ ts ty #[x, y] else Builtin.min_ ts ty #[x, y])).run P w) cx s w v s' := by
  simp only [aop] at hop
  split at hop
  · rename_i k n k' m hea heb
    rw [hea] at hx; rw [heb] at hy
    split at hop
    · rename_i hk; subst hk
      cases hop; cases hx; cases hy
      refine ⟨_, w, cx, ?_, .i k _, R, .refl _ _ _, .rfl⟩
      cases mx
      · simp [Builtin.min_, Builtin.min2]
      · simp [Builtin.max_, Builtin.max2]
    · cases hop
  · cases hop
theorem sim_nilc (R : Rel cx s w.heap) {a : Arg} {x : Value} (hx : VRep cx w.heap s.L (a.ev e) x) {v : V} {s' : St} (hop : aop e s (.nilc a) = some (v, s')) :
    s' = s ∧ VRep cx w.heap s.L v x ∧ (x ≠ .pointer none ∧ x ≠ .nilIface ∧ x ≠ .nilFunc ∧ ∀ nm a b, x ≠ .func (.method nm) a b) := by
  simp only [aop] at hop
  split at hop <;> (rename_i hea; first | (rw [hea] at hx; cases hop; refine ⟨rfl, hx, ?_⟩; cases hx; refine ⟨?_, ?_, ?_, ?_⟩ <;> intros <;> simp) | cases hop)
theorem bytesLess_list (a b : List UInt8) : (⟨a.toArray⟩ : ByteArray).toList = a ∧ (⟨b.toArray⟩ : ByteArray).toList = b := by
  constructor <;> (rw [ByteArray.toList_eq])
theorem ba_append (a b : List UInt8) : (⟨a.toArray⟩ : ByteArray) ++ ⟨b.toArray⟩ = ⟨(a ++ b).toArray⟩ := by
  apply ByteArray.ext
  simp
theorem sim_bin (R : Rel cx s w.heap) {t : TypeId} {op : BinOp} (hop' : isBin op = true) {a b : Arg} {x y : Value} (hx : VRep cx w.heap s.L (a.ev e) x) (hy : VRep cx w.heap s.L (b.ev e) y)
    {v : V} {s' : St} (hop : aop e s (.bin op a b) = some (v, s')) : Ok ((binOp op t x y).run P w) cx s w v s' := by
  simp only [aop, Option.map_eq_some_iff] at hop
  obtain ⟨v', h1, h2⟩ := hop
  cases h2
  generalize a.ev e = av at *
  generalize b.ev e = bv at *
  unfold binV at h1
  split at h1
  · -- shl
    split at h1
    · cases h1
    · rename_i hb
      cases h1; cases hx; cases hy
      refine ⟨_, w, cx, ?_, .i _ _, R, .refl _ _ _, .rfl⟩
      simp [binOp, Op.shift, hb, wrapF_eq]
  · split at h1
    · cases h1
    · rename_i hb
      cases h1; cases hx; cases hy
      refine ⟨_, w, cx, ?_, .i _ _, R, .refl _ _ _, .rfl⟩
      simp [binOp, Op.shift, hb, wrapF_eq]
  · rename_i k n k' m n1 n2
    split at h1
    · rename_i hk; subst hk
      cases hx; cases hy
      cases op <;> simp only [binI, wrapK_eq, ltZ_eq, leZ_eq] at h1 <;> first
        | (cases h1; done)
        | (cases h1; refine ⟨_, w, cx, ?_, by first | exact .i _ _ | exact .b _, R, .refl _ _ _, .rfl⟩; simp only [binOp, ne_eq, not_true_eq_false, if_false, Op.intArith, Op.intCmp, Op.intBits, Sem.run_pure])
        | (split at h1
           · cases h1
           · rename_i hz; cases h1; refine ⟨_, w, cx, ?_, .i _ _, R, .refl _ _ _, .rfl⟩; simp only [binOp, ne_eq, not_true_eq_false, if_false, Op.intDiv, hz, Sem.run_pure])
    · cases h1
  · rename_i x1 y1
    split at h1
    · rename_i hlt
      cases h1; cases hx; cases hy
      refine ⟨_, w, cx, ?_, .s (x1 ++ y1), R, .refl _ _ _, .rfl⟩
      have hsz : ∀ l : List UInt8, (⟨l.toArray⟩ : ByteArray).size = l.length := fun l => by simp [ByteArray.size]
      simp only [binOp, Op.stringOp, Sem.run_ite, hsz]
      rw [if_neg (by simp [IntKind.max, IntKind.bits, IntKind.signed]; omega), Sem.run_pure, ba_append]
    · cases h1
  · rename_i x1 y1
    cases h1; cases hx; cases hy
    refine ⟨_, w, cx, ?_, .b _, R, .refl _ _ _, .rfl⟩
    simp only [binOp, Op.stringOp, (bytesLess_list x1 y1).1, (bytesLess_list x1 y1).2, Sem.run_pure]
  · rename_i x1 y1
    cases h1; cases hx; cases hy
    refine ⟨_, w, cx, ?_, .b _, R, .refl _ _ _, .rfl⟩
    simp only [binOp, Op.stringOp, (bytesLess_list x1 y1).1, (bytesLess_list x1 y1).2, Sem.run_pure]
  · rename_i x1 y1
    cases h1; cases hx; cases hy
    refine ⟨_, w, cx, ?_, .b _, R, .refl _ _ _, .rfl⟩
    simp only [binOp, Op.stringOp, (bytesLess_list x1 y1).1, (bytesLess_list x1 y1).2, Sem.run_pure]
  · rename_i x1 y1
    cases h1; cases hx; cases hy
    refine ⟨_, w, cx, ?_, .b _, R, .refl _ _ _, .rfl⟩
    simp only [binOp, Op.stringOp, (bytesLess_list x1 y1).1, (bytesLess_list x1 y1).2, Sem.run_pure]
  · cases h1
end
end Rf
namespace Rf
open Go
theorem growBy_le (L : Nat) : ∀ (r c : Nat), c ≤ L + (L + 768) / 4 → Builtin.growBy L r c ≤ L + (L + 768) / 4
  | 0, c, h => h
  | r + 1, c, h => by
    simp only [Builtin.growBy]
    split
    · exact h
    · exact growBy_le L r _ (by omega)
theorem nextcap_le (L c : Nat) (h : c < L) : Builtin.nextslicecap L c ≤ 2 * L + 1024 := by
  unfold Builtin.nextslicecap
  split
  · omega
  · split
    · omega
    · have := growBy_le L 4 c (by omega)
      omega
section
variable {P : Program} {w : World} {cx : Cx} {s : St} {e : List V} {act : Act}
theorem r_src (R : Rel cx s w.heap) {sz : Nat} {y : V} {x : Value} (hy : VRep cx w.heap s.L y x) {k : Nat} {new : List V} (h : srcOf s sz y = some (k, new)) :
    (Builtin.lenOf x).run P w = .ok k w ∧ new.length = k * sz ∧ ∀ m, m ≤ k → ∃ a, (Builtin.firstCells sz m x).run P w = .ok a w ∧ Row cx w.heap s.L (new.take (m * sz)) a := by
  unfold srcOf at h
  split at h
  · cases h; cases hy
    refine ⟨rfl, by simp, fun m _ => ⟨#[], rfl, by simp, fun j hj => by simp at hj, fun j hj => by simp at hj⟩⟩
  · rename_i z l
    split at h
    · rename_i hz; subst hz
      cases h; cases hy
      refine ⟨rfl, by simp, fun m hm => ?_⟩
      have h0 : m = 0 := by omega
      subst h0
      refine ⟨#[], ?_, by simp, fun j hj => by simp at hj, fun j hj => by simp at hj⟩
      simp only [Builtin.firstCells, Nat.zero_mul]; rfl
    · cases h
  · rename_i z l o n c
    split at h
    · rename_i cs zz ty0 hg
      split at h
      · rename_i hle
        obtain ⟨rfl, hle⟩ := hle
        cases h; cases hy
        obtain ⟨f, f1, f2, f3⟩ := obj_cells R hg
        refine ⟨rfl, seg_len hle, fun m hm => ?_⟩
        have hmz : m * z ≤ k * z := Nat.mul_le_mul_right z hm
        refine ⟨_, r_loadCells w _ _ (m * z) (fun j => f (o + j)) (fun j hj => by rw [Nat.add_assoc]; exact f1 _ (by omega)), ?_⟩
        have := Row.seg (cx := cx) (h := w.heap) (m := s.L) (n := m * z) f (show o + m * z ≤ cs.length by omega) f2 f3
        rwa [List.take_take, Nat.min_eq_left hmz]
      · cases h
    · cases h
  · rename_i z xs c
    split at h
    · rename_i hz; subst hz
      cases h
      obtain ⟨hs, h1 | ⟨a, cap, g, rfl, hsp, hl, one, hz, hc, hv, hr, hp⟩⟩ := hy.pu_flat'
      · obtain ⟨rfl, rfl, -⟩ := h1
        refine ⟨rfl, by simp, fun m hm => ⟨#[], rfl, by simp, fun j hj => by simp at hj, fun j hj => by simp at hj⟩⟩
      · have hfl := flat_len xs hs
        refine ⟨rfl, hfl, fun m hm => ?_⟩
        have hmz : m * z ≤ xs.length * z := Nat.mul_le_mul_right z hm
        by_cases h0 : m * z = 0
        · refine ⟨#[], ?_, ?_⟩
          · simp only [Builtin.firstCells, h0]; rfl
          · rw [h0]; exact ⟨by simp, fun j hj => by simp at hj, fun j hj => by simp at hj⟩
        · have hne : xs ≠ [] := by intro hx; subst hx; simp at hmz; omega
          have hsp' := hsp hne
          obtain ⟨bb, bo, bs⟩ := a
          simp only at hsp' hz hc; subst hsp'
          refine ⟨_, r_loadCells w bb bo (m * z) g (fun j hj => hc j (by omega)), ?_⟩
          have := Row.seg (cx := cx) (h := w.heap) (m := s.L) (o := 0) (n := m * z) (l := (xs.map V.cells).flatten) g (by rw [hfl]; omega) (fun j hj => one j (by rwa [hfl] at hj)) (fun j hj => hv j (by rwa [hfl] at hj))
          simpa using this
    · cases h
  · rename_i l
    split at h
    · rename_i hz; subst hz
      cases h; cases hy
      refine ⟨?_, by simp [bytesOf], fun m hm => ⟨_, rfl, ?_⟩⟩
      · show Result.ok l.toArray.size w = _
        simp
      · have hlen : ((⟨l.toArray⟩ : ByteArray).extract 0 m).data = (l.take m).toArray := by
          rw [ByteArray.data_extract]
          simp [List.extract_eq_drop_take']
        refine ⟨by rw [hlen]; simp [bytesOf], fun j hj => ?_, fun j hj => ?_⟩
        · have hj' : j < (l.take m).length := by simpa [bytesOf] using hj
          rw [hlen]
          have : j < m ∧ j < l.length := by simp at hj'; omega
          simp [Array.getD_eq_getD_getElem?, this.1, this.2, Value.oneCell']
        · have hj' : j < (l.take m).length := by simpa [bytesOf] using hj
          rw [hlen]
          have : j < m ∧ j < l.length := by simp at hj'; omega
          simp only [Array.getD_eq_getD_getElem?, List.getD, bytesOf]
          simp [this.1, this.2]
          exact .i _ _
    · cases h
  · cases h
theorem run_append_in {t t2 el ty : TypeId} {d2 : TypeDesc} {sz : Nat} (hu : P.underlying t = some (.slice el)) (hsz : szP P el = some sz) (hu2 : P.underlying t2 = some d2) (hd2 : isSrc d2 = true)
    (base : Option Addr) (sLen sCap : Nat) (x : Value) (n : Nat) (hlen : (Builtin.lenOf x).run P w = .ok n w) (new : Array Value) (hnew : (Builtin.firstCells sz n x).run P w = .ok new w) (hle : sLen + n ≤ sCap) :
    (Builtin.append_ #[t, t2] ty #[.slice base sLen sCap, x]).run P w =
      match base with
      | some a => ((storeCells (a.add (sLen * sz)) new.toList).run P w).andThen fun _ w' => .ok (.slice base (sLen + n) sCap) w'
      | none => .ok (.slice none (sLen + n) sCap) w := by
  have hc : (∃ e2, d2 = .slice e2) ∨ d2 = .string := by cases d2 <;> simp_all [isSrc]
  rcases hc with ⟨e2, rfl⟩ | rfl <;> cases base <;>
    simp only [Builtin.append_, Sem.run_bind, r_und w hu, r_size w hsz, r_und w hu2, List.getElem?_toArray, List.getElem?_cons_zero, List.getElem?_cons_succ, Result.andThen_ok, Sem.run_pure, Bool.false_eq_true, if_false, hlen, Sem.run_ite, hle, if_true, hnew, Bool.not_false]
theorem run_append_new {t t2 el ty : TypeId} {d2 : TypeDesc} {sz by_ : Nat} {z : List V} (hu : P.underlying t = some (.slice el)) (hsz : szP P el = some sz) (hby : byP P el = some by_) (hz : zeroP P el = some z) (hzl : z.length = sz) (hu2 : P.underlying t2 = some d2) (hd2 : isSrc d2 = true)
    (base : Option Addr) (sLen sCap : Nat) (x : Value) (n : Nat) (hlen : (Builtin.lenOf x).run P w = .ok n w)
    (old new : Array Value) (hold : (Builtin.firstCells sz sLen (.slice base sLen sCap)).run P { w with drawn := w.drawn + 1 } = .ok old { w with drawn := w.drawn + 1 })
    (hnew : (Builtin.firstCells sz n x).run P { w with drawn := w.drawn + 1 } = .ok new { w with drawn := w.drawn + 1 }) (hle : sCap < sLen + n) (hroom : room (sLen + n) by_ = true) :
    ∃ cap rest, (Builtin.append_ #[t, t2] ty #[.slice base sLen sCap, x]).run P w = .ok (.slice (some ⟨w.heap.size, 0, none⟩) (sLen + n) cap) { w with drawn := w.drawn + 1, heap := w.heap.push (.cells (old ++ new ++ rest) el) } ∧
      sLen + n ≤ cap ∧ rest.size = (cap - (sLen + n)) * sz := by
  have hc : (∃ e2, d2 = .slice e2) ∨ d2 = .string := by cases d2 <;> simp_all [isSrc]
  obtain ⟨i, hi1, hi2⟩ := r_bytes (P := P) w hby
  obtain ⟨zv, z1, z2, z3, z4⟩ := r_zero (P := P) { w with drawn := w.drawn + 1 } hz
  simp only [room, decide_eq_true_eq] at hroom
  have hnc := nextcap_le (sLen + n) sCap hle
  have hnc2 : Builtin.nextslicecap (sLen + n) sCap * i.bytes ≤ 281474976710656 := by
    rw [hi2]; exact Nat.le_trans (Nat.mul_le_mul_right _ hnc) hroom.2
  refine ⟨sLen + n + w.tape w.drawn (.appendCap (sLen + n) sCap el) % (2 ^ 63 - (sLen + n)), Builtin.zeroCells zv.cells (w.tape w.drawn (.appendCap (sLen + n) sCap el) % (2 ^ 63 - (sLen + n))), ?_, by omega, ?_⟩
  · have hq : (Question.appendCap (sLen + n) sCap el).forced = false := rfl
    have hmax : ¬ (((sLen + n : Nat) : Int) > IntKind.i64.max) := by simp [IntKind.max, IntKind.bits, IntKind.signed]; omega
    have hmax' : ¬ ((sLen : Int) + n > IntKind.i64.max) := by simpa using hmax
    have hi1' : (typeInfo el).run P { w with drawn := w.drawn + 1 } = .ok i { w with drawn := w.drawn + 1 } := by
      simp only [byP, Option.map_eq_some_iff] at hby
      obtain ⟨i2, h2, -⟩ := hby
      simp [typeInfo, h2] at hi1 ⊢
      exact hi1
    rcases hc with ⟨e2, rfl⟩ | rfl
    · simp only [Builtin.append_, Sem.run_bind, r_und w hu, r_size w hsz, r_und w hu2, List.getElem?_toArray, List.getElem?_cons_zero, List.getElem?_cons_succ, Result.andThen_ok, Sem.run_pure, Bool.false_eq_true, if_false, hlen, Sem.run_ite,
           show ¬ (sLen + n ≤ sCap) by omega, hi1, false_or, hmax', hmax, false_and, show ¬ (Builtin.nextslicecap (sLen + n) sCap * i.bytes > 2 ^ 48) by omega, run_choose, hq, Question.cut, run_askRoom, hi1', hold, hnew, z1, newRow_run, Bool.not_false, Bool.not_true]
      simp only [if_true, Result.andThen_ok, z1, Nat.add_sub_cancel_left]
    · simp only [Builtin.append_, Sem.run_bind, r_und w hu, r_size w hsz, r_und w hu2, List.getElem?_toArray, List.getElem?_cons_zero, List.getElem?_cons_succ, Result.andThen_ok, Sem.run_pure, Bool.false_eq_true, if_false, hlen, Sem.run_ite,
           show ¬ (sLen + n ≤ sCap) by omega, hi1, false_or, hmax', hmax, false_and, show ¬ (Builtin.nextslicecap (sLen + n) sCap * i.bytes > 2 ^ 48) by omega, run_choose, hq, Question.cut, run_askRoom, hi1', hold, hnew, z1, newRow_run, Bool.not_false, Bool.not_true]
      simp only [if_true, Result.andThen_ok, z1, Nat.add_sub_cancel_left]
  · simp only [Builtin.zeroCells, Array.size_map, Array.size_range, z2, hzl]
    congr 1; omega
theorem seg_append {cx : Cx} {h : Array Obj} {m : Nat → Prop} {l l' : List V} {a a' : Array Value} (r : Row cx h m l a) (r' : Row cx h m l' a') : Row cx h m (l ++ l') (a ++ a') := by
  have key : ∀ j, j < (l ++ l').length → ((l ++ l').getD j .bad = if j < l.length then l.getD j .bad else l'.getD (j - l.length) .bad) ∧ ((a ++ a').getD j undef = if j < l.length then a.getD j undef else a'.getD (j - l.length) undef) := fun j hj => by
    by_cases hc : j < l.length
    · rw [if_pos hc, if_pos hc]
      refine ⟨?_, ?_⟩
      · simp only [List.getD]; rw [List.getElem?_append_left hc]
      · apply arrGetD_eq; rw [Array.getElem?_append_left (by rw [r.len]; exact hc)]
    · rw [if_neg hc, if_neg hc]
      refine ⟨?_, ?_⟩
      · simp only [List.getD]; rw [List.getElem?_append_right (by omega)]
      · apply arrGetD_eq; rw [Array.getElem?_append_right (by rw [r.len]; omega), r.len]
  refine ⟨by simp [r.len, r'.len], fun j hj => ?_, fun j hj => ?_⟩
  · rw [(key j hj).2]; split
    · rename_i hc; exact r.one j hc
    · exact r'.one _ (by simp at hj; omega)
  · rw [(key j hj).1, (key j hj).2]; split
    · rename_i hc; exact r.rep j hc
    · exact r'.rep _ (by simp at hj; omega)
theorem Row.more {h : Array Obj} {m : Nat → Prop} {l : List V} {a : Array Value} (r : Row cx h m l a) (b : Array Value) : (∀ j, j < l.length → ((a ++ b).getD j undef).oneCell' = true) ∧ ∀ j, j < l.length → VRep cx h m (l.getD j .bad) ((a ++ b).getD j undef) := by
  have key : ∀ j, j < l.length → (a ++ b).getD j undef = a.getD j undef := fun j hj => by
    apply arrGetD_eq; rw [Array.getElem?_append_left (by rw [r.len]; exact hj)]
  exact ⟨fun j hj => by rw [key j hj]; exact r.one j hj, fun j hj => by rw [key j hj]; exact r.rep j hj⟩
theorem tok_new_rep {cx' : Cx} {h : Array Obj} {m : Nat → Prop} {sz k : Nat} {xs : List V} {arr rest : Array Value} {el : TypeId} (r : Row cx' (h.push (.cells (arr ++ rest) el)) m (xs.map V.cells).flatten arr) (hs : ∀ x ∈ xs, x.cells.length = sz) {cap : Nat} (hcap : xs.length ≤ cap)
    (hrest : rest.size = (cap - xs.length) * sz) (hk : m k) (htk : cx'.tk k = ⟨h.size, 0, xs.length * sz, (arr ++ rest).size⟩) (hfz : ∀ j, j < xs.length * sz → cx'.fz h.size j) :
    VRep cx' (h.push (.cells (arr ++ rest) el)) m (.pu sz xs (.t k)) (.slice (some ⟨h.size, 0, none⟩) xs.length cap) := by
  have hfl := flat_len xs hs
  have hal : arr.size = xs.length * sz := by rw [r.len, hfl]
  refine VRep.pu_flat (fun j => arr.getD j undef) hs (fun j hj => r.one j (by rw [hfl]; exact hj)) (fun j hj => by rw [Nat.zero_add]; exact hfz j hj) (fun j hj => ?_) (fun j hj => r.rep j (by rw [hfl]; exact hj)) hcap ?_
  · rw [cellAt_push_new, Nat.zero_add, Array.getElem?_append_left (by omega)]
    have : j < arr.size := by omega
    simp [Array.getD_eq_getD_getElem?, this]
  · refine ⟨hk, by rw [htk]; exact Nat.le_refl _, fun _ => by
      rw [htk]
      refine ⟨rfl, rfl, ?_⟩
      simp only [Array.size_append, hal, hrest]
      have : cap * sz = xs.length * sz + (cap - xs.length) * sz := by rw [← Nat.add_mul]; congr 1; omega
      omega, hcap⟩
end
end Rf
namespace Rf
open Go
section
variable {P : Program} {w : World} {cx : Cx} {s : St} {e : List V} {act : Act}
theorem row_nil {h : Array Obj} {m : Nat → Prop} {a : Array Value} (r : Row cx h m [] a) : a = #[] := Array.eq_empty_of_size_eq_zero (by simpa using r.len)
theorem flat_app {ag : Bool} {sz k : Nat} {xs new : List V} (k1 : ((chunks ag sz new k).map V.cells).flatten = new) : ((xs ++ chunks ag sz new k).map V.cells).flatten = (xs.map V.cells).flatten ++ new := by
  rw [List.map_append, List.flatten_append, k1]
theorem slice_shape (R : Rel cx s w.heap) {sz : Nat} {y : V} {x : Value} (hy : VRep cx w.heap s.L y x) {k : Nat} {new : List V} (h : srcOf s sz y = some (k, new)) (hs : ∀ l, y ≠ .s l) : ∃ base cap, x = .slice base k cap := by
  unfold srcOf at h
  split at h
  · cases h; cases hy; exact ⟨_, _, rfl⟩
  · split at h
    · cases h; cases hy; exact ⟨_, _, rfl⟩
    · cases h
  · split at h
    · split at h
      · cases h; cases hy; exact ⟨_, _, rfl⟩
      · cases h
    · cases h
  · split at h
    · cases h; cases hy
      · exact ⟨_, _, rfl⟩
      · exact ⟨_, _, rfl⟩
    · cases h
  · exact (hs _ rfl).elim
  · cases h
theorem app_pure_new (R : Rel cx s w.heap) {el : TypeId} {sz k len : Nat} {ag : Bool} (hag : ag = true ∨ sz = 1) {oldc new : List V} {xs : List V} {old nw rest : Array Value} {cap : Nat} (ro : Row cx w.heap s.L oldc old) (rn : Row cx w.heap s.L new nw)
    (ho : oldc = (xs.map V.cells).flatten) (hs : ∀ x ∈ xs, x.cells.length = sz) (hlen : xs.length = len) (hnl : new.length = k * sz) (hcap : len + k ≤ cap) (hrest : rest.size = (cap - (len + k)) * sz) :
    ∃ cx', VRep cx' (w.heap.push (.cells (old ++ nw ++ rest) el)) (s.new (.t ((len + k) * sz))).L (.pu sz (xs ++ chunks ag sz new k) (.t s.n)) (.slice (some ⟨w.heap.size, 0, none⟩) (len + k) cap) ∧
      Rel cx' (s.new (.t ((len + k) * sz))) (w.heap.push (.cells (old ++ nw ++ rest) el)) ∧ Ext cx s w.heap cx' (s.new (.t ((len + k) * sz))) (w.heap.push (.cells (old ++ nw ++ rest) el)) := by
  obtain ⟨k1, k2⟩ := chunks_flat ag sz hag k new hnl (fun _ => row_one_cells rn)
  have hfl := flat_len xs hs
  have r := seg_append ro rn
  have hall : ∀ x ∈ xs ++ chunks ag sz new k, x.cells.length = sz := fun x hx => by
    rcases List.mem_append.1 hx with h | h
    · exact hs x h
    · exact k2 x h
  have hsize : (old ++ nw).size = (len + k) * sz := by rw [r.len, List.length_append, ho, hfl, hnl, hlen, Nat.add_mul]
  obtain ⟨cx', c1, c2, c3, c4⟩ := R.tokNew (old ++ nw ++ rest) el ((len + k) * sz) (by simp only [Array.size_append] at hsize ⊢; omega)
  have r' := r.later c4.later
  rw [ho, ← flat_app k1] at r'
  have hl : (xs ++ chunks ag sz new k).length = len + k := by rw [List.length_append, chunks_len, hlen]
  refine ⟨cx', ?_, c3, c4⟩
  have := tok_new_rep (k := s.n) (m := (s.new (.t ((len + k) * sz))).L) r' hall (cap := cap) (by rw [hl]; exact hcap) (by rw [hl]; exact hrest) (St.new_L0 _ R.gl) (by rw [c1, hl]) (fun j hj => c2 j (by rwa [hl] at hj))
  rwa [hl] at this
theorem app_heap_new (R : Rel cx s w.heap) {el : TypeId} {sz k len : Nat} {oldc new : List V} {old nw rest : Array Value} {cap : Nat} (ro : Row cx w.heap s.L oldc old) (rn : Row cx w.heap s.L new nw)
    (hol : oldc.length = len * sz) (hnl : new.length = k * sz) (hcap : len + k ≤ cap) (hrest : rest.size = (cap - (len + k)) * sz) :
    ∃ cx', VRep cx' (w.heap.push (.cells (old ++ nw ++ rest) el)) (s.new (.c (oldc ++ new) 0 (some el))).L (.sl sz s.n 0 (len + k) none) (.slice (some ⟨w.heap.size, 0, none⟩) (len + k) cap) ∧
      Rel cx' (s.new (.c (oldc ++ new) 0 (some el))) (w.heap.push (.cells (old ++ nw ++ rest) el)) ∧ Ext cx s w.heap cx' (s.new (.c (oldc ++ new) 0 (some el))) (w.heap.push (.cells (old ++ nw ++ rest) el)) := by
  have r := seg_append ro rn
  obtain ⟨m1, m2⟩ := r.more rest
  have hsize : (old ++ nw).size = (len + k) * sz := by rw [r.len, List.length_append, hol, hnl, Nat.add_mul]
  have hmul : cap * sz = (len + k) * sz + (cap - (len + k)) * sz := by rw [← Nat.add_mul]; congr 1; omega
  obtain ⟨cx', c1, c2, c3⟩ := R.new (oldc ++ new) (old ++ nw ++ rest) el (some el) (fun _ h => by cases h; rfl) (by rw [Array.size_append, r.len]; omega) m1 m2
  refine ⟨cx', ?_, c2, c3⟩
  have : VRep cx' (w.heap.push (.cells (old ++ nw ++ rest) el)) (s.new (.c (oldc ++ new) 0 (some el))).L (.sl sz s.n 0 (len + k) none) (.slice (some ⟨(cx'.r s.n).b, (cx'.r s.n).d + 0, none⟩) (len + k) cap) :=
    .sl sz s.n 0 (len + k) none cap (St.new_L0 _ R.gl) hcap ⟨by rw [c1]; simp only [List.length_append, hol, hnl]; rw [← Nat.add_mul, hmul]; omega, by rw [c1]; simp only [Array.size_append] at hsize ⊢; omega⟩
  rw [c1] at this
  simpa using this
theorem Rel.untype {cx : Cx} {s : St} {h : Array Obj} {cs : List V} {z : Nat} {ty : Option Nat} (hg : ∀ l ∈ s.g, l < s.n) (R : Rel cx (s.new (.c cs z ty)) h) : Rel cx (s.new (.c cs z none)) h := by
  have hget : ∀ l o, (s.new (.c cs z none)).get l = some o → (l = s.n ∧ o = .c cs z none) ∨ (l ≠ s.n ∧ (s.new (.c cs z ty)).get l = some o) := fun l o h => by
    by_cases hl : l = s.n
    · subst hl; rw [St.get_new_same] at h; cases h; exact .inl ⟨rfl, rfl⟩
    · rw [St.get_new_ne _ _ _ hl] at h; exact .inr ⟨hl, by rw [St.get_new_ne _ _ _ hl]; exact h⟩
  have hnew : (s.new (.c cs z ty)).get s.n = some (.c cs z ty) := St.get_new_same _ _
  refine ⟨fun l hl => ?_, R.gl, fun l o ho => ?_, fun l l' o o' h1 h2 hne => ?_, R.fzl, fun l cs' z' t ho => ?_, fun l e ho => ?_⟩
  · cases hgt : (s.new (.c cs z none)).get l with
    | none => rfl
    | some o =>
      rcases hget l o hgt with ⟨rfl, -⟩ | ⟨-, h2⟩
      · exact (hl (St.new_L0 _ hg)).elim
      · exact (hl (R.name_L h2)).elim
  · rcases hget l o ho with ⟨rfl, rfl⟩ | ⟨-, h2⟩
    · obtain ⟨arr, el, lo, hi, b1, b2, b3, b4, b5⟩ := R.obj s.n _ hnew
      exact ⟨arr, el, lo, hi, b1, ⟨b2.1, b2.2.1, b2.2.2.1, fun T hT => by cases hT⟩, b3, b4, b5⟩
    · exact R.obj l o h2
  · rcases hget l o h1 with ⟨rfl, rfl⟩ | ⟨-, h3⟩ <;> rcases hget l' o' h2 with ⟨rfl, rfl⟩ | ⟨-, h4⟩
    · exact (hne rfl).elim
    · exact R.inj s.n l' (.c cs z ty) o' hnew h4 hne
    · exact R.inj l s.n o (.c cs z ty) h3 hnew hne
    · exact R.inj l l' o o' h3 h4 hne
  · rcases hget l _ ho with ⟨rfl, h1⟩ | ⟨-, h2⟩
    · exact R.fzo s.n cs z ty hnew
    · exact R.fzo l cs' z' t h2
  · rcases hget l _ ho with ⟨_, h1⟩ | ⟨-, h2⟩
    · cases h1
    · exact R.fzt l e h2
theorem Ext.untype {cx cx' : Cx} {s0 s : St} {h h' : Array Obj} {cs : List V} {z : Nat} {ty : Option Nat} (E : Ext cx s0 h cx' (s.new (.c cs z ty)) h') : Ext cx s0 h cx' (s.new (.c cs z none)) h' := by
  refine ⟨E.later, E.size, E.frame, fun b ⟨l, o, hg, hb⟩ => ?_, E.nfz⟩
  by_cases hl : l = s.n
  · subst hl
    rw [St.get_new_same] at hg; cases hg
    exact E.own b ⟨s.n, _, St.get_new_same _ _, hb⟩
  · rw [St.get_new_ne _ _ _ hl] at hg
    exact E.own b ⟨l, o, by rw [St.get_new_ne _ _ _ hl]; exact hg, hb⟩
theorem Ext.from_sub {cx cx' : Cx} {s0 s s' : St} {h h' : Array Obj} (E : Ext cx s0 h cx' s' h') (hs : Sub s0 s) : Ext cx s h cx' s' h' := by
  refine ⟨by rw [← hs.L]; exact E.later, E.size, fun b hb ho => E.frame b hb (fun h1 => ho (h1.sub hs)), fun b hb => (E.own b hb).imp (fun h1 => h1.sub hs) id, fun b o hf => ?_⟩
  rcases E.nfz b o hf with h1 | h1 | h1
  · exact .inl h1
  · exact .inr (.inl (h1.sub hs))
  · exact .inr (.inr h1)
theorem sim_app (R : Rel cx s w.heap) {t t2 el ty : TypeId} {d2 : TypeDesc} {sz by_ : Nat} {z : List V} {wh ag : Bool} (hu : P.underlying t = some (.slice el)) (hsz : szP P el = some sz) (hby : byP P el = some by_) (hz : zeroP P el = some z) (hzl : z.length = sz) (h0 : 0 < sz) (hag : ag = true ∨ sz = 1)
    (hu2 : P.underlying t2 = some d2) (hd2 : isSrc d2 = true) {a b : Arg} {x y : Value} (hx : VRep cx w.heap s.L (a.ev e) x) (hy : VRep cx w.heap s.L (b.ev e) y)
    {v : V} {s' : St} (hop : aop e s (.app el wh ag sz by_ a b) = some (v, s')) : Ok ((Builtin.append_ #[t, t2] ty #[x, y]).run P w) cx s w v s' := by
  simp only [aop] at hop
  split at hop
  case h_2 => cases hop
  rename_i k new hsrc
  generalize a.ev e = av at *
  generalize b.ev e = bv at *
  obtain ⟨hlen, hnl, hrow⟩ := r_src (P := P) R hy hsrc
  obtain ⟨-, -, hrow'⟩ := r_src (P := P) (w := { w with drawn := w.drawn + 1 }) R hy hsrc
  obtain ⟨nw, hnw, rn⟩ := hrow k (Nat.le_refl _)
  obtain ⟨nw', hnw', rn'⟩ := hrow' k (Nat.le_refl _)
  rw [← hnl, List.take_length] at rn rn'
  unfold appV at hop
  split at hop
  · -- nil
    cases hx
    split at hop
    · rename_i hk; subst hk
      cases hop
      rw [run_append_in hu hsz hu2 hd2 none 0 0 y 0 hlen nw hnw (by omega)]
      exact ⟨_, w, cx, rfl, .ns, R, .refl _ _ _, .rfl⟩
    · rename_i hk
      split at hop
      · cases hop
      · rename_i hroom
        have hroom' : room (0 + k) by_ = true := by rw [Nat.zero_add]; simpa using hroom
        obtain ⟨cap, rest, hrun, hcap, hrest⟩ := run_append_new (ty := ty) hu hsz hby hz hzl hu2 hd2 none 0 0 y k hlen #[] nw' rfl hnw' (by omega) hroom'
        rw [hrun]
        have ro : Row cx w.heap s.L [] #[] := ⟨rfl, fun j hj => by simp at hj, fun j hj => by simp at hj⟩
        split at hop
        · cases hop
          obtain ⟨cx', q1, q2, q3⟩ := app_pure_new (el := el) (len := 0) (xs := []) R hag ro rn' rfl (by simp) rfl hnl hcap hrest
          simp only [Nat.zero_add, List.nil_append] at q1 q2 q3 ⊢
          exact ⟨_, _, cx', rfl, q1, q2, q3, ⟨rfl, rfl⟩⟩
        · cases hop
          obtain ⟨cx', q1, q2, q3⟩ := app_heap_new (el := el) (len := 0) R ro rn' (by simp) hnl hcap hrest
          simp only [Nat.zero_add, List.nil_append] at q1 q2 q3 ⊢
          exact ⟨_, _, cx', rfl, q1, q2, q3, ⟨rfl, rfl⟩⟩
  · -- never written
    rename_i z' xs c
    split at hop
    · cases hop
    rename_i hz'
    have hz' : z' = sz := by simpa using hz'
    subst hz'
    have hxs : srcOf s z' (.pu z' xs c) = some (xs.length, (xs.map V.cells).flatten) := by simp [srcOf]
    obtain ⟨base, cap0, rfl⟩ := slice_shape R hx hxs (by simp)
    split at hop
    · rename_i hk; subst hk
      cases hop
      have hn0 : nw = #[] := by
        have : new = [] := by simpa using hnl
        subst this; exact row_nil rn
      subst hn0
      have hle : xs.length ≤ cap0 := by
        obtain ⟨-, h1 | ⟨a', cap', g, h1, -, h2, -⟩⟩ := hx.pu_flat'
        · obtain ⟨rfl, h2, -⟩ := h1; simp
        · cases h1; exact h2
      rw [run_append_in hu hsz hu2 hd2 base xs.length cap0 y 0 hlen #[] hnw hle]
      cases base with
      | none => exact ⟨_, w, cx, rfl, hx, R, .refl _ _ _, .rfl⟩
      | some ad => exact ⟨_, w, cx, rfl, hx, R, .refl _ _ _, .rfl⟩
    · rename_i hk
      split at hop
      · cases hop
      rename_i hroom
      have hroom' : room (xs.length + k) by_ = true := by simpa using hroom
      obtain ⟨-, -, hold⟩ := r_src (P := P) (w := { w with drawn := w.drawn + 1 }) R hx hxs
      obtain ⟨old, hold1, ro⟩ := hold xs.length (Nat.le_refl _)
      obtain ⟨hs, hshape⟩ := hx.pu_flat'
      have hfl := flat_len xs hs
      rw [← hfl, List.take_length] at ro
      split at hop
      · cases hop
      · cases hop
      · rename_i c
        split at hop
        · rename_i hc; subst hc
          cases hop
          have hcap0 : cap0 = xs.length := by
            rcases hshape with ⟨rfl, h2, h3⟩ | ⟨a', cap', g, h1, -, h2, -, -, -, -, h3, -⟩
            · cases h2; rfl
            · cases h1; exact h3
          subst hcap0
          obtain ⟨cap, rest, hrun, hcap, hrest⟩ := run_append_new (ty := ty) hu hsz hby hz hzl hu2 hd2 base xs.length xs.length y k hlen old nw' hold1 hnw' (by omega) hroom'
          rw [hrun]
          obtain ⟨cx', q1, q2, q3⟩ := app_pure_new (el := el) R hag ro rn' rfl hs rfl hnl hcap hrest
          exact ⟨_, _, cx', rfl, q1, q2, q3, ⟨rfl, rfl⟩⟩
        · cases hop
      · rename_i tk
        split at hop
        · rename_i e0 hg
          split at hop
          · rename_i he0; subst he0
            cases hop
            rcases hshape with ⟨rfl, h2, h3⟩ | ⟨ad, cap', g, h1, -, h2, one, hzz, hc, hv, hr, hp⟩
            · exact h3.elim
            · cases h1
              have hsp := hp tk rfl
              obtain ⟨bb, bo, bs⟩ := ad
              simp only at hsp hzz hc hr; subst hsp
              obtain ⟨arr, el0, lo, hi, a1, a2, ⟨a3, a4⟩, a5⟩ := R.obj tk _ hg
              obtain ⟨hk1, hk2, hk3, hk4⟩ := hr
              obtain ⟨rfl, rfl, hk5⟩ := hk3 a2.symm
              by_cases hin : xs.length + k ≤ cap0
              · -- in place
                obtain ⟨k1, k2⟩ := chunks_flat ag z' hag k new hnl (fun _ => row_one_cells rn)
                rw [run_append_in hu hsz hu2 hd2 _ xs.length cap0 y k hlen nw hnw hin]
                have hmul : (xs.length + k) * z' ≤ cap0 * z' := Nat.mul_le_mul_right z' hin
                have hmul2 : (xs.length + k) * z' = xs.length * z' + k * z' := Nat.add_mul _ _ _
                have hnwl : nw.toList.length = k * z' := by simp [rn.len, hnl]
                have hkz : 0 < k * z' := Nat.mul_pos (by omega) h0
                obtain ⟨w', e1, e2, eq⟩ := r_storeCells (P := P) (cx.tk tk).b ((cx.tk tk).d + xs.length * z') el0 lo hi nw.toList 0 arr w a1 (by rw [hnwl]; omega)
                  (fun j hj hj' => a5 j (by omega) (by rw [hnwl] at hj'; omega)) (mem_toList_one fun j hj => rn.one j (by rw [← rn.len]; exact hj))
                rw [Nat.add_zero] at e2
                have hpg := fun j => putAt_get nw.toList arr ((cx.tk tk).d + xs.length * z') j (by rw [hnwl]; omega)
                simp only [hnwl] at hpg
                obtain ⟨cx', c1, c2, c3, c4⟩ := R.tokGrow hg arr (putAt arr ((cx.tk tk).d + xs.length * z') nw.toList) el0 lo hi a1 (putAt_size _ _ _)
                  (fun j hj => by rw [hpg, if_neg (by omega)]) ((xs.length + k) * z') (by omega) (by omega) _ e2
                simp only [add_none, e1, Result.andThen_ok]
                refine ⟨_, w', cx', rfl, ?_, c3, c4, eq⟩
                have hl : (xs ++ chunks ag z' new k).length = xs.length + k := by rw [List.length_append, chunks_len]
                have hbl : (cx.tk tk).b < w.heap.size := by have := R.own_lt ⟨tk, _, hg, rfl⟩; simpa [blk] using this
                have hcell : ∀ j, cellAt w'.heap (cx.tk tk).b j = (putAt arr ((cx.tk tk).d + xs.length * z') nw.toList)[j]? := fun j => by
                  rw [e2]; simp [cellAt, hbl]
                have hgd : ∀ j, j < (xs.length + k) * z' → (putAt arr ((cx.tk tk).d + xs.length * z') nw.toList)[(cx.tk tk).d + j]? = some (if j < xs.length * z' then g j else nw.getD (j - xs.length * z') undef) := fun j hj => by
                  rw [hpg]
                  by_cases hj1 : j < xs.length * z'
                  · rw [if_neg (by omega), if_pos hj1, ← cellAt_of a1, hc j hj1]
                  · rw [if_pos (by omega), if_neg hj1, show (cx.tk tk).d + j - ((cx.tk tk).d + xs.length * z') = j - xs.length * z' by omega]
                    have : j - xs.length * z' < nw.size := by rw [rn.len, hnl]; omega
                    simp [Array.getD_eq_getD_getElem?, this]
                have hvr : VRep cx' w'.heap s.L (.pu z' (xs ++ chunks ag z' new k) (.t tk)) (.slice (some ⟨(cx.tk tk).b, (cx.tk tk).d, none⟩) (xs ++ chunks ag z' new k).length cap0) := by
                  refine VRep.pu_flat (fun j => if j < xs.length * z' then g j else nw.getD (j - xs.length * z') undef) (fun x hx => ?_) (fun j hj => ?_) (fun j hj => ?_) (fun j hj => ?_) (fun j hj => ?_) (by rw [hl]; exact hin) ?_
                  · rcases List.mem_append.1 hx with h | h
                    · exact hs x h
                    · exact k2 x h
                  · rw [hl] at hj
                    by_cases hj1 : j < xs.length * z'
                    · simp only [hj1, if_true]; exact one j hj1
                    · simp only [hj1, if_false]; exact rn.one _ (by rw [hnl]; omega)
                  · rw [hl] at hj
                    by_cases hj1 : j < xs.length * z'
                    · exact c4.later.fz _ _ (hzz j hj1)
                    · exact c2 _ (by omega) (by omega)
                  · rw [hl] at hj
                    rw [hcell]; exact hgd j hj
                  · rw [hl] at hj
                    rw [flat_app k1]
                    by_cases hj1 : j < xs.length * z'
                    · simp only [hj1, if_true]
                      have : ((xs.map V.cells).flatten ++ new).getD j .bad = ((xs.map V.cells).flatten).getD j .bad := by
                        simp only [List.getD]; rw [List.getElem?_append_left (by rw [hfl]; exact hj1)]
                      rw [this]; exact (hv j hj1).later c4.later
                    · simp only [hj1, if_false]
                      have : ((xs.map V.cells).flatten ++ new).getD j .bad = new.getD (j - xs.length * z') .bad := by
                        simp only [List.getD]; rw [List.getElem?_append_right (by rw [hfl]; omega), hfl]
                      rw [this]; exact (rn.rep _ (by rw [hnl]; omega)).later c4.later
                  · rw [hl]
                    refine ⟨hk1, by rw [c1]; exact Nat.le_refl _, fun _ => by rw [c1]; exact ⟨rfl, rfl, hk5⟩, hin⟩
                rwa [hl] at hvr
              · -- in a new block
                obtain ⟨cap, rest, hrun, hcap, hrest⟩ := run_append_new (ty := ty) hu hsz hby hz hzl hu2 hd2 (some ⟨(cx.tk tk).b, (cx.tk tk).d, none⟩) xs.length cap0 y k hlen old nw' hold1 hnw' (by omega) hroom'
                rw [hrun]
                obtain ⟨k1, k2⟩ := chunks_flat ag z' hag k new hnl (fun _ => row_one_cells rn)
                have r := seg_append ro rn'
                have hall : ∀ x ∈ xs ++ chunks ag z' new k, x.cells.length = z' := fun x hx => by
                  rcases List.mem_append.1 hx with h | h
                  · exact hs x h
                  · exact k2 x h
                have hmul2 : (xs.length + k) * z' = xs.length * z' + k * z' := Nat.add_mul _ _ _
                have hkz : 0 < k * z' := Nat.mul_pos (by omega) h0
                have hsize : (old ++ nw').size = (xs.length + k) * z' := by rw [r.len, List.length_append, hfl, hnl, hmul2]
                obtain ⟨cx', c1, c2, c3, c4⟩ := R.tokMove hg (old ++ nw' ++ rest) el ((xs.length + k) * z') (by rw [Array.size_append, hsize]; omega) (by omega)
                have r' := r.later c4.later
                rw [← flat_app k1] at r'
                have hl : (xs ++ chunks ag z' new k).length = xs.length + k := by rw [List.length_append, chunks_len]
                refine ⟨_, _, cx', rfl, ?_, c3, c4, ⟨rfl, rfl⟩⟩
                have := tok_new_rep (k := tk) (m := s.L) r' hall (cap := cap) (by rw [hl]; exact hcap) (by rw [hl]; exact hrest) hk1 (by rw [c1, hl]) (fun j hj => c2 j (by rwa [hl] at hj))
                rwa [hl] at this
          · cases hop
        · cases hop
  · -- none yet, at an object's end
    rename_i z' l
    split at hop
    case h_2 => cases hop
    rename_i cs zf ty0 hg
    split at hop
    · cases hop
    rename_i hz'
    have hz' : z' = sz := by simpa using hz'
    subst hz'
    split at hop
    · rename_i hk; subst hk
      cases hop
      have hn0 : nw = #[] := by
        have : new = [] := by simpa using hnl
        subst this; exact row_nil rn
      subst hn0
      have hx' := hx
      cases hx
      rename_i ad cap hl hc
      rw [run_append_in hu hsz hu2 hd2 (some ad) 0 cap y 0 hlen #[] hnw (by omega)]
      exact ⟨_, w, cx, rfl, hx', R, .refl _ _ _, .rfl⟩
    rename_i hk
    split at hop
    · cases hop
    rename_i hroom
    have hroom' : room (0 + k) by_ = true := by rw [Nat.zero_add]; simpa using hroom
    split at hop
    · rename_i hzf
      cases hop
      cases hx
      rename_i ad cap0 hl hcse
      obtain ⟨arr, el0, lo, hi, a1, ⟨a2, a2k, a2z, a2t⟩, a3, a4, a5⟩ := R.obj l _ hg
      have hkz : 0 < k * z' := Nat.mul_pos (by omega) h0
      by_cases hle : 0 + k ≤ cap0
      · obtain ⟨rfl, hroomb⟩ : ad = ⟨(cx.r l).b, (cx.r l).d + (cx.r l).k, none⟩ ∧ _ := hcse.resolve_left (by omega)
        rw [run_append_in hu hsz hu2 hd2 _ 0 cap0 y k hlen nw hnw hle]
        have hmul : (0 + k) * z' ≤ cap0 * z' := Nat.mul_le_mul_right z' hle
        rw [Nat.zero_add] at hmul
        have hnwl : nw.toList.length = k * z' := by simp [rn.len, hnl]
        obtain ⟨w', e1, e2, eq⟩ := r_storeCells (P := P) (cx.r l).b ((cx.r l).d + (cx.r l).k + 0 * z') el0 lo hi nw.toList 0 arr w a1 (by rw [hnwl]; omega)
          (fun j hj hj' => a5 j (by omega) (by rw [hnwl] at hj'; omega)) (mem_toList_one fun j hj => rn.one j (by rw [← rn.len]; exact hj))
        rw [Nat.add_zero] at e2
        have hpg := fun j => putAt_get nw.toList arr ((cx.r l).d + (cx.r l).k + 0 * z') j (by rw [hnwl]; omega)
        simp only [hnwl] at hpg
        obtain ⟨cx', c1, c2, c3⟩ := R.regrow hg (cx.r l).k new 0 none (fun T hT => by cases hT) (putAt arr ((cx.r l).d + (cx.r l).k + 0 * z') nw.toList) el0 lo hi ⟨_, _, a1⟩ (fun T hT => by cases hT)
          (by rw [putAt_size, hnl]; omega) (by rw [putAt_size]; exact a2z)
          (fun j hj => by
            rw [hnl] at hj
            have h2 := hpg ((cx.r l).d + (cx.r l).k + j)
            rw [if_pos (by omega), show (cx.r l).d + (cx.r l).k + j - ((cx.r l).d + (cx.r l).k + 0 * z') = j by omega] at h2
            rw [show (putAt arr ((cx.r l).d + (cx.r l).k + 0 * z') nw.toList).getD ((cx.r l).d + (cx.r l).k + j) undef = nw.getD j undef by rw [Array.getD_eq_getD_getElem?, Array.getD_eq_getD_getElem?, h2]; simp]
            exact rn.one _ (by omega))
          (fun j hj => by
            rw [hnl] at hj
            have h2 := hpg ((cx.r l).d + (cx.r l).k + j)
            rw [if_pos (by omega), show (cx.r l).d + (cx.r l).k + j - ((cx.r l).d + (cx.r l).k + 0 * z') = j by omega] at h2
            rw [show (putAt arr ((cx.r l).d + (cx.r l).k + 0 * z') nw.toList).getD ((cx.r l).d + (cx.r l).k + j) undef = nw.getD j undef by rw [Array.getD_eq_getD_getElem?, Array.getD_eq_getD_getElem?, h2]; simp]
            exact rn.rep _ (by omega))
          (fun j hj hj' => a5 j (by omega) (by rwa [putAt_size] at hj')) _ e2
        simp only [add_none, e1, Result.andThen_ok]
        refine ⟨_, w', cx', rfl, ?_, c2, c3, eq⟩
        have : VRep cx' w'.heap ((s.put l none).new (.c new 0 none)).L (.sl z' s.n 0 k none) (.slice (some ⟨(cx'.r s.n).b, (cx'.r s.n).d + 0, none⟩) k cap0) :=
          .sl z' s.n 0 k none cap0 (St.new_L0 (s := s.put l none) _ R.gl) (by omega) ⟨by rw [c1]; simp only [hnl]; omega, by rw [c1]; simp only; omega⟩
        rw [c1] at this
        simpa using this
      · obtain ⟨cap, rest, hrun, hcap, hrest⟩ := run_append_new (ty := ty) hu hsz hby hz hzl hu2 hd2 (some ad) 0 cap0 y k hlen #[] nw' (by simp only [Builtin.firstCells, Nat.zero_mul]; rfl) hnw' (by omega) hroom'
        rw [hrun]
        have hsub : Sub (s.put l none) s := ⟨⟨rfl, rfl⟩, fun l' o' h' => by
          by_cases hll : l' = l
          · subst hll; simp at h'
          · rwa [St.get_put_ne _ _ _ _ hll] at h'⟩
        have R' := R.sub hsub
        have ro : Row cx w.heap s.L [] #[] := ⟨rfl, fun j hj => by simp at hj, fun j hj => by simp at hj⟩
        obtain ⟨cx', q1, q2, q3⟩ := app_heap_new (s := s.put l none) (el := el) (len := 0) R' ro rn' (by simp) hnl hcap hrest
        simp only [Nat.zero_add, List.nil_append] at q1 q2 q3 ⊢
        refine ⟨_, _, cx', rfl, q1, Rel.untype (R'.gl) q2, ?_, ⟨rfl, rfl⟩⟩
        exact (Ext.untype q3).from_sub hsub
    · cases hop
  · -- an object
    rename_i z' l o n c
    split at hop
    case h_2 => cases hop
    rename_i cs zf ty0 hg
    split at hop
    · cases hop
    rename_i hz'
    have hz' : z' = sz := by simpa using hz'
    subst hz'
    split at hop
    · rename_i hk; subst hk
      cases hop
      have hn0 : nw = #[] := by
        have : new = [] := by simpa using hnl
        subst this; exact row_nil rn
      subst hn0
      have hx' := hx
      cases hx
      rename_i cap hl hk' hc
      rw [run_append_in hu hsz hu2 hd2 _ n cap y 0 hlen #[] hnw (by omega)]
      exact ⟨_, w, cx, rfl, hx', R, .refl _ _ _, .rfl⟩
    rename_i hk
    split at hop
    · cases hop
    rename_i hroom
    have hroom' : room (n + k) by_ = true := by simpa using hroom
    split at hop
    · cases hop
    rename_i hcs
    have hcs : o + n * z' ≤ cs.length := by omega
    have hxs : srcOf s z' (.sl z' l o n c) = some (n, (cs.drop o).take (n * z')) := by simp [srcOf, hg, hcs]
    obtain ⟨-, hol, hold⟩ := r_src (P := P) (w := { w with drawn := w.drawn + 1 }) R hx hxs
    obtain ⟨old, hold1, ro⟩ := hold n (Nat.le_refl _)
    rw [List.take_of_length_le (by rw [hol]; exact Nat.le_refl _)] at ro
    have hmul2 : (n + k) * z' = n * z' + k * z' := Nat.add_mul _ _ _
    cases hx
    rename_i cap0 hl hk' hc
    split at hop
    · -- its capacity is known
      rename_i c
      obtain ⟨rfl, hc2⟩ := hc
      split at hop
      · rename_i hle
        split at hop
        · rename_i hin
          cases hop
          rw [run_append_in hu hsz hu2 hd2 _ n cap0 y k hlen nw hnw hle]
          obtain ⟨w', e1, e2, e3, eq⟩ := obj_store (P := P) R hg rn (o := o + n * z') (by omega) (.inr hin.2)
          simp only [add_none, Nat.add_assoc, e1, Result.andThen_ok]
          exact ⟨_, w', cx, rfl, .sl z' l o (n + k) (some cap0) cap0 hl hle ⟨rfl, hc2⟩, e2, e3, eq⟩
        · cases hop
      · rename_i hle
        cases hop
        obtain ⟨cap, rest, hrun, hcap, hrest⟩ := run_append_new (ty := ty) hu hsz hby hz hzl hu2 hd2 _ n cap0 y k hlen old nw' hold1 hnw' (by omega) hroom'
        rw [hrun]
        obtain ⟨cx', q1, q2, q3⟩ := app_heap_new (el := el) R ro rn' hol hnl hcap hrest
        exact ⟨_, _, cx', rfl, q1, q2, q3, ⟨rfl, rfl⟩⟩
    · -- it is not
      obtain ⟨hc1, hc2⟩ := hc
      obtain ⟨arr, el0, lo, hi, a1, ⟨a2, a2k, a2z, a2t⟩, a3, a4, a5⟩ := R.obj l _ hg
      split at hop
      · rename_i hin
        split at hop
        · rename_i hzf
          cases hop
          have hle : n + k ≤ cap0 := by
            have h1 : o + (n + k) * z' ≤ o + cap0 * z' := by rw [a2k] at hin; omega
            exact Nat.le_of_mul_le_mul_right (by omega) h0
          rw [run_append_in hu hsz hu2 hd2 _ n cap0 y k hlen nw hnw hle]
          obtain ⟨w', e1, e2, e3, eq⟩ := obj_store (P := P) R hg rn (o := o + n * z') (by omega) (.inr hzf)
          simp only [add_none, Nat.add_assoc, e1, Result.andThen_ok]
          exact ⟨_, w', cx, rfl, .sl z' l o (n + k) none cap0 hl hle ⟨hc1, hc2⟩, e2, e3, eq⟩
        · cases hop
      · rename_i hin
        split at hop
        · rename_i hzf
          cases hop
          by_cases hle : n + k ≤ cap0
          · rw [run_append_in hu hsz hu2 hd2 _ n cap0 y k hlen nw hnw hle]
            have hmul : (n + k) * z' ≤ cap0 * z' := Nat.mul_le_mul_right z' hle
            have hnwl : nw.toList.length = k * z' := by simp [rn.len, hnl]
            obtain ⟨w', e1, e2, eq⟩ := r_storeCells (P := P) (cx.r l).b ((cx.r l).d + o + n * z') el0 lo hi nw.toList 0 arr w a1 (by rw [hnwl]; omega)
              (fun j hj hj' => a5 j (by omega) (by rw [hnwl] at hj'; omega)) (mem_toList_one fun j hj => rn.one j (by rw [← rn.len]; exact hj))
            rw [Nat.add_zero] at e2
            have hpg := fun j => putAt_get nw.toList arr ((cx.r l).d + o + n * z') j (by rw [hnwl]; omega)
            simp only [hnwl] at hpg
            have hseg := seg_len hcs
            have key : ∀ j, j < ((cs.drop o).take (n * z') ++ new).length → (((cs.drop o).take (n * z') ++ new).getD j .bad = if j < n * z' then cs.getD (o + j) .bad else new.getD (j - n * z') .bad) ∧
                ((putAt arr ((cx.r l).d + o + n * z') nw.toList).getD ((cx.r l).d + o + j) undef = if j < n * z' then arr.getD ((cx.r l).d + (o + j)) undef else nw.getD (j - n * z') undef) := fun j hj => by
              rw [List.length_append, hseg, hnl] at hj
              have h2 := hpg ((cx.r l).d + o + j)
              by_cases hj1 : j < n * z'
              · rw [if_pos hj1, if_pos hj1]
                rw [if_neg (by omega)] at h2
                refine ⟨?_, by rw [← Nat.add_assoc]; exact arrGetD_eq h2⟩
                rw [← list_seg hcs hj1]
                simp only [List.getD]; rw [List.getElem?_append_left (by omega)]
              · rw [if_neg hj1, if_neg hj1]
                rw [if_pos (by omega), show (cx.r l).d + o + j - ((cx.r l).d + o + n * z') = j - n * z' by omega] at h2
                refine ⟨?_, by simp [Array.getD_eq_getD_getElem?, h2]⟩
                simp only [List.getD]; rw [List.getElem?_append_right (by omega), hseg]
            obtain ⟨cx', c1, c2, c3⟩ := R.regrow hg o ((cs.drop o).take (n * z') ++ new) (zf - o) (if o = 0 ∧ ty0 = some el then some el else none) (fun T hT => by
                split at hT
                · rename_i h; cases hT; exact ⟨h.2, h.1⟩
                · cases hT) (putAt arr ((cx.r l).d + o + n * z') nw.toList) el0 lo hi ⟨_, _, a1⟩ (fun T hT => by
                split at hT
                · rename_i h; have := (a2t el h.2).2.2; omega
                · cases hT)
              (by rw [putAt_size, List.length_append, hseg, hnl]; omega) (by rw [putAt_size]; exact a2z)
              (fun j hj => by
                rw [(key j hj).2]; rw [List.length_append, hseg, hnl] at hj; split
                · exact a3 _ (by omega)
                · exact rn.one _ (by omega))
              (fun j hj => by
                rw [(key j hj).1, (key j hj).2]; rw [List.length_append, hseg, hnl] at hj; split
                · exact a4 _ (by omega)
                · exact rn.rep _ (by omega))
              (fun j hj hj' => a5 j (by omega) (by rwa [putAt_size] at hj')) _ e2
            simp only [add_none, e1, Result.andThen_ok]
            refine ⟨_, w', cx', rfl, ?_, c2, c3, eq⟩
            have : VRep cx' w'.heap ((s.put l none).new (.c ((cs.drop o).take (n * z') ++ new) (zf - o) (if o = 0 ∧ ty0 = some el then some el else none))).L (.sl z' s.n 0 (n + k) none) (.slice (some ⟨(cx'.r s.n).b, (cx'.r s.n).d + 0, none⟩) (n + k) cap0) :=
              .sl z' s.n 0 (n + k) none cap0 (St.new_L0 (s := s.put l none) _ R.gl) hle ⟨by rw [c1]; simp only [List.length_append, hseg, hnl]; omega, by rw [c1]; simp only; omega⟩
            rw [c1] at this
            simpa using this
          · obtain ⟨cap, rest, hrun, hcap, hrest⟩ := run_append_new (ty := ty) hu hsz hby hz hzl hu2 hd2 _ n cap0 y k hlen old nw' hold1 hnw' (by omega) hroom'
            rw [hrun]
            have hsub : Sub (s.put l none) s := ⟨⟨rfl, rfl⟩, fun l' o' h' => by
              by_cases hll : l' = l
              · subst hll; simp at h'
              · rwa [St.get_put_ne _ _ _ _ hll] at h'⟩
            have R' := R.sub hsub
            obtain ⟨cx', q1, q2, q3⟩ := app_heap_new (s := s.put l none) (el := el) R' ro rn' hol hnl hcap hrest
            have hsub2 : Sub ((s.put l none).new (.c ((cs.drop o).take (n * z') ++ new) (zf - o) (if o = 0 ∧ ty0 = some el then some el else none))) ((s.put l none).new (.c ((cs.drop o).take (n * z') ++ new) (zf - o) (if o = 0 ∧ ty0 = some el then some el else none))) := .refl _
            refine ⟨_, _, cx', rfl, q1, ?_, ?_, ⟨rfl, rfl⟩⟩
            · refine ⟨fun l' hl' => ?_, q2.gl, fun l' o' ho' => ?_, fun l1 l2 o1 o2 h1 h2 h3 => ?_, q2.fzl, fun l' cs' z1 ty1 ho' => ?_, fun l' e' ho' => ?_⟩
              · by_cases hll : l' = (s.put l none).n
                · subst hll; exact (hl' (St.new_L0 (s := s.put l none) _ R.gl)).elim
                · have := q2.wf l' hl'; rwa [St.get_new_ne _ _ _ hll] at this ⊢
              · by_cases hll : l' = (s.put l none).n
                · subst hll
                  rw [St.get_new_same] at ho'; cases ho'
                  obtain ⟨b1, b2, b3, b4, b5, b6, b7, b8, b9⟩ := q2.obj (s.put l none).n _ (by rw [St.get_new_same])
                  exact ⟨b1, b2, b3, b4, b5, ⟨b6.1, b6.2.1, b6.2.2.1, fun T hT => by
                    split at hT
                    · cases hT; have := b6.2.2.2 _ rfl; exact ⟨this.1, this.2.1, by omega⟩
                    · cases hT⟩, b7, b8, fun j hj hj' => b9 j (by omega) hj'⟩
                · rw [St.get_new_ne _ _ _ hll] at ho'
                  exact q2.obj l' o' (by rwa [St.get_new_ne _ _ _ hll])
              · have conv : ∀ l' o', ((s.put l none).new (.c ((cs.drop o).take (n * z') ++ new) (zf - o) (if o = 0 ∧ ty0 = some el then some el else none))).get l' = some o' → ∃ o'', ((s.put l none).new (.c ((cs.drop o).take (n * z') ++ new) 0 (some el))).get l' = some o'' ∧ blk cx' l' o'' = blk cx' l' o' := fun l' o' h' => by
                  by_cases hll : l' = (s.put l none).n
                  · subst hll; rw [St.get_new_same] at h' ⊢; cases h'; exact ⟨_, rfl, rfl⟩
                  · rw [St.get_new_ne _ _ _ hll] at h' ⊢; exact ⟨o', h', rfl⟩
                obtain ⟨p1, p2, p3⟩ := conv l1 o1 h1
                obtain ⟨p4, p5, p6⟩ := conv l2 o2 h2
                rw [← p3, ← p6]; exact q2.inj l1 l2 p1 p4 p2 p5 h3
              · by_cases hll : l' = (s.put l none).n
                · subst hll; exact q2.fzo (s.put l none).n _ 0 _ (by rw [St.get_new_same])
                · rw [St.get_new_ne _ _ _ hll] at ho'; exact q2.fzo l' cs' z1 ty1 (by rwa [St.get_new_ne _ _ _ hll])
              · by_cases hll : l' = (s.put l none).n
                · subst hll; rw [St.get_new_same] at ho'; cases ho'
                · rw [St.get_new_ne _ _ _ hll] at ho'; exact q2.fzt l' e' (by rwa [St.get_new_ne _ _ _ hll])
            · have E1 : Ext cx s w.heap cx (s.put l none) w.heap := (Ext.refl cx s w.heap).sub hsub
              have E2 := E1.trans q3
              refine ⟨E2.later, E2.size, E2.frame, fun bb hbb => E2.own bb ?_, E2.nfz⟩
              obtain ⟨l', o', h1, h2⟩ := hbb
              by_cases hll : l' = (s.put l none).n
              · subst hll; rw [St.get_new_same] at h1; cases h1
                exact ⟨_, _, St.get_new_same _ _, h2⟩
              · exact ⟨l', o', by rwa [St.get_new_ne _ _ _ hll] at h1 ⊢, h2⟩
        · cases hop
  · cases hop
end
end Rf
namespace Rf
open Go
section
variable {P : Program} {w : World} {cx : Cx} {s : St} {e : List V} {act : Act}
theorem sim_cpy (R : Rel cx s w.heap) {t t2 el ty : TypeId} {sz : Nat} (hu : P.underlying t = some (.slice el)) (hsz : szP P el = some sz) {a b : Arg} {x y : Value} (hx : VRep cx w.heap s.L (a.ev e) x) (hy : VRep cx w.heap s.L (b.ev e) y)
    {v : V} {s' : St} (hop : aop e s (.cpy sz a b) = some (v, s')) : Ok ((Builtin.copy_ #[t, t2] ty #[x, y]).run P w) cx s w v s' := by
  simp only [aop] at hop
  split at hop
  · rename_i kn hea hsrc
    obtain ⟨k, new⟩ := kn
    rw [hea] at hx; cases hop; cases hx
    obtain ⟨hlen, hnl, hrow⟩ := r_src (P := P) R hy hsrc
    obtain ⟨nw, hnw, rn⟩ := hrow 0 (by omega)
    refine ⟨_, w, cx, ?_, .i .i64 0, R, .refl _ _ _, .rfl⟩
    simp only [Builtin.copy_, List.getElem?_toArray, List.getElem?_cons_zero, List.getElem?_cons_succ, Sem.run_bind, r_und w hu, hlen, Result.andThen_ok, r_size w hsz, Nat.min_zero, hnw, Sem.run_pure, goInt]
    rfl
  · rename_i z l o n c k new hea hsrc
    rw [hea] at hx
    split at hop
    · rename_i cs zf ty0 hg
      split at hop
      · rename_i hc
        obtain ⟨rfl, hle, hzf⟩ := hc
        cases hop; cases hx
        rename_i cap hl hk hc'
        obtain ⟨hlen, hnl, hrow⟩ := r_src (P := P) R hy hsrc
        obtain ⟨nw, hnw, rn⟩ := hrow (min k n) (Nat.min_le_left _ _)
        have hm1 : min k n * z ≤ n * z := Nat.mul_le_mul_right z (Nat.min_le_right _ _)
        have hm2 : min k n * z ≤ k * z := Nat.mul_le_mul_right z (Nat.min_le_left _ _)
        have hl2 : (new.take (min k n * z)).length = min k n * z := by rw [List.length_take, hnl]; omega
        obtain ⟨w', e1, e2, e3⟩ := obj_store (P := P) R hg rn (o := o) (by rw [hl2]; omega) (.inr hzf)
        refine ⟨_, w', cx, ?_, .i .i64 _, e2, e3⟩
        simp only [Builtin.copy_, List.getElem?_toArray, List.getElem?_cons_zero, List.getElem?_cons_succ, Sem.run_bind, r_und w hu, hlen, Result.andThen_ok, r_size w hsz, hnw, e1, Sem.run_pure, goInt]
      · cases hop
    · cases hop
  · cases hop
theorem wrap64_id {n : Int} (h0 : 0 ≤ n) (h1 : n < 9223372036854775808) : IntKind.i64.wrap n = n := by
  have e1 : n % (2 ^ IntKind.i64.bits : Int) = n := Int.emod_eq_of_lt h0 (by simp [IntKind.bits]; omega)
  unfold IntKind.wrap
  simp only [e1]
  rw [if_neg]
  simp [IntKind.bits, IntKind.signed]; omega
theorem sim_mks (R : Rel cx s w.heap) {t el : TypeId} {sz by_ : Nat} {z : List V} (hu : P.underlying t = some (.slice el)) (hsz : szP P el = some sz) (hby : byP P el = some by_) (hz : zeroP P el = some z) (h0 : 0 < sz) (hzl : z.length = sz)
    {a b : Arg} {x y : Value} (hx : VRep cx w.heap s.L (a.ev e) x) (hy : VRep cx w.heap s.L (b.ev e) y)
    {v : V} {s' : St} (hop : aop e s (.mks el sz by_ z a b) = some (v, s')) : Ok ((Instr.makeSlice t x y).run P w) cx s w v s' := by
  simp only [aop] at hop
  split at hop
  · rename_i k1 n k2 c hea heb
    rw [hea] at hx; rw [heb] at hy
    split at hop
    · rename_i hc
      obtain ⟨c1, c2, c3, c4⟩ := hc
      cases hop; cases hx; cases hy
      obtain ⟨i, hi1, hi2⟩ := r_bytes (P := P) w hby
      obtain ⟨zv, z1, z2, z3, z4⟩ := r_zero (P := P) w hz
      have r0 : Row cx w.heap s.L z zv.cells := ⟨z2, z3, fun j hj => z4 cx w.heap s.L j hj⟩
      have wn := wrap64_id c1 (by omega)
      have wc := wrap64_id (by omega : 0 ≤ c) c4
      have r1 := zero_row (by omega) r0 c.toNat
      rw [hzl] at r1
      have hb1 : ¬ (i.bytes * c > 2 ^ 48) := by rw [hi2, Int.mul_comm]; omega
      obtain ⟨cx', q1, q2, q3⟩ := R.new _ _ el (some el) (fun _ h => by cases h; rfl) (by rw [r1.len]; exact Nat.le_refl _) r1.one r1.rep
      have hrun : (Instr.makeSlice t (.int k1 n) (.int k2 c)).run P w = .ok (.slice (some ⟨w.heap.size, 0, none⟩) n.toNat c.toNat) { w with heap := w.heap.push (.cells ((Array.range (c.toNat * sz)).map (zv.cells[· % zv.cells.size]!)) el) } := by
        have hcond : (decide (c < 0) || decide (↑i.bytes * c > 2 ^ 48) || decide (n < 0) || decide (n > c)) = false := by
          simp only [Bool.or_eq_false_iff, decide_eq_false_iff_not]
          exact ⟨⟨⟨by omega, hb1⟩, by omega⟩, by omega⟩
        have hcond' : ¬ (((c < 0 ∨ ↑i.bytes * c > 2 ^ 48) ∨ n < 0) ∨ n > c) := by omega
        by_cases h : c.toNat * sz = 0
        · have harr : (Array.range (c.toNat * sz)).map ((#[] : Array Value)[· % (#[] : Array Value).size]!) = (Array.range (c.toNat * sz)).map (zv.cells[· % zv.cells.size]!) := by simp [h]
          simp only [Instr.makeSlice, Sem.run_bind, r_und w hu, Result.andThen_ok, asInt, asIntOf, Sem.run_pure, hi1, wn, wc, Bool.or_eq_true, decide_eq_true_eq, hcond', Sem.run_ite, if_false, run_askRoom, r_size w hsz, h, if_true]
          rw [h] at harr
          rw [harr]
          simp only [newRow_run, Result.andThen_ok, Sem.run_pure]
        · simp only [Instr.makeSlice, Sem.run_bind, r_und w hu, Result.andThen_ok, asInt, asIntOf, Sem.run_pure, hi1, wn, wc, Bool.or_eq_true, decide_eq_true_eq, hcond', Sem.run_ite, if_false, run_askRoom, r_size w hsz, h, z1, newRow_run]
      rw [hrun]
      refine ⟨_, _, cx', rfl, ?_, q2, q3, ⟨rfl, rfl⟩⟩
      have : VRep cx' (w.heap.push (.cells ((Array.range (c.toNat * sz)).map (zv.cells[· % zv.cells.size]!)) el)) (s.new (.c (List.replicate c.toNat z).flatten 0 (some el))).L (.sl sz s.n 0 n.toNat (some c.toNat)) (.slice (some ⟨(cx'.r s.n).b, (cx'.r s.n).d + 0, none⟩) n.toNat c.toNat) :=
        .sl sz s.n 0 n.toNat (some c.toNat) c.toNat (St.new_L0 _ R.gl) (by omega) ⟨rfl, by rw [q1]; simp [rep_flat_len, hzl]⟩
      rw [q1] at this
      simpa using this
    · cases hop
  · cases hop
def ORp (cx : Cx) (h : Array Obj) (n : Nat → Prop) : Option V → Option Value → Prop
  | none, none => True
  | some v, some x => VRep cx h n v x
  | _, _ => False
theorem bnd_run {h : Array Obj} {n : Nat → Prop} {top k : Nat} {v : V} {x : Value} (hb : bnd top v = some k) (hv : VRep cx h n v x) (top' : Nat) (ht : top ≤ top') (code : BoundsCode) : (Instr.sliceBound x top' code).run P w = .ok k w ∧ k ≤ top := by
  unfold bnd at hb
  split at hb
  · rename_i kd i
    split at hb
    · rename_i hc
      cases hb; cases hv
      refine ⟨?_, by omega⟩
      simp only [Instr.sliceBound, asIntOf, Sem.run_bind, Sem.run_pure, Result.andThen_ok]
      rw [if_pos (by omega), Sem.run_pure]
    · cases hb
  · cases hb
theorem slb_run {hp : Array Obj} {n : Nat → Prop} {len cap : Nat} {l h m : Option V} {l' h' m' : Option Value} {a b mm : Nat} (hs : slb len cap l h m = some (a, b, mm)) (hl : ORp cx hp n l l') (hh : ORp cx hp n h h') (hm : ORp cx hp n m m') (isS : Bool) (cap' : Nat) (hc : cap ≤ cap') (hlen : len ≤ cap) :
    (Instr.sliceBounds isS len cap' l' h' m').run P w = .ok (a, b, if m.isSome then mm else cap') w ∧ a ≤ b ∧ b ≤ mm ∧ mm ≤ cap ∧ (m = none → mm = cap) := by
  unfold slb at hs
  split at hs
  · cases hs
  · rename_i m1 hm1
    split at hs
    · cases hs
    · rename_i h1 hh1
      split at hs
      · cases hs
      · rename_i l1 hl1
        cases hs
        cases m with
        | none =>
          cases m' with
          | some _ => exact hm.elim
          | none =>
            cases hm1
            cases h with
            | none =>
              cases h' with
              | some _ => exact hh.elim
              | none =>
                cases hh1
                cases l with
                | none =>
                  cases l' with
                  | some _ => exact hl.elim
                  | none => cases hl1; exact ⟨rfl, by omega, by omega, by omega, fun _ => rfl⟩
                | some lv =>
                  cases l' with
                  | none => exact hl.elim
                  | some lx =>
                    obtain ⟨e1, e2⟩ := bnd_run (P := P) (w := w) hl1 hl _ (Nat.le_refl _) .sliceB
                    exact ⟨by simp only [Instr.sliceBounds, Sem.run_bind, Sem.run_pure, Result.andThen_ok, Option.isSome_none, Bool.false_eq_true, if_false, e1], by omega, by omega, by omega, fun _ => rfl⟩
            | some hv =>
              cases h' with
              | none => exact hh.elim
              | some hx =>
                obtain ⟨e3, e4⟩ := bnd_run (P := P) (w := w) hh1 hh cap' hc (if isS then .sliceAcap else .sliceAlen)
                cases l with
                | none =>
                  cases l' with
                  | some _ => exact hl.elim
                  | none => cases hl1; exact ⟨by simp only [Instr.sliceBounds, Sem.run_bind, Sem.run_pure, Result.andThen_ok, Option.isSome_none, Bool.false_eq_true, if_false, e3], by omega, by omega, by omega, fun _ => rfl⟩
                | some lv =>
                  cases l' with
                  | none => exact hl.elim
                  | some lx =>
                    obtain ⟨e1, e2⟩ := bnd_run (P := P) (w := w) hl1 hl _ (Nat.le_refl _) .sliceB
                    exact ⟨by simp only [Instr.sliceBounds, Sem.run_bind, Sem.run_pure, Result.andThen_ok, Option.isSome_none, Bool.false_eq_true, if_false, e1, e3], by omega, by omega, by omega, fun _ => rfl⟩
        | some mv =>
          cases m' with
          | none => exact hm.elim
          | some mx =>
            obtain ⟨e5, e6⟩ := bnd_run (P := P) (w := w) hm1 hm cap' hc (if isS then .slice3Acap else .slice3Alen)
            cases h with
            | none => cases hh1
            | some hv =>
              cases h' with
              | none => exact hh.elim
              | some hx =>
                obtain ⟨e3, e4⟩ := bnd_run (P := P) (w := w) hh1 hh _ (Nat.le_refl _) .slice3B
                cases l with
                | none =>
                  cases l' with
                  | some _ => exact hl.elim
                  | none => cases hl1; exact ⟨by simp only [Instr.sliceBounds, Sem.run_bind, Sem.run_pure, Result.andThen_ok, Option.isSome_some, if_true, e3, e5], by omega, by omega, by omega, fun h => by cases h⟩
                | some lv =>
                  cases l' with
                  | none => exact hl.elim
                  | some lx =>
                    obtain ⟨e1, e2⟩ := bnd_run (P := P) (w := w) hl1 hl _ (Nat.le_refl _) .slice3C
                    exact ⟨by simp only [Instr.sliceBounds, Sem.run_bind, Sem.run_pure, Result.andThen_ok, Option.isSome_some, if_true, e1, e3, e5], by omega, by omega, by omega, fun h => by cases h⟩
theorem ba_extract (l : List UInt8) (a b : Nat) : (⟨l.toArray⟩ : ByteArray).extract a b = ⟨((l.take b).drop a).toArray⟩ := by
  apply ByteArray.ext
  rw [ByteArray.data_extract]
  apply Array.ext'
  simp only [List.extract_toArray, List.extract_eq_drop_take']
theorem sim_slS (R : Rel cx s w.heap) {t : TypeId} (hu : P.underlying t = some .string) {a : Arg} {l h : Option Arg} {x : Value} {l' h' : Option Value} (hx : VRep cx w.heap s.L (a.ev e) x) (hl : ORp cx w.heap s.L (l.map (·.ev e)) l') (hh : ORp cx w.heap s.L (h.map (·.ev e)) h')
    {v : V} {s' : St} (hop : aop e s (.slS a l h) = some (v, s')) : Ok ((Instr.sliceAt t x l' h' none).run P w) cx s w v s' := by
  simp only [aop] at hop
  split at hop
  · rename_i str hea
    rw [hea] at hx
    simp only [Option.map_eq_some_iff] at hop
    obtain ⟨⟨p, q, r⟩, h1, h2⟩ := hop
    cases h2; cases hx
    have hsz : (⟨str.toArray⟩ : ByteArray).size = str.length := by simp [ByteArray.size]
    obtain ⟨e1, -⟩ := slb_run (P := P) (w := w) h1 hl hh (m' := none) trivial false str.length (Nat.le_refl _) (Nat.le_refl _)
    refine ⟨_, w, cx, ?_, .s ((str.take q).drop p), R, .refl _ _ _, .rfl⟩
    simp only [Instr.sliceAt, Instr.slice, Sem.run_bind, r_und w hu, Result.andThen_ok, Option.isSome_none, Bool.false_eq_true, if_false, hsz, Sem.run_pure, e1, ba_extract]
  · cases hop
theorem VRep.pu_nil {h : Array Obj} {n : Nat → Prop} {sz : Nat} {c : Cap} (ad : Addr) (cap : Nat) (hc : match c with | .u => True | .z => True | .x k => cap = k | .t _ => False) : VRep cx h n (.pu sz [] c) (.slice (some ad) 0 cap) := by
  have := VRep.pu (cx := cx) (h := h) (n := n) sz [] c ad cap (fun _ _ => undef) (by simp) (by simp) (by simp) (by simp) (by simp) (by simp) (Nat.zero_le _) (by cases c <;> simp_all [capR]) (by intro k hk; subst hk; exact hc.elim)
  simpa using this
theorem VRep.pu_cut {h : Array Obj} {n : Nat → Prop} {sz : Nat} {xs : List V} {c c' : Cap} {ad : Addr} {cap cap' a b : Nat} (hv : VRep cx h n (.pu sz xs c) (.slice (some ad) xs.length cap)) (ha : a ≤ b) (hb : b ≤ xs.length) (hc : b - a ≤ cap') (hc' : match c' with | .u => True | .z => True | .x k => cap' = k | .t _ => False) :
    VRep cx h n (.pu sz ((xs.take b).drop a) c') (.slice (some (ad.add (a * sz))) (b - a) cap') := by
  have hlen : ((xs.take b).drop a).length = b - a := by simp; omega
  by_cases h0 : b - a = 0
  · have : (xs.take b).drop a = [] := List.length_eq_zero_iff.1 (by omega)
    rw [this, h0]
    exact VRep.pu_nil _ _ hc'
  · have hne : xs ≠ [] := by intro hx; subst hx; simp at hb; omega
    cases hv with
    | pu sz xs c ad cap f hsp h1 hs hz hcell hrep hl hr hp =>
      have hsp := hsp hne
      obtain ⟨bb, bo, bs⟩ := ad
      simp only at hsp; subst hsp
      have hgd : ∀ i, i < b - a → ((xs.take b).drop a).getD i .bad = xs.getD (a + i) .bad := fun i hi => by
        simp only [List.getD, List.getElem?_drop, List.getElem?_take]
        rw [if_pos (by omega)]
      have hmul : ∀ i, bo + a * sz + i * sz = bo + (a + i) * sz := fun i => by rw [Nat.add_mul]; omega
      have := VRep.pu (cx := cx) (h := h) (n := n) sz ((xs.take b).drop a) c' ⟨bb, bo + a * sz, none⟩ cap' (fun i j => f (a + i) j) (fun _ => rfl) (fun i j hi hj => h1 _ _ (by omega) hj)
        (fun i hi => by rw [hlen] at hi; rw [hgd i hi]; exact hs _ (by omega)) (fun i j hi hj => by simp only [hmul]; exact hz _ _ (by omega) hj) (fun i j hi hj => by simp only [hmul]; exact hcell _ _ (by omega) hj)
        (fun i j hi hj => by rw [hlen] at hi; rw [hgd i hi]; exact hrep _ _ (by omega) hj) (by omega) (by cases c' <;> simp_all [capR]) (fun k _ => rfl)
      rw [hlen] at this
      rwa [add_none]
theorem sim_slc (R : Rel cx s w.heap) {t el : TypeId} {sz : Nat} (hu : P.underlying t = some (.slice el)) (hsz : szP P el = some sz) {a : Arg} {l h m : Option Arg} {x : Value} {l' h' m' : Option Value} (hx : VRep cx w.heap s.L (a.ev e) x) (hl : ORp cx w.heap s.L (l.map (·.ev e)) l') (hh : ORp cx w.heap s.L (h.map (·.ev e)) h') (hm : ORp cx w.heap s.L (m.map (·.ev e)) m')
    {v : V} {s' : St} (hop : aop e s (.slc sz a l h m) = some (v, s')) : Ok ((Instr.sliceAt t x l' h' m').run P w) cx s w v s' := by
  have hrun : ∀ base len cap lo hi mx, (Instr.sliceBounds true len cap l' h' m').run P w = .ok (lo, hi, mx) w →
      (Instr.sliceAt t (.slice base len cap) l' h' m').run P w = .ok (.slice (if mx = lo then base else base.map (·.add (lo * sz))) (hi - lo) (mx - lo)) w := fun base len cap lo hi mx hb => by
    simp only [Instr.sliceAt, Instr.slice, Sem.run_bind, r_und w hu, Result.andThen_ok, hb, r_size w hsz, Sem.run_pure]
  simp only [aop] at hop
  split at hop
  · rename_i hea
    rw [hea] at hx; cases hx
    simp only [Option.map_eq_some_iff] at hop
    obtain ⟨⟨p, q, r⟩, h1, h2⟩ := hop
    cases h2
    obtain ⟨e1, e2, e3, e4, e5⟩ := slb_run (P := P) (w := w) h1 hl hh hm true 0 (Nat.le_refl _) (Nat.le_refl _)
    rw [hrun _ _ _ _ _ _ e1]
    have : q - p = 0 := by omega
    have h3 : (if (m.map (·.ev e)).isSome then r else 0) = 0 := by split <;> omega
    rw [this, h3]
    refine ⟨_, w, cx, rfl, ?_, R, .refl _ _ _, .rfl⟩
    have : (if 0 = p then (none : Option Addr) else Option.map (fun ad : Addr => ad.add (p * sz)) none) = none := by split <;> rfl
    rw [this, Nat.zero_sub]; exact .ns
  · rename_i z i o n c hea
    rw [hea] at hx
    split at hop
    · cases hop
    rename_i hz
    have hz : z = sz := by simpa using hz
    subst hz
    split at hop
    case h_2 =>
      split at hop
      · split at hop
        · rename_i cs zf ty0 hg
          split at hop
          · cases hop
          rename_i hz0
          split at hop
          · rename_i p q r hslb
            split at hop
            · rename_i hcond
              cases hop
              obtain ⟨hnK, hpa⟩ := hcond
              cases hx
              rename_i cap hl0 hk0 hc0
              obtain ⟨_, _, _, _, _, ⟨_, hkk, _⟩, _⟩ := R.obj i _ hg
              obtain ⟨c1, c2⟩ := hc0
              have hK : (cs.length - o) / z * z ≤ cs.length - o := Nat.div_mul_le_self _ _
              have hz1 : 0 < z := Nat.pos_of_ne_zero hz0
              generalize (cs.length - o) / z = K at *
              have hKc : K ≤ cap := Nat.le_of_mul_le_mul_right (c := z) (by omega) hz1
              obtain ⟨e1, e2, e3, e4, e5⟩ := slb_run (P := P) (w := w) hslb hl hh (m' := m') hm true cap hKc hnK
              rw [hrun _ _ _ _ _ _ e1]
              simp only [Option.isSome_none, Bool.false_eq_true, if_false]
              refine ⟨.slice (some ⟨(cx.r i).b, (cx.r i).d + (o + p * z), none⟩) (q - p) (cap - p), w, cx, ?_, .sl z i (o + p * z) (q - p) none (cap - p) hl0 (by omega) ?_, R, .refl _ _ _, .rfl⟩
              · congr 2
                by_cases hcp : cap = p
                · rw [if_pos hcp]
                  have : p = 0 := by omega
                  subst this; simp
                · rw [if_neg hcp]; simp only [Option.map_some, add_none, Nat.add_assoc]
              · have : p * z + (cap - p) * z = cap * z := by rw [← Nat.add_mul]; congr 1; omega
                exact ⟨by omega, by omega⟩
            · cases hop
          · cases hop
        · cases hop
      · cases hop
    rename_i p q r hslb
    have hx0 := hx
    cases hx
    rename_i cap hl0 hk0 hc0
    have hcc : c.getD n ≤ cap := by
      cases c with
      | none => simpa using hk0
      | some c => simp [hc0.1]
    have hnc : n ≤ c.getD n := by
      cases c with
      | none => simp
      | some c => have := hc0.1; simp; omega
    obtain ⟨e1, e2, e3, e4, e5⟩ := slb_run (P := P) (w := w) hslb hl hh hm true cap hcc hnc
    rw [hrun _ _ _ _ _ _ e1]
    split at hop
    · -- no capacity known, none asked
      simp only [Option.map_none, Option.isSome_none, Bool.false_eq_true, if_false] at e5 ⊢
      have hr := e5 trivial
      simp only [Option.getD_none] at hr hcc
      split at hop
      · rename_i hpa
        cases hop
        refine ⟨.slice (some ⟨(cx.r i).b, (cx.r i).d + (o + p * z), none⟩) (q - p) (cap - p), w, cx, ?_, .sl z i (o + p * z) (q - p) none (cap - p) hl0 (by omega) ?_, R, .refl _ _ _, .rfl⟩
        · congr 2
          by_cases hcp : cap = p
          · rw [if_pos hcp]
            have : p = 0 := by omega
            subst this; simp
          · rw [if_neg hcp]; simp only [Option.map_some, add_none, Nat.add_assoc]
        · have : p * z + (cap - p) * z = cap * z := by rw [← Nat.add_mul]; congr 1; omega
          obtain ⟨c1, c2⟩ := hc0
          exact ⟨by omega, by omega⟩
      · rename_i hpa
        have hq0 : q - p = 0 := by omega
        split at hop
        case h_2 => cases hop
        rename_i cs zf ty0 hg
        split at hop
        · rename_i hcl
          cases hop
          obtain ⟨_, _, _, _, _, ⟨_, hkk, _⟩, _⟩ := R.obj i _ hg
          obtain ⟨c1, c2⟩ := hc0
          have hpn : p = n := by omega
          rw [hq0]
          by_cases hcp : cap = p
          · rw [if_pos hcp]; exact ⟨_, w, cx, rfl, .se z i _ (cap - p) hl0 (.inl (by omega)), R, .refl _ _ _, .rfl⟩
          · rw [if_neg hcp]
            simp only [Option.map_some, add_none]
            refine ⟨_, w, cx, rfl, .se z i _ (cap - p) hl0 (.inr ⟨?_, ?_⟩), R, .refl _ _ _, .rfl⟩
            · rw [hpn, ← hkk, ← hcl, Nat.add_assoc]
            · have h1 : p * z + (cap - p) * z = cap * z := by rw [← Nat.add_mul]; congr 1; omega
              rw [hpn] at h1
              rw [hpn]
              omega
        · cases hop
          rw [hq0]
          by_cases hcp : cap = p
          · rw [if_pos hcp]; exact ⟨_, w, cx, rfl, VRep.pu_nil _ _ trivial, R, .refl _ _ _, .rfl⟩
          · rw [if_neg hcp]; exact ⟨_, w, cx, rfl, VRep.pu_nil _ _ trivial, R, .refl _ _ _, .rfl⟩
    · -- none known, one asked
      rename_i ma
      simp only [Option.map_some, Option.isSome_some, if_true] at e5 ⊢
      split at hop
      · rename_i cs zf ty0 hg
        split at hop
        · rename_i hcs
          obtain ⟨_, _, _, _, _, ⟨_, hkk, _⟩, _⟩ := R.obj i _ hg
          split at hop
          · rename_i hpa
            cases hop
            refine ⟨.slice (some ⟨(cx.r i).b, (cx.r i).d + (o + p * z), none⟩) (q - p) (r - p), w, cx, ?_, .sl z i (o + p * z) (q - p) (some (r - p)) (r - p) hl0 (by omega) ?_, R, .refl _ _ _, .rfl⟩
            · congr 2
              by_cases hcp : r = p
              · rw [if_pos hcp]
                have : p = 0 := by omega
                subst this; simp
              · rw [if_neg hcp]; simp only [Option.map_some, add_none, Nat.add_assoc]
            · have : p * z + (r - p) * z = r * z := by rw [← Nat.add_mul]; congr 1; omega
              exact ⟨rfl, by omega⟩
          · rename_i hpa
            cases hop
            have h1 : r = p := by omega
            have h2 : q - p = 0 := by omega
            rw [if_pos h1, h2, h1, Nat.sub_self]
            exact ⟨_, w, cx, rfl, VRep.pu_nil _ _ rfl, R, .refl _ _ _, .rfl⟩
        · cases hop
      · cases hop
    · -- it is known
      rename_i c'
      obtain ⟨rfl, hk2⟩ := hc0
      simp only [Option.getD_some] at e4 e5 hcc hnc
      have hr2 : (if (m.map (·.ev e)).isSome then r else cap) = r := by
        split
        · rfl
        · rename_i hm0; exact (e5 (by simpa using hm0)).symm
      rw [hr2]
      split at hop
      · rename_i hpa
        cases hop
        refine ⟨.slice (some ⟨(cx.r i).b, (cx.r i).d + (o + p * z), none⟩) (q - p) (r - p), w, cx, ?_, .sl z i (o + p * z) (q - p) (some (r - p)) (r - p) hl0 (by omega) ?_, R, .refl _ _ _, .rfl⟩
        · congr 2
          by_cases hcp : r = p
          · rw [if_pos hcp]
            have : p = 0 := by omega
            subst this; simp
          · rw [if_neg hcp]; simp only [Option.map_some, add_none, Nat.add_assoc]
        · have : p * z + (r - p) * z = r * z := by rw [← Nat.add_mul]; congr 1; omega
          have h5 : r * z ≤ cap * z := Nat.mul_le_mul_right z e4
          exact ⟨rfl, by omega⟩
      · rename_i hpa
        cases hop
        have h1 : r = p := by omega
        have h2 : q - p = 0 := by omega
        rw [if_pos h1, h2, h1, Nat.sub_self]
        exact ⟨_, w, cx, rfl, VRep.pu_nil _ _ rfl, R, .refl _ _ _, .rfl⟩
  · rename_i z xs c hea
    rw [hea] at hx
    split at hop
    case h_2 => cases hop
    rename_i p q r hslb
    split at hop
    · cases hop
    rename_i hz
    have hz : z = sz := by simpa using hz
    subst hz
    split at hop
    · cases hop
    rename_i hq
    have hq : q ≤ xs.length := by omega
    obtain ⟨hs, ⟨rfl, rfl, hcn⟩ | ⟨ad, cap, g, rfl, hsp, hle, one, hz2, hc, hv, hr, hp⟩⟩ := hx.pu_flat'
    · -- nil
      have hcap0 : capOr c ([] : List V).length = 0 := by cases c <;> simp_all [capN, capOr]
      rw [hcap0, List.length_nil] at hslb
      obtain ⟨e1, e2, e3, e4, e5⟩ := slb_run (P := P) (w := w) hslb hl hh hm true 0 (Nat.le_refl _) (Nat.le_refl _)
      rw [hrun _ _ _ _ _ _ e1]
      have h1 : q - p = 0 := by simp at hq; omega
      have h3 : (if (m.map (·.ev e)).isSome then r else 0) = 0 := by split <;> omega
      have h4 : (if (0 : Nat) = p then (none : Option Addr) else Option.map (fun ad : Addr => ad.add (p * z)) none) = none := by split <;> rfl
      rw [h1, h3, h4, Nat.zero_sub]
      have hp0 : p = 0 := by simp at hq; omega
      have hr0 : r - p = 0 := by omega
      split at hop
      · cases hop
        exact ⟨_, w, cx, rfl, by simpa using VRep.pu0 z _ (by rw [hr0]; rfl), R, .refl _ _ _, .rfl⟩
      · cases hop
        exact ⟨_, w, cx, rfl, by simpa using VRep.pu0 z _ (by rw [hr0]; rfl), R, .refl _ _ _, .rfl⟩
      · split at hop
        · cases hop
          exact ⟨_, w, cx, rfl, VRep.pu0 z _ hcn, R, .refl _ _ _, .rfl⟩
        · cases hop
          exact ⟨_, w, cx, rfl, by simpa using VRep.pu0 z .u trivial, R, .refl _ _ _, .rfl⟩
    · have hcap : capOr c xs.length ≤ cap := by
        cases c with
        | u => exact hle
        | z => exact hle
        | x c => exact Nat.le_of_eq hr.symm
        | t k => exact hle
      have hcap' : xs.length ≤ capOr c xs.length := by
        cases c with
        | u => exact Nat.le_refl _
        | z => exact Nat.le_refl _
        | x c => have : cap = c := hr; simp only [capOr]; omega
        | t k => exact Nat.le_refl _
      obtain ⟨e1, e2, e3, e4, e5⟩ := slb_run (P := P) (w := w) hslb hl hh hm true cap hcap hcap'
      rw [hrun _ _ _ _ _ _ e1]
      -- the result for any capacity
      have fin : ∀ (c' : Cap) (mx : Nat), q ≤ mx → (match c' with | .u => True | .z => True | .x k => mx - p = k | .t _ => False) → Ok (.ok (.slice (if mx = p then some ad else (some ad).map (·.add (p * z))) (q - p) (mx - p)) w) cx s w (.pu z ((xs.take q).drop p) c') s := fun c' mx hmx hc' => by
        by_cases hmp : mx = p
        · rw [if_pos hmp]
          have h1 : q - p = 0 := by omega
          have h2 : (xs.take q).drop p = [] := by apply List.length_eq_zero_iff.1; simp; omega
          rw [h1, h2]
          exact ⟨_, w, cx, rfl, VRep.pu_nil _ _ hc', R, .refl _ _ _, .rfl⟩
        · rw [if_neg hmp]
          exact ⟨_, w, cx, rfl, VRep.pu_cut hx e2 hq (by omega) hc', R, .refl _ _ _, .rfl⟩
      split at hop
      · rename_i c'
        cases hop
        have hcx : cap = c' := hr
        have hr2 : (if (m.map (·.ev e)).isSome then r else cap) = r := by
          split
          · rfl
          · rename_i hm0; rw [hcx]; exact (e5 (by simpa using hm0)).symm
        rw [hr2]
        exact fin (.x (r - p)) r e3 rfl
      · cases hop
        simp only [Option.map_some, Option.isSome_some, if_true]
        exact fin (.x (r - p)) r e3 rfl
      · simp only [Option.map_none, Option.isSome_none, Bool.false_eq_true, if_false]
        split at hop
        · rename_i h0
          obtain ⟨rfl, rfl⟩ := h0
          cases hop
          refine ⟨.slice (some ad) xs.length cap, w, cx, ?_, hx, R, .refl _ _ _, .rfl⟩
          simp only [Nat.sub_zero, Nat.zero_mul, Option.map_some]
          have : ad.add 0 = ad := by simp [Addr.add]
          rw [this]; simp
        · cases hop
          refine fin .u cap (by omega) trivial
  · rename_i z i hea
    rw [hea] at hx
    split at hop
    · cases hop
    rename_i hz
    have hz : z = sz := by simpa using hz
    subst hz
    split at hop
    case h_2 => cases hop
    rename_i pqr hslb
    obtain ⟨p, q, r⟩ := pqr
    cases hx
    rename_i ad cap hl0 hc0
    obtain ⟨e1, e2, e3, e4, e5⟩ := slb_run (P := P) (w := w) hslb hl hh hm true cap (Nat.zero_le _) (Nat.le_refl _)
    rw [hrun _ _ _ _ _ _ e1]
    have hp0 : p = 0 := by omega
    have hq0 : q = 0 := by omega
    have hr0 : r = 0 := by omega
    subst hp0; subst hq0; subst hr0
    split at hop
    · cases hop
      simp only [Option.map_none, Option.isSome_none, Bool.false_eq_true, if_false]
      by_cases hcp : cap = 0
      · rw [if_pos hcp]; exact ⟨_, w, cx, rfl, .se z i _ (cap - 0) hl0 (.inl (by omega)), R, .refl _ _ _, .rfl⟩
      · rw [if_neg hcp]
        obtain ⟨rfl, hroom⟩ := hc0.resolve_left hcp
        simp only [Option.map_some, add_none]
        exact ⟨_, w, cx, rfl, .se z i _ (cap - 0) hl0 (.inr ⟨by simp, by simpa using hroom⟩), R, .refl _ _ _, .rfl⟩
    · cases hop
      simp only [Option.map_some, Option.isSome_some, if_true]
      exact ⟨_, w, cx, rfl, VRep.pu_nil _ _ rfl, R, .refl _ _ _, .rfl⟩
  · cases hop
theorem sim_slA (R : Rel cx s w.heap) {t el : TypeId} {sz len : Nat} (hu : P.underlying t = some (.array len el)) (hsz : szP P el = some sz) {a : Arg} {l h m : Option Arg} {x : Value} {l' h' m' : Option Value} (hx : VRep cx w.heap s.L (a.ev e) x) (hl : ORp cx w.heap s.L (l.map (·.ev e)) l') (hh : ORp cx w.heap s.L (h.map (·.ev e)) h') (hm : ORp cx w.heap s.L (m.map (·.ev e)) m')
    {v : V} {s' : St} (hop : aop e s (.slA sz len a l h m) = some (v, s')) : Ok ((Instr.sliceAt t x l' h' m').run P w) cx s w v s' := by
  simp only [aop] at hop
  split at hop
  · rename_i i o hea
    rw [hea] at hx
    split at hop
    · rename_i cs zf ty0 hg
      split at hop
      · rename_i hcs
        simp only [Option.map_eq_some_iff] at hop
        obtain ⟨⟨p, q, r⟩, h1, h2⟩ := hop
        cases h2; cases hx
        rename_i hl0
        obtain ⟨e1, e2, e3, e4, e5⟩ := slb_run (P := P) (w := w) h1 hl hh hm false len (Nat.le_refl _) (Nat.le_refl _)
        have hr2 : (if (m.map (·.ev e)).isSome then r else len) = r := by
          split
          · rfl
          · rename_i hm0; exact (e5 (by simpa using hm0)).symm
        rw [hr2] at e1
        obtain ⟨_, _, _, _, _, ⟨_, hkk, _⟩, _⟩ := R.obj i _ hg
        have hrun : (Instr.sliceAt t (.pointer (some ⟨(cx.r i).b, (cx.r i).d + o, none⟩)) l' h' m').run P w = .ok (.slice (some (if r = p then ⟨(cx.r i).b, (cx.r i).d + o, none⟩ else (⟨(cx.r i).b, (cx.r i).d + o, none⟩ : Addr).add (p * sz))) (q - p) (r - p)) w := by
          simp only [Instr.sliceAt, Sem.run_bind, r_und w hu, Result.andThen_ok, Instr.sureAddr, Sem.run_pure, e1, r_size w hsz]
        rw [hrun]
        by_cases hrp : r = p
        · rw [if_pos hrp, if_pos hrp]
          have h2 : q - p = 0 := by omega
          rw [h2, hrp, Nat.sub_self]
          exact ⟨_, w, cx, rfl, VRep.pu_nil _ _ rfl, R, .refl _ _ _, .rfl⟩
        · rw [if_neg hrp, if_neg hrp]
          refine ⟨.slice (some ⟨(cx.r i).b, (cx.r i).d + (o + p * sz), none⟩) (q - p) (r - p), w, cx, by simp only [add_none, Nat.add_assoc], .sl sz i (o + p * sz) (q - p) (some (r - p)) (r - p) hl0 (by omega) ?_, R, .refl _ _ _, .rfl⟩
          have : p * sz + (r - p) * sz = r * sz := by rw [← Nat.add_mul]; congr 1; omega
          have h5 : r * sz ≤ len * sz := Nat.mul_le_mul_right sz e4
          exact ⟨rfl, by omega⟩
      · cases hop
    · cases hop
  · cases hop
end
end Rf
