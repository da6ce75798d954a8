/-
  A layer of own lemmas, part 5: no statement of the program stands here.
-/
import Derived.Test.YtbcapobkbgckbaaGreatDoorLD
import Derived.AtR
import Derived.Defers
import Derived.RangeFuncRecord
import Derived.RangeFuncNested
set_option linter.all false
namespace Rf
open Go
def fgI (ks : List Nat) : Nat → List V → List V
  | _, [] => []
  | i, v :: r => (match ks.contains i with | true => v | false => .bad) :: fgI ks (i + 1) r
def fg (ks : List Nat) (e : List V) : List V := fgI ks 0 e
theorem fgI_forg (ks : List Nat) : ∀ (e : List V) (i : Nat), (fgI ks i e).length = e.length ∧ ∀ t, t < e.length → (fgI ks i e).getD t unV = e.getD t unV ∨ (fgI ks i e).getD t unV = .bad
  | [], i => by simp [fgI]
  | v :: r, i => by
    obtain ⟨h1, h2⟩ := fgI_forg ks r (i + 1)
    refine ⟨by simp [fgI, h1], fun t ht => ?_⟩
    cases t with
    | zero =>
      simp only [fgI, List.getD_cons_zero]
      split
      · exact .inl rfl
      · exact .inr rfl
    | succ t => simpa [fgI] using h2 t (by simpa using ht)
theorem fg_forg (ks : List Nat) (e : List V) : Forg (fg ks e) e := fgI_forg ks e 0
def cutT (h : Tr O) (N : Nat) : Nat → Tr O
  | 0 => h
  | k + 1 => Tr.put none (N + k + 1) (cutT h N k) (N + k)
def St.cut (s : St) (N : Nat) : St := { h := cutT s.h N (s.n - N), n := N, g := [] }
theorem Wk.fg {ks : List Nat} {e : List V} {s : St} (wf : ∀ l o, s.get l = some o → s.L l) (g : ∀ l ∈ s.g, l < s.n) : Wk (Rf.fg ks e) s e s :=
  ⟨fg_forg ks e, fun _ _ h => h, g, wf, .inl rfl, .inl rfl, .inl rfl⟩
def gEq : List LK → List V → List V → Option Bool
  | [], [], [] => some true
  | k :: ks, a :: x, b :: y => match veq k a b with
    | some p => (match gEq ks x y with
      | some q => some (p && q)
      | none => none)
    | none => none
  | _, _, _ => none
theorem gEq_veqs : ∀ (ks : List LK) (a b : List V) (r : Bool), gEq ks a b = some r → veqs ks a b = some r ∧ a.length = ks.length ∧ b.length = ks.length
  | [], [], [], r, h => by simp [gEq] at h; subst h; simp [veqs]
  | k :: ks, a :: x, b :: y, r, h => by
    simp only [gEq] at h
    split at h
    · rename_i p hp
      split at h
      · rename_i q hq
        cases h
        obtain ⟨h1, h2, h3⟩ := gEq_veqs ks x y q hq
        refine ⟨?_, by simp [h2], by simp [h3]⟩
        cases p
        · simp [veqs, hp]
        · simp [veqs, hp, h1]
      · cases h
    · cases h
  | [], _ :: _, _, _, h => by simp [gEq] at h
  | [], [], _ :: _, _, h => by simp [gEq] at h
  | _ :: _, [], _, _, h => by simp [gEq] at h
  | _ :: _, _ :: _, [], _, h => by simp [gEq] at h
def fN (n : Nat) (k : Nat → Prop) : Prop := match n with
  | 0 => k 0
  | n + 1 => fN n fun n => k (n + 1)
theorem fN_eq : ∀ (n : Nat) (k : Nat → Prop), fN n k = k n
  | 0, k => rfl
  | n + 1, k => by simp only [fN, fN_eq n]
def fV1 (v : V) (k : V → Prop) : Prop := match v with
  | .bad => k .bad
  | .b b => k (.b b)
  | .i j n => k (.i j n)
  | .s l => k (.s l)
  | .np => k .np
  | .p l o => fN l fun l => k (.p l o)
  | .q v o => k (.q v o)
  | .ns => k .ns
  | .sl sz l o n c => k (.sl sz l o n c)
  | .pu sz xs c => k (.pu sz xs c)
  | .nm => k .nm
  | .m l => k (.m l)
  | .fn f cap => k (.fn f cap)
  | .nf => k .nf
  | .ifc t v => k (.ifc t v)
  | .ni => k .ni
  | .ag cs => k (.ag cs)
  | .tu vs => k (.tu vs)
  | .yl l => k (.yl l)
  | .se sz l => k (.se sz l)
  | .tp b t => k (.tp b t)
theorem fV1_eq (v : V) (k : V → Prop) : fV1 v k = k v := by cases v <;> simp only [fV1, fN_eq]
def fL (l : List V) (k : List V → Prop) : Prop := match l with
  | [] => k []
  | v :: r => fL r fun r => k (v :: r)
theorem fL_eq : ∀ (l : List V) (k : List V → Prop), fL l k = k l
  | [], k => rfl
  | v :: r, k => by simp only [fL, fL_eq r]
def fV (v : V) (k : V → Prop) : Prop := match v with
  | .ag cs => fL cs fun cs => k (.ag cs)
  | .tu cs => fL cs fun cs => k (.tu cs)
  | v => fV1 v k
theorem fV_eq (v : V) (k : V → Prop) : fV v k = k v := by
  cases v <;> simp only [fV, fV1_eq, fL_eq]
def fO (o : Option O) (k : Option O → Prop) : Prop := match o with
  | none => k none
  | some (.c cs z t) => fL cs fun cs => k (some (.c cs z t))
  | some (.t e) => k (some (.t e))
  | some (.x o) => k (some (.x o))
theorem fO_eq (o : Option O) (k : Option O → Prop) : fO o k = k o := by
  cases o with
  | none => rfl
  | some o => cases o <;> simp only [fO, fL_eq]
def fT (t : Tr O) (k : Tr O → Prop) : Prop := match t with
  | .e => k .e
  | .n l x r => fT l fun l => fO x fun x => fT r fun r => k (.n l x r)
theorem fT_eq : ∀ (t : Tr O) (k : Tr O → Prop), fT t k = k t
  | .e, k => rfl
  | .n l x r, k => by simp only [fT, fT_eq l, fO_eq, fT_eq r]
def fGl (g : List Nat) (k : List Nat → Prop) : Prop := match g with
  | [] => k []
  | a :: r => k (a :: r)
theorem fGl_eq (g : List Nat) (k : List Nat → Prop) : fGl g k = k g := by cases g <;> rfl
def fS (s : St) (k : St → Prop) : Prop := match s with
  | ⟨h, n, g⟩ => fN n fun n => fGl g fun g => fT h fun h => k ⟨h, n, g⟩
theorem fS_eq (s : St) (k : St → Prop) : fS s k = k s := by cases s; simp only [fS, fT_eq, fN_eq, fGl_eq]
def fSet (e : List V) (d : Nat) (v : V) (k : List V → Prop) : Prop := match e with
  | [] => k []
  | x :: r => match d with
    | 0 => k (v :: r)
    | d + 1 => fSet r d v fun r => k (x :: r)
theorem fSet_eq : ∀ (e : List V) (d : Nat) (v : V) (k : List V → Prop), fSet e d v k = k (e.set d v)
  | [], d, v, k => by simp [fSet]
  | x :: r, 0, v, k => by simp [fSet]
  | x :: r, d + 1, v, k => by simp only [fSet, fSet_eq r d]; rfl
def fSetD (e : List V) (d : Option Nat) (v : V) (k : List V → Prop) : Prop := match d with
  | some d => fSet e d v k
  | none => k e
theorem fSetD_eq (e : List V) (d : Option Nat) (v : V) (k : List V → Prop) : fSetD e d v k = k (setD e d v) := by
  cases d <;> simp only [fSetD, fSet_eq, setD]
section
variable {gt : Nat → Option V} {P : Program} {wf : Nat → Nat → Bool} {e : List V} {s : St} {Q : X → List V → St → Prop}
def fTake (cs : List V) (n : Nat) (k : List V → Prop) : Prop := match n with
  | 0 => k []
  | n + 1 => (match cs with
    | c :: r => fTake r n fun l => k (c :: l)
    | [] => False)
theorem fTake_ok : ∀ (n : Nat) (cs : List V) (k : List V → Prop), fTake cs n k → n ≤ cs.length ∧ k (cs.take n)
  | 0, cs, k, h => ⟨Nat.zero_le _, by simpa [fTake] using h⟩
  | n + 1, [], k, h => by simp [fTake] at h
  | n + 1, c :: r, k, h => by
    obtain ⟨h1, h2⟩ := fTake_ok n r _ h
    exact ⟨by simpa using h1, h2⟩
def fDrop (cs : List V) (o n : Nat) (k : List V → Prop) : Prop := match o with
  | 0 => fTake cs n k
  | o + 1 => (match cs with
    | _ :: r => fDrop r o n k
    | [] => False)
theorem fDrop_ok (n : Nat) : ∀ (o : Nat) (cs : List V) (k : List V → Prop), fDrop cs o n k → o + n ≤ cs.length ∧ k ((cs.drop o).take n)
  | 0, cs, k, h => by
    unfold fDrop at h
    obtain ⟨h1, h2⟩ := fTake_ok n cs k h
    exact ⟨by omega, h2⟩
  | o + 1, [], k, h => by simp [fDrop] at h
  | o + 1, c :: r, k, h => by
    obtain ⟨h1, h2⟩ := fDrop_ok n o r k h
    exact ⟨by simp; omega, h2⟩
def lenIs (cs : List V) (n : Nat) : Bool := match n with
  | 0 => (match cs with | [] => true | _ :: _ => false)
  | n + 1 => (match cs with | [] => false | _ :: r => lenIs r n)
theorem lenIs_ok : ∀ (n : Nat) (cs : List V), lenIs cs n = true → cs.length = n
  | 0, [], _ => rfl
  | n + 1, _ :: r, h => by simp [lenIs_ok n r h]
  | 0, _ :: _, h => by simp [lenIs] at h
  | n + 1, [], h => by simp [lenIs] at h
def fOver (cs vs : List V) (k : List V → Prop) : Prop := match vs with
  | [] => k cs
  | v :: vs => (match cs with
    | _ :: r => fOver r vs fun l => k (v :: l)
    | [] => False)
theorem fOver_ok : ∀ (vs cs : List V) (k : List V → Prop), fOver cs vs k → vs.length ≤ cs.length ∧ k (vs ++ cs.drop vs.length)
  | [], cs, k, h => ⟨Nat.zero_le _, by simpa [fOver] using h⟩
  | v :: vs, [], k, h => by simp [fOver] at h
  | v :: vs, c :: r, k, h => by
    obtain ⟨h1, h2⟩ := fOver_ok vs r _ h
    exact ⟨by simpa using h1, h2⟩
def fPut (cs : List V) (o : Nat) (vs : List V) (k : List V → Prop) : Prop := match o with
  | 0 => fOver cs vs k
  | o + 1 => (match cs with
    | c :: r => fPut r o vs fun l => k (c :: l)
    | [] => False)
theorem fPut_ok (vs : List V) : ∀ (o : Nat) (cs : List V) (k : List V → Prop), fPut cs o vs k → o + vs.length ≤ cs.length ∧ k (cs.take o ++ (vs ++ cs.drop (o + vs.length)))
  | 0, cs, k, h => by
    unfold fPut at h
    obtain ⟨h1, h2⟩ := fOver_ok vs cs k h
    exact ⟨by omega, by simpa using h2⟩
  | o + 1, [], k, h => by simp [fPut] at h
  | o + 1, c :: r, k, h => by
    obtain ⟨h1, h2⟩ := fPut_ok vs o r _ h
    refine ⟨by simp; omega, ?_⟩
    rw [show o + 1 + vs.length = (o + vs.length) + 1 by omega]
    exact h2
theorem setAt_take : ∀ (vs : List V) (cs : List V) (o : Nat), o + vs.length ≤ cs.length → setAt cs o vs = cs.take o ++ (vs ++ cs.drop (o + vs.length))
  | [], cs, o, h => by simp [setAt]
  | v :: vs, cs, o, h => by
    have h : o + (vs.length + 1) ≤ cs.length := h
    rw [setAt, setAt_take vs (cs.set o v) (o + 1) (by simp; omega)]
    rw [List.drop_set_of_lt (by omega), List.take_set, List.take_add_one, List.set_append_right _ _ (by simp; omega)]
    have h2 : cs[o]? = some cs[o] := by simp
    have h3 : (cs.take o).length = o := by simp; omega
    rw [h2, h3]
    simp [Nat.add_comm, Nat.add_left_comm]
def wqStore (e : List V) (s : St) (n : Nat) (a v : Arg) (next : V → St → Prop) : Prop :=
  match a.ev e with
  | .p l o => match s.get l with
    | some (.c cs z ty) => match (v.ev e).isVal with
      | true => match lenIs (v.ev e).cells n with
        | true => match Nat.ble z o with
          | true => fPut cs o (v.ev e).cells fun cs => fS (s.put l (some (.c cs z ty))) fun s => next unV s
          | false => False
        | false => False
      | false => False
    | _ => False
  | _ => False
def wqLoad (e : List V) (s : St) (n : Nat) (a : Arg) (next : V → St → Prop) : Prop :=
  match a.ev e with
  | .p l o => match s.get l with
    | some (.c cs _ _) => fDrop cs o n fun cs => next (.ag cs) s
    | _ => False
  | .q v o => fDrop v.cells o n fun cs => next (.ag cs) s
  | _ => False
theorem wqStore_ok {n : Nat} {a v : Arg} {next : V → St → Prop} (h : wqStore e s n a v next) : ∃ u s', aop e s (.store n a v) = some (u, s') ∧ next u s' := by
  unfold wqStore at h
  split at h
  · rename_i l o ha
    split at h
    · rename_i cs z ty hs
      split at h
      · rename_i hv
        split at h
        · rename_i hn
          split at h
          · rename_i hz
            obtain ⟨h1, h2⟩ := fPut_ok _ _ _ _ h
            rw [fS_eq] at h2
            have hn := lenIs_ok _ _ hn
            refine ⟨_, _, ?_, h2⟩
            simp only [aop, ha, hs]
            rw [if_pos ⟨hv, hn, by omega, .inr (Nat.le_of_ble_eq_true hz)⟩]
            rw [setAt_take _ _ _ h1]
          · exact h.elim
        · exact h.elim
      · exact h.elim
    · exact h.elim
  · exact h.elim
theorem wqLoad_ok {n : Nat} {a : Arg} {next : V → St → Prop} (h : wqLoad e s n a next) : ∃ u s', aop e s (.loadn n a) = some (u, s') ∧ next u s' := by
  unfold wqLoad at h
  split at h
  · rename_i l o ha
    split at h
    · rename_i cs z ty hs
      obtain ⟨h1, h2⟩ := fDrop_ok _ _ _ _ h
      refine ⟨_, _, ?_, h2⟩
      simp only [aop, ha, hs]
      rw [if_pos h1]
    · exact h.elim
  · rename_i v o ha
    obtain ⟨h1, h2⟩ := fDrop_ok _ _ _ _ h
    refine ⟨_, _, ?_, h2⟩
    simp only [aop, ha]
    rw [if_pos h1]
  · exact h.elim
def fNth (cs : List V) (o : Nat) (k : V → Prop) : Prop := match o with
  | 0 => (match cs with
    | c :: _ => k c
    | [] => False)
  | o + 1 => (match cs with
    | _ :: r => fNth r o k
    | [] => False)
theorem fNth_ok : ∀ (o : Nat) (cs : List V) (k : V → Prop), fNth cs o k → ∃ v, cs[o]? = some v ∧ k v
  | 0, c :: _, k, h => ⟨c, rfl, h⟩
  | 0, [], k, h => by simp [fNth] at h
  | o + 1, _ :: r, k, h => by simpa using fNth_ok o r k h
  | o + 1, [], k, h => by simp [fNth] at h
def wqLoad1 (e : List V) (s : St) (a : Arg) (next : V → St → Prop) : Prop :=
  match a.ev e with
  | .p l o => match s.get l with
    | some (.c cs _ _) => fNth cs o fun v => next v s
    | _ => False
  | .q v o => fNth v.cells o fun v => next v s
  | _ => False
theorem wqLoad1_ok {a : Arg} {next : V → St → Prop} (h : wqLoad1 e s a next) : ∃ u s', aop e s (.load1 a) = some (u, s') ∧ next u s' := by
  unfold wqLoad1 at h
  split at h
  · rename_i l o ha
    split at h
    · rename_i cs z ty hs
      obtain ⟨v, h1, h2⟩ := fNth_ok _ _ _ h
      exact ⟨v, s, by simp only [aop, ha, hs, h1, Option.map_some], h2⟩
    · exact h.elim
  · rename_i v o ha
    obtain ⟨v, h1, h2⟩ := fNth_ok _ _ _ h
    exact ⟨v, s, by simp only [aop, ha, h1, Option.map_some], h2⟩
  · exact h.elim
def wqA (e : List V) (s : St) (y : A) (next : V → St → Prop) : Prop :=
  match y with
  | .pick c a b => match c.ev e with
    | .b t => brB t (next (a.ev e) s) (next (b.ev e) s)
    | _ => False
  | .ia sz x i => match x.ev e with
    | .pu z xs _ => (match i.ev e with
      | .i _ k => z = sz ∧ 0 ≤ k ∧ ∃ m, xs[k.toNat]? = some m ∧ next (.q m 0) s
      | _ => False)
    | .sl z l o n _ => (match i.ev e with
      | .i _ k => z = sz ∧ 0 ≤ k ∧ k < n ∧ next (.p l (o + k.toNat * sz)) s
      | _ => False)
    | _ => False
  | .idxS x i => match x.ev e with
    | .s l => (match i.ev e with
      | .i _ k => 0 ≤ k ∧ ∃ b, l[k.toNat]? = some b ∧ next (.i .u8 b.toNat) s
      | _ => False)
    | _ => False
  | .eql neg (.g ks) x y => match x.ev e with
    | .ag a => (match y.ev e with
      | .ag b => (match gEq ks a b with
        | some r => (match neg with | true => next (.b !r) s | false => next (.b r) s)
        | none => False)
      | _ => False)
    | _ => False
  | .eql neg kd x y => match peq kd (x.ev e) (y.ev e) with
    | some r => (match neg with | true => next (.b !r) s | false => next (.b r) s)
    | none => False
  | .slc sz x l h m => ∃ v s', aop e s (.slc sz x l h m) = some (v, s') ∧ next v s'
  | .slS x l h => ∃ v s', aop e s (.slS x l h) = some (v, s') ∧ next v s'
  | .slA sz len x l h m => ∃ v s', aop e s (.slA sz len x l h m) = some (v, s') ∧ next v s'
  | .app t w ag sz bytes x y => ∃ v s', aop e s (.app t w ag sz bytes x y) = some (v, s') ∧ next v s'
  | .cpy sz x y => ∃ v s', aop e s (.cpy sz x y) = some (v, s') ∧ next v s'
  | .mks t sz bytes z n c => ∃ v s', aop e s (.mks t sz bytes z n c) = some (v, s') ∧ next v s'
  | .b2s x => ∃ v s', aop e s (.b2s x) = some (v, s') ∧ next v s'
  | .bin .quo x y => ∃ v, binV .quo (x.ev e) (y.ev e) = some v ∧ next v s
  | .bin .rem x y => ∃ v, binV .rem (x.ev e) (y.ev e) = some v ∧ next v s
  | .bin op x y => match x.ev e with
    | .s a => ∃ v, binV op (.s a) (y.ev e) = some v ∧ next v s
    | xv => match binV op xv (y.ev e) with
      | some v => next v s
      | none => False
  | .store n a v => wqStore e s n a v next
  | .loadn n a => wqLoad e s n a next
  | .load1 a => wqLoad1 e s a next
  | .alloc t z => match s with
    | ⟨h, n, g⟩ => fS ⟨Tr.put (some (.c z 0 (some t))) (n + 1) h n, n + 1, g⟩ fun s => next (.p n 0) s
  | y => match aop e s y with
    | some (v, s') => next v s'
    | none => False
theorem wqA_ok {y : A} {next : V → St → Prop} (h : wqA e s y next) : ∃ v s', aop e s y = some (v, s') ∧ next v s' := by
  unfold wqA at h
  split at h
  · split at h
    · rename_i t ht
      cases t
      · exact ⟨_, s, by simp only [aop, ht], h.f rfl⟩
      · exact ⟨_, s, by simp only [aop, ht], h.t rfl⟩
    · exact h.elim
  · split at h
    · rename_i z xs c hx
      split at h
      · rename_i kk k hi
        obtain ⟨rfl, h1, m, h2, h3⟩ := h
        exact ⟨_, s, by simp only [aop, hx, hi]; simp [h1, h2], h3⟩
      · exact h.elim
    · rename_i z l o n c hx
      split at h
      · rename_i kk k hi
        obtain ⟨rfl, h1, h2, h3⟩ := h
        exact ⟨_, s, by simp only [aop, hx, hi]; simp [h1, h2], h3⟩
      · exact h.elim
    · exact h.elim
  · split at h
    · rename_i l hx
      split at h
      · rename_i kk k hi
        obtain ⟨h1, b, h2, h3⟩ := h
        exact ⟨_, s, by simp only [aop, hx, hi]; simp [h1, h2], h3⟩
      · exact h.elim
    · exact h.elim
  · rename_i neg ks x y
    split at h
    · rename_i a hx
      split at h
      · rename_i b hy
        split at h
        · rename_i r hr
          obtain ⟨h1, h2, h3⟩ := gEq_veqs ks a b r hr
          split at h
          · exact ⟨_, s, by simp only [aop, hx, hy, peq, h2, h3, and_self, if_true, h1, Option.map_some], h⟩
          · exact ⟨_, s, by simp only [aop, hx, hy, peq, h2, h3, and_self, if_true, h1, Option.map_some, Bool.false_eq_true, if_false], h⟩
        · exact h.elim
      · exact h.elim
    · exact h.elim
  · split at h
    · rename_i r hr
      split at h
      · exact ⟨_, s, by simp only [aop, hr, Option.map_some, if_true], h⟩
      · exact ⟨_, s, by simp only [aop, hr, Option.map_some, Bool.false_eq_true, if_false], h⟩
    · exact h.elim
  all_goals first
    | exact wqStore_ok h
    | exact wqLoad_ok h
    | exact wqLoad1_ok h
    | exact h
    | (cases s; simp only [fS_eq] at h; exact ⟨_, _, rfl, h⟩)
    | (obtain ⟨v, h1, h2⟩ := h; exact ⟨v, s, by simp only [aop, h1, Option.map_some], h2⟩)
    | (split at h
       · rename_i a hx
         obtain ⟨v, h1, h2⟩ := h; exact ⟨v, s, by simp only [aop, hx, h1, Option.map_some], h2⟩
       · split at h
         · rename_i v hv; exact ⟨v, s, by simp only [aop, hv, Option.map_some], h⟩
         · exact h.elim)
    | (split at h
       · rename_i v s' hk; exact ⟨v, s', hk, h⟩
       · exact h.elim)
def wqK (gt : Nat → Option V) (P : Program) (e : List V) (s : St) (k : K) (next : V → St → Prop) : Prop :=
  match k with
  | .a y => wqA e s y next
  | .call f args => ∃ v s', Den gt P f (args.map (·.ev e)) s v s' ∧ next v s'
  | .callv f args => match f.ev e with
    | .fn g cap => callOk P g = true ∧ ∃ v s', Den gt P g (args.map (·.ev e) ++ cap) s v s' ∧ next v s'
    | _ => False
  | .pan _ => False
  | .bad => False
theorem wqK_ok {k : K} {next : V → St → Prop} (h : wqK gt P e s k next) : ∃ v s', KRun gt P e s k v s' ∧ next v s' := by
  cases k with
  | a y => exact wqA_ok h
  | call f args => exact h
  | callv f args =>
    simp only [wqK] at h
    split at h
    · rename_i g cap hf
      obtain ⟨h0, v, s', h1, h2⟩ := h
      exact ⟨v, s', ⟨g, cap, hf, h0, h1⟩, h2⟩
    · exact h.elim
  | pan x => exact h.elim
  | bad => exact h.elim
def Good (s : St) : Prop := (∀ l o, s.get l = some o → s.L l) ∧ ∀ l ∈ s.g, l < s.n
theorem Cf.good {c : C} (h : Good s → Cf gt P wf c e s Q) : Cf gt P wf c e s Q := fun code hc cxb wb cx w act N =>
  h ⟨fun l o hg => N.R.name_L hg, N.R.gl⟩ code hc cxb wb cx w act N
theorem Cf.goods {c : C} (h : Cf gt P wf c e s fun x e' s' => Good s' → Q x e' s') : Cf gt P wf c e s Q := fun code hc cxb wb cx w act N =>
  wp_mono (h code hc cxb wb cx w act N) fun _ _ _ ⟨x, e', s', cx', h1, h2, h3⟩ => ⟨x, e', s', cx', h1, h2 ⟨fun l o hg => h3.R.name_L hg, h3.R.gl⟩, h3⟩
def finq (rs : List Rs) (v : V) (x : X) (e : List V) (s : St) : Prop :=
  match x with
  | .exit _ => False
  | _ => match resV e s rs with
    | some vs => fL vs fun vs => fV (packV vs) fun u => u = v
    | none => False
theorem finq_fin {rs : List Rs} {v : V} {x : X} {e : List V} {s : St} (h : finq rs v x e s) : fin rs v x e s := by
  unfold finq at h
  unfold fin
  split at h
  · exact h.elim
  · split
    · rename_i h0; exact (h0 _ rfl).elim
    · split at h
      · rename_i vs hvs; rw [hvs]; simpa only [fL_eq, fV_eq] using h
      · exact h.elim
structure HO (gt : Nat → Option V) (P : Program) (l : List I) (e : List V) (s : St) (next : List V → St → Prop) : Prop where
  out : RunN gt P next l e s
structure HD (gt : Nat → Option V) (P : Program) (hist : List St) (l : List (Nat × I)) (e : List V) (s : St) (next : List V → St → Prop) : Prop where
  out : RunDN gt P next hist l e s
structure HC (gt : Nat → Option V) (P : Program) (c : C) (e : List V) (s : St) (Q : X → List V → St → Prop) : Prop where
  out : ∀ wf, Cf gt P wf c e s Q
def hN (gt : Nat → Option V) (P : Program) (d : Option Nat) (r : List I) (next : List V → St → Prop) (e : List V) (v : V) (s' : St) : Prop :=
  fV v fun v => fSetD e d v fun e => HO gt P r e s' next
def hG (gt : Nat → Option V) (P : Program) (t : Nat) (w : Bool) (d : Option Nat) (k : K) (r : List I) (next : List V → St → Prop) (e : List V) (s : St) (v : V) : Prop := match v with
  | .b b => match w with
    | true => brB b (fSet e t (.b true) fun e => wqK gt P e s k (hN gt P d r next e)) (fSet e t (.b false) fun e => fSetD e d unV fun e => HO gt P r e s next)
    | false => brB b (fSet e t (.b true) fun e => fSetD e d unV fun e => HO gt P r e s next) (fSet e t (.b false) fun e => wqK gt P e s k (hN gt P d r next e))
  | .bad => False
  | _ => fSetD e d unV fun e => HO gt P r e s next
theorem HO.nil {next : List V → St → Prop} (h : next e s) : HO gt P [] e s next := ⟨.nil h⟩
theorem HO.op {d : Option Nat} {g : Option (Nat × Bool)} {k : K} {r : List I} {next : List V → St → Prop} (hw : wanted e g = some true) (h : wqK gt P e s k (hN gt P d r next e)) : HO gt P ({ d := d, g := g, k := k } :: r) e s next := by
  obtain ⟨v, s1, h1, h2⟩ := wqK_ok h
  simp only [hN, fV_eq, fS_eq, fSetD_eq] at h2
  exact ⟨.op v s1 hw h1 h2.out⟩
theorem HO.no {d : Option Nat} {g : Option (Nat × Bool)} {k : K} {r : List I} {next : List V → St → Prop} (hw : wanted e g = some false) (h : fSetD e d unV fun e => HO gt P r e s next) : HO gt P ({ d := d, g := g, k := k } :: r) e s next := by
  rw [fSetD_eq] at h
  exact ⟨.skip hw h.out⟩
theorem HO.k {d : Option Nat} {k : K} {r : List I} {next : List V → St → Prop} (h : wqK gt P e s k (hN gt P d r next e)) : HO gt P ({ d := d, g := none, k := k } :: r) e s next := HO.op rfl h
theorem HO.g {d : Option Nat} {t : Nat} {w : Bool} {k : K} {r : List I} {next : List V → St → Prop} (h : hG gt P t w d k r next e s (e.getD t unV)) : HO gt P ({ d := d, g := some (t, w), k := k } :: r) e s next := by
  unfold hG at h
  split at h
  · rename_i b hb
    cases hb' : b
    · subst hb'
      cases w
      · have h := h.f rfl
        rw [fSet_eq, set_self hb] at h
        exact HO.op (by simp only [wanted, hb]; rfl) h
      · have h := h.f rfl
        rw [fSet_eq, set_self hb] at h
        exact HO.no (by simp only [wanted, hb]; rfl) h
    · subst hb'
      cases w
      · have h := h.t rfl
        rw [fSet_eq, set_self hb] at h
        exact HO.no (by simp only [wanted, hb]; rfl) h
      · have h := h.t rfl
        rw [fSet_eq, set_self hb] at h
        exact HO.op (by simp only [wanted, hb]; rfl) h
  · exact h.elim
  · refine HO.no ?_ h
    unfold wanted
    simp only
def hDN (gt : Nat → Option V) (P : Program) (hist : List St) (b : Nat) (d : Option Nat) (k : K) (r : List (Nat × I)) (next : List V → St → Prop) (e : List V) (s : St) (v : V) (s' : St) : Prop :=
  fV v fun v => match k.cls with
    | 2 => fSetD e d v fun e => HD gt P (s :: hist) r e s' next
    | 0 => fSetD e d v fun e => HD gt P hist r e s' next
    | _ => match hist.take b with
      | [] => fSetD e d v fun e => HD gt P hist r e s' next
      | l => stays gt P e v k l ∧ fSetD e d v fun e => HD gt P hist r e s' next
def hDS (gt : Nat → Option V) (P : Program) (hist : List St) (d : Option Nat) (k : K) (r : List (Nat × I)) (next : List V → St → Prop) (s : St) (e : List V) : Prop :=
  fSetD e d unV fun e => HD gt P (match k.cls with | 2 => s :: hist | _ => hist) r e s next
def hDG (gt : Nat → Option V) (P : Program) (hist : List St) (b : Nat) (t : Nat) (w : Bool) (d : Option Nat) (k : K) (r : List (Nat × I)) (next : List V → St → Prop) (e : List V) (s : St) (v : V) : Prop := match v with
  | .b x => match w with
    | true => brB x (fSet e t (.b true) fun e => wqK gt P e s k (hDN gt P hist b d k r next e s)) (fSet e t (.b false) (hDS gt P hist d k r next s))
    | false => brB x (fSet e t (.b true) (hDS gt P hist d k r next s)) (fSet e t (.b false) fun e => wqK gt P e s k (hDN gt P hist b d k r next e s))
  | .bad => False
  | _ => hDS gt P hist d k r next s e
theorem HD.nil {hist : List St} {next : List V → St → Prop} (h : next e s) : HD gt P hist [] e s next := ⟨.nil h⟩
theorem HD.op {hist : List St} {b : Nat} {d : Option Nat} {g : Option (Nat × Bool)} {k : K} {r : List (Nat × I)} {next : List V → St → Prop} (hw : wanted e g = some true) (h : wqK gt P e s k (hDN gt P hist b d k r next e s)) : HD gt P hist ((b, { d := d, g := g, k := k }) :: r) e s next := by
  obtain ⟨v, s1, h1, h2⟩ := wqK_ok h
  simp only [hDN, fV_eq, fS_eq, fSetD_eq] at h2
  split at h2
  · rename_i hc
    exact ⟨.op2 v s1 hw hc h1 h2.out⟩
  · rename_i hc
    obtain ⟨hs, ht⟩ := krun_cls0 hc h1
    subst hs
    exact ⟨.op0 v hw (by show k.cls ≠ 2; omega) h1 (fun t _ => ht t) h2.out⟩
  · rename_i hc2 hc0
    have hs := krun_cls hc2 h1
    subst hs
    split at h2
    · rename_i hl
      exact ⟨.op0 v hw hc2 h1 (fun t ht => by rw [hl] at ht; simp at ht) h2.out⟩
    · exact ⟨.op0 v hw hc2 h1 (stays_ok hc2 h2.1) h2.2.out⟩
theorem HD.no {hist : List St} {b : Nat} {d : Option Nat} {g : Option (Nat × Bool)} {k : K} {r : List (Nat × I)} {next : List V → St → Prop} (hw : wanted e g = some false) (h : hDS gt P hist d k r next s e) : HD gt P hist ((b, { d := d, g := g, k := k }) :: r) e s next := by
  unfold hDS at h
  rw [fSetD_eq] at h
  have h3 := h.out
  refine ⟨.skip hw ?_⟩
  split at h3
  · rename_i hc; rw [if_pos hc]; exact h3
  · rename_i hc; rw [if_neg hc]; exact h3
theorem HD.k {hist : List St} {b : Nat} {d : Option Nat} {k : K} {r : List (Nat × I)} {next : List V → St → Prop} (h : wqK gt P e s k (hDN gt P hist b d k r next e s)) : HD gt P hist ((b, { d := d, g := none, k := k }) :: r) e s next := HD.op rfl h
theorem HD.g {hist : List St} {b : Nat} {d : Option Nat} {t : Nat} {w : Bool} {k : K} {r : List (Nat × I)} {next : List V → St → Prop} (h : hDG gt P hist b t w d k r next e s (e.getD t unV)) : HD gt P hist ((b, { d := d, g := some (t, w), k := k }) :: r) e s next := by
  unfold hDG at h
  split at h
  · rename_i x hb
    cases hb' : x
    · subst hb'
      cases w
      · have h := h.f rfl
        rw [fSet_eq, set_self hb] at h
        exact HD.op (by simp only [wanted, hb]; rfl) h
      · have h := h.f rfl
        rw [fSet_eq, set_self hb] at h
        exact HD.no (by simp only [wanted, hb]; rfl) h
    · subst hb'
      cases w
      · have h := h.t rfl
        rw [fSet_eq, set_self hb] at h
        exact HD.no (by simp only [wanted, hb]; rfl) h
      · have h := h.t rfl
        rw [fSet_eq, set_self hb] at h
        exact HD.op (by simp only [wanted, hb]; rfl) h
  · exact h.elim
  · refine HD.no ?_ h
    unfold wanted
    simp only
def hS (gt : Nat → Option V) (P : Program) (b : C) (Q : X → List V → St → Prop) (x : X) (e : List V) (s : St) : Prop := match x with
  | .nrm => HC gt P b e s Q
  | x => Q x e s
def hB (id : Nat) (Q : X → List V → St → Prop) (x : X) (e : List V) (s : St) : Prop := match x with
  | .exit i => (match Nat.beq i id with
    | true => Q .nrm e s
    | false => Q (.exit i) e s)
  | x => Q x e s
def hT (gt : Nat → Option V) (P : Program) (v : V) (a b : C) (e : List V) (s : St) (Q : X → List V → St → Prop) : Prop := match v with
  | .b t => brB t (HC gt P a e s Q) (HC gt P b e s Q)
  | _ => False
def hL (Inv : Nat → List V → St → Prop) (n : Nat) (Q : X → List V → St → Prop) (x : X) (e : List V) (s : St) : Prop := match x with
  | .nrm => Good s → ∃ m e1 s1, m < n ∧ Wk e1 s1 e s ∧ Inv m e1 s1
  | x => Q x e s
theorem HC.skip (h : Q .nrm e s) : HC gt P .skip e s Q := ⟨fun _ => (Co.skip h).cf⟩
theorem HC.exit {id : Nat} (h : Q (.exit id) e s) : HC gt P (.exit id) e s Q := ⟨fun _ => (Co.exit h).cf⟩
theorem HC.ret (h : Q .ret e s) : HC gt P .ret e s Q := ⟨fun _ => (Co.ret h).cf⟩
theorem HC.ops {l : List I} (h : HO gt P l e s (Q .nrm)) : HC gt P (.ops l) e s Q := ⟨fun _ => (Co.opsN h.out).cf⟩
theorem HC.seq {a b : C} (h : HC gt P a e s (hS gt P b Q)) : HC gt P (.seq a b) e s Q := ⟨fun wf => Cf.seq ((h.out wf).mono fun x e' s' h1 => by
  cases x with
  | nrm => exact HC.out h1 wf
  | _ => exact h1)⟩
theorem HC.blk {id : Nat} {a : C} (h : HC gt P a e s (hB id Q)) : HC gt P (.blk id a) e s Q := ⟨fun wf => Cf.blk ((h.out wf).mono fun x e' s' h1 => by
  cases x with
  | exit i =>
    simp only [hB] at h1
    cases hb : Nat.beq i id with
    | true => rw [hb] at h1; simp only; rw [if_pos (Nat.eq_of_beq_eq_true hb)]; exact h1
    | false => rw [hb] at h1; simp only; rw [if_neg (Nat.ne_of_beq_eq_false hb)]; exact h1
  | _ => exact h1)⟩
theorem HC.cond {c : Arg} {a b : C} (h : hT gt P (c.ev e) a b e s Q) : HC gt P (.cond c a b) e s Q := ⟨fun wf => by
  unfold hT at h
  split at h
  · rename_i t ht
    refine Cf.cond ht ?_
    cases t
    · exact (h.f rfl).out wf
    · exact (h.t rfl).out wf
  · exact h.elim⟩
theorem HC.loop (hgt : GNm gt) {a : C} (h : Good s → ∃ (Inv : Nat → List V → St → Prop), (∃ n e0 s0, Wk e0 s0 e s ∧ Inv n e0 s0) ∧ ∀ n e s, Inv n e s → HC gt P a e s (hL Inv n Q)) : HC gt P (.loop a) e s Q := ⟨fun wf => by
  refine Cf.good fun hg => ?_
  obtain ⟨Inv, ⟨n, e0, s0, hk, h0⟩, hr⟩ := h hg
  refine Cf.pre hgt hk ?_
  refine Cf.loop hgt Inv h0 fun n e s hi => Cf.goods (((hr n e s hi).out wf).mono fun x e' s' h1 => ?_)
  cases x with
  | nrm => exact h1
  | _ => exact fun _ => h1⟩
theorem PDen.hc {f : FuncId} {F : F} {args : List V} {v : V} (hgt : GNm gt) (hF : cF gt P wf f = some F) (ha : ∀ x ∈ args, Nm s0.L x) (hn : Nm s0.L v)
    (h : HC gt P F.body (args ++ List.replicate (F.nt - args.length) unV) s0 (finq F.res v)) : PDen gt P f args v :=
  PDen.of hgt hF ha hn ((h.out wf).mono fun _ _ _ h => fin_ok (finq_fin h))
end
end Rf
namespace Rf
open Go
section
variable {gt : Nat → Option V} {P : Program}
end
end Rf
namespace Rf
open Go
section
variable {gt : Nat → Option V} {P : Program}
end
end Rf
namespace Rf
open Go
theorem Good.put {s : St} {l : Nat} {o o' : O} (h : Good s) (hg : s.get l = some o) : Good (s.put l (some o')) := by
  refine ⟨fun j x hx => ?_, h.2⟩
  by_cases e : j = l
  · subst e; exact h.1 j o hg
  · rw [St.get_put_ne _ _ _ _ e] at hx; exact h.1 j x hx
theorem Good.new {s : St} {o : O} (h : Good s) : Good (s.new o) := by
  refine ⟨fun j x hx => ?_, fun l hl => Nat.lt_succ_of_lt (h.2 l hl)⟩
  by_cases e : j = s.n
  · subst e; exact St.new_L0 _ h.2
  · rw [St.get_new_ne _ _ _ e] at hx; exact St.new_L _ (h.1 j x hx)
section
variable {gt : Nat → Option V} {P : Program}
theorem setAt_all {cs z : List V} (h : cs.length = z.length) : setAt z 0 cs = cs := by
  rw [setAt_take cs z 0 (by omega)]
  simp [h]
theorem aop_bsl1 {e : List V} {s : St} {t sz : Nat} {z cs : List V} {x : Arg} (hx : x.ev e = .ag cs) (hz : z.length = sz) (hc : cs.length = sz) : aop e s (.bsl t true true 1 sz z [(0, sz, x)]) = some (.pu sz [.ag cs] (.x 1), s) := by
  have hr : (List.replicate 1 z).flatten = z := by simp
  have hcl : (V.ag cs).cells = cs := rfl
  have hf : fillp e z [(0, sz, x)] = some cs := by
    simp only [fillp, hx, hcl]
    rw [if_pos ⟨rfl, hc, by omega⟩, setAt_all (by omega)]
  simp only [aop, hr, hf, chunks, mkEl, if_true]
  rw [List.take_of_length_le (by omega)]
theorem HO.bsl1 {e : List V} {s : St} {d : Option Nat} {t sz : Nat} {z cs : List V} {x : Arg} {r : List I} {next : List V → St → Prop} (hx : x.ev e = .ag cs) (hz : z.length = sz) (hc : cs.length = sz) (h : fSetD e d (.pu sz [.ag cs] (.x 1)) fun e => HO gt P r e s next) :
    HO gt P ({ d := d, g := none, k := .a (.bsl t true true 1 sz z [(0, sz, x)]) } :: r) e s next := by
  rw [fSetD_eq] at h
  exact ⟨.op _ s rfl (aop_bsl1 hx hz hc) h.out⟩
end
end Rf
namespace Rf
open Go
section
variable {gt : Nat → Option V} {P : Program} {e : List V} {s : St}
theorem HO.opA {d : Option Nat} {k : K} {r : List I} {next : List V → St → Prop} {v : V} {s1 : St} (hk : KRun gt P e s k v s1) (h : fSetD e d v fun e => HO gt P r e s1 next) : HO gt P ({ d := d, g := none, k := k } :: r) e s next := by
  rw [fSetD_eq] at h
  exact ⟨.op v s1 rfl hk h.out⟩
theorem HO.gA {d : Option Nat} {t : Nat} {w : Bool} {k : K} {r : List I} {next : List V → St → Prop} {v : V} {s1 : St} (hw : e.getD t unV = .b w) (hk : KRun gt P e s k v s1) (h : fSetD e d v fun e => HO gt P r e s1 next) : HO gt P ({ d := d, g := some (t, w), k := k } :: r) e s next := by
  rw [fSetD_eq] at h
  refine ⟨.op v s1 ?_ hk h.out⟩
  simp only [wanted, hw, beq_self_eq_true]
theorem krun_load1 {a : Arg} {l o z : Nat} {cs : List V} {ty : Option Nat} {v : V} (ha : a.ev e = .p l o) (hg : s.get l = some (.c cs z ty)) (hc : cs[o]? = some v) : KRun gt P e s (.a (.load1 a)) v s := by
  show aop e s (.load1 a) = _
  simp only [aop, ha, hg, hc, Option.map_some]
theorem krun_store {n l o z : Nat} {a x : Arg} {cs cs' : List V} {ty : Option Nat} {v : V} (ha : a.ev e = .p l o) (hx : x.ev e = v) (hg : s.get l = some (.c cs z ty)) (hv : v.isVal = true) (hn : v.cells.length = n) (hz : z ≤ o) (ho : o + n ≤ cs.length) (hc : setAt cs o v.cells = cs') : KRun gt P e s (.a (.store n a x)) unV (s.put l (some (.c cs' z ty))) := by
  subst hc hx
  show aop e s (.store n a x) = _
  simp only [aop, ha, hg]
  rw [if_pos ⟨hv, hn, ho, .inr hz⟩]
theorem krun_alloc {t : Nat} {z : List V} : KRun gt P e s (.a (.alloc t z)) (.p s.n 0) (s.new (.c z 0 (some t))) := rfl
theorem HD.opA2 {hist : List St} {b : Nat} {d : Option Nat} {k : K} {r : List (Nat × I)} {next : List V → St → Prop} {v : V} {s1 : St} (hk : KRun gt P e s k v s1) (hc : k.cls = 2) (h : fSetD e d v fun e => HD gt P (s :: hist) r e s1 next) : HD gt P hist ((b, { d := d, g := none, k := k }) :: r) e s next := by
  rw [fSetD_eq] at h
  exact ⟨.op2 v s1 rfl hc hk h.out⟩
theorem HD.opA0 {hist : List St} {b : Nat} {d : Option Nat} {k : K} {r : List (Nat × I)} {next : List V → St → Prop} {v : V} (hk : KRun gt P e s k v s) (hc : k.cls ≠ 2) (hb : ∀ t ∈ hist.take b, KRun gt P e t k v t) (h : fSetD e d v fun e => HD gt P hist r e s next) : HD gt P hist ((b, { d := d, g := none, k := k }) :: r) e s next := by
  rw [fSetD_eq] at h
  exact ⟨.op0 v rfl hc hk hb h.out⟩
structure Is (s : St) (os : List O) : Prop where
  n : s.n = os.length
  g : s.g = []
  o : ∀ l, s.get l = os[l]?
end
end Rf
namespace Rf
open Go
inductive Nth : List V → Nat → V → Prop
  | zero {v : V} {r : List V} : Nth (v :: r) 0 v
  | succ {x v : V} {r : List V} {n : Nat} (h : Nth r n v) : Nth (x :: r) (n + 1) v
theorem Nth.get {e : List V} {n : Nat} {v : V} (h : Nth e n v) : e.getD n unV = v := by
  induction h with
  | zero => rfl
  | succ _ ih => simpa using ih
section
variable {gt : Nat → Option V} {P : Program} {e : List V} {s : St}
theorem krun_mov {t : Nat} {v : V} (h : Nth e t v) : KRun gt P e s (.a (.mov (.t t))) v s := by
  show aop e s (.mov (.t t)) = _
  simp only [aop, Arg.ev, h.get]
theorem krun_nilc {x : Arg} {l o : Nat} (hx : x.ev e = .p l o) : KRun gt P e s (.a (.nilc x)) (.p l o) s := by
  show aop e s (.nilc x) = _
  simp only [aop, hx]
theorem krun_fa {off l o : Nat} {a : Arg} (ha : a.ev e = .p l o) : KRun gt P e s (.a (.fa off a)) (.p l (o + off)) s := by
  show aop e s (.fa off a) = _
  simp only [aop, ha]
theorem krun_load_all {n : Nat} {a : Arg} {l z : Nat} {cs : List V} {ty : Option Nat} (ha : a.ev e = .p l 0) (hg : s.get l = some (.c cs z ty)) (hn : cs.length = n) : KRun gt P e s (.a (.loadn n a)) (.ag cs) s := by
  show aop e s (.loadn n a) = _
  simp only [aop, ha, hg]
  rw [if_pos (by omega)]
  subst hn
  simp
def K.mem : K → Bool
  | .a (.store ..) => true
  | .a (.alloc ..) => true
  | .a (.box _ false _) => true
  | .a (.build ..) => true
  | .a (.bsl _ true false _ _ _ _) => true
  | .a (.load1 ..) => true
  | .a (.loadn ..) => true
  | _ => false
theorem HO.lq1 {d : Option Nat} {a : Arg} {v : V} {o : Nat} {r : List I} {next : List V → St → Prop} (_ : a.ev e = .q v o) (h : wqK gt P e s (.a (.load1 a)) (hN gt P d r next e)) : HO gt P ({ d := d, g := none, k := .a (.load1 a) } :: r) e s next := HO.k h
theorem HO.lqn {d : Option Nat} {n : Nat} {a : Arg} {v : V} {o : Nat} {r : List I} {next : List V → St → Prop} (_ : a.ev e = .q v o) (h : wqK gt P e s (.a (.loadn n a)) (hN gt P d r next e)) : HO gt P ({ d := d, g := none, k := .a (.loadn n a) } :: r) e s next := HO.k h
theorem HD.lqn {hist : List St} {b n : Nat} {d : Option Nat} {a : Arg} {v : V} {o : Nat} {r : List (Nat × I)} {next : List V → St → Prop} (_ : a.ev e = .q v o) (h : wqK gt P e s (.a (.loadn n a)) (hDN gt P hist b d (.a (.loadn n a)) r next e s)) : HD gt P hist ((b, { d := d, g := none, k := .a (.loadn n a) }) :: r) e s next := HD.k h
end
end Rf
namespace Rf
open Go
section
variable {s : St} {d : Nat}
end
end Rf
namespace Rf
open Go
def nmR (p : Nat → Nat) (m : Nat) (a b : Nat) : Bool := Nat.blt b m && Nat.beq a (p b)
def capRn (p : Nat → Nat) (m : Nat) : Cap → Cap → Bool
  | .u, .u => true
  | .z, .z => true
  | .x a, .x b => Nat.beq a b
  | .t a, .t b => nmR p m a b
  | _, _ => false
def renN (p : Nat → Nat) (m : Nat) : Nat → V → V → Bool
  | 0, _, _ => false
  | k + 1, x, y => match x, y with
    | .bad, .bad => true
    | .b a, .b b => a == b
    | .i k a, .i k' b => decide (k = k') && eqZ a b
    | .s a, .s b => a == b
    | .np, .np => true
    | .p l o, .p l' o' => nmR p m l l' && Nat.beq o o'
    | .q v o, .q v' o' => sameL (renN p m k) v.cells v'.cells && Nat.beq o o'
    | .ns, .ns => true
    | .sl z l o n c, .sl z' l' o' n' c' => Nat.beq z z' && nmR p m l l' && Nat.beq o o' && Nat.beq n n' && decide (c = c')
    | .se z l, .se z' l' => Nat.beq z z' && nmR p m l l'
    | .pu z xs c, .pu z' ys c' => Nat.beq z z' && capRn p m c c' && sameL (fun a b => sameL (renN p m k) a.cells b.cells) xs ys
    | .tp a x, .tp b y => Nat.beq a b && Nat.beq x y
    | .nm, .nm => true
    | .m l, .m l' => nmR p m l l'
    | .fn f cs, .fn f' ds => Nat.beq f f' && sameL (renN p m k) cs ds
    | .nf, .nf => true
    | .ifc t v, .ifc t' v' => Nat.beq t t' && renN p m k v v'
    | .ni, .ni => true
    | .ag xs, .ag ys => sameL (renN p m k) xs ys
    | .tu xs, .tu ys => sameL (renN p m k) xs ys
    | .yl l, .yl l' => nmR p m l l'
    | _, _ => false
def lR {α : Type} (q : α → α → Bool) : List α → List α → Bool
  | [], [] => true
  | a :: x, b :: y => q a b && lR q x y
  | _, _ => false
def entR (p : Nat → Nat) (m k : Nat) (a b : V × V × Nat) : Bool := renN p m k a.1 b.1 && (renN p m k a.2.1 b.2.1 && Nat.beq a.2.2 b.2.2)
def oR (p : Nat → Nat) (m k : Nat) : O → O → Bool
  | .c cs z t, .c cs' z' t' => sameL (renN p m k) cs cs' && (Nat.beq z z' && decide (t = t'))
  | .t e, .t e' => Nat.beq e e'
  | .x (.mp es c), .x (.mp es' c') => lR (entR p m k) es es' && Nat.beq c c'
  | .x (.it none a b c), .x (.it none a' b' c') => Nat.beq a a' && (decide (b = b') && Nat.beq c c')
  | .x (.it (some l) a b c), .x (.it (some l') a' b' c') => nmR p m l l' && (Nat.beq a a' && (decide (b = b') && Nat.beq c c'))
  | .x (.df a), .x (.df b) => a == b
  | _, _ => false
def Tr.allK {α : Type} (q : Nat → α → Bool) : Nat → Nat → Tr α → Bool
  | _, _, .e => true
  | a, b, .n l x r => (match x with
    | none => true
    | some y => q b y) && (Tr.allK q (2 * a) (a + b) l && Tr.allK q (2 * a) (2 * a + b) r)
def stR (p r : Nat → Nat) (k n0 : Nat) (s s2 : St) : Bool :=
  s2.g.isEmpty && (Nat.ble n0 s2.n && Tr.allK (fun l o2 => Nat.blt l s2.n && (Nat.beq (r (p l)) l && (match s.get (p l) with
    | some o => oR p s2.n k o o2
    | none => false))) 1 0 s2.h)
end Rf
namespace Rf
open Go
structure On where
  i : Nat
  am : Nat
  z : Bool
  x : I
def Sl.l (e : Sl) : List V := (List.range e.m).map e.get
section
variable {gt : Nat → Option V} {P : Program}
variable {ops : Array Oper} {is : List I} {os : List On} {call : Cl}
variable {cxb : Cx} {sb : St} {wb : World} {listed : Array Bool}
open Classical in
end
section
variable {gt : Nat → Option V} {P : Program} {call : Cl} {ops : Array Oper} {is : List I} {os : List On} {cxb : Cx} {sb : St} {wb : World}
end
end Rf
namespace Rf
open Go
inductive D where
  | f (g : Nat) (args : List V)
  | col (l : Nat)
  deriving Inhabited
inductive T where
  | c (c : Code)
  | blk (id : Nat)
  | lp (c : Code)
  | reg (ops : Array Oper) (i : Nat) (r : List Oper) (is : List I)
  | rf (l : Nat)
  | erf (l : Nat)
  | br
inductive Md where
  | run
  | ret
  | pan (ch : List (V × Bool))
structure AF where
  f : Nat
  e : Sl
  k : List T
  ds : List D
  md : Md
  kd : Bool
  ro : Option Nat
end Rf
namespace Rf
open Go
section
variable (gt : Nat → Option V) (P : Program)
variable {gt P}
section steps
variable {F : Frame} {cs : List Frame} {w w' : World} {ops : Array Oper} {i : Nat} {rest : List Nat} {k : List Item} {o : Oper}
end steps
end
end Rf
namespace Rf
open Go
section
variable {gt : Nat → Option V} {P : Program}
section exec
variable {cx : Cx} {s : St} {w : World} {e : List V} {act : Act} {o : Oper} {wh : Bool}
end exec
end
end Rf
namespace Rf
open Go
section
variable {gt : Nat → Option V} {P : Program}
variable {cx : Cx} {s : St} {w : World} {F : Frame} {al9 : List AF} {Fs : List Frame}
end
end Rf
