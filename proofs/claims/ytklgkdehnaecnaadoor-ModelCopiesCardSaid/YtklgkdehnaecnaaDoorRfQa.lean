/-
  The evaluator over slots in a trie: the kernel runs it faster.
-/
import Derived.Test.YtklgkdehnaecnaaDoorRfQ
set_option linter.all false
set_option linter.unusedSimpArgs false
namespace Rf
open Go

def optM (f : Arg → Arg) : Option Arg → Option Arg
  | some x => some (f x)
  | none => none
def partM (f : Arg → Arg) : List (Nat × Nat × Arg) → List (Nat × Nat × Arg)
  | [] => []
  | (a, b, x) :: r => (a, b, f x) :: partM f r

def A.m (f : Arg → Arg) : A → A
  | .mov x => .mov (f x)
  | .pick c a b => .pick (f c) (f a) (f b)
  | .alloc t z => .alloc t z
  | .box t w x => .box t w (f x)
  | .build z ps => .build z (partM f ps)
  | .bsl t w ag n sz z ps => .bsl t w ag n sz z (partM f ps)
  | .load1 a => .load1 (f a)
  | .loadn n a => .loadn n (f a)
  | .store n a v => .store n (f a) (f v)
  | .nilc x => .nilc (f x)
  | .bin op x y => .bin op (f x) (f y)
  | .eql ng kd x y => .eql ng kd (f x) (f y)
  | .not x => .not (f x)
  | .neg x => .neg (f x)
  | .conv k x => .conv k (f x)
  | .s2b t w x => .s2b t w (f x)
  | .b2s x => .b2s (f x)
  | .fa off x => .fa off (f x)
  | .fld off n x => .fld off n (f x)
  | .ia sz x i => .ia sz (f x) (f i)
  | .iaA sz ln x i => .iaA sz ln (f x) (f i)
  | .idxA sz ag ln x i => .idxA sz ag ln (f x) (f i)
  | .idxS x i => .idxS (f x) (f i)
  | .ext x i => .ext (f x) i
  | .len x => .len (f x)
  | .lenS x => .lenS (f x)
  | .movS x => .movS (f x)
  | .app t w ag sz bytes x y => .app t w ag sz bytes (f x) (f y)
  | .cpy sz x y => .cpy sz (f x) (f y)
  | .mks t sz bytes z n c => .mks t sz bytes z (f n) (f c)
  | .slS x l h => .slS (f x) (optM f l) (optM f h)
  | .slc sz x l h m => .slc sz (f x) (optM f l) (optM f h) (optM f m)
  | .slA sz ln x l h m => .slA sz ln (f x) (optM f l) (optM f h) (optM f m)
  | .mkf g cap => .mkf g (cap.map f)
  | .mki t x => .mki t (f x)
  | .mmx max x y => .mmx max (f x) (f y)
  | .xr x => .xr (f x)
  | .u1 x => .u1 (f x)
  | .u2 t n x => .u2 t n (f x)
  | .usd x => .usd (f x)
  | .ustr t x n => .ustr t (f x) (f n)
  | .cnt x c => .cnt (f x) (f c)
  | .ixb x c => .ixb (f x) (f c)
  | .ym n xs => .ym n (xs.map f)

theorem ev_c (e : List V) (v : V) : Arg.ev e (.c v) = v := rfl

theorem fillp_m (e : List V) : ∀ (ps : List (Nat × Nat × Arg)) (z : List V), fillp [] z (partM (fun x => .c (x.ev e)) ps) = fillp e z ps
  | [], z => by simp [partM, fillp]
  | (a, b, x) :: r, z => by
    simp only [partM, fillp, ev_c, fillp_m e r]

theorem optM_ev (e : List V) (x : Option Arg) : (optM (fun x => .c (x.ev e)) x).map (·.ev []) = x.map (·.ev e) := by
  cases x <;> rfl

theorem aop_m (e : List V) (s : St) (y : A) : aop [] s (y.m fun x => .c (x.ev e)) = aop e s y := by
  cases y <;> simp only [A.m, aop, ev_c, fillp_m, optM_ev]
  case mkf g cap => simp only [List.map_map]; rfl
  case ym n xs => simp only [List.map_map]; rfl
  case box t w x => by_cases hv : (x.ev e).isVal = true <;> simp only [hv, if_true, if_false] <;> cases w <;> rfl
  case store n a v =>
    cases a.ev e <;> rfl
  case slc sz x l h m =>
    cases m with
    | none => rfl
    | some v =>
      simp only [optM]
      cases x.ev e <;> try rfl
      case sl z i o n c => cases c <;> rfl
      case pu z xs c => cases c <;> rfl

def SR (e : Sl) (l : List V) : Prop := l.length = e.m ∧ ∀ t, e.get t = l.getD t unV

theorem SR.set {e : Sl} {l : List V} (h : SR e l) (t : Nat) (v : V) : SR (e.set t v) (l.set t v) := by
  unfold Sl.set
  split
  · rename_i hb
    have hlt : t < e.m := by simpa [Nat.blt_eq] using hb
    refine ⟨by simpa using h.1, fun j => ?_⟩
    by_cases hj : j = t
    · subst hj
      simp only [Sl.get, Tr.get_put_same _ _ _ _ (Nat.lt_succ_self _)]
      have : j < l.length := by rw [h.1]; exact hlt
      simp [List.getD, this]
    · have := h.2 j
      simp only [Sl.get] at this ⊢
      rw [Tr.get_put_ne _ _ _ _ _ _ (Nat.lt_succ_self _) (Nat.lt_succ_self _) hj, this]
      simp only [List.getD]
      rw [List.getElem?_set_ne (Ne.symm hj)]
  · rename_i hb
    have hge : ¬ t < e.m := by
      intro hlt
      have : Nat.blt t e.m = true := by simpa [Nat.blt_eq] using hlt
      rw [this] at hb; cases hb
    rw [List.set_eq_of_length_le (by rw [h.1]; omega)]
    exact h

theorem SR.setD {e : Sl} {l : List V} (h : SR e l) (d : Option Nat) (v : V) : SR (e.setD d v) (Rf.setD l d v) := by
  cases d with
  | none => exact h
  | some d => exact h.set d v

def Arg.sv (e : Sl) : Arg → V
  | .t n => e.get n
  | .c v => v

theorem SR.ev {e : Sl} {l : List V} (h : SR e l) (x : Arg) : x.sv e = x.ev l := by
  cases x with
  | t n => exact h.2 n
  | c v => rfl

theorem SR.fn {e : Sl} {l : List V} (h : SR e l) : (fun x : Arg => Arg.c (x.sv e)) = fun x => .c (x.ev l) := funext fun x => by rw [h.ev]

def aopT (e : Sl) (s : St) (y : A) : Option (V × St) := aop [] s (y.m fun x => .c (x.sv e))
theorem SR.aop {e : Sl} {l : List V} (h : SR e l) (s : St) (y : A) : aopT e s y = Rf.aop l s y := by
  unfold aopT; rw [h.fn, aop_m]

def evKT (call : Cl) (e : Sl) (s : St) : K → Option (V × St)
  | .a y => aopT e s y
  | .call f args => call f (args.map (·.sv e)) s
  | .callv f args => match f.sv e with
    | .fn g cap => call g (args.map (·.sv e) ++ cap) s
    | _ => none
  | .bad => none

theorem SR.evK {e : Sl} {l : List V} (h : SR e l) (call : Cl) (s : St) (k : K) : evKT call e s k = Rf.evK call l s k := by
  have hm : (fun x : Arg => x.sv e) = fun x => x.ev l := funext h.ev
  cases k with
  | a y => exact h.aop s y
  | call f args => simp only [evKT, Rf.evK, hm]
  | callv f args =>
    simp only [evKT, Rf.evK, hm, h.ev]
    generalize f.ev l = u
    cases u <;> rfl
  | bad => rfl

def wantedT (e : Sl) : Option (Nat × Bool) → Option Bool
  | none => some true
  | some (t, w) => match e.get t with
    | .b b => some (b == w)
    | .bad => none
    | _ => some false

theorem SR.wanted {e : Sl} {l : List V} (h : SR e l) (g : Option (Nat × Bool)) : wantedT e g = Rf.wanted l g := by
  unfold wantedT Rf.wanted
  cases g with
  | none => rfl
  | some p =>
    obtain ⟨t, w⟩ := p
    simp only [h.2]
    generalize l.getD t unV = u
    cases u <;> rfl

def evOpsT (call : Cl) : List I → Sl → St → Option (Sl × St)
  | [], e, s => some (e, s)
  | i :: r, e, s => match wantedT e i.g with
    | some true => match evKT call e s i.k with
      | some (v, s1) => evOpsT call r (e.setD i.d v) s1
      | none => none
    | some false => evOpsT call r (e.setD i.d unV) s
    | none => none

theorem evOpsT_ok (call : Cl) : ∀ (l : List I) (e : Sl) (el : List V) (s : St) (e' : Sl) (s' : St), SR e el → evOpsT call l e s = some (e', s') → ∃ el', SR e' el' ∧ evOps call l el s = some (el', s')
  | [], e, el, s, e', s', hR, h => by cases h; exact ⟨el, hR, rfl⟩
  | i :: r, e, el, s, e', s', hR, h => by
    simp only [evOpsT] at h
    simp only [evOps]
    rw [hR.wanted] at h
    split at h
    · rename_i hw
      rw [hw]
      simp only
      rw [hR.evK] at h
      split at h
      · rename_i v s1 hk
        rw [hk]
        exact evOpsT_ok call r _ _ _ _ _ (hR.setD i.d v) h
      · cases h
    · rename_i hw
      rw [hw]
      exact evOpsT_ok call r _ _ _ _ _ (hR.setD i.d unV) h
    · cases h

def againT (e : Sl) (v : V) (k : K) : List St → Bool
  | [] => true
  | t :: ts => (match k with
    | .a y => (match aopT e t y with
      | some (u, _) => sameV u v
      | none => false)
    | _ => false) && againT e v k ts

theorem SR.again {e : Sl} {l : List V} (h : SR e l) (v : V) (k : K) : ∀ ts, againT e v k ts = Rf.again l v k ts
  | [] => rfl
  | t :: ts => by
    simp only [againT, Rf.again, h.again v k ts]
    cases k with
    | a y => simp only [h.aop]; cases Rf.aop l t y <;> rfl
    | _ => rfl

def evDrwT (call : Cl) : List St → List (Nat × I) → Sl → St → Option (Sl × St)
  | _, [], e, s => some (e, s)
  | hist, (b, i) :: r, e, s => match wantedT e i.g with
    | some true => match evKT call e s i.k with
      | some (v, s1) => match i.k.cls with
        | 2 => evDrwT call (s :: hist) r (e.setD i.d v) s1
        | 0 => evDrwT call hist r (e.setD i.d v) s1
        | _ => if againT e v i.k (hist.take b) then evDrwT call hist r (e.setD i.d v) s1 else none
      | none => none
    | some false => evDrwT call (if i.k.cls = 2 then s :: hist else hist) r (e.setD i.d unV) s
    | none => none

theorem evDrwT_ok (call : Cl) : ∀ (l : List (Nat × I)) (hist : List St) (e : Sl) (el : List V) (s : St) (e' : Sl) (s' : St), SR e el → evDrwT call hist l e s = some (e', s') → ∃ el', SR e' el' ∧ evDrw call hist l el s = some (el', s')
  | [], hist, e, el, s, e', s', hR, h => by cases h; exact ⟨el, hR, rfl⟩
  | (b, i) :: r, hist, e, el, s, e', s', hR, h => by
    simp only [evDrwT] at h
    simp only [evDrw]
    rw [hR.wanted] at h
    split at h
    · rename_i hw
      rw [hw]
      simp only
      rw [hR.evK] at h
      split at h
      · rename_i v s1 hk
        rw [hk]
        simp only
        split at h
        · rename_i hc; rw [hc]; exact evDrwT_ok call r _ _ _ _ _ _ (hR.setD i.d v) h
        · rename_i hc; rw [hc]; exact evDrwT_ok call r _ _ _ _ _ _ (hR.setD i.d v) h
        · rename_i hc2 hc0
          split
          · rename_i hc; exact (hc2 hc).elim
          · rename_i hc; exact (hc0 hc).elim
          rw [hR.again] at h
          split at h
          · rename_i ha
            rw [if_pos ha]
            exact evDrwT_ok call r _ _ _ _ _ _ (hR.setD i.d v) h
          · cases h
      · cases h
    · rename_i hw
      rw [hw]
      exact evDrwT_ok call r _ _ _ _ _ _ (hR.setD i.d unV) h
    · cases h

def evLoopT (body : Sl → St → Option (X × Sl × St)) : Nat → Sl → St → Option (X × Sl × St)
  | 0, _, _ => none
  | n + 1, e, s => match body e s with
    | some (.nrm, e1, s1) => evLoopT body n e1 s1
    | r => r

def evCT (call : Cl) (n : Nat) : C → Sl → St → Option (X × Sl × St)
  | .skip, e, s => some (.nrm, e, s)
  | .ops l, e, s => match evOpsT call l e s with
    | some (e1, s1) => some (.nrm, e1, s1)
    | none => none
  | .drw l, e, s => match evDrwT call [] l e s with
    | some (e1, s1) => some (.nrm, e1, s1)
    | none => none
  | .seq a b, e, s => match evCT call n a e s with
    | some (.nrm, e1, s1) => evCT call n b e1 s1
    | r => r
  | .cond c a b, e, s => match c.sv e with
    | .b true => evCT call n a e s
    | .b false => evCT call n b e s
    | _ => none
  | .blk id a, e, s => match evCT call n a e s with
    | some (.exit i, e1, s1) => (match Nat.beq i id with | true => some (.nrm, e1, s1) | false => some (.exit i, e1, s1))
    | r => r
  | .loop a, e, s => evLoopT (evCT call n a) n e s
  | .exit id, e, s => some (.exit id, e, s)
  | .ret, e, s => some (.ret, e, s)
  | .bad, _, _ => none

theorem evLoopT_ok {bt : Sl → St → Option (X × Sl × St)} {b : List V → St → Option (X × List V × St)} (hb : ∀ e el s x e' s', SR e el → bt e s = some (x, e', s') → ∃ el', SR e' el' ∧ b el s = some (x, el', s')) :
    ∀ (n : Nat) (e : Sl) (el : List V) (s : St) (x : X) (e' : Sl) (s' : St), SR e el → evLoopT bt n e s = some (x, e', s') → ∃ el', SR e' el' ∧ evLoop b n el s = some (x, el', s')
  | 0, e, el, s, x, e', s', hR, h => by cases h
  | n + 1, e, el, s, x, e', s', hR, h => by
    simp only [evLoopT] at h
    simp only [evLoop]
    split at h
    · rename_i e1 s1 h1
      obtain ⟨el1, hR1, h2⟩ := hb _ _ _ _ _ _ hR h1
      rw [h2]
      exact evLoopT_ok hb n _ _ _ _ _ _ hR1 h
    · rename_i h0
      obtain ⟨el1, hR1, h2⟩ := hb _ _ _ _ _ _ hR h
      rw [h2]
      cases x with
      | nrm => exact (h0 _ _ h).elim
      | _ => exact ⟨el1, hR1, rfl⟩

theorem evCT_ok (call : Cl) (n : Nat) : ∀ (c : C) (e : Sl) (el : List V) (s : St) (x : X) (e' : Sl) (s' : St), SR e el → evCT call n c e s = some (x, e', s') → ∃ el', SR e' el' ∧ evC call n c el s = some (x, el', s')
  | .skip, e, el, s, x, e', s', hR, h => by cases h; exact ⟨el, hR, rfl⟩
  | .ops l, e, el, s, x, e', s', hR, h => by
    simp only [evCT] at h
    split at h
    · rename_i e1 s1 h1
      cases h
      obtain ⟨el', hR', h2⟩ := evOpsT_ok call l _ _ _ _ _ hR h1
      exact ⟨el', hR', by simp only [evC, h2]⟩
    · cases h
  | .drw l, e, el, s, x, e', s', hR, h => by
    simp only [evCT] at h
    split at h
    · rename_i e1 s1 h1
      cases h
      obtain ⟨el', hR', h2⟩ := evDrwT_ok call l _ _ _ _ _ _ hR h1
      exact ⟨el', hR', by simp only [evC, h2]⟩
    · cases h
  | .seq a b, e, el, s, x, e', s', hR, h => by
    simp only [evCT] at h
    simp only [evC]
    split at h
    · rename_i e1 s1 h1
      obtain ⟨el1, hR1, h2⟩ := evCT_ok call n a _ _ _ _ _ _ hR h1
      rw [h2]
      exact evCT_ok call n b _ _ _ _ _ _ hR1 h
    · rename_i h0
      obtain ⟨el1, hR1, h2⟩ := evCT_ok call n a _ _ _ _ _ _ hR h
      rw [h2]
      cases x with
      | nrm => exact (h0 _ _ h).elim
      | _ => exact ⟨el1, hR1, rfl⟩
  | .cond c a b, e, el, s, x, e', s', hR, h => by
    simp only [evCT] at h
    simp only [evC]
    rw [hR.ev] at h
    split at h
    · rename_i hc; rw [hc]; exact evCT_ok call n a _ _ _ _ _ _ hR h
    · rename_i hc; rw [hc]; exact evCT_ok call n b _ _ _ _ _ _ hR h
    · cases h
  | .blk id a, e, el, s, x, e', s', hR, h => by
    simp only [evCT] at h
    simp only [evC]
    split at h
    · rename_i i e1 s1 h1
      obtain ⟨el1, hR1, h2⟩ := evCT_ok call n a _ _ _ _ _ _ hR h1
      rw [h2]
      simp only
      split at h
      · rename_i hb
        have : i = id := Nat.eq_of_beq_eq_true hb
        cases h
        exact ⟨el1, hR1, by rw [if_pos this]⟩
      · rename_i hb
        have : ¬ i = id := Nat.ne_of_beq_eq_false hb
        cases h
        exact ⟨el1, hR1, by rw [if_neg this]⟩
    · rename_i h0
      obtain ⟨el1, hR1, h2⟩ := evCT_ok call n a _ _ _ _ _ _ hR h
      rw [h2]
      cases x with
      | exit i => exact (h0 _ _ _ h).elim
      | _ => exact ⟨el1, hR1, rfl⟩
  | .loop a, e, el, s, x, e', s', hR, h => by
    simp only [evCT] at h
    simp only [evC]
    exact evLoopT_ok (fun e el s x e' s' hR h => evCT_ok call n a e el s x e' s' hR h) n _ _ _ _ _ _ hR h
  | .exit id, e, el, s, x, e', s', hR, h => by cases h; exact ⟨el, hR, rfl⟩
  | .ret, e, el, s, x, e', s', hR, h => by cases h; exact ⟨el, hR, rfl⟩
  | .bad, e, el, s, x, e', s', hR, h => by cases h

/-- arguments laid -/
def Sl.lay : Nat → List V → Tr V → Tr V
  | _, [], t => t
  | i, v :: r, t => Sl.lay (i + 1) r (Tr.put (some v) (i + 1) t i)
def Sl.of (args : List V) (m : Nat) : Sl := ⟨Sl.lay 0 args .e, max m args.length⟩

theorem lay_get : ∀ (args : List V) (i : Nat) (t : Tr V) (j : Nat), Tr.get (j + 1) (Sl.lay i args t) j = if i ≤ j ∧ j < i + args.length then args[j - i]? else Tr.get (j + 1) t j
  | [], i, t, j => by simp [Sl.lay]; omega
  | v :: r, i, t, j => by
    rw [Sl.lay, lay_get r (i + 1) _ j]
    by_cases h1 : i + 1 ≤ j ∧ j < i + 1 + r.length
    · rw [if_pos h1, if_pos (by simp; omega)]
      have : j - i = (j - (i + 1)) + 1 := by omega
      rw [this]; simp
    · rw [if_neg h1]
      by_cases h2 : j = i
      · subst h2
        rw [Tr.get_put_same _ _ _ _ (Nat.lt_succ_self _), if_pos (by simp)]
        simp
      · rw [Tr.get_put_ne _ _ _ _ _ _ (Nat.lt_succ_self _) (Nat.lt_succ_self _) h2, if_neg (by simp; omega)]

theorem SR.of (args : List V) (m : Nat) : SR (Sl.of args m) (args ++ List.replicate (m - args.length) unV) := by
  refine ⟨by simp [Sl.of]; omega, fun t => ?_⟩
  simp only [Sl.of, Sl.get, lay_get, Nat.zero_le, true_and, Nat.zero_add, Nat.sub_zero, Tr.get_e]
  by_cases ht : t < args.length
  · rw [if_pos ht]
    simp only [List.getD]
    rw [List.getElem?_append_left ht, List.getElem?_eq_getElem ht]
    rfl
  · rw [if_neg ht]
    simp only [List.getD]
    rw [List.getElem?_append_right (by omega), List.getElem?_replicate]
    split <;> rfl

def resVT (e : Sl) (s : St) : List Rs → Option (List V)
  | [] => some []
  | r :: rs =>
    match (match r with
      | .t t => some (e.get t)
      | .c1 t => (aopT e s (.load1 (.t t))).map (·.1)
      | .cn t n => (aopT e s (.loadn n (.t t))).map (·.1)) with
    | none => none
    | some v => match resVT e s rs with
      | none => none
      | some vs => some (v :: vs)

theorem SR.resV {e : Sl} {l : List V} (h : SR e l) (s : St) : ∀ rs, resVT e s rs = Rf.resV l s rs
  | [] => rfl
  | r :: rs => by
    simp only [resVT, Rf.resV, h.resV s rs]
    cases r <;> simp only [h.2, h.aop]
    · cases Rf.resV l s rs <;> rfl
    · cases (Rf.aop l s (A.load1 (Arg.t _))).map (·.1) <;> cases Rf.resV l s rs <;> rfl
    · cases (Rf.aop l s (A.loadn _ (Arg.t _))).map (·.1) <;> cases Rf.resV l s rs <;> rfl

def evFT (tb : Nat → Option F) (n : Nat) : Nat → Cl
  | 0, _, _, _ => none
  | d + 1, f, args, s => match tb f with
    | none => none
    | some F => match evCT (evFT tb n d) n F.body (Sl.of args F.nt) s with
      | some (x, e1, s1) => match x with
        | .exit _ => none
        | _ => match resVT e1 s1 F.res with
          | some vs => some (packV vs, s1)
          | none => none
      | none => none

theorem evC_call {c1 c2 : Cl} (h : ∀ f args s r, c1 f args s = some r → c2 f args s = some r) (n : Nat) : True := trivial

section
variable {gt : Nat → Option V} {P : Program}

theorem evFT_ok (hm : P.follows .mixedOrders = true) {wf : Nat → Nat → Nat → Bool} {tb : Nat → Option F} (ht : TbOk gt P wf tb) (n : Nat) : ∀ d, ClOk gt P (evFT tb n d)
  | 0, f, args, s, v, s', h => by cases h
  | d + 1, f, args, s, v, s', h => by
    simp only [evFT] at h
    split at h
    · cases h
    · rename_i F hF
      split at h
      · rename_i x e1 s1 hx
        obtain ⟨el1, hR1, hx'⟩ := evCT_ok (evFT tb n d) n F.body _ _ _ _ _ _ (SR.of args F.nt) hx
        split at h
        · cases h
        · rename_i hne
          rw [hR1.resV] at h
          split at h
          · rename_i vs hvs
            cases h
            refine ⟨ht.k f F hF, Den.of (ht.c f F hF) ((evC_ok hm (evFT_ok hm ht n d) n _ _ _ _ _ _ hx').mono fun x1 e2 s2 ⟨g1, g2, g3⟩ => ?_)⟩
            subst g1; subst g2; subst g3
            refine ⟨?_, s2, vs, Sub.refl _, rfl, hvs, rfl⟩
            cases x1 with
            | nrm => exact .inl rfl
            | ret => exact .inr rfl
            | exit i => exact (hne i rfl).elim
          · cases h
      · cases h

end
end Rf
