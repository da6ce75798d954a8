/-
  A layer of own lemmas, part 5: no statement of the program stands here.
-/
import Derived.Test.YthoojnjcdllgdaaGreatDoorLB
import Derived.Test.YthoojnjcdllgdaaGreatDoorLC
import Derived.AtR
import Derived.Defers
import Derived.RangeFuncRecord
import Derived.RangeFuncNested
import Derived.Test.YthoojnjcdllgdaaGreatDoorLD
set_option linter.all false
namespace Rf
open Go
def optM (f : Arg → Arg) : Option Arg → Option Arg
  | some x => some (f x)
  | none => none
def partM (f : Arg → Arg) : List (Nat × Nat × Arg) → List (Nat × Nat × Arg)
  | [] => []
  | (a, b, x) :: r => (a, b, f x) :: partM f r
def A.m (f : Arg → Arg) : A → A
  | .mov x => .mov (f x)
  | .pick c a b => .pick (f c) (f a) (f b)
  | .alloc t z => .alloc t z
  | .box t w x => .box t w (f x)
  | .build z ps => .build z (partM f ps)
  | .bsl t w ag n sz z ps => .bsl t w ag n sz z (partM f ps)
  | .load1 a => .load1 (f a)
  | .loadn n a => .loadn n (f a)
  | .store n a v => .store n (f a) (f v)
  | .nilc x => .nilc (f x)
  | .bin op x y => .bin op (f x) (f y)
  | .eql ng kd x y => .eql ng kd (f x) (f y)
  | .not x => .not (f x)
  | .neg x => .neg (f x)
  | .conv k x => .conv k (f x)
  | .s2b t w x => .s2b t w (f x)
  | .b2s x => .b2s (f x)
  | .fa off x => .fa off (f x)
  | .fld off n x => .fld off n (f x)
  | .ia sz x i => .ia sz (f x) (f i)
  | .iaA sz ln x i => .iaA sz ln (f x) (f i)
  | .idxA sz ag ln x i => .idxA sz ag ln (f x) (f i)
  | .idxS x i => .idxS (f x) (f i)
  | .ext x i => .ext (f x) i
  | .len x => .len (f x)
  | .lenS x => .lenS (f x)
  | .movS x => .movS (f x)
  | .app t w ag sz bytes x y => .app t w ag sz bytes (f x) (f y)
  | .cpy sz x y => .cpy sz (f x) (f y)
  | .mks t sz bytes z n c => .mks t sz bytes z (f n) (f c)
  | .slS x l h => .slS (f x) (optM f l) (optM f h)
  | .slc sz x l h m => .slc sz (f x) (optM f l) (optM f h) (optM f m)
  | .slA sz ln x l h m => .slA sz ln (f x) (optM f l) (optM f h) (optM f m)
  | .mkf g cap => .mkf g (cap.map f)
  | .mki t x => .mki t (f x)
  | .mmx max x y => .mmx max (f x) (f y)
  | .xr x => .xr (f x)
  | .u1 x => .u1 (f x)
  | .u2 t n x => .u2 t n (f x)
  | .usd x => .usd (f x)
  | .ustr t x n => .ustr t (f x) (f n)
  | .cnt x c => .cnt (f x) (f c)
  | .ixb x c => .ixb (f x) (f c)
  | .ym n xs => .ym n (xs.map f)
theorem ev_c (e : List V) (v : V) : Arg.ev e (.c v) = v := rfl
theorem fillp_m (e : List V) : ∀ (ps : List (Nat × Nat × Arg)) (z : List V), fillp [] z (partM (fun x => .c (x.ev e)) ps) = fillp e z ps
  | [], z => by simp [partM, fillp]
  | (a, b, x) :: r, z => by
    simp only [partM, fillp, ev_c, fillp_m e r]
theorem optM_ev (e : List V) (x : Option Arg) : (optM (fun x => .c (x.ev e)) x).map (·.ev []) = x.map (·.ev e) := by
  cases x <;> rfl
theorem aop_m (e : List V) (s : St) (y : A) : aop [] s (y.m fun x => .c (x.ev e)) = aop e s y := by
  cases y <;> simp only [A.m, aop, ev_c, fillp_m, optM_ev]
  case mkf g cap => simp only [List.map_map]; rfl
  case ym n xs => simp only [List.map_map]; rfl
  case box t w x => by_cases hv : (x.ev e).isVal = true <;> simp only [hv, if_true, if_false] <;> cases w <;> rfl
  case store n a v =>
    cases a.ev e <;> rfl
  case slc sz x l h m =>
    cases m with
    | none => rfl
    | some v =>
      simp only [optM]
      cases x.ev e <;> try rfl
      case sl z i o n c => cases c <;> rfl
      case pu z xs c => cases c <;> rfl
def SR (e : Sl) (l : List V) : Prop := l.length = e.m ∧ ∀ t, e.get t = l.getD t unV
theorem SR.set {e : Sl} {l : List V} (h : SR e l) (t : Nat) (v : V) : SR (e.set t v) (l.set t v) := by
  unfold Sl.set
  split
  · rename_i hb
    have hlt : t < e.m := by simpa [Nat.blt_eq] using hb
    refine ⟨by simpa using h.1, fun j => ?_⟩
    by_cases hj : j = t
    · subst hj
      simp only [Sl.get, Tr.get_put_same _ _ _ _ (Nat.lt_succ_self _)]
      have : j < l.length := by rw [h.1]; exact hlt
      simp [List.getD, this]
    · have := h.2 j
      simp only [Sl.get] at this ⊢
      rw [Tr.get_put_ne _ _ _ _ _ _ (Nat.lt_succ_self _) (Nat.lt_succ_self _) hj, this]
      simp only [List.getD]
      rw [List.getElem?_set_ne (Ne.symm hj)]
  · rename_i hb
    have hge : ¬ t < e.m := by
      intro hlt
      have : Nat.blt t e.m = true := by simpa [Nat.blt_eq] using hlt
      rw [this] at hb; cases hb
    rw [List.set_eq_of_length_le (by rw [h.1]; omega)]
    exact h
theorem SR.setD {e : Sl} {l : List V} (h : SR e l) (d : Option Nat) (v : V) : SR (e.setD d v) (Rf.setD l d v) := by
  cases d with
  | none => exact h
  | some d => exact h.set d v
def Arg.sv (e : Sl) : Arg → V
  | .t n => e.get n
  | .c v => v
theorem SR.ev {e : Sl} {l : List V} (h : SR e l) (x : Arg) : x.sv e = x.ev l := by
  cases x with
  | t n => exact h.2 n
  | c v => rfl
theorem SR.fn {e : Sl} {l : List V} (h : SR e l) : (fun x : Arg => Arg.c (x.sv e)) = fun x => .c (x.ev l) := funext fun x => by rw [h.ev]
def aopT (e : Sl) (s : St) (y : A) : Option (V × St) := aop [] s (y.m fun x => .c (x.sv e))
theorem SR.aop {e : Sl} {l : List V} (h : SR e l) (s : St) (y : A) : aopT e s y = Rf.aop l s y := by
  unfold aopT; rw [h.fn, aop_m]
def evKT (call : Cl) (e : Sl) (s : St) : K → Option (V × St)
  | .a y => aopT e s y
  | .call f args => call f (args.map (·.sv e)) s
  | .callv f args => match f.sv e with
    | .fn g cap => call g (args.map (·.sv e) ++ cap) s
    | _ => none
  | .pan _ => none
  | .bad => none
theorem SR.evK {e : Sl} {l : List V} (h : SR e l) (call : Cl) (s : St) (k : K) : evKT call e s k = Rf.evK call l s k := by
  have hm : (fun x : Arg => x.sv e) = fun x => x.ev l := funext h.ev
  cases k with
  | a y => exact h.aop s y
  | call f args => simp only [evKT, Rf.evK, hm]
  | callv f args =>
    simp only [evKT, Rf.evK, hm, h.ev]
    generalize f.ev l = u
    cases u <;> rfl
  | pan x => rfl
  | bad => rfl
def wantedT (e : Sl) : Option (Nat × Bool) → Option Bool
  | none => some true
  | some (t, w) => match e.get t with
    | .b b => some (b == w)
    | .bad => none
    | _ => some false
theorem SR.wanted {e : Sl} {l : List V} (h : SR e l) (g : Option (Nat × Bool)) : wantedT e g = Rf.wanted l g := by
  unfold wantedT Rf.wanted
  cases g with
  | none => rfl
  | some p =>
    obtain ⟨t, w⟩ := p
    simp only [h.2]
    generalize l.getD t unV = u
    cases u <;> rfl
def evOpsT (call : Cl) : List I → Sl → St → Option (Sl × St)
  | [], e, s => some (e, s)
  | i :: r, e, s => match wantedT e i.g with
    | some true => match evKT call e s i.k with
      | some (v, s1) => evOpsT call r (e.setD i.d v) s1
      | none => none
    | some false => evOpsT call r (e.setD i.d unV) s
    | none => none
theorem evOpsT_ok (call : Cl) : ∀ (l : List I) (e : Sl) (el : List V) (s : St) (e' : Sl) (s' : St), SR e el → evOpsT call l e s = some (e', s') → ∃ el', SR e' el' ∧ evOps call l el s = some (el', s')
  | [], e, el, s, e', s', hR, h => by cases h; exact ⟨el, hR, rfl⟩
  | i :: r, e, el, s, e', s', hR, h => by
    simp only [evOpsT] at h
    simp only [evOps]
    rw [hR.wanted] at h
    split at h
    · rename_i hw
      rw [hw]
      simp only
      rw [hR.evK] at h
      split at h
      · rename_i v s1 hk
        rw [hk]
        exact evOpsT_ok call r _ _ _ _ _ (hR.setD i.d v) h
      · cases h
    · rename_i hw
      rw [hw]
      exact evOpsT_ok call r _ _ _ _ _ (hR.setD i.d unV) h
    · cases h
def againT (e : Sl) (v : V) (k : K) : List St → Bool
  | [] => true
  | t :: ts => (match k with
    | .a y => (match aopT e t y with
      | some (u, _) => sameV u v
      | none => false)
    | _ => false) && againT e v k ts
theorem SR.again {e : Sl} {l : List V} (h : SR e l) (v : V) (k : K) : ∀ ts, againT e v k ts = Rf.again l v k ts
  | [] => rfl
  | t :: ts => by
    simp only [againT, Rf.again, h.again v k ts]
    cases k with
    | a y => simp only [h.aop]; cases Rf.aop l t y <;> rfl
    | _ => rfl
def evDrwT (call : Cl) : List St → List (Nat × I) → Sl → St → Option (Sl × St)
  | _, [], e, s => some (e, s)
  | hist, (b, i) :: r, e, s => match wantedT e i.g with
    | some true => match evKT call e s i.k with
      | some (v, s1) => match i.k.cls with
        | 2 => evDrwT call (s :: hist) r (e.setD i.d v) s1
        | 0 => evDrwT call hist r (e.setD i.d v) s1
        | _ => if againT e v i.k (hist.take b) then evDrwT call hist r (e.setD i.d v) s1 else none
      | none => none
    | some false => evDrwT call (if i.k.cls = 2 then s :: hist else hist) r (e.setD i.d unV) s
    | none => none
theorem evDrwT_ok (call : Cl) : ∀ (l : List (Nat × I)) (hist : List St) (e : Sl) (el : List V) (s : St) (e' : Sl) (s' : St), SR e el → evDrwT call hist l e s = some (e', s') → ∃ el', SR e' el' ∧ evDrw call hist l el s = some (el', s')
  | [], hist, e, el, s, e', s', hR, h => by cases h; exact ⟨el, hR, rfl⟩
  | (b, i) :: r, hist, e, el, s, e', s', hR, h => by
    simp only [evDrwT] at h
    simp only [evDrw]
    rw [hR.wanted] at h
    split at h
    · rename_i hw
      rw [hw]
      simp only
      rw [hR.evK] at h
      split at h
      · rename_i v s1 hk
        rw [hk]
        simp only
        split at h
        · rename_i hc; rw [hc]; exact evDrwT_ok call r _ _ _ _ _ _ (hR.setD i.d v) h
        · rename_i hc; rw [hc]; exact evDrwT_ok call r _ _ _ _ _ _ (hR.setD i.d v) h
        · rename_i hc2 hc0
          split
          · rename_i hc; exact (hc2 hc).elim
          · rename_i hc; exact (hc0 hc).elim
          rw [hR.again] at h
          split at h
          · rename_i ha
            rw [if_pos ha]
            exact evDrwT_ok call r _ _ _ _ _ _ (hR.setD i.d v) h
          · cases h
      · cases h
    · rename_i hw
      rw [hw]
      exact evDrwT_ok call r _ _ _ _ _ _ (hR.setD i.d unV) h
    · cases h
def evLoopT (body : Sl → St → Option (X × Sl × St)) : Nat → Sl → St → Option (X × Sl × St)
  | 0, _, _ => none
  | n + 1, e, s => match body e s with
    | some (.nrm, e1, s1) => evLoopT body n e1 s1
    | r => r
def evCT (call : Cl) (n : Nat) : C → Sl → St → Option (X × Sl × St)
  | .skip, e, s => some (.nrm, e, s)
  | .ops l, e, s => match evOpsT call l e s with
    | some (e1, s1) => some (.nrm, e1, s1)
    | none => none
  | .drw l, e, s => match evDrwT call [] l e s with
    | some (e1, s1) => some (.nrm, e1, s1)
    | none => none
  | .seq a b, e, s => match evCT call n a e s with
    | some (.nrm, e1, s1) => evCT call n b e1 s1
    | r => r
  | .cond c a b, e, s => match c.sv e with
    | .b true => evCT call n a e s
    | .b false => evCT call n b e s
    | _ => none
  | .blk id a, e, s => match evCT call n a e s with
    | some (.exit i, e1, s1) => (match Nat.beq i id with | true => some (.nrm, e1, s1) | false => some (.exit i, e1, s1))
    | r => r
  | .loop a, e, s => evLoopT (evCT call n a) n e s
  | .exit id, e, s => some (.exit id, e, s)
  | .ret, e, s => some (.ret, e, s)
  | .bad, _, _ => none
theorem evLoopT_ok {bt : Sl → St → Option (X × Sl × St)} {b : List V → St → Option (X × List V × St)} (hb : ∀ e el s x e' s', SR e el → bt e s = some (x, e', s') → ∃ el', SR e' el' ∧ b el s = some (x, el', s')) :
    ∀ (n : Nat) (e : Sl) (el : List V) (s : St) (x : X) (e' : Sl) (s' : St), SR e el → evLoopT bt n e s = some (x, e', s') → ∃ el', SR e' el' ∧ evLoop b n el s = some (x, el', s')
  | 0, e, el, s, x, e', s', hR, h => by cases h
  | n + 1, e, el, s, x, e', s', hR, h => by
    simp only [evLoopT] at h
    simp only [evLoop]
    split at h
    · rename_i e1 s1 h1
      obtain ⟨el1, hR1, h2⟩ := hb _ _ _ _ _ _ hR h1
      rw [h2]
      exact evLoopT_ok hb n _ _ _ _ _ _ hR1 h
    · rename_i h0
      obtain ⟨el1, hR1, h2⟩ := hb _ _ _ _ _ _ hR h
      rw [h2]
      cases x with
      | nrm => exact (h0 _ _ h).elim
      | _ => exact ⟨el1, hR1, rfl⟩
theorem evCT_ok (call : Cl) (n : Nat) : ∀ (c : C) (e : Sl) (el : List V) (s : St) (x : X) (e' : Sl) (s' : St), SR e el → evCT call n c e s = some (x, e', s') → ∃ el', SR e' el' ∧ evC call n c el s = some (x, el', s')
  | .skip, e, el, s, x, e', s', hR, h => by cases h; exact ⟨el, hR, rfl⟩
  | .ops l, e, el, s, x, e', s', hR, h => by
    simp only [evCT] at h
    split at h
    · rename_i e1 s1 h1
      cases h
      obtain ⟨el', hR', h2⟩ := evOpsT_ok call l _ _ _ _ _ hR h1
      exact ⟨el', hR', by simp only [evC, h2]⟩
    · cases h
  | .drw l, e, el, s, x, e', s', hR, h => by
    simp only [evCT] at h
    split at h
    · rename_i e1 s1 h1
      cases h
      obtain ⟨el', hR', h2⟩ := evDrwT_ok call l _ _ _ _ _ _ hR h1
      exact ⟨el', hR', by simp only [evC, h2]⟩
    · cases h
  | .seq a b, e, el, s, x, e', s', hR, h => by
    simp only [evCT] at h
    simp only [evC]
    split at h
    · rename_i e1 s1 h1
      obtain ⟨el1, hR1, h2⟩ := evCT_ok call n a _ _ _ _ _ _ hR h1
      rw [h2]
      exact evCT_ok call n b _ _ _ _ _ _ hR1 h
    · rename_i h0
      obtain ⟨el1, hR1, h2⟩ := evCT_ok call n a _ _ _ _ _ _ hR h
      rw [h2]
      cases x with
      | nrm => exact (h0 _ _ h).elim
      | _ => exact ⟨el1, hR1, rfl⟩
  | .cond c a b, e, el, s, x, e', s', hR, h => by
    simp only [evCT] at h
    simp only [evC]
    rw [hR.ev] at h
    split at h
    · rename_i hc; rw [hc]; exact evCT_ok call n a _ _ _ _ _ _ hR h
    · rename_i hc; rw [hc]; exact evCT_ok call n b _ _ _ _ _ _ hR h
    · cases h
  | .blk id a, e, el, s, x, e', s', hR, h => by
    simp only [evCT] at h
    simp only [evC]
    split at h
    · rename_i i e1 s1 h1
      obtain ⟨el1, hR1, h2⟩ := evCT_ok call n a _ _ _ _ _ _ hR h1
      rw [h2]
      simp only
      split at h
      · rename_i hb
        have : i = id := Nat.eq_of_beq_eq_true hb
        cases h
        exact ⟨el1, hR1, by rw [if_pos this]⟩
      · rename_i hb
        have : ¬ i = id := Nat.ne_of_beq_eq_false hb
        cases h
        exact ⟨el1, hR1, by rw [if_neg this]⟩
    · rename_i h0
      obtain ⟨el1, hR1, h2⟩ := evCT_ok call n a _ _ _ _ _ _ hR h
      rw [h2]
      cases x with
      | exit i => exact (h0 _ _ _ h).elim
      | _ => exact ⟨el1, hR1, rfl⟩
  | .loop a, e, el, s, x, e', s', hR, h => by
    simp only [evCT] at h
    simp only [evC]
    exact evLoopT_ok (fun e el s x e' s' hR h => evCT_ok call n a e el s x e' s' hR h) n _ _ _ _ _ _ hR h
  | .exit id, e, el, s, x, e', s', hR, h => by cases h; exact ⟨el, hR, rfl⟩
  | .ret, e, el, s, x, e', s', hR, h => by cases h; exact ⟨el, hR, rfl⟩
  | .bad, e, el, s, x, e', s', hR, h => by cases h
def Sl.lay : Nat → List V → Tr V → Tr V
  | _, [], t => t
  | i, v :: r, t => Sl.lay (i + 1) r (Tr.put (some v) (i + 1) t i)
def Sl.of (args : List V) (m : Nat) : Sl := ⟨Sl.lay 0 args .e, max m args.length⟩
theorem lay_get : ∀ (args : List V) (i : Nat) (t : Tr V) (j : Nat), Tr.get (j + 1) (Sl.lay i args t) j = if i ≤ j ∧ j < i + args.length then args[j - i]? else Tr.get (j + 1) t j
  | [], i, t, j => by simp [Sl.lay]; omega
  | v :: r, i, t, j => by
    rw [Sl.lay, lay_get r (i + 1) _ j]
    by_cases h1 : i + 1 ≤ j ∧ j < i + 1 + r.length
    · rw [if_pos h1, if_pos (by simp; omega)]
      have : j - i = (j - (i + 1)) + 1 := by omega
      rw [this]; simp
    · rw [if_neg h1]
      by_cases h2 : j = i
      · subst h2
        rw [Tr.get_put_same _ _ _ _ (Nat.lt_succ_self _), if_pos (by simp)]
        simp
      · rw [Tr.get_put_ne _ _ _ _ _ _ (Nat.lt_succ_self _) (Nat.lt_succ_self _) h2, if_neg (by simp; omega)]
theorem SR.of (args : List V) (m : Nat) : SR (Sl.of args m) (args ++ List.replicate (m - args.length) unV) := by
  refine ⟨by simp [Sl.of]; omega, fun t => ?_⟩
  simp only [Sl.of, Sl.get, lay_get, Nat.zero_le, true_and, Nat.zero_add, Nat.sub_zero, Tr.get_e]
  by_cases ht : t < args.length
  · rw [if_pos ht]
    simp only [List.getD]
    rw [List.getElem?_append_left ht, List.getElem?_eq_getElem ht]
    rfl
  · rw [if_neg ht]
    simp only [List.getD]
    rw [List.getElem?_append_right (by omega), List.getElem?_replicate]
    split <;> rfl
def resVT (e : Sl) (s : St) : List Rs → Option (List V)
  | [] => some []
  | r :: rs =>
    match (match r with
      | .t t => some (e.get t)
      | .c1 t => (aopT e s (.load1 (.t t))).map (·.1)
      | .cn t n => (aopT e s (.loadn n (.t t))).map (·.1)) with
    | none => none
    | some v => match resVT e s rs with
      | none => none
      | some vs => some (v :: vs)
theorem SR.resV {e : Sl} {l : List V} (h : SR e l) (s : St) : ∀ rs, resVT e s rs = Rf.resV l s rs
  | [] => rfl
  | r :: rs => by
    simp only [resVT, Rf.resV, h.resV s rs]
    cases r <;> simp only [h.2, h.aop]
    · cases Rf.resV l s rs <;> rfl
    · cases (Rf.aop l s (A.load1 (Arg.t _))).map (·.1) <;> cases Rf.resV l s rs <;> rfl
    · cases (Rf.aop l s (A.loadn _ (Arg.t _))).map (·.1) <;> cases Rf.resV l s rs <;> rfl
def evFT (tb : Nat → Option F) (n : Nat) : Nat → Cl
  | 0, _, _, _ => none
  | d + 1, f, args, s => match tb f with
    | none => none
    | some F => match evCT (evFT tb n d) n F.body (Sl.of args F.nt) s with
      | some (x, e1, s1) => match x with
        | .exit _ => none
        | _ => match resVT e1 s1 F.res with
          | some vs => some (packV vs, s1)
          | none => none
      | none => none
section
variable {gt : Nat → Option V} {P : Program}
theorem evFT_ok (hm : P.follows .mixedOrders = true) {wf : Nat → Nat → Nat → Bool} {tb : Nat → Option F} (ht : TbOk gt P wf tb) (n : Nat) : ∀ d, ClOk gt P (evFT tb n d)
  | 0, f, args, s, v, s', h => by cases h
  | d + 1, f, args, s, v, s', h => by
    simp only [evFT] at h
    split at h
    · cases h
    · rename_i F hF
      split at h
      · rename_i x e1 s1 hx
        obtain ⟨el1, hR1, hx'⟩ := evCT_ok (evFT tb n d) n F.body _ _ _ _ _ _ (SR.of args F.nt) hx
        split at h
        · cases h
        · rename_i hne
          rw [hR1.resV] at h
          split at h
          · rename_i vs hvs
            cases h
            refine ⟨ht.k f F hF, Den.of (ht.c f F hF) ((evC_ok hm (evFT_ok hm ht n d) n _ _ _ _ _ _ hx').mono fun x1 e2 s2 ⟨g1, g2, g3⟩ => ?_)⟩
            subst g1; subst g2; subst g3
            refine ⟨?_, s2, vs, Sub.refl _, rfl, hvs, rfl⟩
            cases x1 with
            | nrm => exact .inl rfl
            | ret => exact .inr rfl
            | exit i => exact (hne i rfl).elim
          · cases h
      · cases h
end
end Rf
namespace Rf
open Go
end Rf
namespace Rf
open Go
structure On where
  i : Nat
  am : Nat
  z : Bool
  x : I
def Sl.l (e : Sl) : List V := (List.range e.m).map e.get
section
variable {gt : Nat → Option V} {P : Program}
variable {ops : Array Oper} {is : List I} {os : List On} {call : Cl}
variable {cxb : Cx} {sb : St} {wb : World} {listed : Array Bool}
open Classical in
end
section
variable {gt : Nat → Option V} {P : Program} {call : Cl} {ops : Array Oper} {is : List I} {os : List On} {cxb : Cx} {sb : St} {wb : World}
end
end Rf
namespace Rf
open Go
inductive D where
  | f (g : Nat) (args : List V)
  | col (l : Nat)
  deriving Inhabited
inductive T where
  | c (c : Code)
  | blk (id : Nat)
  | lp (c : Code)
  | reg (ops : Array Oper) (i : Nat) (r : List Oper) (is : List I)
  | rf (l : Nat)
  | erf (l : Nat)
  | br
inductive Md where
  | run
  | ret
  | pan (ch : List (V × Bool))
structure AF where
  f : Nat
  e : Sl
  k : List T
  ds : List D
  md : Md
  kd : Bool
  ro : Option Nat
end Rf
namespace Rf
open Go
section
variable (gt : Nat → Option V) (P : Program)
variable {gt P}
section steps
variable {F : Frame} {cs : List Frame} {w w' : World} {ops : Array Oper} {i : Nat} {rest : List Nat} {k : List Item} {o : Oper}
end steps
end
end Rf
namespace Rf
open Go
section
variable {gt : Nat → Option V} {P : Program}
section exec
variable {cx : Cx} {s : St} {w : World} {e : List V} {act : Act} {o : Oper} {wh : Bool}
end exec
end
end Rf
namespace Rf
open Go
section
variable {gt : Nat → Option V} {P : Program}
variable {cx : Cx} {s : St} {w : World} {F : Frame} {al9 : List AF} {Fs : List Frame}
end
end Rf
namespace Rf
open Go
section
variable {gt : Nat → Option V} {P : Program}
end
end Rf
namespace Rf
open Go
inductive XM where
  | nrm
  | ret
  | exit (id : Nat)
  | pan (v : V)
def XM.of : X → XM
  | .nrm => .nrm
  | .ret => .ret
  | .exit id => .exit id
def XR (cx : Cx) (h : Array Obj) (n : Nat → Prop) : XM → Exit → Prop
  | .nrm, ex => ex = .normal
  | .ret, ex => ex = .ret
  | .exit id, ex => ex = .exit id
  | .pan v, ex => ∃ x, ex = .panic [{ v := x, recovered := false }] ∧ VRep cx h n v x
structure NowM (gt : Nat → Option V) (sb : St) (cxb : Cx) (wb : World) (cx : Cx) (e : List V) (s : St) (act : Act) (w : World) : Prop where
  E : ERep gt cx w.heap s.L e act.tmps
  hd : act.defers = []
  R : Rel cx s w.heap
  X : Ext cxb sb wb.heap cx s w.heap
  q : Qt wb w
def CfM (gt : Nat → Option V) (P : Program) (wf : Nat → Nat → Bool) (sb : St) (c : C) (e : List V) (s : St) (Q : XM → List V → St → Prop) : Prop :=
  ∀ code, cC gt P wf code = c → ∀ (cxb : Cx) (wb : World) (cx : Cx) (w : World) (act : Act), NowM gt sb cxb wb cx e s act w →
    code.wp P (fun ex a' w' => ∃ x e' s' cx', XR cx' w'.heap s'.L x ex ∧ Q x e' s' ∧ NowM gt sb cxb wb cx' e' s' a' w') act w
structure WkM (sb : St) (e1 : List V) (s1 : St) (e : List V) (s : St) : Prop extends Wk e1 s1 e s where
  b : s1.L = s.L ∨ ∀ l, sb.L l → s1.L l
section
variable {gt : Nat → Option V} {P : Program} {wf : Nat → Nat → Bool} {sb : St} {e : List V} {s : St} {Q : XM → List V → St → Prop}
theorem NowM.wk {cxb : Cx} {wb : World} {cx : Cx} {act : Act} {w : World} (hgt : GNm gt) (N : NowM gt sb cxb wb cx e s act w) {e1 : List V} {s1 : St} (k : WkM sb e1 s1 e s) : NowM gt sb cxb wb cx e1 s1 act w := by
  have nm : ∀ {v : V} {x : Value}, (s1.L = s.L ∨ Nm s1.L v) → VRep cx w.heap s.L v x → VRep cx w.heap s1.L v x := fun hn hv => by
    rcases hn with hn | hn
    · rw [hn]; exact hv
    · exact VRep.names (fun _ _ => rfl) (fun _ _ => rfl) (fun _ _ h => h) (fun _ _ _ => rfl) hv hn
  have E1 := N.E.forg k.f
  have hsz := N.E.len
  refine ⟨⟨fun g v hg => ⟨nm (.inr (.q _ _ ((hgt g v hg).mono fun _ h => (Nat.not_lt_zero _ h.1).elim))) (N.E.gl g v hg).1, (N.E.gl g v hg).2⟩, E1.len, fun t => nm ?_ (E1.rep t)⟩, N.hd, ?_, ?_, N.q⟩
  · rcases k.e with h | h
    · exact .inl h
    · right
      rw [List.getD]
      cases ht : e1[t]? with
      | none => exact .tu [] (fun x hx => by simp at hx)
      | some v => exact h v (List.mem_of_getElem? ht)
  · refine ⟨fun l hl => ?_, k.gl, fun l o hg => ?_, fun l l' o o' h1 h2 => N.R.inj l l' o o' (k.g l o h1) (k.g l' o' h2), N.R.fzl, fun l cs z t hg => N.R.fzo l cs z t (k.g l _ hg), fun l e hg => N.R.fzt l e (k.g l _ hg)⟩
    · cases hg : s1.get l with
      | none => rfl
      | some o => exact (hl (k.l l o hg)).elim
    · have ho := N.R.obj l o (k.g l o hg)
      cases o with
      | c cs z ty =>
        obtain ⟨arr, el, lo, hi, a1, a2, a3, a4, a5⟩ := ho
        refine ⟨arr, el, lo, hi, a1, a2, a3, fun j hj => nm ?_ (a4 j hj), a5⟩
        rcases k.o with h | h
        · exact .inl h
        · exact .inr (Nm.getD (h l cs z ty hg) j)
      | t e => exact ho
      | x o =>
        rcases k.x with h | h
        · show _ ∧ XRep cx w.heap s1.L _ o; rw [h]; exact ho
        · exact ⟨ho.1, ho.2.names (h l o hg)⟩
  · refine ⟨⟨fun l hl => ?_, N.X.later.r, N.X.later.tk, N.X.later.fz, N.X.later.cell, N.X.later.sz⟩, N.X.size, N.X.frame, fun b ⟨l, o, hg, hb⟩ => N.X.own b ⟨l, o, k.g l o hg, hb⟩, N.X.nfz⟩
    rcases k.b with h | h
    · rw [h]; exact N.X.later.nle l hl
    · exact h l hl
theorem WkM.fg {ks : List Nat} {e : List V} {s : St} (hg : Good s) : WkM sb (Rf.fg ks e) s e s := { Wk.fg hg.1 hg.2 with b := .inl rfl }
theorem Co.cfm {c : C} (h : Co gt P wf c e s fun x e' s' => Q (.of x) e' s') : CfM gt P wf sb c e s Q := fun code hc cxb wb cx w act N =>
  wp_mono (h code hc cx w act N.E N.hd N.R) fun _ _ _ ⟨x, e', s', h1, h2, cx', x1, x2, x3, x4, x5⟩ => ⟨.of x, e', s', cx', by subst h1; cases x <;> rfl, h2, x1, x2, x3, N.X.trans x4, N.q.trans x5⟩
theorem CfM.mono {c : C} {Q' : XM → List V → St → Prop} (h : CfM gt P wf sb c e s Q) (hq : ∀ x e' s', Q x e' s' → Q' x e' s') : CfM gt P wf sb c e s Q' := fun code hc cxb wb cx w act N =>
  wp_mono (h code hc cxb wb cx w act N) fun _ _ _ ⟨x, e', s', cx', h1, h2, h3⟩ => ⟨x, e', s', cx', h1, hq _ _ _ h2, h3⟩
theorem CfM.pre {c : C} {e1 : List V} {s1 : St} (hgt : GNm gt) (k : WkM sb e1 s1 e s) (h : CfM gt P wf sb c e1 s1 Q) : CfM gt P wf sb c e s Q := fun code hc cxb wb cx w act N =>
  h code hc cxb wb cx w act (N.wk hgt k)
theorem CfM.good {c : C} (h : Good s → CfM gt P wf sb c e s Q) : CfM gt P wf sb c e s Q := fun code hc cxb wb cx w act N =>
  h ⟨fun l o hg => N.R.name_L hg, N.R.gl⟩ code hc cxb wb cx w act N
theorem CfM.goods {c : C} (h : CfM gt P wf sb c e s fun x e' s' => Good s' → Q x e' s') : CfM gt P wf sb c e s Q := fun code hc cxb wb cx w act N =>
  wp_mono (h code hc cxb wb cx w act N) fun _ _ _ ⟨x, e', s', cx', h1, h2, h3⟩ => ⟨x, e', s', cx', h1, h2 ⟨fun l o hg => h3.R.name_L hg, h3.R.gl⟩, h3⟩
theorem CfM.seq {a b : C} (h : CfM gt P wf sb a e s fun x e' s' => match x with | .nrm => CfM gt P wf sb b e' s' Q | x => Q x e' s') : CfM gt P wf sb (.seq a b) e s Q := by
  intro code hc cxb wb cx w act N
  cases code with
  | seq ca cb =>
    simp only [cC, C.seq.injEq] at hc
    refine wp_seq (wp_mono (h ca hc.1 cxb wb cx w act N) fun ex a' w' ⟨x, e', s', cx', h1, h2, h3⟩ => ?_)
    cases x with
    | nrm => cases h1; exact h2 cb hc.2 cxb wb cx' w' a' h3
    | ret => cases h1; exact ⟨.ret, e', s', cx', rfl, h2, h3⟩
    | exit id => cases h1; exact ⟨.exit id, e', s', cx', rfl, h2, h3⟩
    | pan v => obtain ⟨x, rfl, hv⟩ := h1; exact ⟨.pan v, e', s', cx', ⟨x, rfl, hv⟩, h2, h3⟩
  | region id ops draw =>
    simp only [cC] at hc
    split at hc
    · split at hc
      · split at hc <;> cases hc
      · cases hc
    · cases hc
  | cond c a b => simp only [cC] at hc; split at hc <;> cases hc
  | _ => simp only [cC] at hc; cases hc
theorem CfM.blk {id : Nat} {a : C} (h : CfM gt P wf sb a e s fun x e' s' => match x with | .exit i => if i = id then Q .nrm e' s' else Q (.exit i) e' s' | x => Q x e' s') : CfM gt P wf sb (.blk id a) e s Q := by
  intro code hc cxb wb cx w act N
  cases code with
  | block id' ca =>
    simp only [cC, C.blk.injEq] at hc
    obtain ⟨rfl, hc⟩ := hc
    refine wp_block (wp_mono (h ca hc cxb wb cx w act N) fun ex a' w' ⟨x, e', s', cx', h1, h2, h3⟩ => ?_)
    cases x with
    | nrm => cases h1; exact ⟨.nrm, e', s', cx', rfl, h2, h3⟩
    | ret => cases h1; exact ⟨.ret, e', s', cx', rfl, h2, h3⟩
    | exit i =>
      cases h1
      simp only [Exit.inBlock]
      by_cases hi : i = id'
      · simp only [hi, if_true] at h2 ⊢
        exact ⟨.nrm, e', s', cx', rfl, h2, h3⟩
      · simp only [hi, if_false] at h2 ⊢
        exact ⟨.exit i, e', s', cx', rfl, h2, h3⟩
    | pan v => obtain ⟨x, rfl, hv⟩ := h1; exact ⟨.pan v, e', s', cx', ⟨x, rfl, hv⟩, h2, h3⟩
  | region id ops draw =>
    simp only [cC] at hc
    split at hc
    · split at hc
      · split at hc <;> cases hc
      · cases hc
    · cases hc
  | cond c a b => simp only [cC] at hc; split at hc <;> cases hc
  | _ => simp only [cC] at hc; cases hc
theorem CfM.cond {c : Arg} {a b : C} {t : Bool} (hc0 : c.ev e = .b t) (h : CfM gt P wf sb (if t then a else b) e s Q) : CfM gt P wf sb (.cond c a b) e s Q := by
  intro code hc cxb wb cx w act N
  cases code with
  | cond c' ca cb =>
    simp only [cC] at hc
    split at hc
    · rename_i c1 hc1
      cases hc
      have hr := arg_rep N.E hc1
      rw [hc0] at hr
      generalize hx : act.eval c' = x at hr
      cases hr
      refine wp_cond hx ?_
      cases t
      · exact h cb rfl cxb wb cx w act N
      · exact h ca rfl cxb wb cx w act N
    · cases hc
  | region id ops draw =>
    simp only [cC] at hc
    split at hc
    · split at hc
      · split at hc <;> cases hc
      · cases hc
    · cases hc
  | _ => simp only [cC] at hc; cases hc
theorem CfM.loop {c : C} (hgt : GNm gt) (Inv : Nat → List V → St → Prop) {n : Nat} (h0 : Inv n e s) (round : ∀ n e s, Inv n e s → CfM gt P wf sb c e s fun x e' s' => match x with | .nrm => ∃ m e1 s1, m < n ∧ WkM sb e1 s1 e' s' ∧ Inv m e1 s1 | x => Q x e' s') : CfM gt P wf sb (.loop c) e s Q := by
  intro code hc cxb wb cx w act N
  cases code with
  | loop cc =>
    simp only [cC, C.loop.injEq] at hc
    refine wp_loop_gen (fun n a' w' => ∃ e1 s1 cx1, Inv n e1 s1 ∧ NowM gt sb cxb wb cx1 e1 s1 a' w') (fun n a' w' ⟨e1, s1, cx1, hi, N1⟩ => ?_) (n := n) ⟨e, s, cx, h0, N⟩
    refine wp_mono (round n e1 s1 hi cc hc cxb wb cx1 w' a' N1) fun ex a'' w'' ⟨x, e2, s2, cx2, g1, g2, g3⟩ => ?_
    cases x with
    | nrm =>
      cases g1
      obtain ⟨m, e3, s3, hm, hk, hi'⟩ := g2
      exact ⟨m, hm, e3, s3, cx2, hi', g3.wk hgt hk⟩
    | ret => cases g1; exact ⟨.ret, e2, s2, cx2, rfl, g2, g3⟩
    | exit id => cases g1; exact ⟨.exit id, e2, s2, cx2, rfl, g2, g3⟩
    | pan v => obtain ⟨x, rfl, hv⟩ := g1; exact ⟨.pan v, e2, s2, cx2, ⟨x, rfl, hv⟩, g2, g3⟩
  | region id ops draw =>
    simp only [cC] at hc
    split at hc
    · split at hc
      · split at hc <;> cases hc
      · cases hc
    · cases hc
  | cond c a b => simp only [cC] at hc; split at hc <;> cases hc
  | _ => simp only [cC] at hc; cases hc
end
end Rf
namespace Rf
open Go
structure WkS (sb s1 s : St) : Prop where
  g : ∀ l o, s1.get l = some o → s.get l = some o
  gl : ∀ l ∈ s1.g, l < s1.n
  l : ∀ l o, s1.get l = some o → s1.L l
  o : s1.L = s.L ∨ (∀ l cs z t, s1.get l = some (.c cs z t) → ∀ c ∈ cs, Nm s1.L c)
  x : s1.L = s.L ∨ ∀ l o, s1.get l = some (.x o) → XNm s1.L o
  b : s1.L = s.L ∨ ∀ l, sb.L l → s1.L l
theorem WkS.sub {sb s1 s : St} (h : Sub s1 s) (hg : Good s) : WkS sb s1 s :=
  ⟨h.2, fun l hl => by rw [h.1.1]; exact hg.2 l (by rw [← h.1.2]; exact hl), fun l o hl => by rw [h.L]; exact hg.1 l o (h.2 l o hl), .inl h.L, .inl h.L, .inl h.L⟩
theorem WkS.refl {sb s : St} (hg : Good s) : WkS sb s s := .sub (.refl s) hg
theorem WkS.m {sb s1 s : St} (k : WkS sb s1 s) (e : List V) : WkM sb (Rf.fg [] e) s1 e s :=
  { f := fg_forg [] e, g := k.g, gl := k.gl, l := k.l, o := k.o, x := k.x, e := .inr fun v hv => by
      have : ∀ (e : List V) (i : Nat), ∀ v ∈ fgI [] i e, v = .bad := fun e => by
        induction e with
        | nil => intro i v hv; simp [fgI] at hv
        | cons a r ih =>
          intro i v hv
          simp only [fgI, List.contains_nil, List.mem_cons] at hv
          rcases hv with rfl | hv
          · rfl
          · exact ih _ v hv
      rw [this e 0 v hv]; exact .bad
    b := k.b }
structure HM (gt : Nat → Option V) (P : Program) (sb : St) (c : C) (e : List V) (s : St) (Q : XM → List V → St → Prop) : Prop where
  out : ∀ wf, CfM gt P wf sb c e s Q
section
variable {gt : Nat → Option V} {P : Program} {sb : St} {e : List V} {s : St} {Q : XM → List V → St → Prop} {R : V → List V → St → Prop}
def mS (gt : Nat → Option V) (P : Program) (sb : St) (b : C) (Q : XM → List V → St → Prop) (x : XM) (e : List V) (s : St) : Prop := match x with
  | .nrm => HM gt P sb b e s Q
  | x => Q x e s
def mB (id : Nat) (Q : XM → List V → St → Prop) (x : XM) (e : List V) (s : St) : Prop := match x with
  | .exit i => (match Nat.beq i id with
    | true => Q .nrm e s
    | false => Q (.exit i) e s)
  | x => Q x e s
def mT (gt : Nat → Option V) (P : Program) (sb : St) (v : V) (a b : C) (e : List V) (s : St) (Q : XM → List V → St → Prop) : Prop := match v with
  | .b t => brB t (HM gt P sb a e s Q) (HM gt P sb b e s Q)
  | _ => False
def mL (sb : St) (Inv : Nat → List V → St → Prop) (n : Nat) (Q : XM → List V → St → Prop) (x : XM) (e : List V) (s : St) : Prop := match x with
  | .nrm => Good s → ∃ m e1 s1, m < n ∧ WkM sb e1 s1 e s ∧ Inv m e1 s1
  | x => Q x e s
theorem HM.skip (h : Q .nrm e s) : HM gt P sb .skip e s Q := ⟨fun _ => (Co.skip h).cfm⟩
theorem HM.exit {id : Nat} (h : Q (.exit id) e s) : HM gt P sb (.exit id) e s Q := ⟨fun _ => (Co.exit h).cfm⟩
theorem HM.ret (h : Q .ret e s) : HM gt P sb .ret e s Q := ⟨fun _ => (Co.ret h).cfm⟩
theorem HM.ops {l : List I} (h : HO gt P l e s (Q .nrm)) : HM gt P sb (.ops l) e s Q := ⟨fun _ => let ⟨_, _, h1, h2⟩ := h.out; (Co.ops h1 h2).cfm⟩
theorem HM.drw (hm : P.follows .mixedOrders = true) {l : List (Nat × I)} (h : HD gt P [] l e s (Q .nrm)) : HM gt P sb (.drw l) e s Q := ⟨fun _ => let ⟨_, _, h1, h2⟩ := h.out; (Co.drw hm h1 h2).cfm⟩
theorem HM.seq {a b : C} (h : HM gt P sb a e s (mS gt P sb b Q)) : HM gt P sb (.seq a b) e s Q := ⟨fun wf => CfM.seq ((h.out wf).mono fun x e' s' h1 => by
  cases x with
  | nrm => exact HM.out h1 wf
  | _ => exact h1)⟩
theorem HM.blk {id : Nat} {a : C} (h : HM gt P sb a e s (mB id Q)) : HM gt P sb (.blk id a) e s Q := ⟨fun wf => CfM.blk ((h.out wf).mono fun x e' s' h1 => by
  cases x with
  | exit i =>
    simp only [mB] at h1
    cases hb : Nat.beq i id with
    | true => rw [hb] at h1; simp only; rw [if_pos (Nat.eq_of_beq_eq_true hb)]; exact h1
    | false => rw [hb] at h1; simp only; rw [if_neg (Nat.ne_of_beq_eq_false hb)]; exact h1
  | _ => exact h1)⟩
theorem HM.cond {c : Arg} {a b : C} (h : mT gt P sb (c.ev e) a b e s Q) : HM gt P sb (.cond c a b) e s Q := ⟨fun wf => by
  unfold mT at h
  split at h
  · rename_i t ht
    refine CfM.cond ht ?_
    cases t
    · exact (h.f rfl).out wf
    · exact (h.t rfl).out wf
  · exact h.elim⟩
theorem HM.loop (hgt : GNm gt) {a : C} (h : Good s → ∃ (Inv : Nat → List V → St → Prop), (∃ n e0 s0, WkM sb e0 s0 e s ∧ Inv n e0 s0) ∧ ∀ n e s, Inv n e s → HM gt P sb a e s (mL sb Inv n Q)) : HM gt P sb (.loop a) e s Q := ⟨fun wf => by
  refine CfM.good fun hg => ?_
  obtain ⟨Inv, ⟨n, e0, s0, hk, h0⟩, hr⟩ := h hg
  refine CfM.pre hgt hk ?_
  refine CfM.loop hgt Inv h0 fun n e s hi => CfM.goods (((hr n e s hi).out wf).mono fun x e' s' h1 => ?_)
  cases x with
  | nrm => exact h1
  | _ => exact fun _ => h1⟩
theorem HM.fgt {c : C} (hgt : GNm gt) (ks : List Nat) (h : Good s → HM gt P sb c (fg ks e) s Q) : HM gt P sb c e s Q :=
  ⟨fun wf => CfM.good fun hg => CfM.pre hgt (.fg hg) ((h hg).out wf)⟩
def finM (sb : St) (rs : List Rs) (v : V) (s1 : St) (x : XM) (e : List V) (s : St) : Prop :=
  match x with
  | .exit _ => False
  | .pan _ => False
  | _ => match resV e s rs with
    | some vs => fL vs fun vs => fV (packV vs) fun u => Vw u v ∧ (Good s → WkS sb s1 s ∧ (s1.L = s.L ∨ Nm s1.L v))
    | none => False
theorem finM_ret {rs : List Rs} {v : V} {s1 : St} {x : XM} {vs : List V} (hx : x = .ret ∨ x = .nrm) (hr : resV e s rs = some vs) (hv : Vw (packV vs) v) (hs : Good s → WkS sb s1 s ∧ (s1.L = s.L ∨ Nm s1.L v)) : finM sb rs v s1 x e s := by
  rcases hx with rfl | rfl <;> (unfold finM; simp only [hr, fL_eq, fV_eq]; exact ⟨hv, hs⟩)
theorem entry_rep {cx : Cx} {w : World} {args : List V} {xs : Array Value} (nt : Nat) (G : GRep gt cx w.heap s.L) (A : ARep cx w.heap s.L args xs) :
    ERep gt cx w.heap s.L (args ++ List.replicate (nt - args.length) unV) (xs ++ Array.replicate (nt - xs.size) undef) := by
  refine ⟨G, by simp [A.len], fun t => ?_⟩
  by_cases ht : t < args.length
  · have h1 := A.rep t ht
    have e1 : (args ++ List.replicate (nt - args.length) unV).getD t unV = args.getD t .bad := by
      simp only [List.getD]; rw [List.getElem?_append_left ht, List.getElem?_eq_getElem ht]; rfl
    have e2 : (xs ++ Array.replicate (nt - xs.size) undef).getD t undef = xs.getD t undef := by
      apply arrGetD_eq; rw [Array.getElem?_append_left (by rw [A.len]; exact ht)]
    rw [e1, e2]; exact h1
  · have e1 : (args ++ List.replicate (nt - args.length) unV).getD t unV = unV := by
      simp only [List.getD]; rw [List.getElem?_append_right (by omega), List.getElem?_replicate]
      split <;> rfl
    have e2 : (xs ++ Array.replicate (nt - xs.size) undef).getD t undef = undef := by
      rw [Array.getD_eq_getD_getElem?, Array.getElem?_append_right (by rw [A.len]; omega), Array.getElem?_replicate]
      split <;> rfl
    rw [e1, e2]; exact VRep.un _ _ _
theorem names_ret {cxb : Cx} {wb : World} {cx : Cx} {act : Act} {w : World} (hgt : GNm gt) (N : NowM gt sb cxb wb cx e s act w) {s1 : St} (k : WkS sb s1 s) {v : V} {x : Value} (hn : s1.L = s.L ∨ Nm s1.L v) (hv : VRep cx w.heap s.L v x) :
    VRep cx w.heap s1.L v x ∧ Rel cx s1 w.heap ∧ Ext cxb sb wb.heap cx s1 w.heap ∧ Qt wb w := by
  have N1 := N.wk hgt (k.m e)
  refine ⟨?_, N1.R, N1.X, N1.q⟩
  rcases hn with hn | hn
  · rw [hn]; exact hv
  · exact VRep.names (fun _ _ => rfl) (fun _ _ => rfl) (fun _ _ h => h) (fun _ _ _ => rfl) hv hn
theorem Den.hm {wf : Nat → Nat → Bool} {f : FuncId} {F : F} {args : List V} {v : V} {s1 : St} (hgt : GNm gt) (hF : cF gt P wf f = some F)
    (h : HM gt P s F.body (args ++ List.replicate (F.nt - args.length) unV) s (finM s F.res v s1)) : Den gt P f args s v s1 := by
  intro cx w xs R G A
  unfold cF at hF
  split at hF
  · cases hF
  · rename_i fn hfn
    split at hF
    · cases hF
    · rename_i b hb
      split at hF
      · rename_i rs hrs
        cases hF
        simp only at h
        refine calls_of_wp hfn hb (wp_mono (CfM.goods ((h.out wf).mono fun x e s h _ => h) b rfl cx w cx w { tmps := xs ++ Array.replicate (fn.ntmps - xs.size) undef, defers := [] } ⟨entry_rep _ G A, rfl, R, .refl _ _ _, .rfl⟩) fun ex a' w' ⟨x, e1, s2, cx', h1, h2, N⟩ => ?_)
        have hfin : x = .nrm ∨ x = .ret := by
          cases x with
          | nrm => exact .inl rfl
          | ret => exact .inr rfl
          | exit i => exact h2.elim
          | pan v => exact h2.elim
        have h2 : ∃ vs, resV e1 s2 rs = some vs ∧ Vw (packV vs) v ∧ (Good s2 → WkS s s1 s2 ∧ (s1.L = s2.L ∨ Nm s1.L v)) := by
          rcases hfin with rfl | rfl <;> simp only [finM] at h2 <;> split at h2 <;> first
            | (rename_i vs hvs; rw [fL_eq, fV_eq] at h2; exact ⟨vs, hvs, h2⟩)
            | exact h2.elim
        obtain ⟨vs, h3, h4, h5⟩ := h2
        obtain ⟨h6, h7⟩ := h5 ⟨fun l o hg => N.R.name_L hg, N.R.gl⟩
        have hfin2 : a'.defers = [] ∧ ∃ y, (results fn a'.tmps).run P w' = .ok y w' ∧ ∃ z cx', Ending.returned y = .returned z ∧ VRep cx' w'.heap s1.L v z ∧ Rel cx' s1 w'.heap ∧ Ext cx s w.heap cx' s1 w'.heap ∧ Qt w w' := by
          obtain ⟨y, y1, y2⟩ := results_rep N.E N.R hrs h3
          obtain ⟨g1, g2, g3, g4⟩ := names_ret hgt N h6 h7 (VRep.weak h4 y2)
          exact ⟨N.hd, y, y1, y, cx', rfl, g1, g2, g3, g4⟩
        rcases hfin with rfl | rfl
        · cases h1; exact hfin2
        · cases h1; exact hfin2
      · cases hF
end
end Rf
namespace Rf
open Go
section
variable {gt : Nat → Option V} {P : Program} {f0 : Nat} {v : V} {s' : St}
end
end Rf
namespace Rf
open Go
theorem nm_of_cells {n : Nat → Prop} {v : V} (h : ∀ j, j < v.cells.length → Nm n (v.cells.getD j .bad)) : Nm n v := by
  have one : v.cells = [v] → Nm n v := fun e => by
    have := h 0 (by rw [e]; exact Nat.one_pos)
    rw [e] at this; exact this
  cases v with
  | ag cs =>
    refine .ag cs fun x hx => ?_
    obtain ⟨j, hj⟩ := List.getElem?_of_mem hx
    have hlt := (List.getElem?_eq_some_iff.1 hj).1
    have := h j hlt
    have e : (V.cells (.ag cs)).getD j .bad = x := by simp [V.cells, List.getD, hj]
    rw [e] at this; exact this
  | _ => exact one rfl
theorem mem_getD {α : Type} {cs : List α} {d : α} {P : α → Prop} (h : ∀ j, j < cs.length → P (cs.getD j d)) : ∀ x ∈ cs, P x := fun x hx => by
  obtain ⟨j, hj⟩ := List.getElem?_of_mem hx
  have := h j (List.getElem?_eq_some_iff.1 hj).1
  rw [List.getD, hj] at this; exact this
theorem VRep.nm_of {cx : Cx} {h : Array Obj} {n : Nat → Prop} {v : V} {x : Value} (hv : VRep cx h n v x) : Nm n v := by
  induction hv with
  | bad v => exact .bad
  | b x => exact .b x
  | i k x => exact .i k x
  | s l => exact .s l
  | np => exact .np
  | p l o hl => exact .p l o hl
  | q v o b d f h1 hz hc _ ih => exact .q v o (nm_of_cells ih)
  | ns => exact .ns
  | sl sz l o k c cap hl hk hc => exact .sl sz l o k c hl
  | pu0 sz c hc => exact .pu sz [] c (fun x hx => by simp at hx) (fun k hk => by subst hk; exact hc.elim)
  | pu sz xs c a cap f ha h1 hs hz hc _ hl hr hp ih =>
    refine .pu sz xs c (mem_getD (d := .bad) fun i hi => nm_of_cells fun j hj => ih i j hi (by rw [hs i hi] at hj; exact hj)) (fun k hk => ?_)
    subst hk
    exact hr.1
  | tp b t => exact .tp b t
  | nm => exact .nm
  | m l hl => exact .m l hl
  | fn f cs vs hs _ ih => exact .fn f cs (mem_getD ih)
  | nf => exact .nf
  | ifc t v x _ ih => exact .ifc t v ih
  | ni => exact .ni
  | ag cs vs hs h1 _ ih => exact .ag cs (mem_getD ih)
  | tu cs vs hs _ ih => exact .tu cs (mem_getD ih)
  | yl l hl => exact .yl l hl
  | se sz l a cap hl hc => exact .se sz l hl
def Tidy (s : St) : Prop := Good s ∧ ∀ l cs z t, s.get l = some (.c cs z t) → ∀ c ∈ cs, Nm s.L c
theorem Rel.tidy {cx : Cx} {s : St} {h : Array Obj} (R : Rel cx s h) : Tidy s := by
  refine ⟨⟨fun l o hg => R.name_L hg, R.gl⟩, fun l cs z t hg => ?_⟩
  obtain ⟨arr, el, lo, hi, a1, a2, a3, a4, a5⟩ := R.obj l _ hg
  exact mem_getD (d := .bad) fun j hj => (a4 j hj).nm_of
section
variable {gt : Nat → Option V} {P : Program}
theorem Den.tidy {f : FuncId} {args : List V} {s s' : St} {v : V} (h : Tidy s → Den gt P f args s v s') : Den gt P f args s v s' := fun cx w xs R G A => h R.tidy cx w xs R G A
def NoX (s : St) : Prop := ∀ l o, s.get l ≠ some (.x o)
section
variable {z : St} {tk : Option Nat} {sz : Nat} {v : V} {xs : List V}
end
theorem krun_bsl1 {e : List V} {s : St} {t : Nat} {z v : V} {x : Arg} (hx : x.ev e = v) (hv : v.isVal = true) (hc : v.cells = [v]) : KRun gt P e s (.a (.bsl t true false 1 1 [z] [(0, 1, x)])) (.pu 1 [v] (.x 1)) s := by
  subst hx
  show aop e s (.bsl t true false 1 1 [z] [(0, 1, x)]) = _
  simp [aop, fillp, hv, hc, setAt, chunks]
  rfl
theorem ERep.vw {cx : Cx} {h : Array Obj} {n : Nat → Prop} {e : List V} {tmps : Array Value} (E : ERep gt cx h n e tmps) {t : Nat} {v u : V} (hv : Nth e t v) (hw : Vw v u) : ERep gt cx h n (e.set t u) tmps := by
  refine ⟨E.gl, by rw [List.length_set]; exact E.len, fun j => ?_⟩
  by_cases hj : j = t
  · subst hj
    have h1 := E.rep j
    rw [hv.get] at h1
    have hlt : j < e.length := by
      have : ∀ {e : List V} {n : Nat} {v : V}, Nth e n v → n < e.length := fun h => by
        induction h with
        | zero => simp
        | succ _ ih => simpa using ih
      exact this hv
    have e1 : (e.set j u).getD j unV = u := by rw [List.getD, List.getElem?_set_self hlt]; rfl
    rw [e1]; exact h1.weak hw
  · have e1 : (e.set t u).getD j unV = e.getD j unV := by rw [List.getD, List.getElem?_set_ne (Ne.symm hj)]; rfl
    rw [e1]; exact E.rep j
theorem HM.vw {sb : St} {c : C} {e : List V} {s : St} {Q : XM → List V → St → Prop} {t : Nat} {v u : V} (hv : Nth e t v) (hw : Vw v u) (h : fSet e t u fun e => HM gt P sb c e s Q) : HM gt P sb c e s Q :=
  ⟨fun wf code hc cxb wb cx w act N => by
    rw [fSet_eq] at h
    exact (h.out wf) code hc cxb wb cx w act ⟨N.E.vw hv hw, N.hd, N.R, N.X, N.q⟩⟩
end
end Rf
namespace Rf
open Go
section
variable {gt : Nat → Option V} {P : Program} {sb : St} {e : List V} {s : St} {Q : XM → List V → St → Prop}
end
end Rf
namespace Rf
open Go
section
variable {gt : Nat → Option V} {P : Program} {e : List V} {s : St} {d : Option Nat} {r : List I} {next : List V → St → Prop}
theorem q3 {a : Arg} {l o off : Nat} (h : fSetD e d (.p l (o + off)) fun e => HO gt P r e s next) (h1 : a.ev e = .p l o := by exact rfl) : HO gt P ({ d := d, g := none, k := .a (.fa off a) } :: r) e s next := HO.opA (krun_fa h1) h
theorem q5 {x y : Arg} {sz l o n i : Nat} {c : Option Nat} {k : IntKind} (h : fSetD e d (.p l (o + i * sz)) fun e => HO gt P r e s next) (h1 : x.ev e = .sl sz l o n c := by exact rfl) (h2 : y.ev e = .i k ((i : Nat) : Int) := by exact rfl) (h3 : i < n := by assumption) :
    HO gt P ({ d := d, g := none, k := .a (.ia sz x y) } :: r) e s next := HO.opA (krun_ia h1 h2 h3) h
theorem q6 {t : Nat} {v : V} (h : fSetD e d v fun e => HO gt P r e s next) (h1 : Nth e t v := by repeat (first | exact Nth.zero | with_reducible apply Nth.succ)) : HO gt P ({ d := d, g := none, k := .a (.mov (.t t)) } :: r) e s next := HO.opA (krun_mov h1) h
theorem q9 {a : Arg} {v : V} {o : Nat} (h : wqK gt P e s (.a (.load1 a)) (hN gt P d r next e)) (h1 : a.ev e = .q v o := by exact rfl) : HO gt P ({ d := d, g := none, k := .a (.load1 a) } :: r) e s next := HO.lq1 h1 h
theorem q10 {n : Nat} {a : Arg} {v : V} {o : Nat} (h : wqK gt P e s (.a (.loadn n a)) (hN gt P d r next e)) (h1 : a.ev e = .q v o := by exact rfl) : HO gt P ({ d := d, g := none, k := .a (.loadn n a) } :: r) e s next := HO.lqn h1 h
theorem q11 {t sz : Nat} {z cs : List V} {x : Arg} (h : fSetD e d (.pu sz [.ag cs] (.x 1)) fun e => HO gt P r e s next) (hx : x.ev e = .ag cs := by exact rfl) (hz : z.length = sz := by exact rfl) (hc : cs.length = sz := by exact rfl) :
    HO gt P ({ d := d, g := none, k := .a (.bsl t true true 1 sz z [(0, sz, x)]) } :: r) e s next := HO.bsl1 hx hz hc h
theorem qk {k : K} (h : wqK gt P e s k (hN gt P d r next e)) (_ : k.mem = false := by exact rfl) : HO gt P ({ d := d, g := none, k := k } :: r) e s next := HO.k h
section
variable {hist : List St} {b : Nat} {r : List (Nat × I)}
theorem d3 {a : Arg} {l o off : Nat} (h : fSetD e d (.p l (o + off)) fun e => HD gt P hist r e s next) (h1 : a.ev e = .p l o := by exact rfl) : HD gt P hist ((b, { d := d, g := none, k := .a (.fa off a) }) :: r) e s next := HD.opA0 (krun_fa h1) (Nat.ne_of_beq_eq_false rfl) (fun _ _ => krun_fa h1) h
theorem d5 {x y : Arg} {sz l o n i : Nat} {c : Option Nat} {k : IntKind} (h : fSetD e d (.p l (o + i * sz)) fun e => HD gt P hist r e s next) (h1 : x.ev e = .sl sz l o n c := by exact rfl) (h2 : y.ev e = .i k ((i : Nat) : Int) := by exact rfl) (h3 : i < n := by assumption) :
    HD gt P hist ((b, { d := d, g := none, k := .a (.ia sz x y) }) :: r) e s next := HD.opA0 (krun_ia h1 h2 h3) (Nat.ne_of_beq_eq_false rfl) (fun _ _ => krun_ia h1 h2 h3) h
theorem d6 {t : Nat} {v : V} (h : fSetD e d v fun e => HD gt P hist r e s next) (h1 : Nth e t v := by repeat (first | exact Nth.zero | with_reducible apply Nth.succ)) : HD gt P hist ((b, { d := d, g := none, k := .a (.mov (.t t)) }) :: r) e s next := HD.opA0 (krun_mov h1) (Nat.ne_of_beq_eq_false rfl) (fun _ _ => krun_mov h1) h
theorem d10 {n : Nat} {a : Arg} {v : V} {o : Nat} (h : wqK gt P e s (.a (.loadn n a)) (hDN gt P hist b d (.a (.loadn n a)) r next e s)) (h1 : a.ev e = .q v o := by exact rfl) : HD gt P hist ((b, { d := d, g := none, k := .a (.loadn n a) }) :: r) e s next := HD.lqn h1 h
theorem dk {k : K} (h : wqK gt P e s k (hDN gt P hist b d k r next e s)) (_ : k.mem = false := by exact rfl) : HD gt P hist ((b, { d := d, g := none, k := k }) :: r) e s next := HD.k h
end
end
end Rf
