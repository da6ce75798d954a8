/-
  A layer of own lemmas, part 4: no statement of the program stands here.
-/
import Derived.Test.YtbcapobkbgckbaaGreatDoorLC
import Derived.ProofKit
import Derived.Carry
import Derived.Test.YtbcapobkbgckbaaGreatDoorLB
set_option linter.all false
namespace Rf
open Go
def optM (f : Arg → Arg) : Option Arg → Option Arg
  | some x => some (f x)
  | none => none
def partM (f : Arg → Arg) : List (Nat × Nat × Arg) → List (Nat × Nat × Arg)
  | [] => []
  | (a, b, x) :: r => (a, b, f x) :: partM f r
def A.m (f : Arg → Arg) : A → A
  | .mov x => .mov (f x)
  | .pick c a b => .pick (f c) (f a) (f b)
  | .alloc t z => .alloc t z
  | .box t w x => .box t w (f x)
  | .build z ps => .build z (partM f ps)
  | .bsl t w ag n sz z ps => .bsl t w ag n sz z (partM f ps)
  | .load1 a => .load1 (f a)
  | .loadn n a => .loadn n (f a)
  | .store n a v => .store n (f a) (f v)
  | .nilc x => .nilc (f x)
  | .bin op x y => .bin op (f x) (f y)
  | .eql ng kd x y => .eql ng kd (f x) (f y)
  | .not x => .not (f x)
  | .neg x => .neg (f x)
  | .conv k x => .conv k (f x)
  | .s2b t w x => .s2b t w (f x)
  | .b2s x => .b2s (f x)
  | .fa off x => .fa off (f x)
  | .fld off n x => .fld off n (f x)
  | .ia sz x i => .ia sz (f x) (f i)
  | .iaA sz ln x i => .iaA sz ln (f x) (f i)
  | .idxA sz ag ln x i => .idxA sz ag ln (f x) (f i)
  | .idxS x i => .idxS (f x) (f i)
  | .ext x i => .ext (f x) i
  | .len x => .len (f x)
  | .lenS x => .lenS (f x)
  | .movS x => .movS (f x)
  | .app t w ag sz bytes x y => .app t w ag sz bytes (f x) (f y)
  | .cpy sz x y => .cpy sz (f x) (f y)
  | .mks t sz bytes z n c => .mks t sz bytes z (f n) (f c)
  | .slS x l h => .slS (f x) (optM f l) (optM f h)
  | .slc sz x l h m => .slc sz (f x) (optM f l) (optM f h) (optM f m)
  | .slA sz ln x l h m => .slA sz ln (f x) (optM f l) (optM f h) (optM f m)
  | .mkf g cap => .mkf g (cap.map f)
  | .mki t x => .mki t (f x)
  | .mmx max x y => .mmx max (f x) (f y)
  | .xr x => .xr (f x)
  | .u1 x => .u1 (f x)
  | .u2 t n x => .u2 t n (f x)
  | .usd x => .usd (f x)
  | .ustr t x n => .ustr t (f x) (f n)
  | .cnt x c => .cnt (f x) (f c)
  | .ixb x c => .ixb (f x) (f c)
  | .ym n xs => .ym n (xs.map f)
theorem ev_c (e : List V) (v : V) : Arg.ev e (.c v) = v := rfl
theorem fillp_m (e : List V) : ∀ (ps : List (Nat × Nat × Arg)) (z : List V), fillp [] z (partM (fun x => .c (x.ev e)) ps) = fillp e z ps
  | [], z => by simp [partM, fillp]
  | (a, b, x) :: r, z => by
    simp only [partM, fillp, ev_c, fillp_m e r]
theorem optM_ev (e : List V) (x : Option Arg) : (optM (fun x => .c (x.ev e)) x).map (·.ev []) = x.map (·.ev e) := by
  cases x <;> rfl
theorem aop_m (e : List V) (s : St) (y : A) : aop [] s (y.m fun x => .c (x.ev e)) = aop e s y := by
  cases y <;> simp only [A.m, aop, ev_c, fillp_m, optM_ev]
  case mkf g cap => simp only [List.map_map]; rfl
  case ym n xs => simp only [List.map_map]; rfl
  case box t w x => by_cases hv : (x.ev e).isVal = true <;> simp only [hv, if_true, if_false] <;> cases w <;> rfl
  case store n a v =>
    cases a.ev e <;> rfl
  case slc sz x l h m =>
    cases m with
    | none => rfl
    | some v =>
      simp only [optM]
      cases x.ev e <;> try rfl
      case sl z i o n c => cases c <;> rfl
      case pu z xs c => cases c <;> rfl
def SR (e : Sl) (l : List V) : Prop := l.length = e.m ∧ ∀ t, e.get t = l.getD t unV
theorem SR.set {e : Sl} {l : List V} (h : SR e l) (t : Nat) (v : V) : SR (e.set t v) (l.set t v) := by
  unfold Sl.set
  split
  · rename_i hb
    have hlt : t < e.m := by simpa [Nat.blt_eq] using hb
    refine ⟨by simpa using h.1, fun j => ?_⟩
    by_cases hj : j = t
    · subst hj
      simp only [Sl.get, Tr.get_put_same _ _ _ _ (Nat.lt_succ_self _)]
      have : j < l.length := by rw [h.1]; exact hlt
      simp [List.getD, this]
    · have := h.2 j
      simp only [Sl.get] at this ⊢
      rw [Tr.get_put_ne _ _ _ _ _ _ (Nat.lt_succ_self _) (Nat.lt_succ_self _) hj, this]
      simp only [List.getD]
      rw [List.getElem?_set_ne (Ne.symm hj)]
  · rename_i hb
    have hge : ¬ t < e.m := by
      intro hlt
      have : Nat.blt t e.m = true := by simpa [Nat.blt_eq] using hlt
      rw [this] at hb; cases hb
    rw [List.set_eq_of_length_le (by rw [h.1]; omega)]
    exact h
theorem SR.setD {e : Sl} {l : List V} (h : SR e l) (d : Option Nat) (v : V) : SR (e.setD d v) (Rf.setD l d v) := by
  cases d with
  | none => exact h
  | some d => exact h.set d v
def Arg.sv (e : Sl) : Arg → V
  | .t n => e.get n
  | .c v => v
theorem SR.ev {e : Sl} {l : List V} (h : SR e l) (x : Arg) : x.sv e = x.ev l := by
  cases x with
  | t n => exact h.2 n
  | c v => rfl
theorem SR.fn {e : Sl} {l : List V} (h : SR e l) : (fun x : Arg => Arg.c (x.sv e)) = fun x => .c (x.ev l) := funext fun x => by rw [h.ev]
def aopT (e : Sl) (s : St) (y : A) : Option (V × St) := aop [] s (y.m fun x => .c (x.sv e))
theorem SR.aop {e : Sl} {l : List V} (h : SR e l) (s : St) (y : A) : aopT e s y = Rf.aop l s y := by
  unfold aopT; rw [h.fn, aop_m]
def evKT (call : Cl) (e : Sl) (s : St) : K → Option (V × St)
  | .a y => aopT e s y
  | .call f args => call f (args.map (·.sv e)) s
  | .callv f args => match f.sv e with
    | .fn g cap => call g (args.map (·.sv e) ++ cap) s
    | _ => none
  | .pan _ => none
  | .bad => none
theorem SR.evK {e : Sl} {l : List V} (h : SR e l) (call : Cl) (s : St) (k : K) : evKT call e s k = Rf.evK call l s k := by
  have hm : (fun x : Arg => x.sv e) = fun x => x.ev l := funext h.ev
  cases k with
  | a y => exact h.aop s y
  | call f args => simp only [evKT, Rf.evK, hm]
  | callv f args =>
    simp only [evKT, Rf.evK, hm, h.ev]
    generalize f.ev l = u
    cases u <;> rfl
  | pan x => rfl
  | bad => rfl
def wantedT (e : Sl) : Option (Nat × Bool) → Option Bool
  | none => some true
  | some (t, w) => match e.get t with
    | .b b => some (b == w)
    | .bad => none
    | _ => some false
theorem SR.wanted {e : Sl} {l : List V} (h : SR e l) (g : Option (Nat × Bool)) : wantedT e g = Rf.wanted l g := by
  unfold wantedT Rf.wanted
  cases g with
  | none => rfl
  | some p =>
    obtain ⟨t, w⟩ := p
    simp only [h.2]
    generalize l.getD t unV = u
    cases u <;> rfl
def evOpsT (call : Cl) : List I → Sl → St → Option (Sl × St)
  | [], e, s => some (e, s)
  | i :: r, e, s => match wantedT e i.g with
    | some true => match evKT call e s i.k with
      | some (v, s1) => evOpsT call r (e.setD i.d v) s1
      | none => none
    | some false => evOpsT call r (e.setD i.d unV) s
    | none => none
theorem evOpsT_ok (call : Cl) : ∀ (l : List I) (e : Sl) (el : List V) (s : St) (e' : Sl) (s' : St), SR e el → evOpsT call l e s = some (e', s') → ∃ el', SR e' el' ∧ evOps call l el s = some (el', s')
  | [], e, el, s, e', s', hR, h => by cases h; exact ⟨el, hR, rfl⟩
  | i :: r, e, el, s, e', s', hR, h => by
    simp only [evOpsT] at h
    simp only [evOps]
    rw [hR.wanted] at h
    split at h
    · rename_i hw
      rw [hw]
      simp only
      rw [hR.evK] at h
      split at h
      · rename_i v s1 hk
        rw [hk]
        exact evOpsT_ok call r _ _ _ _ _ (hR.setD i.d v) h
      · cases h
    · rename_i hw
      rw [hw]
      exact evOpsT_ok call r _ _ _ _ _ (hR.setD i.d unV) h
    · cases h
def againT (e : Sl) (v : V) (k : K) : List St → Bool
  | [] => true
  | t :: ts => (match k with
    | .a y => (match aopT e t y with
      | some (u, _) => sameV u v
      | none => false)
    | _ => false) && againT e v k ts
theorem SR.again {e : Sl} {l : List V} (h : SR e l) (v : V) (k : K) : ∀ ts, againT e v k ts = Rf.again l v k ts
  | [] => rfl
  | t :: ts => by
    simp only [againT, Rf.again, h.again v k ts]
    cases k with
    | a y => simp only [h.aop]; cases Rf.aop l t y <;> rfl
    | _ => rfl
def evDrwT (call : Cl) : List St → List (Nat × I) → Sl → St → Option (Sl × St)
  | _, [], e, s => some (e, s)
  | hist, (b, i) :: r, e, s => match wantedT e i.g with
    | some true => match evKT call e s i.k with
      | some (v, s1) => match i.k.cls with
        | 2 => evDrwT call (s :: hist) r (e.setD i.d v) s1
        | 0 => evDrwT call hist r (e.setD i.d v) s1
        | _ => if againT e v i.k (hist.take b) then evDrwT call hist r (e.setD i.d v) s1 else none
      | none => none
    | some false => evDrwT call (if i.k.cls = 2 then s :: hist else hist) r (e.setD i.d unV) s
    | none => none
theorem evDrwT_ok (call : Cl) : ∀ (l : List (Nat × I)) (hist : List St) (e : Sl) (el : List V) (s : St) (e' : Sl) (s' : St), SR e el → evDrwT call hist l e s = some (e', s') → ∃ el', SR e' el' ∧ evDrw call hist l el s = some (el', s')
  | [], hist, e, el, s, e', s', hR, h => by cases h; exact ⟨el, hR, rfl⟩
  | (b, i) :: r, hist, e, el, s, e', s', hR, h => by
    simp only [evDrwT] at h
    simp only [evDrw]
    rw [hR.wanted] at h
    split at h
    · rename_i hw
      rw [hw]
      simp only
      rw [hR.evK] at h
      split at h
      · rename_i v s1 hk
        rw [hk]
        simp only
        split at h
        · rename_i hc; rw [hc]; exact evDrwT_ok call r _ _ _ _ _ _ (hR.setD i.d v) h
        · rename_i hc; rw [hc]; exact evDrwT_ok call r _ _ _ _ _ _ (hR.setD i.d v) h
        · rename_i hc2 hc0
          split
          · rename_i hc; exact (hc2 hc).elim
          · rename_i hc; exact (hc0 hc).elim
          rw [hR.again] at h
          split at h
          · rename_i ha
            rw [if_pos ha]
            exact evDrwT_ok call r _ _ _ _ _ _ (hR.setD i.d v) h
          · cases h
      · cases h
    · rename_i hw
      rw [hw]
      exact evDrwT_ok call r _ _ _ _ _ _ (hR.setD i.d unV) h
    · cases h
def evLoopT (body : Sl → St → Option (X × Sl × St)) : Nat → Sl → St → Option (X × Sl × St)
  | 0, _, _ => none
  | n + 1, e, s => match body e s with
    | some (.nrm, e1, s1) => evLoopT body n e1 s1
    | r => r
def evCT (call : Cl) (n : Nat) : C → Sl → St → Option (X × Sl × St)
  | .skip, e, s => some (.nrm, e, s)
  | .ops l, e, s => match evOpsT call l e s with
    | some (e1, s1) => some (.nrm, e1, s1)
    | none => none
  | .drw l, e, s => match evDrwT call [] l e s with
    | some (e1, s1) => some (.nrm, e1, s1)
    | none => none
  | .seq a b, e, s => match evCT call n a e s with
    | some (.nrm, e1, s1) => evCT call n b e1 s1
    | r => r
  | .cond c a b, e, s => match c.sv e with
    | .b true => evCT call n a e s
    | .b false => evCT call n b e s
    | _ => none
  | .blk id a, e, s => match evCT call n a e s with
    | some (.exit i, e1, s1) => (match Nat.beq i id with | true => some (.nrm, e1, s1) | false => some (.exit i, e1, s1))
    | r => r
  | .loop a, e, s => evLoopT (evCT call n a) n e s
  | .exit id, e, s => some (.exit id, e, s)
  | .ret, e, s => some (.ret, e, s)
  | .bad, _, _ => none
theorem evLoopT_ok {bt : Sl → St → Option (X × Sl × St)} {b : List V → St → Option (X × List V × St)} (hb : ∀ e el s x e' s', SR e el → bt e s = some (x, e', s') → ∃ el', SR e' el' ∧ b el s = some (x, el', s')) :
    ∀ (n : Nat) (e : Sl) (el : List V) (s : St) (x : X) (e' : Sl) (s' : St), SR e el → evLoopT bt n e s = some (x, e', s') → ∃ el', SR e' el' ∧ evLoop b n el s = some (x, el', s')
  | 0, e, el, s, x, e', s', hR, h => by cases h
  | n + 1, e, el, s, x, e', s', hR, h => by
    simp only [evLoopT] at h
    simp only [evLoop]
    split at h
    · rename_i e1 s1 h1
      obtain ⟨el1, hR1, h2⟩ := hb _ _ _ _ _ _ hR h1
      rw [h2]
      exact evLoopT_ok hb n _ _ _ _ _ _ hR1 h
    · rename_i h0
      obtain ⟨el1, hR1, h2⟩ := hb _ _ _ _ _ _ hR h
      rw [h2]
      cases x with
      | nrm => exact (h0 _ _ h).elim
      | _ => exact ⟨el1, hR1, rfl⟩
theorem evCT_ok (call : Cl) (n : Nat) : ∀ (c : C) (e : Sl) (el : List V) (s : St) (x : X) (e' : Sl) (s' : St), SR e el → evCT call n c e s = some (x, e', s') → ∃ el', SR e' el' ∧ evC call n c el s = some (x, el', s')
  | .skip, e, el, s, x, e', s', hR, h => by cases h; exact ⟨el, hR, rfl⟩
  | .ops l, e, el, s, x, e', s', hR, h => by
    simp only [evCT] at h
    split at h
    · rename_i e1 s1 h1
      cases h
      obtain ⟨el', hR', h2⟩ := evOpsT_ok call l _ _ _ _ _ hR h1
      exact ⟨el', hR', by simp only [evC, h2]⟩
    · cases h
  | .drw l, e, el, s, x, e', s', hR, h => by
    simp only [evCT] at h
    split at h
    · rename_i e1 s1 h1
      cases h
      obtain ⟨el', hR', h2⟩ := evDrwT_ok call l _ _ _ _ _ _ hR h1
      exact ⟨el', hR', by simp only [evC, h2]⟩
    · cases h
  | .seq a b, e, el, s, x, e', s', hR, h => by
    simp only [evCT] at h
    simp only [evC]
    split at h
    · rename_i e1 s1 h1
      obtain ⟨el1, hR1, h2⟩ := evCT_ok call n a _ _ _ _ _ _ hR h1
      rw [h2]
      exact evCT_ok call n b _ _ _ _ _ _ hR1 h
    · rename_i h0
      obtain ⟨el1, hR1, h2⟩ := evCT_ok call n a _ _ _ _ _ _ hR h
      rw [h2]
      cases x with
      | nrm => exact (h0 _ _ h).elim
      | _ => exact ⟨el1, hR1, rfl⟩
  | .cond c a b, e, el, s, x, e', s', hR, h => by
    simp only [evCT] at h
    simp only [evC]
    rw [hR.ev] at h
    split at h
    · rename_i hc; rw [hc]; exact evCT_ok call n a _ _ _ _ _ _ hR h
    · rename_i hc; rw [hc]; exact evCT_ok call n b _ _ _ _ _ _ hR h
    · cases h
  | .blk id a, e, el, s, x, e', s', hR, h => by
    simp only [evCT] at h
    simp only [evC]
    split at h
    · rename_i i e1 s1 h1
      obtain ⟨el1, hR1, h2⟩ := evCT_ok call n a _ _ _ _ _ _ hR h1
      rw [h2]
      simp only
      split at h
      · rename_i hb
        have : i = id := Nat.eq_of_beq_eq_true hb
        cases h
        exact ⟨el1, hR1, by rw [if_pos this]⟩
      · rename_i hb
        have : ¬ i = id := Nat.ne_of_beq_eq_false hb
        cases h
        exact ⟨el1, hR1, by rw [if_neg this]⟩
    · rename_i h0
      obtain ⟨el1, hR1, h2⟩ := evCT_ok call n a _ _ _ _ _ _ hR h
      rw [h2]
      cases x with
      | exit i => exact (h0 _ _ _ h).elim
      | _ => exact ⟨el1, hR1, rfl⟩
  | .loop a, e, el, s, x, e', s', hR, h => by
    simp only [evCT] at h
    simp only [evC]
    exact evLoopT_ok (fun e el s x e' s' hR h => evCT_ok call n a e el s x e' s' hR h) n _ _ _ _ _ _ hR h
  | .exit id, e, el, s, x, e', s', hR, h => by cases h; exact ⟨el, hR, rfl⟩
  | .ret, e, el, s, x, e', s', hR, h => by cases h; exact ⟨el, hR, rfl⟩
  | .bad, e, el, s, x, e', s', hR, h => by cases h
def Sl.lay : Nat → List V → Tr V → Tr V
  | _, [], t => t
  | i, v :: r, t => Sl.lay (i + 1) r (Tr.put (some v) (i + 1) t i)
def Sl.of (args : List V) (m : Nat) : Sl := ⟨Sl.lay 0 args .e, max m args.length⟩
theorem lay_get : ∀ (args : List V) (i : Nat) (t : Tr V) (j : Nat), Tr.get (j + 1) (Sl.lay i args t) j = if i ≤ j ∧ j < i + args.length then args[j - i]? else Tr.get (j + 1) t j
  | [], i, t, j => by simp [Sl.lay]; omega
  | v :: r, i, t, j => by
    rw [Sl.lay, lay_get r (i + 1) _ j]
    by_cases h1 : i + 1 ≤ j ∧ j < i + 1 + r.length
    · rw [if_pos h1, if_pos (by simp; omega)]
      have : j - i = (j - (i + 1)) + 1 := by omega
      rw [this]; simp
    · rw [if_neg h1]
      by_cases h2 : j = i
      · subst h2
        rw [Tr.get_put_same _ _ _ _ (Nat.lt_succ_self _), if_pos (by simp)]
        simp
      · rw [Tr.get_put_ne _ _ _ _ _ _ (Nat.lt_succ_self _) (Nat.lt_succ_self _) h2, if_neg (by simp; omega)]
theorem SR.of (args : List V) (m : Nat) : SR (Sl.of args m) (args ++ List.replicate (m - args.length) unV) := by
  refine ⟨by simp [Sl.of]; omega, fun t => ?_⟩
  simp only [Sl.of, Sl.get, lay_get, Nat.zero_le, true_and, Nat.zero_add, Nat.sub_zero, Tr.get_e]
  by_cases ht : t < args.length
  · rw [if_pos ht]
    simp only [List.getD]
    rw [List.getElem?_append_left ht, List.getElem?_eq_getElem ht]
    rfl
  · rw [if_neg ht]
    simp only [List.getD]
    rw [List.getElem?_append_right (by omega), List.getElem?_replicate]
    split <;> rfl
def resVT (e : Sl) (s : St) : List Rs → Option (List V)
  | [] => some []
  | r :: rs =>
    match (match r with
      | .t t => some (e.get t)
      | .c1 t => (aopT e s (.load1 (.t t))).map (·.1)
      | .cn t n => (aopT e s (.loadn n (.t t))).map (·.1)) with
    | none => none
    | some v => match resVT e s rs with
      | none => none
      | some vs => some (v :: vs)
theorem SR.resV {e : Sl} {l : List V} (h : SR e l) (s : St) : ∀ rs, resVT e s rs = Rf.resV l s rs
  | [] => rfl
  | r :: rs => by
    simp only [resVT, Rf.resV, h.resV s rs]
    cases r <;> simp only [h.2, h.aop]
    · cases Rf.resV l s rs <;> rfl
    · cases (Rf.aop l s (A.load1 (Arg.t _))).map (·.1) <;> cases Rf.resV l s rs <;> rfl
    · cases (Rf.aop l s (A.loadn _ (Arg.t _))).map (·.1) <;> cases Rf.resV l s rs <;> rfl
def evFT (tb : Nat → Option F) (n : Nat) : Nat → Cl
  | 0, _, _, _ => none
  | d + 1, f, args, s => match tb f with
    | none => none
    | some F => match evCT (evFT tb n d) n F.body (Sl.of args F.nt) s with
      | some (x, e1, s1) => match x with
        | .exit _ => none
        | _ => match resVT e1 s1 F.res with
          | some vs => some (packV vs, s1)
          | none => none
      | none => none
section
variable {gt : Nat → Option V} {P : Program}
theorem evFT_ok (hm : P.follows .mixedOrders = true) {wf : Nat → Nat → Nat → Bool} {tb : Nat → Option F} (ht : TbOk gt P wf tb) (n : Nat) : ∀ d, ClOk gt P (evFT tb n d)
  | 0, f, args, s, v, s', h => by cases h
  | d + 1, f, args, s, v, s', h => by
    simp only [evFT] at h
    split at h
    · cases h
    · rename_i F hF
      split at h
      · rename_i x e1 s1 hx
        obtain ⟨el1, hR1, hx'⟩ := evCT_ok (evFT tb n d) n F.body _ _ _ _ _ _ (SR.of args F.nt) hx
        split at h
        · cases h
        · rename_i hne
          rw [hR1.resV] at h
          split at h
          · rename_i vs hvs
            cases h
            refine ⟨ht.k f F hF, Den.of (ht.c f F hF) ((evC_ok hm (evFT_ok hm ht n d) n _ _ _ _ _ _ hx').mono fun x1 e2 s2 ⟨g1, g2, g3⟩ => ?_)⟩
            subst g1; subst g2; subst g3
            refine ⟨?_, s2, vs, Sub.refl _, rfl, hvs, rfl⟩
            cases x1 with
            | nrm => exact .inl rfl
            | ret => exact .inr rfl
            | exit i => exact (hne i rfl).elim
          · cases h
      · cases h
end
end Rf
namespace Rf
open Go Go.ChangeShapes Go.WideShapes Go.ChangeAt Go.RowKit
def cx0 (W : World) : Cx := { r := fun _ => default, tk := fun _ => default, fz := fun b o => (cellAt W.heap b o).isSome = true }
def s0 : St := { h := .e, n := 0 }
theorem s0_get (l : Nat) : s0.get l = none := by simp [St.get, s0, Tr.get]
theorem rel0 (W : World) : Rel (cx0 W) s0 W.heap where
  wf := fun l _ => s0_get l
  gl := fun l h => by simp [s0] at h
  obj := fun l o h => by rw [s0_get] at h; cases h
  inj := fun l _ o _ h => by rw [s0_get] at h; cases h
  fzl := fun b o h => h
  fzo := fun l _ _ _ h => by rw [s0_get] at h; cases h
  fzt := fun l _ h => by rw [s0_get] at h; cases h
structure Old (W W' : World) : Prop where
  os : W'.os = W.os
  out : W'.output = W.output
  size : W.heap.size ≤ W'.heap.size
  block : ∀ b, b < W.heap.size → W'.heap[b]? = W.heap[b]?
theorem old_of {W W' : World} {cx' : Cx} {s' : St} (E : Ext (cx0 W) s0 W.heap cx' s' W'.heap) (q : Qt W W') : Old W W' :=
  ⟨q.os, q.out, E.size, fun b hb => E.frame b hb (fun ⟨l, o, h, _⟩ => by rw [s0_get] at h; cases h)⟩
theorem Old.kept {W W' : World} (h : Old W W') (may : MemPlace → Prop) : W.keptBut W' may := by
  refine ⟨h.os, h.out, fun i hi => ?_⟩
  rw [h.block i hi]
  split
  · rename_i h1 h2
    rw [h1] at h2; cases h2
    exact ⟨rfl, rfl, rfl, fun _ _ => rfl⟩
  · rename_i h1 h2
    rw [h1] at h2; cases h2
    exact .inr ⟨rfl, rfl⟩
  · rfl
theorem Old.same {W W' : World} (h : Old W W') {p : MemPlace} (hp : p.block < W.heap.size) : W.sameAt W' p := by
  cases p with
  | cell b o => exact World.cell?_of_block (w := W) (h.block b hp)
  | map b => exact h.block b hp
section
variable {H : Type} {enc : TypeId × Value → H} {P : Program}
theorem trodAll_stays (hl : laidOutB P = true) {W W' : World} (h : Old W W') {sp : Nat → Bool} : ∀ {ts : List TypeId} {vs : List Value} {ds : List (DataW H)} {ps : List MemPlace},
    (ts.all fun t => P.readableRec t && decide (t < P.types.size)) = true → DataW.TrodAll enc P W 0 (fun _ => true) true ts vs ds ps → (∀ p ∈ ps, p.block < W.heap.size) → (∀ p ∈ ps, sp p.block = true) → DataW.TrodAll enc P W' 0 sp true ts vs ds ps
  | [], _, _, _, _, ht, _, _ => by
    obtain ⟨rfl, rfl, rfl⟩ := trodAll_nil ht
    exact rfl
  | t :: ts, _, _, _, hr, ht, hlt, hs => by
    obtain ⟨v, vs1, d, ds1, a, b, rfl, rfl, rfl, h1, h2⟩ := trodAll_cons ht
    simp only [List.all_cons, Bool.and_eq_true, decide_eq_true_eq] at hr
    exact ⟨a, b, WideElems.Trod_stays hl hr.1.1 hr.1.2 h1 (fun p hp => h.same (hlt p (List.mem_append_left _ hp))) (fun p hp => hs p (List.mem_append_left _ hp)),
      trodAll_stays hl h hr.2 h2 (fun p hp => hlt p (List.mem_append_right _ hp)) (fun p hp => hs p (List.mem_append_right _ hp)), rfl⟩
theorem post_same {f : Func} {s : ChangeSpec} {apart fresh handsOn again : Bool} {W W' : World} {args : Array Value} {v : Value} {ds gs : List (DataW H)} {before pa pv : List MemPlace}
    (hW : DataW.Whole enc P f.params.toList s.vars apart W args.toList ds gs before)
    (hres : ∀ (b : Nat) (sp : Nat → Bool) (hd : Bool), DataW.TrodAll enc P W' b sp hd f.resultTypes.toList (v.resultList f.resultTypes.size) (s.fn H (ds ++ gs)).results [])
    (hargs : ∀ sp : Nat → Bool, (∀ p ∈ before, sp p.block = true) → DataW.TrodAll enc P W' 0 sp true f.params.toList args.toList (s.fn H (ds ++ gs)).args pa)
    (hvars : ∀ sp : Nat → Bool, (∀ p ∈ before, sp p.block = true) → DataW.TrodVars enc P W' sp s.vars (s.fn H (ds ++ gs)).vars pv)
    (hps : before = pa ++ pv) (hk : W.keptBut W' (· ∈ before)) (hfz : ∀ a : Addr, a.block < W.heap.size → W'.frozen? a = W.frozen? a)
    (hok : ∀ (j : Nat) (t : TypeId) (r : Value), f.resultTypes[j]? = some t → (v.resultList f.resultTypes.size)[j]? = some r → Value.okWide P W' .any 0 t r) :
    s.post enc P f apart fresh handsOn again W args v W' := by
  have hlt := hW.lt
  have hold : ∀ p ∈ before, (fun b => decide (b < W.heap.size)) p.block = true := fun p hp => by simpa using hlt p hp
  refine ⟨ds, gs, before, [], pa, pv, hW, hres _ _ _, hargs _ hold, hvars _ hold, World.keptBut_mono (fun p hp => ⟨hp, ?_⟩) hk, fun _ => ?_⟩
  · rw [hps, List.mem_append] at hp
    exact Or.inr hp
  · obtain ⟨_, _, _, _, _, hz, hn⟩ := hW
    refine ⟨hok, _, _, ([] ++ pa) ++ pv, ⟨[] ++ pa, pv, trodAll_append (hargs _ (fun _ _ => rfl)) (hres _ _ _), hvars _ (fun _ _ => rfl), rfl, ?_, ?_⟩, ?_⟩
    · intro b off hp
      have hp' : MemPlace.cell b off ∈ before := by rw [hps]; simpa using hp
      rw [hfz _ (hlt _ hp')]
      exact hz b off hp'
    · intro ha
      have := hn ha
      rw [hps] at this
      simpa using this
    · intro p hp _
      rw [hps]
      simpa using hp
theorem law_post {gt : Nat → Option V} {f : FuncId} {fn : Func} {s : ChangeSpec} {apart fresh handsOn again : Bool} {W : World} {args : Array Value} {ds gs : List (DataW H)} {before : List MemPlace} {vs : List V} {s' : St} {tb : TypeId}
    (hl : laidOutB P = true) (hr : (fn.params.toList.all fun t => P.readableRec t && decide (t < P.types.size)) = true) (hrt : fn.resultTypes = #[tb]) (htb : P.underlying tb = some .bool)
    (hvars : s.vars = []) (hfn : ∀ gs, (s.fn H (ds ++ gs)) = if gs = [] then { results := [.lit (.bool true)], args := ds } else s.fn H (ds ++ gs))
    (hW : DataW.Whole enc P fn.params.toList s.vars apart W args.toList ds gs before)
    (hG : GRep gt (cx0 W) W.heap s0.L) (hA : ARep (cx0 W) W.heap s0.L vs args) (hD : Den gt P f vs s0 (.b true) s') :
    Calls P f args W fun e W' => ∃ v, e = .returned v ∧ s.post enc P fn apart fresh handsOn again W args v W' := by
  refine (hD (cx0 W) W args (rel0 W) hG hA).mono fun e W' ⟨x, cx', h1, h2, h3, h4, h5⟩ => ?_
  have hO := old_of h4 h5
  cases h2
  refine ⟨_, h1, ?_⟩
  have hW' := hW
  obtain ⟨p, q, hA0, hV, rfl, hfz, hnd⟩ := hW
  rw [hvars] at hV
  obtain ⟨rfl, rfl⟩ := trodVars_none hV
  have e1 := hfn []
  rw [if_pos rfl] at e1
  have hlt := hW'.lt
  simp only [List.append_nil] at hlt
  refine post_same (pa := p) (pv := []) hW' (fun b sp hd => ?_) (fun sp hs => ?_) (fun sp hs => ?_) rfl (hO.kept _) (fun a ha => ?_) (ok_one hrt rfl (okWide_bool_mk htb _))
  · rw [e1, hrt]; exact trodAll_mk1 (shut_bool htb _)
  · rw [e1]
    simp only [List.append_nil] at hs
    exact trodAll_stays hl hO hr hA0 hlt hs
  · rw [e1, hvars]; exact rfl
  · unfold World.frozen?; rw [hO.block _ ha]
end
end Rf
namespace Rf
open Go
inductive Nm (n : Nat → Prop) : V → Prop
  | bad : Nm n .bad
  | b (x : Bool) : Nm n (.b x)
  | i (k : IntKind) (x : Int) : Nm n (.i k x)
  | s (l : List UInt8) : Nm n (.s l)
  | np : Nm n .np
  | p (l o : Nat) (h : n l) : Nm n (.p l o)
  | q (v : V) (o : Nat) (h : Nm n v) : Nm n (.q v o)
  | ns : Nm n .ns
  | sl (sz l o k : Nat) (c : Option Nat) (h : n l) : Nm n (.sl sz l o k c)
  | pu (sz : Nat) (xs : List V) (c : Cap) (h : ∀ x ∈ xs, Nm n x) (hc : ∀ k, c = .t k → n k) : Nm n (.pu sz xs c)
  | tp (b t : Nat) : Nm n (.tp b t)
  | nm : Nm n .nm
  | m (l : Nat) (h : n l) : Nm n (.m l)
  | fn (f : Nat) (cs : List V) (h : ∀ x ∈ cs, Nm n x) : Nm n (.fn f cs)
  | nf : Nm n .nf
  | ifc (t : Nat) (v : V) (h : Nm n v) : Nm n (.ifc t v)
  | ni : Nm n .ni
  | ag (cs : List V) (h : ∀ x ∈ cs, Nm n x) : Nm n (.ag cs)
  | tu (cs : List V) (h : ∀ x ∈ cs, Nm n x) : Nm n (.tu cs)
  | yl (l : Nat) (h : n l) : Nm n (.yl l)
  | se (sz l : Nat) (h : n l) : Nm n (.se sz l)
theorem Nm.mono {n m : Nat → Prop} (hm : ∀ l, n l → m l) {v : V} (h : Nm n v) : Nm m v := by
  induction h with
  | bad => exact .bad
  | b x => exact .b x
  | i k x => exact .i k x
  | s l => exact .s l
  | np => exact .np
  | p l o h => exact .p l o (hm _ h)
  | q v o _ ih => exact .q v o ih
  | ns => exact .ns
  | sl sz l o k c h => exact .sl sz l o k c (hm _ h)
  | pu sz xs c _ hc ih => exact .pu sz xs c ih (fun k hk => hm _ (hc k hk))
  | tp b t => exact .tp b t
  | nm => exact .nm
  | m l h => exact .m l (hm _ h)
  | fn f cs _ ih => exact .fn f cs ih
  | nf => exact .nf
  | ifc t v _ ih => exact .ifc t v ih
  | ni => exact .ni
  | ag cs _ ih => exact .ag cs ih
  | tu cs _ ih => exact .tu cs ih
  | yl l h => exact .yl l (hm _ h)
  | se sz l h => exact .se sz l (hm _ h)
theorem Nm.getD {n : Nat → Prop} {cs : List V} (h : ∀ x ∈ cs, Nm n x) (j : Nat) : Nm n (cs.getD j .bad) := by
  rw [List.getD]
  cases hj : cs[j]? with
  | none => exact .bad
  | some x => exact h x (List.mem_of_getElem? hj)
theorem Nm.cells {n : Nat → Prop} {v : V} (h : Nm n v) : ∀ x ∈ v.cells, Nm n x := by
  intro x hx
  cases h <;> simp only [V.cells, List.mem_singleton] at hx <;> first
    | (subst hx; first | exact .bad | exact .b _ | exact .i _ _ | exact .s _ | exact .np | exact .ns | exact .nm | exact .nf | exact .ni | exact .tp _ _)
    | (subst hx; exact .p _ _ (by assumption))
    | (subst hx; exact .q _ _ (by assumption))
    | (subst hx; exact .sl _ _ _ _ _ (by assumption))
    | (subst hx; exact .pu _ _ _ (by assumption) (by assumption))
    | (subst hx; exact .m _ (by assumption))
    | (subst hx; exact .yl _ (by assumption))
    | (subst hx; exact .se _ _ (by assumption))
    | (subst hx; exact .fn _ _ (by assumption))
    | (subst hx; exact .ifc _ _ (by assumption))
    | (subst hx; exact .tu _ (by assumption))
    | (rename_i h; exact h x hx)
theorem VRep.names {cx cx' : Cx} {h h' : Array Obj} {n n' : Nat → Prop} (hr : ∀ l, n' l → cx'.r l = cx.r l) (ht : ∀ l, n' l → cx'.tk l = cx.tk l) (hf : ∀ b o, cx.fz b o → cx'.fz b o) (hcl : ∀ b o, cx.fz b o → cellAt h' b o = cellAt h b o)
    {v : V} {x : Value} (hv : VRep cx h n v x) : Nm n' v → VRep cx' h' n' v x := by
  induction hv with
  | bad v => intro _; exact .bad v
  | b x => intro _; exact .b x
  | i k x => intro _; exact .i k x
  | s l => intro _; exact .s l
  | np => intro _; exact .np
  | p l o hl => intro hn; cases hn with | p _ _ h => rw [← hr l h]; exact .p l o h
  | q v o b d f h1 hz hc _ ih =>
    intro hn
    cases hn with
    | q _ _ hn => exact .q v o b d f h1 (fun j hj => hf _ _ (hz j hj)) (fun j hj => by rw [hcl _ _ (hz j hj)]; exact hc j hj) (fun j hj => ih j hj (Nm.getD hn.cells j))
  | ns => intro _; exact .ns
  | sl sz l o k c cap hl hk hc => intro hn; cases hn with | sl _ _ _ _ _ h => rw [← hr l h]; exact .sl sz l o k c cap h hk (by unfold slR at hc ⊢; rw [hr l h]; exact hc)
  | pu0 sz c hc => intro _; exact .pu0 sz c hc
  | pu sz xs c a cap f ha h1 hs hz hc _ hl hrr hp ih =>
    intro hn
    cases hn with
    | pu _ _ _ hx hk =>
      refine .pu sz xs c a cap f ha h1 hs (fun i j hi hj => hf _ _ (hz i j hi hj)) (fun i j hi hj => by rw [hcl _ _ (hz i j hi hj)]; exact hc i j hi hj) (fun i j hi hj => ih i j hi hj (Nm.getD (Nm.getD hx i).cells j)) hl ?_ hp
      cases c with
      | u => trivial
      | z => trivial
      | x c => exact hrr
      | t k =>
        obtain ⟨h1, h2, h3, h4⟩ := hrr
        have := hk k rfl
        exact ⟨this, by rw [ht k this]; exact h2, by rw [ht k this]; exact h3, h4⟩
  | tp b t => intro _; exact .tp b t
  | nm => intro _; exact .nm
  | m l hl => intro hn; cases hn with | m _ h => rw [← hr l h]; exact .m l h
  | fn f cs vs hs _ ih => intro hn; cases hn with | fn _ _ hn => exact .fn f cs vs hs (fun j hj => ih j hj (Nm.getD hn j))
  | nf => intro _; exact .nf
  | ifc t v x _ ih => intro hn; cases hn with | ifc _ _ hn => exact .ifc t v x (ih hn)
  | ni => intro _; exact .ni
  | ag cs vs hs h1 _ ih => intro hn; cases hn with | ag _ hn => exact .ag cs vs hs h1 (fun j hj => ih j hj (Nm.getD hn j))
  | tu cs vs hs _ ih => intro hn; cases hn with | tu _ hn => exact .tu cs vs hs (fun j hj => ih j hj (Nm.getD hn j))
  | yl l hl => intro hn; cases hn with | yl _ h => rw [← hr l h]; exact .yl l h
  | se sz l a cap hl hc => intro hn; cases hn with | se _ _ h => exact .se sz l a cap h (by rw [hr l h]; exact hc)
section
variable {gt : Nat → Option V} {P : Program}
theorem rel_s0 {cx : Cx} {s : St} {h : Array Obj} (R : Rel cx s h) : Rel cx s0 h where
  wf := fun l _ => s0_get l
  gl := fun l h => by simp [s0] at h
  obj := fun l o h => by rw [s0_get] at h; cases h
  inj := fun l _ o _ h => by rw [s0_get] at h; cases h
  fzl := R.fzl
  fzo := fun l _ _ _ h => by rw [s0_get] at h; cases h
  fzt := fun l _ h => by rw [s0_get] at h; cases h
theorem not_own_s0 (cx : Cx) (b : Nat) : ¬ Own cx s0 b := fun ⟨l, o, h, _⟩ => by rw [s0_get] at h; cases h
def GNm (gt : Nat → Option V) : Prop := ∀ g v, gt g = some v → Nm s0.L v
theorem Den.pure {f : FuncId} {args : List V} {v : V} {s' : St} (hgt : GNm gt) (ha : ∀ x ∈ args, Nm s0.L x) (hv : Nm s0.L v) (h : Den gt P f args s0 v s') (s : St) : Den gt P f args s v s := by
  intro cx w xs R G A
  have keep : ∀ {v : V} {x : Value}, Nm s0.L v → VRep cx w.heap s.L v x → VRep cx w.heap s0.L v x := fun hn hr => VRep.names (n' := s0.L) (fun _ h => (Nat.not_lt_zero _ h.1).elim) (fun _ h => (Nat.not_lt_zero _ h.1).elim) (fun _ _ h => h) (fun _ _ _ => rfl) hr hn
  refine (h cx w xs (rel_s0 R) (fun g v hg => ⟨keep (.q _ _ (hgt g v hg)) (G g v hg).1, (G g v hg).2⟩) ⟨A.len, fun j hj => keep (Nm.getD ha j) (A.rep j hj)⟩).mono fun e w' ⟨x, cx', h1, h2, h3, h4, h5⟩ => ?_
  -- the caller's objects, al9 they were
  have hfzc : ∀ b o, cx.fz b o → cellAt w'.heap b o = cellAt w.heap b o := h4.later.cell
  let cx2 : Cx := { r := cx.r, tk := cx.tk, fz := cx'.fz }
  have L : Later cx w.heap s.L cx2 w'.heap s.L := ⟨fun _ h => h, fun _ _ => rfl, fun _ _ => .inl rfl, h4.later.fz, hfzc, h4.later.sz⟩
  have hblk : ∀ b, b < w.heap.size → w'.heap[b]? = w.heap[b]? := fun b hb => h4.frame b hb (not_own_s0 cx b)
  have hnew : ∀ b o, cx'.fz b o → b < w.heap.size → cx.fz b o := fun b o hf hb => by
    rcases h4.nfz b o hf with h6 | h6 | h6
    · exact h6
    · exact (not_own_s0 cx b h6).elim
    · omega
  refine ⟨x, cx2, h1, VRep.names (n' := s.L) (fun l hl => ?_) (fun l hl => ?_) (fun _ _ h => h) (fun _ _ _ => rfl) (VRep.names (cx := cx') (cx' := { r := cx.r, tk := cx.tk, fz := cx'.fz }) (h' := w'.heap) (n' := s0.L) (fun _ h => (Nat.not_lt_zero _ h.1).elim) (fun _ h => (Nat.not_lt_zero _ h.1).elim) (fun _ _ h => h) (fun _ _ _ => rfl) h2 hv) (hv.mono fun _ h => (Nat.not_lt_zero _ h.1).elim), ?_, ?_, h5⟩
  · rfl
  · rfl
  · refine ⟨R.wf, R.gl, fun l o hg => ?_, R.inj, h3.fzl, fun l cs z ty hg o hf => ?_, fun l e hg o hf => ?_⟩
    · have h6 := R.obj l o hg
      have hb : blk cx l o < w.heap.size := R.own_lt ⟨l, o, hg, rfl⟩
      cases o with
      | c cs z ty =>
        obtain ⟨arr, el, lo, hi, a1, a2, a3, a4, a5⟩ := h6
        exact ⟨arr, el, lo, hi, by rw [← a1]; exact hblk _ hb, a2, a3, fun j hj => (a4 j hj).later L, a5⟩
      | t e =>
        obtain ⟨arr, el, lo, hi, a1, a2, a3, a4⟩ := h6
        exact ⟨arr, el, lo, hi, by rw [← a1]; exact hblk _ hb, a2, a3, a4⟩
      | x o => exact ⟨h6.1, XRep.later L (hblk _ hb) h6.2⟩
    · exact R.fzo l cs z ty hg o (hnew _ _ hf (R.own_lt ⟨l, _, hg, rfl⟩))
    · exact R.fzt l e hg o (hnew _ _ hf (R.own_lt ⟨l, _, hg, rfl⟩))
  · exact ⟨L, h4.size, fun b hb _ => hblk b hb, fun b hb => .inl hb, fun b o hf => by
      rcases h4.nfz b o hf with h6 | h6 | h6
      · exact .inl h6
      · exact (not_own_s0 cx b h6).elim
      · exact .inr (.inr h6)⟩
end
end Rf
namespace Rf
open Go
structure Now (gt : Nat → Option V) (cxb : Cx) (wb : World) (cx : Cx) (e : List V) (s : St) (act : Act) (w : World) : Prop where
  E : ERep gt cx w.heap s.L e act.tmps
  hd : act.defers = []
  R : Rel cx s w.heap
  X : Ext cxb s0 wb.heap cx s w.heap
  q : Qt wb w
def Cf (gt : Nat → Option V) (P : Program) (wf : Nat → Nat → Bool) (c : C) (e : List V) (s : St) (Q : X → List V → St → Prop) : Prop :=
  ∀ code, cC gt P wf code = c → ∀ (cxb : Cx) (wb : World) (cx : Cx) (w : World) (act : Act), Now gt cxb wb cx e s act w →
    code.wp P (fun ex a' w' => ∃ x e' s' cx', exitOf x = ex ∧ Q x e' s' ∧ Now gt cxb wb cx' e' s' a' w') act w
def XNm (n : Nat → Prop) : Ox → Prop
  | .mp es _ => ∀ x ∈ es, Nm n x.1 ∧ Nm n x.2.1
  | _ => False
theorem XRep.names {cx : Cx} {h : Array Obj} {n n' : Nat → Prop} {b : Nat} {o : Ox} (H : XRep cx h n b o) (hn : XNm n' o) : XRep cx h n' b o := by
  cases o with
  | mp es clk =>
    obtain ⟨ml, h1, h2⟩ := H
    refine ⟨ml, h1, ?_⟩
    have aux : ∀ {es : List (V × V × Nat)} {ml : List MapEntry}, All2 (ER cx h n) es ml → (∀ x ∈ es, Nm n' x.1 ∧ Nm n' x.2.1) → All2 (ER cx h n') es ml := by
      intro es ml hA
      induction hA with
      | nil => intro _; exact .nil
      | @cons x y l m hx hr ih =>
        intro hh
        have h1 := hh x (List.mem_cons_self ..)
        exact .cons ⟨hx.1, VRep.names (fun _ _ => rfl) (fun _ _ => rfl) (fun _ _ h => h) (fun _ _ _ => rfl) hx.2.1 h1.1, VRep.names (fun _ _ => rfl) (fun _ _ => rfl) (fun _ _ h => h) (fun _ _ _ => rfl) hx.2.2 h1.2⟩ (ih fun z hz => hh z (List.mem_cons_of_mem _ hz))
    exact aux h2 hn
  | it => exact hn.elim
  | lp => exact hn.elim
  | df => exact hn.elim
structure Wk (e1 : List V) (s1 : St) (e : List V) (s : St) : Prop where
  f : Forg e1 e
  g : ∀ l o, s1.get l = some o → s.get l = some o
  gl : ∀ l ∈ s1.g, l < s1.n
  l : ∀ l o, s1.get l = some o → s1.L l
  o : s1.L = s.L ∨ (∀ l cs z t, s1.get l = some (.c cs z t) → ∀ c ∈ cs, Nm s1.L c)
  x : s1.L = s.L ∨ ∀ l o, s1.get l = some (.x o) → XNm s1.L o
  e : s1.L = s.L ∨ (∀ v ∈ e1, Nm s1.L v)
section
variable {gt : Nat → Option V} {P : Program} {wf : Nat → Nat → Bool} {e : List V} {s : St} {Q : X → List V → St → Prop}
theorem Now.wk {cxb : Cx} {wb : World} {cx : Cx} {act : Act} {w : World} (hgt : GNm gt) (N : Now gt cxb wb cx e s act w) {e1 : List V} {s1 : St} (k : Wk e1 s1 e s) : Now gt cxb wb cx e1 s1 act w := by
  have nm : ∀ {v : V} {x : Value}, (s1.L = s.L ∨ Nm s1.L v) → VRep cx w.heap s.L v x → VRep cx w.heap s1.L v x := fun hn hv => by
    rcases hn with hn | hn
    · rw [hn]; exact hv
    · exact VRep.names (fun _ _ => rfl) (fun _ _ => rfl) (fun _ _ h => h) (fun _ _ _ => rfl) hv hn
  have E1 := N.E.forg k.f
  have hsz := N.E.len
  refine ⟨⟨fun g v hg => ⟨nm (.inr (.q _ _ ((hgt g v hg).mono fun _ h => (Nat.not_lt_zero _ h.1).elim))) (N.E.gl g v hg).1, (N.E.gl g v hg).2⟩, E1.len, fun t => nm ?_ (E1.rep t)⟩, N.hd, ?_, ?_, N.q⟩
  · rcases k.e with h | h
    · exact .inl h
    · right
      rw [List.getD]
      cases ht : e1[t]? with
      | none => exact .tu [] (fun x hx => by simp at hx)
      | some v => exact h v (List.mem_of_getElem? ht)
  · refine ⟨fun l hl => ?_, k.gl, fun l o hg => ?_, fun l l' o o' h1 h2 => N.R.inj l l' o o' (k.g l o h1) (k.g l' o' h2), N.R.fzl, fun l cs z t hg => N.R.fzo l cs z t (k.g l _ hg), fun l e hg => N.R.fzt l e (k.g l _ hg)⟩
    · cases hg : s1.get l with
      | none => rfl
      | some o => exact (hl (k.l l o hg)).elim
    · have ho := N.R.obj l o (k.g l o hg)
      cases o with
      | c cs z ty =>
        obtain ⟨arr, el, lo, hi, a1, a2, a3, a4, a5⟩ := ho
        refine ⟨arr, el, lo, hi, a1, a2, a3, fun j hj => nm ?_ (a4 j hj), a5⟩
        rcases k.o with h | h
        · exact .inl h
        · exact .inr (Nm.getD (h l cs z ty hg) j)
      | t e => exact ho
      | x o =>
        rcases k.x with h | h
        · show _ ∧ XRep cx w.heap s1.L _ o; rw [h]; exact ho
        · exact ⟨ho.1, ho.2.names (h l o hg)⟩
  · refine ⟨⟨fun _ h => (Nat.not_lt_zero _ h.1).elim, N.X.later.r, N.X.later.tk, N.X.later.fz, N.X.later.cell, N.X.later.sz⟩, N.X.size, N.X.frame, fun b ⟨l, o, hg, hb⟩ => N.X.own b ⟨l, o, k.g l o hg, hb⟩, N.X.nfz⟩
theorem Co.cf {c : C} (h : Co gt P wf c e s Q) : Cf gt P wf c e s Q := fun code hc cxb wb cx w act N =>
  wp_mono (h code hc cx w act N.E N.hd N.R) fun _ _ _ ⟨x, e', s', h1, h2, cx', x1, x2, x3, x4, x5⟩ => ⟨x, e', s', cx', h1, h2, x1, x2, x3, N.X.trans x4, N.q.trans x5⟩
theorem Cf.mono {c : C} {Q' : X → List V → St → Prop} (h : Cf gt P wf c e s Q) (hq : ∀ x e' s', Q x e' s' → Q' x e' s') : Cf gt P wf c e s Q' := fun code hc cxb wb cx w act N =>
  wp_mono (h code hc cxb wb cx w act N) fun _ _ _ ⟨x, e', s', cx', h1, h2, h3⟩ => ⟨x, e', s', cx', h1, hq _ _ _ h2, h3⟩
theorem Cf.pre {c : C} {e1 : List V} {s1 : St} (hgt : GNm gt) (k : Wk e1 s1 e s) (h : Cf gt P wf c e1 s1 Q) : Cf gt P wf c e s Q := fun code hc cxb wb cx w act N =>
  h code hc cxb wb cx w act (N.wk hgt k)
theorem Cf.seq {a b : C} (h : Cf gt P wf a e s fun x e' s' => match x with | .nrm => Cf gt P wf b e' s' Q | x => Q x e' s') : Cf gt P wf (.seq a b) e s Q := by
  intro code hc cxb wb cx w act N
  cases code with
  | seq ca cb =>
    simp only [cC, C.seq.injEq] at hc
    refine wp_seq (wp_mono (h ca hc.1 cxb wb cx w act N) fun ex a' w' ⟨x, e', s', cx', h1, h2, h3⟩ => ?_)
    subst h1
    cases x with
    | nrm => exact h2 cb hc.2 cxb wb cx' w' a' h3
    | ret => exact ⟨.ret, e', s', cx', rfl, h2, h3⟩
    | exit id => exact ⟨.exit id, e', s', cx', rfl, h2, h3⟩
  | region id ops draw =>
    simp only [cC] at hc
    split at hc
    · split at hc
      · split at hc <;> cases hc
      · cases hc
    · cases hc
  | cond c a b => simp only [cC] at hc; split at hc <;> cases hc
  | _ => simp only [cC] at hc; cases hc
theorem Cf.blk {id : Nat} {a : C} (h : Cf gt P wf a e s fun x e' s' => match x with | .exit i => if i = id then Q .nrm e' s' else Q (.exit i) e' s' | x => Q x e' s') : Cf gt P wf (.blk id a) e s Q := by
  intro code hc cxb wb cx w act N
  cases code with
  | block id' ca =>
    simp only [cC, C.blk.injEq] at hc
    obtain ⟨rfl, hc⟩ := hc
    refine wp_block (wp_mono (h ca hc cxb wb cx w act N) fun ex a' w' ⟨x, e', s', cx', h1, h2, h3⟩ => ?_)
    subst h1
    cases x with
    | nrm => exact ⟨.nrm, e', s', cx', rfl, h2, h3⟩
    | ret => exact ⟨.ret, e', s', cx', rfl, h2, h3⟩
    | exit i =>
      simp only [exitOf, Exit.inBlock]
      by_cases hi : i = id'
      · simp only [hi, if_true] at h2 ⊢
        exact ⟨.nrm, e', s', cx', rfl, h2, h3⟩
      · simp only [hi, if_false] at h2 ⊢
        exact ⟨.exit i, e', s', cx', rfl, h2, h3⟩
  | region id ops draw =>
    simp only [cC] at hc
    split at hc
    · split at hc
      · split at hc <;> cases hc
      · cases hc
    · cases hc
  | cond c a b => simp only [cC] at hc; split at hc <;> cases hc
  | _ => simp only [cC] at hc; cases hc
theorem Cf.cond {c : Arg} {a b : C} {t : Bool} (hc0 : c.ev e = .b t) (h : Cf gt P wf (if t then a else b) e s Q) : Cf gt P wf (.cond c a b) e s Q := by
  intro code hc cxb wb cx w act N
  cases code with
  | cond c' ca cb =>
    simp only [cC] at hc
    split at hc
    · rename_i c1 hc1
      cases hc
      have hr := arg_rep N.E hc1
      rw [hc0] at hr
      generalize hx : act.eval c' = x at hr
      cases hr
      refine wp_cond hx ?_
      cases t
      · exact h cb rfl cxb wb cx w act N
      · exact h ca rfl cxb wb cx w act N
    · cases hc
  | region id ops draw =>
    simp only [cC] at hc
    split at hc
    · split at hc
      · split at hc <;> cases hc
      · cases hc
    · cases hc
  | _ => simp only [cC] at hc; cases hc
theorem Cf.loop {c : C} (hgt : GNm gt) (Inv : Nat → List V → St → Prop) {n : Nat} (h0 : Inv n e s) (round : ∀ n e s, Inv n e s → Cf gt P wf c e s fun x e' s' => match x with | .nrm => ∃ m e1 s1, m < n ∧ Wk e1 s1 e' s' ∧ Inv m e1 s1 | x => Q x e' s') : Cf gt P wf (.loop c) e s Q := by
  intro code hc cxb wb cx w act N
  cases code with
  | loop cc =>
    simp only [cC, C.loop.injEq] at hc
    refine wp_loop_gen (fun n a' w' => ∃ e1 s1 cx1, Inv n e1 s1 ∧ Now gt cxb wb cx1 e1 s1 a' w') (fun n a' w' ⟨e1, s1, cx1, hi, N1⟩ => ?_) (n := n) ⟨e, s, cx, h0, N⟩
    refine wp_mono (round n e1 s1 hi cc hc cxb wb cx1 w' a' N1) fun ex a'' w'' ⟨x, e2, s2, cx2, g1, g2, g3⟩ => ?_
    subst g1
    cases x with
    | nrm =>
      obtain ⟨m, e3, s3, hm, hk, hi'⟩ := g2
      exact ⟨m, hm, e3, s3, cx2, hi', g3.wk hgt hk⟩
    | ret => exact ⟨.ret, e2, s2, cx2, rfl, g2, g3⟩
    | exit id => exact ⟨.exit id, e2, s2, cx2, rfl, g2, g3⟩
  | region id ops draw =>
    simp only [cC] at hc
    split at hc
    · split at hc
      · split at hc <;> cases hc
      · cases hc
    · cases hc
  | cond c a b => simp only [cC] at hc; split at hc <;> cases hc
  | _ => simp only [cC] at hc; cases hc
def PDen (gt : Nat → Option V) (P : Program) (f : FuncId) (args : List V) (v : V) : Prop := ∀ s, Den gt P f args s v s
theorem results_rep {cx : Cx} {w : World} {act : Act} (E : ERep gt cx w.heap s.L e act.tmps) (R : Rel cx s w.heap) {fn : Func} {rs : List Rs} (hrs : mapO (cRs P) fn.results.toList = some rs) {vs : List V} (hv : resV e s rs = some vs) :
    ∃ y, (results fn act.tmps).run P w = .ok y w ∧ VRep cx w.heap s.L (packV vs) y := by
  obtain ⟨ys, y1, y2, y3⟩ := loadVar_rep E R fn.results.toList rs hrs vs hv
  have hres : (results fn act.tmps).run P w = .ok (if h : ys.toArray.size = 1 then ys.toArray[0] else .tuple ys.toArray) w := by
    have : results fn act.tmps = (do let vs ← fn.results.mapM (resM act.tmps); pure (if h : vs.size = 1 then vs[0] else .tuple vs)) := rfl
    rw [this, Sem.run_bind, Array.mapM_eq_mapM_toList, Sem.run_map, y1]
    rfl
  refine ⟨_, hres, ?_⟩
  unfold packV
  split
  · rename_i v1
    have hl : ys.length = 1 := by rw [y2]; rfl
    have := y3 0 (by simp)
    obtain ⟨y, rfl⟩ := List.length_eq_one_iff.1 hl
    simpa using this
  · rename_i hne
    have hl : ys.toArray.size ≠ 1 := by
      intro hl
      have : vs.length = 1 := by rw [← y2]; simpa using hl
      obtain ⟨y, rfl⟩ := List.length_eq_one_iff.1 this
      exact hne y rfl
    rw [dif_neg hl]
    refine .tu vs ys.toArray (by simp [y2]) (fun j hj => ?_)
    have := y3 j hj
    simpa [Array.getD_eq_getD_getElem?, List.getD] using this
inductive Vw1 : V → V → Prop
  | refl (v : V) : Vw1 v v
  | pu (n : Nat) (xs : List V) (c : Cap) : Vw1 (.pu n xs c) (.pu n xs .u)
  | ns (n : Nat) : Vw1 .ns (.pu n [] .u)
  | bad (v : V) : Vw1 v .bad
inductive Vwa : V → V → Prop
  | one {v u : V} (h : Vw1 v u) : Vwa v u
  | ag (vs us : List V) (h : All2 Vw1 vs us) : Vwa (.ag vs) (.ag us)
inductive Vw : V → V → Prop
  | one {v u : V} (h : Vw1 v u) : Vw v u
  | tu (vs us : List V) (h : All2 Vw1 vs us) : Vw (.tu vs) (.tu us)
  | ag (vs us : List V) (h : All2 Vw1 vs us) : Vw (.ag vs) (.ag us)
  | tus (vs us : List V) (h : All2 Vwa vs us) : Vw (.tu vs) (.tu us)
theorem Vw.refl (v : V) : Vw v v := .one (.refl v)
theorem VRep.weak1 {cx : Cx} {h : Array Obj} {n : Nat → Prop} {v u : V} {x : Value} (hw : Vw1 v u) (hv : VRep cx h n v x) : VRep cx h n u x := by
  cases hw with
  | refl => exact hv
  | pu n' xs c =>
    cases hv with
    | pu0 => exact .pu0 _ _ trivial
    | pu _ _ _ a cap f ha h1 hs hz hc hv hl hr hp => exact .pu _ xs .u a cap f ha h1 hs hz hc hv hl trivial (fun k hk => by cases hk)
  | ns n' => cases hv; exact .pu0 _ _ trivial
  | bad v => exact .bad _
theorem VRep.weaka {cx : Cx} {h : Array Obj} {n : Nat → Prop} {v u : V} {x : Value} (hw : Vwa v u) (hv : VRep cx h n v x) : VRep cx h n u x := by
  cases hw with
  | one h1 => exact hv.weak1 h1
  | ag vs us hA =>
    cases hv with
    | ag _ ys hs hone hr =>
      refine .ag us ys (by rw [hs]; exact hA.len) (fun j hj => hone j (by rw [hA.len]; exact hj)) (fun j hj => ?_)
      have hj' : j < vs.length := by rw [hA.len]; exact hj
      obtain ⟨b, hb, hw⟩ := all2_get hA j vs[j] (by simp [hj'])
      have h1 := hr j hj'
      have e1 : vs.getD j .bad = vs[j] := by simp [List.getD, hj']
      have e2 : us.getD j .bad = b := by simp [List.getD, hb]
      rw [e1] at h1
      rw [e2]
      exact h1.weak1 hw
theorem VRep.weak {cx : Cx} {h : Array Obj} {n : Nat → Prop} {v u : V} {x : Value} (hw : Vw v u) (hv : VRep cx h n v x) : VRep cx h n u x := by
  cases hw with
  | one h1 => exact hv.weak1 h1
  | tu vs us hA =>
    cases hv with
    | tu _ ys hs hr =>
      refine .tu us ys (by rw [hs]; exact hA.len) (fun j hj => ?_)
      have hj' : j < vs.length := by rw [hA.len]; exact hj
      obtain ⟨b, hb, hw⟩ := all2_get hA j vs[j] (by simp [hj'])
      have h1 := hr j hj'
      have e1 : vs.getD j .bad = vs[j] := by simp [List.getD, hj']
      have e2 : us.getD j .bad = b := by simp [List.getD, hb]
      rw [e1] at h1
      rw [e2]
      exact h1.weak1 hw
  | ag vs us hA =>
    cases hv with
    | ag _ ys hs hone hr =>
      refine .ag us ys (by rw [hs]; exact hA.len) (fun j hj => hone j (by rw [hA.len]; exact hj)) (fun j hj => ?_)
      have hj' : j < vs.length := by rw [hA.len]; exact hj
      obtain ⟨b, hb, hw⟩ := all2_get hA j vs[j] (by simp [hj'])
      have h1 := hr j hj'
      have e1 : vs.getD j .bad = vs[j] := by simp [List.getD, hj']
      have e2 : us.getD j .bad = b := by simp [List.getD, hb]
      rw [e1] at h1
      rw [e2]
      exact h1.weak1 hw
  | tus vs us hA =>
    cases hv with
    | tu _ ys hs hr =>
      refine .tu us ys (by rw [hs]; exact hA.len) (fun j hj => ?_)
      have hj' : j < vs.length := by rw [hA.len]; exact hj
      obtain ⟨b, hb, hw⟩ := all2_get hA j vs[j] (by simp [hj'])
      have h1 := hr j hj'
      have e1 : vs.getD j .bad = vs[j] := by simp [List.getD, hj']
      have e2 : us.getD j .bad = b := by simp [List.getD, hb]
      rw [e1] at h1
      rw [e2]
      exact h1.weaka hw
theorem PDen.ofw {f : FuncId} {F : F} {args : List V} {v : V} (hgt : GNm gt) (hF : cF gt P wf f = some F) (ha : ∀ x ∈ args, Nm s0.L x) (hv : Nm s0.L v)
    (h : Cf gt P wf F.body (args ++ List.replicate (F.nt - args.length) unV) s0 fun x e1 s1 => (x = .nrm ∨ x = .ret) ∧ ∃ vs, resV e1 s1 F.res = some vs ∧ Vw (packV vs) v) : PDen gt P f args v := by
  refine fun s => Den.pure hgt ha hv (s' := s0) ?_ s
  intro cx w xs R G A
  unfold cF at hF
  split at hF
  · cases hF
  · rename_i fn hfn
    split at hF
    · cases hF
    · rename_i b hb
      split at hF
      · rename_i rs hrs
        cases hF
        simp only at h
        have E0 : ERep gt cx w.heap s0.L (args ++ List.replicate (fn.ntmps - args.length) unV) (xs ++ Array.replicate (fn.ntmps - xs.size) undef) := by
          refine ⟨G, by simp [A.len], fun t => ?_⟩
          by_cases ht : t < args.length
          · have h1 := A.rep t ht
            have e1 : (args ++ List.replicate (fn.ntmps - args.length) unV).getD t unV = args.getD t .bad := by
              simp only [List.getD]; rw [List.getElem?_append_left ht, List.getElem?_eq_getElem ht]; rfl
            have e2 : (xs ++ Array.replicate (fn.ntmps - xs.size) undef).getD t undef = xs.getD t undef := by
              apply arrGetD_eq; rw [Array.getElem?_append_left (by rw [A.len]; exact ht)]
            rw [e1, e2]; exact h1
          · have e1 : (args ++ List.replicate (fn.ntmps - args.length) unV).getD t unV = unV := by
              simp only [List.getD]; rw [List.getElem?_append_right (by omega), List.getElem?_replicate]
              split <;> rfl
            have e2 : (xs ++ Array.replicate (fn.ntmps - xs.size) undef).getD t undef = undef := by
              rw [Array.getD_eq_getD_getElem?, Array.getElem?_append_right (by rw [A.len]; omega), Array.getElem?_replicate]
              split <;> rfl
            rw [e1, e2]; exact VRep.un _ _ _
        refine calls_of_wp hfn hb (wp_mono (h b rfl cx w cx w { tmps := xs ++ Array.replicate (fn.ntmps - xs.size) undef, defers := [] } ⟨E0, rfl, R, .refl _ _ _, .rfl⟩) fun ex a' w' ⟨x, e1, s1, cx', h1, ⟨h2, vs, h3, h4⟩, N⟩ => ?_)
        have hfin : a'.defers = [] ∧ ∃ y, (results fn a'.tmps).run P w' = .ok y w' ∧ ∃ z cx', Ending.returned y = .returned z ∧ VRep cx' w'.heap s0.L v z ∧ Rel cx' s0 w'.heap ∧ Ext cx s0 w.heap cx' s0 w'.heap ∧ Qt w w' := by
          obtain ⟨y, y1, y2⟩ := results_rep N.E N.R hrs h3
          refine ⟨N.hd, y, y1, y, cx', rfl, VRep.names (n' := s0.L) (fun _ h => (Nat.not_lt_zero _ h.1).elim) (fun _ h => (Nat.not_lt_zero _ h.1).elim) (fun _ _ h => h) (fun _ _ _ => rfl) (VRep.weak h4 y2) hv, rel_s0 N.R, ?_, N.q⟩
          exact ⟨⟨fun _ h => h, N.X.later.r, N.X.later.tk, N.X.later.fz, N.X.later.cell, N.X.later.sz⟩, N.X.size, N.X.frame, fun b hb => (not_own_s0 _ b hb).elim, N.X.nfz⟩
        rcases h2 with rfl | rfl
        · subst h1; exact hfin
        · subst h1; exact hfin
      · cases hF
theorem PDen.of {f : FuncId} {F : F} {args : List V} {v : V} (hgt : GNm gt) (hF : cF gt P wf f = some F) (ha : ∀ x ∈ args, Nm s0.L x) (hv : Nm s0.L v)
    (h : Cf gt P wf F.body (args ++ List.replicate (F.nt - args.length) unV) s0 fun x e1 s1 => (x = .nrm ∨ x = .ret) ∧ ∃ vs, resV e1 s1 F.res = some vs ∧ packV vs = v) : PDen gt P f args v :=
  PDen.ofw hgt hF ha hv (h.mono fun _ _ _ ⟨h1, vs, h2, h3⟩ => ⟨h1, vs, h2, h3 ▸ .refl _⟩)
def brB (b : Bool) (x y : Prop) : Prop := match b with
  | true => x
  | false => y
theorem brB_iff {b : Bool} {x y : Prop} : brB b x y ↔ (b = true → x) ∧ (b = false → y) := by cases b <;> simp [brB]
theorem brB.t {b : Bool} {x y : Prop} (h : brB b x y) (hb : b = true) : x := (brB_iff.1 h).1 hb
theorem brB.f {b : Bool} {x y : Prop} (h : brB b x y) (hb : b = false) : y := (brB_iff.1 h).2 hb
abbrev Hint := Nat → Option (V × Option St)
def owes (gt : Nat → Option V) (P : Program) (e : List V) (s : St) (k : K) (v : V) (s' : St) : Prop :=
  match k with
  | .a (.ia sz x i) => match x.ev e, i.ev e, v with
    | .pu z xs _, .i _ k, .q m 0 => (z = sz ∧ s' = s) ∧ 0 ≤ k ∧ xs[k.toNat]? = some m
    | _, _, _ => KRun gt P e s (.a (.ia sz x i)) v s'
  | .call f args => s' = s ∧ PDen gt P f (args.map (·.ev e)) v
  | k => KRun gt P e s k v s'
def wpK (gt : Nat → Option V) (P : Program) (hv : Hint) (e : List V) (s : St) (d : Option Nat) (k : K) (next : V → St → Prop) : Prop :=
  match d.bind hv with
  | some (v, none) => owes gt P e s k v s ∧ next v s
  | some (v, some s') => owes gt P e s k v s' ∧ next v s'
  | none => match k with
    | .a (.pick c a b) => match c.ev e with
      | .b t => brB t (next (a.ev e) s) (next (b.ev e) s)
      | _ => False
    | .a y => match aop e s y with
      | some (v, s') => next v s'
      | none => False
    | _ => False
theorem set_self {e : List V} {t : Nat} {b : Bool} (h : e.getD t unV = .b b) : e.set t (.b b) = e := by
  apply List.ext_getElem?
  intro j
  rw [List.getElem?_set]
  by_cases hj : t = j
  · subst hj
    rw [if_pos rfl]
    rw [List.getD] at h
    cases ht : e[t]? with
    | none => rw [ht] at h; cases h
    | some x =>
      rw [ht] at h
      have : x = .b b := h
      subst this
      have hlt := (List.getElem?_eq_some_iff.1 ht).1
      rw [if_pos hlt]
  · rw [if_neg hj]
def stays (gt : Nat → Option V) (P : Program) (e : List V) (v : V) (k : K) : List St → Prop
  | [] => True
  | t :: ts => (match k with
    | .a y => (match aop e t y with
      | some (u, _) => u = v
      | none => False)
    | _ => False) ∧ stays gt P e v k ts
theorem stays_ok {e : List V} {v : V} {k : K} (hk1 : k.cls ≠ 2) : ∀ {l : List St}, stays gt P e v k l → ∀ t ∈ l, KRun gt P e t k v t
  | [], _, t, ht => by simp at ht
  | a :: l, h, t, ht => by
    rcases List.mem_cons.1 ht with rfl | ht
    · cases k with
      | a y =>
        have h1 := h.1
        simp only at h1
        split at h1
        · rename_i u s1 hu
          subst h1
          have hk : KRun gt P e t (.a y) u s1 := hu
          have := krun_cls hk1 hk
          subst this
          exact hu
        · exact h1.elim
      | _ => exact h.1.elim
    · exact stays_ok hk1 h.2 t ht
def fin (rs : List Rs) (v : V) (x : X) (e : List V) (s : St) : Prop :=
  match x with
  | .exit _ => False
  | _ => match resV e s rs with
    | some vs => packV vs = v
    | none => False
theorem fin_ok {rs : List Rs} {v : V} {x : X} {e : List V} {s : St} (h : fin rs v x e s) : (x = .nrm ∨ x = .ret) ∧ ∃ vs, resV e s rs = some vs ∧ packV vs = v := by
  unfold fin at h
  split at h
  · exact h.elim
  · rename_i hx
    split at h
    · rename_i vs hvs
      refine ⟨?_, vs, hvs, h⟩
      cases x with
      | nrm => exact .inl rfl
      | ret => exact .inr rfl
      | exit i => exact (hx i rfl).elim
    · exact h.elim
end
end Rf
namespace Rf
open Go
def K.isAl : K → Bool
  | .a (.alloc _ _) => true
  | _ => false
inductive RunDN (gt : Nat → Option V) (P : Program) (Q : List V → St → Prop) : List St → List (Nat × I) → List V → St → Prop
  | nil {hist : List St} {e : List V} {s : St} (h : Q e s) : RunDN gt P Q hist [] e s
  | step {hist : List St} {b : Nat} {x : I} {r : List (Nat × I)} {e : List V} {s : St} {v : V} {s1 : St} (hs : Stp gt P x (hist.take b) e s v s1) (h : RunDN gt P Q (if x.k.cls = 2 then s :: hist else hist) r (setD e x.d v) s1) : RunDN gt P Q hist ((b, x) :: r) e s
  | last {hist : List St} {b : Nat} {x : I} {e : List V} {s : St} (Rr : V → St → Prop) (hw : wanted e x.g = some true) (hc : x.k.cls = 2) (hk : KRel gt P e s x.k Rr) (h : ∀ v s1, Rr v s1 → Q (setD e x.d v) s1) : RunDN gt P Q hist [(b, x)] e s
  | rel {hist : List St} {b : Nat} {x : I} {r : List (Nat × I)} {e : List V} {s : St} (Rr : V → St → Prop) (hw : wanted e x.g = some true) (hc : x.k.cls = 2) (hk : KRel gt P e s x.k Rr) (hne : ∃ v s1, Rr v s1) (ha : ∀ y ∈ r, y.2.k.isAl = false) (h : ∀ v s1, Rr v s1 → RunDN gt P Q (s :: hist) r (setD e x.d v) s1) : RunDN gt P Q hist ((b, x) :: r) e s
section
variable {gt : Nat → Option V} {P : Program}
theorem krel_congr {e e' : List V} {s : St} {k : K} {Rr : V → St → Prop} (h : Ag k.ts e e') (hk : KRel gt P e s k Rr) : KRel gt P e' s k Rr := by
  cases k with
  | a y => simp only [KRel] at hk ⊢; rw [← aop_congr (y := y) h]; exact hk
  | call f args => simp only [KRel] at hk ⊢; rw [← Ag.args h]; exact hk
  | callv f args => obtain ⟨g, cap, h1, h2, h3⟩ := hk; exact ⟨g, cap, by rw [← Ag.arg (x := f) h.left]; exact h1, h2, by rw [← Ag.args h.right]; exact h3⟩
  | pan x => exact hk
  | bad => exact hk
theorem RunDN.skip {Q : List V → St → Prop} {hist : List St} {b : Nat} {i : I} {r : List (Nat × I)} {e : List V} {s : St} (hw : wanted e i.g = some false) (h : RunDN gt P Q (if i.k.cls = 2 then s :: hist else hist) r (setD e i.d unV) s) : RunDN gt P Q hist ((b, i) :: r) e s :=
  .step (.inl ⟨hw, rfl, rfl⟩) h
theorem RunDN.op0 {Q : List V → St → Prop} {hist : List St} {b : Nat} {i : I} {r : List (Nat × I)} {e : List V} {s : St} (v : V) (hw : wanted e i.g = some true) (hc : i.k.cls ≠ 2) (hk : KRun gt P e s i.k v s) (hb : ∀ t ∈ hist.take b, KRun gt P e t i.k v t)
    (h : RunDN gt P Q hist r (setD e i.d v) s) : RunDN gt P Q hist ((b, i) :: r) e s := .step (.inr ⟨hw, hk, fun _ => hb⟩) (by rw [if_neg hc]; exact h)
theorem RunDN.op2 {Q : List V → St → Prop} {hist : List St} {b : Nat} {i : I} {r : List (Nat × I)} {e : List V} {s : St} (v : V) (s1 : St) (hw : wanted e i.g = some true) (hc : i.k.cls = 2) (hk : KRun gt P e s i.k v s1)
    (h : RunDN gt P Q (s :: hist) r (setD e i.d v) s1) : RunDN gt P Q hist ((b, i) :: r) e s := .step (.inr ⟨hw, hk, fun h => (h hc).elim⟩) (by rw [if_pos hc]; exact h)
def EndT (l : List (Nat × I)) : Prop := (∀ x, l.getLast? = some x → ∃ a, x.2.k = .a a) ∧ (l.length ≤ 1 ∨ ∃ l' x y, l = l' ++ [x, y] ∧ x.2.k.isAl = true)
theorem EndT.tail {x : Nat × I} {r : List (Nat × I)} (h : EndT (x :: r)) : EndT r := by
  obtain ⟨h1, h2⟩ := h
  refine ⟨fun y hy => h1 y ?_, ?_⟩
  · cases r with
    | nil => cases hy
    | cons z r => rw [List.getLast?_cons_cons]; exact hy
  · rcases h2 with h2 | ⟨l', a, b, h2, h3⟩
    · left; simp only [List.length_cons] at h2; omega
    · cases l' with
      | nil => left; simp only [List.nil_append, List.cons.injEq] at h2; rw [h2.2]; simp
      | cons z l' => right; simp only [List.cons_append, List.cons.injEq] at h2; exact ⟨l', a, b, h2.2, h3⟩
theorem EndT.rel {x : Nat × I} {r : List (Nat × I)} (h : EndT (x :: r)) (ha : ∀ y ∈ r, y.2.k.isAl = false) : ∃ a, x.2.k = .a a := by
  obtain ⟨h1, h2⟩ := h
  rcases h2 with h2 | ⟨l', a, b, h2, h3⟩
  · have hr : r = [] := List.length_eq_zero_iff.1 (by simp only [List.length_cons] at h2; omega)
    subst hr
    exact h1 x rfl
  · cases l' with
    | nil =>
      simp only [List.nil_append, List.cons.injEq] at h2
      have h4 : x.2.k.isAl = true := by rw [h2.1]; exact h3
      cases hk : x.2.k with
      | a y => exact ⟨y, rfl⟩
      | call f al9 => rw [hk] at h4; cases h4
      | callv f al9 => rw [hk] at h4; cases h4
      | pan y => rw [hk] at h4; cases h4
      | bad => rw [hk] at h4; cases h4
    | cons z l' =>
      simp only [List.cons_append, List.cons.injEq] at h2
      have h4 := ha a (by rw [h2.2]; simp)
      rw [h3] at h4; cases h4
theorem RunDN.det {Q : List V → St → Prop} : ∀ (l : List (Nat × I)) (hist : List St) (e : List V) (s : St), RunDN gt P Q hist l e s → EndT l → ∃ e' s', RunD gt P hist l e s e' s' ∧ Q e' s'
  | [], hist, e, s, h, _ => by cases h with | nil h => exact ⟨e, s, .nil _ _ _, h⟩
  | (b, x) :: r, hist, e, s, h, hl => by
    cases h with
    | step hs h =>
      obtain ⟨e', s', h1, h2⟩ := RunDN.det r _ _ _ h hl.tail
      exact ⟨e', s', .step hs h1, h2⟩
    | last Rr hw hc hk h =>
      obtain ⟨a, ha⟩ := hl.1 (b, x) rfl
      simp only at ha
      rw [ha] at hk
      obtain ⟨v, s1, h1, h2⟩ := hk
      exact ⟨_, _, .op2 v s1 hw hc (by rw [ha]; exact h1) (.nil _ _ _), h v s1 h2⟩
    | rel Rr hw hc hk hne hal h =>
      obtain ⟨a, ha⟩ := hl.rel hal
      simp only at ha
      rw [ha] at hk
      obtain ⟨v, s1, h1, h2⟩ := hk
      obtain ⟨e', s', h3, h4⟩ := RunDN.det r _ _ _ (h v s1 h2) hl.tail
      exact ⟨e', s', .op2 v s1 hw hc (by rw [ha]; exact h1) h3, h4⟩
theorem krun_fun {e : List V} {s s1 s2 : St} {k : K} {v u : V} (hc : k.cls ≠ 2) (h1 : KRun gt P e s k v s1) (h2 : KRun gt P e s k u s2) : v = u := by
  cases k with
  | a y =>
    have h1 : aop e s y = some (v, s1) := h1
    have h2 : aop e s y = some (u, s2) := h2
    rw [h1] at h2; cases h2; rfl
  | call f args => exact (hc rfl).elim
  | callv f args => exact (hc rfl).elim
  | pan x => exact (hc rfl).elim
  | bad => exact (hc rfl).elim
theorem Stp.det {y : I} {h1 h2 : List St} {e : List V} {s s1 s2 : St} {v u : V} (hc : y.k.cls ≠ 2) (a : Stp gt P y h1 e s v s1) (b : Stp gt P y h2 e s u s2) : v = u := by
  rcases a with ⟨a1, a2, a3⟩ | ⟨a1, a2, a3⟩ <;> rcases b with ⟨b1, b2, b3⟩ | ⟨b1, b2, b3⟩
  · rw [a2, b2]
  · rw [a1] at b1; cases b1
  · rw [a1] at b1; cases b1
  · exact krun_fun hc a2 b2
theorem RunDN.pull {Q : List V → St → Prop} {b : Nat} {y : I} {l2 : List (Nat × I)} : ∀ (l1 : List (Nat × I)) (hist : List St) (e : List V) (s : St),
    RunDN gt P Q hist (l1 ++ (b, y) :: l2) e s → (∀ x ∈ l1, NoConf x.2 y) → (y.k.cls = 1 → cnt2 l1 ≤ b) →
    (∃ v s1, Stp gt P y (hist.take (b - cnt2 l1)) e s v s1 ∧ RunDN gt P Q (if y.k.cls = 2 then s :: hist else hist) (l1 ++ l2) (setD e y.d v) s1) ∨
    (y.k.cls = 2 ∧ wanted e y.g = some true ∧ ∃ Rr, KRel gt P e s y.k Rr ∧ ∀ v s1, Rr v s1 → RunDN gt P Q (s :: hist) (l1 ++ l2) (setD e y.d v) s1)
  | [], hist, e, s, h, hn, hb => by
    cases h with
    | step hs h => exact .inl ⟨_, _, hs, h⟩
    | last Rr hw hc hk h => exact .inr ⟨hc, hw, Rr, hk, fun v s1 hr => .nil (h v s1 hr)⟩
    | rel Rr hw hc hk hne ha h => exact .inr ⟨hc, hw, Rr, hk, h⟩
  | (bx, x) :: l1, hist, e, s, h, hn, hb => by
    have nx : NoConf x y := hn (bx, x) (List.mem_cons_self ..)
    have hn' : ∀ z ∈ l1, NoConf z.2 y := fun z hz => hn z (List.mem_cons_of_mem _ hz)
    have cntle : cnt2 ((bx, x) :: l1) = (if x.k.cls = 2 then 1 else 0) + cnt2 l1 := by
      simp only [cnt2, List.filter_cons]
      by_cases hx : x.k.cls = 2
      · simp [hx]; omega
      · simp [hx]
    have hb' : y.k.cls = 1 → cnt2 l1 ≤ b := fun h1 => by have := hb h1; rw [cntle] at this; omega
    have agx' : ∀ v, Ag x.ts e (setD e y.d v) := fun v => ag_setD nx.d2
    have hcase : (∃ v s1, Stp gt P x (hist.take bx) e s v s1 ∧ RunDN gt P Q (if x.k.cls = 2 then s :: hist else hist) (l1 ++ (b, y) :: l2) (setD e x.d v) s1) ∨
        (x.k.cls = 2 ∧ wanted e x.g = some true ∧ ∃ Rr, KRel gt P e s x.k Rr ∧ (∃ v s1, Rr v s1) ∧ (∀ z ∈ l1 ++ (b, y) :: l2, z.2.k.isAl = false) ∧ ∀ v s1, Rr v s1 → RunDN gt P Q (s :: hist) (l1 ++ (b, y) :: l2) (setD e x.d v) s1) := by
      have h : RunDN gt P Q hist ((bx, x) :: (l1 ++ (b, y) :: l2)) e s := h
      generalize hg : l1 ++ (b, y) :: l2 = r at h ⊢
      cases h with
      | step hs h => exact .inl ⟨_, _, hs, h⟩
      | last Rr hw hc hk h => simp at hg
      | rel Rr hw hc hk hne ha h => exact .inr ⟨hc, hw, Rr, hk, hne, ha, h⟩
    rcases hcase with ⟨vx, sx, hsx, hr⟩ | ⟨hx, hwx, Rr, hkx, ⟨v0, s0, hr0⟩, hal, hrx⟩
    rotate_left
    · have hy : y.k.cls ≠ 2 := fun h => by have := nx.h h; omega
      -- what y comes to does not hang on the call
      have hone : ∀ vx sx, Rr vx sx → ∃ v, Stp gt P y (hist.take (b - cnt2 ((bx, x) :: l1))) e s v s ∧ RunDN gt P Q (s :: hist) (l1 ++ l2) (setD (setD e x.d vx) y.d v) sx := fun vx sx hvx => by
        have agy : Ag y.ts (setD e x.d vx) e := (ag_setD nx.d1).symm
        rcases RunDN.pull l1 _ _ _ (hrx vx sx hvx) hn' hb' with ⟨v, s1, hsy, hr'⟩ | ⟨hy2, -⟩
        · rw [if_neg hy] at hr'
          have e1 := hsy.same hy
          subst e1
          refine ⟨v, ?_, hr'⟩
          rcases cls_le y.k with h0 | h1 | h2
          · exact (hsy.congr agy).cls0 h0 _ _
          · have h3 := hb h1
            rw [cntle, if_pos hx] at h3
            have h4 : b - cnt2 l1 = (b - cnt2 ((bx, x) :: l1)) + 1 := by rw [cntle, if_pos hx]; omega
            rw [h4, List.take_succ_cons] at hsy
            rcases hsy.congr agy with ⟨g1, g2, g3⟩ | ⟨g1, g2, g3⟩
            · exact .inl ⟨g1, g2, rfl⟩
            · exact .inr ⟨g1, g3 hy s (List.mem_cons_self ..), fun _ t ht => g3 hy t (List.mem_cons_of_mem _ ht)⟩
          · exact (hy h2).elim
        · exact (hy hy2).elim
      obtain ⟨v, hsy, -⟩ := hone v0 s0 hr0
      left
      refine ⟨v, s, hsy, ?_⟩
      rw [if_neg hy]
      refine .rel Rr (by rw [← wanted_congr (agx' v)]; exact hwx) hx (krel_congr (agx' v).k hkx) ⟨v0, s0, hr0⟩ (fun z hz => hal z ?_) fun vx sx hvx => ?_
      · rcases List.mem_append.1 hz with hz | hz
        · exact List.mem_append_left _ hz
        · exact List.mem_append_right _ (List.mem_cons_of_mem _ hz)
      · obtain ⟨v', hsy', hr'⟩ := hone vx sx hvx
        have e2 := Stp.det hy hsy' hsy
        subst e2
        rw [setD_comm (fun a ha => fun hb => nx.dd a hb ha)]
        exact hr'
    have agy : Ag y.ts (setD e x.d vx) e := (ag_setD nx.d1).symm
    rcases RunDN.pull l1 _ _ _ hr hn' hb' with ⟨v, s1, hsy, hr'⟩ | ⟨hy, hwy, Rr, hky, hr'⟩
    · left
      have agx : Ag x.ts e (setD e y.d v) := ag_setD nx.d2
      by_cases hx : x.k.cls = 2
      · have hy : y.k.cls ≠ 2 := fun h => by have := nx.h h; omega
        rw [if_pos hx] at hsy hr'
        rw [if_neg hy] at hr' ⊢
        have e1 := hsy.same hy
        subst e1
        refine ⟨v, s, ?_, RunDN.step (hsx.congr agx) (by rw [if_pos hx]; rw [setD_comm (fun a ha => fun hb => nx.dd a hb ha)] ; exact hr')⟩
        rcases cls_le y.k with h0 | h1 | h2
        · exact (hsy.congr agy).cls0 h0 _ _
        · have h3 := hb h1
          rw [cntle, if_pos hx] at h3
          have h4 : b - cnt2 l1 = (b - cnt2 ((bx, x) :: l1)) + 1 := by rw [cntle, if_pos hx]; omega
          rw [h4, List.take_succ_cons] at hsy
          rcases hsy.congr agy with ⟨g1, g2, g3⟩ | ⟨g1, g2, g3⟩
          · exact .inl ⟨g1, g2, rfl⟩
          · exact .inr ⟨g1, g3 hy s (List.mem_cons_self ..), fun _ t ht => g3 hy t (List.mem_cons_of_mem _ ht)⟩
        · exact (hy h2).elim
      · rw [if_neg hx] at hsy hr'
        have e1 := hsx.same hx
        subst e1
        rw [cntle, if_neg hx, Nat.zero_add]
        refine ⟨v, s1, hsy.congr agy, ?_⟩
        rw [setD_comm (fun a ha => fun hb => nx.dd a ha hb)] at hr'
        by_cases hy : y.k.cls = 2
        · have hx0 := nx.h hy
          exact RunDN.step ((hsx.congr agx).cls0 hx0 _ _) (by rw [if_neg hx]; exact hr')
        · rw [if_neg hy] at hr' ⊢
          have e2 := hsy.same hy
          subst e2
          exact RunDN.step (hsx.congr agx) (by rw [if_neg hx]; exact hr')
    · right
      have hx0 := nx.h hy
      have hx : x.k.cls ≠ 2 := by omega
      rw [if_neg hx] at hr'
      have e1 := hsx.same hx
      subst e1
      refine ⟨hy, by rw [← wanted_congr agy]; exact hwy, Rr, krel_congr agy.k hky, fun v s1 h1 => ?_⟩
      have agx : Ag x.ts e (setD e y.d v) := ag_setD nx.d2
      have h2 := hr' v s1 h1
      rw [setD_comm (fun a ha => fun hb => nx.dd a ha hb)] at h2
      exact RunDN.step ((hsx.congr agx).cls0 hx0 _ _) (by rw [if_neg hx]; exact h2)
theorem any_wpN {wf : Nat → Bool} {ops : Array Oper} {is : List I} {L0 : List Nb} (S : St0 P gt wf ops is L0) {Q : Exit → Act → World → Prop} {Qn : List V → St → Prop} : ∀ (fuel : Nat) (L : List Nb) (listed : Array Bool) (hist : List St) (e : List V) (s : St) (cx : Cx) (w : World) (act : Act),
    L.length = fuel → Inv ops L0 L listed → RunDN gt P Qn hist (L.map (·.2)) e s → ERep gt cx w.heap s.L e act.tmps → act.defers = [] → Rel cx s w.heap →
    (∀ e' s' a' w', Qn e' s' → After gt cx s w e' s' a' w' → Q .normal a' w') → wpAny P .any ops Q fuel listed act w
  | 0, L, listed, hist, e, s, cx, w, act, hL, I, hr, E, hd, R, hQ => by
    have hL' : L = [] := List.length_eq_zero_iff.1 hL
    subst hL'
    refine ⟨?_, ?_⟩
    · rw [List.eq_nil_iff_forall_not_mem]
      intro j hj
      have := (I.mem j).1 (mem_ready.1 hj).1
      simp at this
    · cases hr with
      | nil h => exact hQ _ _ act w h ⟨cx, E, hd, R, .refl _ _ _, .rfl⟩
  | fuel + 1, L, listed, hist, e, s, cx, w, act, hL, I, hr, E, hd, R, hQ => by
    have hlt : ∀ k, k ∈ L.map (·.1) → k < ops.size := fun k hk => by
      obtain ⟨p, hp, rfl⟩ := List.mem_map.1 hk
      exact S.lt p (I.sub.subset hp)
    have hdone : ∀ j, j < ops.size → (listed.getD j false = true ↔ j ∉ L.map (·.1)) := fun j hj => by
      rw [← I.mem j, getD_bool (by rw [I.size]; exact hj) true false]
      simp
    refine ⟨fun hn => ?_, fun k hk => ?_⟩
    · -- something is ready
      exfalso
      have hne : L.map (·.1) ≠ [] := by intro h; have := congrArg List.length h; simp [hL] at this
      -- the least number left
      have hmin : ∃ k ∈ L.map (·.1), ∀ j ∈ L.map (·.1), k ≤ j := by
        have hgen : ∀ (l : List Nat), l ≠ [] → ∃ k ∈ l, ∀ j ∈ l, k ≤ j := by
          intro l
          induction l with
          | nil => intro h; exact (h rfl).elim
          | cons x l ih =>
            intro _
            by_cases hl : l = []
            · subst hl; exact ⟨x, by simp, fun j hj => by simp at hj; omega⟩
            · obtain ⟨k, hk, hj⟩ := ih hl
              by_cases hx : x ≤ k
              · exact ⟨x, by simp, fun j hj' => by
                  rcases List.mem_cons.1 hj' with h | h
                  · omega
                  · have := hj j h; omega⟩
              · exact ⟨k, by simp [hk], fun j hj' => by
                  rcases List.mem_cons.1 hj' with h | h
                  · omega
                  · exact hj j h⟩
        exact hgen _ hne
      obtain ⟨k, hk, hmn⟩ := hmin
      have hks := hlt k hk
      have : k ∈ Region.ready .any ops listed := by
        refine mem_ready.2 ⟨(I.mem k).2 hk, ops[k], by simp [hks], fun ed he hb => ?_⟩
        have hon := backOk_get ops.toList 0 S.back k ops[k] (by simp [hks]) ed (by simpa using he) hb
        rw [hdone _ (by omega)]
        intro hm
        have := hmn _ hm
        omega
      rw [hn] at this; cases this
    · obtain ⟨hun, o, ho, hedges⟩ := mem_ready.1 hk
      have hkL := (I.mem k).1 hun
      obtain ⟨q, hq, hqk⟩ := List.mem_map.1 hkL
      subst hqk
      obtain ⟨L1, L2, rfl⟩ := List.append_of_mem hq
      have hks := hlt _ hkL
      -- what comes before it is done
      have hanc : ∀ j, ((masks ops.toList []).getD q.1 0).testBit j = true → listed.getD j false = true := fun j hj => by
        obtain ⟨o', ho', ed, he, hb, hj'⟩ := mask_bit hj
        have : o' = o := by
          have h1 : ops.toList[q.1]? = ops[q.1]? := by simp
          rw [h1, ho] at ho'; cases ho'; rfl
        subst this
        have hon := hedges ed (by simpa using he) hb
        rcases hj' with rfl | hj'
        · exact hon
        · exact I.closed _ hon j hj'
      have hnb : ∀ p ∈ L1, ((masks ops.toList []).getD q.1 0).testBit p.1 = false := fun p hp => by
        cases hb : ((masks ops.toList []).getD q.1 0).testBit p.1 with
        | false => rfl
        | true =>
          have h1 := hanc _ hb
          have hpm : p.1 ∈ (L1 ++ q :: L2).map (·.1) := List.mem_map.2 ⟨p, List.mem_append_left _ hp, rfl⟩
          exact (((hdone p.1 (hlt _ hpm)).1 h1) hpm).elim
      have hcf := S.conf.sublist I.sub
      have hno : ∀ x ∈ L1.map (·.2), NoConf x.2 q.2.2 := fun x hx => by
        obtain ⟨p, hp, rfl⟩ := List.mem_map.1 hx
        apply conf_no
        have := (List.pairwise_append.1 hcf).2.2 p hp q (List.mem_cons_self ..)
        cases hc : conf p.2.2 q.2.2 with
        | false => rfl
        | true => rw [hnb p hp] at this; exact (Bool.noConfusion (this hc))
      have hcnt : q.2.2.k.cls = 1 → cnt2 (L1.map (·.2)) ≤ q.2.1 := fun hc => by
        have hsub : (L1 ++ [q]).Sublist L0 := ((List.Sublist.refl L1).append (List.singleton_sublist.2 (List.mem_cons_self ..) : [q].Sublist (q :: L2))).trans I.sub
        have h1 := S.pre L1 q hsub hc
        have h2 : cnt2 (L1.map (·.2)) = cntN (masks ops.toList []) q.1 L1 := by
          unfold cnt2 cntN
          rw [List.filter_map, List.length_map]
          congr 1
          apply List.filter_congr
          intro p hp
          have h3 := hnb p hp
          simp only [Function.comp]
          rw [h3]; simp
        omega
      rw [List.map_append, List.map_cons] at hr
      have hpl := RunDN.pull (b := q.2.1) (y := q.2.2) _ hist e s hr hno hcnt
      have hnd : ((L1 ++ q :: L2).map (·.1)).Nodup := S.nd.sublist (I.sub.map _)
      have hI : Inv ops L0 (L1 ++ L2) (listed.setIfInBounds q.1 true) := by
        refine ⟨((List.Sublist.refl L1).append (List.sublist_cons_self q L2)).trans I.sub, by simp [I.size], fun k => ?_, fun k hkd j hj => ?_⟩
        · rw [List.map_append, List.map_cons] at hnd
          rw [List.map_append]
          by_cases hkq : q.1 = k
          · subst hkq
            have h1 : (listed.setIfInBounds q.1 true).getD q.1 true = true := by simp [I.size, hks]
            rw [h1]
            obtain ⟨-, g2, g3⟩ := List.nodup_append.1 hnd
            simp only [Bool.true_eq_false, false_iff, List.mem_append]
            rintro (h | h)
            · exact g3 _ h _ (List.mem_cons_self ..) rfl
            · exact (List.nodup_cons.1 g2).1 h
          · rw [getD_set_ne true hkq, I.mem k, List.map_append, List.map_cons]
            simp only [List.mem_append, List.mem_cons]
            constructor
            · rintro (h | h | h)
              · exact .inl h
              · exact (hkq h.symm).elim
              · exact .inr h
            · rintro (h | h)
              · exact .inl h
              · exact .inr (.inr h)
        · by_cases hkq : q.1 = k
          · subst hkq
            exact getD_set_true (hanc j hj)
          · rw [getD_set_ne false hkq] at hkd
            exact getD_set_true (I.closed k hkd j hj)
      have hlen : (L1 ++ L2).length = fuel := by simp at hL ⊢; omega
      have his : ∃ y, is[q.1]? = some y ∧ cI gt P (wf (0 + q.1)) ops o = some y := (cops_get _ _ _ S.his).2 q.1 o (by simpa using ho)
      obtain ⟨y, hy1, hy2⟩ := his
      have hy : y = q.2.2 := by have := S.val q (I.sub.subset hq); rw [hy1] at this; cases this; rfl
      subst hy
      obtain ⟨hdst, hkk⟩ := cI_dk hy2
      rw [← List.map_append] at hpl
      unfold wpOp
      simp only [ho]
      rcases hpl with ⟨v, s1, hst, hr'⟩ | ⟨hc2, hw, Rr, hkr, hr'⟩
      · rcases hst with ⟨hw, rfl, rfl⟩ | ⟨hw, hkr, -⟩
        · rw [wanted_run E hy2 hw]
          simp only [Bool.false_eq_true, if_false]
          rw [hdst] at hr'
          exact any_wpN S fuel _ _ _ _ _ cx w _ hlen hI hr' (E.setD (VRep.un _ _ _) o.dst) (by rw [put_defers]; exact hd) R hQ
        · rw [wanted_run E hy2 hw]
          simp only [if_true]
          left
          rw [hkk] at hkr
          rw [hdst] at hr'
          exact oper_run E hd R hkr (fun x w' cx' e1 e2 e3 e4 => any_wpN S fuel _ _ _ _ _ cx' w' _ hlen hI hr' e1 (by rw [put_defers]; exact hd) e2 (fun e' s' a' w'' hq hA => hQ e' s' a' w'' hq (hA.trans e3 e4)))
      · rw [wanted_run E hy2 hw]
        simp only [if_true]
        left
        rw [hkk] at hkr
        rw [hdst] at hr'
        exact oper_rel E hd R hkr (fun v s1 x w' cx' e0 e1 e2 e3 e4 => any_wpN S fuel _ _ _ _ _ cx' w' _ hlen hI (hr' v s1 e0) e1 (by rw [put_defers]; exact hd) e2 (fun e' s' a' w'' hq hA => hQ e' s' a' w'' hq (hA.trans e3 e4)))
theorem drw0_anyN {wf : Nat → Nat → Bool} {id : Nat} {ops : Array Oper} {is : List I} {e : List V} {s : St} {Q : X → List V → St → Prop} (hm : P.follows .mixedOrders = true) (his : cOps gt P (wf id) ops 0 ops.toList = some is) {L : List Nb} (S : St0 P gt (wf id) ops is L)
    (hr : RunDN gt P (Q .nrm) [] (L.map (·.2)) e s) (cx : Cx) (w : World) (act : Act) (E : ERep gt cx w.heap s.L e act.tmps) (hd : act.defers = []) (R : Rel cx s w.heap) :
    ∀ t, wpOps P ops (fun ex a' w' => ∃ x e' s', exitOf x = ex ∧ Q x e' s' ∧ After gt cx s w e' s' a' w') (Region.schedule (P.follows .mixedOrders) ops t) act { w with drawn := w.drawn + 1 } := by
  have hlen : L.length = ops.size := by
    have h2 : (L.map (·.1)).length ≤ ops.size := by
      have : ∀ (l : List Nat) (n : Nat), l.Nodup → (∀ x ∈ l, x < n) → l.length ≤ n := fun l n hn hl => by
        have := (List.nodup_range (n := n)).length_le_of_subset (l₂ := l)
        have h3 : l ⊆ List.range n := fun x hx => List.mem_range.2 (hl x hx)
        have h4 := List.Nodup.length_le_of_subset hn h3
        simpa using h4
      exact this _ _ S.nd (fun x hx => by obtain ⟨p, hp, rfl⟩ := List.mem_map.1 hx; exact S.lt p hp)
    have h3 : ops.size ≤ (L.map (·.1)).length := by
      have h4 : List.range ops.size ⊆ L.map (·.1) := fun x hx => S.all x (List.mem_range.1 hx)
      have := List.Nodup.length_le_of_subset List.nodup_range h4
      simpa using this
    simp at h2 h3; omega
  intro t
  simp only [Region.schedule, hm, Bool.true_or, if_true]
  refine wpAny_sound ops.size t _ act _ ?_
  refine any_wpN S ops.size L _ [] e s cx { w with drawn := w.drawn + 1 } act hlen ?_ hr E hd R (fun e' s' a' w' h ⟨cx', x1, x2, x3, x4, x5⟩ => ⟨.nrm, e', s', rfl, h, cx', x1, x2, x3, x4, ⟨x5.os, x5.out⟩⟩)
  refine ⟨.refl _, by simp, fun k => ?_, fun k hk => ?_⟩
  · by_cases hk : k < ops.size
    · simp [hk]; exact by simpa using S.all k hk
    · simp only [Array.getD_eq_getD_getElem?, Array.getElem?_replicate, hk, if_false, Option.getD_none, Bool.true_eq_false, false_iff]
      intro hm
      obtain ⟨p, hp, rfl⟩ := List.mem_map.1 hm
      exact hk (S.lt p hp)
  · exfalso
    rw [Array.getD_eq_getD_getElem?, Array.getElem?_replicate] at hk
    split at hk <;> simp at hk
theorem Co.drwN {wf : Nat → Nat → Bool} {e : List V} {s : St} {Q : X → List V → St → Prop} {l : List (Nat × I)} (hm : P.follows .mixedOrders = true) (hr : RunDN gt P (Q .nrm) [] l e s) : Co gt P wf (.drw l) e s Q := by
  intro code hc cx w act E hd R
  cases code with
  | region id ops draw =>
    simp only [cC] at hc
    split at hc
    · rename_i is his
      split at hc
      · rename_i hdr
        split at hc
        · rename_i l' hl'
          cases hc
          subst hdr
          unfold cDrw at hl'
          split at hl'
          · rename_i l2 h2
            cases hl'
            obtain ⟨L, h1, S⟩ := st0_of his h2
            exact wp_region_draw (drw0_anyN (id := id) hm his S (by rw [h1]; exact hr) cx w act E hd R)
          · obtain ⟨L, ps, h1, S⟩ := st2_of his hl'
            rcases List.eq_nil_or_concat ps with h0 | ⟨qs, p, h0⟩
            · subst h0
              have S0 : St0 P gt (wf id) ops is L := ⟨S.his, S.back, by simpa [tNums] using S.nd, fun p hp => S.lt _ (List.mem_append_left _ (List.mem_map.2 ⟨p, hp, rfl⟩)), fun k hk => by simpa [tNums] using S.all k hk, S.val, S.conf, S.pre⟩
              have h2 : L.map (·.2) = l := by rw [h1]; simp [tOps]
              exact wp_region_draw (drw0_anyN (id := id) hm his S0 (by rw [h2]; exact hr) cx w act E hd R)
            · have h5 : tOps (qs ++ [p]) = tOps qs ++ [(0, p.ai), (0, p.si)] := by simp [tOps]
              obtain ⟨e', s', h3, h4⟩ := RunDN.det _ _ _ _ hr ⟨fun x hx => by
                rw [h1, h0, List.concat_eq_append, h5, ← List.append_assoc] at hx
                simp at hx
                subst hx
                exact ⟨_, rfl⟩, .inr ⟨L.map (·.2) ++ tOps qs, _, _, by rw [h1, h0, List.concat_eq_append, h5, List.append_assoc], rfl⟩⟩
              exact wp_region_draw (drw2_any (id := id) hm his hl' h3 h4 cx w act E hd R)
        · cases hc
      · cases hc
    · cases hc
  | cond c a b => simp only [cC] at hc; split at hc <;> cases hc
  | _ => simp only [cC] at hc; cases hc
end
end Rf
