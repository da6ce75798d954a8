import Derived.Test.YthoojnjcdllgdaaGreatDoorTmu
import Derived.Test.YthoojnjcdllgdaaGreatDoorTga
import Derived.Test.YthoojnjcdllgdaaGreatDoorTre
/-
  Contracts: the tally of moves. No statement stands here.
-/
set_option linter.all false
namespace Go.Proofs.YthoojnjcdllgdaaGreatDoor
open Go Rf TallyP
set_option maxRecDepth 100000
set_option maxHeartbeats 4000000

def st2 (a b : O) : St := (s0.new a).new b
theorem st2_get {a b : O} {l : Nat} {o : O} (h : (st2 a b).get l = some o) : (l = 0 ∧ o = a) ∨ (l = 1 ∧ o = b) := by
  unfold st2 St.get St.new at h
  simp only [s0] at h
  by_cases h1 : l = 1
  · subst h1
    rw [Tr.get_put_same _ _ _ _ (by omega)] at h
    cases h; exact .inr ⟨rfl, rfl⟩
  · rw [Tr.get_put_ne _ _ _ _ _ _ (by omega) (by omega) h1] at h
    by_cases h0 : l = 0
    · subst h0
      rw [Tr.get_put_same _ _ _ _ (by omega)] at h
      cases h; exact .inl ⟨rfl, rfl⟩
    · rw [Tr.get_put_ne _ _ _ _ _ _ (by omega) (by omega) h0] at h
      simp [Tr.get] at h

theorem Wk.st2 {e1 e : List V} {s : St} {a b : O} (ks : List Nat) (he : e1 = fg ks e) (h0 : s.get 0 = some a) (h1 : s.get 1 = some b)
    (ha : ∀ cs z t, a = .c cs z t → ∀ c ∈ cs, Nm (below 2) c) (hb : ∀ cs z t, b = .c cs z t → ∀ c ∈ cs, Nm (below 2) c) (na : ∀ o, a ≠ .x o) (nb : ∀ o, b ≠ .x o) (hv : ∀ v ∈ e1, Nm (below 2) v) : Wk e1 (st2 a b) e s := by
  have hL : (YthoojnjcdllgdaaGreatDoor.st2 a b).L = below 2 := by
    funext l; simp [St.L, YthoojnjcdllgdaaGreatDoor.st2, below, s0]
  refine ⟨he ▸ fg_forg ks e, fun l o h => ?_, fun l h => by simp [YthoojnjcdllgdaaGreatDoor.st2, s0] at h, fun l o h => ?_, .inr fun l cs z t h c hc => ?_, .inr fun l o h => ?_, .inr fun v h => ?_⟩
  · rcases st2_get h with ⟨rfl, rfl⟩ | ⟨rfl, rfl⟩
    · exact h0
    · exact h1
  · rw [hL]
    rcases st2_get h with ⟨rfl, rfl⟩ | ⟨rfl, rfl⟩ <;> simp [below]
  · rw [hL]
    rcases st2_get h with ⟨_, h2⟩ | ⟨_, h2⟩
    · exact ha cs z t h2.symm c hc
    · exact hb cs z t h2.symm c hc
  · rcases st2_get h with ⟨_, h2⟩ | ⟨_, h2⟩
    · exact (na o h2.symm).elim
    · exact (nb o h2.symm).elim
  · rw [hL]; exact hv v h

def vT (a b c d e f g h : Int) : List V := [.i .i64 a, .i .i64 b, .i .i64 c, .i .i64 d, .i .i64 e, .i .i64 f, .i .i64 g, .i .i64 h]


theorem vT_nm {L : Nat → Prop} (a b c d e f g h : Int) : ∀ x ∈ vT a b c d e f g h, Nm L x := by
  intro x hx
  simp only [vT, List.mem_cons, List.not_mem_nil, or_false] at hx
  rcases hx with rfl | rfl | rfl | rfl | rfl | rfl | rfl | rfl <;> exact .i _ _

structure Tl where
  ev : Nat
  rc : Nat
  hi : Nat
  rq : Nat
  rf : Nat
  ck : Nat
  fi : Int
  la : Int
def Tl.z : Tl := ⟨0, 0, 0, 0, 0, 0, -1, -1⟩
def Tl.add (a b : Tl) : Tl := ⟨a.ev + b.ev, a.rc + b.rc, a.hi + b.hi, a.rq + b.rq, a.rf + b.rf, a.ck + b.ck, if a.ev = 0 then b.fi else a.fi, if b.ev = 0 then a.la else b.la⟩
def Tl.v (t : Tl) : List V := vT (wrapF .i64 t.ev) (wrapF .i64 t.rc) (wrapF .i64 t.hi) (wrapF .i64 t.rq) (wrapF .i64 t.rf) (wrapF .i64 t.ck) t.fi t.la
def one (m : Mv) : Tl :=
  if eqZ m.k 1 = true then ⟨0, 0, 0, 1, if eqZ m.rk 1 = true ∧ eqZ m.re 0 = false then 1 else 0, 0, -1, -1⟩
  else if eqZ m.k 3 = true then ⟨0, 0, 0, 0, 0, 1, -1, -1⟩
  else if isEv m = true then ⟨1, m.rl.length, 0, 0, 0, 0, m.t, m.t⟩
  else if eqZ m.k 2 = true ∧ eqZ m.ok 2 = true then ⟨0, 0, 1, 0, 0, 0, -1, -1⟩
  else .z
def ofT : List Mv → Tl
  | [] => .z
  | m :: r => (one m).add (ofT r)

def Tl.Ok (t : Tl) : Prop := t.ev = 0 → t.fi = -1 ∧ t.la = -1
theorem one_ok (m : Mv) : (one m).Ok ∧ (one m).ev ≤ 1 := by
  unfold one Tl.Ok
  (repeat' split) <;> simp [Tl.z]
theorem Tl.add_ok {a b : Tl} (ha : a.Ok) (hb : b.Ok) : (a.add b).Ok := by
  intro h
  simp only [Tl.add] at h ⊢
  have h1 : a.ev = 0 := by omega
  have h2 : b.ev = 0 := by omega
  rw [if_pos h1, if_pos h2]
  exact ⟨(hb h2).1, (ha h1).2⟩
theorem ofT_ok : ∀ l, (ofT l).Ok ∧ (ofT l).ev ≤ l.length
  | [] => ⟨fun _ => ⟨rfl, rfl⟩, Nat.le_refl _⟩
  | m :: r => ⟨Tl.add_ok (one_ok m).1 (ofT_ok r).1, by
      have h1 := (one_ok m).2
      have h2 := (ofT_ok r).2
      simp only [ofT, Tl.add, List.length_cons]; omega⟩
theorem Tl.z_add {t : Tl} (h : t.Ok) : Tl.z.add t = t := by
  obtain ⟨a, b, c, d, e, f, g, i⟩ := t
  simp only [Tl.add, Tl.z, Nat.zero_add, if_true, Tl.mk.injEq, true_and]
  split
  · exact ((h (by assumption)).2).symm
  · rfl
theorem Tl.add_z {t : Tl} (h : t.Ok) : t.add .z = t := by
  obtain ⟨a, b, c, d, e, f, g, i⟩ := t
  simp only [Tl.add, Tl.z, Nat.add_zero, if_true, Tl.mk.injEq, true_and, and_true]
  split
  · exact ((h (by assumption)).1).symm
  · rfl
theorem Tl.add_assoc (a b c : Tl) : (a.add b).add c = a.add (b.add c) := by
  simp only [Tl.add, Tl.mk.injEq, Nat.add_assoc, true_and]
  constructor
  · by_cases h1 : a.ev = 0 <;> by_cases h2 : b.ev = 0 <;> simp [h1, h2]
  · by_cases h1 : b.ev = 0 <;> by_cases h2 : c.ev = 0 <;> simp [h1, h2]
theorem ofT_app : ∀ a b, ofT (a ++ b) = (ofT a).add (ofT b)
  | [], b => (Tl.z_add (ofT_ok b).1).symm
  | m :: r, b => by simp only [List.cons_append, ofT, ofT_app r b, Tl.add_assoc]
theorem ofT_snoc (a : List Mv) (m : Mv) : ofT (a ++ [m]) = (ofT a).add (one m) := by
  rw [ofT_app]; simp only [ofT, Tl.add_z (one_ok m).1]

theorem wrap_acc (x : Int) (y : Int) : wrapF .i64 (wrapF .i64 x + y) = wrapF .i64 (x + y) := by
  have h1 : ∀ a b : Int, a % 2 ^ 64 = b % 2 ^ 64 → IntKind.wrap .i64 a = IntKind.wrap .i64 b := fun a b h => by
    unfold IntKind.wrap; simp only [IntKind.bits, h]; rfl
  have h2 : IntKind.wrap .i64 x % 2 ^ 64 = x % 2 ^ 64 := by
    simp only [IntKind.wrap, IntKind.bits, IntKind.signed, Bool.true_and, decide_eq_true_eq]
    split <;> omega
  rw [wrapF_eq, wrapF_eq, wrapF_eq]
  apply h1
  rw [Int.add_emod, h2, ← Int.add_emod]
theorem wrap_small {n m : Nat} (h : n ≤ m) (hm : m ≤ maxLen) : wrapF .i64 (n : Int) = n := by
  have hm : maxLen ≤ 9223372036854775807 := by decide
  rw [wrapF_eq, wrap_in] <;> simp [lim, IntKind.signed] <;> omega

def EO (ms : List Mv) (i : Nat) : List V := [.bad, .bad, .p 0 0, .p 1 0, .bad, .bad, .bad, .pu 47 (ms.map Mv.v) .u, .i .i64 ms.length, .i .i64 i] ++ List.replicate 79 .bad
def T0 : O := .c (vT 0 0 0 0 0 0 0 0) 0 (some 57)
theorem EO_nm (ms : List Mv) (hn : ∀ m ∈ ms, Nm s0.L m.v) (i : Nat) : ∀ v ∈ EO ms i, Nm (below 2) v := by
  intro v hv
  have h0 : ∀ l, s0.L l → below 2 l := fun l h => by simp [St.L, s0] at h
  simp only [EO, List.mem_append, List.mem_cons, List.not_mem_nil, or_false, List.mem_replicate] at hv
  rcases hv with (rfl | rfl | rfl | rfl | rfl | rfl | rfl | rfl | rfl | rfl) | ⟨_, rfl⟩
  all_goals first | exact .bad | exact .i _ _ | exact .p _ _ (by simp [below]) | exact (nm_moves hn).mono h0

theorem of_den (ms : List Mv) (hn : ∀ m ∈ ms, Nm s0.L m.v) (hl : ms.length ≤ maxLen) : PDen gt0 Tryz.prog 8 [.pu 47 (ms.map Mv.v) .u] (.ag (ofT ms).v) := by
  generalize hB : (ofT ms).v = B
  refine PDen.hc gnm0 hF8 (fun x hx => by simp only [List.mem_singleton] at hx; subst hx; exact nm_moves hn) (by subst hB; exact .ag _ (@vT_nm _ _ _ _ _ _ _ _ _)) ?_
  have hlen : (ms.map Mv.v).length = ms.length := List.length_map ..
  conv => whnf
  refine sgo ?_
  rw [hlen]
  refine HC.loop gnm0 fun hg => ⟨fun n e s => ∃ (i : Nat) (x1 x2 x3 x4 x5 x6 x7 x8 : Int), i ≤ ms.length ∧ n = ms.length - i ∧ e = EO ms i ∧ s = st2 T0 (.c (vT x1 x2 x3 x4 x5 x6 x7 x8) 0 (some 57)) ∧ vT x1 x2 x3 x4 x5 x6 x7 x8 = (ofT (ms.take i)).v,
    ⟨ms.length, EO ms 0, _, Wk.st2 (a := T0) (b := .c (vT 0 0 0 0 0 0 (-1) (-1)) 0 (some 57)) [2, 3, 7, 8, 9] rfl rfl rfl (fun cs z t h => by cases h; exact @vT_nm _ _ _ _ _ _ _ _ _) (fun cs z t h => by cases h; exact @vT_nm _ _ _ _ _ _ _ _ _) (fun o h => by cases h) (fun o h => by cases h) (EO_nm ms hn 0),
      0, 0, 0, 0, 0, 0, 0, -1, -1, Nat.zero_le _, rfl, rfl, rfl, rfl⟩, ?_⟩
  rintro n e s ⟨i, x1, x2, x3, x4, x5, x6, x7, x8, hi, rfl, rfl, rfl, hx⟩
  conv => whnf
  refine sgo ?_
  refine brB_iff.2 ⟨fun h1 => ?_, fun h1 => ?_⟩ <;> conv => whnf
  · have hlt : i < ms.length := by rw [ltZ_eq] at h1; simpa using h1
    have hm : ms[i]? = some ms[i] := by simp [hlt]
    have hmn := hn _ (List.getElem_mem hlt)
    generalize hmv : ms[i] = m at hm hmn
    have hmm : (ms.map Mv.v)[((i : Nat) : Int).toNat]? = some m.v := by simp [hm]
    have htk : (ofT (ms.take (i + 1))).v = ((ofT (ms.take i)).add (one m)).v := by
      rw [← ofT_snoc, ← hmv, List.take_append_getElem]
    have hev : (ofT (ms.take i)).ev ≤ ms.length := by
      have h1 := (ofT_ok (ms.take i)).2
      have h2 := List.length_take_le i ms
      omega
    have hok := (ofT_ok (ms.take i)).1
    generalize ofT (ms.take i) = t at hx htk hev hok
    generalize hT : ofT (ms.take (i + 1)) = T at htk
    obtain ⟨y1, y2, y3, y4, y5, y6, y7, y8⟩ := t
    simp only [Tl.v, vT, List.cons.injEq, V.i.injEq, true_and, and_true] at hx
    obtain ⟨rfl, rfl, rfl, rfl, rfl, rfl, rfl, rfl⟩ := hx
    have hz : eqZ (wrapF .i64 (y1 : Int)) 0 = decide (y1 = 0) := by
      rw [wrap_small hev hl, eqZ_eq, Bool.eq_iff_iff]; simp
    refine sgo ?_
    refine ⟨rfl, Int.natCast_nonneg _, _, hmm, ?_⟩
    conv => whnf
    repeat' (first | refine sgw ?_ | (refine ⟨_, _, ev_den m hmn _, ?_⟩; conv => whnf) | (refine brB_iff.2 ⟨fun hc => ?_, fun hc => ?_⟩ <;> conv => whnf))
    all_goals
      rw [wrap_succ hlt hl]
      intro hgd
      refine ⟨ms.length - (i + 1), EO ms (i + 1), _, by omega, Wk.st2 (a := T0) (b := .c T.v 0 (some 57)) [2, 3, 7, 8, 9] rfl rfl ?_
        (fun cs z t h => by cases h; exact @vT_nm _ _ _ _ _ _ _ _ _) (fun cs z t h => by cases h; exact @vT_nm _ _ _ _ _ _ _ _ _) (fun o h => by cases h) (fun o h => by cases h) (EO_nm ms hn _),
        i + 1, _, _, _, _, _, _, _, _, hlt, rfl, rfl, rfl, by rw [hT]; rfl⟩
      rw [htk]
      refine Eq.trans (b := some (O.c [.i .i64 _, .i .i64 _, .i .i64 _, .i .i64 _, .i .i64 _, .i .i64 _, .i .i64 _, .i .i64 _] 0 (some 57))) rfl ?_
      clear hgd hn hmv hm hmn hmm htk hT hg hi h1 hlt hl hlen hB
      simp only [hz, decide_eq_true_eq, decide_eq_false_iff_not] at *
      have hok1 : y1 = 0 → x7 = -1 := fun h => (hok h).1
      clear hok
      simp_all [Tl.v, Tl.add, one, isEv, Tl.z, vT, wrap_acc]
  · have hge : ms.length ≤ i := by rw [ltZ_eq] at h1; simpa using h1
    have htk : ms.take i = ms := List.take_of_length_le hge
    rw [htk, hB] at hx
    refine sgo ?_
    rw [← hx]; rfl
end Go.Proofs.YthoojnjcdllgdaaGreatDoor
/-
  Contract: the document's tally of moves. No statement stands here.
-/
set_option linter.all false
namespace Go.Proofs.YthoojnjcdllgdaaGreatDoor
open Go Rf TallyP
set_option maxRecDepth 100000
set_option maxHeartbeats 4000000

theorem one_ev {m : Mv} (h : isEv m = true) : one m = ⟨1, m.rl.length, 0, 0, 0, 0, m.t, m.t⟩ := by
  have h2 : m.k = 2 := by
    unfold isEv at h
    simp [eqZ_eq] at h
    exact h.1
  unfold one
  rw [h2, show eqZ 2 1 = false from by decide, show eqZ 2 3 = false from by decide, h]
  simp
theorem one_no {m : Mv} (h : isEv m = false) : (one m).ev = 0 ∧ (one m).rc = 0 ∧ (one m).fi = -1 ∧ (one m).la = -1 := by
  unfold one
  rw [h]
  (repeat' split) <;> simp_all [Tl.z]
def firstT : List Mv → Int
  | [] => -1
  | m :: _ => m.t
def lastT : List Mv → Int
  | [] => -1
  | [m] => m.t
  | _ :: m :: r => lastT (m :: r)
def sumR : List Mv → Nat
  | [] => 0
  | m :: r => m.rl.length + sumR r
theorem evs_cons (m : Mv) (r : List Mv) : evs (m :: r) = if isEv m then m :: evs r else evs r := by
  unfold evs
  cases h : isEv m
  · rw [List.filter_cons_of_neg (by simp [h])]; rfl
  · rw [List.filter_cons_of_pos h]; rfl
theorem ofT_evs : ∀ ms : List Mv, (ofT ms).ev = (evs ms).length ∧ (ofT ms).rc = sumR (evs ms) ∧ (ofT ms).fi = firstT (evs ms) ∧ (ofT ms).la = lastT (evs ms)
  | [] => ⟨rfl, rfl, rfl, rfl⟩
  | m :: r => by
    obtain ⟨h1, h2, h3, h4⟩ := ofT_evs r
    rw [evs_cons]
    cases h : isEv m
    · obtain ⟨e1, e2, e3, e4⟩ := one_no h
      simp only [Bool.false_eq_true, if_false, ofT, Tl.add, e1, e2, e4, Nat.zero_add, if_true, h1, h2, h3, h4, true_and]
      by_cases hz : (evs r).length = 0
      · rw [if_pos hz, List.eq_nil_of_length_eq_zero hz]; rfl
      · rw [if_neg hz]
    · have e := one_ev h
      simp only [if_true, ofT, Tl.add, e, h1, h2, h4, List.length_cons, sumR, firstT]
      refine ⟨by omega, trivial, by simp, ?_⟩
      cases hr : evs r with
      | nil => simp [lastT]
      | cons a b => simp [lastT]
theorem last_at : ∀ (E : List Mv) (k : Nat) (m : Mv), E.length = k + 1 → E[k]? = some m → lastT E = m.t
  | [], k, m, h, _ => by simp at h
  | [a], k, m, h, hm => by
    have : k = 0 := by simpa using h.symm
    subst this
    cases hm; rfl
  | a :: b :: r, k, m, h, hm => by
    cases k with
    | zero => simp at h
    | succ k =>
      show lastT (b :: r) = m.t
      exact last_at (b :: r) k m (by simpa using h) (by simpa using hm)
theorem sumR_take (E : List Mv) (i : Nat) (m : Mv) (h : E[i]? = some m) : sumR (E.take (i + 1)) = sumR (E.take i) + m.rl.length := by
  have happ : ∀ a b : List Mv, sumR (a ++ b) = sumR a + sumR b := fun a b => by
    induction a with
    | nil => simp [sumR]
    | cons x a ih => simp only [List.cons_append, sumR, ih]; omega
  rw [List.take_add_one, h, happ]; rfl
end Go.Proofs.YthoojnjcdllgdaaGreatDoor
