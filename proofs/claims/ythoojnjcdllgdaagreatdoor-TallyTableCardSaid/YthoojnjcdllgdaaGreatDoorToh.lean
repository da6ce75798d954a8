/-
  Contract: the document's tally of moves, walked. No statement stands here.
-/
import Derived.Test.YthoojnjcdllgdaaGreatDoorTog
import Derived.Test.YthoojnjcdllgdaaGreatDoorTrs
set_option linter.all false
namespace Go.Proofs.YthoojnjcdllgdaaGreatDoor
open Go Rf TallyP
set_option maxRecDepth 100000
set_option maxHeartbeats 4000000

def EQ1 (av xv : V) (A T i : Nat) : List V := (av :: .bad :: .p A 0 :: xv :: .p T 0 :: .i .i64 (i : Nat) :: List.replicate 95 .bad)
def EQ2 (av : V) (A T i : Nat) : List V := (av :: .bad :: .p A 0 :: .bad :: .p T 0 :: .bad :: .i .i64 (i : Nat) :: List.replicate 94 .bad)
def LQ (T A : Nat) (a b c d e f g h : Int) : List En := [.ob true T (.c (vT a b c d e f g h) 0 (some 57)), .ob true A (.c (vT 0 0 0 0 0 0 0 0) 0 (some 57))]
def EQ3 (av : V) (A T M i : Nat) : List V := (av :: .bad :: .p A 0 :: .bad :: .p T 0 :: .bad :: .i .i64 (i : Nat) :: .p M 0 :: List.replicate 93 .bad)
noncomputable def c12e : C := sB (sB (sB (sB (sB f18.body))))
noncomputable def c12r : C := sI (sI (sB (sA c12e)))
noncomputable def c12b : C := sI (sA (sB c12r))
noncomputable def c12A : C := sA (sB c12b)
noncomputable def c12B : C := sA (sB (sB c12b))
noncomputable def c12C : C := sB (sB (sB c12b))
def up1 (b : Bool) (x : Int) : Int := if b = true then wrapF .i64 (x + 1) else x
theorem up1_w (b : Bool) (n : Nat) : up1 b (wrapF .i64 (n : Int)) = wrapF .i64 ((n + (if b = true then 1 else 0) : Nat) : Int) := by
  cases b
  · rfl
  · show wrapF .i64 (wrapF .i64 (n : Int) + 1) = _
    rw [wrap_acc]; rfl
def hitB (m : Mv) : Bool := eqZ m.k 2 && eqZ m.ok 2
def refB (m : Mv) : Bool := eqZ m.k 1 && (eqZ m.rk 1 && !eqZ m.re 0)
theorem one_hi (m : Mv) : (one m).hi = if hitB m = true then 1 else 0 := by
  unfold one hitB isEv
  simp only [eqZ_eq]
  (repeat' split) <;> simp_all [Tl.z]
theorem one_rq (m : Mv) : (one m).rq = if eqZ m.k 1 = true then 1 else 0 := by
  unfold one
  (repeat' split) <;> simp_all [Tl.z]
theorem one_ck (m : Mv) : (one m).ck = if eqZ m.k 3 = true then 1 else 0 := by
  unfold one
  simp only [eqZ_eq]
  (repeat' split) <;> simp_all [Tl.z]
theorem one_rf (m : Mv) : (one m).rf = if refB m = true then 1 else 0 := by
  unfold one refB
  (repeat' split) <;> simp_all [Tl.z]
def LQM (M T A : Nat) (m : Mv) (a b c d e f g h : Int) : List En := .ob true M (.c m.c 0 (some 55)) :: LQ T A a b c d e f g h
theorem ptA {s z : St} {M T A : Nat} {m : Mv} {a b c d e f g h : Int} {Q : XM → List V → St → Prop} (K : Kn s z (LQM M T A m a b c d e f g h)) (av : V) (i : Nat)
    (hQ : ∀ ev z', fg [0, 2, 4, 6, 7] ev = EQ3 av A T M i → Kn s z' (LQM M T A m a b (up1 (hitB m) c) d e f g h) → Q .nrm ev z') :
    HM gt0 Tryz.prog s c12A (EQ3 av A T M i) z Q := by
  unfold LQM LQ vT at K hQ
  unfold hitB at hQ
  refine kgo ?_; (repeat (first | intro (X:Nat) | intro (z:St) | intro (av:V) | intro (tk:Option Nat) | (intro (K1:Kn _ _ _); (try clear K); rename Kn _ _ _ => K))); conv => whnf
  cases h1 : eqZ m.k 2 <;> conv => whnf
  · rw [h1] at hQ
    refine kgo ?_; (repeat (first | intro (X:Nat) | intro (z:St) | intro (av:V) | intro (tk:Option Nat) | (intro (K1:Kn _ _ _); (try clear K); rename Kn _ _ _ => K))); conv => whnf
    exact hQ _ _ rfl K
  · rw [h1] at hQ
    refine kgo ?_; (repeat (first | intro (X:Nat) | intro (z:St) | intro (av:V) | intro (tk:Option Nat) | (intro (K1:Kn _ _ _); (try clear K); rename Kn _ _ _ => K))); conv => whnf
    cases h2 : eqZ m.ok 2 <;> conv => whnf
    · rw [h2] at hQ
      refine kgo ?_; (repeat (first | intro (X:Nat) | intro (z:St) | intro (av:V) | intro (tk:Option Nat) | (intro (K1:Kn _ _ _); (try clear K); rename Kn _ _ _ => K))); conv => whnf
      exact hQ _ _ rfl K
    · rw [h2] at hQ
      refine kgo ?_; (repeat (first | intro (X:Nat) | intro (z:St) | intro (av:V) | intro (tk:Option Nat) | (intro (K1:Kn _ _ _); (try clear K); rename Kn _ _ _ => K))); conv => whnf
      exact hQ _ _ rfl K
theorem ptB {s z : St} {M T A : Nat} {m : Mv} {a b c d e f g h : Int} {Q : XM → List V → St → Prop} (K : Kn s z (LQM M T A m a b c d e f g h)) (av : V) (i : Nat)
    (hQ : ∀ ev z', fg [0, 2, 4, 6, 7] ev = EQ3 av A T M i → Kn s z' (LQM M T A m a b c d e (up1 (eqZ m.k 3) f) g h) → Q .nrm ev z') :
    HM gt0 Tryz.prog s c12B (EQ3 av A T M i) z Q := by
  unfold LQM LQ vT at K hQ
  refine kgo ?_; (repeat (first | intro (X:Nat) | intro (z:St) | intro (av:V) | intro (tk:Option Nat) | (intro (K1:Kn _ _ _); (try clear K); rename Kn _ _ _ => K))); conv => whnf
  cases h1 : eqZ m.k 3 <;> conv => whnf
  · rw [h1] at hQ
    refine kgo ?_; (repeat (first | intro (X:Nat) | intro (z:St) | intro (av:V) | intro (tk:Option Nat) | (intro (K1:Kn _ _ _); (try clear K); rename Kn _ _ _ => K))); conv => whnf
    exact hQ _ _ rfl K
  · rw [h1] at hQ
    refine kgo ?_; (repeat (first | intro (X:Nat) | intro (z:St) | intro (av:V) | intro (tk:Option Nat) | (intro (K1:Kn _ _ _); (try clear K); rename Kn _ _ _ => K))); conv => whnf
    exact hQ _ _ rfl K
theorem ptC {s z : St} {M T A : Nat} {m : Mv} {a b c d e f g h : Int} {Q : XM → List V → St → Prop} (K : Kn s z (LQM M T A m a b c d e f g h)) (av : V) (i : Nat)
    (hQ : ∀ ev z', fg [0, 2, 4, 6] ev = EQ2 av A T i → Kn s z' (LQM M T A m a b c (up1 (eqZ m.k 1) d) (up1 (refB m) e) f g h) → Q .nrm ev z') :
    HM gt0 Tryz.prog s c12C (EQ3 av A T M i) z Q := by
  unfold LQM LQ vT at K hQ
  unfold refB at hQ
  refine kgo ?_; (repeat (first | intro (X:Nat) | intro (z:St) | intro (av:V) | intro (tk:Option Nat) | (intro (K1:Kn _ _ _); (try clear K); rename Kn _ _ _ => K))); conv => whnf
  cases h1 : eqZ m.k 1 <;> conv => whnf
  · rw [h1] at hQ
    refine kgo ?_; (repeat (first | intro (X:Nat) | intro (z:St) | intro (av:V) | intro (tk:Option Nat) | (intro (K1:Kn _ _ _); (try clear K); rename Kn _ _ _ => K))); conv => whnf
    exact hQ _ _ rfl K
  · rw [h1] at hQ
    refine kgo ?_; (repeat (first | intro (X:Nat) | intro (z:St) | intro (av:V) | intro (tk:Option Nat) | (intro (K1:Kn _ _ _); (try clear K); rename Kn _ _ _ => K))); conv => whnf
    cases h2 : eqZ m.rk 1 <;> conv => whnf
    · rw [h2] at hQ
      refine kgo ?_; (repeat (first | intro (X:Nat) | intro (z:St) | intro (av:V) | intro (tk:Option Nat) | (intro (K1:Kn _ _ _); (try clear K); rename Kn _ _ _ => K))); conv => whnf
      exact hQ _ _ rfl K
    · rw [h2] at hQ
      refine kgo ?_; (repeat (first | intro (X:Nat) | intro (z:St) | intro (av:V) | intro (tk:Option Nat) | (intro (K1:Kn _ _ _); (try clear K); rename Kn _ _ _ => K))); conv => whnf
      cases h3 : eqZ m.re 0 <;> conv => whnf
      · rw [h3] at hQ
        refine kgo ?_; (repeat (first | intro (X:Nat) | intro (z:St) | intro (av:V) | intro (tk:Option Nat) | (intro (K1:Kn _ _ _); (try clear K); rename Kn _ _ _ => K))); conv => whnf
        exact hQ _ _ rfl K
      · rw [h3] at hQ
        refine kgo ?_; (repeat (first | intro (X:Nat) | intro (z:St) | intro (av:V) | intro (tk:Option Nat) | (intro (K1:Kn _ _ _); (try clear K); rename Kn _ _ _ => K))); conv => whnf
        exact hQ _ _ rfl K
theorem rof_end (ms : List Mv) {s z : St} {T A : Nat} {n r fi la : Int} (hms : ms.length ≤ 1000) (hty : Tidy s) (hx : NoX s) (K : Kn s z (LQ T A n r 0 0 0 0 fi la)) (hn : n = wrapF .i64 (((ofT ms).ev : Nat) : Int)) (hr : r = wrapF .i64 (((ofT ms).rc : Nat) : Int)) (hfi : fi = (ofT ms).fi) (hla : la = (ofT ms).la) :
    HM gt0 Tryz.prog s c12e (.pu 47 (ms.map Mv.v) .u :: .bad :: .p A 0 :: .bad :: .p T 0 :: List.replicate 96 .bad) z (finM s f18.res (.ag (ofT ms).v) s) := by
  have hll : (ms.map Mv.v).length = ms.length := List.length_map ..
  refine kgo ?_; (repeat (first | intro (X:Nat) | intro (z:St) | intro (av:V) | intro (tk:Option Nat) | (intro (K1:Kn _ _ _); (try clear K); rename Kn _ _ _ => K))); conv => whnf
  refine HM.loop gnm0 fun hg => ⟨fun n' e z => ∃ (i : Nat) (x3 x4 x5 x6 : Int), i ≤ ms.length ∧ n' = ms.length - i ∧ e = EQ2 (.pu 47 (ms.map Mv.v) .u) A T i ∧ x3 = wrapF .i64 (((ofT (ms.take i)).hi : Nat) : Int) ∧ x4 = wrapF .i64 (((ofT (ms.take i)).rq : Nat) : Int) ∧ x5 = wrapF .i64 (((ofT (ms.take i)).rf : Nat) : Int) ∧ x6 = wrapF .i64 (((ofT (ms.take i)).ck : Nat) : Int) ∧ Kn s z (LQ T A n r x3 x4 x5 x6 fi la),
    ⟨ms.length, fg [0, 2, 4, 6] _, _, WkM.fg hg, 0, 0, 0, 0, 0, Nat.zero_le _, rfl, rfl, rfl, rfl, rfl, rfl, K⟩, ?_⟩
  clear K
  rintro n' e z1 ⟨i, x3, x4, x5, x6, hi, rfl, rfl, h3, h4, h5, h6, K⟩
  conv => whnf
  refine kgo ?_; (repeat (first | intro (X:Nat) | intro (z:St) | intro (av:V) | intro (tk:Option Nat) | (intro (K1:Kn _ _ _); (try clear K); rename Kn _ _ _ => K))); conv => whnf
  rw [hll]
  refine brL ⟨fun hlt => ?_, fun hge => ?_⟩ <;> conv => whnf
  · have hmi : ms[i]? = some ms[i] := List.getElem?_eq_getElem hlt
    generalize ms[i] = m at hmi
    have hmm : (ms.map Mv.v)[((i : Nat) : Int).toNat]? = some m.v := by simp [hmi]
    have htk : ofT (ms.take (i + 1)) = (ofT (ms.take i)).add (one m) := by
      rw [List.take_add_one, hmi]; exact ofT_snoc _ m
    have e3 : up1 (hitB m) x3 = wrapF .i64 (((ofT (ms.take (i + 1))).hi : Nat) : Int) := by rw [h3, up1_w, htk]; simp only [Tl.add, one_hi]
    have e4 : up1 (eqZ m.k 1) x4 = wrapF .i64 (((ofT (ms.take (i + 1))).rq : Nat) : Int) := by rw [h4, up1_w, htk]; simp only [Tl.add, one_rq]
    have e5 : up1 (refB m) x5 = wrapF .i64 (((ofT (ms.take (i + 1))).rf : Nat) : Int) := by rw [h5, up1_w, htk]; simp only [Tl.add, one_rf]
    have e6 : up1 (eqZ m.k 3) x6 = wrapF .i64 (((ofT (ms.take (i + 1))).ck : Nat) : Int) := by rw [h6, up1_w, htk]; simp only [Tl.add, one_ck]
    refine HM.skip ?_
    refine HM.seq (HM.blk (HM.seq ?_))
    generalize hR : mS gt0 Tryz.prog s _ _ = R
    conv => whnf
    refine kgo ?_; (repeat (first | intro (X:Nat) | intro (z:St) | intro (av:V) | intro (tk:Option Nat) | (intro (K1:Kn _ _ _); (try clear K); rename Kn _ _ _ => K))); conv => whnf
    subst hR
    refine HM.fgt (c := .seq c12A (.seq c12B c12C)) gnm0 [0, 2, 4, 6, 7] fun _ => ?_
    refine HM.seq (a := c12A) ?_
    refine ptA (M := _) K _ i fun ev z2 he K => ?_
    refine HM.fgt (c := .seq c12B c12C) gnm0 [0, 2, 4, 6, 7] fun _ => ?_
    rw [he]
    refine HM.seq (a := c12B) ?_
    refine ptB K _ i fun ev z3 he K => ?_
    refine HM.fgt (c := c12C) gnm0 [0, 2, 4, 6, 7] fun _ => ?_
    rw [he]
    refine ptC K _ i fun ev z4 he K => ?_
    refine HM.fgt (c := .ops _) gnm0 [0, 2, 4, 6] fun _ => ?_
    rw [he]
    unfold LQM at K
    have K1 := K.drop0 rfl
    clear K; rename Kn _ _ _ => K
    conv => whnf
    refine kgo ?_; (repeat (first | intro (X:Nat) | intro (z:St) | intro (av:V) | intro (tk:Option Nat) | (intro (K1:Kn _ _ _); (try clear K); rename Kn _ _ _ => K))); conv => whnf
    intro hg'
    exact ⟨ms.length - (i + 1), fg [0, 2, 4, 6] _, _, by omega, WkM.fg hg', i + 1, _, _, _, _, hlt, rfl, rfl, e3, e4, e5, e6, K⟩
  · rw [List.take_of_length_le hge] at h3 h4 h5 h6
    unfold LQ vT at K
    refine kgo ?_; (repeat (first | intro (X:Nat) | intro (z:St) | intro (av:V) | intro (tk:Option Nat) | (intro (K1:Kn _ _ _); (try clear K); rename Kn _ _ _ => K))); conv => whnf
    have hv : (ofT ms).v = [.i .i64 n, .i .i64 r, .i .i64 x3, .i .i64 x4, .i .i64 x5, .i .i64 x6, .i .i64 fi, .i .i64 la] := by
      rw [hn, hr, h3, h4, h5, h6, hfi, hla]; rfl
    have hnm : Nm s.L (.ag (ofT ms).v) := .ag _ (@vT_nm _ _ _ _ _ _ _ _ _)
    rw [hv] at hnm ⊢
    exact K.ret [.ag [.i .i64 n, .i .i64 r, .i .i64 x3, .i .i64 x4, .i .i64 x5, .i .i64 x6, .i .i64 fi, .i .i64 la]] hty hx hnm (.refl _)
theorem rof_den (ms : List Mv) (hms : ms.length ≤ 1000) (hn : ∀ m ∈ ms, Nm s0.L m.v) (s : St) (hx : NoX s) :
    Den gt0 Tryz.prog 18 [.pu 47 (ms.map Mv.v) .u] s (.ag (ofT ms).v) s := by
  refine Den.tidy fun hty => Den.hm gnm0 hF18 ?_
  have K := Kn.init hty.1 hx
  conv => whnf
  refine kgo ?_; (repeat (first | intro (X:Nat) | intro (z:St) | intro (av:V) | intro (tk:Option Nat) | (intro (K1:Kn _ _ _); (try clear K); rename Kn _ _ _ => K))); conv => whnf
  refine ⟨_, _, events_den ms hms hn _ K.x, ?_⟩
  conv => whnf
  refine kgo ?_; (repeat (first | intro (X:Nat) | intro (z:St) | intro (av:V) | intro (tk:Option Nat) | (intro (K1:Kn _ _ _); (try clear K); rename Kn _ _ _ => K))); conv => whnf
  obtain ⟨E, hE⟩ : ∃ E, E = evs ms := ⟨_, rfl⟩
  have hEl : E.length ≤ 1000 := by
    have := List.length_filter_le isEv ms
    rw [hE]; unfold evs; omega
  have hEm : ((evs ms).map Mv.o).length = E.length := by rw [hE, List.length_map]
  rename_i A _ _
  obtain ⟨T, hT⟩ : ∃ T, T = X := ⟨_, rfl⟩
  rw [← hT] at K ⊢
  have K1 : Kn s z (LQ T A ((((evs ms).map Mv.o).length : Nat) : Int) 0 0 0 0 0 (-1) (-1)) := K
  clear K; rename Kn _ _ _ => K
  rw [hEm] at K
  refine HM.loop gnm0 fun hg => ⟨fun n e z => ∃ (i : Nat) (r : Int), i ≤ E.length ∧ n = E.length - i ∧ e = EQ1 (.pu 47 (ms.map Mv.v) .u) (.pu 9 ((evs ms).map Mv.o) .u) A T i ∧ r = wrapF .i64 ((sumR (E.take i) : Nat) : Int) ∧ Kn s z (LQ T A (E.length : Nat) r 0 0 0 0 (-1) (-1)),
    ⟨E.length, fg [0, 2, 3, 4, 5] _, _, WkM.fg hg, 0, 0, Nat.zero_le _, rfl, rfl, rfl, K⟩, ?_⟩
  clear K
  rintro n e z1 ⟨i, r, hi, rfl, rfl, hr, K⟩
  unfold LQ vT at K
  conv => whnf
  refine kgo ?_; (repeat (first | intro (X:Nat) | intro (z:St) | intro (av:V) | intro (tk:Option Nat) | (intro (K1:Kn _ _ _); (try clear K); rename Kn _ _ _ => K))); conv => whnf
  rw [hEm]
  refine brL ⟨fun hlt => ?_, fun hge => ?_⟩ <;> conv => whnf
  · have hlt' : i < (evs ms).length := by rw [← hE]; exact hlt
    have hm : (evs ms)[i]? = some (evs ms)[i] := List.getElem?_eq_getElem hlt'
    generalize (evs ms)[i] = m at hm
    have hmm : ((evs ms).map Mv.o)[((i : Nat) : Int).toNat]? = some m.o := by simp [hm]
    have hsr := sumR_take E i m (by rw [hE]; exact hm)
    refine kgo ?_; (repeat (first | intro (X:Nat) | intro (z:St) | intro (av:V) | intro (tk:Option Nat) | (intro (K1:Kn _ _ _); (try clear K); rename Kn _ _ _ => K))); conv => whnf
    intro hg'
    exact ⟨E.length - (i + 1), fg [0, 2, 3, 4, 5] _, _, by omega, WkM.fg hg', i + 1, _, hlt, rfl, rfl, by rw [hr, wrap_acc, hsr, Int.natCast_add], K⟩
  · have hEi : E.take i = E := List.take_of_length_le hge
    rw [hEi] at hr
    obtain ⟨q1, q2, q3, q4⟩ := ofT_evs ms
    rw [← hE] at q1 q2 q3 q4
    have hml : E.length ≤ maxLen := Nat.le_trans hEl (by decide)
    have hn1 : ((E.length : Nat) : Int) = wrapF .i64 (((ofT ms).ev : Nat) : Int) := by rw [q1, wrap_small (Nat.le_refl _) hml]
    have hr1 : r = wrapF .i64 (((ofT ms).rc : Nat) : Int) := by rw [q2]; exact hr
    refine kgo ?_; (repeat (first | intro (X:Nat) | intro (z:St) | intro (av:V) | intro (tk:Option Nat) | (intro (K1:Kn _ _ _); (try clear K); rename Kn _ _ _ => K))); conv => whnf
    rw [hEm]
    cases hc : ltZ 0 ((E.length : Nat) : Int) <;> conv => whnf
    · have hE0 : E = [] := by
        rw [ltZ_eq] at hc
        simp only [decide_eq_false_iff_not] at hc
        exact List.eq_nil_of_length_eq_zero (by omega)
      refine HM.skip ?_
      refine HM.fgt (c := c12e) gnm0 [0, 2, 4] fun _ => ?_
      exact rof_end ms hms hty hx K hn1 hr1 (by rw [q3, hE0]; rfl) (by rw [q4, hE0]; rfl)
    · have hpos : 0 < E.length := by rw [ltZ_eq] at hc; simp at hc; omega
      obtain ⟨k, hk⟩ : ∃ k, E.length = k + 1 := ⟨E.length - 1, by omega⟩
      obtain ⟨m0, hm0⟩ : ∃ m0, (evs ms)[0]? = some m0 := ⟨_, List.getElem?_eq_getElem (by rw [← hE]; exact hpos)⟩
      obtain ⟨mk, hmk⟩ : ∃ mk, (evs ms)[k]? = some mk := ⟨_, List.getElem?_eq_getElem (by rw [← hE]; omega)⟩
      have hmm0 : ((evs ms).map Mv.o)[(0 : Int).toNat]? = some m0.o := by simp [hm0]
      have hmmk : ((evs ms).map Mv.o)[((k : Nat) : Int).toNat]? = some mk.o := by simp [hmk]
      have hkk : wrapF .i64 (((E.length : Nat) : Int) - 1) = ((k : Nat) : Int) := by
        rw [hk]
        rw [show (((k + 1 : Nat) : Int) - 1) = ((k : Nat) : Int) by omega]
        exact wrap_small (Nat.le_refl _) (by omega)
      refine kgo ?_; (repeat (first | intro (X:Nat) | intro (z:St) | intro (av:V) | intro (tk:Option Nat) | (intro (K1:Kn _ _ _); (try clear K); rename Kn _ _ _ => K))); conv => whnf
      rw [hEm, hkk]
      refine ⟨rfl, Int.natCast_nonneg _, _, hmmk, ?_⟩
      generalize hR : mS gt0 Tryz.prog s _ _ = R
      conv => whnf
      refine kgo ?_; (repeat (first | intro (X:Nat) | intro (z:St) | intro (av:V) | intro (tk:Option Nat) | (intro (K1:Kn _ _ _); (try clear K); rename Kn _ _ _ => K))); conv => whnf
      subst hR
      refine HM.fgt (c := c12e) gnm0 [0, 2, 4] fun _ => ?_
      exact rof_end ms hms hty hx K hn1 hr1 (by rw [q3]; rw [← hE] at hm0; cases hh : E with
        | nil => rw [hh] at hm0; cases hm0
        | cons a b => rw [hh] at hm0; cases hm0; rfl) (by rw [q4]; rw [← hE] at hmk; exact (last_at E k mk hk hmk).symm)
end Go.Proofs.YthoojnjcdllgdaaGreatDoor
