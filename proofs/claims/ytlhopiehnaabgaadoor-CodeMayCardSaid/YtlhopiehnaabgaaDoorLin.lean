/-
  Contracts: the document's lines, its numbers. No statement stands here.
-/
import Derived.Test.YtlhopiehnaabgaaDoorCut
import Derived.Test.YtlhopiehnaabgaaDoorCodeT3
import Derived.Test.YtlhopiehnaabgaaDoorLE
set_option linter.all false
namespace Go.Proofs.YtlhopiehnaabgaaDoor
open Go Rf
set_option maxRecDepth 100000
set_option maxHeartbeats 4000000

theorem cutL_hit {c : UInt8} : ∀ (l : List UInt8), cutL c (l ++ [c]) = cutL c l ++ [[]]
  | [] => by simp [cutL]
  | b :: l => by
    have ih := cutL_hit (c := c) l
    rw [List.cons_append, cutL, ih]
    by_cases h : b = c
    · rw [if_pos h, cutL, if_pos h]; rfl
    · rw [if_neg h, cutL, if_neg h]
      cases he : cutL c l with
      | nil => exact (cutL_ne c l he).elim
      | cons a t => rfl
theorem cutL_miss {c b : UInt8} (hb : b ≠ c) : ∀ (l : List UInt8) {o : List (List UInt8)} {t : List UInt8}, cutL c l = o ++ [t] → cutL c (l ++ [b]) = o ++ [t ++ [b]]
  | [], o, t, h => by
    have : o = [] ∧ t = [] := by
      cases o with
      | nil => simp [cutL] at h; exact ⟨rfl, h⟩
      | cons a o => simp [cutL] at h
    obtain ⟨rfl, rfl⟩ := this
    simp [cutL, hb]
  | x :: l, o, t, h => by
    rw [cutL] at h
    rw [List.cons_append, cutL]
    by_cases hx : x = c
    · rw [if_pos hx] at h ⊢
      cases o with
      | nil => exact (cutL_ne c l (by simpa using (List.cons.inj h).2)).elim
      | cons a o =>
        obtain ⟨h1, h2⟩ := List.cons.inj h
        rw [cutL_miss hb l h2, ← h1]; rfl
    · rw [if_neg hx] at h ⊢
      cases he : cutL c l with
      | nil => exact (cutL_ne c l he).elim
      | cons a r =>
        rw [he] at h
        simp only at h
        cases o with
        | nil =>
          simp at h
          obtain ⟨h1, h2⟩ := h
          have := cutL_miss hb l (o := []) (t := a) (by rw [he, h2]; rfl)
          rw [this, ← h1]; rfl
        | cons a' o =>
          obtain ⟨h1, h2⟩ := List.cons.inj h
          have := cutL_miss hb l (o := a :: o) (t := t) (by rw [he, h2]; rfl)
          rw [this, ← h1]; rfl
theorem aop_slS2 {e : List V} {s : St} {x y z : Arg} {l : List UInt8} {a b : Nat} (hx : x.ev e = .s l) (hy : y.ev e = .i .i64 ((a : Nat) : Int)) (hz : z.ev e = .i .i64 ((b : Nat) : Int)) (ha : a ≤ b) (hb : b ≤ l.length) : aop e s (.slS x (some y) (some z)) = some (.s ((l.take b).drop a), s) := by
  simp only [aop, hx, Option.map_some, Option.map_none, hy, hz]
  delta slb
  simp [bnd_nat ha, bnd_nat hb]
theorem eqZ_ne10 {b : UInt8} (h : b ≠ 10) : eqZ ((b.toNat : Nat) : Int) 10 = false := by
  rw [eqZ_eq]
  simp
  intro e
  exact h (UInt8.toNat_inj.1 (by rw [show (10 : UInt8).toNat = 10 from rfl]; omega))
def EL (S : List UInt8) (ov : V) (fr i : Nat) : List V := (.s S :: .bad :: .bad :: .bad :: ov :: .i .i64 (fr : Nat) :: .i .i64 (i : Nat) :: List.replicate 24 .bad)
theorem lines_den (S : List UInt8) (hS : S.length ≤ 5000) (s : St) (hx : NoX s) : Den gt1 Tryd.prog 43 [.s S] s (.tu [.pu 1 ((cutL 10 S).dropLast.map .s) .u, .bad]) s := by
  refine Den.tidy fun ht => Den.hm gnm1 (show cF gt1 Tryd.prog (wfa 43) 43 = some f43 by kernel_rfl) ?_
  have K := (Kn.init ht.1 hx).acc0 1
  conv => whnf
  refine kgo ?_; (repeat (first | intro (X:Nat) | intro (z:St) | intro (av:V) | intro (tk:Option Nat) | (intro (K1:Kn _ _ _); (try clear K); rename Kn _ _ _ => K))); conv => whnf
  refine HM.loop gnm1 fun hg => ⟨fun m e z' => ∃ (i fr : Nat) (out : List (List UInt8)) (ov : V) (tk : Option Nat), i ≤ S.length ∧ fr ≤ i ∧ out.length ≤ i ∧ m = S.length - i ∧ e = EL S ov fr i ∧ cutL 10 (S.take i) = out ++ [(S.take i).drop fr] ∧ Kn s z' [.ac 1 ov (out.map .s) tk],
    ⟨S.length, fg [0, 4, 5, 6] _, _, WkM.fg hg, 0, 0, [], .ns, none, Nat.zero_le _, Nat.le_refl _, Nat.le_refl _, rfl, rfl, rfl, K⟩, ?_⟩
  clear K
  rintro m e z1 ⟨i, fr, out, ov, tk, hi, hfr, hol, rfl, rfl, hc, K⟩
  conv => whnf
  refine kgo ?_; (repeat (first | intro (X:Nat) | intro (z:St) | intro (av:V) | intro (tk:Option Nat) | (intro (K1:Kn _ _ _); (try clear K); rename Kn _ _ _ => K))); conv => whnf
  refine brL ⟨fun hlt => ?_, fun hge => ?_⟩ <;> conv => whnf
  · have hsi : S[i]? = some S[i] := List.getElem?_eq_getElem hlt
    have htk : S.take (i + 1) = S.take i ++ [S[i]] := by rw [List.take_add_one, hsi]; rfl
    generalize S[i] = b at hsi htk
    refine kgo ?_; (repeat (first | intro (X:Nat) | intro (z:St) | intro (av:V) | intro (tk:Option Nat) | (intro (K1:Kn _ _ _); (try clear K); rename Kn _ _ _ => K))); conv => whnf
    refine ⟨Int.natCast_nonneg _, b, hsi, ?_⟩
    conv => whnf
    refine kgo ?_; (repeat (first | intro (X:Nat) | intro (z:St) | intro (av:V) | intro (tk:Option Nat) | (intro (K1:Kn _ _ _); (try clear K); rename Kn _ _ _ => K))); conv => whnf
    by_cases hb : b = 10
    · subst hb
      rw [show eqZ (((10 : UInt8).toNat : Nat) : Int) 10 = true from rfl]
      conv => whnf
      refine kgo ?_; (repeat (first | intro (X:Nat) | intro (z:St) | intro (av:V) | intro (tk:Option Nat) | (intro (K1:Kn _ _ _); (try clear K); rename Kn _ _ _ => K))); conv => whnf
      refine ⟨_, _, aop_slS2 (a := fr) (b := i) rfl rfl rfl hfr (Nat.le_of_lt hlt), ?_⟩
      conv => whnf
      refine kgo ?_; (repeat (first | intro (X:Nat) | intro (z:St) | intro (av:V) | intro (tk:Option Nat) | (intro (K1:Kn _ _ _); (try clear K); rename Kn _ _ _ => K))); conv => whnf
      intro hg'
      refine ⟨S.length - (i + 1), fg [0, 4, 5, 6] _, _, by omega, WkM.fg hg', i + 1, i + 1, out ++ [(S.take i).drop fr], av, tk, hlt, Nat.le_refl _, by simp; exact hol, rfl, rfl, ?_, K.cast (by simp)⟩
      have e0 : (S.take i ++ [10]).drop (i + 1) = [] := List.drop_of_length_le (by simp; omega)
      rw [htk, cutL_hit, hc, e0]
    · rw [show eqZ ((b.toNat : Nat) : Int) 10 = false from eqZ_ne10 hb]
      conv => whnf
      refine kgo ?_; (repeat (first | intro (X:Nat) | intro (z:St) | intro (av:V) | intro (tk:Option Nat) | (intro (K1:Kn _ _ _); (try clear K); rename Kn _ _ _ => K))); conv => whnf
      intro hg'
      refine ⟨S.length - (i + 1), fg [0, 4, 5, 6] _, _, by omega, WkM.fg hg', i + 1, fr, out, ov, tk, hlt, Nat.le_succ_of_le hfr, Nat.le_succ_of_le hol, rfl, rfl, ?_, K⟩
      rw [htk, cutL_miss hb _ hc, List.drop_append_of_le_length (by rw [List.length_take]; omega)]
  · rw [List.take_of_length_le hge] at hc
    rw [hc, List.dropLast_concat]
    refine kgo ?_; (repeat (first | intro (X:Nat) | intro (z:St) | intro (av:V) | intro (tk:Option Nat) | (intro (K1:Kn _ _ _); (try clear K); rename Kn _ _ _ => K))); conv => whnf
    exact K.fin ht hx (.tu _ (nm2 (.pu _ _ _ (ss_nm _) (fun k hk => by cases hk)) .bad)) (.tu _ _ (.cons (K.vw .here) (.cons (.bad _) .nil)))
theorem eqZ_ne45 {b : UInt8} (h : b ≠ 45) : eqZ ((b.toNat : Nat) : Int) 45 = false := by
  rw [eqZ_eq]
  simp
  intro e
  exact h (UInt8.toNat_inj.1 (by rw [show (45 : UInt8).toNat = 45 from rfl]; omega))
def stD (n : Int) (b : UInt8) : Int := if b = 45 then n else wrapF .u64 (wrapF .u64 (10 * n) + wrapF .u64 (wrapF .u8 ((b.toNat : Nat) - 48)))
def valR (l : List UInt8) : Int := wrapF .i64 (if l.head? = some 45 then wrapF .u64 (0 - l.foldl stD 0) else l.foldl stD 0)
def EVl (S : List UInt8) (n : Int) (i : Nat) : List V := (.s S :: .bad :: .bad :: .i .u64 n :: .i .i64 (i : Nat) :: List.replicate 30 .bad)
theorem value_den (S : List UInt8) (hS : S.length ≤ 5000) : PDen gt0 Tryd.prog 44 [.s S] (.i .i64 (valR S)) := by
  generalize hB : V.i .i64 (valR S) = B
  refine PDen.hc gnm0 hF44 (nm1 (.s _)) (by rw [← hB]; exact .i _ _) ?_
  have hm : 10000 ≤ maxLen := by decide
  conv => whnf
  refine sgo ?_
  refine HC.loop gnm0 fun hg => ⟨fun m e s => s = s0 ∧ ∃ i : Nat, i ≤ S.length ∧ m = S.length - i ∧ e = EVl S ((S.take i).foldl stD 0) i, ⟨S.length, fg [0, 3, 4] _, _, Wk.fg hg.1 hg.2, rfl, 0, Nat.zero_le _, rfl, rfl⟩, ?_⟩
  rintro m e s ⟨rfl, i, hi, rfl, rfl⟩
  have hstep : ∀ b, S[i]? = some b → (S.take (i + 1)).foldl stD 0 = stD ((S.take i).foldl stD 0) b := fun b hb => by
    rw [List.take_add_one, hb]; simp
  have hend : S.length ≤ i → (S.take i).foldl stD 0 = S.foldl stD 0 := fun h => by rw [List.take_of_length_le h]
  generalize (S.take i).foldl stD 0 = n at hstep hend
  conv => whnf
  refine sgo ?_
  refine brL ⟨fun hlt => ?_, fun hge => ?_⟩ <;> conv => whnf
  · have hsi : S[i]? = some S[i] := List.getElem?_eq_getElem hlt
    generalize S[i] = b at hsi
    refine sgo ?_
    refine ⟨Int.natCast_nonneg _, b, hsi, ?_⟩
    conv => whnf
    refine sgo ?_
    have hi1 : wrapF .i64 ((i : Int) + 1) = ((i + 1 : Nat) : Int) := wrap_succ hlt (by omega)
    by_cases hb : b = 45
    · subst hb
      rw [show eqZ (((45 : UInt8).toNat : Nat) : Int) 45 = true from rfl]
      conv => whnf
      refine sgo ?_
      rw [hi1]
      intro hg'
      refine ⟨S.length - (i + 1), fg [0, 3, 4] _, _, by omega, Wk.fg hg'.1 hg'.2, rfl, i + 1, hlt, rfl, ?_⟩
      rw [hstep _ hsi]; rfl
    · rw [show eqZ ((b.toNat : Nat) : Int) 45 = false from eqZ_ne45 hb]
      conv => whnf
      refine sgo ?_
      refine ⟨Int.natCast_nonneg _, b, hsi, ?_⟩
      conv => whnf
      refine sgo ?_
      rw [hi1]
      intro hg'
      refine ⟨S.length - (i + 1), fg [0, 3, 4] _, _, by omega, Wk.fg hg'.1 hg'.2, rfl, i + 1, hlt, rfl, ?_⟩
      rw [hstep _ hsi, stD, if_neg hb]; rfl
  · rw [hend hge]
    refine sgo ?_
    cases S with
    | nil =>
      refine sgo ?_
      exact hB
    | cons c r =>
      rw [show ltZ 0 (((c :: r).length : Nat) : Int) = true by rw [ltZ_eq]; simp]
      conv => whnf
      refine sgo ?_
      refine ⟨Int.le_refl _, c, rfl, ?_⟩
      conv => whnf
      refine sgo ?_
      by_cases hc : c = 45
      · subst hc
        rw [show eqZ (((45 : UInt8).toNat : Nat) : Int) 45 = true from rfl]
        conv => whnf
        refine sgo ?_
        rw [← hB, valR, if_pos (show (45 :: r : List UInt8).head? = some 45 from rfl)]
      · rw [show eqZ ((c.toNat : Nat) : Int) 45 = false from eqZ_ne45 hc]
        conv => whnf
        refine sgo ?_
        rw [← hB, valR, if_neg (by simpa using hc)]
end Go.Proofs.YtlhopiehnaabgaaDoor
