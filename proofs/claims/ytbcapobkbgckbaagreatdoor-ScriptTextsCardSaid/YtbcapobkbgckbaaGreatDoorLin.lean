/-
  Contracts: the document's lines, words, numbers, digits. No statement stands here.
-/
import Derived.Test.YtbcapobkbgckbaaGreatDoorSsh
import Derived.Test.YtbcapobkbgckbaaGreatDoorDig
import Derived.Test.YtbcapobkbgckbaaGreatDoorLF
set_option linter.all false
namespace Go.Proofs.YtbcapobkbgckbaaGreatDoor
open Go Rf
set_option maxRecDepth 100000
set_option maxHeartbeats 4000000

theorem ss_nm {L : Nat → Prop} (l : List (List UInt8)) : ∀ v ∈ l.map V.s, Nm L v := fun v hv => by
  obtain ⟨x, -, rfl⟩ := List.mem_map.1 hv; exact .s _
theorem wrap_succ {i n : Nat} (h : i < n) (hn : n ≤ maxLen) : wrapF .i64 ((i : Int) + 1) = ((i + 1 : Nat) : Int) := by
  have hm : maxLen ≤ 9223372036854775807 := by decide
  rw [wrapF_eq, wrap_in] <;> simp [lim, IntKind.signed] <;> omega
def whB (S : List UInt8) : Bool := decide ((cutL 10 S).getLastD [] = [])
theorem aop_slS2 {e : List V} {s : St} {x y z : Arg} {l : List UInt8} {a b : Nat} (hx : x.ev e = .s l) (hy : y.ev e = .i .i64 ((a : Nat) : Int)) (hz : z.ev e = .i .i64 ((b : Nat) : Int)) (ha : a ≤ b) (hb : b ≤ l.length) : aop e s (.slS x (some y) (some z)) = some (.s ((l.take b).drop a), s) := by
  simp only [aop, hx, Option.map_some, Option.map_none, hy, hz]
  delta slb
  simp [bnd_nat ha, bnd_nat hb]
theorem eqZ_ne10 {b : UInt8} (h : b ≠ 10) : eqZ ((b.toNat : Nat) : Int) 10 = false := by
  rw [eqZ_eq]
  simp
  intro e
  exact h (UInt8.toNat_inj.1 (by rw [show (10 : UInt8).toNat = 10 from rfl]; omega))
def EL (S : List UInt8) (ov : V) (fr i : Nat) : List V := (.s S :: .bad :: .bad :: .bad :: ov :: .i .i64 (fr : Nat) :: .i .i64 (i : Nat) :: List.replicate 24 .bad)
theorem lines_den (S : List UInt8) (hS : S.length ≤ 5000) (s : St) (hx : NoX s) : Den gt0 Tryz.prog 27 [.s S] s (.tu [.pu 1 ((cutL 10 S).dropLast.map .s) .u, .b (whB S)]) s := by
  refine Den.tidy fun ht => Den.hm gnm0 hF27 ?_
  have K := (Kn.init ht.1 hx).acc0 1
  conv => whnf
  refine kgo ?_; (repeat (first | intro (X:Nat) | intro (z:St) | intro (av:V) | intro (tk:Option Nat) | (intro (K1:Kn _ _ _); (try clear K); rename Kn _ _ _ => K))); conv => whnf
  refine HM.loop gnm0 fun hg => ⟨fun m e z' => ∃ (i fr : Nat) (out : List (List UInt8)) (ov : V) (tk : Option Nat), i ≤ S.length ∧ fr ≤ i ∧ out.length ≤ i ∧ m = S.length - i ∧ e = EL S ov fr i ∧ cutL 10 (S.take i) = out ++ [(S.take i).drop fr] ∧ Kn s z' [.ac 1 ov (out.map .s) tk],
    ⟨S.length, fg [0, 4, 5, 6] _, _, WkM.fg hg, 0, 0, [], .ns, none, Nat.zero_le _, Nat.le_refl _, Nat.le_refl _, rfl, rfl, rfl, K⟩, ?_⟩
  clear K
  rintro m e z1 ⟨i, fr, out, ov, tk, hi, hfr, hol, rfl, rfl, hc, K⟩
  conv => whnf
  refine kgo ?_; (repeat (first | intro (X:Nat) | intro (z:St) | intro (av:V) | intro (tk:Option Nat) | (intro (K1:Kn _ _ _); (try clear K); rename Kn _ _ _ => K))); conv => whnf
  refine brL ⟨fun hlt => ?_, fun hge => ?_⟩ <;> conv => whnf
  · have hsi : S[i]? = some S[i] := List.getElem?_eq_getElem hlt
    have htk : S.take (i + 1) = S.take i ++ [S[i]] := by rw [List.take_add_one, hsi]; rfl
    generalize S[i] = b at hsi htk
    refine kgo ?_; (repeat (first | intro (X:Nat) | intro (z:St) | intro (av:V) | intro (tk:Option Nat) | (intro (K1:Kn _ _ _); (try clear K); rename Kn _ _ _ => K))); conv => whnf
    refine ⟨Int.natCast_nonneg _, b, hsi, ?_⟩
    conv => whnf
    refine kgo ?_; (repeat (first | intro (X:Nat) | intro (z:St) | intro (av:V) | intro (tk:Option Nat) | (intro (K1:Kn _ _ _); (try clear K); rename Kn _ _ _ => K))); conv => whnf
    by_cases hb : b = 10
    · subst hb
      rw [show eqZ (((10 : UInt8).toNat : Nat) : Int) 10 = true from rfl]
      conv => whnf
      refine kgo ?_; (repeat (first | intro (X:Nat) | intro (z:St) | intro (av:V) | intro (tk:Option Nat) | (intro (K1:Kn _ _ _); (try clear K); rename Kn _ _ _ => K))); conv => whnf
      refine ⟨_, _, aop_slS2 (a := fr) (b := i) rfl rfl rfl hfr (Nat.le_of_lt hlt), ?_⟩
      conv => whnf
      refine kgo ?_; (repeat (first | intro (X:Nat) | intro (z:St) | intro (av:V) | intro (tk:Option Nat) | (intro (K1:Kn _ _ _); (try clear K); rename Kn _ _ _ => K))); conv => whnf
      intro hg'
      refine ⟨S.length - (i + 1), fg [0, 4, 5, 6] _, _, by omega, WkM.fg hg', i + 1, i + 1, out ++ [(S.take i).drop fr], av, tk, hlt, Nat.le_refl _, by simp; exact hol, rfl, rfl, ?_, K.cast (by simp)⟩
      have e0 : (S.take i ++ [10]).drop (i + 1) = [] := List.drop_of_length_le (by simp; omega)
      rw [htk, cutL_hit, hc, e0]
    · rw [show eqZ ((b.toNat : Nat) : Int) 10 = false from eqZ_ne10 hb]
      conv => whnf
      refine kgo ?_; (repeat (first | intro (X:Nat) | intro (z:St) | intro (av:V) | intro (tk:Option Nat) | (intro (K1:Kn _ _ _); (try clear K); rename Kn _ _ _ => K))); conv => whnf
      intro hg'
      refine ⟨S.length - (i + 1), fg [0, 4, 5, 6] _, _, by omega, WkM.fg hg', i + 1, fr, out, ov, tk, hlt, Nat.le_succ_of_le hfr, Nat.le_succ_of_le hol, rfl, rfl, ?_, K⟩
      rw [htk, cutL_miss hb _ hc, List.drop_append_of_le_length (by rw [List.length_take]; omega)]
  · rw [List.take_of_length_le hge] at hc
    have hw : whB S = eqZ (fr : Nat) (S.length : Nat) := by
      unfold whB
      rw [hc, eqZ_eq, List.getLastD_concat, Bool.eq_iff_iff, decide_eq_true_eq, beq_iff_eq, List.drop_eq_nil_iff]; omega
    rw [hc, List.dropLast_concat, hw]
    refine kgo ?_; (repeat (first | intro (X:Nat) | intro (z:St) | intro (av:V) | intro (tk:Option Nat) | (intro (K1:Kn _ _ _); (try clear K); rename Kn _ _ _ => K))); conv => whnf
    exact K.fin ht hx (.tu _ (nm2 (.pu _ _ _ (ss_nm _) (fun k hk => by cases hk)) (.b _))) (.tu _ _ (.cons (K.vw .here) (.cons (.refl _) .nil)))
theorem eqZ_ne45 {b : UInt8} (h : b ≠ 45) : eqZ ((b.toNat : Nat) : Int) 45 = false := by
  rw [eqZ_eq]
  simp
  intro e
  exact h (UInt8.toNat_inj.1 (by rw [show (45 : UInt8).toNat = 45 from rfl]; omega))
def EVl (S : List UInt8) (n : Int) (i : Nat) : List V := (.s S :: .bad :: .bad :: .i .u64 n :: .i .i64 (i : Nat) :: List.replicate 30 .bad)
theorem value_den (S : List UInt8) (hS : S.length ≤ 5000) : PDen gt0 Tryz.prog 56 [.s S] (.i .i64 (valR S)) := by
  generalize hB : V.i .i64 (valR S) = B
  refine PDen.hc gnm0 hF56 (nm1 (.s _)) (by rw [← hB]; exact .i _ _) ?_
  have hm : 10000 ≤ maxLen := by decide
  conv => whnf
  refine sgo ?_
  refine HC.loop gnm0 fun hg => ⟨fun m e s => s = s0 ∧ ∃ i : Nat, i ≤ S.length ∧ m = S.length - i ∧ e = EVl S ((S.take i).foldl stD 0) i, ⟨S.length, fg [0, 3, 4] _, _, Wk.fg hg.1 hg.2, rfl, 0, Nat.zero_le _, rfl, rfl⟩, ?_⟩
  rintro m e s ⟨rfl, i, hi, rfl, rfl⟩
  have hstep : ∀ b, S[i]? = some b → (S.take (i + 1)).foldl stD 0 = stD ((S.take i).foldl stD 0) b := fun b hb => by
    rw [List.take_add_one, hb]; simp
  have hend : S.length ≤ i → (S.take i).foldl stD 0 = S.foldl stD 0 := fun h => by rw [List.take_of_length_le h]
  generalize (S.take i).foldl stD 0 = n at hstep hend
  conv => whnf
  refine sgo ?_
  refine brL ⟨fun hlt => ?_, fun hge => ?_⟩ <;> conv => whnf
  · have hsi : S[i]? = some S[i] := List.getElem?_eq_getElem hlt
    generalize S[i] = b at hsi
    refine sgo ?_
    refine ⟨Int.natCast_nonneg _, b, hsi, ?_⟩
    conv => whnf
    refine sgo ?_
    have hi1 : wrapF .i64 ((i : Int) + 1) = ((i + 1 : Nat) : Int) := wrap_succ hlt (by omega)
    by_cases hb : b = 45
    · subst hb
      rw [show eqZ (((45 : UInt8).toNat : Nat) : Int) 45 = true from rfl]
      conv => whnf
      refine sgo ?_
      rw [hi1]
      intro hg'
      refine ⟨S.length - (i + 1), fg [0, 3, 4] _, _, by omega, Wk.fg hg'.1 hg'.2, rfl, i + 1, hlt, rfl, ?_⟩
      rw [hstep _ hsi]; rfl
    · rw [show eqZ ((b.toNat : Nat) : Int) 45 = false from eqZ_ne45 hb]
      conv => whnf
      refine sgo ?_
      refine ⟨Int.natCast_nonneg _, b, hsi, ?_⟩
      conv => whnf
      refine sgo ?_
      rw [hi1]
      intro hg'
      refine ⟨S.length - (i + 1), fg [0, 3, 4] _, _, by omega, Wk.fg hg'.1 hg'.2, rfl, i + 1, hlt, rfl, ?_⟩
      rw [hstep _ hsi, stD, if_neg hb]; rfl
  · rw [hend hge]
    refine sgo ?_
    cases S with
    | nil =>
      refine sgo ?_
      exact hB
    | cons c r =>
      rw [show ltZ 0 (((c :: r).length : Nat) : Int) = true by rw [ltZ_eq]; simp]
      conv => whnf
      refine sgo ?_
      refine ⟨Int.le_refl _, c, rfl, ?_⟩
      conv => whnf
      refine sgo ?_
      by_cases hc : c = 45
      · subst hc
        rw [show eqZ (((45 : UInt8).toNat : Nat) : Int) 45 = true from rfl]
        conv => whnf
        refine sgo ?_
        rw [← hB, valR, if_pos (show (45 :: r : List UInt8).head? = some 45 from rfl)]
      · rw [show eqZ ((c.toNat : Nat) : Int) 45 = false from eqZ_ne45 hc]
        conv => whnf
        refine sgo ?_
        rw [← hB, valR, if_neg (by simpa using hc)]
theorem eqZ_ne32 {b : UInt8} (h : b ≠ 32) : eqZ ((b.toNat : Nat) : Int) 32 = false := by
  rw [eqZ_eq]
  simp
  intro e
  exact h (UInt8.toNat_inj.1 (by rw [show (32 : UInt8).toNat = 32 from rfl]; omega))
theorem aop_slS1 {e : List V} {s : St} {x y : Arg} {l : List UInt8} {a : Nat} (hx : x.ev e = .s l) (hy : y.ev e = .i .i64 ((a : Nat) : Int)) (ha : a ≤ l.length) : aop e s (.slS x (some y) none) = some (.s (l.drop a), s) := by
  simp only [aop, hx, Option.map_some, Option.map_none, hy]
  delta slb
  simp [bnd_nat ha]
def EWo (S : List UInt8) (ov : V) (fr i : Nat) : List V := (.s S :: .bad :: .bad :: ov :: .i .i64 (fr : Nat) :: .i .i64 (i : Nat) :: List.replicate 25 .bad)
theorem words_den (S : List UInt8) (hS : S.length ≤ 5000) (s : St) (hx : NoX s) : Den gt0 Tryz.prog 55 [.s S] s (.pu 1 ((cutL 32 S).map .s) .u) s := by
  refine Den.tidy fun ht => Den.hm gnm0 hF55 ?_
  have K := (Kn.init ht.1 hx).acc0 1
  conv => whnf
  refine kgo ?_; (repeat (first | intro (X:Nat) | intro (z:St) | intro (av:V) | intro (tk:Option Nat) | (intro (K1:Kn _ _ _); (try clear K); rename Kn _ _ _ => K))); conv => whnf
  refine HM.loop gnm0 fun hg => ⟨fun m e z' => ∃ (i fr : Nat) (out : List (List UInt8)) (ov : V) (tk : Option Nat), i ≤ S.length ∧ fr ≤ i ∧ out.length ≤ i ∧ m = S.length - i ∧ e = EWo S ov fr i ∧ cutL 32 (S.take i) = out ++ [(S.take i).drop fr] ∧ Kn s z' [.ac 1 ov (out.map .s) tk],
    ⟨S.length, fg [0, 3, 4, 5] _, _, WkM.fg hg, 0, 0, [], .ns, none, Nat.zero_le _, Nat.le_refl _, Nat.le_refl _, rfl, rfl, rfl, K⟩, ?_⟩
  clear K
  rintro m e z1 ⟨i, fr, out, ov, tk, hi, hfr, hol, rfl, rfl, hc, K⟩
  conv => whnf
  refine kgo ?_; (repeat (first | intro (X:Nat) | intro (z:St) | intro (av:V) | intro (tk:Option Nat) | (intro (K1:Kn _ _ _); (try clear K); rename Kn _ _ _ => K))); conv => whnf
  refine brL ⟨fun hlt => ?_, fun hge => ?_⟩ <;> conv => whnf
  · have hsi : S[i]? = some S[i] := List.getElem?_eq_getElem hlt
    have htk : S.take (i + 1) = S.take i ++ [S[i]] := by rw [List.take_add_one, hsi]; rfl
    generalize S[i] = b at hsi htk
    refine kgo ?_; (repeat (first | intro (X:Nat) | intro (z:St) | intro (av:V) | intro (tk:Option Nat) | (intro (K1:Kn _ _ _); (try clear K); rename Kn _ _ _ => K))); conv => whnf
    refine ⟨Int.natCast_nonneg _, b, hsi, ?_⟩
    conv => whnf
    refine kgo ?_; (repeat (first | intro (X:Nat) | intro (z:St) | intro (av:V) | intro (tk:Option Nat) | (intro (K1:Kn _ _ _); (try clear K); rename Kn _ _ _ => K))); conv => whnf
    by_cases hb : b = 32
    · subst hb
      rw [show eqZ (((32 : UInt8).toNat : Nat) : Int) 32 = true from rfl]
      conv => whnf
      refine kgo ?_; (repeat (first | intro (X:Nat) | intro (z:St) | intro (av:V) | intro (tk:Option Nat) | (intro (K1:Kn _ _ _); (try clear K); rename Kn _ _ _ => K))); conv => whnf
      refine ⟨_, _, aop_slS2 (a := fr) (b := i) rfl rfl rfl hfr (Nat.le_of_lt hlt), ?_⟩
      conv => whnf
      refine kgo ?_; (repeat (first | intro (X:Nat) | intro (z:St) | intro (av:V) | intro (tk:Option Nat) | (intro (K1:Kn _ _ _); (try clear K); rename Kn _ _ _ => K))); conv => whnf
      intro hg'
      refine ⟨S.length - (i + 1), fg [0, 3, 4, 5] _, _, by omega, WkM.fg hg', i + 1, i + 1, out ++ [(S.take i).drop fr], av, tk, hlt, Nat.le_refl _, by simp; exact hol, rfl, rfl, ?_, K.cast (by simp)⟩
      have e0 : (S.take i ++ [32]).drop (i + 1) = [] := List.drop_of_length_le (by simp; omega)
      rw [htk, cutL_hit, hc, e0]
    · rw [show eqZ ((b.toNat : Nat) : Int) 32 = false from eqZ_ne32 hb]
      conv => whnf
      refine kgo ?_; (repeat (first | intro (X:Nat) | intro (z:St) | intro (av:V) | intro (tk:Option Nat) | (intro (K1:Kn _ _ _); (try clear K); rename Kn _ _ _ => K))); conv => whnf
      intro hg'
      refine ⟨S.length - (i + 1), fg [0, 3, 4, 5] _, _, by omega, WkM.fg hg', i + 1, fr, out, ov, tk, hlt, Nat.le_succ_of_le hfr, Nat.le_succ_of_le hol, rfl, rfl, ?_, K⟩
      rw [htk, cutL_miss hb _ hc, List.drop_append_of_le_length (by rw [List.length_take]; omega)]
  · rw [List.take_of_length_le hge] at hc
    rw [hc]
    refine kgo ?_; (repeat (first | intro (X:Nat) | intro (z:St) | intro (av:V) | intro (tk:Option Nat) | (intro (K1:Kn _ _ _); (try clear K); rename Kn _ _ _ => K))); conv => whnf
    refine ⟨_, _, aop_slS1 (a := fr) rfl rfl (by omega), ?_⟩
    conv => whnf
    refine kgo ?_; (repeat (first | intro (X:Nat) | intro (z:St) | intro (av:V) | intro (tk:Option Nat) | (intro (K1:Kn _ _ _); (try clear K); rename Kn _ _ _ => K))); conv => whnf
    replace K := K.cast (L' := [.ac 1 av ((out ++ [S.drop fr]).map .s) tk]) (by simp)
    refine (Eq.mpr (fV_eq av (fun u => Vw u (.pu 1 ((out ++ [S.drop fr]).map .s) .u) ∧ (Rf.Good z → WkS s s z ∧ (s.L = z.L ∨ Nm s.L (.pu 1 ((out ++ [S.drop fr]).map .s) .u))))) ?_ : _)
    exact K.fin ht hx (.pu _ _ _ (ss_nm _) (fun k hk => by cases hk)) (.one (K.vw .here))
theorem nib_den (c : UInt8) : PDen gt0 Tryz.prog 57 [.i .u8 (c.toNat : Nat)] (.i .u8 (nbR c : Nat)) := by
  have hc := c.toNat_lt
  have r16 : ∀ n : Nat, n < 256 → binV .rem (.i .u8 (n : Nat)) (.i .u8 16) = some (.i .u8 ((n % 16 : Nat) : Int)) := fun n hn => by
    show binI .rem .u8 (n : Nat) 16 = _
    simp only [binI]
    rw [if_neg (by decide)]; rfl
  have w8 : ∀ n : Int, wrapF .u8 n = n % 256 := fun n => by rw [wrapF_eq]; simp [IntKind.wrap, IntKind.bits, IntKind.signed]
  generalize hB : V.i .u8 (nbR c : Nat) = B
  refine PDen.hc gnm0 hF57 (nm1 (.i _ _)) (by rw [← hB]; exact .i _ _) ?_
  conv => whnf
  refine sgo ?_
  cases h : leZ 97 (c.toNat : Nat) <;> conv => whnf
  · refine sgo ?_
    rw [leZ_eq] at h
    simp at h
    have e1 : wrapF .u8 ((c.toNat : Nat) - 48) = (((c.toNat + 208) % 256 : Nat) : Int) := by rw [w8]; omega
    rw [e1]
    refine ⟨_, r16 _ (by omega), ?_⟩
    conv => whnf
    refine sgo ?_
    rw [← hB, nbR, if_neg (by omega)]
  · refine sgo ?_
    rw [leZ_eq] at h
    simp at h
    have e1 : wrapF .u8 (wrapF .u8 ((c.toNat : Nat) - 97) + 10) = (((c.toNat - 87) % 256 : Nat) : Int) := by rw [w8, w8]; omega
    rw [e1]
    refine ⟨_, r16 _ (by omega), ?_⟩
    conv => whnf
    refine sgo ?_
    rw [← hB, nbR, if_pos (by omega)]
end Go.Proofs.YtbcapobkbgckbaaGreatDoor
