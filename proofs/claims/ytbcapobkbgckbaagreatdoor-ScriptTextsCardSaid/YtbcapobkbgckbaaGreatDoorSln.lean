/-
  Contract: an entry's line, the code's. No statement stands here.
-/
import Derived.Test.YtbcapobkbgckbaaGreatDoorWa
import Derived.Test.YtbcapobkbgckbaaGreatDoorSsh
import Derived.Lib.ItoaLen
set_option linter.all false
namespace Go.Proofs.YtbcapobkbgckbaaGreatDoor
open Go Rf TallyP
set_option maxRecDepth 100000
set_option maxHeartbeats 4000000

theorem hG18 : cF gt1 Tryz.prog (wfa 18) 18 = some f18 := by kernel_rfl
theorem hx_len (l : List UInt8) : (l.flatMap hxB).length = 2 * l.length := by
  induction l with
  | nil => rfl
  | cons x l ih => rw [List.flatMap_cons, List.length_append, ih, List.length_cons]; simp [hxB]; omega
theorem take_snoc_flat {α β : Type} {f : α → List β} {l : List α} {j : Nat} {a : α} (h : l[j]? = some a) : (l.take (j + 1)).flatMap f = (l.take j).flatMap f ++ f a := by
  rw [List.take_add_one, h]; simp
theorem numF_len {b : Bool} {n : Int} (h : i64 n) : (numF b n).length ≤ 22 := by
  unfold numF
  split
  · have h2 := Lib.itoa_length_le n h.1 h.2
    show (Lib.itoa n).length + 1 ≤ 22
    omega
  · simp
theorem shr4 (x : UInt8) : wrapF .i64 (Int.fdiv ((x.toNat : Nat) : Int) (2 ^ (min (Int.toNat 4) (IntKind.bits .u8)))) = ((x.toNat / 16 : Nat) : Int) := by
  have hx := x.toNat_lt
  rw [show (2 : Int) ^ (min (Int.toNat 4) (IntKind.bits .u8)) = 16 by decide, Int.fdiv_eq_ediv_of_nonneg _ (by decide)]
  rw [wI]; omega
theorem and15 (x : UInt8) : wrapF .i64 (wrapF .u8 (((BitVec.ofInt (IntKind.bits .u8) ((x.toNat : Nat) : Int) &&& BitVec.ofInt (IntKind.bits .u8) 15).toNat : Nat) : Int)) = ((x.toNat % 16 : Nat) : Int) := by
  have hx := x.toNat_lt
  have e1 : (BitVec.ofInt (IntKind.bits .u8) ((x.toNat : Nat) : Int) &&& BitVec.ofInt (IntKind.bits .u8) 15).toNat = x.toNat % 16 := by
    show (BitVec.ofInt 8 ((x.toNat : Nat) : Int) &&& BitVec.ofInt 8 15).toNat = _
    rw [BitVec.toNat_and, BitVec.toNat_ofInt, BitVec.toNat_ofInt]
    have e2 : (((x.toNat : Nat) : Int) % ((2 ^ 8 : Nat) : Int)).toNat = x.toNat := by omega
    have e3 : ((15 : Int) % ((2 ^ 8 : Nat) : Int)).toNat = 2 ^ 4 - 1 := by decide
    rw [e2, e3, Nat.and_two_pow_sub_one_eq_mod]
  rw [e1, wId8 (by omega) (by omega), wI]; omega
def ELn (e : Ey) (t : List UInt8) (i : Nat) : List V := (.bad :: .q (eyV e) 0 :: .bad :: .bad :: .s t :: .bad :: .bad :: .bad :: .bad :: .bad :: .bad :: .bad :: .bad :: .bad :: .bad :: .bad :: .bad :: .bad :: .bad :: .bad :: .bad :: .bad :: .bad :: .bad :: .bad :: .bad :: .bad :: .bad :: .bad :: .bad :: .bad :: .bad :: .bad :: .bad :: bsV e.b :: .i .i64 (e.b.length : Nat) :: .i .i64 (i : Nat) :: List.replicate 17 .bad)
theorem line_den (e : Ey) (f : Fm) (hf : fmS e.k = some f) (he : EyOk e) (hb : e.b.length ≤ 100000) (s : St) (hx : NoX s) : Den gt1 Tryz.prog 18 [eyV e] s (.s (lnF f e ++ [10])) s := by
  have hl : (e.b.map bV).length = e.b.length := List.length_map ..
  obtain ⟨-, -, -, -, hwl, -⟩ := fm_no _ f hf
  obtain ⟨d, hlk⟩ : ∃ d, lkk e.k fmsL = some (f, d) := by
    rcases lkk_fms e.k with ⟨h, -⟩ | ⟨f', d, h, h'⟩
    · rw [hf] at h; cases h
    · rw [hf] at h; cases h; exact ⟨d, h'⟩
  refine Den.tidy fun ht => Den.hm gnm1 hG18 ?_
  have K := Kn.init ht.1 hx
  conv => whnf
  refine kgo ?_; (repeat (first | intro (X:Nat) | intro (z:St) | intro (av:V) | intro (tk:Option Nat) | (intro (K1:Kn _ _ _); (try clear K); rename Kn _ _ _ => K))); conv => whnf
  refine ⟨_, _, up0 (forms_den _ K.x), ?_⟩
  have K1 := K.newX (.mp (mEs iE fmE fmsL 0) 9)
  clear K; rename Kn _ _ _ => K
  generalize s.new (.x (.mp (mEs iE fmE fmsL 0) 9)) = z at K ⊢
  conv => whnf
  refine kgo ?_; (repeat (first | intro (X:Nat) | intro (z:St) | intro (av:V) | intro (tk:Option Nat) | (intro (K1:Kn _ _ _); (try clear K); rename Kn _ _ _ => K))); conv => whnf
  have hM := K.get (w := true) .here
  rw [aym_look0 (k := e.k) (l := fmsL) enc_i hM]
  rotate_left
  · rfl
  · rfl
  rw [hlk]
  clear hM
  have ha21 := Lib.itoa_length_le e.a he.2.1.1 he.2.1.2
  have hn21 := Lib.itoa_length_le e.n he.2.2.1 he.2.2.2
  obtain ⟨fw, fa, fn, fb, fl⟩ := f
  simp only at hwl
  unfold lnF
  generalize hpre : (⟨fw, fa, fn, fb, fl⟩ : Fm).w ++ numF (⟨fw, fa, fn, fb, fl⟩ : Fm).a e.a ++ numF (⟨fw, fa, fn, fb, fl⟩ : Fm).n e.n ++ (if (⟨fw, fa, fn, fb, fl⟩ : Fm).b = true then [32] else []) = pre
  have hpl : pre.length ≤ 60 := by
    rw [← hpre]
    have h1 := numF_len (b := fa) he.2.1
    have h2 := numF_len (b := fn) he.2.2
    simp only [List.length_append]
    split <;> simp <;> omega
  cases fa <;> cases fn <;> cases fb <;> conv => whnf
  all_goals
    refine kgo ?_; (repeat (first | intro (X:Nat) | intro (z:St) | intro (av:V) | intro (tk:Option Nat) | (intro (K1:Kn _ _ _); (try clear K); rename Kn _ _ _ => K))); conv => whnf
    (try (refine ⟨_, _, itoa_d he.2.1.1 he.2.1.2 _, ?_⟩; conv => whnf
          refine kgo ?_; (repeat (first | intro (X:Nat) | intro (z:St) | intro (av:V) | intro (tk:Option Nat) | (intro (K1:Kn _ _ _); (try clear K); rename Kn _ _ _ => K))); conv => whnf))
    (try (refine ⟨_, _, fmt_d he.2.2.1 he.2.2.2 _, ?_⟩; conv => whnf
          refine kgo ?_; (repeat (first | intro (X:Nat) | intro (z:St) | intro (av:V) | intro (tk:Option Nat) | (intro (K1:Kn _ _ _); (try clear K); rename Kn _ _ _ => K))); conv => whnf))
    rw [hl]
    refine HM.loop gnm1 fun hg => ⟨fun m ev z' => ∃ (i : Nat) (t : List UInt8), i ≤ e.b.length ∧ m = e.b.length - i ∧ ev = ELn e t i ∧ t = pre ++ (e.b.take i).flatMap hxB ∧ Kn s z' _,
      ⟨e.b.length, fg [1, 4, 34, 35, 36] _, _, WkM.fg hg, 0, _, Nat.zero_le _, rfl, rfl, ?_, K⟩, ?_⟩
    · rw [← hpre]; simp [numF]
    clear K
    rintro m ev z1 ⟨i, t, hi, rfl, rfl, ht', K⟩
    conv => whnf
    refine kgo ?_; (repeat (first | intro (X:Nat) | intro (z:St) | intro (av:V) | intro (tk:Option Nat) | (intro (K1:Kn _ _ _); (try clear K); rename Kn _ _ _ => K))); conv => whnf
    refine brL ⟨fun hlt => ?_, fun hge => ?_⟩ <;> conv => whnf
    · have hbi : e.b[i]? = some e.b[i] := List.getElem?_eq_getElem hlt
      have hst : t ++ hxB e.b[i] = pre ++ (e.b.take (i + 1)).flatMap hxB := by rw [take_snoc_flat hbi, ht', List.append_assoc]
      have htl : t.length ≤ 300000 := by
        rw [ht', List.length_append, hx_len, List.length_take]; omega
      generalize e.b[i] = x at hbi hst
      have hx1 := x.toNat_lt
      refine kgo ?_; (repeat (first | intro (X:Nat) | intro (z:St) | intro (av:V) | intro (tk:Option Nat) | (intro (K1:Kn _ _ _); (try clear K); rename Kn _ _ _ => K))); conv => whnf
      have hA : Den gt1 Tryz.prog 46 [.i .i64 (wrapF .i64 (Int.fdiv ((x.toNat : Nat) : Int) (2 ^ (min (Int.toNat 4) (IntKind.bits .u8))))), .i .i64 16] z1 (.s [hxD (x.toNat / 16)]) z1 := by rw [shr4]; exact fmt16 _ (by omega) _
      refine ⟨_, _, hA, ?_⟩
      clear hA
      conv => whnf
      refine kgo ?_; (repeat (first | intro (X:Nat) | intro (z:St) | intro (av:V) | intro (tk:Option Nat) | (intro (K1:Kn _ _ _); (try clear K); rename Kn _ _ _ => K))); conv => whnf
      have hA : Den gt1 Tryz.prog 46 [.i .i64 (wrapF .i64 (wrapF .u8 (((BitVec.ofInt (IntKind.bits .u8) ((x.toNat : Nat) : Int) &&& BitVec.ofInt (IntKind.bits .u8) 15).toNat : Nat) : Int))), .i .i64 16] z1 (.s [hxD (x.toNat % 16)]) z1 := by rw [and15]; exact fmt16 _ (by omega) _
      refine ⟨_, _, hA, ?_⟩
      clear hA
      conv => whnf
      refine kgo ?_; (repeat (first | intro (X:Nat) | intro (z:St) | intro (av:V) | intro (tk:Option Nat) | (intro (K1:Kn _ _ _); (try clear K); rename Kn _ _ _ => K))); conv => whnf
      intro hg'
      exact ⟨e.b.length - (i + 1), fg [1, 4, 34, 35, 36] _, _, by omega, WkM.fg hg', i + 1, t ++ hxB x, hlt, rfl, rfl, hst, K⟩
    · have hend : t = pre ++ e.b.flatMap hxB := by rw [ht', List.take_of_length_le hge]
      have htl : t.length ≤ 300000 := by rw [hend, List.length_append, hx_len]; omega
      refine kgo ?_; (repeat (first | intro (X:Nat) | intro (z:St) | intro (av:V) | intro (tk:Option Nat) | (intro (K1:Kn _ _ _); (try clear K); rename Kn _ _ _ => K))); conv => whnf
      rw [← hend]
      exact K.fin ht hx (.s _) (.refl _)
end Go.Proofs.YtbcapobkbgckbaaGreatDoor
