/-
  Contract: two hexadecimal digits are read by the library. No statement stands here.
-/
import Derived.Test.YtbcapobkbgckbaaGreatDoorSsh
import Derived.Test.YtbcapobkbgckbaaGreatDoorLF
set_option linter.all false
namespace Go.Proofs.YtbcapobkbgckbaaGreatDoor
open Go Rf
set_option maxRecDepth 100000
set_option maxHeartbeats 4000000

theorem hG52 : cF gt1 Tryz.prog (wfa 52) 52 = some f52 := by kernel_rfl
theorem low_den (c : UInt8) : PDen gt0 Tryz.prog 115 [.i .u8 (c.toNat : Nat)] (.i .u8 ((c ||| 32).toNat : Nat)) := by
  generalize hB : V.i .u8 ((c ||| 32).toNat : Nat) = B
  refine PDen.hc gnm0 hF115 (nm1 (.i _ _)) (by rw [← hB]; exact .i _ _) ?_
  conv => whnf
  refine sgo ?_
  rw [← hB]
  have hc := c.toNat_lt
  have h2 := (c ||| 32).toNat_lt
  have e1 : (BitVec.ofInt (IntKind.bits .u8) ((c.toNat : Nat) : Int) ||| BitVec.ofInt (IntKind.bits .u8) 32).toNat = (c ||| 32).toNat := by
    show (BitVec.ofInt 8 ((c.toNat : Nat) : Int) ||| BitVec.ofInt 8 32).toNat = _
    rw [BitVec.toNat_or, BitVec.toNat_ofInt, BitVec.toNat_ofInt, UInt8.toNat_or]
    have e2 : (((c.toNat : Nat) : Int) % ((2 ^ 8 : Nat) : Int)).toNat = c.toNat := by omega
    rw [e2]; rfl
  rw [e1, wId8 (by omega) (by omega)]
def EPu (S : List UInt8) (n : Nat) (i : Nat) : List V := (.s S :: .i .i64 16 :: .bad :: .bad :: .bad :: .bad :: .bad :: .bad :: .b false :: .s S :: .i .u64 1152921504606846976 :: .i .u64 255 :: .b false :: .i .u64 (n : Nat) :: .bad :: .bad :: .bad :: .bad :: .bad :: .bad :: .bad :: .bad :: .bad :: .bad :: .bad :: .bad :: .bad :: .bad :: .bad :: .bad :: .bad :: .bad :: .bad :: .bad :: .bad :: .bad :: .bad :: .bad :: .bad :: .bad :: .bad :: .bad :: .bad :: .bad :: .bad :: .bad :: .bad :: .bad :: .bad :: .bad :: .bad :: .bad :: .bad :: .bad :: .bad :: .bad :: .bad :: .bad :: .bad :: .bad :: .bad :: .bad :: .bad :: .bad :: .bad :: .bad :: .bad :: .bad :: .bad :: .bad :: .bad :: .bad :: .bad :: .bad :: .bad :: .bad :: .bad :: .bad :: .bad :: .bad :: .bad :: .bad :: .bad :: .bad :: .bad :: .bad :: .bad :: .bad :: .bad :: .bad :: .bad :: .bad :: .bad :: .bad :: .bad :: .bad :: .bad :: .bad :: .bad :: .pu 1 (bytesOf S) .u :: .i .i64 2 :: .i .i64 (i : Nat) :: List.replicate 70 .bad)
def puV (a b : UInt8) : V := match hxV a, hxV b with
  | some x, some y => .tu [.i .u64 ((16 * x + y : Nat) : Int), .ni]
  | _, _ => .tu [.i .u64 0, .ifc 187 (.i .i64 2)]
theorem pu2_den (a b : UInt8) (s : St) (hx : NoX s) : Den gt0 Tryz.prog 79 [.s [a, b], .i .i64 16, .i .i64 8] s (puV a b) s := by
  refine Den.tidy fun ht => Den.hm gnm0 hF79 ?_
  have K := Kn.init ht.1 hx
  conv => whnf
  refine kgo ?_; (repeat (first | intro (X:Nat) | intro (z:St) | intro (av:V) | intro (tk:Option Nat) | (intro (K1:Kn _ _ _); (try clear K); rename Kn _ _ _ => K))); conv => whnf
  refine HM.loop gnm0 fun hg => ⟨fun m ev z' => ∃ i n : Nat, m = 2 - i ∧ ev = EPu [a, b] n i ∧ ((i = 0 ∧ n = 0) ∨ (i = 1 ∧ hxV a = some n) ∨ (i = 2 ∧ ∃ x y, hxV a = some x ∧ hxV b = some y ∧ n = 16 * x + y)) ∧ Kn s z' [],
    ⟨2, fg [0, 1, 8, 9, 10, 11, 12, 13, 99, 100, 101] _, _, WkM.fg hg, 0, 0, rfl, rfl, .inl ⟨rfl, rfl⟩, K⟩, ?_⟩
  clear K
  rintro m ev z1 ⟨i, n, rfl, rfl, hn, K⟩
  have hxb : ∀ c d, hxV c = some d → d < 16 := fun c d h => by
    unfold hxV at h
    split at h
    · simp at h; omega
    · split at h
      · split at h
        · rename_i h3; cases h; exact h3
        · cases h
      · cases h
  have key : (i = 2 ∧ puV a b = .tu [.i .u64 (n : Nat), .ni]) ∨ (i < 2 ∧ ∃ c : UInt8, (bytesOf [a, b])[i]? = some (.i .u8 (c.toNat : Nat)) ∧ n ≤ 15 ∧ (hxV c = none → puV a b = .tu [.i .u64 0, .ifc 187 (.i .i64 2)]) ∧
      ∀ d, hxV c = some d → ((i + 1 = 0 ∧ 16 * n + d = 0) ∨ (i + 1 = 1 ∧ hxV a = some (16 * n + d)) ∨ (i + 1 = 2 ∧ ∃ x y, hxV a = some x ∧ hxV b = some y ∧ 16 * n + d = 16 * x + y))) := by
    rcases hn with ⟨rfl, rfl⟩ | ⟨rfl, hxa⟩ | ⟨rfl, x, y, hxa, hxb', rfl⟩
    · refine .inr ⟨by omega, a, rfl, by omega, fun h => by unfold puV; rw [h], fun d h => .inr (.inl ⟨rfl, by rw [h]; simp⟩)⟩
    · have := hxb _ _ hxa
      refine .inr ⟨by omega, b, rfl, by omega, fun h => by unfold puV; rw [hxa, h], fun d h => .inr (.inr ⟨rfl, n, d, hxa, h, rfl⟩)⟩
    · exact .inl ⟨rfl, by unfold puV; rw [hxa, hxb']⟩
  clear hn
  conv => whnf
  refine kgo ?_; (repeat (first | intro (X:Nat) | intro (z:St) | intro (av:V) | intro (tk:Option Nat) | (intro (K1:Kn _ _ _); (try clear K); rename Kn _ _ _ => K))); conv => whnf
  rcases key with ⟨rfl, hv⟩ | ⟨hi, c, hci, hn15, hbad, hnext⟩
  · rw [hv]
    conv => whnf
    refine kgo ?_; (repeat (first | intro (X:Nat) | intro (z:St) | intro (av:V) | intro (tk:Option Nat) | (intro (K1:Kn _ _ _); (try clear K); rename Kn _ _ _ => K))); conv => whnf
    exact K.fin ht hx (.tu _ (nm2 (.i _ _) .ni)) (.refl _)
  rw [show ltZ ((i : Nat) : Int) 2 = true by rw [ltZ_eq]; exact decide_eq_true (by omega)]
  conv => whnf
  refine kgo ?_; (repeat (first | intro (X:Nat) | intro (z:St) | intro (av:V) | intro (tk:Option Nat) | (intro (K1:Kn _ _ _); (try clear K); rename Kn _ _ _ => K))); conv => whnf
  have hc256 := c.toNat_lt
  have hl256 := (c ||| 32).toNat_lt
  have hwd : leZ 48 (c.toNat : Nat) = true → leZ (c.toNat : Nat) 57 = true → wrapF .u8 ((c.toNat : Nat) - 48) = ((c.toNat - 48 : Nat) : Int) := fun h h' => by
    rw [leZ_eq] at h h'; simp at h h'; rw [wId8 (by omega) (by omega)]; omega
  have hdg : leZ 48 (c.toNat : Nat) = true → leZ (c.toNat : Nat) 57 = true → leZ 16 ((c.toNat - 48 : Nat) : Int) = false → hxV c = some (c.toNat - 48) := fun h h' _ => by
    rw [leZ_eq] at h h'; simp at h h'; rw [hxV, if_pos ⟨by omega, by omega⟩]
  have hdgn : leZ 48 (c.toNat : Nat) = true → leZ (c.toNat : Nat) 57 = true → leZ 16 ((c.toNat - 48 : Nat) : Int) = true → hxV c = none := fun h h' h'' => by
    rw [leZ_eq] at h h' h''; simp at h h' h''; omega
  have hnd : leZ 48 (c.toNat : Nat) = false ∨ leZ (c.toNat : Nat) 57 = false → hxV c = if 97 ≤ (c ||| 32).toNat ∧ (c ||| 32).toNat ≤ 122 then (if (c ||| 32).toNat - 87 < 16 then some ((c ||| 32).toNat - 87) else none) else none := fun h => by
    rw [leZ_eq, leZ_eq] at h; simp only [decide_eq_false_iff_not] at h
    rw [hxV, if_neg (by omega)]
  have hw : leZ 97 ((c ||| 32).toNat : Nat) = true → leZ ((c ||| 32).toNat : Nat) 122 = true → wrapF .u8 (wrapF .u8 (((c ||| 32).toNat : Nat) - 97) + 10) = (((c ||| 32).toNat - 87 : Nat) : Int) := fun h h' => by
    rw [leZ_eq] at h h'; simp only [decide_eq_true_eq] at h h'
    rw [wId8 (n := (((c ||| 32).toNat : Nat) : Int) - 97) (by omega) (by omega), wId8 (by omega) (by omega)]; omega
  have tail : leZ 48 (c.toNat : Nat) = false ∨ leZ (c.toNat : Nat) 57 = false →
      (leZ 97 ((c ||| 32).toNat : Nat) = false ∨ leZ ((c ||| 32).toNat : Nat) 122 = false → hxV c = none) ∧
      (leZ 97 ((c ||| 32).toNat : Nat) = true → leZ ((c ||| 32).toNat : Nat) 122 = true → leZ 16 (((c ||| 32).toNat - 87 : Nat) : Int) = false → hxV c = some ((c ||| 32).toNat - 87)) ∧
      (leZ 97 ((c ||| 32).toNat : Nat) = true → leZ ((c ||| 32).toNat : Nat) 122 = true → leZ 16 (((c ||| 32).toNat - 87 : Nat) : Int) = true → hxV c = none) := fun h => by
    have e := hnd h
    simp only [leZ_eq, decide_eq_false_iff_not, decide_eq_true_eq]
    refine ⟨fun g => ?_, fun g1 g2 g3 => ?_, fun g1 g2 g3 => ?_⟩ <;> rw [e]
    · rw [if_neg (by omega)]
    · rw [if_pos ⟨by omega, by omega⟩, if_pos (by omega)]
    · rw [if_pos ⟨by omega, by omega⟩, if_neg (by omega)]
  clear hnd
  cases h95 : eqZ (c.toNat : Nat) 95 <;> conv => whnf
  all_goals
    refine kgo ?_; (repeat (first | intro (X:Nat) | intro (z:St) | intro (av:V) | intro (tk:Option Nat) | (intro (K1:Kn _ _ _); (try clear K); rename Kn _ _ _ => K))); conv => whnf
    cases h1 : leZ 48 (c.toNat : Nat) <;> conv => whnf
    · obtain ⟨hno, hlt, hltn⟩ := tail (.inl h1)
      refine kgo ?_; (repeat (first | intro (X:Nat) | intro (z:St) | intro (av:V) | intro (tk:Option Nat) | (intro (K1:Kn _ _ _); (try clear K); rename Kn _ _ _ => K))); conv => whnf
      refine ⟨_, _, low_den c _, ?_⟩
      conv => whnf
      refine kgo ?_; (repeat (first | intro (X:Nat) | intro (z:St) | intro (av:V) | intro (tk:Option Nat) | (intro (K1:Kn _ _ _); (try clear K); rename Kn _ _ _ => K))); conv => whnf
      cases g1 : leZ 97 ((c ||| 32).toNat : Nat) <;> conv => whnf
      · refine kgo ?_; (repeat (first | intro (X:Nat) | intro (z:St) | intro (av:V) | intro (tk:Option Nat) | (intro (K1:Kn _ _ _); (try clear K); rename Kn _ _ _ => K))); conv => whnf
        rw [hbad (hno (.inl g1))]
        exact K.fin ht hx (.tu _ (nm2 (.i _ _) (.ifc _ _ (.i _ _)))) (.refl _)
      refine kgo ?_; (repeat (first | intro (X:Nat) | intro (z:St) | intro (av:V) | intro (tk:Option Nat) | (intro (K1:Kn _ _ _); (try clear K); rename Kn _ _ _ => K))); conv => whnf
      refine ⟨_, _, low_den c _, ?_⟩
      conv => whnf
      refine kgo ?_; (repeat (first | intro (X:Nat) | intro (z:St) | intro (av:V) | intro (tk:Option Nat) | (intro (K1:Kn _ _ _); (try clear K); rename Kn _ _ _ => K))); conv => whnf
      cases g2 : leZ ((c ||| 32).toNat : Nat) 122 <;> conv => whnf
      · refine kgo ?_; (repeat (first | intro (X:Nat) | intro (z:St) | intro (av:V) | intro (tk:Option Nat) | (intro (K1:Kn _ _ _); (try clear K); rename Kn _ _ _ => K))); conv => whnf
        rw [hbad (hno (.inr g2))]
        exact K.fin ht hx (.tu _ (nm2 (.i _ _) (.ifc _ _ (.i _ _)))) (.refl _)
      refine kgo ?_; (repeat (first | intro (X:Nat) | intro (z:St) | intro (av:V) | intro (tk:Option Nat) | (intro (K1:Kn _ _ _); (try clear K); rename Kn _ _ _ => K))); conv => whnf
      refine ⟨_, _, low_den c _, ?_⟩
      conv => whnf
      refine kgo ?_; (repeat (first | intro (X:Nat) | intro (z:St) | intro (av:V) | intro (tk:Option Nat) | (intro (K1:Kn _ _ _); (try clear K); rename Kn _ _ _ => K))); conv => whnf
      rw [show wrapF .u8 (wrapF .u8 (((c ||| 32).toNat : Nat) - 97) + 10) = (((c ||| 32).toNat - 87 : Nat) : Int) from hw g1 g2, show wrapF .u8 16 = 16 from rfl]
      cases h16 : leZ 16 (((c ||| 32).toNat - 87 : Nat) : Int) <;> conv => whnf
      rotate_left
      · refine kgo ?_; (repeat (first | intro (X:Nat) | intro (z:St) | intro (av:V) | intro (tk:Option Nat) | (intro (K1:Kn _ _ _); (try clear K); rename Kn _ _ _ => K))); conv => whnf
        rw [hbad (hltn g1 g2 h16)]
        exact K.fin ht hx (.tu _ (nm2 (.i _ _) (.ifc _ _ (.i _ _)))) (.refl _)
      have hd := hlt g1 g2  h16
      have hd16 := hxb _ _ hd
      refine kgo ?_; (repeat (first | intro (X:Nat) | intro (z:St) | intro (av:V) | intro (tk:Option Nat) | (intro (K1:Kn _ _ _); (try clear K); rename Kn _ _ _ => K))); conv => whnf
      rw [show leZ 1152921504606846976 ((n : Nat) : Int) = false by rw [leZ_eq]; exact decide_eq_false (by omega)]
      conv => whnf
      refine kgo ?_; (repeat (first | intro (X:Nat) | intro (z:St) | intro (av:V) | intro (tk:Option Nat) | (intro (K1:Kn _ _ _); (try clear K); rename Kn _ _ _ => K))); conv => whnf
      have e3 : wrapF .u64 (((n : Nat) : Int) * wrapF .u64 16) = ((16 * n : Nat) : Int) := by rw [show wrapF .u64 16 = 16 from rfl, wIdU (by omega) (by omega)]; omega
      have e4 : wrapF .u64 (((16 * n : Nat) : Int) + wrapF .u64 (((c ||| 32).toNat - 87 : Nat) : Int)) = ((16 * n + ((c ||| 32).toNat - 87) : Nat) : Int) := by rw [wIdU (n := (((c ||| 32).toNat - 87 : Nat) : Int)) (by omega) (by omega), wIdU (by omega) (by omega)]; omega
      rw [e3, e4, show ltZ ((16 * n + ((c ||| 32).toNat - 87) : Nat) : Int) ((16 * n : Nat) : Int) = false by rw [ltZ_eq]; exact decide_eq_false (by omega)]
      conv => whnf
      refine kgo ?_; (repeat (first | intro (X:Nat) | intro (z:St) | intro (av:V) | intro (tk:Option Nat) | (intro (K1:Kn _ _ _); (try clear K); rename Kn _ _ _ => K))); conv => whnf
      rw [show ltZ 255 ((16 * n + ((c ||| 32).toNat - 87) : Nat) : Int) = false by rw [ltZ_eq]; exact decide_eq_false (by omega)]
      conv => whnf
      refine kgo ?_; (repeat (first | intro (X:Nat) | intro (z:St) | intro (av:V) | intro (tk:Option Nat) | (intro (K1:Kn _ _ _); (try clear K); rename Kn _ _ _ => K))); conv => whnf
      intro hg'
      exact ⟨2 - (i + 1), fg [0, 1, 8, 9, 10, 11, 12, 13, 99, 100, 101] _, _, by omega, WkM.fg hg', i + 1, 16 * n + ((c ||| 32).toNat - 87), rfl, rfl, hnext _ hd, K⟩
    refine kgo ?_; (repeat (first | intro (X:Nat) | intro (z:St) | intro (av:V) | intro (tk:Option Nat) | (intro (K1:Kn _ _ _); (try clear K); rename Kn _ _ _ => K))); conv => whnf
    cases h2 : leZ (c.toNat : Nat) 57 <;> conv => whnf
    · obtain ⟨hno, hlt, hltn⟩ := tail (.inr h2)
      refine kgo ?_; (repeat (first | intro (X:Nat) | intro (z:St) | intro (av:V) | intro (tk:Option Nat) | (intro (K1:Kn _ _ _); (try clear K); rename Kn _ _ _ => K))); conv => whnf
      refine ⟨_, _, low_den c _, ?_⟩
      conv => whnf
      refine kgo ?_; (repeat (first | intro (X:Nat) | intro (z:St) | intro (av:V) | intro (tk:Option Nat) | (intro (K1:Kn _ _ _); (try clear K); rename Kn _ _ _ => K))); conv => whnf
      cases g1 : leZ 97 ((c ||| 32).toNat : Nat) <;> conv => whnf
      · refine kgo ?_; (repeat (first | intro (X:Nat) | intro (z:St) | intro (av:V) | intro (tk:Option Nat) | (intro (K1:Kn _ _ _); (try clear K); rename Kn _ _ _ => K))); conv => whnf
        rw [hbad (hno (.inl g1))]
        exact K.fin ht hx (.tu _ (nm2 (.i _ _) (.ifc _ _ (.i _ _)))) (.refl _)
      refine kgo ?_; (repeat (first | intro (X:Nat) | intro (z:St) | intro (av:V) | intro (tk:Option Nat) | (intro (K1:Kn _ _ _); (try clear K); rename Kn _ _ _ => K))); conv => whnf
      refine ⟨_, _, low_den c _, ?_⟩
      conv => whnf
      refine kgo ?_; (repeat (first | intro (X:Nat) | intro (z:St) | intro (av:V) | intro (tk:Option Nat) | (intro (K1:Kn _ _ _); (try clear K); rename Kn _ _ _ => K))); conv => whnf
      cases g2 : leZ ((c ||| 32).toNat : Nat) 122 <;> conv => whnf
      · refine kgo ?_; (repeat (first | intro (X:Nat) | intro (z:St) | intro (av:V) | intro (tk:Option Nat) | (intro (K1:Kn _ _ _); (try clear K); rename Kn _ _ _ => K))); conv => whnf
        rw [hbad (hno (.inr g2))]
        exact K.fin ht hx (.tu _ (nm2 (.i _ _) (.ifc _ _ (.i _ _)))) (.refl _)
      refine kgo ?_; (repeat (first | intro (X:Nat) | intro (z:St) | intro (av:V) | intro (tk:Option Nat) | (intro (K1:Kn _ _ _); (try clear K); rename Kn _ _ _ => K))); conv => whnf
      refine ⟨_, _, low_den c _, ?_⟩
      conv => whnf
      refine kgo ?_; (repeat (first | intro (X:Nat) | intro (z:St) | intro (av:V) | intro (tk:Option Nat) | (intro (K1:Kn _ _ _); (try clear K); rename Kn _ _ _ => K))); conv => whnf
      rw [show wrapF .u8 (wrapF .u8 (((c ||| 32).toNat : Nat) - 97) + 10) = (((c ||| 32).toNat - 87 : Nat) : Int) from hw g1 g2, show wrapF .u8 16 = 16 from rfl]
      cases h16 : leZ 16 (((c ||| 32).toNat - 87 : Nat) : Int) <;> conv => whnf
      rotate_left
      · refine kgo ?_; (repeat (first | intro (X:Nat) | intro (z:St) | intro (av:V) | intro (tk:Option Nat) | (intro (K1:Kn _ _ _); (try clear K); rename Kn _ _ _ => K))); conv => whnf
        rw [hbad (hltn g1 g2 h16)]
        exact K.fin ht hx (.tu _ (nm2 (.i _ _) (.ifc _ _ (.i _ _)))) (.refl _)
      have hd := hlt g1 g2  h16
      have hd16 := hxb _ _ hd
      refine kgo ?_; (repeat (first | intro (X:Nat) | intro (z:St) | intro (av:V) | intro (tk:Option Nat) | (intro (K1:Kn _ _ _); (try clear K); rename Kn _ _ _ => K))); conv => whnf
      rw [show leZ 1152921504606846976 ((n : Nat) : Int) = false by rw [leZ_eq]; exact decide_eq_false (by omega)]
      conv => whnf
      refine kgo ?_; (repeat (first | intro (X:Nat) | intro (z:St) | intro (av:V) | intro (tk:Option Nat) | (intro (K1:Kn _ _ _); (try clear K); rename Kn _ _ _ => K))); conv => whnf
      have e3 : wrapF .u64 (((n : Nat) : Int) * wrapF .u64 16) = ((16 * n : Nat) : Int) := by rw [show wrapF .u64 16 = 16 from rfl, wIdU (by omega) (by omega)]; omega
      have e4 : wrapF .u64 (((16 * n : Nat) : Int) + wrapF .u64 (((c ||| 32).toNat - 87 : Nat) : Int)) = ((16 * n + ((c ||| 32).toNat - 87) : Nat) : Int) := by rw [wIdU (n := (((c ||| 32).toNat - 87 : Nat) : Int)) (by omega) (by omega), wIdU (by omega) (by omega)]; omega
      rw [e3, e4, show ltZ ((16 * n + ((c ||| 32).toNat - 87) : Nat) : Int) ((16 * n : Nat) : Int) = false by rw [ltZ_eq]; exact decide_eq_false (by omega)]
      conv => whnf
      refine kgo ?_; (repeat (first | intro (X:Nat) | intro (z:St) | intro (av:V) | intro (tk:Option Nat) | (intro (K1:Kn _ _ _); (try clear K); rename Kn _ _ _ => K))); conv => whnf
      rw [show ltZ 255 ((16 * n + ((c ||| 32).toNat - 87) : Nat) : Int) = false by rw [ltZ_eq]; exact decide_eq_false (by omega)]
      conv => whnf
      refine kgo ?_; (repeat (first | intro (X:Nat) | intro (z:St) | intro (av:V) | intro (tk:Option Nat) | (intro (K1:Kn _ _ _); (try clear K); rename Kn _ _ _ => K))); conv => whnf
      intro hg'
      exact ⟨2 - (i + 1), fg [0, 1, 8, 9, 10, 11, 12, 13, 99, 100, 101] _, _, by omega, WkM.fg hg', i + 1, 16 * n + ((c ||| 32).toNat - 87), rfl, rfl, hnext _ hd, K⟩
    refine kgo ?_; (repeat (first | intro (X:Nat) | intro (z:St) | intro (av:V) | intro (tk:Option Nat) | (intro (K1:Kn _ _ _); (try clear K); rename Kn _ _ _ => K))); conv => whnf
    rw [show wrapF .u8 ((c.toNat : Nat) - 48) = ((c.toNat - 48 : Nat) : Int) from hwd h1 h2, show wrapF .u8 16 = 16 from rfl]
    cases h16 : leZ 16 ((c.toNat - 48 : Nat) : Int) <;> conv => whnf
    rotate_left
    · refine kgo ?_; (repeat (first | intro (X:Nat) | intro (z:St) | intro (av:V) | intro (tk:Option Nat) | (intro (K1:Kn _ _ _); (try clear K); rename Kn _ _ _ => K))); conv => whnf
      rw [hbad (hdgn h1 h2 h16)]
      exact K.fin ht hx (.tu _ (nm2 (.i _ _) (.ifc _ _ (.i _ _)))) (.refl _)
    have hd := hdg h1 h2  h16
    have hd16 := hxb _ _ hd
    refine kgo ?_; (repeat (first | intro (X:Nat) | intro (z:St) | intro (av:V) | intro (tk:Option Nat) | (intro (K1:Kn _ _ _); (try clear K); rename Kn _ _ _ => K))); conv => whnf
    rw [show leZ 1152921504606846976 ((n : Nat) : Int) = false by rw [leZ_eq]; exact decide_eq_false (by omega)]
    conv => whnf
    refine kgo ?_; (repeat (first | intro (X:Nat) | intro (z:St) | intro (av:V) | intro (tk:Option Nat) | (intro (K1:Kn _ _ _); (try clear K); rename Kn _ _ _ => K))); conv => whnf
    have e3 : wrapF .u64 (((n : Nat) : Int) * wrapF .u64 16) = ((16 * n : Nat) : Int) := by rw [show wrapF .u64 16 = 16 from rfl, wIdU (by omega) (by omega)]; omega
    have e4 : wrapF .u64 (((16 * n : Nat) : Int) + wrapF .u64 ((c.toNat - 48 : Nat) : Int)) = ((16 * n + (c.toNat - 48) : Nat) : Int) := by rw [wIdU (n := ((c.toNat - 48 : Nat) : Int)) (by omega) (by omega), wIdU (by omega) (by omega)]; omega
    rw [e3, e4, show ltZ ((16 * n + (c.toNat - 48) : Nat) : Int) ((16 * n : Nat) : Int) = false by rw [ltZ_eq]; exact decide_eq_false (by omega)]
    conv => whnf
    refine kgo ?_; (repeat (first | intro (X:Nat) | intro (z:St) | intro (av:V) | intro (tk:Option Nat) | (intro (K1:Kn _ _ _); (try clear K); rename Kn _ _ _ => K))); conv => whnf
    rw [show ltZ 255 ((16 * n + (c.toNat - 48) : Nat) : Int) = false by rw [ltZ_eq]; exact decide_eq_false (by omega)]
    conv => whnf
    refine kgo ?_; (repeat (first | intro (X:Nat) | intro (z:St) | intro (av:V) | intro (tk:Option Nat) | (intro (K1:Kn _ _ _); (try clear K); rename Kn _ _ _ => K))); conv => whnf
    intro hg'
    exact ⟨2 - (i + 1), fg [0, 1, 8, 9, 10, 11, 12, 13, 99, 100, 101] _, _, by omega, WkM.fg hg', i + 1, 16 * n + (c.toNat - 48), rfl, rfl, hnext _ hd, K⟩
theorem pub_den (a b : UInt8) (s : St) (hx : NoX s) : Den gt1 Tryz.prog 52 [.s [a, b], .i .i64 16, .i .i64 8] s (.tu [.i .u64 (hx2 a b : Nat), .bad]) s := by
  refine Den.tidy fun ht => Den.hm gnm1 hG52 ?_
  have K := Kn.init ht.1 hx
  conv => whnf
  refine kgo ?_; (repeat (first | intro (X:Nat) | intro (z:St) | intro (av:V) | intro (tk:Option Nat) | (intro (K1:Kn _ _ _); (try clear K); rename Kn _ _ _ => K))); conv => whnf
  refine ⟨_, _, up0 (pu2_den a b _ K.x), ?_⟩
  have hv : (∃ n : Nat, puV a b = .tu [.i .u64 (n : Nat), .ni] ∧ hx2 a b = n) ∨ (puV a b = .tu [.i .u64 0, .ifc 187 (.i .i64 2)] ∧ hx2 a b = 0) := by
    unfold puV hx2
    cases hxV a <;> cases hxV b
    · exact .inr ⟨rfl, rfl⟩
    · exact .inr ⟨rfl, rfl⟩
    · exact .inr ⟨rfl, rfl⟩
    · exact .inl ⟨_, rfl, rfl⟩
  rcases hv with ⟨n, h1, h2⟩ | ⟨h1, h2⟩
  · rw [h1, h2]
    conv => whnf
    refine kgo ?_; (repeat (first | intro (X:Nat) | intro (z:St) | intro (av:V) | intro (tk:Option Nat) | (intro (K1:Kn _ _ _); (try clear K); rename Kn _ _ _ => K))); conv => whnf
    exact K.fin ht hx (.tu _ (nm2 (.i _ _) .bad)) (.tu _ _ (.cons (.refl _) (.cons (.bad _) .nil)))
  · rw [h1, h2]
    conv => whnf
    refine kgo ?_; (repeat (first | intro (X:Nat) | intro (z:St) | intro (av:V) | intro (tk:Option Nat) | (intro (K1:Kn _ _ _); (try clear K); rename Kn _ _ _ => K))); conv => whnf
    refine ⟨_, _, toErr_d (l := [a, b]) (by simp) _, ?_⟩
    conv => whnf
    refine kgo ?_; (repeat (first | intro (X:Nat) | intro (z:St) | intro (av:V) | intro (tk:Option Nat) | (intro (K1:Kn _ _ _); (try clear K); rename Kn _ _ _ => K))); conv => whnf
    exact K.fin ht hx (.tu _ (nm2 (.i _ _) .bad)) (.refl _)
end Go.Proofs.YtbcapobkbgckbaaGreatDoor
