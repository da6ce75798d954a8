/-
  The table, walked: the document's head. No statement stands here.
-/
import Derived.Test.YthoojnjcdllgdaaGreatDoorTzk
set_option linter.all false
namespace Go.Proofs.YthoojnjcdllgdaaGreatDoor
open Go Rf TallyP
set_option maxRecDepth 100000
set_option maxHeartbeats 4000000

theorem krun_bsl6n {e : List V} {s : St} {t : Nat} {z : V} {n0 n1 n2 n3 n4 n5 : Int} {x0 x1 x2 x3 x4 x5 : Arg} (h0 : x0.ev e = .i .i64 n0) (h1 : x1.ev e = .i .i64 n1) (h2 : x2.ev e = .i .i64 n2) (h3 : x3.ev e = .i .i64 n3) (h4 : x4.ev e = .i .i64 n4) (h5 : x5.ev e = .i .i64 n5) : KRun gt1 Tryz.prog e s (.a (.bsl t true false 6 1 [z] [(0, 1, x0), (1, 1, x1), (2, 1, x2), (3, 1, x3), (4, 1, x4), (5, 1, x5)])) (.pu 1 [.i .i64 n0, .i .i64 n1, .i .i64 n2, .i .i64 n3, .i .i64 n4, .i .i64 n5] (.x 6)) s := by
  show aop e s (.bsl t true false 6 1 [z] [(0, 1, x0), (1, 1, x1), (2, 1, x2), (3, 1, x3), (4, 1, x4), (5, 1, x5)]) = _
  simp [aop, fillp, h0, h1, h2, h3, h4, h5, setAt, chunks, V.isVal, V.cells, mkEl]
theorem kbsl6 {e : List V} {s : St} {d : Option Nat} {r : List I} {next : List V → St → Prop} {t : Nat} {z : V} {n0 n1 n2 n3 n4 n5 : Int} {x0 x1 x2 x3 x4 x5 : Arg} (h : fSetD e d (.pu 1 [.i .i64 n0, .i .i64 n1, .i .i64 n2, .i .i64 n3, .i .i64 n4, .i .i64 n5] (.x 6)) fun e => HO gt1 Tryz.prog r e s next) (h0 : x0.ev e = .i .i64 n0 := by (conv => lhs; whnf); try exact rfl) (h1 : x1.ev e = .i .i64 n1 := by (conv => lhs; whnf); try exact rfl) (h2 : x2.ev e = .i .i64 n2 := by (conv => lhs; whnf); try exact rfl) (h3 : x3.ev e = .i .i64 n3 := by (conv => lhs; whnf); try exact rfl) (h4 : x4.ev e = .i .i64 n4 := by (conv => lhs; whnf); try exact rfl) (h5 : x5.ev e = .i .i64 n5 := by (conv => lhs; whnf); try exact rfl) :
    HO gt1 Tryz.prog ({ d := d, g := none, k := .a (.bsl t true false 6 1 [z] [(0, 1, x0), (1, 1, x1), (2, 1, x2), (3, 1, x3), (4, 1, x4), (5, 1, x5)]) } :: r) e s next := HO.opA (krun_bsl6n h0 h1 h2 h3 h4 h5) h
theorem krun_bsl6sn {e : List V} {s : St} {t : Nat} {z : V} {n0 n1 n2 n3 n4 n5 : List UInt8} {x0 x1 x2 x3 x4 x5 : Arg} (h0 : x0.ev e = .s n0) (h1 : x1.ev e = .s n1) (h2 : x2.ev e = .s n2) (h3 : x3.ev e = .s n3) (h4 : x4.ev e = .s n4) (h5 : x5.ev e = .s n5) : KRun gt1 Tryz.prog e s (.a (.bsl t true false 6 1 [z] [(0, 1, x0), (1, 1, x1), (2, 1, x2), (3, 1, x3), (4, 1, x4), (5, 1, x5)])) (.pu 1 [.s n0, .s n1, .s n2, .s n3, .s n4, .s n5] (.x 6)) s := by
  show aop e s (.bsl t true false 6 1 [z] [(0, 1, x0), (1, 1, x1), (2, 1, x2), (3, 1, x3), (4, 1, x4), (5, 1, x5)]) = _
  simp [aop, fillp, h0, h1, h2, h3, h4, h5, setAt, chunks, V.isVal, V.cells, mkEl]
theorem kbsl6s {e : List V} {s : St} {d : Option Nat} {r : List I} {next : List V → St → Prop} {t : Nat} {z : V} {n0 n1 n2 n3 n4 n5 : List UInt8} {x0 x1 x2 x3 x4 x5 : Arg} (h : fSetD e d (.pu 1 [.s n0, .s n1, .s n2, .s n3, .s n4, .s n5] (.x 6)) fun e => HO gt1 Tryz.prog r e s next) (h0 : x0.ev e = .s n0 := by (conv => lhs; whnf); try exact rfl) (h1 : x1.ev e = .s n1 := by (conv => lhs; whnf); try exact rfl) (h2 : x2.ev e = .s n2 := by (conv => lhs; whnf); try exact rfl) (h3 : x3.ev e = .s n3 := by (conv => lhs; whnf); try exact rfl) (h4 : x4.ev e = .s n4 := by (conv => lhs; whnf); try exact rfl) (h5 : x5.ev e = .s n5 := by (conv => lhs; whnf); try exact rfl) :
    HO gt1 Tryz.prog ({ d := d, g := none, k := .a (.bsl t true false 6 1 [z] [(0, 1, x0), (1, 1, x1), (2, 1, x2), (3, 1, x3), (4, 1, x4), (5, 1, x5)]) } :: r) e s next := HO.opA (krun_bsl6sn h0 h1 h2 h3 h4 h5) h
def S7 (t1 t2 t3 t4 t5 t6 : Int) : Nat → List UInt8
  | 0 => []
  | 1 => wordsV [101, 118, 101, 110, 116, 115] [t1]
  | 2 => (wordsV [101, 118, 101, 110, 116, 115] [t1] ++ [32] ++ wordsV [114, 101, 99, 111, 114, 100, 115] [t2])
  | 3 => ((wordsV [101, 118, 101, 110, 116, 115] [t1] ++ [32] ++ wordsV [114, 101, 99, 111, 114, 100, 115] [t2]) ++ [32] ++ wordsV [104, 105, 116, 115] [t3])
  | 4 => (((wordsV [101, 118, 101, 110, 116, 115] [t1] ++ [32] ++ wordsV [114, 101, 99, 111, 114, 100, 115] [t2]) ++ [32] ++ wordsV [104, 105, 116, 115] [t3]) ++ [32] ++ wordsV [114, 101, 113, 117, 101, 115, 116, 115] [t4])
  | 5 => ((((wordsV [101, 118, 101, 110, 116, 115] [t1] ++ [32] ++ wordsV [114, 101, 99, 111, 114, 100, 115] [t2]) ++ [32] ++ wordsV [104, 105, 116, 115] [t3]) ++ [32] ++ wordsV [114, 101, 113, 117, 101, 115, 116, 115] [t4]) ++ [32] ++ wordsV [114, 101, 102, 117, 115, 101, 100] [t5])
  | 6 => (((((wordsV [101, 118, 101, 110, 116, 115] [t1] ++ [32] ++ wordsV [114, 101, 99, 111, 114, 100, 115] [t2]) ++ [32] ++ wordsV [104, 105, 116, 115] [t3]) ++ [32] ++ wordsV [114, 101, 113, 117, 101, 115, 116, 115] [t4]) ++ [32] ++ wordsV [114, 101, 102, 117, 115, 101, 100] [t5]) ++ [32] ++ wordsV [99, 108, 111, 99, 107, 115] [t6])
  | _ => []
theorem words_sp (S : List UInt8) (l : List Int) : wordsV (32 :: S) l = 32 :: wordsV S l := by
  have : ∀ (l : List Int) (a b : List UInt8), l.foldl (fun s n => s ++ (32 :: Lib.itoa n)) (a ++ b) = a ++ l.foldl (fun s n => s ++ (32 :: Lib.itoa n)) b := by
    intro l
    induction l with
    | nil => intro a b; rfl
    | cons x r ih => intro a b; rw [List.foldl_cons, List.foldl_cons, List.append_assoc]; exact ih a _
  exact this l [32] S
theorem head_same (t1 t2 t3 t4 t5 t6 : Int) : S7 t1 t2 t3 t4 t5 t6 6 = headV t1 t2 t3 t4 t5 t6 := by
  unfold headV
  rw [show ([32, 114, 101, 99, 111, 114, 100, 115] : List UInt8) = 32 :: [114, 101, 99, 111, 114, 100, 115] from rfl, words_sp]
  rw [show ([32, 104, 105, 116, 115] : List UInt8) = 32 :: [104, 105, 116, 115] from rfl, words_sp]
  rw [show ([32, 114, 101, 113, 117, 101, 115, 116, 115] : List UInt8) = 32 :: [114, 101, 113, 117, 101, 115, 116, 115] from rfl, words_sp]
  rw [show ([32, 114, 101, 102, 117, 115, 101, 100] : List UInt8) = 32 :: [114, 101, 102, 117, 115, 101, 100] from rfl, words_sp]
  rw [show ([32, 99, 108, 111, 99, 107, 115] : List UInt8) = 32 :: [99, 108, 111, 99, 107, 115] from rfl, words_sp]
  simp only [S7, List.append_assoc, List.singleton_append, List.cons_append, List.nil_append]
def EH7 (mv sp : V) (t1 t2 t3 t4 t5 t6 : Int) (S : List UInt8) : List V := (mv :: .bad :: .bad :: .bad :: .bad :: .bad :: sp :: .bad :: .bad :: .pu 1 [.s [101, 118, 101, 110, 116, 115], .s [114, 101, 99, 111, 114, 100, 115], .s [104, 105, 116, 115], .s [114, 101, 113, 117, 101, 115, 116, 115], .s [114, 101, 102, 117, 115, 101, 100], .s [99, 108, 111, 99, 107, 115]] (.x 6) :: .pu 1 [.i .i64 t1, .i .i64 t2, .i .i64 t3, .i .i64 t4, .i .i64 t5, .i .i64 t6] (.x 6) :: .s S :: List.replicate 215 .bad)
def EI7 (mv sp : V) (t1 t2 t3 t4 t5 t6 : Int) (S : List UInt8) (i : Nat) : List V := (mv :: .bad :: .bad :: .bad :: .bad :: .bad :: sp :: .bad :: .bad :: .pu 1 [.s [101, 118, 101, 110, 116, 115], .s [114, 101, 99, 111, 114, 100, 115], .s [104, 105, 116, 115], .s [114, 101, 113, 117, 101, 115, 116, 115], .s [114, 101, 102, 117, 115, 101, 100], .s [99, 108, 111, 99, 107, 115]] (.x 6) :: .pu 1 [.i .i64 t1, .i .i64 t2, .i .i64 t3, .i .i64 t4, .i .i64 t5, .i .i64 t6] (.x 6) :: .s S :: .i .i64 (i : Nat) :: List.replicate 214 .bad)
theorem rhd {s z : St} {Q : XM → List V → St → Prop} (mv sp : V) (t1 t2 t3 t4 t5 t6 : Int) (hti : tiOk t1 t2 t3 t4 t5 t6) (K : Kn s z [])
    (hQ : ∀ e z', fg [0, 6, 11] e = (mv :: .bad :: .bad :: .bad :: .bad :: .bad :: sp :: .bad :: .bad :: .bad :: .bad :: .s (headV t1 t2 t3 t4 t5 t6) :: List.replicate 215 .bad) → Kn s z' [] → Q .nrm e z') :
    HM gt1 Tryz.prog s (sA (nB 7 f7.body)) (EH7 mv sp t1 t2 t3 t4 t5 t6 []) z Q := by
  rw [← head_same] at hQ
  refine kgo ?_; (repeat (first | intro (X:Nat) | intro (z:St) | intro (av:V) | intro (tk:Option Nat) | (intro (K1:Kn _ _ _); (try clear K); rename Kn _ _ _ => K))); conv => whnf
  refine HM.loop gnm1 fun hg => ⟨fun n e z' => ∃ (i : Nat) (S : List UInt8), i ≤ 6 ∧ n = 6 - i ∧ S = S7 t1 t2 t3 t4 t5 t6 i ∧ S.length ≤ 3000 * i ∧ e = EI7 mv sp t1 t2 t3 t4 t5 t6 S i ∧ Kn s z' [],
    ⟨6, fg [0, 6, 9, 10, 11, 12] _, _, WkM.fg hg, 0, [], by decide, rfl, rfl, by decide, rfl, K⟩, ?_⟩
  clear K
  rintro n e z1 ⟨i, S, hi, rfl, hS, hSl, rfl, K⟩
  have h7 : i = 0 ∨ i = 1 ∨ i = 2 ∨ i = 3 ∨ i = 4 ∨ i = 5 ∨ i = 6 := by omega
  rcases h7 with rfl | rfl | rfl | rfl | rfl | rfl | rfl
  · obtain ⟨W, w⟩ : ∃ W, wordsV [101, 118, 101, 110, 116, 115] [t1] = W := ⟨_, rfl⟩
    have q := words1_len [101, 118, 101, 110, 116, 115] hti.1 (by decide)
    have c := fun cap => words19_den cap [101, 118, 101, 110, 116, 115] [t1] (by decide) (by simp) (num_cons hti.1 num_nil)
    rw [w] at q c
    conv => whnf
    refine kgo ?_; (repeat (first | intro (X:Nat) | intro (z:St) | intro (av:V) | intro (tk:Option Nat) | (intro (K1:Kn _ _ _); (try clear K); rename Kn _ _ _ => K))); conv => whnf
    refine ⟨rfl, by decide, _, rfl, ?_⟩
    conv => whnf
    refine kgo ?_; (repeat (first | intro (X:Nat) | intro (z:St) | intro (av:V) | intro (tk:Option Nat) | (intro (K1:Kn _ _ _); (try clear K); rename Kn _ _ _ => K))); conv => whnf
    refine ⟨_, _, rfl, ?_⟩
    conv => whnf
    refine kgo ?_; (repeat (first | intro (X:Nat) | intro (z:St) | intro (av:V) | intro (tk:Option Nat) | (intro (K1:Kn _ _ _); (try clear K); rename Kn _ _ _ => K))); conv => whnf
    refine ⟨_, _, c _ _ K.x, ?_⟩
    conv => whnf
    refine kgo ?_; (repeat (first | intro (X:Nat) | intro (z:St) | intro (av:V) | intro (tk:Option Nat) | (intro (K1:Kn _ _ _); (try clear K); rename Kn _ _ _ => K))); conv => whnf
    refine ⟨_, addS (by omega), ?_⟩
    conv => whnf
    refine kgo ?_; (repeat (first | intro (X:Nat) | intro (z:St) | intro (av:V) | intro (tk:Option Nat) | (intro (K1:Kn _ _ _); (try clear K); rename Kn _ _ _ => K))); conv => whnf
    intro hg'
    exact ⟨6 - 1, fg [0, 6, 9, 10, 11, 12] _, _, by omega, WkM.fg hg', 1, _, by omega, rfl, (by rw [hS, ← w]; rfl), by simp only [List.length_append, List.length_cons, List.length_nil]; omega, rfl, K⟩
  · obtain ⟨W, w⟩ : ∃ W, wordsV [114, 101, 99, 111, 114, 100, 115] [t2] = W := ⟨_, rfl⟩
    have q := words1_len [114, 101, 99, 111, 114, 100, 115] hti.2.1 (by decide)
    have c := fun cap => words19_den cap [114, 101, 99, 111, 114, 100, 115] [t2] (by decide) (by simp) (num_cons hti.2.1 num_nil)
    rw [w] at q c
    conv => whnf
    refine kgo ?_; (repeat (first | intro (X:Nat) | intro (z:St) | intro (av:V) | intro (tk:Option Nat) | (intro (K1:Kn _ _ _); (try clear K); rename Kn _ _ _ => K))); conv => whnf
    refine ⟨rfl, by decide, _, rfl, ?_⟩
    conv => whnf
    refine kgo ?_; (repeat (first | intro (X:Nat) | intro (z:St) | intro (av:V) | intro (tk:Option Nat) | (intro (K1:Kn _ _ _); (try clear K); rename Kn _ _ _ => K))); conv => whnf
    refine ⟨_, _, rfl, ?_⟩
    conv => whnf
    refine kgo ?_; (repeat (first | intro (X:Nat) | intro (z:St) | intro (av:V) | intro (tk:Option Nat) | (intro (K1:Kn _ _ _); (try clear K); rename Kn _ _ _ => K))); conv => whnf
    refine ⟨_, _, c _ _ K.x, ?_⟩
    conv => whnf
    refine kgo ?_; (repeat (first | intro (X:Nat) | intro (z:St) | intro (av:V) | intro (tk:Option Nat) | (intro (K1:Kn _ _ _); (try clear K); rename Kn _ _ _ => K))); conv => whnf
    intro hg'
    exact ⟨6 - 2, fg [0, 6, 9, 10, 11, 12] _, _, by omega, WkM.fg hg', 2, _, by omega, rfl, (by rw [hS, ← w]; rfl), by simp only [List.length_append, List.length_cons, List.length_nil]; omega, rfl, K⟩
  · obtain ⟨W, w⟩ : ∃ W, wordsV [104, 105, 116, 115] [t3] = W := ⟨_, rfl⟩
    have q := words1_len [104, 105, 116, 115] hti.2.2.1 (by decide)
    have c := fun cap => words19_den cap [104, 105, 116, 115] [t3] (by decide) (by simp) (num_cons hti.2.2.1 num_nil)
    rw [w] at q c
    conv => whnf
    refine kgo ?_; (repeat (first | intro (X:Nat) | intro (z:St) | intro (av:V) | intro (tk:Option Nat) | (intro (K1:Kn _ _ _); (try clear K); rename Kn _ _ _ => K))); conv => whnf
    refine ⟨rfl, by decide, _, rfl, ?_⟩
    conv => whnf
    refine kgo ?_; (repeat (first | intro (X:Nat) | intro (z:St) | intro (av:V) | intro (tk:Option Nat) | (intro (K1:Kn _ _ _); (try clear K); rename Kn _ _ _ => K))); conv => whnf
    refine ⟨_, _, rfl, ?_⟩
    conv => whnf
    refine kgo ?_; (repeat (first | intro (X:Nat) | intro (z:St) | intro (av:V) | intro (tk:Option Nat) | (intro (K1:Kn _ _ _); (try clear K); rename Kn _ _ _ => K))); conv => whnf
    refine ⟨_, _, c _ _ K.x, ?_⟩
    conv => whnf
    refine kgo ?_; (repeat (first | intro (X:Nat) | intro (z:St) | intro (av:V) | intro (tk:Option Nat) | (intro (K1:Kn _ _ _); (try clear K); rename Kn _ _ _ => K))); conv => whnf
    intro hg'
    exact ⟨6 - 3, fg [0, 6, 9, 10, 11, 12] _, _, by omega, WkM.fg hg', 3, _, by omega, rfl, (by rw [hS, ← w]; rfl), by simp only [List.length_append, List.length_cons, List.length_nil]; omega, rfl, K⟩
  · obtain ⟨W, w⟩ : ∃ W, wordsV [114, 101, 113, 117, 101, 115, 116, 115] [t4] = W := ⟨_, rfl⟩
    have q := words1_len [114, 101, 113, 117, 101, 115, 116, 115] hti.2.2.2.1 (by decide)
    have c := fun cap => words19_den cap [114, 101, 113, 117, 101, 115, 116, 115] [t4] (by decide) (by simp) (num_cons hti.2.2.2.1 num_nil)
    rw [w] at q c
    conv => whnf
    refine kgo ?_; (repeat (first | intro (X:Nat) | intro (z:St) | intro (av:V) | intro (tk:Option Nat) | (intro (K1:Kn _ _ _); (try clear K); rename Kn _ _ _ => K))); conv => whnf
    refine ⟨rfl, by decide, _, rfl, ?_⟩
    conv => whnf
    refine kgo ?_; (repeat (first | intro (X:Nat) | intro (z:St) | intro (av:V) | intro (tk:Option Nat) | (intro (K1:Kn _ _ _); (try clear K); rename Kn _ _ _ => K))); conv => whnf
    refine ⟨_, _, rfl, ?_⟩
    conv => whnf
    refine kgo ?_; (repeat (first | intro (X:Nat) | intro (z:St) | intro (av:V) | intro (tk:Option Nat) | (intro (K1:Kn _ _ _); (try clear K); rename Kn _ _ _ => K))); conv => whnf
    refine ⟨_, _, c _ _ K.x, ?_⟩
    conv => whnf
    refine kgo ?_; (repeat (first | intro (X:Nat) | intro (z:St) | intro (av:V) | intro (tk:Option Nat) | (intro (K1:Kn _ _ _); (try clear K); rename Kn _ _ _ => K))); conv => whnf
    intro hg'
    exact ⟨6 - 4, fg [0, 6, 9, 10, 11, 12] _, _, by omega, WkM.fg hg', 4, _, by omega, rfl, (by rw [hS, ← w]; rfl), by simp only [List.length_append, List.length_cons, List.length_nil]; omega, rfl, K⟩
  · obtain ⟨W, w⟩ : ∃ W, wordsV [114, 101, 102, 117, 115, 101, 100] [t5] = W := ⟨_, rfl⟩
    have q := words1_len [114, 101, 102, 117, 115, 101, 100] hti.2.2.2.2.1 (by decide)
    have c := fun cap => words19_den cap [114, 101, 102, 117, 115, 101, 100] [t5] (by decide) (by simp) (num_cons hti.2.2.2.2.1 num_nil)
    rw [w] at q c
    conv => whnf
    refine kgo ?_; (repeat (first | intro (X:Nat) | intro (z:St) | intro (av:V) | intro (tk:Option Nat) | (intro (K1:Kn _ _ _); (try clear K); rename Kn _ _ _ => K))); conv => whnf
    refine ⟨rfl, by decide, _, rfl, ?_⟩
    conv => whnf
    refine kgo ?_; (repeat (first | intro (X:Nat) | intro (z:St) | intro (av:V) | intro (tk:Option Nat) | (intro (K1:Kn _ _ _); (try clear K); rename Kn _ _ _ => K))); conv => whnf
    refine ⟨_, _, rfl, ?_⟩
    conv => whnf
    refine kgo ?_; (repeat (first | intro (X:Nat) | intro (z:St) | intro (av:V) | intro (tk:Option Nat) | (intro (K1:Kn _ _ _); (try clear K); rename Kn _ _ _ => K))); conv => whnf
    refine ⟨_, _, c _ _ K.x, ?_⟩
    conv => whnf
    refine kgo ?_; (repeat (first | intro (X:Nat) | intro (z:St) | intro (av:V) | intro (tk:Option Nat) | (intro (K1:Kn _ _ _); (try clear K); rename Kn _ _ _ => K))); conv => whnf
    intro hg'
    exact ⟨6 - 5, fg [0, 6, 9, 10, 11, 12] _, _, by omega, WkM.fg hg', 5, _, by omega, rfl, (by rw [hS, ← w]; rfl), by simp only [List.length_append, List.length_cons, List.length_nil]; omega, rfl, K⟩
  · obtain ⟨W, w⟩ : ∃ W, wordsV [99, 108, 111, 99, 107, 115] [t6] = W := ⟨_, rfl⟩
    have q := words1_len [99, 108, 111, 99, 107, 115] hti.2.2.2.2.2 (by decide)
    have c := fun cap => words19_den cap [99, 108, 111, 99, 107, 115] [t6] (by decide) (by simp) (num_cons hti.2.2.2.2.2 num_nil)
    rw [w] at q c
    conv => whnf
    refine kgo ?_; (repeat (first | intro (X:Nat) | intro (z:St) | intro (av:V) | intro (tk:Option Nat) | (intro (K1:Kn _ _ _); (try clear K); rename Kn _ _ _ => K))); conv => whnf
    refine ⟨rfl, by decide, _, rfl, ?_⟩
    conv => whnf
    refine kgo ?_; (repeat (first | intro (X:Nat) | intro (z:St) | intro (av:V) | intro (tk:Option Nat) | (intro (K1:Kn _ _ _); (try clear K); rename Kn _ _ _ => K))); conv => whnf
    refine ⟨_, _, rfl, ?_⟩
    conv => whnf
    refine kgo ?_; (repeat (first | intro (X:Nat) | intro (z:St) | intro (av:V) | intro (tk:Option Nat) | (intro (K1:Kn _ _ _); (try clear K); rename Kn _ _ _ => K))); conv => whnf
    refine ⟨_, _, c _ _ K.x, ?_⟩
    conv => whnf
    refine kgo ?_; (repeat (first | intro (X:Nat) | intro (z:St) | intro (av:V) | intro (tk:Option Nat) | (intro (K1:Kn _ _ _); (try clear K); rename Kn _ _ _ => K))); conv => whnf
    intro hg'
    exact ⟨6 - 6, fg [0, 6, 9, 10, 11, 12] _, _, by omega, WkM.fg hg', 6, _, by omega, rfl, (by rw [hS, ← w]; rfl), by simp only [List.length_append, List.length_cons, List.length_nil]; omega, rfl, K⟩
  · conv => whnf
    refine kgo ?_; (repeat (first | intro (X:Nat) | intro (z:St) | intro (av:V) | intro (tk:Option Nat) | (intro (K1:Kn _ _ _); (try clear K); rename Kn _ _ _ => K))); conv => whnf
    exact hQ _ _ (by rw [← hS]; rfl) K
end Go.Proofs.YthoojnjcdllgdaaGreatDoor
