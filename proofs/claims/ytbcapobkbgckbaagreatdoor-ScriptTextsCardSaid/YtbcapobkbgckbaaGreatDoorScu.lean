/-
  Contracts: a text is cut at its first line's end; a script's text is read, the code's way. No statement stands here.
-/
import Derived.Test.YtbcapobkbgckbaaGreatDoorSsh
import Derived.Test.YtbcapobkbgckbaaGreatDoorLF
set_option linter.all false
namespace Go.Proofs.YtbcapobkbgckbaaGreatDoor
open Go Rf
set_option maxRecDepth 100000
set_option maxHeartbeats 4000000

theorem nm3 {L : Nat → Prop} {v u w : V} (h : Nm L v) (h' : Nm L u) (h'' : Nm L w) : ∀ x ∈ [v, u, w], Nm L x := fun x hx => by
  simp only [List.mem_cons, List.not_mem_nil, or_false] at hx
  rcases hx with rfl | rfl | rfl
  · exact h
  · exact h'
  · exact h''
theorem hG48 : cF gt1 Tryz.prog (wfa 48) 48 = some f48 := by kernel_rfl
theorem hG21 : cF gt1 Tryz.prog (wfa 21) 21 = some f21 := by kernel_rfl
theorem cutm_d {l : List UInt8} (h : 10 ∉ l) (s : St) (hx : NoX s) : Den gt1 Tryz.prog 48 [.s l, .s [10]] s (.tu [.s l, .s [], .b false]) s := by
  refine Den.tidy fun ht => Den.hm gnm1 hG48 ?_
  have K := Kn.init ht.1 hx
  conv => whnf
  refine kgo ?_; (repeat (first | intro (X:Nat) | intro (z:St) | intro (av:V) | intro (tk:Option Nat) | (intro (K1:Kn _ _ _); (try clear K); rename Kn _ _ _ => K))); conv => whnf
  refine ⟨_, _, six_d _, ?_⟩
  rw [idx_none h]
  conv => whnf
  refine kgo ?_; (repeat (first | intro (X:Nat) | intro (z:St) | intro (av:V) | intro (tk:Option Nat) | (intro (K1:Kn _ _ _); (try clear K); rename Kn _ _ _ => K))); conv => whnf
  exact K.fin ht hx (.tu _ (nm3 (.s _) (.s _) (.b _))) (.refl _)
theorem aop_slSt {e : List V} {s : St} {x y : Arg} {l : List UInt8} {b : Nat} (hx : x.ev e = .s l) (hy : y.ev e = .i .i64 ((b : Nat) : Int)) (hb : b ≤ l.length) : aop e s (.slS x none (some y)) = some (.s (l.take b), s) := by
  simp only [aop, hx, Option.map_some, Option.map_none, hy]
  delta slb
  simp [bnd_nat hb]
theorem aop_slSd {e : List V} {s : St} {x y : Arg} {l : List UInt8} {a : Nat} (hx : x.ev e = .s l) (hy : y.ev e = .i .i64 ((a : Nat) : Int)) (ha : a ≤ l.length) : aop e s (.slS x (some y) none) = some (.s (l.drop a), s) := by
  simp only [aop, hx, Option.map_some, Option.map_none, hy]
  delta slb
  simp [bnd_nat ha]
theorem cuth_d {a r : List UInt8} (h : 10 ∉ a) (hl : (a ++ 10 :: r).length ≤ 900000) (s : St) (hx : NoX s) : Den gt1 Tryz.prog 48 [.s (a ++ 10 :: r), .s [10]] s (.tu [.s a, .s r, .b true]) s := by
  refine Den.tidy fun ht => Den.hm gnm1 hG48 ?_
  have K := Kn.init ht.1 hx
  have hl' : a.length + 1 + r.length ≤ 900000 := by simp at hl; omega
  conv => whnf
  refine kgo ?_; (repeat (first | intro (X:Nat) | intro (z:St) | intro (av:V) | intro (tk:Option Nat) | (intro (K1:Kn _ _ _); (try clear K); rename Kn _ _ _ => K))); conv => whnf
  refine ⟨_, _, six_d _, ?_⟩
  rw [idx_app r h]
  conv => whnf
  refine kgo ?_; (repeat (first | intro (X:Nat) | intro (z:St) | intro (av:V) | intro (tk:Option Nat) | (intro (K1:Kn _ _ _); (try clear K); rename Kn _ _ _ => K))); conv => whnf
  refine ⟨_, _, aop_slSt (b := a.length) rfl rfl (by simp), ?_⟩
  rw [List.take_left' rfl]
  conv => whnf
  refine kgo ?_; (repeat (first | intro (X:Nat) | intro (z:St) | intro (av:V) | intro (tk:Option Nat) | (intro (K1:Kn _ _ _); (try clear K); rename Kn _ _ _ => K))); conv => whnf
  rw [show wrapF .i64 (((a.length : Nat) : Int) + ((([10] : List UInt8).length : Nat) : Int)) = ((a.length + 1 : Nat) : Int) by rw [wI, List.length_singleton]; omega]
  refine ⟨_, _, aop_slSd (a := a.length + 1) rfl rfl (by simp), ?_⟩
  rw [show (a ++ 10 :: r).drop (a.length + 1) = r by rw [show a ++ 10 :: r = (a ++ [10]) ++ r by simp, List.drop_left' (by simp)]]
  conv => whnf
  refine kgo ?_; (repeat (first | intro (X:Nat) | intro (z:St) | intro (av:V) | intro (tk:Option Nat) | (intro (K1:Kn _ _ _); (try clear K); rename Kn _ _ _ => K))); conv => whnf
  exact K.fin ht hx (.tu _ (nm3 (.s _) (.s _) (.b _))) (.refl _)
def cutV (l : List UInt8) : V := .tu (match Lib.indexByte l 10 with
  | .ofNat n => [.s (l.take n), .s (l.drop (n + 1)), .b true]
  | .negSucc _ => [.s l, .s [], .b false])
theorem cut_d {l : List UInt8} (hl : l.length ≤ 900000) (s : St) (hx : NoX s) : Den gt1 Tryz.prog 21 [.s l, .s [10]] s (cutV l) s := by
  have hin : Den gt1 Tryz.prog 48 [.s l, .s [10]] s (cutV l) s ∧ ∃ a b c, cutV l = .tu [.s a, .s b, .b c] := by
    unfold cutV
    rcases cases_c 10 l with h | ⟨a, r, rfl, h⟩
    · rw [idx_none h]
      exact ⟨cutm_d h s hx, _, _, _, rfl⟩
    · rw [idx_app r h]
      show Den gt1 Tryz.prog 48 _ s (.tu [.s ((a ++ 10 :: r).take a.length), .s ((a ++ 10 :: r).drop (a.length + 1)), .b true]) s ∧ _
      refine ⟨?_, _, _, _, rfl⟩
      rw [List.take_left' rfl, show (a ++ 10 :: r).drop (a.length + 1) = r by rw [show a ++ 10 :: r = (a ++ [10]) ++ r by simp, List.drop_left' (by simp)]]
      exact cuth_d h hl s hx
  obtain ⟨hin, a, b, c, he⟩ := hin
  rw [he] at hin ⊢
  refine Den.tidy fun ht => Den.hm gnm1 hG21 ?_
  have K := Kn.init ht.1 hx
  conv => whnf
  refine kgo ?_; (repeat (first | intro (X:Nat) | intro (z:St) | intro (av:V) | intro (tk:Option Nat) | (intro (K1:Kn _ _ _); (try clear K); rename Kn _ _ _ => K))); conv => whnf
  refine ⟨_, _, hin, ?_⟩
  conv => whnf
  refine kgo ?_; (repeat (first | intro (X:Nat) | intro (z:St) | intro (av:V) | intro (tk:Option Nat) | (intro (K1:Kn _ _ _); (try clear K); rename Kn _ _ _ => K))); conv => whnf
  exact K.fin ht hx (.tu _ (nm3 (.s _) (.s _) (.b _))) (.refl _)
end Go.Proofs.YtbcapobkbgckbaaGreatDoor
