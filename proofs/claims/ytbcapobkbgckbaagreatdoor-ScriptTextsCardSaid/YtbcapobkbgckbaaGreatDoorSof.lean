/-
  Contract: a script's text is read, the code's way. No statement stands here.
-/
import Derived.Test.YtbcapobkbgckbaaGreatDoorScu
import Derived.Test.YtbcapobkbgckbaaGreatDoorSrd
import Derived.Test.YtbcapobkbgckbaaGreatDoorIs
set_option linter.all false
namespace Go.Proofs.YtbcapobkbgckbaaGreatDoor
open Go Rf
set_option maxRecDepth 100000
set_option maxHeartbeats 4000000

theorem hG10 : cF gt1 Tryz.prog (wfa 10) 10 = some f10 := by kernel_rfl
def slO (l : List Ey) : V := .pu 4 (l.map eyV) .u
def ofV : Option (List Ey) → V
  | some w => .tu [slO w, .i .i64 0]
  | none => .tu [slO [], .i .i64 14]
theorem ofS_nil : ofS [] = some [] := rfl
theorem ofS_none {l : List UInt8} (h : 10 ∉ l) (hl : l ≠ []) : ofS l = none := by
  unfold ofS
  rw [cutL_none h]
  unfold ofL
  rw [if_pos rfl, if_neg hl]
theorem ofS_cons {a r : List UInt8} (h : 10 ∉ a) : ofS (a ++ 10 :: r) = match rdC a with
    | none => none
    | some e => (ofS r).map (e :: ·) := by
  unfold ofS
  rw [cutL_app r h]
  conv => lhs; unfold ofL
  rw [if_neg (cutL_ne 10 r)]
  cases rdC a <;> rfl
theorem slO_nm {L : Nat → Prop} (l : List Ey) : Nm L (slO l) := .pu _ _ _ (fun v hv => by
  obtain ⟨x, -, rfl⟩ := List.mem_map.1 hv; exact eyV_nm _) (fun k hk => by cases hk)
def EOf (R : List UInt8) (ov : V) : List V := (.s R :: .bad :: .ns :: .i .i64 0 :: ov :: List.replicate 31 .bad)
theorem of_den (S : List UInt8) (hS : S.length ≤ 60000) (s : St) (hx : NoX s) : Den gt1 Tryz.prog 10 [.s S] s (ofV (ofS S)) s := by
  refine Den.tidy fun ht => Den.hm gnm1 hG10 ?_
  have K := (Kn.init ht.1 hx).acc0 4
  conv => whnf
  refine kgo ?_; (repeat (first | intro (X:Nat) | intro (z:St) | intro (av:V) | intro (tk:Option Nat) | (intro (K1:Kn _ _ _); (try clear K); rename Kn _ _ _ => K))); conv => whnf
  refine HM.loop gnm1 fun hg => ⟨fun m ev z' => ∃ (R : List UInt8) (out : List Ey) (ov : V) (tk : Option Nat), m = R.length ∧ ev = EOf R ov ∧ out.length + R.length ≤ 60000 ∧ ofS S = (ofS R).map (out ++ ·) ∧ Kn s z' [.ac 4 ov (out.map eyV) tk],
    ⟨S.length, fg [0, 2, 3, 4] _, _, WkM.fg hg, S, [], .ns, none, rfl, rfl, by simpa using hS, by simp, K⟩, ?_⟩
  clear K
  rintro m ev z1 ⟨R, out, ov, tk, rfl, rfl, hl, ho, K⟩
  conv => whnf
  refine kgo ?_; (repeat (first | intro (X:Nat) | intro (z:St) | intro (av:V) | intro (tk:Option Nat) | (intro (K1:Kn _ _ _); (try clear K); rename Kn _ _ _ => K))); conv => whnf
  by_cases hR : R = []
  · subst hR
    rw [ofS_nil] at ho
    rw [show (([] : List UInt8) == []) = true from rfl, ho]
    conv => whnf
    refine kgo ?_; (repeat (first | intro (X:Nat) | intro (z:St) | intro (av:V) | intro (tk:Option Nat) | (intro (K1:Kn _ _ _); (try clear K); rename Kn _ _ _ => K))); conv => whnf
    rw [show Option.map (fun x => out ++ x) (some []) = some out by simp]
    exact K.fin ht hx (.tu _ (nm2 (slO_nm _) (.i _ _))) (.tu _ _ (.cons (K.vw .here) (.cons (.refl _) .nil)))
  rw [show (R == []) = false from beq_eq_false_iff_ne.2 hR]
  have bad : ofS R = none → ofS S = none := fun h => by rw [ho, h]; rfl
  conv => whnf
  refine kgo ?_; (repeat (first | intro (X:Nat) | intro (z:St) | intro (av:V) | intro (tk:Option Nat) | (intro (K1:Kn _ _ _); (try clear K); rename Kn _ _ _ => K))); conv => whnf
  refine ⟨_, _, cut_d (l := R) (by omega) _ K.x, ?_⟩
  rcases cases_c 10 R with h | ⟨a, r, rfl, h⟩
  · rw [show cutV R = .tu [.s R, .s [], .b false] by unfold cutV; rw [idx_none h]; rfl]
    rw [bad (ofS_none h hR)]
    conv => whnf
    refine kgo ?_; (repeat (first | intro (X:Nat) | intro (z:St) | intro (av:V) | intro (tk:Option Nat) | (intro (K1:Kn _ _ _); (try clear K); rename Kn _ _ _ => K))); conv => whnf
    refine ⟨_, _, read_den R (by omega) _ K.x, ?_⟩
    cases hrd : rdC R with
    | none =>
      conv => whnf
      refine kgo ?_; (repeat (first | intro (X:Nat) | intro (z:St) | intro (av:V) | intro (tk:Option Nat) | (intro (K1:Kn _ _ _); (try clear K); rename Kn _ _ _ => K))); conv => whnf
      refine ⟨_, _, up0 (is_broken_den R _), ?_⟩
      conv => whnf
      refine kgo ?_; (repeat (first | intro (X:Nat) | intro (z:St) | intro (av:V) | intro (tk:Option Nat) | (intro (K1:Kn _ _ _); (try clear K); rename Kn _ _ _ => K))); conv => whnf
      exact K.fin ht hx (.tu _ (nm2 (slO_nm _) (.i _ _))) (.tu _ _ (.cons (.ns _) (.cons (.refl _) .nil)))
    | some e =>
      conv => whnf
      refine kgo ?_; (repeat (first | intro (X:Nat) | intro (z:St) | intro (av:V) | intro (tk:Option Nat) | (intro (K1:Kn _ _ _); (try clear K); rename Kn _ _ _ => K))); conv => whnf
      refine ⟨_, _, up0 (is_nil_den 14 _), ?_⟩
      conv => whnf
      refine kgo ?_; (repeat (first | intro (X:Nat) | intro (z:St) | intro (av:V) | intro (tk:Option Nat) | (intro (K1:Kn _ _ _); (try clear K); rename Kn _ _ _ => K))); conv => whnf
      exact K.fin ht hx (.tu _ (nm2 (slO_nm _) (.i _ _))) (.tu _ _ (.cons (.ns _) (.cons (.refl _) .nil)))
  · have hl2 : a.length + 1 + r.length + out.length ≤ 60000 := by simp at hl; omega
    rw [show cutV (a ++ 10 :: r) = .tu [.s a, .s r, .b true] by
      unfold cutV; rw [idx_app r h]
      show V.tu [.s ((a ++ 10 :: r).take a.length), .s ((a ++ 10 :: r).drop (a.length + 1)), .b true] = _
      rw [List.take_left' rfl, show (a ++ 10 :: r).drop (a.length + 1) = r by rw [show a ++ 10 :: r = (a ++ [10]) ++ r by simp, List.drop_left' (by simp)]]]
    rw [ofS_cons h] at ho bad
    conv => whnf
    refine kgo ?_; (repeat (first | intro (X:Nat) | intro (z:St) | intro (av:V) | intro (tk:Option Nat) | (intro (K1:Kn _ _ _); (try clear K); rename Kn _ _ _ => K))); conv => whnf
    refine ⟨_, _, read_den a (by omega) _ K.x, ?_⟩
    cases hrd : rdC a with
    | none =>
      rw [hrd] at bad
      rw [bad rfl]
      conv => whnf
      refine kgo ?_; (repeat (first | intro (X:Nat) | intro (z:St) | intro (av:V) | intro (tk:Option Nat) | (intro (K1:Kn _ _ _); (try clear K); rename Kn _ _ _ => K))); conv => whnf
      refine ⟨_, _, up0 (is_broken_den a _), ?_⟩
      conv => whnf
      refine kgo ?_; (repeat (first | intro (X:Nat) | intro (z:St) | intro (av:V) | intro (tk:Option Nat) | (intro (K1:Kn _ _ _); (try clear K); rename Kn _ _ _ => K))); conv => whnf
      exact K.fin ht hx (.tu _ (nm2 (slO_nm _) (.i _ _))) (.tu _ _ (.cons (.ns _) (.cons (.refl _) .nil)))
    | some e =>
      rw [hrd] at ho
      conv => whnf
      refine kgo ?_; (repeat (first | intro (X:Nat) | intro (z:St) | intro (av:V) | intro (tk:Option Nat) | (intro (K1:Kn _ _ _); (try clear K); rename Kn _ _ _ => K))); conv => whnf
      refine ⟨_, _, up0 (is_nil_den 14 _), ?_⟩
      conv => whnf
      have hob : (out.map eyV).length ≤ 60000 := by rw [List.length_map]; omega
      refine kgo ?_; (repeat (first | intro (X:Nat) | intro (z:St) | intro (av:V) | intro (tk:Option Nat) | (intro (K1:Kn _ _ _); (try clear K); rename Kn _ _ _ => K))); conv => whnf
      intro hg'
      exact ⟨r.length, fg [0, 2, 3, 4] _, _, by simp; omega, WkM.fg hg', r, out ++ [e], av, tk, rfl, rfl, by simp; omega, by rw [ho]; cases ofS r <;> simp, (K.drop0 rfl).cast (by rw [List.map_append]; rfl)⟩
end Go.Proofs.YtbcapobkbgckbaaGreatDoor
