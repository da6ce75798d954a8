/-
  ClientNil holds: the closed sentence is run, step by step, by the abstract machine in the kernel. No condition beyond the given statement.
-/
import Derived.Test.YtmmhmnempoghkabGreatDoorClientNilLift
import Derived.Test.YtmmhmnempoghkabGreatDoorRfRa
import Derived.Test.YtmmhmnempoghkabGreatDoorAs
import Derived.Test.YtmmhmnempoghkabGreatDoorRows
import Derived.Test.YtmmhmnempoghkabGreatDoorCards
import Derived.Test.YtmmhmnempoghkabGreatDoorTie
import Derived.WalkKit
import Derived.ProofKit
import Derived.OpenShut
import Derived.LaidMore
import Derived.Stop.Joined
import Derived.SevenTiedAt
import Derived.KernelRfl
set_option linter.all false
namespace Go.Proofs.YtmmhmnempoghkabGreatDoor
open Go Rf Go.ChangeShapes Go.WideShapes Go.ChangeAt Go.RowKit
set_option maxRecDepth 100000

theorem band {a b : Bool} (ha : a = true) (hb : b = true) : (a && b) = true := by rw [ha, hb]; rfl
set_option maxHeartbeats 20000000 in
theorem clientNil_closed : joinedFacts Tryz.checked.prog 3 Tryz.f3 Rows.clientNilSpec Rows.clientNilRow = true := by
  unfold joinedFacts
  repeat' (with_reducible refine band ?_ ?_)
  all_goals (as_aux_lemma => kernel_rfl)
theorem clientNil_named : Tryz.checked.prog.funcNamed Rows.clientNilRow.func = some 3 := by kernel_rfl

theorem clientNil_holds : Rows.ClientNilSaid :=
  OpenClaim.holds_of_wide 3 Tryz.f3 rfl rfl rfl rfl rfl rfl rfl ⟨rfl, rfl, rfl, rfl, rfl⟩ rfl rfl rfl rfl rfl clientNil_named Tryz.func3 clientNil_closed
    (of_decide_eq_true (by as_aux_lemma => kernel_rfl)) (by unfold Func.isWrapper; first | (rw [if_pos (by decide +kernel)]; kernel_rfl) | (rw [if_neg (by decide +kernel)]; exact ⟨rfl, rfl⟩))
    (fun os started H enc _ => clientNil_lifted os started H enc)

theorem clientNil_card : Rows.ClientNilCardSaid :=
  Claim7.holds_tied_plain_at .later [] [.handle] true (true, "b526b9bd4e89c4d0a898a342823907069bbb847c1a1d7c5c153474f19534004a") true
    clientNil_holds (fun _ h => by cases h) (by as_aux_lemma => kernel_rfl) (fun _ h => by cases h) clientNil_row_tie rfl ⟨rfl, rfl⟩ (by as_aux_lemma => kernel_rfl) rfl
    (fun f fn hf hfn => by
      obtain rfl : f = 3 := Option.some.inj ((show Tryz.prog.funcNamed Tryz.f3.name = some 3 by as_aux_lemma => kernel_rfl).symm.trans hf) |>.symm
      obtain rfl : fn = Tryz.f3 := (Option.some.inj (Tryz.func3.symm.trans hfn)).symm
      exact ⟨by as_aux_lemma => kernel_rfl, fun j t ht => by
        rw [Tryz.params3] at ht
        simp at ht⟩)
    (by as_aux_lemma => kernel_rfl)
#print axioms clientNil_card
end Go.Proofs.YtmmhmnempoghkabGreatDoor
