/-
  ClientWrongs holds: the closed sentence is run, step by step, by the abstract machine in the kernel. No condition beyond the given statement.
-/
import Derived.Test.YtmmhmnempoghkaaGreatDoorClientWrongsLift
import Derived.Test.YtmmhmnempoghkaaGreatDoorRfRa
import Derived.Test.YtmmhmnempoghkaaGreatDoorAs
import Derived.Test.YtmmhmnempoghkaaGreatDoorRows
import Derived.Test.YtmmhmnempoghkaaGreatDoorCards
import Derived.Test.YtmmhmnempoghkaaGreatDoorTie
import Derived.WalkKit
import Derived.ProofKit
import Derived.OpenShut
import Derived.LaidMore
import Derived.Stop.Joined
import Derived.SevenTiedAt
import Derived.KernelRfl
set_option linter.all false
namespace Go.Proofs.YtmmhmnempoghkaaGreatDoor
open Go Rf Go.ChangeShapes Go.WideShapes Go.ChangeAt Go.RowKit
set_option maxRecDepth 100000

theorem band {a b : Bool} (ha : a = true) (hb : b = true) : (a && b) = true := by rw [ha, hb]; rfl
set_option maxHeartbeats 20000000 in
theorem clientWrongs_closed : joinedFacts Tryz.checked.prog 3 Tryz.f3 Rows.clientWrongsSpec Rows.clientWrongsRow = true := by
  unfold joinedFacts
  repeat' (with_reducible refine band ?_ ?_)
  all_goals (as_aux_lemma => kernel_rfl)
theorem clientWrongs_named : Tryz.checked.prog.funcNamed Rows.clientWrongsRow.func = some 3 := by kernel_rfl

theorem clientWrongs_holds : Rows.ClientWrongsSaid :=
  OpenClaim.holds_of_wide 3 Tryz.f3 rfl rfl rfl rfl rfl rfl rfl ⟨rfl, rfl, rfl, rfl, rfl⟩ rfl rfl rfl rfl rfl clientWrongs_named Tryz.func3 clientWrongs_closed
    (of_decide_eq_true (by as_aux_lemma => kernel_rfl)) (by unfold Func.isWrapper; first | (rw [if_pos (by decide +kernel)]; kernel_rfl) | (rw [if_neg (by decide +kernel)]; exact ⟨rfl, rfl⟩))
    (fun os started H enc _ => clientWrongs_lifted os started H enc)

theorem clientWrongs_card : Rows.ClientWrongsCardSaid :=
  Claim7.holds_tied_plain_at .later [] [.handle] true (true, "f95926c5f82ce9e7b35f8877bc6d4e1f158bfb5482274eeafe86ac16e7d05faa") true
    clientWrongs_holds (fun _ h => by cases h) (by as_aux_lemma => kernel_rfl) (fun _ h => by cases h) clientWrongs_row_tie rfl ⟨rfl, rfl⟩ (by as_aux_lemma => kernel_rfl) rfl
    (fun f fn hf hfn => by
      obtain rfl : f = 3 := Option.some.inj ((show Tryz.prog.funcNamed Tryz.f3.name = some 3 by as_aux_lemma => kernel_rfl).symm.trans hf) |>.symm
      obtain rfl : fn = Tryz.f3 := (Option.some.inj (Tryz.func3.symm.trans hfn)).symm
      exact ⟨by as_aux_lemma => kernel_rfl, fun j t ht => by
        rw [Tryz.params3] at ht
        simp at ht⟩)
    (by as_aux_lemma => kernel_rfl)
#print axioms clientWrongs_card
end Go.Proofs.YtmmhmnempoghkaaGreatDoor
