/-
  CodeBounds holds: the closed sentence is run by the abstract machine in the kernel. No condition beyond the given statement.
-/
import Derived.Test.YtbeoanbhnlahpaaDoorRfQa
import Derived.Test.YtbeoanbhnlahpaaDoorRfR
import Derived.Test.YtbeoanbhnlahpaaDoorRows
import Derived.Test.YtbeoanbhnlahpaaDoorCards
import Derived.Test.YtbeoanbhnlahpaaDoorTie
import Derived.WalkKit
import Derived.ProofKit
import Derived.OpenShut
import Derived.LaidMore
import Derived.Stop.Joined
import Derived.SevenTiedAt
set_option linter.all false
namespace Go.Proofs.YtbeoanbhnlahpaaDoor
open Go Rf Go.ChangeShapes Go.WideShapes Go.ChangeAt Go.RowKit
set_option linter.unusedVariables false
set_option maxRecDepth 100000

def gt0 : Nat → Option V := fun _ => none
def wfB (f : Nat) : Nat → Nat → Bool := fun _ _ => !(f == 50 || f == 53 || f == 65)
noncomputable def tbB : Nat → Option F := fun f => if callOk Tryd.prog f then cF gt0 Tryd.prog (wfB f) f else none
theorem tbB_ok : TbOk gt0 Tryd.prog wfB tbB := by
  refine ⟨fun f F h => ?_, fun f F h => ?_⟩
  · unfold tbB at h; split at h
    · exact h
    · cases h
  · unfold tbB at h; split at h
    · assumption
    · cases h
theorem mixed : Tryd.prog.follows .mixedOrders = true := by kernel_rfl

theorem den_of {f : Nat} {args : List V} {s : St} {v : V} {n d : Nat} (h : (evFT tbB n d f args s).map (·.1) = some v) : ∃ s', Den gt0 Tryd.prog f args s v s' := by
  simp only [Option.map_eq_some_iff] at h
  obtain ⟨⟨v', s'⟩, h1, h2⟩ := h
  simp only at h2
  subst h2
  exact ⟨s', (evFT_ok mixed tbB_ok n d _ _ _ _ _ h1).2⟩

theorem own : ownKnob Tryd.prog.godebug = none := by kernel_rfl

/-! ### the run -/
theorem bounds_run : (evFT tbB 1000 1000 4 [] s0).map (·.1) = some (.b true) := by kernel_rfl

theorem bounds_door (os : Os) (args : Array Value) : laidMetH Tryd.prog Rows.codeBoundsRow.laid ((World.doorLaid Tryd.prog 400 os).forCall (fun _ _ => 0) ⟨#[], args, []⟩).memory :=
  laidMetH_of_parts3 (fuel := 8) (laidMet_of_run' 8 (by kernel_rfl) (by kernel_rfl)) (by kernel_rfl) (by kernel_rfl)

theorem bounds_lifted (os : Os) (started : os.Started) (H : Type) (enc : TypeId × Value → H) :
    ReturnsInHanded {} Tryd.checked os 4 .any (fun w args => (Rows.codeBoundsSpec.pre enc Tryd.prog Tryd.f4 [] false w args ∧ laidMetH Tryd.prog Rows.codeBoundsRow.laid w) ∧ sizedMet enc Tryd.prog Tryd.f4 (OpenSpec.ofChange Rows.codeBoundsSpec) false w args)
      (Rows.codeBoundsSpec.post enc Tryd.prog Tryd.f4 false true false false) := by
  refine returnsInHanded_of_change_and (C := Tryd.checked) (X := fun w _ => laidMetH Tryd.prog Rows.codeBoundsRow.laid w) (fun _ _ _ hh h => h.of_heap hh) own started (by kernel_rfl) Tryd.func4
    (ChangeSpec.witness_shaped (enc := enc) (C := Tryd.checked) (os := os) (X := fun w _ => laidMetH Tryd.prog Rows.codeBoundsRow.laid w) false (World.doorLaid Tryd.prog 400 os) #[] 8 rfl (World.shaped_of_RefB (by kernel_rfl) (by kernel_rfl)) (by kernel_rfl) (by kernel_rfl) (by kernel_rfl) (bounds_door os _)) ?_
  intro W base args ds gs before hval0 hW _ _ hL _
  have hW' := hW
  obtain ⟨p, q, hA0, hV, rfl, hfz, hnd⟩ := hW
  have hA : DataW.TrodAll enc Tryd.prog W 0 (fun _ => true) true Tryd.f4.params.toList args.toList ds p := hA0
  rw [Tryd.params4] at hA
  obtain ⟨he, rfl, rfl⟩ := trodAll_none hA
  have he' : args = #[] := by simpa using he
  subst he'
  obtain ⟨s', hD⟩ := den_of bounds_run
  exact law_post (by kernel_rfl) (by kernel_rfl) (by kernel_rfl) Tryd.underlying4 rfl (fun gs => by cases gs <;> rfl) hW' (fun g v h => by cases h) ⟨rfl, fun j hj => by simp at hj⟩ hD

theorem bounds_holds : Rows.CodeBoundsSaid :=
  OpenClaim.holds_of_wide 4 Tryd.f4 rfl rfl rfl rfl rfl rfl rfl ⟨rfl, rfl, rfl, rfl, rfl⟩ rfl rfl rfl rfl rfl (by kernel_rfl) Tryd.func4 (by kernel_rfl)
    (of_decide_eq_true (by kernel_rfl)) (by unfold Func.isWrapper; first | (rw [if_pos (by decide +kernel)]; kernel_rfl) | (rw [if_neg (by decide +kernel)]; exact ⟨rfl, rfl⟩))
    (fun os started H enc _ => bounds_lifted os started H enc)

theorem bounds_card : Rows.CodeBoundsCardSaid :=
  Claim7.holds_tied_plain_at .later [] [.data, .data, .data] true (true, "4c2e2955a344c49b7c5330b61783e03873b5821aa29a849dc5a72daeb1dd2f0d") true
    bounds_holds (fun _ h => by cases h) (by kernel_rfl) (fun _ h => by cases h) codeBounds_row_tie rfl ⟨rfl, rfl⟩ (by kernel_rfl) rfl
    (fun f fn hf hfn => by
      obtain rfl : f = 4 := Option.some.inj ((show Tryd.prog.funcNamed Tryd.f4.name = some 4 by kernel_rfl).symm.trans hf) |>.symm
      obtain rfl : fn = Tryd.f4 := (Option.some.inj (Tryd.func4.symm.trans hfn)).symm
      exact ⟨by kernel_rfl, fun j t ht => by
        rw [Tryd.params4] at ht
        simp at ht⟩)
    (by kernel_rfl)
#print axioms bounds_card
end Go.Proofs.YtbeoanbhnlahpaaDoor
