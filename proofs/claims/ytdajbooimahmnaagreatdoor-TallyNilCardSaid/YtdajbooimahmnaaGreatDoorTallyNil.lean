/-
  TallyNil holds: the closed sentence is run, step by step, by the abstract machine in the kernel. No condition beyond the given statement.
-/
import Derived.Test.YtdajbooimahmnaaGreatDoorRfZc
import Derived.Test.YtdajbooimahmnaaGreatDoorRfR
import Derived.Test.YtdajbooimahmnaaGreatDoorRows
import Derived.Test.YtdajbooimahmnaaGreatDoorCards
import Derived.Test.YtdajbooimahmnaaGreatDoorTie
import Derived.WalkKit
import Derived.ProofKit
import Derived.OpenShut
import Derived.LaidMore
import Derived.Stop.Joined
import Derived.SevenTiedAt
import Derived.KernelRfl
set_option linter.all false
namespace Go.Proofs.YtdajbooimahmnaaGreatDoor
open Go Rf Go.ChangeShapes Go.WideShapes Go.ChangeAt Go.RowKit
set_option maxRecDepth 100000

def gt0 : Nat → Option V := fun _ => none
def wfz (f id _ : Nat) : Bool := (Nat.beq f 9 && Nat.beq id 5)
theorem mixed : Tryz.prog.follows .mixedOrders = true := by kernel_rfl

def kn : Cl := kn0
theorem kn_ok : ClOk gt0 Tryz.prog kn := kn0_ok

theorem den_of {f : Nat} {args : List V} {s : St} {v : V} {n d : Nat} (h : (callA gt0 Tryz.prog wfz kn n d f args s).map (·.1) = some v) : ∃ s', Den gt0 Tryz.prog f args s v s' := by
  simp only [Option.map_eq_some_iff] at h
  obtain ⟨⟨v', s'⟩, h1, h2⟩ := h
  simp only at h2
  subst h2
  exact ⟨s', (callA_ok mixed kn_ok n d _ _ _ _ _ h1).2⟩

theorem own : ownKnob Tryz.prog.godebug = none := by kernel_rfl

/-! ### the run -/
theorem tallyNil_run : (callA gt0 Tryz.prog wfz kn 200000 12 3 [] s0).map (·.1) = some (.b true) := by kernel_rfl

theorem tallyNil_door (os : Os) (args : Array Value) : laidMetH Tryz.prog Rows.tallyNilRow.laid ((World.doorLaid Tryz.prog 400 os).forCall (fun _ _ => 0) ⟨#[], args, []⟩).memory :=
  laidMetH_of_parts3 (fuel := 8) (laidMet_of_run' 8 (by kernel_rfl) (by kernel_rfl)) (by kernel_rfl) (by kernel_rfl)

theorem tallyNil_lifted (os : Os) (started : os.Started) (H : Type) (enc : TypeId × Value → H) :
    ReturnsInHanded {} Tryz.checked os 3 .any (fun w args => (Rows.tallyNilSpec.pre enc Tryz.prog Tryz.f3 [] false w args ∧ laidMetH Tryz.prog Rows.tallyNilRow.laid w) ∧ sizedMet enc Tryz.prog Tryz.f3 (OpenSpec.ofChange Rows.tallyNilSpec) false w args)
      (Rows.tallyNilSpec.post enc Tryz.prog Tryz.f3 false true false false) := by
  refine returnsInHanded_of_change_and (C := Tryz.checked) (X := fun w _ => laidMetH Tryz.prog Rows.tallyNilRow.laid w) (fun _ _ _ hh h => h.of_heap hh) own started (by kernel_rfl) Tryz.func3
    (ChangeSpec.witness_shaped (enc := enc) (C := Tryz.checked) (os := os) (X := fun w _ => laidMetH Tryz.prog Rows.tallyNilRow.laid w) false (World.doorLaid Tryz.prog 400 os) #[] 8 rfl (World.shaped_of_RefB (by kernel_rfl) (by kernel_rfl)) (by kernel_rfl) (by kernel_rfl) (by kernel_rfl) (tallyNil_door os _)) ?_
  intro W base args ds gs before hval0 hW _ _ hL _
  have hW' := hW
  obtain ⟨p, q, hA0, hV, rfl, hfz, hnd⟩ := hW
  have hA : DataW.TrodAll enc Tryz.prog W 0 (fun _ => true) true Tryz.f3.params.toList args.toList ds p := hA0
  rw [Tryz.params3] at hA
  obtain ⟨he, rfl, rfl⟩ := trodAll_none hA
  have he' : args = #[] := by simpa using he
  subst he'
  obtain ⟨s', hD⟩ := den_of tallyNil_run
  exact law_post (by kernel_rfl) (by kernel_rfl) (by kernel_rfl) Tryz.underlying4 rfl (fun gs => by cases gs <;> rfl) hW' (fun g v h => by cases h) ⟨rfl, fun j hj => by simp at hj⟩ hD

theorem tallyNil_holds : Rows.TallyNilSaid :=
  OpenClaim.holds_of_wide 3 Tryz.f3 rfl rfl rfl rfl rfl rfl rfl ⟨rfl, rfl, rfl, rfl, rfl⟩ rfl rfl rfl rfl rfl (by kernel_rfl) Tryz.func3 (by kernel_rfl)
    (of_decide_eq_true (by kernel_rfl)) (by unfold Func.isWrapper; first | (rw [if_pos (by decide +kernel)]; kernel_rfl) | (rw [if_neg (by decide +kernel)]; exact ⟨rfl, rfl⟩))
    (fun os started H enc _ => tallyNil_lifted os started H enc)

theorem tallyNil_card : Rows.TallyNilCardSaid :=
  Claim7.holds_tied_plain_at .later [] [.data, .data, .data] true (true, "1cbd88afb34b88870015d3cccefdc2e6d67bb6dbc3b043e741cb0f556a7104ea") true
    tallyNil_holds (fun _ h => by cases h) (by kernel_rfl) (fun _ h => by cases h) tallyNil_row_tie rfl ⟨rfl, rfl⟩ (by kernel_rfl) rfl
    (fun f fn hf hfn => by
      obtain rfl : f = 3 := Option.some.inj ((show Tryz.prog.funcNamed Tryz.f3.name = some 3 by kernel_rfl).symm.trans hf) |>.symm
      obtain rfl : fn = Tryz.f3 := (Option.some.inj (Tryz.func3.symm.trans hfn)).symm
      exact ⟨by kernel_rfl, fun j t ht => by
        rw [Tryz.params3] at ht
        simp at ht⟩)
    (by kernel_rfl)
#print axioms tallyNil_card
end Go.Proofs.YtdajbooimahmnaaGreatDoor
