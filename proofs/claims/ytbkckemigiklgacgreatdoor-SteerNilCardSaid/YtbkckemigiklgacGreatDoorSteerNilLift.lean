/-
  SteerNil holds: the closed sentence is run, step by step, by the abstract machine in the kernel. No condition beyond the given statement.
-/
import Derived.Test.YtbkckemigiklgacGreatDoorSteerNilDoor
import Derived.Test.YtbkckemigiklgacGreatDoorRfRa
import Derived.Test.YtbkckemigiklgacGreatDoorRows
import Derived.Test.YtbkckemigiklgacGreatDoorCards
import Derived.Test.YtbkckemigiklgacGreatDoorTie
import Derived.WalkKit
import Derived.ProofKit
import Derived.OpenShut
import Derived.LaidMore
import Derived.Stop.Joined
import Derived.SevenTiedAt
import Derived.KernelRfl
set_option linter.all false
namespace Go.Proofs.YtbkckemigiklgacGreatDoor
open Go Rf Go.ChangeShapes Go.WideShapes Go.ChangeAt Go.RowKit
set_option maxRecDepth 100000

theorem steerNil_tabs {W : World} (hL : laidMetH Tryz.prog Rows.steerNilRow.laid W) : GRep gt0 (cx0 W) W.heap s0.L :=
  grep_nil

theorem steerNil_lifted (os : Os) (started : os.Started) (H : Type) (enc : TypeId × Value → H) :
    ReturnsInHanded {} Tryz.checked os 3 .any (fun w args => (Rows.steerNilSpec.pre enc Tryz.prog Tryz.f3 [] false w args ∧ laidMetH Tryz.prog Rows.steerNilRow.laid w) ∧ sizedMet enc Tryz.prog Tryz.f3 (OpenSpec.ofChange Rows.steerNilSpec) false w args)
      (Rows.steerNilSpec.post enc Tryz.prog Tryz.f3 false true false false) := by
  refine returnsInHanded_of_change_and (C := Tryz.checked) (X := fun w _ => laidMetH Tryz.prog Rows.steerNilRow.laid w) (fun _ _ _ hh h => h.of_heap hh) own started steerNil_noInit Tryz.func3 (ChangeSpec.witness_shaped (enc := enc) (C := Tryz.checked) (os := os) (f := 3) (fn := Tryz.f3) (s := Rows.steerNilSpec) (conds := []) (apart := false) (X := fun w _ => laidMetH Tryz.prog Rows.steerNilRow.laid w) false (World.doorLaid Tryz.prog 400 os) #[] 8 rfl (World.shaped_of_RefB (steerNil_sh1 os) (steerNil_sh2 os)) (steerNil_ok os) (steerNil_pre os H enc) (steerNil_sz os H enc) (steerNil_door os _)) ?_
  intro W base args ds gs before hval0 hW _ _ hL _
  have hW' := hW
  obtain ⟨p, q, hA0, hV, rfl, hfz, hnd⟩ := hW
  have hA : DataW.TrodAll enc Tryz.prog W 0 (fun _ => true) true Tryz.f3.params.toList args.toList ds p := hA0
  rw [Tryz.params3] at hA
  obtain ⟨he, rfl, rfl⟩ := trodAll_none hA
  have he' : args = #[] := by simpa using he
  subst he'
  obtain ⟨s', hD⟩ := steerNil_den
  exact law_post steerNil_lo (by kernel_rfl) (by kernel_rfl) Tryz.underlying4 rfl (fun gs => by cases gs <;> rfl) hW' (steerNil_tabs hL) ⟨rfl, fun j hj => by simp at hj⟩ hD

end Go.Proofs.YtbkckemigiklgacGreatDoor
