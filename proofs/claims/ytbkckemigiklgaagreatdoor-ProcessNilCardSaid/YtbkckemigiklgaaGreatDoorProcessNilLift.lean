/-
  ProcessNil holds: the closed sentence is run, step by step, by the abstract machine in the kernel. No condition beyond the given statement.
-/
import Derived.Test.YtbkckemigiklgaaGreatDoorProcessNilDoor
import Derived.Test.YtbkckemigiklgaaGreatDoorRfRa
import Derived.Test.YtbkckemigiklgaaGreatDoorRows
import Derived.Test.YtbkckemigiklgaaGreatDoorCards
import Derived.Test.YtbkckemigiklgaaGreatDoorTie
import Derived.WalkKit
import Derived.ProofKit
import Derived.OpenShut
import Derived.LaidMore
import Derived.Stop.Joined
import Derived.SevenTiedAt
import Derived.KernelRfl
set_option linter.all false
namespace Go.Proofs.YtbkckemigiklgaaGreatDoor
open Go Rf Go.ChangeShapes Go.WideShapes Go.ChangeAt Go.RowKit
set_option maxRecDepth 100000

theorem processNil_tabs {W : World} (hL : laidMetH Tryz.prog Rows.processNilRow.laid W) : GRep gt0 (cx0 W) W.heap s0.L :=
  grep_nil

theorem processNil_lifted (os : Os) (started : os.Started) (H : Type) (enc : TypeId × Value → H) :
    ReturnsInHanded {} Tryz.checked os 3 .any (fun w args => (Rows.processNilSpec.pre enc Tryz.prog Tryz.f3 [] false w args ∧ laidMetH Tryz.prog Rows.processNilRow.laid w) ∧ sizedMet enc Tryz.prog Tryz.f3 (OpenSpec.ofChange Rows.processNilSpec) false w args)
      (Rows.processNilSpec.post enc Tryz.prog Tryz.f3 false true false false) := by
  refine returnsInHanded_of_change_and (C := Tryz.checked) (X := fun w _ => laidMetH Tryz.prog Rows.processNilRow.laid w) (fun _ _ _ hh h => h.of_heap hh) own started processNil_noInit Tryz.func3 (ChangeSpec.witness_shaped (enc := enc) (C := Tryz.checked) (os := os) (f := 3) (fn := Tryz.f3) (s := Rows.processNilSpec) (conds := []) (apart := false) (X := fun w _ => laidMetH Tryz.prog Rows.processNilRow.laid w) false (World.doorLaid Tryz.prog 400 os) #[] 8 rfl (World.shaped_of_RefB (processNil_sh1 os) (processNil_sh2 os)) (processNil_ok os) (processNil_pre os H enc) (processNil_sz os H enc) (processNil_door os _)) ?_
  intro W base args ds gs before hval0 hW _ _ hL _
  have hW' := hW
  obtain ⟨p, q, hA0, hV, rfl, hfz, hnd⟩ := hW
  have hA : DataW.TrodAll enc Tryz.prog W 0 (fun _ => true) true Tryz.f3.params.toList args.toList ds p := hA0
  rw [Tryz.params3] at hA
  obtain ⟨he, rfl, rfl⟩ := trodAll_none hA
  have he' : args = #[] := by simpa using he
  subst he'
  obtain ⟨s', hD⟩ := processNil_den
  exact law_post processNil_lo (by kernel_rfl) (by kernel_rfl) Tryz.underlying4 rfl (fun gs => by cases gs <;> rfl) hW' (processNil_tabs hL) ⟨rfl, fun j hj => by simp at hj⟩ hD

end Go.Proofs.YtbkckemigiklgaaGreatDoor
