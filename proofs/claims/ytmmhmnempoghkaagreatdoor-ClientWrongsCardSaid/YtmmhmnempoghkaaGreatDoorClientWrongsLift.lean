/-
  ClientWrongs holds: the closed sentence is run, step by step, by the abstract machine in the kernel. No condition beyond the given statement.
-/
import Derived.Test.YtmmhmnempoghkaaGreatDoorClientWrongsDoor
import Derived.Test.YtmmhmnempoghkaaGreatDoorRfRa
import Derived.Test.YtmmhmnempoghkaaGreatDoorAs
import Derived.Test.YtmmhmnempoghkaaGreatDoorRows
import Derived.Test.YtmmhmnempoghkaaGreatDoorCards
import Derived.Test.YtmmhmnempoghkaaGreatDoorTie
import Derived.WalkKit
import Derived.ProofKit
import Derived.OpenShut
import Derived.LaidMore
import Derived.Stop.Joined
import Derived.SevenTiedAt
import Derived.KernelRfl
set_option linter.all false
namespace Go.Proofs.YtmmhmnempoghkaaGreatDoor
open Go Rf Go.ChangeShapes Go.WideShapes Go.ChangeAt Go.RowKit
set_option maxRecDepth 100000

theorem clientWrongs_tabs {W : World} (hL : laidMetH Tryz.prog Rows.clientWrongsRow.laid W) : GRep gt0 (cx0 W) W.heap s0.L :=
  grep_handle hL (by kernel_rfl) (grep_nil)

theorem clientWrongs_lifted (os : Os) (started : os.Started) (H : Type) (enc : TypeId × Value → H) :
    ReturnsInHanded {} Tryz.checked os 3 .any (fun w args => (Rows.clientWrongsSpec.pre enc Tryz.prog Tryz.f3 [] false w args ∧ laidMetH Tryz.prog Rows.clientWrongsRow.laid w) ∧ sizedMet enc Tryz.prog Tryz.f3 (OpenSpec.ofChange Rows.clientWrongsSpec) false w args)
      (Rows.clientWrongsSpec.post enc Tryz.prog Tryz.f3 false true false false) := by
  refine returnsInHanded_of_change_and (C := Tryz.checked) (X := fun w _ => laidMetH Tryz.prog Rows.clientWrongsRow.laid w) (fun _ _ _ hh h => h.of_heap hh) own started clientWrongs_noInit Tryz.func3 (ChangeSpec.witness_shaped (enc := enc) (C := Tryz.checked) (os := os) (f := 3) (fn := Tryz.f3) (s := Rows.clientWrongsSpec) (conds := []) (apart := false) (X := fun w _ => laidMetH Tryz.prog Rows.clientWrongsRow.laid w) false (World.doorLaid Tryz.prog 400 os) #[] 8 rfl (World.shaped_of_RefB (clientWrongs_sh1 os) (clientWrongs_sh2 os)) (clientWrongs_ok os) (clientWrongs_pre os H enc) (clientWrongs_sz os H enc) (clientWrongs_door os _)) ?_
  intro W base args ds gs before hval0 hW _ _ hL _
  have hW' := hW
  obtain ⟨p, q, hA0, hV, rfl, hfz, hnd⟩ := hW
  have hA : DataW.TrodAll enc Tryz.prog W 0 (fun _ => true) true Tryz.f3.params.toList args.toList ds p := hA0
  rw [Tryz.params3] at hA
  obtain ⟨he, rfl, rfl⟩ := trodAll_none hA
  have he' : args = #[] := by simpa using he
  subst he'
  obtain ⟨s', hD⟩ := clientWrongs_den
  exact law_post clientWrongs_lo (by kernel_rfl) (by kernel_rfl) Tryz.underlying4 rfl (fun gs => by cases gs <;> rfl) hW' (clientWrongs_tabs hL) ⟨rfl, fun j hj => by simp at hj⟩ hD

end Go.Proofs.YtmmhmnempoghkaaGreatDoor
