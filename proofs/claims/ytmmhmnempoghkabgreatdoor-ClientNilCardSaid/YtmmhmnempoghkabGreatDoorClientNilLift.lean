/-
  ClientNil holds: the closed sentence is run, step by step, by the abstract machine in the kernel. No condition beyond the given statement.
-/
import Derived.Test.YtmmhmnempoghkabGreatDoorClientNilDoor
import Derived.Test.YtmmhmnempoghkabGreatDoorRfRa
import Derived.Test.YtmmhmnempoghkabGreatDoorAs
import Derived.Test.YtmmhmnempoghkabGreatDoorRows
import Derived.Test.YtmmhmnempoghkabGreatDoorCards
import Derived.Test.YtmmhmnempoghkabGreatDoorTie
import Derived.WalkKit
import Derived.ProofKit
import Derived.OpenShut
import Derived.LaidMore
import Derived.Stop.Joined
import Derived.SevenTiedAt
import Derived.KernelRfl
set_option linter.all false
namespace Go.Proofs.YtmmhmnempoghkabGreatDoor
open Go Rf Go.ChangeShapes Go.WideShapes Go.ChangeAt Go.RowKit
set_option maxRecDepth 100000

theorem clientNil_tabs {W : World} (hL : laidMetH Tryz.prog Rows.clientNilRow.laid W) : GRep gt0 (cx0 W) W.heap s0.L :=
  grep_handle hL (by kernel_rfl) (grep_nil)

theorem clientNil_lifted (os : Os) (started : os.Started) (H : Type) (enc : TypeId × Value → H) :
    ReturnsInHanded {} Tryz.checked os 3 .any (fun w args => (Rows.clientNilSpec.pre enc Tryz.prog Tryz.f3 [] false w args ∧ laidMetH Tryz.prog Rows.clientNilRow.laid w) ∧ sizedMet enc Tryz.prog Tryz.f3 (OpenSpec.ofChange Rows.clientNilSpec) false w args)
      (Rows.clientNilSpec.post enc Tryz.prog Tryz.f3 false true false false) := by
  refine returnsInHanded_of_change_and (C := Tryz.checked) (X := fun w _ => laidMetH Tryz.prog Rows.clientNilRow.laid w) (fun _ _ _ hh h => h.of_heap hh) own started clientNil_noInit Tryz.func3 (ChangeSpec.witness_shaped (enc := enc) (C := Tryz.checked) (os := os) (f := 3) (fn := Tryz.f3) (s := Rows.clientNilSpec) (conds := []) (apart := false) (X := fun w _ => laidMetH Tryz.prog Rows.clientNilRow.laid w) false (World.doorLaid Tryz.prog 400 os) #[] 8 rfl (World.shaped_of_RefB (clientNil_sh1 os) (clientNil_sh2 os)) (clientNil_ok os) (clientNil_pre os H enc) (clientNil_sz os H enc) (clientNil_door os _)) ?_
  intro W base args ds gs before hval0 hW _ _ hL _
  have hW' := hW
  obtain ⟨p, q, hA0, hV, rfl, hfz, hnd⟩ := hW
  have hA : DataW.TrodAll enc Tryz.prog W 0 (fun _ => true) true Tryz.f3.params.toList args.toList ds p := hA0
  rw [Tryz.params3] at hA
  obtain ⟨he, rfl, rfl⟩ := trodAll_none hA
  have he' : args = #[] := by simpa using he
  subst he'
  obtain ⟨s', hD⟩ := clientNil_den
  exact law_post clientNil_lo (by kernel_rfl) (by kernel_rfl) Tryz.underlying4 rfl (fun gs => by cases gs <;> rfl) hW' (clientNil_tabs hL) ⟨rfl, fun j hj => by simp at hj⟩ hD

end Go.Proofs.YtmmhmnempoghkabGreatDoor
