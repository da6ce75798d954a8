/-
  ClientNil holds: the closed sentence is run, step by step, by the abstract machine in the kernel. No condition beyond the given statement.
-/
import Derived.Test.YtmmhmnempoghkabGreatDoorClientNilRun
import Derived.Test.YtmmhmnempoghkabGreatDoorRfRa
import Derived.Test.YtmmhmnempoghkabGreatDoorAs
import Derived.Test.YtmmhmnempoghkabGreatDoorRows
import Derived.Test.YtmmhmnempoghkabGreatDoorCards
import Derived.Test.YtmmhmnempoghkabGreatDoorTie
import Derived.WalkKit
import Derived.ProofKit
import Derived.OpenShut
import Derived.LaidMore
import Derived.Stop.Joined
import Derived.SevenTiedAt
import Derived.KernelRfl
set_option linter.all false
namespace Go.Proofs.YtmmhmnempoghkabGreatDoor
open Go Rf Go.ChangeShapes Go.WideShapes Go.ChangeAt Go.RowKit
set_option maxRecDepth 100000

theorem own : ownKnob Tryz.prog.godebug = none := by kernel_rfl

theorem clientNil_door (os : Os) (args : Array Value) : laidMetH Tryz.prog Rows.clientNilRow.laid ((World.doorLaid Tryz.prog 400 os).forCall (fun _ _ => 0) ⟨#[], args, []⟩).memory :=
  laidMetH_of_parts3 (fuel := 8) (laidMet_of_run' 8 (by kernel_rfl) (by kernel_rfl)) (by kernel_rfl) (by kernel_rfl)

theorem clientNil_sh1 (os : Os) : ((World.doorLaid Tryz.prog 400 os).forCall (fun _ _ => 0) ⟨#[], #[], []⟩).variablesRefB Tryz.prog = true := by kernel_rfl
theorem clientNil_sh2 (os : Os) : (((World.doorLaid Tryz.prog 400 os).forCall (fun _ _ => 0) ⟨#[], #[], []⟩).heap.toList.drop Tryz.prog.globals.size).take ((begin Tryz.prog (fun _ _ => 0) default).world.heap.size - Tryz.prog.globals.size) = (begin Tryz.prog (fun _ _ => 0) default).world.heap.toList.drop Tryz.prog.globals.size := by kernel_rfl
theorem clientNil_ok (os : Os) : Input.okWideB Tryz.prog ((World.doorLaid Tryz.prog 400 os).forCall (fun _ _ => 0) ⟨#[], #[], []⟩) 3 ⟨#[], #[], []⟩ = true := by kernel_rfl
theorem clientNil_pre (os : Os) (H : Type) (enc : TypeId × Value → H) : Rows.clientNilSpec.preB enc Tryz.prog Tryz.f3 [] false ((World.doorLaid Tryz.prog 400 os).forCall (fun _ _ => 0) ⟨#[], #[], []⟩).memory #[] 8 = true := by kernel_rfl
theorem clientNil_sz (os : Os) (H : Type) (enc : TypeId × Value → H) : Rows.clientNilSpec.sizedB enc Tryz.prog Tryz.f3 false ((World.doorLaid Tryz.prog 400 os).forCall (fun _ _ => 0) ⟨#[], #[], []⟩).memory #[] 8 = true := by kernel_rfl
theorem clientNil_noInit : Tryz.prog.inits.idxOf? 3 = none := by kernel_rfl
theorem clientNil_lo : laidOutB Tryz.prog = true := by kernel_rfl

end Go.Proofs.YtmmhmnempoghkabGreatDoor
