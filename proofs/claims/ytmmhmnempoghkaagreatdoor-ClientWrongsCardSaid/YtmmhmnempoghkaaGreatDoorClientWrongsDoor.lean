/-
  ClientWrongs holds: the closed sentence is run, step by step, by the abstract machine in the kernel. No condition beyond the given statement.
-/
import Derived.Test.YtmmhmnempoghkaaGreatDoorClientWrongsRun
import Derived.Test.YtmmhmnempoghkaaGreatDoorRfRa
import Derived.Test.YtmmhmnempoghkaaGreatDoorAs
import Derived.Test.YtmmhmnempoghkaaGreatDoorRows
import Derived.Test.YtmmhmnempoghkaaGreatDoorCards
import Derived.Test.YtmmhmnempoghkaaGreatDoorTie
import Derived.WalkKit
import Derived.ProofKit
import Derived.OpenShut
import Derived.LaidMore
import Derived.Stop.Joined
import Derived.SevenTiedAt
import Derived.KernelRfl
set_option linter.all false
namespace Go.Proofs.YtmmhmnempoghkaaGreatDoor
open Go Rf Go.ChangeShapes Go.WideShapes Go.ChangeAt Go.RowKit
set_option maxRecDepth 100000

theorem own : ownKnob Tryz.prog.godebug = none := by kernel_rfl

theorem clientWrongs_door (os : Os) (args : Array Value) : laidMetH Tryz.prog Rows.clientWrongsRow.laid ((World.doorLaid Tryz.prog 400 os).forCall (fun _ _ => 0) ⟨#[], args, []⟩).memory :=
  laidMetH_of_parts3 (fuel := 8) (laidMet_of_run' 8 (by kernel_rfl) (by kernel_rfl)) (by kernel_rfl) (by kernel_rfl)

theorem clientWrongs_sh1 (os : Os) : ((World.doorLaid Tryz.prog 400 os).forCall (fun _ _ => 0) ⟨#[], #[], []⟩).variablesRefB Tryz.prog = true := by kernel_rfl
theorem clientWrongs_sh2 (os : Os) : (((World.doorLaid Tryz.prog 400 os).forCall (fun _ _ => 0) ⟨#[], #[], []⟩).heap.toList.drop Tryz.prog.globals.size).take ((begin Tryz.prog (fun _ _ => 0) default).world.heap.size - Tryz.prog.globals.size) = (begin Tryz.prog (fun _ _ => 0) default).world.heap.toList.drop Tryz.prog.globals.size := by kernel_rfl
theorem clientWrongs_ok (os : Os) : Input.okWideB Tryz.prog ((World.doorLaid Tryz.prog 400 os).forCall (fun _ _ => 0) ⟨#[], #[], []⟩) 3 ⟨#[], #[], []⟩ = true := by kernel_rfl
theorem clientWrongs_pre (os : Os) (H : Type) (enc : TypeId × Value → H) : Rows.clientWrongsSpec.preB enc Tryz.prog Tryz.f3 [] false ((World.doorLaid Tryz.prog 400 os).forCall (fun _ _ => 0) ⟨#[], #[], []⟩).memory #[] 8 = true := by kernel_rfl
theorem clientWrongs_sz (os : Os) (H : Type) (enc : TypeId × Value → H) : Rows.clientWrongsSpec.sizedB enc Tryz.prog Tryz.f3 false ((World.doorLaid Tryz.prog 400 os).forCall (fun _ _ => 0) ⟨#[], #[], []⟩).memory #[] 8 = true := by kernel_rfl
theorem clientWrongs_noInit : Tryz.prog.inits.idxOf? 3 = none := by kernel_rfl
theorem clientWrongs_lo : laidOutB Tryz.prog = true := by kernel_rfl

end Go.Proofs.YtmmhmnempoghkaaGreatDoor
