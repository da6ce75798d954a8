/-
  The seat's ground: the known function's run. No statement stands here.
-/
import Derived.Test.YtklgkdehnaecnaaDoorRfAc
import Derived.Test.YtklgkdehnaecnaaDoorRfTa
import Derived.Test.YtklgkdehnaecnaaDoorRfZd
import Derived.Test.YtklgkdehnaecnaaDoorRows
import Derived.KernelRfl
set_option linter.all false
namespace Go.Proofs.YtklgkdehnaecnaaDoor
open Go Rf
set_option maxRecDepth 100000

def gt0 : Nat → Option V := fun _ => none
theorem gnm0 : GNm gt0 := fun g v h => by cases h
def wfa (f : Nat) : Nat → Nat → Bool := fun _ _ => !(f == 12 || f == 13 || f == 30 || f == 31 || f == 32 || f == 33 || f == 58 || f == 59)
def wfz (f id _ : Nat) : Bool := false
theorem mixed : Tryd.prog.follows .mixedOrders = true := by kernel_rfl
theorem own : ownKnob Tryd.prog.godebug = none := by kernel_rfl
theorem known_pden : PDen gt0 Tryd.prog 7 [] (.b true) := PDen.run (wf := wfz) (kn := kn0) (n := 200000) (d := 9) mixed kn0_ok gnm0 (by kernel_rfl) (by kernel_rfl) (by kernel_rfl)
end Go.Proofs.YtklgkdehnaecnaaDoor
