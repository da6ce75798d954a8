/-
  The seat's ground: the known function's run. No statement stands here.
-/
import Derived.Test.YtlcpcgcegpfklaaRfAc
import Derived.Test.YtlcpcgcegpfklaaRfVb
import Derived.Test.YtlcpcgcegpfklaaRfZd
import Derived.Test.YtlcpcgcegpfklaaRows
import Derived.KernelRfl
set_option linter.all false
namespace Go.Proofs.Ytlcpcgcegpfklaa
open Go Rf
set_option maxRecDepth 100000

def gt0 : Nat → Option V := fun _ => none
theorem gnm0 : GNm gt0 := fun g v h => by cases h
def wfa (_ : Nat) : Nat → Nat → Bool := fun _ _ => true
def wfz (f id _ : Nat) : Bool := false
theorem mixed : Try.prog.follows .mixedOrders = true := by kernel_rfl
theorem own : ownKnob Try.prog.godebug = none := by kernel_rfl
theorem known_pden : PDen gt0 Try.prog 10 [] (.b true) := PDen.run (wf := wfz) (kn := kn0) (n := 200000) (d := 9) mixed kn0_ok gnm0 (by kernel_rfl) (by kernel_rfl) (by kernel_rfl)
end Go.Proofs.Ytlcpcgcegpfklaa
