/-
  The seat's ground for bytes: what is never written. No statement stands here.
-/
import Derived.Test.YtbeoanbhnlahpaaDoorLE
import Derived.Test.YtbeoanbhnlahpaaDoorSame
set_option linter.all false
namespace Go.Proofs.YtbeoanbhnlahpaaDoor
open Go Rf
def wfa (f : Nat) : Nat → Nat → Bool := fun _ _ => !(f == 37)
end Go.Proofs.YtbeoanbhnlahpaaDoor
