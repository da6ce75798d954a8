/-
  Contract: the document's windows. No statement stands here.
-/
import Derived.Test.YthoojnjcdllgdaaTre
import Derived.Test.YthoojnjcdllgdaaBase
set_option linter.all false
namespace Go.Proofs.Ythoojnjcdllgdaa
open Go Rf TallyP
set_option maxRecDepth 100000
set_option maxHeartbeats 4000000

def sA : C → C
  | .seq a _ => a
  | c => c
def sB : C → C
  | .seq _ b => b
  | c => c
abbrev Rw2 := Int × Int × Int
def c3 (x : Rw2) : List V := [.i .i64 x.1, .i .i64 x.2.1, .i .i64 x.2.2]
end Go.Proofs.Ythoojnjcdllgdaa
