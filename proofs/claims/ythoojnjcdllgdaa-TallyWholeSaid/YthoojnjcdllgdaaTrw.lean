/-
  Contract: the document's windows: one event counted. No statement stands here.
-/
import Derived.Test.YthoojnjcdllgdaaTrs
set_option linter.all false
namespace Go.Proofs.Ythoojnjcdllgdaa
open Go Rf TallyP
set_option maxRecDepth 100000
set_option maxHeartbeats 4000000

def incS (n : Nat) (o : Option (Int × Int)) : Int × Int := (wrapF .i64 ((o.getD (0, 0)).1 + 1), wrapF .i64 ((o.getD (0, 0)).2 + n))
end Go.Proofs.Ythoojnjcdllgdaa
