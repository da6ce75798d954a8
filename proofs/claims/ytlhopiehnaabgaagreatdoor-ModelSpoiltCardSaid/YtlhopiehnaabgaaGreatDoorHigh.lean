/-
  Contracts: a number's eight bytes. No statement stands here.
-/
import Derived.Test.YtlhopiehnaabgaaGreatDoorROfw
import Derived.Test.YtlhopiehnaabgaaGreatDoorLD
set_option linter.all false
namespace Go.Proofs.YtlhopiehnaabgaaGreatDoor
open Go Rf
set_option maxRecDepth 100000
set_option maxHeartbeats 4000000

end Go.Proofs.YtlhopiehnaabgaaGreatDoor
