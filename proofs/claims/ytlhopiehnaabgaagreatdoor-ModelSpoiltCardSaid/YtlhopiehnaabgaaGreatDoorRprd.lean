/-
  Contracts: the reader's program, as calls. No statement stands here.
-/
import Derived.Test.YtlhopiehnaabgaaGreatDoorRprc
set_option linter.all false
namespace Go.Proofs.YtlhopiehnaabgaaGreatDoor
open Go Rf
set_option maxRecDepth 100000
set_option maxHeartbeats 2000000

end Go.Proofs.YtlhopiehnaabgaaGreatDoor
