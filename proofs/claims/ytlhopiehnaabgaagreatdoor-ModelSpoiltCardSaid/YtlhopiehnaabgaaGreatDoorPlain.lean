/-
  The plain law: what was read, written again, are the bytes that were read. No statement stands here.
-/
import Derived.Test.YtlhopiehnaabgaaGreatDoorByt
set_option linter.all false
namespace Go.Proofs.YtlhopiehnaabgaaGreatDoor
open Go Rf
set_option maxRecDepth 100000
set_option maxHeartbeats 2000000

end Go.Proofs.YtlhopiehnaabgaaGreatDoor
