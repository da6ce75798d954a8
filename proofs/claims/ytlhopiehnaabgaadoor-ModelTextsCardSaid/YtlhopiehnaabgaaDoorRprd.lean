/-
  Contracts: the reader's program, as calls. No statement stands here.
-/
import Derived.Test.YtlhopiehnaabgaaDoorRprc
set_option linter.all false
namespace Go.Proofs.YtlhopiehnaabgaaDoor
open Go Rf
set_option maxRecDepth 100000
set_option maxHeartbeats 2000000

end Go.Proofs.YtlhopiehnaabgaaDoor
