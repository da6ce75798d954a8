/-
  Contracts: a number's eight bytes. No statement stands here.
-/
import Derived.Test.YtlhopiehnaabgaaDoorROfw
import Derived.Test.YtlhopiehnaabgaaDoorLD
set_option linter.all false
namespace Go.Proofs.YtlhopiehnaabgaaDoor
open Go Rf
set_option maxRecDepth 100000
set_option maxHeartbeats 4000000

end Go.Proofs.YtlhopiehnaabgaaDoor
