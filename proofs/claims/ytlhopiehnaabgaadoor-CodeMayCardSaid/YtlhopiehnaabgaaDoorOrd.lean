/-
  Contracts: may an event stand? by both roads. No statement stands here.
-/
import Derived.Test.YtlhopiehnaabgaaDoorLE
import Derived.Test.YtlhopiehnaabgaaDoorCodeM
import Derived.Test.YtlhopiehnaabgaaDoorPlain
set_option linter.all false
namespace Go.Proofs.YtlhopiehnaabgaaDoor
open Go Rf
set_option maxRecDepth 100000
set_option maxHeartbeats 2000000

end Go.Proofs.YtlhopiehnaabgaaDoor
