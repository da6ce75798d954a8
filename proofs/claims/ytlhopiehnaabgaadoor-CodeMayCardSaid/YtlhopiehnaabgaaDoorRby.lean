/-
  Contracts: a model's bytes. No statement stands here.
-/
import Derived.Test.YtlhopiehnaabgaaDoorLE
import Derived.Test.YtlhopiehnaabgaaDoorOrd
set_option linter.all false
namespace Go.Proofs.YtlhopiehnaabgaaDoor
open Go Rf
set_option maxRecDepth 100000
set_option maxHeartbeats 4000000

def enc8 (n : Int) : List UInt8 := be8 (n % 18446744073709551616).toNat
theorem enc8_len (n : Int) : (enc8 n).length = 8 := rfl
end Go.Proofs.YtlhopiehnaabgaaDoor
