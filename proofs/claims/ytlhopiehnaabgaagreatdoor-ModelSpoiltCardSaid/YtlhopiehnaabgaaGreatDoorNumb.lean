/-
  Contracts: the other road's numbers. No statement stands here.
-/
import Derived.Test.YtlhopiehnaabgaaGreatDoorLE
import Derived.Test.YtlhopiehnaabgaaGreatDoorRMay
set_option linter.all false
namespace Go.Proofs.YtlhopiehnaabgaaGreatDoor
open Go Rf
set_option maxRecDepth 100000
set_option maxHeartbeats 2000000

theorem wI (n : Int) : wrapF .i64 n = (n + 9223372036854775808) % 18446744073709551616 - 9223372036854775808 := by
  rw [wrapF_eq]
  simp only [IntKind.wrap, IntKind.bits, IntKind.signed, Bool.true_and, decide_eq_true_eq, ge_iff_le]
  split <;> omega
theorem wU (n : Int) : wrapF .u64 n = n % 18446744073709551616 := by rw [wrapF_eq]; simp [IntKind.wrap, IntKind.bits, IntKind.signed]
end Go.Proofs.YtlhopiehnaabgaaGreatDoor
