/-
  Contracts: the other road's numbers. No statement stands here.
-/
import Derived.Test.YtlhopiehnaabgaaDoorLE
import Derived.Test.YtlhopiehnaabgaaDoorRMay
set_option linter.all false
namespace Go.Proofs.YtlhopiehnaabgaaDoor
open Go Rf
set_option maxRecDepth 100000
set_option maxHeartbeats 2000000

def accU (n : Nat) (x : UInt8) : Nat := (n * 256 + x.toNat) % 18446744073709551616
def numU (l : List UInt8) : Nat := l.foldl accU 0
theorem accU_lt (n : Nat) (x : UInt8) : accU n x < 18446744073709551616 := Nat.mod_lt _ (by decide)
theorem numU_lt (l : List UInt8) : numU l < 18446744073709551616 := by
  have : ∀ (l : List UInt8) (n : Nat), n < 18446744073709551616 → l.foldl accU n < 18446744073709551616 := fun l => by
    induction l with
    | nil => intro n hn; exact hn
    | cons x l ih => intro n hn; exact ih _ (accU_lt _ _)
  exact this l 0 (by decide)
theorem wI (n : Int) : wrapF .i64 n = (n + 9223372036854775808) % 18446744073709551616 - 9223372036854775808 := by
  rw [wrapF_eq]
  simp only [IntKind.wrap, IntKind.bits, IntKind.signed, Bool.true_and, decide_eq_true_eq, ge_iff_le]
  split <;> omega
theorem wU (n : Int) : wrapF .u64 n = n % 18446744073709551616 := by rw [wrapF_eq]; simp [IntKind.wrap, IntKind.bits, IntKind.signed]
theorem acc_eq (n : Nat) (hn : n < 18446744073709551616) (x : UInt8) : acc8 (wrapF .i64 (n : Nat)) x = wrapF .i64 (accU n x : Nat) := by
  have hx := x.toNat_lt
  have h1 : (BitVec.ofInt 64 (wrapF .i64 (wrapF .i64 (n : Nat) * 2 ^ 8))).toNat = (n % 72057594037927936) <<< 8 := by
    have e1 : ((2 ^ 64 : Nat) : Int) = 18446744073709551616 := by decide
    have e2 : (2 : Int) ^ 8 = 256 := by decide
    have e3 : (2 : Nat) ^ 8 = 256 := by decide
    rw [BitVec.toNat_ofInt, wI, wI, Nat.shiftLeft_eq, e1, e2, e3]
    omega
  have h2 : (BitVec.ofInt 64 (wrapF .i64 (x.toNat : Nat))).toNat = x.toNat := by
    have e1 : ((2 ^ 64 : Nat) : Int) = 18446744073709551616 := by decide
    rw [BitVec.toNat_ofInt, wI, e1]
    omega
  unfold acc8
  rw [BitVec.toNat_or, h1, h2, ← Nat.shiftLeft_add_eq_or_of_lt (by omega), Nat.shiftLeft_eq]
  congr 1
  unfold accU
  omega
theorem numb_eq (l : List UInt8) : numb l = wrapF .i64 (numU l : Nat) := by
  have : ∀ (l : List UInt8) (n : Nat), n < 18446744073709551616 → l.foldl acc8 (wrapF .i64 (n : Nat)) = wrapF .i64 (l.foldl accU n : Nat) := fun l => by
    induction l with
    | nil => intro n hn; rfl
    | cons x l ih =>
      intro n hn
      show l.foldl acc8 (acc8 _ x) = _
      rw [acc_eq n hn, ih _ (accU_lt _ _)]
      rfl
  exact this l 0 (by decide)

end Go.Proofs.YtlhopiehnaabgaaDoor
