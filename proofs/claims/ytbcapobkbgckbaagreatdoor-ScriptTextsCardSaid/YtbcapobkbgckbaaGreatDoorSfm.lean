/-
  Entries; the forms of their kinds. No statement stands here.
-/
import Derived.Test.YtbcapobkbgckbaaGreatDoorLF
set_option linter.all false
namespace Go.Proofs.YtbcapobkbgckbaaGreatDoor
open Go Rf
set_option maxRecDepth 100000

structure Ey where
  k : Int
  a : Int
  n : Int
  b : List UInt8
structure Fm where
  w : List UInt8
  a : Bool
  n : Bool
  b : Bool
  l : Int
def fm1 : Fm := ⟨[111, 112, 101, 110], true, false, false, 0⟩
def fm2 : Fm := ⟨[98, 121, 116, 101, 115], true, false, true, 0⟩
def fm3 : Fm := ⟨[116, 97, 107, 101], true, true, false, 0⟩
def fm4 : Fm := ⟨[99, 108, 111, 115, 101], true, false, false, 0⟩
def fm5 : Fm := ⟨[99, 108, 111, 99, 107], false, true, false, -9223372036854775808⟩
def fm6 : Fm := ⟨[114, 117, 110], true, false, false, 0⟩
def fm7 : Fm := ⟨[100, 101, 108, 105, 118, 101, 114], true, false, false, 0⟩
def fm8 : Fm := ⟨[115, 101, 101], true, false, false, 0⟩
def fm9 : Fm := ⟨[99, 111, 109, 109, 105, 116], false, true, false, 0⟩
def fmS (k : Int) : Option Fm := if k = 1 then some fm1 else if k = 2 then some fm2 else if k = 3 then some fm3 else if k = 4 then some fm4 else if k = 5 then some fm5 else if k = 6 then some fm6 else if k = 7 then some fm7 else if k = 8 then some fm8 else if k = 9 then some fm9 else none
theorem fmS_cases (k : Int) : (k < 1 ∨ 9 < k) ∧ fmS k = none ∨ k = 1 ∧ fmS k = some fm1 ∨ k = 2 ∧ fmS k = some fm2 ∨ k = 3 ∧ fmS k = some fm3 ∨ k = 4 ∧ fmS k = some fm4 ∨ k = 5 ∧ fmS k = some fm5 ∨ k = 6 ∧ fmS k = some fm6 ∨ k = 7 ∧ fmS k = some fm7 ∨ k = 8 ∧ fmS k = some fm8 ∨ k = 9 ∧ fmS k = some fm9 := by
  by_cases h : k < 1 ∨ 9 < k
  · refine .inl ⟨h, ?_⟩
    unfold fmS
    repeat (first | rw [if_neg (by omega)])
  · have : k = 1 ∨ k = 2 ∨ k = 3 ∨ k = 4 ∨ k = 5 ∨ k = 6 ∨ k = 7 ∨ k = 8 ∨ k = 9 := by omega
    rcases this with rfl | rfl | rfl | rfl | rfl | rfl | rfl | rfl | rfl <;> simp [fmS]
end Go.Proofs.YtbcapobkbgckbaaGreatDoor
