/-
  ScriptNil holds: the closed sentence is run, step by step, by the abstract machine in the kernel. No condition beyond the given statement.
-/
import Derived.Test.YtdajbooimahmnabGreatDoorRfZc
import Derived.Test.YtdajbooimahmnabGreatDoorRfRa
import Derived.Test.YtdajbooimahmnabGreatDoorRows
import Derived.Test.YtdajbooimahmnabGreatDoorCards
import Derived.Test.YtdajbooimahmnabGreatDoorTie
import Derived.WalkKit
import Derived.ProofKit
import Derived.OpenShut
import Derived.LaidMore
import Derived.Stop.Joined
import Derived.SevenTiedAt
import Derived.KernelRfl
set_option linter.all false
namespace Go.Proofs.YtdajbooimahmnabGreatDoor
open Go Rf Go.ChangeShapes Go.WideShapes Go.ChangeAt Go.RowKit
set_option maxRecDepth 100000

def zs0 : List Int := [0, 1, 56, 2, 57, 49, 28, 3, 61, 58, 42, 50, 38, 29, 17, 4, 62, 47, 59, 36, 45, 43, 51, 22, 53, 39, 33, 30, 24, 18, 12, 5, 63, 55, 48, 27, 60, 41, 37, 16, 46, 35, 44, 21, 52, 32, 23, 11, 54, 26, 40, 15, 34, 20, 31, 10, 25, 14, 19, 9, 13, 8, 7, 6]
def zs1 : List Int := [0, 1, 28, 2, 29, 14, 24, 3, 30, 22, 20, 15, 25, 17, 4, 8, 31, 27, 13, 23, 21, 19, 16, 7, 26, 12, 18, 6, 11, 5, 10, 9]
def zs2 : List Int := [1, 10, 100, 1000, 10000, 100000, 1000000, 10000000, 100000000, 1000000000, 10000000000, 100000000000, 1000000000000, 10000000000000, 100000000000000, 1000000000000000, 10000000000000000, 100000000000000000, 1000000000000000000, 10000000000000000000]
def gt0 : Nat → Option V := gtL [(2, tabV .u8 zs0), (1, tabV .u8 zs1), (0, tabV .u64 zs2)]
def wfz (f id _ : Nat) : Bool := false
theorem mixed : Tryz.prog.follows .mixedOrders = true := by kernel_rfl

def kn : Cl := kn0
theorem kn_ok : ClOk gt0 Tryz.prog kn := kn0_ok

theorem den_of {f : Nat} {args : List V} {s : St} {v : V} {n d : Nat} (h : (callA gt0 Tryz.prog wfz kn n d f args s).map (·.1) = some v) : ∃ s', Den gt0 Tryz.prog f args s v s' := by
  simp only [Option.map_eq_some_iff] at h
  obtain ⟨⟨v', s'⟩, h1, h2⟩ := h
  simp only at h2
  subst h2
  exact ⟨s', (callA_ok mixed kn_ok n d _ _ _ _ _ h1).2⟩

/-! ### the run -/
theorem scriptNil_run : (callA gt0 Tryz.prog wfz kn 200000 12 3 [] s0).map (·.1) = some (.b true) := by kernel_rfl
theorem scriptNil_den : ∃ s', Den gt0 Tryz.prog 3 [] s0 (.b true) s' := den_of scriptNil_run

end Go.Proofs.YtdajbooimahmnabGreatDoor
