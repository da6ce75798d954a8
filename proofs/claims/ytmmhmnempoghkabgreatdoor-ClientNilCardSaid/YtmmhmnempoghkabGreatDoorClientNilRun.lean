/-
  ClientNil holds: the closed sentence is run, step by step, by the abstract machine in the kernel. No condition beyond the given statement.
-/
import Derived.Test.YtmmhmnempoghkabGreatDoorClientNilKZ
import Derived.Test.YtmmhmnempoghkabGreatDoorRfRa
import Derived.Test.YtmmhmnempoghkabGreatDoorAs
import Derived.Test.YtmmhmnempoghkabGreatDoorRows
import Derived.Test.YtmmhmnempoghkabGreatDoorCards
import Derived.Test.YtmmhmnempoghkabGreatDoorTie
import Derived.WalkKit
import Derived.ProofKit
import Derived.OpenShut
import Derived.LaidMore
import Derived.Stop.Joined
import Derived.SevenTiedAt
import Derived.KernelRfl
set_option linter.all false
namespace Go.Proofs.YtmmhmnempoghkabGreatDoor
open Go Rf Go.ChangeShapes Go.WideShapes Go.ChangeAt Go.RowKit
set_option maxRecDepth 100000


noncomputable def kn : Cl := orCl (knL [(23, .b true)]) kb
theorem kn_ok : ClOk gt0 Tryz.prog kn := orCl_ok (knL_ok1 (by kernel_rfl) known_pden) kb_ok

theorem den_of {f : Nat} {args : List V} {s : St} {v : V} {n d : Nat} (h : (callA gt0 Tryz.prog wfz kn n d f args s).map (·.1) = some v) : ∃ s', Den gt0 Tryz.prog f args s v s' := by
  simp only [Option.map_eq_some_iff] at h
  obtain ⟨⟨v', s'⟩, h1, h2⟩ := h
  simp only at h2
  subst h2
  exact ⟨s', (callA_ok mixed kn_ok n d _ _ _ _ _ h1).2⟩

/-! ### the run -/
theorem clientNil_run : (callA gt0 Tryz.prog wfz kn 200000 12 3 [] s0).map (·.1) = some (.b true) := by kernel_rfl
theorem clientNil_den : ∃ s', Den gt0 Tryz.prog 3 [] s0 (.b true) s' := den_of clientNil_run

end Go.Proofs.YtmmhmnempoghkabGreatDoor
