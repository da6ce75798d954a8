/-
  ClientWrongs holds: the closed sentence is run, step by step, by the abstract machine in the kernel. No condition beyond the given statement.
-/
import Derived.Test.YtmmhmnempoghkaaGreatDoorClientWrongsFZ
import Derived.Test.YtmmhmnempoghkaaGreatDoorRfRa
import Derived.Test.YtmmhmnempoghkaaGreatDoorAs
import Derived.Test.YtmmhmnempoghkaaGreatDoorRows
import Derived.Test.YtmmhmnempoghkaaGreatDoorCards
import Derived.Test.YtmmhmnempoghkaaGreatDoorTie
import Derived.WalkKit
import Derived.ProofKit
import Derived.OpenShut
import Derived.LaidMore
import Derived.Stop.Joined
import Derived.SevenTiedAt
import Derived.KernelRfl
set_option linter.all false
namespace Go.Proofs.YtmmhmnempoghkaaGreatDoor
open Go Rf Go.ChangeShapes Go.WideShapes Go.ChangeAt Go.RowKit
set_option maxRecDepth 100000


noncomputable def kn : Cl := orCl (knP 5 callsL) (orCl (knL [(7, .b true)]) kb)
theorem kn_ok : ClOk gt0 Tryz.prog kn := orCl_ok (knP_ok (by kernel_rfl) callsL_ok) (orCl_ok (knL_ok1 (by kernel_rfl) known_pden) kb_ok)

theorem den_of {f : Nat} {args : List V} {s : St} {v : V} {n d : Nat} (h : (callA gt0 Tryz.prog wfz kn n d f args s).map (·.1) = some v) : ∃ s', Den gt0 Tryz.prog f args s v s' := by
  simp only [Option.map_eq_some_iff] at h
  obtain ⟨⟨v', s'⟩, h1, h2⟩ := h
  simp only at h2
  subst h2
  exact ⟨s', (callA_ok mixed kn_ok n d _ _ _ _ _ h1).2⟩

/-! ### the run -/
theorem clientWrongs_run : (callA gt0 Tryz.prog wfz kn 200000 12 3 [] s0).map (·.1) = some (.b true) := by kernel_rfl
theorem clientWrongs_den : ∃ s', Den gt0 Tryz.prog 3 [] s0 (.b true) s' := den_of clientWrongs_run

end Go.Proofs.YtmmhmnempoghkaaGreatDoor
