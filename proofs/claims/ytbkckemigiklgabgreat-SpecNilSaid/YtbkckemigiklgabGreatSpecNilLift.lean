/-
  SpecNil holds: the closed sentence is run, step by step, by the abstract machine in the kernel. No condition beyond the given statement.
-/
import Derived.Test.YtbkckemigiklgabGreatSpecNilDoor
import Derived.Test.YtbkckemigiklgabGreatRfRa
import Derived.Test.YtbkckemigiklgabGreatRows
import Derived.WalkKit
import Derived.ProofKit
import Derived.OpenShut
import Derived.LaidMore
import Derived.Stop.Joined
import Derived.SevenTiedAt
import Derived.KernelRfl
set_option linter.all false
namespace Go.Proofs.YtbkckemigiklgabGreat
open Go Rf Go.ChangeShapes Go.WideShapes Go.ChangeAt Go.RowKit
set_option maxRecDepth 100000

theorem specNil_lifted (os : Os) (started : os.Started) (H : Type) (enc : TypeId × Value → H) :
    ReturnsInHanded {} Tryz.checked os 3 .any (Rows.specNilSpec.pre6 enc Tryz.prog Tryz.f3 Rows.specNilRow.domain false) (Rows.specNilSpec.post enc Tryz.prog Tryz.f3 false true false false) := by
  refine returnsInHanded_of_change (C := Tryz.checked) own started specNil_noInit Tryz.func3
    (ChangeSpec.witness6 (enc := enc) (C := Tryz.checked) false ⟨#[], #[], []⟩ 8 (by kernel_rfl) (by kernel_rfl) (by kernel_rfl) (by kernel_rfl)) ?_
  intro W base args ds gs before hval0 hW hcnd _
  have hW' := hW
  obtain ⟨p, q, hA0, hV, rfl, hfz, hnd⟩ := hW
  have hA : DataW.TrodAll enc Tryz.prog W 0 (fun _ => true) true Tryz.f3.params.toList args.toList ds p := hA0
  rw [Tryz.params3] at hA
  obtain ⟨he, rfl, rfl⟩ := trodAll_none hA
  have he' : args = #[] := by simpa using he
  subst he'
  obtain ⟨s', hD⟩ := specNil_den
  exact law_post specNil_lo (by kernel_rfl) (by kernel_rfl) Tryz.underlying4 rfl (fun gs => by cases gs <;> rfl) hW' grep_nil ⟨rfl, fun j hj => by simp at hj⟩ hD

end Go.Proofs.YtbkckemigiklgabGreat
