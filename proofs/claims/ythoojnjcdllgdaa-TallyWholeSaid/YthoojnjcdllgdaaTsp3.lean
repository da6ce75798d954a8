/-
  Rows of sums, plainly. No statement stands here.
-/
import Derived.Test.YthoojnjcdllgdaaTpr
set_option linter.all false
namespace Go.Proofs.Ythoojnjcdllgdaa
open Go Rf TallyP
set_option maxRecDepth 100000
set_option maxHeartbeats 4000000

def Mv.wf (m : Mv) : Prop := (Lit.int .i64 m.og).wf = true ∧ (Lit.int .i64 m.to).wf = true ∧ (Lit.int .i64 m.kd).wf = true
def gaG {K : Type} [DecidableEq K] (kf : Mv → K) (ms : List Mv) : List (K × Sm) := ms.foldl (gath kf) []
def spRP (R : List ((Int × Int) × Sm)) : List ((Int × Int) × Sm) := (sortP (keysL R)).map fun k => (k, getS k R)
theorem nm_rows {α : Type} {n : Nat → Prop} {w : Nat} {f : α → List V} (l : List α) (h : ∀ x, ∀ c ∈ f x, Nm n c) : Nm n (.pu w (l.map fun x => .ag (f x)) .u) := .pu _ _ _ (fun v hv => by
  obtain ⟨x, -, rfl⟩ := List.mem_map.1 hv
  exact .ag _ (h x)) (fun k hk => by cases hk)
end Go.Proofs.Ythoojnjcdllgdaa
