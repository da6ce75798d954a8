/-
  The windows' rows, plainly: both sums come to the same. No statement stands here.
-/
import Derived.Test.YthoojnjcdllgdaaTru
import Derived.Test.YthoojnjcdllgdaaLF
import Derived.Test.YthoojnjcdllgdaaTsq
set_option linter.all false
namespace Go.Proofs.Ythoojnjcdllgdaa
open Go Rf TallyP
set_option maxRecDepth 100000
set_option maxHeartbeats 4000000

theorem sortI_ok (l : List Int) (h : l.Nodup) : (sortI l).Pairwise (fun a b => ltI a b = true) ∧ ∀ x, x ∈ sortI l ↔ x ∈ l := by
  have hp : (sortI l).Perm l := List.mergeSort_perm l _
  have h1 : (sortI l).Pairwise (fun a b => decide (a ≤ b) = true) := List.pairwise_mergeSort (fun a b c h1 h2 => by simp at *; omega) (fun a b => by simp; omega) l
  have h2 : (sortI l).Nodup := hp.nodup_iff.2 h
  exact ⟨(List.Pairwise.and h1 h2).imp fun {a b} h => by
    have h3 : a ≤ b := by simpa using h.1
    have h4 : a ≠ b := h.2
    simp [ltI]; omega, fun x => hp.mem_iff⟩
end Go.Proofs.Ythoojnjcdllgdaa
