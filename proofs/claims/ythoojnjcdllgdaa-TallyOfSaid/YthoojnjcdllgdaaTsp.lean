/-
  Contracts: windows. No statement stands here.
-/
import Derived.Test.YthoojnjcdllgdaaTga
import Derived.Test.YthoojnjcdllgdaaShelf
import Derived.Test.YthoojnjcdllgdaaCode
import Derived.Test.YthoojnjcdllgdaaTsort
import Derived.Shelf.SortM.Plain
import Derived.Shelf.SortM.SortNone
import Derived.Shelf.AbstractIn
import Derived.Test.YthoojnjcdllgdaaTsum
set_option linter.all false
namespace Go.Proofs.Ythoojnjcdllgdaa
open Go Rf TallyP
set_option maxRecDepth 100000
set_option maxHeartbeats 4000000

theorem mv_cell {m : Mv} (hn : Nm s0.L m.v) : ∀ c ∈ m.c, Nm s0.L c := by
  cases hn with
  | ag _ h => exact h
theorem mv_e {m : Mv} (hn : Nm s0.L m.v) : Nm s0.L (.ag m.e) := by
  have h := mv_cell hn
  refine .ag _ fun c hc => ?_
  simp only [Mv.e, List.mem_cons, List.not_mem_nil, or_false] at hc
  rcases hc with rfl | rfl | rfl | rfl | rfl | rfl
  · exact .i _ _
  · exact .i _ _
  · exact h _ (by simp [Mv.c])
  · exact .i _ _
  · exact .i _ _
  · exact h _ (by simp [Mv.c])
end Go.Proofs.Ythoojnjcdllgdaa
