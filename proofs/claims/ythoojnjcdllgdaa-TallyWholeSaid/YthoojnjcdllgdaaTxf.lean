/-
  Contracts: lengths that are none. No statement stands here.
-/
import Derived.Test.YthoojnjcdllgdaaTxd
import Derived.Test.YthoojnjcdllgdaaTkn
import Derived.Test.YthoojnjcdllgdaaTmu
import Derived.Test.YthoojnjcdllgdaaCode3
set_option linter.all false
namespace Go.Proofs.Ythoojnjcdllgdaa
open Go Rf TallyP
set_option maxRecDepth 100000
set_option maxHeartbeats 4000000

def rwV (x : Rw2) : V := .ag (c3 x)
theorem sp_rw (len : Int) (ms : List Mv) : (spR (gaI (fun m => fromW len m.t) ms)).map spV = (refR len (evs ms)).map rwV := by
  rw [← rows_same, List.map_map]; rfl
theorem spans8w_den (ms : List Mv) (len : Int) (hl : 0 < len) (hl2 : len ≤ 4503599627370496) (hms : ms.length ≤ 1000) (hn : ∀ m ∈ ms, Nm s0.L m.v) (ht : ∀ m ∈ ms, -1152921504606846976 ≤ m.t ∧ m.t ≤ 1152921504606846976) (s : St) (hx : NoX s) :
    Den gt0 Try.prog 8 [.pu 47 (ms.map Mv.v) .u, .i .i64 len] s (.tu [.pu 3 ((refR len (evs ms)).map rwV) .u, .i .i64 0]) s := by
  have h := spans8_den ms len hl hl2 hms hn ht s hx
  rwa [sp_rw] at h
end Go.Proofs.Ythoojnjcdllgdaa
