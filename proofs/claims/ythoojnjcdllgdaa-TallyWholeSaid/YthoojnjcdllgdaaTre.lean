/-
  Contracts: the document's events and windows. No statement stands here.
-/
import Derived.Test.YthoojnjcdllgdaaTsp
set_option linter.all false
namespace Go.Proofs.Ythoojnjcdllgdaa
open Go Rf TallyP
set_option maxRecDepth 100000
set_option maxHeartbeats 4000000

def Mv.o (m : Mv) : V := .ag [.i .i64 m.ok, .i .i64 m.t, .i .i64 m.og, m.d 40, .i .i64 m.to, .i .i64 m.kd, m.d 43, .pu 6 m.rl .u, m.d 45]
def evs (ms : List Mv) : List Mv := ms.filter isEv
end Go.Proofs.Ythoojnjcdllgdaa
