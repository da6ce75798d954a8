/-
  Contract: the document's windows: the first row. No statement stands here.
-/
import Derived.Test.YthoojnjcdllgdaaTrt
set_option linter.all false
namespace Go.Proofs.Ythoojnjcdllgdaa
open Go Rf TallyP
set_option maxRecDepth 100000
set_option maxHeartbeats 4000000

theorem app_sn {e : List V} {s : St} {x y : Arg} {v : V} {X n t sz bytes : Nat} {ag : Bool} {cells cs : List V} {ty : Option Nat} (hg : s.get X = some (.c cs 0 ty)) (hx : x.ev e = .sl sz X 0 n none) (hy : y.ev e = v) (hs : srcOf s sz v = some (0, cells)) : aop e s (.app t false ag sz bytes x y) = some (.sl sz X 0 n none, s) := by
  simp [aop, hx, hy, hs, appV, hg]
end Go.Proofs.Ythoojnjcdllgdaa
