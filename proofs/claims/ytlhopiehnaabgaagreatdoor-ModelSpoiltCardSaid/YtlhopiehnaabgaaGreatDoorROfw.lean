/-
  Contracts: bytes read by the other road, whole. No statement stands here.
-/
import Derived.Test.YtlhopiehnaabgaaGreatDoorLE
import Derived.Test.YtlhopiehnaabgaaGreatDoorROf
import Derived.Test.YtlhopiehnaabgaaGreatDoorOfB
set_option linter.all false
namespace Go.Proofs.YtlhopiehnaabgaaGreatDoor
open Go Rf
set_option maxRecDepth 100000
set_option maxHeartbeats 4000000

theorem QI.set {s z : St} {R N : Nat} {v : Int} {pkv : V} {ks : List Kd} {tk : Option Nat} (h : QI s z R N v pkv ks tk) (v' : Int) : QI s (z.put N (some (.c [.i .i64 v', pkv] 0 (some 48)))) R N v' pkv ks tk :=
  ⟨h.w.put h.hN _, by rw [St.get_put_ne _ _ _ _ h.ne]; exact h.r, St.get_put_same _ _ _, h.a.putc h.n _, h.g.put h.n, h.hR, h.hN, h.ne, h.tn⟩

end Go.Proofs.YtlhopiehnaabgaaGreatDoor
