/-
  Contracts: bytes read as a program, with recover. No statement stands here.
-/
import Derived.Test.YtlhopiehnaabgaaGreatDoorMay2
import Derived.Test.YtlhopiehnaabgaaGreatDoorLE
set_option linter.all false
namespace Go.Proofs.YtlhopiehnaabgaaGreatDoor
open Go Rf
set_option maxRecDepth 100000
set_option maxHeartbeats 2000000

theorem NoX.new {s : St} (h : NoX s) {cs : List V} {z : Nat} {t : Option Nat} : NoX (s.new (.c cs z t)) := fun l o hg => by
  by_cases e : l = s.n
  · subst e; rw [St.get_new_same] at hg; cases hg
  · rw [St.get_new_ne _ _ _ e] at hg; exact h l o hg
theorem NoX.put {s : St} (h : NoX s) {j : Nat} {cs : List V} {z : Nat} {t : Option Nat} : NoX (s.put j (some (.c cs z t))) := fun l o hg => by
  by_cases e : l = j
  · subst e; rw [St.get_put_same] at hg; cases hg
  · rw [St.get_put_ne _ _ _ _ e] at hg; exact h l o hg

def wm : Nat → Nat → Nat → Bool := fun _ _ _ => false
noncomputable def c0 (bs : List UInt8) : Cfg := entC Tryz.prog 69 [bsV bs] s0
noncomputable def c1 (bs : List UInt8) : Cfg := thenD gt0 Tryz.prog wm kn0 kn0 22 (c0 bs)
def sR (bs : List UInt8) : St := (((s0.new (.c [.i .i64 0, .ns] 0 (some 48))).new (.c [.i .i64 0] 0 (some 3))).new (.c [.i .i64 0] 0 (some 30))).new (rdO bs 0 (some 136))
noncomputable def c2 (bs : List UInt8) (v : Int) (ks : List Kd) (a : Nat) : Cfg := cNext (c1 bs) (pgV v ks) ((sR bs).put 3 (some (rdO bs a (some 136))))
noncomputable def c3 (bs : List UInt8) (v : Int) (ks : List Kd) (a : Nat) : Cfg := thenD gt0 Tryz.prog wm kn0 kn0 5 (c2 bs v ks a)
def sP (bs : List UInt8) (v : Int) (ks : List Kd) (a : Nat) : St := ((sR bs).put 3 (some (rdO bs a (some 136)))).put 0 (some (.c [.i .i64 v, ksV ks] 0 (some 48)))
section
variable (bs : List UInt8) (v : Int) (ks : List Kd) (a : Nat)
noncomputable def c4 : Cfg := thenD gt0 Tryz.prog wm kn0 kn0 5 (cNext (c3 bs v ks a) (.b true) (sP bs v ks a))
noncomputable def c5 : Cfg := cDrwN gt0 Tryz.prog wm kn0 (c4 bs v ks a)
end
end Go.Proofs.YtlhopiehnaabgaaGreatDoor
