/-
  The seat's ground: moves as values. No statement stands here.
-/
import Derived.Test.YthoojnjcdllgdaaTmap
import Derived.Test.YthoojnjcdllgdaaLF
import Derived.Test.YthoojnjcdllgdaaRows
import Derived.KernelRfl
set_option linter.all false
namespace Go.Proofs.Ythoojnjcdllgdaa
open Go Rf TallyP
set_option maxRecDepth 100000

def gt0 : Nat → Option V := fun _ => none
theorem gnm0 : GNm gt0 := fun g v h => by cases h
def wfa (f : Nat) : Nat → Nat → Bool := fun _ _ => !(f == 26 || f == 33 || f == 37)
theorem mixed : Try.prog.follows .mixedOrders = true := by kernel_rfl
theorem own : ownKnob Try.prog.godebug = none := by kernel_rfl

structure Mv where
  k : Int
  bs : List V
  rk : Int
  re : Int
  vs : List V
  ok : Int
  t : Int
  og : Int
  to : Int
  kd : Int
  rl : List V
  d : Nat → V
def Mv.c (m : Mv) : List V := [.i .i64 m.k, m.d 1, m.d 2, m.d 3, m.d 4, .pu 1 m.bs .u, m.d 6, m.d 7, m.d 8, m.d 9, m.d 10, m.d 11, m.d 12, m.d 13, m.d 14, m.d 15, m.d 16, m.d 17, m.d 18, .i .i64 m.rk, m.d 20, .i .i64 m.re, m.d 22, .pu 1 m.vs .u, m.d 24, m.d 25, m.d 26, m.d 27, m.d 28, m.d 29, m.d 30, m.d 31, m.d 32, m.d 33, m.d 34, m.d 35, m.d 36, .i .i64 m.ok, .i .i64 m.t, .i .i64 m.og, m.d 40, .i .i64 m.to, .i .i64 m.kd, m.d 43, .pu 6 m.rl .u, m.d 45, m.d 46]
def Mv.v (m : Mv) : V := .ag m.c
def Mv.e (m : Mv) : List V := [.i .i64 m.t, .i .i64 m.og, m.d 40, .i .i64 m.to, .i .i64 m.kd, m.d 43]
end Go.Proofs.Ythoojnjcdllgdaa
