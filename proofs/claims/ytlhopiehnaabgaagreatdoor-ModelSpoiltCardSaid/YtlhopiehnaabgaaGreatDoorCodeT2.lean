/-
  Functions in the intermediate code, printed by a program off the dump; the kernel holds each against the loaded program. No statement stands here.
-/
import Derived.Test.YtlhopiehnaabgaaGreatDoorBase
set_option linter.all false
namespace Go.Proofs.YtlhopiehnaabgaaGreatDoor
open Go Rf
set_option maxRecDepth 100000
noncomputable def f53 : Rf.F := { np := 2, nt := 8, body := C.seq (C.ops [⟨some 4, none, K.a (A.mov (Arg.c (V.ns)))⟩]) (C.seq (C.ops [⟨some 5, none, K.a (A.mov (Arg.t 0))⟩, ⟨some 6, none, K.a (A.mov (Arg.t 1))⟩, ⟨some 7, none, K.call 50 [Arg.t 5, Arg.t 6, Arg.c (V.i (Go.IntKind.i64) 0), Arg.c (V.i (Go.IntKind.i64) (-1))]⟩, ⟨some 4, none, K.a (A.mov (Arg.t 7))⟩]) (C.ret)), res := [Rs.t 4] }
end Go.Proofs.YtlhopiehnaabgaaGreatDoor
