/-
  Functions in the intermediate code, printed by a program off the dump; the kernel holds each against the loaded program. No statement stands here.
-/
import Derived.Test.YtlhopiehnaabgaaDoorBase
set_option linter.all false
namespace Go.Proofs.YtlhopiehnaabgaaDoor
open Go Rf
set_option maxRecDepth 100000
noncomputable def f38 : Rf.F := { np := 2, nt := 8, body := C.seq (C.ops [{ d := some 4, g := none, k := K.a (A.mov (Arg.c (V.ns))) }]) (C.seq (C.ops [{ d := some 5, g := none, k := K.a (A.mov (Arg.t 0)) }, { d := some 6, g := none, k := K.a (A.mov (Arg.t 1)) }, { d := some 7, g := none, k := K.call 72 [Arg.t 5, Arg.t 6, Arg.c (V.i (Go.IntKind.i64) 0), Arg.c (V.i (Go.IntKind.i64) (-1))] }, { d := some 4, g := none, k := K.a (A.mov (Arg.t 7)) }]) (C.ret)), res := [Rs.t 4] }
end Go.Proofs.YtlhopiehnaabgaaDoor
