/-
  The library's functions at this program, in this layer's words. No statement stands here.
-/
import Derived.Test.YtlhopiehnaabgaaDoorShelf
import Derived.Test.YtlhopiehnaabgaaDoorBld
import Derived.Test.YtlhopiehnaabgaaDoorLE
set_option linter.all false
namespace Go.Proofs.YtlhopiehnaabgaaDoor
open Go Rf
set_option maxRecDepth 100000
set_option maxHeartbeats 4000000

def gt1 : Nat → Option V := gtL [(2, tabV .u64 Lib.pow10Tab), (0, .ifc 185 .bad), (1, .ifc 185 .bad)]
theorem tab_nm {L : Nat → Prop} (k : Go.IntKind) (zs : List Int) : Nm L (tabV k zs) := .ag _ fun x hx => by
  obtain ⟨z, -, rfl⟩ := List.mem_map.1 hx; exact .i _ _
theorem gnm1 : GNm gt1 := fun g v h => by
  unfold gt1 gtL at h
  split at h
  · cases h; exact tab_nm _ _
  · unfold gtL at h
    split at h
    · cases h; exact .ifc _ _ .bad
    · unfold gtL at h
      split at h
      · cases h; exact .ifc _ _ .bad
      · cases h
theorem up0 {P : Program} {gt : Nat → Option V} {f : FuncId} {args : List V} {s s' : St} {v : V} (h : Den gt0 P f args s v s') : Den gt P f args s v s' :=
  fun cx w xs R _ A => h cx w xs R (fun _ _ h => by cases h) A
theorem pup0 {P : Program} {gt : Nat → Option V} {f : FuncId} {args : List V} {v : V} (h : PDen gt0 P f args v) : PDen gt P f args v := fun s => up0 (h s)
theorem lays138_221 : Lays.n138 Tryd.prog Tryd.lays221_ren := { mixed := Tryd.lays221.mixed, f138 := Tryd.lays221.f138, f143 := Tryd.lays221.f143, f195 := Tryd.lays221.f195, f217 := Tryd.lays221.f217, f218 := Tryd.lays221.f218, f219 := Tryd.lays221.f219, f224 := Tryd.lays221.f224, f225 := Tryd.lays221.f225, f266 := Tryd.lays221.f266, f267 := Tryd.lays221.f267, f314 := Tryd.lays221.f314, t0 := Tryd.lays221.t0, a0 := Tryd.lays221.a0, z0 := Tryd.lays221.z0, v0 := Tryd.lays221.v0, t3 := Tryd.lays221.t3, a3 := Tryd.lays221.a3, z3 := Tryd.lays221.z3, v3 := Tryd.lays221.v3, t4 := Tryd.lays221.t4, a4 := Tryd.lays221.a4, z4 := Tryd.lays221.z4, v4 := Tryd.lays221.v4, t5 := Tryd.lays221.t5, a5 := Tryd.lays221.a5, z5 := Tryd.lays221.z5, v5 := Tryd.lays221.v5, t9 := Tryd.lays221.t9, a9 := Tryd.lays221.a9, z9 := Tryd.lays221.z9, v9 := Tryd.lays221.v9, t46 := Tryd.lays221.t46, a46 := Tryd.lays221.a46, z46 := Tryd.lays221.z46, v46 := Tryd.lays221.v46, t51 := Tryd.lays221.t51, a51 := Tryd.lays221.a51, z51 := Tryd.lays221.z51, v51 := Tryd.lays221.v51, t146 := Tryd.lays221.t146, a146 := Tryd.lays221.a146, z146 := Tryd.lays221.z146, v146 := Tryd.lays221.v146, g1 := Tryd.lays221.g1 }
theorem lays143_221 : Lays.n143 Tryd.prog Tryd.lays221_ren := { mixed := Tryd.lays221.mixed, f143 := Tryd.lays221.f143, f217 := Tryd.lays221.f217, f219 := Tryd.lays221.f219, f224 := Tryd.lays221.f224, f225 := Tryd.lays221.f225, f266 := Tryd.lays221.f266, f267 := Tryd.lays221.f267, f314 := Tryd.lays221.f314, t3 := Tryd.lays221.t3, a3 := Tryd.lays221.a3, z3 := Tryd.lays221.z3, v3 := Tryd.lays221.v3, t4 := Tryd.lays221.t4, a4 := Tryd.lays221.a4, z4 := Tryd.lays221.z4, v4 := Tryd.lays221.v4, t5 := Tryd.lays221.t5, a5 := Tryd.lays221.a5, z5 := Tryd.lays221.z5, v5 := Tryd.lays221.v5, t9 := Tryd.lays221.t9, a9 := Tryd.lays221.a9, z9 := Tryd.lays221.z9, v9 := Tryd.lays221.v9, t46 := Tryd.lays221.t46, a46 := Tryd.lays221.a46, z46 := Tryd.lays221.z46, v46 := Tryd.lays221.v46, t51 := Tryd.lays221.t51, a51 := Tryd.lays221.a51, z51 := Tryd.lays221.z51, v51 := Tryd.lays221.v51, t146 := Tryd.lays221.t146, a146 := Tryd.lays221.a146, z146 := Tryd.lays221.z146, v146 := Tryd.lays221.v146, g1 := Tryd.lays221.g1 }

/-! numbers -/
theorem itoa_d {n : Int} (h0 : -9223372036854775808 ≤ n) (h1 : n ≤ 9223372036854775807) : PDen gt1 Tryd.prog 48 [.i .i64 n] (.s (Lib.itoa n)) :=
  itoa_pden Tryd.laysM171 (g := 2) rfl Tryd.laysM171.m17 h0 h1
theorem fmt_d {n : Int} (h0 : -9223372036854775808 ≤ n) (h1 : n ≤ 9223372036854775807) : PDen gt1 Tryd.prog 51 [.i .i64 n, .i .i64 10] (.s (Lib.itoa n)) :=
  formatInt_pden Tryd.laysM173 (g := 2) rfl Tryd.laysM173.m17 h0 h1
theorem parse_d {l : List UInt8} (hl : l.length ≤ 281474976710656) : PDen gt1 Tryd.prog 79 [.s l, .i .i64 10, .i .i64 64] (.tu [.i .i64 (parseV l), .bad]) :=
  parseInt_pden Tryd.laysC174 (t15 := 185) (t16 := 185) rfl rfl hl
theorem atoi_d {l : List UInt8} (hl : l.length ≤ 281474976710656) : PDen gt1 Tryd.prog 39 [.s l] (.tu [.i .i64 (atoiV l), .bad]) :=
  atoi_pden Tryd.laysC172 (t15 := 185) (t16 := 185) rfl rfl hl
/-! texts -/
theorem pre_d {l p : List UInt8} : PDen gt1 Tryd.prog 41 [.s l, .s p] (.b (Lib.hasPrefix l p)) := hasPrefix_pden Tryd.lays99
theorem trimp_d {l p : List UInt8} : PDen gt1 Tryd.prog 40 [.s l, .s p] (.s (Lib.trimPrefix l p)) := trimPrefix_pden Tryd.lays101
theorem gsplit_d {l : List UInt8} {c : UInt8} {sv : Nat} (hsv : sv ≤ 1) (hl : l.length < 4294967281) : PDen gt1 Tryd.prog 72 [.s l, .s [c], .i .i64 (sv : Nat), .i .i64 (-1)] (.pu 1 ((pieces l c sv).map .s) .u) :=
  genSplit_pden Tryd.lays221 lays138_221 lays143_221 (by kernel_rfl) hsv hl
end Go.Proofs.YtlhopiehnaabgaaDoor
