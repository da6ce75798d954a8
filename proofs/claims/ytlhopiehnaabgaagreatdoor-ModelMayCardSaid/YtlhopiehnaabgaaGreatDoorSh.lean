import Derived.Test.YtlhopiehnaabgaaGreatDoorShelf
import Derived.Test.YtlhopiehnaabgaaGreatDoorBld
import Derived.Test.YtlhopiehnaabgaaGreatDoorLE
set_option linter.all false
namespace Go.Proofs.YtlhopiehnaabgaaGreatDoor
open Go Rf
set_option maxRecDepth 100000
set_option maxHeartbeats 4000000
def gt1:Nat→Option V:=gtL [(3,tabV .u64 Lib.pow10Tab),(1, .ifc 184 .bad),(2, .ifc 184 .bad)]
theorem tab_nm {L:Nat→Prop}(k:Go.IntKind)(zs:List Int):Nm L (tabV k zs):= .ag _ fun x hx=>by
 obtain ⟨z,-,rfl⟩:=List.mem_map.1 hx;exact .i _ _
theorem gnm1:GNm gt1:=fun g v h=>by
 unfold gt1 gtL at h
 split at h
 ·cases h;exact tab_nm _ _
 ·unfold gtL at h
  split at h
  ·cases h;exact .ifc _ _ .bad
  ·unfold gtL at h
   split at h
   ·cases h;exact .ifc _ _ .bad
   ·cases h
theorem up0 {P:Program}{gt:Nat→Option V}{f:FuncId}{args:List V}{s s':St}{v:V}(h:Den gt0 P f args s v s'):Den gt P f args s v s':=
 fun cx w xs R _ A=>h cx w xs R (fun _ _ h=>by cases h) A
theorem pup0 {P:Program}{gt:Nat→Option V}{f:FuncId}{args:List V}{v:V}(h:PDen gt0 P f args v):PDen gt P f args v:=fun s=>up0 (h s)
theorem lays138_221:Lays.n138 Tryz.prog Tryz.lays221_ren:={mixed:=Tryz.lays221.mixed,f138:=Tryz.lays221.f138,f143:=Tryz.lays221.f143,f195:=Tryz.lays221.f195,f217:=Tryz.lays221.f217,f218:=Tryz.lays221.f218,f219:=Tryz.lays221.f219,f224:=Tryz.lays221.f224,f225:=Tryz.lays221.f225,f266:=Tryz.lays221.f266,f267:=Tryz.lays221.f267,f314:=Tryz.lays221.f314,t0:=Tryz.lays221.t0,a0:=Tryz.lays221.a0,z0:=Tryz.lays221.z0,v0:=Tryz.lays221.v0,t3:=Tryz.lays221.t3,a3:=Tryz.lays221.a3,z3:=Tryz.lays221.z3,v3:=Tryz.lays221.v3,t4:=Tryz.lays221.t4,a4:=Tryz.lays221.a4,z4:=Tryz.lays221.z4,v4:=Tryz.lays221.v4,t5:=Tryz.lays221.t5,a5:=Tryz.lays221.a5,z5:=Tryz.lays221.z5,v5:=Tryz.lays221.v5,t9:=Tryz.lays221.t9,a9:=Tryz.lays221.a9,z9:=Tryz.lays221.z9,v9:=Tryz.lays221.v9,t46:=Tryz.lays221.t46,a46:=Tryz.lays221.a46,z46:=Tryz.lays221.z46,v46:=Tryz.lays221.v46,t51:=Tryz.lays221.t51,a51:=Tryz.lays221.a51,z51:=Tryz.lays221.z51,v51:=Tryz.lays221.v51,t146:=Tryz.lays221.t146,a146:=Tryz.lays221.a146,z146:=Tryz.lays221.z146,v146:=Tryz.lays221.v146,g1:=Tryz.lays221.g1}
theorem lays143_221:Lays.n143 Tryz.prog Tryz.lays221_ren:={mixed:=Tryz.lays221.mixed,f143:=Tryz.lays221.f143,f217:=Tryz.lays221.f217,f219:=Tryz.lays221.f219,f224:=Tryz.lays221.f224,f225:=Tryz.lays221.f225,f266:=Tryz.lays221.f266,f267:=Tryz.lays221.f267,f314:=Tryz.lays221.f314,t3:=Tryz.lays221.t3,a3:=Tryz.lays221.a3,z3:=Tryz.lays221.z3,v3:=Tryz.lays221.v3,t4:=Tryz.lays221.t4,a4:=Tryz.lays221.a4,z4:=Tryz.lays221.z4,v4:=Tryz.lays221.v4,t5:=Tryz.lays221.t5,a5:=Tryz.lays221.a5,z5:=Tryz.lays221.z5,v5:=Tryz.lays221.v5,t9:=Tryz.lays221.t9,a9:=Tryz.lays221.a9,z9:=Tryz.lays221.z9,v9:=Tryz.lays221.v9,t46:=Tryz.lays221.t46,a46:=Tryz.lays221.a46,z46:=Tryz.lays221.z46,v46:=Tryz.lays221.v46,t51:=Tryz.lays221.t51,a51:=Tryz.lays221.a51,z51:=Tryz.lays221.z51,v51:=Tryz.lays221.v51,t146:=Tryz.lays221.t146,a146:=Tryz.lays221.a146,z146:=Tryz.lays221.z146,v146:=Tryz.lays221.v146,g1:=Tryz.lays221.g1}
theorem itoa_d {n:Int}(h0:-9223372036854775808≤n)(h1:n≤9223372036854775807):PDen gt1 Tryz.prog 62 [.i .i64 n] (.s (Lib.itoa n)):=
 itoa_pden Tryz.laysM171 (g:=3) rfl Tryz.laysM171.m17 h0 h1
theorem fmt_d {n:Int}(h0:-9223372036854775808≤n)(h1:n≤9223372036854775807):PDen gt1 Tryz.prog 61 [.i .i64 n, .i .i64 10] (.s (Lib.itoa n)):=
 formatInt_pden Tryz.laysM173 (g:=3) rfl Tryz.laysM173.m17 h0 h1
theorem parse_d {l:List UInt8}(hl:l.length≤281474976710656):PDen gt1 Tryz.prog 54 [.s l, .i .i64 10, .i .i64 64] (.tu [.i .i64 (parseV l), .bad]):=
 parseInt_pden Tryz.laysC174 (t15:=184) (t16:=184) rfl rfl hl
theorem atoi_d {l:List UInt8}(hl:l.length≤281474976710656):PDen gt1 Tryz.prog 55 [.s l] (.tu [.i .i64 (atoiV l), .bad]):=
 atoi_pden Tryz.laysC172 (t15:=184) (t16:=184) rfl rfl hl
theorem pre_d {l p:List UInt8}:PDen gt1 Tryz.prog 57 [.s l, .s p] (.b (Lib.hasPrefix l p)):=hasPrefix_pden Tryz.lays99
theorem trimp_d {l p:List UInt8}:PDen gt1 Tryz.prog 56 [.s l, .s p] (.s (Lib.trimPrefix l p)):=trimPrefix_pden Tryz.lays101
theorem gsplit_d {l:List UInt8}{c:UInt8}{sv:Nat}(hsv:sv≤1)(hl:l.length<4294967281):PDen gt1 Tryz.prog 50 [.s l, .s [c], .i .i64 (sv:Nat), .i .i64 (-1)] (.pu 1 ((pieces l c sv).map .s) .u):=
 genSplit_pden Tryz.lays221 lays138_221 lays143_221 (by kernel_rfl) hsv hl
end Go.Proofs.YtlhopiehnaabgaaGreatDoor
