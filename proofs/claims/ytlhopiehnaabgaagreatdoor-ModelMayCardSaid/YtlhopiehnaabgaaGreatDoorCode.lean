import Derived.Test.YtlhopiehnaabgaaGreatDoorLE
import Derived.Test.YtlhopiehnaabgaaGreatDoorCodeT
set_option linter.all false
namespace Go.Proofs.YtlhopiehnaabgaaGreatDoor
open Go Rf
set_option maxRecDepth 100000
set_option maxHeartbeats 400000
noncomputable def gf10:{c:F // cF gt0 Tryz.prog (wfa 10) 10=some c}:=⟨_,by conv=>lhs;reduce;simp only[oi,ou,on1]⟩
noncomputable def f10:F:=gf10.1
theorem hF10:cF gt0 Tryz.prog (wfa 10) 10=some f10:=gf10.2
noncomputable def gf17:{c:F // cF gt0 Tryz.prog (wfa 17) 17=some c}:=⟨_,by conv=>lhs;reduce;simp only[oi,ou,on1]⟩
noncomputable def f17:F:=gf17.1
theorem hF17:cF gt0 Tryz.prog (wfa 17) 17=some f17:=gf17.2
def f31:Rf.F:={np:=2,nt:=68,body:= .seq (.ops [⟨some 2,none, .a (.box 48 true (.t 0))⟩,⟨some 3,none, .a (.box 48 true (.t 1))⟩,⟨some 4,none, .a (.mov (.c (.b false)))⟩]) (.seq (.seq (.ops [⟨some 7,none, .a (.fa 0 (.t 2))⟩,⟨some 8,none, .a (.load1 (.t 7))⟩,⟨some 9,none, .a (.fa 0 (.t 3))⟩,⟨some 10,none, .a (.load1 (.t 9))⟩,⟨some 11,none, .a (.eql true .n (.t 8) (.t 10))⟩,⟨some 12,none, .a (.mov (.t 11))⟩,⟨some 13,some (12,false), .a (.fa 1 (.t 2))⟩,⟨some 14,some (12,false), .a (.load1 (.t 13))⟩,⟨some 15,some (12,false), .a (.len (.t 14))⟩,⟨some 16,some (12,false), .a (.fa 1 (.t 3))⟩,⟨some 17,some (12,false), .a (.load1 (.t 16))⟩,⟨some 18,some (12,false), .a (.len (.t 17))⟩,⟨some 19,some (12,false), .a (.eql true .n (.t 15) (.t 18))⟩,⟨some 20,none, .a (.pick (.t 12) (.c (.b true)) (.t 19))⟩]) (.cond (.t 20) (.seq (.ops [⟨some 4,none, .a (.mov (.c (.b false)))⟩]) .ret) .skip)) (.seq (.seq (.ops [⟨some 5,none, .a (.mov (.c (.i .i64 0)))⟩]) (.blk 0 (.loop (.seq (.seq (.ops [⟨some 21,none, .a (.mov (.t 5))⟩,⟨some 22,none, .a (.fa 1 (.t 2))⟩,⟨some 23,none, .a (.load1 (.t 22))⟩,⟨some 24,none, .a (.len (.t 23))⟩,⟨some 25,none, .a (.bin .lss (.t 21) (.t 24))⟩]) (.cond (.t 25) .skip (.exit 0))) (.seq (.blk 1 (.seq (.seq (.drw [(0,⟨some 28,none, .a (.fa 1 (.t 2))⟩),(0,⟨some 29,none, .a (.load1 (.t 28))⟩),(0,⟨some 30,none, .a (.mov (.t 5))⟩),(0,⟨some 31,none, .a (.ia 1 (.t 29) (.t 30))⟩),(0,⟨some 32,none, .a (.load1 (.t 31))⟩),(0,⟨some 33,none, .a (.len (.t 32))⟩),(0,⟨some 34,none, .a (.fa 1 (.t 3))⟩),(0,⟨some 35,none, .a (.load1 (.t 34))⟩),(0,⟨some 36,none, .a (.mov (.t 5))⟩),(0,⟨some 37,none, .a (.ia 1 (.t 35) (.t 36))⟩),(0,⟨some 38,none, .a (.load1 (.t 37))⟩),(0,⟨some 39,none, .a (.len (.t 38))⟩),(0,⟨some 40,none, .a (.eql true .n (.t 33) (.t 39))⟩)]) (.cond (.t 40) (.seq (.ops [⟨some 4,none, .a (.mov (.c (.b false)))⟩]) .ret) .skip)) (.seq (.ops [⟨some 6,none, .a (.mov (.c (.i .i64 0)))⟩]) (.blk 2 (.loop (.seq (.seq (.ops [⟨some 41,none, .a (.mov (.t 6))⟩,⟨some 42,none, .a (.fa 1 (.t 2))⟩,⟨some 43,none, .a (.load1 (.t 42))⟩,⟨some 44,none, .a (.mov (.t 5))⟩,⟨some 45,none, .a (.ia 1 (.t 43) (.t 44))⟩,⟨some 46,none, .a (.load1 (.t 45))⟩,⟨some 47,none, .a (.len (.t 46))⟩,⟨some 48,none, .a (.bin .lss (.t 41) (.t 47))⟩]) (.cond (.t 48) .skip (.exit 2))) (.seq (.blk 3 (.seq (.drw [(0,⟨some 51,none, .a (.fa 1 (.t 2))⟩),(0,⟨some 52,none, .a (.load1 (.t 51))⟩),(0,⟨some 53,none, .a (.mov (.t 5))⟩),(0,⟨some 54,none, .a (.ia 1 (.t 52) (.t 53))⟩),(0,⟨some 55,none, .a (.load1 (.t 54))⟩),(0,⟨some 56,none, .a (.mov (.t 6))⟩),(0,⟨some 57,none, .a (.ia 2 (.t 55) (.t 56))⟩),(0,⟨some 58,none, .a (.loadn 2 (.t 57))⟩),(0,⟨some 59,none, .a (.fa 1 (.t 3))⟩),(0,⟨some 60,none, .a (.load1 (.t 59))⟩),(0,⟨some 61,none, .a (.mov (.t 5))⟩),(0,⟨some 62,none, .a (.ia 1 (.t 60) (.t 61))⟩),(0,⟨some 63,none, .a (.load1 (.t 62))⟩),(0,⟨some 64,none, .a (.mov (.t 6))⟩),(0,⟨some 65,none, .a (.ia 2 (.t 63) (.t 64))⟩),(0,⟨some 66,none, .a (.loadn 2 (.t 65))⟩),(0,⟨some 67,none, .a (.eql true (.g [.i, .i]) (.t 58) (.t 66))⟩)]) (.cond (.t 67) (.seq (.ops [⟨some 4,none, .a (.mov (.c (.b false)))⟩]) .ret) .skip))) (.ops [⟨some 49,none, .a (.mov (.t 6))⟩,⟨some 50,none, .a (.bin .add (.t 49) (.c (.i .i64 1)))⟩,⟨some 6,none, .a (.mov (.t 50))⟩])))))))) (.ops [⟨some 26,none, .a (.mov (.t 5))⟩,⟨some 27,none, .a (.bin .add (.t 26) (.c (.i .i64 1)))⟩,⟨some 5,none, .a (.mov (.t 27))⟩])))))) (.seq (.ops [⟨some 4,none, .a (.mov (.c (.b true)))⟩]) .ret))),res:=[.t 4]}
theorem hF31:Rf.cF gt0 Tryz.prog (wfa 31) 31=some f31:=by kernel_rfl
noncomputable def gf19:{c:F // cF gt0 Tryz.prog (wfa 19) 19=some c}:=⟨_,by conv=>lhs;reduce;simp only[oi,ou,on1]⟩
noncomputable def f19:F:=gf19.1
theorem hF19:cF gt0 Tryz.prog (wfa 19) 19=some f19:=gf19.2
noncomputable def gf20:{c:F // cF gt0 Tryz.prog (wfa 20) 20=some c}:=⟨_,by conv=>lhs;reduce;simp only[oi,ou,on1]⟩
noncomputable def f20:F:=gf20.1
theorem hF20:cF gt0 Tryz.prog (wfa 20) 20=some f20:=gf20.2
noncomputable def gf39:{c:F // cF gt0 Tryz.prog (wfa 39) 39=some c}:=⟨_,by conv=>lhs;reduce;simp only[oi,ou,on1]⟩
noncomputable def f39:F:=gf39.1
theorem hF39:cF gt0 Tryz.prog (wfa 39) 39=some f39:=gf39.2
noncomputable def gf41:{c:F // cF gt0 Tryz.prog (wfa 41) 41=some c}:=⟨_,by conv=>lhs;reduce;simp only[oi,ou,on1]⟩
noncomputable def f41:F:=gf41.1
theorem hF41:cF gt0 Tryz.prog (wfa 41) 41=some f41:=gf41.2
def f29:Rf.F:={np:=2,nt:=26,body:= .seq (.ops [⟨some 4,none, .a (.mov (.c (.b false)))⟩]) (.seq (.seq (.ops [⟨some 6,none, .a (.mov (.t 0))⟩,⟨some 7,none, .a (.len (.t 6))⟩,⟨some 8,none, .a (.mov (.t 1))⟩,⟨some 9,none, .a (.len (.t 8))⟩,⟨some 10,none, .a (.eql true .n (.t 7) (.t 9))⟩]) (.cond (.t 10) (.seq (.ops [⟨some 4,none, .a (.mov (.c (.b false)))⟩]) .ret) .skip)) (.seq (.seq (.ops [⟨some 5,none, .a (.mov (.c (.i .i64 0)))⟩]) (.blk 0 (.loop (.seq (.seq (.ops [⟨some 11,none, .a (.mov (.t 5))⟩,⟨some 12,none, .a (.mov (.t 0))⟩,⟨some 13,none, .a (.len (.t 12))⟩,⟨some 14,none, .a (.bin .lss (.t 11) (.t 13))⟩]) (.cond (.t 14) .skip (.exit 0))) (.seq (.blk 1 (.seq (.drw [(0,⟨some 17,none, .a (.mov (.t 0))⟩),(0,⟨some 18,none, .a (.mov (.t 5))⟩),(0,⟨some 19,none, .a (.ia 6 (.t 17) (.t 18))⟩),(0,⟨some 20,none, .a (.loadn 6 (.t 19))⟩),(0,⟨some 21,none, .a (.mov (.t 1))⟩),(0,⟨some 22,none, .a (.mov (.t 5))⟩),(0,⟨some 23,none, .a (.ia 6 (.t 21) (.t 22))⟩),(0,⟨some 24,none, .a (.loadn 6 (.t 23))⟩),(0,⟨some 25,none, .a (.eql true (.g [.i, .i, .i, .i, .i, .i]) (.t 20) (.t 24))⟩)]) (.cond (.t 25) (.seq (.ops [⟨some 4,none, .a (.mov (.c (.b false)))⟩]) .ret) .skip))) (.ops [⟨some 15,none, .a (.mov (.t 5))⟩,⟨some 16,none, .a (.bin .add (.t 15) (.c (.i .i64 1)))⟩,⟨some 5,none, .a (.mov (.t 16))⟩])))))) (.seq (.ops [⟨some 4,none, .a (.mov (.c (.b true)))⟩]) .ret))),res:=[.t 4]}
theorem hF29:Rf.cF gt0 Tryz.prog (wfa 29) 29=some f29:=by kernel_rfl
noncomputable def gf30:{c:F // cF gt0 Tryz.prog (wfa 30) 30=some c}:=⟨_,by conv=>lhs;reduce;simp only[oi,ou,on1]⟩
noncomputable def f30:F:=gf30.1
theorem hF30:cF gt0 Tryz.prog (wfa 30) 30=some f30:=gf30.2
noncomputable def gf47:{c:F // cF gt0 Tryz.prog (wfa 47) 47=some c}:=⟨_,by conv=>lhs;reduce;simp only[oi,ou,on1]⟩
noncomputable def f47:F:=gf47.1
theorem hF47:cF gt0 Tryz.prog (wfa 47) 47=some f47:=gf47.2
noncomputable def gf64:{c:F // cF gt0 Tryz.prog (wfa 64) 64=some c}:=⟨_,by conv=>lhs;reduce;simp only[oi,ou,on1]⟩
noncomputable def f64:F:=gf64.1
theorem hF64:cF gt0 Tryz.prog (wfa 64) 64=some f64:=gf64.2
noncomputable def gf65:{c:F // cF gt0 Tryz.prog (wfa 65) 65=some c}:=⟨_,by conv=>lhs;reduce;simp only[oi,ou,on1]⟩
noncomputable def f65:F:=gf65.1
theorem hF65:cF gt0 Tryz.prog (wfa 65) 65=some f65:=gf65.2
noncomputable def gf66:{c:F // cF gt0 Tryz.prog (wfa 66) 66=some c}:=⟨_,by conv=>lhs;reduce;simp only[oi,ou,on1]⟩
noncomputable def f66:F:=gf66.1
theorem hF66:cF gt0 Tryz.prog (wfa 66) 66=some f66:=gf66.2
noncomputable def gf91:{c:F // cF gt0 Tryz.prog (wfa 91) 91=some c}:=⟨_,by conv=>lhs;reduce;simp only[oi,ou,on1]⟩
noncomputable def f91:F:=gf91.1
theorem hF91:cF gt0 Tryz.prog (wfa 91) 91=some f91:=gf91.2
noncomputable def gf89:{c:F // cF gt0 Tryz.prog (wfa 89) 89=some c}:=⟨_,by conv=>lhs;reduce;simp only[oi,ou,on1]⟩
noncomputable def f89:F:=gf89.1
theorem hF89:cF gt0 Tryz.prog (wfa 89) 89=some f89:=gf89.2
noncomputable def gf109:{c:F // cF gt0 Tryz.prog (wfa 109) 109=some c}:=⟨_,by conv=>lhs;reduce;simp only[oi,ou,on1]⟩
noncomputable def f109:F:=gf109.1
theorem hF109:cF gt0 Tryz.prog (wfa 109) 109=some f109:=gf109.2
end Go.Proofs.YtlhopiehnaabgaaGreatDoor
