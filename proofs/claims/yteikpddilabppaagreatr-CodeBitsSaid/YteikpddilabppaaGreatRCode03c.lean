/- The code of some functions, in abstract form, each checked against the program's form: made by a program (AmPrint). No condition. -/
import Derived.Test.YteikpddilabppaaGreatRAmS
import Derived.Test.YteikpddilabppaaGreatRProg
import Derived.KernelRfl
set_option linter.unusedVariables false
namespace Go.Proofs.YteikpddilabppaaGreatR
open Go.AM
/-! understudy/insn.shapeOf$1 -/
def C69r0 : List AOper := [⟨some 1, .box 23 (.t 0), none, true, []⟩,
  ⟨some 2, .mv (.k (.c (.bool false))), none, true, []⟩]
def C69r1 : List AOper := [⟨some 3, .faddr (.t 1) 6, none, true, []⟩,
  ⟨some 4, .ld1 (.t 3), none, true, []⟩,
  ⟨some 5, .call (.k (.c (.fn 70 [] []))) [(.t 4), (.k (.c (.int .i64 1))), (.k (.c (.int .i64 0))), (.k (.c (.int .i64 4095)))], none, true, []⟩,
  ⟨some 6, .mv (.t 5), none, true, []⟩,
  ⟨some 7, .faddr (.t 1) 8, some (6, true), true, []⟩,
  ⟨some 8, .ld1 (.t 7), some (6, true), true, []⟩,
  ⟨some 9, .call (.k (.c (.fn 70 [] []))) [(.t 8), (.k (.c (.int .i64 12))), (.k (.c (.int .i64 0))), (.k (.c (.int .i64 12)))], some (6, true), true, []⟩,
  ⟨some 10, .pick 6 (.t 9) (.k (.c (.bool false))), none, true, []⟩,
  ⟨some 2, .mv (.t 10), none, true, []⟩]
def C69 : ACode :=
  .seq (.region C69r0)
  (.seq (.region C69r1)
  (.ret))
theorem C69_ok : stripF Tryz.prog Tryz.f69 = some C69 := by kernel_rfl
/-! understudy/insn.within -/
def C70r0 : List AOper := [⟨some 8, .mv (.k (.c (.bool false))), none, true, []⟩]
def C70r1 : List AOper := [⟨some 9, .mv (.t 0), none, true, []⟩,
  ⟨some 10, .mv (.t 2), none, true, []⟩,
  ⟨some 11, .bin .geq (.t 9) (.t 10), none, true, []⟩,
  ⟨some 12, .mv (.t 11), none, true, []⟩,
  ⟨some 13, .mv (.t 0), some (12, true), true, []⟩,
  ⟨some 14, .mv (.t 3), some (12, true), true, []⟩,
  ⟨some 15, .bin .leq (.t 13) (.t 14), some (12, true), true, []⟩,
  ⟨some 16, .pick 12 (.t 15) (.k (.c (.bool false))), none, true, []⟩,
  ⟨some 17, .mv (.t 16), none, true, []⟩,
  ⟨some 18, .mv (.t 0), some (17, true), true, []⟩,
  ⟨some 19, .mv (.t 1), some (17, true), true, []⟩,
  ⟨some 20, .bin .rem (.t 18) (.t 19), some (17, true), true, []⟩,
  ⟨some 21, .bin .eql (.t 20) (.k (.c (.int .i64 0))), some (17, true), true, []⟩,
  ⟨some 22, .pick 17 (.t 21) (.k (.c (.bool false))), none, true, []⟩,
  ⟨some 8, .mv (.t 22), none, true, []⟩]
def C70 : ACode :=
  .seq (.region C70r0)
  (.seq (.region C70r1)
  (.ret))
theorem C70_ok : stripF Tryz.prog Tryz.f70 = some C70 := by kernel_rfl
/-! understudy/insn.shapeOf$2 -/
def C71r0 : List AOper := [⟨some 1, .box 23 (.t 0), none, true, []⟩,
  ⟨some 2, .mv (.k (.c (.bool false))), none, true, []⟩]
def C71r1 : List AOper := [⟨some 3, .faddr (.t 1) 9, none, true, []⟩,
  ⟨some 4, .ld1 (.t 3), none, true, []⟩,
  ⟨some 5, .call (.k (.c (.fn 70 [] []))) [(.t 4), (.k (.c (.int .i64 1))), (.k (.c (.int .i64 0))), (.k (.c (.int .i64 2)))], none, true, []⟩,
  ⟨some 6, .mv (.t 5), none, true, []⟩,
  ⟨some 7, .faddr (.t 1) 8, some (6, true), true, []⟩,
  ⟨some 8, .ld1 (.t 7), some (6, true), true, []⟩,
  ⟨some 9, .call (.k (.c (.fn 70 [] []))) [(.t 8), (.k (.c (.int .i64 1))), (.k (.c (.int .i64 0))), (.k (.c (.int .i64 63)))], some (6, true), true, []⟩,
  ⟨some 10, .pick 6 (.t 9) (.k (.c (.bool false))), none, true, []⟩,
  ⟨some 2, .mv (.t 10), none, true, []⟩]
def C71 : ACode :=
  .seq (.region C71r0)
  (.seq (.region C71r1)
  (.ret))
theorem C71_ok : stripF Tryz.prog Tryz.f71 = some C71 := by kernel_rfl
/-! understudy/insn.shapeOf$3 -/
def C72r0 : List AOper := [⟨some 1, .box 23 (.t 0), none, true, []⟩,
  ⟨some 2, .mv (.k (.c (.bool false))), none, true, []⟩]
def C72r1 : List AOper := [⟨some 3, .ldn 16 (.t 1), none, true, []⟩,
  ⟨some 4, .call (.k (.c (.fn 73 [] []))) [(.t 3)], none, true, []⟩,
  ⟨some 5, .mv (.t 4), none, true, []⟩,
  ⟨some 6, .faddr (.t 1) 9, some (5, true), true, []⟩,
  ⟨some 7, .ld1 (.t 6), some (5, true), true, []⟩,
  ⟨some 8, .call (.k (.c (.fn 70 [] []))) [(.t 7), (.k (.c (.int .i64 1))), (.k (.c (.int .i64 0))), (.k (.c (.int .i64 3)))], some (5, true), true, []⟩,
  ⟨some 9, .pick 5 (.t 8) (.k (.c (.bool false))), none, true, []⟩,
  ⟨some 10, .mv (.t 9), none, true, []⟩,
  ⟨some 11, .faddr (.t 1) 8, some (10, true), true, []⟩,
  ⟨some 12, .ld1 (.t 11), some (10, true), true, []⟩,
  ⟨some 13, .call (.k (.c (.fn 70 [] []))) [(.t 12), (.k (.c (.int .i64 1))), (.k (.c (.int .i64 0))), (.k (.c (.int .i64 63)))], some (10, true), true, []⟩,
  ⟨some 14, .pick 10 (.t 13) (.k (.c (.bool false))), none, true, []⟩,
  ⟨some 2, .mv (.t 14), none, true, []⟩]
def C72 : ACode :=
  .seq (.region C72r0)
  (.seq (.region C72r1)
  (.ret))
theorem C72_ok : stripF Tryz.prog Tryz.f72 = some C72 := by kernel_rfl
/-! understudy/insn.logic -/
def C73r0 : List AOper := [⟨some 1, .box 23 (.t 0), none, true, []⟩,
  ⟨some 2, .mv (.k (.c (.bool false))), none, true, []⟩]
def C73r1 : List AOper := [⟨some 3, .faddr (.t 1) 1, none, true, []⟩,
  ⟨some 4, .ld1 (.t 3), none, true, []⟩,
  ⟨some 5, .call (.k (.c (.fn 70 [] []))) [(.t 4), (.k (.c (.int .i64 1))), (.k (.c (.int .i64 0))), (.k (.c (.int .i64 2)))], none, true, []⟩,
  ⟨some 6, .mv (.t 5), none, true, []⟩,
  ⟨some 7, .faddr (.t 1) 12, some (6, true), true, []⟩,
  ⟨some 8, .ld1 (.t 7), some (6, true), true, []⟩,
  ⟨some 9, .un .not (.t 8), some (6, true), true, []⟩,
  ⟨some 10, .mv (.t 9), some (6, true), true, []⟩,
  ⟨some 11, .faddr (.t 1) 1, some (10, false), true, []⟩,
  ⟨some 12, .ld1 (.t 11), some (10, false), true, []⟩,
  ⟨some 13, .bin .eql (.t 12) (.k (.c (.int .i64 0))), some (10, false), true, []⟩,
  ⟨some 14, .pick 10 (.k (.c (.bool true))) (.t 13), some (6, true), true, []⟩,
  ⟨some 15, .pick 6 (.t 14) (.k (.c (.bool false))), none, true, []⟩,
  ⟨some 2, .mv (.t 15), none, true, []⟩]
def C73 : ACode :=
  .seq (.region C73r0)
  (.seq (.region C73r1)
  (.ret))
theorem C73_ok : stripF Tryz.prog Tryz.f73 = some C73 := by kernel_rfl
/-! understudy/insn.shapeOf$4 -/
def C74r0 : List AOper := [⟨some 1, .box 23 (.t 0), none, true, []⟩,
  ⟨some 2, .mv (.k (.c (.bool false))), none, true, []⟩]
def C74r1 : List AOper := [⟨some 6, .faddr (.t 1) 8, none, true, []⟩,
  ⟨some 7, .ld1 (.t 6), none, true, []⟩,
  ⟨some 8, .faddr (.t 1) 6, none, true, []⟩,
  ⟨some 9, .ld1 (.t 8), none, true, []⟩,
  ⟨some 10, .faddr (.t 1) 7, none, true, []⟩,
  ⟨some 11, .ld1 (.t 10), none, true, []⟩,
  ⟨some 12, .call (.k (.c (.fn 75 [] []))) [(.t 7), (.t 9), (.t 11)], none, true, []⟩,
  ⟨some 5, .mv (.t 12), none, true, []⟩,
  ⟨some 13, .ext (.t 5) 0, none, true, []⟩,
  ⟨some 14, .ext (.t 5) 1, none, true, []⟩,
  ⟨some 3, .mv (.t 13), none, true, []⟩,
  ⟨some 4, .mv (.t 14), none, true, []⟩]
def C74r2 : List AOper := [⟨some 15, .ldn 16 (.t 1), none, true, []⟩,
  ⟨some 16, .call (.k (.c (.fn 73 [] []))) [(.t 15)], none, true, []⟩,
  ⟨some 17, .mv (.t 16), none, true, []⟩,
  ⟨some 18, .mv (.t 4), some (17, true), true, []⟩,
  ⟨some 19, .bin .eql (.t 18) (.k (.c (.int .i64 0))), some (17, true), true, []⟩,
  ⟨some 20, .pick 17 (.t 19) (.k (.c (.bool false))), none, true, []⟩,
  ⟨some 2, .mv (.t 20), none, true, []⟩]
def C74 : ACode :=
  .seq (.region C74r0)
  (.seq (.region C74r1)
  (.seq (.region C74r2)
  (.ret)))
theorem C74_ok : stripF Tryz.prog Tryz.f74 = some C74 := by kernel_rfl
/-! understudy/bits.Mask -/
def C75r0 : List AOper := [⟨some 6, .mv (.k (.c (.int .u64 0))), none, true, []⟩,
  ⟨some 7, .mv (.k (.c (.int .i64 0))), none, true, []⟩]
def C75r1 : List AOper := [⟨some 14, .mv (.t 0), none, true, []⟩,
  ⟨some 15, .bin .or (.t 14) (.k (.c (.int .i64 1))), none, true, []⟩,
  ⟨some 16, .bin .neq (.t 15) (.k (.c (.int .i64 1))), none, true, []⟩,
  ⟨some 17, .mv (.t 16), none, true, []⟩,
  ⟨some 18, .mv (.t 1), some (17, false), true, []⟩,
  ⟨some 19, .bin .or (.t 18) (.k (.c (.int .i64 63))), some (17, false), true, []⟩,
  ⟨some 20, .bin .neq (.t 19) (.k (.c (.int .i64 63))), some (17, false), true, []⟩,
  ⟨some 21, .pick 17 (.k (.c (.bool true))) (.t 20), none, true, []⟩,
  ⟨some 22, .mv (.t 21), none, true, []⟩,
  ⟨some 23, .mv (.t 2), some (22, false), true, []⟩,
  ⟨some 24, .bin .or (.t 23) (.k (.c (.int .i64 63))), some (22, false), true, []⟩,
  ⟨some 25, .bin .neq (.t 24) (.k (.c (.int .i64 63))), some (22, false), true, []⟩,
  ⟨some 26, .pick 22 (.k (.c (.bool true))) (.t 25), none, true, []⟩]
def C75r2 : List AOper := [⟨some 6, .mv (.k (.c (.int .u64 0))), none, true, []⟩,
  ⟨some 7, .mv (.k (.c (.int .i64 1))), none, true, []⟩]
def C75r3 : List AOper := [⟨some 27, .mv (.t 0), none, true, []⟩,
  ⟨some 28, .bin .shl (.t 27) (.k (.c (.int .u64 6))), none, true, []⟩,
  ⟨some 29, .mv (.t 2), none, true, []⟩,
  ⟨some 30, .un .xor (.t 29), none, true, []⟩,
  ⟨some 31, .bin .and (.t 30) (.k (.c (.int .i64 63))), none, true, []⟩,
  ⟨some 32, .bin .or (.t 28) (.t 31), none, true, []⟩,
  ⟨some 8, .mv (.t 32), none, true, []⟩]
def C75r4 : List AOper := [⟨some 33, .mv (.t 8), none, true, []⟩,
  ⟨some 34, .bin .lss (.t 33) (.k (.c (.int .i64 2))), none, true, []⟩]
def C75r5 : List AOper := [⟨some 6, .mv (.k (.c (.int .u64 0))), none, true, []⟩,
  ⟨some 7, .mv (.k (.c (.int .i64 2))), none, true, []⟩]
def C75r6 : List AOper := [⟨some 35, .mv (.t 8), none, true, []⟩,
  ⟨some 36, .conv .u64 (.t 35), none, true, []⟩,
  ⟨some 37, .call (.k (.c (.fn 109 [] []))) [(.t 36)], none, true, []⟩,
  ⟨some 38, .bin .sub (.t 37) (.k (.c (.int .i64 1))), none, true, []⟩,
  ⟨some 39, .bin .shl (.k (.c (.int .i64 1))) (.t 38), none, true, []⟩,
  ⟨some 9, .mv (.t 39), none, true, []⟩]
def C75r7 : List AOper := [⟨some 40, .mv (.t 2), none, true, []⟩,
  ⟨some 41, .mv (.t 9), none, true, []⟩,
  ⟨some 42, .bin .sub (.t 41) (.k (.c (.int .i64 1))), none, true, []⟩,
  ⟨some 43, .bin .and (.t 40) (.t 42), none, true, []⟩,
  ⟨some 10, .mv (.t 43), none, true, []⟩]
def C75r8 : List AOper := [⟨some 44, .mv (.t 10), none, true, []⟩,
  ⟨some 45, .mv (.t 9), none, true, []⟩,
  ⟨some 46, .bin .sub (.t 45) (.k (.c (.int .i64 1))), none, true, []⟩,
  ⟨some 47, .bin .eql (.t 44) (.t 46), none, true, []⟩]
def C75r9 : List AOper := [⟨some 6, .mv (.k (.c (.int .u64 0))), none, true, []⟩,
  ⟨some 7, .mv (.k (.c (.int .i64 2))), none, true, []⟩]
def C75r10 : List AOper := [⟨some 49, .mv (.t 10), none, true, []⟩,
  ⟨some 50, .bin .shl (.k (.c (.int .u64 2))) (.t 49), none, true, []⟩,
  ⟨some 51, .bin .sub (.t 50) (.k (.c (.int .u64 1))), none, true, []⟩,
  ⟨some 52, .mv (.t 1), none, true, []⟩,
  ⟨some 53, .mv (.t 9), none, true, []⟩,
  ⟨some 54, .bin .sub (.t 53) (.k (.c (.int .i64 1))), none, true, []⟩,
  ⟨some 55, .bin .and (.t 52) (.t 54), none, true, []⟩,
  ⟨some 56, .mv (.t 9), none, true, []⟩,
  ⟨some 57, .call (.k (.c (.fn 110 [] []))) [(.t 51), (.t 55), (.t 56)], none, true, []⟩,
  ⟨some 48, .mv (.t 57), none, true, []⟩,
  ⟨some 58, .ext (.t 48) 0, none, true, []⟩,
  ⟨some 59, .ext (.t 48) 1, none, true, []⟩,
  ⟨some 11, .mv (.t 58), none, true, []⟩,
  ⟨some 12, .mv (.t 59), none, true, []⟩]
def C75r11 : List AOper := [⟨some 60, .mv (.t 9), none, true, []⟩,
  ⟨some 13, .mv (.t 60), none, true, []⟩]
def C75r12 : List AOper := [⟨some 61, .mv (.t 13), none, true, []⟩,
  ⟨some 62, .bin .lss (.t 61) (.k (.c (.int .i64 64))), none, true, []⟩]
def C75r13 : List AOper := [⟨some 65, .mv (.t 11), none, true, []⟩,
  ⟨some 66, .mv (.t 11), none, true, []⟩,
  ⟨some 67, .mv (.t 13), none, true, []⟩,
  ⟨some 68, .bin .shl (.t 66) (.t 67), none, true, []⟩,
  ⟨some 69, .bin .or (.t 65) (.t 68), none, true, []⟩,
  ⟨some 11, .mv (.t 69), none, true, []⟩]
def C75r14 : List AOper := [⟨some 63, .mv (.t 13), none, true, []⟩,
  ⟨some 64, .bin .mul (.t 63) (.k (.c (.int .i64 2))), none, true, []⟩,
  ⟨some 13, .mv (.t 64), none, true, []⟩]
def C75r15 : List AOper := [⟨some 70, .mv (.t 11), none, true, []⟩,
  ⟨some 71, .mv (.t 12), none, true, []⟩,
  ⟨some 6, .mv (.t 70), none, true, []⟩,
  ⟨some 7, .mv (.t 71), none, true, []⟩]
def C75 : ACode :=
  .seq (.region C75r0)
  (.seq (.seq (.region C75r1)
  (.cond (.t 26)
   (.seq (.region C75r2)
   (.ret))
   (.skip)))
  (.seq (.region C75r3)
  (.seq (.seq (.region C75r4)
  (.cond (.t 34)
   (.seq (.region C75r5)
   (.ret))
   (.skip)))
  (.seq (.region C75r6)
  (.seq (.region C75r7)
  (.seq (.seq (.region C75r8)
  (.cond (.t 47)
   (.seq (.region C75r9)
   (.ret))
   (.skip)))
  (.seq (.region C75r10)
  (.seq (.seq (.region C75r11)
  (.block 0
   (.loop
    (.seq (.seq (.region C75r12)
    (.cond (.t 62)
     (.skip)
     (.exit 0)))
    (.seq (.block 1
     (.region C75r13))
    (.region C75r14))))))
  (.seq (.region C75r15)
  (.ret))))))))))
theorem C75_ok : stripF Tryz.prog Tryz.f75 = some C75 := by kernel_rfl
/-! understudy/insn.shapeOf$5 -/
def C76r0 : List AOper := [⟨some 1, .box 23 (.t 0), none, true, []⟩,
  ⟨some 2, .mv (.k (.c (.bool false))), none, true, []⟩]
def C76r1 : List AOper := [⟨some 3, .faddr (.t 1) 1, none, true, []⟩,
  ⟨some 4, .ld1 (.t 3), none, true, []⟩,
  ⟨some 5, .call (.k (.c (.fn 70 [] []))) [(.t 4), (.k (.c (.int .i64 1))), (.k (.c (.int .i64 0))), (.k (.c (.int .i64 3)))], none, true, []⟩,
  ⟨some 6, .mv (.t 5), none, true, []⟩,
  ⟨some 7, .faddr (.t 1) 1, some (6, true), true, []⟩,
  ⟨some 8, .ld1 (.t 7), some (6, true), true, []⟩,
  ⟨some 9, .bin .neq (.t 8) (.k (.c (.int .i64 1))), some (6, true), true, []⟩,
  ⟨some 10, .pick 6 (.t 9) (.k (.c (.bool false))), none, true, []⟩,
  ⟨some 11, .mv (.t 10), none, true, []⟩,
  ⟨some 12, .faddr (.t 1) 6, some (11, true), true, []⟩,
  ⟨some 13, .ld1 (.t 12), some (11, true), true, []⟩,
  ⟨some 14, .call (.k (.c (.fn 70 [] []))) [(.t 13), (.k (.c (.int .i64 1))), (.k (.c (.int .i64 0))), (.k (.c (.int .i64 65535)))], some (11, true), true, []⟩,
  ⟨some 15, .pick 11 (.t 14) (.k (.c (.bool false))), none, true, []⟩,
  ⟨some 16, .mv (.t 15), none, true, []⟩,
  ⟨some 17, .faddr (.t 1) 8, some (16, true), true, []⟩,
  ⟨some 18, .ld1 (.t 17), some (16, true), true, []⟩,
  ⟨some 19, .call (.k (.c (.fn 70 [] []))) [(.t 18), (.k (.c (.int .i64 16))), (.k (.c (.int .i64 0))), (.k (.c (.int .i64 48)))], some (16, true), true, []⟩,
  ⟨some 20, .pick 16 (.t 19) (.k (.c (.bool false))), none, true, []⟩,
  ⟨some 2, .mv (.t 20), none, true, []⟩]
def C76 : ACode :=
  .seq (.region C76r0)
  (.seq (.region C76r1)
  (.ret))
theorem C76_ok : stripF Tryz.prog Tryz.f76 = some C76 := by kernel_rfl
/-! understudy/insn.shapeOf$6 -/
def C77r0 : List AOper := [⟨some 1, .box 23 (.t 0), none, true, []⟩,
  ⟨some 2, .mv (.k (.c (.bool false))), none, true, []⟩]
def C77r1 : List AOper := [⟨some 3, .faddr (.t 1) 1, none, true, []⟩,
  ⟨some 4, .ld1 (.t 3), none, true, []⟩,
  ⟨some 5, .call (.k (.c (.fn 70 [] []))) [(.t 4), (.k (.c (.int .i64 2))), (.k (.c (.int .i64 0))), (.k (.c (.int .i64 2)))], none, true, []⟩,
  ⟨some 6, .mv (.t 5), none, true, []⟩,
  ⟨some 7, .faddr (.t 1) 6, some (6, true), true, []⟩,
  ⟨some 8, .ld1 (.t 7), some (6, true), true, []⟩,
  ⟨some 9, .call (.k (.c (.fn 70 [] []))) [(.t 8), (.k (.c (.int .i64 1))), (.k (.c (.int .i64 0))), (.k (.c (.int .i64 63)))], some (6, true), true, []⟩,
  ⟨some 10, .pick 6 (.t 9) (.k (.c (.bool false))), none, true, []⟩,
  ⟨some 11, .mv (.t 10), none, true, []⟩,
  ⟨some 12, .faddr (.t 1) 7, some (11, true), true, []⟩,
  ⟨some 13, .ld1 (.t 12), some (11, true), true, []⟩,
  ⟨some 14, .call (.k (.c (.fn 70 [] []))) [(.t 13), (.k (.c (.int .i64 1))), (.k (.c (.int .i64 0))), (.k (.c (.int .i64 63)))], some (11, true), true, []⟩,
  ⟨some 15, .pick 11 (.t 14) (.k (.c (.bool false))), none, true, []⟩,
  ⟨some 2, .mv (.t 15), none, true, []⟩]
def C77 : ACode :=
  .seq (.region C77r0)
  (.seq (.region C77r1)
  (.ret))
theorem C77_ok : stripF Tryz.prog Tryz.f77 = some C77 := by kernel_rfl
/-! understudy/insn.subs -/
def C78r0 : List AOper := [⟨some 1, .box 52 (.t 0), none, true, []⟩,
  ⟨some 2, .mv (.k (.c (.nilfn))), none, true, []⟩]
def C78r1 : List AOper := [⟨some 3, .mkfn 111 [] [(.t 1)], none, true, []⟩,
  ⟨some 2, .mv (.t 3), none, true, []⟩]
def C78 : ACode :=
  .seq (.region C78r0)
  (.seq (.region C78r1)
  (.ret))
theorem C78_ok : stripF Tryz.prog Tryz.f78 = some C78 := by kernel_rfl
/-! understudy/insn.none -/
def C79r0 : List AOper := [⟨some 1, .box 23 (.t 0), none, true, []⟩,
  ⟨some 2, .mv (.k (.c (.bool false))), none, true, []⟩]
def C79r1 : List AOper := [⟨some 2, .mv (.k (.c (.bool true))), none, true, []⟩]
def C79 : ACode :=
  .seq (.region C79r0)
  (.seq (.region C79r1)
  (.ret))
theorem C79_ok : stripF Tryz.prog Tryz.f79 = some C79 := by kernel_rfl
/-! understudy/insn.shapeOf$7 -/
def C80r0 : List AOper := [⟨some 1, .box 23 (.t 0), none, true, []⟩,
  ⟨some 2, .mv (.k (.c (.bool false))), none, true, []⟩]
def C80r1 : List AOper := [⟨some 3, .faddr (.t 1) 1, none, true, []⟩,
  ⟨some 4, .ld1 (.t 3), none, true, []⟩,
  ⟨some 5, .call (.k (.c (.fn 70 [] []))) [(.t 4), (.k (.c (.int .i64 1))), (.k (.c (.int .i64 0))), (.k (.c (.int .i64 3)))], none, true, []⟩,
  ⟨some 6, .mv (.t 5), none, true, []⟩,
  ⟨some 7, .faddr (.t 1) 10, some (6, true), true, []⟩,
  ⟨some 8, .ld1 (.t 7), some (6, true), true, []⟩,
  ⟨some 9, .call (.k (.c (.fn 70 [] []))) [(.t 8), (.k (.c (.int .i64 1))), (.k (.c (.int .i64 0))), (.k (.c (.int .i64 15)))], some (6, true), true, []⟩,
  ⟨some 10, .pick 6 (.t 9) (.k (.c (.bool false))), none, true, []⟩,
  ⟨some 2, .mv (.t 10), none, true, []⟩]
def C80 : ACode :=
  .seq (.region C80r0)
  (.seq (.region C80r1)
  (.ret))
theorem C80_ok : stripF Tryz.prog Tryz.f80 = some C80 := by kernel_rfl
/-! understudy/insn.shapeOf$8 -/
def C81r0 : List AOper := [⟨some 1, .box 23 (.t 0), none, true, []⟩,
  ⟨some 2, .mv (.k (.c (.bool false))), none, true, []⟩]
def C81r1 : List AOper := [⟨some 3, .faddr (.t 1) 1, none, true, []⟩,
  ⟨some 4, .ld1 (.t 3), none, true, []⟩,
  ⟨some 5, .bin .eql (.t 4) (.k (.c (.int .i64 0))), none, true, []⟩,
  ⟨some 6, .mv (.t 5), none, true, []⟩,
  ⟨some 7, .faddr (.t 1) 6, some (6, true), true, []⟩,
  ⟨some 8, .ld1 (.t 7), some (6, true), true, []⟩,
  ⟨some 9, .call (.k (.c (.fn 70 [] []))) [(.t 8), (.k (.c (.int .i64 1))), (.k (.c (.int .i64 (-1048576)))), (.k (.c (.int .i64 1048575)))], some (6, true), true, []⟩,
  ⟨some 10, .pick 6 (.t 9) (.k (.c (.bool false))), none, true, []⟩,
  ⟨some 11, .mv (.t 10), none, true, []⟩,
  ⟨some 12, .faddr (.t 1) 1, some (11, false), true, []⟩,
  ⟨some 13, .ld1 (.t 12), some (11, false), true, []⟩,
  ⟨some 14, .bin .eql (.t 13) (.k (.c (.int .i64 1))), some (11, false), true, []⟩,
  ⟨some 15, .mv (.t 14), some (11, false), true, []⟩,
  ⟨some 16, .faddr (.t 1) 6, some (15, true), true, []⟩,
  ⟨some 17, .ld1 (.t 16), some (15, true), true, []⟩,
  ⟨some 18, .call (.k (.c (.fn 70 [] []))) [(.t 17), (.k (.c (.int .i64 4096))), (.k (.c (.int .i64 (-4294967296)))), (.k (.c (.int .i64 4294963200)))], some (15, true), true, []⟩,
  ⟨some 19, .pick 15 (.t 18) (.k (.c (.bool false))), some (11, false), true, []⟩,
  ⟨some 20, .pick 11 (.k (.c (.bool true))) (.t 19), none, true, []⟩,
  ⟨some 2, .mv (.t 20), none, true, []⟩]
def C81 : ACode :=
  .seq (.region C81r0)
  (.seq (.region C81r1)
  (.ret))
theorem C81_ok : stripF Tryz.prog Tryz.f81 = some C81 := by kernel_rfl
/-! understudy/insn.far -/
def C82r0 : List AOper := [⟨some 1, .box 3 (.t 0), none, true, []⟩,
  ⟨some 2, .mv (.k (.c (.nilfn))), none, true, []⟩]
def C82r1 : List AOper := [⟨some 3, .mkfn 113 [] [(.t 1)], none, true, []⟩,
  ⟨some 2, .mv (.t 3), none, true, []⟩]
def C82 : ACode :=
  .seq (.region C82r0)
  (.seq (.region C82r1)
  (.ret))
theorem C82_ok : stripF Tryz.prog Tryz.f82 = some C82 := by kernel_rfl
/-! understudy/insn.shapeOf$9 -/
def C83r0 : List AOper := [⟨some 1, .box 23 (.t 0), none, true, []⟩,
  ⟨some 2, .mv (.k (.c (.bool false))), none, true, []⟩]
def C83r1 : List AOper := [⟨some 3, .faddr (.t 1) 10, none, true, []⟩,
  ⟨some 4, .ld1 (.t 3), none, true, []⟩,
  ⟨some 5, .call (.k (.c (.fn 70 [] []))) [(.t 4), (.k (.c (.int .i64 1))), (.k (.c (.int .i64 0))), (.k (.c (.int .i64 15)))], none, true, []⟩,
  ⟨some 6, .mv (.t 5), none, true, []⟩,
  ⟨some 7, .call (.k (.c (.fn 82 [] []))) [(.k (.c (.int .i64 20)))], some (6, true), false, []⟩,
  ⟨some 8, .ldn 16 (.t 1), some (6, true), false, []⟩,
  ⟨some 9, .call (.t 7) [(.t 8)], some (6, true), true, []⟩,
  ⟨some 10, .pick 6 (.t 9) (.k (.c (.bool false))), none, true, []⟩,
  ⟨some 2, .mv (.t 10), none, true, []⟩]
def C83 : ACode :=
  .seq (.region C83r0)
  (.seq (.region C83r1)
  (.ret))
theorem C83_ok : stripF Tryz.prog Tryz.f83 = some C83 := by kernel_rfl
/-! understudy/insn.shapeOf$10 -/
def C84r0 : List AOper := [⟨some 1, .box 23 (.t 0), none, true, []⟩,
  ⟨some 2, .mv (.k (.c (.bool false))), none, true, []⟩]
def C84r1 : List AOper := [⟨some 3, .faddr (.t 1) 8, none, true, []⟩,
  ⟨some 4, .ld1 (.t 3), none, true, []⟩,
  ⟨some 5, .call (.k (.c (.fn 70 [] []))) [(.t 4), (.k (.c (.int .i64 1))), (.k (.c (.int .i64 0))), (.k (.c (.int .i64 63)))], none, true, []⟩,
  ⟨some 6, .mv (.t 5), none, true, []⟩,
  ⟨some 7, .call (.k (.c (.fn 82 [] []))) [(.k (.c (.int .i64 15)))], some (6, true), false, []⟩,
  ⟨some 8, .ldn 16 (.t 1), some (6, true), false, []⟩,
  ⟨some 9, .call (.t 7) [(.t 8)], some (6, true), true, []⟩,
  ⟨some 10, .pick 6 (.t 9) (.k (.c (.bool false))), none, true, []⟩,
  ⟨some 2, .mv (.t 10), none, true, []⟩]
def C84 : ACode :=
  .seq (.region C84r0)
  (.seq (.region C84r1)
  (.ret))
theorem C84_ok : stripF Tryz.prog Tryz.f84 = some C84 := by kernel_rfl
/-! understudy/insn.shapeOf$11 -/
def C85r0 : List AOper := [⟨some 1, .box 23 (.t 0), none, true, []⟩,
  ⟨some 2, .mv (.k (.c (.bool false))), none, true, []⟩]
def C85r1 : List AOper := [⟨some 3, .faddr (.t 1) 6, none, true, []⟩,
  ⟨some 4, .ld1 (.t 3), none, true, []⟩,
  ⟨some 5, .call (.k (.c (.fn 70 [] []))) [(.t 4), (.k (.c (.int .i64 8))), (.k (.c (.int .i64 0))), (.k (.c (.int .i64 32760)))], none, true, []⟩,
  ⟨some 2, .mv (.t 5), none, true, []⟩]
def C85 : ACode :=
  .seq (.region C85r0)
  (.seq (.region C85r1)
  (.ret))
theorem C85_ok : stripF Tryz.prog Tryz.f85 = some C85 := by kernel_rfl
/-! understudy/insn.shapeOf$12 -/
def C86r0 : List AOper := [⟨some 1, .box 23 (.t 0), none, true, []⟩,
  ⟨some 2, .mv (.k (.c (.bool false))), none, true, []⟩]
def C86r1 : List AOper := [⟨some 3, .faddr (.t 1) 8, none, true, []⟩,
  ⟨some 4, .ld1 (.t 3), none, true, []⟩,
  ⟨some 5, .call (.k (.c (.fn 70 [] []))) [(.t 4), (.k (.c (.int .i64 3))), (.k (.c (.int .i64 0))), (.k (.c (.int .i64 3)))], none, true, []⟩,
  ⟨some 2, .mv (.t 5), none, true, []⟩]
def C86 : ACode :=
  .seq (.region C86r0)
  (.seq (.region C86r1)
  (.ret))
theorem C86_ok : stripF Tryz.prog Tryz.f86 = some C86 := by kernel_rfl
/-! understudy/insn.rest -/
def C87r0 : List AOper := [⟨some 2, .alloc 48 [.c (.str ⟨#[]⟩), .c (.nilfn)], none, true, []⟩,
  ⟨some 3, .mv (.k (.c (.bool false))), none, true, []⟩]
def C87r1 : List AOper := [⟨some 4, .mv (.t 0), none, true, []⟩]
def C87r2 : List AOper := [⟨some 6, .bin .eql (.t 4) (.k (.c (.int .i64 21))), none, true, []⟩,
  ⟨some 5, .mv (.t 6), none, true, []⟩]
def C87r3 : List AOper := [⟨some 7, .bin .eql (.t 4) (.k (.c (.int .i64 23))), none, true, []⟩,
  ⟨some 5, .mv (.t 7), none, true, []⟩]
def C87r4 : List AOper := [⟨some 9, .bin .eql (.t 4) (.k (.c (.int .i64 22))), none, true, []⟩,
  ⟨some 8, .mv (.t 9), none, true, []⟩]
def C87r5 : List AOper := [⟨some 11, .bin .eql (.t 4) (.k (.c (.int .i64 24))), none, true, []⟩,
  ⟨some 10, .mv (.t 11), none, true, []⟩]
def C87r6 : List AOper := [⟨some 13, .bin .eql (.t 4) (.k (.c (.int .i64 25))), none, true, []⟩,
  ⟨some 12, .mv (.t 13), none, true, []⟩]
def C87r7 : List AOper := [⟨some 15, .bin .eql (.t 4) (.k (.c (.int .i64 27))), none, true, []⟩,
  ⟨some 14, .mv (.t 15), none, true, []⟩]
def C87r8 : List AOper := [⟨some 17, .bin .eql (.t 4) (.k (.c (.int .i64 29))), none, true, []⟩,
  ⟨some 16, .mv (.t 17), none, true, []⟩]
def C87r9 : List AOper := [⟨some 19, .bin .eql (.t 4) (.k (.c (.int .i64 36))), none, true, []⟩,
  ⟨some 18, .mv (.t 19), none, true, []⟩]
def C87r10 : List AOper := [⟨some 21, .bin .eql (.t 4) (.k (.c (.int .i64 26))), none, true, []⟩,
  ⟨some 20, .mv (.t 21), none, true, []⟩]
def C87r11 : List AOper := [⟨some 23, .bin .eql (.t 4) (.k (.c (.int .i64 28))), none, true, []⟩,
  ⟨some 22, .mv (.t 23), none, true, []⟩]
def C87r12 : List AOper := [⟨some 24, .bin .eql (.t 4) (.k (.c (.int .i64 30))), none, true, []⟩,
  ⟨some 22, .mv (.t 24), none, true, []⟩]
def C87r13 : List AOper := [⟨some 26, .bin .eql (.t 4) (.k (.c (.int .i64 31))), none, true, []⟩,
  ⟨some 25, .mv (.t 26), none, true, []⟩]
def C87r14 : List AOper := [⟨some 27, .bin .eql (.t 4) (.k (.c (.int .i64 32))), none, true, []⟩,
  ⟨some 25, .mv (.t 27), none, true, []⟩]
def C87r15 : List AOper := [⟨some 29, .bin .eql (.t 4) (.k (.c (.int .i64 33))), none, true, []⟩,
  ⟨some 28, .mv (.t 29), none, true, []⟩]
def C87r16 : List AOper := [⟨some 31, .bin .eql (.t 4) (.k (.c (.int .i64 34))), none, true, []⟩,
  ⟨some 30, .mv (.t 31), none, true, []⟩]
def C87r17 : List AOper := [⟨some 32, .bin .eql (.t 4) (.k (.c (.int .i64 35))), none, true, []⟩,
  ⟨some 30, .mv (.t 32), none, true, []⟩]
def C87r18 : List AOper := [⟨some 34, .bin .eql (.t 4) (.k (.c (.int .i64 37))), none, true, []⟩,
  ⟨some 33, .mv (.t 34), none, true, []⟩]
def C87r19 : List AOper := [⟨some 35, .bslice 3 1 [.c (.int .i64 0)] 2 [(0, 1, (.k (.c (.int .i64 0)))), (1, 1, (.k (.c (.int .i64 1))))], none, true, []⟩,
  ⟨some 36, .call (.k (.c (.fn 78 [] []))) [(.t 35)], none, true, []⟩,
  ⟨some 37, .build [.c (.str ⟨#[]⟩), .c (.nilfn)] [(0, 1, (.k (.c (.str ⟨#[100, 110, 115]⟩)))), (1, 1, (.t 36))], none, true, []⟩,
  ⟨none, .stn 2 (.t 2) (.t 37), none, true, []⟩,
  ⟨some 3, .mv (.k (.c (.bool true))), none, true, []⟩]
def C87r20 : List AOper := [⟨some 38, .build [.c (.str ⟨#[]⟩), .c (.nilfn)] [(0, 1, (.k (.c (.str ⟨#[100, 110]⟩)))), (1, 1, (.k (.c (.fn 79 [] []))))], none, true, []⟩,
  ⟨none, .stn 2 (.t 2) (.t 38), none, true, []⟩,
  ⟨some 3, .mv (.k (.c (.bool true))), none, true, []⟩]
def C87r21 : List AOper := [⟨some 39, .bslice 3 1 [.c (.int .i64 0)] 2 [(0, 1, (.k (.c (.int .i64 0)))), (1, 1, (.k (.c (.int .i64 1))))], none, true, []⟩,
  ⟨some 40, .call (.k (.c (.fn 78 [] []))) [(.t 39)], none, true, []⟩,
  ⟨some 41, .build [.c (.str ⟨#[]⟩), .c (.nilfn)] [(0, 1, (.k (.c (.str ⟨#[100, 110, 109, 115]⟩)))), (1, 1, (.t 40))], none, true, []⟩,
  ⟨none, .stn 2 (.t 2) (.t 41), none, true, []⟩,
  ⟨some 3, .mv (.k (.c (.bool true))), none, true, []⟩]
def C87r22 : List AOper := [⟨some 42, .build [.c (.str ⟨#[]⟩), .c (.nilfn)] [(0, 1, (.k (.c (.str ⟨#[]⟩)))), (1, 1, (.k (.c (.fn 79 [] []))))], none, true, []⟩,
  ⟨none, .stn 2 (.t 2) (.t 42), none, true, []⟩,
  ⟨some 3, .mv (.k (.c (.bool true))), none, true, []⟩]
def C87r23 : List AOper := [⟨some 43, .build [.c (.str ⟨#[]⟩), .c (.nilfn)] [(0, 1, (.k (.c (.str ⟨#[115, 105]⟩)))), (1, 1, (.k (.c (.fn 114 [] []))))], none, true, []⟩,
  ⟨none, .stn 2 (.t 2) (.t 43), none, true, []⟩,
  ⟨some 3, .mv (.k (.c (.bool true))), none, true, []⟩]
def C87r24 : List AOper := [⟨some 44, .build [.c (.str ⟨#[]⟩), .c (.nilfn)] [(0, 1, (.k (.c (.str ⟨#[100]⟩)))), (1, 1, (.k (.c (.fn 79 [] []))))], none, true, []⟩,
  ⟨none, .stn 2 (.t 2) (.t 44), none, true, []⟩,
  ⟨some 3, .mv (.k (.c (.bool true))), none, true, []⟩]
def C87r25 : List AOper := [⟨some 45, .build [.c (.str ⟨#[]⟩), .c (.nilfn)] [(0, 1, (.k (.c (.str ⟨#[100, 121]⟩)))), (1, 1, (.k (.c (.fn 115 [] []))))], none, true, []⟩,
  ⟨none, .stn 2 (.t 2) (.t 45), none, true, []⟩,
  ⟨some 3, .mv (.k (.c (.bool true))), none, true, []⟩]
def C87r26 : List AOper := [⟨some 46, .build [.c (.str ⟨#[]⟩), .c (.nilfn)] [(0, 1, (.k (.c (.str ⟨#[115, 105]⟩)))), (1, 1, (.k (.c (.fn 117 [] []))))], none, true, []⟩,
  ⟨none, .stn 2 (.t 2) (.t 46), none, true, []⟩,
  ⟨some 3, .mv (.k (.c (.bool true))), none, true, []⟩]
def C87r27 : List AOper := [⟨some 47, .build [.c (.str ⟨#[]⟩), .c (.nilfn)] [(0, 1, (.k (.c (.str ⟨#[105]⟩)))), (1, 1, (.k (.c (.fn 118 [] []))))], none, true, []⟩,
  ⟨none, .stn 2 (.t 2) (.t 47), none, true, []⟩,
  ⟨some 3, .mv (.k (.c (.bool true))), none, true, []⟩]
def C87r28 : List AOper := [⟨some 48, .build [.c (.str ⟨#[]⟩), .c (.nilfn)] [(0, 1, (.k (.c (.str ⟨#[105]⟩)))), (1, 1, (.k (.c (.fn 119 [] []))))], none, true, []⟩,
  ⟨none, .stn 2 (.t 2) (.t 48), none, true, []⟩,
  ⟨some 3, .mv (.k (.c (.bool true))), none, true, []⟩]
def C87r29 : List AOper := [⟨some 49, .build [.c (.str ⟨#[]⟩), .c (.nilfn)] [], none, true, []⟩,
  ⟨none, .stn 2 (.t 2) (.t 49), none, true, []⟩,
  ⟨some 3, .mv (.k (.c (.bool false))), none, true, []⟩]
def C87 : ACode :=
  .seq (.region C87r0)
  (.seq (.seq (.region C87r1)
  (.block 0
   (.seq (.block 13
    (.seq (.block 12
     (.seq (.block 11
      (.seq (.block 10
       (.seq (.block 9
        (.seq (.block 8
         (.seq (.block 7
          (.block 6
           (.block 5
            (.block 4
             (.seq (.block 3
              (.seq (.block 2
               (.seq (.block 1
                (.seq (.seq (.seq (.seq (.region C87r2)
                (.cond (.t 5)
                 (.skip)
                 (.region C87r3)))
                (.cond (.t 5)
                 (.exit 1)
                 (.skip)))
                (.seq (.seq (.region C87r4)
                (.cond (.t 8)
                 (.exit 2)
                 (.skip)))
                (.seq (.seq (.region C87r5)
                (.cond (.t 10)
                 (.exit 3)
                 (.skip)))
                (.seq (.seq (.region C87r6)
                (.cond (.t 12)
                 (.exit 4)
                 (.skip)))
                (.seq (.seq (.region C87r7)
                (.cond (.t 14)
                 (.exit 5)
                 (.skip)))
                (.seq (.seq (.region C87r8)
                (.cond (.t 16)
                 (.exit 6)
                 (.skip)))
                (.seq (.seq (.region C87r9)
                (.cond (.t 18)
                 (.exit 7)
                 (.skip)))
                (.seq (.seq (.region C87r10)
                (.cond (.t 20)
                 (.exit 8)
                 (.skip)))
                (.seq (.seq (.seq (.region C87r11)
                (.cond (.t 22)
                 (.skip)
                 (.region C87r12)))
                (.cond (.t 22)
                 (.exit 9)
                 (.skip)))
                (.seq (.seq (.seq (.region C87r13)
                (.cond (.t 25)
                 (.skip)
                 (.region C87r14)))
                (.cond (.t 25)
                 (.exit 10)
                 (.skip)))
                (.seq (.seq (.region C87r15)
                (.cond (.t 28)
                 (.exit 11)
                 (.skip)))
                (.seq (.seq (.seq (.region C87r16)
                (.cond (.t 30)
                 (.skip)
                 (.region C87r17)))
                (.cond (.t 30)
                 (.exit 12)
                 (.skip)))
                (.seq (.region C87r18)
                (.cond (.t 33)
                 (.exit 13)
                 (.skip)))))))))))))))
                (.exit 0)))
               (.seq (.seq (.region C87r19)
               (.ret))
               (.exit 0))))
              (.seq (.seq (.region C87r20)
              (.ret))
              (.exit 0))))
             (.seq (.seq (.region C87r21)
             (.ret))
             (.exit 0)))))))
         (.seq (.seq (.region C87r22)
         (.ret))
         (.exit 0))))
        (.seq (.seq (.region C87r23)
        (.ret))
        (.exit 0))))
       (.seq (.seq (.region C87r24)
       (.ret))
       (.exit 0))))
      (.seq (.seq (.region C87r25)
      (.ret))
      (.exit 0))))
     (.seq (.seq (.region C87r26)
     (.ret))
     (.exit 0))))
    (.seq (.seq (.region C87r27)
    (.ret))
    (.exit 0))))
   (.seq (.seq (.region C87r28)
   (.ret))
   (.exit 0)))))
  (.seq (.region C87r29)
  (.ret)))
theorem C87_ok : stripF Tryz.prog Tryz.f87 = some C87 := by kernel_rfl
/-! (understudy/code.word).put -/
def C88r0 : List AOper := [⟨some 8, .mv (.k (.c (.int .u32 0))), none, true, []⟩]
def C88r1 : List AOper := [⟨some 9, .mv (.t 0), none, true, []⟩,
  ⟨some 10, .mv (.t 1), none, true, []⟩,
  ⟨some 11, .conv .u32 (.t 10), none, true, []⟩,
  ⟨some 12, .mv (.t 3), none, true, []⟩,
  ⟨some 13, .bin .shl (.k (.c (.int .u32 1))) (.t 12), none, true, []⟩,
  ⟨some 14, .bin .sub (.t 13) (.k (.c (.int .u32 1))), none, true, []⟩,
  ⟨some 15, .bin .and (.t 11) (.t 14), none, true, []⟩,
  ⟨some 16, .mv (.t 2), none, true, []⟩,
  ⟨some 17, .bin .shl (.t 15) (.t 16), none, true, []⟩,
  ⟨some 18, .bin .or (.t 9) (.t 17), none, true, []⟩,
  ⟨some 8, .mv (.t 18), none, true, []⟩]
def C88 : ACode :=
  .seq (.region C88r0)
  (.seq (.region C88r1)
  (.ret))
theorem C88_ok : stripF Tryz.prog Tryz.f88 = some C88 := by kernel_rfl
/-! (understudy/code.word).flag -/
def C89r0 : List AOper := [⟨some 6, .mv (.k (.c (.int .u32 0))), none, true, []⟩]
def C89r1 : List AOper := [⟨some 7, .mv (.t 1), none, true, []⟩]
def C89r2 : List AOper := [⟨some 8, .mv (.t 0), none, true, []⟩,
  ⟨some 9, .mv (.t 2), none, true, []⟩,
  ⟨some 10, .bin .or (.t 8) (.t 9), none, true, []⟩,
  ⟨some 0, .mv (.t 10), none, true, []⟩]
def C89r3 : List AOper := [⟨some 11, .mv (.t 0), none, true, []⟩,
  ⟨some 6, .mv (.t 11), none, true, []⟩]
def C89 : ACode :=
  .seq (.region C89r0)
  (.seq (.seq (.region C89r1)
  (.cond (.t 7)
   (.region C89r2)
   (.skip)))
  (.seq (.region C89r3)
  (.ret)))
theorem C89_ok : stripF Tryz.prog Tryz.f89 = some C89 := by kernel_rfl
/-! (understudy/code.word).insn -/
def C90r0 : List AOper := [⟨some 4, .alloc 23 [.c (.int .i64 0), .c (.int .i64 0), .c (.int .i64 0), .c (.int .i64 0), .c (.int .i64 0), .c (.int .i64 0), .c (.int .i64 0), .c (.int .i64 0), .c (.int .i64 0), .c (.int .i64 0), .c (.int .i64 0), .c (.int .i64 0), .c (.bool false), .c (.bool false), .c (.bool false), .c (.bool false)], none, true, []⟩]
def C90r1 : List AOper := [⟨some 5, .mv (.t 1), none, true, []⟩,
  ⟨some 6, .mv (.t 0), none, true, []⟩,
  ⟨some 7, .call (.k (.c (.fn 91 [] []))) [(.t 6), (.k (.c (.int .i64 0))), (.k (.c (.int .i64 5)))], none, true, []⟩,
  ⟨some 8, .mv (.t 0), none, true, []⟩,
  ⟨some 9, .call (.k (.c (.fn 91 [] []))) [(.t 8), (.k (.c (.int .i64 5))), (.k (.c (.int .i64 5)))], none, true, []⟩,
  ⟨some 10, .mv (.t 0), none, true, []⟩,
  ⟨some 11, .call (.k (.c (.fn 91 [] []))) [(.t 10), (.k (.c (.int .i64 16))), (.k (.c (.int .i64 5)))], none, true, []⟩,
  ⟨some 12, .build [.c (.int .i64 0), .c (.int .i64 0), .c (.int .i64 0), .c (.int .i64 0), .c (.int .i64 0), .c (.int .i64 0), .c (.int .i64 0), .c (.int .i64 0), .c (.int .i64 0), .c (.int .i64 0), .c (.int .i64 0), .c (.int .i64 0), .c (.bool false), .c (.bool false), .c (.bool false), .c (.bool false)] [(0, 1, (.t 5)), (2, 1, (.t 7)), (3, 1, (.t 9)), (4, 1, (.t 11))], none, true, []⟩,
  ⟨none, .stn 16 (.t 4) (.t 12), none, true, []⟩]
def C90 : ACode :=
  .seq (.region C90r0)
  (.seq (.region C90r1)
  (.ret))
theorem C90_ok : stripF Tryz.prog Tryz.f90 = some C90 := by kernel_rfl
/-! (understudy/code.word).get -/
def C91r0 : List AOper := [⟨some 6, .mv (.k (.c (.int .i64 0))), none, true, []⟩]
def C91r1 : List AOper := [⟨some 7, .mv (.t 0), none, false, []⟩,
  ⟨some 8, .mv (.t 1), none, false, []⟩,
  ⟨some 9, .bin .shr (.t 7) (.t 8), none, false, []⟩,
  ⟨some 10, .mv (.t 2), none, false, []⟩,
  ⟨some 11, .bin .shl (.k (.c (.int .u32 1))) (.t 10), none, false, []⟩,
  ⟨some 12, .bin .sub (.t 11) (.k (.c (.int .u32 1))), none, false, []⟩,
  ⟨some 13, .bin .and (.t 9) (.t 12), none, true, []⟩,
  ⟨some 14, .conv .i64 (.t 13), none, true, []⟩,
  ⟨some 6, .mv (.t 14), none, true, []⟩]
def C91 : ACode :=
  .seq (.region C91r0)
  (.seq (.region C91r1)
  (.ret))
theorem C91_ok : stripF Tryz.prog Tryz.f91 = some C91 := by kernel_rfl
/-! (understudy/code.word).has -/
def C92r0 : List AOper := [⟨some 4, .mv (.k (.c (.bool false))), none, true, []⟩]
def C92r1 : List AOper := [⟨some 5, .mv (.t 0), none, true, []⟩,
  ⟨some 6, .mv (.t 1), none, true, []⟩,
  ⟨some 7, .bin .and (.t 5) (.t 6), none, true, []⟩,
  ⟨some 8, .mv (.t 1), none, true, []⟩,
  ⟨some 9, .bin .eql (.t 7) (.t 8), none, true, []⟩,
  ⟨some 4, .mv (.t 9), none, true, []⟩]
def C92 : ACode :=
  .seq (.region C92r0)
  (.seq (.region C92r1)
  (.ret))
theorem C92_ok : stripF Tryz.prog Tryz.f92 = some C92 := by kernel_rfl
/-! understudy/code.logic -/
def C93r0 : List AOper := [⟨some 1, .box 23 (.t 0), none, true, []⟩,
  ⟨some 2, .mv (.k (.c (.int .i64 0))), none, true, []⟩]
def C93r1 : List AOper := [⟨some 3, .faddr (.t 1) 12, none, true, []⟩,
  ⟨some 4, .ld1 (.t 3), none, true, []⟩]
def C93r2 : List AOper := [⟨some 2, .mv (.k (.c (.int .i64 3))), none, true, []⟩]
def C93r3 : List AOper := [⟨some 5, .faddr (.t 1) 1, none, true, []⟩,
  ⟨some 6, .ld1 (.t 5), none, true, []⟩,
  ⟨some 2, .mv (.t 6), none, true, []⟩]
def C93 : ACode :=
  .seq (.region C93r0)
  (.seq (.seq (.region C93r1)
  (.cond (.t 4)
   (.seq (.region C93r2)
   (.ret))
   (.skip)))
  (.seq (.region C93r3)
  (.ret)))
theorem C93_ok : stripF Tryz.prog Tryz.f93 = some C93 := by kernel_rfl
/-! understudy/code.unlogic -/
def C94r0 : List AOper := [⟨some 2, .box 23 (.t 0), none, true, []⟩,
  ⟨some 4, .alloc 23 [.c (.int .i64 0), .c (.int .i64 0), .c (.int .i64 0), .c (.int .i64 0), .c (.int .i64 0), .c (.int .i64 0), .c (.int .i64 0), .c (.int .i64 0), .c (.int .i64 0), .c (.int .i64 0), .c (.int .i64 0), .c (.int .i64 0), .c (.bool false), .c (.bool false), .c (.bool false), .c (.bool false)], none, true, []⟩]
def C94r1 : List AOper := [⟨some 5, .mv (.t 1), none, true, []⟩,
  ⟨some 6, .mv (.t 1), none, true, []⟩,
  ⟨some 7, .bin .eql (.t 6) (.k (.c (.int .i64 3))), none, true, []⟩,
  ⟨some 8, .faddr (.t 2) 1, none, true, []⟩,
  ⟨none, .st1 (.t 8) (.t 5), none, true, []⟩,
  ⟨some 9, .faddr (.t 2) 12, none, true, []⟩,
  ⟨none, .st1 (.t 9) (.t 7), none, true, []⟩]
def C94r2 : List AOper := [⟨some 10, .faddr (.t 2) 12, none, true, []⟩,
  ⟨some 11, .ld1 (.t 10), none, true, []⟩]
def C94r3 : List AOper := [⟨some 12, .faddr (.t 2) 1, none, true, []⟩,
  ⟨none, .st1 (.t 12) (.k (.c (.int .i64 0))), none, true, []⟩]
def C94r4 : List AOper := [⟨some 13, .ldn 16 (.t 2), none, true, []⟩,
  ⟨none, .stn 16 (.t 4) (.t 13), none, true, []⟩]
def C94 : ACode :=
  .seq (.region C94r0)
  (.seq (.region C94r1)
  (.seq (.seq (.region C94r2)
  (.cond (.t 11)
   (.region C94r3)
   (.skip)))
  (.seq (.region C94r4)
  (.ret))))
theorem C94_ok : stripF Tryz.prog Tryz.f94 = some C94 := by kernel_rfl
/-! (understudy/code.word).signed -/
def C95r0 : List AOper := [⟨some 6, .mv (.k (.c (.int .i64 0))), none, true, []⟩]
def C95r1 : List AOper := [⟨some 7, .mv (.t 0), none, true, []⟩,
  ⟨some 8, .mv (.t 1), none, true, []⟩,
  ⟨some 9, .bin .sub (.k (.c (.int .i64 32))) (.t 8), none, true, []⟩,
  ⟨some 10, .mv (.t 2), none, true, []⟩,
  ⟨some 11, .bin .sub (.t 9) (.t 10), none, true, []⟩,
  ⟨some 12, .bin .shl (.t 7) (.t 11), none, true, []⟩,
  ⟨some 13, .conv .i32 (.t 12), none, true, []⟩,
  ⟨some 14, .mv (.t 2), none, true, []⟩,
  ⟨some 15, .bin .sub (.k (.c (.int .i64 32))) (.t 14), none, true, []⟩,
  ⟨some 16, .bin .shr (.t 13) (.t 15), none, true, []⟩,
  ⟨some 17, .conv .i64 (.t 16), none, true, []⟩,
  ⟨some 6, .mv (.t 17), none, true, []⟩]
def C95 : ACode :=
  .seq (.region C95r0)
  (.seq (.region C95r1)
  (.ret))
theorem C95_ok : stripF Tryz.prog Tryz.f95 = some C95 := by kernel_rfl
/-! understudy/code.access$1 -/
def C96r0 : List AOper := [⟨some 3, .alloc 23 [.c (.int .i64 0), .c (.int .i64 0), .c (.int .i64 0), .c (.int .i64 0), .c (.int .i64 0), .c (.int .i64 0), .c (.int .i64 0), .c (.int .i64 0), .c (.int .i64 0), .c (.int .i64 0), .c (.int .i64 0), .c (.int .i64 0), .c (.bool false), .c (.bool false), .c (.bool false), .c (.bool false)], none, true, []⟩]
def C96r1 : List AOper := [⟨some 4, .ld1 (.t 1), none, false, []⟩,
  ⟨some 5, .mv (.t 0), none, false, []⟩,
  ⟨some 6, .call (.k (.c (.fn 91 [] []))) [(.t 5), (.k (.c (.int .i64 0))), (.k (.c (.int .i64 5)))], none, false, []⟩,
  ⟨some 7, .mv (.t 0), none, false, []⟩,
  ⟨some 8, .call (.k (.c (.fn 91 [] []))) [(.t 7), (.k (.c (.int .i64 5))), (.k (.c (.int .i64 5)))], none, false, []⟩,
  ⟨some 9, .mv (.t 0), none, false, []⟩,
  ⟨some 10, .call (.k (.c (.fn 91 [] []))) [(.t 9), (.k (.c (.int .i64 10))), (.k (.c (.int .i64 12)))], none, false, []⟩,
  ⟨some 11, .bin .mul (.k (.c (.int .i64 8))) (.t 10), none, false, []⟩,
  ⟨some 12, .build [.c (.int .i64 0), .c (.int .i64 0), .c (.int .i64 0), .c (.int .i64 0), .c (.int .i64 0), .c (.int .i64 0), .c (.int .i64 0), .c (.int .i64 0), .c (.int .i64 0), .c (.int .i64 0), .c (.int .i64 0), .c (.int .i64 0), .c (.bool false), .c (.bool false), .c (.bool false), .c (.bool false)] [(0, 1, (.t 4)), (2, 1, (.t 6)), (3, 1, (.t 8)), (6, 1, (.t 11))], none, true, []⟩,
  ⟨none, .stn 16 (.t 3) (.t 12), none, true, []⟩]
def C96 : ACode :=
  .seq (.region C96r0)
  (.seq (.region C96r1)
  (.ret))
theorem C96_ok : stripF Tryz.prog Tryz.f96 = some C96 := by kernel_rfl
/-! understudy/code.accessReg$1 -/
def C97r0 : List AOper := [⟨some 3, .alloc 23 [.c (.int .i64 0), .c (.int .i64 0), .c (.int .i64 0), .c (.int .i64 0), .c (.int .i64 0), .c (.int .i64 0), .c (.int .i64 0), .c (.int .i64 0), .c (.int .i64 0), .c (.int .i64 0), .c (.int .i64 0), .c (.int .i64 0), .c (.bool false), .c (.bool false), .c (.bool false), .c (.bool false)], none, true, []⟩]
def C97r1 : List AOper := [⟨some 5, .mv (.t 0), none, true, []⟩,
  ⟨some 6, .ld1 (.t 1), none, true, []⟩,
  ⟨some 7, .call (.k (.c (.fn 90 [] []))) [(.t 5), (.t 6)], none, true, []⟩,
  ⟨some 4, .alloc 23 [.c (.int .i64 0), .c (.int .i64 0), .c (.int .i64 0), .c (.int .i64 0), .c (.int .i64 0), .c (.int .i64 0), .c (.int .i64 0), .c (.int .i64 0), .c (.int .i64 0), .c (.int .i64 0), .c (.int .i64 0), .c (.int .i64 0), .c (.bool false), .c (.bool false), .c (.bool false), .c (.bool false)], none, true, []⟩,
  ⟨none, .stn 16 (.t 4) (.t 7), none, true, []⟩]
def C97r2 : List AOper := [⟨some 8, .mv (.t 0), none, true, []⟩,
  ⟨some 9, .call (.k (.c (.fn 91 [] []))) [(.t 8), (.k (.c (.int .i64 12))), (.k (.c (.int .i64 1)))], none, true, []⟩,
  ⟨some 10, .bin .mul (.k (.c (.int .i64 3))) (.t 9), none, true, []⟩,
  ⟨some 11, .faddr (.t 4) 8, none, true, []⟩,
  ⟨none, .st1 (.t 11) (.t 10), none, true, []⟩]
def C97r3 : List AOper := [⟨some 12, .ldn 16 (.t 4), none, true, []⟩,
  ⟨none, .stn 16 (.t 3) (.t 12), none, true, []⟩]
def C97 : ACode :=
  .seq (.region C97r0)
  (.seq (.region C97r1)
  (.seq (.region C97r2)
  (.seq (.region C97r3)
  (.ret))))
theorem C97_ok : stripF Tryz.prog Tryz.f97 = some C97 := by kernel_rfl
/-! understudy/code.two$1 -/
def C98r0 : List AOper := [⟨some 4, .alloc 23 [.c (.int .i64 0), .c (.int .i64 0), .c (.int .i64 0), .c (.int .i64 0), .c (.int .i64 0), .c (.int .i64 0), .c (.int .i64 0), .c (.int .i64 0), .c (.int .i64 0), .c (.int .i64 0), .c (.int .i64 0), .c (.int .i64 0), .c (.bool false), .c (.bool false), .c (.bool false), .c (.bool false)], none, true, []⟩]
def C98r1 : List AOper := [⟨some 5, .ld1 (.t 1), none, false, []⟩,
  ⟨some 6, .ld1 (.t 2), none, false, []⟩,
  ⟨some 7, .mv (.t 0), none, false, []⟩,
  ⟨some 8, .call (.k (.c (.fn 91 [] []))) [(.t 7), (.k (.c (.int .i64 0))), (.k (.c (.int .i64 5)))], none, false, []⟩,
  ⟨some 9, .mv (.t 0), none, false, []⟩,
  ⟨some 10, .call (.k (.c (.fn 91 [] []))) [(.t 9), (.k (.c (.int .i64 5))), (.k (.c (.int .i64 5)))], none, false, []⟩,
  ⟨some 11, .build [.c (.int .i64 0), .c (.int .i64 0), .c (.int .i64 0), .c (.int .i64 0), .c (.int .i64 0), .c (.int .i64 0), .c (.int .i64 0), .c (.int .i64 0), .c (.int .i64 0), .c (.int .i64 0), .c (.int .i64 0), .c (.int .i64 0), .c (.bool false), .c (.bool false), .c (.bool false), .c (.bool false)] [(0, 1, (.t 5)), (1, 1, (.t 6)), (2, 1, (.t 8)), (3, 1, (.t 10))], none, true, []⟩,
  ⟨none, .stn 16 (.t 4) (.t 11), none, true, []⟩]
def C98 : ACode :=
  .seq (.region C98r0)
  (.seq (.region C98r1)
  (.ret))
theorem C98_ok : stripF Tryz.prog Tryz.f98 = some C98 := by kernel_rfl
/-! understudy/code.exclusive$1 -/
def C99r0 : List AOper := [⟨some 3, .alloc 23 [.c (.int .i64 0), .c (.int .i64 0), .c (.int .i64 0), .c (.int .i64 0), .c (.int .i64 0), .c (.int .i64 0), .c (.int .i64 0), .c (.int .i64 0), .c (.int .i64 0), .c (.int .i64 0), .c (.int .i64 0), .c (.int .i64 0), .c (.bool false), .c (.bool false), .c (.bool false), .c (.bool false)], none, true, []⟩]
def C99r1 : List AOper := [⟨some 5, .mv (.t 0), none, true, []⟩,
  ⟨some 6, .ld1 (.t 1), none, true, []⟩,
  ⟨some 7, .call (.k (.c (.fn 90 [] []))) [(.t 5), (.t 6)], none, true, []⟩,
  ⟨some 4, .alloc 23 [.c (.int .i64 0), .c (.int .i64 0), .c (.int .i64 0), .c (.int .i64 0), .c (.int .i64 0), .c (.int .i64 0), .c (.int .i64 0), .c (.int .i64 0), .c (.int .i64 0), .c (.int .i64 0), .c (.int .i64 0), .c (.int .i64 0), .c (.bool false), .c (.bool false), .c (.bool false), .c (.bool false)], none, true, []⟩,
  ⟨none, .stn 16 (.t 4) (.t 7), none, true, []⟩]
def C99r2 : List AOper := [⟨some 8, .mv (.t 0), none, true, []⟩,
  ⟨some 9, .call (.k (.c (.fn 91 [] []))) [(.t 8), (.k (.c (.int .i64 15))), (.k (.c (.int .i64 1)))], none, true, []⟩,
  ⟨some 10, .faddr (.t 4) 1, none, true, []⟩,
  ⟨none, .st1 (.t 10) (.t 9), none, true, []⟩]
def C99r3 : List AOper := [⟨some 11, .ld1 (.t 1), none, true, []⟩,
  ⟨some 12, .bin .eql (.t 11) (.k (.c (.int .i64 23))), none, true, []⟩]
def C99r4 : List AOper := [⟨some 13, .faddr (.t 4) 4, none, true, []⟩,
  ⟨none, .st1 (.t 13) (.k (.c (.int .i64 0))), none, true, []⟩]
def C99r5 : List AOper := [⟨some 14, .ldn 16 (.t 4), none, true, []⟩,
  ⟨none, .stn 16 (.t 3) (.t 14), none, true, []⟩]
def C99 : ACode :=
  .seq (.region C99r0)
  (.seq (.region C99r1)
  (.seq (.seq (.region C99r2)
  (.seq (.region C99r3)
  (.cond (.t 12)
   (.region C99r4)
   (.skip))))
  (.seq (.region C99r5)
  (.ret))))
theorem C99_ok : stripF Tryz.prog Tryz.f99 = some C99 := by kernel_rfl
/-! understudy/code.plain$1 -/
def C100r0 : List AOper := [⟨some 3, .alloc 23 [.c (.int .i64 0), .c (.int .i64 0), .c (.int .i64 0), .c (.int .i64 0), .c (.int .i64 0), .c (.int .i64 0), .c (.int .i64 0), .c (.int .i64 0), .c (.int .i64 0), .c (.int .i64 0), .c (.int .i64 0), .c (.int .i64 0), .c (.bool false), .c (.bool false), .c (.bool false), .c (.bool false)], none, true, []⟩]
def C100r1 : List AOper := [⟨some 4, .ld1 (.t 1), none, true, []⟩,
  ⟨some 5, .build [.c (.int .i64 0), .c (.int .i64 0), .c (.int .i64 0), .c (.int .i64 0), .c (.int .i64 0), .c (.int .i64 0), .c (.int .i64 0), .c (.int .i64 0), .c (.int .i64 0), .c (.int .i64 0), .c (.int .i64 0), .c (.int .i64 0), .c (.bool false), .c (.bool false), .c (.bool false), .c (.bool false)] [(0, 1, (.t 4))], none, true, []⟩,
  ⟨none, .stn 16 (.t 3) (.t 5), none, true, []⟩]
def C100 : ACode :=
  .seq (.region C100r0)
  (.seq (.region C100r1)
  (.ret))
theorem C100_ok : stripF Tryz.prog Tryz.f100 = some C100 := by kernel_rfl
/-! understudy/code.putNumber$1 -/
def C101r0 : List AOper := [⟨some 5, .box 23 (.t 1), none, true, []⟩,
  ⟨some 6, .mv (.k (.c (.int .u32 0))), none, true, []⟩]
def C101r1 : List AOper := [⟨some 7, .mv (.t 0), none, true, []⟩,
  ⟨some 8, .faddr (.t 5) 6, none, true, []⟩,
  ⟨some 9, .ld1 (.t 8), none, true, []⟩,
  ⟨some 10, .ld1 (.t 2), none, true, []⟩,
  ⟨some 11, .ld1 (.t 3), none, true, []⟩,
  ⟨some 12, .call (.k (.c (.fn 88 [] []))) [(.t 7), (.t 9), (.t 10), (.t 11)], none, true, []⟩,
  ⟨some 6, .mv (.t 12), none, true, []⟩]
def C101 : ACode :=
  .seq (.region C101r0)
  (.seq (.region C101r1)
  (.ret))
theorem C101_ok : stripF Tryz.prog Tryz.f101 = some C101 := by kernel_rfl
/-! understudy/code.number$1 -/
def C102r0 : List AOper := [⟨some 6, .alloc 23 [.c (.int .i64 0), .c (.int .i64 0), .c (.int .i64 0), .c (.int .i64 0), .c (.int .i64 0), .c (.int .i64 0), .c (.int .i64 0), .c (.int .i64 0), .c (.int .i64 0), .c (.int .i64 0), .c (.int .i64 0), .c (.int .i64 0), .c (.bool false), .c (.bool false), .c (.bool false), .c (.bool false)], none, true, []⟩]
def C102r1 : List AOper := [⟨some 7, .ld1 (.t 1), none, false, []⟩,
  ⟨some 8, .ld1 (.t 2), none, false, []⟩,
  ⟨some 9, .mv (.t 0), none, false, []⟩,
  ⟨some 10, .ld1 (.t 3), none, false, []⟩,
  ⟨some 11, .ld1 (.t 4), none, false, []⟩,
  ⟨some 12, .call (.k (.c (.fn 91 [] []))) [(.t 9), (.t 10), (.t 11)], none, false, []⟩,
  ⟨some 13, .build [.c (.int .i64 0), .c (.int .i64 0), .c (.int .i64 0), .c (.int .i64 0), .c (.int .i64 0), .c (.int .i64 0), .c (.int .i64 0), .c (.int .i64 0), .c (.int .i64 0), .c (.int .i64 0), .c (.int .i64 0), .c (.int .i64 0), .c (.bool false), .c (.bool false), .c (.bool false), .c (.bool false)] [(0, 1, (.t 7)), (1, 1, (.t 8)), (6, 1, (.t 12))], none, true, []⟩,
  ⟨none, .stn 16 (.t 6) (.t 13), none, true, []⟩]
def C102 : ACode :=
  .seq (.region C102r0)
  (.seq (.region C102r1)
  (.ret))
theorem C102_ok : stripF Tryz.prog Tryz.f102 = some C102 := by kernel_rfl
/-! understudy/code.target$1 -/
def C103r0 : List AOper := [⟨some 3, .alloc 23 [.c (.int .i64 0), .c (.int .i64 0), .c (.int .i64 0), .c (.int .i64 0), .c (.int .i64 0), .c (.int .i64 0), .c (.int .i64 0), .c (.int .i64 0), .c (.int .i64 0), .c (.int .i64 0), .c (.int .i64 0), .c (.int .i64 0), .c (.bool false), .c (.bool false), .c (.bool false), .c (.bool false)], none, true, []⟩]
def C103r1 : List AOper := [⟨some 4, .ld1 (.t 1), none, false, []⟩,
  ⟨some 5, .mv (.t 0), none, false, []⟩,
  ⟨some 6, .call (.k (.c (.fn 91 [] []))) [(.t 5), (.k (.c (.int .i64 0))), (.k (.c (.int .i64 5)))], none, false, []⟩,
  ⟨some 7, .build [.c (.int .i64 0), .c (.int .i64 0), .c (.int .i64 0), .c (.int .i64 0), .c (.int .i64 0), .c (.int .i64 0), .c (.int .i64 0), .c (.int .i64 0), .c (.int .i64 0), .c (.int .i64 0), .c (.int .i64 0), .c (.int .i64 0), .c (.bool false), .c (.bool false), .c (.bool false), .c (.bool false)] [(0, 1, (.t 4)), (2, 1, (.t 6))], none, true, []⟩,
  ⟨none, .stn 16 (.t 3) (.t 7), none, true, []⟩]
def C103 : ACode :=
  .seq (.region C103r0)
  (.seq (.region C103r1)
  (.ret))
theorem C103_ok : stripF Tryz.prog Tryz.f103 = some C103 := by kernel_rfl
/-! understudy/code.system$1 -/
def C104r0 : List AOper := [⟨some 3, .alloc 23 [.c (.int .i64 0), .c (.int .i64 0), .c (.int .i64 0), .c (.int .i64 0), .c (.int .i64 0), .c (.int .i64 0), .c (.int .i64 0), .c (.int .i64 0), .c (.int .i64 0), .c (.int .i64 0), .c (.int .i64 0), .c (.int .i64 0), .c (.bool false), .c (.bool false), .c (.bool false), .c (.bool false)], none, true, []⟩]
def C104r1 : List AOper := [⟨some 4, .ld1 (.t 1), none, false, []⟩,
  ⟨some 5, .mv (.t 0), none, false, []⟩,
  ⟨some 6, .call (.k (.c (.fn 91 [] []))) [(.t 5), (.k (.c (.int .i64 0))), (.k (.c (.int .i64 5)))], none, false, []⟩,
  ⟨some 7, .mv (.t 0), none, false, []⟩,
  ⟨some 8, .call (.k (.c (.fn 91 [] []))) [(.t 7), (.k (.c (.int .i64 5))), (.k (.c (.int .i64 15)))], none, false, []⟩,
  ⟨some 9, .build [.c (.int .i64 0), .c (.int .i64 0), .c (.int .i64 0), .c (.int .i64 0), .c (.int .i64 0), .c (.int .i64 0), .c (.int .i64 0), .c (.int .i64 0), .c (.int .i64 0), .c (.int .i64 0), .c (.int .i64 0), .c (.int .i64 0), .c (.bool false), .c (.bool false), .c (.bool false), .c (.bool false)] [(0, 1, (.t 4)), (2, 1, (.t 6)), (11, 1, (.t 8))], none, true, []⟩,
  ⟨none, .stn 16 (.t 3) (.t 9), none, true, []⟩]
def C104 : ACode :=
  .seq (.region C104r0)
  (.seq (.region C104r1)
  (.ret))
theorem C104_ok : stripF Tryz.prog Tryz.f104 = some C104 := by kernel_rfl
/-! math/bits.Len -/
def C109r0 : List AOper := [⟨some 2, .mv (.k (.c (.int .i64 0))), none, true, []⟩]
def C109r1 : List AOper := [⟨some 3, .mv (.t 0), none, true, []⟩,
  ⟨some 4, .conv .u32 (.t 3), none, true, []⟩,
  ⟨some 5, .call (.k (.c (.fn 120 [] []))) [(.t 4)], none, true, []⟩,
  ⟨some 2, .mv (.t 5), none, true, []⟩]
def C109r2 : List AOper := [⟨some 6, .mv (.t 0), none, true, []⟩,
  ⟨some 7, .call (.k (.c (.fn 121 [] []))) [(.t 6)], none, true, []⟩,
  ⟨some 2, .mv (.t 7), none, true, []⟩]
def C109 : ACode :=
  .seq (.region C109r0)
  (.seq (.cond (.k (.c (.bool false)))
   (.seq (.region C109r1)
   (.ret))
   (.skip))
  (.seq (.region C109r2)
  (.ret)))
theorem C109_ok : stripF Tryz.prog Tryz.f109 = some C109 := by kernel_rfl
/-! understudy/bits.Ror -/
def C110r0 : List AOper := [⟨some 6, .mv (.k (.c (.int .u64 0))), none, true, []⟩,
  ⟨some 7, .mv (.k (.c (.int .i64 0))), none, true, []⟩]
def C110r1 : List AOper := [⟨some 9, .mv (.t 2), none, true, []⟩,
  ⟨some 10, .bin .lss (.t 9) (.k (.c (.int .i64 1))), none, true, []⟩,
  ⟨some 11, .mv (.t 10), none, true, []⟩,
  ⟨some 12, .mv (.t 2), some (11, false), true, []⟩,
  ⟨some 13, .bin .gtr (.t 12) (.k (.c (.int .i64 64))), some (11, false), true, []⟩,
  ⟨some 14, .pick 11 (.k (.c (.bool true))) (.t 13), none, true, []⟩,
  ⟨some 15, .mv (.t 14), none, true, []⟩,
  ⟨some 16, .mv (.t 1), some (15, false), true, []⟩,
  ⟨some 17, .bin .lss (.t 16) (.k (.c (.int .i64 0))), some (15, false), true, []⟩,
  ⟨some 18, .pick 15 (.k (.c (.bool true))) (.t 17), none, true, []⟩]
def C110r2 : List AOper := [⟨some 6, .mv (.k (.c (.int .u64 0))), none, true, []⟩,
  ⟨some 7, .mv (.k (.c (.int .i64 1))), none, true, []⟩]
def C110r3 : List AOper := [⟨some 19, .mv (.t 2), none, true, []⟩,
  ⟨some 20, .bin .lss (.t 19) (.k (.c (.int .i64 64))), none, true, []⟩,
  ⟨some 21, .mv (.t 20), none, true, []⟩,
  ⟨some 22, .mv (.t 0), some (21, true), true, []⟩,
  ⟨some 23, .mv (.t 2), some (21, true), true, []⟩,
  ⟨some 24, .bin .shr (.t 22) (.t 23), some (21, true), true, []⟩,
  ⟨some 25, .bin .neq (.t 24) (.k (.c (.int .u64 0))), some (21, true), true, []⟩,
  ⟨some 26, .pick 21 (.t 25) (.k (.c (.bool false))), none, true, []⟩]
def C110r4 : List AOper := [⟨some 6, .mv (.k (.c (.int .u64 0))), none, true, []⟩,
  ⟨some 7, .mv (.k (.c (.int .i64 2))), none, true, []⟩]
def C110r5 : List AOper := [⟨some 27, .mv (.t 1), none, true, []⟩,
  ⟨some 28, .mv (.t 2), none, true, []⟩,
  ⟨some 29, .bin .rem (.t 27) (.t 28), none, true, []⟩,
  ⟨some 1, .mv (.t 29), none, true, []⟩]
def C110r6 : List AOper := [⟨some 30, .mv (.t 2), none, true, []⟩,
  ⟨some 31, .bin .sub (.k (.c (.int .i64 64))) (.t 30), none, true, []⟩,
  ⟨some 32, .bin .shr (.k (.c (.int .u64 18446744073709551615))) (.t 31), none, true, []⟩,
  ⟨some 8, .mv (.t 32), none, true, []⟩]
def C110r7 : List AOper := [⟨some 33, .mv (.t 0), none, false, []⟩,
  ⟨some 34, .mv (.t 1), none, false, []⟩,
  ⟨some 35, .bin .shr (.t 33) (.t 34), none, false, []⟩,
  ⟨some 36, .mv (.t 0), none, false, []⟩,
  ⟨some 37, .mv (.t 2), none, false, []⟩,
  ⟨some 38, .mv (.t 1), none, false, []⟩,
  ⟨some 39, .bin .sub (.t 37) (.t 38), none, false, []⟩,
  ⟨some 40, .bin .shl (.t 36) (.t 39), none, false, []⟩,
  ⟨some 41, .bin .or (.t 35) (.t 40), none, false, []⟩,
  ⟨some 42, .mv (.t 8), none, false, []⟩,
  ⟨some 43, .bin .and (.t 41) (.t 42), none, true, []⟩,
  ⟨some 6, .mv (.t 43), none, true, []⟩,
  ⟨some 7, .mv (.k (.c (.int .i64 0))), none, true, []⟩]
def C110 : ACode :=
  .seq (.region C110r0)
  (.seq (.seq (.region C110r1)
  (.cond (.t 18)
   (.seq (.region C110r2)
   (.ret))
   (.skip)))
  (.seq (.seq (.region C110r3)
  (.cond (.t 26)
   (.seq (.region C110r4)
   (.ret))
   (.skip)))
  (.seq (.region C110r5)
  (.seq (.region C110r6)
  (.seq (.region C110r7)
  (.ret))))))
theorem C110_ok : stripF Tryz.prog Tryz.f110 = some C110 := by kernel_rfl
/-! understudy/insn.subs$1 -/
def C111r0 : List AOper := [⟨some 2, .box 23 (.t 0), none, true, []⟩,
  ⟨some 3, .mv (.k (.c (.bool false))), none, true, []⟩]
def C111r1 : List AOper := [⟨some 4, .ld1 (.t 1), none, true, []⟩,
  ⟨some 5, .faddr (.t 2) 1, none, true, []⟩,
  ⟨some 6, .ld1 (.t 5), none, true, []⟩,
  ⟨some 7, .call (.k (.c (.fn 112 [] []))) [(.t 4), (.t 6)], none, true, []⟩,
  ⟨some 3, .mv (.t 7), none, true, []⟩]
def C111 : ACode :=
  .seq (.region C111r0)
  (.seq (.region C111r1)
  (.ret))
theorem C111_ok : stripF Tryz.prog Tryz.f111 = some C111 := by kernel_rfl
/-! slices.Contains[[]int,int] -/
def C112r0 : List AOper := [⟨some 4, .mv (.k (.c (.bool false))), none, true, []⟩]
def C112r1 : List AOper := [⟨some 5, .mv (.t 0), none, true, []⟩,
  ⟨some 6, .mv (.t 1), none, true, []⟩,
  ⟨some 7, .call (.k (.c (.fn 122 [] []))) [(.t 5), (.t 6)], none, true, []⟩,
  ⟨some 8, .bin .geq (.t 7) (.k (.c (.int .i64 0))), none, true, []⟩,
  ⟨some 4, .mv (.t 8), none, true, []⟩]
def C112 : ACode :=
  .seq (.region C112r0)
  (.seq (.region C112r1)
  (.ret))
theorem C112_ok : stripF Tryz.prog Tryz.f112 = some C112 := by kernel_rfl
/-! understudy/insn.far$1 -/
def C113r0 : List AOper := [⟨some 2, .box 23 (.t 0), none, true, []⟩,
  ⟨some 3, .mv (.k (.c (.bool false))), none, true, []⟩]
def C113r1 : List AOper := [⟨some 4, .faddr (.t 2) 6, none, false, []⟩,
  ⟨some 5, .ld1 (.t 4), none, false, []⟩,
  ⟨some 6, .ld1 (.t 1), none, false, []⟩,
  ⟨some 7, .bin .shl (.k (.c (.int .i64 (-1)))) (.t 6), none, false, []⟩,
  ⟨some 8, .ld1 (.t 1), none, false, []⟩,
  ⟨some 9, .bin .shl (.k (.c (.int .i64 1))) (.t 8), none, false, []⟩,
  ⟨some 10, .bin .sub (.t 9) (.k (.c (.int .i64 4))), none, false, []⟩,
  ⟨some 11, .call (.k (.c (.fn 70 [] []))) [(.t 5), (.k (.c (.int .i64 4))), (.t 7), (.t 10)], none, true, []⟩,
  ⟨some 3, .mv (.t 11), none, true, []⟩]
def C113 : ACode :=
  .seq (.region C113r0)
  (.seq (.region C113r1)
  (.ret))
theorem C113_ok : stripF Tryz.prog Tryz.f113 = some C113 := by kernel_rfl
/-! understudy/insn.rest$1 -/
def C114r0 : List AOper := [⟨some 1, .box 23 (.t 0), none, true, []⟩,
  ⟨some 2, .mv (.k (.c (.bool false))), none, true, []⟩]
def C114r1 : List AOper := [⟨some 3, .faddr (.t 1) 1, none, true, []⟩,
  ⟨some 4, .ld1 (.t 3), none, true, []⟩,
  ⟨some 5, .call (.k (.c (.fn 70 [] []))) [(.t 4), (.k (.c (.int .i64 1))), (.k (.c (.int .i64 0))), (.k (.c (.int .i64 1)))], none, true, []⟩,
  ⟨some 6, .mv (.t 5), none, true, []⟩,
  ⟨some 7, .faddr (.t 1) 6, some (6, true), true, []⟩,
  ⟨some 8, .ld1 (.t 7), some (6, true), true, []⟩,
  ⟨some 9, .call (.k (.c (.fn 70 [] []))) [(.t 8), (.k (.c (.int .i64 1))), (.k (.c (.int .i64 1))), (.k (.c (.int .i64 3)))], some (6, true), true, []⟩,
  ⟨some 10, .pick 6 (.t 9) (.k (.c (.bool false))), none, true, []⟩,
  ⟨some 2, .mv (.t 10), none, true, []⟩]
def C114 : ACode :=
  .seq (.region C114r0)
  (.seq (.region C114r1)
  (.ret))
theorem C114_ok : stripF Tryz.prog Tryz.f114 = some C114 := by kernel_rfl
/-! understudy/insn.rest$2 -/
def C115r0 : List AOper := [⟨some 1, .box 23 (.t 0), none, true, []⟩,
  ⟨some 2, .mv (.k (.c (.bool false))), none, true, []⟩]
def C115r1 : List AOper := [⟨some 3, .call (.k (.c (.fn 116 [] []))) [], none, false, []⟩,
  ⟨some 4, .faddr (.t 1) 11, none, false, []⟩,
  ⟨some 5, .ld1 (.t 4), none, false, []⟩,
  ⟨some 6, .call (.k (.c (.fn 112 [] []))) [(.t 3), (.t 5)], none, true, []⟩,
  ⟨some 2, .mv (.t 6), none, true, []⟩]
def C115 : ACode :=
  .seq (.region C115r0)
  (.seq (.region C115r1)
  (.ret))
theorem C115_ok : stripF Tryz.prog Tryz.f115 = some C115 := by kernel_rfl
/-! understudy/insn.systems -/
def C116r0 : List AOper := [⟨some 0, .mv (.k (.c (.nils))), none, true, []⟩]
def C116r1 : List AOper := [⟨some 1, .bslice 3 1 [.c (.int .i64 0)] 18 [(0, 1, (.k (.c (.int .i64 17920)))), (1, 1, (.k (.c (.int .i64 16897)))), (2, 1, (.k (.c (.int .i64 16896)))), (3, 1, (.k (.c (.int .i64 17040)))), (4, 1, (.k (.c (.int .i64 17152)))), (5, 1, (.k (.c (.int .i64 16904)))), (6, 1, (.k (.c (.int .i64 16389)))), (7, 1, (.k (.c (.int .i64 16914)))), (8, 1, (.k (.c (.int .i64 23057)))), (9, 1, (.k (.c (.int .i64 23056)))), (10, 1, (.k (.c (.int .i64 24194)))), (11, 1, (.k (.c (.int .i64 18016)))), (12, 1, (.k (.c (.int .i64 18017)))), (13, 1, (.k (.c (.int .i64 16944)))), (14, 1, (.k (.c (.int .i64 18013)))), (15, 1, (.k (.c (.int .i64 24322)))), (16, 1, (.k (.c (.int .i64 24345)))), (17, 1, (.k (.c (.int .i64 24346))))], none, true, []⟩,
  ⟨some 0, .mv (.t 1), none, true, []⟩]
def C116 : ACode :=
  .seq (.region C116r0)
  (.seq (.region C116r1)
  (.ret))
theorem C116_ok : stripF Tryz.prog Tryz.f116 = some C116 := by kernel_rfl
/-! understudy/insn.rest$3 -/
def C117r0 : List AOper := [⟨some 1, .box 23 (.t 0), none, true, []⟩,
  ⟨some 2, .mv (.k (.c (.bool false))), none, true, []⟩]
def C117r1 : List AOper := [⟨some 3, .faddr (.t 1) 1, none, true, []⟩,
  ⟨some 4, .ld1 (.t 3), none, true, []⟩,
  ⟨some 5, .call (.k (.c (.fn 70 [] []))) [(.t 4), (.k (.c (.int .i64 1))), (.k (.c (.int .i64 0))), (.k (.c (.int .i64 1)))], none, true, []⟩,
  ⟨some 6, .mv (.t 5), none, true, []⟩,
  ⟨some 7, .faddr (.t 1) 6, some (6, true), true, []⟩,
  ⟨some 8, .ld1 (.t 7), some (6, true), true, []⟩,
  ⟨some 9, .call (.k (.c (.fn 70 [] []))) [(.t 8), (.k (.c (.int .i64 1))), (.k (.c (.int .i64 0))), (.k (.c (.int .i64 15)))], some (6, true), true, []⟩,
  ⟨some 10, .pick 6 (.t 9) (.k (.c (.bool false))), none, true, []⟩,
  ⟨some 2, .mv (.t 10), none, true, []⟩]
def C117 : ACode :=
  .seq (.region C117r0)
  (.seq (.region C117r1)
  (.ret))
theorem C117_ok : stripF Tryz.prog Tryz.f117 = some C117 := by kernel_rfl
/-! understudy/insn.rest$4 -/
def C118r0 : List AOper := [⟨some 1, .box 23 (.t 0), none, true, []⟩,
  ⟨some 2, .mv (.k (.c (.bool false))), none, true, []⟩]
def C118r1 : List AOper := [⟨some 3, .faddr (.t 1) 6, none, true, []⟩,
  ⟨some 4, .ld1 (.t 3), none, true, []⟩,
  ⟨some 5, .call (.k (.c (.fn 70 [] []))) [(.t 4), (.k (.c (.int .i64 1))), (.k (.c (.int .i64 0))), (.k (.c (.int .i64 65535)))], none, true, []⟩,
  ⟨some 2, .mv (.t 5), none, true, []⟩]
def C118 : ACode :=
  .seq (.region C118r0)
  (.seq (.region C118r1)
  (.ret))
theorem C118_ok : stripF Tryz.prog Tryz.f118 = some C118 := by kernel_rfl
/-! understudy/insn.rest$5 -/
def C119r0 : List AOper := [⟨some 1, .box 23 (.t 0), none, true, []⟩,
  ⟨some 2, .mv (.k (.c (.bool false))), none, true, []⟩]
def C119r1 : List AOper := [⟨some 3, .faddr (.t 1) 6, none, true, []⟩,
  ⟨some 4, .ld1 (.t 3), none, true, []⟩,
  ⟨some 5, .call (.k (.c (.fn 70 [] []))) [(.t 4), (.k (.c (.int .i64 1))), (.k (.c (.int .i64 0))), (.k (.c (.int .i64 5)))], none, true, []⟩,
  ⟨some 2, .mv (.t 5), none, true, []⟩]
def C119 : ACode :=
  .seq (.region C119r0)
  (.seq (.region C119r1)
  (.ret))
theorem C119_ok : stripF Tryz.prog Tryz.f119 = some C119 := by kernel_rfl
/-! math/bits.Len32 -/
def C120r0 : List AOper := [⟨some 2, .mv (.k (.c (.int .i64 0))), none, true, []⟩]
def C120r1 : List AOper := [⟨some 3, .mv (.t 0), none, true, []⟩,
  ⟨some 4, .bin .geq (.t 3) (.k (.c (.int .u32 65536))), none, true, []⟩]
def C120r2 : List AOper := [⟨some 5, .mv (.t 0), none, true, []⟩,
  ⟨some 6, .bin .shr (.t 5) (.k (.c (.int .u64 16))), none, true, []⟩,
  ⟨some 0, .mv (.t 6), none, true, []⟩]
def C120r3 : List AOper := [⟨some 2, .mv (.k (.c (.int .i64 16))), none, true, []⟩]
def C120r4 : List AOper := [⟨some 7, .mv (.t 0), none, true, []⟩,
  ⟨some 8, .bin .geq (.t 7) (.k (.c (.int .u32 256))), none, true, []⟩]
def C120r5 : List AOper := [⟨some 9, .mv (.t 0), none, true, []⟩,
  ⟨some 10, .bin .shr (.t 9) (.k (.c (.int .u64 8))), none, true, []⟩,
  ⟨some 0, .mv (.t 10), none, true, []⟩]
def C120r6 : List AOper := [⟨some 11, .mv (.t 2), none, true, []⟩,
  ⟨some 12, .bin .add (.t 11) (.k (.c (.int .i64 8))), none, true, []⟩,
  ⟨some 2, .mv (.t 12), none, true, []⟩]
def C120r7 : List AOper := [⟨some 13, .mv (.t 2), none, true, []⟩,
  ⟨some 14, .mv (.t 0), none, true, []⟩,
  ⟨some 15, .conv .u8 (.t 14), none, true, []⟩,
  ⟨some 16, .idxT (.k (.c (.str ⟨#[0, 1, 2, 2, 3, 3, 3, 3, 4, 4, 4, 4, 4, 4, 4, 4, 5, 5, 5, 5, 5, 5, 5, 5, 5, 5, 5, 5, 5, 5, 5, 5, 6, 6, 6, 6, 6, 6, 6, 6, 6, 6, 6, 6, 6, 6, 6, 6, 6, 6, 6, 6, 6, 6, 6, 6, 6, 6, 6, 6, 6, 6, 6, 6, 7, 7, 7, 7, 7, 7, 7, 7, 7, 7, 7, 7, 7, 7, 7, 7, 7, 7, 7, 7, 7, 7, 7, 7, 7, 7, 7, 7, 7, 7, 7, 7, 7, 7, 7, 7, 7, 7, 7, 7, 7, 7, 7, 7, 7, 7, 7, 7, 7, 7, 7, 7, 7, 7, 7, 7, 7, 7, 7, 7, 7, 7, 7, 7, 8, 8, 8, 8, 8, 8, 8, 8, 8, 8, 8, 8, 8, 8, 8, 8, 8, 8, 8, 8, 8, 8, 8, 8, 8, 8, 8, 8, 8, 8, 8, 8, 8, 8, 8, 8, 8, 8, 8, 8, 8, 8, 8, 8, 8, 8, 8, 8, 8, 8, 8, 8, 8, 8, 8, 8, 8, 8, 8, 8, 8, 8, 8, 8, 8, 8, 8, 8, 8, 8, 8, 8, 8, 8, 8, 8, 8, 8, 8, 8, 8, 8, 8, 8, 8, 8, 8, 8, 8, 8, 8, 8, 8, 8, 8, 8, 8, 8, 8, 8, 8, 8, 8, 8, 8, 8, 8, 8, 8, 8, 8, 8, 8, 8, 8, 8, 8, 8, 8, 8, 8, 8, 8, 8, 8, 8, 8, 8]⟩))) (.t 15), none, true, []⟩,
  ⟨some 17, .conv .i64 (.t 16), none, true, []⟩,
  ⟨some 18, .bin .add (.t 13) (.t 17), none, true, []⟩,
  ⟨some 2, .mv (.t 18), none, true, []⟩]
def C120 : ACode :=
  .seq (.region C120r0)
  (.seq (.seq (.region C120r1)
  (.cond (.t 4)
   (.seq (.region C120r2)
   (.region C120r3))
   (.skip)))
  (.seq (.seq (.region C120r4)
  (.cond (.t 8)
   (.seq (.region C120r5)
   (.region C120r6))
   (.skip)))
  (.seq (.region C120r7)
  (.ret))))
theorem C120_ok : stripF Tryz.prog Tryz.f120 = some C120 := by kernel_rfl
/-! math/bits.Len64 -/
def C121r0 : List AOper := [⟨some 2, .mv (.k (.c (.int .i64 0))), none, true, []⟩]
def C121r1 : List AOper := [⟨some 3, .mv (.t 0), none, true, []⟩,
  ⟨some 4, .bin .geq (.t 3) (.k (.c (.int .u64 4294967296))), none, true, []⟩]
def C121r2 : List AOper := [⟨some 5, .mv (.t 0), none, true, []⟩,
  ⟨some 6, .bin .shr (.t 5) (.k (.c (.int .u64 32))), none, true, []⟩,
  ⟨some 0, .mv (.t 6), none, true, []⟩]
def C121r3 : List AOper := [⟨some 2, .mv (.k (.c (.int .i64 32))), none, true, []⟩]
def C121r4 : List AOper := [⟨some 7, .mv (.t 0), none, true, []⟩,
  ⟨some 8, .bin .geq (.t 7) (.k (.c (.int .u64 65536))), none, true, []⟩]
def C121r5 : List AOper := [⟨some 9, .mv (.t 0), none, true, []⟩,
  ⟨some 10, .bin .shr (.t 9) (.k (.c (.int .u64 16))), none, true, []⟩,
  ⟨some 0, .mv (.t 10), none, true, []⟩]
def C121r6 : List AOper := [⟨some 11, .mv (.t 2), none, true, []⟩,
  ⟨some 12, .bin .add (.t 11) (.k (.c (.int .i64 16))), none, true, []⟩,
  ⟨some 2, .mv (.t 12), none, true, []⟩]
def C121r7 : List AOper := [⟨some 13, .mv (.t 0), none, true, []⟩,
  ⟨some 14, .bin .geq (.t 13) (.k (.c (.int .u64 256))), none, true, []⟩]
def C121r8 : List AOper := [⟨some 15, .mv (.t 0), none, true, []⟩,
  ⟨some 16, .bin .shr (.t 15) (.k (.c (.int .u64 8))), none, true, []⟩,
  ⟨some 0, .mv (.t 16), none, true, []⟩]
def C121r9 : List AOper := [⟨some 17, .mv (.t 2), none, true, []⟩,
  ⟨some 18, .bin .add (.t 17) (.k (.c (.int .i64 8))), none, true, []⟩,
  ⟨some 2, .mv (.t 18), none, true, []⟩]
def C121r10 : List AOper := [⟨some 19, .mv (.t 2), none, true, []⟩,
  ⟨some 20, .mv (.t 0), none, true, []⟩,
  ⟨some 21, .conv .u8 (.t 20), none, true, []⟩,
  ⟨some 22, .idxT (.k (.c (.str ⟨#[0, 1, 2, 2, 3, 3, 3, 3, 4, 4, 4, 4, 4, 4, 4, 4, 5, 5, 5, 5, 5, 5, 5, 5, 5, 5, 5, 5, 5, 5, 5, 5, 6, 6, 6, 6, 6, 6, 6, 6, 6, 6, 6, 6, 6, 6, 6, 6, 6, 6, 6, 6, 6, 6, 6, 6, 6, 6, 6, 6, 6, 6, 6, 6, 7, 7, 7, 7, 7, 7, 7, 7, 7, 7, 7, 7, 7, 7, 7, 7, 7, 7, 7, 7, 7, 7, 7, 7, 7, 7, 7, 7, 7, 7, 7, 7, 7, 7, 7, 7, 7, 7, 7, 7, 7, 7, 7, 7, 7, 7, 7, 7, 7, 7, 7, 7, 7, 7, 7, 7, 7, 7, 7, 7, 7, 7, 7, 7, 8, 8, 8, 8, 8, 8, 8, 8, 8, 8, 8, 8, 8, 8, 8, 8, 8, 8, 8, 8, 8, 8, 8, 8, 8, 8, 8, 8, 8, 8, 8, 8, 8, 8, 8, 8, 8, 8, 8, 8, 8, 8, 8, 8, 8, 8, 8, 8, 8, 8, 8, 8, 8, 8, 8, 8, 8, 8, 8, 8, 8, 8, 8, 8, 8, 8, 8, 8, 8, 8, 8, 8, 8, 8, 8, 8, 8, 8, 8, 8, 8, 8, 8, 8, 8, 8, 8, 8, 8, 8, 8, 8, 8, 8, 8, 8, 8, 8, 8, 8, 8, 8, 8, 8, 8, 8, 8, 8, 8, 8, 8, 8, 8, 8, 8, 8, 8, 8, 8, 8, 8, 8, 8, 8, 8, 8, 8, 8]⟩))) (.t 21), none, true, []⟩,
  ⟨some 23, .conv .i64 (.t 22), none, true, []⟩,
  ⟨some 24, .bin .add (.t 19) (.t 23), none, true, []⟩,
  ⟨some 2, .mv (.t 24), none, true, []⟩]
def C121 : ACode :=
  .seq (.region C121r0)
  (.seq (.seq (.region C121r1)
  (.cond (.t 4)
   (.seq (.region C121r2)
   (.region C121r3))
   (.skip)))
  (.seq (.seq (.region C121r4)
  (.cond (.t 8)
   (.seq (.region C121r5)
   (.region C121r6))
   (.skip)))
  (.seq (.seq (.region C121r7)
  (.cond (.t 14)
   (.seq (.region C121r8)
   (.region C121r9))
   (.skip)))
  (.seq (.region C121r10)
  (.ret)))))
theorem C121_ok : stripF Tryz.prog Tryz.f121 = some C121 := by kernel_rfl
/-! slices.Index[[]int,int] -/
def C122r0 : List AOper := [⟨some 4, .mv (.k (.c (.int .i64 0))), none, true, []⟩]
def C122r1 : List AOper := [⟨some 6, .mv (.t 0), none, true, []⟩,
  ⟨some 7, .len false (.t 6), none, true, []⟩,
  ⟨some 8, .mv (.k (.c (.int .i64 0))), none, true, []⟩]
def C122r2 : List AOper := [⟨some 9, .bin .lss (.t 8) (.t 7), none, true, []⟩]
def C122r3 : List AOper := [⟨some 10, .mv (.t 8), none, true, []⟩,
  ⟨some 5, .mv (.t 10), none, true, []⟩]
def C122r4 : List AOper := [⟨some 11, .mv (.t 1), none, true, []⟩,
  ⟨some 12, .mv (.t 0), none, true, []⟩,
  ⟨some 13, .mv (.t 5), none, true, []⟩,
  ⟨some 14, .iaddr 1 (.t 12) (.t 13), none, true, []⟩,
  ⟨some 15, .ld1 (.t 14), none, true, []⟩,
  ⟨some 16, .bin .eql (.t 11) (.t 15), none, true, []⟩]
def C122r5 : List AOper := [⟨some 17, .mv (.t 5), none, true, []⟩,
  ⟨some 4, .mv (.t 17), none, true, []⟩]
def C122r6 : List AOper := [⟨some 18, .bin .add (.t 8) (.k (.c (.int .i64 1))), none, true, []⟩,
  ⟨some 8, .mv (.t 18), none, true, []⟩]
def C122r7 : List AOper := [⟨some 4, .mv (.k (.c (.int .i64 (-1)))), none, true, []⟩]
def C122 : ACode :=
  .seq (.region C122r0)
  (.seq (.seq (.region C122r1)
  (.block 0
   (.loop
    (.seq (.region C122r2)
    (.seq (.cond (.t 9)
     (.skip)
     (.exit 0))
    (.seq (.block 1
     (.seq (.region C122r3)
     (.seq (.region C122r4)
     (.cond (.t 16)
      (.seq (.region C122r5)
      (.ret))
      (.skip)))))
    (.region C122r6)))))))
  (.seq (.region C122r7)
  (.ret)))
theorem C122_ok : stripF Tryz.prog Tryz.f122 = some C122 := by kernel_rfl
end Go.Proofs.YteikpddilabppaaGreatR
