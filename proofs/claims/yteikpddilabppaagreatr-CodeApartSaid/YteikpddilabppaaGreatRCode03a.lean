/- The code of some functions, in abstract form, each checked against the program's form: made by a program (AmPrint). No condition. -/
import Derived.Test.YteikpddilabppaaGreatRAmS
import Derived.Test.YteikpddilabppaaGreatRProg
import Derived.KernelRfl
set_option linter.unusedVariables false
namespace Go.Proofs.YteikpddilabppaaGreatR
open Go.AM
/-! understudy/understudylaw03.CodeBack -/
def C4r0 : List AOper := [⟨some 3, .box 23 (.t 1), none, true, []⟩,
  ⟨some 4, .mv (.k (.c (.bool false))), none, true, []⟩]
def C4r1 : List AOper := [⟨some 11, .call (.k (.c (.fn 7 [] []))) [], none, true, []⟩,
  ⟨some 5, .mv (.t 11), none, true, []⟩]
def C4r2 : List AOper := [⟨some 12, .mv (.t 5), none, true, []⟩,
  ⟨some 13, .un .not (.t 12), none, true, []⟩]
def C4r3 : List AOper := [⟨some 4, .mv (.k (.c (.bool false))), none, true, []⟩]
def C4r4 : List AOper := [⟨some 14, .mv (.t 0), none, true, []⟩,
  ⟨some 15, .call (.k (.c (.fn 10 [] []))) [(.t 14)], none, true, []⟩,
  ⟨some 6, .alloc 23 [.c (.int .i64 0), .c (.int .i64 0), .c (.int .i64 0), .c (.int .i64 0), .c (.int .i64 0), .c (.int .i64 0), .c (.int .i64 0), .c (.int .i64 0), .c (.int .i64 0), .c (.int .i64 0), .c (.int .i64 0), .c (.int .i64 0), .c (.bool false), .c (.bool false), .c (.bool false), .c (.bool false)], none, true, []⟩,
  ⟨none, .stn 16 (.t 6) (.t 15), none, true, []⟩]
def C4r5 : List AOper := [⟨some 16, .faddr (.t 6) 0, none, true, []⟩,
  ⟨some 17, .ld1 (.t 16), none, true, []⟩,
  ⟨some 18, .bin .neq (.t 17) (.k (.c (.int .i64 0))), none, true, []⟩]
def C4r6 : List AOper := [⟨some 20, .ldn 16 (.t 6), none, true, []⟩,
  ⟨some 21, .call (.k (.c (.fn 8 [] []))) [(.t 20)], none, true, []⟩,
  ⟨some 19, .mv (.t 21), none, true, []⟩,
  ⟨some 22, .ext (.t 19) 0, none, true, []⟩,
  ⟨some 23, .ext (.t 19) 1, none, true, []⟩,
  ⟨some 7, .mv (.t 22), none, true, []⟩,
  ⟨some 8, .mv (.t 23), none, true, []⟩]
def C4r7 : List AOper := [⟨some 24, .mv (.t 8), none, true, []⟩,
  ⟨some 25, .bin .neq (.t 24) (.k (.c (.int .i64 0))), none, true, []⟩,
  ⟨some 26, .mv (.t 25), none, true, []⟩,
  ⟨some 27, .mv (.t 7), some (26, false), true, []⟩,
  ⟨some 28, .mv (.t 0), some (26, false), true, []⟩,
  ⟨some 29, .bin .neq (.t 27) (.t 28), some (26, false), true, []⟩,
  ⟨some 30, .pick 26 (.k (.c (.bool true))) (.t 29), none, true, []⟩]
def C4r8 : List AOper := [⟨some 4, .mv (.k (.c (.bool false))), none, true, []⟩]
def C4r9 : List AOper := [⟨some 31, .ldn 16 (.t 6), none, true, []⟩,
  ⟨some 32, .build [.c (.int .i64 0), .c (.int .i64 0), .c (.int .i64 0), .c (.int .i64 0), .c (.int .i64 0), .c (.int .i64 0), .c (.int .i64 0), .c (.int .i64 0), .c (.int .i64 0), .c (.int .i64 0), .c (.int .i64 0), .c (.int .i64 0), .c (.bool false), .c (.bool false), .c (.bool false), .c (.bool false)] [], none, true, []⟩,
  ⟨some 33, .eqS true [.one true, .one true, .one true, .one true, .one true, .one true, .one true, .one true, .one true, .one true, .one true, .one true, .one false, .one false, .one false, .one false] (.t 31) (.t 32), none, true, []⟩]
def C4r10 : List AOper := [⟨some 4, .mv (.k (.c (.bool false))), none, true, []⟩]
def C4r11 : List AOper := [⟨some 35, .ldn 16 (.t 3), none, true, []⟩,
  ⟨some 36, .call (.k (.c (.fn 8 [] []))) [(.t 35)], none, true, []⟩,
  ⟨some 34, .mv (.t 36), none, true, []⟩,
  ⟨some 37, .ext (.t 34) 0, none, true, []⟩,
  ⟨some 38, .ext (.t 34) 1, none, true, []⟩,
  ⟨some 9, .mv (.t 37), none, true, []⟩,
  ⟨some 10, .mv (.t 38), none, true, []⟩]
def C4r12 : List AOper := [⟨some 39, .mv (.t 10), none, true, []⟩,
  ⟨some 40, .bin .neq (.t 39) (.k (.c (.int .i64 0))), none, true, []⟩]
def C4r13 : List AOper := [⟨some 41, .mv (.t 5), none, true, []⟩,
  ⟨some 42, .mv (.t 41), none, true, []⟩,
  ⟨some 43, .mv (.t 9), some (42, true), true, []⟩,
  ⟨some 44, .bin .eql (.t 43) (.k (.c (.int .u32 0))), some (42, true), true, []⟩,
  ⟨some 45, .pick 42 (.t 44) (.k (.c (.bool false))), none, true, []⟩,
  ⟨some 4, .mv (.t 45), none, true, []⟩]
def C4r14 : List AOper := [⟨some 46, .mv (.t 5), none, true, []⟩,
  ⟨some 47, .mv (.t 46), none, true, []⟩,
  ⟨some 48, .mv (.t 9), some (47, true), false, []⟩,
  ⟨some 49, .call (.k (.c (.fn 10 [] []))) [(.t 48)], some (47, true), false, []⟩,
  ⟨some 50, .ldn 16 (.t 3), some (47, true), false, []⟩,
  ⟨some 51, .eqS false [.one true, .one true, .one true, .one true, .one true, .one true, .one true, .one true, .one true, .one true, .one true, .one true, .one false, .one false, .one false, .one false] (.t 49) (.t 50), some (47, true), true, []⟩,
  ⟨some 52, .pick 47 (.t 51) (.k (.c (.bool false))), none, true, []⟩,
  ⟨some 4, .mv (.t 52), none, true, []⟩]
def C4 : ACode :=
  .seq (.region C4r0)
  (.seq (.region C4r1)
  (.seq (.seq (.region C4r2)
  (.cond (.t 13)
   (.seq (.region C4r3)
   (.ret))
   (.skip)))
  (.seq (.region C4r4)
  (.seq (.seq (.region C4r5)
  (.cond (.t 18)
   (.seq (.region C4r6)
   (.seq (.region C4r7)
   (.cond (.t 30)
    (.seq (.region C4r8)
    (.ret))
    (.skip))))
   (.seq (.region C4r9)
   (.cond (.t 33)
    (.seq (.region C4r10)
    (.ret))
    (.skip)))))
  (.seq (.region C4r11)
  (.seq (.seq (.region C4r12)
  (.cond (.t 40)
   (.seq (.region C4r13)
   (.ret))
   (.skip)))
  (.seq (.region C4r14)
  (.ret))))))))
theorem C4_ok : stripF Tryz.prog Tryz.f4 = some C4 := by kernel_rfl
/-! understudy/understudylaw03.CodeApart -/
def C5r0 : List AOper := [⟨some 2, .box 23 (.t 0), none, true, []⟩,
  ⟨some 3, .box 23 (.t 1), none, true, []⟩,
  ⟨some 4, .mv (.k (.c (.bool false))), none, true, []⟩]
def C5r1 : List AOper := [⟨some 10, .call (.k (.c (.fn 7 [] []))) [], none, true, []⟩,
  ⟨some 5, .mv (.t 10), none, true, []⟩]
def C5r2 : List AOper := [⟨some 11, .mv (.t 5), none, true, []⟩,
  ⟨some 12, .un .not (.t 11), none, true, []⟩]
def C5r3 : List AOper := [⟨some 4, .mv (.k (.c (.bool false))), none, true, []⟩]
def C5r4 : List AOper := [⟨some 14, .ldn 16 (.t 2), none, true, []⟩,
  ⟨some 15, .call (.k (.c (.fn 8 [] []))) [(.t 14)], none, true, []⟩,
  ⟨some 13, .mv (.t 15), none, true, []⟩,
  ⟨some 16, .ext (.t 13) 0, none, true, []⟩,
  ⟨some 17, .ext (.t 13) 1, none, true, []⟩,
  ⟨some 6, .mv (.t 16), none, true, []⟩,
  ⟨some 7, .mv (.t 17), none, true, []⟩]
def C5r5 : List AOper := [⟨some 19, .ldn 16 (.t 3), none, true, []⟩,
  ⟨some 20, .call (.k (.c (.fn 8 [] []))) [(.t 19)], none, true, []⟩,
  ⟨some 18, .mv (.t 20), none, true, []⟩,
  ⟨some 21, .ext (.t 18) 0, none, true, []⟩,
  ⟨some 22, .ext (.t 18) 1, none, true, []⟩,
  ⟨some 8, .mv (.t 21), none, true, []⟩,
  ⟨some 9, .mv (.t 22), none, true, []⟩]
def C5r6 : List AOper := [⟨some 23, .mv (.t 5), none, true, []⟩,
  ⟨some 24, .mv (.t 23), none, true, []⟩,
  ⟨some 25, .mv (.t 7), some (24, true), true, []⟩,
  ⟨some 26, .bin .neq (.t 25) (.k (.c (.int .i64 0))), some (24, true), true, []⟩,
  ⟨some 27, .mv (.t 26), some (24, true), true, []⟩,
  ⟨some 28, .mv (.t 9), some (27, false), true, []⟩,
  ⟨some 29, .bin .neq (.t 28) (.k (.c (.int .i64 0))), some (27, false), true, []⟩,
  ⟨some 30, .pick 27 (.k (.c (.bool true))) (.t 29), some (24, true), true, []⟩,
  ⟨some 31, .mv (.t 30), some (24, true), true, []⟩,
  ⟨some 32, .mv (.t 6), some (31, false), true, []⟩,
  ⟨some 33, .mv (.t 8), some (31, false), true, []⟩,
  ⟨some 34, .bin .eql (.t 32) (.t 33), some (31, false), true, []⟩,
  ⟨some 35, .ldn 16 (.t 2), some (31, false), true, []⟩,
  ⟨some 36, .ldn 16 (.t 3), some (31, false), true, []⟩,
  ⟨some 37, .eqS false [.one true, .one true, .one true, .one true, .one true, .one true, .one true, .one true, .one true, .one true, .one true, .one true, .one false, .one false, .one false, .one false] (.t 35) (.t 36), some (31, false), true, []⟩,
  ⟨some 38, .eqB false (.t 34) (.t 37), some (31, false), true, []⟩,
  ⟨some 39, .pick 31 (.k (.c (.bool true))) (.t 38), some (24, true), true, []⟩,
  ⟨some 40, .pick 24 (.t 39) (.k (.c (.bool false))), none, true, []⟩,
  ⟨some 4, .mv (.t 40), none, true, []⟩]
def C5 : ACode :=
  .seq (.region C5r0)
  (.seq (.region C5r1)
  (.seq (.seq (.region C5r2)
  (.cond (.t 12)
   (.seq (.region C5r3)
   (.ret))
   (.skip)))
  (.seq (.region C5r4)
  (.seq (.region C5r5)
  (.seq (.region C5r6)
  (.ret))))))
theorem C5_ok : stripF Tryz.prog Tryz.f5 = some C5 := by kernel_rfl
/-! understudy/understudylaw03.CodeBits -/
def C6r0 : List AOper := [⟨some 4, .mv (.k (.c (.bool false))), none, true, []⟩]
def C6r1 : List AOper := [⟨some 8, .call (.k (.c (.fn 7 [] []))) [], none, true, []⟩,
  ⟨some 5, .mv (.t 8), none, true, []⟩]
def C6r2 : List AOper := [⟨some 9, .mv (.t 5), none, true, []⟩,
  ⟨some 10, .un .not (.t 9), none, true, []⟩]
def C6r3 : List AOper := [⟨some 4, .mv (.k (.c (.bool false))), none, true, []⟩]
def C6r4 : List AOper := [⟨some 11, .mv (.t 1), none, true, []⟩,
  ⟨some 12, .bin .lss (.t 11) (.k (.c (.int .i64 0))), none, true, []⟩]
def C6r5 : List AOper := [⟨some 13, .mv (.t 1), none, true, []⟩,
  ⟨some 14, .bin .add (.t 13) (.k (.c (.int .i64 1))), none, true, []⟩,
  ⟨some 15, .un .neg (.t 14), none, true, []⟩,
  ⟨some 1, .mv (.t 15), none, true, []⟩]
def C6r6 : List AOper := [⟨some 16, .mv (.t 0), none, true, []⟩,
  ⟨some 17, .call (.k (.c (.fn 10 [] []))) [(.t 16)], none, true, []⟩,
  ⟨some 6, .alloc 23 [.c (.int .i64 0), .c (.int .i64 0), .c (.int .i64 0), .c (.int .i64 0), .c (.int .i64 0), .c (.int .i64 0), .c (.int .i64 0), .c (.int .i64 0), .c (.int .i64 0), .c (.int .i64 0), .c (.int .i64 0), .c (.int .i64 0), .c (.bool false), .c (.bool false), .c (.bool false), .c (.bool false)], none, true, []⟩,
  ⟨none, .stn 16 (.t 6) (.t 17), none, true, []⟩]
def C6r7 : List AOper := [⟨some 18, .mv (.t 0), none, true, []⟩,
  ⟨some 19, .mv (.t 1), none, true, []⟩,
  ⟨some 20, .bin .rem (.t 19) (.k (.c (.int .i64 32))), none, true, []⟩,
  ⟨some 21, .bin .shl (.k (.c (.int .u32 1))) (.t 20), none, true, []⟩,
  ⟨some 22, .bin .xor (.t 18) (.t 21), none, true, []⟩,
  ⟨some 23, .call (.k (.c (.fn 10 [] []))) [(.t 22)], none, true, []⟩,
  ⟨some 7, .alloc 23 [.c (.int .i64 0), .c (.int .i64 0), .c (.int .i64 0), .c (.int .i64 0), .c (.int .i64 0), .c (.int .i64 0), .c (.int .i64 0), .c (.int .i64 0), .c (.int .i64 0), .c (.int .i64 0), .c (.int .i64 0), .c (.int .i64 0), .c (.bool false), .c (.bool false), .c (.bool false), .c (.bool false)], none, true, []⟩,
  ⟨none, .stn 16 (.t 7) (.t 23), none, true, []⟩]
def C6r8 : List AOper := [⟨some 24, .mv (.t 5), none, true, []⟩,
  ⟨some 25, .mv (.t 24), none, true, []⟩,
  ⟨some 26, .ldn 16 (.t 6), some (25, true), true, []⟩,
  ⟨some 27, .ldn 16 (.t 7), some (25, true), true, []⟩,
  ⟨some 28, .eqS true [.one true, .one true, .one true, .one true, .one true, .one true, .one true, .one true, .one true, .one true, .one true, .one true, .one false, .one false, .one false, .one false] (.t 26) (.t 27), some (25, true), true, []⟩,
  ⟨some 29, .mv (.t 28), some (25, true), true, []⟩,
  ⟨some 30, .ldn 16 (.t 6), some (29, false), true, []⟩,
  ⟨some 31, .build [.c (.int .i64 0), .c (.int .i64 0), .c (.int .i64 0), .c (.int .i64 0), .c (.int .i64 0), .c (.int .i64 0), .c (.int .i64 0), .c (.int .i64 0), .c (.int .i64 0), .c (.int .i64 0), .c (.int .i64 0), .c (.int .i64 0), .c (.bool false), .c (.bool false), .c (.bool false), .c (.bool false)] [], some (29, false), true, []⟩,
  ⟨some 32, .eqS false [.one true, .one true, .one true, .one true, .one true, .one true, .one true, .one true, .one true, .one true, .one true, .one true, .one false, .one false, .one false, .one false] (.t 30) (.t 31), some (29, false), true, []⟩,
  ⟨some 33, .pick 29 (.k (.c (.bool true))) (.t 32), some (25, true), true, []⟩,
  ⟨some 34, .pick 25 (.t 33) (.k (.c (.bool false))), none, true, []⟩,
  ⟨some 4, .mv (.t 34), none, true, []⟩]
def C6 : ACode :=
  .seq (.region C6r0)
  (.seq (.region C6r1)
  (.seq (.seq (.region C6r2)
  (.cond (.t 10)
   (.seq (.region C6r3)
   (.ret))
   (.skip)))
  (.seq (.seq (.region C6r4)
  (.cond (.t 12)
   (.region C6r5)
   (.skip)))
  (.seq (.region C6r6)
  (.seq (.region C6r7)
  (.seq (.region C6r8)
  (.ret)))))))
theorem C6_ok : stripF Tryz.prog Tryz.f6 = some C6 := by kernel_rfl
/-! understudy/understudylaw03.examples -/
def C7r0 : List AOper := [⟨some 0, .mv (.k (.c (.bool false))), none, true, []⟩]
def C7r1 : List AOper := [⟨some 8, .call (.k (.c (.fn 10 [] []))) [(.k (.c (.int .u32 2432697376)))], none, true, []⟩,
  ⟨some 1, .alloc 23 [.c (.int .i64 0), .c (.int .i64 0), .c (.int .i64 0), .c (.int .i64 0), .c (.int .i64 0), .c (.int .i64 0), .c (.int .i64 0), .c (.int .i64 0), .c (.int .i64 0), .c (.int .i64 0), .c (.int .i64 0), .c (.int .i64 0), .c (.bool false), .c (.bool false), .c (.bool false), .c (.bool false)], none, true, []⟩,
  ⟨none, .stn 16 (.t 1) (.t 8), none, true, []⟩]
def C7r2 : List AOper := [⟨some 9, .call (.k (.c (.fn 10 [] []))) [(.k (.c (.int .u32 0)))], none, true, []⟩,
  ⟨some 2, .alloc 23 [.c (.int .i64 0), .c (.int .i64 0), .c (.int .i64 0), .c (.int .i64 0), .c (.int .i64 0), .c (.int .i64 0), .c (.int .i64 0), .c (.int .i64 0), .c (.int .i64 0), .c (.int .i64 0), .c (.int .i64 0), .c (.int .i64 0), .c (.bool false), .c (.bool false), .c (.bool false), .c (.bool false)], none, true, []⟩,
  ⟨none, .stn 16 (.t 2) (.t 9), none, true, []⟩]
def C7r3 : List AOper := [⟨some 10, .call (.k (.c (.fn 10 [] []))) [(.k (.c (.int .u32 402653183)))], none, true, []⟩,
  ⟨some 3, .alloc 23 [.c (.int .i64 0), .c (.int .i64 0), .c (.int .i64 0), .c (.int .i64 0), .c (.int .i64 0), .c (.int .i64 0), .c (.int .i64 0), .c (.int .i64 0), .c (.int .i64 0), .c (.int .i64 0), .c (.int .i64 0), .c (.int .i64 0), .c (.bool false), .c (.bool false), .c (.bool false), .c (.bool false)], none, true, []⟩,
  ⟨none, .stn 16 (.t 3) (.t 10), none, true, []⟩]
def C7r4 : List AOper := [⟨some 12, .build [.c (.int .i64 0), .c (.int .i64 0), .c (.int .i64 0), .c (.int .i64 0), .c (.int .i64 0), .c (.int .i64 0), .c (.int .i64 0), .c (.int .i64 0), .c (.int .i64 0), .c (.int .i64 0), .c (.int .i64 0), .c (.int .i64 0), .c (.bool false), .c (.bool false), .c (.bool false), .c (.bool false)] [(0, 1, (.k (.c (.int .i64 16)))), (1, 1, (.k (.c (.int .i64 2)))), (3, 1, (.k (.c (.int .i64 30))))], none, true, []⟩,
  ⟨some 13, .call (.k (.c (.fn 8 [] []))) [(.t 12)], none, true, []⟩,
  ⟨some 11, .mv (.t 13), none, true, []⟩,
  ⟨some 14, .ext (.t 11) 0, none, true, []⟩,
  ⟨some 15, .ext (.t 11) 1, none, true, []⟩,
  ⟨some 4, .mv (.t 14), none, true, []⟩,
  ⟨some 5, .mv (.t 15), none, true, []⟩]
def C7r5 : List AOper := [⟨some 17, .build [.c (.int .i64 0), .c (.int .i64 0), .c (.int .i64 0), .c (.int .i64 0), .c (.int .i64 0), .c (.int .i64 0), .c (.int .i64 0), .c (.int .i64 0), .c (.int .i64 0), .c (.int .i64 0), .c (.int .i64 0), .c (.int .i64 0), .c (.bool false), .c (.bool false), .c (.bool false), .c (.bool false)] [], none, true, []⟩,
  ⟨some 18, .call (.k (.c (.fn 8 [] []))) [(.t 17)], none, true, []⟩,
  ⟨some 16, .mv (.t 18), none, true, []⟩,
  ⟨some 19, .ext (.t 16) 0, none, true, []⟩,
  ⟨some 20, .ext (.t 16) 1, none, true, []⟩,
  ⟨some 6, .mv (.t 19), none, true, []⟩,
  ⟨some 7, .mv (.t 20), none, true, []⟩]
def C7r6 : List AOper := [⟨some 21, .ldn 16 (.t 1), none, true, []⟩,
  ⟨some 22, .build [.c (.int .i64 0), .c (.int .i64 0), .c (.int .i64 0), .c (.int .i64 0), .c (.int .i64 0), .c (.int .i64 0), .c (.int .i64 0), .c (.int .i64 0), .c (.int .i64 0), .c (.int .i64 0), .c (.int .i64 0), .c (.int .i64 0), .c (.bool false), .c (.bool false), .c (.bool false), .c (.bool false)] [(0, 1, (.k (.c (.int .i64 1)))), (3, 1, (.k (.c (.int .i64 1)))), (6, 1, (.k (.c (.int .i64 1))))], none, true, []⟩,
  ⟨some 23, .eqS false [.one true, .one true, .one true, .one true, .one true, .one true, .one true, .one true, .one true, .one true, .one true, .one true, .one false, .one false, .one false, .one false] (.t 21) (.t 22), none, true, []⟩,
  ⟨some 24, .mv (.t 23), none, true, []⟩,
  ⟨some 25, .ldn 16 (.t 2), some (24, true), true, []⟩,
  ⟨some 26, .build [.c (.int .i64 0), .c (.int .i64 0), .c (.int .i64 0), .c (.int .i64 0), .c (.int .i64 0), .c (.int .i64 0), .c (.int .i64 0), .c (.int .i64 0), .c (.int .i64 0), .c (.int .i64 0), .c (.int .i64 0), .c (.int .i64 0), .c (.bool false), .c (.bool false), .c (.bool false), .c (.bool false)] [], some (24, true), true, []⟩,
  ⟨some 27, .eqS false [.one true, .one true, .one true, .one true, .one true, .one true, .one true, .one true, .one true, .one true, .one true, .one true, .one false, .one false, .one false, .one false] (.t 25) (.t 26), some (24, true), true, []⟩,
  ⟨some 28, .pick 24 (.t 27) (.k (.c (.bool false))), none, true, []⟩,
  ⟨some 29, .mv (.t 28), none, true, []⟩,
  ⟨some 30, .ldn 16 (.t 3), some (29, true), true, []⟩,
  ⟨some 31, .build [.c (.int .i64 0), .c (.int .i64 0), .c (.int .i64 0), .c (.int .i64 0), .c (.int .i64 0), .c (.int .i64 0), .c (.int .i64 0), .c (.int .i64 0), .c (.int .i64 0), .c (.int .i64 0), .c (.int .i64 0), .c (.int .i64 0), .c (.bool false), .c (.bool false), .c (.bool false), .c (.bool false)] [(0, 1, (.k (.c (.int .i64 12)))), (6, 1, (.k (.c (.int .i64 (-4)))))], some (29, true), true, []⟩,
  ⟨some 32, .eqS false [.one true, .one true, .one true, .one true, .one true, .one true, .one true, .one true, .one true, .one true, .one true, .one true, .one false, .one false, .one false, .one false] (.t 30) (.t 31), some (29, true), true, []⟩,
  ⟨some 33, .pick 29 (.t 32) (.k (.c (.bool false))), none, true, []⟩,
  ⟨some 34, .mv (.t 33), none, true, []⟩,
  ⟨some 35, .mv (.t 4), some (34, true), true, []⟩,
  ⟨some 36, .bin .eql (.t 35) (.k (.c (.int .u32 3596551104))), some (34, true), true, []⟩,
  ⟨some 37, .pick 34 (.t 36) (.k (.c (.bool false))), none, true, []⟩,
  ⟨some 38, .mv (.t 37), none, true, []⟩,
  ⟨some 39, .mv (.t 5), some (38, true), true, []⟩,
  ⟨some 40, .bin .eql (.t 39) (.k (.c (.int .i64 0))), some (38, true), true, []⟩,
  ⟨some 41, .pick 38 (.t 40) (.k (.c (.bool false))), none, true, []⟩,
  ⟨some 42, .mv (.t 41), none, true, []⟩,
  ⟨some 43, .mv (.t 7), some (42, true), true, []⟩,
  ⟨some 44, .bin .eql (.t 43) (.k (.c (.int .i64 3))), some (42, true), true, []⟩,
  ⟨some 45, .pick 42 (.t 44) (.k (.c (.bool false))), none, true, []⟩,
  ⟨some 0, .mv (.t 45), none, true, []⟩]
def C7 : ACode :=
  .seq (.region C7r0)
  (.seq (.region C7r1)
  (.seq (.region C7r2)
  (.seq (.region C7r3)
  (.seq (.region C7r4)
  (.seq (.region C7r5)
  (.seq (.region C7r6)
  (.ret)))))))
theorem C7_ok : stripF Tryz.prog Tryz.f7 = some C7 := by kernel_rfl
/-! understudy/code.Encode -/
def C8r0 : List AOper := [⟨some 1, .box 23 (.t 0), none, true, []⟩,
  ⟨some 2, .mv (.k (.c (.int .u32 0))), none, true, []⟩,
  ⟨some 3, .mv (.k (.c (.int .i64 0))), none, true, []⟩]
def C8r1 : List AOper := [⟨some 6, .ldn 16 (.t 1), none, true, []⟩,
  ⟨some 7, .call (.k (.c (.fn 11 [] []))) [(.t 6)], none, true, []⟩,
  ⟨some 8, .un .not (.t 7), none, true, []⟩]
def C8r2 : List AOper := [⟨some 2, .mv (.k (.c (.int .u32 0))), none, true, []⟩,
  ⟨some 3, .mv (.k (.c (.int .i64 3))), none, true, []⟩]
def C8r3 : List AOper := [⟨some 9, .call (.k (.c (.fn 12 [] []))) [], none, true, []⟩,
  ⟨some 10, .len false (.t 9), none, true, []⟩,
  ⟨some 11, .mv (.k (.c (.int .i64 0))), none, true, []⟩]
def C8r4 : List AOper := [⟨some 12, .bin .lss (.t 11) (.t 10), none, true, []⟩]
def C8r5 : List AOper := [⟨some 13, .iaddr 6 (.t 9) (.t 11), none, true, []⟩,
  ⟨some 14, .ldn 6 (.t 13), none, true, []⟩,
  ⟨some 5, .alloc 42 [.c (.int .i64 0), .c (.int .i64 0), .c (.int .u32 0), .c (.int .u32 0), .c (.nilfn), .c (.nilfn)], none, true, []⟩,
  ⟨none, .stn 6 (.t 5) (.t 14), none, true, []⟩]
def C8r6 : List AOper := [⟨some 15, .faddr (.t 5) 0, none, true, []⟩,
  ⟨some 16, .ld1 (.t 15), none, true, []⟩,
  ⟨some 17, .faddr (.t 1) 0, none, true, []⟩,
  ⟨some 18, .ld1 (.t 17), none, true, []⟩,
  ⟨some 19, .bin .eql (.t 16) (.t 18), none, true, []⟩,
  ⟨some 20, .mv (.t 19), none, true, []⟩,
  ⟨some 21, .faddr (.t 5) 1, some (20, true), true, []⟩,
  ⟨some 22, .ld1 (.t 21), some (20, true), true, []⟩,
  ⟨some 23, .bin .lss (.t 22) (.k (.c (.int .i64 0))), some (20, true), true, []⟩,
  ⟨some 24, .mv (.t 23), some (20, true), true, []⟩,
  ⟨some 25, .faddr (.t 5) 1, some (24, false), true, []⟩,
  ⟨some 26, .ld1 (.t 25), some (24, false), true, []⟩,
  ⟨some 27, .faddr (.t 1) 1, some (24, false), true, []⟩,
  ⟨some 28, .ld1 (.t 27), some (24, false), true, []⟩,
  ⟨some 29, .bin .eql (.t 26) (.t 28), some (24, false), true, []⟩,
  ⟨some 30, .pick 24 (.k (.c (.bool true))) (.t 29), some (20, true), true, []⟩,
  ⟨some 31, .pick 20 (.t 30) (.k (.c (.bool false))), none, true, []⟩]
def C8r7 : List AOper := [⟨some 32, .faddr (.t 5) 4, none, true, []⟩,
  ⟨some 33, .ld1 (.t 32), none, true, []⟩,
  ⟨some 34, .faddr (.t 5) 3, none, true, []⟩,
  ⟨some 35, .ld1 (.t 34), none, true, []⟩,
  ⟨some 36, .ldn 16 (.t 1), none, true, []⟩,
  ⟨some 37, .call (.t 33) [(.t 35), (.t 36)], none, true, []⟩,
  ⟨some 2, .mv (.t 37), none, true, []⟩,
  ⟨some 3, .mv (.k (.c (.int .i64 0))), none, true, []⟩]
def C8r8 : List AOper := [⟨some 38, .bin .add (.t 11) (.k (.c (.int .i64 1))), none, true, []⟩,
  ⟨some 11, .mv (.t 38), none, true, []⟩]
def C8r9 : List AOper := [⟨some 2, .mv (.k (.c (.int .u32 0))), none, true, []⟩,
  ⟨some 3, .mv (.k (.c (.int .i64 3))), none, true, []⟩]
def C8 : ACode :=
  .seq (.region C8r0)
  (.seq (.seq (.region C8r1)
  (.cond (.t 8)
   (.seq (.region C8r2)
   (.ret))
   (.skip)))
  (.seq (.seq (.region C8r3)
  (.block 0
   (.loop
    (.seq (.region C8r4)
    (.seq (.cond (.t 12)
     (.skip)
     (.exit 0))
    (.seq (.block 1
     (.seq (.region C8r5)
     (.seq (.region C8r6)
     (.cond (.t 31)
      (.seq (.region C8r7)
      (.ret))
      (.skip)))))
    (.region C8r8)))))))
  (.seq (.region C8r9)
  (.ret))))
theorem C8_ok : stripF Tryz.prog Tryz.f8 = some C8 := by kernel_rfl
/-! understudy/code.Decode -/
def C10r0 : List AOper := [⟨some 2, .alloc 23 [.c (.int .i64 0), .c (.int .i64 0), .c (.int .i64 0), .c (.int .i64 0), .c (.int .i64 0), .c (.int .i64 0), .c (.int .i64 0), .c (.int .i64 0), .c (.int .i64 0), .c (.int .i64 0), .c (.int .i64 0), .c (.int .i64 0), .c (.bool false), .c (.bool false), .c (.bool false), .c (.bool false)], none, true, []⟩]
def C10r1 : List AOper := [⟨some 6, .call (.k (.c (.fn 12 [] []))) [], none, true, []⟩,
  ⟨some 7, .len false (.t 6), none, true, []⟩,
  ⟨some 8, .mv (.k (.c (.int .i64 0))), none, true, []⟩]
def C10r2 : List AOper := [⟨some 9, .bin .lss (.t 8) (.t 7), none, true, []⟩]
def C10r3 : List AOper := [⟨some 10, .iaddr 6 (.t 6) (.t 8), none, true, []⟩,
  ⟨some 11, .ldn 6 (.t 10), none, true, []⟩,
  ⟨some 4, .alloc 42 [.c (.int .i64 0), .c (.int .i64 0), .c (.int .u32 0), .c (.int .u32 0), .c (.nilfn), .c (.nilfn)], none, true, []⟩,
  ⟨none, .stn 6 (.t 4) (.t 11), none, true, []⟩]
def C10r4 : List AOper := [⟨some 12, .mv (.t 0), none, true, []⟩,
  ⟨some 13, .faddr (.t 4) 2, none, true, []⟩,
  ⟨some 14, .ld1 (.t 13), none, true, []⟩,
  ⟨some 15, .bin .and (.t 12) (.t 14), none, true, []⟩,
  ⟨some 16, .faddr (.t 4) 3, none, true, []⟩,
  ⟨some 17, .ld1 (.t 16), none, true, []⟩,
  ⟨some 18, .bin .neq (.t 15) (.t 17), none, true, []⟩]
def C10r5 : List AOper := [⟨some 19, .faddr (.t 4) 5, none, true, []⟩,
  ⟨some 20, .ld1 (.t 19), none, true, []⟩,
  ⟨some 21, .mv (.t 0), none, true, []⟩,
  ⟨some 22, .call (.t 20) [(.t 21)], none, true, []⟩,
  ⟨some 5, .alloc 23 [.c (.int .i64 0), .c (.int .i64 0), .c (.int .i64 0), .c (.int .i64 0), .c (.int .i64 0), .c (.int .i64 0), .c (.int .i64 0), .c (.int .i64 0), .c (.int .i64 0), .c (.int .i64 0), .c (.int .i64 0), .c (.int .i64 0), .c (.bool false), .c (.bool false), .c (.bool false), .c (.bool false)], none, true, []⟩,
  ⟨none, .stn 16 (.t 5) (.t 22), none, true, []⟩]
def C10r6 : List AOper := [⟨some 23, .ldn 16 (.t 5), none, true, []⟩,
  ⟨some 24, .call (.k (.c (.fn 11 [] []))) [(.t 23)], none, true, []⟩]
def C10r7 : List AOper := [⟨some 25, .ldn 16 (.t 5), none, true, []⟩,
  ⟨none, .stn 16 (.t 2) (.t 25), none, true, []⟩]
def C10r8 : List AOper := [⟨some 26, .bin .add (.t 8) (.k (.c (.int .i64 1))), none, true, []⟩,
  ⟨some 8, .mv (.t 26), none, true, []⟩]
def C10r9 : List AOper := [⟨some 27, .build [.c (.int .i64 0), .c (.int .i64 0), .c (.int .i64 0), .c (.int .i64 0), .c (.int .i64 0), .c (.int .i64 0), .c (.int .i64 0), .c (.int .i64 0), .c (.int .i64 0), .c (.int .i64 0), .c (.int .i64 0), .c (.int .i64 0), .c (.bool false), .c (.bool false), .c (.bool false), .c (.bool false)] [], none, true, []⟩,
  ⟨none, .stn 16 (.t 2) (.t 27), none, true, []⟩]
def C10 : ACode :=
  .seq (.region C10r0)
  (.seq (.seq (.region C10r1)
  (.block 0
   (.loop
    (.seq (.region C10r2)
    (.seq (.cond (.t 9)
     (.skip)
     (.exit 0))
    (.seq (.block 1
     (.seq (.region C10r3)
     (.seq (.seq (.region C10r4)
     (.cond (.t 18)
      (.exit 1)
      (.skip)))
     (.seq (.region C10r5)
     (.seq (.region C10r6)
     (.cond (.t 24)
      (.seq (.region C10r7)
      (.ret))
      (.skip)))))))
    (.region C10r8)))))))
  (.seq (.region C10r9)
  (.ret)))
theorem C10_ok : stripF Tryz.prog Tryz.f10 = some C10 := by kernel_rfl
/-! understudy/insn.Right -/
def C11r0 : List AOper := [⟨some 1, .box 23 (.t 0), none, true, []⟩,
  ⟨some 2, .mv (.k (.c (.bool false))), none, true, []⟩]
def C11r1 : List AOper := [⟨some 8, .faddr (.t 1) 0, none, true, []⟩,
  ⟨some 9, .ld1 (.t 8), none, true, []⟩,
  ⟨some 10, .call (.k (.c (.fn 17 [] []))) [(.t 9)], none, true, []⟩,
  ⟨some 7, .mv (.t 10), none, true, []⟩,
  ⟨some 11, .ext (.t 7) 0, none, true, []⟩,
  ⟨some 12, .ext (.t 7) 1, none, true, []⟩,
  ⟨some 3, .alloc 48 [.c (.str ⟨#[]⟩), .c (.nilfn)], none, true, []⟩,
  ⟨none, .stn 2 (.t 3) (.t 11), none, true, []⟩,
  ⟨some 4, .mv (.t 12), none, true, []⟩]
def C11r2 : List AOper := [⟨some 13, .mv (.t 4), none, true, []⟩,
  ⟨some 14, .un .not (.t 13), none, true, []⟩,
  ⟨some 15, .mv (.t 14), none, true, []⟩,
  ⟨some 16, .ldn 16 (.t 1), some (15, false), false, []⟩,
  ⟨some 17, .faddr (.t 3) 0, some (15, false), false, []⟩,
  ⟨some 18, .ld1 (.t 17), some (15, false), false, []⟩,
  ⟨some 19, .call (.k (.c (.fn 18 [] []))) [(.t 16), (.t 18)], some (15, false), false, []⟩,
  ⟨some 20, .ldn 16 (.t 1), some (15, false), false, []⟩,
  ⟨some 21, .eqS true [.one true, .one true, .one true, .one true, .one true, .one true, .one true, .one true, .one true, .one true, .one true, .one true, .one false, .one false, .one false, .one false] (.t 19) (.t 20), some (15, false), true, []⟩,
  ⟨some 22, .pick 15 (.k (.c (.bool true))) (.t 21), none, true, []⟩]
def C11r3 : List AOper := [⟨some 2, .mv (.k (.c (.bool false))), none, true, []⟩]
def C11r4 : List AOper := [⟨some 23, .faddr (.t 1) 2, none, true, []⟩,
  ⟨some 24, .ld1 (.t 23), none, true, []⟩,
  ⟨some 25, .faddr (.t 1) 3, none, true, []⟩,
  ⟨some 26, .ld1 (.t 25), none, true, []⟩,
  ⟨some 27, .faddr (.t 1) 4, none, true, []⟩,
  ⟨some 28, .ld1 (.t 27), none, true, []⟩,
  ⟨some 29, .faddr (.t 1) 5, none, true, []⟩,
  ⟨some 30, .ld1 (.t 29), none, true, []⟩,
  ⟨some 31, .bslice 3 1 [.c (.int .i64 0)] 4 [(0, 1, (.t 24)), (1, 1, (.t 26)), (2, 1, (.t 28)), (3, 1, (.t 30))], none, true, []⟩,
  ⟨some 32, .len false (.t 31), none, true, []⟩,
  ⟨some 33, .mv (.k (.c (.int .i64 0))), none, true, []⟩]
def C11r5 : List AOper := [⟨some 34, .bin .lss (.t 33) (.t 32), none, true, []⟩]
def C11r6 : List AOper := [⟨some 35, .iaddr 1 (.t 31) (.t 33), none, true, []⟩,
  ⟨some 36, .ld1 (.t 35), none, true, []⟩,
  ⟨some 6, .mv (.t 36), none, true, []⟩]
def C11r7 : List AOper := [⟨some 37, .mv (.t 6), none, true, []⟩,
  ⟨some 38, .bin .lss (.t 37) (.k (.c (.int .i64 0))), none, true, []⟩,
  ⟨some 39, .mv (.t 38), none, true, []⟩,
  ⟨some 40, .mv (.t 6), some (39, false), true, []⟩,
  ⟨some 41, .bin .gtr (.t 40) (.k (.c (.int .i64 31))), some (39, false), true, []⟩,
  ⟨some 42, .pick 39 (.k (.c (.bool true))) (.t 41), none, true, []⟩]
def C11r8 : List AOper := [⟨some 2, .mv (.k (.c (.bool false))), none, true, []⟩]
def C11r9 : List AOper := [⟨some 43, .bin .add (.t 33) (.k (.c (.int .i64 1))), none, true, []⟩,
  ⟨some 33, .mv (.t 43), none, true, []⟩]
def C11r10 : List AOper := [⟨some 44, .faddr (.t 3) 1, none, true, []⟩,
  ⟨some 45, .ld1 (.t 44), none, true, []⟩,
  ⟨some 46, .ldn 16 (.t 1), none, true, []⟩,
  ⟨some 47, .call (.t 45) [(.t 46)], none, true, []⟩,
  ⟨some 2, .mv (.t 47), none, true, []⟩]
def C11 : ACode :=
  .seq (.region C11r0)
  (.seq (.region C11r1)
  (.seq (.seq (.region C11r2)
  (.cond (.t 22)
   (.seq (.region C11r3)
   (.ret))
   (.skip)))
  (.seq (.seq (.region C11r4)
  (.block 0
   (.loop
    (.seq (.region C11r5)
    (.seq (.cond (.t 34)
     (.skip)
     (.exit 0))
    (.seq (.block 1
     (.seq (.region C11r6)
     (.seq (.region C11r7)
     (.cond (.t 42)
      (.seq (.region C11r8)
      (.ret))
      (.skip)))))
    (.region C11r9)))))))
  (.seq (.region C11r10)
  (.ret)))))
theorem C11_ok : stripF Tryz.prog Tryz.f11 = some C11 := by kernel_rfl
/-! understudy/code.forms -/
def C12r0 : List AOper := [⟨some 0, .mv (.k (.c (.nils))), none, true, []⟩]
def C12r1 : List AOper := [⟨some 1, .build [.c (.int .i64 0), .c (.int .i64 0), .c (.int .u32 0), .c (.int .u32 0), .c (.nilfn), .c (.nilfn)] [(0, 1, (.k (.c (.int .i64 1)))), (1, 1, (.k (.c (.int .i64 (-1))))), (2, 1, (.k (.c (.int .u32 2675965952)))), (3, 1, (.k (.c (.int .u32 2432696320)))), (4, 1, (.k (.c (.fn 19 [] [])))), (5, 1, (.k (.c (.fn 20 [] []))))], none, true, []⟩,
  ⟨some 2, .build [.c (.int .i64 0), .c (.int .i64 0), .c (.int .u32 0), .c (.int .u32 0), .c (.nilfn), .c (.nilfn)] [(0, 1, (.k (.c (.int .i64 2)))), (1, 1, (.k (.c (.int .i64 (-1))))), (2, 1, (.k (.c (.int .u32 2669674496)))), (3, 1, (.k (.c (.int .u32 2332033024)))), (4, 1, (.k (.c (.fn 21 [] [])))), (5, 1, (.k (.c (.fn 22 [] []))))], none, true, []⟩,
  ⟨some 3, .build [.c (.int .i64 0), .c (.int .i64 0), .c (.int .u32 0), .c (.int .u32 0), .c (.nilfn), .c (.nilfn)] [(0, 1, (.k (.c (.int .i64 3)))), (1, 1, (.k (.c (.int .i64 (-1))))), (2, 1, (.k (.c (.int .u32 2667577344)))), (3, 1, (.k (.c (.int .u32 2315255808)))), (4, 1, (.k (.c (.fn 23 [] [])))), (5, 1, (.k (.c (.fn 24 [] []))))], none, true, []⟩,
  ⟨some 4, .build [.c (.int .i64 0), .c (.int .i64 0), .c (.int .u32 0), .c (.int .u32 0), .c (.nilfn), .c (.nilfn)] [(0, 1, (.k (.c (.int .i64 4)))), (1, 1, (.k (.c (.int .i64 (-1))))), (2, 1, (.k (.c (.int .u32 2675965952)))), (3, 1, (.k (.c (.int .u32 2449473536)))), (4, 1, (.k (.c (.fn 25 [] [])))), (5, 1, (.k (.c (.fn 26 [] []))))], none, true, []⟩,
  ⟨some 5, .build [.c (.int .i64 0), .c (.int .i64 0), .c (.int .u32 0), .c (.int .u32 0), .c (.nilfn), .c (.nilfn)] [(0, 1, (.k (.c (.int .i64 5)))), (1, 1, (.k (.c (.int .i64 (-1))))), (2, 1, (.k (.c (.int .u32 2675965952)))), (3, 1, (.k (.c (.int .u32 2457862144)))), (4, 1, (.k (.c (.fn 27 [] [])))), (5, 1, (.k (.c (.fn 28 [] []))))], none, true, []⟩,
  ⟨some 6, .build [.c (.int .i64 0), .c (.int .i64 0), .c (.int .u32 0), .c (.int .u32 0), .c (.nilfn), .c (.nilfn)] [(0, 1, (.k (.c (.int .i64 6)))), (1, 1, (.k (.c (.int .i64 (-1))))), (2, 1, (.k (.c (.int .u32 2680160256)))), (3, 1, (.k (.c (.int .u32 2470445056)))), (4, 1, (.k (.c (.fn 29 [] [])))), (5, 1, (.k (.c (.fn 30 [] []))))], none, true, []⟩,
  ⟨some 7, .build [.c (.int .i64 0), .c (.int .i64 0), .c (.int .u32 0), .c (.int .u32 0), .c (.nilfn), .c (.nilfn)] [(0, 1, (.k (.c (.int .i64 7)))), (1, 1, (.k (.c (.int .i64 (-1))))), (2, 1, (.k (.c (.int .u32 4292931584)))), (3, 1, (.k (.c (.int .u32 2596282368)))), (4, 1, (.k (.c (.fn 31 [] [])))), (5, 1, (.k (.c (.fn 32 [] []))))], none, true, []⟩,
  ⟨some 8, .build [.c (.int .i64 0), .c (.int .i64 0), .c (.int .u32 0), .c (.int .u32 0), .c (.nilfn), .c (.nilfn)] [(0, 1, (.k (.c (.int .i64 8)))), (1, 1, (.k (.c (.int .i64 (-1))))), (2, 1, (.k (.c (.int .u32 4292870144)))), (3, 1, (.k (.c (.int .u32 2600468480)))), (4, 1, (.k (.c (.fn 33 [] [])))), (5, 1, (.k (.c (.fn 34 [] []))))], none, true, []⟩,
  ⟨some 9, .build [.c (.int .i64 0), .c (.int .i64 0), .c (.int .u32 0), .c (.int .u32 0), .c (.nilfn), .c (.nilfn)] [(0, 1, (.k (.c (.int .i64 9)))), (1, 1, (.k (.c (.int .i64 (-1))))), (2, 1, (.k (.c (.int .u32 4292933632)))), (3, 1, (.k (.c (.int .u32 2596276224)))), (4, 1, (.k (.c (.fn 31 [] [])))), (5, 1, (.k (.c (.fn 35 [] []))))], none, true, []⟩,
  ⟨some 10, .build [.c (.int .i64 0), .c (.int .i64 0), .c (.int .u32 0), .c (.int .u32 0), .c (.nilfn), .c (.nilfn)] [(0, 1, (.k (.c (.int .i64 10)))), (1, 1, (.k (.c (.int .i64 (-1))))), (2, 1, (.k (.c (.int .u32 3219130368)))), (3, 1, (.k (.c (.int .u32 2592079872)))), (4, 1, (.k (.c (.fn 36 [] [])))), (5, 1, (.k (.c (.fn 37 [] []))))], none, true, []⟩,
  ⟨some 11, .build [.c (.int .i64 0), .c (.int .i64 0), .c (.int .u32 0), .c (.int .u32 0), .c (.nilfn), .c (.nilfn)] [(0, 1, (.k (.c (.int .i64 11)))), (1, 1, (.k (.c (.int .i64 (-1))))), (2, 1, (.k (.c (.int .u32 520093696)))), (3, 1, (.k (.c (.int .u32 268435456)))), (4, 1, (.k (.c (.fn 38 [] [])))), (5, 1, (.k (.c (.fn 39 [] []))))], none, true, []⟩,
  ⟨some 12, .build [.c (.int .i64 0), .c (.int .i64 0), .c (.int .u32 0), .c (.int .u32 0), .c (.nilfn), .c (.nilfn)] [(0, 1, (.k (.c (.int .i64 12)))), (1, 1, (.k (.c (.int .i64 (-1))))), (2, 1, (.k (.c (.int .u32 2080374784)))), (3, 1, (.k (.c (.int .u32 335544320)))), (4, 1, (.k (.c (.fn 40 [] [])))), (5, 1, (.k (.c (.fn 41 [] []))))], none, true, []⟩,
  ⟨some 13, .build [.c (.int .i64 0), .c (.int .i64 0), .c (.int .u32 0), .c (.int .u32 0), .c (.nilfn), .c (.nilfn)] [(0, 1, (.k (.c (.int .i64 13)))), (1, 1, (.k (.c (.int .i64 (-1))))), (2, 1, (.k (.c (.int .u32 4278190096)))), (3, 1, (.k (.c (.int .u32 1409286144)))), (4, 1, (.k (.c (.fn 42 [] [])))), (5, 1, (.k (.c (.fn 43 [] []))))], none, true, []⟩,
  ⟨some 14, .build [.c (.int .i64 0), .c (.int .i64 0), .c (.int .u32 0), .c (.int .u32 0), .c (.nilfn), .c (.nilfn)] [(0, 1, (.k (.c (.int .i64 14)))), (1, 1, (.k (.c (.int .i64 (-1))))), (2, 1, (.k (.c (.int .u32 4261412864)))), (3, 1, (.k (.c (.int .u32 3019898880)))), (4, 1, (.k (.c (.fn 44 [] [])))), (5, 1, (.k (.c (.fn 45 [] []))))], none, true, []⟩,
  ⟨some 15, .build [.c (.int .i64 0), .c (.int .i64 0), .c (.int .u32 0), .c (.int .u32 0), .c (.nilfn), .c (.nilfn)] [(0, 1, (.k (.c (.int .i64 15)))), (1, 1, (.k (.c (.int .i64 (-1))))), (2, 1, (.k (.c (.int .u32 2113929216)))), (3, 1, (.k (.c (.int .u32 905969664)))), (4, 1, (.k (.c (.fn 46 [] [])))), (5, 1, (.k (.c (.fn 47 [] []))))], none, true, []⟩,
  ⟨some 16, .build [.c (.int .i64 0), .c (.int .i64 0), .c (.int .u32 0), .c (.int .u32 0), .c (.nilfn), .c (.nilfn)] [(0, 1, (.k (.c (.int .i64 16)))), (1, 1, (.k (.c (.int .i64 (-1))))), (2, 1, (.k (.c (.int .u32 4288674847)))), (3, 1, (.k (.c (.int .u32 3592355840)))), (4, 1, (.k (.c (.fn 48 [] [])))), (5, 1, (.k (.c (.fn 49 [] []))))], none, true, []⟩,
  ⟨some 17, .call (.k (.c (.fn 51 [] []))) [(.k (.c (.int .i64 17)))], none, true, []⟩,
  ⟨some 18, .build [.c (.int .i64 0), .c (.int .i64 0), .c (.int .u32 0), .c (.int .u32 0), .c (.nilfn), .c (.nilfn)] [(0, 1, (.k (.c (.int .i64 17)))), (1, 1, (.k (.c (.int .i64 (-1))))), (2, 1, (.k (.c (.int .u32 4290772992)))), (3, 1, (.k (.c (.int .u32 4181721088)))), (4, 1, (.k (.c (.fn 50 [] [])))), (5, 1, (.t 17))], none, true, []⟩,
  ⟨some 19, .call (.k (.c (.fn 51 [] []))) [(.k (.c (.int .i64 18)))], none, true, []⟩,
  ⟨some 20, .build [.c (.int .i64 0), .c (.int .i64 0), .c (.int .u32 0), .c (.int .u32 0), .c (.nilfn), .c (.nilfn)] [(0, 1, (.k (.c (.int .i64 18)))), (1, 1, (.k (.c (.int .i64 (-1))))), (2, 1, (.k (.c (.int .u32 4290772992)))), (3, 1, (.k (.c (.int .u32 4177526784)))), (4, 1, (.k (.c (.fn 50 [] [])))), (5, 1, (.t 19))], none, true, []⟩,
  ⟨some 21, .call (.k (.c (.fn 53 [] []))) [(.k (.c (.int .i64 19)))], none, true, []⟩,
  ⟨some 22, .build [.c (.int .i64 0), .c (.int .i64 0), .c (.int .u32 0), .c (.int .u32 0), .c (.nilfn), .c (.nilfn)] [(0, 1, (.k (.c (.int .i64 19)))), (1, 1, (.k (.c (.int .i64 (-1))))), (2, 1, (.k (.c (.int .u32 4292930560)))), (3, 1, (.k (.c (.int .u32 4167067648)))), (4, 1, (.k (.c (.fn 52 [] [])))), (5, 1, (.t 21))], none, true, []⟩,
  ⟨some 23, .call (.k (.c (.fn 53 [] []))) [(.k (.c (.int .i64 20)))], none, true, []⟩,
  ⟨some 24, .build [.c (.int .i64 0), .c (.int .i64 0), .c (.int .u32 0), .c (.int .u32 0), .c (.nilfn), .c (.nilfn)] [(0, 1, (.k (.c (.int .i64 20)))), (1, 1, (.k (.c (.int .i64 (-1))))), (2, 1, (.k (.c (.int .u32 4292930560)))), (3, 1, (.k (.c (.int .u32 4162873344)))), (4, 1, (.k (.c (.fn 52 [] [])))), (5, 1, (.t 23))], none, true, []⟩,
  ⟨some 25, .call (.k (.c (.fn 55 [] []))) [(.k (.c (.int .i64 21))), (.k (.c (.int .i64 0)))], none, true, []⟩,
  ⟨some 26, .build [.c (.int .i64 0), .c (.int .i64 0), .c (.int .u32 0), .c (.int .u32 0), .c (.nilfn), .c (.nilfn)] [(0, 1, (.k (.c (.int .i64 21)))), (1, 1, (.k (.c (.int .i64 0)))), (2, 1, (.k (.c (.int .u32 4294966272)))), (3, 1, (.k (.c (.int .u32 3370122240)))), (4, 1, (.k (.c (.fn 54 [] [])))), (5, 1, (.t 25))], none, true, []⟩,
  ⟨some 27, .call (.k (.c (.fn 55 [] []))) [(.k (.c (.int .i64 21))), (.k (.c (.int .i64 1)))], none, true, []⟩,
  ⟨some 28, .build [.c (.int .i64 0), .c (.int .i64 0), .c (.int .u32 0), .c (.int .u32 0), .c (.nilfn), .c (.nilfn)] [(0, 1, (.k (.c (.int .i64 21)))), (1, 1, (.k (.c (.int .i64 1)))), (2, 1, (.k (.c (.int .u32 4294966272)))), (3, 1, (.k (.c (.int .u32 4173316096)))), (4, 1, (.k (.c (.fn 54 [] [])))), (5, 1, (.t 27))], none, true, []⟩,
  ⟨some 29, .call (.k (.c (.fn 55 [] []))) [(.k (.c (.int .i64 22))), (.k (.c (.int .i64 0)))], none, true, []⟩,
  ⟨some 30, .build [.c (.int .i64 0), .c (.int .i64 0), .c (.int .u32 0), .c (.int .u32 0), .c (.nilfn), .c (.nilfn)] [(0, 1, (.k (.c (.int .i64 22)))), (1, 1, (.k (.c (.int .i64 (-1))))), (2, 1, (.k (.c (.int .u32 4294966272)))), (3, 1, (.k (.c (.int .u32 3365927936)))), (4, 1, (.k (.c (.fn 54 [] [])))), (5, 1, (.t 29))], none, true, []⟩,
  ⟨some 31, .call (.k (.c (.fn 57 [] []))) [(.k (.c (.int .i64 23)))], none, true, []⟩,
  ⟨some 32, .build [.c (.int .i64 0), .c (.int .i64 0), .c (.int .u32 0), .c (.int .u32 0), .c (.nilfn), .c (.nilfn)] [(0, 1, (.k (.c (.int .i64 23)))), (1, 1, (.k (.c (.int .i64 (-1))))), (2, 1, (.k (.c (.int .u32 4294933504)))), (3, 1, (.k (.c (.int .u32 3361700864)))), (4, 1, (.k (.c (.fn 56 [] [])))), (5, 1, (.t 31))], none, true, []⟩,
  ⟨some 33, .call (.k (.c (.fn 57 [] []))) [(.k (.c (.int .i64 24)))], none, true, []⟩,
  ⟨some 34, .build [.c (.int .i64 0), .c (.int .i64 0), .c (.int .u32 0), .c (.int .u32 0), .c (.nilfn), .c (.nilfn)] [(0, 1, (.k (.c (.int .i64 24)))), (1, 1, (.k (.c (.int .i64 (-1))))), (2, 1, (.k (.c (.int .u32 4292901888)))), (3, 1, (.k (.c (.int .u32 3355474944)))), (4, 1, (.k (.c (.fn 56 [] [])))), (5, 1, (.t 33))], none, true, []⟩,
  ⟨some 35, .call (.k (.c (.fn 58 [] []))) [(.k (.c (.int .i64 25)))], none, true, []⟩,
  ⟨some 36, .build [.c (.int .i64 0), .c (.int .i64 0), .c (.int .u32 0), .c (.int .u32 0), .c (.nilfn), .c (.nilfn)] [(0, 1, (.k (.c (.int .i64 25)))), (1, 1, (.k (.c (.int .i64 (-1))))), (2, 1, (.k (.c (.int .u32 4294967295)))), (3, 1, (.k (.c (.int .u32 3573759839)))), (4, 1, (.k (.c (.fn 54 [] [])))), (5, 1, (.t 35))], none, true, []⟩,
  ⟨some 37, .call (.k (.c (.fn 59 [] []))) [(.k (.c (.int .i64 8))), (.k (.c (.int .i64 2)))], none, true, []⟩,
  ⟨some 38, .call (.k (.c (.fn 60 [] []))) [(.k (.c (.int .i64 26))), (.k (.c (.int .i64 0))), (.k (.c (.int .i64 8))), (.k (.c (.int .i64 2)))], none, true, []⟩,
  ⟨some 39, .build [.c (.int .i64 0), .c (.int .i64 0), .c (.int .u32 0), .c (.int .u32 0), .c (.nilfn), .c (.nilfn)] [(0, 1, (.k (.c (.int .i64 26)))), (1, 1, (.k (.c (.int .i64 0)))), (2, 1, (.k (.c (.int .u32 4294966527)))), (3, 1, (.k (.c (.int .u32 3573759167)))), (4, 1, (.t 37)), (5, 1, (.t 38))], none, true, []⟩,
  ⟨some 40, .call (.k (.c (.fn 59 [] []))) [(.k (.c (.int .i64 8))), (.k (.c (.int .i64 2)))], none, true, []⟩,
  ⟨some 41, .call (.k (.c (.fn 60 [] []))) [(.k (.c (.int .i64 26))), (.k (.c (.int .i64 1))), (.k (.c (.int .i64 8))), (.k (.c (.int .i64 2)))], none, true, []⟩,
  ⟨some 42, .build [.c (.int .i64 0), .c (.int .i64 0), .c (.int .u32 0), .c (.int .u32 0), .c (.nilfn), .c (.nilfn)] [(0, 1, (.k (.c (.int .i64 26)))), (1, 1, (.k (.c (.int .i64 1)))), (2, 1, (.k (.c (.int .u32 4294966527)))), (3, 1, (.k (.c (.int .u32 3573759135)))), (4, 1, (.t 40)), (5, 1, (.t 41))], none, true, []⟩,
  ⟨some 43, .call (.k (.c (.fn 58 [] []))) [(.k (.c (.int .i64 27)))], none, true, []⟩,
  ⟨some 44, .build [.c (.int .i64 0), .c (.int .i64 0), .c (.int .u32 0), .c (.int .u32 0), .c (.nilfn), .c (.nilfn)] [(0, 1, (.k (.c (.int .i64 27)))), (1, 1, (.k (.c (.int .i64 (-1))))), (2, 1, (.k (.c (.int .u32 4294967295)))), (3, 1, (.k (.c (.int .u32 3573759967)))), (4, 1, (.k (.c (.fn 54 [] [])))), (5, 1, (.t 43))], none, true, []⟩,
  ⟨some 45, .call (.k (.c (.fn 61 [] []))) [(.k (.c (.int .i64 28)))], none, true, []⟩,
  ⟨some 46, .build [.c (.int .i64 0), .c (.int .i64 0), .c (.int .u32 0), .c (.int .u32 0), .c (.nilfn), .c (.nilfn)] [(0, 1, (.k (.c (.int .i64 28)))), (1, 1, (.k (.c (.int .i64 (-1))))), (2, 1, (.k (.c (.int .u32 4294967264)))), (3, 1, (.k (.c (.int .u32 3574297888)))), (4, 1, (.k (.c (.fn 54 [] [])))), (5, 1, (.t 45))], none, true, []⟩,
  ⟨some 47, .call (.k (.c (.fn 61 [] []))) [(.k (.c (.int .i64 30)))], none, true, []⟩,
  ⟨some 48, .build [.c (.int .i64 0), .c (.int .i64 0), .c (.int .u32 0), .c (.int .u32 0), .c (.nilfn), .c (.nilfn)] [(0, 1, (.k (.c (.int .i64 30)))), (1, 1, (.k (.c (.int .i64 (-1))))), (2, 1, (.k (.c (.int .u32 4294967264)))), (3, 1, (.k (.c (.int .u32 3574299424)))), (4, 1, (.k (.c (.fn 54 [] [])))), (5, 1, (.t 47))], none, true, []⟩,
  ⟨some 49, .call (.k (.c (.fn 58 [] []))) [(.k (.c (.int .i64 29)))], none, true, []⟩,
  ⟨some 50, .build [.c (.int .i64 0), .c (.int .i64 0), .c (.int .u32 0), .c (.int .u32 0), .c (.nilfn), .c (.nilfn)] [(0, 1, (.k (.c (.int .i64 29)))), (1, 1, (.k (.c (.int .i64 (-1))))), (2, 1, (.k (.c (.int .u32 4294967295)))), (3, 1, (.k (.c (.int .u32 3574101279)))), (4, 1, (.k (.c (.fn 54 [] [])))), (5, 1, (.t 49))], none, true, []⟩,
  ⟨some 51, .call (.k (.c (.fn 63 [] []))) [(.k (.c (.int .i64 31)))], none, true, []⟩,
  ⟨some 52, .build [.c (.int .i64 0), .c (.int .i64 0), .c (.int .u32 0), .c (.int .u32 0), .c (.nilfn), .c (.nilfn)] [(0, 1, (.k (.c (.int .i64 31)))), (1, 1, (.k (.c (.int .i64 (-1))))), (2, 1, (.k (.c (.int .u32 4293918720)))), (3, 1, (.k (.c (.int .u32 3576692736)))), (4, 1, (.k (.c (.fn 62 [] [])))), (5, 1, (.t 51))], none, true, []⟩,
  ⟨some 53, .call (.k (.c (.fn 63 [] []))) [(.k (.c (.int .i64 32)))], none, true, []⟩,
  ⟨some 54, .build [.c (.int .i64 0), .c (.int .i64 0), .c (.int .u32 0), .c (.int .u32 0), .c (.nilfn), .c (.nilfn)] [(0, 1, (.k (.c (.int .i64 32)))), (1, 1, (.k (.c (.int .i64 (-1))))), (2, 1, (.k (.c (.int .u32 4293918720)))), (3, 1, (.k (.c (.int .u32 3574595584)))), (4, 1, (.k (.c (.fn 62 [] [])))), (5, 1, (.t 53))], none, true, []⟩,
  ⟨some 55, .call (.k (.c (.fn 59 [] []))) [(.k (.c (.int .i64 8))), (.k (.c (.int .i64 4)))], none, true, []⟩,
  ⟨some 56, .call (.k (.c (.fn 60 [] []))) [(.k (.c (.int .i64 33))), (.k (.c (.int .i64 0))), (.k (.c (.int .i64 8))), (.k (.c (.int .i64 4)))], none, true, []⟩,
  ⟨some 57, .build [.c (.int .i64 0), .c (.int .i64 0), .c (.int .u32 0), .c (.int .u32 0), .c (.nilfn), .c (.nilfn)] [(0, 1, (.k (.c (.int .i64 33)))), (1, 1, (.k (.c (.int .i64 0)))), (2, 1, (.k (.c (.int .u32 4294963455)))), (3, 1, (.k (.c (.int .u32 3573760223)))), (4, 1, (.t 55)), (5, 1, (.t 56))], none, true, []⟩,
  ⟨some 58, .call (.k (.c (.fn 59 [] []))) [(.k (.c (.int .i64 8))), (.k (.c (.int .i64 4)))], none, true, []⟩,
  ⟨some 59, .call (.k (.c (.fn 60 [] []))) [(.k (.c (.int .i64 33))), (.k (.c (.int .i64 1))), (.k (.c (.int .i64 8))), (.k (.c (.int .i64 4)))], none, true, []⟩,
  ⟨some 60, .build [.c (.int .i64 0), .c (.int .i64 0), .c (.int .u32 0), .c (.int .u32 0), .c (.nilfn), .c (.nilfn)] [(0, 1, (.k (.c (.int .i64 33)))), (1, 1, (.k (.c (.int .i64 1)))), (2, 1, (.k (.c (.int .u32 4294963455)))), (3, 1, (.k (.c (.int .u32 3573760255)))), (4, 1, (.t 58)), (5, 1, (.t 59))], none, true, []⟩,
  ⟨some 61, .call (.k (.c (.fn 59 [] []))) [(.k (.c (.int .i64 5))), (.k (.c (.int .i64 16)))], none, true, []⟩,
  ⟨some 62, .call (.k (.c (.fn 60 [] []))) [(.k (.c (.int .i64 34))), (.k (.c (.int .i64 0))), (.k (.c (.int .i64 5))), (.k (.c (.int .i64 16)))], none, true, []⟩,
  ⟨some 63, .build [.c (.int .i64 0), .c (.int .i64 0), .c (.int .u32 0), .c (.int .u32 0), .c (.nilfn), .c (.nilfn)] [(0, 1, (.k (.c (.int .i64 34)))), (1, 1, (.k (.c (.int .i64 (-1))))), (2, 1, (.k (.c (.int .u32 4292870175)))), (3, 1, (.k (.c (.int .u32 3556769793)))), (4, 1, (.t 61)), (5, 1, (.t 62))], none, true, []⟩,
  ⟨some 64, .call (.k (.c (.fn 59 [] []))) [(.k (.c (.int .i64 5))), (.k (.c (.int .i64 16)))], none, true, []⟩,
  ⟨some 65, .call (.k (.c (.fn 60 [] []))) [(.k (.c (.int .i64 35))), (.k (.c (.int .i64 0))), (.k (.c (.int .i64 5))), (.k (.c (.int .i64 16)))], none, true, []⟩,
  ⟨some 66, .build [.c (.int .i64 0), .c (.int .i64 0), .c (.int .u32 0), .c (.int .u32 0), .c (.nilfn), .c (.nilfn)] [(0, 1, (.k (.c (.int .i64 35)))), (1, 1, (.k (.c (.int .i64 (-1))))), (2, 1, (.k (.c (.int .u32 4292870175)))), (3, 1, (.k (.c (.int .u32 3558866944)))), (4, 1, (.t 64)), (5, 1, (.t 65))], none, true, []⟩,
  ⟨some 67, .call (.k (.c (.fn 58 [] []))) [(.k (.c (.int .i64 36)))], none, true, []⟩,
  ⟨some 68, .build [.c (.int .i64 0), .c (.int .i64 0), .c (.int .u32 0), .c (.int .u32 0), .c (.nilfn), .c (.nilfn)] [(0, 1, (.k (.c (.int .i64 36)))), (1, 1, (.k (.c (.int .i64 (-1))))), (2, 1, (.k (.c (.int .u32 4294967295)))), (3, 1, (.k (.c (.int .u32 3600745440)))), (4, 1, (.k (.c (.fn 54 [] [])))), (5, 1, (.t 67))], none, true, []⟩,
  ⟨some 69, .call (.k (.c (.fn 59 [] []))) [(.k (.c (.int .i64 5))), (.k (.c (.int .i64 3)))], none, true, []⟩,
  ⟨some 70, .call (.k (.c (.fn 60 [] []))) [(.k (.c (.int .i64 37))), (.k (.c (.int .i64 0))), (.k (.c (.int .i64 5))), (.k (.c (.int .i64 3)))], none, true, []⟩,
  ⟨some 71, .build [.c (.int .i64 0), .c (.int .i64 0), .c (.int .u32 0), .c (.int .u32 0), .c (.nilfn), .c (.nilfn)] [(0, 1, (.k (.c (.int .i64 37)))), (1, 1, (.k (.c (.int .i64 (-1))))), (2, 1, (.k (.c (.int .u32 4294967071)))), (3, 1, (.k (.c (.int .u32 3573751839)))), (4, 1, (.t 69)), (5, 1, (.t 70))], none, true, []⟩,
  ⟨some 72, .bslice 42 6 [.c (.int .i64 0), .c (.int .i64 0), .c (.int .u32 0), .c (.int .u32 0), .c (.nilfn), .c (.nilfn)] 40 [(0, 6, (.t 1)), (6, 6, (.t 2)), (12, 6, (.t 3)), (18, 6, (.t 4)), (24, 6, (.t 5)), (30, 6, (.t 6)), (36, 6, (.t 7)), (42, 6, (.t 8)), (48, 6, (.t 9)), (54, 6, (.t 10)), (60, 6, (.t 11)), (66, 6, (.t 12)), (72, 6, (.t 13)), (78, 6, (.t 14)), (84, 6, (.t 15)), (90, 6, (.t 16)), (96, 6, (.t 18)), (102, 6, (.t 20)), (108, 6, (.t 22)), (114, 6, (.t 24)), (120, 6, (.t 26)), (126, 6, (.t 28)), (132, 6, (.t 30)), (138, 6, (.t 32)), (144, 6, (.t 34)), (150, 6, (.t 36)), (156, 6, (.t 39)), (162, 6, (.t 42)), (168, 6, (.t 44)), (174, 6, (.t 46)), (180, 6, (.t 48)), (186, 6, (.t 50)), (192, 6, (.t 52)), (198, 6, (.t 54)), (204, 6, (.t 57)), (210, 6, (.t 60)), (216, 6, (.t 63)), (222, 6, (.t 66)), (228, 6, (.t 68)), (234, 6, (.t 71))], none, true, []⟩,
  ⟨some 0, .mv (.t 72), none, true, []⟩]
def C12 : ACode :=
  .seq (.region C12r0)
  (.seq (.region C12r1)
  (.ret))
theorem C12_ok : stripF Tryz.prog Tryz.f12 = some C12 := by kernel_rfl
/-! understudy/insn.shapeOf -/
def C17r0 : List AOper := [⟨some 2, .alloc 48 [.c (.str ⟨#[]⟩), .c (.nilfn)], none, true, []⟩,
  ⟨some 3, .mv (.k (.c (.bool false))), none, true, []⟩]
def C17r1 : List AOper := [⟨some 4, .mv (.t 0), none, true, []⟩]
def C17r2 : List AOper := [⟨some 6, .bin .eql (.t 4) (.k (.c (.int .i64 1))), none, true, []⟩,
  ⟨some 5, .mv (.t 6), none, true, []⟩]
def C17r3 : List AOper := [⟨some 7, .build [.c (.str ⟨#[]⟩), .c (.nilfn)] [(0, 1, (.k (.c (.str ⟨#[100, 110, 105, 107, 70, 77]⟩)))), (1, 1, (.k (.c (.fn 69 [] []))))], none, true, []⟩,
  ⟨none, .stn 2 (.t 2) (.t 7), none, true, []⟩,
  ⟨some 3, .mv (.k (.c (.bool true))), none, true, []⟩]
def C17r4 : List AOper := [⟨some 9, .bin .eql (.t 4) (.k (.c (.int .i64 2))), none, true, []⟩,
  ⟨some 8, .mv (.t 9), none, true, []⟩]
def C17r5 : List AOper := [⟨some 10, .build [.c (.str ⟨#[]⟩), .c (.nilfn)] [(0, 1, (.k (.c (.str ⟨#[100, 110, 109, 116, 107, 70, 77]⟩)))), (1, 1, (.k (.c (.fn 71 [] []))))], none, true, []⟩,
  ⟨none, .stn 2 (.t 2) (.t 10), none, true, []⟩,
  ⟨some 3, .mv (.k (.c (.bool true))), none, true, []⟩]
def C17r6 : List AOper := [⟨some 12, .bin .eql (.t 4) (.k (.c (.int .i64 3))), none, true, []⟩,
  ⟨some 11, .mv (.t 12), none, true, []⟩]
def C17r7 : List AOper := [⟨some 13, .build [.c (.str ⟨#[]⟩), .c (.nilfn)] [(0, 1, (.k (.c (.str ⟨#[100, 110, 109, 115, 116, 107, 70, 78]⟩)))), (1, 1, (.k (.c (.fn 72 [] []))))], none, true, []⟩,
  ⟨none, .stn 2 (.t 2) (.t 13), none, true, []⟩,
  ⟨some 3, .mv (.k (.c (.bool true))), none, true, []⟩]
def C17r8 : List AOper := [⟨some 15, .bin .eql (.t 4) (.k (.c (.int .i64 4))), none, true, []⟩,
  ⟨some 14, .mv (.t 15), none, true, []⟩]
def C17r9 : List AOper := [⟨some 16, .build [.c (.str ⟨#[]⟩), .c (.nilfn)] [(0, 1, (.k (.c (.str ⟨#[100, 110, 115, 107, 105, 106, 70]⟩)))), (1, 1, (.k (.c (.fn 74 [] []))))], none, true, []⟩,
  ⟨none, .stn 2 (.t 2) (.t 16), none, true, []⟩,
  ⟨some 3, .mv (.k (.c (.bool true))), none, true, []⟩]
def C17r10 : List AOper := [⟨some 18, .bin .eql (.t 4) (.k (.c (.int .i64 5))), none, true, []⟩,
  ⟨some 17, .mv (.t 18), none, true, []⟩]
def C17r11 : List AOper := [⟨some 19, .build [.c (.str ⟨#[]⟩), .c (.nilfn)] [(0, 1, (.k (.c (.str ⟨#[100, 115, 105, 107]⟩)))), (1, 1, (.k (.c (.fn 76 [] []))))], none, true, []⟩,
  ⟨none, .stn 2 (.t 2) (.t 19), none, true, []⟩,
  ⟨some 3, .mv (.k (.c (.bool true))), none, true, []⟩]
def C17r12 : List AOper := [⟨some 21, .bin .eql (.t 4) (.k (.c (.int .i64 6))), none, true, []⟩,
  ⟨some 20, .mv (.t 21), none, true, []⟩]
def C17r13 : List AOper := [⟨some 22, .build [.c (.str ⟨#[]⟩), .c (.nilfn)] [(0, 1, (.k (.c (.str ⟨#[100, 110, 115, 105, 106]⟩)))), (1, 1, (.k (.c (.fn 77 [] []))))], none, true, []⟩,
  ⟨none, .stn 2 (.t 2) (.t 22), none, true, []⟩,
  ⟨some 3, .mv (.k (.c (.bool true))), none, true, []⟩]
def C17r14 : List AOper := [⟨some 24, .bin .eql (.t 4) (.k (.c (.int .i64 7))), none, true, []⟩,
  ⟨some 23, .mv (.t 24), none, true, []⟩]
def C17r15 : List AOper := [⟨some 25, .bslice 3 1 [.c (.int .i64 0)] 4 [(0, 1, (.k (.c (.int .i64 0)))), (1, 1, (.k (.c (.int .i64 1)))), (2, 1, (.k (.c (.int .i64 2)))), (3, 1, (.k (.c (.int .i64 3))))], none, true, []⟩,
  ⟨some 26, .call (.k (.c (.fn 78 [] []))) [(.t 25)], none, true, []⟩,
  ⟨some 27, .build [.c (.str ⟨#[]⟩), .c (.nilfn)] [(0, 1, (.k (.c (.str ⟨#[100, 110, 109, 115]⟩)))), (1, 1, (.t 26))], none, true, []⟩,
  ⟨none, .stn 2 (.t 2) (.t 27), none, true, []⟩,
  ⟨some 3, .mv (.k (.c (.bool true))), none, true, []⟩]
def C17r16 : List AOper := [⟨some 29, .bin .eql (.t 4) (.k (.c (.int .i64 8))), none, true, []⟩,
  ⟨some 28, .mv (.t 29), none, true, []⟩]
def C17r17 : List AOper := [⟨some 30, .build [.c (.str ⟨#[]⟩), .c (.nilfn)] [(0, 1, (.k (.c (.str ⟨#[100, 110, 109, 97, 77]⟩)))), (1, 1, (.k (.c (.fn 79 [] []))))], none, true, []⟩,
  ⟨none, .stn 2 (.t 2) (.t 30), none, true, []⟩,
  ⟨some 3, .mv (.k (.c (.bool true))), none, true, []⟩]
def C17r18 : List AOper := [⟨some 32, .bin .eql (.t 4) (.k (.c (.int .i64 9))), none, true, []⟩,
  ⟨some 31, .mv (.t 32), none, true, []⟩]
def C17r19 : List AOper := [⟨some 33, .bslice 3 1 [.c (.int .i64 0)] 2 [(0, 1, (.k (.c (.int .i64 0)))), (1, 1, (.k (.c (.int .i64 1))))], none, true, []⟩,
  ⟨some 34, .call (.k (.c (.fn 78 [] []))) [(.t 33)], none, true, []⟩,
  ⟨some 35, .build [.c (.str ⟨#[]⟩), .c (.nilfn)] [(0, 1, (.k (.c (.str ⟨#[100, 110, 109, 115]⟩)))), (1, 1, (.t 34))], none, true, []⟩,
  ⟨none, .stn 2 (.t 2) (.t 35), none, true, []⟩,
  ⟨some 3, .mv (.k (.c (.bool true))), none, true, []⟩]
def C17r20 : List AOper := [⟨some 37, .bin .eql (.t 4) (.k (.c (.int .i64 10))), none, true, []⟩,
  ⟨some 36, .mv (.t 37), none, true, []⟩]
def C17r21 : List AOper := [⟨some 38, .build [.c (.str ⟨#[]⟩), .c (.nilfn)] [(0, 1, (.k (.c (.str ⟨#[100, 110, 109, 115, 99]⟩)))), (1, 1, (.k (.c (.fn 80 [] []))))], none, true, []⟩,
  ⟨none, .stn 2 (.t 2) (.t 38), none, true, []⟩,
  ⟨some 3, .mv (.k (.c (.bool true))), none, true, []⟩]
def C17r22 : List AOper := [⟨some 40, .bin .eql (.t 4) (.k (.c (.int .i64 11))), none, true, []⟩,
  ⟨some 39, .mv (.t 40), none, true, []⟩]
def C17r23 : List AOper := [⟨some 41, .build [.c (.str ⟨#[]⟩), .c (.nilfn)] [(0, 1, (.k (.c (.str ⟨#[100, 115, 105]⟩)))), (1, 1, (.k (.c (.fn 81 [] []))))], none, true, []⟩,
  ⟨none, .stn 2 (.t 2) (.t 41), none, true, []⟩,
  ⟨some 3, .mv (.k (.c (.bool true))), none, true, []⟩]
def C17r24 : List AOper := [⟨some 43, .bin .eql (.t 4) (.k (.c (.int .i64 12))), none, true, []⟩,
  ⟨some 42, .mv (.t 43), none, true, []⟩]
def C17r25 : List AOper := [⟨some 44, .call (.k (.c (.fn 82 [] []))) [(.k (.c (.int .i64 27)))], none, true, []⟩,
  ⟨some 45, .build [.c (.str ⟨#[]⟩), .c (.nilfn)] [(0, 1, (.k (.c (.str ⟨#[105, 76]⟩)))), (1, 1, (.t 44))], none, true, []⟩,
  ⟨none, .stn 2 (.t 2) (.t 45), none, true, []⟩,
  ⟨some 3, .mv (.k (.c (.bool true))), none, true, []⟩]
def C17r26 : List AOper := [⟨some 47, .bin .eql (.t 4) (.k (.c (.int .i64 13))), none, true, []⟩,
  ⟨some 46, .mv (.t 47), none, true, []⟩]
def C17r27 : List AOper := [⟨some 48, .build [.c (.str ⟨#[]⟩), .c (.nilfn)] [(0, 1, (.k (.c (.str ⟨#[99, 105]⟩)))), (1, 1, (.k (.c (.fn 83 [] []))))], none, true, []⟩,
  ⟨none, .stn 2 (.t 2) (.t 48), none, true, []⟩,
  ⟨some 3, .mv (.k (.c (.bool true))), none, true, []⟩]
def C17r28 : List AOper := [⟨some 50, .bin .eql (.t 4) (.k (.c (.int .i64 14))), none, true, []⟩,
  ⟨some 49, .mv (.t 50), none, true, []⟩]
def C17r29 : List AOper := [⟨some 51, .call (.k (.c (.fn 82 [] []))) [(.k (.c (.int .i64 20)))], none, true, []⟩,
  ⟨some 52, .build [.c (.str ⟨#[]⟩), .c (.nilfn)] [(0, 1, (.k (.c (.str ⟨#[100, 105, 78]⟩)))), (1, 1, (.t 51))], none, true, []⟩,
  ⟨none, .stn 2 (.t 2) (.t 52), none, true, []⟩,
  ⟨some 3, .mv (.k (.c (.bool true))), none, true, []⟩]
def C17r30 : List AOper := [⟨some 54, .bin .eql (.t 4) (.k (.c (.int .i64 15))), none, true, []⟩,
  ⟨some 53, .mv (.t 54), none, true, []⟩]
def C17r31 : List AOper := [⟨some 55, .build [.c (.str ⟨#[]⟩), .c (.nilfn)] [(0, 1, (.k (.c (.str ⟨#[100, 105, 107, 78]⟩)))), (1, 1, (.k (.c (.fn 84 [] []))))], none, true, []⟩,
  ⟨none, .stn 2 (.t 2) (.t 55), none, true, []⟩,
  ⟨some 3, .mv (.k (.c (.bool true))), none, true, []⟩]
def C17r32 : List AOper := [⟨some 57, .bin .eql (.t 4) (.k (.c (.int .i64 16))), none, true, []⟩,
  ⟨some 56, .mv (.t 57), none, true, []⟩]
def C17r33 : List AOper := [⟨some 58, .bslice 3 1 [.c (.int .i64 0)] 3 [(0, 1, (.k (.c (.int .i64 0)))), (1, 1, (.k (.c (.int .i64 1)))), (2, 1, (.k (.c (.int .i64 2))))], none, true, []⟩,
  ⟨some 59, .call (.k (.c (.fn 78 [] []))) [(.t 58)], none, true, []⟩,
  ⟨some 60, .build [.c (.str ⟨#[]⟩), .c (.nilfn)] [(0, 1, (.k (.c (.str ⟨#[110, 115]⟩)))), (1, 1, (.t 59))], none, true, []⟩,
  ⟨none, .stn 2 (.t 2) (.t 60), none, true, []⟩,
  ⟨some 3, .mv (.k (.c (.bool true))), none, true, []⟩]
def C17r34 : List AOper := [⟨some 62, .bin .eql (.t 4) (.k (.c (.int .i64 17))), none, true, []⟩,
  ⟨some 61, .mv (.t 62), none, true, []⟩]
def C17r35 : List AOper := [⟨some 63, .bin .eql (.t 4) (.k (.c (.int .i64 18))), none, true, []⟩,
  ⟨some 61, .mv (.t 63), none, true, []⟩]
def C17r36 : List AOper := [⟨some 64, .build [.c (.str ⟨#[]⟩), .c (.nilfn)] [(0, 1, (.k (.c (.str ⟨#[100, 110, 105]⟩)))), (1, 1, (.k (.c (.fn 85 [] []))))], none, true, []⟩,
  ⟨none, .stn 2 (.t 2) (.t 64), none, true, []⟩,
  ⟨some 3, .mv (.k (.c (.bool true))), none, true, []⟩]
def C17r37 : List AOper := [⟨some 66, .bin .eql (.t 4) (.k (.c (.int .i64 19))), none, true, []⟩,
  ⟨some 65, .mv (.t 66), none, true, []⟩]
def C17r38 : List AOper := [⟨some 67, .bin .eql (.t 4) (.k (.c (.int .i64 20))), none, true, []⟩,
  ⟨some 65, .mv (.t 67), none, true, []⟩]
def C17r39 : List AOper := [⟨some 68, .build [.c (.str ⟨#[]⟩), .c (.nilfn)] [(0, 1, (.k (.c (.str ⟨#[100, 110, 109, 107]⟩)))), (1, 1, (.k (.c (.fn 86 [] []))))], none, true, []⟩,
  ⟨none, .stn 2 (.t 2) (.t 68), none, true, []⟩,
  ⟨some 3, .mv (.k (.c (.bool true))), none, true, []⟩]
def C17r40 : List AOper := [⟨some 69, .mv (.t 0), none, true, []⟩,
  ⟨some 70, .call (.k (.c (.fn 87 [] []))) [(.t 69)], none, true, []⟩,
  ⟨some 71, .ext (.t 70) 0, none, true, []⟩,
  ⟨some 72, .ext (.t 70) 1, none, true, []⟩,
  ⟨none, .stn 2 (.t 2) (.t 71), none, true, []⟩,
  ⟨some 3, .mv (.t 72), none, true, []⟩]
def C17 : ACode :=
  .seq (.region C17r0)
  (.seq (.seq (.region C17r1)
  (.block 0
   (.seq (.region C17r2)
   (.cond (.t 5)
    (.seq (.region C17r3)
    (.ret))
    (.seq (.region C17r4)
    (.cond (.t 8)
     (.seq (.region C17r5)
     (.ret))
     (.seq (.region C17r6)
     (.cond (.t 11)
      (.seq (.region C17r7)
      (.ret))
      (.seq (.region C17r8)
      (.cond (.t 14)
       (.seq (.region C17r9)
       (.ret))
       (.seq (.region C17r10)
       (.cond (.t 17)
        (.seq (.region C17r11)
        (.ret))
        (.seq (.region C17r12)
        (.cond (.t 20)
         (.seq (.region C17r13)
         (.ret))
         (.seq (.region C17r14)
         (.cond (.t 23)
          (.seq (.region C17r15)
          (.ret))
          (.seq (.region C17r16)
          (.cond (.t 28)
           (.seq (.region C17r17)
           (.ret))
           (.seq (.region C17r18)
           (.cond (.t 31)
            (.seq (.region C17r19)
            (.ret))
            (.seq (.region C17r20)
            (.cond (.t 36)
             (.seq (.region C17r21)
             (.ret))
             (.seq (.region C17r22)
             (.cond (.t 39)
              (.seq (.region C17r23)
              (.ret))
              (.seq (.region C17r24)
              (.cond (.t 42)
               (.seq (.region C17r25)
               (.ret))
               (.seq (.region C17r26)
               (.cond (.t 46)
                (.seq (.region C17r27)
                (.ret))
                (.seq (.region C17r28)
                (.cond (.t 49)
                 (.seq (.region C17r29)
                 (.ret))
                 (.seq (.region C17r30)
                 (.cond (.t 53)
                  (.seq (.region C17r31)
                  (.ret))
                  (.seq (.region C17r32)
                  (.cond (.t 56)
                   (.seq (.region C17r33)
                   (.ret))
                   (.seq (.seq (.region C17r34)
                   (.cond (.t 61)
                    (.skip)
                    (.region C17r35)))
                   (.cond (.t 61)
                    (.seq (.region C17r36)
                    (.ret))
                    (.seq (.seq (.region C17r37)
                    (.cond (.t 65)
                     (.skip)
                     (.region C17r38)))
                    (.cond (.t 65)
                     (.seq (.region C17r39)
                     (.ret))
                     (.skip)))))))))))))))))))))))))))))))))))))))
  (.seq (.region C17r40)
  (.ret)))
theorem C17_ok : stripF Tryz.prog Tryz.f17 = some C17 := by kernel_rfl
/-! understudy/insn.only -/
def C18r0 : List AOper := [⟨some 2, .box 23 (.t 0), none, true, []⟩,
  ⟨some 4, .alloc 23 [.c (.int .i64 0), .c (.int .i64 0), .c (.int .i64 0), .c (.int .i64 0), .c (.int .i64 0), .c (.int .i64 0), .c (.int .i64 0), .c (.int .i64 0), .c (.int .i64 0), .c (.int .i64 0), .c (.int .i64 0), .c (.int .i64 0), .c (.bool false), .c (.bool false), .c (.bool false), .c (.bool false)], none, true, []⟩]
def C18r1 : List AOper := [⟨some 8, .faddr (.t 2) 0, none, true, []⟩,
  ⟨some 9, .ld1 (.t 8), none, true, []⟩,
  ⟨some 10, .build [.c (.int .i64 0), .c (.int .i64 0), .c (.int .i64 0), .c (.int .i64 0), .c (.int .i64 0), .c (.int .i64 0), .c (.int .i64 0), .c (.int .i64 0), .c (.int .i64 0), .c (.int .i64 0), .c (.int .i64 0), .c (.int .i64 0), .c (.bool false), .c (.bool false), .c (.bool false), .c (.bool false)] [(0, 1, (.t 9))], none, true, []⟩,
  ⟨some 5, .alloc 23 [.c (.int .i64 0), .c (.int .i64 0), .c (.int .i64 0), .c (.int .i64 0), .c (.int .i64 0), .c (.int .i64 0), .c (.int .i64 0), .c (.int .i64 0), .c (.int .i64 0), .c (.int .i64 0), .c (.int .i64 0), .c (.int .i64 0), .c (.bool false), .c (.bool false), .c (.bool false), .c (.bool false)], none, true, []⟩,
  ⟨none, .stn 16 (.t 5) (.t 10), none, true, []⟩]
def C18r2 : List AOper := [⟨some 11, .mv (.t 1), none, true, []⟩,
  ⟨some 12, .tob 5 (.t 11), none, true, []⟩,
  ⟨some 13, .len false (.t 12), none, true, []⟩,
  ⟨some 14, .mv (.k (.c (.int .i64 0))), none, true, []⟩]
def C18r3 : List AOper := [⟨some 15, .bin .lss (.t 14) (.t 13), none, true, []⟩]
def C18r4 : List AOper := [⟨some 16, .iaddr 1 (.t 12) (.t 14), none, true, []⟩,
  ⟨some 17, .ld1 (.t 16), none, true, []⟩,
  ⟨some 7, .mv (.t 17), none, true, []⟩]
def C18r5 : List AOper := [⟨some 18, .mv (.t 7), none, true, []⟩]
def C18r6 : List AOper := [⟨some 20, .bin .eql (.t 18) (.k (.c (.int .u8 100))), none, true, []⟩,
  ⟨some 19, .mv (.t 20), none, true, []⟩]
def C18r7 : List AOper := [⟨some 21, .faddr (.t 2) 2, none, true, []⟩,
  ⟨some 22, .ld1 (.t 21), none, true, []⟩,
  ⟨some 23, .faddr (.t 5) 2, none, true, []⟩,
  ⟨none, .st1 (.t 23) (.t 22), none, true, []⟩]
def C18r8 : List AOper := [⟨some 25, .bin .eql (.t 18) (.k (.c (.int .u8 110))), none, true, []⟩,
  ⟨some 24, .mv (.t 25), none, true, []⟩]
def C18r9 : List AOper := [⟨some 26, .faddr (.t 2) 3, none, true, []⟩,
  ⟨some 27, .ld1 (.t 26), none, true, []⟩,
  ⟨some 28, .faddr (.t 5) 3, none, true, []⟩,
  ⟨none, .st1 (.t 28) (.t 27), none, true, []⟩]
def C18r10 : List AOper := [⟨some 30, .bin .eql (.t 18) (.k (.c (.int .u8 109))), none, true, []⟩,
  ⟨some 29, .mv (.t 30), none, true, []⟩]
def C18r11 : List AOper := [⟨some 31, .faddr (.t 2) 4, none, true, []⟩,
  ⟨some 32, .ld1 (.t 31), none, true, []⟩,
  ⟨some 33, .faddr (.t 5) 4, none, true, []⟩,
  ⟨none, .st1 (.t 33) (.t 32), none, true, []⟩]
def C18r12 : List AOper := [⟨some 35, .bin .eql (.t 18) (.k (.c (.int .u8 97))), none, true, []⟩,
  ⟨some 34, .mv (.t 35), none, true, []⟩]
def C18r13 : List AOper := [⟨some 36, .faddr (.t 2) 5, none, true, []⟩,
  ⟨some 37, .ld1 (.t 36), none, true, []⟩,
  ⟨some 38, .faddr (.t 5) 5, none, true, []⟩,
  ⟨none, .st1 (.t 38) (.t 37), none, true, []⟩]
def C18r14 : List AOper := [⟨some 40, .bin .eql (.t 18) (.k (.c (.int .u8 105))), none, true, []⟩,
  ⟨some 39, .mv (.t 40), none, true, []⟩]
def C18r15 : List AOper := [⟨some 41, .faddr (.t 2) 6, none, true, []⟩,
  ⟨some 42, .ld1 (.t 41), none, true, []⟩,
  ⟨some 43, .faddr (.t 5) 6, none, true, []⟩,
  ⟨none, .st1 (.t 43) (.t 42), none, true, []⟩]
def C18r16 : List AOper := [⟨some 45, .bin .eql (.t 18) (.k (.c (.int .u8 106))), none, true, []⟩,
  ⟨some 44, .mv (.t 45), none, true, []⟩]
def C18r17 : List AOper := [⟨some 46, .faddr (.t 2) 7, none, true, []⟩,
  ⟨some 47, .ld1 (.t 46), none, true, []⟩,
  ⟨some 48, .faddr (.t 5) 7, none, true, []⟩,
  ⟨none, .st1 (.t 48) (.t 47), none, true, []⟩]
def C18r18 : List AOper := [⟨some 50, .bin .eql (.t 18) (.k (.c (.int .u8 107))), none, true, []⟩,
  ⟨some 49, .mv (.t 50), none, true, []⟩]
def C18r19 : List AOper := [⟨some 51, .faddr (.t 2) 8, none, true, []⟩,
  ⟨some 52, .ld1 (.t 51), none, true, []⟩,
  ⟨some 53, .faddr (.t 5) 8, none, true, []⟩,
  ⟨none, .st1 (.t 53) (.t 52), none, true, []⟩]
def C18r20 : List AOper := [⟨some 55, .bin .eql (.t 18) (.k (.c (.int .u8 116))), none, true, []⟩,
  ⟨some 54, .mv (.t 55), none, true, []⟩]
def C18r21 : List AOper := [⟨some 56, .faddr (.t 2) 9, none, true, []⟩,
  ⟨some 57, .ld1 (.t 56), none, true, []⟩,
  ⟨some 58, .faddr (.t 5) 9, none, true, []⟩,
  ⟨none, .st1 (.t 58) (.t 57), none, true, []⟩]
def C18r22 : List AOper := [⟨some 60, .bin .eql (.t 18) (.k (.c (.int .u8 115))), none, true, []⟩,
  ⟨some 59, .mv (.t 60), none, true, []⟩]
def C18r23 : List AOper := [⟨some 61, .faddr (.t 2) 1, none, true, []⟩,
  ⟨some 62, .ld1 (.t 61), none, true, []⟩,
  ⟨some 63, .faddr (.t 5) 1, none, true, []⟩,
  ⟨none, .st1 (.t 63) (.t 62), none, true, []⟩]
def C18r24 : List AOper := [⟨some 65, .bin .eql (.t 18) (.k (.c (.int .u8 99))), none, true, []⟩,
  ⟨some 64, .mv (.t 65), none, true, []⟩]
def C18r25 : List AOper := [⟨some 66, .faddr (.t 2) 10, none, true, []⟩,
  ⟨some 67, .ld1 (.t 66), none, true, []⟩,
  ⟨some 68, .faddr (.t 5) 10, none, true, []⟩,
  ⟨none, .st1 (.t 68) (.t 67), none, true, []⟩]
def C18r26 : List AOper := [⟨some 70, .bin .eql (.t 18) (.k (.c (.int .u8 121))), none, true, []⟩,
  ⟨some 69, .mv (.t 70), none, true, []⟩]
def C18r27 : List AOper := [⟨some 71, .faddr (.t 2) 11, none, true, []⟩,
  ⟨some 72, .ld1 (.t 71), none, true, []⟩,
  ⟨some 73, .faddr (.t 5) 11, none, true, []⟩,
  ⟨none, .st1 (.t 73) (.t 72), none, true, []⟩]
def C18r28 : List AOper := [⟨some 75, .bin .eql (.t 18) (.k (.c (.int .u8 70))), none, true, []⟩,
  ⟨some 74, .mv (.t 75), none, true, []⟩]
def C18r29 : List AOper := [⟨some 76, .faddr (.t 2) 12, none, true, []⟩,
  ⟨some 77, .ld1 (.t 76), none, true, []⟩,
  ⟨some 78, .faddr (.t 5) 12, none, true, []⟩,
  ⟨none, .st1 (.t 78) (.t 77), none, true, []⟩]
def C18r30 : List AOper := [⟨some 80, .bin .eql (.t 18) (.k (.c (.int .u8 77))), none, true, []⟩,
  ⟨some 79, .mv (.t 80), none, true, []⟩]
def C18r31 : List AOper := [⟨some 81, .faddr (.t 2) 13, none, true, []⟩,
  ⟨some 82, .ld1 (.t 81), none, true, []⟩,
  ⟨some 83, .faddr (.t 5) 13, none, true, []⟩,
  ⟨none, .st1 (.t 83) (.t 82), none, true, []⟩]
def C18r32 : List AOper := [⟨some 85, .bin .eql (.t 18) (.k (.c (.int .u8 78))), none, true, []⟩,
  ⟨some 84, .mv (.t 85), none, true, []⟩]
def C18r33 : List AOper := [⟨some 86, .faddr (.t 2) 14, none, true, []⟩,
  ⟨some 87, .ld1 (.t 86), none, true, []⟩,
  ⟨some 88, .faddr (.t 5) 14, none, true, []⟩,
  ⟨none, .st1 (.t 88) (.t 87), none, true, []⟩]
def C18r34 : List AOper := [⟨some 90, .bin .eql (.t 18) (.k (.c (.int .u8 76))), none, true, []⟩,
  ⟨some 89, .mv (.t 90), none, true, []⟩]
def C18r35 : List AOper := [⟨some 91, .faddr (.t 2) 15, none, true, []⟩,
  ⟨some 92, .ld1 (.t 91), none, true, []⟩,
  ⟨some 93, .faddr (.t 5) 15, none, true, []⟩,
  ⟨none, .st1 (.t 93) (.t 92), none, true, []⟩]
def C18r36 : List AOper := [⟨some 94, .bin .add (.t 14) (.k (.c (.int .i64 1))), none, true, []⟩,
  ⟨some 14, .mv (.t 94), none, true, []⟩]
def C18r37 : List AOper := [⟨some 95, .ldn 16 (.t 5), none, true, []⟩,
  ⟨none, .stn 16 (.t 4) (.t 95), none, true, []⟩]
def C18 : ACode :=
  .seq (.region C18r0)
  (.seq (.region C18r1)
  (.seq (.seq (.region C18r2)
  (.block 0
   (.loop
    (.seq (.region C18r3)
    (.seq (.cond (.t 15)
     (.skip)
     (.exit 0))
    (.seq (.block 1
     (.seq (.region C18r4)
     (.seq (.region C18r5)
     (.block 2
      (.seq (.region C18r6)
      (.cond (.t 19)
       (.region C18r7)
       (.seq (.region C18r8)
       (.cond (.t 24)
        (.region C18r9)
        (.seq (.region C18r10)
        (.cond (.t 29)
         (.region C18r11)
         (.seq (.region C18r12)
         (.cond (.t 34)
          (.region C18r13)
          (.seq (.region C18r14)
          (.cond (.t 39)
           (.region C18r15)
           (.seq (.region C18r16)
           (.cond (.t 44)
            (.region C18r17)
            (.seq (.region C18r18)
            (.cond (.t 49)
             (.region C18r19)
             (.seq (.region C18r20)
             (.cond (.t 54)
              (.region C18r21)
              (.seq (.region C18r22)
              (.cond (.t 59)
               (.region C18r23)
               (.seq (.region C18r24)
               (.cond (.t 64)
                (.region C18r25)
                (.seq (.region C18r26)
                (.cond (.t 69)
                 (.region C18r27)
                 (.seq (.region C18r28)
                 (.cond (.t 74)
                  (.region C18r29)
                  (.seq (.region C18r30)
                  (.cond (.t 79)
                   (.region C18r31)
                   (.seq (.region C18r32)
                   (.cond (.t 84)
                    (.region C18r33)
                    (.seq (.region C18r34)
                    (.cond (.t 89)
                     (.region C18r35)
                     (.skip)))))))))))))))))))))))))))))))))))
    (.region C18r36)))))))
  (.seq (.region C18r37)
  (.ret))))
theorem C18_ok : stripF Tryz.prog Tryz.f18 = some C18 := by kernel_rfl
/-! (understudy/code.word).putAddImm -/
def C19r0 : List AOper := [⟨some 3, .box 23 (.t 1), none, true, []⟩,
  ⟨some 4, .mv (.k (.c (.int .u32 0))), none, true, []⟩]
def C19r1 : List AOper := [⟨some 5, .mv (.t 0), none, false, []⟩,
  ⟨some 6, .ldn 16 (.t 3), none, false, []⟩,
  ⟨some 7, .call (.k (.c (.fn 54 [] []))) [(.t 5), (.t 6)], none, false, []⟩,
  ⟨some 8, .faddr (.t 3) 6, none, false, []⟩,
  ⟨some 9, .ld1 (.t 8), none, false, []⟩,
  ⟨some 10, .call (.k (.c (.fn 88 [] []))) [(.t 7), (.t 9), (.k (.c (.int .i64 10))), (.k (.c (.int .i64 12)))], none, false, []⟩,
  ⟨some 11, .faddr (.t 3) 8, none, false, []⟩,
  ⟨some 12, .ld1 (.t 11), none, false, []⟩,
  ⟨some 13, .bin .quo (.t 12) (.k (.c (.int .i64 12))), none, false, []⟩,
  ⟨some 14, .call (.k (.c (.fn 88 [] []))) [(.t 10), (.t 13), (.k (.c (.int .i64 22))), (.k (.c (.int .i64 1)))], none, false, []⟩,
  ⟨some 15, .faddr (.t 3) 12, none, false, []⟩,
  ⟨some 16, .ld1 (.t 15), none, false, []⟩,
  ⟨some 17, .call (.k (.c (.fn 89 [] []))) [(.t 14), (.t 16), (.k (.c (.int .u32 536870912)))], none, false, []⟩,
  ⟨some 18, .faddr (.t 3) 13, none, false, []⟩,
  ⟨some 19, .ld1 (.t 18), none, false, []⟩,
  ⟨some 20, .call (.k (.c (.fn 89 [] []))) [(.t 17), (.t 19), (.k (.c (.int .u32 1073741824)))], none, true, []⟩,
  ⟨some 4, .mv (.t 20), none, true, []⟩]
def C19 : ACode :=
  .seq (.region C19r0)
  (.seq (.region C19r1)
  (.ret))
theorem C19_ok : stripF Tryz.prog Tryz.f19 = some C19 := by kernel_rfl
/-! (understudy/code.word).addImm -/
def C20r0 : List AOper := [⟨some 2, .alloc 23 [.c (.int .i64 0), .c (.int .i64 0), .c (.int .i64 0), .c (.int .i64 0), .c (.int .i64 0), .c (.int .i64 0), .c (.int .i64 0), .c (.int .i64 0), .c (.int .i64 0), .c (.int .i64 0), .c (.int .i64 0), .c (.int .i64 0), .c (.bool false), .c (.bool false), .c (.bool false), .c (.bool false)], none, true, []⟩]
def C20r1 : List AOper := [⟨some 4, .mv (.t 0), none, true, []⟩,
  ⟨some 5, .call (.k (.c (.fn 90 [] []))) [(.t 4), (.k (.c (.int .i64 1)))], none, true, []⟩,
  ⟨some 3, .alloc 23 [.c (.int .i64 0), .c (.int .i64 0), .c (.int .i64 0), .c (.int .i64 0), .c (.int .i64 0), .c (.int .i64 0), .c (.int .i64 0), .c (.int .i64 0), .c (.int .i64 0), .c (.int .i64 0), .c (.int .i64 0), .c (.int .i64 0), .c (.bool false), .c (.bool false), .c (.bool false), .c (.bool false)], none, true, []⟩,
  ⟨none, .stn 16 (.t 3) (.t 5), none, true, []⟩]
def C20r2 : List AOper := [⟨some 6, .mv (.t 0), none, true, []⟩,
  ⟨some 7, .call (.k (.c (.fn 91 [] []))) [(.t 6), (.k (.c (.int .i64 10))), (.k (.c (.int .i64 12)))], none, true, []⟩,
  ⟨some 8, .mv (.t 0), none, true, []⟩,
  ⟨some 9, .call (.k (.c (.fn 91 [] []))) [(.t 8), (.k (.c (.int .i64 22))), (.k (.c (.int .i64 1)))], none, true, []⟩,
  ⟨some 10, .bin .mul (.k (.c (.int .i64 12))) (.t 9), none, true, []⟩,
  ⟨some 11, .faddr (.t 3) 4, none, true, []⟩,
  ⟨none, .st1 (.t 11) (.k (.c (.int .i64 0))), none, true, []⟩,
  ⟨some 12, .faddr (.t 3) 6, none, true, []⟩,
  ⟨none, .st1 (.t 12) (.t 7), none, true, []⟩,
  ⟨some 13, .faddr (.t 3) 8, none, true, []⟩,
  ⟨none, .st1 (.t 13) (.t 10), none, true, []⟩]
def C20r3 : List AOper := [⟨some 14, .mv (.t 0), none, true, []⟩,
  ⟨some 15, .call (.k (.c (.fn 92 [] []))) [(.t 14), (.k (.c (.int .u32 536870912)))], none, true, []⟩,
  ⟨some 16, .mv (.t 0), none, true, []⟩,
  ⟨some 17, .call (.k (.c (.fn 92 [] []))) [(.t 16), (.k (.c (.int .u32 1073741824)))], none, true, []⟩,
  ⟨some 18, .faddr (.t 3) 12, none, true, []⟩,
  ⟨none, .st1 (.t 18) (.t 15), none, true, []⟩,
  ⟨some 19, .faddr (.t 3) 13, none, true, []⟩,
  ⟨none, .st1 (.t 19) (.t 17), none, true, []⟩]
def C20r4 : List AOper := [⟨some 20, .ldn 16 (.t 3), none, true, []⟩,
  ⟨none, .stn 16 (.t 2) (.t 20), none, true, []⟩]
def C20 : ACode :=
  .seq (.region C20r0)
  (.seq (.region C20r1)
  (.seq (.region C20r2)
  (.seq (.region C20r3)
  (.seq (.region C20r4)
  (.ret)))))
theorem C20_ok : stripF Tryz.prog Tryz.f20 = some C20 := by kernel_rfl
/-! (understudy/code.word).putAddReg -/
def C21r0 : List AOper := [⟨some 3, .box 23 (.t 1), none, true, []⟩,
  ⟨some 4, .mv (.k (.c (.int .u32 0))), none, true, []⟩]
def C21r1 : List AOper := [⟨some 5, .mv (.t 0), none, false, []⟩,
  ⟨some 6, .ldn 16 (.t 3), none, false, []⟩,
  ⟨some 7, .call (.k (.c (.fn 54 [] []))) [(.t 5), (.t 6)], none, false, []⟩,
  ⟨some 8, .faddr (.t 3) 8, none, false, []⟩,
  ⟨some 9, .ld1 (.t 8), none, false, []⟩,
  ⟨some 10, .call (.k (.c (.fn 88 [] []))) [(.t 7), (.t 9), (.k (.c (.int .i64 10))), (.k (.c (.int .i64 6)))], none, false, []⟩,
  ⟨some 11, .faddr (.t 3) 9, none, false, []⟩,
  ⟨some 12, .ld1 (.t 11), none, false, []⟩,
  ⟨some 13, .call (.k (.c (.fn 88 [] []))) [(.t 10), (.t 12), (.k (.c (.int .i64 22))), (.k (.c (.int .i64 2)))], none, false, []⟩,
  ⟨some 14, .faddr (.t 3) 12, none, false, []⟩,
  ⟨some 15, .ld1 (.t 14), none, false, []⟩,
  ⟨some 16, .call (.k (.c (.fn 89 [] []))) [(.t 13), (.t 15), (.k (.c (.int .u32 536870912)))], none, false, []⟩,
  ⟨some 17, .faddr (.t 3) 13, none, false, []⟩,
  ⟨some 18, .ld1 (.t 17), none, false, []⟩,
  ⟨some 19, .call (.k (.c (.fn 89 [] []))) [(.t 16), (.t 18), (.k (.c (.int .u32 1073741824)))], none, true, []⟩,
  ⟨some 4, .mv (.t 19), none, true, []⟩]
def C21 : ACode :=
  .seq (.region C21r0)
  (.seq (.region C21r1)
  (.ret))
theorem C21_ok : stripF Tryz.prog Tryz.f21 = some C21 := by kernel_rfl
/-! (understudy/code.word).addReg -/
def C22r0 : List AOper := [⟨some 2, .alloc 23 [.c (.int .i64 0), .c (.int .i64 0), .c (.int .i64 0), .c (.int .i64 0), .c (.int .i64 0), .c (.int .i64 0), .c (.int .i64 0), .c (.int .i64 0), .c (.int .i64 0), .c (.int .i64 0), .c (.int .i64 0), .c (.int .i64 0), .c (.bool false), .c (.bool false), .c (.bool false), .c (.bool false)], none, true, []⟩]
def C22r1 : List AOper := [⟨some 4, .mv (.t 0), none, true, []⟩,
  ⟨some 5, .call (.k (.c (.fn 90 [] []))) [(.t 4), (.k (.c (.int .i64 2)))], none, true, []⟩,
  ⟨some 3, .alloc 23 [.c (.int .i64 0), .c (.int .i64 0), .c (.int .i64 0), .c (.int .i64 0), .c (.int .i64 0), .c (.int .i64 0), .c (.int .i64 0), .c (.int .i64 0), .c (.int .i64 0), .c (.int .i64 0), .c (.int .i64 0), .c (.int .i64 0), .c (.bool false), .c (.bool false), .c (.bool false), .c (.bool false)], none, true, []⟩,
  ⟨none, .stn 16 (.t 3) (.t 5), none, true, []⟩]
def C22r2 : List AOper := [⟨some 6, .mv (.t 0), none, true, []⟩,
  ⟨some 7, .call (.k (.c (.fn 91 [] []))) [(.t 6), (.k (.c (.int .i64 22))), (.k (.c (.int .i64 2)))], none, true, []⟩,
  ⟨some 8, .mv (.t 0), none, true, []⟩,
  ⟨some 9, .call (.k (.c (.fn 91 [] []))) [(.t 8), (.k (.c (.int .i64 10))), (.k (.c (.int .i64 6)))], none, true, []⟩,
  ⟨some 10, .faddr (.t 3) 9, none, true, []⟩,
  ⟨none, .st1 (.t 10) (.t 7), none, true, []⟩,
  ⟨some 11, .faddr (.t 3) 8, none, true, []⟩,
  ⟨none, .st1 (.t 11) (.t 9), none, true, []⟩]
def C22r3 : List AOper := [⟨some 12, .mv (.t 0), none, true, []⟩,
  ⟨some 13, .call (.k (.c (.fn 92 [] []))) [(.t 12), (.k (.c (.int .u32 536870912)))], none, true, []⟩,
  ⟨some 14, .mv (.t 0), none, true, []⟩,
  ⟨some 15, .call (.k (.c (.fn 92 [] []))) [(.t 14), (.k (.c (.int .u32 1073741824)))], none, true, []⟩,
  ⟨some 16, .faddr (.t 3) 12, none, true, []⟩,
  ⟨none, .st1 (.t 16) (.t 13), none, true, []⟩,
  ⟨some 17, .faddr (.t 3) 13, none, true, []⟩,
  ⟨none, .st1 (.t 17) (.t 15), none, true, []⟩]
def C22r4 : List AOper := [⟨some 18, .ldn 16 (.t 3), none, true, []⟩,
  ⟨none, .stn 16 (.t 2) (.t 18), none, true, []⟩]
def C22 : ACode :=
  .seq (.region C22r0)
  (.seq (.region C22r1)
  (.seq (.region C22r2)
  (.seq (.region C22r3)
  (.seq (.region C22r4)
  (.ret)))))
theorem C22_ok : stripF Tryz.prog Tryz.f22 = some C22 := by kernel_rfl
/-! (understudy/code.word).putLogReg -/
def C23r0 : List AOper := [⟨some 3, .box 23 (.t 1), none, true, []⟩,
  ⟨some 4, .mv (.k (.c (.int .u32 0))), none, true, []⟩]
def C23r1 : List AOper := [⟨some 5, .mv (.t 0), none, false, []⟩,
  ⟨some 6, .ldn 16 (.t 3), none, false, []⟩,
  ⟨some 7, .call (.k (.c (.fn 54 [] []))) [(.t 5), (.t 6)], none, false, []⟩,
  ⟨some 8, .ldn 16 (.t 3), none, false, []⟩,
  ⟨some 9, .call (.k (.c (.fn 93 [] []))) [(.t 8)], none, false, []⟩,
  ⟨some 10, .call (.k (.c (.fn 88 [] []))) [(.t 7), (.t 9), (.k (.c (.int .i64 29))), (.k (.c (.int .i64 2)))], none, false, []⟩,
  ⟨some 11, .faddr (.t 3) 8, none, false, []⟩,
  ⟨some 12, .ld1 (.t 11), none, false, []⟩,
  ⟨some 13, .call (.k (.c (.fn 88 [] []))) [(.t 10), (.t 12), (.k (.c (.int .i64 10))), (.k (.c (.int .i64 6)))], none, false, []⟩,
  ⟨some 14, .faddr (.t 3) 9, none, false, []⟩,
  ⟨some 15, .ld1 (.t 14), none, false, []⟩,
  ⟨some 16, .call (.k (.c (.fn 88 [] []))) [(.t 13), (.t 15), (.k (.c (.int .i64 22))), (.k (.c (.int .i64 2)))], none, false, []⟩,
  ⟨some 17, .faddr (.t 3) 14, none, false, []⟩,
  ⟨some 18, .ld1 (.t 17), none, false, []⟩,
  ⟨some 19, .call (.k (.c (.fn 89 [] []))) [(.t 16), (.t 18), (.k (.c (.int .u32 2097152)))], none, true, []⟩,
  ⟨some 4, .mv (.t 19), none, true, []⟩]
def C23 : ACode :=
  .seq (.region C23r0)
  (.seq (.region C23r1)
  (.ret))
theorem C23_ok : stripF Tryz.prog Tryz.f23 = some C23 := by kernel_rfl
/-! (understudy/code.word).logReg -/
def C24r0 : List AOper := [⟨some 2, .alloc 23 [.c (.int .i64 0), .c (.int .i64 0), .c (.int .i64 0), .c (.int .i64 0), .c (.int .i64 0), .c (.int .i64 0), .c (.int .i64 0), .c (.int .i64 0), .c (.int .i64 0), .c (.int .i64 0), .c (.int .i64 0), .c (.int .i64 0), .c (.bool false), .c (.bool false), .c (.bool false), .c (.bool false)], none, true, []⟩]
def C24r1 : List AOper := [⟨some 4, .mv (.t 0), none, true, []⟩,
  ⟨some 5, .call (.k (.c (.fn 90 [] []))) [(.t 4), (.k (.c (.int .i64 3)))], none, true, []⟩,
  ⟨some 6, .mv (.t 0), none, true, []⟩,
  ⟨some 7, .call (.k (.c (.fn 91 [] []))) [(.t 6), (.k (.c (.int .i64 29))), (.k (.c (.int .i64 2)))], none, true, []⟩,
  ⟨some 8, .call (.k (.c (.fn 94 [] []))) [(.t 5), (.t 7)], none, true, []⟩,
  ⟨some 3, .alloc 23 [.c (.int .i64 0), .c (.int .i64 0), .c (.int .i64 0), .c (.int .i64 0), .c (.int .i64 0), .c (.int .i64 0), .c (.int .i64 0), .c (.int .i64 0), .c (.int .i64 0), .c (.int .i64 0), .c (.int .i64 0), .c (.int .i64 0), .c (.bool false), .c (.bool false), .c (.bool false), .c (.bool false)], none, true, []⟩,
  ⟨none, .stn 16 (.t 3) (.t 8), none, true, []⟩]
def C24r2 : List AOper := [⟨some 9, .mv (.t 0), none, true, []⟩,
  ⟨some 10, .call (.k (.c (.fn 91 [] []))) [(.t 9), (.k (.c (.int .i64 22))), (.k (.c (.int .i64 2)))], none, true, []⟩,
  ⟨some 11, .mv (.t 0), none, true, []⟩,
  ⟨some 12, .call (.k (.c (.fn 91 [] []))) [(.t 11), (.k (.c (.int .i64 10))), (.k (.c (.int .i64 6)))], none, true, []⟩,
  ⟨some 13, .mv (.t 0), none, true, []⟩,
  ⟨some 14, .call (.k (.c (.fn 91 [] []))) [(.t 13), (.k (.c (.int .i64 21))), (.k (.c (.int .i64 1)))], none, true, []⟩,
  ⟨some 15, .bin .eql (.t 14) (.k (.c (.int .i64 1))), none, true, []⟩,
  ⟨some 16, .faddr (.t 3) 9, none, true, []⟩,
  ⟨none, .st1 (.t 16) (.t 10), none, true, []⟩,
  ⟨some 17, .faddr (.t 3) 8, none, true, []⟩,
  ⟨none, .st1 (.t 17) (.t 12), none, true, []⟩,
  ⟨some 18, .faddr (.t 3) 14, none, true, []⟩,
  ⟨none, .st1 (.t 18) (.t 15), none, true, []⟩]
def C24r3 : List AOper := [⟨some 19, .ldn 16 (.t 3), none, true, []⟩,
  ⟨none, .stn 16 (.t 2) (.t 19), none, true, []⟩]
def C24 : ACode :=
  .seq (.region C24r0)
  (.seq (.region C24r1)
  (.seq (.region C24r2)
  (.seq (.region C24r3)
  (.ret))))
theorem C24_ok : stripF Tryz.prog Tryz.f24 = some C24 := by kernel_rfl
/-! (understudy/code.word).putLogImm -/
def C25r0 : List AOper := [⟨some 3, .box 23 (.t 1), none, true, []⟩,
  ⟨some 4, .mv (.k (.c (.int .u32 0))), none, true, []⟩]
def C25r1 : List AOper := [⟨some 5, .mv (.t 0), none, false, []⟩,
  ⟨some 6, .ldn 16 (.t 3), none, false, []⟩,
  ⟨some 7, .call (.k (.c (.fn 54 [] []))) [(.t 5), (.t 6)], none, false, []⟩,
  ⟨some 8, .ldn 16 (.t 3), none, false, []⟩,
  ⟨some 9, .call (.k (.c (.fn 93 [] []))) [(.t 8)], none, false, []⟩,
  ⟨some 10, .call (.k (.c (.fn 88 [] []))) [(.t 7), (.t 9), (.k (.c (.int .i64 29))), (.k (.c (.int .i64 2)))], none, false, []⟩,
  ⟨some 11, .faddr (.t 3) 8, none, false, []⟩,
  ⟨some 12, .ld1 (.t 11), none, false, []⟩,
  ⟨some 13, .call (.k (.c (.fn 88 [] []))) [(.t 10), (.t 12), (.k (.c (.int .i64 22))), (.k (.c (.int .i64 1)))], none, false, []⟩,
  ⟨some 14, .faddr (.t 3) 6, none, false, []⟩,
  ⟨some 15, .ld1 (.t 14), none, false, []⟩,
  ⟨some 16, .call (.k (.c (.fn 88 [] []))) [(.t 13), (.t 15), (.k (.c (.int .i64 16))), (.k (.c (.int .i64 6)))], none, false, []⟩,
  ⟨some 17, .faddr (.t 3) 7, none, false, []⟩,
  ⟨some 18, .ld1 (.t 17), none, false, []⟩,
  ⟨some 19, .call (.k (.c (.fn 88 [] []))) [(.t 16), (.t 18), (.k (.c (.int .i64 10))), (.k (.c (.int .i64 6)))], none, true, []⟩,
  ⟨some 4, .mv (.t 19), none, true, []⟩]
def C25 : ACode :=
  .seq (.region C25r0)
  (.seq (.region C25r1)
  (.ret))
theorem C25_ok : stripF Tryz.prog Tryz.f25 = some C25 := by kernel_rfl
/-! (understudy/code.word).logImm -/
def C26r0 : List AOper := [⟨some 2, .alloc 23 [.c (.int .i64 0), .c (.int .i64 0), .c (.int .i64 0), .c (.int .i64 0), .c (.int .i64 0), .c (.int .i64 0), .c (.int .i64 0), .c (.int .i64 0), .c (.int .i64 0), .c (.int .i64 0), .c (.int .i64 0), .c (.int .i64 0), .c (.bool false), .c (.bool false), .c (.bool false), .c (.bool false)], none, true, []⟩]
def C26r1 : List AOper := [⟨some 4, .mv (.t 0), none, true, []⟩,
  ⟨some 5, .call (.k (.c (.fn 90 [] []))) [(.t 4), (.k (.c (.int .i64 4)))], none, true, []⟩,
  ⟨some 6, .mv (.t 0), none, true, []⟩,
  ⟨some 7, .call (.k (.c (.fn 91 [] []))) [(.t 6), (.k (.c (.int .i64 29))), (.k (.c (.int .i64 2)))], none, true, []⟩,
  ⟨some 8, .call (.k (.c (.fn 94 [] []))) [(.t 5), (.t 7)], none, true, []⟩,
  ⟨some 3, .alloc 23 [.c (.int .i64 0), .c (.int .i64 0), .c (.int .i64 0), .c (.int .i64 0), .c (.int .i64 0), .c (.int .i64 0), .c (.int .i64 0), .c (.int .i64 0), .c (.int .i64 0), .c (.int .i64 0), .c (.int .i64 0), .c (.int .i64 0), .c (.bool false), .c (.bool false), .c (.bool false), .c (.bool false)], none, true, []⟩,
  ⟨none, .stn 16 (.t 3) (.t 8), none, true, []⟩]
def C26r2 : List AOper := [⟨some 9, .mv (.t 0), none, true, []⟩,
  ⟨some 10, .call (.k (.c (.fn 91 [] []))) [(.t 9), (.k (.c (.int .i64 22))), (.k (.c (.int .i64 1)))], none, true, []⟩,
  ⟨some 11, .mv (.t 0), none, true, []⟩,
  ⟨some 12, .call (.k (.c (.fn 91 [] []))) [(.t 11), (.k (.c (.int .i64 16))), (.k (.c (.int .i64 6)))], none, true, []⟩,
  ⟨some 13, .mv (.t 0), none, true, []⟩,
  ⟨some 14, .call (.k (.c (.fn 91 [] []))) [(.t 13), (.k (.c (.int .i64 10))), (.k (.c (.int .i64 6)))], none, true, []⟩,
  ⟨some 15, .faddr (.t 3) 4, none, true, []⟩,
  ⟨none, .st1 (.t 15) (.k (.c (.int .i64 0))), none, true, []⟩,
  ⟨some 16, .faddr (.t 3) 8, none, true, []⟩,
  ⟨none, .st1 (.t 16) (.t 10), none, true, []⟩,
  ⟨some 17, .faddr (.t 3) 6, none, true, []⟩,
  ⟨none, .st1 (.t 17) (.t 12), none, true, []⟩,
  ⟨some 18, .faddr (.t 3) 7, none, true, []⟩,
  ⟨none, .st1 (.t 18) (.t 14), none, true, []⟩]
def C26r3 : List AOper := [⟨some 19, .ldn 16 (.t 3), none, true, []⟩,
  ⟨none, .stn 16 (.t 2) (.t 19), none, true, []⟩]
def C26 : ACode :=
  .seq (.region C26r0)
  (.seq (.region C26r1)
  (.seq (.region C26r2)
  (.seq (.region C26r3)
  (.ret))))
theorem C26_ok : stripF Tryz.prog Tryz.f26 = some C26 := by kernel_rfl
/-! (understudy/code.word).putMovWide -/
def C27r0 : List AOper := [⟨some 3, .box 23 (.t 1), none, true, []⟩,
  ⟨some 4, .mv (.k (.c (.int .u32 0))), none, true, []⟩]
def C27r1 : List AOper := [⟨some 5, .mv (.t 0), none, false, []⟩,
  ⟨some 6, .faddr (.t 3) 2, none, false, []⟩,
  ⟨some 7, .ld1 (.t 6), none, false, []⟩,
  ⟨some 8, .call (.k (.c (.fn 88 [] []))) [(.t 5), (.t 7), (.k (.c (.int .i64 0))), (.k (.c (.int .i64 5)))], none, false, []⟩,
  ⟨some 9, .faddr (.t 3) 1, none, false, []⟩,
  ⟨some 10, .ld1 (.t 9), none, false, []⟩,
  ⟨some 11, .call (.k (.c (.fn 88 [] []))) [(.t 8), (.t 10), (.k (.c (.int .i64 29))), (.k (.c (.int .i64 2)))], none, false, []⟩,
  ⟨some 12, .faddr (.t 3) 6, none, false, []⟩,
  ⟨some 13, .ld1 (.t 12), none, false, []⟩,
  ⟨some 14, .call (.k (.c (.fn 88 [] []))) [(.t 11), (.t 13), (.k (.c (.int .i64 5))), (.k (.c (.int .i64 16)))], none, false, []⟩,
  ⟨some 15, .faddr (.t 3) 8, none, false, []⟩,
  ⟨some 16, .ld1 (.t 15), none, false, []⟩,
  ⟨some 17, .bin .quo (.t 16) (.k (.c (.int .i64 16))), none, false, []⟩,
  ⟨some 18, .call (.k (.c (.fn 88 [] []))) [(.t 14), (.t 17), (.k (.c (.int .i64 21))), (.k (.c (.int .i64 2)))], none, true, []⟩,
  ⟨some 4, .mv (.t 18), none, true, []⟩]
def C27 : ACode :=
  .seq (.region C27r0)
  (.seq (.region C27r1)
  (.ret))
theorem C27_ok : stripF Tryz.prog Tryz.f27 = some C27 := by kernel_rfl
/-! (understudy/code.word).movWide -/
def C28r0 : List AOper := [⟨some 2, .alloc 23 [.c (.int .i64 0), .c (.int .i64 0), .c (.int .i64 0), .c (.int .i64 0), .c (.int .i64 0), .c (.int .i64 0), .c (.int .i64 0), .c (.int .i64 0), .c (.int .i64 0), .c (.int .i64 0), .c (.int .i64 0), .c (.int .i64 0), .c (.bool false), .c (.bool false), .c (.bool false), .c (.bool false)], none, true, []⟩]
def C28r1 : List AOper := [⟨some 3, .mv (.t 0), none, true, []⟩,
  ⟨some 4, .call (.k (.c (.fn 91 [] []))) [(.t 3), (.k (.c (.int .i64 0))), (.k (.c (.int .i64 5)))], none, true, []⟩,
  ⟨some 5, .mv (.t 0), none, true, []⟩,
  ⟨some 6, .call (.k (.c (.fn 91 [] []))) [(.t 5), (.k (.c (.int .i64 29))), (.k (.c (.int .i64 2)))], none, true, []⟩,
  ⟨some 7, .mv (.t 0), none, true, []⟩,
  ⟨some 8, .call (.k (.c (.fn 91 [] []))) [(.t 7), (.k (.c (.int .i64 5))), (.k (.c (.int .i64 16)))], none, true, []⟩,
  ⟨some 9, .mv (.t 0), none, true, []⟩,
  ⟨some 10, .call (.k (.c (.fn 91 [] []))) [(.t 9), (.k (.c (.int .i64 21))), (.k (.c (.int .i64 2)))], none, true, []⟩,
  ⟨some 11, .bin .mul (.k (.c (.int .i64 16))) (.t 10), none, true, []⟩,
  ⟨some 12, .build [.c (.int .i64 0), .c (.int .i64 0), .c (.int .i64 0), .c (.int .i64 0), .c (.int .i64 0), .c (.int .i64 0), .c (.int .i64 0), .c (.int .i64 0), .c (.int .i64 0), .c (.int .i64 0), .c (.int .i64 0), .c (.int .i64 0), .c (.bool false), .c (.bool false), .c (.bool false), .c (.bool false)] [(0, 1, (.k (.c (.int .i64 5)))), (2, 1, (.t 4)), (1, 1, (.t 6)), (6, 1, (.t 8)), (8, 1, (.t 11))], none, true, []⟩,
  ⟨none, .stn 16 (.t 2) (.t 12), none, true, []⟩]
def C28 : ACode :=
  .seq (.region C28r0)
  (.seq (.region C28r1)
  (.ret))
theorem C28_ok : stripF Tryz.prog Tryz.f28 = some C28 := by kernel_rfl
/-! (understudy/code.word).putBitfield -/
def C29r0 : List AOper := [⟨some 3, .box 23 (.t 1), none, true, []⟩,
  ⟨some 4, .mv (.k (.c (.int .u32 0))), none, true, []⟩]
def C29r1 : List AOper := [⟨some 5, .mv (.t 0), none, false, []⟩,
  ⟨some 6, .ldn 16 (.t 3), none, false, []⟩,
  ⟨some 7, .call (.k (.c (.fn 54 [] []))) [(.t 5), (.t 6)], none, false, []⟩,
  ⟨some 8, .faddr (.t 3) 1, none, false, []⟩,
  ⟨some 9, .ld1 (.t 8), none, false, []⟩,
  ⟨some 10, .call (.k (.c (.fn 88 [] []))) [(.t 7), (.t 9), (.k (.c (.int .i64 29))), (.k (.c (.int .i64 2)))], none, false, []⟩,
  ⟨some 11, .faddr (.t 3) 6, none, false, []⟩,
  ⟨some 12, .ld1 (.t 11), none, false, []⟩,
  ⟨some 13, .call (.k (.c (.fn 88 [] []))) [(.t 10), (.t 12), (.k (.c (.int .i64 16))), (.k (.c (.int .i64 6)))], none, false, []⟩,
  ⟨some 14, .faddr (.t 3) 7, none, false, []⟩,
  ⟨some 15, .ld1 (.t 14), none, false, []⟩,
  ⟨some 16, .call (.k (.c (.fn 88 [] []))) [(.t 13), (.t 15), (.k (.c (.int .i64 10))), (.k (.c (.int .i64 6)))], none, true, []⟩,
  ⟨some 4, .mv (.t 16), none, true, []⟩]
def C29 : ACode :=
  .seq (.region C29r0)
  (.seq (.region C29r1)
  (.ret))
theorem C29_ok : stripF Tryz.prog Tryz.f29 = some C29 := by kernel_rfl
/-! (understudy/code.word).bitfield -/
def C30r0 : List AOper := [⟨some 2, .alloc 23 [.c (.int .i64 0), .c (.int .i64 0), .c (.int .i64 0), .c (.int .i64 0), .c (.int .i64 0), .c (.int .i64 0), .c (.int .i64 0), .c (.int .i64 0), .c (.int .i64 0), .c (.int .i64 0), .c (.int .i64 0), .c (.int .i64 0), .c (.bool false), .c (.bool false), .c (.bool false), .c (.bool false)], none, true, []⟩]
def C30r1 : List AOper := [⟨some 3, .mv (.t 0), none, true, []⟩,
  ⟨some 4, .call (.k (.c (.fn 91 [] []))) [(.t 3), (.k (.c (.int .i64 0))), (.k (.c (.int .i64 5)))], none, true, []⟩,
  ⟨some 5, .mv (.t 0), none, true, []⟩,
  ⟨some 6, .call (.k (.c (.fn 91 [] []))) [(.t 5), (.k (.c (.int .i64 5))), (.k (.c (.int .i64 5)))], none, true, []⟩,
  ⟨some 7, .mv (.t 0), none, true, []⟩,
  ⟨some 8, .call (.k (.c (.fn 91 [] []))) [(.t 7), (.k (.c (.int .i64 29))), (.k (.c (.int .i64 2)))], none, true, []⟩,
  ⟨some 9, .mv (.t 0), none, true, []⟩,
  ⟨some 10, .call (.k (.c (.fn 91 [] []))) [(.t 9), (.k (.c (.int .i64 16))), (.k (.c (.int .i64 6)))], none, true, []⟩,
  ⟨some 11, .mv (.t 0), none, true, []⟩,
  ⟨some 12, .call (.k (.c (.fn 91 [] []))) [(.t 11), (.k (.c (.int .i64 10))), (.k (.c (.int .i64 6)))], none, true, []⟩,
  ⟨some 13, .build [.c (.int .i64 0), .c (.int .i64 0), .c (.int .i64 0), .c (.int .i64 0), .c (.int .i64 0), .c (.int .i64 0), .c (.int .i64 0), .c (.int .i64 0), .c (.int .i64 0), .c (.int .i64 0), .c (.int .i64 0), .c (.int .i64 0), .c (.bool false), .c (.bool false), .c (.bool false), .c (.bool false)] [(0, 1, (.k (.c (.int .i64 6)))), (2, 1, (.t 4)), (3, 1, (.t 6)), (1, 1, (.t 8)), (6, 1, (.t 10)), (7, 1, (.t 12))], none, true, []⟩,
  ⟨none, .stn 16 (.t 2) (.t 13), none, true, []⟩]
def C30 : ACode :=
  .seq (.region C30r0)
  (.seq (.region C30r1)
  (.ret))
theorem C30_ok : stripF Tryz.prog Tryz.f30 = some C30 := by kernel_rfl
/-! (understudy/code.word).putSub10 -/
def C31r0 : List AOper := [⟨some 3, .box 23 (.t 1), none, true, []⟩,
  ⟨some 4, .mv (.k (.c (.int .u32 0))), none, true, []⟩]
def C31r1 : List AOper := [⟨some 5, .mv (.t 0), none, false, []⟩,
  ⟨some 6, .ldn 16 (.t 3), none, false, []⟩,
  ⟨some 7, .call (.k (.c (.fn 54 [] []))) [(.t 5), (.t 6)], none, false, []⟩,
  ⟨some 8, .faddr (.t 3) 1, none, false, []⟩,
  ⟨some 9, .ld1 (.t 8), none, false, []⟩,
  ⟨some 10, .call (.k (.c (.fn 88 [] []))) [(.t 7), (.t 9), (.k (.c (.int .i64 10))), (.k (.c (.int .i64 2)))], none, true, []⟩,
  ⟨some 4, .mv (.t 10), none, true, []⟩]
def C31 : ACode :=
  .seq (.region C31r0)
  (.seq (.region C31r1)
  (.ret))
theorem C31_ok : stripF Tryz.prog Tryz.f31 = some C31 := by kernel_rfl
/-! (understudy/code.word).shiftReg -/
def C32r0 : List AOper := [⟨some 2, .alloc 23 [.c (.int .i64 0), .c (.int .i64 0), .c (.int .i64 0), .c (.int .i64 0), .c (.int .i64 0), .c (.int .i64 0), .c (.int .i64 0), .c (.int .i64 0), .c (.int .i64 0), .c (.int .i64 0), .c (.int .i64 0), .c (.int .i64 0), .c (.bool false), .c (.bool false), .c (.bool false), .c (.bool false)], none, true, []⟩]
def C32r1 : List AOper := [⟨some 4, .mv (.t 0), none, true, []⟩,
  ⟨some 5, .call (.k (.c (.fn 90 [] []))) [(.t 4), (.k (.c (.int .i64 7)))], none, true, []⟩,
  ⟨some 3, .alloc 23 [.c (.int .i64 0), .c (.int .i64 0), .c (.int .i64 0), .c (.int .i64 0), .c (.int .i64 0), .c (.int .i64 0), .c (.int .i64 0), .c (.int .i64 0), .c (.int .i64 0), .c (.int .i64 0), .c (.int .i64 0), .c (.int .i64 0), .c (.bool false), .c (.bool false), .c (.bool false), .c (.bool false)], none, true, []⟩,
  ⟨none, .stn 16 (.t 3) (.t 5), none, true, []⟩]
def C32r2 : List AOper := [⟨some 6, .mv (.t 0), none, true, []⟩,
  ⟨some 7, .call (.k (.c (.fn 91 [] []))) [(.t 6), (.k (.c (.int .i64 10))), (.k (.c (.int .i64 2)))], none, true, []⟩,
  ⟨some 8, .faddr (.t 3) 1, none, true, []⟩,
  ⟨none, .st1 (.t 8) (.t 7), none, true, []⟩]
def C32r3 : List AOper := [⟨some 9, .ldn 16 (.t 3), none, true, []⟩,
  ⟨none, .stn 16 (.t 2) (.t 9), none, true, []⟩]
def C32 : ACode :=
  .seq (.region C32r0)
  (.seq (.region C32r1)
  (.seq (.region C32r2)
  (.seq (.region C32r3)
  (.ret))))
theorem C32_ok : stripF Tryz.prog Tryz.f32 = some C32 := by kernel_rfl
/-! (understudy/code.word).putMul -/
def C33r0 : List AOper := [⟨some 3, .box 23 (.t 1), none, true, []⟩,
  ⟨some 4, .mv (.k (.c (.int .u32 0))), none, true, []⟩]
def C33r1 : List AOper := [⟨some 5, .mv (.t 0), none, false, []⟩,
  ⟨some 6, .ldn 16 (.t 3), none, false, []⟩,
  ⟨some 7, .call (.k (.c (.fn 54 [] []))) [(.t 5), (.t 6)], none, false, []⟩,
  ⟨some 8, .faddr (.t 3) 5, none, false, []⟩,
  ⟨some 9, .ld1 (.t 8), none, false, []⟩,
  ⟨some 10, .call (.k (.c (.fn 88 [] []))) [(.t 7), (.t 9), (.k (.c (.int .i64 10))), (.k (.c (.int .i64 5)))], none, false, []⟩,
  ⟨some 11, .faddr (.t 3) 13, none, false, []⟩,
  ⟨some 12, .ld1 (.t 11), none, false, []⟩,
  ⟨some 13, .call (.k (.c (.fn 89 [] []))) [(.t 10), (.t 12), (.k (.c (.int .u32 32768)))], none, true, []⟩,
  ⟨some 4, .mv (.t 13), none, true, []⟩]
def C33 : ACode :=
  .seq (.region C33r0)
  (.seq (.region C33r1)
  (.ret))
theorem C33_ok : stripF Tryz.prog Tryz.f33 = some C33 := by kernel_rfl
/-! (understudy/code.word).mul -/
def C34r0 : List AOper := [⟨some 2, .alloc 23 [.c (.int .i64 0), .c (.int .i64 0), .c (.int .i64 0), .c (.int .i64 0), .c (.int .i64 0), .c (.int .i64 0), .c (.int .i64 0), .c (.int .i64 0), .c (.int .i64 0), .c (.int .i64 0), .c (.int .i64 0), .c (.int .i64 0), .c (.bool false), .c (.bool false), .c (.bool false), .c (.bool false)], none, true, []⟩]
def C34r1 : List AOper := [⟨some 4, .mv (.t 0), none, true, []⟩,
  ⟨some 5, .call (.k (.c (.fn 90 [] []))) [(.t 4), (.k (.c (.int .i64 8)))], none, true, []⟩,
  ⟨some 3, .alloc 23 [.c (.int .i64 0), .c (.int .i64 0), .c (.int .i64 0), .c (.int .i64 0), .c (.int .i64 0), .c (.int .i64 0), .c (.int .i64 0), .c (.int .i64 0), .c (.int .i64 0), .c (.int .i64 0), .c (.int .i64 0), .c (.int .i64 0), .c (.bool false), .c (.bool false), .c (.bool false), .c (.bool false)], none, true, []⟩,
  ⟨none, .stn 16 (.t 3) (.t 5), none, true, []⟩]
def C34r2 : List AOper := [⟨some 6, .mv (.t 0), none, true, []⟩,
  ⟨some 7, .call (.k (.c (.fn 91 [] []))) [(.t 6), (.k (.c (.int .i64 10))), (.k (.c (.int .i64 5)))], none, true, []⟩,
  ⟨some 8, .mv (.t 0), none, true, []⟩,
  ⟨some 9, .call (.k (.c (.fn 91 [] []))) [(.t 8), (.k (.c (.int .i64 15))), (.k (.c (.int .i64 1)))], none, true, []⟩,
  ⟨some 10, .bin .eql (.t 9) (.k (.c (.int .i64 1))), none, true, []⟩,
  ⟨some 11, .faddr (.t 3) 5, none, true, []⟩,
  ⟨none, .st1 (.t 11) (.t 7), none, true, []⟩,
  ⟨some 12, .faddr (.t 3) 13, none, true, []⟩,
  ⟨none, .st1 (.t 12) (.t 10), none, true, []⟩]
def C34r3 : List AOper := [⟨some 13, .ldn 16 (.t 3), none, true, []⟩,
  ⟨none, .stn 16 (.t 2) (.t 13), none, true, []⟩]
def C34 : ACode :=
  .seq (.region C34r0)
  (.seq (.region C34r1)
  (.seq (.region C34r2)
  (.seq (.region C34r3)
  (.ret))))
theorem C34_ok : stripF Tryz.prog Tryz.f34 = some C34 := by kernel_rfl
/-! (understudy/code.word).div -/
def C35r0 : List AOper := [⟨some 2, .alloc 23 [.c (.int .i64 0), .c (.int .i64 0), .c (.int .i64 0), .c (.int .i64 0), .c (.int .i64 0), .c (.int .i64 0), .c (.int .i64 0), .c (.int .i64 0), .c (.int .i64 0), .c (.int .i64 0), .c (.int .i64 0), .c (.int .i64 0), .c (.bool false), .c (.bool false), .c (.bool false), .c (.bool false)], none, true, []⟩]
def C35r1 : List AOper := [⟨some 4, .mv (.t 0), none, true, []⟩,
  ⟨some 5, .call (.k (.c (.fn 90 [] []))) [(.t 4), (.k (.c (.int .i64 9)))], none, true, []⟩,
  ⟨some 3, .alloc 23 [.c (.int .i64 0), .c (.int .i64 0), .c (.int .i64 0), .c (.int .i64 0), .c (.int .i64 0), .c (.int .i64 0), .c (.int .i64 0), .c (.int .i64 0), .c (.int .i64 0), .c (.int .i64 0), .c (.int .i64 0), .c (.int .i64 0), .c (.bool false), .c (.bool false), .c (.bool false), .c (.bool false)], none, true, []⟩,
  ⟨none, .stn 16 (.t 3) (.t 5), none, true, []⟩]
def C35r2 : List AOper := [⟨some 6, .mv (.t 0), none, true, []⟩,
  ⟨some 7, .call (.k (.c (.fn 91 [] []))) [(.t 6), (.k (.c (.int .i64 10))), (.k (.c (.int .i64 1)))], none, true, []⟩,
  ⟨some 8, .faddr (.t 3) 1, none, true, []⟩,
  ⟨none, .st1 (.t 8) (.t 7), none, true, []⟩]
def C35r3 : List AOper := [⟨some 9, .ldn 16 (.t 3), none, true, []⟩,
  ⟨none, .stn 16 (.t 2) (.t 9), none, true, []⟩]
def C35 : ACode :=
  .seq (.region C35r0)
  (.seq (.region C35r1)
  (.seq (.region C35r2)
  (.seq (.region C35r3)
  (.ret))))
theorem C35_ok : stripF Tryz.prog Tryz.f35 = some C35 := by kernel_rfl
/-! (understudy/code.word).putSel -/
def C36r0 : List AOper := [⟨some 3, .box 23 (.t 1), none, true, []⟩,
  ⟨some 4, .mv (.k (.c (.int .u32 0))), none, true, []⟩]
def C36r1 : List AOper := [⟨some 5, .mv (.t 0), none, false, []⟩,
  ⟨some 6, .ldn 16 (.t 3), none, false, []⟩,
  ⟨some 7, .call (.k (.c (.fn 54 [] []))) [(.t 5), (.t 6)], none, false, []⟩,
  ⟨some 8, .faddr (.t 3) 1, none, false, []⟩,
  ⟨some 9, .ld1 (.t 8), none, false, []⟩,
  ⟨some 10, .bin .shr (.t 9) (.k (.c (.int .u64 1))), none, false, []⟩,
  ⟨some 11, .call (.k (.c (.fn 88 [] []))) [(.t 7), (.t 10), (.k (.c (.int .i64 30))), (.k (.c (.int .i64 1)))], none, false, []⟩,
  ⟨some 12, .faddr (.t 3) 1, none, false, []⟩,
  ⟨some 13, .ld1 (.t 12), none, false, []⟩,
  ⟨some 14, .call (.k (.c (.fn 88 [] []))) [(.t 11), (.t 13), (.k (.c (.int .i64 10))), (.k (.c (.int .i64 1)))], none, false, []⟩,
  ⟨some 15, .faddr (.t 3) 10, none, false, []⟩,
  ⟨some 16, .ld1 (.t 15), none, false, []⟩,
  ⟨some 17, .call (.k (.c (.fn 88 [] []))) [(.t 14), (.t 16), (.k (.c (.int .i64 12))), (.k (.c (.int .i64 4)))], none, true, []⟩,
  ⟨some 4, .mv (.t 17), none, true, []⟩]
def C36 : ACode :=
  .seq (.region C36r0)
  (.seq (.region C36r1)
  (.ret))
theorem C36_ok : stripF Tryz.prog Tryz.f36 = some C36 := by kernel_rfl
/-! (understudy/code.word).sel -/
def C37r0 : List AOper := [⟨some 2, .alloc 23 [.c (.int .i64 0), .c (.int .i64 0), .c (.int .i64 0), .c (.int .i64 0), .c (.int .i64 0), .c (.int .i64 0), .c (.int .i64 0), .c (.int .i64 0), .c (.int .i64 0), .c (.int .i64 0), .c (.int .i64 0), .c (.int .i64 0), .c (.bool false), .c (.bool false), .c (.bool false), .c (.bool false)], none, true, []⟩]
def C37r1 : List AOper := [⟨some 4, .mv (.t 0), none, true, []⟩,
  ⟨some 5, .call (.k (.c (.fn 90 [] []))) [(.t 4), (.k (.c (.int .i64 10)))], none, true, []⟩,
  ⟨some 3, .alloc 23 [.c (.int .i64 0), .c (.int .i64 0), .c (.int .i64 0), .c (.int .i64 0), .c (.int .i64 0), .c (.int .i64 0), .c (.int .i64 0), .c (.int .i64 0), .c (.int .i64 0), .c (.int .i64 0), .c (.int .i64 0), .c (.int .i64 0), .c (.bool false), .c (.bool false), .c (.bool false), .c (.bool false)], none, true, []⟩,
  ⟨none, .stn 16 (.t 3) (.t 5), none, true, []⟩]
def C37r2 : List AOper := [⟨some 6, .mv (.t 0), none, true, []⟩,
  ⟨some 7, .call (.k (.c (.fn 91 [] []))) [(.t 6), (.k (.c (.int .i64 30))), (.k (.c (.int .i64 1)))], none, true, []⟩,
  ⟨some 8, .bin .mul (.k (.c (.int .i64 2))) (.t 7), none, true, []⟩,
  ⟨some 9, .mv (.t 0), none, true, []⟩,
  ⟨some 10, .call (.k (.c (.fn 91 [] []))) [(.t 9), (.k (.c (.int .i64 10))), (.k (.c (.int .i64 1)))], none, true, []⟩,
  ⟨some 11, .bin .add (.t 8) (.t 10), none, true, []⟩,
  ⟨some 12, .mv (.t 0), none, true, []⟩,
  ⟨some 13, .call (.k (.c (.fn 91 [] []))) [(.t 12), (.k (.c (.int .i64 12))), (.k (.c (.int .i64 4)))], none, true, []⟩,
  ⟨some 14, .faddr (.t 3) 1, none, true, []⟩,
  ⟨none, .st1 (.t 14) (.t 11), none, true, []⟩,
  ⟨some 15, .faddr (.t 3) 10, none, true, []⟩,
  ⟨none, .st1 (.t 15) (.t 13), none, true, []⟩]
def C37r3 : List AOper := [⟨some 16, .ldn 16 (.t 3), none, true, []⟩,
  ⟨none, .stn 16 (.t 2) (.t 16), none, true, []⟩]
def C37 : ACode :=
  .seq (.region C37r0)
  (.seq (.region C37r1)
  (.seq (.region C37r2)
  (.seq (.region C37r3)
  (.ret))))
theorem C37_ok : stripF Tryz.prog Tryz.f37 = some C37 := by kernel_rfl
/-! (understudy/code.word).putAdr -/
def C38r0 : List AOper := [⟨some 3, .box 23 (.t 1), none, true, []⟩,
  ⟨some 4, .mv (.k (.c (.int .u32 0))), none, true, []⟩]
def C38r1 : List AOper := [⟨some 6, .faddr (.t 3) 6, none, true, []⟩,
  ⟨some 7, .ld1 (.t 6), none, true, []⟩,
  ⟨some 5, .mv (.t 7), none, true, []⟩]
def C38r2 : List AOper := [⟨some 8, .faddr (.t 3) 1, none, true, []⟩,
  ⟨some 9, .ld1 (.t 8), none, true, []⟩,
  ⟨some 10, .bin .eql (.t 9) (.k (.c (.int .i64 1))), none, true, []⟩]
def C38r3 : List AOper := [⟨some 11, .mv (.t 5), none, true, []⟩,
  ⟨some 12, .bin .quo (.t 11) (.k (.c (.int .i64 4096))), none, true, []⟩,
  ⟨some 5, .mv (.t 12), none, true, []⟩]
def C38r4 : List AOper := [⟨some 13, .mv (.t 0), none, false, []⟩,
  ⟨some 14, .faddr (.t 3) 2, none, false, []⟩,
  ⟨some 15, .ld1 (.t 14), none, false, []⟩,
  ⟨some 16, .call (.k (.c (.fn 88 [] []))) [(.t 13), (.t 15), (.k (.c (.int .i64 0))), (.k (.c (.int .i64 5)))], none, false, []⟩,
  ⟨some 17, .faddr (.t 3) 1, none, false, []⟩,
  ⟨some 18, .ld1 (.t 17), none, false, []⟩,
  ⟨some 19, .call (.k (.c (.fn 88 [] []))) [(.t 16), (.t 18), (.k (.c (.int .i64 31))), (.k (.c (.int .i64 1)))], none, false, []⟩,
  ⟨some 20, .mv (.t 5), none, false, []⟩,
  ⟨some 21, .call (.k (.c (.fn 88 [] []))) [(.t 19), (.t 20), (.k (.c (.int .i64 29))), (.k (.c (.int .i64 2)))], none, false, []⟩,
  ⟨some 22, .mv (.t 5), none, false, []⟩,
  ⟨some 23, .bin .shr (.t 22) (.k (.c (.int .u64 2))), none, false, []⟩,
  ⟨some 24, .call (.k (.c (.fn 88 [] []))) [(.t 21), (.t 23), (.k (.c (.int .i64 5))), (.k (.c (.int .i64 19)))], none, true, []⟩,
  ⟨some 4, .mv (.t 24), none, true, []⟩]
def C38 : ACode :=
  .seq (.region C38r0)
  (.seq (.region C38r1)
  (.seq (.seq (.region C38r2)
  (.cond (.t 10)
   (.region C38r3)
   (.skip)))
  (.seq (.region C38r4)
  (.ret))))
theorem C38_ok : stripF Tryz.prog Tryz.f38 = some C38 := by kernel_rfl
/-! (understudy/code.word).adr -/
def C39r0 : List AOper := [⟨some 2, .alloc 23 [.c (.int .i64 0), .c (.int .i64 0), .c (.int .i64 0), .c (.int .i64 0), .c (.int .i64 0), .c (.int .i64 0), .c (.int .i64 0), .c (.int .i64 0), .c (.int .i64 0), .c (.int .i64 0), .c (.int .i64 0), .c (.int .i64 0), .c (.bool false), .c (.bool false), .c (.bool false), .c (.bool false)], none, true, []⟩]
def C39r1 : List AOper := [⟨some 4, .mv (.t 0), none, true, []⟩,
  ⟨some 5, .call (.k (.c (.fn 91 [] []))) [(.t 4), (.k (.c (.int .i64 0))), (.k (.c (.int .i64 5)))], none, true, []⟩,
  ⟨some 6, .mv (.t 0), none, true, []⟩,
  ⟨some 7, .call (.k (.c (.fn 91 [] []))) [(.t 6), (.k (.c (.int .i64 31))), (.k (.c (.int .i64 1)))], none, true, []⟩,
  ⟨some 8, .mv (.t 0), none, true, []⟩,
  ⟨some 9, .call (.k (.c (.fn 95 [] []))) [(.t 8), (.k (.c (.int .i64 5))), (.k (.c (.int .i64 19)))], none, true, []⟩,
  ⟨some 10, .bin .shl (.t 9) (.k (.c (.int .u64 2))), none, true, []⟩,
  ⟨some 11, .mv (.t 0), none, true, []⟩,
  ⟨some 12, .call (.k (.c (.fn 91 [] []))) [(.t 11), (.k (.c (.int .i64 29))), (.k (.c (.int .i64 2)))], none, true, []⟩,
  ⟨some 13, .bin .or (.t 10) (.t 12), none, true, []⟩,
  ⟨some 14, .build [.c (.int .i64 0), .c (.int .i64 0), .c (.int .i64 0), .c (.int .i64 0), .c (.int .i64 0), .c (.int .i64 0), .c (.int .i64 0), .c (.int .i64 0), .c (.int .i64 0), .c (.int .i64 0), .c (.int .i64 0), .c (.int .i64 0), .c (.bool false), .c (.bool false), .c (.bool false), .c (.bool false)] [(0, 1, (.k (.c (.int .i64 11)))), (2, 1, (.t 5)), (1, 1, (.t 7)), (6, 1, (.t 13))], none, true, []⟩,
  ⟨some 3, .alloc 23 [.c (.int .i64 0), .c (.int .i64 0), .c (.int .i64 0), .c (.int .i64 0), .c (.int .i64 0), .c (.int .i64 0), .c (.int .i64 0), .c (.int .i64 0), .c (.int .i64 0), .c (.int .i64 0), .c (.int .i64 0), .c (.int .i64 0), .c (.bool false), .c (.bool false), .c (.bool false), .c (.bool false)], none, true, []⟩,
  ⟨none, .stn 16 (.t 3) (.t 14), none, true, []⟩]
def C39r2 : List AOper := [⟨some 15, .faddr (.t 3) 1, none, true, []⟩,
  ⟨some 16, .ld1 (.t 15), none, true, []⟩,
  ⟨some 17, .bin .eql (.t 16) (.k (.c (.int .i64 1))), none, true, []⟩]
def C39r3 : List AOper := [⟨some 18, .faddr (.t 3) 6, none, true, []⟩,
  ⟨some 19, .ld1 (.t 18), none, true, []⟩,
  ⟨some 20, .bin .mul (.t 19) (.k (.c (.int .i64 4096))), none, true, []⟩,
  ⟨some 21, .faddr (.t 3) 6, none, true, []⟩,
  ⟨none, .st1 (.t 21) (.t 20), none, true, []⟩]
def C39r4 : List AOper := [⟨some 22, .ldn 16 (.t 3), none, true, []⟩,
  ⟨none, .stn 16 (.t 2) (.t 22), none, true, []⟩]
def C39 : ACode :=
  .seq (.region C39r0)
  (.seq (.region C39r1)
  (.seq (.seq (.region C39r2)
  (.cond (.t 17)
   (.region C39r3)
   (.skip)))
  (.seq (.region C39r4)
  (.ret))))
theorem C39_ok : stripF Tryz.prog Tryz.f39 = some C39 := by kernel_rfl
/-! (understudy/code.word).putB -/
def C40r0 : List AOper := [⟨some 3, .box 23 (.t 1), none, true, []⟩,
  ⟨some 4, .mv (.k (.c (.int .u32 0))), none, true, []⟩]
def C40r1 : List AOper := [⟨some 5, .mv (.t 0), none, false, []⟩,
  ⟨some 6, .faddr (.t 3) 15, none, false, []⟩,
  ⟨some 7, .ld1 (.t 6), none, false, []⟩,
  ⟨some 8, .call (.k (.c (.fn 89 [] []))) [(.t 5), (.t 7), (.k (.c (.int .u32 2147483648)))], none, false, []⟩,
  ⟨some 9, .faddr (.t 3) 6, none, false, []⟩,
  ⟨some 10, .ld1 (.t 9), none, false, []⟩,
  ⟨some 11, .bin .shr (.t 10) (.k (.c (.int .u64 2))), none, false, []⟩,
  ⟨some 12, .call (.k (.c (.fn 88 [] []))) [(.t 8), (.t 11), (.k (.c (.int .i64 0))), (.k (.c (.int .i64 26)))], none, true, []⟩,
  ⟨some 4, .mv (.t 12), none, true, []⟩]
def C40 : ACode :=
  .seq (.region C40r0)
  (.seq (.region C40r1)
  (.ret))
theorem C40_ok : stripF Tryz.prog Tryz.f40 = some C40 := by kernel_rfl
/-! (understudy/code.word).b -/
def C41r0 : List AOper := [⟨some 2, .alloc 23 [.c (.int .i64 0), .c (.int .i64 0), .c (.int .i64 0), .c (.int .i64 0), .c (.int .i64 0), .c (.int .i64 0), .c (.int .i64 0), .c (.int .i64 0), .c (.int .i64 0), .c (.int .i64 0), .c (.int .i64 0), .c (.int .i64 0), .c (.bool false), .c (.bool false), .c (.bool false), .c (.bool false)], none, true, []⟩]
def C41r1 : List AOper := [⟨some 3, .mv (.t 0), none, true, []⟩,
  ⟨some 4, .call (.k (.c (.fn 91 [] []))) [(.t 3), (.k (.c (.int .i64 31))), (.k (.c (.int .i64 1)))], none, true, []⟩,
  ⟨some 5, .bin .eql (.t 4) (.k (.c (.int .i64 1))), none, true, []⟩,
  ⟨some 6, .mv (.t 0), none, true, []⟩,
  ⟨some 7, .call (.k (.c (.fn 95 [] []))) [(.t 6), (.k (.c (.int .i64 0))), (.k (.c (.int .i64 26)))], none, true, []⟩,
  ⟨some 8, .bin .mul (.k (.c (.int .i64 4))) (.t 7), none, true, []⟩,
  ⟨some 9, .build [.c (.int .i64 0), .c (.int .i64 0), .c (.int .i64 0), .c (.int .i64 0), .c (.int .i64 0), .c (.int .i64 0), .c (.int .i64 0), .c (.int .i64 0), .c (.int .i64 0), .c (.int .i64 0), .c (.int .i64 0), .c (.int .i64 0), .c (.bool false), .c (.bool false), .c (.bool false), .c (.bool false)] [(0, 1, (.k (.c (.int .i64 12)))), (15, 1, (.t 5)), (6, 1, (.t 8))], none, true, []⟩,
  ⟨none, .stn 16 (.t 2) (.t 9), none, true, []⟩]
def C41 : ACode :=
  .seq (.region C41r0)
  (.seq (.region C41r1)
  (.ret))
theorem C41_ok : stripF Tryz.prog Tryz.f41 = some C41 := by kernel_rfl
/-! (understudy/code.word).putBCond -/
def C42r0 : List AOper := [⟨some 3, .box 23 (.t 1), none, true, []⟩,
  ⟨some 4, .mv (.k (.c (.int .u32 0))), none, true, []⟩]
def C42r1 : List AOper := [⟨some 5, .mv (.t 0), none, false, []⟩,
  ⟨some 6, .faddr (.t 3) 10, none, false, []⟩,
  ⟨some 7, .ld1 (.t 6), none, false, []⟩,
  ⟨some 8, .call (.k (.c (.fn 88 [] []))) [(.t 5), (.t 7), (.k (.c (.int .i64 0))), (.k (.c (.int .i64 4)))], none, false, []⟩,
  ⟨some 9, .faddr (.t 3) 6, none, false, []⟩,
  ⟨some 10, .ld1 (.t 9), none, false, []⟩,
  ⟨some 11, .bin .shr (.t 10) (.k (.c (.int .u64 2))), none, false, []⟩,
  ⟨some 12, .call (.k (.c (.fn 88 [] []))) [(.t 8), (.t 11), (.k (.c (.int .i64 5))), (.k (.c (.int .i64 19)))], none, true, []⟩,
  ⟨some 4, .mv (.t 12), none, true, []⟩]
def C42 : ACode :=
  .seq (.region C42r0)
  (.seq (.region C42r1)
  (.ret))
theorem C42_ok : stripF Tryz.prog Tryz.f42 = some C42 := by kernel_rfl
/-! (understudy/code.word).bCond -/
def C43r0 : List AOper := [⟨some 2, .alloc 23 [.c (.int .i64 0), .c (.int .i64 0), .c (.int .i64 0), .c (.int .i64 0), .c (.int .i64 0), .c (.int .i64 0), .c (.int .i64 0), .c (.int .i64 0), .c (.int .i64 0), .c (.int .i64 0), .c (.int .i64 0), .c (.int .i64 0), .c (.bool false), .c (.bool false), .c (.bool false), .c (.bool false)], none, true, []⟩]
def C43r1 : List AOper := [⟨some 3, .mv (.t 0), none, true, []⟩,
  ⟨some 4, .call (.k (.c (.fn 91 [] []))) [(.t 3), (.k (.c (.int .i64 0))), (.k (.c (.int .i64 4)))], none, true, []⟩,
  ⟨some 5, .mv (.t 0), none, true, []⟩,
  ⟨some 6, .call (.k (.c (.fn 95 [] []))) [(.t 5), (.k (.c (.int .i64 5))), (.k (.c (.int .i64 19)))], none, true, []⟩,
  ⟨some 7, .bin .mul (.k (.c (.int .i64 4))) (.t 6), none, true, []⟩,
  ⟨some 8, .build [.c (.int .i64 0), .c (.int .i64 0), .c (.int .i64 0), .c (.int .i64 0), .c (.int .i64 0), .c (.int .i64 0), .c (.int .i64 0), .c (.int .i64 0), .c (.int .i64 0), .c (.int .i64 0), .c (.int .i64 0), .c (.int .i64 0), .c (.bool false), .c (.bool false), .c (.bool false), .c (.bool false)] [(0, 1, (.k (.c (.int .i64 13)))), (10, 1, (.t 4)), (6, 1, (.t 7))], none, true, []⟩,
  ⟨none, .stn 16 (.t 2) (.t 8), none, true, []⟩]
def C43 : ACode :=
  .seq (.region C43r0)
  (.seq (.region C43r1)
  (.ret))
theorem C43_ok : stripF Tryz.prog Tryz.f43 = some C43 := by kernel_rfl
/-! (understudy/code.word).putCbz -/
def C44r0 : List AOper := [⟨some 3, .box 23 (.t 1), none, true, []⟩,
  ⟨some 4, .mv (.k (.c (.int .u32 0))), none, true, []⟩]
def C44r1 : List AOper := [⟨some 5, .mv (.t 0), none, false, []⟩,
  ⟨some 6, .faddr (.t 3) 2, none, false, []⟩,
  ⟨some 7, .ld1 (.t 6), none, false, []⟩,
  ⟨some 8, .call (.k (.c (.fn 88 [] []))) [(.t 5), (.t 7), (.k (.c (.int .i64 0))), (.k (.c (.int .i64 5)))], none, false, []⟩,
  ⟨some 9, .faddr (.t 3) 14, none, false, []⟩,
  ⟨some 10, .ld1 (.t 9), none, false, []⟩,
  ⟨some 11, .call (.k (.c (.fn 89 [] []))) [(.t 8), (.t 10), (.k (.c (.int .u32 16777216)))], none, false, []⟩,
  ⟨some 12, .faddr (.t 3) 6, none, false, []⟩,
  ⟨some 13, .ld1 (.t 12), none, false, []⟩,
  ⟨some 14, .bin .shr (.t 13) (.k (.c (.int .u64 2))), none, false, []⟩,
  ⟨some 15, .call (.k (.c (.fn 88 [] []))) [(.t 11), (.t 14), (.k (.c (.int .i64 5))), (.k (.c (.int .i64 19)))], none, true, []⟩,
  ⟨some 4, .mv (.t 15), none, true, []⟩]
def C44 : ACode :=
  .seq (.region C44r0)
  (.seq (.region C44r1)
  (.ret))
theorem C44_ok : stripF Tryz.prog Tryz.f44 = some C44 := by kernel_rfl
/-! (understudy/code.word).cbz -/
def C45r0 : List AOper := [⟨some 2, .alloc 23 [.c (.int .i64 0), .c (.int .i64 0), .c (.int .i64 0), .c (.int .i64 0), .c (.int .i64 0), .c (.int .i64 0), .c (.int .i64 0), .c (.int .i64 0), .c (.int .i64 0), .c (.int .i64 0), .c (.int .i64 0), .c (.int .i64 0), .c (.bool false), .c (.bool false), .c (.bool false), .c (.bool false)], none, true, []⟩]
def C45r1 : List AOper := [⟨some 3, .mv (.t 0), none, true, []⟩,
  ⟨some 4, .call (.k (.c (.fn 91 [] []))) [(.t 3), (.k (.c (.int .i64 0))), (.k (.c (.int .i64 5)))], none, true, []⟩,
  ⟨some 5, .mv (.t 0), none, true, []⟩,
  ⟨some 6, .call (.k (.c (.fn 92 [] []))) [(.t 5), (.k (.c (.int .u32 16777216)))], none, true, []⟩,
  ⟨some 7, .mv (.t 0), none, true, []⟩,
  ⟨some 8, .call (.k (.c (.fn 95 [] []))) [(.t 7), (.k (.c (.int .i64 5))), (.k (.c (.int .i64 19)))], none, true, []⟩,
  ⟨some 9, .bin .mul (.k (.c (.int .i64 4))) (.t 8), none, true, []⟩,
  ⟨some 10, .build [.c (.int .i64 0), .c (.int .i64 0), .c (.int .i64 0), .c (.int .i64 0), .c (.int .i64 0), .c (.int .i64 0), .c (.int .i64 0), .c (.int .i64 0), .c (.int .i64 0), .c (.int .i64 0), .c (.int .i64 0), .c (.int .i64 0), .c (.bool false), .c (.bool false), .c (.bool false), .c (.bool false)] [(0, 1, (.k (.c (.int .i64 14)))), (2, 1, (.t 4)), (14, 1, (.t 6)), (6, 1, (.t 9))], none, true, []⟩,
  ⟨none, .stn 16 (.t 2) (.t 10), none, true, []⟩]
def C45 : ACode :=
  .seq (.region C45r0)
  (.seq (.region C45r1)
  (.ret))
theorem C45_ok : stripF Tryz.prog Tryz.f45 = some C45 := by kernel_rfl
/-! (understudy/code.word).putTbz -/
def C46r0 : List AOper := [⟨some 3, .box 23 (.t 1), none, true, []⟩,
  ⟨some 4, .mv (.k (.c (.int .u32 0))), none, true, []⟩]
def C46r1 : List AOper := [⟨some 5, .mv (.t 0), none, false, []⟩,
  ⟨some 6, .faddr (.t 3) 2, none, false, []⟩,
  ⟨some 7, .ld1 (.t 6), none, false, []⟩,
  ⟨some 8, .call (.k (.c (.fn 88 [] []))) [(.t 5), (.t 7), (.k (.c (.int .i64 0))), (.k (.c (.int .i64 5)))], none, false, []⟩,
  ⟨some 9, .faddr (.t 3) 14, none, false, []⟩,
  ⟨some 10, .ld1 (.t 9), none, false, []⟩,
  ⟨some 11, .call (.k (.c (.fn 89 [] []))) [(.t 8), (.t 10), (.k (.c (.int .u32 16777216)))], none, false, []⟩,
  ⟨some 12, .faddr (.t 3) 8, none, false, []⟩,
  ⟨some 13, .ld1 (.t 12), none, false, []⟩,
  ⟨some 14, .bin .shr (.t 13) (.k (.c (.int .u64 5))), none, false, []⟩,
  ⟨some 15, .call (.k (.c (.fn 88 [] []))) [(.t 11), (.t 14), (.k (.c (.int .i64 31))), (.k (.c (.int .i64 1)))], none, false, []⟩,
  ⟨some 16, .faddr (.t 3) 8, none, false, []⟩,
  ⟨some 17, .ld1 (.t 16), none, false, []⟩,
  ⟨some 18, .call (.k (.c (.fn 88 [] []))) [(.t 15), (.t 17), (.k (.c (.int .i64 19))), (.k (.c (.int .i64 5)))], none, false, []⟩,
  ⟨some 19, .faddr (.t 3) 6, none, false, []⟩,
  ⟨some 20, .ld1 (.t 19), none, false, []⟩,
  ⟨some 21, .bin .shr (.t 20) (.k (.c (.int .u64 2))), none, false, []⟩,
  ⟨some 22, .call (.k (.c (.fn 88 [] []))) [(.t 18), (.t 21), (.k (.c (.int .i64 5))), (.k (.c (.int .i64 14)))], none, true, []⟩,
  ⟨some 4, .mv (.t 22), none, true, []⟩]
def C46 : ACode :=
  .seq (.region C46r0)
  (.seq (.region C46r1)
  (.ret))
theorem C46_ok : stripF Tryz.prog Tryz.f46 = some C46 := by kernel_rfl
/-! (understudy/code.word).tbz -/
def C47r0 : List AOper := [⟨some 2, .alloc 23 [.c (.int .i64 0), .c (.int .i64 0), .c (.int .i64 0), .c (.int .i64 0), .c (.int .i64 0), .c (.int .i64 0), .c (.int .i64 0), .c (.int .i64 0), .c (.int .i64 0), .c (.int .i64 0), .c (.int .i64 0), .c (.int .i64 0), .c (.bool false), .c (.bool false), .c (.bool false), .c (.bool false)], none, true, []⟩]
def C47r1 : List AOper := [⟨some 3, .mv (.t 0), none, true, []⟩,
  ⟨some 4, .call (.k (.c (.fn 91 [] []))) [(.t 3), (.k (.c (.int .i64 0))), (.k (.c (.int .i64 5)))], none, true, []⟩,
  ⟨some 5, .mv (.t 0), none, true, []⟩,
  ⟨some 6, .call (.k (.c (.fn 92 [] []))) [(.t 5), (.k (.c (.int .u32 16777216)))], none, true, []⟩,
  ⟨some 7, .mv (.t 0), none, true, []⟩,
  ⟨some 8, .call (.k (.c (.fn 91 [] []))) [(.t 7), (.k (.c (.int .i64 31))), (.k (.c (.int .i64 1)))], none, true, []⟩,
  ⟨some 9, .bin .shl (.t 8) (.k (.c (.int .u64 5))), none, true, []⟩,
  ⟨some 10, .mv (.t 0), none, true, []⟩,
  ⟨some 11, .call (.k (.c (.fn 91 [] []))) [(.t 10), (.k (.c (.int .i64 19))), (.k (.c (.int .i64 5)))], none, true, []⟩,
  ⟨some 12, .bin .or (.t 9) (.t 11), none, true, []⟩,
  ⟨some 13, .mv (.t 0), none, true, []⟩,
  ⟨some 14, .call (.k (.c (.fn 95 [] []))) [(.t 13), (.k (.c (.int .i64 5))), (.k (.c (.int .i64 14)))], none, true, []⟩,
  ⟨some 15, .bin .mul (.k (.c (.int .i64 4))) (.t 14), none, true, []⟩,
  ⟨some 16, .build [.c (.int .i64 0), .c (.int .i64 0), .c (.int .i64 0), .c (.int .i64 0), .c (.int .i64 0), .c (.int .i64 0), .c (.int .i64 0), .c (.int .i64 0), .c (.int .i64 0), .c (.int .i64 0), .c (.int .i64 0), .c (.int .i64 0), .c (.bool false), .c (.bool false), .c (.bool false), .c (.bool false)] [(0, 1, (.k (.c (.int .i64 15)))), (2, 1, (.t 4)), (14, 1, (.t 6)), (8, 1, (.t 12)), (6, 1, (.t 15))], none, true, []⟩,
  ⟨none, .stn 16 (.t 2) (.t 16), none, true, []⟩]
def C47 : ACode :=
  .seq (.region C47r0)
  (.seq (.region C47r1)
  (.ret))
theorem C47_ok : stripF Tryz.prog Tryz.f47 = some C47 := by kernel_rfl
/-! (understudy/code.word).putBr -/
def C48r0 : List AOper := [⟨some 3, .box 23 (.t 1), none, true, []⟩,
  ⟨some 4, .mv (.k (.c (.int .u32 0))), none, true, []⟩]
def C48r1 : List AOper := [⟨some 5, .mv (.t 0), none, false, []⟩,
  ⟨some 6, .faddr (.t 3) 3, none, false, []⟩,
  ⟨some 7, .ld1 (.t 6), none, false, []⟩,
  ⟨some 8, .call (.k (.c (.fn 88 [] []))) [(.t 5), (.t 7), (.k (.c (.int .i64 5))), (.k (.c (.int .i64 5)))], none, false, []⟩,
  ⟨some 9, .faddr (.t 3) 1, none, false, []⟩,
  ⟨some 10, .ld1 (.t 9), none, false, []⟩,
  ⟨some 11, .call (.k (.c (.fn 88 [] []))) [(.t 8), (.t 10), (.k (.c (.int .i64 21))), (.k (.c (.int .i64 2)))], none, true, []⟩,
  ⟨some 4, .mv (.t 11), none, true, []⟩]
def C48 : ACode :=
  .seq (.region C48r0)
  (.seq (.region C48r1)
  (.ret))
theorem C48_ok : stripF Tryz.prog Tryz.f48 = some C48 := by kernel_rfl
/-! (understudy/code.word).br -/
def C49r0 : List AOper := [⟨some 2, .alloc 23 [.c (.int .i64 0), .c (.int .i64 0), .c (.int .i64 0), .c (.int .i64 0), .c (.int .i64 0), .c (.int .i64 0), .c (.int .i64 0), .c (.int .i64 0), .c (.int .i64 0), .c (.int .i64 0), .c (.int .i64 0), .c (.int .i64 0), .c (.bool false), .c (.bool false), .c (.bool false), .c (.bool false)], none, true, []⟩]
def C49r1 : List AOper := [⟨some 3, .mv (.t 0), none, true, []⟩,
  ⟨some 4, .call (.k (.c (.fn 91 [] []))) [(.t 3), (.k (.c (.int .i64 5))), (.k (.c (.int .i64 5)))], none, true, []⟩,
  ⟨some 5, .mv (.t 0), none, true, []⟩,
  ⟨some 6, .call (.k (.c (.fn 91 [] []))) [(.t 5), (.k (.c (.int .i64 21))), (.k (.c (.int .i64 2)))], none, true, []⟩,
  ⟨some 7, .build [.c (.int .i64 0), .c (.int .i64 0), .c (.int .i64 0), .c (.int .i64 0), .c (.int .i64 0), .c (.int .i64 0), .c (.int .i64 0), .c (.int .i64 0), .c (.int .i64 0), .c (.int .i64 0), .c (.int .i64 0), .c (.int .i64 0), .c (.bool false), .c (.bool false), .c (.bool false), .c (.bool false)] [(0, 1, (.k (.c (.int .i64 16)))), (3, 1, (.t 4)), (1, 1, (.t 6))], none, true, []⟩,
  ⟨none, .stn 16 (.t 2) (.t 7), none, true, []⟩]
def C49 : ACode :=
  .seq (.region C49r0)
  (.seq (.region C49r1)
  (.ret))
theorem C49_ok : stripF Tryz.prog Tryz.f49 = some C49 := by kernel_rfl
/-! (understudy/code.word).putAccess -/
def C50r0 : List AOper := [⟨some 3, .box 23 (.t 1), none, true, []⟩,
  ⟨some 4, .mv (.k (.c (.int .u32 0))), none, true, []⟩]
def C50r1 : List AOper := [⟨some 5, .mv (.t 0), none, false, []⟩,
  ⟨some 6, .ldn 16 (.t 3), none, false, []⟩,
  ⟨some 7, .call (.k (.c (.fn 54 [] []))) [(.t 5), (.t 6)], none, false, []⟩,
  ⟨some 8, .faddr (.t 3) 6, none, false, []⟩,
  ⟨some 9, .ld1 (.t 8), none, false, []⟩,
  ⟨some 10, .bin .quo (.t 9) (.k (.c (.int .i64 8))), none, false, []⟩,
  ⟨some 11, .call (.k (.c (.fn 88 [] []))) [(.t 7), (.t 10), (.k (.c (.int .i64 10))), (.k (.c (.int .i64 12)))], none, true, []⟩,
  ⟨some 4, .mv (.t 11), none, true, []⟩]
def C50 : ACode :=
  .seq (.region C50r0)
  (.seq (.region C50r1)
  (.ret))
theorem C50_ok : stripF Tryz.prog Tryz.f50 = some C50 := by kernel_rfl
/-! understudy/code.access -/
def C51r0 : List AOper := [⟨some 1, .box 3 (.t 0), none, true, []⟩,
  ⟨some 2, .mv (.k (.c (.nilfn))), none, true, []⟩]
def C51r1 : List AOper := [⟨some 3, .mkfn 96 [] [(.t 1)], none, true, []⟩,
  ⟨some 2, .mv (.t 3), none, true, []⟩]
def C51 : ACode :=
  .seq (.region C51r0)
  (.seq (.region C51r1)
  (.ret))
theorem C51_ok : stripF Tryz.prog Tryz.f51 = some C51 := by kernel_rfl
/-! (understudy/code.word).putAccessReg -/
def C52r0 : List AOper := [⟨some 3, .box 23 (.t 1), none, true, []⟩,
  ⟨some 4, .mv (.k (.c (.int .u32 0))), none, true, []⟩]
def C52r1 : List AOper := [⟨some 5, .mv (.t 0), none, false, []⟩,
  ⟨some 6, .ldn 16 (.t 3), none, false, []⟩,
  ⟨some 7, .call (.k (.c (.fn 54 [] []))) [(.t 5), (.t 6)], none, false, []⟩,
  ⟨some 8, .faddr (.t 3) 8, none, false, []⟩,
  ⟨some 9, .ld1 (.t 8), none, false, []⟩,
  ⟨some 10, .bin .quo (.t 9) (.k (.c (.int .i64 3))), none, false, []⟩,
  ⟨some 11, .call (.k (.c (.fn 88 [] []))) [(.t 7), (.t 10), (.k (.c (.int .i64 12))), (.k (.c (.int .i64 1)))], none, true, []⟩,
  ⟨some 4, .mv (.t 11), none, true, []⟩]
def C52 : ACode :=
  .seq (.region C52r0)
  (.seq (.region C52r1)
  (.ret))
theorem C52_ok : stripF Tryz.prog Tryz.f52 = some C52 := by kernel_rfl
/-! understudy/code.accessReg -/
def C53r0 : List AOper := [⟨some 1, .box 3 (.t 0), none, true, []⟩,
  ⟨some 2, .mv (.k (.c (.nilfn))), none, true, []⟩]
def C53r1 : List AOper := [⟨some 3, .mkfn 97 [] [(.t 1)], none, true, []⟩,
  ⟨some 2, .mv (.t 3), none, true, []⟩]
def C53 : ACode :=
  .seq (.region C53r0)
  (.seq (.region C53r1)
  (.ret))
theorem C53_ok : stripF Tryz.prog Tryz.f53 = some C53 := by kernel_rfl
/-! (understudy/code.word).regs -/
def C54r0 : List AOper := [⟨some 3, .box 23 (.t 1), none, true, []⟩,
  ⟨some 4, .mv (.k (.c (.int .u32 0))), none, true, []⟩]
def C54r1 : List AOper := [⟨some 5, .mv (.t 0), none, false, []⟩,
  ⟨some 6, .faddr (.t 3) 2, none, false, []⟩,
  ⟨some 7, .ld1 (.t 6), none, false, []⟩,
  ⟨some 8, .call (.k (.c (.fn 88 [] []))) [(.t 5), (.t 7), (.k (.c (.int .i64 0))), (.k (.c (.int .i64 5)))], none, false, []⟩,
  ⟨some 9, .faddr (.t 3) 3, none, false, []⟩,
  ⟨some 10, .ld1 (.t 9), none, false, []⟩,
  ⟨some 11, .call (.k (.c (.fn 88 [] []))) [(.t 8), (.t 10), (.k (.c (.int .i64 5))), (.k (.c (.int .i64 5)))], none, false, []⟩,
  ⟨some 12, .faddr (.t 3) 4, none, false, []⟩,
  ⟨some 13, .ld1 (.t 12), none, false, []⟩,
  ⟨some 14, .call (.k (.c (.fn 88 [] []))) [(.t 11), (.t 13), (.k (.c (.int .i64 16))), (.k (.c (.int .i64 5)))], none, true, []⟩,
  ⟨some 4, .mv (.t 14), none, true, []⟩]
def C54 : ACode :=
  .seq (.region C54r0)
  (.seq (.region C54r1)
  (.ret))
theorem C54_ok : stripF Tryz.prog Tryz.f54 = some C54 := by kernel_rfl
/-! understudy/code.two -/
def C55r0 : List AOper := [⟨some 2, .box 3 (.t 0), none, true, []⟩,
  ⟨some 3, .box 3 (.t 1), none, true, []⟩,
  ⟨some 4, .mv (.k (.c (.nilfn))), none, true, []⟩]
def C55r1 : List AOper := [⟨some 5, .mkfn 98 [] [(.t 2), (.t 3)], none, true, []⟩,
  ⟨some 4, .mv (.t 5), none, true, []⟩]
def C55 : ACode :=
  .seq (.region C55r0)
  (.seq (.region C55r1)
  (.ret))
theorem C55_ok : stripF Tryz.prog Tryz.f55 = some C55 := by kernel_rfl
/-! (understudy/code.word).putExclusive -/
def C56r0 : List AOper := [⟨some 3, .box 23 (.t 1), none, true, []⟩,
  ⟨some 4, .mv (.k (.c (.int .u32 0))), none, true, []⟩]
def C56r1 : List AOper := [⟨some 5, .mv (.t 0), none, false, []⟩,
  ⟨some 6, .ldn 16 (.t 3), none, false, []⟩,
  ⟨some 7, .call (.k (.c (.fn 54 [] []))) [(.t 5), (.t 6)], none, false, []⟩,
  ⟨some 8, .faddr (.t 3) 1, none, false, []⟩,
  ⟨some 9, .ld1 (.t 8), none, false, []⟩,
  ⟨some 10, .call (.k (.c (.fn 88 [] []))) [(.t 7), (.t 9), (.k (.c (.int .i64 15))), (.k (.c (.int .i64 1)))], none, true, []⟩,
  ⟨some 4, .mv (.t 10), none, true, []⟩]
def C56 : ACode :=
  .seq (.region C56r0)
  (.seq (.region C56r1)
  (.ret))
theorem C56_ok : stripF Tryz.prog Tryz.f56 = some C56 := by kernel_rfl
/-! understudy/code.exclusive -/
def C57r0 : List AOper := [⟨some 1, .box 3 (.t 0), none, true, []⟩,
  ⟨some 2, .mv (.k (.c (.nilfn))), none, true, []⟩]
def C57r1 : List AOper := [⟨some 3, .mkfn 99 [] [(.t 1)], none, true, []⟩,
  ⟨some 2, .mv (.t 3), none, true, []⟩]
def C57 : ACode :=
  .seq (.region C57r0)
  (.seq (.region C57r1)
  (.ret))
theorem C57_ok : stripF Tryz.prog Tryz.f57 = some C57 := by kernel_rfl
/-! understudy/code.plain -/
def C58r0 : List AOper := [⟨some 1, .box 3 (.t 0), none, true, []⟩,
  ⟨some 2, .mv (.k (.c (.nilfn))), none, true, []⟩]
def C58r1 : List AOper := [⟨some 3, .mkfn 100 [] [(.t 1)], none, true, []⟩,
  ⟨some 2, .mv (.t 3), none, true, []⟩]
def C58 : ACode :=
  .seq (.region C58r0)
  (.seq (.region C58r1)
  (.ret))
theorem C58_ok : stripF Tryz.prog Tryz.f58 = some C58 := by kernel_rfl
/-! understudy/code.putNumber -/
def C59r0 : List AOper := [⟨some 2, .box 3 (.t 0), none, true, []⟩,
  ⟨some 3, .box 3 (.t 1), none, true, []⟩,
  ⟨some 4, .mv (.k (.c (.nilfn))), none, true, []⟩]
def C59r1 : List AOper := [⟨some 5, .mkfn 101 [] [(.t 2), (.t 3)], none, true, []⟩,
  ⟨some 4, .mv (.t 5), none, true, []⟩]
def C59 : ACode :=
  .seq (.region C59r0)
  (.seq (.region C59r1)
  (.ret))
theorem C59_ok : stripF Tryz.prog Tryz.f59 = some C59 := by kernel_rfl
/-! understudy/code.number -/
def C60r0 : List AOper := [⟨some 4, .box 3 (.t 0), none, true, []⟩,
  ⟨some 5, .box 3 (.t 1), none, true, []⟩,
  ⟨some 6, .box 3 (.t 2), none, true, []⟩,
  ⟨some 7, .box 3 (.t 3), none, true, []⟩,
  ⟨some 8, .mv (.k (.c (.nilfn))), none, true, []⟩]
def C60r1 : List AOper := [⟨some 9, .mkfn 102 [] [(.t 4), (.t 5), (.t 6), (.t 7)], none, true, []⟩,
  ⟨some 8, .mv (.t 9), none, true, []⟩]
def C60 : ACode :=
  .seq (.region C60r0)
  (.seq (.region C60r1)
  (.ret))
theorem C60_ok : stripF Tryz.prog Tryz.f60 = some C60 := by kernel_rfl
/-! understudy/code.target -/
def C61r0 : List AOper := [⟨some 1, .box 3 (.t 0), none, true, []⟩,
  ⟨some 2, .mv (.k (.c (.nilfn))), none, true, []⟩]
def C61r1 : List AOper := [⟨some 3, .mkfn 103 [] [(.t 1)], none, true, []⟩,
  ⟨some 2, .mv (.t 3), none, true, []⟩]
def C61 : ACode :=
  .seq (.region C61r0)
  (.seq (.region C61r1)
  (.ret))
theorem C61_ok : stripF Tryz.prog Tryz.f61 = some C61 := by kernel_rfl
/-! (understudy/code.word).putSystem -/
def C62r0 : List AOper := [⟨some 3, .box 23 (.t 1), none, true, []⟩,
  ⟨some 4, .mv (.k (.c (.int .u32 0))), none, true, []⟩]
def C62r1 : List AOper := [⟨some 5, .mv (.t 0), none, false, []⟩,
  ⟨some 6, .faddr (.t 3) 2, none, false, []⟩,
  ⟨some 7, .ld1 (.t 6), none, false, []⟩,
  ⟨some 8, .call (.k (.c (.fn 88 [] []))) [(.t 5), (.t 7), (.k (.c (.int .i64 0))), (.k (.c (.int .i64 5)))], none, false, []⟩,
  ⟨some 9, .faddr (.t 3) 11, none, false, []⟩,
  ⟨some 10, .ld1 (.t 9), none, false, []⟩,
  ⟨some 11, .call (.k (.c (.fn 88 [] []))) [(.t 8), (.t 10), (.k (.c (.int .i64 5))), (.k (.c (.int .i64 15)))], none, true, []⟩,
  ⟨some 4, .mv (.t 11), none, true, []⟩]
def C62 : ACode :=
  .seq (.region C62r0)
  (.seq (.region C62r1)
  (.ret))
theorem C62_ok : stripF Tryz.prog Tryz.f62 = some C62 := by kernel_rfl
/-! understudy/code.system -/
def C63r0 : List AOper := [⟨some 1, .box 3 (.t 0), none, true, []⟩,
  ⟨some 2, .mv (.k (.c (.nilfn))), none, true, []⟩]
def C63r1 : List AOper := [⟨some 3, .mkfn 104 [] [(.t 1)], none, true, []⟩,
  ⟨some 2, .mv (.t 3), none, true, []⟩]
def C63 : ACode :=
  .seq (.region C63r0)
  (.seq (.region C63r1)
  (.ret))
theorem C63_ok : stripF Tryz.prog Tryz.f63 = some C63 := by kernel_rfl
end Go.Proofs.YteikpddilabppaaGreatR
