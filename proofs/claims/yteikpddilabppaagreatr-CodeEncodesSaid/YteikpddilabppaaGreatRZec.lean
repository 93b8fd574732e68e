/- Parts of the proof of codeEncodes_holds, joined and cut by a program: Code03a, Code03c. No condition. -/
import Derived.Test.YteikpddilabppaaGreatRZeb
import Derived.Test.YteikpddilabppaaGreatRProg
import Derived.KernelRfl
set_option linter.unusedVariables false
namespace Go.Proofs.YteikpddilabppaaGreatR
open Go.AM
def C7r0 : List AOper := [⟨some 0, .mv (.k (.c (.bool false))), none, true, []⟩]
def C7r1 : List AOper := [⟨some 8, .call (.k (.c (.fn 10 [] []))) [(.k (.c (.int .u32 2432697376)))], none, true, []⟩,
 ⟨some 1, .alloc 23 [.c (.int .i64 0), .c (.int .i64 0), .c (.int .i64 0), .c (.int .i64 0), .c (.int .i64 0), .c (.int .i64 0), .c (.int .i64 0), .c (.int .i64 0), .c (.int .i64 0), .c (.int .i64 0), .c (.int .i64 0), .c (.int .i64 0), .c (.bool false), .c (.bool false), .c (.bool false), .c (.bool false)], none, true, []⟩,
 ⟨none, .stn 16 (.t 1) (.t 8), none, true, []⟩]
def C7r2 : List AOper := [⟨some 9, .call (.k (.c (.fn 10 [] []))) [(.k (.c (.int .u32 0)))], none, true, []⟩,
 ⟨some 2, .alloc 23 [.c (.int .i64 0), .c (.int .i64 0), .c (.int .i64 0), .c (.int .i64 0), .c (.int .i64 0), .c (.int .i64 0), .c (.int .i64 0), .c (.int .i64 0), .c (.int .i64 0), .c (.int .i64 0), .c (.int .i64 0), .c (.int .i64 0), .c (.bool false), .c (.bool false), .c (.bool false), .c (.bool false)], none, true, []⟩,
 ⟨none, .stn 16 (.t 2) (.t 9), none, true, []⟩]
def C7r3 : List AOper := [⟨some 10, .call (.k (.c (.fn 10 [] []))) [(.k (.c (.int .u32 402653183)))], none, true, []⟩,
 ⟨some 3, .alloc 23 [.c (.int .i64 0), .c (.int .i64 0), .c (.int .i64 0), .c (.int .i64 0), .c (.int .i64 0), .c (.int .i64 0), .c (.int .i64 0), .c (.int .i64 0), .c (.int .i64 0), .c (.int .i64 0), .c (.int .i64 0), .c (.int .i64 0), .c (.bool false), .c (.bool false), .c (.bool false), .c (.bool false)], none, true, []⟩,
 ⟨none, .stn 16 (.t 3) (.t 10), none, true, []⟩]
def C7r4 : List AOper := [⟨some 12, .build [.c (.int .i64 0), .c (.int .i64 0), .c (.int .i64 0), .c (.int .i64 0), .c (.int .i64 0), .c (.int .i64 0), .c (.int .i64 0), .c (.int .i64 0), .c (.int .i64 0), .c (.int .i64 0), .c (.int .i64 0), .c (.int .i64 0), .c (.bool false), .c (.bool false), .c (.bool false), .c (.bool false)] [(0, 1, (.k (.c (.int .i64 16)))), (1, 1, (.k (.c (.int .i64 2)))), (3, 1, (.k (.c (.int .i64 30))))], none, true, []⟩,
 ⟨some 13, .call (.k (.c (.fn 8 [] []))) [(.t 12)], none, true, []⟩,
 ⟨some 11, .mv (.t 13), none, true, []⟩,
 ⟨some 14, .ext (.t 11) 0, none, true, []⟩,
 ⟨some 15, .ext (.t 11) 1, none, true, []⟩,
 ⟨some 4, .mv (.t 14), none, true, []⟩,
 ⟨some 5, .mv (.t 15), none, true, []⟩]
def C7r5 : List AOper := [⟨some 17, .build [.c (.int .i64 0), .c (.int .i64 0), .c (.int .i64 0), .c (.int .i64 0), .c (.int .i64 0), .c (.int .i64 0), .c (.int .i64 0), .c (.int .i64 0), .c (.int .i64 0), .c (.int .i64 0), .c (.int .i64 0), .c (.int .i64 0), .c (.bool false), .c (.bool false), .c (.bool false), .c (.bool false)] [], none, true, []⟩,
 ⟨some 18, .call (.k (.c (.fn 8 [] []))) [(.t 17)], none, true, []⟩,
 ⟨some 16, .mv (.t 18), none, true, []⟩,
 ⟨some 19, .ext (.t 16) 0, none, true, []⟩,
 ⟨some 20, .ext (.t 16) 1, none, true, []⟩,
 ⟨some 6, .mv (.t 19), none, true, []⟩,
 ⟨some 7, .mv (.t 20), none, true, []⟩]
def C7r6 : List AOper := [⟨some 21, .ldn 16 (.t 1), none, true, []⟩,
 ⟨some 22, .build [.c (.int .i64 0), .c (.int .i64 0), .c (.int .i64 0), .c (.int .i64 0), .c (.int .i64 0), .c (.int .i64 0), .c (.int .i64 0), .c (.int .i64 0), .c (.int .i64 0), .c (.int .i64 0), .c (.int .i64 0), .c (.int .i64 0), .c (.bool false), .c (.bool false), .c (.bool false), .c (.bool false)] [(0, 1, (.k (.c (.int .i64 1)))), (3, 1, (.k (.c (.int .i64 1)))), (6, 1, (.k (.c (.int .i64 1))))], none, true, []⟩,
 ⟨some 23, .eqS false [.one true, .one true, .one true, .one true, .one true, .one true, .one true, .one true, .one true, .one true, .one true, .one true, .one false, .one false, .one false, .one false] (.t 21) (.t 22), none, true, []⟩,
 ⟨some 24, .mv (.t 23), none, true, []⟩,
 ⟨some 25, .ldn 16 (.t 2), some (24, true), true, []⟩,
 ⟨some 26, .build [.c (.int .i64 0), .c (.int .i64 0), .c (.int .i64 0), .c (.int .i64 0), .c (.int .i64 0), .c (.int .i64 0), .c (.int .i64 0), .c (.int .i64 0), .c (.int .i64 0), .c (.int .i64 0), .c (.int .i64 0), .c (.int .i64 0), .c (.bool false), .c (.bool false), .c (.bool false), .c (.bool false)] [], some (24, true), true, []⟩,
 ⟨some 27, .eqS false [.one true, .one true, .one true, .one true, .one true, .one true, .one true, .one true, .one true, .one true, .one true, .one true, .one false, .one false, .one false, .one false] (.t 25) (.t 26), some (24, true), true, []⟩,
 ⟨some 28, .pick 24 (.t 27) (.k (.c (.bool false))), none, true, []⟩,
 ⟨some 29, .mv (.t 28), none, true, []⟩,
 ⟨some 30, .ldn 16 (.t 3), some (29, true), true, []⟩,
 ⟨some 31, .build [.c (.int .i64 0), .c (.int .i64 0), .c (.int .i64 0), .c (.int .i64 0), .c (.int .i64 0), .c (.int .i64 0), .c (.int .i64 0), .c (.int .i64 0), .c (.int .i64 0), .c (.int .i64 0), .c (.int .i64 0), .c (.int .i64 0), .c (.bool false), .c (.bool false), .c (.bool false), .c (.bool false)] [(0, 1, (.k (.c (.int .i64 12)))), (6, 1, (.k (.c (.int .i64 (-4)))))], some (29, true), true, []⟩,
 ⟨some 32, .eqS false [.one true, .one true, .one true, .one true, .one true, .one true, .one true, .one true, .one true, .one true, .one true, .one true, .one false, .one false, .one false, .one false] (.t 30) (.t 31), some (29, true), true, []⟩,
 ⟨some 33, .pick 29 (.t 32) (.k (.c (.bool false))), none, true, []⟩,
 ⟨some 34, .mv (.t 33), none, true, []⟩,
 ⟨some 35, .mv (.t 4), some (34, true), true, []⟩,
 ⟨some 36, .bin .eql (.t 35) (.k (.c (.int .u32 3596551104))), some (34, true), true, []⟩,
 ⟨some 37, .pick 34 (.t 36) (.k (.c (.bool false))), none, true, []⟩,
 ⟨some 38, .mv (.t 37), none, true, []⟩,
 ⟨some 39, .mv (.t 5), some (38, true), true, []⟩,
 ⟨some 40, .bin .eql (.t 39) (.k (.c (.int .i64 0))), some (38, true), true, []⟩,
 ⟨some 41, .pick 38 (.t 40) (.k (.c (.bool false))), none, true, []⟩,
 ⟨some 42, .mv (.t 41), none, true, []⟩,
 ⟨some 43, .mv (.t 7), some (42, true), true, []⟩,
 ⟨some 44, .bin .eql (.t 43) (.k (.c (.int .i64 3))), some (42, true), true, []⟩,
 ⟨some 45, .pick 42 (.t 44) (.k (.c (.bool false))), none, true, []⟩,
 ⟨some 0, .mv (.t 45), none, true, []⟩]
def C7 : ACode :=
 .seq (.region C7r0)
 (.seq (.region C7r1)
 (.seq (.region C7r2)
 (.seq (.region C7r3)
 (.seq (.region C7r4)
 (.seq (.region C7r5)
 (.seq (.region C7r6)
 (.ret)))))))
theorem C7_ok : stripF Tryz.prog Tryz.f7 = some C7 := by kernel_rfl
def C8r0 : List AOper := [⟨some 1, .box 23 (.t 0), none, true, []⟩,
 ⟨some 2, .mv (.k (.c (.int .u32 0))), none, true, []⟩,
 ⟨some 3, .mv (.k (.c (.int .i64 0))), none, true, []⟩]
def C8r1 : List AOper := [⟨some 6, .ldn 16 (.t 1), none, true, []⟩,
 ⟨some 7, .call (.k (.c (.fn 11 [] []))) [(.t 6)], none, true, []⟩,
 ⟨some 8, .un .not (.t 7), none, true, []⟩]
def C8r2 : List AOper := [⟨some 2, .mv (.k (.c (.int .u32 0))), none, true, []⟩,
 ⟨some 3, .mv (.k (.c (.int .i64 3))), none, true, []⟩]
def C8r3 : List AOper := [⟨some 9, .call (.k (.c (.fn 12 [] []))) [], none, true, []⟩,
 ⟨some 10, .len false (.t 9), none, true, []⟩,
 ⟨some 11, .mv (.k (.c (.int .i64 0))), none, true, []⟩]
def C8r4 : List AOper := [⟨some 12, .bin .lss (.t 11) (.t 10), none, true, []⟩]
def C8r5 : List AOper := [⟨some 13, .iaddr 6 (.t 9) (.t 11), none, true, []⟩,
 ⟨some 14, .ldn 6 (.t 13), none, true, []⟩,
 ⟨some 5, .alloc 42 [.c (.int .i64 0), .c (.int .i64 0), .c (.int .u32 0), .c (.int .u32 0), .c (.nilfn), .c (.nilfn)], none, true, []⟩,
 ⟨none, .stn 6 (.t 5) (.t 14), none, true, []⟩]
def C8r6 : List AOper := [⟨some 15, .faddr (.t 5) 0, none, true, []⟩,
 ⟨some 16, .ld1 (.t 15), none, true, []⟩,
 ⟨some 17, .faddr (.t 1) 0, none, true, []⟩,
 ⟨some 18, .ld1 (.t 17), none, true, []⟩,
 ⟨some 19, .bin .eql (.t 16) (.t 18), none, true, []⟩,
 ⟨some 20, .mv (.t 19), none, true, []⟩,
 ⟨some 21, .faddr (.t 5) 1, some (20, true), true, []⟩,
 ⟨some 22, .ld1 (.t 21), some (20, true), true, []⟩,
 ⟨some 23, .bin .lss (.t 22) (.k (.c (.int .i64 0))), some (20, true), true, []⟩,
 ⟨some 24, .mv (.t 23), some (20, true), true, []⟩,
 ⟨some 25, .faddr (.t 5) 1, some (24, false), true, []⟩,
 ⟨some 26, .ld1 (.t 25), some (24, false), true, []⟩,
 ⟨some 27, .faddr (.t 1) 1, some (24, false), true, []⟩,
 ⟨some 28, .ld1 (.t 27), some (24, false), true, []⟩,
 ⟨some 29, .bin .eql (.t 26) (.t 28), some (24, false), true, []⟩,
 ⟨some 30, .pick 24 (.k (.c (.bool true))) (.t 29), some (20, true), true, []⟩,
 ⟨some 31, .pick 20 (.t 30) (.k (.c (.bool false))), none, true, []⟩]
def C8r7 : List AOper := [⟨some 32, .faddr (.t 5) 4, none, true, []⟩,
 ⟨some 33, .ld1 (.t 32), none, true, []⟩,
 ⟨some 34, .faddr (.t 5) 3, none, true, []⟩,
 ⟨some 35, .ld1 (.t 34), none, true, []⟩,
 ⟨some 36, .ldn 16 (.t 1), none, true, []⟩,
 ⟨some 37, .call (.t 33) [(.t 35), (.t 36)], none, true, []⟩,
 ⟨some 2, .mv (.t 37), none, true, []⟩,
 ⟨some 3, .mv (.k (.c (.int .i64 0))), none, true, []⟩]
def C8r8 : List AOper := [⟨some 38, .bin .add (.t 11) (.k (.c (.int .i64 1))), none, true, []⟩,
 ⟨some 11, .mv (.t 38), none, true, []⟩]
def C8r9 : List AOper := [⟨some 2, .mv (.k (.c (.int .u32 0))), none, true, []⟩,
 ⟨some 3, .mv (.k (.c (.int .i64 3))), none, true, []⟩]
def C8 : ACode :=
 .seq (.region C8r0)
 (.seq (.seq (.region C8r1)
 (.cond (.t 8)
 (.seq (.region C8r2)
 (.ret))
 (.skip)))
 (.seq (.seq (.region C8r3)
 (.block 0
 (.loop
 (.seq (.region C8r4)
 (.seq (.cond (.t 12)
 (.skip)
 (.exit 0))
 (.seq (.block 1
 (.seq (.region C8r5)
 (.seq (.region C8r6)
 (.cond (.t 31)
 (.seq (.region C8r7)
 (.ret))
 (.skip)))))
 (.region C8r8)))))))
 (.seq (.region C8r9)
 (.ret))))
theorem C8_ok : stripF Tryz.prog Tryz.f8 = some C8 := by kernel_rfl
def C10r0 : List AOper := [⟨some 2, .alloc 23 [.c (.int .i64 0), .c (.int .i64 0), .c (.int .i64 0), .c (.int .i64 0), .c (.int .i64 0), .c (.int .i64 0), .c (.int .i64 0), .c (.int .i64 0), .c (.int .i64 0), .c (.int .i64 0), .c (.int .i64 0), .c (.int .i64 0), .c (.bool false), .c (.bool false), .c (.bool false), .c (.bool false)], none, true, []⟩]
def C10r1 : List AOper := [⟨some 6, .call (.k (.c (.fn 12 [] []))) [], none, true, []⟩,
 ⟨some 7, .len false (.t 6), none, true, []⟩,
 ⟨some 8, .mv (.k (.c (.int .i64 0))), none, true, []⟩]
def C10r2 : List AOper := [⟨some 9, .bin .lss (.t 8) (.t 7), none, true, []⟩]
def C10r3 : List AOper := [⟨some 10, .iaddr 6 (.t 6) (.t 8), none, true, []⟩,
 ⟨some 11, .ldn 6 (.t 10), none, true, []⟩,
 ⟨some 4, .alloc 42 [.c (.int .i64 0), .c (.int .i64 0), .c (.int .u32 0), .c (.int .u32 0), .c (.nilfn), .c (.nilfn)], none, true, []⟩,
 ⟨none, .stn 6 (.t 4) (.t 11), none, true, []⟩]
def C10r4 : List AOper := [⟨some 12, .mv (.t 0), none, true, []⟩,
 ⟨some 13, .faddr (.t 4) 2, none, true, []⟩,
 ⟨some 14, .ld1 (.t 13), none, true, []⟩,
 ⟨some 15, .bin .and (.t 12) (.t 14), none, true, []⟩,
 ⟨some 16, .faddr (.t 4) 3, none, true, []⟩,
 ⟨some 17, .ld1 (.t 16), none, true, []⟩,
 ⟨some 18, .bin .neq (.t 15) (.t 17), none, true, []⟩]
def C10r5 : List AOper := [⟨some 19, .faddr (.t 4) 5, none, true, []⟩,
 ⟨some 20, .ld1 (.t 19), none, true, []⟩,
 ⟨some 21, .mv (.t 0), none, true, []⟩,
 ⟨some 22, .call (.t 20) [(.t 21)], none, true, []⟩,
 ⟨some 5, .alloc 23 [.c (.int .i64 0), .c (.int .i64 0), .c (.int .i64 0), .c (.int .i64 0), .c (.int .i64 0), .c (.int .i64 0), .c (.int .i64 0), .c (.int .i64 0), .c (.int .i64 0), .c (.int .i64 0), .c (.int .i64 0), .c (.int .i64 0), .c (.bool false), .c (.bool false), .c (.bool false), .c (.bool false)], none, true, []⟩,
 ⟨none, .stn 16 (.t 5) (.t 22), none, true, []⟩]
def C10r6 : List AOper := [⟨some 23, .ldn 16 (.t 5), none, true, []⟩,
 ⟨some 24, .call (.k (.c (.fn 11 [] []))) [(.t 23)], none, true, []⟩]
def C10r7 : List AOper := [⟨some 25, .ldn 16 (.t 5), none, true, []⟩,
 ⟨none, .stn 16 (.t 2) (.t 25), none, true, []⟩]
def C10r8 : List AOper := [⟨some 26, .bin .add (.t 8) (.k (.c (.int .i64 1))), none, true, []⟩,
 ⟨some 8, .mv (.t 26), none, true, []⟩]
def C10r9 : List AOper := [⟨some 27, .build [.c (.int .i64 0), .c (.int .i64 0), .c (.int .i64 0), .c (.int .i64 0), .c (.int .i64 0), .c (.int .i64 0), .c (.int .i64 0), .c (.int .i64 0), .c (.int .i64 0), .c (.int .i64 0), .c (.int .i64 0), .c (.int .i64 0), .c (.bool false), .c (.bool false), .c (.bool false), .c (.bool false)] [], none, true, []⟩,
 ⟨none, .stn 16 (.t 2) (.t 27), none, true, []⟩]
def C10 : ACode :=
 .seq (.region C10r0)
 (.seq (.seq (.region C10r1)
 (.block 0
 (.loop
 (.seq (.region C10r2)
 (.seq (.cond (.t 9)
 (.skip)
 (.exit 0))
 (.seq (.block 1
 (.seq (.region C10r3)
 (.seq (.seq (.region C10r4)
 (.cond (.t 18)
 (.exit 1)
 (.skip)))
 (.seq (.region C10r5)
 (.seq (.region C10r6)
 (.cond (.t 24)
 (.seq (.region C10r7)
 (.ret))
 (.skip)))))))
 (.region C10r8)))))))
 (.seq (.region C10r9)
 (.ret)))
theorem C10_ok : stripF Tryz.prog Tryz.f10 = some C10 := by kernel_rfl
def C11r0 : List AOper := [⟨some 1, .box 23 (.t 0), none, true, []⟩,
 ⟨some 2, .mv (.k (.c (.bool false))), none, true, []⟩]
def C11r1 : List AOper := [⟨some 8, .faddr (.t 1) 0, none, true, []⟩,
 ⟨some 9, .ld1 (.t 8), none, true, []⟩,
 ⟨some 10, .call (.k (.c (.fn 17 [] []))) [(.t 9)], none, true, []⟩,
 ⟨some 7, .mv (.t 10), none, true, []⟩,
 ⟨some 11, .ext (.t 7) 0, none, true, []⟩,
 ⟨some 12, .ext (.t 7) 1, none, true, []⟩,
 ⟨some 3, .alloc 48 [.c (.str ⟨#[]⟩), .c (.nilfn)], none, true, []⟩,
 ⟨none, .stn 2 (.t 3) (.t 11), none, true, []⟩,
 ⟨some 4, .mv (.t 12), none, true, []⟩]
def C11r2 : List AOper := [⟨some 13, .mv (.t 4), none, true, []⟩,
 ⟨some 14, .un .not (.t 13), none, true, []⟩,
 ⟨some 15, .mv (.t 14), none, true, []⟩,
 ⟨some 16, .ldn 16 (.t 1), some (15, false), false, []⟩,
 ⟨some 17, .faddr (.t 3) 0, some (15, false), false, []⟩,
 ⟨some 18, .ld1 (.t 17), some (15, false), false, []⟩,
 ⟨some 19, .call (.k (.c (.fn 18 [] []))) [(.t 16), (.t 18)], some (15, false), false, []⟩,
 ⟨some 20, .ldn 16 (.t 1), some (15, false), false, []⟩,
 ⟨some 21, .eqS true [.one true, .one true, .one true, .one true, .one true, .one true, .one true, .one true, .one true, .one true, .one true, .one true, .one false, .one false, .one false, .one false] (.t 19) (.t 20), some (15, false), true, []⟩,
 ⟨some 22, .pick 15 (.k (.c (.bool true))) (.t 21), none, true, []⟩]
def C11r3 : List AOper := [⟨some 2, .mv (.k (.c (.bool false))), none, true, []⟩]
def C11r4 : List AOper := [⟨some 23, .faddr (.t 1) 2, none, true, []⟩,
 ⟨some 24, .ld1 (.t 23), none, true, []⟩,
 ⟨some 25, .faddr (.t 1) 3, none, true, []⟩,
 ⟨some 26, .ld1 (.t 25), none, true, []⟩,
 ⟨some 27, .faddr (.t 1) 4, none, true, []⟩,
 ⟨some 28, .ld1 (.t 27), none, true, []⟩,
 ⟨some 29, .faddr (.t 1) 5, none, true, []⟩,
 ⟨some 30, .ld1 (.t 29), none, true, []⟩,
 ⟨some 31, .bslice 3 1 [.c (.int .i64 0)] 4 [(0, 1, (.t 24)), (1, 1, (.t 26)), (2, 1, (.t 28)), (3, 1, (.t 30))], none, true, []⟩,
 ⟨some 32, .len false (.t 31), none, true, []⟩,
 ⟨some 33, .mv (.k (.c (.int .i64 0))), none, true, []⟩]
def C11r5 : List AOper := [⟨some 34, .bin .lss (.t 33) (.t 32), none, true, []⟩]
def C11r6 : List AOper := [⟨some 35, .iaddr 1 (.t 31) (.t 33), none, true, []⟩,
 ⟨some 36, .ld1 (.t 35), none, true, []⟩,
 ⟨some 6, .mv (.t 36), none, true, []⟩]
def C11r7 : List AOper := [⟨some 37, .mv (.t 6), none, true, []⟩,
 ⟨some 38, .bin .lss (.t 37) (.k (.c (.int .i64 0))), none, true, []⟩,
 ⟨some 39, .mv (.t 38), none, true, []⟩,
 ⟨some 40, .mv (.t 6), some (39, false), true, []⟩,
 ⟨some 41, .bin .gtr (.t 40) (.k (.c (.int .i64 31))), some (39, false), true, []⟩,
 ⟨some 42, .pick 39 (.k (.c (.bool true))) (.t 41), none, true, []⟩]
def C11r8 : List AOper := [⟨some 2, .mv (.k (.c (.bool false))), none, true, []⟩]
def C11r9 : List AOper := [⟨some 43, .bin .add (.t 33) (.k (.c (.int .i64 1))), none, true, []⟩,
 ⟨some 33, .mv (.t 43), none, true, []⟩]
def C11r10 : List AOper := [⟨some 44, .faddr (.t 3) 1, none, true, []⟩,
 ⟨some 45, .ld1 (.t 44), none, true, []⟩,
 ⟨some 46, .ldn 16 (.t 1), none, true, []⟩,
 ⟨some 47, .call (.t 45) [(.t 46)], none, true, []⟩,
 ⟨some 2, .mv (.t 47), none, true, []⟩]
def C11 : ACode :=
 .seq (.region C11r0)
 (.seq (.region C11r1)
 (.seq (.seq (.region C11r2)
 (.cond (.t 22)
 (.seq (.region C11r3)
 (.ret))
 (.skip)))
 (.seq (.seq (.region C11r4)
 (.block 0
 (.loop
 (.seq (.region C11r5)
 (.seq (.cond (.t 34)
 (.skip)
 (.exit 0))
 (.seq (.block 1
 (.seq (.region C11r6)
 (.seq (.region C11r7)
 (.cond (.t 42)
 (.seq (.region C11r8)
 (.ret))
 (.skip)))))
 (.region C11r9)))))))
 (.seq (.region C11r10)
 (.ret)))))
theorem C11_ok : stripF Tryz.prog Tryz.f11 = some C11 := by kernel_rfl
def C12r0 : List AOper := [⟨some 0, .mv (.k (.c (.nils))), none, true, []⟩]
def C12r1 : List AOper := [⟨some 1, .build [.c (.int .i64 0), .c (.int .i64 0), .c (.int .u32 0), .c (.int .u32 0), .c (.nilfn), .c (.nilfn)] [(0, 1, (.k (.c (.int .i64 1)))), (1, 1, (.k (.c (.int .i64 (-1))))), (2, 1, (.k (.c (.int .u32 2675965952)))), (3, 1, (.k (.c (.int .u32 2432696320)))), (4, 1, (.k (.c (.fn 19 [] [])))), (5, 1, (.k (.c (.fn 20 [] []))))], none, true, []⟩,
 ⟨some 2, .build [.c (.int .i64 0), .c (.int .i64 0), .c (.int .u32 0), .c (.int .u32 0), .c (.nilfn), .c (.nilfn)] [(0, 1, (.k (.c (.int .i64 2)))), (1, 1, (.k (.c (.int .i64 (-1))))), (2, 1, (.k (.c (.int .u32 2669674496)))), (3, 1, (.k (.c (.int .u32 2332033024)))), (4, 1, (.k (.c (.fn 21 [] [])))), (5, 1, (.k (.c (.fn 22 [] []))))], none, true, []⟩,
 ⟨some 3, .build [.c (.int .i64 0), .c (.int .i64 0), .c (.int .u32 0), .c (.int .u32 0), .c (.nilfn), .c (.nilfn)] [(0, 1, (.k (.c (.int .i64 3)))), (1, 1, (.k (.c (.int .i64 (-1))))), (2, 1, (.k (.c (.int .u32 2667577344)))), (3, 1, (.k (.c (.int .u32 2315255808)))), (4, 1, (.k (.c (.fn 23 [] [])))), (5, 1, (.k (.c (.fn 24 [] []))))], none, true, []⟩,
 ⟨some 4, .build [.c (.int .i64 0), .c (.int .i64 0), .c (.int .u32 0), .c (.int .u32 0), .c (.nilfn), .c (.nilfn)] [(0, 1, (.k (.c (.int .i64 4)))), (1, 1, (.k (.c (.int .i64 (-1))))), (2, 1, (.k (.c (.int .u32 2675965952)))), (3, 1, (.k (.c (.int .u32 2449473536)))), (4, 1, (.k (.c (.fn 25 [] [])))), (5, 1, (.k (.c (.fn 26 [] []))))], none, true, []⟩,
 ⟨some 5, .build [.c (.int .i64 0), .c (.int .i64 0), .c (.int .u32 0), .c (.int .u32 0), .c (.nilfn), .c (.nilfn)] [(0, 1, (.k (.c (.int .i64 5)))), (1, 1, (.k (.c (.int .i64 (-1))))), (2, 1, (.k (.c (.int .u32 2675965952)))), (3, 1, (.k (.c (.int .u32 2457862144)))), (4, 1, (.k (.c (.fn 27 [] [])))), (5, 1, (.k (.c (.fn 28 [] []))))], none, true, []⟩,
 ⟨some 6, .build [.c (.int .i64 0), .c (.int .i64 0), .c (.int .u32 0), .c (.int .u32 0), .c (.nilfn), .c (.nilfn)] [(0, 1, (.k (.c (.int .i64 6)))), (1, 1, (.k (.c (.int .i64 (-1))))), (2, 1, (.k (.c (.int .u32 2680160256)))), (3, 1, (.k (.c (.int .u32 2470445056)))), (4, 1, (.k (.c (.fn 29 [] [])))), (5, 1, (.k (.c (.fn 30 [] []))))], none, true, []⟩,
 ⟨some 7, .build [.c (.int .i64 0), .c (.int .i64 0), .c (.int .u32 0), .c (.int .u32 0), .c (.nilfn), .c (.nilfn)] [(0, 1, (.k (.c (.int .i64 7)))), (1, 1, (.k (.c (.int .i64 (-1))))), (2, 1, (.k (.c (.int .u32 4292931584)))), (3, 1, (.k (.c (.int .u32 2596282368)))), (4, 1, (.k (.c (.fn 31 [] [])))), (5, 1, (.k (.c (.fn 32 [] []))))], none, true, []⟩,
 ⟨some 8, .build [.c (.int .i64 0), .c (.int .i64 0), .c (.int .u32 0), .c (.int .u32 0), .c (.nilfn), .c (.nilfn)] [(0, 1, (.k (.c (.int .i64 8)))), (1, 1, (.k (.c (.int .i64 (-1))))), (2, 1, (.k (.c (.int .u32 4292870144)))), (3, 1, (.k (.c (.int .u32 2600468480)))), (4, 1, (.k (.c (.fn 33 [] [])))), (5, 1, (.k (.c (.fn 34 [] []))))], none, true, []⟩,
 ⟨some 9, .build [.c (.int .i64 0), .c (.int .i64 0), .c (.int .u32 0), .c (.int .u32 0), .c (.nilfn), .c (.nilfn)] [(0, 1, (.k (.c (.int .i64 9)))), (1, 1, (.k (.c (.int .i64 (-1))))), (2, 1, (.k (.c (.int .u32 4292933632)))), (3, 1, (.k (.c (.int .u32 2596276224)))), (4, 1, (.k (.c (.fn 31 [] [])))), (5, 1, (.k (.c (.fn 35 [] []))))], none, true, []⟩,
 ⟨some 10, .build [.c (.int .i64 0), .c (.int .i64 0), .c (.int .u32 0), .c (.int .u32 0), .c (.nilfn), .c (.nilfn)] [(0, 1, (.k (.c (.int .i64 10)))), (1, 1, (.k (.c (.int .i64 (-1))))), (2, 1, (.k (.c (.int .u32 3219130368)))), (3, 1, (.k (.c (.int .u32 2592079872)))), (4, 1, (.k (.c (.fn 36 [] [])))), (5, 1, (.k (.c (.fn 37 [] []))))], none, true, []⟩,
 ⟨some 11, .build [.c (.int .i64 0), .c (.int .i64 0), .c (.int .u32 0), .c (.int .u32 0), .c (.nilfn), .c (.nilfn)] [(0, 1, (.k (.c (.int .i64 11)))), (1, 1, (.k (.c (.int .i64 (-1))))), (2, 1, (.k (.c (.int .u32 520093696)))), (3, 1, (.k (.c (.int .u32 268435456)))), (4, 1, (.k (.c (.fn 38 [] [])))), (5, 1, (.k (.c (.fn 39 [] []))))], none, true, []⟩,
 ⟨some 12, .build [.c (.int .i64 0), .c (.int .i64 0), .c (.int .u32 0), .c (.int .u32 0), .c (.nilfn), .c (.nilfn)] [(0, 1, (.k (.c (.int .i64 12)))), (1, 1, (.k (.c (.int .i64 (-1))))), (2, 1, (.k (.c (.int .u32 2080374784)))), (3, 1, (.k (.c (.int .u32 335544320)))), (4, 1, (.k (.c (.fn 40 [] [])))), (5, 1, (.k (.c (.fn 41 [] []))))], none, true, []⟩,
 ⟨some 13, .build [.c (.int .i64 0), .c (.int .i64 0), .c (.int .u32 0), .c (.int .u32 0), .c (.nilfn), .c (.nilfn)] [(0, 1, (.k (.c (.int .i64 13)))), (1, 1, (.k (.c (.int .i64 (-1))))), (2, 1, (.k (.c (.int .u32 4278190096)))), (3, 1, (.k (.c (.int .u32 1409286144)))), (4, 1, (.k (.c (.fn 42 [] [])))), (5, 1, (.k (.c (.fn 43 [] []))))], none, true, []⟩,
 ⟨some 14, .build [.c (.int .i64 0), .c (.int .i64 0), .c (.int .u32 0), .c (.int .u32 0), .c (.nilfn), .c (.nilfn)] [(0, 1, (.k (.c (.int .i64 14)))), (1, 1, (.k (.c (.int .i64 (-1))))), (2, 1, (.k (.c (.int .u32 4261412864)))), (3, 1, (.k (.c (.int .u32 3019898880)))), (4, 1, (.k (.c (.fn 44 [] [])))), (5, 1, (.k (.c (.fn 45 [] []))))], none, true, []⟩,
 ⟨some 15, .build [.c (.int .i64 0), .c (.int .i64 0), .c (.int .u32 0), .c (.int .u32 0), .c (.nilfn), .c (.nilfn)] [(0, 1, (.k (.c (.int .i64 15)))), (1, 1, (.k (.c (.int .i64 (-1))))), (2, 1, (.k (.c (.int .u32 2113929216)))), (3, 1, (.k (.c (.int .u32 905969664)))), (4, 1, (.k (.c (.fn 46 [] [])))), (5, 1, (.k (.c (.fn 47 [] []))))], none, true, []⟩,
 ⟨some 16, .build [.c (.int .i64 0), .c (.int .i64 0), .c (.int .u32 0), .c (.int .u32 0), .c (.nilfn), .c (.nilfn)] [(0, 1, (.k (.c (.int .i64 16)))), (1, 1, (.k (.c (.int .i64 (-1))))), (2, 1, (.k (.c (.int .u32 4288674847)))), (3, 1, (.k (.c (.int .u32 3592355840)))), (4, 1, (.k (.c (.fn 48 [] [])))), (5, 1, (.k (.c (.fn 49 [] []))))], none, true, []⟩,
 ⟨some 17, .call (.k (.c (.fn 51 [] []))) [(.k (.c (.int .i64 17)))], none, true, []⟩,
 ⟨some 18, .build [.c (.int .i64 0), .c (.int .i64 0), .c (.int .u32 0), .c (.int .u32 0), .c (.nilfn), .c (.nilfn)] [(0, 1, (.k (.c (.int .i64 17)))), (1, 1, (.k (.c (.int .i64 (-1))))), (2, 1, (.k (.c (.int .u32 4290772992)))), (3, 1, (.k (.c (.int .u32 4181721088)))), (4, 1, (.k (.c (.fn 50 [] [])))), (5, 1, (.t 17))], none, true, []⟩,
 ⟨some 19, .call (.k (.c (.fn 51 [] []))) [(.k (.c (.int .i64 18)))], none, true, []⟩,
 ⟨some 20, .build [.c (.int .i64 0), .c (.int .i64 0), .c (.int .u32 0), .c (.int .u32 0), .c (.nilfn), .c (.nilfn)] [(0, 1, (.k (.c (.int .i64 18)))), (1, 1, (.k (.c (.int .i64 (-1))))), (2, 1, (.k (.c (.int .u32 4290772992)))), (3, 1, (.k (.c (.int .u32 4177526784)))), (4, 1, (.k (.c (.fn 50 [] [])))), (5, 1, (.t 19))], none, true, []⟩,
 ⟨some 21, .call (.k (.c (.fn 53 [] []))) [(.k (.c (.int .i64 19)))], none, true, []⟩,
 ⟨some 22, .build [.c (.int .i64 0), .c (.int .i64 0), .c (.int .u32 0), .c (.int .u32 0), .c (.nilfn), .c (.nilfn)] [(0, 1, (.k (.c (.int .i64 19)))), (1, 1, (.k (.c (.int .i64 (-1))))), (2, 1, (.k (.c (.int .u32 4292930560)))), (3, 1, (.k (.c (.int .u32 4167067648)))), (4, 1, (.k (.c (.fn 52 [] [])))), (5, 1, (.t 21))], none, true, []⟩,
 ⟨some 23, .call (.k (.c (.fn 53 [] []))) [(.k (.c (.int .i64 20)))], none, true, []⟩,
 ⟨some 24, .build [.c (.int .i64 0), .c (.int .i64 0), .c (.int .u32 0), .c (.int .u32 0), .c (.nilfn), .c (.nilfn)] [(0, 1, (.k (.c (.int .i64 20)))), (1, 1, (.k (.c (.int .i64 (-1))))), (2, 1, (.k (.c (.int .u32 4292930560)))), (3, 1, (.k (.c (.int .u32 4162873344)))), (4, 1, (.k (.c (.fn 52 [] [])))), (5, 1, (.t 23))], none, true, []⟩,
 ⟨some 25, .call (.k (.c (.fn 55 [] []))) [(.k (.c (.int .i64 21))), (.k (.c (.int .i64 0)))], none, true, []⟩,
 ⟨some 26, .build [.c (.int .i64 0), .c (.int .i64 0), .c (.int .u32 0), .c (.int .u32 0), .c (.nilfn), .c (.nilfn)] [(0, 1, (.k (.c (.int .i64 21)))), (1, 1, (.k (.c (.int .i64 0)))), (2, 1, (.k (.c (.int .u32 4294966272)))), (3, 1, (.k (.c (.int .u32 3370122240)))), (4, 1, (.k (.c (.fn 54 [] [])))), (5, 1, (.t 25))], none, true, []⟩,
 ⟨some 27, .call (.k (.c (.fn 55 [] []))) [(.k (.c (.int .i64 21))), (.k (.c (.int .i64 1)))], none, true, []⟩,
 ⟨some 28, .build [.c (.int .i64 0), .c (.int .i64 0), .c (.int .u32 0), .c (.int .u32 0), .c (.nilfn), .c (.nilfn)] [(0, 1, (.k (.c (.int .i64 21)))), (1, 1, (.k (.c (.int .i64 1)))), (2, 1, (.k (.c (.int .u32 4294966272)))), (3, 1, (.k (.c (.int .u32 4173316096)))), (4, 1, (.k (.c (.fn 54 [] [])))), (5, 1, (.t 27))], none, true, []⟩,
 ⟨some 29, .call (.k (.c (.fn 55 [] []))) [(.k (.c (.int .i64 22))), (.k (.c (.int .i64 0)))], none, true, []⟩,
 ⟨some 30, .build [.c (.int .i64 0), .c (.int .i64 0), .c (.int .u32 0), .c (.int .u32 0), .c (.nilfn), .c (.nilfn)] [(0, 1, (.k (.c (.int .i64 22)))), (1, 1, (.k (.c (.int .i64 (-1))))), (2, 1, (.k (.c (.int .u32 4294966272)))), (3, 1, (.k (.c (.int .u32 3365927936)))), (4, 1, (.k (.c (.fn 54 [] [])))), (5, 1, (.t 29))], none, true, []⟩,
 ⟨some 31, .call (.k (.c (.fn 57 [] []))) [(.k (.c (.int .i64 23)))], none, true, []⟩,
 ⟨some 32, .build [.c (.int .i64 0), .c (.int .i64 0), .c (.int .u32 0), .c (.int .u32 0), .c (.nilfn), .c (.nilfn)] [(0, 1, (.k (.c (.int .i64 23)))), (1, 1, (.k (.c (.int .i64 (-1))))), (2, 1, (.k (.c (.int .u32 4294933504)))), (3, 1, (.k (.c (.int .u32 3361700864)))), (4, 1, (.k (.c (.fn 56 [] [])))), (5, 1, (.t 31))], none, true, []⟩,
 ⟨some 33, .call (.k (.c (.fn 57 [] []))) [(.k (.c (.int .i64 24)))], none, true, []⟩,
 ⟨some 34, .build [.c (.int .i64 0), .c (.int .i64 0), .c (.int .u32 0), .c (.int .u32 0), .c (.nilfn), .c (.nilfn)] [(0, 1, (.k (.c (.int .i64 24)))), (1, 1, (.k (.c (.int .i64 (-1))))), (2, 1, (.k (.c (.int .u32 4292901888)))), (3, 1, (.k (.c (.int .u32 3355474944)))), (4, 1, (.k (.c (.fn 56 [] [])))), (5, 1, (.t 33))], none, true, []⟩,
 ⟨some 35, .call (.k (.c (.fn 58 [] []))) [(.k (.c (.int .i64 25)))], none, true, []⟩,
 ⟨some 36, .build [.c (.int .i64 0), .c (.int .i64 0), .c (.int .u32 0), .c (.int .u32 0), .c (.nilfn), .c (.nilfn)] [(0, 1, (.k (.c (.int .i64 25)))), (1, 1, (.k (.c (.int .i64 (-1))))), (2, 1, (.k (.c (.int .u32 4294967295)))), (3, 1, (.k (.c (.int .u32 3573759839)))), (4, 1, (.k (.c (.fn 54 [] [])))), (5, 1, (.t 35))], none, true, []⟩,
 ⟨some 37, .call (.k (.c (.fn 59 [] []))) [(.k (.c (.int .i64 8))), (.k (.c (.int .i64 2)))], none, true, []⟩,
 ⟨some 38, .call (.k (.c (.fn 60 [] []))) [(.k (.c (.int .i64 26))), (.k (.c (.int .i64 0))), (.k (.c (.int .i64 8))), (.k (.c (.int .i64 2)))], none, true, []⟩,
 ⟨some 39, .build [.c (.int .i64 0), .c (.int .i64 0), .c (.int .u32 0), .c (.int .u32 0), .c (.nilfn), .c (.nilfn)] [(0, 1, (.k (.c (.int .i64 26)))), (1, 1, (.k (.c (.int .i64 0)))), (2, 1, (.k (.c (.int .u32 4294966527)))), (3, 1, (.k (.c (.int .u32 3573759167)))), (4, 1, (.t 37)), (5, 1, (.t 38))], none, true, []⟩,
 ⟨some 40, .call (.k (.c (.fn 59 [] []))) [(.k (.c (.int .i64 8))), (.k (.c (.int .i64 2)))], none, true, []⟩,
 ⟨some 41, .call (.k (.c (.fn 60 [] []))) [(.k (.c (.int .i64 26))), (.k (.c (.int .i64 1))), (.k (.c (.int .i64 8))), (.k (.c (.int .i64 2)))], none, true, []⟩,
 ⟨some 42, .build [.c (.int .i64 0), .c (.int .i64 0), .c (.int .u32 0), .c (.int .u32 0), .c (.nilfn), .c (.nilfn)] [(0, 1, (.k (.c (.int .i64 26)))), (1, 1, (.k (.c (.int .i64 1)))), (2, 1, (.k (.c (.int .u32 4294966527)))), (3, 1, (.k (.c (.int .u32 3573759135)))), (4, 1, (.t 40)), (5, 1, (.t 41))], none, true, []⟩,
 ⟨some 43, .call (.k (.c (.fn 58 [] []))) [(.k (.c (.int .i64 27)))], none, true, []⟩,
 ⟨some 44, .build [.c (.int .i64 0), .c (.int .i64 0), .c (.int .u32 0), .c (.int .u32 0), .c (.nilfn), .c (.nilfn)] [(0, 1, (.k (.c (.int .i64 27)))), (1, 1, (.k (.c (.int .i64 (-1))))), (2, 1, (.k (.c (.int .u32 4294967295)))), (3, 1, (.k (.c (.int .u32 3573759967)))), (4, 1, (.k (.c (.fn 54 [] [])))), (5, 1, (.t 43))], none, true, []⟩,
 ⟨some 45, .call (.k (.c (.fn 61 [] []))) [(.k (.c (.int .i64 28)))], none, true, []⟩,
 ⟨some 46, .build [.c (.int .i64 0), .c (.int .i64 0), .c (.int .u32 0), .c (.int .u32 0), .c (.nilfn), .c (.nilfn)] [(0, 1, (.k (.c (.int .i64 28)))), (1, 1, (.k (.c (.int .i64 (-1))))), (2, 1, (.k (.c (.int .u32 4294967264)))), (3, 1, (.k (.c (.int .u32 3574297888)))), (4, 1, (.k (.c (.fn 54 [] [])))), (5, 1, (.t 45))], none, true, []⟩,
 ⟨some 47, .call (.k (.c (.fn 61 [] []))) [(.k (.c (.int .i64 30)))], none, true, []⟩,
 ⟨some 48, .build [.c (.int .i64 0), .c (.int .i64 0), .c (.int .u32 0), .c (.int .u32 0), .c (.nilfn), .c (.nilfn)] [(0, 1, (.k (.c (.int .i64 30)))), (1, 1, (.k (.c (.int .i64 (-1))))), (2, 1, (.k (.c (.int .u32 4294967264)))), (3, 1, (.k (.c (.int .u32 3574299424)))), (4, 1, (.k (.c (.fn 54 [] [])))), (5, 1, (.t 47))], none, true, []⟩,
 ⟨some 49, .call (.k (.c (.fn 58 [] []))) [(.k (.c (.int .i64 29)))], none, true, []⟩,
 ⟨some 50, .build [.c (.int .i64 0), .c (.int .i64 0), .c (.int .u32 0), .c (.int .u32 0), .c (.nilfn), .c (.nilfn)] [(0, 1, (.k (.c (.int .i64 29)))), (1, 1, (.k (.c (.int .i64 (-1))))), (2, 1, (.k (.c (.int .u32 4294967295)))), (3, 1, (.k (.c (.int .u32 3574101279)))), (4, 1, (.k (.c (.fn 54 [] [])))), (5, 1, (.t 49))], none, true, []⟩,
 ⟨some 51, .call (.k (.c (.fn 63 [] []))) [(.k (.c (.int .i64 31)))], none, true, []⟩,
 ⟨some 52, .build [.c (.int .i64 0), .c (.int .i64 0), .c (.int .u32 0), .c (.int .u32 0), .c (.nilfn), .c (.nilfn)] [(0, 1, (.k (.c (.int .i64 31)))), (1, 1, (.k (.c (.int .i64 (-1))))), (2, 1, (.k (.c (.int .u32 4293918720)))), (3, 1, (.k (.c (.int .u32 3576692736)))), (4, 1, (.k (.c (.fn 62 [] [])))), (5, 1, (.t 51))], none, true, []⟩,
 ⟨some 53, .call (.k (.c (.fn 63 [] []))) [(.k (.c (.int .i64 32)))], none, true, []⟩,
 ⟨some 54, .build [.c (.int .i64 0), .c (.int .i64 0), .c (.int .u32 0), .c (.int .u32 0), .c (.nilfn), .c (.nilfn)] [(0, 1, (.k (.c (.int .i64 32)))), (1, 1, (.k (.c (.int .i64 (-1))))), (2, 1, (.k (.c (.int .u32 4293918720)))), (3, 1, (.k (.c (.int .u32 3574595584)))), (4, 1, (.k (.c (.fn 62 [] [])))), (5, 1, (.t 53))], none, true, []⟩,
 ⟨some 55, .call (.k (.c (.fn 59 [] []))) [(.k (.c (.int .i64 8))), (.k (.c (.int .i64 4)))], none, true, []⟩,
 ⟨some 56, .call (.k (.c (.fn 60 [] []))) [(.k (.c (.int .i64 33))), (.k (.c (.int .i64 0))), (.k (.c (.int .i64 8))), (.k (.c (.int .i64 4)))], none, true, []⟩,
 ⟨some 57, .build [.c (.int .i64 0), .c (.int .i64 0), .c (.int .u32 0), .c (.int .u32 0), .c (.nilfn), .c (.nilfn)] [(0, 1, (.k (.c (.int .i64 33)))), (1, 1, (.k (.c (.int .i64 0)))), (2, 1, (.k (.c (.int .u32 4294963455)))), (3, 1, (.k (.c (.int .u32 3573760223)))), (4, 1, (.t 55)), (5, 1, (.t 56))], none, true, []⟩,
 ⟨some 58, .call (.k (.c (.fn 59 [] []))) [(.k (.c (.int .i64 8))), (.k (.c (.int .i64 4)))], none, true, []⟩,
 ⟨some 59, .call (.k (.c (.fn 60 [] []))) [(.k (.c (.int .i64 33))), (.k (.c (.int .i64 1))), (.k (.c (.int .i64 8))), (.k (.c (.int .i64 4)))], none, true, []⟩,
 ⟨some 60, .build [.c (.int .i64 0), .c (.int .i64 0), .c (.int .u32 0), .c (.int .u32 0), .c (.nilfn), .c (.nilfn)] [(0, 1, (.k (.c (.int .i64 33)))), (1, 1, (.k (.c (.int .i64 1)))), (2, 1, (.k (.c (.int .u32 4294963455)))), (3, 1, (.k (.c (.int .u32 3573760255)))), (4, 1, (.t 58)), (5, 1, (.t 59))], none, true, []⟩,
 ⟨some 61, .call (.k (.c (.fn 59 [] []))) [(.k (.c (.int .i64 5))), (.k (.c (.int .i64 16)))], none, true, []⟩,
 ⟨some 62, .call (.k (.c (.fn 60 [] []))) [(.k (.c (.int .i64 34))), (.k (.c (.int .i64 0))), (.k (.c (.int .i64 5))), (.k (.c (.int .i64 16)))], none, true, []⟩,
 ⟨some 63, .build [.c (.int .i64 0), .c (.int .i64 0), .c (.int .u32 0), .c (.int .u32 0), .c (.nilfn), .c (.nilfn)] [(0, 1, (.k (.c (.int .i64 34)))), (1, 1, (.k (.c (.int .i64 (-1))))), (2, 1, (.k (.c (.int .u32 4292870175)))), (3, 1, (.k (.c (.int .u32 3556769793)))), (4, 1, (.t 61)), (5, 1, (.t 62))], none, true, []⟩,
 ⟨some 64, .call (.k (.c (.fn 59 [] []))) [(.k (.c (.int .i64 5))), (.k (.c (.int .i64 16)))], none, true, []⟩,
 ⟨some 65, .call (.k (.c (.fn 60 [] []))) [(.k (.c (.int .i64 35))), (.k (.c (.int .i64 0))), (.k (.c (.int .i64 5))), (.k (.c (.int .i64 16)))], none, true, []⟩,
 ⟨some 66, .build [.c (.int .i64 0), .c (.int .i64 0), .c (.int .u32 0), .c (.int .u32 0), .c (.nilfn), .c (.nilfn)] [(0, 1, (.k (.c (.int .i64 35)))), (1, 1, (.k (.c (.int .i64 (-1))))), (2, 1, (.k (.c (.int .u32 4292870175)))), (3, 1, (.k (.c (.int .u32 3558866944)))), (4, 1, (.t 64)), (5, 1, (.t 65))], none, true, []⟩,
 ⟨some 67, .call (.k (.c (.fn 58 [] []))) [(.k (.c (.int .i64 36)))], none, true, []⟩,
 ⟨some 68, .build [.c (.int .i64 0), .c (.int .i64 0), .c (.int .u32 0), .c (.int .u32 0), .c (.nilfn), .c (.nilfn)] [(0, 1, (.k (.c (.int .i64 36)))), (1, 1, (.k (.c (.int .i64 (-1))))), (2, 1, (.k (.c (.int .u32 4294967295)))), (3, 1, (.k (.c (.int .u32 3600745440)))), (4, 1, (.k (.c (.fn 54 [] [])))), (5, 1, (.t 67))], none, true, []⟩,
 ⟨some 69, .call (.k (.c (.fn 59 [] []))) [(.k (.c (.int .i64 5))), (.k (.c (.int .i64 3)))], none, true, []⟩,
 ⟨some 70, .call (.k (.c (.fn 60 [] []))) [(.k (.c (.int .i64 37))), (.k (.c (.int .i64 0))), (.k (.c (.int .i64 5))), (.k (.c (.int .i64 3)))], none, true, []⟩,
 ⟨some 71, .build [.c (.int .i64 0), .c (.int .i64 0), .c (.int .u32 0), .c (.int .u32 0), .c (.nilfn), .c (.nilfn)] [(0, 1, (.k (.c (.int .i64 37)))), (1, 1, (.k (.c (.int .i64 (-1))))), (2, 1, (.k (.c (.int .u32 4294967071)))), (3, 1, (.k (.c (.int .u32 3573751839)))), (4, 1, (.t 69)), (5, 1, (.t 70))], none, true, []⟩,
 ⟨some 72, .bslice 42 6 [.c (.int .i64 0), .c (.int .i64 0), .c (.int .u32 0), .c (.int .u32 0), .c (.nilfn), .c (.nilfn)] 40 [(0, 6, (.t 1)), (6, 6, (.t 2)), (12, 6, (.t 3)), (18, 6, (.t 4)), (24, 6, (.t 5)), (30, 6, (.t 6)), (36, 6, (.t 7)), (42, 6, (.t 8)), (48, 6, (.t 9)), (54, 6, (.t 10)), (60, 6, (.t 11)), (66, 6, (.t 12)), (72, 6, (.t 13)), (78, 6, (.t 14)), (84, 6, (.t 15)), (90, 6, (.t 16)), (96, 6, (.t 18)), (102, 6, (.t 20)), (108, 6, (.t 22)), (114, 6, (.t 24)), (120, 6, (.t 26)), (126, 6, (.t 28)), (132, 6, (.t 30)), (138, 6, (.t 32)), (144, 6, (.t 34)), (150, 6, (.t 36)), (156, 6, (.t 39)), (162, 6, (.t 42)), (168, 6, (.t 44)), (174, 6, (.t 46)), (180, 6, (.t 48)), (186, 6, (.t 50)), (192, 6, (.t 52)), (198, 6, (.t 54)), (204, 6, (.t 57)), (210, 6, (.t 60)), (216, 6, (.t 63)), (222, 6, (.t 66)), (228, 6, (.t 68)), (234, 6, (.t 71))], none, true, []⟩,
 ⟨some 0, .mv (.t 72), none, true, []⟩]
def C12 : ACode :=
 .seq (.region C12r0)
 (.seq (.region C12r1)
 (.ret))
theorem C12_ok : stripF Tryz.prog Tryz.f12 = some C12 := by kernel_rfl
def C17r0 : List AOper := [⟨some 2, .alloc 48 [.c (.str ⟨#[]⟩), .c (.nilfn)], none, true, []⟩,
 ⟨some 3, .mv (.k (.c (.bool false))), none, true, []⟩]
def C17r1 : List AOper := [⟨some 4, .mv (.t 0), none, true, []⟩]
def C17r2 : List AOper := [⟨some 6, .bin .eql (.t 4) (.k (.c (.int .i64 1))), none, true, []⟩,
 ⟨some 5, .mv (.t 6), none, true, []⟩]
def C17r3 : List AOper := [⟨some 7, .build [.c (.str ⟨#[]⟩), .c (.nilfn)] [(0, 1, (.k (.c (.str ⟨#[100, 110, 105, 107, 70, 77]⟩)))), (1, 1, (.k (.c (.fn 69 [] []))))], none, true, []⟩,
 ⟨none, .stn 2 (.t 2) (.t 7), none, true, []⟩,
 ⟨some 3, .mv (.k (.c (.bool true))), none, true, []⟩]
def C17r4 : List AOper := [⟨some 9, .bin .eql (.t 4) (.k (.c (.int .i64 2))), none, true, []⟩,
 ⟨some 8, .mv (.t 9), none, true, []⟩]
def C17r5 : List AOper := [⟨some 10, .build [.c (.str ⟨#[]⟩), .c (.nilfn)] [(0, 1, (.k (.c (.str ⟨#[100, 110, 109, 116, 107, 70, 77]⟩)))), (1, 1, (.k (.c (.fn 71 [] []))))], none, true, []⟩,
 ⟨none, .stn 2 (.t 2) (.t 10), none, true, []⟩,
 ⟨some 3, .mv (.k (.c (.bool true))), none, true, []⟩]
def C17r6 : List AOper := [⟨some 12, .bin .eql (.t 4) (.k (.c (.int .i64 3))), none, true, []⟩,
 ⟨some 11, .mv (.t 12), none, true, []⟩]
def C17r7 : List AOper := [⟨some 13, .build [.c (.str ⟨#[]⟩), .c (.nilfn)] [(0, 1, (.k (.c (.str ⟨#[100, 110, 109, 115, 116, 107, 70, 78]⟩)))), (1, 1, (.k (.c (.fn 72 [] []))))], none, true, []⟩,
 ⟨none, .stn 2 (.t 2) (.t 13), none, true, []⟩,
 ⟨some 3, .mv (.k (.c (.bool true))), none, true, []⟩]
def C17r8 : List AOper := [⟨some 15, .bin .eql (.t 4) (.k (.c (.int .i64 4))), none, true, []⟩,
 ⟨some 14, .mv (.t 15), none, true, []⟩]
def C17r9 : List AOper := [⟨some 16, .build [.c (.str ⟨#[]⟩), .c (.nilfn)] [(0, 1, (.k (.c (.str ⟨#[100, 110, 115, 107, 105, 106, 70]⟩)))), (1, 1, (.k (.c (.fn 74 [] []))))], none, true, []⟩,
 ⟨none, .stn 2 (.t 2) (.t 16), none, true, []⟩,
 ⟨some 3, .mv (.k (.c (.bool true))), none, true, []⟩]
def C17r10 : List AOper := [⟨some 18, .bin .eql (.t 4) (.k (.c (.int .i64 5))), none, true, []⟩,
 ⟨some 17, .mv (.t 18), none, true, []⟩]
def C17r11 : List AOper := [⟨some 19, .build [.c (.str ⟨#[]⟩), .c (.nilfn)] [(0, 1, (.k (.c (.str ⟨#[100, 115, 105, 107]⟩)))), (1, 1, (.k (.c (.fn 76 [] []))))], none, true, []⟩,
 ⟨none, .stn 2 (.t 2) (.t 19), none, true, []⟩,
 ⟨some 3, .mv (.k (.c (.bool true))), none, true, []⟩]
def C17r12 : List AOper := [⟨some 21, .bin .eql (.t 4) (.k (.c (.int .i64 6))), none, true, []⟩,
 ⟨some 20, .mv (.t 21), none, true, []⟩]
def C17r13 : List AOper := [⟨some 22, .build [.c (.str ⟨#[]⟩), .c (.nilfn)] [(0, 1, (.k (.c (.str ⟨#[100, 110, 115, 105, 106]⟩)))), (1, 1, (.k (.c (.fn 77 [] []))))], none, true, []⟩,
 ⟨none, .stn 2 (.t 2) (.t 22), none, true, []⟩,
 ⟨some 3, .mv (.k (.c (.bool true))), none, true, []⟩]
def C17r14 : List AOper := [⟨some 24, .bin .eql (.t 4) (.k (.c (.int .i64 7))), none, true, []⟩,
 ⟨some 23, .mv (.t 24), none, true, []⟩]
def C17r15 : List AOper := [⟨some 25, .bslice 3 1 [.c (.int .i64 0)] 4 [(0, 1, (.k (.c (.int .i64 0)))), (1, 1, (.k (.c (.int .i64 1)))), (2, 1, (.k (.c (.int .i64 2)))), (3, 1, (.k (.c (.int .i64 3))))], none, true, []⟩,
 ⟨some 26, .call (.k (.c (.fn 78 [] []))) [(.t 25)], none, true, []⟩,
 ⟨some 27, .build [.c (.str ⟨#[]⟩), .c (.nilfn)] [(0, 1, (.k (.c (.str ⟨#[100, 110, 109, 115]⟩)))), (1, 1, (.t 26))], none, true, []⟩,
 ⟨none, .stn 2 (.t 2) (.t 27), none, true, []⟩,
 ⟨some 3, .mv (.k (.c (.bool true))), none, true, []⟩]
def C17r16 : List AOper := [⟨some 29, .bin .eql (.t 4) (.k (.c (.int .i64 8))), none, true, []⟩,
 ⟨some 28, .mv (.t 29), none, true, []⟩]
def C17r17 : List AOper := [⟨some 30, .build [.c (.str ⟨#[]⟩), .c (.nilfn)] [(0, 1, (.k (.c (.str ⟨#[100, 110, 109, 97, 77]⟩)))), (1, 1, (.k (.c (.fn 79 [] []))))], none, true, []⟩,
 ⟨none, .stn 2 (.t 2) (.t 30), none, true, []⟩,
 ⟨some 3, .mv (.k (.c (.bool true))), none, true, []⟩]
def C17r18 : List AOper := [⟨some 32, .bin .eql (.t 4) (.k (.c (.int .i64 9))), none, true, []⟩,
 ⟨some 31, .mv (.t 32), none, true, []⟩]
def C17r19 : List AOper := [⟨some 33, .bslice 3 1 [.c (.int .i64 0)] 2 [(0, 1, (.k (.c (.int .i64 0)))), (1, 1, (.k (.c (.int .i64 1))))], none, true, []⟩,
 ⟨some 34, .call (.k (.c (.fn 78 [] []))) [(.t 33)], none, true, []⟩,
 ⟨some 35, .build [.c (.str ⟨#[]⟩), .c (.nilfn)] [(0, 1, (.k (.c (.str ⟨#[100, 110, 109, 115]⟩)))), (1, 1, (.t 34))], none, true, []⟩,
 ⟨none, .stn 2 (.t 2) (.t 35), none, true, []⟩,
 ⟨some 3, .mv (.k (.c (.bool true))), none, true, []⟩]
def C17r20 : List AOper := [⟨some 37, .bin .eql (.t 4) (.k (.c (.int .i64 10))), none, true, []⟩,
 ⟨some 36, .mv (.t 37), none, true, []⟩]
def C17r21 : List AOper := [⟨some 38, .build [.c (.str ⟨#[]⟩), .c (.nilfn)] [(0, 1, (.k (.c (.str ⟨#[100, 110, 109, 115, 99]⟩)))), (1, 1, (.k (.c (.fn 80 [] []))))], none, true, []⟩,
 ⟨none, .stn 2 (.t 2) (.t 38), none, true, []⟩,
 ⟨some 3, .mv (.k (.c (.bool true))), none, true, []⟩]
def C17r22 : List AOper := [⟨some 40, .bin .eql (.t 4) (.k (.c (.int .i64 11))), none, true, []⟩,
 ⟨some 39, .mv (.t 40), none, true, []⟩]
def C17r23 : List AOper := [⟨some 41, .build [.c (.str ⟨#[]⟩), .c (.nilfn)] [(0, 1, (.k (.c (.str ⟨#[100, 115, 105]⟩)))), (1, 1, (.k (.c (.fn 81 [] []))))], none, true, []⟩,
 ⟨none, .stn 2 (.t 2) (.t 41), none, true, []⟩,
 ⟨some 3, .mv (.k (.c (.bool true))), none, true, []⟩]
def C17r24 : List AOper := [⟨some 43, .bin .eql (.t 4) (.k (.c (.int .i64 12))), none, true, []⟩,
 ⟨some 42, .mv (.t 43), none, true, []⟩]
def C17r25 : List AOper := [⟨some 44, .call (.k (.c (.fn 82 [] []))) [(.k (.c (.int .i64 27)))], none, true, []⟩,
 ⟨some 45, .build [.c (.str ⟨#[]⟩), .c (.nilfn)] [(0, 1, (.k (.c (.str ⟨#[105, 76]⟩)))), (1, 1, (.t 44))], none, true, []⟩,
 ⟨none, .stn 2 (.t 2) (.t 45), none, true, []⟩,
 ⟨some 3, .mv (.k (.c (.bool true))), none, true, []⟩]
def C17r26 : List AOper := [⟨some 47, .bin .eql (.t 4) (.k (.c (.int .i64 13))), none, true, []⟩,
 ⟨some 46, .mv (.t 47), none, true, []⟩]
def C17r27 : List AOper := [⟨some 48, .build [.c (.str ⟨#[]⟩), .c (.nilfn)] [(0, 1, (.k (.c (.str ⟨#[99, 105]⟩)))), (1, 1, (.k (.c (.fn 83 [] []))))], none, true, []⟩,
 ⟨none, .stn 2 (.t 2) (.t 48), none, true, []⟩,
 ⟨some 3, .mv (.k (.c (.bool true))), none, true, []⟩]
def C17r28 : List AOper := [⟨some 50, .bin .eql (.t 4) (.k (.c (.int .i64 14))), none, true, []⟩,
 ⟨some 49, .mv (.t 50), none, true, []⟩]
def C17r29 : List AOper := [⟨some 51, .call (.k (.c (.fn 82 [] []))) [(.k (.c (.int .i64 20)))], none, true, []⟩,
 ⟨some 52, .build [.c (.str ⟨#[]⟩), .c (.nilfn)] [(0, 1, (.k (.c (.str ⟨#[100, 105, 78]⟩)))), (1, 1, (.t 51))], none, true, []⟩,
 ⟨none, .stn 2 (.t 2) (.t 52), none, true, []⟩,
 ⟨some 3, .mv (.k (.c (.bool true))), none, true, []⟩]
def C17r30 : List AOper := [⟨some 54, .bin .eql (.t 4) (.k (.c (.int .i64 15))), none, true, []⟩,
 ⟨some 53, .mv (.t 54), none, true, []⟩]
def C17r31 : List AOper := [⟨some 55, .build [.c (.str ⟨#[]⟩), .c (.nilfn)] [(0, 1, (.k (.c (.str ⟨#[100, 105, 107, 78]⟩)))), (1, 1, (.k (.c (.fn 84 [] []))))], none, true, []⟩,
 ⟨none, .stn 2 (.t 2) (.t 55), none, true, []⟩,
 ⟨some 3, .mv (.k (.c (.bool true))), none, true, []⟩]
def C17r32 : List AOper := [⟨some 57, .bin .eql (.t 4) (.k (.c (.int .i64 16))), none, true, []⟩,
 ⟨some 56, .mv (.t 57), none, true, []⟩]
def C17r33 : List AOper := [⟨some 58, .bslice 3 1 [.c (.int .i64 0)] 3 [(0, 1, (.k (.c (.int .i64 0)))), (1, 1, (.k (.c (.int .i64 1)))), (2, 1, (.k (.c (.int .i64 2))))], none, true, []⟩,
 ⟨some 59, .call (.k (.c (.fn 78 [] []))) [(.t 58)], none, true, []⟩,
 ⟨some 60, .build [.c (.str ⟨#[]⟩), .c (.nilfn)] [(0, 1, (.k (.c (.str ⟨#[110, 115]⟩)))), (1, 1, (.t 59))], none, true, []⟩,
 ⟨none, .stn 2 (.t 2) (.t 60), none, true, []⟩,
 ⟨some 3, .mv (.k (.c (.bool true))), none, true, []⟩]
def C17r34 : List AOper := [⟨some 62, .bin .eql (.t 4) (.k (.c (.int .i64 17))), none, true, []⟩,
 ⟨some 61, .mv (.t 62), none, true, []⟩]
def C17r35 : List AOper := [⟨some 63, .bin .eql (.t 4) (.k (.c (.int .i64 18))), none, true, []⟩,
 ⟨some 61, .mv (.t 63), none, true, []⟩]
def C17r36 : List AOper := [⟨some 64, .build [.c (.str ⟨#[]⟩), .c (.nilfn)] [(0, 1, (.k (.c (.str ⟨#[100, 110, 105]⟩)))), (1, 1, (.k (.c (.fn 85 [] []))))], none, true, []⟩,
 ⟨none, .stn 2 (.t 2) (.t 64), none, true, []⟩,
 ⟨some 3, .mv (.k (.c (.bool true))), none, true, []⟩]
def C17r37 : List AOper := [⟨some 66, .bin .eql (.t 4) (.k (.c (.int .i64 19))), none, true, []⟩,
 ⟨some 65, .mv (.t 66), none, true, []⟩]
def C17r38 : List AOper := [⟨some 67, .bin .eql (.t 4) (.k (.c (.int .i64 20))), none, true, []⟩,
 ⟨some 65, .mv (.t 67), none, true, []⟩]
def C17r39 : List AOper := [⟨some 68, .build [.c (.str ⟨#[]⟩), .c (.nilfn)] [(0, 1, (.k (.c (.str ⟨#[100, 110, 109, 107]⟩)))), (1, 1, (.k (.c (.fn 86 [] []))))], none, true, []⟩,
 ⟨none, .stn 2 (.t 2) (.t 68), none, true, []⟩,
 ⟨some 3, .mv (.k (.c (.bool true))), none, true, []⟩]
def C17r40 : List AOper := [⟨some 69, .mv (.t 0), none, true, []⟩,
 ⟨some 70, .call (.k (.c (.fn 87 [] []))) [(.t 69)], none, true, []⟩,
 ⟨some 71, .ext (.t 70) 0, none, true, []⟩,
 ⟨some 72, .ext (.t 70) 1, none, true, []⟩,
 ⟨none, .stn 2 (.t 2) (.t 71), none, true, []⟩,
 ⟨some 3, .mv (.t 72), none, true, []⟩]
def C17 : ACode :=
 .seq (.region C17r0)
 (.seq (.seq (.region C17r1)
 (.block 0
 (.seq (.region C17r2)
 (.cond (.t 5)
 (.seq (.region C17r3)
 (.ret))
 (.seq (.region C17r4)
 (.cond (.t 8)
 (.seq (.region C17r5)
 (.ret))
 (.seq (.region C17r6)
 (.cond (.t 11)
 (.seq (.region C17r7)
 (.ret))
 (.seq (.region C17r8)
 (.cond (.t 14)
 (.seq (.region C17r9)
 (.ret))
 (.seq (.region C17r10)
 (.cond (.t 17)
 (.seq (.region C17r11)
 (.ret))
 (.seq (.region C17r12)
 (.cond (.t 20)
 (.seq (.region C17r13)
 (.ret))
 (.seq (.region C17r14)
 (.cond (.t 23)
 (.seq (.region C17r15)
 (.ret))
 (.seq (.region C17r16)
 (.cond (.t 28)
 (.seq (.region C17r17)
 (.ret))
 (.seq (.region C17r18)
 (.cond (.t 31)
 (.seq (.region C17r19)
 (.ret))
 (.seq (.region C17r20)
 (.cond (.t 36)
 (.seq (.region C17r21)
 (.ret))
 (.seq (.region C17r22)
 (.cond (.t 39)
 (.seq (.region C17r23)
 (.ret))
 (.seq (.region C17r24)
 (.cond (.t 42)
 (.seq (.region C17r25)
 (.ret))
 (.seq (.region C17r26)
 (.cond (.t 46)
 (.seq (.region C17r27)
 (.ret))
 (.seq (.region C17r28)
 (.cond (.t 49)
 (.seq (.region C17r29)
 (.ret))
 (.seq (.region C17r30)
 (.cond (.t 53)
 (.seq (.region C17r31)
 (.ret))
 (.seq (.region C17r32)
 (.cond (.t 56)
 (.seq (.region C17r33)
 (.ret))
 (.seq (.seq (.region C17r34)
 (.cond (.t 61)
 (.skip)
 (.region C17r35)))
 (.cond (.t 61)
 (.seq (.region C17r36)
 (.ret))
 (.seq (.seq (.region C17r37)
 (.cond (.t 65)
 (.skip)
 (.region C17r38)))
 (.cond (.t 65)
 (.seq (.region C17r39)
 (.ret))
 (.skip)))))))))))))))))))))))))))))))))))))))
 (.seq (.region C17r40)
 (.ret)))
theorem C17_ok : stripF Tryz.prog Tryz.f17 = some C17 := by kernel_rfl
def C18r0 : List AOper := [⟨some 2, .box 23 (.t 0), none, true, []⟩,
 ⟨some 4, .alloc 23 [.c (.int .i64 0), .c (.int .i64 0), .c (.int .i64 0), .c (.int .i64 0), .c (.int .i64 0), .c (.int .i64 0), .c (.int .i64 0), .c (.int .i64 0), .c (.int .i64 0), .c (.int .i64 0), .c (.int .i64 0), .c (.int .i64 0), .c (.bool false), .c (.bool false), .c (.bool false), .c (.bool false)], none, true, []⟩]
def C18r1 : List AOper := [⟨some 8, .faddr (.t 2) 0, none, true, []⟩,
 ⟨some 9, .ld1 (.t 8), none, true, []⟩,
 ⟨some 10, .build [.c (.int .i64 0), .c (.int .i64 0), .c (.int .i64 0), .c (.int .i64 0), .c (.int .i64 0), .c (.int .i64 0), .c (.int .i64 0), .c (.int .i64 0), .c (.int .i64 0), .c (.int .i64 0), .c (.int .i64 0), .c (.int .i64 0), .c (.bool false), .c (.bool false), .c (.bool false), .c (.bool false)] [(0, 1, (.t 9))], none, true, []⟩,
 ⟨some 5, .alloc 23 [.c (.int .i64 0), .c (.int .i64 0), .c (.int .i64 0), .c (.int .i64 0), .c (.int .i64 0), .c (.int .i64 0), .c (.int .i64 0), .c (.int .i64 0), .c (.int .i64 0), .c (.int .i64 0), .c (.int .i64 0), .c (.int .i64 0), .c (.bool false), .c (.bool false), .c (.bool false), .c (.bool false)], none, true, []⟩,
 ⟨none, .stn 16 (.t 5) (.t 10), none, true, []⟩]
def C18r2 : List AOper := [⟨some 11, .mv (.t 1), none, true, []⟩,
 ⟨some 12, .tob 5 (.t 11), none, true, []⟩,
 ⟨some 13, .len false (.t 12), none, true, []⟩,
 ⟨some 14, .mv (.k (.c (.int .i64 0))), none, true, []⟩]
def C18r3 : List AOper := [⟨some 15, .bin .lss (.t 14) (.t 13), none, true, []⟩]
def C18r4 : List AOper := [⟨some 16, .iaddr 1 (.t 12) (.t 14), none, true, []⟩,
 ⟨some 17, .ld1 (.t 16), none, true, []⟩,
 ⟨some 7, .mv (.t 17), none, true, []⟩]
def C18r5 : List AOper := [⟨some 18, .mv (.t 7), none, true, []⟩]
def C18r6 : List AOper := [⟨some 20, .bin .eql (.t 18) (.k (.c (.int .u8 100))), none, true, []⟩,
 ⟨some 19, .mv (.t 20), none, true, []⟩]
def C18r7 : List AOper := [⟨some 21, .faddr (.t 2) 2, none, true, []⟩,
 ⟨some 22, .ld1 (.t 21), none, true, []⟩,
 ⟨some 23, .faddr (.t 5) 2, none, true, []⟩,
 ⟨none, .st1 (.t 23) (.t 22), none, true, []⟩]
def C18r8 : List AOper := [⟨some 25, .bin .eql (.t 18) (.k (.c (.int .u8 110))), none, true, []⟩,
 ⟨some 24, .mv (.t 25), none, true, []⟩]
def C18r9 : List AOper := [⟨some 26, .faddr (.t 2) 3, none, true, []⟩,
 ⟨some 27, .ld1 (.t 26), none, true, []⟩,
 ⟨some 28, .faddr (.t 5) 3, none, true, []⟩,
 ⟨none, .st1 (.t 28) (.t 27), none, true, []⟩]
def C18r10 : List AOper := [⟨some 30, .bin .eql (.t 18) (.k (.c (.int .u8 109))), none, true, []⟩,
 ⟨some 29, .mv (.t 30), none, true, []⟩]
def C18r11 : List AOper := [⟨some 31, .faddr (.t 2) 4, none, true, []⟩,
 ⟨some 32, .ld1 (.t 31), none, true, []⟩,
 ⟨some 33, .faddr (.t 5) 4, none, true, []⟩,
 ⟨none, .st1 (.t 33) (.t 32), none, true, []⟩]
def C18r12 : List AOper := [⟨some 35, .bin .eql (.t 18) (.k (.c (.int .u8 97))), none, true, []⟩,
 ⟨some 34, .mv (.t 35), none, true, []⟩]
def C18r13 : List AOper := [⟨some 36, .faddr (.t 2) 5, none, true, []⟩,
 ⟨some 37, .ld1 (.t 36), none, true, []⟩,
 ⟨some 38, .faddr (.t 5) 5, none, true, []⟩,
 ⟨none, .st1 (.t 38) (.t 37), none, true, []⟩]
def C18r14 : List AOper := [⟨some 40, .bin .eql (.t 18) (.k (.c (.int .u8 105))), none, true, []⟩,
 ⟨some 39, .mv (.t 40), none, true, []⟩]
def C18r15 : List AOper := [⟨some 41, .faddr (.t 2) 6, none, true, []⟩,
 ⟨some 42, .ld1 (.t 41), none, true, []⟩,
 ⟨some 43, .faddr (.t 5) 6, none, true, []⟩,
 ⟨none, .st1 (.t 43) (.t 42), none, true, []⟩]
def C18r16 : List AOper := [⟨some 45, .bin .eql (.t 18) (.k (.c (.int .u8 106))), none, true, []⟩,
 ⟨some 44, .mv (.t 45), none, true, []⟩]
def C18r17 : List AOper := [⟨some 46, .faddr (.t 2) 7, none, true, []⟩,
 ⟨some 47, .ld1 (.t 46), none, true, []⟩,
 ⟨some 48, .faddr (.t 5) 7, none, true, []⟩,
 ⟨none, .st1 (.t 48) (.t 47), none, true, []⟩]
def C18r18 : List AOper := [⟨some 50, .bin .eql (.t 18) (.k (.c (.int .u8 107))), none, true, []⟩,
 ⟨some 49, .mv (.t 50), none, true, []⟩]
def C18r19 : List AOper := [⟨some 51, .faddr (.t 2) 8, none, true, []⟩,
 ⟨some 52, .ld1 (.t 51), none, true, []⟩,
 ⟨some 53, .faddr (.t 5) 8, none, true, []⟩,
 ⟨none, .st1 (.t 53) (.t 52), none, true, []⟩]
def C18r20 : List AOper := [⟨some 55, .bin .eql (.t 18) (.k (.c (.int .u8 116))), none, true, []⟩,
 ⟨some 54, .mv (.t 55), none, true, []⟩]
def C18r21 : List AOper := [⟨some 56, .faddr (.t 2) 9, none, true, []⟩,
 ⟨some 57, .ld1 (.t 56), none, true, []⟩,
 ⟨some 58, .faddr (.t 5) 9, none, true, []⟩,
 ⟨none, .st1 (.t 58) (.t 57), none, true, []⟩]
def C18r22 : List AOper := [⟨some 60, .bin .eql (.t 18) (.k (.c (.int .u8 115))), none, true, []⟩,
 ⟨some 59, .mv (.t 60), none, true, []⟩]
def C18r23 : List AOper := [⟨some 61, .faddr (.t 2) 1, none, true, []⟩,
 ⟨some 62, .ld1 (.t 61), none, true, []⟩,
 ⟨some 63, .faddr (.t 5) 1, none, true, []⟩,
 ⟨none, .st1 (.t 63) (.t 62), none, true, []⟩]
def C18r24 : List AOper := [⟨some 65, .bin .eql (.t 18) (.k (.c (.int .u8 99))), none, true, []⟩,
 ⟨some 64, .mv (.t 65), none, true, []⟩]
def C18r25 : List AOper := [⟨some 66, .faddr (.t 2) 10, none, true, []⟩,
 ⟨some 67, .ld1 (.t 66), none, true, []⟩,
 ⟨some 68, .faddr (.t 5) 10, none, true, []⟩,
 ⟨none, .st1 (.t 68) (.t 67), none, true, []⟩]
def C18r26 : List AOper := [⟨some 70, .bin .eql (.t 18) (.k (.c (.int .u8 121))), none, true, []⟩,
 ⟨some 69, .mv (.t 70), none, true, []⟩]
def C18r27 : List AOper := [⟨some 71, .faddr (.t 2) 11, none, true, []⟩,
 ⟨some 72, .ld1 (.t 71), none, true, []⟩,
 ⟨some 73, .faddr (.t 5) 11, none, true, []⟩,
 ⟨none, .st1 (.t 73) (.t 72), none, true, []⟩]
def C18r28 : List AOper := [⟨some 75, .bin .eql (.t 18) (.k (.c (.int .u8 70))), none, true, []⟩,
 ⟨some 74, .mv (.t 75), none, true, []⟩]
def C18r29 : List AOper := [⟨some 76, .faddr (.t 2) 12, none, true, []⟩,
 ⟨some 77, .ld1 (.t 76), none, true, []⟩,
 ⟨some 78, .faddr (.t 5) 12, none, true, []⟩,
 ⟨none, .st1 (.t 78) (.t 77), none, true, []⟩]
def C18r30 : List AOper := [⟨some 80, .bin .eql (.t 18) (.k (.c (.int .u8 77))), none, true, []⟩,
 ⟨some 79, .mv (.t 80), none, true, []⟩]
def C18r31 : List AOper := [⟨some 81, .faddr (.t 2) 13, none, true, []⟩,
 ⟨some 82, .ld1 (.t 81), none, true, []⟩,
 ⟨some 83, .faddr (.t 5) 13, none, true, []⟩,
 ⟨none, .st1 (.t 83) (.t 82), none, true, []⟩]
def C18r32 : List AOper := [⟨some 85, .bin .eql (.t 18) (.k (.c (.int .u8 78))), none, true, []⟩,
 ⟨some 84, .mv (.t 85), none, true, []⟩]
def C18r33 : List AOper := [⟨some 86, .faddr (.t 2) 14, none, true, []⟩,
 ⟨some 87, .ld1 (.t 86), none, true, []⟩,
 ⟨some 88, .faddr (.t 5) 14, none, true, []⟩,
 ⟨none, .st1 (.t 88) (.t 87), none, true, []⟩]
def C18r34 : List AOper := [⟨some 90, .bin .eql (.t 18) (.k (.c (.int .u8 76))), none, true, []⟩,
 ⟨some 89, .mv (.t 90), none, true, []⟩]
def C18r35 : List AOper := [⟨some 91, .faddr (.t 2) 15, none, true, []⟩,
 ⟨some 92, .ld1 (.t 91), none, true, []⟩,
 ⟨some 93, .faddr (.t 5) 15, none, true, []⟩,
 ⟨none, .st1 (.t 93) (.t 92), none, true, []⟩]
def C18r36 : List AOper := [⟨some 94, .bin .add (.t 14) (.k (.c (.int .i64 1))), none, true, []⟩,
 ⟨some 14, .mv (.t 94), none, true, []⟩]
def C18r37 : List AOper := [⟨some 95, .ldn 16 (.t 5), none, true, []⟩,
 ⟨none, .stn 16 (.t 4) (.t 95), none, true, []⟩]
def C18 : ACode :=
 .seq (.region C18r0)
 (.seq (.region C18r1)
 (.seq (.seq (.region C18r2)
 (.block 0
 (.loop
 (.seq (.region C18r3)
 (.seq (.cond (.t 15)
 (.skip)
 (.exit 0))
 (.seq (.block 1
 (.seq (.region C18r4)
 (.seq (.region C18r5)
 (.block 2
 (.seq (.region C18r6)
 (.cond (.t 19)
 (.region C18r7)
 (.seq (.region C18r8)
 (.cond (.t 24)
 (.region C18r9)
 (.seq (.region C18r10)
 (.cond (.t 29)
 (.region C18r11)
 (.seq (.region C18r12)
 (.cond (.t 34)
 (.region C18r13)
 (.seq (.region C18r14)
 (.cond (.t 39)
 (.region C18r15)
 (.seq (.region C18r16)
 (.cond (.t 44)
 (.region C18r17)
 (.seq (.region C18r18)
 (.cond (.t 49)
 (.region C18r19)
 (.seq (.region C18r20)
 (.cond (.t 54)
 (.region C18r21)
 (.seq (.region C18r22)
 (.cond (.t 59)
 (.region C18r23)
 (.seq (.region C18r24)
 (.cond (.t 64)
 (.region C18r25)
 (.seq (.region C18r26)
 (.cond (.t 69)
 (.region C18r27)
 (.seq (.region C18r28)
 (.cond (.t 74)
 (.region C18r29)
 (.seq (.region C18r30)
 (.cond (.t 79)
 (.region C18r31)
 (.seq (.region C18r32)
 (.cond (.t 84)
 (.region C18r33)
 (.seq (.region C18r34)
 (.cond (.t 89)
 (.region C18r35)
 (.skip)))))))))))))))))))))))))))))))))))
 (.region C18r36)))))))
 (.seq (.region C18r37)
 (.ret))))
theorem C18_ok : stripF Tryz.prog Tryz.f18 = some C18 := by kernel_rfl
def C19r0 : List AOper := [⟨some 3, .box 23 (.t 1), none, true, []⟩,
 ⟨some 4, .mv (.k (.c (.int .u32 0))), none, true, []⟩]
def C19r1 : List AOper := [⟨some 5, .mv (.t 0), none, false, []⟩,
 ⟨some 6, .ldn 16 (.t 3), none, false, []⟩,
 ⟨some 7, .call (.k (.c (.fn 54 [] []))) [(.t 5), (.t 6)], none, false, []⟩,
 ⟨some 8, .faddr (.t 3) 6, none, false, []⟩,
 ⟨some 9, .ld1 (.t 8), none, false, []⟩,
 ⟨some 10, .call (.k (.c (.fn 88 [] []))) [(.t 7), (.t 9), (.k (.c (.int .i64 10))), (.k (.c (.int .i64 12)))], none, false, []⟩,
 ⟨some 11, .faddr (.t 3) 8, none, false, []⟩,
 ⟨some 12, .ld1 (.t 11), none, false, []⟩,
 ⟨some 13, .bin .quo (.t 12) (.k (.c (.int .i64 12))), none, false, []⟩,
 ⟨some 14, .call (.k (.c (.fn 88 [] []))) [(.t 10), (.t 13), (.k (.c (.int .i64 22))), (.k (.c (.int .i64 1)))], none, false, []⟩,
 ⟨some 15, .faddr (.t 3) 12, none, false, []⟩,
 ⟨some 16, .ld1 (.t 15), none, false, []⟩,
 ⟨some 17, .call (.k (.c (.fn 89 [] []))) [(.t 14), (.t 16), (.k (.c (.int .u32 536870912)))], none, false, []⟩,
 ⟨some 18, .faddr (.t 3) 13, none, false, []⟩,
 ⟨some 19, .ld1 (.t 18), none, false, []⟩,
 ⟨some 20, .call (.k (.c (.fn 89 [] []))) [(.t 17), (.t 19), (.k (.c (.int .u32 1073741824)))], none, true, []⟩,
 ⟨some 4, .mv (.t 20), none, true, []⟩]
def C19 : ACode :=
 .seq (.region C19r0)
 (.seq (.region C19r1)
 (.ret))
theorem C19_ok : stripF Tryz.prog Tryz.f19 = some C19 := by kernel_rfl
def C20r0 : List AOper := [⟨some 2, .alloc 23 [.c (.int .i64 0), .c (.int .i64 0), .c (.int .i64 0), .c (.int .i64 0), .c (.int .i64 0), .c (.int .i64 0), .c (.int .i64 0), .c (.int .i64 0), .c (.int .i64 0), .c (.int .i64 0), .c (.int .i64 0), .c (.int .i64 0), .c (.bool false), .c (.bool false), .c (.bool false), .c (.bool false)], none, true, []⟩]
def C20r1 : List AOper := [⟨some 4, .mv (.t 0), none, true, []⟩,
 ⟨some 5, .call (.k (.c (.fn 90 [] []))) [(.t 4), (.k (.c (.int .i64 1)))], none, true, []⟩,
 ⟨some 3, .alloc 23 [.c (.int .i64 0), .c (.int .i64 0), .c (.int .i64 0), .c (.int .i64 0), .c (.int .i64 0), .c (.int .i64 0), .c (.int .i64 0), .c (.int .i64 0), .c (.int .i64 0), .c (.int .i64 0), .c (.int .i64 0), .c (.int .i64 0), .c (.bool false), .c (.bool false), .c (.bool false), .c (.bool false)], none, true, []⟩,
 ⟨none, .stn 16 (.t 3) (.t 5), none, true, []⟩]
def C20r2 : List AOper := [⟨some 6, .mv (.t 0), none, true, []⟩,
 ⟨some 7, .call (.k (.c (.fn 91 [] []))) [(.t 6), (.k (.c (.int .i64 10))), (.k (.c (.int .i64 12)))], none, true, []⟩,
 ⟨some 8, .mv (.t 0), none, true, []⟩,
 ⟨some 9, .call (.k (.c (.fn 91 [] []))) [(.t 8), (.k (.c (.int .i64 22))), (.k (.c (.int .i64 1)))], none, true, []⟩,
 ⟨some 10, .bin .mul (.k (.c (.int .i64 12))) (.t 9), none, true, []⟩,
 ⟨some 11, .faddr (.t 3) 4, none, true, []⟩,
 ⟨none, .st1 (.t 11) (.k (.c (.int .i64 0))), none, true, []⟩,
 ⟨some 12, .faddr (.t 3) 6, none, true, []⟩,
 ⟨none, .st1 (.t 12) (.t 7), none, true, []⟩,
 ⟨some 13, .faddr (.t 3) 8, none, true, []⟩,
 ⟨none, .st1 (.t 13) (.t 10), none, true, []⟩]
def C20r3 : List AOper := [⟨some 14, .mv (.t 0), none, true, []⟩,
 ⟨some 15, .call (.k (.c (.fn 92 [] []))) [(.t 14), (.k (.c (.int .u32 536870912)))], none, true, []⟩,
 ⟨some 16, .mv (.t 0), none, true, []⟩,
 ⟨some 17, .call (.k (.c (.fn 92 [] []))) [(.t 16), (.k (.c (.int .u32 1073741824)))], none, true, []⟩,
 ⟨some 18, .faddr (.t 3) 12, none, true, []⟩,
 ⟨none, .st1 (.t 18) (.t 15), none, true, []⟩,
 ⟨some 19, .faddr (.t 3) 13, none, true, []⟩,
 ⟨none, .st1 (.t 19) (.t 17), none, true, []⟩]
def C20r4 : List AOper := [⟨some 20, .ldn 16 (.t 3), none, true, []⟩,
 ⟨none, .stn 16 (.t 2) (.t 20), none, true, []⟩]
def C20 : ACode :=
 .seq (.region C20r0)
 (.seq (.region C20r1)
 (.seq (.region C20r2)
 (.seq (.region C20r3)
 (.seq (.region C20r4)
 (.ret)))))
theorem C20_ok : stripF Tryz.prog Tryz.f20 = some C20 := by kernel_rfl
def C21r0 : List AOper := [⟨some 3, .box 23 (.t 1), none, true, []⟩,
 ⟨some 4, .mv (.k (.c (.int .u32 0))), none, true, []⟩]
def C21r1 : List AOper := [⟨some 5, .mv (.t 0), none, false, []⟩,
 ⟨some 6, .ldn 16 (.t 3), none, false, []⟩,
 ⟨some 7, .call (.k (.c (.fn 54 [] []))) [(.t 5), (.t 6)], none, false, []⟩,
 ⟨some 8, .faddr (.t 3) 8, none, false, []⟩,
 ⟨some 9, .ld1 (.t 8), none, false, []⟩,
 ⟨some 10, .call (.k (.c (.fn 88 [] []))) [(.t 7), (.t 9), (.k (.c (.int .i64 10))), (.k (.c (.int .i64 6)))], none, false, []⟩,
 ⟨some 11, .faddr (.t 3) 9, none, false, []⟩,
 ⟨some 12, .ld1 (.t 11), none, false, []⟩,
 ⟨some 13, .call (.k (.c (.fn 88 [] []))) [(.t 10), (.t 12), (.k (.c (.int .i64 22))), (.k (.c (.int .i64 2)))], none, false, []⟩,
 ⟨some 14, .faddr (.t 3) 12, none, false, []⟩,
 ⟨some 15, .ld1 (.t 14), none, false, []⟩,
 ⟨some 16, .call (.k (.c (.fn 89 [] []))) [(.t 13), (.t 15), (.k (.c (.int .u32 536870912)))], none, false, []⟩,
 ⟨some 17, .faddr (.t 3) 13, none, false, []⟩,
 ⟨some 18, .ld1 (.t 17), none, false, []⟩,
 ⟨some 19, .call (.k (.c (.fn 89 [] []))) [(.t 16), (.t 18), (.k (.c (.int .u32 1073741824)))], none, true, []⟩,
 ⟨some 4, .mv (.t 19), none, true, []⟩]
def C21 : ACode :=
 .seq (.region C21r0)
 (.seq (.region C21r1)
 (.ret))
theorem C21_ok : stripF Tryz.prog Tryz.f21 = some C21 := by kernel_rfl
def C22r0 : List AOper := [⟨some 2, .alloc 23 [.c (.int .i64 0), .c (.int .i64 0), .c (.int .i64 0), .c (.int .i64 0), .c (.int .i64 0), .c (.int .i64 0), .c (.int .i64 0), .c (.int .i64 0), .c (.int .i64 0), .c (.int .i64 0), .c (.int .i64 0), .c (.int .i64 0), .c (.bool false), .c (.bool false), .c (.bool false), .c (.bool false)], none, true, []⟩]
def C22r1 : List AOper := [⟨some 4, .mv (.t 0), none, true, []⟩,
 ⟨some 5, .call (.k (.c (.fn 90 [] []))) [(.t 4), (.k (.c (.int .i64 2)))], none, true, []⟩,
 ⟨some 3, .alloc 23 [.c (.int .i64 0), .c (.int .i64 0), .c (.int .i64 0), .c (.int .i64 0), .c (.int .i64 0), .c (.int .i64 0), .c (.int .i64 0), .c (.int .i64 0), .c (.int .i64 0), .c (.int .i64 0), .c (.int .i64 0), .c (.int .i64 0), .c (.bool false), .c (.bool false), .c (.bool false), .c (.bool false)], none, true, []⟩,
 ⟨none, .stn 16 (.t 3) (.t 5), none, true, []⟩]
def C22r2 : List AOper := [⟨some 6, .mv (.t 0), none, true, []⟩,
 ⟨some 7, .call (.k (.c (.fn 91 [] []))) [(.t 6), (.k (.c (.int .i64 22))), (.k (.c (.int .i64 2)))], none, true, []⟩,
 ⟨some 8, .mv (.t 0), none, true, []⟩,
 ⟨some 9, .call (.k (.c (.fn 91 [] []))) [(.t 8), (.k (.c (.int .i64 10))), (.k (.c (.int .i64 6)))], none, true, []⟩,
 ⟨some 10, .faddr (.t 3) 9, none, true, []⟩,
 ⟨none, .st1 (.t 10) (.t 7), none, true, []⟩,
 ⟨some 11, .faddr (.t 3) 8, none, true, []⟩,
 ⟨none, .st1 (.t 11) (.t 9), none, true, []⟩]
def C22r3 : List AOper := [⟨some 12, .mv (.t 0), none, true, []⟩,
 ⟨some 13, .call (.k (.c (.fn 92 [] []))) [(.t 12), (.k (.c (.int .u32 536870912)))], none, true, []⟩,
 ⟨some 14, .mv (.t 0), none, true, []⟩,
 ⟨some 15, .call (.k (.c (.fn 92 [] []))) [(.t 14), (.k (.c (.int .u32 1073741824)))], none, true, []⟩,
 ⟨some 16, .faddr (.t 3) 12, none, true, []⟩,
 ⟨none, .st1 (.t 16) (.t 13), none, true, []⟩,
 ⟨some 17, .faddr (.t 3) 13, none, true, []⟩,
 ⟨none, .st1 (.t 17) (.t 15), none, true, []⟩]
def C22r4 : List AOper := [⟨some 18, .ldn 16 (.t 3), none, true, []⟩,
 ⟨none, .stn 16 (.t 2) (.t 18), none, true, []⟩]
def C22 : ACode :=
 .seq (.region C22r0)
 (.seq (.region C22r1)
 (.seq (.region C22r2)
 (.seq (.region C22r3)
 (.seq (.region C22r4)
 (.ret)))))
theorem C22_ok : stripF Tryz.prog Tryz.f22 = some C22 := by kernel_rfl
def C23r0 : List AOper := [⟨some 3, .box 23 (.t 1), none, true, []⟩,
 ⟨some 4, .mv (.k (.c (.int .u32 0))), none, true, []⟩]
def C23r1 : List AOper := [⟨some 5, .mv (.t 0), none, false, []⟩,
 ⟨some 6, .ldn 16 (.t 3), none, false, []⟩,
 ⟨some 7, .call (.k (.c (.fn 54 [] []))) [(.t 5), (.t 6)], none, false, []⟩,
 ⟨some 8, .ldn 16 (.t 3), none, false, []⟩,
 ⟨some 9, .call (.k (.c (.fn 93 [] []))) [(.t 8)], none, false, []⟩,
 ⟨some 10, .call (.k (.c (.fn 88 [] []))) [(.t 7), (.t 9), (.k (.c (.int .i64 29))), (.k (.c (.int .i64 2)))], none, false, []⟩,
 ⟨some 11, .faddr (.t 3) 8, none, false, []⟩,
 ⟨some 12, .ld1 (.t 11), none, false, []⟩,
 ⟨some 13, .call (.k (.c (.fn 88 [] []))) [(.t 10), (.t 12), (.k (.c (.int .i64 10))), (.k (.c (.int .i64 6)))], none, false, []⟩,
 ⟨some 14, .faddr (.t 3) 9, none, false, []⟩,
 ⟨some 15, .ld1 (.t 14), none, false, []⟩,
 ⟨some 16, .call (.k (.c (.fn 88 [] []))) [(.t 13), (.t 15), (.k (.c (.int .i64 22))), (.k (.c (.int .i64 2)))], none, false, []⟩,
 ⟨some 17, .faddr (.t 3) 14, none, false, []⟩,
 ⟨some 18, .ld1 (.t 17), none, false, []⟩,
 ⟨some 19, .call (.k (.c (.fn 89 [] []))) [(.t 16), (.t 18), (.k (.c (.int .u32 2097152)))], none, true, []⟩,
 ⟨some 4, .mv (.t 19), none, true, []⟩]
def C23 : ACode :=
 .seq (.region C23r0)
 (.seq (.region C23r1)
 (.ret))
theorem C23_ok : stripF Tryz.prog Tryz.f23 = some C23 := by kernel_rfl
def C24r0 : List AOper := [⟨some 2, .alloc 23 [.c (.int .i64 0), .c (.int .i64 0), .c (.int .i64 0), .c (.int .i64 0), .c (.int .i64 0), .c (.int .i64 0), .c (.int .i64 0), .c (.int .i64 0), .c (.int .i64 0), .c (.int .i64 0), .c (.int .i64 0), .c (.int .i64 0), .c (.bool false), .c (.bool false), .c (.bool false), .c (.bool false)], none, true, []⟩]
def C24r1 : List AOper := [⟨some 4, .mv (.t 0), none, true, []⟩,
 ⟨some 5, .call (.k (.c (.fn 90 [] []))) [(.t 4), (.k (.c (.int .i64 3)))], none, true, []⟩,
 ⟨some 6, .mv (.t 0), none, true, []⟩,
 ⟨some 7, .call (.k (.c (.fn 91 [] []))) [(.t 6), (.k (.c (.int .i64 29))), (.k (.c (.int .i64 2)))], none, true, []⟩,
 ⟨some 8, .call (.k (.c (.fn 94 [] []))) [(.t 5), (.t 7)], none, true, []⟩,
 ⟨some 3, .alloc 23 [.c (.int .i64 0), .c (.int .i64 0), .c (.int .i64 0), .c (.int .i64 0), .c (.int .i64 0), .c (.int .i64 0), .c (.int .i64 0), .c (.int .i64 0), .c (.int .i64 0), .c (.int .i64 0), .c (.int .i64 0), .c (.int .i64 0), .c (.bool false), .c (.bool false), .c (.bool false), .c (.bool false)], none, true, []⟩,
 ⟨none, .stn 16 (.t 3) (.t 8), none, true, []⟩]
def C24r2 : List AOper := [⟨some 9, .mv (.t 0), none, true, []⟩,
 ⟨some 10, .call (.k (.c (.fn 91 [] []))) [(.t 9), (.k (.c (.int .i64 22))), (.k (.c (.int .i64 2)))], none, true, []⟩,
 ⟨some 11, .mv (.t 0), none, true, []⟩,
 ⟨some 12, .call (.k (.c (.fn 91 [] []))) [(.t 11), (.k (.c (.int .i64 10))), (.k (.c (.int .i64 6)))], none, true, []⟩,
 ⟨some 13, .mv (.t 0), none, true, []⟩,
 ⟨some 14, .call (.k (.c (.fn 91 [] []))) [(.t 13), (.k (.c (.int .i64 21))), (.k (.c (.int .i64 1)))], none, true, []⟩,
 ⟨some 15, .bin .eql (.t 14) (.k (.c (.int .i64 1))), none, true, []⟩,
 ⟨some 16, .faddr (.t 3) 9, none, true, []⟩,
 ⟨none, .st1 (.t 16) (.t 10), none, true, []⟩,
 ⟨some 17, .faddr (.t 3) 8, none, true, []⟩,
 ⟨none, .st1 (.t 17) (.t 12), none, true, []⟩,
 ⟨some 18, .faddr (.t 3) 14, none, true, []⟩,
 ⟨none, .st1 (.t 18) (.t 15), none, true, []⟩]
def C24r3 : List AOper := [⟨some 19, .ldn 16 (.t 3), none, true, []⟩,
 ⟨none, .stn 16 (.t 2) (.t 19), none, true, []⟩]
def C24 : ACode :=
 .seq (.region C24r0)
 (.seq (.region C24r1)
 (.seq (.region C24r2)
 (.seq (.region C24r3)
 (.ret))))
theorem C24_ok : stripF Tryz.prog Tryz.f24 = some C24 := by kernel_rfl
def C25r0 : List AOper := [⟨some 3, .box 23 (.t 1), none, true, []⟩,
 ⟨some 4, .mv (.k (.c (.int .u32 0))), none, true, []⟩]
def C25r1 : List AOper := [⟨some 5, .mv (.t 0), none, false, []⟩,
 ⟨some 6, .ldn 16 (.t 3), none, false, []⟩,
 ⟨some 7, .call (.k (.c (.fn 54 [] []))) [(.t 5), (.t 6)], none, false, []⟩,
 ⟨some 8, .ldn 16 (.t 3), none, false, []⟩,
 ⟨some 9, .call (.k (.c (.fn 93 [] []))) [(.t 8)], none, false, []⟩,
 ⟨some 10, .call (.k (.c (.fn 88 [] []))) [(.t 7), (.t 9), (.k (.c (.int .i64 29))), (.k (.c (.int .i64 2)))], none, false, []⟩,
 ⟨some 11, .faddr (.t 3) 8, none, false, []⟩,
 ⟨some 12, .ld1 (.t 11), none, false, []⟩,
 ⟨some 13, .call (.k (.c (.fn 88 [] []))) [(.t 10), (.t 12), (.k (.c (.int .i64 22))), (.k (.c (.int .i64 1)))], none, false, []⟩,
 ⟨some 14, .faddr (.t 3) 6, none, false, []⟩,
 ⟨some 15, .ld1 (.t 14), none, false, []⟩,
 ⟨some 16, .call (.k (.c (.fn 88 [] []))) [(.t 13), (.t 15), (.k (.c (.int .i64 16))), (.k (.c (.int .i64 6)))], none, false, []⟩,
 ⟨some 17, .faddr (.t 3) 7, none, false, []⟩,
 ⟨some 18, .ld1 (.t 17), none, false, []⟩,
 ⟨some 19, .call (.k (.c (.fn 88 [] []))) [(.t 16), (.t 18), (.k (.c (.int .i64 10))), (.k (.c (.int .i64 6)))], none, true, []⟩,
 ⟨some 4, .mv (.t 19), none, true, []⟩]
def C25 : ACode :=
 .seq (.region C25r0)
 (.seq (.region C25r1)
 (.ret))
theorem C25_ok : stripF Tryz.prog Tryz.f25 = some C25 := by kernel_rfl
def C26r0 : List AOper := [⟨some 2, .alloc 23 [.c (.int .i64 0), .c (.int .i64 0), .c (.int .i64 0), .c (.int .i64 0), .c (.int .i64 0), .c (.int .i64 0), .c (.int .i64 0), .c (.int .i64 0), .c (.int .i64 0), .c (.int .i64 0), .c (.int .i64 0), .c (.int .i64 0), .c (.bool false), .c (.bool false), .c (.bool false), .c (.bool false)], none, true, []⟩]
def C26r1 : List AOper := [⟨some 4, .mv (.t 0), none, true, []⟩,
 ⟨some 5, .call (.k (.c (.fn 90 [] []))) [(.t 4), (.k (.c (.int .i64 4)))], none, true, []⟩,
 ⟨some 6, .mv (.t 0), none, true, []⟩,
 ⟨some 7, .call (.k (.c (.fn 91 [] []))) [(.t 6), (.k (.c (.int .i64 29))), (.k (.c (.int .i64 2)))], none, true, []⟩,
 ⟨some 8, .call (.k (.c (.fn 94 [] []))) [(.t 5), (.t 7)], none, true, []⟩,
 ⟨some 3, .alloc 23 [.c (.int .i64 0), .c (.int .i64 0), .c (.int .i64 0), .c (.int .i64 0), .c (.int .i64 0), .c (.int .i64 0), .c (.int .i64 0), .c (.int .i64 0), .c (.int .i64 0), .c (.int .i64 0), .c (.int .i64 0), .c (.int .i64 0), .c (.bool false), .c (.bool false), .c (.bool false), .c (.bool false)], none, true, []⟩,
 ⟨none, .stn 16 (.t 3) (.t 8), none, true, []⟩]
def C26r2 : List AOper := [⟨some 9, .mv (.t 0), none, true, []⟩,
 ⟨some 10, .call (.k (.c (.fn 91 [] []))) [(.t 9), (.k (.c (.int .i64 22))), (.k (.c (.int .i64 1)))], none, true, []⟩,
 ⟨some 11, .mv (.t 0), none, true, []⟩,
 ⟨some 12, .call (.k (.c (.fn 91 [] []))) [(.t 11), (.k (.c (.int .i64 16))), (.k (.c (.int .i64 6)))], none, true, []⟩,
 ⟨some 13, .mv (.t 0), none, true, []⟩,
 ⟨some 14, .call (.k (.c (.fn 91 [] []))) [(.t 13), (.k (.c (.int .i64 10))), (.k (.c (.int .i64 6)))], none, true, []⟩,
 ⟨some 15, .faddr (.t 3) 4, none, true, []⟩,
 ⟨none, .st1 (.t 15) (.k (.c (.int .i64 0))), none, true, []⟩,
 ⟨some 16, .faddr (.t 3) 8, none, true, []⟩,
 ⟨none, .st1 (.t 16) (.t 10), none, true, []⟩,
 ⟨some 17, .faddr (.t 3) 6, none, true, []⟩,
 ⟨none, .st1 (.t 17) (.t 12), none, true, []⟩,
 ⟨some 18, .faddr (.t 3) 7, none, true, []⟩,
 ⟨none, .st1 (.t 18) (.t 14), none, true, []⟩]
def C26r3 : List AOper := [⟨some 19, .ldn 16 (.t 3), none, true, []⟩,
 ⟨none, .stn 16 (.t 2) (.t 19), none, true, []⟩]
def C26 : ACode :=
 .seq (.region C26r0)
 (.seq (.region C26r1)
 (.seq (.region C26r2)
 (.seq (.region C26r3)
 (.ret))))
theorem C26_ok : stripF Tryz.prog Tryz.f26 = some C26 := by kernel_rfl
def C27r0 : List AOper := [⟨some 3, .box 23 (.t 1), none, true, []⟩,
 ⟨some 4, .mv (.k (.c (.int .u32 0))), none, true, []⟩]
def C27r1 : List AOper := [⟨some 5, .mv (.t 0), none, false, []⟩,
 ⟨some 6, .faddr (.t 3) 2, none, false, []⟩,
 ⟨some 7, .ld1 (.t 6), none, false, []⟩,
 ⟨some 8, .call (.k (.c (.fn 88 [] []))) [(.t 5), (.t 7), (.k (.c (.int .i64 0))), (.k (.c (.int .i64 5)))], none, false, []⟩,
 ⟨some 9, .faddr (.t 3) 1, none, false, []⟩,
 ⟨some 10, .ld1 (.t 9), none, false, []⟩,
 ⟨some 11, .call (.k (.c (.fn 88 [] []))) [(.t 8), (.t 10), (.k (.c (.int .i64 29))), (.k (.c (.int .i64 2)))], none, false, []⟩,
 ⟨some 12, .faddr (.t 3) 6, none, false, []⟩,
 ⟨some 13, .ld1 (.t 12), none, false, []⟩,
 ⟨some 14, .call (.k (.c (.fn 88 [] []))) [(.t 11), (.t 13), (.k (.c (.int .i64 5))), (.k (.c (.int .i64 16)))], none, false, []⟩,
 ⟨some 15, .faddr (.t 3) 8, none, false, []⟩,
 ⟨some 16, .ld1 (.t 15), none, false, []⟩,
 ⟨some 17, .bin .quo (.t 16) (.k (.c (.int .i64 16))), none, false, []⟩,
 ⟨some 18, .call (.k (.c (.fn 88 [] []))) [(.t 14), (.t 17), (.k (.c (.int .i64 21))), (.k (.c (.int .i64 2)))], none, true, []⟩,
 ⟨some 4, .mv (.t 18), none, true, []⟩]
def C27 : ACode :=
 .seq (.region C27r0)
 (.seq (.region C27r1)
 (.ret))
theorem C27_ok : stripF Tryz.prog Tryz.f27 = some C27 := by kernel_rfl
def C28r0 : List AOper := [⟨some 2, .alloc 23 [.c (.int .i64 0), .c (.int .i64 0), .c (.int .i64 0), .c (.int .i64 0), .c (.int .i64 0), .c (.int .i64 0), .c (.int .i64 0), .c (.int .i64 0), .c (.int .i64 0), .c (.int .i64 0), .c (.int .i64 0), .c (.int .i64 0), .c (.bool false), .c (.bool false), .c (.bool false), .c (.bool false)], none, true, []⟩]
def C28r1 : List AOper := [⟨some 3, .mv (.t 0), none, true, []⟩,
 ⟨some 4, .call (.k (.c (.fn 91 [] []))) [(.t 3), (.k (.c (.int .i64 0))), (.k (.c (.int .i64 5)))], none, true, []⟩,
 ⟨some 5, .mv (.t 0), none, true, []⟩,
 ⟨some 6, .call (.k (.c (.fn 91 [] []))) [(.t 5), (.k (.c (.int .i64 29))), (.k (.c (.int .i64 2)))], none, true, []⟩,
 ⟨some 7, .mv (.t 0), none, true, []⟩,
 ⟨some 8, .call (.k (.c (.fn 91 [] []))) [(.t 7), (.k (.c (.int .i64 5))), (.k (.c (.int .i64 16)))], none, true, []⟩,
 ⟨some 9, .mv (.t 0), none, true, []⟩,
 ⟨some 10, .call (.k (.c (.fn 91 [] []))) [(.t 9), (.k (.c (.int .i64 21))), (.k (.c (.int .i64 2)))], none, true, []⟩,
 ⟨some 11, .bin .mul (.k (.c (.int .i64 16))) (.t 10), none, true, []⟩,
 ⟨some 12, .build [.c (.int .i64 0), .c (.int .i64 0), .c (.int .i64 0), .c (.int .i64 0), .c (.int .i64 0), .c (.int .i64 0), .c (.int .i64 0), .c (.int .i64 0), .c (.int .i64 0), .c (.int .i64 0), .c (.int .i64 0), .c (.int .i64 0), .c (.bool false), .c (.bool false), .c (.bool false), .c (.bool false)] [(0, 1, (.k (.c (.int .i64 5)))), (2, 1, (.t 4)), (1, 1, (.t 6)), (6, 1, (.t 8)), (8, 1, (.t 11))], none, true, []⟩,
 ⟨none, .stn 16 (.t 2) (.t 12), none, true, []⟩]
def C28 : ACode :=
 .seq (.region C28r0)
 (.seq (.region C28r1)
 (.ret))
theorem C28_ok : stripF Tryz.prog Tryz.f28 = some C28 := by kernel_rfl
def C29r0 : List AOper := [⟨some 3, .box 23 (.t 1), none, true, []⟩,
 ⟨some 4, .mv (.k (.c (.int .u32 0))), none, true, []⟩]
def C29r1 : List AOper := [⟨some 5, .mv (.t 0), none, false, []⟩,
 ⟨some 6, .ldn 16 (.t 3), none, false, []⟩,
 ⟨some 7, .call (.k (.c (.fn 54 [] []))) [(.t 5), (.t 6)], none, false, []⟩,
 ⟨some 8, .faddr (.t 3) 1, none, false, []⟩,
 ⟨some 9, .ld1 (.t 8), none, false, []⟩,
 ⟨some 10, .call (.k (.c (.fn 88 [] []))) [(.t 7), (.t 9), (.k (.c (.int .i64 29))), (.k (.c (.int .i64 2)))], none, false, []⟩,
 ⟨some 11, .faddr (.t 3) 6, none, false, []⟩,
 ⟨some 12, .ld1 (.t 11), none, false, []⟩,
 ⟨some 13, .call (.k (.c (.fn 88 [] []))) [(.t 10), (.t 12), (.k (.c (.int .i64 16))), (.k (.c (.int .i64 6)))], none, false, []⟩,
 ⟨some 14, .faddr (.t 3) 7, none, false, []⟩,
 ⟨some 15, .ld1 (.t 14), none, false, []⟩,
 ⟨some 16, .call (.k (.c (.fn 88 [] []))) [(.t 13), (.t 15), (.k (.c (.int .i64 10))), (.k (.c (.int .i64 6)))], none, true, []⟩,
 ⟨some 4, .mv (.t 16), none, true, []⟩]
def C29 : ACode :=
 .seq (.region C29r0)
 (.seq (.region C29r1)
 (.ret))
theorem C29_ok : stripF Tryz.prog Tryz.f29 = some C29 := by kernel_rfl
def C30r0 : List AOper := [⟨some 2, .alloc 23 [.c (.int .i64 0), .c (.int .i64 0), .c (.int .i64 0), .c (.int .i64 0), .c (.int .i64 0), .c (.int .i64 0), .c (.int .i64 0), .c (.int .i64 0), .c (.int .i64 0), .c (.int .i64 0), .c (.int .i64 0), .c (.int .i64 0), .c (.bool false), .c (.bool false), .c (.bool false), .c (.bool false)], none, true, []⟩]
def C30r1 : List AOper := [⟨some 3, .mv (.t 0), none, true, []⟩,
 ⟨some 4, .call (.k (.c (.fn 91 [] []))) [(.t 3), (.k (.c (.int .i64 0))), (.k (.c (.int .i64 5)))], none, true, []⟩,
 ⟨some 5, .mv (.t 0), none, true, []⟩,
 ⟨some 6, .call (.k (.c (.fn 91 [] []))) [(.t 5), (.k (.c (.int .i64 5))), (.k (.c (.int .i64 5)))], none, true, []⟩,
 ⟨some 7, .mv (.t 0), none, true, []⟩,
 ⟨some 8, .call (.k (.c (.fn 91 [] []))) [(.t 7), (.k (.c (.int .i64 29))), (.k (.c (.int .i64 2)))], none, true, []⟩,
 ⟨some 9, .mv (.t 0), none, true, []⟩,
 ⟨some 10, .call (.k (.c (.fn 91 [] []))) [(.t 9), (.k (.c (.int .i64 16))), (.k (.c (.int .i64 6)))], none, true, []⟩,
 ⟨some 11, .mv (.t 0), none, true, []⟩,
 ⟨some 12, .call (.k (.c (.fn 91 [] []))) [(.t 11), (.k (.c (.int .i64 10))), (.k (.c (.int .i64 6)))], none, true, []⟩,
 ⟨some 13, .build [.c (.int .i64 0), .c (.int .i64 0), .c (.int .i64 0), .c (.int .i64 0), .c (.int .i64 0), .c (.int .i64 0), .c (.int .i64 0), .c (.int .i64 0), .c (.int .i64 0), .c (.int .i64 0), .c (.int .i64 0), .c (.int .i64 0), .c (.bool false), .c (.bool false), .c (.bool false), .c (.bool false)] [(0, 1, (.k (.c (.int .i64 6)))), (2, 1, (.t 4)), (3, 1, (.t 6)), (1, 1, (.t 8)), (6, 1, (.t 10)), (7, 1, (.t 12))], none, true, []⟩,
 ⟨none, .stn 16 (.t 2) (.t 13), none, true, []⟩]
def C30 : ACode :=
 .seq (.region C30r0)
 (.seq (.region C30r1)
 (.ret))
theorem C30_ok : stripF Tryz.prog Tryz.f30 = some C30 := by kernel_rfl
def C31r0 : List AOper := [⟨some 3, .box 23 (.t 1), none, true, []⟩,
 ⟨some 4, .mv (.k (.c (.int .u32 0))), none, true, []⟩]
def C31r1 : List AOper := [⟨some 5, .mv (.t 0), none, false, []⟩,
 ⟨some 6, .ldn 16 (.t 3), none, false, []⟩,
 ⟨some 7, .call (.k (.c (.fn 54 [] []))) [(.t 5), (.t 6)], none, false, []⟩,
 ⟨some 8, .faddr (.t 3) 1, none, false, []⟩,
 ⟨some 9, .ld1 (.t 8), none, false, []⟩,
 ⟨some 10, .call (.k (.c (.fn 88 [] []))) [(.t 7), (.t 9), (.k (.c (.int .i64 10))), (.k (.c (.int .i64 2)))], none, true, []⟩,
 ⟨some 4, .mv (.t 10), none, true, []⟩]
def C31 : ACode :=
 .seq (.region C31r0)
 (.seq (.region C31r1)
 (.ret))
theorem C31_ok : stripF Tryz.prog Tryz.f31 = some C31 := by kernel_rfl
def C32r0 : List AOper := [⟨some 2, .alloc 23 [.c (.int .i64 0), .c (.int .i64 0), .c (.int .i64 0), .c (.int .i64 0), .c (.int .i64 0), .c (.int .i64 0), .c (.int .i64 0), .c (.int .i64 0), .c (.int .i64 0), .c (.int .i64 0), .c (.int .i64 0), .c (.int .i64 0), .c (.bool false), .c (.bool false), .c (.bool false), .c (.bool false)], none, true, []⟩]
def C32r1 : List AOper := [⟨some 4, .mv (.t 0), none, true, []⟩,
 ⟨some 5, .call (.k (.c (.fn 90 [] []))) [(.t 4), (.k (.c (.int .i64 7)))], none, true, []⟩,
 ⟨some 3, .alloc 23 [.c (.int .i64 0), .c (.int .i64 0), .c (.int .i64 0), .c (.int .i64 0), .c (.int .i64 0), .c (.int .i64 0), .c (.int .i64 0), .c (.int .i64 0), .c (.int .i64 0), .c (.int .i64 0), .c (.int .i64 0), .c (.int .i64 0), .c (.bool false), .c (.bool false), .c (.bool false), .c (.bool false)], none, true, []⟩,
 ⟨none, .stn 16 (.t 3) (.t 5), none, true, []⟩]
def C32r2 : List AOper := [⟨some 6, .mv (.t 0), none, true, []⟩,
 ⟨some 7, .call (.k (.c (.fn 91 [] []))) [(.t 6), (.k (.c (.int .i64 10))), (.k (.c (.int .i64 2)))], none, true, []⟩,
 ⟨some 8, .faddr (.t 3) 1, none, true, []⟩,
 ⟨none, .st1 (.t 8) (.t 7), none, true, []⟩]
def C32r3 : List AOper := [⟨some 9, .ldn 16 (.t 3), none, true, []⟩,
 ⟨none, .stn 16 (.t 2) (.t 9), none, true, []⟩]
def C32 : ACode :=
 .seq (.region C32r0)
 (.seq (.region C32r1)
 (.seq (.region C32r2)
 (.seq (.region C32r3)
 (.ret))))
theorem C32_ok : stripF Tryz.prog Tryz.f32 = some C32 := by kernel_rfl
def C33r0 : List AOper := [⟨some 3, .box 23 (.t 1), none, true, []⟩,
 ⟨some 4, .mv (.k (.c (.int .u32 0))), none, true, []⟩]
def C33r1 : List AOper := [⟨some 5, .mv (.t 0), none, false, []⟩,
 ⟨some 6, .ldn 16 (.t 3), none, false, []⟩,
 ⟨some 7, .call (.k (.c (.fn 54 [] []))) [(.t 5), (.t 6)], none, false, []⟩,
 ⟨some 8, .faddr (.t 3) 5, none, false, []⟩,
 ⟨some 9, .ld1 (.t 8), none, false, []⟩,
 ⟨some 10, .call (.k (.c (.fn 88 [] []))) [(.t 7), (.t 9), (.k (.c (.int .i64 10))), (.k (.c (.int .i64 5)))], none, false, []⟩,
 ⟨some 11, .faddr (.t 3) 13, none, false, []⟩,
 ⟨some 12, .ld1 (.t 11), none, false, []⟩,
 ⟨some 13, .call (.k (.c (.fn 89 [] []))) [(.t 10), (.t 12), (.k (.c (.int .u32 32768)))], none, true, []⟩,
 ⟨some 4, .mv (.t 13), none, true, []⟩]
def C33 : ACode :=
 .seq (.region C33r0)
 (.seq (.region C33r1)
 (.ret))
theorem C33_ok : stripF Tryz.prog Tryz.f33 = some C33 := by kernel_rfl
def C34r0 : List AOper := [⟨some 2, .alloc 23 [.c (.int .i64 0), .c (.int .i64 0), .c (.int .i64 0), .c (.int .i64 0), .c (.int .i64 0), .c (.int .i64 0), .c (.int .i64 0), .c (.int .i64 0), .c (.int .i64 0), .c (.int .i64 0), .c (.int .i64 0), .c (.int .i64 0), .c (.bool false), .c (.bool false), .c (.bool false), .c (.bool false)], none, true, []⟩]
def C34r1 : List AOper := [⟨some 4, .mv (.t 0), none, true, []⟩,
 ⟨some 5, .call (.k (.c (.fn 90 [] []))) [(.t 4), (.k (.c (.int .i64 8)))], none, true, []⟩,
 ⟨some 3, .alloc 23 [.c (.int .i64 0), .c (.int .i64 0), .c (.int .i64 0), .c (.int .i64 0), .c (.int .i64 0), .c (.int .i64 0), .c (.int .i64 0), .c (.int .i64 0), .c (.int .i64 0), .c (.int .i64 0), .c (.int .i64 0), .c (.int .i64 0), .c (.bool false), .c (.bool false), .c (.bool false), .c (.bool false)], none, true, []⟩,
 ⟨none, .stn 16 (.t 3) (.t 5), none, true, []⟩]
def C34r2 : List AOper := [⟨some 6, .mv (.t 0), none, true, []⟩,
 ⟨some 7, .call (.k (.c (.fn 91 [] []))) [(.t 6), (.k (.c (.int .i64 10))), (.k (.c (.int .i64 5)))], none, true, []⟩,
 ⟨some 8, .mv (.t 0), none, true, []⟩,
 ⟨some 9, .call (.k (.c (.fn 91 [] []))) [(.t 8), (.k (.c (.int .i64 15))), (.k (.c (.int .i64 1)))], none, true, []⟩,
 ⟨some 10, .bin .eql (.t 9) (.k (.c (.int .i64 1))), none, true, []⟩,
 ⟨some 11, .faddr (.t 3) 5, none, true, []⟩,
 ⟨none, .st1 (.t 11) (.t 7), none, true, []⟩,
 ⟨some 12, .faddr (.t 3) 13, none, true, []⟩,
 ⟨none, .st1 (.t 12) (.t 10), none, true, []⟩]
def C34r3 : List AOper := [⟨some 13, .ldn 16 (.t 3), none, true, []⟩,
 ⟨none, .stn 16 (.t 2) (.t 13), none, true, []⟩]
def C34 : ACode :=
 .seq (.region C34r0)
 (.seq (.region C34r1)
 (.seq (.region C34r2)
 (.seq (.region C34r3)
 (.ret))))
theorem C34_ok : stripF Tryz.prog Tryz.f34 = some C34 := by kernel_rfl
def C35r0 : List AOper := [⟨some 2, .alloc 23 [.c (.int .i64 0), .c (.int .i64 0), .c (.int .i64 0), .c (.int .i64 0), .c (.int .i64 0), .c (.int .i64 0), .c (.int .i64 0), .c (.int .i64 0), .c (.int .i64 0), .c (.int .i64 0), .c (.int .i64 0), .c (.int .i64 0), .c (.bool false), .c (.bool false), .c (.bool false), .c (.bool false)], none, true, []⟩]
def C35r1 : List AOper := [⟨some 4, .mv (.t 0), none, true, []⟩,
 ⟨some 5, .call (.k (.c (.fn 90 [] []))) [(.t 4), (.k (.c (.int .i64 9)))], none, true, []⟩,
 ⟨some 3, .alloc 23 [.c (.int .i64 0), .c (.int .i64 0), .c (.int .i64 0), .c (.int .i64 0), .c (.int .i64 0), .c (.int .i64 0), .c (.int .i64 0), .c (.int .i64 0), .c (.int .i64 0), .c (.int .i64 0), .c (.int .i64 0), .c (.int .i64 0), .c (.bool false), .c (.bool false), .c (.bool false), .c (.bool false)], none, true, []⟩,
 ⟨none, .stn 16 (.t 3) (.t 5), none, true, []⟩]
def C35r2 : List AOper := [⟨some 6, .mv (.t 0), none, true, []⟩,
 ⟨some 7, .call (.k (.c (.fn 91 [] []))) [(.t 6), (.k (.c (.int .i64 10))), (.k (.c (.int .i64 1)))], none, true, []⟩,
 ⟨some 8, .faddr (.t 3) 1, none, true, []⟩,
 ⟨none, .st1 (.t 8) (.t 7), none, true, []⟩]
def C35r3 : List AOper := [⟨some 9, .ldn 16 (.t 3), none, true, []⟩,
 ⟨none, .stn 16 (.t 2) (.t 9), none, true, []⟩]
def C35 : ACode :=
 .seq (.region C35r0)
 (.seq (.region C35r1)
 (.seq (.region C35r2)
 (.seq (.region C35r3)
 (.ret))))
theorem C35_ok : stripF Tryz.prog Tryz.f35 = some C35 := by kernel_rfl
def C36r0 : List AOper := [⟨some 3, .box 23 (.t 1), none, true, []⟩,
 ⟨some 4, .mv (.k (.c (.int .u32 0))), none, true, []⟩]
def C36r1 : List AOper := [⟨some 5, .mv (.t 0), none, false, []⟩,
 ⟨some 6, .ldn 16 (.t 3), none, false, []⟩,
 ⟨some 7, .call (.k (.c (.fn 54 [] []))) [(.t 5), (.t 6)], none, false, []⟩,
 ⟨some 8, .faddr (.t 3) 1, none, false, []⟩,
 ⟨some 9, .ld1 (.t 8), none, false, []⟩,
 ⟨some 10, .bin .shr (.t 9) (.k (.c (.int .u64 1))), none, false, []⟩,
 ⟨some 11, .call (.k (.c (.fn 88 [] []))) [(.t 7), (.t 10), (.k (.c (.int .i64 30))), (.k (.c (.int .i64 1)))], none, false, []⟩,
 ⟨some 12, .faddr (.t 3) 1, none, false, []⟩,
 ⟨some 13, .ld1 (.t 12), none, false, []⟩,
 ⟨some 14, .call (.k (.c (.fn 88 [] []))) [(.t 11), (.t 13), (.k (.c (.int .i64 10))), (.k (.c (.int .i64 1)))], none, false, []⟩,
 ⟨some 15, .faddr (.t 3) 10, none, false, []⟩,
 ⟨some 16, .ld1 (.t 15), none, false, []⟩,
 ⟨some 17, .call (.k (.c (.fn 88 [] []))) [(.t 14), (.t 16), (.k (.c (.int .i64 12))), (.k (.c (.int .i64 4)))], none, true, []⟩,
 ⟨some 4, .mv (.t 17), none, true, []⟩]
def C36 : ACode :=
 .seq (.region C36r0)
 (.seq (.region C36r1)
 (.ret))
theorem C36_ok : stripF Tryz.prog Tryz.f36 = some C36 := by kernel_rfl
def C37r0 : List AOper := [⟨some 2, .alloc 23 [.c (.int .i64 0), .c (.int .i64 0), .c (.int .i64 0), .c (.int .i64 0), .c (.int .i64 0), .c (.int .i64 0), .c (.int .i64 0), .c (.int .i64 0), .c (.int .i64 0), .c (.int .i64 0), .c (.int .i64 0), .c (.int .i64 0), .c (.bool false), .c (.bool false), .c (.bool false), .c (.bool false)], none, true, []⟩]
def C37r1 : List AOper := [⟨some 4, .mv (.t 0), none, true, []⟩,
 ⟨some 5, .call (.k (.c (.fn 90 [] []))) [(.t 4), (.k (.c (.int .i64 10)))], none, true, []⟩,
 ⟨some 3, .alloc 23 [.c (.int .i64 0), .c (.int .i64 0), .c (.int .i64 0), .c (.int .i64 0), .c (.int .i64 0), .c (.int .i64 0), .c (.int .i64 0), .c (.int .i64 0), .c (.int .i64 0), .c (.int .i64 0), .c (.int .i64 0), .c (.int .i64 0), .c (.bool false), .c (.bool false), .c (.bool false), .c (.bool false)], none, true, []⟩,
 ⟨none, .stn 16 (.t 3) (.t 5), none, true, []⟩]
def C37r2 : List AOper := [⟨some 6, .mv (.t 0), none, true, []⟩,
 ⟨some 7, .call (.k (.c (.fn 91 [] []))) [(.t 6), (.k (.c (.int .i64 30))), (.k (.c (.int .i64 1)))], none, true, []⟩,
 ⟨some 8, .bin .mul (.k (.c (.int .i64 2))) (.t 7), none, true, []⟩,
 ⟨some 9, .mv (.t 0), none, true, []⟩,
 ⟨some 10, .call (.k (.c (.fn 91 [] []))) [(.t 9), (.k (.c (.int .i64 10))), (.k (.c (.int .i64 1)))], none, true, []⟩,
 ⟨some 11, .bin .add (.t 8) (.t 10), none, true, []⟩,
 ⟨some 12, .mv (.t 0), none, true, []⟩,
 ⟨some 13, .call (.k (.c (.fn 91 [] []))) [(.t 12), (.k (.c (.int .i64 12))), (.k (.c (.int .i64 4)))], none, true, []⟩,
 ⟨some 14, .faddr (.t 3) 1, none, true, []⟩,
 ⟨none, .st1 (.t 14) (.t 11), none, true, []⟩,
 ⟨some 15, .faddr (.t 3) 10, none, true, []⟩,
 ⟨none, .st1 (.t 15) (.t 13), none, true, []⟩]
def C37r3 : List AOper := [⟨some 16, .ldn 16 (.t 3), none, true, []⟩,
 ⟨none, .stn 16 (.t 2) (.t 16), none, true, []⟩]
def C37 : ACode :=
 .seq (.region C37r0)
 (.seq (.region C37r1)
 (.seq (.region C37r2)
 (.seq (.region C37r3)
 (.ret))))
theorem C37_ok : stripF Tryz.prog Tryz.f37 = some C37 := by kernel_rfl
def C38r0 : List AOper := [⟨some 3, .box 23 (.t 1), none, true, []⟩,
 ⟨some 4, .mv (.k (.c (.int .u32 0))), none, true, []⟩]
def C38r1 : List AOper := [⟨some 6, .faddr (.t 3) 6, none, true, []⟩,
 ⟨some 7, .ld1 (.t 6), none, true, []⟩,
 ⟨some 5, .mv (.t 7), none, true, []⟩]
def C38r2 : List AOper := [⟨some 8, .faddr (.t 3) 1, none, true, []⟩,
 ⟨some 9, .ld1 (.t 8), none, true, []⟩,
 ⟨some 10, .bin .eql (.t 9) (.k (.c (.int .i64 1))), none, true, []⟩]
def C38r3 : List AOper := [⟨some 11, .mv (.t 5), none, true, []⟩,
 ⟨some 12, .bin .quo (.t 11) (.k (.c (.int .i64 4096))), none, true, []⟩,
 ⟨some 5, .mv (.t 12), none, true, []⟩]
def C38r4 : List AOper := [⟨some 13, .mv (.t 0), none, false, []⟩,
 ⟨some 14, .faddr (.t 3) 2, none, false, []⟩,
 ⟨some 15, .ld1 (.t 14), none, false, []⟩,
 ⟨some 16, .call (.k (.c (.fn 88 [] []))) [(.t 13), (.t 15), (.k (.c (.int .i64 0))), (.k (.c (.int .i64 5)))], none, false, []⟩,
 ⟨some 17, .faddr (.t 3) 1, none, false, []⟩,
 ⟨some 18, .ld1 (.t 17), none, false, []⟩,
 ⟨some 19, .call (.k (.c (.fn 88 [] []))) [(.t 16), (.t 18), (.k (.c (.int .i64 31))), (.k (.c (.int .i64 1)))], none, false, []⟩,
 ⟨some 20, .mv (.t 5), none, false, []⟩,
 ⟨some 21, .call (.k (.c (.fn 88 [] []))) [(.t 19), (.t 20), (.k (.c (.int .i64 29))), (.k (.c (.int .i64 2)))], none, false, []⟩,
 ⟨some 22, .mv (.t 5), none, false, []⟩,
 ⟨some 23, .bin .shr (.t 22) (.k (.c (.int .u64 2))), none, false, []⟩,
 ⟨some 24, .call (.k (.c (.fn 88 [] []))) [(.t 21), (.t 23), (.k (.c (.int .i64 5))), (.k (.c (.int .i64 19)))], none, true, []⟩,
 ⟨some 4, .mv (.t 24), none, true, []⟩]
def C38 : ACode :=
 .seq (.region C38r0)
 (.seq (.region C38r1)
 (.seq (.seq (.region C38r2)
 (.cond (.t 10)
 (.region C38r3)
 (.skip)))
 (.seq (.region C38r4)
 (.ret))))
theorem C38_ok : stripF Tryz.prog Tryz.f38 = some C38 := by kernel_rfl
def C39r0 : List AOper := [⟨some 2, .alloc 23 [.c (.int .i64 0), .c (.int .i64 0), .c (.int .i64 0), .c (.int .i64 0), .c (.int .i64 0), .c (.int .i64 0), .c (.int .i64 0), .c (.int .i64 0), .c (.int .i64 0), .c (.int .i64 0), .c (.int .i64 0), .c (.int .i64 0), .c (.bool false), .c (.bool false), .c (.bool false), .c (.bool false)], none, true, []⟩]
def C39r1 : List AOper := [⟨some 4, .mv (.t 0), none, true, []⟩,
 ⟨some 5, .call (.k (.c (.fn 91 [] []))) [(.t 4), (.k (.c (.int .i64 0))), (.k (.c (.int .i64 5)))], none, true, []⟩,
 ⟨some 6, .mv (.t 0), none, true, []⟩,
 ⟨some 7, .call (.k (.c (.fn 91 [] []))) [(.t 6), (.k (.c (.int .i64 31))), (.k (.c (.int .i64 1)))], none, true, []⟩,
 ⟨some 8, .mv (.t 0), none, true, []⟩,
 ⟨some 9, .call (.k (.c (.fn 95 [] []))) [(.t 8), (.k (.c (.int .i64 5))), (.k (.c (.int .i64 19)))], none, true, []⟩,
 ⟨some 10, .bin .shl (.t 9) (.k (.c (.int .u64 2))), none, true, []⟩,
 ⟨some 11, .mv (.t 0), none, true, []⟩,
 ⟨some 12, .call (.k (.c (.fn 91 [] []))) [(.t 11), (.k (.c (.int .i64 29))), (.k (.c (.int .i64 2)))], none, true, []⟩,
 ⟨some 13, .bin .or (.t 10) (.t 12), none, true, []⟩,
 ⟨some 14, .build [.c (.int .i64 0), .c (.int .i64 0), .c (.int .i64 0), .c (.int .i64 0), .c (.int .i64 0), .c (.int .i64 0), .c (.int .i64 0), .c (.int .i64 0), .c (.int .i64 0), .c (.int .i64 0), .c (.int .i64 0), .c (.int .i64 0), .c (.bool false), .c (.bool false), .c (.bool false), .c (.bool false)] [(0, 1, (.k (.c (.int .i64 11)))), (2, 1, (.t 5)), (1, 1, (.t 7)), (6, 1, (.t 13))], none, true, []⟩,
 ⟨some 3, .alloc 23 [.c (.int .i64 0), .c (.int .i64 0), .c (.int .i64 0), .c (.int .i64 0), .c (.int .i64 0), .c (.int .i64 0), .c (.int .i64 0), .c (.int .i64 0), .c (.int .i64 0), .c (.int .i64 0), .c (.int .i64 0), .c (.int .i64 0), .c (.bool false), .c (.bool false), .c (.bool false), .c (.bool false)], none, true, []⟩,
 ⟨none, .stn 16 (.t 3) (.t 14), none, true, []⟩]
def C39r2 : List AOper := [⟨some 15, .faddr (.t 3) 1, none, true, []⟩,
 ⟨some 16, .ld1 (.t 15), none, true, []⟩,
 ⟨some 17, .bin .eql (.t 16) (.k (.c (.int .i64 1))), none, true, []⟩]
def C39r3 : List AOper := [⟨some 18, .faddr (.t 3) 6, none, true, []⟩,
 ⟨some 19, .ld1 (.t 18), none, true, []⟩,
 ⟨some 20, .bin .mul (.t 19) (.k (.c (.int .i64 4096))), none, true, []⟩,
 ⟨some 21, .faddr (.t 3) 6, none, true, []⟩,
 ⟨none, .st1 (.t 21) (.t 20), none, true, []⟩]
def C39r4 : List AOper := [⟨some 22, .ldn 16 (.t 3), none, true, []⟩,
 ⟨none, .stn 16 (.t 2) (.t 22), none, true, []⟩]
def C39 : ACode :=
 .seq (.region C39r0)
 (.seq (.region C39r1)
 (.seq (.seq (.region C39r2)
 (.cond (.t 17)
 (.region C39r3)
 (.skip)))
 (.seq (.region C39r4)
 (.ret))))
theorem C39_ok : stripF Tryz.prog Tryz.f39 = some C39 := by kernel_rfl
def C40r0 : List AOper := [⟨some 3, .box 23 (.t 1), none, true, []⟩,
 ⟨some 4, .mv (.k (.c (.int .u32 0))), none, true, []⟩]
def C40r1 : List AOper := [⟨some 5, .mv (.t 0), none, false, []⟩,
 ⟨some 6, .faddr (.t 3) 15, none, false, []⟩,
 ⟨some 7, .ld1 (.t 6), none, false, []⟩,
 ⟨some 8, .call (.k (.c (.fn 89 [] []))) [(.t 5), (.t 7), (.k (.c (.int .u32 2147483648)))], none, false, []⟩,
 ⟨some 9, .faddr (.t 3) 6, none, false, []⟩,
 ⟨some 10, .ld1 (.t 9), none, false, []⟩,
 ⟨some 11, .bin .shr (.t 10) (.k (.c (.int .u64 2))), none, false, []⟩,
 ⟨some 12, .call (.k (.c (.fn 88 [] []))) [(.t 8), (.t 11), (.k (.c (.int .i64 0))), (.k (.c (.int .i64 26)))], none, true, []⟩,
 ⟨some 4, .mv (.t 12), none, true, []⟩]
def C40 : ACode :=
 .seq (.region C40r0)
 (.seq (.region C40r1)
 (.ret))
theorem C40_ok : stripF Tryz.prog Tryz.f40 = some C40 := by kernel_rfl
def C41r0 : List AOper := [⟨some 2, .alloc 23 [.c (.int .i64 0), .c (.int .i64 0), .c (.int .i64 0), .c (.int .i64 0), .c (.int .i64 0), .c (.int .i64 0), .c (.int .i64 0), .c (.int .i64 0), .c (.int .i64 0), .c (.int .i64 0), .c (.int .i64 0), .c (.int .i64 0), .c (.bool false), .c (.bool false), .c (.bool false), .c (.bool false)], none, true, []⟩]
def C41r1 : List AOper := [⟨some 3, .mv (.t 0), none, true, []⟩,
 ⟨some 4, .call (.k (.c (.fn 91 [] []))) [(.t 3), (.k (.c (.int .i64 31))), (.k (.c (.int .i64 1)))], none, true, []⟩,
 ⟨some 5, .bin .eql (.t 4) (.k (.c (.int .i64 1))), none, true, []⟩,
 ⟨some 6, .mv (.t 0), none, true, []⟩,
 ⟨some 7, .call (.k (.c (.fn 95 [] []))) [(.t 6), (.k (.c (.int .i64 0))), (.k (.c (.int .i64 26)))], none, true, []⟩,
 ⟨some 8, .bin .mul (.k (.c (.int .i64 4))) (.t 7), none, true, []⟩,
 ⟨some 9, .build [.c (.int .i64 0), .c (.int .i64 0), .c (.int .i64 0), .c (.int .i64 0), .c (.int .i64 0), .c (.int .i64 0), .c (.int .i64 0), .c (.int .i64 0), .c (.int .i64 0), .c (.int .i64 0), .c (.int .i64 0), .c (.int .i64 0), .c (.bool false), .c (.bool false), .c (.bool false), .c (.bool false)] [(0, 1, (.k (.c (.int .i64 12)))), (15, 1, (.t 5)), (6, 1, (.t 8))], none, true, []⟩,
 ⟨none, .stn 16 (.t 2) (.t 9), none, true, []⟩]
def C41 : ACode :=
 .seq (.region C41r0)
 (.seq (.region C41r1)
 (.ret))
theorem C41_ok : stripF Tryz.prog Tryz.f41 = some C41 := by kernel_rfl
def C42r0 : List AOper := [⟨some 3, .box 23 (.t 1), none, true, []⟩,
 ⟨some 4, .mv (.k (.c (.int .u32 0))), none, true, []⟩]
def C42r1 : List AOper := [⟨some 5, .mv (.t 0), none, false, []⟩,
 ⟨some 6, .faddr (.t 3) 10, none, false, []⟩,
 ⟨some 7, .ld1 (.t 6), none, false, []⟩,
 ⟨some 8, .call (.k (.c (.fn 88 [] []))) [(.t 5), (.t 7), (.k (.c (.int .i64 0))), (.k (.c (.int .i64 4)))], none, false, []⟩,
 ⟨some 9, .faddr (.t 3) 6, none, false, []⟩,
 ⟨some 10, .ld1 (.t 9), none, false, []⟩,
 ⟨some 11, .bin .shr (.t 10) (.k (.c (.int .u64 2))), none, false, []⟩,
 ⟨some 12, .call (.k (.c (.fn 88 [] []))) [(.t 8), (.t 11), (.k (.c (.int .i64 5))), (.k (.c (.int .i64 19)))], none, true, []⟩,
 ⟨some 4, .mv (.t 12), none, true, []⟩]
def C42 : ACode :=
 .seq (.region C42r0)
 (.seq (.region C42r1)
 (.ret))
theorem C42_ok : stripF Tryz.prog Tryz.f42 = some C42 := by kernel_rfl
def C43r0 : List AOper := [⟨some 2, .alloc 23 [.c (.int .i64 0), .c (.int .i64 0), .c (.int .i64 0), .c (.int .i64 0), .c (.int .i64 0), .c (.int .i64 0), .c (.int .i64 0), .c (.int .i64 0), .c (.int .i64 0), .c (.int .i64 0), .c (.int .i64 0), .c (.int .i64 0), .c (.bool false), .c (.bool false), .c (.bool false), .c (.bool false)], none, true, []⟩]
def C43r1 : List AOper := [⟨some 3, .mv (.t 0), none, true, []⟩,
 ⟨some 4, .call (.k (.c (.fn 91 [] []))) [(.t 3), (.k (.c (.int .i64 0))), (.k (.c (.int .i64 4)))], none, true, []⟩,
 ⟨some 5, .mv (.t 0), none, true, []⟩,
 ⟨some 6, .call (.k (.c (.fn 95 [] []))) [(.t 5), (.k (.c (.int .i64 5))), (.k (.c (.int .i64 19)))], none, true, []⟩,
 ⟨some 7, .bin .mul (.k (.c (.int .i64 4))) (.t 6), none, true, []⟩,
 ⟨some 8, .build [.c (.int .i64 0), .c (.int .i64 0), .c (.int .i64 0), .c (.int .i64 0), .c (.int .i64 0), .c (.int .i64 0), .c (.int .i64 0), .c (.int .i64 0), .c (.int .i64 0), .c (.int .i64 0), .c (.int .i64 0), .c (.int .i64 0), .c (.bool false), .c (.bool false), .c (.bool false), .c (.bool false)] [(0, 1, (.k (.c (.int .i64 13)))), (10, 1, (.t 4)), (6, 1, (.t 7))], none, true, []⟩,
 ⟨none, .stn 16 (.t 2) (.t 8), none, true, []⟩]
def C43 : ACode :=
 .seq (.region C43r0)
 (.seq (.region C43r1)
 (.ret))
theorem C43_ok : stripF Tryz.prog Tryz.f43 = some C43 := by kernel_rfl
def C44r0 : List AOper := [⟨some 3, .box 23 (.t 1), none, true, []⟩,
 ⟨some 4, .mv (.k (.c (.int .u32 0))), none, true, []⟩]
def C44r1 : List AOper := [⟨some 5, .mv (.t 0), none, false, []⟩,
 ⟨some 6, .faddr (.t 3) 2, none, false, []⟩,
 ⟨some 7, .ld1 (.t 6), none, false, []⟩,
 ⟨some 8, .call (.k (.c (.fn 88 [] []))) [(.t 5), (.t 7), (.k (.c (.int .i64 0))), (.k (.c (.int .i64 5)))], none, false, []⟩,
 ⟨some 9, .faddr (.t 3) 14, none, false, []⟩,
 ⟨some 10, .ld1 (.t 9), none, false, []⟩,
 ⟨some 11, .call (.k (.c (.fn 89 [] []))) [(.t 8), (.t 10), (.k (.c (.int .u32 16777216)))], none, false, []⟩,
 ⟨some 12, .faddr (.t 3) 6, none, false, []⟩,
 ⟨some 13, .ld1 (.t 12), none, false, []⟩,
 ⟨some 14, .bin .shr (.t 13) (.k (.c (.int .u64 2))), none, false, []⟩,
 ⟨some 15, .call (.k (.c (.fn 88 [] []))) [(.t 11), (.t 14), (.k (.c (.int .i64 5))), (.k (.c (.int .i64 19)))], none, true, []⟩,
 ⟨some 4, .mv (.t 15), none, true, []⟩]
def C44 : ACode :=
 .seq (.region C44r0)
 (.seq (.region C44r1)
 (.ret))
theorem C44_ok : stripF Tryz.prog Tryz.f44 = some C44 := by kernel_rfl
def C45r0 : List AOper := [⟨some 2, .alloc 23 [.c (.int .i64 0), .c (.int .i64 0), .c (.int .i64 0), .c (.int .i64 0), .c (.int .i64 0), .c (.int .i64 0), .c (.int .i64 0), .c (.int .i64 0), .c (.int .i64 0), .c (.int .i64 0), .c (.int .i64 0), .c (.int .i64 0), .c (.bool false), .c (.bool false), .c (.bool false), .c (.bool false)], none, true, []⟩]
def C45r1 : List AOper := [⟨some 3, .mv (.t 0), none, true, []⟩,
 ⟨some 4, .call (.k (.c (.fn 91 [] []))) [(.t 3), (.k (.c (.int .i64 0))), (.k (.c (.int .i64 5)))], none, true, []⟩,
 ⟨some 5, .mv (.t 0), none, true, []⟩,
 ⟨some 6, .call (.k (.c (.fn 92 [] []))) [(.t 5), (.k (.c (.int .u32 16777216)))], none, true, []⟩,
 ⟨some 7, .mv (.t 0), none, true, []⟩,
 ⟨some 8, .call (.k (.c (.fn 95 [] []))) [(.t 7), (.k (.c (.int .i64 5))), (.k (.c (.int .i64 19)))], none, true, []⟩,
 ⟨some 9, .bin .mul (.k (.c (.int .i64 4))) (.t 8), none, true, []⟩,
 ⟨some 10, .build [.c (.int .i64 0), .c (.int .i64 0), .c (.int .i64 0), .c (.int .i64 0), .c (.int .i64 0), .c (.int .i64 0), .c (.int .i64 0), .c (.int .i64 0), .c (.int .i64 0), .c (.int .i64 0), .c (.int .i64 0), .c (.int .i64 0), .c (.bool false), .c (.bool false), .c (.bool false), .c (.bool false)] [(0, 1, (.k (.c (.int .i64 14)))), (2, 1, (.t 4)), (14, 1, (.t 6)), (6, 1, (.t 9))], none, true, []⟩,
 ⟨none, .stn 16 (.t 2) (.t 10), none, true, []⟩]
def C45 : ACode :=
 .seq (.region C45r0)
 (.seq (.region C45r1)
 (.ret))
theorem C45_ok : stripF Tryz.prog Tryz.f45 = some C45 := by kernel_rfl
def C46r0 : List AOper := [⟨some 3, .box 23 (.t 1), none, true, []⟩,
 ⟨some 4, .mv (.k (.c (.int .u32 0))), none, true, []⟩]
def C46r1 : List AOper := [⟨some 5, .mv (.t 0), none, false, []⟩,
 ⟨some 6, .faddr (.t 3) 2, none, false, []⟩,
 ⟨some 7, .ld1 (.t 6), none, false, []⟩,
 ⟨some 8, .call (.k (.c (.fn 88 [] []))) [(.t 5), (.t 7), (.k (.c (.int .i64 0))), (.k (.c (.int .i64 5)))], none, false, []⟩,
 ⟨some 9, .faddr (.t 3) 14, none, false, []⟩,
 ⟨some 10, .ld1 (.t 9), none, false, []⟩,
 ⟨some 11, .call (.k (.c (.fn 89 [] []))) [(.t 8), (.t 10), (.k (.c (.int .u32 16777216)))], none, false, []⟩,
 ⟨some 12, .faddr (.t 3) 8, none, false, []⟩,
 ⟨some 13, .ld1 (.t 12), none, false, []⟩,
 ⟨some 14, .bin .shr (.t 13) (.k (.c (.int .u64 5))), none, false, []⟩,
 ⟨some 15, .call (.k (.c (.fn 88 [] []))) [(.t 11), (.t 14), (.k (.c (.int .i64 31))), (.k (.c (.int .i64 1)))], none, false, []⟩,
 ⟨some 16, .faddr (.t 3) 8, none, false, []⟩,
 ⟨some 17, .ld1 (.t 16), none, false, []⟩,
 ⟨some 18, .call (.k (.c (.fn 88 [] []))) [(.t 15), (.t 17), (.k (.c (.int .i64 19))), (.k (.c (.int .i64 5)))], none, false, []⟩,
 ⟨some 19, .faddr (.t 3) 6, none, false, []⟩,
 ⟨some 20, .ld1 (.t 19), none, false, []⟩,
 ⟨some 21, .bin .shr (.t 20) (.k (.c (.int .u64 2))), none, false, []⟩,
 ⟨some 22, .call (.k (.c (.fn 88 [] []))) [(.t 18), (.t 21), (.k (.c (.int .i64 5))), (.k (.c (.int .i64 14)))], none, true, []⟩,
 ⟨some 4, .mv (.t 22), none, true, []⟩]
def C46 : ACode :=
 .seq (.region C46r0)
 (.seq (.region C46r1)
 (.ret))
theorem C46_ok : stripF Tryz.prog Tryz.f46 = some C46 := by kernel_rfl
def C47r0 : List AOper := [⟨some 2, .alloc 23 [.c (.int .i64 0), .c (.int .i64 0), .c (.int .i64 0), .c (.int .i64 0), .c (.int .i64 0), .c (.int .i64 0), .c (.int .i64 0), .c (.int .i64 0), .c (.int .i64 0), .c (.int .i64 0), .c (.int .i64 0), .c (.int .i64 0), .c (.bool false), .c (.bool false), .c (.bool false), .c (.bool false)], none, true, []⟩]
def C47r1 : List AOper := [⟨some 3, .mv (.t 0), none, true, []⟩,
 ⟨some 4, .call (.k (.c (.fn 91 [] []))) [(.t 3), (.k (.c (.int .i64 0))), (.k (.c (.int .i64 5)))], none, true, []⟩,
 ⟨some 5, .mv (.t 0), none, true, []⟩,
 ⟨some 6, .call (.k (.c (.fn 92 [] []))) [(.t 5), (.k (.c (.int .u32 16777216)))], none, true, []⟩,
 ⟨some 7, .mv (.t 0), none, true, []⟩,
 ⟨some 8, .call (.k (.c (.fn 91 [] []))) [(.t 7), (.k (.c (.int .i64 31))), (.k (.c (.int .i64 1)))], none, true, []⟩,
 ⟨some 9, .bin .shl (.t 8) (.k (.c (.int .u64 5))), none, true, []⟩,
 ⟨some 10, .mv (.t 0), none, true, []⟩,
 ⟨some 11, .call (.k (.c (.fn 91 [] []))) [(.t 10), (.k (.c (.int .i64 19))), (.k (.c (.int .i64 5)))], none, true, []⟩,
 ⟨some 12, .bin .or (.t 9) (.t 11), none, true, []⟩,
 ⟨some 13, .mv (.t 0), none, true, []⟩,
 ⟨some 14, .call (.k (.c (.fn 95 [] []))) [(.t 13), (.k (.c (.int .i64 5))), (.k (.c (.int .i64 14)))], none, true, []⟩,
 ⟨some 15, .bin .mul (.k (.c (.int .i64 4))) (.t 14), none, true, []⟩,
 ⟨some 16, .build [.c (.int .i64 0), .c (.int .i64 0), .c (.int .i64 0), .c (.int .i64 0), .c (.int .i64 0), .c (.int .i64 0), .c (.int .i64 0), .c (.int .i64 0), .c (.int .i64 0), .c (.int .i64 0), .c (.int .i64 0), .c (.int .i64 0), .c (.bool false), .c (.bool false), .c (.bool false), .c (.bool false)] [(0, 1, (.k (.c (.int .i64 15)))), (2, 1, (.t 4)), (14, 1, (.t 6)), (8, 1, (.t 12)), (6, 1, (.t 15))], none, true, []⟩,
 ⟨none, .stn 16 (.t 2) (.t 16), none, true, []⟩]
def C47 : ACode :=
 .seq (.region C47r0)
 (.seq (.region C47r1)
 (.ret))
theorem C47_ok : stripF Tryz.prog Tryz.f47 = some C47 := by kernel_rfl
def C48r0 : List AOper := [⟨some 3, .box 23 (.t 1), none, true, []⟩,
 ⟨some 4, .mv (.k (.c (.int .u32 0))), none, true, []⟩]
def C48r1 : List AOper := [⟨some 5, .mv (.t 0), none, false, []⟩,
 ⟨some 6, .faddr (.t 3) 3, none, false, []⟩,
 ⟨some 7, .ld1 (.t 6), none, false, []⟩,
 ⟨some 8, .call (.k (.c (.fn 88 [] []))) [(.t 5), (.t 7), (.k (.c (.int .i64 5))), (.k (.c (.int .i64 5)))], none, false, []⟩,
 ⟨some 9, .faddr (.t 3) 1, none, false, []⟩,
 ⟨some 10, .ld1 (.t 9), none, false, []⟩,
 ⟨some 11, .call (.k (.c (.fn 88 [] []))) [(.t 8), (.t 10), (.k (.c (.int .i64 21))), (.k (.c (.int .i64 2)))], none, true, []⟩,
 ⟨some 4, .mv (.t 11), none, true, []⟩]
def C48 : ACode :=
 .seq (.region C48r0)
 (.seq (.region C48r1)
 (.ret))
theorem C48_ok : stripF Tryz.prog Tryz.f48 = some C48 := by kernel_rfl
def C49r0 : List AOper := [⟨some 2, .alloc 23 [.c (.int .i64 0), .c (.int .i64 0), .c (.int .i64 0), .c (.int .i64 0), .c (.int .i64 0), .c (.int .i64 0), .c (.int .i64 0), .c (.int .i64 0), .c (.int .i64 0), .c (.int .i64 0), .c (.int .i64 0), .c (.int .i64 0), .c (.bool false), .c (.bool false), .c (.bool false), .c (.bool false)], none, true, []⟩]
def C49r1 : List AOper := [⟨some 3, .mv (.t 0), none, true, []⟩,
 ⟨some 4, .call (.k (.c (.fn 91 [] []))) [(.t 3), (.k (.c (.int .i64 5))), (.k (.c (.int .i64 5)))], none, true, []⟩,
 ⟨some 5, .mv (.t 0), none, true, []⟩,
 ⟨some 6, .call (.k (.c (.fn 91 [] []))) [(.t 5), (.k (.c (.int .i64 21))), (.k (.c (.int .i64 2)))], none, true, []⟩,
 ⟨some 7, .build [.c (.int .i64 0), .c (.int .i64 0), .c (.int .i64 0), .c (.int .i64 0), .c (.int .i64 0), .c (.int .i64 0), .c (.int .i64 0), .c (.int .i64 0), .c (.int .i64 0), .c (.int .i64 0), .c (.int .i64 0), .c (.int .i64 0), .c (.bool false), .c (.bool false), .c (.bool false), .c (.bool false)] [(0, 1, (.k (.c (.int .i64 16)))), (3, 1, (.t 4)), (1, 1, (.t 6))], none, true, []⟩,
 ⟨none, .stn 16 (.t 2) (.t 7), none, true, []⟩]
def C49 : ACode :=
 .seq (.region C49r0)
 (.seq (.region C49r1)
 (.ret))
theorem C49_ok : stripF Tryz.prog Tryz.f49 = some C49 := by kernel_rfl
def C50r0 : List AOper := [⟨some 3, .box 23 (.t 1), none, true, []⟩,
 ⟨some 4, .mv (.k (.c (.int .u32 0))), none, true, []⟩]
def C50r1 : List AOper := [⟨some 5, .mv (.t 0), none, false, []⟩,
 ⟨some 6, .ldn 16 (.t 3), none, false, []⟩,
 ⟨some 7, .call (.k (.c (.fn 54 [] []))) [(.t 5), (.t 6)], none, false, []⟩,
 ⟨some 8, .faddr (.t 3) 6, none, false, []⟩,
 ⟨some 9, .ld1 (.t 8), none, false, []⟩,
 ⟨some 10, .bin .quo (.t 9) (.k (.c (.int .i64 8))), none, false, []⟩,
 ⟨some 11, .call (.k (.c (.fn 88 [] []))) [(.t 7), (.t 10), (.k (.c (.int .i64 10))), (.k (.c (.int .i64 12)))], none, true, []⟩,
 ⟨some 4, .mv (.t 11), none, true, []⟩]
def C50 : ACode :=
 .seq (.region C50r0)
 (.seq (.region C50r1)
 (.ret))
theorem C50_ok : stripF Tryz.prog Tryz.f50 = some C50 := by kernel_rfl
def C51r0 : List AOper := [⟨some 1, .box 3 (.t 0), none, true, []⟩,
 ⟨some 2, .mv (.k (.c (.nilfn))), none, true, []⟩]
def C51r1 : List AOper := [⟨some 3, .mkfn 96 [] [(.t 1)], none, true, []⟩,
 ⟨some 2, .mv (.t 3), none, true, []⟩]
def C51 : ACode :=
 .seq (.region C51r0)
 (.seq (.region C51r1)
 (.ret))
theorem C51_ok : stripF Tryz.prog Tryz.f51 = some C51 := by kernel_rfl
def C52r0 : List AOper := [⟨some 3, .box 23 (.t 1), none, true, []⟩,
 ⟨some 4, .mv (.k (.c (.int .u32 0))), none, true, []⟩]
def C52r1 : List AOper := [⟨some 5, .mv (.t 0), none, false, []⟩,
 ⟨some 6, .ldn 16 (.t 3), none, false, []⟩,
 ⟨some 7, .call (.k (.c (.fn 54 [] []))) [(.t 5), (.t 6)], none, false, []⟩,
 ⟨some 8, .faddr (.t 3) 8, none, false, []⟩,
 ⟨some 9, .ld1 (.t 8), none, false, []⟩,
 ⟨some 10, .bin .quo (.t 9) (.k (.c (.int .i64 3))), none, false, []⟩,
 ⟨some 11, .call (.k (.c (.fn 88 [] []))) [(.t 7), (.t 10), (.k (.c (.int .i64 12))), (.k (.c (.int .i64 1)))], none, true, []⟩,
 ⟨some 4, .mv (.t 11), none, true, []⟩]
def C52 : ACode :=
 .seq (.region C52r0)
 (.seq (.region C52r1)
 (.ret))
theorem C52_ok : stripF Tryz.prog Tryz.f52 = some C52 := by kernel_rfl
def C53r0 : List AOper := [⟨some 1, .box 3 (.t 0), none, true, []⟩,
 ⟨some 2, .mv (.k (.c (.nilfn))), none, true, []⟩]
def C53r1 : List AOper := [⟨some 3, .mkfn 97 [] [(.t 1)], none, true, []⟩,
 ⟨some 2, .mv (.t 3), none, true, []⟩]
def C53 : ACode :=
 .seq (.region C53r0)
 (.seq (.region C53r1)
 (.ret))
theorem C53_ok : stripF Tryz.prog Tryz.f53 = some C53 := by kernel_rfl
def C54r0 : List AOper := [⟨some 3, .box 23 (.t 1), none, true, []⟩,
 ⟨some 4, .mv (.k (.c (.int .u32 0))), none, true, []⟩]
def C54r1 : List AOper := [⟨some 5, .mv (.t 0), none, false, []⟩,
 ⟨some 6, .faddr (.t 3) 2, none, false, []⟩,
 ⟨some 7, .ld1 (.t 6), none, false, []⟩,
 ⟨some 8, .call (.k (.c (.fn 88 [] []))) [(.t 5), (.t 7), (.k (.c (.int .i64 0))), (.k (.c (.int .i64 5)))], none, false, []⟩,
 ⟨some 9, .faddr (.t 3) 3, none, false, []⟩,
 ⟨some 10, .ld1 (.t 9), none, false, []⟩,
 ⟨some 11, .call (.k (.c (.fn 88 [] []))) [(.t 8), (.t 10), (.k (.c (.int .i64 5))), (.k (.c (.int .i64 5)))], none, false, []⟩,
 ⟨some 12, .faddr (.t 3) 4, none, false, []⟩,
 ⟨some 13, .ld1 (.t 12), none, false, []⟩,
 ⟨some 14, .call (.k (.c (.fn 88 [] []))) [(.t 11), (.t 13), (.k (.c (.int .i64 16))), (.k (.c (.int .i64 5)))], none, true, []⟩,
 ⟨some 4, .mv (.t 14), none, true, []⟩]
def C54 : ACode :=
 .seq (.region C54r0)
 (.seq (.region C54r1)
 (.ret))
theorem C54_ok : stripF Tryz.prog Tryz.f54 = some C54 := by kernel_rfl
def C55r0 : List AOper := [⟨some 2, .box 3 (.t 0), none, true, []⟩,
 ⟨some 3, .box 3 (.t 1), none, true, []⟩,
 ⟨some 4, .mv (.k (.c (.nilfn))), none, true, []⟩]
def C55r1 : List AOper := [⟨some 5, .mkfn 98 [] [(.t 2), (.t 3)], none, true, []⟩,
 ⟨some 4, .mv (.t 5), none, true, []⟩]
def C55 : ACode :=
 .seq (.region C55r0)
 (.seq (.region C55r1)
 (.ret))
theorem C55_ok : stripF Tryz.prog Tryz.f55 = some C55 := by kernel_rfl
def C56r0 : List AOper := [⟨some 3, .box 23 (.t 1), none, true, []⟩,
 ⟨some 4, .mv (.k (.c (.int .u32 0))), none, true, []⟩]
def C56r1 : List AOper := [⟨some 5, .mv (.t 0), none, false, []⟩,
 ⟨some 6, .ldn 16 (.t 3), none, false, []⟩,
 ⟨some 7, .call (.k (.c (.fn 54 [] []))) [(.t 5), (.t 6)], none, false, []⟩,
 ⟨some 8, .faddr (.t 3) 1, none, false, []⟩,
 ⟨some 9, .ld1 (.t 8), none, false, []⟩,
 ⟨some 10, .call (.k (.c (.fn 88 [] []))) [(.t 7), (.t 9), (.k (.c (.int .i64 15))), (.k (.c (.int .i64 1)))], none, true, []⟩,
 ⟨some 4, .mv (.t 10), none, true, []⟩]
def C56 : ACode :=
 .seq (.region C56r0)
 (.seq (.region C56r1)
 (.ret))
theorem C56_ok : stripF Tryz.prog Tryz.f56 = some C56 := by kernel_rfl
def C57r0 : List AOper := [⟨some 1, .box 3 (.t 0), none, true, []⟩,
 ⟨some 2, .mv (.k (.c (.nilfn))), none, true, []⟩]
def C57r1 : List AOper := [⟨some 3, .mkfn 99 [] [(.t 1)], none, true, []⟩,
 ⟨some 2, .mv (.t 3), none, true, []⟩]
def C57 : ACode :=
 .seq (.region C57r0)
 (.seq (.region C57r1)
 (.ret))
theorem C57_ok : stripF Tryz.prog Tryz.f57 = some C57 := by kernel_rfl
def C58r0 : List AOper := [⟨some 1, .box 3 (.t 0), none, true, []⟩,
 ⟨some 2, .mv (.k (.c (.nilfn))), none, true, []⟩]
def C58r1 : List AOper := [⟨some 3, .mkfn 100 [] [(.t 1)], none, true, []⟩,
 ⟨some 2, .mv (.t 3), none, true, []⟩]
def C58 : ACode :=
 .seq (.region C58r0)
 (.seq (.region C58r1)
 (.ret))
theorem C58_ok : stripF Tryz.prog Tryz.f58 = some C58 := by kernel_rfl
def C59r0 : List AOper := [⟨some 2, .box 3 (.t 0), none, true, []⟩,
 ⟨some 3, .box 3 (.t 1), none, true, []⟩,
 ⟨some 4, .mv (.k (.c (.nilfn))), none, true, []⟩]
def C59r1 : List AOper := [⟨some 5, .mkfn 101 [] [(.t 2), (.t 3)], none, true, []⟩,
 ⟨some 4, .mv (.t 5), none, true, []⟩]
def C59 : ACode :=
 .seq (.region C59r0)
 (.seq (.region C59r1)
 (.ret))
theorem C59_ok : stripF Tryz.prog Tryz.f59 = some C59 := by kernel_rfl
def C60r0 : List AOper := [⟨some 4, .box 3 (.t 0), none, true, []⟩,
 ⟨some 5, .box 3 (.t 1), none, true, []⟩,
 ⟨some 6, .box 3 (.t 2), none, true, []⟩,
 ⟨some 7, .box 3 (.t 3), none, true, []⟩,
 ⟨some 8, .mv (.k (.c (.nilfn))), none, true, []⟩]
def C60r1 : List AOper := [⟨some 9, .mkfn 102 [] [(.t 4), (.t 5), (.t 6), (.t 7)], none, true, []⟩,
 ⟨some 8, .mv (.t 9), none, true, []⟩]
def C60 : ACode :=
 .seq (.region C60r0)
 (.seq (.region C60r1)
 (.ret))
theorem C60_ok : stripF Tryz.prog Tryz.f60 = some C60 := by kernel_rfl
def C61r0 : List AOper := [⟨some 1, .box 3 (.t 0), none, true, []⟩,
 ⟨some 2, .mv (.k (.c (.nilfn))), none, true, []⟩]
def C61r1 : List AOper := [⟨some 3, .mkfn 103 [] [(.t 1)], none, true, []⟩,
 ⟨some 2, .mv (.t 3), none, true, []⟩]
def C61 : ACode :=
 .seq (.region C61r0)
 (.seq (.region C61r1)
 (.ret))
theorem C61_ok : stripF Tryz.prog Tryz.f61 = some C61 := by kernel_rfl
def C62r0 : List AOper := [⟨some 3, .box 23 (.t 1), none, true, []⟩,
 ⟨some 4, .mv (.k (.c (.int .u32 0))), none, true, []⟩]
def C62r1 : List AOper := [⟨some 5, .mv (.t 0), none, false, []⟩,
 ⟨some 6, .faddr (.t 3) 2, none, false, []⟩,
 ⟨some 7, .ld1 (.t 6), none, false, []⟩,
 ⟨some 8, .call (.k (.c (.fn 88 [] []))) [(.t 5), (.t 7), (.k (.c (.int .i64 0))), (.k (.c (.int .i64 5)))], none, false, []⟩,
 ⟨some 9, .faddr (.t 3) 11, none, false, []⟩,
 ⟨some 10, .ld1 (.t 9), none, false, []⟩,
 ⟨some 11, .call (.k (.c (.fn 88 [] []))) [(.t 8), (.t 10), (.k (.c (.int .i64 5))), (.k (.c (.int .i64 15)))], none, true, []⟩,
 ⟨some 4, .mv (.t 11), none, true, []⟩]
def C62 : ACode :=
 .seq (.region C62r0)
 (.seq (.region C62r1)
 (.ret))
theorem C62_ok : stripF Tryz.prog Tryz.f62 = some C62 := by kernel_rfl
def C63r0 : List AOper := [⟨some 1, .box 3 (.t 0), none, true, []⟩,
 ⟨some 2, .mv (.k (.c (.nilfn))), none, true, []⟩]
def C63r1 : List AOper := [⟨some 3, .mkfn 104 [] [(.t 1)], none, true, []⟩,
 ⟨some 2, .mv (.t 3), none, true, []⟩]
def C63 : ACode :=
 .seq (.region C63r0)
 (.seq (.region C63r1)
 (.ret))
theorem C63_ok : stripF Tryz.prog Tryz.f63 = some C63 := by kernel_rfl
end Go.Proofs.YteikpddilabppaaGreatR

set_option linter.unusedVariables false
namespace Go.Proofs.YteikpddilabppaaGreatR
open Go.AM
def C69r0 : List AOper := [⟨some 1, .box 23 (.t 0), none, true, []⟩,
 ⟨some 2, .mv (.k (.c (.bool false))), none, true, []⟩]
def C69r1 : List AOper := [⟨some 3, .faddr (.t 1) 6, none, true, []⟩,
 ⟨some 4, .ld1 (.t 3), none, true, []⟩,
 ⟨some 5, .call (.k (.c (.fn 70 [] []))) [(.t 4), (.k (.c (.int .i64 1))), (.k (.c (.int .i64 0))), (.k (.c (.int .i64 4095)))], none, true, []⟩,
 ⟨some 6, .mv (.t 5), none, true, []⟩,
 ⟨some 7, .faddr (.t 1) 8, some (6, true), true, []⟩,
 ⟨some 8, .ld1 (.t 7), some (6, true), true, []⟩,
 ⟨some 9, .call (.k (.c (.fn 70 [] []))) [(.t 8), (.k (.c (.int .i64 12))), (.k (.c (.int .i64 0))), (.k (.c (.int .i64 12)))], some (6, true), true, []⟩,
 ⟨some 10, .pick 6 (.t 9) (.k (.c (.bool false))), none, true, []⟩,
 ⟨some 2, .mv (.t 10), none, true, []⟩]
def C69 : ACode :=
 .seq (.region C69r0)
 (.seq (.region C69r1)
 (.ret))
theorem C69_ok : stripF Tryz.prog Tryz.f69 = some C69 := by kernel_rfl
def C70r0 : List AOper := [⟨some 8, .mv (.k (.c (.bool false))), none, true, []⟩]
def C70r1 : List AOper := [⟨some 9, .mv (.t 0), none, true, []⟩,
 ⟨some 10, .mv (.t 2), none, true, []⟩,
 ⟨some 11, .bin .geq (.t 9) (.t 10), none, true, []⟩,
 ⟨some 12, .mv (.t 11), none, true, []⟩,
 ⟨some 13, .mv (.t 0), some (12, true), true, []⟩,
 ⟨some 14, .mv (.t 3), some (12, true), true, []⟩,
 ⟨some 15, .bin .leq (.t 13) (.t 14), some (12, true), true, []⟩,
 ⟨some 16, .pick 12 (.t 15) (.k (.c (.bool false))), none, true, []⟩,
 ⟨some 17, .mv (.t 16), none, true, []⟩,
 ⟨some 18, .mv (.t 0), some (17, true), true, []⟩,
 ⟨some 19, .mv (.t 1), some (17, true), true, []⟩,
 ⟨some 20, .bin .rem (.t 18) (.t 19), some (17, true), true, []⟩,
 ⟨some 21, .bin .eql (.t 20) (.k (.c (.int .i64 0))), some (17, true), true, []⟩,
 ⟨some 22, .pick 17 (.t 21) (.k (.c (.bool false))), none, true, []⟩,
 ⟨some 8, .mv (.t 22), none, true, []⟩]
def C70 : ACode :=
 .seq (.region C70r0)
 (.seq (.region C70r1)
 (.ret))
theorem C70_ok : stripF Tryz.prog Tryz.f70 = some C70 := by kernel_rfl
def C71r0 : List AOper := [⟨some 1, .box 23 (.t 0), none, true, []⟩,
 ⟨some 2, .mv (.k (.c (.bool false))), none, true, []⟩]
def C71r1 : List AOper := [⟨some 3, .faddr (.t 1) 9, none, true, []⟩,
 ⟨some 4, .ld1 (.t 3), none, true, []⟩,
 ⟨some 5, .call (.k (.c (.fn 70 [] []))) [(.t 4), (.k (.c (.int .i64 1))), (.k (.c (.int .i64 0))), (.k (.c (.int .i64 2)))], none, true, []⟩,
 ⟨some 6, .mv (.t 5), none, true, []⟩,
 ⟨some 7, .faddr (.t 1) 8, some (6, true), true, []⟩,
 ⟨some 8, .ld1 (.t 7), some (6, true), true, []⟩,
 ⟨some 9, .call (.k (.c (.fn 70 [] []))) [(.t 8), (.k (.c (.int .i64 1))), (.k (.c (.int .i64 0))), (.k (.c (.int .i64 63)))], some (6, true), true, []⟩,
 ⟨some 10, .pick 6 (.t 9) (.k (.c (.bool false))), none, true, []⟩,
 ⟨some 2, .mv (.t 10), none, true, []⟩]
def C71 : ACode :=
 .seq (.region C71r0)
 (.seq (.region C71r1)
 (.ret))
theorem C71_ok : stripF Tryz.prog Tryz.f71 = some C71 := by kernel_rfl
def C72r0 : List AOper := [⟨some 1, .box 23 (.t 0), none, true, []⟩,
 ⟨some 2, .mv (.k (.c (.bool false))), none, true, []⟩]
def C72r1 : List AOper := [⟨some 3, .ldn 16 (.t 1), none, true, []⟩,
 ⟨some 4, .call (.k (.c (.fn 73 [] []))) [(.t 3)], none, true, []⟩,
 ⟨some 5, .mv (.t 4), none, true, []⟩,
 ⟨some 6, .faddr (.t 1) 9, some (5, true), true, []⟩,
 ⟨some 7, .ld1 (.t 6), some (5, true), true, []⟩,
 ⟨some 8, .call (.k (.c (.fn 70 [] []))) [(.t 7), (.k (.c (.int .i64 1))), (.k (.c (.int .i64 0))), (.k (.c (.int .i64 3)))], some (5, true), true, []⟩,
 ⟨some 9, .pick 5 (.t 8) (.k (.c (.bool false))), none, true, []⟩,
 ⟨some 10, .mv (.t 9), none, true, []⟩,
 ⟨some 11, .faddr (.t 1) 8, some (10, true), true, []⟩,
 ⟨some 12, .ld1 (.t 11), some (10, true), true, []⟩,
 ⟨some 13, .call (.k (.c (.fn 70 [] []))) [(.t 12), (.k (.c (.int .i64 1))), (.k (.c (.int .i64 0))), (.k (.c (.int .i64 63)))], some (10, true), true, []⟩,
 ⟨some 14, .pick 10 (.t 13) (.k (.c (.bool false))), none, true, []⟩,
 ⟨some 2, .mv (.t 14), none, true, []⟩]
def C72 : ACode :=
 .seq (.region C72r0)
 (.seq (.region C72r1)
 (.ret))
theorem C72_ok : stripF Tryz.prog Tryz.f72 = some C72 := by kernel_rfl
def C73r0 : List AOper := [⟨some 1, .box 23 (.t 0), none, true, []⟩,
 ⟨some 2, .mv (.k (.c (.bool false))), none, true, []⟩]
def C73r1 : List AOper := [⟨some 3, .faddr (.t 1) 1, none, true, []⟩,
 ⟨some 4, .ld1 (.t 3), none, true, []⟩,
 ⟨some 5, .call (.k (.c (.fn 70 [] []))) [(.t 4), (.k (.c (.int .i64 1))), (.k (.c (.int .i64 0))), (.k (.c (.int .i64 2)))], none, true, []⟩,
 ⟨some 6, .mv (.t 5), none, true, []⟩,
 ⟨some 7, .faddr (.t 1) 12, some (6, true), true, []⟩,
 ⟨some 8, .ld1 (.t 7), some (6, true), true, []⟩,
 ⟨some 9, .un .not (.t 8), some (6, true), true, []⟩,
 ⟨some 10, .mv (.t 9), some (6, true), true, []⟩,
 ⟨some 11, .faddr (.t 1) 1, some (10, false), true, []⟩,
 ⟨some 12, .ld1 (.t 11), some (10, false), true, []⟩,
 ⟨some 13, .bin .eql (.t 12) (.k (.c (.int .i64 0))), some (10, false), true, []⟩,
 ⟨some 14, .pick 10 (.k (.c (.bool true))) (.t 13), some (6, true), true, []⟩,
 ⟨some 15, .pick 6 (.t 14) (.k (.c (.bool false))), none, true, []⟩,
 ⟨some 2, .mv (.t 15), none, true, []⟩]
def C73 : ACode :=
 .seq (.region C73r0)
 (.seq (.region C73r1)
 (.ret))
theorem C73_ok : stripF Tryz.prog Tryz.f73 = some C73 := by kernel_rfl
def C74r0 : List AOper := [⟨some 1, .box 23 (.t 0), none, true, []⟩,
 ⟨some 2, .mv (.k (.c (.bool false))), none, true, []⟩]
def C74r1 : List AOper := [⟨some 6, .faddr (.t 1) 8, none, true, []⟩,
 ⟨some 7, .ld1 (.t 6), none, true, []⟩,
 ⟨some 8, .faddr (.t 1) 6, none, true, []⟩,
 ⟨some 9, .ld1 (.t 8), none, true, []⟩,
 ⟨some 10, .faddr (.t 1) 7, none, true, []⟩,
 ⟨some 11, .ld1 (.t 10), none, true, []⟩,
 ⟨some 12, .call (.k (.c (.fn 75 [] []))) [(.t 7), (.t 9), (.t 11)], none, true, []⟩,
 ⟨some 5, .mv (.t 12), none, true, []⟩,
 ⟨some 13, .ext (.t 5) 0, none, true, []⟩,
 ⟨some 14, .ext (.t 5) 1, none, true, []⟩,
 ⟨some 3, .mv (.t 13), none, true, []⟩,
 ⟨some 4, .mv (.t 14), none, true, []⟩]
def C74r2 : List AOper := [⟨some 15, .ldn 16 (.t 1), none, true, []⟩,
 ⟨some 16, .call (.k (.c (.fn 73 [] []))) [(.t 15)], none, true, []⟩,
 ⟨some 17, .mv (.t 16), none, true, []⟩,
 ⟨some 18, .mv (.t 4), some (17, true), true, []⟩,
 ⟨some 19, .bin .eql (.t 18) (.k (.c (.int .i64 0))), some (17, true), true, []⟩,
 ⟨some 20, .pick 17 (.t 19) (.k (.c (.bool false))), none, true, []⟩,
 ⟨some 2, .mv (.t 20), none, true, []⟩]
def C74 : ACode :=
 .seq (.region C74r0)
 (.seq (.region C74r1)
 (.seq (.region C74r2)
 (.ret)))
theorem C74_ok : stripF Tryz.prog Tryz.f74 = some C74 := by kernel_rfl
def C75r0 : List AOper := [⟨some 6, .mv (.k (.c (.int .u64 0))), none, true, []⟩,
 ⟨some 7, .mv (.k (.c (.int .i64 0))), none, true, []⟩]
def C75r1 : List AOper := [⟨some 14, .mv (.t 0), none, true, []⟩,
 ⟨some 15, .bin .or (.t 14) (.k (.c (.int .i64 1))), none, true, []⟩,
 ⟨some 16, .bin .neq (.t 15) (.k (.c (.int .i64 1))), none, true, []⟩,
 ⟨some 17, .mv (.t 16), none, true, []⟩,
 ⟨some 18, .mv (.t 1), some (17, false), true, []⟩,
 ⟨some 19, .bin .or (.t 18) (.k (.c (.int .i64 63))), some (17, false), true, []⟩,
 ⟨some 20, .bin .neq (.t 19) (.k (.c (.int .i64 63))), some (17, false), true, []⟩,
 ⟨some 21, .pick 17 (.k (.c (.bool true))) (.t 20), none, true, []⟩,
 ⟨some 22, .mv (.t 21), none, true, []⟩,
 ⟨some 23, .mv (.t 2), some (22, false), true, []⟩,
 ⟨some 24, .bin .or (.t 23) (.k (.c (.int .i64 63))), some (22, false), true, []⟩,
 ⟨some 25, .bin .neq (.t 24) (.k (.c (.int .i64 63))), some (22, false), true, []⟩,
 ⟨some 26, .pick 22 (.k (.c (.bool true))) (.t 25), none, true, []⟩]
def C75r2 : List AOper := [⟨some 6, .mv (.k (.c (.int .u64 0))), none, true, []⟩,
 ⟨some 7, .mv (.k (.c (.int .i64 1))), none, true, []⟩]
def C75r3 : List AOper := [⟨some 27, .mv (.t 0), none, true, []⟩,
 ⟨some 28, .bin .shl (.t 27) (.k (.c (.int .u64 6))), none, true, []⟩,
 ⟨some 29, .mv (.t 2), none, true, []⟩,
 ⟨some 30, .un .xor (.t 29), none, true, []⟩,
 ⟨some 31, .bin .and (.t 30) (.k (.c (.int .i64 63))), none, true, []⟩,
 ⟨some 32, .bin .or (.t 28) (.t 31), none, true, []⟩,
 ⟨some 8, .mv (.t 32), none, true, []⟩]
def C75r4 : List AOper := [⟨some 33, .mv (.t 8), none, true, []⟩,
 ⟨some 34, .bin .lss (.t 33) (.k (.c (.int .i64 2))), none, true, []⟩]
def C75r5 : List AOper := [⟨some 6, .mv (.k (.c (.int .u64 0))), none, true, []⟩,
 ⟨some 7, .mv (.k (.c (.int .i64 2))), none, true, []⟩]
def C75r6 : List AOper := [⟨some 35, .mv (.t 8), none, true, []⟩,
 ⟨some 36, .conv .u64 (.t 35), none, true, []⟩,
 ⟨some 37, .call (.k (.c (.fn 109 [] []))) [(.t 36)], none, true, []⟩,
 ⟨some 38, .bin .sub (.t 37) (.k (.c (.int .i64 1))), none, true, []⟩,
 ⟨some 39, .bin .shl (.k (.c (.int .i64 1))) (.t 38), none, true, []⟩,
 ⟨some 9, .mv (.t 39), none, true, []⟩]
def C75r7 : List AOper := [⟨some 40, .mv (.t 2), none, true, []⟩,
 ⟨some 41, .mv (.t 9), none, true, []⟩,
 ⟨some 42, .bin .sub (.t 41) (.k (.c (.int .i64 1))), none, true, []⟩,
 ⟨some 43, .bin .and (.t 40) (.t 42), none, true, []⟩,
 ⟨some 10, .mv (.t 43), none, true, []⟩]
def C75r8 : List AOper := [⟨some 44, .mv (.t 10), none, true, []⟩,
 ⟨some 45, .mv (.t 9), none, true, []⟩,
 ⟨some 46, .bin .sub (.t 45) (.k (.c (.int .i64 1))), none, true, []⟩,
 ⟨some 47, .bin .eql (.t 44) (.t 46), none, true, []⟩]
def C75r9 : List AOper := [⟨some 6, .mv (.k (.c (.int .u64 0))), none, true, []⟩,
 ⟨some 7, .mv (.k (.c (.int .i64 2))), none, true, []⟩]
def C75r10 : List AOper := [⟨some 49, .mv (.t 10), none, true, []⟩,
 ⟨some 50, .bin .shl (.k (.c (.int .u64 2))) (.t 49), none, true, []⟩,
 ⟨some 51, .bin .sub (.t 50) (.k (.c (.int .u64 1))), none, true, []⟩,
 ⟨some 52, .mv (.t 1), none, true, []⟩,
 ⟨some 53, .mv (.t 9), none, true, []⟩,
 ⟨some 54, .bin .sub (.t 53) (.k (.c (.int .i64 1))), none, true, []⟩,
 ⟨some 55, .bin .and (.t 52) (.t 54), none, true, []⟩,
 ⟨some 56, .mv (.t 9), none, true, []⟩,
 ⟨some 57, .call (.k (.c (.fn 110 [] []))) [(.t 51), (.t 55), (.t 56)], none, true, []⟩,
 ⟨some 48, .mv (.t 57), none, true, []⟩,
 ⟨some 58, .ext (.t 48) 0, none, true, []⟩,
 ⟨some 59, .ext (.t 48) 1, none, true, []⟩,
 ⟨some 11, .mv (.t 58), none, true, []⟩,
 ⟨some 12, .mv (.t 59), none, true, []⟩]
def C75r11 : List AOper := [⟨some 60, .mv (.t 9), none, true, []⟩,
 ⟨some 13, .mv (.t 60), none, true, []⟩]
def C75r12 : List AOper := [⟨some 61, .mv (.t 13), none, true, []⟩,
 ⟨some 62, .bin .lss (.t 61) (.k (.c (.int .i64 64))), none, true, []⟩]
def C75r13 : List AOper := [⟨some 65, .mv (.t 11), none, true, []⟩,
 ⟨some 66, .mv (.t 11), none, true, []⟩,
 ⟨some 67, .mv (.t 13), none, true, []⟩,
 ⟨some 68, .bin .shl (.t 66) (.t 67), none, true, []⟩,
 ⟨some 69, .bin .or (.t 65) (.t 68), none, true, []⟩,
 ⟨some 11, .mv (.t 69), none, true, []⟩]
def C75r14 : List AOper := [⟨some 63, .mv (.t 13), none, true, []⟩,
 ⟨some 64, .bin .mul (.t 63) (.k (.c (.int .i64 2))), none, true, []⟩,
 ⟨some 13, .mv (.t 64), none, true, []⟩]
def C75r15 : List AOper := [⟨some 70, .mv (.t 11), none, true, []⟩,
 ⟨some 71, .mv (.t 12), none, true, []⟩,
 ⟨some 6, .mv (.t 70), none, true, []⟩,
 ⟨some 7, .mv (.t 71), none, true, []⟩]
def C75 : ACode :=
 .seq (.region C75r0)
 (.seq (.seq (.region C75r1)
 (.cond (.t 26)
 (.seq (.region C75r2)
 (.ret))
 (.skip)))
 (.seq (.region C75r3)
 (.seq (.seq (.region C75r4)
 (.cond (.t 34)
 (.seq (.region C75r5)
 (.ret))
 (.skip)))
 (.seq (.region C75r6)
 (.seq (.region C75r7)
 (.seq (.seq (.region C75r8)
 (.cond (.t 47)
 (.seq (.region C75r9)
 (.ret))
 (.skip)))
 (.seq (.region C75r10)
 (.seq (.seq (.region C75r11)
 (.block 0
 (.loop
 (.seq (.seq (.region C75r12)
 (.cond (.t 62)
 (.skip)
 (.exit 0)))
 (.seq (.block 1
 (.region C75r13))
 (.region C75r14))))))
 (.seq (.region C75r15)
 (.ret))))))))))
theorem C75_ok : stripF Tryz.prog Tryz.f75 = some C75 := by kernel_rfl
def C76r0 : List AOper := [⟨some 1, .box 23 (.t 0), none, true, []⟩,
 ⟨some 2, .mv (.k (.c (.bool false))), none, true, []⟩]
def C76r1 : List AOper := [⟨some 3, .faddr (.t 1) 1, none, true, []⟩,
 ⟨some 4, .ld1 (.t 3), none, true, []⟩,
 ⟨some 5, .call (.k (.c (.fn 70 [] []))) [(.t 4), (.k (.c (.int .i64 1))), (.k (.c (.int .i64 0))), (.k (.c (.int .i64 3)))], none, true, []⟩,
 ⟨some 6, .mv (.t 5), none, true, []⟩,
 ⟨some 7, .faddr (.t 1) 1, some (6, true), true, []⟩,
 ⟨some 8, .ld1 (.t 7), some (6, true), true, []⟩,
 ⟨some 9, .bin .neq (.t 8) (.k (.c (.int .i64 1))), some (6, true), true, []⟩,
 ⟨some 10, .pick 6 (.t 9) (.k (.c (.bool false))), none, true, []⟩,
 ⟨some 11, .mv (.t 10), none, true, []⟩,
 ⟨some 12, .faddr (.t 1) 6, some (11, true), true, []⟩,
 ⟨some 13, .ld1 (.t 12), some (11, true), true, []⟩,
 ⟨some 14, .call (.k (.c (.fn 70 [] []))) [(.t 13), (.k (.c (.int .i64 1))), (.k (.c (.int .i64 0))), (.k (.c (.int .i64 65535)))], some (11, true), true, []⟩,
 ⟨some 15, .pick 11 (.t 14) (.k (.c (.bool false))), none, true, []⟩,
 ⟨some 16, .mv (.t 15), none, true, []⟩,
 ⟨some 17, .faddr (.t 1) 8, some (16, true), true, []⟩,
 ⟨some 18, .ld1 (.t 17), some (16, true), true, []⟩,
 ⟨some 19, .call (.k (.c (.fn 70 [] []))) [(.t 18), (.k (.c (.int .i64 16))), (.k (.c (.int .i64 0))), (.k (.c (.int .i64 48)))], some (16, true), true, []⟩,
 ⟨some 20, .pick 16 (.t 19) (.k (.c (.bool false))), none, true, []⟩,
 ⟨some 2, .mv (.t 20), none, true, []⟩]
def C76 : ACode :=
 .seq (.region C76r0)
 (.seq (.region C76r1)
 (.ret))
theorem C76_ok : stripF Tryz.prog Tryz.f76 = some C76 := by kernel_rfl
def C77r0 : List AOper := [⟨some 1, .box 23 (.t 0), none, true, []⟩,
 ⟨some 2, .mv (.k (.c (.bool false))), none, true, []⟩]
def C77r1 : List AOper := [⟨some 3, .faddr (.t 1) 1, none, true, []⟩,
 ⟨some 4, .ld1 (.t 3), none, true, []⟩,
 ⟨some 5, .call (.k (.c (.fn 70 [] []))) [(.t 4), (.k (.c (.int .i64 2))), (.k (.c (.int .i64 0))), (.k (.c (.int .i64 2)))], none, true, []⟩,
 ⟨some 6, .mv (.t 5), none, true, []⟩,
 ⟨some 7, .faddr (.t 1) 6, some (6, true), true, []⟩,
 ⟨some 8, .ld1 (.t 7), some (6, true), true, []⟩,
 ⟨some 9, .call (.k (.c (.fn 70 [] []))) [(.t 8), (.k (.c (.int .i64 1))), (.k (.c (.int .i64 0))), (.k (.c (.int .i64 63)))], some (6, true), true, []⟩,
 ⟨some 10, .pick 6 (.t 9) (.k (.c (.bool false))), none, true, []⟩,
 ⟨some 11, .mv (.t 10), none, true, []⟩,
 ⟨some 12, .faddr (.t 1) 7, some (11, true), true, []⟩,
 ⟨some 13, .ld1 (.t 12), some (11, true), true, []⟩,
 ⟨some 14, .call (.k (.c (.fn 70 [] []))) [(.t 13), (.k (.c (.int .i64 1))), (.k (.c (.int .i64 0))), (.k (.c (.int .i64 63)))], some (11, true), true, []⟩,
 ⟨some 15, .pick 11 (.t 14) (.k (.c (.bool false))), none, true, []⟩,
 ⟨some 2, .mv (.t 15), none, true, []⟩]
def C77 : ACode :=
 .seq (.region C77r0)
 (.seq (.region C77r1)
 (.ret))
theorem C77_ok : stripF Tryz.prog Tryz.f77 = some C77 := by kernel_rfl
def C78r0 : List AOper := [⟨some 1, .box 52 (.t 0), none, true, []⟩,
 ⟨some 2, .mv (.k (.c (.nilfn))), none, true, []⟩]
def C78r1 : List AOper := [⟨some 3, .mkfn 111 [] [(.t 1)], none, true, []⟩,
 ⟨some 2, .mv (.t 3), none, true, []⟩]
def C78 : ACode :=
 .seq (.region C78r0)
 (.seq (.region C78r1)
 (.ret))
theorem C78_ok : stripF Tryz.prog Tryz.f78 = some C78 := by kernel_rfl
def C79r0 : List AOper := [⟨some 1, .box 23 (.t 0), none, true, []⟩,
 ⟨some 2, .mv (.k (.c (.bool false))), none, true, []⟩]
def C79r1 : List AOper := [⟨some 2, .mv (.k (.c (.bool true))), none, true, []⟩]
def C79 : ACode :=
 .seq (.region C79r0)
 (.seq (.region C79r1)
 (.ret))
theorem C79_ok : stripF Tryz.prog Tryz.f79 = some C79 := by kernel_rfl
def C80r0 : List AOper := [⟨some 1, .box 23 (.t 0), none, true, []⟩,
 ⟨some 2, .mv (.k (.c (.bool false))), none, true, []⟩]
def C80r1 : List AOper := [⟨some 3, .faddr (.t 1) 1, none, true, []⟩,
 ⟨some 4, .ld1 (.t 3), none, true, []⟩,
 ⟨some 5, .call (.k (.c (.fn 70 [] []))) [(.t 4), (.k (.c (.int .i64 1))), (.k (.c (.int .i64 0))), (.k (.c (.int .i64 3)))], none, true, []⟩,
 ⟨some 6, .mv (.t 5), none, true, []⟩,
 ⟨some 7, .faddr (.t 1) 10, some (6, true), true, []⟩,
 ⟨some 8, .ld1 (.t 7), some (6, true), true, []⟩,
 ⟨some 9, .call (.k (.c (.fn 70 [] []))) [(.t 8), (.k (.c (.int .i64 1))), (.k (.c (.int .i64 0))), (.k (.c (.int .i64 15)))], some (6, true), true, []⟩,
 ⟨some 10, .pick 6 (.t 9) (.k (.c (.bool false))), none, true, []⟩,
 ⟨some 2, .mv (.t 10), none, true, []⟩]
def C80 : ACode :=
 .seq (.region C80r0)
 (.seq (.region C80r1)
 (.ret))
theorem C80_ok : stripF Tryz.prog Tryz.f80 = some C80 := by kernel_rfl
def C81r0 : List AOper := [⟨some 1, .box 23 (.t 0), none, true, []⟩,
 ⟨some 2, .mv (.k (.c (.bool false))), none, true, []⟩]
def C81r1 : List AOper := [⟨some 3, .faddr (.t 1) 1, none, true, []⟩,
 ⟨some 4, .ld1 (.t 3), none, true, []⟩,
 ⟨some 5, .bin .eql (.t 4) (.k (.c (.int .i64 0))), none, true, []⟩,
 ⟨some 6, .mv (.t 5), none, true, []⟩,
 ⟨some 7, .faddr (.t 1) 6, some (6, true), true, []⟩,
 ⟨some 8, .ld1 (.t 7), some (6, true), true, []⟩,
 ⟨some 9, .call (.k (.c (.fn 70 [] []))) [(.t 8), (.k (.c (.int .i64 1))), (.k (.c (.int .i64 (-1048576)))), (.k (.c (.int .i64 1048575)))], some (6, true), true, []⟩,
 ⟨some 10, .pick 6 (.t 9) (.k (.c (.bool false))), none, true, []⟩,
 ⟨some 11, .mv (.t 10), none, true, []⟩,
 ⟨some 12, .faddr (.t 1) 1, some (11, false), true, []⟩,
 ⟨some 13, .ld1 (.t 12), some (11, false), true, []⟩,
 ⟨some 14, .bin .eql (.t 13) (.k (.c (.int .i64 1))), some (11, false), true, []⟩,
 ⟨some 15, .mv (.t 14), some (11, false), true, []⟩,
 ⟨some 16, .faddr (.t 1) 6, some (15, true), true, []⟩,
 ⟨some 17, .ld1 (.t 16), some (15, true), true, []⟩,
 ⟨some 18, .call (.k (.c (.fn 70 [] []))) [(.t 17), (.k (.c (.int .i64 4096))), (.k (.c (.int .i64 (-4294967296)))), (.k (.c (.int .i64 4294963200)))], some (15, true), true, []⟩,
 ⟨some 19, .pick 15 (.t 18) (.k (.c (.bool false))), some (11, false), true, []⟩,
 ⟨some 20, .pick 11 (.k (.c (.bool true))) (.t 19), none, true, []⟩,
 ⟨some 2, .mv (.t 20), none, true, []⟩]
def C81 : ACode :=
 .seq (.region C81r0)
 (.seq (.region C81r1)
 (.ret))
theorem C81_ok : stripF Tryz.prog Tryz.f81 = some C81 := by kernel_rfl
def C82r0 : List AOper := [⟨some 1, .box 3 (.t 0), none, true, []⟩,
 ⟨some 2, .mv (.k (.c (.nilfn))), none, true, []⟩]
def C82r1 : List AOper := [⟨some 3, .mkfn 113 [] [(.t 1)], none, true, []⟩,
 ⟨some 2, .mv (.t 3), none, true, []⟩]
def C82 : ACode :=
 .seq (.region C82r0)
 (.seq (.region C82r1)
 (.ret))
theorem C82_ok : stripF Tryz.prog Tryz.f82 = some C82 := by kernel_rfl
def C83r0 : List AOper := [⟨some 1, .box 23 (.t 0), none, true, []⟩,
 ⟨some 2, .mv (.k (.c (.bool false))), none, true, []⟩]
def C83r1 : List AOper := [⟨some 3, .faddr (.t 1) 10, none, true, []⟩,
 ⟨some 4, .ld1 (.t 3), none, true, []⟩,
 ⟨some 5, .call (.k (.c (.fn 70 [] []))) [(.t 4), (.k (.c (.int .i64 1))), (.k (.c (.int .i64 0))), (.k (.c (.int .i64 15)))], none, true, []⟩,
 ⟨some 6, .mv (.t 5), none, true, []⟩,
 ⟨some 7, .call (.k (.c (.fn 82 [] []))) [(.k (.c (.int .i64 20)))], some (6, true), false, []⟩,
 ⟨some 8, .ldn 16 (.t 1), some (6, true), false, []⟩,
 ⟨some 9, .call (.t 7) [(.t 8)], some (6, true), true, []⟩,
 ⟨some 10, .pick 6 (.t 9) (.k (.c (.bool false))), none, true, []⟩,
 ⟨some 2, .mv (.t 10), none, true, []⟩]
def C83 : ACode :=
 .seq (.region C83r0)
 (.seq (.region C83r1)
 (.ret))
theorem C83_ok : stripF Tryz.prog Tryz.f83 = some C83 := by kernel_rfl
def C84r0 : List AOper := [⟨some 1, .box 23 (.t 0), none, true, []⟩,
 ⟨some 2, .mv (.k (.c (.bool false))), none, true, []⟩]
def C84r1 : List AOper := [⟨some 3, .faddr (.t 1) 8, none, true, []⟩,
 ⟨some 4, .ld1 (.t 3), none, true, []⟩,
 ⟨some 5, .call (.k (.c (.fn 70 [] []))) [(.t 4), (.k (.c (.int .i64 1))), (.k (.c (.int .i64 0))), (.k (.c (.int .i64 63)))], none, true, []⟩,
 ⟨some 6, .mv (.t 5), none, true, []⟩,
 ⟨some 7, .call (.k (.c (.fn 82 [] []))) [(.k (.c (.int .i64 15)))], some (6, true), false, []⟩,
 ⟨some 8, .ldn 16 (.t 1), some (6, true), false, []⟩,
 ⟨some 9, .call (.t 7) [(.t 8)], some (6, true), true, []⟩,
 ⟨some 10, .pick 6 (.t 9) (.k (.c (.bool false))), none, true, []⟩,
 ⟨some 2, .mv (.t 10), none, true, []⟩]
def C84 : ACode :=
 .seq (.region C84r0)
 (.seq (.region C84r1)
 (.ret))
theorem C84_ok : stripF Tryz.prog Tryz.f84 = some C84 := by kernel_rfl
def C85r0 : List AOper := [⟨some 1, .box 23 (.t 0), none, true, []⟩,
 ⟨some 2, .mv (.k (.c (.bool false))), none, true, []⟩]
def C85r1 : List AOper := [⟨some 3, .faddr (.t 1) 6, none, true, []⟩,
 ⟨some 4, .ld1 (.t 3), none, true, []⟩,
 ⟨some 5, .call (.k (.c (.fn 70 [] []))) [(.t 4), (.k (.c (.int .i64 8))), (.k (.c (.int .i64 0))), (.k (.c (.int .i64 32760)))], none, true, []⟩,
 ⟨some 2, .mv (.t 5), none, true, []⟩]
def C85 : ACode :=
 .seq (.region C85r0)
 (.seq (.region C85r1)
 (.ret))
theorem C85_ok : stripF Tryz.prog Tryz.f85 = some C85 := by kernel_rfl
def C86r0 : List AOper := [⟨some 1, .box 23 (.t 0), none, true, []⟩,
 ⟨some 2, .mv (.k (.c (.bool false))), none, true, []⟩]
def C86r1 : List AOper := [⟨some 3, .faddr (.t 1) 8, none, true, []⟩,
 ⟨some 4, .ld1 (.t 3), none, true, []⟩,
 ⟨some 5, .call (.k (.c (.fn 70 [] []))) [(.t 4), (.k (.c (.int .i64 3))), (.k (.c (.int .i64 0))), (.k (.c (.int .i64 3)))], none, true, []⟩,
 ⟨some 2, .mv (.t 5), none, true, []⟩]
def C86 : ACode :=
 .seq (.region C86r0)
 (.seq (.region C86r1)
 (.ret))
theorem C86_ok : stripF Tryz.prog Tryz.f86 = some C86 := by kernel_rfl
def C87r0 : List AOper := [⟨some 2, .alloc 48 [.c (.str ⟨#[]⟩), .c (.nilfn)], none, true, []⟩,
 ⟨some 3, .mv (.k (.c (.bool false))), none, true, []⟩]
def C87r1 : List AOper := [⟨some 4, .mv (.t 0), none, true, []⟩]
def C87r2 : List AOper := [⟨some 6, .bin .eql (.t 4) (.k (.c (.int .i64 21))), none, true, []⟩,
 ⟨some 5, .mv (.t 6), none, true, []⟩]
def C87r3 : List AOper := [⟨some 7, .bin .eql (.t 4) (.k (.c (.int .i64 23))), none, true, []⟩,
 ⟨some 5, .mv (.t 7), none, true, []⟩]
def C87r4 : List AOper := [⟨some 9, .bin .eql (.t 4) (.k (.c (.int .i64 22))), none, true, []⟩,
 ⟨some 8, .mv (.t 9), none, true, []⟩]
def C87r5 : List AOper := [⟨some 11, .bin .eql (.t 4) (.k (.c (.int .i64 24))), none, true, []⟩,
 ⟨some 10, .mv (.t 11), none, true, []⟩]
def C87r6 : List AOper := [⟨some 13, .bin .eql (.t 4) (.k (.c (.int .i64 25))), none, true, []⟩,
 ⟨some 12, .mv (.t 13), none, true, []⟩]
def C87r7 : List AOper := [⟨some 15, .bin .eql (.t 4) (.k (.c (.int .i64 27))), none, true, []⟩,
 ⟨some 14, .mv (.t 15), none, true, []⟩]
def C87r8 : List AOper := [⟨some 17, .bin .eql (.t 4) (.k (.c (.int .i64 29))), none, true, []⟩,
 ⟨some 16, .mv (.t 17), none, true, []⟩]
def C87r9 : List AOper := [⟨some 19, .bin .eql (.t 4) (.k (.c (.int .i64 36))), none, true, []⟩,
 ⟨some 18, .mv (.t 19), none, true, []⟩]
def C87r10 : List AOper := [⟨some 21, .bin .eql (.t 4) (.k (.c (.int .i64 26))), none, true, []⟩,
 ⟨some 20, .mv (.t 21), none, true, []⟩]
def C87r11 : List AOper := [⟨some 23, .bin .eql (.t 4) (.k (.c (.int .i64 28))), none, true, []⟩,
 ⟨some 22, .mv (.t 23), none, true, []⟩]
def C87r12 : List AOper := [⟨some 24, .bin .eql (.t 4) (.k (.c (.int .i64 30))), none, true, []⟩,
 ⟨some 22, .mv (.t 24), none, true, []⟩]
def C87r13 : List AOper := [⟨some 26, .bin .eql (.t 4) (.k (.c (.int .i64 31))), none, true, []⟩,
 ⟨some 25, .mv (.t 26), none, true, []⟩]
def C87r14 : List AOper := [⟨some 27, .bin .eql (.t 4) (.k (.c (.int .i64 32))), none, true, []⟩,
 ⟨some 25, .mv (.t 27), none, true, []⟩]
def C87r15 : List AOper := [⟨some 29, .bin .eql (.t 4) (.k (.c (.int .i64 33))), none, true, []⟩,
 ⟨some 28, .mv (.t 29), none, true, []⟩]
def C87r16 : List AOper := [⟨some 31, .bin .eql (.t 4) (.k (.c (.int .i64 34))), none, true, []⟩,
 ⟨some 30, .mv (.t 31), none, true, []⟩]
def C87r17 : List AOper := [⟨some 32, .bin .eql (.t 4) (.k (.c (.int .i64 35))), none, true, []⟩,
 ⟨some 30, .mv (.t 32), none, true, []⟩]
def C87r18 : List AOper := [⟨some 34, .bin .eql (.t 4) (.k (.c (.int .i64 37))), none, true, []⟩,
 ⟨some 33, .mv (.t 34), none, true, []⟩]
def C87r19 : List AOper := [⟨some 35, .bslice 3 1 [.c (.int .i64 0)] 2 [(0, 1, (.k (.c (.int .i64 0)))), (1, 1, (.k (.c (.int .i64 1))))], none, true, []⟩,
 ⟨some 36, .call (.k (.c (.fn 78 [] []))) [(.t 35)], none, true, []⟩,
 ⟨some 37, .build [.c (.str ⟨#[]⟩), .c (.nilfn)] [(0, 1, (.k (.c (.str ⟨#[100, 110, 115]⟩)))), (1, 1, (.t 36))], none, true, []⟩,
 ⟨none, .stn 2 (.t 2) (.t 37), none, true, []⟩,
 ⟨some 3, .mv (.k (.c (.bool true))), none, true, []⟩]
def C87r20 : List AOper := [⟨some 38, .build [.c (.str ⟨#[]⟩), .c (.nilfn)] [(0, 1, (.k (.c (.str ⟨#[100, 110]⟩)))), (1, 1, (.k (.c (.fn 79 [] []))))], none, true, []⟩,
 ⟨none, .stn 2 (.t 2) (.t 38), none, true, []⟩,
 ⟨some 3, .mv (.k (.c (.bool true))), none, true, []⟩]
def C87r21 : List AOper := [⟨some 39, .bslice 3 1 [.c (.int .i64 0)] 2 [(0, 1, (.k (.c (.int .i64 0)))), (1, 1, (.k (.c (.int .i64 1))))], none, true, []⟩,
 ⟨some 40, .call (.k (.c (.fn 78 [] []))) [(.t 39)], none, true, []⟩,
 ⟨some 41, .build [.c (.str ⟨#[]⟩), .c (.nilfn)] [(0, 1, (.k (.c (.str ⟨#[100, 110, 109, 115]⟩)))), (1, 1, (.t 40))], none, true, []⟩,
 ⟨none, .stn 2 (.t 2) (.t 41), none, true, []⟩,
 ⟨some 3, .mv (.k (.c (.bool true))), none, true, []⟩]
def C87r22 : List AOper := [⟨some 42, .build [.c (.str ⟨#[]⟩), .c (.nilfn)] [(0, 1, (.k (.c (.str ⟨#[]⟩)))), (1, 1, (.k (.c (.fn 79 [] []))))], none, true, []⟩,
 ⟨none, .stn 2 (.t 2) (.t 42), none, true, []⟩,
 ⟨some 3, .mv (.k (.c (.bool true))), none, true, []⟩]
def C87r23 : List AOper := [⟨some 43, .build [.c (.str ⟨#[]⟩), .c (.nilfn)] [(0, 1, (.k (.c (.str ⟨#[115, 105]⟩)))), (1, 1, (.k (.c (.fn 114 [] []))))], none, true, []⟩,
 ⟨none, .stn 2 (.t 2) (.t 43), none, true, []⟩,
 ⟨some 3, .mv (.k (.c (.bool true))), none, true, []⟩]
def C87r24 : List AOper := [⟨some 44, .build [.c (.str ⟨#[]⟩), .c (.nilfn)] [(0, 1, (.k (.c (.str ⟨#[100]⟩)))), (1, 1, (.k (.c (.fn 79 [] []))))], none, true, []⟩,
 ⟨none, .stn 2 (.t 2) (.t 44), none, true, []⟩,
 ⟨some 3, .mv (.k (.c (.bool true))), none, true, []⟩]
def C87r25 : List AOper := [⟨some 45, .build [.c (.str ⟨#[]⟩), .c (.nilfn)] [(0, 1, (.k (.c (.str ⟨#[100, 121]⟩)))), (1, 1, (.k (.c (.fn 115 [] []))))], none, true, []⟩,
 ⟨none, .stn 2 (.t 2) (.t 45), none, true, []⟩,
 ⟨some 3, .mv (.k (.c (.bool true))), none, true, []⟩]
def C87r26 : List AOper := [⟨some 46, .build [.c (.str ⟨#[]⟩), .c (.nilfn)] [(0, 1, (.k (.c (.str ⟨#[115, 105]⟩)))), (1, 1, (.k (.c (.fn 117 [] []))))], none, true, []⟩,
 ⟨none, .stn 2 (.t 2) (.t 46), none, true, []⟩,
 ⟨some 3, .mv (.k (.c (.bool true))), none, true, []⟩]
def C87r27 : List AOper := [⟨some 47, .build [.c (.str ⟨#[]⟩), .c (.nilfn)] [(0, 1, (.k (.c (.str ⟨#[105]⟩)))), (1, 1, (.k (.c (.fn 118 [] []))))], none, true, []⟩,
 ⟨none, .stn 2 (.t 2) (.t 47), none, true, []⟩,
 ⟨some 3, .mv (.k (.c (.bool true))), none, true, []⟩]
def C87r28 : List AOper := [⟨some 48, .build [.c (.str ⟨#[]⟩), .c (.nilfn)] [(0, 1, (.k (.c (.str ⟨#[105]⟩)))), (1, 1, (.k (.c (.fn 119 [] []))))], none, true, []⟩,
 ⟨none, .stn 2 (.t 2) (.t 48), none, true, []⟩,
 ⟨some 3, .mv (.k (.c (.bool true))), none, true, []⟩]
def C87r29 : List AOper := [⟨some 49, .build [.c (.str ⟨#[]⟩), .c (.nilfn)] [], none, true, []⟩,
 ⟨none, .stn 2 (.t 2) (.t 49), none, true, []⟩,
 ⟨some 3, .mv (.k (.c (.bool false))), none, true, []⟩]
def C87 : ACode :=
 .seq (.region C87r0)
 (.seq (.seq (.region C87r1)
 (.block 0
 (.seq (.block 13
 (.seq (.block 12
 (.seq (.block 11
 (.seq (.block 10
 (.seq (.block 9
 (.seq (.block 8
 (.seq (.block 7
 (.block 6
 (.block 5
 (.block 4
 (.seq (.block 3
 (.seq (.block 2
 (.seq (.block 1
 (.seq (.seq (.seq (.seq (.region C87r2)
 (.cond (.t 5)
 (.skip)
 (.region C87r3)))
 (.cond (.t 5)
 (.exit 1)
 (.skip)))
 (.seq (.seq (.region C87r4)
 (.cond (.t 8)
 (.exit 2)
 (.skip)))
 (.seq (.seq (.region C87r5)
 (.cond (.t 10)
 (.exit 3)
 (.skip)))
 (.seq (.seq (.region C87r6)
 (.cond (.t 12)
 (.exit 4)
 (.skip)))
 (.seq (.seq (.region C87r7)
 (.cond (.t 14)
 (.exit 5)
 (.skip)))
 (.seq (.seq (.region C87r8)
 (.cond (.t 16)
 (.exit 6)
 (.skip)))
 (.seq (.seq (.region C87r9)
 (.cond (.t 18)
 (.exit 7)
 (.skip)))
 (.seq (.seq (.region C87r10)
 (.cond (.t 20)
 (.exit 8)
 (.skip)))
 (.seq (.seq (.seq (.region C87r11)
 (.cond (.t 22)
 (.skip)
 (.region C87r12)))
 (.cond (.t 22)
 (.exit 9)
 (.skip)))
 (.seq (.seq (.seq (.region C87r13)
 (.cond (.t 25)
 (.skip)
 (.region C87r14)))
 (.cond (.t 25)
 (.exit 10)
 (.skip)))
 (.seq (.seq (.region C87r15)
 (.cond (.t 28)
 (.exit 11)
 (.skip)))
 (.seq (.seq (.seq (.region C87r16)
 (.cond (.t 30)
 (.skip)
 (.region C87r17)))
 (.cond (.t 30)
 (.exit 12)
 (.skip)))
 (.seq (.region C87r18)
 (.cond (.t 33)
 (.exit 13)
 (.skip)))))))))))))))
 (.exit 0)))
 (.seq (.seq (.region C87r19)
 (.ret))
 (.exit 0))))
 (.seq (.seq (.region C87r20)
 (.ret))
 (.exit 0))))
 (.seq (.seq (.region C87r21)
 (.ret))
 (.exit 0)))))))
 (.seq (.seq (.region C87r22)
 (.ret))
 (.exit 0))))
 (.seq (.seq (.region C87r23)
 (.ret))
 (.exit 0))))
 (.seq (.seq (.region C87r24)
 (.ret))
 (.exit 0))))
 (.seq (.seq (.region C87r25)
 (.ret))
 (.exit 0))))
 (.seq (.seq (.region C87r26)
 (.ret))
 (.exit 0))))
 (.seq (.seq (.region C87r27)
 (.ret))
 (.exit 0))))
 (.seq (.seq (.region C87r28)
 (.ret))
 (.exit 0)))))
 (.seq (.region C87r29)
 (.ret)))
theorem C87_ok : stripF Tryz.prog Tryz.f87 = some C87 := by kernel_rfl
def C88r0 : List AOper := [⟨some 8, .mv (.k (.c (.int .u32 0))), none, true, []⟩]
def C88r1 : List AOper := [⟨some 9, .mv (.t 0), none, true, []⟩,
 ⟨some 10, .mv (.t 1), none, true, []⟩,
 ⟨some 11, .conv .u32 (.t 10), none, true, []⟩,
 ⟨some 12, .mv (.t 3), none, true, []⟩,
 ⟨some 13, .bin .shl (.k (.c (.int .u32 1))) (.t 12), none, true, []⟩,
 ⟨some 14, .bin .sub (.t 13) (.k (.c (.int .u32 1))), none, true, []⟩,
 ⟨some 15, .bin .and (.t 11) (.t 14), none, true, []⟩,
 ⟨some 16, .mv (.t 2), none, true, []⟩,
 ⟨some 17, .bin .shl (.t 15) (.t 16), none, true, []⟩,
 ⟨some 18, .bin .or (.t 9) (.t 17), none, true, []⟩,
 ⟨some 8, .mv (.t 18), none, true, []⟩]
def C88 : ACode :=
 .seq (.region C88r0)
 (.seq (.region C88r1)
 (.ret))
theorem C88_ok : stripF Tryz.prog Tryz.f88 = some C88 := by kernel_rfl
def C89r0 : List AOper := [⟨some 6, .mv (.k (.c (.int .u32 0))), none, true, []⟩]
def C89r1 : List AOper := [⟨some 7, .mv (.t 1), none, true, []⟩]
def C89r2 : List AOper := [⟨some 8, .mv (.t 0), none, true, []⟩,
 ⟨some 9, .mv (.t 2), none, true, []⟩,
 ⟨some 10, .bin .or (.t 8) (.t 9), none, true, []⟩,
 ⟨some 0, .mv (.t 10), none, true, []⟩]
def C89r3 : List AOper := [⟨some 11, .mv (.t 0), none, true, []⟩,
 ⟨some 6, .mv (.t 11), none, true, []⟩]
def C89 : ACode :=
 .seq (.region C89r0)
 (.seq (.seq (.region C89r1)
 (.cond (.t 7)
 (.region C89r2)
 (.skip)))
 (.seq (.region C89r3)
 (.ret)))
theorem C89_ok : stripF Tryz.prog Tryz.f89 = some C89 := by kernel_rfl
def C90r0 : List AOper := [⟨some 4, .alloc 23 [.c (.int .i64 0), .c (.int .i64 0), .c (.int .i64 0), .c (.int .i64 0), .c (.int .i64 0), .c (.int .i64 0), .c (.int .i64 0), .c (.int .i64 0), .c (.int .i64 0), .c (.int .i64 0), .c (.int .i64 0), .c (.int .i64 0), .c (.bool false), .c (.bool false), .c (.bool false), .c (.bool false)], none, true, []⟩]
def C90r1 : List AOper := [⟨some 5, .mv (.t 1), none, true, []⟩,
 ⟨some 6, .mv (.t 0), none, true, []⟩,
 ⟨some 7, .call (.k (.c (.fn 91 [] []))) [(.t 6), (.k (.c (.int .i64 0))), (.k (.c (.int .i64 5)))], none, true, []⟩,
 ⟨some 8, .mv (.t 0), none, true, []⟩,
 ⟨some 9, .call (.k (.c (.fn 91 [] []))) [(.t 8), (.k (.c (.int .i64 5))), (.k (.c (.int .i64 5)))], none, true, []⟩,
 ⟨some 10, .mv (.t 0), none, true, []⟩,
 ⟨some 11, .call (.k (.c (.fn 91 [] []))) [(.t 10), (.k (.c (.int .i64 16))), (.k (.c (.int .i64 5)))], none, true, []⟩,
 ⟨some 12, .build [.c (.int .i64 0), .c (.int .i64 0), .c (.int .i64 0), .c (.int .i64 0), .c (.int .i64 0), .c (.int .i64 0), .c (.int .i64 0), .c (.int .i64 0), .c (.int .i64 0), .c (.int .i64 0), .c (.int .i64 0), .c (.int .i64 0), .c (.bool false), .c (.bool false), .c (.bool false), .c (.bool false)] [(0, 1, (.t 5)), (2, 1, (.t 7)), (3, 1, (.t 9)), (4, 1, (.t 11))], none, true, []⟩,
 ⟨none, .stn 16 (.t 4) (.t 12), none, true, []⟩]
def C90 : ACode :=
 .seq (.region C90r0)
 (.seq (.region C90r1)
 (.ret))
theorem C90_ok : stripF Tryz.prog Tryz.f90 = some C90 := by kernel_rfl
def C91r0 : List AOper := [⟨some 6, .mv (.k (.c (.int .i64 0))), none, true, []⟩]
def C91r1 : List AOper := [⟨some 7, .mv (.t 0), none, false, []⟩,
 ⟨some 8, .mv (.t 1), none, false, []⟩,
 ⟨some 9, .bin .shr (.t 7) (.t 8), none, false, []⟩,
 ⟨some 10, .mv (.t 2), none, false, []⟩,
 ⟨some 11, .bin .shl (.k (.c (.int .u32 1))) (.t 10), none, false, []⟩,
 ⟨some 12, .bin .sub (.t 11) (.k (.c (.int .u32 1))), none, false, []⟩,
 ⟨some 13, .bin .and (.t 9) (.t 12), none, true, []⟩,
 ⟨some 14, .conv .i64 (.t 13), none, true, []⟩,
 ⟨some 6, .mv (.t 14), none, true, []⟩]
def C91 : ACode :=
 .seq (.region C91r0)
 (.seq (.region C91r1)
 (.ret))
theorem C91_ok : stripF Tryz.prog Tryz.f91 = some C91 := by kernel_rfl
def C92r0 : List AOper := [⟨some 4, .mv (.k (.c (.bool false))), none, true, []⟩]
def C92r1 : List AOper := [⟨some 5, .mv (.t 0), none, true, []⟩,
 ⟨some 6, .mv (.t 1), none, true, []⟩,
 ⟨some 7, .bin .and (.t 5) (.t 6), none, true, []⟩,
 ⟨some 8, .mv (.t 1), none, true, []⟩,
 ⟨some 9, .bin .eql (.t 7) (.t 8), none, true, []⟩,
 ⟨some 4, .mv (.t 9), none, true, []⟩]
def C92 : ACode :=
 .seq (.region C92r0)
 (.seq (.region C92r1)
 (.ret))
theorem C92_ok : stripF Tryz.prog Tryz.f92 = some C92 := by kernel_rfl
def C93r0 : List AOper := [⟨some 1, .box 23 (.t 0), none, true, []⟩,
 ⟨some 2, .mv (.k (.c (.int .i64 0))), none, true, []⟩]
def C93r1 : List AOper := [⟨some 3, .faddr (.t 1) 12, none, true, []⟩,
 ⟨some 4, .ld1 (.t 3), none, true, []⟩]
def C93r2 : List AOper := [⟨some 2, .mv (.k (.c (.int .i64 3))), none, true, []⟩]
def C93r3 : List AOper := [⟨some 5, .faddr (.t 1) 1, none, true, []⟩,
 ⟨some 6, .ld1 (.t 5), none, true, []⟩,
 ⟨some 2, .mv (.t 6), none, true, []⟩]
def C93 : ACode :=
 .seq (.region C93r0)
 (.seq (.seq (.region C93r1)
 (.cond (.t 4)
 (.seq (.region C93r2)
 (.ret))
 (.skip)))
 (.seq (.region C93r3)
 (.ret)))
theorem C93_ok : stripF Tryz.prog Tryz.f93 = some C93 := by kernel_rfl
def C94r0 : List AOper := [⟨some 2, .box 23 (.t 0), none, true, []⟩,
 ⟨some 4, .alloc 23 [.c (.int .i64 0), .c (.int .i64 0), .c (.int .i64 0), .c (.int .i64 0), .c (.int .i64 0), .c (.int .i64 0), .c (.int .i64 0), .c (.int .i64 0), .c (.int .i64 0), .c (.int .i64 0), .c (.int .i64 0), .c (.int .i64 0), .c (.bool false), .c (.bool false), .c (.bool false), .c (.bool false)], none, true, []⟩]
def C94r1 : List AOper := [⟨some 5, .mv (.t 1), none, true, []⟩,
 ⟨some 6, .mv (.t 1), none, true, []⟩,
 ⟨some 7, .bin .eql (.t 6) (.k (.c (.int .i64 3))), none, true, []⟩,
 ⟨some 8, .faddr (.t 2) 1, none, true, []⟩,
 ⟨none, .st1 (.t 8) (.t 5), none, true, []⟩,
 ⟨some 9, .faddr (.t 2) 12, none, true, []⟩,
 ⟨none, .st1 (.t 9) (.t 7), none, true, []⟩]
def C94r2 : List AOper := [⟨some 10, .faddr (.t 2) 12, none, true, []⟩,
 ⟨some 11, .ld1 (.t 10), none, true, []⟩]
def C94r3 : List AOper := [⟨some 12, .faddr (.t 2) 1, none, true, []⟩,
 ⟨none, .st1 (.t 12) (.k (.c (.int .i64 0))), none, true, []⟩]
def C94r4 : List AOper := [⟨some 13, .ldn 16 (.t 2), none, true, []⟩,
 ⟨none, .stn 16 (.t 4) (.t 13), none, true, []⟩]
def C94 : ACode :=
 .seq (.region C94r0)
 (.seq (.region C94r1)
 (.seq (.seq (.region C94r2)
 (.cond (.t 11)
 (.region C94r3)
 (.skip)))
 (.seq (.region C94r4)
 (.ret))))
theorem C94_ok : stripF Tryz.prog Tryz.f94 = some C94 := by kernel_rfl
def C95r0 : List AOper := [⟨some 6, .mv (.k (.c (.int .i64 0))), none, true, []⟩]
def C95r1 : List AOper := [⟨some 7, .mv (.t 0), none, true, []⟩,
 ⟨some 8, .mv (.t 1), none, true, []⟩,
 ⟨some 9, .bin .sub (.k (.c (.int .i64 32))) (.t 8), none, true, []⟩,
 ⟨some 10, .mv (.t 2), none, true, []⟩,
 ⟨some 11, .bin .sub (.t 9) (.t 10), none, true, []⟩,
 ⟨some 12, .bin .shl (.t 7) (.t 11), none, true, []⟩,
 ⟨some 13, .conv .i32 (.t 12), none, true, []⟩,
 ⟨some 14, .mv (.t 2), none, true, []⟩,
 ⟨some 15, .bin .sub (.k (.c (.int .i64 32))) (.t 14), none, true, []⟩,
 ⟨some 16, .bin .shr (.t 13) (.t 15), none, true, []⟩,
 ⟨some 17, .conv .i64 (.t 16), none, true, []⟩,
 ⟨some 6, .mv (.t 17), none, true, []⟩]
def C95 : ACode :=
 .seq (.region C95r0)
 (.seq (.region C95r1)
 (.ret))
theorem C95_ok : stripF Tryz.prog Tryz.f95 = some C95 := by kernel_rfl
def C96r0 : List AOper := [⟨some 3, .alloc 23 [.c (.int .i64 0), .c (.int .i64 0), .c (.int .i64 0), .c (.int .i64 0), .c (.int .i64 0), .c (.int .i64 0), .c (.int .i64 0), .c (.int .i64 0), .c (.int .i64 0), .c (.int .i64 0), .c (.int .i64 0), .c (.int .i64 0), .c (.bool false), .c (.bool false), .c (.bool false), .c (.bool false)], none, true, []⟩]
def C96r1 : List AOper := [⟨some 4, .ld1 (.t 1), none, false, []⟩,
 ⟨some 5, .mv (.t 0), none, false, []⟩,
 ⟨some 6, .call (.k (.c (.fn 91 [] []))) [(.t 5), (.k (.c (.int .i64 0))), (.k (.c (.int .i64 5)))], none, false, []⟩,
 ⟨some 7, .mv (.t 0), none, false, []⟩,
 ⟨some 8, .call (.k (.c (.fn 91 [] []))) [(.t 7), (.k (.c (.int .i64 5))), (.k (.c (.int .i64 5)))], none, false, []⟩,
 ⟨some 9, .mv (.t 0), none, false, []⟩,
 ⟨some 10, .call (.k (.c (.fn 91 [] []))) [(.t 9), (.k (.c (.int .i64 10))), (.k (.c (.int .i64 12)))], none, false, []⟩,
 ⟨some 11, .bin .mul (.k (.c (.int .i64 8))) (.t 10), none, false, []⟩,
 ⟨some 12, .build [.c (.int .i64 0), .c (.int .i64 0), .c (.int .i64 0), .c (.int .i64 0), .c (.int .i64 0), .c (.int .i64 0), .c (.int .i64 0), .c (.int .i64 0), .c (.int .i64 0), .c (.int .i64 0), .c (.int .i64 0), .c (.int .i64 0), .c (.bool false), .c (.bool false), .c (.bool false), .c (.bool false)] [(0, 1, (.t 4)), (2, 1, (.t 6)), (3, 1, (.t 8)), (6, 1, (.t 11))], none, true, []⟩,
 ⟨none, .stn 16 (.t 3) (.t 12), none, true, []⟩]
def C96 : ACode :=
 .seq (.region C96r0)
 (.seq (.region C96r1)
 (.ret))
theorem C96_ok : stripF Tryz.prog Tryz.f96 = some C96 := by kernel_rfl
def C97r0 : List AOper := [⟨some 3, .alloc 23 [.c (.int .i64 0), .c (.int .i64 0), .c (.int .i64 0), .c (.int .i64 0), .c (.int .i64 0), .c (.int .i64 0), .c (.int .i64 0), .c (.int .i64 0), .c (.int .i64 0), .c (.int .i64 0), .c (.int .i64 0), .c (.int .i64 0), .c (.bool false), .c (.bool false), .c (.bool false), .c (.bool false)], none, true, []⟩]
def C97r1 : List AOper := [⟨some 5, .mv (.t 0), none, true, []⟩,
 ⟨some 6, .ld1 (.t 1), none, true, []⟩,
 ⟨some 7, .call (.k (.c (.fn 90 [] []))) [(.t 5), (.t 6)], none, true, []⟩,
 ⟨some 4, .alloc 23 [.c (.int .i64 0), .c (.int .i64 0), .c (.int .i64 0), .c (.int .i64 0), .c (.int .i64 0), .c (.int .i64 0), .c (.int .i64 0), .c (.int .i64 0), .c (.int .i64 0), .c (.int .i64 0), .c (.int .i64 0), .c (.int .i64 0), .c (.bool false), .c (.bool false), .c (.bool false), .c (.bool false)], none, true, []⟩,
 ⟨none, .stn 16 (.t 4) (.t 7), none, true, []⟩]
def C97r2 : List AOper := [⟨some 8, .mv (.t 0), none, true, []⟩,
 ⟨some 9, .call (.k (.c (.fn 91 [] []))) [(.t 8), (.k (.c (.int .i64 12))), (.k (.c (.int .i64 1)))], none, true, []⟩,
 ⟨some 10, .bin .mul (.k (.c (.int .i64 3))) (.t 9), none, true, []⟩,
 ⟨some 11, .faddr (.t 4) 8, none, true, []⟩,
 ⟨none, .st1 (.t 11) (.t 10), none, true, []⟩]
def C97r3 : List AOper := [⟨some 12, .ldn 16 (.t 4), none, true, []⟩,
 ⟨none, .stn 16 (.t 3) (.t 12), none, true, []⟩]
def C97 : ACode :=
 .seq (.region C97r0)
 (.seq (.region C97r1)
 (.seq (.region C97r2)
 (.seq (.region C97r3)
 (.ret))))
theorem C97_ok : stripF Tryz.prog Tryz.f97 = some C97 := by kernel_rfl
def C98r0 : List AOper := [⟨some 4, .alloc 23 [.c (.int .i64 0), .c (.int .i64 0), .c (.int .i64 0), .c (.int .i64 0), .c (.int .i64 0), .c (.int .i64 0), .c (.int .i64 0), .c (.int .i64 0), .c (.int .i64 0), .c (.int .i64 0), .c (.int .i64 0), .c (.int .i64 0), .c (.bool false), .c (.bool false), .c (.bool false), .c (.bool false)], none, true, []⟩]
def C98r1 : List AOper := [⟨some 5, .ld1 (.t 1), none, false, []⟩,
 ⟨some 6, .ld1 (.t 2), none, false, []⟩,
 ⟨some 7, .mv (.t 0), none, false, []⟩,
 ⟨some 8, .call (.k (.c (.fn 91 [] []))) [(.t 7), (.k (.c (.int .i64 0))), (.k (.c (.int .i64 5)))], none, false, []⟩,
 ⟨some 9, .mv (.t 0), none, false, []⟩,
 ⟨some 10, .call (.k (.c (.fn 91 [] []))) [(.t 9), (.k (.c (.int .i64 5))), (.k (.c (.int .i64 5)))], none, false, []⟩,
 ⟨some 11, .build [.c (.int .i64 0), .c (.int .i64 0), .c (.int .i64 0), .c (.int .i64 0), .c (.int .i64 0), .c (.int .i64 0), .c (.int .i64 0), .c (.int .i64 0), .c (.int .i64 0), .c (.int .i64 0), .c (.int .i64 0), .c (.int .i64 0), .c (.bool false), .c (.bool false), .c (.bool false), .c (.bool false)] [(0, 1, (.t 5)), (1, 1, (.t 6)), (2, 1, (.t 8)), (3, 1, (.t 10))], none, true, []⟩,
 ⟨none, .stn 16 (.t 4) (.t 11), none, true, []⟩]
def C98 : ACode :=
 .seq (.region C98r0)
 (.seq (.region C98r1)
 (.ret))
theorem C98_ok : stripF Tryz.prog Tryz.f98 = some C98 := by kernel_rfl
def C99r0 : List AOper := [⟨some 3, .alloc 23 [.c (.int .i64 0), .c (.int .i64 0), .c (.int .i64 0), .c (.int .i64 0), .c (.int .i64 0), .c (.int .i64 0), .c (.int .i64 0), .c (.int .i64 0), .c (.int .i64 0), .c (.int .i64 0), .c (.int .i64 0), .c (.int .i64 0), .c (.bool false), .c (.bool false), .c (.bool false), .c (.bool false)], none, true, []⟩]
def C99r1 : List AOper := [⟨some 5, .mv (.t 0), none, true, []⟩,
 ⟨some 6, .ld1 (.t 1), none, true, []⟩,
 ⟨some 7, .call (.k (.c (.fn 90 [] []))) [(.t 5), (.t 6)], none, true, []⟩,
 ⟨some 4, .alloc 23 [.c (.int .i64 0), .c (.int .i64 0), .c (.int .i64 0), .c (.int .i64 0), .c (.int .i64 0), .c (.int .i64 0), .c (.int .i64 0), .c (.int .i64 0), .c (.int .i64 0), .c (.int .i64 0), .c (.int .i64 0), .c (.int .i64 0), .c (.bool false), .c (.bool false), .c (.bool false), .c (.bool false)], none, true, []⟩,
 ⟨none, .stn 16 (.t 4) (.t 7), none, true, []⟩]
def C99r2 : List AOper := [⟨some 8, .mv (.t 0), none, true, []⟩,
 ⟨some 9, .call (.k (.c (.fn 91 [] []))) [(.t 8), (.k (.c (.int .i64 15))), (.k (.c (.int .i64 1)))], none, true, []⟩,
 ⟨some 10, .faddr (.t 4) 1, none, true, []⟩,
 ⟨none, .st1 (.t 10) (.t 9), none, true, []⟩]
def C99r3 : List AOper := [⟨some 11, .ld1 (.t 1), none, true, []⟩,
 ⟨some 12, .bin .eql (.t 11) (.k (.c (.int .i64 23))), none, true, []⟩]
def C99r4 : List AOper := [⟨some 13, .faddr (.t 4) 4, none, true, []⟩,
 ⟨none, .st1 (.t 13) (.k (.c (.int .i64 0))), none, true, []⟩]
def C99r5 : List AOper := [⟨some 14, .ldn 16 (.t 4), none, true, []⟩,
 ⟨none, .stn 16 (.t 3) (.t 14), none, true, []⟩]
def C99 : ACode :=
 .seq (.region C99r0)
 (.seq (.region C99r1)
 (.seq (.seq (.region C99r2)
 (.seq (.region C99r3)
 (.cond (.t 12)
 (.region C99r4)
 (.skip))))
 (.seq (.region C99r5)
 (.ret))))
theorem C99_ok : stripF Tryz.prog Tryz.f99 = some C99 := by kernel_rfl
def C100r0 : List AOper := [⟨some 3, .alloc 23 [.c (.int .i64 0), .c (.int .i64 0), .c (.int .i64 0), .c (.int .i64 0), .c (.int .i64 0), .c (.int .i64 0), .c (.int .i64 0), .c (.int .i64 0), .c (.int .i64 0), .c (.int .i64 0), .c (.int .i64 0), .c (.int .i64 0), .c (.bool false), .c (.bool false), .c (.bool false), .c (.bool false)], none, true, []⟩]
def C100r1 : List AOper := [⟨some 4, .ld1 (.t 1), none, true, []⟩,
 ⟨some 5, .build [.c (.int .i64 0), .c (.int .i64 0), .c (.int .i64 0), .c (.int .i64 0), .c (.int .i64 0), .c (.int .i64 0), .c (.int .i64 0), .c (.int .i64 0), .c (.int .i64 0), .c (.int .i64 0), .c (.int .i64 0), .c (.int .i64 0), .c (.bool false), .c (.bool false), .c (.bool false), .c (.bool false)] [(0, 1, (.t 4))], none, true, []⟩,
 ⟨none, .stn 16 (.t 3) (.t 5), none, true, []⟩]
def C100 : ACode :=
 .seq (.region C100r0)
 (.seq (.region C100r1)
 (.ret))
theorem C100_ok : stripF Tryz.prog Tryz.f100 = some C100 := by kernel_rfl
def C101r0 : List AOper := [⟨some 5, .box 23 (.t 1), none, true, []⟩,
 ⟨some 6, .mv (.k (.c (.int .u32 0))), none, true, []⟩]
def C101r1 : List AOper := [⟨some 7, .mv (.t 0), none, true, []⟩,
 ⟨some 8, .faddr (.t 5) 6, none, true, []⟩,
 ⟨some 9, .ld1 (.t 8), none, true, []⟩,
 ⟨some 10, .ld1 (.t 2), none, true, []⟩,
 ⟨some 11, .ld1 (.t 3), none, true, []⟩,
 ⟨some 12, .call (.k (.c (.fn 88 [] []))) [(.t 7), (.t 9), (.t 10), (.t 11)], none, true, []⟩,
 ⟨some 6, .mv (.t 12), none, true, []⟩]
def C101 : ACode :=
 .seq (.region C101r0)
 (.seq (.region C101r1)
 (.ret))
theorem C101_ok : stripF Tryz.prog Tryz.f101 = some C101 := by kernel_rfl
def C102r0 : List AOper := [⟨some 6, .alloc 23 [.c (.int .i64 0), .c (.int .i64 0), .c (.int .i64 0), .c (.int .i64 0), .c (.int .i64 0), .c (.int .i64 0), .c (.int .i64 0), .c (.int .i64 0), .c (.int .i64 0), .c (.int .i64 0), .c (.int .i64 0), .c (.int .i64 0), .c (.bool false), .c (.bool false), .c (.bool false), .c (.bool false)], none, true, []⟩]
def C102r1 : List AOper := [⟨some 7, .ld1 (.t 1), none, false, []⟩,
 ⟨some 8, .ld1 (.t 2), none, false, []⟩,
 ⟨some 9, .mv (.t 0), none, false, []⟩,
 ⟨some 10, .ld1 (.t 3), none, false, []⟩,
 ⟨some 11, .ld1 (.t 4), none, false, []⟩,
 ⟨some 12, .call (.k (.c (.fn 91 [] []))) [(.t 9), (.t 10), (.t 11)], none, false, []⟩,
 ⟨some 13, .build [.c (.int .i64 0), .c (.int .i64 0), .c (.int .i64 0), .c (.int .i64 0), .c (.int .i64 0), .c (.int .i64 0), .c (.int .i64 0), .c (.int .i64 0), .c (.int .i64 0), .c (.int .i64 0), .c (.int .i64 0), .c (.int .i64 0), .c (.bool false), .c (.bool false), .c (.bool false), .c (.bool false)] [(0, 1, (.t 7)), (1, 1, (.t 8)), (6, 1, (.t 12))], none, true, []⟩,
 ⟨none, .stn 16 (.t 6) (.t 13), none, true, []⟩]
def C102 : ACode :=
 .seq (.region C102r0)
 (.seq (.region C102r1)
 (.ret))
theorem C102_ok : stripF Tryz.prog Tryz.f102 = some C102 := by kernel_rfl
def C103r0 : List AOper := [⟨some 3, .alloc 23 [.c (.int .i64 0), .c (.int .i64 0), .c (.int .i64 0), .c (.int .i64 0), .c (.int .i64 0), .c (.int .i64 0), .c (.int .i64 0), .c (.int .i64 0), .c (.int .i64 0), .c (.int .i64 0), .c (.int .i64 0), .c (.int .i64 0), .c (.bool false), .c (.bool false), .c (.bool false), .c (.bool false)], none, true, []⟩]
def C103r1 : List AOper := [⟨some 4, .ld1 (.t 1), none, false, []⟩,
 ⟨some 5, .mv (.t 0), none, false, []⟩,
 ⟨some 6, .call (.k (.c (.fn 91 [] []))) [(.t 5), (.k (.c (.int .i64 0))), (.k (.c (.int .i64 5)))], none, false, []⟩,
 ⟨some 7, .build [.c (.int .i64 0), .c (.int .i64 0), .c (.int .i64 0), .c (.int .i64 0), .c (.int .i64 0), .c (.int .i64 0), .c (.int .i64 0), .c (.int .i64 0), .c (.int .i64 0), .c (.int .i64 0), .c (.int .i64 0), .c (.int .i64 0), .c (.bool false), .c (.bool false), .c (.bool false), .c (.bool false)] [(0, 1, (.t 4)), (2, 1, (.t 6))], none, true, []⟩,
 ⟨none, .stn 16 (.t 3) (.t 7), none, true, []⟩]
def C103 : ACode :=
 .seq (.region C103r0)
 (.seq (.region C103r1)
 (.ret))
theorem C103_ok : stripF Tryz.prog Tryz.f103 = some C103 := by kernel_rfl
def C104r0 : List AOper := [⟨some 3, .alloc 23 [.c (.int .i64 0), .c (.int .i64 0), .c (.int .i64 0), .c (.int .i64 0), .c (.int .i64 0), .c (.int .i64 0), .c (.int .i64 0), .c (.int .i64 0), .c (.int .i64 0), .c (.int .i64 0), .c (.int .i64 0), .c (.int .i64 0), .c (.bool false), .c (.bool false), .c (.bool false), .c (.bool false)], none, true, []⟩]
def C104r1 : List AOper := [⟨some 4, .ld1 (.t 1), none, false, []⟩,
 ⟨some 5, .mv (.t 0), none, false, []⟩,
 ⟨some 6, .call (.k (.c (.fn 91 [] []))) [(.t 5), (.k (.c (.int .i64 0))), (.k (.c (.int .i64 5)))], none, false, []⟩,
 ⟨some 7, .mv (.t 0), none, false, []⟩,
 ⟨some 8, .call (.k (.c (.fn 91 [] []))) [(.t 7), (.k (.c (.int .i64 5))), (.k (.c (.int .i64 15)))], none, false, []⟩,
 ⟨some 9, .build [.c (.int .i64 0), .c (.int .i64 0), .c (.int .i64 0), .c (.int .i64 0), .c (.int .i64 0), .c (.int .i64 0), .c (.int .i64 0), .c (.int .i64 0), .c (.int .i64 0), .c (.int .i64 0), .c (.int .i64 0), .c (.int .i64 0), .c (.bool false), .c (.bool false), .c (.bool false), .c (.bool false)] [(0, 1, (.t 4)), (2, 1, (.t 6)), (11, 1, (.t 8))], none, true, []⟩,
 ⟨none, .stn 16 (.t 3) (.t 9), none, true, []⟩]
def C104 : ACode :=
 .seq (.region C104r0)
 (.seq (.region C104r1)
 (.ret))
theorem C104_ok : stripF Tryz.prog Tryz.f104 = some C104 := by kernel_rfl
def C109r0 : List AOper := [⟨some 2, .mv (.k (.c (.int .i64 0))), none, true, []⟩]
def C109r1 : List AOper := [⟨some 3, .mv (.t 0), none, true, []⟩,
 ⟨some 4, .conv .u32 (.t 3), none, true, []⟩,
 ⟨some 5, .call (.k (.c (.fn 120 [] []))) [(.t 4)], none, true, []⟩,
 ⟨some 2, .mv (.t 5), none, true, []⟩]
def C109r2 : List AOper := [⟨some 6, .mv (.t 0), none, true, []⟩,
 ⟨some 7, .call (.k (.c (.fn 121 [] []))) [(.t 6)], none, true, []⟩,
 ⟨some 2, .mv (.t 7), none, true, []⟩]
def C109 : ACode :=
 .seq (.region C109r0)
 (.seq (.cond (.k (.c (.bool false)))
 (.seq (.region C109r1)
 (.ret))
 (.skip))
 (.seq (.region C109r2)
 (.ret)))
theorem C109_ok : stripF Tryz.prog Tryz.f109 = some C109 := by kernel_rfl
def C110r0 : List AOper := [⟨some 6, .mv (.k (.c (.int .u64 0))), none, true, []⟩,
 ⟨some 7, .mv (.k (.c (.int .i64 0))), none, true, []⟩]
def C110r1 : List AOper := [⟨some 9, .mv (.t 2), none, true, []⟩,
 ⟨some 10, .bin .lss (.t 9) (.k (.c (.int .i64 1))), none, true, []⟩,
 ⟨some 11, .mv (.t 10), none, true, []⟩,
 ⟨some 12, .mv (.t 2), some (11, false), true, []⟩,
 ⟨some 13, .bin .gtr (.t 12) (.k (.c (.int .i64 64))), some (11, false), true, []⟩,
 ⟨some 14, .pick 11 (.k (.c (.bool true))) (.t 13), none, true, []⟩,
 ⟨some 15, .mv (.t 14), none, true, []⟩,
 ⟨some 16, .mv (.t 1), some (15, false), true, []⟩,
 ⟨some 17, .bin .lss (.t 16) (.k (.c (.int .i64 0))), some (15, false), true, []⟩,
 ⟨some 18, .pick 15 (.k (.c (.bool true))) (.t 17), none, true, []⟩]
def C110r2 : List AOper := [⟨some 6, .mv (.k (.c (.int .u64 0))), none, true, []⟩,
 ⟨some 7, .mv (.k (.c (.int .i64 1))), none, true, []⟩]
def C110r3 : List AOper := [⟨some 19, .mv (.t 2), none, true, []⟩,
 ⟨some 20, .bin .lss (.t 19) (.k (.c (.int .i64 64))), none, true, []⟩,
 ⟨some 21, .mv (.t 20), none, true, []⟩,
 ⟨some 22, .mv (.t 0), some (21, true), true, []⟩,
 ⟨some 23, .mv (.t 2), some (21, true), true, []⟩,
 ⟨some 24, .bin .shr (.t 22) (.t 23), some (21, true), true, []⟩,
 ⟨some 25, .bin .neq (.t 24) (.k (.c (.int .u64 0))), some (21, true), true, []⟩,
 ⟨some 26, .pick 21 (.t 25) (.k (.c (.bool false))), none, true, []⟩]
def C110r4 : List AOper := [⟨some 6, .mv (.k (.c (.int .u64 0))), none, true, []⟩,
 ⟨some 7, .mv (.k (.c (.int .i64 2))), none, true, []⟩]
def C110r5 : List AOper := [⟨some 27, .mv (.t 1), none, true, []⟩,
 ⟨some 28, .mv (.t 2), none, true, []⟩,
 ⟨some 29, .bin .rem (.t 27) (.t 28), none, true, []⟩,
 ⟨some 1, .mv (.t 29), none, true, []⟩]
def C110r6 : List AOper := [⟨some 30, .mv (.t 2), none, true, []⟩,
 ⟨some 31, .bin .sub (.k (.c (.int .i64 64))) (.t 30), none, true, []⟩,
 ⟨some 32, .bin .shr (.k (.c (.int .u64 18446744073709551615))) (.t 31), none, true, []⟩,
 ⟨some 8, .mv (.t 32), none, true, []⟩]
def C110r7 : List AOper := [⟨some 33, .mv (.t 0), none, false, []⟩,
 ⟨some 34, .mv (.t 1), none, false, []⟩,
 ⟨some 35, .bin .shr (.t 33) (.t 34), none, false, []⟩,
 ⟨some 36, .mv (.t 0), none, false, []⟩,
 ⟨some 37, .mv (.t 2), none, false, []⟩,
 ⟨some 38, .mv (.t 1), none, false, []⟩,
 ⟨some 39, .bin .sub (.t 37) (.t 38), none, false, []⟩,
 ⟨some 40, .bin .shl (.t 36) (.t 39), none, false, []⟩,
 ⟨some 41, .bin .or (.t 35) (.t 40), none, false, []⟩,
 ⟨some 42, .mv (.t 8), none, false, []⟩,
 ⟨some 43, .bin .and (.t 41) (.t 42), none, true, []⟩,
 ⟨some 6, .mv (.t 43), none, true, []⟩,
 ⟨some 7, .mv (.k (.c (.int .i64 0))), none, true, []⟩]
def C110 : ACode :=
 .seq (.region C110r0)
 (.seq (.seq (.region C110r1)
 (.cond (.t 18)
 (.seq (.region C110r2)
 (.ret))
 (.skip)))
 (.seq (.seq (.region C110r3)
 (.cond (.t 26)
 (.seq (.region C110r4)
 (.ret))
 (.skip)))
 (.seq (.region C110r5)
 (.seq (.region C110r6)
 (.seq (.region C110r7)
 (.ret))))))
theorem C110_ok : stripF Tryz.prog Tryz.f110 = some C110 := by kernel_rfl
def C111r0 : List AOper := [⟨some 2, .box 23 (.t 0), none, true, []⟩,
 ⟨some 3, .mv (.k (.c (.bool false))), none, true, []⟩]
def C111r1 : List AOper := [⟨some 4, .ld1 (.t 1), none, true, []⟩,
 ⟨some 5, .faddr (.t 2) 1, none, true, []⟩,
 ⟨some 6, .ld1 (.t 5), none, true, []⟩,
 ⟨some 7, .call (.k (.c (.fn 112 [] []))) [(.t 4), (.t 6)], none, true, []⟩,
 ⟨some 3, .mv (.t 7), none, true, []⟩]
def C111 : ACode :=
 .seq (.region C111r0)
 (.seq (.region C111r1)
 (.ret))
theorem C111_ok : stripF Tryz.prog Tryz.f111 = some C111 := by kernel_rfl
def C112r0 : List AOper := [⟨some 4, .mv (.k (.c (.bool false))), none, true, []⟩]
def C112r1 : List AOper := [⟨some 5, .mv (.t 0), none, true, []⟩,
 ⟨some 6, .mv (.t 1), none, true, []⟩,
 ⟨some 7, .call (.k (.c (.fn 122 [] []))) [(.t 5), (.t 6)], none, true, []⟩,
 ⟨some 8, .bin .geq (.t 7) (.k (.c (.int .i64 0))), none, true, []⟩,
 ⟨some 4, .mv (.t 8), none, true, []⟩]
def C112 : ACode :=
 .seq (.region C112r0)
 (.seq (.region C112r1)
 (.ret))
theorem C112_ok : stripF Tryz.prog Tryz.f112 = some C112 := by kernel_rfl
def C113r0 : List AOper := [⟨some 2, .box 23 (.t 0), none, true, []⟩,
 ⟨some 3, .mv (.k (.c (.bool false))), none, true, []⟩]
def C113r1 : List AOper := [⟨some 4, .faddr (.t 2) 6, none, false, []⟩,
 ⟨some 5, .ld1 (.t 4), none, false, []⟩,
 ⟨some 6, .ld1 (.t 1), none, false, []⟩,
 ⟨some 7, .bin .shl (.k (.c (.int .i64 (-1)))) (.t 6), none, false, []⟩,
 ⟨some 8, .ld1 (.t 1), none, false, []⟩,
 ⟨some 9, .bin .shl (.k (.c (.int .i64 1))) (.t 8), none, false, []⟩,
 ⟨some 10, .bin .sub (.t 9) (.k (.c (.int .i64 4))), none, false, []⟩,
 ⟨some 11, .call (.k (.c (.fn 70 [] []))) [(.t 5), (.k (.c (.int .i64 4))), (.t 7), (.t 10)], none, true, []⟩,
 ⟨some 3, .mv (.t 11), none, true, []⟩]
def C113 : ACode :=
 .seq (.region C113r0)
 (.seq (.region C113r1)
 (.ret))
theorem C113_ok : stripF Tryz.prog Tryz.f113 = some C113 := by kernel_rfl
def C114r0 : List AOper := [⟨some 1, .box 23 (.t 0), none, true, []⟩,
 ⟨some 2, .mv (.k (.c (.bool false))), none, true, []⟩]
def C114r1 : List AOper := [⟨some 3, .faddr (.t 1) 1, none, true, []⟩,
 ⟨some 4, .ld1 (.t 3), none, true, []⟩,
 ⟨some 5, .call (.k (.c (.fn 70 [] []))) [(.t 4), (.k (.c (.int .i64 1))), (.k (.c (.int .i64 0))), (.k (.c (.int .i64 1)))], none, true, []⟩,
 ⟨some 6, .mv (.t 5), none, true, []⟩,
 ⟨some 7, .faddr (.t 1) 6, some (6, true), true, []⟩,
 ⟨some 8, .ld1 (.t 7), some (6, true), true, []⟩,
 ⟨some 9, .call (.k (.c (.fn 70 [] []))) [(.t 8), (.k (.c (.int .i64 1))), (.k (.c (.int .i64 1))), (.k (.c (.int .i64 3)))], some (6, true), true, []⟩,
 ⟨some 10, .pick 6 (.t 9) (.k (.c (.bool false))), none, true, []⟩,
 ⟨some 2, .mv (.t 10), none, true, []⟩]
def C114 : ACode :=
 .seq (.region C114r0)
 (.seq (.region C114r1)
 (.ret))
theorem C114_ok : stripF Tryz.prog Tryz.f114 = some C114 := by kernel_rfl
def C115r0 : List AOper := [⟨some 1, .box 23 (.t 0), none, true, []⟩,
 ⟨some 2, .mv (.k (.c (.bool false))), none, true, []⟩]
def C115r1 : List AOper := [⟨some 3, .call (.k (.c (.fn 116 [] []))) [], none, false, []⟩,
 ⟨some 4, .faddr (.t 1) 11, none, false, []⟩,
 ⟨some 5, .ld1 (.t 4), none, false, []⟩,
 ⟨some 6, .call (.k (.c (.fn 112 [] []))) [(.t 3), (.t 5)], none, true, []⟩,
 ⟨some 2, .mv (.t 6), none, true, []⟩]
def C115 : ACode :=
 .seq (.region C115r0)
 (.seq (.region C115r1)
 (.ret))
theorem C115_ok : stripF Tryz.prog Tryz.f115 = some C115 := by kernel_rfl
def C116r0 : List AOper := [⟨some 0, .mv (.k (.c (.nils))), none, true, []⟩]
def C116r1 : List AOper := [⟨some 1, .bslice 3 1 [.c (.int .i64 0)] 18 [(0, 1, (.k (.c (.int .i64 17920)))), (1, 1, (.k (.c (.int .i64 16897)))), (2, 1, (.k (.c (.int .i64 16896)))), (3, 1, (.k (.c (.int .i64 17040)))), (4, 1, (.k (.c (.int .i64 17152)))), (5, 1, (.k (.c (.int .i64 16904)))), (6, 1, (.k (.c (.int .i64 16389)))), (7, 1, (.k (.c (.int .i64 16914)))), (8, 1, (.k (.c (.int .i64 23057)))), (9, 1, (.k (.c (.int .i64 23056)))), (10, 1, (.k (.c (.int .i64 24194)))), (11, 1, (.k (.c (.int .i64 18016)))), (12, 1, (.k (.c (.int .i64 18017)))), (13, 1, (.k (.c (.int .i64 16944)))), (14, 1, (.k (.c (.int .i64 18013)))), (15, 1, (.k (.c (.int .i64 24322)))), (16, 1, (.k (.c (.int .i64 24345)))), (17, 1, (.k (.c (.int .i64 24346))))], none, true, []⟩,
 ⟨some 0, .mv (.t 1), none, true, []⟩]
def C116 : ACode :=
 .seq (.region C116r0)
 (.seq (.region C116r1)
 (.ret))
theorem C116_ok : stripF Tryz.prog Tryz.f116 = some C116 := by kernel_rfl
def C117r0 : List AOper := [⟨some 1, .box 23 (.t 0), none, true, []⟩,
 ⟨some 2, .mv (.k (.c (.bool false))), none, true, []⟩]
def C117r1 : List AOper := [⟨some 3, .faddr (.t 1) 1, none, true, []⟩,
 ⟨some 4, .ld1 (.t 3), none, true, []⟩,
 ⟨some 5, .call (.k (.c (.fn 70 [] []))) [(.t 4), (.k (.c (.int .i64 1))), (.k (.c (.int .i64 0))), (.k (.c (.int .i64 1)))], none, true, []⟩,
 ⟨some 6, .mv (.t 5), none, true, []⟩,
 ⟨some 7, .faddr (.t 1) 6, some (6, true), true, []⟩,
 ⟨some 8, .ld1 (.t 7), some (6, true), true, []⟩,
 ⟨some 9, .call (.k (.c (.fn 70 [] []))) [(.t 8), (.k (.c (.int .i64 1))), (.k (.c (.int .i64 0))), (.k (.c (.int .i64 15)))], some (6, true), true, []⟩,
 ⟨some 10, .pick 6 (.t 9) (.k (.c (.bool false))), none, true, []⟩,
 ⟨some 2, .mv (.t 10), none, true, []⟩]
def C117 : ACode :=
 .seq (.region C117r0)
 (.seq (.region C117r1)
 (.ret))
theorem C117_ok : stripF Tryz.prog Tryz.f117 = some C117 := by kernel_rfl
def C118r0 : List AOper := [⟨some 1, .box 23 (.t 0), none, true, []⟩,
 ⟨some 2, .mv (.k (.c (.bool false))), none, true, []⟩]
def C118r1 : List AOper := [⟨some 3, .faddr (.t 1) 6, none, true, []⟩,
 ⟨some 4, .ld1 (.t 3), none, true, []⟩,
 ⟨some 5, .call (.k (.c (.fn 70 [] []))) [(.t 4), (.k (.c (.int .i64 1))), (.k (.c (.int .i64 0))), (.k (.c (.int .i64 65535)))], none, true, []⟩,
 ⟨some 2, .mv (.t 5), none, true, []⟩]
def C118 : ACode :=
 .seq (.region C118r0)
 (.seq (.region C118r1)
 (.ret))
theorem C118_ok : stripF Tryz.prog Tryz.f118 = some C118 := by kernel_rfl
def C119r0 : List AOper := [⟨some 1, .box 23 (.t 0), none, true, []⟩,
 ⟨some 2, .mv (.k (.c (.bool false))), none, true, []⟩]
def C119r1 : List AOper := [⟨some 3, .faddr (.t 1) 6, none, true, []⟩,
 ⟨some 4, .ld1 (.t 3), none, true, []⟩,
 ⟨some 5, .call (.k (.c (.fn 70 [] []))) [(.t 4), (.k (.c (.int .i64 1))), (.k (.c (.int .i64 0))), (.k (.c (.int .i64 5)))], none, true, []⟩,
 ⟨some 2, .mv (.t 5), none, true, []⟩]
def C119 : ACode :=
 .seq (.region C119r0)
 (.seq (.region C119r1)
 (.ret))
theorem C119_ok : stripF Tryz.prog Tryz.f119 = some C119 := by kernel_rfl
def C121r0 : List AOper := [⟨some 2, .mv (.k (.c (.int .i64 0))), none, true, []⟩]
def C121r1 : List AOper := [⟨some 3, .mv (.t 0), none, true, []⟩,
 ⟨some 4, .bin .geq (.t 3) (.k (.c (.int .u64 4294967296))), none, true, []⟩]
def C121r2 : List AOper := [⟨some 5, .mv (.t 0), none, true, []⟩,
 ⟨some 6, .bin .shr (.t 5) (.k (.c (.int .u64 32))), none, true, []⟩,
 ⟨some 0, .mv (.t 6), none, true, []⟩]
def C121r3 : List AOper := [⟨some 2, .mv (.k (.c (.int .i64 32))), none, true, []⟩]
def C121r4 : List AOper := [⟨some 7, .mv (.t 0), none, true, []⟩,
 ⟨some 8, .bin .geq (.t 7) (.k (.c (.int .u64 65536))), none, true, []⟩]
def C121r5 : List AOper := [⟨some 9, .mv (.t 0), none, true, []⟩,
 ⟨some 10, .bin .shr (.t 9) (.k (.c (.int .u64 16))), none, true, []⟩,
 ⟨some 0, .mv (.t 10), none, true, []⟩]
def C121r6 : List AOper := [⟨some 11, .mv (.t 2), none, true, []⟩,
 ⟨some 12, .bin .add (.t 11) (.k (.c (.int .i64 16))), none, true, []⟩,
 ⟨some 2, .mv (.t 12), none, true, []⟩]
def C121r7 : List AOper := [⟨some 13, .mv (.t 0), none, true, []⟩,
 ⟨some 14, .bin .geq (.t 13) (.k (.c (.int .u64 256))), none, true, []⟩]
def C121r8 : List AOper := [⟨some 15, .mv (.t 0), none, true, []⟩,
 ⟨some 16, .bin .shr (.t 15) (.k (.c (.int .u64 8))), none, true, []⟩,
 ⟨some 0, .mv (.t 16), none, true, []⟩]
def C121r9 : List AOper := [⟨some 17, .mv (.t 2), none, true, []⟩,
 ⟨some 18, .bin .add (.t 17) (.k (.c (.int .i64 8))), none, true, []⟩,
 ⟨some 2, .mv (.t 18), none, true, []⟩]
def C121r10 : List AOper := [⟨some 19, .mv (.t 2), none, true, []⟩,
 ⟨some 20, .mv (.t 0), none, true, []⟩,
 ⟨some 21, .conv .u8 (.t 20), none, true, []⟩,
 ⟨some 22, .idxT (.k (.c (.str ⟨#[0, 1, 2, 2, 3, 3, 3, 3, 4, 4, 4, 4, 4, 4, 4, 4, 5, 5, 5, 5, 5, 5, 5, 5, 5, 5, 5, 5, 5, 5, 5, 5, 6, 6, 6, 6, 6, 6, 6, 6, 6, 6, 6, 6, 6, 6, 6, 6, 6, 6, 6, 6, 6, 6, 6, 6, 6, 6, 6, 6, 6, 6, 6, 6, 7, 7, 7, 7, 7, 7, 7, 7, 7, 7, 7, 7, 7, 7, 7, 7, 7, 7, 7, 7, 7, 7, 7, 7, 7, 7, 7, 7, 7, 7, 7, 7, 7, 7, 7, 7, 7, 7, 7, 7, 7, 7, 7, 7, 7, 7, 7, 7, 7, 7, 7, 7, 7, 7, 7, 7, 7, 7, 7, 7, 7, 7, 7, 7, 8, 8, 8, 8, 8, 8, 8, 8, 8, 8, 8, 8, 8, 8, 8, 8, 8, 8, 8, 8, 8, 8, 8, 8, 8, 8, 8, 8, 8, 8, 8, 8, 8, 8, 8, 8, 8, 8, 8, 8, 8, 8, 8, 8, 8, 8, 8, 8, 8, 8, 8, 8, 8, 8, 8, 8, 8, 8, 8, 8, 8, 8, 8, 8, 8, 8, 8, 8, 8, 8, 8, 8, 8, 8, 8, 8, 8, 8, 8, 8, 8, 8, 8, 8, 8, 8, 8, 8, 8, 8, 8, 8, 8, 8, 8, 8, 8, 8, 8, 8, 8, 8, 8, 8, 8, 8, 8, 8, 8, 8, 8, 8, 8, 8, 8, 8, 8, 8, 8, 8, 8, 8, 8, 8, 8, 8, 8, 8]⟩))) (.t 21), none, true, []⟩,
 ⟨some 23, .conv .i64 (.t 22), none, true, []⟩,
 ⟨some 24, .bin .add (.t 19) (.t 23), none, true, []⟩,
 ⟨some 2, .mv (.t 24), none, true, []⟩]
def C121 : ACode :=
 .seq (.region C121r0)
 (.seq (.seq (.region C121r1)
 (.cond (.t 4)
 (.seq (.region C121r2)
 (.region C121r3))
 (.skip)))
 (.seq (.seq (.region C121r4)
 (.cond (.t 8)
 (.seq (.region C121r5)
 (.region C121r6))
 (.skip)))
 (.seq (.seq (.region C121r7)
 (.cond (.t 14)
 (.seq (.region C121r8)
 (.region C121r9))
 (.skip)))
 (.seq (.region C121r10)
 (.ret)))))
theorem C121_ok : stripF Tryz.prog Tryz.f121 = some C121 := by kernel_rfl
def C122r0 : List AOper := [⟨some 4, .mv (.k (.c (.int .i64 0))), none, true, []⟩]
def C122r1 : List AOper := [⟨some 6, .mv (.t 0), none, true, []⟩,
 ⟨some 7, .len false (.t 6), none, true, []⟩,
 ⟨some 8, .mv (.k (.c (.int .i64 0))), none, true, []⟩]
def C122r2 : List AOper := [⟨some 9, .bin .lss (.t 8) (.t 7), none, true, []⟩]
def C122r3 : List AOper := [⟨some 10, .mv (.t 8), none, true, []⟩,
 ⟨some 5, .mv (.t 10), none, true, []⟩]
def C122r4 : List AOper := [⟨some 11, .mv (.t 1), none, true, []⟩,
 ⟨some 12, .mv (.t 0), none, true, []⟩,
 ⟨some 13, .mv (.t 5), none, true, []⟩,
 ⟨some 14, .iaddr 1 (.t 12) (.t 13), none, true, []⟩,
 ⟨some 15, .ld1 (.t 14), none, true, []⟩,
 ⟨some 16, .bin .eql (.t 11) (.t 15), none, true, []⟩]
def C122r5 : List AOper := [⟨some 17, .mv (.t 5), none, true, []⟩,
 ⟨some 4, .mv (.t 17), none, true, []⟩]
def C122r6 : List AOper := [⟨some 18, .bin .add (.t 8) (.k (.c (.int .i64 1))), none, true, []⟩,
 ⟨some 8, .mv (.t 18), none, true, []⟩]
def C122r7 : List AOper := [⟨some 4, .mv (.k (.c (.int .i64 (-1)))), none, true, []⟩]
def C122 : ACode :=
 .seq (.region C122r0)
 (.seq (.seq (.region C122r1)
 (.block 0
 (.loop
 (.seq (.region C122r2)
 (.seq (.cond (.t 9)
 (.skip)
 (.exit 0))
 (.seq (.block 1
 (.seq (.region C122r3)
 (.seq (.region C122r4)
 (.cond (.t 16)
 (.seq (.region C122r5)
 (.ret))
 (.skip)))))
 (.region C122r6)))))))
 (.seq (.region C122r7)
 (.ret)))
theorem C122_ok : stripF Tryz.prog Tryz.f122 = some C122 := by kernel_rfl
end Go.Proofs.YteikpddilabppaaGreatR

