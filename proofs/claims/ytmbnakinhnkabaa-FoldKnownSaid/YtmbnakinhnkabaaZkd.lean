/- Parts of the proof of foldKnown_holds, joined and cut by a program: Code18, Ga, Fb, Code18b, Gb, Gc, Gd, Ge. No condition. -/
import Derived.Test.YtmbnakinhnkabaaZkc
import Derived.Test.YtmbnakinhnkabaaProg
import Derived.KernelRfl
set_option linter.unusedVariables false
namespace Go.Proofs.Ytmbnakinhnkabaa
open Go.AM
def C8r0 : List AOper := [⟨some 4, .box 43 (.t 0), none, true, []⟩,
 ⟨some 8, .mv (.k (.c (.bool false))), none, true, []⟩]
def C8r1 : List AOper := [⟨some 17, .call (.k (.c (.fn 23 [] []))) [], none, true, []⟩,
 ⟨some 9, .mv (.t 17), none, true, []⟩]
def C8r2 : List AOper := [⟨some 18, .mv (.t 9), none, true, []⟩,
 ⟨some 19, .un .not (.t 18), none, true, []⟩]
def C8r3 : List AOper := [⟨some 8, .mv (.k (.c (.bool false))), none, true, []⟩]
def C8r4 : List AOper := [⟨some 20, .build [.c (.int .i64 0), .c (.int .i64 0), .c (.int .i64 0), .c (.int .i64 0), .c (.int .i64 0), .c (.int .u64 0)] [(0, 1, (.k (.c (.int .i64 14)))), (5, 1, (.k (.c (.int .u64 64))))], none, true, []⟩,
 ⟨some 21, .mv (.t 2), none, true, []⟩,
 ⟨some 22, .build [.c (.int .i64 0), .c (.int .i64 0), .c (.int .i64 0), .c (.int .i64 0), .c (.int .i64 0), .c (.int .u64 0)] [(0, 1, (.k (.c (.int .i64 1)))), (5, 1, (.t 21))], none, true, []⟩,
 ⟨some 23, .build [.c (.int .i64 0), .c (.int .i64 0), .c (.int .i64 0), .c (.int .i64 0), .c (.int .i64 0), .c (.int .u64 0)] [(0, 1, (.k (.c (.int .i64 3)))), (1, 1, (.k (.c (.int .i64 5)))), (2, 1, (.k (.c (.int .i64 1))))], none, true, []⟩,
 ⟨some 24, .mv (.t 3), none, true, []⟩,
 ⟨some 25, .build [.c (.int .i64 0), .c (.int .i64 0), .c (.int .i64 0), .c (.int .i64 0), .c (.int .i64 0), .c (.int .u64 0)] [(0, 1, (.k (.c (.int .i64 1)))), (5, 1, (.t 24))], none, true, []⟩,
 ⟨some 26, .build [.c (.int .i64 0), .c (.int .i64 0), .c (.int .i64 0), .c (.int .i64 0), .c (.int .i64 0), .c (.int .u64 0)] [(0, 1, (.k (.c (.int .i64 2)))), (1, 1, (.k (.c (.int .i64 5))))], none, true, []⟩,
 ⟨some 27, .mv (.t 1), none, true, []⟩,
 ⟨some 28, .build [.c (.int .i64 0), .c (.int .i64 0), .c (.int .i64 0), .c (.int .i64 0), .c (.int .i64 0), .c (.int .u64 0)] [(0, 1, (.k (.c (.int .i64 8)))), (1, 1, (.t 27)), (2, 1, (.k (.c (.int .i64 4)))), (3, 1, (.k (.c (.int .i64 3))))], none, true, []⟩,
 ⟨some 29, .build [.c (.int .i64 0), .c (.int .i64 0), .c (.int .i64 0), .c (.int .i64 0), .c (.int .i64 0), .c (.int .u64 0)] [(0, 1, (.k (.c (.int .i64 3)))), (2, 1, (.k (.c (.int .i64 5))))], none, true, []⟩,
 ⟨some 30, .build [.c (.int .i64 0), .c (.int .i64 0), .c (.int .i64 0), .c (.int .i64 0), .c (.int .i64 0), .c (.int .u64 0)] [(0, 1, (.k (.c (.int .i64 16)))), (5, 1, (.k (.c (.int .u64 68))))], none, true, []⟩,
 ⟨some 31, .bslice 39 6 [.c (.int .i64 0), .c (.int .i64 0), .c (.int .i64 0), .c (.int .i64 0), .c (.int .i64 0), .c (.int .u64 0)] 8 [(0, 6, (.t 20)), (6, 6, (.t 22)), (12, 6, (.t 23)), (18, 6, (.t 25)), (24, 6, (.t 26)), (30, 6, (.t 28)), (36, 6, (.t 29)), (42, 6, (.t 30))], none, true, []⟩,
 ⟨some 32, .build [.c (.int .u64 0), .c (.int .i64 0), .c (.int .i64 0), .c (.nils)] [(0, 1, (.k (.c (.int .u64 64)))), (1, 1, (.k (.c (.int .i64 1)))), (2, 1, (.k (.c (.int .i64 1)))), (3, 1, (.t 31))], none, true, []⟩,
 ⟨some 10, .alloc 25 [.c (.int .u64 0), .c (.int .i64 0), .c (.int .i64 0), .c (.nils)], none, true, []⟩,
 ⟨none, .stn 4 (.t 10) (.t 32), none, true, []⟩]
def C8r5 : List AOper := [⟨some 34, .ldn 4 (.t 10), none, true, []⟩,
 ⟨some 35, .call (.k (.c (.fn 25 [] []))) [(.t 34)], none, true, []⟩,
 ⟨some 33, .mv (.t 35), none, true, []⟩,
 ⟨some 36, .ext (.t 33) 0, none, true, []⟩,
 ⟨some 37, .ext (.t 33) 1, none, true, []⟩,
 ⟨some 11, .alloc 25 [.c (.int .u64 0), .c (.int .i64 0), .c (.int .i64 0), .c (.nils)], none, true, []⟩,
 ⟨none, .stn 4 (.t 11) (.t 36), none, true, []⟩,
 ⟨some 12, .mv (.t 37), none, true, []⟩]
def C8r6 : List AOper := [⟨some 39, .mv (.t 1), none, true, []⟩,
 ⟨some 40, .mv (.t 2), none, true, []⟩,
 ⟨some 41, .mv (.t 3), none, true, []⟩,
 ⟨some 42, .call (.k (.c (.fn 31 [] []))) [(.t 39), (.t 40), (.t 41)], none, true, []⟩,
 ⟨some 38, .mv (.t 42), none, true, []⟩,
 ⟨some 43, .ext (.t 38) 0, none, true, []⟩,
 ⟨some 44, .ext (.t 38) 1, none, true, []⟩,
 ⟨some 13, .mv (.t 43), none, true, []⟩,
 ⟨some 14, .mv (.t 44), none, true, []⟩]
def C8r7 : List AOper := [⟨some 45, .mv (.t 14), none, true, []⟩,
 ⟨some 46, .bin .neq (.t 45) (.k (.c (.int .i64 0))), none, true, []⟩]
def C8r8 : List AOper := [⟨some 47, .mv (.t 9), none, true, []⟩,
 ⟨some 48, .mv (.t 47), none, true, []⟩,
 ⟨some 49, .mv (.t 12), some (48, true), true, []⟩,
 ⟨some 50, .bin .eql (.t 49) (.k (.c (.int .i64 4))), some (48, true), true, []⟩,
 ⟨some 51, .pick 48 (.t 50) (.k (.c (.bool false))), none, true, []⟩,
 ⟨some 8, .mv (.t 51), none, true, []⟩]
def C8r9 : List AOper := [⟨some 52, .mv (.t 12), none, true, []⟩,
 ⟨some 53, .bin .neq (.t 52) (.k (.c (.int .i64 0))), none, true, []⟩]
def C8r10 : List AOper := [⟨some 8, .mv (.k (.c (.bool false))), none, true, []⟩]
def C8r11 : List AOper := [⟨some 15, .mv (.k (.c (.int .i64 0))), none, true, []⟩]
def C8r12 : List AOper := [⟨some 54, .mv (.t 15), none, true, []⟩,
 ⟨some 55, .faddr (.t 11) 3, none, true, []⟩,
 ⟨some 56, .ld1 (.t 55), none, true, []⟩,
 ⟨some 57, .len false (.t 56), none, true, []⟩,
 ⟨some 58, .bin .lss (.t 54) (.t 57), none, true, []⟩]
def C8r13 : List AOper := [⟨some 61, .faddr (.t 11) 3, none, true, []⟩,
 ⟨some 62, .ld1 (.t 61), none, true, []⟩,
 ⟨some 63, .mv (.t 15), none, true, []⟩,
 ⟨some 64, .iaddr 6 (.t 62) (.t 63), none, true, []⟩,
 ⟨some 65, .ldn 6 (.t 64), none, true, []⟩,
 ⟨some 16, .alloc 39 [.c (.int .i64 0), .c (.int .i64 0), .c (.int .i64 0), .c (.int .i64 0), .c (.int .i64 0), .c (.int .u64 0)], none, true, []⟩,
 ⟨none, .stn 6 (.t 16) (.t 65), none, true, []⟩]
def C8r14 : List AOper := [⟨some 66, .faddr (.t 16) 0, none, true, []⟩,
 ⟨some 67, .ld1 (.t 66), none, true, []⟩,
 ⟨some 68, .bin .eql (.t 67) (.k (.c (.int .i64 3))), none, true, []⟩,
 ⟨some 69, .mv (.t 68), none, true, []⟩,
 ⟨some 70, .faddr (.t 16) 1, some (69, true), true, []⟩,
 ⟨some 71, .ld1 (.t 70), some (69, true), true, []⟩,
 ⟨some 72, .bin .eql (.t 71) (.k (.c (.int .i64 0))), some (69, true), true, []⟩,
 ⟨some 73, .pick 69 (.t 72) (.k (.c (.bool false))), none, true, []⟩]
def C8r15 : List AOper := [⟨some 74, .mv (.t 9), none, true, []⟩,
 ⟨some 75, .mv (.t 74), none, true, []⟩,
 ⟨some 76, .faddr (.t 11) 3, some (75, true), true, []⟩,
 ⟨some 77, .ld1 (.t 76), some (75, true), true, []⟩,
 ⟨some 78, .faddr (.t 16) 2, some (75, true), true, []⟩,
 ⟨some 79, .ld1 (.t 78), some (75, true), true, []⟩,
 ⟨some 80, .iaddr 6 (.t 77) (.t 79), some (75, true), true, []⟩,
 ⟨some 81, .ldn 6 (.t 80), some (75, true), true, []⟩,
 ⟨some 82, .mv (.t 13), some (75, true), true, []⟩,
 ⟨some 83, .build [.c (.int .i64 0), .c (.int .i64 0), .c (.int .i64 0), .c (.int .i64 0), .c (.int .i64 0), .c (.int .u64 0)] [(0, 1, (.k (.c (.int .i64 1)))), (5, 1, (.t 82))], some (75, true), true, []⟩,
 ⟨some 84, .eqS false [.one true, .one true, .one true, .one true, .one true, .one true] (.t 81) (.t 83), some (75, true), true, []⟩,
 ⟨some 85, .pick 75 (.t 84) (.k (.c (.bool false))), none, true, []⟩,
 ⟨some 8, .mv (.t 85), none, true, []⟩]
def C8r16 : List AOper := [⟨some 59, .mv (.t 15), none, true, []⟩,
 ⟨some 60, .bin .add (.t 59) (.k (.c (.int .i64 1))), none, true, []⟩,
 ⟨some 15, .mv (.t 60), none, true, []⟩]
def C8r17 : List AOper := [⟨some 8, .mv (.k (.c (.bool false))), none, true, []⟩]
def C8 : ACode :=
 .seq (.region C8r0)
 (.seq (.region C8r1)
 (.seq (.seq (.region C8r2)
 (.cond (.t 19)
 (.seq (.region C8r3)
 (.ret))
 (.skip)))
 (.seq (.region C8r4)
 (.seq (.region C8r5)
 (.seq (.region C8r6)
 (.seq (.seq (.region C8r7)
 (.cond (.t 46)
 (.seq (.region C8r8)
 (.ret))
 (.skip)))
 (.seq (.seq (.region C8r9)
 (.cond (.t 53)
 (.seq (.region C8r10)
 (.ret))
 (.skip)))
 (.seq (.seq (.region C8r11)
 (.block 0
 (.loop
 (.seq (.seq (.region C8r12)
 (.cond (.t 58)
 (.skip)
 (.exit 0)))
 (.seq (.block 1
 (.seq (.region C8r13)
 (.seq (.region C8r14)
 (.cond (.t 73)
 (.seq (.region C8r15)
 (.ret))
 (.skip)))))
 (.region C8r16))))))
 (.seq (.region C8r17)
 (.ret))))))))))
theorem C8_ok : stripF Try.prog Try.f8 = some C8 := by kernel_rfl
def C23r0 : List AOper := [⟨some 0, .mv (.k (.c (.bool false))), none, true, []⟩]
def C23r1 : List AOper := [⟨some 11, .call (.k (.c (.fn 47 [] []))) [], none, true, []⟩,
 ⟨some 12, .call (.k (.c (.fn 25 [] []))) [(.t 11)], none, true, []⟩,
 ⟨some 10, .mv (.t 12), none, true, []⟩,
 ⟨some 13, .ext (.t 10) 0, none, true, []⟩,
 ⟨some 14, .ext (.t 10) 1, none, true, []⟩,
 ⟨some 1, .alloc 25 [.c (.int .u64 0), .c (.int .i64 0), .c (.int .i64 0), .c (.nils)], none, true, []⟩,
 ⟨none, .stn 4 (.t 1) (.t 13), none, true, []⟩,
 ⟨some 2, .mv (.t 14), none, true, []⟩]
def C23r2 : List AOper := [⟨some 16, .build [.c (.int .u64 0), .c (.int .i64 0), .c (.int .i64 0), .c (.nils)] [], none, true, []⟩,
 ⟨some 17, .call (.k (.c (.fn 25 [] []))) [(.t 16)], none, true, []⟩,
 ⟨some 15, .mv (.t 17), none, true, []⟩,
 ⟨some 18, .ext (.t 15) 0, none, true, []⟩,
 ⟨some 19, .ext (.t 15) 1, none, true, []⟩,
 ⟨some 3, .alloc 25 [.c (.int .u64 0), .c (.int .i64 0), .c (.int .i64 0), .c (.nils)], none, true, []⟩,
 ⟨none, .stn 4 (.t 3) (.t 18), none, true, []⟩,
 ⟨some 4, .mv (.t 19), none, true, []⟩]
def C23r3 : List AOper := [⟨some 21, .call (.k (.c (.fn 47 [] []))) [], none, true, []⟩,
 ⟨some 22, .call (.k (.c (.fn 26 [] []))) [(.t 21)], none, true, []⟩,
 ⟨some 20, .mv (.t 22), none, true, []⟩,
 ⟨some 23, .ext (.t 20) 0, none, true, []⟩,
 ⟨some 24, .ext (.t 20) 1, none, true, []⟩,
 ⟨some 25, .ext (.t 20) 2, none, true, []⟩,
 ⟨some 5, .alloc 25 [.c (.int .u64 0), .c (.int .i64 0), .c (.int .i64 0), .c (.nils)], none, true, []⟩,
 ⟨none, .stn 4 (.t 5) (.t 23), none, true, []⟩,
 ⟨some 6, .mv (.t 24), none, true, []⟩,
 ⟨some 7, .mv (.t 25), none, true, []⟩]
def C23r4 : List AOper := [⟨some 8, .mv (.k (.c (.bool false))), none, true, []⟩]
def C23r5 : List AOper := [⟨some 9, .mv (.k (.c (.int .i64 0))), none, true, []⟩]
def C23r6 : List AOper := [⟨some 26, .mv (.t 9), none, true, []⟩,
 ⟨some 27, .faddr (.t 1) 3, none, true, []⟩,
 ⟨some 28, .ld1 (.t 27), none, true, []⟩,
 ⟨some 29, .len false (.t 28), none, true, []⟩,
 ⟨some 30, .bin .lss (.t 26) (.t 29), none, true, []⟩]
def C23r7 : List AOper := [⟨some 33, .faddr (.t 1) 3, none, true, []⟩,
 ⟨some 34, .ld1 (.t 33), none, true, []⟩,
 ⟨some 35, .mv (.t 9), none, true, []⟩,
 ⟨some 36, .iaddr 6 (.t 34) (.t 35), none, true, []⟩,
 ⟨some 37, .faddr (.t 36) 0, none, true, []⟩,
 ⟨some 38, .ld1 (.t 37), none, true, []⟩,
 ⟨some 39, .bin .eql (.t 38) (.k (.c (.int .i64 3))), none, true, []⟩,
 ⟨some 40, .mv (.t 39), none, true, []⟩,
 ⟨some 41, .faddr (.t 1) 3, some (40, true), true, []⟩,
 ⟨some 42, .ld1 (.t 41), some (40, true), true, []⟩,
 ⟨some 43, .mv (.t 9), some (40, true), true, []⟩,
 ⟨some 44, .iaddr 6 (.t 42) (.t 43), some (40, true), true, []⟩,
 ⟨some 45, .faddr (.t 44) 2, some (40, true), true, []⟩,
 ⟨some 46, .ld1 (.t 45), some (40, true), true, []⟩,
 ⟨some 47, .mv (.t 9), some (40, true), true, []⟩,
 ⟨some 48, .bin .lss (.t 46) (.t 47), some (40, true), true, []⟩,
 ⟨some 49, .pick 40 (.t 48) (.k (.c (.bool false))), none, true, []⟩]
def C23r8 : List AOper := [⟨some 50, .faddr (.t 1) 3, none, false, []⟩,
 ⟨some 51, .ld1 (.t 50), none, false, []⟩,
 ⟨some 52, .faddr (.t 1) 3, none, false, []⟩,
 ⟨some 53, .ld1 (.t 52), none, false, []⟩,
 ⟨some 54, .mv (.t 9), none, false, []⟩,
 ⟨some 55, .iaddr 6 (.t 53) (.t 54), none, false, []⟩,
 ⟨some 56, .faddr (.t 55) 2, none, false, []⟩,
 ⟨some 57, .ld1 (.t 56), none, false, []⟩,
 ⟨some 58, .iaddr 6 (.t 51) (.t 57), none, false, []⟩,
 ⟨some 59, .ldn 6 (.t 58), none, false, []⟩,
 ⟨some 60, .build [.c (.int .i64 0), .c (.int .i64 0), .c (.int .i64 0), .c (.int .i64 0), .c (.int .i64 0), .c (.int .u64 0)] [(0, 1, (.k (.c (.int .i64 1)))), (5, 1, (.k (.c (.int .u64 5))))], none, false, []⟩,
 ⟨some 61, .eqS false [.one true, .one true, .one true, .one true, .one true, .one true] (.t 59) (.t 60), none, true, []⟩,
 ⟨some 8, .mv (.t 61), none, true, []⟩]
def C23r9 : List AOper := [⟨some 31, .mv (.t 9), none, true, []⟩,
 ⟨some 32, .bin .add (.t 31) (.k (.c (.int .i64 1))), none, true, []⟩,
 ⟨some 9, .mv (.t 32), none, true, []⟩]
def C23r10 : List AOper := [⟨some 62, .mv (.t 2), none, true, []⟩,
 ⟨some 63, .bin .eql (.t 62) (.k (.c (.int .i64 0))), none, true, []⟩,
 ⟨some 64, .mv (.t 63), none, true, []⟩,
 ⟨some 65, .mv (.t 4), some (64, true), true, []⟩,
 ⟨some 66, .bin .eql (.t 65) (.k (.c (.int .i64 4))), some (64, true), true, []⟩,
 ⟨some 67, .pick 64 (.t 66) (.k (.c (.bool false))), none, true, []⟩,
 ⟨some 68, .mv (.t 67), none, true, []⟩,
 ⟨some 69, .mv (.t 7), some (68, true), true, []⟩,
 ⟨some 70, .bin .eql (.t 69) (.k (.c (.int .i64 0))), some (68, true), true, []⟩,
 ⟨some 71, .pick 68 (.t 70) (.k (.c (.bool false))), none, true, []⟩,
 ⟨some 72, .mv (.t 71), none, true, []⟩,
 ⟨some 73, .mv (.t 6), some (72, true), true, []⟩,
 ⟨some 74, .pick 72 (.t 73) (.k (.c (.bool false))), none, true, []⟩,
 ⟨some 75, .mv (.t 74), none, true, []⟩,
 ⟨some 76, .mv (.t 8), some (75, true), true, []⟩,
 ⟨some 77, .pick 75 (.t 76) (.k (.c (.bool false))), none, true, []⟩,
 ⟨some 0, .mv (.t 77), none, true, []⟩]
def C23 : ACode :=
 .seq (.region C23r0)
 (.seq (.region C23r1)
 (.seq (.region C23r2)
 (.seq (.region C23r3)
 (.seq (.region C23r4)
 (.seq (.seq (.region C23r5)
 (.block 0
 (.loop
 (.seq (.seq (.region C23r6)
 (.cond (.t 30)
 (.skip)
 (.exit 0)))
 (.seq (.block 1
 (.seq (.region C23r7)
 (.cond (.t 49)
 (.region C23r8)
 (.skip))))
 (.region C23r9))))))
 (.seq (.region C23r10)
 (.ret)))))))
theorem C23_ok : stripF Try.prog Try.f23 = some C23 := by kernel_rfl
def C25r0 : List AOper := [⟨some 1, .box 25 (.t 0), none, true, []⟩,
 ⟨some 2, .alloc 25 [.c (.int .u64 0), .c (.int .i64 0), .c (.int .i64 0), .c (.nils)], none, true, []⟩,
 ⟨some 3, .mv (.k (.c (.int .i64 0))), none, true, []⟩]
def C25r1 : List AOper := [⟨some 8, .ldn 4 (.t 1), none, true, []⟩,
 ⟨some 9, .call (.k (.c (.fn 26 [] []))) [(.t 8)], none, true, []⟩,
 ⟨some 7, .mv (.t 9), none, true, []⟩,
 ⟨some 10, .ext (.t 7) 0, none, true, []⟩,
 ⟨some 11, .ext (.t 7) 1, none, true, []⟩,
 ⟨some 12, .ext (.t 7) 2, none, true, []⟩,
 ⟨some 4, .alloc 25 [.c (.int .u64 0), .c (.int .i64 0), .c (.int .i64 0), .c (.nils)], none, true, []⟩,
 ⟨none, .stn 4 (.t 4) (.t 10), none, true, []⟩,
 ⟨some 5, .mv (.t 11), none, true, []⟩,
 ⟨some 6, .mv (.t 12), none, true, []⟩]
def C25r2 : List AOper := [⟨some 13, .mv (.t 6), none, true, []⟩,
 ⟨some 14, .bin .neq (.t 13) (.k (.c (.int .i64 0))), none, true, []⟩,
 ⟨some 15, .mv (.t 14), none, true, []⟩,
 ⟨some 16, .mv (.t 5), some (15, false), true, []⟩,
 ⟨some 17, .un .not (.t 16), some (15, false), true, []⟩,
 ⟨some 18, .pick 15 (.k (.c (.bool true))) (.t 17), none, true, []⟩]
def C25r3 : List AOper := [⟨some 19, .ldn 4 (.t 4), none, true, []⟩,
 ⟨some 20, .mv (.t 6), none, true, []⟩,
 ⟨none, .stn 4 (.t 2) (.t 19), none, true, []⟩,
 ⟨some 3, .mv (.t 20), none, true, []⟩]
def C25r4 : List AOper := [⟨some 21, .ldn 4 (.t 4), none, true, []⟩,
 ⟨none, .stn 4 (.t 1) (.t 21), none, true, []⟩]
def C25 : ACode :=
 .seq (.region C25r0)
 (.block 0
 (.loop
 (.block 1
 (.seq (.region C25r1)
 (.seq (.seq (.region C25r2)
 (.cond (.t 18)
 (.seq (.region C25r3)
 (.ret))
 (.skip)))
 (.region C25r4))))))
theorem C25_ok : stripF Try.prog Try.f25 = some C25 := by kernel_rfl
def C26r0 : List AOper := [⟨some 1, .box 25 (.t 0), none, true, []⟩,
 ⟨some 2, .alloc 25 [.c (.int .u64 0), .c (.int .i64 0), .c (.int .i64 0), .c (.nils)], none, true, []⟩,
 ⟨some 3, .mv (.k (.c (.bool false))), none, true, []⟩,
 ⟨some 4, .mv (.k (.c (.int .i64 0))), none, true, []⟩]
def C26r1 : List AOper := [⟨some 12, .ldn 4 (.t 1), none, true, []⟩,
 ⟨some 13, .call (.k (.c (.fn 37 [] []))) [(.t 12)], none, true, []⟩,
 ⟨some 14, .un .not (.t 13), none, true, []⟩]
def C26r2 : List AOper := [⟨some 15, .build [.c (.int .u64 0), .c (.int .i64 0), .c (.int .i64 0), .c (.nils)] [], none, true, []⟩,
 ⟨none, .stn 4 (.t 2) (.t 15), none, true, []⟩,
 ⟨some 3, .mv (.k (.c (.bool false))), none, true, []⟩,
 ⟨some 4, .mv (.k (.c (.int .i64 4))), none, true, []⟩]
def C26r3 : List AOper := [⟨some 16, .faddr (.t 1) 3, none, true, []⟩,
 ⟨some 17, .ld1 (.t 16), none, true, []⟩,
 ⟨some 18, .mp .make [true, true] (.int .i64 0) (.k (.bot)) (.k (.bot)) (.k (.bot)), none, true, []⟩,
 ⟨some 19, .build [.c (.nils), .c (.nils), .c (.nils), .c (.nilm)] [(0, 1, (.t 17)), (3, 1, (.t 18))], none, true, []⟩,
 ⟨some 20, .box 85 (.t 19), none, true, []⟩,
 ⟨some 5, .mv (.t 20), none, true, []⟩]
def C26r4 : List AOper := [⟨some 21, .faddr (.t 1) 3, none, true, []⟩,
 ⟨some 22, .ld1 (.t 21), none, true, []⟩,
 ⟨some 23, .len false (.t 22), none, true, []⟩,
 ⟨some 24, .mv (.k (.c (.int .i64 0))), none, true, []⟩]
def C26r5 : List AOper := [⟨some 25, .bin .lss (.t 24) (.t 23), none, true, []⟩]
def C26r6 : List AOper := [⟨some 26, .iaddr 6 (.t 22) (.t 24), none, true, []⟩,
 ⟨some 27, .ldn 6 (.t 26), none, true, []⟩,
 ⟨some 7, .alloc 39 [.c (.int .i64 0), .c (.int .i64 0), .c (.int .i64 0), .c (.int .i64 0), .c (.int .i64 0), .c (.int .u64 0)], none, true, []⟩,
 ⟨none, .stn 6 (.t 7) (.t 27), none, true, []⟩]
def C26r7 : List AOper := [⟨some 28, .ldn 6 (.t 7), none, true, []⟩,
 ⟨some 29, .call (.k (.c (.fn 21 [] []))) [(.t 28)], none, true, []⟩,
 ⟨some 30, .len false (.t 29), none, true, []⟩,
 ⟨some 8, .mv (.t 30), none, true, []⟩]
def C26r8 : List AOper := [⟨some 31, .mv (.t 8), none, true, []⟩,
 ⟨some 32, .bin .gtr (.t 31) (.k (.c (.int .i64 0))), none, true, []⟩]
def C26r9 : List AOper := [⟨some 33, .mv (.t 5), none, false, []⟩,
 ⟨some 34, .nilchk (.t 33), none, false, []⟩,
 ⟨some 35, .faddr (.t 34) 2, none, false, []⟩,
 ⟨some 36, .ld1 (.t 35), none, false, []⟩,
 ⟨some 37, .faddr (.t 7) 2, none, false, []⟩,
 ⟨some 38, .ld1 (.t 37), none, false, []⟩,
 ⟨some 39, .iaddr 1 (.t 36) (.t 38), none, true, []⟩,
 ⟨some 40, .ld1 (.t 39), none, true, []⟩,
 ⟨some 41, .faddr (.t 7) 2, none, true, []⟩,
 ⟨none, .st1 (.t 41) (.t 40), none, true, []⟩]
def C26r10 : List AOper := [⟨some 42, .mv (.t 8), none, true, []⟩,
 ⟨some 43, .bin .gtr (.t 42) (.k (.c (.int .i64 1))), none, true, []⟩]
def C26r11 : List AOper := [⟨some 44, .mv (.t 5), none, false, []⟩,
 ⟨some 45, .nilchk (.t 44), none, false, []⟩,
 ⟨some 46, .faddr (.t 45) 2, none, false, []⟩,
 ⟨some 47, .ld1 (.t 46), none, false, []⟩,
 ⟨some 48, .faddr (.t 7) 3, none, false, []⟩,
 ⟨some 49, .ld1 (.t 48), none, false, []⟩,
 ⟨some 50, .iaddr 1 (.t 47) (.t 49), none, true, []⟩,
 ⟨some 51, .ld1 (.t 50), none, true, []⟩,
 ⟨some 52, .faddr (.t 7) 3, none, true, []⟩,
 ⟨none, .st1 (.t 52) (.t 51), none, true, []⟩]
def C26r12 : List AOper := [⟨some 54, .mv (.t 5), none, true, []⟩,
 ⟨some 55, .ldn 6 (.t 7), none, true, []⟩,
 ⟨some 56, .call (.k (.c (.fn 48 [] []))) [(.t 54), (.t 55)], none, true, []⟩,
 ⟨some 53, .mv (.t 56), none, true, []⟩,
 ⟨some 57, .ext (.t 53) 0, none, true, []⟩,
 ⟨some 58, .ext (.t 53) 1, none, true, []⟩,
 ⟨some 9, .mv (.t 57), none, true, []⟩,
 ⟨some 10, .mv (.t 58), none, true, []⟩]
def C26r13 : List AOper := [⟨some 59, .mv (.t 5), none, true, []⟩,
 ⟨some 60, .mv (.t 5), none, true, []⟩,
 ⟨some 61, .nilchk (.t 60), none, true, []⟩,
 ⟨some 62, .faddr (.t 61) 2, none, true, []⟩,
 ⟨some 63, .ld1 (.t 62), none, true, []⟩,
 ⟨some 64, .mv (.t 9), none, true, []⟩,
 ⟨some 65, .bslice 3 1 [.c (.int .i64 0)] 1 [(0, 1, (.t 64))], none, true, []⟩,
 ⟨some 66, .app 1 8 3 (.t 63) (.t 65), none, true, []⟩,
 ⟨some 67, .nilchk (.t 59), none, true, []⟩,
 ⟨some 68, .faddr (.t 67) 2, none, true, []⟩,
 ⟨none, .st1 (.t 68) (.t 66), none, true, []⟩]
def C26r14 : List AOper := [⟨some 69, .mv (.t 10), none, true, []⟩]
def C26r15 : List AOper := [⟨some 70, .bin .add (.t 24) (.k (.c (.int .i64 1))), none, true, []⟩,
 ⟨some 24, .mv (.t 70), none, true, []⟩]
def C26r16 : List AOper := [⟨some 71, .ldn 4 (.t 1), none, true, []⟩,
 ⟨some 11, .alloc 25 [.c (.int .u64 0), .c (.int .i64 0), .c (.int .i64 0), .c (.nils)], none, true, []⟩,
 ⟨none, .stn 4 (.t 11) (.t 71), none, true, []⟩]
def C26r17 : List AOper := [⟨some 72, .mv (.t 5), none, true, []⟩,
 ⟨some 73, .nilchk (.t 72), none, true, []⟩,
 ⟨some 74, .faddr (.t 73) 1, none, true, []⟩,
 ⟨some 75, .ld1 (.t 74), none, true, []⟩,
 ⟨some 76, .faddr (.t 11) 3, none, true, []⟩,
 ⟨none, .st1 (.t 76) (.t 75), none, true, []⟩]
def C26r18 : List AOper := [⟨some 77, .ldn 4 (.t 11), none, false, []⟩,
 ⟨some 78, .faddr (.t 11) 3, none, false, []⟩,
 ⟨some 79, .ld1 (.t 78), none, false, []⟩,
 ⟨some 80, .faddr (.t 1) 3, none, false, []⟩,
 ⟨some 81, .ld1 (.t 80), none, false, []⟩,
 ⟨some 82, .call (.k (.c (.fn 49 [] []))) [(.t 79), (.t 81)], none, false, []⟩,
 ⟨some 83, .un .not (.t 82), none, false, []⟩,
 ⟨none, .stn 4 (.t 2) (.t 77), none, true, []⟩,
 ⟨some 3, .mv (.t 83), none, true, []⟩,
 ⟨some 4, .mv (.k (.c (.int .i64 0))), none, true, []⟩]
def C26 : ACode :=
 .seq (.region C26r0)
 (.seq (.seq (.region C26r1)
 (.cond (.t 14)
 (.seq (.region C26r2)
 (.ret))
 (.skip)))
 (.seq (.region C26r3)
 (.seq (.seq (.region C26r4)
 (.block 0
 (.loop
 (.seq (.region C26r5)
 (.seq (.cond (.t 25)
 (.skip)
 (.exit 0))
 (.seq (.block 1
 (.seq (.region C26r6)
 (.seq (.region C26r7)
 (.seq (.seq (.region C26r8)
 (.cond (.t 32)
 (.region C26r9)
 (.skip)))
 (.seq (.seq (.region C26r10)
 (.cond (.t 43)
 (.region C26r11)
 (.skip)))
 (.seq (.region C26r12)
 (.seq (.region C26r13)
 (.seq (.region C26r14)
 (.cond (.t 69)
 (.exit 0)
 (.skip))))))))))
 (.region C26r15)))))))
 (.seq (.region C26r16)
 (.seq (.region C26r17)
 (.seq (.region C26r18)
 (.ret)))))))
theorem C26_ok : stripF Try.prog Try.f26 = some C26 := by kernel_rfl
def C31r0 : List AOper := [⟨some 6, .mv (.k (.c (.int .u64 0))), none, true, []⟩,
 ⟨some 7, .mv (.k (.c (.int .i64 0))), none, true, []⟩]
def C31r1 : List AOper := [⟨some 9, .mv (.t 0), none, true, []⟩,
 ⟨some 10, .call (.k (.c (.fn 52 [] []))) [(.t 9)], none, true, []⟩,
 ⟨some 8, .mv (.t 10), none, true, []⟩]
def C31r2 : List AOper := [⟨some 11, .mv (.t 8), none, true, []⟩,
 ⟨some 12, .nilq .fn false (.t 11) (.k (.c (.nilfn))), none, true, []⟩]
def C31r3 : List AOper := [⟨some 6, .mv (.k (.c (.int .u64 0))), none, true, []⟩,
 ⟨some 7, .mv (.k (.c (.int .i64 1))), none, true, []⟩]
def C31r4 : List AOper := [⟨some 13, .mv (.t 8), none, true, []⟩,
 ⟨some 14, .mv (.t 1), none, true, []⟩,
 ⟨some 15, .mv (.t 2), none, true, []⟩,
 ⟨some 16, .call (.t 13) [(.t 14), (.t 15)], none, true, []⟩,
 ⟨some 6, .mv (.t 16), none, true, []⟩,
 ⟨some 7, .mv (.k (.c (.int .i64 0))), none, true, []⟩]
def C31 : ACode :=
 .seq (.region C31r0)
 (.seq (.region C31r1)
 (.seq (.seq (.region C31r2)
 (.cond (.t 12)
 (.seq (.region C31r3)
 (.ret))
 (.skip)))
 (.seq (.region C31r4)
 (.ret))))
theorem C31_ok : stripF Try.prog Try.f31 = some C31 := by kernel_rfl
def C47r0 : List AOper := [⟨some 0, .alloc 25 [.c (.int .u64 0), .c (.int .i64 0), .c (.int .i64 0), .c (.nils)], none, true, []⟩]
def C47r1 : List AOper := [⟨some 1, .build [.c (.int .i64 0), .c (.int .i64 0), .c (.int .i64 0), .c (.int .i64 0), .c (.int .i64 0), .c (.int .u64 0)] [(0, 1, (.k (.c (.int .i64 14)))), (5, 1, (.k (.c (.int .u64 64))))], none, true, []⟩,
 ⟨some 2, .build [.c (.int .i64 0), .c (.int .i64 0), .c (.int .i64 0), .c (.int .i64 0), .c (.int .i64 0), .c (.int .u64 0)] [(0, 1, (.k (.c (.int .i64 1)))), (5, 1, (.k (.c (.int .u64 2))))], none, true, []⟩,
 ⟨some 3, .build [.c (.int .i64 0), .c (.int .i64 0), .c (.int .i64 0), .c (.int .i64 0), .c (.int .i64 0), .c (.int .u64 0)] [(0, 1, (.k (.c (.int .i64 1)))), (5, 1, (.k (.c (.int .u64 3))))], none, true, []⟩,
 ⟨some 4, .build [.c (.int .i64 0), .c (.int .i64 0), .c (.int .i64 0), .c (.int .i64 0), .c (.int .i64 0), .c (.int .u64 0)] [(0, 1, (.k (.c (.int .i64 8)))), (1, 1, (.k (.c (.int .i64 1)))), (2, 1, (.k (.c (.int .i64 1)))), (3, 1, (.k (.c (.int .i64 2))))], none, true, []⟩,
 ⟨some 5, .build [.c (.int .i64 0), .c (.int .i64 0), .c (.int .i64 0), .c (.int .i64 0), .c (.int .i64 0), .c (.int .u64 0)] [(0, 1, (.k (.c (.int .i64 3)))), (2, 1, (.k (.c (.int .i64 3))))], none, true, []⟩,
 ⟨some 6, .build [.c (.int .i64 0), .c (.int .i64 0), .c (.int .i64 0), .c (.int .i64 0), .c (.int .i64 0), .c (.int .u64 0)] [(0, 1, (.k (.c (.int .i64 16)))), (5, 1, (.k (.c (.int .u64 68))))], none, true, []⟩,
 ⟨some 7, .bslice 39 6 [.c (.int .i64 0), .c (.int .i64 0), .c (.int .i64 0), .c (.int .i64 0), .c (.int .i64 0), .c (.int .u64 0)] 6 [(0, 6, (.t 1)), (6, 6, (.t 2)), (12, 6, (.t 3)), (18, 6, (.t 4)), (24, 6, (.t 5)), (30, 6, (.t 6))], none, true, []⟩,
 ⟨some 8, .build [.c (.int .u64 0), .c (.int .i64 0), .c (.int .i64 0), .c (.nils)] [(0, 1, (.k (.c (.int .u64 64)))), (1, 1, (.k (.c (.int .i64 1)))), (2, 1, (.k (.c (.int .i64 1)))), (3, 1, (.t 7))], none, true, []⟩,
 ⟨none, .stn 4 (.t 0) (.t 8), none, true, []⟩]
def C47 : ACode :=
 .seq (.region C47r0)
 (.seq (.region C47r1)
 (.ret))
theorem C47_ok : stripF Try.prog Try.f47 = some C47 := by kernel_rfl
def C48r0 : List AOper := [⟨some 3, .box 39 (.t 1), none, true, []⟩,
 ⟨some 4, .mv (.k (.c (.int .i64 0))), none, true, []⟩,
 ⟨some 5, .mv (.k (.c (.bool false))), none, true, []⟩]
def C48r1 : List AOper := [⟨some 21, .ldn 6 (.t 3), none, true, []⟩,
 ⟨some 22, .call (.k (.c (.fn 73 [] []))) [(.t 21)], none, true, []⟩,
 ⟨some 20, .mv (.t 22), none, true, []⟩,
 ⟨some 23, .ext (.t 20) 0, none, true, []⟩,
 ⟨some 24, .ext (.t 20) 1, none, true, []⟩,
 ⟨some 25, .ext (.t 20) 2, none, true, []⟩,
 ⟨some 6, .alloc 111 [.c (.int .i64 0), .c (.int .i64 0)], none, true, []⟩,
 ⟨none, .stn 2 (.t 6) (.t 23), none, true, []⟩,
 ⟨some 7, .mv (.t 24), none, true, []⟩,
 ⟨some 8, .mv (.t 25), none, true, []⟩]
def C48r2 : List AOper := [⟨some 27, .mv (.t 8), none, true, []⟩,
 ⟨some 28, .mv (.t 27), none, true, []⟩,
 ⟨some 29, .mv (.t 7), some (28, true), true, []⟩,
 ⟨some 30, .pick 28 (.t 29) (.k (.c (.bool false))), none, true, []⟩,
 ⟨some 26, .mv (.t 30), none, true, []⟩]
def C48r3 : List AOper := [⟨some 31, .mv (.t 0), none, true, []⟩,
 ⟨some 32, .ldn 6 (.t 3), none, true, []⟩,
 ⟨some 33, .ldn 2 (.t 6), none, true, []⟩,
 ⟨some 34, .call (.k (.c (.fn 74 [] []))) [(.t 31), (.t 32), (.t 33)], none, true, []⟩,
 ⟨some 4, .mv (.t 34), none, true, []⟩,
 ⟨some 5, .mv (.k (.c (.bool false))), none, true, []⟩]
def C48r4 : List AOper := [⟨some 36, .mv (.t 8), none, true, []⟩,
 ⟨some 35, .mv (.t 36), none, true, []⟩]
def C48r5 : List AOper := [⟨some 38, .mv (.t 0), none, false, []⟩,
 ⟨some 39, .nilchk (.t 38), none, false, []⟩,
 ⟨some 40, .faddr (.t 39) 3, none, false, []⟩,
 ⟨some 41, .ld1 (.t 40), none, false, []⟩,
 ⟨some 42, .ldn 2 (.t 6), none, false, []⟩,
 ⟨some 43, .mp .look [true, true] (.int .i64 0) (.t 41) (.t 42) (.k (.bot)), none, true, []⟩,
 ⟨some 37, .mv (.t 43), none, true, []⟩,
 ⟨some 44, .ext (.t 37) 0, none, false, []⟩,
 ⟨some 45, .ext (.t 37) 1, none, false, []⟩,
 ⟨some 9, .mv (.t 44), none, false, []⟩,
 ⟨some 10, .mv (.t 45), none, true, []⟩]
def C48r6 : List AOper := [⟨some 46, .mv (.t 10), none, true, []⟩]
def C48r7 : List AOper := [⟨some 47, .mv (.t 9), none, true, []⟩,
 ⟨some 4, .mv (.t 47), none, true, []⟩,
 ⟨some 5, .mv (.k (.c (.bool false))), none, true, []⟩]
def C48r8 : List AOper := [⟨some 48, .mv (.t 0), none, true, []⟩,
 ⟨some 49, .ldn 6 (.t 3), none, true, []⟩,
 ⟨some 50, .call (.k (.c (.fn 75 [] []))) [(.t 48), (.t 49)], none, true, []⟩,
 ⟨some 11, .mv (.t 50), none, true, []⟩]
def C48r9 : List AOper := [⟨some 51, .mv (.t 0), none, false, []⟩,
 ⟨some 52, .nilchk (.t 51), none, false, []⟩,
 ⟨some 53, .faddr (.t 52) 3, none, false, []⟩,
 ⟨some 54, .ld1 (.t 53), none, false, []⟩,
 ⟨some 55, .ldn 2 (.t 6), none, false, []⟩,
 ⟨some 56, .mv (.t 11), none, false, []⟩,
 ⟨none, .mp .put [true, true] (.int .i64 0) (.t 54) (.t 55) (.t 56), none, true, []⟩]
def C48r10 : List AOper := [⟨some 57, .mv (.t 11), none, true, []⟩,
 ⟨some 4, .mv (.t 57), none, true, []⟩,
 ⟨some 5, .mv (.k (.c (.bool false))), none, true, []⟩]
def C48r11 : List AOper := [⟨some 59, .faddr (.t 3) 0, none, true, []⟩,
 ⟨some 60, .ld1 (.t 59), none, true, []⟩,
 ⟨some 61, .bin .eql (.t 60) (.k (.c (.int .i64 8))), none, true, []⟩,
 ⟨some 58, .mv (.t 61), none, true, []⟩]
def C48r12 : List AOper := [⟨some 63, .mv (.t 0), none, true, []⟩,
 ⟨some 64, .faddr (.t 3) 2, none, true, []⟩,
 ⟨some 65, .ld1 (.t 64), none, true, []⟩,
 ⟨some 66, .call (.k (.c (.fn 76 [] []))) [(.t 63), (.t 65)], none, true, []⟩,
 ⟨some 62, .mv (.t 66), none, true, []⟩,
 ⟨some 67, .ext (.t 62) 0, none, true, []⟩,
 ⟨some 68, .ext (.t 62) 1, none, true, []⟩,
 ⟨some 12, .mv (.t 67), none, true, []⟩,
 ⟨some 13, .mv (.t 68), none, true, []⟩]
def C48r13 : List AOper := [⟨some 70, .mv (.t 0), none, true, []⟩,
 ⟨some 71, .faddr (.t 3) 3, none, true, []⟩,
 ⟨some 72, .ld1 (.t 71), none, true, []⟩,
 ⟨some 73, .call (.k (.c (.fn 76 [] []))) [(.t 70), (.t 72)], none, true, []⟩,
 ⟨some 69, .mv (.t 73), none, true, []⟩,
 ⟨some 74, .ext (.t 69) 0, none, true, []⟩,
 ⟨some 75, .ext (.t 69) 1, none, true, []⟩,
 ⟨some 14, .mv (.t 74), none, true, []⟩,
 ⟨some 15, .mv (.t 75), none, true, []⟩]
def C48r14 : List AOper := [⟨some 76, .mv (.t 13), none, true, []⟩,
 ⟨some 77, .mv (.t 76), none, true, []⟩,
 ⟨some 78, .mv (.t 15), some (77, true), true, []⟩,
 ⟨some 79, .pick 77 (.t 78) (.k (.c (.bool false))), none, true, []⟩]
def C48r15 : List AOper := [⟨some 81, .faddr (.t 3) 1, none, true, []⟩,
 ⟨some 82, .ld1 (.t 81), none, true, []⟩,
 ⟨some 83, .mv (.t 12), none, true, []⟩,
 ⟨some 84, .mv (.t 14), none, true, []⟩,
 ⟨some 85, .call (.k (.c (.fn 31 [] []))) [(.t 82), (.t 83), (.t 84)], none, true, []⟩,
 ⟨some 80, .mv (.t 85), none, true, []⟩,
 ⟨some 86, .ext (.t 80) 0, none, true, []⟩,
 ⟨some 87, .ext (.t 80) 1, none, true, []⟩,
 ⟨some 16, .mv (.t 86), none, true, []⟩,
 ⟨some 17, .mv (.t 87), none, true, []⟩]
def C48r16 : List AOper := [⟨some 88, .mv (.t 0), none, true, []⟩,
 ⟨some 89, .mv (.t 16), none, true, []⟩,
 ⟨some 90, .build [.c (.int .i64 0), .c (.int .i64 0), .c (.int .i64 0), .c (.int .i64 0), .c (.int .i64 0), .c (.int .u64 0)] [(0, 1, (.k (.c (.int .i64 1)))), (5, 1, (.t 89))], none, true, []⟩,
 ⟨some 91, .call (.k (.c (.fn 75 [] []))) [(.t 88), (.t 90)], none, true, []⟩,
 ⟨some 4, .mv (.t 91), none, true, []⟩,
 ⟨some 5, .mv (.k (.c (.bool false))), none, true, []⟩]
def C48r17 : List AOper := [⟨some 93, .faddr (.t 3) 0, none, true, []⟩,
 ⟨some 94, .ld1 (.t 93), none, true, []⟩,
 ⟨some 95, .bin .eql (.t 94) (.k (.c (.int .i64 15))), none, true, []⟩,
 ⟨some 92, .mv (.t 95), none, true, []⟩]
def C48r18 : List AOper := [⟨some 97, .mv (.t 0), none, true, []⟩,
 ⟨some 98, .faddr (.t 3) 2, none, true, []⟩,
 ⟨some 99, .ld1 (.t 98), none, true, []⟩,
 ⟨some 100, .call (.k (.c (.fn 76 [] []))) [(.t 97), (.t 99)], none, true, []⟩,
 ⟨some 96, .mv (.t 100), none, true, []⟩,
 ⟨some 101, .ext (.t 96) 0, none, true, []⟩,
 ⟨some 102, .ext (.t 96) 1, none, true, []⟩,
 ⟨some 18, .mv (.t 101), none, true, []⟩,
 ⟨some 19, .mv (.t 102), none, true, []⟩]
def C48r19 : List AOper := [⟨some 103, .mv (.t 19), none, true, []⟩]
def C48r20 : List AOper := [⟨some 104, .mv (.t 18), none, true, []⟩,
 ⟨some 105, .bin .eql (.t 104) (.k (.c (.int .u64 0))), none, true, []⟩]
def C48r21 : List AOper := [⟨some 4, .mv (.k (.c (.int .i64 (-1)))), none, true, []⟩,
 ⟨some 5, .mv (.k (.c (.bool false))), none, true, []⟩]
def C48r22 : List AOper := [⟨some 106, .mv (.t 0), none, true, []⟩,
 ⟨some 107, .faddr (.t 3) 5, none, true, []⟩,
 ⟨some 108, .ld1 (.t 107), none, true, []⟩,
 ⟨some 109, .build [.c (.int .i64 0), .c (.int .i64 0), .c (.int .i64 0), .c (.int .i64 0), .c (.int .i64 0), .c (.int .u64 0)] [(0, 1, (.k (.c (.int .i64 16)))), (5, 1, (.t 108))], none, true, []⟩,
 ⟨some 110, .call (.k (.c (.fn 75 [] []))) [(.t 106), (.t 109)], none, true, []⟩,
 ⟨some 4, .mv (.t 110), none, true, []⟩,
 ⟨some 5, .mv (.k (.c (.bool true))), none, true, []⟩]
def C48r23 : List AOper := [⟨some 111, .mv (.t 0), none, true, []⟩,
 ⟨some 112, .ldn 6 (.t 3), none, true, []⟩,
 ⟨some 113, .call (.k (.c (.fn 75 [] []))) [(.t 111), (.t 112)], none, true, []⟩,
 ⟨some 4, .mv (.t 113), none, true, []⟩,
 ⟨some 5, .mv (.k (.c (.bool false))), none, true, []⟩]
def C48 : ACode :=
 .seq (.region C48r0)
 (.seq (.region C48r1)
 (.seq (.block 0
 (.seq (.region C48r2)
 (.cond (.t 26)
 (.seq (.region C48r3)
 (.ret))
 (.seq (.region C48r4)
 (.cond (.t 35)
 (.seq (.seq (.region C48r5)
 (.seq (.region C48r6)
 (.cond (.t 46)
 (.seq (.region C48r7)
 (.ret))
 (.skip))))
 (.seq (.region C48r8)
 (.seq (.region C48r9)
 (.seq (.region C48r10)
 (.ret)))))
 (.seq (.region C48r11)
 (.cond (.t 58)
 (.seq (.region C48r12)
 (.seq (.region C48r13)
 (.seq (.region C48r14)
 (.cond (.t 79)
 (.seq (.region C48r15)
 (.seq (.region C48r16)
 (.ret)))
 (.skip)))))
 (.seq (.region C48r17)
 (.cond (.t 92)
 (.seq (.region C48r18)
 (.seq (.region C48r19)
 (.cond (.t 103)
 (.seq (.seq (.region C48r20)
 (.cond (.t 105)
 (.seq (.region C48r21)
 (.ret))
 (.skip)))
 (.seq (.region C48r22)
 (.ret)))
 (.skip))))
 (.skip))))))))))
 (.seq (.region C48r23)
 (.ret))))
theorem C48_ok : stripF Try.prog Try.f48 = some C48 := by kernel_rfl
def C49r0 : List AOper := [⟨some 4, .mv (.k (.c (.bool false))), none, true, []⟩]
def C49r1 : List AOper := [⟨some 6, .mv (.t 0), none, true, []⟩,
 ⟨some 7, .len false (.t 6), none, true, []⟩,
 ⟨some 8, .mv (.t 1), none, true, []⟩,
 ⟨some 9, .len false (.t 8), none, true, []⟩,
 ⟨some 10, .bin .neq (.t 7) (.t 9), none, true, []⟩]
def C49r2 : List AOper := [⟨some 4, .mv (.k (.c (.bool false))), none, true, []⟩]
def C49r3 : List AOper := [⟨some 11, .mv (.t 0), none, true, []⟩,
 ⟨some 12, .len false (.t 11), none, true, []⟩,
 ⟨some 13, .mv (.k (.c (.int .i64 0))), none, true, []⟩]
def C49r4 : List AOper := [⟨some 14, .bin .lss (.t 13) (.t 12), none, true, []⟩]
def C49r5 : List AOper := [⟨some 15, .mv (.t 13), none, true, []⟩,
 ⟨some 5, .mv (.t 15), none, true, []⟩]
def C49r6 : List AOper := [⟨some 16, .mv (.t 0), none, false, []⟩,
 ⟨some 17, .mv (.t 5), none, false, []⟩,
 ⟨some 18, .iaddr 6 (.t 16) (.t 17), none, false, []⟩,
 ⟨some 19, .ldn 6 (.t 18), none, false, []⟩,
 ⟨some 20, .mv (.t 1), none, false, []⟩,
 ⟨some 21, .mv (.t 5), none, false, []⟩,
 ⟨some 22, .iaddr 6 (.t 20) (.t 21), none, false, []⟩,
 ⟨some 23, .ldn 6 (.t 22), none, false, []⟩,
 ⟨some 24, .eqS true [.one true, .one true, .one true, .one true, .one true, .one true] (.t 19) (.t 23), none, true, []⟩]
def C49r7 : List AOper := [⟨some 4, .mv (.k (.c (.bool false))), none, true, []⟩]
def C49r8 : List AOper := [⟨some 25, .bin .add (.t 13) (.k (.c (.int .i64 1))), none, true, []⟩,
 ⟨some 13, .mv (.t 25), none, true, []⟩]
def C49r9 : List AOper := [⟨some 4, .mv (.k (.c (.bool true))), none, true, []⟩]
def C49 : ACode :=
 .seq (.region C49r0)
 (.seq (.seq (.region C49r1)
 (.cond (.t 10)
 (.seq (.region C49r2)
 (.ret))
 (.skip)))
 (.seq (.seq (.region C49r3)
 (.block 0
 (.loop
 (.seq (.region C49r4)
 (.seq (.cond (.t 14)
 (.skip)
 (.exit 0))
 (.seq (.block 1
 (.seq (.region C49r5)
 (.seq (.region C49r6)
 (.cond (.t 24)
 (.seq (.region C49r7)
 (.ret))
 (.skip)))))
 (.region C49r8)))))))
 (.seq (.region C49r9)
 (.ret))))
theorem C49_ok : stripF Try.prog Try.f49 = some C49 := by kernel_rfl
def C52r0 : List AOper := [⟨some 2, .mv (.k (.c (.nilfn))), none, true, []⟩]
def C52r1 : List AOper := [⟨some 3, .mv (.t 0), none, true, []⟩]
def C52r2 : List AOper := [⟨some 5, .bin .eql (.t 3) (.k (.c (.int .i64 1))), none, true, []⟩,
 ⟨some 4, .mv (.t 5), none, true, []⟩]
def C52r3 : List AOper := [⟨some 2, .mv (.k (.c (.fn 77 [] []))), none, true, []⟩]
def C52r4 : List AOper := [⟨some 7, .bin .eql (.t 3) (.k (.c (.int .i64 2))), none, true, []⟩,
 ⟨some 6, .mv (.t 7), none, true, []⟩]
def C52r5 : List AOper := [⟨some 2, .mv (.k (.c (.fn 78 [] []))), none, true, []⟩]
def C52r6 : List AOper := [⟨some 9, .bin .eql (.t 3) (.k (.c (.int .i64 3))), none, true, []⟩,
 ⟨some 8, .mv (.t 9), none, true, []⟩]
def C52r7 : List AOper := [⟨some 2, .mv (.k (.c (.fn 79 [] []))), none, true, []⟩]
def C52r8 : List AOper := [⟨some 11, .bin .eql (.t 3) (.k (.c (.int .i64 4))), none, true, []⟩,
 ⟨some 10, .mv (.t 11), none, true, []⟩]
def C52r9 : List AOper := [⟨some 2, .mv (.k (.c (.fn 80 [] []))), none, true, []⟩]
def C52r10 : List AOper := [⟨some 13, .bin .eql (.t 3) (.k (.c (.int .i64 5))), none, true, []⟩,
 ⟨some 12, .mv (.t 13), none, true, []⟩]
def C52r11 : List AOper := [⟨some 2, .mv (.k (.c (.fn 81 [] []))), none, true, []⟩]
def C52r12 : List AOper := [⟨some 15, .bin .eql (.t 3) (.k (.c (.int .i64 6))), none, true, []⟩,
 ⟨some 14, .mv (.t 15), none, true, []⟩]
def C52r13 : List AOper := [⟨some 2, .mv (.k (.c (.fn 82 [] []))), none, true, []⟩]
def C52r14 : List AOper := [⟨some 17, .bin .eql (.t 3) (.k (.c (.int .i64 7))), none, true, []⟩,
 ⟨some 16, .mv (.t 17), none, true, []⟩]
def C52r15 : List AOper := [⟨some 2, .mv (.k (.c (.fn 83 [] []))), none, true, []⟩]
def C52r16 : List AOper := [⟨some 19, .bin .eql (.t 3) (.k (.c (.int .i64 8))), none, true, []⟩,
 ⟨some 18, .mv (.t 19), none, true, []⟩]
def C52r17 : List AOper := [⟨some 2, .mv (.k (.c (.fn 84 [] []))), none, true, []⟩]
def C52r18 : List AOper := [⟨some 21, .bin .eql (.t 3) (.k (.c (.int .i64 9))), none, true, []⟩,
 ⟨some 20, .mv (.t 21), none, true, []⟩]
def C52r19 : List AOper := [⟨some 2, .mv (.k (.c (.fn 85 [] []))), none, true, []⟩]
def C52r20 : List AOper := [⟨some 23, .bin .eql (.t 3) (.k (.c (.int .i64 10))), none, true, []⟩,
 ⟨some 22, .mv (.t 23), none, true, []⟩]
def C52r21 : List AOper := [⟨some 2, .mv (.k (.c (.fn 86 [] []))), none, true, []⟩]
def C52r22 : List AOper := [⟨some 25, .bin .eql (.t 3) (.k (.c (.int .i64 11))), none, true, []⟩,
 ⟨some 24, .mv (.t 25), none, true, []⟩]
def C52r23 : List AOper := [⟨some 2, .mv (.k (.c (.fn 87 [] []))), none, true, []⟩]
def C52r24 : List AOper := [⟨some 27, .bin .eql (.t 3) (.k (.c (.int .i64 12))), none, true, []⟩,
 ⟨some 26, .mv (.t 27), none, true, []⟩]
def C52r25 : List AOper := [⟨some 2, .mv (.k (.c (.fn 88 [] []))), none, true, []⟩]
def C52r26 : List AOper := [⟨some 29, .bin .eql (.t 3) (.k (.c (.int .i64 13))), none, true, []⟩,
 ⟨some 28, .mv (.t 29), none, true, []⟩]
def C52r27 : List AOper := [⟨some 2, .mv (.k (.c (.fn 89 [] []))), none, true, []⟩]
def C52r28 : List AOper := [⟨some 31, .bin .eql (.t 3) (.k (.c (.int .i64 14))), none, true, []⟩,
 ⟨some 30, .mv (.t 31), none, true, []⟩]
def C52r29 : List AOper := [⟨some 2, .mv (.k (.c (.fn 90 [] []))), none, true, []⟩]
def C52r30 : List AOper := [⟨some 33, .bin .eql (.t 3) (.k (.c (.int .i64 15))), none, true, []⟩,
 ⟨some 32, .mv (.t 33), none, true, []⟩]
def C52r31 : List AOper := [⟨some 2, .mv (.k (.c (.fn 91 [] []))), none, true, []⟩]
def C52r32 : List AOper := [⟨some 2, .mv (.k (.c (.nilfn))), none, true, []⟩]
def C52 : ACode :=
 .seq (.region C52r0)
 (.seq (.seq (.region C52r1)
 (.block 0
 (.seq (.region C52r2)
 (.cond (.t 4)
 (.seq (.region C52r3)
 (.ret))
 (.seq (.region C52r4)
 (.cond (.t 6)
 (.seq (.region C52r5)
 (.ret))
 (.seq (.region C52r6)
 (.cond (.t 8)
 (.seq (.region C52r7)
 (.ret))
 (.seq (.region C52r8)
 (.cond (.t 10)
 (.seq (.region C52r9)
 (.ret))
 (.seq (.region C52r10)
 (.cond (.t 12)
 (.seq (.region C52r11)
 (.ret))
 (.seq (.region C52r12)
 (.cond (.t 14)
 (.seq (.region C52r13)
 (.ret))
 (.seq (.region C52r14)
 (.cond (.t 16)
 (.seq (.region C52r15)
 (.ret))
 (.seq (.region C52r16)
 (.cond (.t 18)
 (.seq (.region C52r17)
 (.ret))
 (.seq (.region C52r18)
 (.cond (.t 20)
 (.seq (.region C52r19)
 (.ret))
 (.seq (.region C52r20)
 (.cond (.t 22)
 (.seq (.region C52r21)
 (.ret))
 (.seq (.region C52r22)
 (.cond (.t 24)
 (.seq (.region C52r23)
 (.ret))
 (.seq (.region C52r24)
 (.cond (.t 26)
 (.seq (.region C52r25)
 (.ret))
 (.seq (.region C52r26)
 (.cond (.t 28)
 (.seq (.region C52r27)
 (.ret))
 (.seq (.region C52r28)
 (.cond (.t 30)
 (.seq (.region C52r29)
 (.ret))
 (.seq (.region C52r30)
 (.cond (.t 32)
 (.seq (.region C52r31)
 (.ret))
 (.skip)))))))))))))))))))))))))))))))))
 (.seq (.region C52r32)
 (.ret)))
theorem C52_ok : stripF Try.prog Try.f52 = some C52 := by kernel_rfl
def C73r0 : List AOper := [⟨some 1, .box 39 (.t 0), none, true, []⟩,
 ⟨some 2, .alloc 111 [.c (.int .i64 0), .c (.int .i64 0)], none, true, []⟩,
 ⟨some 3, .mv (.k (.c (.bool false))), none, true, []⟩,
 ⟨some 4, .mv (.k (.c (.bool false))), none, true, []⟩]
def C73r1 : List AOper := [⟨some 5, .faddr (.t 1) 0, none, true, []⟩,
 ⟨some 6, .ld1 (.t 5), none, true, []⟩]
def C73r2 : List AOper := [⟨some 8, .bin .eql (.t 6) (.k (.c (.int .i64 2))), none, true, []⟩,
 ⟨some 7, .mv (.t 8), none, true, []⟩]
def C73r3 : List AOper := [⟨some 9, .bin .eql (.t 6) (.k (.c (.int .i64 3))), none, true, []⟩,
 ⟨some 7, .mv (.t 9), none, true, []⟩]
def C73r4 : List AOper := [⟨some 10, .faddr (.t 1) 1, none, false, []⟩,
 ⟨some 11, .ld1 (.t 10), none, false, []⟩,
 ⟨some 12, .build [.c (.int .i64 0), .c (.int .i64 0)] [(0, 1, (.k (.c (.int .i64 0)))), (1, 1, (.t 11))], none, false, []⟩,
 ⟨some 13, .faddr (.t 1) 0, none, false, []⟩,
 ⟨some 14, .ld1 (.t 13), none, false, []⟩,
 ⟨some 15, .bin .eql (.t 14) (.k (.c (.int .i64 3))), none, false, []⟩,
 ⟨none, .stn 2 (.t 2) (.t 12), none, true, [13]⟩,
 ⟨some 3, .mv (.t 15), none, true, []⟩,
 ⟨some 4, .mv (.k (.c (.bool true))), none, true, []⟩]
def C73r5 : List AOper := [⟨some 17, .bin .eql (.t 6) (.k (.c (.int .i64 4))), none, true, []⟩,
 ⟨some 16, .mv (.t 17), none, true, []⟩]
def C73r6 : List AOper := [⟨some 18, .bin .eql (.t 6) (.k (.c (.int .i64 5))), none, true, []⟩,
 ⟨some 16, .mv (.t 18), none, true, []⟩]
def C73r7 : List AOper := [⟨some 19, .build [.c (.int .i64 0), .c (.int .i64 0)] [(0, 1, (.k (.c (.int .i64 1)))), (1, 1, (.k (.c (.int .i64 0))))], none, false, []⟩,
 ⟨some 20, .faddr (.t 1) 0, none, false, []⟩,
 ⟨some 21, .ld1 (.t 20), none, false, []⟩,
 ⟨some 22, .bin .eql (.t 21) (.k (.c (.int .i64 5))), none, false, []⟩,
 ⟨none, .stn 2 (.t 2) (.t 19), none, true, [20]⟩,
 ⟨some 3, .mv (.t 22), none, true, []⟩,
 ⟨some 4, .mv (.k (.c (.bool true))), none, true, []⟩]
def C73r8 : List AOper := [⟨some 24, .bin .eql (.t 6) (.k (.c (.int .i64 6))), none, true, []⟩,
 ⟨some 23, .mv (.t 24), none, true, []⟩]
def C73r9 : List AOper := [⟨some 25, .bin .eql (.t 6) (.k (.c (.int .i64 7))), none, true, []⟩,
 ⟨some 23, .mv (.t 25), none, true, []⟩]
def C73r10 : List AOper := [⟨some 26, .faddr (.t 1) 1, none, false, []⟩,
 ⟨some 27, .ld1 (.t 26), none, false, []⟩,
 ⟨some 28, .build [.c (.int .i64 0), .c (.int .i64 0)] [(0, 1, (.k (.c (.int .i64 2)))), (1, 1, (.t 27))], none, false, []⟩,
 ⟨some 29, .faddr (.t 1) 0, none, false, []⟩,
 ⟨some 30, .ld1 (.t 29), none, false, []⟩,
 ⟨some 31, .bin .eql (.t 30) (.k (.c (.int .i64 7))), none, false, []⟩,
 ⟨none, .stn 2 (.t 2) (.t 28), none, true, [29]⟩,
 ⟨some 3, .mv (.t 31), none, true, []⟩,
 ⟨some 4, .mv (.k (.c (.bool true))), none, true, []⟩]
def C73r11 : List AOper := [⟨some 32, .build [.c (.int .i64 0), .c (.int .i64 0)] [], none, true, []⟩,
 ⟨none, .stn 2 (.t 2) (.t 32), none, true, []⟩,
 ⟨some 3, .mv (.k (.c (.bool false))), none, true, []⟩,
 ⟨some 4, .mv (.k (.c (.bool false))), none, true, []⟩]
def C73 : ACode :=
 .seq (.region C73r0)
 (.seq (.seq (.region C73r1)
 (.block 0
 (.seq (.seq (.region C73r2)
 (.cond (.t 7)
 (.skip)
 (.region C73r3)))
 (.cond (.t 7)
 (.seq (.region C73r4)
 (.ret))
 (.seq (.seq (.region C73r5)
 (.cond (.t 16)
 (.skip)
 (.region C73r6)))
 (.cond (.t 16)
 (.seq (.region C73r7)
 (.ret))
 (.seq (.seq (.region C73r8)
 (.cond (.t 23)
 (.skip)
 (.region C73r9)))
 (.cond (.t 23)
 (.seq (.region C73r10)
 (.ret))
 (.skip)))))))))
 (.seq (.region C73r11)
 (.ret)))
theorem C73_ok : stripF Try.prog Try.f73 = some C73 := by kernel_rfl
def C74r0 : List AOper := [⟨some 4, .box 39 (.t 1), none, true, []⟩,
 ⟨some 5, .box 111 (.t 2), none, true, []⟩,
 ⟨some 6, .mv (.k (.c (.int .i64 0))), none, true, []⟩]
def C74r1 : List AOper := [⟨some 7, .faddr (.t 5) 0, none, true, []⟩,
 ⟨some 8, .ld1 (.t 7), none, true, []⟩,
 ⟨some 9, .bin .neq (.t 8) (.k (.c (.int .i64 2))), none, true, []⟩,
 ⟨some 10, .mv (.t 9), none, true, []⟩,
 ⟨some 11, .mv (.t 0), some (10, false), true, []⟩,
 ⟨some 12, .faddr (.t 4) 2, some (10, false), true, []⟩,
 ⟨some 13, .ld1 (.t 12), some (10, false), true, []⟩,
 ⟨some 14, .call (.k (.c (.fn 100 [] []))) [(.t 11), (.t 13)], some (10, false), true, []⟩,
 ⟨some 15, .pick 10 (.k (.c (.bool true))) (.t 14), none, true, []⟩]
def C74r2 : List AOper := [⟨some 16, .mv (.t 0), none, false, []⟩,
 ⟨some 17, .nilchk (.t 16), none, false, []⟩,
 ⟨some 18, .faddr (.t 17) 3, none, false, []⟩,
 ⟨some 19, .ld1 (.t 18), none, false, []⟩,
 ⟨some 20, .ldn 2 (.t 5), none, false, []⟩,
 ⟨some 21, .faddr (.t 4) 2, none, false, []⟩,
 ⟨some 22, .ld1 (.t 21), none, false, []⟩,
 ⟨none, .mp .put [true, true] (.int .i64 0) (.t 19) (.t 20) (.t 22), none, true, []⟩]
def C74r3 : List AOper := [⟨some 23, .mv (.t 0), none, false, []⟩,
 ⟨some 24, .nilchk (.t 23), none, false, []⟩,
 ⟨some 25, .faddr (.t 24) 3, none, false, []⟩,
 ⟨some 26, .ld1 (.t 25), none, false, []⟩,
 ⟨some 27, .ldn 2 (.t 5), none, false, []⟩,
 ⟨none, .mp .del [true, true] (.int .i64 0) (.t 26) (.t 27) (.k (.bot)), none, true, []⟩]
def C74r4 : List AOper := [⟨some 28, .mv (.t 0), none, true, []⟩,
 ⟨some 29, .ldn 6 (.t 4), none, true, []⟩,
 ⟨some 30, .call (.k (.c (.fn 75 [] []))) [(.t 28), (.t 29)], none, true, []⟩,
 ⟨some 6, .mv (.t 30), none, true, []⟩]
def C74 : ACode :=
 .seq (.region C74r0)
 (.seq (.seq (.region C74r1)
 (.cond (.t 15)
 (.region C74r2)
 (.region C74r3)))
 (.seq (.region C74r4)
 (.ret)))
theorem C74_ok : stripF Try.prog Try.f74 = some C74 := by kernel_rfl
def C75r0 : List AOper := [⟨some 3, .box 39 (.t 1), none, true, []⟩,
 ⟨some 4, .mv (.k (.c (.int .i64 0))), none, true, []⟩]
def C75r1 : List AOper := [⟨some 5, .mv (.t 0), none, false, []⟩,
 ⟨some 6, .mv (.t 0), none, false, []⟩,
 ⟨some 7, .nilchk (.t 6), none, false, []⟩,
 ⟨some 8, .faddr (.t 7) 1, none, false, []⟩,
 ⟨some 9, .ld1 (.t 8), none, false, []⟩,
 ⟨some 10, .ldn 6 (.t 3), none, false, []⟩,
 ⟨some 11, .bslice 39 6 [.c (.int .i64 0), .c (.int .i64 0), .c (.int .i64 0), .c (.int .i64 0), .c (.int .i64 0), .c (.int .u64 0)] 1 [(0, 6, (.t 10))], none, false, []⟩,
 ⟨some 12, .app 6 48 39 (.t 9) (.t 11), none, true, []⟩,
 ⟨some 13, .nilchk (.t 5), none, true, []⟩,
 ⟨some 14, .faddr (.t 13) 1, none, true, []⟩,
 ⟨none, .st1 (.t 14) (.t 12), none, true, []⟩]
def C75r2 : List AOper := [⟨some 15, .mv (.t 0), none, true, []⟩,
 ⟨some 16, .nilchk (.t 15), none, true, []⟩,
 ⟨some 17, .faddr (.t 16) 1, none, true, []⟩,
 ⟨some 18, .ld1 (.t 17), none, true, []⟩,
 ⟨some 19, .len false (.t 18), none, true, []⟩,
 ⟨some 20, .bin .sub (.t 19) (.k (.c (.int .i64 1))), none, true, []⟩,
 ⟨some 4, .mv (.t 20), none, true, []⟩]
def C75 : ACode :=
 .seq (.region C75r0)
 (.seq (.region C75r1)
 (.seq (.region C75r2)
 (.ret)))
theorem C75_ok : stripF Try.prog Try.f75 = some C75 := by kernel_rfl
def C76r0 : List AOper := [⟨some 4, .mv (.k (.c (.int .u64 0))), none, true, []⟩,
 ⟨some 5, .mv (.k (.c (.bool false))), none, true, []⟩]
def C76r1 : List AOper := [⟨some 7, .mv (.t 0), none, true, []⟩,
 ⟨some 8, .nilchk (.t 7), none, true, []⟩,
 ⟨some 9, .faddr (.t 8) 1, none, true, []⟩,
 ⟨some 10, .ld1 (.t 9), none, true, []⟩,
 ⟨some 11, .mv (.t 1), none, true, []⟩,
 ⟨some 12, .iaddr 6 (.t 10) (.t 11), none, true, []⟩,
 ⟨some 13, .ldn 6 (.t 12), none, true, []⟩,
 ⟨some 6, .alloc 39 [.c (.int .i64 0), .c (.int .i64 0), .c (.int .i64 0), .c (.int .i64 0), .c (.int .i64 0), .c (.int .u64 0)], none, true, []⟩,
 ⟨none, .stn 6 (.t 6) (.t 13), none, true, []⟩]
def C76r2 : List AOper := [⟨some 14, .faddr (.t 6) 5, none, false, []⟩,
 ⟨some 15, .ld1 (.t 14), none, false, []⟩,
 ⟨some 16, .faddr (.t 6) 0, none, false, []⟩,
 ⟨some 17, .ld1 (.t 16), none, false, []⟩,
 ⟨some 18, .bin .eql (.t 17) (.k (.c (.int .i64 1))), none, false, []⟩,
 ⟨some 4, .mv (.t 15), none, false, []⟩,
 ⟨some 5, .mv (.t 18), none, true, []⟩]
def C76 : ACode :=
 .seq (.region C76r0)
 (.seq (.region C76r1)
 (.seq (.region C76r2)
 (.ret)))
theorem C76_ok : stripF Try.prog Try.f76 = some C76 := by kernel_rfl
def C77r0 : List AOper := [⟨some 4, .mv (.k (.c (.int .u64 0))), none, true, []⟩]
def C77r1 : List AOper := [⟨some 5, .mv (.t 0), none, true, []⟩,
 ⟨some 6, .mv (.t 1), none, true, []⟩,
 ⟨some 7, .bin .add (.t 5) (.t 6), none, true, []⟩,
 ⟨some 4, .mv (.t 7), none, true, []⟩]
def C77 : ACode :=
 .seq (.region C77r0)
 (.seq (.region C77r1)
 (.ret))
theorem C77_ok : stripF Try.prog Try.f77 = some C77 := by kernel_rfl
def C78r0 : List AOper := [⟨some 4, .mv (.k (.c (.int .u64 0))), none, true, []⟩]
def C78r1 : List AOper := [⟨some 5, .mv (.t 0), none, true, []⟩,
 ⟨some 6, .mv (.t 1), none, true, []⟩,
 ⟨some 7, .bin .sub (.t 5) (.t 6), none, true, []⟩,
 ⟨some 4, .mv (.t 7), none, true, []⟩]
def C78 : ACode :=
 .seq (.region C78r0)
 (.seq (.region C78r1)
 (.ret))
theorem C78_ok : stripF Try.prog Try.f78 = some C78 := by kernel_rfl
def C79r0 : List AOper := [⟨some 4, .mv (.k (.c (.int .u64 0))), none, true, []⟩]
def C79r1 : List AOper := [⟨some 5, .mv (.t 0), none, true, []⟩,
 ⟨some 6, .mv (.t 1), none, true, []⟩,
 ⟨some 7, .bin .and (.t 5) (.t 6), none, true, []⟩,
 ⟨some 4, .mv (.t 7), none, true, []⟩]
def C79 : ACode :=
 .seq (.region C79r0)
 (.seq (.region C79r1)
 (.ret))
theorem C79_ok : stripF Try.prog Try.f79 = some C79 := by kernel_rfl
def C80r0 : List AOper := [⟨some 4, .mv (.k (.c (.int .u64 0))), none, true, []⟩]
def C80r1 : List AOper := [⟨some 5, .mv (.t 0), none, true, []⟩,
 ⟨some 6, .mv (.t 1), none, true, []⟩,
 ⟨some 7, .bin .or (.t 5) (.t 6), none, true, []⟩,
 ⟨some 4, .mv (.t 7), none, true, []⟩]
def C80 : ACode :=
 .seq (.region C80r0)
 (.seq (.region C80r1)
 (.ret))
theorem C80_ok : stripF Try.prog Try.f80 = some C80 := by kernel_rfl
def C81r0 : List AOper := [⟨some 4, .mv (.k (.c (.int .u64 0))), none, true, []⟩]
def C81r1 : List AOper := [⟨some 5, .mv (.t 0), none, true, []⟩,
 ⟨some 6, .mv (.t 1), none, true, []⟩,
 ⟨some 7, .bin .xor (.t 5) (.t 6), none, true, []⟩,
 ⟨some 4, .mv (.t 7), none, true, []⟩]
def C81 : ACode :=
 .seq (.region C81r0)
 (.seq (.region C81r1)
 (.ret))
theorem C81_ok : stripF Try.prog Try.f81 = some C81 := by kernel_rfl
def C82r0 : List AOper := [⟨some 4, .mv (.k (.c (.int .u64 0))), none, true, []⟩]
def C82r1 : List AOper := [⟨some 5, .mv (.t 0), none, true, []⟩,
 ⟨some 6, .mv (.t 1), none, true, []⟩,
 ⟨some 7, .bin .mul (.t 5) (.t 6), none, true, []⟩,
 ⟨some 4, .mv (.t 7), none, true, []⟩]
def C82 : ACode :=
 .seq (.region C82r0)
 (.seq (.region C82r1)
 (.ret))
theorem C82_ok : stripF Try.prog Try.f82 = some C82 := by kernel_rfl
def C83r0 : List AOper := [⟨some 4, .mv (.k (.c (.int .u64 0))), none, true, []⟩]
def C83r1 : List AOper := [⟨some 5, .mv (.t 1), none, true, []⟩,
 ⟨some 6, .bin .eql (.t 5) (.k (.c (.int .u64 0))), none, true, []⟩]
def C83r2 : List AOper := [⟨some 4, .mv (.k (.c (.int .u64 0))), none, true, []⟩]
def C83r3 : List AOper := [⟨some 7, .mv (.t 0), none, true, []⟩,
 ⟨some 8, .mv (.t 1), none, true, []⟩,
 ⟨some 9, .bin .quo (.t 7) (.t 8), none, true, []⟩,
 ⟨some 4, .mv (.t 9), none, true, []⟩]
def C83 : ACode :=
 .seq (.region C83r0)
 (.seq (.seq (.region C83r1)
 (.cond (.t 6)
 (.seq (.region C83r2)
 (.ret))
 (.skip)))
 (.seq (.region C83r3)
 (.ret)))
theorem C83_ok : stripF Try.prog Try.f83 = some C83 := by kernel_rfl
def C84r0 : List AOper := [⟨some 4, .mv (.k (.c (.int .u64 0))), none, true, []⟩]
def C84r1 : List AOper := [⟨some 5, .mv (.t 1), none, true, []⟩,
 ⟨some 6, .conv .i64 (.t 5), none, true, []⟩]
def C84r2 : List AOper := [⟨some 8, .bin .eql (.t 6) (.k (.c (.int .i64 0))), none, true, []⟩,
 ⟨some 7, .mv (.t 8), none, true, []⟩]
def C84r3 : List AOper := [⟨some 4, .mv (.k (.c (.int .u64 0))), none, true, []⟩]
def C84r4 : List AOper := [⟨some 10, .bin .eql (.t 6) (.k (.c (.int .i64 (-1)))), none, true, []⟩,
 ⟨some 9, .mv (.t 10), none, true, []⟩]
def C84r5 : List AOper := [⟨some 11, .mv (.t 0), none, true, []⟩,
 ⟨some 12, .un .neg (.t 11), none, true, []⟩,
 ⟨some 4, .mv (.t 12), none, true, []⟩]
def C84r6 : List AOper := [⟨some 13, .mv (.t 0), none, true, []⟩,
 ⟨some 14, .conv .i64 (.t 13), none, true, []⟩,
 ⟨some 15, .mv (.t 1), none, true, []⟩,
 ⟨some 16, .conv .i64 (.t 15), none, true, []⟩,
 ⟨some 17, .bin .quo (.t 14) (.t 16), none, true, []⟩,
 ⟨some 18, .conv .u64 (.t 17), none, true, []⟩,
 ⟨some 4, .mv (.t 18), none, true, []⟩]
def C84 : ACode :=
 .seq (.region C84r0)
 (.seq (.seq (.region C84r1)
 (.block 0
 (.seq (.region C84r2)
 (.cond (.t 7)
 (.seq (.region C84r3)
 (.ret))
 (.seq (.region C84r4)
 (.cond (.t 9)
 (.seq (.region C84r5)
 (.ret))
 (.skip)))))))
 (.seq (.region C84r6)
 (.ret)))
theorem C84_ok : stripF Try.prog Try.f84 = some C84 := by kernel_rfl
def C85r0 : List AOper := [⟨some 4, .mv (.k (.c (.int .u64 0))), none, true, []⟩]
def C85r1 : List AOper := [⟨some 5, .mv (.t 0), none, true, []⟩,
 ⟨some 6, .mv (.t 1), none, true, []⟩,
 ⟨some 7, .bin .and (.t 6) (.k (.c (.int .u64 63))), none, true, []⟩,
 ⟨some 8, .bin .shl (.t 5) (.t 7), none, true, []⟩,
 ⟨some 4, .mv (.t 8), none, true, []⟩]
def C85 : ACode :=
 .seq (.region C85r0)
 (.seq (.region C85r1)
 (.ret))
theorem C85_ok : stripF Try.prog Try.f85 = some C85 := by kernel_rfl
def C86r0 : List AOper := [⟨some 4, .mv (.k (.c (.int .u64 0))), none, true, []⟩]
def C86r1 : List AOper := [⟨some 5, .mv (.t 0), none, true, []⟩,
 ⟨some 6, .mv (.t 1), none, true, []⟩,
 ⟨some 7, .bin .and (.t 6) (.k (.c (.int .u64 63))), none, true, []⟩,
 ⟨some 8, .bin .shr (.t 5) (.t 7), none, true, []⟩,
 ⟨some 4, .mv (.t 8), none, true, []⟩]
def C86 : ACode :=
 .seq (.region C86r0)
 (.seq (.region C86r1)
 (.ret))
theorem C86_ok : stripF Try.prog Try.f86 = some C86 := by kernel_rfl
def C87r0 : List AOper := [⟨some 4, .mv (.k (.c (.int .u64 0))), none, true, []⟩]
def C87r1 : List AOper := [⟨some 5, .mv (.t 0), none, true, []⟩,
 ⟨some 6, .conv .i64 (.t 5), none, true, []⟩,
 ⟨some 7, .mv (.t 1), none, true, []⟩,
 ⟨some 8, .bin .and (.t 7) (.k (.c (.int .u64 63))), none, true, []⟩,
 ⟨some 9, .bin .shr (.t 6) (.t 8), none, true, []⟩,
 ⟨some 10, .conv .u64 (.t 9), none, true, []⟩,
 ⟨some 4, .mv (.t 10), none, true, []⟩]
def C87 : ACode :=
 .seq (.region C87r0)
 (.seq (.region C87r1)
 (.ret))
theorem C87_ok : stripF Try.prog Try.f87 = some C87 := by kernel_rfl
def C88r0 : List AOper := [⟨some 4, .mv (.k (.c (.int .u64 0))), none, true, []⟩]
def C88r1 : List AOper := [⟨some 5, .mv (.t 0), none, true, []⟩,
 ⟨some 6, .mv (.t 1), none, true, []⟩,
 ⟨some 7, .bin .and (.t 6) (.k (.c (.int .u64 63))), none, true, []⟩,
 ⟨some 8, .conv .i64 (.t 7), none, true, []⟩,
 ⟨some 9, .un .neg (.t 8), none, true, []⟩,
 ⟨some 10, .call (.k (.c (.fn 101 [] []))) [(.t 5), (.t 9)], none, true, []⟩,
 ⟨some 4, .mv (.t 10), none, true, []⟩]
def C88 : ACode :=
 .seq (.region C88r0)
 (.seq (.region C88r1)
 (.ret))
theorem C88_ok : stripF Try.prog Try.f88 = some C88 := by kernel_rfl
def C89r0 : List AOper := [⟨some 4, .mv (.k (.c (.int .u64 0))), none, true, []⟩]
def C89r1 : List AOper := [⟨some 5, .mv (.t 0), none, true, []⟩,
 ⟨some 6, .mv (.t 1), none, true, []⟩,
 ⟨some 7, .bin .eql (.t 5) (.t 6), none, true, []⟩,
 ⟨some 8, .call (.k (.c (.fn 102 [] []))) [(.t 7)], none, true, []⟩,
 ⟨some 4, .mv (.t 8), none, true, []⟩]
def C89 : ACode :=
 .seq (.region C89r0)
 (.seq (.region C89r1)
 (.ret))
theorem C89_ok : stripF Try.prog Try.f89 = some C89 := by kernel_rfl
def C90r0 : List AOper := [⟨some 4, .mv (.k (.c (.int .u64 0))), none, true, []⟩]
def C90r1 : List AOper := [⟨some 5, .mv (.t 0), none, true, []⟩,
 ⟨some 6, .mv (.t 1), none, true, []⟩,
 ⟨some 7, .bin .lss (.t 5) (.t 6), none, true, []⟩,
 ⟨some 8, .call (.k (.c (.fn 102 [] []))) [(.t 7)], none, true, []⟩,
 ⟨some 4, .mv (.t 8), none, true, []⟩]
def C90 : ACode :=
 .seq (.region C90r0)
 (.seq (.region C90r1)
 (.ret))
theorem C90_ok : stripF Try.prog Try.f90 = some C90 := by kernel_rfl
def C91r0 : List AOper := [⟨some 4, .mv (.k (.c (.int .u64 0))), none, true, []⟩]
def C91r1 : List AOper := [⟨some 5, .mv (.t 0), none, true, []⟩,
 ⟨some 6, .conv .i64 (.t 5), none, true, []⟩,
 ⟨some 7, .mv (.t 1), none, true, []⟩,
 ⟨some 8, .conv .i64 (.t 7), none, true, []⟩,
 ⟨some 9, .bin .lss (.t 6) (.t 8), none, true, []⟩,
 ⟨some 10, .call (.k (.c (.fn 102 [] []))) [(.t 9)], none, true, []⟩,
 ⟨some 4, .mv (.t 10), none, true, []⟩]
def C91 : ACode :=
 .seq (.region C91r0)
 (.seq (.region C91r1)
 (.ret))
theorem C91_ok : stripF Try.prog Try.f91 = some C91 := by kernel_rfl
def C100r0 : List AOper := [⟨some 4, .mv (.k (.c (.bool false))), none, true, []⟩]
def C100r1 : List AOper := [⟨some 6, .mv (.t 0), none, true, []⟩,
 ⟨some 7, .nilchk (.t 6), none, true, []⟩,
 ⟨some 8, .faddr (.t 7) 1, none, true, []⟩,
 ⟨some 9, .ld1 (.t 8), none, true, []⟩,
 ⟨some 10, .mv (.t 1), none, true, []⟩,
 ⟨some 11, .iaddr 6 (.t 9) (.t 10), none, true, []⟩,
 ⟨some 12, .ldn 6 (.t 11), none, true, []⟩,
 ⟨some 5, .alloc 39 [.c (.int .i64 0), .c (.int .i64 0), .c (.int .i64 0), .c (.int .i64 0), .c (.int .i64 0), .c (.int .u64 0)], none, true, []⟩,
 ⟨none, .stn 6 (.t 5) (.t 12), none, true, []⟩]
def C100r2 : List AOper := [⟨some 13, .faddr (.t 5) 0, none, true, []⟩,
 ⟨some 14, .ld1 (.t 13), none, true, []⟩]
def C100r3 : List AOper := [⟨some 16, .bin .eql (.t 14) (.k (.c (.int .i64 1))), none, true, []⟩,
 ⟨some 15, .mv (.t 16), none, true, []⟩]
def C100r4 : List AOper := [⟨some 17, .faddr (.t 5) 5, none, true, []⟩,
 ⟨some 18, .ld1 (.t 17), none, true, []⟩,
 ⟨some 19, .bin .lss (.t 18) (.k (.c (.int .u64 2))), none, true, []⟩,
 ⟨some 4, .mv (.t 19), none, true, []⟩]
def C100r5 : List AOper := [⟨some 21, .bin .eql (.t 14) (.k (.c (.int .i64 6))), none, true, []⟩,
 ⟨some 20, .mv (.t 21), none, true, []⟩]
def C100r6 : List AOper := [⟨some 4, .mv (.k (.c (.bool true))), none, true, []⟩]
def C100r7 : List AOper := [⟨some 23, .bin .eql (.t 14) (.k (.c (.int .i64 8))), none, true, []⟩,
 ⟨some 22, .mv (.t 23), none, true, []⟩]
def C100r8 : List AOper := [⟨some 24, .faddr (.t 5) 1, none, true, []⟩,
 ⟨some 25, .ld1 (.t 24), none, true, []⟩,
 ⟨some 26, .bin .eql (.t 25) (.k (.c (.int .i64 13))), none, true, []⟩,
 ⟨some 27, .mv (.t 26), none, true, []⟩,
 ⟨some 28, .faddr (.t 5) 1, some (27, false), true, []⟩,
 ⟨some 29, .ld1 (.t 28), some (27, false), true, []⟩,
 ⟨some 30, .bin .eql (.t 29) (.k (.c (.int .i64 14))), some (27, false), true, []⟩,
 ⟨some 31, .pick 27 (.k (.c (.bool true))) (.t 30), none, true, []⟩,
 ⟨some 32, .mv (.t 31), none, true, []⟩,
 ⟨some 33, .faddr (.t 5) 1, some (32, false), true, []⟩,
 ⟨some 34, .ld1 (.t 33), some (32, false), true, []⟩,
 ⟨some 35, .bin .eql (.t 34) (.k (.c (.int .i64 15))), some (32, false), true, []⟩,
 ⟨some 36, .pick 32 (.k (.c (.bool true))) (.t 35), none, true, []⟩,
 ⟨some 4, .mv (.t 36), none, true, []⟩]
def C100r9 : List AOper := [⟨some 4, .mv (.k (.c (.bool false))), none, true, []⟩]
def C100 : ACode :=
 .seq (.region C100r0)
 (.seq (.region C100r1)
 (.seq (.seq (.region C100r2)
 (.block 0
 (.seq (.region C100r3)
 (.cond (.t 15)
 (.seq (.region C100r4)
 (.ret))
 (.seq (.region C100r5)
 (.cond (.t 20)
 (.seq (.region C100r6)
 (.ret))
 (.seq (.region C100r7)
 (.cond (.t 22)
 (.seq (.region C100r8)
 (.ret))
 (.skip)))))))))
 (.seq (.region C100r9)
 (.ret))))
theorem C100_ok : stripF Try.prog Try.f100 = some C100 := by kernel_rfl
def C101r0 : List AOper := [⟨some 4, .mv (.k (.c (.int .u64 0))), none, true, []⟩]
def C101r1 : List AOper := [⟨some 6, .mv (.t 1), none, true, []⟩,
 ⟨some 7, .conv .u64 (.t 6), none, true, []⟩,
 ⟨some 8, .bin .and (.t 7) (.k (.c (.int .u64 63))), none, true, []⟩,
 ⟨some 5, .mv (.t 8), none, true, []⟩]
def C101r2 : List AOper := [⟨some 9, .mv (.t 0), none, true, []⟩,
 ⟨some 10, .mv (.t 5), none, true, []⟩,
 ⟨some 11, .bin .shl (.t 9) (.t 10), none, true, []⟩,
 ⟨some 12, .mv (.t 0), none, true, []⟩,
 ⟨some 13, .mv (.t 5), none, true, []⟩,
 ⟨some 14, .bin .sub (.k (.c (.int .u64 64))) (.t 13), none, true, []⟩,
 ⟨some 15, .bin .shr (.t 12) (.t 14), none, true, []⟩,
 ⟨some 16, .bin .or (.t 11) (.t 15), none, true, []⟩,
 ⟨some 4, .mv (.t 16), none, true, []⟩]
def C101 : ACode :=
 .seq (.region C101r0)
 (.seq (.region C101r1)
 (.seq (.region C101r2)
 (.ret)))
theorem C101_ok : stripF Try.prog Try.f101 = some C101 := by kernel_rfl
def C102r0 : List AOper := [⟨some 2, .mv (.k (.c (.int .u64 0))), none, true, []⟩]
def C102r1 : List AOper := [⟨some 3, .mv (.t 0), none, true, []⟩]
def C102r2 : List AOper := [⟨some 2, .mv (.k (.c (.int .u64 1))), none, true, []⟩]
def C102r3 : List AOper := [⟨some 2, .mv (.k (.c (.int .u64 0))), none, true, []⟩]
def C102 : ACode :=
 .seq (.region C102r0)
 (.seq (.seq (.region C102r1)
 (.cond (.t 3)
 (.seq (.region C102r2)
 (.ret))
 (.skip)))
 (.seq (.region C102r3)
 (.ret)))
theorem C102_ok : stripF Try.prog Try.f102 = some C102 := by kernel_rfl
end Go.Proofs.Ytmbnakinhnkabaa

namespace Go.Proofs.Ytmbnakinhnkabaa
open Go.AM
set_option maxRecDepth 100000
set_option linter.unusedSimpArgs false
set_option linter.unusedVariables false
theorem wrap_nonneg (x : Int) : 0 ≤ IntKind.u64.wrap x := by
  simp only [IntKind.wrap, IntKind.signed, IntKind.bits]
  first | omega | (simp; omega) | skip
def b63 (b : Int) : Int := IntKind.u64.wrap (BitVec.ofInt IntKind.u64.bits b &&& BitVec.ofInt IntKind.u64.bits 63).toNat
def rotS (a b : Int) : Int := IntKind.u64.wrap (BitVec.ofInt IntKind.u64.bits (IntKind.u64.wrap (a * 2 ^ min (b63 (IntKind.u64.wrap b)).toNat IntKind.u64.bits)) ||| BitVec.ofInt IntKind.u64.bits (a.fdiv (2 ^ min (IntKind.u64.wrap (64 - b63 (IntKind.u64.wrap b))).toNat IntKind.u64.bits))).toNat
def f59 (a b : Int) : Int := if IntKind.i64.wrap b = 0 then 0 else if IntKind.i64.wrap b = -1 then IntKind.u64.wrap (0 - a) else IntKind.u64.wrap (IntKind.i64.wrap ((IntKind.i64.wrap a).tdiv (IntKind.i64.wrap b)))
def f60 (a b : Int) : Int := IntKind.u64.wrap (a * 2 ^ min (b63 b).toNat IntKind.u64.bits)
def f61 (a b : Int) : Int := a.fdiv (2 ^ min (b63 b).toNat IntKind.u64.bits)
def f62 (a b : Int) : Int := IntKind.u64.wrap ((IntKind.i64.wrap a).fdiv (2 ^ min (b63 b).toNat IntKind.i64.bits))
def f63 (a b : Int) : Int := rotS a (IntKind.i64.wrap (0 - IntKind.i64.wrap (b63 b)))
def f64 (a b : Int) : Int := truthS (a == b)
def f65 (a b : Int) : Int := truthS (decide (a < b))
def f66 (a b : Int) : Int := truthS (decide (IntKind.i64.wrap a < IntKind.i64.wrap b))
theorem con102 (b : Bool) (H : Heap) : Con Try.prog 102 [.c (.bool b)] H (fun v H' => v = .c (.int .u64 (truthS b)) ∧ H' = H) := by
  refine Con.pure ?_ (by simp only [leArgs, leV, leV1, leC, and_self]) rfl H
  (refine con_of_run mixed (fn := Try.f102) (by kernel_rfl) (by kernel_rfl) C102_ok (rs := [.tmp 2]) (by kernel_rfl) (Nat.le_of_ble_eq_true (by kernel_rfl)) ?_; unfold C102; simp only [initT, Nat.reduceAdd])
  repeat' (first | refine run_seq ?_ | refine run_skip ?_ | (refine run_region fun K hK => ?_; (try (simp (maxSteps := 10000000) only [C102r0, C102r1, C102r2, C102r3, rwp_nil, rwp_cons, rwpK_app, aop, gpath, St.get, slotAt, sfx, eqP, segsOf, St.put, addBlk, getB, setB, delB, ld1, ldn, st1, stn, setRow, rowNeed, segAt, nsub, bin, un, eqB, isShift, sameK, arith, shiftR, getsl, selB_or, selB_and, beqb, shed, addN, Nat.beq, Seg.size, sizes, imp, needP, andN, appL, argsOf, ptrsOf, aasOf, cut, takeS, dropS, putS, partsOf, fillS, fieldOf, nthA, negIf, nilq, nilB, eqS, eqF, eqS1, andP, kin, slcS, strOk, plusA, bndHi, leN, optG, roH, roL, initT, exOk, exAll, wrAddr, Nat.reduceAdd, Nat.reduceSub, Nat.reduceMul, Int.reduceToNat, List.append_nil, List.nil_append, List.cons_append, mapR, mapR1, keyL, keyOk, keyP, colsPut, colsDel, zcols, eqT, idxT, cat, cpy, ite_int, ite_bool, ite_seg, ite_segs, ite_nil, ite_twice, Int.toNat_natCast, app, addBs, tob])); (repeat (first | (refine And.intro ?_ ?_; · first | trivial | assumption | omega))); with_reducible refine hK _ ?_; clear hK K) | (refine run_cond rfl (fun hc => ?_) (fun hc => ?_) <;> try (simp only [*, Bool.true_eq_false, Bool.false_eq_true, Bool.not_true, Bool.not_false, Bool.true_or, Bool.or_true, Bool.false_or, Bool.or_false, Bool.false_and, Bool.and_false, bne_self_eq_false, beq_self_eq_true] at hc; done)) | refine run_ret ?_ | refine run_nil ?_)
  all_goals exact end_tmp1 rfl ⟨rfl, rfl⟩ rfl ⟨by rw [hc]; rfl, rfl⟩
theorem con101 (a b : Int) (H : Heap) : Con Try.prog 101 [.c (.int .u64 a), .c (.int .i64 b)] H (fun v H' => v = .c (.int .u64 (rotS a b)) ∧ H' = H) := by
  refine Con.pure ?_ (by simp only [leArgs, leV, leV1, leC, and_self]) rfl H
  (refine con_of_run mixed (fn := Try.f101) (by kernel_rfl) (by kernel_rfl) C101_ok (rs := [.tmp 4]) (by kernel_rfl) (Nat.le_of_ble_eq_true (by kernel_rfl)) ?_; unfold C101; simp only [initT, Nat.reduceAdd])
  repeat' (first | refine run_seq ?_ | (refine run_region fun K hK => ?_; (try (simp (maxSteps := 10000000) only [wrap_nonneg, true_and, C101r0, C101r1, C101r2, rwp_nil, rwp_cons, rwpK_app, aop, gpath, St.get, slotAt, sfx, eqP, segsOf, St.put, addBlk, getB, setB, delB, ld1, ldn, st1, stn, setRow, rowNeed, segAt, nsub, bin, un, eqB, isShift, sameK, arith, shiftR, getsl, selB_or, selB_and, beqb, shed, addN, Nat.beq, Seg.size, sizes, imp, needP, andN, appL, argsOf, ptrsOf, aasOf, cut, takeS, dropS, putS, partsOf, fillS, fieldOf, nthA, negIf, nilq, nilB, eqS, eqF, eqS1, andP, kin, slcS, strOk, plusA, bndHi, leN, optG, roH, roL, initT, exOk, exAll, wrAddr, Nat.reduceAdd, Nat.reduceSub, Nat.reduceMul, Int.reduceToNat, List.append_nil, List.nil_append, List.cons_append, mapR, mapR1, keyL, keyOk, keyP, colsPut, colsDel, zcols, eqT, idxT, cat, cpy, ite_int, ite_bool, ite_seg, ite_segs, ite_nil, ite_twice, Int.toNat_natCast, app, addBs, tob])); (repeat (first | (refine And.intro ?_ ?_; · first | trivial | assumption | omega))); with_reducible refine hK _ ?_; clear hK K) | refine run_ret ?_ | refine run_nil ?_)
  exact end_tmp1 rfl ⟨rfl, rfl⟩ rfl ⟨rfl, rfl⟩
theorem con77 (a b : Int) (H : Heap) : Con Try.prog 77 [.c (.int .u64 a), .c (.int .u64 b)] H (fun v H' => v = .c (.int .u64 (f52 a b)) ∧ H' = H) := by
  refine Con.pure ?_ (by simp only [leArgs, leV, leV1, leC, and_self]) rfl H
  (refine con_of_run mixed (fn := Try.f77) (by kernel_rfl) (by kernel_rfl) C77_ok (rs := [.tmp 4]) (by kernel_rfl) (Nat.le_of_ble_eq_true (by kernel_rfl)) ?_; unfold C77; simp only [initT, Nat.reduceAdd])
  repeat' (first | refine run_seq ?_ | (refine run_region fun K hK => ?_; (try (simp (maxSteps := 10000000) only [C77r0, C77r1, rwp_nil, rwp_cons, rwpK_app, aop, gpath, St.get, slotAt, sfx, eqP, segsOf, St.put, addBlk, getB, setB, delB, ld1, ldn, st1, stn, setRow, rowNeed, segAt, nsub, bin, un, eqB, isShift, sameK, arith, shiftR, getsl, selB_or, selB_and, beqb, shed, addN, Nat.beq, Seg.size, sizes, imp, needP, andN, appL, argsOf, ptrsOf, aasOf, cut, takeS, dropS, putS, partsOf, fillS, fieldOf, nthA, negIf, nilq, nilB, eqS, eqF, eqS1, andP, kin, slcS, strOk, plusA, bndHi, leN, optG, roH, roL, initT, exOk, exAll, wrAddr, Nat.reduceAdd, Nat.reduceSub, Nat.reduceMul, Int.reduceToNat, List.append_nil, List.nil_append, List.cons_append, mapR, mapR1, keyL, keyOk, keyP, colsPut, colsDel, zcols, eqT, idxT, cat, cpy, ite_int, ite_bool, ite_seg, ite_segs, ite_nil, ite_twice, Int.toNat_natCast, app, addBs, tob])); (repeat (first | (refine And.intro ?_ ?_; · first | trivial | assumption | omega))); with_reducible refine hK _ ?_; clear hK K) | refine run_ret ?_ | refine run_nil ?_)
  exact end_tmp1 rfl ⟨rfl, rfl⟩ rfl ⟨rfl, rfl⟩
theorem con78 (a b : Int) (H : Heap) : Con Try.prog 78 [.c (.int .u64 a), .c (.int .u64 b)] H (fun v H' => v = .c (.int .u64 (f53 a b)) ∧ H' = H) := by
  refine Con.pure ?_ (by simp only [leArgs, leV, leV1, leC, and_self]) rfl H
  (refine con_of_run mixed (fn := Try.f78) (by kernel_rfl) (by kernel_rfl) C78_ok (rs := [.tmp 4]) (by kernel_rfl) (Nat.le_of_ble_eq_true (by kernel_rfl)) ?_; unfold C78; simp only [initT, Nat.reduceAdd])
  repeat' (first | refine run_seq ?_ | (refine run_region fun K hK => ?_; (try (simp (maxSteps := 10000000) only [C78r0, C78r1, rwp_nil, rwp_cons, rwpK_app, aop, gpath, St.get, slotAt, sfx, eqP, segsOf, St.put, addBlk, getB, setB, delB, ld1, ldn, st1, stn, setRow, rowNeed, segAt, nsub, bin, un, eqB, isShift, sameK, arith, shiftR, getsl, selB_or, selB_and, beqb, shed, addN, Nat.beq, Seg.size, sizes, imp, needP, andN, appL, argsOf, ptrsOf, aasOf, cut, takeS, dropS, putS, partsOf, fillS, fieldOf, nthA, negIf, nilq, nilB, eqS, eqF, eqS1, andP, kin, slcS, strOk, plusA, bndHi, leN, optG, roH, roL, initT, exOk, exAll, wrAddr, Nat.reduceAdd, Nat.reduceSub, Nat.reduceMul, Int.reduceToNat, List.append_nil, List.nil_append, List.cons_append, mapR, mapR1, keyL, keyOk, keyP, colsPut, colsDel, zcols, eqT, idxT, cat, cpy, ite_int, ite_bool, ite_seg, ite_segs, ite_nil, ite_twice, Int.toNat_natCast, app, addBs, tob])); (repeat (first | (refine And.intro ?_ ?_; · first | trivial | assumption | omega))); with_reducible refine hK _ ?_; clear hK K) | refine run_ret ?_ | refine run_nil ?_)
  exact end_tmp1 rfl ⟨rfl, rfl⟩ rfl ⟨rfl, rfl⟩
theorem con79 (a b : Int) (H : Heap) : Con Try.prog 79 [.c (.int .u64 a), .c (.int .u64 b)] H (fun v H' => v = .c (.int .u64 (f54 a b)) ∧ H' = H) := by
  refine Con.pure ?_ (by simp only [leArgs, leV, leV1, leC, and_self]) rfl H
  (refine con_of_run mixed (fn := Try.f79) (by kernel_rfl) (by kernel_rfl) C79_ok (rs := [.tmp 4]) (by kernel_rfl) (Nat.le_of_ble_eq_true (by kernel_rfl)) ?_; unfold C79; simp only [initT, Nat.reduceAdd])
  repeat' (first | refine run_seq ?_ | (refine run_region fun K hK => ?_; (try (simp (maxSteps := 10000000) only [C79r0, C79r1, rwp_nil, rwp_cons, rwpK_app, aop, gpath, St.get, slotAt, sfx, eqP, segsOf, St.put, addBlk, getB, setB, delB, ld1, ldn, st1, stn, setRow, rowNeed, segAt, nsub, bin, un, eqB, isShift, sameK, arith, shiftR, getsl, selB_or, selB_and, beqb, shed, addN, Nat.beq, Seg.size, sizes, imp, needP, andN, appL, argsOf, ptrsOf, aasOf, cut, takeS, dropS, putS, partsOf, fillS, fieldOf, nthA, negIf, nilq, nilB, eqS, eqF, eqS1, andP, kin, slcS, strOk, plusA, bndHi, leN, optG, roH, roL, initT, exOk, exAll, wrAddr, Nat.reduceAdd, Nat.reduceSub, Nat.reduceMul, Int.reduceToNat, List.append_nil, List.nil_append, List.cons_append, mapR, mapR1, keyL, keyOk, keyP, colsPut, colsDel, zcols, eqT, idxT, cat, cpy, ite_int, ite_bool, ite_seg, ite_segs, ite_nil, ite_twice, Int.toNat_natCast, app, addBs, tob])); (repeat (first | (refine And.intro ?_ ?_; · first | trivial | assumption | omega))); with_reducible refine hK _ ?_; clear hK K) | refine run_ret ?_ | refine run_nil ?_)
  exact end_tmp1 rfl ⟨rfl, rfl⟩ rfl ⟨rfl, rfl⟩
theorem con80 (a b : Int) (H : Heap) : Con Try.prog 80 [.c (.int .u64 a), .c (.int .u64 b)] H (fun v H' => v = .c (.int .u64 (f55 a b)) ∧ H' = H) := by
  refine Con.pure ?_ (by simp only [leArgs, leV, leV1, leC, and_self]) rfl H
  (refine con_of_run mixed (fn := Try.f80) (by kernel_rfl) (by kernel_rfl) C80_ok (rs := [.tmp 4]) (by kernel_rfl) (Nat.le_of_ble_eq_true (by kernel_rfl)) ?_; unfold C80; simp only [initT, Nat.reduceAdd])
  repeat' (first | refine run_seq ?_ | (refine run_region fun K hK => ?_; (try (simp (maxSteps := 10000000) only [C80r0, C80r1, rwp_nil, rwp_cons, rwpK_app, aop, gpath, St.get, slotAt, sfx, eqP, segsOf, St.put, addBlk, getB, setB, delB, ld1, ldn, st1, stn, setRow, rowNeed, segAt, nsub, bin, un, eqB, isShift, sameK, arith, shiftR, getsl, selB_or, selB_and, beqb, shed, addN, Nat.beq, Seg.size, sizes, imp, needP, andN, appL, argsOf, ptrsOf, aasOf, cut, takeS, dropS, putS, partsOf, fillS, fieldOf, nthA, negIf, nilq, nilB, eqS, eqF, eqS1, andP, kin, slcS, strOk, plusA, bndHi, leN, optG, roH, roL, initT, exOk, exAll, wrAddr, Nat.reduceAdd, Nat.reduceSub, Nat.reduceMul, Int.reduceToNat, List.append_nil, List.nil_append, List.cons_append, mapR, mapR1, keyL, keyOk, keyP, colsPut, colsDel, zcols, eqT, idxT, cat, cpy, ite_int, ite_bool, ite_seg, ite_segs, ite_nil, ite_twice, Int.toNat_natCast, app, addBs, tob])); (repeat (first | (refine And.intro ?_ ?_; · first | trivial | assumption | omega))); with_reducible refine hK _ ?_; clear hK K) | refine run_ret ?_ | refine run_nil ?_)
  exact end_tmp1 rfl ⟨rfl, rfl⟩ rfl ⟨rfl, rfl⟩
theorem con81 (a b : Int) (H : Heap) : Con Try.prog 81 [.c (.int .u64 a), .c (.int .u64 b)] H (fun v H' => v = .c (.int .u64 (f56 a b)) ∧ H' = H) := by
  refine Con.pure ?_ (by simp only [leArgs, leV, leV1, leC, and_self]) rfl H
  (refine con_of_run mixed (fn := Try.f81) (by kernel_rfl) (by kernel_rfl) C81_ok (rs := [.tmp 4]) (by kernel_rfl) (Nat.le_of_ble_eq_true (by kernel_rfl)) ?_; unfold C81; simp only [initT, Nat.reduceAdd])
  repeat' (first | refine run_seq ?_ | (refine run_region fun K hK => ?_; (try (simp (maxSteps := 10000000) only [C81r0, C81r1, rwp_nil, rwp_cons, rwpK_app, aop, gpath, St.get, slotAt, sfx, eqP, segsOf, St.put, addBlk, getB, setB, delB, ld1, ldn, st1, stn, setRow, rowNeed, segAt, nsub, bin, un, eqB, isShift, sameK, arith, shiftR, getsl, selB_or, selB_and, beqb, shed, addN, Nat.beq, Seg.size, sizes, imp, needP, andN, appL, argsOf, ptrsOf, aasOf, cut, takeS, dropS, putS, partsOf, fillS, fieldOf, nthA, negIf, nilq, nilB, eqS, eqF, eqS1, andP, kin, slcS, strOk, plusA, bndHi, leN, optG, roH, roL, initT, exOk, exAll, wrAddr, Nat.reduceAdd, Nat.reduceSub, Nat.reduceMul, Int.reduceToNat, List.append_nil, List.nil_append, List.cons_append, mapR, mapR1, keyL, keyOk, keyP, colsPut, colsDel, zcols, eqT, idxT, cat, cpy, ite_int, ite_bool, ite_seg, ite_segs, ite_nil, ite_twice, Int.toNat_natCast, app, addBs, tob])); (repeat (first | (refine And.intro ?_ ?_; · first | trivial | assumption | omega))); with_reducible refine hK _ ?_; clear hK K) | refine run_ret ?_ | refine run_nil ?_)
  exact end_tmp1 rfl ⟨rfl, rfl⟩ rfl ⟨rfl, rfl⟩
theorem con82 (a b : Int) (H : Heap) : Con Try.prog 82 [.c (.int .u64 a), .c (.int .u64 b)] H (fun v H' => v = .c (.int .u64 (f57 a b)) ∧ H' = H) := by
  refine Con.pure ?_ (by simp only [leArgs, leV, leV1, leC, and_self]) rfl H
  (refine con_of_run mixed (fn := Try.f82) (by kernel_rfl) (by kernel_rfl) C82_ok (rs := [.tmp 4]) (by kernel_rfl) (Nat.le_of_ble_eq_true (by kernel_rfl)) ?_; unfold C82; simp only [initT, Nat.reduceAdd])
  repeat' (first | refine run_seq ?_ | (refine run_region fun K hK => ?_; (try (simp (maxSteps := 10000000) only [C82r0, C82r1, rwp_nil, rwp_cons, rwpK_app, aop, gpath, St.get, slotAt, sfx, eqP, segsOf, St.put, addBlk, getB, setB, delB, ld1, ldn, st1, stn, setRow, rowNeed, segAt, nsub, bin, un, eqB, isShift, sameK, arith, shiftR, getsl, selB_or, selB_and, beqb, shed, addN, Nat.beq, Seg.size, sizes, imp, needP, andN, appL, argsOf, ptrsOf, aasOf, cut, takeS, dropS, putS, partsOf, fillS, fieldOf, nthA, negIf, nilq, nilB, eqS, eqF, eqS1, andP, kin, slcS, strOk, plusA, bndHi, leN, optG, roH, roL, initT, exOk, exAll, wrAddr, Nat.reduceAdd, Nat.reduceSub, Nat.reduceMul, Int.reduceToNat, List.append_nil, List.nil_append, List.cons_append, mapR, mapR1, keyL, keyOk, keyP, colsPut, colsDel, zcols, eqT, idxT, cat, cpy, ite_int, ite_bool, ite_seg, ite_segs, ite_nil, ite_twice, Int.toNat_natCast, app, addBs, tob])); (repeat (first | (refine And.intro ?_ ?_; · first | trivial | assumption | omega))); with_reducible refine hK _ ?_; clear hK K) | refine run_ret ?_ | refine run_nil ?_)
  exact end_tmp1 rfl ⟨rfl, rfl⟩ rfl ⟨rfl, rfl⟩
theorem con83 (a b : Int) (H : Heap) : Con Try.prog 83 [.c (.int .u64 a), .c (.int .u64 b)] H (fun v H' => v = .c (.int .u64 (f58 a b)) ∧ H' = H) := by
  refine Con.pure ?_ (by simp only [leArgs, leV, leV1, leC, and_self]) rfl H
  (refine con_of_run mixed (fn := Try.f83) (by kernel_rfl) (by kernel_rfl) C83_ok (rs := [.tmp 4]) (by kernel_rfl) (Nat.le_of_ble_eq_true (by kernel_rfl)) ?_; unfold C83; simp only [initT, Nat.reduceAdd])
  repeat' (first | refine run_seq ?_ | refine run_skip ?_ | (refine run_region fun K hK => ?_; (try (simp (maxSteps := 10000000) only [ne_eq, C83r0, C83r1, C83r2, C83r3, rwp_nil, rwp_cons, rwpK_app, aop, gpath, St.get, slotAt, sfx, eqP, segsOf, St.put, addBlk, getB, setB, delB, ld1, ldn, st1, stn, setRow, rowNeed, segAt, nsub, bin, un, eqB, isShift, sameK, arith, shiftR, getsl, selB_or, selB_and, beqb, shed, addN, Nat.beq, Seg.size, sizes, imp, needP, andN, appL, argsOf, ptrsOf, aasOf, cut, takeS, dropS, putS, partsOf, fillS, fieldOf, nthA, negIf, nilq, nilB, eqS, eqF, eqS1, andP, kin, slcS, strOk, plusA, bndHi, leN, optG, roH, roL, initT, exOk, exAll, wrAddr, Nat.reduceAdd, Nat.reduceSub, Nat.reduceMul, Int.reduceToNat, List.append_nil, List.nil_append, List.cons_append, mapR, mapR1, keyL, keyOk, keyP, colsPut, colsDel, zcols, eqT, idxT, cat, cpy, ite_int, ite_bool, ite_seg, ite_segs, ite_nil, ite_twice, Int.toNat_natCast, app, addBs, tob])); (repeat (first | (refine And.intro ?_ ?_; · first | trivial | assumption | omega))); with_reducible refine hK _ ?_; clear hK K) | (refine run_cond rfl (fun hc => ?_) (fun hc => ?_) <;> try (simp only [*, Bool.true_eq_false, Bool.false_eq_true, Bool.not_true, Bool.not_false, Bool.true_or, Bool.or_true, Bool.false_or, Bool.or_false, Bool.false_and, Bool.and_false, bne_self_eq_false, beq_self_eq_true] at hc; done)) | refine run_ret ?_ | refine run_nil ?_)
  · exact end_tmp1 rfl ⟨rfl, rfl⟩ rfl ⟨by have : b = 0 := by simpa using hc
                                          subst this; rfl, rfl⟩
  · have hb : ¬ b = 0 := by simpa using hc
    refine run_region fun K hK => ?_
    simp (maxSteps := 10000000) only [ne_eq, C83r0, C83r1, C83r2, C83r3, rwp_nil, rwp_cons, rwpK_app, aop, gpath, St.get, slotAt, sfx, eqP, segsOf, St.put, addBlk, getB, setB, delB, ld1, ldn, st1, stn, setRow, rowNeed, segAt, nsub, bin, un, eqB, isShift, sameK, arith, shiftR, getsl, selB_or, selB_and, beqb, shed, addN, Nat.beq, Seg.size, sizes, imp, needP, andN, appL, argsOf, ptrsOf, aasOf, cut, takeS, dropS, putS, partsOf, fillS, fieldOf, nthA, negIf, nilq, nilB, eqS, eqF, eqS1, andP, kin, slcS, strOk, plusA, bndHi, leN, optG, roH, roL, initT, exOk, exAll, wrAddr, Nat.reduceAdd, Nat.reduceSub, Nat.reduceMul, Int.reduceToNat, List.append_nil, List.nil_append, List.cons_append, mapR, mapR1, keyL, keyOk, keyP, colsPut, colsDel, zcols, eqT, idxT, cat, cpy, ite_int, ite_bool, ite_seg, ite_segs, ite_nil, ite_twice, Int.toNat_natCast, app, addBs, tob]
    refine ⟨hb, hK _ ?_⟩
    repeat' (first | refine run_seq ?_ | refine run_skip ?_ | (refine run_region fun K hK => ?_; (try (simp (maxSteps := 10000000) only [C83r0, C83r1, C83r2, C83r3, rwp_nil, rwp_cons, rwpK_app, aop, gpath, St.get, slotAt, sfx, eqP, segsOf, St.put, addBlk, getB, setB, delB, ld1, ldn, st1, stn, setRow, rowNeed, segAt, nsub, bin, un, eqB, isShift, sameK, arith, shiftR, getsl, selB_or, selB_and, beqb, shed, addN, Nat.beq, Seg.size, sizes, imp, needP, andN, appL, argsOf, ptrsOf, aasOf, cut, takeS, dropS, putS, partsOf, fillS, fieldOf, nthA, negIf, nilq, nilB, eqS, eqF, eqS1, andP, kin, slcS, strOk, plusA, bndHi, leN, optG, roH, roL, initT, exOk, exAll, wrAddr, Nat.reduceAdd, Nat.reduceSub, Nat.reduceMul, Int.reduceToNat, List.append_nil, List.nil_append, List.cons_append, mapR, mapR1, keyL, keyOk, keyP, colsPut, colsDel, zcols, eqT, idxT, cat, cpy, ite_int, ite_bool, ite_seg, ite_segs, ite_nil, ite_twice, Int.toNat_natCast, app, addBs, tob])); (repeat (first | (refine And.intro ?_ ?_; · first | trivial | assumption | omega))); with_reducible refine hK _ ?_; clear hK K) | (refine run_cond rfl (fun hc => ?_) (fun hc => ?_) <;> try (simp only [*, Bool.true_eq_false, Bool.false_eq_true, Bool.not_true, Bool.not_false, Bool.true_or, Bool.or_true, Bool.false_or, Bool.or_false, Bool.false_and, Bool.and_false, bne_self_eq_false, beq_self_eq_true] at hc; done)) | refine run_ret ?_ | refine run_nil ?_)
    exact end_tmp1 rfl ⟨rfl, rfl⟩ rfl ⟨by unfold f58; rw [if_neg hb], rfl⟩
theorem con84 (a b : Int) (H : Heap) : Con Try.prog 84 [.c (.int .u64 a), .c (.int .u64 b)] H (fun v H' => v = .c (.int .u64 (f59 a b)) ∧ H' = H) := by
  refine Con.pure ?_ (by simp only [leArgs, leV, leV1, leC, and_self]) rfl H
  (refine con_of_run mixed (fn := Try.f84) (by kernel_rfl) (by kernel_rfl) C84_ok (rs := [.tmp 4]) (by kernel_rfl) (Nat.le_of_ble_eq_true (by kernel_rfl)) ?_; unfold C84; simp only [initT, Nat.reduceAdd])
  repeat' (first | refine run_seq ?_ | refine run_skip ?_ | (refine run_region fun K hK => ?_; (try (simp (maxSteps := 10000000) only [ne_eq, C84r0, C84r1, C84r2, C84r3, C84r4, C84r5, C84r6, rwp_nil, rwp_cons, rwpK_app, aop, gpath, St.get, slotAt, sfx, eqP, segsOf, St.put, addBlk, getB, setB, delB, ld1, ldn, st1, stn, setRow, rowNeed, segAt, nsub, bin, un, eqB, isShift, sameK, arith, shiftR, getsl, selB_or, selB_and, beqb, shed, addN, Nat.beq, Seg.size, sizes, imp, needP, andN, appL, argsOf, ptrsOf, aasOf, cut, takeS, dropS, putS, partsOf, fillS, fieldOf, nthA, negIf, nilq, nilB, eqS, eqF, eqS1, andP, kin, slcS, strOk, plusA, bndHi, leN, optG, roH, roL, initT, exOk, exAll, wrAddr, Nat.reduceAdd, Nat.reduceSub, Nat.reduceMul, Int.reduceToNat, List.append_nil, List.nil_append, List.cons_append, mapR, mapR1, keyL, keyOk, keyP, colsPut, colsDel, zcols, eqT, idxT, cat, cpy, ite_int, ite_bool, ite_seg, ite_segs, ite_nil, ite_twice, Int.toNat_natCast, app, addBs, tob])); (repeat (first | (refine And.intro ?_ ?_; · first | trivial | assumption | omega))); with_reducible refine hK _ ?_; clear hK K) | (refine run_cond rfl (fun hc => ?_) (fun hc => ?_) <;> try (simp only [*, Bool.true_eq_false, Bool.false_eq_true, Bool.not_true, Bool.not_false, Bool.true_or, Bool.or_true, Bool.false_or, Bool.or_false, Bool.false_and, Bool.and_false, bne_self_eq_false, beq_self_eq_true] at hc; done)) | refine run_block ?_ | refine run_ret ?_ | refine run_nil ?_ | refine blk_normal ?_ | refine blk_ret ?_ | refine blk_here ?_ | refine blk_there rfl ?_)
  · exact end_tmp1 rfl ⟨rfl, rfl⟩ rfl ⟨by have : IntKind.i64.wrap b = 0 := by simpa using hc
                                          unfold f59; rw [if_pos this], rfl⟩
  · rename_i hc1
    have h1 : ¬ IntKind.i64.wrap b = 0 := by simpa using hc1
    have h2 : IntKind.i64.wrap b = -1 := by simpa using hc
    exact end_tmp1 rfl ⟨rfl, rfl⟩ rfl ⟨by unfold f59; rw [if_neg h1, if_pos h2], rfl⟩
  · rename_i hc1
    have h1 : ¬ IntKind.i64.wrap b = 0 := by simpa using hc1
    have h2 : ¬ IntKind.i64.wrap b = -1 := by simpa using hc
    refine run_region fun K hK => ?_
    simp (maxSteps := 10000000) only [ne_eq, C84r0, C84r1, C84r2, C84r3, C84r4, C84r5, C84r6, rwp_nil, rwp_cons, rwpK_app, aop, gpath, St.get, slotAt, sfx, eqP, segsOf, St.put, addBlk, getB, setB, delB, ld1, ldn, st1, stn, setRow, rowNeed, segAt, nsub, bin, un, eqB, isShift, sameK, arith, shiftR, getsl, selB_or, selB_and, beqb, shed, addN, Nat.beq, Seg.size, sizes, imp, needP, andN, appL, argsOf, ptrsOf, aasOf, cut, takeS, dropS, putS, partsOf, fillS, fieldOf, nthA, negIf, nilq, nilB, eqS, eqF, eqS1, andP, kin, slcS, strOk, plusA, bndHi, leN, optG, roH, roL, initT, exOk, exAll, wrAddr, Nat.reduceAdd, Nat.reduceSub, Nat.reduceMul, Int.reduceToNat, List.append_nil, List.nil_append, List.cons_append, mapR, mapR1, keyL, keyOk, keyP, colsPut, colsDel, zcols, eqT, idxT, cat, cpy, ite_int, ite_bool, ite_seg, ite_segs, ite_nil, ite_twice, Int.toNat_natCast, app, addBs, tob]
    refine ⟨h1, hK _ ?_⟩
    repeat' (first | refine run_seq ?_ | refine run_skip ?_ | (refine run_region fun K hK => ?_; (try (simp (maxSteps := 10000000) only [C84r0, C84r1, C84r2, C84r3, C84r4, C84r5, C84r6, rwp_nil, rwp_cons, rwpK_app, aop, gpath, St.get, slotAt, sfx, eqP, segsOf, St.put, addBlk, getB, setB, delB, ld1, ldn, st1, stn, setRow, rowNeed, segAt, nsub, bin, un, eqB, isShift, sameK, arith, shiftR, getsl, selB_or, selB_and, beqb, shed, addN, Nat.beq, Seg.size, sizes, imp, needP, andN, appL, argsOf, ptrsOf, aasOf, cut, takeS, dropS, putS, partsOf, fillS, fieldOf, nthA, negIf, nilq, nilB, eqS, eqF, eqS1, andP, kin, slcS, strOk, plusA, bndHi, leN, optG, roH, roL, initT, exOk, exAll, wrAddr, Nat.reduceAdd, Nat.reduceSub, Nat.reduceMul, Int.reduceToNat, List.append_nil, List.nil_append, List.cons_append, mapR, mapR1, keyL, keyOk, keyP, colsPut, colsDel, zcols, eqT, idxT, cat, cpy, ite_int, ite_bool, ite_seg, ite_segs, ite_nil, ite_twice, Int.toNat_natCast, app, addBs, tob])); (repeat (first | (refine And.intro ?_ ?_; · first | trivial | assumption | omega))); with_reducible refine hK _ ?_; clear hK K) | (refine run_cond rfl (fun hc => ?_) (fun hc => ?_) <;> try (simp only [*, Bool.true_eq_false, Bool.false_eq_true, Bool.not_true, Bool.not_false, Bool.true_or, Bool.or_true, Bool.false_or, Bool.or_false, Bool.false_and, Bool.and_false, bne_self_eq_false, beq_self_eq_true] at hc; done)) | refine run_block ?_ | refine run_ret ?_ | refine run_nil ?_ | refine blk_normal ?_ | refine blk_ret ?_ | refine blk_here ?_ | refine blk_there rfl ?_)
    exact end_tmp1 rfl ⟨rfl, rfl⟩ rfl ⟨by unfold f59; rw [if_neg h1, if_neg h2], rfl⟩
theorem con85 (a b : Int) (H : Heap) : Con Try.prog 85 [.c (.int .u64 a), .c (.int .u64 b)] H (fun v H' => v = .c (.int .u64 (f60 a b)) ∧ H' = H) := by
  refine Con.pure ?_ (by simp only [leArgs, leV, leV1, leC, and_self]) rfl H
  (refine con_of_run mixed (fn := Try.f85) (by kernel_rfl) (by kernel_rfl) C85_ok (rs := [.tmp 4]) (by kernel_rfl) (Nat.le_of_ble_eq_true (by kernel_rfl)) ?_; unfold C85; simp only [initT, Nat.reduceAdd])
  repeat' (first | refine run_seq ?_ | (refine run_region fun K hK => ?_; (try (simp (maxSteps := 10000000) only [wrap_nonneg, true_and, C85r0, C85r1, rwp_nil, rwp_cons, rwpK_app, aop, gpath, St.get, slotAt, sfx, eqP, segsOf, St.put, addBlk, getB, setB, delB, ld1, ldn, st1, stn, setRow, rowNeed, segAt, nsub, bin, un, eqB, isShift, sameK, arith, shiftR, getsl, selB_or, selB_and, beqb, shed, addN, Nat.beq, Seg.size, sizes, imp, needP, andN, appL, argsOf, ptrsOf, aasOf, cut, takeS, dropS, putS, partsOf, fillS, fieldOf, nthA, negIf, nilq, nilB, eqS, eqF, eqS1, andP, kin, slcS, strOk, plusA, bndHi, leN, optG, roH, roL, initT, exOk, exAll, wrAddr, Nat.reduceAdd, Nat.reduceSub, Nat.reduceMul, Int.reduceToNat, List.append_nil, List.nil_append, List.cons_append, mapR, mapR1, keyL, keyOk, keyP, colsPut, colsDel, zcols, eqT, idxT, cat, cpy, ite_int, ite_bool, ite_seg, ite_segs, ite_nil, ite_twice, Int.toNat_natCast, app, addBs, tob])); (repeat (first | (refine And.intro ?_ ?_; · first | trivial | assumption | omega))); with_reducible refine hK _ ?_; clear hK K) | refine run_ret ?_ | refine run_nil ?_)
  exact end_tmp1 rfl ⟨rfl, rfl⟩ rfl ⟨rfl, rfl⟩
theorem con86 (a b : Int) (H : Heap) : Con Try.prog 86 [.c (.int .u64 a), .c (.int .u64 b)] H (fun v H' => v = .c (.int .u64 (f61 a b)) ∧ H' = H) := by
  refine Con.pure ?_ (by simp only [leArgs, leV, leV1, leC, and_self]) rfl H
  (refine con_of_run mixed (fn := Try.f86) (by kernel_rfl) (by kernel_rfl) C86_ok (rs := [.tmp 4]) (by kernel_rfl) (Nat.le_of_ble_eq_true (by kernel_rfl)) ?_; unfold C86; simp only [initT, Nat.reduceAdd])
  repeat' (first | refine run_seq ?_ | (refine run_region fun K hK => ?_; (try (simp (maxSteps := 10000000) only [wrap_nonneg, true_and, C86r0, C86r1, rwp_nil, rwp_cons, rwpK_app, aop, gpath, St.get, slotAt, sfx, eqP, segsOf, St.put, addBlk, getB, setB, delB, ld1, ldn, st1, stn, setRow, rowNeed, segAt, nsub, bin, un, eqB, isShift, sameK, arith, shiftR, getsl, selB_or, selB_and, beqb, shed, addN, Nat.beq, Seg.size, sizes, imp, needP, andN, appL, argsOf, ptrsOf, aasOf, cut, takeS, dropS, putS, partsOf, fillS, fieldOf, nthA, negIf, nilq, nilB, eqS, eqF, eqS1, andP, kin, slcS, strOk, plusA, bndHi, leN, optG, roH, roL, initT, exOk, exAll, wrAddr, Nat.reduceAdd, Nat.reduceSub, Nat.reduceMul, Int.reduceToNat, List.append_nil, List.nil_append, List.cons_append, mapR, mapR1, keyL, keyOk, keyP, colsPut, colsDel, zcols, eqT, idxT, cat, cpy, ite_int, ite_bool, ite_seg, ite_segs, ite_nil, ite_twice, Int.toNat_natCast, app, addBs, tob])); (repeat (first | (refine And.intro ?_ ?_; · first | trivial | assumption | omega))); with_reducible refine hK _ ?_; clear hK K) | refine run_ret ?_ | refine run_nil ?_)
  exact end_tmp1 rfl ⟨rfl, rfl⟩ rfl ⟨rfl, rfl⟩
theorem con87 (a b : Int) (H : Heap) : Con Try.prog 87 [.c (.int .u64 a), .c (.int .u64 b)] H (fun v H' => v = .c (.int .u64 (f62 a b)) ∧ H' = H) := by
  refine Con.pure ?_ (by simp only [leArgs, leV, leV1, leC, and_self]) rfl H
  (refine con_of_run mixed (fn := Try.f87) (by kernel_rfl) (by kernel_rfl) C87_ok (rs := [.tmp 4]) (by kernel_rfl) (Nat.le_of_ble_eq_true (by kernel_rfl)) ?_; unfold C87; simp only [initT, Nat.reduceAdd])
  repeat' (first | refine run_seq ?_ | (refine run_region fun K hK => ?_; (try (simp (maxSteps := 10000000) only [wrap_nonneg, true_and, C87r0, C87r1, rwp_nil, rwp_cons, rwpK_app, aop, gpath, St.get, slotAt, sfx, eqP, segsOf, St.put, addBlk, getB, setB, delB, ld1, ldn, st1, stn, setRow, rowNeed, segAt, nsub, bin, un, eqB, isShift, sameK, arith, shiftR, getsl, selB_or, selB_and, beqb, shed, addN, Nat.beq, Seg.size, sizes, imp, needP, andN, appL, argsOf, ptrsOf, aasOf, cut, takeS, dropS, putS, partsOf, fillS, fieldOf, nthA, negIf, nilq, nilB, eqS, eqF, eqS1, andP, kin, slcS, strOk, plusA, bndHi, leN, optG, roH, roL, initT, exOk, exAll, wrAddr, Nat.reduceAdd, Nat.reduceSub, Nat.reduceMul, Int.reduceToNat, List.append_nil, List.nil_append, List.cons_append, mapR, mapR1, keyL, keyOk, keyP, colsPut, colsDel, zcols, eqT, idxT, cat, cpy, ite_int, ite_bool, ite_seg, ite_segs, ite_nil, ite_twice, Int.toNat_natCast, app, addBs, tob])); (repeat (first | (refine And.intro ?_ ?_; · first | trivial | assumption | omega))); with_reducible refine hK _ ?_; clear hK K) | refine run_ret ?_ | refine run_nil ?_)
  exact end_tmp1 rfl ⟨rfl, rfl⟩ rfl ⟨rfl, rfl⟩
theorem con88 (a b : Int) (H : Heap) : Con Try.prog 88 [.c (.int .u64 a), .c (.int .u64 b)] H (fun v H' => v = .c (.int .u64 (f63 a b)) ∧ H' = H) := by
  refine Con.pure ?_ (by simp only [leArgs, leV, leV1, leC, and_self]) rfl H
  (refine con_of_run mixed (fn := Try.f88) (by kernel_rfl) (by kernel_rfl) C88_ok (rs := [.tmp 4]) (by kernel_rfl) (Nat.le_of_ble_eq_true (by kernel_rfl)) ?_; unfold C88; simp only [initT, Nat.reduceAdd])
  refine run_seq ?_
  refine run_region fun K hK => ?_
  simp (maxSteps := 10000000) only [C88r0, C88r1, rwp_nil, rwp_cons, rwpK_app, aop, gpath, St.get, slotAt, sfx, eqP, segsOf, St.put, addBlk, getB, setB, delB, ld1, ldn, st1, stn, setRow, rowNeed, segAt, nsub, bin, un, eqB, isShift, sameK, arith, shiftR, getsl, selB_or, selB_and, beqb, shed, addN, Nat.beq, Seg.size, sizes, imp, needP, andN, appL, argsOf, ptrsOf, aasOf, cut, takeS, dropS, putS, partsOf, fillS, fieldOf, nthA, negIf, nilq, nilB, eqS, eqF, eqS1, andP, kin, slcS, strOk, plusA, bndHi, leN, optG, roH, roL, initT, exOk, exAll, wrAddr, Nat.reduceAdd, Nat.reduceSub, Nat.reduceMul, Int.reduceToNat, List.append_nil, List.nil_append, List.cons_append, mapR, mapR1, keyL, keyOk, keyP, colsPut, colsDel, zcols, eqT, idxT, cat, cpy, ite_int, ite_bool, ite_seg, ite_segs, ite_nil, ite_twice, Int.toNat_natCast, app, addBs, tob]
  refine hK _ ?_
  clear hK K
  refine run_seq ?_
  refine run_region fun K hK => ?_
  simp (maxSteps := 10000000) only [C88r0, C88r1, rwp_nil, rwp_cons, rwpK_app, aop, gpath, St.get, slotAt, sfx, eqP, segsOf, St.put, addBlk, getB, setB, delB, ld1, ldn, st1, stn, setRow, rowNeed, segAt, nsub, bin, un, eqB, isShift, sameK, arith, shiftR, getsl, selB_or, selB_and, beqb, shed, addN, Nat.beq, Seg.size, sizes, imp, needP, andN, appL, argsOf, ptrsOf, aasOf, cut, takeS, dropS, putS, partsOf, fillS, fieldOf, nthA, negIf, nilq, nilB, eqS, eqF, eqS1, andP, kin, slcS, strOk, plusA, bndHi, leN, optG, roH, roL, initT, exOk, exAll, wrAddr, Nat.reduceAdd, Nat.reduceSub, Nat.reduceMul, Int.reduceToNat, List.append_nil, List.nil_append, List.cons_append, mapR, mapR1, keyL, keyOk, keyP, colsPut, colsDel, zcols, eqT, idxT, cat, cpy, ite_int, ite_bool, ite_seg, ite_segs, ite_nil, ite_twice, Int.toNat_natCast, app, addBs, tob]
  refine call_t _ (con101 _ _ _) ?_
  rintro v H' ⟨rfl, rfl⟩
  simp (maxSteps := 10000000) only [C88r0, C88r1, rwp_nil, rwp_cons, rwpK_app, aop, gpath, St.get, slotAt, sfx, eqP, segsOf, St.put, addBlk, getB, setB, delB, ld1, ldn, st1, stn, setRow, rowNeed, segAt, nsub, bin, un, eqB, isShift, sameK, arith, shiftR, getsl, selB_or, selB_and, beqb, shed, addN, Nat.beq, Seg.size, sizes, imp, needP, andN, appL, argsOf, ptrsOf, aasOf, cut, takeS, dropS, putS, partsOf, fillS, fieldOf, nthA, negIf, nilq, nilB, eqS, eqF, eqS1, andP, kin, slcS, strOk, plusA, bndHi, leN, optG, roH, roL, initT, exOk, exAll, wrAddr, Nat.reduceAdd, Nat.reduceSub, Nat.reduceMul, Int.reduceToNat, List.append_nil, List.nil_append, List.cons_append, mapR, mapR1, keyL, keyOk, keyP, colsPut, colsDel, zcols, eqT, idxT, cat, cpy, ite_int, ite_bool, ite_seg, ite_segs, ite_nil, ite_twice, Int.toNat_natCast, app, addBs, tob]
  refine hK _ ?_
  clear hK K
  repeat' (first | refine run_seq ?_ | (refine run_region fun K hK => ?_; (try (simp (maxSteps := 10000000) only [C88r0, C88r1, rwp_nil, rwp_cons, rwpK_app, aop, gpath, St.get, slotAt, sfx, eqP, segsOf, St.put, addBlk, getB, setB, delB, ld1, ldn, st1, stn, setRow, rowNeed, segAt, nsub, bin, un, eqB, isShift, sameK, arith, shiftR, getsl, selB_or, selB_and, beqb, shed, addN, Nat.beq, Seg.size, sizes, imp, needP, andN, appL, argsOf, ptrsOf, aasOf, cut, takeS, dropS, putS, partsOf, fillS, fieldOf, nthA, negIf, nilq, nilB, eqS, eqF, eqS1, andP, kin, slcS, strOk, plusA, bndHi, leN, optG, roH, roL, initT, exOk, exAll, wrAddr, Nat.reduceAdd, Nat.reduceSub, Nat.reduceMul, Int.reduceToNat, List.append_nil, List.nil_append, List.cons_append, mapR, mapR1, keyL, keyOk, keyP, colsPut, colsDel, zcols, eqT, idxT, cat, cpy, ite_int, ite_bool, ite_seg, ite_segs, ite_nil, ite_twice, Int.toNat_natCast, app, addBs, tob])); (repeat (first | (refine And.intro ?_ ?_; · first | trivial | assumption | omega))); with_reducible refine hK _ ?_; clear hK K) | refine run_ret ?_ | refine run_nil ?_)
  exact end_tmp1 rfl ⟨rfl, rfl⟩ rfl ⟨rfl, rfl⟩
theorem con89 (a b : Int) (H : Heap) : Con Try.prog 89 [.c (.int .u64 a), .c (.int .u64 b)] H (fun v H' => v = .c (.int .u64 (f64 a b)) ∧ H' = H) := by
  refine Con.pure ?_ (by simp only [leArgs, leV, leV1, leC, and_self]) rfl H
  (refine con_of_run mixed (fn := Try.f89) (by kernel_rfl) (by kernel_rfl) C89_ok (rs := [.tmp 4]) (by kernel_rfl) (Nat.le_of_ble_eq_true (by kernel_rfl)) ?_; unfold C89; simp only [initT, Nat.reduceAdd])
  refine run_seq ?_
  refine run_region fun K hK => ?_
  simp (maxSteps := 10000000) only [C89r0, C89r1, rwp_nil, rwp_cons, rwpK_app, aop, gpath, St.get, slotAt, sfx, eqP, segsOf, St.put, addBlk, getB, setB, delB, ld1, ldn, st1, stn, setRow, rowNeed, segAt, nsub, bin, un, eqB, isShift, sameK, arith, shiftR, getsl, selB_or, selB_and, beqb, shed, addN, Nat.beq, Seg.size, sizes, imp, needP, andN, appL, argsOf, ptrsOf, aasOf, cut, takeS, dropS, putS, partsOf, fillS, fieldOf, nthA, negIf, nilq, nilB, eqS, eqF, eqS1, andP, kin, slcS, strOk, plusA, bndHi, leN, optG, roH, roL, initT, exOk, exAll, wrAddr, Nat.reduceAdd, Nat.reduceSub, Nat.reduceMul, Int.reduceToNat, List.append_nil, List.nil_append, List.cons_append, mapR, mapR1, keyL, keyOk, keyP, colsPut, colsDel, zcols, eqT, idxT, cat, cpy, ite_int, ite_bool, ite_seg, ite_segs, ite_nil, ite_twice, Int.toNat_natCast, app, addBs, tob]
  refine hK _ ?_
  clear hK K
  refine run_seq ?_
  refine run_region fun K hK => ?_
  simp (maxSteps := 10000000) only [C89r0, C89r1, rwp_nil, rwp_cons, rwpK_app, aop, gpath, St.get, slotAt, sfx, eqP, segsOf, St.put, addBlk, getB, setB, delB, ld1, ldn, st1, stn, setRow, rowNeed, segAt, nsub, bin, un, eqB, isShift, sameK, arith, shiftR, getsl, selB_or, selB_and, beqb, shed, addN, Nat.beq, Seg.size, sizes, imp, needP, andN, appL, argsOf, ptrsOf, aasOf, cut, takeS, dropS, putS, partsOf, fillS, fieldOf, nthA, negIf, nilq, nilB, eqS, eqF, eqS1, andP, kin, slcS, strOk, plusA, bndHi, leN, optG, roH, roL, initT, exOk, exAll, wrAddr, Nat.reduceAdd, Nat.reduceSub, Nat.reduceMul, Int.reduceToNat, List.append_nil, List.nil_append, List.cons_append, mapR, mapR1, keyL, keyOk, keyP, colsPut, colsDel, zcols, eqT, idxT, cat, cpy, ite_int, ite_bool, ite_seg, ite_segs, ite_nil, ite_twice, Int.toNat_natCast, app, addBs, tob]
  refine call_t _ (con102 _ _) ?_
  rintro v H' ⟨rfl, rfl⟩
  simp (maxSteps := 10000000) only [C89r0, C89r1, rwp_nil, rwp_cons, rwpK_app, aop, gpath, St.get, slotAt, sfx, eqP, segsOf, St.put, addBlk, getB, setB, delB, ld1, ldn, st1, stn, setRow, rowNeed, segAt, nsub, bin, un, eqB, isShift, sameK, arith, shiftR, getsl, selB_or, selB_and, beqb, shed, addN, Nat.beq, Seg.size, sizes, imp, needP, andN, appL, argsOf, ptrsOf, aasOf, cut, takeS, dropS, putS, partsOf, fillS, fieldOf, nthA, negIf, nilq, nilB, eqS, eqF, eqS1, andP, kin, slcS, strOk, plusA, bndHi, leN, optG, roH, roL, initT, exOk, exAll, wrAddr, Nat.reduceAdd, Nat.reduceSub, Nat.reduceMul, Int.reduceToNat, List.append_nil, List.nil_append, List.cons_append, mapR, mapR1, keyL, keyOk, keyP, colsPut, colsDel, zcols, eqT, idxT, cat, cpy, ite_int, ite_bool, ite_seg, ite_segs, ite_nil, ite_twice, Int.toNat_natCast, app, addBs, tob]
  refine hK _ ?_
  clear hK K
  repeat' (first | refine run_seq ?_ | (refine run_region fun K hK => ?_; (try (simp (maxSteps := 10000000) only [C89r0, C89r1, rwp_nil, rwp_cons, rwpK_app, aop, gpath, St.get, slotAt, sfx, eqP, segsOf, St.put, addBlk, getB, setB, delB, ld1, ldn, st1, stn, setRow, rowNeed, segAt, nsub, bin, un, eqB, isShift, sameK, arith, shiftR, getsl, selB_or, selB_and, beqb, shed, addN, Nat.beq, Seg.size, sizes, imp, needP, andN, appL, argsOf, ptrsOf, aasOf, cut, takeS, dropS, putS, partsOf, fillS, fieldOf, nthA, negIf, nilq, nilB, eqS, eqF, eqS1, andP, kin, slcS, strOk, plusA, bndHi, leN, optG, roH, roL, initT, exOk, exAll, wrAddr, Nat.reduceAdd, Nat.reduceSub, Nat.reduceMul, Int.reduceToNat, List.append_nil, List.nil_append, List.cons_append, mapR, mapR1, keyL, keyOk, keyP, colsPut, colsDel, zcols, eqT, idxT, cat, cpy, ite_int, ite_bool, ite_seg, ite_segs, ite_nil, ite_twice, Int.toNat_natCast, app, addBs, tob])); (repeat (first | (refine And.intro ?_ ?_; · first | trivial | assumption | omega))); with_reducible refine hK _ ?_; clear hK K) | refine run_ret ?_ | refine run_nil ?_)
  exact end_tmp1 rfl ⟨rfl, rfl⟩ rfl ⟨rfl, rfl⟩
theorem con90 (a b : Int) (H : Heap) : Con Try.prog 90 [.c (.int .u64 a), .c (.int .u64 b)] H (fun v H' => v = .c (.int .u64 (f65 a b)) ∧ H' = H) := by
  refine Con.pure ?_ (by simp only [leArgs, leV, leV1, leC, and_self]) rfl H
  (refine con_of_run mixed (fn := Try.f90) (by kernel_rfl) (by kernel_rfl) C90_ok (rs := [.tmp 4]) (by kernel_rfl) (Nat.le_of_ble_eq_true (by kernel_rfl)) ?_; unfold C90; simp only [initT, Nat.reduceAdd])
  refine run_seq ?_
  refine run_region fun K hK => ?_
  simp (maxSteps := 10000000) only [C90r0, C90r1, rwp_nil, rwp_cons, rwpK_app, aop, gpath, St.get, slotAt, sfx, eqP, segsOf, St.put, addBlk, getB, setB, delB, ld1, ldn, st1, stn, setRow, rowNeed, segAt, nsub, bin, un, eqB, isShift, sameK, arith, shiftR, getsl, selB_or, selB_and, beqb, shed, addN, Nat.beq, Seg.size, sizes, imp, needP, andN, appL, argsOf, ptrsOf, aasOf, cut, takeS, dropS, putS, partsOf, fillS, fieldOf, nthA, negIf, nilq, nilB, eqS, eqF, eqS1, andP, kin, slcS, strOk, plusA, bndHi, leN, optG, roH, roL, initT, exOk, exAll, wrAddr, Nat.reduceAdd, Nat.reduceSub, Nat.reduceMul, Int.reduceToNat, List.append_nil, List.nil_append, List.cons_append, mapR, mapR1, keyL, keyOk, keyP, colsPut, colsDel, zcols, eqT, idxT, cat, cpy, ite_int, ite_bool, ite_seg, ite_segs, ite_nil, ite_twice, Int.toNat_natCast, app, addBs, tob]
  refine hK _ ?_
  clear hK K
  refine run_seq ?_
  refine run_region fun K hK => ?_
  simp (maxSteps := 10000000) only [C90r0, C90r1, rwp_nil, rwp_cons, rwpK_app, aop, gpath, St.get, slotAt, sfx, eqP, segsOf, St.put, addBlk, getB, setB, delB, ld1, ldn, st1, stn, setRow, rowNeed, segAt, nsub, bin, un, eqB, isShift, sameK, arith, shiftR, getsl, selB_or, selB_and, beqb, shed, addN, Nat.beq, Seg.size, sizes, imp, needP, andN, appL, argsOf, ptrsOf, aasOf, cut, takeS, dropS, putS, partsOf, fillS, fieldOf, nthA, negIf, nilq, nilB, eqS, eqF, eqS1, andP, kin, slcS, strOk, plusA, bndHi, leN, optG, roH, roL, initT, exOk, exAll, wrAddr, Nat.reduceAdd, Nat.reduceSub, Nat.reduceMul, Int.reduceToNat, List.append_nil, List.nil_append, List.cons_append, mapR, mapR1, keyL, keyOk, keyP, colsPut, colsDel, zcols, eqT, idxT, cat, cpy, ite_int, ite_bool, ite_seg, ite_segs, ite_nil, ite_twice, Int.toNat_natCast, app, addBs, tob]
  refine call_t _ (con102 _ _) ?_
  rintro v H' ⟨rfl, rfl⟩
  simp (maxSteps := 10000000) only [C90r0, C90r1, rwp_nil, rwp_cons, rwpK_app, aop, gpath, St.get, slotAt, sfx, eqP, segsOf, St.put, addBlk, getB, setB, delB, ld1, ldn, st1, stn, setRow, rowNeed, segAt, nsub, bin, un, eqB, isShift, sameK, arith, shiftR, getsl, selB_or, selB_and, beqb, shed, addN, Nat.beq, Seg.size, sizes, imp, needP, andN, appL, argsOf, ptrsOf, aasOf, cut, takeS, dropS, putS, partsOf, fillS, fieldOf, nthA, negIf, nilq, nilB, eqS, eqF, eqS1, andP, kin, slcS, strOk, plusA, bndHi, leN, optG, roH, roL, initT, exOk, exAll, wrAddr, Nat.reduceAdd, Nat.reduceSub, Nat.reduceMul, Int.reduceToNat, List.append_nil, List.nil_append, List.cons_append, mapR, mapR1, keyL, keyOk, keyP, colsPut, colsDel, zcols, eqT, idxT, cat, cpy, ite_int, ite_bool, ite_seg, ite_segs, ite_nil, ite_twice, Int.toNat_natCast, app, addBs, tob]
  refine hK _ ?_
  clear hK K
  repeat' (first | refine run_seq ?_ | (refine run_region fun K hK => ?_; (try (simp (maxSteps := 10000000) only [C90r0, C90r1, rwp_nil, rwp_cons, rwpK_app, aop, gpath, St.get, slotAt, sfx, eqP, segsOf, St.put, addBlk, getB, setB, delB, ld1, ldn, st1, stn, setRow, rowNeed, segAt, nsub, bin, un, eqB, isShift, sameK, arith, shiftR, getsl, selB_or, selB_and, beqb, shed, addN, Nat.beq, Seg.size, sizes, imp, needP, andN, appL, argsOf, ptrsOf, aasOf, cut, takeS, dropS, putS, partsOf, fillS, fieldOf, nthA, negIf, nilq, nilB, eqS, eqF, eqS1, andP, kin, slcS, strOk, plusA, bndHi, leN, optG, roH, roL, initT, exOk, exAll, wrAddr, Nat.reduceAdd, Nat.reduceSub, Nat.reduceMul, Int.reduceToNat, List.append_nil, List.nil_append, List.cons_append, mapR, mapR1, keyL, keyOk, keyP, colsPut, colsDel, zcols, eqT, idxT, cat, cpy, ite_int, ite_bool, ite_seg, ite_segs, ite_nil, ite_twice, Int.toNat_natCast, app, addBs, tob])); (repeat (first | (refine And.intro ?_ ?_; · first | trivial | assumption | omega))); with_reducible refine hK _ ?_; clear hK K) | refine run_ret ?_ | refine run_nil ?_)
  exact end_tmp1 rfl ⟨rfl, rfl⟩ rfl ⟨rfl, rfl⟩
theorem con91 (a b : Int) (H : Heap) : Con Try.prog 91 [.c (.int .u64 a), .c (.int .u64 b)] H (fun v H' => v = .c (.int .u64 (f66 a b)) ∧ H' = H) := by
  refine Con.pure ?_ (by simp only [leArgs, leV, leV1, leC, and_self]) rfl H
  (refine con_of_run mixed (fn := Try.f91) (by kernel_rfl) (by kernel_rfl) C91_ok (rs := [.tmp 4]) (by kernel_rfl) (Nat.le_of_ble_eq_true (by kernel_rfl)) ?_; unfold C91; simp only [initT, Nat.reduceAdd])
  refine run_seq ?_
  refine run_region fun K hK => ?_
  simp (maxSteps := 10000000) only [C91r0, C91r1, rwp_nil, rwp_cons, rwpK_app, aop, gpath, St.get, slotAt, sfx, eqP, segsOf, St.put, addBlk, getB, setB, delB, ld1, ldn, st1, stn, setRow, rowNeed, segAt, nsub, bin, un, eqB, isShift, sameK, arith, shiftR, getsl, selB_or, selB_and, beqb, shed, addN, Nat.beq, Seg.size, sizes, imp, needP, andN, appL, argsOf, ptrsOf, aasOf, cut, takeS, dropS, putS, partsOf, fillS, fieldOf, nthA, negIf, nilq, nilB, eqS, eqF, eqS1, andP, kin, slcS, strOk, plusA, bndHi, leN, optG, roH, roL, initT, exOk, exAll, wrAddr, Nat.reduceAdd, Nat.reduceSub, Nat.reduceMul, Int.reduceToNat, List.append_nil, List.nil_append, List.cons_append, mapR, mapR1, keyL, keyOk, keyP, colsPut, colsDel, zcols, eqT, idxT, cat, cpy, ite_int, ite_bool, ite_seg, ite_segs, ite_nil, ite_twice, Int.toNat_natCast, app, addBs, tob]
  refine hK _ ?_
  clear hK K
  refine run_seq ?_
  refine run_region fun K hK => ?_
  simp (maxSteps := 10000000) only [C91r0, C91r1, rwp_nil, rwp_cons, rwpK_app, aop, gpath, St.get, slotAt, sfx, eqP, segsOf, St.put, addBlk, getB, setB, delB, ld1, ldn, st1, stn, setRow, rowNeed, segAt, nsub, bin, un, eqB, isShift, sameK, arith, shiftR, getsl, selB_or, selB_and, beqb, shed, addN, Nat.beq, Seg.size, sizes, imp, needP, andN, appL, argsOf, ptrsOf, aasOf, cut, takeS, dropS, putS, partsOf, fillS, fieldOf, nthA, negIf, nilq, nilB, eqS, eqF, eqS1, andP, kin, slcS, strOk, plusA, bndHi, leN, optG, roH, roL, initT, exOk, exAll, wrAddr, Nat.reduceAdd, Nat.reduceSub, Nat.reduceMul, Int.reduceToNat, List.append_nil, List.nil_append, List.cons_append, mapR, mapR1, keyL, keyOk, keyP, colsPut, colsDel, zcols, eqT, idxT, cat, cpy, ite_int, ite_bool, ite_seg, ite_segs, ite_nil, ite_twice, Int.toNat_natCast, app, addBs, tob]
  refine call_t _ (con102 _ _) ?_
  rintro v H' ⟨rfl, rfl⟩
  simp (maxSteps := 10000000) only [C91r0, C91r1, rwp_nil, rwp_cons, rwpK_app, aop, gpath, St.get, slotAt, sfx, eqP, segsOf, St.put, addBlk, getB, setB, delB, ld1, ldn, st1, stn, setRow, rowNeed, segAt, nsub, bin, un, eqB, isShift, sameK, arith, shiftR, getsl, selB_or, selB_and, beqb, shed, addN, Nat.beq, Seg.size, sizes, imp, needP, andN, appL, argsOf, ptrsOf, aasOf, cut, takeS, dropS, putS, partsOf, fillS, fieldOf, nthA, negIf, nilq, nilB, eqS, eqF, eqS1, andP, kin, slcS, strOk, plusA, bndHi, leN, optG, roH, roL, initT, exOk, exAll, wrAddr, Nat.reduceAdd, Nat.reduceSub, Nat.reduceMul, Int.reduceToNat, List.append_nil, List.nil_append, List.cons_append, mapR, mapR1, keyL, keyOk, keyP, colsPut, colsDel, zcols, eqT, idxT, cat, cpy, ite_int, ite_bool, ite_seg, ite_segs, ite_nil, ite_twice, Int.toNat_natCast, app, addBs, tob]
  refine hK _ ?_
  clear hK K
  repeat' (first | refine run_seq ?_ | (refine run_region fun K hK => ?_; (try (simp (maxSteps := 10000000) only [C91r0, C91r1, rwp_nil, rwp_cons, rwpK_app, aop, gpath, St.get, slotAt, sfx, eqP, segsOf, St.put, addBlk, getB, setB, delB, ld1, ldn, st1, stn, setRow, rowNeed, segAt, nsub, bin, un, eqB, isShift, sameK, arith, shiftR, getsl, selB_or, selB_and, beqb, shed, addN, Nat.beq, Seg.size, sizes, imp, needP, andN, appL, argsOf, ptrsOf, aasOf, cut, takeS, dropS, putS, partsOf, fillS, fieldOf, nthA, negIf, nilq, nilB, eqS, eqF, eqS1, andP, kin, slcS, strOk, plusA, bndHi, leN, optG, roH, roL, initT, exOk, exAll, wrAddr, Nat.reduceAdd, Nat.reduceSub, Nat.reduceMul, Int.reduceToNat, List.append_nil, List.nil_append, List.cons_append, mapR, mapR1, keyL, keyOk, keyP, colsPut, colsDel, zcols, eqT, idxT, cat, cpy, ite_int, ite_bool, ite_seg, ite_segs, ite_nil, ite_twice, Int.toNat_natCast, app, addBs, tob])); (repeat (first | (refine And.intro ?_ ?_; · first | trivial | assumption | omega))); with_reducible refine hK _ ?_; clear hK K) | refine run_ret ?_ | refine run_nil ?_)
  exact end_tmp1 rfl ⟨rfl, rfl⟩ rfl ⟨rfl, rfl⟩
def howV (k : Int) : CV :=
  if k = 1 then .fn 77 [] [] else if k = 2 then .fn 78 [] [] else if k = 3 then .fn 79 [] [] else if k = 4 then .fn 80 [] [] else if k = 5 then .fn 81 [] [] else
  if k = 6 then .fn 82 [] [] else if k = 7 then .fn 83 [] [] else if k = 8 then .fn 84 [] [] else if k = 9 then .fn 85 [] [] else if k = 10 then .fn 86 [] [] else
  if k = 11 then .fn 87 [] [] else if k = 12 then .fn 88 [] [] else if k = 13 then .fn 89 [] [] else if k = 14 then .fn 90 [] [] else if k = 15 then .fn 91 [] [] else .nilfn
theorem howV_cases (k : Int) : (∃ f, howV k = .fn f [] []) ∨ howV k = .nilfn := by
  unfold howV
  by_cases h1 : k = 1
  · exact .inl ⟨_, if_pos h1⟩
  rw [if_neg h1]
  by_cases h2 : k = 2
  · exact .inl ⟨_, if_pos h2⟩
  rw [if_neg h2]
  by_cases h3 : k = 3
  · exact .inl ⟨_, if_pos h3⟩
  rw [if_neg h3]
  by_cases h4 : k = 4
  · exact .inl ⟨_, if_pos h4⟩
  rw [if_neg h4]
  by_cases h5 : k = 5
  · exact .inl ⟨_, if_pos h5⟩
  rw [if_neg h5]
  by_cases h6 : k = 6
  · exact .inl ⟨_, if_pos h6⟩
  rw [if_neg h6]
  by_cases h7 : k = 7
  · exact .inl ⟨_, if_pos h7⟩
  rw [if_neg h7]
  by_cases h8 : k = 8
  · exact .inl ⟨_, if_pos h8⟩
  rw [if_neg h8]
  by_cases h9 : k = 9
  · exact .inl ⟨_, if_pos h9⟩
  rw [if_neg h9]
  by_cases h10 : k = 10
  · exact .inl ⟨_, if_pos h10⟩
  rw [if_neg h10]
  by_cases h11 : k = 11
  · exact .inl ⟨_, if_pos h11⟩
  rw [if_neg h11]
  by_cases h12 : k = 12
  · exact .inl ⟨_, if_pos h12⟩
  rw [if_neg h12]
  by_cases h13 : k = 13
  · exact .inl ⟨_, if_pos h13⟩
  rw [if_neg h13]
  by_cases h14 : k = 14
  · exact .inl ⟨_, if_pos h14⟩
  rw [if_neg h14]
  by_cases h15 : k = 15
  · exact .inl ⟨_, if_pos h15⟩
  rw [if_neg h15]
  exact .inr rfl
theorem howV_map (k : Int) : mapV (fun i => i) (.c (howV k)) = .c (howV k) := by
  rcases howV_cases k with ⟨f, h⟩ | h <;> rw [h] <;> rfl
theorem con52 (k : Int) (H : Heap) : Con Try.prog 52 [.c (.int .i64 k)] H (fun v H' => v = .c (howV k) ∧ H' = H) := by
  refine Con.pure ?_ (by simp only [leArgs, leV, leV1, leC, and_self]) (howV_map k) H
  (refine con_of_run mixed (fn := Try.f52) (by kernel_rfl) (by kernel_rfl) C52_ok (rs := [.tmp 2]) (by kernel_rfl) (Nat.le_of_ble_eq_true (by kernel_rfl)) ?_; unfold C52; simp only [initT, Nat.reduceAdd])
  repeat' (first | refine run_seq ?_ | refine run_skip ?_ | (refine run_region fun K hK => ?_; (try (simp (maxSteps := 10000000) only [C52r0, C52r1, C52r2, C52r3, C52r4, C52r5, C52r6, C52r7, C52r8, C52r9, C52r10, C52r11, C52r12, C52r13, C52r14, C52r15, C52r16, C52r17, C52r18, C52r19, C52r20, C52r21, C52r22, C52r23, C52r24, C52r25, C52r26, C52r27, C52r28, C52r29, C52r30, C52r31, C52r32, rwp_nil, rwp_cons, rwpK_app, aop, gpath, St.get, slotAt, sfx, eqP, segsOf, St.put, addBlk, getB, setB, delB, ld1, ldn, st1, stn, setRow, rowNeed, segAt, nsub, bin, un, eqB, isShift, sameK, arith, shiftR, getsl, selB_or, selB_and, beqb, shed, addN, Nat.beq, Seg.size, sizes, imp, needP, andN, appL, argsOf, ptrsOf, aasOf, cut, takeS, dropS, putS, partsOf, fillS, fieldOf, nthA, negIf, nilq, nilB, eqS, eqF, eqS1, andP, kin, slcS, strOk, plusA, bndHi, leN, optG, roH, roL, initT, exOk, exAll, wrAddr, Nat.reduceAdd, Nat.reduceSub, Nat.reduceMul, Int.reduceToNat, List.append_nil, List.nil_append, List.cons_append, mapR, mapR1, keyL, keyOk, keyP, colsPut, colsDel, zcols, eqT, idxT, cat, cpy, ite_int, ite_bool, ite_seg, ite_segs, ite_nil, ite_twice, Int.toNat_natCast, app, addBs, tob])); (repeat (first | (refine And.intro ?_ ?_; · first | trivial | assumption | omega))); with_reducible refine hK _ ?_; clear hK K) | (refine run_cond rfl (fun hc => ?_) (fun hc => ?_) <;> try (simp only [*, Bool.true_eq_false, Bool.false_eq_true, Bool.not_true, Bool.not_false, Bool.true_or, Bool.or_true, Bool.false_or, Bool.or_false, Bool.false_and, Bool.and_false, bne_self_eq_false, beq_self_eq_true] at hc; done)) | refine run_block ?_ | refine run_ret ?_ | refine run_nil ?_ | refine blk_normal ?_ | refine blk_ret ?_ | refine blk_here ?_ | refine blk_there rfl ?_)
  all_goals refine end_tmp1 rfl ?_ rfl ⟨?_, rfl⟩
  all_goals first | exact trivial | exact ⟨rfl, trivial, trivial⟩ | skip
  all_goals simp only [beq_iff_eq, beq_eq_false_iff_ne, ne_eq] at *
  all_goals simp only [howV, *, if_true, if_false]
  all_goals first | rfl | (subst_vars; rfl)
theorem reck {k : Int} {f : FuncId} {g : Int → Int → Int} (hk : howV k = .fn f [] []) (hf : ∀ a b H, Con Try.prog f [.c (.int .u64 a), .c (.int .u64 b)] H (fun v H' => v = .c (.int .u64 (g a b)) ∧ H' = H)) (a b : Int) (H : Heap) :
    Con Try.prog 31 [.c (.int .i64 k), .c (.int .u64 a), .c (.int .u64 b)] H (fun v H' => v = .tup [.c (.int .u64 (g a b)), .c (.int .i64 0)] ∧ H' = H) := by
  refine Con.pure ?_ (by simp only [leArgs, leV, leV1, leC, and_self]) rfl H
  (refine con_of_run mixed (fn := Try.f31) (by kernel_rfl) (by kernel_rfl) C31_ok (rs := [.tmp 6, .tmp 7]) (by kernel_rfl) (Nat.le_of_ble_eq_true (by kernel_rfl)) ?_; unfold C31; simp only [initT, Nat.reduceAdd])
  repeat' (first | refine run_seq ?_ | refine run_skip ?_ | (refine run_region fun K hK => ?_; (try (simp (maxSteps := 10000000) only [C31r0, C31r1, C31r2, C31r3, C31r4, rwp_nil, rwp_cons, rwpK_app, aop, gpath, St.get, slotAt, sfx, eqP, segsOf, St.put, addBlk, getB, setB, delB, ld1, ldn, st1, stn, setRow, rowNeed, segAt, nsub, bin, un, eqB, isShift, sameK, arith, shiftR, getsl, selB_or, selB_and, beqb, shed, addN, Nat.beq, Seg.size, sizes, imp, needP, andN, appL, argsOf, ptrsOf, aasOf, cut, takeS, dropS, putS, partsOf, fillS, fieldOf, nthA, negIf, nilq, nilB, eqS, eqF, eqS1, andP, kin, slcS, strOk, plusA, bndHi, leN, optG, roH, roL, initT, exOk, exAll, wrAddr, Nat.reduceAdd, Nat.reduceSub, Nat.reduceMul, Int.reduceToNat, List.append_nil, List.nil_append, List.cons_append, mapR, mapR1, keyL, keyOk, keyP, colsPut, colsDel, zcols, eqT, idxT, cat, cpy, ite_int, ite_bool, ite_seg, ite_segs, ite_nil, ite_twice, Int.toNat_natCast, app, addBs, tob])); (repeat (first | (refine And.intro ?_ ?_; · first | trivial | assumption | omega))); with_reducible refine hK _ ?_; clear hK K) | (refine run_cond rfl (fun hc => ?_) (fun hc => ?_) <;> try (simp only [*, Bool.true_eq_false, Bool.false_eq_true, Bool.not_true, Bool.not_false, Bool.true_or, Bool.or_true, Bool.false_or, Bool.or_false, Bool.false_and, Bool.and_false, bne_self_eq_false, beq_self_eq_true] at hc; done)) | refine run_ret ?_ | refine run_nil ?_)
  refine run_region fun K hK => ?_
  simp (maxSteps := 10000000) only [C31r0, C31r1, C31r2, C31r3, C31r4, rwp_nil, rwp_cons, rwpK_app, aop, gpath, St.get, slotAt, sfx, eqP, segsOf, St.put, addBlk, getB, setB, delB, ld1, ldn, st1, stn, setRow, rowNeed, segAt, nsub, bin, un, eqB, isShift, sameK, arith, shiftR, getsl, selB_or, selB_and, beqb, shed, addN, Nat.beq, Seg.size, sizes, imp, needP, andN, appL, argsOf, ptrsOf, aasOf, cut, takeS, dropS, putS, partsOf, fillS, fieldOf, nthA, negIf, nilq, nilB, eqS, eqF, eqS1, andP, kin, slcS, strOk, plusA, bndHi, leN, optG, roH, roL, initT, exOk, exAll, wrAddr, Nat.reduceAdd, Nat.reduceSub, Nat.reduceMul, Int.reduceToNat, List.append_nil, List.nil_append, List.cons_append, mapR, mapR1, keyL, keyOk, keyP, colsPut, colsDel, zcols, eqT, idxT, cat, cpy, ite_int, ite_bool, ite_seg, ite_segs, ite_nil, ite_twice, Int.toNat_natCast, app, addBs, tob]
  refine call_t _ (con52 k _) ?_
  rintro v H' ⟨rfl, rfl⟩
  rw [hk]
  simp (maxSteps := 10000000) only [C31r0, C31r1, C31r2, C31r3, C31r4, rwp_nil, rwp_cons, rwpK_app, aop, gpath, St.get, slotAt, sfx, eqP, segsOf, St.put, addBlk, getB, setB, delB, ld1, ldn, st1, stn, setRow, rowNeed, segAt, nsub, bin, un, eqB, isShift, sameK, arith, shiftR, getsl, selB_or, selB_and, beqb, shed, addN, Nat.beq, Seg.size, sizes, imp, needP, andN, appL, argsOf, ptrsOf, aasOf, cut, takeS, dropS, putS, partsOf, fillS, fieldOf, nthA, negIf, nilq, nilB, eqS, eqF, eqS1, andP, kin, slcS, strOk, plusA, bndHi, leN, optG, roH, roL, initT, exOk, exAll, wrAddr, Nat.reduceAdd, Nat.reduceSub, Nat.reduceMul, Int.reduceToNat, List.append_nil, List.nil_append, List.cons_append, mapR, mapR1, keyL, keyOk, keyP, colsPut, colsDel, zcols, eqT, idxT, cat, cpy, ite_int, ite_bool, ite_seg, ite_segs, ite_nil, ite_twice, Int.toNat_natCast, app, addBs, tob]
  refine hK _ ?_
  clear hK K
  repeat' (first | refine run_seq ?_ | refine run_skip ?_ | (refine run_region fun K hK => ?_; (try (simp (maxSteps := 10000000) only [C31r0, C31r1, C31r2, C31r3, C31r4, rwp_nil, rwp_cons, rwpK_app, aop, gpath, St.get, slotAt, sfx, eqP, segsOf, St.put, addBlk, getB, setB, delB, ld1, ldn, st1, stn, setRow, rowNeed, segAt, nsub, bin, un, eqB, isShift, sameK, arith, shiftR, getsl, selB_or, selB_and, beqb, shed, addN, Nat.beq, Seg.size, sizes, imp, needP, andN, appL, argsOf, ptrsOf, aasOf, cut, takeS, dropS, putS, partsOf, fillS, fieldOf, nthA, negIf, nilq, nilB, eqS, eqF, eqS1, andP, kin, slcS, strOk, plusA, bndHi, leN, optG, roH, roL, initT, exOk, exAll, wrAddr, Nat.reduceAdd, Nat.reduceSub, Nat.reduceMul, Int.reduceToNat, List.append_nil, List.nil_append, List.cons_append, mapR, mapR1, keyL, keyOk, keyP, colsPut, colsDel, zcols, eqT, idxT, cat, cpy, ite_int, ite_bool, ite_seg, ite_segs, ite_nil, ite_twice, Int.toNat_natCast, app, addBs, tob])); (repeat (first | (refine And.intro ?_ ?_; · first | trivial | assumption | omega))); with_reducible refine hK _ ?_; clear hK K) | (refine run_cond rfl (fun hc => ?_) (fun hc => ?_) <;> try (simp only [*, Bool.true_eq_false, Bool.false_eq_true, Bool.not_true, Bool.not_false, Bool.true_or, Bool.or_true, Bool.false_or, Bool.or_false, Bool.false_and, Bool.and_false, bne_self_eq_false, beq_self_eq_true] at hc; done)) | refine run_ret ?_ | refine run_nil ?_)
  refine run_region fun K hK => ?_
  simp (maxSteps := 10000000) only [C31r0, C31r1, C31r2, C31r3, C31r4, rwp_nil, rwp_cons, rwpK_app, aop, gpath, St.get, slotAt, sfx, eqP, segsOf, St.put, addBlk, getB, setB, delB, ld1, ldn, st1, stn, setRow, rowNeed, segAt, nsub, bin, un, eqB, isShift, sameK, arith, shiftR, getsl, selB_or, selB_and, beqb, shed, addN, Nat.beq, Seg.size, sizes, imp, needP, andN, appL, argsOf, ptrsOf, aasOf, cut, takeS, dropS, putS, partsOf, fillS, fieldOf, nthA, negIf, nilq, nilB, eqS, eqF, eqS1, andP, kin, slcS, strOk, plusA, bndHi, leN, optG, roH, roL, initT, exOk, exAll, wrAddr, Nat.reduceAdd, Nat.reduceSub, Nat.reduceMul, Int.reduceToNat, List.append_nil, List.nil_append, List.cons_append, mapR, mapR1, keyL, keyOk, keyP, colsPut, colsDel, zcols, eqT, idxT, cat, cpy, ite_int, ite_bool, ite_seg, ite_segs, ite_nil, ite_twice, Int.toNat_natCast, app, addBs, tob]
  refine call_t _ (hf _ _ _) ?_
  rintro v H' ⟨rfl, rfl⟩
  simp (maxSteps := 10000000) only [C31r0, C31r1, C31r2, C31r3, C31r4, rwp_nil, rwp_cons, rwpK_app, aop, gpath, St.get, slotAt, sfx, eqP, segsOf, St.put, addBlk, getB, setB, delB, ld1, ldn, st1, stn, setRow, rowNeed, segAt, nsub, bin, un, eqB, isShift, sameK, arith, shiftR, getsl, selB_or, selB_and, beqb, shed, addN, Nat.beq, Seg.size, sizes, imp, needP, andN, appL, argsOf, ptrsOf, aasOf, cut, takeS, dropS, putS, partsOf, fillS, fieldOf, nthA, negIf, nilq, nilB, eqS, eqF, eqS1, andP, kin, slcS, strOk, plusA, bndHi, leN, optG, roH, roL, initT, exOk, exAll, wrAddr, Nat.reduceAdd, Nat.reduceSub, Nat.reduceMul, Int.reduceToNat, List.append_nil, List.nil_append, List.cons_append, mapR, mapR1, keyL, keyOk, keyP, colsPut, colsDel, zcols, eqT, idxT, cat, cpy, ite_int, ite_bool, ite_seg, ite_segs, ite_nil, ite_twice, Int.toNat_natCast, app, addBs, tob]
  refine hK _ ?_
  clear hK K
  repeat' (first | refine run_seq ?_ | refine run_skip ?_ | (refine run_region fun K hK => ?_; (try (simp (maxSteps := 10000000) only [C31r0, C31r1, C31r2, C31r3, C31r4, rwp_nil, rwp_cons, rwpK_app, aop, gpath, St.get, slotAt, sfx, eqP, segsOf, St.put, addBlk, getB, setB, delB, ld1, ldn, st1, stn, setRow, rowNeed, segAt, nsub, bin, un, eqB, isShift, sameK, arith, shiftR, getsl, selB_or, selB_and, beqb, shed, addN, Nat.beq, Seg.size, sizes, imp, needP, andN, appL, argsOf, ptrsOf, aasOf, cut, takeS, dropS, putS, partsOf, fillS, fieldOf, nthA, negIf, nilq, nilB, eqS, eqF, eqS1, andP, kin, slcS, strOk, plusA, bndHi, leN, optG, roH, roL, initT, exOk, exAll, wrAddr, Nat.reduceAdd, Nat.reduceSub, Nat.reduceMul, Int.reduceToNat, List.append_nil, List.nil_append, List.cons_append, mapR, mapR1, keyL, keyOk, keyP, colsPut, colsDel, zcols, eqT, idxT, cat, cpy, ite_int, ite_bool, ite_seg, ite_segs, ite_nil, ite_twice, Int.toNat_natCast, app, addBs, tob])); (repeat (first | (refine And.intro ?_ ?_; · first | trivial | assumption | omega))); with_reducible refine hK _ ?_; clear hK K) | (refine run_cond rfl (fun hc => ?_) (fun hc => ?_) <;> try (simp only [*, Bool.true_eq_false, Bool.false_eq_true, Bool.not_true, Bool.not_false, Bool.true_or, Bool.or_true, Bool.false_or, Bool.or_false, Bool.false_and, Bool.and_false, bne_self_eq_false, beq_self_eq_true] at hc; done)) | refine run_ret ?_ | refine run_nil ?_)
  exact end_tmp2 rfl rfl rfl ⟨rfl, rfl⟩ ⟨rfl, rfl⟩ rfl rfl ⟨rfl, rfl⟩
theorem reck0 {k : Int} (hk : howV k = .nilfn) (a b : Int) (H : Heap) :
    Con Try.prog 31 [.c (.int .i64 k), .c (.int .u64 a), .c (.int .u64 b)] H (fun v H' => v = .tup [.c (.int .u64 0), .c (.int .i64 1)] ∧ H' = H) := by
  refine Con.pure ?_ (by simp only [leArgs, leV, leV1, leC, and_self]) rfl H
  (refine con_of_run mixed (fn := Try.f31) (by kernel_rfl) (by kernel_rfl) C31_ok (rs := [.tmp 6, .tmp 7]) (by kernel_rfl) (Nat.le_of_ble_eq_true (by kernel_rfl)) ?_; unfold C31; simp only [initT, Nat.reduceAdd])
  repeat' (first | refine run_seq ?_ | refine run_skip ?_ | (refine run_region fun K hK => ?_; (try (simp (maxSteps := 10000000) only [C31r0, C31r1, C31r2, C31r3, C31r4, rwp_nil, rwp_cons, rwpK_app, aop, gpath, St.get, slotAt, sfx, eqP, segsOf, St.put, addBlk, getB, setB, delB, ld1, ldn, st1, stn, setRow, rowNeed, segAt, nsub, bin, un, eqB, isShift, sameK, arith, shiftR, getsl, selB_or, selB_and, beqb, shed, addN, Nat.beq, Seg.size, sizes, imp, needP, andN, appL, argsOf, ptrsOf, aasOf, cut, takeS, dropS, putS, partsOf, fillS, fieldOf, nthA, negIf, nilq, nilB, eqS, eqF, eqS1, andP, kin, slcS, strOk, plusA, bndHi, leN, optG, roH, roL, initT, exOk, exAll, wrAddr, Nat.reduceAdd, Nat.reduceSub, Nat.reduceMul, Int.reduceToNat, List.append_nil, List.nil_append, List.cons_append, mapR, mapR1, keyL, keyOk, keyP, colsPut, colsDel, zcols, eqT, idxT, cat, cpy, ite_int, ite_bool, ite_seg, ite_segs, ite_nil, ite_twice, Int.toNat_natCast, app, addBs, tob])); (repeat (first | (refine And.intro ?_ ?_; · first | trivial | assumption | omega))); with_reducible refine hK _ ?_; clear hK K) | (refine run_cond rfl (fun hc => ?_) (fun hc => ?_) <;> try (simp only [*, Bool.true_eq_false, Bool.false_eq_true, Bool.not_true, Bool.not_false, Bool.true_or, Bool.or_true, Bool.false_or, Bool.or_false, Bool.false_and, Bool.and_false, bne_self_eq_false, beq_self_eq_true] at hc; done)) | refine run_ret ?_ | refine run_nil ?_)
  refine run_region fun K hK => ?_
  simp (maxSteps := 10000000) only [C31r0, C31r1, C31r2, C31r3, C31r4, rwp_nil, rwp_cons, rwpK_app, aop, gpath, St.get, slotAt, sfx, eqP, segsOf, St.put, addBlk, getB, setB, delB, ld1, ldn, st1, stn, setRow, rowNeed, segAt, nsub, bin, un, eqB, isShift, sameK, arith, shiftR, getsl, selB_or, selB_and, beqb, shed, addN, Nat.beq, Seg.size, sizes, imp, needP, andN, appL, argsOf, ptrsOf, aasOf, cut, takeS, dropS, putS, partsOf, fillS, fieldOf, nthA, negIf, nilq, nilB, eqS, eqF, eqS1, andP, kin, slcS, strOk, plusA, bndHi, leN, optG, roH, roL, initT, exOk, exAll, wrAddr, Nat.reduceAdd, Nat.reduceSub, Nat.reduceMul, Int.reduceToNat, List.append_nil, List.nil_append, List.cons_append, mapR, mapR1, keyL, keyOk, keyP, colsPut, colsDel, zcols, eqT, idxT, cat, cpy, ite_int, ite_bool, ite_seg, ite_segs, ite_nil, ite_twice, Int.toNat_natCast, app, addBs, tob]
  refine call_t _ (con52 k _) ?_
  rintro v H' ⟨rfl, rfl⟩
  rw [hk]
  simp (maxSteps := 10000000) only [C31r0, C31r1, C31r2, C31r3, C31r4, rwp_nil, rwp_cons, rwpK_app, aop, gpath, St.get, slotAt, sfx, eqP, segsOf, St.put, addBlk, getB, setB, delB, ld1, ldn, st1, stn, setRow, rowNeed, segAt, nsub, bin, un, eqB, isShift, sameK, arith, shiftR, getsl, selB_or, selB_and, beqb, shed, addN, Nat.beq, Seg.size, sizes, imp, needP, andN, appL, argsOf, ptrsOf, aasOf, cut, takeS, dropS, putS, partsOf, fillS, fieldOf, nthA, negIf, nilq, nilB, eqS, eqF, eqS1, andP, kin, slcS, strOk, plusA, bndHi, leN, optG, roH, roL, initT, exOk, exAll, wrAddr, Nat.reduceAdd, Nat.reduceSub, Nat.reduceMul, Int.reduceToNat, List.append_nil, List.nil_append, List.cons_append, mapR, mapR1, keyL, keyOk, keyP, colsPut, colsDel, zcols, eqT, idxT, cat, cpy, ite_int, ite_bool, ite_seg, ite_segs, ite_nil, ite_twice, Int.toNat_natCast, app, addBs, tob]
  refine hK _ ?_
  clear hK K
  repeat' (first | refine run_seq ?_ | refine run_skip ?_ | (refine run_region fun K hK => ?_; (try (simp (maxSteps := 10000000) only [C31r0, C31r1, C31r2, C31r3, C31r4, rwp_nil, rwp_cons, rwpK_app, aop, gpath, St.get, slotAt, sfx, eqP, segsOf, St.put, addBlk, getB, setB, delB, ld1, ldn, st1, stn, setRow, rowNeed, segAt, nsub, bin, un, eqB, isShift, sameK, arith, shiftR, getsl, selB_or, selB_and, beqb, shed, addN, Nat.beq, Seg.size, sizes, imp, needP, andN, appL, argsOf, ptrsOf, aasOf, cut, takeS, dropS, putS, partsOf, fillS, fieldOf, nthA, negIf, nilq, nilB, eqS, eqF, eqS1, andP, kin, slcS, strOk, plusA, bndHi, leN, optG, roH, roL, initT, exOk, exAll, wrAddr, Nat.reduceAdd, Nat.reduceSub, Nat.reduceMul, Int.reduceToNat, List.append_nil, List.nil_append, List.cons_append, mapR, mapR1, keyL, keyOk, keyP, colsPut, colsDel, zcols, eqT, idxT, cat, cpy, ite_int, ite_bool, ite_seg, ite_segs, ite_nil, ite_twice, Int.toNat_natCast, app, addBs, tob])); (repeat (first | (refine And.intro ?_ ?_; · first | trivial | assumption | omega))); with_reducible refine hK _ ?_; clear hK K) | (refine run_cond rfl (fun hc => ?_) (fun hc => ?_) <;> try (simp only [*, Bool.true_eq_false, Bool.false_eq_true, Bool.not_true, Bool.not_false, Bool.true_or, Bool.or_true, Bool.false_or, Bool.or_false, Bool.false_and, Bool.and_false, bne_self_eq_false, beq_self_eq_true] at hc; done)) | refine run_ret ?_ | refine run_nil ?_)
  exact end_tmp2 rfl rfl rfl ⟨rfl, rfl⟩ ⟨rfl, rfl⟩ rfl rfl ⟨rfl, rfl⟩
def reckS (k a b : Int) : Int × Int :=
  if k = 1 then (f52 a b, 0) else if k = 2 then (f53 a b, 0) else if k = 3 then (f54 a b, 0) else if k = 4 then (f55 a b, 0) else if k = 5 then (f56 a b, 0) else if k = 6 then (f57 a b, 0) else if k = 7 then (f58 a b, 0) else if k = 8 then (f59 a b, 0) else if k = 9 then (f60 a b, 0) else if k = 10 then (f61 a b, 0) else if k = 11 then (f62 a b, 0) else if k = 12 then (f63 a b, 0) else if k = 13 then (f64 a b, 0) else if k = 14 then (f65 a b, 0) else if k = 15 then (f66 a b, 0) else (0, 1)
theorem con31 (k a b : Int) (H : Heap) : Con Try.prog 31 [.c (.int .i64 k), .c (.int .u64 a), .c (.int .u64 b)] H (fun v H' => v = .tup [.c (.int .u64 (reckS k a b).1), .c (.int .i64 (reckS k a b).2)] ∧ H' = H) := by
  by_cases h1 : k = 1
  · subst h1; exact reck (f := 77) (g := f52) (by simp [howV]) (fun a b H => con77 a b H) a b H
  by_cases h2 : k = 2
  · subst h2; exact reck (f := 78) (g := f53) (by simp [howV]) (fun a b H => con78 a b H) a b H
  by_cases h3 : k = 3
  · subst h3; exact reck (f := 79) (g := f54) (by simp [howV]) (fun a b H => con79 a b H) a b H
  by_cases h4 : k = 4
  · subst h4; exact reck (f := 80) (g := f55) (by simp [howV]) (fun a b H => con80 a b H) a b H
  by_cases h5 : k = 5
  · subst h5; exact reck (f := 81) (g := f56) (by simp [howV]) (fun a b H => con81 a b H) a b H
  by_cases h6 : k = 6
  · subst h6; exact reck (f := 82) (g := f57) (by simp [howV]) (fun a b H => con82 a b H) a b H
  by_cases h7 : k = 7
  · subst h7; exact reck (f := 83) (g := f58) (by simp [howV]) (fun a b H => con83 a b H) a b H
  by_cases h8 : k = 8
  · subst h8; exact reck (f := 84) (g := f59) (by simp [howV]) (fun a b H => con84 a b H) a b H
  by_cases h9 : k = 9
  · subst h9; exact reck (f := 85) (g := f60) (by simp [howV]) (fun a b H => con85 a b H) a b H
  by_cases h10 : k = 10
  · subst h10; exact reck (f := 86) (g := f61) (by simp [howV]) (fun a b H => con86 a b H) a b H
  by_cases h11 : k = 11
  · subst h11; exact reck (f := 87) (g := f62) (by simp [howV]) (fun a b H => con87 a b H) a b H
  by_cases h12 : k = 12
  · subst h12; exact reck (f := 88) (g := f63) (by simp [howV]) (fun a b H => con88 a b H) a b H
  by_cases h13 : k = 13
  · subst h13; exact reck (f := 89) (g := f64) (by simp [howV]) (fun a b H => con89 a b H) a b H
  by_cases h14 : k = 14
  · subst h14; exact reck (f := 90) (g := f65) (by simp [howV]) (fun a b H => con90 a b H) a b H
  by_cases h15 : k = 15
  · subst h15; exact reck (f := 91) (g := f66) (by simp [howV]) (fun a b H => con91 a b H) a b H
  have e : reckS k a b = (0, 1) := by simp only [reckS, if_neg h1, if_neg h2, if_neg h3, if_neg h4, if_neg h5, if_neg h6, if_neg h7, if_neg h8, if_neg h9, if_neg h10, if_neg h11, if_neg h12, if_neg h13, if_neg h14, if_neg h15]
  rw [e]
  exact reck0 (by simp only [howV, if_neg h1, if_neg h2, if_neg h3, if_neg h4, if_neg h5, if_neg h6, if_neg h7, if_neg h8, if_neg h9, if_neg h10, if_neg h11, if_neg h12, if_neg h13, if_neg h14, if_neg h15]) a b H
end Go.Proofs.Ytmbnakinhnkabaa

namespace Go.Proofs.Ytmbnakinhnkabaa
open Go.AM
set_option maxRecDepth 100000
set_option linter.unusedSimpArgs false
set_option linter.unusedVariables false
structure CoreS where
  x : Nat → Int
  sp : Nat → Int
  pc : Int
  n : Bool
  z : Bool
  c : Bool
  v : Bool
  el : Int
  mask : Bool
  q0 : Int
  q1 : Int
  q2 : Int
  q3 : Int
  q4 : Int
  q5 : Int
  id : Int
  wait : Int
  last : Bool
def coreL (c : CoreS) : List Seg := [.a 31 (fun i => .int .u64 (c.x i)), .a 2 (fun i => .int .u64 (c.sp i)), .c (.int .u64 c.pc), .c (.bool c.n), .c (.bool c.z), .c (.bool c.c), .c (.bool c.v), .c (.int .i64 c.el), .c (.bool c.mask), .c (.int .u64 c.q0), .c (.int .u64 c.q1), .c (.int .u64 c.q2), .c (.int .u64 c.q3), .c (.int .u64 c.q4), .c (.int .u64 c.q5), .c (.int .i64 c.id), .c (.int .i64 c.wait), .c (.bool c.last)]
structure WantS where
  kind : Int
  addr : Int
  value : Int
  acq : Int
  rel : Bool
  w5 : Int
  w6 : Bool
  w7 : Int
  w8 : Int
  w9 : Int
structure RS where
  b : BlkS
  core : CoreS
  vs : Nat → Int
  pos : Nat
  waits : Bool
  want : WantS
  left : Bool
  faulted : Bool
  word : Int
  guest : Bool
def me : AV := .c (.ptr ⟨0, 0, 0, 0⟩)
structure Ids3 (l : List Nat) : Prop where
  i0 : nthO l 0 = some 0
  i1 : nthO l 1 = some 1
  i2 : nthO l 2 = some 2
end Go.Proofs.Ytmbnakinhnkabaa

set_option linter.unusedVariables false
namespace Go.Proofs.Ytmbnakinhnkabaa
open Go.AM
end Go.Proofs.Ytmbnakinhnkabaa

namespace Go.Proofs.Ytmbnakinhnkabaa
open Go.AM
set_option maxRecDepth 100000
set_option linter.unusedSimpArgs false
set_option linter.unusedVariables false
def placeK (o : OpS) : Int := if o.kind = 2 ∨ o.kind = 3 then 0 else if o.kind = 4 ∨ o.kind = 5 then 1 else if o.kind = 6 ∨ o.kind = 7 then 2 else 0
def placeR (o : OpS) : Int := if o.kind = 2 ∨ o.kind = 3 then o.r else if o.kind = 4 ∨ o.kind = 5 then 0 else if o.kind = 6 ∨ o.kind = 7 then o.r else 0
def placeSet (o : OpS) : Bool := o.kind == 3 || o.kind == 5 || o.kind == 7
def placeOk (o : OpS) : Bool := o.kind == 2 || o.kind == 3 || o.kind == 4 || o.kind == 5 || o.kind == 6 || o.kind == 7
def placeL (k r : Int) : List Seg := [.c (.int .i64 k), .c (.int .i64 r)]
def plB (k r : Int) : Blk := ⟨2, none, fun _ => placeL k r, 111, true⟩
theorem pl_le {l : List Nat} (k r : Int) : leB l (plB k r) (plB k r) := ⟨rfl, rfl, id, Nat.le_refl _, fun _ _ => by simp only [plB, placeL, leSegs, leSeg, leC, and_self]⟩
theorem end_pl {l : List Slot} {H : Heap} (o : OpS) (k r : Int) (set ok : Bool) (s2 : slotAt l 2 = some ⟨2, [], .c (.ptr ⟨1, 0, 0, 0⟩)⟩) (s3 : slotAt l 3 = some ⟨3, [], .c (.bool set)⟩) (s4 : slotAt l 4 = some ⟨4, [], .c (.bool ok)⟩) (g : getB H.blks 1 = some (plB k r))
    (h1 : k = placeK o) (h2 : r = placeR o) (h3 : set = placeSet o) (h4 : ok = placeOk o) : endQ (LeS 0) [.cn 2 2, .tmp 3, .tmp 4] (fun v H' => v = .tup [.agg (placeL (placeK o) (placeR o)), .c (.bool (placeSet o)), .c (.bool (placeOk o))] ∧ H' = ⟨1, [(0, plB (placeK o) (placeR o))]⟩) .ret ⟨l, H⟩ := by
  subst h1 h2 h3 h4
  refine end_of ⟨[⟨2, [], .c (.ptr ⟨0, 0, 0, 0⟩)⟩, ⟨3, [], .c (.bool (placeSet o))⟩, ⟨4, [], .c (.bool (placeOk o))⟩], ⟨1, [(0, plB (placeK o) (placeR o))]⟩⟩ (LeS.intro [1] (fun i h => absurd h (Nat.not_lt_zero i)) (by simp only [diff, notIn, Nat.beq, and_self]) rfl (by simp only [slotsLe, s2, s3, s4, leV, leV1, leC, leA, nthO, and_self]) ?_) ?_
  · simp only [leBlks, nthO, g]
    exact ⟨pl_le _ _, trivial⟩
  · simp only [endF, resL, resA, St.get, slotAt, Nat.beq, sfx, eqP, ldn, getB, plB, placeL, rowNeed, cut, dropS, takeS, Seg.size, nsub, noTup, resV]
    exact ⟨by first | rfl | trivial, by first | rfl | trivial⟩
theorem con73 (o : OpS) (H : Heap) : Con Try.prog 73 [.agg (opL o)] H (fun v H' => v = .tup [.agg (placeL (placeK o) (placeR o)), .c (.bool (placeSet o)), .c (.bool (placeOk o))] ∧ H' = H) := by
  have h0 : Con Try.prog 73 [.agg (opL o)] ⟨0, []⟩ (fun v H' => v = .tup [.agg (placeL (placeK o) (placeR o)), .c (.bool (placeSet o)), .c (.bool (placeOk o))] ∧ H' = ⟨1, [(0, plB (placeK o) (placeR o))]⟩) := by
    (refine con_of_run mixed (fn := Try.f73) (by kernel_rfl) (by kernel_rfl) C73_ok (rs := [.cn 2 2, .tmp 3, .tmp 4]) (by kernel_rfl) (Nat.le_of_ble_eq_true (by kernel_rfl)) ?_; unfold C73; simp only [initT, Nat.reduceAdd])
    repeat' (first | refine run_seq ?_ | refine run_skip ?_ | (refine run_region fun K hK => ?_; (try (simp (maxSteps := 10000000) only [opL, partsOf, fillS, C73r0, C73r1, C73r2, C73r3, C73r4, C73r5, C73r6, C73r7, C73r8, C73r9, C73r10, C73r11, rwp_nil, rwp_cons, rwpK_app, aop, gpath, St.get, slotAt, sfx, eqP, segsOf, St.put, addBlk, getB, setB, delB, ld1, ldn, st1, stn, setRow, rowNeed, segAt, nsub, bin, un, eqB, isShift, sameK, arith, shiftR, getsl, selB_or, selB_and, beqb, shed, addN, Nat.beq, Seg.size, sizes, imp, needP, andN, appL, argsOf, ptrsOf, aasOf, cut, takeS, dropS, putS, partsOf, fillS, fieldOf, nthA, negIf, nilq, nilB, eqS, eqF, eqS1, andP, kin, slcS, strOk, plusA, bndHi, leN, optG, roH, roL, initT, exOk, exAll, wrAddr, Nat.reduceAdd, Nat.reduceSub, Nat.reduceMul, Int.reduceToNat, List.append_nil, List.nil_append, List.cons_append, mapR, mapR1, keyL, keyOk, keyP, colsPut, colsDel, zcols, eqT, idxT, cat, cpy, ite_int, ite_bool, ite_seg, ite_segs, ite_nil, ite_twice, Int.toNat_natCast, app, addBs, tob])); (repeat (first | (refine And.intro ?_ ?_; · (first | trivial | assumption | omega | exact ⟨by omega, by omega, by omega⟩ | exact ⟨trivial, by omega, by omega⟩ | (intros; first | trivial | assumption | omega))))); with_reducible refine hK _ ?_; clear hK K) | (refine run_cond rfl (fun hc => ?_) (fun hc => ?_) <;> try (simp only [*, Bool.true_eq_false, Bool.false_eq_true, Bool.not_true, Bool.not_false, Bool.true_or, Bool.or_true, Bool.false_or, Bool.or_false, Bool.false_and, Bool.and_false, bne_self_eq_false, beq_self_eq_true] at hc; done)) | refine run_block ?_ | refine run_ret ?_ | refine run_nil ?_ | refine blk_normal ?_ | refine blk_ret ?_ | refine blk_here ?_ | refine blk_there rfl ?_)
    all_goals
      simp only [beq_iff_eq, beq_eq_false_iff_ne, ne_eq] at *
      refine end_pl o _ _ _ _ rfl rfl rfl rfl ?_ ?_ ?_ ?_
      all_goals (try simp only [placeK, placeR, placeSet, placeOk, *])
      all_goals first | rfl | (simp; done) | simp [*]
  refine Con.pure (Con.forget h0 ?_) (by simp only [opL, leArgs, leV, leV1, leSegs, leSeg, leC, and_self]) rfl H
  rintro v H' ⟨rfl, rfl⟩
  exact ⟨_, ⟨0, []⟩, [], fun i h => absurd h (Nat.not_lt_zero i), trivial, rfl, trivial, by simp only [placeL, leV, leV1, leVL, leSegs, leSeg, leC, and_self], rfl, rfl⟩
structure PS where
  b : BlkS
  m : Nat
  f : Nat → OpS
  na : Nat
  a : Nat → Int
  kn : Nat
  kk : Nat → Int
  kr : Nat → Int
  kv : Nat → Int
def passL (F M O A : Nat) (s : PS) : List Seg := [.c (.slice ⟨F, 0, 0, 0⟩ false s.b.n), .c (.slice ⟨O, 0, 0, 0⟩ false s.m), .c (.slice ⟨A, 0, 0, 0⟩ false s.na), .c (.map M)]
def passB (F M O A : Nat) (s : PS) (w : Bool) : Blk := ⟨4, none, fun _ => passL F M O A s, 85, w⟩
def knB (s : PS) : Blk := ⟨0, some 0, fun _ => [.a s.kn (fun i => .int .i64 (s.kv i)), .a s.kn (fun i => .int .i64 (s.kk i)), .a s.kn (fun i => .int .i64 (s.kr i))], 0, true⟩
theorem pass_le {l : List Nat} (s : PS) (F M O A F' M' O' A' : Nat) (w w' : Bool) (hw : w' = true → w = true) (h1 : nthO l F' = some F) (h2 : nthO l M' = some M) (h3 : nthO l O' = some O) (h4 : nthO l A' = some A) : leB l (passB F M O A s w) (passB F' M' O' A' s w') := ⟨rfl, rfl, hw, Nat.le_refl _, fun _ _ => by simp only [passB, passL, leSegs, leSeg, leC, leA, h1, h2, h3, h4, and_self]⟩
theorem kn_le {l : List Nat} (s : PS) : leB l (knB s) (knB s) := ⟨rfl, rfl, id, rfl, fun _ _ => by simp only [knB, leSegs, leSeg, leC, and_self, implies_true]⟩
def passR (s : PS) : Heap := ⟨5, [(0, passB 1 2 3 4 s false), (3, opsB s.m s.f)]⟩
theorem ids5 {l : List Nat} : idTo (0 :: 1 :: 2 :: 3 :: 4 :: l) 5 := by
  intro i h
  match i, h with
  | 0, _ => rfl
  | 1, _ => rfl
  | 2, _ => rfl
  | 3, _ => rfl
  | 4, _ => rfl
theorem passR_le {l : List Slot} {H : Heap} {s : PS} {w : Bool} (h0 : getB H.blks 0 = some (passB 1 2 3 4 s w)) (h3 : getB H.blks 3 = some (opsB s.m s.f)) {r : List Slot} (hr : slotsLe [0, 1, 2, 3, 4] l r) : LeS 5 ⟨l, H⟩ ⟨r, passR s⟩ := by
  refine LeS.intro [0, 1, 2, 3, 4] ids5 (by simp only [diff, notIn, Nat.beq, and_self]) rfl hr ?_
  simp only [passR, leBlks, nthO, h0, h3]
  exact ⟨pass_le s _ _ _ _ _ _ _ _ _ _ (fun h => by cases h) rfl rfl rfl rfl, ops_le s.m s.f false, trivial⟩
theorem passR_at {f : FuncId} {rest : List AV} {s : PS} {V0 : AV} (h : Con Try.prog f (me :: rest) (passR s) (fun v H' => v = V0 ∧ H' = passR s)) (hrest : ∀ l, leArgs l rest rest) (hV0 : ∀ g, mapV g V0 = V0) (R F M O A m : Nat) (X : List (Nat × Blk)) (w w' : Bool) (hd : diff [R, F, M, O, A])
    (hR : getB X R = some (passB F M O A s w)) (hO : getB X O = some ⟨6, some s.m, fun i => opL (s.f i), 39, w'⟩) (hl : allLt [R, F, M, O, A] m) (hkl : keysLt X m) :
    Con Try.prog f (.c (.ptr ⟨R, 0, 0, 0⟩) :: rest) ⟨m, X⟩ (fun v H' => v = V0 ∧ H' = ⟨m, X⟩) := by
  refine ro_gen h [R, F, M, O, A] m X rfl hd hl hkl ?_ ⟨⟨rfl, rfl, rfl, rfl⟩, hrest _⟩ (hV0 _) (fun _ => rfl) rfl rfl
  simp only [passR, leBlks, nthO, hR, hO]
  exact ⟨pass_le s _ _ _ _ _ _ _ _ _ _ (fun h => by cases h) rfl rfl rfl rfl, ops_le s.m s.f w', trivial⟩
theorem con76 (s : PS) (v : Nat) (hv : v < s.m) : Con Try.prog 76 [me, .c (.int .i64 v)] (passR s) (fun u H' => u = .tup [.c (.int .u64 (s.f v).imm), .c (.bool ((s.f v).kind == 1))] ∧ H' = passR s) := by
  (refine con_of_run mixed (fn := Try.f76) (by kernel_rfl) (by kernel_rfl) C76_ok (rs := [.tmp 4, .tmp 5]) (by kernel_rfl) (Nat.le_of_ble_eq_true (by kernel_rfl)) ?_; unfold C76; simp only [initT, Nat.reduceAdd])
  simp only [me, passR, passB, passL, opsB]
  repeat' (first | refine run_seq ?_ | (refine run_region fun K hK => ?_; (try (simp (maxSteps := 10000000) only [opL, Int.toNat_natCast, C76r0, C76r1, C76r2, rwp_nil, rwp_cons, rwpK_app, aop, gpath, St.get, slotAt, sfx, eqP, segsOf, St.put, addBlk, getB, setB, delB, ld1, ldn, st1, stn, setRow, rowNeed, segAt, nsub, bin, un, eqB, isShift, sameK, arith, shiftR, getsl, selB_or, selB_and, beqb, shed, addN, Nat.beq, Seg.size, sizes, imp, needP, andN, appL, argsOf, ptrsOf, aasOf, cut, takeS, dropS, putS, partsOf, fillS, fieldOf, nthA, negIf, nilq, nilB, eqS, eqF, eqS1, andP, kin, slcS, strOk, plusA, bndHi, leN, optG, roH, roL, initT, exOk, exAll, wrAddr, Nat.reduceAdd, Nat.reduceSub, Nat.reduceMul, Int.reduceToNat, List.append_nil, List.nil_append, List.cons_append, mapR, mapR1, keyL, keyOk, keyP, colsPut, colsDel, zcols, eqT, idxT, cat, cpy, ite_int, ite_bool, ite_seg, ite_segs, ite_nil, ite_twice, Int.toNat_natCast, app, addBs, tob])); (repeat (first | (refine And.intro ?_ ?_; · (first | trivial | assumption | omega | exact ⟨by omega, by omega, by omega⟩ | exact ⟨trivial, by omega, by omega⟩ | (intros; first | trivial | assumption | omega))))); with_reducible refine hK _ ?_; clear hK K) | refine run_ret ?_ | refine run_nil ?_)
  refine end_of ⟨[⟨4, [], .c (.int .u64 (s.f v).imm)⟩, ⟨5, [], .c (.bool ((s.f v).kind == 1))⟩], passR s⟩ (passR_le (w := false) rfl rfl (by simp only [slotsLe, slotAt, Nat.beq, leV, leV1, leC, and_self])) ?_
  simp only [endF, resL, resA, St.get, slotAt, Nat.beq, sfx, eqP, noTup, resV]
  exact ⟨by first | rfl | trivial, by first | rfl | trivial⟩
def truthF (o : OpS) : Bool := if o.kind = 1 then decide (o.imm < 2) else if o.kind = 6 then true else if o.kind = 8 then (o.r == 13 || o.r == 14 || o.r == 15) else false
theorem end_truth {l : List Slot} {H : Heap} (s : PS) (c t : Bool) (hs : slotAt l 4 = some ⟨4, [], .c (.bool c)⟩) (h0 : getB H.blks 0 = some (passB 1 2 3 4 s false)) (h3 : getB H.blks 3 = some (opsB s.m s.f)) (hc : c = t) : endQ (LeS 5) [.tmp 4] (fun u H' => u = .c (.bool t) ∧ H' = passR s) .ret ⟨l, H⟩ := by
  subst hc
  refine end_of ⟨[⟨4, [], .c (.bool c)⟩], passR s⟩ (passR_le h0 h3 (by simp only [slotsLe, hs, leV, leV1, leC, and_self])) ?_
  simp only [endF, resL, resA, St.get, slotAt, Nat.beq, sfx, eqP, noTup, resV]
  exact ⟨by first | rfl | trivial, by first | rfl | trivial⟩
theorem con100 (s : PS) (v : Nat) (hv : v < s.m) : Con Try.prog 100 [me, .c (.int .i64 v)] (passR s) (fun u H' => u = .c (.bool (truthF (s.f v))) ∧ H' = passR s) := by
  (refine con_of_run mixed (fn := Try.f100) (by kernel_rfl) (by kernel_rfl) C100_ok (rs := [.tmp 4]) (by kernel_rfl) (Nat.le_of_ble_eq_true (by kernel_rfl)) ?_; unfold C100; simp only [initT, Nat.reduceAdd])
  simp only [me, passR, passB, passL, opsB]
  repeat' (first | refine run_seq ?_ | refine run_skip ?_ | (refine run_region fun K hK => ?_; (try (simp (maxSteps := 10000000) only [opL, Int.toNat_natCast, C100r0, C100r1, C100r2, C100r3, C100r4, C100r5, C100r6, C100r7, C100r8, C100r9, rwp_nil, rwp_cons, rwpK_app, aop, gpath, St.get, slotAt, sfx, eqP, segsOf, St.put, addBlk, getB, setB, delB, ld1, ldn, st1, stn, setRow, rowNeed, segAt, nsub, bin, un, eqB, isShift, sameK, arith, shiftR, getsl, selB_or, selB_and, beqb, shed, addN, Nat.beq, Seg.size, sizes, imp, needP, andN, appL, argsOf, ptrsOf, aasOf, cut, takeS, dropS, putS, partsOf, fillS, fieldOf, nthA, negIf, nilq, nilB, eqS, eqF, eqS1, andP, kin, slcS, strOk, plusA, bndHi, leN, optG, roH, roL, initT, exOk, exAll, wrAddr, Nat.reduceAdd, Nat.reduceSub, Nat.reduceMul, Int.reduceToNat, List.append_nil, List.nil_append, List.cons_append, mapR, mapR1, keyL, keyOk, keyP, colsPut, colsDel, zcols, eqT, idxT, cat, cpy, ite_int, ite_bool, ite_seg, ite_segs, ite_nil, ite_twice, Int.toNat_natCast, app, addBs, tob])); (repeat (first | (refine And.intro ?_ ?_; · (first | trivial | assumption | omega | exact ⟨by omega, by omega, by omega⟩ | exact ⟨trivial, by omega, by omega⟩ | (intros; first | trivial | assumption | omega))))); with_reducible refine hK _ ?_; clear hK K) | (refine run_cond rfl (fun hc => ?_) (fun hc => ?_) <;> try (simp only [*, Bool.true_eq_false, Bool.false_eq_true, Bool.not_true, Bool.not_false, Bool.true_or, Bool.or_true, Bool.false_or, Bool.or_false, Bool.false_and, Bool.and_false, bne_self_eq_false, beq_self_eq_true] at hc; done)) | refine run_block ?_ | refine run_ret ?_ | refine run_nil ?_ | refine blk_normal ?_ | refine blk_ret ?_ | refine blk_here ?_ | refine blk_there rfl ?_)
  all_goals
    simp only [beq_iff_eq, beq_eq_false_iff_ne, ne_eq] at *
    refine end_truth s _ _ rfl rfl rfl ?_
    simp only [truthF, *]
    first | rfl | simp
def layS (s : PS) (o : OpS) : PS := { s with m := s.m + 1, f := fun i => if i < s.m then s.f i else o }
def passH (s : PS) : Heap := ⟨5, [(0, passB 1 2 3 4 s true), (1, opsB s.b.n s.b.f), (2, knB s), (3, opsW s.m s.f), (4, atB s.na s.a)]⟩
def passH' (s : PS) : Heap := ⟨6, [(0, passB 1 2 5 4 s true), (1, opsB s.b.n s.b.f), (2, knB s), (5, opsW s.m s.f), (4, atB s.na s.a)]⟩
theorem app_le {l : List Nat} (m : Nat) (f : Nat → OpS) (o : OpS) : leB l ⟨6, some (m + 1), rowsApp ⟨6, some m, fun i => opL (f i), 39, true⟩ m ⟨6, some 1, fun _ => opL o, 39, true⟩ 0, 39, true⟩ (opsW (m + 1) (fun i => if i < m then f i else o)) := ⟨rfl, rfl, id, Nat.le_refl _, fun i _ => by
  show leSegs _ (rowsApp _ _ _ _ i) (opL (if i < m then f i else o))
  unfold rowsApp
  split <;> simp only [opL, leSegs, leSeg, leC, and_self]⟩
theorem con75 (s : PS) (o : OpS) (hm : s.m < 1000) : Con Try.prog 75 [me, .agg (opL o)] (passH s) (fun u H' => u = .c (.int .i64 s.m) ∧ H' = passH' (layS s o)) := by
  (refine con_of_run mixed (fn := Try.f75) (by kernel_rfl) (by kernel_rfl) C75_ok (rs := [.tmp 4]) (by kernel_rfl) (Nat.le_of_ble_eq_true (by kernel_rfl)) ?_; unfold C75; simp only [initT, Nat.reduceAdd])
  simp only [me, passH, passB, passL, opsB, opsW, knB, atB]
  repeat' (first | refine run_seq ?_ | (refine run_region fun K hK => ?_; (try (simp (maxSteps := 10000000) only [opL, partsOf, fillS, repl, rowsFit, rowFn, cutD, C75r0, C75r1, C75r2, rwp_nil, rwp_cons, rwpK_app, aop, gpath, St.get, slotAt, sfx, eqP, segsOf, St.put, addBlk, getB, setB, delB, ld1, ldn, st1, stn, setRow, rowNeed, segAt, nsub, bin, un, eqB, isShift, sameK, arith, shiftR, getsl, selB_or, selB_and, beqb, shed, addN, Nat.beq, Seg.size, sizes, imp, needP, andN, appL, argsOf, ptrsOf, aasOf, cut, takeS, dropS, putS, partsOf, fillS, fieldOf, nthA, negIf, nilq, nilB, eqS, eqF, eqS1, andP, kin, slcS, strOk, plusA, bndHi, leN, optG, roH, roL, initT, exOk, exAll, wrAddr, Nat.reduceAdd, Nat.reduceSub, Nat.reduceMul, Int.reduceToNat, List.append_nil, List.nil_append, List.cons_append, mapR, mapR1, keyL, keyOk, keyP, colsPut, colsDel, zcols, eqT, idxT, cat, cpy, ite_int, ite_bool, ite_seg, ite_segs, ite_nil, ite_twice, Int.toNat_natCast, app, addBs, tob])); (repeat (first | (refine And.intro ?_ ?_; · (first | trivial | assumption | omega | exact ⟨by omega, by omega, by omega⟩ | exact ⟨trivial, by omega, by omega⟩ | (intros; first | trivial | assumption | omega))))); with_reducible refine hK _ ?_; clear hK K) | refine run_ret ?_ | refine run_nil ?_)
  have hw : IntKind.i64.wrap (((s.m + 1 : Nat) : Int) - 1) = (s.m : Int) := by rw [IntKind.wrap_i64]; omega
  repeat' (first | refine run_seq ?_ | (refine run_region fun K hK => ?_; (try (simp (maxSteps := 10000000) only [opL, partsOf, fillS, repl, rowsFit, rowFn, cutD, hw, C75r0, C75r1, C75r2, rwp_nil, rwp_cons, rwpK_app, aop, gpath, St.get, slotAt, sfx, eqP, segsOf, St.put, addBlk, getB, setB, delB, ld1, ldn, st1, stn, setRow, rowNeed, segAt, nsub, bin, un, eqB, isShift, sameK, arith, shiftR, getsl, selB_or, selB_and, beqb, shed, addN, Nat.beq, Seg.size, sizes, imp, needP, andN, appL, argsOf, ptrsOf, aasOf, cut, takeS, dropS, putS, partsOf, fillS, fieldOf, nthA, negIf, nilq, nilB, eqS, eqF, eqS1, andP, kin, slcS, strOk, plusA, bndHi, leN, optG, roH, roL, initT, exOk, exAll, wrAddr, Nat.reduceAdd, Nat.reduceSub, Nat.reduceMul, Int.reduceToNat, List.append_nil, List.nil_append, List.cons_append, mapR, mapR1, keyL, keyOk, keyP, colsPut, colsDel, zcols, eqT, idxT, cat, cpy, ite_int, ite_bool, ite_seg, ite_segs, ite_nil, ite_twice, Int.toNat_natCast, app, addBs, tob])); (repeat (first | (refine And.intro ?_ ?_; · (first | trivial | assumption | omega | exact ⟨by omega, by omega, by omega⟩ | exact ⟨trivial, by omega, by omega⟩ | (intros; first | trivial | assumption | omega))))); with_reducible refine hK _ ?_; clear hK K) | refine run_ret ?_ | refine run_nil ?_)
  refine end_of ⟨[⟨4, [], .c (.int .i64 s.m)⟩], passH' (layS s o)⟩ (LeS.intro [0, 1, 2, 3, 4, 7] ids5 (by simp only [diff, notIn, Nat.beq, and_self]) rfl (by simp only [hw, slotsLe, slotAt, Nat.beq, leV, leV1, leC, and_self]) ?_) ?_
  · exact ⟨pass_le (layS s o) 1 2 7 4 1 2 5 4 _ _ id rfl rfl rfl rfl, ops_le s.b.n s.b.f false, kn_le s, app_le s.m s.f o, at_le s.na s.a s.a (fun _ _ => rfl), trivial⟩
  · simp only [endF, resL, resA, St.get, slotAt, Nat.beq, sfx, eqP, noTup, resV]
    exact ⟨by first | rfl | trivial, by first | rfl | trivial⟩
theorem beq_commG (a b : Nat) : Nat.beq a b = Nat.beq b a := by
  cases h : Nat.beq a b with
  | true => rw [Nat.eq_of_beq_eq_true h, Nat.beq_refl]
  | false =>
    cases h' : Nat.beq b a with
    | false => rfl
    | true => rw [Nat.eq_of_beq_eq_true h', Nat.beq_refl] at h; cases h
theorem drop4 (R F M O A : Nat) (s : PS) : ∀ X : List (Nat × Blk), dropB [R, F, M, O, A] (passH s).blks X = delB (delB (delB (delB X R) M) O) A
  | [] => rfl
  | (k, B) :: r => by
    have ih := drop4 R F M O A s r
    simp only [passH] at ih ⊢
    simp only [dropB, goneB, passB, opsB, knB, opsW, atB, nthO, delB] at ih ⊢
    rw [beq_commG R k, beq_commG M k, beq_commG O k, beq_commG A k]
    cases h1 : Nat.beq k R with
    | true => simp only [ih]
    | false =>
      simp only [delB]
      cases h2 : Nat.beq k M with
      | true => simp only [ih]
      | false =>
        simp only [delB]
        cases h3 : Nat.beq k O with
        | true => simp only [ih]
        | false =>
          simp only [delB]
          cases h4 : Nat.beq k A with
          | true => simp only [ih]
          | false => simp only [ih]
theorem pass_at' {f : FuncId} {rest : List AV} {s s' : PS} {V0 : AV} (h : Con Try.prog f (me :: rest) (passH s) (fun v H' => v = V0 ∧ H' = passH' s')) (hrest : ∀ l, leArgs l rest rest) (hV0 : ∀ g, mapV g V0 = V0) (R F M O A m : Nat) (X : List (Nat × Blk)) (w : Bool) (hd : diff [R, F, M, O, A])
    (hR : getB X R = some (passB F M O A s true)) (hF : getB X F = some ⟨6, some s.b.n, fun i => opL (s.b.f i), 39, w⟩) (hM : getB X M = some (knB s)) (hO : getB X O = some (opsW s.m s.f)) (hA : getB X A = some (atB s.na s.a)) (hl : allLt [R, F, M, O, A] m) (hkl : keysLt X m) :
    Con Try.prog f (.c (.ptr ⟨R, 0, 0, 0⟩) :: rest) ⟨m, X⟩ (fun v H' => v = V0 ∧ H' = ⟨m + 1, (R, passB F M m A s' true) :: (M, knB s') :: (m, opsW s'.m s'.f) :: (A, atB s'.na s'.a) :: delB (delB (delB (delB X R) M) O) A⟩) := by
  refine (h.frame (args := .c (.ptr ⟨R, 0, 0, 0⟩) :: rest) (H := ⟨m, X⟩) [R, F, M, O, A] rfl hd hl hkl ?_ ⟨⟨rfl, rfl, rfl, rfl⟩, hrest _⟩).weaken ?_
  · simp only [passH, leBlks, nthO, hR, hF, hM, hO, hA]
    exact ⟨pass_le s _ _ _ _ _ _ _ _ _ _ id rfl rfl rfl rfl, ops_le s.b.n s.b.f w, kn_le s, opsw_le _ _ _ (fun _ _ => rfl), at_le _ _ _ (fun _ _ => rfl), trivial⟩
  · rintro v H' ⟨v0, H0', ⟨rfl, rfl⟩, rfl, rfl⟩
    refine ⟨hV0 _, ?_⟩
    simp only [framed, drop4]
    rfl
theorem pass_at0 {f : FuncId} {rest : List AV} {s s' : PS} {V0 : AV} (h : Con Try.prog f (me :: rest) (passH s) (fun v H' => v = V0 ∧ H' = passH s')) (hrest : ∀ l, leArgs l rest rest) (hV0 : ∀ g, mapV g V0 = V0) (R F M O A m : Nat) (X : List (Nat × Blk)) (w : Bool) (hd : diff [R, F, M, O, A])
    (hR : getB X R = some (passB F M O A s true)) (hF : getB X F = some ⟨6, some s.b.n, fun i => opL (s.b.f i), 39, w⟩) (hM : getB X M = some (knB s)) (hO : getB X O = some (opsW s.m s.f)) (hA : getB X A = some (atB s.na s.a)) (hl : allLt [R, F, M, O, A] m) (hkl : keysLt X m) :
    Con Try.prog f (.c (.ptr ⟨R, 0, 0, 0⟩) :: rest) ⟨m, X⟩ (fun v H' => v = V0 ∧ H' = ⟨m, (R, passB F M O A s' true) :: (M, knB s') :: (O, opsW s'.m s'.f) :: (A, atB s'.na s'.a) :: delB (delB (delB (delB X R) M) O) A⟩) := by
  refine (h.frame (args := .c (.ptr ⟨R, 0, 0, 0⟩) :: rest) (H := ⟨m, X⟩) [R, F, M, O, A] rfl hd hl hkl ?_ ⟨⟨rfl, rfl, rfl, rfl⟩, hrest _⟩).weaken ?_
  · simp only [passH, leBlks, nthO, hR, hF, hM, hO, hA]
    exact ⟨pass_le s _ _ _ _ _ _ _ _ _ _ id rfl rfl rfl rfl, ops_le s.b.n s.b.f w, kn_le s, opsw_le _ _ _ (fun _ _ => rfl), at_le _ _ _ (fun _ _ => rfl), trivial⟩
  · rintro v H' ⟨v0, H0', ⟨rfl, rfl⟩, rfl, rfl⟩
    refine ⟨hV0 _, ?_⟩
    simp only [framed, drop4]
    rfl
end Go.Proofs.Ytmbnakinhnkabaa

namespace Go.Proofs.Ytmbnakinhnkabaa
open Go.AM
set_option maxRecDepth 100000
set_option linter.unusedSimpArgs false
set_option linter.unusedVariables false
def knK (s : PS) : List Seg := [.a s.kn (fun i => .int .i64 (s.kk i)), .a s.kn (fun i => .int .i64 (s.kr i))]
def knFind (s : PS) (k r : Int) : Nat := findI (keyEq (placeL k r) (knK s)) s.kn
def knPut (s : PS) (k r v : Int) : PS := { s with kn := max s.kn (knFind s k r + 1), kk := fun i => if i = knFind s k r then k else s.kk i, kr := fun i => if i = knFind s k r then r else s.kr i, kv := fun i => if i = knFind s k r then v else s.kv i }
def knDel (s : PS) (k r : Int) : PS := { s with kn := if knFind s k r < s.kn then s.kn - 1 else s.kn, kk := fun i => if i < knFind s k r then s.kk i else s.kk (i + 1), kr := fun i => if i < knFind s k r then s.kr i else s.kr (i + 1), kv := fun i => if i < knFind s k r then s.kv i else s.kv (i + 1) }
def knSet (s : PS) (o : OpS) (k r : Int) : PS := if ((k != 2) || truthF (s.f o.a.toNat)) = true then knPut s k r o.a else knDel s k r
theorem knSet_m (s : PS) (o : OpS) (k r : Int) : (knSet s o k r).m = s.m := by unfold knSet; split <;> rfl
theorem alt5 {m : Nat} (h : 5 ≤ m) : allLt [0, 1, 2, 3, 4] m := ⟨by omega, by omega, by omega, by omega, by omega, trivial⟩
theorem end_set {l : List Slot} {H : Heap} (s' : PS) (m : Int) (hs : slotAt l 6 = some ⟨6, [], .c (.int .i64 m)⟩) (h0 : getB H.blks 0 = some (passB 1 2 7 4 s' true)) (h1 : getB H.blks 1 = some (opsB s'.b.n s'.b.f)) (h2 : getB H.blks 2 = some (knB s')) (h3 : getB H.blks 7 = some (opsW s'.m s'.f)) (h4 : getB H.blks 4 = some (atB s'.na s'.a)) :
    endQ (LeS 5) [.tmp 6] (fun u H' => u = .c (.int .i64 m) ∧ H' = passH' s') .ret ⟨l, H⟩ := by
  refine end_of ⟨[⟨6, [], .c (.int .i64 m)⟩], passH' s'⟩ (LeS.intro [0, 1, 2, 3, 4, 7] ids5 (by simp only [diff, notIn, Nat.beq, and_self]) rfl (by simp only [slotsLe, hs, leV, leV1, leC, and_self]) ?_) ?_
  · simp only [passH', leBlks, nthO, h0, h1, h2, h3, h4]
    exact ⟨pass_le s' 1 2 7 4 1 2 5 4 _ _ id rfl rfl rfl rfl, ops_le _ _ false, kn_le s', opsw_le _ _ _ (fun _ _ => rfl), at_le _ _ _ (fun _ _ => rfl), trivial⟩
  · simp only [endF, resL, resA, St.get, slotAt, Nat.beq, sfx, eqP, noTup, resV]
    exact ⟨by first | rfl | trivial, by first | rfl | trivial⟩
set_option maxHeartbeats 2000000 in
theorem con74 (s : PS) (o : OpS) (k r : Int) (v : Nat) (ha : o.a = (v : Int)) (hv : v < s.m) (hm : s.m < 1000) : Con Try.prog 74 [me, .agg (opL o), .agg (placeL k r)] (passH s) (fun u H' => u = .c (.int .i64 s.m) ∧ H' = passH' (layS (knSet s o k r) o)) := by
  obtain ⟨kd, ro, oa, ob, oo, im⟩ := o
  simp only at ha
  subst ha
  generalize hS : knSet s ⟨kd, ro, (v : Int), ob, oo, im⟩ k r = S
  unfold knSet at hS
  simp only [Int.toNat_natCast] at hS
  (refine con_of_run mixed (fn := Try.f74) (by kernel_rfl) (by kernel_rfl) C74_ok (rs := [.tmp 6]) (by kernel_rfl) (Nat.le_of_ble_eq_true (by kernel_rfl)) ?_; unfold C74; simp only [initT, Nat.reduceAdd])
  simp only [me, passH, passB, passL, opsB, opsW, knB, atB]
  repeat' (first | refine run_seq ?_ | (refine run_region fun K hK => ?_; (try (simp (maxSteps := 10000000) only [opL, placeL, partsOf, fillS, C74r0, C74r1, C74r2, C74r3, rwp_nil, rwp_cons, rwpK_app, aop, gpath, St.get, slotAt, sfx, eqP, segsOf, St.put, addBlk, getB, setB, delB, ld1, ldn, st1, stn, setRow, rowNeed, segAt, nsub, bin, un, eqB, isShift, sameK, arith, shiftR, getsl, selB_or, selB_and, beqb, shed, addN, Nat.beq, Seg.size, sizes, imp, needP, andN, appL, argsOf, ptrsOf, aasOf, cut, takeS, dropS, putS, partsOf, fillS, fieldOf, nthA, negIf, nilq, nilB, eqS, eqF, eqS1, andP, kin, slcS, strOk, plusA, bndHi, leN, optG, roH, roL, initT, exOk, exAll, wrAddr, Nat.reduceAdd, Nat.reduceSub, Nat.reduceMul, Int.reduceToNat, List.append_nil, List.nil_append, List.cons_append, mapR, mapR1, keyL, keyOk, keyP, colsPut, colsDel, zcols, eqT, idxT, cat, cpy, ite_int, ite_bool, ite_seg, ite_segs, ite_nil, ite_twice, Int.toNat_natCast, app, addBs, tob])); (repeat (first | (refine And.intro ?_ ?_; · (first | trivial | assumption | omega | exact ⟨by omega, by omega, by omega⟩ | exact ⟨trivial, by omega, by omega⟩ | exact ⟨fun _ _ => trivial, fun _ _ => trivial, trivial⟩ | (intros; first | trivial | assumption | omega))) | ((first | (refine call_t _ (passR_at (con100 s v hv) (fun l => by simp only [leArgs, leV, leV1, leC, and_self]) (fun g => rfl) 0 1 2 3 4 _ _ _ _ (by simp only [diff, notIn, Nat.beq, and_self]) rfl rfl (alt5 (Nat.le_of_ble_eq_true rfl)) (by simp [roL, keysLt])) ?_; rintro v H' ⟨rfl, rfl⟩) | refine call_q _ (passR_at (con100 s v hv) (fun l => by simp only [leArgs, leV, leV1, leC, and_self]) (fun g => rfl) 0 1 2 3 4 _ _ _ _ (by simp only [diff, notIn, Nat.beq, and_self]) rfl rfl (alt5 (Nat.le_of_ble_eq_true rfl)) (by simp [roL, keysLt])) ?_ | refine call_g _ (imp_of (passR_at (con100 s v hv) (fun l => by simp only [leArgs, leV, leV1, leC, and_self]) (fun g => rfl) 0 1 2 3 4 _ _ _ _ (by simp only [diff, notIn, Nat.beq, and_self]) rfl rfl (alt5 (Nat.le_of_ble_eq_true rfl)) (by simp [roL, keysLt]))) ?_); simp (maxSteps := 10000000) only [opL, placeL, partsOf, fillS, C74r0, C74r1, C74r2, C74r3, rwp_nil, rwp_cons, rwpK_app, aop, gpath, St.get, slotAt, sfx, eqP, segsOf, St.put, addBlk, getB, setB, delB, ld1, ldn, st1, stn, setRow, rowNeed, segAt, nsub, bin, un, eqB, isShift, sameK, arith, shiftR, getsl, selB_or, selB_and, beqb, shed, addN, Nat.beq, Seg.size, sizes, imp, needP, andN, appL, argsOf, ptrsOf, aasOf, cut, takeS, dropS, putS, partsOf, fillS, fieldOf, nthA, negIf, nilq, nilB, eqS, eqF, eqS1, andP, kin, slcS, strOk, plusA, bndHi, leN, optG, roH, roL, initT, exOk, exAll, wrAddr, Nat.reduceAdd, Nat.reduceSub, Nat.reduceMul, Int.reduceToNat, List.append_nil, List.nil_append, List.cons_append, mapR, mapR1, keyL, keyOk, keyP, colsPut, colsDel, zcols, eqT, idxT, cat, cpy, ite_int, ite_bool, ite_seg, ite_segs, ite_nil, ite_twice, Int.toNat_natCast, app, addBs, tob]))); with_reducible refine hK _ ?_; clear hK K) | (refine run_cond rfl (fun hc => ?_) (fun hc => ?_) <;> try (simp only [*, Bool.true_eq_false, Bool.false_eq_true, Bool.not_true, Bool.not_false, Bool.true_or, Bool.or_true, Bool.false_or, Bool.or_false, Bool.false_and, Bool.and_false, bne_self_eq_false, beq_self_eq_true] at hc; done)) | refine run_ret ?_ | refine run_nil ?_)
  · rw [if_pos hc] at hS
    subst hS
    repeat' (first | refine run_seq ?_ | (refine run_region fun K hK => ?_; (try (simp (maxSteps := 10000000) only [opL, placeL, partsOf, fillS, C74r0, C74r1, C74r2, C74r3, C74r4, rwp_nil, rwp_cons, rwpK_app, aop, gpath, St.get, slotAt, sfx, eqP, segsOf, St.put, addBlk, getB, setB, delB, ld1, ldn, st1, stn, setRow, rowNeed, segAt, nsub, bin, un, eqB, isShift, sameK, arith, shiftR, getsl, selB_or, selB_and, beqb, shed, addN, Nat.beq, Seg.size, sizes, imp, needP, andN, appL, argsOf, ptrsOf, aasOf, cut, takeS, dropS, putS, partsOf, fillS, fieldOf, nthA, negIf, nilq, nilB, eqS, eqF, eqS1, andP, kin, slcS, strOk, plusA, bndHi, leN, optG, roH, roL, initT, exOk, exAll, wrAddr, Nat.reduceAdd, Nat.reduceSub, Nat.reduceMul, Int.reduceToNat, List.append_nil, List.nil_append, List.cons_append, mapR, mapR1, keyL, keyOk, keyP, colsPut, colsDel, zcols, eqT, idxT, cat, cpy, ite_int, ite_bool, ite_seg, ite_segs, ite_nil, ite_twice, Int.toNat_natCast, app, addBs, tob])); (repeat (first | (refine And.intro ?_ ?_; · (first | trivial | assumption | omega | exact ⟨by omega, by omega, by omega⟩ | exact ⟨trivial, by omega, by omega⟩ | exact ⟨fun _ _ => trivial, fun _ _ => trivial, trivial⟩ | (intros; first | trivial | assumption | omega))) | ((first | (refine call_t _ (pass_at' (con75 (knPut s k r v) ⟨kd, ro, (v : Int), ob, oo, im⟩ hm) (fun l => by simp only [opL, placeL, leArgs, leV, leV1, leSegs, leSeg, leC, and_self]) (fun g => rfl) 0 1 2 3 4 _ _ _ (by simp only [diff, notIn, Nat.beq, and_self]) rfl rfl rfl rfl rfl (alt5 (Nat.le_of_ble_eq_true rfl)) (by simp [keysLt])) ?_; rintro v H' ⟨rfl, rfl⟩) | refine call_q _ (pass_at' (con75 (knPut s k r v) ⟨kd, ro, (v : Int), ob, oo, im⟩ hm) (fun l => by simp only [opL, placeL, leArgs, leV, leV1, leSegs, leSeg, leC, and_self]) (fun g => rfl) 0 1 2 3 4 _ _ _ (by simp only [diff, notIn, Nat.beq, and_self]) rfl rfl rfl rfl rfl (alt5 (Nat.le_of_ble_eq_true rfl)) (by simp [keysLt])) ?_ | refine call_g _ (imp_of (pass_at' (con75 (knPut s k r v) ⟨kd, ro, (v : Int), ob, oo, im⟩ hm) (fun l => by simp only [opL, placeL, leArgs, leV, leV1, leSegs, leSeg, leC, and_self]) (fun g => rfl) 0 1 2 3 4 _ _ _ (by simp only [diff, notIn, Nat.beq, and_self]) rfl rfl rfl rfl rfl (alt5 (Nat.le_of_ble_eq_true rfl)) (by simp [keysLt]))) ?_); simp (maxSteps := 10000000) only [opL, placeL, partsOf, fillS, C74r0, C74r1, C74r2, C74r3, C74r4, rwp_nil, rwp_cons, rwpK_app, aop, gpath, St.get, slotAt, sfx, eqP, segsOf, St.put, addBlk, getB, setB, delB, ld1, ldn, st1, stn, setRow, rowNeed, segAt, nsub, bin, un, eqB, isShift, sameK, arith, shiftR, getsl, selB_or, selB_and, beqb, shed, addN, Nat.beq, Seg.size, sizes, imp, needP, andN, appL, argsOf, ptrsOf, aasOf, cut, takeS, dropS, putS, partsOf, fillS, fieldOf, nthA, negIf, nilq, nilB, eqS, eqF, eqS1, andP, kin, slcS, strOk, plusA, bndHi, leN, optG, roH, roL, initT, exOk, exAll, wrAddr, Nat.reduceAdd, Nat.reduceSub, Nat.reduceMul, Int.reduceToNat, List.append_nil, List.nil_append, List.cons_append, mapR, mapR1, keyL, keyOk, keyP, colsPut, colsDel, zcols, eqT, idxT, cat, cpy, ite_int, ite_bool, ite_seg, ite_segs, ite_nil, ite_twice, Int.toNat_natCast, app, addBs, tob]))); with_reducible refine hK _ ?_; clear hK K) | (refine run_cond rfl (fun hc => ?_) (fun hc => ?_) <;> try (simp only [*, Bool.true_eq_false, Bool.false_eq_true, Bool.not_true, Bool.not_false, Bool.true_or, Bool.or_true, Bool.false_or, Bool.or_false, Bool.false_and, Bool.and_false, bne_self_eq_false, beq_self_eq_true] at hc; done)) | refine run_ret ?_ | refine run_nil ?_)
    exact end_set (layS (knPut s k r v) ⟨kd, ro, (v : Int), ob, oo, im⟩) _ rfl rfl rfl rfl rfl rfl
  · rw [if_neg (by rw [hc]; exact Bool.false_ne_true)] at hS
    subst hS
    repeat' (first | refine run_seq ?_ | (refine run_region fun K hK => ?_; (try (simp (maxSteps := 10000000) only [opL, placeL, partsOf, fillS, C74r0, C74r1, C74r2, C74r3, C74r4, rwp_nil, rwp_cons, rwpK_app, aop, gpath, St.get, slotAt, sfx, eqP, segsOf, St.put, addBlk, getB, setB, delB, ld1, ldn, st1, stn, setRow, rowNeed, segAt, nsub, bin, un, eqB, isShift, sameK, arith, shiftR, getsl, selB_or, selB_and, beqb, shed, addN, Nat.beq, Seg.size, sizes, imp, needP, andN, appL, argsOf, ptrsOf, aasOf, cut, takeS, dropS, putS, partsOf, fillS, fieldOf, nthA, negIf, nilq, nilB, eqS, eqF, eqS1, andP, kin, slcS, strOk, plusA, bndHi, leN, optG, roH, roL, initT, exOk, exAll, wrAddr, Nat.reduceAdd, Nat.reduceSub, Nat.reduceMul, Int.reduceToNat, List.append_nil, List.nil_append, List.cons_append, mapR, mapR1, keyL, keyOk, keyP, colsPut, colsDel, zcols, eqT, idxT, cat, cpy, ite_int, ite_bool, ite_seg, ite_segs, ite_nil, ite_twice, Int.toNat_natCast, app, addBs, tob])); (repeat (first | (refine And.intro ?_ ?_; · (first | trivial | assumption | omega | exact ⟨by omega, by omega, by omega⟩ | exact ⟨trivial, by omega, by omega⟩ | exact ⟨fun _ _ => trivial, fun _ _ => trivial, trivial⟩ | (intros; first | trivial | assumption | omega))) | ((first | (refine call_t _ (pass_at' (con75 (knDel s k r) ⟨kd, ro, (v : Int), ob, oo, im⟩ hm) (fun l => by simp only [opL, placeL, leArgs, leV, leV1, leSegs, leSeg, leC, and_self]) (fun g => rfl) 0 1 2 3 4 _ _ _ (by simp only [diff, notIn, Nat.beq, and_self]) rfl rfl rfl rfl rfl (alt5 (Nat.le_of_ble_eq_true rfl)) (by simp [keysLt])) ?_; rintro v H' ⟨rfl, rfl⟩) | refine call_q _ (pass_at' (con75 (knDel s k r) ⟨kd, ro, (v : Int), ob, oo, im⟩ hm) (fun l => by simp only [opL, placeL, leArgs, leV, leV1, leSegs, leSeg, leC, and_self]) (fun g => rfl) 0 1 2 3 4 _ _ _ (by simp only [diff, notIn, Nat.beq, and_self]) rfl rfl rfl rfl rfl (alt5 (Nat.le_of_ble_eq_true rfl)) (by simp [keysLt])) ?_ | refine call_g _ (imp_of (pass_at' (con75 (knDel s k r) ⟨kd, ro, (v : Int), ob, oo, im⟩ hm) (fun l => by simp only [opL, placeL, leArgs, leV, leV1, leSegs, leSeg, leC, and_self]) (fun g => rfl) 0 1 2 3 4 _ _ _ (by simp only [diff, notIn, Nat.beq, and_self]) rfl rfl rfl rfl rfl (alt5 (Nat.le_of_ble_eq_true rfl)) (by simp [keysLt]))) ?_); simp (maxSteps := 10000000) only [opL, placeL, partsOf, fillS, C74r0, C74r1, C74r2, C74r3, C74r4, rwp_nil, rwp_cons, rwpK_app, aop, gpath, St.get, slotAt, sfx, eqP, segsOf, St.put, addBlk, getB, setB, delB, ld1, ldn, st1, stn, setRow, rowNeed, segAt, nsub, bin, un, eqB, isShift, sameK, arith, shiftR, getsl, selB_or, selB_and, beqb, shed, addN, Nat.beq, Seg.size, sizes, imp, needP, andN, appL, argsOf, ptrsOf, aasOf, cut, takeS, dropS, putS, partsOf, fillS, fieldOf, nthA, negIf, nilq, nilB, eqS, eqF, eqS1, andP, kin, slcS, strOk, plusA, bndHi, leN, optG, roH, roL, initT, exOk, exAll, wrAddr, Nat.reduceAdd, Nat.reduceSub, Nat.reduceMul, Int.reduceToNat, List.append_nil, List.nil_append, List.cons_append, mapR, mapR1, keyL, keyOk, keyP, colsPut, colsDel, zcols, eqT, idxT, cat, cpy, ite_int, ite_bool, ite_seg, ite_segs, ite_nil, ite_twice, Int.toNat_natCast, app, addBs, tob]))); with_reducible refine hK _ ?_; clear hK K) | (refine run_cond rfl (fun hc => ?_) (fun hc => ?_) <;> try (simp only [*, Bool.true_eq_false, Bool.false_eq_true, Bool.not_true, Bool.not_false, Bool.true_or, Bool.or_true, Bool.false_or, Bool.or_false, Bool.false_and, Bool.and_false, bne_self_eq_false, beq_self_eq_true] at hc; done)) | refine run_ret ?_ | refine run_nil ?_)
    exact end_set (layS (knDel s k r) ⟨kd, ro, (v : Int), ob, oo, im⟩) _ rfl rfl rfl rfl rfl rfl
end Go.Proofs.Ytmbnakinhnkabaa

namespace Go.Proofs.Ytmbnakinhnkabaa
open Go.AM
set_option maxRecDepth 100000
set_option linter.unusedSimpArgs false
set_option linter.unusedVariables false
structure One where
  s : PS
  v : Int
  e : Bool
  l : Bool
def constO (n : Int) : OpS := ⟨1, 0, 0, 0, 0, n⟩
def exitO (n : Int) : OpS := ⟨16, 0, 0, 0, 0, n⟩
def isC (s : PS) (v : Int) : Bool := (s.f v.toNat).kind == 1
def layO (s : PS) (o : OpS) : One := ⟨layS s o, s.m, false, true⟩
def oneP (s : PS) (o : OpS) : One :=
  if placeOk o = true then
    if placeSet o = true then ⟨layS (knSet s o (placeK o) (placeR o)) o, s.m, false, true⟩
    else if knFind s (placeK o) (placeR o) < s.kn then ⟨s, s.kv (knFind s (placeK o) (placeR o)), false, false⟩
    else ⟨knPut (layS s o) (placeK o) (placeR o) s.m, s.m, false, true⟩
  else if o.kind = 8 then
    if (isC s o.a && isC s o.b) = true then layO s (constO (reckS o.r (s.f o.a.toNat).imm (s.f o.b.toNat).imm).1) else layO s o
  else if o.kind = 15 then
    if isC s o.a = true then (if (s.f o.a.toNat).imm = 0 then ⟨s, -1, false, false⟩ else ⟨layS s (exitO o.imm), s.m, true, true⟩) else layO s o
  else layO s o
def oneH (r : One) : Heap := if r.l = true then passH' r.s else passH r.s
def retOne (r : One) : AV := .tup [.c (.int .i64 r.v), .c (.bool r.e)]
structure FitP (s : PS) (o : OpS) : Prop where
  m : s.m < 1000
  a : 1 ≤ usesS o.kind → 0 ≤ o.a ∧ o.a < s.m
  b : 2 ≤ usesS o.kind → 0 ≤ o.b ∧ o.b < s.m
theorem end_one {l : List Slot} {H : Heap} (r T : One) (hT : r = T) (hl : r.l = true) (s4 : slotAt l 4 = some ⟨4, [], .c (.int .i64 r.v)⟩) (s5 : slotAt l 5 = some ⟨5, [], .c (.bool r.e)⟩) (h0 : getB H.blks 0 = some (passB 1 2 7 4 r.s true)) (h1 : getB H.blks 1 = some (opsB r.s.b.n r.s.b.f)) (h2 : getB H.blks 2 = some (knB r.s)) (h3 : getB H.blks 7 = some (opsW r.s.m r.s.f)) (h4 : getB H.blks 4 = some (atB r.s.na r.s.a)) :
    endQ (LeS 5) [.tmp 4, .tmp 5] (fun u H' => u = retOne T ∧ H' = oneH T) .ret ⟨l, H⟩ := by
  subst hT
  refine end_of ⟨[⟨4, [], .c (.int .i64 r.v)⟩, ⟨5, [], .c (.bool r.e)⟩], passH' r.s⟩ (LeS.intro [0, 1, 2, 3, 4, 7] ids5 (by simp only [diff, notIn, Nat.beq, and_self]) rfl (by simp only [slotsLe, s4, s5, leV, leV1, leC, and_self]) ?_) ?_
  · simp only [passH', leBlks, nthO, h0, h1, h2, h3, h4]
    exact ⟨pass_le r.s 1 2 7 4 1 2 5 4 _ _ id rfl rfl rfl rfl, ops_le _ _ false, kn_le r.s, opsw_le _ _ _ (fun _ _ => rfl), at_le _ _ _ (fun _ _ => rfl), trivial⟩
  · simp only [endF, resL, resA, St.get, slotAt, Nat.beq, sfx, eqP, noTup, resV]
    exact ⟨by first | rfl | trivial, by unfold oneH; rw [if_pos hl]⟩
theorem end_one0 {l : List Slot} {H : Heap} (r T : One) (hT : r = T) (hl : r.l = false) (s4 : slotAt l 4 = some ⟨4, [], .c (.int .i64 r.v)⟩) (s5 : slotAt l 5 = some ⟨5, [], .c (.bool r.e)⟩) (h0 : getB H.blks 0 = some (passB 1 2 3 4 r.s true)) (h1 : getB H.blks 1 = some (opsB r.s.b.n r.s.b.f)) (h2 : getB H.blks 2 = some (knB r.s)) (h3 : getB H.blks 3 = some (opsW r.s.m r.s.f)) (h4 : getB H.blks 4 = some (atB r.s.na r.s.a)) :
    endQ (LeS 5) [.tmp 4, .tmp 5] (fun u H' => u = retOne T ∧ H' = oneH T) .ret ⟨l, H⟩ := by
  subst hT
  refine end_of ⟨[⟨4, [], .c (.int .i64 r.v)⟩, ⟨5, [], .c (.bool r.e)⟩], passH r.s⟩ (LeS.intro [0, 1, 2, 3, 4] ids5 (by simp only [diff, notIn, Nat.beq, and_self]) rfl (by simp only [slotsLe, s4, s5, leV, leV1, leC, and_self]) ?_) ?_
  · simp only [passH, leBlks, nthO, h0, h1, h2, h3, h4]
    exact ⟨pass_le r.s 1 2 3 4 1 2 3 4 _ _ id rfl rfl rfl rfl, ops_le _ _ false, kn_le r.s, opsw_le _ _ _ (fun _ _ => rfl), at_le _ _ _ (fun _ _ => rfl), trivial⟩
  · simp only [endF, resL, resA, St.get, slotAt, Nat.beq, sfx, eqP, noTup, resV]
    exact ⟨by first | rfl | trivial, by unfold oneH; rw [if_neg (by rw [hl]; exact Bool.false_ne_true)]⟩
theorem knSet_b (s : PS) (o : OpS) (k r : Int) : (knSet s o k r).b = s.b := by unfold knSet; split <;> rfl
theorem usesS_set {o : OpS} (h1 : placeOk o = true) (h2 : placeSet o = true) : 1 ≤ usesS o.kind := by
  unfold placeSet at h2
  simp only [Bool.or_eq_true, beq_iff_eq] at h2
  rcases h2 with (h | h) | h <;> rw [h] <;> decide
set_option maxHeartbeats 4000000 in
theorem con48_set (s : PS) (o : OpS) (hf : FitP s o) (h1 : placeOk o = true) (h2 : placeSet o = true) : Con Try.prog 48 [me, .agg (opL o)] (passH s) (fun u H' => u = retOne (oneP s o) ∧ H' = oneH (oneP s o)) := by
  have hT : (⟨layS (knSet s o (placeK o) (placeR o)) o, s.m, false, true⟩ : One) = oneP s o := by unfold oneP; rw [if_pos h1, if_pos h2]
  generalize oneP s o = T at hT ⊢
  obtain ⟨ha0, ha1⟩ := hf.a (usesS_set h1 h2)
  have hm := hf.m
  (refine con_of_run mixed (fn := Try.f48) (by kernel_rfl) (by kernel_rfl) C48_ok (rs := [.tmp 4, .tmp 5]) (by kernel_rfl) (Nat.le_of_ble_eq_true (by kernel_rfl)) ?_; unfold C48; simp only [initT, Nat.reduceAdd])
  generalize hk : placeK o = k at hT
  generalize hr : placeR o = r at hT
  simp only [me, passH, passB, passL, opsB, opsW, knB, atB]
  repeat' (first | refine run_seq ?_ | refine run_skip ?_ | (refine run_region fun K hK => ?_; (try (simp (maxSteps := 10000000) only [Bool.and_self, Bool.true_and, opL, hk, hr, h1, h2, placeL, partsOf, fillS, C48r0, C48r1, C48r2, C48r3, C48r4, C48r5, C48r6, C48r7, C48r8, C48r9, C48r10, C48r11, C48r12, C48r13, C48r14, C48r15, C48r16, C48r17, C48r18, C48r19, C48r20, C48r21, C48r22, C48r23, rwp_nil, rwp_cons, rwpK_app, aop, gpath, St.get, slotAt, sfx, eqP, segsOf, St.put, addBlk, getB, setB, delB, ld1, ldn, st1, stn, setRow, rowNeed, segAt, nsub, bin, un, eqB, isShift, sameK, arith, shiftR, getsl, selB_or, selB_and, beqb, shed, addN, Nat.beq, Seg.size, sizes, imp, needP, andN, appL, argsOf, ptrsOf, aasOf, cut, takeS, dropS, putS, partsOf, fillS, fieldOf, nthA, negIf, nilq, nilB, eqS, eqF, eqS1, andP, kin, slcS, strOk, plusA, bndHi, leN, optG, roH, roL, initT, exOk, exAll, wrAddr, Nat.reduceAdd, Nat.reduceSub, Nat.reduceMul, Int.reduceToNat, List.append_nil, List.nil_append, List.cons_append, mapR, mapR1, keyL, keyOk, keyP, colsPut, colsDel, zcols, eqT, idxT, cat, cpy, ite_int, ite_bool, ite_seg, ite_segs, ite_nil, ite_twice, Int.toNat_natCast, app, addBs, tob])); (repeat (first | (refine And.intro ?_ ?_; · (first | trivial | assumption | omega | exact ⟨by omega, by omega, by omega⟩ | exact ⟨trivial, by omega, by omega⟩ | exact ⟨fun _ _ => trivial, fun _ _ => trivial, trivial⟩ | (intros; first | trivial | assumption | omega))) | ((first | (refine call_t _ (con73 o _) ?_; rintro v H' ⟨rfl, rfl⟩) | refine call_q _ (con73 o _) ?_ | refine call_g _ (imp_of (con73 o _)) ?_ | (refine call_t _ (pass_at' (con74 s o k r o.a.toNat (Int.toNat_of_nonneg ha0).symm (by omega) hm) (fun l => by simp only [opL, placeL, leArgs, leV, leV1, leSegs, leSeg, leC, and_self]) (fun g => rfl) 0 1 2 3 4 _ _ _ (by simp only [diff, notIn, Nat.beq, and_self]) rfl rfl rfl rfl rfl (alt5 (Nat.le_of_ble_eq_true rfl)) (by simp [keysLt])) ?_; rintro v H' ⟨rfl, rfl⟩) | refine call_q _ (pass_at' (con74 s o k r o.a.toNat (Int.toNat_of_nonneg ha0).symm (by omega) hm) (fun l => by simp only [opL, placeL, leArgs, leV, leV1, leSegs, leSeg, leC, and_self]) (fun g => rfl) 0 1 2 3 4 _ _ _ (by simp only [diff, notIn, Nat.beq, and_self]) rfl rfl rfl rfl rfl (alt5 (Nat.le_of_ble_eq_true rfl)) (by simp [keysLt])) ?_ | refine call_g _ (imp_of (pass_at' (con74 s o k r o.a.toNat (Int.toNat_of_nonneg ha0).symm (by omega) hm) (fun l => by simp only [opL, placeL, leArgs, leV, leV1, leSegs, leSeg, leC, and_self]) (fun g => rfl) 0 1 2 3 4 _ _ _ (by simp only [diff, notIn, Nat.beq, and_self]) rfl rfl rfl rfl rfl (alt5 (Nat.le_of_ble_eq_true rfl)) (by simp [keysLt]))) ?_); simp (maxSteps := 10000000) only [Bool.and_self, Bool.true_and, opL, hk, hr, h1, h2, placeL, partsOf, fillS, C48r0, C48r1, C48r2, C48r3, C48r4, C48r5, C48r6, C48r7, C48r8, C48r9, C48r10, C48r11, C48r12, C48r13, C48r14, C48r15, C48r16, C48r17, C48r18, C48r19, C48r20, C48r21, C48r22, C48r23, rwp_nil, rwp_cons, rwpK_app, aop, gpath, St.get, slotAt, sfx, eqP, segsOf, St.put, addBlk, getB, setB, delB, ld1, ldn, st1, stn, setRow, rowNeed, segAt, nsub, bin, un, eqB, isShift, sameK, arith, shiftR, getsl, selB_or, selB_and, beqb, shed, addN, Nat.beq, Seg.size, sizes, imp, needP, andN, appL, argsOf, ptrsOf, aasOf, cut, takeS, dropS, putS, partsOf, fillS, fieldOf, nthA, negIf, nilq, nilB, eqS, eqF, eqS1, andP, kin, slcS, strOk, plusA, bndHi, leN, optG, roH, roL, initT, exOk, exAll, wrAddr, Nat.reduceAdd, Nat.reduceSub, Nat.reduceMul, Int.reduceToNat, List.append_nil, List.nil_append, List.cons_append, mapR, mapR1, keyL, keyOk, keyP, colsPut, colsDel, zcols, eqT, idxT, cat, cpy, ite_int, ite_bool, ite_seg, ite_segs, ite_nil, ite_twice, Int.toNat_natCast, app, addBs, tob]))); with_reducible refine hK _ ?_; clear hK K) | (refine run_cond rfl (fun hc => ?_) (fun hc => ?_) <;> try (simp only [*, Bool.true_eq_false, Bool.false_eq_true, Bool.not_true, Bool.not_false, Bool.true_or, Bool.or_true, Bool.false_or, Bool.or_false, Bool.false_and, Bool.and_false, bne_self_eq_false, beq_self_eq_true] at hc; done)) | refine run_block ?_ | refine run_ret ?_ | refine run_nil ?_ | refine blk_normal ?_ | refine blk_ret ?_ | refine blk_here ?_ | refine blk_there rfl ?_)
  exact end_one _ _ hT rfl rfl rfl rfl (by show _ = some (opsB (knSet s o k r).b.n (knSet s o k r).b.f); rw [knSet_b]; rfl) rfl rfl rfl
set_option maxHeartbeats 4000000 in
theorem con48_get (s : PS) (o : OpS) (hf : FitP s o) (h1 : placeOk o = true) (h2 : placeSet o = false) : Con Try.prog 48 [me, .agg (opL o)] (passH s) (fun u H' => u = retOne (oneP s o) ∧ H' = oneH (oneP s o)) := by
  have hT : (if knFind s (placeK o) (placeR o) < s.kn then ⟨s, s.kv (knFind s (placeK o) (placeR o)), false, false⟩
    else ⟨knPut (layS s o) (placeK o) (placeR o) s.m, s.m, false, true⟩ : One) = oneP s o := by simp only [oneP, h1, h2, if_true, Bool.false_eq_true, if_false]
  generalize oneP s o = T at hT ⊢
  have hm := hf.m
  (refine con_of_run mixed (fn := Try.f48) (by kernel_rfl) (by kernel_rfl) C48_ok (rs := [.tmp 4, .tmp 5]) (by kernel_rfl) (Nat.le_of_ble_eq_true (by kernel_rfl)) ?_; unfold C48; simp only [initT, Nat.reduceAdd])
  generalize hk : placeK o = k at hT
  generalize hr : placeR o = r at hT
  simp only [me, passH, passB, passL, opsB, opsW, knB, atB]
  repeat' (first | refine run_seq ?_ | refine run_skip ?_ | (refine run_region fun K hK => ?_; (try (simp (maxSteps := 10000000) only [Bool.and_self, Bool.true_and, opL, hk, hr, h1, h2, placeL, partsOf, fillS, C48r0, C48r1, C48r2, C48r3, C48r4, C48r5, C48r6, C48r7, C48r9, C48r10, C48r11, C48r12, C48r13, C48r14, C48r15, C48r16, C48r17, C48r18, C48r19, C48r20, C48r21, C48r22, C48r23, rwp_nil, rwp_cons, rwpK_app, aop, gpath, St.get, slotAt, sfx, eqP, segsOf, St.put, addBlk, getB, setB, delB, ld1, ldn, st1, stn, setRow, rowNeed, segAt, nsub, bin, un, eqB, isShift, sameK, arith, shiftR, getsl, selB_or, selB_and, beqb, shed, addN, Nat.beq, Seg.size, sizes, imp, needP, andN, appL, argsOf, ptrsOf, aasOf, cut, takeS, dropS, putS, partsOf, fillS, fieldOf, nthA, negIf, nilq, nilB, eqS, eqF, eqS1, andP, kin, slcS, strOk, plusA, bndHi, leN, optG, roH, roL, initT, exOk, exAll, wrAddr, Nat.reduceAdd, Nat.reduceSub, Nat.reduceMul, Int.reduceToNat, List.append_nil, List.nil_append, List.cons_append, mapR, mapR1, keyL, keyOk, keyP, colsPut, colsDel, zcols, eqT, idxT, cat, cpy, ite_int, ite_bool, ite_seg, ite_segs, ite_nil, ite_twice, Int.toNat_natCast, app, addBs, tob])); (repeat (first | (refine And.intro ?_ ?_; · (first | trivial | assumption | omega | exact ⟨by omega, by omega, by omega⟩ | exact ⟨trivial, by omega, by omega⟩ | exact ⟨fun _ _ => trivial, fun _ _ => trivial, trivial⟩ | (intros; first | trivial | assumption | omega))) | ((first | (refine call_t _ (con73 o _) ?_; rintro v H' ⟨rfl, rfl⟩) | refine call_q _ (con73 o _) ?_ | refine call_g _ (imp_of (con73 o _)) ?_); simp (maxSteps := 10000000) only [Bool.and_self, Bool.true_and, opL, hk, hr, h1, h2, placeL, partsOf, fillS, C48r0, C48r1, C48r2, C48r3, C48r4, C48r5, C48r6, C48r7, C48r9, C48r10, C48r11, C48r12, C48r13, C48r14, C48r15, C48r16, C48r17, C48r18, C48r19, C48r20, C48r21, C48r22, C48r23, rwp_nil, rwp_cons, rwpK_app, aop, gpath, St.get, slotAt, sfx, eqP, segsOf, St.put, addBlk, getB, setB, delB, ld1, ldn, st1, stn, setRow, rowNeed, segAt, nsub, bin, un, eqB, isShift, sameK, arith, shiftR, getsl, selB_or, selB_and, beqb, shed, addN, Nat.beq, Seg.size, sizes, imp, needP, andN, appL, argsOf, ptrsOf, aasOf, cut, takeS, dropS, putS, partsOf, fillS, fieldOf, nthA, negIf, nilq, nilB, eqS, eqF, eqS1, andP, kin, slcS, strOk, plusA, bndHi, leN, optG, roH, roL, initT, exOk, exAll, wrAddr, Nat.reduceAdd, Nat.reduceSub, Nat.reduceMul, Int.reduceToNat, List.append_nil, List.nil_append, List.cons_append, mapR, mapR1, keyL, keyOk, keyP, colsPut, colsDel, zcols, eqT, idxT, cat, cpy, ite_int, ite_bool, ite_seg, ite_segs, ite_nil, ite_twice, Int.toNat_natCast, app, addBs, tob]))); with_reducible refine hK _ ?_; clear hK K) | (refine run_cond rfl (fun hc => ?_) (fun hc => ?_) <;> try (simp only [*, Bool.true_eq_false, Bool.false_eq_true, Bool.not_true, Bool.not_false, Bool.true_or, Bool.or_true, Bool.false_or, Bool.or_false, Bool.false_and, Bool.and_false, bne_self_eq_false, beq_self_eq_true] at hc; done)) | refine run_block ?_ | refine run_ret ?_ | refine run_nil ?_ | refine blk_normal ?_ | refine blk_ret ?_ | refine blk_here ?_ | refine blk_there rfl ?_)
  · have hj : knFind s k r < s.kn := of_decide_eq_true hc
    rw [if_pos hj] at hT
    refine end_one0 _ _ hT rfl ?_ rfl rfl rfl rfl rfl rfl
    show some (⟨4, [], .c (.int .i64 (if knFind s k r < s.kn then s.kv (knFind s k r) else 0))⟩ : Slot) = _
    rw [if_pos hj]
  · have hj : ¬ knFind s k r < s.kn := of_decide_eq_false hc
    rw [if_neg hj] at hT
    repeat' (first | refine run_seq ?_ | refine run_skip ?_ | (refine run_region fun K hK => ?_; (try (simp (maxSteps := 10000000) only [opL, knB, layS, passB, passL, opsW, atB, placeL, partsOf, fillS, C48r0, C48r1, C48r2, C48r3, C48r4, C48r5, C48r6, C48r7, C48r8, C48r9, C48r10, C48r11, C48r12, C48r13, C48r14, C48r15, C48r16, C48r17, C48r18, C48r19, C48r20, C48r21, C48r22, C48r23, rwp_nil, rwp_cons, rwpK_app, aop, gpath, St.get, slotAt, sfx, eqP, segsOf, St.put, addBlk, getB, setB, delB, ld1, ldn, st1, stn, setRow, rowNeed, segAt, nsub, bin, un, eqB, isShift, sameK, arith, shiftR, getsl, selB_or, selB_and, beqb, shed, addN, Nat.beq, Seg.size, sizes, imp, needP, andN, appL, argsOf, ptrsOf, aasOf, cut, takeS, dropS, putS, partsOf, fillS, fieldOf, nthA, negIf, nilq, nilB, eqS, eqF, eqS1, andP, kin, slcS, strOk, plusA, bndHi, leN, optG, roH, roL, initT, exOk, exAll, wrAddr, Nat.reduceAdd, Nat.reduceSub, Nat.reduceMul, Int.reduceToNat, List.append_nil, List.nil_append, List.cons_append, mapR, mapR1, keyL, keyOk, keyP, colsPut, colsDel, zcols, eqT, idxT, cat, cpy, ite_int, ite_bool, ite_seg, ite_segs, ite_nil, ite_twice, Int.toNat_natCast, app, addBs, tob])); (repeat (first | (refine And.intro ?_ ?_; · (first | trivial | assumption | omega | exact ⟨by omega, by omega, by omega⟩ | exact ⟨trivial, by omega, by omega⟩ | exact ⟨fun _ _ => trivial, fun _ _ => trivial, trivial⟩ | (intros; first | trivial | assumption | omega))) | ((first | (refine call_t _ (pass_at' (con75 s o hm) (fun l => by simp only [opL, placeL, leArgs, leV, leV1, leSegs, leSeg, leC, and_self]) (fun g => rfl) 0 1 2 3 4 _ _ _ (by simp only [diff, notIn, Nat.beq, and_self]) rfl rfl rfl rfl rfl (alt5 (Nat.le_of_ble_eq_true rfl)) (by simp [keysLt])) ?_; rintro v H' ⟨rfl, rfl⟩) | refine call_q _ (pass_at' (con75 s o hm) (fun l => by simp only [opL, placeL, leArgs, leV, leV1, leSegs, leSeg, leC, and_self]) (fun g => rfl) 0 1 2 3 4 _ _ _ (by simp only [diff, notIn, Nat.beq, and_self]) rfl rfl rfl rfl rfl (alt5 (Nat.le_of_ble_eq_true rfl)) (by simp [keysLt])) ?_ | refine call_g _ (imp_of (pass_at' (con75 s o hm) (fun l => by simp only [opL, placeL, leArgs, leV, leV1, leSegs, leSeg, leC, and_self]) (fun g => rfl) 0 1 2 3 4 _ _ _ (by simp only [diff, notIn, Nat.beq, and_self]) rfl rfl rfl rfl rfl (alt5 (Nat.le_of_ble_eq_true rfl)) (by simp [keysLt]))) ?_); simp (maxSteps := 10000000) only [opL, knB, layS, passB, passL, opsW, atB, placeL, partsOf, fillS, C48r0, C48r1, C48r2, C48r3, C48r4, C48r5, C48r6, C48r7, C48r8, C48r9, C48r10, C48r11, C48r12, C48r13, C48r14, C48r15, C48r16, C48r17, C48r18, C48r19, C48r20, C48r21, C48r22, C48r23, rwp_nil, rwp_cons, rwpK_app, aop, gpath, St.get, slotAt, sfx, eqP, segsOf, St.put, addBlk, getB, setB, delB, ld1, ldn, st1, stn, setRow, rowNeed, segAt, nsub, bin, un, eqB, isShift, sameK, arith, shiftR, getsl, selB_or, selB_and, beqb, shed, addN, Nat.beq, Seg.size, sizes, imp, needP, andN, appL, argsOf, ptrsOf, aasOf, cut, takeS, dropS, putS, partsOf, fillS, fieldOf, nthA, negIf, nilq, nilB, eqS, eqF, eqS1, andP, kin, slcS, strOk, plusA, bndHi, leN, optG, roH, roL, initT, exOk, exAll, wrAddr, Nat.reduceAdd, Nat.reduceSub, Nat.reduceMul, Int.reduceToNat, List.append_nil, List.nil_append, List.cons_append, mapR, mapR1, keyL, keyOk, keyP, colsPut, colsDel, zcols, eqT, idxT, cat, cpy, ite_int, ite_bool, ite_seg, ite_segs, ite_nil, ite_twice, Int.toNat_natCast, app, addBs, tob]))); with_reducible refine hK _ ?_; clear hK K) | (refine run_cond rfl (fun hc => ?_) (fun hc => ?_) <;> try (simp only [*, Bool.true_eq_false, Bool.false_eq_true, Bool.not_true, Bool.not_false, Bool.true_or, Bool.or_true, Bool.false_or, Bool.or_false, Bool.false_and, Bool.and_false, bne_self_eq_false, beq_self_eq_true] at hc; done)) | refine run_block ?_ | refine run_ret ?_ | refine run_nil ?_ | refine blk_normal ?_ | refine blk_ret ?_ | refine blk_here ?_ | refine blk_there rfl ?_)
    exact end_one _ _ hT rfl rfl rfl rfl rfl rfl rfl rfl
theorem con76' (s : PS) (v : Int) (h : 0 ≤ v ∧ v < s.m) : Con Try.prog 76 [me, .c (.int .i64 v)] (passR s) (fun u H' => u = .tup [.c (.int .u64 (s.f v.toNat).imm), .c (.bool (isC s v))] ∧ H' = passR s) := by
  have := con76 s v.toNat (by omega)
  rwa [Int.toNat_of_nonneg h.1] at this
theorem place_no {o : OpS} (h : o.kind ≠ 2 ∧ o.kind ≠ 3 ∧ o.kind ≠ 4 ∧ o.kind ≠ 5 ∧ o.kind ≠ 6 ∧ o.kind ≠ 7) : placeOk o = false := by
  unfold placeOk
  simp only [Bool.or_eq_false_iff, beq_eq_false_iff_ne, ne_eq]
  exact ⟨⟨⟨⟨⟨h.1, h.2.1⟩, h.2.2.1⟩, h.2.2.2.1⟩, h.2.2.2.2.1⟩, h.2.2.2.2.2⟩
set_option maxHeartbeats 4000000 in
theorem con48_alu (s : PS) (o : OpS) (hf : FitP s o) (hk8 : o.kind = 8) : Con Try.prog 48 [me, .agg (opL o)] (passH s) (fun u H' => u = retOne (oneP s o) ∧ H' = oneH (oneP s o)) := by
  have h1 : placeOk o = false := place_no (by rw [hk8]; decide)
  have hT : (if (isC s o.a && isC s o.b) = true then layO s (constO (reckS o.r (s.f o.a.toNat).imm (s.f o.b.toNat).imm).1) else layO s o : One) = oneP s o := by simp only [oneP, h1, hk8, if_true, Bool.false_eq_true, if_false]
  generalize oneP s o = T at hT ⊢
  have hm := hf.m
  have hfa := hf.a (by rw [hk8]; decide)
  have hfb := hf.b (by rw [hk8]; decide)
  (refine con_of_run mixed (fn := Try.f48) (by kernel_rfl) (by kernel_rfl) C48_ok (rs := [.tmp 4, .tmp 5]) (by kernel_rfl) (Nat.le_of_ble_eq_true (by kernel_rfl)) ?_; unfold C48; simp only [initT, Nat.reduceAdd])
  simp only [me, passH, passB, passL, opsB, opsW, knB, atB]
  repeat' (first | refine run_seq ?_ | refine run_skip ?_ | (refine run_region fun K hK => ?_; (try (simp (maxSteps := 10000000) only [Bool.and_self, Bool.true_and, Bool.and_false, opL, h1, placeL, partsOf, fillS, C48r0, C48r1, C48r2, C48r3, C48r4, C48r5, C48r6, C48r7, C48r8, C48r9, C48r10, C48r11, C48r12, C48r13, C48r14, C48r16, C48r18, C48r19, C48r20, C48r21, C48r22, rwp_nil, rwp_cons, rwpK_app, aop, gpath, St.get, slotAt, sfx, eqP, segsOf, St.put, addBlk, getB, setB, delB, ld1, ldn, st1, stn, setRow, rowNeed, segAt, nsub, bin, un, eqB, isShift, sameK, arith, shiftR, getsl, selB_or, selB_and, beqb, shed, addN, Nat.beq, Seg.size, sizes, imp, needP, andN, appL, argsOf, ptrsOf, aasOf, cut, takeS, dropS, putS, partsOf, fillS, fieldOf, nthA, negIf, nilq, nilB, eqS, eqF, eqS1, andP, kin, slcS, strOk, plusA, bndHi, leN, optG, roH, roL, initT, exOk, exAll, wrAddr, Nat.reduceAdd, Nat.reduceSub, Nat.reduceMul, Int.reduceToNat, List.append_nil, List.nil_append, List.cons_append, mapR, mapR1, keyL, keyOk, keyP, colsPut, colsDel, zcols, eqT, idxT, cat, cpy, ite_int, ite_bool, ite_seg, ite_segs, ite_nil, ite_twice, Int.toNat_natCast, app, addBs, tob])); (repeat (first | (refine And.intro ?_ ?_; · (first | trivial | assumption | omega | exact ⟨by omega, by omega, by omega⟩ | exact ⟨trivial, by omega, by omega⟩ | exact ⟨fun _ _ => trivial, fun _ _ => trivial, trivial⟩ | (intros; first | trivial | assumption | omega))) | ((first | (refine call_t _ (con73 o _) ?_; rintro v H' ⟨rfl, rfl⟩) | refine call_q _ (con73 o _) ?_ | refine call_g _ (imp_of (con73 o _)) ?_ | (refine call_t _ (passR_at (con76' s o.a hfa) (fun l => by simp only [leArgs, leV, leV1, leC, and_self]) (fun g => rfl) 0 1 2 3 4 _ _ _ _ (by simp only [diff, notIn, Nat.beq, and_self]) rfl rfl (alt5 (Nat.le_of_ble_eq_true rfl)) (by simp [roL, keysLt])) ?_; rintro v H' ⟨rfl, rfl⟩) | refine call_q _ (passR_at (con76' s o.a hfa) (fun l => by simp only [leArgs, leV, leV1, leC, and_self]) (fun g => rfl) 0 1 2 3 4 _ _ _ _ (by simp only [diff, notIn, Nat.beq, and_self]) rfl rfl (alt5 (Nat.le_of_ble_eq_true rfl)) (by simp [roL, keysLt])) ?_ | refine call_g _ (imp_of (passR_at (con76' s o.a hfa) (fun l => by simp only [leArgs, leV, leV1, leC, and_self]) (fun g => rfl) 0 1 2 3 4 _ _ _ _ (by simp only [diff, notIn, Nat.beq, and_self]) rfl rfl (alt5 (Nat.le_of_ble_eq_true rfl)) (by simp [roL, keysLt]))) ?_ | (refine call_t _ (passR_at (con76' s o.b hfb) (fun l => by simp only [leArgs, leV, leV1, leC, and_self]) (fun g => rfl) 0 1 2 3 4 _ _ _ _ (by simp only [diff, notIn, Nat.beq, and_self]) rfl rfl (alt5 (Nat.le_of_ble_eq_true rfl)) (by simp [roL, keysLt])) ?_; rintro v H' ⟨rfl, rfl⟩) | refine call_q _ (passR_at (con76' s o.b hfb) (fun l => by simp only [leArgs, leV, leV1, leC, and_self]) (fun g => rfl) 0 1 2 3 4 _ _ _ _ (by simp only [diff, notIn, Nat.beq, and_self]) rfl rfl (alt5 (Nat.le_of_ble_eq_true rfl)) (by simp [roL, keysLt])) ?_ | refine call_g _ (imp_of (passR_at (con76' s o.b hfb) (fun l => by simp only [leArgs, leV, leV1, leC, and_self]) (fun g => rfl) 0 1 2 3 4 _ _ _ _ (by simp only [diff, notIn, Nat.beq, and_self]) rfl rfl (alt5 (Nat.le_of_ble_eq_true rfl)) (by simp [roL, keysLt]))) ?_); simp (maxSteps := 10000000) only [Bool.and_self, Bool.true_and, Bool.and_false, opL, h1, placeL, partsOf, fillS, C48r0, C48r1, C48r2, C48r3, C48r4, C48r5, C48r6, C48r7, C48r8, C48r9, C48r10, C48r11, C48r12, C48r13, C48r14, C48r16, C48r18, C48r19, C48r20, C48r21, C48r22, rwp_nil, rwp_cons, rwpK_app, aop, gpath, St.get, slotAt, sfx, eqP, segsOf, St.put, addBlk, getB, setB, delB, ld1, ldn, st1, stn, setRow, rowNeed, segAt, nsub, bin, un, eqB, isShift, sameK, arith, shiftR, getsl, selB_or, selB_and, beqb, shed, addN, Nat.beq, Seg.size, sizes, imp, needP, andN, appL, argsOf, ptrsOf, aasOf, cut, takeS, dropS, putS, partsOf, fillS, fieldOf, nthA, negIf, nilq, nilB, eqS, eqF, eqS1, andP, kin, slcS, strOk, plusA, bndHi, leN, optG, roH, roL, initT, exOk, exAll, wrAddr, Nat.reduceAdd, Nat.reduceSub, Nat.reduceMul, Int.reduceToNat, List.append_nil, List.nil_append, List.cons_append, mapR, mapR1, keyL, keyOk, keyP, colsPut, colsDel, zcols, eqT, idxT, cat, cpy, ite_int, ite_bool, ite_seg, ite_segs, ite_nil, ite_twice, Int.toNat_natCast, app, addBs, tob]))); with_reducible refine hK _ ?_; clear hK K) | (refine run_cond rfl (fun hc => ?_) (fun hc => ?_) <;> try (simp only [*, Bool.true_eq_false, Bool.false_eq_true, Bool.not_true, Bool.not_false, Bool.true_or, Bool.or_true, Bool.false_or, Bool.or_false, Bool.false_and, Bool.and_false, bne_self_eq_false, beq_self_eq_true] at hc; done)) | refine run_block ?_ | refine run_ret ?_ | refine run_nil ?_ | refine blk_normal ?_ | refine blk_ret ?_ | refine blk_here ?_ | refine blk_there rfl ?_)
  · rw [if_pos hc] at hT
    repeat' (first | refine run_seq ?_ | refine run_skip ?_ | (refine run_region fun K hK => ?_; (try (simp (maxSteps := 10000000) only [opL, partsOf, fillS, C48r0, C48r1, C48r2, C48r3, C48r4, C48r5, C48r6, C48r7, C48r8, C48r9, C48r10, C48r11, C48r12, C48r13, C48r14, C48r15, C48r16, C48r17, C48r18, C48r19, C48r20, C48r21, C48r22, C48r23, rwp_nil, rwp_cons, rwpK_app, aop, gpath, St.get, slotAt, sfx, eqP, segsOf, St.put, addBlk, getB, setB, delB, ld1, ldn, st1, stn, setRow, rowNeed, segAt, nsub, bin, un, eqB, isShift, sameK, arith, shiftR, getsl, selB_or, selB_and, beqb, shed, addN, Nat.beq, Seg.size, sizes, imp, needP, andN, appL, argsOf, ptrsOf, aasOf, cut, takeS, dropS, putS, partsOf, fillS, fieldOf, nthA, negIf, nilq, nilB, eqS, eqF, eqS1, andP, kin, slcS, strOk, plusA, bndHi, leN, optG, roH, roL, initT, exOk, exAll, wrAddr, Nat.reduceAdd, Nat.reduceSub, Nat.reduceMul, Int.reduceToNat, List.append_nil, List.nil_append, List.cons_append, mapR, mapR1, keyL, keyOk, keyP, colsPut, colsDel, zcols, eqT, idxT, cat, cpy, ite_int, ite_bool, ite_seg, ite_segs, ite_nil, ite_twice, Int.toNat_natCast, app, addBs, tob])); (repeat (first | (refine And.intro ?_ ?_; · (first | trivial | assumption | omega | exact ⟨by omega, by omega, by omega⟩ | exact ⟨trivial, by omega, by omega⟩ | exact ⟨fun _ _ => trivial, fun _ _ => trivial, trivial⟩ | (intros; first | trivial | assumption | omega))) | ((first | (refine call_t _ (con31 _ _ _ _) ?_; rintro v H' ⟨rfl, rfl⟩) | refine call_q _ (con31 _ _ _ _) ?_ | refine call_g _ (imp_of (con31 _ _ _ _)) ?_ | (refine call_t _ (pass_at' (con75 s (constO (reckS o.r (s.f o.a.toNat).imm (s.f o.b.toNat).imm).1) hm) (fun l => by simp only [opL, placeL, leArgs, leV, leV1, leSegs, leSeg, leC, and_self]) (fun g => rfl) 0 1 2 3 4 _ _ _ (by simp only [diff, notIn, Nat.beq, and_self]) rfl rfl rfl rfl rfl (alt5 (Nat.le_of_ble_eq_true rfl)) (by simp [keysLt])) ?_; rintro v H' ⟨rfl, rfl⟩) | refine call_q _ (pass_at' (con75 s (constO (reckS o.r (s.f o.a.toNat).imm (s.f o.b.toNat).imm).1) hm) (fun l => by simp only [opL, placeL, leArgs, leV, leV1, leSegs, leSeg, leC, and_self]) (fun g => rfl) 0 1 2 3 4 _ _ _ (by simp only [diff, notIn, Nat.beq, and_self]) rfl rfl rfl rfl rfl (alt5 (Nat.le_of_ble_eq_true rfl)) (by simp [keysLt])) ?_ | refine call_g _ (imp_of (pass_at' (con75 s (constO (reckS o.r (s.f o.a.toNat).imm (s.f o.b.toNat).imm).1) hm) (fun l => by simp only [opL, placeL, leArgs, leV, leV1, leSegs, leSeg, leC, and_self]) (fun g => rfl) 0 1 2 3 4 _ _ _ (by simp only [diff, notIn, Nat.beq, and_self]) rfl rfl rfl rfl rfl (alt5 (Nat.le_of_ble_eq_true rfl)) (by simp [keysLt]))) ?_); simp (maxSteps := 10000000) only [opL, partsOf, fillS, C48r0, C48r1, C48r2, C48r3, C48r4, C48r5, C48r6, C48r7, C48r8, C48r9, C48r10, C48r11, C48r12, C48r13, C48r14, C48r15, C48r16, C48r17, C48r18, C48r19, C48r20, C48r21, C48r22, C48r23, rwp_nil, rwp_cons, rwpK_app, aop, gpath, St.get, slotAt, sfx, eqP, segsOf, St.put, addBlk, getB, setB, delB, ld1, ldn, st1, stn, setRow, rowNeed, segAt, nsub, bin, un, eqB, isShift, sameK, arith, shiftR, getsl, selB_or, selB_and, beqb, shed, addN, Nat.beq, Seg.size, sizes, imp, needP, andN, appL, argsOf, ptrsOf, aasOf, cut, takeS, dropS, putS, partsOf, fillS, fieldOf, nthA, negIf, nilq, nilB, eqS, eqF, eqS1, andP, kin, slcS, strOk, plusA, bndHi, leN, optG, roH, roL, initT, exOk, exAll, wrAddr, Nat.reduceAdd, Nat.reduceSub, Nat.reduceMul, Int.reduceToNat, List.append_nil, List.nil_append, List.cons_append, mapR, mapR1, keyL, keyOk, keyP, colsPut, colsDel, zcols, eqT, idxT, cat, cpy, ite_int, ite_bool, ite_seg, ite_segs, ite_nil, ite_twice, Int.toNat_natCast, app, addBs, tob]))); with_reducible refine hK _ ?_; clear hK K) | (refine run_cond rfl (fun hc => ?_) (fun hc => ?_) <;> try (simp only [*, Bool.true_eq_false, Bool.false_eq_true, Bool.not_true, Bool.not_false, Bool.true_or, Bool.or_true, Bool.false_or, Bool.or_false, Bool.false_and, Bool.and_false, bne_self_eq_false, beq_self_eq_true] at hc; done)) | refine run_block ?_ | refine run_ret ?_ | refine run_nil ?_ | refine blk_normal ?_ | refine blk_ret ?_ | refine blk_here ?_ | refine blk_there rfl ?_)
    exact end_one _ _ hT rfl rfl rfl rfl rfl rfl rfl rfl
  · rw [if_neg (by rw [hc]; exact Bool.false_ne_true)] at hT
    repeat' (first | refine run_seq ?_ | refine run_skip ?_ | (refine run_region fun K hK => ?_; (try (simp (maxSteps := 10000000) only [opL, partsOf, fillS, C48r0, C48r1, C48r2, C48r3, C48r4, C48r5, C48r6, C48r7, C48r8, C48r9, C48r10, C48r11, C48r12, C48r13, C48r14, C48r15, C48r16, C48r17, C48r18, C48r19, C48r20, C48r21, C48r22, C48r23, rwp_nil, rwp_cons, rwpK_app, aop, gpath, St.get, slotAt, sfx, eqP, segsOf, St.put, addBlk, getB, setB, delB, ld1, ldn, st1, stn, setRow, rowNeed, segAt, nsub, bin, un, eqB, isShift, sameK, arith, shiftR, getsl, selB_or, selB_and, beqb, shed, addN, Nat.beq, Seg.size, sizes, imp, needP, andN, appL, argsOf, ptrsOf, aasOf, cut, takeS, dropS, putS, partsOf, fillS, fieldOf, nthA, negIf, nilq, nilB, eqS, eqF, eqS1, andP, kin, slcS, strOk, plusA, bndHi, leN, optG, roH, roL, initT, exOk, exAll, wrAddr, Nat.reduceAdd, Nat.reduceSub, Nat.reduceMul, Int.reduceToNat, List.append_nil, List.nil_append, List.cons_append, mapR, mapR1, keyL, keyOk, keyP, colsPut, colsDel, zcols, eqT, idxT, cat, cpy, ite_int, ite_bool, ite_seg, ite_segs, ite_nil, ite_twice, Int.toNat_natCast, app, addBs, tob])); (repeat (first | (refine And.intro ?_ ?_; · (first | trivial | assumption | omega | exact ⟨by omega, by omega, by omega⟩ | exact ⟨trivial, by omega, by omega⟩ | exact ⟨fun _ _ => trivial, fun _ _ => trivial, trivial⟩ | (intros; first | trivial | assumption | omega))) | ((first | (refine call_t _ (pass_at' (con75 s o hm) (fun l => by simp only [opL, placeL, leArgs, leV, leV1, leSegs, leSeg, leC, and_self]) (fun g => rfl) 0 1 2 3 4 _ _ _ (by simp only [diff, notIn, Nat.beq, and_self]) rfl rfl rfl rfl rfl (alt5 (Nat.le_of_ble_eq_true rfl)) (by simp [keysLt])) ?_; rintro v H' ⟨rfl, rfl⟩) | refine call_q _ (pass_at' (con75 s o hm) (fun l => by simp only [opL, placeL, leArgs, leV, leV1, leSegs, leSeg, leC, and_self]) (fun g => rfl) 0 1 2 3 4 _ _ _ (by simp only [diff, notIn, Nat.beq, and_self]) rfl rfl rfl rfl rfl (alt5 (Nat.le_of_ble_eq_true rfl)) (by simp [keysLt])) ?_ | refine call_g _ (imp_of (pass_at' (con75 s o hm) (fun l => by simp only [opL, placeL, leArgs, leV, leV1, leSegs, leSeg, leC, and_self]) (fun g => rfl) 0 1 2 3 4 _ _ _ (by simp only [diff, notIn, Nat.beq, and_self]) rfl rfl rfl rfl rfl (alt5 (Nat.le_of_ble_eq_true rfl)) (by simp [keysLt]))) ?_); simp (maxSteps := 10000000) only [opL, partsOf, fillS, C48r0, C48r1, C48r2, C48r3, C48r4, C48r5, C48r6, C48r7, C48r8, C48r9, C48r10, C48r11, C48r12, C48r13, C48r14, C48r15, C48r16, C48r17, C48r18, C48r19, C48r20, C48r21, C48r22, C48r23, rwp_nil, rwp_cons, rwpK_app, aop, gpath, St.get, slotAt, sfx, eqP, segsOf, St.put, addBlk, getB, setB, delB, ld1, ldn, st1, stn, setRow, rowNeed, segAt, nsub, bin, un, eqB, isShift, sameK, arith, shiftR, getsl, selB_or, selB_and, beqb, shed, addN, Nat.beq, Seg.size, sizes, imp, needP, andN, appL, argsOf, ptrsOf, aasOf, cut, takeS, dropS, putS, partsOf, fillS, fieldOf, nthA, negIf, nilq, nilB, eqS, eqF, eqS1, andP, kin, slcS, strOk, plusA, bndHi, leN, optG, roH, roL, initT, exOk, exAll, wrAddr, Nat.reduceAdd, Nat.reduceSub, Nat.reduceMul, Int.reduceToNat, List.append_nil, List.nil_append, List.cons_append, mapR, mapR1, keyL, keyOk, keyP, colsPut, colsDel, zcols, eqT, idxT, cat, cpy, ite_int, ite_bool, ite_seg, ite_segs, ite_nil, ite_twice, Int.toNat_natCast, app, addBs, tob]))); with_reducible refine hK _ ?_; clear hK K) | (refine run_cond rfl (fun hc => ?_) (fun hc => ?_) <;> try (simp only [*, Bool.true_eq_false, Bool.false_eq_true, Bool.not_true, Bool.not_false, Bool.true_or, Bool.or_true, Bool.false_or, Bool.or_false, Bool.false_and, Bool.and_false, bne_self_eq_false, beq_self_eq_true] at hc; done)) | refine run_block ?_ | refine run_ret ?_ | refine run_nil ?_ | refine blk_normal ?_ | refine blk_ret ?_ | refine blk_here ?_ | refine blk_there rfl ?_)
    exact end_one _ _ hT rfl rfl rfl rfl rfl rfl rfl rfl
  all_goals (exfalso; rw [hk8] at hc; exact absurd hc (by decide))
set_option maxHeartbeats 4000000 in
theorem con48_exit (s : PS) (o : OpS) (hf : FitP s o) (hk8 : o.kind = 15) : Con Try.prog 48 [me, .agg (opL o)] (passH s) (fun u H' => u = retOne (oneP s o) ∧ H' = oneH (oneP s o)) := by
  have h1 : placeOk o = false := place_no (by rw [hk8]; decide)
  have hT : (if isC s o.a = true then (if (s.f o.a.toNat).imm = 0 then ⟨s, -1, false, false⟩ else ⟨layS s (exitO o.imm), s.m, true, true⟩) else layO s o : One) = oneP s o := by simp only [oneP, h1, hk8, if_true, Bool.false_eq_true, if_false, Int.reduceEq]
  generalize oneP s o = T at hT ⊢
  have hm := hf.m
  have hfa := hf.a (by rw [hk8]; decide)
  (refine con_of_run mixed (fn := Try.f48) (by kernel_rfl) (by kernel_rfl) C48_ok (rs := [.tmp 4, .tmp 5]) (by kernel_rfl) (Nat.le_of_ble_eq_true (by kernel_rfl)) ?_; unfold C48; simp only [initT, Nat.reduceAdd])
  simp only [me, passH, passB, passL, opsB, opsW, knB, atB]
  repeat' (first | refine run_seq ?_ | refine run_skip ?_ | (refine run_region fun K hK => ?_; (try (simp (maxSteps := 10000000) only [Bool.and_self, Bool.true_and, Bool.and_false, opL, h1, placeL, partsOf, fillS, C48r0, C48r1, C48r2, C48r3, C48r4, C48r5, C48r6, C48r7, C48r8, C48r9, C48r10, C48r11, C48r13, C48r14, C48r15, C48r16, C48r17, C48r18, C48r19, C48r21, C48r22, rwp_nil, rwp_cons, rwpK_app, aop, gpath, St.get, slotAt, sfx, eqP, segsOf, St.put, addBlk, getB, setB, delB, ld1, ldn, st1, stn, setRow, rowNeed, segAt, nsub, bin, un, eqB, isShift, sameK, arith, shiftR, getsl, selB_or, selB_and, beqb, shed, addN, Nat.beq, Seg.size, sizes, imp, needP, andN, appL, argsOf, ptrsOf, aasOf, cut, takeS, dropS, putS, partsOf, fillS, fieldOf, nthA, negIf, nilq, nilB, eqS, eqF, eqS1, andP, kin, slcS, strOk, plusA, bndHi, leN, optG, roH, roL, initT, exOk, exAll, wrAddr, Nat.reduceAdd, Nat.reduceSub, Nat.reduceMul, Int.reduceToNat, List.append_nil, List.nil_append, List.cons_append, mapR, mapR1, keyL, keyOk, keyP, colsPut, colsDel, zcols, eqT, idxT, cat, cpy, ite_int, ite_bool, ite_seg, ite_segs, ite_nil, ite_twice, Int.toNat_natCast, app, addBs, tob])); (repeat (first | (refine And.intro ?_ ?_; · (first | trivial | assumption | omega | exact ⟨by omega, by omega, by omega⟩ | exact ⟨trivial, by omega, by omega⟩ | exact ⟨fun _ _ => trivial, fun _ _ => trivial, trivial⟩ | (intros; first | trivial | assumption | omega))) | ((first | (refine call_t _ (con73 o _) ?_; rintro v H' ⟨rfl, rfl⟩) | refine call_q _ (con73 o _) ?_ | refine call_g _ (imp_of (con73 o _)) ?_ | (refine call_t _ (passR_at (con76' s o.a hfa) (fun l => by simp only [leArgs, leV, leV1, leC, and_self]) (fun g => rfl) 0 1 2 3 4 _ _ _ _ (by simp only [diff, notIn, Nat.beq, and_self]) rfl rfl (alt5 (Nat.le_of_ble_eq_true rfl)) (by simp [roL, keysLt])) ?_; rintro v H' ⟨rfl, rfl⟩) | refine call_q _ (passR_at (con76' s o.a hfa) (fun l => by simp only [leArgs, leV, leV1, leC, and_self]) (fun g => rfl) 0 1 2 3 4 _ _ _ _ (by simp only [diff, notIn, Nat.beq, and_self]) rfl rfl (alt5 (Nat.le_of_ble_eq_true rfl)) (by simp [roL, keysLt])) ?_ | refine call_g _ (imp_of (passR_at (con76' s o.a hfa) (fun l => by simp only [leArgs, leV, leV1, leC, and_self]) (fun g => rfl) 0 1 2 3 4 _ _ _ _ (by simp only [diff, notIn, Nat.beq, and_self]) rfl rfl (alt5 (Nat.le_of_ble_eq_true rfl)) (by simp [roL, keysLt]))) ?_); simp (maxSteps := 10000000) only [Bool.and_self, Bool.true_and, Bool.and_false, opL, h1, placeL, partsOf, fillS, C48r0, C48r1, C48r2, C48r3, C48r4, C48r5, C48r6, C48r7, C48r8, C48r9, C48r10, C48r11, C48r13, C48r14, C48r15, C48r16, C48r17, C48r18, C48r19, C48r21, C48r22, rwp_nil, rwp_cons, rwpK_app, aop, gpath, St.get, slotAt, sfx, eqP, segsOf, St.put, addBlk, getB, setB, delB, ld1, ldn, st1, stn, setRow, rowNeed, segAt, nsub, bin, un, eqB, isShift, sameK, arith, shiftR, getsl, selB_or, selB_and, beqb, shed, addN, Nat.beq, Seg.size, sizes, imp, needP, andN, appL, argsOf, ptrsOf, aasOf, cut, takeS, dropS, putS, partsOf, fillS, fieldOf, nthA, negIf, nilq, nilB, eqS, eqF, eqS1, andP, kin, slcS, strOk, plusA, bndHi, leN, optG, roH, roL, initT, exOk, exAll, wrAddr, Nat.reduceAdd, Nat.reduceSub, Nat.reduceMul, Int.reduceToNat, List.append_nil, List.nil_append, List.cons_append, mapR, mapR1, keyL, keyOk, keyP, colsPut, colsDel, zcols, eqT, idxT, cat, cpy, ite_int, ite_bool, ite_seg, ite_segs, ite_nil, ite_twice, Int.toNat_natCast, app, addBs, tob]))); with_reducible refine hK _ ?_; clear hK K) | (refine run_cond rfl (fun hc => ?_) (fun hc => ?_) <;> try (simp only [*, Bool.true_eq_false, Bool.false_eq_true, Bool.not_true, Bool.not_false, Bool.true_or, Bool.or_true, Bool.false_or, Bool.or_false, Bool.false_and, Bool.and_false, bne_self_eq_false, beq_self_eq_true] at hc; done)) | refine run_block ?_ | refine run_ret ?_ | refine run_nil ?_ | refine blk_normal ?_ | refine blk_ret ?_ | refine blk_here ?_ | refine blk_there rfl ?_)
  · exfalso; rw [hk8] at hc; exact absurd hc (by decide)
  · rw [if_pos hc] at hT
    repeat' (first | refine run_seq ?_ | refine run_skip ?_ | (refine run_region fun K hK => ?_; (try (simp (maxSteps := 10000000) only [opL, partsOf, fillS, C48r0, C48r1, C48r2, C48r3, C48r4, C48r5, C48r6, C48r7, C48r8, C48r9, C48r10, C48r11, C48r12, C48r13, C48r14, C48r15, C48r16, C48r17, C48r18, C48r19, C48r20, C48r21, C48r23, rwp_nil, rwp_cons, rwpK_app, aop, gpath, St.get, slotAt, sfx, eqP, segsOf, St.put, addBlk, getB, setB, delB, ld1, ldn, st1, stn, setRow, rowNeed, segAt, nsub, bin, un, eqB, isShift, sameK, arith, shiftR, getsl, selB_or, selB_and, beqb, shed, addN, Nat.beq, Seg.size, sizes, imp, needP, andN, appL, argsOf, ptrsOf, aasOf, cut, takeS, dropS, putS, partsOf, fillS, fieldOf, nthA, negIf, nilq, nilB, eqS, eqF, eqS1, andP, kin, slcS, strOk, plusA, bndHi, leN, optG, roH, roL, initT, exOk, exAll, wrAddr, Nat.reduceAdd, Nat.reduceSub, Nat.reduceMul, Int.reduceToNat, List.append_nil, List.nil_append, List.cons_append, mapR, mapR1, keyL, keyOk, keyP, colsPut, colsDel, zcols, eqT, idxT, cat, cpy, ite_int, ite_bool, ite_seg, ite_segs, ite_nil, ite_twice, Int.toNat_natCast, app, addBs, tob])); (repeat (first | (refine And.intro ?_ ?_; · (first | trivial | assumption | omega | exact ⟨by omega, by omega, by omega⟩ | exact ⟨trivial, by omega, by omega⟩ | exact ⟨fun _ _ => trivial, fun _ _ => trivial, trivial⟩ | (intros; first | trivial | assumption | omega))))); with_reducible refine hK _ ?_; clear hK K) | (refine run_cond rfl (fun hc => ?_) (fun hc => ?_) <;> try (simp only [*, Bool.true_eq_false, Bool.false_eq_true, Bool.not_true, Bool.not_false, Bool.true_or, Bool.or_true, Bool.false_or, Bool.or_false, Bool.false_and, Bool.and_false, bne_self_eq_false, beq_self_eq_true] at hc; done)) | refine run_block ?_ | refine run_ret ?_ | refine run_nil ?_ | refine blk_normal ?_ | refine blk_ret ?_ | refine blk_here ?_ | refine blk_there rfl ?_)
    · rw [if_pos (by simpa using hc)] at hT
      exact end_one0 _ _ hT rfl rfl rfl rfl rfl rfl rfl rfl
    · rw [if_neg (by simpa using hc)] at hT
      repeat' (first | refine run_seq ?_ | refine run_skip ?_ | (refine run_region fun K hK => ?_; (try (simp (maxSteps := 10000000) only [opL, partsOf, fillS, C48r0, C48r1, C48r2, C48r3, C48r4, C48r5, C48r6, C48r7, C48r8, C48r9, C48r10, C48r11, C48r12, C48r13, C48r14, C48r15, C48r16, C48r17, C48r18, C48r19, C48r20, C48r21, C48r22, C48r23, rwp_nil, rwp_cons, rwpK_app, aop, gpath, St.get, slotAt, sfx, eqP, segsOf, St.put, addBlk, getB, setB, delB, ld1, ldn, st1, stn, setRow, rowNeed, segAt, nsub, bin, un, eqB, isShift, sameK, arith, shiftR, getsl, selB_or, selB_and, beqb, shed, addN, Nat.beq, Seg.size, sizes, imp, needP, andN, appL, argsOf, ptrsOf, aasOf, cut, takeS, dropS, putS, partsOf, fillS, fieldOf, nthA, negIf, nilq, nilB, eqS, eqF, eqS1, andP, kin, slcS, strOk, plusA, bndHi, leN, optG, roH, roL, initT, exOk, exAll, wrAddr, Nat.reduceAdd, Nat.reduceSub, Nat.reduceMul, Int.reduceToNat, List.append_nil, List.nil_append, List.cons_append, mapR, mapR1, keyL, keyOk, keyP, colsPut, colsDel, zcols, eqT, idxT, cat, cpy, ite_int, ite_bool, ite_seg, ite_segs, ite_nil, ite_twice, Int.toNat_natCast, app, addBs, tob])); (repeat (first | (refine And.intro ?_ ?_; · (first | trivial | assumption | omega | exact ⟨by omega, by omega, by omega⟩ | exact ⟨trivial, by omega, by omega⟩ | exact ⟨fun _ _ => trivial, fun _ _ => trivial, trivial⟩ | (intros; first | trivial | assumption | omega))) | ((first | (refine call_t _ (pass_at' (con75 s (exitO o.imm) hm) (fun l => by simp only [opL, placeL, leArgs, leV, leV1, leSegs, leSeg, leC, and_self]) (fun g => rfl) 0 1 2 3 4 _ _ _ (by simp only [diff, notIn, Nat.beq, and_self]) rfl rfl rfl rfl rfl (alt5 (Nat.le_of_ble_eq_true rfl)) (by simp [keysLt])) ?_; rintro v H' ⟨rfl, rfl⟩) | refine call_q _ (pass_at' (con75 s (exitO o.imm) hm) (fun l => by simp only [opL, placeL, leArgs, leV, leV1, leSegs, leSeg, leC, and_self]) (fun g => rfl) 0 1 2 3 4 _ _ _ (by simp only [diff, notIn, Nat.beq, and_self]) rfl rfl rfl rfl rfl (alt5 (Nat.le_of_ble_eq_true rfl)) (by simp [keysLt])) ?_ | refine call_g _ (imp_of (pass_at' (con75 s (exitO o.imm) hm) (fun l => by simp only [opL, placeL, leArgs, leV, leV1, leSegs, leSeg, leC, and_self]) (fun g => rfl) 0 1 2 3 4 _ _ _ (by simp only [diff, notIn, Nat.beq, and_self]) rfl rfl rfl rfl rfl (alt5 (Nat.le_of_ble_eq_true rfl)) (by simp [keysLt]))) ?_); simp (maxSteps := 10000000) only [opL, partsOf, fillS, C48r0, C48r1, C48r2, C48r3, C48r4, C48r5, C48r6, C48r7, C48r8, C48r9, C48r10, C48r11, C48r12, C48r13, C48r14, C48r15, C48r16, C48r17, C48r18, C48r19, C48r20, C48r21, C48r22, C48r23, rwp_nil, rwp_cons, rwpK_app, aop, gpath, St.get, slotAt, sfx, eqP, segsOf, St.put, addBlk, getB, setB, delB, ld1, ldn, st1, stn, setRow, rowNeed, segAt, nsub, bin, un, eqB, isShift, sameK, arith, shiftR, getsl, selB_or, selB_and, beqb, shed, addN, Nat.beq, Seg.size, sizes, imp, needP, andN, appL, argsOf, ptrsOf, aasOf, cut, takeS, dropS, putS, partsOf, fillS, fieldOf, nthA, negIf, nilq, nilB, eqS, eqF, eqS1, andP, kin, slcS, strOk, plusA, bndHi, leN, optG, roH, roL, initT, exOk, exAll, wrAddr, Nat.reduceAdd, Nat.reduceSub, Nat.reduceMul, Int.reduceToNat, List.append_nil, List.nil_append, List.cons_append, mapR, mapR1, keyL, keyOk, keyP, colsPut, colsDel, zcols, eqT, idxT, cat, cpy, ite_int, ite_bool, ite_seg, ite_segs, ite_nil, ite_twice, Int.toNat_natCast, app, addBs, tob]))); with_reducible refine hK _ ?_; clear hK K) | (refine run_cond rfl (fun hc => ?_) (fun hc => ?_) <;> try (simp only [*, Bool.true_eq_false, Bool.false_eq_true, Bool.not_true, Bool.not_false, Bool.true_or, Bool.or_true, Bool.false_or, Bool.or_false, Bool.false_and, Bool.and_false, bne_self_eq_false, beq_self_eq_true] at hc; done)) | refine run_block ?_ | refine run_ret ?_ | refine run_nil ?_ | refine blk_normal ?_ | refine blk_ret ?_ | refine blk_here ?_ | refine blk_there rfl ?_)
      exact end_one _ _ hT rfl rfl rfl rfl rfl rfl rfl rfl
  · rw [if_neg (by rw [hc]; exact Bool.false_ne_true)] at hT
    repeat' (first | refine run_seq ?_ | refine run_skip ?_ | (refine run_region fun K hK => ?_; (try (simp (maxSteps := 10000000) only [opL, partsOf, fillS, C48r0, C48r1, C48r2, C48r3, C48r4, C48r5, C48r6, C48r7, C48r8, C48r9, C48r10, C48r11, C48r12, C48r13, C48r14, C48r15, C48r16, C48r17, C48r18, C48r19, C48r20, C48r21, C48r22, C48r23, rwp_nil, rwp_cons, rwpK_app, aop, gpath, St.get, slotAt, sfx, eqP, segsOf, St.put, addBlk, getB, setB, delB, ld1, ldn, st1, stn, setRow, rowNeed, segAt, nsub, bin, un, eqB, isShift, sameK, arith, shiftR, getsl, selB_or, selB_and, beqb, shed, addN, Nat.beq, Seg.size, sizes, imp, needP, andN, appL, argsOf, ptrsOf, aasOf, cut, takeS, dropS, putS, partsOf, fillS, fieldOf, nthA, negIf, nilq, nilB, eqS, eqF, eqS1, andP, kin, slcS, strOk, plusA, bndHi, leN, optG, roH, roL, initT, exOk, exAll, wrAddr, Nat.reduceAdd, Nat.reduceSub, Nat.reduceMul, Int.reduceToNat, List.append_nil, List.nil_append, List.cons_append, mapR, mapR1, keyL, keyOk, keyP, colsPut, colsDel, zcols, eqT, idxT, cat, cpy, ite_int, ite_bool, ite_seg, ite_segs, ite_nil, ite_twice, Int.toNat_natCast, app, addBs, tob])); (repeat (first | (refine And.intro ?_ ?_; · (first | trivial | assumption | omega | exact ⟨by omega, by omega, by omega⟩ | exact ⟨trivial, by omega, by omega⟩ | exact ⟨fun _ _ => trivial, fun _ _ => trivial, trivial⟩ | (intros; first | trivial | assumption | omega))) | ((first | (refine call_t _ (pass_at' (con75 s o hm) (fun l => by simp only [opL, placeL, leArgs, leV, leV1, leSegs, leSeg, leC, and_self]) (fun g => rfl) 0 1 2 3 4 _ _ _ (by simp only [diff, notIn, Nat.beq, and_self]) rfl rfl rfl rfl rfl (alt5 (Nat.le_of_ble_eq_true rfl)) (by simp [keysLt])) ?_; rintro v H' ⟨rfl, rfl⟩) | refine call_q _ (pass_at' (con75 s o hm) (fun l => by simp only [opL, placeL, leArgs, leV, leV1, leSegs, leSeg, leC, and_self]) (fun g => rfl) 0 1 2 3 4 _ _ _ (by simp only [diff, notIn, Nat.beq, and_self]) rfl rfl rfl rfl rfl (alt5 (Nat.le_of_ble_eq_true rfl)) (by simp [keysLt])) ?_ | refine call_g _ (imp_of (pass_at' (con75 s o hm) (fun l => by simp only [opL, placeL, leArgs, leV, leV1, leSegs, leSeg, leC, and_self]) (fun g => rfl) 0 1 2 3 4 _ _ _ (by simp only [diff, notIn, Nat.beq, and_self]) rfl rfl rfl rfl rfl (alt5 (Nat.le_of_ble_eq_true rfl)) (by simp [keysLt]))) ?_); simp (maxSteps := 10000000) only [opL, partsOf, fillS, C48r0, C48r1, C48r2, C48r3, C48r4, C48r5, C48r6, C48r7, C48r8, C48r9, C48r10, C48r11, C48r12, C48r13, C48r14, C48r15, C48r16, C48r17, C48r18, C48r19, C48r20, C48r21, C48r22, C48r23, rwp_nil, rwp_cons, rwpK_app, aop, gpath, St.get, slotAt, sfx, eqP, segsOf, St.put, addBlk, getB, setB, delB, ld1, ldn, st1, stn, setRow, rowNeed, segAt, nsub, bin, un, eqB, isShift, sameK, arith, shiftR, getsl, selB_or, selB_and, beqb, shed, addN, Nat.beq, Seg.size, sizes, imp, needP, andN, appL, argsOf, ptrsOf, aasOf, cut, takeS, dropS, putS, partsOf, fillS, fieldOf, nthA, negIf, nilq, nilB, eqS, eqF, eqS1, andP, kin, slcS, strOk, plusA, bndHi, leN, optG, roH, roL, initT, exOk, exAll, wrAddr, Nat.reduceAdd, Nat.reduceSub, Nat.reduceMul, Int.reduceToNat, List.append_nil, List.nil_append, List.cons_append, mapR, mapR1, keyL, keyOk, keyP, colsPut, colsDel, zcols, eqT, idxT, cat, cpy, ite_int, ite_bool, ite_seg, ite_segs, ite_nil, ite_twice, Int.toNat_natCast, app, addBs, tob]))); with_reducible refine hK _ ?_; clear hK K) | (refine run_cond rfl (fun hc => ?_) (fun hc => ?_) <;> try (simp only [*, Bool.true_eq_false, Bool.false_eq_true, Bool.not_true, Bool.not_false, Bool.true_or, Bool.or_true, Bool.false_or, Bool.or_false, Bool.false_and, Bool.and_false, bne_self_eq_false, beq_self_eq_true] at hc; done)) | refine run_block ?_ | refine run_ret ?_ | refine run_nil ?_ | refine blk_normal ?_ | refine blk_ret ?_ | refine blk_here ?_ | refine blk_there rfl ?_)
    exact end_one _ _ hT rfl rfl rfl rfl rfl rfl rfl rfl
set_option maxHeartbeats 4000000 in
theorem con48_else (s : PS) (o : OpS) (hf : FitP s o) (h1 : placeOk o = false) (h8 : ¬ o.kind = 8) (h15 : ¬ o.kind = 15) : Con Try.prog 48 [me, .agg (opL o)] (passH s) (fun u H' => u = retOne (oneP s o) ∧ H' = oneH (oneP s o)) := by
  have hT : layO s o = oneP s o := by simp only [oneP, h1, h8, h15, Bool.false_eq_true, if_false]
  generalize oneP s o = T at hT ⊢
  have hm := hf.m
  (refine con_of_run mixed (fn := Try.f48) (by kernel_rfl) (by kernel_rfl) C48_ok (rs := [.tmp 4, .tmp 5]) (by kernel_rfl) (Nat.le_of_ble_eq_true (by kernel_rfl)) ?_; unfold C48; simp only [initT, Nat.reduceAdd])
  simp only [me, passH, passB, passL, opsB, opsW, knB, atB]
  repeat' (first | refine run_seq ?_ | refine run_skip ?_ | (refine run_region fun K hK => ?_; (try (simp (maxSteps := 10000000) only [Bool.and_self, Bool.true_and, Bool.and_false, opL, h1, placeL, partsOf, fillS, C48r0, C48r1, C48r2, C48r3, C48r4, C48r5, C48r6, C48r7, C48r8, C48r9, C48r10, C48r11, C48r13, C48r14, C48r15, C48r16, C48r17, C48r19, C48r20, C48r21, C48r22, rwp_nil, rwp_cons, rwpK_app, aop, gpath, St.get, slotAt, sfx, eqP, segsOf, St.put, addBlk, getB, setB, delB, ld1, ldn, st1, stn, setRow, rowNeed, segAt, nsub, bin, un, eqB, isShift, sameK, arith, shiftR, getsl, selB_or, selB_and, beqb, shed, addN, Nat.beq, Seg.size, sizes, imp, needP, andN, appL, argsOf, ptrsOf, aasOf, cut, takeS, dropS, putS, partsOf, fillS, fieldOf, nthA, negIf, nilq, nilB, eqS, eqF, eqS1, andP, kin, slcS, strOk, plusA, bndHi, leN, optG, roH, roL, initT, exOk, exAll, wrAddr, Nat.reduceAdd, Nat.reduceSub, Nat.reduceMul, Int.reduceToNat, List.append_nil, List.nil_append, List.cons_append, mapR, mapR1, keyL, keyOk, keyP, colsPut, colsDel, zcols, eqT, idxT, cat, cpy, ite_int, ite_bool, ite_seg, ite_segs, ite_nil, ite_twice, Int.toNat_natCast, app, addBs, tob])); (repeat (first | (refine And.intro ?_ ?_; · (first | trivial | assumption | omega | exact ⟨by omega, by omega, by omega⟩ | exact ⟨trivial, by omega, by omega⟩ | exact ⟨fun _ _ => trivial, fun _ _ => trivial, trivial⟩ | (intros; first | trivial | assumption | omega))) | ((first | (refine call_t _ (con73 o _) ?_; rintro v H' ⟨rfl, rfl⟩) | refine call_q _ (con73 o _) ?_ | refine call_g _ (imp_of (con73 o _)) ?_); simp (maxSteps := 10000000) only [Bool.and_self, Bool.true_and, Bool.and_false, opL, h1, placeL, partsOf, fillS, C48r0, C48r1, C48r2, C48r3, C48r4, C48r5, C48r6, C48r7, C48r8, C48r9, C48r10, C48r11, C48r13, C48r14, C48r15, C48r16, C48r17, C48r19, C48r20, C48r21, C48r22, rwp_nil, rwp_cons, rwpK_app, aop, gpath, St.get, slotAt, sfx, eqP, segsOf, St.put, addBlk, getB, setB, delB, ld1, ldn, st1, stn, setRow, rowNeed, segAt, nsub, bin, un, eqB, isShift, sameK, arith, shiftR, getsl, selB_or, selB_and, beqb, shed, addN, Nat.beq, Seg.size, sizes, imp, needP, andN, appL, argsOf, ptrsOf, aasOf, cut, takeS, dropS, putS, partsOf, fillS, fieldOf, nthA, negIf, nilq, nilB, eqS, eqF, eqS1, andP, kin, slcS, strOk, plusA, bndHi, leN, optG, roH, roL, initT, exOk, exAll, wrAddr, Nat.reduceAdd, Nat.reduceSub, Nat.reduceMul, Int.reduceToNat, List.append_nil, List.nil_append, List.cons_append, mapR, mapR1, keyL, keyOk, keyP, colsPut, colsDel, zcols, eqT, idxT, cat, cpy, ite_int, ite_bool, ite_seg, ite_segs, ite_nil, ite_twice, Int.toNat_natCast, app, addBs, tob]))); with_reducible refine hK _ ?_; clear hK K) | (refine run_cond rfl (fun hc => ?_) (fun hc => ?_) <;> try (simp only [*, Bool.true_eq_false, Bool.false_eq_true, Bool.not_true, Bool.not_false, Bool.true_or, Bool.or_true, Bool.false_or, Bool.or_false, Bool.false_and, Bool.and_false, bne_self_eq_false, beq_self_eq_true] at hc; done)) | refine run_block ?_ | refine run_ret ?_ | refine run_nil ?_ | refine blk_normal ?_ | refine blk_ret ?_ | refine blk_here ?_ | refine blk_there rfl ?_)
  · exfalso; exact h8 (by simpa using hc)
  · exfalso; exact h15 (by simpa using hc)
  · repeat' (first | refine run_seq ?_ | refine run_skip ?_ | (refine run_region fun K hK => ?_; (try (simp (maxSteps := 10000000) only [opL, partsOf, fillS, C48r0, C48r1, C48r2, C48r3, C48r4, C48r5, C48r6, C48r7, C48r8, C48r9, C48r10, C48r11, C48r12, C48r13, C48r14, C48r15, C48r16, C48r17, C48r18, C48r19, C48r20, C48r21, C48r22, C48r23, rwp_nil, rwp_cons, rwpK_app, aop, gpath, St.get, slotAt, sfx, eqP, segsOf, St.put, addBlk, getB, setB, delB, ld1, ldn, st1, stn, setRow, rowNeed, segAt, nsub, bin, un, eqB, isShift, sameK, arith, shiftR, getsl, selB_or, selB_and, beqb, shed, addN, Nat.beq, Seg.size, sizes, imp, needP, andN, appL, argsOf, ptrsOf, aasOf, cut, takeS, dropS, putS, partsOf, fillS, fieldOf, nthA, negIf, nilq, nilB, eqS, eqF, eqS1, andP, kin, slcS, strOk, plusA, bndHi, leN, optG, roH, roL, initT, exOk, exAll, wrAddr, Nat.reduceAdd, Nat.reduceSub, Nat.reduceMul, Int.reduceToNat, List.append_nil, List.nil_append, List.cons_append, mapR, mapR1, keyL, keyOk, keyP, colsPut, colsDel, zcols, eqT, idxT, cat, cpy, ite_int, ite_bool, ite_seg, ite_segs, ite_nil, ite_twice, Int.toNat_natCast, app, addBs, tob])); (repeat (first | (refine And.intro ?_ ?_; · (first | trivial | assumption | omega | exact ⟨by omega, by omega, by omega⟩ | exact ⟨trivial, by omega, by omega⟩ | exact ⟨fun _ _ => trivial, fun _ _ => trivial, trivial⟩ | (intros; first | trivial | assumption | omega))) | ((first | (refine call_t _ (pass_at' (con75 s o hm) (fun l => by simp only [opL, placeL, leArgs, leV, leV1, leSegs, leSeg, leC, and_self]) (fun g => rfl) 0 1 2 3 4 _ _ _ (by simp only [diff, notIn, Nat.beq, and_self]) rfl rfl rfl rfl rfl (alt5 (Nat.le_of_ble_eq_true rfl)) (by simp [keysLt])) ?_; rintro v H' ⟨rfl, rfl⟩) | refine call_q _ (pass_at' (con75 s o hm) (fun l => by simp only [opL, placeL, leArgs, leV, leV1, leSegs, leSeg, leC, and_self]) (fun g => rfl) 0 1 2 3 4 _ _ _ (by simp only [diff, notIn, Nat.beq, and_self]) rfl rfl rfl rfl rfl (alt5 (Nat.le_of_ble_eq_true rfl)) (by simp [keysLt])) ?_ | refine call_g _ (imp_of (pass_at' (con75 s o hm) (fun l => by simp only [opL, placeL, leArgs, leV, leV1, leSegs, leSeg, leC, and_self]) (fun g => rfl) 0 1 2 3 4 _ _ _ (by simp only [diff, notIn, Nat.beq, and_self]) rfl rfl rfl rfl rfl (alt5 (Nat.le_of_ble_eq_true rfl)) (by simp [keysLt]))) ?_); simp (maxSteps := 10000000) only [opL, partsOf, fillS, C48r0, C48r1, C48r2, C48r3, C48r4, C48r5, C48r6, C48r7, C48r8, C48r9, C48r10, C48r11, C48r12, C48r13, C48r14, C48r15, C48r16, C48r17, C48r18, C48r19, C48r20, C48r21, C48r22, C48r23, rwp_nil, rwp_cons, rwpK_app, aop, gpath, St.get, slotAt, sfx, eqP, segsOf, St.put, addBlk, getB, setB, delB, ld1, ldn, st1, stn, setRow, rowNeed, segAt, nsub, bin, un, eqB, isShift, sameK, arith, shiftR, getsl, selB_or, selB_and, beqb, shed, addN, Nat.beq, Seg.size, sizes, imp, needP, andN, appL, argsOf, ptrsOf, aasOf, cut, takeS, dropS, putS, partsOf, fillS, fieldOf, nthA, negIf, nilq, nilB, eqS, eqF, eqS1, andP, kin, slcS, strOk, plusA, bndHi, leN, optG, roH, roL, initT, exOk, exAll, wrAddr, Nat.reduceAdd, Nat.reduceSub, Nat.reduceMul, Int.reduceToNat, List.append_nil, List.nil_append, List.cons_append, mapR, mapR1, keyL, keyOk, keyP, colsPut, colsDel, zcols, eqT, idxT, cat, cpy, ite_int, ite_bool, ite_seg, ite_segs, ite_nil, ite_twice, Int.toNat_natCast, app, addBs, tob]))); with_reducible refine hK _ ?_; clear hK K) | (refine run_cond rfl (fun hc => ?_) (fun hc => ?_) <;> try (simp only [*, Bool.true_eq_false, Bool.false_eq_true, Bool.not_true, Bool.not_false, Bool.true_or, Bool.or_true, Bool.false_or, Bool.or_false, Bool.false_and, Bool.and_false, bne_self_eq_false, beq_self_eq_true] at hc; done)) | refine run_block ?_ | refine run_ret ?_ | refine run_nil ?_ | refine blk_normal ?_ | refine blk_ret ?_ | refine blk_here ?_ | refine blk_there rfl ?_)
    exact end_one _ _ hT rfl rfl rfl rfl rfl rfl rfl rfl
theorem con48 (s : PS) (o : OpS) (hf : FitP s o) : Con Try.prog 48 [me, .agg (opL o)] (passH s) (fun u H' => u = retOne (oneP s o) ∧ H' = oneH (oneP s o)) := by
  cases h1 : placeOk o with
  | true =>
    cases h2 : placeSet o with
    | true => exact con48_set s o hf h1 h2
    | false => exact con48_get s o hf h1 h2
  | false =>
    by_cases h8 : o.kind = 8
    · exact con48_alu s o hf h8
    by_cases h15 : o.kind = 15
    · exact con48_exit s o hf h15
    exact con48_else s o hf h1 h8 h15
end Go.Proofs.Ytmbnakinhnkabaa

namespace Go.Proofs.Ytmbnakinhnkabaa
open Go.AM
set_option maxRecDepth 100000
set_option linter.unusedSimpArgs false
set_option linter.unusedVariables false
def reO (s : PS) (o : OpS) : OpS := { o with a := if 0 < usesS o.kind then s.a o.a.toNat else o.a, b := if 1 < usesS o.kind then s.a o.b.toNat else o.b }
def atPush (s : PS) (v : Int) : PS := { s with na := s.na + 1, a := fun i => if i < s.na then s.a i else v }
def nextP (s : PS) : One := oneP s (reO s (s.b.f s.na))
def afterP (s : PS) : PS := atPush (nextP s).s (nextP s).v
def stepN : Nat → PS → PS
  | 0, s => s
  | t + 1, s => if s.na < s.b.n then (if (nextP s).e = true then afterP s else stepN t (afterP s)) else s
def ps0 (b : BlkS) : PS := ⟨b, 0, fun _ => constO 0, 0, fun _ => 0, 0, fun _ => 0, fun _ => 0, fun _ => 0⟩
def stepS (b : BlkS) : PS := stepN b.n (ps0 b)
def foldB (b : BlkS) : BlkS := { b with n := (stepS b).m, f := (stepS b).f }
structure PsOk (s : PS) : Prop where
  r : rightS s.b = true
  na : s.na ≤ s.b.n
  m : s.m ≤ s.na
  at_ : ∀ j, j < s.na → defS (s.b.f j).kind = true → 0 ≤ s.a j ∧ s.a j < s.m
  kn : ∀ j, j < s.kn → 0 ≤ s.kv j ∧ s.kv j < s.m
theorem ps0_ok {b : BlkS} (hr : rightS b = true) : PsOk (ps0 b) := ⟨hr, Nat.zero_le _, Nat.le_refl _, fun j h => absurd h (Nat.not_lt_zero j), fun j h => absurd h (Nat.not_lt_zero j)⟩
theorem reO_kind (s : PS) (o : OpS) : (reO s o).kind = o.kind := rfl
theorem PsOk.fit {s : PS} (h : PsOk s) (hlt : s.na < s.b.n) : FitP s (reO s (s.b.f s.na)) := by
  have hn := right_n h.r
  have hm := h.m
  refine ⟨by omega, fun hu => ?_, fun hu => ?_⟩
  · rw [reO_kind] at hu
    obtain ⟨h1, h2, h3⟩ := right_use h.r hlt (i := 0) hu
    have e : useF (s.b.f s.na) 0 = (s.b.f s.na).a := rfl
    rw [e] at h1 h2 h3
    have := h.at_ (s.b.f s.na).a.toNat (by omega) h3
    simp only [reO, show (0 : Nat) < usesS (s.b.f s.na).kind from hu, if_true]
    exact this
  · rw [reO_kind] at hu
    obtain ⟨h1, h2, h3⟩ := right_use h.r hlt (i := 1) hu
    have e : useF (s.b.f s.na) 1 = (s.b.f s.na).b := rfl
    rw [e] at h1 h2 h3
    have := h.at_ (s.b.f s.na).b.toNat (by omega) h3
    simp only [reO, show (1 : Nat) < usesS (s.b.f s.na).kind from hu, if_true]
    exact this
theorem findI_ok {s : PS} {k r : Int} : knFind s k r ≤ s.kn := findI_le _ _
theorem put_kn {s : PS} {k r v : Int} {M : Nat} (h : ∀ j, j < s.kn → 0 ≤ s.kv j ∧ s.kv j < M) (hv : 0 ≤ v ∧ v < M) : ∀ j, j < (knPut s k r v).kn → 0 ≤ (knPut s k r v).kv j ∧ (knPut s k r v).kv j < M := by
  intro j hj
  have hle := findI_ok (s := s) (k := k) (r := r)
  simp only [knPut] at hj ⊢
  split
  · exact hv
  · rename_i hne
    exact h j (by omega)
theorem del_kn {s : PS} {k r : Int} {M : Nat} (h : ∀ j, j < s.kn → 0 ≤ s.kv j ∧ s.kv j < M) : ∀ j, j < (knDel s k r).kn → 0 ≤ (knDel s k r).kv j ∧ (knDel s k r).kv j < M := by
  intro j hj
  have hle := findI_ok (s := s) (k := k) (r := r)
  simp only [knDel] at hj ⊢
  split
  · exact h j (by omega)
  · rename_i hne
    rw [if_pos (by split at hj <;> omega)] at hj
    exact h (j + 1) (by omega)
theorem set_kn {s : PS} {o : OpS} {k r : Int} {M : Nat} (h : ∀ j, j < s.kn → 0 ≤ s.kv j ∧ s.kv j < M) (hv : 0 ≤ o.a ∧ o.a < M) : ∀ j, j < (knSet s o k r).kn → 0 ≤ (knSet s o k r).kv j ∧ (knSet s o k r).kv j < M := by
  unfold knSet
  split
  · exact put_kn h hv
  · exact del_kn h
theorem knSet_at (s : PS) (o : OpS) (k r : Int) : (knSet s o k r).na = s.na ∧ (knSet s o k r).a = s.a ∧ (knSet s o k r).f = s.f := by unfold knSet; split <;> exact ⟨rfl, rfl, rfl⟩
structure OneOk (s : PS) (o : OpS) (r : One) : Prop where
  b : r.s.b = s.b
  na : r.s.na = s.na
  a : r.s.a = s.a
  m : r.s.m = if r.l = true then s.m + 1 else s.m
  f : ∀ i, i < s.m → r.s.f i = s.f i
  kn : ∀ j, j < r.s.kn → 0 ≤ r.s.kv j ∧ r.s.kv j < r.s.m
  v : o.kind ≠ 15 → 0 ≤ r.v ∧ r.v < r.s.m
theorem lay_ok {s : PS} {o x : OpS} (h : ∀ j, j < s.kn → 0 ≤ s.kv j ∧ s.kv j < s.m) : OneOk s o (layO s x) := by
  refine ⟨rfl, rfl, rfl, rfl, fun i hi => if_pos hi, fun j hj => ?_, fun _ => ?_⟩
  · have := h j hj
    show 0 ≤ s.kv j ∧ s.kv j < ((s.m + 1 : Nat) : Int)
    omega
  · show (0 : Int) ≤ (s.m : Int) ∧ (s.m : Int) < ((s.m + 1 : Nat) : Int)
    omega
theorem one_ok {s : PS} {o : OpS} (h : ∀ j, j < s.kn → 0 ≤ s.kv j ∧ s.kv j < s.m) (hf : FitP s o) : OneOk s o (oneP s o) := by
  unfold oneP
  split
  · rename_i h1
    split
    · rename_i h2
      obtain ⟨g1, g2, g3⟩ := knSet_at s o (placeK o) (placeR o)
      have hb := knSet_b s o (placeK o) (placeR o)
      have hm := knSet_m s o (placeK o) (placeR o)
      have ha := hf.a (usesS_set h1 h2)
      refine ⟨hb, g1, g2, ?_, fun i hi => ?_, fun j hj => ?_, fun _ => ?_⟩
      · show (knSet s o (placeK o) (placeR o)).m + 1 = _
        rw [hm]; rfl
      · show (if i < (knSet s o (placeK o) (placeR o)).m then (knSet s o (placeK o) (placeR o)).f i else o) = _
        rw [hm, if_pos hi, g3]
      · have := set_kn (o := o) (k := placeK o) (r := placeR o) h ha j hj
        show 0 ≤ (knSet s o (placeK o) (placeR o)).kv j ∧ (knSet s o (placeK o) (placeR o)).kv j < (((knSet s o (placeK o) (placeR o)).m + 1 : Nat) : Int)
        rw [hm]
        omega
      · show (0 : Int) ≤ (s.m : Int) ∧ (s.m : Int) < (((knSet s o (placeK o) (placeR o)).m + 1 : Nat) : Int)
        rw [hm]
        omega
    · split
      · rename_i hj
        exact ⟨rfl, rfl, rfl, rfl, fun _ _ => rfl, h, fun _ => h _ hj⟩
      · refine ⟨rfl, rfl, rfl, rfl, fun i hi => if_pos hi, put_kn (s := layS s o) (M := s.m + 1) (fun j hj => ?_) ?_, fun _ => ?_⟩
        · have := h j hj
          show 0 ≤ s.kv j ∧ s.kv j < ((s.m + 1 : Nat) : Int)
          omega
        · omega
        · show (0 : Int) ≤ (s.m : Int) ∧ (s.m : Int) < ((s.m + 1 : Nat) : Int)
          omega
  · split
    · split <;> exact lay_ok h
    · split
      · rename_i h15
        split
        · split
          · exact ⟨rfl, rfl, rfl, rfl, fun _ _ => rfl, h, fun h' => absurd h15 h'⟩
          · have := lay_ok (o := o) (x := exitO o.imm) h
            exact ⟨this.b, this.na, this.a, this.m, this.f, this.kn, this.v⟩
        · exact lay_ok h
      · exact lay_ok h
theorem nextP_ok {s : PS} (h : PsOk s) (hlt : s.na < s.b.n) : OneOk s (reO s (s.b.f s.na)) (nextP s) := one_ok h.kn (h.fit hlt)
theorem after_ok {s : PS} (h : PsOk s) (hlt : s.na < s.b.n) : PsOk (afterP s) := by
  have ho := nextP_ok h hlt
  have hm := ho.m
  have hmm : s.m ≤ (nextP s).s.m ∧ (nextP s).s.m ≤ s.m + 1 := by rw [hm]; split <;> omega
  have h1 := h.m
  refine ⟨?_, ?_, ?_, fun j hj hd => ?_, ho.kn⟩
  · show rightS (nextP s).s.b = true
    rw [ho.b]; exact h.r
  · show (nextP s).s.na + 1 ≤ (nextP s).s.b.n
    rw [ho.b, ho.na]; omega
  · show (nextP s).s.m ≤ (nextP s).s.na + 1
    rw [ho.na]; omega
  · have hj : j < (nextP s).s.na + 1 := hj
    have hd : defS ((nextP s).s.b.f j).kind = true := hd
    show 0 ≤ (if j < (nextP s).s.na then (nextP s).s.a j else (nextP s).v) ∧ (if j < (nextP s).s.na then (nextP s).s.a j else (nextP s).v) < ((nextP s).s.m : Int)
    rw [ho.b] at hd
    rw [ho.na] at hj ⊢
    split
    · rename_i hlt'
      have := h.at_ j hlt' hd
      rw [ho.a]
      omega
    · have e : j = s.na := by omega
      subst e
      refine ho.v fun h15 => ?_
      rw [reO_kind] at h15
      rw [h15] at hd
      exact absurd hd (by decide)
theorem after_b {s : PS} (h : PsOk s) (hlt : s.na < s.b.n) : (afterP s).b = s.b := (nextP_ok h hlt).b
theorem after_na {s : PS} (h : PsOk s) (hlt : s.na < s.b.n) : (afterP s).na = s.na + 1 := by
  show (nextP s).s.na + 1 = _
  rw [(nextP_ok h hlt).na]
theorem stepN_ok : ∀ (t : Nat) {s : PS}, PsOk s → PsOk (stepN t s) ∧ (stepN t s).b = s.b
  | 0, s, h => ⟨h, rfl⟩
  | t + 1, s, h => by
    simp only [stepN]
    split
    · rename_i hlt
      have h1 := after_ok h hlt
      have h2 := after_b h hlt
      split
      · exact ⟨h1, h2⟩
      · obtain ⟨g1, g2⟩ := stepN_ok t h1
        exact ⟨g1, g2.trans h2⟩
    · exact ⟨h, rfl⟩
def eqO (a b : OpS) : Bool := a.kind == b.kind && (a.r == b.r && (a.a == b.a && (a.b == b.b && (a.order == b.order && (a.imm == b.imm && true)))))
def eqN (f g : Nat → OpS) (n : Nat) : Nat → Bool
  | 0 => true
  | t + 1 => eqO (f (n - (t + 1))) (g (n - (t + 1))) && eqN f g n t
def eqOps (n m : Nat) (f g : Nat → OpS) : Bool := n == m && eqN f g n n
theorem eqO_eq {a b : OpS} : eqO a b = true ↔ a = b := by
  cases a; cases b
  simp only [eqO, Bool.and_eq_true, beq_iff_eq, and_true, OpS.mk.injEq]
theorem eqN_iff {f g : Nat → OpS} {n : Nat} : ∀ {t : Nat}, t ≤ n → (eqN f g n t = true ↔ ∀ i, n - t ≤ i → i < n → f i = g i)
  | 0, _ => ⟨fun _ i h1 h2 => by omega, fun _ => rfl⟩
  | t + 1, h => by
    simp only [eqN, Bool.and_eq_true, eqO_eq, eqN_iff (f := f) (g := g) (show t ≤ n by omega)]
    constructor
    · rintro ⟨h1, h2⟩ i h3 h4
      by_cases e : i = n - (t + 1)
      · rw [e]; exact h1
      · exact h2 i (by omega) h4
    · intro h1
      exact ⟨h1 _ (Nat.le_refl _) (by omega), fun i h3 h4 => h1 i (by omega) h4⟩
theorem eqOps_iff {n m : Nat} {f g : Nat → OpS} : eqOps n m f g = true ↔ n = m ∧ ∀ i, i < n → f i = g i := by
  unfold eqOps
  simp only [Bool.and_eq_true, beq_iff_eq, eqN_iff (f := f) (g := g) (Nat.le_refl n), Nat.sub_self, Nat.zero_le, true_implies]
def eqSt (n : Nat) (f g : Nat → OpS) (j : Nat) : St := ⟨[⟨13, [], .c (.int .i64 j)⟩, ⟨12, [], .c (.int .i64 n)⟩, ⟨1, [], .c (.slice ⟨1, 0, 0, 0⟩ false n)⟩, ⟨0, [], .c (.slice ⟨0, 0, 0, 0⟩ false n)⟩], ⟨2, [(1, opsB n g), (0, opsB n f)]⟩⟩
theorem end_eq {l : List Slot} {H : Heap} {n m : Nat} {f g : Nat → OpS} (c t : Bool) (hs : slotAt l 4 = some ⟨4, [], .c (.bool c)⟩) (h0 : getB H.blks 0 = some (opsB n f)) (h1 : getB H.blks 1 = some (opsB m g)) (hc : c = t) : endQ (LeS 2) [.tmp 4] (fun v H' => v = .c (.bool t) ∧ H' = ⟨2, [(1, opsB m g), (0, opsB n f)]⟩) .ret ⟨l, H⟩ := by
  subst hc
  refine end_of ⟨[⟨4, [], .c (.bool c)⟩], ⟨2, [(1, opsB m g), (0, opsB n f)]⟩⟩ (LeS.intro [0, 1] (fun i h => idt2 i h) (by simp only [diff, notIn, Nat.beq, and_self]) rfl (by simp only [slotsLe, hs, leV, leV1, leC, and_self]) ?_) ?_
  · simp only [leBlks, nthO, h0, h1]
    exact ⟨ops_le m g false, ops_le n f false, trivial⟩
  · simp only [endF, resL, resA, St.get, slotAt, Nat.beq, sfx, eqP, noTup, resV]
    exact ⟨by first | rfl | trivial, by first | rfl | trivial⟩
theorem con49 (n m : Nat) (f g : Nat → OpS) (hn : n ≤ 1000) : Con Try.prog 49 [.c (.slice ⟨0, 0, 0, 0⟩ false n), .c (.slice ⟨1, 0, 0, 0⟩ false m)] ⟨2, [(1, opsB m g), (0, opsB n f)]⟩ (fun v H' => v = .c (.bool (eqOps n m f g)) ∧ H' = ⟨2, [(1, opsB m g), (0, opsB n f)]⟩) := by
  (refine con_of_run mixed (fn := Try.f49) (by kernel_rfl) (by kernel_rfl) C49_ok (rs := [.tmp 4]) (by kernel_rfl) (Nat.le_of_ble_eq_true (by kernel_rfl)) ?_; unfold C49; simp only [initT, Nat.reduceAdd])
  repeat' (first | refine run_seq ?_ | refine run_skip ?_ | (refine run_region fun K hK => ?_; (try (simp (maxSteps := 10000000) only [opL, opsB, C49r0, C49r1, C49r2, C49r4, C49r5, C49r6, C49r7, C49r8, C49r9, rwp_nil, rwp_cons, rwpK_app, aop, gpath, St.get, slotAt, sfx, eqP, segsOf, St.put, addBlk, getB, setB, delB, ld1, ldn, st1, stn, setRow, rowNeed, segAt, nsub, bin, un, eqB, isShift, sameK, arith, shiftR, getsl, selB_or, selB_and, beqb, shed, addN, Nat.beq, Seg.size, sizes, imp, needP, andN, appL, argsOf, ptrsOf, aasOf, cut, takeS, dropS, putS, partsOf, fillS, fieldOf, nthA, negIf, nilq, nilB, eqS, eqF, eqS1, andP, kin, slcS, strOk, plusA, bndHi, leN, optG, roH, roL, initT, exOk, exAll, wrAddr, Nat.reduceAdd, Nat.reduceSub, Nat.reduceMul, Int.reduceToNat, List.append_nil, List.nil_append, List.cons_append, mapR, mapR1, keyL, keyOk, keyP, colsPut, colsDel, zcols, eqT, idxT, cat, cpy, ite_int, ite_bool, ite_seg, ite_segs, ite_nil, ite_twice, Int.toNat_natCast, app, addBs, tob])); (repeat (first | (refine And.intro ?_ ?_; · (first | trivial | assumption | omega | exact ⟨by omega, by omega⟩ | (intros; first | trivial | assumption | omega))))); with_reducible refine hK _ ?_; clear hK K) | (refine run_cond rfl (fun hc => ?_) (fun hc => ?_) <;> try (simp only [*, Bool.true_eq_false, Bool.false_eq_true, Bool.not_true, Bool.not_false, Bool.true_or, Bool.or_true, Bool.false_or, Bool.or_false, Bool.false_and, Bool.and_false, bne_self_eq_false, beq_self_eq_true] at hc; done)) | refine run_block ?_ | refine run_ret ?_ | refine run_nil ?_ | refine run_exit ?_ | refine blk_normal ?_ | refine blk_ret ?_ | refine blk_here ?_ | refine blk_there rfl ?_ | refine loop_exit ?_ | refine loop_ret ?_ | refine un_exit ?_ | refine un_ret ?_ | refine unE_exit ?_ | refine unE_ret ?_ | refine un_normal ?_)
  · refine end_eq false _ rfl rfl rfl ?_
    have : ¬ n = m := by simp only [bne_iff_ne, ne_eq, Int.natCast_inj] at hc; exact hc
    simp [eqOps, this]
  have e : n = m := by simp only [bne_eq_false_iff_eq, Int.natCast_inj] at hc; exact hc
  subst e
  have hT : eqN f g n n = eqOps n n f g := by simp [eqOps]
  generalize eqOps n n f g = T at hT ⊢
  clear hc
  (refine run_regionL fun K hK => ?_; (try (simp (maxSteps := 10000000) only [opL, opsB, C49r0, C49r1, C49r2, C49r3, C49r4, C49r5, C49r6, C49r7, C49r8, C49r9, rwp_nil, rwp_cons, rwpK_app, aop, gpath, St.get, slotAt, sfx, eqP, segsOf, St.put, addBlk, getB, setB, delB, ld1, ldn, st1, stn, setRow, rowNeed, segAt, nsub, bin, un, eqB, isShift, sameK, arith, shiftR, getsl, selB_or, selB_and, beqb, shed, addN, Nat.beq, Seg.size, sizes, imp, needP, andN, appL, argsOf, ptrsOf, aasOf, cut, takeS, dropS, putS, partsOf, fillS, fieldOf, nthA, negIf, nilq, nilB, eqS, eqF, eqS1, andP, kin, slcS, strOk, plusA, bndHi, leN, optG, roH, roL, initT, exOk, exAll, wrAddr, Nat.reduceAdd, Nat.reduceSub, Nat.reduceMul, Int.reduceToNat, List.append_nil, List.nil_append, List.cons_append, mapR, mapR1, keyL, keyOk, keyP, colsPut, colsDel, zcols, eqT, idxT, cat, cpy, ite_int, ite_bool, ite_seg, ite_segs, ite_nil, ite_twice, Int.toNat_natCast, app, addBs, tob])); (repeat (first | (refine And.intro ?_ ?_; · first | trivial | assumption | omega))); refine hK _ (eqSt n f g 0) (LeS.intro [0, 1] (fun i h => idt2 i h) (by simp only [diff, notIn, Nat.beq, and_self]) rfl (by simp only [eqSt, slotsLe, slotAt, Nat.beq, leV, leV1, leC, leA, nthO, Int.natCast_zero, Int.ofNat_zero, and_self]) ⟨ops_le n g false, ops_le n f false, trivial⟩) ?_; clear hK K)
  refine run_block ?_
  refine run_loop (fun t st => ∃ j, j ≤ n ∧ t = n - j ∧ eqN f g n t = T ∧ st = eqSt n f g j) n ⟨0, Nat.zero_le _, rfl, hT, rfl⟩ ?_
  rintro t st ⟨j, hj, rfl, hT, rfl⟩
  unfold eqSt
  have hw : IntKind.i64.wrap ((j : Int) + 1) = ((j + 1 : Nat) : Int) := by rw [IntKind.wrap_i64]; omega
  repeat' (first | refine run_seq ?_ | refine run_skip ?_ | (refine run_region fun K hK => ?_; (try (simp (maxSteps := 10000000) only [opL, opsB, Int.toNat_natCast, hw, C49r0, C49r1, C49r2, C49r3, C49r4, C49r5, C49r6, C49r7, C49r8, C49r9, rwp_nil, rwp_cons, rwpK_app, aop, gpath, St.get, slotAt, sfx, eqP, segsOf, St.put, addBlk, getB, setB, delB, ld1, ldn, st1, stn, setRow, rowNeed, segAt, nsub, bin, un, eqB, isShift, sameK, arith, shiftR, getsl, selB_or, selB_and, beqb, shed, addN, Nat.beq, Seg.size, sizes, imp, needP, andN, appL, argsOf, ptrsOf, aasOf, cut, takeS, dropS, putS, partsOf, fillS, fieldOf, nthA, negIf, nilq, nilB, eqS, eqF, eqS1, andP, kin, slcS, strOk, plusA, bndHi, leN, optG, roH, roL, initT, exOk, exAll, wrAddr, Nat.reduceAdd, Nat.reduceSub, Nat.reduceMul, Int.reduceToNat, List.append_nil, List.nil_append, List.cons_append, mapR, mapR1, keyL, keyOk, keyP, colsPut, colsDel, zcols, eqT, idxT, cat, cpy, ite_int, ite_bool, ite_seg, ite_segs, ite_nil, ite_twice, Int.toNat_natCast, app, addBs, tob])); (repeat (first | (refine And.intro ?_ ?_; · (first | trivial | assumption | omega | exact ⟨by omega, by omega⟩ | (intros; first | trivial | assumption | omega))))); with_reducible refine hK _ ?_; clear hK K) | (refine run_cond rfl (fun hc => ?_) (fun hc => ?_) <;> try (simp only [*, Bool.true_eq_false, Bool.false_eq_true, Bool.not_true, Bool.not_false, Bool.true_or, Bool.or_true, Bool.false_or, Bool.or_false, Bool.false_and, Bool.and_false, bne_self_eq_false, beq_self_eq_true] at hc; done)) | refine run_block ?_ | refine run_ret ?_ | refine run_nil ?_ | refine run_exit ?_ | refine blk_normal ?_ | refine blk_ret ?_ | refine blk_here ?_ | refine blk_there rfl ?_ | refine loop_exit ?_ | refine loop_ret ?_ | refine un_exit ?_ | refine un_ret ?_ | refine unE_exit ?_ | refine unE_ret ?_ | refine un_normal ?_)
  · have hlt : j < n := by simp only [decide_eq_true_eq] at hc; omega
    obtain ⟨t, ht⟩ : ∃ t, n - j = t + 1 := ⟨n - j - 1, by omega⟩
    have hj' : n - (t + 1) = j := by omega
    rw [ht] at hT
    simp only [eqN, hj'] at hT
    clear hc
    repeat' (first | refine run_seq ?_ | refine run_skip ?_ | (refine run_region fun K hK => ?_; (try (simp (maxSteps := 10000000) only [opL, opsB, Int.toNat_natCast, hw, C49r0, C49r1, C49r2, C49r3, C49r4, C49r5, C49r6, C49r7, C49r8, C49r9, rwp_nil, rwp_cons, rwpK_app, aop, gpath, St.get, slotAt, sfx, eqP, segsOf, St.put, addBlk, getB, setB, delB, ld1, ldn, st1, stn, setRow, rowNeed, segAt, nsub, bin, un, eqB, isShift, sameK, arith, shiftR, getsl, selB_or, selB_and, beqb, shed, addN, Nat.beq, Seg.size, sizes, imp, needP, andN, appL, argsOf, ptrsOf, aasOf, cut, takeS, dropS, putS, partsOf, fillS, fieldOf, nthA, negIf, nilq, nilB, eqS, eqF, eqS1, andP, kin, slcS, strOk, plusA, bndHi, leN, optG, roH, roL, initT, exOk, exAll, wrAddr, Nat.reduceAdd, Nat.reduceSub, Nat.reduceMul, Int.reduceToNat, List.append_nil, List.nil_append, List.cons_append, mapR, mapR1, keyL, keyOk, keyP, colsPut, colsDel, zcols, eqT, idxT, cat, cpy, ite_int, ite_bool, ite_seg, ite_segs, ite_nil, ite_twice, Int.toNat_natCast, app, addBs, tob])); (repeat (first | (refine And.intro ?_ ?_; · (first | trivial | assumption | omega | exact ⟨by omega, by omega⟩ | (intros; first | trivial | assumption | omega))))); with_reducible refine hK _ ?_; clear hK K) | (refine run_cond rfl (fun hc => ?_) (fun hc => ?_) <;> try (simp only [*, Bool.true_eq_false, Bool.false_eq_true, Bool.not_true, Bool.not_false, Bool.true_or, Bool.or_true, Bool.false_or, Bool.or_false, Bool.false_and, Bool.and_false, bne_self_eq_false, beq_self_eq_true] at hc; done)) | refine run_block ?_ | refine run_ret ?_ | refine run_nil ?_ | refine run_exit ?_ | refine blk_normal ?_ | refine blk_ret ?_ | refine blk_here ?_ | refine blk_there rfl ?_ | refine loop_exit ?_ | refine loop_ret ?_ | refine un_exit ?_ | refine un_ret ?_ | refine unE_exit ?_ | refine unE_ret ?_ | refine un_normal ?_)
    · refine end_eq false _ rfl rfl rfl ?_
      rw [← hT, show eqO (f j) (g j) = false from by simp only [Bool.not_eq_true'] at hc; exact hc]
      rfl
    · have he : eqO (f j) (g j) = true := by simp only [Bool.not_eq_false'] at hc; exact hc
      rw [he, Bool.true_and] at hT
      refine loop_normal (n - (j + 1)) (eqSt n f g (j + 1)) (by omega) (LeS.intro [0, 1] (fun i h => idt2 i h) (by simp only [diff, notIn, Nat.beq, and_self]) rfl (by simp only [eqSt, hw, slotsLe, slotAt, Nat.beq, leV, leV1, leC, leA, nthO, Int.natCast_zero, Int.ofNat_zero, and_self]) ⟨ops_le n g false, ops_le n f false, trivial⟩) ⟨j + 1, hlt, rfl, ?_, rfl⟩
      rw [show n - (j + 1) = t by omega]
      exact hT
  · have hn0 : n - j = 0 := by simp only [decide_eq_false_iff_not] at hc; omega
    rw [hn0] at hT
    exact end_eq true _ rfl rfl rfl hT
theorem con49_at (n m : Nat) (f g : Nat → OpS) (hn : n ≤ 1000) (i j q : Nat) (X : List (Nat × Blk)) (w w' : Bool) (hij : Nat.beq i j = false) (h0 : getB X i = some ⟨6, some n, fun i => opL (f i), 39, w⟩) (h1 : getB X j = some ⟨6, some m, fun i => opL (g i), 39, w'⟩) (hli : i < q) (hlj : j < q) (hkl : keysLt X q) :
    Con Try.prog 49 [.c (.slice ⟨i, 0, 0, 0⟩ false n), .c (.slice ⟨j, 0, 0, 0⟩ false m)] ⟨q, X⟩ (fun v H' => v = .c (.bool (eqOps n m f g)) ∧ H' = ⟨q, X⟩) :=
  ro_gen (con49 n m f g hn) [i, j] q X rfl ⟨⟨hij, trivial⟩, trivial, trivial⟩ ⟨hli, hlj, trivial⟩ hkl (by simp only [leBlks, nthO, h0, h1]; exact ⟨ops_le m g w', ops_le n f w, trivial⟩) (by simp only [leArgs, leV, leV1, leC, leA, nthO, and_self]) rfl (fun _ => rfl) rfl rfl
end Go.Proofs.Ytmbnakinhnkabaa

