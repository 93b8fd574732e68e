/- Parts of the proof of foldDoes_holds, joined and cut by a program: Code19b, Ea, Eb, Ec, Ed, Ee, Ef, Eg, Eh, Fa, Code18, Ga, Fb. No condition. -/
import Derived.Test.YtmbnakinhnkabaaZgc
import Derived.Test.YtmbnakinhnkabaaProg
import Derived.KernelRfl
import Derived.Laws.BitsLemmas
import Derived.Laws.Bits64
set_option linter.unusedVariables false
namespace Go.Proofs.Ytmbnakinhnkabaa
open Go.AM
def C11r0 : List AOper := [⟨some 1, .box 25 (.t 0), none, true, []⟩,
 ⟨some 2, .mv (.k (.c (.bool false))), none, true, []⟩]
def C11r1 : List AOper := [⟨some 11, .faddr (.t 1) 3, none, true, []⟩,
 ⟨some 12, .ld1 (.t 11), none, true, []⟩,
 ⟨some 13, .len false (.t 12), none, true, []⟩,
 ⟨some 3, .mv (.t 13), none, true, []⟩]
def C11r2 : List AOper := [⟨some 14, .faddr (.t 1) 0, none, true, []⟩,
 ⟨some 15, .ld1 (.t 14), none, true, []⟩,
 ⟨some 16, .bin .rem (.t 15) (.k (.c (.int .u64 4))), none, true, []⟩,
 ⟨some 17, .bin .neq (.t 16) (.k (.c (.int .u64 0))), none, true, []⟩,
 ⟨some 18, .mv (.t 17), none, true, []⟩,
 ⟨some 19, .faddr (.t 1) 1, some (18, false), true, []⟩,
 ⟨some 20, .ld1 (.t 19), some (18, false), true, []⟩,
 ⟨some 21, .call (.k (.c (.fn 33 [] []))) [(.t 20), (.k (.c (.int .i64 1))), (.k (.c (.int .i64 16)))], some (18, false), true, []⟩,
 ⟨some 22, .un .not (.t 21), some (18, false), true, []⟩,
 ⟨some 23, .pick 18 (.k (.c (.bool true))) (.t 22), none, true, []⟩,
 ⟨some 24, .mv (.t 23), none, true, []⟩,
 ⟨some 25, .faddr (.t 1) 2, some (24, false), true, []⟩,
 ⟨some 26, .ld1 (.t 25), some (24, false), true, []⟩,
 ⟨some 27, .call (.k (.c (.fn 33 [] []))) [(.t 26), (.k (.c (.int .i64 0))), (.k (.c (.int .i64 1)))], some (24, false), true, []⟩,
 ⟨some 28, .un .not (.t 27), some (24, false), true, []⟩,
 ⟨some 29, .pick 24 (.k (.c (.bool true))) (.t 28), none, true, []⟩,
 ⟨some 30, .mv (.t 29), none, true, []⟩,
 ⟨some 31, .mv (.t 3), some (30, false), true, []⟩,
 ⟨some 32, .call (.k (.c (.fn 33 [] []))) [(.t 31), (.k (.c (.int .i64 1))), (.k (.c (.int .i64 512)))], some (30, false), true, []⟩,
 ⟨some 33, .un .not (.t 32), some (30, false), true, []⟩,
 ⟨some 34, .pick 30 (.k (.c (.bool true))) (.t 33), none, true, []⟩,
 ⟨some 35, .mv (.t 34), none, true, []⟩,
 ⟨some 36, .faddr (.t 1) 3, some (35, false), true, []⟩,
 ⟨some 37, .ld1 (.t 36), some (35, false), true, []⟩,
 ⟨some 38, .iaddr 6 (.t 37) (.k (.c (.int .i64 0))), some (35, false), true, []⟩,
 ⟨some 39, .faddr (.t 38) 0, some (35, false), true, []⟩,
 ⟨some 40, .ld1 (.t 39), some (35, false), true, []⟩,
 ⟨some 41, .bin .neq (.t 40) (.k (.c (.int .i64 14))), some (35, false), true, []⟩,
 ⟨some 42, .pick 35 (.k (.c (.bool true))) (.t 41), none, true, []⟩,
 ⟨some 43, .mv (.t 42), none, true, []⟩,
 ⟨some 44, .faddr (.t 1) 3, some (43, false), false, []⟩,
 ⟨some 45, .ld1 (.t 44), some (43, false), false, []⟩,
 ⟨some 46, .iaddr 6 (.t 45) (.k (.c (.int .i64 0))), some (43, false), false, []⟩,
 ⟨some 47, .faddr (.t 46) 5, some (43, false), false, []⟩,
 ⟨some 48, .ld1 (.t 47), some (43, false), false, []⟩,
 ⟨some 49, .faddr (.t 1) 0, some (43, false), false, []⟩,
 ⟨some 50, .ld1 (.t 49), some (43, false), false, []⟩,
 ⟨some 51, .bin .neq (.t 48) (.t 50), some (43, false), true, []⟩,
 ⟨some 52, .pick 43 (.k (.c (.bool true))) (.t 51), none, true, []⟩]
def C11r3 : List AOper := [⟨some 2, .mv (.k (.c (.bool false))), none, true, []⟩]
def C11r4 : List AOper := [⟨some 4, .mv (.k (.c (.int .i64 0))), none, true, []⟩]
def C11r5 : List AOper := [⟨some 53, .mv (.t 4), none, true, []⟩,
 ⟨some 54, .mv (.t 3), none, true, []⟩,
 ⟨some 55, .bin .lss (.t 53) (.t 54), none, true, []⟩]
def C11r6 : List AOper := [⟨some 58, .faddr (.t 1) 3, none, true, []⟩,
 ⟨some 59, .ld1 (.t 58), none, true, []⟩,
 ⟨some 60, .mv (.t 4), none, true, []⟩,
 ⟨some 61, .iaddr 6 (.t 59) (.t 60), none, true, []⟩,
 ⟨some 62, .ldn 6 (.t 61), none, true, []⟩,
 ⟨some 5, .alloc 39 [.c (.int .i64 0), .c (.int .i64 0), .c (.int .i64 0), .c (.int .i64 0), .c (.int .i64 0), .c (.int .u64 0)], none, true, []⟩,
 ⟨none, .stn 6 (.t 5) (.t 62), none, true, []⟩]
def C11r7 : List AOper := [⟨some 63, .ldn 6 (.t 5), none, true, []⟩,
 ⟨some 64, .call (.k (.c (.fn 34 [] []))) [(.t 63)], none, true, []⟩,
 ⟨some 6, .mv (.t 64), none, true, []⟩]
def C11r8 : List AOper := [⟨some 65, .faddr (.t 5) 0, none, true, []⟩,
 ⟨some 66, .ld1 (.t 65), none, true, []⟩,
 ⟨some 67, .bin .eql (.t 66) (.k (.c (.int .i64 16))), none, true, []⟩,
 ⟨some 68, .mv (.t 67), none, true, []⟩,
 ⟨some 69, .faddr (.t 5) 0, some (68, false), true, []⟩,
 ⟨some 70, .ld1 (.t 69), some (68, false), true, []⟩,
 ⟨some 71, .bin .eql (.t 70) (.k (.c (.int .i64 17))), some (68, false), true, []⟩,
 ⟨some 72, .pick 68 (.k (.c (.bool true))) (.t 71), none, true, []⟩,
 ⟨some 73, .mv (.t 72), none, true, []⟩,
 ⟨some 74, .faddr (.t 5) 0, some (73, false), true, []⟩,
 ⟨some 75, .ld1 (.t 74), some (73, false), true, []⟩,
 ⟨some 76, .bin .eql (.t 75) (.k (.c (.int .i64 18))), some (73, false), true, []⟩,
 ⟨some 77, .pick 73 (.k (.c (.bool true))) (.t 76), none, true, []⟩,
 ⟨some 7, .mv (.t 77), none, true, []⟩]
def C11r9 : List AOper := [⟨some 78, .mv (.t 6), none, true, []⟩,
 ⟨some 79, .un .not (.t 78), none, true, []⟩,
 ⟨some 80, .mv (.t 79), none, true, []⟩,
 ⟨some 81, .mv (.t 7), some (80, false), true, []⟩,
 ⟨some 82, .mv (.t 4), some (80, false), true, []⟩,
 ⟨some 83, .mv (.t 3), some (80, false), true, []⟩,
 ⟨some 84, .bin .sub (.t 83) (.k (.c (.int .i64 1))), some (80, false), true, []⟩,
 ⟨some 85, .bin .eql (.t 82) (.t 84), some (80, false), true, []⟩,
 ⟨some 86, .eqB true (.t 81) (.t 85), some (80, false), true, []⟩,
 ⟨some 87, .pick 80 (.k (.c (.bool true))) (.t 86), none, true, []⟩]
def C11r10 : List AOper := [⟨some 2, .mv (.k (.c (.bool false))), none, true, []⟩]
def C11r11 : List AOper := [⟨some 88, .ldn 6 (.t 5), none, true, []⟩,
 ⟨some 89, .call (.k (.c (.fn 35 [] []))) [(.t 88)], none, true, []⟩,
 ⟨some 8, .mv (.t 89), none, true, []⟩]
def C11r12 : List AOper := [⟨some 9, .mv (.k (.c (.int .i64 0))), none, true, []⟩]
def C11r13 : List AOper := [⟨some 90, .mv (.t 9), none, true, []⟩,
 ⟨some 91, .mv (.t 8), none, true, []⟩,
 ⟨some 92, .len false (.t 91), none, true, []⟩,
 ⟨some 93, .bin .lss (.t 90) (.t 92), none, true, []⟩]
def C11r14 : List AOper := [⟨some 96, .mv (.t 8), none, true, []⟩,
 ⟨some 97, .mv (.t 9), none, true, []⟩,
 ⟨some 98, .iaddr 1 (.t 96) (.t 97), none, true, []⟩,
 ⟨some 99, .ld1 (.t 98), none, true, []⟩,
 ⟨some 100, .bin .lss (.t 99) (.k (.c (.int .i64 0))), none, true, []⟩,
 ⟨some 101, .mv (.t 100), none, true, []⟩,
 ⟨some 102, .mv (.t 8), some (101, false), true, []⟩,
 ⟨some 103, .mv (.t 9), some (101, false), true, []⟩,
 ⟨some 104, .iaddr 1 (.t 102) (.t 103), some (101, false), true, []⟩,
 ⟨some 105, .ld1 (.t 104), some (101, false), true, []⟩,
 ⟨some 106, .mv (.t 4), some (101, false), true, []⟩,
 ⟨some 107, .bin .geq (.t 105) (.t 106), some (101, false), true, []⟩,
 ⟨some 108, .pick 101 (.k (.c (.bool true))) (.t 107), none, true, []⟩]
def C11r15 : List AOper := [⟨some 2, .mv (.k (.c (.bool false))), none, true, []⟩]
def C11r16 : List AOper := [⟨some 109, .faddr (.t 1) 3, none, false, []⟩,
 ⟨some 110, .ld1 (.t 109), none, false, []⟩,
 ⟨some 111, .mv (.t 8), none, false, []⟩,
 ⟨some 112, .mv (.t 9), none, false, []⟩,
 ⟨some 113, .iaddr 1 (.t 111) (.t 112), none, false, []⟩,
 ⟨some 114, .ld1 (.t 113), none, false, []⟩,
 ⟨some 115, .iaddr 6 (.t 110) (.t 114), none, true, []⟩,
 ⟨some 116, .ldn 6 (.t 115), none, true, []⟩,
 ⟨some 117, .call (.k (.c (.fn 36 [] []))) [(.t 116)], none, true, []⟩,
 ⟨some 10, .mv (.t 117), none, true, []⟩]
def C11r17 : List AOper := [⟨some 118, .mv (.t 10), none, true, []⟩,
 ⟨some 119, .un .not (.t 118), none, true, []⟩]
def C11r18 : List AOper := [⟨some 2, .mv (.k (.c (.bool false))), none, true, []⟩]
def C11r19 : List AOper := [⟨some 94, .mv (.t 9), none, true, []⟩,
 ⟨some 95, .bin .add (.t 94) (.k (.c (.int .i64 1))), none, true, []⟩,
 ⟨some 9, .mv (.t 95), none, true, []⟩]
def C11r20 : List AOper := [⟨some 120, .mv (.t 8), none, true, []⟩,
 ⟨some 121, .len false (.t 120), none, true, []⟩,
 ⟨some 122, .bin .lss (.t 121) (.k (.c (.int .i64 2))), none, true, []⟩,
 ⟨some 123, .mv (.t 122), none, true, []⟩,
 ⟨some 124, .faddr (.t 5) 3, some (123, true), true, []⟩,
 ⟨some 125, .ld1 (.t 124), some (123, true), true, []⟩,
 ⟨some 126, .bin .neq (.t 125) (.k (.c (.int .i64 0))), some (123, true), true, []⟩,
 ⟨some 127, .pick 123 (.t 126) (.k (.c (.bool false))), none, true, []⟩,
 ⟨some 128, .mv (.t 127), none, true, []⟩,
 ⟨some 129, .mv (.t 8), some (128, false), true, []⟩,
 ⟨some 130, .len false (.t 129), some (128, false), true, []⟩,
 ⟨some 131, .bin .lss (.t 130) (.k (.c (.int .i64 1))), some (128, false), true, []⟩,
 ⟨some 132, .mv (.t 131), some (128, false), true, []⟩,
 ⟨some 133, .faddr (.t 5) 2, some (132, true), true, []⟩,
 ⟨some 134, .ld1 (.t 133), some (132, true), true, []⟩,
 ⟨some 135, .bin .neq (.t 134) (.k (.c (.int .i64 0))), some (132, true), true, []⟩,
 ⟨some 136, .pick 132 (.t 135) (.k (.c (.bool false))), some (128, false), true, []⟩,
 ⟨some 137, .pick 128 (.k (.c (.bool true))) (.t 136), none, true, []⟩]
def C11r21 : List AOper := [⟨some 2, .mv (.k (.c (.bool false))), none, true, []⟩]
def C11r22 : List AOper := [⟨some 56, .mv (.t 4), none, true, []⟩,
 ⟨some 57, .bin .add (.t 56) (.k (.c (.int .i64 1))), none, true, []⟩,
 ⟨some 4, .mv (.t 57), none, true, []⟩]
def C11r23 : List AOper := [⟨some 2, .mv (.k (.c (.bool true))), none, true, []⟩]
def C11 : ACode :=
 .seq (.region C11r0)
 (.seq (.region C11r1)
 (.seq (.seq (.region C11r2)
 (.cond (.t 52)
 (.seq (.region C11r3)
 (.ret))
 (.skip)))
 (.seq (.seq (.region C11r4)
 (.block 0
 (.loop
 (.seq (.seq (.region C11r5)
 (.cond (.t 55)
 (.skip)
 (.exit 0)))
 (.seq (.block 1
 (.seq (.region C11r6)
 (.seq (.region C11r7)
 (.seq (.region C11r8)
 (.seq (.seq (.region C11r9)
 (.cond (.t 87)
 (.seq (.region C11r10)
 (.ret))
 (.skip)))
 (.seq (.region C11r11)
 (.seq (.seq (.region C11r12)
 (.block 2
 (.loop
 (.seq (.seq (.region C11r13)
 (.cond (.t 93)
 (.skip)
 (.exit 2)))
 (.seq (.block 3
 (.seq (.seq (.region C11r14)
 (.cond (.t 108)
 (.seq (.region C11r15)
 (.ret))
 (.skip)))
 (.seq (.region C11r16)
 (.seq (.region C11r17)
 (.cond (.t 119)
 (.seq (.region C11r18)
 (.ret))
 (.skip))))))
 (.region C11r19))))))
 (.seq (.region C11r20)
 (.cond (.t 137)
 (.seq (.region C11r21)
 (.ret))
 (.skip))))))))))
 (.region C11r22))))))
 (.seq (.region C11r23)
 (.ret)))))
theorem C11_ok : stripF Try.prog Try.f11 = some C11 := by kernel_rfl
def C14r0 : List AOper := [⟨some 2, .box 25 (.t 0), none, true, []⟩,
 ⟨some 3, .box 25 (.t 1), none, true, []⟩,
 ⟨some 4, .mv (.k (.c (.bool false))), none, true, []⟩]
def C14r1 : List AOper := [⟨some 6, .faddr (.t 2) 0, none, true, []⟩,
 ⟨some 7, .ld1 (.t 6), none, true, []⟩,
 ⟨some 8, .faddr (.t 3) 0, none, true, []⟩,
 ⟨some 9, .ld1 (.t 8), none, true, []⟩,
 ⟨some 10, .bin .neq (.t 7) (.t 9), none, true, []⟩,
 ⟨some 11, .mv (.t 10), none, true, []⟩,
 ⟨some 12, .faddr (.t 2) 1, some (11, false), true, []⟩,
 ⟨some 13, .ld1 (.t 12), some (11, false), true, []⟩,
 ⟨some 14, .faddr (.t 3) 1, some (11, false), true, []⟩,
 ⟨some 15, .ld1 (.t 14), some (11, false), true, []⟩,
 ⟨some 16, .bin .neq (.t 13) (.t 15), some (11, false), true, []⟩,
 ⟨some 17, .pick 11 (.k (.c (.bool true))) (.t 16), none, true, []⟩,
 ⟨some 18, .mv (.t 17), none, true, []⟩,
 ⟨some 19, .faddr (.t 2) 2, some (18, false), true, []⟩,
 ⟨some 20, .ld1 (.t 19), some (18, false), true, []⟩,
 ⟨some 21, .faddr (.t 3) 2, some (18, false), true, []⟩,
 ⟨some 22, .ld1 (.t 21), some (18, false), true, []⟩,
 ⟨some 23, .bin .neq (.t 20) (.t 22), some (18, false), true, []⟩,
 ⟨some 24, .pick 18 (.k (.c (.bool true))) (.t 23), none, true, []⟩,
 ⟨some 25, .mv (.t 24), none, true, []⟩,
 ⟨some 26, .faddr (.t 2) 3, some (25, false), true, []⟩,
 ⟨some 27, .ld1 (.t 26), some (25, false), true, []⟩,
 ⟨some 28, .len false (.t 27), some (25, false), true, []⟩,
 ⟨some 29, .faddr (.t 3) 3, some (25, false), true, []⟩,
 ⟨some 30, .ld1 (.t 29), some (25, false), true, []⟩,
 ⟨some 31, .len false (.t 30), some (25, false), true, []⟩,
 ⟨some 32, .bin .neq (.t 28) (.t 31), some (25, false), true, []⟩,
 ⟨some 33, .pick 25 (.k (.c (.bool true))) (.t 32), none, true, []⟩]
def C14r2 : List AOper := [⟨some 4, .mv (.k (.c (.bool false))), none, true, []⟩]
def C14r3 : List AOper := [⟨some 5, .mv (.k (.c (.int .i64 0))), none, true, []⟩]
def C14r4 : List AOper := [⟨some 34, .mv (.t 5), none, true, []⟩,
 ⟨some 35, .faddr (.t 2) 3, none, true, []⟩,
 ⟨some 36, .ld1 (.t 35), none, true, []⟩,
 ⟨some 37, .len false (.t 36), none, true, []⟩,
 ⟨some 38, .bin .lss (.t 34) (.t 37), none, true, []⟩]
def C14r5 : List AOper := [⟨some 41, .faddr (.t 2) 3, none, false, []⟩,
 ⟨some 42, .ld1 (.t 41), none, false, []⟩,
 ⟨some 43, .mv (.t 5), none, false, []⟩,
 ⟨some 44, .iaddr 6 (.t 42) (.t 43), none, false, []⟩,
 ⟨some 45, .ldn 6 (.t 44), none, false, []⟩,
 ⟨some 46, .faddr (.t 3) 3, none, false, []⟩,
 ⟨some 47, .ld1 (.t 46), none, false, []⟩,
 ⟨some 48, .mv (.t 5), none, false, []⟩,
 ⟨some 49, .iaddr 6 (.t 47) (.t 48), none, false, []⟩,
 ⟨some 50, .ldn 6 (.t 49), none, false, []⟩,
 ⟨some 51, .eqS true [.one true, .one true, .one true, .one true, .one true, .one true] (.t 45) (.t 50), none, true, []⟩]
def C14r6 : List AOper := [⟨some 4, .mv (.k (.c (.bool false))), none, true, []⟩]
def C14r7 : List AOper := [⟨some 39, .mv (.t 5), none, true, []⟩,
 ⟨some 40, .bin .add (.t 39) (.k (.c (.int .i64 1))), none, true, []⟩,
 ⟨some 5, .mv (.t 40), none, true, []⟩]
def C14r8 : List AOper := [⟨some 4, .mv (.k (.c (.bool true))), none, true, []⟩]
def C14 : ACode :=
 .seq (.region C14r0)
 (.seq (.seq (.region C14r1)
 (.cond (.t 33)
 (.seq (.region C14r2)
 (.ret))
 (.skip)))
 (.seq (.seq (.region C14r3)
 (.block 0
 (.loop
 (.seq (.seq (.region C14r4)
 (.cond (.t 38)
 (.skip)
 (.exit 0)))
 (.seq (.block 1
 (.seq (.region C14r5)
 (.cond (.t 51)
 (.seq (.region C14r6)
 (.ret))
 (.skip))))
 (.region C14r7))))))
 (.seq (.region C14r8)
 (.ret))))
theorem C14_ok : stripF Try.prog Try.f14 = some C14 := by kernel_rfl
def C18r0 : List AOper := [⟨some 2, .box 25 (.t 0), none, true, []⟩,
 ⟨some 3, .box 43 (.t 1), none, true, []⟩,
 ⟨some 4, .mv (.k (.c (.nilp))), none, true, []⟩,
 ⟨some 5, .mv (.k (.c (.int .i64 0))), none, true, []⟩]
def C18r1 : List AOper := [⟨some 8, .ldn 4 (.t 2), none, true, []⟩,
 ⟨some 9, .call (.k (.c (.fn 11 [] []))) [(.t 8)], none, true, []⟩,
 ⟨some 6, .mv (.t 9), none, true, []⟩]
def C18r2 : List AOper := [⟨some 10, .mv (.t 6), none, true, []⟩,
 ⟨some 11, .un .not (.t 10), none, true, []⟩]
def C18r3 : List AOper := [⟨some 4, .mv (.k (.c (.nilp))), none, true, []⟩,
 ⟨some 5, .mv (.k (.c (.int .i64 4))), none, true, []⟩]
def C18r4 : List AOper := [⟨some 12, .ldn 49 (.t 3), none, true, []⟩,
 ⟨some 13, .call (.k (.c (.fn 44 [] []))) [(.t 12)], none, true, []⟩,
 ⟨some 7, .mv (.t 13), none, true, []⟩]
def C18r5 : List AOper := [⟨some 14, .mv (.t 7), none, true, []⟩,
 ⟨some 15, .un .not (.t 14), none, true, []⟩,
 ⟨some 16, .mv (.t 15), none, true, []⟩,
 ⟨some 17, .faddr (.t 3) 38, some (16, false), true, []⟩,
 ⟨some 18, .ld1 (.t 17), some (16, false), true, []⟩,
 ⟨some 19, .faddr (.t 2) 2, some (16, false), true, []⟩,
 ⟨some 20, .ld1 (.t 19), some (16, false), true, []⟩,
 ⟨some 21, .bin .neq (.t 18) (.t 20), some (16, false), true, []⟩,
 ⟨some 22, .pick 16 (.k (.c (.bool true))) (.t 21), none, true, []⟩]
def C18r6 : List AOper := [⟨some 4, .mv (.k (.c (.nilp))), none, true, []⟩,
 ⟨some 5, .mv (.k (.c (.int .i64 1))), none, true, []⟩]
def C18r7 : List AOper := [⟨some 23, .ldn 4 (.t 2), none, false, []⟩,
 ⟨some 24, .ldn 49 (.t 3), none, false, []⟩,
 ⟨some 25, .faddr (.t 2) 3, none, false, []⟩,
 ⟨some 26, .ld1 (.t 25), none, false, []⟩,
 ⟨some 27, .len false (.t 26), none, false, []⟩,
 ⟨some 28, .mkslice 22 1 8 [.c (.int .u64 0)] (.t 27) (.t 27), none, false, []⟩,
 ⟨some 29, .build [.c (.int .u64 0), .c (.int .i64 0), .c (.int .i64 0), .c (.nils), .a 31 (fun _ => .int .u64 0), .a 2 (fun _ => .int .u64 0), .c (.int .u64 0), .c (.bool false), .c (.bool false), .c (.bool false), .c (.bool false), .c (.int .i64 0), .c (.bool false), .c (.int .u64 0), .c (.int .u64 0), .c (.int .u64 0), .c (.int .u64 0), .c (.int .u64 0), .c (.int .u64 0), .c (.int .i64 0), .c (.int .i64 0), .c (.bool false), .c (.nils), .c (.int .i64 0), .c (.bool false), .c (.int .i64 0), .c (.int .u64 0), .c (.int .u64 0), .c (.int .i64 0), .c (.bool false), .c (.int .i64 0), .c (.bool false), .c (.int .i64 0), .c (.int .i64 0), .c (.int .i64 0), .c (.bool false), .c (.bool false), .c (.int .u64 0), .c (.bool false)] [(0, 4, (.t 23)), (4, 49, (.t 24)), (53, 1, (.t 28))], none, true, []⟩,
 ⟨some 30, .box 54 (.t 29), none, true, []⟩,
 ⟨some 4, .mv (.t 30), none, true, []⟩,
 ⟨some 5, .mv (.k (.c (.int .i64 0))), none, true, []⟩]
def C18 : ACode :=
 .seq (.region C18r0)
 (.seq (.region C18r1)
 (.seq (.seq (.region C18r2)
 (.cond (.t 11)
 (.seq (.region C18r3)
 (.ret))
 (.skip)))
 (.seq (.region C18r4)
 (.seq (.seq (.region C18r5)
 (.cond (.t 22)
 (.seq (.region C18r6)
 (.ret))
 (.skip)))
 (.seq (.region C18r7)
 (.ret))))))
theorem C18_ok : stripF Try.prog Try.f18 = some C18 := by kernel_rfl
def C19r0 : List AOper := [⟨some 2, .alloc 49 [.c (.int .i64 0), .c (.int .u64 0), .c (.int .u64 0), .c (.int .i64 0), .c (.bool false), .c (.int .i64 0), .c (.bool false), .c (.int .i64 0), .c (.int .i64 0), .c (.int .i64 0)], none, true, []⟩,
 ⟨some 3, .mv (.k (.c (.bool false))), none, true, []⟩]
def C19r1 : List AOper := [⟨some 4, .mv (.t 0), none, true, []⟩,
 ⟨some 5, .nilchk (.t 4), none, true, []⟩,
 ⟨some 6, .faddr (.t 5) 66, none, true, []⟩,
 ⟨some 7, .ld1 (.t 6), none, true, []⟩,
 ⟨some 8, .un .not (.t 7), none, true, []⟩,
 ⟨some 9, .mv (.t 8), none, true, []⟩,
 ⟨some 10, .mv (.t 0), some (9, true), true, []⟩,
 ⟨some 11, .nilchk (.t 10), some (9, true), true, []⟩,
 ⟨some 12, .faddr (.t 11) 55, some (9, true), true, []⟩,
 ⟨some 13, .ld1 (.t 12), some (9, true), true, []⟩,
 ⟨some 14, .un .not (.t 13), some (9, true), true, []⟩,
 ⟨some 15, .pick 9 (.t 14) (.k (.c (.bool false))), none, true, []⟩]
def C19r2 : List AOper := [⟨some 16, .mv (.t 0), none, false, []⟩,
 ⟨some 17, .mv (.t 0), none, false, []⟩,
 ⟨some 18, .nilchk (.t 17), none, false, []⟩,
 ⟨some 19, .faddr (.t 18) 0, none, false, []⟩,
 ⟨some 20, .faddr (.t 19) 3, none, false, []⟩,
 ⟨some 21, .ld1 (.t 20), none, false, []⟩,
 ⟨some 22, .mv (.t 0), none, false, []⟩,
 ⟨some 23, .nilchk (.t 22), none, false, []⟩,
 ⟨some 24, .faddr (.t 23) 54, none, false, []⟩,
 ⟨some 25, .ld1 (.t 24), none, false, []⟩,
 ⟨some 26, .iaddr 6 (.t 21) (.t 25), none, false, []⟩,
 ⟨some 27, .ldn 6 (.t 26), none, false, []⟩,
 ⟨some 28, .call (.k (.c (.fn 45 [] []))) [(.t 16), (.t 27)], none, true, []⟩]
def C19r3 : List AOper := [⟨some 29, .mv (.t 0), none, true, []⟩,
 ⟨some 30, .nilchk (.t 29), none, true, []⟩,
 ⟨some 31, .faddr (.t 30) 55, none, true, []⟩,
 ⟨some 32, .ld1 (.t 31), none, true, []⟩]
def C19r4 : List AOper := [⟨some 33, .mv (.t 0), none, true, []⟩,
 ⟨some 34, .nilchk (.t 33), none, true, []⟩,
 ⟨some 35, .faddr (.t 34) 56, none, true, []⟩,
 ⟨some 36, .ldn 10 (.t 35), none, true, []⟩,
 ⟨none, .stn 10 (.t 2) (.t 36), none, true, []⟩,
 ⟨some 3, .mv (.k (.c (.bool true))), none, true, []⟩]
def C19r5 : List AOper := [⟨some 37, .build [.c (.int .i64 0), .c (.int .u64 0), .c (.int .u64 0), .c (.int .i64 0), .c (.bool false), .c (.int .i64 0), .c (.bool false), .c (.int .i64 0), .c (.int .i64 0), .c (.int .i64 0)] [], none, true, []⟩,
 ⟨none, .stn 10 (.t 2) (.t 37), none, true, []⟩,
 ⟨some 3, .mv (.k (.c (.bool false))), none, true, []⟩]
def C19 : ACode :=
 .seq (.region C19r0)
 (.seq (.block 0
 (.loop
 (.seq (.seq (.region C19r1)
 (.cond (.t 15)
 (.skip)
 (.exit 0)))
 (.block 1
 (.region C19r2)))))
 (.seq (.seq (.region C19r3)
 (.cond (.t 32)
 (.seq (.region C19r4)
 (.ret))
 (.skip)))
 (.seq (.region C19r5)
 (.ret))))
theorem C19_ok : stripF Try.prog Try.f19 = some C19 := by kernel_rfl
def C20r0 : List AOper := [⟨some 3, .box 56 (.t 1), none, true, []⟩,
 ⟨some 4, .mv (.k (.c (.bool false))), none, true, []⟩]
def C20r1 : List AOper := [⟨some 8, .mv (.t 0), none, true, []⟩,
 ⟨some 9, .nilchk (.t 8), none, true, []⟩,
 ⟨some 10, .faddr (.t 9) 55, none, true, []⟩,
 ⟨some 11, .ld1 (.t 10), none, true, []⟩,
 ⟨some 12, .un .not (.t 11), none, true, []⟩]
def C20r2 : List AOper := [⟨some 4, .mv (.k (.c (.bool false))), none, true, []⟩]
def C20r3 : List AOper := [⟨some 13, .mv (.t 0), none, true, []⟩,
 ⟨some 14, .nilchk (.t 13), none, true, []⟩,
 ⟨some 15, .faddr (.t 14) 54, none, true, []⟩,
 ⟨some 16, .ld1 (.t 15), none, true, []⟩,
 ⟨some 17, .bin .sub (.t 16) (.k (.c (.int .i64 1))), none, true, []⟩,
 ⟨some 5, .mv (.t 17), none, true, []⟩]
def C20r4 : List AOper := [⟨some 18, .mv (.t 0), none, true, []⟩,
 ⟨some 19, .nilchk (.t 18), none, true, []⟩,
 ⟨some 20, .faddr (.t 19) 55, none, true, []⟩,
 ⟨none, .st1 (.t 20) (.k (.c (.bool false))), none, true, []⟩]
def C20r5 : List AOper := [⟨some 21, .mv (.t 0), none, true, []⟩,
 ⟨some 22, .nilchk (.t 21), none, true, []⟩,
 ⟨some 23, .faddr (.t 22) 0, none, true, []⟩,
 ⟨some 24, .faddr (.t 23) 3, none, true, []⟩,
 ⟨some 25, .ld1 (.t 24), none, true, []⟩,
 ⟨some 26, .mv (.t 5), none, true, []⟩,
 ⟨some 27, .iaddr 6 (.t 25) (.t 26), none, true, []⟩,
 ⟨some 28, .ldn 6 (.t 27), none, true, []⟩,
 ⟨some 6, .alloc 39 [.c (.int .i64 0), .c (.int .i64 0), .c (.int .i64 0), .c (.int .i64 0), .c (.int .i64 0), .c (.int .u64 0)], none, true, []⟩,
 ⟨none, .stn 6 (.t 6) (.t 28), none, true, []⟩]
def C20r6 : List AOper := [⟨some 29, .ldn 6 (.t 6), none, true, []⟩,
 ⟨some 30, .call (.k (.c (.fn 41 [] []))) [(.t 29)], none, true, []⟩,
 ⟨some 7, .mv (.t 30), none, true, []⟩]
def C20r7 : List AOper := [⟨some 32, .mv (.t 7), none, true, []⟩,
 ⟨some 33, .un .not (.t 32), none, true, []⟩,
 ⟨some 31, .mv (.t 33), none, true, []⟩]
def C20r8 : List AOper := [⟨some 35, .faddr (.t 3) 2, none, true, []⟩,
 ⟨some 36, .ld1 (.t 35), none, true, []⟩,
 ⟨some 37, .bin .neq (.t 36) (.k (.c (.int .i64 0))), none, true, []⟩,
 ⟨some 34, .mv (.t 37), none, true, []⟩]
def C20r9 : List AOper := [⟨some 38, .mv (.t 0), none, true, []⟩,
 ⟨some 39, .nilchk (.t 38), none, true, []⟩,
 ⟨some 40, .faddr (.t 39) 66, none, true, []⟩,
 ⟨none, .st1 (.t 40) (.k (.c (.bool true))), none, true, []⟩]
def C20r10 : List AOper := [⟨some 41, .mv (.t 0), none, true, []⟩,
 ⟨some 42, .nilchk (.t 41), none, true, []⟩,
 ⟨some 43, .faddr (.t 42) 67, none, true, []⟩,
 ⟨none, .st1 (.t 43) (.k (.c (.bool true))), none, true, []⟩]
def C20r11 : List AOper := [⟨some 45, .faddr (.t 6) 0, none, true, []⟩,
 ⟨some 46, .ld1 (.t 45), none, true, []⟩,
 ⟨some 47, .bin .eql (.t 46) (.k (.c (.int .i64 12))), none, true, []⟩,
 ⟨some 44, .mv (.t 47), none, true, []⟩]
def C20r12 : List AOper := [⟨some 48, .mv (.t 0), none, true, []⟩,
 ⟨some 49, .nilchk (.t 48), none, true, []⟩,
 ⟨some 50, .faddr (.t 49) 53, none, true, []⟩,
 ⟨some 51, .ld1 (.t 50), none, true, []⟩,
 ⟨some 52, .mv (.t 5), none, true, []⟩,
 ⟨some 53, .iaddr 1 (.t 51) (.t 52), none, true, []⟩,
 ⟨none, .st1 (.t 53) (.k (.c (.int .u64 1))), none, true, []⟩]
def C20r13 : List AOper := [⟨some 54, .faddr (.t 3) 1, none, true, []⟩,
 ⟨some 55, .ld1 (.t 54), none, true, []⟩]
def C20r14 : List AOper := [⟨some 56, .mv (.t 0), none, true, []⟩,
 ⟨some 57, .nilchk (.t 56), none, true, []⟩,
 ⟨some 58, .faddr (.t 57) 53, none, true, []⟩,
 ⟨some 59, .ld1 (.t 58), none, true, []⟩,
 ⟨some 60, .mv (.t 5), none, true, []⟩,
 ⟨some 61, .iaddr 1 (.t 59) (.t 60), none, true, []⟩,
 ⟨none, .st1 (.t 61) (.k (.c (.int .u64 0))), none, true, []⟩]
def C20r15 : List AOper := [⟨some 63, .faddr (.t 6) 0, none, true, []⟩,
 ⟨some 64, .ld1 (.t 63), none, true, []⟩,
 ⟨some 65, .bin .neq (.t 64) (.k (.c (.int .i64 10))), none, true, []⟩,
 ⟨some 62, .mv (.t 65), none, true, []⟩]
def C20r16 : List AOper := [⟨some 66, .mv (.t 0), none, false, []⟩,
 ⟨some 67, .nilchk (.t 66), none, false, []⟩,
 ⟨some 68, .faddr (.t 67) 53, none, false, []⟩,
 ⟨some 69, .ld1 (.t 68), none, false, []⟩,
 ⟨some 70, .mv (.t 5), none, false, []⟩,
 ⟨some 71, .faddr (.t 3) 0, none, false, []⟩,
 ⟨some 72, .ld1 (.t 71), none, false, []⟩,
 ⟨some 73, .iaddr 1 (.t 69) (.t 70), none, true, []⟩,
 ⟨none, .st1 (.t 73) (.t 72), none, true, []⟩]
def C20r17 : List AOper := [⟨some 4, .mv (.k (.c (.bool true))), none, true, []⟩]
def C20 : ACode :=
 .seq (.region C20r0)
 (.seq (.seq (.region C20r1)
 (.cond (.t 12)
 (.seq (.region C20r2)
 (.ret))
 (.skip)))
 (.seq (.region C20r3)
 (.seq (.region C20r4)
 (.seq (.region C20r5)
 (.seq (.region C20r6)
 (.seq (.block 0
 (.seq (.region C20r7)
 (.cond (.t 31)
 (.skip)
 (.seq (.region C20r8)
 (.cond (.t 34)
 (.seq (.region C20r9)
 (.region C20r10))
 (.seq (.region C20r11)
 (.cond (.t 44)
 (.seq (.region C20r12)
 (.seq (.region C20r13)
 (.cond (.t 55)
 (.region C20r14)
 (.skip))))
 (.seq (.region C20r15)
 (.cond (.t 62)
 (.region C20r16)
 (.skip))))))))))
 (.seq (.region C20r17)
 (.ret))))))))
theorem C20_ok : stripF Try.prog Try.f20 = some C20 := by kernel_rfl
def C33r0 : List AOper := [⟨some 6, .mv (.k (.c (.bool false))), none, true, []⟩]
def C33r1 : List AOper := [⟨some 7, .mv (.t 0), none, true, []⟩,
 ⟨some 8, .mv (.t 1), none, true, []⟩,
 ⟨some 9, .bin .geq (.t 7) (.t 8), none, true, []⟩,
 ⟨some 10, .mv (.t 9), none, true, []⟩,
 ⟨some 11, .mv (.t 0), some (10, true), true, []⟩,
 ⟨some 12, .mv (.t 2), some (10, true), true, []⟩,
 ⟨some 13, .bin .leq (.t 11) (.t 12), some (10, true), true, []⟩,
 ⟨some 14, .pick 10 (.t 13) (.k (.c (.bool false))), none, true, []⟩,
 ⟨some 6, .mv (.t 14), none, true, []⟩]
def C33 : ACode :=
 .seq (.region C33r0)
 (.seq (.region C33r1)
 (.ret))
theorem C33_ok : stripF Try.prog Try.f33 = some C33 := by kernel_rfl
def C34r0 : List AOper := [⟨some 1, .box 39 (.t 0), none, true, []⟩,
 ⟨some 2, .mv (.k (.c (.bool false))), none, true, []⟩]
def C34r1 : List AOper := [⟨some 6, .faddr (.t 1) 1, none, true, []⟩,
 ⟨some 7, .ld1 (.t 6), none, true, []⟩,
 ⟨some 8, .bin .eql (.t 7) (.k (.c (.int .i64 0))), none, true, []⟩,
 ⟨some 3, .mv (.t 8), none, true, []⟩]
def C34r2 : List AOper := [⟨some 9, .faddr (.t 1) 4, none, true, []⟩,
 ⟨some 10, .ld1 (.t 9), none, true, []⟩,
 ⟨some 11, .bin .eql (.t 10) (.k (.c (.int .i64 0))), none, true, []⟩,
 ⟨some 4, .mv (.t 11), none, true, []⟩]
def C34r3 : List AOper := [⟨some 12, .faddr (.t 1) 5, none, true, []⟩,
 ⟨some 13, .ld1 (.t 12), none, true, []⟩,
 ⟨some 14, .bin .eql (.t 13) (.k (.c (.int .u64 0))), none, true, []⟩,
 ⟨some 5, .mv (.t 14), none, true, []⟩]
def C34r4 : List AOper := [⟨some 15, .faddr (.t 1) 0, none, true, []⟩,
 ⟨some 16, .ld1 (.t 15), none, true, []⟩]
def C34r5 : List AOper := [⟨some 18, .bin .eql (.t 16) (.k (.c (.int .i64 1))), none, true, []⟩,
 ⟨some 17, .mv (.t 18), none, true, []⟩]
def C34r6 : List AOper := [⟨some 19, .bin .eql (.t 16) (.k (.c (.int .i64 15))), none, true, []⟩,
 ⟨some 17, .mv (.t 19), none, true, []⟩]
def C34r7 : List AOper := [⟨some 20, .bin .eql (.t 16) (.k (.c (.int .i64 16))), none, true, []⟩,
 ⟨some 17, .mv (.t 20), none, true, []⟩]
def C34r8 : List AOper := [⟨some 5, .mv (.k (.c (.bool true))), none, true, []⟩]
def C34r9 : List AOper := [⟨some 22, .bin .eql (.t 16) (.k (.c (.int .i64 14))), none, true, []⟩,
 ⟨some 21, .mv (.t 22), none, true, []⟩]
def C34r10 : List AOper := [⟨some 23, .faddr (.t 1) 5, none, true, []⟩,
 ⟨some 24, .ld1 (.t 23), none, true, []⟩,
 ⟨some 25, .bin .rem (.t 24) (.k (.c (.int .u64 4))), none, true, []⟩,
 ⟨some 26, .bin .eql (.t 25) (.k (.c (.int .u64 0))), none, true, []⟩,
 ⟨some 5, .mv (.t 26), none, true, []⟩]
def C34r11 : List AOper := [⟨some 28, .bin .eql (.t 16) (.k (.c (.int .i64 18))), none, true, []⟩,
 ⟨some 27, .mv (.t 28), none, true, []⟩]
def C34r12 : List AOper := [⟨some 29, .faddr (.t 1) 5, none, true, []⟩,
 ⟨some 30, .ld1 (.t 29), none, true, []⟩,
 ⟨some 31, .bin .lss (.t 30) (.k (.c (.int .u64 4294967296))), none, true, []⟩,
 ⟨some 5, .mv (.t 31), none, true, []⟩]
def C34r13 : List AOper := [⟨some 33, .bin .eql (.t 16) (.k (.c (.int .i64 2))), none, true, []⟩,
 ⟨some 32, .mv (.t 33), none, true, []⟩]
def C34r14 : List AOper := [⟨some 34, .bin .eql (.t 16) (.k (.c (.int .i64 3))), none, true, []⟩,
 ⟨some 32, .mv (.t 34), none, true, []⟩]
def C34r15 : List AOper := [⟨some 35, .faddr (.t 1) 1, none, true, []⟩,
 ⟨some 36, .ld1 (.t 35), none, true, []⟩,
 ⟨some 37, .call (.k (.c (.fn 33 [] []))) [(.t 36), (.k (.c (.int .i64 0))), (.k (.c (.int .i64 30)))], none, true, []⟩,
 ⟨some 3, .mv (.t 37), none, true, []⟩]
def C34r16 : List AOper := [⟨some 39, .bin .eql (.t 16) (.k (.c (.int .i64 6))), none, true, []⟩,
 ⟨some 38, .mv (.t 39), none, true, []⟩]
def C34r17 : List AOper := [⟨some 40, .bin .eql (.t 16) (.k (.c (.int .i64 7))), none, true, []⟩,
 ⟨some 38, .mv (.t 40), none, true, []⟩]
def C34r18 : List AOper := [⟨some 41, .faddr (.t 1) 1, none, true, []⟩,
 ⟨some 42, .ld1 (.t 41), none, true, []⟩,
 ⟨some 43, .call (.k (.c (.fn 33 [] []))) [(.t 42), (.k (.c (.int .i64 0))), (.k (.c (.int .i64 3)))], none, true, []⟩,
 ⟨some 3, .mv (.t 43), none, true, []⟩]
def C34r19 : List AOper := [⟨some 45, .bin .eql (.t 16) (.k (.c (.int .i64 8))), none, true, []⟩,
 ⟨some 44, .mv (.t 45), none, true, []⟩]
def C34r20 : List AOper := [⟨some 46, .faddr (.t 1) 1, none, true, []⟩,
 ⟨some 47, .ld1 (.t 46), none, true, []⟩,
 ⟨some 48, .call (.k (.c (.fn 33 [] []))) [(.t 47), (.k (.c (.int .i64 1))), (.k (.c (.int .i64 15)))], none, true, []⟩,
 ⟨some 3, .mv (.t 48), none, true, []⟩]
def C34r21 : List AOper := [⟨some 50, .bin .eql (.t 16) (.k (.c (.int .i64 13))), none, true, []⟩,
 ⟨some 49, .mv (.t 50), none, true, []⟩]
def C34r22 : List AOper := [⟨some 51, .faddr (.t 1) 1, none, true, []⟩,
 ⟨some 52, .ld1 (.t 51), none, true, []⟩,
 ⟨some 53, .bin .eql (.t 52) (.k (.c (.int .i64 13))), none, true, []⟩,
 ⟨some 54, .mv (.t 53), none, true, []⟩,
 ⟨some 55, .faddr (.t 1) 1, some (54, false), true, []⟩,
 ⟨some 56, .ld1 (.t 55), some (54, false), true, []⟩,
 ⟨some 57, .bin .eql (.t 56) (.k (.c (.int .i64 10))), some (54, false), true, []⟩,
 ⟨some 58, .pick 54 (.k (.c (.bool true))) (.t 57), none, true, []⟩,
 ⟨some 59, .mv (.t 58), none, true, []⟩,
 ⟨some 60, .faddr (.t 1) 1, some (59, false), true, []⟩,
 ⟨some 61, .ld1 (.t 60), some (59, false), true, []⟩,
 ⟨some 62, .bin .eql (.t 61) (.k (.c (.int .i64 15))), some (59, false), true, []⟩,
 ⟨some 63, .pick 59 (.k (.c (.bool true))) (.t 62), none, true, []⟩,
 ⟨some 3, .mv (.t 63), none, true, []⟩]
def C34r23 : List AOper := [⟨some 65, .bin .eql (.t 16) (.k (.c (.int .i64 9))), none, true, []⟩,
 ⟨some 64, .mv (.t 65), none, true, []⟩]
def C34r24 : List AOper := [⟨some 66, .faddr (.t 1) 4, none, true, []⟩,
 ⟨some 67, .ld1 (.t 66), none, true, []⟩,
 ⟨some 68, .call (.k (.c (.fn 33 [] []))) [(.t 67), (.k (.c (.int .i64 0))), (.k (.c (.int .i64 2)))], none, true, []⟩,
 ⟨some 4, .mv (.t 68), none, true, []⟩]
def C34r25 : List AOper := [⟨some 70, .bin .eql (.t 16) (.k (.c (.int .i64 11))), none, true, []⟩,
 ⟨some 69, .mv (.t 70), none, true, []⟩]
def C34r26 : List AOper := [⟨some 71, .faddr (.t 1) 4, none, true, []⟩,
 ⟨some 72, .ld1 (.t 71), none, true, []⟩,
 ⟨some 73, .bin .eql (.t 72) (.k (.c (.int .i64 0))), none, true, []⟩,
 ⟨some 74, .mv (.t 73), none, true, []⟩,
 ⟨some 75, .faddr (.t 1) 4, some (74, false), true, []⟩,
 ⟨some 76, .ld1 (.t 75), some (74, false), true, []⟩,
 ⟨some 77, .bin .eql (.t 76) (.k (.c (.int .i64 2))), some (74, false), true, []⟩,
 ⟨some 78, .pick 74 (.k (.c (.bool true))) (.t 77), none, true, []⟩,
 ⟨some 4, .mv (.t 78), none, true, []⟩]
def C34r27 : List AOper := [⟨some 80, .bin .eql (.t 16) (.k (.c (.int .i64 10))), none, true, []⟩,
 ⟨some 79, .mv (.t 80), none, true, []⟩]
def C34r28 : List AOper := [⟨some 81, .bin .eql (.t 16) (.k (.c (.int .i64 12))), none, true, []⟩,
 ⟨some 79, .mv (.t 81), none, true, []⟩]
def C34r29 : List AOper := [⟨some 82, .faddr (.t 1) 4, none, true, []⟩,
 ⟨some 83, .ld1 (.t 82), none, true, []⟩,
 ⟨some 84, .bin .eql (.t 83) (.k (.c (.int .i64 0))), none, true, []⟩,
 ⟨some 85, .mv (.t 84), none, true, []⟩,
 ⟨some 86, .faddr (.t 1) 4, some (85, false), true, []⟩,
 ⟨some 87, .ld1 (.t 86), some (85, false), true, []⟩,
 ⟨some 88, .bin .eql (.t 87) (.k (.c (.int .i64 4))), some (85, false), true, []⟩,
 ⟨some 89, .pick 85 (.k (.c (.bool true))) (.t 88), none, true, []⟩,
 ⟨some 4, .mv (.t 89), none, true, []⟩]
def C34r30 : List AOper := [⟨some 91, .bin .eql (.t 16) (.k (.c (.int .i64 4))), none, true, []⟩,
 ⟨some 90, .mv (.t 91), none, true, []⟩]
def C34r31 : List AOper := [⟨some 92, .bin .eql (.t 16) (.k (.c (.int .i64 5))), none, true, []⟩,
 ⟨some 90, .mv (.t 92), none, true, []⟩]
def C34r32 : List AOper := [⟨some 93, .bin .eql (.t 16) (.k (.c (.int .i64 17))), none, true, []⟩,
 ⟨some 90, .mv (.t 93), none, true, []⟩]
def C34r33 : List AOper := [⟨some 2, .mv (.k (.c (.bool false))), none, true, []⟩]
def C34r34 : List AOper := [⟨some 94, .mv (.t 3), none, true, []⟩,
 ⟨some 95, .mv (.t 94), none, true, []⟩,
 ⟨some 96, .mv (.t 4), some (95, true), true, []⟩,
 ⟨some 97, .pick 95 (.t 96) (.k (.c (.bool false))), none, true, []⟩,
 ⟨some 98, .mv (.t 97), none, true, []⟩,
 ⟨some 99, .mv (.t 5), some (98, true), true, []⟩,
 ⟨some 100, .pick 98 (.t 99) (.k (.c (.bool false))), none, true, []⟩,
 ⟨some 2, .mv (.t 100), none, true, []⟩]
def C34 : ACode :=
 .seq (.region C34r0)
 (.seq (.region C34r1)
 (.seq (.region C34r2)
 (.seq (.region C34r3)
 (.seq (.seq (.region C34r4)
 (.block 0
 (.seq (.seq (.region C34r5)
 (.cond (.t 17)
 (.skip)
 (.seq (.region C34r6)
 (.cond (.t 17)
 (.skip)
 (.region C34r7)))))
 (.cond (.t 17)
 (.region C34r8)
 (.seq (.region C34r9)
 (.cond (.t 21)
 (.region C34r10)
 (.seq (.region C34r11)
 (.cond (.t 27)
 (.region C34r12)
 (.seq (.seq (.region C34r13)
 (.cond (.t 32)
 (.skip)
 (.region C34r14)))
 (.cond (.t 32)
 (.region C34r15)
 (.seq (.seq (.region C34r16)
 (.cond (.t 38)
 (.skip)
 (.region C34r17)))
 (.cond (.t 38)
 (.region C34r18)
 (.seq (.region C34r19)
 (.cond (.t 44)
 (.region C34r20)
 (.seq (.region C34r21)
 (.cond (.t 49)
 (.region C34r22)
 (.seq (.region C34r23)
 (.cond (.t 64)
 (.region C34r24)
 (.seq (.region C34r25)
 (.cond (.t 69)
 (.region C34r26)
 (.seq (.seq (.region C34r27)
 (.cond (.t 79)
 (.skip)
 (.region C34r28)))
 (.cond (.t 79)
 (.region C34r29)
 (.seq (.seq (.region C34r30)
 (.cond (.t 90)
 (.skip)
 (.seq (.region C34r31)
 (.cond (.t 90)
 (.skip)
 (.region C34r32)))))
 (.cond (.t 90)
 (.skip)
 (.seq (.region C34r33)
 (.ret))))))))))))))))))))))))))
 (.seq (.region C34r34)
 (.ret))))))
theorem C34_ok : stripF Try.prog Try.f34 = some C34 := by kernel_rfl
def C35r0 : List AOper := [⟨some 1, .box 39 (.t 0), none, true, []⟩,
 ⟨some 2, .mv (.k (.c (.nils))), none, true, []⟩]
def C35r1 : List AOper := [⟨some 3, .faddr (.t 1) 0, none, true, []⟩,
 ⟨some 4, .ld1 (.t 3), none, true, []⟩,
 ⟨some 5, .call (.k (.c (.fn 53 [] []))) [(.t 4)], none, true, []⟩]
def C35r2 : List AOper := [⟨some 7, .bin .eql (.t 5) (.k (.c (.int .i64 1))), none, true, []⟩,
 ⟨some 6, .mv (.t 7), none, true, []⟩]
def C35r3 : List AOper := [⟨some 8, .faddr (.t 1) 2, none, true, []⟩,
 ⟨some 9, .ld1 (.t 8), none, true, []⟩,
 ⟨some 10, .bslice 3 1 [.c (.int .i64 0)] 1 [(0, 1, (.t 9))], none, true, []⟩,
 ⟨some 2, .mv (.t 10), none, true, []⟩]
def C35r4 : List AOper := [⟨some 12, .bin .eql (.t 5) (.k (.c (.int .i64 2))), none, true, []⟩,
 ⟨some 11, .mv (.t 12), none, true, []⟩]
def C35r5 : List AOper := [⟨some 13, .faddr (.t 1) 2, none, true, []⟩,
 ⟨some 14, .ld1 (.t 13), none, true, []⟩,
 ⟨some 15, .faddr (.t 1) 3, none, true, []⟩,
 ⟨some 16, .ld1 (.t 15), none, true, []⟩,
 ⟨some 17, .bslice 3 1 [.c (.int .i64 0)] 2 [(0, 1, (.t 14)), (1, 1, (.t 16))], none, true, []⟩,
 ⟨some 2, .mv (.t 17), none, true, []⟩]
def C35r6 : List AOper := [⟨some 2, .mv (.k (.c (.nils))), none, true, []⟩]
def C35 : ACode :=
 .seq (.region C35r0)
 (.seq (.seq (.region C35r1)
 (.block 0
 (.seq (.region C35r2)
 (.cond (.t 6)
 (.seq (.region C35r3)
 (.ret))
 (.seq (.region C35r4)
 (.cond (.t 11)
 (.seq (.region C35r5)
 (.ret))
 (.skip)))))))
 (.seq (.region C35r6)
 (.ret)))
theorem C35_ok : stripF Try.prog Try.f35 = some C35 := by kernel_rfl
def C36r0 : List AOper := [⟨some 1, .box 39 (.t 0), none, true, []⟩,
 ⟨some 2, .mv (.k (.c (.bool false))), none, true, []⟩]
def C36r1 : List AOper := [⟨some 3, .faddr (.t 1) 0, none, true, []⟩,
 ⟨some 4, .ld1 (.t 3), none, true, []⟩]
def C36r2 : List AOper := [⟨some 6, .bin .eql (.t 4) (.k (.c (.int .i64 1))), none, true, []⟩,
 ⟨some 5, .mv (.t 6), none, true, []⟩]
def C36r3 : List AOper := [⟨some 7, .bin .eql (.t 4) (.k (.c (.int .i64 2))), none, true, []⟩,
 ⟨some 5, .mv (.t 7), none, true, []⟩]
def C36r4 : List AOper := [⟨some 8, .bin .eql (.t 4) (.k (.c (.int .i64 4))), none, true, []⟩,
 ⟨some 5, .mv (.t 8), none, true, []⟩]
def C36r5 : List AOper := [⟨some 9, .bin .eql (.t 4) (.k (.c (.int .i64 6))), none, true, []⟩,
 ⟨some 5, .mv (.t 9), none, true, []⟩]
def C36r6 : List AOper := [⟨some 10, .bin .eql (.t 4) (.k (.c (.int .i64 8))), none, true, []⟩,
 ⟨some 5, .mv (.t 10), none, true, []⟩]
def C36r7 : List AOper := [⟨some 11, .bin .eql (.t 4) (.k (.c (.int .i64 9))), none, true, []⟩,
 ⟨some 5, .mv (.t 11), none, true, []⟩]
def C36r8 : List AOper := [⟨some 12, .bin .eql (.t 4) (.k (.c (.int .i64 11))), none, true, []⟩,
 ⟨some 5, .mv (.t 12), none, true, []⟩]
def C36r9 : List AOper := [⟨some 13, .bin .eql (.t 4) (.k (.c (.int .i64 12))), none, true, []⟩,
 ⟨some 5, .mv (.t 13), none, true, []⟩]
def C36r10 : List AOper := [⟨some 2, .mv (.k (.c (.bool true))), none, true, []⟩]
def C36r11 : List AOper := [⟨some 2, .mv (.k (.c (.bool false))), none, true, []⟩]
def C36 : ACode :=
 .seq (.region C36r0)
 (.seq (.seq (.region C36r1)
 (.block 0
 (.seq (.seq (.region C36r2)
 (.cond (.t 5)
 (.skip)
 (.seq (.region C36r3)
 (.cond (.t 5)
 (.skip)
 (.seq (.region C36r4)
 (.cond (.t 5)
 (.skip)
 (.seq (.region C36r5)
 (.cond (.t 5)
 (.skip)
 (.seq (.region C36r6)
 (.cond (.t 5)
 (.skip)
 (.seq (.region C36r7)
 (.cond (.t 5)
 (.skip)
 (.seq (.region C36r8)
 (.cond (.t 5)
 (.skip)
 (.region C36r9)))))))))))))))
 (.cond (.t 5)
 (.seq (.region C36r10)
 (.ret))
 (.skip)))))
 (.seq (.region C36r11)
 (.ret)))
theorem C36_ok : stripF Try.prog Try.f36 = some C36 := by kernel_rfl
def C41r0 : List AOper := [⟨some 1, .box 39 (.t 0), none, true, []⟩,
 ⟨some 2, .mv (.k (.c (.bool false))), none, true, []⟩]
def C41r1 : List AOper := [⟨some 3, .faddr (.t 1) 0, none, true, []⟩,
 ⟨some 4, .ld1 (.t 3), none, true, []⟩]
def C41r2 : List AOper := [⟨some 6, .bin .eql (.t 4) (.k (.c (.int .i64 9))), none, true, []⟩,
 ⟨some 5, .mv (.t 6), none, true, []⟩]
def C41r3 : List AOper := [⟨some 7, .bin .eql (.t 4) (.k (.c (.int .i64 10))), none, true, []⟩,
 ⟨some 5, .mv (.t 7), none, true, []⟩]
def C41r4 : List AOper := [⟨some 8, .bin .eql (.t 4) (.k (.c (.int .i64 11))), none, true, []⟩,
 ⟨some 5, .mv (.t 8), none, true, []⟩]
def C41r5 : List AOper := [⟨some 9, .bin .eql (.t 4) (.k (.c (.int .i64 12))), none, true, []⟩,
 ⟨some 5, .mv (.t 9), none, true, []⟩]
def C41r6 : List AOper := [⟨some 2, .mv (.k (.c (.bool true))), none, true, []⟩]
def C41r7 : List AOper := [⟨some 2, .mv (.k (.c (.bool false))), none, true, []⟩]
def C41 : ACode :=
 .seq (.region C41r0)
 (.seq (.seq (.region C41r1)
 (.block 0
 (.seq (.seq (.region C41r2)
 (.cond (.t 5)
 (.skip)
 (.seq (.region C41r3)
 (.cond (.t 5)
 (.skip)
 (.seq (.region C41r4)
 (.cond (.t 5)
 (.skip)
 (.region C41r5)))))))
 (.cond (.t 5)
 (.seq (.region C41r6)
 (.ret))
 (.skip)))))
 (.seq (.region C41r7)
 (.ret)))
theorem C41_ok : stripF Try.prog Try.f41 = some C41 := by kernel_rfl
def C44r0 : List AOper := [⟨some 1, .box 43 (.t 0), none, true, []⟩,
 ⟨some 2, .mv (.k (.c (.bool false))), none, true, []⟩]
def C44r1 : List AOper := [⟨some 3, .faddr (.t 1) 38, none, true, []⟩,
 ⟨some 4, .ld1 (.t 3), none, true, []⟩,
 ⟨some 5, .bin .eql (.t 4) (.k (.c (.int .i64 0))), none, true, []⟩,
 ⟨some 6, .mv (.t 5), none, true, []⟩,
 ⟨some 7, .faddr (.t 1) 38, some (6, false), true, []⟩,
 ⟨some 8, .ld1 (.t 7), some (6, false), true, []⟩,
 ⟨some 9, .bin .eql (.t 8) (.k (.c (.int .i64 1))), some (6, false), true, []⟩,
 ⟨some 10, .pick 6 (.k (.c (.bool true))) (.t 9), none, true, []⟩,
 ⟨some 11, .mv (.t 10), none, true, []⟩,
 ⟨some 12, .faddr (.t 1) 47, some (11, true), true, []⟩,
 ⟨some 13, .ld1 (.t 12), some (11, true), true, []⟩,
 ⟨some 14, .bin .geq (.t 13) (.k (.c (.int .i64 0))), some (11, true), true, []⟩,
 ⟨some 15, .pick 11 (.t 14) (.k (.c (.bool false))), none, true, []⟩,
 ⟨some 16, .mv (.t 15), none, true, []⟩,
 ⟨some 17, .faddr (.t 1) 47, some (16, true), true, []⟩,
 ⟨some 18, .ld1 (.t 17), some (16, true), true, []⟩,
 ⟨some 19, .bin .leq (.t 18) (.k (.c (.int .i64 2))), some (16, true), true, []⟩,
 ⟨some 20, .pick 16 (.t 19) (.k (.c (.bool false))), none, true, []⟩,
 ⟨some 21, .mv (.t 20), none, true, []⟩,
 ⟨some 22, .faddr (.t 1) 46, some (21, true), true, []⟩,
 ⟨some 23, .ld1 (.t 22), some (21, true), true, []⟩,
 ⟨some 24, .bin .geq (.t 23) (.k (.c (.int .i64 0))), some (21, true), true, []⟩,
 ⟨some 25, .pick 21 (.t 24) (.k (.c (.bool false))), none, true, []⟩,
 ⟨some 26, .mv (.t 25), none, true, []⟩,
 ⟨some 27, .faddr (.t 1) 46, some (26, true), true, []⟩,
 ⟨some 28, .ld1 (.t 27), some (26, true), true, []⟩,
 ⟨some 29, .bin .leq (.t 28) (.k (.c (.int .i64 7))), some (26, true), true, []⟩,
 ⟨some 30, .pick 26 (.t 29) (.k (.c (.bool false))), none, true, []⟩,
 ⟨some 2, .mv (.t 30), none, true, []⟩]
def C44 : ACode :=
 .seq (.region C44r0)
 (.seq (.region C44r1)
 (.ret))
theorem C44_ok : stripF Try.prog Try.f44 = some C44 := by kernel_rfl
def C45r0 : List AOper := [⟨some 3, .box 39 (.t 1), none, true, []⟩]
def C45r1 : List AOper := [⟨some 7, .mv (.t 0), none, true, []⟩,
 ⟨some 8, .nilchk (.t 7), none, true, []⟩,
 ⟨some 9, .faddr (.t 8) 54, none, true, []⟩,
 ⟨some 10, .ld1 (.t 9), none, true, []⟩,
 ⟨some 4, .mv (.t 10), none, true, []⟩]
def C45r2 : List AOper := [⟨some 11, .mv (.t 0), none, true, []⟩,
 ⟨some 12, .nilchk (.t 11), none, true, []⟩,
 ⟨some 13, .faddr (.t 12) 54, none, true, []⟩,
 ⟨some 14, .ld1 (.t 13), none, true, []⟩,
 ⟨some 15, .bin .add (.t 14) (.k (.c (.int .i64 1))), none, true, []⟩,
 ⟨some 16, .nilchk (.t 11), none, true, []⟩,
 ⟨some 17, .faddr (.t 16) 54, none, true, []⟩,
 ⟨none, .st1 (.t 17) (.t 15), none, true, []⟩]
def C45r3 : List AOper := [⟨some 18, .mv (.t 0), none, false, []⟩,
 ⟨some 19, .nilchk (.t 18), none, false, []⟩,
 ⟨some 20, .faddr (.t 19) 53, none, false, []⟩,
 ⟨some 21, .ld1 (.t 20), none, false, []⟩,
 ⟨some 22, .faddr (.t 3) 2, none, false, []⟩,
 ⟨some 23, .ld1 (.t 22), none, false, []⟩,
 ⟨some 24, .iaddr 1 (.t 21) (.t 23), none, true, []⟩,
 ⟨some 25, .ld1 (.t 24), none, true, []⟩,
 ⟨some 5, .mv (.t 25), none, true, []⟩]
def C45r4 : List AOper := [⟨some 26, .mv (.t 0), none, false, []⟩,
 ⟨some 27, .nilchk (.t 26), none, false, []⟩,
 ⟨some 28, .faddr (.t 27) 53, none, false, []⟩,
 ⟨some 29, .ld1 (.t 28), none, false, []⟩,
 ⟨some 30, .faddr (.t 3) 3, none, false, []⟩,
 ⟨some 31, .ld1 (.t 30), none, false, []⟩,
 ⟨some 32, .iaddr 1 (.t 29) (.t 31), none, true, []⟩,
 ⟨some 33, .ld1 (.t 32), none, true, []⟩,
 ⟨some 6, .mv (.t 33), none, true, []⟩]
def C45r5 : List AOper := [⟨some 34, .faddr (.t 3) 0, none, true, []⟩,
 ⟨some 35, .ld1 (.t 34), none, true, []⟩]
def C45r6 : List AOper := [⟨some 42, .bin .eql (.t 35) (.k (.c (.int .i64 1))), none, true, []⟩,
 ⟨some 41, .mv (.t 42), none, true, []⟩]
def C45r7 : List AOper := [⟨some 43, .mv (.t 0), none, false, []⟩,
 ⟨some 44, .nilchk (.t 43), none, false, []⟩,
 ⟨some 45, .faddr (.t 44) 53, none, false, []⟩,
 ⟨some 46, .ld1 (.t 45), none, false, []⟩,
 ⟨some 47, .mv (.t 4), none, false, []⟩,
 ⟨some 48, .faddr (.t 3) 5, none, false, []⟩,
 ⟨some 49, .ld1 (.t 48), none, false, []⟩,
 ⟨some 50, .iaddr 1 (.t 46) (.t 47), none, true, []⟩,
 ⟨none, .st1 (.t 50) (.t 49), none, true, []⟩]
def C45r8 : List AOper := [⟨some 52, .bin .eql (.t 35) (.k (.c (.int .i64 2))), none, true, []⟩,
 ⟨some 51, .mv (.t 52), none, true, []⟩]
def C45r9 : List AOper := [⟨some 53, .mv (.t 0), none, false, []⟩,
 ⟨some 54, .nilchk (.t 53), none, false, []⟩,
 ⟨some 55, .faddr (.t 54) 53, none, false, []⟩,
 ⟨some 56, .ld1 (.t 55), none, false, []⟩,
 ⟨some 57, .mv (.t 4), none, false, []⟩,
 ⟨some 58, .mv (.t 0), none, false, []⟩,
 ⟨some 59, .faddr (.t 3) 1, none, false, []⟩,
 ⟨some 60, .ld1 (.t 59), none, false, []⟩,
 ⟨some 61, .nilchk (.t 58), none, false, []⟩,
 ⟨some 62, .faddr (.t 61) 4, none, false, []⟩,
 ⟨some 63, .faddr (.t 62) 0, none, false, []⟩,
 ⟨some 64, .iaddrA 31 (.t 63) (.t 60), none, false, []⟩,
 ⟨some 65, .ld1 (.t 64), none, false, []⟩,
 ⟨some 66, .iaddr 1 (.t 56) (.t 57), none, true, []⟩,
 ⟨none, .st1 (.t 66) (.t 65), none, true, []⟩]
def C45r10 : List AOper := [⟨some 68, .bin .eql (.t 35) (.k (.c (.int .i64 3))), none, true, []⟩,
 ⟨some 67, .mv (.t 68), none, true, []⟩]
def C45r11 : List AOper := [⟨some 69, .mv (.t 0), none, false, []⟩,
 ⟨some 70, .faddr (.t 3) 1, none, false, []⟩,
 ⟨some 71, .ld1 (.t 70), none, false, []⟩,
 ⟨some 72, .mv (.t 5), none, false, []⟩,
 ⟨some 73, .nilchk (.t 69), none, false, []⟩,
 ⟨some 74, .faddr (.t 73) 4, none, false, []⟩,
 ⟨some 75, .faddr (.t 74) 0, none, false, []⟩,
 ⟨some 76, .iaddrA 31 (.t 75) (.t 71), none, true, []⟩,
 ⟨none, .st1 (.t 76) (.t 72), none, true, []⟩]
def C45r12 : List AOper := [⟨some 78, .bin .eql (.t 35) (.k (.c (.int .i64 4))), none, true, []⟩,
 ⟨some 77, .mv (.t 78), none, true, []⟩]
def C45r13 : List AOper := [⟨some 79, .mv (.t 0), none, false, []⟩,
 ⟨some 80, .nilchk (.t 79), none, false, []⟩,
 ⟨some 81, .faddr (.t 80) 53, none, false, []⟩,
 ⟨some 82, .ld1 (.t 81), none, false, []⟩,
 ⟨some 83, .mv (.t 4), none, false, []⟩,
 ⟨some 84, .mv (.t 0), none, false, []⟩,
 ⟨some 85, .mv (.t 0), none, false, []⟩,
 ⟨some 86, .nilchk (.t 85), none, false, []⟩,
 ⟨some 87, .faddr (.t 86) 0, none, false, []⟩,
 ⟨some 88, .faddr (.t 87) 2, none, false, []⟩,
 ⟨some 89, .ld1 (.t 88), none, false, []⟩,
 ⟨some 90, .nilchk (.t 84), none, false, []⟩,
 ⟨some 91, .faddr (.t 90) 4, none, false, []⟩,
 ⟨some 92, .faddr (.t 91) 31, none, false, []⟩,
 ⟨some 93, .iaddrA 2 (.t 92) (.t 89), none, false, []⟩,
 ⟨some 94, .ld1 (.t 93), none, false, []⟩,
 ⟨some 95, .iaddr 1 (.t 82) (.t 83), none, true, []⟩,
 ⟨none, .st1 (.t 95) (.t 94), none, true, []⟩]
def C45r14 : List AOper := [⟨some 97, .bin .eql (.t 35) (.k (.c (.int .i64 5))), none, true, []⟩,
 ⟨some 96, .mv (.t 97), none, true, []⟩]
def C45r15 : List AOper := [⟨some 98, .mv (.t 0), none, false, []⟩,
 ⟨some 99, .mv (.t 0), none, false, []⟩,
 ⟨some 100, .nilchk (.t 99), none, false, []⟩,
 ⟨some 101, .faddr (.t 100) 0, none, false, []⟩,
 ⟨some 102, .faddr (.t 101) 2, none, false, []⟩,
 ⟨some 103, .ld1 (.t 102), none, false, []⟩,
 ⟨some 104, .mv (.t 5), none, false, []⟩,
 ⟨some 105, .nilchk (.t 98), none, false, []⟩,
 ⟨some 106, .faddr (.t 105) 4, none, false, []⟩,
 ⟨some 107, .faddr (.t 106) 31, none, false, []⟩,
 ⟨some 108, .iaddrA 2 (.t 107) (.t 103), none, true, []⟩,
 ⟨none, .st1 (.t 108) (.t 104), none, true, []⟩]
def C45r16 : List AOper := [⟨some 110, .bin .eql (.t 35) (.k (.c (.int .i64 6))), none, true, []⟩,
 ⟨some 109, .mv (.t 110), none, true, []⟩]
def C45r17 : List AOper := [⟨some 111, .mv (.t 0), none, false, []⟩,
 ⟨some 112, .nilchk (.t 111), none, false, []⟩,
 ⟨some 113, .faddr (.t 112) 53, none, false, []⟩,
 ⟨some 114, .ld1 (.t 113), none, false, []⟩,
 ⟨some 115, .mv (.t 4), none, false, []⟩,
 ⟨some 116, .mv (.t 0), none, false, []⟩,
 ⟨some 117, .nilchk (.t 116), none, false, []⟩,
 ⟨some 118, .faddr (.t 117) 4, none, false, []⟩,
 ⟨some 119, .ldn 49 (.t 118), none, false, []⟩,
 ⟨some 120, .faddr (.t 3) 1, none, false, []⟩,
 ⟨some 121, .ld1 (.t 120), none, false, []⟩,
 ⟨some 122, .call (.k (.c (.fn 61 [] []))) [(.t 119), (.t 121)], none, false, []⟩,
 ⟨some 123, .iaddr 1 (.t 114) (.t 115), none, true, []⟩,
 ⟨none, .st1 (.t 123) (.t 122), none, true, []⟩]
def C45r18 : List AOper := [⟨some 125, .bin .eql (.t 35) (.k (.c (.int .i64 7))), none, true, []⟩,
 ⟨some 124, .mv (.t 125), none, true, []⟩]
def C45r19 : List AOper := [⟨some 126, .mv (.t 0), none, true, []⟩,
 ⟨some 127, .faddr (.t 3) 1, none, true, []⟩,
 ⟨some 128, .ld1 (.t 127), none, true, []⟩,
 ⟨some 129, .mv (.t 5), none, true, []⟩,
 ⟨some 130, .bin .neq (.t 129) (.k (.c (.int .u64 0))), none, true, []⟩,
 ⟨some 131, .call (.k (.c (.fn 62 [] []))) [(.t 126), (.t 128), (.t 130)], none, true, []⟩]
def C45r20 : List AOper := [⟨some 133, .bin .eql (.t 35) (.k (.c (.int .i64 8))), none, true, []⟩,
 ⟨some 132, .mv (.t 133), none, true, []⟩]
def C45r21 : List AOper := [⟨some 135, .mv (.t 0), none, false, []⟩,
 ⟨some 136, .nilchk (.t 135), none, false, []⟩,
 ⟨some 137, .faddr (.t 136) 53, none, false, []⟩,
 ⟨some 138, .ld1 (.t 137), none, false, []⟩,
 ⟨some 139, .mv (.t 4), none, false, []⟩,
 ⟨some 140, .faddr (.t 3) 1, none, false, []⟩,
 ⟨some 141, .ld1 (.t 140), none, false, []⟩,
 ⟨some 142, .mv (.t 5), none, false, []⟩,
 ⟨some 143, .mv (.t 6), none, false, []⟩,
 ⟨some 144, .call (.k (.c (.fn 63 [] []))) [(.t 141), (.t 142), (.t 143)], none, false, []⟩,
 ⟨some 134, .mv (.t 144), none, false, []⟩,
 ⟨some 145, .ext (.t 134) 0, none, false, []⟩,
 ⟨some 146, .ext (.t 134) 1, none, false, []⟩,
 ⟨some 147, .iaddr 1 (.t 138) (.t 139), none, false, []⟩,
 ⟨none, .st1 (.t 147) (.t 145), none, true, []⟩]
def C45r22 : List AOper := [⟨some 149, .bin .eql (.t 35) (.k (.c (.int .i64 13))), none, true, []⟩,
 ⟨some 148, .mv (.t 149), none, true, []⟩]
def C45r23 : List AOper := [⟨some 150, .mv (.t 0), none, true, []⟩,
 ⟨some 151, .faddr (.t 3) 1, none, true, []⟩,
 ⟨some 152, .ld1 (.t 151), none, true, []⟩,
 ⟨some 153, .build [.c (.int .i64 0), .c (.int .u64 0), .c (.int .u64 0), .c (.int .i64 0), .c (.bool false), .c (.int .i64 0), .c (.bool false), .c (.int .i64 0), .c (.int .i64 0), .c (.int .i64 0)] [(0, 1, (.k (.c (.int .i64 6)))), (5, 1, (.t 152))], none, true, []⟩,
 ⟨some 154, .call (.k (.c (.fn 64 [] []))) [(.t 150), (.t 153)], none, true, []⟩]
def C45r24 : List AOper := [⟨some 156, .bin .eql (.t 35) (.k (.c (.int .i64 14))), none, true, []⟩,
 ⟨some 155, .mv (.t 156), none, true, []⟩]
def C45r25 : List AOper := [⟨some 157, .mv (.t 0), none, true, []⟩,
 ⟨some 158, .faddr (.t 3) 5, none, true, []⟩,
 ⟨some 159, .ld1 (.t 158), none, true, []⟩,
 ⟨some 160, .nilchk (.t 157), none, true, []⟩,
 ⟨some 161, .faddr (.t 160) 4, none, true, []⟩,
 ⟨some 162, .faddr (.t 161) 33, none, true, []⟩,
 ⟨none, .st1 (.t 162) (.t 159), none, true, []⟩]
def C45r26 : List AOper := [⟨some 164, .bin .eql (.t 35) (.k (.c (.int .i64 15))), none, true, []⟩,
 ⟨some 163, .mv (.t 164), none, true, []⟩]
def C45r27 : List AOper := [⟨some 165, .mv (.t 5), none, true, []⟩,
 ⟨some 166, .bin .neq (.t 165) (.k (.c (.int .u64 0))), none, true, []⟩]
def C45r28 : List AOper := [⟨some 167, .mv (.t 0), none, true, []⟩,
 ⟨some 168, .faddr (.t 3) 5, none, true, []⟩,
 ⟨some 169, .ld1 (.t 168), none, true, []⟩,
 ⟨some 170, .nilchk (.t 167), none, true, []⟩,
 ⟨some 171, .faddr (.t 170) 4, none, true, []⟩,
 ⟨some 172, .faddr (.t 171) 33, none, true, []⟩,
 ⟨none, .st1 (.t 172) (.t 169), none, true, []⟩]
def C45r29 : List AOper := [⟨some 173, .mv (.t 0), none, true, []⟩,
 ⟨some 174, .nilchk (.t 173), none, true, []⟩,
 ⟨some 175, .faddr (.t 174) 66, none, true, []⟩,
 ⟨none, .st1 (.t 175) (.k (.c (.bool true))), none, true, []⟩]
def C45r30 : List AOper := [⟨some 177, .bin .eql (.t 35) (.k (.c (.int .i64 16))), none, true, []⟩,
 ⟨some 176, .mv (.t 177), none, true, []⟩]
def C45r31 : List AOper := [⟨some 178, .mv (.t 0), none, true, []⟩,
 ⟨some 179, .faddr (.t 3) 5, none, true, []⟩,
 ⟨some 180, .ld1 (.t 179), none, true, []⟩,
 ⟨some 181, .nilchk (.t 178), none, true, []⟩,
 ⟨some 182, .faddr (.t 181) 4, none, true, []⟩,
 ⟨some 183, .faddr (.t 182) 33, none, true, []⟩,
 ⟨none, .st1 (.t 183) (.t 180), none, true, []⟩]
def C45r32 : List AOper := [⟨some 184, .mv (.t 0), none, true, []⟩,
 ⟨some 185, .nilchk (.t 184), none, true, []⟩,
 ⟨some 186, .faddr (.t 185) 66, none, true, []⟩,
 ⟨none, .st1 (.t 186) (.k (.c (.bool true))), none, true, []⟩]
def C45r33 : List AOper := [⟨some 188, .bin .eql (.t 35) (.k (.c (.int .i64 17))), none, true, []⟩,
 ⟨some 187, .mv (.t 188), none, true, []⟩]
def C45r34 : List AOper := [⟨some 189, .mv (.t 0), none, true, []⟩,
 ⟨some 190, .mv (.t 5), none, true, []⟩,
 ⟨some 191, .nilchk (.t 189), none, true, []⟩,
 ⟨some 192, .faddr (.t 191) 4, none, true, []⟩,
 ⟨some 193, .faddr (.t 192) 33, none, true, []⟩,
 ⟨none, .st1 (.t 193) (.t 190), none, true, []⟩]
def C45r35 : List AOper := [⟨some 194, .mv (.t 0), none, true, []⟩,
 ⟨some 195, .nilchk (.t 194), none, true, []⟩,
 ⟨some 196, .faddr (.t 195) 66, none, true, []⟩,
 ⟨none, .st1 (.t 196) (.k (.c (.bool true))), none, true, []⟩]
def C45r36 : List AOper := [⟨some 198, .bin .eql (.t 35) (.k (.c (.int .i64 18))), none, true, []⟩,
 ⟨some 197, .mv (.t 198), none, true, []⟩]
def C45r37 : List AOper := [⟨some 199, .mv (.t 0), none, true, []⟩,
 ⟨some 200, .faddr (.t 3) 5, none, true, []⟩,
 ⟨some 201, .ld1 (.t 200), none, true, []⟩,
 ⟨some 202, .nilchk (.t 199), none, true, []⟩,
 ⟨some 203, .faddr (.t 202) 68, none, true, []⟩,
 ⟨none, .st1 (.t 203) (.t 201), none, true, []⟩]
def C45r38 : List AOper := [⟨some 204, .mv (.t 0), none, true, []⟩,
 ⟨some 205, .nilchk (.t 204), none, true, []⟩,
 ⟨some 206, .faddr (.t 205) 69, none, true, []⟩,
 ⟨none, .st1 (.t 206) (.k (.c (.bool true))), none, true, []⟩]
def C45r39 : List AOper := [⟨some 207, .mv (.t 0), none, true, []⟩,
 ⟨some 208, .nilchk (.t 207), none, true, []⟩,
 ⟨some 209, .faddr (.t 208) 66, none, true, []⟩,
 ⟨none, .st1 (.t 209) (.k (.c (.bool true))), none, true, []⟩]
def C45r40 : List AOper := [⟨some 36, .mv (.t 0), none, true, []⟩,
 ⟨some 37, .ldn 6 (.t 3), none, true, []⟩,
 ⟨some 38, .mv (.t 5), none, true, []⟩,
 ⟨some 39, .mv (.t 6), none, true, []⟩,
 ⟨some 40, .call (.k (.c (.fn 65 [] []))) [(.t 36), (.t 37), (.t 38), (.t 39)], none, true, []⟩]
def C45 : ACode :=
 .seq (.region C45r0)
 (.seq (.region C45r1)
 (.seq (.region C45r2)
 (.seq (.region C45r3)
 (.seq (.region C45r4)
 (.seq (.region C45r5)
 (.block 0
 (.seq (.region C45r6)
 (.cond (.t 41)
 (.region C45r7)
 (.seq (.region C45r8)
 (.cond (.t 51)
 (.region C45r9)
 (.seq (.region C45r10)
 (.cond (.t 67)
 (.region C45r11)
 (.seq (.region C45r12)
 (.cond (.t 77)
 (.region C45r13)
 (.seq (.region C45r14)
 (.cond (.t 96)
 (.region C45r15)
 (.seq (.region C45r16)
 (.cond (.t 109)
 (.region C45r17)
 (.seq (.region C45r18)
 (.cond (.t 124)
 (.region C45r19)
 (.seq (.region C45r20)
 (.cond (.t 132)
 (.region C45r21)
 (.seq (.region C45r22)
 (.cond (.t 148)
 (.region C45r23)
 (.seq (.region C45r24)
 (.cond (.t 155)
 (.region C45r25)
 (.seq (.region C45r26)
 (.cond (.t 163)
 (.seq (.region C45r27)
 (.cond (.t 166)
 (.seq (.region C45r28)
 (.region C45r29))
 (.skip)))
 (.seq (.region C45r30)
 (.cond (.t 176)
 (.seq (.region C45r31)
 (.region C45r32))
 (.seq (.region C45r33)
 (.cond (.t 187)
 (.seq (.region C45r34)
 (.region C45r35))
 (.seq (.region C45r36)
 (.cond (.t 197)
 (.seq (.region C45r37)
 (.seq (.region C45r38)
 (.region C45r39)))
 (.region C45r40)))))))))))))))))))))))))))))))))))
theorem C45_ok : stripF Try.prog Try.f45 = some C45 := by kernel_rfl
def C53r0 : List AOper := [⟨some 2, .mv (.k (.c (.int .i64 0))), none, true, []⟩]
def C53r1 : List AOper := [⟨some 3, .mv (.t 0), none, true, []⟩]
def C53r2 : List AOper := [⟨some 5, .bin .eql (.t 3) (.k (.c (.int .i64 3))), none, true, []⟩,
 ⟨some 4, .mv (.t 5), none, true, []⟩]
def C53r3 : List AOper := [⟨some 6, .bin .eql (.t 3) (.k (.c (.int .i64 5))), none, true, []⟩,
 ⟨some 4, .mv (.t 6), none, true, []⟩]
def C53r4 : List AOper := [⟨some 7, .bin .eql (.t 3) (.k (.c (.int .i64 7))), none, true, []⟩,
 ⟨some 4, .mv (.t 7), none, true, []⟩]
def C53r5 : List AOper := [⟨some 8, .bin .eql (.t 3) (.k (.c (.int .i64 9))), none, true, []⟩,
 ⟨some 4, .mv (.t 8), none, true, []⟩]
def C53r6 : List AOper := [⟨some 9, .bin .eql (.t 3) (.k (.c (.int .i64 11))), none, true, []⟩,
 ⟨some 4, .mv (.t 9), none, true, []⟩]
def C53r7 : List AOper := [⟨some 10, .bin .eql (.t 3) (.k (.c (.int .i64 15))), none, true, []⟩,
 ⟨some 4, .mv (.t 10), none, true, []⟩]
def C53r8 : List AOper := [⟨some 11, .bin .eql (.t 3) (.k (.c (.int .i64 17))), none, true, []⟩,
 ⟨some 4, .mv (.t 11), none, true, []⟩]
def C53r9 : List AOper := [⟨some 2, .mv (.k (.c (.int .i64 1))), none, true, []⟩]
def C53r10 : List AOper := [⟨some 13, .bin .eql (.t 3) (.k (.c (.int .i64 8))), none, true, []⟩,
 ⟨some 12, .mv (.t 13), none, true, []⟩]
def C53r11 : List AOper := [⟨some 14, .bin .eql (.t 3) (.k (.c (.int .i64 10))), none, true, []⟩,
 ⟨some 12, .mv (.t 14), none, true, []⟩]
def C53r12 : List AOper := [⟨some 15, .bin .eql (.t 3) (.k (.c (.int .i64 12))), none, true, []⟩,
 ⟨some 12, .mv (.t 15), none, true, []⟩]
def C53r13 : List AOper := [⟨some 2, .mv (.k (.c (.int .i64 2))), none, true, []⟩]
def C53r14 : List AOper := [⟨some 2, .mv (.k (.c (.int .i64 0))), none, true, []⟩]
def C53 : ACode :=
 .seq (.region C53r0)
 (.seq (.seq (.region C53r1)
 (.block 0
 (.seq (.seq (.region C53r2)
 (.cond (.t 4)
 (.skip)
 (.seq (.region C53r3)
 (.cond (.t 4)
 (.skip)
 (.seq (.region C53r4)
 (.cond (.t 4)
 (.skip)
 (.seq (.region C53r5)
 (.cond (.t 4)
 (.skip)
 (.seq (.region C53r6)
 (.cond (.t 4)
 (.skip)
 (.seq (.region C53r7)
 (.cond (.t 4)
 (.skip)
 (.region C53r8)))))))))))))
 (.cond (.t 4)
 (.seq (.region C53r9)
 (.ret))
 (.seq (.seq (.region C53r10)
 (.cond (.t 12)
 (.skip)
 (.seq (.region C53r11)
 (.cond (.t 12)
 (.skip)
 (.region C53r12)))))
 (.cond (.t 12)
 (.seq (.region C53r13)
 (.ret))
 (.skip)))))))
 (.seq (.region C53r14)
 (.ret)))
theorem C53_ok : stripF Try.prog Try.f53 = some C53 := by kernel_rfl
def C61r0 : List AOper := [⟨some 2, .box 43 (.t 0), none, true, []⟩,
 ⟨some 4, .mv (.k (.c (.int .u64 0))), none, true, []⟩]
def C61r1 : List AOper := [⟨some 6, .faddr (.t 2) 34, none, true, []⟩,
 ⟨some 7, .ld1 (.t 6), none, true, []⟩,
 ⟨some 8, .faddr (.t 2) 35, none, true, []⟩,
 ⟨some 9, .ld1 (.t 8), none, true, []⟩,
 ⟨some 10, .faddr (.t 2) 36, none, true, []⟩,
 ⟨some 11, .ld1 (.t 10), none, true, []⟩,
 ⟨some 12, .faddr (.t 2) 37, none, true, []⟩,
 ⟨some 13, .ld1 (.t 12), none, true, []⟩,
 ⟨some 14, .bslice 4 1 [.c (.bool false)] 4 [(0, 1, (.t 7)), (1, 1, (.t 9)), (2, 1, (.t 11)), (3, 1, (.t 13))], none, true, []⟩,
 ⟨some 5, .mv (.t 14), none, true, []⟩]
def C61r2 : List AOper := [⟨some 15, .mv (.t 5), none, true, []⟩,
 ⟨some 16, .mv (.t 1), none, true, []⟩,
 ⟨some 17, .iaddr 1 (.t 15) (.t 16), none, true, []⟩,
 ⟨some 18, .ld1 (.t 17), none, true, []⟩]
def C61r3 : List AOper := [⟨some 4, .mv (.k (.c (.int .u64 1))), none, true, []⟩]
def C61r4 : List AOper := [⟨some 4, .mv (.k (.c (.int .u64 0))), none, true, []⟩]
def C61 : ACode :=
 .seq (.region C61r0)
 (.seq (.region C61r1)
 (.seq (.seq (.region C61r2)
 (.cond (.t 18)
 (.seq (.region C61r3)
 (.ret))
 (.skip)))
 (.seq (.region C61r4)
 (.ret))))
theorem C61_ok : stripF Try.prog Try.f61 = some C61 := by kernel_rfl
def C62r0 : List AOper := [⟨some 6, .mv (.t 1), none, true, []⟩]
def C62r1 : List AOper := [⟨some 13, .bin .eql (.t 6) (.k (.c (.int .i64 0))), none, true, []⟩,
 ⟨some 12, .mv (.t 13), none, true, []⟩]
def C62r2 : List AOper := [⟨some 14, .mv (.t 0), none, true, []⟩,
 ⟨some 15, .mv (.t 2), none, true, []⟩,
 ⟨some 16, .nilchk (.t 14), none, true, []⟩,
 ⟨some 17, .faddr (.t 16) 4, none, true, []⟩,
 ⟨some 18, .faddr (.t 17) 34, none, true, []⟩,
 ⟨none, .st1 (.t 18) (.t 15), none, true, []⟩]
def C62r3 : List AOper := [⟨some 20, .bin .eql (.t 6) (.k (.c (.int .i64 1))), none, true, []⟩,
 ⟨some 19, .mv (.t 20), none, true, []⟩]
def C62r4 : List AOper := [⟨some 21, .mv (.t 0), none, true, []⟩,
 ⟨some 22, .mv (.t 2), none, true, []⟩,
 ⟨some 23, .nilchk (.t 21), none, true, []⟩,
 ⟨some 24, .faddr (.t 23) 4, none, true, []⟩,
 ⟨some 25, .faddr (.t 24) 35, none, true, []⟩,
 ⟨none, .st1 (.t 25) (.t 22), none, true, []⟩]
def C62r5 : List AOper := [⟨some 27, .bin .eql (.t 6) (.k (.c (.int .i64 2))), none, true, []⟩,
 ⟨some 26, .mv (.t 27), none, true, []⟩]
def C62r6 : List AOper := [⟨some 28, .mv (.t 0), none, true, []⟩,
 ⟨some 29, .mv (.t 2), none, true, []⟩,
 ⟨some 30, .nilchk (.t 28), none, true, []⟩,
 ⟨some 31, .faddr (.t 30) 4, none, true, []⟩,
 ⟨some 32, .faddr (.t 31) 36, none, true, []⟩,
 ⟨none, .st1 (.t 32) (.t 29), none, true, []⟩]
def C62r7 : List AOper := [⟨some 7, .mv (.t 0), none, true, []⟩,
 ⟨some 8, .mv (.t 2), none, true, []⟩,
 ⟨some 9, .nilchk (.t 7), none, true, []⟩,
 ⟨some 10, .faddr (.t 9) 4, none, true, []⟩,
 ⟨some 11, .faddr (.t 10) 37, none, true, []⟩,
 ⟨none, .st1 (.t 11) (.t 8), none, true, []⟩]
def C62 : ACode :=
 .seq (.region C62r0)
 (.block 0
 (.seq (.region C62r1)
 (.cond (.t 12)
 (.region C62r2)
 (.seq (.region C62r3)
 (.cond (.t 19)
 (.region C62r4)
 (.seq (.region C62r5)
 (.cond (.t 26)
 (.region C62r6)
 (.region C62r7))))))))
theorem C62_ok : stripF Try.prog Try.f62 = some C62 := by kernel_rfl
def C63r0 : List AOper := [⟨some 6, .mv (.k (.c (.int .u64 0))), none, true, []⟩,
 ⟨some 7, .mv (.k (.c (.bool false))), none, true, []⟩]
def C63r1 : List AOper := [⟨some 10, .mv (.t 2), none, true, []⟩,
 ⟨some 11, .bin .rem (.t 10) (.k (.c (.int .u64 64))), none, true, []⟩,
 ⟨some 12, .conv .i64 (.t 11), none, true, []⟩,
 ⟨some 8, .mv (.t 12), none, true, []⟩]
def C63r2 : List AOper := [⟨some 13, .mv (.t 0), none, true, []⟩]
def C63r3 : List AOper := [⟨some 15, .bin .eql (.t 13) (.k (.c (.int .i64 1))), none, true, []⟩,
 ⟨some 14, .mv (.t 15), none, true, []⟩]
def C63r4 : List AOper := [⟨some 16, .mv (.t 1), none, true, []⟩,
 ⟨some 17, .mv (.t 2), none, true, []⟩,
 ⟨some 18, .bin .add (.t 16) (.t 17), none, true, []⟩,
 ⟨some 6, .mv (.t 18), none, true, []⟩,
 ⟨some 7, .mv (.k (.c (.bool true))), none, true, []⟩]
def C63r5 : List AOper := [⟨some 20, .bin .eql (.t 13) (.k (.c (.int .i64 2))), none, true, []⟩,
 ⟨some 19, .mv (.t 20), none, true, []⟩]
def C63r6 : List AOper := [⟨some 21, .mv (.t 1), none, true, []⟩,
 ⟨some 22, .mv (.t 2), none, true, []⟩,
 ⟨some 23, .bin .sub (.t 21) (.t 22), none, true, []⟩,
 ⟨some 6, .mv (.t 23), none, true, []⟩,
 ⟨some 7, .mv (.k (.c (.bool true))), none, true, []⟩]
def C63r7 : List AOper := [⟨some 25, .bin .eql (.t 13) (.k (.c (.int .i64 3))), none, true, []⟩,
 ⟨some 24, .mv (.t 25), none, true, []⟩]
def C63r8 : List AOper := [⟨some 26, .mv (.t 1), none, true, []⟩,
 ⟨some 27, .mv (.t 2), none, true, []⟩,
 ⟨some 28, .bin .and (.t 26) (.t 27), none, true, []⟩,
 ⟨some 6, .mv (.t 28), none, true, []⟩,
 ⟨some 7, .mv (.k (.c (.bool true))), none, true, []⟩]
def C63r9 : List AOper := [⟨some 30, .bin .eql (.t 13) (.k (.c (.int .i64 4))), none, true, []⟩,
 ⟨some 29, .mv (.t 30), none, true, []⟩]
def C63r10 : List AOper := [⟨some 31, .mv (.t 1), none, true, []⟩,
 ⟨some 32, .mv (.t 2), none, true, []⟩,
 ⟨some 33, .bin .or (.t 31) (.t 32), none, true, []⟩,
 ⟨some 6, .mv (.t 33), none, true, []⟩,
 ⟨some 7, .mv (.k (.c (.bool true))), none, true, []⟩]
def C63r11 : List AOper := [⟨some 35, .bin .eql (.t 13) (.k (.c (.int .i64 5))), none, true, []⟩,
 ⟨some 34, .mv (.t 35), none, true, []⟩]
def C63r12 : List AOper := [⟨some 36, .mv (.t 1), none, true, []⟩,
 ⟨some 37, .mv (.t 2), none, true, []⟩,
 ⟨some 38, .bin .xor (.t 36) (.t 37), none, true, []⟩,
 ⟨some 6, .mv (.t 38), none, true, []⟩,
 ⟨some 7, .mv (.k (.c (.bool true))), none, true, []⟩]
def C63r13 : List AOper := [⟨some 40, .bin .eql (.t 13) (.k (.c (.int .i64 6))), none, true, []⟩,
 ⟨some 39, .mv (.t 40), none, true, []⟩]
def C63r14 : List AOper := [⟨some 41, .mv (.t 1), none, true, []⟩,
 ⟨some 42, .mv (.t 2), none, true, []⟩,
 ⟨some 43, .bin .mul (.t 41) (.t 42), none, true, []⟩,
 ⟨some 6, .mv (.t 43), none, true, []⟩,
 ⟨some 7, .mv (.k (.c (.bool true))), none, true, []⟩]
def C63r15 : List AOper := [⟨some 45, .bin .eql (.t 13) (.k (.c (.int .i64 7))), none, true, []⟩,
 ⟨some 44, .mv (.t 45), none, true, []⟩]
def C63r16 : List AOper := [⟨some 46, .mv (.t 2), none, true, []⟩,
 ⟨some 47, .bin .eql (.t 46) (.k (.c (.int .u64 0))), none, true, []⟩]
def C63r17 : List AOper := [⟨some 6, .mv (.k (.c (.int .u64 0))), none, true, []⟩,
 ⟨some 7, .mv (.k (.c (.bool true))), none, true, []⟩]
def C63r18 : List AOper := [⟨some 48, .mv (.t 1), none, true, []⟩,
 ⟨some 49, .mv (.t 2), none, true, []⟩,
 ⟨some 50, .bin .quo (.t 48) (.t 49), none, true, []⟩,
 ⟨some 6, .mv (.t 50), none, true, []⟩,
 ⟨some 7, .mv (.k (.c (.bool true))), none, true, []⟩]
def C63r19 : List AOper := [⟨some 52, .bin .eql (.t 13) (.k (.c (.int .i64 8))), none, true, []⟩,
 ⟨some 51, .mv (.t 52), none, true, []⟩]
def C63r20 : List AOper := [⟨some 53, .mv (.t 1), none, true, []⟩,
 ⟨some 54, .mv (.t 2), none, true, []⟩,
 ⟨some 55, .call (.k (.c (.fn 94 [] []))) [(.t 53), (.t 54)], none, true, []⟩,
 ⟨some 6, .mv (.t 55), none, true, []⟩,
 ⟨some 7, .mv (.k (.c (.bool true))), none, true, []⟩]
def C63r21 : List AOper := [⟨some 57, .bin .eql (.t 13) (.k (.c (.int .i64 9))), none, true, []⟩,
 ⟨some 56, .mv (.t 57), none, true, []⟩]
def C63r22 : List AOper := [⟨some 9, .mv (.k (.c (.int .i64 0))), none, true, []⟩]
def C63r23 : List AOper := [⟨some 58, .mv (.t 9), none, true, []⟩,
 ⟨some 59, .mv (.t 8), none, true, []⟩,
 ⟨some 60, .bin .lss (.t 58) (.t 59), none, true, []⟩]
def C63r24 : List AOper := [⟨some 63, .mv (.t 1), none, true, []⟩,
 ⟨some 64, .mv (.t 1), none, true, []⟩,
 ⟨some 65, .bin .add (.t 63) (.t 64), none, true, []⟩,
 ⟨some 1, .mv (.t 65), none, true, []⟩]
def C63r25 : List AOper := [⟨some 61, .mv (.t 9), none, true, []⟩,
 ⟨some 62, .bin .add (.t 61) (.k (.c (.int .i64 1))), none, true, []⟩,
 ⟨some 9, .mv (.t 62), none, true, []⟩]
def C63r26 : List AOper := [⟨some 66, .mv (.t 1), none, true, []⟩,
 ⟨some 6, .mv (.t 66), none, true, []⟩,
 ⟨some 7, .mv (.k (.c (.bool true))), none, true, []⟩]
def C63r27 : List AOper := [⟨some 68, .bin .eql (.t 13) (.k (.c (.int .i64 10))), none, true, []⟩,
 ⟨some 67, .mv (.t 68), none, true, []⟩]
def C63r28 : List AOper := [⟨some 69, .mv (.t 1), none, true, []⟩,
 ⟨some 70, .mv (.t 8), none, true, []⟩,
 ⟨some 71, .call (.k (.c (.fn 95 [] []))) [(.t 69), (.t 70), (.k (.c (.int .i64 0)))], none, true, []⟩,
 ⟨some 6, .mv (.t 71), none, true, []⟩,
 ⟨some 7, .mv (.k (.c (.bool true))), none, true, []⟩]
def C63r29 : List AOper := [⟨some 73, .bin .eql (.t 13) (.k (.c (.int .i64 11))), none, true, []⟩,
 ⟨some 72, .mv (.t 73), none, true, []⟩]
def C63r30 : List AOper := [⟨some 74, .mv (.t 1), none, true, []⟩,
 ⟨some 75, .mv (.t 8), none, true, []⟩,
 ⟨some 76, .mv (.t 1), none, true, []⟩,
 ⟨some 77, .bin .shr (.t 76) (.k (.c (.int .u64 63))), none, true, []⟩,
 ⟨some 78, .conv .i64 (.t 77), none, true, []⟩,
 ⟨some 79, .call (.k (.c (.fn 95 [] []))) [(.t 74), (.t 75), (.t 78)], none, true, []⟩,
 ⟨some 6, .mv (.t 79), none, true, []⟩,
 ⟨some 7, .mv (.k (.c (.bool true))), none, true, []⟩]
def C63r31 : List AOper := [⟨some 81, .bin .eql (.t 13) (.k (.c (.int .i64 12))), none, true, []⟩,
 ⟨some 80, .mv (.t 81), none, true, []⟩]
def C63r32 : List AOper := [⟨some 82, .mv (.t 1), none, true, []⟩,
 ⟨some 83, .mv (.t 8), none, true, []⟩,
 ⟨some 84, .call (.k (.c (.fn 95 [] []))) [(.t 82), (.t 83), (.k (.c (.int .i64 2)))], none, true, []⟩,
 ⟨some 6, .mv (.t 84), none, true, []⟩,
 ⟨some 7, .mv (.k (.c (.bool true))), none, true, []⟩]
def C63r33 : List AOper := [⟨some 86, .bin .eql (.t 13) (.k (.c (.int .i64 13))), none, true, []⟩,
 ⟨some 85, .mv (.t 86), none, true, []⟩]
def C63r34 : List AOper := [⟨some 87, .mv (.t 1), none, true, []⟩,
 ⟨some 88, .mv (.t 2), none, true, []⟩,
 ⟨some 89, .bin .eql (.t 87) (.t 88), none, true, []⟩,
 ⟨some 90, .call (.k (.c (.fn 96 [] []))) [(.t 89)], none, true, []⟩,
 ⟨some 6, .mv (.t 90), none, true, []⟩,
 ⟨some 7, .mv (.k (.c (.bool true))), none, true, []⟩]
def C63r35 : List AOper := [⟨some 92, .bin .eql (.t 13) (.k (.c (.int .i64 14))), none, true, []⟩,
 ⟨some 91, .mv (.t 92), none, true, []⟩]
def C63r36 : List AOper := [⟨some 93, .mv (.t 1), none, true, []⟩,
 ⟨some 94, .mv (.t 2), none, true, []⟩,
 ⟨some 95, .bin .lss (.t 93) (.t 94), none, true, []⟩,
 ⟨some 96, .call (.k (.c (.fn 96 [] []))) [(.t 95)], none, true, []⟩,
 ⟨some 6, .mv (.t 96), none, true, []⟩,
 ⟨some 7, .mv (.k (.c (.bool true))), none, true, []⟩]
def C63r37 : List AOper := [⟨some 98, .bin .eql (.t 13) (.k (.c (.int .i64 15))), none, true, []⟩,
 ⟨some 97, .mv (.t 98), none, true, []⟩]
def C63r38 : List AOper := [⟨some 99, .mv (.t 1), none, true, []⟩,
 ⟨some 100, .mv (.t 2), none, true, []⟩,
 ⟨some 101, .call (.k (.c (.fn 97 [] []))) [(.t 99), (.t 100)], none, true, []⟩,
 ⟨some 102, .call (.k (.c (.fn 96 [] []))) [(.t 101)], none, true, []⟩,
 ⟨some 6, .mv (.t 102), none, true, []⟩,
 ⟨some 7, .mv (.k (.c (.bool true))), none, true, []⟩]
def C63r39 : List AOper := [⟨some 6, .mv (.k (.c (.int .u64 0))), none, true, []⟩,
 ⟨some 7, .mv (.k (.c (.bool false))), none, true, []⟩]
def C63 : ACode :=
 .seq (.region C63r0)
 (.seq (.region C63r1)
 (.seq (.seq (.region C63r2)
 (.block 0
 (.seq (.region C63r3)
 (.cond (.t 14)
 (.seq (.region C63r4)
 (.ret))
 (.seq (.region C63r5)
 (.cond (.t 19)
 (.seq (.region C63r6)
 (.ret))
 (.seq (.region C63r7)
 (.cond (.t 24)
 (.seq (.region C63r8)
 (.ret))
 (.seq (.region C63r9)
 (.cond (.t 29)
 (.seq (.region C63r10)
 (.ret))
 (.seq (.region C63r11)
 (.cond (.t 34)
 (.seq (.region C63r12)
 (.ret))
 (.seq (.region C63r13)
 (.cond (.t 39)
 (.seq (.region C63r14)
 (.ret))
 (.seq (.region C63r15)
 (.cond (.t 44)
 (.seq (.seq (.region C63r16)
 (.cond (.t 47)
 (.seq (.region C63r17)
 (.ret))
 (.skip)))
 (.seq (.region C63r18)
 (.ret)))
 (.seq (.region C63r19)
 (.cond (.t 51)
 (.seq (.region C63r20)
 (.ret))
 (.seq (.region C63r21)
 (.cond (.t 56)
 (.seq (.seq (.region C63r22)
 (.block 1
 (.loop
 (.seq (.seq (.region C63r23)
 (.cond (.t 60)
 (.skip)
 (.exit 1)))
 (.seq (.block 2
 (.region C63r24))
 (.region C63r25))))))
 (.seq (.region C63r26)
 (.ret)))
 (.seq (.region C63r27)
 (.cond (.t 67)
 (.seq (.region C63r28)
 (.ret))
 (.seq (.region C63r29)
 (.cond (.t 72)
 (.seq (.region C63r30)
 (.ret))
 (.seq (.region C63r31)
 (.cond (.t 80)
 (.seq (.region C63r32)
 (.ret))
 (.seq (.region C63r33)
 (.cond (.t 85)
 (.seq (.region C63r34)
 (.ret))
 (.seq (.region C63r35)
 (.cond (.t 91)
 (.seq (.region C63r36)
 (.ret))
 (.seq (.region C63r37)
 (.cond (.t 97)
 (.seq (.region C63r38)
 (.ret))
 (.skip)))))))))))))))))))))))))))))))))
 (.seq (.region C63r39)
 (.ret))))
theorem C63_ok : stripF Try.prog Try.f63 = some C63 := by kernel_rfl
def C64r0 : List AOper := [⟨some 3, .box 49 (.t 1), none, true, []⟩]
def C64r1 : List AOper := [⟨some 4, .mv (.t 0), none, true, []⟩,
 ⟨some 5, .nilchk (.t 4), none, true, []⟩,
 ⟨some 6, .faddr (.t 5) 55, none, true, []⟩,
 ⟨none, .st1 (.t 6) (.k (.c (.bool true))), none, true, []⟩]
def C64r2 : List AOper := [⟨some 7, .mv (.t 0), none, true, []⟩,
 ⟨some 8, .ldn 10 (.t 3), none, true, []⟩,
 ⟨some 9, .nilchk (.t 7), none, true, []⟩,
 ⟨some 10, .faddr (.t 9) 56, none, true, []⟩,
 ⟨none, .stn 10 (.t 10) (.t 8), none, true, []⟩]
def C64 : ACode :=
 .seq (.region C64r0)
 (.seq (.region C64r1)
 (.region C64r2))
theorem C64_ok : stripF Try.prog Try.f64 = some C64 := by kernel_rfl
def C65r0 : List AOper := [⟨some 5, .box 39 (.t 1), none, true, []⟩]
def C65r1 : List AOper := [⟨some 9, .mv (.t 2), none, true, []⟩,
 ⟨some 10, .bin .rem (.t 9) (.k (.c (.int .u64 8))), none, true, []⟩,
 ⟨some 11, .bin .neq (.t 10) (.k (.c (.int .u64 0))), none, true, []⟩]
def C65r2 : List AOper := [⟨some 12, .mv (.t 0), none, true, []⟩,
 ⟨some 13, .nilchk (.t 12), none, true, []⟩,
 ⟨some 14, .faddr (.t 13) 66, none, true, []⟩,
 ⟨none, .st1 (.t 14) (.k (.c (.bool true))), none, true, []⟩]
def C65r3 : List AOper := [⟨some 15, .mv (.t 0), none, true, []⟩,
 ⟨some 16, .nilchk (.t 15), none, true, []⟩,
 ⟨some 17, .faddr (.t 16) 67, none, true, []⟩,
 ⟨none, .st1 (.t 17) (.k (.c (.bool true))), none, true, []⟩]
def C65r4 : List AOper := [⟨some 18, .mv (.t 2), none, true, []⟩,
 ⟨some 19, .build [.c (.int .i64 0), .c (.int .u64 0), .c (.int .u64 0), .c (.int .i64 0), .c (.bool false), .c (.int .i64 0), .c (.bool false), .c (.int .i64 0), .c (.int .i64 0), .c (.int .i64 0)] [(1, 1, (.t 18))], none, true, []⟩,
 ⟨some 8, .alloc 49 [.c (.int .i64 0), .c (.int .u64 0), .c (.int .u64 0), .c (.int .i64 0), .c (.bool false), .c (.int .i64 0), .c (.bool false), .c (.int .i64 0), .c (.int .i64 0), .c (.int .i64 0)], none, true, []⟩,
 ⟨none, .stn 10 (.t 8) (.t 19), none, true, []⟩]
def C65r5 : List AOper := [⟨some 20, .faddr (.t 5) 0, none, true, []⟩,
 ⟨some 21, .ld1 (.t 20), none, true, []⟩]
def C65r6 : List AOper := [⟨some 30, .bin .eql (.t 21) (.k (.c (.int .i64 9))), none, true, []⟩,
 ⟨some 29, .mv (.t 30), none, true, []⟩]
def C65r7 : List AOper := [⟨some 31, .faddr (.t 8) 0, none, true, []⟩,
 ⟨none, .st1 (.t 31) (.k (.c (.int .i64 1))), none, true, []⟩]
def C65r8 : List AOper := [⟨some 32, .faddr (.t 5) 4, none, true, []⟩,
 ⟨some 33, .ld1 (.t 32), none, true, []⟩,
 ⟨some 34, .faddr (.t 8) 3, none, true, []⟩,
 ⟨none, .st1 (.t 34) (.t 33), none, true, []⟩]
def C65r9 : List AOper := [⟨some 36, .bin .eql (.t 21) (.k (.c (.int .i64 11))), none, true, []⟩,
 ⟨some 35, .mv (.t 36), none, true, []⟩]
def C65r10 : List AOper := [⟨some 37, .faddr (.t 8) 0, none, true, []⟩,
 ⟨none, .st1 (.t 37) (.k (.c (.int .i64 3))), none, true, []⟩]
def C65r11 : List AOper := [⟨some 38, .faddr (.t 5) 4, none, true, []⟩,
 ⟨some 39, .ld1 (.t 38), none, true, []⟩,
 ⟨some 40, .faddr (.t 8) 3, none, true, []⟩,
 ⟨none, .st1 (.t 40) (.t 39), none, true, []⟩]
def C65r12 : List AOper := [⟨some 42, .bin .eql (.t 21) (.k (.c (.int .i64 10))), none, true, []⟩,
 ⟨some 41, .mv (.t 42), none, true, []⟩]
def C65r13 : List AOper := [⟨some 43, .faddr (.t 8) 0, none, true, []⟩,
 ⟨none, .st1 (.t 43) (.k (.c (.int .i64 2))), none, true, []⟩]
def C65r14 : List AOper := [⟨some 44, .mv (.t 3), none, true, []⟩,
 ⟨some 45, .faddr (.t 8) 2, none, true, []⟩,
 ⟨none, .st1 (.t 45) (.t 44), none, true, []⟩]
def C65r15 : List AOper := [⟨some 46, .faddr (.t 5) 4, none, true, []⟩,
 ⟨some 47, .ld1 (.t 46), none, true, []⟩,
 ⟨some 48, .bin .eql (.t 47) (.k (.c (.int .i64 4))), none, true, []⟩,
 ⟨some 49, .faddr (.t 8) 4, none, true, []⟩,
 ⟨none, .st1 (.t 49) (.t 48), none, true, []⟩]
def C65r16 : List AOper := [⟨some 22, .faddr (.t 8) 0, none, true, []⟩,
 ⟨none, .st1 (.t 22) (.k (.c (.int .i64 4))), none, true, []⟩]
def C65r17 : List AOper := [⟨some 23, .mv (.t 3), none, true, []⟩,
 ⟨some 24, .faddr (.t 8) 2, none, true, []⟩,
 ⟨none, .st1 (.t 24) (.t 23), none, true, []⟩]
def C65r18 : List AOper := [⟨some 25, .faddr (.t 5) 4, none, true, []⟩,
 ⟨some 26, .ld1 (.t 25), none, true, []⟩,
 ⟨some 27, .bin .eql (.t 26) (.k (.c (.int .i64 4))), none, true, []⟩,
 ⟨some 28, .faddr (.t 8) 4, none, true, []⟩,
 ⟨none, .st1 (.t 28) (.t 27), none, true, []⟩]
def C65r19 : List AOper := [⟨some 50, .mv (.t 0), none, true, []⟩,
 ⟨some 51, .ldn 10 (.t 8), none, true, []⟩,
 ⟨some 52, .call (.k (.c (.fn 64 [] []))) [(.t 50), (.t 51)], none, true, []⟩]
def C65 : ACode :=
 .seq (.region C65r0)
 (.seq (.seq (.region C65r1)
 (.cond (.t 11)
 (.seq (.region C65r2)
 (.seq (.region C65r3)
 (.ret)))
 (.skip)))
 (.seq (.region C65r4)
 (.seq (.seq (.region C65r5)
 (.block 0
 (.seq (.region C65r6)
 (.cond (.t 29)
 (.seq (.region C65r7)
 (.region C65r8))
 (.seq (.region C65r9)
 (.cond (.t 35)
 (.seq (.region C65r10)
 (.region C65r11))
 (.seq (.region C65r12)
 (.cond (.t 41)
 (.seq (.region C65r13)
 (.seq (.region C65r14)
 (.region C65r15)))
 (.seq (.region C65r16)
 (.seq (.region C65r17)
 (.region C65r18)))))))))))
 (.region C65r19))))
theorem C65_ok : stripF Try.prog Try.f65 = some C65 := by kernel_rfl
def C94r0 : List AOper := [⟨some 4, .mv (.k (.c (.int .u64 0))), none, true, []⟩]
def C94r1 : List AOper := [⟨some 8, .mv (.t 1), none, true, []⟩,
 ⟨some 9, .bin .eql (.t 8) (.k (.c (.int .u64 0))), none, true, []⟩]
def C94r2 : List AOper := [⟨some 4, .mv (.k (.c (.int .u64 0))), none, true, []⟩]
def C94r3 : List AOper := [⟨some 10, .mv (.t 0), none, true, []⟩,
 ⟨some 5, .mv (.t 10), none, true, []⟩]
def C94r4 : List AOper := [⟨some 11, .mv (.t 1), none, true, []⟩,
 ⟨some 6, .mv (.t 11), none, true, []⟩]
def C94r5 : List AOper := [⟨some 12, .mv (.t 0), none, true, []⟩,
 ⟨some 13, .bin .shr (.t 12) (.k (.c (.int .u64 63))), none, true, []⟩,
 ⟨some 14, .bin .eql (.t 13) (.k (.c (.int .u64 1))), none, true, []⟩]
def C94r6 : List AOper := [⟨some 15, .mv (.t 0), none, true, []⟩,
 ⟨some 16, .bin .sub (.k (.c (.int .u64 0))) (.t 15), none, true, []⟩,
 ⟨some 5, .mv (.t 16), none, true, []⟩]
def C94r7 : List AOper := [⟨some 17, .mv (.t 1), none, true, []⟩,
 ⟨some 18, .bin .shr (.t 17) (.k (.c (.int .u64 63))), none, true, []⟩,
 ⟨some 19, .bin .eql (.t 18) (.k (.c (.int .u64 1))), none, true, []⟩]
def C94r8 : List AOper := [⟨some 20, .mv (.t 1), none, true, []⟩,
 ⟨some 21, .bin .sub (.k (.c (.int .u64 0))) (.t 20), none, true, []⟩,
 ⟨some 6, .mv (.t 21), none, true, []⟩]
def C94r9 : List AOper := [⟨some 22, .mv (.t 5), none, true, []⟩,
 ⟨some 23, .mv (.t 6), none, true, []⟩,
 ⟨some 24, .bin .quo (.t 22) (.t 23), none, true, []⟩,
 ⟨some 7, .mv (.t 24), none, true, []⟩]
def C94r10 : List AOper := [⟨some 25, .mv (.t 0), none, true, []⟩,
 ⟨some 26, .bin .shr (.t 25) (.k (.c (.int .u64 63))), none, true, []⟩,
 ⟨some 27, .mv (.t 1), none, true, []⟩,
 ⟨some 28, .bin .shr (.t 27) (.k (.c (.int .u64 63))), none, true, []⟩,
 ⟨some 29, .bin .neq (.t 26) (.t 28), none, true, []⟩]
def C94r11 : List AOper := [⟨some 30, .mv (.t 7), none, true, []⟩,
 ⟨some 31, .bin .sub (.k (.c (.int .u64 0))) (.t 30), none, true, []⟩,
 ⟨some 7, .mv (.t 31), none, true, []⟩]
def C94r12 : List AOper := [⟨some 32, .mv (.t 7), none, true, []⟩,
 ⟨some 4, .mv (.t 32), none, true, []⟩]
def C94 : ACode :=
 .seq (.region C94r0)
 (.seq (.seq (.region C94r1)
 (.cond (.t 9)
 (.seq (.region C94r2)
 (.ret))
 (.skip)))
 (.seq (.region C94r3)
 (.seq (.region C94r4)
 (.seq (.seq (.region C94r5)
 (.cond (.t 14)
 (.region C94r6)
 (.skip)))
 (.seq (.seq (.region C94r7)
 (.cond (.t 19)
 (.region C94r8)
 (.skip)))
 (.seq (.region C94r9)
 (.seq (.seq (.region C94r10)
 (.cond (.t 29)
 (.region C94r11)
 (.skip)))
 (.seq (.region C94r12)
 (.ret)))))))))
theorem C94_ok : stripF Try.prog Try.f94 = some C94 := by kernel_rfl
def C95r0 : List AOper := [⟨some 6, .mv (.k (.c (.int .u64 0))), none, true, []⟩]
def C95r1 : List AOper := [⟨some 7, .mv (.k (.c (.int .i64 0))), none, true, []⟩]
def C95r2 : List AOper := [⟨some 9, .mv (.t 7), none, true, []⟩,
 ⟨some 10, .mv (.t 1), none, true, []⟩,
 ⟨some 11, .bin .lss (.t 9) (.t 10), none, true, []⟩]
def C95r3 : List AOper := [⟨some 14, .mv (.t 2), none, true, []⟩,
 ⟨some 15, .conv .u64 (.t 14), none, true, []⟩,
 ⟨some 8, .mv (.t 15), none, true, []⟩]
def C95r4 : List AOper := [⟨some 16, .mv (.t 2), none, true, []⟩,
 ⟨some 17, .bin .eql (.t 16) (.k (.c (.int .i64 2))), none, true, []⟩]
def C95r5 : List AOper := [⟨some 18, .mv (.t 0), none, true, []⟩,
 ⟨some 19, .bin .rem (.t 18) (.k (.c (.int .u64 2))), none, true, []⟩,
 ⟨some 8, .mv (.t 19), none, true, []⟩]
def C95r6 : List AOper := [⟨some 20, .mv (.t 0), none, true, []⟩,
 ⟨some 21, .bin .quo (.t 20) (.k (.c (.int .u64 2))), none, true, []⟩,
 ⟨some 22, .mv (.t 8), none, true, []⟩,
 ⟨some 23, .bin .shl (.t 22) (.k (.c (.int .u64 63))), none, true, []⟩,
 ⟨some 24, .bin .add (.t 21) (.t 23), none, true, []⟩,
 ⟨some 0, .mv (.t 24), none, true, []⟩]
def C95r7 : List AOper := [⟨some 12, .mv (.t 7), none, true, []⟩,
 ⟨some 13, .bin .add (.t 12) (.k (.c (.int .i64 1))), none, true, []⟩,
 ⟨some 7, .mv (.t 13), none, true, []⟩]
def C95r8 : List AOper := [⟨some 25, .mv (.t 0), none, true, []⟩,
 ⟨some 6, .mv (.t 25), none, true, []⟩]
def C95 : ACode :=
 .seq (.region C95r0)
 (.seq (.seq (.region C95r1)
 (.block 0
 (.loop
 (.seq (.seq (.region C95r2)
 (.cond (.t 11)
 (.skip)
 (.exit 0)))
 (.seq (.block 1
 (.seq (.region C95r3)
 (.seq (.seq (.region C95r4)
 (.cond (.t 17)
 (.region C95r5)
 (.skip)))
 (.region C95r6))))
 (.region C95r7))))))
 (.seq (.region C95r8)
 (.ret)))
theorem C95_ok : stripF Try.prog Try.f95 = some C95 := by kernel_rfl
def C96r0 : List AOper := [⟨some 2, .mv (.k (.c (.int .u64 0))), none, true, []⟩]
def C96r1 : List AOper := [⟨some 3, .mv (.t 0), none, true, []⟩]
def C96r2 : List AOper := [⟨some 2, .mv (.k (.c (.int .u64 1))), none, true, []⟩]
def C96r3 : List AOper := [⟨some 2, .mv (.k (.c (.int .u64 0))), none, true, []⟩]
def C96 : ACode :=
 .seq (.region C96r0)
 (.seq (.seq (.region C96r1)
 (.cond (.t 3)
 (.seq (.region C96r2)
 (.ret))
 (.skip)))
 (.seq (.region C96r3)
 (.ret)))
theorem C96_ok : stripF Try.prog Try.f96 = some C96 := by kernel_rfl
def C97r0 : List AOper := [⟨some 4, .mv (.k (.c (.bool false))), none, true, []⟩]
def C97r1 : List AOper := [⟨some 5, .mv (.t 0), none, true, []⟩,
 ⟨some 6, .bin .xor (.t 5) (.k (.c (.int .u64 9223372036854775808))), none, true, []⟩,
 ⟨some 7, .mv (.t 1), none, true, []⟩,
 ⟨some 8, .bin .xor (.t 7) (.k (.c (.int .u64 9223372036854775808))), none, true, []⟩,
 ⟨some 9, .bin .lss (.t 6) (.t 8), none, true, []⟩,
 ⟨some 4, .mv (.t 9), none, true, []⟩]
def C97 : ACode :=
 .seq (.region C97r0)
 (.seq (.region C97r1)
 (.ret))
theorem C97_ok : stripF Try.prog Try.f97 = some C97 := by kernel_rfl
end Go.Proofs.Ytmbnakinhnkabaa

namespace Go.Proofs.Ytmbnakinhnkabaa
open Go.AM
set_option maxRecDepth 100000
set_option linter.unusedSimpArgs false
set_option linter.unusedVariables false
theorem nbeq {n i : Nat} (h : ¬ n = i) : Nat.beq n i = false := by
  cases e : Nat.beq n i with
  | false => rfl
  | true => exact absurd (Nat.eq_of_beq_eq_true e) h
theorem HRel.ghost {φ : Emb} {n : Nat} {X : List (Nat × Blk)} {W : World} (B : Blk) (h : HRel φ ⟨n, X⟩ W) : HRel φ ⟨n + 1, (n, B) :: X⟩ W := by
  have hn : φ n = none := h.fresh n (Nat.le_refl _)
  have hg : ∀ i C p, getB ((n, B) :: X) i = some C → φ i = some p → getB X i = some C := fun i C p hC hp => by
    by_cases e : n = i
    · subst e; rw [hn] at hp; cases hp
    · have e' : Nat.beq n i = false := nbeq e
      simpa only [getB, e'] using hC
  exact ⟨fun i C p hC hp => h.blk i C p (hg i C p hC hp) hp, fun i j C D p q hC hD hp hq hij hw => h.inj i j C D p q (hg i C p hC hp) (hg j D q hD hq) hp hq hij hw, fun i hi => h.fresh i (Nat.le_of_succ_le hi), h.lt⟩
theorem Con.ghost {P : Program} {f : FuncId} {args : List AV} {H : Heap} {n : Nat} {X : List (Nat × Blk)} {R : Post} (B : Blk) (h : Con P f args H (fun v H' => v = .c .nils ∧ H' = ⟨n, X⟩)) (hR : R (.c (.slice ⟨n, 0, 0, 0⟩ false 0)) ⟨n + 1, (n, B) :: X⟩) : Con P f args H R := by
  refine ⟨h.1, fun φ w xs hF hH => (h.2 φ w xs hF hH).mono fun e w' ⟨φ', v, x, H', he, ⟨hv, hH'⟩, hx, hh, hf⟩ => ?_⟩
  subst hv; subst hH'
  have hn : φ' n = none := hh.fresh n (Nat.le_refl _)
  refine ⟨φ', _, x, _, he, hR, ⟨none, 0, hx, Nat.le_refl _, .inl ⟨rfl, rfl, .inl rfl⟩⟩, HRel.ghost B hh, hf.le, hf.same, Nat.le_succ_of_le hf.nx, hf.size, hf.os, hf.tape, hf.output, hf.old, fun i C p hC hw hp => ?_⟩
  by_cases e : n = i
  · subst e; rw [hn] at hp; cases hp
  · have e' : Nat.beq n i = false := nbeq e
    exact hf.own i C p (by simpa only [getB, e'] using hC) hw hp
def betw (n a b : Int) : Bool := decide (n ≥ a) && decide (n ≤ b)
theorem con33 (n a b : Int) (H : Heap) : Con Try.prog 33 [.c (.int .i64 n), .c (.int .i64 a), .c (.int .i64 b)] H (fun v H' => v = .c (.bool (betw n a b)) ∧ H' = H) := by
  refine Con.pure ?_ (by simp only [leArgs, leV, leV1, leC, and_self]) rfl H
  (refine con_of_run mixed (fn := Try.f33) (by kernel_rfl) (by kernel_rfl) C33_ok (rs := [.tmp 6]) (by kernel_rfl) (Nat.le_of_ble_eq_true (by kernel_rfl)) ?_; unfold C33; simp only [initT, Nat.reduceAdd])
  repeat' (first | refine run_seq ?_ | (refine run_region fun K hK => ?_; (try (simp (maxSteps := 10000000) only [C33r0, C33r1, rwp_nil, rwp_cons, aop, gpath, St.get, slotAt, sfx, eqP, St.put, addBlk, bin, isShift, sameK, arith, getsl, selB_and, beqb, shed])); (repeat (first | (refine And.intro ?_ ?_; · (first | decide | trivial | assumption)))); with_reducible refine hK _ ?_; clear hK K) | refine run_ret ?_ | refine run_nil ?_)
  exact end_tmp1 rfl rfl rfl ⟨rfl, rfl⟩
theorem con53 (k : Int) (H : Heap) : Con Try.prog 53 [.c (.int .i64 k)] H (fun v H' => v = .c (.int .i64 (usesS k)) ∧ H' = H) := by
  refine Con.pure ?_ (by simp only [leArgs, leV, leV1, leC, and_self]) rfl H
  (refine con_of_run mixed (fn := Try.f53) (by kernel_rfl) (by kernel_rfl) C53_ok (rs := [.tmp 2]) (by kernel_rfl) (Nat.le_of_ble_eq_true (by kernel_rfl)) ?_; unfold C53; simp only [initT])
  repeat' (first | refine run_seq ?_ | refine run_skip ?_ | (refine run_region fun K hK => ?_; (try (simp (maxSteps := 10000000) only [C53r0, C53r1, C53r2, C53r3, C53r4, C53r5, C53r6, C53r7, C53r8, C53r9, C53r10, C53r11, C53r12, C53r13, C53r14, rwp_nil, rwp_cons, aop, gpath, St.get, slotAt, sfx, eqP, St.put, addBlk, bin, isShift, sameK, arith, shed])); (repeat (first | (refine And.intro ?_ ?_; · (first | decide | trivial | assumption | (intros; first | decide | trivial))))); with_reducible refine hK _ ?_; clear hK K) | (refine run_cond rfl (fun hc => ?_) (fun hc => ?_) <;> try (simp only [*, Bool.true_eq_false] at hc; done)) | refine run_block ?_ | refine run_ret ?_ | refine run_nil ?_ | refine blk_normal ?_ | refine blk_ret ?_ | refine blk_here ?_ | refine blk_there rfl ?_)
  all_goals (refine end_tmp1 rfl (by simp only [leV, leV1, leC, and_self]) rfl ⟨?_, rfl⟩; simp_all [usesS])
theorem con36 (o : OpS) (H : Heap) : Con Try.prog 36 [.agg (opL o)] H (fun v H' => v = .c (.bool (defS o.kind)) ∧ H' = H) := by
  refine Con.pure ?_ (by simp only [leArgs, leV, leV1, opL, leSegs, leSeg, leC, and_self]) rfl H
  (refine con_of_run mixed (fn := Try.f36) (by kernel_rfl) (by kernel_rfl) C36_ok (rs := [.tmp 2]) (by kernel_rfl) (Nat.le_of_ble_eq_true (by kernel_rfl)) ?_; unfold C36; simp only [initT])
  repeat' (first | refine run_seq ?_ | refine run_skip ?_ | (refine run_region fun K hK => ?_; (try (simp (maxSteps := 10000000) only [opL, C36r0, C36r1, C36r2, C36r3, C36r4, C36r5, C36r6, C36r7, C36r8, C36r9, C36r10, C36r11, rwp_nil, rwp_cons, aop, gpath, St.get, slotAt, sfx, eqP, segsOf, St.put, addBlk, getB, ld1, rowNeed, segAt, bin, isShift, sameK, arith, shed, addN, Seg.size, sizes, Nat.reduceAdd])); (repeat (first | (refine And.intro ?_ ?_; · (first | decide | trivial | assumption | (intros; first | decide | trivial))))); with_reducible refine hK _ ?_; clear hK K) | (refine run_cond rfl (fun hc => ?_) (fun hc => ?_) <;> try (simp only [*, Bool.true_eq_false] at hc; done)) | refine run_block ?_ | refine run_ret ?_ | refine run_nil ?_ | refine blk_normal ?_ | refine blk_ret ?_ | refine blk_here ?_ | refine blk_there rfl ?_)
  all_goals (refine end_tmp1 rfl (by simp only [leV, leV1, leC]) rfl ⟨?_, rfl⟩; simp_all [defS])
theorem con41 (o : OpS) (H : Heap) : Con Try.prog 41 [.agg (opL o)] H (fun v H' => v = .c (.bool (accS o.kind)) ∧ H' = H) := by
  refine Con.pure ?_ (by simp only [leArgs, leV, leV1, opL, leSegs, leSeg, leC, and_self]) rfl H
  (refine con_of_run mixed (fn := Try.f41) (by kernel_rfl) (by kernel_rfl) C41_ok (rs := [.tmp 2]) (by kernel_rfl) (Nat.le_of_ble_eq_true (by kernel_rfl)) ?_; unfold C41; simp only [initT])
  repeat' (first | refine run_seq ?_ | refine run_skip ?_ | (refine run_region fun K hK => ?_; (try (simp (maxSteps := 10000000) only [opL, C41r0, C41r1, C41r2, C41r3, C41r4, C41r5, C41r6, C41r7, rwp_nil, rwp_cons, aop, gpath, St.get, slotAt, sfx, eqP, segsOf, St.put, addBlk, getB, ld1, rowNeed, segAt, bin, isShift, sameK, arith, shed, addN, Seg.size, sizes, Nat.reduceAdd])); (repeat (first | (refine And.intro ?_ ?_; · (first | decide | trivial | assumption | (intros; first | decide | trivial))))); with_reducible refine hK _ ?_; clear hK K) | (refine run_cond rfl (fun hc => ?_) (fun hc => ?_) <;> try (simp only [*, Bool.true_eq_false] at hc; done)) | refine run_block ?_ | refine run_ret ?_ | refine run_nil ?_ | refine blk_normal ?_ | refine blk_ret ?_ | refine blk_here ?_ | refine blk_there rfl ?_)
  all_goals (refine end_tmp1 rfl (by simp only [leV, leV1, leC]) rfl ⟨?_, rfl⟩; simp_all [accS])
theorem end_uses1 {l : List Slot} {H : Heap} {R : Post} {b : Nat} {row : Nat → List Seg} (o : OpS) (hsl : slotAt l 2 = some ⟨2, [], .c (.slice ⟨b, 0, 0, 0⟩ false 1)⟩) (hb : getB H.blks b = some ⟨1, some 1, row, 3, true⟩) (h0 : row 0 = [.c (.int .i64 o.a)]) (hR : R (.c (.slice ⟨0, 0, 0, 0⟩ false 1)) ⟨1, [(0, usesBk o 1)]⟩) : endQ (LeS 0) [.tmp 2] R .ret ⟨l, H⟩ := by
  refine end_of ⟨[⟨2, [], .c (.slice ⟨0, 0, 0, 0⟩ false 1)⟩], ⟨1, [(0, usesBk o 1)]⟩⟩ (LeS.intro [b] (fun i h => absurd h (Nat.not_lt_zero i)) (by simp only [diff, notIn, and_self]) rfl (by simp only [slotsLe, hsl, leV, leV1, leC, leA, nthO, and_self]) ?_) hR
  simp only [leBlks, nthO, hb]
  refine ⟨⟨rfl, rfl, id, Nat.le_refl _, fun j hj => ?_⟩, trivial⟩
  match j, (hj.resolve_right (Nat.succ_ne_zero _)) with
  | 0, _ => show leSegs _ (row 0) [.c (.int .i64 (useF o 0))]; rw [h0]; exact ⟨⟨rfl, rfl⟩, trivial⟩
set_option maxHeartbeats 8000000 in
theorem con35_2 (o : OpS) (h : usesS o.kind = 2) (n : Nat) (X : List (Nat × Blk)) (hkl : keysLt X n) : Con Try.prog 35 [.agg (opL o)] ⟨n, X⟩ (fun v H' => v = .c (.slice ⟨n, 0, 0, 0⟩ false 2) ∧ H' = addBs ⟨n, X⟩ [usesBk o 2]) := by
  refine frame_uses o 2 ?_ (by simp only [leArgs, leV, leV1, opL, leSegs, leSeg, leC, and_self]) n X hkl
  (refine con_of_run mixed (fn := Try.f35) (by kernel_rfl) (by kernel_rfl) C35_ok (rs := [.tmp 2]) (by kernel_rfl) (Nat.le_of_ble_eq_true (by kernel_rfl)) ?_; unfold C35; simp only [initT])
  repeat' (first | refine run_seq ?_ | refine run_skip ?_ | (refine run_region fun K hK => ?_; (try (simp (maxSteps := 10000000) only [opL, repl, rowsFit, rowFn, cutD, C35r0, C35r1, C35r2, C35r3, C35r4, C35r5, C35r6, rwp_nil, rwp_cons, aop, gpath, St.get, slotAt, sfx, eqP, segsOf, St.put, addBlk, getB, ld1, rowNeed, segAt, nsub, bin, isShift, sameK, arith, shed, addN, Nat.beq, Seg.size, sizes, appL, argsOf, ptrsOf, cut, takeS, dropS, putS, partsOf, fillS, Nat.reduceAdd, List.append_nil, List.nil_append, List.cons_append])); (repeat (first | (refine And.intro ?_ ?_; · (first | decide | trivial | assumption | (intros; first | decide | trivial))) | ((first | (refine call_t _ (con53 _ _) ?_; rintro v H' ⟨rfl, rfl⟩) | refine call_q _ (con53 _ _) ?_ | refine call_g _ (imp_of (con53 _ _)) ?_); simp (maxSteps := 10000000) only [h, rwp_nil, rwpK_app, St.put, shed]))); with_reducible refine hK _ ?_; clear hK K) | (refine run_cond rfl (fun hc => ?_) (fun hc => ?_) <;> try (simp only [*, Bool.true_eq_false, Bool.false_eq_true, Bool.not_true, Bool.not_false, Bool.true_or, Bool.or_true, Bool.false_or, Bool.or_false, Bool.false_and, Bool.and_false, bne_self_eq_false, beq_self_eq_true] at hc; done)) | refine run_block ?_ | refine run_ret ?_ | refine run_nil ?_ | refine blk_normal ?_ | refine blk_ret ?_ | refine blk_here ?_ | refine blk_there rfl ?_)
  all_goals first | (exfalso; revert hc; decide) | (rename_i h1; exfalso; revert h1; decide) | exact end_uses o _ (by decide) rfl rfl rfl rfl ⟨rfl, rfl⟩
theorem con35_1 (o : OpS) (h : usesS o.kind = 1) (n : Nat) (X : List (Nat × Blk)) (hkl : keysLt X n) : Con Try.prog 35 [.agg (opL o)] ⟨n, X⟩ (fun v H' => v = .c (.slice ⟨n, 0, 0, 0⟩ false 1) ∧ H' = addBs ⟨n, X⟩ [usesBk o 1]) := by
  refine frame_uses o 1 ?_ (by simp only [leArgs, leV, leV1, opL, leSegs, leSeg, leC, and_self]) n X hkl
  (refine con_of_run mixed (fn := Try.f35) (by kernel_rfl) (by kernel_rfl) C35_ok (rs := [.tmp 2]) (by kernel_rfl) (Nat.le_of_ble_eq_true (by kernel_rfl)) ?_; unfold C35; simp only [initT])
  repeat' (first | refine run_seq ?_ | refine run_skip ?_ | (refine run_region fun K hK => ?_; (try (simp (maxSteps := 10000000) only [opL, repl, rowsFit, rowFn, cutD, C35r0, C35r1, C35r2, C35r3, C35r4, C35r5, C35r6, rwp_nil, rwp_cons, aop, gpath, St.get, slotAt, sfx, eqP, segsOf, St.put, addBlk, getB, ld1, rowNeed, segAt, nsub, bin, isShift, sameK, arith, shed, addN, Nat.beq, Seg.size, sizes, appL, argsOf, ptrsOf, cut, takeS, dropS, putS, partsOf, fillS, Nat.reduceAdd, List.append_nil, List.nil_append, List.cons_append])); (repeat (first | (refine And.intro ?_ ?_; · (first | decide | trivial | assumption | (intros; first | decide | trivial))) | ((first | (refine call_t _ (con53 _ _) ?_; rintro v H' ⟨rfl, rfl⟩) | refine call_q _ (con53 _ _) ?_ | refine call_g _ (imp_of (con53 _ _)) ?_); simp (maxSteps := 10000000) only [h, rwp_nil, rwpK_app, St.put, shed]))); with_reducible refine hK _ ?_; clear hK K) | (refine run_cond rfl (fun hc => ?_) (fun hc => ?_) <;> try (simp only [*, Bool.true_eq_false, Bool.false_eq_true, Bool.not_true, Bool.not_false, Bool.true_or, Bool.or_true, Bool.false_or, Bool.or_false, Bool.false_and, Bool.and_false, bne_self_eq_false, beq_self_eq_true] at hc; done)) | refine run_block ?_ | refine run_ret ?_ | refine run_nil ?_ | refine blk_normal ?_ | refine blk_ret ?_ | refine blk_here ?_ | refine blk_there rfl ?_)
  all_goals first | (exfalso; revert hc; decide) | (rename_i h1; exfalso; revert h1; decide) | exact end_uses1 o rfl rfl rfl ⟨rfl, rfl⟩
theorem con35_0 (o : OpS) (h : usesS o.kind = 0) (H : Heap) : Con Try.prog 35 [.agg (opL o)] H (fun v H' => v = .c .nils ∧ H' = H) := by
  refine Con.pure ?_ (by simp only [leArgs, leV, leV1, opL, leSegs, leSeg, leC, and_self]) rfl H
  (refine con_of_run mixed (fn := Try.f35) (by kernel_rfl) (by kernel_rfl) C35_ok (rs := [.tmp 2]) (by kernel_rfl) (Nat.le_of_ble_eq_true (by kernel_rfl)) ?_; unfold C35; simp only [initT])
  repeat' (first | refine run_seq ?_ | refine run_skip ?_ | (refine run_region fun K hK => ?_; (try (simp (maxSteps := 10000000) only [opL, C35r0, C35r1, C35r2, C35r3, C35r4, C35r5, C35r6, rwp_nil, rwp_cons, aop, gpath, St.get, slotAt, sfx, eqP, segsOf, St.put, addBlk, getB, ld1, rowNeed, segAt, nsub, bin, isShift, sameK, arith, shed, addN, Nat.beq, Seg.size, sizes, imp, appL, argsOf, ptrsOf, takeS, putS, partsOf, fillS, exOk, Nat.reduceAdd, List.nil_append, List.cons_append])); (repeat (first | (refine And.intro ?_ ?_; · (first | decide | trivial | assumption | (intros; first | decide | trivial))) | ((first | (refine call_t _ (con53 _ _) ?_; rintro v H' ⟨rfl, rfl⟩) | refine call_q _ (con53 _ _) ?_ | refine call_g _ (imp_of (con53 _ _)) ?_); simp (maxSteps := 10000000) only [h, rwp_nil, rwpK_app, St.put, shed]))); with_reducible refine hK _ ?_; clear hK K) | (refine run_cond rfl (fun hc => ?_) (fun hc => ?_) <;> try (simp only [*, Bool.true_eq_false, Bool.false_eq_true, Bool.not_true, Bool.not_false, Bool.true_or, Bool.or_true, Bool.false_or, Bool.or_false, Bool.false_and, Bool.and_false, bne_self_eq_false, beq_self_eq_true] at hc; done)) | refine run_block ?_ | refine run_ret ?_ | refine run_nil ?_ | refine blk_normal ?_ | refine blk_ret ?_ | refine blk_here ?_ | refine blk_there rfl ?_)
  all_goals first | (exfalso; revert hc; decide) | (rename_i h1; exfalso; revert h1; decide) | exact end_tmp1 rfl (by simp only [leV, leV1, leC]) rfl ⟨rfl, rfl⟩
theorem con35 (o : OpS) (n : Nat) (X : List (Nat × Blk)) (hkl : keysLt X n) : Con Try.prog 35 [.agg (opL o)] ⟨n, X⟩ (fun v H' => v = .c (.slice ⟨n, 0, 0, 0⟩ false (usesS o.kind)) ∧ H' = addBs ⟨n, X⟩ [usesBk o (usesS o.kind)]) := by
  have h : usesS o.kind = 2 ∨ usesS o.kind = 1 ∨ usesS o.kind = 0 := by unfold usesS; (repeat' split) <;> simp
  rcases h with h | h | h
  · rw [h]; exact con35_2 o h n X hkl
  · rw [h]; exact con35_1 o h n X hkl
  · rw [h]; exact Con.ghost (usesBk o 0) (con35_0 o h ⟨n, X⟩) ⟨rfl, rfl⟩
end Go.Proofs.Ytmbnakinhnkabaa

namespace Go.Proofs.Ytmbnakinhnkabaa
open Go.AM
set_option maxRecDepth 100000
set_option linter.unusedSimpArgs false
set_option linter.unusedVariables false
def andB (x y z : Bool) : Bool := (x && y) && z
def fieldR (o : OpS) : Bool :=
  if o.kind = 1 ∨ o.kind = 15 ∨ o.kind = 16 then andB (o.r == 0) (o.order == 0) true
  else if o.kind = 14 then andB (o.r == 0) (o.order == 0) (o.imm.tmod 4 == 0)
  else if o.kind = 18 then andB (o.r == 0) (o.order == 0) (decide (o.imm < 4294967296))
  else if o.kind = 2 ∨ o.kind = 3 then andB (betw o.r 0 30) (o.order == 0) (o.imm == 0)
  else if o.kind = 6 ∨ o.kind = 7 then andB (betw o.r 0 3) (o.order == 0) (o.imm == 0)
  else if o.kind = 8 then andB (betw o.r 1 15) (o.order == 0) (o.imm == 0)
  else if o.kind = 13 then andB (((o.r == 13) || (o.r == 10)) || (o.r == 15)) (o.order == 0) (o.imm == 0)
  else if o.kind = 9 then andB (o.r == 0) (betw o.order 0 2) (o.imm == 0)
  else if o.kind = 11 then andB (o.r == 0) ((o.order == 0) || (o.order == 2)) (o.imm == 0)
  else if o.kind = 10 ∨ o.kind = 12 then andB (o.r == 0) ((o.order == 0) || (o.order == 4)) (o.imm == 0)
  else if o.kind = 4 ∨ o.kind = 5 ∨ o.kind = 17 then andB (o.r == 0) (o.order == 0) (o.imm == 0)
  else false
set_option maxHeartbeats 8000000 in
theorem con34 (o : OpS) (H : Heap) : Con Try.prog 34 [.agg (opL o)] H (fun v H' => v = .c (.bool (fieldR o)) ∧ H' = H) := by
  refine Con.pure ?_ (by simp only [leArgs, leV, leV1, opL, leSegs, leSeg, leC, and_self]) rfl H
  (refine con_of_run mixed (fn := Try.f34) (by kernel_rfl) (by kernel_rfl) C34_ok (rs := [.tmp 2]) (by kernel_rfl) (Nat.le_of_ble_eq_true (by kernel_rfl)) ?_; unfold C34; simp only [initT])
  repeat' (first | refine run_seq ?_ | refine run_skip ?_ | (refine run_region fun K hK => ?_; (try (simp (maxSteps := 10000000) only [opL, C34r0, C34r1, C34r2, C34r3, C34r4, C34r5, C34r6, C34r7, C34r8, C34r9, C34r10, C34r11, C34r12, C34r13, C34r14, C34r15, C34r16, C34r17, C34r18, C34r19, C34r20, C34r21, C34r22, C34r23, C34r24, C34r25, C34r26, C34r27, C34r28, C34r29, C34r30, C34r31, C34r32, C34r33, C34r34, rwp_nil, rwp_cons, aop, gpath, St.get, slotAt, sfx, eqP, segsOf, St.put, addBlk, getB, ld1, rowNeed, segAt, nsub, bin, isShift, sameK, arith, getsl, selB_or, selB_and, beqb, shed, addN, Seg.size, sizes, imp, appL, argsOf, ptrsOf, Nat.reduceAdd])); (repeat (first | (refine And.intro ?_ ?_; · (first | decide | trivial | assumption | (intros; first | decide | trivial))) | ((first | (refine call_t _ (con33 _ _ _ _) ?_; rintro v H' ⟨rfl, rfl⟩) | refine call_q _ (con33 _ _ _ _) ?_ | refine call_g _ (imp_of (con33 _ _ _ _)) ?_); simp (maxSteps := 10000000) only [rwp_nil, rwp_cons, rwpK_app, aop, gpath, St.get, slotAt, sfx, eqP, St.put, addBlk, shed]))); with_reducible refine hK _ ?_; clear hK K) | (refine run_cond rfl (fun hc => ?_) (fun hc => ?_) <;> try (simp only [*, Bool.true_eq_false] at hc; done)) | refine run_block ?_ | refine run_ret ?_ | refine run_nil ?_ | refine blk_normal ?_ | refine blk_ret ?_ | refine blk_here ?_ | refine blk_there rfl ?_)
  all_goals (refine end_tmp1 rfl (by simp only [leV, leV1, leC]) rfl ⟨?_, rfl⟩; simp_all [fieldR, andB])
end Go.Proofs.Ytmbnakinhnkabaa

namespace Go.Proofs.Ytmbnakinhnkabaa
open Go.AM
set_option maxRecDepth 100000
set_option linter.unusedSimpArgs false
set_option linter.unusedVariables false
theorem idtt {l : List Nat} : ∀ i, i < 2 → nthO (0 :: 1 :: l) i = some i := by
  intro i h; match i, h with
  | 0, _ => rfl
  | 1, _ => rfl
def saSt (b : BlkS) (j : Nat) : St := ⟨[⟨5, [], .c (.int .i64 j)⟩, ⟨3, [], .c (.ptr ⟨3, 0, 0, 0⟩)⟩, ⟨2, [], .c (.ptr ⟨2, 0, 0, 0⟩)⟩], ⟨4, [(3, blkB b 1), (2, blkB b 0), (1, opsB b.n b.f), (0, opsB b.n b.f)]⟩⟩
theorem end_oo {l : List Slot} {H : Heap} {R : Post} {t n m : Nat} {f g : Nat → OpS} (b : Bool) (hsl : slotAt l t = some ⟨t, [], .c (.bool b)⟩) (hb0 : getB H.blks 0 = some (opsB n f)) (hb1 : getB H.blks 1 = some (opsB m g)) (hR : R (.c (.bool b)) ⟨2, [(1, opsB m g), (0, opsB n f)]⟩) : endQ (LeS 2) [.tmp t] R .ret ⟨l, H⟩ := by
  refine end_of ⟨[⟨t, [], .c (.bool b)⟩], ⟨2, [(1, opsB m g), (0, opsB n f)]⟩⟩ (LeS.intro [0, 1] (fun i h => idt2 i h) (by simp only [diff, notIn, Nat.beq, and_self]) rfl (by simp only [slotsLe, hsl, leV, leV1, leC, and_self]) ?_) ?_
  · simp only [leBlks, nthO, hb0, hb1]
    exact ⟨ops_le m g false, ops_le n f false, trivial⟩
  · simp only [endF, resL, resA, St.get, slotAt, Nat.beq_refl, sfx, eqP, noTup, resV]
    exact hR
theorem con14 (b : BlkS) (hn : b.n ≤ 140737488355328) : Con Try.prog 14 [.agg (blkL b 0), .agg (blkL b 1)] ⟨2, [(1, opsB b.n b.f), (0, opsB b.n b.f)]⟩ (fun v H' => v = .c (.bool true) ∧ H' = ⟨2, [(1, opsB b.n b.f), (0, opsB b.n b.f)]⟩) := by
  (refine con_of_run mixed (fn := Try.f14) (by kernel_rfl) (by kernel_rfl) C14_ok (rs := [.tmp 4]) (by kernel_rfl) (Nat.le_of_ble_eq_true (by kernel_rfl)) ?_; unfold C14; simp only [initT, Nat.reduceAdd])
  repeat' (first | refine run_seq ?_ | refine run_skip ?_ | (refine run_region fun K hK => ?_; (try (simp (maxSteps := 10000000) only [blkL, C14r0, C14r1, rwp_nil, rwp_cons, aop, gpath, St.get, slotAt, sfx, eqP, segsOf, St.put, addBlk, getB, ld1, rowNeed, segAt, nsub, bin, isShift, sameK, arith, getsl, selB_or, beqb, shed, addN, Seg.size, sizes, Nat.reduceAdd])); (repeat (first | (refine And.intro ?_ ?_; · (first | trivial | assumption | omega)))); with_reducible refine hK _ ?_; clear hK K) | (refine run_cond rfl (fun hc => ?_) (fun hc => ?_) <;> try (simp only [*, Bool.false_eq_true, Bool.or_false, bne_self_eq_false] at hc; done)) | refine run_block ?_ | refine run_ret ?_ | refine run_nil ?_ | refine run_exit ?_ | refine blk_normal ?_ | refine blk_ret ?_ | refine blk_here ?_ | refine blk_there rfl ?_ | refine loop_exit ?_ | refine loop_ret ?_ | refine un_exit ?_ | refine un_ret ?_ | refine unE_exit ?_ | refine unE_ret ?_ | refine un_normal ?_)
  (refine run_regionL fun K hK => ?_; (try (simp (maxSteps := 10000000) only [C14r3, rwp_nil, rwp_cons, aop, gpath, St.get, St.put, addBlk, shed])); (repeat (first | (refine And.intro ?_ ?_; · first | trivial | assumption | omega))); refine hK _ (saSt b 0) (LeS.intro [0, 1, 2, 3] idtt (by simp only [diff, notIn, Nat.beq, and_self]) rfl (by simp only [saSt, slotsLe, slotAt, leV, leV1, leC, leA, nthO, Int.natCast_zero, and_self]) ⟨blk_le' b 1 1 rfl, blk_le' b 0 0 rfl, ops_le b.n b.f false, ops_le b.n b.f false, trivial⟩) ?_; clear hK K)
  refine run_block ?_
  refine run_loop (fun m s => ∃ j, m = b.n - j ∧ j ≤ b.n ∧ s = saSt b j) b.n ⟨0, rfl, Nat.zero_le _, rfl⟩ ?_
  rintro m s ⟨j, rfl, hj, rfl⟩
  have hw : IntKind.i64.wrap ((j : Int) + 1) = ((j + 1 : Nat) : Int) := by rw [IntKind.wrap_i64]; omega
  unfold saSt
  repeat' (first | refine run_seq ?_ | refine run_skip ?_ | (refine run_region fun K hK => ?_; (try (simp (maxSteps := 10000000) only [blkB, blkL, opsB, opL, hw, C14r4, C14r5, C14r6, C14r7, C14r8, rwp_nil, rwp_cons, aop, gpath, St.get, slotAt, sfx, eqP, St.put, addBlk, getB, ld1, ldn, rowNeed, segAt, nsub, bin, isShift, sameK, arith, shed, addN, Nat.beq, Seg.size, imp, cut, takeS, dropS, negIf, eqS, eqF, eqS1, strOk, plusA, Nat.reduceAdd, Int.toNat_natCast])); (repeat (first | (refine And.intro ?_ ?_; · (first | trivial | assumption | (simp only [decide_eq_true_eq] at *; omega))))); with_reducible refine hK _ ?_; clear hK K) | (refine run_cond rfl (fun hc => ?_) (fun hc => ?_) <;> try (simp only [*, beq_self_eq_true] at hc; done)) | refine run_block ?_ | refine run_ret ?_ | refine run_nil ?_ | refine run_exit ?_ | refine blk_normal ?_ | refine blk_ret ?_ | refine blk_here ?_ | refine blk_there rfl ?_ | refine loop_exit ?_ | refine loop_ret ?_ | refine un_exit ?_ | refine un_ret ?_ | refine unE_exit ?_ | refine unE_ret ?_ | refine un_normal ?_)
  · exfalso
    simp at hc
  · rename_i h0
    have hlt : j < b.n := by simp only [decide_eq_true_eq] at h0; omega
    exact loop_normal (b.n - (j + 1)) (saSt b (j + 1)) (by omega) (LeS.intro [0, 1, 2, 3] idtt (by simp only [diff, notIn, Nat.beq, and_self]) rfl (by simp only [saSt, slotsLe, slotAt, leV, leV1, leC, leA, nthO, and_self]) ⟨blk_le' b 1 1 rfl, blk_le' b 0 0 rfl, ops_le b.n b.f false, ops_le b.n b.f false, trivial⟩) ⟨j + 1, rfl, hlt, rfl⟩
  · exact end_oo _ rfl rfl rfl ⟨rfl, rfl⟩
end Go.Proofs.Ytmbnakinhnkabaa

namespace Go.Proofs.Ytmbnakinhnkabaa
open Go.AM
set_option maxRecDepth 100000
set_option linter.unusedSimpArgs false
set_option linter.unusedVariables false
def headR (b : BlkS) : Bool := (((((b.pc.tmod 4 != 0) || !betw b.words 1 16) || !betw b.el 0 1) || !betw b.n 1 512) || ((b.f 0).kind != 14)) || ((b.f 0).imm != b.pc)
def lastR (k : Int) : Bool := ((k == 16) || (k == 17)) || (k == 18)
def abR (o : OpS) : Bool := (decide (((usesS o.kind : Nat) : Int) < 2) && (o.b != 0)) || (decide (((usesS o.kind : Nat) : Int) < 1) && (o.a != 0))
def opR1 (b : BlkS) (j : Nat) : Bool := (!fieldR (b.f j)) || (!(lastR (b.f j).kind == ((j : Int) == (b.n : Int) - 1)))
def opR (b : BlkS) (j : Nat) : Bool := (!opR1 b j && usesOk (b.f j) j b.f (usesS (b.f j).kind)) && !abR (b.f j)
def opsR (b : BlkS) : Nat → Bool
  | 0 => true
  | j + 1 => opsR b j && opR b j
def rightR (b : BlkS) : Bool := !headR b && opsR b b.n
theorem opsR_no {b : BlkS} : ∀ {n j : Nat}, j < n → opR b j = false → opsR b n = false
  | n + 1, j, h, hb => by
    simp only [opsR]
    by_cases hj : j = n
    · rw [← hj, hb, Bool.and_false]
    · rw [opsR_no (n := n) (by omega) hb, Bool.false_and]
theorem rightR_no {b : BlkS} {j : Nat} (h : j < b.n) (hb : opR b j = false) : rightR b = false := by unfold rightR; rw [opsR_no h hb, Bool.and_false]
def rrSt (b : BlkS) (j : Nat) : St := ⟨[⟨4, [], .c (.int .i64 j)⟩, ⟨3, [], .c (.int .i64 b.n)⟩, ⟨1, [], .c (.ptr ⟨1, 0, 0, 0⟩)⟩], ⟨2, [(1, blkB b 0), (0, opsB b.n b.f)]⟩⟩
def rrIn (b : BlkS) (j u i : Nat) : St := ⟨⟨9, [], .c (.int .i64 i)⟩ :: ⟨8, [], .c (.slice ⟨3, 0, 0, 0⟩ false u)⟩ :: ⟨5, [], .c (.ptr ⟨2, 0, 0, 0⟩)⟩ :: (rrSt b j).tmps, ⟨4, (3, usesBk (b.f j) u) :: (2, opB' (b.f j)) :: (rrSt b j).heap.blks⟩⟩
set_option maxHeartbeats 8000000 in
theorem con11 (b : BlkS) : Con Try.prog 11 [.agg (blkL b 0)] ⟨1, [(0, opsB b.n b.f)]⟩ (fun v H' => v = .c (.bool (rightR b)) ∧ H' = ⟨1, [(0, opsB b.n b.f)]⟩) := by
  (refine con_of_run mixed (fn := Try.f11) (by kernel_rfl) (by kernel_rfl) C11_ok (rs := [.tmp 2]) (by kernel_rfl) (Nat.le_of_ble_eq_true (by kernel_rfl)) ?_; unfold C11; simp only [initT])
  repeat' (first | refine run_seq ?_ | refine run_skip ?_ | (refine run_region fun K hK => ?_; (try (simp (maxSteps := 10000000) only [blkL, C11r0, C11r1, rwp_nil, rwp_cons, aop, gpath, St.get, slotAt, sfx, eqP, segsOf, St.put, addBlk, getB, ld1, rowNeed, segAt, nsub, shed, addN, Seg.size, sizes, Nat.reduceAdd])); (repeat (first | (refine And.intro ?_ ?_; · (first | trivial | assumption | omega)))); with_reducible refine hK _ ?_; clear hK K) | (refine run_cond rfl (fun hc => ?_) (fun hc => ?_) <;> try (simp only [*, Bool.true_eq_false, Bool.false_eq_true, Bool.not_true, Bool.not_false, Bool.true_or, Bool.or_true, Bool.false_or, Bool.or_false, Bool.false_and, Bool.and_false, bne_self_eq_false, beq_self_eq_true] at hc; done)) | refine run_block ?_ | refine run_ret ?_ | refine run_nil ?_ | refine run_exit ?_ | refine blk_normal ?_ | refine blk_ret ?_ | refine blk_here ?_ | refine blk_there rfl ?_ | refine loop_exit ?_ | refine loop_ret ?_ | refine un_exit ?_ | refine un_ret ?_ | refine unE_exit ?_ | refine unE_ret ?_ | refine un_normal ?_)
  (refine run_regionL fun K hK => ?_; simp only [C11r2]; (repeat' (first | (refine And.intro ?_ ?_; · (first | trivial | assumption | omega | (intros; simp_all [betw]; done) | (intros; simp [betw] at *; omega))) | (rw [rwp_cons]; (try simp (maxSteps := 10000000) only [opL, opsB, rwp_nil, aop, gpath, St.get, slotAt, sfx, eqP, St.put, addBlk, getB, ld1, rowNeed, segAt, nsub, bin, un, isShift, sameK, arith, getsl, selB_or, beqb, shed, addN, Nat.beq, Seg.size, imp, appL, argsOf, ptrsOf, strOk, plusA, Nat.reduceAdd, Int.reduceToNat])) | ((first | (refine call_g _ (imp_of (con33 _ _ _ _)) ?_)) <;> (try simp (maxSteps := 10000000) only [rwpK_app, St.put])))); all_goals ((try simp only [rwp_nil, shed]); (with_reducible refine hK _ (⟨⟨52, [], .c (.bool (headR b))⟩ :: ⟨3, [], .c (.int .i64 b.n)⟩ :: ⟨1, [], .c (.ptr ⟨1, 0, 0, 0⟩)⟩ :: [], ⟨2, [(1, blkB b 0), (0, opsB b.n b.f)]⟩⟩) ?hle ?_); (case hle => exact (LeS.intro [0, 1] idts (by simp only [diff, notIn, Nat.beq, and_self]) rfl (by simp only [headR, slotsLe, slotAt, leV, leV1, leC, leA, nthO, and_self]) ⟨blk_le' b 0 0 rfl, ops_le b.n b.f false, trivial⟩)); clear hK K))
  refine run_cond rfl (fun hc => ?_) (fun hc => ?_)
  · repeat' (first | refine run_seq ?_ | refine run_skip ?_ | (refine run_region fun K hK => ?_; (try (simp (maxSteps := 10000000) only [C11r3, rwp_nil, rwp_cons, aop, gpath, St.get, St.put, addBlk, shed])); (repeat (first | (refine And.intro ?_ ?_; · ))); with_reducible refine hK _ ?_; clear hK K) | (refine run_cond rfl (fun hc => ?_) (fun hc => ?_) <;> try (simp only [*, Bool.true_eq_false, Bool.false_eq_true, Bool.not_true, Bool.not_false, Bool.true_or, Bool.or_true, Bool.false_or, Bool.or_false, Bool.false_and, Bool.and_false, bne_self_eq_false, beq_self_eq_true] at hc; done)) | refine run_block ?_ | refine run_ret ?_ | refine run_nil ?_ | refine run_exit ?_ | refine blk_normal ?_ | refine blk_ret ?_ | refine blk_here ?_ | refine blk_there rfl ?_ | refine loop_exit ?_ | refine loop_ret ?_ | refine un_exit ?_ | refine un_ret ?_ | refine unE_exit ?_ | refine unE_ret ?_ | refine un_normal ?_)
    have e : rightR b = false := by unfold rightR; rw [hc]; rfl
    rw [e]
    exact end_ops false rfl rfl ⟨rfl, rfl⟩
  have hhd := hc
  have hn : 1 ≤ b.n ∧ b.n ≤ 512 := by
    unfold headR betw at hc
    simp only [Bool.or_eq_false_iff, Bool.not_eq_false', Bool.and_eq_true, decide_eq_true_eq] at hc
    omega
  clear hc
  refine run_skip (run_seq (run_seq ?_))
  (refine run_regionL fun K hK => ?_; (try (simp (maxSteps := 10000000) only [opL, blkL, blkB, opsB, C11r4, rwp_nil, rwp_cons, aop, gpath, St.get, St.put, addBlk, shed])); (repeat (first | (refine And.intro ?_ ?_; · first | trivial | assumption | omega))); refine hK _ (rrSt b 0) (LeS.intro [0, 1] idts (by simp only [diff, notIn, Nat.beq, and_self]) rfl (by simp only [rrSt, slotsLe, slotAt, leV, leV1, leC, leA, nthO, Int.natCast_zero, and_self]) ⟨blk_le' b 0 0 rfl, ops_le b.n b.f false, trivial⟩) ?_; clear hK K)
  refine run_block ?_
  refine run_loop (fun m s => ∃ j, m = b.n - j ∧ j ≤ b.n ∧ opsR b j = true ∧ s = rrSt b j) b.n ⟨0, rfl, Nat.zero_le _, rfl, rfl⟩ ?_
  rintro m s ⟨j, rfl, hj, hok, rfl⟩
  have hw1 : IntKind.i64.wrap ((b.n : Int) - 1) = (b.n : Int) - 1 := by rw [IntKind.wrap_i64]; omega
  have hw : IntKind.i64.wrap ((j : Int) + 1) = ((j + 1 : Nat) : Int) := by rw [IntKind.wrap_i64]; omega
  unfold rrSt
  repeat' (first | refine run_seq ?_ | refine run_skip ?_ | (refine run_region fun K hK => ?_; (try (simp (maxSteps := 10000000) only [opL, blkB, blkL, opsB, C11r5, C11r6, C11r7, C11r8, C11r23, rwp_nil, rwp_cons, aop, gpath, St.get, slotAt, sfx, eqP, St.put, addBlk, getB, setB, ld1, ldn, stn, setRow, rowNeed, segAt, nsub, bin, isShift, sameK, arith, getsl, selB_or, beqb, shed, addN, Nat.beq, Seg.size, sizes, imp, appL, argsOf, ptrsOf, cut, takeS, dropS, putS, strOk, plusA, exOk, Nat.reduceAdd, List.append_nil, List.nil_append, Int.toNat_natCast])); (repeat (first | (refine And.intro ?_ ?_; · (first | trivial | assumption | (simp only [decide_eq_true_eq] at *; omega))) | ((first | (refine call_t _ (con34 (b.f j) _) ?_; rintro v H' ⟨rfl, rfl⟩) | refine call_q _ (con34 (b.f j) _) ?_ | refine call_g _ (imp_of (con34 (b.f j) _)) ?_); simp (maxSteps := 10000000) only [rwp_nil, rwp_cons, rwpK_app, aop, gpath, St.get, slotAt, sfx, eqP, St.put, addBlk, shed]))); with_reducible refine hK _ ?_; clear hK K) | (refine run_cond rfl (fun hc => ?_) (fun hc => ?_) <;> try (simp only [*, Bool.true_eq_false, Bool.false_eq_true, Bool.not_true, Bool.not_false, Bool.true_or, Bool.or_true, Bool.false_or, Bool.or_false, Bool.false_and, Bool.and_false, bne_self_eq_false, beq_self_eq_true] at hc; done)) | refine run_block ?_ | refine run_ret ?_ | refine run_nil ?_ | refine run_exit ?_ | refine blk_normal ?_ | refine blk_ret ?_ | refine blk_here ?_ | refine blk_there rfl ?_ | refine loop_exit ?_ | refine loop_ret ?_ | refine un_exit ?_ | refine un_ret ?_ | refine unE_exit ?_ | refine unE_ret ?_ | refine un_normal ?_)
  · have hlt : j < b.n := by simp only [decide_eq_true_eq] at hc; omega
    clear hc
    (refine run_regionL fun K hK => ?_; (try (simp (maxSteps := 10000000) only [hw1, C11r9, rwp_nil, rwp_cons, aop, gpath, St.get, slotAt, sfx, eqP, St.put, addBlk, bin, un, eqB, isShift, sameK, arith, getsl, selB_or, beqb, shed])); (repeat (first | (refine And.intro ?_ ?_; · first | trivial | assumption | omega))); refine hK _ (⟨⟨87, [], .c (.bool (opR1 b j))⟩ :: ⟨5, [], .c (.ptr ⟨2, 0, 0, 0⟩)⟩ :: (rrSt b j).tmps, ⟨3, (2, opB' (b.f j)) :: (rrSt b j).heap.blks⟩⟩) (LeS.intro [0, 1, 2] idts (by simp only [diff, notIn, Nat.beq, and_self]) rfl (by simp only [opR1, lastR, rrSt, slotsLe, slotAt, leV, leV1, leC, leA, nthO, and_self]) ⟨opk_le (b.f j), blk_le' b 0 0 rfl, ops_le b.n b.f false, trivial⟩) ?_; clear hK K)
    refine run_cond rfl (fun hc => ?_) (fun hc => ?_)
    · unfold rrSt
      repeat' (first | refine run_seq ?_ | refine run_skip ?_ | (refine run_region fun K hK => ?_; (try (simp (maxSteps := 10000000) only [C11r10, rwp_nil, rwp_cons, aop, gpath, St.get, St.put, addBlk, shed])); (repeat (first | (refine And.intro ?_ ?_; · ))); with_reducible refine hK _ ?_; clear hK K) | (refine run_cond rfl (fun hc => ?_) (fun hc => ?_) <;> try (simp only [*, Bool.true_eq_false, Bool.false_eq_true, Bool.not_true, Bool.not_false, Bool.true_or, Bool.or_true, Bool.false_or, Bool.or_false, Bool.false_and, Bool.and_false, bne_self_eq_false, beq_self_eq_true] at hc; done)) | refine run_block ?_ | refine run_ret ?_ | refine run_nil ?_ | refine run_exit ?_ | refine blk_normal ?_ | refine blk_ret ?_ | refine blk_here ?_ | refine blk_there rfl ?_ | refine loop_exit ?_ | refine loop_ret ?_ | refine un_exit ?_ | refine un_ret ?_ | refine unE_exit ?_ | refine unE_ret ?_ | refine un_normal ?_)
      have e : rightR b = false := rightR_no hlt (by unfold opR; rw [hc]; rfl)
      rw [e]
      exact end_ops false rfl rfl ⟨rfl, rfl⟩
    have h1 := hc
    clear hc
    obtain ⟨u, hu⟩ : ∃ u, usesS (b.f j).kind = u := ⟨_, rfl⟩
    have hu2 : u ≤ 2 := by rw [← hu]; unfold usesS; (repeat' split) <;> omega
    unfold rrSt opB'
    repeat' (first | refine run_seq ?_ | refine run_skip ?_ | (refine run_region fun K hK => ?_; (try (simp (maxSteps := 10000000) only [opL, blkB, blkL, opsB, C11r11, rwp_cons, aop, gpath, St.get, slotAt, sfx, eqP, St.put, addBlk, getB, ldn, rowNeed, nsub, Seg.size, appL, argsOf, ptrsOf, cut, takeS, dropS, Nat.reduceAdd])); (repeat (first | (refine And.intro ?_ ?_; · (first | trivial | assumption | omega)) | ((first | (refine call_t _ (con35 (b.f j) _ _ (by simp [keysLt])) ?_; rintro v H' ⟨rfl, rfl⟩) | refine call_q _ (con35 (b.f j) _ _ (by simp [keysLt])) ?_ | refine call_g _ (imp_of (con35 (b.f j) _ _ (by simp [keysLt]))) ?_); simp (maxSteps := 10000000) only [hu, rwp_nil, rwp_cons, rwpK_app, aop, gpath, St.get, slotAt, sfx, eqP, St.put, addBlk, shed, Nat.reduceAdd, addBs]))); with_reducible refine hK _ ?_; clear hK K) | (refine run_cond rfl (fun hc => ?_) (fun hc => ?_) <;> try (simp only [*, Bool.true_eq_false, Bool.false_eq_true, Bool.not_true, Bool.not_false, Bool.true_or, Bool.or_true, Bool.false_or, Bool.or_false, Bool.false_and, Bool.and_false, bne_self_eq_false, beq_self_eq_true] at hc; done)) | refine run_block ?_ | refine run_ret ?_ | refine run_nil ?_ | refine run_exit ?_ | refine blk_normal ?_ | refine blk_ret ?_ | refine blk_here ?_ | refine blk_there rfl ?_ | refine loop_exit ?_ | refine loop_ret ?_ | refine un_exit ?_ | refine un_ret ?_ | refine unE_exit ?_ | refine unE_ret ?_ | refine un_normal ?_)
    (refine run_regionL fun K hK => ?_; (try (simp (maxSteps := 10000000) only [C11r12, rwp_nil, rwp_cons, aop, gpath, St.get, St.put, addBlk, shed])); (repeat (first | (refine And.intro ?_ ?_; · first | trivial | assumption | omega))); refine hK _ (rrIn b j u 0) (LeS.intro [0, 1, 2, 3] idts (by simp only [diff, notIn, Nat.beq, and_self]) rfl (by simp only [rrIn, rrSt, slotsLe, slotAt, leV, leV1, leC, leA, nthO, Int.natCast_zero, and_self]) ⟨⟨rfl, rfl, id, Nat.le_refl _, fun _ _ => ⟨⟨rfl, rfl⟩, trivial⟩⟩, opk_le (b.f j), blk_le' b 0 0 rfl, ops_le b.n b.f false, trivial⟩) ?_; clear hK K)
    refine run_block ?_
    refine run_loop (fun m s => ∃ i, m = u - i ∧ i ≤ u ∧ usesOk (b.f j) j b.f i = true ∧ s = rrIn b j u i) u ⟨0, rfl, Nat.zero_le _, rfl, rfl⟩ ?_
    rintro m s ⟨i, rfl, hi, hoi, rfl⟩
    have hwi : IntKind.i64.wrap ((i : Int) + 1) = ((i + 1 : Nat) : Int) := by rw [IntKind.wrap_i64]; omega
    unfold rrIn rrSt opB'
    repeat' (first | refine run_seq ?_ | refine run_skip ?_ | (refine run_region fun K hK => ?_; (try (simp (maxSteps := 10000000) only [opL, blkB, blkL, opsB, usesBk, hwi, C11r13, C11r14, C11r15, C11r16, C11r17, C11r18, C11r19, rwp_nil, rwp_cons, aop, gpath, St.get, slotAt, sfx, eqP, St.put, addBlk, getB, ld1, ldn, rowNeed, segAt, nsub, bin, un, isShift, sameK, arith, getsl, selB_or, beqb, shed, addN, Nat.beq, Seg.size, imp, appL, argsOf, ptrsOf, cut, takeS, dropS, strOk, plusA, Nat.reduceAdd, Int.toNat_natCast])); (repeat (first | (refine And.intro ?_ ?_; · (first | trivial | assumption | (intros; simp only [Bool.or_eq_false_iff, decide_eq_false_iff_not, decide_eq_true_eq] at *; omega))) | ((first | (refine call_t _ (con36 (b.f _) _) ?_; rintro v H' ⟨rfl, rfl⟩) | refine call_q _ (con36 (b.f _) _) ?_ | refine call_g _ (imp_of (con36 (b.f _) _)) ?_); simp (maxSteps := 10000000) only [rwp_nil, rwp_cons, rwpK_app, aop, gpath, St.get, slotAt, sfx, eqP, St.put, addBlk, shed]))); with_reducible refine hK _ ?_; clear hK K) | (refine run_cond rfl (fun hc => ?_) (fun hc => ?_) <;> try (simp only [*, Bool.true_eq_false, Bool.false_eq_true, Bool.not_true, Bool.not_false, Bool.true_or, Bool.or_true, Bool.false_or, Bool.or_false, Bool.false_and, Bool.and_false, bne_self_eq_false, beq_self_eq_true] at hc; done)) | refine run_block ?_ | refine run_ret ?_ | refine run_nil ?_ | refine run_exit ?_ | refine blk_normal ?_ | refine blk_ret ?_ | refine blk_here ?_ | refine blk_there rfl ?_ | refine loop_exit ?_ | refine loop_ret ?_ | refine un_exit ?_ | refine un_ret ?_ | refine unE_exit ?_ | refine unE_ret ?_ | refine un_normal ?_)
    · rename_i hc0
      have h2 : usesOk (b.f j) j b.f u = false := usesOk_no (j := i) (by simp only [decide_eq_true_eq] at hc0; omega) (by rw [useOk_eq, hc]; rfl)
      have e : rightR b = false := rightR_no hlt (by unfold opR; rw [hu, h2, Bool.and_false]; rfl)
      rw [e]
      exact end_ops false rfl rfl ⟨rfl, rfl⟩
    · rename_i hc0 hc1
      have h2 : usesOk (b.f j) j b.f u = false := usesOk_no (j := i) (by simp only [decide_eq_true_eq] at hc0; omega) (by rw [useOk_eq, hc1, hc]; rfl)
      have e : rightR b = false := rightR_no hlt (by unfold opR; rw [hu, h2, Bool.and_false]; rfl)
      rw [e]
      exact end_ops false rfl rfl ⟨rfl, rfl⟩
    · rename_i hc0 hc1
      have h2 : i < u := by simp only [decide_eq_true_eq] at hc0; omega
      refine loop_normal (u - (i + 1)) (rrIn b j u (i + 1)) (by omega) (LeS.intro [0, 1, 2, 3] idts (by simp only [diff, notIn, Nat.beq, and_self]) rfl (by simp only [rrIn, rrSt, slotsLe, slotAt, leV, leV1, leC, leA, nthO, and_self]) ⟨⟨rfl, rfl, id, Nat.le_refl _, fun _ _ => ⟨⟨rfl, rfl⟩, trivial⟩⟩, opk_le (b.f j), blk_le' b 0 0 rfl, ops_le b.n b.f false, trivial⟩) ⟨i + 1, rfl, h2, ?_, rfl⟩
      simp only [usesOk, hoi, useOk_eq, hc1, hc, Bool.false_or, Bool.not_false, Bool.and_self]
    · have hiu : i = u := by simp only [decide_eq_false_iff_not] at hc; omega
      have hou : usesOk (b.f j) j b.f u = true := by rw [← hiu]; exact hoi
      clear hc
      repeat' (first | refine run_seq ?_ | refine run_skip ?_ | (refine run_region fun K hK => ?_; (try (simp (maxSteps := 10000000) only [hw, C11r20, C11r21, C11r22, rwp_nil, rwp_cons, aop, gpath, St.get, slotAt, sfx, eqP, St.put, addBlk, getB, ld1, rowNeed, segAt, nsub, bin, isShift, sameK, arith, getsl, selB_or, selB_and, beqb, shed, addN, Seg.size, Nat.reduceAdd])); (repeat (first | (refine And.intro ?_ ?_; · (first | trivial | assumption | omega | (intros; first | trivial | omega))))); with_reducible refine hK _ ?_; clear hK K) | (refine run_cond rfl (fun hc => ?_) (fun hc => ?_) <;> try (simp only [*, Bool.true_eq_false, Bool.false_eq_true, Bool.not_true, Bool.not_false, Bool.true_or, Bool.or_true, Bool.false_or, Bool.or_false, Bool.false_and, Bool.and_false, bne_self_eq_false, beq_self_eq_true] at hc; done)) | refine run_block ?_ | refine run_ret ?_ | refine run_nil ?_ | refine run_exit ?_ | refine blk_normal ?_ | refine blk_ret ?_ | refine blk_here ?_ | refine blk_there rfl ?_ | refine loop_exit ?_ | refine loop_ret ?_ | refine un_exit ?_ | refine un_ret ?_ | refine unE_exit ?_ | refine unE_ret ?_ | refine un_normal ?_)
      · have e : rightR b = false := rightR_no hlt (by unfold opR abR; rw [hu, hc, Bool.not_true, Bool.and_false])
        rw [e]
        exact end_ops false rfl rfl ⟨rfl, rfl⟩
      · refine loop_normal (b.n - (j + 1)) (rrSt b (j + 1)) (by omega) (LeS.intro [0, 1] idts (by simp only [diff, notIn, Nat.beq, and_self]) rfl (by simp only [rrSt, slotsLe, slotAt, leV, leV1, leC, leA, nthO, and_self]) ⟨blk_le' b 0 0 rfl, ops_le b.n b.f false, trivial⟩) ⟨j + 1, rfl, hlt, ?_, rfl⟩
        simp only [opsR, opR, abR, hok, h1, hou, hu, hc, Bool.not_false, Bool.and_self]
  · have e : j = b.n := by simp only [decide_eq_false_iff_not] at hc; omega
    have e2 : rightR b = true := by unfold rightR; rw [hhd, ← e, hok]; rfl
    rw [e2]
    exact end_ops true rfl rfl ⟨rfl, rfl⟩
end Go.Proofs.Ytmbnakinhnkabaa

namespace Go.Proofs.Ytmbnakinhnkabaa
open Go.AM
set_option maxRecDepth 100000
set_option linter.unusedSimpArgs false
set_option linter.unusedVariables false
theorem and3 {p : Int} (h0 : 0 ≤ p) (h1 : p ≤ 18446744073709551615) : IntKind.u64.wrap (BitVec.ofInt IntKind.u64.bits p &&& BitVec.ofInt IntKind.u64.bits 3).toNat = p.tmod 4 := by
  have e : (BitVec.ofInt 64 p &&& BitVec.ofInt 64 3).toNat = p.toNat % 4 := by
    rw [BitVec.toNat_and, BitVec.toNat_ofInt, BitVec.toNat_ofInt]
    have e1 : (p % ((2 ^ 64 : Nat) : Int)).toNat = p.toNat := by
      rw [Int.emod_eq_of_lt h0 (by simp only [Nat.reducePow]; omega)]
    have e2 : ((3 : Int) % ((2 ^ 64 : Nat) : Int)).toNat = 2 ^ 2 - 1 := by decide
    rw [e1, e2, Nat.and_two_pow_sub_one_eq_mod]
  show IntKind.u64.wrap (((BitVec.ofInt 64 p &&& BitVec.ofInt 64 3).toNat : Nat) : Int) = _
  rw [e, show ∀ n : Int, IntKind.u64.wrap n = n % 18446744073709551616 from fun n => by simp [IntKind.wrap, IntKind.bits, IntKind.signed], Int.tmod_eq_emod_of_nonneg h0]
  omega
theorem shr32 {p : Int} (h0 : 0 ≤ p) : (p.fdiv (2 ^ min 32 IntKind.u64.bits) == 0) = decide (p < 4294967296) := by
  have e : ((2 : Int) ^ min 32 IntKind.u64.bits) = 4294967296 := by decide
  rw [e, Int.fdiv_eq_ediv_of_nonneg _ (by decide), show (p / 4294967296 == 0) = decide (p / 4294967296 = 0) from rfl]
  exact decide_eq_decide.2 (by omega)
theorem bne_dec (a b : Int) : (a != b) = !decide (a = b) := rfl
theorem beq_dec (a b : Int) : (a == b) = decide (a = b) := rfl
theorem field_eq (o : OpS) (hw : OpWf o) : (fieldR o && !abR o) = !fieldBad o := by
  have h3 := and3 hw.imm.1 hw.imm.2
  have h4 : o.imm.fdiv (2 ^ min 32 IntKind.u64.bits) = 0 ↔ o.imm < 4294967296 := by
    have := shr32 hw.imm.1
    rw [Bool.eq_iff_iff, decide_eq_true_eq, beq_iff_eq] at this
    exact this
  by_cases h1 : o.kind = 1
  · unfold fieldR fieldBad rightF abR
    simp only [h1, hasR, hasImm, hasOrd, usesS, andB, betw, upS, inB, ordF, h3, h4, beq_dec, bne_dec, Int.reduceEq, or_self, or_false, if_true, if_false, decide_true, decide_false, Bool.or_false, Bool.false_or, Bool.not_true, Bool.not_false, Bool.true_and, Bool.and_true, Bool.false_and, Nat.reduceLT, Nat.reduceAdd]
    rw [Bool.eq_iff_iff]
    simp only [Bool.and_eq_true, Bool.not_eq_true', Bool.or_eq_false_iff, Bool.and_eq_false_iff, decide_eq_true_eq, decide_eq_false_iff_not, Bool.not_eq_false']
    omega
  by_cases h2 : o.kind = 2
  · unfold fieldR fieldBad rightF abR
    simp only [h2, hasR, hasImm, hasOrd, usesS, andB, betw, upS, inB, ordF, h3, h4, beq_dec, bne_dec, Int.reduceEq, or_self, or_false, if_true, if_false, decide_true, decide_false, Bool.or_false, Bool.not_true, Bool.not_false, Bool.true_and, Bool.and_true, Bool.false_and, Nat.reduceLT, Nat.reduceAdd]
    rw [Bool.eq_iff_iff]
    simp only [Bool.and_eq_true, Bool.not_eq_true', Bool.or_eq_false_iff, Bool.and_eq_false_iff, decide_eq_true_eq, decide_eq_false_iff_not, Bool.not_eq_false', ge_iff_le]
    omega
  by_cases h3 : o.kind = 3
  · unfold fieldR fieldBad rightF abR
    simp only [hasR, hasImm, hasOrd, usesS, andB, betw, upS, inB, ordF, h3, h4, beq_dec, bne_dec, Int.reduceEq, or_self, or_true, or_false, if_true, if_false, decide_true, decide_false, Bool.or_true, Bool.or_false, Bool.not_true, Bool.not_false, Bool.true_and, Bool.and_true, Bool.false_and, Nat.reduceLT, Nat.reduceAdd]
    rw [Bool.eq_iff_iff]
    simp only [Bool.and_eq_true, Bool.not_eq_true', Bool.or_eq_false_iff, Bool.and_eq_false_iff, decide_eq_true_eq, decide_eq_false_iff_not, Bool.not_eq_false', ge_iff_le]
    omega
  by_cases h4 : o.kind = 4
  · unfold fieldR fieldBad rightF abR
    simp only [hasR, hasImm, hasOrd, usesS, andB, betw, upS, inB, ordF, h4, beq_dec, bne_dec, Int.reduceEq, or_self, or_false, if_true, if_false, decide_true, decide_false, Bool.or_false, Bool.false_or, Bool.not_true, Bool.not_false, Bool.true_and, Bool.and_true, Nat.reduceLT, Nat.reduceAdd]
    rw [Bool.eq_iff_iff]
    simp only [Bool.and_eq_true, Bool.not_eq_true', Bool.or_eq_false_iff, Bool.and_eq_false_iff, decide_eq_true_eq, decide_eq_false_iff_not, Bool.not_eq_false']
    omega
  by_cases h5 : o.kind = 5
  · unfold fieldR fieldBad rightF abR
    simp only [h5, hasR, hasImm, hasOrd, usesS, andB, betw, upS, inB, ordF, beq_dec, bne_dec, Int.reduceEq, or_self, or_true, or_false, if_true, if_false, decide_true, decide_false, Bool.or_false, Bool.false_or, Bool.not_true, Bool.not_false, Bool.true_and, Bool.and_true, Bool.false_and, Nat.reduceLT, Nat.reduceAdd]
    rw [Bool.eq_iff_iff]
    simp only [Bool.and_eq_true, Bool.not_eq_true', Bool.or_eq_false_iff, Bool.and_eq_false_iff, decide_eq_true_eq, decide_eq_false_iff_not, Bool.not_eq_false']
    omega
  by_cases h6 : o.kind = 6
  · unfold fieldR fieldBad rightF abR
    simp only [h6, hasR, hasImm, hasOrd, usesS, andB, betw, upS, inB, ordF, beq_dec, bne_dec, Int.reduceEq, or_self, or_false, if_true, if_false, decide_true, decide_false, Bool.or_true, Bool.or_false, Bool.not_true, Bool.not_false, Bool.true_and, Bool.and_true, Bool.false_and, Nat.reduceLT, Nat.reduceAdd]
    rw [Bool.eq_iff_iff]
    simp only [Bool.and_eq_true, Bool.not_eq_true', Bool.or_eq_false_iff, Bool.and_eq_false_iff, decide_eq_true_eq, decide_eq_false_iff_not, Bool.not_eq_false', ge_iff_le]
    omega
  by_cases h7 : o.kind = 7
  · unfold fieldR fieldBad rightF abR
    simp only [h7, hasR, hasImm, hasOrd, usesS, andB, betw, upS, inB, ordF, beq_dec, bne_dec, Int.reduceEq, or_self, or_true, or_false, if_true, if_false, decide_true, decide_false, Bool.or_true, Bool.or_false, Bool.not_true, Bool.not_false, Bool.true_and, Bool.and_true, Bool.false_and, Nat.reduceLT, Nat.reduceAdd]
    rw [Bool.eq_iff_iff]
    simp only [Bool.and_eq_true, Bool.not_eq_true', Bool.or_eq_false_iff, Bool.and_eq_false_iff, decide_eq_true_eq, decide_eq_false_iff_not, Bool.not_eq_false', ge_iff_le]
    omega
  by_cases h8 : o.kind = 8
  · unfold fieldR fieldBad rightF abR
    simp only [h8, hasR, hasImm, hasOrd, usesS, andB, betw, upS, inB, ordF, beq_dec, bne_dec, Int.reduceEq, or_self, or_false, if_true, if_false, decide_true, decide_false, Bool.or_true, Bool.or_false, Bool.not_true, Bool.not_false, Bool.true_and, Bool.and_true, Bool.false_and, Nat.reduceLT, Nat.reduceAdd]
    rw [Bool.eq_iff_iff]
    simp only [Bool.and_eq_true, Bool.not_eq_true', Bool.or_eq_false_iff, Bool.and_eq_false_iff, decide_eq_true_eq, decide_eq_false_iff_not, Bool.not_eq_false', ge_iff_le]
    omega
  by_cases h9 : o.kind = 9
  · unfold fieldR fieldBad rightF abR
    simp only [h9, hasR, hasImm, hasOrd, usesS, andB, betw, upS, inB, ordF, beq_dec, bne_dec, Int.reduceEq, or_self, or_true, or_false, if_true, if_false, decide_true, decide_false, Bool.or_false, Bool.not_true, Bool.not_false, Bool.true_and, Bool.and_true, Bool.false_and, Nat.reduceLT, Nat.reduceAdd]
    rw [Bool.eq_iff_iff]
    simp only [Bool.and_eq_true, Bool.or_eq_true, Bool.not_eq_true', Bool.or_eq_false_iff, Bool.and_eq_false_iff, decide_eq_true_eq, decide_eq_false_iff_not, Bool.not_eq_false', ge_iff_le]
    omega
  by_cases h10 : o.kind = 10
  · unfold fieldR fieldBad rightF abR
    simp only [h10, hasR, hasImm, hasOrd, usesS, andB, betw, upS, inB, ordF, beq_dec, bne_dec, Int.reduceEq, or_self, or_true, or_false, if_true, if_false, decide_true, decide_false, Bool.or_true, Bool.or_false, Bool.not_true, Bool.not_false, Bool.true_and, Bool.and_true, Bool.false_and, Nat.reduceLT, Nat.reduceAdd]
    rw [Bool.eq_iff_iff]
    simp only [Bool.and_eq_true, Bool.or_eq_true, Bool.not_eq_true', Bool.or_eq_false_iff, Bool.and_eq_false_iff, decide_eq_true_eq, decide_eq_false_iff_not, Bool.not_eq_false']
    omega
  by_cases h11 : o.kind = 11
  · unfold fieldR fieldBad rightF abR
    simp only [h11, hasR, hasImm, hasOrd, usesS, andB, betw, upS, inB, ordF, beq_dec, bne_dec, Int.reduceEq, or_self, or_true, or_false, if_true, if_false, decide_true, decide_false, Bool.or_true, Bool.or_false, Bool.not_true, Bool.not_false, Bool.true_and, Bool.and_true, Bool.false_and, Nat.reduceLT, Nat.reduceAdd]
    rw [Bool.eq_iff_iff]
    simp only [Bool.and_eq_true, Bool.or_eq_true, Bool.not_eq_true', Bool.or_eq_false_iff, Bool.and_eq_false_iff, decide_eq_true_eq, decide_eq_false_iff_not, Bool.not_eq_false']
    omega
  by_cases h12 : o.kind = 12
  · unfold fieldR fieldBad rightF abR
    simp only [h12, hasR, hasImm, hasOrd, usesS, andB, betw, upS, inB, ordF, beq_dec, bne_dec, Int.reduceEq, or_self, or_true, if_true, if_false, decide_true, decide_false, Bool.or_true, Bool.or_false, Bool.not_true, Bool.not_false, Bool.true_and, Bool.and_true, Bool.false_and, Nat.reduceLT, Nat.reduceAdd]
    rw [Bool.eq_iff_iff]
    simp only [Bool.and_eq_true, Bool.or_eq_true, Bool.not_eq_true', Bool.or_eq_false_iff, Bool.and_eq_false_iff, decide_eq_true_eq, decide_eq_false_iff_not, Bool.not_eq_false']
    omega
  by_cases h13 : o.kind = 13
  · unfold fieldR fieldBad rightF abR
    simp only [h13, hasR, hasImm, hasOrd, usesS, andB, betw, upS, inB, ordF, beq_dec, bne_dec, Int.reduceEq, or_self, if_true, if_false, decide_true, decide_false, Bool.or_true, Bool.or_false, Bool.not_true, Bool.not_false, Bool.true_and, Bool.and_true, Bool.false_and, Nat.reduceLT, Nat.reduceAdd]
    rw [Bool.eq_iff_iff]
    simp only [Bool.and_eq_true, Bool.or_eq_true, Bool.not_eq_true', Bool.or_eq_false_iff, Bool.and_eq_false_iff, decide_eq_true_eq, decide_eq_false_iff_not, Bool.not_eq_false']
    omega
  by_cases h14 : o.kind = 14
  · unfold fieldR fieldBad rightF abR
    simp only [h14, hasR, hasImm, hasOrd, usesS, andB, betw, upS, inB, ordF, beq_dec, bne_dec, Int.reduceEq, or_self, if_true, if_false, decide_true, decide_false, Bool.or_true, Bool.or_false, Bool.not_true, Bool.not_false, Bool.true_and, Bool.and_true, Bool.false_and, Nat.reduceLT, Nat.reduceAdd]
    rw [Bool.eq_iff_iff]
    simp only [Bool.and_eq_true, Bool.not_eq_true', Bool.or_eq_false_iff, Bool.and_eq_false_iff, decide_eq_true_eq, decide_eq_false_iff_not, Bool.not_eq_false']
    omega
  by_cases h15 : o.kind = 15
  · unfold fieldR fieldBad rightF abR
    simp only [h15, hasR, hasImm, hasOrd, usesS, andB, betw, upS, inB, ordF, beq_dec, bne_dec, Int.reduceEq, or_self, or_true, or_false, if_true, if_false, decide_true, decide_false, Bool.or_true, Bool.or_false, Bool.false_or, Bool.not_true, Bool.not_false, Bool.true_and, Bool.and_true, Bool.false_and, Nat.reduceLT, Nat.reduceAdd]
    rw [Bool.eq_iff_iff]
    simp only [Bool.and_eq_true, Bool.not_eq_true', Bool.or_eq_false_iff, Bool.and_eq_false_iff, decide_eq_true_eq, decide_eq_false_iff_not, Bool.not_eq_false']
    omega
  by_cases h16 : o.kind = 16
  · unfold fieldR fieldBad rightF abR
    simp only [h16, hasR, hasImm, hasOrd, usesS, andB, betw, upS, inB, ordF, beq_dec, bne_dec, Int.reduceEq, or_self, or_true, if_true, if_false, decide_true, decide_false, Bool.or_true, Bool.or_false, Bool.false_or, Bool.not_true, Bool.not_false, Bool.true_and, Bool.and_true, Bool.false_and, Nat.reduceLT, Nat.reduceAdd]
    rw [Bool.eq_iff_iff]
    simp only [Bool.and_eq_true, Bool.not_eq_true', Bool.or_eq_false_iff, Bool.and_eq_false_iff, decide_eq_true_eq, decide_eq_false_iff_not, Bool.not_eq_false']
    omega
  by_cases h17 : o.kind = 17
  · unfold fieldR fieldBad rightF abR
    simp only [h17, hasR, hasImm, hasOrd, usesS, andB, betw, upS, inB, ordF, beq_dec, bne_dec, Int.reduceEq, or_self, or_true, if_true, if_false, decide_true, decide_false, Bool.or_false, Bool.false_or, Bool.not_true, Bool.not_false, Bool.true_and, Bool.and_true, Bool.false_and, Nat.reduceLT, Nat.reduceAdd]
    rw [Bool.eq_iff_iff]
    simp only [Bool.and_eq_true, Bool.not_eq_true', Bool.or_eq_false_iff, Bool.and_eq_false_iff, decide_eq_true_eq, decide_eq_false_iff_not, Bool.not_eq_false']
    omega
  by_cases h18 : o.kind = 18
  · unfold fieldR fieldBad rightF abR
    simp only [h18, hasR, hasImm, hasOrd, usesS, andB, betw, upS, inB, ordF, beq_dec, bne_dec, Int.reduceEq, or_self, if_true, if_false, decide_true, decide_false, Bool.or_true, Bool.or_false, Bool.not_true, Bool.not_false, Bool.true_and, Bool.and_true, Bool.false_and, Nat.reduceLT, Nat.reduceAdd]
    rw [Bool.eq_iff_iff]
    simp only [Bool.and_eq_true, Bool.not_eq_true', Bool.or_eq_false_iff, Bool.and_eq_false_iff, decide_eq_true_eq, decide_eq_false_iff_not, Bool.not_eq_false']
    omega
  have e : fieldR o = false := by simp [fieldR, *]
  have e2 : fieldBad o = true := by simp [fieldBad, rightF, *]
  rw [e, e2]
  rfl
theorem opR_eq {b : BlkS} {j : Nat} (hw : OpWf (b.f j)) : opR b j = (ropS (b.f j) j b.f && (endS (b.f j).kind == decide ((j : Int) = (b.n : Int) - 1))) := by
  have h := field_eq (b.f j) hw
  unfold opR opR1 ropS
  rw [← h]
  have e : lastR (b.f j).kind = endS (b.f j).kind := rfl
  rw [e, beq_dec]
  cases fieldR (b.f j) <;> cases abR (b.f j) <;> cases usesOk (b.f j) j b.f (usesS (b.f j).kind) <;> cases endS (b.f j).kind <;> cases decide ((j : Int) = (b.n : Int) - 1) <;> rfl
theorem opsR_eq {b : BlkS} (hw : ∀ i, i < b.n → OpWf (b.f i)) : ∀ {n : Nat}, n ≤ b.n → opsR b n = opsOk b n
  | 0, _ => rfl
  | n + 1, h => by simp only [opsR, opsOk]; rw [opsR_eq hw (by omega), opR_eq (hw n (by omega))]
theorem headR_eq {b : BlkS} (hw : BlkWf b) : headR b = (head1 b || head2 b) := by
  unfold headR head1 head2
  rw [and3 hw.pc.1 hw.pc.2]
  simp only [betw, bne_dec]
  rw [Bool.eq_iff_iff]
  simp only [Bool.or_eq_true, Bool.not_eq_true', Bool.and_eq_false_iff, decide_eq_true_eq, decide_eq_false_iff_not, ge_iff_le]
  omega
theorem rightR_eq {b : BlkS} (hw : BlkWf b) : rightR b = rightS b := by
  unfold rightR rightS
  rw [headR_eq hw, opsR_eq hw.ops (Nat.le_refl _), Bool.not_or]
end Go.Proofs.Ytmbnakinhnkabaa

namespace Go.Proofs.Ytmbnakinhnkabaa
open Go.AM
set_option maxRecDepth 100000
set_option linter.unusedSimpArgs false
set_option linter.unusedVariables false
end Go.Proofs.Ytmbnakinhnkabaa

namespace Go.Proofs.Ytmbnakinhnkabaa
open Go.AM
set_option maxRecDepth 100000
set_option linter.unusedSimpArgs false
set_option linter.unusedVariables false
end Go.Proofs.Ytmbnakinhnkabaa

namespace Go.Proofs.Ytmbnakinhnkabaa
open Go.AM
set_option maxRecDepth 100000
set_option linter.unusedSimpArgs false
set_option linter.unusedVariables false
theorem con11_at (b : BlkS) (hw : BlkWf b) (i n : Nat) (X : List (Nat × Blk)) (w : Bool) (h0 : getB X i = some ⟨6, some b.n, fun i => opL (b.f i), 39, w⟩) (hlt : i < n) (hkl : keysLt X n) : Con Try.prog 11 [.agg (blkL b i)] ⟨n, X⟩ (fun v H' => v = .c (.bool (rightS b)) ∧ H' = ⟨n, X⟩) := by
  rw [← rightR_eq hw]
  exact ro_gen (con11 b) [i] n X rfl ⟨trivial, trivial⟩ ⟨hlt, trivial⟩ hkl (by simp only [leBlks, nthO, h0]; exact ⟨ops_le b.n b.f w, trivial⟩) (by simp only [leArgs, leV, leV1, blkL, leSegs, leSeg, leC, leA, nthO, and_self]) rfl (fun _ => rfl) rfl rfl
end Go.Proofs.Ytmbnakinhnkabaa

namespace Go.Proofs.Ytmbnakinhnkabaa
open Go.AM
set_option maxRecDepth 100000
set_option linter.unusedSimpArgs false
set_option linter.unusedVariables false
def truthS (b : Bool) : Int := match b with | true => 1 | false => 0
def f52 (a b : Int) : Int := IntKind.u64.wrap (a + b)
def f53 (a b : Int) : Int := IntKind.u64.wrap (a - b)
def f54 (a b : Int) : Int := IntKind.u64.wrap (BitVec.ofInt IntKind.u64.bits a &&& BitVec.ofInt IntKind.u64.bits b).toNat
def f55 (a b : Int) : Int := IntKind.u64.wrap (BitVec.ofInt IntKind.u64.bits a ||| BitVec.ofInt IntKind.u64.bits b).toNat
def f56 (a b : Int) : Int := IntKind.u64.wrap (BitVec.ofInt IntKind.u64.bits a ^^^ BitVec.ofInt IntKind.u64.bits b).toNat
def f57 (a b : Int) : Int := IntKind.u64.wrap (a * b)
def f58 (a b : Int) : Int := if b = 0 then 0 else IntKind.u64.wrap (a.tdiv b)
def U (x : Int) : Prop := 0 ≤ x ∧ x < 18446744073709551616
theorem uwrap (x : Int) : IntKind.u64.wrap x = x % 18446744073709551616 := by
  rw [IntKind.wrap_u64]
theorem U_wrap (x : Int) : U (IntKind.u64.wrap x) := by
  rw [uwrap]; unfold U; omega
theorem sixtythree : min 63 IntKind.u64.bits = 63 := by decide
def sh63 (a : Int) : Int := a.fdiv (2 ^ 63)
theorem con96 (b : Bool) (H : Heap) : Con Try.prog 96 [.c (.bool b)] H (fun v H' => v = .c (.int .u64 (truthS b)) ∧ H' = H) := by
  refine Con.pure ?_ (by simp only [leArgs, leV, leV1, leC, and_self]) rfl H
  (refine con_of_run mixed (fn := Try.f96) (by kernel_rfl) (by kernel_rfl) C96_ok (rs := [.tmp 2]) (by kernel_rfl) (Nat.le_of_ble_eq_true (by kernel_rfl)) ?_; unfold C96; simp only [initT])
  repeat' (first | refine run_seq ?_ | refine run_skip ?_ | (refine run_region fun K hK => ?_; (try (simp (maxSteps := 10000000) only [C96r0, C96r1, C96r2, C96r3, rwp_nil, rwp_cons, aop, gpath, St.get, slotAt, sfx, eqP, St.put, addBlk, shed])); (repeat (first | (refine And.intro ?_ ?_; · first | trivial | assumption | omega))); with_reducible refine hK _ ?_; clear hK K) | (refine run_cond rfl (fun hc => ?_) (fun hc => ?_) <;> try (simp only [*, Bool.true_eq_false, Bool.false_eq_true, Bool.not_true, Bool.not_false, Bool.true_or, Bool.or_true, Bool.false_or, Bool.or_false, Bool.false_and, Bool.and_false, bne_self_eq_false, beq_self_eq_true] at hc; done)) | refine run_ret ?_ | refine run_nil ?_)
  all_goals exact end_tmp1 rfl ⟨rfl, rfl⟩ rfl ⟨by rw [hc]; rfl, rfl⟩
def belowS (a b : Int) : Bool := decide (IntKind.u64.wrap (BitVec.ofInt IntKind.u64.bits a ^^^ BitVec.ofInt IntKind.u64.bits 9223372036854775808).toNat < IntKind.u64.wrap (BitVec.ofInt IntKind.u64.bits b ^^^ BitVec.ofInt IntKind.u64.bits 9223372036854775808).toNat)
theorem con97 (a b : Int) (H : Heap) : Con Try.prog 97 [.c (.int .u64 a), .c (.int .u64 b)] H (fun v H' => v = .c (.bool (belowS a b)) ∧ H' = H) := by
  refine Con.pure ?_ (by simp only [leArgs, leV, leV1, leC, and_self]) rfl H
  (refine con_of_run mixed (fn := Try.f97) (by kernel_rfl) (by kernel_rfl) C97_ok (rs := [.tmp 4]) (by kernel_rfl) (Nat.le_of_ble_eq_true (by kernel_rfl)) ?_; unfold C97; simp only [initT, Nat.reduceAdd])
  repeat' (first | refine run_seq ?_ | (refine run_region fun K hK => ?_; (try (simp (maxSteps := 10000000) only [C97r0, C97r1, rwp_nil, rwp_cons, aop, gpath, St.get, slotAt, sfx, eqP, St.put, addBlk, bin, isShift, sameK, arith, shed])); (repeat (first | (refine And.intro ?_ ?_; · first | trivial | assumption | omega))); with_reducible refine hK _ ?_; clear hK K) | refine run_ret ?_ | refine run_nil ?_)
  exact end_tmp1 rfl rfl rfl ⟨rfl, rfl⟩
def divX (a : Int) : Int := if sh63 a = 1 then IntKind.u64.wrap (0 - a) else a
def divQ (a b : Int) : Int := IntKind.u64.wrap ((divX a).tdiv (divX b))
def divS (a b : Int) : Int := if b = 0 then 0 else if sh63 a = sh63 b then divQ a b else IntKind.u64.wrap (0 - divQ a b)
theorem divX_ne' {b : Int} (hb : U b) (h : b ≠ 0) (h1 : (b.fdiv (2 ^ 63) == 1) = true) : IntKind.u64.wrap (0 - b) ≠ 0 := by
  rw [uwrap]; obtain ⟨h0, h1⟩ := hb; omega
theorem con94 (a b : Int) (ha : U a) (hb : U b) (H : Heap) : Con Try.prog 94 [.c (.int .u64 a), .c (.int .u64 b)] H (fun v H' => v = .c (.int .u64 (divS a b)) ∧ H' = H) := by
  refine Con.pure ?_ (by simp only [leArgs, leV, leV1, leC, and_self]) rfl H
  (refine con_of_run mixed (fn := Try.f94) (by kernel_rfl) (by kernel_rfl) C94_ok (rs := [.tmp 4]) (by kernel_rfl) (Nat.le_of_ble_eq_true (by kernel_rfl)) ?_; unfold C94; simp only [initT, Nat.reduceAdd])
  repeat' (first | refine run_seq ?_ | refine run_skip ?_ | (refine run_region fun K hK => ?_; (try (simp (maxSteps := 10000000) only [sixtythree, C94r0, C94r1, C94r2, C94r3, C94r4, C94r5, C94r6, C94r7, C94r8, C94r9, C94r10, C94r11, C94r12, rwp_nil, rwp_cons, aop, gpath, St.get, slotAt, sfx, eqP, St.put, addBlk, bin, isShift, sameK, arith, shiftR, shed, imp, Int.reduceToNat])); (repeat (first | (refine And.intro ?_ ?_; · (first | decide | (intros; omega) | (simpa using ‹(b == 0) = false›) | exact divX_ne' hb (by simpa using ‹(b == 0) = false›) (by assumption))))); with_reducible refine hK _ ?_; clear hK K) | (refine run_cond rfl (fun hc => ?_) (fun hc => ?_) <;> try (simp only [*, Bool.true_eq_false, Bool.false_eq_true, Bool.not_true, Bool.not_false, Bool.true_or, Bool.or_true, Bool.false_or, Bool.or_false, Bool.false_and, Bool.and_false, bne_self_eq_false, beq_self_eq_true] at hc; done)) | refine run_ret ?_ | refine run_nil ?_)
  all_goals
    refine end_tmp1 rfl ⟨rfl, rfl⟩ rfl ⟨?_, rfl⟩
    simp only [beq_iff_eq, beq_eq_false_iff_ne, bne_iff_ne, bne_eq_false_iff_eq, ne_eq] at *
    try simp only [show ∀ x : Int, x.fdiv (2 ^ 63) = sh63 x from fun _ => rfl] at *
    simp only [divS, divQ, divX]
    generalize sh63 a = p at *
    generalize sh63 b = q at *
  · simp only [*, if_true]
  all_goals rw [if_neg (by assumption)]
  · subst p q; simp at *
  · subst p q; simp only [if_true]
  · subst p; rw [if_neg (by assumption), if_pos rfl, if_neg (by assumption)]
  · subst p; exact absurd ‹(1 : Int) = q›.symm ‹¬ q = 1›
  · subst q; rw [if_neg (by assumption), if_neg (by assumption), if_pos rfl]
  · subst q; exact absurd ‹p = 1› ‹¬ p = 1›
  · rw [if_neg (by assumption), if_neg (by assumption), if_neg (by assumption)]
  · rw [if_pos (by assumption), if_neg (by assumption), if_neg (by assumption)]
def topS (a fill : Int) : Int := if fill = 2 then a.tmod 2 else IntKind.u64.wrap fill
def turn1 (a fill : Int) : Int := IntKind.u64.wrap (IntKind.u64.wrap (a.tdiv 2) + IntKind.u64.wrap (topS a fill * 2 ^ 63))
def turnS : Nat → Int → Int → Int
  | 0, a, _ => a
  | n + 1, a, f => turnS n (turn1 a f) f
def turnSt (a by_ f i : Int) : St := ⟨[⟨7, [], .c (.int .i64 i)⟩, ⟨0, [], .c (.int .u64 a)⟩, ⟨1, [], .c (.int .i64 by_)⟩, ⟨2, [], .c (.int .i64 f)⟩], ⟨0, []⟩⟩
theorem con95 (a f : Int) (n : Nat) (hn : n < 1000) (H : Heap) : Con Try.prog 95 [.c (.int .u64 a), .c (.int .i64 n), .c (.int .i64 f)] H (fun v H' => v = .c (.int .u64 (turnS n a f)) ∧ H' = H) := by
  refine Con.pure ?_ (by simp only [leArgs, leV, leV1, leC, and_self]) rfl H
  (refine con_of_run mixed (fn := Try.f95) (by kernel_rfl) (by kernel_rfl) C95_ok (rs := [.tmp 6]) (by kernel_rfl) (Nat.le_of_ble_eq_true (by kernel_rfl)) ?_; unfold C95; simp only [initT, Nat.reduceAdd])
  repeat' (first | refine run_seq ?_ | refine run_skip ?_ | (refine run_region fun K hK => ?_; (try (simp (maxSteps := 10000000) only [C95r0, rwp_nil, rwp_cons, aop, gpath, St.get, St.put, addBlk, shed])); (repeat (first | (refine And.intro ?_ ?_; · decide))); with_reducible refine hK _ ?_; clear hK K) | (refine run_cond rfl (fun hc => ?_) (fun hc => ?_) <;> try (simp only [*, Bool.true_eq_false, Bool.false_eq_true, Bool.not_true, Bool.not_false, Bool.true_or, Bool.or_true, Bool.false_or, Bool.or_false, Bool.false_and, Bool.and_false, bne_self_eq_false, beq_self_eq_true] at hc; done)) | refine run_block ?_ | refine run_ret ?_ | refine run_nil ?_ | refine run_exit ?_ | refine blk_normal ?_ | refine blk_ret ?_ | refine blk_here ?_ | refine blk_there rfl ?_ | refine loop_exit ?_ | refine loop_ret ?_ | refine un_exit ?_ | refine un_ret ?_ | refine unE_exit ?_ | refine unE_ret ?_ | refine un_normal ?_)
  (refine run_regionL fun K hK => ?_; (try (simp (maxSteps := 10000000) only [C95r1, rwp_nil, rwp_cons, aop, gpath, St.get, St.put, addBlk, shed])); (repeat (first | (refine And.intro ?_ ?_; · first | trivial | assumption | omega))); refine hK _ (turnSt a n f 0) ((LeS.intro [] (fun i h => by omega) trivial rfl (by simp only [turnSt, slotsLe, slotAt, leV, leV1, leC, and_self]) trivial)) ?_; clear hK K)
  refine run_block ?_
  generalize hT : turnS n a f = T
  refine run_loop (fun k st => ∃ (a' : Int) (i : Nat), st = turnSt a' n f i ∧ k = n - i ∧ i ≤ n ∧ turnS k a' f = T) n ⟨a, 0, rfl, by omega, by omega, hT⟩ ?_
  rintro k st ⟨a', i, rfl, hk, hi, hT⟩
  simp only [turnSt]
  repeat' (first | refine run_seq ?_ | refine run_skip ?_ | (refine run_region fun K hK => ?_; (try (simp (maxSteps := 10000000) only [sixtythree, ne_eq, C95r2, C95r3, C95r4, C95r5, C95r6, C95r7, C95r8, rwp_nil, rwp_cons, aop, gpath, St.get, slotAt, sfx, eqP, St.put, addBlk, bin, isShift, sameK, arith, shiftR, shed, imp, Int.reduceToNat])); (repeat (first | (refine And.intro ?_ ?_; · decide))); with_reducible refine hK _ ?_; clear hK K) | (refine run_cond rfl (fun hc => ?_) (fun hc => ?_) <;> try (simp only [*, Bool.true_eq_false, Bool.false_eq_true, Bool.not_true, Bool.not_false, Bool.true_or, Bool.or_true, Bool.false_or, Bool.or_false, Bool.false_and, Bool.and_false, bne_self_eq_false, beq_self_eq_true] at hc; done)) | refine run_block ?_ | refine run_ret ?_ | refine run_nil ?_ | refine run_exit ?_ | refine blk_normal ?_ | refine blk_ret ?_ | refine blk_here ?_ | refine blk_there rfl ?_ | refine loop_exit ?_ | refine loop_ret ?_ | refine un_exit ?_ | refine un_ret ?_ | refine unE_exit ?_ | refine unE_ret ?_ | refine un_normal ?_)
  · have hlt : i < n := by simpa using ‹decide ((i : Int) < (n : Int)) = true›
    obtain ⟨k', rfl⟩ : ∃ k', k = k' + 1 := ⟨k - 1, by omega⟩
    refine loop_normal k' (turnSt (turn1 a' f) n f ((i + 1 : Nat) : Int)) (by omega) (LeS.intro [] (fun i h => by omega) trivial rfl (by
      have hf : f = 2 := by simpa using hc
      have hw : IntKind.i64.wrap ((i : Int) + 1) = ((i + 1 : Nat) : Int) := by rw [IntKind.wrap_i64]; omega
      simp only [turnSt, slotsLe, slotAt, leV, leV1, leC, and_self, turn1, topS, hf, if_true, hw]) trivial) ⟨_, i + 1, rfl, by omega, by omega, hT⟩
  · have hlt : i < n := by simpa using ‹decide ((i : Int) < (n : Int)) = true›
    obtain ⟨k', rfl⟩ : ∃ k', k = k' + 1 := ⟨k - 1, by omega⟩
    refine loop_normal k' (turnSt (turn1 a' f) n f ((i + 1 : Nat) : Int)) (by omega) (LeS.intro [] (fun i h => by omega) trivial rfl (by
      have hf : ¬ f = 2 := by simpa using hc
      have hw : IntKind.i64.wrap ((i : Int) + 1) = ((i + 1 : Nat) : Int) := by rw [IntKind.wrap_i64]; omega
      simp only [turnSt, slotsLe, slotAt, leV, leV1, leC, and_self, turn1, topS, hf, if_false, hw]) trivial) ⟨_, i + 1, rfl, by omega, by omega, hT⟩
  · have hlt : ¬ i < n := by simpa using hc
    have h0 : k = 0 := by omega
    subst h0
    exact end_tmp1 rfl ⟨rfl, rfl⟩ rfl ⟨by rw [← hT]; rfl, rfl⟩
def dblS : Nat → Int → Int
  | 0, a => a
  | n + 1, a => dblS n (IntKind.u64.wrap (a + a))
def by64 (b : Int) : Int := IntKind.i64.wrap (b.tmod 64)
def refR (k a b : Int) : Int × Bool :=
  if k = 1 then (f52 a b, true) else if k = 2 then (f53 a b, true) else if k = 3 then (f54 a b, true) else if k = 4 then (f55 a b, true) else if k = 5 then (f56 a b, true) else if k = 6 then (f57 a b, true) else if k = 7 then (f58 a b, true) else
  if k = 8 then (divS a b, true) else if k = 9 then (dblS (by64 b).toNat a, true) else if k = 10 then (turnS (by64 b).toNat a 0, true) else if k = 11 then (turnS (by64 b).toNat a (IntKind.i64.wrap (sh63 a)), true) else if k = 12 then (turnS (by64 b).toNat a 2, true) else
  if k = 13 then (truthS (a == b), true) else if k = 14 then (truthS (decide (a < b)), true) else if k = 15 then (truthS (belowS a b), true) else (0, false)
def dblSt (k a b n i : Int) : St := ⟨[⟨9, [], .c (.int .i64 i)⟩, ⟨1, [], .c (.int .u64 a)⟩, ⟨8, [], .c (.int .i64 n)⟩, ⟨0, [], .c (.int .i64 k)⟩, ⟨2, [], .c (.int .u64 b)⟩], ⟨0, []⟩⟩
theorem by64_le {b : Int} (hb : U b) : 0 ≤ by64 b ∧ by64 b < 64 := by
  unfold by64
  rw [IntKind.wrap_i64, Int.tmod_eq_emod_of_nonneg hb.1]
  omega
theorem con95' (a b f : Int) (hb : U b) (H : Heap) : Con Try.prog 95 [.c (.int .u64 a), .c (.int .i64 (by64 b)), .c (.int .i64 f)] H (fun v H' => v = .c (.int .u64 (turnS (by64 b).toNat a f)) ∧ H' = H) := by
  have h := by64_le hb
  have := con95 a f (by64 b).toNat (by omega) H
  rwa [Int.toNat_of_nonneg h.1] at this
theorem con63 (k a b : Int) (ha : U a) (hb : U b) (H : Heap) : Con Try.prog 63 [.c (.int .i64 k), .c (.int .u64 a), .c (.int .u64 b)] H (fun v H' => v = .tup [.c (.int .u64 (refR k a b).1), .c (.bool (refR k a b).2)] ∧ H' = H) := by
  refine Con.pure ?_ (by simp only [leArgs, leV, leV1, leC, and_self]) rfl H
  (refine con_of_run mixed (fn := Try.f63) (by kernel_rfl) (by kernel_rfl) C63_ok (rs := [.tmp 6, .tmp 7]) (by kernel_rfl) (Nat.le_of_ble_eq_true (by kernel_rfl)) ?_; unfold C63; simp only [initT, Nat.reduceAdd])
  have hby : IntKind.i64.wrap (b.tmod 64) = by64 b := rfl
  repeat' (first | refine run_seq ?_ | refine run_skip ?_ | (refine run_region fun K hK => ?_; (try (simp (maxSteps := 10000000) only [sixtythree, ne_eq, hby, C63r0, C63r1, C63r2, C63r3, C63r4, C63r5, C63r6, C63r7, C63r8, C63r9, C63r10, C63r11, C63r12, C63r13, C63r14, C63r15, C63r16, C63r17, C63r18, C63r19, C63r20, C63r21, C63r27, C63r28, C63r29, C63r30, C63r31, C63r32, C63r33, C63r34, C63r35, C63r36, C63r37, C63r38, C63r39, rwp_nil, rwp_cons, aop, gpath, St.get, slotAt, sfx, eqP, St.put, addBlk, bin, isShift, sameK, arith, shiftR, shed, imp, appL, argsOf, ptrsOf, Int.reduceToNat])); (repeat (first | (refine And.intro ?_ ?_; · first | decide | (simpa using ‹(b == 0) = false›)) | ((first | (refine call_t _ (con94 _ _ ha hb _) ?_; rintro v H' ⟨rfl, rfl⟩) | refine call_q _ (con94 _ _ ha hb _) ?_ | refine call_g _ (imp_of (con94 _ _ ha hb _)) ?_ | (refine call_t _ (con95' _ _ _ hb _) ?_; rintro v H' ⟨rfl, rfl⟩) | refine call_q _ (con95' _ _ _ hb _) ?_ | refine call_g _ (imp_of (con95' _ _ _ hb _)) ?_ | (refine call_t _ (con96 _ _) ?_; rintro v H' ⟨rfl, rfl⟩) | refine call_q _ (con96 _ _) ?_ | refine call_g _ (imp_of (con96 _ _)) ?_ | (refine call_t _ (con97 _ _ _) ?_; rintro v H' ⟨rfl, rfl⟩) | refine call_q _ (con97 _ _ _) ?_ | refine call_g _ (imp_of (con97 _ _ _)) ?_); simp (maxSteps := 10000000) only [rwp_nil, rwp_cons, rwpK_app, aop, gpath, St.get, slotAt, sfx, eqP, St.put, addBlk, shed, appL, argsOf, ptrsOf]))); with_reducible refine hK _ ?_; clear hK K) | (refine run_cond rfl (fun hc => ?_) (fun hc => ?_) <;> try (simp only [*, Bool.true_eq_false, Bool.false_eq_true, Bool.not_true, Bool.not_false, Bool.true_or, Bool.or_true, Bool.false_or, Bool.or_false, Bool.false_and, Bool.and_false, bne_self_eq_false, beq_self_eq_true] at hc; done)) | refine run_block ?_ | refine run_ret ?_ | refine run_nil ?_ | refine run_exit ?_ | refine blk_normal ?_ | refine blk_ret ?_ | refine blk_here ?_ | refine blk_there rfl ?_ | refine loop_exit ?_ | refine loop_ret ?_ | refine un_exit ?_ | refine un_ret ?_ | refine unE_exit ?_ | refine unE_ret ?_ | refine un_normal ?_)
  all_goals try (
    refine end_tmp2 rfl rfl rfl ⟨rfl, rfl⟩ rfl rfl rfl ⟨?_, rfl⟩
    simp only [beq_iff_eq, beq_eq_false_iff_ne, ne_eq] at *
    (simp only [refR, *, if_true, if_false]) <;> first | rfl | (simp [f58, *]; done))
  have h9 : k = 9 := by simpa using hc
  (refine run_regionL fun K hK => ?_; (try (simp (maxSteps := 10000000) only [C63r22, rwp_nil, rwp_cons, aop, gpath, St.get, St.put, addBlk, shed])); (repeat (first | (refine And.intro ?_ ?_; · first | trivial | assumption | omega))); refine hK _ (dblSt k a b (by64 b) 0) ((LeS.intro [] (fun i h => by omega) trivial rfl (by simp only [dblSt, slotsLe, slotAt, leV, leV1, leC, and_self]) trivial)) ?_; clear hK K)
  refine run_block ?_
  have hle := by64_le hb
  generalize hT : dblS (by64 b).toNat a = T
  have hres : refR k a b = (T, true) := by subst h9; simp [refR, hT]
  rw [hres]
  generalize hm : by64 b = m at *
  refine run_loop (fun n st => ∃ (a' : Int) (i : Nat), st = dblSt k a' b m i ∧ n = m.toNat - i ∧ i ≤ m.toNat ∧ dblS n a' = T) m.toNat ⟨a, 0, rfl, by omega, by omega, hT⟩ ?_
  rintro n st ⟨a', i, rfl, hn, hi, hT⟩
  simp only [dblSt]
  clear hc hby
  repeat' (first | refine run_seq ?_ | refine run_skip ?_ | (refine run_region fun K hK => ?_; (try (simp (maxSteps := 10000000) only [C63r23, C63r24, C63r25, C63r26, rwp_nil, rwp_cons, aop, gpath, St.get, slotAt, sfx, eqP, St.put, addBlk, bin, isShift, sameK, arith, shed])); (repeat (first | (refine And.intro ?_ ?_; · decide))); with_reducible refine hK _ ?_; clear hK K) | (refine run_cond rfl (fun hc => ?_) (fun hc => ?_) <;> try (simp only [*, Bool.true_eq_false, Bool.false_eq_true, Bool.not_true, Bool.not_false, Bool.true_or, Bool.or_true, Bool.false_or, Bool.or_false, Bool.false_and, Bool.and_false, bne_self_eq_false, beq_self_eq_true] at hc; done)) | refine run_block ?_ | refine run_ret ?_ | refine run_nil ?_ | refine run_exit ?_ | refine blk_normal ?_ | refine blk_ret ?_ | refine blk_here ?_ | refine blk_there rfl ?_ | refine loop_exit ?_ | refine loop_ret ?_ | refine un_exit ?_ | refine un_ret ?_ | refine unE_exit ?_ | refine unE_ret ?_ | refine un_normal ?_)
  · have hlt : i < m.toNat := by have : (i : Int) < m := by simpa using hc
                                 omega
    obtain ⟨n', rfl⟩ : ∃ n', n = n' + 1 := ⟨n - 1, by omega⟩
    refine loop_normal n' (dblSt k (IntKind.u64.wrap (a' + a')) b m ((i + 1 : Nat) : Int)) (by omega) (LeS.intro [] (fun i h => by omega) trivial rfl (by
      have hw : IntKind.i64.wrap ((i : Int) + 1) = ((i + 1 : Nat) : Int) := by rw [IntKind.wrap_i64]; omega
      simp only [dblSt, slotsLe, slotAt, leV, leV1, leC, and_self, hw]) trivial) ⟨_, i + 1, rfl, by omega, by omega, hT⟩
  · have hlt : ¬ i < m.toNat := by have : ¬ (i : Int) < m := by simpa using hc
                                   omega
    have h0 : n = 0 := by omega
    subst h0
    exact end_tmp2 rfl rfl rfl ⟨rfl, rfl⟩ rfl rfl rfl ⟨by rw [← hT]; rfl, rfl⟩
end Go.Proofs.Ytmbnakinhnkabaa

set_option linter.unusedVariables false
namespace Go.Proofs.Ytmbnakinhnkabaa
open Go.AM
def C23r0 : List AOper := [⟨some 0, .mv (.k (.c (.bool false))), none, true, []⟩]
def C23r1 : List AOper := [⟨some 11, .call (.k (.c (.fn 47 [] []))) [], none, true, []⟩,
 ⟨some 12, .call (.k (.c (.fn 25 [] []))) [(.t 11)], none, true, []⟩,
 ⟨some 10, .mv (.t 12), none, true, []⟩,
 ⟨some 13, .ext (.t 10) 0, none, true, []⟩,
 ⟨some 14, .ext (.t 10) 1, none, true, []⟩,
 ⟨some 1, .alloc 25 [.c (.int .u64 0), .c (.int .i64 0), .c (.int .i64 0), .c (.nils)], none, true, []⟩,
 ⟨none, .stn 4 (.t 1) (.t 13), none, true, []⟩,
 ⟨some 2, .mv (.t 14), none, true, []⟩]
def C23r2 : List AOper := [⟨some 16, .build [.c (.int .u64 0), .c (.int .i64 0), .c (.int .i64 0), .c (.nils)] [], none, true, []⟩,
 ⟨some 17, .call (.k (.c (.fn 25 [] []))) [(.t 16)], none, true, []⟩,
 ⟨some 15, .mv (.t 17), none, true, []⟩,
 ⟨some 18, .ext (.t 15) 0, none, true, []⟩,
 ⟨some 19, .ext (.t 15) 1, none, true, []⟩,
 ⟨some 3, .alloc 25 [.c (.int .u64 0), .c (.int .i64 0), .c (.int .i64 0), .c (.nils)], none, true, []⟩,
 ⟨none, .stn 4 (.t 3) (.t 18), none, true, []⟩,
 ⟨some 4, .mv (.t 19), none, true, []⟩]
def C23r3 : List AOper := [⟨some 21, .call (.k (.c (.fn 47 [] []))) [], none, true, []⟩,
 ⟨some 22, .call (.k (.c (.fn 26 [] []))) [(.t 21)], none, true, []⟩,
 ⟨some 20, .mv (.t 22), none, true, []⟩,
 ⟨some 23, .ext (.t 20) 0, none, true, []⟩,
 ⟨some 24, .ext (.t 20) 1, none, true, []⟩,
 ⟨some 25, .ext (.t 20) 2, none, true, []⟩,
 ⟨some 5, .alloc 25 [.c (.int .u64 0), .c (.int .i64 0), .c (.int .i64 0), .c (.nils)], none, true, []⟩,
 ⟨none, .stn 4 (.t 5) (.t 23), none, true, []⟩,
 ⟨some 6, .mv (.t 24), none, true, []⟩,
 ⟨some 7, .mv (.t 25), none, true, []⟩]
def C23r4 : List AOper := [⟨some 8, .mv (.k (.c (.bool false))), none, true, []⟩]
def C23r5 : List AOper := [⟨some 9, .mv (.k (.c (.int .i64 0))), none, true, []⟩]
def C23r6 : List AOper := [⟨some 26, .mv (.t 9), none, true, []⟩,
 ⟨some 27, .faddr (.t 1) 3, none, true, []⟩,
 ⟨some 28, .ld1 (.t 27), none, true, []⟩,
 ⟨some 29, .len false (.t 28), none, true, []⟩,
 ⟨some 30, .bin .lss (.t 26) (.t 29), none, true, []⟩]
def C23r7 : List AOper := [⟨some 33, .faddr (.t 1) 3, none, true, []⟩,
 ⟨some 34, .ld1 (.t 33), none, true, []⟩,
 ⟨some 35, .mv (.t 9), none, true, []⟩,
 ⟨some 36, .iaddr 6 (.t 34) (.t 35), none, true, []⟩,
 ⟨some 37, .faddr (.t 36) 0, none, true, []⟩,
 ⟨some 38, .ld1 (.t 37), none, true, []⟩,
 ⟨some 39, .bin .eql (.t 38) (.k (.c (.int .i64 3))), none, true, []⟩,
 ⟨some 40, .mv (.t 39), none, true, []⟩,
 ⟨some 41, .faddr (.t 1) 3, some (40, true), true, []⟩,
 ⟨some 42, .ld1 (.t 41), some (40, true), true, []⟩,
 ⟨some 43, .mv (.t 9), some (40, true), true, []⟩,
 ⟨some 44, .iaddr 6 (.t 42) (.t 43), some (40, true), true, []⟩,
 ⟨some 45, .faddr (.t 44) 2, some (40, true), true, []⟩,
 ⟨some 46, .ld1 (.t 45), some (40, true), true, []⟩,
 ⟨some 47, .mv (.t 9), some (40, true), true, []⟩,
 ⟨some 48, .bin .lss (.t 46) (.t 47), some (40, true), true, []⟩,
 ⟨some 49, .pick 40 (.t 48) (.k (.c (.bool false))), none, true, []⟩]
def C23r8 : List AOper := [⟨some 50, .faddr (.t 1) 3, none, false, []⟩,
 ⟨some 51, .ld1 (.t 50), none, false, []⟩,
 ⟨some 52, .faddr (.t 1) 3, none, false, []⟩,
 ⟨some 53, .ld1 (.t 52), none, false, []⟩,
 ⟨some 54, .mv (.t 9), none, false, []⟩,
 ⟨some 55, .iaddr 6 (.t 53) (.t 54), none, false, []⟩,
 ⟨some 56, .faddr (.t 55) 2, none, false, []⟩,
 ⟨some 57, .ld1 (.t 56), none, false, []⟩,
 ⟨some 58, .iaddr 6 (.t 51) (.t 57), none, false, []⟩,
 ⟨some 59, .ldn 6 (.t 58), none, false, []⟩,
 ⟨some 60, .build [.c (.int .i64 0), .c (.int .i64 0), .c (.int .i64 0), .c (.int .i64 0), .c (.int .i64 0), .c (.int .u64 0)] [(0, 1, (.k (.c (.int .i64 1)))), (5, 1, (.k (.c (.int .u64 5))))], none, false, []⟩,
 ⟨some 61, .eqS false [.one true, .one true, .one true, .one true, .one true, .one true] (.t 59) (.t 60), none, true, []⟩,
 ⟨some 8, .mv (.t 61), none, true, []⟩]
def C23r9 : List AOper := [⟨some 31, .mv (.t 9), none, true, []⟩,
 ⟨some 32, .bin .add (.t 31) (.k (.c (.int .i64 1))), none, true, []⟩,
 ⟨some 9, .mv (.t 32), none, true, []⟩]
def C23r10 : List AOper := [⟨some 62, .mv (.t 2), none, true, []⟩,
 ⟨some 63, .bin .eql (.t 62) (.k (.c (.int .i64 0))), none, true, []⟩,
 ⟨some 64, .mv (.t 63), none, true, []⟩,
 ⟨some 65, .mv (.t 4), some (64, true), true, []⟩,
 ⟨some 66, .bin .eql (.t 65) (.k (.c (.int .i64 4))), some (64, true), true, []⟩,
 ⟨some 67, .pick 64 (.t 66) (.k (.c (.bool false))), none, true, []⟩,
 ⟨some 68, .mv (.t 67), none, true, []⟩,
 ⟨some 69, .mv (.t 7), some (68, true), true, []⟩,
 ⟨some 70, .bin .eql (.t 69) (.k (.c (.int .i64 0))), some (68, true), true, []⟩,
 ⟨some 71, .pick 68 (.t 70) (.k (.c (.bool false))), none, true, []⟩,
 ⟨some 72, .mv (.t 71), none, true, []⟩,
 ⟨some 73, .mv (.t 6), some (72, true), true, []⟩,
 ⟨some 74, .pick 72 (.t 73) (.k (.c (.bool false))), none, true, []⟩,
 ⟨some 75, .mv (.t 74), none, true, []⟩,
 ⟨some 76, .mv (.t 8), some (75, true), true, []⟩,
 ⟨some 77, .pick 75 (.t 76) (.k (.c (.bool false))), none, true, []⟩,
 ⟨some 0, .mv (.t 77), none, true, []⟩]
def C23 : ACode :=
 .seq (.region C23r0)
 (.seq (.region C23r1)
 (.seq (.region C23r2)
 (.seq (.region C23r3)
 (.seq (.region C23r4)
 (.seq (.seq (.region C23r5)
 (.block 0
 (.loop
 (.seq (.seq (.region C23r6)
 (.cond (.t 30)
 (.skip)
 (.exit 0)))
 (.seq (.block 1
 (.seq (.region C23r7)
 (.cond (.t 49)
 (.region C23r8)
 (.skip))))
 (.region C23r9))))))
 (.seq (.region C23r10)
 (.ret)))))))
theorem C23_ok : stripF Try.prog Try.f23 = some C23 := by kernel_rfl
def C25r0 : List AOper := [⟨some 1, .box 25 (.t 0), none, true, []⟩,
 ⟨some 2, .alloc 25 [.c (.int .u64 0), .c (.int .i64 0), .c (.int .i64 0), .c (.nils)], none, true, []⟩,
 ⟨some 3, .mv (.k (.c (.int .i64 0))), none, true, []⟩]
def C25r1 : List AOper := [⟨some 8, .ldn 4 (.t 1), none, true, []⟩,
 ⟨some 9, .call (.k (.c (.fn 26 [] []))) [(.t 8)], none, true, []⟩,
 ⟨some 7, .mv (.t 9), none, true, []⟩,
 ⟨some 10, .ext (.t 7) 0, none, true, []⟩,
 ⟨some 11, .ext (.t 7) 1, none, true, []⟩,
 ⟨some 12, .ext (.t 7) 2, none, true, []⟩,
 ⟨some 4, .alloc 25 [.c (.int .u64 0), .c (.int .i64 0), .c (.int .i64 0), .c (.nils)], none, true, []⟩,
 ⟨none, .stn 4 (.t 4) (.t 10), none, true, []⟩,
 ⟨some 5, .mv (.t 11), none, true, []⟩,
 ⟨some 6, .mv (.t 12), none, true, []⟩]
def C25r2 : List AOper := [⟨some 13, .mv (.t 6), none, true, []⟩,
 ⟨some 14, .bin .neq (.t 13) (.k (.c (.int .i64 0))), none, true, []⟩,
 ⟨some 15, .mv (.t 14), none, true, []⟩,
 ⟨some 16, .mv (.t 5), some (15, false), true, []⟩,
 ⟨some 17, .un .not (.t 16), some (15, false), true, []⟩,
 ⟨some 18, .pick 15 (.k (.c (.bool true))) (.t 17), none, true, []⟩]
def C25r3 : List AOper := [⟨some 19, .ldn 4 (.t 4), none, true, []⟩,
 ⟨some 20, .mv (.t 6), none, true, []⟩,
 ⟨none, .stn 4 (.t 2) (.t 19), none, true, []⟩,
 ⟨some 3, .mv (.t 20), none, true, []⟩]
def C25r4 : List AOper := [⟨some 21, .ldn 4 (.t 4), none, true, []⟩,
 ⟨none, .stn 4 (.t 1) (.t 21), none, true, []⟩]
def C25 : ACode :=
 .seq (.region C25r0)
 (.block 0
 (.loop
 (.block 1
 (.seq (.region C25r1)
 (.seq (.seq (.region C25r2)
 (.cond (.t 18)
 (.seq (.region C25r3)
 (.ret))
 (.skip)))
 (.region C25r4))))))
theorem C25_ok : stripF Try.prog Try.f25 = some C25 := by kernel_rfl
def C26r0 : List AOper := [⟨some 1, .box 25 (.t 0), none, true, []⟩,
 ⟨some 2, .alloc 25 [.c (.int .u64 0), .c (.int .i64 0), .c (.int .i64 0), .c (.nils)], none, true, []⟩,
 ⟨some 3, .mv (.k (.c (.bool false))), none, true, []⟩,
 ⟨some 4, .mv (.k (.c (.int .i64 0))), none, true, []⟩]
def C26r1 : List AOper := [⟨some 12, .ldn 4 (.t 1), none, true, []⟩,
 ⟨some 13, .call (.k (.c (.fn 37 [] []))) [(.t 12)], none, true, []⟩,
 ⟨some 14, .un .not (.t 13), none, true, []⟩]
def C26r2 : List AOper := [⟨some 15, .build [.c (.int .u64 0), .c (.int .i64 0), .c (.int .i64 0), .c (.nils)] [], none, true, []⟩,
 ⟨none, .stn 4 (.t 2) (.t 15), none, true, []⟩,
 ⟨some 3, .mv (.k (.c (.bool false))), none, true, []⟩,
 ⟨some 4, .mv (.k (.c (.int .i64 4))), none, true, []⟩]
def C26r3 : List AOper := [⟨some 16, .faddr (.t 1) 3, none, true, []⟩,
 ⟨some 17, .ld1 (.t 16), none, true, []⟩,
 ⟨some 18, .mp .make [true, true] (.int .i64 0) (.k (.bot)) (.k (.bot)) (.k (.bot)), none, true, []⟩,
 ⟨some 19, .build [.c (.nils), .c (.nils), .c (.nils), .c (.nilm)] [(0, 1, (.t 17)), (3, 1, (.t 18))], none, true, []⟩,
 ⟨some 20, .box 85 (.t 19), none, true, []⟩,
 ⟨some 5, .mv (.t 20), none, true, []⟩]
def C26r4 : List AOper := [⟨some 21, .faddr (.t 1) 3, none, true, []⟩,
 ⟨some 22, .ld1 (.t 21), none, true, []⟩,
 ⟨some 23, .len false (.t 22), none, true, []⟩,
 ⟨some 24, .mv (.k (.c (.int .i64 0))), none, true, []⟩]
def C26r5 : List AOper := [⟨some 25, .bin .lss (.t 24) (.t 23), none, true, []⟩]
def C26r6 : List AOper := [⟨some 26, .iaddr 6 (.t 22) (.t 24), none, true, []⟩,
 ⟨some 27, .ldn 6 (.t 26), none, true, []⟩,
 ⟨some 7, .alloc 39 [.c (.int .i64 0), .c (.int .i64 0), .c (.int .i64 0), .c (.int .i64 0), .c (.int .i64 0), .c (.int .u64 0)], none, true, []⟩,
 ⟨none, .stn 6 (.t 7) (.t 27), none, true, []⟩]
def C26r7 : List AOper := [⟨some 28, .ldn 6 (.t 7), none, true, []⟩,
 ⟨some 29, .call (.k (.c (.fn 21 [] []))) [(.t 28)], none, true, []⟩,
 ⟨some 30, .len false (.t 29), none, true, []⟩,
 ⟨some 8, .mv (.t 30), none, true, []⟩]
def C26r8 : List AOper := [⟨some 31, .mv (.t 8), none, true, []⟩,
 ⟨some 32, .bin .gtr (.t 31) (.k (.c (.int .i64 0))), none, true, []⟩]
def C26r9 : List AOper := [⟨some 33, .mv (.t 5), none, false, []⟩,
 ⟨some 34, .nilchk (.t 33), none, false, []⟩,
 ⟨some 35, .faddr (.t 34) 2, none, false, []⟩,
 ⟨some 36, .ld1 (.t 35), none, false, []⟩,
 ⟨some 37, .faddr (.t 7) 2, none, false, []⟩,
 ⟨some 38, .ld1 (.t 37), none, false, []⟩,
 ⟨some 39, .iaddr 1 (.t 36) (.t 38), none, true, []⟩,
 ⟨some 40, .ld1 (.t 39), none, true, []⟩,
 ⟨some 41, .faddr (.t 7) 2, none, true, []⟩,
 ⟨none, .st1 (.t 41) (.t 40), none, true, []⟩]
def C26r10 : List AOper := [⟨some 42, .mv (.t 8), none, true, []⟩,
 ⟨some 43, .bin .gtr (.t 42) (.k (.c (.int .i64 1))), none, true, []⟩]
def C26r11 : List AOper := [⟨some 44, .mv (.t 5), none, false, []⟩,
 ⟨some 45, .nilchk (.t 44), none, false, []⟩,
 ⟨some 46, .faddr (.t 45) 2, none, false, []⟩,
 ⟨some 47, .ld1 (.t 46), none, false, []⟩,
 ⟨some 48, .faddr (.t 7) 3, none, false, []⟩,
 ⟨some 49, .ld1 (.t 48), none, false, []⟩,
 ⟨some 50, .iaddr 1 (.t 47) (.t 49), none, true, []⟩,
 ⟨some 51, .ld1 (.t 50), none, true, []⟩,
 ⟨some 52, .faddr (.t 7) 3, none, true, []⟩,
 ⟨none, .st1 (.t 52) (.t 51), none, true, []⟩]
def C26r12 : List AOper := [⟨some 54, .mv (.t 5), none, true, []⟩,
 ⟨some 55, .ldn 6 (.t 7), none, true, []⟩,
 ⟨some 56, .call (.k (.c (.fn 48 [] []))) [(.t 54), (.t 55)], none, true, []⟩,
 ⟨some 53, .mv (.t 56), none, true, []⟩,
 ⟨some 57, .ext (.t 53) 0, none, true, []⟩,
 ⟨some 58, .ext (.t 53) 1, none, true, []⟩,
 ⟨some 9, .mv (.t 57), none, true, []⟩,
 ⟨some 10, .mv (.t 58), none, true, []⟩]
def C26r13 : List AOper := [⟨some 59, .mv (.t 5), none, true, []⟩,
 ⟨some 60, .mv (.t 5), none, true, []⟩,
 ⟨some 61, .nilchk (.t 60), none, true, []⟩,
 ⟨some 62, .faddr (.t 61) 2, none, true, []⟩,
 ⟨some 63, .ld1 (.t 62), none, true, []⟩,
 ⟨some 64, .mv (.t 9), none, true, []⟩,
 ⟨some 65, .bslice 3 1 [.c (.int .i64 0)] 1 [(0, 1, (.t 64))], none, true, []⟩,
 ⟨some 66, .app 1 8 3 (.t 63) (.t 65), none, true, []⟩,
 ⟨some 67, .nilchk (.t 59), none, true, []⟩,
 ⟨some 68, .faddr (.t 67) 2, none, true, []⟩,
 ⟨none, .st1 (.t 68) (.t 66), none, true, []⟩]
def C26r14 : List AOper := [⟨some 69, .mv (.t 10), none, true, []⟩]
def C26r15 : List AOper := [⟨some 70, .bin .add (.t 24) (.k (.c (.int .i64 1))), none, true, []⟩,
 ⟨some 24, .mv (.t 70), none, true, []⟩]
def C26r16 : List AOper := [⟨some 71, .ldn 4 (.t 1), none, true, []⟩,
 ⟨some 11, .alloc 25 [.c (.int .u64 0), .c (.int .i64 0), .c (.int .i64 0), .c (.nils)], none, true, []⟩,
 ⟨none, .stn 4 (.t 11) (.t 71), none, true, []⟩]
def C26r17 : List AOper := [⟨some 72, .mv (.t 5), none, true, []⟩,
 ⟨some 73, .nilchk (.t 72), none, true, []⟩,
 ⟨some 74, .faddr (.t 73) 1, none, true, []⟩,
 ⟨some 75, .ld1 (.t 74), none, true, []⟩,
 ⟨some 76, .faddr (.t 11) 3, none, true, []⟩,
 ⟨none, .st1 (.t 76) (.t 75), none, true, []⟩]
def C26r18 : List AOper := [⟨some 77, .ldn 4 (.t 11), none, false, []⟩,
 ⟨some 78, .faddr (.t 11) 3, none, false, []⟩,
 ⟨some 79, .ld1 (.t 78), none, false, []⟩,
 ⟨some 80, .faddr (.t 1) 3, none, false, []⟩,
 ⟨some 81, .ld1 (.t 80), none, false, []⟩,
 ⟨some 82, .call (.k (.c (.fn 49 [] []))) [(.t 79), (.t 81)], none, false, []⟩,
 ⟨some 83, .un .not (.t 82), none, false, []⟩,
 ⟨none, .stn 4 (.t 2) (.t 77), none, true, []⟩,
 ⟨some 3, .mv (.t 83), none, true, []⟩,
 ⟨some 4, .mv (.k (.c (.int .i64 0))), none, true, []⟩]
def C26 : ACode :=
 .seq (.region C26r0)
 (.seq (.seq (.region C26r1)
 (.cond (.t 14)
 (.seq (.region C26r2)
 (.ret))
 (.skip)))
 (.seq (.region C26r3)
 (.seq (.seq (.region C26r4)
 (.block 0
 (.loop
 (.seq (.region C26r5)
 (.seq (.cond (.t 25)
 (.skip)
 (.exit 0))
 (.seq (.block 1
 (.seq (.region C26r6)
 (.seq (.region C26r7)
 (.seq (.seq (.region C26r8)
 (.cond (.t 32)
 (.region C26r9)
 (.skip)))
 (.seq (.seq (.region C26r10)
 (.cond (.t 43)
 (.region C26r11)
 (.skip)))
 (.seq (.region C26r12)
 (.seq (.region C26r13)
 (.seq (.region C26r14)
 (.cond (.t 69)
 (.exit 0)
 (.skip))))))))))
 (.region C26r15)))))))
 (.seq (.region C26r16)
 (.seq (.region C26r17)
 (.seq (.region C26r18)
 (.ret)))))))
theorem C26_ok : stripF Try.prog Try.f26 = some C26 := by kernel_rfl
def C31r0 : List AOper := [⟨some 6, .mv (.k (.c (.int .u64 0))), none, true, []⟩,
 ⟨some 7, .mv (.k (.c (.int .i64 0))), none, true, []⟩]
def C31r1 : List AOper := [⟨some 9, .mv (.t 0), none, true, []⟩,
 ⟨some 10, .call (.k (.c (.fn 52 [] []))) [(.t 9)], none, true, []⟩,
 ⟨some 8, .mv (.t 10), none, true, []⟩]
def C31r2 : List AOper := [⟨some 11, .mv (.t 8), none, true, []⟩,
 ⟨some 12, .nilq .fn false (.t 11) (.k (.c (.nilfn))), none, true, []⟩]
def C31r3 : List AOper := [⟨some 6, .mv (.k (.c (.int .u64 0))), none, true, []⟩,
 ⟨some 7, .mv (.k (.c (.int .i64 1))), none, true, []⟩]
def C31r4 : List AOper := [⟨some 13, .mv (.t 8), none, true, []⟩,
 ⟨some 14, .mv (.t 1), none, true, []⟩,
 ⟨some 15, .mv (.t 2), none, true, []⟩,
 ⟨some 16, .call (.t 13) [(.t 14), (.t 15)], none, true, []⟩,
 ⟨some 6, .mv (.t 16), none, true, []⟩,
 ⟨some 7, .mv (.k (.c (.int .i64 0))), none, true, []⟩]
def C31 : ACode :=
 .seq (.region C31r0)
 (.seq (.region C31r1)
 (.seq (.seq (.region C31r2)
 (.cond (.t 12)
 (.seq (.region C31r3)
 (.ret))
 (.skip)))
 (.seq (.region C31r4)
 (.ret))))
theorem C31_ok : stripF Try.prog Try.f31 = some C31 := by kernel_rfl
def C47r0 : List AOper := [⟨some 0, .alloc 25 [.c (.int .u64 0), .c (.int .i64 0), .c (.int .i64 0), .c (.nils)], none, true, []⟩]
def C47r1 : List AOper := [⟨some 1, .build [.c (.int .i64 0), .c (.int .i64 0), .c (.int .i64 0), .c (.int .i64 0), .c (.int .i64 0), .c (.int .u64 0)] [(0, 1, (.k (.c (.int .i64 14)))), (5, 1, (.k (.c (.int .u64 64))))], none, true, []⟩,
 ⟨some 2, .build [.c (.int .i64 0), .c (.int .i64 0), .c (.int .i64 0), .c (.int .i64 0), .c (.int .i64 0), .c (.int .u64 0)] [(0, 1, (.k (.c (.int .i64 1)))), (5, 1, (.k (.c (.int .u64 2))))], none, true, []⟩,
 ⟨some 3, .build [.c (.int .i64 0), .c (.int .i64 0), .c (.int .i64 0), .c (.int .i64 0), .c (.int .i64 0), .c (.int .u64 0)] [(0, 1, (.k (.c (.int .i64 1)))), (5, 1, (.k (.c (.int .u64 3))))], none, true, []⟩,
 ⟨some 4, .build [.c (.int .i64 0), .c (.int .i64 0), .c (.int .i64 0), .c (.int .i64 0), .c (.int .i64 0), .c (.int .u64 0)] [(0, 1, (.k (.c (.int .i64 8)))), (1, 1, (.k (.c (.int .i64 1)))), (2, 1, (.k (.c (.int .i64 1)))), (3, 1, (.k (.c (.int .i64 2))))], none, true, []⟩,
 ⟨some 5, .build [.c (.int .i64 0), .c (.int .i64 0), .c (.int .i64 0), .c (.int .i64 0), .c (.int .i64 0), .c (.int .u64 0)] [(0, 1, (.k (.c (.int .i64 3)))), (2, 1, (.k (.c (.int .i64 3))))], none, true, []⟩,
 ⟨some 6, .build [.c (.int .i64 0), .c (.int .i64 0), .c (.int .i64 0), .c (.int .i64 0), .c (.int .i64 0), .c (.int .u64 0)] [(0, 1, (.k (.c (.int .i64 16)))), (5, 1, (.k (.c (.int .u64 68))))], none, true, []⟩,
 ⟨some 7, .bslice 39 6 [.c (.int .i64 0), .c (.int .i64 0), .c (.int .i64 0), .c (.int .i64 0), .c (.int .i64 0), .c (.int .u64 0)] 6 [(0, 6, (.t 1)), (6, 6, (.t 2)), (12, 6, (.t 3)), (18, 6, (.t 4)), (24, 6, (.t 5)), (30, 6, (.t 6))], none, true, []⟩,
 ⟨some 8, .build [.c (.int .u64 0), .c (.int .i64 0), .c (.int .i64 0), .c (.nils)] [(0, 1, (.k (.c (.int .u64 64)))), (1, 1, (.k (.c (.int .i64 1)))), (2, 1, (.k (.c (.int .i64 1)))), (3, 1, (.t 7))], none, true, []⟩,
 ⟨none, .stn 4 (.t 0) (.t 8), none, true, []⟩]
def C47 : ACode :=
 .seq (.region C47r0)
 (.seq (.region C47r1)
 (.ret))
theorem C47_ok : stripF Try.prog Try.f47 = some C47 := by kernel_rfl
def C48r0 : List AOper := [⟨some 3, .box 39 (.t 1), none, true, []⟩,
 ⟨some 4, .mv (.k (.c (.int .i64 0))), none, true, []⟩,
 ⟨some 5, .mv (.k (.c (.bool false))), none, true, []⟩]
def C48r1 : List AOper := [⟨some 21, .ldn 6 (.t 3), none, true, []⟩,
 ⟨some 22, .call (.k (.c (.fn 73 [] []))) [(.t 21)], none, true, []⟩,
 ⟨some 20, .mv (.t 22), none, true, []⟩,
 ⟨some 23, .ext (.t 20) 0, none, true, []⟩,
 ⟨some 24, .ext (.t 20) 1, none, true, []⟩,
 ⟨some 25, .ext (.t 20) 2, none, true, []⟩,
 ⟨some 6, .alloc 111 [.c (.int .i64 0), .c (.int .i64 0)], none, true, []⟩,
 ⟨none, .stn 2 (.t 6) (.t 23), none, true, []⟩,
 ⟨some 7, .mv (.t 24), none, true, []⟩,
 ⟨some 8, .mv (.t 25), none, true, []⟩]
def C48r2 : List AOper := [⟨some 27, .mv (.t 8), none, true, []⟩,
 ⟨some 28, .mv (.t 27), none, true, []⟩,
 ⟨some 29, .mv (.t 7), some (28, true), true, []⟩,
 ⟨some 30, .pick 28 (.t 29) (.k (.c (.bool false))), none, true, []⟩,
 ⟨some 26, .mv (.t 30), none, true, []⟩]
def C48r3 : List AOper := [⟨some 31, .mv (.t 0), none, true, []⟩,
 ⟨some 32, .ldn 6 (.t 3), none, true, []⟩,
 ⟨some 33, .ldn 2 (.t 6), none, true, []⟩,
 ⟨some 34, .call (.k (.c (.fn 74 [] []))) [(.t 31), (.t 32), (.t 33)], none, true, []⟩,
 ⟨some 4, .mv (.t 34), none, true, []⟩,
 ⟨some 5, .mv (.k (.c (.bool false))), none, true, []⟩]
def C48r4 : List AOper := [⟨some 36, .mv (.t 8), none, true, []⟩,
 ⟨some 35, .mv (.t 36), none, true, []⟩]
def C48r5 : List AOper := [⟨some 38, .mv (.t 0), none, false, []⟩,
 ⟨some 39, .nilchk (.t 38), none, false, []⟩,
 ⟨some 40, .faddr (.t 39) 3, none, false, []⟩,
 ⟨some 41, .ld1 (.t 40), none, false, []⟩,
 ⟨some 42, .ldn 2 (.t 6), none, false, []⟩,
 ⟨some 43, .mp .look [true, true] (.int .i64 0) (.t 41) (.t 42) (.k (.bot)), none, true, []⟩,
 ⟨some 37, .mv (.t 43), none, true, []⟩,
 ⟨some 44, .ext (.t 37) 0, none, false, []⟩,
 ⟨some 45, .ext (.t 37) 1, none, false, []⟩,
 ⟨some 9, .mv (.t 44), none, false, []⟩,
 ⟨some 10, .mv (.t 45), none, true, []⟩]
def C48r6 : List AOper := [⟨some 46, .mv (.t 10), none, true, []⟩]
def C48r7 : List AOper := [⟨some 47, .mv (.t 9), none, true, []⟩,
 ⟨some 4, .mv (.t 47), none, true, []⟩,
 ⟨some 5, .mv (.k (.c (.bool false))), none, true, []⟩]
def C48r8 : List AOper := [⟨some 48, .mv (.t 0), none, true, []⟩,
 ⟨some 49, .ldn 6 (.t 3), none, true, []⟩,
 ⟨some 50, .call (.k (.c (.fn 75 [] []))) [(.t 48), (.t 49)], none, true, []⟩,
 ⟨some 11, .mv (.t 50), none, true, []⟩]
def C48r9 : List AOper := [⟨some 51, .mv (.t 0), none, false, []⟩,
 ⟨some 52, .nilchk (.t 51), none, false, []⟩,
 ⟨some 53, .faddr (.t 52) 3, none, false, []⟩,
 ⟨some 54, .ld1 (.t 53), none, false, []⟩,
 ⟨some 55, .ldn 2 (.t 6), none, false, []⟩,
 ⟨some 56, .mv (.t 11), none, false, []⟩,
 ⟨none, .mp .put [true, true] (.int .i64 0) (.t 54) (.t 55) (.t 56), none, true, []⟩]
def C48r10 : List AOper := [⟨some 57, .mv (.t 11), none, true, []⟩,
 ⟨some 4, .mv (.t 57), none, true, []⟩,
 ⟨some 5, .mv (.k (.c (.bool false))), none, true, []⟩]
def C48r11 : List AOper := [⟨some 59, .faddr (.t 3) 0, none, true, []⟩,
 ⟨some 60, .ld1 (.t 59), none, true, []⟩,
 ⟨some 61, .bin .eql (.t 60) (.k (.c (.int .i64 8))), none, true, []⟩,
 ⟨some 58, .mv (.t 61), none, true, []⟩]
def C48r12 : List AOper := [⟨some 63, .mv (.t 0), none, true, []⟩,
 ⟨some 64, .faddr (.t 3) 2, none, true, []⟩,
 ⟨some 65, .ld1 (.t 64), none, true, []⟩,
 ⟨some 66, .call (.k (.c (.fn 76 [] []))) [(.t 63), (.t 65)], none, true, []⟩,
 ⟨some 62, .mv (.t 66), none, true, []⟩,
 ⟨some 67, .ext (.t 62) 0, none, true, []⟩,
 ⟨some 68, .ext (.t 62) 1, none, true, []⟩,
 ⟨some 12, .mv (.t 67), none, true, []⟩,
 ⟨some 13, .mv (.t 68), none, true, []⟩]
def C48r13 : List AOper := [⟨some 70, .mv (.t 0), none, true, []⟩,
 ⟨some 71, .faddr (.t 3) 3, none, true, []⟩,
 ⟨some 72, .ld1 (.t 71), none, true, []⟩,
 ⟨some 73, .call (.k (.c (.fn 76 [] []))) [(.t 70), (.t 72)], none, true, []⟩,
 ⟨some 69, .mv (.t 73), none, true, []⟩,
 ⟨some 74, .ext (.t 69) 0, none, true, []⟩,
 ⟨some 75, .ext (.t 69) 1, none, true, []⟩,
 ⟨some 14, .mv (.t 74), none, true, []⟩,
 ⟨some 15, .mv (.t 75), none, true, []⟩]
def C48r14 : List AOper := [⟨some 76, .mv (.t 13), none, true, []⟩,
 ⟨some 77, .mv (.t 76), none, true, []⟩,
 ⟨some 78, .mv (.t 15), some (77, true), true, []⟩,
 ⟨some 79, .pick 77 (.t 78) (.k (.c (.bool false))), none, true, []⟩]
def C48r15 : List AOper := [⟨some 81, .faddr (.t 3) 1, none, true, []⟩,
 ⟨some 82, .ld1 (.t 81), none, true, []⟩,
 ⟨some 83, .mv (.t 12), none, true, []⟩,
 ⟨some 84, .mv (.t 14), none, true, []⟩,
 ⟨some 85, .call (.k (.c (.fn 31 [] []))) [(.t 82), (.t 83), (.t 84)], none, true, []⟩,
 ⟨some 80, .mv (.t 85), none, true, []⟩,
 ⟨some 86, .ext (.t 80) 0, none, true, []⟩,
 ⟨some 87, .ext (.t 80) 1, none, true, []⟩,
 ⟨some 16, .mv (.t 86), none, true, []⟩,
 ⟨some 17, .mv (.t 87), none, true, []⟩]
def C48r16 : List AOper := [⟨some 88, .mv (.t 0), none, true, []⟩,
 ⟨some 89, .mv (.t 16), none, true, []⟩,
 ⟨some 90, .build [.c (.int .i64 0), .c (.int .i64 0), .c (.int .i64 0), .c (.int .i64 0), .c (.int .i64 0), .c (.int .u64 0)] [(0, 1, (.k (.c (.int .i64 1)))), (5, 1, (.t 89))], none, true, []⟩,
 ⟨some 91, .call (.k (.c (.fn 75 [] []))) [(.t 88), (.t 90)], none, true, []⟩,
 ⟨some 4, .mv (.t 91), none, true, []⟩,
 ⟨some 5, .mv (.k (.c (.bool false))), none, true, []⟩]
def C48r17 : List AOper := [⟨some 93, .faddr (.t 3) 0, none, true, []⟩,
 ⟨some 94, .ld1 (.t 93), none, true, []⟩,
 ⟨some 95, .bin .eql (.t 94) (.k (.c (.int .i64 15))), none, true, []⟩,
 ⟨some 92, .mv (.t 95), none, true, []⟩]
def C48r18 : List AOper := [⟨some 97, .mv (.t 0), none, true, []⟩,
 ⟨some 98, .faddr (.t 3) 2, none, true, []⟩,
 ⟨some 99, .ld1 (.t 98), none, true, []⟩,
 ⟨some 100, .call (.k (.c (.fn 76 [] []))) [(.t 97), (.t 99)], none, true, []⟩,
 ⟨some 96, .mv (.t 100), none, true, []⟩,
 ⟨some 101, .ext (.t 96) 0, none, true, []⟩,
 ⟨some 102, .ext (.t 96) 1, none, true, []⟩,
 ⟨some 18, .mv (.t 101), none, true, []⟩,
 ⟨some 19, .mv (.t 102), none, true, []⟩]
def C48r19 : List AOper := [⟨some 103, .mv (.t 19), none, true, []⟩]
def C48r20 : List AOper := [⟨some 104, .mv (.t 18), none, true, []⟩,
 ⟨some 105, .bin .eql (.t 104) (.k (.c (.int .u64 0))), none, true, []⟩]
def C48r21 : List AOper := [⟨some 4, .mv (.k (.c (.int .i64 (-1)))), none, true, []⟩,
 ⟨some 5, .mv (.k (.c (.bool false))), none, true, []⟩]
def C48r22 : List AOper := [⟨some 106, .mv (.t 0), none, true, []⟩,
 ⟨some 107, .faddr (.t 3) 5, none, true, []⟩,
 ⟨some 108, .ld1 (.t 107), none, true, []⟩,
 ⟨some 109, .build [.c (.int .i64 0), .c (.int .i64 0), .c (.int .i64 0), .c (.int .i64 0), .c (.int .i64 0), .c (.int .u64 0)] [(0, 1, (.k (.c (.int .i64 16)))), (5, 1, (.t 108))], none, true, []⟩,
 ⟨some 110, .call (.k (.c (.fn 75 [] []))) [(.t 106), (.t 109)], none, true, []⟩,
 ⟨some 4, .mv (.t 110), none, true, []⟩,
 ⟨some 5, .mv (.k (.c (.bool true))), none, true, []⟩]
def C48r23 : List AOper := [⟨some 111, .mv (.t 0), none, true, []⟩,
 ⟨some 112, .ldn 6 (.t 3), none, true, []⟩,
 ⟨some 113, .call (.k (.c (.fn 75 [] []))) [(.t 111), (.t 112)], none, true, []⟩,
 ⟨some 4, .mv (.t 113), none, true, []⟩,
 ⟨some 5, .mv (.k (.c (.bool false))), none, true, []⟩]
def C48 : ACode :=
 .seq (.region C48r0)
 (.seq (.region C48r1)
 (.seq (.block 0
 (.seq (.region C48r2)
 (.cond (.t 26)
 (.seq (.region C48r3)
 (.ret))
 (.seq (.region C48r4)
 (.cond (.t 35)
 (.seq (.seq (.region C48r5)
 (.seq (.region C48r6)
 (.cond (.t 46)
 (.seq (.region C48r7)
 (.ret))
 (.skip))))
 (.seq (.region C48r8)
 (.seq (.region C48r9)
 (.seq (.region C48r10)
 (.ret)))))
 (.seq (.region C48r11)
 (.cond (.t 58)
 (.seq (.region C48r12)
 (.seq (.region C48r13)
 (.seq (.region C48r14)
 (.cond (.t 79)
 (.seq (.region C48r15)
 (.seq (.region C48r16)
 (.ret)))
 (.skip)))))
 (.seq (.region C48r17)
 (.cond (.t 92)
 (.seq (.region C48r18)
 (.seq (.region C48r19)
 (.cond (.t 103)
 (.seq (.seq (.region C48r20)
 (.cond (.t 105)
 (.seq (.region C48r21)
 (.ret))
 (.skip)))
 (.seq (.region C48r22)
 (.ret)))
 (.skip))))
 (.skip))))))))))
 (.seq (.region C48r23)
 (.ret))))
theorem C48_ok : stripF Try.prog Try.f48 = some C48 := by kernel_rfl
def C49r0 : List AOper := [⟨some 4, .mv (.k (.c (.bool false))), none, true, []⟩]
def C49r1 : List AOper := [⟨some 6, .mv (.t 0), none, true, []⟩,
 ⟨some 7, .len false (.t 6), none, true, []⟩,
 ⟨some 8, .mv (.t 1), none, true, []⟩,
 ⟨some 9, .len false (.t 8), none, true, []⟩,
 ⟨some 10, .bin .neq (.t 7) (.t 9), none, true, []⟩]
def C49r2 : List AOper := [⟨some 4, .mv (.k (.c (.bool false))), none, true, []⟩]
def C49r3 : List AOper := [⟨some 11, .mv (.t 0), none, true, []⟩,
 ⟨some 12, .len false (.t 11), none, true, []⟩,
 ⟨some 13, .mv (.k (.c (.int .i64 0))), none, true, []⟩]
def C49r4 : List AOper := [⟨some 14, .bin .lss (.t 13) (.t 12), none, true, []⟩]
def C49r5 : List AOper := [⟨some 15, .mv (.t 13), none, true, []⟩,
 ⟨some 5, .mv (.t 15), none, true, []⟩]
def C49r6 : List AOper := [⟨some 16, .mv (.t 0), none, false, []⟩,
 ⟨some 17, .mv (.t 5), none, false, []⟩,
 ⟨some 18, .iaddr 6 (.t 16) (.t 17), none, false, []⟩,
 ⟨some 19, .ldn 6 (.t 18), none, false, []⟩,
 ⟨some 20, .mv (.t 1), none, false, []⟩,
 ⟨some 21, .mv (.t 5), none, false, []⟩,
 ⟨some 22, .iaddr 6 (.t 20) (.t 21), none, false, []⟩,
 ⟨some 23, .ldn 6 (.t 22), none, false, []⟩,
 ⟨some 24, .eqS true [.one true, .one true, .one true, .one true, .one true, .one true] (.t 19) (.t 23), none, true, []⟩]
def C49r7 : List AOper := [⟨some 4, .mv (.k (.c (.bool false))), none, true, []⟩]
def C49r8 : List AOper := [⟨some 25, .bin .add (.t 13) (.k (.c (.int .i64 1))), none, true, []⟩,
 ⟨some 13, .mv (.t 25), none, true, []⟩]
def C49r9 : List AOper := [⟨some 4, .mv (.k (.c (.bool true))), none, true, []⟩]
def C49 : ACode :=
 .seq (.region C49r0)
 (.seq (.seq (.region C49r1)
 (.cond (.t 10)
 (.seq (.region C49r2)
 (.ret))
 (.skip)))
 (.seq (.seq (.region C49r3)
 (.block 0
 (.loop
 (.seq (.region C49r4)
 (.seq (.cond (.t 14)
 (.skip)
 (.exit 0))
 (.seq (.block 1
 (.seq (.region C49r5)
 (.seq (.region C49r6)
 (.cond (.t 24)
 (.seq (.region C49r7)
 (.ret))
 (.skip)))))
 (.region C49r8)))))))
 (.seq (.region C49r9)
 (.ret))))
theorem C49_ok : stripF Try.prog Try.f49 = some C49 := by kernel_rfl
def C52r0 : List AOper := [⟨some 2, .mv (.k (.c (.nilfn))), none, true, []⟩]
def C52r1 : List AOper := [⟨some 3, .mv (.t 0), none, true, []⟩]
def C52r2 : List AOper := [⟨some 5, .bin .eql (.t 3) (.k (.c (.int .i64 1))), none, true, []⟩,
 ⟨some 4, .mv (.t 5), none, true, []⟩]
def C52r3 : List AOper := [⟨some 2, .mv (.k (.c (.fn 77 [] []))), none, true, []⟩]
def C52r4 : List AOper := [⟨some 7, .bin .eql (.t 3) (.k (.c (.int .i64 2))), none, true, []⟩,
 ⟨some 6, .mv (.t 7), none, true, []⟩]
def C52r5 : List AOper := [⟨some 2, .mv (.k (.c (.fn 78 [] []))), none, true, []⟩]
def C52r6 : List AOper := [⟨some 9, .bin .eql (.t 3) (.k (.c (.int .i64 3))), none, true, []⟩,
 ⟨some 8, .mv (.t 9), none, true, []⟩]
def C52r7 : List AOper := [⟨some 2, .mv (.k (.c (.fn 79 [] []))), none, true, []⟩]
def C52r8 : List AOper := [⟨some 11, .bin .eql (.t 3) (.k (.c (.int .i64 4))), none, true, []⟩,
 ⟨some 10, .mv (.t 11), none, true, []⟩]
def C52r9 : List AOper := [⟨some 2, .mv (.k (.c (.fn 80 [] []))), none, true, []⟩]
def C52r10 : List AOper := [⟨some 13, .bin .eql (.t 3) (.k (.c (.int .i64 5))), none, true, []⟩,
 ⟨some 12, .mv (.t 13), none, true, []⟩]
def C52r11 : List AOper := [⟨some 2, .mv (.k (.c (.fn 81 [] []))), none, true, []⟩]
def C52r12 : List AOper := [⟨some 15, .bin .eql (.t 3) (.k (.c (.int .i64 6))), none, true, []⟩,
 ⟨some 14, .mv (.t 15), none, true, []⟩]
def C52r13 : List AOper := [⟨some 2, .mv (.k (.c (.fn 82 [] []))), none, true, []⟩]
def C52r14 : List AOper := [⟨some 17, .bin .eql (.t 3) (.k (.c (.int .i64 7))), none, true, []⟩,
 ⟨some 16, .mv (.t 17), none, true, []⟩]
def C52r15 : List AOper := [⟨some 2, .mv (.k (.c (.fn 83 [] []))), none, true, []⟩]
def C52r16 : List AOper := [⟨some 19, .bin .eql (.t 3) (.k (.c (.int .i64 8))), none, true, []⟩,
 ⟨some 18, .mv (.t 19), none, true, []⟩]
def C52r17 : List AOper := [⟨some 2, .mv (.k (.c (.fn 84 [] []))), none, true, []⟩]
def C52r18 : List AOper := [⟨some 21, .bin .eql (.t 3) (.k (.c (.int .i64 9))), none, true, []⟩,
 ⟨some 20, .mv (.t 21), none, true, []⟩]
def C52r19 : List AOper := [⟨some 2, .mv (.k (.c (.fn 85 [] []))), none, true, []⟩]
def C52r20 : List AOper := [⟨some 23, .bin .eql (.t 3) (.k (.c (.int .i64 10))), none, true, []⟩,
 ⟨some 22, .mv (.t 23), none, true, []⟩]
def C52r21 : List AOper := [⟨some 2, .mv (.k (.c (.fn 86 [] []))), none, true, []⟩]
def C52r22 : List AOper := [⟨some 25, .bin .eql (.t 3) (.k (.c (.int .i64 11))), none, true, []⟩,
 ⟨some 24, .mv (.t 25), none, true, []⟩]
def C52r23 : List AOper := [⟨some 2, .mv (.k (.c (.fn 87 [] []))), none, true, []⟩]
def C52r24 : List AOper := [⟨some 27, .bin .eql (.t 3) (.k (.c (.int .i64 12))), none, true, []⟩,
 ⟨some 26, .mv (.t 27), none, true, []⟩]
def C52r25 : List AOper := [⟨some 2, .mv (.k (.c (.fn 88 [] []))), none, true, []⟩]
def C52r26 : List AOper := [⟨some 29, .bin .eql (.t 3) (.k (.c (.int .i64 13))), none, true, []⟩,
 ⟨some 28, .mv (.t 29), none, true, []⟩]
def C52r27 : List AOper := [⟨some 2, .mv (.k (.c (.fn 89 [] []))), none, true, []⟩]
def C52r28 : List AOper := [⟨some 31, .bin .eql (.t 3) (.k (.c (.int .i64 14))), none, true, []⟩,
 ⟨some 30, .mv (.t 31), none, true, []⟩]
def C52r29 : List AOper := [⟨some 2, .mv (.k (.c (.fn 90 [] []))), none, true, []⟩]
def C52r30 : List AOper := [⟨some 33, .bin .eql (.t 3) (.k (.c (.int .i64 15))), none, true, []⟩,
 ⟨some 32, .mv (.t 33), none, true, []⟩]
def C52r31 : List AOper := [⟨some 2, .mv (.k (.c (.fn 91 [] []))), none, true, []⟩]
def C52r32 : List AOper := [⟨some 2, .mv (.k (.c (.nilfn))), none, true, []⟩]
def C52 : ACode :=
 .seq (.region C52r0)
 (.seq (.seq (.region C52r1)
 (.block 0
 (.seq (.region C52r2)
 (.cond (.t 4)
 (.seq (.region C52r3)
 (.ret))
 (.seq (.region C52r4)
 (.cond (.t 6)
 (.seq (.region C52r5)
 (.ret))
 (.seq (.region C52r6)
 (.cond (.t 8)
 (.seq (.region C52r7)
 (.ret))
 (.seq (.region C52r8)
 (.cond (.t 10)
 (.seq (.region C52r9)
 (.ret))
 (.seq (.region C52r10)
 (.cond (.t 12)
 (.seq (.region C52r11)
 (.ret))
 (.seq (.region C52r12)
 (.cond (.t 14)
 (.seq (.region C52r13)
 (.ret))
 (.seq (.region C52r14)
 (.cond (.t 16)
 (.seq (.region C52r15)
 (.ret))
 (.seq (.region C52r16)
 (.cond (.t 18)
 (.seq (.region C52r17)
 (.ret))
 (.seq (.region C52r18)
 (.cond (.t 20)
 (.seq (.region C52r19)
 (.ret))
 (.seq (.region C52r20)
 (.cond (.t 22)
 (.seq (.region C52r21)
 (.ret))
 (.seq (.region C52r22)
 (.cond (.t 24)
 (.seq (.region C52r23)
 (.ret))
 (.seq (.region C52r24)
 (.cond (.t 26)
 (.seq (.region C52r25)
 (.ret))
 (.seq (.region C52r26)
 (.cond (.t 28)
 (.seq (.region C52r27)
 (.ret))
 (.seq (.region C52r28)
 (.cond (.t 30)
 (.seq (.region C52r29)
 (.ret))
 (.seq (.region C52r30)
 (.cond (.t 32)
 (.seq (.region C52r31)
 (.ret))
 (.skip)))))))))))))))))))))))))))))))))
 (.seq (.region C52r32)
 (.ret)))
theorem C52_ok : stripF Try.prog Try.f52 = some C52 := by kernel_rfl
def C73r0 : List AOper := [⟨some 1, .box 39 (.t 0), none, true, []⟩,
 ⟨some 2, .alloc 111 [.c (.int .i64 0), .c (.int .i64 0)], none, true, []⟩,
 ⟨some 3, .mv (.k (.c (.bool false))), none, true, []⟩,
 ⟨some 4, .mv (.k (.c (.bool false))), none, true, []⟩]
def C73r1 : List AOper := [⟨some 5, .faddr (.t 1) 0, none, true, []⟩,
 ⟨some 6, .ld1 (.t 5), none, true, []⟩]
def C73r2 : List AOper := [⟨some 8, .bin .eql (.t 6) (.k (.c (.int .i64 2))), none, true, []⟩,
 ⟨some 7, .mv (.t 8), none, true, []⟩]
def C73r3 : List AOper := [⟨some 9, .bin .eql (.t 6) (.k (.c (.int .i64 3))), none, true, []⟩,
 ⟨some 7, .mv (.t 9), none, true, []⟩]
def C73r4 : List AOper := [⟨some 10, .faddr (.t 1) 1, none, false, []⟩,
 ⟨some 11, .ld1 (.t 10), none, false, []⟩,
 ⟨some 12, .build [.c (.int .i64 0), .c (.int .i64 0)] [(0, 1, (.k (.c (.int .i64 0)))), (1, 1, (.t 11))], none, false, []⟩,
 ⟨some 13, .faddr (.t 1) 0, none, false, []⟩,
 ⟨some 14, .ld1 (.t 13), none, false, []⟩,
 ⟨some 15, .bin .eql (.t 14) (.k (.c (.int .i64 3))), none, false, []⟩,
 ⟨none, .stn 2 (.t 2) (.t 12), none, true, [13]⟩,
 ⟨some 3, .mv (.t 15), none, true, []⟩,
 ⟨some 4, .mv (.k (.c (.bool true))), none, true, []⟩]
def C73r5 : List AOper := [⟨some 17, .bin .eql (.t 6) (.k (.c (.int .i64 4))), none, true, []⟩,
 ⟨some 16, .mv (.t 17), none, true, []⟩]
def C73r6 : List AOper := [⟨some 18, .bin .eql (.t 6) (.k (.c (.int .i64 5))), none, true, []⟩,
 ⟨some 16, .mv (.t 18), none, true, []⟩]
def C73r7 : List AOper := [⟨some 19, .build [.c (.int .i64 0), .c (.int .i64 0)] [(0, 1, (.k (.c (.int .i64 1)))), (1, 1, (.k (.c (.int .i64 0))))], none, false, []⟩,
 ⟨some 20, .faddr (.t 1) 0, none, false, []⟩,
 ⟨some 21, .ld1 (.t 20), none, false, []⟩,
 ⟨some 22, .bin .eql (.t 21) (.k (.c (.int .i64 5))), none, false, []⟩,
 ⟨none, .stn 2 (.t 2) (.t 19), none, true, [20]⟩,
 ⟨some 3, .mv (.t 22), none, true, []⟩,
 ⟨some 4, .mv (.k (.c (.bool true))), none, true, []⟩]
def C73r8 : List AOper := [⟨some 24, .bin .eql (.t 6) (.k (.c (.int .i64 6))), none, true, []⟩,
 ⟨some 23, .mv (.t 24), none, true, []⟩]
def C73r9 : List AOper := [⟨some 25, .bin .eql (.t 6) (.k (.c (.int .i64 7))), none, true, []⟩,
 ⟨some 23, .mv (.t 25), none, true, []⟩]
def C73r10 : List AOper := [⟨some 26, .faddr (.t 1) 1, none, false, []⟩,
 ⟨some 27, .ld1 (.t 26), none, false, []⟩,
 ⟨some 28, .build [.c (.int .i64 0), .c (.int .i64 0)] [(0, 1, (.k (.c (.int .i64 2)))), (1, 1, (.t 27))], none, false, []⟩,
 ⟨some 29, .faddr (.t 1) 0, none, false, []⟩,
 ⟨some 30, .ld1 (.t 29), none, false, []⟩,
 ⟨some 31, .bin .eql (.t 30) (.k (.c (.int .i64 7))), none, false, []⟩,
 ⟨none, .stn 2 (.t 2) (.t 28), none, true, [29]⟩,
 ⟨some 3, .mv (.t 31), none, true, []⟩,
 ⟨some 4, .mv (.k (.c (.bool true))), none, true, []⟩]
def C73r11 : List AOper := [⟨some 32, .build [.c (.int .i64 0), .c (.int .i64 0)] [], none, true, []⟩,
 ⟨none, .stn 2 (.t 2) (.t 32), none, true, []⟩,
 ⟨some 3, .mv (.k (.c (.bool false))), none, true, []⟩,
 ⟨some 4, .mv (.k (.c (.bool false))), none, true, []⟩]
def C73 : ACode :=
 .seq (.region C73r0)
 (.seq (.seq (.region C73r1)
 (.block 0
 (.seq (.seq (.region C73r2)
 (.cond (.t 7)
 (.skip)
 (.region C73r3)))
 (.cond (.t 7)
 (.seq (.region C73r4)
 (.ret))
 (.seq (.seq (.region C73r5)
 (.cond (.t 16)
 (.skip)
 (.region C73r6)))
 (.cond (.t 16)
 (.seq (.region C73r7)
 (.ret))
 (.seq (.seq (.region C73r8)
 (.cond (.t 23)
 (.skip)
 (.region C73r9)))
 (.cond (.t 23)
 (.seq (.region C73r10)
 (.ret))
 (.skip)))))))))
 (.seq (.region C73r11)
 (.ret)))
theorem C73_ok : stripF Try.prog Try.f73 = some C73 := by kernel_rfl
def C74r0 : List AOper := [⟨some 4, .box 39 (.t 1), none, true, []⟩,
 ⟨some 5, .box 111 (.t 2), none, true, []⟩,
 ⟨some 6, .mv (.k (.c (.int .i64 0))), none, true, []⟩]
def C74r1 : List AOper := [⟨some 7, .faddr (.t 5) 0, none, true, []⟩,
 ⟨some 8, .ld1 (.t 7), none, true, []⟩,
 ⟨some 9, .bin .neq (.t 8) (.k (.c (.int .i64 2))), none, true, []⟩,
 ⟨some 10, .mv (.t 9), none, true, []⟩,
 ⟨some 11, .mv (.t 0), some (10, false), true, []⟩,
 ⟨some 12, .faddr (.t 4) 2, some (10, false), true, []⟩,
 ⟨some 13, .ld1 (.t 12), some (10, false), true, []⟩,
 ⟨some 14, .call (.k (.c (.fn 100 [] []))) [(.t 11), (.t 13)], some (10, false), true, []⟩,
 ⟨some 15, .pick 10 (.k (.c (.bool true))) (.t 14), none, true, []⟩]
def C74r2 : List AOper := [⟨some 16, .mv (.t 0), none, false, []⟩,
 ⟨some 17, .nilchk (.t 16), none, false, []⟩,
 ⟨some 18, .faddr (.t 17) 3, none, false, []⟩,
 ⟨some 19, .ld1 (.t 18), none, false, []⟩,
 ⟨some 20, .ldn 2 (.t 5), none, false, []⟩,
 ⟨some 21, .faddr (.t 4) 2, none, false, []⟩,
 ⟨some 22, .ld1 (.t 21), none, false, []⟩,
 ⟨none, .mp .put [true, true] (.int .i64 0) (.t 19) (.t 20) (.t 22), none, true, []⟩]
def C74r3 : List AOper := [⟨some 23, .mv (.t 0), none, false, []⟩,
 ⟨some 24, .nilchk (.t 23), none, false, []⟩,
 ⟨some 25, .faddr (.t 24) 3, none, false, []⟩,
 ⟨some 26, .ld1 (.t 25), none, false, []⟩,
 ⟨some 27, .ldn 2 (.t 5), none, false, []⟩,
 ⟨none, .mp .del [true, true] (.int .i64 0) (.t 26) (.t 27) (.k (.bot)), none, true, []⟩]
def C74r4 : List AOper := [⟨some 28, .mv (.t 0), none, true, []⟩,
 ⟨some 29, .ldn 6 (.t 4), none, true, []⟩,
 ⟨some 30, .call (.k (.c (.fn 75 [] []))) [(.t 28), (.t 29)], none, true, []⟩,
 ⟨some 6, .mv (.t 30), none, true, []⟩]
def C74 : ACode :=
 .seq (.region C74r0)
 (.seq (.seq (.region C74r1)
 (.cond (.t 15)
 (.region C74r2)
 (.region C74r3)))
 (.seq (.region C74r4)
 (.ret)))
theorem C74_ok : stripF Try.prog Try.f74 = some C74 := by kernel_rfl
def C75r0 : List AOper := [⟨some 3, .box 39 (.t 1), none, true, []⟩,
 ⟨some 4, .mv (.k (.c (.int .i64 0))), none, true, []⟩]
def C75r1 : List AOper := [⟨some 5, .mv (.t 0), none, false, []⟩,
 ⟨some 6, .mv (.t 0), none, false, []⟩,
 ⟨some 7, .nilchk (.t 6), none, false, []⟩,
 ⟨some 8, .faddr (.t 7) 1, none, false, []⟩,
 ⟨some 9, .ld1 (.t 8), none, false, []⟩,
 ⟨some 10, .ldn 6 (.t 3), none, false, []⟩,
 ⟨some 11, .bslice 39 6 [.c (.int .i64 0), .c (.int .i64 0), .c (.int .i64 0), .c (.int .i64 0), .c (.int .i64 0), .c (.int .u64 0)] 1 [(0, 6, (.t 10))], none, false, []⟩,
 ⟨some 12, .app 6 48 39 (.t 9) (.t 11), none, true, []⟩,
 ⟨some 13, .nilchk (.t 5), none, true, []⟩,
 ⟨some 14, .faddr (.t 13) 1, none, true, []⟩,
 ⟨none, .st1 (.t 14) (.t 12), none, true, []⟩]
def C75r2 : List AOper := [⟨some 15, .mv (.t 0), none, true, []⟩,
 ⟨some 16, .nilchk (.t 15), none, true, []⟩,
 ⟨some 17, .faddr (.t 16) 1, none, true, []⟩,
 ⟨some 18, .ld1 (.t 17), none, true, []⟩,
 ⟨some 19, .len false (.t 18), none, true, []⟩,
 ⟨some 20, .bin .sub (.t 19) (.k (.c (.int .i64 1))), none, true, []⟩,
 ⟨some 4, .mv (.t 20), none, true, []⟩]
def C75 : ACode :=
 .seq (.region C75r0)
 (.seq (.region C75r1)
 (.seq (.region C75r2)
 (.ret)))
theorem C75_ok : stripF Try.prog Try.f75 = some C75 := by kernel_rfl
def C76r0 : List AOper := [⟨some 4, .mv (.k (.c (.int .u64 0))), none, true, []⟩,
 ⟨some 5, .mv (.k (.c (.bool false))), none, true, []⟩]
def C76r1 : List AOper := [⟨some 7, .mv (.t 0), none, true, []⟩,
 ⟨some 8, .nilchk (.t 7), none, true, []⟩,
 ⟨some 9, .faddr (.t 8) 1, none, true, []⟩,
 ⟨some 10, .ld1 (.t 9), none, true, []⟩,
 ⟨some 11, .mv (.t 1), none, true, []⟩,
 ⟨some 12, .iaddr 6 (.t 10) (.t 11), none, true, []⟩,
 ⟨some 13, .ldn 6 (.t 12), none, true, []⟩,
 ⟨some 6, .alloc 39 [.c (.int .i64 0), .c (.int .i64 0), .c (.int .i64 0), .c (.int .i64 0), .c (.int .i64 0), .c (.int .u64 0)], none, true, []⟩,
 ⟨none, .stn 6 (.t 6) (.t 13), none, true, []⟩]
def C76r2 : List AOper := [⟨some 14, .faddr (.t 6) 5, none, false, []⟩,
 ⟨some 15, .ld1 (.t 14), none, false, []⟩,
 ⟨some 16, .faddr (.t 6) 0, none, false, []⟩,
 ⟨some 17, .ld1 (.t 16), none, false, []⟩,
 ⟨some 18, .bin .eql (.t 17) (.k (.c (.int .i64 1))), none, false, []⟩,
 ⟨some 4, .mv (.t 15), none, false, []⟩,
 ⟨some 5, .mv (.t 18), none, true, []⟩]
def C76 : ACode :=
 .seq (.region C76r0)
 (.seq (.region C76r1)
 (.seq (.region C76r2)
 (.ret)))
theorem C76_ok : stripF Try.prog Try.f76 = some C76 := by kernel_rfl
def C77r0 : List AOper := [⟨some 4, .mv (.k (.c (.int .u64 0))), none, true, []⟩]
def C77r1 : List AOper := [⟨some 5, .mv (.t 0), none, true, []⟩,
 ⟨some 6, .mv (.t 1), none, true, []⟩,
 ⟨some 7, .bin .add (.t 5) (.t 6), none, true, []⟩,
 ⟨some 4, .mv (.t 7), none, true, []⟩]
def C77 : ACode :=
 .seq (.region C77r0)
 (.seq (.region C77r1)
 (.ret))
theorem C77_ok : stripF Try.prog Try.f77 = some C77 := by kernel_rfl
def C78r0 : List AOper := [⟨some 4, .mv (.k (.c (.int .u64 0))), none, true, []⟩]
def C78r1 : List AOper := [⟨some 5, .mv (.t 0), none, true, []⟩,
 ⟨some 6, .mv (.t 1), none, true, []⟩,
 ⟨some 7, .bin .sub (.t 5) (.t 6), none, true, []⟩,
 ⟨some 4, .mv (.t 7), none, true, []⟩]
def C78 : ACode :=
 .seq (.region C78r0)
 (.seq (.region C78r1)
 (.ret))
theorem C78_ok : stripF Try.prog Try.f78 = some C78 := by kernel_rfl
def C79r0 : List AOper := [⟨some 4, .mv (.k (.c (.int .u64 0))), none, true, []⟩]
def C79r1 : List AOper := [⟨some 5, .mv (.t 0), none, true, []⟩,
 ⟨some 6, .mv (.t 1), none, true, []⟩,
 ⟨some 7, .bin .and (.t 5) (.t 6), none, true, []⟩,
 ⟨some 4, .mv (.t 7), none, true, []⟩]
def C79 : ACode :=
 .seq (.region C79r0)
 (.seq (.region C79r1)
 (.ret))
theorem C79_ok : stripF Try.prog Try.f79 = some C79 := by kernel_rfl
def C80r0 : List AOper := [⟨some 4, .mv (.k (.c (.int .u64 0))), none, true, []⟩]
def C80r1 : List AOper := [⟨some 5, .mv (.t 0), none, true, []⟩,
 ⟨some 6, .mv (.t 1), none, true, []⟩,
 ⟨some 7, .bin .or (.t 5) (.t 6), none, true, []⟩,
 ⟨some 4, .mv (.t 7), none, true, []⟩]
def C80 : ACode :=
 .seq (.region C80r0)
 (.seq (.region C80r1)
 (.ret))
theorem C80_ok : stripF Try.prog Try.f80 = some C80 := by kernel_rfl
def C81r0 : List AOper := [⟨some 4, .mv (.k (.c (.int .u64 0))), none, true, []⟩]
def C81r1 : List AOper := [⟨some 5, .mv (.t 0), none, true, []⟩,
 ⟨some 6, .mv (.t 1), none, true, []⟩,
 ⟨some 7, .bin .xor (.t 5) (.t 6), none, true, []⟩,
 ⟨some 4, .mv (.t 7), none, true, []⟩]
def C81 : ACode :=
 .seq (.region C81r0)
 (.seq (.region C81r1)
 (.ret))
theorem C81_ok : stripF Try.prog Try.f81 = some C81 := by kernel_rfl
def C82r0 : List AOper := [⟨some 4, .mv (.k (.c (.int .u64 0))), none, true, []⟩]
def C82r1 : List AOper := [⟨some 5, .mv (.t 0), none, true, []⟩,
 ⟨some 6, .mv (.t 1), none, true, []⟩,
 ⟨some 7, .bin .mul (.t 5) (.t 6), none, true, []⟩,
 ⟨some 4, .mv (.t 7), none, true, []⟩]
def C82 : ACode :=
 .seq (.region C82r0)
 (.seq (.region C82r1)
 (.ret))
theorem C82_ok : stripF Try.prog Try.f82 = some C82 := by kernel_rfl
def C83r0 : List AOper := [⟨some 4, .mv (.k (.c (.int .u64 0))), none, true, []⟩]
def C83r1 : List AOper := [⟨some 5, .mv (.t 1), none, true, []⟩,
 ⟨some 6, .bin .eql (.t 5) (.k (.c (.int .u64 0))), none, true, []⟩]
def C83r2 : List AOper := [⟨some 4, .mv (.k (.c (.int .u64 0))), none, true, []⟩]
def C83r3 : List AOper := [⟨some 7, .mv (.t 0), none, true, []⟩,
 ⟨some 8, .mv (.t 1), none, true, []⟩,
 ⟨some 9, .bin .quo (.t 7) (.t 8), none, true, []⟩,
 ⟨some 4, .mv (.t 9), none, true, []⟩]
def C83 : ACode :=
 .seq (.region C83r0)
 (.seq (.seq (.region C83r1)
 (.cond (.t 6)
 (.seq (.region C83r2)
 (.ret))
 (.skip)))
 (.seq (.region C83r3)
 (.ret)))
theorem C83_ok : stripF Try.prog Try.f83 = some C83 := by kernel_rfl
def C84r0 : List AOper := [⟨some 4, .mv (.k (.c (.int .u64 0))), none, true, []⟩]
def C84r1 : List AOper := [⟨some 5, .mv (.t 1), none, true, []⟩,
 ⟨some 6, .conv .i64 (.t 5), none, true, []⟩]
def C84r2 : List AOper := [⟨some 8, .bin .eql (.t 6) (.k (.c (.int .i64 0))), none, true, []⟩,
 ⟨some 7, .mv (.t 8), none, true, []⟩]
def C84r3 : List AOper := [⟨some 4, .mv (.k (.c (.int .u64 0))), none, true, []⟩]
def C84r4 : List AOper := [⟨some 10, .bin .eql (.t 6) (.k (.c (.int .i64 (-1)))), none, true, []⟩,
 ⟨some 9, .mv (.t 10), none, true, []⟩]
def C84r5 : List AOper := [⟨some 11, .mv (.t 0), none, true, []⟩,
 ⟨some 12, .un .neg (.t 11), none, true, []⟩,
 ⟨some 4, .mv (.t 12), none, true, []⟩]
def C84r6 : List AOper := [⟨some 13, .mv (.t 0), none, true, []⟩,
 ⟨some 14, .conv .i64 (.t 13), none, true, []⟩,
 ⟨some 15, .mv (.t 1), none, true, []⟩,
 ⟨some 16, .conv .i64 (.t 15), none, true, []⟩,
 ⟨some 17, .bin .quo (.t 14) (.t 16), none, true, []⟩,
 ⟨some 18, .conv .u64 (.t 17), none, true, []⟩,
 ⟨some 4, .mv (.t 18), none, true, []⟩]
def C84 : ACode :=
 .seq (.region C84r0)
 (.seq (.seq (.region C84r1)
 (.block 0
 (.seq (.region C84r2)
 (.cond (.t 7)
 (.seq (.region C84r3)
 (.ret))
 (.seq (.region C84r4)
 (.cond (.t 9)
 (.seq (.region C84r5)
 (.ret))
 (.skip)))))))
 (.seq (.region C84r6)
 (.ret)))
theorem C84_ok : stripF Try.prog Try.f84 = some C84 := by kernel_rfl
def C85r0 : List AOper := [⟨some 4, .mv (.k (.c (.int .u64 0))), none, true, []⟩]
def C85r1 : List AOper := [⟨some 5, .mv (.t 0), none, true, []⟩,
 ⟨some 6, .mv (.t 1), none, true, []⟩,
 ⟨some 7, .bin .and (.t 6) (.k (.c (.int .u64 63))), none, true, []⟩,
 ⟨some 8, .bin .shl (.t 5) (.t 7), none, true, []⟩,
 ⟨some 4, .mv (.t 8), none, true, []⟩]
def C85 : ACode :=
 .seq (.region C85r0)
 (.seq (.region C85r1)
 (.ret))
theorem C85_ok : stripF Try.prog Try.f85 = some C85 := by kernel_rfl
def C86r0 : List AOper := [⟨some 4, .mv (.k (.c (.int .u64 0))), none, true, []⟩]
def C86r1 : List AOper := [⟨some 5, .mv (.t 0), none, true, []⟩,
 ⟨some 6, .mv (.t 1), none, true, []⟩,
 ⟨some 7, .bin .and (.t 6) (.k (.c (.int .u64 63))), none, true, []⟩,
 ⟨some 8, .bin .shr (.t 5) (.t 7), none, true, []⟩,
 ⟨some 4, .mv (.t 8), none, true, []⟩]
def C86 : ACode :=
 .seq (.region C86r0)
 (.seq (.region C86r1)
 (.ret))
theorem C86_ok : stripF Try.prog Try.f86 = some C86 := by kernel_rfl
def C87r0 : List AOper := [⟨some 4, .mv (.k (.c (.int .u64 0))), none, true, []⟩]
def C87r1 : List AOper := [⟨some 5, .mv (.t 0), none, true, []⟩,
 ⟨some 6, .conv .i64 (.t 5), none, true, []⟩,
 ⟨some 7, .mv (.t 1), none, true, []⟩,
 ⟨some 8, .bin .and (.t 7) (.k (.c (.int .u64 63))), none, true, []⟩,
 ⟨some 9, .bin .shr (.t 6) (.t 8), none, true, []⟩,
 ⟨some 10, .conv .u64 (.t 9), none, true, []⟩,
 ⟨some 4, .mv (.t 10), none, true, []⟩]
def C87 : ACode :=
 .seq (.region C87r0)
 (.seq (.region C87r1)
 (.ret))
theorem C87_ok : stripF Try.prog Try.f87 = some C87 := by kernel_rfl
def C88r0 : List AOper := [⟨some 4, .mv (.k (.c (.int .u64 0))), none, true, []⟩]
def C88r1 : List AOper := [⟨some 5, .mv (.t 0), none, true, []⟩,
 ⟨some 6, .mv (.t 1), none, true, []⟩,
 ⟨some 7, .bin .and (.t 6) (.k (.c (.int .u64 63))), none, true, []⟩,
 ⟨some 8, .conv .i64 (.t 7), none, true, []⟩,
 ⟨some 9, .un .neg (.t 8), none, true, []⟩,
 ⟨some 10, .call (.k (.c (.fn 101 [] []))) [(.t 5), (.t 9)], none, true, []⟩,
 ⟨some 4, .mv (.t 10), none, true, []⟩]
def C88 : ACode :=
 .seq (.region C88r0)
 (.seq (.region C88r1)
 (.ret))
theorem C88_ok : stripF Try.prog Try.f88 = some C88 := by kernel_rfl
def C89r0 : List AOper := [⟨some 4, .mv (.k (.c (.int .u64 0))), none, true, []⟩]
def C89r1 : List AOper := [⟨some 5, .mv (.t 0), none, true, []⟩,
 ⟨some 6, .mv (.t 1), none, true, []⟩,
 ⟨some 7, .bin .eql (.t 5) (.t 6), none, true, []⟩,
 ⟨some 8, .call (.k (.c (.fn 102 [] []))) [(.t 7)], none, true, []⟩,
 ⟨some 4, .mv (.t 8), none, true, []⟩]
def C89 : ACode :=
 .seq (.region C89r0)
 (.seq (.region C89r1)
 (.ret))
theorem C89_ok : stripF Try.prog Try.f89 = some C89 := by kernel_rfl
def C90r0 : List AOper := [⟨some 4, .mv (.k (.c (.int .u64 0))), none, true, []⟩]
def C90r1 : List AOper := [⟨some 5, .mv (.t 0), none, true, []⟩,
 ⟨some 6, .mv (.t 1), none, true, []⟩,
 ⟨some 7, .bin .lss (.t 5) (.t 6), none, true, []⟩,
 ⟨some 8, .call (.k (.c (.fn 102 [] []))) [(.t 7)], none, true, []⟩,
 ⟨some 4, .mv (.t 8), none, true, []⟩]
def C90 : ACode :=
 .seq (.region C90r0)
 (.seq (.region C90r1)
 (.ret))
theorem C90_ok : stripF Try.prog Try.f90 = some C90 := by kernel_rfl
def C91r0 : List AOper := [⟨some 4, .mv (.k (.c (.int .u64 0))), none, true, []⟩]
def C91r1 : List AOper := [⟨some 5, .mv (.t 0), none, true, []⟩,
 ⟨some 6, .conv .i64 (.t 5), none, true, []⟩,
 ⟨some 7, .mv (.t 1), none, true, []⟩,
 ⟨some 8, .conv .i64 (.t 7), none, true, []⟩,
 ⟨some 9, .bin .lss (.t 6) (.t 8), none, true, []⟩,
 ⟨some 10, .call (.k (.c (.fn 102 [] []))) [(.t 9)], none, true, []⟩,
 ⟨some 4, .mv (.t 10), none, true, []⟩]
def C91 : ACode :=
 .seq (.region C91r0)
 (.seq (.region C91r1)
 (.ret))
theorem C91_ok : stripF Try.prog Try.f91 = some C91 := by kernel_rfl
def C100r0 : List AOper := [⟨some 4, .mv (.k (.c (.bool false))), none, true, []⟩]
def C100r1 : List AOper := [⟨some 6, .mv (.t 0), none, true, []⟩,
 ⟨some 7, .nilchk (.t 6), none, true, []⟩,
 ⟨some 8, .faddr (.t 7) 1, none, true, []⟩,
 ⟨some 9, .ld1 (.t 8), none, true, []⟩,
 ⟨some 10, .mv (.t 1), none, true, []⟩,
 ⟨some 11, .iaddr 6 (.t 9) (.t 10), none, true, []⟩,
 ⟨some 12, .ldn 6 (.t 11), none, true, []⟩,
 ⟨some 5, .alloc 39 [.c (.int .i64 0), .c (.int .i64 0), .c (.int .i64 0), .c (.int .i64 0), .c (.int .i64 0), .c (.int .u64 0)], none, true, []⟩,
 ⟨none, .stn 6 (.t 5) (.t 12), none, true, []⟩]
def C100r2 : List AOper := [⟨some 13, .faddr (.t 5) 0, none, true, []⟩,
 ⟨some 14, .ld1 (.t 13), none, true, []⟩]
def C100r3 : List AOper := [⟨some 16, .bin .eql (.t 14) (.k (.c (.int .i64 1))), none, true, []⟩,
 ⟨some 15, .mv (.t 16), none, true, []⟩]
def C100r4 : List AOper := [⟨some 17, .faddr (.t 5) 5, none, true, []⟩,
 ⟨some 18, .ld1 (.t 17), none, true, []⟩,
 ⟨some 19, .bin .lss (.t 18) (.k (.c (.int .u64 2))), none, true, []⟩,
 ⟨some 4, .mv (.t 19), none, true, []⟩]
def C100r5 : List AOper := [⟨some 21, .bin .eql (.t 14) (.k (.c (.int .i64 6))), none, true, []⟩,
 ⟨some 20, .mv (.t 21), none, true, []⟩]
def C100r6 : List AOper := [⟨some 4, .mv (.k (.c (.bool true))), none, true, []⟩]
def C100r7 : List AOper := [⟨some 23, .bin .eql (.t 14) (.k (.c (.int .i64 8))), none, true, []⟩,
 ⟨some 22, .mv (.t 23), none, true, []⟩]
def C100r8 : List AOper := [⟨some 24, .faddr (.t 5) 1, none, true, []⟩,
 ⟨some 25, .ld1 (.t 24), none, true, []⟩,
 ⟨some 26, .bin .eql (.t 25) (.k (.c (.int .i64 13))), none, true, []⟩,
 ⟨some 27, .mv (.t 26), none, true, []⟩,
 ⟨some 28, .faddr (.t 5) 1, some (27, false), true, []⟩,
 ⟨some 29, .ld1 (.t 28), some (27, false), true, []⟩,
 ⟨some 30, .bin .eql (.t 29) (.k (.c (.int .i64 14))), some (27, false), true, []⟩,
 ⟨some 31, .pick 27 (.k (.c (.bool true))) (.t 30), none, true, []⟩,
 ⟨some 32, .mv (.t 31), none, true, []⟩,
 ⟨some 33, .faddr (.t 5) 1, some (32, false), true, []⟩,
 ⟨some 34, .ld1 (.t 33), some (32, false), true, []⟩,
 ⟨some 35, .bin .eql (.t 34) (.k (.c (.int .i64 15))), some (32, false), true, []⟩,
 ⟨some 36, .pick 32 (.k (.c (.bool true))) (.t 35), none, true, []⟩,
 ⟨some 4, .mv (.t 36), none, true, []⟩]
def C100r9 : List AOper := [⟨some 4, .mv (.k (.c (.bool false))), none, true, []⟩]
def C100 : ACode :=
 .seq (.region C100r0)
 (.seq (.region C100r1)
 (.seq (.seq (.region C100r2)
 (.block 0
 (.seq (.region C100r3)
 (.cond (.t 15)
 (.seq (.region C100r4)
 (.ret))
 (.seq (.region C100r5)
 (.cond (.t 20)
 (.seq (.region C100r6)
 (.ret))
 (.seq (.region C100r7)
 (.cond (.t 22)
 (.seq (.region C100r8)
 (.ret))
 (.skip)))))))))
 (.seq (.region C100r9)
 (.ret))))
theorem C100_ok : stripF Try.prog Try.f100 = some C100 := by kernel_rfl
def C101r0 : List AOper := [⟨some 4, .mv (.k (.c (.int .u64 0))), none, true, []⟩]
def C101r1 : List AOper := [⟨some 6, .mv (.t 1), none, true, []⟩,
 ⟨some 7, .conv .u64 (.t 6), none, true, []⟩,
 ⟨some 8, .bin .and (.t 7) (.k (.c (.int .u64 63))), none, true, []⟩,
 ⟨some 5, .mv (.t 8), none, true, []⟩]
def C101r2 : List AOper := [⟨some 9, .mv (.t 0), none, true, []⟩,
 ⟨some 10, .mv (.t 5), none, true, []⟩,
 ⟨some 11, .bin .shl (.t 9) (.t 10), none, true, []⟩,
 ⟨some 12, .mv (.t 0), none, true, []⟩,
 ⟨some 13, .mv (.t 5), none, true, []⟩,
 ⟨some 14, .bin .sub (.k (.c (.int .u64 64))) (.t 13), none, true, []⟩,
 ⟨some 15, .bin .shr (.t 12) (.t 14), none, true, []⟩,
 ⟨some 16, .bin .or (.t 11) (.t 15), none, true, []⟩,
 ⟨some 4, .mv (.t 16), none, true, []⟩]
def C101 : ACode :=
 .seq (.region C101r0)
 (.seq (.region C101r1)
 (.seq (.region C101r2)
 (.ret)))
theorem C101_ok : stripF Try.prog Try.f101 = some C101 := by kernel_rfl
def C102r0 : List AOper := [⟨some 2, .mv (.k (.c (.int .u64 0))), none, true, []⟩]
def C102r1 : List AOper := [⟨some 3, .mv (.t 0), none, true, []⟩]
def C102r2 : List AOper := [⟨some 2, .mv (.k (.c (.int .u64 1))), none, true, []⟩]
def C102r3 : List AOper := [⟨some 2, .mv (.k (.c (.int .u64 0))), none, true, []⟩]
def C102 : ACode :=
 .seq (.region C102r0)
 (.seq (.seq (.region C102r1)
 (.cond (.t 3)
 (.seq (.region C102r2)
 (.ret))
 (.skip)))
 (.seq (.region C102r3)
 (.ret)))
theorem C102_ok : stripF Try.prog Try.f102 = some C102 := by kernel_rfl
end Go.Proofs.Ytmbnakinhnkabaa

namespace Go.Proofs.Ytmbnakinhnkabaa
open Go.AM
set_option maxRecDepth 100000
set_option linter.unusedSimpArgs false
set_option linter.unusedVariables false
theorem wrap_nonneg (x : Int) : 0 ≤ IntKind.u64.wrap x := by
  simp only [IntKind.wrap, IntKind.signed, IntKind.bits]
  first | omega | (simp; omega) | skip
def b63 (b : Int) : Int := IntKind.u64.wrap (BitVec.ofInt IntKind.u64.bits b &&& BitVec.ofInt IntKind.u64.bits 63).toNat
def rotS (a b : Int) : Int := IntKind.u64.wrap (BitVec.ofInt IntKind.u64.bits (IntKind.u64.wrap (a * 2 ^ min (b63 (IntKind.u64.wrap b)).toNat IntKind.u64.bits)) ||| BitVec.ofInt IntKind.u64.bits (a.fdiv (2 ^ min (IntKind.u64.wrap (64 - b63 (IntKind.u64.wrap b))).toNat IntKind.u64.bits))).toNat
def f59 (a b : Int) : Int := if IntKind.i64.wrap b = 0 then 0 else if IntKind.i64.wrap b = -1 then IntKind.u64.wrap (0 - a) else IntKind.u64.wrap (IntKind.i64.wrap ((IntKind.i64.wrap a).tdiv (IntKind.i64.wrap b)))
def f60 (a b : Int) : Int := IntKind.u64.wrap (a * 2 ^ min (b63 b).toNat IntKind.u64.bits)
def f61 (a b : Int) : Int := a.fdiv (2 ^ min (b63 b).toNat IntKind.u64.bits)
def f62 (a b : Int) : Int := IntKind.u64.wrap ((IntKind.i64.wrap a).fdiv (2 ^ min (b63 b).toNat IntKind.i64.bits))
def f63 (a b : Int) : Int := rotS a (IntKind.i64.wrap (0 - IntKind.i64.wrap (b63 b)))
def f64 (a b : Int) : Int := truthS (a == b)
def f65 (a b : Int) : Int := truthS (decide (a < b))
def f66 (a b : Int) : Int := truthS (decide (IntKind.i64.wrap a < IntKind.i64.wrap b))
theorem con102 (b : Bool) (H : Heap) : Con Try.prog 102 [.c (.bool b)] H (fun v H' => v = .c (.int .u64 (truthS b)) ∧ H' = H) := by
  refine Con.pure ?_ (by simp only [leArgs, leV, leV1, leC, and_self]) rfl H
  (refine con_of_run mixed (fn := Try.f102) (by kernel_rfl) (by kernel_rfl) C102_ok (rs := [.tmp 2]) (by kernel_rfl) (Nat.le_of_ble_eq_true (by kernel_rfl)) ?_; unfold C102; simp only [initT])
  repeat' (first | refine run_seq ?_ | refine run_skip ?_ | (refine run_region fun K hK => ?_; (try (simp (maxSteps := 10000000) only [C102r0, C102r1, C102r2, C102r3, rwp_nil, rwp_cons, aop, gpath, St.get, slotAt, sfx, eqP, St.put, addBlk, shed])); (repeat (first | (refine And.intro ?_ ?_; · first | trivial | assumption | omega))); with_reducible refine hK _ ?_; clear hK K) | (refine run_cond rfl (fun hc => ?_) (fun hc => ?_) <;> try (simp only [*, Bool.true_eq_false, Bool.false_eq_true, Bool.not_true, Bool.not_false, Bool.true_or, Bool.or_true, Bool.false_or, Bool.or_false, Bool.false_and, Bool.and_false, bne_self_eq_false, beq_self_eq_true] at hc; done)) | refine run_ret ?_ | refine run_nil ?_)
  all_goals exact end_tmp1 rfl ⟨rfl, rfl⟩ rfl ⟨by rw [hc]; rfl, rfl⟩
theorem con101 (a b : Int) (H : Heap) : Con Try.prog 101 [.c (.int .u64 a), .c (.int .i64 b)] H (fun v H' => v = .c (.int .u64 (rotS a b)) ∧ H' = H) := by
  refine Con.pure ?_ (by simp only [leArgs, leV, leV1, leC, and_self]) rfl H
  (refine con_of_run mixed (fn := Try.f101) (by kernel_rfl) (by kernel_rfl) C101_ok (rs := [.tmp 4]) (by kernel_rfl) (Nat.le_of_ble_eq_true (by kernel_rfl)) ?_; unfold C101; simp only [initT, Nat.reduceAdd])
  repeat' (first | refine run_seq ?_ | (refine run_region fun K hK => ?_; (try (simp (maxSteps := 10000000) only [wrap_nonneg, true_and, C101r0, C101r1, C101r2, rwp_nil, rwp_cons, aop, gpath, St.get, slotAt, sfx, eqP, St.put, addBlk, bin, isShift, sameK, arith, shiftR, shed, imp])); (repeat (first | (refine And.intro ?_ ?_; · first | trivial | assumption | omega))); with_reducible refine hK _ ?_; clear hK K) | refine run_ret ?_ | refine run_nil ?_)
  exact end_tmp1 rfl ⟨rfl, rfl⟩ rfl ⟨rfl, rfl⟩
theorem con77 (a b : Int) (H : Heap) : Con Try.prog 77 [.c (.int .u64 a), .c (.int .u64 b)] H (fun v H' => v = .c (.int .u64 (f52 a b)) ∧ H' = H) := by
  refine Con.pure ?_ (by simp only [leArgs, leV, leV1, leC, and_self]) rfl H
  (refine con_of_run mixed (fn := Try.f77) (by kernel_rfl) (by kernel_rfl) C77_ok (rs := [.tmp 4]) (by kernel_rfl) (Nat.le_of_ble_eq_true (by kernel_rfl)) ?_; unfold C77; simp only [initT, Nat.reduceAdd])
  repeat' (first | refine run_seq ?_ | (refine run_region fun K hK => ?_; (try (simp (maxSteps := 10000000) only [C77r0, C77r1, rwp_nil, rwp_cons, aop, gpath, St.get, slotAt, sfx, eqP, St.put, addBlk, bin, isShift, sameK, arith, shed])); (repeat (first | (refine And.intro ?_ ?_; · first | trivial | assumption | omega))); with_reducible refine hK _ ?_; clear hK K) | refine run_ret ?_ | refine run_nil ?_)
  exact end_tmp1 rfl ⟨rfl, rfl⟩ rfl ⟨rfl, rfl⟩
theorem con78 (a b : Int) (H : Heap) : Con Try.prog 78 [.c (.int .u64 a), .c (.int .u64 b)] H (fun v H' => v = .c (.int .u64 (f53 a b)) ∧ H' = H) := by
  refine Con.pure ?_ (by simp only [leArgs, leV, leV1, leC, and_self]) rfl H
  (refine con_of_run mixed (fn := Try.f78) (by kernel_rfl) (by kernel_rfl) C78_ok (rs := [.tmp 4]) (by kernel_rfl) (Nat.le_of_ble_eq_true (by kernel_rfl)) ?_; unfold C78; simp only [initT, Nat.reduceAdd])
  repeat' (first | refine run_seq ?_ | (refine run_region fun K hK => ?_; (try (simp (maxSteps := 10000000) only [C78r0, C78r1, rwp_nil, rwp_cons, aop, gpath, St.get, slotAt, sfx, eqP, St.put, addBlk, bin, isShift, sameK, arith, shed])); (repeat (first | (refine And.intro ?_ ?_; · first | trivial | assumption | omega))); with_reducible refine hK _ ?_; clear hK K) | refine run_ret ?_ | refine run_nil ?_)
  exact end_tmp1 rfl ⟨rfl, rfl⟩ rfl ⟨rfl, rfl⟩
theorem con79 (a b : Int) (H : Heap) : Con Try.prog 79 [.c (.int .u64 a), .c (.int .u64 b)] H (fun v H' => v = .c (.int .u64 (f54 a b)) ∧ H' = H) := by
  refine Con.pure ?_ (by simp only [leArgs, leV, leV1, leC, and_self]) rfl H
  (refine con_of_run mixed (fn := Try.f79) (by kernel_rfl) (by kernel_rfl) C79_ok (rs := [.tmp 4]) (by kernel_rfl) (Nat.le_of_ble_eq_true (by kernel_rfl)) ?_; unfold C79; simp only [initT, Nat.reduceAdd])
  repeat' (first | refine run_seq ?_ | (refine run_region fun K hK => ?_; (try (simp (maxSteps := 10000000) only [C79r0, C79r1, rwp_nil, rwp_cons, aop, gpath, St.get, slotAt, sfx, eqP, St.put, addBlk, bin, isShift, sameK, arith, shed])); (repeat (first | (refine And.intro ?_ ?_; · first | trivial | assumption | omega))); with_reducible refine hK _ ?_; clear hK K) | refine run_ret ?_ | refine run_nil ?_)
  exact end_tmp1 rfl ⟨rfl, rfl⟩ rfl ⟨rfl, rfl⟩
theorem con80 (a b : Int) (H : Heap) : Con Try.prog 80 [.c (.int .u64 a), .c (.int .u64 b)] H (fun v H' => v = .c (.int .u64 (f55 a b)) ∧ H' = H) := by
  refine Con.pure ?_ (by simp only [leArgs, leV, leV1, leC, and_self]) rfl H
  (refine con_of_run mixed (fn := Try.f80) (by kernel_rfl) (by kernel_rfl) C80_ok (rs := [.tmp 4]) (by kernel_rfl) (Nat.le_of_ble_eq_true (by kernel_rfl)) ?_; unfold C80; simp only [initT, Nat.reduceAdd])
  repeat' (first | refine run_seq ?_ | (refine run_region fun K hK => ?_; (try (simp (maxSteps := 10000000) only [C80r0, C80r1, rwp_nil, rwp_cons, aop, gpath, St.get, slotAt, sfx, eqP, St.put, addBlk, bin, isShift, sameK, arith, shed])); (repeat (first | (refine And.intro ?_ ?_; · first | trivial | assumption | omega))); with_reducible refine hK _ ?_; clear hK K) | refine run_ret ?_ | refine run_nil ?_)
  exact end_tmp1 rfl ⟨rfl, rfl⟩ rfl ⟨rfl, rfl⟩
theorem con81 (a b : Int) (H : Heap) : Con Try.prog 81 [.c (.int .u64 a), .c (.int .u64 b)] H (fun v H' => v = .c (.int .u64 (f56 a b)) ∧ H' = H) := by
  refine Con.pure ?_ (by simp only [leArgs, leV, leV1, leC, and_self]) rfl H
  (refine con_of_run mixed (fn := Try.f81) (by kernel_rfl) (by kernel_rfl) C81_ok (rs := [.tmp 4]) (by kernel_rfl) (Nat.le_of_ble_eq_true (by kernel_rfl)) ?_; unfold C81; simp only [initT, Nat.reduceAdd])
  repeat' (first | refine run_seq ?_ | (refine run_region fun K hK => ?_; (try (simp (maxSteps := 10000000) only [C81r0, C81r1, rwp_nil, rwp_cons, aop, gpath, St.get, slotAt, sfx, eqP, St.put, addBlk, bin, isShift, sameK, arith, shed])); (repeat (first | (refine And.intro ?_ ?_; · first | trivial | assumption | omega))); with_reducible refine hK _ ?_; clear hK K) | refine run_ret ?_ | refine run_nil ?_)
  exact end_tmp1 rfl ⟨rfl, rfl⟩ rfl ⟨rfl, rfl⟩
theorem con82 (a b : Int) (H : Heap) : Con Try.prog 82 [.c (.int .u64 a), .c (.int .u64 b)] H (fun v H' => v = .c (.int .u64 (f57 a b)) ∧ H' = H) := by
  refine Con.pure ?_ (by simp only [leArgs, leV, leV1, leC, and_self]) rfl H
  (refine con_of_run mixed (fn := Try.f82) (by kernel_rfl) (by kernel_rfl) C82_ok (rs := [.tmp 4]) (by kernel_rfl) (Nat.le_of_ble_eq_true (by kernel_rfl)) ?_; unfold C82; simp only [initT, Nat.reduceAdd])
  repeat' (first | refine run_seq ?_ | (refine run_region fun K hK => ?_; (try (simp (maxSteps := 10000000) only [C82r0, C82r1, rwp_nil, rwp_cons, aop, gpath, St.get, slotAt, sfx, eqP, St.put, addBlk, bin, isShift, sameK, arith, shed])); (repeat (first | (refine And.intro ?_ ?_; · first | trivial | assumption | omega))); with_reducible refine hK _ ?_; clear hK K) | refine run_ret ?_ | refine run_nil ?_)
  exact end_tmp1 rfl ⟨rfl, rfl⟩ rfl ⟨rfl, rfl⟩
theorem con83 (a b : Int) (H : Heap) : Con Try.prog 83 [.c (.int .u64 a), .c (.int .u64 b)] H (fun v H' => v = .c (.int .u64 (f58 a b)) ∧ H' = H) := by
  refine Con.pure ?_ (by simp only [leArgs, leV, leV1, leC, and_self]) rfl H
  (refine con_of_run mixed (fn := Try.f83) (by kernel_rfl) (by kernel_rfl) C83_ok (rs := [.tmp 4]) (by kernel_rfl) (Nat.le_of_ble_eq_true (by kernel_rfl)) ?_; unfold C83; simp only [initT, Nat.reduceAdd])
  repeat' (first | refine run_seq ?_ | refine run_skip ?_ | (refine run_region fun K hK => ?_; (try (simp (maxSteps := 10000000) only [ne_eq, C83r0, C83r1, C83r2, C83r3, rwp_nil, rwp_cons, aop, gpath, St.get, slotAt, sfx, eqP, St.put, addBlk, bin, isShift, sameK, arith, shed, imp])); (repeat (first | (refine And.intro ?_ ?_; · first | trivial | assumption | omega))); with_reducible refine hK _ ?_; clear hK K) | (refine run_cond rfl (fun hc => ?_) (fun hc => ?_) <;> try (simp only [*, Bool.true_eq_false, Bool.false_eq_true, Bool.not_true, Bool.not_false, Bool.true_or, Bool.or_true, Bool.false_or, Bool.or_false, Bool.false_and, Bool.and_false, bne_self_eq_false, beq_self_eq_true] at hc; done)) | refine run_ret ?_ | refine run_nil ?_)
  · exact end_tmp1 rfl ⟨rfl, rfl⟩ rfl ⟨by have : b = 0 := by simpa using hc
                                          subst this; rfl, rfl⟩
  · have hb : ¬ b = 0 := by simpa using hc
    refine run_region fun K hK => ?_
    simp (maxSteps := 10000000) only [ne_eq, C83r3, rwp_nil, rwp_cons, aop, gpath, St.get, slotAt, sfx, eqP, St.put, addBlk, bin, isShift, sameK, arith, shed, imp]
    refine ⟨hb, hK _ ?_⟩
    repeat' (first | refine run_seq ?_ | refine run_skip ?_ | (refine run_region fun K hK => ?_; (try (simp (maxSteps := 10000000) only [C83r0, C83r1, C83r2, C83r3, rwp_nil, rwp_cons, rwpK_app, aop, gpath, St.get, slotAt, sfx, eqP, segsOf, St.put, addBlk, getB, setB, delB, ld1, ldn, st1, stn, setRow, rowNeed, segAt, nsub, bin, un, eqB, isShift, sameK, arith, shiftR, getsl, selB_or, selB_and, beqb, shed, addN, Nat.beq, Seg.size, sizes, imp, needP, andN, appL, argsOf, ptrsOf, aasOf, cut, takeS, dropS, putS, partsOf, fillS, fieldOf, nthA, negIf, nilq, nilB, eqS, eqF, eqS1, andP, kin, slcS, strOk, plusA, bndHi, leN, optG, roH, roL, initT, exOk, exAll, wrAddr, Nat.reduceAdd, Nat.reduceSub, Nat.reduceMul, Int.reduceToNat, List.append_nil, List.nil_append, List.cons_append, mapR, mapR1, keyL, keyOk, keyP, colsPut, colsDel, zcols, eqT, idxT, cat, cpy, ite_int, ite_bool, ite_seg, ite_segs, ite_nil, ite_twice, Int.toNat_natCast, app, addBs, tob])); (repeat (first | (refine And.intro ?_ ?_; · first | trivial | assumption | omega))); with_reducible refine hK _ ?_; clear hK K) | (refine run_cond rfl (fun hc => ?_) (fun hc => ?_) <;> try (simp only [*, Bool.true_eq_false, Bool.false_eq_true, Bool.not_true, Bool.not_false, Bool.true_or, Bool.or_true, Bool.false_or, Bool.or_false, Bool.false_and, Bool.and_false, bne_self_eq_false, beq_self_eq_true] at hc; done)) | refine run_ret ?_ | refine run_nil ?_)
    exact end_tmp1 rfl ⟨rfl, rfl⟩ rfl ⟨by unfold f58; rw [if_neg hb], rfl⟩
theorem con84 (a b : Int) (H : Heap) : Con Try.prog 84 [.c (.int .u64 a), .c (.int .u64 b)] H (fun v H' => v = .c (.int .u64 (f59 a b)) ∧ H' = H) := by
  refine Con.pure ?_ (by simp only [leArgs, leV, leV1, leC, and_self]) rfl H
  (refine con_of_run mixed (fn := Try.f84) (by kernel_rfl) (by kernel_rfl) C84_ok (rs := [.tmp 4]) (by kernel_rfl) (Nat.le_of_ble_eq_true (by kernel_rfl)) ?_; unfold C84; simp only [initT, Nat.reduceAdd])
  repeat' (first | refine run_seq ?_ | refine run_skip ?_ | (refine run_region fun K hK => ?_; (try (simp (maxSteps := 10000000) only [ne_eq, C84r0, C84r1, C84r2, C84r3, C84r4, C84r5, C84r6, rwp_nil, rwp_cons, aop, gpath, St.get, slotAt, sfx, eqP, St.put, addBlk, bin, un, isShift, sameK, arith, shed, imp])); (repeat (first | (refine And.intro ?_ ?_; · first | trivial | assumption | omega))); with_reducible refine hK _ ?_; clear hK K) | (refine run_cond rfl (fun hc => ?_) (fun hc => ?_) <;> try (simp only [*, Bool.true_eq_false, Bool.false_eq_true, Bool.not_true, Bool.not_false, Bool.true_or, Bool.or_true, Bool.false_or, Bool.or_false, Bool.false_and, Bool.and_false, bne_self_eq_false, beq_self_eq_true] at hc; done)) | refine run_block ?_ | refine run_ret ?_ | refine run_nil ?_ | refine blk_normal ?_ | refine blk_ret ?_ | refine blk_here ?_ | refine blk_there rfl ?_)
  · exact end_tmp1 rfl ⟨rfl, rfl⟩ rfl ⟨by have : IntKind.i64.wrap b = 0 := by simpa using hc
                                          unfold f59; rw [if_pos this], rfl⟩
  · rename_i hc1
    have h1 : ¬ IntKind.i64.wrap b = 0 := by simpa using hc1
    have h2 : IntKind.i64.wrap b = -1 := by simpa using hc
    exact end_tmp1 rfl ⟨rfl, rfl⟩ rfl ⟨by unfold f59; rw [if_neg h1, if_pos h2], rfl⟩
  · rename_i hc1
    have h1 : ¬ IntKind.i64.wrap b = 0 := by simpa using hc1
    have h2 : ¬ IntKind.i64.wrap b = -1 := by simpa using hc
    refine run_region fun K hK => ?_
    simp (maxSteps := 10000000) only [ne_eq, C84r6, rwp_nil, rwp_cons, aop, gpath, St.get, slotAt, sfx, eqP, St.put, addBlk, bin, isShift, sameK, arith, shed, imp]
    refine ⟨h1, hK _ ?_⟩
    repeat' (first | refine run_seq ?_ | refine run_skip ?_ | (refine run_region fun K hK => ?_; (try (simp (maxSteps := 10000000) only [C84r0, C84r1, C84r2, C84r3, C84r4, C84r5, C84r6, rwp_nil, rwp_cons, rwpK_app, aop, gpath, St.get, slotAt, sfx, eqP, segsOf, St.put, addBlk, getB, setB, delB, ld1, ldn, st1, stn, setRow, rowNeed, segAt, nsub, bin, un, eqB, isShift, sameK, arith, shiftR, getsl, selB_or, selB_and, beqb, shed, addN, Nat.beq, Seg.size, sizes, imp, needP, andN, appL, argsOf, ptrsOf, aasOf, cut, takeS, dropS, putS, partsOf, fillS, fieldOf, nthA, negIf, nilq, nilB, eqS, eqF, eqS1, andP, kin, slcS, strOk, plusA, bndHi, leN, optG, roH, roL, initT, exOk, exAll, wrAddr, Nat.reduceAdd, Nat.reduceSub, Nat.reduceMul, Int.reduceToNat, List.append_nil, List.nil_append, List.cons_append, mapR, mapR1, keyL, keyOk, keyP, colsPut, colsDel, zcols, eqT, idxT, cat, cpy, ite_int, ite_bool, ite_seg, ite_segs, ite_nil, ite_twice, Int.toNat_natCast, app, addBs, tob])); (repeat (first | (refine And.intro ?_ ?_; · first | trivial | assumption | omega))); with_reducible refine hK _ ?_; clear hK K) | (refine run_cond rfl (fun hc => ?_) (fun hc => ?_) <;> try (simp only [*, Bool.true_eq_false, Bool.false_eq_true, Bool.not_true, Bool.not_false, Bool.true_or, Bool.or_true, Bool.false_or, Bool.or_false, Bool.false_and, Bool.and_false, bne_self_eq_false, beq_self_eq_true] at hc; done)) | refine run_block ?_ | refine run_ret ?_ | refine run_nil ?_ | refine blk_normal ?_ | refine blk_ret ?_ | refine blk_here ?_ | refine blk_there rfl ?_)
    exact end_tmp1 rfl ⟨rfl, rfl⟩ rfl ⟨by unfold f59; rw [if_neg h1, if_neg h2], rfl⟩
theorem con85 (a b : Int) (H : Heap) : Con Try.prog 85 [.c (.int .u64 a), .c (.int .u64 b)] H (fun v H' => v = .c (.int .u64 (f60 a b)) ∧ H' = H) := by
  refine Con.pure ?_ (by simp only [leArgs, leV, leV1, leC, and_self]) rfl H
  (refine con_of_run mixed (fn := Try.f85) (by kernel_rfl) (by kernel_rfl) C85_ok (rs := [.tmp 4]) (by kernel_rfl) (Nat.le_of_ble_eq_true (by kernel_rfl)) ?_; unfold C85; simp only [initT, Nat.reduceAdd])
  repeat' (first | refine run_seq ?_ | (refine run_region fun K hK => ?_; (try (simp (maxSteps := 10000000) only [wrap_nonneg, true_and, C85r0, C85r1, rwp_nil, rwp_cons, aop, gpath, St.get, slotAt, sfx, eqP, St.put, addBlk, bin, isShift, sameK, arith, shiftR, shed, imp])); (repeat (first | (refine And.intro ?_ ?_; · first | trivial | assumption | omega))); with_reducible refine hK _ ?_; clear hK K) | refine run_ret ?_ | refine run_nil ?_)
  exact end_tmp1 rfl ⟨rfl, rfl⟩ rfl ⟨rfl, rfl⟩
theorem con86 (a b : Int) (H : Heap) : Con Try.prog 86 [.c (.int .u64 a), .c (.int .u64 b)] H (fun v H' => v = .c (.int .u64 (f61 a b)) ∧ H' = H) := by
  refine Con.pure ?_ (by simp only [leArgs, leV, leV1, leC, and_self]) rfl H
  (refine con_of_run mixed (fn := Try.f86) (by kernel_rfl) (by kernel_rfl) C86_ok (rs := [.tmp 4]) (by kernel_rfl) (Nat.le_of_ble_eq_true (by kernel_rfl)) ?_; unfold C86; simp only [initT, Nat.reduceAdd])
  repeat' (first | refine run_seq ?_ | (refine run_region fun K hK => ?_; (try (simp (maxSteps := 10000000) only [wrap_nonneg, true_and, C86r0, C86r1, rwp_nil, rwp_cons, aop, gpath, St.get, slotAt, sfx, eqP, St.put, addBlk, bin, isShift, sameK, arith, shiftR, shed, imp])); (repeat (first | (refine And.intro ?_ ?_; · first | trivial | assumption | omega))); with_reducible refine hK _ ?_; clear hK K) | refine run_ret ?_ | refine run_nil ?_)
  exact end_tmp1 rfl ⟨rfl, rfl⟩ rfl ⟨rfl, rfl⟩
theorem con87 (a b : Int) (H : Heap) : Con Try.prog 87 [.c (.int .u64 a), .c (.int .u64 b)] H (fun v H' => v = .c (.int .u64 (f62 a b)) ∧ H' = H) := by
  refine Con.pure ?_ (by simp only [leArgs, leV, leV1, leC, and_self]) rfl H
  (refine con_of_run mixed (fn := Try.f87) (by kernel_rfl) (by kernel_rfl) C87_ok (rs := [.tmp 4]) (by kernel_rfl) (Nat.le_of_ble_eq_true (by kernel_rfl)) ?_; unfold C87; simp only [initT, Nat.reduceAdd])
  repeat' (first | refine run_seq ?_ | (refine run_region fun K hK => ?_; (try (simp (maxSteps := 10000000) only [wrap_nonneg, true_and, C87r0, C87r1, rwp_nil, rwp_cons, aop, gpath, St.get, slotAt, sfx, eqP, St.put, addBlk, bin, isShift, sameK, arith, shiftR, shed, imp])); (repeat (first | (refine And.intro ?_ ?_; · first | trivial | assumption | omega))); with_reducible refine hK _ ?_; clear hK K) | refine run_ret ?_ | refine run_nil ?_)
  exact end_tmp1 rfl ⟨rfl, rfl⟩ rfl ⟨rfl, rfl⟩
theorem con88 (a b : Int) (H : Heap) : Con Try.prog 88 [.c (.int .u64 a), .c (.int .u64 b)] H (fun v H' => v = .c (.int .u64 (f63 a b)) ∧ H' = H) := by
  refine Con.pure ?_ (by simp only [leArgs, leV, leV1, leC, and_self]) rfl H
  (refine con_of_run mixed (fn := Try.f88) (by kernel_rfl) (by kernel_rfl) C88_ok (rs := [.tmp 4]) (by kernel_rfl) (Nat.le_of_ble_eq_true (by kernel_rfl)) ?_; unfold C88; simp only [initT, Nat.reduceAdd])
  refine run_seq ?_
  refine run_region fun K hK => ?_
  simp (maxSteps := 10000000) only [C88r0, rwp_nil, rwp_cons, aop, gpath, St.get, St.put, addBlk, shed]
  refine hK _ ?_
  clear hK K
  refine run_seq ?_
  refine run_region fun K hK => ?_
  simp (maxSteps := 10000000) only [C88r1, rwp_cons, aop, gpath, St.get, slotAt, sfx, eqP, St.put, addBlk, bin, un, isShift, sameK, arith, appL, argsOf, ptrsOf]
  refine call_t _ (con101 _ _ _) ?_
  rintro v H' ⟨rfl, rfl⟩
  simp (maxSteps := 10000000) only [rwp_nil, rwp_cons, rwpK_app, aop, gpath, St.get, slotAt, sfx, eqP, St.put, addBlk, shed]
  refine hK _ ?_
  clear hK K
  repeat' (first | refine run_seq ?_ | (refine run_region fun K hK => ?_; (try (simp (maxSteps := 10000000) only [C88r0, C88r1, rwp_nil, rwp_cons, rwpK_app, aop, gpath, St.get, slotAt, sfx, eqP, segsOf, St.put, addBlk, getB, setB, delB, ld1, ldn, st1, stn, setRow, rowNeed, segAt, nsub, bin, un, eqB, isShift, sameK, arith, shiftR, getsl, selB_or, selB_and, beqb, shed, addN, Nat.beq, Seg.size, sizes, imp, needP, andN, appL, argsOf, ptrsOf, aasOf, cut, takeS, dropS, putS, partsOf, fillS, fieldOf, nthA, negIf, nilq, nilB, eqS, eqF, eqS1, andP, kin, slcS, strOk, plusA, bndHi, leN, optG, roH, roL, initT, exOk, exAll, wrAddr, Nat.reduceAdd, Nat.reduceSub, Nat.reduceMul, Int.reduceToNat, List.append_nil, List.nil_append, List.cons_append, mapR, mapR1, keyL, keyOk, keyP, colsPut, colsDel, zcols, eqT, idxT, cat, cpy, ite_int, ite_bool, ite_seg, ite_segs, ite_nil, ite_twice, Int.toNat_natCast, app, addBs, tob])); (repeat (first | (refine And.intro ?_ ?_; · first | trivial | assumption | omega))); with_reducible refine hK _ ?_; clear hK K) | refine run_ret ?_ | refine run_nil ?_)
  exact end_tmp1 rfl ⟨rfl, rfl⟩ rfl ⟨rfl, rfl⟩
theorem con89 (a b : Int) (H : Heap) : Con Try.prog 89 [.c (.int .u64 a), .c (.int .u64 b)] H (fun v H' => v = .c (.int .u64 (f64 a b)) ∧ H' = H) := by
  refine Con.pure ?_ (by simp only [leArgs, leV, leV1, leC, and_self]) rfl H
  (refine con_of_run mixed (fn := Try.f89) (by kernel_rfl) (by kernel_rfl) C89_ok (rs := [.tmp 4]) (by kernel_rfl) (Nat.le_of_ble_eq_true (by kernel_rfl)) ?_; unfold C89; simp only [initT, Nat.reduceAdd])
  refine run_seq ?_
  refine run_region fun K hK => ?_
  simp (maxSteps := 10000000) only [C89r0, rwp_nil, rwp_cons, aop, gpath, St.get, St.put, addBlk, shed]
  refine hK _ ?_
  clear hK K
  refine run_seq ?_
  refine run_region fun K hK => ?_
  simp (maxSteps := 10000000) only [C89r1, rwp_cons, aop, gpath, St.get, slotAt, sfx, eqP, St.put, addBlk, bin, isShift, sameK, arith, appL, argsOf, ptrsOf]
  refine call_t _ (con102 _ _) ?_
  rintro v H' ⟨rfl, rfl⟩
  simp (maxSteps := 10000000) only [rwp_nil, rwp_cons, rwpK_app, aop, gpath, St.get, slotAt, sfx, eqP, St.put, addBlk, shed]
  refine hK _ ?_
  clear hK K
  repeat' (first | refine run_seq ?_ | (refine run_region fun K hK => ?_; (try (simp (maxSteps := 10000000) only [C89r0, C89r1, rwp_nil, rwp_cons, rwpK_app, aop, gpath, St.get, slotAt, sfx, eqP, segsOf, St.put, addBlk, getB, setB, delB, ld1, ldn, st1, stn, setRow, rowNeed, segAt, nsub, bin, un, eqB, isShift, sameK, arith, shiftR, getsl, selB_or, selB_and, beqb, shed, addN, Nat.beq, Seg.size, sizes, imp, needP, andN, appL, argsOf, ptrsOf, aasOf, cut, takeS, dropS, putS, partsOf, fillS, fieldOf, nthA, negIf, nilq, nilB, eqS, eqF, eqS1, andP, kin, slcS, strOk, plusA, bndHi, leN, optG, roH, roL, initT, exOk, exAll, wrAddr, Nat.reduceAdd, Nat.reduceSub, Nat.reduceMul, Int.reduceToNat, List.append_nil, List.nil_append, List.cons_append, mapR, mapR1, keyL, keyOk, keyP, colsPut, colsDel, zcols, eqT, idxT, cat, cpy, ite_int, ite_bool, ite_seg, ite_segs, ite_nil, ite_twice, Int.toNat_natCast, app, addBs, tob])); (repeat (first | (refine And.intro ?_ ?_; · first | trivial | assumption | omega))); with_reducible refine hK _ ?_; clear hK K) | refine run_ret ?_ | refine run_nil ?_)
  exact end_tmp1 rfl ⟨rfl, rfl⟩ rfl ⟨rfl, rfl⟩
theorem con90 (a b : Int) (H : Heap) : Con Try.prog 90 [.c (.int .u64 a), .c (.int .u64 b)] H (fun v H' => v = .c (.int .u64 (f65 a b)) ∧ H' = H) := by
  refine Con.pure ?_ (by simp only [leArgs, leV, leV1, leC, and_self]) rfl H
  (refine con_of_run mixed (fn := Try.f90) (by kernel_rfl) (by kernel_rfl) C90_ok (rs := [.tmp 4]) (by kernel_rfl) (Nat.le_of_ble_eq_true (by kernel_rfl)) ?_; unfold C90; simp only [initT, Nat.reduceAdd])
  refine run_seq ?_
  refine run_region fun K hK => ?_
  simp (maxSteps := 10000000) only [C90r0, rwp_nil, rwp_cons, aop, gpath, St.get, St.put, addBlk, shed]
  refine hK _ ?_
  clear hK K
  refine run_seq ?_
  refine run_region fun K hK => ?_
  simp (maxSteps := 10000000) only [C90r1, rwp_cons, aop, gpath, St.get, slotAt, sfx, eqP, St.put, addBlk, bin, isShift, sameK, arith, appL, argsOf, ptrsOf]
  refine call_t _ (con102 _ _) ?_
  rintro v H' ⟨rfl, rfl⟩
  simp (maxSteps := 10000000) only [rwp_nil, rwp_cons, rwpK_app, aop, gpath, St.get, slotAt, sfx, eqP, St.put, addBlk, shed]
  refine hK _ ?_
  clear hK K
  repeat' (first | refine run_seq ?_ | (refine run_region fun K hK => ?_; (try (simp (maxSteps := 10000000) only [C90r0, C90r1, rwp_nil, rwp_cons, rwpK_app, aop, gpath, St.get, slotAt, sfx, eqP, segsOf, St.put, addBlk, getB, setB, delB, ld1, ldn, st1, stn, setRow, rowNeed, segAt, nsub, bin, un, eqB, isShift, sameK, arith, shiftR, getsl, selB_or, selB_and, beqb, shed, addN, Nat.beq, Seg.size, sizes, imp, needP, andN, appL, argsOf, ptrsOf, aasOf, cut, takeS, dropS, putS, partsOf, fillS, fieldOf, nthA, negIf, nilq, nilB, eqS, eqF, eqS1, andP, kin, slcS, strOk, plusA, bndHi, leN, optG, roH, roL, initT, exOk, exAll, wrAddr, Nat.reduceAdd, Nat.reduceSub, Nat.reduceMul, Int.reduceToNat, List.append_nil, List.nil_append, List.cons_append, mapR, mapR1, keyL, keyOk, keyP, colsPut, colsDel, zcols, eqT, idxT, cat, cpy, ite_int, ite_bool, ite_seg, ite_segs, ite_nil, ite_twice, Int.toNat_natCast, app, addBs, tob])); (repeat (first | (refine And.intro ?_ ?_; · first | trivial | assumption | omega))); with_reducible refine hK _ ?_; clear hK K) | refine run_ret ?_ | refine run_nil ?_)
  exact end_tmp1 rfl ⟨rfl, rfl⟩ rfl ⟨rfl, rfl⟩
theorem con91 (a b : Int) (H : Heap) : Con Try.prog 91 [.c (.int .u64 a), .c (.int .u64 b)] H (fun v H' => v = .c (.int .u64 (f66 a b)) ∧ H' = H) := by
  refine Con.pure ?_ (by simp only [leArgs, leV, leV1, leC, and_self]) rfl H
  (refine con_of_run mixed (fn := Try.f91) (by kernel_rfl) (by kernel_rfl) C91_ok (rs := [.tmp 4]) (by kernel_rfl) (Nat.le_of_ble_eq_true (by kernel_rfl)) ?_; unfold C91; simp only [initT, Nat.reduceAdd])
  refine run_seq ?_
  refine run_region fun K hK => ?_
  simp (maxSteps := 10000000) only [C91r0, rwp_nil, rwp_cons, aop, gpath, St.get, St.put, addBlk, shed]
  refine hK _ ?_
  clear hK K
  refine run_seq ?_
  refine run_region fun K hK => ?_
  simp (maxSteps := 10000000) only [C91r1, rwp_cons, aop, gpath, St.get, slotAt, sfx, eqP, St.put, addBlk, bin, isShift, sameK, arith, appL, argsOf, ptrsOf]
  refine call_t _ (con102 _ _) ?_
  rintro v H' ⟨rfl, rfl⟩
  simp (maxSteps := 10000000) only [rwp_nil, rwp_cons, rwpK_app, aop, gpath, St.get, slotAt, sfx, eqP, St.put, addBlk, shed]
  refine hK _ ?_
  clear hK K
  repeat' (first | refine run_seq ?_ | (refine run_region fun K hK => ?_; (try (simp (maxSteps := 10000000) only [C91r0, C91r1, rwp_nil, rwp_cons, rwpK_app, aop, gpath, St.get, slotAt, sfx, eqP, segsOf, St.put, addBlk, getB, setB, delB, ld1, ldn, st1, stn, setRow, rowNeed, segAt, nsub, bin, un, eqB, isShift, sameK, arith, shiftR, getsl, selB_or, selB_and, beqb, shed, addN, Nat.beq, Seg.size, sizes, imp, needP, andN, appL, argsOf, ptrsOf, aasOf, cut, takeS, dropS, putS, partsOf, fillS, fieldOf, nthA, negIf, nilq, nilB, eqS, eqF, eqS1, andP, kin, slcS, strOk, plusA, bndHi, leN, optG, roH, roL, initT, exOk, exAll, wrAddr, Nat.reduceAdd, Nat.reduceSub, Nat.reduceMul, Int.reduceToNat, List.append_nil, List.nil_append, List.cons_append, mapR, mapR1, keyL, keyOk, keyP, colsPut, colsDel, zcols, eqT, idxT, cat, cpy, ite_int, ite_bool, ite_seg, ite_segs, ite_nil, ite_twice, Int.toNat_natCast, app, addBs, tob])); (repeat (first | (refine And.intro ?_ ?_; · first | trivial | assumption | omega))); with_reducible refine hK _ ?_; clear hK K) | refine run_ret ?_ | refine run_nil ?_)
  exact end_tmp1 rfl ⟨rfl, rfl⟩ rfl ⟨rfl, rfl⟩
def howV (k : Int) : CV :=
  if k = 1 then .fn 77 [] [] else if k = 2 then .fn 78 [] [] else if k = 3 then .fn 79 [] [] else if k = 4 then .fn 80 [] [] else if k = 5 then .fn 81 [] [] else
  if k = 6 then .fn 82 [] [] else if k = 7 then .fn 83 [] [] else if k = 8 then .fn 84 [] [] else if k = 9 then .fn 85 [] [] else if k = 10 then .fn 86 [] [] else
  if k = 11 then .fn 87 [] [] else if k = 12 then .fn 88 [] [] else if k = 13 then .fn 89 [] [] else if k = 14 then .fn 90 [] [] else if k = 15 then .fn 91 [] [] else .nilfn
theorem howV_cases (k : Int) : (∃ f, howV k = .fn f [] []) ∨ howV k = .nilfn := by
  unfold howV
  by_cases h1 : k = 1
  · exact .inl ⟨_, if_pos h1⟩
  rw [if_neg h1]
  by_cases h2 : k = 2
  · exact .inl ⟨_, if_pos h2⟩
  rw [if_neg h2]
  by_cases h3 : k = 3
  · exact .inl ⟨_, if_pos h3⟩
  rw [if_neg h3]
  by_cases h4 : k = 4
  · exact .inl ⟨_, if_pos h4⟩
  rw [if_neg h4]
  by_cases h5 : k = 5
  · exact .inl ⟨_, if_pos h5⟩
  rw [if_neg h5]
  by_cases h6 : k = 6
  · exact .inl ⟨_, if_pos h6⟩
  rw [if_neg h6]
  by_cases h7 : k = 7
  · exact .inl ⟨_, if_pos h7⟩
  rw [if_neg h7]
  by_cases h8 : k = 8
  · exact .inl ⟨_, if_pos h8⟩
  rw [if_neg h8]
  by_cases h9 : k = 9
  · exact .inl ⟨_, if_pos h9⟩
  rw [if_neg h9]
  by_cases h10 : k = 10
  · exact .inl ⟨_, if_pos h10⟩
  rw [if_neg h10]
  by_cases h11 : k = 11
  · exact .inl ⟨_, if_pos h11⟩
  rw [if_neg h11]
  by_cases h12 : k = 12
  · exact .inl ⟨_, if_pos h12⟩
  rw [if_neg h12]
  by_cases h13 : k = 13
  · exact .inl ⟨_, if_pos h13⟩
  rw [if_neg h13]
  by_cases h14 : k = 14
  · exact .inl ⟨_, if_pos h14⟩
  rw [if_neg h14]
  by_cases h15 : k = 15
  · exact .inl ⟨_, if_pos h15⟩
  rw [if_neg h15]
  exact .inr rfl
theorem howV_map (k : Int) : mapV (fun i => i) (.c (howV k)) = .c (howV k) := by
  rcases howV_cases k with ⟨f, h⟩ | h <;> rw [h] <;> rfl
theorem con52 (k : Int) (H : Heap) : Con Try.prog 52 [.c (.int .i64 k)] H (fun v H' => v = .c (howV k) ∧ H' = H) := by
  refine Con.pure ?_ (by simp only [leArgs, leV, leV1, leC, and_self]) (howV_map k) H
  (refine con_of_run mixed (fn := Try.f52) (by kernel_rfl) (by kernel_rfl) C52_ok (rs := [.tmp 2]) (by kernel_rfl) (Nat.le_of_ble_eq_true (by kernel_rfl)) ?_; unfold C52; simp only [initT])
  repeat' (first | refine run_seq ?_ | refine run_skip ?_ | (refine run_region fun K hK => ?_; (try (simp (maxSteps := 10000000) only [C52r0, C52r1, C52r2, C52r3, C52r4, C52r5, C52r6, C52r7, C52r8, C52r9, C52r10, C52r11, C52r12, C52r13, C52r14, C52r15, C52r16, C52r17, C52r18, C52r19, C52r20, C52r21, C52r22, C52r23, C52r24, C52r25, C52r26, C52r27, C52r28, C52r29, C52r30, C52r31, C52r32, rwp_nil, rwp_cons, aop, gpath, St.get, slotAt, sfx, eqP, St.put, addBlk, bin, isShift, sameK, arith, shed])); (repeat (first | (refine And.intro ?_ ?_; · first | trivial | assumption | omega))); with_reducible refine hK _ ?_; clear hK K) | (refine run_cond rfl (fun hc => ?_) (fun hc => ?_) <;> try (simp only [*, Bool.true_eq_false, Bool.false_eq_true, Bool.not_true, Bool.not_false, Bool.true_or, Bool.or_true, Bool.false_or, Bool.or_false, Bool.false_and, Bool.and_false, bne_self_eq_false, beq_self_eq_true] at hc; done)) | refine run_block ?_ | refine run_ret ?_ | refine run_nil ?_ | refine blk_normal ?_ | refine blk_ret ?_ | refine blk_here ?_ | refine blk_there rfl ?_)
  all_goals refine end_tmp1 rfl ?_ rfl ⟨?_, rfl⟩
  all_goals first | exact trivial | exact ⟨rfl, trivial, trivial⟩ | skip
  all_goals simp only [beq_iff_eq, beq_eq_false_iff_ne, ne_eq] at *
  all_goals simp only [howV, *, if_true, if_false]
  all_goals first | rfl | (subst_vars; rfl)
theorem reck {k : Int} {f : FuncId} {g : Int → Int → Int} (hk : howV k = .fn f [] []) (hf : ∀ a b H, Con Try.prog f [.c (.int .u64 a), .c (.int .u64 b)] H (fun v H' => v = .c (.int .u64 (g a b)) ∧ H' = H)) (a b : Int) (H : Heap) :
    Con Try.prog 31 [.c (.int .i64 k), .c (.int .u64 a), .c (.int .u64 b)] H (fun v H' => v = .tup [.c (.int .u64 (g a b)), .c (.int .i64 0)] ∧ H' = H) := by
  refine Con.pure ?_ (by simp only [leArgs, leV, leV1, leC, and_self]) rfl H
  (refine con_of_run mixed (fn := Try.f31) (by kernel_rfl) (by kernel_rfl) C31_ok (rs := [.tmp 6, .tmp 7]) (by kernel_rfl) (Nat.le_of_ble_eq_true (by kernel_rfl)) ?_; unfold C31; simp only [initT, Nat.reduceAdd])
  repeat' (first | refine run_seq ?_ | refine run_skip ?_ | (refine run_region fun K hK => ?_; (try (simp (maxSteps := 10000000) only [C31r0, C31r1, rwp_nil, rwp_cons, aop, gpath, St.get, slotAt, sfx, eqP, St.put, addBlk, shed, appL, argsOf, ptrsOf])); (repeat (first | (refine And.intro ?_ ?_; · first | trivial | assumption | omega))); with_reducible refine hK _ ?_; clear hK K) | (refine run_cond rfl (fun hc => ?_) (fun hc => ?_) <;> try (simp only [*, Bool.true_eq_false, Bool.false_eq_true, Bool.not_true, Bool.not_false, Bool.true_or, Bool.or_true, Bool.false_or, Bool.or_false, Bool.false_and, Bool.and_false, bne_self_eq_false, beq_self_eq_true] at hc; done)) | refine run_ret ?_ | refine run_nil ?_)
  refine run_region fun K hK => ?_
  simp (maxSteps := 10000000) only [C31r1, rwp_cons, aop, gpath, St.get, slotAt, sfx, eqP, St.put, addBlk, appL, argsOf, ptrsOf]
  refine call_t _ (con52 k _) ?_
  rintro v H' ⟨rfl, rfl⟩
  rw [hk]
  simp (maxSteps := 10000000) only [rwp_nil, rwp_cons, rwpK_app, aop, gpath, St.get, slotAt, sfx, eqP, St.put, addBlk, shed]
  refine hK _ ?_
  clear hK K
  repeat' (first | refine run_seq ?_ | refine run_skip ?_ | (refine run_region fun K hK => ?_; (try (simp (maxSteps := 10000000) only [C31r2, C31r4, rwp_nil, rwp_cons, aop, gpath, St.get, slotAt, sfx, eqP, St.put, addBlk, shed, appL, argsOf, ptrsOf, negIf, nilq, nilB])); (repeat (first | (refine And.intro ?_ ?_; · first | trivial | assumption | omega))); with_reducible refine hK _ ?_; clear hK K) | (refine run_cond rfl (fun hc => ?_) (fun hc => ?_) <;> try (simp only [*, Bool.false_eq_true] at hc; done)) | refine run_ret ?_ | refine run_nil ?_)
  refine run_region fun K hK => ?_
  simp (maxSteps := 10000000) only [C31r4, rwp_cons, aop, gpath, St.get, slotAt, sfx, eqP, St.put, addBlk, appL, argsOf, ptrsOf]
  refine call_t _ (hf _ _ _) ?_
  rintro v H' ⟨rfl, rfl⟩
  simp (maxSteps := 10000000) only [rwp_nil, rwp_cons, rwpK_app, aop, gpath, St.get, slotAt, sfx, eqP, St.put, addBlk, shed]
  refine hK _ ?_
  clear hK K
  repeat' (first | refine run_seq ?_ | refine run_skip ?_ | (refine run_region fun K hK => ?_; (try (simp (maxSteps := 10000000) only [C31r0, C31r1, C31r2, C31r3, C31r4, rwp_nil, rwp_cons, rwpK_app, aop, gpath, St.get, slotAt, sfx, eqP, segsOf, St.put, addBlk, getB, setB, delB, ld1, ldn, st1, stn, setRow, rowNeed, segAt, nsub, bin, un, eqB, isShift, sameK, arith, shiftR, getsl, selB_or, selB_and, beqb, shed, addN, Nat.beq, Seg.size, sizes, imp, needP, andN, appL, argsOf, ptrsOf, aasOf, cut, takeS, dropS, putS, partsOf, fillS, fieldOf, nthA, negIf, nilq, nilB, eqS, eqF, eqS1, andP, kin, slcS, strOk, plusA, bndHi, leN, optG, roH, roL, initT, exOk, exAll, wrAddr, Nat.reduceAdd, Nat.reduceSub, Nat.reduceMul, Int.reduceToNat, List.append_nil, List.nil_append, List.cons_append, mapR, mapR1, keyL, keyOk, keyP, colsPut, colsDel, zcols, eqT, idxT, cat, cpy, ite_int, ite_bool, ite_seg, ite_segs, ite_nil, ite_twice, Int.toNat_natCast, app, addBs, tob])); (repeat (first | (refine And.intro ?_ ?_; · first | trivial | assumption | omega))); with_reducible refine hK _ ?_; clear hK K) | (refine run_cond rfl (fun hc => ?_) (fun hc => ?_) <;> try (simp only [*, Bool.true_eq_false, Bool.false_eq_true, Bool.not_true, Bool.not_false, Bool.true_or, Bool.or_true, Bool.false_or, Bool.or_false, Bool.false_and, Bool.and_false, bne_self_eq_false, beq_self_eq_true] at hc; done)) | refine run_ret ?_ | refine run_nil ?_)
  exact end_tmp2 rfl rfl rfl ⟨rfl, rfl⟩ ⟨rfl, rfl⟩ rfl rfl ⟨rfl, rfl⟩
theorem reck0 {k : Int} (hk : howV k = .nilfn) (a b : Int) (H : Heap) :
    Con Try.prog 31 [.c (.int .i64 k), .c (.int .u64 a), .c (.int .u64 b)] H (fun v H' => v = .tup [.c (.int .u64 0), .c (.int .i64 1)] ∧ H' = H) := by
  refine Con.pure ?_ (by simp only [leArgs, leV, leV1, leC, and_self]) rfl H
  (refine con_of_run mixed (fn := Try.f31) (by kernel_rfl) (by kernel_rfl) C31_ok (rs := [.tmp 6, .tmp 7]) (by kernel_rfl) (Nat.le_of_ble_eq_true (by kernel_rfl)) ?_; unfold C31; simp only [initT, Nat.reduceAdd])
  repeat' (first | refine run_seq ?_ | refine run_skip ?_ | (refine run_region fun K hK => ?_; (try (simp (maxSteps := 10000000) only [C31r0, C31r1, rwp_nil, rwp_cons, aop, gpath, St.get, slotAt, sfx, eqP, St.put, addBlk, shed, appL, argsOf, ptrsOf])); (repeat (first | (refine And.intro ?_ ?_; · first | trivial | assumption | omega))); with_reducible refine hK _ ?_; clear hK K) | (refine run_cond rfl (fun hc => ?_) (fun hc => ?_) <;> try (simp only [*, Bool.true_eq_false, Bool.false_eq_true, Bool.not_true, Bool.not_false, Bool.true_or, Bool.or_true, Bool.false_or, Bool.or_false, Bool.false_and, Bool.and_false, bne_self_eq_false, beq_self_eq_true] at hc; done)) | refine run_ret ?_ | refine run_nil ?_)
  refine run_region fun K hK => ?_
  simp (maxSteps := 10000000) only [C31r1, rwp_cons, aop, gpath, St.get, slotAt, sfx, eqP, St.put, addBlk, appL, argsOf, ptrsOf]
  refine call_t _ (con52 k _) ?_
  rintro v H' ⟨rfl, rfl⟩
  rw [hk]
  simp (maxSteps := 10000000) only [rwp_nil, rwp_cons, rwpK_app, aop, gpath, St.get, slotAt, sfx, eqP, St.put, addBlk, shed]
  refine hK _ ?_
  clear hK K
  repeat' (first | refine run_seq ?_ | refine run_skip ?_ | (refine run_region fun K hK => ?_; (try (simp (maxSteps := 10000000) only [C31r2, C31r3, rwp_nil, rwp_cons, aop, gpath, St.get, slotAt, sfx, eqP, St.put, addBlk, shed, negIf, nilq, nilB])); (repeat (first | (refine And.intro ?_ ?_; · first | trivial | assumption | omega))); with_reducible refine hK _ ?_; clear hK K) | (refine run_cond rfl (fun hc => ?_) (fun hc => ?_) <;> try (simp only [*, Bool.true_eq_false] at hc; done)) | refine run_ret ?_ | refine run_nil ?_)
  exact end_tmp2 rfl rfl rfl ⟨rfl, rfl⟩ ⟨rfl, rfl⟩ rfl rfl ⟨rfl, rfl⟩
def reckS (k a b : Int) : Int × Int :=
  if k = 1 then (f52 a b, 0) else if k = 2 then (f53 a b, 0) else if k = 3 then (f54 a b, 0) else if k = 4 then (f55 a b, 0) else if k = 5 then (f56 a b, 0) else if k = 6 then (f57 a b, 0) else if k = 7 then (f58 a b, 0) else if k = 8 then (f59 a b, 0) else if k = 9 then (f60 a b, 0) else if k = 10 then (f61 a b, 0) else if k = 11 then (f62 a b, 0) else if k = 12 then (f63 a b, 0) else if k = 13 then (f64 a b, 0) else if k = 14 then (f65 a b, 0) else if k = 15 then (f66 a b, 0) else (0, 1)
theorem con31 (k a b : Int) (H : Heap) : Con Try.prog 31 [.c (.int .i64 k), .c (.int .u64 a), .c (.int .u64 b)] H (fun v H' => v = .tup [.c (.int .u64 (reckS k a b).1), .c (.int .i64 (reckS k a b).2)] ∧ H' = H) := by
  by_cases h1 : k = 1
  · subst h1; exact reck (f := 77) (g := f52) (by simp [howV]) (fun a b H => con77 a b H) a b H
  by_cases h2 : k = 2
  · subst h2; exact reck (f := 78) (g := f53) (by simp [howV]) (fun a b H => con78 a b H) a b H
  by_cases h3 : k = 3
  · subst h3; exact reck (f := 79) (g := f54) (by simp [howV]) (fun a b H => con79 a b H) a b H
  by_cases h4 : k = 4
  · subst h4; exact reck (f := 80) (g := f55) (by simp [howV]) (fun a b H => con80 a b H) a b H
  by_cases h5 : k = 5
  · subst h5; exact reck (f := 81) (g := f56) (by simp [howV]) (fun a b H => con81 a b H) a b H
  by_cases h6 : k = 6
  · subst h6; exact reck (f := 82) (g := f57) (by simp [howV]) (fun a b H => con82 a b H) a b H
  by_cases h7 : k = 7
  · subst h7; exact reck (f := 83) (g := f58) (by simp [howV]) (fun a b H => con83 a b H) a b H
  by_cases h8 : k = 8
  · subst h8; exact reck (f := 84) (g := f59) (by simp [howV]) (fun a b H => con84 a b H) a b H
  by_cases h9 : k = 9
  · subst h9; exact reck (f := 85) (g := f60) (by simp [howV]) (fun a b H => con85 a b H) a b H
  by_cases h10 : k = 10
  · subst h10; exact reck (f := 86) (g := f61) (by simp [howV]) (fun a b H => con86 a b H) a b H
  by_cases h11 : k = 11
  · subst h11; exact reck (f := 87) (g := f62) (by simp [howV]) (fun a b H => con87 a b H) a b H
  by_cases h12 : k = 12
  · subst h12; exact reck (f := 88) (g := f63) (by simp [howV]) (fun a b H => con88 a b H) a b H
  by_cases h13 : k = 13
  · subst h13; exact reck (f := 89) (g := f64) (by simp [howV]) (fun a b H => con89 a b H) a b H
  by_cases h14 : k = 14
  · subst h14; exact reck (f := 90) (g := f65) (by simp [howV]) (fun a b H => con90 a b H) a b H
  by_cases h15 : k = 15
  · subst h15; exact reck (f := 91) (g := f66) (by simp [howV]) (fun a b H => con91 a b H) a b H
  have e : reckS k a b = (0, 1) := by simp only [reckS, if_neg h1, if_neg h2, if_neg h3, if_neg h4, if_neg h5, if_neg h6, if_neg h7, if_neg h8, if_neg h9, if_neg h10, if_neg h11, if_neg h12, if_neg h13, if_neg h14, if_neg h15]
  rw [e]
  exact reck0 (by simp only [howV, if_neg h1, if_neg h2, if_neg h3, if_neg h4, if_neg h5, if_neg h6, if_neg h7, if_neg h8, if_neg h9, if_neg h10, if_neg h11, if_neg h12, if_neg h13, if_neg h14, if_neg h15]) a b H
end Go.Proofs.Ytmbnakinhnkabaa

namespace Go.Proofs.Ytmbnakinhnkabaa
open Go.AM
set_option maxRecDepth 100000
set_option linter.unusedSimpArgs false
set_option linter.unusedVariables false
structure CoreS where
  x : Nat → Int
  sp : Nat → Int
  pc : Int
  n : Bool
  z : Bool
  c : Bool
  v : Bool
  el : Int
  mask : Bool
  q0 : Int
  q1 : Int
  q2 : Int
  q3 : Int
  q4 : Int
  q5 : Int
  id : Int
  wait : Int
  last : Bool
def coreL (c : CoreS) : List Seg := [.a 31 (fun i => .int .u64 (c.x i)), .a 2 (fun i => .int .u64 (c.sp i)), .c (.int .u64 c.pc), .c (.bool c.n), .c (.bool c.z), .c (.bool c.c), .c (.bool c.v), .c (.int .i64 c.el), .c (.bool c.mask), .c (.int .u64 c.q0), .c (.int .u64 c.q1), .c (.int .u64 c.q2), .c (.int .u64 c.q3), .c (.int .u64 c.q4), .c (.int .u64 c.q5), .c (.int .i64 c.id), .c (.int .i64 c.wait), .c (.bool c.last)]
structure WantS where
  kind : Int
  addr : Int
  value : Int
  acq : Int
  rel : Bool
  w5 : Int
  w6 : Bool
  w7 : Int
  w8 : Int
  w9 : Int
def wantL (w : WantS) : List Seg := [.c (.int .i64 w.kind), .c (.int .u64 w.addr), .c (.int .u64 w.value), .c (.int .i64 w.acq), .c (.bool w.rel), .c (.int .i64 w.w5), .c (.bool w.w6), .c (.int .i64 w.w7), .c (.int .i64 w.w8), .c (.int .i64 w.w9)]
structure RS where
  b : BlkS
  core : CoreS
  vs : Nat → Int
  pos : Nat
  waits : Bool
  want : WantS
  left : Bool
  faulted : Bool
  word : Int
  guest : Bool
def runL (s : RS) : List Seg := [.c (.int .u64 s.b.pc), .c (.int .i64 s.b.words), .c (.int .i64 s.b.el), .c (.slice ⟨1, 0, 0, 0⟩ false s.b.n), .a 31 (fun i => .int .u64 (s.core.x i)), .a 2 (fun i => .int .u64 (s.core.sp i)), .c (.int .u64 s.core.pc), .c (.bool s.core.n), .c (.bool s.core.z), .c (.bool s.core.c), .c (.bool s.core.v), .c (.int .i64 s.core.el), .c (.bool s.core.mask), .c (.int .u64 s.core.q0), .c (.int .u64 s.core.q1), .c (.int .u64 s.core.q2), .c (.int .u64 s.core.q3), .c (.int .u64 s.core.q4), .c (.int .u64 s.core.q5), .c (.int .i64 s.core.id), .c (.int .i64 s.core.wait), .c (.bool s.core.last), .c (.slice ⟨2, 0, 0, 0⟩ false s.b.n), .c (.int .i64 s.pos), .c (.bool s.waits), .c (.int .i64 s.want.kind), .c (.int .u64 s.want.addr), .c (.int .u64 s.want.value), .c (.int .i64 s.want.acq), .c (.bool s.want.rel), .c (.int .i64 s.want.w5), .c (.bool s.want.w6), .c (.int .i64 s.want.w7), .c (.int .i64 s.want.w8), .c (.int .i64 s.want.w9), .c (.bool s.left), .c (.bool s.faulted), .c (.int .u64 s.word), .c (.bool s.guest)]
def runB (s : RS) : Blk := ⟨70, none, fun _ => runL s, 54, true⟩
def runO (s : RS) : Blk := ⟨6, some s.b.n, fun i => opL (s.b.f i), 39, false⟩
def runV (s : RS) : Blk := ⟨1, some s.b.n, fun i => [.c (.int .u64 (s.vs i))], 22, true⟩
def runH (s : RS) : Heap := ⟨3, [(0, runB s), (1, runO s), (2, runV s)]⟩
def me : AV := .c (.ptr ⟨0, 0, 0, 0⟩)
theorem ids3 {l : List Nat} : idTo (0 :: 1 :: 2 :: l) 3 := by
  intro i h
  match i, h with
  | 0, _ => rfl
  | 1, _ => rfl
  | 2, _ => rfl
theorem diff3 : diff [0, 1, 2] := by simp only [diff, notIn, Nat.beq, and_self]
structure Ids3 (l : List Nat) : Prop where
  i0 : nthO l 0 = some 0
  i1 : nthO l 1 = some 1
  i2 : nthO l 2 = some 2
theorem ro_le {l : List Nat} (s : RS) : leB l (runO s) (runO s) := by
  refine ⟨rfl, rfl, id, Nat.le_refl _, fun i _ => ?_⟩
  simp only [runO, opL, leSegs, leSeg, leC, and_self]
theorem rv_le {l : List Nat} (s : RS) : leB l (runV s) (runV s) := by
  refine ⟨rfl, rfl, id, Nat.le_refl _, fun i _ => ?_⟩
  simp only [runV, leSegs, leSeg, leC, and_self]
theorem run_le {l : List Nat} (h : Ids3 l) (s : RS) : leB l (runB s) (runB s) := by
  refine ⟨rfl, rfl, id, Nat.le_refl _, fun i _ => ?_⟩
  simp only [runB, runL, leSegs, leSeg, leC, leA, h.i1, h.i2, and_self, implies_true]
theorem ids012 {l : List Nat} : Ids3 (0 :: 1 :: 2 :: l) := ⟨rfl, rfl, rfl⟩
theorem le_run {l : List Slot} {H : Heap} {s : RS} (h0 : getB H.blks 0 = some (runB s)) (h1 : getB H.blks 1 = some (runO s)) (h2 : getB H.blks 2 = some (runV s))
    {r : List Slot} (hr : slotsLe [0, 1, 2] l r) : LeS 3 ⟨l, H⟩ ⟨r, runH s⟩ := by
  refine LeS.intro [0, 1, 2] ids3 diff3 rfl hr ?_
  simp only [runH, leBlks, nthO, h0, h1, h2]
  exact ⟨run_le ids012 s, ro_le s, rv_le s, trivial⟩
theorem end_run0 {l : List Slot} {H : Heap} {R : Post} {e : AEx} (he : ∀ i, e ≠ .exit i) (s : RS) (h0 : getB H.blks 0 = some (runB s)) (h1 : getB H.blks 1 = some (runO s)) (h2 : getB H.blks 2 = some (runV s)) (hR : R (.tup []) (runH s)) : endQ (LeS 3) [] R e ⟨l, H⟩ := by
  cases e with
  | exit i => exact absurd rfl (he i)
  | normal => exact end_of' ⟨[], runH s⟩ (le_run h0 h1 h2 trivial) hR
  | ret => exact end_of ⟨[], runH s⟩ (le_run h0 h1 h2 trivial) hR
theorem end_run1 {l : List Slot} {H : Heap} {R : Post} {t : Nat} {v : AV} (s : RS) (hv : slotAt l t = some ⟨t, [], v⟩) (h0 : getB H.blks 0 = some (runB s)) (h1 : getB H.blks 1 = some (runO s)) (h2 : getB H.blks 2 = some (runV s)) (hid : leV [0, 1, 2] v v) (hn : noTup v = true) (hR : R v (runH s)) : endQ (LeS 3) [.tmp t] R .ret ⟨l, H⟩ := by
  refine end_of ⟨[⟨t, [], v⟩], runH s⟩ (le_run h0 h1 h2 (slotsOf hv hid trivial)) ?_
  have hg : St.get ⟨[⟨t, [], v⟩], runH s⟩ [] (.t t) = v := by simp [St.get, slotAt, Nat.beq_refl, sfx, eqP]
  simp only [endF, resL, resA, hg, hn, resV]
  exact hR
theorem run_frame {f : FuncId} {args : List AV} {s s' : RS} {V : AV} (h : Con Try.prog f args (runH s) (fun v H' => v = V ∧ H' = runH s')) (ha : leArgs [0, 1, 2] args args) (X : List (Nat × Blk)) (n : Nat) (hX : allBe 3 n (keysB X) = true) (hn : 3 ≤ n) (hx : ∀ i, i < 3 → getB X i = none) :
    Con Try.prog f args ⟨n, appX X (runH s).blks⟩ (fun v H' => v = V ∧ H' = ⟨n, appX X (runH s').blks⟩) := by
  refine (h.frameN [0, 1, 2] rfl ids3 X n (fun v H' hv => by rw [hv.2]; exact ⟨rfl, rfl⟩) hX rfl hn ?_ ha).weaken ?_
  · have g0 : getB (appX X (runH s).blks) 0 = some (runB s) := by rw [getB_appX, hx 0 (by omega)]; rfl
    have g1 : getB (appX X (runH s).blks) 1 = some (runO s) := by rw [getB_appX, hx 1 (by omega)]; rfl
    have g2 : getB (appX X (runH s).blks) 2 = some (runV s) := by rw [getB_appX, hx 2 (by omega)]; rfl
    generalize hL : appX X (runH s).blks = L at g0 g1 g2 ⊢
    simp only [runH, leBlks, nthO, g0, g1, g2]
    exact ⟨run_le ids012 s, ro_le s, rv_le s, trivial⟩
  · rintro v H' ⟨H0', ⟨rfl, rfl⟩, rfl⟩
    exact ⟨rfl, rfl⟩
theorem run_frame1 {f : FuncId} {args : List AV} {s s' : RS} {V : AV} (h : Con Try.prog f args (runH s) (fun v H' => v = V ∧ H' = runH s')) (ha : leArgs [0, 1, 2] args args) {B : Blk} :
    Con Try.prog f args ⟨4, (3, B) :: (runH s).blks⟩ (fun v H' => v = V ∧ H' = ⟨4, (3, B) :: (runH s').blks⟩) :=
  run_frame h ha [(3, B)] 4 rfl (by decide) (fun i hi => by
    match i, hi with
    | 0, _ => rfl
    | 1, _ => rfl
    | 2, _ => rfl)
def flagG (c : CoreS) (r : Int) : Bool := if r = 0 then c.n else if r = 1 then c.z else if r = 2 then c.c else c.v
def flagS (c : CoreS) (r : Int) (b : Bool) : CoreS := if r = 0 then { c with n := b } else if r = 1 then { c with z := b } else if r = 2 then { c with c := b } else { c with v := b }
def rightC (c : CoreS) : Bool := (((((c.el == 0) || (c.el == 1)) && decide (c.wait ≥ 0)) && decide (c.wait ≤ 2)) && decide (c.id ≥ 0)) && decide (c.id ≤ 7)
theorem con44 (c : CoreS) (H : Heap) : Con Try.prog 44 [.agg (coreL c)] H (fun v H' => v = .c (.bool (rightC c)) ∧ H' = H) := by
  refine Con.pure ?_ (by simp only [coreL, leArgs, leV, leV1, leSegs, leSeg, leC, and_self, implies_true]) rfl H
  (refine con_of_run mixed (fn := Try.f44) (by kernel_rfl) (by kernel_rfl) C44_ok (rs := [.tmp 2]) (by kernel_rfl) (Nat.le_of_ble_eq_true (by kernel_rfl)) ?_; unfold C44; simp only [initT])
  repeat' (first | refine run_seq ?_ | (refine run_region fun K hK => ?_; (try (simp (maxSteps := 10000000) only [coreL, C44r0, C44r1, rwp_nil, rwp_cons, aop, gpath, St.get, slotAt, sfx, eqP, segsOf, St.put, addBlk, getB, ld1, rowNeed, segAt, nsub, bin, isShift, sameK, arith, getsl, selB_or, selB_and, beqb, shed, addN, Seg.size, sizes, Nat.reduceAdd])); (repeat (first | (refine And.intro ?_ ?_; · (first | decide | trivial | assumption | (intros; first | decide | trivial))))); with_reducible refine hK _ ?_; clear hK K) | refine run_ret ?_ | refine run_nil ?_)
  exact end_tmp1 rfl rfl rfl ⟨rfl, rfl⟩
theorem con61 (c : CoreS) (r : Int) (hr : r = 0 ∨ r = 1 ∨ r = 2 ∨ r = 3) (H : Heap) : Con Try.prog 61 [.agg (coreL c), .c (.int .i64 r)] H (fun v H' => v = .c (.int .u64 (if flagG c r = true then 1 else 0)) ∧ H' = H) := by
  refine Con.pure ?_ (by simp only [coreL, leArgs, leV, leV1, leSegs, leSeg, leC, and_self, implies_true]) rfl H
  rcases hr with rfl | rfl | rfl | rfl
  all_goals
    (refine con_of_run mixed (fn := Try.f61) (by kernel_rfl) (by kernel_rfl) C61_ok (rs := [.tmp 4]) (by kernel_rfl) (Nat.le_of_ble_eq_true (by kernel_rfl)) ?_; unfold C61; simp only [initT, Nat.reduceAdd])
    repeat' (first | refine run_seq ?_ | refine run_skip ?_ | (refine run_region fun K hK => ?_; (try (simp (maxSteps := 10000000) only [coreL, repl, rowsFit, rowFn, cutD, C61r0, C61r1, C61r2, C61r3, C61r4, rwp_nil, rwp_cons, aop, gpath, St.get, slotAt, sfx, eqP, segsOf, St.put, addBlk, getB, ld1, rowNeed, segAt, nsub, shed, addN, Nat.beq, Seg.size, sizes, imp, cut, takeS, dropS, putS, partsOf, fillS, strOk, plusA, Nat.reduceAdd, Int.reduceToNat, List.append_nil, List.nil_append, List.cons_append])); (repeat (first | (refine And.intro ?_ ?_; · (first | decide | trivial | assumption | (intros; first | decide | trivial))))); with_reducible refine hK _ ?_; clear hK K) | (refine run_cond rfl (fun hc => ?_) (fun hc => ?_) <;> try (simp only [*, Bool.true_eq_false, Bool.false_eq_true, Bool.not_true, Bool.not_false, Bool.true_or, Bool.or_true, Bool.false_or, Bool.or_false, Bool.false_and, Bool.and_false, bne_self_eq_false, beq_self_eq_true] at hc; done)) | refine run_ret ?_ | refine run_nil ?_)
    all_goals exact end_tmp1 rfl ⟨rfl, rfl⟩ rfl ⟨by simp only [flagG, Int.reduceEq, if_true, if_false, *, Bool.false_eq_true], rfl⟩
theorem con62 (s : RS) (k : Int) (b : Bool) : Con Try.prog 62 [me, .c (.int .i64 k), .c (.bool b)] (runH s) (fun v H' => v = .tup [] ∧ H' = runH { s with core := flagS s.core k b }) := by
  (refine con_of_run mixed (fn := Try.f62) (by kernel_rfl) (by kernel_rfl) C62_ok (rs := []) (by kernel_rfl) (Nat.le_of_ble_eq_true (by kernel_rfl)) ?_; unfold C62; simp only [initT, Nat.reduceAdd])
  generalize hR : (fun (v : AV) (H' : Heap) => v = AV.tup [] ∧ H' = runH { s with core := flagS s.core k b }) = R
  simp only [me, runH, runB, runL]
  repeat' (first | refine run_seq ?_ | (refine run_region fun K hK => ?_; (try (simp (maxSteps := 10000000) only [C62r0, C62r1, C62r2, C62r3, C62r4, C62r5, C62r6, C62r7, rwp_nil, rwp_cons, aop, gpath, St.get, slotAt, sfx, eqP, St.put, addBlk, getB, setB, st1, setRow, rowNeed, segAt, nsub, bin, isShift, sameK, arith, shed, addN, Seg.size, sizes, takeS, dropS, putS, exOk, Nat.reduceAdd, List.nil_append, List.cons_append])); (repeat (first | (refine And.intro ?_ ?_; · (first | decide | trivial | assumption | (intros; first | decide | trivial))))); with_reducible refine hK _ ?_; clear hK K) | (refine run_cond rfl (fun hc => ?_) (fun hc => ?_) <;> try (simp only [*, Bool.true_eq_false, Bool.false_eq_true, Bool.not_true, Bool.not_false, Bool.true_or, Bool.or_true, Bool.false_or, Bool.or_false, Bool.false_and, Bool.and_false, bne_self_eq_false, beq_self_eq_true] at hc; done)) | refine run_block ?_ | refine run_ret ?_ | refine run_nil ?_ | refine blk_normal ?_ | refine blk_ret ?_ | refine blk_here ?_ | refine blk_there rfl ?_)
  all_goals
    simp only [beq_iff_eq, beq_eq_false_iff_ne, ne_eq] at *
    subst hR
    refine end_run0 nofun { s with core := flagS s.core k b } ?_ ?_ ?_ ⟨rfl, rfl⟩ <;> (simp only [flagS, *, if_true, if_false, Int.reduceEq]; rfl)
def waitS (s : RS) (w : WantS) : RS := { s with waits := true, want := w }
theorem con64 (s : RS) (w : WantS) : Con Try.prog 64 [me, .agg (wantL w)] (runH s) (fun v H' => v = .tup [] ∧ H' = runH (waitS s w)) := by
  (refine con_of_run mixed (fn := Try.f64) (by kernel_rfl) (by kernel_rfl) C64_ok (rs := []) (by kernel_rfl) (Nat.le_of_ble_eq_true (by kernel_rfl)) ?_; unfold C64; simp only [initT, Nat.reduceAdd])
  generalize hR : (fun (v : AV) (H' : Heap) => v = AV.tup [] ∧ H' = runH (waitS s w)) = R
  simp only [me, runH, runB, runL]
  repeat' (first | refine run_seq ?_ | (refine run_region fun K hK => ?_; (try (simp (maxSteps := 10000000) only [wantL, C64r0, C64r1, C64r2, rwp_nil, rwp_cons, aop, gpath, St.get, slotAt, sfx, eqP, segsOf, St.put, addBlk, getB, setB, ldn, st1, stn, setRow, rowNeed, segAt, nsub, shed, addN, Nat.beq, Seg.size, sizes, cut, takeS, dropS, putS, exOk, Nat.reduceAdd, List.nil_append, List.cons_append])); (repeat (first | (refine And.intro ?_ ?_; · (first | decide | trivial | assumption | (intros; first | decide | trivial))))); with_reducible refine hK _ ?_; clear hK K) | refine run_ret ?_ | refine run_nil ?_)
  subst hR
  exact end_run0 nofun (waitS s w) rfl rfl rfl ⟨rfl, rfl⟩
end Go.Proofs.Ytmbnakinhnkabaa

