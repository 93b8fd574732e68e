/- Parts of the proof of deadDoes_holds, joined and cut by a program: Code19b, Ea, Eb, Ec, Ed, Ee, Ef, Eg, Eh, Fa, Fb, Fc, Fd, Fe. No condition. -/
import Derived.Test.YtmbnakinhnkabaaZdd
import Derived.Test.YtmbnakinhnkabaaProg
import Derived.KernelRfl
import Derived.Laws.BitsLemmas
import Derived.Laws.Bits64
set_option linter.unusedVariables false
namespace Go.Proofs.Ytmbnakinhnkabaa
open Go.AM
def C4r0 : List AOper := [⟨some 3, .box 25 (.t 0), none, true, []⟩,
 ⟨some 4, .box 43 (.t 1), none, true, []⟩,
 ⟨some 6, .mv (.k (.c (.bool false))), none, true, []⟩]
def C4r1 : List AOper := [⟨some 23, .call (.k (.c (.fn 9 [] []))) [], none, true, []⟩,
 ⟨some 7, .mv (.t 23), none, true, []⟩]
def C4r2 : List AOper := [⟨some 24, .mv (.t 7), none, true, []⟩,
 ⟨some 25, .un .not (.t 24), none, true, []⟩]
def C4r3 : List AOper := [⟨some 6, .mv (.k (.c (.bool false))), none, true, []⟩]
def C4r4 : List AOper := [⟨some 27, .ldn 4 (.t 3), none, true, []⟩,
 ⟨some 28, .call (.k (.c (.fn 13 [] []))) [(.t 27)], none, true, []⟩,
 ⟨some 26, .mv (.t 28), none, true, []⟩,
 ⟨some 29, .ext (.t 26) 0, none, true, []⟩,
 ⟨some 30, .ext (.t 26) 1, none, true, []⟩,
 ⟨some 8, .alloc 25 [.c (.int .u64 0), .c (.int .i64 0), .c (.int .i64 0), .c (.nils)], none, true, []⟩,
 ⟨none, .stn 4 (.t 8) (.t 29), none, true, []⟩,
 ⟨some 9, .mv (.t 30), none, true, []⟩]
def C4r5 : List AOper := [⟨some 31, .mv (.t 9), none, true, []⟩,
 ⟨some 32, .bin .neq (.t 31) (.k (.c (.int .i64 0))), none, true, []⟩]
def C4r6 : List AOper := [⟨some 33, .mv (.t 7), none, true, []⟩,
 ⟨some 6, .mv (.t 33), none, true, []⟩]
def C4r7 : List AOper := [⟨some 35, .ldn 4 (.t 3), none, true, []⟩,
 ⟨some 36, .ldn 49 (.t 4), none, true, []⟩,
 ⟨some 37, .call (.k (.c (.fn 18 [] []))) [(.t 35), (.t 36)], none, true, []⟩,
 ⟨some 34, .mv (.t 37), none, true, []⟩,
 ⟨some 38, .ext (.t 34) 0, none, true, []⟩,
 ⟨some 39, .ext (.t 34) 1, none, true, []⟩,
 ⟨some 10, .mv (.t 38), none, true, []⟩,
 ⟨some 11, .mv (.t 39), none, true, []⟩]
def C4r8 : List AOper := [⟨some 41, .ldn 4 (.t 8), none, true, []⟩,
 ⟨some 42, .ldn 49 (.t 4), none, true, []⟩,
 ⟨some 43, .call (.k (.c (.fn 18 [] []))) [(.t 41), (.t 42)], none, true, []⟩,
 ⟨some 40, .mv (.t 43), none, true, []⟩,
 ⟨some 44, .ext (.t 40) 0, none, true, []⟩,
 ⟨some 45, .ext (.t 40) 1, none, true, []⟩,
 ⟨some 12, .mv (.t 44), none, true, []⟩,
 ⟨some 13, .mv (.t 45), none, true, []⟩]
def C4r9 : List AOper := [⟨some 46, .mv (.t 11), none, true, []⟩,
 ⟨some 47, .bin .neq (.t 46) (.k (.c (.int .i64 0))), none, true, []⟩,
 ⟨some 48, .mv (.t 47), none, true, []⟩,
 ⟨some 49, .mv (.t 13), some (48, false), true, []⟩,
 ⟨some 50, .bin .neq (.t 49) (.k (.c (.int .i64 0))), some (48, false), true, []⟩,
 ⟨some 51, .pick 48 (.k (.c (.bool true))) (.t 50), none, true, []⟩]
def C4r10 : List AOper := [⟨some 52, .mv (.t 7), none, true, []⟩,
 ⟨some 53, .mv (.t 52), none, true, []⟩,
 ⟨some 54, .mv (.t 11), some (53, true), true, []⟩,
 ⟨some 55, .mv (.t 13), some (53, true), true, []⟩,
 ⟨some 56, .bin .eql (.t 54) (.t 55), some (53, true), true, []⟩,
 ⟨some 57, .pick 53 (.t 56) (.k (.c (.bool false))), none, true, []⟩,
 ⟨some 6, .mv (.t 57), none, true, []⟩]
def C4r11 : List AOper := [⟨some 14, .mv (.k (.c (.int .i64 0))), none, true, []⟩]
def C4r12 : List AOper := [⟨some 58, .mv (.t 14), none, true, []⟩,
 ⟨some 59, .faddr (.t 3) 3, none, true, []⟩,
 ⟨some 60, .ld1 (.t 59), none, true, []⟩,
 ⟨some 61, .len false (.t 60), none, true, []⟩,
 ⟨some 62, .bin .leq (.t 58) (.t 61), none, true, []⟩]
def C4r13 : List AOper := [⟨some 66, .mv (.t 10), none, true, []⟩,
 ⟨some 67, .call (.k (.c (.fn 19 [] []))) [(.t 66)], none, true, []⟩,
 ⟨some 65, .mv (.t 67), none, true, []⟩,
 ⟨some 68, .ext (.t 65) 0, none, true, []⟩,
 ⟨some 69, .ext (.t 65) 1, none, true, []⟩,
 ⟨some 15, .alloc 49 [.c (.int .i64 0), .c (.int .u64 0), .c (.int .u64 0), .c (.int .i64 0), .c (.bool false), .c (.int .i64 0), .c (.bool false), .c (.int .i64 0), .c (.int .i64 0), .c (.int .i64 0)], none, true, []⟩,
 ⟨none, .stn 10 (.t 15) (.t 68), none, true, []⟩,
 ⟨some 16, .mv (.t 69), none, true, []⟩]
def C4r14 : List AOper := [⟨some 71, .mv (.t 12), none, true, []⟩,
 ⟨some 72, .call (.k (.c (.fn 19 [] []))) [(.t 71)], none, true, []⟩,
 ⟨some 70, .mv (.t 72), none, true, []⟩,
 ⟨some 73, .ext (.t 70) 0, none, true, []⟩,
 ⟨some 74, .ext (.t 70) 1, none, true, []⟩,
 ⟨some 17, .alloc 49 [.c (.int .i64 0), .c (.int .u64 0), .c (.int .u64 0), .c (.int .i64 0), .c (.bool false), .c (.int .i64 0), .c (.bool false), .c (.int .i64 0), .c (.int .i64 0), .c (.int .i64 0)], none, true, []⟩,
 ⟨none, .stn 10 (.t 17) (.t 73), none, true, []⟩,
 ⟨some 18, .mv (.t 74), none, true, []⟩]
def C4r15 : List AOper := [⟨some 75, .ldn 10 (.t 15), none, true, []⟩,
 ⟨some 76, .ldn 10 (.t 17), none, true, []⟩,
 ⟨some 77, .eqS true [.one true, .one true, .one true, .one true, .one false, .one true, .one false, .one true, .one true, .one true] (.t 75) (.t 76), none, true, []⟩,
 ⟨some 78, .mv (.t 77), none, true, []⟩,
 ⟨some 79, .mv (.t 16), some (78, false), true, []⟩,
 ⟨some 80, .mv (.t 18), some (78, false), true, []⟩,
 ⟨some 81, .eqB true (.t 79) (.t 80), some (78, false), true, []⟩,
 ⟨some 82, .pick 78 (.k (.c (.bool true))) (.t 81), none, true, []⟩]
def C4r16 : List AOper := [⟨some 6, .mv (.k (.c (.bool false))), none, true, []⟩]
def C4r17 : List AOper := [⟨some 83, .mv (.t 16), none, true, []⟩,
 ⟨some 84, .mv (.t 83), none, true, []⟩,
 ⟨some 85, .faddr (.t 15) 0, some (84, true), true, []⟩,
 ⟨some 86, .ld1 (.t 85), some (84, true), true, []⟩,
 ⟨some 87, .bin .eql (.t 86) (.k (.c (.int .i64 6))), some (84, true), true, []⟩,
 ⟨some 88, .pick 84 (.t 87) (.k (.c (.bool false))), none, true, []⟩,
 ⟨some 19, .mv (.t 88), none, true, []⟩]
def C4r18 : List AOper := [⟨some 89, .mv (.t 19), none, true, []⟩,
 ⟨some 90, .un .not (.t 89), none, true, []⟩,
 ⟨some 91, .mv (.t 90), none, true, []⟩,
 ⟨some 92, .mv (.t 10), some (91, true), false, []⟩,
 ⟨some 93, .nilchk (.t 92), some (91, true), false, []⟩,
 ⟨some 94, .faddr (.t 93) 4, some (91, true), false, []⟩,
 ⟨some 95, .ldn 49 (.t 94), some (91, true), false, []⟩,
 ⟨some 96, .mv (.t 12), some (91, true), false, []⟩,
 ⟨some 97, .nilchk (.t 96), some (91, true), false, []⟩,
 ⟨some 98, .faddr (.t 97) 4, some (91, true), false, []⟩,
 ⟨some 99, .ldn 49 (.t 98), some (91, true), false, []⟩,
 ⟨some 100, .eqS true [.arr 31 true, .arr 2 true, .one true, .one false, .one false, .one false, .one false, .one true, .one false, .one true, .one true, .one true, .one true, .one true, .one true, .one true, .one true, .one false] (.t 95) (.t 99), some (91, true), true, []⟩,
 ⟨some 101, .pick 91 (.t 100) (.k (.c (.bool false))), none, true, []⟩]
def C4r19 : List AOper := [⟨some 6, .mv (.k (.c (.bool false))), none, true, []⟩]
def C4r20 : List AOper := [⟨some 102, .mv (.t 16), none, true, []⟩,
 ⟨some 103, .un .not (.t 102), none, true, []⟩]
def C4r21 : List AOper := [⟨some 104, .mv (.t 7), none, true, []⟩,
 ⟨some 105, .mv (.t 104), none, true, []⟩,
 ⟨some 106, .mv (.t 10), some (105, true), false, []⟩,
 ⟨some 107, .nilchk (.t 106), some (105, true), false, []⟩,
 ⟨some 108, .faddr (.t 107) 67, some (105, true), false, []⟩,
 ⟨some 109, .ld1 (.t 108), some (105, true), false, []⟩,
 ⟨some 110, .mv (.t 12), some (105, true), false, []⟩,
 ⟨some 111, .nilchk (.t 110), some (105, true), false, []⟩,
 ⟨some 112, .faddr (.t 111) 67, some (105, true), false, []⟩,
 ⟨some 113, .ld1 (.t 112), some (105, true), false, []⟩,
 ⟨some 114, .eqB false (.t 109) (.t 113), some (105, true), true, []⟩,
 ⟨some 115, .pick 105 (.t 114) (.k (.c (.bool false))), none, true, []⟩,
 ⟨some 116, .mv (.t 115), none, true, []⟩,
 ⟨some 117, .mv (.t 10), some (116, true), false, []⟩,
 ⟨some 118, .nilchk (.t 117), some (116, true), false, []⟩,
 ⟨some 119, .faddr (.t 118) 69, some (116, true), false, []⟩,
 ⟨some 120, .ld1 (.t 119), some (116, true), false, []⟩,
 ⟨some 121, .mv (.t 12), some (116, true), false, []⟩,
 ⟨some 122, .nilchk (.t 121), some (116, true), false, []⟩,
 ⟨some 123, .faddr (.t 122) 69, some (116, true), false, []⟩,
 ⟨some 124, .ld1 (.t 123), some (116, true), false, []⟩,
 ⟨some 125, .eqB false (.t 120) (.t 124), some (116, true), true, []⟩,
 ⟨some 126, .pick 116 (.t 125) (.k (.c (.bool false))), none, true, []⟩,
 ⟨some 127, .mv (.t 126), none, true, []⟩,
 ⟨some 128, .mv (.t 10), some (127, true), false, []⟩,
 ⟨some 129, .nilchk (.t 128), some (127, true), false, []⟩,
 ⟨some 130, .faddr (.t 129) 68, some (127, true), false, []⟩,
 ⟨some 131, .ld1 (.t 130), some (127, true), false, []⟩,
 ⟨some 132, .mv (.t 12), some (127, true), false, []⟩,
 ⟨some 133, .nilchk (.t 132), some (127, true), false, []⟩,
 ⟨some 134, .faddr (.t 133) 68, some (127, true), false, []⟩,
 ⟨some 135, .ld1 (.t 134), some (127, true), false, []⟩,
 ⟨some 136, .bin .eql (.t 131) (.t 135), some (127, true), true, []⟩,
 ⟨some 137, .pick 127 (.t 136) (.k (.c (.bool false))), none, true, []⟩,
 ⟨some 6, .mv (.t 137), none, true, []⟩]
def C4r22 : List AOper := [⟨some 138, .mv (.t 14), none, true, []⟩,
 ⟨some 139, .bin .mul (.k (.c (.int .i64 8))) (.t 138), none, true, []⟩,
 ⟨some 140, .conv .u64 (.t 139), none, true, []⟩,
 ⟨some 141, .mv (.t 14), none, true, []⟩,
 ⟨some 142, .bin .rem (.t 141) (.k (.c (.int .i64 2))), none, true, []⟩,
 ⟨some 143, .bin .eql (.t 142) (.k (.c (.int .i64 0))), none, true, []⟩,
 ⟨some 144, .build [.c (.int .u64 0), .c (.bool false), .c (.int .i64 0)] [(0, 1, (.t 140)), (1, 1, (.t 143))], none, true, []⟩,
 ⟨some 20, .alloc 56 [.c (.int .u64 0), .c (.bool false), .c (.int .i64 0)], none, true, []⟩,
 ⟨none, .stn 3 (.t 20) (.t 144), none, true, []⟩]
def C4r23 : List AOper := [⟨some 145, .mv (.t 14), none, true, []⟩,
 ⟨some 146, .mv (.t 2), none, true, []⟩,
 ⟨some 147, .len false (.t 146), none, true, []⟩,
 ⟨some 148, .bin .lss (.t 145) (.t 147), none, true, []⟩]
def C4r24 : List AOper := [⟨some 149, .mv (.t 2), none, true, []⟩,
 ⟨some 150, .mv (.t 14), none, true, []⟩,
 ⟨some 151, .iaddr 3 (.t 149) (.t 150), none, true, []⟩,
 ⟨some 152, .ldn 3 (.t 151), none, true, []⟩,
 ⟨none, .stn 3 (.t 20) (.t 152), none, true, []⟩]
def C4r25 : List AOper := [⟨some 153, .mv (.t 10), none, true, []⟩,
 ⟨some 154, .ldn 3 (.t 20), none, true, []⟩,
 ⟨some 155, .call (.k (.c (.fn 20 [] []))) [(.t 153), (.t 154)], none, true, []⟩,
 ⟨some 21, .mv (.t 155), none, true, []⟩]
def C4r26 : List AOper := [⟨some 156, .mv (.t 12), none, true, []⟩,
 ⟨some 157, .ldn 3 (.t 20), none, true, []⟩,
 ⟨some 158, .call (.k (.c (.fn 20 [] []))) [(.t 156), (.t 157)], none, true, []⟩,
 ⟨some 22, .mv (.t 158), none, true, []⟩]
def C4r27 : List AOper := [⟨some 159, .mv (.t 21), none, true, []⟩,
 ⟨some 160, .un .not (.t 159), none, true, []⟩,
 ⟨some 161, .mv (.t 160), none, true, []⟩,
 ⟨some 162, .mv (.t 22), some (161, false), true, []⟩,
 ⟨some 163, .un .not (.t 162), some (161, false), true, []⟩,
 ⟨some 164, .pick 161 (.k (.c (.bool true))) (.t 163), none, true, []⟩]
def C4r28 : List AOper := [⟨some 6, .mv (.k (.c (.bool false))), none, true, []⟩]
def C4r29 : List AOper := [⟨some 63, .mv (.t 14), none, true, []⟩,
 ⟨some 64, .bin .add (.t 63) (.k (.c (.int .i64 1))), none, true, []⟩,
 ⟨some 14, .mv (.t 64), none, true, []⟩]
def C4r30 : List AOper := [⟨some 6, .mv (.k (.c (.bool false))), none, true, []⟩]
def C4 : ACode :=
 .seq (.region C4r0)
 (.seq (.region C4r1)
 (.seq (.seq (.region C4r2)
 (.cond (.t 25)
 (.seq (.region C4r3)
 (.ret))
 (.skip)))
 (.seq (.region C4r4)
 (.seq (.seq (.region C4r5)
 (.cond (.t 32)
 (.seq (.region C4r6)
 (.ret))
 (.skip)))
 (.seq (.region C4r7)
 (.seq (.region C4r8)
 (.seq (.seq (.region C4r9)
 (.cond (.t 51)
 (.seq (.region C4r10)
 (.ret))
 (.skip)))
 (.seq (.seq (.region C4r11)
 (.block 0
 (.loop
 (.seq (.seq (.region C4r12)
 (.cond (.t 62)
 (.skip)
 (.exit 0)))
 (.seq (.block 1
 (.seq (.region C4r13)
 (.seq (.region C4r14)
 (.seq (.seq (.region C4r15)
 (.cond (.t 82)
 (.seq (.region C4r16)
 (.ret))
 (.skip)))
 (.seq (.region C4r17)
 (.seq (.seq (.region C4r18)
 (.cond (.t 101)
 (.seq (.region C4r19)
 (.ret))
 (.skip)))
 (.seq (.seq (.region C4r20)
 (.cond (.t 103)
 (.seq (.region C4r21)
 (.ret))
 (.skip)))
 (.seq (.region C4r22)
 (.seq (.seq (.region C4r23)
 (.cond (.t 148)
 (.region C4r24)
 (.skip)))
 (.seq (.region C4r25)
 (.seq (.region C4r26)
 (.seq (.region C4r27)
 (.cond (.t 164)
 (.seq (.region C4r28)
 (.ret))
 (.skip))))))))))))))
 (.region C4r29))))))
 (.seq (.region C4r30)
 (.ret))))))))))
theorem C4_ok : stripF Try.prog Try.f4 = some C4 := by kernel_rfl
def C11r0 : List AOper := [⟨some 1, .box 25 (.t 0), none, true, []⟩,
 ⟨some 2, .mv (.k (.c (.bool false))), none, true, []⟩]
def C11r1 : List AOper := [⟨some 11, .faddr (.t 1) 3, none, true, []⟩,
 ⟨some 12, .ld1 (.t 11), none, true, []⟩,
 ⟨some 13, .len false (.t 12), none, true, []⟩,
 ⟨some 3, .mv (.t 13), none, true, []⟩]
def C11r2 : List AOper := [⟨some 14, .faddr (.t 1) 0, none, true, []⟩,
 ⟨some 15, .ld1 (.t 14), none, true, []⟩,
 ⟨some 16, .bin .rem (.t 15) (.k (.c (.int .u64 4))), none, true, []⟩,
 ⟨some 17, .bin .neq (.t 16) (.k (.c (.int .u64 0))), none, true, []⟩,
 ⟨some 18, .mv (.t 17), none, true, []⟩,
 ⟨some 19, .faddr (.t 1) 1, some (18, false), true, []⟩,
 ⟨some 20, .ld1 (.t 19), some (18, false), true, []⟩,
 ⟨some 21, .call (.k (.c (.fn 33 [] []))) [(.t 20), (.k (.c (.int .i64 1))), (.k (.c (.int .i64 16)))], some (18, false), true, []⟩,
 ⟨some 22, .un .not (.t 21), some (18, false), true, []⟩,
 ⟨some 23, .pick 18 (.k (.c (.bool true))) (.t 22), none, true, []⟩,
 ⟨some 24, .mv (.t 23), none, true, []⟩,
 ⟨some 25, .faddr (.t 1) 2, some (24, false), true, []⟩,
 ⟨some 26, .ld1 (.t 25), some (24, false), true, []⟩,
 ⟨some 27, .call (.k (.c (.fn 33 [] []))) [(.t 26), (.k (.c (.int .i64 0))), (.k (.c (.int .i64 1)))], some (24, false), true, []⟩,
 ⟨some 28, .un .not (.t 27), some (24, false), true, []⟩,
 ⟨some 29, .pick 24 (.k (.c (.bool true))) (.t 28), none, true, []⟩,
 ⟨some 30, .mv (.t 29), none, true, []⟩,
 ⟨some 31, .mv (.t 3), some (30, false), true, []⟩,
 ⟨some 32, .call (.k (.c (.fn 33 [] []))) [(.t 31), (.k (.c (.int .i64 1))), (.k (.c (.int .i64 512)))], some (30, false), true, []⟩,
 ⟨some 33, .un .not (.t 32), some (30, false), true, []⟩,
 ⟨some 34, .pick 30 (.k (.c (.bool true))) (.t 33), none, true, []⟩,
 ⟨some 35, .mv (.t 34), none, true, []⟩,
 ⟨some 36, .faddr (.t 1) 3, some (35, false), true, []⟩,
 ⟨some 37, .ld1 (.t 36), some (35, false), true, []⟩,
 ⟨some 38, .iaddr 6 (.t 37) (.k (.c (.int .i64 0))), some (35, false), true, []⟩,
 ⟨some 39, .faddr (.t 38) 0, some (35, false), true, []⟩,
 ⟨some 40, .ld1 (.t 39), some (35, false), true, []⟩,
 ⟨some 41, .bin .neq (.t 40) (.k (.c (.int .i64 14))), some (35, false), true, []⟩,
 ⟨some 42, .pick 35 (.k (.c (.bool true))) (.t 41), none, true, []⟩,
 ⟨some 43, .mv (.t 42), none, true, []⟩,
 ⟨some 44, .faddr (.t 1) 3, some (43, false), false, []⟩,
 ⟨some 45, .ld1 (.t 44), some (43, false), false, []⟩,
 ⟨some 46, .iaddr 6 (.t 45) (.k (.c (.int .i64 0))), some (43, false), false, []⟩,
 ⟨some 47, .faddr (.t 46) 5, some (43, false), false, []⟩,
 ⟨some 48, .ld1 (.t 47), some (43, false), false, []⟩,
 ⟨some 49, .faddr (.t 1) 0, some (43, false), false, []⟩,
 ⟨some 50, .ld1 (.t 49), some (43, false), false, []⟩,
 ⟨some 51, .bin .neq (.t 48) (.t 50), some (43, false), true, []⟩,
 ⟨some 52, .pick 43 (.k (.c (.bool true))) (.t 51), none, true, []⟩]
def C11r3 : List AOper := [⟨some 2, .mv (.k (.c (.bool false))), none, true, []⟩]
def C11r4 : List AOper := [⟨some 4, .mv (.k (.c (.int .i64 0))), none, true, []⟩]
def C11r5 : List AOper := [⟨some 53, .mv (.t 4), none, true, []⟩,
 ⟨some 54, .mv (.t 3), none, true, []⟩,
 ⟨some 55, .bin .lss (.t 53) (.t 54), none, true, []⟩]
def C11r6 : List AOper := [⟨some 58, .faddr (.t 1) 3, none, true, []⟩,
 ⟨some 59, .ld1 (.t 58), none, true, []⟩,
 ⟨some 60, .mv (.t 4), none, true, []⟩,
 ⟨some 61, .iaddr 6 (.t 59) (.t 60), none, true, []⟩,
 ⟨some 62, .ldn 6 (.t 61), none, true, []⟩,
 ⟨some 5, .alloc 39 [.c (.int .i64 0), .c (.int .i64 0), .c (.int .i64 0), .c (.int .i64 0), .c (.int .i64 0), .c (.int .u64 0)], none, true, []⟩,
 ⟨none, .stn 6 (.t 5) (.t 62), none, true, []⟩]
def C11r7 : List AOper := [⟨some 63, .ldn 6 (.t 5), none, true, []⟩,
 ⟨some 64, .call (.k (.c (.fn 34 [] []))) [(.t 63)], none, true, []⟩,
 ⟨some 6, .mv (.t 64), none, true, []⟩]
def C11r8 : List AOper := [⟨some 65, .faddr (.t 5) 0, none, true, []⟩,
 ⟨some 66, .ld1 (.t 65), none, true, []⟩,
 ⟨some 67, .bin .eql (.t 66) (.k (.c (.int .i64 16))), none, true, []⟩,
 ⟨some 68, .mv (.t 67), none, true, []⟩,
 ⟨some 69, .faddr (.t 5) 0, some (68, false), true, []⟩,
 ⟨some 70, .ld1 (.t 69), some (68, false), true, []⟩,
 ⟨some 71, .bin .eql (.t 70) (.k (.c (.int .i64 17))), some (68, false), true, []⟩,
 ⟨some 72, .pick 68 (.k (.c (.bool true))) (.t 71), none, true, []⟩,
 ⟨some 73, .mv (.t 72), none, true, []⟩,
 ⟨some 74, .faddr (.t 5) 0, some (73, false), true, []⟩,
 ⟨some 75, .ld1 (.t 74), some (73, false), true, []⟩,
 ⟨some 76, .bin .eql (.t 75) (.k (.c (.int .i64 18))), some (73, false), true, []⟩,
 ⟨some 77, .pick 73 (.k (.c (.bool true))) (.t 76), none, true, []⟩,
 ⟨some 7, .mv (.t 77), none, true, []⟩]
def C11r9 : List AOper := [⟨some 78, .mv (.t 6), none, true, []⟩,
 ⟨some 79, .un .not (.t 78), none, true, []⟩,
 ⟨some 80, .mv (.t 79), none, true, []⟩,
 ⟨some 81, .mv (.t 7), some (80, false), true, []⟩,
 ⟨some 82, .mv (.t 4), some (80, false), true, []⟩,
 ⟨some 83, .mv (.t 3), some (80, false), true, []⟩,
 ⟨some 84, .bin .sub (.t 83) (.k (.c (.int .i64 1))), some (80, false), true, []⟩,
 ⟨some 85, .bin .eql (.t 82) (.t 84), some (80, false), true, []⟩,
 ⟨some 86, .eqB true (.t 81) (.t 85), some (80, false), true, []⟩,
 ⟨some 87, .pick 80 (.k (.c (.bool true))) (.t 86), none, true, []⟩]
def C11r10 : List AOper := [⟨some 2, .mv (.k (.c (.bool false))), none, true, []⟩]
def C11r11 : List AOper := [⟨some 88, .ldn 6 (.t 5), none, true, []⟩,
 ⟨some 89, .call (.k (.c (.fn 35 [] []))) [(.t 88)], none, true, []⟩,
 ⟨some 8, .mv (.t 89), none, true, []⟩]
def C11r12 : List AOper := [⟨some 9, .mv (.k (.c (.int .i64 0))), none, true, []⟩]
def C11r13 : List AOper := [⟨some 90, .mv (.t 9), none, true, []⟩,
 ⟨some 91, .mv (.t 8), none, true, []⟩,
 ⟨some 92, .len false (.t 91), none, true, []⟩,
 ⟨some 93, .bin .lss (.t 90) (.t 92), none, true, []⟩]
def C11r14 : List AOper := [⟨some 96, .mv (.t 8), none, true, []⟩,
 ⟨some 97, .mv (.t 9), none, true, []⟩,
 ⟨some 98, .iaddr 1 (.t 96) (.t 97), none, true, []⟩,
 ⟨some 99, .ld1 (.t 98), none, true, []⟩,
 ⟨some 100, .bin .lss (.t 99) (.k (.c (.int .i64 0))), none, true, []⟩,
 ⟨some 101, .mv (.t 100), none, true, []⟩,
 ⟨some 102, .mv (.t 8), some (101, false), true, []⟩,
 ⟨some 103, .mv (.t 9), some (101, false), true, []⟩,
 ⟨some 104, .iaddr 1 (.t 102) (.t 103), some (101, false), true, []⟩,
 ⟨some 105, .ld1 (.t 104), some (101, false), true, []⟩,
 ⟨some 106, .mv (.t 4), some (101, false), true, []⟩,
 ⟨some 107, .bin .geq (.t 105) (.t 106), some (101, false), true, []⟩,
 ⟨some 108, .pick 101 (.k (.c (.bool true))) (.t 107), none, true, []⟩]
def C11r15 : List AOper := [⟨some 2, .mv (.k (.c (.bool false))), none, true, []⟩]
def C11r16 : List AOper := [⟨some 109, .faddr (.t 1) 3, none, false, []⟩,
 ⟨some 110, .ld1 (.t 109), none, false, []⟩,
 ⟨some 111, .mv (.t 8), none, false, []⟩,
 ⟨some 112, .mv (.t 9), none, false, []⟩,
 ⟨some 113, .iaddr 1 (.t 111) (.t 112), none, false, []⟩,
 ⟨some 114, .ld1 (.t 113), none, false, []⟩,
 ⟨some 115, .iaddr 6 (.t 110) (.t 114), none, true, []⟩,
 ⟨some 116, .ldn 6 (.t 115), none, true, []⟩,
 ⟨some 117, .call (.k (.c (.fn 36 [] []))) [(.t 116)], none, true, []⟩,
 ⟨some 10, .mv (.t 117), none, true, []⟩]
def C11r17 : List AOper := [⟨some 118, .mv (.t 10), none, true, []⟩,
 ⟨some 119, .un .not (.t 118), none, true, []⟩]
def C11r18 : List AOper := [⟨some 2, .mv (.k (.c (.bool false))), none, true, []⟩]
def C11r19 : List AOper := [⟨some 94, .mv (.t 9), none, true, []⟩,
 ⟨some 95, .bin .add (.t 94) (.k (.c (.int .i64 1))), none, true, []⟩,
 ⟨some 9, .mv (.t 95), none, true, []⟩]
def C11r20 : List AOper := [⟨some 120, .mv (.t 8), none, true, []⟩,
 ⟨some 121, .len false (.t 120), none, true, []⟩,
 ⟨some 122, .bin .lss (.t 121) (.k (.c (.int .i64 2))), none, true, []⟩,
 ⟨some 123, .mv (.t 122), none, true, []⟩,
 ⟨some 124, .faddr (.t 5) 3, some (123, true), true, []⟩,
 ⟨some 125, .ld1 (.t 124), some (123, true), true, []⟩,
 ⟨some 126, .bin .neq (.t 125) (.k (.c (.int .i64 0))), some (123, true), true, []⟩,
 ⟨some 127, .pick 123 (.t 126) (.k (.c (.bool false))), none, true, []⟩,
 ⟨some 128, .mv (.t 127), none, true, []⟩,
 ⟨some 129, .mv (.t 8), some (128, false), true, []⟩,
 ⟨some 130, .len false (.t 129), some (128, false), true, []⟩,
 ⟨some 131, .bin .lss (.t 130) (.k (.c (.int .i64 1))), some (128, false), true, []⟩,
 ⟨some 132, .mv (.t 131), some (128, false), true, []⟩,
 ⟨some 133, .faddr (.t 5) 2, some (132, true), true, []⟩,
 ⟨some 134, .ld1 (.t 133), some (132, true), true, []⟩,
 ⟨some 135, .bin .neq (.t 134) (.k (.c (.int .i64 0))), some (132, true), true, []⟩,
 ⟨some 136, .pick 132 (.t 135) (.k (.c (.bool false))), some (128, false), true, []⟩,
 ⟨some 137, .pick 128 (.k (.c (.bool true))) (.t 136), none, true, []⟩]
def C11r21 : List AOper := [⟨some 2, .mv (.k (.c (.bool false))), none, true, []⟩]
def C11r22 : List AOper := [⟨some 56, .mv (.t 4), none, true, []⟩,
 ⟨some 57, .bin .add (.t 56) (.k (.c (.int .i64 1))), none, true, []⟩,
 ⟨some 4, .mv (.t 57), none, true, []⟩]
def C11r23 : List AOper := [⟨some 2, .mv (.k (.c (.bool true))), none, true, []⟩]
def C11 : ACode :=
 .seq (.region C11r0)
 (.seq (.region C11r1)
 (.seq (.seq (.region C11r2)
 (.cond (.t 52)
 (.seq (.region C11r3)
 (.ret))
 (.skip)))
 (.seq (.seq (.region C11r4)
 (.block 0
 (.loop
 (.seq (.seq (.region C11r5)
 (.cond (.t 55)
 (.skip)
 (.exit 0)))
 (.seq (.block 1
 (.seq (.region C11r6)
 (.seq (.region C11r7)
 (.seq (.region C11r8)
 (.seq (.seq (.region C11r9)
 (.cond (.t 87)
 (.seq (.region C11r10)
 (.ret))
 (.skip)))
 (.seq (.region C11r11)
 (.seq (.seq (.region C11r12)
 (.block 2
 (.loop
 (.seq (.seq (.region C11r13)
 (.cond (.t 93)
 (.skip)
 (.exit 2)))
 (.seq (.block 3
 (.seq (.seq (.region C11r14)
 (.cond (.t 108)
 (.seq (.region C11r15)
 (.ret))
 (.skip)))
 (.seq (.region C11r16)
 (.seq (.region C11r17)
 (.cond (.t 119)
 (.seq (.region C11r18)
 (.ret))
 (.skip))))))
 (.region C11r19))))))
 (.seq (.region C11r20)
 (.cond (.t 137)
 (.seq (.region C11r21)
 (.ret))
 (.skip))))))))))
 (.region C11r22))))))
 (.seq (.region C11r23)
 (.ret)))))
theorem C11_ok : stripF Try.prog Try.f11 = some C11 := by kernel_rfl
def C18r0 : List AOper := [⟨some 2, .box 25 (.t 0), none, true, []⟩,
 ⟨some 3, .box 43 (.t 1), none, true, []⟩,
 ⟨some 4, .mv (.k (.c (.nilp))), none, true, []⟩,
 ⟨some 5, .mv (.k (.c (.int .i64 0))), none, true, []⟩]
def C18r1 : List AOper := [⟨some 8, .ldn 4 (.t 2), none, true, []⟩,
 ⟨some 9, .call (.k (.c (.fn 11 [] []))) [(.t 8)], none, true, []⟩,
 ⟨some 6, .mv (.t 9), none, true, []⟩]
def C18r2 : List AOper := [⟨some 10, .mv (.t 6), none, true, []⟩,
 ⟨some 11, .un .not (.t 10), none, true, []⟩]
def C18r3 : List AOper := [⟨some 4, .mv (.k (.c (.nilp))), none, true, []⟩,
 ⟨some 5, .mv (.k (.c (.int .i64 4))), none, true, []⟩]
def C18r4 : List AOper := [⟨some 12, .ldn 49 (.t 3), none, true, []⟩,
 ⟨some 13, .call (.k (.c (.fn 44 [] []))) [(.t 12)], none, true, []⟩,
 ⟨some 7, .mv (.t 13), none, true, []⟩]
def C18r5 : List AOper := [⟨some 14, .mv (.t 7), none, true, []⟩,
 ⟨some 15, .un .not (.t 14), none, true, []⟩,
 ⟨some 16, .mv (.t 15), none, true, []⟩,
 ⟨some 17, .faddr (.t 3) 38, some (16, false), true, []⟩,
 ⟨some 18, .ld1 (.t 17), some (16, false), true, []⟩,
 ⟨some 19, .faddr (.t 2) 2, some (16, false), true, []⟩,
 ⟨some 20, .ld1 (.t 19), some (16, false), true, []⟩,
 ⟨some 21, .bin .neq (.t 18) (.t 20), some (16, false), true, []⟩,
 ⟨some 22, .pick 16 (.k (.c (.bool true))) (.t 21), none, true, []⟩]
def C18r6 : List AOper := [⟨some 4, .mv (.k (.c (.nilp))), none, true, []⟩,
 ⟨some 5, .mv (.k (.c (.int .i64 1))), none, true, []⟩]
def C18r7 : List AOper := [⟨some 23, .ldn 4 (.t 2), none, false, []⟩,
 ⟨some 24, .ldn 49 (.t 3), none, false, []⟩,
 ⟨some 25, .faddr (.t 2) 3, none, false, []⟩,
 ⟨some 26, .ld1 (.t 25), none, false, []⟩,
 ⟨some 27, .len false (.t 26), none, false, []⟩,
 ⟨some 28, .mkslice 22 1 8 [.c (.int .u64 0)] (.t 27) (.t 27), none, false, []⟩,
 ⟨some 29, .build [.c (.int .u64 0), .c (.int .i64 0), .c (.int .i64 0), .c (.nils), .a 31 (fun _ => .int .u64 0), .a 2 (fun _ => .int .u64 0), .c (.int .u64 0), .c (.bool false), .c (.bool false), .c (.bool false), .c (.bool false), .c (.int .i64 0), .c (.bool false), .c (.int .u64 0), .c (.int .u64 0), .c (.int .u64 0), .c (.int .u64 0), .c (.int .u64 0), .c (.int .u64 0), .c (.int .i64 0), .c (.int .i64 0), .c (.bool false), .c (.nils), .c (.int .i64 0), .c (.bool false), .c (.int .i64 0), .c (.int .u64 0), .c (.int .u64 0), .c (.int .i64 0), .c (.bool false), .c (.int .i64 0), .c (.bool false), .c (.int .i64 0), .c (.int .i64 0), .c (.int .i64 0), .c (.bool false), .c (.bool false), .c (.int .u64 0), .c (.bool false)] [(0, 4, (.t 23)), (4, 49, (.t 24)), (53, 1, (.t 28))], none, true, []⟩,
 ⟨some 30, .box 54 (.t 29), none, true, []⟩,
 ⟨some 4, .mv (.t 30), none, true, []⟩,
 ⟨some 5, .mv (.k (.c (.int .i64 0))), none, true, []⟩]
def C18 : ACode :=
 .seq (.region C18r0)
 (.seq (.region C18r1)
 (.seq (.seq (.region C18r2)
 (.cond (.t 11)
 (.seq (.region C18r3)
 (.ret))
 (.skip)))
 (.seq (.region C18r4)
 (.seq (.seq (.region C18r5)
 (.cond (.t 22)
 (.seq (.region C18r6)
 (.ret))
 (.skip)))
 (.seq (.region C18r7)
 (.ret))))))
theorem C18_ok : stripF Try.prog Try.f18 = some C18 := by kernel_rfl
def C19r0 : List AOper := [⟨some 2, .alloc 49 [.c (.int .i64 0), .c (.int .u64 0), .c (.int .u64 0), .c (.int .i64 0), .c (.bool false), .c (.int .i64 0), .c (.bool false), .c (.int .i64 0), .c (.int .i64 0), .c (.int .i64 0)], none, true, []⟩,
 ⟨some 3, .mv (.k (.c (.bool false))), none, true, []⟩]
def C19r1 : List AOper := [⟨some 4, .mv (.t 0), none, true, []⟩,
 ⟨some 5, .nilchk (.t 4), none, true, []⟩,
 ⟨some 6, .faddr (.t 5) 66, none, true, []⟩,
 ⟨some 7, .ld1 (.t 6), none, true, []⟩,
 ⟨some 8, .un .not (.t 7), none, true, []⟩,
 ⟨some 9, .mv (.t 8), none, true, []⟩,
 ⟨some 10, .mv (.t 0), some (9, true), true, []⟩,
 ⟨some 11, .nilchk (.t 10), some (9, true), true, []⟩,
 ⟨some 12, .faddr (.t 11) 55, some (9, true), true, []⟩,
 ⟨some 13, .ld1 (.t 12), some (9, true), true, []⟩,
 ⟨some 14, .un .not (.t 13), some (9, true), true, []⟩,
 ⟨some 15, .pick 9 (.t 14) (.k (.c (.bool false))), none, true, []⟩]
def C19r2 : List AOper := [⟨some 16, .mv (.t 0), none, false, []⟩,
 ⟨some 17, .mv (.t 0), none, false, []⟩,
 ⟨some 18, .nilchk (.t 17), none, false, []⟩,
 ⟨some 19, .faddr (.t 18) 0, none, false, []⟩,
 ⟨some 20, .faddr (.t 19) 3, none, false, []⟩,
 ⟨some 21, .ld1 (.t 20), none, false, []⟩,
 ⟨some 22, .mv (.t 0), none, false, []⟩,
 ⟨some 23, .nilchk (.t 22), none, false, []⟩,
 ⟨some 24, .faddr (.t 23) 54, none, false, []⟩,
 ⟨some 25, .ld1 (.t 24), none, false, []⟩,
 ⟨some 26, .iaddr 6 (.t 21) (.t 25), none, false, []⟩,
 ⟨some 27, .ldn 6 (.t 26), none, false, []⟩,
 ⟨some 28, .call (.k (.c (.fn 45 [] []))) [(.t 16), (.t 27)], none, true, []⟩]
def C19r3 : List AOper := [⟨some 29, .mv (.t 0), none, true, []⟩,
 ⟨some 30, .nilchk (.t 29), none, true, []⟩,
 ⟨some 31, .faddr (.t 30) 55, none, true, []⟩,
 ⟨some 32, .ld1 (.t 31), none, true, []⟩]
def C19r4 : List AOper := [⟨some 33, .mv (.t 0), none, true, []⟩,
 ⟨some 34, .nilchk (.t 33), none, true, []⟩,
 ⟨some 35, .faddr (.t 34) 56, none, true, []⟩,
 ⟨some 36, .ldn 10 (.t 35), none, true, []⟩,
 ⟨none, .stn 10 (.t 2) (.t 36), none, true, []⟩,
 ⟨some 3, .mv (.k (.c (.bool true))), none, true, []⟩]
def C19r5 : List AOper := [⟨some 37, .build [.c (.int .i64 0), .c (.int .u64 0), .c (.int .u64 0), .c (.int .i64 0), .c (.bool false), .c (.int .i64 0), .c (.bool false), .c (.int .i64 0), .c (.int .i64 0), .c (.int .i64 0)] [], none, true, []⟩,
 ⟨none, .stn 10 (.t 2) (.t 37), none, true, []⟩,
 ⟨some 3, .mv (.k (.c (.bool false))), none, true, []⟩]
def C19 : ACode :=
 .seq (.region C19r0)
 (.seq (.block 0
 (.loop
 (.seq (.seq (.region C19r1)
 (.cond (.t 15)
 (.skip)
 (.exit 0)))
 (.block 1
 (.region C19r2)))))
 (.seq (.seq (.region C19r3)
 (.cond (.t 32)
 (.seq (.region C19r4)
 (.ret))
 (.skip)))
 (.seq (.region C19r5)
 (.ret))))
theorem C19_ok : stripF Try.prog Try.f19 = some C19 := by kernel_rfl
def C20r0 : List AOper := [⟨some 3, .box 56 (.t 1), none, true, []⟩,
 ⟨some 4, .mv (.k (.c (.bool false))), none, true, []⟩]
def C20r1 : List AOper := [⟨some 8, .mv (.t 0), none, true, []⟩,
 ⟨some 9, .nilchk (.t 8), none, true, []⟩,
 ⟨some 10, .faddr (.t 9) 55, none, true, []⟩,
 ⟨some 11, .ld1 (.t 10), none, true, []⟩,
 ⟨some 12, .un .not (.t 11), none, true, []⟩]
def C20r2 : List AOper := [⟨some 4, .mv (.k (.c (.bool false))), none, true, []⟩]
def C20r3 : List AOper := [⟨some 13, .mv (.t 0), none, true, []⟩,
 ⟨some 14, .nilchk (.t 13), none, true, []⟩,
 ⟨some 15, .faddr (.t 14) 54, none, true, []⟩,
 ⟨some 16, .ld1 (.t 15), none, true, []⟩,
 ⟨some 17, .bin .sub (.t 16) (.k (.c (.int .i64 1))), none, true, []⟩,
 ⟨some 5, .mv (.t 17), none, true, []⟩]
def C20r4 : List AOper := [⟨some 18, .mv (.t 0), none, true, []⟩,
 ⟨some 19, .nilchk (.t 18), none, true, []⟩,
 ⟨some 20, .faddr (.t 19) 55, none, true, []⟩,
 ⟨none, .st1 (.t 20) (.k (.c (.bool false))), none, true, []⟩]
def C20r5 : List AOper := [⟨some 21, .mv (.t 0), none, true, []⟩,
 ⟨some 22, .nilchk (.t 21), none, true, []⟩,
 ⟨some 23, .faddr (.t 22) 0, none, true, []⟩,
 ⟨some 24, .faddr (.t 23) 3, none, true, []⟩,
 ⟨some 25, .ld1 (.t 24), none, true, []⟩,
 ⟨some 26, .mv (.t 5), none, true, []⟩,
 ⟨some 27, .iaddr 6 (.t 25) (.t 26), none, true, []⟩,
 ⟨some 28, .ldn 6 (.t 27), none, true, []⟩,
 ⟨some 6, .alloc 39 [.c (.int .i64 0), .c (.int .i64 0), .c (.int .i64 0), .c (.int .i64 0), .c (.int .i64 0), .c (.int .u64 0)], none, true, []⟩,
 ⟨none, .stn 6 (.t 6) (.t 28), none, true, []⟩]
def C20r6 : List AOper := [⟨some 29, .ldn 6 (.t 6), none, true, []⟩,
 ⟨some 30, .call (.k (.c (.fn 41 [] []))) [(.t 29)], none, true, []⟩,
 ⟨some 7, .mv (.t 30), none, true, []⟩]
def C20r7 : List AOper := [⟨some 32, .mv (.t 7), none, true, []⟩,
 ⟨some 33, .un .not (.t 32), none, true, []⟩,
 ⟨some 31, .mv (.t 33), none, true, []⟩]
def C20r8 : List AOper := [⟨some 35, .faddr (.t 3) 2, none, true, []⟩,
 ⟨some 36, .ld1 (.t 35), none, true, []⟩,
 ⟨some 37, .bin .neq (.t 36) (.k (.c (.int .i64 0))), none, true, []⟩,
 ⟨some 34, .mv (.t 37), none, true, []⟩]
def C20r9 : List AOper := [⟨some 38, .mv (.t 0), none, true, []⟩,
 ⟨some 39, .nilchk (.t 38), none, true, []⟩,
 ⟨some 40, .faddr (.t 39) 66, none, true, []⟩,
 ⟨none, .st1 (.t 40) (.k (.c (.bool true))), none, true, []⟩]
def C20r10 : List AOper := [⟨some 41, .mv (.t 0), none, true, []⟩,
 ⟨some 42, .nilchk (.t 41), none, true, []⟩,
 ⟨some 43, .faddr (.t 42) 67, none, true, []⟩,
 ⟨none, .st1 (.t 43) (.k (.c (.bool true))), none, true, []⟩]
def C20r11 : List AOper := [⟨some 45, .faddr (.t 6) 0, none, true, []⟩,
 ⟨some 46, .ld1 (.t 45), none, true, []⟩,
 ⟨some 47, .bin .eql (.t 46) (.k (.c (.int .i64 12))), none, true, []⟩,
 ⟨some 44, .mv (.t 47), none, true, []⟩]
def C20r12 : List AOper := [⟨some 48, .mv (.t 0), none, true, []⟩,
 ⟨some 49, .nilchk (.t 48), none, true, []⟩,
 ⟨some 50, .faddr (.t 49) 53, none, true, []⟩,
 ⟨some 51, .ld1 (.t 50), none, true, []⟩,
 ⟨some 52, .mv (.t 5), none, true, []⟩,
 ⟨some 53, .iaddr 1 (.t 51) (.t 52), none, true, []⟩,
 ⟨none, .st1 (.t 53) (.k (.c (.int .u64 1))), none, true, []⟩]
def C20r13 : List AOper := [⟨some 54, .faddr (.t 3) 1, none, true, []⟩,
 ⟨some 55, .ld1 (.t 54), none, true, []⟩]
def C20r14 : List AOper := [⟨some 56, .mv (.t 0), none, true, []⟩,
 ⟨some 57, .nilchk (.t 56), none, true, []⟩,
 ⟨some 58, .faddr (.t 57) 53, none, true, []⟩,
 ⟨some 59, .ld1 (.t 58), none, true, []⟩,
 ⟨some 60, .mv (.t 5), none, true, []⟩,
 ⟨some 61, .iaddr 1 (.t 59) (.t 60), none, true, []⟩,
 ⟨none, .st1 (.t 61) (.k (.c (.int .u64 0))), none, true, []⟩]
def C20r15 : List AOper := [⟨some 63, .faddr (.t 6) 0, none, true, []⟩,
 ⟨some 64, .ld1 (.t 63), none, true, []⟩,
 ⟨some 65, .bin .neq (.t 64) (.k (.c (.int .i64 10))), none, true, []⟩,
 ⟨some 62, .mv (.t 65), none, true, []⟩]
def C20r16 : List AOper := [⟨some 66, .mv (.t 0), none, false, []⟩,
 ⟨some 67, .nilchk (.t 66), none, false, []⟩,
 ⟨some 68, .faddr (.t 67) 53, none, false, []⟩,
 ⟨some 69, .ld1 (.t 68), none, false, []⟩,
 ⟨some 70, .mv (.t 5), none, false, []⟩,
 ⟨some 71, .faddr (.t 3) 0, none, false, []⟩,
 ⟨some 72, .ld1 (.t 71), none, false, []⟩,
 ⟨some 73, .iaddr 1 (.t 69) (.t 70), none, true, []⟩,
 ⟨none, .st1 (.t 73) (.t 72), none, true, []⟩]
def C20r17 : List AOper := [⟨some 4, .mv (.k (.c (.bool true))), none, true, []⟩]
def C20 : ACode :=
 .seq (.region C20r0)
 (.seq (.seq (.region C20r1)
 (.cond (.t 12)
 (.seq (.region C20r2)
 (.ret))
 (.skip)))
 (.seq (.region C20r3)
 (.seq (.region C20r4)
 (.seq (.region C20r5)
 (.seq (.region C20r6)
 (.seq (.block 0
 (.seq (.region C20r7)
 (.cond (.t 31)
 (.skip)
 (.seq (.region C20r8)
 (.cond (.t 34)
 (.seq (.region C20r9)
 (.region C20r10))
 (.seq (.region C20r11)
 (.cond (.t 44)
 (.seq (.region C20r12)
 (.seq (.region C20r13)
 (.cond (.t 55)
 (.region C20r14)
 (.skip))))
 (.seq (.region C20r15)
 (.cond (.t 62)
 (.region C20r16)
 (.skip))))))))))
 (.seq (.region C20r17)
 (.ret))))))))
theorem C20_ok : stripF Try.prog Try.f20 = some C20 := by kernel_rfl
def C33r0 : List AOper := [⟨some 6, .mv (.k (.c (.bool false))), none, true, []⟩]
def C33r1 : List AOper := [⟨some 7, .mv (.t 0), none, true, []⟩,
 ⟨some 8, .mv (.t 1), none, true, []⟩,
 ⟨some 9, .bin .geq (.t 7) (.t 8), none, true, []⟩,
 ⟨some 10, .mv (.t 9), none, true, []⟩,
 ⟨some 11, .mv (.t 0), some (10, true), true, []⟩,
 ⟨some 12, .mv (.t 2), some (10, true), true, []⟩,
 ⟨some 13, .bin .leq (.t 11) (.t 12), some (10, true), true, []⟩,
 ⟨some 14, .pick 10 (.t 13) (.k (.c (.bool false))), none, true, []⟩,
 ⟨some 6, .mv (.t 14), none, true, []⟩]
def C33 : ACode :=
 .seq (.region C33r0)
 (.seq (.region C33r1)
 (.ret))
theorem C33_ok : stripF Try.prog Try.f33 = some C33 := by kernel_rfl
def C34r0 : List AOper := [⟨some 1, .box 39 (.t 0), none, true, []⟩,
 ⟨some 2, .mv (.k (.c (.bool false))), none, true, []⟩]
def C34r1 : List AOper := [⟨some 6, .faddr (.t 1) 1, none, true, []⟩,
 ⟨some 7, .ld1 (.t 6), none, true, []⟩,
 ⟨some 8, .bin .eql (.t 7) (.k (.c (.int .i64 0))), none, true, []⟩,
 ⟨some 3, .mv (.t 8), none, true, []⟩]
def C34r2 : List AOper := [⟨some 9, .faddr (.t 1) 4, none, true, []⟩,
 ⟨some 10, .ld1 (.t 9), none, true, []⟩,
 ⟨some 11, .bin .eql (.t 10) (.k (.c (.int .i64 0))), none, true, []⟩,
 ⟨some 4, .mv (.t 11), none, true, []⟩]
def C34r3 : List AOper := [⟨some 12, .faddr (.t 1) 5, none, true, []⟩,
 ⟨some 13, .ld1 (.t 12), none, true, []⟩,
 ⟨some 14, .bin .eql (.t 13) (.k (.c (.int .u64 0))), none, true, []⟩,
 ⟨some 5, .mv (.t 14), none, true, []⟩]
def C34r4 : List AOper := [⟨some 15, .faddr (.t 1) 0, none, true, []⟩,
 ⟨some 16, .ld1 (.t 15), none, true, []⟩]
def C34r5 : List AOper := [⟨some 18, .bin .eql (.t 16) (.k (.c (.int .i64 1))), none, true, []⟩,
 ⟨some 17, .mv (.t 18), none, true, []⟩]
def C34r6 : List AOper := [⟨some 19, .bin .eql (.t 16) (.k (.c (.int .i64 15))), none, true, []⟩,
 ⟨some 17, .mv (.t 19), none, true, []⟩]
def C34r7 : List AOper := [⟨some 20, .bin .eql (.t 16) (.k (.c (.int .i64 16))), none, true, []⟩,
 ⟨some 17, .mv (.t 20), none, true, []⟩]
def C34r8 : List AOper := [⟨some 5, .mv (.k (.c (.bool true))), none, true, []⟩]
def C34r9 : List AOper := [⟨some 22, .bin .eql (.t 16) (.k (.c (.int .i64 14))), none, true, []⟩,
 ⟨some 21, .mv (.t 22), none, true, []⟩]
def C34r10 : List AOper := [⟨some 23, .faddr (.t 1) 5, none, true, []⟩,
 ⟨some 24, .ld1 (.t 23), none, true, []⟩,
 ⟨some 25, .bin .rem (.t 24) (.k (.c (.int .u64 4))), none, true, []⟩,
 ⟨some 26, .bin .eql (.t 25) (.k (.c (.int .u64 0))), none, true, []⟩,
 ⟨some 5, .mv (.t 26), none, true, []⟩]
def C34r11 : List AOper := [⟨some 28, .bin .eql (.t 16) (.k (.c (.int .i64 18))), none, true, []⟩,
 ⟨some 27, .mv (.t 28), none, true, []⟩]
def C34r12 : List AOper := [⟨some 29, .faddr (.t 1) 5, none, true, []⟩,
 ⟨some 30, .ld1 (.t 29), none, true, []⟩,
 ⟨some 31, .bin .lss (.t 30) (.k (.c (.int .u64 4294967296))), none, true, []⟩,
 ⟨some 5, .mv (.t 31), none, true, []⟩]
def C34r13 : List AOper := [⟨some 33, .bin .eql (.t 16) (.k (.c (.int .i64 2))), none, true, []⟩,
 ⟨some 32, .mv (.t 33), none, true, []⟩]
def C34r14 : List AOper := [⟨some 34, .bin .eql (.t 16) (.k (.c (.int .i64 3))), none, true, []⟩,
 ⟨some 32, .mv (.t 34), none, true, []⟩]
def C34r15 : List AOper := [⟨some 35, .faddr (.t 1) 1, none, true, []⟩,
 ⟨some 36, .ld1 (.t 35), none, true, []⟩,
 ⟨some 37, .call (.k (.c (.fn 33 [] []))) [(.t 36), (.k (.c (.int .i64 0))), (.k (.c (.int .i64 30)))], none, true, []⟩,
 ⟨some 3, .mv (.t 37), none, true, []⟩]
def C34r16 : List AOper := [⟨some 39, .bin .eql (.t 16) (.k (.c (.int .i64 6))), none, true, []⟩,
 ⟨some 38, .mv (.t 39), none, true, []⟩]
def C34r17 : List AOper := [⟨some 40, .bin .eql (.t 16) (.k (.c (.int .i64 7))), none, true, []⟩,
 ⟨some 38, .mv (.t 40), none, true, []⟩]
def C34r18 : List AOper := [⟨some 41, .faddr (.t 1) 1, none, true, []⟩,
 ⟨some 42, .ld1 (.t 41), none, true, []⟩,
 ⟨some 43, .call (.k (.c (.fn 33 [] []))) [(.t 42), (.k (.c (.int .i64 0))), (.k (.c (.int .i64 3)))], none, true, []⟩,
 ⟨some 3, .mv (.t 43), none, true, []⟩]
def C34r19 : List AOper := [⟨some 45, .bin .eql (.t 16) (.k (.c (.int .i64 8))), none, true, []⟩,
 ⟨some 44, .mv (.t 45), none, true, []⟩]
def C34r20 : List AOper := [⟨some 46, .faddr (.t 1) 1, none, true, []⟩,
 ⟨some 47, .ld1 (.t 46), none, true, []⟩,
 ⟨some 48, .call (.k (.c (.fn 33 [] []))) [(.t 47), (.k (.c (.int .i64 1))), (.k (.c (.int .i64 15)))], none, true, []⟩,
 ⟨some 3, .mv (.t 48), none, true, []⟩]
def C34r21 : List AOper := [⟨some 50, .bin .eql (.t 16) (.k (.c (.int .i64 13))), none, true, []⟩,
 ⟨some 49, .mv (.t 50), none, true, []⟩]
def C34r22 : List AOper := [⟨some 51, .faddr (.t 1) 1, none, true, []⟩,
 ⟨some 52, .ld1 (.t 51), none, true, []⟩,
 ⟨some 53, .bin .eql (.t 52) (.k (.c (.int .i64 13))), none, true, []⟩,
 ⟨some 54, .mv (.t 53), none, true, []⟩,
 ⟨some 55, .faddr (.t 1) 1, some (54, false), true, []⟩,
 ⟨some 56, .ld1 (.t 55), some (54, false), true, []⟩,
 ⟨some 57, .bin .eql (.t 56) (.k (.c (.int .i64 10))), some (54, false), true, []⟩,
 ⟨some 58, .pick 54 (.k (.c (.bool true))) (.t 57), none, true, []⟩,
 ⟨some 59, .mv (.t 58), none, true, []⟩,
 ⟨some 60, .faddr (.t 1) 1, some (59, false), true, []⟩,
 ⟨some 61, .ld1 (.t 60), some (59, false), true, []⟩,
 ⟨some 62, .bin .eql (.t 61) (.k (.c (.int .i64 15))), some (59, false), true, []⟩,
 ⟨some 63, .pick 59 (.k (.c (.bool true))) (.t 62), none, true, []⟩,
 ⟨some 3, .mv (.t 63), none, true, []⟩]
def C34r23 : List AOper := [⟨some 65, .bin .eql (.t 16) (.k (.c (.int .i64 9))), none, true, []⟩,
 ⟨some 64, .mv (.t 65), none, true, []⟩]
def C34r24 : List AOper := [⟨some 66, .faddr (.t 1) 4, none, true, []⟩,
 ⟨some 67, .ld1 (.t 66), none, true, []⟩,
 ⟨some 68, .call (.k (.c (.fn 33 [] []))) [(.t 67), (.k (.c (.int .i64 0))), (.k (.c (.int .i64 2)))], none, true, []⟩,
 ⟨some 4, .mv (.t 68), none, true, []⟩]
def C34r25 : List AOper := [⟨some 70, .bin .eql (.t 16) (.k (.c (.int .i64 11))), none, true, []⟩,
 ⟨some 69, .mv (.t 70), none, true, []⟩]
def C34r26 : List AOper := [⟨some 71, .faddr (.t 1) 4, none, true, []⟩,
 ⟨some 72, .ld1 (.t 71), none, true, []⟩,
 ⟨some 73, .bin .eql (.t 72) (.k (.c (.int .i64 0))), none, true, []⟩,
 ⟨some 74, .mv (.t 73), none, true, []⟩,
 ⟨some 75, .faddr (.t 1) 4, some (74, false), true, []⟩,
 ⟨some 76, .ld1 (.t 75), some (74, false), true, []⟩,
 ⟨some 77, .bin .eql (.t 76) (.k (.c (.int .i64 2))), some (74, false), true, []⟩,
 ⟨some 78, .pick 74 (.k (.c (.bool true))) (.t 77), none, true, []⟩,
 ⟨some 4, .mv (.t 78), none, true, []⟩]
def C34r27 : List AOper := [⟨some 80, .bin .eql (.t 16) (.k (.c (.int .i64 10))), none, true, []⟩,
 ⟨some 79, .mv (.t 80), none, true, []⟩]
def C34r28 : List AOper := [⟨some 81, .bin .eql (.t 16) (.k (.c (.int .i64 12))), none, true, []⟩,
 ⟨some 79, .mv (.t 81), none, true, []⟩]
def C34r29 : List AOper := [⟨some 82, .faddr (.t 1) 4, none, true, []⟩,
 ⟨some 83, .ld1 (.t 82), none, true, []⟩,
 ⟨some 84, .bin .eql (.t 83) (.k (.c (.int .i64 0))), none, true, []⟩,
 ⟨some 85, .mv (.t 84), none, true, []⟩,
 ⟨some 86, .faddr (.t 1) 4, some (85, false), true, []⟩,
 ⟨some 87, .ld1 (.t 86), some (85, false), true, []⟩,
 ⟨some 88, .bin .eql (.t 87) (.k (.c (.int .i64 4))), some (85, false), true, []⟩,
 ⟨some 89, .pick 85 (.k (.c (.bool true))) (.t 88), none, true, []⟩,
 ⟨some 4, .mv (.t 89), none, true, []⟩]
def C34r30 : List AOper := [⟨some 91, .bin .eql (.t 16) (.k (.c (.int .i64 4))), none, true, []⟩,
 ⟨some 90, .mv (.t 91), none, true, []⟩]
def C34r31 : List AOper := [⟨some 92, .bin .eql (.t 16) (.k (.c (.int .i64 5))), none, true, []⟩,
 ⟨some 90, .mv (.t 92), none, true, []⟩]
def C34r32 : List AOper := [⟨some 93, .bin .eql (.t 16) (.k (.c (.int .i64 17))), none, true, []⟩,
 ⟨some 90, .mv (.t 93), none, true, []⟩]
def C34r33 : List AOper := [⟨some 2, .mv (.k (.c (.bool false))), none, true, []⟩]
def C34r34 : List AOper := [⟨some 94, .mv (.t 3), none, true, []⟩,
 ⟨some 95, .mv (.t 94), none, true, []⟩,
 ⟨some 96, .mv (.t 4), some (95, true), true, []⟩,
 ⟨some 97, .pick 95 (.t 96) (.k (.c (.bool false))), none, true, []⟩,
 ⟨some 98, .mv (.t 97), none, true, []⟩,
 ⟨some 99, .mv (.t 5), some (98, true), true, []⟩,
 ⟨some 100, .pick 98 (.t 99) (.k (.c (.bool false))), none, true, []⟩,
 ⟨some 2, .mv (.t 100), none, true, []⟩]
def C34 : ACode :=
 .seq (.region C34r0)
 (.seq (.region C34r1)
 (.seq (.region C34r2)
 (.seq (.region C34r3)
 (.seq (.seq (.region C34r4)
 (.block 0
 (.seq (.seq (.region C34r5)
 (.cond (.t 17)
 (.skip)
 (.seq (.region C34r6)
 (.cond (.t 17)
 (.skip)
 (.region C34r7)))))
 (.cond (.t 17)
 (.region C34r8)
 (.seq (.region C34r9)
 (.cond (.t 21)
 (.region C34r10)
 (.seq (.region C34r11)
 (.cond (.t 27)
 (.region C34r12)
 (.seq (.seq (.region C34r13)
 (.cond (.t 32)
 (.skip)
 (.region C34r14)))
 (.cond (.t 32)
 (.region C34r15)
 (.seq (.seq (.region C34r16)
 (.cond (.t 38)
 (.skip)
 (.region C34r17)))
 (.cond (.t 38)
 (.region C34r18)
 (.seq (.region C34r19)
 (.cond (.t 44)
 (.region C34r20)
 (.seq (.region C34r21)
 (.cond (.t 49)
 (.region C34r22)
 (.seq (.region C34r23)
 (.cond (.t 64)
 (.region C34r24)
 (.seq (.region C34r25)
 (.cond (.t 69)
 (.region C34r26)
 (.seq (.seq (.region C34r27)
 (.cond (.t 79)
 (.skip)
 (.region C34r28)))
 (.cond (.t 79)
 (.region C34r29)
 (.seq (.seq (.region C34r30)
 (.cond (.t 90)
 (.skip)
 (.seq (.region C34r31)
 (.cond (.t 90)
 (.skip)
 (.region C34r32)))))
 (.cond (.t 90)
 (.skip)
 (.seq (.region C34r33)
 (.ret))))))))))))))))))))))))))
 (.seq (.region C34r34)
 (.ret))))))
theorem C34_ok : stripF Try.prog Try.f34 = some C34 := by kernel_rfl
def C35r0 : List AOper := [⟨some 1, .box 39 (.t 0), none, true, []⟩,
 ⟨some 2, .mv (.k (.c (.nils))), none, true, []⟩]
def C35r1 : List AOper := [⟨some 3, .faddr (.t 1) 0, none, true, []⟩,
 ⟨some 4, .ld1 (.t 3), none, true, []⟩,
 ⟨some 5, .call (.k (.c (.fn 53 [] []))) [(.t 4)], none, true, []⟩]
def C35r2 : List AOper := [⟨some 7, .bin .eql (.t 5) (.k (.c (.int .i64 1))), none, true, []⟩,
 ⟨some 6, .mv (.t 7), none, true, []⟩]
def C35r3 : List AOper := [⟨some 8, .faddr (.t 1) 2, none, true, []⟩,
 ⟨some 9, .ld1 (.t 8), none, true, []⟩,
 ⟨some 10, .bslice 3 1 [.c (.int .i64 0)] 1 [(0, 1, (.t 9))], none, true, []⟩,
 ⟨some 2, .mv (.t 10), none, true, []⟩]
def C35r4 : List AOper := [⟨some 12, .bin .eql (.t 5) (.k (.c (.int .i64 2))), none, true, []⟩,
 ⟨some 11, .mv (.t 12), none, true, []⟩]
def C35r5 : List AOper := [⟨some 13, .faddr (.t 1) 2, none, true, []⟩,
 ⟨some 14, .ld1 (.t 13), none, true, []⟩,
 ⟨some 15, .faddr (.t 1) 3, none, true, []⟩,
 ⟨some 16, .ld1 (.t 15), none, true, []⟩,
 ⟨some 17, .bslice 3 1 [.c (.int .i64 0)] 2 [(0, 1, (.t 14)), (1, 1, (.t 16))], none, true, []⟩,
 ⟨some 2, .mv (.t 17), none, true, []⟩]
def C35r6 : List AOper := [⟨some 2, .mv (.k (.c (.nils))), none, true, []⟩]
def C35 : ACode :=
 .seq (.region C35r0)
 (.seq (.seq (.region C35r1)
 (.block 0
 (.seq (.region C35r2)
 (.cond (.t 6)
 (.seq (.region C35r3)
 (.ret))
 (.seq (.region C35r4)
 (.cond (.t 11)
 (.seq (.region C35r5)
 (.ret))
 (.skip)))))))
 (.seq (.region C35r6)
 (.ret)))
theorem C35_ok : stripF Try.prog Try.f35 = some C35 := by kernel_rfl
def C36r0 : List AOper := [⟨some 1, .box 39 (.t 0), none, true, []⟩,
 ⟨some 2, .mv (.k (.c (.bool false))), none, true, []⟩]
def C36r1 : List AOper := [⟨some 3, .faddr (.t 1) 0, none, true, []⟩,
 ⟨some 4, .ld1 (.t 3), none, true, []⟩]
def C36r2 : List AOper := [⟨some 6, .bin .eql (.t 4) (.k (.c (.int .i64 1))), none, true, []⟩,
 ⟨some 5, .mv (.t 6), none, true, []⟩]
def C36r3 : List AOper := [⟨some 7, .bin .eql (.t 4) (.k (.c (.int .i64 2))), none, true, []⟩,
 ⟨some 5, .mv (.t 7), none, true, []⟩]
def C36r4 : List AOper := [⟨some 8, .bin .eql (.t 4) (.k (.c (.int .i64 4))), none, true, []⟩,
 ⟨some 5, .mv (.t 8), none, true, []⟩]
def C36r5 : List AOper := [⟨some 9, .bin .eql (.t 4) (.k (.c (.int .i64 6))), none, true, []⟩,
 ⟨some 5, .mv (.t 9), none, true, []⟩]
def C36r6 : List AOper := [⟨some 10, .bin .eql (.t 4) (.k (.c (.int .i64 8))), none, true, []⟩,
 ⟨some 5, .mv (.t 10), none, true, []⟩]
def C36r7 : List AOper := [⟨some 11, .bin .eql (.t 4) (.k (.c (.int .i64 9))), none, true, []⟩,
 ⟨some 5, .mv (.t 11), none, true, []⟩]
def C36r8 : List AOper := [⟨some 12, .bin .eql (.t 4) (.k (.c (.int .i64 11))), none, true, []⟩,
 ⟨some 5, .mv (.t 12), none, true, []⟩]
def C36r9 : List AOper := [⟨some 13, .bin .eql (.t 4) (.k (.c (.int .i64 12))), none, true, []⟩,
 ⟨some 5, .mv (.t 13), none, true, []⟩]
def C36r10 : List AOper := [⟨some 2, .mv (.k (.c (.bool true))), none, true, []⟩]
def C36r11 : List AOper := [⟨some 2, .mv (.k (.c (.bool false))), none, true, []⟩]
def C36 : ACode :=
 .seq (.region C36r0)
 (.seq (.seq (.region C36r1)
 (.block 0
 (.seq (.seq (.region C36r2)
 (.cond (.t 5)
 (.skip)
 (.seq (.region C36r3)
 (.cond (.t 5)
 (.skip)
 (.seq (.region C36r4)
 (.cond (.t 5)
 (.skip)
 (.seq (.region C36r5)
 (.cond (.t 5)
 (.skip)
 (.seq (.region C36r6)
 (.cond (.t 5)
 (.skip)
 (.seq (.region C36r7)
 (.cond (.t 5)
 (.skip)
 (.seq (.region C36r8)
 (.cond (.t 5)
 (.skip)
 (.region C36r9)))))))))))))))
 (.cond (.t 5)
 (.seq (.region C36r10)
 (.ret))
 (.skip)))))
 (.seq (.region C36r11)
 (.ret)))
theorem C36_ok : stripF Try.prog Try.f36 = some C36 := by kernel_rfl
def C41r0 : List AOper := [⟨some 1, .box 39 (.t 0), none, true, []⟩,
 ⟨some 2, .mv (.k (.c (.bool false))), none, true, []⟩]
def C41r1 : List AOper := [⟨some 3, .faddr (.t 1) 0, none, true, []⟩,
 ⟨some 4, .ld1 (.t 3), none, true, []⟩]
def C41r2 : List AOper := [⟨some 6, .bin .eql (.t 4) (.k (.c (.int .i64 9))), none, true, []⟩,
 ⟨some 5, .mv (.t 6), none, true, []⟩]
def C41r3 : List AOper := [⟨some 7, .bin .eql (.t 4) (.k (.c (.int .i64 10))), none, true, []⟩,
 ⟨some 5, .mv (.t 7), none, true, []⟩]
def C41r4 : List AOper := [⟨some 8, .bin .eql (.t 4) (.k (.c (.int .i64 11))), none, true, []⟩,
 ⟨some 5, .mv (.t 8), none, true, []⟩]
def C41r5 : List AOper := [⟨some 9, .bin .eql (.t 4) (.k (.c (.int .i64 12))), none, true, []⟩,
 ⟨some 5, .mv (.t 9), none, true, []⟩]
def C41r6 : List AOper := [⟨some 2, .mv (.k (.c (.bool true))), none, true, []⟩]
def C41r7 : List AOper := [⟨some 2, .mv (.k (.c (.bool false))), none, true, []⟩]
def C41 : ACode :=
 .seq (.region C41r0)
 (.seq (.seq (.region C41r1)
 (.block 0
 (.seq (.seq (.region C41r2)
 (.cond (.t 5)
 (.skip)
 (.seq (.region C41r3)
 (.cond (.t 5)
 (.skip)
 (.seq (.region C41r4)
 (.cond (.t 5)
 (.skip)
 (.region C41r5)))))))
 (.cond (.t 5)
 (.seq (.region C41r6)
 (.ret))
 (.skip)))))
 (.seq (.region C41r7)
 (.ret)))
theorem C41_ok : stripF Try.prog Try.f41 = some C41 := by kernel_rfl
def C44r0 : List AOper := [⟨some 1, .box 43 (.t 0), none, true, []⟩,
 ⟨some 2, .mv (.k (.c (.bool false))), none, true, []⟩]
def C44r1 : List AOper := [⟨some 3, .faddr (.t 1) 38, none, true, []⟩,
 ⟨some 4, .ld1 (.t 3), none, true, []⟩,
 ⟨some 5, .bin .eql (.t 4) (.k (.c (.int .i64 0))), none, true, []⟩,
 ⟨some 6, .mv (.t 5), none, true, []⟩,
 ⟨some 7, .faddr (.t 1) 38, some (6, false), true, []⟩,
 ⟨some 8, .ld1 (.t 7), some (6, false), true, []⟩,
 ⟨some 9, .bin .eql (.t 8) (.k (.c (.int .i64 1))), some (6, false), true, []⟩,
 ⟨some 10, .pick 6 (.k (.c (.bool true))) (.t 9), none, true, []⟩,
 ⟨some 11, .mv (.t 10), none, true, []⟩,
 ⟨some 12, .faddr (.t 1) 47, some (11, true), true, []⟩,
 ⟨some 13, .ld1 (.t 12), some (11, true), true, []⟩,
 ⟨some 14, .bin .geq (.t 13) (.k (.c (.int .i64 0))), some (11, true), true, []⟩,
 ⟨some 15, .pick 11 (.t 14) (.k (.c (.bool false))), none, true, []⟩,
 ⟨some 16, .mv (.t 15), none, true, []⟩,
 ⟨some 17, .faddr (.t 1) 47, some (16, true), true, []⟩,
 ⟨some 18, .ld1 (.t 17), some (16, true), true, []⟩,
 ⟨some 19, .bin .leq (.t 18) (.k (.c (.int .i64 2))), some (16, true), true, []⟩,
 ⟨some 20, .pick 16 (.t 19) (.k (.c (.bool false))), none, true, []⟩,
 ⟨some 21, .mv (.t 20), none, true, []⟩,
 ⟨some 22, .faddr (.t 1) 46, some (21, true), true, []⟩,
 ⟨some 23, .ld1 (.t 22), some (21, true), true, []⟩,
 ⟨some 24, .bin .geq (.t 23) (.k (.c (.int .i64 0))), some (21, true), true, []⟩,
 ⟨some 25, .pick 21 (.t 24) (.k (.c (.bool false))), none, true, []⟩,
 ⟨some 26, .mv (.t 25), none, true, []⟩,
 ⟨some 27, .faddr (.t 1) 46, some (26, true), true, []⟩,
 ⟨some 28, .ld1 (.t 27), some (26, true), true, []⟩,
 ⟨some 29, .bin .leq (.t 28) (.k (.c (.int .i64 7))), some (26, true), true, []⟩,
 ⟨some 30, .pick 26 (.t 29) (.k (.c (.bool false))), none, true, []⟩,
 ⟨some 2, .mv (.t 30), none, true, []⟩]
def C44 : ACode :=
 .seq (.region C44r0)
 (.seq (.region C44r1)
 (.ret))
theorem C44_ok : stripF Try.prog Try.f44 = some C44 := by kernel_rfl
def C45r0 : List AOper := [⟨some 3, .box 39 (.t 1), none, true, []⟩]
def C45r1 : List AOper := [⟨some 7, .mv (.t 0), none, true, []⟩,
 ⟨some 8, .nilchk (.t 7), none, true, []⟩,
 ⟨some 9, .faddr (.t 8) 54, none, true, []⟩,
 ⟨some 10, .ld1 (.t 9), none, true, []⟩,
 ⟨some 4, .mv (.t 10), none, true, []⟩]
def C45r2 : List AOper := [⟨some 11, .mv (.t 0), none, true, []⟩,
 ⟨some 12, .nilchk (.t 11), none, true, []⟩,
 ⟨some 13, .faddr (.t 12) 54, none, true, []⟩,
 ⟨some 14, .ld1 (.t 13), none, true, []⟩,
 ⟨some 15, .bin .add (.t 14) (.k (.c (.int .i64 1))), none, true, []⟩,
 ⟨some 16, .nilchk (.t 11), none, true, []⟩,
 ⟨some 17, .faddr (.t 16) 54, none, true, []⟩,
 ⟨none, .st1 (.t 17) (.t 15), none, true, []⟩]
def C45r3 : List AOper := [⟨some 18, .mv (.t 0), none, false, []⟩,
 ⟨some 19, .nilchk (.t 18), none, false, []⟩,
 ⟨some 20, .faddr (.t 19) 53, none, false, []⟩,
 ⟨some 21, .ld1 (.t 20), none, false, []⟩,
 ⟨some 22, .faddr (.t 3) 2, none, false, []⟩,
 ⟨some 23, .ld1 (.t 22), none, false, []⟩,
 ⟨some 24, .iaddr 1 (.t 21) (.t 23), none, true, []⟩,
 ⟨some 25, .ld1 (.t 24), none, true, []⟩,
 ⟨some 5, .mv (.t 25), none, true, []⟩]
def C45r4 : List AOper := [⟨some 26, .mv (.t 0), none, false, []⟩,
 ⟨some 27, .nilchk (.t 26), none, false, []⟩,
 ⟨some 28, .faddr (.t 27) 53, none, false, []⟩,
 ⟨some 29, .ld1 (.t 28), none, false, []⟩,
 ⟨some 30, .faddr (.t 3) 3, none, false, []⟩,
 ⟨some 31, .ld1 (.t 30), none, false, []⟩,
 ⟨some 32, .iaddr 1 (.t 29) (.t 31), none, true, []⟩,
 ⟨some 33, .ld1 (.t 32), none, true, []⟩,
 ⟨some 6, .mv (.t 33), none, true, []⟩]
def C45r5 : List AOper := [⟨some 34, .faddr (.t 3) 0, none, true, []⟩,
 ⟨some 35, .ld1 (.t 34), none, true, []⟩]
def C45r6 : List AOper := [⟨some 42, .bin .eql (.t 35) (.k (.c (.int .i64 1))), none, true, []⟩,
 ⟨some 41, .mv (.t 42), none, true, []⟩]
def C45r7 : List AOper := [⟨some 43, .mv (.t 0), none, false, []⟩,
 ⟨some 44, .nilchk (.t 43), none, false, []⟩,
 ⟨some 45, .faddr (.t 44) 53, none, false, []⟩,
 ⟨some 46, .ld1 (.t 45), none, false, []⟩,
 ⟨some 47, .mv (.t 4), none, false, []⟩,
 ⟨some 48, .faddr (.t 3) 5, none, false, []⟩,
 ⟨some 49, .ld1 (.t 48), none, false, []⟩,
 ⟨some 50, .iaddr 1 (.t 46) (.t 47), none, true, []⟩,
 ⟨none, .st1 (.t 50) (.t 49), none, true, []⟩]
def C45r8 : List AOper := [⟨some 52, .bin .eql (.t 35) (.k (.c (.int .i64 2))), none, true, []⟩,
 ⟨some 51, .mv (.t 52), none, true, []⟩]
def C45r9 : List AOper := [⟨some 53, .mv (.t 0), none, false, []⟩,
 ⟨some 54, .nilchk (.t 53), none, false, []⟩,
 ⟨some 55, .faddr (.t 54) 53, none, false, []⟩,
 ⟨some 56, .ld1 (.t 55), none, false, []⟩,
 ⟨some 57, .mv (.t 4), none, false, []⟩,
 ⟨some 58, .mv (.t 0), none, false, []⟩,
 ⟨some 59, .faddr (.t 3) 1, none, false, []⟩,
 ⟨some 60, .ld1 (.t 59), none, false, []⟩,
 ⟨some 61, .nilchk (.t 58), none, false, []⟩,
 ⟨some 62, .faddr (.t 61) 4, none, false, []⟩,
 ⟨some 63, .faddr (.t 62) 0, none, false, []⟩,
 ⟨some 64, .iaddrA 31 (.t 63) (.t 60), none, false, []⟩,
 ⟨some 65, .ld1 (.t 64), none, false, []⟩,
 ⟨some 66, .iaddr 1 (.t 56) (.t 57), none, true, []⟩,
 ⟨none, .st1 (.t 66) (.t 65), none, true, []⟩]
def C45r10 : List AOper := [⟨some 68, .bin .eql (.t 35) (.k (.c (.int .i64 3))), none, true, []⟩,
 ⟨some 67, .mv (.t 68), none, true, []⟩]
def C45r11 : List AOper := [⟨some 69, .mv (.t 0), none, false, []⟩,
 ⟨some 70, .faddr (.t 3) 1, none, false, []⟩,
 ⟨some 71, .ld1 (.t 70), none, false, []⟩,
 ⟨some 72, .mv (.t 5), none, false, []⟩,
 ⟨some 73, .nilchk (.t 69), none, false, []⟩,
 ⟨some 74, .faddr (.t 73) 4, none, false, []⟩,
 ⟨some 75, .faddr (.t 74) 0, none, false, []⟩,
 ⟨some 76, .iaddrA 31 (.t 75) (.t 71), none, true, []⟩,
 ⟨none, .st1 (.t 76) (.t 72), none, true, []⟩]
def C45r12 : List AOper := [⟨some 78, .bin .eql (.t 35) (.k (.c (.int .i64 4))), none, true, []⟩,
 ⟨some 77, .mv (.t 78), none, true, []⟩]
def C45r13 : List AOper := [⟨some 79, .mv (.t 0), none, false, []⟩,
 ⟨some 80, .nilchk (.t 79), none, false, []⟩,
 ⟨some 81, .faddr (.t 80) 53, none, false, []⟩,
 ⟨some 82, .ld1 (.t 81), none, false, []⟩,
 ⟨some 83, .mv (.t 4), none, false, []⟩,
 ⟨some 84, .mv (.t 0), none, false, []⟩,
 ⟨some 85, .mv (.t 0), none, false, []⟩,
 ⟨some 86, .nilchk (.t 85), none, false, []⟩,
 ⟨some 87, .faddr (.t 86) 0, none, false, []⟩,
 ⟨some 88, .faddr (.t 87) 2, none, false, []⟩,
 ⟨some 89, .ld1 (.t 88), none, false, []⟩,
 ⟨some 90, .nilchk (.t 84), none, false, []⟩,
 ⟨some 91, .faddr (.t 90) 4, none, false, []⟩,
 ⟨some 92, .faddr (.t 91) 31, none, false, []⟩,
 ⟨some 93, .iaddrA 2 (.t 92) (.t 89), none, false, []⟩,
 ⟨some 94, .ld1 (.t 93), none, false, []⟩,
 ⟨some 95, .iaddr 1 (.t 82) (.t 83), none, true, []⟩,
 ⟨none, .st1 (.t 95) (.t 94), none, true, []⟩]
def C45r14 : List AOper := [⟨some 97, .bin .eql (.t 35) (.k (.c (.int .i64 5))), none, true, []⟩,
 ⟨some 96, .mv (.t 97), none, true, []⟩]
def C45r15 : List AOper := [⟨some 98, .mv (.t 0), none, false, []⟩,
 ⟨some 99, .mv (.t 0), none, false, []⟩,
 ⟨some 100, .nilchk (.t 99), none, false, []⟩,
 ⟨some 101, .faddr (.t 100) 0, none, false, []⟩,
 ⟨some 102, .faddr (.t 101) 2, none, false, []⟩,
 ⟨some 103, .ld1 (.t 102), none, false, []⟩,
 ⟨some 104, .mv (.t 5), none, false, []⟩,
 ⟨some 105, .nilchk (.t 98), none, false, []⟩,
 ⟨some 106, .faddr (.t 105) 4, none, false, []⟩,
 ⟨some 107, .faddr (.t 106) 31, none, false, []⟩,
 ⟨some 108, .iaddrA 2 (.t 107) (.t 103), none, true, []⟩,
 ⟨none, .st1 (.t 108) (.t 104), none, true, []⟩]
def C45r16 : List AOper := [⟨some 110, .bin .eql (.t 35) (.k (.c (.int .i64 6))), none, true, []⟩,
 ⟨some 109, .mv (.t 110), none, true, []⟩]
def C45r17 : List AOper := [⟨some 111, .mv (.t 0), none, false, []⟩,
 ⟨some 112, .nilchk (.t 111), none, false, []⟩,
 ⟨some 113, .faddr (.t 112) 53, none, false, []⟩,
 ⟨some 114, .ld1 (.t 113), none, false, []⟩,
 ⟨some 115, .mv (.t 4), none, false, []⟩,
 ⟨some 116, .mv (.t 0), none, false, []⟩,
 ⟨some 117, .nilchk (.t 116), none, false, []⟩,
 ⟨some 118, .faddr (.t 117) 4, none, false, []⟩,
 ⟨some 119, .ldn 49 (.t 118), none, false, []⟩,
 ⟨some 120, .faddr (.t 3) 1, none, false, []⟩,
 ⟨some 121, .ld1 (.t 120), none, false, []⟩,
 ⟨some 122, .call (.k (.c (.fn 61 [] []))) [(.t 119), (.t 121)], none, false, []⟩,
 ⟨some 123, .iaddr 1 (.t 114) (.t 115), none, true, []⟩,
 ⟨none, .st1 (.t 123) (.t 122), none, true, []⟩]
def C45r18 : List AOper := [⟨some 125, .bin .eql (.t 35) (.k (.c (.int .i64 7))), none, true, []⟩,
 ⟨some 124, .mv (.t 125), none, true, []⟩]
def C45r19 : List AOper := [⟨some 126, .mv (.t 0), none, true, []⟩,
 ⟨some 127, .faddr (.t 3) 1, none, true, []⟩,
 ⟨some 128, .ld1 (.t 127), none, true, []⟩,
 ⟨some 129, .mv (.t 5), none, true, []⟩,
 ⟨some 130, .bin .neq (.t 129) (.k (.c (.int .u64 0))), none, true, []⟩,
 ⟨some 131, .call (.k (.c (.fn 62 [] []))) [(.t 126), (.t 128), (.t 130)], none, true, []⟩]
def C45r20 : List AOper := [⟨some 133, .bin .eql (.t 35) (.k (.c (.int .i64 8))), none, true, []⟩,
 ⟨some 132, .mv (.t 133), none, true, []⟩]
def C45r21 : List AOper := [⟨some 135, .mv (.t 0), none, false, []⟩,
 ⟨some 136, .nilchk (.t 135), none, false, []⟩,
 ⟨some 137, .faddr (.t 136) 53, none, false, []⟩,
 ⟨some 138, .ld1 (.t 137), none, false, []⟩,
 ⟨some 139, .mv (.t 4), none, false, []⟩,
 ⟨some 140, .faddr (.t 3) 1, none, false, []⟩,
 ⟨some 141, .ld1 (.t 140), none, false, []⟩,
 ⟨some 142, .mv (.t 5), none, false, []⟩,
 ⟨some 143, .mv (.t 6), none, false, []⟩,
 ⟨some 144, .call (.k (.c (.fn 63 [] []))) [(.t 141), (.t 142), (.t 143)], none, false, []⟩,
 ⟨some 134, .mv (.t 144), none, false, []⟩,
 ⟨some 145, .ext (.t 134) 0, none, false, []⟩,
 ⟨some 146, .ext (.t 134) 1, none, false, []⟩,
 ⟨some 147, .iaddr 1 (.t 138) (.t 139), none, false, []⟩,
 ⟨none, .st1 (.t 147) (.t 145), none, true, []⟩]
def C45r22 : List AOper := [⟨some 149, .bin .eql (.t 35) (.k (.c (.int .i64 13))), none, true, []⟩,
 ⟨some 148, .mv (.t 149), none, true, []⟩]
def C45r23 : List AOper := [⟨some 150, .mv (.t 0), none, true, []⟩,
 ⟨some 151, .faddr (.t 3) 1, none, true, []⟩,
 ⟨some 152, .ld1 (.t 151), none, true, []⟩,
 ⟨some 153, .build [.c (.int .i64 0), .c (.int .u64 0), .c (.int .u64 0), .c (.int .i64 0), .c (.bool false), .c (.int .i64 0), .c (.bool false), .c (.int .i64 0), .c (.int .i64 0), .c (.int .i64 0)] [(0, 1, (.k (.c (.int .i64 6)))), (5, 1, (.t 152))], none, true, []⟩,
 ⟨some 154, .call (.k (.c (.fn 64 [] []))) [(.t 150), (.t 153)], none, true, []⟩]
def C45r24 : List AOper := [⟨some 156, .bin .eql (.t 35) (.k (.c (.int .i64 14))), none, true, []⟩,
 ⟨some 155, .mv (.t 156), none, true, []⟩]
def C45r25 : List AOper := [⟨some 157, .mv (.t 0), none, true, []⟩,
 ⟨some 158, .faddr (.t 3) 5, none, true, []⟩,
 ⟨some 159, .ld1 (.t 158), none, true, []⟩,
 ⟨some 160, .nilchk (.t 157), none, true, []⟩,
 ⟨some 161, .faddr (.t 160) 4, none, true, []⟩,
 ⟨some 162, .faddr (.t 161) 33, none, true, []⟩,
 ⟨none, .st1 (.t 162) (.t 159), none, true, []⟩]
def C45r26 : List AOper := [⟨some 164, .bin .eql (.t 35) (.k (.c (.int .i64 15))), none, true, []⟩,
 ⟨some 163, .mv (.t 164), none, true, []⟩]
def C45r27 : List AOper := [⟨some 165, .mv (.t 5), none, true, []⟩,
 ⟨some 166, .bin .neq (.t 165) (.k (.c (.int .u64 0))), none, true, []⟩]
def C45r28 : List AOper := [⟨some 167, .mv (.t 0), none, true, []⟩,
 ⟨some 168, .faddr (.t 3) 5, none, true, []⟩,
 ⟨some 169, .ld1 (.t 168), none, true, []⟩,
 ⟨some 170, .nilchk (.t 167), none, true, []⟩,
 ⟨some 171, .faddr (.t 170) 4, none, true, []⟩,
 ⟨some 172, .faddr (.t 171) 33, none, true, []⟩,
 ⟨none, .st1 (.t 172) (.t 169), none, true, []⟩]
def C45r29 : List AOper := [⟨some 173, .mv (.t 0), none, true, []⟩,
 ⟨some 174, .nilchk (.t 173), none, true, []⟩,
 ⟨some 175, .faddr (.t 174) 66, none, true, []⟩,
 ⟨none, .st1 (.t 175) (.k (.c (.bool true))), none, true, []⟩]
def C45r30 : List AOper := [⟨some 177, .bin .eql (.t 35) (.k (.c (.int .i64 16))), none, true, []⟩,
 ⟨some 176, .mv (.t 177), none, true, []⟩]
def C45r31 : List AOper := [⟨some 178, .mv (.t 0), none, true, []⟩,
 ⟨some 179, .faddr (.t 3) 5, none, true, []⟩,
 ⟨some 180, .ld1 (.t 179), none, true, []⟩,
 ⟨some 181, .nilchk (.t 178), none, true, []⟩,
 ⟨some 182, .faddr (.t 181) 4, none, true, []⟩,
 ⟨some 183, .faddr (.t 182) 33, none, true, []⟩,
 ⟨none, .st1 (.t 183) (.t 180), none, true, []⟩]
def C45r32 : List AOper := [⟨some 184, .mv (.t 0), none, true, []⟩,
 ⟨some 185, .nilchk (.t 184), none, true, []⟩,
 ⟨some 186, .faddr (.t 185) 66, none, true, []⟩,
 ⟨none, .st1 (.t 186) (.k (.c (.bool true))), none, true, []⟩]
def C45r33 : List AOper := [⟨some 188, .bin .eql (.t 35) (.k (.c (.int .i64 17))), none, true, []⟩,
 ⟨some 187, .mv (.t 188), none, true, []⟩]
def C45r34 : List AOper := [⟨some 189, .mv (.t 0), none, true, []⟩,
 ⟨some 190, .mv (.t 5), none, true, []⟩,
 ⟨some 191, .nilchk (.t 189), none, true, []⟩,
 ⟨some 192, .faddr (.t 191) 4, none, true, []⟩,
 ⟨some 193, .faddr (.t 192) 33, none, true, []⟩,
 ⟨none, .st1 (.t 193) (.t 190), none, true, []⟩]
def C45r35 : List AOper := [⟨some 194, .mv (.t 0), none, true, []⟩,
 ⟨some 195, .nilchk (.t 194), none, true, []⟩,
 ⟨some 196, .faddr (.t 195) 66, none, true, []⟩,
 ⟨none, .st1 (.t 196) (.k (.c (.bool true))), none, true, []⟩]
def C45r36 : List AOper := [⟨some 198, .bin .eql (.t 35) (.k (.c (.int .i64 18))), none, true, []⟩,
 ⟨some 197, .mv (.t 198), none, true, []⟩]
def C45r37 : List AOper := [⟨some 199, .mv (.t 0), none, true, []⟩,
 ⟨some 200, .faddr (.t 3) 5, none, true, []⟩,
 ⟨some 201, .ld1 (.t 200), none, true, []⟩,
 ⟨some 202, .nilchk (.t 199), none, true, []⟩,
 ⟨some 203, .faddr (.t 202) 68, none, true, []⟩,
 ⟨none, .st1 (.t 203) (.t 201), none, true, []⟩]
def C45r38 : List AOper := [⟨some 204, .mv (.t 0), none, true, []⟩,
 ⟨some 205, .nilchk (.t 204), none, true, []⟩,
 ⟨some 206, .faddr (.t 205) 69, none, true, []⟩,
 ⟨none, .st1 (.t 206) (.k (.c (.bool true))), none, true, []⟩]
def C45r39 : List AOper := [⟨some 207, .mv (.t 0), none, true, []⟩,
 ⟨some 208, .nilchk (.t 207), none, true, []⟩,
 ⟨some 209, .faddr (.t 208) 66, none, true, []⟩,
 ⟨none, .st1 (.t 209) (.k (.c (.bool true))), none, true, []⟩]
def C45r40 : List AOper := [⟨some 36, .mv (.t 0), none, true, []⟩,
 ⟨some 37, .ldn 6 (.t 3), none, true, []⟩,
 ⟨some 38, .mv (.t 5), none, true, []⟩,
 ⟨some 39, .mv (.t 6), none, true, []⟩,
 ⟨some 40, .call (.k (.c (.fn 65 [] []))) [(.t 36), (.t 37), (.t 38), (.t 39)], none, true, []⟩]
def C45 : ACode :=
 .seq (.region C45r0)
 (.seq (.region C45r1)
 (.seq (.region C45r2)
 (.seq (.region C45r3)
 (.seq (.region C45r4)
 (.seq (.region C45r5)
 (.block 0
 (.seq (.region C45r6)
 (.cond (.t 41)
 (.region C45r7)
 (.seq (.region C45r8)
 (.cond (.t 51)
 (.region C45r9)
 (.seq (.region C45r10)
 (.cond (.t 67)
 (.region C45r11)
 (.seq (.region C45r12)
 (.cond (.t 77)
 (.region C45r13)
 (.seq (.region C45r14)
 (.cond (.t 96)
 (.region C45r15)
 (.seq (.region C45r16)
 (.cond (.t 109)
 (.region C45r17)
 (.seq (.region C45r18)
 (.cond (.t 124)
 (.region C45r19)
 (.seq (.region C45r20)
 (.cond (.t 132)
 (.region C45r21)
 (.seq (.region C45r22)
 (.cond (.t 148)
 (.region C45r23)
 (.seq (.region C45r24)
 (.cond (.t 155)
 (.region C45r25)
 (.seq (.region C45r26)
 (.cond (.t 163)
 (.seq (.region C45r27)
 (.cond (.t 166)
 (.seq (.region C45r28)
 (.region C45r29))
 (.skip)))
 (.seq (.region C45r30)
 (.cond (.t 176)
 (.seq (.region C45r31)
 (.region C45r32))
 (.seq (.region C45r33)
 (.cond (.t 187)
 (.seq (.region C45r34)
 (.region C45r35))
 (.seq (.region C45r36)
 (.cond (.t 197)
 (.seq (.region C45r37)
 (.seq (.region C45r38)
 (.region C45r39)))
 (.region C45r40)))))))))))))))))))))))))))))))))))
theorem C45_ok : stripF Try.prog Try.f45 = some C45 := by kernel_rfl
def C53r0 : List AOper := [⟨some 2, .mv (.k (.c (.int .i64 0))), none, true, []⟩]
def C53r1 : List AOper := [⟨some 3, .mv (.t 0), none, true, []⟩]
def C53r2 : List AOper := [⟨some 5, .bin .eql (.t 3) (.k (.c (.int .i64 3))), none, true, []⟩,
 ⟨some 4, .mv (.t 5), none, true, []⟩]
def C53r3 : List AOper := [⟨some 6, .bin .eql (.t 3) (.k (.c (.int .i64 5))), none, true, []⟩,
 ⟨some 4, .mv (.t 6), none, true, []⟩]
def C53r4 : List AOper := [⟨some 7, .bin .eql (.t 3) (.k (.c (.int .i64 7))), none, true, []⟩,
 ⟨some 4, .mv (.t 7), none, true, []⟩]
def C53r5 : List AOper := [⟨some 8, .bin .eql (.t 3) (.k (.c (.int .i64 9))), none, true, []⟩,
 ⟨some 4, .mv (.t 8), none, true, []⟩]
def C53r6 : List AOper := [⟨some 9, .bin .eql (.t 3) (.k (.c (.int .i64 11))), none, true, []⟩,
 ⟨some 4, .mv (.t 9), none, true, []⟩]
def C53r7 : List AOper := [⟨some 10, .bin .eql (.t 3) (.k (.c (.int .i64 15))), none, true, []⟩,
 ⟨some 4, .mv (.t 10), none, true, []⟩]
def C53r8 : List AOper := [⟨some 11, .bin .eql (.t 3) (.k (.c (.int .i64 17))), none, true, []⟩,
 ⟨some 4, .mv (.t 11), none, true, []⟩]
def C53r9 : List AOper := [⟨some 2, .mv (.k (.c (.int .i64 1))), none, true, []⟩]
def C53r10 : List AOper := [⟨some 13, .bin .eql (.t 3) (.k (.c (.int .i64 8))), none, true, []⟩,
 ⟨some 12, .mv (.t 13), none, true, []⟩]
def C53r11 : List AOper := [⟨some 14, .bin .eql (.t 3) (.k (.c (.int .i64 10))), none, true, []⟩,
 ⟨some 12, .mv (.t 14), none, true, []⟩]
def C53r12 : List AOper := [⟨some 15, .bin .eql (.t 3) (.k (.c (.int .i64 12))), none, true, []⟩,
 ⟨some 12, .mv (.t 15), none, true, []⟩]
def C53r13 : List AOper := [⟨some 2, .mv (.k (.c (.int .i64 2))), none, true, []⟩]
def C53r14 : List AOper := [⟨some 2, .mv (.k (.c (.int .i64 0))), none, true, []⟩]
def C53 : ACode :=
 .seq (.region C53r0)
 (.seq (.seq (.region C53r1)
 (.block 0
 (.seq (.seq (.region C53r2)
 (.cond (.t 4)
 (.skip)
 (.seq (.region C53r3)
 (.cond (.t 4)
 (.skip)
 (.seq (.region C53r4)
 (.cond (.t 4)
 (.skip)
 (.seq (.region C53r5)
 (.cond (.t 4)
 (.skip)
 (.seq (.region C53r6)
 (.cond (.t 4)
 (.skip)
 (.seq (.region C53r7)
 (.cond (.t 4)
 (.skip)
 (.region C53r8)))))))))))))
 (.cond (.t 4)
 (.seq (.region C53r9)
 (.ret))
 (.seq (.seq (.region C53r10)
 (.cond (.t 12)
 (.skip)
 (.seq (.region C53r11)
 (.cond (.t 12)
 (.skip)
 (.region C53r12)))))
 (.cond (.t 12)
 (.seq (.region C53r13)
 (.ret))
 (.skip)))))))
 (.seq (.region C53r14)
 (.ret)))
theorem C53_ok : stripF Try.prog Try.f53 = some C53 := by kernel_rfl
def C61r0 : List AOper := [⟨some 2, .box 43 (.t 0), none, true, []⟩,
 ⟨some 4, .mv (.k (.c (.int .u64 0))), none, true, []⟩]
def C61r1 : List AOper := [⟨some 6, .faddr (.t 2) 34, none, true, []⟩,
 ⟨some 7, .ld1 (.t 6), none, true, []⟩,
 ⟨some 8, .faddr (.t 2) 35, none, true, []⟩,
 ⟨some 9, .ld1 (.t 8), none, true, []⟩,
 ⟨some 10, .faddr (.t 2) 36, none, true, []⟩,
 ⟨some 11, .ld1 (.t 10), none, true, []⟩,
 ⟨some 12, .faddr (.t 2) 37, none, true, []⟩,
 ⟨some 13, .ld1 (.t 12), none, true, []⟩,
 ⟨some 14, .bslice 4 1 [.c (.bool false)] 4 [(0, 1, (.t 7)), (1, 1, (.t 9)), (2, 1, (.t 11)), (3, 1, (.t 13))], none, true, []⟩,
 ⟨some 5, .mv (.t 14), none, true, []⟩]
def C61r2 : List AOper := [⟨some 15, .mv (.t 5), none, true, []⟩,
 ⟨some 16, .mv (.t 1), none, true, []⟩,
 ⟨some 17, .iaddr 1 (.t 15) (.t 16), none, true, []⟩,
 ⟨some 18, .ld1 (.t 17), none, true, []⟩]
def C61r3 : List AOper := [⟨some 4, .mv (.k (.c (.int .u64 1))), none, true, []⟩]
def C61r4 : List AOper := [⟨some 4, .mv (.k (.c (.int .u64 0))), none, true, []⟩]
def C61 : ACode :=
 .seq (.region C61r0)
 (.seq (.region C61r1)
 (.seq (.seq (.region C61r2)
 (.cond (.t 18)
 (.seq (.region C61r3)
 (.ret))
 (.skip)))
 (.seq (.region C61r4)
 (.ret))))
theorem C61_ok : stripF Try.prog Try.f61 = some C61 := by kernel_rfl
def C62r0 : List AOper := [⟨some 6, .mv (.t 1), none, true, []⟩]
def C62r1 : List AOper := [⟨some 13, .bin .eql (.t 6) (.k (.c (.int .i64 0))), none, true, []⟩,
 ⟨some 12, .mv (.t 13), none, true, []⟩]
def C62r2 : List AOper := [⟨some 14, .mv (.t 0), none, true, []⟩,
 ⟨some 15, .mv (.t 2), none, true, []⟩,
 ⟨some 16, .nilchk (.t 14), none, true, []⟩,
 ⟨some 17, .faddr (.t 16) 4, none, true, []⟩,
 ⟨some 18, .faddr (.t 17) 34, none, true, []⟩,
 ⟨none, .st1 (.t 18) (.t 15), none, true, []⟩]
def C62r3 : List AOper := [⟨some 20, .bin .eql (.t 6) (.k (.c (.int .i64 1))), none, true, []⟩,
 ⟨some 19, .mv (.t 20), none, true, []⟩]
def C62r4 : List AOper := [⟨some 21, .mv (.t 0), none, true, []⟩,
 ⟨some 22, .mv (.t 2), none, true, []⟩,
 ⟨some 23, .nilchk (.t 21), none, true, []⟩,
 ⟨some 24, .faddr (.t 23) 4, none, true, []⟩,
 ⟨some 25, .faddr (.t 24) 35, none, true, []⟩,
 ⟨none, .st1 (.t 25) (.t 22), none, true, []⟩]
def C62r5 : List AOper := [⟨some 27, .bin .eql (.t 6) (.k (.c (.int .i64 2))), none, true, []⟩,
 ⟨some 26, .mv (.t 27), none, true, []⟩]
def C62r6 : List AOper := [⟨some 28, .mv (.t 0), none, true, []⟩,
 ⟨some 29, .mv (.t 2), none, true, []⟩,
 ⟨some 30, .nilchk (.t 28), none, true, []⟩,
 ⟨some 31, .faddr (.t 30) 4, none, true, []⟩,
 ⟨some 32, .faddr (.t 31) 36, none, true, []⟩,
 ⟨none, .st1 (.t 32) (.t 29), none, true, []⟩]
def C62r7 : List AOper := [⟨some 7, .mv (.t 0), none, true, []⟩,
 ⟨some 8, .mv (.t 2), none, true, []⟩,
 ⟨some 9, .nilchk (.t 7), none, true, []⟩,
 ⟨some 10, .faddr (.t 9) 4, none, true, []⟩,
 ⟨some 11, .faddr (.t 10) 37, none, true, []⟩,
 ⟨none, .st1 (.t 11) (.t 8), none, true, []⟩]
def C62 : ACode :=
 .seq (.region C62r0)
 (.block 0
 (.seq (.region C62r1)
 (.cond (.t 12)
 (.region C62r2)
 (.seq (.region C62r3)
 (.cond (.t 19)
 (.region C62r4)
 (.seq (.region C62r5)
 (.cond (.t 26)
 (.region C62r6)
 (.region C62r7))))))))
theorem C62_ok : stripF Try.prog Try.f62 = some C62 := by kernel_rfl
def C63r0 : List AOper := [⟨some 6, .mv (.k (.c (.int .u64 0))), none, true, []⟩,
 ⟨some 7, .mv (.k (.c (.bool false))), none, true, []⟩]
def C63r1 : List AOper := [⟨some 10, .mv (.t 2), none, true, []⟩,
 ⟨some 11, .bin .rem (.t 10) (.k (.c (.int .u64 64))), none, true, []⟩,
 ⟨some 12, .conv .i64 (.t 11), none, true, []⟩,
 ⟨some 8, .mv (.t 12), none, true, []⟩]
def C63r2 : List AOper := [⟨some 13, .mv (.t 0), none, true, []⟩]
def C63r3 : List AOper := [⟨some 15, .bin .eql (.t 13) (.k (.c (.int .i64 1))), none, true, []⟩,
 ⟨some 14, .mv (.t 15), none, true, []⟩]
def C63r4 : List AOper := [⟨some 16, .mv (.t 1), none, true, []⟩,
 ⟨some 17, .mv (.t 2), none, true, []⟩,
 ⟨some 18, .bin .add (.t 16) (.t 17), none, true, []⟩,
 ⟨some 6, .mv (.t 18), none, true, []⟩,
 ⟨some 7, .mv (.k (.c (.bool true))), none, true, []⟩]
def C63r5 : List AOper := [⟨some 20, .bin .eql (.t 13) (.k (.c (.int .i64 2))), none, true, []⟩,
 ⟨some 19, .mv (.t 20), none, true, []⟩]
def C63r6 : List AOper := [⟨some 21, .mv (.t 1), none, true, []⟩,
 ⟨some 22, .mv (.t 2), none, true, []⟩,
 ⟨some 23, .bin .sub (.t 21) (.t 22), none, true, []⟩,
 ⟨some 6, .mv (.t 23), none, true, []⟩,
 ⟨some 7, .mv (.k (.c (.bool true))), none, true, []⟩]
def C63r7 : List AOper := [⟨some 25, .bin .eql (.t 13) (.k (.c (.int .i64 3))), none, true, []⟩,
 ⟨some 24, .mv (.t 25), none, true, []⟩]
def C63r8 : List AOper := [⟨some 26, .mv (.t 1), none, true, []⟩,
 ⟨some 27, .mv (.t 2), none, true, []⟩,
 ⟨some 28, .bin .and (.t 26) (.t 27), none, true, []⟩,
 ⟨some 6, .mv (.t 28), none, true, []⟩,
 ⟨some 7, .mv (.k (.c (.bool true))), none, true, []⟩]
def C63r9 : List AOper := [⟨some 30, .bin .eql (.t 13) (.k (.c (.int .i64 4))), none, true, []⟩,
 ⟨some 29, .mv (.t 30), none, true, []⟩]
def C63r10 : List AOper := [⟨some 31, .mv (.t 1), none, true, []⟩,
 ⟨some 32, .mv (.t 2), none, true, []⟩,
 ⟨some 33, .bin .or (.t 31) (.t 32), none, true, []⟩,
 ⟨some 6, .mv (.t 33), none, true, []⟩,
 ⟨some 7, .mv (.k (.c (.bool true))), none, true, []⟩]
def C63r11 : List AOper := [⟨some 35, .bin .eql (.t 13) (.k (.c (.int .i64 5))), none, true, []⟩,
 ⟨some 34, .mv (.t 35), none, true, []⟩]
def C63r12 : List AOper := [⟨some 36, .mv (.t 1), none, true, []⟩,
 ⟨some 37, .mv (.t 2), none, true, []⟩,
 ⟨some 38, .bin .xor (.t 36) (.t 37), none, true, []⟩,
 ⟨some 6, .mv (.t 38), none, true, []⟩,
 ⟨some 7, .mv (.k (.c (.bool true))), none, true, []⟩]
def C63r13 : List AOper := [⟨some 40, .bin .eql (.t 13) (.k (.c (.int .i64 6))), none, true, []⟩,
 ⟨some 39, .mv (.t 40), none, true, []⟩]
def C63r14 : List AOper := [⟨some 41, .mv (.t 1), none, true, []⟩,
 ⟨some 42, .mv (.t 2), none, true, []⟩,
 ⟨some 43, .bin .mul (.t 41) (.t 42), none, true, []⟩,
 ⟨some 6, .mv (.t 43), none, true, []⟩,
 ⟨some 7, .mv (.k (.c (.bool true))), none, true, []⟩]
def C63r15 : List AOper := [⟨some 45, .bin .eql (.t 13) (.k (.c (.int .i64 7))), none, true, []⟩,
 ⟨some 44, .mv (.t 45), none, true, []⟩]
def C63r16 : List AOper := [⟨some 46, .mv (.t 2), none, true, []⟩,
 ⟨some 47, .bin .eql (.t 46) (.k (.c (.int .u64 0))), none, true, []⟩]
def C63r17 : List AOper := [⟨some 6, .mv (.k (.c (.int .u64 0))), none, true, []⟩,
 ⟨some 7, .mv (.k (.c (.bool true))), none, true, []⟩]
def C63r18 : List AOper := [⟨some 48, .mv (.t 1), none, true, []⟩,
 ⟨some 49, .mv (.t 2), none, true, []⟩,
 ⟨some 50, .bin .quo (.t 48) (.t 49), none, true, []⟩,
 ⟨some 6, .mv (.t 50), none, true, []⟩,
 ⟨some 7, .mv (.k (.c (.bool true))), none, true, []⟩]
def C63r19 : List AOper := [⟨some 52, .bin .eql (.t 13) (.k (.c (.int .i64 8))), none, true, []⟩,
 ⟨some 51, .mv (.t 52), none, true, []⟩]
def C63r20 : List AOper := [⟨some 53, .mv (.t 1), none, true, []⟩,
 ⟨some 54, .mv (.t 2), none, true, []⟩,
 ⟨some 55, .call (.k (.c (.fn 94 [] []))) [(.t 53), (.t 54)], none, true, []⟩,
 ⟨some 6, .mv (.t 55), none, true, []⟩,
 ⟨some 7, .mv (.k (.c (.bool true))), none, true, []⟩]
def C63r21 : List AOper := [⟨some 57, .bin .eql (.t 13) (.k (.c (.int .i64 9))), none, true, []⟩,
 ⟨some 56, .mv (.t 57), none, true, []⟩]
def C63r22 : List AOper := [⟨some 9, .mv (.k (.c (.int .i64 0))), none, true, []⟩]
def C63r23 : List AOper := [⟨some 58, .mv (.t 9), none, true, []⟩,
 ⟨some 59, .mv (.t 8), none, true, []⟩,
 ⟨some 60, .bin .lss (.t 58) (.t 59), none, true, []⟩]
def C63r24 : List AOper := [⟨some 63, .mv (.t 1), none, true, []⟩,
 ⟨some 64, .mv (.t 1), none, true, []⟩,
 ⟨some 65, .bin .add (.t 63) (.t 64), none, true, []⟩,
 ⟨some 1, .mv (.t 65), none, true, []⟩]
def C63r25 : List AOper := [⟨some 61, .mv (.t 9), none, true, []⟩,
 ⟨some 62, .bin .add (.t 61) (.k (.c (.int .i64 1))), none, true, []⟩,
 ⟨some 9, .mv (.t 62), none, true, []⟩]
def C63r26 : List AOper := [⟨some 66, .mv (.t 1), none, true, []⟩,
 ⟨some 6, .mv (.t 66), none, true, []⟩,
 ⟨some 7, .mv (.k (.c (.bool true))), none, true, []⟩]
def C63r27 : List AOper := [⟨some 68, .bin .eql (.t 13) (.k (.c (.int .i64 10))), none, true, []⟩,
 ⟨some 67, .mv (.t 68), none, true, []⟩]
def C63r28 : List AOper := [⟨some 69, .mv (.t 1), none, true, []⟩,
 ⟨some 70, .mv (.t 8), none, true, []⟩,
 ⟨some 71, .call (.k (.c (.fn 95 [] []))) [(.t 69), (.t 70), (.k (.c (.int .i64 0)))], none, true, []⟩,
 ⟨some 6, .mv (.t 71), none, true, []⟩,
 ⟨some 7, .mv (.k (.c (.bool true))), none, true, []⟩]
def C63r29 : List AOper := [⟨some 73, .bin .eql (.t 13) (.k (.c (.int .i64 11))), none, true, []⟩,
 ⟨some 72, .mv (.t 73), none, true, []⟩]
def C63r30 : List AOper := [⟨some 74, .mv (.t 1), none, true, []⟩,
 ⟨some 75, .mv (.t 8), none, true, []⟩,
 ⟨some 76, .mv (.t 1), none, true, []⟩,
 ⟨some 77, .bin .shr (.t 76) (.k (.c (.int .u64 63))), none, true, []⟩,
 ⟨some 78, .conv .i64 (.t 77), none, true, []⟩,
 ⟨some 79, .call (.k (.c (.fn 95 [] []))) [(.t 74), (.t 75), (.t 78)], none, true, []⟩,
 ⟨some 6, .mv (.t 79), none, true, []⟩,
 ⟨some 7, .mv (.k (.c (.bool true))), none, true, []⟩]
def C63r31 : List AOper := [⟨some 81, .bin .eql (.t 13) (.k (.c (.int .i64 12))), none, true, []⟩,
 ⟨some 80, .mv (.t 81), none, true, []⟩]
def C63r32 : List AOper := [⟨some 82, .mv (.t 1), none, true, []⟩,
 ⟨some 83, .mv (.t 8), none, true, []⟩,
 ⟨some 84, .call (.k (.c (.fn 95 [] []))) [(.t 82), (.t 83), (.k (.c (.int .i64 2)))], none, true, []⟩,
 ⟨some 6, .mv (.t 84), none, true, []⟩,
 ⟨some 7, .mv (.k (.c (.bool true))), none, true, []⟩]
def C63r33 : List AOper := [⟨some 86, .bin .eql (.t 13) (.k (.c (.int .i64 13))), none, true, []⟩,
 ⟨some 85, .mv (.t 86), none, true, []⟩]
def C63r34 : List AOper := [⟨some 87, .mv (.t 1), none, true, []⟩,
 ⟨some 88, .mv (.t 2), none, true, []⟩,
 ⟨some 89, .bin .eql (.t 87) (.t 88), none, true, []⟩,
 ⟨some 90, .call (.k (.c (.fn 96 [] []))) [(.t 89)], none, true, []⟩,
 ⟨some 6, .mv (.t 90), none, true, []⟩,
 ⟨some 7, .mv (.k (.c (.bool true))), none, true, []⟩]
def C63r35 : List AOper := [⟨some 92, .bin .eql (.t 13) (.k (.c (.int .i64 14))), none, true, []⟩,
 ⟨some 91, .mv (.t 92), none, true, []⟩]
def C63r36 : List AOper := [⟨some 93, .mv (.t 1), none, true, []⟩,
 ⟨some 94, .mv (.t 2), none, true, []⟩,
 ⟨some 95, .bin .lss (.t 93) (.t 94), none, true, []⟩,
 ⟨some 96, .call (.k (.c (.fn 96 [] []))) [(.t 95)], none, true, []⟩,
 ⟨some 6, .mv (.t 96), none, true, []⟩,
 ⟨some 7, .mv (.k (.c (.bool true))), none, true, []⟩]
def C63r37 : List AOper := [⟨some 98, .bin .eql (.t 13) (.k (.c (.int .i64 15))), none, true, []⟩,
 ⟨some 97, .mv (.t 98), none, true, []⟩]
def C63r38 : List AOper := [⟨some 99, .mv (.t 1), none, true, []⟩,
 ⟨some 100, .mv (.t 2), none, true, []⟩,
 ⟨some 101, .call (.k (.c (.fn 97 [] []))) [(.t 99), (.t 100)], none, true, []⟩,
 ⟨some 102, .call (.k (.c (.fn 96 [] []))) [(.t 101)], none, true, []⟩,
 ⟨some 6, .mv (.t 102), none, true, []⟩,
 ⟨some 7, .mv (.k (.c (.bool true))), none, true, []⟩]
def C63r39 : List AOper := [⟨some 6, .mv (.k (.c (.int .u64 0))), none, true, []⟩,
 ⟨some 7, .mv (.k (.c (.bool false))), none, true, []⟩]
def C63 : ACode :=
 .seq (.region C63r0)
 (.seq (.region C63r1)
 (.seq (.seq (.region C63r2)
 (.block 0
 (.seq (.region C63r3)
 (.cond (.t 14)
 (.seq (.region C63r4)
 (.ret))
 (.seq (.region C63r5)
 (.cond (.t 19)
 (.seq (.region C63r6)
 (.ret))
 (.seq (.region C63r7)
 (.cond (.t 24)
 (.seq (.region C63r8)
 (.ret))
 (.seq (.region C63r9)
 (.cond (.t 29)
 (.seq (.region C63r10)
 (.ret))
 (.seq (.region C63r11)
 (.cond (.t 34)
 (.seq (.region C63r12)
 (.ret))
 (.seq (.region C63r13)
 (.cond (.t 39)
 (.seq (.region C63r14)
 (.ret))
 (.seq (.region C63r15)
 (.cond (.t 44)
 (.seq (.seq (.region C63r16)
 (.cond (.t 47)
 (.seq (.region C63r17)
 (.ret))
 (.skip)))
 (.seq (.region C63r18)
 (.ret)))
 (.seq (.region C63r19)
 (.cond (.t 51)
 (.seq (.region C63r20)
 (.ret))
 (.seq (.region C63r21)
 (.cond (.t 56)
 (.seq (.seq (.region C63r22)
 (.block 1
 (.loop
 (.seq (.seq (.region C63r23)
 (.cond (.t 60)
 (.skip)
 (.exit 1)))
 (.seq (.block 2
 (.region C63r24))
 (.region C63r25))))))
 (.seq (.region C63r26)
 (.ret)))
 (.seq (.region C63r27)
 (.cond (.t 67)
 (.seq (.region C63r28)
 (.ret))
 (.seq (.region C63r29)
 (.cond (.t 72)
 (.seq (.region C63r30)
 (.ret))
 (.seq (.region C63r31)
 (.cond (.t 80)
 (.seq (.region C63r32)
 (.ret))
 (.seq (.region C63r33)
 (.cond (.t 85)
 (.seq (.region C63r34)
 (.ret))
 (.seq (.region C63r35)
 (.cond (.t 91)
 (.seq (.region C63r36)
 (.ret))
 (.seq (.region C63r37)
 (.cond (.t 97)
 (.seq (.region C63r38)
 (.ret))
 (.skip)))))))))))))))))))))))))))))))))
 (.seq (.region C63r39)
 (.ret))))
theorem C63_ok : stripF Try.prog Try.f63 = some C63 := by kernel_rfl
def C64r0 : List AOper := [⟨some 3, .box 49 (.t 1), none, true, []⟩]
def C64r1 : List AOper := [⟨some 4, .mv (.t 0), none, true, []⟩,
 ⟨some 5, .nilchk (.t 4), none, true, []⟩,
 ⟨some 6, .faddr (.t 5) 55, none, true, []⟩,
 ⟨none, .st1 (.t 6) (.k (.c (.bool true))), none, true, []⟩]
def C64r2 : List AOper := [⟨some 7, .mv (.t 0), none, true, []⟩,
 ⟨some 8, .ldn 10 (.t 3), none, true, []⟩,
 ⟨some 9, .nilchk (.t 7), none, true, []⟩,
 ⟨some 10, .faddr (.t 9) 56, none, true, []⟩,
 ⟨none, .stn 10 (.t 10) (.t 8), none, true, []⟩]
def C64 : ACode :=
 .seq (.region C64r0)
 (.seq (.region C64r1)
 (.region C64r2))
theorem C64_ok : stripF Try.prog Try.f64 = some C64 := by kernel_rfl
def C65r0 : List AOper := [⟨some 5, .box 39 (.t 1), none, true, []⟩]
def C65r1 : List AOper := [⟨some 9, .mv (.t 2), none, true, []⟩,
 ⟨some 10, .bin .rem (.t 9) (.k (.c (.int .u64 8))), none, true, []⟩,
 ⟨some 11, .bin .neq (.t 10) (.k (.c (.int .u64 0))), none, true, []⟩]
def C65r2 : List AOper := [⟨some 12, .mv (.t 0), none, true, []⟩,
 ⟨some 13, .nilchk (.t 12), none, true, []⟩,
 ⟨some 14, .faddr (.t 13) 66, none, true, []⟩,
 ⟨none, .st1 (.t 14) (.k (.c (.bool true))), none, true, []⟩]
def C65r3 : List AOper := [⟨some 15, .mv (.t 0), none, true, []⟩,
 ⟨some 16, .nilchk (.t 15), none, true, []⟩,
 ⟨some 17, .faddr (.t 16) 67, none, true, []⟩,
 ⟨none, .st1 (.t 17) (.k (.c (.bool true))), none, true, []⟩]
def C65r4 : List AOper := [⟨some 18, .mv (.t 2), none, true, []⟩,
 ⟨some 19, .build [.c (.int .i64 0), .c (.int .u64 0), .c (.int .u64 0), .c (.int .i64 0), .c (.bool false), .c (.int .i64 0), .c (.bool false), .c (.int .i64 0), .c (.int .i64 0), .c (.int .i64 0)] [(1, 1, (.t 18))], none, true, []⟩,
 ⟨some 8, .alloc 49 [.c (.int .i64 0), .c (.int .u64 0), .c (.int .u64 0), .c (.int .i64 0), .c (.bool false), .c (.int .i64 0), .c (.bool false), .c (.int .i64 0), .c (.int .i64 0), .c (.int .i64 0)], none, true, []⟩,
 ⟨none, .stn 10 (.t 8) (.t 19), none, true, []⟩]
def C65r5 : List AOper := [⟨some 20, .faddr (.t 5) 0, none, true, []⟩,
 ⟨some 21, .ld1 (.t 20), none, true, []⟩]
def C65r6 : List AOper := [⟨some 30, .bin .eql (.t 21) (.k (.c (.int .i64 9))), none, true, []⟩,
 ⟨some 29, .mv (.t 30), none, true, []⟩]
def C65r7 : List AOper := [⟨some 31, .faddr (.t 8) 0, none, true, []⟩,
 ⟨none, .st1 (.t 31) (.k (.c (.int .i64 1))), none, true, []⟩]
def C65r8 : List AOper := [⟨some 32, .faddr (.t 5) 4, none, true, []⟩,
 ⟨some 33, .ld1 (.t 32), none, true, []⟩,
 ⟨some 34, .faddr (.t 8) 3, none, true, []⟩,
 ⟨none, .st1 (.t 34) (.t 33), none, true, []⟩]
def C65r9 : List AOper := [⟨some 36, .bin .eql (.t 21) (.k (.c (.int .i64 11))), none, true, []⟩,
 ⟨some 35, .mv (.t 36), none, true, []⟩]
def C65r10 : List AOper := [⟨some 37, .faddr (.t 8) 0, none, true, []⟩,
 ⟨none, .st1 (.t 37) (.k (.c (.int .i64 3))), none, true, []⟩]
def C65r11 : List AOper := [⟨some 38, .faddr (.t 5) 4, none, true, []⟩,
 ⟨some 39, .ld1 (.t 38), none, true, []⟩,
 ⟨some 40, .faddr (.t 8) 3, none, true, []⟩,
 ⟨none, .st1 (.t 40) (.t 39), none, true, []⟩]
def C65r12 : List AOper := [⟨some 42, .bin .eql (.t 21) (.k (.c (.int .i64 10))), none, true, []⟩,
 ⟨some 41, .mv (.t 42), none, true, []⟩]
def C65r13 : List AOper := [⟨some 43, .faddr (.t 8) 0, none, true, []⟩,
 ⟨none, .st1 (.t 43) (.k (.c (.int .i64 2))), none, true, []⟩]
def C65r14 : List AOper := [⟨some 44, .mv (.t 3), none, true, []⟩,
 ⟨some 45, .faddr (.t 8) 2, none, true, []⟩,
 ⟨none, .st1 (.t 45) (.t 44), none, true, []⟩]
def C65r15 : List AOper := [⟨some 46, .faddr (.t 5) 4, none, true, []⟩,
 ⟨some 47, .ld1 (.t 46), none, true, []⟩,
 ⟨some 48, .bin .eql (.t 47) (.k (.c (.int .i64 4))), none, true, []⟩,
 ⟨some 49, .faddr (.t 8) 4, none, true, []⟩,
 ⟨none, .st1 (.t 49) (.t 48), none, true, []⟩]
def C65r16 : List AOper := [⟨some 22, .faddr (.t 8) 0, none, true, []⟩,
 ⟨none, .st1 (.t 22) (.k (.c (.int .i64 4))), none, true, []⟩]
def C65r17 : List AOper := [⟨some 23, .mv (.t 3), none, true, []⟩,
 ⟨some 24, .faddr (.t 8) 2, none, true, []⟩,
 ⟨none, .st1 (.t 24) (.t 23), none, true, []⟩]
def C65r18 : List AOper := [⟨some 25, .faddr (.t 5) 4, none, true, []⟩,
 ⟨some 26, .ld1 (.t 25), none, true, []⟩,
 ⟨some 27, .bin .eql (.t 26) (.k (.c (.int .i64 4))), none, true, []⟩,
 ⟨some 28, .faddr (.t 8) 4, none, true, []⟩,
 ⟨none, .st1 (.t 28) (.t 27), none, true, []⟩]
def C65r19 : List AOper := [⟨some 50, .mv (.t 0), none, true, []⟩,
 ⟨some 51, .ldn 10 (.t 8), none, true, []⟩,
 ⟨some 52, .call (.k (.c (.fn 64 [] []))) [(.t 50), (.t 51)], none, true, []⟩]
def C65 : ACode :=
 .seq (.region C65r0)
 (.seq (.seq (.region C65r1)
 (.cond (.t 11)
 (.seq (.region C65r2)
 (.seq (.region C65r3)
 (.ret)))
 (.skip)))
 (.seq (.region C65r4)
 (.seq (.seq (.region C65r5)
 (.block 0
 (.seq (.region C65r6)
 (.cond (.t 29)
 (.seq (.region C65r7)
 (.region C65r8))
 (.seq (.region C65r9)
 (.cond (.t 35)
 (.seq (.region C65r10)
 (.region C65r11))
 (.seq (.region C65r12)
 (.cond (.t 41)
 (.seq (.region C65r13)
 (.seq (.region C65r14)
 (.region C65r15)))
 (.seq (.region C65r16)
 (.seq (.region C65r17)
 (.region C65r18)))))))))))
 (.region C65r19))))
theorem C65_ok : stripF Try.prog Try.f65 = some C65 := by kernel_rfl
def C94r0 : List AOper := [⟨some 4, .mv (.k (.c (.int .u64 0))), none, true, []⟩]
def C94r1 : List AOper := [⟨some 8, .mv (.t 1), none, true, []⟩,
 ⟨some 9, .bin .eql (.t 8) (.k (.c (.int .u64 0))), none, true, []⟩]
def C94r2 : List AOper := [⟨some 4, .mv (.k (.c (.int .u64 0))), none, true, []⟩]
def C94r3 : List AOper := [⟨some 10, .mv (.t 0), none, true, []⟩,
 ⟨some 5, .mv (.t 10), none, true, []⟩]
def C94r4 : List AOper := [⟨some 11, .mv (.t 1), none, true, []⟩,
 ⟨some 6, .mv (.t 11), none, true, []⟩]
def C94r5 : List AOper := [⟨some 12, .mv (.t 0), none, true, []⟩,
 ⟨some 13, .bin .shr (.t 12) (.k (.c (.int .u64 63))), none, true, []⟩,
 ⟨some 14, .bin .eql (.t 13) (.k (.c (.int .u64 1))), none, true, []⟩]
def C94r6 : List AOper := [⟨some 15, .mv (.t 0), none, true, []⟩,
 ⟨some 16, .bin .sub (.k (.c (.int .u64 0))) (.t 15), none, true, []⟩,
 ⟨some 5, .mv (.t 16), none, true, []⟩]
def C94r7 : List AOper := [⟨some 17, .mv (.t 1), none, true, []⟩,
 ⟨some 18, .bin .shr (.t 17) (.k (.c (.int .u64 63))), none, true, []⟩,
 ⟨some 19, .bin .eql (.t 18) (.k (.c (.int .u64 1))), none, true, []⟩]
def C94r8 : List AOper := [⟨some 20, .mv (.t 1), none, true, []⟩,
 ⟨some 21, .bin .sub (.k (.c (.int .u64 0))) (.t 20), none, true, []⟩,
 ⟨some 6, .mv (.t 21), none, true, []⟩]
def C94r9 : List AOper := [⟨some 22, .mv (.t 5), none, true, []⟩,
 ⟨some 23, .mv (.t 6), none, true, []⟩,
 ⟨some 24, .bin .quo (.t 22) (.t 23), none, true, []⟩,
 ⟨some 7, .mv (.t 24), none, true, []⟩]
def C94r10 : List AOper := [⟨some 25, .mv (.t 0), none, true, []⟩,
 ⟨some 26, .bin .shr (.t 25) (.k (.c (.int .u64 63))), none, true, []⟩,
 ⟨some 27, .mv (.t 1), none, true, []⟩,
 ⟨some 28, .bin .shr (.t 27) (.k (.c (.int .u64 63))), none, true, []⟩,
 ⟨some 29, .bin .neq (.t 26) (.t 28), none, true, []⟩]
def C94r11 : List AOper := [⟨some 30, .mv (.t 7), none, true, []⟩,
 ⟨some 31, .bin .sub (.k (.c (.int .u64 0))) (.t 30), none, true, []⟩,
 ⟨some 7, .mv (.t 31), none, true, []⟩]
def C94r12 : List AOper := [⟨some 32, .mv (.t 7), none, true, []⟩,
 ⟨some 4, .mv (.t 32), none, true, []⟩]
def C94 : ACode :=
 .seq (.region C94r0)
 (.seq (.seq (.region C94r1)
 (.cond (.t 9)
 (.seq (.region C94r2)
 (.ret))
 (.skip)))
 (.seq (.region C94r3)
 (.seq (.region C94r4)
 (.seq (.seq (.region C94r5)
 (.cond (.t 14)
 (.region C94r6)
 (.skip)))
 (.seq (.seq (.region C94r7)
 (.cond (.t 19)
 (.region C94r8)
 (.skip)))
 (.seq (.region C94r9)
 (.seq (.seq (.region C94r10)
 (.cond (.t 29)
 (.region C94r11)
 (.skip)))
 (.seq (.region C94r12)
 (.ret)))))))))
theorem C94_ok : stripF Try.prog Try.f94 = some C94 := by kernel_rfl
def C95r0 : List AOper := [⟨some 6, .mv (.k (.c (.int .u64 0))), none, true, []⟩]
def C95r1 : List AOper := [⟨some 7, .mv (.k (.c (.int .i64 0))), none, true, []⟩]
def C95r2 : List AOper := [⟨some 9, .mv (.t 7), none, true, []⟩,
 ⟨some 10, .mv (.t 1), none, true, []⟩,
 ⟨some 11, .bin .lss (.t 9) (.t 10), none, true, []⟩]
def C95r3 : List AOper := [⟨some 14, .mv (.t 2), none, true, []⟩,
 ⟨some 15, .conv .u64 (.t 14), none, true, []⟩,
 ⟨some 8, .mv (.t 15), none, true, []⟩]
def C95r4 : List AOper := [⟨some 16, .mv (.t 2), none, true, []⟩,
 ⟨some 17, .bin .eql (.t 16) (.k (.c (.int .i64 2))), none, true, []⟩]
def C95r5 : List AOper := [⟨some 18, .mv (.t 0), none, true, []⟩,
 ⟨some 19, .bin .rem (.t 18) (.k (.c (.int .u64 2))), none, true, []⟩,
 ⟨some 8, .mv (.t 19), none, true, []⟩]
def C95r6 : List AOper := [⟨some 20, .mv (.t 0), none, true, []⟩,
 ⟨some 21, .bin .quo (.t 20) (.k (.c (.int .u64 2))), none, true, []⟩,
 ⟨some 22, .mv (.t 8), none, true, []⟩,
 ⟨some 23, .bin .shl (.t 22) (.k (.c (.int .u64 63))), none, true, []⟩,
 ⟨some 24, .bin .add (.t 21) (.t 23), none, true, []⟩,
 ⟨some 0, .mv (.t 24), none, true, []⟩]
def C95r7 : List AOper := [⟨some 12, .mv (.t 7), none, true, []⟩,
 ⟨some 13, .bin .add (.t 12) (.k (.c (.int .i64 1))), none, true, []⟩,
 ⟨some 7, .mv (.t 13), none, true, []⟩]
def C95r8 : List AOper := [⟨some 25, .mv (.t 0), none, true, []⟩,
 ⟨some 6, .mv (.t 25), none, true, []⟩]
def C95 : ACode :=
 .seq (.region C95r0)
 (.seq (.seq (.region C95r1)
 (.block 0
 (.loop
 (.seq (.seq (.region C95r2)
 (.cond (.t 11)
 (.skip)
 (.exit 0)))
 (.seq (.block 1
 (.seq (.region C95r3)
 (.seq (.seq (.region C95r4)
 (.cond (.t 17)
 (.region C95r5)
 (.skip)))
 (.region C95r6))))
 (.region C95r7))))))
 (.seq (.region C95r8)
 (.ret)))
theorem C95_ok : stripF Try.prog Try.f95 = some C95 := by kernel_rfl
def C96r0 : List AOper := [⟨some 2, .mv (.k (.c (.int .u64 0))), none, true, []⟩]
def C96r1 : List AOper := [⟨some 3, .mv (.t 0), none, true, []⟩]
def C96r2 : List AOper := [⟨some 2, .mv (.k (.c (.int .u64 1))), none, true, []⟩]
def C96r3 : List AOper := [⟨some 2, .mv (.k (.c (.int .u64 0))), none, true, []⟩]
def C96 : ACode :=
 .seq (.region C96r0)
 (.seq (.seq (.region C96r1)
 (.cond (.t 3)
 (.seq (.region C96r2)
 (.ret))
 (.skip)))
 (.seq (.region C96r3)
 (.ret)))
theorem C96_ok : stripF Try.prog Try.f96 = some C96 := by kernel_rfl
def C97r0 : List AOper := [⟨some 4, .mv (.k (.c (.bool false))), none, true, []⟩]
def C97r1 : List AOper := [⟨some 5, .mv (.t 0), none, true, []⟩,
 ⟨some 6, .bin .xor (.t 5) (.k (.c (.int .u64 9223372036854775808))), none, true, []⟩,
 ⟨some 7, .mv (.t 1), none, true, []⟩,
 ⟨some 8, .bin .xor (.t 7) (.k (.c (.int .u64 9223372036854775808))), none, true, []⟩,
 ⟨some 9, .bin .lss (.t 6) (.t 8), none, true, []⟩,
 ⟨some 4, .mv (.t 9), none, true, []⟩]
def C97 : ACode :=
 .seq (.region C97r0)
 (.seq (.region C97r1)
 (.ret))
theorem C97_ok : stripF Try.prog Try.f97 = some C97 := by kernel_rfl
end Go.Proofs.Ytmbnakinhnkabaa

namespace Go.Proofs.Ytmbnakinhnkabaa
open Go.AM
set_option maxRecDepth 100000
set_option linter.unusedSimpArgs false
set_option linter.unusedVariables false
theorem nbeq {n i : Nat} (h : ¬ n = i) : Nat.beq n i = false := by
  cases e : Nat.beq n i with
  | false => rfl
  | true => exact absurd (Nat.eq_of_beq_eq_true e) h
theorem HRel.ghost {φ : Emb} {n : Nat} {X : List (Nat × Blk)} {W : World} (B : Blk) (h : HRel φ ⟨n, X⟩ W) : HRel φ ⟨n + 1, (n, B) :: X⟩ W := by
  have hn : φ n = none := h.fresh n (Nat.le_refl _)
  have hg : ∀ i C p, getB ((n, B) :: X) i = some C → φ i = some p → getB X i = some C := fun i C p hC hp => by
    by_cases e : n = i
    · subst e; rw [hn] at hp; cases hp
    · have e' : Nat.beq n i = false := nbeq e
      simpa only [getB, e'] using hC
  exact ⟨fun i C p hC hp => h.blk i C p (hg i C p hC hp) hp, fun i j C D p q hC hD hp hq hij hw => h.inj i j C D p q (hg i C p hC hp) (hg j D q hD hq) hp hq hij hw, fun i hi => h.fresh i (Nat.le_of_succ_le hi), h.lt⟩
theorem Con.ghost {P : Program} {f : FuncId} {args : List AV} {H : Heap} {n : Nat} {X : List (Nat × Blk)} {R : Post} (B : Blk) (h : Con P f args H (fun v H' => v = .c .nils ∧ H' = ⟨n, X⟩)) (hR : R (.c (.slice ⟨n, 0, 0, 0⟩ false 0)) ⟨n + 1, (n, B) :: X⟩) : Con P f args H R := by
  refine ⟨h.1, fun φ w xs hF hH => (h.2 φ w xs hF hH).mono fun e w' ⟨φ', v, x, H', he, ⟨hv, hH'⟩, hx, hh, hf⟩ => ?_⟩
  subst hv; subst hH'
  have hn : φ' n = none := hh.fresh n (Nat.le_refl _)
  refine ⟨φ', _, x, _, he, hR, ⟨none, 0, hx, Nat.le_refl _, .inl ⟨rfl, rfl, .inl rfl⟩⟩, HRel.ghost B hh, hf.le, hf.same, Nat.le_succ_of_le hf.nx, hf.size, hf.os, hf.tape, hf.output, hf.old, fun i C p hC hw hp => ?_⟩
  by_cases e : n = i
  · subst e; rw [hn] at hp; cases hp
  · have e' : Nat.beq n i = false := nbeq e
    exact hf.own i C p (by simpa only [getB, e'] using hC) hw hp
def betw (n a b : Int) : Bool := decide (n ≥ a) && decide (n ≤ b)
theorem con33 (n a b : Int) (H : Heap) : Con Try.prog 33 [.c (.int .i64 n), .c (.int .i64 a), .c (.int .i64 b)] H (fun v H' => v = .c (.bool (betw n a b)) ∧ H' = H) := by
  refine Con.pure ?_ (by simp only [leArgs, leV, leV1, leSegs, leSeg, leC, and_self]) rfl H
  (refine con_of_run mixed (fn := Try.f33) (by kernel_rfl) (by kernel_rfl) C33_ok (rs := [.tmp 6]) (by kernel_rfl) (Nat.le_of_ble_eq_true (by kernel_rfl)) ?_; unfold C33; simp only [initT, Nat.reduceAdd])
  repeat' (first | refine run_seq ?_ | (refine run_region fun K hK => ?_; (try (simp (maxSteps := 10000000) only [C33r0, C33r1, rwp_nil, rwp_cons, rwpK_app, aop, gpath, St.get, slotAt, sfx, eqP, segsOf, St.put, addBlk, getB, setB, delB, ld1, ldn, st1, stn, setRow, rowNeed, segAt, nsub, bin, un, eqB, isShift, sameK, arith, shiftR, getsl, selB_or, selB_and, beqb, shed, addN, Nat.beq, Seg.size, sizes, imp, needP, andN, appL, argsOf, ptrsOf, aasOf, cut, takeS, dropS, putS, partsOf, fillS, fieldOf, nthA, negIf, nilq, nilB, eqS, eqF, eqS1, andP, kin, slcS, strOk, plusA, bndHi, leN, optG, roH, roL, initT, exOk, exAll, wrAddr, Nat.reduceAdd, Nat.reduceSub, Nat.reduceMul, Int.reduceToNat, List.append_nil, List.nil_append, List.cons_append, eqT, idxT, cat, cpy, ite_int, ite_bool, ite_seg, ite_segs, ite_nil, ite_twice, Int.toNat_natCast, app, addBs, tob])); (repeat (first | (refine And.intro ?_ ?_; · (first | decide | trivial | assumption)))); with_reducible refine hK _ ?_; clear hK K) | refine run_ret ?_ | refine run_nil ?_)
  exact end_tmp1 rfl rfl rfl ⟨rfl, rfl⟩
theorem con53 (k : Int) (H : Heap) : Con Try.prog 53 [.c (.int .i64 k)] H (fun v H' => v = .c (.int .i64 (usesS k)) ∧ H' = H) := by
  refine Con.pure ?_ (by simp only [leArgs, leV, leV1, opL, leSegs, leSeg, leC, and_self]) rfl H
  (refine con_of_run mixed (fn := Try.f53) (by kernel_rfl) (by kernel_rfl) C53_ok (rs := [.tmp 2]) (by kernel_rfl) (Nat.le_of_ble_eq_true (by kernel_rfl)) ?_; unfold C53; simp only [initT, Nat.reduceAdd])
  repeat' (first | refine run_seq ?_ | refine run_skip ?_ | (refine run_region fun K hK => ?_; (try (simp (maxSteps := 10000000) only [C53r0, C53r1, C53r2, C53r3, C53r4, C53r5, C53r6, C53r7, C53r8, C53r9, C53r10, C53r11, C53r12, C53r13, C53r14, rwp_nil, rwp_cons, rwpK_app, aop, gpath, St.get, slotAt, sfx, eqP, segsOf, St.put, addBlk, getB, setB, delB, ld1, ldn, st1, stn, setRow, rowNeed, segAt, nsub, bin, un, eqB, isShift, sameK, arith, shiftR, getsl, selB_or, selB_and, beqb, shed, addN, Nat.beq, Seg.size, sizes, imp, needP, andN, appL, argsOf, ptrsOf, aasOf, cut, takeS, dropS, putS, partsOf, fillS, fieldOf, nthA, negIf, nilq, nilB, eqS, eqF, eqS1, andP, kin, slcS, strOk, plusA, bndHi, leN, optG, roH, roL, initT, exOk, exAll, wrAddr, Nat.reduceAdd, Nat.reduceSub, Nat.reduceMul, Int.reduceToNat, List.append_nil, List.nil_append, List.cons_append, eqT, idxT, cat, cpy, ite_int, ite_bool, ite_seg, ite_segs, ite_nil, ite_twice, Int.toNat_natCast, app, addBs, tob])); (repeat (first | (refine And.intro ?_ ?_; · (first | decide | trivial | assumption | (intros; first | decide | trivial))))); with_reducible refine hK _ ?_; clear hK K) | (refine run_cond rfl (fun hc => ?_) (fun hc => ?_) <;> try (simp only [*, Bool.true_eq_false, Bool.false_eq_true, Bool.not_true, Bool.not_false, Bool.true_or, Bool.or_true, Bool.false_or, Bool.or_false, Bool.false_and, Bool.and_false, bne_self_eq_false, beq_self_eq_true] at hc; done)) | refine run_block ?_ | refine run_ret ?_ | refine run_nil ?_ | refine blk_normal ?_ | refine blk_ret ?_ | refine blk_here ?_ | refine blk_there rfl ?_)
  all_goals (refine end_tmp1 rfl (by simp only [leV, leV1, leC, and_self]) rfl ⟨?_, rfl⟩; simp_all [usesS])
theorem con36 (o : OpS) (H : Heap) : Con Try.prog 36 [.agg (opL o)] H (fun v H' => v = .c (.bool (defS o.kind)) ∧ H' = H) := by
  refine Con.pure ?_ (by simp only [leArgs, leV, leV1, opL, leSegs, leSeg, leC, and_self]) rfl H
  (refine con_of_run mixed (fn := Try.f36) (by kernel_rfl) (by kernel_rfl) C36_ok (rs := [.tmp 2]) (by kernel_rfl) (Nat.le_of_ble_eq_true (by kernel_rfl)) ?_; unfold C36; simp only [initT, Nat.reduceAdd])
  repeat' (first | refine run_seq ?_ | refine run_skip ?_ | (refine run_region fun K hK => ?_; (try (simp (maxSteps := 10000000) only [opL, C36r0, C36r1, C36r2, C36r3, C36r4, C36r5, C36r6, C36r7, C36r8, C36r9, C36r10, C36r11, rwp_nil, rwp_cons, rwpK_app, aop, gpath, St.get, slotAt, sfx, eqP, segsOf, St.put, addBlk, getB, setB, delB, ld1, ldn, st1, stn, setRow, rowNeed, segAt, nsub, bin, un, eqB, isShift, sameK, arith, shiftR, getsl, selB_or, selB_and, beqb, shed, addN, Nat.beq, Seg.size, sizes, imp, needP, andN, appL, argsOf, ptrsOf, aasOf, cut, takeS, dropS, putS, partsOf, fillS, fieldOf, nthA, negIf, nilq, nilB, eqS, eqF, eqS1, andP, kin, slcS, strOk, plusA, bndHi, leN, optG, roH, roL, initT, exOk, exAll, wrAddr, Nat.reduceAdd, Nat.reduceSub, Nat.reduceMul, Int.reduceToNat, List.append_nil, List.nil_append, List.cons_append, eqT, idxT, cat, cpy, ite_int, ite_bool, ite_seg, ite_segs, ite_nil, ite_twice, Int.toNat_natCast, app, addBs, tob])); (repeat (first | (refine And.intro ?_ ?_; · (first | decide | trivial | assumption | (intros; first | decide | trivial))))); with_reducible refine hK _ ?_; clear hK K) | (refine run_cond rfl (fun hc => ?_) (fun hc => ?_) <;> try (simp only [*, Bool.true_eq_false, Bool.false_eq_true, Bool.not_true, Bool.not_false, Bool.true_or, Bool.or_true, Bool.false_or, Bool.or_false, Bool.false_and, Bool.and_false, bne_self_eq_false, beq_self_eq_true] at hc; done)) | refine run_block ?_ | refine run_ret ?_ | refine run_nil ?_ | refine blk_normal ?_ | refine blk_ret ?_ | refine blk_here ?_ | refine blk_there rfl ?_)
  all_goals (refine end_tmp1 rfl (by simp only [leV, leV1, leC, and_self]) rfl ⟨?_, rfl⟩; simp_all [defS])
theorem con41 (o : OpS) (H : Heap) : Con Try.prog 41 [.agg (opL o)] H (fun v H' => v = .c (.bool (accS o.kind)) ∧ H' = H) := by
  refine Con.pure ?_ (by simp only [leArgs, leV, leV1, opL, leSegs, leSeg, leC, and_self]) rfl H
  (refine con_of_run mixed (fn := Try.f41) (by kernel_rfl) (by kernel_rfl) C41_ok (rs := [.tmp 2]) (by kernel_rfl) (Nat.le_of_ble_eq_true (by kernel_rfl)) ?_; unfold C41; simp only [initT, Nat.reduceAdd])
  repeat' (first | refine run_seq ?_ | refine run_skip ?_ | (refine run_region fun K hK => ?_; (try (simp (maxSteps := 10000000) only [opL, C41r0, C41r1, C41r2, C41r3, C41r4, C41r5, C41r6, C41r7, rwp_nil, rwp_cons, rwpK_app, aop, gpath, St.get, slotAt, sfx, eqP, segsOf, St.put, addBlk, getB, setB, delB, ld1, ldn, st1, stn, setRow, rowNeed, segAt, nsub, bin, un, eqB, isShift, sameK, arith, shiftR, getsl, selB_or, selB_and, beqb, shed, addN, Nat.beq, Seg.size, sizes, imp, needP, andN, appL, argsOf, ptrsOf, aasOf, cut, takeS, dropS, putS, partsOf, fillS, fieldOf, nthA, negIf, nilq, nilB, eqS, eqF, eqS1, andP, kin, slcS, strOk, plusA, bndHi, leN, optG, roH, roL, initT, exOk, exAll, wrAddr, Nat.reduceAdd, Nat.reduceSub, Nat.reduceMul, Int.reduceToNat, List.append_nil, List.nil_append, List.cons_append, eqT, idxT, cat, cpy, ite_int, ite_bool, ite_seg, ite_segs, ite_nil, ite_twice, Int.toNat_natCast, app, addBs, tob])); (repeat (first | (refine And.intro ?_ ?_; · (first | decide | trivial | assumption | (intros; first | decide | trivial))))); with_reducible refine hK _ ?_; clear hK K) | (refine run_cond rfl (fun hc => ?_) (fun hc => ?_) <;> try (simp only [*, Bool.true_eq_false, Bool.false_eq_true, Bool.not_true, Bool.not_false, Bool.true_or, Bool.or_true, Bool.false_or, Bool.or_false, Bool.false_and, Bool.and_false, bne_self_eq_false, beq_self_eq_true] at hc; done)) | refine run_block ?_ | refine run_ret ?_ | refine run_nil ?_ | refine blk_normal ?_ | refine blk_ret ?_ | refine blk_here ?_ | refine blk_there rfl ?_)
  all_goals (refine end_tmp1 rfl (by simp only [leV, leV1, leC, and_self]) rfl ⟨?_, rfl⟩; simp_all [accS])
theorem end_uses1 {l : List Slot} {H : Heap} {R : Post} {b : Nat} {row : Nat → List Seg} (o : OpS) (hsl : slotAt l 2 = some ⟨2, [], .c (.slice ⟨b, 0, 0, 0⟩ false 1)⟩) (hb : getB H.blks b = some ⟨1, some 1, row, 3, true⟩) (h0 : row 0 = [.c (.int .i64 o.a)]) (hR : R (.c (.slice ⟨0, 0, 0, 0⟩ false 1)) ⟨1, [(0, usesBk o 1)]⟩) : endQ (LeS 0) [.tmp 2] R .ret ⟨l, H⟩ := by
  refine end_of ⟨[⟨2, [], .c (.slice ⟨0, 0, 0, 0⟩ false 1)⟩], ⟨1, [(0, usesBk o 1)]⟩⟩ (LeS.intro [b] (fun i h => absurd h (Nat.not_lt_zero i)) (by simp only [diff, notIn, and_self]) rfl (by simp only [slotsLe, hsl, leV, leV1, leC, leA, nthO, and_self]) ?_) hR
  simp only [leBlks, nthO, hb]
  refine ⟨⟨rfl, rfl, id, Nat.le_refl _, fun j hj => ?_⟩, trivial⟩
  match j, hj with
  | 0, _ => show leSegs _ (row 0) [.c (.int .i64 (useF o 0))]; rw [h0]; exact ⟨⟨rfl, rfl⟩, trivial⟩
set_option maxHeartbeats 8000000 in
theorem con35_2 (o : OpS) (h : usesS o.kind = 2) (n : Nat) (X : List (Nat × Blk)) (hkl : keysLt X n) : Con Try.prog 35 [.agg (opL o)] ⟨n, X⟩ (fun v H' => v = .c (.slice ⟨n, 0, 0, 0⟩ false 2) ∧ H' = addBs ⟨n, X⟩ [usesBk o 2]) := by
  refine frame_uses o 2 ?_ (by simp only [leArgs, leV, leV1, opL, leSegs, leSeg, leC, and_self]) n X hkl
  (refine con_of_run mixed (fn := Try.f35) (by kernel_rfl) (by kernel_rfl) C35_ok (rs := [.tmp 2]) (by kernel_rfl) (Nat.le_of_ble_eq_true (by kernel_rfl)) ?_; unfold C35; simp only [initT, Nat.reduceAdd])
  repeat' (first | refine run_seq ?_ | refine run_skip ?_ | (refine run_region fun K hK => ?_; (try (simp (maxSteps := 10000000) only [opL, h, repl, rowsFit, rowFn, cutD, C35r0, C35r1, C35r2, C35r3, C35r4, C35r5, C35r6, rwp_nil, rwp_cons, rwpK_app, aop, gpath, St.get, slotAt, sfx, eqP, segsOf, St.put, addBlk, getB, setB, delB, ld1, ldn, st1, stn, setRow, rowNeed, segAt, nsub, bin, un, eqB, isShift, sameK, arith, shiftR, getsl, selB_or, selB_and, beqb, shed, addN, Nat.beq, Seg.size, sizes, imp, needP, andN, appL, argsOf, ptrsOf, aasOf, cut, takeS, dropS, putS, partsOf, fillS, fieldOf, nthA, negIf, nilq, nilB, eqS, eqF, eqS1, andP, kin, slcS, strOk, plusA, bndHi, leN, optG, roH, roL, initT, exOk, exAll, wrAddr, Nat.reduceAdd, Nat.reduceSub, Nat.reduceMul, Int.reduceToNat, List.append_nil, List.nil_append, List.cons_append, eqT, idxT, cat, cpy, ite_int, ite_bool, ite_seg, ite_segs, ite_nil, ite_twice, Int.toNat_natCast, app, addBs, tob])); (repeat (first | (refine And.intro ?_ ?_; · (first | decide | trivial | assumption | (intros; first | decide | trivial))) | ((first | (refine call_t _ (con53 _ _) ?_; rintro v H' ⟨rfl, rfl⟩) | refine call_q _ (con53 _ _) ?_ | refine call_g _ (imp_of (con53 _ _)) ?_); simp (maxSteps := 10000000) only [opL, h, repl, rowsFit, rowFn, cutD, C35r0, C35r1, C35r2, C35r3, C35r4, C35r5, C35r6, rwp_nil, rwp_cons, rwpK_app, aop, gpath, St.get, slotAt, sfx, eqP, segsOf, St.put, addBlk, getB, setB, delB, ld1, ldn, st1, stn, setRow, rowNeed, segAt, nsub, bin, un, eqB, isShift, sameK, arith, shiftR, getsl, selB_or, selB_and, beqb, shed, addN, Nat.beq, Seg.size, sizes, imp, needP, andN, appL, argsOf, ptrsOf, aasOf, cut, takeS, dropS, putS, partsOf, fillS, fieldOf, nthA, negIf, nilq, nilB, eqS, eqF, eqS1, andP, kin, slcS, strOk, plusA, bndHi, leN, optG, roH, roL, initT, exOk, exAll, wrAddr, Nat.reduceAdd, Nat.reduceSub, Nat.reduceMul, Int.reduceToNat, List.append_nil, List.nil_append, List.cons_append, eqT, idxT, cat, cpy, ite_int, ite_bool, ite_seg, ite_segs, ite_nil, ite_twice, Int.toNat_natCast, app, addBs, tob]))); with_reducible refine hK _ ?_; clear hK K) | (refine run_cond rfl (fun hc => ?_) (fun hc => ?_) <;> try (simp only [*, Bool.true_eq_false, Bool.false_eq_true, Bool.not_true, Bool.not_false, Bool.true_or, Bool.or_true, Bool.false_or, Bool.or_false, Bool.false_and, Bool.and_false, bne_self_eq_false, beq_self_eq_true] at hc; done)) | refine run_block ?_ | refine run_ret ?_ | refine run_nil ?_ | refine blk_normal ?_ | refine blk_ret ?_ | refine blk_here ?_ | refine blk_there rfl ?_)
  all_goals first | (exfalso; revert hc; decide) | (rename_i h1; exfalso; revert h1; decide) | exact end_uses o _ (by decide) rfl rfl rfl rfl ⟨rfl, rfl⟩
theorem con35_1 (o : OpS) (h : usesS o.kind = 1) (n : Nat) (X : List (Nat × Blk)) (hkl : keysLt X n) : Con Try.prog 35 [.agg (opL o)] ⟨n, X⟩ (fun v H' => v = .c (.slice ⟨n, 0, 0, 0⟩ false 1) ∧ H' = addBs ⟨n, X⟩ [usesBk o 1]) := by
  refine frame_uses o 1 ?_ (by simp only [leArgs, leV, leV1, opL, leSegs, leSeg, leC, and_self]) n X hkl
  (refine con_of_run mixed (fn := Try.f35) (by kernel_rfl) (by kernel_rfl) C35_ok (rs := [.tmp 2]) (by kernel_rfl) (Nat.le_of_ble_eq_true (by kernel_rfl)) ?_; unfold C35; simp only [initT, Nat.reduceAdd])
  repeat' (first | refine run_seq ?_ | refine run_skip ?_ | (refine run_region fun K hK => ?_; (try (simp (maxSteps := 10000000) only [opL, h, repl, rowsFit, rowFn, cutD, C35r0, C35r1, C35r2, C35r3, C35r4, C35r5, C35r6, rwp_nil, rwp_cons, rwpK_app, aop, gpath, St.get, slotAt, sfx, eqP, segsOf, St.put, addBlk, getB, setB, delB, ld1, ldn, st1, stn, setRow, rowNeed, segAt, nsub, bin, un, eqB, isShift, sameK, arith, shiftR, getsl, selB_or, selB_and, beqb, shed, addN, Nat.beq, Seg.size, sizes, imp, needP, andN, appL, argsOf, ptrsOf, aasOf, cut, takeS, dropS, putS, partsOf, fillS, fieldOf, nthA, negIf, nilq, nilB, eqS, eqF, eqS1, andP, kin, slcS, strOk, plusA, bndHi, leN, optG, roH, roL, initT, exOk, exAll, wrAddr, Nat.reduceAdd, Nat.reduceSub, Nat.reduceMul, Int.reduceToNat, List.append_nil, List.nil_append, List.cons_append, eqT, idxT, cat, cpy, ite_int, ite_bool, ite_seg, ite_segs, ite_nil, ite_twice, Int.toNat_natCast, app, addBs, tob])); (repeat (first | (refine And.intro ?_ ?_; · (first | decide | trivial | assumption | (intros; first | decide | trivial))) | ((first | (refine call_t _ (con53 _ _) ?_; rintro v H' ⟨rfl, rfl⟩) | refine call_q _ (con53 _ _) ?_ | refine call_g _ (imp_of (con53 _ _)) ?_); simp (maxSteps := 10000000) only [opL, h, repl, rowsFit, rowFn, cutD, C35r0, C35r1, C35r2, C35r3, C35r4, C35r5, C35r6, rwp_nil, rwp_cons, rwpK_app, aop, gpath, St.get, slotAt, sfx, eqP, segsOf, St.put, addBlk, getB, setB, delB, ld1, ldn, st1, stn, setRow, rowNeed, segAt, nsub, bin, un, eqB, isShift, sameK, arith, shiftR, getsl, selB_or, selB_and, beqb, shed, addN, Nat.beq, Seg.size, sizes, imp, needP, andN, appL, argsOf, ptrsOf, aasOf, cut, takeS, dropS, putS, partsOf, fillS, fieldOf, nthA, negIf, nilq, nilB, eqS, eqF, eqS1, andP, kin, slcS, strOk, plusA, bndHi, leN, optG, roH, roL, initT, exOk, exAll, wrAddr, Nat.reduceAdd, Nat.reduceSub, Nat.reduceMul, Int.reduceToNat, List.append_nil, List.nil_append, List.cons_append, eqT, idxT, cat, cpy, ite_int, ite_bool, ite_seg, ite_segs, ite_nil, ite_twice, Int.toNat_natCast, app, addBs, tob]))); with_reducible refine hK _ ?_; clear hK K) | (refine run_cond rfl (fun hc => ?_) (fun hc => ?_) <;> try (simp only [*, Bool.true_eq_false, Bool.false_eq_true, Bool.not_true, Bool.not_false, Bool.true_or, Bool.or_true, Bool.false_or, Bool.or_false, Bool.false_and, Bool.and_false, bne_self_eq_false, beq_self_eq_true] at hc; done)) | refine run_block ?_ | refine run_ret ?_ | refine run_nil ?_ | refine blk_normal ?_ | refine blk_ret ?_ | refine blk_here ?_ | refine blk_there rfl ?_)
  all_goals first | (exfalso; revert hc; decide) | (rename_i h1; exfalso; revert h1; decide) | exact end_uses1 o rfl rfl rfl ⟨rfl, rfl⟩
theorem con35_0 (o : OpS) (h : usesS o.kind = 0) (H : Heap) : Con Try.prog 35 [.agg (opL o)] H (fun v H' => v = .c .nils ∧ H' = H) := by
  refine Con.pure ?_ (by simp only [leArgs, leV, leV1, opL, leSegs, leSeg, leC, and_self]) rfl H
  (refine con_of_run mixed (fn := Try.f35) (by kernel_rfl) (by kernel_rfl) C35_ok (rs := [.tmp 2]) (by kernel_rfl) (Nat.le_of_ble_eq_true (by kernel_rfl)) ?_; unfold C35; simp only [initT, Nat.reduceAdd])
  repeat' (first | refine run_seq ?_ | refine run_skip ?_ | (refine run_region fun K hK => ?_; (try (simp (maxSteps := 10000000) only [opL, h, C35r0, C35r1, C35r2, C35r3, C35r4, C35r5, C35r6, rwp_nil, rwp_cons, rwpK_app, aop, gpath, St.get, slotAt, sfx, eqP, segsOf, St.put, addBlk, getB, setB, delB, ld1, ldn, st1, stn, setRow, rowNeed, segAt, nsub, bin, un, eqB, isShift, sameK, arith, shiftR, getsl, selB_or, selB_and, beqb, shed, addN, Nat.beq, Seg.size, sizes, imp, needP, andN, appL, argsOf, ptrsOf, aasOf, cut, takeS, dropS, putS, partsOf, fillS, fieldOf, nthA, negIf, nilq, nilB, eqS, eqF, eqS1, andP, kin, slcS, strOk, plusA, bndHi, leN, optG, roH, roL, initT, exOk, exAll, wrAddr, Nat.reduceAdd, Nat.reduceSub, Nat.reduceMul, Int.reduceToNat, List.append_nil, List.nil_append, List.cons_append, eqT, idxT, cat, cpy, ite_int, ite_bool, ite_seg, ite_segs, ite_nil, ite_twice, Int.toNat_natCast, app, addBs, tob])); (repeat (first | (refine And.intro ?_ ?_; · (first | decide | trivial | assumption | (intros; first | decide | trivial))) | ((first | (refine call_t _ (con53 _ _) ?_; rintro v H' ⟨rfl, rfl⟩) | refine call_q _ (con53 _ _) ?_ | refine call_g _ (imp_of (con53 _ _)) ?_); simp (maxSteps := 10000000) only [opL, h, C35r0, C35r1, C35r2, C35r3, C35r4, C35r5, C35r6, rwp_nil, rwp_cons, rwpK_app, aop, gpath, St.get, slotAt, sfx, eqP, segsOf, St.put, addBlk, getB, setB, delB, ld1, ldn, st1, stn, setRow, rowNeed, segAt, nsub, bin, un, eqB, isShift, sameK, arith, shiftR, getsl, selB_or, selB_and, beqb, shed, addN, Nat.beq, Seg.size, sizes, imp, needP, andN, appL, argsOf, ptrsOf, aasOf, cut, takeS, dropS, putS, partsOf, fillS, fieldOf, nthA, negIf, nilq, nilB, eqS, eqF, eqS1, andP, kin, slcS, strOk, plusA, bndHi, leN, optG, roH, roL, initT, exOk, exAll, wrAddr, Nat.reduceAdd, Nat.reduceSub, Nat.reduceMul, Int.reduceToNat, List.append_nil, List.nil_append, List.cons_append, eqT, idxT, cat, cpy, ite_int, ite_bool, ite_seg, ite_segs, ite_nil, ite_twice, Int.toNat_natCast, app, addBs, tob]))); with_reducible refine hK _ ?_; clear hK K) | (refine run_cond rfl (fun hc => ?_) (fun hc => ?_) <;> try (simp only [*, Bool.true_eq_false, Bool.false_eq_true, Bool.not_true, Bool.not_false, Bool.true_or, Bool.or_true, Bool.false_or, Bool.or_false, Bool.false_and, Bool.and_false, bne_self_eq_false, beq_self_eq_true] at hc; done)) | refine run_block ?_ | refine run_ret ?_ | refine run_nil ?_ | refine blk_normal ?_ | refine blk_ret ?_ | refine blk_here ?_ | refine blk_there rfl ?_)
  all_goals first | (exfalso; revert hc; decide) | (rename_i h1; exfalso; revert h1; decide) | exact end_tmp1 rfl (by simp only [leV, leV1, leC]) rfl ⟨rfl, rfl⟩
theorem con35 (o : OpS) (n : Nat) (X : List (Nat × Blk)) (hkl : keysLt X n) : Con Try.prog 35 [.agg (opL o)] ⟨n, X⟩ (fun v H' => v = .c (.slice ⟨n, 0, 0, 0⟩ false (usesS o.kind)) ∧ H' = addBs ⟨n, X⟩ [usesBk o (usesS o.kind)]) := by
  have h : usesS o.kind = 2 ∨ usesS o.kind = 1 ∨ usesS o.kind = 0 := by unfold usesS; (repeat' split) <;> simp
  rcases h with h | h | h
  · rw [h]; exact con35_2 o h n X hkl
  · rw [h]; exact con35_1 o h n X hkl
  · rw [h]; exact Con.ghost (usesBk o 0) (con35_0 o h ⟨n, X⟩) ⟨rfl, rfl⟩
end Go.Proofs.Ytmbnakinhnkabaa

namespace Go.Proofs.Ytmbnakinhnkabaa
open Go.AM
set_option maxRecDepth 100000
set_option linter.unusedSimpArgs false
set_option linter.unusedVariables false
def andB (x y z : Bool) : Bool := (x && y) && z
def fieldR (o : OpS) : Bool :=
  if o.kind = 1 ∨ o.kind = 15 ∨ o.kind = 16 then andB (o.r == 0) (o.order == 0) true
  else if o.kind = 14 then andB (o.r == 0) (o.order == 0) (o.imm.tmod 4 == 0)
  else if o.kind = 18 then andB (o.r == 0) (o.order == 0) (decide (o.imm < 4294967296))
  else if o.kind = 2 ∨ o.kind = 3 then andB (betw o.r 0 30) (o.order == 0) (o.imm == 0)
  else if o.kind = 6 ∨ o.kind = 7 then andB (betw o.r 0 3) (o.order == 0) (o.imm == 0)
  else if o.kind = 8 then andB (betw o.r 1 15) (o.order == 0) (o.imm == 0)
  else if o.kind = 13 then andB (((o.r == 13) || (o.r == 10)) || (o.r == 15)) (o.order == 0) (o.imm == 0)
  else if o.kind = 9 then andB (o.r == 0) (betw o.order 0 2) (o.imm == 0)
  else if o.kind = 11 then andB (o.r == 0) ((o.order == 0) || (o.order == 2)) (o.imm == 0)
  else if o.kind = 10 ∨ o.kind = 12 then andB (o.r == 0) ((o.order == 0) || (o.order == 4)) (o.imm == 0)
  else if o.kind = 4 ∨ o.kind = 5 ∨ o.kind = 17 then andB (o.r == 0) (o.order == 0) (o.imm == 0)
  else false
set_option maxHeartbeats 8000000 in
theorem con34 (o : OpS) (H : Heap) : Con Try.prog 34 [.agg (opL o)] H (fun v H' => v = .c (.bool (fieldR o)) ∧ H' = H) := by
  refine Con.pure ?_ (by simp only [leArgs, leV, leV1, opL, leSegs, leSeg, leC, and_self]) rfl H
  (refine con_of_run mixed (fn := Try.f34) (by kernel_rfl) (by kernel_rfl) C34_ok (rs := [.tmp 2]) (by kernel_rfl) (Nat.le_of_ble_eq_true (by kernel_rfl)) ?_; unfold C34; simp only [initT, Nat.reduceAdd])
  repeat' (first | refine run_seq ?_ | refine run_skip ?_ | (refine run_region fun K hK => ?_; (try (simp (maxSteps := 10000000) only [opL, C34r0, C34r1, C34r2, C34r3, C34r4, C34r5, C34r6, C34r7, C34r8, C34r9, C34r10, C34r11, C34r12, C34r13, C34r14, C34r15, C34r16, C34r17, C34r18, C34r19, C34r20, C34r21, C34r22, C34r23, C34r24, C34r25, C34r26, C34r27, C34r28, C34r29, C34r30, C34r31, C34r32, C34r33, C34r34, rwp_nil, rwp_cons, rwpK_app, aop, gpath, St.get, slotAt, sfx, eqP, segsOf, St.put, addBlk, getB, setB, delB, ld1, ldn, st1, stn, setRow, rowNeed, segAt, nsub, bin, un, eqB, isShift, sameK, arith, shiftR, getsl, selB_or, selB_and, beqb, shed, addN, Nat.beq, Seg.size, sizes, imp, needP, andN, appL, argsOf, ptrsOf, aasOf, cut, takeS, dropS, putS, partsOf, fillS, fieldOf, nthA, negIf, nilq, nilB, eqS, eqF, eqS1, andP, kin, slcS, strOk, plusA, bndHi, leN, optG, roH, roL, initT, exOk, exAll, wrAddr, Nat.reduceAdd, Nat.reduceSub, Nat.reduceMul, Int.reduceToNat, List.append_nil, List.nil_append, List.cons_append, eqT, idxT, cat, cpy, ite_int, ite_bool, ite_seg, ite_segs, ite_nil, ite_twice, Int.toNat_natCast, app, addBs, tob])); (repeat (first | (refine And.intro ?_ ?_; · (first | decide | trivial | assumption | (intros; first | decide | trivial))) | ((first | (refine call_t _ (con33 _ _ _ _) ?_; rintro v H' ⟨rfl, rfl⟩) | refine call_q _ (con33 _ _ _ _) ?_ | refine call_g _ (imp_of (con33 _ _ _ _)) ?_); simp (maxSteps := 10000000) only [opL, C34r0, C34r1, C34r2, C34r3, C34r4, C34r5, C34r6, C34r7, C34r8, C34r9, C34r10, C34r11, C34r12, C34r13, C34r14, C34r15, C34r16, C34r17, C34r18, C34r19, C34r20, C34r21, C34r22, C34r23, C34r24, C34r25, C34r26, C34r27, C34r28, C34r29, C34r30, C34r31, C34r32, C34r33, C34r34, rwp_nil, rwp_cons, rwpK_app, aop, gpath, St.get, slotAt, sfx, eqP, segsOf, St.put, addBlk, getB, setB, delB, ld1, ldn, st1, stn, setRow, rowNeed, segAt, nsub, bin, un, eqB, isShift, sameK, arith, shiftR, getsl, selB_or, selB_and, beqb, shed, addN, Nat.beq, Seg.size, sizes, imp, needP, andN, appL, argsOf, ptrsOf, aasOf, cut, takeS, dropS, putS, partsOf, fillS, fieldOf, nthA, negIf, nilq, nilB, eqS, eqF, eqS1, andP, kin, slcS, strOk, plusA, bndHi, leN, optG, roH, roL, initT, exOk, exAll, wrAddr, Nat.reduceAdd, Nat.reduceSub, Nat.reduceMul, Int.reduceToNat, List.append_nil, List.nil_append, List.cons_append, eqT, idxT, cat, cpy, ite_int, ite_bool, ite_seg, ite_segs, ite_nil, ite_twice, Int.toNat_natCast, app, addBs, tob]))); with_reducible refine hK _ ?_; clear hK K) | (refine run_cond rfl (fun hc => ?_) (fun hc => ?_) <;> try (simp only [*, Bool.true_eq_false, Bool.false_eq_true, Bool.not_true, Bool.not_false, Bool.true_or, Bool.or_true, Bool.false_or, Bool.or_false, Bool.false_and, Bool.and_false, bne_self_eq_false, beq_self_eq_true] at hc; done)) | refine run_block ?_ | refine run_ret ?_ | refine run_nil ?_ | refine blk_normal ?_ | refine blk_ret ?_ | refine blk_here ?_ | refine blk_there rfl ?_)
  all_goals (refine end_tmp1 rfl (by simp only [leV, leV1, leC, and_self]) rfl ⟨?_, rfl⟩; simp_all [fieldR, andB])
end Go.Proofs.Ytmbnakinhnkabaa

namespace Go.Proofs.Ytmbnakinhnkabaa
open Go.AM
set_option maxRecDepth 100000
set_option linter.unusedSimpArgs false
set_option linter.unusedVariables false
theorem idtt {l : List Nat} : ∀ i, i < 2 → nthO (0 :: 1 :: l) i = some i := by
  intro i h; match i, h with
  | 0, _ => rfl
  | 1, _ => rfl
end Go.Proofs.Ytmbnakinhnkabaa

namespace Go.Proofs.Ytmbnakinhnkabaa
open Go.AM
set_option maxRecDepth 100000
set_option linter.unusedSimpArgs false
set_option linter.unusedVariables false
def headR (b : BlkS) : Bool := (((((b.pc.tmod 4 != 0) || !betw b.words 1 16) || !betw b.el 0 1) || !betw b.n 1 512) || ((b.f 0).kind != 14)) || ((b.f 0).imm != b.pc)
def lastR (k : Int) : Bool := ((k == 16) || (k == 17)) || (k == 18)
def abR (o : OpS) : Bool := (decide (((usesS o.kind : Nat) : Int) < 2) && (o.b != 0)) || (decide (((usesS o.kind : Nat) : Int) < 1) && (o.a != 0))
def opR1 (b : BlkS) (j : Nat) : Bool := (!fieldR (b.f j)) || (!(lastR (b.f j).kind == ((j : Int) == (b.n : Int) - 1)))
def opR (b : BlkS) (j : Nat) : Bool := (!opR1 b j && usesOk (b.f j) j b.f (usesS (b.f j).kind)) && !abR (b.f j)
def opsR (b : BlkS) : Nat → Bool
  | 0 => true
  | j + 1 => opsR b j && opR b j
def rightR (b : BlkS) : Bool := !headR b && opsR b b.n
theorem opsR_no {b : BlkS} : ∀ {n j : Nat}, j < n → opR b j = false → opsR b n = false
  | n + 1, j, h, hb => by
    simp only [opsR]
    by_cases hj : j = n
    · rw [← hj, hb, Bool.and_false]
    · rw [opsR_no (n := n) (by omega) hb, Bool.false_and]
theorem rightR_no {b : BlkS} {j : Nat} (h : j < b.n) (hb : opR b j = false) : rightR b = false := by unfold rightR; rw [opsR_no h hb, Bool.and_false]
def rrSt (b : BlkS) (j : Nat) : St := ⟨[⟨4, [], .c (.int .i64 j)⟩, ⟨3, [], .c (.int .i64 b.n)⟩, ⟨1, [], .c (.ptr ⟨1, 0, 0, 0⟩)⟩], ⟨2, [(1, blkB b 0), (0, opsB b.n b.f)]⟩⟩
def rrIn (b : BlkS) (j u i : Nat) : St := ⟨⟨9, [], .c (.int .i64 i)⟩ :: ⟨8, [], .c (.slice ⟨3, 0, 0, 0⟩ false u)⟩ :: ⟨5, [], .c (.ptr ⟨2, 0, 0, 0⟩)⟩ :: (rrSt b j).tmps, ⟨4, (3, usesBk (b.f j) u) :: (2, opB' (b.f j)) :: (rrSt b j).heap.blks⟩⟩
set_option maxHeartbeats 8000000 in
theorem con11 (b : BlkS) : Con Try.prog 11 [.agg (blkL b 0)] ⟨1, [(0, opsB b.n b.f)]⟩ (fun v H' => v = .c (.bool (rightR b)) ∧ H' = ⟨1, [(0, opsB b.n b.f)]⟩) := by
  (refine con_of_run mixed (fn := Try.f11) (by kernel_rfl) (by kernel_rfl) C11_ok (rs := [.tmp 2]) (by kernel_rfl) (Nat.le_of_ble_eq_true (by kernel_rfl)) ?_; unfold C11; simp only [initT, Nat.reduceAdd])
  repeat' (first | refine run_seq ?_ | refine run_skip ?_ | (refine run_region fun K hK => ?_; (try (simp (maxSteps := 10000000) only [blkL, C11r0, C11r1, C11r3, C11r4, C11r5, C11r6, C11r7, C11r8, C11r9, C11r10, C11r11, C11r12, C11r13, C11r14, C11r15, C11r16, C11r17, C11r18, C11r19, C11r20, C11r21, C11r22, C11r23, rwp_nil, rwp_cons, rwpK_app, aop, gpath, St.get, slotAt, sfx, eqP, segsOf, St.put, addBlk, getB, setB, delB, ld1, ldn, st1, stn, setRow, rowNeed, segAt, nsub, bin, un, eqB, isShift, sameK, arith, shiftR, getsl, selB_or, selB_and, beqb, shed, addN, Nat.beq, Seg.size, sizes, imp, needP, andN, appL, argsOf, ptrsOf, aasOf, cut, takeS, dropS, putS, partsOf, fillS, fieldOf, nthA, negIf, nilq, nilB, eqS, eqF, eqS1, andP, kin, slcS, strOk, plusA, bndHi, leN, optG, roH, roL, initT, exOk, exAll, wrAddr, Nat.reduceAdd, Nat.reduceSub, Nat.reduceMul, Int.reduceToNat, List.append_nil, List.nil_append, List.cons_append, eqT, idxT, cat, cpy, ite_int, ite_bool, ite_seg, ite_segs, ite_nil, ite_twice, Int.toNat_natCast, app, addBs, tob])); (repeat (first | (refine And.intro ?_ ?_; · (first | trivial | assumption | omega)))); with_reducible refine hK _ ?_; clear hK K) | (refine run_cond rfl (fun hc => ?_) (fun hc => ?_) <;> try (simp only [*, Bool.true_eq_false, Bool.false_eq_true, Bool.not_true, Bool.not_false, Bool.true_or, Bool.or_true, Bool.false_or, Bool.or_false, Bool.false_and, Bool.and_false, bne_self_eq_false, beq_self_eq_true] at hc; done)) | refine run_block ?_ | refine run_ret ?_ | refine run_nil ?_ | refine run_exit ?_ | refine blk_normal ?_ | refine blk_ret ?_ | refine blk_here ?_ | refine blk_there rfl ?_ | refine loop_exit ?_ | refine loop_ret ?_ | refine un_exit ?_ | refine un_ret ?_ | refine unE_exit ?_ | refine unE_ret ?_ | refine un_normal ?_)
  (refine run_regionL fun K hK => ?_; simp only [C11r2]; (repeat' (first | (refine And.intro ?_ ?_; · (first | trivial | assumption | omega | (intros; simp_all [betw]; done) | (intros; simp [betw] at *; omega))) | (rw [rwp_cons]; (try simp (maxSteps := 10000000) only [opL, blkL, blkB, opsB, rwp_nil, rwpK_app, aop, gpath, St.get, slotAt, sfx, eqP, segsOf, St.put, addBlk, getB, setB, delB, ld1, ldn, st1, stn, setRow, rowNeed, segAt, nsub, bin, un, eqB, isShift, sameK, arith, shiftR, getsl, selB_or, selB_and, beqb, shed, addN, Nat.beq, Seg.size, sizes, imp, needP, andN, appL, argsOf, ptrsOf, aasOf, cut, takeS, dropS, putS, partsOf, fillS, fieldOf, nthA, negIf, nilq, nilB, eqS, eqF, eqS1, andP, kin, slcS, strOk, plusA, bndHi, leN, optG, roH, roL, initT, exOk, exAll, wrAddr, Nat.reduceAdd, Nat.reduceSub, Nat.reduceMul, Int.reduceToNat, List.append_nil, List.nil_append, List.cons_append, eqT, idxT, cat, cpy, ite_int, ite_bool, ite_seg, ite_segs, ite_nil, ite_twice, Int.toNat_natCast, app, addBs, tob])) | ((first | (refine call_g _ (imp_of (con33 _ _ _ _)) ?_)) <;> (try simp (maxSteps := 10000000) only [opL, blkL, blkB, opsB, rwp_nil, rwpK_app, aop, gpath, St.get, slotAt, sfx, eqP, segsOf, St.put, addBlk, getB, setB, delB, ld1, ldn, st1, stn, setRow, rowNeed, segAt, nsub, bin, un, eqB, isShift, sameK, arith, shiftR, getsl, selB_or, selB_and, beqb, shed, addN, Nat.beq, Seg.size, sizes, imp, needP, andN, appL, argsOf, ptrsOf, aasOf, cut, takeS, dropS, putS, partsOf, fillS, fieldOf, nthA, negIf, nilq, nilB, eqS, eqF, eqS1, andP, kin, slcS, strOk, plusA, bndHi, leN, optG, roH, roL, initT, exOk, exAll, wrAddr, Nat.reduceAdd, Nat.reduceSub, Nat.reduceMul, Int.reduceToNat, List.append_nil, List.nil_append, List.cons_append, eqT, idxT, cat, cpy, ite_int, ite_bool, ite_seg, ite_segs, ite_nil, ite_twice, Int.toNat_natCast, app, addBs, tob])))); all_goals ((try simp only [rwp_nil, shed]); (with_reducible refine hK _ (⟨⟨52, [], .c (.bool (headR b))⟩ :: ⟨3, [], .c (.int .i64 b.n)⟩ :: ⟨1, [], .c (.ptr ⟨1, 0, 0, 0⟩)⟩ :: [], ⟨2, [(1, blkB b 0), (0, opsB b.n b.f)]⟩⟩) ?hle ?_); (case hle => exact (LeS.intro [0, 1] idts (by simp only [diff, notIn, Nat.beq, and_self]) rfl (by simp only [headR, slotsLe, slotAt, Nat.beq, leV, leV1, leC, leA, nthO, Int.natCast_zero, Int.ofNat_zero, and_self]) ⟨blk_le' b 0 0 rfl, ops_le b.n b.f false, trivial⟩)); clear hK K))
  refine run_cond rfl (fun hc => ?_) (fun hc => ?_)
  · repeat' (first | refine run_seq ?_ | refine run_skip ?_ | (refine run_region fun K hK => ?_; (try (simp (maxSteps := 10000000) only [C11r0, C11r1, C11r2, C11r3, C11r7, C11r8, C11r9, C11r10, C11r11, C11r12, C11r13, C11r14, C11r15, C11r16, C11r17, C11r18, C11r19, C11r20, C11r21, C11r22, C11r23, rwp_nil, rwp_cons, rwpK_app, aop, gpath, St.get, slotAt, sfx, eqP, segsOf, St.put, addBlk, getB, setB, delB, ld1, ldn, st1, stn, setRow, rowNeed, segAt, nsub, bin, un, eqB, isShift, sameK, arith, shiftR, getsl, selB_or, selB_and, beqb, shed, addN, Nat.beq, Seg.size, sizes, imp, needP, andN, appL, argsOf, ptrsOf, aasOf, cut, takeS, dropS, putS, partsOf, fillS, fieldOf, nthA, negIf, nilq, nilB, eqS, eqF, eqS1, andP, kin, slcS, strOk, plusA, bndHi, leN, optG, roH, roL, initT, exOk, exAll, wrAddr, Nat.reduceAdd, Nat.reduceSub, Nat.reduceMul, Int.reduceToNat, List.append_nil, List.nil_append, List.cons_append, eqT, idxT, cat, cpy, ite_int, ite_bool, ite_seg, ite_segs, ite_nil, ite_twice, Int.toNat_natCast, app, addBs, tob])); (repeat (first | (refine And.intro ?_ ?_; · ))); with_reducible refine hK _ ?_; clear hK K) | (refine run_cond rfl (fun hc => ?_) (fun hc => ?_) <;> try (simp only [*, Bool.true_eq_false, Bool.false_eq_true, Bool.not_true, Bool.not_false, Bool.true_or, Bool.or_true, Bool.false_or, Bool.or_false, Bool.false_and, Bool.and_false, bne_self_eq_false, beq_self_eq_true] at hc; done)) | refine run_block ?_ | refine run_ret ?_ | refine run_nil ?_ | refine run_exit ?_ | refine blk_normal ?_ | refine blk_ret ?_ | refine blk_here ?_ | refine blk_there rfl ?_ | refine loop_exit ?_ | refine loop_ret ?_ | refine un_exit ?_ | refine un_ret ?_ | refine unE_exit ?_ | refine unE_ret ?_ | refine un_normal ?_)
    have e : rightR b = false := by unfold rightR; rw [hc]; rfl
    rw [e]
    exact end_ops false rfl rfl ⟨rfl, rfl⟩
  have hhd := hc
  have hn : 1 ≤ b.n ∧ b.n ≤ 512 := by
    unfold headR betw at hc
    simp only [Bool.or_eq_false_iff, Bool.not_eq_false', Bool.and_eq_true, decide_eq_true_eq] at hc
    omega
  clear hc
  refine run_skip (run_seq (run_seq ?_))
  (refine run_regionL fun K hK => ?_; (try (simp (maxSteps := 10000000) only [opL, blkL, blkB, opsB, C11r0, C11r1, C11r2, C11r3, C11r4, C11r5, C11r6, C11r7, C11r8, C11r9, C11r10, C11r11, C11r12, C11r13, C11r14, C11r15, C11r16, C11r17, C11r18, C11r19, C11r20, C11r21, C11r22, C11r23, rwp_nil, rwp_cons, rwpK_app, aop, gpath, St.get, slotAt, sfx, eqP, segsOf, St.put, addBlk, getB, setB, delB, ld1, ldn, st1, stn, setRow, rowNeed, segAt, nsub, bin, un, eqB, isShift, sameK, arith, shiftR, getsl, selB_or, selB_and, beqb, shed, addN, Nat.beq, Seg.size, sizes, imp, needP, andN, appL, argsOf, ptrsOf, aasOf, cut, takeS, dropS, putS, partsOf, fillS, fieldOf, nthA, negIf, nilq, nilB, eqS, eqF, eqS1, andP, kin, slcS, strOk, plusA, bndHi, leN, optG, roH, roL, initT, exOk, exAll, wrAddr, Nat.reduceAdd, Nat.reduceSub, Nat.reduceMul, Int.reduceToNat, List.append_nil, List.nil_append, List.cons_append, eqT, idxT, cat, cpy, ite_int, ite_bool, ite_seg, ite_segs, ite_nil, ite_twice, Int.toNat_natCast, app, addBs, tob])); (repeat (first | (refine And.intro ?_ ?_; · first | trivial | assumption | omega))); refine hK _ (rrSt b 0) (LeS.intro [0, 1] idts (by simp only [diff, notIn, Nat.beq, and_self]) rfl (by simp only [rrSt, slotsLe, slotAt, Nat.beq, leV, leV1, leC, leA, nthO, Int.natCast_zero, Int.ofNat_zero, and_self]) ⟨blk_le' b 0 0 rfl, ops_le b.n b.f false, trivial⟩) ?_; clear hK K)
  refine run_block ?_
  refine run_loop (fun m s => ∃ j, m = b.n - j ∧ j ≤ b.n ∧ opsR b j = true ∧ s = rrSt b j) b.n ⟨0, rfl, Nat.zero_le _, rfl, rfl⟩ ?_
  rintro m s ⟨j, rfl, hj, hok, rfl⟩
  have hw1 : IntKind.i64.wrap ((b.n : Int) - 1) = (b.n : Int) - 1 := by rw [IntKind.wrap_i64]; omega
  have hw : IntKind.i64.wrap ((j : Int) + 1) = ((j + 1 : Nat) : Int) := by rw [IntKind.wrap_i64]; omega
  unfold rrSt
  repeat' (first | refine run_seq ?_ | refine run_skip ?_ | (refine run_region fun K hK => ?_; (try (simp (maxSteps := 10000000) only [opL, blkB, blkL, opsB, partsOf, fillS, C11r0, C11r1, C11r2, C11r3, C11r4, C11r5, C11r6, C11r7, C11r8, C11r10, C11r11, C11r12, C11r13, C11r14, C11r15, C11r16, C11r17, C11r18, C11r19, C11r20, C11r21, C11r22, C11r23, rwp_nil, rwp_cons, rwpK_app, aop, gpath, St.get, slotAt, sfx, eqP, segsOf, St.put, addBlk, getB, setB, delB, ld1, ldn, st1, stn, setRow, rowNeed, segAt, nsub, bin, un, eqB, isShift, sameK, arith, shiftR, getsl, selB_or, selB_and, beqb, shed, addN, Nat.beq, Seg.size, sizes, imp, needP, andN, appL, argsOf, ptrsOf, aasOf, cut, takeS, dropS, putS, partsOf, fillS, fieldOf, nthA, negIf, nilq, nilB, eqS, eqF, eqS1, andP, kin, slcS, strOk, plusA, bndHi, leN, optG, roH, roL, initT, exOk, exAll, wrAddr, Nat.reduceAdd, Nat.reduceSub, Nat.reduceMul, Int.reduceToNat, List.append_nil, List.nil_append, List.cons_append, eqT, idxT, cat, cpy, ite_int, ite_bool, ite_seg, ite_segs, ite_nil, ite_twice, Int.toNat_natCast, app, addBs, tob])); (repeat (first | (refine And.intro ?_ ?_; · (first | trivial | assumption | (simp only [decide_eq_true_eq] at *; omega))) | ((first | (refine call_t _ (con34 (b.f j) _) ?_; rintro v H' ⟨rfl, rfl⟩) | refine call_q _ (con34 (b.f j) _) ?_ | refine call_g _ (imp_of (con34 (b.f j) _)) ?_); simp (maxSteps := 10000000) only [opL, blkB, blkL, opsB, partsOf, fillS, C11r0, C11r1, C11r2, C11r3, C11r4, C11r5, C11r6, C11r7, C11r8, C11r10, C11r11, C11r12, C11r13, C11r14, C11r15, C11r16, C11r17, C11r18, C11r19, C11r20, C11r21, C11r22, C11r23, rwp_nil, rwp_cons, rwpK_app, aop, gpath, St.get, slotAt, sfx, eqP, segsOf, St.put, addBlk, getB, setB, delB, ld1, ldn, st1, stn, setRow, rowNeed, segAt, nsub, bin, un, eqB, isShift, sameK, arith, shiftR, getsl, selB_or, selB_and, beqb, shed, addN, Nat.beq, Seg.size, sizes, imp, needP, andN, appL, argsOf, ptrsOf, aasOf, cut, takeS, dropS, putS, partsOf, fillS, fieldOf, nthA, negIf, nilq, nilB, eqS, eqF, eqS1, andP, kin, slcS, strOk, plusA, bndHi, leN, optG, roH, roL, initT, exOk, exAll, wrAddr, Nat.reduceAdd, Nat.reduceSub, Nat.reduceMul, Int.reduceToNat, List.append_nil, List.nil_append, List.cons_append, eqT, idxT, cat, cpy, ite_int, ite_bool, ite_seg, ite_segs, ite_nil, ite_twice, Int.toNat_natCast, app, addBs, tob]))); with_reducible refine hK _ ?_; clear hK K) | (refine run_cond rfl (fun hc => ?_) (fun hc => ?_) <;> try (simp only [*, Bool.true_eq_false, Bool.false_eq_true, Bool.not_true, Bool.not_false, Bool.true_or, Bool.or_true, Bool.false_or, Bool.or_false, Bool.false_and, Bool.and_false, bne_self_eq_false, beq_self_eq_true] at hc; done)) | refine run_block ?_ | refine run_ret ?_ | refine run_nil ?_ | refine run_exit ?_ | refine blk_normal ?_ | refine blk_ret ?_ | refine blk_here ?_ | refine blk_there rfl ?_ | refine loop_exit ?_ | refine loop_ret ?_ | refine un_exit ?_ | refine un_ret ?_ | refine unE_exit ?_ | refine unE_ret ?_ | refine un_normal ?_)
  · have hlt : j < b.n := by simp only [decide_eq_true_eq] at hc; omega
    clear hc
    (refine run_regionL fun K hK => ?_; (try (simp (maxSteps := 10000000) only [opL, hw1, C11r0, C11r1, C11r2, C11r3, C11r4, C11r5, C11r6, C11r7, C11r8, C11r9, C11r10, C11r11, C11r12, C11r13, C11r14, C11r15, C11r16, C11r17, C11r18, C11r19, C11r20, C11r21, C11r22, C11r23, rwp_nil, rwp_cons, rwpK_app, aop, gpath, St.get, slotAt, sfx, eqP, segsOf, St.put, addBlk, getB, setB, delB, ld1, ldn, st1, stn, setRow, rowNeed, segAt, nsub, bin, un, eqB, isShift, sameK, arith, shiftR, getsl, selB_or, selB_and, beqb, shed, addN, Nat.beq, Seg.size, sizes, imp, needP, andN, appL, argsOf, ptrsOf, aasOf, cut, takeS, dropS, putS, partsOf, fillS, fieldOf, nthA, negIf, nilq, nilB, eqS, eqF, eqS1, andP, kin, slcS, strOk, plusA, bndHi, leN, optG, roH, roL, initT, exOk, exAll, wrAddr, Nat.reduceAdd, Nat.reduceSub, Nat.reduceMul, Int.reduceToNat, List.append_nil, List.nil_append, List.cons_append, eqT, idxT, cat, cpy, ite_int, ite_bool, ite_seg, ite_segs, ite_nil, ite_twice, Int.toNat_natCast, app, addBs, tob])); (repeat (first | (refine And.intro ?_ ?_; · first | trivial | assumption | omega))); refine hK _ (⟨⟨87, [], .c (.bool (opR1 b j))⟩ :: ⟨5, [], .c (.ptr ⟨2, 0, 0, 0⟩)⟩ :: (rrSt b j).tmps, ⟨3, (2, opB' (b.f j)) :: (rrSt b j).heap.blks⟩⟩) (LeS.intro [0, 1, 2] idts (by simp only [diff, notIn, Nat.beq, and_self]) rfl (by simp only [opR1, lastR, rrSt, slotsLe, slotAt, Nat.beq, leV, leV1, leC, leA, nthO, Int.natCast_zero, Int.ofNat_zero, and_self]) ⟨opk_le (b.f j), blk_le' b 0 0 rfl, ops_le b.n b.f false, trivial⟩) ?_; clear hK K)
    refine run_cond rfl (fun hc => ?_) (fun hc => ?_)
    · unfold rrSt
      repeat' (first | refine run_seq ?_ | refine run_skip ?_ | (refine run_region fun K hK => ?_; (try (simp (maxSteps := 10000000) only [C11r0, C11r1, C11r2, C11r3, C11r4, C11r5, C11r6, C11r7, C11r8, C11r9, C11r10, C11r13, C11r14, C11r15, C11r16, C11r17, C11r18, C11r19, C11r20, C11r21, C11r22, C11r23, rwp_nil, rwp_cons, rwpK_app, aop, gpath, St.get, slotAt, sfx, eqP, segsOf, St.put, addBlk, getB, setB, delB, ld1, ldn, st1, stn, setRow, rowNeed, segAt, nsub, bin, un, eqB, isShift, sameK, arith, shiftR, getsl, selB_or, selB_and, beqb, shed, addN, Nat.beq, Seg.size, sizes, imp, needP, andN, appL, argsOf, ptrsOf, aasOf, cut, takeS, dropS, putS, partsOf, fillS, fieldOf, nthA, negIf, nilq, nilB, eqS, eqF, eqS1, andP, kin, slcS, strOk, plusA, bndHi, leN, optG, roH, roL, initT, exOk, exAll, wrAddr, Nat.reduceAdd, Nat.reduceSub, Nat.reduceMul, Int.reduceToNat, List.append_nil, List.nil_append, List.cons_append, eqT, idxT, cat, cpy, ite_int, ite_bool, ite_seg, ite_segs, ite_nil, ite_twice, Int.toNat_natCast, app, addBs, tob])); (repeat (first | (refine And.intro ?_ ?_; · ))); with_reducible refine hK _ ?_; clear hK K) | (refine run_cond rfl (fun hc => ?_) (fun hc => ?_) <;> try (simp only [*, Bool.true_eq_false, Bool.false_eq_true, Bool.not_true, Bool.not_false, Bool.true_or, Bool.or_true, Bool.false_or, Bool.or_false, Bool.false_and, Bool.and_false, bne_self_eq_false, beq_self_eq_true] at hc; done)) | refine run_block ?_ | refine run_ret ?_ | refine run_nil ?_ | refine run_exit ?_ | refine blk_normal ?_ | refine blk_ret ?_ | refine blk_here ?_ | refine blk_there rfl ?_ | refine loop_exit ?_ | refine loop_ret ?_ | refine un_exit ?_ | refine un_ret ?_ | refine unE_exit ?_ | refine unE_ret ?_ | refine un_normal ?_)
      have e : rightR b = false := rightR_no hlt (by unfold opR; rw [hc]; rfl)
      rw [e]
      exact end_ops false rfl rfl ⟨rfl, rfl⟩
    have h1 := hc
    clear hc
    obtain ⟨u, hu⟩ : ∃ u, usesS (b.f j).kind = u := ⟨_, rfl⟩
    have hu2 : u ≤ 2 := by rw [← hu]; unfold usesS; (repeat' split) <;> omega
    unfold rrSt opB'
    repeat' (first | refine run_seq ?_ | refine run_skip ?_ | (refine run_region fun K hK => ?_; (try (simp (maxSteps := 10000000) only [opL, blkB, blkL, opsB, hu, C11r0, C11r1, C11r2, C11r3, C11r4, C11r5, C11r6, C11r7, C11r8, C11r9, C11r10, C11r11, C11r13, C11r14, C11r15, C11r16, C11r17, C11r18, C11r19, C11r20, C11r21, C11r22, C11r23, rwp_nil, rwp_cons, rwpK_app, aop, gpath, St.get, slotAt, sfx, eqP, segsOf, St.put, addBlk, getB, setB, delB, ld1, ldn, st1, stn, setRow, rowNeed, segAt, nsub, bin, un, eqB, isShift, sameK, arith, shiftR, getsl, selB_or, selB_and, beqb, shed, addN, Nat.beq, Seg.size, sizes, imp, needP, andN, appL, argsOf, ptrsOf, aasOf, cut, takeS, dropS, putS, partsOf, fillS, fieldOf, nthA, negIf, nilq, nilB, eqS, eqF, eqS1, andP, kin, slcS, strOk, plusA, bndHi, leN, optG, roH, roL, initT, exOk, exAll, wrAddr, Nat.reduceAdd, Nat.reduceSub, Nat.reduceMul, Int.reduceToNat, List.append_nil, List.nil_append, List.cons_append, eqT, idxT, cat, cpy, ite_int, ite_bool, ite_seg, ite_segs, ite_nil, ite_twice, Int.toNat_natCast, app, addBs, tob])); (repeat (first | (refine And.intro ?_ ?_; · (first | trivial | assumption | omega)) | ((first | (refine call_t _ (con35 (b.f j) _ _ (by simp [keysLt])) ?_; rintro v H' ⟨rfl, rfl⟩) | refine call_q _ (con35 (b.f j) _ _ (by simp [keysLt])) ?_ | refine call_g _ (imp_of (con35 (b.f j) _ _ (by simp [keysLt]))) ?_); simp (maxSteps := 10000000) only [opL, blkB, blkL, opsB, hu, C11r0, C11r1, C11r2, C11r3, C11r4, C11r5, C11r6, C11r7, C11r8, C11r9, C11r10, C11r11, C11r13, C11r14, C11r15, C11r16, C11r17, C11r18, C11r19, C11r20, C11r21, C11r22, C11r23, rwp_nil, rwp_cons, rwpK_app, aop, gpath, St.get, slotAt, sfx, eqP, segsOf, St.put, addBlk, getB, setB, delB, ld1, ldn, st1, stn, setRow, rowNeed, segAt, nsub, bin, un, eqB, isShift, sameK, arith, shiftR, getsl, selB_or, selB_and, beqb, shed, addN, Nat.beq, Seg.size, sizes, imp, needP, andN, appL, argsOf, ptrsOf, aasOf, cut, takeS, dropS, putS, partsOf, fillS, fieldOf, nthA, negIf, nilq, nilB, eqS, eqF, eqS1, andP, kin, slcS, strOk, plusA, bndHi, leN, optG, roH, roL, initT, exOk, exAll, wrAddr, Nat.reduceAdd, Nat.reduceSub, Nat.reduceMul, Int.reduceToNat, List.append_nil, List.nil_append, List.cons_append, eqT, idxT, cat, cpy, ite_int, ite_bool, ite_seg, ite_segs, ite_nil, ite_twice, Int.toNat_natCast, app, addBs, tob]))); with_reducible refine hK _ ?_; clear hK K) | (refine run_cond rfl (fun hc => ?_) (fun hc => ?_) <;> try (simp only [*, Bool.true_eq_false, Bool.false_eq_true, Bool.not_true, Bool.not_false, Bool.true_or, Bool.or_true, Bool.false_or, Bool.or_false, Bool.false_and, Bool.and_false, bne_self_eq_false, beq_self_eq_true] at hc; done)) | refine run_block ?_ | refine run_ret ?_ | refine run_nil ?_ | refine run_exit ?_ | refine blk_normal ?_ | refine blk_ret ?_ | refine blk_here ?_ | refine blk_there rfl ?_ | refine loop_exit ?_ | refine loop_ret ?_ | refine un_exit ?_ | refine un_ret ?_ | refine unE_exit ?_ | refine unE_ret ?_ | refine un_normal ?_)
    (refine run_regionL fun K hK => ?_; (try (simp (maxSteps := 10000000) only [opL, blkB, blkL, opsB, C11r0, C11r1, C11r2, C11r3, C11r4, C11r5, C11r6, C11r7, C11r8, C11r9, C11r10, C11r11, C11r12, C11r13, C11r14, C11r15, C11r16, C11r17, C11r18, C11r19, C11r20, C11r21, C11r22, C11r23, rwp_nil, rwp_cons, rwpK_app, aop, gpath, St.get, slotAt, sfx, eqP, segsOf, St.put, addBlk, getB, setB, delB, ld1, ldn, st1, stn, setRow, rowNeed, segAt, nsub, bin, un, eqB, isShift, sameK, arith, shiftR, getsl, selB_or, selB_and, beqb, shed, addN, Nat.beq, Seg.size, sizes, imp, needP, andN, appL, argsOf, ptrsOf, aasOf, cut, takeS, dropS, putS, partsOf, fillS, fieldOf, nthA, negIf, nilq, nilB, eqS, eqF, eqS1, andP, kin, slcS, strOk, plusA, bndHi, leN, optG, roH, roL, initT, exOk, exAll, wrAddr, Nat.reduceAdd, Nat.reduceSub, Nat.reduceMul, Int.reduceToNat, List.append_nil, List.nil_append, List.cons_append, eqT, idxT, cat, cpy, ite_int, ite_bool, ite_seg, ite_segs, ite_nil, ite_twice, Int.toNat_natCast, app, addBs, tob])); (repeat (first | (refine And.intro ?_ ?_; · first | trivial | assumption | omega))); refine hK _ (rrIn b j u 0) (LeS.intro [0, 1, 2, 3] idts (by simp only [diff, notIn, Nat.beq, and_self]) rfl (by simp only [rrIn, rrSt, slotsLe, slotAt, Nat.beq, leV, leV1, leC, leA, nthO, Int.natCast_zero, Int.ofNat_zero, and_self]) ⟨⟨rfl, rfl, id, Nat.le_refl _, fun _ _ => ⟨⟨rfl, rfl⟩, trivial⟩⟩, opk_le (b.f j), blk_le' b 0 0 rfl, ops_le b.n b.f false, trivial⟩) ?_; clear hK K)
    refine run_block ?_
    refine run_loop (fun m s => ∃ i, m = u - i ∧ i ≤ u ∧ usesOk (b.f j) j b.f i = true ∧ s = rrIn b j u i) u ⟨0, rfl, Nat.zero_le _, rfl, rfl⟩ ?_
    rintro m s ⟨i, rfl, hi, hoi, rfl⟩
    have hwi : IntKind.i64.wrap ((i : Int) + 1) = ((i + 1 : Nat) : Int) := by rw [IntKind.wrap_i64]; omega
    unfold rrIn rrSt opB'
    repeat' (first | refine run_seq ?_ | refine run_skip ?_ | (refine run_region fun K hK => ?_; (try (simp (maxSteps := 10000000) only [opL, blkB, blkL, opsB, usesBk, hwi, C11r0, C11r1, C11r2, C11r3, C11r4, C11r5, C11r6, C11r7, C11r8, C11r9, C11r10, C11r11, C11r12, C11r13, C11r14, C11r15, C11r16, C11r17, C11r18, C11r19, C11r21, C11r22, C11r23, rwp_nil, rwp_cons, rwpK_app, aop, gpath, St.get, slotAt, sfx, eqP, segsOf, St.put, addBlk, getB, setB, delB, ld1, ldn, st1, stn, setRow, rowNeed, segAt, nsub, bin, un, eqB, isShift, sameK, arith, shiftR, getsl, selB_or, selB_and, beqb, shed, addN, Nat.beq, Seg.size, sizes, imp, needP, andN, appL, argsOf, ptrsOf, aasOf, cut, takeS, dropS, putS, partsOf, fillS, fieldOf, nthA, negIf, nilq, nilB, eqS, eqF, eqS1, andP, kin, slcS, strOk, plusA, bndHi, leN, optG, roH, roL, initT, exOk, exAll, wrAddr, Nat.reduceAdd, Nat.reduceSub, Nat.reduceMul, Int.reduceToNat, List.append_nil, List.nil_append, List.cons_append, eqT, idxT, cat, cpy, ite_int, ite_bool, ite_seg, ite_segs, ite_nil, ite_twice, Int.toNat_natCast, app, addBs, tob])); (repeat (first | (refine And.intro ?_ ?_; · (first | trivial | assumption | (intros; simp only [Bool.or_eq_false_iff, decide_eq_false_iff_not, decide_eq_true_eq] at *; omega))) | ((first | (refine call_t _ (con36 (b.f _) _) ?_; rintro v H' ⟨rfl, rfl⟩) | refine call_q _ (con36 (b.f _) _) ?_ | refine call_g _ (imp_of (con36 (b.f _) _)) ?_); simp (maxSteps := 10000000) only [opL, blkB, blkL, opsB, usesBk, hwi, C11r0, C11r1, C11r2, C11r3, C11r4, C11r5, C11r6, C11r7, C11r8, C11r9, C11r10, C11r11, C11r12, C11r13, C11r14, C11r15, C11r16, C11r17, C11r18, C11r19, C11r21, C11r22, C11r23, rwp_nil, rwp_cons, rwpK_app, aop, gpath, St.get, slotAt, sfx, eqP, segsOf, St.put, addBlk, getB, setB, delB, ld1, ldn, st1, stn, setRow, rowNeed, segAt, nsub, bin, un, eqB, isShift, sameK, arith, shiftR, getsl, selB_or, selB_and, beqb, shed, addN, Nat.beq, Seg.size, sizes, imp, needP, andN, appL, argsOf, ptrsOf, aasOf, cut, takeS, dropS, putS, partsOf, fillS, fieldOf, nthA, negIf, nilq, nilB, eqS, eqF, eqS1, andP, kin, slcS, strOk, plusA, bndHi, leN, optG, roH, roL, initT, exOk, exAll, wrAddr, Nat.reduceAdd, Nat.reduceSub, Nat.reduceMul, Int.reduceToNat, List.append_nil, List.nil_append, List.cons_append, eqT, idxT, cat, cpy, ite_int, ite_bool, ite_seg, ite_segs, ite_nil, ite_twice, Int.toNat_natCast, app, addBs, tob]))); with_reducible refine hK _ ?_; clear hK K) | (refine run_cond rfl (fun hc => ?_) (fun hc => ?_) <;> try (simp only [*, Bool.true_eq_false, Bool.false_eq_true, Bool.not_true, Bool.not_false, Bool.true_or, Bool.or_true, Bool.false_or, Bool.or_false, Bool.false_and, Bool.and_false, bne_self_eq_false, beq_self_eq_true] at hc; done)) | refine run_block ?_ | refine run_ret ?_ | refine run_nil ?_ | refine run_exit ?_ | refine blk_normal ?_ | refine blk_ret ?_ | refine blk_here ?_ | refine blk_there rfl ?_ | refine loop_exit ?_ | refine loop_ret ?_ | refine un_exit ?_ | refine un_ret ?_ | refine unE_exit ?_ | refine unE_ret ?_ | refine un_normal ?_)
    · rename_i hc0
      have h2 : usesOk (b.f j) j b.f u = false := usesOk_no (j := i) (by simp only [decide_eq_true_eq] at hc0; omega) (by rw [useOk_eq, hc]; rfl)
      have e : rightR b = false := rightR_no hlt (by unfold opR; rw [hu, h2, Bool.and_false]; rfl)
      rw [e]
      exact end_ops false rfl rfl ⟨rfl, rfl⟩
    · rename_i hc0 hc1
      have h2 : usesOk (b.f j) j b.f u = false := usesOk_no (j := i) (by simp only [decide_eq_true_eq] at hc0; omega) (by rw [useOk_eq, hc1, hc]; rfl)
      have e : rightR b = false := rightR_no hlt (by unfold opR; rw [hu, h2, Bool.and_false]; rfl)
      rw [e]
      exact end_ops false rfl rfl ⟨rfl, rfl⟩
    · rename_i hc0 hc1
      have h2 : i < u := by simp only [decide_eq_true_eq] at hc0; omega
      refine loop_normal (u - (i + 1)) (rrIn b j u (i + 1)) (by omega) (LeS.intro [0, 1, 2, 3] idts (by simp only [diff, notIn, Nat.beq, and_self]) rfl (by simp only [rrIn, rrSt, slotsLe, slotAt, Nat.beq, leV, leV1, leC, leA, nthO, Int.natCast_zero, Int.ofNat_zero, and_self]) ⟨⟨rfl, rfl, id, Nat.le_refl _, fun _ _ => ⟨⟨rfl, rfl⟩, trivial⟩⟩, opk_le (b.f j), blk_le' b 0 0 rfl, ops_le b.n b.f false, trivial⟩) ⟨i + 1, rfl, h2, ?_, rfl⟩
      simp only [usesOk, hoi, useOk_eq, hc1, hc, Bool.false_or, Bool.not_false, Bool.and_self]
    · have hiu : i = u := by simp only [decide_eq_false_iff_not] at hc; omega
      have hou : usesOk (b.f j) j b.f u = true := by rw [← hiu]; exact hoi
      clear hc
      repeat' (first | refine run_seq ?_ | refine run_skip ?_ | (refine run_region fun K hK => ?_; (try (simp (maxSteps := 10000000) only [opL, blkB, blkL, opsB, usesBk, hw, C11r0, C11r1, C11r2, C11r3, C11r4, C11r5, C11r6, C11r7, C11r8, C11r9, C11r10, C11r11, C11r12, C11r13, C11r14, C11r15, C11r16, C11r17, C11r18, C11r19, C11r20, C11r21, C11r22, C11r23, rwp_nil, rwp_cons, rwpK_app, aop, gpath, St.get, slotAt, sfx, eqP, segsOf, St.put, addBlk, getB, setB, delB, ld1, ldn, st1, stn, setRow, rowNeed, segAt, nsub, bin, un, eqB, isShift, sameK, arith, shiftR, getsl, selB_or, selB_and, beqb, shed, addN, Nat.beq, Seg.size, sizes, imp, needP, andN, appL, argsOf, ptrsOf, aasOf, cut, takeS, dropS, putS, partsOf, fillS, fieldOf, nthA, negIf, nilq, nilB, eqS, eqF, eqS1, andP, kin, slcS, strOk, plusA, bndHi, leN, optG, roH, roL, initT, exOk, exAll, wrAddr, Nat.reduceAdd, Nat.reduceSub, Nat.reduceMul, Int.reduceToNat, List.append_nil, List.nil_append, List.cons_append, eqT, idxT, cat, cpy, ite_int, ite_bool, ite_seg, ite_segs, ite_nil, ite_twice, Int.toNat_natCast, app, addBs, tob])); (repeat (first | (refine And.intro ?_ ?_; · (first | trivial | assumption | omega | (intros; first | trivial | omega))))); with_reducible refine hK _ ?_; clear hK K) | (refine run_cond rfl (fun hc => ?_) (fun hc => ?_) <;> try (simp only [*, Bool.true_eq_false, Bool.false_eq_true, Bool.not_true, Bool.not_false, Bool.true_or, Bool.or_true, Bool.false_or, Bool.or_false, Bool.false_and, Bool.and_false, bne_self_eq_false, beq_self_eq_true] at hc; done)) | refine run_block ?_ | refine run_ret ?_ | refine run_nil ?_ | refine run_exit ?_ | refine blk_normal ?_ | refine blk_ret ?_ | refine blk_here ?_ | refine blk_there rfl ?_ | refine loop_exit ?_ | refine loop_ret ?_ | refine un_exit ?_ | refine un_ret ?_ | refine unE_exit ?_ | refine unE_ret ?_ | refine un_normal ?_)
      · have e : rightR b = false := rightR_no hlt (by unfold opR abR; rw [hu, hc, Bool.not_true, Bool.and_false])
        rw [e]
        exact end_ops false rfl rfl ⟨rfl, rfl⟩
      · refine loop_normal (b.n - (j + 1)) (rrSt b (j + 1)) (by omega) (LeS.intro [0, 1] idts (by simp only [diff, notIn, Nat.beq, and_self]) rfl (by simp only [rrSt, slotsLe, slotAt, Nat.beq, leV, leV1, leC, leA, nthO, Int.natCast_zero, Int.ofNat_zero, and_self]) ⟨blk_le' b 0 0 rfl, ops_le b.n b.f false, trivial⟩) ⟨j + 1, rfl, hlt, ?_, rfl⟩
        simp only [opsR, opR, abR, hok, h1, hou, hu, hc, Bool.not_false, Bool.and_self]
  · have e : j = b.n := by simp only [decide_eq_false_iff_not] at hc; omega
    have e2 : rightR b = true := by unfold rightR; rw [hhd, ← e, hok]; rfl
    rw [e2]
    exact end_ops true rfl rfl ⟨rfl, rfl⟩
end Go.Proofs.Ytmbnakinhnkabaa

namespace Go.Proofs.Ytmbnakinhnkabaa
open Go.AM
set_option maxRecDepth 100000
set_option linter.unusedSimpArgs false
set_option linter.unusedVariables false
theorem and3 {p : Int} (h0 : 0 ≤ p) (h1 : p ≤ 18446744073709551615) : IntKind.u64.wrap (BitVec.ofInt IntKind.u64.bits p &&& BitVec.ofInt IntKind.u64.bits 3).toNat = p.tmod 4 := by
  have e : (BitVec.ofInt 64 p &&& BitVec.ofInt 64 3).toNat = p.toNat % 4 := by
    rw [BitVec.toNat_and, BitVec.toNat_ofInt, BitVec.toNat_ofInt]
    have e1 : (p % ((2 ^ 64 : Nat) : Int)).toNat = p.toNat := by
      rw [Int.emod_eq_of_lt h0 (by simp only [Nat.reducePow]; omega)]
    have e2 : ((3 : Int) % ((2 ^ 64 : Nat) : Int)).toNat = 2 ^ 2 - 1 := by decide
    rw [e1, e2, Nat.and_two_pow_sub_one_eq_mod]
  show IntKind.u64.wrap (((BitVec.ofInt 64 p &&& BitVec.ofInt 64 3).toNat : Nat) : Int) = _
  rw [e, show ∀ n : Int, IntKind.u64.wrap n = n % 18446744073709551616 from fun n => by simp [IntKind.wrap, IntKind.bits, IntKind.signed], Int.tmod_eq_emod_of_nonneg h0]
  omega
theorem shr32 {p : Int} (h0 : 0 ≤ p) : (p.fdiv (2 ^ min 32 IntKind.u64.bits) == 0) = decide (p < 4294967296) := by
  have e : ((2 : Int) ^ min 32 IntKind.u64.bits) = 4294967296 := by decide
  rw [e, Int.fdiv_eq_ediv_of_nonneg _ (by decide), show (p / 4294967296 == 0) = decide (p / 4294967296 = 0) from rfl]
  exact decide_eq_decide.2 (by omega)
theorem bne_dec (a b : Int) : (a != b) = !decide (a = b) := rfl
theorem beq_dec (a b : Int) : (a == b) = decide (a = b) := rfl
theorem field_eq (o : OpS) (hw : OpWf o) : (fieldR o && !abR o) = !fieldBad o := by
  have h3 := and3 hw.imm.1 hw.imm.2
  have h4 : o.imm.fdiv (2 ^ min 32 IntKind.u64.bits) = 0 ↔ o.imm < 4294967296 := by
    have := shr32 hw.imm.1
    rw [Bool.eq_iff_iff, decide_eq_true_eq, beq_iff_eq] at this
    exact this
  by_cases h1 : o.kind = 1
  · unfold fieldR fieldBad rightF abR
    simp only [h1, hasR, hasImm, hasOrd, usesS, andB, betw, upS, inB, ordF, h3, h4, beq_dec, bne_dec, reduceIte, Int.reduceEq, or_self, or_true, true_or, or_false, false_or, if_true, if_false, decide_true, decide_false, Bool.or_true, Bool.true_or, Bool.or_false, Bool.false_or, Bool.not_true, Bool.not_false, Bool.true_and, Bool.and_true, Bool.false_and, Bool.and_false, Nat.reduceLT, Nat.reduceAdd, Int.reduceLT]
    rw [Bool.eq_iff_iff]
    simp only [Bool.and_eq_true, Bool.or_eq_true, Bool.not_eq_true', Bool.or_eq_false_iff, Bool.and_eq_false_iff, decide_eq_true_eq, decide_eq_false_iff_not, Bool.not_eq_false', ge_iff_le]
    omega
  by_cases h2 : o.kind = 2
  · unfold fieldR fieldBad rightF abR
    simp only [h2, hasR, hasImm, hasOrd, usesS, andB, betw, upS, inB, ordF, h3, h4, beq_dec, bne_dec, reduceIte, Int.reduceEq, or_self, or_true, true_or, or_false, false_or, if_true, if_false, decide_true, decide_false, Bool.or_true, Bool.true_or, Bool.or_false, Bool.false_or, Bool.not_true, Bool.not_false, Bool.true_and, Bool.and_true, Bool.false_and, Bool.and_false, Nat.reduceLT, Nat.reduceAdd, Int.reduceLT]
    rw [Bool.eq_iff_iff]
    simp only [Bool.and_eq_true, Bool.or_eq_true, Bool.not_eq_true', Bool.or_eq_false_iff, Bool.and_eq_false_iff, decide_eq_true_eq, decide_eq_false_iff_not, Bool.not_eq_false', ge_iff_le]
    omega
  by_cases h3 : o.kind = 3
  · unfold fieldR fieldBad rightF abR
    simp only [h3, hasR, hasImm, hasOrd, usesS, andB, betw, upS, inB, ordF, h3, h4, beq_dec, bne_dec, reduceIte, Int.reduceEq, or_self, or_true, true_or, or_false, false_or, if_true, if_false, decide_true, decide_false, Bool.or_true, Bool.true_or, Bool.or_false, Bool.false_or, Bool.not_true, Bool.not_false, Bool.true_and, Bool.and_true, Bool.false_and, Bool.and_false, Nat.reduceLT, Nat.reduceAdd, Int.reduceLT]
    rw [Bool.eq_iff_iff]
    simp only [Bool.and_eq_true, Bool.or_eq_true, Bool.not_eq_true', Bool.or_eq_false_iff, Bool.and_eq_false_iff, decide_eq_true_eq, decide_eq_false_iff_not, Bool.not_eq_false', ge_iff_le]
    omega
  by_cases h4 : o.kind = 4
  · unfold fieldR fieldBad rightF abR
    simp only [h4, hasR, hasImm, hasOrd, usesS, andB, betw, upS, inB, ordF, h3, h4, beq_dec, bne_dec, reduceIte, Int.reduceEq, or_self, or_true, true_or, or_false, false_or, if_true, if_false, decide_true, decide_false, Bool.or_true, Bool.true_or, Bool.or_false, Bool.false_or, Bool.not_true, Bool.not_false, Bool.true_and, Bool.and_true, Bool.false_and, Bool.and_false, Nat.reduceLT, Nat.reduceAdd, Int.reduceLT]
    rw [Bool.eq_iff_iff]
    simp only [Bool.and_eq_true, Bool.or_eq_true, Bool.not_eq_true', Bool.or_eq_false_iff, Bool.and_eq_false_iff, decide_eq_true_eq, decide_eq_false_iff_not, Bool.not_eq_false', ge_iff_le]
    omega
  by_cases h5 : o.kind = 5
  · unfold fieldR fieldBad rightF abR
    simp only [h5, hasR, hasImm, hasOrd, usesS, andB, betw, upS, inB, ordF, h3, h4, beq_dec, bne_dec, reduceIte, Int.reduceEq, or_self, or_true, true_or, or_false, false_or, if_true, if_false, decide_true, decide_false, Bool.or_true, Bool.true_or, Bool.or_false, Bool.false_or, Bool.not_true, Bool.not_false, Bool.true_and, Bool.and_true, Bool.false_and, Bool.and_false, Nat.reduceLT, Nat.reduceAdd, Int.reduceLT]
    rw [Bool.eq_iff_iff]
    simp only [Bool.and_eq_true, Bool.or_eq_true, Bool.not_eq_true', Bool.or_eq_false_iff, Bool.and_eq_false_iff, decide_eq_true_eq, decide_eq_false_iff_not, Bool.not_eq_false', ge_iff_le]
    omega
  by_cases h6 : o.kind = 6
  · unfold fieldR fieldBad rightF abR
    simp only [h6, hasR, hasImm, hasOrd, usesS, andB, betw, upS, inB, ordF, h3, h4, beq_dec, bne_dec, reduceIte, Int.reduceEq, or_self, or_true, true_or, or_false, false_or, if_true, if_false, decide_true, decide_false, Bool.or_true, Bool.true_or, Bool.or_false, Bool.false_or, Bool.not_true, Bool.not_false, Bool.true_and, Bool.and_true, Bool.false_and, Bool.and_false, Nat.reduceLT, Nat.reduceAdd, Int.reduceLT]
    rw [Bool.eq_iff_iff]
    simp only [Bool.and_eq_true, Bool.or_eq_true, Bool.not_eq_true', Bool.or_eq_false_iff, Bool.and_eq_false_iff, decide_eq_true_eq, decide_eq_false_iff_not, Bool.not_eq_false', ge_iff_le]
    omega
  by_cases h7 : o.kind = 7
  · unfold fieldR fieldBad rightF abR
    simp only [h7, hasR, hasImm, hasOrd, usesS, andB, betw, upS, inB, ordF, h3, h4, beq_dec, bne_dec, reduceIte, Int.reduceEq, or_self, or_true, true_or, or_false, false_or, if_true, if_false, decide_true, decide_false, Bool.or_true, Bool.true_or, Bool.or_false, Bool.false_or, Bool.not_true, Bool.not_false, Bool.true_and, Bool.and_true, Bool.false_and, Bool.and_false, Nat.reduceLT, Nat.reduceAdd, Int.reduceLT]
    rw [Bool.eq_iff_iff]
    simp only [Bool.and_eq_true, Bool.or_eq_true, Bool.not_eq_true', Bool.or_eq_false_iff, Bool.and_eq_false_iff, decide_eq_true_eq, decide_eq_false_iff_not, Bool.not_eq_false', ge_iff_le]
    omega
  by_cases h8 : o.kind = 8
  · unfold fieldR fieldBad rightF abR
    simp only [h8, hasR, hasImm, hasOrd, usesS, andB, betw, upS, inB, ordF, h3, h4, beq_dec, bne_dec, reduceIte, Int.reduceEq, or_self, or_true, true_or, or_false, false_or, if_true, if_false, decide_true, decide_false, Bool.or_true, Bool.true_or, Bool.or_false, Bool.false_or, Bool.not_true, Bool.not_false, Bool.true_and, Bool.and_true, Bool.false_and, Bool.and_false, Nat.reduceLT, Nat.reduceAdd, Int.reduceLT]
    rw [Bool.eq_iff_iff]
    simp only [Bool.and_eq_true, Bool.or_eq_true, Bool.not_eq_true', Bool.or_eq_false_iff, Bool.and_eq_false_iff, decide_eq_true_eq, decide_eq_false_iff_not, Bool.not_eq_false', ge_iff_le]
    omega
  by_cases h9 : o.kind = 9
  · unfold fieldR fieldBad rightF abR
    simp only [h9, hasR, hasImm, hasOrd, usesS, andB, betw, upS, inB, ordF, h3, h4, beq_dec, bne_dec, reduceIte, Int.reduceEq, or_self, or_true, true_or, or_false, false_or, if_true, if_false, decide_true, decide_false, Bool.or_true, Bool.true_or, Bool.or_false, Bool.false_or, Bool.not_true, Bool.not_false, Bool.true_and, Bool.and_true, Bool.false_and, Bool.and_false, Nat.reduceLT, Nat.reduceAdd, Int.reduceLT]
    rw [Bool.eq_iff_iff]
    simp only [Bool.and_eq_true, Bool.or_eq_true, Bool.not_eq_true', Bool.or_eq_false_iff, Bool.and_eq_false_iff, decide_eq_true_eq, decide_eq_false_iff_not, Bool.not_eq_false', ge_iff_le]
    omega
  by_cases h10 : o.kind = 10
  · unfold fieldR fieldBad rightF abR
    simp only [h10, hasR, hasImm, hasOrd, usesS, andB, betw, upS, inB, ordF, h3, h4, beq_dec, bne_dec, reduceIte, Int.reduceEq, or_self, or_true, true_or, or_false, false_or, if_true, if_false, decide_true, decide_false, Bool.or_true, Bool.true_or, Bool.or_false, Bool.false_or, Bool.not_true, Bool.not_false, Bool.true_and, Bool.and_true, Bool.false_and, Bool.and_false, Nat.reduceLT, Nat.reduceAdd, Int.reduceLT]
    rw [Bool.eq_iff_iff]
    simp only [Bool.and_eq_true, Bool.or_eq_true, Bool.not_eq_true', Bool.or_eq_false_iff, Bool.and_eq_false_iff, decide_eq_true_eq, decide_eq_false_iff_not, Bool.not_eq_false', ge_iff_le]
    omega
  by_cases h11 : o.kind = 11
  · unfold fieldR fieldBad rightF abR
    simp only [h11, hasR, hasImm, hasOrd, usesS, andB, betw, upS, inB, ordF, h3, h4, beq_dec, bne_dec, reduceIte, Int.reduceEq, or_self, or_true, true_or, or_false, false_or, if_true, if_false, decide_true, decide_false, Bool.or_true, Bool.true_or, Bool.or_false, Bool.false_or, Bool.not_true, Bool.not_false, Bool.true_and, Bool.and_true, Bool.false_and, Bool.and_false, Nat.reduceLT, Nat.reduceAdd, Int.reduceLT]
    rw [Bool.eq_iff_iff]
    simp only [Bool.and_eq_true, Bool.or_eq_true, Bool.not_eq_true', Bool.or_eq_false_iff, Bool.and_eq_false_iff, decide_eq_true_eq, decide_eq_false_iff_not, Bool.not_eq_false', ge_iff_le]
    omega
  by_cases h12 : o.kind = 12
  · unfold fieldR fieldBad rightF abR
    simp only [h12, hasR, hasImm, hasOrd, usesS, andB, betw, upS, inB, ordF, h3, h4, beq_dec, bne_dec, reduceIte, Int.reduceEq, or_self, or_true, true_or, or_false, false_or, if_true, if_false, decide_true, decide_false, Bool.or_true, Bool.true_or, Bool.or_false, Bool.false_or, Bool.not_true, Bool.not_false, Bool.true_and, Bool.and_true, Bool.false_and, Bool.and_false, Nat.reduceLT, Nat.reduceAdd, Int.reduceLT]
    rw [Bool.eq_iff_iff]
    simp only [Bool.and_eq_true, Bool.or_eq_true, Bool.not_eq_true', Bool.or_eq_false_iff, Bool.and_eq_false_iff, decide_eq_true_eq, decide_eq_false_iff_not, Bool.not_eq_false', ge_iff_le]
    omega
  by_cases h13 : o.kind = 13
  · unfold fieldR fieldBad rightF abR
    simp only [h13, hasR, hasImm, hasOrd, usesS, andB, betw, upS, inB, ordF, h3, h4, beq_dec, bne_dec, reduceIte, Int.reduceEq, or_self, or_true, true_or, or_false, false_or, if_true, if_false, decide_true, decide_false, Bool.or_true, Bool.true_or, Bool.or_false, Bool.false_or, Bool.not_true, Bool.not_false, Bool.true_and, Bool.and_true, Bool.false_and, Bool.and_false, Nat.reduceLT, Nat.reduceAdd, Int.reduceLT]
    rw [Bool.eq_iff_iff]
    simp only [Bool.and_eq_true, Bool.or_eq_true, Bool.not_eq_true', Bool.or_eq_false_iff, Bool.and_eq_false_iff, decide_eq_true_eq, decide_eq_false_iff_not, Bool.not_eq_false', ge_iff_le]
    omega
  by_cases h14 : o.kind = 14
  · unfold fieldR fieldBad rightF abR
    simp only [h14, hasR, hasImm, hasOrd, usesS, andB, betw, upS, inB, ordF, h3, h4, beq_dec, bne_dec, reduceIte, Int.reduceEq, or_self, or_true, true_or, or_false, false_or, if_true, if_false, decide_true, decide_false, Bool.or_true, Bool.true_or, Bool.or_false, Bool.false_or, Bool.not_true, Bool.not_false, Bool.true_and, Bool.and_true, Bool.false_and, Bool.and_false, Nat.reduceLT, Nat.reduceAdd, Int.reduceLT]
    rw [Bool.eq_iff_iff]
    simp only [Bool.and_eq_true, Bool.or_eq_true, Bool.not_eq_true', Bool.or_eq_false_iff, Bool.and_eq_false_iff, decide_eq_true_eq, decide_eq_false_iff_not, Bool.not_eq_false', ge_iff_le]
    omega
  by_cases h15 : o.kind = 15
  · unfold fieldR fieldBad rightF abR
    simp only [h15, hasR, hasImm, hasOrd, usesS, andB, betw, upS, inB, ordF, h3, h4, beq_dec, bne_dec, reduceIte, Int.reduceEq, or_self, or_true, true_or, or_false, false_or, if_true, if_false, decide_true, decide_false, Bool.or_true, Bool.true_or, Bool.or_false, Bool.false_or, Bool.not_true, Bool.not_false, Bool.true_and, Bool.and_true, Bool.false_and, Bool.and_false, Nat.reduceLT, Nat.reduceAdd, Int.reduceLT]
    rw [Bool.eq_iff_iff]
    simp only [Bool.and_eq_true, Bool.or_eq_true, Bool.not_eq_true', Bool.or_eq_false_iff, Bool.and_eq_false_iff, decide_eq_true_eq, decide_eq_false_iff_not, Bool.not_eq_false', ge_iff_le]
    omega
  by_cases h16 : o.kind = 16
  · unfold fieldR fieldBad rightF abR
    simp only [h16, hasR, hasImm, hasOrd, usesS, andB, betw, upS, inB, ordF, h3, h4, beq_dec, bne_dec, reduceIte, Int.reduceEq, or_self, or_true, true_or, or_false, false_or, if_true, if_false, decide_true, decide_false, Bool.or_true, Bool.true_or, Bool.or_false, Bool.false_or, Bool.not_true, Bool.not_false, Bool.true_and, Bool.and_true, Bool.false_and, Bool.and_false, Nat.reduceLT, Nat.reduceAdd, Int.reduceLT]
    rw [Bool.eq_iff_iff]
    simp only [Bool.and_eq_true, Bool.or_eq_true, Bool.not_eq_true', Bool.or_eq_false_iff, Bool.and_eq_false_iff, decide_eq_true_eq, decide_eq_false_iff_not, Bool.not_eq_false', ge_iff_le]
    omega
  by_cases h17 : o.kind = 17
  · unfold fieldR fieldBad rightF abR
    simp only [h17, hasR, hasImm, hasOrd, usesS, andB, betw, upS, inB, ordF, h3, h4, beq_dec, bne_dec, reduceIte, Int.reduceEq, or_self, or_true, true_or, or_false, false_or, if_true, if_false, decide_true, decide_false, Bool.or_true, Bool.true_or, Bool.or_false, Bool.false_or, Bool.not_true, Bool.not_false, Bool.true_and, Bool.and_true, Bool.false_and, Bool.and_false, Nat.reduceLT, Nat.reduceAdd, Int.reduceLT]
    rw [Bool.eq_iff_iff]
    simp only [Bool.and_eq_true, Bool.or_eq_true, Bool.not_eq_true', Bool.or_eq_false_iff, Bool.and_eq_false_iff, decide_eq_true_eq, decide_eq_false_iff_not, Bool.not_eq_false', ge_iff_le]
    omega
  by_cases h18 : o.kind = 18
  · unfold fieldR fieldBad rightF abR
    simp only [h18, hasR, hasImm, hasOrd, usesS, andB, betw, upS, inB, ordF, h3, h4, beq_dec, bne_dec, reduceIte, Int.reduceEq, or_self, or_true, true_or, or_false, false_or, if_true, if_false, decide_true, decide_false, Bool.or_true, Bool.true_or, Bool.or_false, Bool.false_or, Bool.not_true, Bool.not_false, Bool.true_and, Bool.and_true, Bool.false_and, Bool.and_false, Nat.reduceLT, Nat.reduceAdd, Int.reduceLT]
    rw [Bool.eq_iff_iff]
    simp only [Bool.and_eq_true, Bool.or_eq_true, Bool.not_eq_true', Bool.or_eq_false_iff, Bool.and_eq_false_iff, decide_eq_true_eq, decide_eq_false_iff_not, Bool.not_eq_false', ge_iff_le]
    omega
  have e : fieldR o = false := by simp [fieldR, *]
  have e2 : fieldBad o = true := by simp [fieldBad, rightF, *]
  rw [e, e2]
  rfl
theorem opR_eq {b : BlkS} {j : Nat} (hw : OpWf (b.f j)) : opR b j = (ropS (b.f j) j b.f && (endS (b.f j).kind == decide ((j : Int) = (b.n : Int) - 1))) := by
  have h := field_eq (b.f j) hw
  unfold opR opR1 ropS
  rw [← h]
  have e : lastR (b.f j).kind = endS (b.f j).kind := rfl
  rw [e, beq_dec]
  cases fieldR (b.f j) <;> cases abR (b.f j) <;> cases usesOk (b.f j) j b.f (usesS (b.f j).kind) <;> cases endS (b.f j).kind <;> cases decide ((j : Int) = (b.n : Int) - 1) <;> rfl
theorem opsR_eq {b : BlkS} (hw : ∀ i, i < b.n → OpWf (b.f i)) : ∀ {n : Nat}, n ≤ b.n → opsR b n = opsOk b n
  | 0, _ => rfl
  | n + 1, h => by simp only [opsR, opsOk]; rw [opsR_eq hw (by omega), opR_eq (hw n (by omega))]
theorem headR_eq {b : BlkS} (hw : BlkWf b) : headR b = (head1 b || head2 b) := by
  unfold headR head1 head2
  rw [and3 hw.pc.1 hw.pc.2]
  simp only [betw, beq_dec, bne_dec]
  rw [Bool.eq_iff_iff]
  simp only [Bool.and_eq_true, Bool.or_eq_true, Bool.not_eq_true', Bool.or_eq_false_iff, Bool.and_eq_false_iff, decide_eq_true_eq, decide_eq_false_iff_not, Bool.not_eq_false', ge_iff_le]
  omega
theorem rightR_eq {b : BlkS} (hw : BlkWf b) : rightR b = rightS b := by
  unfold rightR rightS
  rw [headR_eq hw, opsR_eq hw.ops (Nat.le_refl _), Bool.not_or]
theorem ropS_r {o : OpS} {m : Nat} {f : Nat → OpS} (h : ropS o m f = true) (hk : hasR o.kind = false) : o.r = 0 := by
  unfold ropS fieldBad at h
  simp only [Bool.and_eq_true, Bool.not_eq_true', Bool.or_eq_false_iff, Bool.and_eq_false_iff, Bool.not_eq_false', bne_eq_false_iff_eq] at h
  have := h.1.1.1.1.1.2
  rw [hk] at this
  simpa using this
theorem right_r {b : BlkS} (hr : rightS b = true) {k : Nat} (hk : k < b.n) (h : hasR (b.f k).kind = false) : (b.f k).r = 0 := ropS_r (opsOk_at (right_ops hr) hk).1 h
end Go.Proofs.Ytmbnakinhnkabaa

namespace Go.Proofs.Ytmbnakinhnkabaa
open Go.AM
set_option maxRecDepth 100000
set_option linter.unusedSimpArgs false
set_option linter.unusedVariables false
end Go.Proofs.Ytmbnakinhnkabaa

namespace Go.Proofs.Ytmbnakinhnkabaa
open Go.AM
set_option maxRecDepth 100000
set_option linter.unusedSimpArgs false
set_option linter.unusedVariables false
end Go.Proofs.Ytmbnakinhnkabaa

namespace Go.Proofs.Ytmbnakinhnkabaa
open Go.AM
set_option maxRecDepth 100000
set_option linter.unusedSimpArgs false
set_option linter.unusedVariables false
theorem con11_at (b : BlkS) (hw : BlkWf b) (i n : Nat) (X : List (Nat × Blk)) (w : Bool) (h0 : getB X i = some ⟨6, some b.n, fun i => opL (b.f i), 39, w⟩) (hlt : i < n) (hkl : keysLt X n) : Con Try.prog 11 [.agg (blkL b i)] ⟨n, X⟩ (fun v H' => v = .c (.bool (rightS b)) ∧ H' = ⟨n, X⟩) := by
  rw [← rightR_eq hw]
  exact ro_gen (con11 b) [i] n X rfl ⟨trivial, trivial⟩ ⟨hlt, trivial⟩ hkl (by simp only [leBlks, nthO, h0]; exact ⟨ops_le b.n b.f w, trivial⟩) (by simp only [leArgs, leV, leV1, blkL, leSegs, leSeg, leC, leA, nthO, and_self]) rfl (fun _ => rfl) rfl rfl
end Go.Proofs.Ytmbnakinhnkabaa

namespace Go.Proofs.Ytmbnakinhnkabaa
open Go.AM
set_option maxRecDepth 100000
set_option linter.unusedSimpArgs false
set_option linter.unusedVariables false
def truthS (b : Bool) : Int := match b with | true => 1 | false => 0
def f52 (a b : Int) : Int := IntKind.u64.wrap (a + b)
def f53 (a b : Int) : Int := IntKind.u64.wrap (a - b)
def f54 (a b : Int) : Int := IntKind.u64.wrap (BitVec.ofInt IntKind.u64.bits a &&& BitVec.ofInt IntKind.u64.bits b).toNat
def f55 (a b : Int) : Int := IntKind.u64.wrap (BitVec.ofInt IntKind.u64.bits a ||| BitVec.ofInt IntKind.u64.bits b).toNat
def f56 (a b : Int) : Int := IntKind.u64.wrap (BitVec.ofInt IntKind.u64.bits a ^^^ BitVec.ofInt IntKind.u64.bits b).toNat
def f57 (a b : Int) : Int := IntKind.u64.wrap (a * b)
def f58 (a b : Int) : Int := if b = 0 then 0 else IntKind.u64.wrap (a.tdiv b)
def U (x : Int) : Prop := 0 ≤ x ∧ x < 18446744073709551616
theorem uwrap (x : Int) : IntKind.u64.wrap x = x % 18446744073709551616 := by
  rw [IntKind.wrap_u64]
theorem U_wrap (x : Int) : U (IntKind.u64.wrap x) := by
  rw [uwrap]; unfold U; omega
theorem sixtythree : min 63 IntKind.u64.bits = 63 := by decide
def sh63 (a : Int) : Int := a.fdiv (2 ^ 63)
theorem con96 (b : Bool) (H : Heap) : Con Try.prog 96 [.c (.bool b)] H (fun v H' => v = .c (.int .u64 (truthS b)) ∧ H' = H) := by
  refine Con.pure ?_ (by simp only [leArgs, leV, leV1, leC, and_self]) rfl H
  (refine con_of_run mixed (fn := Try.f96) (by kernel_rfl) (by kernel_rfl) C96_ok (rs := [.tmp 2]) (by kernel_rfl) (Nat.le_of_ble_eq_true (by kernel_rfl)) ?_; unfold C96; simp only [initT, Nat.reduceAdd])
  repeat' (first | refine run_seq ?_ | refine run_skip ?_ | (refine run_region fun K hK => ?_; (try (simp (maxSteps := 10000000) only [C96r0, C96r1, C96r2, C96r3, rwp_nil, rwp_cons, rwpK_app, aop, gpath, St.get, slotAt, sfx, eqP, segsOf, St.put, addBlk, getB, setB, delB, ld1, ldn, st1, stn, setRow, rowNeed, segAt, nsub, bin, un, eqB, isShift, sameK, arith, shiftR, getsl, selB_or, selB_and, beqb, shed, addN, Nat.beq, Seg.size, sizes, imp, needP, andN, appL, argsOf, ptrsOf, aasOf, cut, takeS, dropS, putS, partsOf, fillS, fieldOf, nthA, negIf, nilq, nilB, eqS, eqF, eqS1, andP, kin, slcS, strOk, plusA, bndHi, leN, optG, roH, roL, initT, exOk, exAll, wrAddr, Nat.reduceAdd, Nat.reduceSub, Nat.reduceMul, Int.reduceToNat, List.append_nil, List.nil_append, List.cons_append, eqT, idxT, cat, cpy, ite_int, ite_bool, ite_seg, ite_segs, ite_nil, ite_twice, Int.toNat_natCast, app, addBs, tob])); (repeat (first | (refine And.intro ?_ ?_; · first | trivial | assumption | omega))); with_reducible refine hK _ ?_; clear hK K) | (refine run_cond rfl (fun hc => ?_) (fun hc => ?_) <;> try (simp only [*, Bool.true_eq_false, Bool.false_eq_true, Bool.not_true, Bool.not_false, Bool.true_or, Bool.or_true, Bool.false_or, Bool.or_false, Bool.false_and, Bool.and_false, bne_self_eq_false, beq_self_eq_true] at hc; done)) | refine run_ret ?_ | refine run_nil ?_)
  all_goals exact end_tmp1 rfl ⟨rfl, rfl⟩ rfl ⟨by rw [hc]; rfl, rfl⟩
def belowS (a b : Int) : Bool := decide (IntKind.u64.wrap (BitVec.ofInt IntKind.u64.bits a ^^^ BitVec.ofInt IntKind.u64.bits 9223372036854775808).toNat < IntKind.u64.wrap (BitVec.ofInt IntKind.u64.bits b ^^^ BitVec.ofInt IntKind.u64.bits 9223372036854775808).toNat)
theorem con97 (a b : Int) (H : Heap) : Con Try.prog 97 [.c (.int .u64 a), .c (.int .u64 b)] H (fun v H' => v = .c (.bool (belowS a b)) ∧ H' = H) := by
  refine Con.pure ?_ (by simp only [leArgs, leV, leV1, leC, and_self]) rfl H
  (refine con_of_run mixed (fn := Try.f97) (by kernel_rfl) (by kernel_rfl) C97_ok (rs := [.tmp 4]) (by kernel_rfl) (Nat.le_of_ble_eq_true (by kernel_rfl)) ?_; unfold C97; simp only [initT, Nat.reduceAdd])
  repeat' (first | refine run_seq ?_ | (refine run_region fun K hK => ?_; (try (simp (maxSteps := 10000000) only [C97r0, C97r1, rwp_nil, rwp_cons, rwpK_app, aop, gpath, St.get, slotAt, sfx, eqP, segsOf, St.put, addBlk, getB, setB, delB, ld1, ldn, st1, stn, setRow, rowNeed, segAt, nsub, bin, un, eqB, isShift, sameK, arith, shiftR, getsl, selB_or, selB_and, beqb, shed, addN, Nat.beq, Seg.size, sizes, imp, needP, andN, appL, argsOf, ptrsOf, aasOf, cut, takeS, dropS, putS, partsOf, fillS, fieldOf, nthA, negIf, nilq, nilB, eqS, eqF, eqS1, andP, kin, slcS, strOk, plusA, bndHi, leN, optG, roH, roL, initT, exOk, exAll, wrAddr, Nat.reduceAdd, Nat.reduceSub, Nat.reduceMul, Int.reduceToNat, List.append_nil, List.nil_append, List.cons_append, eqT, idxT, cat, cpy, ite_int, ite_bool, ite_seg, ite_segs, ite_nil, ite_twice, Int.toNat_natCast, app, addBs, tob])); (repeat (first | (refine And.intro ?_ ?_; · first | trivial | assumption | omega))); with_reducible refine hK _ ?_; clear hK K) | refine run_ret ?_ | refine run_nil ?_)
  exact end_tmp1 rfl rfl rfl ⟨rfl, rfl⟩
def divX (a : Int) : Int := if sh63 a = 1 then IntKind.u64.wrap (0 - a) else a
def divQ (a b : Int) : Int := IntKind.u64.wrap ((divX a).tdiv (divX b))
def divS (a b : Int) : Int := if b = 0 then 0 else if sh63 a = sh63 b then divQ a b else IntKind.u64.wrap (0 - divQ a b)
theorem divX_ne' {b : Int} (hb : U b) (h : b ≠ 0) (h1 : (b.fdiv (2 ^ 63) == 1) = true) : IntKind.u64.wrap (0 - b) ≠ 0 := by
  rw [uwrap]; obtain ⟨h0, h1⟩ := hb; omega
theorem con94 (a b : Int) (ha : U a) (hb : U b) (H : Heap) : Con Try.prog 94 [.c (.int .u64 a), .c (.int .u64 b)] H (fun v H' => v = .c (.int .u64 (divS a b)) ∧ H' = H) := by
  refine Con.pure ?_ (by simp only [leArgs, leV, leV1, leC, and_self]) rfl H
  (refine con_of_run mixed (fn := Try.f94) (by kernel_rfl) (by kernel_rfl) C94_ok (rs := [.tmp 4]) (by kernel_rfl) (Nat.le_of_ble_eq_true (by kernel_rfl)) ?_; unfold C94; simp only [initT, Nat.reduceAdd])
  repeat' (first | refine run_seq ?_ | refine run_skip ?_ | (refine run_region fun K hK => ?_; (try (simp (maxSteps := 10000000) only [sixtythree, C94r0, C94r1, C94r2, C94r3, C94r4, C94r5, C94r6, C94r7, C94r8, C94r9, C94r10, C94r11, C94r12, rwp_nil, rwp_cons, rwpK_app, aop, gpath, St.get, slotAt, sfx, eqP, segsOf, St.put, addBlk, getB, setB, delB, ld1, ldn, st1, stn, setRow, rowNeed, segAt, nsub, bin, un, eqB, isShift, sameK, arith, shiftR, getsl, selB_or, selB_and, beqb, shed, addN, Nat.beq, Seg.size, sizes, imp, needP, andN, appL, argsOf, ptrsOf, aasOf, cut, takeS, dropS, putS, partsOf, fillS, fieldOf, nthA, negIf, nilq, nilB, eqS, eqF, eqS1, andP, kin, slcS, strOk, plusA, bndHi, leN, optG, roH, roL, initT, exOk, exAll, wrAddr, Nat.reduceAdd, Nat.reduceSub, Nat.reduceMul, Int.reduceToNat, List.append_nil, List.nil_append, List.cons_append, eqT, idxT, cat, cpy, ite_int, ite_bool, ite_seg, ite_segs, ite_nil, ite_twice, Int.toNat_natCast, app, addBs, tob])); (repeat (first | (refine And.intro ?_ ?_; · (first | decide | (intros; omega) | (simpa using ‹(b == 0) = false›) | exact divX_ne' hb (by simpa using ‹(b == 0) = false›) (by assumption))))); with_reducible refine hK _ ?_; clear hK K) | (refine run_cond rfl (fun hc => ?_) (fun hc => ?_) <;> try (simp only [*, Bool.true_eq_false, Bool.false_eq_true, Bool.not_true, Bool.not_false, Bool.true_or, Bool.or_true, Bool.false_or, Bool.or_false, Bool.false_and, Bool.and_false, bne_self_eq_false, beq_self_eq_true] at hc; done)) | refine run_ret ?_ | refine run_nil ?_)
  all_goals
    refine end_tmp1 rfl ⟨rfl, rfl⟩ rfl ⟨?_, rfl⟩
    simp only [beq_iff_eq, beq_eq_false_iff_ne, bne_iff_ne, bne_eq_false_iff_eq, ne_eq] at *
    try simp only [show ∀ x : Int, x.fdiv (2 ^ 63) = sh63 x from fun _ => rfl] at *
    simp only [divS, divQ, divX]
    generalize sh63 a = p at *
    generalize sh63 b = q at *
  · simp only [*, if_true]
  all_goals rw [if_neg (by assumption)]
  · subst p q; simp at *
  · subst p q; simp only [if_true]
  · subst p; rw [if_neg (by assumption), if_pos rfl, if_neg (by assumption)]
  · subst p; exact absurd ‹(1 : Int) = q›.symm ‹¬ q = 1›
  · subst q; rw [if_neg (by assumption), if_neg (by assumption), if_pos rfl]
  · subst q; exact absurd ‹p = 1› ‹¬ p = 1›
  · rw [if_neg (by assumption), if_neg (by assumption), if_neg (by assumption)]
  · rw [if_pos (by assumption), if_neg (by assumption), if_neg (by assumption)]
def topS (a fill : Int) : Int := if fill = 2 then a.tmod 2 else IntKind.u64.wrap fill
def turn1 (a fill : Int) : Int := IntKind.u64.wrap (IntKind.u64.wrap (a.tdiv 2) + IntKind.u64.wrap (topS a fill * 2 ^ 63))
def turnS : Nat → Int → Int → Int
  | 0, a, _ => a
  | n + 1, a, f => turnS n (turn1 a f) f
def turnSt (a by_ f i : Int) : St := ⟨[⟨7, [], .c (.int .i64 i)⟩, ⟨0, [], .c (.int .u64 a)⟩, ⟨1, [], .c (.int .i64 by_)⟩, ⟨2, [], .c (.int .i64 f)⟩], ⟨0, []⟩⟩
theorem con95 (a f : Int) (n : Nat) (hn : n < 1000) (H : Heap) : Con Try.prog 95 [.c (.int .u64 a), .c (.int .i64 n), .c (.int .i64 f)] H (fun v H' => v = .c (.int .u64 (turnS n a f)) ∧ H' = H) := by
  refine Con.pure ?_ (by simp only [leArgs, leV, leV1, leC, and_self]) rfl H
  (refine con_of_run mixed (fn := Try.f95) (by kernel_rfl) (by kernel_rfl) C95_ok (rs := [.tmp 6]) (by kernel_rfl) (Nat.le_of_ble_eq_true (by kernel_rfl)) ?_; unfold C95; simp only [initT, Nat.reduceAdd])
  repeat' (first | refine run_seq ?_ | refine run_skip ?_ | (refine run_region fun K hK => ?_; (try (simp (maxSteps := 10000000) only [sixtythree, C95r0, C95r2, C95r3, C95r4, C95r5, C95r6, C95r7, C95r8, rwp_nil, rwp_cons, rwpK_app, aop, gpath, St.get, slotAt, sfx, eqP, segsOf, St.put, addBlk, getB, setB, delB, ld1, ldn, st1, stn, setRow, rowNeed, segAt, nsub, bin, un, eqB, isShift, sameK, arith, shiftR, getsl, selB_or, selB_and, beqb, shed, addN, Nat.beq, Seg.size, sizes, imp, needP, andN, appL, argsOf, ptrsOf, aasOf, cut, takeS, dropS, putS, partsOf, fillS, fieldOf, nthA, negIf, nilq, nilB, eqS, eqF, eqS1, andP, kin, slcS, strOk, plusA, bndHi, leN, optG, roH, roL, initT, exOk, exAll, wrAddr, Nat.reduceAdd, Nat.reduceSub, Nat.reduceMul, Int.reduceToNat, List.append_nil, List.nil_append, List.cons_append, eqT, idxT, cat, cpy, ite_int, ite_bool, ite_seg, ite_segs, ite_nil, ite_twice, Int.toNat_natCast, app, addBs, tob])); (repeat (first | (refine And.intro ?_ ?_; · decide))); with_reducible refine hK _ ?_; clear hK K) | (refine run_cond rfl (fun hc => ?_) (fun hc => ?_) <;> try (simp only [*, Bool.true_eq_false, Bool.false_eq_true, Bool.not_true, Bool.not_false, Bool.true_or, Bool.or_true, Bool.false_or, Bool.or_false, Bool.false_and, Bool.and_false, bne_self_eq_false, beq_self_eq_true] at hc; done)) | refine run_block ?_ | refine run_ret ?_ | refine run_nil ?_ | refine run_exit ?_ | refine blk_normal ?_ | refine blk_ret ?_ | refine blk_here ?_ | refine blk_there rfl ?_ | refine loop_exit ?_ | refine loop_ret ?_ | refine un_exit ?_ | refine un_ret ?_ | refine unE_exit ?_ | refine unE_ret ?_ | refine un_normal ?_)
  (refine run_regionL fun K hK => ?_; (try (simp (maxSteps := 10000000) only [sixtythree, C95r0, C95r1, C95r2, C95r3, C95r4, C95r5, C95r6, C95r7, C95r8, rwp_nil, rwp_cons, rwpK_app, aop, gpath, St.get, slotAt, sfx, eqP, segsOf, St.put, addBlk, getB, setB, delB, ld1, ldn, st1, stn, setRow, rowNeed, segAt, nsub, bin, un, eqB, isShift, sameK, arith, shiftR, getsl, selB_or, selB_and, beqb, shed, addN, Nat.beq, Seg.size, sizes, imp, needP, andN, appL, argsOf, ptrsOf, aasOf, cut, takeS, dropS, putS, partsOf, fillS, fieldOf, nthA, negIf, nilq, nilB, eqS, eqF, eqS1, andP, kin, slcS, strOk, plusA, bndHi, leN, optG, roH, roL, initT, exOk, exAll, wrAddr, Nat.reduceAdd, Nat.reduceSub, Nat.reduceMul, Int.reduceToNat, List.append_nil, List.nil_append, List.cons_append, eqT, idxT, cat, cpy, ite_int, ite_bool, ite_seg, ite_segs, ite_nil, ite_twice, Int.toNat_natCast, app, addBs, tob])); (repeat (first | (refine And.intro ?_ ?_; · first | trivial | assumption | omega))); refine hK _ (turnSt a n f 0) ((LeS.intro [] (fun i h => by omega) trivial rfl (by simp only [turnSt, slotsLe, slotAt, Nat.beq, leV, leV1, leC, and_self]) trivial)) ?_; clear hK K)
  refine run_block ?_
  generalize hT : turnS n a f = T
  refine run_loop (fun k st => ∃ (a' : Int) (i : Nat), st = turnSt a' n f i ∧ k = n - i ∧ i ≤ n ∧ turnS k a' f = T) n ⟨a, 0, rfl, by omega, by omega, hT⟩ ?_
  rintro k st ⟨a', i, rfl, hk, hi, hT⟩
  simp only [turnSt]
  repeat' (first | refine run_seq ?_ | refine run_skip ?_ | (refine run_region fun K hK => ?_; (try (simp (maxSteps := 10000000) only [sixtythree, ne_eq, C95r0, C95r1, C95r2, C95r3, C95r4, C95r5, C95r6, C95r7, C95r8, rwp_nil, rwp_cons, rwpK_app, aop, gpath, St.get, slotAt, sfx, eqP, segsOf, St.put, addBlk, getB, setB, delB, ld1, ldn, st1, stn, setRow, rowNeed, segAt, nsub, bin, un, eqB, isShift, sameK, arith, shiftR, getsl, selB_or, selB_and, beqb, shed, addN, Nat.beq, Seg.size, sizes, imp, needP, andN, appL, argsOf, ptrsOf, aasOf, cut, takeS, dropS, putS, partsOf, fillS, fieldOf, nthA, negIf, nilq, nilB, eqS, eqF, eqS1, andP, kin, slcS, strOk, plusA, bndHi, leN, optG, roH, roL, initT, exOk, exAll, wrAddr, Nat.reduceAdd, Nat.reduceSub, Nat.reduceMul, Int.reduceToNat, List.append_nil, List.nil_append, List.cons_append, eqT, idxT, cat, cpy, ite_int, ite_bool, ite_seg, ite_segs, ite_nil, ite_twice, Int.toNat_natCast, app, addBs, tob])); (repeat (first | (refine And.intro ?_ ?_; · decide))); with_reducible refine hK _ ?_; clear hK K) | (refine run_cond rfl (fun hc => ?_) (fun hc => ?_) <;> try (simp only [*, Bool.true_eq_false, Bool.false_eq_true, Bool.not_true, Bool.not_false, Bool.true_or, Bool.or_true, Bool.false_or, Bool.or_false, Bool.false_and, Bool.and_false, bne_self_eq_false, beq_self_eq_true] at hc; done)) | refine run_block ?_ | refine run_ret ?_ | refine run_nil ?_ | refine run_exit ?_ | refine blk_normal ?_ | refine blk_ret ?_ | refine blk_here ?_ | refine blk_there rfl ?_ | refine loop_exit ?_ | refine loop_ret ?_ | refine un_exit ?_ | refine un_ret ?_ | refine unE_exit ?_ | refine unE_ret ?_ | refine un_normal ?_)
  · have hlt : i < n := by simpa using ‹decide ((i : Int) < (n : Int)) = true›
    obtain ⟨k', rfl⟩ : ∃ k', k = k' + 1 := ⟨k - 1, by omega⟩
    refine loop_normal k' (turnSt (turn1 a' f) n f ((i + 1 : Nat) : Int)) (by omega) (LeS.intro [] (fun i h => by omega) trivial rfl (by
      have hf : f = 2 := by simpa using hc
      have hw : IntKind.i64.wrap ((i : Int) + 1) = ((i + 1 : Nat) : Int) := by rw [IntKind.wrap_i64]; omega
      simp only [turnSt, slotsLe, slotAt, Nat.beq, leV, leV1, leC, and_self, turn1, topS, hf, if_true, hw]) trivial) ⟨_, i + 1, rfl, by omega, by omega, hT⟩
  · have hlt : i < n := by simpa using ‹decide ((i : Int) < (n : Int)) = true›
    obtain ⟨k', rfl⟩ : ∃ k', k = k' + 1 := ⟨k - 1, by omega⟩
    refine loop_normal k' (turnSt (turn1 a' f) n f ((i + 1 : Nat) : Int)) (by omega) (LeS.intro [] (fun i h => by omega) trivial rfl (by
      have hf : ¬ f = 2 := by simpa using hc
      have hw : IntKind.i64.wrap ((i : Int) + 1) = ((i + 1 : Nat) : Int) := by rw [IntKind.wrap_i64]; omega
      simp only [turnSt, slotsLe, slotAt, Nat.beq, leV, leV1, leC, and_self, turn1, topS, hf, if_false, hw]) trivial) ⟨_, i + 1, rfl, by omega, by omega, hT⟩
  · have hlt : ¬ i < n := by simpa using hc
    have h0 : k = 0 := by omega
    subst h0
    exact end_tmp1 rfl ⟨rfl, rfl⟩ rfl ⟨by rw [← hT]; rfl, rfl⟩
def dblS : Nat → Int → Int
  | 0, a => a
  | n + 1, a => dblS n (IntKind.u64.wrap (a + a))
def by64 (b : Int) : Int := IntKind.i64.wrap (b.tmod 64)
def refR (k a b : Int) : Int × Bool :=
  if k = 1 then (f52 a b, true) else if k = 2 then (f53 a b, true) else if k = 3 then (f54 a b, true) else if k = 4 then (f55 a b, true) else if k = 5 then (f56 a b, true) else if k = 6 then (f57 a b, true) else if k = 7 then (f58 a b, true) else
  if k = 8 then (divS a b, true) else if k = 9 then (dblS (by64 b).toNat a, true) else if k = 10 then (turnS (by64 b).toNat a 0, true) else if k = 11 then (turnS (by64 b).toNat a (IntKind.i64.wrap (sh63 a)), true) else if k = 12 then (turnS (by64 b).toNat a 2, true) else
  if k = 13 then (truthS (a == b), true) else if k = 14 then (truthS (decide (a < b)), true) else if k = 15 then (truthS (belowS a b), true) else (0, false)
def dblSt (k a b n i : Int) : St := ⟨[⟨9, [], .c (.int .i64 i)⟩, ⟨1, [], .c (.int .u64 a)⟩, ⟨8, [], .c (.int .i64 n)⟩, ⟨0, [], .c (.int .i64 k)⟩, ⟨2, [], .c (.int .u64 b)⟩], ⟨0, []⟩⟩
theorem by64_le {b : Int} (hb : U b) : 0 ≤ by64 b ∧ by64 b < 64 := by
  unfold by64
  rw [IntKind.wrap_i64, Int.tmod_eq_emod_of_nonneg hb.1]
  omega
theorem con95' (a b f : Int) (hb : U b) (H : Heap) : Con Try.prog 95 [.c (.int .u64 a), .c (.int .i64 (by64 b)), .c (.int .i64 f)] H (fun v H' => v = .c (.int .u64 (turnS (by64 b).toNat a f)) ∧ H' = H) := by
  have h := by64_le hb
  have := con95 a f (by64 b).toNat (by omega) H
  rwa [Int.toNat_of_nonneg h.1] at this
theorem con63 (k a b : Int) (ha : U a) (hb : U b) (H : Heap) : Con Try.prog 63 [.c (.int .i64 k), .c (.int .u64 a), .c (.int .u64 b)] H (fun v H' => v = .tup [.c (.int .u64 (refR k a b).1), .c (.bool (refR k a b).2)] ∧ H' = H) := by
  refine Con.pure ?_ (by simp only [leArgs, leV, leV1, leC, and_self]) rfl H
  (refine con_of_run mixed (fn := Try.f63) (by kernel_rfl) (by kernel_rfl) C63_ok (rs := [.tmp 6, .tmp 7]) (by kernel_rfl) (Nat.le_of_ble_eq_true (by kernel_rfl)) ?_; unfold C63; simp only [initT, Nat.reduceAdd])
  have hby : IntKind.i64.wrap (b.tmod 64) = by64 b := rfl
  repeat' (first | refine run_seq ?_ | refine run_skip ?_ | (refine run_region fun K hK => ?_; (try (simp (maxSteps := 10000000) only [sixtythree, ne_eq, hby, C63r0, C63r1, C63r2, C63r3, C63r4, C63r5, C63r6, C63r7, C63r8, C63r9, C63r10, C63r11, C63r12, C63r13, C63r14, C63r15, C63r16, C63r17, C63r18, C63r19, C63r20, C63r21, C63r23, C63r24, C63r25, C63r26, C63r27, C63r28, C63r29, C63r30, C63r31, C63r32, C63r33, C63r34, C63r35, C63r36, C63r37, C63r38, C63r39, rwp_nil, rwp_cons, rwpK_app, aop, gpath, St.get, slotAt, sfx, eqP, segsOf, St.put, addBlk, getB, setB, delB, ld1, ldn, st1, stn, setRow, rowNeed, segAt, nsub, bin, un, eqB, isShift, sameK, arith, shiftR, getsl, selB_or, selB_and, beqb, shed, addN, Nat.beq, Seg.size, sizes, imp, needP, andN, appL, argsOf, ptrsOf, aasOf, cut, takeS, dropS, putS, partsOf, fillS, fieldOf, nthA, negIf, nilq, nilB, eqS, eqF, eqS1, andP, kin, slcS, strOk, plusA, bndHi, leN, optG, roH, roL, initT, exOk, exAll, wrAddr, Nat.reduceAdd, Nat.reduceSub, Nat.reduceMul, Int.reduceToNat, List.append_nil, List.nil_append, List.cons_append, eqT, idxT, cat, cpy, ite_int, ite_bool, ite_seg, ite_segs, ite_nil, ite_twice, Int.toNat_natCast, app, addBs, tob])); (repeat (first | (refine And.intro ?_ ?_; · first | decide | (simpa using ‹(b == 0) = false›)) | ((first | (refine call_t _ (con94 _ _ ha hb _) ?_; rintro v H' ⟨rfl, rfl⟩) | refine call_q _ (con94 _ _ ha hb _) ?_ | refine call_g _ (imp_of (con94 _ _ ha hb _)) ?_ | (refine call_t _ (con95' _ _ _ hb _) ?_; rintro v H' ⟨rfl, rfl⟩) | refine call_q _ (con95' _ _ _ hb _) ?_ | refine call_g _ (imp_of (con95' _ _ _ hb _)) ?_ | (refine call_t _ (con96 _ _) ?_; rintro v H' ⟨rfl, rfl⟩) | refine call_q _ (con96 _ _) ?_ | refine call_g _ (imp_of (con96 _ _)) ?_ | (refine call_t _ (con97 _ _ _) ?_; rintro v H' ⟨rfl, rfl⟩) | refine call_q _ (con97 _ _ _) ?_ | refine call_g _ (imp_of (con97 _ _ _)) ?_); simp (maxSteps := 10000000) only [sixtythree, ne_eq, hby, C63r0, C63r1, C63r2, C63r3, C63r4, C63r5, C63r6, C63r7, C63r8, C63r9, C63r10, C63r11, C63r12, C63r13, C63r14, C63r15, C63r16, C63r17, C63r18, C63r19, C63r20, C63r21, C63r23, C63r24, C63r25, C63r26, C63r27, C63r28, C63r29, C63r30, C63r31, C63r32, C63r33, C63r34, C63r35, C63r36, C63r37, C63r38, C63r39, rwp_nil, rwp_cons, rwpK_app, aop, gpath, St.get, slotAt, sfx, eqP, segsOf, St.put, addBlk, getB, setB, delB, ld1, ldn, st1, stn, setRow, rowNeed, segAt, nsub, bin, un, eqB, isShift, sameK, arith, shiftR, getsl, selB_or, selB_and, beqb, shed, addN, Nat.beq, Seg.size, sizes, imp, needP, andN, appL, argsOf, ptrsOf, aasOf, cut, takeS, dropS, putS, partsOf, fillS, fieldOf, nthA, negIf, nilq, nilB, eqS, eqF, eqS1, andP, kin, slcS, strOk, plusA, bndHi, leN, optG, roH, roL, initT, exOk, exAll, wrAddr, Nat.reduceAdd, Nat.reduceSub, Nat.reduceMul, Int.reduceToNat, List.append_nil, List.nil_append, List.cons_append, eqT, idxT, cat, cpy, ite_int, ite_bool, ite_seg, ite_segs, ite_nil, ite_twice, Int.toNat_natCast, app, addBs, tob]))); with_reducible refine hK _ ?_; clear hK K) | (refine run_cond rfl (fun hc => ?_) (fun hc => ?_) <;> try (simp only [*, Bool.true_eq_false, Bool.false_eq_true, Bool.not_true, Bool.not_false, Bool.true_or, Bool.or_true, Bool.false_or, Bool.or_false, Bool.false_and, Bool.and_false, bne_self_eq_false, beq_self_eq_true] at hc; done)) | refine run_block ?_ | refine run_ret ?_ | refine run_nil ?_ | refine run_exit ?_ | refine blk_normal ?_ | refine blk_ret ?_ | refine blk_here ?_ | refine blk_there rfl ?_ | refine loop_exit ?_ | refine loop_ret ?_ | refine un_exit ?_ | refine un_ret ?_ | refine unE_exit ?_ | refine unE_ret ?_ | refine un_normal ?_)
  all_goals try (
    refine end_tmp2 rfl rfl rfl ⟨rfl, rfl⟩ rfl rfl rfl ⟨?_, rfl⟩
    simp only [beq_iff_eq, beq_eq_false_iff_ne, ne_eq] at *
    (simp only [refR, *, if_true, if_false, reduceIte]) <;> first | rfl | (simp [f58, *]; done))
  have h9 : k = 9 := by simpa using hc
  (refine run_regionL fun K hK => ?_; (try (simp (maxSteps := 10000000) only [sixtythree, C63r0, C63r1, C63r2, C63r3, C63r4, C63r5, C63r6, C63r7, C63r8, C63r9, C63r10, C63r11, C63r12, C63r13, C63r14, C63r15, C63r16, C63r17, C63r18, C63r19, C63r20, C63r21, C63r22, C63r23, C63r24, C63r25, C63r26, C63r27, C63r28, C63r29, C63r30, C63r31, C63r32, C63r33, C63r34, C63r35, C63r36, C63r37, C63r38, C63r39, rwp_nil, rwp_cons, rwpK_app, aop, gpath, St.get, slotAt, sfx, eqP, segsOf, St.put, addBlk, getB, setB, delB, ld1, ldn, st1, stn, setRow, rowNeed, segAt, nsub, bin, un, eqB, isShift, sameK, arith, shiftR, getsl, selB_or, selB_and, beqb, shed, addN, Nat.beq, Seg.size, sizes, imp, needP, andN, appL, argsOf, ptrsOf, aasOf, cut, takeS, dropS, putS, partsOf, fillS, fieldOf, nthA, negIf, nilq, nilB, eqS, eqF, eqS1, andP, kin, slcS, strOk, plusA, bndHi, leN, optG, roH, roL, initT, exOk, exAll, wrAddr, Nat.reduceAdd, Nat.reduceSub, Nat.reduceMul, Int.reduceToNat, List.append_nil, List.nil_append, List.cons_append, eqT, idxT, cat, cpy, ite_int, ite_bool, ite_seg, ite_segs, ite_nil, ite_twice, Int.toNat_natCast, app, addBs, tob])); (repeat (first | (refine And.intro ?_ ?_; · first | trivial | assumption | omega))); refine hK _ (dblSt k a b (by64 b) 0) ((LeS.intro [] (fun i h => by omega) trivial rfl (by simp only [dblSt, slotsLe, slotAt, Nat.beq, leV, leV1, leC, and_self]) trivial)) ?_; clear hK K)
  refine run_block ?_
  have hle := by64_le hb
  generalize hT : dblS (by64 b).toNat a = T
  have hres : refR k a b = (T, true) := by subst h9; simp [refR, hT]
  rw [hres]
  generalize hm : by64 b = m at *
  refine run_loop (fun n st => ∃ (a' : Int) (i : Nat), st = dblSt k a' b m i ∧ n = m.toNat - i ∧ i ≤ m.toNat ∧ dblS n a' = T) m.toNat ⟨a, 0, rfl, by omega, by omega, hT⟩ ?_
  rintro n st ⟨a', i, rfl, hn, hi, hT⟩
  simp only [dblSt]
  clear hc hby
  repeat' (first | refine run_seq ?_ | refine run_skip ?_ | (refine run_region fun K hK => ?_; (try (simp (maxSteps := 10000000) only [ne_eq, C63r0, C63r1, C63r2, C63r3, C63r4, C63r5, C63r6, C63r7, C63r8, C63r9, C63r10, C63r11, C63r12, C63r13, C63r14, C63r15, C63r16, C63r17, C63r18, C63r19, C63r20, C63r21, C63r22, C63r23, C63r24, C63r25, C63r26, C63r27, C63r28, C63r29, C63r30, C63r31, C63r32, C63r33, C63r34, C63r35, C63r36, C63r37, C63r38, C63r39, rwp_nil, rwp_cons, rwpK_app, aop, gpath, St.get, slotAt, sfx, eqP, segsOf, St.put, addBlk, getB, setB, delB, ld1, ldn, st1, stn, setRow, rowNeed, segAt, nsub, bin, un, eqB, isShift, sameK, arith, shiftR, getsl, selB_or, selB_and, beqb, shed, addN, Nat.beq, Seg.size, sizes, imp, needP, andN, appL, argsOf, ptrsOf, aasOf, cut, takeS, dropS, putS, partsOf, fillS, fieldOf, nthA, negIf, nilq, nilB, eqS, eqF, eqS1, andP, kin, slcS, strOk, plusA, bndHi, leN, optG, roH, roL, initT, exOk, exAll, wrAddr, Nat.reduceAdd, Nat.reduceSub, Nat.reduceMul, Int.reduceToNat, List.append_nil, List.nil_append, List.cons_append, eqT, idxT, cat, cpy, ite_int, ite_bool, ite_seg, ite_segs, ite_nil, ite_twice, Int.toNat_natCast, app, addBs, tob])); (repeat (first | (refine And.intro ?_ ?_; · decide))); with_reducible refine hK _ ?_; clear hK K) | (refine run_cond rfl (fun hc => ?_) (fun hc => ?_) <;> try (simp only [*, Bool.true_eq_false, Bool.false_eq_true, Bool.not_true, Bool.not_false, Bool.true_or, Bool.or_true, Bool.false_or, Bool.or_false, Bool.false_and, Bool.and_false, bne_self_eq_false, beq_self_eq_true] at hc; done)) | refine run_block ?_ | refine run_ret ?_ | refine run_nil ?_ | refine run_exit ?_ | refine blk_normal ?_ | refine blk_ret ?_ | refine blk_here ?_ | refine blk_there rfl ?_ | refine loop_exit ?_ | refine loop_ret ?_ | refine un_exit ?_ | refine un_ret ?_ | refine unE_exit ?_ | refine unE_ret ?_ | refine un_normal ?_)
  · have hlt : i < m.toNat := by have : (i : Int) < m := by simpa using hc
                                 omega
    obtain ⟨n', rfl⟩ : ∃ n', n = n' + 1 := ⟨n - 1, by omega⟩
    refine loop_normal n' (dblSt k (IntKind.u64.wrap (a' + a')) b m ((i + 1 : Nat) : Int)) (by omega) (LeS.intro [] (fun i h => by omega) trivial rfl (by
      have hw : IntKind.i64.wrap ((i : Int) + 1) = ((i + 1 : Nat) : Int) := by rw [IntKind.wrap_i64]; omega
      simp only [dblSt, slotsLe, slotAt, Nat.beq, leV, leV1, leC, and_self, hw]) trivial) ⟨_, i + 1, rfl, by omega, by omega, hT⟩
  · have hlt : ¬ i < m.toNat := by have : ¬ (i : Int) < m := by simpa using hc
                                   omega
    have h0 : n = 0 := by omega
    subst h0
    exact end_tmp2 rfl rfl rfl ⟨rfl, rfl⟩ rfl rfl rfl ⟨by rw [← hT]; rfl, rfl⟩
end Go.Proofs.Ytmbnakinhnkabaa

namespace Go.Proofs.Ytmbnakinhnkabaa
open Go.AM
set_option maxRecDepth 100000
set_option linter.unusedSimpArgs false
set_option linter.unusedVariables false
structure CoreS where
  x : Nat → Int
  sp : Nat → Int
  pc : Int
  n : Bool
  z : Bool
  c : Bool
  v : Bool
  el : Int
  mask : Bool
  q0 : Int
  q1 : Int
  q2 : Int
  q3 : Int
  q4 : Int
  q5 : Int
  id : Int
  wait : Int
  last : Bool
def coreL (c : CoreS) : List Seg := [.a 31 (fun i => .int .u64 (c.x i)), .a 2 (fun i => .int .u64 (c.sp i)), .c (.int .u64 c.pc), .c (.bool c.n), .c (.bool c.z), .c (.bool c.c), .c (.bool c.v), .c (.int .i64 c.el), .c (.bool c.mask), .c (.int .u64 c.q0), .c (.int .u64 c.q1), .c (.int .u64 c.q2), .c (.int .u64 c.q3), .c (.int .u64 c.q4), .c (.int .u64 c.q5), .c (.int .i64 c.id), .c (.int .i64 c.wait), .c (.bool c.last)]
structure WantS where
  kind : Int
  addr : Int
  value : Int
  acq : Int
  rel : Bool
  w5 : Int
  w6 : Bool
  w7 : Int
  w8 : Int
  w9 : Int
def wantL (w : WantS) : List Seg := [.c (.int .i64 w.kind), .c (.int .u64 w.addr), .c (.int .u64 w.value), .c (.int .i64 w.acq), .c (.bool w.rel), .c (.int .i64 w.w5), .c (.bool w.w6), .c (.int .i64 w.w7), .c (.int .i64 w.w8), .c (.int .i64 w.w9)]
structure RS where
  b : BlkS
  core : CoreS
  vs : Nat → Int
  pos : Nat
  waits : Bool
  want : WantS
  left : Bool
  faulted : Bool
  word : Int
  guest : Bool
def runL (s : RS) : List Seg := [.c (.int .u64 s.b.pc), .c (.int .i64 s.b.words), .c (.int .i64 s.b.el), .c (.slice ⟨1, 0, 0, 0⟩ false s.b.n), .a 31 (fun i => .int .u64 (s.core.x i)), .a 2 (fun i => .int .u64 (s.core.sp i)), .c (.int .u64 s.core.pc), .c (.bool s.core.n), .c (.bool s.core.z), .c (.bool s.core.c), .c (.bool s.core.v), .c (.int .i64 s.core.el), .c (.bool s.core.mask), .c (.int .u64 s.core.q0), .c (.int .u64 s.core.q1), .c (.int .u64 s.core.q2), .c (.int .u64 s.core.q3), .c (.int .u64 s.core.q4), .c (.int .u64 s.core.q5), .c (.int .i64 s.core.id), .c (.int .i64 s.core.wait), .c (.bool s.core.last), .c (.slice ⟨2, 0, 0, 0⟩ false s.b.n), .c (.int .i64 s.pos), .c (.bool s.waits), .c (.int .i64 s.want.kind), .c (.int .u64 s.want.addr), .c (.int .u64 s.want.value), .c (.int .i64 s.want.acq), .c (.bool s.want.rel), .c (.int .i64 s.want.w5), .c (.bool s.want.w6), .c (.int .i64 s.want.w7), .c (.int .i64 s.want.w8), .c (.int .i64 s.want.w9), .c (.bool s.left), .c (.bool s.faulted), .c (.int .u64 s.word), .c (.bool s.guest)]
def runB (s : RS) : Blk := ⟨70, none, fun _ => runL s, 54, true⟩
def runO (s : RS) : Blk := ⟨6, some s.b.n, fun i => opL (s.b.f i), 39, false⟩
def runV (s : RS) : Blk := ⟨1, some s.b.n, fun i => [.c (.int .u64 (s.vs i))], 22, true⟩
def runH (s : RS) : Heap := ⟨3, [(0, runB s), (1, runO s), (2, runV s)]⟩
def me : AV := .c (.ptr ⟨0, 0, 0, 0⟩)
theorem ids3 {l : List Nat} : idTo (0 :: 1 :: 2 :: l) 3 := by
  intro i h
  match i, h with
  | 0, _ => rfl
  | 1, _ => rfl
  | 2, _ => rfl
theorem diff3 : diff [0, 1, 2] := by simp only [diff, notIn, Nat.beq, and_self]
structure Ids3 (l : List Nat) : Prop where
  i0 : nthO l 0 = some 0
  i1 : nthO l 1 = some 1
  i2 : nthO l 2 = some 2
theorem ro_le {l : List Nat} (s : RS) : leB l (runO s) (runO s) := by
  refine ⟨rfl, rfl, id, Nat.le_refl _, fun i _ => ?_⟩
  simp only [runO, opL, leSegs, leSeg, leC, and_self]
theorem rv_le {l : List Nat} (s : RS) : leB l (runV s) (runV s) := by
  refine ⟨rfl, rfl, id, Nat.le_refl _, fun i _ => ?_⟩
  simp only [runV, leSegs, leSeg, leC, and_self]
theorem run_le {l : List Nat} (h : Ids3 l) (s : RS) : leB l (runB s) (runB s) := by
  refine ⟨rfl, rfl, id, Nat.le_refl _, fun i _ => ?_⟩
  simp only [runB, runL, leSegs, leSeg, leC, leA, h.i0, h.i1, h.i2, and_self, implies_true]
theorem ids012 {l : List Nat} : Ids3 (0 :: 1 :: 2 :: l) := ⟨rfl, rfl, rfl⟩
theorem le_run {l : List Slot} {H : Heap} {s : RS} (h0 : getB H.blks 0 = some (runB s)) (h1 : getB H.blks 1 = some (runO s)) (h2 : getB H.blks 2 = some (runV s))
    {r : List Slot} (hr : slotsLe [0, 1, 2] l r) : LeS 3 ⟨l, H⟩ ⟨r, runH s⟩ := by
  refine LeS.intro [0, 1, 2] ids3 diff3 rfl hr ?_
  simp only [runH, leBlks, nthO, h0, h1, h2]
  exact ⟨run_le ids012 s, ro_le s, rv_le s, trivial⟩
theorem end_run0 {l : List Slot} {H : Heap} {R : Post} {e : AEx} (he : ∀ i, e ≠ .exit i) (s : RS) (h0 : getB H.blks 0 = some (runB s)) (h1 : getB H.blks 1 = some (runO s)) (h2 : getB H.blks 2 = some (runV s)) (hR : R (.tup []) (runH s)) : endQ (LeS 3) [] R e ⟨l, H⟩ := by
  cases e with
  | exit i => exact absurd rfl (he i)
  | normal => exact end_of' ⟨[], runH s⟩ (le_run h0 h1 h2 trivial) hR
  | ret => exact end_of ⟨[], runH s⟩ (le_run h0 h1 h2 trivial) hR
theorem end_run1 {l : List Slot} {H : Heap} {R : Post} {t : Nat} {v : AV} (s : RS) (hv : slotAt l t = some ⟨t, [], v⟩) (h0 : getB H.blks 0 = some (runB s)) (h1 : getB H.blks 1 = some (runO s)) (h2 : getB H.blks 2 = some (runV s)) (hid : leV [0, 1, 2] v v) (hn : noTup v = true) (hR : R v (runH s)) : endQ (LeS 3) [.tmp t] R .ret ⟨l, H⟩ := by
  refine end_of ⟨[⟨t, [], v⟩], runH s⟩ (le_run h0 h1 h2 (slotsOf hv hid trivial)) ?_
  have hg : St.get ⟨[⟨t, [], v⟩], runH s⟩ [] (.t t) = v := by simp [St.get, slotAt, Nat.beq_refl, sfx, eqP]
  simp only [endF, resL, resA, hg, hn, resV]
  exact hR
theorem run_frame {f : FuncId} {args : List AV} {s s' : RS} {V : AV} (h : Con Try.prog f args (runH s) (fun v H' => v = V ∧ H' = runH s')) (ha : leArgs [0, 1, 2] args args) (X : List (Nat × Blk)) (n : Nat) (hX : allBe 3 n (keysB X) = true) (hn : 3 ≤ n) (hx : ∀ i, i < 3 → getB X i = none) :
    Con Try.prog f args ⟨n, appX X (runH s).blks⟩ (fun v H' => v = V ∧ H' = ⟨n, appX X (runH s').blks⟩) := by
  refine (h.frameN [0, 1, 2] rfl ids3 X n (fun v H' hv => by rw [hv.2]; exact ⟨rfl, rfl⟩) hX rfl hn ?_ ha).weaken ?_
  · have g0 : getB (appX X (runH s).blks) 0 = some (runB s) := by rw [getB_appX, hx 0 (by omega)]; rfl
    have g1 : getB (appX X (runH s).blks) 1 = some (runO s) := by rw [getB_appX, hx 1 (by omega)]; rfl
    have g2 : getB (appX X (runH s).blks) 2 = some (runV s) := by rw [getB_appX, hx 2 (by omega)]; rfl
    generalize hL : appX X (runH s).blks = L at g0 g1 g2 ⊢
    simp only [runH, leBlks, nthO, g0, g1, g2]
    exact ⟨run_le ids012 s, ro_le s, rv_le s, trivial⟩
  · rintro v H' ⟨H0', ⟨rfl, rfl⟩, rfl⟩
    exact ⟨rfl, rfl⟩
theorem run_frame1 {f : FuncId} {args : List AV} {s s' : RS} {V : AV} (h : Con Try.prog f args (runH s) (fun v H' => v = V ∧ H' = runH s')) (ha : leArgs [0, 1, 2] args args) {B : Blk} :
    Con Try.prog f args ⟨4, (3, B) :: (runH s).blks⟩ (fun v H' => v = V ∧ H' = ⟨4, (3, B) :: (runH s').blks⟩) :=
  run_frame h ha [(3, B)] 4 rfl (by decide) (fun i hi => by
    match i, hi with
    | 0, _ => rfl
    | 1, _ => rfl
    | 2, _ => rfl)
def flagG (c : CoreS) (r : Int) : Bool := if r = 0 then c.n else if r = 1 then c.z else if r = 2 then c.c else c.v
def flagS (c : CoreS) (r : Int) (b : Bool) : CoreS := if r = 0 then { c with n := b } else if r = 1 then { c with z := b } else if r = 2 then { c with c := b } else { c with v := b }
def rightC (c : CoreS) : Bool := (((((c.el == 0) || (c.el == 1)) && decide (c.wait ≥ 0)) && decide (c.wait ≤ 2)) && decide (c.id ≥ 0)) && decide (c.id ≤ 7)
theorem con44 (c : CoreS) (H : Heap) : Con Try.prog 44 [.agg (coreL c)] H (fun v H' => v = .c (.bool (rightC c)) ∧ H' = H) := by
  refine Con.pure ?_ (by simp only [coreL, leArgs, leV, leV1, leSegs, leSeg, leC, and_self, implies_true]) rfl H
  (refine con_of_run mixed (fn := Try.f44) (by kernel_rfl) (by kernel_rfl) C44_ok (rs := [.tmp 2]) (by kernel_rfl) (Nat.le_of_ble_eq_true (by kernel_rfl)) ?_; unfold C44; simp only [initT, Nat.reduceAdd])
  repeat' (first | refine run_seq ?_ | (refine run_region fun K hK => ?_; (try (simp (maxSteps := 10000000) only [coreL, C44r0, C44r1, rwp_nil, rwp_cons, rwpK_app, aop, gpath, St.get, slotAt, sfx, eqP, segsOf, St.put, addBlk, getB, setB, delB, ld1, ldn, st1, stn, setRow, rowNeed, segAt, nsub, bin, un, eqB, isShift, sameK, arith, shiftR, getsl, selB_or, selB_and, beqb, shed, addN, Nat.beq, Seg.size, sizes, imp, needP, andN, appL, argsOf, ptrsOf, aasOf, cut, takeS, dropS, putS, partsOf, fillS, fieldOf, nthA, negIf, nilq, nilB, eqS, eqF, eqS1, andP, kin, slcS, strOk, plusA, bndHi, leN, optG, roH, roL, initT, exOk, exAll, wrAddr, Nat.reduceAdd, Nat.reduceSub, Nat.reduceMul, Int.reduceToNat, List.append_nil, List.nil_append, List.cons_append, eqT, idxT, cat, cpy, ite_int, ite_bool, ite_seg, ite_segs, ite_nil, ite_twice, Int.toNat_natCast, app, addBs, tob])); (repeat (first | (refine And.intro ?_ ?_; · (first | decide | trivial | assumption | (intros; first | decide | trivial))))); with_reducible refine hK _ ?_; clear hK K) | refine run_ret ?_ | refine run_nil ?_)
  exact end_tmp1 rfl rfl rfl ⟨rfl, rfl⟩
theorem con61 (c : CoreS) (r : Int) (hr : r = 0 ∨ r = 1 ∨ r = 2 ∨ r = 3) (H : Heap) : Con Try.prog 61 [.agg (coreL c), .c (.int .i64 r)] H (fun v H' => v = .c (.int .u64 (if flagG c r = true then 1 else 0)) ∧ H' = H) := by
  refine Con.pure ?_ (by simp only [coreL, leArgs, leV, leV1, leSegs, leSeg, leC, and_self, implies_true]) rfl H
  rcases hr with rfl | rfl | rfl | rfl
  all_goals
    (refine con_of_run mixed (fn := Try.f61) (by kernel_rfl) (by kernel_rfl) C61_ok (rs := [.tmp 4]) (by kernel_rfl) (Nat.le_of_ble_eq_true (by kernel_rfl)) ?_; unfold C61; simp only [initT, Nat.reduceAdd])
    repeat' (first | refine run_seq ?_ | refine run_skip ?_ | (refine run_region fun K hK => ?_; (try (simp (maxSteps := 10000000) only [coreL, repl, rowsFit, rowFn, cutD, C61r0, C61r1, C61r2, C61r3, C61r4, rwp_nil, rwp_cons, rwpK_app, aop, gpath, St.get, slotAt, sfx, eqP, segsOf, St.put, addBlk, getB, setB, delB, ld1, ldn, st1, stn, setRow, rowNeed, segAt, nsub, bin, un, eqB, isShift, sameK, arith, shiftR, getsl, selB_or, selB_and, beqb, shed, addN, Nat.beq, Seg.size, sizes, imp, needP, andN, appL, argsOf, ptrsOf, aasOf, cut, takeS, dropS, putS, partsOf, fillS, fieldOf, nthA, negIf, nilq, nilB, eqS, eqF, eqS1, andP, kin, slcS, strOk, plusA, bndHi, leN, optG, roH, roL, initT, exOk, exAll, wrAddr, Nat.reduceAdd, Nat.reduceSub, Nat.reduceMul, Int.reduceToNat, List.append_nil, List.nil_append, List.cons_append, eqT, idxT, cat, cpy, ite_int, ite_bool, ite_seg, ite_segs, ite_nil, ite_twice, Int.toNat_natCast, app, addBs, tob])); (repeat (first | (refine And.intro ?_ ?_; · (first | decide | trivial | assumption | (intros; first | decide | trivial))))); with_reducible refine hK _ ?_; clear hK K) | (refine run_cond rfl (fun hc => ?_) (fun hc => ?_) <;> try (simp only [*, Bool.true_eq_false, Bool.false_eq_true, Bool.not_true, Bool.not_false, Bool.true_or, Bool.or_true, Bool.false_or, Bool.or_false, Bool.false_and, Bool.and_false, bne_self_eq_false, beq_self_eq_true] at hc; done)) | refine run_ret ?_ | refine run_nil ?_)
    all_goals exact end_tmp1 rfl ⟨rfl, rfl⟩ rfl ⟨by simp only [flagG, reduceIte, Int.reduceEq, if_true, if_false, *, Bool.false_eq_true], rfl⟩
theorem con62 (s : RS) (k : Int) (b : Bool) : Con Try.prog 62 [me, .c (.int .i64 k), .c (.bool b)] (runH s) (fun v H' => v = .tup [] ∧ H' = runH { s with core := flagS s.core k b }) := by
  (refine con_of_run mixed (fn := Try.f62) (by kernel_rfl) (by kernel_rfl) C62_ok (rs := []) (by kernel_rfl) (Nat.le_of_ble_eq_true (by kernel_rfl)) ?_; unfold C62; simp only [initT, Nat.reduceAdd])
  generalize hR : (fun (v : AV) (H' : Heap) => v = AV.tup [] ∧ H' = runH { s with core := flagS s.core k b }) = R
  simp only [me, runH, runB, runL]
  repeat' (first | refine run_seq ?_ | (refine run_region fun K hK => ?_; (try (simp (maxSteps := 10000000) only [C62r0, C62r1, C62r2, C62r3, C62r4, C62r5, C62r6, C62r7, rwp_nil, rwp_cons, rwpK_app, aop, gpath, St.get, slotAt, sfx, eqP, segsOf, St.put, addBlk, getB, setB, delB, ld1, ldn, st1, stn, setRow, rowNeed, segAt, nsub, bin, un, eqB, isShift, sameK, arith, shiftR, getsl, selB_or, selB_and, beqb, shed, addN, Nat.beq, Seg.size, sizes, imp, needP, andN, appL, argsOf, ptrsOf, aasOf, cut, takeS, dropS, putS, partsOf, fillS, fieldOf, nthA, negIf, nilq, nilB, eqS, eqF, eqS1, andP, kin, slcS, strOk, plusA, bndHi, leN, optG, roH, roL, initT, exOk, exAll, wrAddr, Nat.reduceAdd, Nat.reduceSub, Nat.reduceMul, Int.reduceToNat, List.append_nil, List.nil_append, List.cons_append, eqT, idxT, cat, cpy, ite_int, ite_bool, ite_seg, ite_segs, ite_nil, ite_twice, Int.toNat_natCast, app, addBs, tob])); (repeat (first | (refine And.intro ?_ ?_; · (first | decide | trivial | assumption | (intros; first | decide | trivial))))); with_reducible refine hK _ ?_; clear hK K) | (refine run_cond rfl (fun hc => ?_) (fun hc => ?_) <;> try (simp only [*, Bool.true_eq_false, Bool.false_eq_true, Bool.not_true, Bool.not_false, Bool.true_or, Bool.or_true, Bool.false_or, Bool.or_false, Bool.false_and, Bool.and_false, bne_self_eq_false, beq_self_eq_true] at hc; done)) | refine run_block ?_ | refine run_ret ?_ | refine run_nil ?_ | refine blk_normal ?_ | refine blk_ret ?_ | refine blk_here ?_ | refine blk_there rfl ?_)
  all_goals
    simp only [beq_iff_eq, beq_eq_false_iff_ne, ne_eq] at *
    subst hR
    refine end_run0 nofun { s with core := flagS s.core k b } ?_ ?_ ?_ ⟨rfl, rfl⟩ <;> (simp only [flagS, *, if_true, if_false, reduceIte, Int.reduceEq]; rfl)
def waitS (s : RS) (w : WantS) : RS := { s with waits := true, want := w }
theorem con64 (s : RS) (w : WantS) : Con Try.prog 64 [me, .agg (wantL w)] (runH s) (fun v H' => v = .tup [] ∧ H' = runH (waitS s w)) := by
  (refine con_of_run mixed (fn := Try.f64) (by kernel_rfl) (by kernel_rfl) C64_ok (rs := []) (by kernel_rfl) (Nat.le_of_ble_eq_true (by kernel_rfl)) ?_; unfold C64; simp only [initT, Nat.reduceAdd])
  generalize hR : (fun (v : AV) (H' : Heap) => v = AV.tup [] ∧ H' = runH (waitS s w)) = R
  simp only [me, runH, runB, runL]
  repeat' (first | refine run_seq ?_ | (refine run_region fun K hK => ?_; (try (simp (maxSteps := 10000000) only [wantL, C64r0, C64r1, C64r2, rwp_nil, rwp_cons, rwpK_app, aop, gpath, St.get, slotAt, sfx, eqP, segsOf, St.put, addBlk, getB, setB, delB, ld1, ldn, st1, stn, setRow, rowNeed, segAt, nsub, bin, un, eqB, isShift, sameK, arith, shiftR, getsl, selB_or, selB_and, beqb, shed, addN, Nat.beq, Seg.size, sizes, imp, needP, andN, appL, argsOf, ptrsOf, aasOf, cut, takeS, dropS, putS, partsOf, fillS, fieldOf, nthA, negIf, nilq, nilB, eqS, eqF, eqS1, andP, kin, slcS, strOk, plusA, bndHi, leN, optG, roH, roL, initT, exOk, exAll, wrAddr, Nat.reduceAdd, Nat.reduceSub, Nat.reduceMul, Int.reduceToNat, List.append_nil, List.nil_append, List.cons_append, eqT, idxT, cat, cpy, ite_int, ite_bool, ite_seg, ite_segs, ite_nil, ite_twice, Int.toNat_natCast, app, addBs, tob])); (repeat (first | (refine And.intro ?_ ?_; · (first | decide | trivial | assumption | (intros; first | decide | trivial))))); with_reducible refine hK _ ?_; clear hK K) | refine run_ret ?_ | refine run_nil ?_)
  subst hR
  exact end_run0 nofun (waitS s w) rfl rfl rfl ⟨rfl, rfl⟩
end Go.Proofs.Ytmbnakinhnkabaa

namespace Go.Proofs.Ytmbnakinhnkabaa
open Go.AM
set_option maxRecDepth 100000
set_option linter.unusedSimpArgs false
set_option linter.unusedVariables false
theorem run_frame2 {f : FuncId} {args : List AV} {s s' : RS} {V : AV} (h : Con Try.prog f args (runH s) (fun v H' => v = V ∧ H' = runH s')) (ha : leArgs [0, 1, 2] args args) {B C : Blk} :
    Con Try.prog f args ⟨5, (4, C) :: (3, B) :: (runH s).blks⟩ (fun v H' => v = V ∧ H' = ⟨5, (4, C) :: (3, B) :: (runH s').blks⟩) :=
  run_frame h ha [(4, C), (3, B)] 5 rfl (by decide) (fun i hi => by
    match i, hi with
    | 0, _ => rfl
    | 1, _ => rfl
    | 2, _ => rfl)
def wantA (o : OpS) (a b : Int) : WantS :=
  if o.kind = 9 then ⟨1, a, 0, o.order, false, 0, false, 0, 0, 0⟩
  else if o.kind = 11 then ⟨3, a, 0, o.order, false, 0, false, 0, 0, 0⟩
  else if o.kind = 10 then ⟨2, a, b, 0, o.order == 4, 0, false, 0, 0, 0⟩
  else ⟨4, a, b, 0, o.order == 4, 0, false, 0, 0, 0⟩
def accR (s : RS) (o : OpS) (a b : Int) : RS := if (a.tmod 8 != 0) = true then { s with left := true, faulted := true } else waitS s (wantA o a b)
set_option maxHeartbeats 8000000 in
theorem con65 (s : RS) (o : OpS) (a b : Int) : Con Try.prog 65 [me, .agg (opL o), .c (.int .u64 a), .c (.int .u64 b)] (runH s) (fun v H' => v = .tup [] ∧ H' = runH (accR s o a b)) := by
  (refine con_of_run mixed (fn := Try.f65) (by kernel_rfl) (by kernel_rfl) C65_ok (rs := []) (by kernel_rfl) (Nat.le_of_ble_eq_true (by kernel_rfl)) ?_; unfold C65; simp only [initT, Nat.reduceAdd])
  generalize hR : (fun (v : AV) (H' : Heap) => v = AV.tup [] ∧ H' = runH (accR s o a b)) = R
  simp only [me, runH, runB, runL]
  repeat' (first | refine run_seq ?_ | refine run_skip ?_ | (refine run_region fun K hK => ?_; (try (simp (maxSteps := 10000000) only [opL, partsOf, fillS, C65r0, C65r1, C65r2, C65r3, C65r4, C65r5, C65r6, C65r7, C65r8, C65r9, C65r10, C65r11, C65r12, C65r13, C65r14, C65r15, C65r16, C65r17, C65r18, C65r19, rwp_nil, rwp_cons, rwpK_app, aop, gpath, St.get, slotAt, sfx, eqP, segsOf, St.put, addBlk, getB, setB, delB, ld1, ldn, st1, stn, setRow, rowNeed, segAt, nsub, bin, un, eqB, isShift, sameK, arith, shiftR, getsl, selB_or, selB_and, beqb, shed, addN, Nat.beq, Seg.size, sizes, imp, needP, andN, appL, argsOf, ptrsOf, aasOf, cut, takeS, dropS, putS, partsOf, fillS, fieldOf, nthA, negIf, nilq, nilB, eqS, eqF, eqS1, andP, kin, slcS, strOk, plusA, bndHi, leN, optG, roH, roL, initT, exOk, exAll, wrAddr, Nat.reduceAdd, Nat.reduceSub, Nat.reduceMul, Int.reduceToNat, List.append_nil, List.nil_append, List.cons_append, eqT, idxT, cat, cpy, ite_int, ite_bool, ite_seg, ite_segs, ite_nil, ite_twice, Int.toNat_natCast, app, addBs, tob])); (repeat (first | (refine And.intro ?_ ?_; · (first | decide | trivial | assumption | omega | (intros; first | decide | trivial | omega))) | ((first | (refine call_t _ (run_frame2 (con64 s ⟨1, a, 0, o.order, false, 0, false, 0, 0, 0⟩) (by simp only [me, opL, wantL, leArgs, leV, leV1, leSegs, leSeg, leC, leA, nthO, and_self])) ?_; rintro v H' ⟨rfl, rfl⟩) | refine call_q _ (run_frame2 (con64 s ⟨1, a, 0, o.order, false, 0, false, 0, 0, 0⟩) (by simp only [me, opL, wantL, leArgs, leV, leV1, leSegs, leSeg, leC, leA, nthO, and_self])) ?_ | refine call_g _ (imp_of (run_frame2 (con64 s ⟨1, a, 0, o.order, false, 0, false, 0, 0, 0⟩) (by simp only [me, opL, wantL, leArgs, leV, leV1, leSegs, leSeg, leC, leA, nthO, and_self]))) ?_ | (refine call_t _ (run_frame2 (con64 s ⟨3, a, 0, o.order, false, 0, false, 0, 0, 0⟩) (by simp only [me, opL, wantL, leArgs, leV, leV1, leSegs, leSeg, leC, leA, nthO, and_self])) ?_; rintro v H' ⟨rfl, rfl⟩) | refine call_q _ (run_frame2 (con64 s ⟨3, a, 0, o.order, false, 0, false, 0, 0, 0⟩) (by simp only [me, opL, wantL, leArgs, leV, leV1, leSegs, leSeg, leC, leA, nthO, and_self])) ?_ | refine call_g _ (imp_of (run_frame2 (con64 s ⟨3, a, 0, o.order, false, 0, false, 0, 0, 0⟩) (by simp only [me, opL, wantL, leArgs, leV, leV1, leSegs, leSeg, leC, leA, nthO, and_self]))) ?_ | (refine call_t _ (run_frame2 (con64 s ⟨2, a, b, 0, o.order == 4, 0, false, 0, 0, 0⟩) (by simp only [me, opL, wantL, leArgs, leV, leV1, leSegs, leSeg, leC, leA, nthO, and_self])) ?_; rintro v H' ⟨rfl, rfl⟩) | refine call_q _ (run_frame2 (con64 s ⟨2, a, b, 0, o.order == 4, 0, false, 0, 0, 0⟩) (by simp only [me, opL, wantL, leArgs, leV, leV1, leSegs, leSeg, leC, leA, nthO, and_self])) ?_ | refine call_g _ (imp_of (run_frame2 (con64 s ⟨2, a, b, 0, o.order == 4, 0, false, 0, 0, 0⟩) (by simp only [me, opL, wantL, leArgs, leV, leV1, leSegs, leSeg, leC, leA, nthO, and_self]))) ?_ | (refine call_t _ (run_frame2 (con64 s ⟨4, a, b, 0, o.order == 4, 0, false, 0, 0, 0⟩) (by simp only [me, opL, wantL, leArgs, leV, leV1, leSegs, leSeg, leC, leA, nthO, and_self])) ?_; rintro v H' ⟨rfl, rfl⟩) | refine call_q _ (run_frame2 (con64 s ⟨4, a, b, 0, o.order == 4, 0, false, 0, 0, 0⟩) (by simp only [me, opL, wantL, leArgs, leV, leV1, leSegs, leSeg, leC, leA, nthO, and_self])) ?_ | refine call_g _ (imp_of (run_frame2 (con64 s ⟨4, a, b, 0, o.order == 4, 0, false, 0, 0, 0⟩) (by simp only [me, opL, wantL, leArgs, leV, leV1, leSegs, leSeg, leC, leA, nthO, and_self]))) ?_); simp (maxSteps := 10000000) only [opL, partsOf, fillS, C65r0, C65r1, C65r2, C65r3, C65r4, C65r5, C65r6, C65r7, C65r8, C65r9, C65r10, C65r11, C65r12, C65r13, C65r14, C65r15, C65r16, C65r17, C65r18, C65r19, rwp_nil, rwp_cons, rwpK_app, aop, gpath, St.get, slotAt, sfx, eqP, segsOf, St.put, addBlk, getB, setB, delB, ld1, ldn, st1, stn, setRow, rowNeed, segAt, nsub, bin, un, eqB, isShift, sameK, arith, shiftR, getsl, selB_or, selB_and, beqb, shed, addN, Nat.beq, Seg.size, sizes, imp, needP, andN, appL, argsOf, ptrsOf, aasOf, cut, takeS, dropS, putS, partsOf, fillS, fieldOf, nthA, negIf, nilq, nilB, eqS, eqF, eqS1, andP, kin, slcS, strOk, plusA, bndHi, leN, optG, roH, roL, initT, exOk, exAll, wrAddr, Nat.reduceAdd, Nat.reduceSub, Nat.reduceMul, Int.reduceToNat, List.append_nil, List.nil_append, List.cons_append, eqT, idxT, cat, cpy, ite_int, ite_bool, ite_seg, ite_segs, ite_nil, ite_twice, Int.toNat_natCast, app, addBs, tob]))); with_reducible refine hK _ ?_; clear hK K) | (refine run_cond rfl (fun hc => ?_) (fun hc => ?_) <;> try (simp only [*, Bool.true_eq_false, Bool.false_eq_true, Bool.not_true, Bool.not_false, Bool.true_or, Bool.or_true, Bool.false_or, Bool.or_false, Bool.false_and, Bool.and_false, bne_self_eq_false, beq_self_eq_true] at hc; done)) | refine run_block ?_ | refine run_ret ?_ | refine run_nil ?_ | refine blk_normal ?_ | refine blk_ret ?_ | refine blk_here ?_ | refine blk_there rfl ?_)
  all_goals
    subst hR
    try simp only [beq_iff_eq, beq_eq_false_iff_ne, ne_eq] at *
    refine end_run0 nofun (accR s o a b) ?_ ?_ ?_ ⟨rfl, rfl⟩ <;> (simp only [accR, wantA, *, if_true, if_false, reduceIte, Int.reduceEq, Bool.false_eq_true]; rfl)
def updI (g : Nat → Int) (k : Nat) (v : Int) : Nat → Int := fun i => if i = k then v else g i
def setV (s : RS) (k : Nat) (v : Int) : RS := { s with vs := updI s.vs k v }
def nxt (s : RS) : RS := { s with pos := s.pos + 1 }
def pcR (s : RS) (pc : Int) : RS := { s with core := { s.core with pc := pc } }
def oneS (s : RS) (o : OpS) : RS :=
  if o.kind = 1 then setV (nxt s) s.pos o.imm
  else if o.kind = 2 then setV (nxt s) s.pos (s.core.x o.r.toNat)
  else if o.kind = 3 then { nxt s with core := { s.core with x := updI s.core.x o.r.toNat (s.vs o.a.toNat) } }
  else if o.kind = 4 then setV (nxt s) s.pos (s.core.sp s.b.el.toNat)
  else if o.kind = 5 then { nxt s with core := { s.core with sp := updI s.core.sp s.b.el.toNat (s.vs o.a.toNat) } }
  else if o.kind = 6 then setV (nxt s) s.pos (if flagG s.core o.r = true then 1 else 0)
  else if o.kind = 7 then { nxt s with core := flagS s.core o.r (s.vs o.a.toNat != 0) }
  else if o.kind = 8 then setV (nxt s) s.pos (refR o.r (s.vs o.a.toNat) (s.vs o.b.toNat)).1
  else if o.kind = 13 then waitS (nxt s) ⟨6, 0, 0, 0, false, o.r, false, 0, 0, 0⟩
  else if o.kind = 14 then pcR (nxt s) o.imm
  else if o.kind = 15 then (if (s.vs o.a.toNat != 0) = true then { pcR (nxt s) o.imm with left := true } else nxt s)
  else if o.kind = 16 then { pcR (nxt s) o.imm with left := true }
  else if o.kind = 17 then { pcR (nxt s) (s.vs o.a.toNat) with left := true }
  else if o.kind = 18 then { nxt s with word := o.imm, guest := true, left := true }
  else accR (nxt s) o (s.vs o.a.toNat) (s.vs o.b.toNat)
structure FitO (s : RS) (o : OpS) : Prop where
  a : 0 ≤ o.a ∧ o.a < s.b.n
  b : 0 ≤ o.b ∧ o.b < s.b.n
  pos : s.pos < s.b.n
  n : s.b.n ≤ 512
  x : o.kind = 2 ∨ o.kind = 3 → 0 ≤ o.r ∧ o.r ≤ 30
  f : o.kind = 6 → o.r = 0 ∨ o.r = 1 ∨ o.r = 2 ∨ o.r = 3
  el : 0 ≤ s.b.el ∧ s.b.el ≤ 1
  u : ∀ i, U (s.vs i)
set_option maxHeartbeats 16000000 in
theorem con45 (s : RS) (o : OpS) (hf : FitO s o) : Con Try.prog 45 [me, .agg (opL o)] (runH s) (fun v H' => v = .tup [] ∧ H' = runH (oneS s o)) := by
  obtain ⟨ha, hb, hp, hn, hx, hfl, hel, hu⟩ := hf
  have hw : IntKind.i64.wrap ((s.pos : Int) + 1) = ((s.pos + 1 : Nat) : Int) := by rw [IntKind.wrap_i64]; omega
  (refine con_of_run mixed (fn := Try.f45) (by kernel_rfl) (by kernel_rfl) C45_ok (rs := []) (by kernel_rfl) (Nat.le_of_ble_eq_true (by kernel_rfl)) ?_; unfold C45; simp only [initT, Nat.reduceAdd])
  generalize hR : (fun (v : AV) (H' : Heap) => v = AV.tup [] ∧ H' = runH (oneS s o)) = R
  simp only [me, runH, runB, runL, runO, runV]
  repeat' (first | refine run_seq ?_ | refine run_skip ?_ | (refine run_region fun K hK => ?_; (try (simp (maxSteps := 10000000) only [opL, hw, C45r0, C45r1, C45r2, C45r3, C45r4, C45r5, C45r6, C45r7, C45r8, C45r9, C45r10, C45r11, C45r12, C45r13, C45r14, C45r15, C45r16, C45r17, C45r18, C45r19, C45r20, C45r21, C45r22, C45r23, C45r24, C45r25, C45r26, C45r27, C45r28, C45r29, C45r30, C45r31, C45r32, C45r33, C45r34, C45r35, C45r36, C45r37, C45r38, C45r39, C45r40, rwp_nil, rwp_cons, rwpK_app, aop, gpath, St.get, slotAt, sfx, eqP, segsOf, St.put, addBlk, getB, setB, delB, ld1, ldn, st1, stn, setRow, rowNeed, segAt, nsub, bin, un, eqB, isShift, sameK, arith, shiftR, getsl, selB_or, selB_and, beqb, shed, addN, Nat.beq, Seg.size, sizes, imp, needP, andN, appL, argsOf, ptrsOf, aasOf, cut, takeS, dropS, putS, partsOf, fillS, fieldOf, nthA, negIf, nilq, nilB, eqS, eqF, eqS1, andP, kin, slcS, strOk, plusA, bndHi, leN, optG, roH, roL, initT, exOk, exAll, wrAddr, Nat.reduceAdd, Nat.reduceSub, Nat.reduceMul, Int.reduceToNat, List.append_nil, List.nil_append, List.cons_append, eqT, idxT, cat, cpy, ite_int, ite_bool, ite_seg, ite_segs, ite_nil, ite_twice, Int.toNat_natCast, app, addBs, tob])); (repeat (first | (refine And.intro ?_ ?_; · (first | decide | trivial | assumption | omega | (simp only [beq_iff_eq] at hc; omega) | (intros; first | decide | trivial | omega))) | ((first | (refine call_t _ (con61 s.core o.r (hfl (by simpa using hc)) _) ?_; rintro v H' ⟨rfl, rfl⟩) | refine call_q _ (con61 s.core o.r (hfl (by simpa using hc)) _) ?_ | refine call_g _ (imp_of (con61 s.core o.r (hfl (by simpa using hc)) _)) ?_ | (refine call_t _ (con63 o.r _ _ (hu _) (hu _) _) ?_; rintro v H' ⟨rfl, rfl⟩) | refine call_q _ (con63 o.r _ _ (hu _) (hu _) _) ?_ | refine call_g _ (imp_of (con63 o.r _ _ (hu _) (hu _) _)) ?_ | (refine call_t _ (run_frame1 (con62 (nxt s) o.r (s.vs o.a.toNat != 0)) (by simp only [me, opL, wantL, leArgs, leV, leV1, leSegs, leSeg, leC, leA, nthO, and_self])) ?_; rintro v H' ⟨rfl, rfl⟩) | refine call_q _ (run_frame1 (con62 (nxt s) o.r (s.vs o.a.toNat != 0)) (by simp only [me, opL, wantL, leArgs, leV, leV1, leSegs, leSeg, leC, leA, nthO, and_self])) ?_ | refine call_g _ (imp_of (run_frame1 (con62 (nxt s) o.r (s.vs o.a.toNat != 0)) (by simp only [me, opL, wantL, leArgs, leV, leV1, leSegs, leSeg, leC, leA, nthO, and_self]))) ?_ | (refine call_t _ (run_frame1 (con64 (nxt s) ⟨6, 0, 0, 0, false, o.r, false, 0, 0, 0⟩) (by simp only [me, opL, wantL, leArgs, leV, leV1, leSegs, leSeg, leC, leA, nthO, and_self])) ?_; rintro v H' ⟨rfl, rfl⟩) | refine call_q _ (run_frame1 (con64 (nxt s) ⟨6, 0, 0, 0, false, o.r, false, 0, 0, 0⟩) (by simp only [me, opL, wantL, leArgs, leV, leV1, leSegs, leSeg, leC, leA, nthO, and_self])) ?_ | refine call_g _ (imp_of (run_frame1 (con64 (nxt s) ⟨6, 0, 0, 0, false, o.r, false, 0, 0, 0⟩) (by simp only [me, opL, wantL, leArgs, leV, leV1, leSegs, leSeg, leC, leA, nthO, and_self]))) ?_ | (refine call_t _ (run_frame1 (con65 (nxt s) o (s.vs o.a.toNat) (s.vs o.b.toNat)) (by simp only [me, opL, wantL, leArgs, leV, leV1, leSegs, leSeg, leC, leA, nthO, and_self])) ?_; rintro v H' ⟨rfl, rfl⟩) | refine call_q _ (run_frame1 (con65 (nxt s) o (s.vs o.a.toNat) (s.vs o.b.toNat)) (by simp only [me, opL, wantL, leArgs, leV, leV1, leSegs, leSeg, leC, leA, nthO, and_self])) ?_ | refine call_g _ (imp_of (run_frame1 (con65 (nxt s) o (s.vs o.a.toNat) (s.vs o.b.toNat)) (by simp only [me, opL, wantL, leArgs, leV, leV1, leSegs, leSeg, leC, leA, nthO, and_self]))) ?_); simp (maxSteps := 10000000) only [opL, hw, C45r0, C45r1, C45r2, C45r3, C45r4, C45r5, C45r6, C45r7, C45r8, C45r9, C45r10, C45r11, C45r12, C45r13, C45r14, C45r15, C45r16, C45r17, C45r18, C45r19, C45r20, C45r21, C45r22, C45r23, C45r24, C45r25, C45r26, C45r27, C45r28, C45r29, C45r30, C45r31, C45r32, C45r33, C45r34, C45r35, C45r36, C45r37, C45r38, C45r39, C45r40, rwp_nil, rwp_cons, rwpK_app, aop, gpath, St.get, slotAt, sfx, eqP, segsOf, St.put, addBlk, getB, setB, delB, ld1, ldn, st1, stn, setRow, rowNeed, segAt, nsub, bin, un, eqB, isShift, sameK, arith, shiftR, getsl, selB_or, selB_and, beqb, shed, addN, Nat.beq, Seg.size, sizes, imp, needP, andN, appL, argsOf, ptrsOf, aasOf, cut, takeS, dropS, putS, partsOf, fillS, fieldOf, nthA, negIf, nilq, nilB, eqS, eqF, eqS1, andP, kin, slcS, strOk, plusA, bndHi, leN, optG, roH, roL, initT, exOk, exAll, wrAddr, Nat.reduceAdd, Nat.reduceSub, Nat.reduceMul, Int.reduceToNat, List.append_nil, List.nil_append, List.cons_append, eqT, idxT, cat, cpy, ite_int, ite_bool, ite_seg, ite_segs, ite_nil, ite_twice, Int.toNat_natCast, app, addBs, tob]))); with_reducible refine hK _ ?_; clear hK K) | (refine run_cond rfl (fun hc => ?_) (fun hc => ?_) <;> try (simp only [*, Bool.true_eq_false, Bool.false_eq_true, Bool.not_true, Bool.not_false, Bool.true_or, Bool.or_true, Bool.false_or, Bool.or_false, Bool.false_and, Bool.and_false, bne_self_eq_false, beq_self_eq_true] at hc; done)) | refine run_block ?_ | refine run_ret ?_ | refine run_nil ?_ | refine blk_normal ?_ | refine blk_ret ?_ | refine blk_here ?_ | refine blk_there rfl ?_)
  all_goals
    subst hR
    try simp only [beq_iff_eq, beq_eq_false_iff_ne, ne_eq] at *
    refine end_run0 nofun (oneS s o) ?_ ?_ ?_ ⟨rfl, rfl⟩ <;> (simp only [oneS, *, if_true, if_false, reduceIte, Int.reduceEq, Bool.false_eq_true]; rfl)
end Go.Proofs.Ytmbnakinhnkabaa

namespace Go.Proofs.Ytmbnakinhnkabaa
open Go.AM
set_option maxRecDepth 100000
set_option linter.unusedSimpArgs false
set_option linter.unusedVariables false
theorem U_0 : U 0 := by unfold U; omega
theorem U_1 : U 1 := by unfold U; omega
theorem U_truth (b : Bool) : U (truthS b) := by cases b <;> first | exact U_0 | exact U_1
theorem U_dbl : ∀ (n : Nat) {a : Int}, U a → U (dblS n a)
  | 0, _, h => h
  | n + 1, a, _ => U_dbl n (U_wrap _)
theorem U_turn : ∀ (n : Nat) {a f : Int}, U a → U (turnS n a f)
  | 0, _, _, h => h
  | n + 1, a, f, _ => U_turn n (U_wrap _)
theorem ite_P {α : Type} {P : α → Prop} {c : Prop} [Decidable c] {a b : α} (h1 : P a) (h2 : P b) : P (if c then a else b) := by split <;> assumption
theorem U_ref {k a b : Int} (ha : U a) (hb : U b) : U (refR k a b).1 := by
  have h58 : U (f58 a b) := by unfold f58; exact ite_P (P := U) U_0 (U_wrap _)
  have hdiv : U (divS a b) := by unfold divS divQ; exact ite_P (P := U) U_0 (ite_P (P := U) (U_wrap _) (U_wrap _))
  show (fun r : Int × Bool => U r.1) (refR k a b)
  unfold refR
  repeat' (first
    | exact U_wrap _
    | exact h58
    | exact hdiv
    | exact U_truth _
    | exact U_dbl _ ha
    | exact U_turn _ ha
    | exact U_0 | refine ite_P (P := fun r : Int × Bool => U r.1) ?_ ?_)
structure RunOk (s : RS) : Prop where
  hr : rightS s.b = true
  wf : BlkWf s.b
  u : ∀ i, U (s.vs i)
  x : ∀ i, i < 31 → U (s.core.x i)
  sp : ∀ i, i < 2 → U (s.core.sp i)
  go : s.left = false → s.pos < s.b.n
theorem right_el {b : BlkS} (hr : rightS b = true) : 0 ≤ b.el ∧ b.el ≤ 1 := by
  unfold rightS head1 at hr
  simp only [Bool.and_eq_true, Bool.not_eq_true', Bool.or_eq_false_iff, decide_eq_false_iff_not] at hr
  omega
theorem ropS_ab {o : OpS} {m : Nat} {f : Nat → OpS} (h : ropS o m f = true) : (usesS o.kind < 1 → o.a = 0) ∧ (usesS o.kind < 2 → o.b = 0) ∧ rightF o = true := by
  unfold ropS fieldBad at h
  simp only [Bool.and_eq_true, Bool.not_eq_true', Bool.or_eq_false_iff, Bool.and_eq_false_iff, Bool.not_eq_false', bne_eq_false_iff_eq, decide_eq_false_iff_not] at h
  obtain ⟨⟨⟨⟨⟨⟨h1, _⟩, _⟩, _⟩, h2⟩, h3⟩, _⟩ := h
  exact ⟨fun hu => h2.resolve_left (fun h => h hu), fun hu => h3.resolve_left (fun h => h hu), h1⟩
theorem RunOk.fit {s : RS} (h : RunOk s) (hl : s.left = false) : FitO s (s.b.f s.pos) := by
  have hp := h.go hl
  have hn := right_n h.hr
  have hop := opsOk_at (right_ops h.hr) hp
  obtain ⟨ha, hb, hf⟩ := ropS_ab hop.1
  refine ⟨?_, ?_, hp, hn.2, fun hk => ?_, fun hk => ?_, right_el h.hr, h.u⟩
  · by_cases hu : usesS (s.b.f s.pos).kind < 1
    · rw [ha hu]; omega
    · obtain ⟨h1, h2, _⟩ := right_use h.hr hp (i := 0) (by omega)
      have e : useF (s.b.f s.pos) 0 = (s.b.f s.pos).a := rfl
      rw [e] at h1 h2
      omega
  · by_cases hu : usesS (s.b.f s.pos).kind < 2
    · rw [hb hu]; omega
    · obtain ⟨h1, h2, _⟩ := right_use h.hr hp (i := 1) (by omega)
      have e : useF (s.b.f s.pos) 1 = (s.b.f s.pos).b := rfl
      rw [e] at h1 h2
      omega
  · rcases hk with hk | hk <;> simpa [rightF, hk, upS] using hf
  · have : 0 ≤ (s.b.f s.pos).r ∧ (s.b.f s.pos).r ≤ 3 := by simpa [rightF, hk, upS] using hf
    omega
theorem one_b (s : RS) (o : OpS) : (oneS s o).b = s.b := by
  show (fun r : RS => r.b = s.b) (oneS s o)
  unfold oneS accR
  repeat' (first | exact rfl | refine ite_P (P := fun r : RS => r.b = s.b) ?_ ?_)
theorem one_pos (s : RS) (o : OpS) : (oneS s o).pos = s.pos + 1 := by
  show (fun r : RS => r.pos = s.pos + 1) (oneS s o)
  unfold oneS accR
  repeat' (first | exact rfl | refine ite_P (P := fun r : RS => r.pos = s.pos + 1) ?_ ?_)
theorem U_updI {g : Nat → Int} {k : Nat} {v : Int} {n : Nat} (h : ∀ i, i < n → U (g i)) (hv : U v) : ∀ i, i < n → U (updI g k v i) := fun i hi => by
  unfold updI; split
  · exact hv
  · exact h i hi
theorem flagS_x (c : CoreS) (r : Int) (b : Bool) : (flagS c r b).x = c.x ∧ (flagS c r b).sp = c.sp := by
  unfold flagS
  repeat' split
  all_goals exact ⟨rfl, rfl⟩
theorem one_u {s : RS} {o : OpS} (hu : ∀ i, U (s.vs i)) (hx : ∀ i, i < 31 → U (s.core.x i)) (hsp : ∀ i, i < 2 → U (s.core.sp i)) (hi : U o.imm) (hr : o.kind = 2 ∨ o.kind = 3 → 0 ≤ o.r ∧ o.r ≤ 30) (hel : 0 ≤ s.b.el ∧ s.b.el ≤ 1) :
    (∀ i, U ((oneS s o).vs i)) ∧ (∀ i, i < 31 → U ((oneS s o).core.x i)) ∧ ∀ i, i < 2 → U ((oneS s o).core.sp i) := by
  have hV : ∀ v, U v → (∀ i, U ((setV (nxt s) s.pos v).vs i)) ∧ (∀ i, i < 31 → U ((setV (nxt s) s.pos v).core.x i)) ∧ ∀ i, i < 2 → U ((setV (nxt s) s.pos v).core.sp i) := fun v hv =>
    ⟨fun i => by show U (updI s.vs s.pos v i); unfold updI; split; exact hv; exact hu i, hx, hsp⟩
  unfold oneS
  by_cases h1 : o.kind = 1
  · rw [if_pos h1]; exact hV _ hi
  rw [if_neg h1]
  by_cases h2 : o.kind = 2
  · rw [if_pos h2]; exact hV _ (hx _ (by have := hr (.inl h2); omega))
  rw [if_neg h2]
  by_cases h3 : o.kind = 3
  · rw [if_pos h3]; exact ⟨hu, U_updI hx (hu _), hsp⟩
  rw [if_neg h3]
  by_cases h4 : o.kind = 4
  · rw [if_pos h4]; exact hV _ (hsp _ (by omega))
  rw [if_neg h4]
  by_cases h5 : o.kind = 5
  · rw [if_pos h5]; exact ⟨hu, hx, U_updI hsp (hu _)⟩
  rw [if_neg h5]
  by_cases h6 : o.kind = 6
  · rw [if_pos h6]; exact hV _ (by split; exact U_1; exact U_0)
  rw [if_neg h6]
  by_cases h7 : o.kind = 7
  · rw [if_pos h7]
    obtain ⟨e1, e2⟩ := flagS_x s.core o.r (s.vs o.a.toNat != 0)
    exact ⟨hu, fun i h => by show U ((flagS s.core o.r _).x i); rw [e1]; exact hx i h, fun i h => by show U ((flagS s.core o.r _).sp i); rw [e2]; exact hsp i h⟩
  rw [if_neg h7]
  by_cases h8 : o.kind = 8
  · rw [if_pos h8]; exact hV _ (U_ref (hu _) (hu _))
  rw [if_neg h8]
  unfold accR
  repeat' split
  all_goals exact ⟨hu, hx, hsp⟩
theorem one_left {s : RS} {o : OpS} (h : endS o.kind = true) : (oneS s o).left = true := by
  unfold endS at h
  simp only [Bool.or_eq_true, beq_iff_eq] at h
  unfold oneS
  rcases h with (h | h) | h <;> rw [h] <;> rfl
theorem RunOk.one {s : RS} (h : RunOk s) (hl : s.left = false) : RunOk (oneS s (s.b.f s.pos)) := by
  have hp := h.go hl
  have hf := h.fit hl
  obtain ⟨h1, h2, h3⟩ := one_u (s := s) (o := s.b.f s.pos) h.u h.x h.sp (by have := (h.wf.ops _ hp).imm; unfold U; omega) hf.x hf.el
  refine ⟨by rw [one_b]; exact h.hr, by rw [one_b]; exact h.wf, h1, h2, h3, fun hl' => ?_⟩
  rw [one_b, one_pos]
  have he := (opsOk_at (right_ops h.hr) hp).2
  by_cases e : endS (s.b.f s.pos).kind = true
  · rw [one_left e] at hl'; cases hl'
  · have e' : endS (s.b.f s.pos).kind = false := by simpa using e
    rw [e'] at he
    have := of_decide_eq_false he.symm
    omega
def nextN : Nat → RS → RS
  | 0, s => s
  | t + 1, s => if (!s.left && !s.waits) = true then nextN t (oneS s (s.b.f s.pos)) else s
def nextS (s : RS) : RS := nextN (s.b.n + 1 - s.pos) s
def want0 : WantS := ⟨0, 0, 0, 0, false, 0, false, 0, 0, 0⟩
def wantB (w : WantS) : Blk := ⟨10, none, fun _ => wantL w, 49, true⟩
theorem want_le {l : List Nat} (w : WantS) : leB l (wantB w) (wantB w) := ⟨rfl, rfl, id, Nat.le_refl _, fun _ _ => by simp only [wantB, wantL, leSegs, leSeg, leC, and_self]⟩
theorem nextN_stop {s : RS} (h : (!s.left && !s.waits) = false) : ∀ t, nextN t s = s
  | 0 => rfl
  | t + 1 => by simp only [nextN, h, Bool.false_eq_true, if_false]
def retNx (s : RS) : AV := .tup [.agg (wantL (if s.waits = true then s.want else want0)), .c (.bool s.waits)]
def nxSt (s : RS) : St := ⟨[⟨2, [], .c (.ptr ⟨3, 0, 0, 0⟩)⟩, ⟨3, [], .c (.bool false)⟩, ⟨0, [], .c (.ptr ⟨0, 0, 0, 0⟩)⟩], ⟨4, (3, wantB want0) :: (runH s).blks⟩⟩
theorem end_nx {l : List Slot} {H : Heap} {R : Post} (s : RS) (w : WantS) (c : Bool) (hw : w = if s.waits = true then s.want else want0) (hc : c = s.waits) (s2 : slotAt l 2 = some ⟨2, [], .c (.ptr ⟨3, 0, 0, 0⟩)⟩) (s3 : slotAt l 3 = some ⟨3, [], .c (.bool c)⟩) (g3 : getB H.blks 3 = some (wantB w)) (g0 : getB H.blks 0 = some (runB s)) (g1 : getB H.blks 1 = some (runO s)) (g2 : getB H.blks 2 = some (runV s))
    (hR : ∀ w', w' = w → R (retNx s) ⟨4, (3, wantB w') :: (runH s).blks⟩) : endQ (LeS 3) [.cn 10 2, .tmp 3] R .ret ⟨l, H⟩ := by
  have hr : retNx s = .tup [.agg (wantL w), .c (.bool c)] := by unfold retNx; rw [← hw, ← hc]
  refine end_of ⟨[⟨2, [], .c (.ptr ⟨3, 0, 0, 0⟩)⟩, ⟨3, [], .c (.bool c)⟩], ⟨4, (3, wantB w) :: (runH s).blks⟩⟩ (LeS.intro [0, 1, 2, 3] ids3 (by simp only [diff, notIn, Nat.beq, and_self]) rfl (by simp only [slotsLe, s2, s3, leV, leV1, leC, leA, nthO, and_self]) ?_) ?_
  · simp only [runH, leBlks, nthO, g3, g0, g1, g2]
    exact ⟨want_le w, run_le ids012 s, ro_le s, rv_le s, trivial⟩
  · have := hR w rfl
    rw [hr] at this
    simp only [endF, resL, resA, St.get, slotAt, Nat.beq, sfx, eqP, ldn, getB, wantB, wantL, rowNeed, cut, dropS, takeS, Seg.size, nsub, noTup, resV] at this ⊢
    exact this
set_option maxHeartbeats 16000000 in
theorem con19_0 (s : RS) (h : RunOk s) : Con Try.prog 19 [me] (runH s) (fun v H' => v = retNx (nextS s) ∧ H' = ⟨4, (3, wantB (if (nextS s).waits = true then (nextS s).want else want0)) :: (runH (nextS s)).blks⟩) := by
  (refine con_of_run mixed (fn := Try.f19) (by kernel_rfl) (by kernel_rfl) C19_ok (rs := [.cn 10 2, .tmp 3]) (by kernel_rfl) (Nat.le_of_ble_eq_true (by kernel_rfl)) ?_; unfold C19; simp only [initT, Nat.reduceAdd])
  generalize hT : nextS s = T
  generalize hR : (fun (v : AV) (H' : Heap) => v = retNx T ∧ H' = ⟨4, (3, wantB (if T.waits = true then T.want else want0)) :: (runH T).blks⟩) = R
  simp only [me]
  refine run_seq ?_
  (refine run_regionL fun K hK => ?_; (try (simp (maxSteps := 10000000) only [runH, partsOf, fillS, C19r0, C19r1, C19r2, C19r3, C19r4, C19r5, rwp_nil, rwp_cons, rwpK_app, aop, gpath, St.get, slotAt, sfx, eqP, segsOf, St.put, addBlk, getB, setB, delB, ld1, ldn, st1, stn, setRow, rowNeed, segAt, nsub, bin, un, eqB, isShift, sameK, arith, shiftR, getsl, selB_or, selB_and, beqb, shed, addN, Nat.beq, Seg.size, sizes, imp, needP, andN, appL, argsOf, ptrsOf, aasOf, cut, takeS, dropS, putS, partsOf, fillS, fieldOf, nthA, negIf, nilq, nilB, eqS, eqF, eqS1, andP, kin, slcS, strOk, plusA, bndHi, leN, optG, roH, roL, initT, exOk, exAll, wrAddr, Nat.reduceAdd, Nat.reduceSub, Nat.reduceMul, Int.reduceToNat, List.append_nil, List.nil_append, List.cons_append, eqT, idxT, cat, cpy, ite_int, ite_bool, ite_seg, ite_segs, ite_nil, ite_twice, Int.toNat_natCast, app, addBs, tob])); (repeat (first | (refine And.intro ?_ ?_; · first | trivial | assumption | omega))); refine hK _ (nxSt s) (LeS.intro [0, 1, 2, 3] ids3 (by simp only [diff, notIn, Nat.beq, and_self]) rfl (by simp only [nxSt, slotsLe, slotAt, Nat.beq, leV, leV1, leC, leA, nthO, Int.natCast_zero, Int.ofNat_zero, and_self]) ⟨want_le want0, run_le ids012 s, ro_le s, rv_le s, trivial⟩) ?_; clear hK K)
  refine run_seq (run_block ?_)
  refine run_loop (fun m st => ∃ s', m = s'.b.n + 1 - s'.pos ∧ RunOk s' ∧ nextN m s' = T ∧ st = nxSt s') (s.b.n + 1 - s.pos) ⟨s, rfl, h, hT, rfl⟩ ?_
  rintro m st ⟨s', hm, hok, hnx, rfl⟩
  have hfit : (!s'.left && !s'.waits) = true → FitO s' (s'.b.f s'.pos) := fun hc => hok.fit (by simp only [Bool.and_eq_true, Bool.not_eq_true'] at hc; exact hc.1)
  have hgo : (!s'.left && !s'.waits) = true → s'.pos < s'.b.n := fun hc => (hfit hc).pos
  unfold nxSt
  simp only [runH, runB, runL, runO, runV, wantB]
  repeat' (first | refine run_seq ?_ | refine run_skip ?_ | (refine run_region fun K hK => ?_; (try (simp (maxSteps := 10000000) only [opL, C19r0, C19r1, C19r2, C19r3, C19r4, C19r5, rwp_nil, rwp_cons, rwpK_app, aop, gpath, St.get, slotAt, sfx, eqP, segsOf, St.put, addBlk, getB, setB, delB, ld1, ldn, st1, stn, setRow, rowNeed, segAt, nsub, bin, un, eqB, isShift, sameK, arith, shiftR, getsl, selB_or, selB_and, beqb, shed, addN, Nat.beq, Seg.size, sizes, imp, needP, andN, appL, argsOf, ptrsOf, aasOf, cut, takeS, dropS, putS, partsOf, fillS, fieldOf, nthA, negIf, nilq, nilB, eqS, eqF, eqS1, andP, kin, slcS, strOk, plusA, bndHi, leN, optG, roH, roL, initT, exOk, exAll, wrAddr, Nat.reduceAdd, Nat.reduceSub, Nat.reduceMul, Int.reduceToNat, List.append_nil, List.nil_append, List.cons_append, eqT, idxT, cat, cpy, ite_int, ite_bool, ite_seg, ite_segs, ite_nil, ite_twice, Int.toNat_natCast, app, addBs, tob])); (repeat (first | (refine And.intro ?_ ?_; · (first | trivial | assumption | (have := hgo hc; omega) | (intros; first | trivial | (have := hgo hc; omega)))) | ((first | (refine call_t _ (run_frame1 (con45 s' (s'.b.f s'.pos) (hfit hc)) (by simp only [me, opL, wantL, leArgs, leV, leV1, leSegs, leSeg, leC, leA, nthO, and_self])) ?_; rintro v H' ⟨rfl, rfl⟩) | refine call_q _ (run_frame1 (con45 s' (s'.b.f s'.pos) (hfit hc)) (by simp only [me, opL, wantL, leArgs, leV, leV1, leSegs, leSeg, leC, leA, nthO, and_self])) ?_ | refine call_g _ (imp_of (run_frame1 (con45 s' (s'.b.f s'.pos) (hfit hc)) (by simp only [me, opL, wantL, leArgs, leV, leV1, leSegs, leSeg, leC, leA, nthO, and_self]))) ?_); simp (maxSteps := 10000000) only [opL, C19r0, C19r1, C19r2, C19r3, C19r4, C19r5, rwp_nil, rwp_cons, rwpK_app, aop, gpath, St.get, slotAt, sfx, eqP, segsOf, St.put, addBlk, getB, setB, delB, ld1, ldn, st1, stn, setRow, rowNeed, segAt, nsub, bin, un, eqB, isShift, sameK, arith, shiftR, getsl, selB_or, selB_and, beqb, shed, addN, Nat.beq, Seg.size, sizes, imp, needP, andN, appL, argsOf, ptrsOf, aasOf, cut, takeS, dropS, putS, partsOf, fillS, fieldOf, nthA, negIf, nilq, nilB, eqS, eqF, eqS1, andP, kin, slcS, strOk, plusA, bndHi, leN, optG, roH, roL, initT, exOk, exAll, wrAddr, Nat.reduceAdd, Nat.reduceSub, Nat.reduceMul, Int.reduceToNat, List.append_nil, List.nil_append, List.cons_append, eqT, idxT, cat, cpy, ite_int, ite_bool, ite_seg, ite_segs, ite_nil, ite_twice, Int.toNat_natCast, app, addBs, tob]))); with_reducible refine hK _ ?_; clear hK K) | (refine run_cond rfl (fun hc => ?_) (fun hc => ?_) <;> try (simp only [*, Bool.true_eq_false, Bool.false_eq_true, Bool.not_true, Bool.not_false, Bool.true_or, Bool.or_true, Bool.false_or, Bool.or_false, Bool.false_and, Bool.and_false, bne_self_eq_false, beq_self_eq_true] at hc; done)) | refine run_block ?_ | refine run_ret ?_ | refine run_nil ?_ | refine run_exit ?_ | refine blk_normal ?_ | refine blk_ret ?_ | refine blk_here ?_ | refine blk_there rfl ?_ | refine loop_exit ?_ | refine loop_ret ?_ | refine un_exit ?_ | refine un_ret ?_ | refine unE_exit ?_ | refine unE_ret ?_ | refine un_normal ?_)
  · have hl : s'.left = false := by simp only [Bool.and_eq_true, Bool.not_eq_true'] at hc; exact hc.1
    have hp := hok.go hl
    refine loop_normal (s'.b.n + 1 - (s'.pos + 1)) (nxSt (oneS s' (s'.b.f s'.pos))) (by omega) (LeS.intro [0, 1, 2, 3] ids3 (by simp only [diff, notIn, Nat.beq, and_self]) rfl (by simp only [nxSt, slotsLe, slotAt, Nat.beq, leV, leV1, leC, leA, nthO, Int.natCast_zero, Int.ofNat_zero, and_self]) ⟨want_le want0, run_le ids012 _, ro_le _, rv_le _, trivial⟩) ⟨_, ?_, hok.one hl, ?_, rfl⟩
    · rw [one_b, one_pos]
    · rw [← hnx, hm, show s'.b.n + 1 - s'.pos = (s'.b.n + 1 - (s'.pos + 1)) + 1 by omega]
      simp only [nextN, hc, if_true]
  · have hst : s' = T := by rw [← hnx]; exact (nextN_stop (by assumption) _).symm
    subst hst
    subst hR
    repeat' (first | refine run_seq ?_ | refine run_skip ?_ | (refine run_region fun K hK => ?_; (try (simp (maxSteps := 10000000) only [wantL, want0, partsOf, fillS, C19r0, C19r1, C19r2, C19r3, C19r4, C19r5, rwp_nil, rwp_cons, rwpK_app, aop, gpath, St.get, slotAt, sfx, eqP, segsOf, St.put, addBlk, getB, setB, delB, ld1, ldn, st1, stn, setRow, rowNeed, segAt, nsub, bin, un, eqB, isShift, sameK, arith, shiftR, getsl, selB_or, selB_and, beqb, shed, addN, Nat.beq, Seg.size, sizes, imp, needP, andN, appL, argsOf, ptrsOf, aasOf, cut, takeS, dropS, putS, partsOf, fillS, fieldOf, nthA, negIf, nilq, nilB, eqS, eqF, eqS1, andP, kin, slcS, strOk, plusA, bndHi, leN, optG, roH, roL, initT, exOk, exAll, wrAddr, Nat.reduceAdd, Nat.reduceSub, Nat.reduceMul, Int.reduceToNat, List.append_nil, List.nil_append, List.cons_append, eqT, idxT, cat, cpy, ite_int, ite_bool, ite_seg, ite_segs, ite_nil, ite_twice, Int.toNat_natCast, app, addBs, tob])); (repeat (first | (refine And.intro ?_ ?_; · first | trivial | assumption | omega))); with_reducible refine hK _ ?_; clear hK K) | (refine run_cond rfl (fun hc => ?_) (fun hc => ?_) <;> try (simp only [*, Bool.true_eq_false, Bool.false_eq_true, Bool.not_true, Bool.not_false, Bool.true_or, Bool.or_true, Bool.false_or, Bool.or_false, Bool.false_and, Bool.and_false, bne_self_eq_false, beq_self_eq_true] at hc; done)) | refine run_block ?_ | refine run_ret ?_ | refine run_nil ?_ | refine run_exit ?_ | refine blk_normal ?_ | refine blk_ret ?_ | refine blk_here ?_ | refine blk_there rfl ?_ | refine loop_exit ?_ | refine loop_ret ?_ | refine un_exit ?_ | refine un_ret ?_ | refine unE_exit ?_ | refine unE_ret ?_ | refine un_normal ?_)
    exact end_nx s' s'.want true (by rw [hc]; rfl) hc.symm rfl rfl rfl rfl rfl rfl (fun w hw => ⟨rfl, by rw [hw, hc]; rfl⟩)
  · have hst : s' = T := by rw [← hnx]; exact (nextN_stop (by assumption) _).symm
    subst hst
    subst hR
    repeat' (first | refine run_seq ?_ | refine run_skip ?_ | (refine run_region fun K hK => ?_; (try (simp (maxSteps := 10000000) only [wantL, want0, partsOf, fillS, C19r0, C19r1, C19r2, C19r3, C19r4, C19r5, rwp_nil, rwp_cons, rwpK_app, aop, gpath, St.get, slotAt, sfx, eqP, segsOf, St.put, addBlk, getB, setB, delB, ld1, ldn, st1, stn, setRow, rowNeed, segAt, nsub, bin, un, eqB, isShift, sameK, arith, shiftR, getsl, selB_or, selB_and, beqb, shed, addN, Nat.beq, Seg.size, sizes, imp, needP, andN, appL, argsOf, ptrsOf, aasOf, cut, takeS, dropS, putS, partsOf, fillS, fieldOf, nthA, negIf, nilq, nilB, eqS, eqF, eqS1, andP, kin, slcS, strOk, plusA, bndHi, leN, optG, roH, roL, initT, exOk, exAll, wrAddr, Nat.reduceAdd, Nat.reduceSub, Nat.reduceMul, Int.reduceToNat, List.append_nil, List.nil_append, List.cons_append, eqT, idxT, cat, cpy, ite_int, ite_bool, ite_seg, ite_segs, ite_nil, ite_twice, Int.toNat_natCast, app, addBs, tob])); (repeat (first | (refine And.intro ?_ ?_; · first | trivial | assumption | omega))); with_reducible refine hK _ ?_; clear hK K) | (refine run_cond rfl (fun hc => ?_) (fun hc => ?_) <;> try (simp only [*, Bool.true_eq_false, Bool.false_eq_true, Bool.not_true, Bool.not_false, Bool.true_or, Bool.or_true, Bool.false_or, Bool.or_false, Bool.false_and, Bool.and_false, bne_self_eq_false, beq_self_eq_true] at hc; done)) | refine run_block ?_ | refine run_ret ?_ | refine run_nil ?_ | refine run_exit ?_ | refine blk_normal ?_ | refine blk_ret ?_ | refine blk_here ?_ | refine blk_there rfl ?_ | refine loop_exit ?_ | refine loop_ret ?_ | refine un_exit ?_ | refine un_ret ?_ | refine unE_exit ?_ | refine unE_ret ?_ | refine un_normal ?_)
    exact end_nx s' want0 false (by rw [hc]; rfl) hc.symm rfl rfl rfl rfl rfl rfl (fun w hw => ⟨rfl, by rw [hw, hc]; rfl⟩)
theorem con19 (s : RS) (h : RunOk s) : Con Try.prog 19 [me] (runH s) (fun v H' => v = retNx (nextS s) ∧ H' = runH (nextS s)) := by
  refine Con.forget (con19_0 s h) ?_
  rintro v H' ⟨rfl, rfl⟩
  refine ⟨_, runH (nextS s), [0, 1, 2], ids3, diff3, rfl, ?_, ?_, rfl, rfl⟩
  · exact ⟨run_le ids012 _, ro_le _, rv_le _, trivial⟩
  · simp only [retNx, wantL, leV, leV1, leVL, leSegs, leSeg, leC, and_self]
end Go.Proofs.Ytmbnakinhnkabaa

namespace Go.Proofs.Ytmbnakinhnkabaa
open Go.AM
set_option maxRecDepth 100000
set_option linter.unusedSimpArgs false
set_option linter.unusedVariables false
structure GotS where
  value : Int
  ok : Bool
  fault : Int
def gotL (g : GotS) : List Seg := [.c (.int .u64 g.value), .c (.bool g.ok), .c (.int .i64 g.fault)]
def noW (s : RS) : RS := { s with waits := false }
def tookR (s : RS) (g : GotS) : RS :=
  if accS (s.b.f (s.pos - 1)).kind = false then noW s
  else if (g.fault != 0) = true then { noW s with left := true, faulted := true }
  else if ((s.b.f (s.pos - 1)).kind == 12) = true then (if g.ok = true then setV (noW s) (s.pos - 1) 0 else setV (noW s) (s.pos - 1) 1)
  else if ((s.b.f (s.pos - 1)).kind != 10) = true then setV (noW s) (s.pos - 1) g.value
  else noW s
set_option maxHeartbeats 16000000 in
theorem con20 (s : RS) (g : GotS) (hw : s.waits = true) (hp : 1 ≤ s.pos) (hp2 : s.pos ≤ s.b.n) (hn : s.b.n ≤ 512) : Con Try.prog 20 [me, .agg (gotL g)] (runH s) (fun v H' => v = .c (.bool true) ∧ H' = runH (tookR s g)) := by
  have hw1 : IntKind.i64.wrap ((s.pos : Int) - 1) = ((s.pos - 1 : Nat) : Int) := by rw [IntKind.wrap_i64]; omega
  have hp3 : s.pos - 1 < s.b.n := by omega
  (refine con_of_run mixed (fn := Try.f20) (by kernel_rfl) (by kernel_rfl) C20_ok (rs := [.tmp 4]) (by kernel_rfl) (Nat.le_of_ble_eq_true (by kernel_rfl)) ?_; unfold C20; simp only [initT, Nat.reduceAdd])
  generalize hR : (fun (v : AV) (H' : Heap) => v = AV.c (.bool true) ∧ H' = runH (tookR s g)) = R
  simp only [me, runH, runB, runL, runO, runV]
  repeat' (first | refine run_seq ?_ | refine run_skip ?_ | (refine run_region fun K hK => ?_; (try (simp (maxSteps := 10000000) only [gotL, opL, hw1, partsOf, fillS, C20r0, C20r1, C20r3, C20r4, C20r5, C20r6, C20r7, C20r8, C20r9, C20r10, C20r11, C20r12, C20r13, C20r14, C20r15, C20r16, C20r17, rwp_nil, rwp_cons, rwpK_app, aop, gpath, St.get, slotAt, sfx, eqP, segsOf, St.put, addBlk, getB, setB, delB, ld1, ldn, st1, stn, setRow, rowNeed, segAt, nsub, bin, un, eqB, isShift, sameK, arith, shiftR, getsl, selB_or, selB_and, beqb, shed, addN, Nat.beq, Seg.size, sizes, imp, needP, andN, appL, argsOf, ptrsOf, aasOf, cut, takeS, dropS, putS, partsOf, fillS, fieldOf, nthA, negIf, nilq, nilB, eqS, eqF, eqS1, andP, kin, slcS, strOk, plusA, bndHi, leN, optG, roH, roL, initT, exOk, exAll, wrAddr, Nat.reduceAdd, Nat.reduceSub, Nat.reduceMul, Int.reduceToNat, List.append_nil, List.nil_append, List.cons_append, eqT, idxT, cat, cpy, ite_int, ite_bool, ite_seg, ite_segs, ite_nil, ite_twice, Int.toNat_natCast, app, addBs, tob])); (repeat (first | (refine And.intro ?_ ?_; · (first | decide | trivial | assumption | omega | (intros; first | decide | trivial | omega))) | ((first | (refine call_t _ (con41 (s.b.f (s.pos - 1)) _) ?_; rintro v H' ⟨rfl, rfl⟩) | refine call_q _ (con41 (s.b.f (s.pos - 1)) _) ?_ | refine call_g _ (imp_of (con41 (s.b.f (s.pos - 1)) _)) ?_); simp (maxSteps := 10000000) only [gotL, opL, hw1, partsOf, fillS, C20r0, C20r1, C20r3, C20r4, C20r5, C20r6, C20r7, C20r8, C20r9, C20r10, C20r11, C20r12, C20r13, C20r14, C20r15, C20r16, C20r17, rwp_nil, rwp_cons, rwpK_app, aop, gpath, St.get, slotAt, sfx, eqP, segsOf, St.put, addBlk, getB, setB, delB, ld1, ldn, st1, stn, setRow, rowNeed, segAt, nsub, bin, un, eqB, isShift, sameK, arith, shiftR, getsl, selB_or, selB_and, beqb, shed, addN, Nat.beq, Seg.size, sizes, imp, needP, andN, appL, argsOf, ptrsOf, aasOf, cut, takeS, dropS, putS, partsOf, fillS, fieldOf, nthA, negIf, nilq, nilB, eqS, eqF, eqS1, andP, kin, slcS, strOk, plusA, bndHi, leN, optG, roH, roL, initT, exOk, exAll, wrAddr, Nat.reduceAdd, Nat.reduceSub, Nat.reduceMul, Int.reduceToNat, List.append_nil, List.nil_append, List.cons_append, eqT, idxT, cat, cpy, ite_int, ite_bool, ite_seg, ite_segs, ite_nil, ite_twice, Int.toNat_natCast, app, addBs, tob]))); with_reducible refine hK _ ?_; clear hK K) | (refine run_cond rfl (fun hc => ?_) (fun hc => ?_) <;> try (simp only [*, Bool.true_eq_false, Bool.false_eq_true, Bool.not_true, Bool.not_false, Bool.true_or, Bool.or_true, Bool.false_or, Bool.or_false, Bool.false_and, Bool.and_false, bne_self_eq_false, beq_self_eq_true] at hc; done)) | refine run_block ?_ | refine run_ret ?_ | refine run_nil ?_ | refine blk_normal ?_ | refine blk_ret ?_ | refine blk_here ?_ | refine blk_there rfl ?_)
  all_goals first
    | (exfalso; rw [hw] at hc; exact absurd hc (by decide))
    | (subst hR
       simp only [Bool.not_eq_true', Bool.not_eq_false'] at *
       refine end_run1 (tookR s g) rfl ?_ ?_ ?_ rfl rfl ⟨rfl, rfl⟩ <;> (simp only [tookR, *, if_true, if_false, reduceIte, Bool.false_eq_true, Bool.true_eq_false]; rfl))
def runLI (s : RS) (o v : Nat) : List Seg := [.c (.int .u64 s.b.pc), .c (.int .i64 s.b.words), .c (.int .i64 s.b.el), .c (.slice ⟨o, 0, 0, 0⟩ false s.b.n), .a 31 (fun i => .int .u64 (s.core.x i)), .a 2 (fun i => .int .u64 (s.core.sp i)), .c (.int .u64 s.core.pc), .c (.bool s.core.n), .c (.bool s.core.z), .c (.bool s.core.c), .c (.bool s.core.v), .c (.int .i64 s.core.el), .c (.bool s.core.mask), .c (.int .u64 s.core.q0), .c (.int .u64 s.core.q1), .c (.int .u64 s.core.q2), .c (.int .u64 s.core.q3), .c (.int .u64 s.core.q4), .c (.int .u64 s.core.q5), .c (.int .i64 s.core.id), .c (.int .i64 s.core.wait), .c (.bool s.core.last), .c (.slice ⟨v, 0, 0, 0⟩ false s.b.n), .c (.int .i64 s.pos), .c (.bool s.waits), .c (.int .i64 s.want.kind), .c (.int .u64 s.want.addr), .c (.int .u64 s.want.value), .c (.int .i64 s.want.acq), .c (.bool s.want.rel), .c (.int .i64 s.want.w5), .c (.bool s.want.w6), .c (.int .i64 s.want.w7), .c (.int .i64 s.want.w8), .c (.int .i64 s.want.w9), .c (.bool s.left), .c (.bool s.faulted), .c (.int .u64 s.word), .c (.bool s.guest)]
def runBI (s : RS) (o v : Nat) : Blk := ⟨70, none, fun _ => runLI s o v, 54, true⟩
def newR (b : BlkS) (c : CoreS) : RS := ⟨b, c, fun _ => 0, 0, false, want0, false, false, 0, false⟩
def newOk (b : BlkS) (c : CoreS) : Bool := rightC c && (c.el == b.el)
theorem con18_b (b : BlkS) (c : CoreS) (hw : BlkWf b) (hr : rightS b = true) (ho : newOk b c = false) : Con Try.prog 18 [.agg (blkL b 0), .agg (coreL c)] ⟨1, [(0, opsB b.n b.f)]⟩ (fun v H' => v = .tup [.c .nilp, .c (.int .i64 1)] ∧ H' = ⟨1, [(0, opsB b.n b.f)]⟩) := by
  (refine con_of_run mixed (fn := Try.f18) (by kernel_rfl) (by kernel_rfl) C18_ok (rs := [.tmp 4, .tmp 5]) (by kernel_rfl) (Nat.le_of_ble_eq_true (by kernel_rfl)) ?_; unfold C18; simp only [initT, Nat.reduceAdd])
  repeat' (first | refine run_seq ?_ | refine run_skip ?_ | (refine run_region fun K hK => ?_; (try (simp (maxSteps := 10000000) only [blkL, opsB, hr, C18r0, C18r1, C18r2, C18r3, C18r5, rwp_nil, rwp_cons, rwpK_app, aop, gpath, St.get, slotAt, sfx, eqP, segsOf, St.put, addBlk, getB, setB, delB, ld1, ldn, st1, stn, setRow, rowNeed, segAt, nsub, bin, un, eqB, isShift, sameK, arith, shiftR, getsl, selB_or, selB_and, beqb, shed, addN, Nat.beq, Seg.size, sizes, imp, needP, andN, appL, argsOf, ptrsOf, aasOf, cut, takeS, dropS, putS, partsOf, fillS, fieldOf, nthA, negIf, nilq, nilB, eqS, eqF, eqS1, andP, kin, slcS, strOk, plusA, bndHi, leN, optG, roH, roL, initT, exOk, exAll, wrAddr, Nat.reduceAdd, Nat.reduceSub, Nat.reduceMul, Int.reduceToNat, List.append_nil, List.nil_append, List.cons_append, eqT, idxT, cat, cpy, ite_int, ite_bool, ite_seg, ite_segs, ite_nil, ite_twice, Int.toNat_natCast, app, addBs, tob])); (repeat (first | (refine And.intro ?_ ?_; · (first | decide | trivial | assumption | omega | (intros; first | decide | trivial | omega))) | ((first | (refine call_t _ (con11_at b hw 0 _ _ _ rfl (Nat.le_of_ble_eq_true rfl) (by simp [roL, keysLt])) ?_; rintro v H' ⟨rfl, rfl⟩) | refine call_q _ (con11_at b hw 0 _ _ _ rfl (Nat.le_of_ble_eq_true rfl) (by simp [roL, keysLt])) ?_ | refine call_g _ (imp_of (con11_at b hw 0 _ _ _ rfl (Nat.le_of_ble_eq_true rfl) (by simp [roL, keysLt]))) ?_); simp (maxSteps := 10000000) only [blkL, opsB, hr, C18r0, C18r1, C18r2, C18r3, C18r5, rwp_nil, rwp_cons, rwpK_app, aop, gpath, St.get, slotAt, sfx, eqP, segsOf, St.put, addBlk, getB, setB, delB, ld1, ldn, st1, stn, setRow, rowNeed, segAt, nsub, bin, un, eqB, isShift, sameK, arith, shiftR, getsl, selB_or, selB_and, beqb, shed, addN, Nat.beq, Seg.size, sizes, imp, needP, andN, appL, argsOf, ptrsOf, aasOf, cut, takeS, dropS, putS, partsOf, fillS, fieldOf, nthA, negIf, nilq, nilB, eqS, eqF, eqS1, andP, kin, slcS, strOk, plusA, bndHi, leN, optG, roH, roL, initT, exOk, exAll, wrAddr, Nat.reduceAdd, Nat.reduceSub, Nat.reduceMul, Int.reduceToNat, List.append_nil, List.nil_append, List.cons_append, eqT, idxT, cat, cpy, ite_int, ite_bool, ite_seg, ite_segs, ite_nil, ite_twice, Int.toNat_natCast, app, addBs, tob]))); with_reducible refine hK _ ?_; clear hK K) | (refine run_cond rfl (fun hc => ?_) (fun hc => ?_) <;> try (simp only [*, Bool.true_eq_false, Bool.false_eq_true, Bool.not_true, Bool.not_false, Bool.true_or, Bool.or_true, Bool.false_or, Bool.or_false, Bool.false_and, Bool.and_false, bne_self_eq_false, beq_self_eq_true] at hc; done)) | refine run_ret ?_ | refine run_nil ?_)
  repeat' (first | refine run_seq ?_ | refine run_skip ?_ | (refine run_region fun K hK => ?_; (try (simp (maxSteps := 10000000) only [blkL, opsB, coreL, C18r0, C18r1, C18r2, C18r3, C18r4, C18r5, rwp_nil, rwp_cons, rwpK_app, aop, gpath, St.get, slotAt, sfx, eqP, segsOf, St.put, addBlk, getB, setB, delB, ld1, ldn, st1, stn, setRow, rowNeed, segAt, nsub, bin, un, eqB, isShift, sameK, arith, shiftR, getsl, selB_or, selB_and, beqb, shed, addN, Nat.beq, Seg.size, sizes, imp, needP, andN, appL, argsOf, ptrsOf, aasOf, cut, takeS, dropS, putS, partsOf, fillS, fieldOf, nthA, negIf, nilq, nilB, eqS, eqF, eqS1, andP, kin, slcS, strOk, plusA, bndHi, leN, optG, roH, roL, initT, exOk, exAll, wrAddr, Nat.reduceAdd, Nat.reduceSub, Nat.reduceMul, Int.reduceToNat, List.append_nil, List.nil_append, List.cons_append, eqT, idxT, cat, cpy, ite_int, ite_bool, ite_seg, ite_segs, ite_nil, ite_twice, Int.toNat_natCast, app, addBs, tob])); (repeat (first | (refine And.intro ?_ ?_; · (first | decide | trivial | assumption | omega | (intros; first | decide | trivial | omega))) | ((first | (refine call_t _ (con44 c _) ?_; rintro v H' ⟨rfl, rfl⟩) | refine call_q _ (con44 c _) ?_ | refine call_g _ (imp_of (con44 c _)) ?_); simp (maxSteps := 10000000) only [blkL, opsB, coreL, C18r0, C18r1, C18r2, C18r3, C18r4, C18r5, rwp_nil, rwp_cons, rwpK_app, aop, gpath, St.get, slotAt, sfx, eqP, segsOf, St.put, addBlk, getB, setB, delB, ld1, ldn, st1, stn, setRow, rowNeed, segAt, nsub, bin, un, eqB, isShift, sameK, arith, shiftR, getsl, selB_or, selB_and, beqb, shed, addN, Nat.beq, Seg.size, sizes, imp, needP, andN, appL, argsOf, ptrsOf, aasOf, cut, takeS, dropS, putS, partsOf, fillS, fieldOf, nthA, negIf, nilq, nilB, eqS, eqF, eqS1, andP, kin, slcS, strOk, plusA, bndHi, leN, optG, roH, roL, initT, exOk, exAll, wrAddr, Nat.reduceAdd, Nat.reduceSub, Nat.reduceMul, Int.reduceToNat, List.append_nil, List.nil_append, List.cons_append, eqT, idxT, cat, cpy, ite_int, ite_bool, ite_seg, ite_segs, ite_nil, ite_twice, Int.toNat_natCast, app, addBs, tob]))); with_reducible refine hK _ ?_; clear hK K) | (refine run_cond rfl (fun hc => ?_) (fun hc => ?_) <;> try (simp only [*, Bool.true_eq_false, Bool.false_eq_true, Bool.not_true, Bool.not_false, Bool.true_or, Bool.or_true, Bool.false_or, Bool.or_false, Bool.false_and, Bool.and_false, bne_self_eq_false, beq_self_eq_true] at hc; done)) | refine run_ret ?_ | refine run_nil ?_)
  · repeat' (first | refine run_seq ?_ | refine run_skip ?_ | (refine run_region fun K hK => ?_; (try (simp (maxSteps := 10000000) only [blkL, opsB, C18r0, C18r1, C18r2, C18r3, C18r4, C18r5, C18r6, C18r7, rwp_nil, rwp_cons, rwpK_app, aop, gpath, St.get, slotAt, sfx, eqP, segsOf, St.put, addBlk, getB, setB, delB, ld1, ldn, st1, stn, setRow, rowNeed, segAt, nsub, bin, un, eqB, isShift, sameK, arith, shiftR, getsl, selB_or, selB_and, beqb, shed, addN, Nat.beq, Seg.size, sizes, imp, needP, andN, appL, argsOf, ptrsOf, aasOf, cut, takeS, dropS, putS, partsOf, fillS, fieldOf, nthA, negIf, nilq, nilB, eqS, eqF, eqS1, andP, kin, slcS, strOk, plusA, bndHi, leN, optG, roH, roL, initT, exOk, exAll, wrAddr, Nat.reduceAdd, Nat.reduceSub, Nat.reduceMul, Int.reduceToNat, List.append_nil, List.nil_append, List.cons_append, eqT, idxT, cat, cpy, ite_int, ite_bool, ite_seg, ite_segs, ite_nil, ite_twice, Int.toNat_natCast, app, addBs, tob])); (repeat (first | (refine And.intro ?_ ?_; · first | trivial | assumption | omega))); with_reducible refine hK _ ?_; clear hK K) | (refine run_cond rfl (fun hc => ?_) (fun hc => ?_) <;> try (simp only [*, Bool.true_eq_false, Bool.false_eq_true, Bool.not_true, Bool.not_false, Bool.true_or, Bool.or_true, Bool.false_or, Bool.or_false, Bool.false_and, Bool.and_false, bne_self_eq_false, beq_self_eq_true] at hc; done)) | refine run_ret ?_ | refine run_nil ?_)
    refine end_of ⟨[⟨4, [], .c .nilp⟩, ⟨5, [], .c (.int .i64 1)⟩], ⟨1, [(0, opsB b.n b.f)]⟩⟩ (LeS.intro [0] idt1 ⟨trivial, trivial⟩ rfl (by simp only [slotsLe, slotAt, Nat.beq, leV, leV1, leC, and_self]) ⟨ops_le b.n b.f false, trivial⟩) ?_
    simp only [endF, resL, resA, St.get, slotAt, Nat.beq, sfx, eqP, noTup, resV]
    exact ⟨by first | rfl | trivial, by first | rfl | trivial⟩
  · exfalso
    unfold newOk at ho
    simp only [Bool.or_eq_false_iff, Bool.not_eq_false', bne_eq_false_iff_eq] at hc
    simp [hc.1, hc.2] at ho
theorem con18_c (b : BlkS) (c : CoreS) (hw : BlkWf b) (hr : rightS b = true) (ho : newOk b c = true) : Con Try.prog 18 [.agg (blkL b 0), .agg (coreL c)] ⟨1, [(0, opsB b.n b.f)]⟩ (fun v H' => v = .tup [.c (.ptr ⟨2, 0, 0, 0⟩), .c (.int .i64 0)] ∧ H' = ⟨3, [(2, runBI (newR b c) 0 1), (1, runV (newR b c)), (0, opsB b.n b.f)]⟩) := by
  have hn := right_n hr
  (refine con_of_run mixed (fn := Try.f18) (by kernel_rfl) (by kernel_rfl) C18_ok (rs := [.tmp 4, .tmp 5]) (by kernel_rfl) (Nat.le_of_ble_eq_true (by kernel_rfl)) ?_; unfold C18; simp only [initT, Nat.reduceAdd])
  repeat' (first | refine run_seq ?_ | refine run_skip ?_ | (refine run_region fun K hK => ?_; (try (simp (maxSteps := 10000000) only [blkL, opsB, hr, C18r0, C18r1, C18r2, C18r3, C18r5, rwp_nil, rwp_cons, rwpK_app, aop, gpath, St.get, slotAt, sfx, eqP, segsOf, St.put, addBlk, getB, setB, delB, ld1, ldn, st1, stn, setRow, rowNeed, segAt, nsub, bin, un, eqB, isShift, sameK, arith, shiftR, getsl, selB_or, selB_and, beqb, shed, addN, Nat.beq, Seg.size, sizes, imp, needP, andN, appL, argsOf, ptrsOf, aasOf, cut, takeS, dropS, putS, partsOf, fillS, fieldOf, nthA, negIf, nilq, nilB, eqS, eqF, eqS1, andP, kin, slcS, strOk, plusA, bndHi, leN, optG, roH, roL, initT, exOk, exAll, wrAddr, Nat.reduceAdd, Nat.reduceSub, Nat.reduceMul, Int.reduceToNat, List.append_nil, List.nil_append, List.cons_append, eqT, idxT, cat, cpy, ite_int, ite_bool, ite_seg, ite_segs, ite_nil, ite_twice, Int.toNat_natCast, app, addBs, tob])); (repeat (first | (refine And.intro ?_ ?_; · (first | decide | trivial | assumption | omega | (intros; first | decide | trivial | omega))) | ((first | (refine call_t _ (con11_at b hw 0 _ _ _ rfl (Nat.le_of_ble_eq_true rfl) (by simp [roL, keysLt])) ?_; rintro v H' ⟨rfl, rfl⟩) | refine call_q _ (con11_at b hw 0 _ _ _ rfl (Nat.le_of_ble_eq_true rfl) (by simp [roL, keysLt])) ?_ | refine call_g _ (imp_of (con11_at b hw 0 _ _ _ rfl (Nat.le_of_ble_eq_true rfl) (by simp [roL, keysLt]))) ?_); simp (maxSteps := 10000000) only [blkL, opsB, hr, C18r0, C18r1, C18r2, C18r3, C18r5, rwp_nil, rwp_cons, rwpK_app, aop, gpath, St.get, slotAt, sfx, eqP, segsOf, St.put, addBlk, getB, setB, delB, ld1, ldn, st1, stn, setRow, rowNeed, segAt, nsub, bin, un, eqB, isShift, sameK, arith, shiftR, getsl, selB_or, selB_and, beqb, shed, addN, Nat.beq, Seg.size, sizes, imp, needP, andN, appL, argsOf, ptrsOf, aasOf, cut, takeS, dropS, putS, partsOf, fillS, fieldOf, nthA, negIf, nilq, nilB, eqS, eqF, eqS1, andP, kin, slcS, strOk, plusA, bndHi, leN, optG, roH, roL, initT, exOk, exAll, wrAddr, Nat.reduceAdd, Nat.reduceSub, Nat.reduceMul, Int.reduceToNat, List.append_nil, List.nil_append, List.cons_append, eqT, idxT, cat, cpy, ite_int, ite_bool, ite_seg, ite_segs, ite_nil, ite_twice, Int.toNat_natCast, app, addBs, tob]))); with_reducible refine hK _ ?_; clear hK K) | (refine run_cond rfl (fun hc => ?_) (fun hc => ?_) <;> try (simp only [*, Bool.true_eq_false, Bool.false_eq_true, Bool.not_true, Bool.not_false, Bool.true_or, Bool.or_true, Bool.false_or, Bool.or_false, Bool.false_and, Bool.and_false, bne_self_eq_false, beq_self_eq_true] at hc; done)) | refine run_ret ?_ | refine run_nil ?_)
  repeat' (first | refine run_seq ?_ | refine run_skip ?_ | (refine run_region fun K hK => ?_; (try (simp (maxSteps := 10000000) only [blkL, opsB, coreL, C18r0, C18r1, C18r2, C18r3, C18r4, C18r5, rwp_nil, rwp_cons, rwpK_app, aop, gpath, St.get, slotAt, sfx, eqP, segsOf, St.put, addBlk, getB, setB, delB, ld1, ldn, st1, stn, setRow, rowNeed, segAt, nsub, bin, un, eqB, isShift, sameK, arith, shiftR, getsl, selB_or, selB_and, beqb, shed, addN, Nat.beq, Seg.size, sizes, imp, needP, andN, appL, argsOf, ptrsOf, aasOf, cut, takeS, dropS, putS, partsOf, fillS, fieldOf, nthA, negIf, nilq, nilB, eqS, eqF, eqS1, andP, kin, slcS, strOk, plusA, bndHi, leN, optG, roH, roL, initT, exOk, exAll, wrAddr, Nat.reduceAdd, Nat.reduceSub, Nat.reduceMul, Int.reduceToNat, List.append_nil, List.nil_append, List.cons_append, eqT, idxT, cat, cpy, ite_int, ite_bool, ite_seg, ite_segs, ite_nil, ite_twice, Int.toNat_natCast, app, addBs, tob])); (repeat (first | (refine And.intro ?_ ?_; · (first | decide | trivial | assumption | omega | (intros; first | decide | trivial | omega))) | ((first | (refine call_t _ (con44 c _) ?_; rintro v H' ⟨rfl, rfl⟩) | refine call_q _ (con44 c _) ?_ | refine call_g _ (imp_of (con44 c _)) ?_); simp (maxSteps := 10000000) only [blkL, opsB, coreL, C18r0, C18r1, C18r2, C18r3, C18r4, C18r5, rwp_nil, rwp_cons, rwpK_app, aop, gpath, St.get, slotAt, sfx, eqP, segsOf, St.put, addBlk, getB, setB, delB, ld1, ldn, st1, stn, setRow, rowNeed, segAt, nsub, bin, un, eqB, isShift, sameK, arith, shiftR, getsl, selB_or, selB_and, beqb, shed, addN, Nat.beq, Seg.size, sizes, imp, needP, andN, appL, argsOf, ptrsOf, aasOf, cut, takeS, dropS, putS, partsOf, fillS, fieldOf, nthA, negIf, nilq, nilB, eqS, eqF, eqS1, andP, kin, slcS, strOk, plusA, bndHi, leN, optG, roH, roL, initT, exOk, exAll, wrAddr, Nat.reduceAdd, Nat.reduceSub, Nat.reduceMul, Int.reduceToNat, List.append_nil, List.nil_append, List.cons_append, eqT, idxT, cat, cpy, ite_int, ite_bool, ite_seg, ite_segs, ite_nil, ite_twice, Int.toNat_natCast, app, addBs, tob]))); with_reducible refine hK _ ?_; clear hK K) | (refine run_cond rfl (fun hc => ?_) (fun hc => ?_) <;> try (simp only [*, Bool.true_eq_false, Bool.false_eq_true, Bool.not_true, Bool.not_false, Bool.true_or, Bool.or_true, Bool.false_or, Bool.or_false, Bool.false_and, Bool.and_false, bne_self_eq_false, beq_self_eq_true] at hc; done)) | refine run_ret ?_ | refine run_nil ?_)
  · exfalso
    unfold newOk at ho
    simp only [Bool.and_eq_true, beq_iff_eq] at ho
    simp [ho.1, ho.2] at hc
  · repeat' (first | refine run_seq ?_ | refine run_skip ?_ | (refine run_region fun K hK => ?_; (try (simp (maxSteps := 10000000) only [blkL, opsB, partsOf, fillS, Int.toNat_natCast, C18r0, C18r1, C18r2, C18r3, C18r4, C18r5, C18r6, C18r7, rwp_nil, rwp_cons, rwpK_app, aop, gpath, St.get, slotAt, sfx, eqP, segsOf, St.put, addBlk, getB, setB, delB, ld1, ldn, st1, stn, setRow, rowNeed, segAt, nsub, bin, un, eqB, isShift, sameK, arith, shiftR, getsl, selB_or, selB_and, beqb, shed, addN, Nat.beq, Seg.size, sizes, imp, needP, andN, appL, argsOf, ptrsOf, aasOf, cut, takeS, dropS, putS, partsOf, fillS, fieldOf, nthA, negIf, nilq, nilB, eqS, eqF, eqS1, andP, kin, slcS, strOk, plusA, bndHi, leN, optG, roH, roL, initT, exOk, exAll, wrAddr, Nat.reduceAdd, Nat.reduceSub, Nat.reduceMul, Int.reduceToNat, List.append_nil, List.nil_append, List.cons_append, eqT, idxT, cat, cpy, ite_int, ite_bool, ite_seg, ite_segs, ite_nil, ite_twice, Int.toNat_natCast, app, addBs, tob])); (repeat (first | (refine And.intro ?_ ?_; · (first | trivial | omega | exact ⟨by omega, by omega⟩ | exact ⟨by omega, by omega, by omega⟩)))); with_reducible refine hK _ ?_; clear hK K) | (refine run_cond rfl (fun hc => ?_) (fun hc => ?_) <;> try (simp only [*, Bool.true_eq_false, Bool.false_eq_true, Bool.not_true, Bool.not_false, Bool.true_or, Bool.or_true, Bool.false_or, Bool.or_false, Bool.false_and, Bool.and_false, bne_self_eq_false, beq_self_eq_true] at hc; done)) | refine run_ret ?_ | refine run_nil ?_)
    refine end_of ⟨[⟨4, [], .c (.ptr ⟨2, 0, 0, 0⟩)⟩, ⟨5, [], .c (.int .i64 0)⟩], ⟨3, [(2, runBI (newR b c) 0 1), (1, runV (newR b c)), (0, opsB b.n b.f)]⟩⟩ (LeS.intro [0, 3, 4] idts (by simp only [diff, notIn, Nat.beq, and_self]) rfl (by simp only [slotsLe, slotAt, Nat.beq, leV, leV1, leC, leA, nthO, and_self]) ⟨⟨rfl, rfl, id, Nat.le_refl _, fun i _ => by simp only [runBI, runLI, newR, want0, leSegs, leSeg, leC, leA, nthO, Int.natCast_zero, Int.ofNat_zero, and_self, implies_true]⟩, ⟨rfl, rfl, id, Nat.le_refl _, fun i _ => by simp only [runV, newR, leSegs, leSeg, leC, and_self]⟩, ops_le b.n b.f false, trivial⟩) ?_
    simp only [endF, resL, resA, St.get, slotAt, Nat.beq, sfx, eqP, noTup, resV]
    exact ⟨by first | rfl | trivial, by first | rfl | trivial⟩
end Go.Proofs.Ytmbnakinhnkabaa

