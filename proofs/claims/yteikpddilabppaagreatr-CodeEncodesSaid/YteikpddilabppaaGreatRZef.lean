/- Parts of the proof of codeEncodes_holds, joined and cut by a program: Code03b, Xa, Xb, Xc, Xd, Xe, Wq, Wp, Wr, Ws. No condition. -/
import Derived.Test.YteikpddilabppaaGreatRZee
import Derived.Test.YteikpddilabppaaGreatRProg
import Derived.KernelRfl
import Derived.Laws.Bits64
namespace Go.Proofs.YteikpddilabppaaGreatR
open Go.AM
def C3r0 : List AOper := [⟨some 1, .box 23 (.t 0), none, true, []⟩,
 ⟨some 2, .mv (.k (.c (.bool false))), none, true, []⟩]
def C3r1 : List AOper := [⟨some 8, .call (.k (.c (.fn 7 [] []))) [], none, true, []⟩,
 ⟨some 3, .mv (.t 8), none, true, []⟩]
def C3r2 : List AOper := [⟨some 9, .mv (.t 3), none, true, []⟩,
 ⟨some 10, .un .not (.t 9), none, true, []⟩]
def C3r3 : List AOper := [⟨some 2, .mv (.k (.c (.bool false))), none, true, []⟩]
def C3r4 : List AOper := [⟨some 12, .ldn 16 (.t 1), none, true, []⟩,
 ⟨some 13, .call (.k (.c (.fn 8 [] []))) [(.t 12)], none, true, []⟩,
 ⟨some 11, .mv (.t 13), none, true, []⟩,
 ⟨some 14, .ext (.t 11) 0, none, true, []⟩,
 ⟨some 15, .ext (.t 11) 1, none, true, []⟩,
 ⟨some 4, .mv (.t 14), none, true, []⟩,
 ⟨some 5, .mv (.t 15), none, true, []⟩]
def C3r5 : List AOper := [⟨some 17, .ldn 16 (.t 1), none, true, []⟩,
 ⟨some 18, .call (.k (.c (.fn 9 [] []))) [(.t 17)], none, true, []⟩,
 ⟨some 16, .mv (.t 18), none, true, []⟩,
 ⟨some 19, .ext (.t 16) 0, none, true, []⟩,
 ⟨some 20, .ext (.t 16) 1, none, true, []⟩,
 ⟨some 6, .mv (.t 19), none, true, []⟩,
 ⟨some 7, .mv (.t 20), none, true, []⟩]
def C3r6 : List AOper := [⟨some 21, .mv (.t 3), none, true, []⟩,
 ⟨some 22, .mv (.t 21), none, true, []⟩,
 ⟨some 23, .mv (.t 4), some (22, true), true, []⟩,
 ⟨some 24, .mv (.t 6), some (22, true), true, []⟩,
 ⟨some 25, .bin .eql (.t 23) (.t 24), some (22, true), true, []⟩,
 ⟨some 26, .pick 22 (.t 25) (.k (.c (.bool false))), none, true, []⟩,
 ⟨some 27, .mv (.t 26), none, true, []⟩,
 ⟨some 28, .mv (.t 5), some (27, true), true, []⟩,
 ⟨some 29, .bin .eql (.t 28) (.k (.c (.int .i64 0))), some (27, true), true, []⟩,
 ⟨some 30, .mv (.t 7), some (27, true), true, []⟩,
 ⟨some 31, .eqB false (.t 29) (.t 30), some (27, true), true, []⟩,
 ⟨some 32, .pick 27 (.t 31) (.k (.c (.bool false))), none, true, []⟩,
 ⟨some 33, .mv (.t 32), none, true, []⟩,
 ⟨some 34, .mv (.t 7), some (33, true), true, []⟩,
 ⟨some 35, .mv (.t 34), some (33, true), true, []⟩,
 ⟨some 36, .mv (.t 5), some (35, false), true, []⟩,
 ⟨some 37, .bin .eql (.t 36) (.k (.c (.int .i64 3))), some (35, false), true, []⟩,
 ⟨some 38, .pick 35 (.k (.c (.bool true))) (.t 37), some (33, true), true, []⟩,
 ⟨some 39, .pick 33 (.t 38) (.k (.c (.bool false))), none, true, []⟩,
 ⟨some 2, .mv (.t 39), none, true, []⟩]
def C3 : ACode :=
 .seq (.region C3r0)
 (.seq (.region C3r1)
 (.seq (.seq (.region C3r2)
 (.cond (.t 10)
 (.seq (.region C3r3)
 (.ret))
 (.skip)))
 (.seq (.region C3r4)
 (.seq (.region C3r5)
 (.seq (.region C3r6)
 (.ret))))))
theorem C3_ok : stripF Tryz.prog Tryz.f3 = some C3 := by kernel_rfl
def C9r0 : List AOper := [⟨some 1, .box 23 (.t 0), none, true, []⟩,
 ⟨some 2, .mv (.k (.c (.int .u32 0))), none, true, []⟩,
 ⟨some 3, .mv (.k (.c (.bool false))), none, true, []⟩]
def C9r1 : List AOper := [⟨some 12, .ldn 16 (.t 1), none, true, []⟩,
 ⟨some 13, .call (.k (.c (.fn 13 [] []))) [(.t 12)], none, true, []⟩,
 ⟨some 4, .mv (.t 13), none, true, []⟩]
def C9r2 : List AOper := [⟨some 14, .mv (.t 4), none, true, []⟩,
 ⟨some 15, .un .not (.t 14), none, true, []⟩]
def C9r3 : List AOper := [⟨some 2, .mv (.k (.c (.int .u32 0))), none, true, []⟩,
 ⟨some 3, .mv (.k (.c (.bool false))), none, true, []⟩]
def C9r4 : List AOper := [⟨some 16, .faddr (.t 1) 2, none, true, []⟩,
 ⟨some 17, .ld1 (.t 16), none, true, []⟩,
 ⟨some 18, .call (.k (.c (.fn 14 [] []))) [(.t 17), (.k (.c (.int .i64 5)))], none, true, []⟩,
 ⟨some 5, .mv (.t 18), none, true, []⟩]
def C9r5 : List AOper := [⟨some 19, .faddr (.t 1) 3, none, true, []⟩,
 ⟨some 20, .ld1 (.t 19), none, true, []⟩,
 ⟨some 21, .call (.k (.c (.fn 14 [] []))) [(.t 20), (.k (.c (.int .i64 5)))], none, true, []⟩,
 ⟨some 22, .bin .shl (.t 21) (.k (.c (.int .u64 5))), none, true, []⟩,
 ⟨some 6, .mv (.t 22), none, true, []⟩]
def C9r6 : List AOper := [⟨some 23, .faddr (.t 1) 4, none, true, []⟩,
 ⟨some 24, .ld1 (.t 23), none, true, []⟩,
 ⟨some 25, .call (.k (.c (.fn 14 [] []))) [(.t 24), (.k (.c (.int .i64 5)))], none, true, []⟩,
 ⟨some 26, .bin .shl (.t 25) (.k (.c (.int .u64 16))), none, true, []⟩,
 ⟨some 7, .mv (.t 26), none, true, []⟩]
def C9r7 : List AOper := [⟨some 27, .faddr (.t 1) 1, none, true, []⟩,
 ⟨some 28, .ld1 (.t 27), none, true, []⟩,
 ⟨some 29, .conv .u32 (.t 28), none, true, []⟩,
 ⟨some 8, .mv (.t 29), none, true, []⟩]
def C9r8 : List AOper := [⟨some 30, .faddr (.t 1) 13, none, false, []⟩,
 ⟨some 31, .ld1 (.t 30), none, false, []⟩,
 ⟨some 32, .call (.k (.c (.fn 15 [] []))) [(.t 31), (.k (.c (.int .u32 1073741824)))], none, false, []⟩,
 ⟨some 33, .faddr (.t 1) 12, none, false, []⟩,
 ⟨some 34, .ld1 (.t 33), none, false, []⟩,
 ⟨some 35, .call (.k (.c (.fn 15 [] []))) [(.t 34), (.k (.c (.int .u32 536870912)))], none, true, []⟩,
 ⟨some 36, .bin .add (.t 32) (.t 35), none, true, []⟩,
 ⟨some 9, .mv (.t 36), none, true, []⟩]
def C9r9 : List AOper := [⟨some 37, .mv (.t 8), none, true, []⟩,
 ⟨some 10, .mv (.t 37), none, true, []⟩]
def C9r10 : List AOper := [⟨some 38, .faddr (.t 1) 12, none, true, []⟩,
 ⟨some 39, .ld1 (.t 38), none, true, []⟩]
def C9r11 : List AOper := [⟨some 10, .mv (.k (.c (.int .u32 3))), none, true, []⟩]
def C9r12 : List AOper := [⟨some 40, .faddr (.t 1) 0, none, true, []⟩,
 ⟨some 41, .ld1 (.t 40), none, true, []⟩]
def C9r13 : List AOper := [⟨some 43, .bin .eql (.t 41) (.k (.c (.int .i64 1))), none, true, []⟩,
 ⟨some 42, .mv (.t 43), none, true, []⟩]
def C9r14 : List AOper := [⟨some 44, .mv (.t 9), none, false, []⟩,
 ⟨some 45, .bin .add (.k (.c (.int .u32 2432696320))) (.t 44), none, false, []⟩,
 ⟨some 46, .faddr (.t 1) 8, none, false, []⟩,
 ⟨some 47, .ld1 (.t 46), none, false, []⟩,
 ⟨some 48, .bin .eql (.t 47) (.k (.c (.int .i64 12))), none, false, []⟩,
 ⟨some 49, .call (.k (.c (.fn 15 [] []))) [(.t 48), (.k (.c (.int .u32 4194304)))], none, false, []⟩,
 ⟨some 50, .bin .add (.t 45) (.t 49), none, false, []⟩,
 ⟨some 51, .faddr (.t 1) 6, none, false, []⟩,
 ⟨some 52, .ld1 (.t 51), none, false, []⟩,
 ⟨some 53, .call (.k (.c (.fn 14 [] []))) [(.t 52), (.k (.c (.int .i64 12)))], none, false, []⟩,
 ⟨some 54, .bin .shl (.t 53) (.k (.c (.int .u64 10))), none, false, []⟩,
 ⟨some 55, .bin .add (.t 50) (.t 54), none, false, []⟩,
 ⟨some 56, .mv (.t 6), none, false, []⟩,
 ⟨some 57, .bin .add (.t 55) (.t 56), none, false, []⟩,
 ⟨some 58, .mv (.t 5), none, false, []⟩,
 ⟨some 59, .bin .add (.t 57) (.t 58), none, true, []⟩,
 ⟨some 2, .mv (.t 59), none, true, []⟩,
 ⟨some 3, .mv (.k (.c (.bool true))), none, true, []⟩]
def C9r15 : List AOper := [⟨some 61, .bin .eql (.t 41) (.k (.c (.int .i64 2))), none, true, []⟩,
 ⟨some 60, .mv (.t 61), none, true, []⟩]
def C9r16 : List AOper := [⟨some 62, .mv (.t 9), none, false, []⟩,
 ⟨some 63, .bin .add (.k (.c (.int .u32 2332033024))) (.t 62), none, false, []⟩,
 ⟨some 64, .faddr (.t 1) 9, none, false, []⟩,
 ⟨some 65, .ld1 (.t 64), none, false, []⟩,
 ⟨some 66, .conv .u32 (.t 65), none, false, []⟩,
 ⟨some 67, .bin .shl (.t 66) (.k (.c (.int .u64 22))), none, false, []⟩,
 ⟨some 68, .bin .add (.t 63) (.t 67), none, false, []⟩,
 ⟨some 69, .mv (.t 7), none, false, []⟩,
 ⟨some 70, .bin .add (.t 68) (.t 69), none, false, []⟩,
 ⟨some 71, .faddr (.t 1) 8, none, false, []⟩,
 ⟨some 72, .ld1 (.t 71), none, false, []⟩,
 ⟨some 73, .call (.k (.c (.fn 14 [] []))) [(.t 72), (.k (.c (.int .i64 6)))], none, false, []⟩,
 ⟨some 74, .bin .shl (.t 73) (.k (.c (.int .u64 10))), none, false, []⟩,
 ⟨some 75, .bin .add (.t 70) (.t 74), none, false, []⟩,
 ⟨some 76, .mv (.t 6), none, false, []⟩,
 ⟨some 77, .bin .add (.t 75) (.t 76), none, false, []⟩,
 ⟨some 78, .mv (.t 5), none, false, []⟩,
 ⟨some 79, .bin .add (.t 77) (.t 78), none, true, []⟩,
 ⟨some 2, .mv (.t 79), none, true, []⟩,
 ⟨some 3, .mv (.k (.c (.bool true))), none, true, []⟩]
def C9r17 : List AOper := [⟨some 81, .bin .eql (.t 41) (.k (.c (.int .i64 3))), none, true, []⟩,
 ⟨some 80, .mv (.t 81), none, true, []⟩]
def C9r18 : List AOper := [⟨some 82, .mv (.t 10), none, false, []⟩,
 ⟨some 83, .bin .shl (.t 82) (.k (.c (.int .u64 29))), none, false, []⟩,
 ⟨some 84, .bin .add (.k (.c (.int .u32 2315255808))) (.t 83), none, false, []⟩,
 ⟨some 85, .faddr (.t 1) 9, none, false, []⟩,
 ⟨some 86, .ld1 (.t 85), none, false, []⟩,
 ⟨some 87, .conv .u32 (.t 86), none, false, []⟩,
 ⟨some 88, .bin .shl (.t 87) (.k (.c (.int .u64 22))), none, false, []⟩,
 ⟨some 89, .bin .add (.t 84) (.t 88), none, false, []⟩,
 ⟨some 90, .faddr (.t 1) 14, none, false, []⟩,
 ⟨some 91, .ld1 (.t 90), none, false, []⟩,
 ⟨some 92, .call (.k (.c (.fn 15 [] []))) [(.t 91), (.k (.c (.int .u32 2097152)))], none, false, []⟩,
 ⟨some 93, .bin .add (.t 89) (.t 92), none, false, []⟩,
 ⟨some 94, .mv (.t 7), none, false, []⟩,
 ⟨some 95, .bin .add (.t 93) (.t 94), none, false, []⟩,
 ⟨some 96, .faddr (.t 1) 8, none, false, []⟩,
 ⟨some 97, .ld1 (.t 96), none, false, []⟩,
 ⟨some 98, .call (.k (.c (.fn 14 [] []))) [(.t 97), (.k (.c (.int .i64 6)))], none, false, []⟩,
 ⟨some 99, .bin .shl (.t 98) (.k (.c (.int .u64 10))), none, false, []⟩,
 ⟨some 100, .bin .add (.t 95) (.t 99), none, false, []⟩,
 ⟨some 101, .mv (.t 6), none, false, []⟩,
 ⟨some 102, .bin .add (.t 100) (.t 101), none, false, []⟩,
 ⟨some 103, .mv (.t 5), none, false, []⟩,
 ⟨some 104, .bin .add (.t 102) (.t 103), none, true, []⟩,
 ⟨some 2, .mv (.t 104), none, true, []⟩,
 ⟨some 3, .mv (.k (.c (.bool true))), none, true, []⟩]
def C9r19 : List AOper := [⟨some 106, .bin .eql (.t 41) (.k (.c (.int .i64 4))), none, true, []⟩,
 ⟨some 105, .mv (.t 106), none, true, []⟩]
def C9r20 : List AOper := [⟨some 107, .mv (.t 10), none, false, []⟩,
 ⟨some 108, .bin .shl (.t 107) (.k (.c (.int .u64 29))), none, false, []⟩,
 ⟨some 109, .bin .add (.k (.c (.int .u32 2449473536))) (.t 108), none, false, []⟩,
 ⟨some 110, .faddr (.t 1) 8, none, false, []⟩,
 ⟨some 111, .ld1 (.t 110), none, false, []⟩,
 ⟨some 112, .call (.k (.c (.fn 14 [] []))) [(.t 111), (.k (.c (.int .i64 1)))], none, false, []⟩,
 ⟨some 113, .bin .shl (.t 112) (.k (.c (.int .u64 22))), none, false, []⟩,
 ⟨some 114, .bin .add (.t 109) (.t 113), none, false, []⟩,
 ⟨some 115, .faddr (.t 1) 6, none, false, []⟩,
 ⟨some 116, .ld1 (.t 115), none, false, []⟩,
 ⟨some 117, .call (.k (.c (.fn 14 [] []))) [(.t 116), (.k (.c (.int .i64 6)))], none, false, []⟩,
 ⟨some 118, .bin .shl (.t 117) (.k (.c (.int .u64 16))), none, false, []⟩,
 ⟨some 119, .bin .add (.t 114) (.t 118), none, false, []⟩,
 ⟨some 120, .faddr (.t 1) 7, none, false, []⟩,
 ⟨some 121, .ld1 (.t 120), none, false, []⟩,
 ⟨some 122, .call (.k (.c (.fn 14 [] []))) [(.t 121), (.k (.c (.int .i64 6)))], none, false, []⟩,
 ⟨some 123, .bin .shl (.t 122) (.k (.c (.int .u64 10))), none, false, []⟩,
 ⟨some 124, .bin .add (.t 119) (.t 123), none, false, []⟩,
 ⟨some 125, .mv (.t 6), none, false, []⟩,
 ⟨some 126, .bin .add (.t 124) (.t 125), none, false, []⟩,
 ⟨some 127, .mv (.t 5), none, false, []⟩,
 ⟨some 128, .bin .add (.t 126) (.t 127), none, true, []⟩,
 ⟨some 2, .mv (.t 128), none, true, []⟩,
 ⟨some 3, .mv (.k (.c (.bool true))), none, true, []⟩]
def C9r21 : List AOper := [⟨some 130, .bin .eql (.t 41) (.k (.c (.int .i64 5))), none, true, []⟩,
 ⟨some 129, .mv (.t 130), none, true, []⟩]
def C9r22 : List AOper := [⟨some 131, .mv (.t 8), none, false, []⟩,
 ⟨some 132, .bin .shl (.t 131) (.k (.c (.int .u64 29))), none, false, []⟩,
 ⟨some 133, .bin .add (.k (.c (.int .u32 2457862144))) (.t 132), none, false, []⟩,
 ⟨some 134, .faddr (.t 1) 8, none, false, []⟩,
 ⟨some 135, .ld1 (.t 134), none, false, []⟩,
 ⟨some 136, .bin .quo (.t 135) (.k (.c (.int .i64 16))), none, false, []⟩,
 ⟨some 137, .conv .u32 (.t 136), none, false, []⟩,
 ⟨some 138, .bin .shl (.t 137) (.k (.c (.int .u64 21))), none, false, []⟩,
 ⟨some 139, .bin .add (.t 133) (.t 138), none, false, []⟩,
 ⟨some 140, .faddr (.t 1) 6, none, false, []⟩,
 ⟨some 141, .ld1 (.t 140), none, false, []⟩,
 ⟨some 142, .call (.k (.c (.fn 14 [] []))) [(.t 141), (.k (.c (.int .i64 16)))], none, false, []⟩,
 ⟨some 143, .bin .shl (.t 142) (.k (.c (.int .u64 5))), none, false, []⟩,
 ⟨some 144, .bin .add (.t 139) (.t 143), none, false, []⟩,
 ⟨some 145, .mv (.t 5), none, false, []⟩,
 ⟨some 146, .bin .add (.t 144) (.t 145), none, true, []⟩,
 ⟨some 2, .mv (.t 146), none, true, []⟩,
 ⟨some 3, .mv (.k (.c (.bool true))), none, true, []⟩]
def C9r23 : List AOper := [⟨some 148, .bin .eql (.t 41) (.k (.c (.int .i64 6))), none, true, []⟩,
 ⟨some 147, .mv (.t 148), none, true, []⟩]
def C9r24 : List AOper := [⟨some 149, .mv (.t 8), none, false, []⟩,
 ⟨some 150, .bin .shl (.t 149) (.k (.c (.int .u64 29))), none, false, []⟩,
 ⟨some 151, .bin .add (.k (.c (.int .u32 2470445056))) (.t 150), none, false, []⟩,
 ⟨some 152, .faddr (.t 1) 6, none, false, []⟩,
 ⟨some 153, .ld1 (.t 152), none, false, []⟩,
 ⟨some 154, .call (.k (.c (.fn 14 [] []))) [(.t 153), (.k (.c (.int .i64 6)))], none, false, []⟩,
 ⟨some 155, .bin .shl (.t 154) (.k (.c (.int .u64 16))), none, false, []⟩,
 ⟨some 156, .bin .add (.t 151) (.t 155), none, false, []⟩,
 ⟨some 157, .faddr (.t 1) 7, none, false, []⟩,
 ⟨some 158, .ld1 (.t 157), none, false, []⟩,
 ⟨some 159, .call (.k (.c (.fn 14 [] []))) [(.t 158), (.k (.c (.int .i64 6)))], none, false, []⟩,
 ⟨some 160, .bin .shl (.t 159) (.k (.c (.int .u64 10))), none, false, []⟩,
 ⟨some 161, .bin .add (.t 156) (.t 160), none, false, []⟩,
 ⟨some 162, .mv (.t 6), none, false, []⟩,
 ⟨some 163, .bin .add (.t 161) (.t 162), none, false, []⟩,
 ⟨some 164, .mv (.t 5), none, false, []⟩,
 ⟨some 165, .bin .add (.t 163) (.t 164), none, true, []⟩,
 ⟨some 2, .mv (.t 165), none, true, []⟩,
 ⟨some 3, .mv (.k (.c (.bool true))), none, true, []⟩]
def C9r25 : List AOper := [⟨some 167, .bin .eql (.t 41) (.k (.c (.int .i64 7))), none, true, []⟩,
 ⟨some 166, .mv (.t 167), none, true, []⟩]
def C9r26 : List AOper := [⟨some 168, .mv (.t 8), none, true, []⟩,
 ⟨some 169, .bin .shl (.t 168) (.k (.c (.int .u64 10))), none, true, []⟩,
 ⟨some 170, .bin .add (.k (.c (.int .u32 2596282368))) (.t 169), none, true, []⟩,
 ⟨some 171, .mv (.t 7), none, true, []⟩,
 ⟨some 172, .bin .add (.t 170) (.t 171), none, true, []⟩,
 ⟨some 173, .mv (.t 6), none, true, []⟩,
 ⟨some 174, .bin .add (.t 172) (.t 173), none, true, []⟩,
 ⟨some 175, .mv (.t 5), none, true, []⟩,
 ⟨some 176, .bin .add (.t 174) (.t 175), none, true, []⟩,
 ⟨some 2, .mv (.t 176), none, true, []⟩,
 ⟨some 3, .mv (.k (.c (.bool true))), none, true, []⟩]
def C9r27 : List AOper := [⟨some 178, .bin .eql (.t 41) (.k (.c (.int .i64 8))), none, true, []⟩,
 ⟨some 177, .mv (.t 178), none, true, []⟩]
def C9r28 : List AOper := [⟨some 179, .faddr (.t 1) 13, none, false, []⟩,
 ⟨some 180, .ld1 (.t 179), none, false, []⟩,
 ⟨some 181, .call (.k (.c (.fn 15 [] []))) [(.t 180), (.k (.c (.int .u32 32768)))], none, false, []⟩,
 ⟨some 182, .bin .add (.k (.c (.int .u32 2600468480))) (.t 181), none, false, []⟩,
 ⟨some 183, .mv (.t 7), none, false, []⟩,
 ⟨some 184, .bin .add (.t 182) (.t 183), none, false, []⟩,
 ⟨some 185, .faddr (.t 1) 5, none, false, []⟩,
 ⟨some 186, .ld1 (.t 185), none, false, []⟩,
 ⟨some 187, .call (.k (.c (.fn 14 [] []))) [(.t 186), (.k (.c (.int .i64 5)))], none, false, []⟩,
 ⟨some 188, .bin .shl (.t 187) (.k (.c (.int .u64 10))), none, false, []⟩,
 ⟨some 189, .bin .add (.t 184) (.t 188), none, false, []⟩,
 ⟨some 190, .mv (.t 6), none, false, []⟩,
 ⟨some 191, .bin .add (.t 189) (.t 190), none, false, []⟩,
 ⟨some 192, .mv (.t 5), none, false, []⟩,
 ⟨some 193, .bin .add (.t 191) (.t 192), none, true, []⟩,
 ⟨some 2, .mv (.t 193), none, true, []⟩,
 ⟨some 3, .mv (.k (.c (.bool true))), none, true, []⟩]
def C9r29 : List AOper := [⟨some 195, .bin .eql (.t 41) (.k (.c (.int .i64 9))), none, true, []⟩,
 ⟨some 194, .mv (.t 195), none, true, []⟩]
def C9r30 : List AOper := [⟨some 196, .mv (.t 8), none, true, []⟩,
 ⟨some 197, .bin .shl (.t 196) (.k (.c (.int .u64 10))), none, true, []⟩,
 ⟨some 198, .bin .add (.k (.c (.int .u32 2596276224))) (.t 197), none, true, []⟩,
 ⟨some 199, .mv (.t 7), none, true, []⟩,
 ⟨some 200, .bin .add (.t 198) (.t 199), none, true, []⟩,
 ⟨some 201, .mv (.t 6), none, true, []⟩,
 ⟨some 202, .bin .add (.t 200) (.t 201), none, true, []⟩,
 ⟨some 203, .mv (.t 5), none, true, []⟩,
 ⟨some 204, .bin .add (.t 202) (.t 203), none, true, []⟩,
 ⟨some 2, .mv (.t 204), none, true, []⟩,
 ⟨some 3, .mv (.k (.c (.bool true))), none, true, []⟩]
def C9r31 : List AOper := [⟨some 206, .bin .eql (.t 41) (.k (.c (.int .i64 10))), none, true, []⟩,
 ⟨some 205, .mv (.t 206), none, true, []⟩]
def C9r32 : List AOper := [⟨some 207, .mv (.t 8), none, true, []⟩,
 ⟨some 208, .bin .quo (.t 207) (.k (.c (.int .u32 2))), none, true, []⟩,
 ⟨some 209, .bin .shl (.t 208) (.k (.c (.int .u64 30))), none, true, []⟩,
 ⟨some 210, .bin .add (.k (.c (.int .u32 2592079872))) (.t 209), none, true, []⟩,
 ⟨some 211, .mv (.t 8), none, true, []⟩,
 ⟨some 212, .bin .rem (.t 211) (.k (.c (.int .u32 2))), none, true, []⟩,
 ⟨some 213, .bin .shl (.t 212) (.k (.c (.int .u64 10))), none, true, []⟩,
 ⟨some 214, .bin .add (.t 210) (.t 213), none, true, []⟩,
 ⟨some 215, .mv (.t 7), none, true, []⟩,
 ⟨some 216, .bin .add (.t 214) (.t 215), none, true, []⟩,
 ⟨some 217, .faddr (.t 1) 10, none, true, []⟩,
 ⟨some 218, .ld1 (.t 217), none, true, []⟩,
 ⟨some 219, .call (.k (.c (.fn 14 [] []))) [(.t 218), (.k (.c (.int .i64 4)))], none, true, []⟩,
 ⟨some 220, .bin .shl (.t 219) (.k (.c (.int .u64 12))), none, true, []⟩,
 ⟨some 221, .bin .add (.t 216) (.t 220), none, true, []⟩,
 ⟨some 222, .mv (.t 6), none, true, []⟩,
 ⟨some 223, .bin .add (.t 221) (.t 222), none, true, []⟩,
 ⟨some 224, .mv (.t 5), none, true, []⟩,
 ⟨some 225, .bin .add (.t 223) (.t 224), none, true, []⟩,
 ⟨some 2, .mv (.t 225), none, true, []⟩,
 ⟨some 3, .mv (.k (.c (.bool true))), none, true, []⟩]
def C9r33 : List AOper := [⟨some 227, .bin .eql (.t 41) (.k (.c (.int .i64 11))), none, true, []⟩,
 ⟨some 226, .mv (.t 227), none, true, []⟩]
def C9r34 : List AOper := [⟨some 228, .faddr (.t 1) 6, none, true, []⟩,
 ⟨some 229, .ld1 (.t 228), none, true, []⟩,
 ⟨some 230, .call (.k (.c (.fn 14 [] []))) [(.t 229), (.k (.c (.int .i64 21)))], none, true, []⟩,
 ⟨some 11, .mv (.t 230), none, true, []⟩]
def C9r35 : List AOper := [⟨some 231, .faddr (.t 1) 1, none, true, []⟩,
 ⟨some 232, .ld1 (.t 231), none, true, []⟩,
 ⟨some 233, .bin .eql (.t 232) (.k (.c (.int .i64 1))), none, true, []⟩]
def C9r36 : List AOper := [⟨some 234, .faddr (.t 1) 6, none, true, []⟩,
 ⟨some 235, .ld1 (.t 234), none, true, []⟩,
 ⟨some 236, .bin .quo (.t 235) (.k (.c (.int .i64 4096))), none, true, []⟩,
 ⟨some 237, .call (.k (.c (.fn 14 [] []))) [(.t 236), (.k (.c (.int .i64 21)))], none, true, []⟩,
 ⟨some 11, .mv (.t 237), none, true, []⟩]
def C9r37 : List AOper := [⟨some 238, .mv (.t 8), none, true, []⟩,
 ⟨some 239, .bin .shl (.t 238) (.k (.c (.int .u64 31))), none, true, []⟩,
 ⟨some 240, .bin .add (.k (.c (.int .u32 268435456))) (.t 239), none, true, []⟩,
 ⟨some 241, .mv (.t 11), none, true, []⟩,
 ⟨some 242, .bin .rem (.t 241) (.k (.c (.int .u32 4))), none, true, []⟩,
 ⟨some 243, .bin .shl (.t 242) (.k (.c (.int .u64 29))), none, true, []⟩,
 ⟨some 244, .bin .add (.t 240) (.t 243), none, true, []⟩,
 ⟨some 245, .mv (.t 11), none, true, []⟩,
 ⟨some 246, .bin .quo (.t 245) (.k (.c (.int .u32 4))), none, true, []⟩,
 ⟨some 247, .bin .shl (.t 246) (.k (.c (.int .u64 5))), none, true, []⟩,
 ⟨some 248, .bin .add (.t 244) (.t 247), none, true, []⟩,
 ⟨some 249, .mv (.t 5), none, true, []⟩,
 ⟨some 250, .bin .add (.t 248) (.t 249), none, true, []⟩,
 ⟨some 2, .mv (.t 250), none, true, []⟩,
 ⟨some 3, .mv (.k (.c (.bool true))), none, true, []⟩]
def C9r38 : List AOper := [⟨some 252, .bin .eql (.t 41) (.k (.c (.int .i64 12))), none, true, []⟩,
 ⟨some 251, .mv (.t 252), none, true, []⟩]
def C9r39 : List AOper := [⟨some 253, .faddr (.t 1) 15, none, false, []⟩,
 ⟨some 254, .ld1 (.t 253), none, false, []⟩,
 ⟨some 255, .call (.k (.c (.fn 15 [] []))) [(.t 254), (.k (.c (.int .u32 2147483648)))], none, false, []⟩,
 ⟨some 256, .bin .add (.k (.c (.int .u32 335544320))) (.t 255), none, false, []⟩,
 ⟨some 257, .faddr (.t 1) 6, none, false, []⟩,
 ⟨some 258, .ld1 (.t 257), none, false, []⟩,
 ⟨some 259, .bin .quo (.t 258) (.k (.c (.int .i64 4))), none, false, []⟩,
 ⟨some 260, .call (.k (.c (.fn 14 [] []))) [(.t 259), (.k (.c (.int .i64 26)))], none, false, []⟩,
 ⟨some 261, .bin .add (.t 256) (.t 260), none, true, []⟩,
 ⟨some 2, .mv (.t 261), none, true, []⟩,
 ⟨some 3, .mv (.k (.c (.bool true))), none, true, []⟩]
def C9r40 : List AOper := [⟨some 263, .bin .eql (.t 41) (.k (.c (.int .i64 13))), none, true, []⟩,
 ⟨some 262, .mv (.t 263), none, true, []⟩]
def C9r41 : List AOper := [⟨some 264, .faddr (.t 1) 6, none, false, []⟩,
 ⟨some 265, .ld1 (.t 264), none, false, []⟩,
 ⟨some 266, .bin .quo (.t 265) (.k (.c (.int .i64 4))), none, false, []⟩,
 ⟨some 267, .call (.k (.c (.fn 14 [] []))) [(.t 266), (.k (.c (.int .i64 19)))], none, false, []⟩,
 ⟨some 268, .bin .shl (.t 267) (.k (.c (.int .u64 5))), none, false, []⟩,
 ⟨some 269, .bin .add (.k (.c (.int .u32 1409286144))) (.t 268), none, false, []⟩,
 ⟨some 270, .faddr (.t 1) 10, none, false, []⟩,
 ⟨some 271, .ld1 (.t 270), none, false, []⟩,
 ⟨some 272, .call (.k (.c (.fn 14 [] []))) [(.t 271), (.k (.c (.int .i64 4)))], none, false, []⟩,
 ⟨some 273, .bin .add (.t 269) (.t 272), none, true, []⟩,
 ⟨some 2, .mv (.t 273), none, true, []⟩,
 ⟨some 3, .mv (.k (.c (.bool true))), none, true, []⟩]
def C9r42 : List AOper := [⟨some 275, .bin .eql (.t 41) (.k (.c (.int .i64 14))), none, true, []⟩,
 ⟨some 274, .mv (.t 275), none, true, []⟩]
def C9r43 : List AOper := [⟨some 276, .faddr (.t 1) 14, none, false, []⟩,
 ⟨some 277, .ld1 (.t 276), none, false, []⟩,
 ⟨some 278, .call (.k (.c (.fn 15 [] []))) [(.t 277), (.k (.c (.int .u32 16777216)))], none, false, []⟩,
 ⟨some 279, .bin .add (.k (.c (.int .u32 3019898880))) (.t 278), none, false, []⟩,
 ⟨some 280, .faddr (.t 1) 6, none, false, []⟩,
 ⟨some 281, .ld1 (.t 280), none, false, []⟩,
 ⟨some 282, .bin .quo (.t 281) (.k (.c (.int .i64 4))), none, false, []⟩,
 ⟨some 283, .call (.k (.c (.fn 14 [] []))) [(.t 282), (.k (.c (.int .i64 19)))], none, false, []⟩,
 ⟨some 284, .bin .shl (.t 283) (.k (.c (.int .u64 5))), none, false, []⟩,
 ⟨some 285, .bin .add (.t 279) (.t 284), none, false, []⟩,
 ⟨some 286, .mv (.t 5), none, false, []⟩,
 ⟨some 287, .bin .add (.t 285) (.t 286), none, true, []⟩,
 ⟨some 2, .mv (.t 287), none, true, []⟩,
 ⟨some 3, .mv (.k (.c (.bool true))), none, true, []⟩]
def C9r44 : List AOper := [⟨some 289, .bin .eql (.t 41) (.k (.c (.int .i64 15))), none, true, []⟩,
 ⟨some 288, .mv (.t 289), none, true, []⟩]
def C9r45 : List AOper := [⟨some 290, .faddr (.t 1) 14, none, false, []⟩,
 ⟨some 291, .ld1 (.t 290), none, false, []⟩,
 ⟨some 292, .call (.k (.c (.fn 15 [] []))) [(.t 291), (.k (.c (.int .u32 16777216)))], none, false, []⟩,
 ⟨some 293, .bin .add (.k (.c (.int .u32 905969664))) (.t 292), none, false, []⟩,
 ⟨some 294, .faddr (.t 1) 8, none, false, []⟩,
 ⟨some 295, .ld1 (.t 294), none, false, []⟩,
 ⟨some 296, .bin .quo (.t 295) (.k (.c (.int .i64 32))), none, false, []⟩,
 ⟨some 297, .conv .u32 (.t 296), none, false, []⟩,
 ⟨some 298, .bin .shl (.t 297) (.k (.c (.int .u64 31))), none, false, []⟩,
 ⟨some 299, .bin .add (.t 293) (.t 298), none, false, []⟩,
 ⟨some 300, .faddr (.t 1) 8, none, false, []⟩,
 ⟨some 301, .ld1 (.t 300), none, false, []⟩,
 ⟨some 302, .bin .rem (.t 301) (.k (.c (.int .i64 32))), none, false, []⟩,
 ⟨some 303, .conv .u32 (.t 302), none, false, []⟩,
 ⟨some 304, .bin .shl (.t 303) (.k (.c (.int .u64 19))), none, false, []⟩,
 ⟨some 305, .bin .add (.t 299) (.t 304), none, false, []⟩,
 ⟨some 306, .faddr (.t 1) 6, none, false, []⟩,
 ⟨some 307, .ld1 (.t 306), none, false, []⟩,
 ⟨some 308, .bin .quo (.t 307) (.k (.c (.int .i64 4))), none, false, []⟩,
 ⟨some 309, .call (.k (.c (.fn 14 [] []))) [(.t 308), (.k (.c (.int .i64 14)))], none, false, []⟩,
 ⟨some 310, .bin .shl (.t 309) (.k (.c (.int .u64 5))), none, false, []⟩,
 ⟨some 311, .bin .add (.t 305) (.t 310), none, false, []⟩,
 ⟨some 312, .mv (.t 5), none, false, []⟩,
 ⟨some 313, .bin .add (.t 311) (.t 312), none, true, []⟩,
 ⟨some 2, .mv (.t 313), none, true, []⟩,
 ⟨some 3, .mv (.k (.c (.bool true))), none, true, []⟩]
def C9r46 : List AOper := [⟨some 315, .bin .eql (.t 41) (.k (.c (.int .i64 16))), none, true, []⟩,
 ⟨some 314, .mv (.t 315), none, true, []⟩]
def C9r47 : List AOper := [⟨some 316, .mv (.t 8), none, true, []⟩,
 ⟨some 317, .bin .shl (.t 316) (.k (.c (.int .u64 21))), none, true, []⟩,
 ⟨some 318, .bin .add (.k (.c (.int .u32 3592355840))) (.t 317), none, true, []⟩,
 ⟨some 319, .mv (.t 6), none, true, []⟩,
 ⟨some 320, .bin .add (.t 318) (.t 319), none, true, []⟩,
 ⟨some 2, .mv (.t 320), none, true, []⟩,
 ⟨some 3, .mv (.k (.c (.bool true))), none, true, []⟩]
def C9r48 : List AOper := [⟨some 321, .ldn 16 (.t 1), none, true, []⟩,
 ⟨some 322, .mv (.t 5), none, true, []⟩,
 ⟨some 323, .mv (.t 6), none, true, []⟩,
 ⟨some 324, .mv (.t 7), none, true, []⟩,
 ⟨some 325, .mv (.t 8), none, true, []⟩,
 ⟨some 326, .call (.k (.c (.fn 16 [] []))) [(.t 321), (.t 322), (.t 323), (.t 324), (.t 325)], none, true, []⟩,
 ⟨some 327, .ext (.t 326) 0, none, true, []⟩,
 ⟨some 328, .ext (.t 326) 1, none, true, []⟩,
 ⟨some 2, .mv (.t 327), none, true, []⟩,
 ⟨some 3, .mv (.t 328), none, true, []⟩]
def C9 : ACode :=
 .seq (.region C9r0)
 (.seq (.region C9r1)
 (.seq (.seq (.region C9r2)
 (.cond (.t 15)
 (.seq (.region C9r3)
 (.ret))
 (.skip)))
 (.seq (.region C9r4)
 (.seq (.region C9r5)
 (.seq (.region C9r6)
 (.seq (.region C9r7)
 (.seq (.region C9r8)
 (.seq (.region C9r9)
 (.seq (.seq (.region C9r10)
 (.cond (.t 39)
 (.region C9r11)
 (.skip)))
 (.seq (.seq (.region C9r12)
 (.block 0
 (.seq (.region C9r13)
 (.cond (.t 42)
 (.seq (.region C9r14)
 (.ret))
 (.seq (.region C9r15)
 (.cond (.t 60)
 (.seq (.region C9r16)
 (.ret))
 (.seq (.region C9r17)
 (.cond (.t 80)
 (.seq (.region C9r18)
 (.ret))
 (.seq (.region C9r19)
 (.cond (.t 105)
 (.seq (.region C9r20)
 (.ret))
 (.seq (.region C9r21)
 (.cond (.t 129)
 (.seq (.region C9r22)
 (.ret))
 (.seq (.region C9r23)
 (.cond (.t 147)
 (.seq (.region C9r24)
 (.ret))
 (.seq (.region C9r25)
 (.cond (.t 166)
 (.seq (.region C9r26)
 (.ret))
 (.seq (.region C9r27)
 (.cond (.t 177)
 (.seq (.region C9r28)
 (.ret))
 (.seq (.region C9r29)
 (.cond (.t 194)
 (.seq (.region C9r30)
 (.ret))
 (.seq (.region C9r31)
 (.cond (.t 205)
 (.seq (.region C9r32)
 (.ret))
 (.seq (.region C9r33)
 (.cond (.t 226)
 (.seq (.region C9r34)
 (.seq (.seq (.region C9r35)
 (.cond (.t 233)
 (.region C9r36)
 (.skip)))
 (.seq (.region C9r37)
 (.ret))))
 (.seq (.region C9r38)
 (.cond (.t 251)
 (.seq (.region C9r39)
 (.ret))
 (.seq (.region C9r40)
 (.cond (.t 262)
 (.seq (.region C9r41)
 (.ret))
 (.seq (.region C9r42)
 (.cond (.t 274)
 (.seq (.region C9r43)
 (.ret))
 (.seq (.region C9r44)
 (.cond (.t 288)
 (.seq (.region C9r45)
 (.ret))
 (.seq (.region C9r46)
 (.cond (.t 314)
 (.seq (.region C9r47)
 (.ret))
 (.skip)))))))))))))))))))))))))))))))))))
 (.seq (.region C9r48)
 (.ret))))))))))))
theorem C9_ok : stripF Tryz.prog Tryz.f9 = some C9 := by kernel_rfl
def C13r0 : List AOper := [⟨some 1, .box 23 (.t 0), none, true, []⟩,
 ⟨some 2, .mv (.k (.c (.bool false))), none, true, []⟩]
def C13r1 : List AOper := [⟨some 6, .ldn 16 (.t 1), none, true, []⟩,
 ⟨some 7, .call (.k (.c (.fn 64 [] []))) [(.t 6)], none, true, []⟩,
 ⟨some 3, .mv (.t 7), none, true, []⟩]
def C13r2 : List AOper := [⟨some 8, .mv (.t 3), none, true, []⟩,
 ⟨some 9, .un .not (.t 8), none, true, []⟩]
def C13r3 : List AOper := [⟨some 2, .mv (.k (.c (.bool false))), none, true, []⟩]
def C13r4 : List AOper := [⟨some 10, .faddr (.t 1) 0, none, true, []⟩,
 ⟨some 11, .ld1 (.t 10), none, true, []⟩]
def C13r5 : List AOper := [⟨some 13, .bin .eql (.t 11) (.k (.c (.int .i64 1))), none, true, []⟩,
 ⟨some 12, .mv (.t 13), none, true, []⟩]
def C13r6 : List AOper := [⟨some 14, .faddr (.t 1) 6, none, true, []⟩,
 ⟨some 15, .ld1 (.t 14), none, true, []⟩,
 ⟨some 16, .call (.k (.c (.fn 65 [] []))) [(.t 15), (.k (.c (.int .i64 0))), (.k (.c (.int .i64 4095)))], none, true, []⟩,
 ⟨some 17, .mv (.t 16), none, true, []⟩,
 ⟨some 18, .faddr (.t 1) 8, some (17, true), true, []⟩,
 ⟨some 19, .ld1 (.t 18), some (17, true), true, []⟩,
 ⟨some 20, .bin .eql (.t 19) (.k (.c (.int .i64 0))), some (17, true), true, []⟩,
 ⟨some 21, .mv (.t 20), some (17, true), true, []⟩,
 ⟨some 22, .faddr (.t 1) 8, some (21, false), true, []⟩,
 ⟨some 23, .ld1 (.t 22), some (21, false), true, []⟩,
 ⟨some 24, .bin .eql (.t 23) (.k (.c (.int .i64 12))), some (21, false), true, []⟩,
 ⟨some 25, .pick 21 (.k (.c (.bool true))) (.t 24), some (17, true), true, []⟩,
 ⟨some 26, .pick 17 (.t 25) (.k (.c (.bool false))), none, true, []⟩,
 ⟨some 2, .mv (.t 26), none, true, []⟩]
def C13r7 : List AOper := [⟨some 28, .bin .eql (.t 11) (.k (.c (.int .i64 2))), none, true, []⟩,
 ⟨some 27, .mv (.t 28), none, true, []⟩]
def C13r8 : List AOper := [⟨some 29, .faddr (.t 1) 9, none, true, []⟩,
 ⟨some 30, .ld1 (.t 29), none, true, []⟩,
 ⟨some 31, .call (.k (.c (.fn 65 [] []))) [(.t 30), (.k (.c (.int .i64 0))), (.k (.c (.int .i64 2)))], none, true, []⟩,
 ⟨some 32, .mv (.t 31), none, true, []⟩,
 ⟨some 33, .faddr (.t 1) 8, some (32, true), true, []⟩,
 ⟨some 34, .ld1 (.t 33), some (32, true), true, []⟩,
 ⟨some 35, .call (.k (.c (.fn 65 [] []))) [(.t 34), (.k (.c (.int .i64 0))), (.k (.c (.int .i64 63)))], some (32, true), true, []⟩,
 ⟨some 36, .pick 32 (.t 35) (.k (.c (.bool false))), none, true, []⟩,
 ⟨some 2, .mv (.t 36), none, true, []⟩]
def C13r9 : List AOper := [⟨some 38, .bin .eql (.t 11) (.k (.c (.int .i64 3))), none, true, []⟩,
 ⟨some 37, .mv (.t 38), none, true, []⟩]
def C13r10 : List AOper := [⟨some 39, .faddr (.t 1) 1, none, true, []⟩,
 ⟨some 40, .ld1 (.t 39), none, true, []⟩,
 ⟨some 41, .call (.k (.c (.fn 65 [] []))) [(.t 40), (.k (.c (.int .i64 0))), (.k (.c (.int .i64 2)))], none, true, []⟩,
 ⟨some 42, .mv (.t 41), none, true, []⟩,
 ⟨some 43, .faddr (.t 1) 12, some (42, true), true, []⟩,
 ⟨some 44, .ld1 (.t 43), some (42, true), true, []⟩,
 ⟨some 45, .un .not (.t 44), some (42, true), true, []⟩,
 ⟨some 46, .mv (.t 45), some (42, true), true, []⟩,
 ⟨some 47, .faddr (.t 1) 1, some (46, false), true, []⟩,
 ⟨some 48, .ld1 (.t 47), some (46, false), true, []⟩,
 ⟨some 49, .bin .eql (.t 48) (.k (.c (.int .i64 0))), some (46, false), true, []⟩,
 ⟨some 50, .pick 46 (.k (.c (.bool true))) (.t 49), some (42, true), true, []⟩,
 ⟨some 51, .pick 42 (.t 50) (.k (.c (.bool false))), none, true, []⟩,
 ⟨some 52, .mv (.t 51), none, true, []⟩,
 ⟨some 53, .faddr (.t 1) 9, some (52, true), true, []⟩,
 ⟨some 54, .ld1 (.t 53), some (52, true), true, []⟩,
 ⟨some 55, .call (.k (.c (.fn 65 [] []))) [(.t 54), (.k (.c (.int .i64 0))), (.k (.c (.int .i64 3)))], some (52, true), true, []⟩,
 ⟨some 56, .pick 52 (.t 55) (.k (.c (.bool false))), none, true, []⟩,
 ⟨some 57, .mv (.t 56), none, true, []⟩,
 ⟨some 58, .faddr (.t 1) 8, some (57, true), true, []⟩,
 ⟨some 59, .ld1 (.t 58), some (57, true), true, []⟩,
 ⟨some 60, .call (.k (.c (.fn 65 [] []))) [(.t 59), (.k (.c (.int .i64 0))), (.k (.c (.int .i64 63)))], some (57, true), true, []⟩,
 ⟨some 61, .pick 57 (.t 60) (.k (.c (.bool false))), none, true, []⟩,
 ⟨some 2, .mv (.t 61), none, true, []⟩]
def C13r11 : List AOper := [⟨some 63, .bin .eql (.t 11) (.k (.c (.int .i64 4))), none, true, []⟩,
 ⟨some 62, .mv (.t 63), none, true, []⟩]
def C13r12 : List AOper := [⟨some 65, .faddr (.t 1) 8, none, true, []⟩,
 ⟨some 66, .ld1 (.t 65), none, true, []⟩,
 ⟨some 67, .faddr (.t 1) 6, none, true, []⟩,
 ⟨some 68, .ld1 (.t 67), none, true, []⟩,
 ⟨some 69, .faddr (.t 1) 7, none, true, []⟩,
 ⟨some 70, .ld1 (.t 69), none, true, []⟩,
 ⟨some 71, .call (.k (.c (.fn 66 [] []))) [(.t 66), (.t 68), (.t 70)], none, true, []⟩,
 ⟨some 64, .mv (.t 71), none, true, []⟩,
 ⟨some 72, .ext (.t 64) 0, none, true, []⟩,
 ⟨some 73, .ext (.t 64) 1, none, true, []⟩,
 ⟨some 4, .mv (.t 72), none, true, []⟩,
 ⟨some 5, .mv (.t 73), none, true, []⟩]
def C13r13 : List AOper := [⟨some 74, .faddr (.t 1) 1, none, true, []⟩,
 ⟨some 75, .ld1 (.t 74), none, true, []⟩,
 ⟨some 76, .call (.k (.c (.fn 65 [] []))) [(.t 75), (.k (.c (.int .i64 0))), (.k (.c (.int .i64 2)))], none, true, []⟩,
 ⟨some 77, .mv (.t 76), none, true, []⟩,
 ⟨some 78, .faddr (.t 1) 12, some (77, true), true, []⟩,
 ⟨some 79, .ld1 (.t 78), some (77, true), true, []⟩,
 ⟨some 80, .un .not (.t 79), some (77, true), true, []⟩,
 ⟨some 81, .mv (.t 80), some (77, true), true, []⟩,
 ⟨some 82, .faddr (.t 1) 1, some (81, false), true, []⟩,
 ⟨some 83, .ld1 (.t 82), some (81, false), true, []⟩,
 ⟨some 84, .bin .eql (.t 83) (.k (.c (.int .i64 0))), some (81, false), true, []⟩,
 ⟨some 85, .pick 81 (.k (.c (.bool true))) (.t 84), some (77, true), true, []⟩,
 ⟨some 86, .pick 77 (.t 85) (.k (.c (.bool false))), none, true, []⟩,
 ⟨some 87, .mv (.t 86), none, true, []⟩,
 ⟨some 88, .mv (.t 5), some (87, true), true, []⟩,
 ⟨some 89, .bin .eql (.t 88) (.k (.c (.int .i64 0))), some (87, true), true, []⟩,
 ⟨some 90, .pick 87 (.t 89) (.k (.c (.bool false))), none, true, []⟩,
 ⟨some 2, .mv (.t 90), none, true, []⟩]
def C13r14 : List AOper := [⟨some 92, .bin .eql (.t 11) (.k (.c (.int .i64 5))), none, true, []⟩,
 ⟨some 91, .mv (.t 92), none, true, []⟩]
def C13r15 : List AOper := [⟨some 93, .faddr (.t 1) 1, none, true, []⟩,
 ⟨some 94, .ld1 (.t 93), none, true, []⟩,
 ⟨some 95, .bin .eql (.t 94) (.k (.c (.int .i64 0))), none, true, []⟩,
 ⟨some 96, .mv (.t 95), none, true, []⟩,
 ⟨some 97, .faddr (.t 1) 1, some (96, false), true, []⟩,
 ⟨some 98, .ld1 (.t 97), some (96, false), true, []⟩,
 ⟨some 99, .bin .eql (.t 98) (.k (.c (.int .i64 2))), some (96, false), true, []⟩,
 ⟨some 100, .pick 96 (.k (.c (.bool true))) (.t 99), none, true, []⟩,
 ⟨some 101, .mv (.t 100), none, true, []⟩,
 ⟨some 102, .faddr (.t 1) 1, some (101, false), true, []⟩,
 ⟨some 103, .ld1 (.t 102), some (101, false), true, []⟩,
 ⟨some 104, .bin .eql (.t 103) (.k (.c (.int .i64 3))), some (101, false), true, []⟩,
 ⟨some 105, .pick 101 (.k (.c (.bool true))) (.t 104), none, true, []⟩,
 ⟨some 106, .mv (.t 105), none, true, []⟩,
 ⟨some 107, .faddr (.t 1) 6, some (106, true), true, []⟩,
 ⟨some 108, .ld1 (.t 107), some (106, true), true, []⟩,
 ⟨some 109, .call (.k (.c (.fn 65 [] []))) [(.t 108), (.k (.c (.int .i64 0))), (.k (.c (.int .i64 65535)))], some (106, true), true, []⟩,
 ⟨some 110, .pick 106 (.t 109) (.k (.c (.bool false))), none, true, []⟩,
 ⟨some 111, .mv (.t 110), none, true, []⟩,
 ⟨some 112, .faddr (.t 1) 8, some (111, true), true, []⟩,
 ⟨some 113, .ld1 (.t 112), some (111, true), true, []⟩,
 ⟨some 114, .call (.k (.c (.fn 67 [] []))) [(.t 113), (.k (.c (.int .i64 16))), (.k (.c (.int .i64 0))), (.k (.c (.int .i64 48)))], some (111, true), true, []⟩,
 ⟨some 115, .pick 111 (.t 114) (.k (.c (.bool false))), none, true, []⟩,
 ⟨some 2, .mv (.t 115), none, true, []⟩]
def C13r16 : List AOper := [⟨some 117, .bin .eql (.t 11) (.k (.c (.int .i64 6))), none, true, []⟩,
 ⟨some 116, .mv (.t 117), none, true, []⟩]
def C13r17 : List AOper := [⟨some 118, .faddr (.t 1) 1, none, true, []⟩,
 ⟨some 119, .ld1 (.t 118), none, true, []⟩,
 ⟨some 120, .bin .eql (.t 119) (.k (.c (.int .i64 0))), none, true, []⟩,
 ⟨some 121, .mv (.t 120), none, true, []⟩,
 ⟨some 122, .faddr (.t 1) 1, some (121, false), true, []⟩,
 ⟨some 123, .ld1 (.t 122), some (121, false), true, []⟩,
 ⟨some 124, .bin .eql (.t 123) (.k (.c (.int .i64 2))), some (121, false), true, []⟩,
 ⟨some 125, .pick 121 (.k (.c (.bool true))) (.t 124), none, true, []⟩,
 ⟨some 126, .mv (.t 125), none, true, []⟩,
 ⟨some 127, .faddr (.t 1) 6, some (126, true), true, []⟩,
 ⟨some 128, .ld1 (.t 127), some (126, true), true, []⟩,
 ⟨some 129, .call (.k (.c (.fn 65 [] []))) [(.t 128), (.k (.c (.int .i64 0))), (.k (.c (.int .i64 63)))], some (126, true), true, []⟩,
 ⟨some 130, .pick 126 (.t 129) (.k (.c (.bool false))), none, true, []⟩,
 ⟨some 131, .mv (.t 130), none, true, []⟩,
 ⟨some 132, .faddr (.t 1) 7, some (131, true), true, []⟩,
 ⟨some 133, .ld1 (.t 132), some (131, true), true, []⟩,
 ⟨some 134, .call (.k (.c (.fn 65 [] []))) [(.t 133), (.k (.c (.int .i64 0))), (.k (.c (.int .i64 63)))], some (131, true), true, []⟩,
 ⟨some 135, .pick 131 (.t 134) (.k (.c (.bool false))), none, true, []⟩,
 ⟨some 2, .mv (.t 135), none, true, []⟩]
def C13r18 : List AOper := [⟨some 137, .bin .eql (.t 11) (.k (.c (.int .i64 7))), none, true, []⟩,
 ⟨some 136, .mv (.t 137), none, true, []⟩]
def C13r19 : List AOper := [⟨some 138, .faddr (.t 1) 1, none, true, []⟩,
 ⟨some 139, .ld1 (.t 138), none, true, []⟩,
 ⟨some 140, .call (.k (.c (.fn 65 [] []))) [(.t 139), (.k (.c (.int .i64 0))), (.k (.c (.int .i64 3)))], none, true, []⟩,
 ⟨some 2, .mv (.t 140), none, true, []⟩]
def C13r20 : List AOper := [⟨some 142, .bin .eql (.t 11) (.k (.c (.int .i64 9))), none, true, []⟩,
 ⟨some 141, .mv (.t 142), none, true, []⟩]
def C13r21 : List AOper := [⟨some 143, .bin .eql (.t 11) (.k (.c (.int .i64 21))), none, true, []⟩,
 ⟨some 141, .mv (.t 143), none, true, []⟩]
def C13r22 : List AOper := [⟨some 144, .bin .eql (.t 11) (.k (.c (.int .i64 23))), none, true, []⟩,
 ⟨some 141, .mv (.t 144), none, true, []⟩]
def C13r23 : List AOper := [⟨some 145, .bin .eql (.t 11) (.k (.c (.int .i64 24))), none, true, []⟩,
 ⟨some 141, .mv (.t 145), none, true, []⟩]
def C13r24 : List AOper := [⟨some 146, .faddr (.t 1) 1, none, true, []⟩,
 ⟨some 147, .ld1 (.t 146), none, true, []⟩,
 ⟨some 148, .call (.k (.c (.fn 65 [] []))) [(.t 147), (.k (.c (.int .i64 0))), (.k (.c (.int .i64 1)))], none, true, []⟩,
 ⟨some 2, .mv (.t 148), none, true, []⟩]
def C13r25 : List AOper := [⟨some 150, .bin .eql (.t 11) (.k (.c (.int .i64 10))), none, true, []⟩,
 ⟨some 149, .mv (.t 150), none, true, []⟩]
def C13r26 : List AOper := [⟨some 151, .faddr (.t 1) 1, none, true, []⟩,
 ⟨some 152, .ld1 (.t 151), none, true, []⟩,
 ⟨some 153, .call (.k (.c (.fn 65 [] []))) [(.t 152), (.k (.c (.int .i64 0))), (.k (.c (.int .i64 3)))], none, true, []⟩,
 ⟨some 154, .mv (.t 153), none, true, []⟩,
 ⟨some 155, .faddr (.t 1) 10, some (154, true), true, []⟩,
 ⟨some 156, .ld1 (.t 155), some (154, true), true, []⟩,
 ⟨some 157, .call (.k (.c (.fn 65 [] []))) [(.t 156), (.k (.c (.int .i64 0))), (.k (.c (.int .i64 15)))], some (154, true), true, []⟩,
 ⟨some 158, .pick 154 (.t 157) (.k (.c (.bool false))), none, true, []⟩,
 ⟨some 2, .mv (.t 158), none, true, []⟩]
def C13r27 : List AOper := [⟨some 160, .bin .eql (.t 11) (.k (.c (.int .i64 11))), none, true, []⟩,
 ⟨some 159, .mv (.t 160), none, true, []⟩]
def C13r28 : List AOper := [⟨some 161, .faddr (.t 1) 1, none, true, []⟩,
 ⟨some 162, .ld1 (.t 161), none, true, []⟩,
 ⟨some 163, .bin .eql (.t 162) (.k (.c (.int .i64 0))), none, true, []⟩,
 ⟨some 164, .mv (.t 163), none, true, []⟩,
 ⟨some 165, .faddr (.t 1) 6, some (164, true), true, []⟩,
 ⟨some 166, .ld1 (.t 165), some (164, true), true, []⟩,
 ⟨some 167, .call (.k (.c (.fn 65 [] []))) [(.t 166), (.k (.c (.int .i64 (-1048576)))), (.k (.c (.int .i64 1048575)))], some (164, true), true, []⟩,
 ⟨some 168, .pick 164 (.t 167) (.k (.c (.bool false))), none, true, []⟩,
 ⟨some 169, .mv (.t 168), none, true, []⟩,
 ⟨some 170, .faddr (.t 1) 1, some (169, false), true, []⟩,
 ⟨some 171, .ld1 (.t 170), some (169, false), true, []⟩,
 ⟨some 172, .bin .eql (.t 171) (.k (.c (.int .i64 1))), some (169, false), true, []⟩,
 ⟨some 173, .mv (.t 172), some (169, false), true, []⟩,
 ⟨some 174, .faddr (.t 1) 6, some (173, true), true, []⟩,
 ⟨some 175, .ld1 (.t 174), some (173, true), true, []⟩,
 ⟨some 176, .call (.k (.c (.fn 67 [] []))) [(.t 175), (.k (.c (.int .i64 4096))), (.k (.c (.int .i64 (-4294967296)))), (.k (.c (.int .i64 4294963200)))], some (173, true), true, []⟩,
 ⟨some 177, .pick 173 (.t 176) (.k (.c (.bool false))), some (169, false), true, []⟩,
 ⟨some 178, .pick 169 (.k (.c (.bool true))) (.t 177), none, true, []⟩,
 ⟨some 2, .mv (.t 178), none, true, []⟩]
def C13r29 : List AOper := [⟨some 180, .bin .eql (.t 11) (.k (.c (.int .i64 12))), none, true, []⟩,
 ⟨some 179, .mv (.t 180), none, true, []⟩]
def C13r30 : List AOper := [⟨some 181, .faddr (.t 1) 6, none, true, []⟩,
 ⟨some 182, .ld1 (.t 181), none, true, []⟩,
 ⟨some 183, .call (.k (.c (.fn 67 [] []))) [(.t 182), (.k (.c (.int .i64 4))), (.k (.c (.int .i64 (-134217728)))), (.k (.c (.int .i64 134217724)))], none, true, []⟩,
 ⟨some 2, .mv (.t 183), none, true, []⟩]
def C13r31 : List AOper := [⟨some 185, .bin .eql (.t 11) (.k (.c (.int .i64 13))), none, true, []⟩,
 ⟨some 184, .mv (.t 185), none, true, []⟩]
def C13r32 : List AOper := [⟨some 186, .faddr (.t 1) 10, none, true, []⟩,
 ⟨some 187, .ld1 (.t 186), none, true, []⟩,
 ⟨some 188, .call (.k (.c (.fn 65 [] []))) [(.t 187), (.k (.c (.int .i64 0))), (.k (.c (.int .i64 15)))], none, true, []⟩,
 ⟨some 189, .mv (.t 188), none, true, []⟩,
 ⟨some 190, .faddr (.t 1) 6, some (189, true), true, []⟩,
 ⟨some 191, .ld1 (.t 190), some (189, true), true, []⟩,
 ⟨some 192, .call (.k (.c (.fn 67 [] []))) [(.t 191), (.k (.c (.int .i64 4))), (.k (.c (.int .i64 (-1048576)))), (.k (.c (.int .i64 1048572)))], some (189, true), true, []⟩,
 ⟨some 193, .pick 189 (.t 192) (.k (.c (.bool false))), none, true, []⟩,
 ⟨some 2, .mv (.t 193), none, true, []⟩]
def C13r33 : List AOper := [⟨some 195, .bin .eql (.t 11) (.k (.c (.int .i64 14))), none, true, []⟩,
 ⟨some 194, .mv (.t 195), none, true, []⟩]
def C13r34 : List AOper := [⟨some 196, .faddr (.t 1) 6, none, true, []⟩,
 ⟨some 197, .ld1 (.t 196), none, true, []⟩,
 ⟨some 198, .call (.k (.c (.fn 67 [] []))) [(.t 197), (.k (.c (.int .i64 4))), (.k (.c (.int .i64 (-1048576)))), (.k (.c (.int .i64 1048572)))], none, true, []⟩,
 ⟨some 2, .mv (.t 198), none, true, []⟩]
def C13r35 : List AOper := [⟨some 200, .bin .eql (.t 11) (.k (.c (.int .i64 15))), none, true, []⟩,
 ⟨some 199, .mv (.t 200), none, true, []⟩]
def C13r36 : List AOper := [⟨some 201, .faddr (.t 1) 8, none, true, []⟩,
 ⟨some 202, .ld1 (.t 201), none, true, []⟩,
 ⟨some 203, .call (.k (.c (.fn 65 [] []))) [(.t 202), (.k (.c (.int .i64 0))), (.k (.c (.int .i64 63)))], none, true, []⟩,
 ⟨some 204, .mv (.t 203), none, true, []⟩,
 ⟨some 205, .faddr (.t 1) 6, some (204, true), true, []⟩,
 ⟨some 206, .ld1 (.t 205), some (204, true), true, []⟩,
 ⟨some 207, .call (.k (.c (.fn 67 [] []))) [(.t 206), (.k (.c (.int .i64 4))), (.k (.c (.int .i64 (-32768)))), (.k (.c (.int .i64 32764)))], some (204, true), true, []⟩,
 ⟨some 208, .pick 204 (.t 207) (.k (.c (.bool false))), none, true, []⟩,
 ⟨some 2, .mv (.t 208), none, true, []⟩]
def C13r37 : List AOper := [⟨some 210, .bin .eql (.t 11) (.k (.c (.int .i64 16))), none, true, []⟩,
 ⟨some 209, .mv (.t 210), none, true, []⟩]
def C13r38 : List AOper := [⟨some 211, .faddr (.t 1) 1, none, true, []⟩,
 ⟨some 212, .ld1 (.t 211), none, true, []⟩,
 ⟨some 213, .call (.k (.c (.fn 65 [] []))) [(.t 212), (.k (.c (.int .i64 0))), (.k (.c (.int .i64 2)))], none, true, []⟩,
 ⟨some 2, .mv (.t 213), none, true, []⟩]
def C13r39 : List AOper := [⟨some 215, .bin .eql (.t 11) (.k (.c (.int .i64 17))), none, true, []⟩,
 ⟨some 214, .mv (.t 215), none, true, []⟩]
def C13r40 : List AOper := [⟨some 216, .bin .eql (.t 11) (.k (.c (.int .i64 18))), none, true, []⟩,
 ⟨some 214, .mv (.t 216), none, true, []⟩]
def C13r41 : List AOper := [⟨some 217, .faddr (.t 1) 6, none, true, []⟩,
 ⟨some 218, .ld1 (.t 217), none, true, []⟩,
 ⟨some 219, .call (.k (.c (.fn 67 [] []))) [(.t 218), (.k (.c (.int .i64 8))), (.k (.c (.int .i64 0))), (.k (.c (.int .i64 32760)))], none, true, []⟩,
 ⟨some 2, .mv (.t 219), none, true, []⟩]
def C13r42 : List AOper := [⟨some 221, .bin .eql (.t 11) (.k (.c (.int .i64 19))), none, true, []⟩,
 ⟨some 220, .mv (.t 221), none, true, []⟩]
def C13r43 : List AOper := [⟨some 222, .bin .eql (.t 11) (.k (.c (.int .i64 20))), none, true, []⟩,
 ⟨some 220, .mv (.t 222), none, true, []⟩]
def C13r44 : List AOper := [⟨some 223, .faddr (.t 1) 8, none, true, []⟩,
 ⟨some 224, .ld1 (.t 223), none, true, []⟩,
 ⟨some 225, .bin .eql (.t 224) (.k (.c (.int .i64 0))), none, true, []⟩,
 ⟨some 226, .mv (.t 225), none, true, []⟩,
 ⟨some 227, .faddr (.t 1) 8, some (226, false), true, []⟩,
 ⟨some 228, .ld1 (.t 227), some (226, false), true, []⟩,
 ⟨some 229, .bin .eql (.t 228) (.k (.c (.int .i64 3))), some (226, false), true, []⟩,
 ⟨some 230, .pick 226 (.k (.c (.bool true))) (.t 229), none, true, []⟩,
 ⟨some 2, .mv (.t 230), none, true, []⟩]
def C13r45 : List AOper := [⟨some 232, .bin .eql (.t 11) (.k (.c (.int .i64 26))), none, true, []⟩,
 ⟨some 231, .mv (.t 232), none, true, []⟩]
def C13r46 : List AOper := [⟨some 233, .faddr (.t 1) 1, none, true, []⟩,
 ⟨some 234, .ld1 (.t 233), none, true, []⟩,
 ⟨some 235, .call (.k (.c (.fn 65 [] []))) [(.t 234), (.k (.c (.int .i64 0))), (.k (.c (.int .i64 1)))], none, true, []⟩,
 ⟨some 236, .mv (.t 235), none, true, []⟩,
 ⟨some 237, .faddr (.t 1) 6, some (236, true), true, []⟩,
 ⟨some 238, .ld1 (.t 237), some (236, true), true, []⟩,
 ⟨some 239, .call (.k (.c (.fn 65 [] []))) [(.t 238), (.k (.c (.int .i64 1))), (.k (.c (.int .i64 3)))], some (236, true), true, []⟩,
 ⟨some 240, .pick 236 (.t 239) (.k (.c (.bool false))), none, true, []⟩,
 ⟨some 2, .mv (.t 240), none, true, []⟩]
def C13r47 : List AOper := [⟨some 242, .bin .eql (.t 11) (.k (.c (.int .i64 33))), none, true, []⟩,
 ⟨some 241, .mv (.t 242), none, true, []⟩]
def C13r48 : List AOper := [⟨some 243, .faddr (.t 1) 1, none, true, []⟩,
 ⟨some 244, .ld1 (.t 243), none, true, []⟩,
 ⟨some 245, .call (.k (.c (.fn 65 [] []))) [(.t 244), (.k (.c (.int .i64 0))), (.k (.c (.int .i64 1)))], none, true, []⟩,
 ⟨some 246, .mv (.t 245), none, true, []⟩,
 ⟨some 247, .faddr (.t 1) 6, some (246, true), true, []⟩,
 ⟨some 248, .ld1 (.t 247), some (246, true), true, []⟩,
 ⟨some 249, .call (.k (.c (.fn 65 [] []))) [(.t 248), (.k (.c (.int .i64 0))), (.k (.c (.int .i64 15)))], some (246, true), true, []⟩,
 ⟨some 250, .pick 246 (.t 249) (.k (.c (.bool false))), none, true, []⟩,
 ⟨some 2, .mv (.t 250), none, true, []⟩]
def C13r49 : List AOper := [⟨some 252, .bin .eql (.t 11) (.k (.c (.int .i64 31))), none, true, []⟩,
 ⟨some 251, .mv (.t 252), none, true, []⟩]
def C13r50 : List AOper := [⟨some 253, .bin .eql (.t 11) (.k (.c (.int .i64 32))), none, true, []⟩,
 ⟨some 251, .mv (.t 253), none, true, []⟩]
def C13r51 : List AOper := [⟨some 254, .faddr (.t 1) 11, none, true, []⟩,
 ⟨some 255, .ld1 (.t 254), none, true, []⟩,
 ⟨some 256, .call (.k (.c (.fn 68 [] []))) [(.t 255)], none, true, []⟩,
 ⟨some 2, .mv (.t 256), none, true, []⟩]
def C13r52 : List AOper := [⟨some 258, .bin .eql (.t 11) (.k (.c (.int .i64 34))), none, true, []⟩,
 ⟨some 257, .mv (.t 258), none, true, []⟩]
def C13r53 : List AOper := [⟨some 259, .bin .eql (.t 11) (.k (.c (.int .i64 35))), none, true, []⟩,
 ⟨some 257, .mv (.t 259), none, true, []⟩]
def C13r54 : List AOper := [⟨some 260, .faddr (.t 1) 6, none, true, []⟩,
 ⟨some 261, .ld1 (.t 260), none, true, []⟩,
 ⟨some 262, .call (.k (.c (.fn 65 [] []))) [(.t 261), (.k (.c (.int .i64 0))), (.k (.c (.int .i64 65535)))], none, true, []⟩,
 ⟨some 2, .mv (.t 262), none, true, []⟩]
def C13r55 : List AOper := [⟨some 264, .bin .eql (.t 11) (.k (.c (.int .i64 37))), none, true, []⟩,
 ⟨some 263, .mv (.t 264), none, true, []⟩]
def C13r56 : List AOper := [⟨some 265, .faddr (.t 1) 6, none, true, []⟩,
 ⟨some 266, .ld1 (.t 265), none, true, []⟩,
 ⟨some 267, .call (.k (.c (.fn 65 [] []))) [(.t 266), (.k (.c (.int .i64 0))), (.k (.c (.int .i64 5)))], none, true, []⟩,
 ⟨some 2, .mv (.t 267), none, true, []⟩]
def C13r57 : List AOper := [⟨some 2, .mv (.k (.c (.bool true))), none, true, []⟩]
def C13 : ACode :=
 .seq (.region C13r0)
 (.seq (.region C13r1)
 (.seq (.seq (.region C13r2)
 (.cond (.t 9)
 (.seq (.region C13r3)
 (.ret))
 (.skip)))
 (.seq (.seq (.region C13r4)
 (.block 0
 (.seq (.region C13r5)
 (.cond (.t 12)
 (.seq (.region C13r6)
 (.ret))
 (.seq (.region C13r7)
 (.cond (.t 27)
 (.seq (.region C13r8)
 (.ret))
 (.seq (.region C13r9)
 (.cond (.t 37)
 (.seq (.region C13r10)
 (.ret))
 (.seq (.region C13r11)
 (.cond (.t 62)
 (.seq (.region C13r12)
 (.seq (.region C13r13)
 (.ret)))
 (.seq (.region C13r14)
 (.cond (.t 91)
 (.seq (.region C13r15)
 (.ret))
 (.seq (.region C13r16)
 (.cond (.t 116)
 (.seq (.region C13r17)
 (.ret))
 (.seq (.region C13r18)
 (.cond (.t 136)
 (.seq (.region C13r19)
 (.ret))
 (.seq (.seq (.region C13r20)
 (.cond (.t 141)
 (.skip)
 (.seq (.region C13r21)
 (.cond (.t 141)
 (.skip)
 (.seq (.region C13r22)
 (.cond (.t 141)
 (.skip)
 (.region C13r23)))))))
 (.cond (.t 141)
 (.seq (.region C13r24)
 (.ret))
 (.seq (.region C13r25)
 (.cond (.t 149)
 (.seq (.region C13r26)
 (.ret))
 (.seq (.region C13r27)
 (.cond (.t 159)
 (.seq (.region C13r28)
 (.ret))
 (.seq (.region C13r29)
 (.cond (.t 179)
 (.seq (.region C13r30)
 (.ret))
 (.seq (.region C13r31)
 (.cond (.t 184)
 (.seq (.region C13r32)
 (.ret))
 (.seq (.region C13r33)
 (.cond (.t 194)
 (.seq (.region C13r34)
 (.ret))
 (.seq (.region C13r35)
 (.cond (.t 199)
 (.seq (.region C13r36)
 (.ret))
 (.seq (.region C13r37)
 (.cond (.t 209)
 (.seq (.region C13r38)
 (.ret))
 (.seq (.seq (.region C13r39)
 (.cond (.t 214)
 (.skip)
 (.region C13r40)))
 (.cond (.t 214)
 (.seq (.region C13r41)
 (.ret))
 (.seq (.seq (.region C13r42)
 (.cond (.t 220)
 (.skip)
 (.region C13r43)))
 (.cond (.t 220)
 (.seq (.region C13r44)
 (.ret))
 (.seq (.region C13r45)
 (.cond (.t 231)
 (.seq (.region C13r46)
 (.ret))
 (.seq (.region C13r47)
 (.cond (.t 241)
 (.seq (.region C13r48)
 (.ret))
 (.seq (.seq (.region C13r49)
 (.cond (.t 251)
 (.skip)
 (.region C13r50)))
 (.cond (.t 251)
 (.seq (.region C13r51)
 (.ret))
 (.seq (.seq (.region C13r52)
 (.cond (.t 257)
 (.skip)
 (.region C13r53)))
 (.cond (.t 257)
 (.seq (.region C13r54)
 (.ret))
 (.seq (.region C13r55)
 (.cond (.t 263)
 (.seq (.region C13r56)
 (.ret))
 (.skip)))))))))))))))))))))))))))))))))))))))))))))))
 (.seq (.region C13r57)
 (.ret)))))
theorem C13_ok : stripF Tryz.prog Tryz.f13 = some C13 := by kernel_rfl
def C14r0 : List AOper := [⟨some 4, .mv (.k (.c (.int .u32 0))), none, true, []⟩]
def C14r1 : List AOper := [⟨some 5, .mv (.t 0), none, true, []⟩,
 ⟨some 6, .conv .u64 (.t 5), none, true, []⟩,
 ⟨some 7, .conv .u32 (.t 6), none, true, []⟩,
 ⟨some 8, .mv (.t 1), none, true, []⟩,
 ⟨some 9, .bin .shl (.k (.c (.int .u32 1))) (.t 8), none, true, []⟩,
 ⟨some 10, .bin .sub (.t 9) (.k (.c (.int .u32 1))), none, true, []⟩,
 ⟨some 11, .bin .and (.t 7) (.t 10), none, true, []⟩,
 ⟨some 4, .mv (.t 11), none, true, []⟩]
def C14 : ACode :=
 .seq (.region C14r0)
 (.seq (.region C14r1)
 (.ret))
theorem C14_ok : stripF Tryz.prog Tryz.f14 = some C14 := by kernel_rfl
def C15r0 : List AOper := [⟨some 4, .mv (.k (.c (.int .u32 0))), none, true, []⟩]
def C15r1 : List AOper := [⟨some 5, .mv (.t 0), none, true, []⟩]
def C15r2 : List AOper := [⟨some 6, .mv (.t 1), none, true, []⟩,
 ⟨some 4, .mv (.t 6), none, true, []⟩]
def C15r3 : List AOper := [⟨some 4, .mv (.k (.c (.int .u32 0))), none, true, []⟩]
def C15 : ACode :=
 .seq (.region C15r0)
 (.seq (.seq (.region C15r1)
 (.cond (.t 5)
 (.seq (.region C15r2)
 (.ret))
 (.skip)))
 (.seq (.region C15r3)
 (.ret)))
theorem C15_ok : stripF Tryz.prog Tryz.f15 = some C15 := by kernel_rfl
def C16r0 : List AOper := [⟨some 5, .box 23 (.t 0), none, true, []⟩,
 ⟨some 10, .mv (.k (.c (.int .u32 0))), none, true, []⟩,
 ⟨some 11, .mv (.k (.c (.bool false))), none, true, []⟩]
def C16r1 : List AOper := [⟨some 12, .faddr (.t 5) 0, none, true, []⟩,
 ⟨some 13, .ld1 (.t 12), none, true, []⟩]
def C16r2 : List AOper := [⟨some 15, .bin .eql (.t 13) (.k (.c (.int .i64 17))), none, true, []⟩,
 ⟨some 14, .mv (.t 15), none, true, []⟩]
def C16r3 : List AOper := [⟨some 16, .faddr (.t 5) 6, none, true, []⟩,
 ⟨some 17, .ld1 (.t 16), none, true, []⟩,
 ⟨some 18, .bin .quo (.t 17) (.k (.c (.int .i64 8))), none, true, []⟩,
 ⟨some 19, .call (.k (.c (.fn 14 [] []))) [(.t 18), (.k (.c (.int .i64 12)))], none, true, []⟩,
 ⟨some 20, .bin .shl (.t 19) (.k (.c (.int .u64 10))), none, true, []⟩,
 ⟨some 21, .bin .add (.k (.c (.int .u32 4181721088))) (.t 20), none, true, []⟩,
 ⟨some 22, .mv (.t 2), none, true, []⟩,
 ⟨some 23, .bin .add (.t 21) (.t 22), none, true, []⟩,
 ⟨some 24, .mv (.t 1), none, true, []⟩,
 ⟨some 25, .bin .add (.t 23) (.t 24), none, true, []⟩,
 ⟨some 10, .mv (.t 25), none, true, []⟩,
 ⟨some 11, .mv (.k (.c (.bool true))), none, true, []⟩]
def C16r4 : List AOper := [⟨some 27, .bin .eql (.t 13) (.k (.c (.int .i64 18))), none, true, []⟩,
 ⟨some 26, .mv (.t 27), none, true, []⟩]
def C16r5 : List AOper := [⟨some 28, .faddr (.t 5) 6, none, true, []⟩,
 ⟨some 29, .ld1 (.t 28), none, true, []⟩,
 ⟨some 30, .bin .quo (.t 29) (.k (.c (.int .i64 8))), none, true, []⟩,
 ⟨some 31, .call (.k (.c (.fn 14 [] []))) [(.t 30), (.k (.c (.int .i64 12)))], none, true, []⟩,
 ⟨some 32, .bin .shl (.t 31) (.k (.c (.int .u64 10))), none, true, []⟩,
 ⟨some 33, .bin .add (.k (.c (.int .u32 4177526784))) (.t 32), none, true, []⟩,
 ⟨some 34, .mv (.t 2), none, true, []⟩,
 ⟨some 35, .bin .add (.t 33) (.t 34), none, true, []⟩,
 ⟨some 36, .mv (.t 1), none, true, []⟩,
 ⟨some 37, .bin .add (.t 35) (.t 36), none, true, []⟩,
 ⟨some 10, .mv (.t 37), none, true, []⟩,
 ⟨some 11, .mv (.k (.c (.bool true))), none, true, []⟩]
def C16r6 : List AOper := [⟨some 39, .bin .eql (.t 13) (.k (.c (.int .i64 19))), none, true, []⟩,
 ⟨some 38, .mv (.t 39), none, true, []⟩]
def C16r7 : List AOper := [⟨some 40, .faddr (.t 5) 8, none, true, []⟩,
 ⟨some 41, .ld1 (.t 40), none, true, []⟩,
 ⟨some 42, .bin .eql (.t 41) (.k (.c (.int .i64 3))), none, true, []⟩,
 ⟨some 43, .call (.k (.c (.fn 15 [] []))) [(.t 42), (.k (.c (.int .u32 4096)))], none, true, []⟩,
 ⟨some 44, .bin .add (.k (.c (.int .u32 4167067648))) (.t 43), none, true, []⟩,
 ⟨some 45, .mv (.t 3), none, true, []⟩,
 ⟨some 46, .bin .add (.t 44) (.t 45), none, true, []⟩,
 ⟨some 47, .mv (.t 2), none, true, []⟩,
 ⟨some 48, .bin .add (.t 46) (.t 47), none, true, []⟩,
 ⟨some 49, .mv (.t 1), none, true, []⟩,
 ⟨some 50, .bin .add (.t 48) (.t 49), none, true, []⟩,
 ⟨some 10, .mv (.t 50), none, true, []⟩,
 ⟨some 11, .mv (.k (.c (.bool true))), none, true, []⟩]
def C16r8 : List AOper := [⟨some 52, .bin .eql (.t 13) (.k (.c (.int .i64 20))), none, true, []⟩,
 ⟨some 51, .mv (.t 52), none, true, []⟩]
def C16r9 : List AOper := [⟨some 53, .faddr (.t 5) 8, none, true, []⟩,
 ⟨some 54, .ld1 (.t 53), none, true, []⟩,
 ⟨some 55, .bin .eql (.t 54) (.k (.c (.int .i64 3))), none, true, []⟩,
 ⟨some 56, .call (.k (.c (.fn 15 [] []))) [(.t 55), (.k (.c (.int .u32 4096)))], none, true, []⟩,
 ⟨some 57, .bin .add (.k (.c (.int .u32 4162873344))) (.t 56), none, true, []⟩,
 ⟨some 58, .mv (.t 3), none, true, []⟩,
 ⟨some 59, .bin .add (.t 57) (.t 58), none, true, []⟩,
 ⟨some 60, .mv (.t 2), none, true, []⟩,
 ⟨some 61, .bin .add (.t 59) (.t 60), none, true, []⟩,
 ⟨some 62, .mv (.t 1), none, true, []⟩,
 ⟨some 63, .bin .add (.t 61) (.t 62), none, true, []⟩,
 ⟨some 10, .mv (.t 63), none, true, []⟩,
 ⟨some 11, .mv (.k (.c (.bool true))), none, true, []⟩]
def C16r10 : List AOper := [⟨some 65, .bin .eql (.t 13) (.k (.c (.int .i64 21))), none, true, []⟩,
 ⟨some 64, .mv (.t 65), none, true, []⟩]
def C16r11 : List AOper := [⟨some 66, .mv (.t 4), none, true, []⟩,
 ⟨some 67, .bin .eql (.t 66) (.k (.c (.int .u32 1))), none, true, []⟩]
def C16r12 : List AOper := [⟨some 68, .mv (.t 2), none, true, []⟩,
 ⟨some 69, .bin .add (.k (.c (.int .u32 4173316096))) (.t 68), none, true, []⟩,
 ⟨some 70, .mv (.t 1), none, true, []⟩,
 ⟨some 71, .bin .add (.t 69) (.t 70), none, true, []⟩,
 ⟨some 10, .mv (.t 71), none, true, []⟩,
 ⟨some 11, .mv (.k (.c (.bool true))), none, true, []⟩]
def C16r13 : List AOper := [⟨some 72, .mv (.t 2), none, true, []⟩,
 ⟨some 73, .bin .add (.k (.c (.int .u32 3370122240))) (.t 72), none, true, []⟩,
 ⟨some 74, .mv (.t 1), none, true, []⟩,
 ⟨some 75, .bin .add (.t 73) (.t 74), none, true, []⟩,
 ⟨some 10, .mv (.t 75), none, true, []⟩,
 ⟨some 11, .mv (.k (.c (.bool true))), none, true, []⟩]
def C16r14 : List AOper := [⟨some 77, .bin .eql (.t 13) (.k (.c (.int .i64 22))), none, true, []⟩,
 ⟨some 76, .mv (.t 77), none, true, []⟩]
def C16r15 : List AOper := [⟨some 78, .mv (.t 2), none, true, []⟩,
 ⟨some 79, .bin .add (.k (.c (.int .u32 3365927936))) (.t 78), none, true, []⟩,
 ⟨some 80, .mv (.t 1), none, true, []⟩,
 ⟨some 81, .bin .add (.t 79) (.t 80), none, true, []⟩,
 ⟨some 10, .mv (.t 81), none, true, []⟩,
 ⟨some 11, .mv (.k (.c (.bool true))), none, true, []⟩]
def C16r16 : List AOper := [⟨some 83, .bin .eql (.t 13) (.k (.c (.int .i64 23))), none, true, []⟩,
 ⟨some 82, .mv (.t 83), none, true, []⟩]
def C16r17 : List AOper := [⟨some 84, .mv (.t 4), none, true, []⟩,
 ⟨some 85, .bin .shl (.t 84) (.k (.c (.int .u64 15))), none, true, []⟩,
 ⟨some 86, .bin .add (.k (.c (.int .u32 3361700864))) (.t 85), none, true, []⟩,
 ⟨some 87, .mv (.t 2), none, true, []⟩,
 ⟨some 88, .bin .add (.t 86) (.t 87), none, true, []⟩,
 ⟨some 89, .mv (.t 1), none, true, []⟩,
 ⟨some 90, .bin .add (.t 88) (.t 89), none, true, []⟩,
 ⟨some 10, .mv (.t 90), none, true, []⟩,
 ⟨some 11, .mv (.k (.c (.bool true))), none, true, []⟩]
def C16r18 : List AOper := [⟨some 92, .bin .eql (.t 13) (.k (.c (.int .i64 24))), none, true, []⟩,
 ⟨some 91, .mv (.t 92), none, true, []⟩]
def C16r19 : List AOper := [⟨some 93, .mv (.t 4), none, true, []⟩,
 ⟨some 94, .bin .shl (.t 93) (.k (.c (.int .u64 15))), none, true, []⟩,
 ⟨some 95, .bin .add (.k (.c (.int .u32 3355474944))) (.t 94), none, true, []⟩,
 ⟨some 96, .mv (.t 3), none, true, []⟩,
 ⟨some 97, .bin .add (.t 95) (.t 96), none, true, []⟩,
 ⟨some 98, .mv (.t 2), none, true, []⟩,
 ⟨some 99, .bin .add (.t 97) (.t 98), none, true, []⟩,
 ⟨some 100, .mv (.t 1), none, true, []⟩,
 ⟨some 101, .bin .add (.t 99) (.t 100), none, true, []⟩,
 ⟨some 10, .mv (.t 101), none, true, []⟩,
 ⟨some 11, .mv (.k (.c (.bool true))), none, true, []⟩]
def C16r20 : List AOper := [⟨some 103, .bin .eql (.t 13) (.k (.c (.int .i64 25))), none, true, []⟩,
 ⟨some 102, .mv (.t 103), none, true, []⟩]
def C16r21 : List AOper := [⟨some 10, .mv (.k (.c (.int .u32 3573759839))), none, true, []⟩,
 ⟨some 11, .mv (.k (.c (.bool true))), none, true, []⟩]
def C16r22 : List AOper := [⟨some 105, .bin .eql (.t 13) (.k (.c (.int .i64 26))), none, true, []⟩,
 ⟨some 104, .mv (.t 105), none, true, []⟩]
def C16r23 : List AOper := [⟨some 106, .mv (.t 4), none, true, []⟩,
 ⟨some 107, .bin .mul (.t 106) (.k (.c (.int .u32 32))), none, true, []⟩,
 ⟨some 108, .bin .sub (.k (.c (.int .u32 3573759167))) (.t 107), none, true, []⟩,
 ⟨some 109, .faddr (.t 5) 6, none, true, []⟩,
 ⟨some 110, .ld1 (.t 109), none, true, []⟩,
 ⟨some 111, .conv .u32 (.t 110), none, true, []⟩,
 ⟨some 112, .bin .shl (.t 111) (.k (.c (.int .u64 8))), none, true, []⟩,
 ⟨some 113, .bin .add (.t 108) (.t 112), none, true, []⟩,
 ⟨some 10, .mv (.t 113), none, true, []⟩,
 ⟨some 11, .mv (.k (.c (.bool true))), none, true, []⟩]
def C16r24 : List AOper := [⟨some 115, .bin .eql (.t 13) (.k (.c (.int .i64 27))), none, true, []⟩,
 ⟨some 114, .mv (.t 115), none, true, []⟩]
def C16r25 : List AOper := [⟨some 10, .mv (.k (.c (.int .u32 3573759967))), none, true, []⟩,
 ⟨some 11, .mv (.k (.c (.bool true))), none, true, []⟩]
def C16r26 : List AOper := [⟨some 117, .bin .eql (.t 13) (.k (.c (.int .i64 28))), none, true, []⟩,
 ⟨some 116, .mv (.t 117), none, true, []⟩]
def C16r27 : List AOper := [⟨some 118, .mv (.t 1), none, true, []⟩,
 ⟨some 119, .bin .add (.k (.c (.int .u32 3574297888))) (.t 118), none, true, []⟩,
 ⟨some 10, .mv (.t 119), none, true, []⟩,
 ⟨some 11, .mv (.k (.c (.bool true))), none, true, []⟩]
def C16r28 : List AOper := [⟨some 121, .bin .eql (.t 13) (.k (.c (.int .i64 30))), none, true, []⟩,
 ⟨some 120, .mv (.t 121), none, true, []⟩]
def C16r29 : List AOper := [⟨some 122, .mv (.t 1), none, true, []⟩,
 ⟨some 123, .bin .add (.k (.c (.int .u32 3574299424))) (.t 122), none, true, []⟩,
 ⟨some 10, .mv (.t 123), none, true, []⟩,
 ⟨some 11, .mv (.k (.c (.bool true))), none, true, []⟩]
def C16r30 : List AOper := [⟨some 125, .bin .eql (.t 13) (.k (.c (.int .i64 29))), none, true, []⟩,
 ⟨some 124, .mv (.t 125), none, true, []⟩]
def C16r31 : List AOper := [⟨some 10, .mv (.k (.c (.int .u32 3574101279))), none, true, []⟩,
 ⟨some 11, .mv (.k (.c (.bool true))), none, true, []⟩]
def C16r32 : List AOper := [⟨some 127, .bin .eql (.t 13) (.k (.c (.int .i64 31))), none, true, []⟩,
 ⟨some 126, .mv (.t 127), none, true, []⟩]
def C16r33 : List AOper := [⟨some 128, .faddr (.t 5) 11, none, true, []⟩,
 ⟨some 129, .ld1 (.t 128), none, true, []⟩,
 ⟨some 130, .conv .u32 (.t 129), none, true, []⟩,
 ⟨some 131, .bin .shl (.t 130) (.k (.c (.int .u64 5))), none, true, []⟩,
 ⟨some 132, .bin .add (.k (.c (.int .u32 3576692736))) (.t 131), none, true, []⟩,
 ⟨some 133, .mv (.t 1), none, true, []⟩,
 ⟨some 134, .bin .add (.t 132) (.t 133), none, true, []⟩,
 ⟨some 10, .mv (.t 134), none, true, []⟩,
 ⟨some 11, .mv (.k (.c (.bool true))), none, true, []⟩]
def C16r34 : List AOper := [⟨some 136, .bin .eql (.t 13) (.k (.c (.int .i64 32))), none, true, []⟩,
 ⟨some 135, .mv (.t 136), none, true, []⟩]
def C16r35 : List AOper := [⟨some 137, .faddr (.t 5) 11, none, true, []⟩,
 ⟨some 138, .ld1 (.t 137), none, true, []⟩,
 ⟨some 139, .conv .u32 (.t 138), none, true, []⟩,
 ⟨some 140, .bin .shl (.t 139) (.k (.c (.int .u64 5))), none, true, []⟩,
 ⟨some 141, .bin .add (.k (.c (.int .u32 3574595584))) (.t 140), none, true, []⟩,
 ⟨some 142, .mv (.t 1), none, true, []⟩,
 ⟨some 143, .bin .add (.t 141) (.t 142), none, true, []⟩,
 ⟨some 10, .mv (.t 143), none, true, []⟩,
 ⟨some 11, .mv (.k (.c (.bool true))), none, true, []⟩]
def C16r36 : List AOper := [⟨some 145, .bin .eql (.t 13) (.k (.c (.int .i64 33))), none, true, []⟩,
 ⟨some 144, .mv (.t 145), none, true, []⟩]
def C16r37 : List AOper := [⟨some 146, .mv (.t 4), none, true, []⟩,
 ⟨some 147, .bin .mul (.t 146) (.k (.c (.int .u32 32))), none, true, []⟩,
 ⟨some 148, .bin .add (.k (.c (.int .u32 3573760223))) (.t 147), none, true, []⟩,
 ⟨some 149, .faddr (.t 5) 6, none, true, []⟩,
 ⟨some 150, .ld1 (.t 149), none, true, []⟩,
 ⟨some 151, .conv .u32 (.t 150), none, true, []⟩,
 ⟨some 152, .bin .shl (.t 151) (.k (.c (.int .u64 8))), none, true, []⟩,
 ⟨some 153, .bin .add (.t 148) (.t 152), none, true, []⟩,
 ⟨some 10, .mv (.t 153), none, true, []⟩,
 ⟨some 11, .mv (.k (.c (.bool true))), none, true, []⟩]
def C16r38 : List AOper := [⟨some 155, .bin .eql (.t 13) (.k (.c (.int .i64 34))), none, true, []⟩,
 ⟨some 154, .mv (.t 155), none, true, []⟩]
def C16r39 : List AOper := [⟨some 156, .faddr (.t 5) 6, none, true, []⟩,
 ⟨some 157, .ld1 (.t 156), none, true, []⟩,
 ⟨some 158, .conv .u32 (.t 157), none, true, []⟩,
 ⟨some 159, .bin .shl (.t 158) (.k (.c (.int .u64 5))), none, true, []⟩,
 ⟨some 160, .bin .add (.k (.c (.int .u32 3556769793))) (.t 159), none, true, []⟩,
 ⟨some 10, .mv (.t 160), none, true, []⟩,
 ⟨some 11, .mv (.k (.c (.bool true))), none, true, []⟩]
def C16r40 : List AOper := [⟨some 162, .bin .eql (.t 13) (.k (.c (.int .i64 35))), none, true, []⟩,
 ⟨some 161, .mv (.t 162), none, true, []⟩]
def C16r41 : List AOper := [⟨some 163, .faddr (.t 5) 6, none, true, []⟩,
 ⟨some 164, .ld1 (.t 163), none, true, []⟩,
 ⟨some 165, .conv .u32 (.t 164), none, true, []⟩,
 ⟨some 166, .bin .shl (.t 165) (.k (.c (.int .u64 5))), none, true, []⟩,
 ⟨some 167, .bin .add (.k (.c (.int .u32 3558866944))) (.t 166), none, true, []⟩,
 ⟨some 10, .mv (.t 167), none, true, []⟩,
 ⟨some 11, .mv (.k (.c (.bool true))), none, true, []⟩]
def C16r42 : List AOper := [⟨some 169, .bin .eql (.t 13) (.k (.c (.int .i64 36))), none, true, []⟩,
 ⟨some 168, .mv (.t 169), none, true, []⟩]
def C16r43 : List AOper := [⟨some 10, .mv (.k (.c (.int .u32 3600745440))), none, true, []⟩,
 ⟨some 11, .mv (.k (.c (.bool true))), none, true, []⟩]
def C16r44 : List AOper := [⟨some 170, .faddr (.t 5) 6, none, true, []⟩,
 ⟨some 171, .ld1 (.t 170), none, true, []⟩,
 ⟨some 172, .conv .u32 (.t 171), none, true, []⟩,
 ⟨some 173, .bin .shl (.t 172) (.k (.c (.int .u64 5))), none, true, []⟩,
 ⟨some 174, .bin .add (.k (.c (.int .u32 3573751839))) (.t 173), none, true, []⟩,
 ⟨some 10, .mv (.t 174), none, true, []⟩,
 ⟨some 11, .mv (.k (.c (.bool true))), none, true, []⟩]
def C16 : ACode :=
 .seq (.region C16r0)
 (.seq (.seq (.region C16r1)
 (.block 0
 (.seq (.region C16r2)
 (.cond (.t 14)
 (.seq (.region C16r3)
 (.ret))
 (.seq (.region C16r4)
 (.cond (.t 26)
 (.seq (.region C16r5)
 (.ret))
 (.seq (.region C16r6)
 (.cond (.t 38)
 (.seq (.region C16r7)
 (.ret))
 (.seq (.region C16r8)
 (.cond (.t 51)
 (.seq (.region C16r9)
 (.ret))
 (.seq (.region C16r10)
 (.cond (.t 64)
 (.seq (.seq (.region C16r11)
 (.cond (.t 67)
 (.seq (.region C16r12)
 (.ret))
 (.skip)))
 (.seq (.region C16r13)
 (.ret)))
 (.seq (.region C16r14)
 (.cond (.t 76)
 (.seq (.region C16r15)
 (.ret))
 (.seq (.region C16r16)
 (.cond (.t 82)
 (.seq (.region C16r17)
 (.ret))
 (.seq (.region C16r18)
 (.cond (.t 91)
 (.seq (.region C16r19)
 (.ret))
 (.seq (.region C16r20)
 (.cond (.t 102)
 (.seq (.region C16r21)
 (.ret))
 (.seq (.region C16r22)
 (.cond (.t 104)
 (.seq (.region C16r23)
 (.ret))
 (.seq (.region C16r24)
 (.cond (.t 114)
 (.seq (.region C16r25)
 (.ret))
 (.seq (.region C16r26)
 (.cond (.t 116)
 (.seq (.region C16r27)
 (.ret))
 (.seq (.region C16r28)
 (.cond (.t 120)
 (.seq (.region C16r29)
 (.ret))
 (.seq (.region C16r30)
 (.cond (.t 124)
 (.seq (.region C16r31)
 (.ret))
 (.seq (.region C16r32)
 (.cond (.t 126)
 (.seq (.region C16r33)
 (.ret))
 (.seq (.region C16r34)
 (.cond (.t 135)
 (.seq (.region C16r35)
 (.ret))
 (.seq (.region C16r36)
 (.cond (.t 144)
 (.seq (.region C16r37)
 (.ret))
 (.seq (.region C16r38)
 (.cond (.t 154)
 (.seq (.region C16r39)
 (.ret))
 (.seq (.region C16r40)
 (.cond (.t 161)
 (.seq (.region C16r41)
 (.ret))
 (.seq (.region C16r42)
 (.cond (.t 168)
 (.seq (.region C16r43)
 (.ret))
 (.skip)))))))))))))))))))))))))))))))))))))))))))
 (.seq (.region C16r44)
 (.ret)))
theorem C16_ok : stripF Tryz.prog Tryz.f16 = some C16 := by kernel_rfl
def C64r0 : List AOper := [⟨some 1, .box 23 (.t 0), none, true, []⟩,
 ⟨some 2, .mv (.k (.c (.bool false))), none, true, []⟩]
def C64r1 : List AOper := [⟨some 10, .faddr (.t 1) 0, none, true, []⟩,
 ⟨some 11, .ld1 (.t 10), none, true, []⟩,
 ⟨some 12, .call (.k (.c (.fn 105 [] []))) [(.t 11)], none, true, []⟩,
 ⟨some 3, .mv (.t 12), none, true, []⟩]
def C64r2 : List AOper := [⟨some 13, .mv (.t 3), none, true, []⟩,
 ⟨some 14, .eqT false (.t 13) (.k (.c (.str ⟨#[]⟩))), none, true, []⟩]
def C64r3 : List AOper := [⟨some 2, .mv (.k (.c (.bool false))), none, true, []⟩]
def C64r4 : List AOper := [⟨some 15, .faddr (.t 1) 2, none, true, []⟩,
 ⟨some 16, .ld1 (.t 15), none, true, []⟩,
 ⟨some 17, .faddr (.t 1) 3, none, true, []⟩,
 ⟨some 18, .ld1 (.t 17), none, true, []⟩,
 ⟨some 19, .faddr (.t 1) 4, none, true, []⟩,
 ⟨some 20, .ld1 (.t 19), none, true, []⟩,
 ⟨some 21, .faddr (.t 1) 5, none, true, []⟩,
 ⟨some 22, .ld1 (.t 21), none, true, []⟩,
 ⟨some 23, .faddr (.t 1) 6, none, true, []⟩,
 ⟨some 24, .ld1 (.t 23), none, true, []⟩,
 ⟨some 25, .faddr (.t 1) 7, none, true, []⟩,
 ⟨some 26, .ld1 (.t 25), none, true, []⟩,
 ⟨some 27, .faddr (.t 1) 8, none, true, []⟩,
 ⟨some 28, .ld1 (.t 27), none, true, []⟩,
 ⟨some 29, .faddr (.t 1) 9, none, true, []⟩,
 ⟨some 30, .ld1 (.t 29), none, true, []⟩,
 ⟨some 31, .faddr (.t 1) 1, none, true, []⟩,
 ⟨some 32, .ld1 (.t 31), none, true, []⟩,
 ⟨some 33, .faddr (.t 1) 10, none, true, []⟩,
 ⟨some 34, .ld1 (.t 33), none, true, []⟩,
 ⟨some 35, .faddr (.t 1) 11, none, true, []⟩,
 ⟨some 36, .ld1 (.t 35), none, true, []⟩,
 ⟨some 37, .bslice 3 1 [.c (.int .i64 0)] 11 [(0, 1, (.t 16)), (1, 1, (.t 18)), (2, 1, (.t 20)), (3, 1, (.t 22)), (4, 1, (.t 24)), (5, 1, (.t 26)), (6, 1, (.t 28)), (7, 1, (.t 30)), (8, 1, (.t 32)), (9, 1, (.t 34)), (10, 1, (.t 36))], none, true, []⟩,
 ⟨some 4, .mv (.t 37), none, true, []⟩]
def C64r5 : List AOper := [⟨some 5, .mv (.k (.c (.int .i64 0))), none, true, []⟩]
def C64r6 : List AOper := [⟨some 38, .mv (.t 5), none, true, []⟩,
 ⟨some 39, .mv (.t 4), none, true, []⟩,
 ⟨some 40, .len false (.t 39), none, true, []⟩,
 ⟨some 41, .bin .lss (.t 38) (.t 40), none, true, []⟩]
def C64r7 : List AOper := [⟨some 44, .mv (.t 3), none, true, []⟩,
 ⟨some 45, .mv (.t 5), none, true, []⟩,
 ⟨some 46, .idxT (.k (.c (.str ⟨#[100, 110, 109, 97, 105, 106, 107, 116, 115, 99, 121]⟩))) (.t 45), none, true, []⟩,
 ⟨some 47, .call (.k (.c (.fn 106 [] []))) [(.t 44), (.t 46)], none, true, []⟩,
 ⟨some 6, .mv (.t 47), none, true, []⟩]
def C64r8 : List AOper := [⟨some 48, .mv (.t 6), none, true, []⟩,
 ⟨some 49, .un .not (.t 48), none, true, []⟩,
 ⟨some 50, .mv (.t 49), none, true, []⟩,
 ⟨some 51, .mv (.t 4), some (50, true), true, []⟩,
 ⟨some 52, .mv (.t 5), some (50, true), true, []⟩,
 ⟨some 53, .iaddr 1 (.t 51) (.t 52), some (50, true), true, []⟩,
 ⟨some 54, .ld1 (.t 53), some (50, true), true, []⟩,
 ⟨some 55, .bin .neq (.t 54) (.k (.c (.int .i64 0))), some (50, true), true, []⟩,
 ⟨some 56, .pick 50 (.t 55) (.k (.c (.bool false))), none, true, []⟩,
 ⟨some 57, .mv (.t 56), none, true, []⟩,
 ⟨some 58, .mv (.t 6), some (57, false), true, []⟩,
 ⟨some 59, .mv (.t 58), some (57, false), true, []⟩,
 ⟨some 60, .mv (.t 5), some (59, true), true, []⟩,
 ⟨some 61, .bin .lss (.t 60) (.k (.c (.int .i64 4))), some (59, true), true, []⟩,
 ⟨some 62, .pick 59 (.t 61) (.k (.c (.bool false))), some (57, false), true, []⟩,
 ⟨some 63, .mv (.t 62), some (57, false), true, []⟩,
 ⟨some 64, .mv (.t 4), some (63, true), true, []⟩,
 ⟨some 65, .mv (.t 5), some (63, true), true, []⟩,
 ⟨some 66, .iaddr 1 (.t 64) (.t 65), some (63, true), true, []⟩,
 ⟨some 67, .ld1 (.t 66), some (63, true), true, []⟩,
 ⟨some 68, .bin .lss (.t 67) (.k (.c (.int .i64 0))), some (63, true), true, []⟩,
 ⟨some 69, .mv (.t 68), some (63, true), true, []⟩,
 ⟨some 70, .mv (.t 4), some (69, false), true, []⟩,
 ⟨some 71, .mv (.t 5), some (69, false), true, []⟩,
 ⟨some 72, .iaddr 1 (.t 70) (.t 71), some (69, false), true, []⟩,
 ⟨some 73, .ld1 (.t 72), some (69, false), true, []⟩,
 ⟨some 74, .bin .gtr (.t 73) (.k (.c (.int .i64 31))), some (69, false), true, []⟩,
 ⟨some 75, .pick 69 (.k (.c (.bool true))) (.t 74), some (63, true), true, []⟩,
 ⟨some 76, .pick 63 (.t 75) (.k (.c (.bool false))), some (57, false), true, []⟩,
 ⟨some 77, .pick 57 (.k (.c (.bool true))) (.t 76), none, true, []⟩]
def C64r9 : List AOper := [⟨some 2, .mv (.k (.c (.bool false))), none, true, []⟩]
def C64r10 : List AOper := [⟨some 42, .mv (.t 5), none, true, []⟩,
 ⟨some 43, .bin .add (.t 42) (.k (.c (.int .i64 1))), none, true, []⟩,
 ⟨some 5, .mv (.t 43), none, true, []⟩]
def C64r11 : List AOper := [⟨some 78, .faddr (.t 1) 12, none, true, []⟩,
 ⟨some 79, .ld1 (.t 78), none, true, []⟩,
 ⟨some 80, .faddr (.t 1) 13, none, true, []⟩,
 ⟨some 81, .ld1 (.t 80), none, true, []⟩,
 ⟨some 82, .faddr (.t 1) 14, none, true, []⟩,
 ⟨some 83, .ld1 (.t 82), none, true, []⟩,
 ⟨some 84, .faddr (.t 1) 15, none, true, []⟩,
 ⟨some 85, .ld1 (.t 84), none, true, []⟩,
 ⟨some 86, .bslice 4 1 [.c (.bool false)] 4 [(0, 1, (.t 79)), (1, 1, (.t 81)), (2, 1, (.t 83)), (3, 1, (.t 85))], none, true, []⟩,
 ⟨some 7, .mv (.t 86), none, true, []⟩]
def C64r12 : List AOper := [⟨some 8, .mv (.k (.c (.int .i64 0))), none, true, []⟩]
def C64r13 : List AOper := [⟨some 87, .mv (.t 8), none, true, []⟩,
 ⟨some 88, .mv (.t 7), none, true, []⟩,
 ⟨some 89, .len false (.t 88), none, true, []⟩,
 ⟨some 90, .bin .lss (.t 87) (.t 89), none, true, []⟩]
def C64r14 : List AOper := [⟨some 93, .mv (.t 3), none, true, []⟩,
 ⟨some 94, .mv (.t 8), none, true, []⟩,
 ⟨some 95, .idxT (.k (.c (.str ⟨#[70, 77, 78, 76]⟩))) (.t 94), none, true, []⟩,
 ⟨some 96, .call (.k (.c (.fn 106 [] []))) [(.t 93), (.t 95)], none, true, []⟩,
 ⟨some 9, .mv (.t 96), none, true, []⟩]
def C64r15 : List AOper := [⟨some 97, .mv (.t 9), none, true, []⟩,
 ⟨some 98, .un .not (.t 97), none, true, []⟩,
 ⟨some 99, .mv (.t 98), none, true, []⟩,
 ⟨some 100, .mv (.t 7), some (99, true), true, []⟩,
 ⟨some 101, .mv (.t 8), some (99, true), true, []⟩,
 ⟨some 102, .iaddr 1 (.t 100) (.t 101), some (99, true), true, []⟩,
 ⟨some 103, .ld1 (.t 102), some (99, true), true, []⟩,
 ⟨some 104, .pick 99 (.t 103) (.k (.c (.bool false))), none, true, []⟩]
def C64r16 : List AOper := [⟨some 2, .mv (.k (.c (.bool false))), none, true, []⟩]
def C64r17 : List AOper := [⟨some 91, .mv (.t 8), none, true, []⟩,
 ⟨some 92, .bin .add (.t 91) (.k (.c (.int .i64 1))), none, true, []⟩,
 ⟨some 8, .mv (.t 92), none, true, []⟩]
def C64r18 : List AOper := [⟨some 2, .mv (.k (.c (.bool true))), none, true, []⟩]
def C64 : ACode :=
 .seq (.region C64r0)
 (.seq (.region C64r1)
 (.seq (.seq (.region C64r2)
 (.cond (.t 14)
 (.seq (.region C64r3)
 (.ret))
 (.skip)))
 (.seq (.region C64r4)
 (.seq (.seq (.region C64r5)
 (.block 0
 (.loop
 (.seq (.seq (.region C64r6)
 (.cond (.t 41)
 (.skip)
 (.exit 0)))
 (.seq (.block 1
 (.seq (.region C64r7)
 (.seq (.region C64r8)
 (.cond (.t 77)
 (.seq (.region C64r9)
 (.ret))
 (.skip)))))
 (.region C64r10))))))
 (.seq (.region C64r11)
 (.seq (.seq (.region C64r12)
 (.block 2
 (.loop
 (.seq (.seq (.region C64r13)
 (.cond (.t 90)
 (.skip)
 (.exit 2)))
 (.seq (.block 3
 (.seq (.region C64r14)
 (.seq (.region C64r15)
 (.cond (.t 104)
 (.seq (.region C64r16)
 (.ret))
 (.skip)))))
 (.region C64r17))))))
 (.seq (.region C64r18)
 (.ret))))))))
theorem C64_ok : stripF Tryz.prog Tryz.f64 = some C64 := by kernel_rfl
def C65r0 : List AOper := [⟨some 6, .mv (.k (.c (.bool false))), none, true, []⟩]
def C65r1 : List AOper := [⟨some 7, .mv (.t 0), none, true, []⟩,
 ⟨some 8, .mv (.t 1), none, true, []⟩,
 ⟨some 9, .bin .geq (.t 7) (.t 8), none, true, []⟩,
 ⟨some 10, .mv (.t 9), none, true, []⟩,
 ⟨some 11, .mv (.t 0), some (10, true), true, []⟩,
 ⟨some 12, .mv (.t 2), some (10, true), true, []⟩,
 ⟨some 13, .bin .leq (.t 11) (.t 12), some (10, true), true, []⟩,
 ⟨some 14, .pick 10 (.t 13) (.k (.c (.bool false))), none, true, []⟩,
 ⟨some 6, .mv (.t 14), none, true, []⟩]
def C65 : ACode :=
 .seq (.region C65r0)
 (.seq (.region C65r1)
 (.ret))
theorem C65_ok : stripF Tryz.prog Tryz.f65 = some C65 := by kernel_rfl
def C66r0 : List AOper := [⟨some 6, .mv (.k (.c (.int .u64 0))), none, true, []⟩,
 ⟨some 7, .mv (.k (.c (.int .i64 0))), none, true, []⟩]
def C66r1 : List AOper := [⟨some 14, .mv (.t 0), none, true, []⟩,
 ⟨some 15, .bin .lss (.t 14) (.k (.c (.int .i64 0))), none, true, []⟩,
 ⟨some 16, .mv (.t 15), none, true, []⟩,
 ⟨some 17, .mv (.t 0), some (16, false), true, []⟩,
 ⟨some 18, .bin .gtr (.t 17) (.k (.c (.int .i64 1))), some (16, false), true, []⟩,
 ⟨some 19, .pick 16 (.k (.c (.bool true))) (.t 18), none, true, []⟩,
 ⟨some 20, .mv (.t 19), none, true, []⟩,
 ⟨some 21, .mv (.t 1), some (20, false), true, []⟩,
 ⟨some 22, .bin .lss (.t 21) (.k (.c (.int .i64 0))), some (20, false), true, []⟩,
 ⟨some 23, .pick 20 (.k (.c (.bool true))) (.t 22), none, true, []⟩,
 ⟨some 24, .mv (.t 23), none, true, []⟩,
 ⟨some 25, .mv (.t 1), some (24, false), true, []⟩,
 ⟨some 26, .bin .gtr (.t 25) (.k (.c (.int .i64 63))), some (24, false), true, []⟩,
 ⟨some 27, .pick 24 (.k (.c (.bool true))) (.t 26), none, true, []⟩,
 ⟨some 28, .mv (.t 27), none, true, []⟩,
 ⟨some 29, .mv (.t 2), some (28, false), true, []⟩,
 ⟨some 30, .bin .lss (.t 29) (.k (.c (.int .i64 0))), some (28, false), true, []⟩,
 ⟨some 31, .pick 28 (.k (.c (.bool true))) (.t 30), none, true, []⟩,
 ⟨some 32, .mv (.t 31), none, true, []⟩,
 ⟨some 33, .mv (.t 2), some (32, false), true, []⟩,
 ⟨some 34, .bin .gtr (.t 33) (.k (.c (.int .i64 63))), some (32, false), true, []⟩,
 ⟨some 35, .pick 32 (.k (.c (.bool true))) (.t 34), none, true, []⟩]
def C66r2 : List AOper := [⟨some 6, .mv (.k (.c (.int .u64 0))), none, true, []⟩,
 ⟨some 7, .mv (.k (.c (.int .i64 1))), none, true, []⟩]
def C66r3 : List AOper := [⟨some 8, .mv (.k (.c (.int .i64 64))), none, true, []⟩]
def C66r4 : List AOper := [⟨some 36, .mv (.t 0), none, true, []⟩,
 ⟨some 37, .bin .eql (.t 36) (.k (.c (.int .i64 0))), none, true, []⟩]
def C66r5 : List AOper := [⟨some 8, .mv (.k (.c (.int .i64 32))), none, true, []⟩]
def C66r6 : List AOper := [⟨some 38, .mv (.t 8), none, true, []⟩,
 ⟨some 39, .mv (.t 2), none, true, []⟩,
 ⟨some 40, .bin .sub (.k (.c (.int .i64 63))) (.t 39), none, true, []⟩,
 ⟨some 41, .bin .gtr (.t 38) (.t 40), none, true, []⟩]
def C66r7 : List AOper := [⟨some 42, .mv (.t 8), none, true, []⟩,
 ⟨some 43, .bin .quo (.t 42) (.k (.c (.int .i64 2))), none, true, []⟩,
 ⟨some 8, .mv (.t 43), none, true, []⟩]
def C66r8 : List AOper := [⟨some 44, .mv (.t 8), none, true, []⟩,
 ⟨some 45, .bin .lss (.t 44) (.k (.c (.int .i64 2))), none, true, []⟩]
def C66r9 : List AOper := [⟨some 6, .mv (.k (.c (.int .u64 0))), none, true, []⟩,
 ⟨some 7, .mv (.k (.c (.int .i64 2))), none, true, []⟩]
def C66r10 : List AOper := [⟨some 46, .mv (.t 2), none, true, []⟩,
 ⟨some 47, .mv (.t 8), none, true, []⟩,
 ⟨some 48, .bin .rem (.t 46) (.t 47), none, true, []⟩,
 ⟨some 9, .mv (.t 48), none, true, []⟩]
def C66r11 : List AOper := [⟨some 49, .mv (.t 9), none, true, []⟩,
 ⟨some 50, .mv (.t 8), none, true, []⟩,
 ⟨some 51, .bin .sub (.t 50) (.k (.c (.int .i64 1))), none, true, []⟩,
 ⟨some 52, .bin .eql (.t 49) (.t 51), none, true, []⟩]
def C66r12 : List AOper := [⟨some 6, .mv (.k (.c (.int .u64 0))), none, true, []⟩,
 ⟨some 7, .mv (.k (.c (.int .i64 2))), none, true, []⟩]
def C66r13 : List AOper := [⟨some 10, .mv (.k (.c (.int .u64 0))), none, true, []⟩]
def C66r14 : List AOper := [⟨some 11, .mv (.k (.c (.int .i64 0))), none, true, []⟩]
def C66r15 : List AOper := [⟨some 53, .mv (.t 11), none, true, []⟩,
 ⟨some 54, .mv (.t 9), none, true, []⟩,
 ⟨some 55, .bin .leq (.t 53) (.t 54), none, true, []⟩]
def C66r16 : List AOper := [⟨some 58, .mv (.t 10), none, true, []⟩,
 ⟨some 59, .mv (.t 11), none, true, []⟩,
 ⟨some 60, .bin .shl (.k (.c (.int .u64 1))) (.t 59), none, true, []⟩,
 ⟨some 61, .bin .or (.t 58) (.t 60), none, true, []⟩,
 ⟨some 10, .mv (.t 61), none, true, []⟩]
def C66r17 : List AOper := [⟨some 56, .mv (.t 11), none, true, []⟩,
 ⟨some 57, .bin .add (.t 56) (.k (.c (.int .i64 1))), none, true, []⟩,
 ⟨some 11, .mv (.t 57), none, true, []⟩]
def C66r18 : List AOper := [⟨some 63, .mv (.t 10), none, true, []⟩,
 ⟨some 64, .mv (.t 1), none, true, []⟩,
 ⟨some 65, .mv (.t 8), none, true, []⟩,
 ⟨some 66, .bin .rem (.t 64) (.t 65), none, true, []⟩,
 ⟨some 67, .mv (.t 8), none, true, []⟩,
 ⟨some 68, .call (.k (.c (.fn 107 [] []))) [(.t 63), (.t 66), (.t 67)], none, true, []⟩,
 ⟨some 62, .mv (.t 68), none, true, []⟩,
 ⟨some 69, .ext (.t 62) 0, none, true, []⟩,
 ⟨some 70, .ext (.t 62) 1, none, true, []⟩,
 ⟨some 10, .mv (.t 69), none, true, []⟩]
def C66r19 : List AOper := [⟨some 12, .mv (.k (.c (.int .u64 0))), none, true, []⟩]
def C66r20 : List AOper := [⟨some 13, .mv (.k (.c (.int .i64 0))), none, true, []⟩]
def C66r21 : List AOper := [⟨some 71, .mv (.t 13), none, true, []⟩,
 ⟨some 72, .bin .lss (.t 71) (.k (.c (.int .i64 64))), none, true, []⟩]
def C66r22 : List AOper := [⟨some 75, .mv (.t 12), none, true, []⟩,
 ⟨some 76, .mv (.t 10), none, true, []⟩,
 ⟨some 77, .mv (.t 13), none, true, []⟩,
 ⟨some 78, .mv (.t 8), none, true, []⟩,
 ⟨some 79, .bin .rem (.t 77) (.t 78), none, true, []⟩,
 ⟨some 80, .call (.k (.c (.fn 108 [] []))) [(.t 76), (.t 79)], none, true, []⟩,
 ⟨some 81, .mv (.t 13), none, true, []⟩,
 ⟨some 82, .bin .shl (.t 80) (.t 81), none, true, []⟩,
 ⟨some 83, .bin .or (.t 75) (.t 82), none, true, []⟩,
 ⟨some 12, .mv (.t 83), none, true, []⟩]
def C66r23 : List AOper := [⟨some 73, .mv (.t 13), none, true, []⟩,
 ⟨some 74, .bin .add (.t 73) (.k (.c (.int .i64 1))), none, true, []⟩,
 ⟨some 13, .mv (.t 74), none, true, []⟩]
def C66r24 : List AOper := [⟨some 84, .mv (.t 12), none, true, []⟩,
 ⟨some 6, .mv (.t 84), none, true, []⟩,
 ⟨some 7, .mv (.k (.c (.int .i64 0))), none, true, []⟩]
def C66 : ACode :=
 .seq (.region C66r0)
 (.seq (.seq (.region C66r1)
 (.cond (.t 35)
 (.seq (.region C66r2)
 (.ret))
 (.skip)))
 (.seq (.region C66r3)
 (.seq (.seq (.region C66r4)
 (.cond (.t 37)
 (.seq (.region C66r5)
 (.seq (.block 0
 (.loop
 (.seq (.seq (.region C66r6)
 (.cond (.t 41)
 (.skip)
 (.exit 0)))
 (.block 1
 (.region C66r7)))))
 (.seq (.region C66r8)
 (.cond (.t 45)
 (.seq (.region C66r9)
 (.ret))
 (.skip)))))
 (.skip)))
 (.seq (.region C66r10)
 (.seq (.seq (.region C66r11)
 (.cond (.t 52)
 (.seq (.region C66r12)
 (.ret))
 (.skip)))
 (.seq (.region C66r13)
 (.seq (.seq (.region C66r14)
 (.block 2
 (.loop
 (.seq (.seq (.region C66r15)
 (.cond (.t 55)
 (.skip)
 (.exit 2)))
 (.seq (.block 3
 (.region C66r16))
 (.region C66r17))))))
 (.seq (.region C66r18)
 (.seq (.region C66r19)
 (.seq (.seq (.region C66r20)
 (.block 4
 (.loop
 (.seq (.seq (.region C66r21)
 (.cond (.t 72)
 (.skip)
 (.exit 4)))
 (.seq (.block 5
 (.region C66r22))
 (.region C66r23))))))
 (.seq (.region C66r24)
 (.ret))))))))))))
theorem C66_ok : stripF Tryz.prog Tryz.f66 = some C66 := by kernel_rfl
def C67r0 : List AOper := [⟨some 8, .mv (.k (.c (.bool false))), none, true, []⟩]
def C67r1 : List AOper := [⟨some 9, .mv (.t 0), none, true, []⟩,
 ⟨some 10, .mv (.t 1), none, true, []⟩,
 ⟨some 11, .bin .rem (.t 9) (.t 10), none, true, []⟩,
 ⟨some 12, .bin .eql (.t 11) (.k (.c (.int .i64 0))), none, true, []⟩,
 ⟨some 13, .mv (.t 12), none, true, []⟩,
 ⟨some 14, .mv (.t 0), some (13, true), true, []⟩,
 ⟨some 15, .mv (.t 2), some (13, true), true, []⟩,
 ⟨some 16, .bin .geq (.t 14) (.t 15), some (13, true), true, []⟩,
 ⟨some 17, .pick 13 (.t 16) (.k (.c (.bool false))), none, true, []⟩,
 ⟨some 18, .mv (.t 17), none, true, []⟩,
 ⟨some 19, .mv (.t 0), some (18, true), true, []⟩,
 ⟨some 20, .mv (.t 3), some (18, true), true, []⟩,
 ⟨some 21, .bin .leq (.t 19) (.t 20), some (18, true), true, []⟩,
 ⟨some 22, .pick 18 (.t 21) (.k (.c (.bool false))), none, true, []⟩,
 ⟨some 8, .mv (.t 22), none, true, []⟩]
def C67 : ACode :=
 .seq (.region C67r0)
 (.seq (.region C67r1)
 (.ret))
theorem C67_ok : stripF Tryz.prog Tryz.f67 = some C67 := by kernel_rfl
def C68r0 : List AOper := [⟨some 2, .mv (.k (.c (.bool false))), none, true, []⟩]
def C68r1 : List AOper := [⟨some 5, .bslice 3 1 [.c (.int .i64 0)] 18 [(0, 1, (.k (.c (.int .i64 17920)))), (1, 1, (.k (.c (.int .i64 16897)))), (2, 1, (.k (.c (.int .i64 16896)))), (3, 1, (.k (.c (.int .i64 17040)))), (4, 1, (.k (.c (.int .i64 17152)))), (5, 1, (.k (.c (.int .i64 16904)))), (6, 1, (.k (.c (.int .i64 16389)))), (7, 1, (.k (.c (.int .i64 16914)))), (8, 1, (.k (.c (.int .i64 23057)))), (9, 1, (.k (.c (.int .i64 23056)))), (10, 1, (.k (.c (.int .i64 24194)))), (11, 1, (.k (.c (.int .i64 18016)))), (12, 1, (.k (.c (.int .i64 18017)))), (13, 1, (.k (.c (.int .i64 16944)))), (14, 1, (.k (.c (.int .i64 18013)))), (15, 1, (.k (.c (.int .i64 24322)))), (16, 1, (.k (.c (.int .i64 24345)))), (17, 1, (.k (.c (.int .i64 24346))))], none, true, []⟩,
 ⟨some 3, .mv (.t 5), none, true, []⟩]
def C68r2 : List AOper := [⟨some 4, .mv (.k (.c (.int .i64 0))), none, true, []⟩]
def C68r3 : List AOper := [⟨some 6, .mv (.t 4), none, true, []⟩,
 ⟨some 7, .mv (.t 3), none, true, []⟩,
 ⟨some 8, .len false (.t 7), none, true, []⟩,
 ⟨some 9, .bin .lss (.t 6) (.t 8), none, true, []⟩]
def C68r4 : List AOper := [⟨some 12, .mv (.t 3), none, true, []⟩,
 ⟨some 13, .mv (.t 4), none, true, []⟩,
 ⟨some 14, .iaddr 1 (.t 12) (.t 13), none, true, []⟩,
 ⟨some 15, .ld1 (.t 14), none, true, []⟩,
 ⟨some 16, .mv (.t 0), none, true, []⟩,
 ⟨some 17, .bin .eql (.t 15) (.t 16), none, true, []⟩]
def C68r5 : List AOper := [⟨some 2, .mv (.k (.c (.bool true))), none, true, []⟩]
def C68r6 : List AOper := [⟨some 10, .mv (.t 4), none, true, []⟩,
 ⟨some 11, .bin .add (.t 10) (.k (.c (.int .i64 1))), none, true, []⟩,
 ⟨some 4, .mv (.t 11), none, true, []⟩]
def C68r7 : List AOper := [⟨some 2, .mv (.k (.c (.bool false))), none, true, []⟩]
def C68 : ACode :=
 .seq (.region C68r0)
 (.seq (.region C68r1)
 (.seq (.seq (.region C68r2)
 (.block 0
 (.loop
 (.seq (.seq (.region C68r3)
 (.cond (.t 9)
 (.skip)
 (.exit 0)))
 (.seq (.block 1
 (.seq (.region C68r4)
 (.cond (.t 17)
 (.seq (.region C68r5)
 (.ret))
 (.skip))))
 (.region C68r6))))))
 (.seq (.region C68r7)
 (.ret))))
theorem C68_ok : stripF Tryz.prog Tryz.f68 = some C68 := by kernel_rfl
def C105r0 : List AOper := [⟨some 2, .mv (.k (.c (.str ⟨#[]⟩))), none, true, []⟩]
def C105r1 : List AOper := [⟨some 3, .mv (.t 0), none, true, []⟩]
def C105r2 : List AOper := [⟨some 5, .bin .eql (.t 3) (.k (.c (.int .i64 1))), none, true, []⟩,
 ⟨some 4, .mv (.t 5), none, true, []⟩]
def C105r3 : List AOper := [⟨some 2, .mv (.k (.c (.str ⟨#[100, 110, 105, 107, 70, 77]⟩))), none, true, []⟩]
def C105r4 : List AOper := [⟨some 7, .bin .eql (.t 3) (.k (.c (.int .i64 2))), none, true, []⟩,
 ⟨some 6, .mv (.t 7), none, true, []⟩]
def C105r5 : List AOper := [⟨some 2, .mv (.k (.c (.str ⟨#[100, 110, 109, 116, 107, 70, 77]⟩))), none, true, []⟩]
def C105r6 : List AOper := [⟨some 9, .bin .eql (.t 3) (.k (.c (.int .i64 3))), none, true, []⟩,
 ⟨some 8, .mv (.t 9), none, true, []⟩]
def C105r7 : List AOper := [⟨some 2, .mv (.k (.c (.str ⟨#[100, 110, 109, 115, 116, 107, 70, 78]⟩))), none, true, []⟩]
def C105r8 : List AOper := [⟨some 11, .bin .eql (.t 3) (.k (.c (.int .i64 4))), none, true, []⟩,
 ⟨some 10, .mv (.t 11), none, true, []⟩]
def C105r9 : List AOper := [⟨some 2, .mv (.k (.c (.str ⟨#[100, 110, 115, 107, 105, 106, 70]⟩))), none, true, []⟩]
def C105r10 : List AOper := [⟨some 13, .bin .eql (.t 3) (.k (.c (.int .i64 5))), none, true, []⟩,
 ⟨some 12, .mv (.t 13), none, true, []⟩]
def C105r11 : List AOper := [⟨some 2, .mv (.k (.c (.str ⟨#[100, 115, 105, 107]⟩))), none, true, []⟩]
def C105r12 : List AOper := [⟨some 15, .bin .eql (.t 3) (.k (.c (.int .i64 6))), none, true, []⟩,
 ⟨some 14, .mv (.t 15), none, true, []⟩]
def C105r13 : List AOper := [⟨some 2, .mv (.k (.c (.str ⟨#[100, 110, 115, 105, 106]⟩))), none, true, []⟩]
def C105r14 : List AOper := [⟨some 17, .bin .eql (.t 3) (.k (.c (.int .i64 7))), none, true, []⟩,
 ⟨some 16, .mv (.t 17), none, true, []⟩]
def C105r15 : List AOper := [⟨some 18, .bin .eql (.t 3) (.k (.c (.int .i64 9))), none, true, []⟩,
 ⟨some 16, .mv (.t 18), none, true, []⟩]
def C105r16 : List AOper := [⟨some 2, .mv (.k (.c (.str ⟨#[100, 110, 109, 115]⟩))), none, true, []⟩]
def C105r17 : List AOper := [⟨some 20, .bin .eql (.t 3) (.k (.c (.int .i64 8))), none, true, []⟩,
 ⟨some 19, .mv (.t 20), none, true, []⟩]
def C105r18 : List AOper := [⟨some 2, .mv (.k (.c (.str ⟨#[100, 110, 109, 97, 77]⟩))), none, true, []⟩]
def C105r19 : List AOper := [⟨some 22, .bin .eql (.t 3) (.k (.c (.int .i64 10))), none, true, []⟩,
 ⟨some 21, .mv (.t 22), none, true, []⟩]
def C105r20 : List AOper := [⟨some 2, .mv (.k (.c (.str ⟨#[100, 110, 109, 115, 99]⟩))), none, true, []⟩]
def C105r21 : List AOper := [⟨some 24, .bin .eql (.t 3) (.k (.c (.int .i64 11))), none, true, []⟩,
 ⟨some 23, .mv (.t 24), none, true, []⟩]
def C105r22 : List AOper := [⟨some 2, .mv (.k (.c (.str ⟨#[100, 115, 105]⟩))), none, true, []⟩]
def C105r23 : List AOper := [⟨some 26, .bin .eql (.t 3) (.k (.c (.int .i64 12))), none, true, []⟩,
 ⟨some 25, .mv (.t 26), none, true, []⟩]
def C105r24 : List AOper := [⟨some 2, .mv (.k (.c (.str ⟨#[105, 76]⟩))), none, true, []⟩]
def C105r25 : List AOper := [⟨some 28, .bin .eql (.t 3) (.k (.c (.int .i64 13))), none, true, []⟩,
 ⟨some 27, .mv (.t 28), none, true, []⟩]
def C105r26 : List AOper := [⟨some 2, .mv (.k (.c (.str ⟨#[99, 105]⟩))), none, true, []⟩]
def C105r27 : List AOper := [⟨some 30, .bin .eql (.t 3) (.k (.c (.int .i64 14))), none, true, []⟩,
 ⟨some 29, .mv (.t 30), none, true, []⟩]
def C105r28 : List AOper := [⟨some 2, .mv (.k (.c (.str ⟨#[100, 105, 78]⟩))), none, true, []⟩]
def C105r29 : List AOper := [⟨some 32, .bin .eql (.t 3) (.k (.c (.int .i64 15))), none, true, []⟩,
 ⟨some 31, .mv (.t 32), none, true, []⟩]
def C105r30 : List AOper := [⟨some 2, .mv (.k (.c (.str ⟨#[100, 105, 107, 78]⟩))), none, true, []⟩]
def C105r31 : List AOper := [⟨some 34, .bin .eql (.t 3) (.k (.c (.int .i64 16))), none, true, []⟩,
 ⟨some 33, .mv (.t 34), none, true, []⟩]
def C105r32 : List AOper := [⟨some 2, .mv (.k (.c (.str ⟨#[110, 115]⟩))), none, true, []⟩]
def C105r33 : List AOper := [⟨some 36, .bin .eql (.t 3) (.k (.c (.int .i64 17))), none, true, []⟩,
 ⟨some 35, .mv (.t 36), none, true, []⟩]
def C105r34 : List AOper := [⟨some 37, .bin .eql (.t 3) (.k (.c (.int .i64 18))), none, true, []⟩,
 ⟨some 35, .mv (.t 37), none, true, []⟩]
def C105r35 : List AOper := [⟨some 2, .mv (.k (.c (.str ⟨#[100, 110, 105]⟩))), none, true, []⟩]
def C105r36 : List AOper := [⟨some 39, .bin .eql (.t 3) (.k (.c (.int .i64 19))), none, true, []⟩,
 ⟨some 38, .mv (.t 39), none, true, []⟩]
def C105r37 : List AOper := [⟨some 40, .bin .eql (.t 3) (.k (.c (.int .i64 20))), none, true, []⟩,
 ⟨some 38, .mv (.t 40), none, true, []⟩]
def C105r38 : List AOper := [⟨some 2, .mv (.k (.c (.str ⟨#[100, 110, 109, 107]⟩))), none, true, []⟩]
def C105r39 : List AOper := [⟨some 42, .bin .eql (.t 3) (.k (.c (.int .i64 21))), none, true, []⟩,
 ⟨some 41, .mv (.t 42), none, true, []⟩]
def C105r40 : List AOper := [⟨some 43, .bin .eql (.t 3) (.k (.c (.int .i64 23))), none, true, []⟩,
 ⟨some 41, .mv (.t 43), none, true, []⟩]
def C105r41 : List AOper := [⟨some 2, .mv (.k (.c (.str ⟨#[100, 110, 115]⟩))), none, true, []⟩]
def C105r42 : List AOper := [⟨some 45, .bin .eql (.t 3) (.k (.c (.int .i64 22))), none, true, []⟩,
 ⟨some 44, .mv (.t 45), none, true, []⟩]
def C105r43 : List AOper := [⟨some 2, .mv (.k (.c (.str ⟨#[100, 110]⟩))), none, true, []⟩]
def C105r44 : List AOper := [⟨some 47, .bin .eql (.t 3) (.k (.c (.int .i64 24))), none, true, []⟩,
 ⟨some 46, .mv (.t 47), none, true, []⟩]
def C105r45 : List AOper := [⟨some 2, .mv (.k (.c (.str ⟨#[100, 110, 109, 115]⟩))), none, true, []⟩]
def C105r46 : List AOper := [⟨some 49, .bin .eql (.t 3) (.k (.c (.int .i64 25))), none, true, []⟩,
 ⟨some 48, .mv (.t 49), none, true, []⟩]
def C105r47 : List AOper := [⟨some 50, .bin .eql (.t 3) (.k (.c (.int .i64 27))), none, true, []⟩,
 ⟨some 48, .mv (.t 50), none, true, []⟩]
def C105r48 : List AOper := [⟨some 51, .bin .eql (.t 3) (.k (.c (.int .i64 29))), none, true, []⟩,
 ⟨some 48, .mv (.t 51), none, true, []⟩]
def C105r49 : List AOper := [⟨some 52, .bin .eql (.t 3) (.k (.c (.int .i64 36))), none, true, []⟩,
 ⟨some 48, .mv (.t 52), none, true, []⟩]
def C105r50 : List AOper := [⟨some 2, .mv (.k (.c (.str ⟨#[45]⟩))), none, true, []⟩]
def C105r51 : List AOper := [⟨some 54, .bin .eql (.t 3) (.k (.c (.int .i64 26))), none, true, []⟩,
 ⟨some 53, .mv (.t 54), none, true, []⟩]
def C105r52 : List AOper := [⟨some 55, .bin .eql (.t 3) (.k (.c (.int .i64 33))), none, true, []⟩,
 ⟨some 53, .mv (.t 55), none, true, []⟩]
def C105r53 : List AOper := [⟨some 2, .mv (.k (.c (.str ⟨#[115, 105]⟩))), none, true, []⟩]
def C105r54 : List AOper := [⟨some 57, .bin .eql (.t 3) (.k (.c (.int .i64 28))), none, true, []⟩,
 ⟨some 56, .mv (.t 57), none, true, []⟩]
def C105r55 : List AOper := [⟨some 58, .bin .eql (.t 3) (.k (.c (.int .i64 30))), none, true, []⟩,
 ⟨some 56, .mv (.t 58), none, true, []⟩]
def C105r56 : List AOper := [⟨some 2, .mv (.k (.c (.str ⟨#[100]⟩))), none, true, []⟩]
def C105r57 : List AOper := [⟨some 60, .bin .eql (.t 3) (.k (.c (.int .i64 31))), none, true, []⟩,
 ⟨some 59, .mv (.t 60), none, true, []⟩]
def C105r58 : List AOper := [⟨some 61, .bin .eql (.t 3) (.k (.c (.int .i64 32))), none, true, []⟩,
 ⟨some 59, .mv (.t 61), none, true, []⟩]
def C105r59 : List AOper := [⟨some 2, .mv (.k (.c (.str ⟨#[100, 121]⟩))), none, true, []⟩]
def C105r60 : List AOper := [⟨some 63, .bin .eql (.t 3) (.k (.c (.int .i64 34))), none, true, []⟩,
 ⟨some 62, .mv (.t 63), none, true, []⟩]
def C105r61 : List AOper := [⟨some 64, .bin .eql (.t 3) (.k (.c (.int .i64 35))), none, true, []⟩,
 ⟨some 62, .mv (.t 64), none, true, []⟩]
def C105r62 : List AOper := [⟨some 65, .bin .eql (.t 3) (.k (.c (.int .i64 37))), none, true, []⟩,
 ⟨some 62, .mv (.t 65), none, true, []⟩]
def C105r63 : List AOper := [⟨some 2, .mv (.k (.c (.str ⟨#[105]⟩))), none, true, []⟩]
def C105r64 : List AOper := [⟨some 2, .mv (.k (.c (.str ⟨#[]⟩))), none, true, []⟩]
def C105 : ACode :=
 .seq (.region C105r0)
 (.seq (.seq (.region C105r1)
 (.block 0
 (.seq (.region C105r2)
 (.cond (.t 4)
 (.seq (.region C105r3)
 (.ret))
 (.seq (.region C105r4)
 (.cond (.t 6)
 (.seq (.region C105r5)
 (.ret))
 (.seq (.region C105r6)
 (.cond (.t 8)
 (.seq (.region C105r7)
 (.ret))
 (.seq (.region C105r8)
 (.cond (.t 10)
 (.seq (.region C105r9)
 (.ret))
 (.seq (.region C105r10)
 (.cond (.t 12)
 (.seq (.region C105r11)
 (.ret))
 (.seq (.region C105r12)
 (.cond (.t 14)
 (.seq (.region C105r13)
 (.ret))
 (.seq (.seq (.region C105r14)
 (.cond (.t 16)
 (.skip)
 (.region C105r15)))
 (.cond (.t 16)
 (.seq (.region C105r16)
 (.ret))
 (.seq (.region C105r17)
 (.cond (.t 19)
 (.seq (.region C105r18)
 (.ret))
 (.seq (.region C105r19)
 (.cond (.t 21)
 (.seq (.region C105r20)
 (.ret))
 (.seq (.region C105r21)
 (.cond (.t 23)
 (.seq (.region C105r22)
 (.ret))
 (.seq (.region C105r23)
 (.cond (.t 25)
 (.seq (.region C105r24)
 (.ret))
 (.seq (.region C105r25)
 (.cond (.t 27)
 (.seq (.region C105r26)
 (.ret))
 (.seq (.region C105r27)
 (.cond (.t 29)
 (.seq (.region C105r28)
 (.ret))
 (.seq (.region C105r29)
 (.cond (.t 31)
 (.seq (.region C105r30)
 (.ret))
 (.seq (.region C105r31)
 (.cond (.t 33)
 (.seq (.region C105r32)
 (.ret))
 (.seq (.seq (.region C105r33)
 (.cond (.t 35)
 (.skip)
 (.region C105r34)))
 (.cond (.t 35)
 (.seq (.region C105r35)
 (.ret))
 (.seq (.seq (.region C105r36)
 (.cond (.t 38)
 (.skip)
 (.region C105r37)))
 (.cond (.t 38)
 (.seq (.region C105r38)
 (.ret))
 (.seq (.seq (.region C105r39)
 (.cond (.t 41)
 (.skip)
 (.region C105r40)))
 (.cond (.t 41)
 (.seq (.region C105r41)
 (.ret))
 (.seq (.region C105r42)
 (.cond (.t 44)
 (.seq (.region C105r43)
 (.ret))
 (.seq (.region C105r44)
 (.cond (.t 46)
 (.seq (.region C105r45)
 (.ret))
 (.seq (.seq (.region C105r46)
 (.cond (.t 48)
 (.skip)
 (.seq (.region C105r47)
 (.cond (.t 48)
 (.skip)
 (.seq (.region C105r48)
 (.cond (.t 48)
 (.skip)
 (.region C105r49)))))))
 (.cond (.t 48)
 (.seq (.region C105r50)
 (.ret))
 (.seq (.seq (.region C105r51)
 (.cond (.t 53)
 (.skip)
 (.region C105r52)))
 (.cond (.t 53)
 (.seq (.region C105r53)
 (.ret))
 (.seq (.seq (.region C105r54)
 (.cond (.t 56)
 (.skip)
 (.region C105r55)))
 (.cond (.t 56)
 (.seq (.region C105r56)
 (.ret))
 (.seq (.seq (.region C105r57)
 (.cond (.t 59)
 (.skip)
 (.region C105r58)))
 (.cond (.t 59)
 (.seq (.region C105r59)
 (.ret))
 (.seq (.seq (.region C105r60)
 (.cond (.t 62)
 (.skip)
 (.seq (.region C105r61)
 (.cond (.t 62)
 (.skip)
 (.region C105r62)))))
 (.cond (.t 62)
 (.seq (.region C105r63)
 (.ret))
 (.skip)))))))))))))))))))))))))))))))))))))))))))))))))))))
 (.seq (.region C105r64)
 (.ret)))
theorem C105_ok : stripF Tryz.prog Tryz.f105 = some C105 := by kernel_rfl
def C106r0 : List AOper := [⟨some 4, .mv (.k (.c (.bool false))), none, true, []⟩]
def C106r1 : List AOper := [⟨some 5, .mv (.k (.c (.int .i64 0))), none, true, []⟩]
def C106r2 : List AOper := [⟨some 6, .mv (.t 5), none, true, []⟩,
 ⟨some 7, .mv (.t 0), none, true, []⟩,
 ⟨some 8, .len true (.t 7), none, true, []⟩,
 ⟨some 9, .bin .lss (.t 6) (.t 8), none, true, []⟩]
def C106r3 : List AOper := [⟨some 12, .mv (.t 0), none, true, []⟩,
 ⟨some 13, .mv (.t 5), none, true, []⟩,
 ⟨some 14, .idxT (.t 12) (.t 13), none, true, []⟩,
 ⟨some 15, .mv (.t 1), none, true, []⟩,
 ⟨some 16, .bin .eql (.t 14) (.t 15), none, true, []⟩]
def C106r4 : List AOper := [⟨some 4, .mv (.k (.c (.bool true))), none, true, []⟩]
def C106r5 : List AOper := [⟨some 10, .mv (.t 5), none, true, []⟩,
 ⟨some 11, .bin .add (.t 10) (.k (.c (.int .i64 1))), none, true, []⟩,
 ⟨some 5, .mv (.t 11), none, true, []⟩]
def C106r6 : List AOper := [⟨some 4, .mv (.k (.c (.bool false))), none, true, []⟩]
def C106 : ACode :=
 .seq (.region C106r0)
 (.seq (.seq (.region C106r1)
 (.block 0
 (.loop
 (.seq (.seq (.region C106r2)
 (.cond (.t 9)
 (.skip)
 (.exit 0)))
 (.seq (.block 1
 (.seq (.region C106r3)
 (.cond (.t 16)
 (.seq (.region C106r4)
 (.ret))
 (.skip))))
 (.region C106r5))))))
 (.seq (.region C106r6)
 (.ret)))
theorem C106_ok : stripF Tryz.prog Tryz.f106 = some C106 := by kernel_rfl
def C107r0 : List AOper := [⟨some 6, .mv (.k (.c (.int .u64 0))), none, true, []⟩,
 ⟨some 7, .mv (.k (.c (.int .i64 0))), none, true, []⟩]
def C107r1 : List AOper := [⟨some 10, .mv (.t 2), none, true, []⟩,
 ⟨some 11, .bin .lss (.t 10) (.k (.c (.int .i64 1))), none, true, []⟩,
 ⟨some 12, .mv (.t 11), none, true, []⟩,
 ⟨some 13, .mv (.t 2), some (12, false), true, []⟩,
 ⟨some 14, .bin .gtr (.t 13) (.k (.c (.int .i64 64))), some (12, false), true, []⟩,
 ⟨some 15, .pick 12 (.k (.c (.bool true))) (.t 14), none, true, []⟩,
 ⟨some 16, .mv (.t 15), none, true, []⟩,
 ⟨some 17, .mv (.t 1), some (16, false), true, []⟩,
 ⟨some 18, .bin .lss (.t 17) (.k (.c (.int .i64 0))), some (16, false), true, []⟩,
 ⟨some 19, .pick 16 (.k (.c (.bool true))) (.t 18), none, true, []⟩]
def C107r2 : List AOper := [⟨some 6, .mv (.k (.c (.int .u64 0))), none, true, []⟩,
 ⟨some 7, .mv (.k (.c (.int .i64 1))), none, true, []⟩]
def C107r3 : List AOper := [⟨some 20, .mv (.t 2), none, true, []⟩,
 ⟨some 21, .bin .lss (.t 20) (.k (.c (.int .i64 64))), none, true, []⟩,
 ⟨some 22, .mv (.t 21), none, true, []⟩,
 ⟨some 23, .mv (.t 0), some (22, true), true, []⟩,
 ⟨some 24, .mv (.t 2), some (22, true), true, []⟩,
 ⟨some 25, .bin .shr (.t 23) (.t 24), some (22, true), true, []⟩,
 ⟨some 26, .bin .neq (.t 25) (.k (.c (.int .u64 0))), some (22, true), true, []⟩,
 ⟨some 27, .pick 22 (.t 26) (.k (.c (.bool false))), none, true, []⟩]
def C107r4 : List AOper := [⟨some 6, .mv (.k (.c (.int .u64 0))), none, true, []⟩,
 ⟨some 7, .mv (.k (.c (.int .i64 2))), none, true, []⟩]
def C107r5 : List AOper := [⟨some 8, .mv (.k (.c (.int .u64 0))), none, true, []⟩]
def C107r6 : List AOper := [⟨some 28, .mv (.t 1), none, true, []⟩,
 ⟨some 29, .mv (.t 2), none, true, []⟩,
 ⟨some 30, .bin .rem (.t 28) (.t 29), none, true, []⟩,
 ⟨some 1, .mv (.t 30), none, true, []⟩]
def C107r7 : List AOper := [⟨some 9, .mv (.k (.c (.int .i64 0))), none, true, []⟩]
def C107r8 : List AOper := [⟨some 31, .mv (.t 9), none, true, []⟩,
 ⟨some 32, .mv (.t 2), none, true, []⟩,
 ⟨some 33, .bin .lss (.t 31) (.t 32), none, true, []⟩]
def C107r9 : List AOper := [⟨some 36, .mv (.t 8), none, true, []⟩,
 ⟨some 37, .mv (.t 0), none, true, []⟩,
 ⟨some 38, .mv (.t 9), none, true, []⟩,
 ⟨some 39, .mv (.t 1), none, true, []⟩,
 ⟨some 40, .bin .add (.t 38) (.t 39), none, true, []⟩,
 ⟨some 41, .mv (.t 2), none, true, []⟩,
 ⟨some 42, .bin .rem (.t 40) (.t 41), none, true, []⟩,
 ⟨some 43, .call (.k (.c (.fn 108 [] []))) [(.t 37), (.t 42)], none, true, []⟩,
 ⟨some 44, .mv (.t 9), none, true, []⟩,
 ⟨some 45, .bin .shl (.t 43) (.t 44), none, true, []⟩,
 ⟨some 46, .bin .or (.t 36) (.t 45), none, true, []⟩,
 ⟨some 8, .mv (.t 46), none, true, []⟩]
def C107r10 : List AOper := [⟨some 34, .mv (.t 9), none, true, []⟩,
 ⟨some 35, .bin .add (.t 34) (.k (.c (.int .i64 1))), none, true, []⟩,
 ⟨some 9, .mv (.t 35), none, true, []⟩]
def C107r11 : List AOper := [⟨some 47, .mv (.t 8), none, true, []⟩,
 ⟨some 6, .mv (.t 47), none, true, []⟩,
 ⟨some 7, .mv (.k (.c (.int .i64 0))), none, true, []⟩]
def C107 : ACode :=
 .seq (.region C107r0)
 (.seq (.seq (.region C107r1)
 (.cond (.t 19)
 (.seq (.region C107r2)
 (.ret))
 (.skip)))
 (.seq (.seq (.region C107r3)
 (.cond (.t 27)
 (.seq (.region C107r4)
 (.ret))
 (.skip)))
 (.seq (.region C107r5)
 (.seq (.region C107r6)
 (.seq (.seq (.region C107r7)
 (.block 0
 (.loop
 (.seq (.seq (.region C107r8)
 (.cond (.t 33)
 (.skip)
 (.exit 0)))
 (.seq (.block 1
 (.region C107r9))
 (.region C107r10))))))
 (.seq (.region C107r11)
 (.ret)))))))
theorem C107_ok : stripF Tryz.prog Tryz.f107 = some C107 := by kernel_rfl
def C108r0 : List AOper := [⟨some 4, .mv (.k (.c (.int .u64 0))), none, true, []⟩]
def C108r1 : List AOper := [⟨some 5, .mv (.t 0), none, true, []⟩,
 ⟨some 6, .mv (.t 1), none, true, []⟩,
 ⟨some 7, .bin .shr (.t 5) (.t 6), none, true, []⟩,
 ⟨some 8, .bin .and (.t 7) (.k (.c (.int .u64 1))), none, true, []⟩,
 ⟨some 4, .mv (.t 8), none, true, []⟩]
def C108 : ACode :=
 .seq (.region C108r0)
 (.seq (.region C108r1)
 (.ret))
theorem C108_ok : stripF Tryz.prog Tryz.f108 = some C108 := by kernel_rfl
end Go.Proofs.YteikpddilabppaaGreatR

namespace Go.Proofs.YteikpddilabppaaGreatR
open Go.AM
set_option maxRecDepth 100000
def lowS (n many : Int) : Int := IntKind.u32.wrap (BitVec.ofInt IntKind.u32.bits (IntKind.u32.wrap (IntKind.u64.wrap n)) &&& BitVec.ofInt IntKind.u32.bits (IntKind.u32.wrap (IntKind.u32.wrap (1 * 2 ^ min many.toNat IntKind.u32.bits) - 1))).toNat
def whenS (b : Bool) (w : Int) : Int := match b with | true => w | false => 0
def inS (n a b : Int) : Bool := decide (n ≥ a) && decide (n ≤ b)
def stepS (n o a b : Int) : Bool := ((n.tmod o == 0) && decide (n ≥ a)) && decide (n ≤ b)
def bitU (v n : Int) : Int := IntKind.u64.wrap (BitVec.ofInt IntKind.u64.bits (v.fdiv (2 ^ min n.toNat IntKind.u64.bits)) &&& BitVec.ofInt IntKind.u64.bits 1).toNat
theorem con14 (n many : Int) (hm : 0 ≤ many) (H : Heap) : Con Tryz.prog 14 [.c (.int .i64 n), .c (.int .i64 many)] H (fun v H' => v = .c (.int .u32 (lowS n many)) ∧ H' = H) := by
  refine Con.pure ?_ (by simp only [leArgs, leV, leV1, leC, and_self]) rfl H
  (refine con_of_run mixed (fn := Tryz.f14) (by kernel_rfl) (by kernel_rfl) C14_ok (rs := [.tmp 4]) (by kernel_rfl) (Nat.le_of_ble_eq_true (by kernel_rfl)) ?_; unfold C14; simp only [initT, Nat.reduceAdd])
  repeat' (first | refine run_seq ?_ | (refine run_region fun K hK => ?_; (try (simp (maxSteps := 10000000) only [C14r0, C14r1, rwp_nil, rwp_cons, aop, gpath, St.get, slotAt, sfx, eqP, St.put, addBlk, bin, isShift, sameK, arith, shiftR, shed, imp])); (repeat (first | (refine And.intro ?_ ?_; · (first | assumption | omega | (intros; omega))))); with_reducible refine hK _ ?_; clear hK K) | refine run_ret ?_ | refine run_nil ?_)
  exact end_tmp1 rfl ⟨rfl, rfl⟩ rfl ⟨rfl, rfl⟩
theorem con15 (b : Bool) (w : Int) (H : Heap) : Con Tryz.prog 15 [.c (.bool b), .c (.int .u32 w)] H (fun v H' => v = .c (.int .u32 (whenS b w)) ∧ H' = H) := by
  refine Con.pure ?_ (by simp only [leArgs, leV, leV1, leC, and_self]) rfl H
  cases b
  all_goals
    (refine con_of_run mixed (fn := Tryz.f15) (by kernel_rfl) (by kernel_rfl) C15_ok (rs := [.tmp 4]) (by kernel_rfl) (Nat.le_of_ble_eq_true (by kernel_rfl)) ?_; unfold C15; simp only [initT, Nat.reduceAdd])
    repeat' (first | refine run_seq ?_ | refine run_skip ?_ | (refine run_region fun K hK => ?_; (try (simp (maxSteps := 10000000) only [C15r0, C15r1, C15r2, C15r3, rwp_nil, rwp_cons, aop, gpath, St.get, slotAt, sfx, eqP, St.put, addBlk, shed])); (repeat (first | (refine And.intro ?_ ?_; · (first | assumption | omega | (intros; omega))))); with_reducible refine hK _ ?_; clear hK K) | (refine run_cond rfl (fun hc => ?_) (fun hc => ?_) <;> try (simp only [*, Bool.true_eq_false, Bool.false_eq_true] at hc; done)) | refine run_ret ?_ | refine run_nil ?_)
    exact end_tmp1 rfl ⟨rfl, rfl⟩ rfl ⟨rfl, rfl⟩
theorem con65 (n a b : Int) (H : Heap) : Con Tryz.prog 65 [.c (.int .i64 n), .c (.int .i64 a), .c (.int .i64 b)] H (fun v H' => v = .c (.bool (inS n a b)) ∧ H' = H) := by
  refine Con.pure ?_ (by simp only [leArgs, leV, leV1, leC, and_self]) rfl H
  (refine con_of_run mixed (fn := Tryz.f65) (by kernel_rfl) (by kernel_rfl) C65_ok (rs := [.tmp 6]) (by kernel_rfl) (Nat.le_of_ble_eq_true (by kernel_rfl)) ?_; unfold C65; simp only [initT, Nat.reduceAdd])
  repeat' (first | refine run_seq ?_ | (refine run_region fun K hK => ?_; (try (simp (maxSteps := 10000000) only [C65r0, C65r1, rwp_nil, rwp_cons, aop, gpath, St.get, slotAt, sfx, eqP, St.put, addBlk, bin, isShift, sameK, arith, getsl, selB_and, beqb, shed])); (repeat (first | (refine And.intro ?_ ?_; · (first | assumption | omega | (intros; omega))))); with_reducible refine hK _ ?_; clear hK K) | refine run_ret ?_ | refine run_nil ?_)
  exact end_tmp1 rfl rfl rfl ⟨rfl, rfl⟩
theorem con67 (n o a b : Int) (ho : o ≠ 0) (ho' : -1000000 < o ∧ o < 1000000) (H : Heap) : Con Tryz.prog 67 [.c (.int .i64 n), .c (.int .i64 o), .c (.int .i64 a), .c (.int .i64 b)] H (fun v H' => v = .c (.bool (stepS n o a b)) ∧ H' = H) := by
  refine Con.pure ?_ (by simp only [leArgs, leV, leV1, leC, and_self]) rfl H
  (refine con_of_run mixed (fn := Tryz.f67) (by kernel_rfl) (by kernel_rfl) C67_ok (rs := [.tmp 8]) (by kernel_rfl) (Nat.le_of_ble_eq_true (by kernel_rfl)) ?_; unfold C67; simp only [initT, Nat.reduceAdd])
  repeat' (first | refine run_seq ?_ | (refine run_region fun K hK => ?_; (try (simp (maxSteps := 10000000) only [C67r0, C67r1, rwp_nil, rwp_cons, aop, gpath, St.get, slotAt, sfx, eqP, St.put, addBlk, bin, isShift, sameK, arith, getsl, selB_and, beqb, shed, imp])); (repeat (first | (refine And.intro ?_ ?_; · (first | assumption | omega | (intros; omega))))); with_reducible refine hK _ ?_; clear hK K) | refine run_ret ?_ | refine run_nil ?_)
  exact end_tmp1 rfl rfl rfl ⟨congrArg (fun b => AV.c (.bool b)) (by unfold stepS; rw [Bool.and_assoc] <;> simp [Bool.and_assoc]), rfl⟩
theorem con108 (y n : Int) (hn : 0 ≤ n) (H : Heap) : Con Tryz.prog 108 [.c (.int .u64 y), .c (.int .i64 n)] H (fun v H' => v = .c (.int .u64 (bitU y n)) ∧ H' = H) := by
  refine Con.pure ?_ (by simp only [leArgs, leV, leV1, leC, and_self]) rfl H
  (refine con_of_run mixed (fn := Tryz.f108) (by kernel_rfl) (by kernel_rfl) C108_ok (rs := [.tmp 4]) (by kernel_rfl) (Nat.le_of_ble_eq_true (by kernel_rfl)) ?_; unfold C108; simp only [initT, Nat.reduceAdd])
  repeat' (first | refine run_seq ?_ | (refine run_region fun K hK => ?_; (try (simp (maxSteps := 10000000) only [C108r0, C108r1, rwp_nil, rwp_cons, aop, gpath, St.get, slotAt, sfx, eqP, St.put, addBlk, bin, isShift, sameK, arith, shiftR, shed, imp])); (repeat (first | (refine And.intro ?_ ?_; · (first | assumption | omega | (intros; omega))))); with_reducible refine hK _ ?_; clear hK K) | refine run_ret ?_ | refine run_nil ?_)
  exact end_tmp1 rfl ⟨rfl, rfl⟩ rfl ⟨rfl, rfl⟩
def hasL (f : ByteArray) (b : Int) : Nat → Nat → Bool
  | 0, _ => false
  | m + 1, k => (byteAt f k == b) || hasL f b m (k + 1)
def hasC (f : ByteArray) (b : Int) : Bool := hasL f b f.size 0
def hasSt (f : ByteArray) (b : Int) (k : Nat) : St := ⟨[⟨5, [], .c (.int .i64 k)⟩, ⟨0, [], .c (.str f)⟩, ⟨1, [], .c (.int .u8 b)⟩], ⟨0, []⟩⟩
theorem con106 (f : ByteArray) (b : Int) (hf : f.size < 1000) (H : Heap) : Con Tryz.prog 106 [.c (.str f), .c (.int .u8 b)] H (fun v H' => v = .c (.bool (hasC f b)) ∧ H' = H) := by
  refine Con.pure ?_ (by simp only [leArgs, leV, leV1, leC, and_self]) rfl H
  (refine con_of_run mixed (fn := Tryz.f106) (by kernel_rfl) (by kernel_rfl) C106_ok (rs := [.tmp 4]) (by kernel_rfl) (Nat.le_of_ble_eq_true (by kernel_rfl)) ?_; unfold C106; simp only [initT, Nat.reduceAdd])
  generalize hT : hasC f b = T
  unfold hasC at hT
  repeat' (first | refine run_seq ?_ | refine run_skip ?_ | (refine run_region fun K hK => ?_; (try (simp (maxSteps := 10000000) only [C106r0, rwp_nil, rwp_cons, aop, gpath, St.get, St.put, addBlk, shed])); (repeat (first | (refine And.intro ?_ ?_; · decide))); with_reducible refine hK _ ?_; clear hK K) | (refine run_cond rfl (fun hc => ?_) (fun hc => ?_) <;> try (simp only [*, Bool.true_eq_false, Bool.false_eq_true, Bool.not_true, Bool.not_false, Bool.true_or, Bool.or_true, Bool.false_or, Bool.or_false, Bool.false_and, Bool.and_false, bne_self_eq_false, beq_self_eq_true] at hc; done)) | refine run_block ?_ | refine run_ret ?_ | refine run_nil ?_ | refine run_exit ?_ | refine blk_normal ?_ | refine blk_ret ?_ | refine blk_here ?_ | refine blk_there rfl ?_ | refine loop_exit ?_ | refine loop_ret ?_ | refine un_exit ?_ | refine un_ret ?_ | refine unE_exit ?_ | refine unE_ret ?_ | refine un_normal ?_)
  (refine run_regionL fun K hK => ?_; (try (simp (maxSteps := 10000000) only [C106r1, rwp_nil, rwp_cons, aop, gpath, St.get, St.put, addBlk, shed])); (repeat (refine And.intro ?_ ?_; · first | trivial | assumption | omega)); refine hK _ (hasSt f b 0) ((LeS.intro [] (fun i h => absurd h (Nat.not_lt_zero i)) trivial rfl (by simp only [hasSt, slotsLe, slotAt, leV, leV1, leC, and_self, Int.natCast_zero]) trivial)) ?_; clear hK K)
  refine run_block ?_
  refine run_loop (fun q st => ∃ k : Nat, st = hasSt f b k ∧ q = f.size - k ∧ k ≤ f.size ∧ hasL f b (f.size - k) k = T) f.size ⟨0, rfl, rfl, Nat.zero_le _, hT⟩ ?_
  clear hT
  rintro q st ⟨k, rfl, hq, hk, hT⟩
  simp only [hasSt]
  repeat' (first | refine run_seq ?_ | refine run_skip ?_ | (refine run_region fun K hK => ?_; (try (simp (maxSteps := 10000000) only [C106r2, C106r3, C106r4, C106r5, C106r6, rwp_nil, rwp_cons, aop, gpath, St.get, slotAt, sfx, eqP, St.put, addBlk, bin, isShift, sameK, arith, shed, imp, idxT, Int.toNat_natCast])); (repeat (first | (refine And.intro ?_ ?_; · (first | omega | (simp only [decide_eq_true_eq] at hc; omega))))); with_reducible refine hK _ ?_; clear hK K) | (refine run_cond rfl (fun hc => ?_) (fun hc => ?_) <;> try (simp only [*, Bool.true_eq_false, Bool.false_eq_true, Bool.not_true, Bool.not_false, Bool.true_or, Bool.or_true, Bool.false_or, Bool.or_false, Bool.false_and, Bool.and_false, bne_self_eq_false, beq_self_eq_true] at hc; done)) | refine run_block ?_ | refine run_ret ?_ | refine run_nil ?_ | refine run_exit ?_ | refine blk_normal ?_ | refine blk_ret ?_ | refine blk_here ?_ | refine blk_there rfl ?_ | refine loop_exit ?_ | refine loop_ret ?_ | refine un_exit ?_ | refine un_ret ?_ | refine unE_exit ?_ | refine unE_ret ?_ | refine un_normal ?_)
  · have hlt : k < f.size := by simpa using ‹decide ((k : Int) < (f.size : Int)) = true›
    obtain ⟨m, hm⟩ : ∃ m, f.size - k = m + 1 := ⟨f.size - k - 1, by omega⟩
    rw [hm] at hT
    unfold hasL at hT
    have hb : (byteAt f k == b) = true := by assumption
    rw [hb, Bool.true_or] at hT
    subst hT
    exact end_tmp1 rfl rfl rfl ⟨rfl, rfl⟩
  · have hlt : k < f.size := by simpa using ‹decide ((k : Int) < (f.size : Int)) = true›
    obtain ⟨m, hm⟩ : ∃ m, f.size - k = m + 1 := ⟨f.size - k - 1, by omega⟩
    have hw : IntKind.i64.wrap ((k : Int) + 1) = ((k + 1 : Nat) : Int) := by rw [IntKind.wrap_i64]; omega
    rw [hm] at hT
    unfold hasL at hT
    have hb : (byteAt f k == b) = false := by assumption
    rw [hb, Bool.false_or] at hT
    rw [hw]
    exact loop_normal m (hasSt f b (k + 1)) (by omega) (LeS.intro [] (fun i h => absurd h (Nat.not_lt_zero i)) trivial rfl (by simp only [hasSt, slotsLe, slotAt, leV, leV1, leC, and_self]) trivial) ⟨k + 1, rfl, by omega, by omega, by rw [show f.size - (k + 1) = m by omega]; exact hT⟩
  · have hge : ¬ k < f.size := by simpa using ‹decide ((k : Int) < (f.size : Int)) = false›
    have h0 : f.size - k = 0 := by omega
    rw [h0] at hT
    have e : false = T := hT
    subst e
    exact end_tmp1 rfl rfl rfl ⟨rfl, rfl⟩
def sysBk : Blk := ⟨1, some 18, fun i => [.c (.int .i64 (sysL i))], 3, true⟩
def sysSt (n : Int) (k : Nat) : St := ⟨[⟨4, [], .c (.int .i64 k)⟩, ⟨3, [], .c (.slice ⟨0, 0, 0, 0⟩ false 18)⟩, ⟨0, [], .c (.int .i64 n)⟩], ⟨1, [(0, sysBk)]⟩⟩
theorem con68 (n : Int) (H : Heap) : Con Tryz.prog 68 [.c (.int .i64 n)] H (fun v H' => v = .c (.bool (inL sysL 18 n)) ∧ H' = H) := by
  refine Con.pure ?_ (by simp only [leArgs, leV, leV1, leC, and_self]) rfl H
  (refine con_of_run mixed (fn := Tryz.f68) (by kernel_rfl) (by kernel_rfl) C68_ok (rs := [.tmp 2]) (by kernel_rfl) (Nat.le_of_ble_eq_true (by kernel_rfl)) ?_; unfold C68; simp only [initT])
  generalize hT : inL sysL 18 n = T
  unfold inL at hT
  have hT0 : ∃ z, idxL sysL n 18 0 = z ∧ decide (z ≥ 0) = T := ⟨_, rfl, hT⟩
  clear hT
  repeat' (first | refine run_seq ?_ | refine run_skip ?_ | (refine run_region fun K hK => ?_; (try (simp (maxSteps := 10000000) only [repl, rowsFit, rowFn, C68r0, C68r1, rwp_nil, rwp_cons, aop, gpath, St.get, slotAt, sfx, eqP, segsOf, St.put, addBlk, nsub, shed, Nat.beq, Seg.size, sizes, cut, takeS, dropS, putS, partsOf, fillS, Nat.reduceAdd, List.append_nil, List.nil_append, List.cons_append])); (repeat (first | (refine And.intro ?_ ?_; · decide))); with_reducible refine hK _ ?_; clear hK K) | (refine run_cond rfl (fun hc => ?_) (fun hc => ?_) <;> try (simp only [*, Bool.true_eq_false, Bool.false_eq_true, Bool.not_true, Bool.not_false, Bool.true_or, Bool.or_true, Bool.false_or, Bool.or_false, Bool.false_and, Bool.and_false, bne_self_eq_false, beq_self_eq_true] at hc; done)) | refine run_block ?_ | refine run_ret ?_ | refine run_nil ?_ | refine run_exit ?_ | refine blk_normal ?_ | refine blk_ret ?_ | refine blk_here ?_ | refine blk_there rfl ?_ | refine loop_exit ?_ | refine loop_ret ?_ | refine un_exit ?_ | refine un_ret ?_ | refine unE_exit ?_ | refine unE_ret ?_ | refine un_normal ?_)
  (refine run_regionL fun K hK => ?_; (try (simp (maxSteps := 10000000) only [C68r2, rwp_nil, rwp_cons, aop, gpath, St.get, St.put, addBlk, shed])); (repeat (refine And.intro ?_ ?_; · first | trivial | assumption | omega)); refine hK _ (sysSt n 0) ((LeS.intro [0] (fun i h => absurd h (Nat.not_lt_zero i)) (by simp only [diff, notIn, and_self]) rfl (by simp only [sysSt, slotsLe, slotAt, leV, leV1, leC, leA, nthO, and_self, Int.natCast_zero]) ⟨⟨rfl, rfl, id, Nat.le_refl _, fun i hi => by
    show leSegs _ (cutD _ (i * 1) 1) _
    rw [sys_rows i hi]
    exact ⟨⟨rfl, rfl⟩, trivial⟩⟩, trivial⟩)) ?_; clear hK K)
  refine run_block ?_
  refine run_loop (fun q st => ∃ k : Nat, st = sysSt n k ∧ q = 18 - k ∧ k ≤ 18 ∧ ∃ z, idxL sysL n (18 - k) k = z ∧ decide (z ≥ 0) = T) 18 ⟨0, rfl, rfl, by decide, hT0⟩ ?_
  clear hT0
  rintro q st ⟨k, rfl, hq, hk, z, hz, hT⟩
  simp only [sysSt, sysBk]
  repeat' (first | refine run_seq ?_ | refine run_skip ?_ | (refine run_region fun K hK => ?_; (try (simp (maxSteps := 10000000) only [C68r3, C68r4, C68r5, C68r6, C68r7, rwp_nil, rwp_cons, aop, gpath, St.get, slotAt, sfx, eqP, St.put, addBlk, getB, ld1, rowNeed, segAt, bin, isShift, sameK, arith, shed, addN, Nat.beq, imp, strOk, plusA, Int.toNat_natCast])); (repeat (first | (refine And.intro ?_ ?_; · (first | decide | omega | (simp only [decide_eq_true_eq] at hc; omega))))); with_reducible refine hK _ ?_; clear hK K) | (refine run_cond rfl (fun hc => ?_) (fun hc => ?_) <;> try (simp only [*, Bool.true_eq_false, Bool.false_eq_true, Bool.not_true, Bool.not_false, Bool.true_or, Bool.or_true, Bool.false_or, Bool.or_false, Bool.false_and, Bool.and_false, bne_self_eq_false, beq_self_eq_true] at hc; done)) | refine run_block ?_ | refine run_ret ?_ | refine run_nil ?_ | refine run_exit ?_ | refine blk_normal ?_ | refine blk_ret ?_ | refine blk_here ?_ | refine blk_there rfl ?_ | refine loop_exit ?_ | refine loop_ret ?_ | refine un_exit ?_ | refine un_ret ?_ | refine unE_exit ?_ | refine unE_ret ?_ | refine un_normal ?_)
  · have hlt : k < 18 := by have := of_decide_eq_true ‹decide ((k : Int) < 18) = true›; omega
    obtain ⟨m, hm⟩ : ∃ m, 18 - k = m + 1 := ⟨17 - k, by omega⟩
    have hb : (sysL k == n) = true := by assumption
    rw [hm] at hz
    unfold idxL at hz
    rw [if_pos (by simpa using hb : sysL k = n).symm] at hz
    have e : T = true := by rw [← hT, ← hz]; exact decide_eq_true (by omega)
    subst e
    exact end_tmp1 rfl rfl rfl ⟨rfl, rfl⟩
  · have hlt : k < 18 := by have := of_decide_eq_true ‹decide ((k : Int) < 18) = true›; omega
    obtain ⟨m, hm⟩ : ∃ m, 18 - k = m + 1 := ⟨17 - k, by omega⟩
    have hw : IntKind.i64.wrap ((k : Int) + 1) = ((k + 1 : Nat) : Int) := by rw [IntKind.wrap_i64]; omega
    have hb : (sysL k == n) = false := by assumption
    rw [hm] at hz
    unfold idxL at hz
    have hb' : ¬ sysL k = n := by simpa using hb
    rw [if_neg (fun h => hb' h.symm)] at hz
    rw [hw]
    exact loop_normal m (sysSt n (k + 1)) (by omega) (LeS.intro [0] (fun i h => absurd h (Nat.not_lt_zero i)) (by simp only [diff, notIn, and_self]) rfl (by simp only [sysSt, slotsLe, slotAt, leV, leV1, leC, leA, nthO, and_self]) ⟨⟨rfl, rfl, id, Nat.le_refl _, fun _ _ => ⟨⟨rfl, rfl⟩, trivial⟩⟩, trivial⟩) ⟨k + 1, rfl, by omega, by omega, z, by rw [show 18 - (k + 1) = m by omega]; exact hz, hT⟩
  · have hge : ¬ k < 18 := by have := of_decide_eq_false ‹decide ((k : Int) < 18) = false›; omega
    have h0 : 18 - k = 0 := by omega
    rw [h0] at hz
    have e : T = false := by
      rw [← hT, ← hz]
      rfl
    subst e
    exact end_tmp1 rfl rfl rfl ⟨rfl, rfl⟩
set_option maxHeartbeats 8000000 in
theorem con105 (k : Int) (f : ByteArray) (hk : (k = 1 ∧ f = ⟨#[100, 110, 105, 107, 70, 77]⟩) ∨ (k = 2 ∧ f = ⟨#[100, 110, 109, 116, 107, 70, 77]⟩) ∨ (k = 3 ∧ f = ⟨#[100, 110, 109, 115, 116, 107, 70, 78]⟩) ∨ (k = 4 ∧ f = ⟨#[100, 110, 115, 107, 105, 106, 70]⟩) ∨ (k = 5 ∧ f = ⟨#[100, 115, 105, 107]⟩) ∨ (k = 6 ∧ f = ⟨#[100, 110, 115, 105, 106]⟩) ∨ (k = 7 ∧ f = ⟨#[100, 110, 109, 115]⟩) ∨ (k = 8 ∧ f = ⟨#[100, 110, 109, 97, 77]⟩) ∨ (k = 9 ∧ f = ⟨#[100, 110, 109, 115]⟩) ∨ (k = 10 ∧ f = ⟨#[100, 110, 109, 115, 99]⟩) ∨ (k = 11 ∧ f = ⟨#[100, 115, 105]⟩) ∨ (k = 12 ∧ f = ⟨#[105, 76]⟩) ∨ (k = 13 ∧ f = ⟨#[99, 105]⟩) ∨ (k = 14 ∧ f = ⟨#[100, 105, 78]⟩) ∨ (k = 15 ∧ f = ⟨#[100, 105, 107, 78]⟩) ∨ (k = 16 ∧ f = ⟨#[110, 115]⟩) ∨ (k = 17 ∧ f = ⟨#[100, 110, 105]⟩) ∨ (k = 18 ∧ f = ⟨#[100, 110, 105]⟩) ∨ (k = 19 ∧ f = ⟨#[100, 110, 109, 107]⟩) ∨ (k = 20 ∧ f = ⟨#[100, 110, 109, 107]⟩) ∨ (k = 21 ∧ f = ⟨#[100, 110, 115]⟩) ∨ (k = 22 ∧ f = ⟨#[100, 110]⟩) ∨ (k = 23 ∧ f = ⟨#[100, 110, 115]⟩) ∨ (k = 24 ∧ f = ⟨#[100, 110, 109, 115]⟩) ∨ (k = 25 ∧ f = ⟨#[45]⟩) ∨ (k = 26 ∧ f = ⟨#[115, 105]⟩) ∨ (k = 27 ∧ f = ⟨#[45]⟩) ∨ (k = 28 ∧ f = ⟨#[100]⟩) ∨ (k = 29 ∧ f = ⟨#[45]⟩) ∨ (k = 30 ∧ f = ⟨#[100]⟩) ∨ (k = 31 ∧ f = ⟨#[100, 121]⟩) ∨ (k = 32 ∧ f = ⟨#[100, 121]⟩) ∨ (k = 33 ∧ f = ⟨#[115, 105]⟩) ∨ (k = 34 ∧ f = ⟨#[105]⟩) ∨ (k = 35 ∧ f = ⟨#[105]⟩) ∨ (k = 36 ∧ f = ⟨#[45]⟩) ∨ (k = 37 ∧ f = ⟨#[105]⟩)) (H : Heap) : Con Tryz.prog 105 [.c (.int .i64 k)] H (fun v H' => v = .c (.str f) ∧ H' = H) := by
  refine Con.pure ?_ (by simp only [leArgs, leV, leV1, leC, and_self]) rfl H
  rcases hk with ⟨rfl, rfl⟩ | ⟨rfl, rfl⟩ | ⟨rfl, rfl⟩ | ⟨rfl, rfl⟩ | ⟨rfl, rfl⟩ | ⟨rfl, rfl⟩ | ⟨rfl, rfl⟩ | ⟨rfl, rfl⟩ | ⟨rfl, rfl⟩ | ⟨rfl, rfl⟩ | ⟨rfl, rfl⟩ | ⟨rfl, rfl⟩ | ⟨rfl, rfl⟩ | ⟨rfl, rfl⟩ | ⟨rfl, rfl⟩ | ⟨rfl, rfl⟩ | ⟨rfl, rfl⟩ | ⟨rfl, rfl⟩ | ⟨rfl, rfl⟩ | ⟨rfl, rfl⟩ | ⟨rfl, rfl⟩ | ⟨rfl, rfl⟩ | ⟨rfl, rfl⟩ | ⟨rfl, rfl⟩ | ⟨rfl, rfl⟩ | ⟨rfl, rfl⟩ | ⟨rfl, rfl⟩ | ⟨rfl, rfl⟩ | ⟨rfl, rfl⟩ | ⟨rfl, rfl⟩ | ⟨rfl, rfl⟩ | ⟨rfl, rfl⟩ | ⟨rfl, rfl⟩ | ⟨rfl, rfl⟩ | ⟨rfl, rfl⟩ | ⟨rfl, rfl⟩ | ⟨rfl, rfl⟩
  all_goals
    (refine con_of_run mixed (fn := Tryz.f105) (by kernel_rfl) (by kernel_rfl) C105_ok (rs := [.tmp 2]) (by kernel_rfl) (Nat.le_of_ble_eq_true (by kernel_rfl)) ?_; unfold C105; simp only [initT])
    repeat' (first | refine run_seq ?_ | refine run_skip ?_ | (refine run_region fun K hK => ?_; (try (simp (maxSteps := 10000000) only [Int.reduceBEq, C105r0, C105r1, C105r2, C105r3, C105r4, C105r5, C105r6, C105r7, C105r8, C105r9, C105r10, C105r11, C105r12, C105r13, C105r14, C105r15, C105r16, C105r17, C105r18, C105r19, C105r20, C105r21, C105r22, C105r23, C105r24, C105r25, C105r26, C105r27, C105r28, C105r29, C105r30, C105r31, C105r32, C105r33, C105r34, C105r35, C105r36, C105r37, C105r38, C105r39, C105r40, C105r41, C105r42, C105r43, C105r44, C105r45, C105r46, C105r47, C105r48, C105r49, C105r50, C105r51, C105r52, C105r53, C105r54, C105r55, C105r56, C105r57, C105r58, C105r59, C105r60, C105r61, C105r62, C105r63, rwp_nil, rwp_cons, aop, gpath, St.get, slotAt, sfx, eqP, St.put, addBlk, bin, isShift, sameK, arith, shed])); (repeat (first | (refine And.intro ?_ ?_; · first | trivial | assumption | omega))); with_reducible refine hK _ ?_; clear hK K) | (refine run_cond rfl (fun hc => ?_) (fun hc => ?_) <;> try (simp only [*, Bool.true_eq_false, Bool.false_eq_true] at hc; done)) | refine run_block ?_ | refine run_ret ?_ | refine run_nil ?_ | refine blk_normal ?_ | refine blk_ret ?_ | refine blk_here ?_ | refine blk_there rfl ?_)
    exact end_tmp1 rfl rfl rfl ⟨rfl, rfl⟩
theorem con105_no (op : Int) (h : noOp op) (H : Heap) : Con Tryz.prog 105 [.c (.int .i64 op)] H (fun v H' => v = .c (.str ⟨#[]⟩) ∧ H' = H) := by
  refine Con.pure ?_ (by simp only [leArgs, leV, leV1, leC, and_self]) rfl H
  unfold noOp at h
  (refine con_of_run mixed (fn := Tryz.f105) (by kernel_rfl) (by kernel_rfl) C105_ok (rs := [.tmp 2]) (by kernel_rfl) (Nat.le_of_ble_eq_true (by kernel_rfl)) ?_; unfold C105; simp only [initT])
  repeat' (first | refine run_seq ?_ | refine run_skip ?_ | (refine run_region fun K hK => ?_; (try (simp (maxSteps := 10000000) only [h, C105r0, C105r1, C105r2, C105r4, C105r6, C105r8, C105r10, C105r12, C105r14, C105r15, C105r17, C105r19, C105r21, C105r23, C105r25, C105r27, C105r29, C105r31, C105r33, C105r34, C105r36, C105r37, C105r39, C105r40, C105r42, C105r44, C105r46, C105r47, C105r48, C105r49, C105r51, C105r52, C105r54, C105r55, C105r57, C105r58, C105r60, C105r61, C105r62, C105r64, rwp_nil, rwp_cons, aop, gpath, St.get, slotAt, sfx, eqP, St.put, addBlk, bin, isShift, sameK, arith, shed])); (repeat (first | (refine And.intro ?_ ?_; · first | trivial | assumption | omega))); with_reducible refine hK _ ?_; clear hK K) | (refine run_cond rfl (fun hc => ?_) (fun hc => ?_) <;> try (simp only [*, Bool.false_eq_true] at hc; done)) | refine run_block ?_ | refine run_ret ?_ | refine run_nil ?_ | refine blk_normal ?_ | refine blk_ret ?_ | refine blk_here ?_ | refine blk_there rfl ?_)
  exact end_tmp1 rfl rfl rfl ⟨rfl, rfl⟩
end Go.Proofs.YteikpddilabppaaGreatR

namespace Go.Proofs.YteikpddilabppaaGreatR
open Go.AM
set_option maxRecDepth 100000
def numF (i : InsnS) : Nat → Int
  | 0 => i.rd
  | 1 => i.rn
  | 2 => i.rm
  | 3 => i.ra
  | 4 => i.imm
  | 5 => i.imm2
  | 6 => i.amount
  | 7 => i.shift
  | 8 => i.sub
  | 9 => i.cond
  | _ => i.sys
def flgF (i : InsnS) : Nat → Bool
  | 0 => i.flags
  | 1 => i.minus
  | 2 => i.not_
  | _ => i.link
def numBad (i : InsnS) (f : ByteArray) (k : Nat) : Bool := ((!hasC f (byteAt ⟨#[100, 110, 109, 97, 105, 106, 107, 116, 115, 99, 121]⟩ k)) && (numF i k != 0)) || ((hasC f (byteAt ⟨#[100, 110, 109, 97, 105, 106, 107, 116, 115, 99, 121]⟩ k) && decide ((k : Int) < 4)) && (decide (numF i k < 0) || decide (numF i k > 31)))
def flgBad (i : InsnS) (f : ByteArray) (k : Nat) : Bool := (!hasC f (byteAt ⟨#[70, 77, 78, 76]⟩ k)) && flgF i k
def clearN (i : InsnS) (f : ByteArray) : Nat → Nat → Bool
  | 0, _ => true
  | m + 1, k => !numBad i f k && clearN i f m (k + 1)
def clearF (i : InsnS) (f : ByteArray) : Nat → Nat → Bool
  | 0, _ => true
  | m + 1, k => !flgBad i f k && clearF i f m (k + 1)
def clearB (i : InsnS) (f : ByteArray) : Bool := clearN i f 11 0 && clearF i f 4 0
def numB (i : InsnS) : Blk := ⟨1, some 11, fun k => [.c (.int .i64 (numF i k))], 3, true⟩
def flgB (i : InsnS) : Blk := ⟨1, some 4, fun k => [.c (.bool (flgF i k))], 4, true⟩
theorem num_rows (i : InsnS) : ∀ k, k < 11 → cutD [Seg.c (.int .i64 i.rd), Seg.c (.int .i64 i.rn), Seg.c (.int .i64 i.rm), Seg.c (.int .i64 i.ra), Seg.c (.int .i64 i.imm), Seg.c (.int .i64 i.imm2), Seg.c (.int .i64 i.amount), Seg.c (.int .i64 i.shift), Seg.c (.int .i64 i.sub), Seg.c (.int .i64 i.cond), Seg.c (.int .i64 i.sys)] (k * 1) 1 = [Seg.c (.int .i64 (numF i k))]
  | 0, _ => rfl
  | 1, _ => rfl
  | 2, _ => rfl
  | 3, _ => rfl
  | 4, _ => rfl
  | 5, _ => rfl
  | 6, _ => rfl
  | 7, _ => rfl
  | 8, _ => rfl
  | 9, _ => rfl
  | 10, _ => rfl
  | k + 11, h => absurd h (by omega)
theorem flg_rows (i : InsnS) : ∀ k, k < 4 → cutD [Seg.c (.bool i.flags), Seg.c (.bool i.minus), Seg.c (.bool i.not_), Seg.c (.bool i.link)] (k * 1) 1 = [Seg.c (.bool (flgF i k))]
  | 0, _ => rfl
  | 1, _ => rfl
  | 2, _ => rfl
  | 3, _ => rfl
  | k + 4, h => absurd h (by omega)
def clNSt (i : InsnS) (f : ByteArray) (k : Nat) : St := ⟨[⟨5, [], .c (.int .i64 k)⟩, ⟨4, [], .c (.slice ⟨1, 0, 0, 0⟩ false 11)⟩, ⟨3, [], .c (.str f)⟩, ⟨1, [], .c (.ptr ⟨0, 0, 0, 0⟩)⟩], ⟨2, [(1, numB i), (0, insnB i)]⟩⟩
def clFSt (i : InsnS) (f : ByteArray) (k : Nat) : St := ⟨[⟨8, [], .c (.int .i64 k)⟩, ⟨7, [], .c (.slice ⟨0, 0, 0, 0⟩ false 4)⟩, ⟨3, [], .c (.str f)⟩], ⟨1, [(0, flgB i)]⟩⟩
theorem clear_no (i : InsnS) (h105 : ∀ H, Con Tryz.prog 105 [.c (.int .i64 i.op)] H (fun v H' => v = .c (.str ⟨#[]⟩) ∧ H' = H)) (H : Heap) : Con Tryz.prog 64 [.agg (insnL i)] H (fun v H' => v = .c (.bool false) ∧ H' = H) := by
  refine Con.pure ?_ (by simp only [leArgs, leV, leV1, insnL, leSegs, leSeg, leC, and_self]) rfl H
  have he : eqTb ⟨#[]⟩ ⟨#[]⟩ = true := by decide
  (refine con_of_run mixed (fn := Tryz.f64) (by kernel_rfl) (by kernel_rfl) C64_ok (rs := [.tmp 2]) (by kernel_rfl) (Nat.le_of_ble_eq_true (by kernel_rfl)) ?_; unfold C64; simp only [initT])
  repeat' (first | refine run_seq ?_ | refine run_skip ?_ | (refine run_region fun K hK => ?_; (try (simp (maxSteps := 10000000) only [insnL, he, negIf, C64r0, C64r1, C64r2, C64r3, rwp_nil, rwp_cons, aop, gpath, St.get, slotAt, sfx, eqP, segsOf, St.put, addBlk, getB, ld1, rowNeed, segAt, shed, addN, Seg.size, sizes, appL, argsOf, ptrsOf, negIf, Nat.reduceAdd, eqT])); (repeat (first | (refine And.intro ?_ ?_; · decide) | ((first | (refine call_t _ (h105 _) ?_; rintro v H' ⟨rfl, rfl⟩) | refine call_q _ (h105 _) ?_ | refine call_g _ (imp_of (h105 _)) ?_); simp (maxSteps := 10000000) only [rwp_nil, rwp_cons, rwpK_app, aop, gpath, St.get, slotAt, sfx, eqP, St.put, addBlk, shed]))); with_reducible refine hK _ ?_; clear hK K) | (refine run_cond rfl (fun hc => ?_) (fun hc => ?_) <;> try (simp only [*, Bool.true_eq_false] at hc; done)) | refine run_block ?_ | refine run_ret ?_ | refine run_nil ?_ | refine run_exit ?_ | refine blk_normal ?_ | refine blk_ret ?_ | refine blk_here ?_ | refine blk_there rfl ?_ | refine loop_exit ?_ | refine loop_ret ?_ | refine un_exit ?_ | refine un_ret ?_ | refine unE_exit ?_ | refine unE_ret ?_ | refine un_normal ?_)
  exact end_tmp1 rfl rfl rfl ⟨rfl, rfl⟩
theorem clear_gen (i : InsnS) (f : ByteArray) (hf : f.size < 1000) (he : eqTb f ⟨#[]⟩ = false) (h105 : ∀ H, Con Tryz.prog 105 [.c (.int .i64 i.op)] H (fun v H' => v = .c (.str f) ∧ H' = H)) (H : Heap) : Con Tryz.prog 64 [.agg (insnL i)] H (fun v H' => v = .c (.bool (clearB i f)) ∧ H' = H) := by
  refine Con.pure ?_ (by simp only [leArgs, leV, leV1, insnL, leSegs, leSeg, leC, and_self]) rfl H
  (refine con_of_run mixed (fn := Tryz.f64) (by kernel_rfl) (by kernel_rfl) C64_ok (rs := [.tmp 2]) (by kernel_rfl) (Nat.le_of_ble_eq_true (by kernel_rfl)) ?_; unfold C64; simp only [initT])
  generalize hT : clearB i f = T
  unfold clearB at hT
  repeat' (first | refine run_seq ?_ | refine run_skip ?_ | (refine run_region fun K hK => ?_; (try (simp (maxSteps := 10000000) only [insnL, he, negIf, repl, rowsFit, rowFn, C64r0, C64r1, C64r2, C64r4, rwp_nil, rwp_cons, aop, gpath, St.get, slotAt, sfx, eqP, segsOf, St.put, addBlk, getB, ld1, rowNeed, segAt, nsub, shed, addN, Nat.beq, Seg.size, sizes, appL, argsOf, ptrsOf, cut, takeS, dropS, putS, partsOf, fillS, negIf, Nat.reduceAdd, List.append_nil, List.nil_append, List.cons_append, eqT])); (repeat (first | (refine And.intro ?_ ?_; · decide) | ((first | (refine call_t _ (h105 _) ?_; rintro v H' ⟨rfl, rfl⟩) | refine call_q _ (h105 _) ?_ | refine call_g _ (imp_of (h105 _)) ?_); simp (maxSteps := 10000000) only [rwp_nil, rwp_cons, rwpK_app, aop, gpath, St.get, slotAt, sfx, eqP, St.put, addBlk, shed]))); with_reducible refine hK _ ?_; clear hK K) | (refine run_cond rfl (fun hc => ?_) (fun hc => ?_) <;> try (simp only [*, Bool.false_eq_true] at hc; done)) | refine run_block ?_ | refine run_ret ?_ | refine run_nil ?_ | refine run_exit ?_ | refine blk_normal ?_ | refine blk_ret ?_ | refine blk_here ?_ | refine blk_there rfl ?_ | refine loop_exit ?_ | refine loop_ret ?_ | refine un_exit ?_ | refine un_ret ?_ | refine unE_exit ?_ | refine unE_ret ?_ | refine un_normal ?_)
  (refine run_regionL fun K hK => ?_; (try (simp (maxSteps := 10000000) only [C64r5, rwp_nil, rwp_cons, aop, gpath, St.get, St.put, addBlk, shed])); (repeat (refine And.intro ?_ ?_; · first | trivial | assumption | omega)); refine hK _ (clNSt i f 0) ((LeS.intro [0, 1] (fun i h => absurd h (Nat.not_lt_zero i)) (by simp only [diff, notIn, Nat.beq, and_self]) rfl (by simp only [clNSt, slotsLe, slotAt, leV, leV1, leC, leA, nthO, and_self, Int.natCast_zero]) ⟨⟨rfl, rfl, id, Nat.le_refl _, fun k hk => by
    show leSegs _ (cutD _ (k * 1) 1) _
    rw [num_rows i k hk]
    exact ⟨⟨rfl, rfl⟩, trivial⟩⟩, insn_le i, trivial⟩)) ?_; clear hK K)
  refine run_block ?_
  refine run_loop (fun q st => ∃ k : Nat, st = clNSt i f k ∧ q = 11 - k ∧ k ≤ 11 ∧ (clearN i f (11 - k) k && clearF i f 4 0) = T) 11 ⟨0, rfl, rfl, by decide, hT⟩ ?_
  clear hT
  rintro q st ⟨k, rfl, hq, hk, hT⟩
  simp only [clNSt, numB, insnB]
  have hz : ByteArray.size ⟨#[100, 110, 109, 97, 105, 106, 107, 116, 115, 99, 121]⟩ = 11 := rfl
  repeat' (first | refine run_seq ?_ | refine run_skip ?_ | (refine run_region fun K hK => ?_; (try (simp (maxSteps := 10000000) only [insnL, hz, C64r6, C64r7, C64r8, C64r9, C64r10, rwp_nil, rwp_cons, aop, gpath, St.get, slotAt, sfx, eqP, St.put, addBlk, getB, ld1, rowNeed, segAt, bin, un, isShift, sameK, arith, getsl, selB_or, selB_and, beqb, shed, addN, Nat.beq, imp, appL, argsOf, ptrsOf, strOk, plusA, idxT, Int.toNat_natCast])); (repeat (first | (refine And.intro ?_ ?_; · (first | decide | omega | (simp only [decide_eq_true_eq] at hc; omega) | (intros; first | decide | omega | (simp only [decide_eq_true_eq] at hc; omega)))) | ((first | (refine call_t _ (con106 f _ hf _) ?_; rintro v H' ⟨rfl, rfl⟩) | refine call_q _ (con106 f _ hf _) ?_ | refine call_g _ (imp_of (con106 f _ hf _)) ?_); simp (maxSteps := 10000000) only [rwp_nil, rwp_cons, rwpK_app, aop, gpath, St.get, slotAt, sfx, eqP, St.put, addBlk, shed]))); with_reducible refine hK _ ?_; clear hK K) | (refine run_cond rfl (fun hc => ?_) (fun hc => ?_) <;> try (simp only [*, Bool.true_eq_false, Bool.false_eq_true, Bool.not_true, Bool.not_false, Bool.true_or, Bool.or_true, Bool.false_or, Bool.or_false, Bool.false_and, Bool.and_false, bne_self_eq_false, beq_self_eq_true] at hc; done)) | refine run_block ?_ | refine run_ret ?_ | refine run_nil ?_ | refine run_exit ?_ | refine blk_normal ?_ | refine blk_ret ?_ | refine blk_here ?_ | refine blk_there rfl ?_ | refine loop_exit ?_ | refine loop_ret ?_ | refine un_exit ?_ | refine un_ret ?_ | refine unE_exit ?_ | refine unE_ret ?_ | refine un_normal ?_)
  · have hlt : k < 11 := by have := of_decide_eq_true ‹decide ((k : Int) < 11) = true›; omega
    obtain ⟨m, hm⟩ : ∃ m, 11 - k = m + 1 := ⟨10 - k, by omega⟩
    rw [hm] at hT
    unfold clearN at hT
    have hb : numBad i f k = true := hc
    rw [hb, Bool.not_true, Bool.false_and, Bool.false_and] at hT
    subst hT
    exact end_tmp1 rfl rfl rfl ⟨rfl, rfl⟩
  · have hlt : k < 11 := by have := of_decide_eq_true ‹decide ((k : Int) < 11) = true›; omega
    obtain ⟨m, hm⟩ : ∃ m, 11 - k = m + 1 := ⟨10 - k, by omega⟩
    have hw : IntKind.i64.wrap ((k : Int) + 1) = ((k + 1 : Nat) : Int) := by rw [IntKind.wrap_i64]; omega
    rw [hm] at hT
    unfold clearN at hT
    have hb : numBad i f k = false := hc
    rw [hb, Bool.not_false, Bool.true_and] at hT
    rw [hw]
    exact loop_normal m (clNSt i f (k + 1)) (by omega) (LeS.intro [0, 1] (fun i h => absurd h (Nat.not_lt_zero i)) (by simp only [diff, notIn, Nat.beq, and_self]) rfl (by simp only [clNSt, slotsLe, slotAt, leV, leV1, leC, leA, nthO, and_self]) ⟨⟨rfl, rfl, id, Nat.le_refl _, fun _ _ => ⟨⟨rfl, rfl⟩, trivial⟩⟩, insn_le i, trivial⟩) ⟨k + 1, rfl, by omega, by omega, by rw [show 11 - (k + 1) = m by omega]; exact hT⟩
  have hge : ¬ k < 11 := by have := of_decide_eq_false ‹decide ((k : Int) < 11) = false›; omega
  have h0 : 11 - k = 0 := by omega
  rw [h0] at hT
  unfold clearN at hT
  rw [Bool.true_and] at hT
  clear hq hk hge h0 hc
  repeat' (first | refine run_seq ?_ | refine run_skip ?_ | (refine run_region fun K hK => ?_; (try (simp (maxSteps := 10000000) only [repl, rowsFit, rowFn, C64r11, rwp_nil, rwp_cons, aop, gpath, St.get, slotAt, sfx, eqP, segsOf, St.put, addBlk, getB, ld1, rowNeed, segAt, nsub, shed, addN, Nat.beq, Seg.size, sizes, cut, takeS, dropS, putS, partsOf, fillS, Nat.reduceAdd, List.append_nil, List.nil_append, List.cons_append])); (repeat (first | (refine And.intro ?_ ?_; · decide))); with_reducible refine hK _ ?_; clear hK K) | (refine run_cond rfl (fun hc => ?_) (fun hc => ?_) <;> try (simp only [*, Bool.true_eq_false, Bool.false_eq_true, Bool.not_true, Bool.not_false, Bool.true_or, Bool.or_true, Bool.false_or, Bool.or_false, Bool.false_and, Bool.and_false, bne_self_eq_false, beq_self_eq_true] at hc; done)) | refine run_block ?_ | refine run_ret ?_ | refine run_nil ?_ | refine run_exit ?_ | refine blk_normal ?_ | refine blk_ret ?_ | refine blk_here ?_ | refine blk_there rfl ?_ | refine loop_exit ?_ | refine loop_ret ?_ | refine un_exit ?_ | refine un_ret ?_ | refine unE_exit ?_ | refine unE_ret ?_ | refine un_normal ?_)
  (refine run_regionL fun K hK => ?_; (try (simp (maxSteps := 10000000) only [C64r12, rwp_nil, rwp_cons, aop, gpath, St.get, St.put, addBlk, shed])); (repeat (refine And.intro ?_ ?_; · first | trivial | assumption | omega)); refine hK _ (clFSt i f 0) ((LeS.intro [2] (fun i h => absurd h (Nat.not_lt_zero i)) (by simp only [diff, notIn, and_self]) rfl (by simp only [clFSt, slotsLe, slotAt, leV, leV1, leC, leA, nthO, and_self, Int.natCast_zero]) ⟨⟨rfl, rfl, id, Nat.le_refl _, fun k hk => by
    show leSegs _ (cutD _ (k * 1) 1) _
    rw [flg_rows i k hk]
    exact ⟨rfl, trivial⟩⟩, trivial⟩)) ?_; clear hK K)
  refine run_block ?_
  refine run_loop (fun q st => ∃ k : Nat, st = clFSt i f k ∧ q = 4 - k ∧ k ≤ 4 ∧ clearF i f (4 - k) k = T) 4 ⟨0, rfl, rfl, by decide, hT⟩ ?_
  clear hT
  rintro q st ⟨k, rfl, hq, hk, hT⟩
  simp only [clFSt, flgB]
  have hz : ByteArray.size ⟨#[70, 77, 78, 76]⟩ = 4 := rfl
  repeat' (first | refine run_seq ?_ | refine run_skip ?_ | (refine run_region fun K hK => ?_; (try (simp (maxSteps := 10000000) only [hz, C64r13, C64r14, C64r15, C64r16, C64r17, C64r18, rwp_nil, rwp_cons, aop, gpath, St.get, slotAt, sfx, eqP, St.put, addBlk, getB, ld1, rowNeed, segAt, bin, un, isShift, sameK, arith, getsl, selB_and, beqb, shed, addN, Nat.beq, imp, appL, argsOf, ptrsOf, strOk, plusA, idxT, Int.toNat_natCast])); (repeat (first | (refine And.intro ?_ ?_; · (first | decide | omega | (simp only [decide_eq_true_eq] at hc; omega) | (intros; first | decide | omega | (simp only [decide_eq_true_eq] at hc; omega)))) | ((first | (refine call_t _ (con106 f _ hf _) ?_; rintro v H' ⟨rfl, rfl⟩) | refine call_q _ (con106 f _ hf _) ?_ | refine call_g _ (imp_of (con106 f _ hf _)) ?_); simp (maxSteps := 10000000) only [rwp_nil, rwp_cons, rwpK_app, aop, gpath, St.get, slotAt, sfx, eqP, St.put, addBlk, shed]))); with_reducible refine hK _ ?_; clear hK K) | (refine run_cond rfl (fun hc => ?_) (fun hc => ?_) <;> try (simp only [*, Bool.true_eq_false, Bool.false_eq_true, Bool.not_true, Bool.not_false, Bool.true_or, Bool.or_true, Bool.false_or, Bool.or_false, Bool.false_and, Bool.and_false, bne_self_eq_false, beq_self_eq_true] at hc; done)) | refine run_block ?_ | refine run_ret ?_ | refine run_nil ?_ | refine run_exit ?_ | refine blk_normal ?_ | refine blk_ret ?_ | refine blk_here ?_ | refine blk_there rfl ?_ | refine loop_exit ?_ | refine loop_ret ?_ | refine un_exit ?_ | refine un_ret ?_ | refine unE_exit ?_ | refine unE_ret ?_ | refine un_normal ?_)
  · have hlt : k < 4 := by have := of_decide_eq_true ‹decide ((k : Int) < 4) = true›; omega
    obtain ⟨m, hm⟩ : ∃ m, 4 - k = m + 1 := ⟨3 - k, by omega⟩
    rw [hm] at hT
    unfold clearF at hT
    have hb : flgBad i f k = true := hc
    rw [hb, Bool.not_true, Bool.false_and] at hT
    subst hT
    exact end_tmp1 rfl rfl rfl ⟨rfl, rfl⟩
  · have hlt : k < 4 := by have := of_decide_eq_true ‹decide ((k : Int) < 4) = true›; omega
    obtain ⟨m, hm⟩ : ∃ m, 4 - k = m + 1 := ⟨3 - k, by omega⟩
    have hw : IntKind.i64.wrap ((k : Int) + 1) = ((k + 1 : Nat) : Int) := by rw [IntKind.wrap_i64]; omega
    rw [hm] at hT
    unfold clearF at hT
    have hb : flgBad i f k = false := hc
    rw [hb, Bool.not_false, Bool.true_and] at hT
    rw [hw]
    exact loop_normal m (clFSt i f (k + 1)) (by omega) (LeS.intro [0] (fun i h => absurd h (Nat.not_lt_zero i)) (by simp only [diff, notIn, and_self]) rfl (by simp only [clFSt, slotsLe, slotAt, leV, leV1, leC, leA, nthO, and_self]) ⟨⟨rfl, rfl, id, Nat.le_refl _, fun _ _ => ⟨rfl, trivial⟩⟩, trivial⟩) ⟨k + 1, rfl, by omega, by omega, by rw [show 4 - (k + 1) = m by omega]; exact hT⟩
  have hge : ¬ k < 4 := by have := of_decide_eq_false ‹decide ((k : Int) < 4) = false›; omega
  have h0 : 4 - k = 0 := by omega
  rw [h0] at hT
  have e : true = T := hT
  subst e
  exact end_tmp1 rfl rfl rfl ⟨rfl, rfl⟩
end Go.Proofs.YteikpddilabppaaGreatR

namespace Go.Proofs.YteikpddilabppaaGreatR
open Go.AM
set_option maxRecDepth 100000
theorem pureE {f : FuncId} {args : List AV} {F : Int → AV} (h : Con Tryz.prog f args ⟨0, []⟩ fun v H' => (∃ x, v = F x) ∧ H' = ⟨0, []⟩) (ha : leArgs [] args args) (hX : ∀ x, mapV (fun i => i) (F x) = F x) (H : Heap) : Con Tryz.prog f args H fun v H' => (∃ x, v = F x) ∧ H' = H := by
  refine ⟨h.1, fun φ w xs hF hH => ?_⟩
  have h0 : HRel (ren φ []) ⟨0, []⟩ w := ⟨fun i B p hB => by simp [getB] at hB, fun i j B C p q hB => by simp [getB] at hB, fun i _ => rfl, fun i p hp => by simp [ren, nthO] at hp⟩
  refine (h.2 (ren φ []) w xs (leArgs_rel ha hF) h0).mono fun e w' ⟨φ0', v0, x, H0', he, ⟨⟨z, hv0⟩, hH0⟩, hv, hh, hfr⟩ => ?_
  subst hv0; subst hH0; subst he
  have hold : ∀ b, b < w.heap.size → w'.heap[b]? = w.heap[b]? := fun b hb => hfr.old b hb fun i B p hB => by simp [getB] at hB
  obtain ⟨g1, g2⟩ := hH.grown hfr.os hfr.tape hfr.output hfr.size hold (K := H) (Nat.le_refl _) (fun _ _ h _ => h)
  refine ⟨φ, F z, x, H, rfl, ⟨⟨z, rfl⟩, rfl⟩, ?_, g1, g2⟩
  rw [← hX]
  exact mapV_rel (fun i p hp => by rw [hh.fresh i (Nat.zero_le _)] at hp; cases hp) hv
def rorSt (v b many out : Int) (k : Nat) : St := ⟨[⟨9, [], .c (.int .i64 k)⟩, ⟨8, [], .c (.int .u64 out)⟩, ⟨0, [], .c (.int .u64 v)⟩, ⟨1, [], .c (.int .i64 b)⟩, ⟨2, [], .c (.int .i64 many)⟩], ⟨0, []⟩⟩
theorem con107 (v b many : Int) (h1 : 1 ≤ many) (h2 : many ≤ 64) (h3 : 0 ≤ b) (h4 : b < 1000) : Con Tryz.prog 107 [.c (.int .u64 v), .c (.int .i64 b), .c (.int .i64 many)] ⟨0, []⟩ (fun r H' => (∃ x e : Int, r = .tup [.c (.int .u64 x), .c (.int .i64 e)]) ∧ H' = ⟨0, []⟩) := by
  (refine con_of_run mixed (fn := Tryz.f107) (by kernel_rfl) (by kernel_rfl) C107_ok (rs := [.tmp 6, .tmp 7]) (by kernel_rfl) (Nat.le_of_ble_eq_true (by kernel_rfl)) ?_; unfold C107; simp only [initT, Nat.reduceAdd])
  repeat' (first | refine run_seq ?_ | refine run_skip ?_ | (refine run_region fun K hK => ?_; (try (simp (maxSteps := 10000000) only [C107r0, C107r1, C107r2, C107r3, C107r4, C107r5, C107r6, rwp_nil, rwp_cons, aop, gpath, St.get, slotAt, sfx, eqP, St.put, addBlk, bin, isShift, sameK, arith, shiftR, getsl, selB_or, selB_and, beqb, shed, imp])); (repeat (first | (refine And.intro ?_ ?_; · (first | assumption | omega | (intros; omega))))); with_reducible refine hK _ ?_; clear hK K) | (refine run_cond rfl (fun hc => ?_) (fun hc => ?_) <;> try (simp only [*, Bool.true_eq_false, Bool.false_eq_true, Bool.not_true, Bool.not_false, Bool.true_or, Bool.or_true, Bool.false_or, Bool.or_false, Bool.false_and, Bool.and_false, bne_self_eq_false, beq_self_eq_true] at hc; done)) | refine run_block ?_ | refine run_ret ?_ | refine run_nil ?_ | refine run_exit ?_ | refine blk_normal ?_ | refine blk_ret ?_ | refine blk_here ?_ | refine blk_there rfl ?_ | refine loop_exit ?_ | refine loop_ret ?_ | refine un_exit ?_ | refine un_ret ?_ | refine unE_exit ?_ | refine unE_ret ?_ | refine un_normal ?_)
  · exact end_tmp2 rfl rfl rfl ⟨rfl, rfl⟩ ⟨rfl, rfl⟩ rfl rfl ⟨⟨_, _, rfl⟩, rfl⟩
  · exact end_tmp2 rfl rfl rfl ⟨rfl, rfl⟩ ⟨rfl, rfl⟩ rfl rfl ⟨⟨_, _, rfl⟩, rfl⟩
  have hb1 : 0 ≤ b.tmod many := Int.tmod_nonneg _ h3
  have hb2 : b.tmod many < many := Int.tmod_lt_of_pos _ (by omega)
  generalize b.tmod many = c at hb1 hb2
  (refine run_regionL fun K hK => ?_; (try (simp (maxSteps := 10000000) only [C107r7, rwp_nil, rwp_cons, aop, gpath, St.get, St.put, addBlk, shed])); (repeat (refine And.intro ?_ ?_; · first | trivial | assumption | omega)); refine hK _ (rorSt v c many 0 0) ((LeS.intro [] (fun i h => absurd h (Nat.not_lt_zero i)) trivial rfl (by simp only [rorSt, slotsLe, slotAt, leV, leV1, leC, and_self, Int.natCast_zero]) trivial)) ?_; clear hK K)
  refine run_block ?_
  refine run_loop (fun q st => ∃ (k : Nat) (out : Int), st = rorSt v c many out k ∧ q = many.toNat - k ∧ (k : Int) ≤ many) many.toNat ⟨0, 0, rfl, rfl, by omega⟩ ?_
  rintro q st ⟨k, out, rfl, hq, hk⟩
  simp only [rorSt]
  have hw : IntKind.i64.wrap ((k : Int) + c) = (k : Int) + c := by rw [IntKind.wrap_i64]; omega
  have ht : 0 ≤ ((k : Int) + c).tmod many := Int.tmod_nonneg _ (by omega)
  repeat' (first | refine run_seq ?_ | refine run_skip ?_ | (refine run_region fun K hK => ?_; (try (simp (maxSteps := 10000000) only [hw, C107r8, C107r9, C107r10, C107r11, rwp_nil, rwp_cons, aop, gpath, St.get, slotAt, sfx, eqP, St.put, addBlk, bin, isShift, sameK, arith, shed, imp, appL, argsOf, ptrsOf])); (repeat (first | (refine And.intro ?_ ?_; · (first | assumption | omega | (intros; omega))) | ((first | (refine call_t _ (con108 v (((k : Int) + c).tmod many) ht _) ?_; rintro v H' ⟨rfl, rfl⟩) | refine call_q _ (con108 v (((k : Int) + c).tmod many) ht _) ?_ | refine call_g _ (imp_of (con108 v (((k : Int) + c).tmod many) ht _)) ?_); simp (maxSteps := 10000000) only [rwp_nil, rwp_cons, rwpK_app, aop, gpath, St.get, slotAt, sfx, eqP, St.put, addBlk, bin, isShift, sameK, arith, shiftR, shed, imp, Int.toNat_natCast]))); with_reducible refine hK _ ?_; clear hK K) | (refine run_cond rfl (fun hc => ?_) (fun hc => ?_) <;> try (simp only [*, Bool.true_eq_false, Bool.false_eq_true, Bool.not_true, Bool.not_false, Bool.true_or, Bool.or_true, Bool.false_or, Bool.or_false, Bool.false_and, Bool.and_false, bne_self_eq_false, beq_self_eq_true] at hc; done)) | refine run_block ?_ | refine run_ret ?_ | refine run_nil ?_ | refine run_exit ?_ | refine blk_normal ?_ | refine blk_ret ?_ | refine blk_here ?_ | refine blk_there rfl ?_ | refine loop_exit ?_ | refine loop_ret ?_ | refine un_exit ?_ | refine un_ret ?_ | refine unE_exit ?_ | refine unE_ret ?_ | refine un_normal ?_)
  · have hlt : (k : Int) < many := by simpa using ‹decide ((k : Int) < many) = true›
    have hw2 : IntKind.i64.wrap ((k : Int) + 1) = ((k + 1 : Nat) : Int) := by rw [IntKind.wrap_i64]; omega
    rw [hw2]
    exact loop_normal (many.toNat - (k + 1)) (rorSt v c many _ (k + 1)) (by omega) (LeS.intro [] (fun i h => absurd h (Nat.not_lt_zero i)) trivial rfl (by simp only [rorSt, slotsLe, slotAt, leV, leV1, leC, and_self]; exact ⟨trivial, ⟨trivial, rfl⟩, trivial⟩) trivial) ⟨k + 1, _, rfl, rfl, by omega⟩
  · exact end_tmp2 rfl rfl rfl ⟨rfl, rfl⟩ ⟨rfl, rfl⟩ rfl rfl ⟨⟨_, _, rfl⟩, rfl⟩
def szL : Nat → Int → Int → Int
  | 0, _, z => z
  | m + 1, s, z => if z > 63 - s then szL m s (z.tdiv 2) else z
def mBad (n r s : Int) : Bool := ((((decide (n < 0) || decide (n > 1)) || decide (r < 0)) || decide (r > 63)) || decide (s < 0)) || decide (s > 63)
def mSize (n s : Int) : Int := if n = 0 then szL 7 s 32 else 64
def refE (n r s : Int) : Int := if mBad n r s = true then 1 else if mSize n s < 2 then 2 else if s.tmod (mSize n s) = mSize n s - 1 then 2 else 0
def szSt (n r s z : Int) : St := ⟨[⟨8, [], .c (.int .i64 z)⟩, ⟨0, [], .c (.int .i64 n)⟩, ⟨1, [], .c (.int .i64 r)⟩, ⟨2, [], .c (.int .i64 s)⟩], ⟨0, []⟩⟩
def oneSt (r s z o : Int) (k : Nat) : St := ⟨[⟨11, [], .c (.int .i64 k)⟩, ⟨10, [], .c (.int .u64 o)⟩, ⟨9, [], .c (.int .i64 s)⟩, ⟨8, [], .c (.int .i64 z)⟩, ⟨1, [], .c (.int .i64 r)⟩], ⟨0, []⟩⟩
def outSt (z o x : Int) (k : Nat) : St := ⟨[⟨13, [], .c (.int .i64 k)⟩, ⟨12, [], .c (.int .u64 x)⟩, ⟨10, [], .c (.int .u64 o)⟩, ⟨8, [], .c (.int .i64 z)⟩], ⟨0, []⟩⟩
theorem con66_bad (n r s : Int) (h : mBad n r s = true) : Con Tryz.prog 66 [.c (.int .i64 n), .c (.int .i64 r), .c (.int .i64 s)] ⟨0, []⟩ (fun v H' => (∃ x : Int, v = .tup [.c (.int .u64 x), .c (.int .i64 1)]) ∧ H' = ⟨0, []⟩) := by
  unfold mBad at h
  (refine con_of_run mixed (fn := Tryz.f66) (by kernel_rfl) (by kernel_rfl) C66_ok (rs := [.tmp 6, .tmp 7]) (by kernel_rfl) (Nat.le_of_ble_eq_true (by kernel_rfl)) ?_; unfold C66; simp only [initT, Nat.reduceAdd])
  repeat' (first | refine run_seq ?_ | refine run_skip ?_ | (refine run_region fun K hK => ?_; (try (simp (maxSteps := 10000000) only [h, C66r0, C66r1, C66r2, rwp_nil, rwp_cons, aop, gpath, St.get, slotAt, sfx, eqP, St.put, addBlk, bin, isShift, sameK, arith, getsl, selB_or, beqb, shed])); (repeat (first | (refine And.intro ?_ ?_; · (first | assumption | omega | (intros; omega))))); with_reducible refine hK _ ?_; clear hK K) | (refine run_cond rfl (fun hc => ?_) (fun hc => ?_) <;> try (simp only [*, Bool.true_eq_false] at hc; done)) | refine run_block ?_ | refine run_ret ?_ | refine run_nil ?_ | refine run_exit ?_ | refine blk_normal ?_ | refine blk_ret ?_ | refine blk_here ?_ | refine blk_there rfl ?_ | refine loop_exit ?_ | refine loop_ret ?_ | refine un_exit ?_ | refine un_ret ?_ | refine unE_exit ?_ | refine unE_ret ?_ | refine un_normal ?_)
  exact end_tmp2 rfl rfl rfl ⟨rfl, rfl⟩ ⟨rfl, rfl⟩ rfl rfl ⟨⟨_, rfl⟩, rfl⟩
theorem con66_1 (n r s E : Int) (h : mBad n r s = false) (hn : (n == 0) = false) (hr : 0 ≤ r ∧ r < 64) (hs : 0 ≤ s ∧ s < 64) (hE : (if s.tmod 64 = 64 - 1 then 2 else 0) = E) : Con Tryz.prog 66 [.c (.int .i64 n), .c (.int .i64 r), .c (.int .i64 s)] ⟨0, []⟩ (fun v H' => (∃ x : Int, v = .tup [.c (.int .u64 x), .c (.int .i64 E)]) ∧ H' = ⟨0, []⟩) := by
  unfold mBad at h
  obtain ⟨z, hz⟩ : ∃ z : Int, z = 64 := ⟨_, rfl⟩
  rw [← hz] at hE
  have hz2 : 2 ≤ z := by omega
  have hz3 : z ≤ 64 := by omega
  (refine con_of_run mixed (fn := Tryz.f66) (by kernel_rfl) (by kernel_rfl) C66_ok (rs := [.tmp 6, .tmp 7]) (by kernel_rfl) (Nat.le_of_ble_eq_true (by kernel_rfl)) ?_; unfold C66; simp only [initT, Nat.reduceAdd])
  repeat' (first | refine run_seq ?_ | refine run_skip ?_ | (refine run_region fun K hK => ?_; (try (simp (maxSteps := 10000000) only [h, C66r0, C66r1, rwp_nil, rwp_cons, aop, gpath, St.get, slotAt, sfx, eqP, St.put, addBlk, bin, isShift, sameK, arith, getsl, selB_or, beqb, shed])); (repeat (first | (refine And.intro ?_ ?_; · (first | assumption | omega | (intros; omega))))); with_reducible refine hK _ ?_; clear hK K) | (refine run_cond rfl (fun hc => ?_) (fun hc => ?_) <;> try (simp only [*, Bool.false_eq_true] at hc; done)) | refine run_block ?_ | refine run_ret ?_ | refine run_nil ?_ | refine run_exit ?_ | refine blk_normal ?_ | refine blk_ret ?_ | refine blk_here ?_ | refine blk_there rfl ?_ | refine loop_exit ?_ | refine loop_ret ?_ | refine un_exit ?_ | refine un_ret ?_ | refine unE_exit ?_ | refine unE_ret ?_ | refine un_normal ?_)
  (refine run_regionL fun K hK => ?_; (try (simp (maxSteps := 10000000) only [C66r3, rwp_nil, rwp_cons, aop, gpath, St.get, St.put, addBlk, shed])); (repeat (refine And.intro ?_ ?_; · first | trivial | assumption | omega)); refine hK _ (szSt n r s z) ((LeS.intro [] (fun i h => absurd h (Nat.not_lt_zero i)) trivial rfl (by simp only [szSt, slotsLe, slotAt, leV, leV1, leC, and_self, hz]) trivial)) ?_; clear hK K)
  clear hz
  simp only [szSt]
  repeat' (first | refine run_seq ?_ | refine run_skip ?_ | (refine run_region fun K hK => ?_; (try (simp (maxSteps := 10000000) only [hn, C66r4, rwp_nil, rwp_cons, aop, gpath, St.get, slotAt, sfx, eqP, St.put, addBlk, bin, isShift, sameK, arith, shed])); (repeat (first | (refine And.intro ?_ ?_; · (first | assumption | omega | (intros; omega))))); with_reducible refine hK _ ?_; clear hK K) | (refine run_cond rfl (fun hc => ?_) (fun hc => ?_) <;> try (simp only [*, Bool.false_eq_true] at hc; done)) | refine run_block ?_ | refine run_ret ?_ | refine run_nil ?_ | refine run_exit ?_ | refine blk_normal ?_ | refine blk_ret ?_ | refine blk_here ?_ | refine blk_there rfl ?_ | refine loop_exit ?_ | refine loop_ret ?_ | refine un_exit ?_ | refine un_ret ?_ | refine unE_exit ?_ | refine unE_ret ?_ | refine un_normal ?_)
  have hs0 : 0 ≤ s.tmod z := Int.tmod_nonneg _ (by omega)
  have hs1 : s.tmod z < z := Int.tmod_lt_of_pos _ (by omega)
  have hr0 : 0 ≤ r.tmod z := Int.tmod_nonneg _ (by omega)
  have hr1 : r.tmod z < z := Int.tmod_lt_of_pos _ (by omega)
  have hz1 : IntKind.i64.wrap (z - 1) = z - 1 := by rw [IntKind.wrap_i64]; omega
  repeat' (first | refine run_seq ?_ | refine run_skip ?_ | (refine run_region fun K hK => ?_; (try (simp (maxSteps := 10000000) only [hz1, C66r10, C66r11, C66r12, rwp_nil, rwp_cons, aop, gpath, St.get, slotAt, sfx, eqP, St.put, addBlk, bin, isShift, sameK, arith, shed, imp])); (repeat (first | (refine And.intro ?_ ?_; · (first | assumption | omega | (intros; omega))))); with_reducible refine hK _ ?_; clear hK K) | (refine run_cond rfl (fun hc => ?_) (fun hc => ?_) <;> try (simp only [*, Bool.true_eq_false, Bool.false_eq_true, Bool.not_true, Bool.not_false, Bool.true_or, Bool.or_true, Bool.false_or, Bool.or_false, Bool.false_and, Bool.and_false, bne_self_eq_false, beq_self_eq_true] at hc; done)) | refine run_block ?_ | refine run_ret ?_ | refine run_nil ?_ | refine run_exit ?_ | refine blk_normal ?_ | refine blk_ret ?_ | refine blk_here ?_ | refine blk_there rfl ?_ | refine loop_exit ?_ | refine loop_ret ?_ | refine un_exit ?_ | refine un_ret ?_ | refine unE_exit ?_ | refine unE_ret ?_ | refine un_normal ?_)
  · have he : s.tmod z = z - 1 := by simpa using hc
    rw [if_pos he] at hE
    subst hE
    exact end_tmp2 rfl rfl rfl ⟨rfl, rfl⟩ ⟨rfl, rfl⟩ rfl rfl ⟨⟨_, rfl⟩, rfl⟩
  have he : ¬ s.tmod z = z - 1 := by simpa using hc
  rw [if_neg he] at hE
  subst hE
  clear hc he
  generalize s.tmod z = t at hs0 hs1
  repeat' (first | refine run_seq ?_ | refine run_skip ?_ | (refine run_region fun K hK => ?_; (try (simp (maxSteps := 10000000) only [C66r13, rwp_nil, rwp_cons, aop, gpath, St.get, St.put, addBlk, shed])); (repeat (first | (refine And.intro ?_ ?_; · (first | assumption | omega | (intros; omega))))); with_reducible refine hK _ ?_; clear hK K) | (refine run_cond rfl (fun hc => ?_) (fun hc => ?_) <;> try (simp only [*, Bool.true_eq_false, Bool.false_eq_true, Bool.not_true, Bool.not_false, Bool.true_or, Bool.or_true, Bool.false_or, Bool.or_false, Bool.false_and, Bool.and_false, bne_self_eq_false, beq_self_eq_true] at hc; done)) | refine run_block ?_ | refine run_ret ?_ | refine run_nil ?_ | refine run_exit ?_ | refine blk_normal ?_ | refine blk_ret ?_ | refine blk_here ?_ | refine blk_there rfl ?_ | refine loop_exit ?_ | refine loop_ret ?_ | refine un_exit ?_ | refine un_ret ?_ | refine unE_exit ?_ | refine unE_ret ?_ | refine un_normal ?_)
  (refine run_regionL fun K hK => ?_; (try (simp (maxSteps := 10000000) only [C66r14, rwp_nil, rwp_cons, aop, gpath, St.get, St.put, addBlk, shed])); (repeat (refine And.intro ?_ ?_; · first | trivial | assumption | omega)); refine hK _ (oneSt r t z 0 0) ((LeS.intro [] (fun i h => absurd h (Nat.not_lt_zero i)) trivial rfl (by simp only [oneSt, slotsLe, slotAt, leV, leV1, leC, and_self, Int.natCast_zero]) trivial)) ?_; clear hK K)
  refine run_block ?_
  refine run_loop (fun q st => ∃ (k : Nat) (o : Int), st = oneSt r t z o k ∧ q = (t + 1).toNat - k ∧ (k : Int) ≤ t + 1) (t + 1).toNat ⟨0, 0, rfl, rfl, by omega⟩ ?_
  rintro q st ⟨k, o, rfl, hq, hk⟩
  simp only [oneSt]
  repeat' (first | refine run_seq ?_ | refine run_skip ?_ | (refine run_region fun K hK => ?_; (try (simp (maxSteps := 10000000) only [C66r15, C66r16, C66r17, rwp_nil, rwp_cons, aop, gpath, St.get, slotAt, sfx, eqP, St.put, addBlk, bin, isShift, sameK, arith, shiftR, shed, imp, Int.toNat_natCast])); (repeat (first | (refine And.intro ?_ ?_; · (first | assumption | omega | (intros; omega))))); with_reducible refine hK _ ?_; clear hK K) | (refine run_cond rfl (fun hc => ?_) (fun hc => ?_) <;> try (simp only [*, Bool.true_eq_false, Bool.false_eq_true, Bool.not_true, Bool.not_false, Bool.true_or, Bool.or_true, Bool.false_or, Bool.or_false, Bool.false_and, Bool.and_false, bne_self_eq_false, beq_self_eq_true] at hc; done)) | refine run_block ?_ | refine run_ret ?_ | refine run_nil ?_ | refine run_exit ?_ | refine blk_normal ?_ | refine blk_ret ?_ | refine blk_here ?_ | refine blk_there rfl ?_ | refine loop_exit ?_ | refine loop_ret ?_ | refine un_exit ?_ | refine un_ret ?_ | refine unE_exit ?_ | refine unE_ret ?_ | refine un_normal ?_)
  · have hlt : (k : Int) ≤ t := by simpa using ‹decide ((k : Int) ≤ t) = true›
    have hw2 : IntKind.i64.wrap ((k : Int) + 1) = ((k + 1 : Nat) : Int) := by rw [IntKind.wrap_i64]; omega
    rw [hw2]
    exact loop_normal ((t + 1).toNat - (k + 1)) (oneSt r t z _ (k + 1)) (by omega) (LeS.intro [] (fun i h => absurd h (Nat.not_lt_zero i)) trivial rfl (by simp only [oneSt, slotsLe, slotAt, leV, leV1, leC, and_self]; exact ⟨trivial, ⟨trivial, rfl⟩, trivial⟩) trivial) ⟨k + 1, _, rfl, rfl, by omega⟩
  refine run_region fun K hK => ?_
  simp (maxSteps := 10000000) only [C66r18, rwp_cons, aop, gpath, St.get, slotAt, sfx, eqP, St.put, addBlk, bin, isShift, sameK, arith, imp, appL, argsOf, ptrsOf]
  refine And.intro (by omega) ?_
  refine call_t _ (con107 o (r.tmod z) z (by omega) (by omega) hr0 (by omega)) ?_
  rintro v H' ⟨⟨x1, e1, rfl⟩, rfl⟩
  simp (maxSteps := 10000000) only [rwp_nil, rwp_cons, rwpK_app, aop, gpath, St.get, slotAt, sfx, eqP, St.put, addBlk, shed, nthA]
  refine hK _ ?_
  clear hK K
  repeat' (first | refine run_seq ?_ | refine run_skip ?_ | (refine run_region fun K hK => ?_; (try (simp (maxSteps := 10000000) only [C66r19, rwp_nil, rwp_cons, aop, gpath, St.get, St.put, addBlk, shed])); (repeat (first | (refine And.intro ?_ ?_; · (first | assumption | omega | (intros; omega))))); with_reducible refine hK _ ?_; clear hK K) | (refine run_cond rfl (fun hc => ?_) (fun hc => ?_) <;> try (simp only [*, Bool.true_eq_false, Bool.false_eq_true, Bool.not_true, Bool.not_false, Bool.true_or, Bool.or_true, Bool.false_or, Bool.or_false, Bool.false_and, Bool.and_false, bne_self_eq_false, beq_self_eq_true] at hc; done)) | refine run_block ?_ | refine run_ret ?_ | refine run_nil ?_ | refine run_exit ?_ | refine blk_normal ?_ | refine blk_ret ?_ | refine blk_here ?_ | refine blk_there rfl ?_ | refine loop_exit ?_ | refine loop_ret ?_ | refine un_exit ?_ | refine un_ret ?_ | refine unE_exit ?_ | refine unE_ret ?_ | refine un_normal ?_)
  (refine run_regionL fun K hK => ?_; (try (simp (maxSteps := 10000000) only [C66r20, rwp_nil, rwp_cons, aop, gpath, St.get, St.put, addBlk, shed])); (repeat (refine And.intro ?_ ?_; · first | trivial | assumption | omega)); refine hK _ (outSt z x1 0 0) ((LeS.intro [] (fun i h => absurd h (Nat.not_lt_zero i)) trivial rfl (by simp only [outSt, slotsLe, slotAt, leV, leV1, leC, and_self, Int.natCast_zero]) trivial)) ?_; clear hK K)
  refine run_block ?_
  refine run_loop (fun q st => ∃ (k : Nat) (x : Int), st = outSt z x1 x k ∧ q = 64 - k ∧ k ≤ 64) 64 ⟨0, 0, rfl, rfl, by omega⟩ ?_
  clear hk
  rintro q st ⟨k, x, rfl, hq, hk⟩
  simp only [outSt]
  have ht : 0 ≤ (k : Int).tmod z := Int.tmod_nonneg _ (by omega)
  repeat' (first | refine run_seq ?_ | refine run_skip ?_ | (refine run_region fun K hK => ?_; (try (simp (maxSteps := 10000000) only [C66r21, C66r22, C66r23, C66r24, rwp_nil, rwp_cons, aop, gpath, St.get, slotAt, sfx, eqP, St.put, addBlk, bin, isShift, sameK, arith, shed, imp, appL, argsOf, ptrsOf])); (repeat (first | (refine And.intro ?_ ?_; · (first | assumption | omega | (intros; omega))) | ((first | (refine call_t _ (con108 x1 ((k : Int).tmod z) ht _) ?_; rintro v H' ⟨rfl, rfl⟩) | refine call_q _ (con108 x1 ((k : Int).tmod z) ht _) ?_ | refine call_g _ (imp_of (con108 x1 ((k : Int).tmod z) ht _)) ?_); simp (maxSteps := 10000000) only [rwp_nil, rwp_cons, rwpK_app, aop, gpath, St.get, slotAt, sfx, eqP, St.put, addBlk, bin, isShift, sameK, arith, shiftR, shed, imp, Int.toNat_natCast]))); with_reducible refine hK _ ?_; clear hK K) | (refine run_cond rfl (fun hc => ?_) (fun hc => ?_) <;> try (simp only [*, Bool.true_eq_false, Bool.false_eq_true, Bool.not_true, Bool.not_false, Bool.true_or, Bool.or_true, Bool.false_or, Bool.or_false, Bool.false_and, Bool.and_false, bne_self_eq_false, beq_self_eq_true] at hc; done)) | refine run_block ?_ | refine run_ret ?_ | refine run_nil ?_ | refine run_exit ?_ | refine blk_normal ?_ | refine blk_ret ?_ | refine blk_here ?_ | refine blk_there rfl ?_ | refine loop_exit ?_ | refine loop_ret ?_ | refine un_exit ?_ | refine un_ret ?_ | refine unE_exit ?_ | refine unE_ret ?_ | refine un_normal ?_)
  · have hlt : (k : Int) < 64 := by simpa using ‹decide ((k : Int) < 64) = true›
    have hw2 : IntKind.i64.wrap ((k : Int) + 1) = ((k + 1 : Nat) : Int) := by rw [IntKind.wrap_i64]; omega
    rw [hw2]
    exact loop_normal (64 - (k + 1)) (outSt z x1 _ (k + 1)) (by omega) (LeS.intro [] (fun i h => absurd h (Nat.not_lt_zero i)) trivial rfl (by simp only [outSt, slotsLe, slotAt, leV, leV1, leC, and_self]; exact ⟨trivial, ⟨trivial, rfl⟩, trivial⟩) trivial) ⟨k + 1, _, rfl, rfl, by omega⟩
  exact end_tmp2 rfl rfl rfl ⟨rfl, rfl⟩ ⟨rfl, rfl⟩ rfl rfl ⟨⟨_, rfl⟩, rfl⟩
theorem con66_0 (r s E : Int) (h : mBad 0 r s = false) (hr : 0 ≤ r ∧ r < 64) (hs : 0 ≤ s ∧ s < 64) (hE : (if szL 7 s 32 < 2 then 2 else if s.tmod (szL 7 s 32) = szL 7 s 32 - 1 then 2 else 0) = E) : Con Tryz.prog 66 [.c (.int .i64 0), .c (.int .i64 r), .c (.int .i64 s)] ⟨0, []⟩ (fun v H' => (∃ x : Int, v = .tup [.c (.int .u64 x), .c (.int .i64 E)]) ∧ H' = ⟨0, []⟩) := by
  unfold mBad at h
  generalize hT : szL 7 s 32 = T at hE
  (refine con_of_run mixed (fn := Tryz.f66) (by kernel_rfl) (by kernel_rfl) C66_ok (rs := [.tmp 6, .tmp 7]) (by kernel_rfl) (Nat.le_of_ble_eq_true (by kernel_rfl)) ?_; unfold C66; simp only [initT, Nat.reduceAdd])
  repeat' (first | refine run_seq ?_ | refine run_skip ?_ | (refine run_region fun K hK => ?_; (try (simp (maxSteps := 10000000) only [h, Int.reduceBEq, C66r0, C66r1, C66r3, C66r4, rwp_nil, rwp_cons, aop, gpath, St.get, slotAt, sfx, eqP, St.put, addBlk, bin, isShift, sameK, arith, getsl, selB_or, beqb, shed])); (repeat (first | (refine And.intro ?_ ?_; · (first | assumption | omega | (intros; omega))))); with_reducible refine hK _ ?_; clear hK K) | (refine run_cond rfl (fun hc => ?_) (fun hc => ?_) <;> try (simp only [*, Bool.true_eq_false, Bool.false_eq_true] at hc; done)) | refine run_block ?_ | refine run_ret ?_ | refine run_nil ?_ | refine run_exit ?_ | refine blk_normal ?_ | refine blk_ret ?_ | refine blk_here ?_ | refine blk_there rfl ?_ | refine loop_exit ?_ | refine loop_ret ?_ | refine un_exit ?_ | refine un_ret ?_ | refine unE_exit ?_ | refine unE_ret ?_ | refine un_normal ?_)
  (refine run_regionL fun K hK => ?_; (try (simp (maxSteps := 10000000) only [C66r5, rwp_nil, rwp_cons, aop, gpath, St.get, St.put, addBlk, shed])); (repeat (refine And.intro ?_ ?_; · first | trivial | assumption | omega)); refine hK _ (szSt 0 r s 32) ((LeS.intro [] (fun i h => absurd h (Nat.not_lt_zero i)) trivial rfl (by simp only [szSt, slotsLe, slotAt, leV, leV1, leC, and_self]) trivial)) ?_; clear hK K)
  refine run_seq ?_
  refine run_block ?_
  refine run_loop (fun q st => ∃ z : Int, st = szSt 0 r s z ∧ szL q s z = T ∧ 0 ≤ z ∧ z ≤ 32 ∧ z < 2 ^ (q - 1) ∧ 1 ≤ q) 7 ⟨32, rfl, hT, by decide, by decide, by decide, by decide⟩ ?_
  clear hT
  rintro q st ⟨z, rfl, hT, hz0, hz1, hz2, hq⟩
  simp only [szSt]
  have e2 : z.tdiv 2 = z / 2 := Int.tdiv_eq_ediv_of_nonneg hz0
  have hw : IntKind.i64.wrap (63 - s) = 63 - s := by rw [IntKind.wrap_i64]; omega
  have hw2 : IntKind.i64.wrap (z.tdiv 2) = z.tdiv 2 := by rw [IntKind.wrap_i64]; omega
  repeat' (first | refine run_seq ?_ | refine run_skip ?_ | (refine run_region fun K hK => ?_; (try (simp (maxSteps := 10000000) only [hw, hw2, C66r6, C66r7, rwp_nil, rwp_cons, aop, gpath, St.get, slotAt, sfx, eqP, St.put, addBlk, bin, isShift, sameK, arith, shed, imp])); (repeat (first | (refine And.intro ?_ ?_; · (first | assumption | omega | (intros; omega))))); with_reducible refine hK _ ?_; clear hK K) | (refine run_cond rfl (fun hc => ?_) (fun hc => ?_) <;> try (simp only [*, Bool.true_eq_false, Bool.false_eq_true, Bool.not_true, Bool.not_false, Bool.true_or, Bool.or_true, Bool.false_or, Bool.or_false, Bool.false_and, Bool.and_false, bne_self_eq_false, beq_self_eq_true] at hc; done)) | refine run_block ?_ | refine run_ret ?_ | refine run_nil ?_ | refine run_exit ?_ | refine blk_normal ?_ | refine blk_ret ?_ | refine blk_here ?_ | refine blk_there rfl ?_ | refine loop_exit ?_ | refine loop_ret ?_ | refine un_exit ?_ | refine un_ret ?_ | refine unE_exit ?_ | refine unE_ret ?_ | refine un_normal ?_)
  · have hgt : z > 63 - s := by simpa using ‹decide (z > 63 - s) = true›
    obtain ⟨m, rfl⟩ : ∃ m, q = m + 1 := ⟨q - 1, by omega⟩
    unfold szL at hT
    rw [if_pos hgt] at hT
    have hm : 1 ≤ m := by
      rcases Nat.eq_zero_or_pos m with rfl | h
      · simp at hz2; omega
      · exact h
    obtain ⟨m', rfl⟩ : ∃ m', m = m' + 1 := ⟨m - 1, by omega⟩
    have hp : (2 : Int) ^ (m' + 1 + 1 - 1) = 2 * 2 ^ (m' + 1 - 1) := by
      rw [show m' + 1 + 1 - 1 = m' + 1 by omega, show m' + 1 - 1 = m' by omega, Int.pow_succ, Int.mul_comm]
    exact loop_normal (m' + 1) (szSt 0 r s (z.tdiv 2)) (by omega) (LeS.intro [] (fun i h => absurd h (Nat.not_lt_zero i)) trivial rfl (by simp only [szSt, slotsLe, slotAt, leV, leV1, leC, and_self]) trivial) ⟨_, rfl, hT, by omega, by omega, by rw [hp] at hz2; omega, by omega⟩
  have hle : ¬ z > 63 - s := by simpa using ‹decide (z > 63 - s) = false›
  obtain ⟨m, rfl⟩ : ∃ m, q = m + 1 := ⟨q - 1, by omega⟩
  unfold szL at hT
  rw [if_neg hle] at hT
  subst hT
  repeat' (first | refine run_seq ?_ | refine run_skip ?_ | (refine run_region fun K hK => ?_; (try (simp (maxSteps := 10000000) only [C66r8, C66r9, rwp_nil, rwp_cons, aop, gpath, St.get, slotAt, sfx, eqP, St.put, addBlk, bin, isShift, sameK, arith, shed])); (repeat (first | (refine And.intro ?_ ?_; · (first | assumption | omega | (intros; omega))))); with_reducible refine hK _ ?_; clear hK K) | (refine run_cond rfl (fun hc => ?_) (fun hc => ?_) <;> try (simp only [*, Bool.true_eq_false, Bool.false_eq_true, Bool.not_true, Bool.not_false, Bool.true_or, Bool.or_true, Bool.false_or, Bool.or_false, Bool.false_and, Bool.and_false, bne_self_eq_false, beq_self_eq_true] at hc; done)) | refine run_block ?_ | refine run_ret ?_ | refine run_nil ?_ | refine run_exit ?_ | refine blk_normal ?_ | refine blk_ret ?_ | refine blk_here ?_ | refine blk_there rfl ?_ | refine loop_exit ?_ | refine loop_ret ?_ | refine un_exit ?_ | refine un_ret ?_ | refine unE_exit ?_ | refine unE_ret ?_ | refine un_normal ?_)
  · have h2 : z < 2 := by simpa using ‹decide (z < 2) = true›
    rw [if_pos h2] at hE
    subst hE
    exact end_tmp2 rfl rfl rfl ⟨rfl, rfl⟩ ⟨rfl, rfl⟩ rfl rfl ⟨⟨_, rfl⟩, rfl⟩
  have hz2' : ¬ z < 2 := by simpa using ‹decide (z < 2) = false›
  rw [if_neg hz2'] at hE
  have hz3 : z ≤ 64 := by omega
  have hs0 : 0 ≤ s.tmod z := Int.tmod_nonneg _ (by omega)
  have hs1 : s.tmod z < z := Int.tmod_lt_of_pos _ (by omega)
  have hr0 : 0 ≤ r.tmod z := Int.tmod_nonneg _ (by omega)
  have hr1 : r.tmod z < z := Int.tmod_lt_of_pos _ (by omega)
  have hz1 : IntKind.i64.wrap (z - 1) = z - 1 := by rw [IntKind.wrap_i64]; omega
  repeat' (first | refine run_seq ?_ | refine run_skip ?_ | (refine run_region fun K hK => ?_; (try (simp (maxSteps := 10000000) only [hz1, C66r10, C66r11, C66r12, rwp_nil, rwp_cons, aop, gpath, St.get, slotAt, sfx, eqP, St.put, addBlk, bin, isShift, sameK, arith, shed, imp])); (repeat (first | (refine And.intro ?_ ?_; · (first | assumption | omega | (intros; omega))))); with_reducible refine hK _ ?_; clear hK K) | (refine run_cond rfl (fun hc => ?_) (fun hc => ?_) <;> try (simp only [*, Bool.true_eq_false, Bool.false_eq_true, Bool.not_true, Bool.not_false, Bool.true_or, Bool.or_true, Bool.false_or, Bool.or_false, Bool.false_and, Bool.and_false, bne_self_eq_false, beq_self_eq_true] at hc; done)) | refine run_block ?_ | refine run_ret ?_ | refine run_nil ?_ | refine run_exit ?_ | refine blk_normal ?_ | refine blk_ret ?_ | refine blk_here ?_ | refine blk_there rfl ?_ | refine loop_exit ?_ | refine loop_ret ?_ | refine un_exit ?_ | refine un_ret ?_ | refine unE_exit ?_ | refine unE_ret ?_ | refine un_normal ?_)
  · have he : s.tmod z = z - 1 := by simpa using hc
    rw [if_pos he] at hE
    subst hE
    exact end_tmp2 rfl rfl rfl ⟨rfl, rfl⟩ ⟨rfl, rfl⟩ rfl rfl ⟨⟨_, rfl⟩, rfl⟩
  have he : ¬ s.tmod z = z - 1 := by simpa using hc
  rw [if_neg he] at hE
  subst hE
  clear hc he
  generalize s.tmod z = t at hs0 hs1
  repeat' (first | refine run_seq ?_ | refine run_skip ?_ | (refine run_region fun K hK => ?_; (try (simp (maxSteps := 10000000) only [C66r13, rwp_nil, rwp_cons, aop, gpath, St.get, St.put, addBlk, shed])); (repeat (first | (refine And.intro ?_ ?_; · (first | assumption | omega | (intros; omega))))); with_reducible refine hK _ ?_; clear hK K) | (refine run_cond rfl (fun hc => ?_) (fun hc => ?_) <;> try (simp only [*, Bool.true_eq_false, Bool.false_eq_true, Bool.not_true, Bool.not_false, Bool.true_or, Bool.or_true, Bool.false_or, Bool.or_false, Bool.false_and, Bool.and_false, bne_self_eq_false, beq_self_eq_true] at hc; done)) | refine run_block ?_ | refine run_ret ?_ | refine run_nil ?_ | refine run_exit ?_ | refine blk_normal ?_ | refine blk_ret ?_ | refine blk_here ?_ | refine blk_there rfl ?_ | refine loop_exit ?_ | refine loop_ret ?_ | refine un_exit ?_ | refine un_ret ?_ | refine unE_exit ?_ | refine unE_ret ?_ | refine un_normal ?_)
  (refine run_regionL fun K hK => ?_; (try (simp (maxSteps := 10000000) only [C66r14, rwp_nil, rwp_cons, aop, gpath, St.get, St.put, addBlk, shed])); (repeat (refine And.intro ?_ ?_; · first | trivial | assumption | omega)); refine hK _ (oneSt r t z 0 0) ((LeS.intro [] (fun i h => absurd h (Nat.not_lt_zero i)) trivial rfl (by simp only [oneSt, slotsLe, slotAt, leV, leV1, leC, and_self, Int.natCast_zero]) trivial)) ?_; clear hK K)
  refine run_block ?_
  refine run_loop (fun q st => ∃ (k : Nat) (o : Int), st = oneSt r t z o k ∧ q = (t + 1).toNat - k ∧ (k : Int) ≤ t + 1) (t + 1).toNat ⟨0, 0, rfl, rfl, by omega⟩ ?_
  rintro q st ⟨k, o, rfl, hq, hk⟩
  simp only [oneSt]
  repeat' (first | refine run_seq ?_ | refine run_skip ?_ | (refine run_region fun K hK => ?_; (try (simp (maxSteps := 10000000) only [C66r15, C66r16, C66r17, rwp_nil, rwp_cons, aop, gpath, St.get, slotAt, sfx, eqP, St.put, addBlk, bin, isShift, sameK, arith, shiftR, shed, imp, Int.toNat_natCast])); (repeat (first | (refine And.intro ?_ ?_; · (first | assumption | omega | (intros; omega))))); with_reducible refine hK _ ?_; clear hK K) | (refine run_cond rfl (fun hc => ?_) (fun hc => ?_) <;> try (simp only [*, Bool.true_eq_false, Bool.false_eq_true, Bool.not_true, Bool.not_false, Bool.true_or, Bool.or_true, Bool.false_or, Bool.or_false, Bool.false_and, Bool.and_false, bne_self_eq_false, beq_self_eq_true] at hc; done)) | refine run_block ?_ | refine run_ret ?_ | refine run_nil ?_ | refine run_exit ?_ | refine blk_normal ?_ | refine blk_ret ?_ | refine blk_here ?_ | refine blk_there rfl ?_ | refine loop_exit ?_ | refine loop_ret ?_ | refine un_exit ?_ | refine un_ret ?_ | refine unE_exit ?_ | refine unE_ret ?_ | refine un_normal ?_)
  · have hlt : (k : Int) ≤ t := by simpa using ‹decide ((k : Int) ≤ t) = true›
    have hw2 : IntKind.i64.wrap ((k : Int) + 1) = ((k + 1 : Nat) : Int) := by rw [IntKind.wrap_i64]; omega
    rw [hw2]
    exact loop_normal ((t + 1).toNat - (k + 1)) (oneSt r t z _ (k + 1)) (by omega) (LeS.intro [] (fun i h => absurd h (Nat.not_lt_zero i)) trivial rfl (by simp only [oneSt, slotsLe, slotAt, leV, leV1, leC, and_self]; exact ⟨trivial, ⟨trivial, rfl⟩, trivial⟩) trivial) ⟨k + 1, _, rfl, rfl, by omega⟩
  refine run_region fun K hK => ?_
  simp (maxSteps := 10000000) only [C66r18, rwp_cons, aop, gpath, St.get, slotAt, sfx, eqP, St.put, addBlk, bin, isShift, sameK, arith, imp, appL, argsOf, ptrsOf]
  refine And.intro (by omega) ?_
  refine call_t _ (con107 o (r.tmod z) z (by omega) (by omega) hr0 (by omega)) ?_
  rintro v H' ⟨⟨x1, e1, rfl⟩, rfl⟩
  simp (maxSteps := 10000000) only [rwp_nil, rwp_cons, rwpK_app, aop, gpath, St.get, slotAt, sfx, eqP, St.put, addBlk, shed, nthA]
  refine hK _ ?_
  clear hK K
  repeat' (first | refine run_seq ?_ | refine run_skip ?_ | (refine run_region fun K hK => ?_; (try (simp (maxSteps := 10000000) only [C66r19, rwp_nil, rwp_cons, aop, gpath, St.get, St.put, addBlk, shed])); (repeat (first | (refine And.intro ?_ ?_; · (first | assumption | omega | (intros; omega))))); with_reducible refine hK _ ?_; clear hK K) | (refine run_cond rfl (fun hc => ?_) (fun hc => ?_) <;> try (simp only [*, Bool.true_eq_false, Bool.false_eq_true, Bool.not_true, Bool.not_false, Bool.true_or, Bool.or_true, Bool.false_or, Bool.or_false, Bool.false_and, Bool.and_false, bne_self_eq_false, beq_self_eq_true] at hc; done)) | refine run_block ?_ | refine run_ret ?_ | refine run_nil ?_ | refine run_exit ?_ | refine blk_normal ?_ | refine blk_ret ?_ | refine blk_here ?_ | refine blk_there rfl ?_ | refine loop_exit ?_ | refine loop_ret ?_ | refine un_exit ?_ | refine un_ret ?_ | refine unE_exit ?_ | refine unE_ret ?_ | refine un_normal ?_)
  (refine run_regionL fun K hK => ?_; (try (simp (maxSteps := 10000000) only [C66r20, rwp_nil, rwp_cons, aop, gpath, St.get, St.put, addBlk, shed])); (repeat (refine And.intro ?_ ?_; · first | trivial | assumption | omega)); refine hK _ (outSt z x1 0 0) ((LeS.intro [] (fun i h => absurd h (Nat.not_lt_zero i)) trivial rfl (by simp only [outSt, slotsLe, slotAt, leV, leV1, leC, and_self, Int.natCast_zero]) trivial)) ?_; clear hK K)
  refine run_block ?_
  refine run_loop (fun q st => ∃ (k : Nat) (x : Int), st = outSt z x1 x k ∧ q = 64 - k ∧ k ≤ 64) 64 ⟨0, 0, rfl, rfl, by omega⟩ ?_
  clear hk
  rintro q st ⟨k, x, rfl, hq, hk⟩
  simp only [outSt]
  have ht : 0 ≤ (k : Int).tmod z := Int.tmod_nonneg _ (by omega)
  repeat' (first | refine run_seq ?_ | refine run_skip ?_ | (refine run_region fun K hK => ?_; (try (simp (maxSteps := 10000000) only [C66r21, C66r22, C66r23, C66r24, rwp_nil, rwp_cons, aop, gpath, St.get, slotAt, sfx, eqP, St.put, addBlk, bin, isShift, sameK, arith, shed, imp, appL, argsOf, ptrsOf])); (repeat (first | (refine And.intro ?_ ?_; · (first | assumption | omega | (intros; omega))) | ((first | (refine call_t _ (con108 x1 ((k : Int).tmod z) ht _) ?_; rintro v H' ⟨rfl, rfl⟩) | refine call_q _ (con108 x1 ((k : Int).tmod z) ht _) ?_ | refine call_g _ (imp_of (con108 x1 ((k : Int).tmod z) ht _)) ?_); simp (maxSteps := 10000000) only [rwp_nil, rwp_cons, rwpK_app, aop, gpath, St.get, slotAt, sfx, eqP, St.put, addBlk, bin, isShift, sameK, arith, shiftR, shed, imp, Int.toNat_natCast]))); with_reducible refine hK _ ?_; clear hK K) | (refine run_cond rfl (fun hc => ?_) (fun hc => ?_) <;> try (simp only [*, Bool.true_eq_false, Bool.false_eq_true, Bool.not_true, Bool.not_false, Bool.true_or, Bool.or_true, Bool.false_or, Bool.or_false, Bool.false_and, Bool.and_false, bne_self_eq_false, beq_self_eq_true] at hc; done)) | refine run_block ?_ | refine run_ret ?_ | refine run_nil ?_ | refine run_exit ?_ | refine blk_normal ?_ | refine blk_ret ?_ | refine blk_here ?_ | refine blk_there rfl ?_ | refine loop_exit ?_ | refine loop_ret ?_ | refine un_exit ?_ | refine un_ret ?_ | refine unE_exit ?_ | refine unE_ret ?_ | refine un_normal ?_)
  · have hlt : (k : Int) < 64 := by simpa using ‹decide ((k : Int) < 64) = true›
    have hw2 : IntKind.i64.wrap ((k : Int) + 1) = ((k + 1 : Nat) : Int) := by rw [IntKind.wrap_i64]; omega
    rw [hw2]
    exact loop_normal (64 - (k + 1)) (outSt z x1 _ (k + 1)) (by omega) (LeS.intro [] (fun i h => absurd h (Nat.not_lt_zero i)) trivial rfl (by simp only [outSt, slotsLe, slotAt, leV, leV1, leC, and_self]; exact ⟨trivial, ⟨trivial, rfl⟩, trivial⟩) trivial) ⟨k + 1, _, rfl, rfl, by omega⟩
  exact end_tmp2 rfl rfl rfl ⟨rfl, rfl⟩ ⟨rfl, rfl⟩ rfl rfl ⟨⟨_, rfl⟩, rfl⟩
theorem con66 (n r s : Int) : Con Tryz.prog 66 [.c (.int .i64 n), .c (.int .i64 r), .c (.int .i64 s)] ⟨0, []⟩ (fun v H' => (∃ x : Int, v = .tup [.c (.int .u64 x), .c (.int .i64 (refE n r s))]) ∧ H' = ⟨0, []⟩) := by
  unfold refE
  by_cases h : mBad n r s = true
  · rw [if_pos h]
    exact con66_bad n r s h
  · rw [if_neg h]
    have h' : mBad n r s = false := by simpa using h
    have h2 := h'
    unfold mBad at h2
    simp only [Bool.or_eq_false_iff, decide_eq_false_iff_not] at h2
    unfold mSize
    by_cases h0 : n = 0
    · subst h0
      rw [if_pos rfl]
      exact con66_0 r s _ h' (by omega) (by omega) rfl
    · rw [if_neg h0, if_neg (by decide)]
      exact con66_1 n r s _ h' (by simpa using h0) (by omega) (by omega) rfl
end Go.Proofs.YteikpddilabppaaGreatR

namespace Go.Proofs.YteikpddilabppaaGreatR
open Go.AM
set_option maxRecDepth 100000
theorem ref13_no (x : InsnS) (h64 : ∀ H, Con Tryz.prog 64 [.agg (insnL x)] H (fun v H' => v = .c (.bool false) ∧ H' = H)) (H : Heap) : Con Tryz.prog 13 [.agg (insnL x)] H (fun v H' => v = .c (.bool false) ∧ H' = H) := by
  refine Con.pure ?_ (by simp only [leArgs, leV, leV1, insnL, leSegs, leSeg, leC, and_self]) rfl H
  (refine con_of_run mixed (fn := Tryz.f13) (by kernel_rfl) (by kernel_rfl) C13_ok (rs := [.tmp 2]) (by kernel_rfl) (Nat.le_of_ble_eq_true (by kernel_rfl)) ?_; unfold C13; simp only [initT])
  repeat' (first | refine run_seq ?_ | refine run_skip ?_ | (refine run_region fun K hK => ?_; (try (simp (maxSteps := 10000000) only [insnL, Bool.not_false, C13r0, C13r1, C13r2, C13r3, rwp_nil, rwp_cons, aop, gpath, St.get, slotAt, sfx, eqP, segsOf, St.put, addBlk, getB, ldn, rowNeed, nsub, un, shed, Seg.size, sizes, appL, argsOf, ptrsOf, cut, takeS, dropS, Nat.reduceAdd])); (repeat (first | (refine And.intro ?_ ?_; · decide) | ((first | (refine call_t _ (h64 _) ?_; rintro v H' ⟨rfl, rfl⟩) | refine call_q _ (h64 _) ?_ | refine call_g _ (imp_of (h64 _)) ?_); simp (maxSteps := 10000000) only [rwp_nil, rwp_cons, rwpK_app, aop, gpath, St.get, slotAt, sfx, eqP, St.put, addBlk, shed]))); with_reducible refine hK _ ?_; clear hK K) | (refine run_cond rfl (fun hc => ?_) (fun hc => ?_) <;> try (simp only [*, Bool.true_eq_false] at hc; done)) | refine run_block ?_ | refine run_ret ?_ | refine run_nil ?_ | refine blk_normal ?_ | refine blk_ret ?_ | refine blk_here ?_ | refine blk_there rfl ?_)
  exact end_tmp1 rfl rfl rfl ⟨rfl, rfl⟩
set_option maxHeartbeats 8000000 in
theorem ref13_P (x : InsnS) (k : Int) (V : Bool) (ho : x.op = k) (h64 : ∀ H, Con Tryz.prog 64 [.agg (insnL x)] H (fun v H' => v = .c (.bool true) ∧ H' = H)) (hk : (k = 1 ∧ V = (inS x.imm 0 4095 && ((x.amount == 0) || (x.amount == 12)))) ∨ (k = 2 ∧ V = (inS x.shift 0 2 && inS x.amount 0 63)) ∨ (k = 3 ∧ V = (((inS x.sub 0 2 && (!x.flags || (x.sub == 0))) && inS x.shift 0 3) && inS x.amount 0 63)) ∨ (k = 5 ∧ V = (((((x.sub == 0) || (x.sub == 2)) || (x.sub == 3)) && inS x.imm 0 65535) && stepS x.amount 16 0 48)) ∨ (k = 6 ∧ V = ((((x.sub == 0) || (x.sub == 2)) && inS x.imm 0 63) && inS x.imm2 0 63)) ∨ (k = 7 ∧ V = (inS x.sub 0 3)) ∨ (k = 8 ∧ V = (true)) ∨ (k = 9 ∧ V = (inS x.sub 0 1)) ∨ (k = 10 ∧ V = (inS x.sub 0 3 && inS x.cond 0 15)) ∨ (k = 11 ∧ V = (((x.sub == 0) && inS x.imm (-1048576) 1048575) || ((x.sub == 1) && stepS x.imm 4096 (-4294967296) 4294963200))) ∨ (k = 12 ∧ V = (stepS x.imm 4 (-134217728) 134217724)) ∨ (k = 13 ∧ V = (inS x.cond 0 15 && stepS x.imm 4 (-1048576) 1048572)) ∨ (k = 14 ∧ V = (stepS x.imm 4 (-1048576) 1048572)) ∨ (k = 15 ∧ V = (inS x.amount 0 63 && stepS x.imm 4 (-32768) 32764)) ∨ (k = 16 ∧ V = (inS x.sub 0 2)) ∨ (k = 17 ∧ V = (stepS x.imm 8 0 32760)) ∨ (k = 18 ∧ V = (stepS x.imm 8 0 32760)) ∨ (k = 19 ∧ V = ((x.amount == 0) || (x.amount == 3))) ∨ (k = 20 ∧ V = ((x.amount == 0) || (x.amount == 3))) ∨ (k = 21 ∧ V = (inS x.sub 0 1)) ∨ (k = 22 ∧ V = (true)) ∨ (k = 23 ∧ V = (inS x.sub 0 1)) ∨ (k = 24 ∧ V = (inS x.sub 0 1)) ∨ (k = 25 ∧ V = (true)) ∨ (k = 26 ∧ V = (inS x.sub 0 1 && inS x.imm 1 3)) ∨ (k = 27 ∧ V = (true)) ∨ (k = 28 ∧ V = (true)) ∨ (k = 29 ∧ V = (true)) ∨ (k = 30 ∧ V = (true)) ∨ (k = 31 ∧ V = (inL sysL 18 x.sys)) ∨ (k = 32 ∧ V = (inL sysL 18 x.sys)) ∨ (k = 33 ∧ V = (inS x.sub 0 1 && inS x.imm 0 15)) ∨ (k = 34 ∧ V = (inS x.imm 0 65535)) ∨ (k = 35 ∧ V = (inS x.imm 0 65535)) ∨ (k = 36 ∧ V = (true)) ∨ (k = 37 ∧ V = (inS x.imm 0 5))) (H : Heap) : Con Tryz.prog 13 [.agg (insnL x)] H (fun v H' => v = .c (.bool V) ∧ H' = H) := by
  refine Con.pure ?_ (by simp only [leArgs, leV, leV1, insnL, leSegs, leSeg, leC, and_self]) rfl H
  rcases hk with ⟨rfl, rfl⟩ | ⟨rfl, rfl⟩ | ⟨rfl, rfl⟩ | ⟨rfl, rfl⟩ | ⟨rfl, rfl⟩ | ⟨rfl, rfl⟩ | ⟨rfl, rfl⟩ | ⟨rfl, rfl⟩ | ⟨rfl, rfl⟩ | ⟨rfl, rfl⟩ | ⟨rfl, rfl⟩ | ⟨rfl, rfl⟩ | ⟨rfl, rfl⟩ | ⟨rfl, rfl⟩ | ⟨rfl, rfl⟩ | ⟨rfl, rfl⟩ | ⟨rfl, rfl⟩ | ⟨rfl, rfl⟩ | ⟨rfl, rfl⟩ | ⟨rfl, rfl⟩ | ⟨rfl, rfl⟩ | ⟨rfl, rfl⟩ | ⟨rfl, rfl⟩ | ⟨rfl, rfl⟩ | ⟨rfl, rfl⟩ | ⟨rfl, rfl⟩ | ⟨rfl, rfl⟩ | ⟨rfl, rfl⟩ | ⟨rfl, rfl⟩ | ⟨rfl, rfl⟩ | ⟨rfl, rfl⟩ | ⟨rfl, rfl⟩ | ⟨rfl, rfl⟩ | ⟨rfl, rfl⟩ | ⟨rfl, rfl⟩ | ⟨rfl, rfl⟩
  all_goals
    (refine con_of_run mixed (fn := Tryz.f13) (by kernel_rfl) (by kernel_rfl) C13_ok (rs := [.tmp 2]) (by kernel_rfl) (Nat.le_of_ble_eq_true (by kernel_rfl)) ?_; unfold C13; simp only [initT])
    repeat' (first | refine run_seq ?_ | refine run_skip ?_ | (refine run_region fun K hK => ?_; (try (simp (maxSteps := 10000000) only [insnL, Bool.not_true, C13r0, C13r1, C13r2, rwp_nil, rwp_cons, aop, gpath, St.get, slotAt, sfx, eqP, segsOf, St.put, addBlk, getB, ldn, rowNeed, nsub, un, shed, Seg.size, sizes, appL, argsOf, ptrsOf, cut, takeS, dropS, Nat.reduceAdd])); (repeat (first | (refine And.intro ?_ ?_; · decide) | ((first | (refine call_t _ (h64 _) ?_; rintro v H' ⟨rfl, rfl⟩) | refine call_q _ (h64 _) ?_ | refine call_g _ (imp_of (h64 _)) ?_); simp (maxSteps := 10000000) only [rwp_nil, rwp_cons, rwpK_app, aop, gpath, St.get, slotAt, sfx, eqP, St.put, addBlk, shed]))); with_reducible refine hK _ ?_; clear hK K) | (refine run_cond rfl (fun hc => ?_) (fun hc => ?_) <;> try (simp only [*, Bool.false_eq_true] at hc; done)) | refine run_block ?_ | refine run_ret ?_ | refine run_nil ?_ | refine blk_normal ?_ | refine blk_ret ?_ | refine blk_here ?_ | refine blk_there rfl ?_)
    repeat' (first | refine run_seq ?_ | refine run_skip ?_ | (refine run_region fun K hK => ?_; (try (simp (maxSteps := 10000000) only [ho, Int.reduceBEq, C13r4, C13r5, C13r6, C13r7, C13r8, C13r9, C13r10, C13r11, C13r14, C13r15, C13r16, C13r17, C13r18, C13r19, C13r20, C13r21, C13r22, C13r23, C13r24, C13r25, C13r26, C13r27, C13r28, C13r29, C13r30, C13r31, C13r32, C13r33, C13r34, C13r35, C13r36, C13r37, C13r38, C13r39, C13r40, C13r41, C13r42, C13r43, C13r44, C13r45, C13r46, C13r47, C13r48, C13r49, C13r50, C13r51, C13r52, C13r53, C13r54, C13r55, C13r56, C13r57, rwp_nil, rwp_cons, aop, gpath, St.get, slotAt, sfx, eqP, St.put, addBlk, getB, ld1, rowNeed, segAt, nsub, bin, isShift, sameK, arith, getsl, selB_or, beqb, shed, addN, Seg.size, appL, argsOf, ptrsOf, Nat.reduceAdd])); (repeat (first | (refine And.intro ?_ ?_; · (first | decide | trivial | assumption | (intros; first | decide | trivial))) | ((first | (refine call_t _ (con65 _ _ _ _) ?_; rintro v H' ⟨rfl, rfl⟩) | refine call_q _ (con65 _ _ _ _) ?_ | refine call_g _ (imp_of (con65 _ _ _ _)) ?_ | (refine call_t _ (con67 _ _ _ _ (by decide) (by decide) _) ?_; rintro v H' ⟨rfl, rfl⟩) | refine call_q _ (con67 _ _ _ _ (by decide) (by decide) _) ?_ | refine call_g _ (imp_of (con67 _ _ _ _ (by decide) (by decide) _)) ?_ | (refine call_t _ (con68 _ _) ?_; rintro v H' ⟨rfl, rfl⟩) | refine call_q _ (con68 _ _) ?_ | refine call_g _ (imp_of (con68 _ _)) ?_); simp (maxSteps := 10000000) only [rwp_nil, rwp_cons, rwpK_app, aop, gpath, St.get, slotAt, sfx, eqP, St.put, addBlk, getB, ld1, rowNeed, segAt, nsub, bin, un, isShift, sameK, arith, getsl, selB_or, selB_and, beqb, shed, addN, Seg.size, appL, argsOf, ptrsOf, Nat.reduceAdd]))); with_reducible refine hK _ ?_; clear hK K) | (refine run_cond rfl (fun hc => ?_) (fun hc => ?_) <;> try (simp only [*, Bool.true_eq_false, Bool.false_eq_true] at hc; done)) | refine run_block ?_ | refine run_ret ?_ | refine run_nil ?_ | refine blk_normal ?_ | refine blk_ret ?_ | refine blk_here ?_ | refine blk_there rfl ?_)
    exact end_tmp1 rfl rfl rfl ⟨rfl, rfl⟩
theorem ref13_4 (x : InsnS) (ho : x.op = 4) (h64 : ∀ H, Con Tryz.prog 64 [.agg (insnL x)] H (fun v H' => v = .c (.bool true) ∧ H' = H)) (H : Heap) : Con Tryz.prog 13 [.agg (insnL x)] H (fun v H' => v = .c (.bool ((inS x.sub 0 2 && (!x.flags || (x.sub == 0))) && (refE x.amount x.imm x.imm2 == 0))) ∧ H' = H) := by
  refine Con.pure ?_ (by simp only [leArgs, leV, leV1, insnL, leSegs, leSeg, leC, and_self]) rfl H
  (refine con_of_run mixed (fn := Tryz.f13) (by kernel_rfl) (by kernel_rfl) C13_ok (rs := [.tmp 2]) (by kernel_rfl) (Nat.le_of_ble_eq_true (by kernel_rfl)) ?_; unfold C13; simp only [initT])
  repeat' (first | refine run_seq ?_ | refine run_skip ?_ | (refine run_region fun K hK => ?_; (try (simp (maxSteps := 10000000) only [insnL, Bool.not_true, C13r0, C13r1, C13r2, rwp_nil, rwp_cons, aop, gpath, St.get, slotAt, sfx, eqP, segsOf, St.put, addBlk, getB, ldn, rowNeed, nsub, un, shed, Seg.size, sizes, appL, argsOf, ptrsOf, cut, takeS, dropS, Nat.reduceAdd])); (repeat (first | (refine And.intro ?_ ?_; · decide) | ((first | (refine call_t _ (h64 _) ?_; rintro v H' ⟨rfl, rfl⟩) | refine call_q _ (h64 _) ?_ | refine call_g _ (imp_of (h64 _)) ?_); simp (maxSteps := 10000000) only [rwp_nil, rwp_cons, rwpK_app, aop, gpath, St.get, slotAt, sfx, eqP, St.put, addBlk, shed]))); with_reducible refine hK _ ?_; clear hK K) | (refine run_cond rfl (fun hc => ?_) (fun hc => ?_) <;> try (simp only [*, Bool.false_eq_true] at hc; done)) | refine run_block ?_ | refine run_ret ?_ | refine run_nil ?_ | refine blk_normal ?_ | refine blk_ret ?_ | refine blk_here ?_ | refine blk_there rfl ?_)
  repeat' (first | refine run_seq ?_ | refine run_skip ?_ | (refine run_region fun K hK => ?_; (try (simp (maxSteps := 10000000) only [ho, Int.reduceBEq, C13r4, C13r5, C13r7, C13r9, C13r11, rwp_nil, rwp_cons, aop, gpath, St.get, slotAt, sfx, eqP, St.put, addBlk, getB, ld1, rowNeed, segAt, bin, isShift, sameK, arith, shed, addN])); (repeat (first | (refine And.intro ?_ ?_; · decide))); with_reducible refine hK _ ?_; clear hK K) | (refine run_cond rfl (fun hc => ?_) (fun hc => ?_) <;> try (simp only [*, Bool.true_eq_false, Bool.false_eq_true] at hc; done)) | refine run_block ?_ | refine run_ret ?_ | refine run_nil ?_ | refine blk_normal ?_ | refine blk_ret ?_ | refine blk_here ?_ | refine blk_there rfl ?_)
  refine run_region fun K hK => ?_
  simp (maxSteps := 10000000) only [C13r12, rwp_cons, aop, gpath, St.get, slotAt, sfx, eqP, St.put, addBlk, getB, ld1, rowNeed, segAt, nsub, addN, Seg.size, appL, argsOf, ptrsOf, Nat.reduceAdd]
  refine call_t _ (pureE (con66 x.amount x.imm x.imm2) (by simp only [leArgs, leV, leV1, leC, and_self]) (fun _ => rfl) _) ?_
  rintro v H' ⟨⟨z, rfl⟩, rfl⟩
  simp (maxSteps := 10000000) only [rwp_nil, rwp_cons, rwpK_app, aop, gpath, St.get, slotAt, sfx, eqP, St.put, addBlk, shed, nthA]
  refine hK _ ?_
  clear hK K
  repeat' (first | refine run_seq ?_ | refine run_skip ?_ | (refine run_region fun K hK => ?_; (try (simp (maxSteps := 10000000) only [C13r13, rwp_cons, aop, gpath, St.get, slotAt, sfx, eqP, St.put, addBlk, getB, ld1, rowNeed, segAt, nsub, addN, Seg.size, appL, argsOf, ptrsOf, Nat.reduceAdd])); (repeat (first | (refine And.intro ?_ ?_; · (first | decide | trivial | assumption | (intros; first | decide | trivial))) | ((first | (refine call_t _ (con65 _ _ _ _) ?_; rintro v H' ⟨rfl, rfl⟩) | refine call_q _ (con65 _ _ _ _) ?_ | refine call_g _ (imp_of (con65 _ _ _ _)) ?_); simp (maxSteps := 10000000) only [rwp_nil, rwp_cons, rwpK_app, aop, gpath, St.get, slotAt, sfx, eqP, St.put, addBlk, getB, ld1, rowNeed, segAt, nsub, bin, un, isShift, sameK, arith, getsl, selB_or, selB_and, beqb, shed, addN, Seg.size, Nat.reduceAdd]))); with_reducible refine hK _ ?_; clear hK K) | (refine run_cond rfl (fun hc => ?_) (fun hc => ?_) <;> try (simp only [*, Bool.true_eq_false, Bool.false_eq_true, Bool.not_true, Bool.not_false, Bool.true_or, Bool.or_true, Bool.false_or, Bool.or_false, Bool.false_and, Bool.and_false, bne_self_eq_false, beq_self_eq_true] at hc; done)) | refine run_block ?_ | refine run_ret ?_ | refine run_nil ?_ | refine blk_normal ?_ | refine blk_ret ?_ | refine blk_here ?_ | refine blk_there rfl ?_)
  exact end_tmp1 rfl rfl rfl ⟨rfl, rfl⟩
end Go.Proofs.YteikpddilabppaaGreatR

namespace Go.Proofs.YteikpddilabppaaGreatR
open Go.AM
set_option maxRecDepth 100000
def addU (a b : Int) : Int := IntKind.u32.wrap (a + b)
def subU (a b : Int) : Int := IntKind.u32.wrap (a - b)
def mulU (a b : Int) : Int := IntKind.u32.wrap (a * b)
def shlU (a : Int) (k : Nat) : Int := IntKind.u32.wrap (a * 2 ^ min k IntKind.u32.bits)
def u32S (a : Int) : Int := IntKind.u32.wrap a
set_option maxHeartbeats 8000000 in
theorem con16_P (x : InsnS) (d n m s k W : Int) (ho : x.op = k) (hk : (k = 17 ∧ W = addU (addU (addU (((4181721088 : Nat) : Int)) (shlU (lowS (quoS x.imm 8) 12) 10)) (n)) (d)) ∨ (k = 18 ∧ W = addU (addU (addU (((4177526784 : Nat) : Int)) (shlU (lowS (quoS x.imm 8) 12) 10)) (n)) (d)) ∨ (k = 19 ∧ W = addU (addU (addU (addU (((4167067648 : Nat) : Int)) (whenS (x.amount == 3) 4096)) (m)) (n)) (d)) ∨ (k = 20 ∧ W = addU (addU (addU (addU (((4162873344 : Nat) : Int)) (whenS (x.amount == 3) 4096)) (m)) (n)) (d)) ∨ (k = 21 ∧ (s == 1) = true ∧ W = addU (addU (((4173316096 : Nat) : Int)) (n)) (d)) ∨ (k = 21 ∧ (s == 1) = false ∧ W = addU (addU (((3370122240 : Nat) : Int)) (n)) (d)) ∨ (k = 22 ∧ W = addU (addU (((3365927936 : Nat) : Int)) (n)) (d)) ∨ (k = 23 ∧ W = addU (addU (addU (((3361700864 : Nat) : Int)) (shlU (s) 15)) (n)) (d)) ∨ (k = 24 ∧ W = addU (addU (addU (addU (((3355474944 : Nat) : Int)) (shlU (s) 15)) (m)) (n)) (d)) ∨ (k = 25 ∧ W = ((3573759839 : Nat) : Int)) ∨ (k = 26 ∧ W = addU (subU ((3573759167 : Nat) : Int) (mulU s 32)) (shlU (u32S x.imm) 8)) ∨ (k = 27 ∧ W = ((3573759967 : Nat) : Int)) ∨ (k = 28 ∧ W = addU (((3574297888 : Nat) : Int)) (d)) ∨ (k = 30 ∧ W = addU (((3574299424 : Nat) : Int)) (d)) ∨ (k = 29 ∧ W = ((3574101279 : Nat) : Int)) ∨ (k = 31 ∧ W = addU (addU (((3576692736 : Nat) : Int)) (shlU (u32S x.sys) 5)) (d)) ∨ (k = 32 ∧ W = addU (addU (((3574595584 : Nat) : Int)) (shlU (u32S x.sys) 5)) (d)) ∨ (k = 33 ∧ W = addU (addU (((3573760223 : Nat) : Int)) (mulU s 32)) (shlU (u32S x.imm) 8)) ∨ (k = 34 ∧ W = addU (((3556769793 : Nat) : Int)) (shlU (u32S x.imm) 5)) ∨ (k = 35 ∧ W = addU (((3558866944 : Nat) : Int)) (shlU (u32S x.imm) 5)) ∨ (k = 36 ∧ W = ((3600745440 : Nat) : Int)) ∨ (k = 37 ∧ W = addU (((3573751839 : Nat) : Int)) (shlU (u32S x.imm) 5))) (H : Heap) : Con Tryz.prog 16 [.agg (insnL x), .c (.int .u32 d), .c (.int .u32 n), .c (.int .u32 m), .c (.int .u32 s)] H (fun v H' => v = .tup [.c (.int .u32 W), .c (.bool true)] ∧ H' = H) := by
  refine Con.pure ?_ (by simp only [leArgs, leV, leV1, insnL, leSegs, leSeg, leC, and_self]) rfl H
  rcases hk with ⟨rfl, rfl⟩ | ⟨rfl, rfl⟩ | ⟨rfl, rfl⟩ | ⟨rfl, rfl⟩ | ⟨rfl, hs, rfl⟩ | ⟨rfl, hs, rfl⟩ | ⟨rfl, rfl⟩ | ⟨rfl, rfl⟩ | ⟨rfl, rfl⟩ | ⟨rfl, rfl⟩ | ⟨rfl, rfl⟩ | ⟨rfl, rfl⟩ | ⟨rfl, rfl⟩ | ⟨rfl, rfl⟩ | ⟨rfl, rfl⟩ | ⟨rfl, rfl⟩ | ⟨rfl, rfl⟩ | ⟨rfl, rfl⟩ | ⟨rfl, rfl⟩ | ⟨rfl, rfl⟩ | ⟨rfl, rfl⟩ | ⟨rfl, rfl⟩
  all_goals
    (refine con_of_run mixed (fn := Tryz.f16) (by kernel_rfl) (by kernel_rfl) C16_ok (rs := [.tmp 10, .tmp 11]) (by kernel_rfl) (Nat.le_of_ble_eq_true (by kernel_rfl)) ?_; unfold C16; simp only [initT, Nat.reduceAdd])
    repeat' (first | refine run_seq ?_ | refine run_skip ?_ | (refine run_region fun K hK => ?_; (try (simp (maxSteps := 10000000) only [insnL, ho, Int.reduceBEq, C16r0, C16r1, C16r2, C16r3, C16r4, C16r5, C16r6, C16r7, C16r8, C16r9, C16r10, C16r11, C16r12, C16r13, C16r14, C16r15, C16r16, C16r17, C16r18, C16r19, C16r20, C16r21, C16r22, C16r23, C16r24, C16r25, C16r26, C16r27, C16r28, C16r29, C16r30, C16r31, C16r32, C16r33, C16r34, C16r35, C16r36, C16r37, C16r38, C16r39, C16r40, C16r41, C16r42, C16r43, C16r44, rwp_nil, rwp_cons, aop, gpath, St.get, slotAt, sfx, eqP, segsOf, St.put, addBlk, getB, ld1, rowNeed, segAt, nsub, bin, isShift, sameK, arith, shiftR, shed, addN, Seg.size, sizes, imp, appL, argsOf, ptrsOf, Nat.reduceAdd, Int.reduceToNat])); (repeat (first | (refine And.intro ?_ ?_; · (first | decide | assumption | trivial | (intros; first | decide | trivial | assumption))) | ((first | (refine call_t _ (con14 _ _ (by decide) _) ?_; rintro v H' ⟨rfl, rfl⟩) | refine call_q _ (con14 _ _ (by decide) _) ?_ | refine call_g _ (imp_of (con14 _ _ (by decide) _)) ?_ | (refine call_t _ (con15 _ _ _) ?_; rintro v H' ⟨rfl, rfl⟩) | refine call_q _ (con15 _ _ _) ?_ | refine call_g _ (imp_of (con15 _ _ _)) ?_); simp (maxSteps := 10000000) only [rwp_nil, rwp_cons, rwpK_app, aop, gpath, St.get, slotAt, sfx, eqP, St.put, addBlk, bin, isShift, sameK, arith, shiftR, shed, imp, Int.reduceToNat]))); with_reducible refine hK _ ?_; clear hK K) | (refine run_cond rfl (fun hc => ?_) (fun hc => ?_) <;> try (simp only [*, Bool.true_eq_false, Bool.false_eq_true] at hc; done)) | refine run_block ?_ | refine run_ret ?_ | refine run_nil ?_ | refine blk_normal ?_ | refine blk_ret ?_ | refine blk_here ?_ | refine blk_there rfl ?_)
    exact end_tmp2 rfl rfl rfl ⟨rfl, rfl⟩ rfl rfl rfl ⟨rfl, rfl⟩
theorem con16_17 (x : InsnS) (d n m s : Int) (ho : x.op = 17) (H : Heap) : Con Tryz.prog 16 [.agg (insnL x), .c (.int .u32 d), .c (.int .u32 n), .c (.int .u32 m), .c (.int .u32 s)] H (fun v H' => v = .tup [.c (.int .u32 (addU (addU (addU (((4181721088 : Nat) : Int)) (shlU (lowS (quoS x.imm 8) 12) 10)) (n)) (d))), .c (.bool true)] ∧ H' = H) := con16_P x d n m s _ _ ho (by simp) H
theorem con16_18 (x : InsnS) (d n m s : Int) (ho : x.op = 18) (H : Heap) : Con Tryz.prog 16 [.agg (insnL x), .c (.int .u32 d), .c (.int .u32 n), .c (.int .u32 m), .c (.int .u32 s)] H (fun v H' => v = .tup [.c (.int .u32 (addU (addU (addU (((4177526784 : Nat) : Int)) (shlU (lowS (quoS x.imm 8) 12) 10)) (n)) (d))), .c (.bool true)] ∧ H' = H) := con16_P x d n m s _ _ ho (by simp) H
theorem con16_19 (x : InsnS) (d n m s : Int) (ho : x.op = 19) (H : Heap) : Con Tryz.prog 16 [.agg (insnL x), .c (.int .u32 d), .c (.int .u32 n), .c (.int .u32 m), .c (.int .u32 s)] H (fun v H' => v = .tup [.c (.int .u32 (addU (addU (addU (addU (((4167067648 : Nat) : Int)) (whenS (x.amount == 3) 4096)) (m)) (n)) (d))), .c (.bool true)] ∧ H' = H) := con16_P x d n m s _ _ ho (by simp) H
theorem con16_20 (x : InsnS) (d n m s : Int) (ho : x.op = 20) (H : Heap) : Con Tryz.prog 16 [.agg (insnL x), .c (.int .u32 d), .c (.int .u32 n), .c (.int .u32 m), .c (.int .u32 s)] H (fun v H' => v = .tup [.c (.int .u32 (addU (addU (addU (addU (((4162873344 : Nat) : Int)) (whenS (x.amount == 3) 4096)) (m)) (n)) (d))), .c (.bool true)] ∧ H' = H) := con16_P x d n m s _ _ ho (by simp) H
theorem con16_21a (x : InsnS) (d n m s : Int) (ho : x.op = 21) (hs : (s == 1) = true) (H : Heap) : Con Tryz.prog 16 [.agg (insnL x), .c (.int .u32 d), .c (.int .u32 n), .c (.int .u32 m), .c (.int .u32 s)] H (fun v H' => v = .tup [.c (.int .u32 (addU (addU (((4173316096 : Nat) : Int)) (n)) (d))), .c (.bool true)] ∧ H' = H) := con16_P x d n m s _ _ ho (by simp [hs]) H
theorem con16_21b (x : InsnS) (d n m s : Int) (ho : x.op = 21) (hs : (s == 1) = false) (H : Heap) : Con Tryz.prog 16 [.agg (insnL x), .c (.int .u32 d), .c (.int .u32 n), .c (.int .u32 m), .c (.int .u32 s)] H (fun v H' => v = .tup [.c (.int .u32 (addU (addU (((3370122240 : Nat) : Int)) (n)) (d))), .c (.bool true)] ∧ H' = H) := con16_P x d n m s _ _ ho (by simp [hs]) H
theorem con16_22 (x : InsnS) (d n m s : Int) (ho : x.op = 22) (H : Heap) : Con Tryz.prog 16 [.agg (insnL x), .c (.int .u32 d), .c (.int .u32 n), .c (.int .u32 m), .c (.int .u32 s)] H (fun v H' => v = .tup [.c (.int .u32 (addU (addU (((3365927936 : Nat) : Int)) (n)) (d))), .c (.bool true)] ∧ H' = H) := con16_P x d n m s _ _ ho (by simp) H
theorem con16_23 (x : InsnS) (d n m s : Int) (ho : x.op = 23) (H : Heap) : Con Tryz.prog 16 [.agg (insnL x), .c (.int .u32 d), .c (.int .u32 n), .c (.int .u32 m), .c (.int .u32 s)] H (fun v H' => v = .tup [.c (.int .u32 (addU (addU (addU (((3361700864 : Nat) : Int)) (shlU (s) 15)) (n)) (d))), .c (.bool true)] ∧ H' = H) := con16_P x d n m s _ _ ho (by simp) H
theorem con16_24 (x : InsnS) (d n m s : Int) (ho : x.op = 24) (H : Heap) : Con Tryz.prog 16 [.agg (insnL x), .c (.int .u32 d), .c (.int .u32 n), .c (.int .u32 m), .c (.int .u32 s)] H (fun v H' => v = .tup [.c (.int .u32 (addU (addU (addU (addU (((3355474944 : Nat) : Int)) (shlU (s) 15)) (m)) (n)) (d))), .c (.bool true)] ∧ H' = H) := con16_P x d n m s _ _ ho (by simp) H
theorem con16_25 (x : InsnS) (d n m s : Int) (ho : x.op = 25) (H : Heap) : Con Tryz.prog 16 [.agg (insnL x), .c (.int .u32 d), .c (.int .u32 n), .c (.int .u32 m), .c (.int .u32 s)] H (fun v H' => v = .tup [.c (.int .u32 (((3573759839 : Nat) : Int))), .c (.bool true)] ∧ H' = H) := con16_P x d n m s _ _ ho (by simp) H
theorem con16_26 (x : InsnS) (d n m s : Int) (ho : x.op = 26) (H : Heap) : Con Tryz.prog 16 [.agg (insnL x), .c (.int .u32 d), .c (.int .u32 n), .c (.int .u32 m), .c (.int .u32 s)] H (fun v H' => v = .tup [.c (.int .u32 (addU (subU ((3573759167 : Nat) : Int) (mulU s 32)) (shlU (u32S x.imm) 8))), .c (.bool true)] ∧ H' = H) := con16_P x d n m s _ _ ho (by simp) H
theorem con16_27 (x : InsnS) (d n m s : Int) (ho : x.op = 27) (H : Heap) : Con Tryz.prog 16 [.agg (insnL x), .c (.int .u32 d), .c (.int .u32 n), .c (.int .u32 m), .c (.int .u32 s)] H (fun v H' => v = .tup [.c (.int .u32 (((3573759967 : Nat) : Int))), .c (.bool true)] ∧ H' = H) := con16_P x d n m s _ _ ho (by simp) H
theorem con16_28 (x : InsnS) (d n m s : Int) (ho : x.op = 28) (H : Heap) : Con Tryz.prog 16 [.agg (insnL x), .c (.int .u32 d), .c (.int .u32 n), .c (.int .u32 m), .c (.int .u32 s)] H (fun v H' => v = .tup [.c (.int .u32 (addU (((3574297888 : Nat) : Int)) (d))), .c (.bool true)] ∧ H' = H) := con16_P x d n m s _ _ ho (by simp) H
theorem con16_30 (x : InsnS) (d n m s : Int) (ho : x.op = 30) (H : Heap) : Con Tryz.prog 16 [.agg (insnL x), .c (.int .u32 d), .c (.int .u32 n), .c (.int .u32 m), .c (.int .u32 s)] H (fun v H' => v = .tup [.c (.int .u32 (addU (((3574299424 : Nat) : Int)) (d))), .c (.bool true)] ∧ H' = H) := con16_P x d n m s _ _ ho (by simp) H
theorem con16_29 (x : InsnS) (d n m s : Int) (ho : x.op = 29) (H : Heap) : Con Tryz.prog 16 [.agg (insnL x), .c (.int .u32 d), .c (.int .u32 n), .c (.int .u32 m), .c (.int .u32 s)] H (fun v H' => v = .tup [.c (.int .u32 (((3574101279 : Nat) : Int))), .c (.bool true)] ∧ H' = H) := con16_P x d n m s _ _ ho (by simp) H
theorem con16_31 (x : InsnS) (d n m s : Int) (ho : x.op = 31) (H : Heap) : Con Tryz.prog 16 [.agg (insnL x), .c (.int .u32 d), .c (.int .u32 n), .c (.int .u32 m), .c (.int .u32 s)] H (fun v H' => v = .tup [.c (.int .u32 (addU (addU (((3576692736 : Nat) : Int)) (shlU (u32S x.sys) 5)) (d))), .c (.bool true)] ∧ H' = H) := con16_P x d n m s _ _ ho (by simp) H
theorem con16_32 (x : InsnS) (d n m s : Int) (ho : x.op = 32) (H : Heap) : Con Tryz.prog 16 [.agg (insnL x), .c (.int .u32 d), .c (.int .u32 n), .c (.int .u32 m), .c (.int .u32 s)] H (fun v H' => v = .tup [.c (.int .u32 (addU (addU (((3574595584 : Nat) : Int)) (shlU (u32S x.sys) 5)) (d))), .c (.bool true)] ∧ H' = H) := con16_P x d n m s _ _ ho (by simp) H
theorem con16_33 (x : InsnS) (d n m s : Int) (ho : x.op = 33) (H : Heap) : Con Tryz.prog 16 [.agg (insnL x), .c (.int .u32 d), .c (.int .u32 n), .c (.int .u32 m), .c (.int .u32 s)] H (fun v H' => v = .tup [.c (.int .u32 (addU (addU (((3573760223 : Nat) : Int)) (mulU s 32)) (shlU (u32S x.imm) 8))), .c (.bool true)] ∧ H' = H) := con16_P x d n m s _ _ ho (by simp) H
theorem con16_34 (x : InsnS) (d n m s : Int) (ho : x.op = 34) (H : Heap) : Con Tryz.prog 16 [.agg (insnL x), .c (.int .u32 d), .c (.int .u32 n), .c (.int .u32 m), .c (.int .u32 s)] H (fun v H' => v = .tup [.c (.int .u32 (addU (((3556769793 : Nat) : Int)) (shlU (u32S x.imm) 5))), .c (.bool true)] ∧ H' = H) := con16_P x d n m s _ _ ho (by simp) H
theorem con16_35 (x : InsnS) (d n m s : Int) (ho : x.op = 35) (H : Heap) : Con Tryz.prog 16 [.agg (insnL x), .c (.int .u32 d), .c (.int .u32 n), .c (.int .u32 m), .c (.int .u32 s)] H (fun v H' => v = .tup [.c (.int .u32 (addU (((3558866944 : Nat) : Int)) (shlU (u32S x.imm) 5))), .c (.bool true)] ∧ H' = H) := con16_P x d n m s _ _ ho (by simp) H
theorem con16_36 (x : InsnS) (d n m s : Int) (ho : x.op = 36) (H : Heap) : Con Tryz.prog 16 [.agg (insnL x), .c (.int .u32 d), .c (.int .u32 n), .c (.int .u32 m), .c (.int .u32 s)] H (fun v H' => v = .tup [.c (.int .u32 (((3600745440 : Nat) : Int))), .c (.bool true)] ∧ H' = H) := con16_P x d n m s _ _ ho (by simp) H
theorem con16_37 (x : InsnS) (d n m s : Int) (ho : x.op = 37) (H : Heap) : Con Tryz.prog 16 [.agg (insnL x), .c (.int .u32 d), .c (.int .u32 n), .c (.int .u32 m), .c (.int .u32 s)] H (fun v H' => v = .tup [.c (.int .u32 (addU (((3573751839 : Nat) : Int)) (shlU (u32S x.imm) 5))), .c (.bool true)] ∧ H' = H) := con16_P x d n m s _ _ ho (by simp) H
theorem con9_no (x : InsnS) (h13 : ∀ H, Con Tryz.prog 13 [.agg (insnL x)] H (fun v H' => v = .c (.bool false) ∧ H' = H)) (H : Heap) : Con Tryz.prog 9 [.agg (insnL x)] H (fun v H' => v = .tup [.c (.int .u32 0), .c (.bool false)] ∧ H' = H) := by
  refine Con.pure ?_ (by simp only [leArgs, leV, leV1, insnL, leSegs, leSeg, leC, and_self]) rfl H
  (refine con_of_run mixed (fn := Tryz.f9) (by kernel_rfl) (by kernel_rfl) C9_ok (rs := [.tmp 2, .tmp 3]) (by kernel_rfl) (Nat.le_of_ble_eq_true (by kernel_rfl)) ?_; unfold C9; simp only [initT])
  repeat' (first | refine run_seq ?_ | refine run_skip ?_ | (refine run_region fun K hK => ?_; (try (simp (maxSteps := 10000000) only [insnL, Bool.not_false, C9r0, C9r1, C9r2, C9r3, rwp_nil, rwp_cons, aop, gpath, St.get, slotAt, sfx, eqP, segsOf, St.put, addBlk, getB, ldn, rowNeed, nsub, un, shed, Seg.size, sizes, appL, argsOf, ptrsOf, cut, takeS, dropS, Nat.reduceAdd])); (repeat (first | (refine And.intro ?_ ?_; · decide) | ((first | (refine call_t _ (h13 _) ?_; rintro v H' ⟨rfl, rfl⟩) | refine call_q _ (h13 _) ?_ | refine call_g _ (imp_of (h13 _)) ?_); simp (maxSteps := 10000000) only [rwp_nil, rwp_cons, rwpK_app, aop, gpath, St.get, slotAt, sfx, eqP, St.put, addBlk, shed]))); with_reducible refine hK _ ?_; clear hK K) | (refine run_cond rfl (fun hc => ?_) (fun hc => ?_) <;> try (simp only [*, Bool.true_eq_false] at hc; done)) | refine run_block ?_ | refine run_ret ?_ | refine run_nil ?_ | refine blk_normal ?_ | refine blk_ret ?_ | refine blk_here ?_ | refine blk_there rfl ?_)
  exact end_tmp2 rfl rfl rfl ⟨rfl, rfl⟩ rfl rfl rfl ⟨rfl, rfl⟩
set_option maxHeartbeats 8000000 in
theorem con9_P (x : InsnS) (lg av k W : Int) (ho : x.op = k) (h13 : ∀ H, Con Tryz.prog 13 [.agg (insnL x)] H (fun v H' => v = .c (.bool true) ∧ H' = H)) (hl : (x.flags = true ∧ lg = 3) ∨ (x.flags = false ∧ lg = u32S x.sub)) (hk : (k = 1 ∧ W = addU (addU (addU (addU (addU (((2432696320 : Nat) : Int)) (addU (whenS x.minus 1073741824) (whenS x.flags 536870912))) (whenS (x.amount == 12) 4194304)) (shlU (lowS (x.imm) 12) 10)) ((shlU (lowS x.rn 5) 5))) ((lowS x.rd 5))) ∨ (k = 2 ∧ W = addU (addU (addU (addU (addU (addU (((2332033024 : Nat) : Int)) (addU (whenS x.minus 1073741824) (whenS x.flags 536870912))) (shlU (u32S x.shift) 22)) ((shlU (lowS x.rm 5) 16))) (shlU (lowS (x.amount) 6) 10)) ((shlU (lowS x.rn 5) 5))) ((lowS x.rd 5))) ∨ (k = 3 ∧ W = addU (addU (addU (addU (addU (addU (addU (((2315255808 : Nat) : Int)) (shlU (lg) 29)) (shlU (u32S x.shift) 22)) (whenS (x.not_) 2097152)) ((shlU (lowS x.rm 5) 16))) (shlU (lowS (x.amount) 6) 10)) ((shlU (lowS x.rn 5) 5))) ((lowS x.rd 5))) ∨ (k = 4 ∧ W = addU (addU (addU (addU (addU (addU (((2449473536 : Nat) : Int)) (shlU (lg) 29)) (shlU (lowS (x.amount) 1) 22)) (shlU (lowS (x.imm) 6) 16)) (shlU (lowS (x.imm2) 6) 10)) ((shlU (lowS x.rn 5) 5))) ((lowS x.rd 5))) ∨ (k = 5 ∧ W = addU (addU (addU (addU (((2457862144 : Nat) : Int)) (shlU ((u32S x.sub)) 29)) (shlU (IntKind.u32.wrap (quoS x.amount 16)) 21)) (shlU (lowS (x.imm) 16) 5)) ((lowS x.rd 5))) ∨ (k = 6 ∧ W = addU (addU (addU (addU (addU (((2470445056 : Nat) : Int)) (shlU ((u32S x.sub)) 29)) (shlU (lowS (x.imm) 6) 16)) (shlU (lowS (x.imm2) 6) 10)) ((shlU (lowS x.rn 5) 5))) ((lowS x.rd 5))) ∨ (k = 7 ∧ W = addU (addU (addU (addU (((2596282368 : Nat) : Int)) (shlU ((u32S x.sub)) 10)) ((shlU (lowS x.rm 5) 16))) ((shlU (lowS x.rn 5) 5))) ((lowS x.rd 5))) ∨ (k = 8 ∧ W = addU (addU (addU (addU (addU (((2600468480 : Nat) : Int)) (whenS (x.minus) 32768)) ((shlU (lowS x.rm 5) 16))) (shlU (lowS (x.ra) 5) 10)) ((shlU (lowS x.rn 5) 5))) ((lowS x.rd 5))) ∨ (k = 9 ∧ W = addU (addU (addU (addU (((2596276224 : Nat) : Int)) (shlU ((u32S x.sub)) 10)) ((shlU (lowS x.rm 5) 16))) ((shlU (lowS x.rn 5) 5))) ((lowS x.rd 5))) ∨ (k = 10 ∧ W = addU (addU (addU (addU (addU (addU (((2592079872 : Nat) : Int)) (shlU (IntKind.u32.wrap ((u32S x.sub).tdiv 2)) 30)) (shlU ((u32S x.sub).tmod 2) 10)) ((shlU (lowS x.rm 5) 16))) (shlU (lowS (x.cond) 4) 12)) ((shlU (lowS x.rn 5) 5))) ((lowS x.rd 5))) ∨ (k = 11 ∧ (x.sub == 1) = true ∧ av = lowS (quoS x.imm 4096) 21 ∧ W = addU (addU (addU (addU (((268435456 : Nat) : Int)) (shlU ((u32S x.sub)) 31)) (shlU (av.tmod 4) 29)) (shlU (IntKind.u32.wrap (av.tdiv 4)) 5)) ((lowS x.rd 5))) ∨ (k = 11 ∧ (x.sub == 1) = false ∧ av = lowS x.imm 21 ∧ W = addU (addU (addU (addU (((268435456 : Nat) : Int)) (shlU ((u32S x.sub)) 31)) (shlU (av.tmod 4) 29)) (shlU (IntKind.u32.wrap (av.tdiv 4)) 5)) ((lowS x.rd 5))) ∨ (k = 12 ∧ W = addU (addU (((335544320 : Nat) : Int)) (whenS (x.link) 2147483648)) (lowS (quoS x.imm 4) 26)) ∨ (k = 13 ∧ W = addU (addU (((1409286144 : Nat) : Int)) (shlU (lowS (quoS x.imm 4) 19) 5)) (lowS (x.cond) 4)) ∨ (k = 14 ∧ W = addU (addU (addU (((3019898880 : Nat) : Int)) (whenS (x.not_) 16777216)) (shlU (lowS (quoS x.imm 4) 19) 5)) ((lowS x.rd 5))) ∨ (k = 15 ∧ W = addU (addU (addU (addU (addU (((905969664 : Nat) : Int)) (whenS (x.not_) 16777216)) (shlU (IntKind.u32.wrap (quoS x.amount 32)) 31)) (shlU (IntKind.u32.wrap (x.amount.tmod 32)) 19)) (shlU (lowS (quoS x.imm 4) 14) 5)) ((lowS x.rd 5))) ∨ (k = 16 ∧ W = addU (addU (((3592355840 : Nat) : Int)) (shlU ((u32S x.sub)) 21)) ((shlU (lowS x.rn 5) 5)))) (H : Heap) : Con Tryz.prog 9 [.agg (insnL x)] H (fun v H' => v = .tup [.c (.int .u32 W), .c (.bool true)] ∧ H' = H) := by
  refine Con.pure ?_ (by simp only [leArgs, leV, leV1, insnL, leSegs, leSeg, leC, and_self]) rfl H
  rcases hl with ⟨hfl, rfl⟩ | ⟨hfl, rfl⟩
  all_goals
    rcases hk with ⟨rfl, rfl⟩ | ⟨rfl, rfl⟩ | ⟨rfl, rfl⟩ | ⟨rfl, rfl⟩ | ⟨rfl, rfl⟩ | ⟨rfl, rfl⟩ | ⟨rfl, rfl⟩ | ⟨rfl, rfl⟩ | ⟨rfl, rfl⟩ | ⟨rfl, rfl⟩ | ⟨rfl, hs, rfl, rfl⟩ | ⟨rfl, hs, rfl, rfl⟩ | ⟨rfl, rfl⟩ | ⟨rfl, rfl⟩ | ⟨rfl, rfl⟩ | ⟨rfl, rfl⟩ | ⟨rfl, rfl⟩
    all_goals
      (refine con_of_run mixed (fn := Tryz.f9) (by kernel_rfl) (by kernel_rfl) C9_ok (rs := [.tmp 2, .tmp 3]) (by kernel_rfl) (Nat.le_of_ble_eq_true (by kernel_rfl)) ?_; unfold C9; simp only [initT])
      repeat' (first | refine run_seq ?_ | refine run_skip ?_ | (refine run_region fun K hK => ?_; (try (simp (maxSteps := 10000000) only [insnL, Bool.not_true, C9r0, C9r1, C9r2, C9r4, C9r5, C9r6, C9r7, C9r8, C9r9, C9r10, C9r11, rwp_nil, rwp_cons, aop, gpath, St.get, slotAt, sfx, eqP, segsOf, St.put, addBlk, getB, ld1, ldn, rowNeed, segAt, nsub, un, shed, addN, Seg.size, sizes, appL, argsOf, ptrsOf, cut, takeS, dropS, Nat.reduceAdd])); (repeat (first | (refine And.intro ?_ ?_; · decide) | ((first | (refine call_t _ (h13 _) ?_; rintro v H' ⟨rfl, rfl⟩) | refine call_q _ (h13 _) ?_ | refine call_g _ (imp_of (h13 _)) ?_ | (refine call_t _ (con14 _ _ (by decide) _) ?_; rintro v H' ⟨rfl, rfl⟩) | refine call_q _ (con14 _ _ (by decide) _) ?_ | refine call_g _ (imp_of (con14 _ _ (by decide) _)) ?_ | (refine call_t _ (con15 _ _ _) ?_; rintro v H' ⟨rfl, rfl⟩) | refine call_q _ (con15 _ _ _) ?_ | refine call_g _ (imp_of (con15 _ _ _)) ?_); simp (maxSteps := 10000000) only [rwp_nil, rwp_cons, rwpK_app, aop, gpath, St.get, slotAt, sfx, eqP, St.put, addBlk, getB, ld1, rowNeed, segAt, nsub, bin, isShift, sameK, arith, shiftR, shed, addN, Seg.size, imp, appL, argsOf, ptrsOf, Nat.reduceAdd, Int.reduceToNat]))); with_reducible refine hK _ ?_; clear hK K) | (refine run_cond rfl (fun hc => ?_) (fun hc => ?_) <;> try (simp only [*, Bool.true_eq_false, Bool.false_eq_true] at hc; done)) | refine run_block ?_ | refine run_ret ?_ | refine run_nil ?_ | refine blk_normal ?_ | refine blk_ret ?_ | refine blk_here ?_ | refine blk_there rfl ?_)
      all_goals
        repeat' (first | refine run_seq ?_ | refine run_skip ?_ | (refine run_region fun K hK => ?_; (try (simp (maxSteps := 10000000) only [ho, Int.reduceBEq, C9r12, C9r13, C9r14, C9r15, C9r16, C9r17, C9r18, C9r19, C9r20, C9r21, C9r22, C9r23, C9r24, C9r25, C9r26, C9r27, C9r28, C9r29, C9r30, C9r31, C9r32, C9r33, C9r34, C9r35, C9r36, C9r37, C9r38, C9r39, C9r40, C9r41, C9r42, C9r43, C9r44, C9r45, C9r46, C9r47, rwp_nil, rwp_cons, aop, gpath, St.get, slotAt, sfx, eqP, St.put, addBlk, getB, ld1, rowNeed, segAt, nsub, bin, isShift, sameK, arith, shiftR, shed, addN, Seg.size, imp, appL, argsOf, ptrsOf, Nat.reduceAdd, Int.reduceToNat])); (repeat (first | (refine And.intro ?_ ?_; · (first | decide | assumption | trivial | (intros; first | decide | trivial | assumption))) | ((first | (refine call_t _ (con14 _ _ (by decide) _) ?_; rintro v H' ⟨rfl, rfl⟩) | refine call_q _ (con14 _ _ (by decide) _) ?_ | refine call_g _ (imp_of (con14 _ _ (by decide) _)) ?_ | (refine call_t _ (con15 _ _ _) ?_; rintro v H' ⟨rfl, rfl⟩) | refine call_q _ (con15 _ _ _) ?_ | refine call_g _ (imp_of (con15 _ _ _)) ?_); simp (maxSteps := 10000000) only [rwp_nil, rwp_cons, rwpK_app, aop, gpath, St.get, slotAt, sfx, eqP, St.put, addBlk, getB, ld1, rowNeed, segAt, nsub, bin, isShift, sameK, arith, shiftR, shed, addN, Seg.size, imp, appL, argsOf, ptrsOf, Nat.reduceAdd, Int.reduceToNat]))); with_reducible refine hK _ ?_; clear hK K) | (refine run_cond rfl (fun hc => ?_) (fun hc => ?_) <;> try (simp only [*, Bool.true_eq_false, Bool.false_eq_true] at hc; done)) | refine run_block ?_ | refine run_ret ?_ | refine run_nil ?_ | refine blk_normal ?_ | refine blk_ret ?_ | refine blk_here ?_ | refine blk_there rfl ?_)
        exact end_tmp2 rfl rfl rfl ⟨rfl, rfl⟩ rfl rfl rfl ⟨rfl, rfl⟩
theorem con9_acc (x : InsnS) (W : Int) (ho : decide (x.op ≥ 17) = true) (h13 : ∀ H, Con Tryz.prog 13 [.agg (insnL x)] H (fun v H' => v = .c (.bool true) ∧ H' = H)) (h16 : ∀ H, Con Tryz.prog 16 [.agg (insnL x), .c (.int .u32 (lowS x.rd 5)), .c (.int .u32 (shlU (lowS x.rn 5) 5)), .c (.int .u32 (shlU (lowS x.rm 5) 16)), .c (.int .u32 (u32S x.sub))] H (fun v H' => v = .tup [.c (.int .u32 W), .c (.bool true)] ∧ H' = H)) (H : Heap) : Con Tryz.prog 9 [.agg (insnL x)] H (fun v H' => v = .tup [.c (.int .u32 W), .c (.bool true)] ∧ H' = H) := by
  refine Con.pure ?_ (by simp only [leArgs, leV, leV1, insnL, leSegs, leSeg, leC, and_self]) rfl H
  have hop : x.op ≥ 17 := of_decide_eq_true ho
  have n1 : (x.op == 1) = false := by rw [beq_eq_false_iff_ne]; omega
  have n2 : (x.op == 2) = false := by rw [beq_eq_false_iff_ne]; omega
  have n3 : (x.op == 3) = false := by rw [beq_eq_false_iff_ne]; omega
  have n4 : (x.op == 4) = false := by rw [beq_eq_false_iff_ne]; omega
  have n5 : (x.op == 5) = false := by rw [beq_eq_false_iff_ne]; omega
  have n6 : (x.op == 6) = false := by rw [beq_eq_false_iff_ne]; omega
  have n7 : (x.op == 7) = false := by rw [beq_eq_false_iff_ne]; omega
  have n8 : (x.op == 8) = false := by rw [beq_eq_false_iff_ne]; omega
  have n9 : (x.op == 9) = false := by rw [beq_eq_false_iff_ne]; omega
  have n10 : (x.op == 10) = false := by rw [beq_eq_false_iff_ne]; omega
  have n11 : (x.op == 11) = false := by rw [beq_eq_false_iff_ne]; omega
  have n12 : (x.op == 12) = false := by rw [beq_eq_false_iff_ne]; omega
  have n13 : (x.op == 13) = false := by rw [beq_eq_false_iff_ne]; omega
  have n14 : (x.op == 14) = false := by rw [beq_eq_false_iff_ne]; omega
  have n15 : (x.op == 15) = false := by rw [beq_eq_false_iff_ne]; omega
  have n16 : (x.op == 16) = false := by rw [beq_eq_false_iff_ne]; omega
  (refine con_of_run mixed (fn := Tryz.f9) (by kernel_rfl) (by kernel_rfl) C9_ok (rs := [.tmp 2, .tmp 3]) (by kernel_rfl) (Nat.le_of_ble_eq_true (by kernel_rfl)) ?_; unfold C9; simp only [initT])
  repeat' (first | refine run_seq ?_ | refine run_skip ?_ | (refine run_region fun K hK => ?_; (try (simp (maxSteps := 10000000) only [insnL, n1, n2, n3, n4, n5, n6, n7, n8, n9, n10, n11, n12, n13, n14, n15, n16, Bool.not_true, C9r0, C9r1, C9r2, C9r4, C9r5, C9r6, C9r7, C9r8, C9r9, C9r10, C9r11, C9r12, C9r13, C9r15, C9r17, C9r19, C9r21, C9r23, C9r25, C9r27, C9r29, C9r31, C9r33, C9r38, C9r40, C9r42, C9r44, C9r46, C9r48, rwp_nil, rwp_cons, aop, gpath, St.get, slotAt, sfx, eqP, segsOf, St.put, addBlk, getB, ld1, ldn, rowNeed, segAt, nsub, bin, un, isShift, sameK, arith, shed, addN, Seg.size, sizes, appL, argsOf, ptrsOf, cut, takeS, dropS, Nat.reduceAdd])); (repeat (first | (refine And.intro ?_ ?_; · (first | decide | assumption | trivial | (intros; first | decide | trivial | assumption))) | ((first | (refine call_t _ (h13 _) ?_; rintro v H' ⟨rfl, rfl⟩) | refine call_q _ (h13 _) ?_ | refine call_g _ (imp_of (h13 _)) ?_ | (refine call_t _ (con14 _ _ (by decide) _) ?_; rintro v H' ⟨rfl, rfl⟩) | refine call_q _ (con14 _ _ (by decide) _) ?_ | refine call_g _ (imp_of (con14 _ _ (by decide) _)) ?_ | (refine call_t _ (con15 _ _ _) ?_; rintro v H' ⟨rfl, rfl⟩) | refine call_q _ (con15 _ _ _) ?_ | refine call_g _ (imp_of (con15 _ _ _)) ?_ | (refine call_t _ (h16 _) ?_; rintro v H' ⟨rfl, rfl⟩) | refine call_q _ (h16 _) ?_ | refine call_g _ (imp_of (h16 _)) ?_); simp (maxSteps := 10000000) only [rwp_nil, rwp_cons, rwpK_app, aop, gpath, St.get, slotAt, sfx, eqP, St.put, addBlk, getB, ld1, rowNeed, segAt, nsub, bin, isShift, sameK, arith, shiftR, shed, addN, Seg.size, imp, appL, argsOf, ptrsOf, nthA, Nat.reduceAdd, Int.reduceToNat]))); with_reducible refine hK _ ?_; clear hK K) | (refine run_cond rfl (fun hc => ?_) (fun hc => ?_) <;> try (simp only [*, Bool.false_eq_true] at hc; done)) | refine run_block ?_ | refine run_ret ?_ | refine run_nil ?_ | refine blk_normal ?_ | refine blk_ret ?_ | refine blk_here ?_ | refine blk_there rfl ?_)
  all_goals exact end_tmp2 rfl rfl rfl ⟨rfl, rfl⟩ rfl rfl rfl ⟨rfl, rfl⟩
end Go.Proofs.YteikpddilabppaaGreatR

namespace Go.Proofs.YteikpddilabppaaGreatR
open Go.AM
theorem or_mid {w x at_ many : Nat} (hx : x < 2 ^ many) (h0 : w / 2 ^ at_ % 2 ^ many = 0) : w ||| x * 2 ^ at_ = w + x * 2 ^ at_ := by
  have hlo : w % 2 ^ at_ < 2 ^ at_ := Nat.mod_lt _ (Nat.two_pow_pos _)
  have hw : w = (w / 2 ^ at_) <<< at_ ||| w % 2 ^ at_ := by
    rw [← Nat.shiftLeft_add_eq_or_of_lt hlo, Nat.shiftLeft_eq, Nat.mul_comm]
    exact (Nat.div_add_mod w (2 ^ at_)).symm
  have hq : w / 2 ^ at_ = (w / 2 ^ at_ / 2 ^ many) <<< many := by
    rw [Nat.shiftLeft_eq]
    have := Nat.div_add_mod (w / 2 ^ at_) (2 ^ many)
    rw [h0, Nat.add_zero, Nat.mul_comm] at this
    exact this.symm
  have hqx : w / 2 ^ at_ ||| x = w / 2 ^ at_ + x := by
    rw [hq, ← Nat.shiftLeft_add_eq_or_of_lt hx]
  have e : w ||| x * 2 ^ at_ = (w / 2 ^ at_ ||| x) <<< at_ ||| w % 2 ^ at_ := by
    rw [Nat.shiftLeft_or_distrib, ← Nat.shiftLeft_eq]
    conv => lhs; rw [hw]
    rw [Nat.or_assoc, Nat.or_assoc, Nat.or_comm (w % 2 ^ at_)]
  rw [e, ← Nat.shiftLeft_add_eq_or_of_lt hlo, hqx, Nat.shiftLeft_eq, Nat.add_mul]
  have := Nat.div_add_mod w (2 ^ at_)
  rw [Nat.mul_comm] at this
  omega
theorem u32_of {n : Nat} (h : n < 4294967296) : IntKind.u32.wrap (n : Int) = n := by rw [IntKind.wrap_u32]; omega
theorem bv32 {n : Nat} (h : n < 4294967296) : (BitVec.ofInt 32 (n : Int)).toNat = n := by
  rw [BitVec.ofInt_natCast, BitVec.toNat_ofNat]
  exact Nat.mod_eq_of_lt h
theorem pow32 {k : Nat} (h : k < 32) : 2 ^ k < 4294967296 := by
  have := Nat.pow_lt_pow_right (a := 2) (by decide) h
  exact this
theorem layS_nat (W at_ many : Nat) (n : Int) (hW : W < 4294967296) (hm : many < 32) (ha : at_ + many ≤ 32) (h0 : W / 2 ^ at_ % 2 ^ many = 0) : layS (W : Int) n (at_ : Int) (many : Int) = (W : Int) + ((n % 4294967296).toNat % 2 ^ many * 2 ^ at_ : Nat) := by
  unfold layS
  have hP := pow32 hm
  have hP1 : 0 < 2 ^ many := Nat.two_pow_pos _
  have e1 : IntKind.u32.wrap (IntKind.u32.wrap (1 * 2 ^ min ((many : Int)).toNat IntKind.u32.bits) - 1) = ((2 ^ many - 1 : Nat) : Int) := by
    have e0 : (1 * 2 ^ min ((many : Int)).toNat IntKind.u32.bits : Int) = ((2 ^ many : Nat) : Int) := by
      rw [Int.toNat_natCast, show min many IntKind.u32.bits = many from Nat.min_eq_left (Nat.le_of_lt hm)]
      simp
    rw [e0, u32_of hP, ← u32_of (n := 2 ^ many - 1) (by omega)]
    congr 1
    omega
  have e2 : IntKind.u32.wrap n = ((n % 4294967296).toNat : Int) := by rw [IntKind.wrap_u32]; omega
  have hN : (n % 4294967296).toNat < 4294967296 := by omega
  generalize (n % 4294967296).toNat = N at e2 hN ⊢
  rw [e1, e2]
  have e3 : (BitVec.ofInt IntKind.u32.bits (N : Int) &&& BitVec.ofInt IntKind.u32.bits ((2 ^ many - 1 : Nat) : Int)).toNat = N % 2 ^ many := by
    rw [BitVec.toNat_and]
    show (BitVec.ofInt 32 (N : Int)).toNat &&& (BitVec.ofInt 32 ((2 ^ many - 1 : Nat) : Int)).toNat = _
    rw [bv32 hN, bv32 (by omega), Nat.and_two_pow_sub_one_eq_mod]
  rw [e3]
  have hx : N % 2 ^ many < 2 ^ many := Nat.mod_lt _ hP1
  have hxP : N % 2 ^ many * 2 ^ at_ < 4294967296 := by
    have h1 : N % 2 ^ many * 2 ^ at_ < 2 ^ many * 2 ^ at_ := Nat.mul_lt_mul_of_pos_right hx (Nat.two_pow_pos _)
    have h2 : 2 ^ many * 2 ^ at_ ≤ 2 ^ 32 := by
      rw [← Nat.pow_add]
      exact Nat.pow_le_pow_right (by decide) (by omega)
    exact Nat.lt_of_lt_of_le h1 h2
  generalize N % 2 ^ many = x at hx hxP
  rw [u32_of (n := x) (by omega)]
  have e4 : ((x : Int) * 2 ^ min ((at_ : Int)).toNat IntKind.u32.bits) = ((x * 2 ^ at_ : Nat) : Int) := by
    rw [Int.toNat_natCast, show min at_ IntKind.u32.bits = at_ from Nat.min_eq_left (by show at_ ≤ 32; omega)]
    simp
  rw [e4, u32_of hxP, BitVec.toNat_or]
  show IntKind.u32.wrap (((BitVec.ofInt 32 (W : Int)).toNat ||| (BitVec.ofInt 32 ((x * 2 ^ at_ : Nat) : Int)).toNat : Nat) : Int) = _
  rw [bv32 hW, bv32 hxP]
  have hor : W ||| x * 2 ^ at_ < 4294967296 := Nat.or_lt_two_pow (n := 32) hW hxP
  rw [u32_of hor, or_mid hx h0]
  simp
theorem flagS_nat (W k : Nat) (b : Bool) (hW : W < 4294967296) (hk : k < 32) (h0 : W / 2 ^ k % 2 = 0) : flagS (W : Int) b ((2 ^ k : Nat) : Int) = ((W + (match b with | true => 1 | false => 0) * 2 ^ k : Nat) : Int) := by
  cases b with
  | false => simp [flagS]
  | true =>
    show IntKind.u32.wrap (((BitVec.ofInt 32 (W : Int)) ||| (BitVec.ofInt 32 ((2 ^ k : Nat) : Int))).toNat : Int) = _
    rw [BitVec.toNat_or, bv32 hW, bv32 (pow32 hk)]
    have e := or_mid (w := W) (x := 1) (at_ := k) (many := 1) (by decide) (by simpa using h0)
    have hor : W ||| 2 ^ k < 4294967296 := Nat.or_lt_two_pow (n := 32) hW (pow32 hk)
    rw [u32_of hor]
    rw [Nat.one_mul] at e
    rw [e]
    simp
end Go.Proofs.YteikpddilabppaaGreatR

namespace Go.Proofs.YteikpddilabppaaGreatR
open Go.AM
set_option maxRecDepth 100000
def rngI (x : InsnS) : Prop := (-9223372036854775808 ≤ x.amount ∧ x.amount < 9223372036854775808) ∧ (-9223372036854775808 ≤ x.imm ∧ x.imm < 9223372036854775808) ∧ (-9223372036854775808 ≤ x.imm2 ∧ x.imm2 < 9223372036854775808)
def Back2 : Prop := ∀ x : InsnS, rngI x → ((encodeS x).2 = 0 ∧ decodeS (encodeS x).1 = x) ∨ ((encodeS x).2 ≠ 0 ∧ (encodeS x).1 = 0)
theorem eqI_iff (a b : InsnS) : eqI a b = true ↔ a = b := by
  cases a; cases b
  simp [eqI, InsnS.mk.injEq]
theorem eqI_self (a : InsnS) : eqI a a = true := (eqI_iff a a).2 rfl
theorem eqI_ne {a b : InsnS} (h : a ≠ b) : eqI a b = false := by
  cases e : eqI a b with
  | false => rfl
  | true => exact absurd ((eqI_iff a b).1 e) h
theorem apart (hb : Back2) (x y : InsnS) (hx : rngI x) (hy : rngI y) : (true && ((((encodeS x).2 != 0) || ((encodeS y).2 != 0)) || (((encodeS x).1 == (encodeS y).1) == eqI x y))) = true := by
  rcases hb x hx with ⟨h1, h2⟩ | ⟨h1, h2⟩
  · rcases hb y hy with ⟨h3, h4⟩ | ⟨h3, h4⟩
    · by_cases e : x = y
      · subst e
        simp [eqI_self]
      · have hn : (encodeS x).1 ≠ (encodeS y).1 := fun h => e (by rw [← h2, ← h4, h])
        have hn' : ((encodeS x).1 == (encodeS y).1) = false := by simpa using hn
        rw [hn', eqI_ne e]
        simp
    · have : ((encodeS y).2 != 0) = true := by simpa using h3
      rw [this]
      simp
  · have : ((encodeS x).2 != 0) = true := by simpa using h1
    rw [this]
    simp
end Go.Proofs.YteikpddilabppaaGreatR

namespace Go.Proofs.YteikpddilabppaaGreatR
open Go.AM
set_option maxRecDepth 100000
theorem layS_step {Vi n ai mi : Int} {V at_ many P Q x : Nat} (hVi : Vi = (V : Int)) (ha : ai = (at_ : Int)) (hm : mi = (many : Int)) (hP : 2 ^ many = P) (hQ : 2 ^ at_ = Q) (hmm : many < 32) (ham : at_ + many ≤ 32) (hV : V < 4294967296) (hx : (n % 4294967296).toNat % P = x) (h0 : V / Q % P = 0) : layS Vi n ai mi = ((V + x * Q : Nat) : Int) := by
  subst hVi ha hm hP hQ hx
  rw [layS_nat V at_ many n hV hmm ham h0]
  rfl
theorem layS_zero {Vi n ai mi : Int} {V : Nat} (hVi : Vi = (V : Int)) (hV : V < 4294967296) (hn : n = 0) : layS Vi n ai mi = (V : Int) := by
  subst hVi hn
  unfold layS
  have e : IntKind.u32.wrap 0 = 0 := by decide
  rw [e]
  have e1 : (BitVec.ofInt IntKind.u32.bits 0) = (0#32 : BitVec 32) := rfl
  rw [e1]
  have e2 : ∀ z : BitVec 32, (0#32 &&& z).toNat = 0 := fun z => by simp
  have e3 : ∀ z : BitVec 32, (((0#32 &&& z).toNat : Nat) : Int) = 0 := fun z => by rw [e2]; rfl
  show IntKind.u32.wrap ((((BitVec.ofInt 32 (V : Int)) ||| BitVec.ofInt 32 (IntKind.u32.wrap (IntKind.u32.wrap (((0#32 &&& BitVec.ofInt 32 _).toNat : Nat) : Int) * _))).toNat : Nat) : Int) = _
  rw [e3, e, Int.zero_mul, e]
  have e4 : BitVec.ofInt 32 0 = 0#32 := by decide
  rw [e4, BitVec.or_zero, bv32 hV, u32_of hV]
def bN (b : Bool) : Nat := match b with | true => 1 | false => 0
theorem flagS_step {Vi qi : Int} {b : Bool} {V k Q : Nat} (hVi : Vi = (V : Int)) (hq : qi = (Q : Int)) (hQ : 2 ^ k = Q) (hk : k < 32) (hV : V < 4294967296) (h0 : V / Q % 2 = 0) : flagS Vi b qi = ((V + bN b * Q : Nat) : Int) := by
  subst hVi hq hQ
  rw [flagS_nat V k b hV hk h0]
  rfl
theorem encL_at {x : InsnS} : ∀ {j m k : Nat}, j < m → (∀ i, i < j → formIs x (k + i) = false) → formIs x (k + j) = true → encL x m k = (putI (k + j) (fBase (k + j)) x, 0)
  | _, 0, _, h, _, _ => absurd h (Nat.not_lt_zero _)
  | 0, m + 1, k, _, _, h => by
    show (if formIs x k = true then _ else _) = _
    rw [Nat.add_zero] at h
    rw [if_pos h]
    rfl
  | j + 1, m + 1, k, hj, h0, h => by
    have e := h0 0 (Nat.succ_pos _)
    rw [Nat.add_zero] at e
    show (if formIs x k = true then _ else encL x m (k + 1)) = _
    rw [e, if_neg (by decide), encL_at (j := j) (m := m) (k := k + 1) (by omega) (fun i hi => by rw [show k + 1 + i = k + (i + 1) by omega]; exact h0 (i + 1) (by omega)) (by rw [show k + 1 + j = k + (j + 1) by omega]; exact h)]
    rw [show k + 1 + j = k + (j + 1) by omega]
theorem enc_at {x : InsnS} {j : Nat} (hj : j < 40) (hr : rightI x = true) (h0 : ∀ i, i < j → formIs x i = false) (h : formIs x j = true) : encodeS x = (putI j (fBase j) x, 0) := by
  unfold encodeS
  rw [if_pos hr, encL_at (j := j) hj (fun i hi => by rw [Nat.zero_add]; exact h0 i hi) (by rw [Nat.zero_add]; exact h), Nat.zero_add]
end Go.Proofs.YteikpddilabppaaGreatR

namespace Go.Proofs.YteikpddilabppaaGreatR
open Go.AM
set_option maxRecDepth 100000
theorem nat_mod {c P : Nat} (h : c < P) (hP : P ≤ 4294967296) : (((c : Nat) : Int) % 4294967296).toNat % P = c := by
  have e : ((c : Int) % 4294967296).toNat = c := by omega
  rw [e]
  exact Nat.mod_eq_of_lt h
theorem stp {Vi n : Int} {V x : Nat} (ai mi : Int) (at_ many P Q : Nat) (hc : ai = (at_ : Int) ∧ mi = (many : Int) ∧ 2 ^ many = P ∧ 2 ^ at_ = Q ∧ many < 32 ∧ at_ + many ≤ 32) (hVi : Vi = (V : Int)) (hx : (n % 4294967296).toNat % P = x) (h : V < 4294967296 ∧ V / Q % P = 0) : layS Vi n ai mi = ((V + x * Q : Nat) : Int) :=
  layS_step hVi hc.1 hc.2.1 hc.2.2.1 hc.2.2.2.1 hc.2.2.2.2.1 hc.2.2.2.2.2 h.1 hx h.2
theorem stf {Vi : Int} {b : Bool} {V x : Nat} (qi : Int) (k Q : Nat) (hc : qi = (Q : Int) ∧ 2 ^ k = Q ∧ k < 32) (hVi : Vi = (V : Int)) (hb : bN b = x) (h : V < 4294967296 ∧ V / Q % 2 = 0) : flagS Vi b qi = ((V + x * Q : Nat) : Int) := by
  rw [← hb]
  exact flagS_step hVi hc.1 hc.2.1 hc.2.2 h.1 h.2
theorem bN_dec {a : Nat} (h : a < 2) : bN (decide (a = 1)) = a := by
  rcases (show a = 0 ∨ a = 1 by omega) with rfl | rfl <;> rfl
theorem bN_eq1 {a : Nat} (h : a < 2) : bN ((a : Int) == 1) = a := by
  rcases (show a = 0 ∨ a = 1 by omega) with rfl | rfl <;> rfl
theorem lay_sub1 (V : Int) (a : Nat) (h : a < 2) : layS V (a : Int) 10 2 = layS V (a : Int) 10 1 := by
  rcases (show a = 0 ∨ a = 1 by omega) with rfl | rfl <;> rfl
theorem logic_of {x : InsnS} {a : Nat} (hs : x.sub = if (a : Int) = 3 then 0 else (a : Int)) (hf : x.flags = ((a : Int) == 3)) (h : a < 4) : (logicS x % 4294967296).toNat % 4 = a := by
  unfold logicS
  rw [hs, hf]
  rcases (show a = 0 ∨ a = 1 ∨ a = 2 ∨ a = 3 by omega) with rfl | rfl | rfl | rfl <;> rfl
theorem shr_nat (n : Int) (k : Nat) (P : Int) (hP : (2 : Int) ^ min k IntKind.i64.bits = P) (h : 0 < P) : shrS n k = n / P := by
  unfold shrS
  rw [hP, Int.fdiv_eq_ediv_of_nonneg _ (Int.le_of_lt h)]
theorem sel_a {a b : Nat} (h : a < 2) (h' : b < 2) : (shrS ((2 * a + b : Nat) : Int) 1 % 4294967296).toNat % 2 = a := by
  rw [shr_nat _ 1 2 rfl (by decide)]
  omega
theorem sel_b {a b : Nat} (h : a < 2) (h' : b < 2) : (((2 * a + b : Nat) : Int) % 4294967296).toNat % 2 = b := by omega
theorem tb_a {a b : Nat} (h : a < 2) (h' : b < 32) : (shrS ((32 * a + b : Nat) : Int) 5 % 4294967296).toNat % 2 = a := by
  rw [shr_nat _ 5 32 rfl (by decide)]
  omega
theorem tb_b {a b : Nat} (h : a < 2) (h' : b < 32) : (((32 * a + b : Nat) : Int) % 4294967296).toNat % 32 = b := by omega
def sg (H P a : Nat) : Int := if a < H then (a : Int) else (a : Int) - (P : Int)
def sxS (H P a : Nat) : Int := 4 * sg H P a
def adrP (lo hi : Nat) : Int := 4 * sg 262144 524288 hi + (lo : Int)
def adrX (s lo hi : Nat) : Int := if s = 1 then 4096 * adrP lo hi else adrP lo hi
theorem quo3 (c : Nat) (h : c < 1000000) : quoS ((3 * c : Nat) : Int) 3 = (c : Int) := by
  unfold quoS
  rw [Int.tdiv_eq_ediv_of_nonneg (Int.natCast_nonneg _), IntKind.wrap_i64]
  omega
theorem quo8 (c : Nat) (h : c < 1000000) : quoS ((8 * c : Nat) : Int) 8 = (c : Int) := by
  unfold quoS
  rw [Int.tdiv_eq_ediv_of_nonneg (Int.natCast_nonneg _), IntKind.wrap_i64]
  omega
theorem quo12 (c : Nat) (h : c < 1000000) : quoS ((12 * c : Nat) : Int) 12 = (c : Int) := by
  unfold quoS
  rw [Int.tdiv_eq_ediv_of_nonneg (Int.natCast_nonneg _), IntKind.wrap_i64]
  omega
theorem quo16 (c : Nat) (h : c < 1000000) : quoS ((16 * c : Nat) : Int) 16 = (c : Int) := by
  unfold quoS
  rw [Int.tdiv_eq_ediv_of_nonneg (Int.natCast_nonneg _), IntKind.wrap_i64]
  omega
theorem sx_put26 {a : Nat} (h : a < 67108864) : (shrS (sxS 33554432 67108864 a) 2 % 4294967296).toNat % 67108864 = a := by
  rw [shr_nat _ 2 4 rfl (by decide)]
  unfold sxS sg
  split <;> omega
theorem sx_put19 {a : Nat} (h : a < 524288) : (shrS (sxS 262144 524288 a) 2 % 4294967296).toNat % 524288 = a := by
  rw [shr_nat _ 2 4 rfl (by decide)]
  unfold sxS sg
  split <;> omega
theorem sx_put14 {a : Nat} (h : a < 16384) : (shrS (sxS 8192 16384 a) 2 % 4294967296).toNat % 16384 = a := by
  rw [shr_nat _ 2 4 rfl (by decide)]
  unfold sxS sg
  split <;> omega
theorem adrP_rng {lo hi : Nat} (h : lo < 4) (h' : hi < 524288) : -1048576 ≤ adrP lo hi ∧ adrP lo hi < 1048576 := by
  unfold adrP sg
  split <;> omega
theorem adr_v {s lo hi : Nat} (hs : s < 2) (h : lo < 4) (h' : hi < 524288) : (if (s : Int) = 1 then quoS (adrX s lo hi) 4096 else adrX s lo hi) = adrP lo hi := by
  have hr := adrP_rng h h'
  unfold adrX
  by_cases h1 : s = 1
  · rw [if_pos (by omega), if_pos h1]
    unfold quoS
    rw [Int.mul_tdiv_cancel_left _ (by decide), IntKind.wrap_i64]
    omega
  · rw [if_neg (by omega), if_neg h1]
theorem adr_lo {s lo hi : Nat} (hs : s < 2) (h : lo < 4) (h' : hi < 524288) : ((if (s : Int) = 1 then quoS (adrX s lo hi) 4096 else adrX s lo hi) % 4294967296).toNat % 4 = lo := by
  rw [adr_v hs h h']
  unfold adrP sg
  split <;> omega
theorem adr_hi {s lo hi : Nat} (hs : s < 2) (h : lo < 4) (h' : hi < 524288) : (shrS (if (s : Int) = 1 then quoS (adrX s lo hi) 4096 else adrX s lo hi) 2 % 4294967296).toNat % 524288 = hi := by
  rw [adr_v hs h h', shr_nat _ 2 4 rfl (by decide)]
  unfold adrP sg
  split <;> omega
def X_0 (a0 a1 a2 a3 a4 a5 : Nat) : InsnS := ⟨1, 0, ((a0 : Nat) : Int), ((a1 : Nat) : Int), 0, 0, ((a2 : Nat) : Int), 0, ((12 * (a3) : Nat) : Int), 0, 0, 0, decide (a4 = 1), decide (a5 = 1), false, false⟩
theorem put_0 (a0 a1 a2 a3 a4 a5 : Nat) (l0 : a0 < 32) (l1 : a1 < 32) (l2 : a2 < 4096) (l3 : a3 < 2) (l4 : a4 < 2) (l5 : a5 < 2) : putI 0 (fBase 0) (X_0 a0 a1 a2 a3 a4 a5) = ((2432696320 + a0 * 1 + a1 * 32 + a2 * 1024 + a3 * 4194304 + a4 * 536870912 + a5 * 1073741824 : Nat) : Int) := by
  have s1 := stp 0 5 0 5 32 1 (by decide) (Vi := fBase 0) (V := 2432696320) rfl (nat_mod l0 (by decide)) (by omega)
  have s2 := stp 5 5 5 5 32 32 (by decide) s1 (nat_mod l1 (by decide)) (by omega)
  have s3 := layS_zero (n := 0) (ai := 16) (mi := 5) s2 (by omega) rfl
  have s4 := stp 10 12 10 12 4096 1024 (by decide) s3 (nat_mod l2 (by decide)) (by omega)
  have h5 : (quoS ((12 * a3 : Nat) : Int) 12 % 4294967296).toNat % 2 = a3 := by rw [quo12 a3 (by omega)]; exact nat_mod l3 (by decide)
  have s5 := stp 22 1 22 1 2 4194304 (by decide) s4 h5 (by omega)
  have s6 := stf (b := decide (a4 = 1)) 536870912 29 536870912 (by decide) s5 (bN_dec l4) (by omega)
  have s7 := stf (b := decide (a5 = 1)) 1073741824 30 1073741824 (by decide) s6 (bN_dec l5) (by omega)
  exact s7
def X_1 (a0 a1 a2 a3 a4 a5 a6 : Nat) : InsnS := ⟨2, 0, ((a0 : Nat) : Int), ((a1 : Nat) : Int), ((a2 : Nat) : Int), 0, 0, 0, ((a3 : Nat) : Int), ((a4 : Nat) : Int), 0, 0, decide (a5 = 1), decide (a6 = 1), false, false⟩
theorem put_1 (a0 a1 a2 a3 a4 a5 a6 : Nat) (l0 : a0 < 32) (l1 : a1 < 32) (l2 : a2 < 32) (l3 : a3 < 64) (l4 : a4 < 4) (l5 : a5 < 2) (l6 : a6 < 2) : putI 1 (fBase 1) (X_1 a0 a1 a2 a3 a4 a5 a6) = ((2332033024 + a0 * 1 + a1 * 32 + a2 * 65536 + a3 * 1024 + a4 * 4194304 + a5 * 536870912 + a6 * 1073741824 : Nat) : Int) := by
  have s1 := stp 0 5 0 5 32 1 (by decide) (Vi := fBase 1) (V := 2332033024) rfl (nat_mod l0 (by decide)) (by omega)
  have s2 := stp 5 5 5 5 32 32 (by decide) s1 (nat_mod l1 (by decide)) (by omega)
  have s3 := stp 16 5 16 5 32 65536 (by decide) s2 (nat_mod l2 (by decide)) (by omega)
  have s4 := stp 10 6 10 6 64 1024 (by decide) s3 (nat_mod l3 (by decide)) (by omega)
  have s5 := stp 22 2 22 2 4 4194304 (by decide) s4 (nat_mod l4 (by decide)) (by omega)
  have s6 := stf (b := decide (a5 = 1)) 536870912 29 536870912 (by decide) s5 (bN_dec l5) (by omega)
  have s7 := stf (b := decide (a6 = 1)) 1073741824 30 1073741824 (by decide) s6 (bN_dec l6) (by omega)
  exact s7
def X_2 (a0 a1 a2 a3 a4 a5 a6 : Nat) : InsnS := ⟨3, (if ((a3 : Nat) : Int) = 3 then 0 else ((a3 : Nat) : Int)), ((a0 : Nat) : Int), ((a1 : Nat) : Int), ((a2 : Nat) : Int), 0, 0, 0, ((a4 : Nat) : Int), ((a5 : Nat) : Int), 0, 0, (((a3 : Nat) : Int) == 3), false, (((a6 : Nat) : Int) == 1), false⟩
theorem put_2 (a0 a1 a2 a3 a4 a5 a6 : Nat) (l0 : a0 < 32) (l1 : a1 < 32) (l2 : a2 < 32) (l3 : a3 < 4) (l4 : a4 < 64) (l5 : a5 < 4) (l6 : a6 < 2) : putI 2 (fBase 2) (X_2 a0 a1 a2 a3 a4 a5 a6) = ((2315255808 + a0 * 1 + a1 * 32 + a2 * 65536 + a3 * 536870912 + a4 * 1024 + a5 * 4194304 + a6 * 2097152 : Nat) : Int) := by
  have s1 := stp 0 5 0 5 32 1 (by decide) (Vi := fBase 2) (V := 2315255808) rfl (nat_mod l0 (by decide)) (by omega)
  have s2 := stp 5 5 5 5 32 32 (by decide) s1 (nat_mod l1 (by decide)) (by omega)
  have s3 := stp 16 5 16 5 32 65536 (by decide) s2 (nat_mod l2 (by decide)) (by omega)
  have h4 : (logicS (X_2 a0 a1 a2 a3 a4 a5 a6) % 4294967296).toNat % 4 = a3 := logic_of rfl rfl l3
  have s4 := stp 29 2 29 2 4 536870912 (by decide) s3 h4 (by omega)
  have s5 := stp 10 6 10 6 64 1024 (by decide) s4 (nat_mod l4 (by decide)) (by omega)
  have s6 := stp 22 2 22 2 4 4194304 (by decide) s5 (nat_mod l5 (by decide)) (by omega)
  have s7 := stf (b := (((a6 : Nat) : Int) == 1)) 2097152 21 2097152 (by decide) s6 (bN_eq1 l6) (by omega)
  exact s7
def X_3 (a0 a1 a2 a3 a4 a5 : Nat) : InsnS := ⟨4, (if ((a2 : Nat) : Int) = 3 then 0 else ((a2 : Nat) : Int)), ((a0 : Nat) : Int), ((a1 : Nat) : Int), 0, 0, ((a4 : Nat) : Int), ((a5 : Nat) : Int), ((a3 : Nat) : Int), 0, 0, 0, (((a2 : Nat) : Int) == 3), false, false, false⟩
theorem put_3 (a0 a1 a2 a3 a4 a5 : Nat) (l0 : a0 < 32) (l1 : a1 < 32) (l2 : a2 < 4) (l3 : a3 < 2) (l4 : a4 < 64) (l5 : a5 < 64) : putI 3 (fBase 3) (X_3 a0 a1 a2 a3 a4 a5) = ((2449473536 + a0 * 1 + a1 * 32 + a2 * 536870912 + a3 * 4194304 + a4 * 65536 + a5 * 1024 : Nat) : Int) := by
  have s1 := stp 0 5 0 5 32 1 (by decide) (Vi := fBase 3) (V := 2449473536) rfl (nat_mod l0 (by decide)) (by omega)
  have s2 := stp 5 5 5 5 32 32 (by decide) s1 (nat_mod l1 (by decide)) (by omega)
  have s3 := layS_zero (n := 0) (ai := 16) (mi := 5) s2 (by omega) rfl
  have h4 : (logicS (X_3 a0 a1 a2 a3 a4 a5) % 4294967296).toNat % 4 = a2 := logic_of rfl rfl l2
  have s4 := stp 29 2 29 2 4 536870912 (by decide) s3 h4 (by omega)
  have s5 := stp 22 1 22 1 2 4194304 (by decide) s4 (nat_mod l3 (by decide)) (by omega)
  have s6 := stp 16 6 16 6 64 65536 (by decide) s5 (nat_mod l4 (by decide)) (by omega)
  have s7 := stp 10 6 10 6 64 1024 (by decide) s6 (nat_mod l5 (by decide)) (by omega)
  exact s7
def X_4 (a0 a1 a2 a3 : Nat) : InsnS := ⟨5, ((a1 : Nat) : Int), ((a0 : Nat) : Int), 0, 0, 0, ((a2 : Nat) : Int), 0, ((16 * (a3) : Nat) : Int), 0, 0, 0, false, false, false, false⟩
theorem put_4 (a0 a1 a2 a3 : Nat) (l0 : a0 < 32) (l1 : a1 < 4) (l2 : a2 < 65536) (l3 : a3 < 4) : putI 4 (fBase 4) (X_4 a0 a1 a2 a3) = ((2457862144 + a0 * 1 + a1 * 536870912 + a2 * 32 + a3 * 2097152 : Nat) : Int) := by
  have s1 := stp 0 5 0 5 32 1 (by decide) (Vi := fBase 4) (V := 2457862144) rfl (nat_mod l0 (by decide)) (by omega)
  have s2 := stp 29 2 29 2 4 536870912 (by decide) s1 (nat_mod l1 (by decide)) (by omega)
  have s3 := stp 5 16 5 16 65536 32 (by decide) s2 (nat_mod l2 (by decide)) (by omega)
  have h4 : (quoS ((16 * a3 : Nat) : Int) 16 % 4294967296).toNat % 4 = a3 := by rw [quo16 a3 (by omega)]; exact nat_mod l3 (by decide)
  have s4 := stp 21 2 21 2 4 2097152 (by decide) s3 h4 (by omega)
  exact s4
def X_5 (a0 a1 a2 a3 a4 : Nat) : InsnS := ⟨6, ((a2 : Nat) : Int), ((a0 : Nat) : Int), ((a1 : Nat) : Int), 0, 0, ((a3 : Nat) : Int), ((a4 : Nat) : Int), 0, 0, 0, 0, false, false, false, false⟩
theorem put_5 (a0 a1 a2 a3 a4 : Nat) (l0 : a0 < 32) (l1 : a1 < 32) (l2 : a2 < 4) (l3 : a3 < 64) (l4 : a4 < 64) : putI 5 (fBase 5) (X_5 a0 a1 a2 a3 a4) = ((2470445056 + a0 * 1 + a1 * 32 + a2 * 536870912 + a3 * 65536 + a4 * 1024 : Nat) : Int) := by
  have s1 := stp 0 5 0 5 32 1 (by decide) (Vi := fBase 5) (V := 2470445056) rfl (nat_mod l0 (by decide)) (by omega)
  have s2 := stp 5 5 5 5 32 32 (by decide) s1 (nat_mod l1 (by decide)) (by omega)
  have s3 := layS_zero (n := 0) (ai := 16) (mi := 5) s2 (by omega) rfl
  have s4 := stp 29 2 29 2 4 536870912 (by decide) s3 (nat_mod l2 (by decide)) (by omega)
  have s5 := stp 16 6 16 6 64 65536 (by decide) s4 (nat_mod l3 (by decide)) (by omega)
  have s6 := stp 10 6 10 6 64 1024 (by decide) s5 (nat_mod l4 (by decide)) (by omega)
  exact s6
def X_6 (a0 a1 a2 a3 : Nat) : InsnS := ⟨7, ((a3 : Nat) : Int), ((a0 : Nat) : Int), ((a1 : Nat) : Int), ((a2 : Nat) : Int), 0, 0, 0, 0, 0, 0, 0, false, false, false, false⟩
theorem put_6 (a0 a1 a2 a3 : Nat) (l0 : a0 < 32) (l1 : a1 < 32) (l2 : a2 < 32) (l3 : a3 < 4) : putI 6 (fBase 6) (X_6 a0 a1 a2 a3) = ((2596282368 + a0 * 1 + a1 * 32 + a2 * 65536 + a3 * 1024 : Nat) : Int) := by
  have s1 := stp 0 5 0 5 32 1 (by decide) (Vi := fBase 6) (V := 2596282368) rfl (nat_mod l0 (by decide)) (by omega)
  have s2 := stp 5 5 5 5 32 32 (by decide) s1 (nat_mod l1 (by decide)) (by omega)
  have s3 := stp 16 5 16 5 32 65536 (by decide) s2 (nat_mod l2 (by decide)) (by omega)
  have s4 := stp 10 2 10 2 4 1024 (by decide) s3 (nat_mod l3 (by decide)) (by omega)
  exact s4
def X_7 (a0 a1 a2 a3 a4 : Nat) : InsnS := ⟨8, 0, ((a0 : Nat) : Int), ((a1 : Nat) : Int), ((a2 : Nat) : Int), ((a3 : Nat) : Int), 0, 0, 0, 0, 0, 0, false, (((a4 : Nat) : Int) == 1), false, false⟩
theorem put_7 (a0 a1 a2 a3 a4 : Nat) (l0 : a0 < 32) (l1 : a1 < 32) (l2 : a2 < 32) (l3 : a3 < 32) (l4 : a4 < 2) : putI 7 (fBase 7) (X_7 a0 a1 a2 a3 a4) = ((2600468480 + a0 * 1 + a1 * 32 + a2 * 65536 + a3 * 1024 + a4 * 32768 : Nat) : Int) := by
  have s1 := stp 0 5 0 5 32 1 (by decide) (Vi := fBase 7) (V := 2600468480) rfl (nat_mod l0 (by decide)) (by omega)
  have s2 := stp 5 5 5 5 32 32 (by decide) s1 (nat_mod l1 (by decide)) (by omega)
  have s3 := stp 16 5 16 5 32 65536 (by decide) s2 (nat_mod l2 (by decide)) (by omega)
  have s4 := stp 10 5 10 5 32 1024 (by decide) s3 (nat_mod l3 (by decide)) (by omega)
  have s5 := stf (b := (((a4 : Nat) : Int) == 1)) 32768 15 32768 (by decide) s4 (bN_eq1 l4) (by omega)
  exact s5
def X_8 (a0 a1 a2 a3 : Nat) : InsnS := ⟨9, ((a3 : Nat) : Int), ((a0 : Nat) : Int), ((a1 : Nat) : Int), ((a2 : Nat) : Int), 0, 0, 0, 0, 0, 0, 0, false, false, false, false⟩
theorem put_8 (a0 a1 a2 a3 : Nat) (l0 : a0 < 32) (l1 : a1 < 32) (l2 : a2 < 32) (l3 : a3 < 2) : putI 8 (fBase 8) (X_8 a0 a1 a2 a3) = ((2596276224 + a0 * 1 + a1 * 32 + a2 * 65536 + a3 * 1024 : Nat) : Int) := by
  have s1 := stp 0 5 0 5 32 1 (by decide) (Vi := fBase 8) (V := 2596276224) rfl (nat_mod l0 (by decide)) (by omega)
  have s2 := stp 5 5 5 5 32 32 (by decide) s1 (nat_mod l1 (by decide)) (by omega)
  have s3 := stp 16 5 16 5 32 65536 (by decide) s2 (nat_mod l2 (by decide)) (by omega)
  have s4 := layS_step (n := ((a3 : Nat) : Int)) (ai := 10) (mi := 1) (V := 2596276224 + a0 * 1 + a1 * 32 + a2 * 65536) (at_ := 10) (many := 1) (P := 2) (Q := 1024) s3 rfl rfl rfl rfl (by decide) (by decide) (by omega) (nat_mod l3 (by decide)) (by omega)
  rw [← lay_sub1 _ _ l3] at s4
  exact s4
def X_9 (a0 a1 a2 a3 a4 a5 : Nat) : InsnS := ⟨10, ((2 * (a3) + a4 : Nat) : Int), ((a0 : Nat) : Int), ((a1 : Nat) : Int), ((a2 : Nat) : Int), 0, 0, 0, 0, 0, ((a5 : Nat) : Int), 0, false, false, false, false⟩
theorem put_9 (a0 a1 a2 a3 a4 a5 : Nat) (l0 : a0 < 32) (l1 : a1 < 32) (l2 : a2 < 32) (l3 : a3 < 2) (l4 : a4 < 2) (l5 : a5 < 16) : putI 9 (fBase 9) (X_9 a0 a1 a2 a3 a4 a5) = ((2592079872 + a0 * 1 + a1 * 32 + a2 * 65536 + a3 * 1073741824 + a4 * 1024 + a5 * 4096 : Nat) : Int) := by
  have s1 := stp 0 5 0 5 32 1 (by decide) (Vi := fBase 9) (V := 2592079872) rfl (nat_mod l0 (by decide)) (by omega)
  have s2 := stp 5 5 5 5 32 32 (by decide) s1 (nat_mod l1 (by decide)) (by omega)
  have s3 := stp 16 5 16 5 32 65536 (by decide) s2 (nat_mod l2 (by decide)) (by omega)
  have h4 : (shrS ((2 * a3 + a4 : Nat) : Int) 1 % 4294967296).toNat % 2 = a3 := sel_a l3 l4
  have s4 := stp 30 1 30 1 2 1073741824 (by decide) s3 h4 (by omega)
  have h5 : (((2 * a3 + a4 : Nat) : Int) % 4294967296).toNat % 2 = a4 := sel_b l3 l4
  have s5 := stp 10 1 10 1 2 1024 (by decide) s4 h5 (by omega)
  have s6 := stp 12 4 12 4 16 4096 (by decide) s5 (nat_mod l5 (by decide)) (by omega)
  exact s6
def X_10 (a0 a1 a2 a3 : Nat) : InsnS := ⟨11, ((a1 : Nat) : Int), ((a0 : Nat) : Int), 0, 0, 0, adrX (a1) (a2) (a3), 0, 0, 0, 0, 0, false, false, false, false⟩
theorem put_10 (a0 a1 a2 a3 : Nat) (l0 : a0 < 32) (l1 : a1 < 2) (l2 : a2 < 4) (l3 : a3 < 524288) : putI 10 (fBase 10) (X_10 a0 a1 a2 a3) = ((268435456 + a0 * 1 + a1 * 2147483648 + a2 * 536870912 + a3 * 32 : Nat) : Int) := by
  have s1 := stp 0 5 0 5 32 1 (by decide) (Vi := fBase 10) (V := 268435456) rfl (nat_mod l0 (by decide)) (by omega)
  have s2 := stp 31 1 31 1 2 2147483648 (by decide) s1 (nat_mod l1 (by decide)) (by omega)
  have h3 : ((if ((a1 : Nat) : Int) = 1 then quoS (adrX a1 a2 a3) 4096 else adrX a1 a2 a3) % 4294967296).toNat % 4 = a2 := adr_lo l1 l2 l3
  have s3 := stp 29 2 29 2 4 536870912 (by decide) s2 h3 (by omega)
  have h4 : (shrS (if ((a1 : Nat) : Int) = 1 then quoS (adrX a1 a2 a3) 4096 else adrX a1 a2 a3) 2 % 4294967296).toNat % 524288 = a3 := adr_hi l1 l2 l3
  have s4 := stp 5 19 5 19 524288 32 (by decide) s3 h4 (by omega)
  exact s4
def X_11 (a0 a1 : Nat) : InsnS := ⟨12, 0, 0, 0, 0, 0, sxS 33554432 67108864 (a1), 0, 0, 0, 0, 0, false, false, false, (((a0 : Nat) : Int) == 1)⟩
theorem put_11 (a0 a1 : Nat) (l0 : a0 < 2) (l1 : a1 < 67108864) : putI 11 (fBase 11) (X_11 a0 a1) = ((335544320 + a0 * 2147483648 + a1 * 1 : Nat) : Int) := by
  have s1 := stf (b := (((a0 : Nat) : Int) == 1)) 2147483648 31 2147483648 (by decide) (Vi := fBase 11) (V := 335544320) rfl (bN_eq1 l0) (by omega)
  have h2 : (shrS (sxS 33554432 67108864 a1) 2 % 4294967296).toNat % 67108864 = a1 := sx_put26 l1
  have s2 := stp 0 26 0 26 67108864 1 (by decide) s1 h2 (by omega)
  exact s2
def X_12 (a0 a1 : Nat) : InsnS := ⟨13, 0, 0, 0, 0, 0, sxS 262144 524288 (a1), 0, 0, 0, ((a0 : Nat) : Int), 0, false, false, false, false⟩
theorem put_12 (a0 a1 : Nat) (l0 : a0 < 16) (l1 : a1 < 524288) : putI 12 (fBase 12) (X_12 a0 a1) = ((1409286144 + a0 * 1 + a1 * 32 : Nat) : Int) := by
  have s1 := stp 0 4 0 4 16 1 (by decide) (Vi := fBase 12) (V := 1409286144) rfl (nat_mod l0 (by decide)) (by omega)
  have h2 : (shrS (sxS 262144 524288 a1) 2 % 4294967296).toNat % 524288 = a1 := sx_put19 l1
  have s2 := stp 5 19 5 19 524288 32 (by decide) s1 h2 (by omega)
  exact s2
def X_13 (a0 a1 a2 : Nat) : InsnS := ⟨14, 0, ((a0 : Nat) : Int), 0, 0, 0, sxS 262144 524288 (a2), 0, 0, 0, 0, 0, false, false, decide (a1 = 1), false⟩
theorem put_13 (a0 a1 a2 : Nat) (l0 : a0 < 32) (l1 : a1 < 2) (l2 : a2 < 524288) : putI 13 (fBase 13) (X_13 a0 a1 a2) = ((3019898880 + a0 * 1 + a1 * 16777216 + a2 * 32 : Nat) : Int) := by
  have s1 := stp 0 5 0 5 32 1 (by decide) (Vi := fBase 13) (V := 3019898880) rfl (nat_mod l0 (by decide)) (by omega)
  have s2 := stf (b := decide (a1 = 1)) 16777216 24 16777216 (by decide) s1 (bN_dec l1) (by omega)
  have h3 : (shrS (sxS 262144 524288 a2) 2 % 4294967296).toNat % 524288 = a2 := sx_put19 l2
  have s3 := stp 5 19 5 19 524288 32 (by decide) s2 h3 (by omega)
  exact s3
def X_14 (a0 a1 a2 a3 a4 : Nat) : InsnS := ⟨15, 0, ((a0 : Nat) : Int), 0, 0, 0, sxS 8192 16384 (a4), 0, ((32 * (a2) + a3 : Nat) : Int), 0, 0, 0, false, false, decide (a1 = 1), false⟩
theorem put_14 (a0 a1 a2 a3 a4 : Nat) (l0 : a0 < 32) (l1 : a1 < 2) (l2 : a2 < 2) (l3 : a3 < 32) (l4 : a4 < 16384) : putI 14 (fBase 14) (X_14 a0 a1 a2 a3 a4) = ((905969664 + a0 * 1 + a1 * 16777216 + a2 * 2147483648 + a3 * 524288 + a4 * 32 : Nat) : Int) := by
  have s1 := stp 0 5 0 5 32 1 (by decide) (Vi := fBase 14) (V := 905969664) rfl (nat_mod l0 (by decide)) (by omega)
  have s2 := stf (b := decide (a1 = 1)) 16777216 24 16777216 (by decide) s1 (bN_dec l1) (by omega)
  have h3 : (shrS ((32 * a2 + a3 : Nat) : Int) 5 % 4294967296).toNat % 2 = a2 := tb_a l2 l3
  have s3 := stp 31 1 31 1 2 2147483648 (by decide) s2 h3 (by omega)
  have h4 : (((32 * a2 + a3 : Nat) : Int) % 4294967296).toNat % 32 = a3 := tb_b l2 l3
  have s4 := stp 19 5 19 5 32 524288 (by decide) s3 h4 (by omega)
  have h5 : (shrS (sxS 8192 16384 a4) 2 % 4294967296).toNat % 16384 = a4 := sx_put14 l4
  have s5 := stp 5 14 5 14 16384 32 (by decide) s4 h5 (by omega)
  exact s5
def X_15 (a0 a1 : Nat) : InsnS := ⟨16, ((a1 : Nat) : Int), 0, ((a0 : Nat) : Int), 0, 0, 0, 0, 0, 0, 0, 0, false, false, false, false⟩
theorem put_15 (a0 a1 : Nat) (l0 : a0 < 32) (l1 : a1 < 4) : putI 15 (fBase 15) (X_15 a0 a1) = ((3592355840 + a0 * 32 + a1 * 2097152 : Nat) : Int) := by
  have s1 := stp 5 5 5 5 32 32 (by decide) (Vi := fBase 15) (V := 3592355840) rfl (nat_mod l0 (by decide)) (by omega)
  have s2 := stp 21 2 21 2 4 2097152 (by decide) s1 (nat_mod l1 (by decide)) (by omega)
  exact s2
def X_16 (a0 a1 a2 : Nat) : InsnS := ⟨17, 0, ((a0 : Nat) : Int), ((a1 : Nat) : Int), 0, 0, ((8 * (a2) : Nat) : Int), 0, 0, 0, 0, 0, false, false, false, false⟩
theorem put_16 (a0 a1 a2 : Nat) (l0 : a0 < 32) (l1 : a1 < 32) (l2 : a2 < 4096) : putI 16 (fBase 16) (X_16 a0 a1 a2) = ((4181721088 + a0 * 1 + a1 * 32 + a2 * 1024 : Nat) : Int) := by
  have s1 := stp 0 5 0 5 32 1 (by decide) (Vi := fBase 16) (V := 4181721088) rfl (nat_mod l0 (by decide)) (by omega)
  have s2 := stp 5 5 5 5 32 32 (by decide) s1 (nat_mod l1 (by decide)) (by omega)
  have s3 := layS_zero (n := 0) (ai := 16) (mi := 5) s2 (by omega) rfl
  have h4 : (quoS ((8 * a2 : Nat) : Int) 8 % 4294967296).toNat % 4096 = a2 := by rw [quo8 a2 (by omega)]; exact nat_mod l2 (by decide)
  have s4 := stp 10 12 10 12 4096 1024 (by decide) s3 h4 (by omega)
  exact s4
def X_17 (a0 a1 a2 : Nat) : InsnS := ⟨18, 0, ((a0 : Nat) : Int), ((a1 : Nat) : Int), 0, 0, ((8 * (a2) : Nat) : Int), 0, 0, 0, 0, 0, false, false, false, false⟩
theorem put_17 (a0 a1 a2 : Nat) (l0 : a0 < 32) (l1 : a1 < 32) (l2 : a2 < 4096) : putI 17 (fBase 17) (X_17 a0 a1 a2) = ((4177526784 + a0 * 1 + a1 * 32 + a2 * 1024 : Nat) : Int) := by
  have s1 := stp 0 5 0 5 32 1 (by decide) (Vi := fBase 17) (V := 4177526784) rfl (nat_mod l0 (by decide)) (by omega)
  have s2 := stp 5 5 5 5 32 32 (by decide) s1 (nat_mod l1 (by decide)) (by omega)
  have s3 := layS_zero (n := 0) (ai := 16) (mi := 5) s2 (by omega) rfl
  have h4 : (quoS ((8 * a2 : Nat) : Int) 8 % 4294967296).toNat % 4096 = a2 := by rw [quo8 a2 (by omega)]; exact nat_mod l2 (by decide)
  have s4 := stp 10 12 10 12 4096 1024 (by decide) s3 h4 (by omega)
  exact s4
def X_18 (a0 a1 a2 a3 : Nat) : InsnS := ⟨19, 0, ((a0 : Nat) : Int), ((a1 : Nat) : Int), ((a2 : Nat) : Int), 0, 0, 0, ((3 * (a3) : Nat) : Int), 0, 0, 0, false, false, false, false⟩
theorem put_18 (a0 a1 a2 a3 : Nat) (l0 : a0 < 32) (l1 : a1 < 32) (l2 : a2 < 32) (l3 : a3 < 2) : putI 18 (fBase 18) (X_18 a0 a1 a2 a3) = ((4167067648 + a0 * 1 + a1 * 32 + a2 * 65536 + a3 * 4096 : Nat) : Int) := by
  have s1 := stp 0 5 0 5 32 1 (by decide) (Vi := fBase 18) (V := 4167067648) rfl (nat_mod l0 (by decide)) (by omega)
  have s2 := stp 5 5 5 5 32 32 (by decide) s1 (nat_mod l1 (by decide)) (by omega)
  have s3 := stp 16 5 16 5 32 65536 (by decide) s2 (nat_mod l2 (by decide)) (by omega)
  have h4 : (quoS ((3 * a3 : Nat) : Int) 3 % 4294967296).toNat % 2 = a3 := by rw [quo3 a3 (by omega)]; exact nat_mod l3 (by decide)
  have s4 := stp 12 1 12 1 2 4096 (by decide) s3 h4 (by omega)
  exact s4
def X_19 (a0 a1 a2 a3 : Nat) : InsnS := ⟨20, 0, ((a0 : Nat) : Int), ((a1 : Nat) : Int), ((a2 : Nat) : Int), 0, 0, 0, ((3 * (a3) : Nat) : Int), 0, 0, 0, false, false, false, false⟩
theorem put_19 (a0 a1 a2 a3 : Nat) (l0 : a0 < 32) (l1 : a1 < 32) (l2 : a2 < 32) (l3 : a3 < 2) : putI 19 (fBase 19) (X_19 a0 a1 a2 a3) = ((4162873344 + a0 * 1 + a1 * 32 + a2 * 65536 + a3 * 4096 : Nat) : Int) := by
  have s1 := stp 0 5 0 5 32 1 (by decide) (Vi := fBase 19) (V := 4162873344) rfl (nat_mod l0 (by decide)) (by omega)
  have s2 := stp 5 5 5 5 32 32 (by decide) s1 (nat_mod l1 (by decide)) (by omega)
  have s3 := stp 16 5 16 5 32 65536 (by decide) s2 (nat_mod l2 (by decide)) (by omega)
  have h4 : (quoS ((3 * a3 : Nat) : Int) 3 % 4294967296).toNat % 2 = a3 := by rw [quo3 a3 (by omega)]; exact nat_mod l3 (by decide)
  have s4 := stp 12 1 12 1 2 4096 (by decide) s3 h4 (by omega)
  exact s4
def X_20 (a0 a1 : Nat) : InsnS := ⟨21, 0, ((a0 : Nat) : Int), ((a1 : Nat) : Int), 0, 0, 0, 0, 0, 0, 0, 0, false, false, false, false⟩
theorem put_20 (a0 a1 : Nat) (l0 : a0 < 32) (l1 : a1 < 32) : putI 20 (fBase 20) (X_20 a0 a1) = ((3370122240 + a0 * 1 + a1 * 32 : Nat) : Int) := by
  have s1 := stp 0 5 0 5 32 1 (by decide) (Vi := fBase 20) (V := 3370122240) rfl (nat_mod l0 (by decide)) (by omega)
  have s2 := stp 5 5 5 5 32 32 (by decide) s1 (nat_mod l1 (by decide)) (by omega)
  have s3 := layS_zero (n := 0) (ai := 16) (mi := 5) s2 (by omega) rfl
  exact s3
def X_21 (a0 a1 : Nat) : InsnS := ⟨21, 1, ((a0 : Nat) : Int), ((a1 : Nat) : Int), 0, 0, 0, 0, 0, 0, 0, 0, false, false, false, false⟩
theorem put_21 (a0 a1 : Nat) (l0 : a0 < 32) (l1 : a1 < 32) : putI 21 (fBase 21) (X_21 a0 a1) = ((4173316096 + a0 * 1 + a1 * 32 : Nat) : Int) := by
  have s1 := stp 0 5 0 5 32 1 (by decide) (Vi := fBase 21) (V := 4173316096) rfl (nat_mod l0 (by decide)) (by omega)
  have s2 := stp 5 5 5 5 32 32 (by decide) s1 (nat_mod l1 (by decide)) (by omega)
  have s3 := layS_zero (n := 0) (ai := 16) (mi := 5) s2 (by omega) rfl
  exact s3
def X_22 (a0 a1 : Nat) : InsnS := ⟨22, 0, ((a0 : Nat) : Int), ((a1 : Nat) : Int), 0, 0, 0, 0, 0, 0, 0, 0, false, false, false, false⟩
theorem put_22 (a0 a1 : Nat) (l0 : a0 < 32) (l1 : a1 < 32) : putI 22 (fBase 22) (X_22 a0 a1) = ((3365927936 + a0 * 1 + a1 * 32 : Nat) : Int) := by
  have s1 := stp 0 5 0 5 32 1 (by decide) (Vi := fBase 22) (V := 3365927936) rfl (nat_mod l0 (by decide)) (by omega)
  have s2 := stp 5 5 5 5 32 32 (by decide) s1 (nat_mod l1 (by decide)) (by omega)
  have s3 := layS_zero (n := 0) (ai := 16) (mi := 5) s2 (by omega) rfl
  exact s3
def X_23 (a0 a1 a2 : Nat) : InsnS := ⟨23, ((a2 : Nat) : Int), ((a0 : Nat) : Int), ((a1 : Nat) : Int), 0, 0, 0, 0, 0, 0, 0, 0, false, false, false, false⟩
theorem put_23 (a0 a1 a2 : Nat) (l0 : a0 < 32) (l1 : a1 < 32) (l2 : a2 < 2) : putI 23 (fBase 23) (X_23 a0 a1 a2) = ((3361700864 + a0 * 1 + a1 * 32 + a2 * 32768 : Nat) : Int) := by
  have s1 := stp 0 5 0 5 32 1 (by decide) (Vi := fBase 23) (V := 3361700864) rfl (nat_mod l0 (by decide)) (by omega)
  have s2 := stp 5 5 5 5 32 32 (by decide) s1 (nat_mod l1 (by decide)) (by omega)
  have s3 := layS_zero (n := 0) (ai := 16) (mi := 5) s2 (by omega) rfl
  have s4 := stp 15 1 15 1 2 32768 (by decide) s3 (nat_mod l2 (by decide)) (by omega)
  exact s4
def X_24 (a0 a1 a2 a3 : Nat) : InsnS := ⟨24, ((a3 : Nat) : Int), ((a0 : Nat) : Int), ((a1 : Nat) : Int), ((a2 : Nat) : Int), 0, 0, 0, 0, 0, 0, 0, false, false, false, false⟩
theorem put_24 (a0 a1 a2 a3 : Nat) (l0 : a0 < 32) (l1 : a1 < 32) (l2 : a2 < 32) (l3 : a3 < 2) : putI 24 (fBase 24) (X_24 a0 a1 a2 a3) = ((3355474944 + a0 * 1 + a1 * 32 + a2 * 65536 + a3 * 32768 : Nat) : Int) := by
  have s1 := stp 0 5 0 5 32 1 (by decide) (Vi := fBase 24) (V := 3355474944) rfl (nat_mod l0 (by decide)) (by omega)
  have s2 := stp 5 5 5 5 32 32 (by decide) s1 (nat_mod l1 (by decide)) (by omega)
  have s3 := stp 16 5 16 5 32 65536 (by decide) s2 (nat_mod l2 (by decide)) (by omega)
  have s4 := stp 15 1 15 1 2 32768 (by decide) s3 (nat_mod l3 (by decide)) (by omega)
  exact s4
def X_25 : InsnS := ⟨25, 0, 0, 0, 0, 0, 0, 0, 0, 0, 0, 0, false, false, false, false⟩
theorem put_25 : putI 25 (fBase 25) (X_25) = ((3573759839 : Nat) : Int) := by
  have s1 := layS_zero (n := 0) (ai := 0) (mi := 5) (Vi := fBase 25) (V := 3573759839) rfl (by omega) rfl
  have s2 := layS_zero (n := 0) (ai := 5) (mi := 5) s1 (by omega) rfl
  have s3 := layS_zero (n := 0) (ai := 16) (mi := 5) s2 (by omega) rfl
  exact s3
def X_26 (a0 : Nat) : InsnS := ⟨26, 0, 0, 0, 0, 0, ((a0 : Nat) : Int), 0, 0, 0, 0, 0, false, false, false, false⟩
theorem put_26 (a0 : Nat) (l0 : a0 < 4) : putI 26 (fBase 26) (X_26 a0) = ((3573759167 + a0 * 256 : Nat) : Int) := by
  have s1 := stp 8 2 8 2 4 256 (by decide) (Vi := fBase 26) (V := 3573759167) rfl (nat_mod l0 (by decide)) (by omega)
  exact s1
def X_27 (a0 : Nat) : InsnS := ⟨26, 1, 0, 0, 0, 0, ((a0 : Nat) : Int), 0, 0, 0, 0, 0, false, false, false, false⟩
theorem put_27 (a0 : Nat) (l0 : a0 < 4) : putI 27 (fBase 27) (X_27 a0) = ((3573759135 + a0 * 256 : Nat) : Int) := by
  have s1 := stp 8 2 8 2 4 256 (by decide) (Vi := fBase 27) (V := 3573759135) rfl (nat_mod l0 (by decide)) (by omega)
  exact s1
def X_28 : InsnS := ⟨27, 0, 0, 0, 0, 0, 0, 0, 0, 0, 0, 0, false, false, false, false⟩
theorem put_28 : putI 28 (fBase 28) (X_28) = ((3573759967 : Nat) : Int) := by
  have s1 := layS_zero (n := 0) (ai := 0) (mi := 5) (Vi := fBase 28) (V := 3573759967) rfl (by omega) rfl
  have s2 := layS_zero (n := 0) (ai := 5) (mi := 5) s1 (by omega) rfl
  have s3 := layS_zero (n := 0) (ai := 16) (mi := 5) s2 (by omega) rfl
  exact s3
def X_29 (a0 : Nat) : InsnS := ⟨28, 0, ((a0 : Nat) : Int), 0, 0, 0, 0, 0, 0, 0, 0, 0, false, false, false, false⟩
theorem put_29 (a0 : Nat) (l0 : a0 < 32) : putI 29 (fBase 29) (X_29 a0) = ((3574297888 + a0 * 1 : Nat) : Int) := by
  have s1 := stp 0 5 0 5 32 1 (by decide) (Vi := fBase 29) (V := 3574297888) rfl (nat_mod l0 (by decide)) (by omega)
  have s2 := layS_zero (n := 0) (ai := 5) (mi := 5) s1 (by omega) rfl
  have s3 := layS_zero (n := 0) (ai := 16) (mi := 5) s2 (by omega) rfl
  exact s3
def X_30 (a0 : Nat) : InsnS := ⟨30, 0, ((a0 : Nat) : Int), 0, 0, 0, 0, 0, 0, 0, 0, 0, false, false, false, false⟩
theorem put_30 (a0 : Nat) (l0 : a0 < 32) : putI 30 (fBase 30) (X_30 a0) = ((3574299424 + a0 * 1 : Nat) : Int) := by
  have s1 := stp 0 5 0 5 32 1 (by decide) (Vi := fBase 30) (V := 3574299424) rfl (nat_mod l0 (by decide)) (by omega)
  have s2 := layS_zero (n := 0) (ai := 5) (mi := 5) s1 (by omega) rfl
  have s3 := layS_zero (n := 0) (ai := 16) (mi := 5) s2 (by omega) rfl
  exact s3
def X_31 : InsnS := ⟨29, 0, 0, 0, 0, 0, 0, 0, 0, 0, 0, 0, false, false, false, false⟩
theorem put_31 : putI 31 (fBase 31) (X_31) = ((3574101279 : Nat) : Int) := by
  have s1 := layS_zero (n := 0) (ai := 0) (mi := 5) (Vi := fBase 31) (V := 3574101279) rfl (by omega) rfl
  have s2 := layS_zero (n := 0) (ai := 5) (mi := 5) s1 (by omega) rfl
  have s3 := layS_zero (n := 0) (ai := 16) (mi := 5) s2 (by omega) rfl
  exact s3
def X_32 (a0 a1 : Nat) : InsnS := ⟨31, 0, ((a0 : Nat) : Int), 0, 0, 0, 0, 0, 0, 0, 0, ((a1 : Nat) : Int), false, false, false, false⟩
theorem put_32 (a0 a1 : Nat) (l0 : a0 < 32) (l1 : a1 < 32768) : putI 32 (fBase 32) (X_32 a0 a1) = ((3576692736 + a0 * 1 + a1 * 32 : Nat) : Int) := by
  have s1 := stp 0 5 0 5 32 1 (by decide) (Vi := fBase 32) (V := 3576692736) rfl (nat_mod l0 (by decide)) (by omega)
  have s2 := stp 5 15 5 15 32768 32 (by decide) s1 (nat_mod l1 (by decide)) (by omega)
  exact s2
def X_33 (a0 a1 : Nat) : InsnS := ⟨32, 0, ((a0 : Nat) : Int), 0, 0, 0, 0, 0, 0, 0, 0, ((a1 : Nat) : Int), false, false, false, false⟩
theorem put_33 (a0 a1 : Nat) (l0 : a0 < 32) (l1 : a1 < 32768) : putI 33 (fBase 33) (X_33 a0 a1) = ((3574595584 + a0 * 1 + a1 * 32 : Nat) : Int) := by
  have s1 := stp 0 5 0 5 32 1 (by decide) (Vi := fBase 33) (V := 3574595584) rfl (nat_mod l0 (by decide)) (by omega)
  have s2 := stp 5 15 5 15 32768 32 (by decide) s1 (nat_mod l1 (by decide)) (by omega)
  exact s2
def X_34 (a0 : Nat) : InsnS := ⟨33, 0, 0, 0, 0, 0, ((a0 : Nat) : Int), 0, 0, 0, 0, 0, false, false, false, false⟩
theorem put_34 (a0 : Nat) (l0 : a0 < 16) : putI 34 (fBase 34) (X_34 a0) = ((3573760223 + a0 * 256 : Nat) : Int) := by
  have s1 := stp 8 4 8 4 16 256 (by decide) (Vi := fBase 34) (V := 3573760223) rfl (nat_mod l0 (by decide)) (by omega)
  exact s1
def X_35 (a0 : Nat) : InsnS := ⟨33, 1, 0, 0, 0, 0, ((a0 : Nat) : Int), 0, 0, 0, 0, 0, false, false, false, false⟩
theorem put_35 (a0 : Nat) (l0 : a0 < 16) : putI 35 (fBase 35) (X_35 a0) = ((3573760255 + a0 * 256 : Nat) : Int) := by
  have s1 := stp 8 4 8 4 16 256 (by decide) (Vi := fBase 35) (V := 3573760255) rfl (nat_mod l0 (by decide)) (by omega)
  exact s1
def X_36 (a0 : Nat) : InsnS := ⟨34, 0, 0, 0, 0, 0, ((a0 : Nat) : Int), 0, 0, 0, 0, 0, false, false, false, false⟩
theorem put_36 (a0 : Nat) (l0 : a0 < 65536) : putI 36 (fBase 36) (X_36 a0) = ((3556769793 + a0 * 32 : Nat) : Int) := by
  have s1 := stp 5 16 5 16 65536 32 (by decide) (Vi := fBase 36) (V := 3556769793) rfl (nat_mod l0 (by decide)) (by omega)
  exact s1
def X_37 (a0 : Nat) : InsnS := ⟨35, 0, 0, 0, 0, 0, ((a0 : Nat) : Int), 0, 0, 0, 0, 0, false, false, false, false⟩
theorem put_37 (a0 : Nat) (l0 : a0 < 65536) : putI 37 (fBase 37) (X_37 a0) = ((3558866944 + a0 * 32 : Nat) : Int) := by
  have s1 := stp 5 16 5 16 65536 32 (by decide) (Vi := fBase 37) (V := 3558866944) rfl (nat_mod l0 (by decide)) (by omega)
  exact s1
def X_38 : InsnS := ⟨36, 0, 0, 0, 0, 0, 0, 0, 0, 0, 0, 0, false, false, false, false⟩
theorem put_38 : putI 38 (fBase 38) (X_38) = ((3600745440 : Nat) : Int) := by
  have s1 := layS_zero (n := 0) (ai := 0) (mi := 5) (Vi := fBase 38) (V := 3600745440) rfl (by omega) rfl
  have s2 := layS_zero (n := 0) (ai := 5) (mi := 5) s1 (by omega) rfl
  have s3 := layS_zero (n := 0) (ai := 16) (mi := 5) s2 (by omega) rfl
  exact s3
def X_39 (a0 : Nat) : InsnS := ⟨37, 0, 0, 0, 0, 0, ((a0 : Nat) : Int), 0, 0, 0, 0, 0, false, false, false, false⟩
theorem put_39 (a0 : Nat) (l0 : a0 < 8) : putI 39 (fBase 39) (X_39 a0) = ((3573751839 + a0 * 32 : Nat) : Int) := by
  have s1 := stp 5 3 5 3 8 32 (by decide) (Vi := fBase 39) (V := 3573751839) rfl (nat_mod l0 (by decide)) (by omega)
  exact s1
end Go.Proofs.YteikpddilabppaaGreatR

