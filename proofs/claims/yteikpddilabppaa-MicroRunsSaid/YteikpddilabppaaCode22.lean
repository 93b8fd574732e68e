/- The code of some functions, in abstract form, each checked against the program's form: made by a program (AmPrint). No condition. -/
import Derived.Test.YteikpddilabppaaAmS
import Derived.Test.YteikpddilabppaaProg
import Derived.KernelRfl
set_option linter.unusedVariables false
namespace Go.Proofs.Yteikpddilabppaa
open Go.AM
/-! understudy/understudylaw22.MicroRuns -/
def C3r0 : List AOper := [⟨some 4, .box 25 (.t 0), none, true, []⟩,
  ⟨some 5, .box 29 (.t 1), none, true, []⟩,
  ⟨some 8, .mv (.k (.c (.bool false))), none, true, []⟩]
def C3r1 : List AOper := [⟨some 28, .call (.k (.c (.fn 5 [] []))) [], none, true, []⟩,
  ⟨some 9, .mv (.t 28), none, true, []⟩]
def C3r2 : List AOper := [⟨some 29, .ldn 5 (.t 4), none, true, []⟩,
  ⟨some 10, .alloc 25 [.c (.int .u64 0), .c (.int .i64 0), .c (.int .i64 0), .c (.int .i64 0), .c (.nils)], none, true, []⟩,
  ⟨none, .stn 5 (.t 10) (.t 29), none, true, []⟩]
def C3r3 : List AOper := [⟨some 30, .faddr (.t 4) 4, none, true, []⟩,
  ⟨some 31, .ld1 (.t 30), none, true, []⟩,
  ⟨some 32, .len false (.t 31), none, true, []⟩,
  ⟨some 33, .bin .add (.t 32) (.k (.c (.int .i64 1))), none, true, []⟩,
  ⟨some 34, .mkslice 34 7 56 [.c (.int .i64 0), .c (.int .i64 0), .c (.int .i64 0), .c (.int .i64 0), .c (.int .i64 0), .c (.int .i64 0), .c (.int .u64 0)] (.t 33) (.t 33), none, true, []⟩,
  ⟨some 35, .faddr (.t 10) 4, none, true, []⟩,
  ⟨none, .st1 (.t 35) (.t 34), none, true, []⟩]
def C3r4 : List AOper := [⟨some 36, .faddr (.t 10) 4, none, true, []⟩,
  ⟨some 37, .ld1 (.t 36), none, true, []⟩,
  ⟨some 38, .faddr (.t 4) 4, none, true, []⟩,
  ⟨some 39, .ld1 (.t 38), none, true, []⟩,
  ⟨some 40, .cpy 7 (.t 37) (.t 39), none, true, []⟩]
def C3r5 : List AOper := [⟨some 41, .faddr (.t 10) 4, none, true, []⟩,
  ⟨some 42, .ld1 (.t 41), none, true, []⟩,
  ⟨some 43, .faddr (.t 4) 4, none, true, []⟩,
  ⟨some 44, .ld1 (.t 43), none, true, []⟩,
  ⟨some 45, .len false (.t 44), none, true, []⟩,
  ⟨some 46, .build [.c (.int .i64 0), .c (.int .i64 0), .c (.int .i64 0), .c (.int .i64 0), .c (.int .i64 0), .c (.int .i64 0), .c (.int .u64 0)] [(0, 1, (.k (.c (.int .i64 (-7)))))], none, true, []⟩,
  ⟨some 47, .iaddr 7 (.t 42) (.t 45), none, true, []⟩,
  ⟨none, .stn 7 (.t 47) (.t 46), none, true, []⟩]
def C3r6 : List AOper := [⟨some 48, .faddr (.t 10) 4, none, true, []⟩,
  ⟨some 49, .ld1 (.t 48), none, true, []⟩,
  ⟨some 50, .faddr (.t 4) 4, none, true, []⟩,
  ⟨some 51, .ld1 (.t 50), none, true, []⟩,
  ⟨some 52, .len false (.t 51), none, true, []⟩,
  ⟨some 53, .slc 7 (.t 49) none (some (.t 52)), none, true, []⟩,
  ⟨some 54, .faddr (.t 10) 4, none, true, []⟩,
  ⟨none, .st1 (.t 54) (.t 53), none, true, []⟩]
def C3r7 : List AOper := [⟨some 56, .ldn 5 (.t 10), none, true, []⟩,
  ⟨some 57, .ldn 49 (.t 5), none, true, []⟩,
  ⟨some 58, .call (.k (.c (.fn 6 [] []))) [(.t 56), (.t 57)], none, true, []⟩,
  ⟨some 55, .mv (.t 58), none, true, []⟩,
  ⟨some 59, .ext (.t 55) 0, none, true, []⟩,
  ⟨some 60, .ext (.t 55) 1, none, true, []⟩,
  ⟨some 11, .mv (.t 59), none, true, []⟩,
  ⟨some 12, .mv (.t 60), none, true, []⟩]
def C3r8 : List AOper := [⟨some 62, .ldn 5 (.t 4), none, true, []⟩,
  ⟨some 63, .ldn 49 (.t 5), none, true, []⟩,
  ⟨some 64, .call (.k (.c (.fn 7 [] []))) [(.t 62), (.t 63)], none, true, []⟩,
  ⟨some 61, .mv (.t 64), none, true, []⟩,
  ⟨some 65, .ext (.t 61) 0, none, true, []⟩,
  ⟨some 66, .ext (.t 61) 1, none, true, []⟩,
  ⟨some 13, .mv (.t 65), none, true, []⟩,
  ⟨some 14, .mv (.t 66), none, true, []⟩]
def C3r9 : List AOper := [⟨some 67, .mv (.t 14), none, true, []⟩,
  ⟨some 68, .bin .neq (.t 67) (.k (.c (.int .i64 0))), none, true, []⟩]
def C3r10 : List AOper := [⟨some 69, .mv (.t 9), none, true, []⟩,
  ⟨some 70, .mv (.t 69), none, true, []⟩,
  ⟨some 71, .mv (.t 11), some (70, true), true, []⟩,
  ⟨some 72, .nilq .ptr false (.t 71) (.k (.c (.nilp))), some (70, true), true, []⟩,
  ⟨some 73, .pick 70 (.t 72) (.k (.c (.bool false))), none, true, []⟩,
  ⟨some 74, .mv (.t 73), none, true, []⟩,
  ⟨some 75, .mv (.t 12), some (74, true), true, []⟩,
  ⟨some 76, .mv (.t 14), some (74, true), true, []⟩,
  ⟨some 77, .bin .eql (.t 75) (.t 76), some (74, true), true, []⟩,
  ⟨some 78, .pick 74 (.t 77) (.k (.c (.bool false))), none, true, []⟩,
  ⟨some 8, .mv (.t 78), none, true, []⟩]
def C3r11 : List AOper := [⟨some 79, .mv (.t 9), none, true, []⟩,
  ⟨some 80, .un .not (.t 79), none, true, []⟩,
  ⟨some 81, .mv (.t 80), none, true, []⟩,
  ⟨some 82, .mv (.t 11), some (81, false), true, []⟩,
  ⟨some 83, .nilq .ptr false (.t 82) (.k (.c (.nilp))), some (81, false), true, []⟩,
  ⟨some 84, .pick 81 (.k (.c (.bool true))) (.t 83), none, true, []⟩,
  ⟨some 85, .mv (.t 84), none, true, []⟩,
  ⟨some 86, .mv (.t 12), some (85, false), true, []⟩,
  ⟨some 87, .bin .neq (.t 86) (.k (.c (.int .i64 0))), some (85, false), true, []⟩,
  ⟨some 88, .pick 85 (.k (.c (.bool true))) (.t 87), none, true, []⟩,
  ⟨some 89, .mv (.t 88), none, true, []⟩,
  ⟨some 90, .mv (.t 11), some (89, false), false, []⟩,
  ⟨some 91, .call (.k (.c (.fn 8 [] []))) [(.t 90)], some (89, false), false, []⟩,
  ⟨some 92, .ldn 49 (.t 5), some (89, false), false, []⟩,
  ⟨some 93, .eqS true [.arr 31 true, .arr 2 true, .one true, .one false, .one false, .one false, .one false, .one true, .one false, .one true, .one true, .one true, .one true, .one true, .one true, .one true, .one true, .one false] (.t 91) (.t 92), some (89, false), true, []⟩,
  ⟨some 94, .pick 89 (.k (.c (.bool true))) (.t 93), none, true, []⟩,
  ⟨some 95, .mv (.t 94), none, true, []⟩,
  ⟨some 96, .mv (.t 11), some (95, false), true, []⟩,
  ⟨some 97, .call (.k (.c (.fn 9 [] []))) [(.t 96)], some (95, false), true, []⟩,
  ⟨some 98, .bin .neq (.t 97) (.k (.c (.int .i64 0))), some (95, false), true, []⟩,
  ⟨some 99, .pick 95 (.k (.c (.bool true))) (.t 98), none, true, []⟩,
  ⟨some 100, .mv (.t 99), none, true, []⟩,
  ⟨some 101, .mv (.t 11), some (100, false), true, []⟩,
  ⟨some 102, .call (.k (.c (.fn 10 [] []))) [(.t 101)], some (100, false), true, []⟩,
  ⟨some 103, .pick 100 (.k (.c (.bool true))) (.t 102), none, true, []⟩]
def C3r12 : List AOper := [⟨some 8, .mv (.k (.c (.bool false))), none, true, []⟩]
def C3r13 : List AOper := [⟨some 15, .mv (.k (.c (.int .i64 0))), none, true, []⟩]
def C3r14 : List AOper := [⟨some 104, .mv (.t 15), none, true, []⟩,
  ⟨some 105, .faddr (.t 4) 4, none, true, []⟩,
  ⟨some 106, .ld1 (.t 105), none, true, []⟩,
  ⟨some 107, .len false (.t 106), none, true, []⟩,
  ⟨some 108, .bin .lss (.t 104) (.t 107), none, true, []⟩]
def C3r15 : List AOper := [⟨some 111, .faddr (.t 10) 4, none, true, []⟩,
  ⟨some 112, .ld1 (.t 111), none, true, []⟩,
  ⟨some 113, .mv (.t 15), none, true, []⟩,
  ⟨some 114, .build [.c (.int .i64 0), .c (.int .i64 0), .c (.int .i64 0), .c (.int .i64 0), .c (.int .i64 0), .c (.int .i64 0), .c (.int .u64 0)] [(0, 1, (.k (.c (.int .i64 20))))], none, true, []⟩,
  ⟨some 115, .iaddr 7 (.t 112) (.t 113), none, true, []⟩,
  ⟨none, .stn 7 (.t 115) (.t 114), none, true, []⟩]
def C3r16 : List AOper := [⟨some 109, .mv (.t 15), none, true, []⟩,
  ⟨some 110, .bin .add (.t 109) (.k (.c (.int .i64 1))), none, true, []⟩,
  ⟨some 15, .mv (.t 110), none, true, []⟩]
def C3r17 : List AOper := [⟨some 16, .mv (.k (.c (.int .i64 0))), none, true, []⟩]
def C3r18 : List AOper := [⟨some 116, .mv (.t 16), none, true, []⟩,
  ⟨some 117, .faddr (.t 4) 4, none, true, []⟩,
  ⟨some 118, .ld1 (.t 117), none, true, []⟩,
  ⟨some 119, .len false (.t 118), none, true, []⟩,
  ⟨some 120, .bin .leq (.t 116) (.t 119), none, true, []⟩]
def C3r19 : List AOper := [⟨some 124, .mv (.t 11), none, true, []⟩,
  ⟨some 125, .call (.k (.c (.fn 11 [] []))) [(.t 124)], none, true, []⟩,
  ⟨some 123, .mv (.t 125), none, true, []⟩,
  ⟨some 126, .ext (.t 123) 0, none, true, []⟩,
  ⟨some 127, .ext (.t 123) 1, none, true, []⟩,
  ⟨some 17, .alloc 45 [.c (.int .i64 0), .c (.int .u64 0), .c (.int .u64 0), .c (.int .i64 0), .c (.bool false), .c (.int .i64 0), .c (.bool false), .c (.int .i64 0), .c (.int .i64 0), .c (.int .i64 0)], none, true, []⟩,
  ⟨none, .stn 10 (.t 17) (.t 126), none, true, []⟩,
  ⟨some 18, .mv (.t 127), none, true, []⟩]
def C3r20 : List AOper := [⟨some 129, .mv (.t 13), none, true, []⟩,
  ⟨some 130, .call (.k (.c (.fn 12 [] []))) [(.t 129)], none, true, []⟩,
  ⟨some 128, .mv (.t 130), none, true, []⟩,
  ⟨some 131, .ext (.t 128) 0, none, true, []⟩,
  ⟨some 132, .ext (.t 128) 1, none, true, []⟩,
  ⟨some 19, .alloc 45 [.c (.int .i64 0), .c (.int .u64 0), .c (.int .u64 0), .c (.int .i64 0), .c (.bool false), .c (.int .i64 0), .c (.bool false), .c (.int .i64 0), .c (.int .i64 0), .c (.int .i64 0)], none, true, []⟩,
  ⟨none, .stn 10 (.t 19) (.t 131), none, true, []⟩,
  ⟨some 20, .mv (.t 132), none, true, []⟩]
def C3r21 : List AOper := [⟨some 133, .mv (.t 16), none, true, []⟩,
  ⟨some 134, .mv (.t 3), none, true, []⟩,
  ⟨some 135, .len false (.t 134), none, true, []⟩,
  ⟨some 136, .bin .lss (.t 133) (.t 135), none, true, []⟩,
  ⟨some 137, .mv (.t 136), none, true, []⟩,
  ⟨some 138, .mv (.t 3), some (137, true), true, []⟩,
  ⟨some 139, .mv (.t 16), some (137, true), true, []⟩,
  ⟨some 140, .iaddr 1 (.t 138) (.t 139), some (137, true), true, []⟩,
  ⟨some 141, .ld1 (.t 140), some (137, true), true, []⟩,
  ⟨some 142, .pick 137 (.t 141) (.k (.c (.bool false))), none, true, []⟩]
def C3r22 : List AOper := [⟨some 144, .mv (.t 11), none, true, []⟩,
  ⟨some 145, .call (.k (.c (.fn 11 [] []))) [(.t 144)], none, true, []⟩,
  ⟨some 143, .mv (.t 145), none, true, []⟩,
  ⟨some 146, .ext (.t 143) 0, none, true, []⟩,
  ⟨some 147, .ext (.t 143) 1, none, true, []⟩,
  ⟨some 21, .alloc 45 [.c (.int .i64 0), .c (.int .u64 0), .c (.int .u64 0), .c (.int .i64 0), .c (.bool false), .c (.int .i64 0), .c (.bool false), .c (.int .i64 0), .c (.int .i64 0), .c (.int .i64 0)], none, true, []⟩,
  ⟨none, .stn 10 (.t 21) (.t 146), none, true, []⟩,
  ⟨some 22, .mv (.t 147), none, true, []⟩]
def C3r23 : List AOper := [⟨some 148, .ldn 10 (.t 21), none, true, []⟩,
  ⟨some 149, .ldn 10 (.t 17), none, true, []⟩,
  ⟨some 150, .eqS true [.one true, .one true, .one true, .one true, .one false, .one true, .one false, .one true, .one true, .one true] (.t 148) (.t 149), none, true, []⟩,
  ⟨some 151, .mv (.t 150), none, true, []⟩,
  ⟨some 152, .mv (.t 22), some (151, false), true, []⟩,
  ⟨some 153, .mv (.t 18), some (151, false), true, []⟩,
  ⟨some 154, .eqB true (.t 152) (.t 153), some (151, false), true, []⟩,
  ⟨some 155, .pick 151 (.k (.c (.bool true))) (.t 154), none, true, []⟩]
def C3r24 : List AOper := [⟨some 8, .mv (.k (.c (.bool false))), none, true, []⟩]
def C3r25 : List AOper := [⟨some 156, .mv (.t 18), none, false, []⟩,
  ⟨some 157, .mv (.t 20), none, false, []⟩,
  ⟨some 158, .eqB true (.t 156) (.t 157), none, true, []⟩,
  ⟨some 159, .mv (.t 158), none, true, []⟩,
  ⟨some 160, .ldn 10 (.t 17), some (159, false), false, []⟩,
  ⟨some 161, .ldn 10 (.t 19), some (159, false), false, []⟩,
  ⟨some 162, .eqS true [.one true, .one true, .one true, .one true, .one false, .one true, .one false, .one true, .one true, .one true] (.t 160) (.t 161), some (159, false), true, []⟩,
  ⟨some 163, .pick 159 (.k (.c (.bool true))) (.t 162), none, true, []⟩,
  ⟨some 164, .mv (.t 163), none, true, []⟩,
  ⟨some 165, .mv (.t 11), some (164, false), false, []⟩,
  ⟨some 166, .call (.k (.c (.fn 8 [] []))) [(.t 165)], some (164, false), false, []⟩,
  ⟨some 167, .mv (.t 13), some (164, false), false, []⟩,
  ⟨some 168, .nilchk (.t 167), some (164, false), false, []⟩,
  ⟨some 169, .faddr (.t 168) 5, some (164, false), false, []⟩,
  ⟨some 170, .ldn 49 (.t 169), some (164, false), false, []⟩,
  ⟨some 171, .eqS true [.arr 31 true, .arr 2 true, .one true, .one false, .one false, .one false, .one false, .one true, .one false, .one true, .one true, .one true, .one true, .one true, .one true, .one true, .one true, .one false] (.t 166) (.t 170), some (164, false), true, []⟩,
  ⟨some 172, .pick 164 (.k (.c (.bool true))) (.t 171), none, true, []⟩,
  ⟨some 173, .mv (.t 172), none, true, []⟩,
  ⟨some 174, .mv (.t 11), some (173, false), false, []⟩,
  ⟨some 175, .call (.k (.c (.fn 9 [] []))) [(.t 174)], some (173, false), false, []⟩,
  ⟨some 176, .mv (.t 13), some (173, false), false, []⟩,
  ⟨some 177, .nilchk (.t 176), some (173, false), false, []⟩,
  ⟨some 178, .faddr (.t 177) 79, some (173, false), false, []⟩,
  ⟨some 179, .ld1 (.t 178), some (173, false), false, []⟩,
  ⟨some 180, .bin .neq (.t 175) (.t 179), some (173, false), true, []⟩,
  ⟨some 181, .pick 173 (.k (.c (.bool true))) (.t 180), none, true, []⟩]
def C3r26 : List AOper := [⟨some 8, .mv (.k (.c (.bool false))), none, true, []⟩]
def C3r27 : List AOper := [⟨some 182, .mv (.t 18), none, true, []⟩,
  ⟨some 183, .un .not (.t 182), none, true, []⟩]
def C3r28 : List AOper := [⟨some 185, .mv (.t 11), none, true, []⟩,
  ⟨some 186, .call (.k (.c (.fn 13 [] []))) [(.t 185)], none, true, []⟩,
  ⟨some 184, .mv (.t 186), none, true, []⟩,
  ⟨some 187, .ext (.t 184) 0, none, true, []⟩,
  ⟨some 188, .ext (.t 184) 1, none, true, []⟩,
  ⟨some 23, .mv (.t 187), none, true, []⟩,
  ⟨some 24, .mv (.t 188), none, true, []⟩]
def C3r29 : List AOper := [⟨some 189, .mv (.t 24), none, false, []⟩,
  ⟨some 190, .mv (.t 13), none, false, []⟩,
  ⟨some 191, .nilchk (.t 190), none, false, []⟩,
  ⟨some 192, .faddr (.t 191) 78, none, false, []⟩,
  ⟨some 193, .ld1 (.t 192), none, false, []⟩,
  ⟨some 194, .eqB false (.t 189) (.t 193), none, true, []⟩,
  ⟨some 195, .mv (.t 194), none, true, []⟩,
  ⟨some 196, .mv (.t 23), some (195, true), false, []⟩,
  ⟨some 197, .conv .u64 (.t 196), some (195, true), false, []⟩,
  ⟨some 198, .mv (.t 13), some (195, true), false, []⟩,
  ⟨some 199, .nilchk (.t 198), some (195, true), false, []⟩,
  ⟨some 200, .faddr (.t 199) 77, some (195, true), false, []⟩,
  ⟨some 201, .ld1 (.t 200), some (195, true), false, []⟩,
  ⟨some 202, .bin .eql (.t 197) (.t 201), some (195, true), true, []⟩,
  ⟨some 203, .pick 195 (.t 202) (.k (.c (.bool false))), none, true, []⟩,
  ⟨some 204, .mv (.t 203), none, true, []⟩,
  ⟨some 205, .mv (.t 11), some (204, true), false, []⟩,
  ⟨some 206, .call (.k (.c (.fn 10 [] []))) [(.t 205)], some (204, true), false, []⟩,
  ⟨some 207, .mv (.t 13), some (204, true), false, []⟩,
  ⟨some 208, .nilchk (.t 207), some (204, true), false, []⟩,
  ⟨some 209, .faddr (.t 208) 76, some (204, true), false, []⟩,
  ⟨some 210, .ld1 (.t 209), some (204, true), false, []⟩,
  ⟨some 211, .eqB false (.t 206) (.t 210), some (204, true), true, []⟩,
  ⟨some 212, .pick 204 (.t 211) (.k (.c (.bool false))), none, true, []⟩,
  ⟨some 213, .mv (.t 212), none, true, []⟩,
  ⟨some 214, .mv (.t 11), some (213, true), false, []⟩,
  ⟨some 215, .build [.c (.int .u64 0), .c (.bool false), .c (.int .i64 0)] [], some (213, true), false, []⟩,
  ⟨some 216, .call (.k (.c (.fn 14 [] []))) [(.t 214), (.t 215)], some (213, true), true, []⟩,
  ⟨some 217, .bin .eql (.t 216) (.k (.c (.int .i64 1))), some (213, true), true, []⟩,
  ⟨some 218, .pick 213 (.t 217) (.k (.c (.bool false))), none, true, []⟩,
  ⟨some 8, .mv (.t 218), none, true, []⟩]
def C3r30 : List AOper := [⟨some 219, .build [.c (.int .u64 0), .c (.bool false), .c (.int .i64 0)] [], none, true, []⟩,
  ⟨some 25, .alloc 57 [.c (.int .u64 0), .c (.bool false), .c (.int .i64 0)], none, true, []⟩,
  ⟨none, .stn 3 (.t 25) (.t 219), none, true, []⟩]
def C3r31 : List AOper := [⟨some 220, .mv (.t 16), none, true, []⟩,
  ⟨some 221, .mv (.t 2), none, true, []⟩,
  ⟨some 222, .len false (.t 221), none, true, []⟩,
  ⟨some 223, .bin .lss (.t 220) (.t 222), none, true, []⟩]
def C3r32 : List AOper := [⟨some 224, .mv (.t 2), none, true, []⟩,
  ⟨some 225, .mv (.t 16), none, true, []⟩,
  ⟨some 226, .iaddr 3 (.t 224) (.t 225), none, true, []⟩,
  ⟨some 227, .ldn 3 (.t 226), none, true, []⟩,
  ⟨none, .stn 3 (.t 25) (.t 227), none, true, []⟩]
def C3r33 : List AOper := [⟨some 228, .mv (.t 13), none, true, []⟩,
  ⟨some 229, .ldn 3 (.t 25), none, true, []⟩,
  ⟨some 230, .call (.k (.c (.fn 15 [] []))) [(.t 228), (.t 229)], none, true, []⟩]
def C3r34 : List AOper := [⟨some 232, .mv (.t 11), none, true, []⟩,
  ⟨some 233, .call (.k (.c (.fn 13 [] []))) [(.t 232)], none, true, []⟩,
  ⟨some 231, .mv (.t 233), none, true, []⟩,
  ⟨some 234, .ext (.t 231) 0, none, true, []⟩,
  ⟨some 235, .ext (.t 231) 1, none, true, []⟩,
  ⟨some 26, .mv (.t 234), none, true, []⟩,
  ⟨some 27, .mv (.t 235), none, true, []⟩]
def C3r35 : List AOper := [⟨some 236, .mv (.t 27), none, true, []⟩,
  ⟨some 237, .mv (.t 236), none, true, []⟩,
  ⟨some 238, .mv (.t 11), some (237, false), false, []⟩,
  ⟨some 239, .ldn 3 (.t 25), some (237, false), false, []⟩,
  ⟨some 240, .call (.k (.c (.fn 14 [] []))) [(.t 238), (.t 239)], some (237, false), true, []⟩,
  ⟨some 241, .bin .neq (.t 240) (.k (.c (.int .i64 0))), some (237, false), true, []⟩,
  ⟨some 242, .pick 237 (.k (.c (.bool true))) (.t 241), none, true, []⟩,
  ⟨some 243, .mv (.t 242), none, true, []⟩,
  ⟨some 244, .mv (.t 11), some (243, false), false, []⟩,
  ⟨some 245, .call (.k (.c (.fn 9 [] []))) [(.t 244)], some (243, false), false, []⟩,
  ⟨some 246, .mv (.t 13), some (243, false), false, []⟩,
  ⟨some 247, .nilchk (.t 246), some (243, false), false, []⟩,
  ⟨some 248, .faddr (.t 247) 79, some (243, false), false, []⟩,
  ⟨some 249, .ld1 (.t 248), some (243, false), false, []⟩,
  ⟨some 250, .bin .neq (.t 245) (.t 249), some (243, false), true, []⟩,
  ⟨some 251, .pick 243 (.k (.c (.bool true))) (.t 250), none, true, []⟩,
  ⟨some 252, .mv (.t 251), none, true, []⟩,
  ⟨some 253, .mv (.t 11), some (252, false), false, []⟩,
  ⟨some 254, .call (.k (.c (.fn 10 [] []))) [(.t 253)], some (252, false), false, []⟩,
  ⟨some 255, .mv (.t 13), some (252, false), false, []⟩,
  ⟨some 256, .nilchk (.t 255), some (252, false), false, []⟩,
  ⟨some 257, .faddr (.t 256) 76, some (252, false), false, []⟩,
  ⟨some 258, .ld1 (.t 257), some (252, false), false, []⟩,
  ⟨some 259, .eqB true (.t 254) (.t 258), some (252, false), true, []⟩,
  ⟨some 260, .pick 252 (.k (.c (.bool true))) (.t 259), none, true, []⟩]
def C3r36 : List AOper := [⟨some 8, .mv (.k (.c (.bool false))), none, true, []⟩]
def C3r37 : List AOper := [⟨some 121, .mv (.t 16), none, true, []⟩,
  ⟨some 122, .bin .add (.t 121) (.k (.c (.int .i64 1))), none, true, []⟩,
  ⟨some 16, .mv (.t 122), none, true, []⟩]
def C3r38 : List AOper := [⟨some 8, .mv (.k (.c (.bool false))), none, true, []⟩]
def C3 : ACode :=
  .seq (.region C3r0)
  (.seq (.region C3r1)
  (.seq (.region C3r2)
  (.seq (.region C3r3)
  (.seq (.region C3r4)
  (.seq (.region C3r5)
  (.seq (.region C3r6)
  (.seq (.region C3r7)
  (.seq (.region C3r8)
  (.seq (.seq (.region C3r9)
  (.cond (.t 68)
   (.seq (.region C3r10)
   (.ret))
   (.skip)))
  (.seq (.seq (.region C3r11)
  (.cond (.t 103)
   (.seq (.region C3r12)
   (.ret))
   (.skip)))
  (.seq (.seq (.region C3r13)
  (.block 0
   (.loop
    (.seq (.seq (.region C3r14)
    (.cond (.t 108)
     (.skip)
     (.exit 0)))
    (.seq (.block 1
     (.region C3r15))
    (.region C3r16))))))
  (.seq (.seq (.region C3r17)
  (.block 2
   (.loop
    (.seq (.seq (.region C3r18)
    (.cond (.t 120)
     (.skip)
     (.exit 2)))
    (.seq (.block 3
     (.seq (.region C3r19)
     (.seq (.region C3r20)
     (.seq (.seq (.region C3r21)
     (.cond (.t 142)
      (.seq (.region C3r22)
      (.seq (.region C3r23)
      (.cond (.t 155)
       (.seq (.region C3r24)
       (.ret))
       (.skip))))
      (.skip)))
     (.seq (.seq (.region C3r25)
     (.cond (.t 181)
      (.seq (.region C3r26)
      (.ret))
      (.skip)))
     (.seq (.seq (.region C3r27)
     (.cond (.t 183)
      (.seq (.region C3r28)
      (.seq (.region C3r29)
      (.ret)))
      (.skip)))
     (.seq (.region C3r30)
     (.seq (.seq (.region C3r31)
     (.cond (.t 223)
      (.region C3r32)
      (.skip)))
     (.seq (.region C3r33)
     (.seq (.region C3r34)
     (.seq (.region C3r35)
     (.cond (.t 260)
      (.seq (.region C3r36)
      (.ret))
      (.skip)))))))))))))
    (.region C3r37))))))
  (.seq (.region C3r38)
  (.ret))))))))))))))
theorem C3_ok : stripF Try.prog Try.f3 = some C3 := by kernel_rfl
/-! understudy/understudylaw22.MicroEnds -/
def C4r0 : List AOper := [⟨some 3, .box 25 (.t 0), none, true, []⟩,
  ⟨some 4, .box 29 (.t 1), none, true, []⟩,
  ⟨some 6, .mv (.k (.c (.bool false))), none, true, []⟩]
def C4r1 : List AOper := [⟨some 18, .call (.k (.c (.fn 5 [] []))) [], none, true, []⟩,
  ⟨some 7, .mv (.t 18), none, true, []⟩]
def C4r2 : List AOper := [⟨some 20, .ldn 5 (.t 3), none, true, []⟩,
  ⟨some 21, .ldn 49 (.t 4), none, true, []⟩,
  ⟨some 22, .call (.k (.c (.fn 6 [] []))) [(.t 20), (.t 21)], none, true, []⟩,
  ⟨some 19, .mv (.t 22), none, true, []⟩,
  ⟨some 23, .ext (.t 19) 0, none, true, []⟩,
  ⟨some 24, .ext (.t 19) 1, none, true, []⟩,
  ⟨some 8, .mv (.t 23), none, true, []⟩,
  ⟨some 9, .mv (.t 24), none, true, []⟩]
def C4r3 : List AOper := [⟨some 25, .mv (.t 9), none, true, []⟩,
  ⟨some 26, .bin .neq (.t 25) (.k (.c (.int .i64 0))), none, true, []⟩]
def C4r4 : List AOper := [⟨some 27, .mv (.t 7), none, true, []⟩,
  ⟨some 28, .mv (.t 27), none, true, []⟩,
  ⟨some 29, .mv (.t 8), some (28, true), true, []⟩,
  ⟨some 30, .nilq .ptr false (.t 29) (.k (.c (.nilp))), some (28, true), true, []⟩,
  ⟨some 31, .pick 28 (.t 30) (.k (.c (.bool false))), none, true, []⟩,
  ⟨some 6, .mv (.t 31), none, true, []⟩]
def C4r5 : List AOper := [⟨some 10, .mv (.k (.c (.int .i64 0))), none, true, []⟩]
def C4r6 : List AOper := [⟨some 11, .mv (.k (.c (.int .i64 0))), none, true, []⟩]
def C4r7 : List AOper := [⟨some 32, .mv (.t 11), none, true, []⟩,
  ⟨some 33, .faddr (.t 3) 4, none, true, []⟩,
  ⟨some 34, .ld1 (.t 33), none, true, []⟩,
  ⟨some 35, .len false (.t 34), none, true, []⟩,
  ⟨some 36, .bin .leq (.t 32) (.t 35), none, true, []⟩]
def C4r8 : List AOper := [⟨some 40, .mv (.t 8), none, true, []⟩,
  ⟨some 41, .call (.k (.c (.fn 11 [] []))) [(.t 40)], none, true, []⟩,
  ⟨some 39, .mv (.t 41), none, true, []⟩,
  ⟨some 42, .ext (.t 39) 0, none, true, []⟩,
  ⟨some 43, .ext (.t 39) 1, none, true, []⟩,
  ⟨some 12, .alloc 45 [.c (.int .i64 0), .c (.int .u64 0), .c (.int .u64 0), .c (.int .i64 0), .c (.bool false), .c (.int .i64 0), .c (.bool false), .c (.int .i64 0), .c (.int .i64 0), .c (.int .i64 0)], none, true, []⟩,
  ⟨none, .stn 10 (.t 12) (.t 42), none, true, []⟩,
  ⟨some 13, .mv (.t 43), none, true, []⟩]
def C4r9 : List AOper := [⟨some 44, .mv (.t 8), none, false, []⟩,
  ⟨some 45, .call (.k (.c (.fn 9 [] []))) [(.t 44)], none, false, []⟩,
  ⟨some 46, .faddr (.t 3) 4, none, false, []⟩,
  ⟨some 47, .ld1 (.t 46), none, false, []⟩,
  ⟨some 48, .len false (.t 47), none, false, []⟩,
  ⟨some 49, .bin .gtr (.t 45) (.t 48), none, true, []⟩]
def C4r10 : List AOper := [⟨some 6, .mv (.k (.c (.bool false))), none, true, []⟩]
def C4r11 : List AOper := [⟨some 50, .mv (.t 13), none, true, []⟩,
  ⟨some 51, .un .not (.t 50), none, true, []⟩]
def C4r12 : List AOper := [⟨some 53, .mv (.t 8), none, true, []⟩,
  ⟨some 54, .call (.k (.c (.fn 13 [] []))) [(.t 53)], none, true, []⟩,
  ⟨some 52, .mv (.t 54), none, true, []⟩,
  ⟨some 55, .ext (.t 52) 0, none, true, []⟩,
  ⟨some 56, .ext (.t 52) 1, none, true, []⟩,
  ⟨some 14, .mv (.t 55), none, true, []⟩,
  ⟨some 15, .mv (.t 56), none, true, []⟩]
def C4r13 : List AOper := [⟨some 57, .mv (.t 7), none, true, []⟩,
  ⟨some 58, .mv (.t 57), none, true, []⟩,
  ⟨some 59, .mv (.t 10), some (58, true), true, []⟩,
  ⟨some 60, .faddr (.t 3) 4, some (58, true), true, []⟩,
  ⟨some 61, .ld1 (.t 60), some (58, true), true, []⟩,
  ⟨some 62, .len false (.t 61), some (58, true), true, []⟩,
  ⟨some 63, .bin .leq (.t 59) (.t 62), some (58, true), true, []⟩,
  ⟨some 64, .pick 58 (.t 63) (.k (.c (.bool false))), none, true, []⟩,
  ⟨some 65, .mv (.t 64), none, true, []⟩,
  ⟨some 66, .mv (.t 15), some (65, true), true, []⟩,
  ⟨some 67, .mv (.t 66), some (65, true), true, []⟩,
  ⟨some 68, .mv (.t 8), some (67, true), true, []⟩,
  ⟨some 69, .call (.k (.c (.fn 10 [] []))) [(.t 68)], some (67, true), true, []⟩,
  ⟨some 70, .pick 67 (.t 69) (.k (.c (.bool false))), some (65, true), true, []⟩,
  ⟨some 71, .un .not (.t 70), some (65, true), true, []⟩,
  ⟨some 72, .pick 65 (.t 71) (.k (.c (.bool false))), none, true, []⟩,
  ⟨some 73, .mv (.t 72), none, true, []⟩,
  ⟨some 74, .mv (.t 8), some (73, true), true, []⟩,
  ⟨some 75, .call (.k (.c (.fn 9 [] []))) [(.t 74)], some (73, true), true, []⟩,
  ⟨some 76, .bin .geq (.t 75) (.k (.c (.int .i64 1))), some (73, true), true, []⟩,
  ⟨some 77, .pick 73 (.t 76) (.k (.c (.bool false))), none, true, []⟩,
  ⟨some 6, .mv (.t 77), none, true, []⟩]
def C4r14 : List AOper := [⟨some 78, .faddr (.t 12) 0, none, true, []⟩,
  ⟨some 79, .ld1 (.t 78), none, true, []⟩,
  ⟨some 80, .bin .eql (.t 79) (.k (.c (.int .i64 1))), none, true, []⟩,
  ⟨some 81, .mv (.t 80), none, true, []⟩,
  ⟨some 82, .faddr (.t 12) 0, some (81, false), true, []⟩,
  ⟨some 83, .ld1 (.t 82), some (81, false), true, []⟩,
  ⟨some 84, .bin .eql (.t 83) (.k (.c (.int .i64 3))), some (81, false), true, []⟩,
  ⟨some 85, .pick 81 (.k (.c (.bool true))) (.t 84), none, true, []⟩,
  ⟨some 86, .mv (.t 85), none, true, []⟩,
  ⟨some 87, .faddr (.t 12) 0, some (86, false), true, []⟩,
  ⟨some 88, .ld1 (.t 87), some (86, false), true, []⟩,
  ⟨some 89, .bin .eql (.t 88) (.k (.c (.int .i64 2))), some (86, false), true, []⟩,
  ⟨some 90, .pick 86 (.k (.c (.bool true))) (.t 89), none, true, []⟩,
  ⟨some 91, .mv (.t 90), none, true, []⟩,
  ⟨some 92, .faddr (.t 12) 0, some (91, false), true, []⟩,
  ⟨some 93, .ld1 (.t 92), some (91, false), true, []⟩,
  ⟨some 94, .bin .eql (.t 93) (.k (.c (.int .i64 4))), some (91, false), true, []⟩,
  ⟨some 95, .pick 91 (.k (.c (.bool true))) (.t 94), none, true, []⟩,
  ⟨some 16, .mv (.t 95), none, true, []⟩]
def C4r15 : List AOper := [⟨some 96, .mv (.t 16), none, true, []⟩,
  ⟨some 97, .mv (.t 96), none, true, []⟩,
  ⟨some 98, .faddr (.t 12) 1, some (97, true), true, []⟩,
  ⟨some 99, .ld1 (.t 98), some (97, true), true, []⟩,
  ⟨some 100, .bin .rem (.t 99) (.k (.c (.int .u64 8))), some (97, true), true, []⟩,
  ⟨some 101, .bin .neq (.t 100) (.k (.c (.int .u64 0))), some (97, true), true, []⟩,
  ⟨some 102, .pick 97 (.t 101) (.k (.c (.bool false))), none, true, []⟩,
  ⟨some 103, .mv (.t 102), none, true, []⟩,
  ⟨some 104, .mv (.t 16), some (103, false), true, []⟩,
  ⟨some 105, .un .not (.t 104), some (103, false), true, []⟩,
  ⟨some 106, .mv (.t 105), some (103, false), true, []⟩,
  ⟨some 107, .faddr (.t 12) 0, some (106, true), true, []⟩,
  ⟨some 108, .ld1 (.t 107), some (106, true), true, []⟩,
  ⟨some 109, .bin .neq (.t 108) (.k (.c (.int .i64 16))), some (106, true), true, []⟩,
  ⟨some 110, .pick 106 (.t 109) (.k (.c (.bool false))), some (103, false), true, []⟩,
  ⟨some 111, .mv (.t 110), some (103, false), true, []⟩,
  ⟨some 112, .faddr (.t 12) 0, some (111, true), true, []⟩,
  ⟨some 113, .ld1 (.t 112), some (111, true), true, []⟩,
  ⟨some 114, .bin .neq (.t 113) (.k (.c (.int .i64 6))), some (111, true), true, []⟩,
  ⟨some 115, .pick 111 (.t 114) (.k (.c (.bool false))), some (103, false), true, []⟩,
  ⟨some 116, .pick 103 (.k (.c (.bool true))) (.t 115), none, true, []⟩]
def C4r16 : List AOper := [⟨some 6, .mv (.k (.c (.bool false))), none, true, []⟩]
def C4r17 : List AOper := [⟨some 117, .mv (.t 10), none, true, []⟩,
  ⟨some 118, .bin .add (.t 117) (.k (.c (.int .i64 1))), none, true, []⟩,
  ⟨some 10, .mv (.t 118), none, true, []⟩]
def C4r18 : List AOper := [⟨some 119, .build [.c (.int .u64 0), .c (.bool false), .c (.int .i64 0)] [], none, true, []⟩,
  ⟨some 17, .alloc 57 [.c (.int .u64 0), .c (.bool false), .c (.int .i64 0)], none, true, []⟩,
  ⟨none, .stn 3 (.t 17) (.t 119), none, true, []⟩]
def C4r19 : List AOper := [⟨some 120, .mv (.t 11), none, true, []⟩,
  ⟨some 121, .mv (.t 2), none, true, []⟩,
  ⟨some 122, .len false (.t 121), none, true, []⟩,
  ⟨some 123, .bin .lss (.t 120) (.t 122), none, true, []⟩]
def C4r20 : List AOper := [⟨some 124, .mv (.t 2), none, true, []⟩,
  ⟨some 125, .mv (.t 11), none, true, []⟩,
  ⟨some 126, .iaddr 3 (.t 124) (.t 125), none, true, []⟩,
  ⟨some 127, .ldn 3 (.t 126), none, true, []⟩,
  ⟨none, .stn 3 (.t 17) (.t 127), none, true, []⟩]
def C4r21 : List AOper := [⟨some 128, .mv (.t 8), none, true, []⟩,
  ⟨some 129, .ldn 3 (.t 17), none, true, []⟩,
  ⟨some 130, .call (.k (.c (.fn 14 [] []))) [(.t 128), (.t 129)], none, true, []⟩,
  ⟨some 131, .bin .neq (.t 130) (.k (.c (.int .i64 0))), none, true, []⟩]
def C4r22 : List AOper := [⟨some 6, .mv (.k (.c (.bool false))), none, true, []⟩]
def C4r23 : List AOper := [⟨some 37, .mv (.t 11), none, true, []⟩,
  ⟨some 38, .bin .add (.t 37) (.k (.c (.int .i64 1))), none, true, []⟩,
  ⟨some 11, .mv (.t 38), none, true, []⟩]
def C4r24 : List AOper := [⟨some 6, .mv (.k (.c (.bool false))), none, true, []⟩]
def C4 : ACode :=
  .seq (.region C4r0)
  (.seq (.region C4r1)
  (.seq (.region C4r2)
  (.seq (.seq (.region C4r3)
  (.cond (.t 26)
   (.seq (.region C4r4)
   (.ret))
   (.skip)))
  (.seq (.region C4r5)
  (.seq (.seq (.region C4r6)
  (.block 0
   (.loop
    (.seq (.seq (.region C4r7)
    (.cond (.t 36)
     (.skip)
     (.exit 0)))
    (.seq (.block 1
     (.seq (.region C4r8)
     (.seq (.seq (.region C4r9)
     (.cond (.t 49)
      (.seq (.region C4r10)
      (.ret))
      (.skip)))
     (.seq (.seq (.region C4r11)
     (.cond (.t 51)
      (.seq (.region C4r12)
      (.seq (.region C4r13)
      (.ret)))
      (.skip)))
     (.seq (.region C4r14)
     (.seq (.seq (.region C4r15)
     (.cond (.t 116)
      (.seq (.region C4r16)
      (.ret))
      (.skip)))
     (.seq (.region C4r17)
     (.seq (.region C4r18)
     (.seq (.seq (.region C4r19)
     (.cond (.t 123)
      (.region C4r20)
      (.skip)))
     (.seq (.region C4r21)
     (.cond (.t 131)
      (.seq (.region C4r22)
      (.ret))
      (.skip))))))))))))
    (.region C4r23))))))
  (.seq (.region C4r24)
  (.ret)))))))
theorem C4_ok : stripF Try.prog Try.f4 = some C4 := by kernel_rfl
/-! understudy/understudylaw22.known -/
def C5r0 : List AOper := [⟨some 0, .mv (.k (.c (.bool false))), none, true, []⟩]
def C5r1 : List AOper := [⟨some 18, .build [.a 31 (fun _ => .int .u64 0), .a 2 (fun _ => .int .u64 0), .c (.int .u64 0), .c (.bool false), .c (.bool false), .c (.bool false), .c (.bool false), .c (.int .i64 0), .c (.bool false), .c (.int .u64 0), .c (.int .u64 0), .c (.int .u64 0), .c (.int .u64 0), .c (.int .u64 0), .c (.int .u64 0), .c (.int .i64 0), .c (.int .i64 0), .c (.bool false)] [(38, 1, (.k (.c (.int .i64 1)))), (33, 1, (.k (.c (.int .u64 64))))], none, true, []⟩,
  ⟨some 1, .alloc 29 [.a 31 (fun _ => .int .u64 0), .a 2 (fun _ => .int .u64 0), .c (.int .u64 0), .c (.bool false), .c (.bool false), .c (.bool false), .c (.bool false), .c (.int .i64 0), .c (.bool false), .c (.int .u64 0), .c (.int .u64 0), .c (.int .u64 0), .c (.int .u64 0), .c (.int .u64 0), .c (.int .u64 0), .c (.int .i64 0), .c (.int .i64 0), .c (.bool false)], none, true, []⟩,
  ⟨none, .stn 49 (.t 1) (.t 18), none, true, []⟩]
def C5r2 : List AOper := [⟨some 19, .faddr (.t 1) 0, none, true, []⟩,
  ⟨some 20, .iaddrA 31 (.t 19) (.k (.c (.int .i64 1))), none, true, []⟩,
  ⟨none, .st1 (.t 20) (.k (.c (.int .u64 8))), none, true, []⟩]
def C5r3 : List AOper := [⟨some 22, .call (.k (.c (.fn 16 [] []))) [], none, false, []⟩,
  ⟨some 23, .ldn 49 (.t 1), none, false, []⟩,
  ⟨some 24, .call (.k (.c (.fn 6 [] []))) [(.t 22), (.t 23)], none, true, []⟩,
  ⟨some 21, .mv (.t 24), none, true, []⟩,
  ⟨some 25, .ext (.t 21) 0, none, false, []⟩,
  ⟨some 26, .ext (.t 21) 1, none, false, []⟩,
  ⟨some 2, .mv (.t 25), none, false, []⟩,
  ⟨some 3, .mv (.t 26), none, true, []⟩]
def C5r4 : List AOper := [⟨some 27, .mv (.t 2), none, true, []⟩,
  ⟨some 28, .nilq .ptr false (.t 27) (.k (.c (.nilp))), none, true, []⟩,
  ⟨some 29, .mv (.t 28), none, true, []⟩,
  ⟨some 30, .mv (.t 3), some (29, false), true, []⟩,
  ⟨some 31, .bin .neq (.t 30) (.k (.c (.int .i64 0))), some (29, false), true, []⟩,
  ⟨some 32, .pick 29 (.k (.c (.bool true))) (.t 31), none, true, []⟩]
def C5r5 : List AOper := [⟨some 0, .mv (.k (.c (.bool false))), none, true, []⟩]
def C5r6 : List AOper := [⟨some 34, .mv (.t 2), none, true, []⟩,
  ⟨some 35, .call (.k (.c (.fn 11 [] []))) [(.t 34)], none, true, []⟩,
  ⟨some 33, .mv (.t 35), none, true, []⟩,
  ⟨some 36, .ext (.t 33) 0, none, true, []⟩,
  ⟨some 37, .ext (.t 33) 1, none, true, []⟩,
  ⟨some 4, .alloc 45 [.c (.int .i64 0), .c (.int .u64 0), .c (.int .u64 0), .c (.int .i64 0), .c (.bool false), .c (.int .i64 0), .c (.bool false), .c (.int .i64 0), .c (.int .i64 0), .c (.int .i64 0)], none, true, []⟩,
  ⟨none, .stn 10 (.t 4) (.t 36), none, true, []⟩,
  ⟨some 5, .mv (.t 37), none, true, []⟩]
def C5r7 : List AOper := [⟨some 39, .mv (.t 2), none, true, []⟩,
  ⟨some 40, .call (.k (.c (.fn 11 [] []))) [(.t 39)], none, true, []⟩,
  ⟨some 38, .mv (.t 40), none, true, []⟩,
  ⟨some 41, .ext (.t 38) 0, none, true, []⟩,
  ⟨some 42, .ext (.t 38) 1, none, true, []⟩,
  ⟨some 6, .alloc 45 [.c (.int .i64 0), .c (.int .u64 0), .c (.int .u64 0), .c (.int .i64 0), .c (.bool false), .c (.int .i64 0), .c (.bool false), .c (.int .i64 0), .c (.int .i64 0), .c (.int .i64 0)], none, true, []⟩,
  ⟨none, .stn 10 (.t 6) (.t 41), none, true, []⟩,
  ⟨some 7, .mv (.t 42), none, true, []⟩]
def C5r8 : List AOper := [⟨some 43, .mv (.t 2), none, true, []⟩,
  ⟨some 44, .call (.k (.c (.fn 9 [] []))) [(.t 43)], none, true, []⟩,
  ⟨some 8, .mv (.t 44), none, true, []⟩]
def C5r9 : List AOper := [⟨some 45, .mv (.t 2), none, true, []⟩,
  ⟨some 46, .build [.c (.int .u64 0), .c (.bool false), .c (.int .i64 0)] [(0, 1, (.k (.c (.int .u64 5))))], none, true, []⟩,
  ⟨some 47, .call (.k (.c (.fn 14 [] []))) [(.t 45), (.t 46)], none, true, []⟩,
  ⟨some 9, .mv (.t 47), none, true, []⟩]
def C5r10 : List AOper := [⟨some 49, .mv (.t 2), none, true, []⟩,
  ⟨some 50, .call (.k (.c (.fn 11 [] []))) [(.t 49)], none, true, []⟩,
  ⟨some 48, .mv (.t 50), none, true, []⟩,
  ⟨some 51, .ext (.t 48) 0, none, true, []⟩,
  ⟨some 52, .ext (.t 48) 1, none, true, []⟩,
  ⟨some 10, .alloc 45 [.c (.int .i64 0), .c (.int .u64 0), .c (.int .u64 0), .c (.int .i64 0), .c (.bool false), .c (.int .i64 0), .c (.bool false), .c (.int .i64 0), .c (.int .i64 0), .c (.int .i64 0)], none, true, []⟩,
  ⟨none, .stn 10 (.t 10) (.t 51), none, true, []⟩,
  ⟨some 11, .mv (.t 52), none, true, []⟩]
def C5r11 : List AOper := [⟨some 53, .mv (.t 2), none, true, []⟩,
  ⟨some 54, .call (.k (.c (.fn 8 [] []))) [(.t 53)], none, true, []⟩,
  ⟨some 12, .alloc 29 [.a 31 (fun _ => .int .u64 0), .a 2 (fun _ => .int .u64 0), .c (.int .u64 0), .c (.bool false), .c (.bool false), .c (.bool false), .c (.bool false), .c (.int .i64 0), .c (.bool false), .c (.int .u64 0), .c (.int .u64 0), .c (.int .u64 0), .c (.int .u64 0), .c (.int .u64 0), .c (.int .u64 0), .c (.int .i64 0), .c (.int .i64 0), .c (.bool false)], none, true, []⟩,
  ⟨none, .stn 49 (.t 12) (.t 54), none, true, []⟩]
def C5r12 : List AOper := [⟨some 55, .mv (.t 2), none, true, []⟩,
  ⟨some 56, .build [.c (.int .u64 0), .c (.bool false), .c (.int .i64 0)] [], none, true, []⟩,
  ⟨some 57, .call (.k (.c (.fn 14 [] []))) [(.t 55), (.t 56)], none, true, []⟩,
  ⟨some 13, .mv (.t 57), none, true, []⟩]
def C5r13 : List AOper := [⟨some 58, .faddr (.t 1) 0, none, true, []⟩,
  ⟨some 59, .iaddrA 31 (.t 58) (.k (.c (.int .i64 1))), none, true, []⟩,
  ⟨none, .st1 (.t 59) (.k (.c (.int .u64 9))), none, true, []⟩]
def C5r14 : List AOper := [⟨some 61, .call (.k (.c (.fn 16 [] []))) [], none, false, []⟩,
  ⟨some 62, .ldn 49 (.t 1), none, false, []⟩,
  ⟨some 63, .call (.k (.c (.fn 6 [] []))) [(.t 61), (.t 62)], none, true, []⟩,
  ⟨some 60, .mv (.t 63), none, true, []⟩,
  ⟨some 64, .ext (.t 60) 0, none, false, []⟩,
  ⟨some 65, .ext (.t 60) 1, none, false, []⟩,
  ⟨some 14, .mv (.t 64), none, false, []⟩,
  ⟨some 15, .mv (.t 65), none, true, []⟩]
def C5r15 : List AOper := [⟨some 66, .mv (.t 14), none, true, []⟩,
  ⟨some 67, .nilq .ptr false (.t 66) (.k (.c (.nilp))), none, true, []⟩,
  ⟨some 68, .mv (.t 67), none, true, []⟩,
  ⟨some 69, .mv (.t 15), some (68, false), true, []⟩,
  ⟨some 70, .bin .neq (.t 69) (.k (.c (.int .i64 0))), some (68, false), true, []⟩,
  ⟨some 71, .pick 68 (.k (.c (.bool true))) (.t 70), none, true, []⟩]
def C5r16 : List AOper := [⟨some 0, .mv (.k (.c (.bool false))), none, true, []⟩]
def C5r17 : List AOper := [⟨some 73, .mv (.t 14), none, true, []⟩,
  ⟨some 74, .call (.k (.c (.fn 11 [] []))) [(.t 73)], none, true, []⟩,
  ⟨some 72, .mv (.t 74), none, true, []⟩,
  ⟨some 75, .ext (.t 72) 0, none, true, []⟩,
  ⟨some 76, .ext (.t 72) 1, none, true, []⟩,
  ⟨some 16, .alloc 45 [.c (.int .i64 0), .c (.int .u64 0), .c (.int .u64 0), .c (.int .i64 0), .c (.bool false), .c (.int .i64 0), .c (.bool false), .c (.int .i64 0), .c (.int .i64 0), .c (.int .i64 0)], none, true, []⟩,
  ⟨none, .stn 10 (.t 16) (.t 75), none, true, []⟩,
  ⟨some 17, .mv (.t 76), none, true, []⟩]
def C5r18 : List AOper := [⟨some 77, .mv (.t 5), none, true, []⟩,
  ⟨some 78, .mv (.t 77), none, true, []⟩,
  ⟨some 79, .mv (.t 7), some (78, true), true, []⟩,
  ⟨some 80, .pick 78 (.t 79) (.k (.c (.bool false))), none, true, []⟩,
  ⟨some 81, .mv (.t 80), none, true, []⟩,
  ⟨some 82, .ldn 10 (.t 4), some (81, true), true, []⟩,
  ⟨some 83, .ldn 10 (.t 6), some (81, true), true, []⟩,
  ⟨some 84, .eqS false [.one true, .one true, .one true, .one true, .one false, .one true, .one false, .one true, .one true, .one true] (.t 82) (.t 83), some (81, true), true, []⟩,
  ⟨some 85, .pick 81 (.t 84) (.k (.c (.bool false))), none, true, []⟩,
  ⟨some 86, .mv (.t 85), none, true, []⟩,
  ⟨some 87, .ldn 10 (.t 4), some (86, true), true, []⟩,
  ⟨some 88, .build [.c (.int .i64 0), .c (.int .u64 0), .c (.int .u64 0), .c (.int .i64 0), .c (.bool false), .c (.int .i64 0), .c (.bool false), .c (.int .i64 0), .c (.int .i64 0), .c (.int .i64 0)] [(0, 1, (.k (.c (.int .i64 1)))), (1, 1, (.k (.c (.int .u64 8)))), (3, 1, (.k (.c (.int .i64 2))))], some (86, true), true, []⟩,
  ⟨some 89, .eqS false [.one true, .one true, .one true, .one true, .one false, .one true, .one false, .one true, .one true, .one true] (.t 87) (.t 88), some (86, true), true, []⟩,
  ⟨some 90, .pick 86 (.t 89) (.k (.c (.bool false))), none, true, []⟩,
  ⟨some 91, .mv (.t 90), none, true, []⟩,
  ⟨some 92, .mv (.t 8), some (91, true), true, []⟩,
  ⟨some 93, .bin .eql (.t 92) (.k (.c (.int .i64 2))), some (91, true), true, []⟩,
  ⟨some 94, .pick 91 (.t 93) (.k (.c (.bool false))), none, true, []⟩,
  ⟨some 95, .mv (.t 94), none, true, []⟩,
  ⟨some 96, .mv (.t 9), some (95, true), true, []⟩,
  ⟨some 97, .bin .eql (.t 96) (.k (.c (.int .i64 0))), some (95, true), true, []⟩,
  ⟨some 98, .pick 95 (.t 97) (.k (.c (.bool false))), none, true, []⟩,
  ⟨some 99, .mv (.t 98), none, true, []⟩,
  ⟨some 100, .mv (.t 11), some (99, true), true, []⟩,
  ⟨some 101, .un .not (.t 100), some (99, true), true, []⟩,
  ⟨some 102, .pick 99 (.t 101) (.k (.c (.bool false))), none, true, []⟩,
  ⟨some 103, .mv (.t 102), none, true, []⟩,
  ⟨some 104, .faddr (.t 12) 0, some (103, true), true, []⟩,
  ⟨some 105, .iaddrA 31 (.t 104) (.k (.c (.int .i64 0))), some (103, true), true, []⟩,
  ⟨some 106, .ld1 (.t 105), some (103, true), true, []⟩,
  ⟨some 107, .bin .eql (.t 106) (.k (.c (.int .u64 5))), some (103, true), true, []⟩,
  ⟨some 108, .pick 103 (.t 107) (.k (.c (.bool false))), none, true, []⟩,
  ⟨some 109, .mv (.t 108), none, true, []⟩,
  ⟨some 110, .faddr (.t 12) 33, some (109, true), true, []⟩,
  ⟨some 111, .ld1 (.t 110), some (109, true), true, []⟩,
  ⟨some 112, .bin .eql (.t 111) (.k (.c (.int .u64 68))), some (109, true), true, []⟩,
  ⟨some 113, .pick 109 (.t 112) (.k (.c (.bool false))), none, true, []⟩,
  ⟨some 114, .mv (.t 113), none, true, []⟩,
  ⟨some 115, .mv (.t 2), some (114, true), true, []⟩,
  ⟨some 116, .call (.k (.c (.fn 9 [] []))) [(.t 115)], some (114, true), true, []⟩,
  ⟨some 117, .bin .eql (.t 116) (.k (.c (.int .i64 5))), some (114, true), true, []⟩,
  ⟨some 118, .pick 114 (.t 117) (.k (.c (.bool false))), none, true, []⟩,
  ⟨some 119, .mv (.t 118), none, true, []⟩,
  ⟨some 120, .mv (.t 13), some (119, true), true, []⟩,
  ⟨some 121, .bin .eql (.t 120) (.k (.c (.int .i64 1))), some (119, true), true, []⟩,
  ⟨some 122, .pick 119 (.t 121) (.k (.c (.bool false))), none, true, []⟩,
  ⟨some 123, .mv (.t 122), none, true, []⟩,
  ⟨some 124, .mv (.t 17), some (123, true), true, []⟩,
  ⟨some 125, .un .not (.t 124), some (123, true), true, []⟩,
  ⟨some 126, .pick 123 (.t 125) (.k (.c (.bool false))), none, true, []⟩,
  ⟨some 127, .mv (.t 126), none, true, []⟩,
  ⟨some 128, .mv (.t 14), some (127, true), true, []⟩,
  ⟨some 129, .call (.k (.c (.fn 10 [] []))) [(.t 128)], some (127, true), true, []⟩,
  ⟨some 130, .pick 127 (.t 129) (.k (.c (.bool false))), none, true, []⟩,
  ⟨some 131, .mv (.t 130), none, true, []⟩,
  ⟨some 132, .mv (.t 14), some (131, true), true, []⟩,
  ⟨some 133, .call (.k (.c (.fn 8 [] []))) [(.t 132)], some (131, true), true, []⟩,
  ⟨some 134, .fld (.t 133) 33 none, some (131, true), true, []⟩,
  ⟨some 135, .bin .eql (.t 134) (.k (.c (.int .u64 64))), some (131, true), true, []⟩,
  ⟨some 136, .pick 131 (.t 135) (.k (.c (.bool false))), none, true, []⟩,
  ⟨some 0, .mv (.t 136), none, true, []⟩]
def C5 : ACode :=
  .seq (.region C5r0)
  (.seq (.region C5r1)
  (.seq (.region C5r2)
  (.seq (.region C5r3)
  (.seq (.seq (.region C5r4)
  (.cond (.t 32)
   (.seq (.region C5r5)
   (.ret))
   (.skip)))
  (.seq (.region C5r6)
  (.seq (.region C5r7)
  (.seq (.region C5r8)
  (.seq (.region C5r9)
  (.seq (.region C5r10)
  (.seq (.region C5r11)
  (.seq (.region C5r12)
  (.seq (.region C5r13)
  (.seq (.region C5r14)
  (.seq (.seq (.region C5r15)
  (.cond (.t 71)
   (.seq (.region C5r16)
   (.ret))
   (.skip)))
  (.seq (.region C5r17)
  (.seq (.region C5r18)
  (.ret)))))))))))))))))
theorem C5_ok : stripF Try.prog Try.f5 = some C5 := by kernel_rfl
/-! understudy/micro.New -/
def C6r0 : List AOper := [⟨some 2, .box 25 (.t 0), none, true, []⟩,
  ⟨some 3, .box 29 (.t 1), none, true, []⟩,
  ⟨some 4, .mv (.k (.c (.nilp))), none, true, []⟩,
  ⟨some 5, .mv (.k (.c (.int .i64 0))), none, true, []⟩]
def C6r1 : List AOper := [⟨some 7, .ldn 5 (.t 2), none, true, []⟩,
  ⟨some 8, .call (.k (.c (.fn 17 [] []))) [(.t 7)], none, true, []⟩,
  ⟨some 9, .un .not (.t 8), none, true, []⟩,
  ⟨some 6, .mv (.t 9), none, true, []⟩]
def C6r2 : List AOper := [⟨some 4, .mv (.k (.c (.nilp))), none, true, []⟩,
  ⟨some 5, .mv (.k (.c (.int .i64 4))), none, true, []⟩]
def C6r3 : List AOper := [⟨some 11, .ldn 49 (.t 3), none, true, []⟩,
  ⟨some 12, .call (.k (.c (.fn 18 [] []))) [(.t 11)], none, true, []⟩,
  ⟨some 13, .un .not (.t 12), none, true, []⟩,
  ⟨some 14, .mv (.t 13), none, true, []⟩,
  ⟨some 15, .faddr (.t 3) 38, some (14, false), true, []⟩,
  ⟨some 16, .ld1 (.t 15), some (14, false), true, []⟩,
  ⟨some 17, .faddr (.t 2) 2, some (14, false), true, []⟩,
  ⟨some 18, .ld1 (.t 17), some (14, false), true, []⟩,
  ⟨some 19, .bin .neq (.t 16) (.t 18), some (14, false), true, []⟩,
  ⟨some 20, .pick 14 (.k (.c (.bool true))) (.t 19), none, true, []⟩,
  ⟨some 10, .mv (.t 20), none, true, []⟩]
def C6r4 : List AOper := [⟨some 4, .mv (.k (.c (.nilp))), none, true, []⟩,
  ⟨some 5, .mv (.k (.c (.int .i64 1))), none, true, []⟩]
def C6r5 : List AOper := [⟨some 21, .faddr (.t 2) 4, none, true, []⟩,
  ⟨some 22, .ld1 (.t 21), none, true, []⟩,
  ⟨some 23, .app 7 56 34 (.k (.c (.nils))) (.t 22), none, true, []⟩,
  ⟨some 24, .faddr (.t 2) 4, none, true, []⟩,
  ⟨none, .st1 (.t 24) (.t 23), none, true, []⟩]
def C6r6 : List AOper := [⟨some 25, .ldn 5 (.t 2), none, false, []⟩,
  ⟨some 26, .ldn 49 (.t 3), none, false, []⟩,
  ⟨some 27, .faddr (.t 2) 3, none, false, []⟩,
  ⟨some 28, .ld1 (.t 27), none, false, []⟩,
  ⟨some 29, .mkslice 22 1 8 [.c (.int .u64 0)] (.t 28) (.t 28), none, false, []⟩,
  ⟨some 30, .build [.c (.int .u64 0), .c (.int .i64 0), .c (.int .i64 0), .c (.int .i64 0), .c (.nils), .a 31 (fun _ => .int .u64 0), .a 2 (fun _ => .int .u64 0), .c (.int .u64 0), .c (.bool false), .c (.bool false), .c (.bool false), .c (.bool false), .c (.int .i64 0), .c (.bool false), .c (.int .u64 0), .c (.int .u64 0), .c (.int .u64 0), .c (.int .u64 0), .c (.int .u64 0), .c (.int .u64 0), .c (.int .i64 0), .c (.int .i64 0), .c (.bool false), .a 8 (fun _ => .int .u64 0), .c (.nils), .c (.int .i64 0), .c (.int .i64 0), .c (.int .u64 0), .c (.int .u64 0), .c (.int .i64 0), .c (.bool false), .c (.int .i64 0), .c (.bool false), .c (.int .i64 0), .c (.int .i64 0), .c (.int .i64 0), .c (.nilfn), .c (.bool false), .c (.bool false), .c (.int .u32 0), .c (.bool false), .c (.int .i64 0)] [(0, 5, (.t 25)), (5, 49, (.t 26)), (62, 1, (.t 29))], none, true, []⟩,
  ⟨some 31, .box 65 (.t 30), none, true, []⟩,
  ⟨some 4, .mv (.t 31), none, true, []⟩,
  ⟨some 5, .mv (.k (.c (.int .i64 0))), none, true, []⟩]
def C6 : ACode :=
  .seq (.region C6r0)
  (.seq (.block 0
   (.seq (.region C6r1)
   (.cond (.t 6)
    (.seq (.region C6r2)
    (.ret))
    (.seq (.region C6r3)
    (.cond (.t 10)
     (.seq (.region C6r4)
     (.ret))
     (.skip))))))
  (.seq (.region C6r5)
  (.seq (.region C6r6)
  (.ret))))
theorem C6_ok : stripF Try.prog Try.f6 = some C6 := by kernel_rfl
/-! understudy/understudyref22.New -/
def C7r0 : List AOper := [⟨some 2, .box 25 (.t 0), none, true, []⟩,
  ⟨some 3, .box 29 (.t 1), none, true, []⟩,
  ⟨some 4, .mv (.k (.c (.nilp))), none, true, []⟩,
  ⟨some 5, .mv (.k (.c (.int .i64 0))), none, true, []⟩]
def C7r1 : List AOper := [⟨some 8, .ldn 5 (.t 2), none, true, []⟩,
  ⟨some 9, .call (.k (.c (.fn 19 [] []))) [(.t 8)], none, true, []⟩,
  ⟨some 6, .mv (.t 9), none, true, []⟩]
def C7r2 : List AOper := [⟨some 10, .mv (.t 6), none, true, []⟩,
  ⟨some 11, .un .not (.t 10), none, true, []⟩]
def C7r3 : List AOper := [⟨some 4, .mv (.k (.c (.nilp))), none, true, []⟩,
  ⟨some 5, .mv (.k (.c (.int .i64 4))), none, true, []⟩]
def C7r4 : List AOper := [⟨some 12, .ldn 49 (.t 3), none, true, []⟩,
  ⟨some 13, .call (.k (.c (.fn 20 [] []))) [(.t 12)], none, true, []⟩,
  ⟨some 7, .mv (.t 13), none, true, []⟩]
def C7r5 : List AOper := [⟨some 14, .mv (.t 7), none, true, []⟩,
  ⟨some 15, .un .not (.t 14), none, true, []⟩,
  ⟨some 16, .mv (.t 15), none, true, []⟩,
  ⟨some 17, .faddr (.t 3) 38, some (16, false), true, []⟩,
  ⟨some 18, .ld1 (.t 17), some (16, false), true, []⟩,
  ⟨some 19, .faddr (.t 2) 2, some (16, false), true, []⟩,
  ⟨some 20, .ld1 (.t 19), some (16, false), true, []⟩,
  ⟨some 21, .bin .neq (.t 18) (.t 20), some (16, false), true, []⟩,
  ⟨some 22, .pick 16 (.k (.c (.bool true))) (.t 21), none, true, []⟩]
def C7r6 : List AOper := [⟨some 4, .mv (.k (.c (.nilp))), none, true, []⟩,
  ⟨some 5, .mv (.k (.c (.int .i64 1))), none, true, []⟩]
def C7r7 : List AOper := [⟨some 23, .ldn 5 (.t 2), none, false, []⟩,
  ⟨some 24, .ldn 49 (.t 3), none, false, []⟩,
  ⟨some 25, .faddr (.t 2) 3, none, false, []⟩,
  ⟨some 26, .ld1 (.t 25), none, false, []⟩,
  ⟨some 27, .mkslice 22 1 8 [.c (.int .u64 0)] (.t 26) (.t 26), none, false, []⟩,
  ⟨some 28, .build [.c (.int .u64 0), .c (.int .i64 0), .c (.int .i64 0), .c (.int .i64 0), .c (.nils), .a 31 (fun _ => .int .u64 0), .a 2 (fun _ => .int .u64 0), .c (.int .u64 0), .c (.bool false), .c (.bool false), .c (.bool false), .c (.bool false), .c (.int .i64 0), .c (.bool false), .c (.int .u64 0), .c (.int .u64 0), .c (.int .u64 0), .c (.int .u64 0), .c (.int .u64 0), .c (.int .u64 0), .c (.int .i64 0), .c (.int .i64 0), .c (.bool false), .a 8 (fun _ => .int .u64 0), .c (.nils), .c (.int .i64 0), .c (.bool false), .c (.int .i64 0), .c (.int .u64 0), .c (.int .u64 0), .c (.int .i64 0), .c (.bool false), .c (.int .i64 0), .c (.bool false), .c (.int .i64 0), .c (.int .i64 0), .c (.int .i64 0), .c (.bool false), .c (.bool false), .c (.int .u64 0), .c (.bool false), .c (.int .i64 0)] [(0, 5, (.t 23)), (5, 49, (.t 24)), (62, 1, (.t 27))], none, true, []⟩,
  ⟨some 29, .box 51 (.t 28), none, true, []⟩,
  ⟨some 4, .mv (.t 29), none, true, []⟩,
  ⟨some 5, .mv (.k (.c (.int .i64 0))), none, true, []⟩]
def C7 : ACode :=
  .seq (.region C7r0)
  (.seq (.region C7r1)
  (.seq (.seq (.region C7r2)
  (.cond (.t 11)
   (.seq (.region C7r3)
   (.ret))
   (.skip)))
  (.seq (.region C7r4)
  (.seq (.seq (.region C7r5)
  (.cond (.t 22)
   (.seq (.region C7r6)
   (.ret))
   (.skip)))
  (.seq (.region C7r7)
  (.ret))))))
theorem C7_ok : stripF Try.prog Try.f7 = some C7 := by kernel_rfl
/-! (*understudy/micro.Run).Core -/
def C8r0 : List AOper := [⟨some 2, .alloc 29 [.a 31 (fun _ => .int .u64 0), .a 2 (fun _ => .int .u64 0), .c (.int .u64 0), .c (.bool false), .c (.bool false), .c (.bool false), .c (.bool false), .c (.int .i64 0), .c (.bool false), .c (.int .u64 0), .c (.int .u64 0), .c (.int .u64 0), .c (.int .u64 0), .c (.int .u64 0), .c (.int .u64 0), .c (.int .i64 0), .c (.int .i64 0), .c (.bool false)], none, true, []⟩]
def C8r1 : List AOper := [⟨some 3, .mv (.t 0), none, true, []⟩,
  ⟨some 4, .nilchk (.t 3), none, true, []⟩,
  ⟨some 5, .faddr (.t 4) 5, none, true, []⟩,
  ⟨some 6, .ldn 49 (.t 5), none, true, []⟩,
  ⟨none, .stn 49 (.t 2) (.t 6), none, true, []⟩]
def C8 : ACode :=
  .seq (.region C8r0)
  (.seq (.region C8r1)
  (.ret))
theorem C8_ok : stripF Try.prog Try.f8 = some C8 := by kernel_rfl
/-! (*understudy/micro.Run).Steps -/
def C9r0 : List AOper := [⟨some 2, .mv (.k (.c (.int .i64 0))), none, true, []⟩]
def C9r1 : List AOper := [⟨some 3, .mv (.t 0), none, true, []⟩,
  ⟨some 4, .nilchk (.t 3), none, true, []⟩,
  ⟨some 5, .faddr (.t 4) 79, none, true, []⟩,
  ⟨some 6, .ld1 (.t 5), none, true, []⟩,
  ⟨some 2, .mv (.t 6), none, true, []⟩]
def C9 : ACode :=
  .seq (.region C9r0)
  (.seq (.region C9r1)
  (.ret))
theorem C9_ok : stripF Try.prog Try.f9 = some C9 := by kernel_rfl
/-! (*understudy/micro.Run).Faulted -/
def C10r0 : List AOper := [⟨some 2, .mv (.k (.c (.bool false))), none, true, []⟩]
def C10r1 : List AOper := [⟨some 3, .mv (.t 0), none, true, []⟩,
  ⟨some 4, .nilchk (.t 3), none, true, []⟩,
  ⟨some 5, .faddr (.t 4) 76, none, true, []⟩,
  ⟨some 6, .ld1 (.t 5), none, true, []⟩,
  ⟨some 2, .mv (.t 6), none, true, []⟩]
def C10 : ACode :=
  .seq (.region C10r0)
  (.seq (.region C10r1)
  (.ret))
theorem C10_ok : stripF Try.prog Try.f10 = some C10 := by kernel_rfl
/-! (*understudy/micro.Run).Next -/
def C11r0 : List AOper := [⟨some 2, .alloc 45 [.c (.int .i64 0), .c (.int .u64 0), .c (.int .u64 0), .c (.int .i64 0), .c (.bool false), .c (.int .i64 0), .c (.bool false), .c (.int .i64 0), .c (.int .i64 0), .c (.int .i64 0)], none, true, []⟩,
  ⟨some 3, .mv (.k (.c (.bool false))), none, true, []⟩]
def C11r1 : List AOper := [⟨some 5, .mv (.t 0), none, true, []⟩,
  ⟨some 6, .nilchk (.t 5), none, true, []⟩,
  ⟨some 7, .faddr (.t 6) 75, none, true, []⟩,
  ⟨some 8, .ld1 (.t 7), none, true, []⟩,
  ⟨some 9, .un .not (.t 8), none, true, []⟩,
  ⟨some 10, .mv (.t 9), none, true, []⟩,
  ⟨some 11, .mv (.t 0), some (10, true), true, []⟩,
  ⟨some 12, .nilchk (.t 11), some (10, true), true, []⟩,
  ⟨some 13, .faddr (.t 12) 74, some (10, true), true, []⟩,
  ⟨some 14, .ld1 (.t 13), some (10, true), true, []⟩,
  ⟨some 15, .nilq .fn false (.t 14) (.k (.c (.nilfn))), some (10, true), true, []⟩,
  ⟨some 16, .pick 10 (.t 15) (.k (.c (.bool false))), none, true, []⟩]
def C11r2 : List AOper := [⟨some 17, .mv (.t 0), none, false, []⟩,
  ⟨some 18, .nilchk (.t 17), none, false, []⟩,
  ⟨some 19, .faddr (.t 18) 0, none, false, []⟩,
  ⟨some 20, .faddr (.t 19) 4, none, false, []⟩,
  ⟨some 21, .ld1 (.t 20), none, false, []⟩,
  ⟨some 22, .mv (.t 0), none, false, []⟩,
  ⟨some 23, .nilchk (.t 22), none, false, []⟩,
  ⟨some 24, .faddr (.t 23) 63, none, false, []⟩,
  ⟨some 25, .ld1 (.t 24), none, false, []⟩,
  ⟨some 26, .iaddr 7 (.t 21) (.t 25), none, false, []⟩,
  ⟨some 27, .ldn 7 (.t 26), none, false, []⟩,
  ⟨some 4, .alloc 34 [.c (.int .i64 0), .c (.int .i64 0), .c (.int .i64 0), .c (.int .i64 0), .c (.int .i64 0), .c (.int .i64 0), .c (.int .u64 0)], none, false, []⟩,
  ⟨none, .stn 7 (.t 4) (.t 27), none, true, []⟩]
def C11r3 : List AOper := [⟨some 28, .mv (.t 0), none, true, []⟩,
  ⟨some 29, .ldn 7 (.t 4), none, true, []⟩,
  ⟨some 30, .call (.k (.c (.fn 21 [] []))) [(.t 28), (.t 29)], none, true, []⟩]
def C11r4 : List AOper := [⟨some 31, .mv (.t 0), none, true, []⟩,
  ⟨some 32, .ldn 7 (.t 4), none, true, []⟩,
  ⟨some 33, .call (.k (.c (.fn 22 [] []))) [(.t 31), (.t 32)], none, true, []⟩]
def C11r5 : List AOper := [⟨some 34, .mv (.t 0), none, true, []⟩,
  ⟨some 35, .nilchk (.t 34), none, true, []⟩,
  ⟨some 36, .faddr (.t 35) 79, none, true, []⟩,
  ⟨some 37, .ld1 (.t 36), none, true, []⟩,
  ⟨some 38, .bin .add (.t 37) (.k (.c (.int .i64 1))), none, true, []⟩,
  ⟨some 39, .nilchk (.t 34), none, true, []⟩,
  ⟨some 40, .faddr (.t 39) 79, none, true, []⟩,
  ⟨none, .st1 (.t 40) (.t 38), none, true, []⟩]
def C11r6 : List AOper := [⟨some 41, .mv (.t 0), none, true, []⟩,
  ⟨some 42, .nilchk (.t 41), none, true, []⟩,
  ⟨some 43, .faddr (.t 42) 63, none, true, []⟩,
  ⟨some 44, .ld1 (.t 43), none, true, []⟩,
  ⟨some 45, .bin .add (.t 44) (.k (.c (.int .i64 1))), none, true, []⟩,
  ⟨some 46, .nilchk (.t 41), none, true, []⟩,
  ⟨some 47, .faddr (.t 46) 63, none, true, []⟩,
  ⟨none, .st1 (.t 47) (.t 45), none, true, []⟩]
def C11r7 : List AOper := [⟨some 48, .mv (.t 0), none, false, []⟩,
  ⟨some 49, .nilchk (.t 48), none, false, []⟩,
  ⟨some 50, .faddr (.t 49) 64, none, false, []⟩,
  ⟨some 51, .ldn 10 (.t 50), none, false, []⟩,
  ⟨some 52, .mv (.t 0), none, false, []⟩,
  ⟨some 53, .nilchk (.t 52), none, false, []⟩,
  ⟨some 54, .faddr (.t 53) 74, none, false, []⟩,
  ⟨some 55, .ld1 (.t 54), none, false, []⟩,
  ⟨some 56, .nilq .fn true (.t 55) (.k (.c (.nilfn))), none, false, []⟩,
  ⟨none, .stn 10 (.t 2) (.t 51), none, true, [54]⟩,
  ⟨some 3, .mv (.t 56), none, true, []⟩]
def C11 : ACode :=
  .seq (.region C11r0)
  (.seq (.block 0
   (.loop
    (.seq (.seq (.region C11r1)
    (.cond (.t 16)
     (.skip)
     (.exit 0)))
    (.block 1
     (.seq (.region C11r2)
     (.seq (.seq (.region C11r3)
     (.cond (.t 30)
      (.exit 0)
      (.skip)))
     (.seq (.region C11r4)
     (.seq (.region C11r5)
     (.region C11r6)))))))))
  (.seq (.region C11r7)
  (.ret)))
theorem C11_ok : stripF Try.prog Try.f11 = some C11 := by kernel_rfl
/-! (*understudy/understudyref22.Run).Next -/
def C12r0 : List AOper := [⟨some 2, .alloc 45 [.c (.int .i64 0), .c (.int .u64 0), .c (.int .u64 0), .c (.int .i64 0), .c (.bool false), .c (.int .i64 0), .c (.bool false), .c (.int .i64 0), .c (.int .i64 0), .c (.int .i64 0)], none, true, []⟩,
  ⟨some 3, .mv (.k (.c (.bool false))), none, true, []⟩]
def C12r1 : List AOper := [⟨some 4, .mv (.t 0), none, true, []⟩,
  ⟨some 5, .nilchk (.t 4), none, true, []⟩,
  ⟨some 6, .faddr (.t 5) 75, none, true, []⟩,
  ⟨some 7, .ld1 (.t 6), none, true, []⟩,
  ⟨some 8, .un .not (.t 7), none, true, []⟩,
  ⟨some 9, .mv (.t 8), none, true, []⟩,
  ⟨some 10, .mv (.t 0), some (9, true), true, []⟩,
  ⟨some 11, .nilchk (.t 10), some (9, true), true, []⟩,
  ⟨some 12, .faddr (.t 11) 64, some (9, true), true, []⟩,
  ⟨some 13, .ld1 (.t 12), some (9, true), true, []⟩,
  ⟨some 14, .un .not (.t 13), some (9, true), true, []⟩,
  ⟨some 15, .pick 9 (.t 14) (.k (.c (.bool false))), none, true, []⟩]
def C12r2 : List AOper := [⟨some 16, .mv (.t 0), none, false, []⟩,
  ⟨some 17, .mv (.t 0), none, false, []⟩,
  ⟨some 18, .nilchk (.t 17), none, false, []⟩,
  ⟨some 19, .faddr (.t 18) 0, none, false, []⟩,
  ⟨some 20, .faddr (.t 19) 4, none, false, []⟩,
  ⟨some 21, .ld1 (.t 20), none, false, []⟩,
  ⟨some 22, .mv (.t 0), none, false, []⟩,
  ⟨some 23, .nilchk (.t 22), none, false, []⟩,
  ⟨some 24, .faddr (.t 23) 63, none, false, []⟩,
  ⟨some 25, .ld1 (.t 24), none, false, []⟩,
  ⟨some 26, .iaddr 7 (.t 21) (.t 25), none, false, []⟩,
  ⟨some 27, .ldn 7 (.t 26), none, false, []⟩,
  ⟨some 28, .call (.k (.c (.fn 23 [] []))) [(.t 16), (.t 27)], none, true, []⟩]
def C12r3 : List AOper := [⟨some 29, .mv (.t 0), none, true, []⟩,
  ⟨some 30, .nilchk (.t 29), none, true, []⟩,
  ⟨some 31, .faddr (.t 30) 64, none, true, []⟩,
  ⟨some 32, .ld1 (.t 31), none, true, []⟩]
def C12r4 : List AOper := [⟨some 33, .mv (.t 0), none, true, []⟩,
  ⟨some 34, .nilchk (.t 33), none, true, []⟩,
  ⟨some 35, .faddr (.t 34) 65, none, true, []⟩,
  ⟨some 36, .ldn 10 (.t 35), none, true, []⟩,
  ⟨none, .stn 10 (.t 2) (.t 36), none, true, []⟩,
  ⟨some 3, .mv (.k (.c (.bool true))), none, true, []⟩]
def C12r5 : List AOper := [⟨some 37, .build [.c (.int .i64 0), .c (.int .u64 0), .c (.int .u64 0), .c (.int .i64 0), .c (.bool false), .c (.int .i64 0), .c (.bool false), .c (.int .i64 0), .c (.int .i64 0), .c (.int .i64 0)] [], none, true, []⟩,
  ⟨none, .stn 10 (.t 2) (.t 37), none, true, []⟩,
  ⟨some 3, .mv (.k (.c (.bool false))), none, true, []⟩]
def C12 : ACode :=
  .seq (.region C12r0)
  (.seq (.block 0
   (.loop
    (.seq (.seq (.region C12r1)
    (.cond (.t 15)
     (.skip)
     (.exit 0)))
    (.block 1
     (.region C12r2)))))
  (.seq (.seq (.region C12r3)
  (.cond (.t 32)
   (.seq (.region C12r4)
   (.ret))
   (.skip)))
  (.seq (.region C12r5)
  (.ret))))
theorem C12_ok : stripF Try.prog Try.f12 = some C12 := by kernel_rfl
/-! (*understudy/micro.Run).Guest -/
def C13r0 : List AOper := [⟨some 2, .mv (.k (.c (.int .u32 0))), none, true, []⟩,
  ⟨some 3, .mv (.k (.c (.bool false))), none, true, []⟩]
def C13r1 : List AOper := [⟨some 4, .mv (.t 0), none, false, []⟩,
  ⟨some 5, .nilchk (.t 4), none, false, []⟩,
  ⟨some 6, .faddr (.t 5) 77, none, false, []⟩,
  ⟨some 7, .ld1 (.t 6), none, false, []⟩,
  ⟨some 8, .mv (.t 0), none, false, []⟩,
  ⟨some 9, .nilchk (.t 8), none, false, []⟩,
  ⟨some 10, .faddr (.t 9) 78, none, false, []⟩,
  ⟨some 11, .ld1 (.t 10), none, false, []⟩,
  ⟨some 2, .mv (.t 7), none, false, []⟩,
  ⟨some 3, .mv (.t 11), none, true, []⟩]
def C13 : ACode :=
  .seq (.region C13r0)
  (.seq (.region C13r1)
  (.ret))
theorem C13_ok : stripF Try.prog Try.f13 = some C13 := by kernel_rfl
/-! (*understudy/micro.Run).Take -/
def C14r0 : List AOper := [⟨some 3, .box 57 (.t 1), none, true, []⟩,
  ⟨some 4, .mv (.k (.c (.int .i64 0))), none, true, []⟩]
def C14r1 : List AOper := [⟨some 6, .mv (.t 0), none, true, []⟩,
  ⟨some 7, .nilchk (.t 6), none, true, []⟩,
  ⟨some 8, .faddr (.t 7) 74, none, true, []⟩,
  ⟨some 9, .ld1 (.t 8), none, true, []⟩,
  ⟨some 10, .nilq .fn false (.t 9) (.k (.c (.nilfn))), none, true, []⟩]
def C14r2 : List AOper := [⟨some 4, .mv (.k (.c (.int .i64 1))), none, true, []⟩]
def C14r3 : List AOper := [⟨some 11, .mv (.t 0), none, true, []⟩,
  ⟨some 12, .nilchk (.t 11), none, true, []⟩,
  ⟨some 13, .faddr (.t 12) 64, none, true, []⟩,
  ⟨some 14, .faddr (.t 13) 0, none, true, []⟩,
  ⟨some 15, .ld1 (.t 14), none, true, []⟩,
  ⟨some 16, .bin .neq (.t 15) (.k (.c (.int .i64 16))), none, true, []⟩,
  ⟨some 17, .mv (.t 16), none, true, []⟩,
  ⟨some 18, .mv (.t 0), some (17, true), true, []⟩,
  ⟨some 19, .nilchk (.t 18), some (17, true), true, []⟩,
  ⟨some 20, .faddr (.t 19) 64, some (17, true), true, []⟩,
  ⟨some 21, .faddr (.t 20) 0, some (17, true), true, []⟩,
  ⟨some 22, .ld1 (.t 21), some (17, true), true, []⟩,
  ⟨some 23, .bin .neq (.t 22) (.k (.c (.int .i64 6))), some (17, true), true, []⟩,
  ⟨some 24, .pick 17 (.t 23) (.k (.c (.bool false))), none, true, []⟩,
  ⟨some 5, .mv (.t 24), none, true, []⟩]
def C14r4 : List AOper := [⟨some 25, .mv (.t 5), none, true, []⟩,
  ⟨some 26, .mv (.t 25), none, true, []⟩,
  ⟨some 27, .faddr (.t 3) 2, some (26, true), true, []⟩,
  ⟨some 28, .ld1 (.t 27), some (26, true), true, []⟩,
  ⟨some 29, .bin .neq (.t 28) (.k (.c (.int .i64 0))), some (26, true), true, []⟩,
  ⟨some 30, .pick 26 (.t 29) (.k (.c (.bool false))), none, true, []⟩]
def C14r5 : List AOper := [⟨some 31, .mv (.t 0), none, true, []⟩,
  ⟨some 32, .mv (.t 0), none, true, []⟩,
  ⟨some 33, .nilchk (.t 31), none, true, []⟩,
  ⟨some 34, .faddr (.t 33) 75, none, true, []⟩,
  ⟨none, .st1 (.t 34) (.k (.c (.bool true))), none, true, []⟩,
  ⟨some 35, .nilchk (.t 32), none, true, []⟩,
  ⟨some 36, .faddr (.t 35) 76, none, true, []⟩,
  ⟨none, .st1 (.t 36) (.k (.c (.bool true))), none, true, []⟩]
def C14r6 : List AOper := [⟨some 37, .mv (.t 0), none, false, []⟩,
  ⟨some 38, .nilchk (.t 37), none, false, []⟩,
  ⟨some 39, .faddr (.t 38) 74, none, false, []⟩,
  ⟨some 40, .ld1 (.t 39), none, false, []⟩,
  ⟨some 41, .ldn 3 (.t 3), none, false, []⟩,
  ⟨some 42, .call (.t 40) [(.t 41)], none, true, []⟩]
def C14r7 : List AOper := [⟨some 43, .mv (.t 0), none, true, []⟩,
  ⟨some 44, .mv (.t 0), none, true, []⟩,
  ⟨some 45, .build [.c (.int .i64 0), .c (.int .u64 0), .c (.int .u64 0), .c (.int .i64 0), .c (.bool false), .c (.int .i64 0), .c (.bool false), .c (.int .i64 0), .c (.int .i64 0), .c (.int .i64 0)] [], none, true, []⟩,
  ⟨some 46, .nilchk (.t 43), none, true, []⟩,
  ⟨some 47, .faddr (.t 46) 64, none, true, []⟩,
  ⟨none, .stn 10 (.t 47) (.t 45), none, true, []⟩,
  ⟨some 48, .nilchk (.t 44), none, true, []⟩,
  ⟨some 49, .faddr (.t 48) 74, none, true, []⟩,
  ⟨none, .st1 (.t 49) (.k (.c (.nilfn))), none, true, []⟩]
def C14r8 : List AOper := [⟨some 50, .mv (.t 0), none, true, []⟩,
  ⟨some 51, .nilchk (.t 50), none, true, []⟩,
  ⟨some 52, .faddr (.t 51) 79, none, true, []⟩,
  ⟨some 53, .ld1 (.t 52), none, true, []⟩,
  ⟨some 54, .bin .add (.t 53) (.k (.c (.int .i64 1))), none, true, []⟩,
  ⟨some 55, .nilchk (.t 50), none, true, []⟩,
  ⟨some 56, .faddr (.t 55) 79, none, true, []⟩,
  ⟨none, .st1 (.t 56) (.t 54), none, true, []⟩]
def C14r9 : List AOper := [⟨some 57, .mv (.t 0), none, true, []⟩,
  ⟨some 58, .nilchk (.t 57), none, true, []⟩,
  ⟨some 59, .faddr (.t 58) 63, none, true, []⟩,
  ⟨some 60, .ld1 (.t 59), none, true, []⟩,
  ⟨some 61, .bin .add (.t 60) (.k (.c (.int .i64 1))), none, true, []⟩,
  ⟨some 62, .nilchk (.t 57), none, true, []⟩,
  ⟨some 63, .faddr (.t 62) 63, none, true, []⟩,
  ⟨none, .st1 (.t 63) (.t 61), none, true, []⟩]
def C14r10 : List AOper := [⟨some 4, .mv (.k (.c (.int .i64 0))), none, true, []⟩]
def C14 : ACode :=
  .seq (.region C14r0)
  (.seq (.seq (.region C14r1)
  (.cond (.t 10)
   (.seq (.region C14r2)
   (.ret))
   (.skip)))
  (.seq (.seq (.region C14r3)
  (.seq (.region C14r4)
  (.cond (.t 30)
   (.region C14r5)
   (.region C14r6))))
  (.seq (.region C14r7)
  (.seq (.region C14r8)
  (.seq (.region C14r9)
  (.seq (.region C14r10)
  (.ret)))))))
theorem C14_ok : stripF Try.prog Try.f14 = some C14 := by kernel_rfl
/-! (*understudy/understudyref22.Run).Take -/
def C15r0 : List AOper := [⟨some 3, .box 57 (.t 1), none, true, []⟩,
  ⟨some 4, .mv (.k (.c (.bool false))), none, true, []⟩]
def C15r1 : List AOper := [⟨some 6, .mv (.t 0), none, true, []⟩,
  ⟨some 7, .nilchk (.t 6), none, true, []⟩,
  ⟨some 8, .faddr (.t 7) 64, none, true, []⟩,
  ⟨some 9, .ld1 (.t 8), none, true, []⟩,
  ⟨some 10, .un .not (.t 9), none, true, []⟩]
def C15r2 : List AOper := [⟨some 4, .mv (.k (.c (.bool false))), none, true, []⟩]
def C15r3 : List AOper := [⟨some 11, .mv (.t 0), none, false, []⟩,
  ⟨some 12, .nilchk (.t 11), none, false, []⟩,
  ⟨some 13, .faddr (.t 12) 0, none, false, []⟩,
  ⟨some 14, .faddr (.t 13) 4, none, false, []⟩,
  ⟨some 15, .ld1 (.t 14), none, false, []⟩,
  ⟨some 16, .mv (.t 0), none, false, []⟩,
  ⟨some 17, .nilchk (.t 16), none, false, []⟩,
  ⟨some 18, .faddr (.t 17) 63, none, false, []⟩,
  ⟨some 19, .ld1 (.t 18), none, false, []⟩,
  ⟨some 20, .iaddr 7 (.t 15) (.t 19), none, false, []⟩,
  ⟨some 21, .ldn 7 (.t 20), none, false, []⟩,
  ⟨some 5, .alloc 34 [.c (.int .i64 0), .c (.int .i64 0), .c (.int .i64 0), .c (.int .i64 0), .c (.int .i64 0), .c (.int .i64 0), .c (.int .u64 0)], none, false, []⟩,
  ⟨none, .stn 7 (.t 5) (.t 21), none, true, []⟩]
def C15r4 : List AOper := [⟨some 22, .mv (.t 0), none, true, []⟩,
  ⟨some 23, .nilchk (.t 22), none, true, []⟩,
  ⟨some 24, .faddr (.t 23) 64, none, true, []⟩,
  ⟨none, .st1 (.t 24) (.k (.c (.bool false))), none, true, []⟩]
def C15r5 : List AOper := [⟨some 25, .mv (.t 0), none, true, []⟩,
  ⟨some 26, .nilchk (.t 25), none, true, []⟩,
  ⟨some 27, .faddr (.t 26) 63, none, true, []⟩,
  ⟨some 28, .ld1 (.t 27), none, true, []⟩,
  ⟨some 29, .bin .add (.t 28) (.k (.c (.int .i64 1))), none, true, []⟩,
  ⟨some 30, .nilchk (.t 25), none, true, []⟩,
  ⟨some 31, .faddr (.t 30) 63, none, true, []⟩,
  ⟨none, .st1 (.t 31) (.t 29), none, true, []⟩]
def C15r6 : List AOper := [⟨some 32, .mv (.t 0), none, true, []⟩,
  ⟨some 33, .nilchk (.t 32), none, true, []⟩,
  ⟨some 34, .faddr (.t 33) 79, none, true, []⟩,
  ⟨some 35, .ld1 (.t 34), none, true, []⟩,
  ⟨some 36, .bin .add (.t 35) (.k (.c (.int .i64 1))), none, true, []⟩,
  ⟨some 37, .nilchk (.t 32), none, true, []⟩,
  ⟨some 38, .faddr (.t 37) 79, none, true, []⟩,
  ⟨none, .st1 (.t 38) (.t 36), none, true, []⟩]
def C15r7 : List AOper := [⟨some 39, .faddr (.t 5) 0, none, true, []⟩,
  ⟨some 40, .ld1 (.t 39), none, true, []⟩,
  ⟨some 41, .bin .eql (.t 40) (.k (.c (.int .i64 16))), none, true, []⟩,
  ⟨some 42, .mv (.t 41), none, true, []⟩,
  ⟨some 43, .faddr (.t 5) 0, some (42, false), true, []⟩,
  ⟨some 44, .ld1 (.t 43), some (42, false), true, []⟩,
  ⟨some 45, .bin .eql (.t 44) (.k (.c (.int .i64 17))), some (42, false), true, []⟩,
  ⟨some 46, .pick 42 (.k (.c (.bool true))) (.t 45), none, true, []⟩]
def C15r8 : List AOper := [⟨some 4, .mv (.k (.c (.bool true))), none, true, []⟩]
def C15r9 : List AOper := [⟨some 47, .faddr (.t 3) 2, none, true, []⟩,
  ⟨some 48, .ld1 (.t 47), none, true, []⟩,
  ⟨some 49, .bin .neq (.t 48) (.k (.c (.int .i64 0))), none, true, []⟩]
def C15r10 : List AOper := [⟨some 50, .mv (.t 0), none, true, []⟩,
  ⟨some 51, .nilchk (.t 50), none, true, []⟩,
  ⟨some 52, .faddr (.t 51) 75, none, true, []⟩,
  ⟨none, .st1 (.t 52) (.k (.c (.bool true))), none, true, []⟩]
def C15r11 : List AOper := [⟨some 53, .mv (.t 0), none, true, []⟩,
  ⟨some 54, .nilchk (.t 53), none, true, []⟩,
  ⟨some 55, .faddr (.t 54) 76, none, true, []⟩,
  ⟨none, .st1 (.t 55) (.k (.c (.bool true))), none, true, []⟩]
def C15r12 : List AOper := [⟨some 4, .mv (.k (.c (.bool true))), none, true, []⟩]
def C15r13 : List AOper := [⟨some 56, .faddr (.t 5) 0, none, true, []⟩,
  ⟨some 57, .ld1 (.t 56), none, true, []⟩]
def C15r14 : List AOper := [⟨some 59, .bin .eql (.t 57) (.k (.c (.int .i64 12))), none, true, []⟩,
  ⟨some 58, .mv (.t 59), none, true, []⟩]
def C15r15 : List AOper := [⟨some 60, .bin .eql (.t 57) (.k (.c (.int .i64 14))), none, true, []⟩,
  ⟨some 58, .mv (.t 60), none, true, []⟩]
def C15r16 : List AOper := [⟨some 61, .mv (.t 0), none, false, []⟩,
  ⟨some 62, .faddr (.t 5) 2, none, false, []⟩,
  ⟨some 63, .ld1 (.t 62), none, false, []⟩,
  ⟨some 64, .faddr (.t 3) 0, none, false, []⟩,
  ⟨some 65, .ld1 (.t 64), none, false, []⟩,
  ⟨some 66, .nilchk (.t 61), none, false, []⟩,
  ⟨some 67, .faddr (.t 66) 54, none, false, []⟩,
  ⟨some 68, .iaddrA 8 (.t 67) (.t 63), none, true, []⟩,
  ⟨none, .st1 (.t 68) (.t 65), none, true, []⟩]
def C15r17 : List AOper := [⟨some 70, .bin .eql (.t 57) (.k (.c (.int .i64 15))), none, true, []⟩,
  ⟨some 69, .mv (.t 70), none, true, []⟩]
def C15r18 : List AOper := [⟨some 71, .mv (.t 0), none, false, []⟩,
  ⟨some 72, .faddr (.t 5) 2, none, false, []⟩,
  ⟨some 73, .ld1 (.t 72), none, false, []⟩,
  ⟨some 74, .nilchk (.t 71), none, false, []⟩,
  ⟨some 75, .faddr (.t 74) 54, none, false, []⟩,
  ⟨some 76, .iaddrA 8 (.t 75) (.t 73), none, true, []⟩,
  ⟨none, .st1 (.t 76) (.k (.c (.int .u64 1))), none, true, []⟩]
def C15r19 : List AOper := [⟨some 77, .faddr (.t 3) 1, none, true, []⟩,
  ⟨some 78, .ld1 (.t 77), none, true, []⟩]
def C15r20 : List AOper := [⟨some 79, .mv (.t 0), none, false, []⟩,
  ⟨some 80, .faddr (.t 5) 2, none, false, []⟩,
  ⟨some 81, .ld1 (.t 80), none, false, []⟩,
  ⟨some 82, .nilchk (.t 79), none, false, []⟩,
  ⟨some 83, .faddr (.t 82) 54, none, false, []⟩,
  ⟨some 84, .iaddrA 8 (.t 83) (.t 81), none, true, []⟩,
  ⟨none, .st1 (.t 84) (.k (.c (.int .u64 0))), none, true, []⟩]
def C15r21 : List AOper := [⟨some 4, .mv (.k (.c (.bool true))), none, true, []⟩]
def C15 : ACode :=
  .seq (.region C15r0)
  (.seq (.seq (.region C15r1)
  (.cond (.t 10)
   (.seq (.region C15r2)
   (.ret))
   (.skip)))
  (.seq (.region C15r3)
  (.seq (.region C15r4)
  (.seq (.region C15r5)
  (.seq (.region C15r6)
  (.seq (.seq (.region C15r7)
  (.cond (.t 46)
   (.seq (.region C15r8)
   (.ret))
   (.skip)))
  (.seq (.seq (.region C15r9)
  (.cond (.t 49)
   (.seq (.region C15r10)
   (.seq (.region C15r11)
   (.seq (.region C15r12)
   (.ret))))
   (.skip)))
  (.seq (.seq (.region C15r13)
  (.block 0
   (.seq (.seq (.region C15r14)
   (.cond (.t 58)
    (.skip)
    (.region C15r15)))
   (.cond (.t 58)
    (.region C15r16)
    (.seq (.region C15r17)
    (.cond (.t 69)
     (.seq (.region C15r18)
     (.seq (.region C15r19)
     (.cond (.t 78)
      (.region C15r20)
      (.skip))))
     (.skip)))))))
  (.seq (.region C15r21)
  (.ret))))))))))
theorem C15_ok : stripF Try.prog Try.f15 = some C15 := by kernel_rfl
/-! understudy/understudylaw22.code -/
def C16r0 : List AOper := [⟨some 0, .alloc 25 [.c (.int .u64 0), .c (.int .i64 0), .c (.int .i64 0), .c (.int .i64 0), .c (.nils)], none, true, []⟩]
def C16r1 : List AOper := [⟨some 1, .build [.c (.int .i64 0), .c (.int .i64 0), .c (.int .i64 0), .c (.int .i64 0), .c (.int .i64 0), .c (.int .i64 0), .c (.int .u64 0)] [(0, 1, (.k (.c (.int .i64 18)))), (6, 1, (.k (.c (.int .u64 64))))], none, true, []⟩,
  ⟨some 2, .build [.c (.int .i64 0), .c (.int .i64 0), .c (.int .i64 0), .c (.int .i64 0), .c (.int .i64 0), .c (.int .i64 0), .c (.int .u64 0)] [(0, 1, (.k (.c (.int .i64 5)))), (1, 1, (.k (.c (.int .i64 1))))], none, true, []⟩,
  ⟨some 3, .build [.c (.int .i64 0), .c (.int .i64 0), .c (.int .i64 0), .c (.int .i64 0), .c (.int .i64 0), .c (.int .i64 0), .c (.int .u64 0)] [(0, 1, (.k (.c (.int .i64 12)))), (5, 1, (.k (.c (.int .i64 2))))], none, true, []⟩,
  ⟨some 4, .build [.c (.int .i64 0), .c (.int .i64 0), .c (.int .i64 0), .c (.int .i64 0), .c (.int .i64 0), .c (.int .i64 0), .c (.int .u64 0)] [(0, 1, (.k (.c (.int .i64 6))))], none, true, []⟩,
  ⟨some 5, .build [.c (.int .i64 0), .c (.int .i64 0), .c (.int .i64 0), .c (.int .i64 0), .c (.int .i64 0), .c (.int .i64 0), .c (.int .u64 0)] [(0, 1, (.k (.c (.int .i64 20)))), (6, 1, (.k (.c (.int .u64 68))))], none, true, []⟩,
  ⟨some 6, .bslice 34 7 [.c (.int .i64 0), .c (.int .i64 0), .c (.int .i64 0), .c (.int .i64 0), .c (.int .i64 0), .c (.int .i64 0), .c (.int .u64 0)] 5 [(0, 7, (.t 1)), (7, 7, (.t 2)), (14, 7, (.t 3)), (21, 7, (.t 4)), (28, 7, (.t 5))], none, true, []⟩,
  ⟨some 7, .build [.c (.int .u64 0), .c (.int .i64 0), .c (.int .i64 0), .c (.int .i64 0), .c (.nils)] [(0, 1, (.k (.c (.int .u64 64)))), (1, 1, (.k (.c (.int .i64 1)))), (2, 1, (.k (.c (.int .i64 1)))), (4, 1, (.t 6))], none, true, []⟩,
  ⟨none, .stn 5 (.t 0) (.t 7), none, true, []⟩]
def C16 : ACode :=
  .seq (.region C16r0)
  (.seq (.region C16r1)
  (.ret))
theorem C16_ok : stripF Try.prog Try.f16 = some C16 := by kernel_rfl
/-! understudy/lower.Right -/
def C17r0 : List AOper := [⟨some 1, .box 25 (.t 0), none, true, []⟩,
  ⟨some 2, .mv (.k (.c (.bool false))), none, true, []⟩]
def C17r1 : List AOper := [⟨some 13, .faddr (.t 1) 0, none, true, []⟩,
  ⟨some 14, .ld1 (.t 13), none, true, []⟩,
  ⟨some 15, .bin .rem (.t 14) (.k (.c (.int .u64 4))), none, true, []⟩,
  ⟨some 16, .bin .neq (.t 15) (.k (.c (.int .u64 0))), none, true, []⟩,
  ⟨some 17, .mv (.t 16), none, true, []⟩,
  ⟨some 18, .faddr (.t 1) 1, some (17, false), true, []⟩,
  ⟨some 19, .ld1 (.t 18), some (17, false), true, []⟩,
  ⟨some 20, .call (.k (.c (.fn 24 [] []))) [(.t 19), (.k (.c (.int .i64 1))), (.k (.c (.int .i64 16)))], some (17, false), true, []⟩,
  ⟨some 21, .un .not (.t 20), some (17, false), true, []⟩,
  ⟨some 22, .pick 17 (.k (.c (.bool true))) (.t 21), none, true, []⟩,
  ⟨some 23, .mv (.t 22), none, true, []⟩,
  ⟨some 24, .faddr (.t 1) 2, some (23, false), true, []⟩,
  ⟨some 25, .ld1 (.t 24), some (23, false), true, []⟩,
  ⟨some 26, .call (.k (.c (.fn 24 [] []))) [(.t 25), (.k (.c (.int .i64 0))), (.k (.c (.int .i64 1)))], some (23, false), true, []⟩,
  ⟨some 27, .un .not (.t 26), some (23, false), true, []⟩,
  ⟨some 28, .pick 23 (.k (.c (.bool true))) (.t 27), none, true, []⟩,
  ⟨some 29, .mv (.t 28), none, true, []⟩,
  ⟨some 30, .faddr (.t 1) 3, some (29, false), true, []⟩,
  ⟨some 31, .ld1 (.t 30), some (29, false), true, []⟩,
  ⟨some 32, .call (.k (.c (.fn 24 [] []))) [(.t 31), (.k (.c (.int .i64 0))), (.k (.c (.int .i64 512)))], some (29, false), true, []⟩,
  ⟨some 33, .un .not (.t 32), some (29, false), true, []⟩,
  ⟨some 34, .pick 29 (.k (.c (.bool true))) (.t 33), none, true, []⟩,
  ⟨some 35, .mv (.t 34), none, true, []⟩,
  ⟨some 36, .faddr (.t 1) 4, some (35, false), true, []⟩,
  ⟨some 37, .ld1 (.t 36), some (35, false), true, []⟩,
  ⟨some 38, .len false (.t 37), some (35, false), true, []⟩,
  ⟨some 39, .call (.k (.c (.fn 24 [] []))) [(.t 38), (.k (.c (.int .i64 1))), (.k (.c (.int .i64 4096)))], some (35, false), true, []⟩,
  ⟨some 40, .un .not (.t 39), some (35, false), true, []⟩,
  ⟨some 41, .pick 35 (.k (.c (.bool true))) (.t 40), none, true, []⟩]
def C17r2 : List AOper := [⟨some 2, .mv (.k (.c (.bool false))), none, true, []⟩]
def C17r3 : List AOper := [⟨some 42, .faddr (.t 1) 4, none, true, []⟩,
  ⟨some 43, .ld1 (.t 42), none, true, []⟩,
  ⟨some 44, .iaddr 7 (.t 43) (.k (.c (.int .i64 0))), none, true, []⟩,
  ⟨some 45, .faddr (.t 44) 0, none, true, []⟩,
  ⟨some 46, .ld1 (.t 45), none, true, []⟩,
  ⟨some 47, .bin .neq (.t 46) (.k (.c (.int .i64 18))), none, true, []⟩,
  ⟨some 48, .mv (.t 47), none, true, []⟩,
  ⟨some 49, .faddr (.t 1) 4, some (48, false), false, []⟩,
  ⟨some 50, .ld1 (.t 49), some (48, false), false, []⟩,
  ⟨some 51, .iaddr 7 (.t 50) (.k (.c (.int .i64 0))), some (48, false), false, []⟩,
  ⟨some 52, .faddr (.t 51) 6, some (48, false), false, []⟩,
  ⟨some 53, .ld1 (.t 52), some (48, false), false, []⟩,
  ⟨some 54, .faddr (.t 1) 0, some (48, false), false, []⟩,
  ⟨some 55, .ld1 (.t 54), some (48, false), false, []⟩,
  ⟨some 56, .bin .neq (.t 53) (.t 55), some (48, false), true, []⟩,
  ⟨some 57, .pick 48 (.k (.c (.bool true))) (.t 56), none, true, []⟩]
def C17r4 : List AOper := [⟨some 2, .mv (.k (.c (.bool false))), none, true, []⟩]
def C17r5 : List AOper := [⟨some 58, .call (.k (.c (.fn 25 [] []))) [], none, true, []⟩,
  ⟨some 3, .mv (.t 58), none, true, []⟩]
def C17r6 : List AOper := [⟨some 4, .alloc 71 [.a 8 (fun _ => .bool false)], none, true, []⟩]
def C17r7 : List AOper := [⟨some 59, .faddr (.t 1) 3, none, true, []⟩,
  ⟨some 60, .ld1 (.t 59), none, true, []⟩,
  ⟨some 61, .mkslice 4 1 1 [.c (.bool false)] (.t 60) (.t 60), none, true, []⟩,
  ⟨some 5, .mv (.t 61), none, true, []⟩]
def C17r8 : List AOper := [⟨some 62, .faddr (.t 1) 4, none, true, []⟩,
  ⟨some 63, .ld1 (.t 62), none, true, []⟩,
  ⟨some 64, .len false (.t 63), none, true, []⟩,
  ⟨some 65, .mv (.k (.c (.int .i64 0))), none, true, []⟩]
def C17r9 : List AOper := [⟨some 66, .bin .lss (.t 65) (.t 64), none, true, []⟩]
def C17r10 : List AOper := [⟨some 67, .mv (.t 65), none, true, []⟩,
  ⟨some 68, .iaddr 7 (.t 63) (.t 65), none, true, []⟩,
  ⟨some 69, .ldn 7 (.t 68), none, true, []⟩,
  ⟨some 7, .alloc 34 [.c (.int .i64 0), .c (.int .i64 0), .c (.int .i64 0), .c (.int .i64 0), .c (.int .i64 0), .c (.int .i64 0), .c (.int .u64 0)], none, true, []⟩,
  ⟨some 6, .mv (.t 67), none, true, []⟩,
  ⟨none, .stn 7 (.t 7) (.t 69), none, true, []⟩]
def C17r11 : List AOper := [⟨some 70, .faddr (.t 7) 0, none, true, []⟩,
  ⟨some 71, .ld1 (.t 70), none, true, []⟩,
  ⟨some 72, .call (.k (.c (.fn 24 [] []))) [(.t 71), (.k (.c (.int .i64 1))), (.k (.c (.int .i64 22)))], none, true, []⟩,
  ⟨some 73, .un .not (.t 72), none, true, []⟩,
  ⟨some 74, .mv (.t 73), none, true, []⟩,
  ⟨some 75, .faddr (.t 7) 0, some (74, false), false, []⟩,
  ⟨some 76, .ld1 (.t 75), some (74, false), false, []⟩,
  ⟨some 77, .call (.k (.c (.fn 26 [] []))) [(.t 76)], some (74, false), false, []⟩,
  ⟨some 78, .mv (.t 6), some (74, false), false, []⟩,
  ⟨some 79, .faddr (.t 1) 4, some (74, false), false, []⟩,
  ⟨some 80, .ld1 (.t 79), some (74, false), false, []⟩,
  ⟨some 81, .len false (.t 80), some (74, false), false, []⟩,
  ⟨some 82, .bin .sub (.t 81) (.k (.c (.int .i64 1))), some (74, false), false, []⟩,
  ⟨some 83, .bin .eql (.t 78) (.t 82), some (74, false), false, []⟩,
  ⟨some 84, .eqB true (.t 77) (.t 83), some (74, false), true, []⟩,
  ⟨some 85, .pick 74 (.k (.c (.bool true))) (.t 84), none, true, []⟩,
  ⟨some 86, .mv (.t 85), none, true, []⟩,
  ⟨some 87, .ldn 7 (.t 7), some (86, false), false, []⟩,
  ⟨some 88, .faddr (.t 1) 3, some (86, false), false, []⟩,
  ⟨some 89, .ld1 (.t 88), some (86, false), false, []⟩,
  ⟨some 90, .call (.k (.c (.fn 27 [] []))) [(.t 87), (.t 89)], some (86, false), true, []⟩,
  ⟨some 91, .un .not (.t 90), some (86, false), true, []⟩,
  ⟨some 92, .pick 86 (.k (.c (.bool true))) (.t 91), none, true, []⟩]
def C17r12 : List AOper := [⟨some 2, .mv (.k (.c (.bool false))), none, true, []⟩]
def C17r13 : List AOper := [⟨some 93, .mv (.t 3), none, true, []⟩,
  ⟨some 94, .faddr (.t 7) 0, none, true, []⟩,
  ⟨some 95, .ld1 (.t 94), none, true, []⟩,
  ⟨some 96, .iaddr 2 (.t 93) (.t 95), none, true, []⟩,
  ⟨some 97, .faddr (.t 96) 1, none, true, []⟩,
  ⟨some 98, .ld1 (.t 97), none, true, []⟩,
  ⟨some 8, .mv (.t 98), none, true, []⟩]
def C17r14 : List AOper := [⟨some 99, .faddr (.t 7) 1, none, true, []⟩,
  ⟨some 100, .ld1 (.t 99), none, true, []⟩,
  ⟨some 101, .build [.c (.int .i64 0), .c (.int .i64 0)] [(0, 1, (.k (.c (.int .i64 1)))), (1, 1, (.t 100))], none, true, []⟩,
  ⟨some 102, .faddr (.t 7) 5, none, true, []⟩,
  ⟨some 103, .ld1 (.t 102), none, true, []⟩,
  ⟨some 104, .build [.c (.int .i64 0), .c (.int .i64 0)] [(0, 1, (.k (.c (.int .i64 16)))), (1, 1, (.t 103))], none, true, []⟩,
  ⟨some 105, .bslice 76 2 [.c (.int .i64 0), .c (.int .i64 0)] 2 [(0, 2, (.t 101)), (2, 2, (.t 104))], none, true, []⟩,
  ⟨some 106, .len false (.t 105), none, true, []⟩,
  ⟨some 107, .mv (.k (.c (.int .i64 0))), none, true, []⟩]
def C17r15 : List AOper := [⟨some 108, .bin .lss (.t 107) (.t 106), none, true, []⟩]
def C17r16 : List AOper := [⟨some 109, .iaddr 2 (.t 105) (.t 107), none, true, []⟩,
  ⟨some 110, .ldn 2 (.t 109), none, true, []⟩,
  ⟨some 10, .alloc 76 [.c (.int .i64 0), .c (.int .i64 0)], none, true, []⟩,
  ⟨none, .stn 2 (.t 10) (.t 110), none, true, []⟩]
def C17r17 : List AOper := [⟨some 111, .mv (.t 8), none, true, []⟩,
  ⟨some 112, .faddr (.t 10) 0, none, true, []⟩,
  ⟨some 113, .ld1 (.t 112), none, true, []⟩,
  ⟨some 114, .bin .and (.t 111) (.t 113), none, true, []⟩,
  ⟨some 115, .bin .eql (.t 114) (.k (.c (.int .i64 0))), none, true, []⟩,
  ⟨some 116, .mv (.t 115), none, true, []⟩,
  ⟨some 117, .faddr (.t 10) 1, some (116, true), true, []⟩,
  ⟨some 118, .ld1 (.t 117), some (116, true), true, []⟩,
  ⟨some 119, .bin .neq (.t 118) (.k (.c (.int .i64 0))), some (116, true), true, []⟩,
  ⟨some 120, .pick 116 (.t 119) (.k (.c (.bool false))), none, true, []⟩]
def C17r18 : List AOper := [⟨some 2, .mv (.k (.c (.bool false))), none, true, []⟩]
def C17r19 : List AOper := [⟨some 121, .bin .add (.t 107) (.k (.c (.int .i64 1))), none, true, []⟩,
  ⟨some 107, .mv (.t 121), none, true, []⟩]
def C17r20 : List AOper := [⟨some 122, .mv (.t 8), none, true, []⟩,
  ⟨some 123, .bin .and (.t 122) (.k (.c (.int .i64 32))), none, true, []⟩,
  ⟨some 124, .bin .eql (.t 123) (.k (.c (.int .i64 0))), none, true, []⟩,
  ⟨some 125, .mv (.t 124), none, true, []⟩,
  ⟨some 126, .faddr (.t 7) 6, some (125, true), true, []⟩,
  ⟨some 127, .ld1 (.t 126), some (125, true), true, []⟩,
  ⟨some 128, .bin .neq (.t 127) (.k (.c (.int .u64 0))), some (125, true), true, []⟩,
  ⟨some 129, .pick 125 (.t 128) (.k (.c (.bool false))), none, true, []⟩]
def C17r21 : List AOper := [⟨some 2, .mv (.k (.c (.bool false))), none, true, []⟩]
def C17r22 : List AOper := [⟨some 130, .faddr (.t 7) 3, none, true, []⟩,
  ⟨some 131, .ld1 (.t 130), none, true, []⟩,
  ⟨some 132, .build [.c (.int .i64 0), .c (.int .i64 0)] [(0, 1, (.k (.c (.int .i64 4)))), (1, 1, (.t 131))], none, true, []⟩,
  ⟨some 133, .faddr (.t 7) 4, none, true, []⟩,
  ⟨some 134, .ld1 (.t 133), none, true, []⟩,
  ⟨some 135, .build [.c (.int .i64 0), .c (.int .i64 0)] [(0, 1, (.k (.c (.int .i64 8)))), (1, 1, (.t 134))], none, true, []⟩,
  ⟨some 136, .faddr (.t 7) 2, none, true, []⟩,
  ⟨some 137, .ld1 (.t 136), none, true, []⟩,
  ⟨some 138, .build [.c (.int .i64 0), .c (.int .i64 0)] [(0, 1, (.k (.c (.int .i64 2)))), (1, 1, (.t 137))], none, true, []⟩,
  ⟨some 139, .bslice 76 2 [.c (.int .i64 0), .c (.int .i64 0)] 3 [(0, 2, (.t 132)), (2, 2, (.t 135)), (4, 2, (.t 138))], none, true, []⟩,
  ⟨some 140, .len false (.t 139), none, true, []⟩,
  ⟨some 141, .mv (.k (.c (.int .i64 0))), none, true, []⟩]
def C17r23 : List AOper := [⟨some 142, .bin .lss (.t 141) (.t 140), none, true, []⟩]
def C17r24 : List AOper := [⟨some 143, .iaddr 2 (.t 139) (.t 141), none, true, []⟩,
  ⟨some 144, .ldn 2 (.t 143), none, true, []⟩,
  ⟨some 12, .alloc 76 [.c (.int .i64 0), .c (.int .i64 0)], none, true, []⟩,
  ⟨none, .stn 2 (.t 12) (.t 144), none, true, []⟩]
def C17r25 : List AOper := [⟨some 146, .mv (.t 8), none, true, []⟩,
  ⟨some 147, .faddr (.t 12) 0, none, true, []⟩,
  ⟨some 148, .ld1 (.t 147), none, true, []⟩,
  ⟨some 149, .bin .and (.t 146) (.t 148), none, true, []⟩,
  ⟨some 150, .bin .eql (.t 149) (.k (.c (.int .i64 0))), none, true, []⟩,
  ⟨some 151, .mv (.t 150), none, true, []⟩,
  ⟨some 152, .faddr (.t 12) 1, some (151, true), true, []⟩,
  ⟨some 153, .ld1 (.t 152), some (151, true), true, []⟩,
  ⟨some 154, .bin .neq (.t 153) (.k (.c (.int .i64 0))), some (151, true), true, []⟩,
  ⟨some 155, .pick 151 (.t 154) (.k (.c (.bool false))), none, true, []⟩,
  ⟨some 145, .mv (.t 155), none, true, []⟩]
def C17r26 : List AOper := [⟨some 156, .faddr (.t 12) 1, none, true, []⟩,
  ⟨some 157, .ld1 (.t 156), none, true, []⟩,
  ⟨some 158, .call (.k (.c (.fn 24 [] []))) [(.t 157), (.k (.c (.int .i64 0))), (.k (.c (.int .i64 7)))], none, true, []⟩,
  ⟨some 159, .un .not (.t 158), none, true, []⟩,
  ⟨some 145, .mv (.t 159), none, true, []⟩]
def C17r27 : List AOper := [⟨some 2, .mv (.k (.c (.bool false))), none, true, []⟩]
def C17r28 : List AOper := [⟨some 161, .mv (.t 8), none, true, []⟩,
  ⟨some 162, .faddr (.t 12) 0, none, true, []⟩,
  ⟨some 163, .ld1 (.t 162), none, true, []⟩,
  ⟨some 164, .bin .and (.t 161) (.t 163), none, true, []⟩,
  ⟨some 165, .bin .neq (.t 164) (.k (.c (.int .i64 0))), none, true, []⟩,
  ⟨some 166, .mv (.t 165), none, true, []⟩,
  ⟨some 167, .faddr (.t 12) 0, some (166, true), true, []⟩,
  ⟨some 168, .ld1 (.t 167), some (166, true), true, []⟩,
  ⟨some 169, .bin .neq (.t 168) (.k (.c (.int .i64 2))), some (166, true), true, []⟩,
  ⟨some 170, .pick 166 (.t 169) (.k (.c (.bool false))), none, true, []⟩,
  ⟨some 171, .mv (.t 170), none, true, []⟩,
  ⟨some 172, .faddr (.t 12) 1, some (171, true), true, []⟩,
  ⟨some 173, .ld1 (.t 172), some (171, true), true, []⟩,
  ⟨some 174, .iaddrA 8 (.t 4) (.t 173), some (171, true), true, []⟩,
  ⟨some 175, .ld1 (.t 174), some (171, true), true, []⟩,
  ⟨some 176, .un .not (.t 175), some (171, true), true, []⟩,
  ⟨some 177, .pick 171 (.t 176) (.k (.c (.bool false))), none, true, []⟩,
  ⟨some 160, .mv (.t 177), none, true, []⟩]
def C17r29 : List AOper := [⟨some 2, .mv (.k (.c (.bool false))), none, true, []⟩]
def C17r30 : List AOper := [⟨some 178, .bin .add (.t 141) (.k (.c (.int .i64 1))), none, true, []⟩,
  ⟨some 141, .mv (.t 178), none, true, []⟩]
def C17r31 : List AOper := [⟨some 179, .mv (.t 8), none, true, []⟩,
  ⟨some 180, .bin .and (.t 179) (.k (.c (.int .i64 64))), none, true, []⟩,
  ⟨some 181, .bin .neq (.t 180) (.k (.c (.int .i64 0))), none, true, []⟩,
  ⟨some 182, .mv (.t 181), none, true, []⟩,
  ⟨some 183, .mv (.t 5), some (182, true), true, []⟩,
  ⟨some 184, .faddr (.t 7) 6, some (182, true), true, []⟩,
  ⟨some 185, .ld1 (.t 184), some (182, true), true, []⟩,
  ⟨some 186, .iaddr 1 (.t 183) (.t 185), some (182, true), true, []⟩,
  ⟨some 187, .ld1 (.t 186), some (182, true), true, []⟩,
  ⟨some 188, .un .not (.t 187), some (182, true), true, []⟩,
  ⟨some 189, .pick 182 (.t 188) (.k (.c (.bool false))), none, true, []⟩]
def C17r32 : List AOper := [⟨some 2, .mv (.k (.c (.bool false))), none, true, []⟩]
def C17r33 : List AOper := [⟨some 190, .mv (.t 8), none, true, []⟩,
  ⟨some 191, .bin .and (.t 190) (.k (.c (.int .i64 128))), none, true, []⟩,
  ⟨some 192, .bin .neq (.t 191) (.k (.c (.int .i64 0))), none, true, []⟩]
def C17r34 : List AOper := [⟨some 193, .mv (.t 5), none, true, []⟩,
  ⟨some 194, .faddr (.t 7) 6, none, true, []⟩,
  ⟨some 195, .ld1 (.t 194), none, true, []⟩,
  ⟨some 196, .iaddr 1 (.t 193) (.t 195), none, true, []⟩,
  ⟨none, .st1 (.t 196) (.k (.c (.bool true))), none, true, []⟩]
def C17r35 : List AOper := [⟨some 197, .mv (.t 8), none, true, []⟩,
  ⟨some 198, .bin .and (.t 197) (.k (.c (.int .i64 2))), none, true, []⟩,
  ⟨some 199, .bin .neq (.t 198) (.k (.c (.int .i64 0))), none, true, []⟩]
def C17r36 : List AOper := [⟨some 200, .faddr (.t 7) 2, none, true, []⟩,
  ⟨some 201, .ld1 (.t 200), none, true, []⟩,
  ⟨some 202, .iaddrA 8 (.t 4) (.t 201), none, true, []⟩,
  ⟨none, .st1 (.t 202) (.k (.c (.bool true))), none, true, []⟩]
def C17r37 : List AOper := [⟨some 203, .bin .add (.t 65) (.k (.c (.int .i64 1))), none, true, []⟩,
  ⟨some 65, .mv (.t 203), none, true, []⟩]
def C17r38 : List AOper := [⟨some 2, .mv (.k (.c (.bool true))), none, true, []⟩]
def C17 : ACode :=
  .seq (.region C17r0)
  (.seq (.seq (.region C17r1)
  (.cond (.t 41)
   (.seq (.region C17r2)
   (.ret))
   (.skip)))
  (.seq (.seq (.region C17r3)
  (.cond (.t 57)
   (.seq (.region C17r4)
   (.ret))
   (.skip)))
  (.seq (.region C17r5)
  (.seq (.region C17r6)
  (.seq (.region C17r7)
  (.seq (.seq (.region C17r8)
  (.block 0
   (.loop
    (.seq (.region C17r9)
    (.seq (.cond (.t 66)
     (.skip)
     (.exit 0))
    (.seq (.block 1
     (.seq (.region C17r10)
     (.seq (.seq (.region C17r11)
     (.cond (.t 92)
      (.seq (.region C17r12)
      (.ret))
      (.skip)))
     (.seq (.region C17r13)
     (.seq (.seq (.region C17r14)
     (.block 2
      (.loop
       (.seq (.region C17r15)
       (.seq (.cond (.t 108)
        (.skip)
        (.exit 2))
       (.seq (.block 3
        (.seq (.region C17r16)
        (.seq (.region C17r17)
        (.cond (.t 120)
         (.seq (.region C17r18)
         (.ret))
         (.skip)))))
       (.region C17r19)))))))
     (.seq (.seq (.region C17r20)
     (.cond (.t 129)
      (.seq (.region C17r21)
      (.ret))
      (.skip)))
     (.seq (.seq (.region C17r22)
     (.block 4
      (.loop
       (.seq (.region C17r23)
       (.seq (.cond (.t 142)
        (.skip)
        (.exit 4))
       (.seq (.block 5
        (.seq (.region C17r24)
        (.block 6
         (.seq (.seq (.region C17r25)
         (.cond (.t 145)
          (.skip)
          (.region C17r26)))
         (.cond (.t 145)
          (.seq (.region C17r27)
          (.ret))
          (.seq (.region C17r28)
          (.cond (.t 160)
           (.seq (.region C17r29)
           (.ret))
           (.skip))))))))
       (.region C17r30)))))))
     (.seq (.seq (.region C17r31)
     (.cond (.t 189)
      (.seq (.region C17r32)
      (.ret))
      (.skip)))
     (.seq (.seq (.region C17r33)
     (.cond (.t 192)
      (.region C17r34)
      (.skip)))
     (.seq (.region C17r35)
     (.cond (.t 199)
      (.region C17r36)
      (.skip))))))))))))
    (.region C17r37)))))))
  (.seq (.region C17r38)
  (.ret))))))))
theorem C17_ok : stripF Try.prog Try.f17 = some C17 := by kernel_rfl
/-! understudy/regs.Right -/
def C18r0 : List AOper := [⟨some 1, .box 29 (.t 0), none, true, []⟩,
  ⟨some 2, .mv (.k (.c (.bool false))), none, true, []⟩]
def C18r1 : List AOper := [⟨some 3, .ldn 49 (.t 1), none, true, []⟩,
  ⟨some 4, .call (.k (.c (.fn 28 [] []))) [(.t 3)], none, true, []⟩,
  ⟨some 5, .mv (.t 4), none, true, []⟩,
  ⟨some 6, .faddr (.t 1) 47, some (5, true), true, []⟩,
  ⟨some 7, .ld1 (.t 6), some (5, true), true, []⟩,
  ⟨some 8, .bin .geq (.t 7) (.k (.c (.int .i64 0))), some (5, true), true, []⟩,
  ⟨some 9, .pick 5 (.t 8) (.k (.c (.bool false))), none, true, []⟩,
  ⟨some 10, .mv (.t 9), none, true, []⟩,
  ⟨some 11, .faddr (.t 1) 47, some (10, true), true, []⟩,
  ⟨some 12, .ld1 (.t 11), some (10, true), true, []⟩,
  ⟨some 13, .bin .leq (.t 12) (.k (.c (.int .i64 2))), some (10, true), true, []⟩,
  ⟨some 14, .pick 10 (.t 13) (.k (.c (.bool false))), none, true, []⟩,
  ⟨some 15, .mv (.t 14), none, true, []⟩,
  ⟨some 16, .faddr (.t 1) 46, some (15, true), true, []⟩,
  ⟨some 17, .ld1 (.t 16), some (15, true), true, []⟩,
  ⟨some 18, .bin .geq (.t 17) (.k (.c (.int .i64 0))), some (15, true), true, []⟩,
  ⟨some 19, .pick 15 (.t 18) (.k (.c (.bool false))), none, true, []⟩,
  ⟨some 20, .mv (.t 19), none, true, []⟩,
  ⟨some 21, .faddr (.t 1) 46, some (20, true), true, []⟩,
  ⟨some 22, .ld1 (.t 21), some (20, true), true, []⟩,
  ⟨some 23, .bin .lss (.t 22) (.k (.c (.int .i64 8))), some (20, true), true, []⟩,
  ⟨some 24, .pick 20 (.t 23) (.k (.c (.bool false))), none, true, []⟩,
  ⟨some 2, .mv (.t 24), none, true, []⟩]
def C18 : ACode :=
  .seq (.region C18r0)
  (.seq (.region C18r1)
  (.ret))
theorem C18_ok : stripF Try.prog Try.f18 = some C18 := by kernel_rfl
/-! understudy/understudyref21.Right -/
def C19r0 : List AOper := [⟨some 1, .box 25 (.t 0), none, true, []⟩,
  ⟨some 2, .mv (.k (.c (.bool false))), none, true, []⟩]
def C19r1 : List AOper := [⟨some 13, .faddr (.t 1) 4, none, true, []⟩,
  ⟨some 14, .ld1 (.t 13), none, true, []⟩,
  ⟨some 15, .len false (.t 14), none, true, []⟩,
  ⟨some 3, .mv (.t 15), none, true, []⟩]
def C19r2 : List AOper := [⟨some 16, .faddr (.t 1) 0, none, true, []⟩,
  ⟨some 17, .ld1 (.t 16), none, true, []⟩,
  ⟨some 18, .bin .rem (.t 17) (.k (.c (.int .u64 4))), none, true, []⟩,
  ⟨some 19, .bin .neq (.t 18) (.k (.c (.int .u64 0))), none, true, []⟩,
  ⟨some 20, .mv (.t 19), none, true, []⟩,
  ⟨some 21, .faddr (.t 1) 1, some (20, false), true, []⟩,
  ⟨some 22, .ld1 (.t 21), some (20, false), true, []⟩,
  ⟨some 23, .call (.k (.c (.fn 29 [] []))) [(.t 22), (.k (.c (.int .i64 1))), (.k (.c (.int .i64 16)))], some (20, false), true, []⟩,
  ⟨some 24, .un .not (.t 23), some (20, false), true, []⟩,
  ⟨some 25, .pick 20 (.k (.c (.bool true))) (.t 24), none, true, []⟩,
  ⟨some 26, .mv (.t 25), none, true, []⟩,
  ⟨some 27, .faddr (.t 1) 2, some (26, false), true, []⟩,
  ⟨some 28, .ld1 (.t 27), some (26, false), true, []⟩,
  ⟨some 29, .call (.k (.c (.fn 29 [] []))) [(.t 28), (.k (.c (.int .i64 0))), (.k (.c (.int .i64 1)))], some (26, false), true, []⟩,
  ⟨some 30, .un .not (.t 29), some (26, false), true, []⟩,
  ⟨some 31, .pick 26 (.k (.c (.bool true))) (.t 30), none, true, []⟩,
  ⟨some 32, .mv (.t 31), none, true, []⟩,
  ⟨some 33, .faddr (.t 1) 3, some (32, false), true, []⟩,
  ⟨some 34, .ld1 (.t 33), some (32, false), true, []⟩,
  ⟨some 35, .call (.k (.c (.fn 29 [] []))) [(.t 34), (.k (.c (.int .i64 0))), (.k (.c (.int .i64 512)))], some (32, false), true, []⟩,
  ⟨some 36, .un .not (.t 35), some (32, false), true, []⟩,
  ⟨some 37, .pick 32 (.k (.c (.bool true))) (.t 36), none, true, []⟩,
  ⟨some 38, .mv (.t 37), none, true, []⟩,
  ⟨some 39, .mv (.t 3), some (38, false), true, []⟩,
  ⟨some 40, .call (.k (.c (.fn 29 [] []))) [(.t 39), (.k (.c (.int .i64 1))), (.k (.c (.int .i64 4096)))], some (38, false), true, []⟩,
  ⟨some 41, .un .not (.t 40), some (38, false), true, []⟩,
  ⟨some 42, .pick 38 (.k (.c (.bool true))) (.t 41), none, true, []⟩,
  ⟨some 43, .mv (.t 42), none, true, []⟩,
  ⟨some 44, .faddr (.t 1) 4, some (43, false), true, []⟩,
  ⟨some 45, .ld1 (.t 44), some (43, false), true, []⟩,
  ⟨some 46, .iaddr 7 (.t 45) (.k (.c (.int .i64 0))), some (43, false), true, []⟩,
  ⟨some 47, .faddr (.t 46) 0, some (43, false), true, []⟩,
  ⟨some 48, .ld1 (.t 47), some (43, false), true, []⟩,
  ⟨some 49, .bin .neq (.t 48) (.k (.c (.int .i64 18))), some (43, false), true, []⟩,
  ⟨some 50, .pick 43 (.k (.c (.bool true))) (.t 49), none, true, []⟩,
  ⟨some 51, .mv (.t 50), none, true, []⟩,
  ⟨some 52, .faddr (.t 1) 4, some (51, false), false, []⟩,
  ⟨some 53, .ld1 (.t 52), some (51, false), false, []⟩,
  ⟨some 54, .iaddr 7 (.t 53) (.k (.c (.int .i64 0))), some (51, false), false, []⟩,
  ⟨some 55, .faddr (.t 54) 6, some (51, false), false, []⟩,
  ⟨some 56, .ld1 (.t 55), some (51, false), false, []⟩,
  ⟨some 57, .faddr (.t 1) 0, some (51, false), false, []⟩,
  ⟨some 58, .ld1 (.t 57), some (51, false), false, []⟩,
  ⟨some 59, .bin .neq (.t 56) (.t 58), some (51, false), true, []⟩,
  ⟨some 60, .pick 51 (.k (.c (.bool true))) (.t 59), none, true, []⟩]
def C19r3 : List AOper := [⟨some 2, .mv (.k (.c (.bool false))), none, true, []⟩]
def C19r4 : List AOper := [⟨some 61, .mkslice 4 1 1 [.c (.bool false)] (.k (.c (.int .i64 8))) (.k (.c (.int .i64 8))), none, true, []⟩,
  ⟨some 4, .mv (.t 61), none, true, []⟩]
def C19r5 : List AOper := [⟨some 62, .faddr (.t 1) 3, none, true, []⟩,
  ⟨some 63, .ld1 (.t 62), none, true, []⟩,
  ⟨some 64, .mkslice 4 1 1 [.c (.bool false)] (.t 63) (.t 63), none, true, []⟩,
  ⟨some 5, .mv (.t 64), none, true, []⟩]
def C19r6 : List AOper := [⟨some 6, .mv (.k (.c (.int .i64 0))), none, true, []⟩]
def C19r7 : List AOper := [⟨some 65, .mv (.t 6), none, true, []⟩,
  ⟨some 66, .mv (.t 3), none, true, []⟩,
  ⟨some 67, .bin .lss (.t 65) (.t 66), none, true, []⟩]
def C19r8 : List AOper := [⟨some 70, .faddr (.t 1) 4, none, true, []⟩,
  ⟨some 71, .ld1 (.t 70), none, true, []⟩,
  ⟨some 72, .mv (.t 6), none, true, []⟩,
  ⟨some 73, .iaddr 7 (.t 71) (.t 72), none, true, []⟩,
  ⟨some 74, .ldn 7 (.t 73), none, true, []⟩,
  ⟨some 7, .alloc 34 [.c (.int .i64 0), .c (.int .i64 0), .c (.int .i64 0), .c (.int .i64 0), .c (.int .i64 0), .c (.int .i64 0), .c (.int .u64 0)], none, true, []⟩,
  ⟨none, .stn 7 (.t 7) (.t 74), none, true, []⟩]
def C19r9 : List AOper := [⟨some 75, .ldn 7 (.t 7), none, true, []⟩,
  ⟨some 76, .mv (.t 4), none, true, []⟩,
  ⟨some 77, .mv (.t 5), none, true, []⟩,
  ⟨some 78, .call (.k (.c (.fn 30 [] []))) [(.t 75), (.t 76), (.t 77)], none, true, []⟩,
  ⟨some 8, .mv (.t 78), none, true, []⟩]
def C19r10 : List AOper := [⟨some 79, .faddr (.t 7) 0, none, true, []⟩,
  ⟨some 80, .ld1 (.t 79), none, true, []⟩,
  ⟨some 81, .bin .eql (.t 80) (.k (.c (.int .i64 20))), none, true, []⟩,
  ⟨some 82, .mv (.t 81), none, true, []⟩,
  ⟨some 83, .faddr (.t 7) 0, some (82, false), true, []⟩,
  ⟨some 84, .ld1 (.t 83), some (82, false), true, []⟩,
  ⟨some 85, .bin .eql (.t 84) (.k (.c (.int .i64 21))), some (82, false), true, []⟩,
  ⟨some 86, .pick 82 (.k (.c (.bool true))) (.t 85), none, true, []⟩,
  ⟨some 87, .mv (.t 86), none, true, []⟩,
  ⟨some 88, .faddr (.t 7) 0, some (87, false), true, []⟩,
  ⟨some 89, .ld1 (.t 88), some (87, false), true, []⟩,
  ⟨some 90, .bin .eql (.t 89) (.k (.c (.int .i64 22))), some (87, false), true, []⟩,
  ⟨some 91, .pick 87 (.k (.c (.bool true))) (.t 90), none, true, []⟩,
  ⟨some 9, .mv (.t 91), none, true, []⟩]
def C19r11 : List AOper := [⟨some 92, .mv (.t 8), none, true, []⟩,
  ⟨some 93, .un .not (.t 92), none, true, []⟩,
  ⟨some 94, .mv (.t 93), none, true, []⟩,
  ⟨some 95, .mv (.t 9), some (94, false), true, []⟩,
  ⟨some 96, .mv (.t 6), some (94, false), true, []⟩,
  ⟨some 97, .mv (.t 3), some (94, false), true, []⟩,
  ⟨some 98, .bin .sub (.t 97) (.k (.c (.int .i64 1))), some (94, false), true, []⟩,
  ⟨some 99, .bin .eql (.t 96) (.t 98), some (94, false), true, []⟩,
  ⟨some 100, .eqB true (.t 95) (.t 99), some (94, false), true, []⟩,
  ⟨some 101, .pick 94 (.k (.c (.bool true))) (.t 100), none, true, []⟩]
def C19r12 : List AOper := [⟨some 2, .mv (.k (.c (.bool false))), none, true, []⟩]
def C19r13 : List AOper := [⟨some 103, .faddr (.t 7) 0, none, true, []⟩,
  ⟨some 104, .ld1 (.t 103), none, true, []⟩,
  ⟨some 105, .call (.k (.c (.fn 31 [] []))) [(.t 104)], none, true, []⟩,
  ⟨some 102, .mv (.t 105), none, true, []⟩,
  ⟨some 106, .ext (.t 102) 0, none, true, []⟩,
  ⟨some 107, .ext (.t 102) 1, none, true, []⟩,
  ⟨some 10, .mv (.t 106), none, true, []⟩,
  ⟨some 11, .mv (.t 107), none, true, []⟩]
def C19r14 : List AOper := [⟨some 108, .mv (.t 11), none, true, []⟩,
  ⟨some 109, .call (.k (.c (.fn 32 [] []))) [(.t 108), (.k (.c (.int .u8 68)))], none, true, []⟩,
  ⟨some 12, .mv (.t 109), none, true, []⟩]
def C19r15 : List AOper := [⟨some 110, .mv (.t 12), none, true, []⟩]
def C19r16 : List AOper := [⟨some 111, .mv (.t 4), none, true, []⟩,
  ⟨some 112, .faddr (.t 7) 2, none, true, []⟩,
  ⟨some 113, .ld1 (.t 112), none, true, []⟩,
  ⟨some 114, .iaddr 1 (.t 111) (.t 113), none, true, []⟩,
  ⟨none, .st1 (.t 114) (.k (.c (.bool true))), none, true, []⟩]
def C19r17 : List AOper := [⟨some 115, .faddr (.t 7) 0, none, true, []⟩,
  ⟨some 116, .ld1 (.t 115), none, true, []⟩,
  ⟨some 117, .bin .eql (.t 116) (.k (.c (.int .i64 4))), none, true, []⟩]
def C19r18 : List AOper := [⟨some 118, .mv (.t 5), none, true, []⟩,
  ⟨some 119, .faddr (.t 7) 6, none, true, []⟩,
  ⟨some 120, .ld1 (.t 119), none, true, []⟩,
  ⟨some 121, .iaddr 1 (.t 118) (.t 120), none, true, []⟩,
  ⟨none, .st1 (.t 121) (.k (.c (.bool true))), none, true, []⟩]
def C19r19 : List AOper := [⟨some 68, .mv (.t 6), none, true, []⟩,
  ⟨some 69, .bin .add (.t 68) (.k (.c (.int .i64 1))), none, true, []⟩,
  ⟨some 6, .mv (.t 69), none, true, []⟩]
def C19r20 : List AOper := [⟨some 2, .mv (.k (.c (.bool true))), none, true, []⟩]
def C19 : ACode :=
  .seq (.region C19r0)
  (.seq (.region C19r1)
  (.seq (.seq (.region C19r2)
  (.cond (.t 60)
   (.seq (.region C19r3)
   (.ret))
   (.skip)))
  (.seq (.region C19r4)
  (.seq (.region C19r5)
  (.seq (.seq (.region C19r6)
  (.block 0
   (.loop
    (.seq (.seq (.region C19r7)
    (.cond (.t 67)
     (.skip)
     (.exit 0)))
    (.seq (.block 1
     (.seq (.region C19r8)
     (.seq (.region C19r9)
     (.seq (.region C19r10)
     (.seq (.seq (.region C19r11)
     (.cond (.t 101)
      (.seq (.region C19r12)
      (.ret))
      (.skip)))
     (.seq (.region C19r13)
     (.seq (.region C19r14)
     (.seq (.seq (.region C19r15)
     (.cond (.t 110)
      (.region C19r16)
      (.skip)))
     (.seq (.region C19r17)
     (.cond (.t 117)
      (.region C19r18)
      (.skip)))))))))))
    (.region C19r19))))))
  (.seq (.region C19r20)
  (.ret)))))))
theorem C19_ok : stripF Try.prog Try.f19 = some C19 := by kernel_rfl
/-! understudy/understudyref04.Right -/
def C20r0 : List AOper := [⟨some 1, .box 29 (.t 0), none, true, []⟩,
  ⟨some 2, .mv (.k (.c (.bool false))), none, true, []⟩]
def C20r1 : List AOper := [⟨some 3, .faddr (.t 1) 38, none, true, []⟩,
  ⟨some 4, .ld1 (.t 3), none, true, []⟩,
  ⟨some 5, .bin .eql (.t 4) (.k (.c (.int .i64 0))), none, true, []⟩,
  ⟨some 6, .mv (.t 5), none, true, []⟩,
  ⟨some 7, .faddr (.t 1) 38, some (6, false), true, []⟩,
  ⟨some 8, .ld1 (.t 7), some (6, false), true, []⟩,
  ⟨some 9, .bin .eql (.t 8) (.k (.c (.int .i64 1))), some (6, false), true, []⟩,
  ⟨some 10, .pick 6 (.k (.c (.bool true))) (.t 9), none, true, []⟩,
  ⟨some 11, .mv (.t 10), none, true, []⟩,
  ⟨some 12, .faddr (.t 1) 47, some (11, true), true, []⟩,
  ⟨some 13, .ld1 (.t 12), some (11, true), true, []⟩,
  ⟨some 14, .bin .geq (.t 13) (.k (.c (.int .i64 0))), some (11, true), true, []⟩,
  ⟨some 15, .pick 11 (.t 14) (.k (.c (.bool false))), none, true, []⟩,
  ⟨some 16, .mv (.t 15), none, true, []⟩,
  ⟨some 17, .faddr (.t 1) 47, some (16, true), true, []⟩,
  ⟨some 18, .ld1 (.t 17), some (16, true), true, []⟩,
  ⟨some 19, .bin .leq (.t 18) (.k (.c (.int .i64 2))), some (16, true), true, []⟩,
  ⟨some 20, .pick 16 (.t 19) (.k (.c (.bool false))), none, true, []⟩,
  ⟨some 21, .mv (.t 20), none, true, []⟩,
  ⟨some 22, .faddr (.t 1) 46, some (21, true), true, []⟩,
  ⟨some 23, .ld1 (.t 22), some (21, true), true, []⟩,
  ⟨some 24, .bin .geq (.t 23) (.k (.c (.int .i64 0))), some (21, true), true, []⟩,
  ⟨some 25, .pick 21 (.t 24) (.k (.c (.bool false))), none, true, []⟩,
  ⟨some 26, .mv (.t 25), none, true, []⟩,
  ⟨some 27, .faddr (.t 1) 46, some (26, true), true, []⟩,
  ⟨some 28, .ld1 (.t 27), some (26, true), true, []⟩,
  ⟨some 29, .bin .leq (.t 28) (.k (.c (.int .i64 7))), some (26, true), true, []⟩,
  ⟨some 30, .pick 26 (.t 29) (.k (.c (.bool false))), none, true, []⟩,
  ⟨some 2, .mv (.t 30), none, true, []⟩]
def C20 : ACode :=
  .seq (.region C20r0)
  (.seq (.region C20r1)
  (.ret))
theorem C20_ok : stripF Try.prog Try.f20 = some C20 := by kernel_rfl
/-! (*understudy/micro.Run).world -/
def C21r0 : List AOper := [⟨some 3, .box 34 (.t 1), none, true, []⟩,
  ⟨some 4, .mv (.k (.c (.bool false))), none, true, []⟩]
def C21r1 : List AOper := [⟨some 6, .mv (.t 0), none, false, []⟩,
  ⟨some 7, .faddr (.t 3) 3, none, false, []⟩,
  ⟨some 8, .ld1 (.t 7), none, false, []⟩,
  ⟨some 9, .nilchk (.t 6), none, false, []⟩,
  ⟨some 10, .faddr (.t 9) 54, none, false, []⟩,
  ⟨some 11, .iaddrA 8 (.t 10) (.t 8), none, true, []⟩,
  ⟨some 12, .ld1 (.t 11), none, true, []⟩,
  ⟨some 5, .mv (.t 12), none, true, []⟩]
def C21r2 : List AOper := [⟨some 13, .faddr (.t 3) 0, none, true, []⟩,
  ⟨some 14, .ld1 (.t 13), none, true, []⟩]
def C21r3 : List AOper := [⟨some 16, .bin .eql (.t 14) (.k (.c (.int .i64 12))), none, true, []⟩,
  ⟨some 15, .mv (.t 16), none, true, []⟩]
def C21r4 : List AOper := [⟨some 17, .mv (.t 0), none, true, []⟩,
  ⟨some 18, .mv (.t 0), none, true, []⟩,
  ⟨some 19, .mv (.t 5), none, true, []⟩,
  ⟨some 20, .faddr (.t 3) 5, none, true, []⟩,
  ⟨some 21, .ld1 (.t 20), none, true, []⟩,
  ⟨some 22, .call (.k (.c (.fn 33 [] []))) [(.t 21)], none, true, []⟩,
  ⟨some 23, .build [.c (.int .i64 0), .c (.int .u64 0), .c (.int .u64 0), .c (.int .i64 0), .c (.bool false), .c (.int .i64 0), .c (.bool false), .c (.int .i64 0), .c (.int .i64 0), .c (.int .i64 0)] [(0, 1, (.k (.c (.int .i64 1)))), (1, 1, (.t 19)), (3, 1, (.t 22))], none, true, []⟩,
  ⟨some 24, .mv (.t 0), none, true, []⟩,
  ⟨some 25, .mkfn 34 [(.t 24)] [], none, true, []⟩,
  ⟨some 26, .nilchk (.t 17), none, true, []⟩,
  ⟨some 27, .faddr (.t 26) 64, none, true, []⟩,
  ⟨none, .stn 10 (.t 27) (.t 23), none, true, []⟩,
  ⟨some 28, .nilchk (.t 18), none, true, []⟩,
  ⟨some 29, .faddr (.t 28) 74, none, true, []⟩,
  ⟨none, .st1 (.t 29) (.t 25), none, true, []⟩]
def C21r5 : List AOper := [⟨some 31, .bin .eql (.t 14) (.k (.c (.int .i64 14))), none, true, []⟩,
  ⟨some 30, .mv (.t 31), none, true, []⟩]
def C21r6 : List AOper := [⟨some 32, .mv (.t 0), none, true, []⟩,
  ⟨some 33, .mv (.t 0), none, true, []⟩,
  ⟨some 34, .mv (.t 5), none, true, []⟩,
  ⟨some 35, .faddr (.t 3) 5, none, true, []⟩,
  ⟨some 36, .ld1 (.t 35), none, true, []⟩,
  ⟨some 37, .call (.k (.c (.fn 33 [] []))) [(.t 36)], none, true, []⟩,
  ⟨some 38, .build [.c (.int .i64 0), .c (.int .u64 0), .c (.int .u64 0), .c (.int .i64 0), .c (.bool false), .c (.int .i64 0), .c (.bool false), .c (.int .i64 0), .c (.int .i64 0), .c (.int .i64 0)] [(0, 1, (.k (.c (.int .i64 3)))), (1, 1, (.t 34)), (3, 1, (.t 37))], none, true, []⟩,
  ⟨some 39, .mv (.t 0), none, true, []⟩,
  ⟨some 40, .mkfn 34 [(.t 39)] [], none, true, []⟩,
  ⟨some 41, .nilchk (.t 32), none, true, []⟩,
  ⟨some 42, .faddr (.t 41) 64, none, true, []⟩,
  ⟨none, .stn 10 (.t 42) (.t 38), none, true, []⟩,
  ⟨some 43, .nilchk (.t 33), none, true, []⟩,
  ⟨some 44, .faddr (.t 43) 74, none, true, []⟩,
  ⟨none, .st1 (.t 44) (.t 40), none, true, []⟩]
def C21r7 : List AOper := [⟨some 46, .bin .eql (.t 14) (.k (.c (.int .i64 13))), none, true, []⟩,
  ⟨some 45, .mv (.t 46), none, true, []⟩]
def C21r8 : List AOper := [⟨some 47, .mv (.t 0), none, false, []⟩,
  ⟨some 48, .mv (.t 0), none, false, []⟩,
  ⟨some 49, .mv (.t 5), none, false, []⟩,
  ⟨some 50, .mv (.t 0), none, false, []⟩,
  ⟨some 51, .faddr (.t 3) 4, none, false, []⟩,
  ⟨some 52, .ld1 (.t 51), none, false, []⟩,
  ⟨some 53, .nilchk (.t 50), none, false, []⟩,
  ⟨some 54, .faddr (.t 53) 54, none, false, []⟩,
  ⟨some 55, .iaddrA 8 (.t 54) (.t 52), none, false, []⟩,
  ⟨some 56, .ld1 (.t 55), none, false, []⟩,
  ⟨some 57, .faddr (.t 3) 5, none, false, []⟩,
  ⟨some 58, .ld1 (.t 57), none, false, []⟩,
  ⟨some 59, .bin .eql (.t 58) (.k (.c (.int .i64 4))), none, false, []⟩,
  ⟨some 60, .build [.c (.int .i64 0), .c (.int .u64 0), .c (.int .u64 0), .c (.int .i64 0), .c (.bool false), .c (.int .i64 0), .c (.bool false), .c (.int .i64 0), .c (.int .i64 0), .c (.int .i64 0)] [(0, 1, (.k (.c (.int .i64 2)))), (1, 1, (.t 49)), (2, 1, (.t 56)), (4, 1, (.t 59))], none, false, []⟩,
  ⟨some 61, .mv (.t 0), none, false, []⟩,
  ⟨some 62, .mkfn 35 [(.t 61)] [], none, false, []⟩,
  ⟨some 63, .nilchk (.t 47), none, false, []⟩,
  ⟨some 64, .faddr (.t 63) 64, none, false, []⟩,
  ⟨none, .stn 10 (.t 64) (.t 60), none, true, []⟩,
  ⟨some 65, .nilchk (.t 48), none, true, []⟩,
  ⟨some 66, .faddr (.t 65) 74, none, true, []⟩,
  ⟨none, .st1 (.t 66) (.t 62), none, true, []⟩]
def C21r9 : List AOper := [⟨some 68, .bin .eql (.t 14) (.k (.c (.int .i64 15))), none, true, []⟩,
  ⟨some 67, .mv (.t 68), none, true, []⟩]
def C21r10 : List AOper := [⟨some 69, .mv (.t 0), none, false, []⟩,
  ⟨some 70, .mv (.t 0), none, false, []⟩,
  ⟨some 71, .mv (.t 5), none, false, []⟩,
  ⟨some 72, .mv (.t 0), none, false, []⟩,
  ⟨some 73, .faddr (.t 3) 4, none, false, []⟩,
  ⟨some 74, .ld1 (.t 73), none, false, []⟩,
  ⟨some 75, .nilchk (.t 72), none, false, []⟩,
  ⟨some 76, .faddr (.t 75) 54, none, false, []⟩,
  ⟨some 77, .iaddrA 8 (.t 76) (.t 74), none, false, []⟩,
  ⟨some 78, .ld1 (.t 77), none, false, []⟩,
  ⟨some 79, .faddr (.t 3) 5, none, false, []⟩,
  ⟨some 80, .ld1 (.t 79), none, false, []⟩,
  ⟨some 81, .bin .eql (.t 80) (.k (.c (.int .i64 4))), none, false, []⟩,
  ⟨some 82, .build [.c (.int .i64 0), .c (.int .u64 0), .c (.int .u64 0), .c (.int .i64 0), .c (.bool false), .c (.int .i64 0), .c (.bool false), .c (.int .i64 0), .c (.int .i64 0), .c (.int .i64 0)] [(0, 1, (.k (.c (.int .i64 4)))), (1, 1, (.t 71)), (2, 1, (.t 78)), (4, 1, (.t 81))], none, false, []⟩,
  ⟨some 83, .mv (.t 0), none, false, []⟩,
  ⟨some 84, .mkfn 36 [(.t 83)] [], none, false, []⟩,
  ⟨some 85, .nilchk (.t 69), none, false, []⟩,
  ⟨some 86, .faddr (.t 85) 64, none, false, []⟩,
  ⟨none, .stn 10 (.t 86) (.t 82), none, true, []⟩,
  ⟨some 87, .nilchk (.t 70), none, true, []⟩,
  ⟨some 88, .faddr (.t 87) 74, none, true, []⟩,
  ⟨none, .st1 (.t 88) (.t 84), none, true, []⟩]
def C21r11 : List AOper := [⟨some 90, .bin .eql (.t 14) (.k (.c (.int .i64 16))), none, true, []⟩,
  ⟨some 89, .mv (.t 90), none, true, []⟩]
def C21r12 : List AOper := [⟨some 91, .mv (.t 0), none, true, []⟩,
  ⟨some 92, .mv (.t 0), none, true, []⟩,
  ⟨some 93, .build [.c (.int .i64 0), .c (.int .u64 0), .c (.int .u64 0), .c (.int .i64 0), .c (.bool false), .c (.int .i64 0), .c (.bool false), .c (.int .i64 0), .c (.int .i64 0), .c (.int .i64 0)] [(0, 1, (.k (.c (.int .i64 16))))], none, true, []⟩,
  ⟨some 94, .mv (.t 0), none, true, []⟩,
  ⟨some 95, .mkfn 37 [(.t 94)] [], none, true, []⟩,
  ⟨some 96, .nilchk (.t 91), none, true, []⟩,
  ⟨some 97, .faddr (.t 96) 64, none, true, []⟩,
  ⟨none, .stn 10 (.t 97) (.t 93), none, true, []⟩,
  ⟨some 98, .nilchk (.t 92), none, true, []⟩,
  ⟨some 99, .faddr (.t 98) 74, none, true, []⟩,
  ⟨none, .st1 (.t 99) (.t 95), none, true, []⟩]
def C21r13 : List AOper := [⟨some 4, .mv (.k (.c (.bool true))), none, true, []⟩]
def C21r14 : List AOper := [⟨some 101, .bin .eql (.t 14) (.k (.c (.int .i64 17))), none, true, []⟩,
  ⟨some 100, .mv (.t 101), none, true, []⟩]
def C21r15 : List AOper := [⟨some 102, .mv (.t 0), none, true, []⟩,
  ⟨some 103, .mv (.t 0), none, true, []⟩,
  ⟨some 104, .faddr (.t 3) 1, none, true, []⟩,
  ⟨some 105, .ld1 (.t 104), none, true, []⟩,
  ⟨some 106, .build [.c (.int .i64 0), .c (.int .u64 0), .c (.int .u64 0), .c (.int .i64 0), .c (.bool false), .c (.int .i64 0), .c (.bool false), .c (.int .i64 0), .c (.int .i64 0), .c (.int .i64 0)] [(0, 1, (.k (.c (.int .i64 6)))), (5, 1, (.t 105))], none, true, []⟩,
  ⟨some 107, .mv (.t 0), none, true, []⟩,
  ⟨some 108, .mkfn 37 [(.t 107)] [], none, true, []⟩,
  ⟨some 109, .nilchk (.t 102), none, true, []⟩,
  ⟨some 110, .faddr (.t 109) 64, none, true, []⟩,
  ⟨none, .stn 10 (.t 110) (.t 106), none, true, []⟩,
  ⟨some 111, .nilchk (.t 103), none, true, []⟩,
  ⟨some 112, .faddr (.t 111) 74, none, true, []⟩,
  ⟨none, .st1 (.t 112) (.t 108), none, true, []⟩]
def C21r16 : List AOper := [⟨some 4, .mv (.k (.c (.bool true))), none, true, []⟩]
def C21r17 : List AOper := [⟨some 4, .mv (.k (.c (.bool false))), none, true, []⟩]
def C21r18 : List AOper := [⟨some 113, .mv (.t 5), none, true, []⟩,
  ⟨some 114, .bin .rem (.t 113) (.k (.c (.int .u64 8))), none, true, []⟩,
  ⟨some 115, .bin .neq (.t 114) (.k (.c (.int .u64 0))), none, true, []⟩]
def C21r19 : List AOper := [⟨some 116, .mv (.t 0), none, true, []⟩,
  ⟨some 117, .mv (.t 0), none, true, []⟩,
  ⟨some 118, .build [.c (.int .i64 0), .c (.int .u64 0), .c (.int .u64 0), .c (.int .i64 0), .c (.bool false), .c (.int .i64 0), .c (.bool false), .c (.int .i64 0), .c (.int .i64 0), .c (.int .i64 0)] [], none, true, []⟩,
  ⟨some 119, .nilchk (.t 116), none, true, []⟩,
  ⟨some 120, .faddr (.t 119) 64, none, true, []⟩,
  ⟨none, .stn 10 (.t 120) (.t 118), none, true, []⟩,
  ⟨some 121, .nilchk (.t 117), none, true, []⟩,
  ⟨some 122, .faddr (.t 121) 74, none, true, []⟩,
  ⟨none, .st1 (.t 122) (.k (.c (.nilfn))), none, true, []⟩]
def C21r20 : List AOper := [⟨some 123, .mv (.t 0), none, true, []⟩,
  ⟨some 124, .nilchk (.t 123), none, true, []⟩,
  ⟨some 125, .faddr (.t 124) 79, none, true, []⟩,
  ⟨some 126, .ld1 (.t 125), none, true, []⟩,
  ⟨some 127, .bin .add (.t 126) (.k (.c (.int .i64 1))), none, true, []⟩,
  ⟨some 128, .nilchk (.t 123), none, true, []⟩,
  ⟨some 129, .faddr (.t 128) 79, none, true, []⟩,
  ⟨none, .st1 (.t 129) (.t 127), none, true, []⟩]
def C21r21 : List AOper := [⟨some 130, .mv (.t 0), none, true, []⟩,
  ⟨some 131, .mv (.t 0), none, true, []⟩,
  ⟨some 132, .nilchk (.t 130), none, true, []⟩,
  ⟨some 133, .faddr (.t 132) 75, none, true, []⟩,
  ⟨none, .st1 (.t 133) (.k (.c (.bool true))), none, true, []⟩,
  ⟨some 134, .nilchk (.t 131), none, true, []⟩,
  ⟨some 135, .faddr (.t 134) 76, none, true, []⟩,
  ⟨none, .st1 (.t 135) (.k (.c (.bool true))), none, true, []⟩]
def C21r22 : List AOper := [⟨some 4, .mv (.k (.c (.bool true))), none, true, []⟩]
def C21 : ACode :=
  .seq (.region C21r0)
  (.seq (.region C21r1)
  (.seq (.seq (.region C21r2)
  (.block 0
   (.seq (.region C21r3)
   (.cond (.t 15)
    (.region C21r4)
    (.seq (.region C21r5)
    (.cond (.t 30)
     (.region C21r6)
     (.seq (.region C21r7)
     (.cond (.t 45)
      (.region C21r8)
      (.seq (.region C21r9)
      (.cond (.t 67)
       (.region C21r10)
       (.seq (.region C21r11)
       (.cond (.t 89)
        (.seq (.region C21r12)
        (.seq (.region C21r13)
        (.ret)))
        (.seq (.region C21r14)
        (.cond (.t 100)
         (.seq (.region C21r15)
         (.seq (.region C21r16)
         (.ret)))
         (.seq (.region C21r17)
         (.ret))))))))))))))))
  (.seq (.seq (.region C21r18)
  (.cond (.t 115)
   (.seq (.region C21r19)
   (.seq (.region C21r20)
   (.region C21r21)))
   (.skip)))
  (.seq (.region C21r22)
  (.ret)))))
theorem C21_ok : stripF Try.prog Try.f21 = some C21 := by kernel_rfl
/-! (*understudy/micro.Run).local -/
def C22r0 : List AOper := [⟨some 3, .box 34 (.t 1), none, true, []⟩]
def C22r1 : List AOper := [⟨some 5, .mv (.t 0), none, false, []⟩,
  ⟨some 6, .faddr (.t 3) 3, none, false, []⟩,
  ⟨some 7, .ld1 (.t 6), none, false, []⟩,
  ⟨some 8, .nilchk (.t 5), none, false, []⟩,
  ⟨some 9, .faddr (.t 8) 54, none, false, []⟩,
  ⟨some 10, .iaddrA 8 (.t 9) (.t 7), none, true, []⟩,
  ⟨some 11, .ld1 (.t 10), none, true, []⟩,
  ⟨some 4, .mv (.t 11), none, true, []⟩]
def C22r2 : List AOper := [⟨some 12, .faddr (.t 3) 0, none, true, []⟩,
  ⟨some 13, .ld1 (.t 12), none, true, []⟩]
def C22r3 : List AOper := [⟨some 15, .bin .eql (.t 13) (.k (.c (.int .i64 1))), none, true, []⟩,
  ⟨some 14, .mv (.t 15), none, true, []⟩]
def C22r4 : List AOper := [⟨some 16, .mv (.t 0), none, false, []⟩,
  ⟨some 17, .faddr (.t 3) 2, none, false, []⟩,
  ⟨some 18, .ld1 (.t 17), none, false, []⟩,
  ⟨some 19, .faddr (.t 3) 6, none, false, []⟩,
  ⟨some 20, .ld1 (.t 19), none, false, []⟩,
  ⟨some 21, .nilchk (.t 16), none, false, []⟩,
  ⟨some 22, .faddr (.t 21) 54, none, false, []⟩,
  ⟨some 23, .iaddrA 8 (.t 22) (.t 18), none, true, []⟩,
  ⟨none, .st1 (.t 23) (.t 20), none, true, []⟩]
def C22r5 : List AOper := [⟨some 25, .bin .eql (.t 13) (.k (.c (.int .i64 2))), none, true, []⟩,
  ⟨some 24, .mv (.t 25), none, true, []⟩]
def C22r6 : List AOper := [⟨some 26, .mv (.t 0), none, false, []⟩,
  ⟨some 27, .faddr (.t 3) 2, none, false, []⟩,
  ⟨some 28, .ld1 (.t 27), none, false, []⟩,
  ⟨some 29, .mv (.t 4), none, false, []⟩,
  ⟨some 30, .nilchk (.t 26), none, false, []⟩,
  ⟨some 31, .faddr (.t 30) 54, none, false, []⟩,
  ⟨some 32, .iaddrA 8 (.t 31) (.t 28), none, true, []⟩,
  ⟨none, .st1 (.t 32) (.t 29), none, true, []⟩]
def C22r7 : List AOper := [⟨some 34, .bin .eql (.t 13) (.k (.c (.int .i64 3))), none, true, []⟩,
  ⟨some 33, .mv (.t 34), none, true, []⟩]
def C22r8 : List AOper := [⟨some 35, .mv (.t 0), none, false, []⟩,
  ⟨some 36, .faddr (.t 3) 2, none, false, []⟩,
  ⟨some 37, .ld1 (.t 36), none, false, []⟩,
  ⟨some 38, .mv (.t 0), none, false, []⟩,
  ⟨some 39, .nilchk (.t 38), none, false, []⟩,
  ⟨some 40, .faddr (.t 39) 62, none, false, []⟩,
  ⟨some 41, .ld1 (.t 40), none, false, []⟩,
  ⟨some 42, .faddr (.t 3) 6, none, false, []⟩,
  ⟨some 43, .ld1 (.t 42), none, false, []⟩,
  ⟨some 44, .iaddr 1 (.t 41) (.t 43), none, false, []⟩,
  ⟨some 45, .ld1 (.t 44), none, false, []⟩,
  ⟨some 46, .nilchk (.t 35), none, false, []⟩,
  ⟨some 47, .faddr (.t 46) 54, none, false, []⟩,
  ⟨some 48, .iaddrA 8 (.t 47) (.t 37), none, true, []⟩,
  ⟨none, .st1 (.t 48) (.t 45), none, true, []⟩]
def C22r9 : List AOper := [⟨some 50, .bin .eql (.t 13) (.k (.c (.int .i64 4))), none, true, []⟩,
  ⟨some 49, .mv (.t 50), none, true, []⟩]
def C22r10 : List AOper := [⟨some 51, .mv (.t 0), none, false, []⟩,
  ⟨some 52, .nilchk (.t 51), none, false, []⟩,
  ⟨some 53, .faddr (.t 52) 62, none, false, []⟩,
  ⟨some 54, .ld1 (.t 53), none, false, []⟩,
  ⟨some 55, .faddr (.t 3) 6, none, false, []⟩,
  ⟨some 56, .ld1 (.t 55), none, false, []⟩,
  ⟨some 57, .mv (.t 4), none, false, []⟩,
  ⟨some 58, .iaddr 1 (.t 54) (.t 56), none, true, []⟩,
  ⟨none, .st1 (.t 58) (.t 57), none, true, []⟩]
def C22r11 : List AOper := [⟨some 60, .bin .eql (.t 13) (.k (.c (.int .i64 5))), none, true, []⟩,
  ⟨some 59, .mv (.t 60), none, true, []⟩]
def C22r12 : List AOper := [⟨some 61, .mv (.t 0), none, false, []⟩,
  ⟨some 62, .faddr (.t 3) 2, none, false, []⟩,
  ⟨some 63, .ld1 (.t 62), none, false, []⟩,
  ⟨some 64, .mv (.t 0), none, false, []⟩,
  ⟨some 65, .faddr (.t 3) 1, none, false, []⟩,
  ⟨some 66, .ld1 (.t 65), none, false, []⟩,
  ⟨some 67, .nilchk (.t 64), none, false, []⟩,
  ⟨some 68, .faddr (.t 67) 5, none, false, []⟩,
  ⟨some 69, .faddr (.t 68) 0, none, false, []⟩,
  ⟨some 70, .iaddrA 31 (.t 69) (.t 66), none, false, []⟩,
  ⟨some 71, .ld1 (.t 70), none, false, []⟩,
  ⟨some 72, .nilchk (.t 61), none, false, []⟩,
  ⟨some 73, .faddr (.t 72) 54, none, false, []⟩,
  ⟨some 74, .iaddrA 8 (.t 73) (.t 63), none, true, []⟩,
  ⟨none, .st1 (.t 74) (.t 71), none, true, []⟩]
def C22r13 : List AOper := [⟨some 76, .bin .eql (.t 13) (.k (.c (.int .i64 6))), none, true, []⟩,
  ⟨some 75, .mv (.t 76), none, true, []⟩]
def C22r14 : List AOper := [⟨some 77, .mv (.t 0), none, false, []⟩,
  ⟨some 78, .faddr (.t 3) 1, none, false, []⟩,
  ⟨some 79, .ld1 (.t 78), none, false, []⟩,
  ⟨some 80, .mv (.t 4), none, false, []⟩,
  ⟨some 81, .nilchk (.t 77), none, false, []⟩,
  ⟨some 82, .faddr (.t 81) 5, none, false, []⟩,
  ⟨some 83, .faddr (.t 82) 0, none, false, []⟩,
  ⟨some 84, .iaddrA 31 (.t 83) (.t 79), none, true, []⟩,
  ⟨none, .st1 (.t 84) (.t 80), none, true, []⟩]
def C22r15 : List AOper := [⟨some 86, .bin .eql (.t 13) (.k (.c (.int .i64 7))), none, true, []⟩,
  ⟨some 85, .mv (.t 86), none, true, []⟩]
def C22r16 : List AOper := [⟨some 87, .mv (.t 0), none, false, []⟩,
  ⟨some 88, .faddr (.t 3) 2, none, false, []⟩,
  ⟨some 89, .ld1 (.t 88), none, false, []⟩,
  ⟨some 90, .mv (.t 0), none, false, []⟩,
  ⟨some 91, .mv (.t 0), none, false, []⟩,
  ⟨some 92, .nilchk (.t 91), none, false, []⟩,
  ⟨some 93, .faddr (.t 92) 0, none, false, []⟩,
  ⟨some 94, .faddr (.t 93) 2, none, false, []⟩,
  ⟨some 95, .ld1 (.t 94), none, false, []⟩,
  ⟨some 96, .nilchk (.t 90), none, false, []⟩,
  ⟨some 97, .faddr (.t 96) 5, none, false, []⟩,
  ⟨some 98, .faddr (.t 97) 31, none, false, []⟩,
  ⟨some 99, .iaddrA 2 (.t 98) (.t 95), none, false, []⟩,
  ⟨some 100, .ld1 (.t 99), none, false, []⟩,
  ⟨some 101, .nilchk (.t 87), none, false, []⟩,
  ⟨some 102, .faddr (.t 101) 54, none, false, []⟩,
  ⟨some 103, .iaddrA 8 (.t 102) (.t 89), none, true, []⟩,
  ⟨none, .st1 (.t 103) (.t 100), none, true, []⟩]
def C22r17 : List AOper := [⟨some 105, .bin .eql (.t 13) (.k (.c (.int .i64 8))), none, true, []⟩,
  ⟨some 104, .mv (.t 105), none, true, []⟩]
def C22r18 : List AOper := [⟨some 106, .mv (.t 0), none, false, []⟩,
  ⟨some 107, .mv (.t 0), none, false, []⟩,
  ⟨some 108, .nilchk (.t 107), none, false, []⟩,
  ⟨some 109, .faddr (.t 108) 0, none, false, []⟩,
  ⟨some 110, .faddr (.t 109) 2, none, false, []⟩,
  ⟨some 111, .ld1 (.t 110), none, false, []⟩,
  ⟨some 112, .mv (.t 4), none, false, []⟩,
  ⟨some 113, .nilchk (.t 106), none, false, []⟩,
  ⟨some 114, .faddr (.t 113) 5, none, false, []⟩,
  ⟨some 115, .faddr (.t 114) 31, none, false, []⟩,
  ⟨some 116, .iaddrA 2 (.t 115) (.t 111), none, true, []⟩,
  ⟨none, .st1 (.t 116) (.t 112), none, true, []⟩]
def C22r19 : List AOper := [⟨some 118, .bin .eql (.t 13) (.k (.c (.int .i64 9))), none, true, []⟩,
  ⟨some 117, .mv (.t 118), none, true, []⟩]
def C22r20 : List AOper := [⟨some 119, .mv (.t 0), none, false, []⟩,
  ⟨some 120, .faddr (.t 3) 2, none, false, []⟩,
  ⟨some 121, .ld1 (.t 120), none, false, []⟩,
  ⟨some 122, .nilchk (.t 119), none, false, []⟩,
  ⟨some 123, .faddr (.t 122) 54, none, false, []⟩,
  ⟨some 124, .iaddrA 8 (.t 123) (.t 121), none, true, []⟩,
  ⟨none, .st1 (.t 124) (.k (.c (.int .u64 0))), none, true, []⟩]
def C22r21 : List AOper := [⟨some 125, .mv (.t 0), none, true, []⟩,
  ⟨some 126, .faddr (.t 3) 1, none, true, []⟩,
  ⟨some 127, .ld1 (.t 126), none, true, []⟩,
  ⟨some 128, .call (.k (.c (.fn 38 [] []))) [(.t 125), (.t 127)], none, true, []⟩,
  ⟨some 129, .nilchk (.t 128), none, true, []⟩,
  ⟨some 130, .ld1 (.t 129), none, true, []⟩]
def C22r22 : List AOper := [⟨some 131, .mv (.t 0), none, false, []⟩,
  ⟨some 132, .faddr (.t 3) 2, none, false, []⟩,
  ⟨some 133, .ld1 (.t 132), none, false, []⟩,
  ⟨some 134, .nilchk (.t 131), none, false, []⟩,
  ⟨some 135, .faddr (.t 134) 54, none, false, []⟩,
  ⟨some 136, .iaddrA 8 (.t 135) (.t 133), none, true, []⟩,
  ⟨none, .st1 (.t 136) (.k (.c (.int .u64 1))), none, true, []⟩]
def C22r23 : List AOper := [⟨some 138, .bin .eql (.t 13) (.k (.c (.int .i64 10))), none, true, []⟩,
  ⟨some 137, .mv (.t 138), none, true, []⟩]
def C22r24 : List AOper := [⟨some 139, .mv (.t 0), none, true, []⟩,
  ⟨some 140, .faddr (.t 3) 1, none, true, []⟩,
  ⟨some 141, .ld1 (.t 140), none, true, []⟩,
  ⟨some 142, .call (.k (.c (.fn 38 [] []))) [(.t 139), (.t 141)], none, true, []⟩,
  ⟨some 143, .mv (.t 4), none, true, []⟩,
  ⟨some 144, .bin .neq (.t 143) (.k (.c (.int .u64 0))), none, true, []⟩,
  ⟨some 145, .nilchk (.t 142), none, true, []⟩,
  ⟨none, .st1 (.t 145) (.t 144), none, true, []⟩]
def C22r25 : List AOper := [⟨some 147, .bin .eql (.t 13) (.k (.c (.int .i64 11))), none, true, []⟩,
  ⟨some 146, .mv (.t 147), none, true, []⟩]
def C22r26 : List AOper := [⟨some 149, .mv (.t 0), none, false, []⟩,
  ⟨some 150, .faddr (.t 3) 2, none, false, []⟩,
  ⟨some 151, .ld1 (.t 150), none, false, []⟩,
  ⟨some 152, .faddr (.t 3) 1, none, false, []⟩,
  ⟨some 153, .ld1 (.t 152), none, false, []⟩,
  ⟨some 154, .mv (.t 4), none, false, []⟩,
  ⟨some 155, .mv (.t 0), none, false, []⟩,
  ⟨some 156, .faddr (.t 3) 4, none, false, []⟩,
  ⟨some 157, .ld1 (.t 156), none, false, []⟩,
  ⟨some 158, .nilchk (.t 155), none, false, []⟩,
  ⟨some 159, .faddr (.t 158) 54, none, false, []⟩,
  ⟨some 160, .iaddrA 8 (.t 159) (.t 157), none, false, []⟩,
  ⟨some 161, .ld1 (.t 160), none, false, []⟩,
  ⟨some 162, .call (.k (.c (.fn 39 [] []))) [(.t 153), (.t 154), (.t 161)], none, false, []⟩,
  ⟨some 148, .mv (.t 162), none, false, []⟩,
  ⟨some 163, .ext (.t 148) 0, none, false, []⟩,
  ⟨some 164, .ext (.t 148) 1, none, false, []⟩,
  ⟨some 165, .nilchk (.t 149), none, false, []⟩,
  ⟨some 166, .faddr (.t 165) 54, none, false, []⟩,
  ⟨some 167, .iaddrA 8 (.t 166) (.t 151), none, false, []⟩,
  ⟨none, .st1 (.t 167) (.t 163), none, true, []⟩]
def C22r27 : List AOper := [⟨some 169, .bin .eql (.t 13) (.k (.c (.int .i64 18))), none, true, []⟩,
  ⟨some 168, .mv (.t 169), none, true, []⟩]
def C22r28 : List AOper := [⟨some 170, .mv (.t 0), none, true, []⟩,
  ⟨some 171, .faddr (.t 3) 6, none, true, []⟩,
  ⟨some 172, .ld1 (.t 171), none, true, []⟩,
  ⟨some 173, .nilchk (.t 170), none, true, []⟩,
  ⟨some 174, .faddr (.t 173) 5, none, true, []⟩,
  ⟨some 175, .faddr (.t 174) 33, none, true, []⟩,
  ⟨none, .st1 (.t 175) (.t 172), none, true, []⟩]
def C22r29 : List AOper := [⟨some 177, .bin .eql (.t 13) (.k (.c (.int .i64 19))), none, true, []⟩,
  ⟨some 176, .mv (.t 177), none, true, []⟩]
def C22r30 : List AOper := [⟨some 178, .mv (.t 4), none, true, []⟩,
  ⟨some 179, .bin .neq (.t 178) (.k (.c (.int .u64 0))), none, true, []⟩]
def C22r31 : List AOper := [⟨some 180, .mv (.t 0), none, true, []⟩,
  ⟨some 181, .faddr (.t 3) 6, none, true, []⟩,
  ⟨some 182, .ld1 (.t 181), none, true, []⟩,
  ⟨some 183, .call (.k (.c (.fn 40 [] []))) [(.t 180), (.t 182)], none, true, []⟩]
def C22r32 : List AOper := [⟨some 185, .bin .eql (.t 13) (.k (.c (.int .i64 20))), none, true, []⟩,
  ⟨some 184, .mv (.t 185), none, true, []⟩]
def C22r33 : List AOper := [⟨some 186, .mv (.t 0), none, true, []⟩,
  ⟨some 187, .faddr (.t 3) 6, none, true, []⟩,
  ⟨some 188, .ld1 (.t 187), none, true, []⟩,
  ⟨some 189, .call (.k (.c (.fn 40 [] []))) [(.t 186), (.t 188)], none, true, []⟩]
def C22r34 : List AOper := [⟨some 191, .bin .eql (.t 13) (.k (.c (.int .i64 21))), none, true, []⟩,
  ⟨some 190, .mv (.t 191), none, true, []⟩]
def C22r35 : List AOper := [⟨some 192, .mv (.t 0), none, true, []⟩,
  ⟨some 193, .mv (.t 4), none, true, []⟩,
  ⟨some 194, .call (.k (.c (.fn 40 [] []))) [(.t 192), (.t 193)], none, true, []⟩]
def C22r36 : List AOper := [⟨some 196, .bin .eql (.t 13) (.k (.c (.int .i64 22))), none, true, []⟩,
  ⟨some 195, .mv (.t 196), none, true, []⟩]
def C22r37 : List AOper := [⟨some 197, .mv (.t 0), none, false, []⟩,
  ⟨some 198, .mv (.t 0), none, false, []⟩,
  ⟨some 199, .mv (.t 0), none, false, []⟩,
  ⟨some 200, .faddr (.t 3) 6, none, false, []⟩,
  ⟨some 201, .ld1 (.t 200), none, false, []⟩,
  ⟨some 202, .conv .u32 (.t 201), none, false, []⟩,
  ⟨some 203, .nilchk (.t 197), none, false, []⟩,
  ⟨some 204, .faddr (.t 203) 75, none, false, []⟩,
  ⟨none, .st1 (.t 204) (.k (.c (.bool true))), none, true, [200]⟩,
  ⟨some 205, .nilchk (.t 198), none, false, []⟩,
  ⟨some 206, .faddr (.t 205) 77, none, false, []⟩,
  ⟨none, .st1 (.t 206) (.t 202), none, true, []⟩,
  ⟨some 207, .nilchk (.t 199), none, true, []⟩,
  ⟨some 208, .faddr (.t 207) 78, none, true, []⟩,
  ⟨none, .st1 (.t 208) (.k (.c (.bool true))), none, true, []⟩]
def C22 : ACode :=
  .seq (.region C22r0)
  (.seq (.region C22r1)
  (.seq (.region C22r2)
  (.block 0
   (.seq (.region C22r3)
   (.cond (.t 14)
    (.region C22r4)
    (.seq (.region C22r5)
    (.cond (.t 24)
     (.region C22r6)
     (.seq (.region C22r7)
     (.cond (.t 33)
      (.region C22r8)
      (.seq (.region C22r9)
      (.cond (.t 49)
       (.region C22r10)
       (.seq (.region C22r11)
       (.cond (.t 59)
        (.region C22r12)
        (.seq (.region C22r13)
        (.cond (.t 75)
         (.region C22r14)
         (.seq (.region C22r15)
         (.cond (.t 85)
          (.region C22r16)
          (.seq (.region C22r17)
          (.cond (.t 104)
           (.region C22r18)
           (.seq (.region C22r19)
           (.cond (.t 117)
            (.seq (.region C22r20)
            (.seq (.region C22r21)
            (.cond (.t 130)
             (.region C22r22)
             (.skip))))
            (.seq (.region C22r23)
            (.cond (.t 137)
             (.region C22r24)
             (.seq (.region C22r25)
             (.cond (.t 146)
              (.region C22r26)
              (.seq (.region C22r27)
              (.cond (.t 168)
               (.region C22r28)
               (.seq (.region C22r29)
               (.cond (.t 176)
                (.seq (.region C22r30)
                (.cond (.t 179)
                 (.region C22r31)
                 (.skip)))
                (.seq (.region C22r32)
                (.cond (.t 184)
                 (.region C22r33)
                 (.seq (.region C22r34)
                 (.cond (.t 190)
                  (.region C22r35)
                  (.seq (.region C22r36)
                  (.cond (.t 195)
                   (.region C22r37)
                   (.skip))))))))))))))))))))))))))))))))))))
theorem C22_ok : stripF Try.prog Try.f22 = some C22 := by kernel_rfl
/-! (*understudy/understudyref22.Run).one -/
def C23r0 : List AOper := [⟨some 3, .box 34 (.t 1), none, true, []⟩]
def C23r1 : List AOper := [⟨some 6, .mv (.t 0), none, false, []⟩,
  ⟨some 7, .faddr (.t 3) 3, none, false, []⟩,
  ⟨some 8, .ld1 (.t 7), none, false, []⟩,
  ⟨some 9, .nilchk (.t 6), none, false, []⟩,
  ⟨some 10, .faddr (.t 9) 54, none, false, []⟩,
  ⟨some 11, .iaddrA 8 (.t 10) (.t 8), none, true, []⟩,
  ⟨some 12, .ld1 (.t 11), none, true, []⟩,
  ⟨some 4, .mv (.t 12), none, true, []⟩]
def C23r2 : List AOper := [⟨some 13, .faddr (.t 3) 0, none, true, []⟩,
  ⟨some 14, .ld1 (.t 13), none, true, []⟩]
def C23r3 : List AOper := [⟨some 16, .bin .eql (.t 14) (.k (.c (.int .i64 12))), none, true, []⟩,
  ⟨some 15, .mv (.t 16), none, true, []⟩]
def C23r4 : List AOper := [⟨some 17, .bin .eql (.t 14) (.k (.c (.int .i64 14))), none, true, []⟩,
  ⟨some 15, .mv (.t 17), none, true, []⟩]
def C23r5 : List AOper := [⟨some 18, .bin .eql (.t 14) (.k (.c (.int .i64 13))), none, true, []⟩,
  ⟨some 15, .mv (.t 18), none, true, []⟩]
def C23r6 : List AOper := [⟨some 19, .bin .eql (.t 14) (.k (.c (.int .i64 15))), none, true, []⟩,
  ⟨some 15, .mv (.t 19), none, true, []⟩]
def C23r7 : List AOper := [⟨some 20, .mv (.t 0), none, true, []⟩,
  ⟨some 21, .ldn 7 (.t 3), none, true, []⟩,
  ⟨some 22, .mv (.t 4), none, true, []⟩,
  ⟨some 23, .call (.k (.c (.fn 41 [] []))) [(.t 20), (.t 21), (.t 22)], none, true, []⟩]
def C23r8 : List AOper := [⟨some 25, .bin .eql (.t 14) (.k (.c (.int .i64 16))), none, true, []⟩,
  ⟨some 24, .mv (.t 25), none, true, []⟩]
def C23r9 : List AOper := [⟨some 26, .mv (.t 0), none, true, []⟩,
  ⟨some 27, .build [.c (.int .i64 0), .c (.int .u64 0), .c (.int .u64 0), .c (.int .i64 0), .c (.bool false), .c (.int .i64 0), .c (.bool false), .c (.int .i64 0), .c (.int .i64 0), .c (.int .i64 0)] [(0, 1, (.k (.c (.int .i64 16))))], none, true, []⟩,
  ⟨some 28, .call (.k (.c (.fn 42 [] []))) [(.t 26), (.t 27)], none, true, []⟩]
def C23r10 : List AOper := [⟨some 30, .bin .eql (.t 14) (.k (.c (.int .i64 17))), none, true, []⟩,
  ⟨some 29, .mv (.t 30), none, true, []⟩]
def C23r11 : List AOper := [⟨some 31, .mv (.t 0), none, true, []⟩,
  ⟨some 32, .faddr (.t 3) 1, none, true, []⟩,
  ⟨some 33, .ld1 (.t 32), none, true, []⟩,
  ⟨some 34, .build [.c (.int .i64 0), .c (.int .u64 0), .c (.int .u64 0), .c (.int .i64 0), .c (.bool false), .c (.int .i64 0), .c (.bool false), .c (.int .i64 0), .c (.int .i64 0), .c (.int .i64 0)] [(0, 1, (.k (.c (.int .i64 6)))), (5, 1, (.t 33))], none, true, []⟩,
  ⟨some 35, .call (.k (.c (.fn 42 [] []))) [(.t 31), (.t 34)], none, true, []⟩]
def C23r12 : List AOper := [⟨some 37, .bin .eql (.t 14) (.k (.c (.int .i64 1))), none, true, []⟩,
  ⟨some 36, .mv (.t 37), none, true, []⟩]
def C23r13 : List AOper := [⟨some 38, .mv (.t 0), none, false, []⟩,
  ⟨some 39, .faddr (.t 3) 2, none, false, []⟩,
  ⟨some 40, .ld1 (.t 39), none, false, []⟩,
  ⟨some 41, .faddr (.t 3) 6, none, false, []⟩,
  ⟨some 42, .ld1 (.t 41), none, false, []⟩,
  ⟨some 43, .nilchk (.t 38), none, false, []⟩,
  ⟨some 44, .faddr (.t 43) 54, none, false, []⟩,
  ⟨some 45, .iaddrA 8 (.t 44) (.t 40), none, true, []⟩,
  ⟨none, .st1 (.t 45) (.t 42), none, true, []⟩]
def C23r14 : List AOper := [⟨some 47, .bin .eql (.t 14) (.k (.c (.int .i64 2))), none, true, []⟩,
  ⟨some 46, .mv (.t 47), none, true, []⟩]
def C23r15 : List AOper := [⟨some 48, .mv (.t 0), none, false, []⟩,
  ⟨some 49, .faddr (.t 3) 2, none, false, []⟩,
  ⟨some 50, .ld1 (.t 49), none, false, []⟩,
  ⟨some 51, .mv (.t 4), none, false, []⟩,
  ⟨some 52, .nilchk (.t 48), none, false, []⟩,
  ⟨some 53, .faddr (.t 52) 54, none, false, []⟩,
  ⟨some 54, .iaddrA 8 (.t 53) (.t 50), none, true, []⟩,
  ⟨none, .st1 (.t 54) (.t 51), none, true, []⟩]
def C23r16 : List AOper := [⟨some 56, .bin .eql (.t 14) (.k (.c (.int .i64 3))), none, true, []⟩,
  ⟨some 55, .mv (.t 56), none, true, []⟩]
def C23r17 : List AOper := [⟨some 57, .mv (.t 0), none, false, []⟩,
  ⟨some 58, .faddr (.t 3) 2, none, false, []⟩,
  ⟨some 59, .ld1 (.t 58), none, false, []⟩,
  ⟨some 60, .mv (.t 0), none, false, []⟩,
  ⟨some 61, .nilchk (.t 60), none, false, []⟩,
  ⟨some 62, .faddr (.t 61) 62, none, false, []⟩,
  ⟨some 63, .ld1 (.t 62), none, false, []⟩,
  ⟨some 64, .faddr (.t 3) 6, none, false, []⟩,
  ⟨some 65, .ld1 (.t 64), none, false, []⟩,
  ⟨some 66, .iaddr 1 (.t 63) (.t 65), none, false, []⟩,
  ⟨some 67, .ld1 (.t 66), none, false, []⟩,
  ⟨some 68, .nilchk (.t 57), none, false, []⟩,
  ⟨some 69, .faddr (.t 68) 54, none, false, []⟩,
  ⟨some 70, .iaddrA 8 (.t 69) (.t 59), none, true, []⟩,
  ⟨none, .st1 (.t 70) (.t 67), none, true, []⟩]
def C23r18 : List AOper := [⟨some 72, .bin .eql (.t 14) (.k (.c (.int .i64 4))), none, true, []⟩,
  ⟨some 71, .mv (.t 72), none, true, []⟩]
def C23r19 : List AOper := [⟨some 73, .mv (.t 0), none, false, []⟩,
  ⟨some 74, .nilchk (.t 73), none, false, []⟩,
  ⟨some 75, .faddr (.t 74) 62, none, false, []⟩,
  ⟨some 76, .ld1 (.t 75), none, false, []⟩,
  ⟨some 77, .faddr (.t 3) 6, none, false, []⟩,
  ⟨some 78, .ld1 (.t 77), none, false, []⟩,
  ⟨some 79, .mv (.t 4), none, false, []⟩,
  ⟨some 80, .iaddr 1 (.t 76) (.t 78), none, true, []⟩,
  ⟨none, .st1 (.t 80) (.t 79), none, true, []⟩]
def C23r20 : List AOper := [⟨some 82, .bin .eql (.t 14) (.k (.c (.int .i64 5))), none, true, []⟩,
  ⟨some 81, .mv (.t 82), none, true, []⟩]
def C23r21 : List AOper := [⟨some 83, .mv (.t 0), none, false, []⟩,
  ⟨some 84, .faddr (.t 3) 2, none, false, []⟩,
  ⟨some 85, .ld1 (.t 84), none, false, []⟩,
  ⟨some 86, .mv (.t 0), none, false, []⟩,
  ⟨some 87, .faddr (.t 3) 1, none, false, []⟩,
  ⟨some 88, .ld1 (.t 87), none, false, []⟩,
  ⟨some 89, .nilchk (.t 86), none, false, []⟩,
  ⟨some 90, .faddr (.t 89) 5, none, false, []⟩,
  ⟨some 91, .faddr (.t 90) 0, none, false, []⟩,
  ⟨some 92, .iaddrA 31 (.t 91) (.t 88), none, false, []⟩,
  ⟨some 93, .ld1 (.t 92), none, false, []⟩,
  ⟨some 94, .nilchk (.t 83), none, false, []⟩,
  ⟨some 95, .faddr (.t 94) 54, none, false, []⟩,
  ⟨some 96, .iaddrA 8 (.t 95) (.t 85), none, true, []⟩,
  ⟨none, .st1 (.t 96) (.t 93), none, true, []⟩]
def C23r22 : List AOper := [⟨some 98, .bin .eql (.t 14) (.k (.c (.int .i64 6))), none, true, []⟩,
  ⟨some 97, .mv (.t 98), none, true, []⟩]
def C23r23 : List AOper := [⟨some 99, .mv (.t 0), none, false, []⟩,
  ⟨some 100, .faddr (.t 3) 1, none, false, []⟩,
  ⟨some 101, .ld1 (.t 100), none, false, []⟩,
  ⟨some 102, .mv (.t 4), none, false, []⟩,
  ⟨some 103, .nilchk (.t 99), none, false, []⟩,
  ⟨some 104, .faddr (.t 103) 5, none, false, []⟩,
  ⟨some 105, .faddr (.t 104) 0, none, false, []⟩,
  ⟨some 106, .iaddrA 31 (.t 105) (.t 101), none, true, []⟩,
  ⟨none, .st1 (.t 106) (.t 102), none, true, []⟩]
def C23r24 : List AOper := [⟨some 108, .bin .eql (.t 14) (.k (.c (.int .i64 7))), none, true, []⟩,
  ⟨some 107, .mv (.t 108), none, true, []⟩]
def C23r25 : List AOper := [⟨some 109, .mv (.t 0), none, false, []⟩,
  ⟨some 110, .faddr (.t 3) 2, none, false, []⟩,
  ⟨some 111, .ld1 (.t 110), none, false, []⟩,
  ⟨some 112, .mv (.t 0), none, false, []⟩,
  ⟨some 113, .mv (.t 0), none, false, []⟩,
  ⟨some 114, .nilchk (.t 113), none, false, []⟩,
  ⟨some 115, .faddr (.t 114) 0, none, false, []⟩,
  ⟨some 116, .faddr (.t 115) 2, none, false, []⟩,
  ⟨some 117, .ld1 (.t 116), none, false, []⟩,
  ⟨some 118, .nilchk (.t 112), none, false, []⟩,
  ⟨some 119, .faddr (.t 118) 5, none, false, []⟩,
  ⟨some 120, .faddr (.t 119) 31, none, false, []⟩,
  ⟨some 121, .iaddrA 2 (.t 120) (.t 117), none, false, []⟩,
  ⟨some 122, .ld1 (.t 121), none, false, []⟩,
  ⟨some 123, .nilchk (.t 109), none, false, []⟩,
  ⟨some 124, .faddr (.t 123) 54, none, false, []⟩,
  ⟨some 125, .iaddrA 8 (.t 124) (.t 111), none, true, []⟩,
  ⟨none, .st1 (.t 125) (.t 122), none, true, []⟩]
def C23r26 : List AOper := [⟨some 127, .bin .eql (.t 14) (.k (.c (.int .i64 8))), none, true, []⟩,
  ⟨some 126, .mv (.t 127), none, true, []⟩]
def C23r27 : List AOper := [⟨some 128, .mv (.t 0), none, false, []⟩,
  ⟨some 129, .mv (.t 0), none, false, []⟩,
  ⟨some 130, .nilchk (.t 129), none, false, []⟩,
  ⟨some 131, .faddr (.t 130) 0, none, false, []⟩,
  ⟨some 132, .faddr (.t 131) 2, none, false, []⟩,
  ⟨some 133, .ld1 (.t 132), none, false, []⟩,
  ⟨some 134, .mv (.t 4), none, false, []⟩,
  ⟨some 135, .nilchk (.t 128), none, false, []⟩,
  ⟨some 136, .faddr (.t 135) 5, none, false, []⟩,
  ⟨some 137, .faddr (.t 136) 31, none, false, []⟩,
  ⟨some 138, .iaddrA 2 (.t 137) (.t 133), none, true, []⟩,
  ⟨none, .st1 (.t 138) (.t 134), none, true, []⟩]
def C23r28 : List AOper := [⟨some 140, .bin .eql (.t 14) (.k (.c (.int .i64 9))), none, true, []⟩,
  ⟨some 139, .mv (.t 140), none, true, []⟩]
def C23r29 : List AOper := [⟨some 141, .mv (.t 0), none, false, []⟩,
  ⟨some 142, .nilchk (.t 141), none, false, []⟩,
  ⟨some 143, .faddr (.t 142) 5, none, false, []⟩,
  ⟨some 144, .faddr (.t 143) 34, none, false, []⟩,
  ⟨some 145, .ld1 (.t 144), none, false, []⟩,
  ⟨some 146, .mv (.t 0), none, false, []⟩,
  ⟨some 147, .nilchk (.t 146), none, false, []⟩,
  ⟨some 148, .faddr (.t 147) 5, none, false, []⟩,
  ⟨some 149, .faddr (.t 148) 35, none, false, []⟩,
  ⟨some 150, .ld1 (.t 149), none, false, []⟩,
  ⟨some 151, .mv (.t 0), none, false, []⟩,
  ⟨some 152, .nilchk (.t 151), none, false, []⟩,
  ⟨some 153, .faddr (.t 152) 5, none, false, []⟩,
  ⟨some 154, .faddr (.t 153) 36, none, false, []⟩,
  ⟨some 155, .ld1 (.t 154), none, false, []⟩,
  ⟨some 156, .mv (.t 0), none, false, []⟩,
  ⟨some 157, .nilchk (.t 156), none, false, []⟩,
  ⟨some 158, .faddr (.t 157) 5, none, false, []⟩,
  ⟨some 159, .faddr (.t 158) 37, none, false, []⟩,
  ⟨some 160, .ld1 (.t 159), none, false, []⟩,
  ⟨some 161, .bslice 4 1 [.c (.bool false)] 4 [(0, 1, (.t 145)), (1, 1, (.t 150)), (2, 1, (.t 155)), (3, 1, (.t 160))], none, true, []⟩,
  ⟨some 5, .mv (.t 161), none, true, []⟩]
def C23r30 : List AOper := [⟨some 162, .mv (.t 0), none, false, []⟩,
  ⟨some 163, .faddr (.t 3) 2, none, false, []⟩,
  ⟨some 164, .ld1 (.t 163), none, false, []⟩,
  ⟨some 165, .nilchk (.t 162), none, false, []⟩,
  ⟨some 166, .faddr (.t 165) 54, none, false, []⟩,
  ⟨some 167, .iaddrA 8 (.t 166) (.t 164), none, true, []⟩,
  ⟨none, .st1 (.t 167) (.k (.c (.int .u64 0))), none, true, []⟩]
def C23r31 : List AOper := [⟨some 168, .mv (.t 5), none, true, []⟩,
  ⟨some 169, .faddr (.t 3) 1, none, true, []⟩,
  ⟨some 170, .ld1 (.t 169), none, true, []⟩,
  ⟨some 171, .iaddr 1 (.t 168) (.t 170), none, true, []⟩,
  ⟨some 172, .ld1 (.t 171), none, true, []⟩]
def C23r32 : List AOper := [⟨some 173, .mv (.t 0), none, false, []⟩,
  ⟨some 174, .faddr (.t 3) 2, none, false, []⟩,
  ⟨some 175, .ld1 (.t 174), none, false, []⟩,
  ⟨some 176, .nilchk (.t 173), none, false, []⟩,
  ⟨some 177, .faddr (.t 176) 54, none, false, []⟩,
  ⟨some 178, .iaddrA 8 (.t 177) (.t 175), none, true, []⟩,
  ⟨none, .st1 (.t 178) (.k (.c (.int .u64 1))), none, true, []⟩]
def C23r33 : List AOper := [⟨some 180, .bin .eql (.t 14) (.k (.c (.int .i64 10))), none, true, []⟩,
  ⟨some 179, .mv (.t 180), none, true, []⟩]
def C23r34 : List AOper := [⟨some 181, .mv (.t 0), none, true, []⟩,
  ⟨some 182, .faddr (.t 3) 1, none, true, []⟩,
  ⟨some 183, .ld1 (.t 182), none, true, []⟩,
  ⟨some 184, .mv (.t 4), none, true, []⟩,
  ⟨some 185, .bin .neq (.t 184) (.k (.c (.int .u64 0))), none, true, []⟩,
  ⟨some 186, .call (.k (.c (.fn 43 [] []))) [(.t 181), (.t 183), (.t 185)], none, true, []⟩]
def C23r35 : List AOper := [⟨some 188, .bin .eql (.t 14) (.k (.c (.int .i64 11))), none, true, []⟩,
  ⟨some 187, .mv (.t 188), none, true, []⟩]
def C23r36 : List AOper := [⟨some 190, .mv (.t 0), none, false, []⟩,
  ⟨some 191, .faddr (.t 3) 2, none, false, []⟩,
  ⟨some 192, .ld1 (.t 191), none, false, []⟩,
  ⟨some 193, .faddr (.t 3) 1, none, false, []⟩,
  ⟨some 194, .ld1 (.t 193), none, false, []⟩,
  ⟨some 195, .mv (.t 4), none, false, []⟩,
  ⟨some 196, .mv (.t 0), none, false, []⟩,
  ⟨some 197, .faddr (.t 3) 4, none, false, []⟩,
  ⟨some 198, .ld1 (.t 197), none, false, []⟩,
  ⟨some 199, .nilchk (.t 196), none, false, []⟩,
  ⟨some 200, .faddr (.t 199) 54, none, false, []⟩,
  ⟨some 201, .iaddrA 8 (.t 200) (.t 198), none, false, []⟩,
  ⟨some 202, .ld1 (.t 201), none, false, []⟩,
  ⟨some 203, .call (.k (.c (.fn 44 [] []))) [(.t 194), (.t 195), (.t 202)], none, false, []⟩,
  ⟨some 189, .mv (.t 203), none, false, []⟩,
  ⟨some 204, .ext (.t 189) 0, none, false, []⟩,
  ⟨some 205, .ext (.t 189) 1, none, false, []⟩,
  ⟨some 206, .nilchk (.t 190), none, false, []⟩,
  ⟨some 207, .faddr (.t 206) 54, none, false, []⟩,
  ⟨some 208, .iaddrA 8 (.t 207) (.t 192), none, false, []⟩,
  ⟨none, .st1 (.t 208) (.t 204), none, true, []⟩]
def C23r37 : List AOper := [⟨some 210, .bin .eql (.t 14) (.k (.c (.int .i64 18))), none, true, []⟩,
  ⟨some 209, .mv (.t 210), none, true, []⟩]
def C23r38 : List AOper := [⟨some 211, .mv (.t 0), none, true, []⟩,
  ⟨some 212, .faddr (.t 3) 6, none, true, []⟩,
  ⟨some 213, .ld1 (.t 212), none, true, []⟩,
  ⟨some 214, .nilchk (.t 211), none, true, []⟩,
  ⟨some 215, .faddr (.t 214) 5, none, true, []⟩,
  ⟨some 216, .faddr (.t 215) 33, none, true, []⟩,
  ⟨none, .st1 (.t 216) (.t 213), none, true, []⟩]
def C23r39 : List AOper := [⟨some 218, .bin .eql (.t 14) (.k (.c (.int .i64 19))), none, true, []⟩,
  ⟨some 217, .mv (.t 218), none, true, []⟩]
def C23r40 : List AOper := [⟨some 219, .mv (.t 4), none, true, []⟩,
  ⟨some 220, .bin .neq (.t 219) (.k (.c (.int .u64 0))), none, true, []⟩]
def C23r41 : List AOper := [⟨some 221, .mv (.t 0), none, true, []⟩,
  ⟨some 222, .faddr (.t 3) 6, none, true, []⟩,
  ⟨some 223, .ld1 (.t 222), none, true, []⟩,
  ⟨some 224, .call (.k (.c (.fn 45 [] []))) [(.t 221), (.t 223)], none, true, []⟩]
def C23r42 : List AOper := [⟨some 226, .bin .eql (.t 14) (.k (.c (.int .i64 20))), none, true, []⟩,
  ⟨some 225, .mv (.t 226), none, true, []⟩]
def C23r43 : List AOper := [⟨some 227, .mv (.t 0), none, true, []⟩,
  ⟨some 228, .faddr (.t 3) 6, none, true, []⟩,
  ⟨some 229, .ld1 (.t 228), none, true, []⟩,
  ⟨some 230, .call (.k (.c (.fn 45 [] []))) [(.t 227), (.t 229)], none, true, []⟩]
def C23r44 : List AOper := [⟨some 232, .bin .eql (.t 14) (.k (.c (.int .i64 21))), none, true, []⟩,
  ⟨some 231, .mv (.t 232), none, true, []⟩]
def C23r45 : List AOper := [⟨some 233, .mv (.t 0), none, true, []⟩,
  ⟨some 234, .mv (.t 4), none, true, []⟩,
  ⟨some 235, .call (.k (.c (.fn 45 [] []))) [(.t 233), (.t 234)], none, true, []⟩]
def C23r46 : List AOper := [⟨some 237, .bin .eql (.t 14) (.k (.c (.int .i64 22))), none, true, []⟩,
  ⟨some 236, .mv (.t 237), none, true, []⟩]
def C23r47 : List AOper := [⟨some 238, .mv (.t 0), none, true, []⟩,
  ⟨some 239, .nilchk (.t 238), none, true, []⟩,
  ⟨some 240, .faddr (.t 239) 75, none, true, []⟩,
  ⟨none, .st1 (.t 240) (.k (.c (.bool true))), none, true, []⟩]
def C23r48 : List AOper := [⟨some 241, .mv (.t 0), none, true, []⟩,
  ⟨some 242, .nilchk (.t 241), none, true, []⟩,
  ⟨some 243, .faddr (.t 242) 78, none, true, []⟩,
  ⟨none, .st1 (.t 243) (.k (.c (.bool true))), none, true, []⟩]
def C23r49 : List AOper := [⟨some 244, .mv (.t 0), none, true, []⟩,
  ⟨some 245, .faddr (.t 3) 6, none, true, []⟩,
  ⟨some 246, .ld1 (.t 245), none, true, []⟩,
  ⟨some 247, .nilchk (.t 244), none, true, []⟩,
  ⟨some 248, .faddr (.t 247) 77, none, true, []⟩,
  ⟨none, .st1 (.t 248) (.t 246), none, true, []⟩]
def C23r50 : List AOper := [⟨some 249, .mv (.t 0), none, true, []⟩,
  ⟨some 250, .nilchk (.t 249), none, true, []⟩,
  ⟨some 251, .faddr (.t 250) 63, none, true, []⟩,
  ⟨some 252, .ld1 (.t 251), none, true, []⟩,
  ⟨some 253, .bin .add (.t 252) (.k (.c (.int .i64 1))), none, true, []⟩,
  ⟨some 254, .nilchk (.t 249), none, true, []⟩,
  ⟨some 255, .faddr (.t 254) 63, none, true, []⟩,
  ⟨none, .st1 (.t 255) (.t 253), none, true, []⟩]
def C23r51 : List AOper := [⟨some 256, .mv (.t 0), none, true, []⟩,
  ⟨some 257, .nilchk (.t 256), none, true, []⟩,
  ⟨some 258, .faddr (.t 257) 79, none, true, []⟩,
  ⟨some 259, .ld1 (.t 258), none, true, []⟩,
  ⟨some 260, .bin .add (.t 259) (.k (.c (.int .i64 1))), none, true, []⟩,
  ⟨some 261, .nilchk (.t 256), none, true, []⟩,
  ⟨some 262, .faddr (.t 261) 79, none, true, []⟩,
  ⟨none, .st1 (.t 262) (.t 260), none, true, []⟩]
def C23 : ACode :=
  .seq (.region C23r0)
  (.seq (.region C23r1)
  (.seq (.seq (.region C23r2)
  (.block 0
   (.seq (.seq (.region C23r3)
   (.cond (.t 15)
    (.skip)
    (.seq (.region C23r4)
    (.cond (.t 15)
     (.skip)
     (.seq (.region C23r5)
     (.cond (.t 15)
      (.skip)
      (.region C23r6)))))))
   (.cond (.t 15)
    (.seq (.region C23r7)
    (.ret))
    (.seq (.region C23r8)
    (.cond (.t 24)
     (.seq (.region C23r9)
     (.ret))
     (.seq (.region C23r10)
     (.cond (.t 29)
      (.seq (.region C23r11)
      (.ret))
      (.seq (.region C23r12)
      (.cond (.t 36)
       (.region C23r13)
       (.seq (.region C23r14)
       (.cond (.t 46)
        (.region C23r15)
        (.seq (.region C23r16)
        (.cond (.t 55)
         (.region C23r17)
         (.seq (.region C23r18)
         (.cond (.t 71)
          (.region C23r19)
          (.seq (.region C23r20)
          (.cond (.t 81)
           (.region C23r21)
           (.seq (.region C23r22)
           (.cond (.t 97)
            (.region C23r23)
            (.seq (.region C23r24)
            (.cond (.t 107)
             (.region C23r25)
             (.seq (.region C23r26)
             (.cond (.t 126)
              (.region C23r27)
              (.seq (.region C23r28)
              (.cond (.t 139)
               (.seq (.region C23r29)
               (.seq (.region C23r30)
               (.seq (.region C23r31)
               (.cond (.t 172)
                (.region C23r32)
                (.skip)))))
               (.seq (.region C23r33)
               (.cond (.t 179)
                (.region C23r34)
                (.seq (.region C23r35)
                (.cond (.t 187)
                 (.region C23r36)
                 (.seq (.region C23r37)
                 (.cond (.t 209)
                  (.region C23r38)
                  (.seq (.region C23r39)
                  (.cond (.t 217)
                   (.seq (.region C23r40)
                   (.cond (.t 220)
                    (.region C23r41)
                    (.skip)))
                   (.seq (.region C23r42)
                   (.cond (.t 225)
                    (.region C23r43)
                    (.seq (.region C23r44)
                    (.cond (.t 231)
                     (.region C23r45)
                     (.seq (.region C23r46)
                     (.cond (.t 236)
                      (.seq (.region C23r47)
                      (.seq (.region C23r48)
                      (.region C23r49)))
                      (.skip)))))))))))))))))))))))))))))))))))))))))
  (.seq (.region C23r50)
  (.region C23r51))))
theorem C23_ok : stripF Try.prog Try.f23 = some C23 := by kernel_rfl
/-! understudy/lower.between -/
def C24r0 : List AOper := [⟨some 6, .mv (.k (.c (.bool false))), none, true, []⟩]
def C24r1 : List AOper := [⟨some 7, .mv (.t 0), none, true, []⟩,
  ⟨some 8, .mv (.t 1), none, true, []⟩,
  ⟨some 9, .bin .geq (.t 7) (.t 8), none, true, []⟩,
  ⟨some 10, .mv (.t 9), none, true, []⟩,
  ⟨some 11, .mv (.t 0), some (10, true), true, []⟩,
  ⟨some 12, .mv (.t 2), some (10, true), true, []⟩,
  ⟨some 13, .bin .leq (.t 11) (.t 12), some (10, true), true, []⟩,
  ⟨some 14, .pick 10 (.t 13) (.k (.c (.bool false))), none, true, []⟩,
  ⟨some 6, .mv (.t 14), none, true, []⟩]
def C24 : ACode :=
  .seq (.region C24r0)
  (.seq (.region C24r1)
  (.ret))
theorem C24_ok : stripF Try.prog Try.f24 = some C24 := by kernel_rfl
/-! understudy/lower.shapes -/
def C25r0 : List AOper := [⟨some 0, .mv (.k (.c (.nils))), none, true, []⟩]
def C25r1 : List AOper := [⟨some 1, .build [.c (.str ⟨#[]⟩), .c (.int .i64 0)] [(0, 1, (.k (.c (.str ⟨#[99, 111, 110, 115, 116]⟩)))), (1, 1, (.k (.c (.int .i64 34))))], none, true, []⟩,
  ⟨some 2, .build [.c (.str ⟨#[]⟩), .c (.int .i64 0)] [(0, 1, (.k (.c (.str ⟨#[109, 111, 118, 101]⟩)))), (1, 1, (.k (.c (.int .i64 6))))], none, true, []⟩,
  ⟨some 3, .build [.c (.str ⟨#[]⟩), .c (.int .i64 0)] [(0, 1, (.k (.c (.str ⟨#[102, 105, 108, 108]⟩)))), (1, 1, (.k (.c (.int .i64 98))))], none, true, []⟩,
  ⟨some 4, .build [.c (.str ⟨#[]⟩), .c (.int .i64 0)] [(0, 1, (.k (.c (.str ⟨#[115, 112, 105, 108, 108]⟩)))), (1, 1, (.k (.c (.int .i64 164))))], none, true, []⟩,
  ⟨some 5, .build [.c (.str ⟨#[]⟩), .c (.int .i64 0)] [(0, 1, (.k (.c (.str ⟨#[103, 101, 116, 120]⟩)))), (1, 1, (.k (.c (.int .i64 3))))], none, true, []⟩,
  ⟨some 6, .build [.c (.str ⟨#[]⟩), .c (.int .i64 0)] [(0, 1, (.k (.c (.str ⟨#[115, 101, 116, 120]⟩)))), (1, 1, (.k (.c (.int .i64 5))))], none, true, []⟩,
  ⟨some 7, .build [.c (.str ⟨#[]⟩), .c (.int .i64 0)] [(0, 1, (.k (.c (.str ⟨#[103, 101, 116, 115, 112]⟩)))), (1, 1, (.k (.c (.int .i64 2))))], none, true, []⟩,
  ⟨some 8, .build [.c (.str ⟨#[]⟩), .c (.int .i64 0)] [(0, 1, (.k (.c (.str ⟨#[115, 101, 116, 115, 112]⟩)))), (1, 1, (.k (.c (.int .i64 4))))], none, true, []⟩,
  ⟨some 9, .build [.c (.str ⟨#[]⟩), .c (.int .i64 0)] [(0, 1, (.k (.c (.str ⟨#[103, 101, 116, 102]⟩)))), (1, 1, (.k (.c (.int .i64 3))))], none, true, []⟩,
  ⟨some 10, .build [.c (.str ⟨#[]⟩), .c (.int .i64 0)] [(0, 1, (.k (.c (.str ⟨#[115, 101, 116, 102]⟩)))), (1, 1, (.k (.c (.int .i64 5))))], none, true, []⟩,
  ⟨some 11, .build [.c (.str ⟨#[]⟩), .c (.int .i64 0)] [(0, 1, (.k (.c (.str ⟨#[97, 108, 117]⟩)))), (1, 1, (.k (.c (.int .i64 15))))], none, true, []⟩,
  ⟨some 12, .build [.c (.str ⟨#[]⟩), .c (.int .i64 0)] [(0, 1, (.k (.c (.str ⟨#[108, 111, 97, 100]⟩)))), (1, 1, (.k (.c (.int .i64 22))))], none, true, []⟩,
  ⟨some 13, .build [.c (.str ⟨#[]⟩), .c (.int .i64 0)] [(0, 1, (.k (.c (.str ⟨#[115, 116, 111, 114, 101]⟩)))), (1, 1, (.k (.c (.int .i64 28))))], none, true, []⟩,
  ⟨some 14, .build [.c (.str ⟨#[]⟩), .c (.int .i64 0)] [(0, 1, (.k (.c (.str ⟨#[108, 111, 97, 100, 101, 120]⟩)))), (1, 1, (.k (.c (.int .i64 22))))], none, true, []⟩,
  ⟨some 15, .build [.c (.str ⟨#[]⟩), .c (.int .i64 0)] [(0, 1, (.k (.c (.str ⟨#[115, 116, 111, 114, 101, 101, 120]⟩)))), (1, 1, (.k (.c (.int .i64 30))))], none, true, []⟩,
  ⟨some 16, .build [.c (.str ⟨#[]⟩), .c (.int .i64 0)] [(0, 1, (.k (.c (.str ⟨#[102, 101, 110, 99, 101]⟩)))), (1, 1, (.k (.c (.int .i64 0))))], none, true, []⟩,
  ⟨some 17, .build [.c (.str ⟨#[]⟩), .c (.int .i64 0)] [(0, 1, (.k (.c (.str ⟨#[110, 111, 116, 101]⟩)))), (1, 1, (.k (.c (.int .i64 1))))], none, true, []⟩,
  ⟨some 18, .build [.c (.str ⟨#[]⟩), .c (.int .i64 0)] [(0, 1, (.k (.c (.str ⟨#[97, 116]⟩)))), (1, 1, (.k (.c (.int .i64 32))))], none, true, []⟩,
  ⟨some 19, .build [.c (.str ⟨#[]⟩), .c (.int .i64 0)] [(0, 1, (.k (.c (.str ⟨#[101, 120, 105, 116, 105, 102]⟩)))), (1, 1, (.k (.c (.int .i64 36))))], none, true, []⟩,
  ⟨some 20, .build [.c (.str ⟨#[]⟩), .c (.int .i64 0)] [(0, 1, (.k (.c (.str ⟨#[101, 120, 105, 116]⟩)))), (1, 1, (.k (.c (.int .i64 32))))], none, true, []⟩,
  ⟨some 21, .build [.c (.str ⟨#[]⟩), .c (.int .i64 0)] [(0, 1, (.k (.c (.str ⟨#[101, 120, 105, 116, 116, 111]⟩)))), (1, 1, (.k (.c (.int .i64 4))))], none, true, []⟩,
  ⟨some 22, .build [.c (.str ⟨#[]⟩), .c (.int .i64 0)] [(0, 1, (.k (.c (.str ⟨#[103, 117, 101, 115, 116]⟩)))), (1, 1, (.k (.c (.int .i64 32))))], none, true, []⟩,
  ⟨some 23, .bslice 75 2 [.c (.str ⟨#[]⟩), .c (.int .i64 0)] 23 [(2, 2, (.t 1)), (4, 2, (.t 2)), (6, 2, (.t 3)), (8, 2, (.t 4)), (10, 2, (.t 5)), (12, 2, (.t 6)), (14, 2, (.t 7)), (16, 2, (.t 8)), (18, 2, (.t 9)), (20, 2, (.t 10)), (22, 2, (.t 11)), (24, 2, (.t 12)), (26, 2, (.t 13)), (28, 2, (.t 14)), (30, 2, (.t 15)), (32, 2, (.t 16)), (34, 2, (.t 17)), (36, 2, (.t 18)), (38, 2, (.t 19)), (40, 2, (.t 20)), (42, 2, (.t 21)), (44, 2, (.t 22))], none, true, []⟩,
  ⟨some 0, .mv (.t 23), none, true, []⟩]
def C25 : ACode :=
  .seq (.region C25r0)
  (.seq (.region C25r1)
  (.ret))
theorem C25_ok : stripF Try.prog Try.f25 = some C25 := by kernel_rfl
/-! understudy/lower.leaves -/
def C26r0 : List AOper := [⟨some 2, .mv (.k (.c (.bool false))), none, true, []⟩]
def C26r1 : List AOper := [⟨some 3, .mv (.t 0), none, true, []⟩,
  ⟨some 4, .bin .eql (.t 3) (.k (.c (.int .i64 20))), none, true, []⟩,
  ⟨some 5, .mv (.t 4), none, true, []⟩,
  ⟨some 6, .mv (.t 0), some (5, false), true, []⟩,
  ⟨some 7, .bin .eql (.t 6) (.k (.c (.int .i64 21))), some (5, false), true, []⟩,
  ⟨some 8, .pick 5 (.k (.c (.bool true))) (.t 7), none, true, []⟩,
  ⟨some 9, .mv (.t 8), none, true, []⟩,
  ⟨some 10, .mv (.t 0), some (9, false), true, []⟩,
  ⟨some 11, .bin .eql (.t 10) (.k (.c (.int .i64 22))), some (9, false), true, []⟩,
  ⟨some 12, .pick 9 (.k (.c (.bool true))) (.t 11), none, true, []⟩,
  ⟨some 2, .mv (.t 12), none, true, []⟩]
def C26 : ACode :=
  .seq (.region C26r0)
  (.seq (.region C26r1)
  (.ret))
theorem C26_ok : stripF Try.prog Try.f26 = some C26 := by kernel_rfl
/-! understudy/lower.fits -/
def C27r0 : List AOper := [⟨some 2, .box 34 (.t 0), none, true, []⟩,
  ⟨some 4, .mv (.k (.c (.bool false))), none, true, []⟩]
def C27r1 : List AOper := [⟨some 5, .faddr (.t 2) 0, none, true, []⟩,
  ⟨some 6, .ld1 (.t 5), none, true, []⟩]
def C27r2 : List AOper := [⟨some 8, .bin .eql (.t 6) (.k (.c (.int .i64 5))), none, true, []⟩,
  ⟨some 7, .mv (.t 8), none, true, []⟩]
def C27r3 : List AOper := [⟨some 9, .bin .eql (.t 6) (.k (.c (.int .i64 6))), none, true, []⟩,
  ⟨some 7, .mv (.t 9), none, true, []⟩]
def C27r4 : List AOper := [⟨some 10, .faddr (.t 2) 1, none, true, []⟩,
  ⟨some 11, .ld1 (.t 10), none, true, []⟩,
  ⟨some 12, .call (.k (.c (.fn 24 [] []))) [(.t 11), (.k (.c (.int .i64 0))), (.k (.c (.int .i64 30)))], none, true, []⟩,
  ⟨some 4, .mv (.t 12), none, true, []⟩]
def C27r5 : List AOper := [⟨some 14, .bin .eql (.t 6) (.k (.c (.int .i64 9))), none, true, []⟩,
  ⟨some 13, .mv (.t 14), none, true, []⟩]
def C27r6 : List AOper := [⟨some 15, .bin .eql (.t 6) (.k (.c (.int .i64 10))), none, true, []⟩,
  ⟨some 13, .mv (.t 15), none, true, []⟩]
def C27r7 : List AOper := [⟨some 16, .faddr (.t 2) 1, none, true, []⟩,
  ⟨some 17, .ld1 (.t 16), none, true, []⟩,
  ⟨some 18, .call (.k (.c (.fn 24 [] []))) [(.t 17), (.k (.c (.int .i64 0))), (.k (.c (.int .i64 3)))], none, true, []⟩,
  ⟨some 4, .mv (.t 18), none, true, []⟩]
def C27r8 : List AOper := [⟨some 20, .bin .eql (.t 6) (.k (.c (.int .i64 11))), none, true, []⟩,
  ⟨some 19, .mv (.t 20), none, true, []⟩]
def C27r9 : List AOper := [⟨some 21, .faddr (.t 2) 1, none, true, []⟩,
  ⟨some 22, .ld1 (.t 21), none, true, []⟩,
  ⟨some 23, .call (.k (.c (.fn 24 [] []))) [(.t 22), (.k (.c (.int .i64 1))), (.k (.c (.int .i64 15)))], none, true, []⟩,
  ⟨some 4, .mv (.t 23), none, true, []⟩]
def C27r10 : List AOper := [⟨some 25, .bin .eql (.t 6) (.k (.c (.int .i64 12))), none, true, []⟩,
  ⟨some 24, .mv (.t 25), none, true, []⟩]
def C27r11 : List AOper := [⟨some 26, .faddr (.t 2) 5, none, true, []⟩,
  ⟨some 27, .ld1 (.t 26), none, true, []⟩,
  ⟨some 28, .call (.k (.c (.fn 24 [] []))) [(.t 27), (.k (.c (.int .i64 0))), (.k (.c (.int .i64 2)))], none, true, []⟩,
  ⟨some 4, .mv (.t 28), none, true, []⟩]
def C27r12 : List AOper := [⟨some 30, .bin .eql (.t 6) (.k (.c (.int .i64 14))), none, true, []⟩,
  ⟨some 29, .mv (.t 30), none, true, []⟩]
def C27r13 : List AOper := [⟨some 31, .faddr (.t 2) 5, none, true, []⟩,
  ⟨some 32, .ld1 (.t 31), none, true, []⟩,
  ⟨some 33, .bin .eql (.t 32) (.k (.c (.int .i64 0))), none, true, []⟩,
  ⟨some 34, .mv (.t 33), none, true, []⟩,
  ⟨some 35, .faddr (.t 2) 5, some (34, false), true, []⟩,
  ⟨some 36, .ld1 (.t 35), some (34, false), true, []⟩,
  ⟨some 37, .bin .eql (.t 36) (.k (.c (.int .i64 2))), some (34, false), true, []⟩,
  ⟨some 38, .pick 34 (.k (.c (.bool true))) (.t 37), none, true, []⟩,
  ⟨some 4, .mv (.t 38), none, true, []⟩]
def C27r14 : List AOper := [⟨some 40, .bin .eql (.t 6) (.k (.c (.int .i64 13))), none, true, []⟩,
  ⟨some 39, .mv (.t 40), none, true, []⟩]
def C27r15 : List AOper := [⟨some 41, .bin .eql (.t 6) (.k (.c (.int .i64 15))), none, true, []⟩,
  ⟨some 39, .mv (.t 41), none, true, []⟩]
def C27r16 : List AOper := [⟨some 42, .faddr (.t 2) 5, none, true, []⟩,
  ⟨some 43, .ld1 (.t 42), none, true, []⟩,
  ⟨some 44, .bin .eql (.t 43) (.k (.c (.int .i64 0))), none, true, []⟩,
  ⟨some 45, .mv (.t 44), none, true, []⟩,
  ⟨some 46, .faddr (.t 2) 5, some (45, false), true, []⟩,
  ⟨some 47, .ld1 (.t 46), some (45, false), true, []⟩,
  ⟨some 48, .bin .eql (.t 47) (.k (.c (.int .i64 4))), some (45, false), true, []⟩,
  ⟨some 49, .pick 45 (.k (.c (.bool true))) (.t 48), none, true, []⟩,
  ⟨some 4, .mv (.t 49), none, true, []⟩]
def C27r17 : List AOper := [⟨some 51, .bin .eql (.t 6) (.k (.c (.int .i64 17))), none, true, []⟩,
  ⟨some 50, .mv (.t 51), none, true, []⟩]
def C27r18 : List AOper := [⟨some 52, .faddr (.t 2) 1, none, true, []⟩,
  ⟨some 53, .ld1 (.t 52), none, true, []⟩,
  ⟨some 54, .bin .eql (.t 53) (.k (.c (.int .i64 13))), none, true, []⟩,
  ⟨some 55, .mv (.t 54), none, true, []⟩,
  ⟨some 56, .faddr (.t 2) 1, some (55, false), true, []⟩,
  ⟨some 57, .ld1 (.t 56), some (55, false), true, []⟩,
  ⟨some 58, .bin .eql (.t 57) (.k (.c (.int .i64 10))), some (55, false), true, []⟩,
  ⟨some 59, .pick 55 (.k (.c (.bool true))) (.t 58), none, true, []⟩,
  ⟨some 60, .mv (.t 59), none, true, []⟩,
  ⟨some 61, .faddr (.t 2) 1, some (60, false), true, []⟩,
  ⟨some 62, .ld1 (.t 61), some (60, false), true, []⟩,
  ⟨some 63, .bin .eql (.t 62) (.k (.c (.int .i64 15))), some (60, false), true, []⟩,
  ⟨some 64, .pick 60 (.k (.c (.bool true))) (.t 63), none, true, []⟩,
  ⟨some 4, .mv (.t 64), none, true, []⟩]
def C27r19 : List AOper := [⟨some 66, .bin .eql (.t 6) (.k (.c (.int .i64 18))), none, true, []⟩,
  ⟨some 65, .mv (.t 66), none, true, []⟩]
def C27r20 : List AOper := [⟨some 67, .faddr (.t 2) 6, none, true, []⟩,
  ⟨some 68, .ld1 (.t 67), none, true, []⟩,
  ⟨some 69, .bin .rem (.t 68) (.k (.c (.int .u64 4))), none, true, []⟩,
  ⟨some 70, .bin .eql (.t 69) (.k (.c (.int .u64 0))), none, true, []⟩,
  ⟨some 4, .mv (.t 70), none, true, []⟩]
def C27r21 : List AOper := [⟨some 72, .bin .eql (.t 6) (.k (.c (.int .i64 22))), none, true, []⟩,
  ⟨some 71, .mv (.t 72), none, true, []⟩]
def C27r22 : List AOper := [⟨some 73, .faddr (.t 2) 6, none, true, []⟩,
  ⟨some 74, .ld1 (.t 73), none, true, []⟩,
  ⟨some 75, .bin .lss (.t 74) (.k (.c (.int .u64 4294967296))), none, true, []⟩,
  ⟨some 4, .mv (.t 75), none, true, []⟩]
def C27r23 : List AOper := [⟨some 77, .bin .eql (.t 6) (.k (.c (.int .i64 3))), none, true, []⟩,
  ⟨some 76, .mv (.t 77), none, true, []⟩]
def C27r24 : List AOper := [⟨some 78, .bin .eql (.t 6) (.k (.c (.int .i64 4))), none, true, []⟩,
  ⟨some 76, .mv (.t 78), none, true, []⟩]
def C27r25 : List AOper := [⟨some 79, .faddr (.t 2) 6, none, true, []⟩,
  ⟨some 80, .ld1 (.t 79), none, true, []⟩,
  ⟨some 81, .mv (.t 1), none, true, []⟩,
  ⟨some 82, .conv .u64 (.t 81), none, true, []⟩,
  ⟨some 83, .bin .lss (.t 80) (.t 82), none, true, []⟩,
  ⟨some 4, .mv (.t 83), none, true, []⟩]
def C27r26 : List AOper := [⟨some 4, .mv (.k (.c (.bool true))), none, true, []⟩]
def C27 : ACode :=
  .seq (.region C27r0)
  (.seq (.seq (.region C27r1)
  (.block 0
   (.seq (.seq (.region C27r2)
   (.cond (.t 7)
    (.skip)
    (.region C27r3)))
   (.cond (.t 7)
    (.seq (.region C27r4)
    (.ret))
    (.seq (.seq (.region C27r5)
    (.cond (.t 13)
     (.skip)
     (.region C27r6)))
    (.cond (.t 13)
     (.seq (.region C27r7)
     (.ret))
     (.seq (.region C27r8)
     (.cond (.t 19)
      (.seq (.region C27r9)
      (.ret))
      (.seq (.region C27r10)
      (.cond (.t 24)
       (.seq (.region C27r11)
       (.ret))
       (.seq (.region C27r12)
       (.cond (.t 29)
        (.seq (.region C27r13)
        (.ret))
        (.seq (.seq (.region C27r14)
        (.cond (.t 39)
         (.skip)
         (.region C27r15)))
        (.cond (.t 39)
         (.seq (.region C27r16)
         (.ret))
         (.seq (.region C27r17)
         (.cond (.t 50)
          (.seq (.region C27r18)
          (.ret))
          (.seq (.region C27r19)
          (.cond (.t 65)
           (.seq (.region C27r20)
           (.ret))
           (.seq (.region C27r21)
           (.cond (.t 71)
            (.seq (.region C27r22)
            (.ret))
            (.seq (.seq (.region C27r23)
            (.cond (.t 76)
             (.skip)
             (.region C27r24)))
            (.cond (.t 76)
             (.seq (.region C27r25)
             (.ret))
             (.skip)))))))))))))))))))))))
  (.seq (.region C27r26)
  (.ret)))
theorem C27_ok : stripF Try.prog Try.f27 = some C27 := by kernel_rfl
/-! understudy/regs.level -/
def C28r0 : List AOper := [⟨some 1, .box 29 (.t 0), none, true, []⟩,
  ⟨some 2, .mv (.k (.c (.bool false))), none, true, []⟩]
def C28r1 : List AOper := [⟨some 3, .faddr (.t 1) 38, none, true, []⟩,
  ⟨some 4, .ld1 (.t 3), none, true, []⟩,
  ⟨some 5, .bin .eql (.t 4) (.k (.c (.int .i64 0))), none, true, []⟩,
  ⟨some 6, .mv (.t 5), none, true, []⟩,
  ⟨some 7, .faddr (.t 1) 38, some (6, false), true, []⟩,
  ⟨some 8, .ld1 (.t 7), some (6, false), true, []⟩,
  ⟨some 9, .bin .eql (.t 8) (.k (.c (.int .i64 1))), some (6, false), true, []⟩,
  ⟨some 10, .pick 6 (.k (.c (.bool true))) (.t 9), none, true, []⟩,
  ⟨some 2, .mv (.t 10), none, true, []⟩]
def C28 : ACode :=
  .seq (.region C28r0)
  (.seq (.region C28r1)
  (.ret))
theorem C28_ok : stripF Try.prog Try.f28 = some C28 := by kernel_rfl
/-! understudy/understudyref21.in -/
def C29r0 : List AOper := [⟨some 6, .mv (.k (.c (.bool false))), none, true, []⟩]
def C29r1 : List AOper := [⟨some 7, .mv (.t 0), none, true, []⟩,
  ⟨some 8, .mv (.t 1), none, true, []⟩,
  ⟨some 9, .bin .geq (.t 7) (.t 8), none, true, []⟩,
  ⟨some 10, .mv (.t 9), none, true, []⟩,
  ⟨some 11, .mv (.t 0), some (10, true), true, []⟩,
  ⟨some 12, .mv (.t 2), some (10, true), true, []⟩,
  ⟨some 13, .bin .leq (.t 11) (.t 12), some (10, true), true, []⟩,
  ⟨some 14, .pick 10 (.t 13) (.k (.c (.bool false))), none, true, []⟩,
  ⟨some 6, .mv (.t 14), none, true, []⟩]
def C29 : ACode :=
  .seq (.region C29r0)
  (.seq (.region C29r1)
  (.ret))
theorem C29_ok : stripF Try.prog Try.f29 = some C29 := by kernel_rfl
/-! understudy/understudyref21.right -/
def C30r0 : List AOper := [⟨some 3, .box 34 (.t 0), none, true, []⟩,
  ⟨some 6, .mv (.k (.c (.bool false))), none, true, []⟩]
def C30r1 : List AOper := [⟨some 17, .faddr (.t 3) 0, none, true, []⟩,
  ⟨some 18, .ld1 (.t 17), none, true, []⟩,
  ⟨some 19, .call (.k (.c (.fn 31 [] []))) [(.t 18)], none, true, []⟩,
  ⟨some 16, .mv (.t 19), none, true, []⟩,
  ⟨some 20, .ext (.t 16) 0, none, true, []⟩,
  ⟨some 21, .ext (.t 16) 1, none, true, []⟩,
  ⟨some 7, .mv (.t 20), none, true, []⟩,
  ⟨some 8, .mv (.t 21), none, true, []⟩]
def C30r2 : List AOper := [⟨some 22, .mv (.t 8), none, true, []⟩,
  ⟨some 23, .call (.k (.c (.fn 32 [] []))) [(.t 22), (.k (.c (.int .u8 82)))], none, true, []⟩,
  ⟨some 9, .mv (.t 23), none, true, []⟩]
def C30r3 : List AOper := [⟨some 24, .mv (.t 8), none, true, []⟩,
  ⟨some 25, .call (.k (.c (.fn 32 [] []))) [(.t 24), (.k (.c (.int .u8 68)))], none, true, []⟩,
  ⟨some 10, .mv (.t 25), none, true, []⟩]
def C30r4 : List AOper := [⟨some 26, .mv (.t 8), none, true, []⟩,
  ⟨some 27, .call (.k (.c (.fn 32 [] []))) [(.t 26), (.k (.c (.int .u8 65)))], none, true, []⟩,
  ⟨some 11, .mv (.t 27), none, true, []⟩]
def C30r5 : List AOper := [⟨some 28, .mv (.t 8), none, true, []⟩,
  ⟨some 29, .call (.k (.c (.fn 32 [] []))) [(.t 28), (.k (.c (.int .u8 66)))], none, true, []⟩,
  ⟨some 12, .mv (.t 29), none, true, []⟩]
def C30r6 : List AOper := [⟨some 30, .mv (.t 8), none, true, []⟩,
  ⟨some 31, .call (.k (.c (.fn 32 [] []))) [(.t 30), (.k (.c (.int .u8 79)))], none, true, []⟩,
  ⟨some 13, .mv (.t 31), none, true, []⟩]
def C30r7 : List AOper := [⟨some 32, .mv (.t 8), none, true, []⟩,
  ⟨some 33, .call (.k (.c (.fn 32 [] []))) [(.t 32), (.k (.c (.int .u8 73)))], none, true, []⟩,
  ⟨some 14, .mv (.t 33), none, true, []⟩]
def C30r8 : List AOper := [⟨some 34, .ldn 7 (.t 3), none, true, []⟩,
  ⟨some 35, .mv (.t 2), none, true, []⟩,
  ⟨some 36, .len false (.t 35), none, true, []⟩,
  ⟨some 37, .call (.k (.c (.fn 46 [] []))) [(.t 34), (.t 36)], none, true, []⟩,
  ⟨some 15, .mv (.t 37), none, true, []⟩]
def C30r9 : List AOper := [⟨some 38, .mv (.t 7), none, true, []⟩,
  ⟨some 39, .eqT false (.t 38) (.k (.c (.str ⟨#[]⟩))), none, true, []⟩,
  ⟨some 40, .mv (.t 39), none, true, []⟩,
  ⟨some 41, .mv (.t 15), some (40, false), true, []⟩,
  ⟨some 42, .un .not (.t 41), some (40, false), true, []⟩,
  ⟨some 43, .pick 40 (.k (.c (.bool true))) (.t 42), none, true, []⟩,
  ⟨some 44, .mv (.t 43), none, true, []⟩,
  ⟨some 45, .mv (.t 9), some (44, false), true, []⟩,
  ⟨some 46, .un .not (.t 45), some (44, false), true, []⟩,
  ⟨some 47, .mv (.t 46), some (44, false), true, []⟩,
  ⟨some 48, .faddr (.t 3) 1, some (47, true), true, []⟩,
  ⟨some 49, .ld1 (.t 48), some (47, true), true, []⟩,
  ⟨some 50, .bin .neq (.t 49) (.k (.c (.int .i64 0))), some (47, true), true, []⟩,
  ⟨some 51, .pick 47 (.t 50) (.k (.c (.bool false))), some (44, false), true, []⟩,
  ⟨some 52, .pick 44 (.k (.c (.bool true))) (.t 51), none, true, []⟩,
  ⟨some 53, .mv (.t 52), none, true, []⟩,
  ⟨some 54, .mv (.t 10), some (53, false), true, []⟩,
  ⟨some 55, .un .not (.t 54), some (53, false), true, []⟩,
  ⟨some 56, .mv (.t 55), some (53, false), true, []⟩,
  ⟨some 57, .faddr (.t 3) 2, some (56, true), true, []⟩,
  ⟨some 58, .ld1 (.t 57), some (56, true), true, []⟩,
  ⟨some 59, .bin .neq (.t 58) (.k (.c (.int .i64 0))), some (56, true), true, []⟩,
  ⟨some 60, .pick 56 (.t 59) (.k (.c (.bool false))), some (53, false), true, []⟩,
  ⟨some 61, .pick 53 (.k (.c (.bool true))) (.t 60), none, true, []⟩,
  ⟨some 62, .mv (.t 61), none, true, []⟩,
  ⟨some 63, .mv (.t 11), some (62, false), true, []⟩,
  ⟨some 64, .un .not (.t 63), some (62, false), true, []⟩,
  ⟨some 65, .mv (.t 64), some (62, false), true, []⟩,
  ⟨some 66, .faddr (.t 3) 3, some (65, true), true, []⟩,
  ⟨some 67, .ld1 (.t 66), some (65, true), true, []⟩,
  ⟨some 68, .bin .neq (.t 67) (.k (.c (.int .i64 0))), some (65, true), true, []⟩,
  ⟨some 69, .pick 65 (.t 68) (.k (.c (.bool false))), some (62, false), true, []⟩,
  ⟨some 70, .pick 62 (.k (.c (.bool true))) (.t 69), none, true, []⟩,
  ⟨some 71, .mv (.t 70), none, true, []⟩,
  ⟨some 72, .mv (.t 12), some (71, false), true, []⟩,
  ⟨some 73, .un .not (.t 72), some (71, false), true, []⟩,
  ⟨some 74, .mv (.t 73), some (71, false), true, []⟩,
  ⟨some 75, .faddr (.t 3) 4, some (74, true), true, []⟩,
  ⟨some 76, .ld1 (.t 75), some (74, true), true, []⟩,
  ⟨some 77, .bin .neq (.t 76) (.k (.c (.int .i64 0))), some (74, true), true, []⟩,
  ⟨some 78, .pick 74 (.t 77) (.k (.c (.bool false))), some (71, false), true, []⟩,
  ⟨some 79, .pick 71 (.k (.c (.bool true))) (.t 78), none, true, []⟩,
  ⟨some 80, .mv (.t 79), none, true, []⟩,
  ⟨some 81, .mv (.t 13), some (80, false), true, []⟩,
  ⟨some 82, .un .not (.t 81), some (80, false), true, []⟩,
  ⟨some 83, .mv (.t 82), some (80, false), true, []⟩,
  ⟨some 84, .faddr (.t 3) 5, some (83, true), true, []⟩,
  ⟨some 85, .ld1 (.t 84), some (83, true), true, []⟩,
  ⟨some 86, .bin .neq (.t 85) (.k (.c (.int .i64 0))), some (83, true), true, []⟩,
  ⟨some 87, .pick 83 (.t 86) (.k (.c (.bool false))), some (80, false), true, []⟩,
  ⟨some 88, .pick 80 (.k (.c (.bool true))) (.t 87), none, true, []⟩,
  ⟨some 89, .mv (.t 88), none, true, []⟩,
  ⟨some 90, .mv (.t 14), some (89, false), true, []⟩,
  ⟨some 91, .un .not (.t 90), some (89, false), true, []⟩,
  ⟨some 92, .mv (.t 91), some (89, false), true, []⟩,
  ⟨some 93, .faddr (.t 3) 6, some (92, true), true, []⟩,
  ⟨some 94, .ld1 (.t 93), some (92, true), true, []⟩,
  ⟨some 95, .bin .neq (.t 94) (.k (.c (.int .u64 0))), some (92, true), true, []⟩,
  ⟨some 96, .pick 92 (.t 95) (.k (.c (.bool false))), some (89, false), true, []⟩,
  ⟨some 97, .pick 89 (.k (.c (.bool true))) (.t 96), none, true, []⟩]
def C30r10 : List AOper := [⟨some 6, .mv (.k (.c (.bool false))), none, true, []⟩]
def C30r11 : List AOper := [⟨some 98, .faddr (.t 3) 2, none, true, []⟩,
  ⟨some 99, .ld1 (.t 98), none, true, []⟩,
  ⟨some 100, .call (.k (.c (.fn 29 [] []))) [(.t 99), (.k (.c (.int .i64 0))), (.k (.c (.int .i64 7)))], none, true, []⟩,
  ⟨some 101, .un .not (.t 100), none, true, []⟩,
  ⟨some 102, .mv (.t 101), none, true, []⟩,
  ⟨some 103, .faddr (.t 3) 3, some (102, false), true, []⟩,
  ⟨some 104, .ld1 (.t 103), some (102, false), true, []⟩,
  ⟨some 105, .call (.k (.c (.fn 29 [] []))) [(.t 104), (.k (.c (.int .i64 0))), (.k (.c (.int .i64 7)))], some (102, false), true, []⟩,
  ⟨some 106, .un .not (.t 105), some (102, false), true, []⟩,
  ⟨some 107, .pick 102 (.k (.c (.bool true))) (.t 106), none, true, []⟩,
  ⟨some 108, .mv (.t 107), none, true, []⟩,
  ⟨some 109, .faddr (.t 3) 4, some (108, false), true, []⟩,
  ⟨some 110, .ld1 (.t 109), some (108, false), true, []⟩,
  ⟨some 111, .call (.k (.c (.fn 29 [] []))) [(.t 110), (.k (.c (.int .i64 0))), (.k (.c (.int .i64 7)))], some (108, false), true, []⟩,
  ⟨some 112, .un .not (.t 111), some (108, false), true, []⟩,
  ⟨some 113, .pick 108 (.k (.c (.bool true))) (.t 112), none, true, []⟩,
  ⟨some 114, .mv (.t 113), none, true, []⟩,
  ⟨some 115, .mv (.t 11), some (114, false), true, []⟩,
  ⟨some 116, .mv (.t 115), some (114, false), true, []⟩,
  ⟨some 117, .mv (.t 1), some (116, true), true, []⟩,
  ⟨some 118, .faddr (.t 3) 3, some (116, true), true, []⟩,
  ⟨some 119, .ld1 (.t 118), some (116, true), true, []⟩,
  ⟨some 120, .iaddr 1 (.t 117) (.t 119), some (116, true), true, []⟩,
  ⟨some 121, .ld1 (.t 120), some (116, true), true, []⟩,
  ⟨some 122, .un .not (.t 121), some (116, true), true, []⟩,
  ⟨some 123, .pick 116 (.t 122) (.k (.c (.bool false))), some (114, false), true, []⟩,
  ⟨some 124, .pick 114 (.k (.c (.bool true))) (.t 123), none, true, []⟩,
  ⟨some 125, .mv (.t 124), none, true, []⟩,
  ⟨some 126, .mv (.t 12), some (125, false), true, []⟩,
  ⟨some 127, .mv (.t 126), some (125, false), true, []⟩,
  ⟨some 128, .mv (.t 1), some (127, true), true, []⟩,
  ⟨some 129, .faddr (.t 3) 4, some (127, true), true, []⟩,
  ⟨some 130, .ld1 (.t 129), some (127, true), true, []⟩,
  ⟨some 131, .iaddr 1 (.t 128) (.t 130), some (127, true), true, []⟩,
  ⟨some 132, .ld1 (.t 131), some (127, true), true, []⟩,
  ⟨some 133, .un .not (.t 132), some (127, true), true, []⟩,
  ⟨some 134, .pick 127 (.t 133) (.k (.c (.bool false))), some (125, false), true, []⟩,
  ⟨some 135, .pick 125 (.k (.c (.bool true))) (.t 134), none, true, []⟩]
def C30r12 : List AOper := [⟨some 6, .mv (.k (.c (.bool false))), none, true, []⟩]
def C30r13 : List AOper := [⟨some 136, .faddr (.t 3) 0, none, true, []⟩,
  ⟨some 137, .ld1 (.t 136), none, true, []⟩,
  ⟨some 138, .bin .neq (.t 137) (.k (.c (.int .i64 3))), none, true, []⟩,
  ⟨some 139, .mv (.t 138), none, true, []⟩,
  ⟨some 140, .mv (.t 2), some (139, false), true, []⟩,
  ⟨some 141, .faddr (.t 3) 6, some (139, false), true, []⟩,
  ⟨some 142, .ld1 (.t 141), some (139, false), true, []⟩,
  ⟨some 143, .iaddr 1 (.t 140) (.t 142), some (139, false), true, []⟩,
  ⟨some 144, .ld1 (.t 143), some (139, false), true, []⟩,
  ⟨some 145, .pick 139 (.k (.c (.bool true))) (.t 144), none, true, []⟩,
  ⟨some 6, .mv (.t 145), none, true, []⟩]
def C30 : ACode :=
  .seq (.region C30r0)
  (.seq (.region C30r1)
  (.seq (.region C30r2)
  (.seq (.region C30r3)
  (.seq (.region C30r4)
  (.seq (.region C30r5)
  (.seq (.region C30r6)
  (.seq (.region C30r7)
  (.seq (.region C30r8)
  (.seq (.seq (.region C30r9)
  (.cond (.t 97)
   (.seq (.region C30r10)
   (.ret))
   (.skip)))
  (.seq (.seq (.region C30r11)
  (.cond (.t 135)
   (.seq (.region C30r12)
   (.ret))
   (.skip)))
  (.seq (.region C30r13)
  (.ret))))))))))))
theorem C30_ok : stripF Try.prog Try.f30 = some C30 := by kernel_rfl
/-! understudy/understudyref21.word -/
def C31r0 : List AOper := [⟨some 2, .mv (.k (.c (.str ⟨#[]⟩))), none, true, []⟩,
  ⟨some 3, .mv (.k (.c (.str ⟨#[]⟩))), none, true, []⟩]
def C31r1 : List AOper := [⟨some 4, .mv (.t 0), none, true, []⟩]
def C31r2 : List AOper := [⟨some 6, .bin .eql (.t 4) (.k (.c (.int .i64 1))), none, true, []⟩,
  ⟨some 5, .mv (.t 6), none, true, []⟩]
def C31r3 : List AOper := [⟨some 2, .mv (.k (.c (.str ⟨#[99, 111, 110, 115, 116]⟩))), none, true, []⟩,
  ⟨some 3, .mv (.k (.c (.str ⟨#[68, 73]⟩))), none, true, []⟩]
def C31r4 : List AOper := [⟨some 8, .bin .eql (.t 4) (.k (.c (.int .i64 2))), none, true, []⟩,
  ⟨some 7, .mv (.t 8), none, true, []⟩]
def C31r5 : List AOper := [⟨some 2, .mv (.k (.c (.str ⟨#[109, 111, 118, 101]⟩))), none, true, []⟩,
  ⟨some 3, .mv (.k (.c (.str ⟨#[68, 65]⟩))), none, true, []⟩]
def C31r6 : List AOper := [⟨some 10, .bin .eql (.t 4) (.k (.c (.int .i64 3))), none, true, []⟩,
  ⟨some 9, .mv (.t 10), none, true, []⟩]
def C31r7 : List AOper := [⟨some 2, .mv (.k (.c (.str ⟨#[102, 105, 108, 108]⟩))), none, true, []⟩,
  ⟨some 3, .mv (.k (.c (.str ⟨#[68, 73]⟩))), none, true, []⟩]
def C31r8 : List AOper := [⟨some 12, .bin .eql (.t 4) (.k (.c (.int .i64 4))), none, true, []⟩,
  ⟨some 11, .mv (.t 12), none, true, []⟩]
def C31r9 : List AOper := [⟨some 2, .mv (.k (.c (.str ⟨#[115, 112, 105, 108, 108]⟩))), none, true, []⟩,
  ⟨some 3, .mv (.k (.c (.str ⟨#[65, 73]⟩))), none, true, []⟩]
def C31r10 : List AOper := [⟨some 14, .bin .eql (.t 4) (.k (.c (.int .i64 5))), none, true, []⟩,
  ⟨some 13, .mv (.t 14), none, true, []⟩]
def C31r11 : List AOper := [⟨some 2, .mv (.k (.c (.str ⟨#[103, 101, 116, 120]⟩))), none, true, []⟩,
  ⟨some 3, .mv (.k (.c (.str ⟨#[82, 68]⟩))), none, true, []⟩]
def C31r12 : List AOper := [⟨some 16, .bin .eql (.t 4) (.k (.c (.int .i64 6))), none, true, []⟩,
  ⟨some 15, .mv (.t 16), none, true, []⟩]
def C31r13 : List AOper := [⟨some 2, .mv (.k (.c (.str ⟨#[115, 101, 116, 120]⟩))), none, true, []⟩,
  ⟨some 3, .mv (.k (.c (.str ⟨#[82, 65]⟩))), none, true, []⟩]
def C31r14 : List AOper := [⟨some 18, .bin .eql (.t 4) (.k (.c (.int .i64 7))), none, true, []⟩,
  ⟨some 17, .mv (.t 18), none, true, []⟩]
def C31r15 : List AOper := [⟨some 2, .mv (.k (.c (.str ⟨#[103, 101, 116, 115, 112]⟩))), none, true, []⟩,
  ⟨some 3, .mv (.k (.c (.str ⟨#[68]⟩))), none, true, []⟩]
def C31r16 : List AOper := [⟨some 20, .bin .eql (.t 4) (.k (.c (.int .i64 8))), none, true, []⟩,
  ⟨some 19, .mv (.t 20), none, true, []⟩]
def C31r17 : List AOper := [⟨some 2, .mv (.k (.c (.str ⟨#[115, 101, 116, 115, 112]⟩))), none, true, []⟩,
  ⟨some 3, .mv (.k (.c (.str ⟨#[65]⟩))), none, true, []⟩]
def C31r18 : List AOper := [⟨some 22, .bin .eql (.t 4) (.k (.c (.int .i64 9))), none, true, []⟩,
  ⟨some 21, .mv (.t 22), none, true, []⟩]
def C31r19 : List AOper := [⟨some 2, .mv (.k (.c (.str ⟨#[103, 101, 116, 102]⟩))), none, true, []⟩,
  ⟨some 3, .mv (.k (.c (.str ⟨#[82, 68]⟩))), none, true, []⟩]
def C31r20 : List AOper := [⟨some 24, .bin .eql (.t 4) (.k (.c (.int .i64 10))), none, true, []⟩,
  ⟨some 23, .mv (.t 24), none, true, []⟩]
def C31r21 : List AOper := [⟨some 2, .mv (.k (.c (.str ⟨#[115, 101, 116, 102]⟩))), none, true, []⟩,
  ⟨some 3, .mv (.k (.c (.str ⟨#[82, 65]⟩))), none, true, []⟩]
def C31r22 : List AOper := [⟨some 26, .bin .eql (.t 4) (.k (.c (.int .i64 11))), none, true, []⟩,
  ⟨some 25, .mv (.t 26), none, true, []⟩]
def C31r23 : List AOper := [⟨some 2, .mv (.k (.c (.str ⟨#[97, 108, 117]⟩))), none, true, []⟩,
  ⟨some 3, .mv (.k (.c (.str ⟨#[82, 68, 65, 66]⟩))), none, true, []⟩]
def C31r24 : List AOper := [⟨some 28, .bin .eql (.t 4) (.k (.c (.int .i64 12))), none, true, []⟩,
  ⟨some 27, .mv (.t 28), none, true, []⟩]
def C31r25 : List AOper := [⟨some 2, .mv (.k (.c (.str ⟨#[108, 111, 97, 100]⟩))), none, true, []⟩,
  ⟨some 3, .mv (.k (.c (.str ⟨#[68, 65, 79]⟩))), none, true, []⟩]
def C31r26 : List AOper := [⟨some 30, .bin .eql (.t 4) (.k (.c (.int .i64 13))), none, true, []⟩,
  ⟨some 29, .mv (.t 30), none, true, []⟩]
def C31r27 : List AOper := [⟨some 2, .mv (.k (.c (.str ⟨#[115, 116, 111, 114, 101]⟩))), none, true, []⟩,
  ⟨some 3, .mv (.k (.c (.str ⟨#[65, 66, 79]⟩))), none, true, []⟩]
def C31r28 : List AOper := [⟨some 32, .bin .eql (.t 4) (.k (.c (.int .i64 14))), none, true, []⟩,
  ⟨some 31, .mv (.t 32), none, true, []⟩]
def C31r29 : List AOper := [⟨some 2, .mv (.k (.c (.str ⟨#[108, 111, 97, 100, 101, 120]⟩))), none, true, []⟩,
  ⟨some 3, .mv (.k (.c (.str ⟨#[68, 65, 79]⟩))), none, true, []⟩]
def C31r30 : List AOper := [⟨some 34, .bin .eql (.t 4) (.k (.c (.int .i64 15))), none, true, []⟩,
  ⟨some 33, .mv (.t 34), none, true, []⟩]
def C31r31 : List AOper := [⟨some 2, .mv (.k (.c (.str ⟨#[115, 116, 111, 114, 101, 101, 120]⟩))), none, true, []⟩,
  ⟨some 3, .mv (.k (.c (.str ⟨#[68, 65, 66, 79]⟩))), none, true, []⟩]
def C31r32 : List AOper := [⟨some 36, .bin .eql (.t 4) (.k (.c (.int .i64 16))), none, true, []⟩,
  ⟨some 35, .mv (.t 36), none, true, []⟩]
def C31r33 : List AOper := [⟨some 2, .mv (.k (.c (.str ⟨#[102, 101, 110, 99, 101]⟩))), none, true, []⟩,
  ⟨some 3, .mv (.k (.c (.str ⟨#[]⟩))), none, true, []⟩]
def C31r34 : List AOper := [⟨some 38, .bin .eql (.t 4) (.k (.c (.int .i64 17))), none, true, []⟩,
  ⟨some 37, .mv (.t 38), none, true, []⟩]
def C31r35 : List AOper := [⟨some 2, .mv (.k (.c (.str ⟨#[110, 111, 116, 101]⟩))), none, true, []⟩,
  ⟨some 3, .mv (.k (.c (.str ⟨#[82]⟩))), none, true, []⟩]
def C31r36 : List AOper := [⟨some 40, .bin .eql (.t 4) (.k (.c (.int .i64 18))), none, true, []⟩,
  ⟨some 39, .mv (.t 40), none, true, []⟩]
def C31r37 : List AOper := [⟨some 2, .mv (.k (.c (.str ⟨#[97, 116]⟩))), none, true, []⟩,
  ⟨some 3, .mv (.k (.c (.str ⟨#[73]⟩))), none, true, []⟩]
def C31r38 : List AOper := [⟨some 42, .bin .eql (.t 4) (.k (.c (.int .i64 19))), none, true, []⟩,
  ⟨some 41, .mv (.t 42), none, true, []⟩]
def C31r39 : List AOper := [⟨some 2, .mv (.k (.c (.str ⟨#[101, 120, 105, 116, 105, 102]⟩))), none, true, []⟩,
  ⟨some 3, .mv (.k (.c (.str ⟨#[65, 73]⟩))), none, true, []⟩]
def C31r40 : List AOper := [⟨some 44, .bin .eql (.t 4) (.k (.c (.int .i64 20))), none, true, []⟩,
  ⟨some 43, .mv (.t 44), none, true, []⟩]
def C31r41 : List AOper := [⟨some 2, .mv (.k (.c (.str ⟨#[101, 120, 105, 116]⟩))), none, true, []⟩,
  ⟨some 3, .mv (.k (.c (.str ⟨#[73]⟩))), none, true, []⟩]
def C31r42 : List AOper := [⟨some 46, .bin .eql (.t 4) (.k (.c (.int .i64 21))), none, true, []⟩,
  ⟨some 45, .mv (.t 46), none, true, []⟩]
def C31r43 : List AOper := [⟨some 2, .mv (.k (.c (.str ⟨#[101, 120, 105, 116, 116, 111]⟩))), none, true, []⟩,
  ⟨some 3, .mv (.k (.c (.str ⟨#[65]⟩))), none, true, []⟩]
def C31r44 : List AOper := [⟨some 48, .bin .eql (.t 4) (.k (.c (.int .i64 22))), none, true, []⟩,
  ⟨some 47, .mv (.t 48), none, true, []⟩]
def C31r45 : List AOper := [⟨some 2, .mv (.k (.c (.str ⟨#[103, 117, 101, 115, 116]⟩))), none, true, []⟩,
  ⟨some 3, .mv (.k (.c (.str ⟨#[73]⟩))), none, true, []⟩]
def C31r46 : List AOper := [⟨some 2, .mv (.k (.c (.str ⟨#[]⟩))), none, true, []⟩,
  ⟨some 3, .mv (.k (.c (.str ⟨#[]⟩))), none, true, []⟩]
def C31 : ACode :=
  .seq (.region C31r0)
  (.seq (.seq (.region C31r1)
  (.block 0
   (.seq (.region C31r2)
   (.cond (.t 5)
    (.seq (.region C31r3)
    (.ret))
    (.seq (.region C31r4)
    (.cond (.t 7)
     (.seq (.region C31r5)
     (.ret))
     (.seq (.region C31r6)
     (.cond (.t 9)
      (.seq (.region C31r7)
      (.ret))
      (.seq (.region C31r8)
      (.cond (.t 11)
       (.seq (.region C31r9)
       (.ret))
       (.seq (.region C31r10)
       (.cond (.t 13)
        (.seq (.region C31r11)
        (.ret))
        (.seq (.region C31r12)
        (.cond (.t 15)
         (.seq (.region C31r13)
         (.ret))
         (.seq (.region C31r14)
         (.cond (.t 17)
          (.seq (.region C31r15)
          (.ret))
          (.seq (.region C31r16)
          (.cond (.t 19)
           (.seq (.region C31r17)
           (.ret))
           (.seq (.region C31r18)
           (.cond (.t 21)
            (.seq (.region C31r19)
            (.ret))
            (.seq (.region C31r20)
            (.cond (.t 23)
             (.seq (.region C31r21)
             (.ret))
             (.seq (.region C31r22)
             (.cond (.t 25)
              (.seq (.region C31r23)
              (.ret))
              (.seq (.region C31r24)
              (.cond (.t 27)
               (.seq (.region C31r25)
               (.ret))
               (.seq (.region C31r26)
               (.cond (.t 29)
                (.seq (.region C31r27)
                (.ret))
                (.seq (.region C31r28)
                (.cond (.t 31)
                 (.seq (.region C31r29)
                 (.ret))
                 (.seq (.region C31r30)
                 (.cond (.t 33)
                  (.seq (.region C31r31)
                  (.ret))
                  (.seq (.region C31r32)
                  (.cond (.t 35)
                   (.seq (.region C31r33)
                   (.ret))
                   (.seq (.region C31r34)
                   (.cond (.t 37)
                    (.seq (.region C31r35)
                    (.ret))
                    (.seq (.region C31r36)
                    (.cond (.t 39)
                     (.seq (.region C31r37)
                     (.ret))
                     (.seq (.region C31r38)
                     (.cond (.t 41)
                      (.seq (.region C31r39)
                      (.ret))
                      (.seq (.region C31r40)
                      (.cond (.t 43)
                       (.seq (.region C31r41)
                       (.ret))
                       (.seq (.region C31r42)
                       (.cond (.t 45)
                        (.seq (.region C31r43)
                        (.ret))
                        (.seq (.region C31r44)
                        (.cond (.t 47)
                         (.seq (.region C31r45)
                         (.ret))
                         (.skip)))))))))))))))))))))))))))))))))))))))))))))))
  (.seq (.region C31r46)
  (.ret)))
theorem C31_ok : stripF Try.prog Try.f31 = some C31 := by kernel_rfl
/-! understudy/understudyref21.has -/
def C32r0 : List AOper := [⟨some 4, .mv (.k (.c (.bool false))), none, true, []⟩]
def C32r1 : List AOper := [⟨some 5, .mv (.k (.c (.int .i64 0))), none, true, []⟩]
def C32r2 : List AOper := [⟨some 6, .mv (.t 5), none, true, []⟩,
  ⟨some 7, .mv (.t 0), none, true, []⟩,
  ⟨some 8, .len true (.t 7), none, true, []⟩,
  ⟨some 9, .bin .lss (.t 6) (.t 8), none, true, []⟩]
def C32r3 : List AOper := [⟨some 12, .mv (.t 0), none, true, []⟩,
  ⟨some 13, .mv (.t 5), none, true, []⟩,
  ⟨some 14, .idxT (.t 12) (.t 13), none, true, []⟩,
  ⟨some 15, .mv (.t 1), none, true, []⟩,
  ⟨some 16, .bin .eql (.t 14) (.t 15), none, true, []⟩]
def C32r4 : List AOper := [⟨some 4, .mv (.k (.c (.bool true))), none, true, []⟩]
def C32r5 : List AOper := [⟨some 10, .mv (.t 5), none, true, []⟩,
  ⟨some 11, .bin .add (.t 10) (.k (.c (.int .i64 1))), none, true, []⟩,
  ⟨some 5, .mv (.t 11), none, true, []⟩]
def C32r6 : List AOper := [⟨some 4, .mv (.k (.c (.bool false))), none, true, []⟩]
def C32 : ACode :=
  .seq (.region C32r0)
  (.seq (.seq (.region C32r1)
  (.block 0
   (.loop
    (.seq (.seq (.region C32r2)
    (.cond (.t 9)
     (.skip)
     (.exit 0)))
    (.seq (.block 1
     (.seq (.region C32r3)
     (.cond (.t 16)
      (.seq (.region C32r4)
      (.ret))
      (.skip))))
    (.region C32r5))))))
  (.seq (.region C32r6)
  (.ret)))
theorem C32_ok : stripF Try.prog Try.f32 = some C32 := by kernel_rfl
/-! understudy/micro.acquires -/
def C33r0 : List AOper := [⟨some 2, .mv (.k (.c (.int .i64 0))), none, true, []⟩]
def C33r1 : List AOper := [⟨some 3, .mv (.t 0), none, true, []⟩]
def C33r2 : List AOper := [⟨some 5, .bin .eql (.t 3) (.k (.c (.int .i64 1))), none, true, []⟩,
  ⟨some 4, .mv (.t 5), none, true, []⟩]
def C33r3 : List AOper := [⟨some 2, .mv (.k (.c (.int .i64 1))), none, true, []⟩]
def C33r4 : List AOper := [⟨some 7, .bin .eql (.t 3) (.k (.c (.int .i64 2))), none, true, []⟩,
  ⟨some 6, .mv (.t 7), none, true, []⟩]
def C33r5 : List AOper := [⟨some 2, .mv (.k (.c (.int .i64 2))), none, true, []⟩]
def C33r6 : List AOper := [⟨some 2, .mv (.k (.c (.int .i64 0))), none, true, []⟩]
def C33 : ACode :=
  .seq (.region C33r0)
  (.seq (.seq (.region C33r1)
  (.block 0
   (.seq (.region C33r2)
   (.cond (.t 4)
    (.seq (.region C33r3)
    (.ret))
    (.seq (.region C33r4)
    (.cond (.t 6)
     (.seq (.region C33r5)
     (.ret))
     (.skip)))))))
  (.seq (.region C33r6)
  (.ret)))
theorem C33_ok : stripF Try.prog Try.f33 = some C33 := by kernel_rfl
/-! (*understudy/micro.Run).loaded -/
def C34r0 : List AOper := [⟨some 3, .box 57 (.t 1), none, true, []⟩,
  ⟨some 4, .mv (.k (.c (.bool false))), none, true, []⟩]
def C34r1 : List AOper := [⟨some 5, .mv (.t 0), none, false, []⟩,
  ⟨some 6, .mv (.t 0), none, false, []⟩,
  ⟨some 7, .nilchk (.t 6), none, false, []⟩,
  ⟨some 8, .faddr (.t 7) 0, none, false, []⟩,
  ⟨some 9, .faddr (.t 8) 4, none, false, []⟩,
  ⟨some 10, .ld1 (.t 9), none, false, []⟩,
  ⟨some 11, .mv (.t 0), none, false, []⟩,
  ⟨some 12, .nilchk (.t 11), none, false, []⟩,
  ⟨some 13, .faddr (.t 12) 63, none, false, []⟩,
  ⟨some 14, .ld1 (.t 13), none, false, []⟩,
  ⟨some 15, .iaddr 7 (.t 10) (.t 14), none, false, []⟩,
  ⟨some 16, .faddr (.t 15) 2, none, false, []⟩,
  ⟨some 17, .ld1 (.t 16), none, false, []⟩,
  ⟨some 18, .faddr (.t 3) 0, none, false, []⟩,
  ⟨some 19, .ld1 (.t 18), none, false, []⟩,
  ⟨some 20, .nilchk (.t 5), none, false, []⟩,
  ⟨some 21, .faddr (.t 20) 54, none, false, []⟩,
  ⟨some 22, .iaddrA 8 (.t 21) (.t 17), none, true, []⟩,
  ⟨none, .st1 (.t 22) (.t 19), none, true, []⟩]
def C34r2 : List AOper := [⟨some 23, .faddr (.t 3) 2, none, true, []⟩,
  ⟨some 24, .ld1 (.t 23), none, true, []⟩,
  ⟨some 25, .bin .eql (.t 24) (.k (.c (.int .i64 0))), none, true, []⟩,
  ⟨some 4, .mv (.t 25), none, true, []⟩]
def C34 : ACode :=
  .seq (.region C34r0)
  (.seq (.region C34r1)
  (.seq (.region C34r2)
  (.ret)))
theorem C34_ok : stripF Try.prog Try.f34 = some C34 := by kernel_rfl
/-! (*understudy/micro.Run).stored -/
def C35r0 : List AOper := [⟨some 3, .box 57 (.t 1), none, true, []⟩,
  ⟨some 4, .mv (.k (.c (.bool false))), none, true, []⟩]
def C35r1 : List AOper := [⟨some 5, .faddr (.t 3) 2, none, true, []⟩,
  ⟨some 6, .ld1 (.t 5), none, true, []⟩,
  ⟨some 7, .bin .eql (.t 6) (.k (.c (.int .i64 0))), none, true, []⟩,
  ⟨some 4, .mv (.t 7), none, true, []⟩]
def C35 : ACode :=
  .seq (.region C35r0)
  (.seq (.region C35r1)
  (.ret))
theorem C35_ok : stripF Try.prog Try.f35 = some C35 := by kernel_rfl
/-! (*understudy/micro.Run).tried -/
def C36r0 : List AOper := [⟨some 3, .box 57 (.t 1), none, true, []⟩,
  ⟨some 4, .mv (.k (.c (.bool false))), none, true, []⟩]
def C36r1 : List AOper := [⟨some 5, .mv (.k (.c (.int .u64 1))), none, true, []⟩]
def C36r2 : List AOper := [⟨some 6, .faddr (.t 3) 1, none, true, []⟩,
  ⟨some 7, .ld1 (.t 6), none, true, []⟩]
def C36r3 : List AOper := [⟨some 5, .mv (.k (.c (.int .u64 0))), none, true, []⟩]
def C36r4 : List AOper := [⟨some 8, .mv (.t 0), none, false, []⟩,
  ⟨some 9, .mv (.t 0), none, false, []⟩,
  ⟨some 10, .nilchk (.t 9), none, false, []⟩,
  ⟨some 11, .faddr (.t 10) 0, none, false, []⟩,
  ⟨some 12, .faddr (.t 11) 4, none, false, []⟩,
  ⟨some 13, .ld1 (.t 12), none, false, []⟩,
  ⟨some 14, .mv (.t 0), none, false, []⟩,
  ⟨some 15, .nilchk (.t 14), none, false, []⟩,
  ⟨some 16, .faddr (.t 15) 63, none, false, []⟩,
  ⟨some 17, .ld1 (.t 16), none, false, []⟩,
  ⟨some 18, .iaddr 7 (.t 13) (.t 17), none, false, []⟩,
  ⟨some 19, .faddr (.t 18) 2, none, false, []⟩,
  ⟨some 20, .ld1 (.t 19), none, false, []⟩,
  ⟨some 21, .mv (.t 5), none, false, []⟩,
  ⟨some 22, .nilchk (.t 8), none, false, []⟩,
  ⟨some 23, .faddr (.t 22) 54, none, false, []⟩,
  ⟨some 24, .iaddrA 8 (.t 23) (.t 20), none, true, []⟩,
  ⟨none, .st1 (.t 24) (.t 21), none, true, []⟩]
def C36r5 : List AOper := [⟨some 25, .faddr (.t 3) 2, none, true, []⟩,
  ⟨some 26, .ld1 (.t 25), none, true, []⟩,
  ⟨some 27, .bin .eql (.t 26) (.k (.c (.int .i64 0))), none, true, []⟩,
  ⟨some 4, .mv (.t 27), none, true, []⟩]
def C36 : ACode :=
  .seq (.region C36r0)
  (.seq (.region C36r1)
  (.seq (.seq (.region C36r2)
  (.cond (.t 7)
   (.region C36r3)
   (.skip)))
  (.seq (.region C36r4)
  (.seq (.region C36r5)
  (.ret)))))
theorem C36_ok : stripF Try.prog Try.f36 = some C36 := by kernel_rfl
/-! (*understudy/micro.Run).fenced -/
def C37r0 : List AOper := [⟨some 3, .box 57 (.t 1), none, true, []⟩,
  ⟨some 4, .mv (.k (.c (.bool false))), none, true, []⟩]
def C37r1 : List AOper := [⟨some 4, .mv (.k (.c (.bool true))), none, true, []⟩]
def C37 : ACode :=
  .seq (.region C37r0)
  (.seq (.region C37r1)
  (.ret))
theorem C37_ok : stripF Try.prog Try.f37 = some C37 := by kernel_rfl
/-! (*understudy/micro.Run).flag -/
def C38r0 : List AOper := [⟨some 4, .mv (.k (.c (.nilp))), none, true, []⟩]
def C38r1 : List AOper := [⟨some 5, .mv (.t 0), none, false, []⟩,
  ⟨some 6, .nilchk (.t 5), none, false, []⟩,
  ⟨some 7, .faddr (.t 6) 5, none, false, []⟩,
  ⟨some 8, .faddr (.t 7) 34, none, false, []⟩,
  ⟨some 9, .mv (.t 0), none, false, []⟩,
  ⟨some 10, .nilchk (.t 9), none, false, []⟩,
  ⟨some 11, .faddr (.t 10) 5, none, false, []⟩,
  ⟨some 12, .faddr (.t 11) 35, none, false, []⟩,
  ⟨some 13, .mv (.t 0), none, false, []⟩,
  ⟨some 14, .nilchk (.t 13), none, false, []⟩,
  ⟨some 15, .faddr (.t 14) 5, none, false, []⟩,
  ⟨some 16, .faddr (.t 15) 36, none, false, []⟩,
  ⟨some 17, .mv (.t 0), none, false, []⟩,
  ⟨some 18, .nilchk (.t 17), none, false, []⟩,
  ⟨some 19, .faddr (.t 18) 5, none, false, []⟩,
  ⟨some 20, .faddr (.t 19) 37, none, false, []⟩,
  ⟨some 21, .bslice 83 1 [.c (.nilp)] 4 [(0, 1, (.t 8)), (1, 1, (.t 12)), (2, 1, (.t 16)), (3, 1, (.t 20))], none, false, []⟩,
  ⟨some 22, .mv (.t 1), none, false, []⟩,
  ⟨some 23, .iaddr 1 (.t 21) (.t 22), none, true, []⟩,
  ⟨some 24, .ld1 (.t 23), none, true, []⟩,
  ⟨some 4, .mv (.t 24), none, true, []⟩]
def C38 : ACode :=
  .seq (.region C38r0)
  (.seq (.region C38r1)
  (.ret))
theorem C38_ok : stripF Try.prog Try.f38 = some C38 := by kernel_rfl
/-! understudy/alu.Reckon -/
def C39r0 : List AOper := [⟨some 6, .mv (.k (.c (.int .u64 0))), none, true, []⟩,
  ⟨some 7, .mv (.k (.c (.int .i64 0))), none, true, []⟩]
def C39r1 : List AOper := [⟨some 9, .mv (.t 0), none, true, []⟩,
  ⟨some 10, .call (.k (.c (.fn 47 [] []))) [(.t 9)], none, true, []⟩,
  ⟨some 8, .mv (.t 10), none, true, []⟩]
def C39r2 : List AOper := [⟨some 11, .mv (.t 8), none, true, []⟩,
  ⟨some 12, .nilq .fn false (.t 11) (.k (.c (.nilfn))), none, true, []⟩]
def C39r3 : List AOper := [⟨some 6, .mv (.k (.c (.int .u64 0))), none, true, []⟩,
  ⟨some 7, .mv (.k (.c (.int .i64 1))), none, true, []⟩]
def C39r4 : List AOper := [⟨some 13, .mv (.t 8), none, true, []⟩,
  ⟨some 14, .mv (.t 1), none, true, []⟩,
  ⟨some 15, .mv (.t 2), none, true, []⟩,
  ⟨some 16, .call (.t 13) [(.t 14), (.t 15)], none, true, []⟩,
  ⟨some 6, .mv (.t 16), none, true, []⟩,
  ⟨some 7, .mv (.k (.c (.int .i64 0))), none, true, []⟩]
def C39 : ACode :=
  .seq (.region C39r0)
  (.seq (.region C39r1)
  (.seq (.seq (.region C39r2)
  (.cond (.t 12)
   (.seq (.region C39r3)
   (.ret))
   (.skip)))
  (.seq (.region C39r4)
  (.ret))))
theorem C39_ok : stripF Try.prog Try.f39 = some C39 := by kernel_rfl
/-! (*understudy/micro.Run).leave -/
def C40r0 : List AOper := [⟨some 4, .mv (.t 0), none, true, []⟩,
  ⟨some 5, .mv (.t 0), none, true, []⟩,
  ⟨some 6, .mv (.t 1), none, true, []⟩,
  ⟨some 7, .nilchk (.t 4), none, true, []⟩,
  ⟨some 8, .faddr (.t 7) 75, none, true, []⟩,
  ⟨none, .st1 (.t 8) (.k (.c (.bool true))), none, true, []⟩,
  ⟨some 9, .nilchk (.t 5), none, true, []⟩,
  ⟨some 10, .faddr (.t 9) 5, none, true, []⟩,
  ⟨some 11, .faddr (.t 10) 33, none, true, []⟩,
  ⟨none, .st1 (.t 11) (.t 6), none, true, []⟩]
def C40 : ACode :=
  .region C40r0
theorem C40_ok : stripF Try.prog Try.f40 = some C40 := by kernel_rfl
/-! (*understudy/understudyref22.Run).access -/
def C41r0 : List AOper := [⟨some 4, .box 34 (.t 1), none, true, []⟩]
def C41r1 : List AOper := [⟨some 7, .mv (.t 2), none, true, []⟩,
  ⟨some 8, .bin .rem (.t 7) (.k (.c (.int .u64 8))), none, true, []⟩,
  ⟨some 9, .bin .neq (.t 8) (.k (.c (.int .u64 0))), none, true, []⟩]
def C41r2 : List AOper := [⟨some 10, .mv (.t 0), none, true, []⟩,
  ⟨some 11, .nilchk (.t 10), none, true, []⟩,
  ⟨some 12, .faddr (.t 11) 75, none, true, []⟩,
  ⟨none, .st1 (.t 12) (.k (.c (.bool true))), none, true, []⟩]
def C41r3 : List AOper := [⟨some 13, .mv (.t 0), none, true, []⟩,
  ⟨some 14, .nilchk (.t 13), none, true, []⟩,
  ⟨some 15, .faddr (.t 14) 76, none, true, []⟩,
  ⟨none, .st1 (.t 15) (.k (.c (.bool true))), none, true, []⟩]
def C41r4 : List AOper := [⟨some 16, .mv (.t 0), none, true, []⟩,
  ⟨some 17, .nilchk (.t 16), none, true, []⟩,
  ⟨some 18, .faddr (.t 17) 79, none, true, []⟩,
  ⟨some 19, .ld1 (.t 18), none, true, []⟩,
  ⟨some 20, .bin .add (.t 19) (.k (.c (.int .i64 1))), none, true, []⟩,
  ⟨some 21, .nilchk (.t 16), none, true, []⟩,
  ⟨some 22, .faddr (.t 21) 79, none, true, []⟩,
  ⟨none, .st1 (.t 22) (.t 20), none, true, []⟩]
def C41r5 : List AOper := [⟨some 23, .mv (.t 2), none, true, []⟩,
  ⟨some 24, .build [.c (.int .i64 0), .c (.int .u64 0), .c (.int .u64 0), .c (.int .i64 0), .c (.bool false), .c (.int .i64 0), .c (.bool false), .c (.int .i64 0), .c (.int .i64 0), .c (.int .i64 0)] [(1, 1, (.t 23))], none, true, []⟩,
  ⟨some 6, .alloc 45 [.c (.int .i64 0), .c (.int .u64 0), .c (.int .u64 0), .c (.int .i64 0), .c (.bool false), .c (.int .i64 0), .c (.bool false), .c (.int .i64 0), .c (.int .i64 0), .c (.int .i64 0)], none, true, []⟩,
  ⟨none, .stn 10 (.t 6) (.t 24), none, true, []⟩]
def C41r6 : List AOper := [⟨some 25, .faddr (.t 4) 0, none, true, []⟩,
  ⟨some 26, .ld1 (.t 25), none, true, []⟩]
def C41r7 : List AOper := [⟨some 41, .bin .eql (.t 26) (.k (.c (.int .i64 12))), none, true, []⟩,
  ⟨some 40, .mv (.t 41), none, true, []⟩]
def C41r8 : List AOper := [⟨some 42, .faddr (.t 6) 0, none, true, []⟩,
  ⟨none, .st1 (.t 42) (.k (.c (.int .i64 1))), none, true, []⟩]
def C41r9 : List AOper := [⟨some 43, .faddr (.t 4) 5, none, true, []⟩,
  ⟨some 44, .ld1 (.t 43), none, true, []⟩,
  ⟨some 45, .faddr (.t 6) 3, none, true, []⟩,
  ⟨none, .st1 (.t 45) (.t 44), none, true, []⟩]
def C41r10 : List AOper := [⟨some 47, .bin .eql (.t 26) (.k (.c (.int .i64 14))), none, true, []⟩,
  ⟨some 46, .mv (.t 47), none, true, []⟩]
def C41r11 : List AOper := [⟨some 48, .faddr (.t 6) 0, none, true, []⟩,
  ⟨none, .st1 (.t 48) (.k (.c (.int .i64 3))), none, true, []⟩]
def C41r12 : List AOper := [⟨some 49, .faddr (.t 4) 5, none, true, []⟩,
  ⟨some 50, .ld1 (.t 49), none, true, []⟩,
  ⟨some 51, .faddr (.t 6) 3, none, true, []⟩,
  ⟨none, .st1 (.t 51) (.t 50), none, true, []⟩]
def C41r13 : List AOper := [⟨some 53, .bin .eql (.t 26) (.k (.c (.int .i64 13))), none, true, []⟩,
  ⟨some 52, .mv (.t 53), none, true, []⟩]
def C41r14 : List AOper := [⟨some 54, .faddr (.t 6) 0, none, true, []⟩,
  ⟨none, .st1 (.t 54) (.k (.c (.int .i64 2))), none, true, []⟩]
def C41r15 : List AOper := [⟨some 55, .mv (.t 0), none, false, []⟩,
  ⟨some 56, .faddr (.t 4) 4, none, false, []⟩,
  ⟨some 57, .ld1 (.t 56), none, false, []⟩,
  ⟨some 58, .nilchk (.t 55), none, false, []⟩,
  ⟨some 59, .faddr (.t 58) 54, none, false, []⟩,
  ⟨some 60, .iaddrA 8 (.t 59) (.t 57), none, true, []⟩,
  ⟨some 61, .ld1 (.t 60), none, true, []⟩,
  ⟨some 62, .faddr (.t 6) 2, none, true, []⟩,
  ⟨none, .st1 (.t 62) (.t 61), none, true, []⟩]
def C41r16 : List AOper := [⟨some 63, .faddr (.t 4) 5, none, true, []⟩,
  ⟨some 64, .ld1 (.t 63), none, true, []⟩,
  ⟨some 65, .bin .eql (.t 64) (.k (.c (.int .i64 4))), none, true, []⟩,
  ⟨some 66, .faddr (.t 6) 4, none, true, []⟩,
  ⟨none, .st1 (.t 66) (.t 65), none, true, []⟩]
def C41r17 : List AOper := [⟨some 27, .faddr (.t 6) 0, none, true, []⟩,
  ⟨none, .st1 (.t 27) (.k (.c (.int .i64 4))), none, true, []⟩]
def C41r18 : List AOper := [⟨some 28, .mv (.t 0), none, false, []⟩,
  ⟨some 29, .faddr (.t 4) 4, none, false, []⟩,
  ⟨some 30, .ld1 (.t 29), none, false, []⟩,
  ⟨some 31, .nilchk (.t 28), none, false, []⟩,
  ⟨some 32, .faddr (.t 31) 54, none, false, []⟩,
  ⟨some 33, .iaddrA 8 (.t 32) (.t 30), none, true, []⟩,
  ⟨some 34, .ld1 (.t 33), none, true, []⟩,
  ⟨some 35, .faddr (.t 6) 2, none, true, []⟩,
  ⟨none, .st1 (.t 35) (.t 34), none, true, []⟩]
def C41r19 : List AOper := [⟨some 36, .faddr (.t 4) 5, none, true, []⟩,
  ⟨some 37, .ld1 (.t 36), none, true, []⟩,
  ⟨some 38, .bin .eql (.t 37) (.k (.c (.int .i64 4))), none, true, []⟩,
  ⟨some 39, .faddr (.t 6) 4, none, true, []⟩,
  ⟨none, .st1 (.t 39) (.t 38), none, true, []⟩]
def C41r20 : List AOper := [⟨some 67, .mv (.t 0), none, true, []⟩,
  ⟨some 68, .ldn 10 (.t 6), none, true, []⟩,
  ⟨some 69, .call (.k (.c (.fn 42 [] []))) [(.t 67), (.t 68)], none, true, []⟩]
def C41 : ACode :=
  .seq (.region C41r0)
  (.seq (.seq (.region C41r1)
  (.cond (.t 9)
   (.seq (.region C41r2)
   (.seq (.region C41r3)
   (.seq (.region C41r4)
   (.ret))))
   (.skip)))
  (.seq (.region C41r5)
  (.seq (.seq (.region C41r6)
  (.block 0
   (.seq (.region C41r7)
   (.cond (.t 40)
    (.seq (.region C41r8)
    (.region C41r9))
    (.seq (.region C41r10)
    (.cond (.t 46)
     (.seq (.region C41r11)
     (.region C41r12))
     (.seq (.region C41r13)
     (.cond (.t 52)
      (.seq (.region C41r14)
      (.seq (.region C41r15)
      (.region C41r16)))
      (.seq (.region C41r17)
      (.seq (.region C41r18)
      (.region C41r19)))))))))))
  (.region C41r20))))
theorem C41_ok : stripF Try.prog Try.f41 = some C41 := by kernel_rfl
/-! (*understudy/understudyref22.Run).wait -/
def C42r0 : List AOper := [⟨some 3, .box 45 (.t 1), none, true, []⟩]
def C42r1 : List AOper := [⟨some 4, .mv (.t 0), none, true, []⟩,
  ⟨some 5, .nilchk (.t 4), none, true, []⟩,
  ⟨some 6, .faddr (.t 5) 64, none, true, []⟩,
  ⟨none, .st1 (.t 6) (.k (.c (.bool true))), none, true, []⟩]
def C42r2 : List AOper := [⟨some 7, .mv (.t 0), none, true, []⟩,
  ⟨some 8, .ldn 10 (.t 3), none, true, []⟩,
  ⟨some 9, .nilchk (.t 7), none, true, []⟩,
  ⟨some 10, .faddr (.t 9) 65, none, true, []⟩,
  ⟨none, .stn 10 (.t 10) (.t 8), none, true, []⟩]
def C42 : ACode :=
  .seq (.region C42r0)
  (.seq (.region C42r1)
  (.region C42r2))
theorem C42_ok : stripF Try.prog Try.f42 = some C42 := by kernel_rfl
/-! (*understudy/understudyref22.Run).setF -/
def C43r0 : List AOper := [⟨some 6, .mv (.t 1), none, true, []⟩]
def C43r1 : List AOper := [⟨some 13, .bin .eql (.t 6) (.k (.c (.int .i64 0))), none, true, []⟩,
  ⟨some 12, .mv (.t 13), none, true, []⟩]
def C43r2 : List AOper := [⟨some 14, .mv (.t 0), none, true, []⟩,
  ⟨some 15, .mv (.t 2), none, true, []⟩,
  ⟨some 16, .nilchk (.t 14), none, true, []⟩,
  ⟨some 17, .faddr (.t 16) 5, none, true, []⟩,
  ⟨some 18, .faddr (.t 17) 34, none, true, []⟩,
  ⟨none, .st1 (.t 18) (.t 15), none, true, []⟩]
def C43r3 : List AOper := [⟨some 20, .bin .eql (.t 6) (.k (.c (.int .i64 1))), none, true, []⟩,
  ⟨some 19, .mv (.t 20), none, true, []⟩]
def C43r4 : List AOper := [⟨some 21, .mv (.t 0), none, true, []⟩,
  ⟨some 22, .mv (.t 2), none, true, []⟩,
  ⟨some 23, .nilchk (.t 21), none, true, []⟩,
  ⟨some 24, .faddr (.t 23) 5, none, true, []⟩,
  ⟨some 25, .faddr (.t 24) 35, none, true, []⟩,
  ⟨none, .st1 (.t 25) (.t 22), none, true, []⟩]
def C43r5 : List AOper := [⟨some 27, .bin .eql (.t 6) (.k (.c (.int .i64 2))), none, true, []⟩,
  ⟨some 26, .mv (.t 27), none, true, []⟩]
def C43r6 : List AOper := [⟨some 28, .mv (.t 0), none, true, []⟩,
  ⟨some 29, .mv (.t 2), none, true, []⟩,
  ⟨some 30, .nilchk (.t 28), none, true, []⟩,
  ⟨some 31, .faddr (.t 30) 5, none, true, []⟩,
  ⟨some 32, .faddr (.t 31) 36, none, true, []⟩,
  ⟨none, .st1 (.t 32) (.t 29), none, true, []⟩]
def C43r7 : List AOper := [⟨some 7, .mv (.t 0), none, true, []⟩,
  ⟨some 8, .mv (.t 2), none, true, []⟩,
  ⟨some 9, .nilchk (.t 7), none, true, []⟩,
  ⟨some 10, .faddr (.t 9) 5, none, true, []⟩,
  ⟨some 11, .faddr (.t 10) 37, none, true, []⟩,
  ⟨none, .st1 (.t 11) (.t 8), none, true, []⟩]
def C43 : ACode :=
  .seq (.region C43r0)
  (.block 0
   (.seq (.region C43r1)
   (.cond (.t 12)
    (.region C43r2)
    (.seq (.region C43r3)
    (.cond (.t 19)
     (.region C43r4)
     (.seq (.region C43r5)
     (.cond (.t 26)
      (.region C43r6)
      (.region C43r7))))))))
theorem C43_ok : stripF Try.prog Try.f43 = some C43 := by kernel_rfl
/-! understudy/understudyref05.Reckon -/
def C44r0 : List AOper := [⟨some 6, .mv (.k (.c (.int .u64 0))), none, true, []⟩,
  ⟨some 7, .mv (.k (.c (.bool false))), none, true, []⟩]
def C44r1 : List AOper := [⟨some 10, .mv (.t 2), none, true, []⟩,
  ⟨some 11, .bin .rem (.t 10) (.k (.c (.int .u64 64))), none, true, []⟩,
  ⟨some 12, .conv .i64 (.t 11), none, true, []⟩,
  ⟨some 8, .mv (.t 12), none, true, []⟩]
def C44r2 : List AOper := [⟨some 13, .mv (.t 0), none, true, []⟩]
def C44r3 : List AOper := [⟨some 15, .bin .eql (.t 13) (.k (.c (.int .i64 1))), none, true, []⟩,
  ⟨some 14, .mv (.t 15), none, true, []⟩]
def C44r4 : List AOper := [⟨some 16, .mv (.t 1), none, true, []⟩,
  ⟨some 17, .mv (.t 2), none, true, []⟩,
  ⟨some 18, .bin .add (.t 16) (.t 17), none, true, []⟩,
  ⟨some 6, .mv (.t 18), none, true, []⟩,
  ⟨some 7, .mv (.k (.c (.bool true))), none, true, []⟩]
def C44r5 : List AOper := [⟨some 20, .bin .eql (.t 13) (.k (.c (.int .i64 2))), none, true, []⟩,
  ⟨some 19, .mv (.t 20), none, true, []⟩]
def C44r6 : List AOper := [⟨some 21, .mv (.t 1), none, true, []⟩,
  ⟨some 22, .mv (.t 2), none, true, []⟩,
  ⟨some 23, .bin .sub (.t 21) (.t 22), none, true, []⟩,
  ⟨some 6, .mv (.t 23), none, true, []⟩,
  ⟨some 7, .mv (.k (.c (.bool true))), none, true, []⟩]
def C44r7 : List AOper := [⟨some 25, .bin .eql (.t 13) (.k (.c (.int .i64 3))), none, true, []⟩,
  ⟨some 24, .mv (.t 25), none, true, []⟩]
def C44r8 : List AOper := [⟨some 26, .mv (.t 1), none, true, []⟩,
  ⟨some 27, .mv (.t 2), none, true, []⟩,
  ⟨some 28, .bin .and (.t 26) (.t 27), none, true, []⟩,
  ⟨some 6, .mv (.t 28), none, true, []⟩,
  ⟨some 7, .mv (.k (.c (.bool true))), none, true, []⟩]
def C44r9 : List AOper := [⟨some 30, .bin .eql (.t 13) (.k (.c (.int .i64 4))), none, true, []⟩,
  ⟨some 29, .mv (.t 30), none, true, []⟩]
def C44r10 : List AOper := [⟨some 31, .mv (.t 1), none, true, []⟩,
  ⟨some 32, .mv (.t 2), none, true, []⟩,
  ⟨some 33, .bin .or (.t 31) (.t 32), none, true, []⟩,
  ⟨some 6, .mv (.t 33), none, true, []⟩,
  ⟨some 7, .mv (.k (.c (.bool true))), none, true, []⟩]
def C44r11 : List AOper := [⟨some 35, .bin .eql (.t 13) (.k (.c (.int .i64 5))), none, true, []⟩,
  ⟨some 34, .mv (.t 35), none, true, []⟩]
def C44r12 : List AOper := [⟨some 36, .mv (.t 1), none, true, []⟩,
  ⟨some 37, .mv (.t 2), none, true, []⟩,
  ⟨some 38, .bin .xor (.t 36) (.t 37), none, true, []⟩,
  ⟨some 6, .mv (.t 38), none, true, []⟩,
  ⟨some 7, .mv (.k (.c (.bool true))), none, true, []⟩]
def C44r13 : List AOper := [⟨some 40, .bin .eql (.t 13) (.k (.c (.int .i64 6))), none, true, []⟩,
  ⟨some 39, .mv (.t 40), none, true, []⟩]
def C44r14 : List AOper := [⟨some 41, .mv (.t 1), none, true, []⟩,
  ⟨some 42, .mv (.t 2), none, true, []⟩,
  ⟨some 43, .bin .mul (.t 41) (.t 42), none, true, []⟩,
  ⟨some 6, .mv (.t 43), none, true, []⟩,
  ⟨some 7, .mv (.k (.c (.bool true))), none, true, []⟩]
def C44r15 : List AOper := [⟨some 45, .bin .eql (.t 13) (.k (.c (.int .i64 7))), none, true, []⟩,
  ⟨some 44, .mv (.t 45), none, true, []⟩]
def C44r16 : List AOper := [⟨some 46, .mv (.t 2), none, true, []⟩,
  ⟨some 47, .bin .eql (.t 46) (.k (.c (.int .u64 0))), none, true, []⟩]
def C44r17 : List AOper := [⟨some 6, .mv (.k (.c (.int .u64 0))), none, true, []⟩,
  ⟨some 7, .mv (.k (.c (.bool true))), none, true, []⟩]
def C44r18 : List AOper := [⟨some 48, .mv (.t 1), none, true, []⟩,
  ⟨some 49, .mv (.t 2), none, true, []⟩,
  ⟨some 50, .bin .quo (.t 48) (.t 49), none, true, []⟩,
  ⟨some 6, .mv (.t 50), none, true, []⟩,
  ⟨some 7, .mv (.k (.c (.bool true))), none, true, []⟩]
def C44r19 : List AOper := [⟨some 52, .bin .eql (.t 13) (.k (.c (.int .i64 8))), none, true, []⟩,
  ⟨some 51, .mv (.t 52), none, true, []⟩]
def C44r20 : List AOper := [⟨some 53, .mv (.t 1), none, true, []⟩,
  ⟨some 54, .mv (.t 2), none, true, []⟩,
  ⟨some 55, .call (.k (.c (.fn 48 [] []))) [(.t 53), (.t 54)], none, true, []⟩,
  ⟨some 6, .mv (.t 55), none, true, []⟩,
  ⟨some 7, .mv (.k (.c (.bool true))), none, true, []⟩]
def C44r21 : List AOper := [⟨some 57, .bin .eql (.t 13) (.k (.c (.int .i64 9))), none, true, []⟩,
  ⟨some 56, .mv (.t 57), none, true, []⟩]
def C44r22 : List AOper := [⟨some 9, .mv (.k (.c (.int .i64 0))), none, true, []⟩]
def C44r23 : List AOper := [⟨some 58, .mv (.t 9), none, true, []⟩,
  ⟨some 59, .mv (.t 8), none, true, []⟩,
  ⟨some 60, .bin .lss (.t 58) (.t 59), none, true, []⟩]
def C44r24 : List AOper := [⟨some 63, .mv (.t 1), none, true, []⟩,
  ⟨some 64, .mv (.t 1), none, true, []⟩,
  ⟨some 65, .bin .add (.t 63) (.t 64), none, true, []⟩,
  ⟨some 1, .mv (.t 65), none, true, []⟩]
def C44r25 : List AOper := [⟨some 61, .mv (.t 9), none, true, []⟩,
  ⟨some 62, .bin .add (.t 61) (.k (.c (.int .i64 1))), none, true, []⟩,
  ⟨some 9, .mv (.t 62), none, true, []⟩]
def C44r26 : List AOper := [⟨some 66, .mv (.t 1), none, true, []⟩,
  ⟨some 6, .mv (.t 66), none, true, []⟩,
  ⟨some 7, .mv (.k (.c (.bool true))), none, true, []⟩]
def C44r27 : List AOper := [⟨some 68, .bin .eql (.t 13) (.k (.c (.int .i64 10))), none, true, []⟩,
  ⟨some 67, .mv (.t 68), none, true, []⟩]
def C44r28 : List AOper := [⟨some 69, .mv (.t 1), none, true, []⟩,
  ⟨some 70, .mv (.t 8), none, true, []⟩,
  ⟨some 71, .call (.k (.c (.fn 49 [] []))) [(.t 69), (.t 70), (.k (.c (.int .i64 0)))], none, true, []⟩,
  ⟨some 6, .mv (.t 71), none, true, []⟩,
  ⟨some 7, .mv (.k (.c (.bool true))), none, true, []⟩]
def C44r29 : List AOper := [⟨some 73, .bin .eql (.t 13) (.k (.c (.int .i64 11))), none, true, []⟩,
  ⟨some 72, .mv (.t 73), none, true, []⟩]
def C44r30 : List AOper := [⟨some 74, .mv (.t 1), none, true, []⟩,
  ⟨some 75, .mv (.t 8), none, true, []⟩,
  ⟨some 76, .mv (.t 1), none, true, []⟩,
  ⟨some 77, .bin .shr (.t 76) (.k (.c (.int .u64 63))), none, true, []⟩,
  ⟨some 78, .conv .i64 (.t 77), none, true, []⟩,
  ⟨some 79, .call (.k (.c (.fn 49 [] []))) [(.t 74), (.t 75), (.t 78)], none, true, []⟩,
  ⟨some 6, .mv (.t 79), none, true, []⟩,
  ⟨some 7, .mv (.k (.c (.bool true))), none, true, []⟩]
def C44r31 : List AOper := [⟨some 81, .bin .eql (.t 13) (.k (.c (.int .i64 12))), none, true, []⟩,
  ⟨some 80, .mv (.t 81), none, true, []⟩]
def C44r32 : List AOper := [⟨some 82, .mv (.t 1), none, true, []⟩,
  ⟨some 83, .mv (.t 8), none, true, []⟩,
  ⟨some 84, .call (.k (.c (.fn 49 [] []))) [(.t 82), (.t 83), (.k (.c (.int .i64 2)))], none, true, []⟩,
  ⟨some 6, .mv (.t 84), none, true, []⟩,
  ⟨some 7, .mv (.k (.c (.bool true))), none, true, []⟩]
def C44r33 : List AOper := [⟨some 86, .bin .eql (.t 13) (.k (.c (.int .i64 13))), none, true, []⟩,
  ⟨some 85, .mv (.t 86), none, true, []⟩]
def C44r34 : List AOper := [⟨some 87, .mv (.t 1), none, true, []⟩,
  ⟨some 88, .mv (.t 2), none, true, []⟩,
  ⟨some 89, .bin .eql (.t 87) (.t 88), none, true, []⟩,
  ⟨some 90, .call (.k (.c (.fn 50 [] []))) [(.t 89)], none, true, []⟩,
  ⟨some 6, .mv (.t 90), none, true, []⟩,
  ⟨some 7, .mv (.k (.c (.bool true))), none, true, []⟩]
def C44r35 : List AOper := [⟨some 92, .bin .eql (.t 13) (.k (.c (.int .i64 14))), none, true, []⟩,
  ⟨some 91, .mv (.t 92), none, true, []⟩]
def C44r36 : List AOper := [⟨some 93, .mv (.t 1), none, true, []⟩,
  ⟨some 94, .mv (.t 2), none, true, []⟩,
  ⟨some 95, .bin .lss (.t 93) (.t 94), none, true, []⟩,
  ⟨some 96, .call (.k (.c (.fn 50 [] []))) [(.t 95)], none, true, []⟩,
  ⟨some 6, .mv (.t 96), none, true, []⟩,
  ⟨some 7, .mv (.k (.c (.bool true))), none, true, []⟩]
def C44r37 : List AOper := [⟨some 98, .bin .eql (.t 13) (.k (.c (.int .i64 15))), none, true, []⟩,
  ⟨some 97, .mv (.t 98), none, true, []⟩]
def C44r38 : List AOper := [⟨some 99, .mv (.t 1), none, true, []⟩,
  ⟨some 100, .mv (.t 2), none, true, []⟩,
  ⟨some 101, .call (.k (.c (.fn 51 [] []))) [(.t 99), (.t 100)], none, true, []⟩,
  ⟨some 102, .call (.k (.c (.fn 50 [] []))) [(.t 101)], none, true, []⟩,
  ⟨some 6, .mv (.t 102), none, true, []⟩,
  ⟨some 7, .mv (.k (.c (.bool true))), none, true, []⟩]
def C44r39 : List AOper := [⟨some 6, .mv (.k (.c (.int .u64 0))), none, true, []⟩,
  ⟨some 7, .mv (.k (.c (.bool false))), none, true, []⟩]
def C44 : ACode :=
  .seq (.region C44r0)
  (.seq (.region C44r1)
  (.seq (.seq (.region C44r2)
  (.block 0
   (.seq (.region C44r3)
   (.cond (.t 14)
    (.seq (.region C44r4)
    (.ret))
    (.seq (.region C44r5)
    (.cond (.t 19)
     (.seq (.region C44r6)
     (.ret))
     (.seq (.region C44r7)
     (.cond (.t 24)
      (.seq (.region C44r8)
      (.ret))
      (.seq (.region C44r9)
      (.cond (.t 29)
       (.seq (.region C44r10)
       (.ret))
       (.seq (.region C44r11)
       (.cond (.t 34)
        (.seq (.region C44r12)
        (.ret))
        (.seq (.region C44r13)
        (.cond (.t 39)
         (.seq (.region C44r14)
         (.ret))
         (.seq (.region C44r15)
         (.cond (.t 44)
          (.seq (.seq (.region C44r16)
          (.cond (.t 47)
           (.seq (.region C44r17)
           (.ret))
           (.skip)))
          (.seq (.region C44r18)
          (.ret)))
          (.seq (.region C44r19)
          (.cond (.t 51)
           (.seq (.region C44r20)
           (.ret))
           (.seq (.region C44r21)
           (.cond (.t 56)
            (.seq (.seq (.region C44r22)
            (.block 1
             (.loop
              (.seq (.seq (.region C44r23)
              (.cond (.t 60)
               (.skip)
               (.exit 1)))
              (.seq (.block 2
               (.region C44r24))
              (.region C44r25))))))
            (.seq (.region C44r26)
            (.ret)))
            (.seq (.region C44r27)
            (.cond (.t 67)
             (.seq (.region C44r28)
             (.ret))
             (.seq (.region C44r29)
             (.cond (.t 72)
              (.seq (.region C44r30)
              (.ret))
              (.seq (.region C44r31)
              (.cond (.t 80)
               (.seq (.region C44r32)
               (.ret))
               (.seq (.region C44r33)
               (.cond (.t 85)
                (.seq (.region C44r34)
                (.ret))
                (.seq (.region C44r35)
                (.cond (.t 91)
                 (.seq (.region C44r36)
                 (.ret))
                 (.seq (.region C44r37)
                 (.cond (.t 97)
                  (.seq (.region C44r38)
                  (.ret))
                  (.skip)))))))))))))))))))))))))))))))))
  (.seq (.region C44r39)
  (.ret))))
theorem C44_ok : stripF Try.prog Try.f44 = some C44 := by kernel_rfl
/-! (*understudy/understudyref22.Run).leave -/
def C45r0 : List AOper := [⟨some 4, .mv (.t 0), none, true, []⟩,
  ⟨some 5, .mv (.t 1), none, true, []⟩,
  ⟨some 6, .nilchk (.t 4), none, true, []⟩,
  ⟨some 7, .faddr (.t 6) 5, none, true, []⟩,
  ⟨some 8, .faddr (.t 7) 33, none, true, []⟩,
  ⟨none, .st1 (.t 8) (.t 5), none, true, []⟩]
def C45r1 : List AOper := [⟨some 9, .mv (.t 0), none, true, []⟩,
  ⟨some 10, .nilchk (.t 9), none, true, []⟩,
  ⟨some 11, .faddr (.t 10) 75, none, true, []⟩,
  ⟨none, .st1 (.t 11) (.k (.c (.bool true))), none, true, []⟩]
def C45 : ACode :=
  .seq (.region C45r0)
  (.region C45r1)
theorem C45_ok : stripF Try.prog Try.f45 = some C45 := by kernel_rfl
/-! understudy/understudyref21.fits -/
def C46r0 : List AOper := [⟨some 2, .box 34 (.t 0), none, true, []⟩,
  ⟨some 4, .mv (.k (.c (.bool false))), none, true, []⟩]
def C46r1 : List AOper := [⟨some 5, .faddr (.t 2) 0, none, true, []⟩,
  ⟨some 6, .ld1 (.t 5), none, true, []⟩]
def C46r2 : List AOper := [⟨some 8, .bin .eql (.t 6) (.k (.c (.int .i64 5))), none, true, []⟩,
  ⟨some 7, .mv (.t 8), none, true, []⟩]
def C46r3 : List AOper := [⟨some 9, .bin .eql (.t 6) (.k (.c (.int .i64 6))), none, true, []⟩,
  ⟨some 7, .mv (.t 9), none, true, []⟩]
def C46r4 : List AOper := [⟨some 10, .faddr (.t 2) 1, none, true, []⟩,
  ⟨some 11, .ld1 (.t 10), none, true, []⟩,
  ⟨some 12, .call (.k (.c (.fn 29 [] []))) [(.t 11), (.k (.c (.int .i64 0))), (.k (.c (.int .i64 30)))], none, true, []⟩,
  ⟨some 4, .mv (.t 12), none, true, []⟩]
def C46r5 : List AOper := [⟨some 14, .bin .eql (.t 6) (.k (.c (.int .i64 9))), none, true, []⟩,
  ⟨some 13, .mv (.t 14), none, true, []⟩]
def C46r6 : List AOper := [⟨some 15, .bin .eql (.t 6) (.k (.c (.int .i64 10))), none, true, []⟩,
  ⟨some 13, .mv (.t 15), none, true, []⟩]
def C46r7 : List AOper := [⟨some 16, .faddr (.t 2) 1, none, true, []⟩,
  ⟨some 17, .ld1 (.t 16), none, true, []⟩,
  ⟨some 18, .call (.k (.c (.fn 29 [] []))) [(.t 17), (.k (.c (.int .i64 0))), (.k (.c (.int .i64 3)))], none, true, []⟩,
  ⟨some 4, .mv (.t 18), none, true, []⟩]
def C46r8 : List AOper := [⟨some 20, .bin .eql (.t 6) (.k (.c (.int .i64 11))), none, true, []⟩,
  ⟨some 19, .mv (.t 20), none, true, []⟩]
def C46r9 : List AOper := [⟨some 21, .faddr (.t 2) 1, none, true, []⟩,
  ⟨some 22, .ld1 (.t 21), none, true, []⟩,
  ⟨some 23, .call (.k (.c (.fn 29 [] []))) [(.t 22), (.k (.c (.int .i64 1))), (.k (.c (.int .i64 15)))], none, true, []⟩,
  ⟨some 4, .mv (.t 23), none, true, []⟩]
def C46r10 : List AOper := [⟨some 25, .bin .eql (.t 6) (.k (.c (.int .i64 12))), none, true, []⟩,
  ⟨some 24, .mv (.t 25), none, true, []⟩]
def C46r11 : List AOper := [⟨some 26, .faddr (.t 2) 5, none, true, []⟩,
  ⟨some 27, .ld1 (.t 26), none, true, []⟩,
  ⟨some 28, .call (.k (.c (.fn 29 [] []))) [(.t 27), (.k (.c (.int .i64 0))), (.k (.c (.int .i64 2)))], none, true, []⟩,
  ⟨some 4, .mv (.t 28), none, true, []⟩]
def C46r12 : List AOper := [⟨some 30, .bin .eql (.t 6) (.k (.c (.int .i64 14))), none, true, []⟩,
  ⟨some 29, .mv (.t 30), none, true, []⟩]
def C46r13 : List AOper := [⟨some 31, .faddr (.t 2) 5, none, true, []⟩,
  ⟨some 32, .ld1 (.t 31), none, true, []⟩,
  ⟨some 33, .bin .eql (.t 32) (.k (.c (.int .i64 0))), none, true, []⟩,
  ⟨some 34, .mv (.t 33), none, true, []⟩,
  ⟨some 35, .faddr (.t 2) 5, some (34, false), true, []⟩,
  ⟨some 36, .ld1 (.t 35), some (34, false), true, []⟩,
  ⟨some 37, .bin .eql (.t 36) (.k (.c (.int .i64 2))), some (34, false), true, []⟩,
  ⟨some 38, .pick 34 (.k (.c (.bool true))) (.t 37), none, true, []⟩,
  ⟨some 4, .mv (.t 38), none, true, []⟩]
def C46r14 : List AOper := [⟨some 40, .bin .eql (.t 6) (.k (.c (.int .i64 13))), none, true, []⟩,
  ⟨some 39, .mv (.t 40), none, true, []⟩]
def C46r15 : List AOper := [⟨some 41, .bin .eql (.t 6) (.k (.c (.int .i64 15))), none, true, []⟩,
  ⟨some 39, .mv (.t 41), none, true, []⟩]
def C46r16 : List AOper := [⟨some 42, .faddr (.t 2) 5, none, true, []⟩,
  ⟨some 43, .ld1 (.t 42), none, true, []⟩,
  ⟨some 44, .bin .eql (.t 43) (.k (.c (.int .i64 0))), none, true, []⟩,
  ⟨some 45, .mv (.t 44), none, true, []⟩,
  ⟨some 46, .faddr (.t 2) 5, some (45, false), true, []⟩,
  ⟨some 47, .ld1 (.t 46), some (45, false), true, []⟩,
  ⟨some 48, .bin .eql (.t 47) (.k (.c (.int .i64 4))), some (45, false), true, []⟩,
  ⟨some 49, .pick 45 (.k (.c (.bool true))) (.t 48), none, true, []⟩,
  ⟨some 4, .mv (.t 49), none, true, []⟩]
def C46r17 : List AOper := [⟨some 51, .bin .eql (.t 6) (.k (.c (.int .i64 17))), none, true, []⟩,
  ⟨some 50, .mv (.t 51), none, true, []⟩]
def C46r18 : List AOper := [⟨some 52, .faddr (.t 2) 1, none, true, []⟩,
  ⟨some 53, .ld1 (.t 52), none, true, []⟩,
  ⟨some 54, .bin .eql (.t 53) (.k (.c (.int .i64 13))), none, true, []⟩,
  ⟨some 55, .mv (.t 54), none, true, []⟩,
  ⟨some 56, .faddr (.t 2) 1, some (55, false), true, []⟩,
  ⟨some 57, .ld1 (.t 56), some (55, false), true, []⟩,
  ⟨some 58, .bin .eql (.t 57) (.k (.c (.int .i64 10))), some (55, false), true, []⟩,
  ⟨some 59, .pick 55 (.k (.c (.bool true))) (.t 58), none, true, []⟩,
  ⟨some 60, .mv (.t 59), none, true, []⟩,
  ⟨some 61, .faddr (.t 2) 1, some (60, false), true, []⟩,
  ⟨some 62, .ld1 (.t 61), some (60, false), true, []⟩,
  ⟨some 63, .bin .eql (.t 62) (.k (.c (.int .i64 15))), some (60, false), true, []⟩,
  ⟨some 64, .pick 60 (.k (.c (.bool true))) (.t 63), none, true, []⟩,
  ⟨some 4, .mv (.t 64), none, true, []⟩]
def C46r19 : List AOper := [⟨some 66, .bin .eql (.t 6) (.k (.c (.int .i64 18))), none, true, []⟩,
  ⟨some 65, .mv (.t 66), none, true, []⟩]
def C46r20 : List AOper := [⟨some 67, .faddr (.t 2) 6, none, true, []⟩,
  ⟨some 68, .ld1 (.t 67), none, true, []⟩,
  ⟨some 69, .bin .rem (.t 68) (.k (.c (.int .u64 4))), none, true, []⟩,
  ⟨some 70, .bin .eql (.t 69) (.k (.c (.int .u64 0))), none, true, []⟩,
  ⟨some 4, .mv (.t 70), none, true, []⟩]
def C46r21 : List AOper := [⟨some 72, .bin .eql (.t 6) (.k (.c (.int .i64 22))), none, true, []⟩,
  ⟨some 71, .mv (.t 72), none, true, []⟩]
def C46r22 : List AOper := [⟨some 73, .faddr (.t 2) 6, none, true, []⟩,
  ⟨some 74, .ld1 (.t 73), none, true, []⟩,
  ⟨some 75, .bin .lss (.t 74) (.k (.c (.int .u64 4294967296))), none, true, []⟩,
  ⟨some 4, .mv (.t 75), none, true, []⟩]
def C46r23 : List AOper := [⟨some 77, .bin .eql (.t 6) (.k (.c (.int .i64 3))), none, true, []⟩,
  ⟨some 76, .mv (.t 77), none, true, []⟩]
def C46r24 : List AOper := [⟨some 78, .bin .eql (.t 6) (.k (.c (.int .i64 4))), none, true, []⟩,
  ⟨some 76, .mv (.t 78), none, true, []⟩]
def C46r25 : List AOper := [⟨some 79, .faddr (.t 2) 6, none, true, []⟩,
  ⟨some 80, .ld1 (.t 79), none, true, []⟩,
  ⟨some 81, .mv (.t 1), none, true, []⟩,
  ⟨some 82, .conv .u64 (.t 81), none, true, []⟩,
  ⟨some 83, .bin .lss (.t 80) (.t 82), none, true, []⟩,
  ⟨some 4, .mv (.t 83), none, true, []⟩]
def C46r26 : List AOper := [⟨some 4, .mv (.k (.c (.bool true))), none, true, []⟩]
def C46 : ACode :=
  .seq (.region C46r0)
  (.seq (.seq (.region C46r1)
  (.block 0
   (.seq (.seq (.region C46r2)
   (.cond (.t 7)
    (.skip)
    (.region C46r3)))
   (.cond (.t 7)
    (.seq (.region C46r4)
    (.ret))
    (.seq (.seq (.region C46r5)
    (.cond (.t 13)
     (.skip)
     (.region C46r6)))
    (.cond (.t 13)
     (.seq (.region C46r7)
     (.ret))
     (.seq (.region C46r8)
     (.cond (.t 19)
      (.seq (.region C46r9)
      (.ret))
      (.seq (.region C46r10)
      (.cond (.t 24)
       (.seq (.region C46r11)
       (.ret))
       (.seq (.region C46r12)
       (.cond (.t 29)
        (.seq (.region C46r13)
        (.ret))
        (.seq (.seq (.region C46r14)
        (.cond (.t 39)
         (.skip)
         (.region C46r15)))
        (.cond (.t 39)
         (.seq (.region C46r16)
         (.ret))
         (.seq (.region C46r17)
         (.cond (.t 50)
          (.seq (.region C46r18)
          (.ret))
          (.seq (.region C46r19)
          (.cond (.t 65)
           (.seq (.region C46r20)
           (.ret))
           (.seq (.region C46r21)
           (.cond (.t 71)
            (.seq (.region C46r22)
            (.ret))
            (.seq (.seq (.region C46r23)
            (.cond (.t 76)
             (.skip)
             (.region C46r24)))
            (.cond (.t 76)
             (.seq (.region C46r25)
             (.ret))
             (.skip)))))))))))))))))))))))
  (.seq (.region C46r26)
  (.ret)))
theorem C46_ok : stripF Try.prog Try.f46 = some C46 := by kernel_rfl
/-! understudy/alu.how -/
def C47r0 : List AOper := [⟨some 2, .mv (.k (.c (.nilfn))), none, true, []⟩]
def C47r1 : List AOper := [⟨some 3, .mv (.t 0), none, true, []⟩]
def C47r2 : List AOper := [⟨some 5, .bin .eql (.t 3) (.k (.c (.int .i64 1))), none, true, []⟩,
  ⟨some 4, .mv (.t 5), none, true, []⟩]
def C47r3 : List AOper := [⟨some 2, .mv (.k (.c (.fn 52 [] []))), none, true, []⟩]
def C47r4 : List AOper := [⟨some 7, .bin .eql (.t 3) (.k (.c (.int .i64 2))), none, true, []⟩,
  ⟨some 6, .mv (.t 7), none, true, []⟩]
def C47r5 : List AOper := [⟨some 2, .mv (.k (.c (.fn 53 [] []))), none, true, []⟩]
def C47r6 : List AOper := [⟨some 9, .bin .eql (.t 3) (.k (.c (.int .i64 3))), none, true, []⟩,
  ⟨some 8, .mv (.t 9), none, true, []⟩]
def C47r7 : List AOper := [⟨some 2, .mv (.k (.c (.fn 54 [] []))), none, true, []⟩]
def C47r8 : List AOper := [⟨some 11, .bin .eql (.t 3) (.k (.c (.int .i64 4))), none, true, []⟩,
  ⟨some 10, .mv (.t 11), none, true, []⟩]
def C47r9 : List AOper := [⟨some 2, .mv (.k (.c (.fn 55 [] []))), none, true, []⟩]
def C47r10 : List AOper := [⟨some 13, .bin .eql (.t 3) (.k (.c (.int .i64 5))), none, true, []⟩,
  ⟨some 12, .mv (.t 13), none, true, []⟩]
def C47r11 : List AOper := [⟨some 2, .mv (.k (.c (.fn 56 [] []))), none, true, []⟩]
def C47r12 : List AOper := [⟨some 15, .bin .eql (.t 3) (.k (.c (.int .i64 6))), none, true, []⟩,
  ⟨some 14, .mv (.t 15), none, true, []⟩]
def C47r13 : List AOper := [⟨some 2, .mv (.k (.c (.fn 57 [] []))), none, true, []⟩]
def C47r14 : List AOper := [⟨some 17, .bin .eql (.t 3) (.k (.c (.int .i64 7))), none, true, []⟩,
  ⟨some 16, .mv (.t 17), none, true, []⟩]
def C47r15 : List AOper := [⟨some 2, .mv (.k (.c (.fn 58 [] []))), none, true, []⟩]
def C47r16 : List AOper := [⟨some 19, .bin .eql (.t 3) (.k (.c (.int .i64 8))), none, true, []⟩,
  ⟨some 18, .mv (.t 19), none, true, []⟩]
def C47r17 : List AOper := [⟨some 2, .mv (.k (.c (.fn 59 [] []))), none, true, []⟩]
def C47r18 : List AOper := [⟨some 21, .bin .eql (.t 3) (.k (.c (.int .i64 9))), none, true, []⟩,
  ⟨some 20, .mv (.t 21), none, true, []⟩]
def C47r19 : List AOper := [⟨some 2, .mv (.k (.c (.fn 60 [] []))), none, true, []⟩]
def C47r20 : List AOper := [⟨some 23, .bin .eql (.t 3) (.k (.c (.int .i64 10))), none, true, []⟩,
  ⟨some 22, .mv (.t 23), none, true, []⟩]
def C47r21 : List AOper := [⟨some 2, .mv (.k (.c (.fn 61 [] []))), none, true, []⟩]
def C47r22 : List AOper := [⟨some 25, .bin .eql (.t 3) (.k (.c (.int .i64 11))), none, true, []⟩,
  ⟨some 24, .mv (.t 25), none, true, []⟩]
def C47r23 : List AOper := [⟨some 2, .mv (.k (.c (.fn 62 [] []))), none, true, []⟩]
def C47r24 : List AOper := [⟨some 27, .bin .eql (.t 3) (.k (.c (.int .i64 12))), none, true, []⟩,
  ⟨some 26, .mv (.t 27), none, true, []⟩]
def C47r25 : List AOper := [⟨some 2, .mv (.k (.c (.fn 63 [] []))), none, true, []⟩]
def C47r26 : List AOper := [⟨some 29, .bin .eql (.t 3) (.k (.c (.int .i64 13))), none, true, []⟩,
  ⟨some 28, .mv (.t 29), none, true, []⟩]
def C47r27 : List AOper := [⟨some 2, .mv (.k (.c (.fn 64 [] []))), none, true, []⟩]
def C47r28 : List AOper := [⟨some 31, .bin .eql (.t 3) (.k (.c (.int .i64 14))), none, true, []⟩,
  ⟨some 30, .mv (.t 31), none, true, []⟩]
def C47r29 : List AOper := [⟨some 2, .mv (.k (.c (.fn 65 [] []))), none, true, []⟩]
def C47r30 : List AOper := [⟨some 33, .bin .eql (.t 3) (.k (.c (.int .i64 15))), none, true, []⟩,
  ⟨some 32, .mv (.t 33), none, true, []⟩]
def C47r31 : List AOper := [⟨some 2, .mv (.k (.c (.fn 66 [] []))), none, true, []⟩]
def C47r32 : List AOper := [⟨some 2, .mv (.k (.c (.nilfn))), none, true, []⟩]
def C47 : ACode :=
  .seq (.region C47r0)
  (.seq (.seq (.region C47r1)
  (.block 0
   (.seq (.region C47r2)
   (.cond (.t 4)
    (.seq (.region C47r3)
    (.ret))
    (.seq (.region C47r4)
    (.cond (.t 6)
     (.seq (.region C47r5)
     (.ret))
     (.seq (.region C47r6)
     (.cond (.t 8)
      (.seq (.region C47r7)
      (.ret))
      (.seq (.region C47r8)
      (.cond (.t 10)
       (.seq (.region C47r9)
       (.ret))
       (.seq (.region C47r10)
       (.cond (.t 12)
        (.seq (.region C47r11)
        (.ret))
        (.seq (.region C47r12)
        (.cond (.t 14)
         (.seq (.region C47r13)
         (.ret))
         (.seq (.region C47r14)
         (.cond (.t 16)
          (.seq (.region C47r15)
          (.ret))
          (.seq (.region C47r16)
          (.cond (.t 18)
           (.seq (.region C47r17)
           (.ret))
           (.seq (.region C47r18)
           (.cond (.t 20)
            (.seq (.region C47r19)
            (.ret))
            (.seq (.region C47r20)
            (.cond (.t 22)
             (.seq (.region C47r21)
             (.ret))
             (.seq (.region C47r22)
             (.cond (.t 24)
              (.seq (.region C47r23)
              (.ret))
              (.seq (.region C47r24)
              (.cond (.t 26)
               (.seq (.region C47r25)
               (.ret))
               (.seq (.region C47r26)
               (.cond (.t 28)
                (.seq (.region C47r27)
                (.ret))
                (.seq (.region C47r28)
                (.cond (.t 30)
                 (.seq (.region C47r29)
                 (.ret))
                 (.seq (.region C47r30)
                 (.cond (.t 32)
                  (.seq (.region C47r31)
                  (.ret))
                  (.skip)))))))))))))))))))))))))))))))))
  (.seq (.region C47r32)
  (.ret)))
theorem C47_ok : stripF Try.prog Try.f47 = some C47 := by kernel_rfl
/-! understudy/understudyref05.divided -/
def C48r0 : List AOper := [⟨some 4, .mv (.k (.c (.int .u64 0))), none, true, []⟩]
def C48r1 : List AOper := [⟨some 8, .mv (.t 1), none, true, []⟩,
  ⟨some 9, .bin .eql (.t 8) (.k (.c (.int .u64 0))), none, true, []⟩]
def C48r2 : List AOper := [⟨some 4, .mv (.k (.c (.int .u64 0))), none, true, []⟩]
def C48r3 : List AOper := [⟨some 10, .mv (.t 0), none, true, []⟩,
  ⟨some 5, .mv (.t 10), none, true, []⟩]
def C48r4 : List AOper := [⟨some 11, .mv (.t 1), none, true, []⟩,
  ⟨some 6, .mv (.t 11), none, true, []⟩]
def C48r5 : List AOper := [⟨some 12, .mv (.t 0), none, true, []⟩,
  ⟨some 13, .bin .shr (.t 12) (.k (.c (.int .u64 63))), none, true, []⟩,
  ⟨some 14, .bin .eql (.t 13) (.k (.c (.int .u64 1))), none, true, []⟩]
def C48r6 : List AOper := [⟨some 15, .mv (.t 0), none, true, []⟩,
  ⟨some 16, .bin .sub (.k (.c (.int .u64 0))) (.t 15), none, true, []⟩,
  ⟨some 5, .mv (.t 16), none, true, []⟩]
def C48r7 : List AOper := [⟨some 17, .mv (.t 1), none, true, []⟩,
  ⟨some 18, .bin .shr (.t 17) (.k (.c (.int .u64 63))), none, true, []⟩,
  ⟨some 19, .bin .eql (.t 18) (.k (.c (.int .u64 1))), none, true, []⟩]
def C48r8 : List AOper := [⟨some 20, .mv (.t 1), none, true, []⟩,
  ⟨some 21, .bin .sub (.k (.c (.int .u64 0))) (.t 20), none, true, []⟩,
  ⟨some 6, .mv (.t 21), none, true, []⟩]
def C48r9 : List AOper := [⟨some 22, .mv (.t 5), none, true, []⟩,
  ⟨some 23, .mv (.t 6), none, true, []⟩,
  ⟨some 24, .bin .quo (.t 22) (.t 23), none, true, []⟩,
  ⟨some 7, .mv (.t 24), none, true, []⟩]
def C48r10 : List AOper := [⟨some 25, .mv (.t 0), none, true, []⟩,
  ⟨some 26, .bin .shr (.t 25) (.k (.c (.int .u64 63))), none, true, []⟩,
  ⟨some 27, .mv (.t 1), none, true, []⟩,
  ⟨some 28, .bin .shr (.t 27) (.k (.c (.int .u64 63))), none, true, []⟩,
  ⟨some 29, .bin .neq (.t 26) (.t 28), none, true, []⟩]
def C48r11 : List AOper := [⟨some 30, .mv (.t 7), none, true, []⟩,
  ⟨some 31, .bin .sub (.k (.c (.int .u64 0))) (.t 30), none, true, []⟩,
  ⟨some 7, .mv (.t 31), none, true, []⟩]
def C48r12 : List AOper := [⟨some 32, .mv (.t 7), none, true, []⟩,
  ⟨some 4, .mv (.t 32), none, true, []⟩]
def C48 : ACode :=
  .seq (.region C48r0)
  (.seq (.seq (.region C48r1)
  (.cond (.t 9)
   (.seq (.region C48r2)
   (.ret))
   (.skip)))
  (.seq (.region C48r3)
  (.seq (.region C48r4)
  (.seq (.seq (.region C48r5)
  (.cond (.t 14)
   (.region C48r6)
   (.skip)))
  (.seq (.seq (.region C48r7)
  (.cond (.t 19)
   (.region C48r8)
   (.skip)))
  (.seq (.region C48r9)
  (.seq (.seq (.region C48r10)
  (.cond (.t 29)
   (.region C48r11)
   (.skip)))
  (.seq (.region C48r12)
  (.ret)))))))))
theorem C48_ok : stripF Try.prog Try.f48 = some C48 := by kernel_rfl
/-! understudy/understudyref05.turned -/
def C49r0 : List AOper := [⟨some 6, .mv (.k (.c (.int .u64 0))), none, true, []⟩]
def C49r1 : List AOper := [⟨some 7, .mv (.k (.c (.int .i64 0))), none, true, []⟩]
def C49r2 : List AOper := [⟨some 9, .mv (.t 7), none, true, []⟩,
  ⟨some 10, .mv (.t 1), none, true, []⟩,
  ⟨some 11, .bin .lss (.t 9) (.t 10), none, true, []⟩]
def C49r3 : List AOper := [⟨some 14, .mv (.t 2), none, true, []⟩,
  ⟨some 15, .conv .u64 (.t 14), none, true, []⟩,
  ⟨some 8, .mv (.t 15), none, true, []⟩]
def C49r4 : List AOper := [⟨some 16, .mv (.t 2), none, true, []⟩,
  ⟨some 17, .bin .eql (.t 16) (.k (.c (.int .i64 2))), none, true, []⟩]
def C49r5 : List AOper := [⟨some 18, .mv (.t 0), none, true, []⟩,
  ⟨some 19, .bin .rem (.t 18) (.k (.c (.int .u64 2))), none, true, []⟩,
  ⟨some 8, .mv (.t 19), none, true, []⟩]
def C49r6 : List AOper := [⟨some 20, .mv (.t 0), none, true, []⟩,
  ⟨some 21, .bin .quo (.t 20) (.k (.c (.int .u64 2))), none, true, []⟩,
  ⟨some 22, .mv (.t 8), none, true, []⟩,
  ⟨some 23, .bin .shl (.t 22) (.k (.c (.int .u64 63))), none, true, []⟩,
  ⟨some 24, .bin .add (.t 21) (.t 23), none, true, []⟩,
  ⟨some 0, .mv (.t 24), none, true, []⟩]
def C49r7 : List AOper := [⟨some 12, .mv (.t 7), none, true, []⟩,
  ⟨some 13, .bin .add (.t 12) (.k (.c (.int .i64 1))), none, true, []⟩,
  ⟨some 7, .mv (.t 13), none, true, []⟩]
def C49r8 : List AOper := [⟨some 25, .mv (.t 0), none, true, []⟩,
  ⟨some 6, .mv (.t 25), none, true, []⟩]
def C49 : ACode :=
  .seq (.region C49r0)
  (.seq (.seq (.region C49r1)
  (.block 0
   (.loop
    (.seq (.seq (.region C49r2)
    (.cond (.t 11)
     (.skip)
     (.exit 0)))
    (.seq (.block 1
     (.seq (.region C49r3)
     (.seq (.seq (.region C49r4)
     (.cond (.t 17)
      (.region C49r5)
      (.skip)))
     (.region C49r6))))
    (.region C49r7))))))
  (.seq (.region C49r8)
  (.ret)))
theorem C49_ok : stripF Try.prog Try.f49 = some C49 := by kernel_rfl
/-! understudy/understudyref05.truth -/
def C50r0 : List AOper := [⟨some 2, .mv (.k (.c (.int .u64 0))), none, true, []⟩]
def C50r1 : List AOper := [⟨some 3, .mv (.t 0), none, true, []⟩]
def C50r2 : List AOper := [⟨some 2, .mv (.k (.c (.int .u64 1))), none, true, []⟩]
def C50r3 : List AOper := [⟨some 2, .mv (.k (.c (.int .u64 0))), none, true, []⟩]
def C50 : ACode :=
  .seq (.region C50r0)
  (.seq (.seq (.region C50r1)
  (.cond (.t 3)
   (.seq (.region C50r2)
   (.ret))
   (.skip)))
  (.seq (.region C50r3)
  (.ret)))
theorem C50_ok : stripF Try.prog Try.f50 = some C50 := by kernel_rfl
/-! understudy/understudyref05.below -/
def C51r0 : List AOper := [⟨some 4, .mv (.k (.c (.bool false))), none, true, []⟩]
def C51r1 : List AOper := [⟨some 5, .mv (.t 0), none, true, []⟩,
  ⟨some 6, .bin .xor (.t 5) (.k (.c (.int .u64 9223372036854775808))), none, true, []⟩,
  ⟨some 7, .mv (.t 1), none, true, []⟩,
  ⟨some 8, .bin .xor (.t 7) (.k (.c (.int .u64 9223372036854775808))), none, true, []⟩,
  ⟨some 9, .bin .lss (.t 6) (.t 8), none, true, []⟩,
  ⟨some 4, .mv (.t 9), none, true, []⟩]
def C51 : ACode :=
  .seq (.region C51r0)
  (.seq (.region C51r1)
  (.ret))
theorem C51_ok : stripF Try.prog Try.f51 = some C51 := by kernel_rfl
/-! (understudy/alu.number).add -/
def C52r0 : List AOper := [⟨some 4, .mv (.k (.c (.int .u64 0))), none, true, []⟩]
def C52r1 : List AOper := [⟨some 5, .mv (.t 0), none, true, []⟩,
  ⟨some 6, .mv (.t 1), none, true, []⟩,
  ⟨some 7, .bin .add (.t 5) (.t 6), none, true, []⟩,
  ⟨some 4, .mv (.t 7), none, true, []⟩]
def C52 : ACode :=
  .seq (.region C52r0)
  (.seq (.region C52r1)
  (.ret))
theorem C52_ok : stripF Try.prog Try.f52 = some C52 := by kernel_rfl
/-! (understudy/alu.number).sub -/
def C53r0 : List AOper := [⟨some 4, .mv (.k (.c (.int .u64 0))), none, true, []⟩]
def C53r1 : List AOper := [⟨some 5, .mv (.t 0), none, true, []⟩,
  ⟨some 6, .mv (.t 1), none, true, []⟩,
  ⟨some 7, .bin .sub (.t 5) (.t 6), none, true, []⟩,
  ⟨some 4, .mv (.t 7), none, true, []⟩]
def C53 : ACode :=
  .seq (.region C53r0)
  (.seq (.region C53r1)
  (.ret))
theorem C53_ok : stripF Try.prog Try.f53 = some C53 := by kernel_rfl
/-! (understudy/alu.number).and -/
def C54r0 : List AOper := [⟨some 4, .mv (.k (.c (.int .u64 0))), none, true, []⟩]
def C54r1 : List AOper := [⟨some 5, .mv (.t 0), none, true, []⟩,
  ⟨some 6, .mv (.t 1), none, true, []⟩,
  ⟨some 7, .bin .and (.t 5) (.t 6), none, true, []⟩,
  ⟨some 4, .mv (.t 7), none, true, []⟩]
def C54 : ACode :=
  .seq (.region C54r0)
  (.seq (.region C54r1)
  (.ret))
theorem C54_ok : stripF Try.prog Try.f54 = some C54 := by kernel_rfl
/-! (understudy/alu.number).or -/
def C55r0 : List AOper := [⟨some 4, .mv (.k (.c (.int .u64 0))), none, true, []⟩]
def C55r1 : List AOper := [⟨some 5, .mv (.t 0), none, true, []⟩,
  ⟨some 6, .mv (.t 1), none, true, []⟩,
  ⟨some 7, .bin .or (.t 5) (.t 6), none, true, []⟩,
  ⟨some 4, .mv (.t 7), none, true, []⟩]
def C55 : ACode :=
  .seq (.region C55r0)
  (.seq (.region C55r1)
  (.ret))
theorem C55_ok : stripF Try.prog Try.f55 = some C55 := by kernel_rfl
/-! (understudy/alu.number).xor -/
def C56r0 : List AOper := [⟨some 4, .mv (.k (.c (.int .u64 0))), none, true, []⟩]
def C56r1 : List AOper := [⟨some 5, .mv (.t 0), none, true, []⟩,
  ⟨some 6, .mv (.t 1), none, true, []⟩,
  ⟨some 7, .bin .xor (.t 5) (.t 6), none, true, []⟩,
  ⟨some 4, .mv (.t 7), none, true, []⟩]
def C56 : ACode :=
  .seq (.region C56r0)
  (.seq (.region C56r1)
  (.ret))
theorem C56_ok : stripF Try.prog Try.f56 = some C56 := by kernel_rfl
/-! (understudy/alu.number).mul -/
def C57r0 : List AOper := [⟨some 4, .mv (.k (.c (.int .u64 0))), none, true, []⟩]
def C57r1 : List AOper := [⟨some 5, .mv (.t 0), none, true, []⟩,
  ⟨some 6, .mv (.t 1), none, true, []⟩,
  ⟨some 7, .bin .mul (.t 5) (.t 6), none, true, []⟩,
  ⟨some 4, .mv (.t 7), none, true, []⟩]
def C57 : ACode :=
  .seq (.region C57r0)
  (.seq (.region C57r1)
  (.ret))
theorem C57_ok : stripF Try.prog Try.f57 = some C57 := by kernel_rfl
/-! (understudy/alu.number).udiv -/
def C58r0 : List AOper := [⟨some 4, .mv (.k (.c (.int .u64 0))), none, true, []⟩]
def C58r1 : List AOper := [⟨some 5, .mv (.t 1), none, true, []⟩,
  ⟨some 6, .bin .eql (.t 5) (.k (.c (.int .u64 0))), none, true, []⟩]
def C58r2 : List AOper := [⟨some 4, .mv (.k (.c (.int .u64 0))), none, true, []⟩]
def C58r3 : List AOper := [⟨some 7, .mv (.t 0), none, true, []⟩,
  ⟨some 8, .mv (.t 1), none, true, []⟩,
  ⟨some 9, .bin .quo (.t 7) (.t 8), none, true, []⟩,
  ⟨some 4, .mv (.t 9), none, true, []⟩]
def C58 : ACode :=
  .seq (.region C58r0)
  (.seq (.seq (.region C58r1)
  (.cond (.t 6)
   (.seq (.region C58r2)
   (.ret))
   (.skip)))
  (.seq (.region C58r3)
  (.ret)))
theorem C58_ok : stripF Try.prog Try.f58 = some C58 := by kernel_rfl
/-! (understudy/alu.number).sdiv -/
def C59r0 : List AOper := [⟨some 4, .mv (.k (.c (.int .u64 0))), none, true, []⟩]
def C59r1 : List AOper := [⟨some 5, .mv (.t 1), none, true, []⟩,
  ⟨some 6, .conv .i64 (.t 5), none, true, []⟩]
def C59r2 : List AOper := [⟨some 8, .bin .eql (.t 6) (.k (.c (.int .i64 0))), none, true, []⟩,
  ⟨some 7, .mv (.t 8), none, true, []⟩]
def C59r3 : List AOper := [⟨some 4, .mv (.k (.c (.int .u64 0))), none, true, []⟩]
def C59r4 : List AOper := [⟨some 10, .bin .eql (.t 6) (.k (.c (.int .i64 (-1)))), none, true, []⟩,
  ⟨some 9, .mv (.t 10), none, true, []⟩]
def C59r5 : List AOper := [⟨some 11, .mv (.t 0), none, true, []⟩,
  ⟨some 12, .un .neg (.t 11), none, true, []⟩,
  ⟨some 4, .mv (.t 12), none, true, []⟩]
def C59r6 : List AOper := [⟨some 13, .mv (.t 0), none, true, []⟩,
  ⟨some 14, .conv .i64 (.t 13), none, true, []⟩,
  ⟨some 15, .mv (.t 1), none, true, []⟩,
  ⟨some 16, .conv .i64 (.t 15), none, true, []⟩,
  ⟨some 17, .bin .quo (.t 14) (.t 16), none, true, []⟩,
  ⟨some 18, .conv .u64 (.t 17), none, true, []⟩,
  ⟨some 4, .mv (.t 18), none, true, []⟩]
def C59 : ACode :=
  .seq (.region C59r0)
  (.seq (.seq (.region C59r1)
  (.block 0
   (.seq (.region C59r2)
   (.cond (.t 7)
    (.seq (.region C59r3)
    (.ret))
    (.seq (.region C59r4)
    (.cond (.t 9)
     (.seq (.region C59r5)
     (.ret))
     (.skip)))))))
  (.seq (.region C59r6)
  (.ret)))
theorem C59_ok : stripF Try.prog Try.f59 = some C59 := by kernel_rfl
/-! (understudy/alu.number).shl -/
def C60r0 : List AOper := [⟨some 4, .mv (.k (.c (.int .u64 0))), none, true, []⟩]
def C60r1 : List AOper := [⟨some 5, .mv (.t 0), none, true, []⟩,
  ⟨some 6, .mv (.t 1), none, true, []⟩,
  ⟨some 7, .bin .and (.t 6) (.k (.c (.int .u64 63))), none, true, []⟩,
  ⟨some 8, .bin .shl (.t 5) (.t 7), none, true, []⟩,
  ⟨some 4, .mv (.t 8), none, true, []⟩]
def C60 : ACode :=
  .seq (.region C60r0)
  (.seq (.region C60r1)
  (.ret))
theorem C60_ok : stripF Try.prog Try.f60 = some C60 := by kernel_rfl
/-! (understudy/alu.number).shr -/
def C61r0 : List AOper := [⟨some 4, .mv (.k (.c (.int .u64 0))), none, true, []⟩]
def C61r1 : List AOper := [⟨some 5, .mv (.t 0), none, true, []⟩,
  ⟨some 6, .mv (.t 1), none, true, []⟩,
  ⟨some 7, .bin .and (.t 6) (.k (.c (.int .u64 63))), none, true, []⟩,
  ⟨some 8, .bin .shr (.t 5) (.t 7), none, true, []⟩,
  ⟨some 4, .mv (.t 8), none, true, []⟩]
def C61 : ACode :=
  .seq (.region C61r0)
  (.seq (.region C61r1)
  (.ret))
theorem C61_ok : stripF Try.prog Try.f61 = some C61 := by kernel_rfl
/-! (understudy/alu.number).sar -/
def C62r0 : List AOper := [⟨some 4, .mv (.k (.c (.int .u64 0))), none, true, []⟩]
def C62r1 : List AOper := [⟨some 5, .mv (.t 0), none, true, []⟩,
  ⟨some 6, .conv .i64 (.t 5), none, true, []⟩,
  ⟨some 7, .mv (.t 1), none, true, []⟩,
  ⟨some 8, .bin .and (.t 7) (.k (.c (.int .u64 63))), none, true, []⟩,
  ⟨some 9, .bin .shr (.t 6) (.t 8), none, true, []⟩,
  ⟨some 10, .conv .u64 (.t 9), none, true, []⟩,
  ⟨some 4, .mv (.t 10), none, true, []⟩]
def C62 : ACode :=
  .seq (.region C62r0)
  (.seq (.region C62r1)
  (.ret))
theorem C62_ok : stripF Try.prog Try.f62 = some C62 := by kernel_rfl
/-! (understudy/alu.number).ror -/
def C63r0 : List AOper := [⟨some 4, .mv (.k (.c (.int .u64 0))), none, true, []⟩]
def C63r1 : List AOper := [⟨some 5, .mv (.t 0), none, true, []⟩,
  ⟨some 6, .mv (.t 1), none, true, []⟩,
  ⟨some 7, .bin .and (.t 6) (.k (.c (.int .u64 63))), none, true, []⟩,
  ⟨some 8, .conv .i64 (.t 7), none, true, []⟩,
  ⟨some 9, .un .neg (.t 8), none, true, []⟩,
  ⟨some 10, .call (.k (.c (.fn 67 [] []))) [(.t 5), (.t 9)], none, true, []⟩,
  ⟨some 4, .mv (.t 10), none, true, []⟩]
def C63 : ACode :=
  .seq (.region C63r0)
  (.seq (.region C63r1)
  (.ret))
theorem C63_ok : stripF Try.prog Try.f63 = some C63 := by kernel_rfl
/-! (understudy/alu.number).eq -/
def C64r0 : List AOper := [⟨some 4, .mv (.k (.c (.int .u64 0))), none, true, []⟩]
def C64r1 : List AOper := [⟨some 5, .mv (.t 0), none, true, []⟩,
  ⟨some 6, .mv (.t 1), none, true, []⟩,
  ⟨some 7, .bin .eql (.t 5) (.t 6), none, true, []⟩,
  ⟨some 8, .call (.k (.c (.fn 68 [] []))) [(.t 7)], none, true, []⟩,
  ⟨some 4, .mv (.t 8), none, true, []⟩]
def C64 : ACode :=
  .seq (.region C64r0)
  (.seq (.region C64r1)
  (.ret))
theorem C64_ok : stripF Try.prog Try.f64 = some C64 := by kernel_rfl
/-! (understudy/alu.number).ult -/
def C65r0 : List AOper := [⟨some 4, .mv (.k (.c (.int .u64 0))), none, true, []⟩]
def C65r1 : List AOper := [⟨some 5, .mv (.t 0), none, true, []⟩,
  ⟨some 6, .mv (.t 1), none, true, []⟩,
  ⟨some 7, .bin .lss (.t 5) (.t 6), none, true, []⟩,
  ⟨some 8, .call (.k (.c (.fn 68 [] []))) [(.t 7)], none, true, []⟩,
  ⟨some 4, .mv (.t 8), none, true, []⟩]
def C65 : ACode :=
  .seq (.region C65r0)
  (.seq (.region C65r1)
  (.ret))
theorem C65_ok : stripF Try.prog Try.f65 = some C65 := by kernel_rfl
/-! (understudy/alu.number).slt -/
def C66r0 : List AOper := [⟨some 4, .mv (.k (.c (.int .u64 0))), none, true, []⟩]
def C66r1 : List AOper := [⟨some 5, .mv (.t 0), none, true, []⟩,
  ⟨some 6, .conv .i64 (.t 5), none, true, []⟩,
  ⟨some 7, .mv (.t 1), none, true, []⟩,
  ⟨some 8, .conv .i64 (.t 7), none, true, []⟩,
  ⟨some 9, .bin .lss (.t 6) (.t 8), none, true, []⟩,
  ⟨some 10, .call (.k (.c (.fn 68 [] []))) [(.t 9)], none, true, []⟩,
  ⟨some 4, .mv (.t 10), none, true, []⟩]
def C66 : ACode :=
  .seq (.region C66r0)
  (.seq (.region C66r1)
  (.ret))
theorem C66_ok : stripF Try.prog Try.f66 = some C66 := by kernel_rfl
/-! math/bits.RotateLeft64 -/
def C67r0 : List AOper := [⟨some 4, .mv (.k (.c (.int .u64 0))), none, true, []⟩]
def C67r1 : List AOper := [⟨some 6, .mv (.t 1), none, true, []⟩,
  ⟨some 7, .conv .u64 (.t 6), none, true, []⟩,
  ⟨some 8, .bin .and (.t 7) (.k (.c (.int .u64 63))), none, true, []⟩,
  ⟨some 5, .mv (.t 8), none, true, []⟩]
def C67r2 : List AOper := [⟨some 9, .mv (.t 0), none, true, []⟩,
  ⟨some 10, .mv (.t 5), none, true, []⟩,
  ⟨some 11, .bin .shl (.t 9) (.t 10), none, true, []⟩,
  ⟨some 12, .mv (.t 0), none, true, []⟩,
  ⟨some 13, .mv (.t 5), none, true, []⟩,
  ⟨some 14, .bin .sub (.k (.c (.int .u64 64))) (.t 13), none, true, []⟩,
  ⟨some 15, .bin .shr (.t 12) (.t 14), none, true, []⟩,
  ⟨some 16, .bin .or (.t 11) (.t 15), none, true, []⟩,
  ⟨some 4, .mv (.t 16), none, true, []⟩]
def C67 : ACode :=
  .seq (.region C67r0)
  (.seq (.region C67r1)
  (.seq (.region C67r2)
  (.ret)))
theorem C67_ok : stripF Try.prog Try.f67 = some C67 := by kernel_rfl
/-! understudy/alu.truth -/
def C68r0 : List AOper := [⟨some 2, .mv (.k (.c (.int .u64 0))), none, true, []⟩]
def C68r1 : List AOper := [⟨some 3, .mv (.t 0), none, true, []⟩]
def C68r2 : List AOper := [⟨some 2, .mv (.k (.c (.int .u64 1))), none, true, []⟩]
def C68r3 : List AOper := [⟨some 2, .mv (.k (.c (.int .u64 0))), none, true, []⟩]
def C68 : ACode :=
  .seq (.region C68r0)
  (.seq (.seq (.region C68r1)
  (.cond (.t 3)
   (.seq (.region C68r2)
   (.ret))
   (.skip)))
  (.seq (.region C68r3)
  (.ret)))
theorem C68_ok : stripF Try.prog Try.f68 = some C68 := by kernel_rfl
end Go.Proofs.Yteikpddilabppaa
