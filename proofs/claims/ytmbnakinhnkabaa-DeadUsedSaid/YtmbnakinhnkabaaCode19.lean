/- The code of some functions, in abstract form, each checked against the program's form: made by a program (AmPrint). No condition. -/
import Derived.Test.YtmbnakinhnkabaaAmS
import Derived.Test.YtmbnakinhnkabaaProg
import Derived.KernelRfl
set_option linter.unusedVariables false
namespace Go.Proofs.Ytmbnakinhnkabaa
open Go.AM
/-! understudy/understudylaw19.examples -/
def C9r0 : List AOper := [⟨some 0, .mv (.k (.c (.bool false))), none, true, []⟩]
def C9r1 : List AOper := [⟨some 9, .call (.k (.c (.fn 32 [] []))) [], none, true, []⟩,
  ⟨some 10, .call (.k (.c (.fn 12 [] []))) [(.t 9)], none, true, []⟩,
  ⟨some 8, .mv (.t 10), none, true, []⟩,
  ⟨some 11, .ext (.t 8) 0, none, true, []⟩,
  ⟨some 12, .ext (.t 8) 1, none, true, []⟩,
  ⟨some 1, .mv (.t 11), none, true, []⟩,
  ⟨some 2, .mv (.t 12), none, true, []⟩]
def C9r2 : List AOper := [⟨some 14, .call (.k (.c (.fn 32 [] []))) [], none, true, []⟩,
  ⟨some 15, .call (.k (.c (.fn 13 [] []))) [(.t 14)], none, true, []⟩,
  ⟨some 13, .mv (.t 15), none, true, []⟩,
  ⟨some 16, .ext (.t 13) 0, none, true, []⟩,
  ⟨some 17, .ext (.t 13) 1, none, true, []⟩,
  ⟨some 3, .alloc 25 [.c (.int .u64 0), .c (.int .i64 0), .c (.int .i64 0), .c (.nils)], none, true, []⟩,
  ⟨none, .stn 4 (.t 3) (.t 16), none, true, []⟩,
  ⟨some 4, .mv (.t 17), none, true, []⟩]
def C9r3 : List AOper := [⟨some 19, .build [.c (.int .u64 0), .c (.int .i64 0), .c (.int .i64 0), .c (.nils)] [], none, true, []⟩,
  ⟨some 20, .call (.k (.c (.fn 12 [] []))) [(.t 19)], none, true, []⟩,
  ⟨some 18, .mv (.t 20), none, true, []⟩,
  ⟨some 21, .ext (.t 18) 0, none, true, []⟩,
  ⟨some 22, .ext (.t 18) 1, none, true, []⟩,
  ⟨some 5, .mv (.t 21), none, true, []⟩,
  ⟨some 6, .mv (.t 22), none, true, []⟩]
def C9r4 : List AOper := [⟨some 23, .mv (.t 1), none, true, []⟩,
  ⟨some 24, .bslice 4 1 [.c (.bool false)] 6 [(0, 1, (.k (.c (.bool true)))), (1, 1, (.k (.c (.bool false)))), (2, 1, (.k (.c (.bool false)))), (3, 1, (.k (.c (.bool true)))), (4, 1, (.k (.c (.bool true)))), (5, 1, (.k (.c (.bool true))))], none, true, []⟩,
  ⟨some 25, .call (.k (.c (.fn 15 [] []))) [(.t 23), (.t 24)], none, true, []⟩,
  ⟨some 7, .mv (.t 25), none, true, []⟩]
def C9r5 : List AOper := [⟨some 26, .mv (.t 2), none, true, []⟩,
  ⟨some 27, .bin .eql (.t 26) (.k (.c (.int .i64 0))), none, true, []⟩,
  ⟨some 28, .mv (.t 27), none, true, []⟩,
  ⟨some 29, .mv (.t 7), some (28, true), true, []⟩,
  ⟨some 30, .pick 28 (.t 29) (.k (.c (.bool false))), none, true, []⟩,
  ⟨some 31, .mv (.t 30), none, true, []⟩,
  ⟨some 32, .mv (.t 4), some (31, true), true, []⟩,
  ⟨some 33, .bin .eql (.t 32) (.k (.c (.int .i64 0))), some (31, true), true, []⟩,
  ⟨some 34, .pick 31 (.t 33) (.k (.c (.bool false))), none, true, []⟩,
  ⟨some 35, .mv (.t 34), none, true, []⟩,
  ⟨some 36, .faddr (.t 3) 3, some (35, true), true, []⟩,
  ⟨some 37, .ld1 (.t 36), some (35, true), true, []⟩,
  ⟨some 38, .len false (.t 37), some (35, true), true, []⟩,
  ⟨some 39, .bin .eql (.t 38) (.k (.c (.int .i64 4))), some (35, true), true, []⟩,
  ⟨some 40, .pick 35 (.t 39) (.k (.c (.bool false))), none, true, []⟩,
  ⟨some 41, .mv (.t 40), none, true, []⟩,
  ⟨some 42, .faddr (.t 3) 3, some (41, true), true, []⟩,
  ⟨some 43, .ld1 (.t 42), some (41, true), true, []⟩,
  ⟨some 44, .iaddr 6 (.t 43) (.k (.c (.int .i64 2))), some (41, true), true, []⟩,
  ⟨some 45, .ldn 6 (.t 44), some (41, true), true, []⟩,
  ⟨some 46, .build [.c (.int .i64 0), .c (.int .i64 0), .c (.int .i64 0), .c (.int .i64 0), .c (.int .i64 0), .c (.int .u64 0)] [(0, 1, (.k (.c (.int .i64 3)))), (2, 1, (.k (.c (.int .i64 1))))], some (41, true), true, []⟩,
  ⟨some 47, .eqS false [.one true, .one true, .one true, .one true, .one true, .one true] (.t 45) (.t 46), some (41, true), true, []⟩,
  ⟨some 48, .pick 41 (.t 47) (.k (.c (.bool false))), none, true, []⟩,
  ⟨some 49, .mv (.t 48), none, true, []⟩,
  ⟨some 50, .mv (.t 6), some (49, true), true, []⟩,
  ⟨some 51, .bin .eql (.t 50) (.k (.c (.int .i64 4))), some (49, true), true, []⟩,
  ⟨some 52, .pick 49 (.t 51) (.k (.c (.bool false))), none, true, []⟩,
  ⟨some 0, .mv (.t 52), none, true, []⟩]
def C9 : ACode :=
  .seq (.region C9r0)
  (.seq (.region C9r1)
  (.seq (.region C9r2)
  (.seq (.region C9r3)
  (.seq (.region C9r4)
  (.seq (.region C9r5)
  (.ret))))))
theorem C9_ok : stripF Try.prog Try.f9 = some C9 := by kernel_rfl
/-! understudy/dead.Seen -/
def C12r0 : List AOper := [⟨some 1, .box 25 (.t 0), none, true, []⟩,
  ⟨some 2, .mv (.k (.c (.nils))), none, true, []⟩,
  ⟨some 3, .mv (.k (.c (.int .i64 0))), none, true, []⟩]
def C12r1 : List AOper := [⟨some 5, .ldn 4 (.t 1), none, true, []⟩,
  ⟨some 6, .call (.k (.c (.fn 37 [] []))) [(.t 5)], none, true, []⟩,
  ⟨some 7, .un .not (.t 6), none, true, []⟩]
def C12r2 : List AOper := [⟨some 2, .mv (.k (.c (.nils))), none, true, []⟩,
  ⟨some 3, .mv (.k (.c (.int .i64 4))), none, true, []⟩]
def C12r3 : List AOper := [⟨some 8, .faddr (.t 1) 3, none, true, []⟩,
  ⟨some 9, .ld1 (.t 8), none, true, []⟩,
  ⟨some 10, .len false (.t 9), none, true, []⟩,
  ⟨some 11, .mkslice 4 1 1 [.c (.bool false)] (.t 10) (.t 10), none, true, []⟩,
  ⟨some 4, .mv (.t 11), none, true, []⟩]
def C12r4 : List AOper := [⟨some 12, .faddr (.t 1) 3, none, true, []⟩,
  ⟨some 13, .ld1 (.t 12), none, true, []⟩,
  ⟨some 14, .mv (.t 4), none, true, []⟩,
  ⟨some 15, .call (.k (.c (.fn 38 [] []))) [(.t 13), (.t 14)], none, true, []⟩]
def C12r5 : List AOper := [⟨some 16, .mv (.t 4), none, true, []⟩,
  ⟨some 2, .mv (.t 16), none, true, []⟩,
  ⟨some 3, .mv (.k (.c (.int .i64 0))), none, true, []⟩]
def C12 : ACode :=
  .seq (.region C12r0)
  (.seq (.seq (.region C12r1)
  (.cond (.t 7)
   (.seq (.region C12r2)
   (.ret))
   (.skip)))
  (.seq (.region C12r3)
  (.seq (.region C12r4)
  (.seq (.region C12r5)
  (.ret)))))
theorem C12_ok : stripF Try.prog Try.f12 = some C12 := by kernel_rfl
/-! understudy/dead.Block -/
def C13r0 : List AOper := [⟨some 1, .box 25 (.t 0), none, true, []⟩,
  ⟨some 2, .alloc 25 [.c (.int .u64 0), .c (.int .i64 0), .c (.int .i64 0), .c (.nils)], none, true, []⟩,
  ⟨some 3, .mv (.k (.c (.int .i64 0))), none, true, []⟩]
def C13r1 : List AOper := [⟨some 11, .ldn 4 (.t 1), none, true, []⟩,
  ⟨some 12, .call (.k (.c (.fn 37 [] []))) [(.t 11)], none, true, []⟩,
  ⟨some 13, .un .not (.t 12), none, true, []⟩]
def C13r2 : List AOper := [⟨some 14, .build [.c (.int .u64 0), .c (.int .i64 0), .c (.int .i64 0), .c (.nils)] [], none, true, []⟩,
  ⟨none, .stn 4 (.t 2) (.t 14), none, true, []⟩,
  ⟨some 3, .mv (.k (.c (.int .i64 4))), none, true, []⟩]
def C13r3 : List AOper := [⟨some 15, .faddr (.t 1) 3, none, true, []⟩,
  ⟨some 16, .ld1 (.t 15), none, true, []⟩,
  ⟨some 17, .call (.k (.c (.fn 39 [] []))) [(.t 16)], none, true, []⟩,
  ⟨some 18, .faddr (.t 1) 3, none, true, []⟩,
  ⟨none, .st1 (.t 18) (.t 17), none, true, []⟩]
def C13r4 : List AOper := [⟨some 19, .faddr (.t 1) 3, none, true, []⟩,
  ⟨some 20, .ld1 (.t 19), none, true, []⟩,
  ⟨some 21, .len false (.t 20), none, true, []⟩,
  ⟨some 22, .mkslice 4 1 1 [.c (.bool false)] (.t 21) (.t 21), none, true, []⟩,
  ⟨some 4, .mv (.t 22), none, true, []⟩]
def C13r5 : List AOper := [⟨some 23, .mv (.t 4), none, true, []⟩,
  ⟨some 24, .faddr (.t 1) 3, none, true, []⟩,
  ⟨some 25, .ld1 (.t 24), none, true, []⟩,
  ⟨some 26, .len false (.t 25), none, true, []⟩,
  ⟨some 27, .slc 1 (.t 23) none (some (.t 26)), none, true, []⟩,
  ⟨some 5, .mv (.t 27), none, true, []⟩]
def C13r6 : List AOper := [⟨some 28, .faddr (.t 1) 3, none, true, []⟩,
  ⟨some 29, .ld1 (.t 28), none, true, []⟩,
  ⟨some 30, .mv (.t 5), none, true, []⟩,
  ⟨some 31, .call (.k (.c (.fn 38 [] []))) [(.t 29), (.t 30)], none, true, []⟩]
def C13r7 : List AOper := [⟨some 32, .mv (.t 5), none, true, []⟩,
  ⟨some 33, .call (.k (.c (.fn 40 [] []))) [(.t 32), (.k (.c (.bool false)))], none, true, []⟩,
  ⟨some 34, .un .not (.t 33), none, true, []⟩]
def C13r8 : List AOper := [⟨some 35, .ldn 4 (.t 1), none, true, []⟩,
  ⟨none, .stn 4 (.t 2) (.t 35), none, true, []⟩,
  ⟨some 3, .mv (.k (.c (.int .i64 0))), none, true, []⟩]
def C13r9 : List AOper := [⟨some 36, .faddr (.t 1) 3, none, true, []⟩,
  ⟨some 37, .ld1 (.t 36), none, true, []⟩,
  ⟨some 38, .len false (.t 37), none, true, []⟩,
  ⟨some 39, .mkslice 3 1 8 [.c (.int .i64 0)] (.t 38) (.t 38), none, true, []⟩,
  ⟨some 6, .mv (.t 39), none, true, []⟩]
def C13r10 : List AOper := [⟨some 7, .mv (.k (.c (.nils))), none, true, []⟩]
def C13r11 : List AOper := [⟨some 40, .faddr (.t 1) 3, none, true, []⟩,
  ⟨some 41, .ld1 (.t 40), none, true, []⟩,
  ⟨some 42, .len false (.t 41), none, true, []⟩,
  ⟨some 43, .mv (.k (.c (.int .i64 0))), none, true, []⟩]
def C13r12 : List AOper := [⟨some 44, .bin .lss (.t 43) (.t 42), none, true, []⟩]
def C13r13 : List AOper := [⟨some 45, .mv (.t 43), none, true, []⟩,
  ⟨some 46, .iaddr 6 (.t 41) (.t 43), none, true, []⟩,
  ⟨some 47, .ldn 6 (.t 46), none, true, []⟩,
  ⟨some 9, .alloc 39 [.c (.int .i64 0), .c (.int .i64 0), .c (.int .i64 0), .c (.int .i64 0), .c (.int .i64 0), .c (.int .u64 0)], none, true, []⟩,
  ⟨some 8, .mv (.t 45), none, true, []⟩,
  ⟨none, .stn 6 (.t 9) (.t 47), none, true, []⟩]
def C13r14 : List AOper := [⟨some 48, .mv (.t 6), none, true, []⟩,
  ⟨some 49, .mv (.t 8), none, true, []⟩,
  ⟨some 50, .mv (.t 7), none, true, []⟩,
  ⟨some 51, .len false (.t 50), none, true, []⟩,
  ⟨some 52, .iaddr 1 (.t 48) (.t 49), none, true, []⟩,
  ⟨none, .st1 (.t 52) (.t 51), none, true, []⟩]
def C13r15 : List AOper := [⟨some 53, .mv (.t 5), none, true, []⟩,
  ⟨some 54, .mv (.t 8), none, true, []⟩,
  ⟨some 55, .iaddr 1 (.t 53) (.t 54), none, true, []⟩,
  ⟨some 56, .ld1 (.t 55), none, true, []⟩,
  ⟨some 57, .un .not (.t 56), none, true, []⟩]
def C13r16 : List AOper := [⟨some 58, .ldn 6 (.t 9), none, true, []⟩,
  ⟨some 59, .call (.k (.c (.fn 21 [] []))) [(.t 58)], none, true, []⟩,
  ⟨some 60, .len false (.t 59), none, true, []⟩,
  ⟨some 10, .mv (.t 60), none, true, []⟩]
def C13r17 : List AOper := [⟨some 61, .mv (.t 10), none, true, []⟩,
  ⟨some 62, .bin .gtr (.t 61) (.k (.c (.int .i64 0))), none, true, []⟩]
def C13r18 : List AOper := [⟨some 63, .mv (.t 6), none, true, []⟩,
  ⟨some 64, .faddr (.t 9) 2, none, true, []⟩,
  ⟨some 65, .ld1 (.t 64), none, true, []⟩,
  ⟨some 66, .iaddr 1 (.t 63) (.t 65), none, true, []⟩,
  ⟨some 67, .ld1 (.t 66), none, true, []⟩,
  ⟨some 68, .faddr (.t 9) 2, none, true, []⟩,
  ⟨none, .st1 (.t 68) (.t 67), none, true, []⟩]
def C13r19 : List AOper := [⟨some 69, .mv (.t 10), none, true, []⟩,
  ⟨some 70, .bin .gtr (.t 69) (.k (.c (.int .i64 1))), none, true, []⟩]
def C13r20 : List AOper := [⟨some 71, .mv (.t 6), none, true, []⟩,
  ⟨some 72, .faddr (.t 9) 3, none, true, []⟩,
  ⟨some 73, .ld1 (.t 72), none, true, []⟩,
  ⟨some 74, .iaddr 1 (.t 71) (.t 73), none, true, []⟩,
  ⟨some 75, .ld1 (.t 74), none, true, []⟩,
  ⟨some 76, .faddr (.t 9) 3, none, true, []⟩,
  ⟨none, .st1 (.t 76) (.t 75), none, true, []⟩]
def C13r21 : List AOper := [⟨some 77, .mv (.t 7), none, true, []⟩,
  ⟨some 78, .ldn 6 (.t 9), none, true, []⟩,
  ⟨some 79, .bslice 39 6 [.c (.int .i64 0), .c (.int .i64 0), .c (.int .i64 0), .c (.int .i64 0), .c (.int .i64 0), .c (.int .u64 0)] 1 [(0, 6, (.t 78))], none, true, []⟩,
  ⟨some 80, .app 6 48 39 (.t 77) (.t 79), none, true, []⟩,
  ⟨some 7, .mv (.t 80), none, true, []⟩]
def C13r22 : List AOper := [⟨some 81, .bin .add (.t 43) (.k (.c (.int .i64 1))), none, true, []⟩,
  ⟨some 43, .mv (.t 81), none, true, []⟩]
def C13r23 : List AOper := [⟨some 82, .mv (.t 7), none, true, []⟩,
  ⟨some 83, .faddr (.t 1) 3, none, true, []⟩,
  ⟨none, .st1 (.t 83) (.t 82), none, true, []⟩]
def C13 : ACode :=
  .seq (.region C13r0)
  (.seq (.seq (.region C13r1)
  (.cond (.t 13)
   (.seq (.region C13r2)
   (.ret))
   (.skip)))
  (.seq (.region C13r3)
  (.seq (.region C13r4)
  (.block 0
   (.loop
    (.block 1
     (.seq (.region C13r5)
     (.seq (.region C13r6)
     (.seq (.seq (.region C13r7)
     (.cond (.t 34)
      (.seq (.region C13r8)
      (.ret))
      (.skip)))
     (.seq (.region C13r9)
     (.seq (.region C13r10)
     (.seq (.seq (.region C13r11)
     (.block 2
      (.loop
       (.seq (.region C13r12)
       (.seq (.cond (.t 44)
        (.skip)
        (.exit 2))
       (.seq (.block 3
        (.seq (.region C13r13)
        (.seq (.region C13r14)
        (.seq (.seq (.region C13r15)
        (.cond (.t 57)
         (.exit 3)
         (.skip)))
        (.seq (.seq (.region C13r16)
        (.seq (.region C13r17)
        (.cond (.t 62)
         (.seq (.region C13r18)
         (.seq (.region C13r19)
         (.cond (.t 70)
          (.region C13r20)
          (.skip))))
         (.skip))))
        (.region C13r21))))))
       (.region C13r22)))))))
     (.region C13r23)))))))))))))
theorem C13_ok : stripF Try.prog Try.f13 = some C13 := by kernel_rfl
/-! understudy/understudylaw19.same -/
def C15r0 : List AOper := [⟨some 4, .mv (.k (.c (.bool false))), none, true, []⟩]
def C15r1 : List AOper := [⟨some 6, .mv (.t 0), none, true, []⟩,
  ⟨some 7, .len false (.t 6), none, true, []⟩,
  ⟨some 8, .mv (.t 1), none, true, []⟩,
  ⟨some 9, .len false (.t 8), none, true, []⟩,
  ⟨some 10, .bin .neq (.t 7) (.t 9), none, true, []⟩]
def C15r2 : List AOper := [⟨some 4, .mv (.k (.c (.bool false))), none, true, []⟩]
def C15r3 : List AOper := [⟨some 5, .mv (.k (.c (.int .i64 0))), none, true, []⟩]
def C15r4 : List AOper := [⟨some 11, .mv (.t 5), none, true, []⟩,
  ⟨some 12, .mv (.t 0), none, true, []⟩,
  ⟨some 13, .len false (.t 12), none, true, []⟩,
  ⟨some 14, .bin .lss (.t 11) (.t 13), none, true, []⟩]
def C15r5 : List AOper := [⟨some 17, .mv (.t 0), none, false, []⟩,
  ⟨some 18, .mv (.t 5), none, false, []⟩,
  ⟨some 19, .iaddr 1 (.t 17) (.t 18), none, false, []⟩,
  ⟨some 20, .ld1 (.t 19), none, false, []⟩,
  ⟨some 21, .mv (.t 1), none, false, []⟩,
  ⟨some 22, .mv (.t 5), none, false, []⟩,
  ⟨some 23, .iaddr 1 (.t 21) (.t 22), none, false, []⟩,
  ⟨some 24, .ld1 (.t 23), none, false, []⟩,
  ⟨some 25, .eqB true (.t 20) (.t 24), none, true, []⟩]
def C15r6 : List AOper := [⟨some 4, .mv (.k (.c (.bool false))), none, true, []⟩]
def C15r7 : List AOper := [⟨some 15, .mv (.t 5), none, true, []⟩,
  ⟨some 16, .bin .add (.t 15) (.k (.c (.int .i64 1))), none, true, []⟩,
  ⟨some 5, .mv (.t 16), none, true, []⟩]
def C15r8 : List AOper := [⟨some 4, .mv (.k (.c (.bool true))), none, true, []⟩]
def C15 : ACode :=
  .seq (.region C15r0)
  (.seq (.seq (.region C15r1)
  (.cond (.t 10)
   (.seq (.region C15r2)
   (.ret))
   (.skip)))
  (.seq (.seq (.region C15r3)
  (.block 0
   (.loop
    (.seq (.seq (.region C15r4)
    (.cond (.t 14)
     (.skip)
     (.exit 0)))
    (.seq (.block 1
     (.seq (.region C15r5)
     (.cond (.t 25)
      (.seq (.region C15r6)
      (.ret))
      (.skip))))
    (.region C15r7))))))
  (.seq (.region C15r8)
  (.ret))))
theorem C15_ok : stripF Try.prog Try.f15 = some C15 := by kernel_rfl
/-! understudy/ir.Uses -/
def C21r0 : List AOper := [⟨some 1, .box 39 (.t 0), none, true, []⟩,
  ⟨some 2, .mv (.k (.c (.nils))), none, true, []⟩]
def C21r1 : List AOper := [⟨some 6, .faddr (.t 1) 0, none, true, []⟩,
  ⟨some 7, .ld1 (.t 6), none, true, []⟩,
  ⟨some 8, .call (.k (.c (.fn 46 [] []))) [(.t 7)], none, true, []⟩,
  ⟨some 5, .mv (.t 8), none, true, []⟩,
  ⟨some 9, .ext (.t 5) 0, none, true, []⟩,
  ⟨some 10, .ext (.t 5) 1, none, true, []⟩,
  ⟨some 3, .alloc 79 [.c (.str ⟨#[]⟩), .c (.bool false), .c (.bool false), .c (.bool false), .c (.int .i64 0), .c (.bool false), .c (.bool false), .c (.bool false), .c (.nilfn)], none, true, []⟩,
  ⟨none, .stn 9 (.t 3) (.t 9), none, true, []⟩,
  ⟨some 4, .mv (.t 10), none, true, []⟩]
def C21r2 : List AOper := [⟨some 11, .faddr (.t 1) 2, none, true, []⟩,
  ⟨some 12, .ld1 (.t 11), none, true, []⟩,
  ⟨some 13, .faddr (.t 1) 3, none, true, []⟩,
  ⟨some 14, .ld1 (.t 13), none, true, []⟩,
  ⟨some 15, .bslice 3 1 [.c (.int .i64 0)] 2 [(0, 1, (.t 12)), (1, 1, (.t 14))], none, true, []⟩,
  ⟨some 16, .faddr (.t 3) 4, none, true, []⟩,
  ⟨some 17, .ld1 (.t 16), none, true, []⟩,
  ⟨some 18, .slc 1 (.t 15) none (some (.t 17)), none, true, []⟩,
  ⟨some 19, .app 1 8 3 (.k (.c (.nils))) (.t 18), none, true, []⟩,
  ⟨some 2, .mv (.t 19), none, true, []⟩]
def C21 : ACode :=
  .seq (.region C21r0)
  (.seq (.region C21r1)
  (.seq (.region C21r2)
  (.ret)))
theorem C21_ok : stripF Try.prog Try.f21 = some C21 := by kernel_rfl
/-! understudy/ir.Leaves -/
def C22r0 : List AOper := [⟨some 1, .box 39 (.t 0), none, true, []⟩,
  ⟨some 2, .mv (.k (.c (.bool false))), none, true, []⟩]
def C22r1 : List AOper := [⟨some 6, .faddr (.t 1) 0, none, true, []⟩,
  ⟨some 7, .ld1 (.t 6), none, true, []⟩,
  ⟨some 8, .call (.k (.c (.fn 46 [] []))) [(.t 7)], none, true, []⟩,
  ⟨some 5, .mv (.t 8), none, true, []⟩,
  ⟨some 9, .ext (.t 5) 0, none, true, []⟩,
  ⟨some 10, .ext (.t 5) 1, none, true, []⟩,
  ⟨some 3, .alloc 79 [.c (.str ⟨#[]⟩), .c (.bool false), .c (.bool false), .c (.bool false), .c (.int .i64 0), .c (.bool false), .c (.bool false), .c (.bool false), .c (.nilfn)], none, true, []⟩,
  ⟨none, .stn 9 (.t 3) (.t 9), none, true, []⟩,
  ⟨some 4, .mv (.t 10), none, true, []⟩]
def C22r2 : List AOper := [⟨some 11, .faddr (.t 3) 7, none, true, []⟩,
  ⟨some 12, .ld1 (.t 11), none, true, []⟩,
  ⟨some 13, .mv (.t 12), none, true, []⟩,
  ⟨some 14, .faddr (.t 3) 6, some (13, false), true, []⟩,
  ⟨some 15, .ld1 (.t 14), some (13, false), true, []⟩,
  ⟨some 16, .pick 13 (.k (.c (.bool true))) (.t 15), none, true, []⟩,
  ⟨some 17, .mv (.t 16), none, true, []⟩,
  ⟨some 18, .faddr (.t 1) 0, some (17, false), true, []⟩,
  ⟨some 19, .ld1 (.t 18), some (17, false), true, []⟩,
  ⟨some 20, .bin .eql (.t 19) (.k (.c (.int .i64 15))), some (17, false), true, []⟩,
  ⟨some 21, .pick 17 (.k (.c (.bool true))) (.t 20), none, true, []⟩,
  ⟨some 2, .mv (.t 21), none, true, []⟩]
def C22 : ACode :=
  .seq (.region C22r0)
  (.seq (.region C22r1)
  (.seq (.region C22r2)
  (.ret)))
theorem C22_ok : stripF Try.prog Try.f22 = some C22 := by kernel_rfl
/-! understudy/understudylaw19.twice -/
def C32r0 : List AOper := [⟨some 0, .alloc 25 [.c (.int .u64 0), .c (.int .i64 0), .c (.int .i64 0), .c (.nils)], none, true, []⟩]
def C32r1 : List AOper := [⟨some 1, .build [.c (.int .i64 0), .c (.int .i64 0), .c (.int .i64 0), .c (.int .i64 0), .c (.int .i64 0), .c (.int .u64 0)] [(0, 1, (.k (.c (.int .i64 14)))), (5, 1, (.k (.c (.int .u64 64))))], none, true, []⟩,
  ⟨some 2, .build [.c (.int .i64 0), .c (.int .i64 0), .c (.int .i64 0), .c (.int .i64 0), .c (.int .i64 0), .c (.int .u64 0)] [(0, 1, (.k (.c (.int .i64 1)))), (5, 1, (.k (.c (.int .u64 1))))], none, true, []⟩,
  ⟨some 3, .build [.c (.int .i64 0), .c (.int .i64 0), .c (.int .i64 0), .c (.int .i64 0), .c (.int .i64 0), .c (.int .u64 0)] [(0, 1, (.k (.c (.int .i64 3)))), (2, 1, (.k (.c (.int .i64 1))))], none, true, []⟩,
  ⟨some 4, .build [.c (.int .i64 0), .c (.int .i64 0), .c (.int .i64 0), .c (.int .i64 0), .c (.int .i64 0), .c (.int .u64 0)] [(0, 1, (.k (.c (.int .i64 1)))), (5, 1, (.k (.c (.int .u64 2))))], none, true, []⟩,
  ⟨some 5, .build [.c (.int .i64 0), .c (.int .i64 0), .c (.int .i64 0), .c (.int .i64 0), .c (.int .i64 0), .c (.int .u64 0)] [(0, 1, (.k (.c (.int .i64 3)))), (2, 1, (.k (.c (.int .i64 3))))], none, true, []⟩,
  ⟨some 6, .build [.c (.int .i64 0), .c (.int .i64 0), .c (.int .i64 0), .c (.int .i64 0), .c (.int .i64 0), .c (.int .u64 0)] [(0, 1, (.k (.c (.int .i64 16)))), (5, 1, (.k (.c (.int .u64 68))))], none, true, []⟩,
  ⟨some 7, .bslice 39 6 [.c (.int .i64 0), .c (.int .i64 0), .c (.int .i64 0), .c (.int .i64 0), .c (.int .i64 0), .c (.int .u64 0)] 6 [(0, 6, (.t 1)), (6, 6, (.t 2)), (12, 6, (.t 3)), (18, 6, (.t 4)), (24, 6, (.t 5)), (30, 6, (.t 6))], none, true, []⟩,
  ⟨some 8, .build [.c (.int .u64 0), .c (.int .i64 0), .c (.int .i64 0), .c (.nils)] [(0, 1, (.k (.c (.int .u64 64)))), (1, 1, (.k (.c (.int .i64 1)))), (2, 1, (.k (.c (.int .i64 1)))), (3, 1, (.t 7))], none, true, []⟩,
  ⟨none, .stn 4 (.t 0) (.t 8), none, true, []⟩]
def C32 : ACode :=
  .seq (.region C32r0)
  (.seq (.region C32r1)
  (.ret))
theorem C32_ok : stripF Try.prog Try.f32 = some C32 := by kernel_rfl
/-! understudy/ir.Right -/
def C37r0 : List AOper := [⟨some 1, .box 25 (.t 0), none, true, []⟩,
  ⟨some 2, .mv (.k (.c (.bool false))), none, true, []⟩]
def C37r1 : List AOper := [⟨some 8, .faddr (.t 1) 3, none, true, []⟩,
  ⟨some 9, .ld1 (.t 8), none, true, []⟩,
  ⟨some 10, .len false (.t 9), none, true, []⟩,
  ⟨some 3, .mv (.t 10), none, true, []⟩]
def C37r2 : List AOper := [⟨some 11, .faddr (.t 1) 0, none, true, []⟩,
  ⟨some 12, .ld1 (.t 11), none, true, []⟩,
  ⟨some 13, .bin .and (.t 12) (.k (.c (.int .u64 3))), none, true, []⟩,
  ⟨some 14, .bin .neq (.t 13) (.k (.c (.int .u64 0))), none, true, []⟩,
  ⟨some 15, .mv (.t 14), none, true, []⟩,
  ⟨some 16, .faddr (.t 1) 1, some (15, false), true, []⟩,
  ⟨some 17, .ld1 (.t 16), some (15, false), true, []⟩,
  ⟨some 18, .bin .lss (.t 17) (.k (.c (.int .i64 1))), some (15, false), true, []⟩,
  ⟨some 19, .pick 15 (.k (.c (.bool true))) (.t 18), none, true, []⟩,
  ⟨some 20, .mv (.t 19), none, true, []⟩,
  ⟨some 21, .faddr (.t 1) 1, some (20, false), true, []⟩,
  ⟨some 22, .ld1 (.t 21), some (20, false), true, []⟩,
  ⟨some 23, .bin .gtr (.t 22) (.k (.c (.int .i64 16))), some (20, false), true, []⟩,
  ⟨some 24, .pick 20 (.k (.c (.bool true))) (.t 23), none, true, []⟩,
  ⟨some 25, .mv (.t 24), none, true, []⟩,
  ⟨some 26, .faddr (.t 1) 2, some (25, false), true, []⟩,
  ⟨some 27, .ld1 (.t 26), some (25, false), true, []⟩,
  ⟨some 28, .bin .lss (.t 27) (.k (.c (.int .i64 0))), some (25, false), true, []⟩,
  ⟨some 29, .pick 25 (.k (.c (.bool true))) (.t 28), none, true, []⟩,
  ⟨some 30, .mv (.t 29), none, true, []⟩,
  ⟨some 31, .faddr (.t 1) 2, some (30, false), true, []⟩,
  ⟨some 32, .ld1 (.t 31), some (30, false), true, []⟩,
  ⟨some 33, .bin .gtr (.t 32) (.k (.c (.int .i64 1))), some (30, false), true, []⟩,
  ⟨some 34, .pick 30 (.k (.c (.bool true))) (.t 33), none, true, []⟩,
  ⟨some 35, .mv (.t 34), none, true, []⟩,
  ⟨some 36, .mv (.t 3), some (35, false), true, []⟩,
  ⟨some 37, .bin .lss (.t 36) (.k (.c (.int .i64 1))), some (35, false), true, []⟩,
  ⟨some 38, .pick 35 (.k (.c (.bool true))) (.t 37), none, true, []⟩,
  ⟨some 39, .mv (.t 38), none, true, []⟩,
  ⟨some 40, .mv (.t 3), some (39, false), true, []⟩,
  ⟨some 41, .bin .gtr (.t 40) (.k (.c (.int .i64 512))), some (39, false), true, []⟩,
  ⟨some 42, .pick 39 (.k (.c (.bool true))) (.t 41), none, true, []⟩]
def C37r3 : List AOper := [⟨some 2, .mv (.k (.c (.bool false))), none, true, []⟩]
def C37r4 : List AOper := [⟨some 43, .faddr (.t 1) 3, none, true, []⟩,
  ⟨some 44, .ld1 (.t 43), none, true, []⟩,
  ⟨some 45, .iaddr 6 (.t 44) (.k (.c (.int .i64 0))), none, true, []⟩,
  ⟨some 46, .faddr (.t 45) 0, none, true, []⟩,
  ⟨some 47, .ld1 (.t 46), none, true, []⟩,
  ⟨some 48, .bin .neq (.t 47) (.k (.c (.int .i64 14))), none, true, []⟩,
  ⟨some 49, .mv (.t 48), none, true, []⟩,
  ⟨some 50, .faddr (.t 1) 3, some (49, false), false, []⟩,
  ⟨some 51, .ld1 (.t 50), some (49, false), false, []⟩,
  ⟨some 52, .iaddr 6 (.t 51) (.k (.c (.int .i64 0))), some (49, false), false, []⟩,
  ⟨some 53, .faddr (.t 52) 5, some (49, false), false, []⟩,
  ⟨some 54, .ld1 (.t 53), some (49, false), false, []⟩,
  ⟨some 55, .faddr (.t 1) 0, some (49, false), false, []⟩,
  ⟨some 56, .ld1 (.t 55), some (49, false), false, []⟩,
  ⟨some 57, .bin .neq (.t 54) (.t 56), some (49, false), true, []⟩,
  ⟨some 58, .pick 49 (.k (.c (.bool true))) (.t 57), none, true, []⟩]
def C37r5 : List AOper := [⟨some 2, .mv (.k (.c (.bool false))), none, true, []⟩]
def C37r6 : List AOper := [⟨some 59, .faddr (.t 1) 3, none, true, []⟩,
  ⟨some 60, .ld1 (.t 59), none, true, []⟩,
  ⟨some 61, .len false (.t 60), none, true, []⟩,
  ⟨some 62, .mv (.k (.c (.int .i64 0))), none, true, []⟩]
def C37r7 : List AOper := [⟨some 63, .bin .lss (.t 62) (.t 61), none, true, []⟩]
def C37r8 : List AOper := [⟨some 64, .mv (.t 62), none, true, []⟩,
  ⟨some 65, .iaddr 6 (.t 60) (.t 62), none, true, []⟩,
  ⟨some 66, .ldn 6 (.t 65), none, true, []⟩,
  ⟨some 5, .alloc 39 [.c (.int .i64 0), .c (.int .i64 0), .c (.int .i64 0), .c (.int .i64 0), .c (.int .i64 0), .c (.int .u64 0)], none, true, []⟩,
  ⟨some 4, .mv (.t 64), none, true, []⟩,
  ⟨none, .stn 6 (.t 5) (.t 66), none, true, []⟩]
def C37r9 : List AOper := [⟨some 68, .faddr (.t 5) 0, none, true, []⟩,
  ⟨some 69, .ld1 (.t 68), none, true, []⟩,
  ⟨some 70, .call (.k (.c (.fn 46 [] []))) [(.t 69)], none, true, []⟩,
  ⟨some 67, .mv (.t 70), none, true, []⟩,
  ⟨some 71, .ext (.t 67) 0, none, true, []⟩,
  ⟨some 72, .ext (.t 67) 1, none, true, []⟩,
  ⟨some 6, .alloc 79 [.c (.str ⟨#[]⟩), .c (.bool false), .c (.bool false), .c (.bool false), .c (.int .i64 0), .c (.bool false), .c (.bool false), .c (.bool false), .c (.nilfn)], none, true, []⟩,
  ⟨none, .stn 9 (.t 6) (.t 71), none, true, []⟩,
  ⟨some 7, .mv (.t 72), none, true, []⟩]
def C37r10 : List AOper := [⟨some 73, .ldn 6 (.t 5), none, false, []⟩,
  ⟨some 74, .faddr (.t 1) 3, none, false, []⟩,
  ⟨some 75, .ld1 (.t 74), none, false, []⟩,
  ⟨some 76, .mv (.t 4), none, false, []⟩,
  ⟨some 77, .slc 6 (.t 75) none (some (.t 76)), none, false, []⟩,
  ⟨some 78, .call (.k (.c (.fn 54 [] []))) [(.t 73), (.t 77)], none, true, []⟩,
  ⟨some 79, .un .not (.t 78), none, true, []⟩,
  ⟨some 80, .mv (.t 79), none, true, []⟩,
  ⟨some 81, .faddr (.t 6) 6, some (80, false), false, []⟩,
  ⟨some 82, .ld1 (.t 81), some (80, false), false, []⟩,
  ⟨some 83, .mv (.t 4), some (80, false), false, []⟩,
  ⟨some 84, .mv (.t 3), some (80, false), false, []⟩,
  ⟨some 85, .bin .sub (.t 84) (.k (.c (.int .i64 1))), some (80, false), false, []⟩,
  ⟨some 86, .bin .eql (.t 83) (.t 85), some (80, false), false, []⟩,
  ⟨some 87, .eqB true (.t 82) (.t 86), some (80, false), true, []⟩,
  ⟨some 88, .pick 80 (.k (.c (.bool true))) (.t 87), none, true, []⟩]
def C37r11 : List AOper := [⟨some 2, .mv (.k (.c (.bool false))), none, true, []⟩]
def C37r12 : List AOper := [⟨some 89, .bin .add (.t 62) (.k (.c (.int .i64 1))), none, true, []⟩,
  ⟨some 62, .mv (.t 89), none, true, []⟩]
def C37r13 : List AOper := [⟨some 2, .mv (.k (.c (.bool true))), none, true, []⟩]
def C37 : ACode :=
  .seq (.region C37r0)
  (.seq (.region C37r1)
  (.seq (.seq (.region C37r2)
  (.cond (.t 42)
   (.seq (.region C37r3)
   (.ret))
   (.skip)))
  (.seq (.seq (.region C37r4)
  (.cond (.t 58)
   (.seq (.region C37r5)
   (.ret))
   (.skip)))
  (.seq (.seq (.region C37r6)
  (.block 0
   (.loop
    (.seq (.region C37r7)
    (.seq (.cond (.t 63)
     (.skip)
     (.exit 0))
    (.seq (.block 1
     (.seq (.region C37r8)
     (.seq (.region C37r9)
     (.seq (.region C37r10)
     (.cond (.t 88)
      (.seq (.region C37r11)
      (.ret))
      (.skip))))))
    (.region C37r12)))))))
  (.seq (.region C37r13)
  (.ret))))))
theorem C37_ok : stripF Try.prog Try.f37 = some C37 := by kernel_rfl
/-! understudy/dead.mark -/
def C38r0 : List AOper := [⟨some 2, .box 23 (.t 0), none, true, []⟩,
  ⟨some 3, .box 29 (.t 1), none, true, []⟩]
def C38r1 : List AOper := [⟨some 8, .ld1 (.t 3), none, true, []⟩,
  ⟨none, .clr 1 [.c (.bool false)] (.t 8), none, true, []⟩]
def C38r2 : List AOper := [⟨some 9, .ld1 (.t 2), none, true, []⟩,
  ⟨some 10, .call (.k (.c (.fn 55 [] []))) [(.t 9)], none, true, []⟩]
def C38r3 : List AOper := [⟨some 4, .mv (.t 11), none, true, []⟩]
def C38r4 : List AOper := [⟨some 5, .alloc 39 [.c (.int .i64 0), .c (.int .i64 0), .c (.int .i64 0), .c (.int .i64 0), .c (.int .i64 0), .c (.int .u64 0)], none, true, []⟩,
  ⟨none, .stn 6 (.t 5) (.t 12), none, true, []⟩]
def C38r5 : List AOper := [⟨some 13, .faddr (.t 5) 0, none, true, []⟩,
  ⟨some 14, .ld1 (.t 13), none, true, []⟩]
def C38r6 : List AOper := [⟨some 32, .bin .eql (.t 14) (.k (.c (.int .i64 14))), none, true, []⟩,
  ⟨some 31, .mv (.t 32), none, true, []⟩]
def C38r7 : List AOper := [⟨some 33, .ld1 (.t 3), none, false, []⟩,
  ⟨some 34, .mv (.t 4), none, false, []⟩,
  ⟨some 35, .mv (.t 4), none, false, []⟩,
  ⟨some 36, .bin .eql (.t 35) (.k (.c (.int .i64 0))), none, false, []⟩,
  ⟨some 37, .mv (.t 36), none, false, []⟩,
  ⟨some 38, .ld1 (.t 2), some (37, false), false, []⟩,
  ⟨some 39, .mv (.t 4), some (37, false), false, []⟩,
  ⟨some 40, .slc 6 (.t 38) (some (.t 39)) none, some (37, false), false, []⟩,
  ⟨some 41, .call (.k (.c (.fn 56 [] []))) [(.t 40)], some (37, false), false, []⟩,
  ⟨some 42, .un .not (.t 41), some (37, false), false, []⟩,
  ⟨some 43, .pick 37 (.k (.c (.bool true))) (.t 42), none, false, []⟩,
  ⟨some 44, .iaddr 1 (.t 33) (.t 34), none, true, []⟩,
  ⟨none, .st1 (.t 44) (.t 43), none, true, []⟩]
def C38r8 : List AOper := [⟨some 46, .bin .eql (.t 14) (.k (.c (.int .i64 3))), none, true, []⟩,
  ⟨some 45, .mv (.t 46), none, true, []⟩]
def C38r9 : List AOper := [⟨some 47, .bin .eql (.t 14) (.k (.c (.int .i64 5))), none, true, []⟩,
  ⟨some 45, .mv (.t 47), none, true, []⟩]
def C38r10 : List AOper := [⟨some 48, .bin .eql (.t 14) (.k (.c (.int .i64 7))), none, true, []⟩,
  ⟨some 45, .mv (.t 48), none, true, []⟩]
def C38r11 : List AOper := [⟨some 49, .ld1 (.t 3), none, false, []⟩,
  ⟨some 50, .mv (.t 4), none, false, []⟩,
  ⟨some 51, .ld1 (.t 2), none, false, []⟩,
  ⟨some 52, .mv (.t 4), none, false, []⟩,
  ⟨some 53, .slc 6 (.t 51) (some (.t 52)) none, none, false, []⟩,
  ⟨some 54, .call (.k (.c (.fn 56 [] []))) [(.t 53)], none, false, []⟩,
  ⟨some 55, .un .not (.t 54), none, false, []⟩,
  ⟨some 56, .iaddr 1 (.t 49) (.t 50), none, true, []⟩,
  ⟨none, .st1 (.t 56) (.t 55), none, true, []⟩]
def C38r12 : List AOper := [⟨some 15, .ld1 (.t 3), none, false, []⟩,
  ⟨some 16, .mv (.t 4), none, false, []⟩,
  ⟨some 17, .ld1 (.t 3), none, false, []⟩,
  ⟨some 18, .mv (.t 4), none, false, []⟩,
  ⟨some 19, .iaddr 1 (.t 17) (.t 18), none, false, []⟩,
  ⟨some 20, .ld1 (.t 19), none, false, []⟩,
  ⟨some 21, .mv (.t 20), none, false, []⟩,
  ⟨some 22, .ldn 6 (.t 5), some (21, false), false, []⟩,
  ⟨some 23, .call (.k (.c (.fn 57 [] []))) [(.t 22)], some (21, false), false, []⟩,
  ⟨some 24, .un .not (.t 23), some (21, false), false, []⟩,
  ⟨some 25, .pick 21 (.k (.c (.bool true))) (.t 24), none, false, []⟩,
  ⟨some 26, .mv (.t 25), none, false, []⟩,
  ⟨some 27, .ldn 6 (.t 5), some (26, false), false, []⟩,
  ⟨some 28, .call (.k (.c (.fn 22 [] []))) [(.t 27)], some (26, false), false, []⟩,
  ⟨some 29, .pick 26 (.k (.c (.bool true))) (.t 28), none, false, []⟩,
  ⟨some 30, .iaddr 1 (.t 15) (.t 16), none, true, []⟩,
  ⟨none, .st1 (.t 30) (.t 29), none, true, []⟩]
def C38r13 : List AOper := [⟨some 57, .ld1 (.t 3), none, true, []⟩,
  ⟨some 58, .mv (.t 4), none, true, []⟩,
  ⟨some 59, .iaddr 1 (.t 57) (.t 58), none, true, []⟩,
  ⟨some 60, .ld1 (.t 59), none, true, []⟩]
def C38r14 : List AOper := [⟨some 61, .ldn 6 (.t 5), none, true, []⟩,
  ⟨some 62, .call (.k (.c (.fn 21 [] []))) [(.t 61)], none, true, []⟩,
  ⟨some 63, .len false (.t 62), none, true, []⟩,
  ⟨some 64, .mv (.k (.c (.int .i64 0))), none, true, []⟩]
def C38r15 : List AOper := [⟨some 65, .bin .lss (.t 64) (.t 63), none, true, []⟩]
def C38r16 : List AOper := [⟨some 66, .iaddr 1 (.t 62) (.t 64), none, true, []⟩,
  ⟨some 67, .ld1 (.t 66), none, true, []⟩,
  ⟨some 7, .mv (.t 67), none, true, []⟩]
def C38r17 : List AOper := [⟨some 68, .ld1 (.t 3), none, true, []⟩,
  ⟨some 69, .mv (.t 7), none, true, []⟩,
  ⟨some 70, .iaddr 1 (.t 68) (.t 69), none, true, []⟩,
  ⟨none, .st1 (.t 70) (.k (.c (.bool true))), none, true, []⟩]
def C38r18 : List AOper := [⟨some 71, .bin .add (.t 64) (.k (.c (.int .i64 1))), none, true, []⟩,
  ⟨some 64, .mv (.t 71), none, true, []⟩]
def C38 : ACode :=
  .seq (.region C38r0)
  (.seq (.region C38r1)
  (.seq (.region C38r2)
  (.block 0
   (.range (IterC Try.prog) LeS (.t 10) [11, 12]
    (.seq (.region C38r3)
    (.region C38r4))
    (.block 1
     (.seq (.seq (.region C38r5)
     (.block 2
      (.seq (.region C38r6)
      (.cond (.t 31)
       (.region C38r7)
       (.seq (.seq (.region C38r8)
       (.cond (.t 45)
        (.skip)
        (.seq (.region C38r9)
        (.cond (.t 45)
         (.skip)
         (.region C38r10)))))
       (.cond (.t 45)
        (.region C38r11)
        (.region C38r12)))))))
     (.seq (.region C38r13)
     (.cond (.t 60)
      (.seq (.region C38r14)
      (.block 3
       (.loop
        (.seq (.region C38r15)
        (.seq (.cond (.t 65)
         (.skip)
         (.exit 3))
        (.seq (.block 4
         (.seq (.region C38r16)
         (.region C38r17)))
        (.region C38r18)))))))
      (.skip)))))))))
theorem C38_ok : stripF Try.prog Try.f38 = some C38 := by kernel_rfl
/-! slices.Clone[[]understudy/api.Op,understudy/api.Op] -/
def C39r0 : List AOper := [⟨some 2, .mv (.k (.c (.nils))), none, true, []⟩]
def C39r1 : List AOper := [⟨some 3, .mv (.t 0), none, true, []⟩,
  ⟨some 4, .nilq .sl false (.t 3) (.k (.c (.nils))), none, true, []⟩]
def C39r2 : List AOper := [⟨some 2, .mv (.k (.c (.nils))), none, true, []⟩]
def C39r3 : List AOper := [⟨some 5, .bslice 39 6 [.c (.int .i64 0), .c (.int .i64 0), .c (.int .i64 0), .c (.int .i64 0), .c (.int .i64 0), .c (.int .u64 0)] 0 [], none, true, []⟩,
  ⟨some 6, .mv (.t 0), none, true, []⟩,
  ⟨some 7, .app 6 48 39 (.t 5) (.t 6), none, true, []⟩,
  ⟨some 2, .mv (.t 7), none, true, []⟩]
def C39 : ACode :=
  .seq (.region C39r0)
  (.seq (.seq (.region C39r1)
  (.cond (.t 4)
   (.seq (.region C39r2)
   (.ret))
   (.skip)))
  (.seq (.region C39r3)
  (.ret)))
theorem C39_ok : stripF Try.prog Try.f39 = some C39 := by kernel_rfl
/-! slices.Contains[[]bool,bool] -/
def C40r0 : List AOper := [⟨some 4, .mv (.k (.c (.bool false))), none, true, []⟩]
def C40r1 : List AOper := [⟨some 5, .mv (.t 0), none, true, []⟩,
  ⟨some 6, .mv (.t 1), none, true, []⟩,
  ⟨some 7, .call (.k (.c (.fn 58 [] []))) [(.t 5), (.t 6)], none, true, []⟩,
  ⟨some 8, .bin .geq (.t 7) (.k (.c (.int .i64 0))), none, true, []⟩,
  ⟨some 4, .mv (.t 8), none, true, []⟩]
def C40 : ACode :=
  .seq (.region C40r0)
  (.seq (.region C40r1)
  (.ret))
theorem C40_ok : stripF Try.prog Try.f40 = some C40 := by kernel_rfl
/-! understudy/ir.kindOf -/
def C46r0 : List AOper := [⟨some 2, .alloc 79 [.c (.str ⟨#[]⟩), .c (.bool false), .c (.bool false), .c (.bool false), .c (.int .i64 0), .c (.bool false), .c (.bool false), .c (.bool false), .c (.nilfn)], none, true, []⟩,
  ⟨some 3, .mv (.k (.c (.bool false))), none, true, []⟩]
def C46r1 : List AOper := [⟨some 4, .mv (.t 0), none, true, []⟩]
def C46r2 : List AOper := [⟨some 6, .bin .eql (.t 4) (.k (.c (.int .i64 1))), none, true, []⟩,
  ⟨some 5, .mv (.t 6), none, true, []⟩]
def C46r3 : List AOper := [⟨some 7, .build [.c (.str ⟨#[]⟩), .c (.bool false), .c (.bool false), .c (.bool false), .c (.int .i64 0), .c (.bool false), .c (.bool false), .c (.bool false), .c (.nilfn)] [(0, 1, (.k (.c (.str ⟨#[99, 111, 110, 115, 116]⟩)))), (2, 1, (.k (.c (.bool true)))), (5, 1, (.k (.c (.bool true)))), (8, 1, (.k (.c (.fn 66 [] []))))], none, true, []⟩,
  ⟨none, .stn 9 (.t 2) (.t 7), none, true, []⟩,
  ⟨some 3, .mv (.k (.c (.bool true))), none, true, []⟩]
def C46r4 : List AOper := [⟨some 9, .bin .eql (.t 4) (.k (.c (.int .i64 2))), none, true, []⟩,
  ⟨some 8, .mv (.t 9), none, true, []⟩]
def C46r5 : List AOper := [⟨some 10, .call (.k (.c (.fn 67 [] []))) [(.k (.c (.int .i64 30)))], none, true, []⟩,
  ⟨some 11, .build [.c (.str ⟨#[]⟩), .c (.bool false), .c (.bool false), .c (.bool false), .c (.int .i64 0), .c (.bool false), .c (.bool false), .c (.bool false), .c (.nilfn)] [(0, 1, (.k (.c (.str ⟨#[103, 101, 116, 120]⟩)))), (1, 1, (.k (.c (.bool true)))), (5, 1, (.k (.c (.bool true)))), (8, 1, (.t 10))], none, true, []⟩,
  ⟨none, .stn 9 (.t 2) (.t 11), none, true, []⟩,
  ⟨some 3, .mv (.k (.c (.bool true))), none, true, []⟩]
def C46r6 : List AOper := [⟨some 13, .bin .eql (.t 4) (.k (.c (.int .i64 3))), none, true, []⟩,
  ⟨some 12, .mv (.t 13), none, true, []⟩]
def C46r7 : List AOper := [⟨some 14, .call (.k (.c (.fn 67 [] []))) [(.k (.c (.int .i64 30)))], none, true, []⟩,
  ⟨some 15, .build [.c (.str ⟨#[]⟩), .c (.bool false), .c (.bool false), .c (.bool false), .c (.int .i64 0), .c (.bool false), .c (.bool false), .c (.bool false), .c (.nilfn)] [(0, 1, (.k (.c (.str ⟨#[115, 101, 116, 120]⟩)))), (1, 1, (.k (.c (.bool true)))), (4, 1, (.k (.c (.int .i64 1)))), (8, 1, (.t 14))], none, true, []⟩,
  ⟨none, .stn 9 (.t 2) (.t 15), none, true, []⟩,
  ⟨some 3, .mv (.k (.c (.bool true))), none, true, []⟩]
def C46r8 : List AOper := [⟨some 17, .bin .eql (.t 4) (.k (.c (.int .i64 4))), none, true, []⟩,
  ⟨some 16, .mv (.t 17), none, true, []⟩]
def C46r9 : List AOper := [⟨some 18, .build [.c (.str ⟨#[]⟩), .c (.bool false), .c (.bool false), .c (.bool false), .c (.int .i64 0), .c (.bool false), .c (.bool false), .c (.bool false), .c (.nilfn)] [(0, 1, (.k (.c (.str ⟨#[103, 101, 116, 115, 112]⟩)))), (5, 1, (.k (.c (.bool true)))), (8, 1, (.k (.c (.fn 66 [] []))))], none, true, []⟩,
  ⟨none, .stn 9 (.t 2) (.t 18), none, true, []⟩,
  ⟨some 3, .mv (.k (.c (.bool true))), none, true, []⟩]
def C46r10 : List AOper := [⟨some 20, .bin .eql (.t 4) (.k (.c (.int .i64 5))), none, true, []⟩,
  ⟨some 19, .mv (.t 20), none, true, []⟩]
def C46r11 : List AOper := [⟨some 21, .build [.c (.str ⟨#[]⟩), .c (.bool false), .c (.bool false), .c (.bool false), .c (.int .i64 0), .c (.bool false), .c (.bool false), .c (.bool false), .c (.nilfn)] [(0, 1, (.k (.c (.str ⟨#[115, 101, 116, 115, 112]⟩)))), (4, 1, (.k (.c (.int .i64 1)))), (8, 1, (.k (.c (.fn 66 [] []))))], none, true, []⟩,
  ⟨none, .stn 9 (.t 2) (.t 21), none, true, []⟩,
  ⟨some 3, .mv (.k (.c (.bool true))), none, true, []⟩]
def C46r12 : List AOper := [⟨some 23, .bin .eql (.t 4) (.k (.c (.int .i64 6))), none, true, []⟩,
  ⟨some 22, .mv (.t 23), none, true, []⟩]
def C46r13 : List AOper := [⟨some 24, .call (.k (.c (.fn 67 [] []))) [(.k (.c (.int .i64 3)))], none, true, []⟩,
  ⟨some 25, .build [.c (.str ⟨#[]⟩), .c (.bool false), .c (.bool false), .c (.bool false), .c (.int .i64 0), .c (.bool false), .c (.bool false), .c (.bool false), .c (.nilfn)] [(0, 1, (.k (.c (.str ⟨#[103, 101, 116, 102]⟩)))), (1, 1, (.k (.c (.bool true)))), (5, 1, (.k (.c (.bool true)))), (8, 1, (.t 24))], none, true, []⟩,
  ⟨none, .stn 9 (.t 2) (.t 25), none, true, []⟩,
  ⟨some 3, .mv (.k (.c (.bool true))), none, true, []⟩]
def C46r14 : List AOper := [⟨some 27, .bin .eql (.t 4) (.k (.c (.int .i64 7))), none, true, []⟩,
  ⟨some 26, .mv (.t 27), none, true, []⟩]
def C46r15 : List AOper := [⟨some 28, .call (.k (.c (.fn 67 [] []))) [(.k (.c (.int .i64 3)))], none, true, []⟩,
  ⟨some 29, .build [.c (.str ⟨#[]⟩), .c (.bool false), .c (.bool false), .c (.bool false), .c (.int .i64 0), .c (.bool false), .c (.bool false), .c (.bool false), .c (.nilfn)] [(0, 1, (.k (.c (.str ⟨#[115, 101, 116, 102]⟩)))), (1, 1, (.k (.c (.bool true)))), (4, 1, (.k (.c (.int .i64 1)))), (8, 1, (.t 28))], none, true, []⟩,
  ⟨none, .stn 9 (.t 2) (.t 29), none, true, []⟩,
  ⟨some 3, .mv (.k (.c (.bool true))), none, true, []⟩]
def C46r16 : List AOper := [⟨some 31, .bin .eql (.t 4) (.k (.c (.int .i64 8))), none, true, []⟩,
  ⟨some 30, .mv (.t 31), none, true, []⟩]
def C46r17 : List AOper := [⟨some 32, .build [.c (.str ⟨#[]⟩), .c (.bool false), .c (.bool false), .c (.bool false), .c (.int .i64 0), .c (.bool false), .c (.bool false), .c (.bool false), .c (.nilfn)] [(0, 1, (.k (.c (.str ⟨#[97, 108, 117]⟩)))), (1, 1, (.k (.c (.bool true)))), (4, 1, (.k (.c (.int .i64 2)))), (5, 1, (.k (.c (.bool true)))), (8, 1, (.k (.c (.fn 68 [] []))))], none, true, []⟩,
  ⟨none, .stn 9 (.t 2) (.t 32), none, true, []⟩,
  ⟨some 3, .mv (.k (.c (.bool true))), none, true, []⟩]
def C46r18 : List AOper := [⟨some 34, .bin .eql (.t 4) (.k (.c (.int .i64 9))), none, true, []⟩,
  ⟨some 33, .mv (.t 34), none, true, []⟩]
def C46r19 : List AOper := [⟨some 35, .bslice 3 1 [.c (.int .i64 0)] 3 [(0, 1, (.k (.c (.int .i64 0)))), (1, 1, (.k (.c (.int .i64 1)))), (2, 1, (.k (.c (.int .i64 2))))], none, true, []⟩,
  ⟨some 36, .call (.k (.c (.fn 69 [] []))) [(.t 35)], none, true, []⟩,
  ⟨some 37, .build [.c (.str ⟨#[]⟩), .c (.bool false), .c (.bool false), .c (.bool false), .c (.int .i64 0), .c (.bool false), .c (.bool false), .c (.bool false), .c (.nilfn)] [(0, 1, (.k (.c (.str ⟨#[108, 111, 97, 100]⟩)))), (3, 1, (.k (.c (.bool true)))), (4, 1, (.k (.c (.int .i64 1)))), (5, 1, (.k (.c (.bool true)))), (7, 1, (.k (.c (.bool true)))), (8, 1, (.t 36))], none, true, []⟩,
  ⟨none, .stn 9 (.t 2) (.t 37), none, true, []⟩,
  ⟨some 3, .mv (.k (.c (.bool true))), none, true, []⟩]
def C46r20 : List AOper := [⟨some 39, .bin .eql (.t 4) (.k (.c (.int .i64 10))), none, true, []⟩,
  ⟨some 38, .mv (.t 39), none, true, []⟩]
def C46r21 : List AOper := [⟨some 40, .bslice 3 1 [.c (.int .i64 0)] 2 [(0, 1, (.k (.c (.int .i64 0)))), (1, 1, (.k (.c (.int .i64 4))))], none, true, []⟩,
  ⟨some 41, .call (.k (.c (.fn 69 [] []))) [(.t 40)], none, true, []⟩,
  ⟨some 42, .build [.c (.str ⟨#[]⟩), .c (.bool false), .c (.bool false), .c (.bool false), .c (.int .i64 0), .c (.bool false), .c (.bool false), .c (.bool false), .c (.nilfn)] [(0, 1, (.k (.c (.str ⟨#[115, 116, 111, 114, 101]⟩)))), (3, 1, (.k (.c (.bool true)))), (4, 1, (.k (.c (.int .i64 2)))), (7, 1, (.k (.c (.bool true)))), (8, 1, (.t 41))], none, true, []⟩,
  ⟨none, .stn 9 (.t 2) (.t 42), none, true, []⟩,
  ⟨some 3, .mv (.k (.c (.bool true))), none, true, []⟩]
def C46r22 : List AOper := [⟨some 44, .bin .eql (.t 4) (.k (.c (.int .i64 11))), none, true, []⟩,
  ⟨some 43, .mv (.t 44), none, true, []⟩]
def C46r23 : List AOper := [⟨some 45, .bslice 3 1 [.c (.int .i64 0)] 2 [(0, 1, (.k (.c (.int .i64 0)))), (1, 1, (.k (.c (.int .i64 2))))], none, true, []⟩,
  ⟨some 46, .call (.k (.c (.fn 69 [] []))) [(.t 45)], none, true, []⟩,
  ⟨some 47, .build [.c (.str ⟨#[]⟩), .c (.bool false), .c (.bool false), .c (.bool false), .c (.int .i64 0), .c (.bool false), .c (.bool false), .c (.bool false), .c (.nilfn)] [(0, 1, (.k (.c (.str ⟨#[108, 111, 97, 100, 101, 120]⟩)))), (3, 1, (.k (.c (.bool true)))), (4, 1, (.k (.c (.int .i64 1)))), (5, 1, (.k (.c (.bool true)))), (7, 1, (.k (.c (.bool true)))), (8, 1, (.t 46))], none, true, []⟩,
  ⟨none, .stn 9 (.t 2) (.t 47), none, true, []⟩,
  ⟨some 3, .mv (.k (.c (.bool true))), none, true, []⟩]
def C46r24 : List AOper := [⟨some 49, .bin .eql (.t 4) (.k (.c (.int .i64 12))), none, true, []⟩,
  ⟨some 48, .mv (.t 49), none, true, []⟩]
def C46r25 : List AOper := [⟨some 50, .bslice 3 1 [.c (.int .i64 0)] 2 [(0, 1, (.k (.c (.int .i64 0)))), (1, 1, (.k (.c (.int .i64 4))))], none, true, []⟩,
  ⟨some 51, .call (.k (.c (.fn 69 [] []))) [(.t 50)], none, true, []⟩,
  ⟨some 52, .build [.c (.str ⟨#[]⟩), .c (.bool false), .c (.bool false), .c (.bool false), .c (.int .i64 0), .c (.bool false), .c (.bool false), .c (.bool false), .c (.nilfn)] [(0, 1, (.k (.c (.str ⟨#[115, 116, 111, 114, 101, 101, 120]⟩)))), (3, 1, (.k (.c (.bool true)))), (4, 1, (.k (.c (.int .i64 2)))), (5, 1, (.k (.c (.bool true)))), (7, 1, (.k (.c (.bool true)))), (8, 1, (.t 51))], none, true, []⟩,
  ⟨none, .stn 9 (.t 2) (.t 52), none, true, []⟩,
  ⟨some 3, .mv (.k (.c (.bool true))), none, true, []⟩]
def C46r26 : List AOper := [⟨some 54, .bin .eql (.t 4) (.k (.c (.int .i64 13))), none, true, []⟩,
  ⟨some 53, .mv (.t 54), none, true, []⟩]
def C46r27 : List AOper := [⟨some 55, .build [.c (.str ⟨#[]⟩), .c (.bool false), .c (.bool false), .c (.bool false), .c (.int .i64 0), .c (.bool false), .c (.bool false), .c (.bool false), .c (.nilfn)] [(0, 1, (.k (.c (.str ⟨#[102, 101, 110, 99, 101]⟩)))), (1, 1, (.k (.c (.bool true)))), (8, 1, (.k (.c (.fn 70 [] []))))], none, true, []⟩,
  ⟨none, .stn 9 (.t 2) (.t 55), none, true, []⟩,
  ⟨some 3, .mv (.k (.c (.bool true))), none, true, []⟩]
def C46r28 : List AOper := [⟨some 57, .bin .eql (.t 4) (.k (.c (.int .i64 14))), none, true, []⟩,
  ⟨some 56, .mv (.t 57), none, true, []⟩]
def C46r29 : List AOper := [⟨some 58, .build [.c (.str ⟨#[]⟩), .c (.bool false), .c (.bool false), .c (.bool false), .c (.int .i64 0), .c (.bool false), .c (.bool false), .c (.bool false), .c (.nilfn)] [(0, 1, (.k (.c (.str ⟨#[97, 116]⟩)))), (2, 1, (.k (.c (.bool true)))), (8, 1, (.k (.c (.fn 71 [] []))))], none, true, []⟩,
  ⟨none, .stn 9 (.t 2) (.t 58), none, true, []⟩,
  ⟨some 3, .mv (.k (.c (.bool true))), none, true, []⟩]
def C46r30 : List AOper := [⟨some 60, .bin .eql (.t 4) (.k (.c (.int .i64 15))), none, true, []⟩,
  ⟨some 59, .mv (.t 60), none, true, []⟩]
def C46r31 : List AOper := [⟨some 61, .build [.c (.str ⟨#[]⟩), .c (.bool false), .c (.bool false), .c (.bool false), .c (.int .i64 0), .c (.bool false), .c (.bool false), .c (.bool false), .c (.nilfn)] [(0, 1, (.k (.c (.str ⟨#[101, 120, 105, 116, 105, 102]⟩)))), (2, 1, (.k (.c (.bool true)))), (4, 1, (.k (.c (.int .i64 1)))), (8, 1, (.k (.c (.fn 66 [] []))))], none, true, []⟩,
  ⟨none, .stn 9 (.t 2) (.t 61), none, true, []⟩,
  ⟨some 3, .mv (.k (.c (.bool true))), none, true, []⟩]
def C46r32 : List AOper := [⟨some 63, .bin .eql (.t 4) (.k (.c (.int .i64 16))), none, true, []⟩,
  ⟨some 62, .mv (.t 63), none, true, []⟩]
def C46r33 : List AOper := [⟨some 64, .build [.c (.str ⟨#[]⟩), .c (.bool false), .c (.bool false), .c (.bool false), .c (.int .i64 0), .c (.bool false), .c (.bool false), .c (.bool false), .c (.nilfn)] [(0, 1, (.k (.c (.str ⟨#[101, 120, 105, 116]⟩)))), (2, 1, (.k (.c (.bool true)))), (6, 1, (.k (.c (.bool true)))), (8, 1, (.k (.c (.fn 66 [] []))))], none, true, []⟩,
  ⟨none, .stn 9 (.t 2) (.t 64), none, true, []⟩,
  ⟨some 3, .mv (.k (.c (.bool true))), none, true, []⟩]
def C46r34 : List AOper := [⟨some 66, .bin .eql (.t 4) (.k (.c (.int .i64 17))), none, true, []⟩,
  ⟨some 65, .mv (.t 66), none, true, []⟩]
def C46r35 : List AOper := [⟨some 67, .build [.c (.str ⟨#[]⟩), .c (.bool false), .c (.bool false), .c (.bool false), .c (.int .i64 0), .c (.bool false), .c (.bool false), .c (.bool false), .c (.nilfn)] [(0, 1, (.k (.c (.str ⟨#[101, 120, 105, 116, 116, 111]⟩)))), (4, 1, (.k (.c (.int .i64 1)))), (6, 1, (.k (.c (.bool true)))), (8, 1, (.k (.c (.fn 66 [] []))))], none, true, []⟩,
  ⟨none, .stn 9 (.t 2) (.t 67), none, true, []⟩,
  ⟨some 3, .mv (.k (.c (.bool true))), none, true, []⟩]
def C46r36 : List AOper := [⟨some 69, .bin .eql (.t 4) (.k (.c (.int .i64 18))), none, true, []⟩,
  ⟨some 68, .mv (.t 69), none, true, []⟩]
def C46r37 : List AOper := [⟨some 70, .build [.c (.str ⟨#[]⟩), .c (.bool false), .c (.bool false), .c (.bool false), .c (.int .i64 0), .c (.bool false), .c (.bool false), .c (.bool false), .c (.nilfn)] [(0, 1, (.k (.c (.str ⟨#[103, 117, 101, 115, 116]⟩)))), (2, 1, (.k (.c (.bool true)))), (6, 1, (.k (.c (.bool true)))), (8, 1, (.k (.c (.fn 72 [] []))))], none, true, []⟩,
  ⟨none, .stn 9 (.t 2) (.t 70), none, true, []⟩,
  ⟨some 3, .mv (.k (.c (.bool true))), none, true, []⟩]
def C46r38 : List AOper := [⟨some 71, .build [.c (.str ⟨#[]⟩), .c (.bool false), .c (.bool false), .c (.bool false), .c (.int .i64 0), .c (.bool false), .c (.bool false), .c (.bool false), .c (.nilfn)] [], none, true, []⟩,
  ⟨none, .stn 9 (.t 2) (.t 71), none, true, []⟩,
  ⟨some 3, .mv (.k (.c (.bool false))), none, true, []⟩]
def C46 : ACode :=
  .seq (.region C46r0)
  (.seq (.seq (.region C46r1)
  (.block 0
   (.seq (.region C46r2)
   (.cond (.t 5)
    (.seq (.region C46r3)
    (.ret))
    (.seq (.region C46r4)
    (.cond (.t 8)
     (.seq (.region C46r5)
     (.ret))
     (.seq (.region C46r6)
     (.cond (.t 12)
      (.seq (.region C46r7)
      (.ret))
      (.seq (.region C46r8)
      (.cond (.t 16)
       (.seq (.region C46r9)
       (.ret))
       (.seq (.region C46r10)
       (.cond (.t 19)
        (.seq (.region C46r11)
        (.ret))
        (.seq (.region C46r12)
        (.cond (.t 22)
         (.seq (.region C46r13)
         (.ret))
         (.seq (.region C46r14)
         (.cond (.t 26)
          (.seq (.region C46r15)
          (.ret))
          (.seq (.region C46r16)
          (.cond (.t 30)
           (.seq (.region C46r17)
           (.ret))
           (.seq (.region C46r18)
           (.cond (.t 33)
            (.seq (.region C46r19)
            (.ret))
            (.seq (.region C46r20)
            (.cond (.t 38)
             (.seq (.region C46r21)
             (.ret))
             (.seq (.region C46r22)
             (.cond (.t 43)
              (.seq (.region C46r23)
              (.ret))
              (.seq (.region C46r24)
              (.cond (.t 48)
               (.seq (.region C46r25)
               (.ret))
               (.seq (.region C46r26)
               (.cond (.t 53)
                (.seq (.region C46r27)
                (.ret))
                (.seq (.region C46r28)
                (.cond (.t 56)
                 (.seq (.region C46r29)
                 (.ret))
                 (.seq (.region C46r30)
                 (.cond (.t 59)
                  (.seq (.region C46r31)
                  (.ret))
                  (.seq (.region C46r32)
                  (.cond (.t 62)
                   (.seq (.region C46r33)
                   (.ret))
                   (.seq (.region C46r34)
                   (.cond (.t 65)
                    (.seq (.region C46r35)
                    (.ret))
                    (.seq (.region C46r36)
                    (.cond (.t 68)
                     (.seq (.region C46r37)
                     (.ret))
                     (.skip)))))))))))))))))))))))))))))))))))))))
  (.seq (.region C46r38)
  (.ret)))
theorem C46_ok : stripF Try.prog Try.f46 = some C46 := by kernel_rfl
/-! understudy/ir.rightOp -/
def C54r0 : List AOper := [⟨some 2, .box 39 (.t 0), none, true, []⟩,
  ⟨some 4, .mv (.k (.c (.bool false))), none, true, []⟩]
def C54r1 : List AOper := [⟨some 10, .faddr (.t 2) 0, none, true, []⟩,
  ⟨some 11, .ld1 (.t 10), none, true, []⟩,
  ⟨some 12, .call (.k (.c (.fn 46 [] []))) [(.t 11)], none, true, []⟩,
  ⟨some 9, .mv (.t 12), none, true, []⟩,
  ⟨some 13, .ext (.t 9) 0, none, true, []⟩,
  ⟨some 14, .ext (.t 9) 1, none, true, []⟩,
  ⟨some 5, .alloc 79 [.c (.str ⟨#[]⟩), .c (.bool false), .c (.bool false), .c (.bool false), .c (.int .i64 0), .c (.bool false), .c (.bool false), .c (.bool false), .c (.nilfn)], none, true, []⟩,
  ⟨none, .stn 9 (.t 5) (.t 13), none, true, []⟩,
  ⟨some 6, .mv (.t 14), none, true, []⟩]
def C54r2 : List AOper := [⟨some 15, .mv (.t 6), none, true, []⟩,
  ⟨some 16, .un .not (.t 15), none, true, []⟩,
  ⟨some 17, .mv (.t 16), none, true, []⟩,
  ⟨some 18, .faddr (.t 5) 8, some (17, false), true, []⟩,
  ⟨some 19, .ld1 (.t 18), some (17, false), true, []⟩,
  ⟨some 20, .ldn 6 (.t 2), some (17, false), true, []⟩,
  ⟨some 21, .call (.t 19) [(.t 20)], some (17, false), true, []⟩,
  ⟨some 22, .un .not (.t 21), some (17, false), true, []⟩,
  ⟨some 23, .pick 17 (.k (.c (.bool true))) (.t 22), none, true, []⟩,
  ⟨some 24, .mv (.t 23), none, true, []⟩,
  ⟨some 25, .faddr (.t 5) 1, some (24, false), true, []⟩,
  ⟨some 26, .ld1 (.t 25), some (24, false), true, []⟩,
  ⟨some 27, .un .not (.t 26), some (24, false), true, []⟩,
  ⟨some 28, .mv (.t 27), some (24, false), true, []⟩,
  ⟨some 29, .faddr (.t 2) 1, some (28, true), true, []⟩,
  ⟨some 30, .ld1 (.t 29), some (28, true), true, []⟩,
  ⟨some 31, .bin .neq (.t 30) (.k (.c (.int .i64 0))), some (28, true), true, []⟩,
  ⟨some 32, .pick 28 (.t 31) (.k (.c (.bool false))), some (24, false), true, []⟩,
  ⟨some 33, .pick 24 (.k (.c (.bool true))) (.t 32), none, true, []⟩,
  ⟨some 34, .mv (.t 33), none, true, []⟩,
  ⟨some 35, .faddr (.t 5) 2, some (34, false), true, []⟩,
  ⟨some 36, .ld1 (.t 35), some (34, false), true, []⟩,
  ⟨some 37, .un .not (.t 36), some (34, false), true, []⟩,
  ⟨some 38, .mv (.t 37), some (34, false), true, []⟩,
  ⟨some 39, .faddr (.t 2) 5, some (38, true), true, []⟩,
  ⟨some 40, .ld1 (.t 39), some (38, true), true, []⟩,
  ⟨some 41, .bin .neq (.t 40) (.k (.c (.int .u64 0))), some (38, true), true, []⟩,
  ⟨some 42, .pick 38 (.t 41) (.k (.c (.bool false))), some (34, false), true, []⟩,
  ⟨some 43, .pick 34 (.k (.c (.bool true))) (.t 42), none, true, []⟩,
  ⟨some 44, .mv (.t 43), none, true, []⟩,
  ⟨some 45, .faddr (.t 5) 3, some (44, false), true, []⟩,
  ⟨some 46, .ld1 (.t 45), some (44, false), true, []⟩,
  ⟨some 47, .un .not (.t 46), some (44, false), true, []⟩,
  ⟨some 48, .mv (.t 47), some (44, false), true, []⟩,
  ⟨some 49, .faddr (.t 2) 4, some (48, true), true, []⟩,
  ⟨some 50, .ld1 (.t 49), some (48, true), true, []⟩,
  ⟨some 51, .bin .neq (.t 50) (.k (.c (.int .i64 0))), some (48, true), true, []⟩,
  ⟨some 52, .pick 48 (.t 51) (.k (.c (.bool false))), some (44, false), true, []⟩,
  ⟨some 53, .pick 44 (.k (.c (.bool true))) (.t 52), none, true, []⟩,
  ⟨some 54, .mv (.t 53), none, true, []⟩,
  ⟨some 55, .faddr (.t 5) 4, some (54, false), true, []⟩,
  ⟨some 56, .ld1 (.t 55), some (54, false), true, []⟩,
  ⟨some 57, .bin .lss (.t 56) (.k (.c (.int .i64 1))), some (54, false), true, []⟩,
  ⟨some 58, .mv (.t 57), some (54, false), true, []⟩,
  ⟨some 59, .faddr (.t 2) 2, some (58, true), true, []⟩,
  ⟨some 60, .ld1 (.t 59), some (58, true), true, []⟩,
  ⟨some 61, .bin .neq (.t 60) (.k (.c (.int .i64 0))), some (58, true), true, []⟩,
  ⟨some 62, .pick 58 (.t 61) (.k (.c (.bool false))), some (54, false), true, []⟩,
  ⟨some 63, .pick 54 (.k (.c (.bool true))) (.t 62), none, true, []⟩,
  ⟨some 64, .mv (.t 63), none, true, []⟩,
  ⟨some 65, .faddr (.t 5) 4, some (64, false), true, []⟩,
  ⟨some 66, .ld1 (.t 65), some (64, false), true, []⟩,
  ⟨some 67, .bin .lss (.t 66) (.k (.c (.int .i64 2))), some (64, false), true, []⟩,
  ⟨some 68, .mv (.t 67), some (64, false), true, []⟩,
  ⟨some 69, .faddr (.t 2) 3, some (68, true), true, []⟩,
  ⟨some 70, .ld1 (.t 69), some (68, true), true, []⟩,
  ⟨some 71, .bin .neq (.t 70) (.k (.c (.int .i64 0))), some (68, true), true, []⟩,
  ⟨some 72, .pick 68 (.t 71) (.k (.c (.bool false))), some (64, false), true, []⟩,
  ⟨some 73, .pick 64 (.k (.c (.bool true))) (.t 72), none, true, []⟩]
def C54r3 : List AOper := [⟨some 4, .mv (.k (.c (.bool false))), none, true, []⟩]
def C54r4 : List AOper := [⟨some 74, .ldn 6 (.t 2), none, true, []⟩,
  ⟨some 75, .call (.k (.c (.fn 21 [] []))) [(.t 74)], none, true, []⟩,
  ⟨some 76, .len false (.t 75), none, true, []⟩,
  ⟨some 77, .mv (.k (.c (.int .i64 0))), none, true, []⟩]
def C54r5 : List AOper := [⟨some 78, .bin .lss (.t 77) (.t 76), none, true, []⟩]
def C54r6 : List AOper := [⟨some 79, .iaddr 1 (.t 75) (.t 77), none, true, []⟩,
  ⟨some 80, .ld1 (.t 79), none, true, []⟩,
  ⟨some 8, .mv (.t 80), none, true, []⟩]
def C54r7 : List AOper := [⟨some 81, .mv (.t 8), none, true, []⟩,
  ⟨some 82, .bin .lss (.t 81) (.k (.c (.int .i64 0))), none, true, []⟩,
  ⟨some 83, .mv (.t 82), none, true, []⟩,
  ⟨some 84, .mv (.t 8), some (83, false), true, []⟩,
  ⟨some 85, .mv (.t 1), some (83, false), true, []⟩,
  ⟨some 86, .len false (.t 85), some (83, false), true, []⟩,
  ⟨some 87, .bin .geq (.t 84) (.t 86), some (83, false), true, []⟩,
  ⟨some 88, .pick 83 (.k (.c (.bool true))) (.t 87), none, true, []⟩,
  ⟨some 89, .mv (.t 88), none, true, []⟩,
  ⟨some 90, .mv (.t 1), some (89, false), true, []⟩,
  ⟨some 91, .mv (.t 8), some (89, false), true, []⟩,
  ⟨some 92, .iaddr 6 (.t 90) (.t 91), some (89, false), true, []⟩,
  ⟨some 93, .ldn 6 (.t 92), some (89, false), true, []⟩,
  ⟨some 94, .call (.k (.c (.fn 57 [] []))) [(.t 93)], some (89, false), true, []⟩,
  ⟨some 95, .un .not (.t 94), some (89, false), true, []⟩,
  ⟨some 96, .pick 89 (.k (.c (.bool true))) (.t 95), none, true, []⟩]
def C54r8 : List AOper := [⟨some 4, .mv (.k (.c (.bool false))), none, true, []⟩]
def C54r9 : List AOper := [⟨some 97, .bin .add (.t 77) (.k (.c (.int .i64 1))), none, true, []⟩,
  ⟨some 77, .mv (.t 97), none, true, []⟩]
def C54r10 : List AOper := [⟨some 4, .mv (.k (.c (.bool true))), none, true, []⟩]
def C54 : ACode :=
  .seq (.region C54r0)
  (.seq (.region C54r1)
  (.seq (.seq (.region C54r2)
  (.cond (.t 73)
   (.seq (.region C54r3)
   (.ret))
   (.skip)))
  (.seq (.seq (.region C54r4)
  (.block 0
   (.loop
    (.seq (.region C54r5)
    (.seq (.cond (.t 78)
     (.skip)
     (.exit 0))
    (.seq (.block 1
     (.seq (.region C54r6)
     (.seq (.region C54r7)
     (.cond (.t 96)
      (.seq (.region C54r8)
      (.ret))
      (.skip)))))
    (.region C54r9)))))))
  (.seq (.region C54r10)
  (.ret)))))
theorem C54_ok : stripF Try.prog Try.f54 = some C54 := by kernel_rfl
/-! slices.Backward[[]understudy/api.Op,understudy/api.Op] -/
def C55r0 : List AOper := [⟨some 1, .box 23 (.t 0), none, true, []⟩,
  ⟨some 2, .mv (.k (.c (.nilfn))), none, true, []⟩]
def C55r1 : List AOper := [⟨some 3, .mkfn 92 [] [(.t 1)], none, true, []⟩,
  ⟨some 2, .mv (.t 3), none, true, []⟩]
def C55 : ACode :=
  .seq (.region C55r0)
  (.seq (.region C55r1)
  (.ret))
theorem C55_ok : stripF Try.prog Try.f55 = some C55 := by kernel_rfl
/-! understudy/dead.hidden -/
def C56r0 : List AOper := [⟨some 2, .mv (.k (.c (.bool false))), none, true, []⟩]
def C56r1 : List AOper := [⟨some 7, .mv (.t 0), none, true, []⟩,
  ⟨some 8, .slc 6 (.t 7) (some (.k (.c (.int .i64 1)))) none, none, true, []⟩,
  ⟨some 9, .len false (.t 8), none, true, []⟩,
  ⟨some 10, .mv (.k (.c (.int .i64 0))), none, true, []⟩]
def C56r2 : List AOper := [⟨some 11, .bin .lss (.t 10) (.t 9), none, true, []⟩]
def C56r3 : List AOper := [⟨some 12, .iaddr 6 (.t 8) (.t 10), none, true, []⟩,
  ⟨some 13, .ldn 6 (.t 12), none, true, []⟩,
  ⟨some 4, .alloc 39 [.c (.int .i64 0), .c (.int .i64 0), .c (.int .i64 0), .c (.int .i64 0), .c (.int .i64 0), .c (.int .u64 0)], none, true, []⟩,
  ⟨none, .stn 6 (.t 4) (.t 13), none, true, []⟩]
def C56r4 : List AOper := [⟨some 15, .mv (.t 0), none, false, []⟩,
  ⟨some 16, .iaddr 6 (.t 15) (.k (.c (.int .i64 0))), none, false, []⟩,
  ⟨some 17, .ldn 6 (.t 16), none, false, []⟩,
  ⟨some 18, .ldn 6 (.t 4), none, false, []⟩,
  ⟨some 19, .call (.k (.c (.fn 93 [] []))) [(.t 17), (.t 18)], none, true, []⟩,
  ⟨some 14, .mv (.t 19), none, true, []⟩,
  ⟨some 20, .ext (.t 14) 0, none, false, []⟩,
  ⟨some 21, .ext (.t 14) 1, none, false, []⟩,
  ⟨some 5, .mv (.t 20), none, false, []⟩,
  ⟨some 6, .mv (.t 21), none, true, []⟩]
def C56r5 : List AOper := [⟨some 23, .mv (.t 6), none, true, []⟩,
  ⟨some 24, .mv (.t 23), none, true, []⟩,
  ⟨some 25, .ldn 6 (.t 4), some (24, false), true, []⟩,
  ⟨some 26, .call (.k (.c (.fn 22 [] []))) [(.t 25)], some (24, false), true, []⟩,
  ⟨some 27, .pick 24 (.k (.c (.bool true))) (.t 26), none, true, []⟩,
  ⟨some 22, .mv (.t 27), none, true, []⟩]
def C56r6 : List AOper := [⟨some 2, .mv (.k (.c (.bool false))), none, true, []⟩]
def C56r7 : List AOper := [⟨some 29, .mv (.t 5), none, true, []⟩,
  ⟨some 28, .mv (.t 29), none, true, []⟩]
def C56r8 : List AOper := [⟨some 2, .mv (.k (.c (.bool true))), none, true, []⟩]
def C56r9 : List AOper := [⟨some 30, .bin .add (.t 10) (.k (.c (.int .i64 1))), none, true, []⟩,
  ⟨some 10, .mv (.t 30), none, true, []⟩]
def C56r10 : List AOper := [⟨some 2, .mv (.k (.c (.bool false))), none, true, []⟩]
def C56 : ACode :=
  .seq (.region C56r0)
  (.seq (.seq (.region C56r1)
  (.block 0
   (.loop
    (.seq (.region C56r2)
    (.seq (.cond (.t 11)
     (.skip)
     (.exit 0))
    (.seq (.block 1
     (.seq (.region C56r3)
     (.seq (.region C56r4)
     (.block 2
      (.seq (.region C56r5)
      (.cond (.t 22)
       (.seq (.region C56r6)
       (.ret))
       (.seq (.region C56r7)
       (.cond (.t 28)
        (.seq (.region C56r8)
        (.ret))
        (.skip)))))))))
    (.region C56r9)))))))
  (.seq (.region C56r10)
  (.ret)))
theorem C56_ok : stripF Try.prog Try.f56 = some C56 := by kernel_rfl
/-! understudy/ir.Defines -/
def C57r0 : List AOper := [⟨some 1, .box 39 (.t 0), none, true, []⟩,
  ⟨some 2, .mv (.k (.c (.bool false))), none, true, []⟩]
def C57r1 : List AOper := [⟨some 6, .faddr (.t 1) 0, none, true, []⟩,
  ⟨some 7, .ld1 (.t 6), none, true, []⟩,
  ⟨some 8, .call (.k (.c (.fn 46 [] []))) [(.t 7)], none, true, []⟩,
  ⟨some 5, .mv (.t 8), none, true, []⟩,
  ⟨some 9, .ext (.t 5) 0, none, true, []⟩,
  ⟨some 10, .ext (.t 5) 1, none, true, []⟩,
  ⟨some 3, .alloc 79 [.c (.str ⟨#[]⟩), .c (.bool false), .c (.bool false), .c (.bool false), .c (.int .i64 0), .c (.bool false), .c (.bool false), .c (.bool false), .c (.nilfn)], none, true, []⟩,
  ⟨none, .stn 9 (.t 3) (.t 9), none, true, []⟩,
  ⟨some 4, .mv (.t 10), none, true, []⟩]
def C57r2 : List AOper := [⟨some 11, .faddr (.t 3) 5, none, true, []⟩,
  ⟨some 12, .ld1 (.t 11), none, true, []⟩,
  ⟨some 2, .mv (.t 12), none, true, []⟩]
def C57 : ACode :=
  .seq (.region C57r0)
  (.seq (.region C57r1)
  (.seq (.region C57r2)
  (.ret)))
theorem C57_ok : stripF Try.prog Try.f57 = some C57 := by kernel_rfl
/-! slices.Index[[]bool,bool] -/
def C58r0 : List AOper := [⟨some 4, .mv (.k (.c (.int .i64 0))), none, true, []⟩]
def C58r1 : List AOper := [⟨some 6, .mv (.t 0), none, true, []⟩,
  ⟨some 7, .len false (.t 6), none, true, []⟩,
  ⟨some 8, .mv (.k (.c (.int .i64 0))), none, true, []⟩]
def C58r2 : List AOper := [⟨some 9, .bin .lss (.t 8) (.t 7), none, true, []⟩]
def C58r3 : List AOper := [⟨some 10, .mv (.t 8), none, true, []⟩,
  ⟨some 5, .mv (.t 10), none, true, []⟩]
def C58r4 : List AOper := [⟨some 11, .mv (.t 1), none, true, []⟩,
  ⟨some 12, .mv (.t 0), none, true, []⟩,
  ⟨some 13, .mv (.t 5), none, true, []⟩,
  ⟨some 14, .iaddr 1 (.t 12) (.t 13), none, true, []⟩,
  ⟨some 15, .ld1 (.t 14), none, true, []⟩,
  ⟨some 16, .eqB false (.t 11) (.t 15), none, true, []⟩]
def C58r5 : List AOper := [⟨some 17, .mv (.t 5), none, true, []⟩,
  ⟨some 4, .mv (.t 17), none, true, []⟩]
def C58r6 : List AOper := [⟨some 18, .bin .add (.t 8) (.k (.c (.int .i64 1))), none, true, []⟩,
  ⟨some 8, .mv (.t 18), none, true, []⟩]
def C58r7 : List AOper := [⟨some 4, .mv (.k (.c (.int .i64 (-1)))), none, true, []⟩]
def C58 : ACode :=
  .seq (.region C58r0)
  (.seq (.seq (.region C58r1)
  (.block 0
   (.loop
    (.seq (.region C58r2)
    (.seq (.cond (.t 9)
     (.skip)
     (.exit 0))
    (.seq (.block 1
     (.seq (.region C58r3)
     (.seq (.region C58r4)
     (.cond (.t 16)
      (.seq (.region C58r5)
      (.ret))
      (.skip)))))
    (.region C58r6)))))))
  (.seq (.region C58r7)
  (.ret)))
theorem C58_ok : stripF Try.prog Try.f58 = some C58 := by kernel_rfl
/-! understudy/ir.any -/
def C66r0 : List AOper := [⟨some 1, .box 39 (.t 0), none, true, []⟩,
  ⟨some 2, .mv (.k (.c (.bool false))), none, true, []⟩]
def C66r1 : List AOper := [⟨some 2, .mv (.k (.c (.bool true))), none, true, []⟩]
def C66 : ACode :=
  .seq (.region C66r0)
  (.seq (.region C66r1)
  (.ret))
theorem C66_ok : stripF Try.prog Try.f66 = some C66 := by kernel_rfl
/-! understudy/ir.upTo -/
def C67r0 : List AOper := [⟨some 1, .box 3 (.t 0), none, true, []⟩,
  ⟨some 2, .mv (.k (.c (.nilfn))), none, true, []⟩]
def C67r1 : List AOper := [⟨some 3, .mkfn 98 [] [(.t 1)], none, true, []⟩,
  ⟨some 2, .mv (.t 3), none, true, []⟩]
def C67 : ACode :=
  .seq (.region C67r0)
  (.seq (.region C67r1)
  (.ret))
theorem C67_ok : stripF Try.prog Try.f67 = some C67 := by kernel_rfl
/-! understudy/ir.kindOf$1 -/
def C68r0 : List AOper := [⟨some 1, .box 39 (.t 0), none, true, []⟩,
  ⟨some 2, .mv (.k (.c (.bool false))), none, true, []⟩]
def C68r1 : List AOper := [⟨some 3, .faddr (.t 1) 1, none, true, []⟩,
  ⟨some 4, .ld1 (.t 3), none, true, []⟩,
  ⟨some 5, .bin .geq (.t 4) (.k (.c (.int .i64 1))), none, true, []⟩,
  ⟨some 6, .mv (.t 5), none, true, []⟩,
  ⟨some 7, .faddr (.t 1) 1, some (6, true), true, []⟩,
  ⟨some 8, .ld1 (.t 7), some (6, true), true, []⟩,
  ⟨some 9, .bin .leq (.t 8) (.k (.c (.int .i64 15))), some (6, true), true, []⟩,
  ⟨some 10, .pick 6 (.t 9) (.k (.c (.bool false))), none, true, []⟩,
  ⟨some 2, .mv (.t 10), none, true, []⟩]
def C68 : ACode :=
  .seq (.region C68r0)
  (.seq (.region C68r1)
  (.ret))
theorem C68_ok : stripF Try.prog Try.f68 = some C68 := by kernel_rfl
/-! understudy/ir.ordered -/
def C69r0 : List AOper := [⟨some 1, .box 59 (.t 0), none, true, []⟩,
  ⟨some 2, .mv (.k (.c (.nilfn))), none, true, []⟩]
def C69r1 : List AOper := [⟨some 3, .mkfn 99 [] [(.t 1)], none, true, []⟩,
  ⟨some 2, .mv (.t 3), none, true, []⟩]
def C69 : ACode :=
  .seq (.region C69r0)
  (.seq (.region C69r1)
  (.ret))
theorem C69_ok : stripF Try.prog Try.f69 = some C69 := by kernel_rfl
/-! understudy/ir.kindOf$2 -/
def C70r0 : List AOper := [⟨some 1, .box 39 (.t 0), none, true, []⟩,
  ⟨some 2, .mv (.k (.c (.bool false))), none, true, []⟩]
def C70r1 : List AOper := [⟨some 3, .faddr (.t 1) 1, none, true, []⟩,
  ⟨some 4, .ld1 (.t 3), none, true, []⟩,
  ⟨some 5, .bin .eql (.t 4) (.k (.c (.int .i64 13))), none, true, []⟩,
  ⟨some 6, .mv (.t 5), none, true, []⟩,
  ⟨some 7, .faddr (.t 1) 1, some (6, false), true, []⟩,
  ⟨some 8, .ld1 (.t 7), some (6, false), true, []⟩,
  ⟨some 9, .bin .eql (.t 8) (.k (.c (.int .i64 10))), some (6, false), true, []⟩,
  ⟨some 10, .pick 6 (.k (.c (.bool true))) (.t 9), none, true, []⟩,
  ⟨some 11, .mv (.t 10), none, true, []⟩,
  ⟨some 12, .faddr (.t 1) 1, some (11, false), true, []⟩,
  ⟨some 13, .ld1 (.t 12), some (11, false), true, []⟩,
  ⟨some 14, .bin .eql (.t 13) (.k (.c (.int .i64 15))), some (11, false), true, []⟩,
  ⟨some 15, .pick 11 (.k (.c (.bool true))) (.t 14), none, true, []⟩,
  ⟨some 2, .mv (.t 15), none, true, []⟩]
def C70 : ACode :=
  .seq (.region C70r0)
  (.seq (.region C70r1)
  (.ret))
theorem C70_ok : stripF Try.prog Try.f70 = some C70 := by kernel_rfl
/-! understudy/ir.kindOf$3 -/
def C71r0 : List AOper := [⟨some 1, .box 39 (.t 0), none, true, []⟩,
  ⟨some 2, .mv (.k (.c (.bool false))), none, true, []⟩]
def C71r1 : List AOper := [⟨some 3, .faddr (.t 1) 5, none, true, []⟩,
  ⟨some 4, .ld1 (.t 3), none, true, []⟩,
  ⟨some 5, .bin .and (.t 4) (.k (.c (.int .u64 3))), none, true, []⟩,
  ⟨some 6, .bin .eql (.t 5) (.k (.c (.int .u64 0))), none, true, []⟩,
  ⟨some 2, .mv (.t 6), none, true, []⟩]
def C71 : ACode :=
  .seq (.region C71r0)
  (.seq (.region C71r1)
  (.ret))
theorem C71_ok : stripF Try.prog Try.f71 = some C71 := by kernel_rfl
/-! understudy/ir.kindOf$4 -/
def C72r0 : List AOper := [⟨some 1, .box 39 (.t 0), none, true, []⟩,
  ⟨some 2, .mv (.k (.c (.bool false))), none, true, []⟩]
def C72r1 : List AOper := [⟨some 3, .faddr (.t 1) 5, none, true, []⟩,
  ⟨some 4, .ld1 (.t 3), none, true, []⟩,
  ⟨some 5, .bin .shr (.t 4) (.k (.c (.int .u64 32))), none, true, []⟩,
  ⟨some 6, .bin .eql (.t 5) (.k (.c (.int .u64 0))), none, true, []⟩,
  ⟨some 2, .mv (.t 6), none, true, []⟩]
def C72 : ACode :=
  .seq (.region C72r0)
  (.seq (.region C72r1)
  (.ret))
theorem C72_ok : stripF Try.prog Try.f72 = some C72 := by kernel_rfl
/-! slices.Backward[[]understudy/api.Op,understudy/api.Op]$1 -/
def C92r0 : List AOper := [⟨some 4, .ld1 (.t 1), none, true, []⟩,
  ⟨some 5, .len false (.t 4), none, true, []⟩,
  ⟨some 6, .bin .sub (.t 5) (.k (.c (.int .i64 1))), none, true, []⟩,
  ⟨some 3, .mv (.t 6), none, true, []⟩]
def C92r1 : List AOper := [⟨some 7, .mv (.t 3), none, true, []⟩,
  ⟨some 8, .bin .geq (.t 7) (.k (.c (.int .i64 0))), none, true, []⟩]
def C92r2 : List AOper := [⟨some 11, .mv (.t 0), none, true, []⟩,
  ⟨some 12, .mv (.t 3), none, true, []⟩,
  ⟨some 13, .ld1 (.t 1), none, true, []⟩,
  ⟨some 14, .mv (.t 3), none, true, []⟩,
  ⟨some 15, .iaddr 6 (.t 13) (.t 14), none, true, []⟩,
  ⟨some 16, .ldn 6 (.t 15), none, true, []⟩,
  ⟨some 17, .call (.t 11) [(.t 12), (.t 16)], none, true, []⟩,
  ⟨some 18, .un .not (.t 17), none, true, []⟩]
def C92r3 : List AOper := [⟨some 9, .mv (.t 3), none, true, []⟩,
  ⟨some 10, .bin .sub (.t 9) (.k (.c (.int .i64 1))), none, true, []⟩,
  ⟨some 3, .mv (.t 10), none, true, []⟩]
def C92 : ACode :=
  .seq (.region C92r0)
  (.block 0
   (.loop
    (.seq (.seq (.region C92r1)
    (.cond (.t 8)
     (.skip)
     (.exit 0)))
    (.seq (.block 1
     (.seq (.region C92r2)
     (.cond (.t 18)
      (.ret)
      (.skip))))
    (.region C92r3)))))
theorem C92_ok : stripF Try.prog Try.f92 = some C92 := by kernel_rfl
/-! understudy/dead.same -/
def C93r0 : List AOper := [⟨some 2, .box 39 (.t 0), none, true, []⟩,
  ⟨some 3, .box 39 (.t 1), none, true, []⟩,
  ⟨some 4, .mv (.k (.c (.bool false))), none, true, []⟩,
  ⟨some 5, .mv (.k (.c (.bool false))), none, true, []⟩]
def C93r1 : List AOper := [⟨some 6, .faddr (.t 2) 1, none, true, []⟩,
  ⟨some 7, .ld1 (.t 6), none, true, []⟩,
  ⟨some 8, .faddr (.t 3) 1, none, true, []⟩,
  ⟨some 9, .ld1 (.t 8), none, true, []⟩,
  ⟨some 10, .bin .neq (.t 7) (.t 9), none, true, []⟩]
def C93r2 : List AOper := [⟨some 4, .mv (.k (.c (.bool false))), none, true, []⟩,
  ⟨some 5, .mv (.k (.c (.bool false))), none, true, []⟩]
def C93r3 : List AOper := [⟨some 11, .faddr (.t 2) 0, none, true, []⟩,
  ⟨some 12, .ld1 (.t 11), none, true, []⟩]
def C93r4 : List AOper := [⟨some 14, .bin .eql (.t 12) (.k (.c (.int .i64 14))), none, true, []⟩,
  ⟨some 13, .mv (.t 14), none, true, []⟩]
def C93r5 : List AOper := [⟨some 15, .faddr (.t 3) 0, none, true, []⟩,
  ⟨some 16, .ld1 (.t 15), none, true, []⟩,
  ⟨some 17, .bin .eql (.t 16) (.k (.c (.int .i64 14))), none, true, []⟩,
  ⟨some 4, .mv (.t 17), none, true, []⟩,
  ⟨some 5, .mv (.k (.c (.bool false))), none, true, []⟩]
def C93r6 : List AOper := [⟨some 19, .bin .eql (.t 12) (.k (.c (.int .i64 3))), none, true, []⟩,
  ⟨some 18, .mv (.t 19), none, true, []⟩]
def C93r7 : List AOper := [⟨some 20, .faddr (.t 3) 0, none, false, []⟩,
  ⟨some 21, .ld1 (.t 20), none, false, []⟩,
  ⟨some 22, .bin .eql (.t 21) (.k (.c (.int .i64 3))), none, false, []⟩,
  ⟨some 23, .faddr (.t 3) 0, none, false, []⟩,
  ⟨some 24, .ld1 (.t 23), none, false, []⟩,
  ⟨some 25, .bin .eql (.t 24) (.k (.c (.int .i64 2))), none, false, []⟩,
  ⟨some 4, .mv (.t 22), none, false, []⟩,
  ⟨some 5, .mv (.t 25), none, true, []⟩]
def C93r8 : List AOper := [⟨some 27, .bin .eql (.t 12) (.k (.c (.int .i64 5))), none, true, []⟩,
  ⟨some 26, .mv (.t 27), none, true, []⟩]
def C93r9 : List AOper := [⟨some 28, .faddr (.t 3) 0, none, false, []⟩,
  ⟨some 29, .ld1 (.t 28), none, false, []⟩,
  ⟨some 30, .bin .eql (.t 29) (.k (.c (.int .i64 5))), none, false, []⟩,
  ⟨some 31, .faddr (.t 3) 0, none, false, []⟩,
  ⟨some 32, .ld1 (.t 31), none, false, []⟩,
  ⟨some 33, .bin .eql (.t 32) (.k (.c (.int .i64 4))), none, false, []⟩,
  ⟨some 4, .mv (.t 30), none, false, []⟩,
  ⟨some 5, .mv (.t 33), none, true, []⟩]
def C93r10 : List AOper := [⟨some 35, .bin .eql (.t 12) (.k (.c (.int .i64 7))), none, true, []⟩,
  ⟨some 34, .mv (.t 35), none, true, []⟩]
def C93r11 : List AOper := [⟨some 36, .faddr (.t 3) 0, none, false, []⟩,
  ⟨some 37, .ld1 (.t 36), none, false, []⟩,
  ⟨some 38, .bin .eql (.t 37) (.k (.c (.int .i64 7))), none, false, []⟩,
  ⟨some 39, .faddr (.t 3) 0, none, false, []⟩,
  ⟨some 40, .ld1 (.t 39), none, false, []⟩,
  ⟨some 41, .bin .eql (.t 40) (.k (.c (.int .i64 6))), none, false, []⟩,
  ⟨some 4, .mv (.t 38), none, false, []⟩,
  ⟨some 5, .mv (.t 41), none, true, []⟩]
def C93r12 : List AOper := [⟨some 4, .mv (.k (.c (.bool false))), none, true, []⟩,
  ⟨some 5, .mv (.k (.c (.bool false))), none, true, []⟩]
def C93 : ACode :=
  .seq (.region C93r0)
  (.seq (.seq (.region C93r1)
  (.cond (.t 10)
   (.seq (.region C93r2)
   (.ret))
   (.skip)))
  (.seq (.seq (.region C93r3)
  (.block 0
   (.seq (.region C93r4)
   (.cond (.t 13)
    (.seq (.region C93r5)
    (.ret))
    (.seq (.region C93r6)
    (.cond (.t 18)
     (.seq (.region C93r7)
     (.ret))
     (.seq (.region C93r8)
     (.cond (.t 26)
      (.seq (.region C93r9)
      (.ret))
      (.seq (.region C93r10)
      (.cond (.t 34)
       (.seq (.region C93r11)
       (.ret))
       (.skip)))))))))))
  (.seq (.region C93r12)
  (.ret))))
theorem C93_ok : stripF Try.prog Try.f93 = some C93 := by kernel_rfl
/-! understudy/ir.upTo$1 -/
def C98r0 : List AOper := [⟨some 2, .box 39 (.t 0), none, true, []⟩,
  ⟨some 3, .mv (.k (.c (.bool false))), none, true, []⟩]
def C98r1 : List AOper := [⟨some 4, .faddr (.t 2) 1, none, true, []⟩,
  ⟨some 5, .ld1 (.t 4), none, true, []⟩,
  ⟨some 6, .bin .geq (.t 5) (.k (.c (.int .i64 0))), none, true, []⟩,
  ⟨some 7, .mv (.t 6), none, true, []⟩,
  ⟨some 8, .faddr (.t 2) 1, some (7, true), true, []⟩,
  ⟨some 9, .ld1 (.t 8), some (7, true), true, []⟩,
  ⟨some 10, .ld1 (.t 1), some (7, true), true, []⟩,
  ⟨some 11, .bin .leq (.t 9) (.t 10), some (7, true), true, []⟩,
  ⟨some 12, .pick 7 (.t 11) (.k (.c (.bool false))), none, true, []⟩,
  ⟨some 3, .mv (.t 12), none, true, []⟩]
def C98 : ACode :=
  .seq (.region C98r0)
  (.seq (.region C98r1)
  (.ret))
theorem C98_ok : stripF Try.prog Try.f98 = some C98 := by kernel_rfl
/-! understudy/ir.ordered$1 -/
def C99r0 : List AOper := [⟨some 2, .box 39 (.t 0), none, true, []⟩,
  ⟨some 3, .mv (.k (.c (.bool false))), none, true, []⟩]
def C99r1 : List AOper := [⟨some 6, .ld1 (.t 1), none, true, []⟩,
  ⟨some 7, .len false (.t 6), none, true, []⟩,
  ⟨some 8, .mv (.k (.c (.int .i64 0))), none, true, []⟩]
def C99r2 : List AOper := [⟨some 9, .bin .lss (.t 8) (.t 7), none, true, []⟩]
def C99r3 : List AOper := [⟨some 10, .iaddr 1 (.t 6) (.t 8), none, true, []⟩,
  ⟨some 11, .ld1 (.t 10), none, true, []⟩,
  ⟨some 5, .mv (.t 11), none, true, []⟩]
def C99r4 : List AOper := [⟨some 12, .faddr (.t 2) 4, none, true, []⟩,
  ⟨some 13, .ld1 (.t 12), none, true, []⟩,
  ⟨some 14, .mv (.t 5), none, true, []⟩,
  ⟨some 15, .bin .eql (.t 13) (.t 14), none, true, []⟩]
def C99r5 : List AOper := [⟨some 3, .mv (.k (.c (.bool true))), none, true, []⟩]
def C99r6 : List AOper := [⟨some 16, .bin .add (.t 8) (.k (.c (.int .i64 1))), none, true, []⟩,
  ⟨some 8, .mv (.t 16), none, true, []⟩]
def C99r7 : List AOper := [⟨some 3, .mv (.k (.c (.bool false))), none, true, []⟩]
def C99 : ACode :=
  .seq (.region C99r0)
  (.seq (.seq (.region C99r1)
  (.block 0
   (.loop
    (.seq (.region C99r2)
    (.seq (.cond (.t 9)
     (.skip)
     (.exit 0))
    (.seq (.block 1
     (.seq (.region C99r3)
     (.seq (.region C99r4)
     (.cond (.t 15)
      (.seq (.region C99r5)
      (.ret))
      (.skip)))))
    (.region C99r6)))))))
  (.seq (.region C99r7)
  (.ret)))
theorem C99_ok : stripF Try.prog Try.f99 = some C99 := by kernel_rfl
/-! understudy/understudylaw19.DeadUsed -/
def C5r0 : List AOper := [⟨some 1, .box 25 (.t 0), none, true, []⟩,
  ⟨some 2, .mv (.k (.c (.bool false))), none, true, []⟩]
def C5r1 : List AOper := [⟨some 9, .call (.k (.c (.fn 9 [] []))) [], none, true, []⟩,
  ⟨some 3, .mv (.t 9), none, true, []⟩]
def C5r2 : List AOper := [⟨some 10, .mv (.t 3), none, true, []⟩,
  ⟨some 11, .un .not (.t 10), none, true, []⟩]
def C5r3 : List AOper := [⟨some 2, .mv (.k (.c (.bool false))), none, true, []⟩]
def C5r4 : List AOper := [⟨some 13, .ldn 4 (.t 1), none, true, []⟩,
  ⟨some 14, .call (.k (.c (.fn 12 [] []))) [(.t 13)], none, true, []⟩,
  ⟨some 12, .mv (.t 14), none, true, []⟩,
  ⟨some 15, .ext (.t 12) 0, none, true, []⟩,
  ⟨some 16, .ext (.t 12) 1, none, true, []⟩,
  ⟨some 4, .mv (.t 15), none, true, []⟩,
  ⟨some 5, .mv (.t 16), none, true, []⟩]
def C5r5 : List AOper := [⟨some 17, .mv (.t 5), none, true, []⟩,
  ⟨some 18, .bin .neq (.t 17) (.k (.c (.int .i64 0))), none, true, []⟩]
def C5r6 : List AOper := [⟨some 19, .mv (.t 3), none, true, []⟩,
  ⟨some 20, .mv (.t 19), none, true, []⟩,
  ⟨some 21, .mv (.t 4), some (20, true), true, []⟩,
  ⟨some 22, .len false (.t 21), some (20, true), true, []⟩,
  ⟨some 23, .bin .eql (.t 22) (.k (.c (.int .i64 0))), some (20, true), true, []⟩,
  ⟨some 24, .pick 20 (.t 23) (.k (.c (.bool false))), none, true, []⟩,
  ⟨some 2, .mv (.t 24), none, true, []⟩]
def C5r7 : List AOper := [⟨some 25, .mv (.t 4), none, true, []⟩,
  ⟨some 26, .len false (.t 25), none, true, []⟩,
  ⟨some 27, .faddr (.t 1) 3, none, true, []⟩,
  ⟨some 28, .ld1 (.t 27), none, true, []⟩,
  ⟨some 29, .len false (.t 28), none, true, []⟩,
  ⟨some 30, .bin .neq (.t 26) (.t 29), none, true, []⟩,
  ⟨some 31, .mv (.t 30), none, true, []⟩,
  ⟨some 32, .mv (.t 4), some (31, false), true, []⟩,
  ⟨some 33, .iaddr 1 (.t 32) (.k (.c (.int .i64 0))), some (31, false), true, []⟩,
  ⟨some 34, .ld1 (.t 33), some (31, false), true, []⟩,
  ⟨some 35, .un .not (.t 34), some (31, false), true, []⟩,
  ⟨some 36, .pick 31 (.k (.c (.bool true))) (.t 35), none, true, []⟩,
  ⟨some 37, .mv (.t 36), none, true, []⟩,
  ⟨some 38, .mv (.t 4), some (37, false), true, []⟩,
  ⟨some 39, .mv (.t 4), some (37, false), true, []⟩,
  ⟨some 40, .len false (.t 39), some (37, false), true, []⟩,
  ⟨some 41, .bin .sub (.t 40) (.k (.c (.int .i64 1))), some (37, false), true, []⟩,
  ⟨some 42, .iaddr 1 (.t 38) (.t 41), some (37, false), true, []⟩,
  ⟨some 43, .ld1 (.t 42), some (37, false), true, []⟩,
  ⟨some 44, .un .not (.t 43), some (37, false), true, []⟩,
  ⟨some 45, .pick 37 (.k (.c (.bool true))) (.t 44), none, true, []⟩]
def C5r8 : List AOper := [⟨some 2, .mv (.k (.c (.bool false))), none, true, []⟩]
def C5r9 : List AOper := [⟨some 6, .mv (.k (.c (.int .i64 0))), none, true, []⟩]
def C5r10 : List AOper := [⟨some 46, .mv (.t 6), none, true, []⟩,
  ⟨some 47, .mv (.t 4), none, true, []⟩,
  ⟨some 48, .len false (.t 47), none, true, []⟩,
  ⟨some 49, .bin .lss (.t 46) (.t 48), none, true, []⟩]
def C5r11 : List AOper := [⟨some 52, .faddr (.t 1) 3, none, true, []⟩,
  ⟨some 53, .ld1 (.t 52), none, true, []⟩,
  ⟨some 54, .mv (.t 6), none, true, []⟩,
  ⟨some 55, .iaddr 6 (.t 53) (.t 54), none, true, []⟩,
  ⟨some 56, .ldn 6 (.t 55), none, true, []⟩,
  ⟨some 57, .call (.k (.c (.fn 21 [] []))) [(.t 56)], none, true, []⟩,
  ⟨some 7, .mv (.t 57), none, true, []⟩]
def C5r12 : List AOper := [⟨some 8, .mv (.k (.c (.int .i64 0))), none, true, []⟩]
def C5r13 : List AOper := [⟨some 58, .mv (.t 8), none, true, []⟩,
  ⟨some 59, .mv (.t 7), none, true, []⟩,
  ⟨some 60, .len false (.t 59), none, true, []⟩,
  ⟨some 61, .bin .lss (.t 58) (.t 60), none, true, []⟩,
  ⟨some 62, .mv (.t 61), none, true, []⟩,
  ⟨some 63, .mv (.t 4), some (62, true), true, []⟩,
  ⟨some 64, .mv (.t 6), some (62, true), true, []⟩,
  ⟨some 65, .iaddr 1 (.t 63) (.t 64), some (62, true), true, []⟩,
  ⟨some 66, .ld1 (.t 65), some (62, true), true, []⟩,
  ⟨some 67, .pick 62 (.t 66) (.k (.c (.bool false))), none, true, []⟩]
def C5r14 : List AOper := [⟨some 70, .mv (.t 4), none, true, []⟩,
  ⟨some 71, .mv (.t 7), none, true, []⟩,
  ⟨some 72, .mv (.t 8), none, true, []⟩,
  ⟨some 73, .iaddr 1 (.t 71) (.t 72), none, true, []⟩,
  ⟨some 74, .ld1 (.t 73), none, true, []⟩,
  ⟨some 75, .iaddr 1 (.t 70) (.t 74), none, true, []⟩,
  ⟨some 76, .ld1 (.t 75), none, true, []⟩,
  ⟨some 77, .un .not (.t 76), none, true, []⟩]
def C5r15 : List AOper := [⟨some 2, .mv (.k (.c (.bool false))), none, true, []⟩]
def C5r16 : List AOper := [⟨some 68, .mv (.t 8), none, true, []⟩,
  ⟨some 69, .bin .add (.t 68) (.k (.c (.int .i64 1))), none, true, []⟩,
  ⟨some 8, .mv (.t 69), none, true, []⟩]
def C5r17 : List AOper := [⟨some 78, .mv (.t 4), none, true, []⟩,
  ⟨some 79, .mv (.t 6), none, true, []⟩,
  ⟨some 80, .iaddr 1 (.t 78) (.t 79), none, true, []⟩,
  ⟨some 81, .ld1 (.t 80), none, true, []⟩,
  ⟨some 82, .un .not (.t 81), none, true, []⟩,
  ⟨some 83, .mv (.t 82), none, true, []⟩,
  ⟨some 84, .faddr (.t 1) 3, some (83, true), true, []⟩,
  ⟨some 85, .ld1 (.t 84), some (83, true), true, []⟩,
  ⟨some 86, .mv (.t 6), some (83, true), true, []⟩,
  ⟨some 87, .iaddr 6 (.t 85) (.t 86), some (83, true), true, []⟩,
  ⟨some 88, .ldn 6 (.t 87), some (83, true), true, []⟩,
  ⟨some 89, .call (.k (.c (.fn 22 [] []))) [(.t 88)], some (83, true), true, []⟩,
  ⟨some 90, .pick 83 (.t 89) (.k (.c (.bool false))), none, true, []⟩]
def C5r18 : List AOper := [⟨some 2, .mv (.k (.c (.bool false))), none, true, []⟩]
def C5r19 : List AOper := [⟨some 50, .mv (.t 6), none, true, []⟩,
  ⟨some 51, .bin .add (.t 50) (.k (.c (.int .i64 1))), none, true, []⟩,
  ⟨some 6, .mv (.t 51), none, true, []⟩]
def C5r20 : List AOper := [⟨some 91, .mv (.t 3), none, true, []⟩,
  ⟨some 2, .mv (.t 91), none, true, []⟩]
def C5 : ACode :=
  .seq (.region C5r0)
  (.seq (.region C5r1)
  (.seq (.seq (.region C5r2)
  (.cond (.t 11)
   (.seq (.region C5r3)
   (.ret))
   (.skip)))
  (.seq (.region C5r4)
  (.seq (.seq (.region C5r5)
  (.cond (.t 18)
   (.seq (.region C5r6)
   (.ret))
   (.skip)))
  (.seq (.seq (.region C5r7)
  (.cond (.t 45)
   (.seq (.region C5r8)
   (.ret))
   (.skip)))
  (.seq (.seq (.region C5r9)
  (.block 0
   (.loop
    (.seq (.seq (.region C5r10)
    (.cond (.t 49)
     (.skip)
     (.exit 0)))
    (.seq (.block 1
     (.seq (.region C5r11)
     (.seq (.seq (.region C5r12)
     (.block 2
      (.loop
       (.seq (.seq (.region C5r13)
       (.cond (.t 67)
        (.skip)
        (.exit 2)))
       (.seq (.block 3
        (.seq (.region C5r14)
        (.cond (.t 77)
         (.seq (.region C5r15)
         (.ret))
         (.skip))))
       (.region C5r16))))))
     (.seq (.region C5r17)
     (.cond (.t 90)
      (.seq (.region C5r18)
      (.ret))
      (.skip))))))
    (.region C5r19))))))
  (.seq (.region C5r20)
  (.ret))))))))
theorem C5_ok : stripF Try.prog Try.f5 = some C5 := by kernel_rfl
end Go.Proofs.Ytmbnakinhnkabaa
