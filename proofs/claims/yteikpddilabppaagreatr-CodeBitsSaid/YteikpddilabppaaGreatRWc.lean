/- code: the forms. -/
import Derived.Test.YteikpddilabppaaGreatRWb
namespace Go.Proofs.YteikpddilabppaaGreatR
open Go.AM
set_option maxRecDepth 100000
set_option linter.unusedSimpArgs false
set_option linter.unusedVariables false
def fOp : Nat → Int
  | 0 => 1
  | 1 => 2
  | 2 => 3
  | 3 => 4
  | 4 => 5
  | 5 => 6
  | 6 => 7
  | 7 => 8
  | 8 => 9
  | 9 => 10
  | 10 => 11
  | 11 => 12
  | 12 => 13
  | 13 => 14
  | 14 => 15
  | 15 => 16
  | 16 => 17
  | 17 => 18
  | 18 => 19
  | 19 => 20
  | 20 => 21
  | 21 => 21
  | 22 => 22
  | 23 => 23
  | 24 => 24
  | 25 => 25
  | 26 => 26
  | 27 => 26
  | 28 => 27
  | 29 => 28
  | 30 => 30
  | 31 => 29
  | 32 => 31
  | 33 => 32
  | 34 => 33
  | 35 => 33
  | 36 => 34
  | 37 => 35
  | 38 => 36
  | 39 => 37
  | _ => 0
def fSub : Nat → Int
  | 0 => (-1)
  | 1 => (-1)
  | 2 => (-1)
  | 3 => (-1)
  | 4 => (-1)
  | 5 => (-1)
  | 6 => (-1)
  | 7 => (-1)
  | 8 => (-1)
  | 9 => (-1)
  | 10 => (-1)
  | 11 => (-1)
  | 12 => (-1)
  | 13 => (-1)
  | 14 => (-1)
  | 15 => (-1)
  | 16 => (-1)
  | 17 => (-1)
  | 18 => (-1)
  | 19 => (-1)
  | 20 => 0
  | 21 => 1
  | 22 => (-1)
  | 23 => (-1)
  | 24 => (-1)
  | 25 => (-1)
  | 26 => 0
  | 27 => 1
  | 28 => (-1)
  | 29 => (-1)
  | 30 => (-1)
  | 31 => (-1)
  | 32 => (-1)
  | 33 => (-1)
  | 34 => 0
  | 35 => 1
  | 36 => (-1)
  | 37 => (-1)
  | 38 => (-1)
  | 39 => (-1)
  | _ => 0
def fMask : Nat → Int
  | 0 => 2675965952
  | 1 => 2669674496
  | 2 => 2667577344
  | 3 => 2675965952
  | 4 => 2675965952
  | 5 => 2680160256
  | 6 => 4292931584
  | 7 => 4292870144
  | 8 => 4292933632
  | 9 => 3219130368
  | 10 => 520093696
  | 11 => 2080374784
  | 12 => 4278190096
  | 13 => 4261412864
  | 14 => 2113929216
  | 15 => 4288674847
  | 16 => 4290772992
  | 17 => 4290772992
  | 18 => 4292930560
  | 19 => 4292930560
  | 20 => 4294966272
  | 21 => 4294966272
  | 22 => 4294966272
  | 23 => 4294933504
  | 24 => 4292901888
  | 25 => 4294967295
  | 26 => 4294966527
  | 27 => 4294966527
  | 28 => 4294967295
  | 29 => 4294967264
  | 30 => 4294967264
  | 31 => 4294967295
  | 32 => 4293918720
  | 33 => 4293918720
  | 34 => 4294963455
  | 35 => 4294963455
  | 36 => 4292870175
  | 37 => 4292870175
  | 38 => 4294967295
  | 39 => 4294967071
  | _ => 0
def fBase : Nat → Int
  | 0 => 2432696320
  | 1 => 2332033024
  | 2 => 2315255808
  | 3 => 2449473536
  | 4 => 2457862144
  | 5 => 2470445056
  | 6 => 2596282368
  | 7 => 2600468480
  | 8 => 2596276224
  | 9 => 2592079872
  | 10 => 268435456
  | 11 => 335544320
  | 12 => 1409286144
  | 13 => 3019898880
  | 14 => 905969664
  | 15 => 3592355840
  | 16 => 4181721088
  | 17 => 4177526784
  | 18 => 4167067648
  | 19 => 4162873344
  | 20 => 3370122240
  | 21 => 4173316096
  | 22 => 3365927936
  | 23 => 3361700864
  | 24 => 3355474944
  | 25 => 3573759839
  | 26 => 3573759167
  | 27 => 3573759135
  | 28 => 3573759967
  | 29 => 3574297888
  | 30 => 3574299424
  | 31 => 3574101279
  | 32 => 3576692736
  | 33 => 3574595584
  | 34 => 3573760223
  | 35 => 3573760255
  | 36 => 3556769793
  | 37 => 3558866944
  | 38 => 3600745440
  | 39 => 3573751839
  | _ => 0
def fPut : Nat → Nat
  | 0 => 19
  | 1 => 21
  | 2 => 23
  | 3 => 25
  | 4 => 27
  | 5 => 29
  | 6 => 31
  | 7 => 33
  | 8 => 31
  | 9 => 36
  | 10 => 38
  | 11 => 40
  | 12 => 42
  | 13 => 44
  | 14 => 46
  | 15 => 48
  | 16 => 50
  | 17 => 50
  | 18 => 52
  | 19 => 52
  | 20 => 54
  | 21 => 54
  | 22 => 54
  | 23 => 56
  | 24 => 56
  | 25 => 54
  | 26 => 101
  | 27 => 101
  | 28 => 54
  | 29 => 54
  | 30 => 54
  | 31 => 54
  | 32 => 62
  | 33 => 62
  | 34 => 101
  | 35 => 101
  | 36 => 101
  | 37 => 101
  | 38 => 54
  | 39 => 101
  | _ => 0
def fPutC : Nat → List AA
  | 26 => [⟨13, 0, 0, 0⟩, ⟨14, 0, 0, 0⟩]
  | 27 => [⟨19, 0, 0, 0⟩, ⟨20, 0, 0, 0⟩]
  | 34 => [⟨31, 0, 0, 0⟩, ⟨32, 0, 0, 0⟩]
  | 35 => [⟨37, 0, 0, 0⟩, ⟨38, 0, 0, 0⟩]
  | 36 => [⟨43, 0, 0, 0⟩, ⟨44, 0, 0, 0⟩]
  | 37 => [⟨49, 0, 0, 0⟩, ⟨50, 0, 0, 0⟩]
  | 39 => [⟨56, 0, 0, 0⟩, ⟨57, 0, 0, 0⟩]
  | _ => []
def fTake : Nat → Nat
  | 0 => 20
  | 1 => 22
  | 2 => 24
  | 3 => 26
  | 4 => 28
  | 5 => 30
  | 6 => 32
  | 7 => 34
  | 8 => 35
  | 9 => 37
  | 10 => 39
  | 11 => 41
  | 12 => 43
  | 13 => 45
  | 14 => 47
  | 15 => 49
  | 16 => 96
  | 17 => 96
  | 18 => 97
  | 19 => 97
  | 20 => 98
  | 21 => 98
  | 22 => 98
  | 23 => 99
  | 24 => 99
  | 25 => 100
  | 26 => 102
  | 27 => 102
  | 28 => 100
  | 29 => 103
  | 30 => 103
  | 31 => 100
  | 32 => 104
  | 33 => 104
  | 34 => 102
  | 35 => 102
  | 36 => 102
  | 37 => 102
  | 38 => 100
  | 39 => 102
  | _ => 0
def fTakeC : Nat → List AA
  | 16 => [⟨0, 0, 0, 0⟩]
  | 17 => [⟨1, 0, 0, 0⟩]
  | 18 => [⟨2, 0, 0, 0⟩]
  | 19 => [⟨3, 0, 0, 0⟩]
  | 20 => [⟨4, 0, 0, 0⟩, ⟨5, 0, 0, 0⟩]
  | 21 => [⟨6, 0, 0, 0⟩, ⟨7, 0, 0, 0⟩]
  | 22 => [⟨8, 0, 0, 0⟩, ⟨9, 0, 0, 0⟩]
  | 23 => [⟨10, 0, 0, 0⟩]
  | 24 => [⟨11, 0, 0, 0⟩]
  | 25 => [⟨12, 0, 0, 0⟩]
  | 26 => [⟨15, 0, 0, 0⟩, ⟨16, 0, 0, 0⟩, ⟨17, 0, 0, 0⟩, ⟨18, 0, 0, 0⟩]
  | 27 => [⟨21, 0, 0, 0⟩, ⟨22, 0, 0, 0⟩, ⟨23, 0, 0, 0⟩, ⟨24, 0, 0, 0⟩]
  | 28 => [⟨25, 0, 0, 0⟩]
  | 29 => [⟨26, 0, 0, 0⟩]
  | 30 => [⟨27, 0, 0, 0⟩]
  | 31 => [⟨28, 0, 0, 0⟩]
  | 32 => [⟨29, 0, 0, 0⟩]
  | 33 => [⟨30, 0, 0, 0⟩]
  | 34 => [⟨33, 0, 0, 0⟩, ⟨34, 0, 0, 0⟩, ⟨35, 0, 0, 0⟩, ⟨36, 0, 0, 0⟩]
  | 35 => [⟨39, 0, 0, 0⟩, ⟨40, 0, 0, 0⟩, ⟨41, 0, 0, 0⟩, ⟨42, 0, 0, 0⟩]
  | 36 => [⟨45, 0, 0, 0⟩, ⟨46, 0, 0, 0⟩, ⟨47, 0, 0, 0⟩, ⟨48, 0, 0, 0⟩]
  | 37 => [⟨51, 0, 0, 0⟩, ⟨52, 0, 0, 0⟩, ⟨53, 0, 0, 0⟩, ⟨54, 0, 0, 0⟩]
  | 38 => [⟨55, 0, 0, 0⟩]
  | 39 => [⟨58, 0, 0, 0⟩, ⟨59, 0, 0, 0⟩, ⟨60, 0, 0, 0⟩, ⟨61, 0, 0, 0⟩]
  | _ => []
def boxV : Nat → Int
  | 0 => 17
  | 1 => 18
  | 2 => 19
  | 3 => 20
  | 4 => 21
  | 5 => 0
  | 6 => 21
  | 7 => 1
  | 8 => 22
  | 9 => 0
  | 10 => 23
  | 11 => 24
  | 12 => 25
  | 13 => 8
  | 14 => 2
  | 15 => 26
  | 16 => 0
  | 17 => 8
  | 18 => 2
  | 19 => 8
  | 20 => 2
  | 21 => 26
  | 22 => 1
  | 23 => 8
  | 24 => 2
  | 25 => 27
  | 26 => 28
  | 27 => 30
  | 28 => 29
  | 29 => 31
  | 30 => 32
  | 31 => 8
  | 32 => 4
  | 33 => 33
  | 34 => 0
  | 35 => 8
  | 36 => 4
  | 37 => 8
  | 38 => 4
  | 39 => 33
  | 40 => 1
  | 41 => 8
  | 42 => 4
  | 43 => 5
  | 44 => 16
  | 45 => 34
  | 46 => 0
  | 47 => 5
  | 48 => 16
  | 49 => 5
  | 50 => 16
  | 51 => 35
  | 52 => 0
  | 53 => 5
  | 54 => 16
  | 55 => 36
  | 56 => 5
  | 57 => 3
  | 58 => 37
  | 59 => 0
  | 60 => 5
  | 61 => 3
  | _ => 0
def formRow (i : Nat) : List Seg := [.c (.int .i64 (fOp i)), .c (.int .i64 (fSub i)), .c (.int .u32 (fMask i)), .c (.int .u32 (fBase i)), .c (.fn (fPut i) [] (fPutC i)), .c (.fn (fTake i) [] (fTakeC i))]
def formBk (w : Bool) : Blk := ⟨6, some 40, formRow, 42, w⟩
def formsW : List (Nat × Blk) := (62, formBk true) :: [(61, boxW (boxV 61)), (60, boxW (boxV 60)), (59, boxW (boxV 59)), (58, boxW (boxV 58)), (57, boxW (boxV 57)), (56, boxW (boxV 56)), (55, boxW (boxV 55)), (54, boxW (boxV 54)), (53, boxW (boxV 53)), (52, boxW (boxV 52)), (51, boxW (boxV 51)), (50, boxW (boxV 50)), (49, boxW (boxV 49)), (48, boxW (boxV 48)), (47, boxW (boxV 47)), (46, boxW (boxV 46)), (45, boxW (boxV 45)), (44, boxW (boxV 44)), (43, boxW (boxV 43)), (42, boxW (boxV 42)), (41, boxW (boxV 41)), (40, boxW (boxV 40)), (39, boxW (boxV 39)), (38, boxW (boxV 38)), (37, boxW (boxV 37)), (36, boxW (boxV 36)), (35, boxW (boxV 35)), (34, boxW (boxV 34)), (33, boxW (boxV 33)), (32, boxW (boxV 32)), (31, boxW (boxV 31)), (30, boxW (boxV 30)), (29, boxW (boxV 29)), (28, boxW (boxV 28)), (27, boxW (boxV 27)), (26, boxW (boxV 26)), (25, boxW (boxV 25)), (24, boxW (boxV 24)), (23, boxW (boxV 23)), (22, boxW (boxV 22)), (21, boxW (boxV 21)), (20, boxW (boxV 20)), (19, boxW (boxV 19)), (18, boxW (boxV 18)), (17, boxW (boxV 17)), (16, boxW (boxV 16)), (15, boxW (boxV 15)), (14, boxW (boxV 14)), (13, boxW (boxV 13)), (12, boxW (boxV 12)), (11, boxW (boxV 11)), (10, boxW (boxV 10)), (9, boxW (boxV 9)), (8, boxW (boxV 8)), (7, boxW (boxV 7)), (6, boxW (boxV 6)), (5, boxW (boxV 5)), (4, boxW (boxV 4)), (3, boxW (boxV 3)), (2, boxW (boxV 2)), (1, boxW (boxV 1)), (0, boxW (boxV 0))]
def formsL : List Seg := [.c (.int .i64 1), .c (.int .i64 (-1)), .c (.int .u32 2675965952), .c (.int .u32 2432696320), .c (.fn 19 [] []), .c (.fn 20 [] []), .c (.int .i64 2), .c (.int .i64 (-1)), .c (.int .u32 2669674496), .c (.int .u32 2332033024), .c (.fn 21 [] []), .c (.fn 22 [] []), .c (.int .i64 3), .c (.int .i64 (-1)), .c (.int .u32 2667577344), .c (.int .u32 2315255808), .c (.fn 23 [] []), .c (.fn 24 [] []), .c (.int .i64 4), .c (.int .i64 (-1)), .c (.int .u32 2675965952), .c (.int .u32 2449473536), .c (.fn 25 [] []), .c (.fn 26 [] []), .c (.int .i64 5), .c (.int .i64 (-1)), .c (.int .u32 2675965952), .c (.int .u32 2457862144), .c (.fn 27 [] []), .c (.fn 28 [] []), .c (.int .i64 6), .c (.int .i64 (-1)), .c (.int .u32 2680160256), .c (.int .u32 2470445056), .c (.fn 29 [] []), .c (.fn 30 [] []), .c (.int .i64 7), .c (.int .i64 (-1)), .c (.int .u32 4292931584), .c (.int .u32 2596282368), .c (.fn 31 [] []), .c (.fn 32 [] []), .c (.int .i64 8), .c (.int .i64 (-1)), .c (.int .u32 4292870144), .c (.int .u32 2600468480), .c (.fn 33 [] []), .c (.fn 34 [] []), .c (.int .i64 9), .c (.int .i64 (-1)), .c (.int .u32 4292933632), .c (.int .u32 2596276224), .c (.fn 31 [] []), .c (.fn 35 [] []), .c (.int .i64 10), .c (.int .i64 (-1)), .c (.int .u32 3219130368), .c (.int .u32 2592079872), .c (.fn 36 [] []), .c (.fn 37 [] []), .c (.int .i64 11), .c (.int .i64 (-1)), .c (.int .u32 520093696), .c (.int .u32 268435456), .c (.fn 38 [] []), .c (.fn 39 [] []), .c (.int .i64 12), .c (.int .i64 (-1)), .c (.int .u32 2080374784), .c (.int .u32 335544320), .c (.fn 40 [] []), .c (.fn 41 [] []), .c (.int .i64 13), .c (.int .i64 (-1)), .c (.int .u32 4278190096), .c (.int .u32 1409286144), .c (.fn 42 [] []), .c (.fn 43 [] []), .c (.int .i64 14), .c (.int .i64 (-1)), .c (.int .u32 4261412864), .c (.int .u32 3019898880), .c (.fn 44 [] []), .c (.fn 45 [] []), .c (.int .i64 15), .c (.int .i64 (-1)), .c (.int .u32 2113929216), .c (.int .u32 905969664), .c (.fn 46 [] []), .c (.fn 47 [] []), .c (.int .i64 16), .c (.int .i64 (-1)), .c (.int .u32 4288674847), .c (.int .u32 3592355840), .c (.fn 48 [] []), .c (.fn 49 [] []), .c (.int .i64 17), .c (.int .i64 (-1)), .c (.int .u32 4290772992), .c (.int .u32 4181721088), .c (.fn 50 [] []), .c (.fn 96 [] [⟨0, 0, 0, 0⟩]), .c (.int .i64 18), .c (.int .i64 (-1)), .c (.int .u32 4290772992), .c (.int .u32 4177526784), .c (.fn 50 [] []), .c (.fn 96 [] [⟨1, 0, 0, 0⟩]), .c (.int .i64 19), .c (.int .i64 (-1)), .c (.int .u32 4292930560), .c (.int .u32 4167067648), .c (.fn 52 [] []), .c (.fn 97 [] [⟨2, 0, 0, 0⟩]), .c (.int .i64 20), .c (.int .i64 (-1)), .c (.int .u32 4292930560), .c (.int .u32 4162873344), .c (.fn 52 [] []), .c (.fn 97 [] [⟨3, 0, 0, 0⟩]), .c (.int .i64 21), .c (.int .i64 0), .c (.int .u32 4294966272), .c (.int .u32 3370122240), .c (.fn 54 [] []), .c (.fn 98 [] [⟨4, 0, 0, 0⟩, ⟨5, 0, 0, 0⟩]), .c (.int .i64 21), .c (.int .i64 1), .c (.int .u32 4294966272), .c (.int .u32 4173316096), .c (.fn 54 [] []), .c (.fn 98 [] [⟨6, 0, 0, 0⟩, ⟨7, 0, 0, 0⟩]), .c (.int .i64 22), .c (.int .i64 (-1)), .c (.int .u32 4294966272), .c (.int .u32 3365927936), .c (.fn 54 [] []), .c (.fn 98 [] [⟨8, 0, 0, 0⟩, ⟨9, 0, 0, 0⟩]), .c (.int .i64 23), .c (.int .i64 (-1)), .c (.int .u32 4294933504), .c (.int .u32 3361700864), .c (.fn 56 [] []), .c (.fn 99 [] [⟨10, 0, 0, 0⟩]), .c (.int .i64 24), .c (.int .i64 (-1)), .c (.int .u32 4292901888), .c (.int .u32 3355474944), .c (.fn 56 [] []), .c (.fn 99 [] [⟨11, 0, 0, 0⟩]), .c (.int .i64 25), .c (.int .i64 (-1)), .c (.int .u32 4294967295), .c (.int .u32 3573759839), .c (.fn 54 [] []), .c (.fn 100 [] [⟨12, 0, 0, 0⟩]), .c (.int .i64 26), .c (.int .i64 0), .c (.int .u32 4294966527), .c (.int .u32 3573759167), .c (.fn 101 [] [⟨13, 0, 0, 0⟩, ⟨14, 0, 0, 0⟩]), .c (.fn 102 [] [⟨15, 0, 0, 0⟩, ⟨16, 0, 0, 0⟩, ⟨17, 0, 0, 0⟩, ⟨18, 0, 0, 0⟩]), .c (.int .i64 26), .c (.int .i64 1), .c (.int .u32 4294966527), .c (.int .u32 3573759135), .c (.fn 101 [] [⟨19, 0, 0, 0⟩, ⟨20, 0, 0, 0⟩]), .c (.fn 102 [] [⟨21, 0, 0, 0⟩, ⟨22, 0, 0, 0⟩, ⟨23, 0, 0, 0⟩, ⟨24, 0, 0, 0⟩]), .c (.int .i64 27), .c (.int .i64 (-1)), .c (.int .u32 4294967295), .c (.int .u32 3573759967), .c (.fn 54 [] []), .c (.fn 100 [] [⟨25, 0, 0, 0⟩]), .c (.int .i64 28), .c (.int .i64 (-1)), .c (.int .u32 4294967264), .c (.int .u32 3574297888), .c (.fn 54 [] []), .c (.fn 103 [] [⟨26, 0, 0, 0⟩]), .c (.int .i64 30), .c (.int .i64 (-1)), .c (.int .u32 4294967264), .c (.int .u32 3574299424), .c (.fn 54 [] []), .c (.fn 103 [] [⟨27, 0, 0, 0⟩]), .c (.int .i64 29), .c (.int .i64 (-1)), .c (.int .u32 4294967295), .c (.int .u32 3574101279), .c (.fn 54 [] []), .c (.fn 100 [] [⟨28, 0, 0, 0⟩]), .c (.int .i64 31), .c (.int .i64 (-1)), .c (.int .u32 4293918720), .c (.int .u32 3576692736), .c (.fn 62 [] []), .c (.fn 104 [] [⟨29, 0, 0, 0⟩]), .c (.int .i64 32), .c (.int .i64 (-1)), .c (.int .u32 4293918720), .c (.int .u32 3574595584), .c (.fn 62 [] []), .c (.fn 104 [] [⟨30, 0, 0, 0⟩]), .c (.int .i64 33), .c (.int .i64 0), .c (.int .u32 4294963455), .c (.int .u32 3573760223), .c (.fn 101 [] [⟨31, 0, 0, 0⟩, ⟨32, 0, 0, 0⟩]), .c (.fn 102 [] [⟨33, 0, 0, 0⟩, ⟨34, 0, 0, 0⟩, ⟨35, 0, 0, 0⟩, ⟨36, 0, 0, 0⟩]), .c (.int .i64 33), .c (.int .i64 1), .c (.int .u32 4294963455), .c (.int .u32 3573760255), .c (.fn 101 [] [⟨37, 0, 0, 0⟩, ⟨38, 0, 0, 0⟩]), .c (.fn 102 [] [⟨39, 0, 0, 0⟩, ⟨40, 0, 0, 0⟩, ⟨41, 0, 0, 0⟩, ⟨42, 0, 0, 0⟩]), .c (.int .i64 34), .c (.int .i64 (-1)), .c (.int .u32 4292870175), .c (.int .u32 3556769793), .c (.fn 101 [] [⟨43, 0, 0, 0⟩, ⟨44, 0, 0, 0⟩]), .c (.fn 102 [] [⟨45, 0, 0, 0⟩, ⟨46, 0, 0, 0⟩, ⟨47, 0, 0, 0⟩, ⟨48, 0, 0, 0⟩]), .c (.int .i64 35), .c (.int .i64 (-1)), .c (.int .u32 4292870175), .c (.int .u32 3558866944), .c (.fn 101 [] [⟨49, 0, 0, 0⟩, ⟨50, 0, 0, 0⟩]), .c (.fn 102 [] [⟨51, 0, 0, 0⟩, ⟨52, 0, 0, 0⟩, ⟨53, 0, 0, 0⟩, ⟨54, 0, 0, 0⟩]), .c (.int .i64 36), .c (.int .i64 (-1)), .c (.int .u32 4294967295), .c (.int .u32 3600745440), .c (.fn 54 [] []), .c (.fn 100 [] [⟨55, 0, 0, 0⟩]), .c (.int .i64 37), .c (.int .i64 (-1)), .c (.int .u32 4294967071), .c (.int .u32 3573751839), .c (.fn 101 [] [⟨56, 0, 0, 0⟩, ⟨57, 0, 0, 0⟩]), .c (.fn 102 [] [⟨58, 0, 0, 0⟩, ⟨59, 0, 0, 0⟩, ⟨60, 0, 0, 0⟩, ⟨61, 0, 0, 0⟩])]
theorem form_rows : ∀ i, i < 40 → cutD formsL (i * 6) 6 = formRow i
  | 0, _ => rfl
  | 1, _ => rfl
  | 2, _ => rfl
  | 3, _ => rfl
  | 4, _ => rfl
  | 5, _ => rfl
  | 6, _ => rfl
  | 7, _ => rfl
  | 8, _ => rfl
  | 9, _ => rfl
  | 10, _ => rfl
  | 11, _ => rfl
  | 12, _ => rfl
  | 13, _ => rfl
  | 14, _ => rfl
  | 15, _ => rfl
  | 16, _ => rfl
  | 17, _ => rfl
  | 18, _ => rfl
  | 19, _ => rfl
  | 20, _ => rfl
  | 21, _ => rfl
  | 22, _ => rfl
  | 23, _ => rfl
  | 24, _ => rfl
  | 25, _ => rfl
  | 26, _ => rfl
  | 27, _ => rfl
  | 28, _ => rfl
  | 29, _ => rfl
  | 30, _ => rfl
  | 31, _ => rfl
  | 32, _ => rfl
  | 33, _ => rfl
  | 34, _ => rfl
  | 35, _ => rfl
  | 36, _ => rfl
  | 37, _ => rfl
  | 38, _ => rfl
  | 39, _ => rfl
  | n + 40, h => absurd h (by omega)
def ids63 : List Nat := [0, 1, 2, 3, 4, 5, 6, 7, 8, 9, 10, 11, 12, 13, 14, 15, 16, 17, 18, 19, 20, 21, 22, 23, 24, 25, 26, 27, 28, 29, 30, 31, 32, 33, 34, 35, 36, 37, 38, 39, 40, 41, 42, 43, 44, 45, 46, 47, 48, 49, 50, 51, 52, 53, 54, 55, 56, 57, 58, 59, 60, 61, 62]
theorem diff63 : diff ids63 := by simp only [ids63, diff, notIn, Nat.beq, and_self]
theorem ids63_fin : ∀ i : Fin 63, nthO ids63 i.val = some i.val := by decide
theorem ids63_at (i : Nat) (h : i < 63) : nthO ids63 i = some i := ids63_fin ⟨i, h⟩
theorem leAL_refl {l : List Nat} : ∀ {x : List AA}, (∀ a ∈ x, nthO l a.id = some a.id) → leAL l x x
  | [], _ => trivial
  | a :: r, h => ⟨⟨h a (by simp), rfl, rfl, rfl⟩, leAL_refl fun b hb => h b (List.mem_cons_of_mem _ hb)⟩
theorem form_ids : ∀ i : Fin 40, ((fPutC i.val).all fun a => decide (a.id < 62)) = true ∧ ((fTakeC i.val).all fun a => decide (a.id < 62)) = true := by decide
theorem form_leSegs (i : Nat) (h : i < 40) : leSegs ids63 (formRow i) (formRow i) := by
  obtain ⟨h1, h2⟩ := form_ids ⟨i, h⟩
  have q1 : leAL ids63 (fPutC i) (fPutC i) := leAL_refl fun a ha => ids63_at _ (by have := of_decide_eq_true (List.all_eq_true.1 h1 a ha); omega)
  have q2 : leAL ids63 (fTakeC i) (fTakeC i) := leAL_refl fun a ha => ids63_at _ (by have := of_decide_eq_true (List.all_eq_true.1 h2 a ha); omega)
  exact ⟨⟨rfl, rfl⟩, ⟨rfl, rfl⟩, ⟨rfl, rfl⟩, ⟨rfl, rfl⟩, ⟨rfl, trivial, q1⟩, ⟨rfl, trivial, q2⟩, trivial⟩
theorem box_leW {l : List Nat} (u v : Int) (w : Bool) (hw : w = false ∨ w = true) (h : u = v) : leB l (boxW u) ⟨1, none, fun _ => [.c (.int .i64 v)], 3, w⟩ := by
  subst h
  exact ⟨rfl, rfl, fun _ => rfl, Nat.le_refl _, fun _ _ => ⟨⟨rfl, rfl⟩, trivial⟩⟩
set_option maxHeartbeats 8000000 in
theorem con12 : Con Tryz.prog 12 [] ⟨0, []⟩ (fun v H' => v = .c (.slice ⟨62, 0, 0, 0⟩ false 40) ∧ H' = ⟨63, formsW⟩) := by
  (refine con_of_run mixed (fn := Tryz.f12) (by kernel_rfl) (by kernel_rfl) C12_ok (rs := [.tmp 0]) (by kernel_rfl) (Nat.le_of_ble_eq_true (by kernel_rfl)) ?_; unfold C12; simp only [initT])
  generalize hR : (fun (v : AV) (H' : Heap) => v = AV.c (.slice ⟨62, 0, 0, 0⟩ false 40) ∧ H' = ⟨63, formsW⟩) = R
  repeat' (first
    | refine run_seq ?_
    | refine run_skip ?_
    | (refine run_region fun K hK => ?_; (try (simp (maxSteps := 10000000) only [C12r0, C12r1, rwp_nil, rwp_cons, aop, gpath, St.get, segsOf, St.put, addBlk, nsub, shed, Nat.beq, Seg.size, sizes, appL, argsOf, ptrsOf, takeS, dropS, putS, partsOf, fillS, Nat.reduceAdd, List.append_nil, List.nil_append, List.cons_append])); (repeat (first | (refine And.intro ?_ ?_; · decide) | ((first | (refine call_t _ (con51 _ _ _ (by simp [keysLt])) ?_; rintro v H' ⟨rfl, rfl⟩) | refine call_q _ (con51 _ _ _ (by simp [keysLt])) ?_ | refine call_g _ (imp_of (con51 _ _ _ (by simp [keysLt]))) ?_ | (refine call_t _ (con53 _ _ _ (by simp [keysLt])) ?_; rintro v H' ⟨rfl, rfl⟩) | refine call_q _ (con53 _ _ _ (by simp [keysLt])) ?_ | refine call_g _ (imp_of (con53 _ _ _ (by simp [keysLt]))) ?_ | (refine call_t _ (con55 _ _ _ _ (by simp [keysLt])) ?_; rintro v H' ⟨rfl, rfl⟩) | refine call_q _ (con55 _ _ _ _ (by simp [keysLt])) ?_ | refine call_g _ (imp_of (con55 _ _ _ _ (by simp [keysLt]))) ?_ | (refine call_t _ (con57 _ _ _ (by simp [keysLt])) ?_; rintro v H' ⟨rfl, rfl⟩) | refine call_q _ (con57 _ _ _ (by simp [keysLt])) ?_ | refine call_g _ (imp_of (con57 _ _ _ (by simp [keysLt]))) ?_ | (refine call_t _ (con58 _ _ _ (by simp [keysLt])) ?_; rintro v H' ⟨rfl, rfl⟩) | refine call_q _ (con58 _ _ _ (by simp [keysLt])) ?_ | refine call_g _ (imp_of (con58 _ _ _ (by simp [keysLt]))) ?_ | (refine call_t _ (con59 _ _ _ _ (by simp [keysLt])) ?_; rintro v H' ⟨rfl, rfl⟩) | refine call_q _ (con59 _ _ _ _ (by simp [keysLt])) ?_ | refine call_g _ (imp_of (con59 _ _ _ _ (by simp [keysLt]))) ?_ | (refine call_t _ (con60 _ _ _ _ _ _ (by simp [keysLt])) ?_; rintro v H' ⟨rfl, rfl⟩) | refine call_q _ (con60 _ _ _ _ _ _ (by simp [keysLt])) ?_ | refine call_g _ (imp_of (con60 _ _ _ _ _ _ (by simp [keysLt]))) ?_ | (refine call_t _ (con61 _ _ _ (by simp [keysLt])) ?_; rintro v H' ⟨rfl, rfl⟩) | refine call_q _ (con61 _ _ _ (by simp [keysLt])) ?_ | refine call_g _ (imp_of (con61 _ _ _ (by simp [keysLt]))) ?_ | (refine call_t _ (con63 _ _ _ (by simp [keysLt])) ?_; rintro v H' ⟨rfl, rfl⟩) | refine call_q _ (con63 _ _ _ (by simp [keysLt])) ?_ | refine call_g _ (imp_of (con63 _ _ _ (by simp [keysLt]))) ?_); simp (maxSteps := 10000000) only [repl, rowsFit, rowFn, cutD, rwp_nil, rwp_cons, rwpK_app, aop, gpath, St.get, slotAt, sfx, eqP, segsOf, St.put, addBlk, nsub, shed, Nat.beq, Seg.size, sizes, appL, argsOf, ptrsOf, cut, takeS, dropS, putS, partsOf, fillS, Nat.reduceAdd, List.append_nil, List.nil_append, List.cons_append]))); with_reducible refine hK _ ?_; clear hK K)
    | (refine run_cond rfl (fun hc => ?_) (fun hc => ?_) <;> try (simp only [*, Bool.true_eq_false, Bool.false_eq_true, Bool.not_true, Bool.not_false, Bool.true_or, Bool.or_true, Bool.false_or, Bool.or_false, Bool.false_and, Bool.and_false, bne_self_eq_false, beq_self_eq_true] at hc; done))
    | refine run_block ?_
    | refine run_ret ?_
    | refine run_nil ?_
    | refine run_exit ?_
    | refine blk_normal ?_
    | refine blk_ret ?_
    | refine blk_here ?_
    | refine blk_there rfl ?_
    | refine loop_exit ?_
    | refine loop_ret ?_
    | refine un_exit ?_
    | refine un_ret ?_
    | refine unE_exit ?_
    | refine unE_ret ?_
    | refine un_normal ?_)
  subst hR
  refine end_of ⟨[⟨0, [], .c (.slice ⟨62, 0, 0, 0⟩ false 40)⟩], ⟨63, formsW⟩⟩ ?_ ⟨rfl, rfl⟩
  refine LeS.intro ids63 (fun i h => absurd h (Nat.not_lt_zero i)) diff63 rfl ⟨⟨⟨rfl, rfl, rfl, rfl⟩, rfl, rfl⟩, trivial⟩ ?_
  unfold formsW
  simp only [leBlks, ids63, nthO, getB]
  refine ⟨⟨rfl, rfl, id, Nat.le_refl _, fun i hi => ?_⟩, ?_⟩
  · have e := form_rows i hi
    have q := form_leSegs i hi
    show leSegs ids63 (cutD formsL (i * 6) 6) (formRow i)
    rw [e]
    exact q
  · repeat' (first | exact trivial | refine And.intro (box_leW _ _ _ (.inr rfl) rfl) ?_)
end Go.Proofs.YteikpddilabppaaGreatR
