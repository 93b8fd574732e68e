/- the reference of chapter 21: which micro-code is right. -/
import Derived.Test.YteikpddilabppaaRig
namespace Go.Proofs.Yteikpddilabppaa
open Go.AM
set_option maxRecDepth 100000
set_option linter.unusedSimpArgs false
set_option linter.unusedVariables false
theorem con29 (a b c : Int) (H : Heap) : Con Try.prog 29 [.c (.int .i64 a), .c (.int .i64 b), .c (.int .i64 c)] H (fun v H' => v = .c (.bool (decide (a ≥ b) && decide (a ≤ c))) ∧ H' = H) := by
  refine Con.pure ?_ (by simp only [leArgs, leV, leV1, leC, and_self]) rfl H
  (refine con_of_run mixed (fn := Try.f29) (by kernel_rfl) (by kernel_rfl) C29_ok (rs := [.tmp 6]) (by kernel_rfl) (Nat.le_of_ble_eq_true (by kernel_rfl)) ?_; unfold C29; simp only [initT, Nat.reduceAdd])
  repeat' (first
    | refine run_seq ?_
    | refine run_skip ?_
    | (refine run_region fun K hK => ?_; (try (simp (maxSteps := 10000000) only [C29r0, C29r1, rwp_nil, rwp_cons, rwpK_app, aop, gpath, St.get, slotAt, sfx, eqP, segsOf, St.put, addBlk, getB, setB, delB, ld1, ldn, st1, stn, setRow, rowNeed, segAt, nsub, bin, un, eqB, isShift, sameK, arith, shiftR, getsl, selB_or, selB_and, beqb, shed, addN, Nat.beq, Seg.size, sizes, imp, needP, andN, appL, argsOf, ptrsOf, aasOf, cut, takeS, dropS, putS, partsOf, fillS, fieldOf, nthA, negIf, nilq, nilB, eqS, eqF, eqS1, andP, kin, slcS, strOk, plusA, bndHi, leN, optG, roH, roL, initT, exOk, exAll, wrAddr, Nat.reduceAdd, Nat.reduceSub, Nat.reduceMul, Int.reduceToNat, List.append_nil, List.nil_append, List.cons_append, eqT, idxT, cat, cpy, ite_int, ite_bool, ite_seg, ite_segs, ite_nil, ite_twice, Int.toNat_natCast, app, addBs])); (repeat (first | (refine And.intro ?_ ?_; · first | trivial | assumption | omega))); with_reducible refine hK _ ?_; clear hK K)
    | (refine run_cond rfl (fun hc => ?_) (fun hc => ?_) <;> try (simp only [*, Bool.true_eq_false, Bool.false_eq_true, Bool.not_true, Bool.not_false, Bool.true_or, Bool.or_true, Bool.false_or, Bool.or_false, Bool.false_and, Bool.and_false, bne_self_eq_false, beq_self_eq_true] at hc; done))
    | refine run_block ?_
    | refine run_ret ?_
    | refine run_nil ?_
    | refine run_exit ?_
    | refine blk_normal ?_
    | refine blk_ret ?_
    | refine blk_here ?_
    | refine blk_there rfl ?_
    | refine loop_exit ?_
    | refine loop_ret ?_
    | refine un_exit ?_
    | refine un_ret ?_
    | refine unE_exit ?_
    | refine unE_ret ?_
    | refine un_normal ?_)
  exact end_tmp1 rfl rfl rfl ⟨rfl, rfl⟩
theorem con20 (c : CoreS) (H : Heap) : Con Try.prog 20 [.agg (coreL c)] H (fun v H' => v = .c (.bool ((c.el == 0 || c.el == 1) && decide (c.wait ≥ 0) && decide (c.wait ≤ 2) && decide (c.id ≥ 0) && decide (c.id ≤ 7))) ∧ H' = H) := by
  refine Con.pure ?_ (by simp only [coreL, leArgs, leV, leV1, leSegs, leSeg, leC, and_self, implies_true]) rfl H
  (refine con_of_run mixed (fn := Try.f20) (by kernel_rfl) (by kernel_rfl) C20_ok (rs := [.tmp 2]) (by kernel_rfl) (Nat.le_of_ble_eq_true (by kernel_rfl)) ?_; unfold C20; simp only [initT, Nat.reduceAdd])
  repeat' (first
    | refine run_seq ?_
    | refine run_skip ?_
    | (refine run_region fun K hK => ?_; (try (simp (maxSteps := 10000000) only [coreL, C20r0, C20r1, rwp_nil, rwp_cons, rwpK_app, aop, gpath, St.get, slotAt, sfx, eqP, segsOf, St.put, addBlk, getB, setB, delB, ld1, ldn, st1, stn, setRow, rowNeed, segAt, nsub, bin, un, eqB, isShift, sameK, arith, shiftR, getsl, selB_or, selB_and, beqb, shed, addN, Nat.beq, Seg.size, sizes, imp, needP, andN, appL, argsOf, ptrsOf, aasOf, cut, takeS, dropS, putS, partsOf, fillS, fieldOf, nthA, negIf, nilq, nilB, eqS, eqF, eqS1, andP, kin, slcS, strOk, plusA, bndHi, leN, optG, roH, roL, initT, exOk, exAll, wrAddr, Nat.reduceAdd, Nat.reduceSub, Nat.reduceMul, Int.reduceToNat, List.append_nil, List.nil_append, List.cons_append, eqT, idxT, cat, cpy, ite_int, ite_bool, ite_seg, ite_segs, ite_nil, ite_twice, Int.toNat_natCast, app, addBs])); (repeat (first | (refine And.intro ?_ ?_; · first | trivial | assumption | omega))); with_reducible refine hK _ ?_; clear hK K)
    | (refine run_cond rfl (fun hc => ?_) (fun hc => ?_) <;> try (simp only [*, Bool.true_eq_false, Bool.false_eq_true, Bool.not_true, Bool.not_false, Bool.true_or, Bool.or_true, Bool.false_or, Bool.or_false, Bool.false_and, Bool.and_false, bne_self_eq_false, beq_self_eq_true] at hc; done))
    | refine run_block ?_
    | refine run_ret ?_
    | refine run_nil ?_
    | refine run_exit ?_
    | refine blk_normal ?_
    | refine blk_ret ?_
    | refine blk_here ?_
    | refine blk_there rfl ?_
    | refine loop_exit ?_
    | refine loop_ret ?_
    | refine un_exit ?_
    | refine un_ret ?_
    | refine unE_exit ?_
    | refine unE_ret ?_
    | refine un_normal ?_)
  exact end_tmp1 rfl rfl rfl ⟨rfl, rfl⟩
set_option maxHeartbeats 4000000 in
theorem con46 (m : MicroS) (s : Int) (H : Heap) : Con Try.prog 46 [.agg (microL m), .c (.int .i64 s)] H (fun v H' => v = .c (.bool (fitsS m s)) ∧ H' = H) := by
  refine Con.pure ?_ (by simp only [microL, leArgs, leV, leV1, leSegs, leSeg, leC, and_self, implies_true]) rfl H
  (refine con_of_run mixed (fn := Try.f46) (by kernel_rfl) (by kernel_rfl) C46_ok (rs := [.tmp 4]) (by kernel_rfl) (Nat.le_of_ble_eq_true (by kernel_rfl)) ?_; unfold C46; simp only [initT, Nat.reduceAdd])
  repeat' (first
    | refine run_seq ?_
    | refine run_skip ?_
    | (refine run_region fun K hK => ?_; (try (simp (maxSteps := 10000000) only [microL, ne_eq, Int.reduceEq, not_false_eq_true, true_and, C46r0, C46r1, C46r2, C46r3, C46r4, C46r5, C46r6, C46r7, C46r8, C46r9, C46r10, C46r11, C46r12, C46r13, C46r14, C46r15, C46r16, C46r17, C46r18, C46r19, C46r20, C46r21, C46r22, C46r23, C46r24, C46r25, C46r26, rwp_nil, rwp_cons, rwpK_app, aop, gpath, St.get, slotAt, sfx, eqP, segsOf, St.put, addBlk, getB, setB, delB, ld1, ldn, st1, stn, setRow, rowNeed, segAt, nsub, bin, un, eqB, isShift, sameK, arith, shiftR, getsl, selB_or, selB_and, beqb, shed, addN, Nat.beq, Seg.size, sizes, imp, needP, andN, appL, argsOf, ptrsOf, aasOf, cut, takeS, dropS, putS, partsOf, fillS, fieldOf, nthA, negIf, nilq, nilB, eqS, eqF, eqS1, andP, kin, slcS, strOk, plusA, bndHi, leN, optG, roH, roL, initT, exOk, exAll, wrAddr, Nat.reduceAdd, Nat.reduceSub, Nat.reduceMul, Int.reduceToNat, List.append_nil, List.nil_append, List.cons_append, eqT, idxT, cat, cpy, ite_int, ite_bool, ite_seg, ite_segs, ite_nil, ite_twice, Int.toNat_natCast, app, addBs])); (repeat (first | (refine And.intro ?_ ?_; · first | trivial | assumption | omega) | ((first | (refine call_t _ (con29 _ _ _ _) ?_; rintro v H' ⟨rfl, rfl⟩) | refine call_q _ (con29 _ _ _ _) ?_ | refine call_g _ (imp_of (con29 _ _ _ _)) ?_); simp (maxSteps := 10000000) only [microL, ne_eq, Int.reduceEq, not_false_eq_true, true_and, C46r0, C46r1, C46r2, C46r3, C46r4, C46r5, C46r6, C46r7, C46r8, C46r9, C46r10, C46r11, C46r12, C46r13, C46r14, C46r15, C46r16, C46r17, C46r18, C46r19, C46r20, C46r21, C46r22, C46r23, C46r24, C46r25, C46r26, rwp_nil, rwp_cons, rwpK_app, aop, gpath, St.get, slotAt, sfx, eqP, segsOf, St.put, addBlk, getB, setB, delB, ld1, ldn, st1, stn, setRow, rowNeed, segAt, nsub, bin, un, eqB, isShift, sameK, arith, shiftR, getsl, selB_or, selB_and, beqb, shed, addN, Nat.beq, Seg.size, sizes, imp, needP, andN, appL, argsOf, ptrsOf, aasOf, cut, takeS, dropS, putS, partsOf, fillS, fieldOf, nthA, negIf, nilq, nilB, eqS, eqF, eqS1, andP, kin, slcS, strOk, plusA, bndHi, leN, optG, roH, roL, initT, exOk, exAll, wrAddr, Nat.reduceAdd, Nat.reduceSub, Nat.reduceMul, Int.reduceToNat, List.append_nil, List.nil_append, List.cons_append, eqT, idxT, cat, cpy, ite_int, ite_bool, ite_seg, ite_segs, ite_nil, ite_twice, Int.toNat_natCast, app, addBs]))); with_reducible refine hK _ ?_; clear hK K)
    | (refine run_cond rfl (fun hc => ?_) (fun hc => ?_) <;> try (simp only [*, Bool.true_eq_false, Bool.false_eq_true, Bool.not_true, Bool.not_false, Bool.true_or, Bool.or_true, Bool.false_or, Bool.or_false, Bool.false_and, Bool.and_false, bne_self_eq_false, beq_self_eq_true] at hc; done))
    | refine run_block ?_
    | refine run_ret ?_
    | refine run_nil ?_
    | refine run_exit ?_
    | refine blk_normal ?_
    | refine blk_ret ?_
    | refine blk_here ?_
    | refine blk_there rfl ?_
    | refine loop_exit ?_
    | refine loop_ret ?_
    | refine un_exit ?_
    | refine un_ret ?_
    | refine unE_exit ?_
    | refine unE_ret ?_
    | refine un_normal ?_)
  all_goals first | refine end_tmp1 rfl rfl rfl ⟨?_, rfl⟩ | skip
  all_goals simp only [beq_iff_eq, beq_eq_false_iff_ne, ne_eq, Bool.or_eq_true, Bool.or_eq_false_iff] at *
  all_goals try (simp only [fitsS, *, if_true, if_false, true_or, or_true, or_self]; done)
  all_goals simp [fitsS, *]
/-- A kind's word; its fields. -/
def refW (k : Int) : ByteArray × ByteArray := if k = 1 then (⟨#[99, 111, 110, 115, 116]⟩, ⟨#[68, 73]⟩) else if k = 2 then (⟨#[109, 111, 118, 101]⟩, ⟨#[68, 65]⟩) else if k = 3 then (⟨#[102, 105, 108, 108]⟩, ⟨#[68, 73]⟩) else if k = 4 then (⟨#[115, 112, 105, 108, 108]⟩, ⟨#[65, 73]⟩) else if k = 5 then (⟨#[103, 101, 116, 120]⟩, ⟨#[82, 68]⟩) else if k = 6 then (⟨#[115, 101, 116, 120]⟩, ⟨#[82, 65]⟩) else if k = 7 then (⟨#[103, 101, 116, 115, 112]⟩, ⟨#[68]⟩) else if k = 8 then (⟨#[115, 101, 116, 115, 112]⟩, ⟨#[65]⟩) else if k = 9 then (⟨#[103, 101, 116, 102]⟩, ⟨#[82, 68]⟩) else if k = 10 then (⟨#[115, 101, 116, 102]⟩, ⟨#[82, 65]⟩) else if k = 11 then (⟨#[97, 108, 117]⟩, ⟨#[82, 68, 65, 66]⟩) else if k = 12 then (⟨#[108, 111, 97, 100]⟩, ⟨#[68, 65, 79]⟩) else if k = 13 then (⟨#[115, 116, 111, 114, 101]⟩, ⟨#[65, 66, 79]⟩) else if k = 14 then (⟨#[108, 111, 97, 100, 101, 120]⟩, ⟨#[68, 65, 79]⟩) else if k = 15 then (⟨#[115, 116, 111, 114, 101, 101, 120]⟩, ⟨#[68, 65, 66, 79]⟩) else if k = 16 then (⟨#[102, 101, 110, 99, 101]⟩, ⟨#[]⟩) else if k = 17 then (⟨#[110, 111, 116, 101]⟩, ⟨#[82]⟩) else if k = 18 then (⟨#[97, 116]⟩, ⟨#[73]⟩) else if k = 19 then (⟨#[101, 120, 105, 116, 105, 102]⟩, ⟨#[65, 73]⟩) else if k = 20 then (⟨#[101, 120, 105, 116]⟩, ⟨#[73]⟩) else if k = 21 then (⟨#[101, 120, 105, 116, 116, 111]⟩, ⟨#[65]⟩) else if k = 22 then (⟨#[103, 117, 101, 115, 116]⟩, ⟨#[73]⟩) else (⟨#[]⟩, ⟨#[]⟩)
set_option maxHeartbeats 4000000 in
theorem con31 (k : Int) (H : Heap) : Con Try.prog 31 [.c (.int .i64 k)] H (fun v H' => v = .tup [.c (.str (refW k).1), .c (.str (refW k).2)] ∧ H' = H) := by
  refine Con.pure ?_ (by simp only [leArgs, leV, leV1, leC, and_self]) rfl H
  (refine con_of_run mixed (fn := Try.f31) (by kernel_rfl) (by kernel_rfl) C31_ok (rs := [.tmp 2, .tmp 3]) (by kernel_rfl) (Nat.le_of_ble_eq_true (by kernel_rfl)) ?_; unfold C31; simp only [initT, Nat.reduceAdd])
  repeat' (first
    | refine run_seq ?_
    | refine run_skip ?_
    | (refine run_region fun K hK => ?_; (try (simp (maxSteps := 10000000) only [C31r0, C31r1, C31r2, C31r3, C31r4, C31r5, C31r6, C31r7, C31r8, C31r9, C31r10, C31r11, C31r12, C31r13, C31r14, C31r15, C31r16, C31r17, C31r18, C31r19, C31r20, C31r21, C31r22, C31r23, C31r24, C31r25, C31r26, C31r27, C31r28, C31r29, C31r30, C31r31, C31r32, C31r33, C31r34, C31r35, C31r36, C31r37, C31r38, C31r39, C31r40, C31r41, C31r42, C31r43, C31r44, C31r45, C31r46, rwp_nil, rwp_cons, rwpK_app, aop, gpath, St.get, slotAt, sfx, eqP, segsOf, St.put, addBlk, getB, setB, delB, ld1, ldn, st1, stn, setRow, rowNeed, segAt, nsub, bin, un, eqB, isShift, sameK, arith, shiftR, getsl, selB_or, selB_and, beqb, shed, addN, Nat.beq, Seg.size, sizes, imp, needP, andN, appL, argsOf, ptrsOf, aasOf, cut, takeS, dropS, putS, partsOf, fillS, fieldOf, nthA, negIf, nilq, nilB, eqS, eqF, eqS1, andP, kin, slcS, strOk, plusA, bndHi, leN, optG, roH, roL, initT, exOk, exAll, wrAddr, Nat.reduceAdd, Nat.reduceSub, Nat.reduceMul, Int.reduceToNat, List.append_nil, List.nil_append, List.cons_append, eqT, idxT, cat, cpy, ite_int, ite_bool, ite_seg, ite_segs, ite_nil, ite_twice, Int.toNat_natCast, app, addBs])); (repeat (first | (refine And.intro ?_ ?_; · first | trivial | assumption | omega))); with_reducible refine hK _ ?_; clear hK K)
    | (refine run_cond rfl (fun hc => ?_) (fun hc => ?_) <;> try (simp only [*, Bool.true_eq_false, Bool.false_eq_true, Bool.not_true, Bool.not_false, Bool.true_or, Bool.or_true, Bool.false_or, Bool.or_false, Bool.false_and, Bool.and_false, bne_self_eq_false, beq_self_eq_true] at hc; done))
    | refine run_block ?_
    | refine run_ret ?_
    | refine run_nil ?_
    | refine run_exit ?_
    | refine blk_normal ?_
    | refine blk_ret ?_
    | refine blk_here ?_
    | refine blk_there rfl ?_
    | refine loop_exit ?_
    | refine loop_ret ?_
    | refine un_exit ?_
    | refine un_ret ?_
    | refine unE_exit ?_
    | refine unE_ret ?_
    | refine un_normal ?_)
  all_goals refine end_tmp2 rfl rfl rfl ?_ ?_ rfl rfl ⟨?_, rfl⟩
  all_goals try rfl
  all_goals simp only [beq_iff_eq, beq_eq_false_iff_ne, ne_eq] at *
  all_goals (simp only [refW, *, if_true, if_false, reduceIte]) <;> rfl
def hasL (s : ByteArray) (f : Int) : Nat → Nat → Bool
  | 0, _ => false
  | n + 1, i => if (byteAt s i == f) = true then true else hasL s f n (i + 1)
def hasS (s : ByteArray) (f : Int) : Bool := hasL s f s.size 0
def hasSt (s : ByteArray) (f i : Int) : St := ⟨[⟨5, [], .c (.int .i64 i)⟩, ⟨0, [], .c (.str s)⟩, ⟨1, [], .c (.int .u8 f)⟩], ⟨0, []⟩⟩
theorem con32 (s : ByteArray) (f : Int) (hs : s.size < 1000) (H : Heap) : Con Try.prog 32 [.c (.str s), .c (.int .u8 f)] H (fun v H' => v = .c (.bool (hasS s f)) ∧ H' = H) := by
  refine Con.pure ?_ (by simp only [leArgs, leV, leV1, leC, and_self]) rfl H
  (refine con_of_run mixed (fn := Try.f32) (by kernel_rfl) (by kernel_rfl) C32_ok (rs := [.tmp 4]) (by kernel_rfl) (Nat.le_of_ble_eq_true (by kernel_rfl)) ?_; unfold C32; simp only [initT, Nat.reduceAdd])
  repeat' (first
    | refine run_seq ?_
    | refine run_skip ?_
    | (refine run_region fun K hK => ?_; (try (simp (maxSteps := 10000000) only [C32r0, C32r2, C32r3, C32r4, C32r5, C32r6, rwp_nil, rwp_cons, rwpK_app, aop, gpath, St.get, slotAt, sfx, eqP, segsOf, St.put, addBlk, getB, setB, delB, ld1, ldn, st1, stn, setRow, rowNeed, segAt, nsub, bin, un, eqB, isShift, sameK, arith, shiftR, getsl, selB_or, selB_and, beqb, shed, addN, Nat.beq, Seg.size, sizes, imp, needP, andN, appL, argsOf, ptrsOf, aasOf, cut, takeS, dropS, putS, partsOf, fillS, fieldOf, nthA, negIf, nilq, nilB, eqS, eqF, eqS1, andP, kin, slcS, strOk, plusA, bndHi, leN, optG, roH, roL, initT, exOk, exAll, wrAddr, Nat.reduceAdd, Nat.reduceSub, Nat.reduceMul, Int.reduceToNat, List.append_nil, List.nil_append, List.cons_append, eqT, idxT, cat, cpy, ite_int, ite_bool, ite_seg, ite_segs, ite_nil, ite_twice, Int.toNat_natCast, app, addBs])); (repeat (first | (refine And.intro ?_ ?_; · decide))); with_reducible refine hK _ ?_; clear hK K)
    | (refine run_cond rfl (fun hc => ?_) (fun hc => ?_) <;> try (simp only [*, Bool.true_eq_false, Bool.false_eq_true, Bool.not_true, Bool.not_false, Bool.true_or, Bool.or_true, Bool.false_or, Bool.or_false, Bool.false_and, Bool.and_false, bne_self_eq_false, beq_self_eq_true] at hc; done))
    | refine run_block ?_
    | refine run_ret ?_
    | refine run_nil ?_
    | refine run_exit ?_
    | refine blk_normal ?_
    | refine blk_ret ?_
    | refine blk_here ?_
    | refine blk_there rfl ?_
    | refine loop_exit ?_
    | refine loop_ret ?_
    | refine un_exit ?_
    | refine un_ret ?_
    | refine unE_exit ?_
    | refine unE_ret ?_
    | refine un_normal ?_)
  (refine run_regionL fun K hK => ?_; (try (simp (maxSteps := 10000000) only [C32r0, C32r1, C32r2, C32r3, C32r4, C32r5, C32r6, rwp_nil, rwp_cons, rwpK_app, aop, gpath, St.get, slotAt, sfx, eqP, segsOf, St.put, addBlk, getB, setB, delB, ld1, ldn, st1, stn, setRow, rowNeed, segAt, nsub, bin, un, eqB, isShift, sameK, arith, shiftR, getsl, selB_or, selB_and, beqb, shed, addN, Nat.beq, Seg.size, sizes, imp, needP, andN, appL, argsOf, ptrsOf, aasOf, cut, takeS, dropS, putS, partsOf, fillS, fieldOf, nthA, negIf, nilq, nilB, eqS, eqF, eqS1, andP, kin, slcS, strOk, plusA, bndHi, leN, optG, roH, roL, initT, exOk, exAll, wrAddr, Nat.reduceAdd, Nat.reduceSub, Nat.reduceMul, Int.reduceToNat, List.append_nil, List.nil_append, List.cons_append, eqT, idxT, cat, cpy, ite_int, ite_bool, ite_seg, ite_segs, ite_nil, ite_twice, Int.toNat_natCast, app, addBs])); (repeat (refine And.intro ?_ ?_; · first | trivial | assumption | omega)); refine hK _ (hasSt s f 0) ((LeS.intro [] (fun i h => by omega) trivial rfl (by simp only [hasSt, slotsLe, slotAt, Nat.beq, leV, leV1, leC, and_self]) trivial)) ?_; clear hK K)
  refine run_block ?_
  have hres : hasS s f = hasL s f s.size 0 := rfl
  rw [hres]
  generalize hT : hasL s f s.size 0 = T
  clear hres
  refine run_loop (fun k st => ∃ i : Nat, st = hasSt s f i ∧ k = s.size - i ∧ i ≤ s.size ∧ hasL s f k i = T) s.size ⟨0, rfl, by omega, by omega, hT⟩ ?_
  rintro k st ⟨i, rfl, hk, hi, hT⟩
  simp only [hasSt]
  repeat' (first
    | refine run_seq ?_
    | refine run_skip ?_
    | (refine run_region fun K hK => ?_; (try (simp (maxSteps := 10000000) only [C32r0, C32r1, C32r2, C32r3, C32r4, C32r5, C32r6, rwp_nil, rwp_cons, rwpK_app, aop, gpath, St.get, slotAt, sfx, eqP, segsOf, St.put, addBlk, getB, setB, delB, ld1, ldn, st1, stn, setRow, rowNeed, segAt, nsub, bin, un, eqB, isShift, sameK, arith, shiftR, getsl, selB_or, selB_and, beqb, shed, addN, Nat.beq, Seg.size, sizes, imp, needP, andN, appL, argsOf, ptrsOf, aasOf, cut, takeS, dropS, putS, partsOf, fillS, fieldOf, nthA, negIf, nilq, nilB, eqS, eqF, eqS1, andP, kin, slcS, strOk, plusA, bndHi, leN, optG, roH, roL, initT, exOk, exAll, wrAddr, Nat.reduceAdd, Nat.reduceSub, Nat.reduceMul, Int.reduceToNat, List.append_nil, List.nil_append, List.cons_append, eqT, idxT, cat, cpy, ite_int, ite_bool, ite_seg, ite_segs, ite_nil, ite_twice, Int.toNat_natCast, app, addBs])); (repeat (first | (refine And.intro ?_ ?_; · (simp at hc; omega)))); with_reducible refine hK _ ?_; clear hK K)
    | (refine run_cond rfl (fun hc => ?_) (fun hc => ?_) <;> try (simp only [*, Bool.true_eq_false, Bool.false_eq_true, Bool.not_true, Bool.not_false, Bool.true_or, Bool.or_true, Bool.false_or, Bool.or_false, Bool.false_and, Bool.and_false, bne_self_eq_false, beq_self_eq_true] at hc; done))
    | refine run_block ?_
    | refine run_ret ?_
    | refine run_nil ?_
    | refine run_exit ?_
    | refine blk_normal ?_
    | refine blk_ret ?_
    | refine blk_here ?_
    | refine blk_there rfl ?_
    | refine loop_exit ?_
    | refine loop_ret ?_
    | refine un_exit ?_
    | refine un_ret ?_
    | refine unE_exit ?_
    | refine unE_ret ?_
    | refine un_normal ?_)
  · have hlt : i < s.size := by simpa using ‹decide ((i : Int) < (s.size : Int)) = true›
    obtain ⟨k', rfl⟩ : ∃ k', k = k' + 1 := ⟨k - 1, by omega⟩
    exact end_tmp1 rfl rfl rfl ⟨by rw [← hT]; simp only [hasL, hc, if_true], rfl⟩
  · have hlt : i < s.size := by simpa using ‹decide ((i : Int) < (s.size : Int)) = true›
    obtain ⟨k', rfl⟩ : ∃ k', k = k' + 1 := ⟨k - 1, by omega⟩
    simp only [hasL, hc, if_false, Bool.false_eq_true] at hT
    refine loop_normal k' (hasSt s f ((i + 1 : Nat) : Int)) (by omega) (LeS.intro [] (fun i h => by omega) trivial rfl (by
      have hw : IntKind.i64.wrap ((i : Int) + 1) = ((i + 1 : Nat) : Int) := by rw [IntKind.wrap_i64]; omega
      simp only [hasSt, slotsLe, slotAt, Nat.beq, leV, leV1, leC, and_self, hw]) trivial) ⟨i + 1, rfl, by omega, by omega, hT⟩
  · have hlt : ¬ i < s.size := by simpa using hc
    have h0 : k = 0 := by omega
    subst h0
    exact end_tmp1 rfl rfl rfl ⟨by rw [← hT]; rfl, rfl⟩
theorem ite_size {c : Prop} [Decidable c] {a b : ByteArray × ByteArray} (ha : a.2.size < 1000) (hb : b.2.size < 1000) : (if c then a else b).2.size < 1000 := by split <;> assumption
theorem refW_size (k : Int) : (refW k).2.size < 1000 := by
  unfold refW
  repeat' (first | (refine ite_size (by decide) ?_) | decide)
def rowB (n : Nat) (set : Nat → Bool) (wr : Bool) : Blk := ⟨1, some n, fun j => [.c (.bool (set j))], 4, wr⟩
def bad1 (W : ByteArray × ByteArray) (m : MicroS) (ns : Int) : Bool :=
  eqTb W.1 ⟨#[]⟩ || !fitsS m ns || (!hasS W.2 82 && m.r != 0) || (!hasS W.2 68 && m.d != 0) || (!hasS W.2 65 && m.a != 0) || (!hasS W.2 66 && m.b != 0) || (!hasS W.2 79 && m.order != 0) || (!hasS W.2 73 && m.imm != 0)
def bad2 (W : ByteArray × ByteArray) (m : MicroS) (set : Nat → Bool) : Bool :=
  !btw m.d 0 7 || !btw m.a 0 7 || !btw m.b 0 7 || (hasS W.2 65 && !set m.a.toNat) || (hasS W.2 66 && !set m.b.toNat)
def rightW (W : ByteArray × ByteArray) (m : MicroS) (set slot : Nat → Bool) (ns : Int) : Bool := !bad1 W m ns && !bad2 W m set && ((m.kind != 3) || slot m.imm.toNat)
def rightR (m : MicroS) (set slot : Nat → Bool) (ns : Int) : Bool := rightW (refW m.kind) m set slot ns
theorem ids01 : ∀ i, i < 2 → nthO [0, 1] i = some i := by
  intro i h
  match i, h with
  | 0, _ => rfl
  | 1, _ => rfl
theorem row_le {l : List Nat} (n : Nat) (set : Nat → Bool) (wr : Bool) : leB l (rowB n set wr) (rowB n set wr) := ⟨rfl, rfl, fun h => h, Nat.le_refl _, fun i _ => by simp only [rowB, leSegs, leSeg, leC, and_self]⟩
theorem end_30 {l : List Slot} {H : Heap} {R : Post} (set slot : Nat → Bool) (ns : Nat) (b : Bool) (h0 : getB H.blks 0 = some (rowB 8 set false)) (h1 : getB H.blks 1 = some (rowB ns slot false)) (h6 : slotAt l 6 = some ⟨6, [], .c (.bool b)⟩)
    (hR : R (.c (.bool b)) ⟨2, [(0, rowB 8 set false), (1, rowB ns slot false)]⟩) : endQ (LeS 2) [.tmp 6] R .ret ⟨l, H⟩ := by
  refine end_of ⟨[⟨6, [], .c (.bool b)⟩], ⟨2, [(0, rowB 8 set false), (1, rowB ns slot false)]⟩⟩ (LeS.intro [0, 1] ids01 (by simp only [diff, notIn, Nat.beq, and_self]) rfl ?_ ?_) ?_
  · simp only [slotsLe, h6, leV, leV1, leC, and_self]
  · simp only [leBlks, nthO, h0, h1]
    exact ⟨row_le _ _ _, row_le _ _ _, trivial⟩
  · have hg : St.get ⟨[⟨6, [], .c (.bool b)⟩], ⟨2, [(0, rowB 8 set false), (1, rowB ns slot false)]⟩⟩ [] (.t 6) = .c (.bool b) := rfl
    simp only [endF, resL, resA, hg, noTup, resV]
    exact hR
def st30 (W : ByteArray × ByteArray) (m : MicroS) (set slot : Nat → Bool) (ns : Nat) : St :=
  ⟨[⟨97, [], .c (.bool (bad1 W m ns))⟩, ⟨11, [], .c (.bool (hasS W.2 65))⟩, ⟨12, [], .c (.bool (hasS W.2 66))⟩, ⟨3, [], .c (.ptr ⟨2, 0, 0, 0⟩)⟩, ⟨1, [], .c (.slice ⟨0, 0, 0, 0⟩ false 8)⟩, ⟨2, [], .c (.slice ⟨1, 0, 0, 0⟩ false ns)⟩],
   ⟨3, [(0, rowB 8 set false), (1, rowB ns slot false), (2, ⟨7, none, fun _ => microL m, 34, true⟩)]⟩⟩
theorem ids012' : ∀ i, i < 2 → nthO [0, 1, 2] i = some i := by
  intro i h
  match i, h with
  | 0, _ => rfl
  | 1, _ => rfl
theorem micro_le {l : List Nat} (m : MicroS) : leB l ⟨7, none, fun _ => microL m, 34, true⟩ ⟨7, none, fun _ => microL m, 34, true⟩ := ⟨rfl, rfl, fun h => h, Nat.le_refl _, fun i _ => by simp only [microL, leSegs, leSeg, leC, and_self]⟩
theorem le_30 {l : List Slot} {H : Heap} (W : ByteArray × ByteArray) (m : MicroS) (set slot : Nat → Bool) (ns : Nat) (h0 : getB H.blks 0 = some (rowB 8 set false)) (h1 : getB H.blks 1 = some (rowB ns slot false)) (h2 : getB H.blks 2 = some ⟨7, none, fun _ => microL m, 34, true⟩)
    (e97 : slotAt l 97 = some ⟨97, [], .c (.bool (bad1 W m ns))⟩) (e11 : slotAt l 11 = some ⟨11, [], .c (.bool (hasS W.2 65))⟩) (e12 : slotAt l 12 = some ⟨12, [], .c (.bool (hasS W.2 66))⟩) (e3 : slotAt l 3 = some ⟨3, [], .c (.ptr ⟨2, 0, 0, 0⟩)⟩)
    (e1 : slotAt l 1 = some ⟨1, [], .c (.slice ⟨0, 0, 0, 0⟩ false 8)⟩) (e2 : slotAt l 2 = some ⟨2, [], .c (.slice ⟨1, 0, 0, 0⟩ false ns)⟩) : LeS 2 ⟨l, H⟩ (st30 W m set slot ns) := by
  refine LeS.intro [0, 1, 2] ids012' (by simp only [diff, notIn, Nat.beq, and_self]) rfl ?_ ?_
  · simp only [st30, slotsLe, e97, e11, e12, e3, e1, e2, leV, leV1, leC, leA, nthO, and_self]
  · simp only [st30, leBlks, nthO, h0, h1, h2]
    exact ⟨row_le _ _ _, row_le _ _ _, micro_le _, trivial⟩
theorem bad1_fits {W : ByteArray × ByteArray} {m : MicroS} {ns : Int} (h : bad1 W m ns = false) : fitsS m ns = true := by
  simp only [bad1, Bool.or_eq_false_iff, Bool.not_eq_false'] at h
  exact h.1.1.1.1.1.1.2
theorem fits3 {m : MicroS} {ns : Nat} (hns : ns < 1000000) (h : fitsS m ns = true) (hk : m.kind = 3) : m.imm < ns := by
  simp only [fitsS, hk] at h
  simp at h
  rw [show IntKind.u64.wrap (ns : Int) = ns by simp [IntKind.wrap, IntKind.bits, IntKind.signed]; omega] at h
  exact h
set_option maxHeartbeats 4000000 in
theorem con30 (m : MicroS) (set slot : Nat → Bool) (ns : Nat) (hns : ns < 1000000) (himm : 0 ≤ m.imm) :
    Con Try.prog 30 [.agg (microL m), .c (.slice ⟨0, 0, 0, 0⟩ false 8), .c (.slice ⟨1, 0, 0, 0⟩ false ns)] ⟨2, [(0, rowB 8 set false), (1, rowB ns slot false)]⟩ (fun v H' => v = .c (.bool (rightR m set slot ns)) ∧ H' = ⟨2, [(0, rowB 8 set false), (1, rowB ns slot false)]⟩) := by
  (refine con_of_run mixed (fn := Try.f30) (by kernel_rfl) (by kernel_rfl) C30_ok (rs := [.tmp 6]) (by kernel_rfl) (Nat.le_of_ble_eq_true (by kernel_rfl)) ?_; unfold C30; simp only [initT, Nat.reduceAdd])
  simp only [rowB, rightR]
  repeat' (first
    | refine run_seq ?_
    | refine run_skip ?_
    | (refine run_region fun K hK => ?_; (try (simp (maxSteps := 10000000) only [microL, C30r0, C30r1, C30r3, C30r4, C30r5, C30r6, C30r7, C30r8, C30r9, C30r10, C30r11, C30r12, C30r13, rwp_nil, rwp_cons, rwpK_app, aop, gpath, St.get, slotAt, sfx, eqP, segsOf, St.put, addBlk, getB, setB, delB, ld1, ldn, st1, stn, setRow, rowNeed, segAt, nsub, bin, un, eqB, isShift, sameK, arith, shiftR, getsl, selB_or, selB_and, beqb, shed, addN, Nat.beq, Seg.size, sizes, imp, needP, andN, appL, argsOf, ptrsOf, aasOf, cut, takeS, dropS, putS, partsOf, fillS, fieldOf, nthA, negIf, nilq, nilB, eqS, eqF, eqS1, andP, kin, slcS, strOk, plusA, bndHi, leN, optG, roH, roL, initT, exOk, exAll, wrAddr, Nat.reduceAdd, Nat.reduceSub, Nat.reduceMul, Int.reduceToNat, List.append_nil, List.nil_append, List.cons_append, eqT, idxT, cat, cpy, ite_int, ite_bool, ite_seg, ite_segs, ite_nil, ite_twice, Int.toNat_natCast, app, addBs])); (repeat (first | (refine And.intro ?_ ?_; · (intros; omega)) | ((first | (refine call_t _ (con31 _ _) ?_; rintro v H' ⟨rfl, rfl⟩) | refine call_q _ (con31 _ _) ?_ | refine call_g _ (imp_of (con31 _ _)) ?_); simp (maxSteps := 10000000) only [microL, C30r0, C30r1, C30r3, C30r4, C30r5, C30r6, C30r7, C30r8, C30r9, C30r10, C30r11, C30r12, C30r13, rwp_nil, rwp_cons, rwpK_app, aop, gpath, St.get, slotAt, sfx, eqP, segsOf, St.put, addBlk, getB, setB, delB, ld1, ldn, st1, stn, setRow, rowNeed, segAt, nsub, bin, un, eqB, isShift, sameK, arith, shiftR, getsl, selB_or, selB_and, beqb, shed, addN, Nat.beq, Seg.size, sizes, imp, needP, andN, appL, argsOf, ptrsOf, aasOf, cut, takeS, dropS, putS, partsOf, fillS, fieldOf, nthA, negIf, nilq, nilB, eqS, eqF, eqS1, andP, kin, slcS, strOk, plusA, bndHi, leN, optG, roH, roL, initT, exOk, exAll, wrAddr, Nat.reduceAdd, Nat.reduceSub, Nat.reduceMul, Int.reduceToNat, List.append_nil, List.nil_append, List.cons_append, eqT, idxT, cat, cpy, ite_int, ite_bool, ite_seg, ite_segs, ite_nil, ite_twice, Int.toNat_natCast, app, addBs]))); with_reducible refine hK _ ?_; clear hK K)
    | (refine run_cond rfl (fun hc => ?_) (fun hc => ?_) <;> try (simp only [*, Bool.true_eq_false, Bool.false_eq_true, Bool.not_true, Bool.not_false, Bool.true_or, Bool.or_true, Bool.false_or, Bool.or_false, Bool.false_and, Bool.and_false, bne_self_eq_false, beq_self_eq_true] at hc; done))
    | refine run_block ?_
    | refine run_ret ?_
    | refine run_nil ?_
    | refine run_exit ?_
    | refine blk_normal ?_
    | refine blk_ret ?_
    | refine blk_here ?_
    | refine blk_there rfl ?_
    | refine loop_exit ?_
    | refine loop_ret ?_
    | refine un_exit ?_
    | refine un_ret ?_
    | refine unE_exit ?_
    | refine unE_ret ?_
    | refine un_normal ?_)
  have hsz := refW_size m.kind
  generalize refW m.kind = W at *
  repeat' (first
    | refine run_seq ?_
    | refine run_skip ?_
    | (refine run_region fun K hK => ?_; (try (simp (maxSteps := 10000000) only [microL, C30r0, C30r1, C30r2, C30r3, C30r4, C30r5, C30r6, C30r7, C30r8, C30r10, C30r11, C30r12, C30r13, rwp_nil, rwp_cons, rwpK_app, aop, gpath, St.get, slotAt, sfx, eqP, segsOf, St.put, addBlk, getB, setB, delB, ld1, ldn, st1, stn, setRow, rowNeed, segAt, nsub, bin, un, eqB, isShift, sameK, arith, shiftR, getsl, selB_or, selB_and, beqb, shed, addN, Nat.beq, Seg.size, sizes, imp, needP, andN, appL, argsOf, ptrsOf, aasOf, cut, takeS, dropS, putS, partsOf, fillS, fieldOf, nthA, negIf, nilq, nilB, eqS, eqF, eqS1, andP, kin, slcS, strOk, plusA, bndHi, leN, optG, roH, roL, initT, exOk, exAll, wrAddr, Nat.reduceAdd, Nat.reduceSub, Nat.reduceMul, Int.reduceToNat, List.append_nil, List.nil_append, List.cons_append, eqT, idxT, cat, cpy, ite_int, ite_bool, ite_seg, ite_segs, ite_nil, ite_twice, Int.toNat_natCast, app, addBs])); (repeat (first | (refine And.intro ?_ ?_; · (intros; omega)) | ((first | (refine call_t _ (con32 _ _ hsz _) ?_; rintro v H' ⟨rfl, rfl⟩) | refine call_q _ (con32 _ _ hsz _) ?_ | refine call_g _ (imp_of (con32 _ _ hsz _)) ?_ | (refine call_t _ (con46 m _ _) ?_; rintro v H' ⟨rfl, rfl⟩) | refine call_q _ (con46 m _ _) ?_ | refine call_g _ (imp_of (con46 m _ _)) ?_ | (refine call_t _ (con29 _ _ _ _) ?_; rintro v H' ⟨rfl, rfl⟩) | refine call_q _ (con29 _ _ _ _) ?_ | refine call_g _ (imp_of (con29 _ _ _ _)) ?_); simp (maxSteps := 10000000) only [microL, C30r0, C30r1, C30r2, C30r3, C30r4, C30r5, C30r6, C30r7, C30r8, C30r10, C30r11, C30r12, C30r13, rwp_nil, rwp_cons, rwpK_app, aop, gpath, St.get, slotAt, sfx, eqP, segsOf, St.put, addBlk, getB, setB, delB, ld1, ldn, st1, stn, setRow, rowNeed, segAt, nsub, bin, un, eqB, isShift, sameK, arith, shiftR, getsl, selB_or, selB_and, beqb, shed, addN, Nat.beq, Seg.size, sizes, imp, needP, andN, appL, argsOf, ptrsOf, aasOf, cut, takeS, dropS, putS, partsOf, fillS, fieldOf, nthA, negIf, nilq, nilB, eqS, eqF, eqS1, andP, kin, slcS, strOk, plusA, bndHi, leN, optG, roH, roL, initT, exOk, exAll, wrAddr, Nat.reduceAdd, Nat.reduceSub, Nat.reduceMul, Int.reduceToNat, List.append_nil, List.nil_append, List.cons_append, eqT, idxT, cat, cpy, ite_int, ite_bool, ite_seg, ite_segs, ite_nil, ite_twice, Int.toNat_natCast, app, addBs]))); with_reducible refine hK _ ?_; clear hK K)
    | (refine run_cond rfl (fun hc => ?_) (fun hc => ?_) <;> try (simp only [*, Bool.true_eq_false, Bool.false_eq_true, Bool.not_true, Bool.not_false, Bool.true_or, Bool.or_true, Bool.false_or, Bool.or_false, Bool.false_and, Bool.and_false, bne_self_eq_false, beq_self_eq_true] at hc; done))
    | refine run_block ?_
    | refine run_ret ?_
    | refine run_nil ?_
    | refine run_exit ?_
    | refine blk_normal ?_
    | refine blk_ret ?_
    | refine blk_here ?_
    | refine blk_there rfl ?_
    | refine loop_exit ?_
    | refine loop_ret ?_
    | refine un_exit ?_
    | refine un_ret ?_
    | refine unE_exit ?_
    | refine unE_ret ?_
    | refine un_normal ?_)
  (refine run_regionL fun K hK => ?_; (try (simp (maxSteps := 10000000) only [microL, C30r0, C30r1, C30r2, C30r3, C30r4, C30r5, C30r6, C30r7, C30r8, C30r9, C30r10, C30r11, C30r12, C30r13, rwp_nil, rwp_cons, rwpK_app, aop, gpath, St.get, slotAt, sfx, eqP, segsOf, St.put, addBlk, getB, setB, delB, ld1, ldn, st1, stn, setRow, rowNeed, segAt, nsub, bin, un, eqB, isShift, sameK, arith, shiftR, getsl, selB_or, selB_and, beqb, shed, addN, Nat.beq, Seg.size, sizes, imp, needP, andN, appL, argsOf, ptrsOf, aasOf, cut, takeS, dropS, putS, partsOf, fillS, fieldOf, nthA, negIf, nilq, nilB, eqS, eqF, eqS1, andP, kin, slcS, strOk, plusA, bndHi, leN, optG, roH, roL, initT, exOk, exAll, wrAddr, Nat.reduceAdd, Nat.reduceSub, Nat.reduceMul, Int.reduceToNat, List.append_nil, List.nil_append, List.cons_append, eqT, idxT, cat, cpy, ite_int, ite_bool, ite_seg, ite_segs, ite_nil, ite_twice, Int.toNat_natCast, app, addBs])); (repeat (refine And.intro ?_ ?_; · omega)); refine hK _ (st30 W m set slot ns) (le_30 W m set slot ns rfl rfl rfl rfl rfl rfl rfl rfl rfl) ?_; clear hK K)
  simp only [st30, rowB]
  repeat' (first
    | refine run_seq ?_
    | refine run_skip ?_
    | (refine run_region fun K hK => ?_; (try (simp (maxSteps := 10000000) only [microL, C30r0, C30r1, C30r2, C30r3, C30r4, C30r5, C30r6, C30r7, C30r8, C30r9, C30r10, C30r12, C30r13, rwp_nil, rwp_cons, rwpK_app, aop, gpath, St.get, slotAt, sfx, eqP, segsOf, St.put, addBlk, getB, setB, delB, ld1, ldn, st1, stn, setRow, rowNeed, segAt, nsub, bin, un, eqB, isShift, sameK, arith, shiftR, getsl, selB_or, selB_and, beqb, shed, addN, Nat.beq, Seg.size, sizes, imp, needP, andN, appL, argsOf, ptrsOf, aasOf, cut, takeS, dropS, putS, partsOf, fillS, fieldOf, nthA, negIf, nilq, nilB, eqS, eqF, eqS1, andP, kin, slcS, strOk, plusA, bndHi, leN, optG, roH, roL, initT, exOk, exAll, wrAddr, Nat.reduceAdd, Nat.reduceSub, Nat.reduceMul, Int.reduceToNat, List.append_nil, List.nil_append, List.cons_append, eqT, idxT, cat, cpy, ite_int, ite_bool, ite_seg, ite_segs, ite_nil, ite_twice, Int.toNat_natCast, app, addBs])); (repeat (first | (refine And.intro ?_ ?_; · (intros; omega)) | ((first | (refine call_t _ (con29 _ _ _ _) ?_; rintro v H' ⟨rfl, rfl⟩) | refine call_q _ (con29 _ _ _ _) ?_ | refine call_g _ (imp_of (con29 _ _ _ _)) ?_); simp (maxSteps := 10000000) only [microL, C30r0, C30r1, C30r2, C30r3, C30r4, C30r5, C30r6, C30r7, C30r8, C30r9, C30r10, C30r12, C30r13, rwp_nil, rwp_cons, rwpK_app, aop, gpath, St.get, slotAt, sfx, eqP, segsOf, St.put, addBlk, getB, setB, delB, ld1, ldn, st1, stn, setRow, rowNeed, segAt, nsub, bin, un, eqB, isShift, sameK, arith, shiftR, getsl, selB_or, selB_and, beqb, shed, addN, Nat.beq, Seg.size, sizes, imp, needP, andN, appL, argsOf, ptrsOf, aasOf, cut, takeS, dropS, putS, partsOf, fillS, fieldOf, nthA, negIf, nilq, nilB, eqS, eqF, eqS1, andP, kin, slcS, strOk, plusA, bndHi, leN, optG, roH, roL, initT, exOk, exAll, wrAddr, Nat.reduceAdd, Nat.reduceSub, Nat.reduceMul, Int.reduceToNat, List.append_nil, List.nil_append, List.cons_append, eqT, idxT, cat, cpy, ite_int, ite_bool, ite_seg, ite_segs, ite_nil, ite_twice, Int.toNat_natCast, app, addBs]))); with_reducible refine hK _ ?_; clear hK K)
    | (refine run_cond rfl (fun hc => ?_) (fun hc => ?_) <;> try (simp only [*, Bool.true_eq_false, Bool.false_eq_true, Bool.not_true, Bool.not_false, Bool.true_or, Bool.or_true, Bool.false_or, Bool.or_false, Bool.false_and, Bool.and_false, bne_self_eq_false, beq_self_eq_true] at hc; done))
    | refine run_block ?_
    | refine run_ret ?_
    | refine run_nil ?_
    | refine run_exit ?_
    | refine blk_normal ?_
    | refine blk_ret ?_
    | refine blk_here ?_
    | refine blk_there rfl ?_
    | refine loop_exit ?_
    | refine loop_ret ?_
    | refine un_exit ?_
    | refine un_ret ?_
    | refine unE_exit ?_
    | refine unE_ret ?_
    | refine un_normal ?_)
  · exact end_30 set slot ns false rfl rfl rfl ⟨by simp only [rightW, hc, Bool.not_true, Bool.false_and], rfl⟩
  · have h1 : bad1 W m ns = false := hc
    have hf3 := fits3 hns (bad1_fits h1)
    clear hc
    repeat' (first
    | refine run_seq ?_
    | refine run_skip ?_
    | (refine run_region fun K hK => ?_; (try (simp (maxSteps := 10000000) only [microL, C30r0, C30r1, C30r2, C30r3, C30r4, C30r5, C30r6, C30r7, C30r8, C30r9, C30r10, C30r11, C30r12, rwp_nil, rwp_cons, rwpK_app, aop, gpath, St.get, slotAt, sfx, eqP, segsOf, St.put, addBlk, getB, setB, delB, ld1, ldn, st1, stn, setRow, rowNeed, segAt, nsub, bin, un, eqB, isShift, sameK, arith, shiftR, getsl, selB_or, selB_and, beqb, shed, addN, Nat.beq, Seg.size, sizes, imp, needP, andN, appL, argsOf, ptrsOf, aasOf, cut, takeS, dropS, putS, partsOf, fillS, fieldOf, nthA, negIf, nilq, nilB, eqS, eqF, eqS1, andP, kin, slcS, strOk, plusA, bndHi, leN, optG, roH, roL, initT, exOk, exAll, wrAddr, Nat.reduceAdd, Nat.reduceSub, Nat.reduceMul, Int.reduceToNat, List.append_nil, List.nil_append, List.cons_append, eqT, idxT, cat, cpy, ite_int, ite_bool, ite_seg, ite_segs, ite_nil, ite_twice, Int.toNat_natCast, app, addBs])); (repeat (first | (refine And.intro ?_ ?_; · (clear hK; intros; simp at *; omega)) | ((first | (refine call_t _ (con29 _ _ _ _) ?_; rintro v H' ⟨rfl, rfl⟩) | refine call_q _ (con29 _ _ _ _) ?_ | refine call_g _ (imp_of (con29 _ _ _ _)) ?_); simp (maxSteps := 10000000) only [microL, C30r0, C30r1, C30r2, C30r3, C30r4, C30r5, C30r6, C30r7, C30r8, C30r9, C30r10, C30r11, C30r12, rwp_nil, rwp_cons, rwpK_app, aop, gpath, St.get, slotAt, sfx, eqP, segsOf, St.put, addBlk, getB, setB, delB, ld1, ldn, st1, stn, setRow, rowNeed, segAt, nsub, bin, un, eqB, isShift, sameK, arith, shiftR, getsl, selB_or, selB_and, beqb, shed, addN, Nat.beq, Seg.size, sizes, imp, needP, andN, appL, argsOf, ptrsOf, aasOf, cut, takeS, dropS, putS, partsOf, fillS, fieldOf, nthA, negIf, nilq, nilB, eqS, eqF, eqS1, andP, kin, slcS, strOk, plusA, bndHi, leN, optG, roH, roL, initT, exOk, exAll, wrAddr, Nat.reduceAdd, Nat.reduceSub, Nat.reduceMul, Int.reduceToNat, List.append_nil, List.nil_append, List.cons_append, eqT, idxT, cat, cpy, ite_int, ite_bool, ite_seg, ite_segs, ite_nil, ite_twice, Int.toNat_natCast, app, addBs]))); with_reducible refine hK _ ?_; clear hK K)
    | (refine run_cond rfl (fun hc => ?_) (fun hc => ?_) <;> try (simp only [*, Bool.true_eq_false, Bool.false_eq_true, Bool.not_true, Bool.not_false, Bool.true_or, Bool.or_true, Bool.false_or, Bool.or_false, Bool.false_and, Bool.and_false, bne_self_eq_false, beq_self_eq_true] at hc; done))
    | refine run_block ?_
    | refine run_ret ?_
    | refine run_nil ?_
    | refine run_exit ?_
    | refine blk_normal ?_
    | refine blk_ret ?_
    | refine blk_here ?_
    | refine blk_there rfl ?_
    | refine loop_exit ?_
    | refine loop_ret ?_
    | refine un_exit ?_
    | refine un_ret ?_
    | refine unE_exit ?_
    | refine unE_ret ?_
    | refine un_normal ?_)
    · have h2 : bad2 W m set = true := hc
      exact end_30 set slot ns false rfl rfl rfl ⟨by simp only [rightW, h1, h2, Bool.not_true, Bool.false_and, Bool.and_false], rfl⟩
    · have h2 : bad2 W m set = false := hc
      clear hc
      repeat' (first
    | refine run_seq ?_
    | refine run_skip ?_
    | (refine run_region fun K hK => ?_; (try (simp (maxSteps := 10000000) only [microL, C30r0, C30r1, C30r2, C30r3, C30r4, C30r5, C30r6, C30r7, C30r8, C30r9, C30r10, C30r11, C30r12, C30r13, rwp_nil, rwp_cons, rwpK_app, aop, gpath, St.get, slotAt, sfx, eqP, segsOf, St.put, addBlk, getB, setB, delB, ld1, ldn, st1, stn, setRow, rowNeed, segAt, nsub, bin, un, eqB, isShift, sameK, arith, shiftR, getsl, selB_or, selB_and, beqb, shed, addN, Nat.beq, Seg.size, sizes, imp, needP, andN, appL, argsOf, ptrsOf, aasOf, cut, takeS, dropS, putS, partsOf, fillS, fieldOf, nthA, negIf, nilq, nilB, eqS, eqF, eqS1, andP, kin, slcS, strOk, plusA, bndHi, leN, optG, roH, roL, initT, exOk, exAll, wrAddr, Nat.reduceAdd, Nat.reduceSub, Nat.reduceMul, Int.reduceToNat, List.append_nil, List.nil_append, List.cons_append, eqT, idxT, cat, cpy, ite_int, ite_bool, ite_seg, ite_segs, ite_nil, ite_twice, Int.toNat_natCast, app, addBs])); (repeat (first | (refine And.intro ?_ ?_; · (simp; intro hk; have := hf3 hk; omega)) | ((first | (refine call_t _ (con29 _ _ _ _) ?_; rintro v H' ⟨rfl, rfl⟩) | refine call_q _ (con29 _ _ _ _) ?_ | refine call_g _ (imp_of (con29 _ _ _ _)) ?_); simp (maxSteps := 10000000) only [microL, C30r0, C30r1, C30r2, C30r3, C30r4, C30r5, C30r6, C30r7, C30r8, C30r9, C30r10, C30r11, C30r12, C30r13, rwp_nil, rwp_cons, rwpK_app, aop, gpath, St.get, slotAt, sfx, eqP, segsOf, St.put, addBlk, getB, setB, delB, ld1, ldn, st1, stn, setRow, rowNeed, segAt, nsub, bin, un, eqB, isShift, sameK, arith, shiftR, getsl, selB_or, selB_and, beqb, shed, addN, Nat.beq, Seg.size, sizes, imp, needP, andN, appL, argsOf, ptrsOf, aasOf, cut, takeS, dropS, putS, partsOf, fillS, fieldOf, nthA, negIf, nilq, nilB, eqS, eqF, eqS1, andP, kin, slcS, strOk, plusA, bndHi, leN, optG, roH, roL, initT, exOk, exAll, wrAddr, Nat.reduceAdd, Nat.reduceSub, Nat.reduceMul, Int.reduceToNat, List.append_nil, List.nil_append, List.cons_append, eqT, idxT, cat, cpy, ite_int, ite_bool, ite_seg, ite_segs, ite_nil, ite_twice, Int.toNat_natCast, app, addBs]))); with_reducible refine hK _ ?_; clear hK K)
    | (refine run_cond rfl (fun hc => ?_) (fun hc => ?_) <;> try (simp only [*, Bool.true_eq_false, Bool.false_eq_true, Bool.not_true, Bool.not_false, Bool.true_or, Bool.or_true, Bool.false_or, Bool.or_false, Bool.false_and, Bool.and_false, bne_self_eq_false, beq_self_eq_true] at hc; done))
    | refine run_block ?_
    | refine run_ret ?_
    | refine run_nil ?_
    | refine run_exit ?_
    | refine blk_normal ?_
    | refine blk_ret ?_
    | refine blk_here ?_
    | refine blk_there rfl ?_
    | refine loop_exit ?_
    | refine loop_ret ?_
    | refine un_exit ?_
    | refine un_ret ?_
    | refine unE_exit ?_
    | refine unE_ret ?_
    | refine un_normal ?_)
      exact end_30 set slot ns _ rfl rfl rfl ⟨by simp only [rightW, h1, h2, Bool.not_false, Bool.true_and], rfl⟩
end Go.Proofs.Yteikpddilabppaa
