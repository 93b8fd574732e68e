/- micro: the chapter's example, run. -/
import Derived.Test.YteikpddilabppaaKn5
namespace Go.Proofs.Yteikpddilabppaa
open Go.AM
set_option maxRecDepth 100000
set_option linter.unusedSimpArgs false
set_option linter.unusedVariables false
theorem keysLt_roL : ∀ {X : List (Nat × Blk)} {n : Nat}, keysLt X n → keysLt (roL X) n
  | [], _, _ => trivial
  | (_, ⟨_, _, _, _, _⟩) :: _, _, h => ⟨h.1, keysLt_roL h.2⟩
set_option maxHeartbeats 4000000 in
theorem con5 (H : Heap) : Con Try.prog 5 [] H (fun v H' => v = .c (.bool true) ∧ H' = H) := by
  refine Con.pure ?_ (by simp only [leArgs]) rfl H
  (refine con_of_run mixed (fn := Try.f5) (by kernel_rfl) (by kernel_rfl) C5_ok (rs := [.tmp 0]) (by kernel_rfl) (Nat.le_of_ble_eq_true (by kernel_rfl)) ?_; unfold C5; simp only [initT, Nat.reduceAdd])
  generalize hR : (fun (v : AV) (H' : Heap) => v = AV.c (CV.bool true) ∧ H' = ⟨0, []⟩) = R
  repeat' (first
    | refine run_seq ?_
    | refine run_skip ?_
    | (refine run_region fun K hK => ?_; (try (simp (maxSteps := 10000000) only [microL, wantL, want0, coreL, s0_def, s1_def, s2_def, s3_def, s4_def, t0_def, t1_def, C5r0, C5r1, C5r2, C5r4, C5r5, C5r6, C5r7, C5r8, C5r9, C5r10, C5r11, C5r12, C5r13, C5r14, C5r15, C5r16, C5r17, C5r18, rwp_nil, rwp_cons, rwpK_app, aop, gpath, St.get, slotAt, sfx, eqP, segsOf, St.put, addBlk, getB, setB, delB, ld1, ldn, st1, stn, setRow, rowNeed, segAt, nsub, bin, un, eqB, isShift, sameK, arith, shiftR, getsl, selB_or, selB_and, beqb, shed, addN, Nat.beq, Seg.size, sizes, imp, needP, andN, appL, argsOf, ptrsOf, aasOf, cut, takeS, dropS, putS, partsOf, fillS, fieldOf, nthA, negIf, nilq, nilB, eqS, eqF, eqS1, andP, kin, slcS, strOk, plusA, bndHi, leN, optG, roH, roL, initT, exOk, exAll, wrAddr, Nat.reduceAdd, Nat.reduceSub, Nat.reduceMul, Int.reduceToNat, List.append_nil, List.nil_append, List.cons_append, eqT, idxT, cat, cpy, ite_int, ite_bool, ite_seg, ite_segs, ite_nil, ite_twice, Int.toNat_natCast, app, addBs])); (repeat (first | (refine And.intro ?_ ?_; · (first | omega | decide)))); with_reducible refine hK _ ?_; clear hK K)
    | (refine run_cond rfl (fun hc => ?_) (fun hc => ?_) <;> try (simp only [*, Bool.true_eq_false, Bool.false_eq_true, Bool.not_true, Bool.not_false, Bool.true_or, Bool.or_true, Bool.false_or, Bool.or_false, Bool.false_and, Bool.and_false, bne_self_eq_false, beq_self_eq_true] at hc; done))
    | refine run_block ?_
    | refine run_ret ?_
    | refine run_nil ?_
    | refine run_exit ?_
    | refine blk_normal ?_
    | refine blk_ret ?_
    | refine blk_here ?_
    | refine blk_there rfl ?_
    | refine loop_exit ?_
    | refine loop_ret ?_
    | refine un_exit ?_
    | refine un_ret ?_
    | refine unE_exit ?_
    | refine unE_ret ?_
    | refine un_normal ?_)
  refine run_region fun K hK => ?_
  simp (maxSteps := 10000000) only [microL, wantL, want0, coreL, s0_def, s1_def, s2_def, s3_def, s4_def, t0_def, t1_def, C5r0, C5r1, C5r2, C5r3, C5r4, C5r5, C5r6, C5r7, C5r8, C5r9, C5r10, C5r11, C5r12, C5r13, C5r14, C5r15, C5r16, C5r17, C5r18, rwp_nil, rwp_cons, rwpK_app, aop, gpath, St.get, slotAt, sfx, eqP, segsOf, St.put, addBlk, getB, setB, delB, ld1, ldn, st1, stn, setRow, rowNeed, segAt, nsub, bin, un, eqB, isShift, sameK, arith, shiftR, getsl, selB_or, selB_and, beqb, shed, addN, Nat.beq, Seg.size, sizes, imp, needP, andN, appL, argsOf, ptrsOf, aasOf, cut, takeS, dropS, putS, partsOf, fillS, fieldOf, nthA, negIf, nilq, nilB, eqS, eqF, eqS1, andP, kin, slcS, strOk, plusA, bndHi, leN, optG, roH, roL, initT, exOk, exAll, wrAddr, Nat.reduceAdd, Nat.reduceSub, Nat.reduceMul, Int.reduceToNat, List.append_nil, List.nil_append, List.cons_append, eqT, idxT, cat, cpy, ite_int, ite_bool, ite_seg, ite_segs, ite_nil, ite_twice, Int.toNat_natCast, app, addBs]
  refine call_n _ [opsBk exC true] rfl (con16_n _ _ (by simp [roL, keysLt])) ?_
  simp (maxSteps := 10000000) only [microL, wantL, want0, coreL, s0_def, s1_def, s2_def, s3_def, s4_def, t0_def, t1_def, C5r0, C5r1, C5r2, C5r3, C5r4, C5r5, C5r6, C5r7, C5r8, C5r9, C5r10, C5r11, C5r12, C5r13, C5r14, C5r15, C5r16, C5r17, C5r18, rwp_nil, rwp_cons, rwpK_app, aop, gpath, St.get, slotAt, sfx, eqP, segsOf, St.put, addBlk, getB, setB, delB, ld1, ldn, st1, stn, setRow, rowNeed, segAt, nsub, bin, un, eqB, isShift, sameK, arith, shiftR, getsl, selB_or, selB_and, beqb, shed, addN, Nat.beq, Seg.size, sizes, imp, needP, andN, appL, argsOf, ptrsOf, aasOf, cut, takeS, dropS, putS, partsOf, fillS, fieldOf, nthA, negIf, nilq, nilB, eqS, eqF, eqS1, andP, kin, slcS, strOk, plusA, bndHi, leN, optG, roH, roL, initT, exOk, exAll, wrAddr, Nat.reduceAdd, Nat.reduceSub, Nat.reduceMul, Int.reduceToNat, List.append_nil, List.nil_append, List.cons_append, eqT, idxT, cat, cpy, ite_int, ite_bool, ite_seg, ite_segs, ite_nil, ite_twice, Int.toNat_natCast, app, addBs]
  refine call_t _ (con6_n exC (exK 8) ex_imm (ex_err 8) 1 2 _ true rfl (by decide) (by simp [keysLt])) ?_
  rintro v H' ⟨rfl, rfl⟩
  simp (maxSteps := 10000000) only [microL, wantL, want0, coreL, s0_def, s1_def, s2_def, s3_def, s4_def, t0_def, t1_def, C5r0, C5r1, C5r2, C5r3, C5r4, C5r5, C5r6, C5r7, C5r8, C5r9, C5r10, C5r11, C5r12, C5r13, C5r14, C5r15, C5r16, C5r17, C5r18, rwp_nil, rwp_cons, rwpK_app, aop, gpath, St.get, slotAt, sfx, eqP, segsOf, St.put, addBlk, getB, setB, delB, ld1, ldn, st1, stn, setRow, rowNeed, segAt, nsub, bin, un, eqB, isShift, sameK, arith, shiftR, getsl, selB_or, selB_and, beqb, shed, addN, Nat.beq, Seg.size, sizes, imp, needP, andN, appL, argsOf, ptrsOf, aasOf, cut, takeS, dropS, putS, partsOf, fillS, fieldOf, nthA, negIf, nilq, nilB, eqS, eqF, eqS1, andP, kin, slcS, strOk, plusA, bndHi, leN, optG, roH, roL, initT, exOk, exAll, wrAddr, Nat.reduceAdd, Nat.reduceSub, Nat.reduceMul, Int.reduceToNat, List.append_nil, List.nil_append, List.cons_append, eqT, idxT, cat, cpy, ite_int, ite_bool, ite_seg, ite_segs, ite_nil, ite_twice, Int.toNat_natCast, app, addBs]
  refine hK _ ?_
  clear hK K
  repeat' (first
    | refine run_seq ?_
    | refine run_skip ?_
    | (refine run_region fun K hK => ?_; (try (simp (maxSteps := 10000000) only [microL, wantL, want0, coreL, s0_def, s1_def, s2_def, s3_def, s4_def, t0_def, t1_def, C5r0, C5r1, C5r2, C5r3, C5r4, C5r5, C5r6, C5r8, C5r9, C5r10, C5r11, C5r12, C5r13, C5r14, C5r15, C5r16, C5r17, C5r18, rwp_nil, rwp_cons, rwpK_app, aop, gpath, St.get, slotAt, sfx, eqP, segsOf, St.put, addBlk, getB, setB, delB, ld1, ldn, st1, stn, setRow, rowNeed, segAt, nsub, bin, un, eqB, isShift, sameK, arith, shiftR, getsl, selB_or, selB_and, beqb, shed, addN, Nat.beq, Seg.size, sizes, imp, needP, andN, appL, argsOf, ptrsOf, aasOf, cut, takeS, dropS, putS, partsOf, fillS, fieldOf, nthA, negIf, nilq, nilB, eqS, eqF, eqS1, andP, kin, slcS, strOk, plusA, bndHi, leN, optG, roH, roL, initT, exOk, exAll, wrAddr, Nat.reduceAdd, Nat.reduceSub, Nat.reduceMul, Int.reduceToNat, List.append_nil, List.nil_append, List.cons_append, eqT, idxT, cat, cpy, ite_int, ite_bool, ite_seg, ite_segs, ite_nil, ite_twice, Int.toNat_natCast, app, addBs])); (repeat (first | (refine And.intro ?_ ?_; · (first | omega | decide)) | ((first | (refine call_t _ (run_at (con11 s0 good0) 2 3 4 _ _ _ rfl rfl rfl (by decide) (by decide) (by decide) (by decide) (by decide) (by decide) (by simp [keysLt]) (by simp only [me, gotL, leArgs, leV, leV1, leSegs, leSeg, leC, leA, nthO, and_self]) rfl) ?_; rintro v H' ⟨rfl, rfl⟩) | refine call_q _ (run_at (con11 s0 good0) 2 3 4 _ _ _ rfl rfl rfl (by decide) (by decide) (by decide) (by decide) (by decide) (by decide) (by simp [keysLt]) (by simp only [me, gotL, leArgs, leV, leV1, leSegs, leSeg, leC, leA, nthO, and_self]) rfl) ?_ | refine call_g _ (imp_of (run_at (con11 s0 good0) 2 3 4 _ _ _ rfl rfl rfl (by decide) (by decide) (by decide) (by decide) (by decide) (by decide) (by simp [keysLt]) (by simp only [me, gotL, leArgs, leV, leV1, leSegs, leSeg, leC, leA, nthO, and_self]) rfl)) ?_); simp (maxSteps := 10000000) only [microL, wantL, want0, coreL, s0_def, s1_def, s2_def, s3_def, s4_def, t0_def, t1_def, C5r0, C5r1, C5r2, C5r3, C5r4, C5r5, C5r6, C5r8, C5r9, C5r10, C5r11, C5r12, C5r13, C5r14, C5r15, C5r16, C5r17, C5r18, rwp_nil, rwp_cons, rwpK_app, aop, gpath, St.get, slotAt, sfx, eqP, segsOf, St.put, addBlk, getB, setB, delB, ld1, ldn, st1, stn, setRow, rowNeed, segAt, nsub, bin, un, eqB, isShift, sameK, arith, shiftR, getsl, selB_or, selB_and, beqb, shed, addN, Nat.beq, Seg.size, sizes, imp, needP, andN, appL, argsOf, ptrsOf, aasOf, cut, takeS, dropS, putS, partsOf, fillS, fieldOf, nthA, negIf, nilq, nilB, eqS, eqF, eqS1, andP, kin, slcS, strOk, plusA, bndHi, leN, optG, roH, roL, initT, exOk, exAll, wrAddr, Nat.reduceAdd, Nat.reduceSub, Nat.reduceMul, Int.reduceToNat, List.append_nil, List.nil_append, List.cons_append, eqT, idxT, cat, cpy, ite_int, ite_bool, ite_seg, ite_segs, ite_nil, ite_twice, Int.toNat_natCast, app, addBs]))); with_reducible refine hK _ ?_; clear hK K)
    | (refine run_cond rfl (fun hc => ?_) (fun hc => ?_) <;> try (simp only [*, Bool.true_eq_false, Bool.false_eq_true, Bool.not_true, Bool.not_false, Bool.true_or, Bool.or_true, Bool.false_or, Bool.or_false, Bool.false_and, Bool.and_false, bne_self_eq_false, beq_self_eq_true] at hc; done))
    | refine run_block ?_
    | refine run_ret ?_
    | refine run_nil ?_
    | refine run_exit ?_
    | refine blk_normal ?_
    | refine blk_ret ?_
    | refine blk_here ?_
    | refine blk_there rfl ?_
    | refine loop_exit ?_
    | refine loop_ret ?_
    | refine un_exit ?_
    | refine un_ret ?_
    | refine unE_exit ?_
    | refine unE_ret ?_
    | refine un_normal ?_)
  repeat' (first
    | refine run_seq ?_
    | refine run_skip ?_
    | (refine run_region fun K hK => ?_; (try (simp (maxSteps := 10000000) only [microL, wantL, want0, coreL, s0_def, s1_def, s2_def, s3_def, s4_def, t0_def, t1_def, C5r0, C5r1, C5r2, C5r3, C5r4, C5r5, C5r6, C5r7, C5r9, C5r10, C5r11, C5r12, C5r13, C5r14, C5r15, C5r16, C5r17, C5r18, rwp_nil, rwp_cons, rwpK_app, aop, gpath, St.get, slotAt, sfx, eqP, segsOf, St.put, addBlk, getB, setB, delB, ld1, ldn, st1, stn, setRow, rowNeed, segAt, nsub, bin, un, eqB, isShift, sameK, arith, shiftR, getsl, selB_or, selB_and, beqb, shed, addN, Nat.beq, Seg.size, sizes, imp, needP, andN, appL, argsOf, ptrsOf, aasOf, cut, takeS, dropS, putS, partsOf, fillS, fieldOf, nthA, negIf, nilq, nilB, eqS, eqF, eqS1, andP, kin, slcS, strOk, plusA, bndHi, leN, optG, roH, roL, initT, exOk, exAll, wrAddr, Nat.reduceAdd, Nat.reduceSub, Nat.reduceMul, Int.reduceToNat, List.append_nil, List.nil_append, List.cons_append, eqT, idxT, cat, cpy, ite_int, ite_bool, ite_seg, ite_segs, ite_nil, ite_twice, Int.toNat_natCast, app, addBs])); (repeat (first | (refine And.intro ?_ ?_; · (first | omega | decide)) | ((first | (refine call_t _ (run_at (con11 s1 good1) 2 3 4 _ _ _ rfl rfl rfl (by decide) (by decide) (by decide) (by decide) (by decide) (by decide) (by simp [keysLt]) (by simp only [me, gotL, leArgs, leV, leV1, leSegs, leSeg, leC, leA, nthO, and_self]) rfl) ?_; rintro v H' ⟨rfl, rfl⟩) | refine call_q _ (run_at (con11 s1 good1) 2 3 4 _ _ _ rfl rfl rfl (by decide) (by decide) (by decide) (by decide) (by decide) (by decide) (by simp [keysLt]) (by simp only [me, gotL, leArgs, leV, leV1, leSegs, leSeg, leC, leA, nthO, and_self]) rfl) ?_ | refine call_g _ (imp_of (run_at (con11 s1 good1) 2 3 4 _ _ _ rfl rfl rfl (by decide) (by decide) (by decide) (by decide) (by decide) (by decide) (by simp [keysLt]) (by simp only [me, gotL, leArgs, leV, leV1, leSegs, leSeg, leC, leA, nthO, and_self]) rfl)) ?_); simp (maxSteps := 10000000) only [microL, wantL, want0, coreL, s0_def, s1_def, s2_def, s3_def, s4_def, t0_def, t1_def, C5r0, C5r1, C5r2, C5r3, C5r4, C5r5, C5r6, C5r7, C5r9, C5r10, C5r11, C5r12, C5r13, C5r14, C5r15, C5r16, C5r17, C5r18, rwp_nil, rwp_cons, rwpK_app, aop, gpath, St.get, slotAt, sfx, eqP, segsOf, St.put, addBlk, getB, setB, delB, ld1, ldn, st1, stn, setRow, rowNeed, segAt, nsub, bin, un, eqB, isShift, sameK, arith, shiftR, getsl, selB_or, selB_and, beqb, shed, addN, Nat.beq, Seg.size, sizes, imp, needP, andN, appL, argsOf, ptrsOf, aasOf, cut, takeS, dropS, putS, partsOf, fillS, fieldOf, nthA, negIf, nilq, nilB, eqS, eqF, eqS1, andP, kin, slcS, strOk, plusA, bndHi, leN, optG, roH, roL, initT, exOk, exAll, wrAddr, Nat.reduceAdd, Nat.reduceSub, Nat.reduceMul, Int.reduceToNat, List.append_nil, List.nil_append, List.cons_append, eqT, idxT, cat, cpy, ite_int, ite_bool, ite_seg, ite_segs, ite_nil, ite_twice, Int.toNat_natCast, app, addBs]))); with_reducible refine hK _ ?_; clear hK K)
    | (refine run_cond rfl (fun hc => ?_) (fun hc => ?_) <;> try (simp only [*, Bool.true_eq_false, Bool.false_eq_true, Bool.not_true, Bool.not_false, Bool.true_or, Bool.or_true, Bool.false_or, Bool.or_false, Bool.false_and, Bool.and_false, bne_self_eq_false, beq_self_eq_true] at hc; done))
    | refine run_block ?_
    | refine run_ret ?_
    | refine run_nil ?_
    | refine run_exit ?_
    | refine blk_normal ?_
    | refine blk_ret ?_
    | refine blk_here ?_
    | refine blk_there rfl ?_
    | refine loop_exit ?_
    | refine loop_ret ?_
    | refine un_exit ?_
    | refine un_ret ?_
    | refine unE_exit ?_
    | refine unE_ret ?_
    | refine un_normal ?_)
  repeat' (first
    | refine run_seq ?_
    | refine run_skip ?_
    | (refine run_region fun K hK => ?_; (try (simp (maxSteps := 10000000) only [microL, wantL, want0, coreL, s0_def, s1_def, s2_def, s3_def, s4_def, t0_def, t1_def, C5r0, C5r1, C5r2, C5r3, C5r4, C5r5, C5r6, C5r7, C5r8, C5r9, C5r11, C5r12, C5r13, C5r14, C5r15, C5r16, C5r17, C5r18, rwp_nil, rwp_cons, rwpK_app, aop, gpath, St.get, slotAt, sfx, eqP, segsOf, St.put, addBlk, getB, setB, delB, ld1, ldn, st1, stn, setRow, rowNeed, segAt, nsub, bin, un, eqB, isShift, sameK, arith, shiftR, getsl, selB_or, selB_and, beqb, shed, addN, Nat.beq, Seg.size, sizes, imp, needP, andN, appL, argsOf, ptrsOf, aasOf, cut, takeS, dropS, putS, partsOf, fillS, fieldOf, nthA, negIf, nilq, nilB, eqS, eqF, eqS1, andP, kin, slcS, strOk, plusA, bndHi, leN, optG, roH, roL, initT, exOk, exAll, wrAddr, Nat.reduceAdd, Nat.reduceSub, Nat.reduceMul, Int.reduceToNat, List.append_nil, List.nil_append, List.cons_append, eqT, idxT, cat, cpy, ite_int, ite_bool, ite_seg, ite_segs, ite_nil, ite_twice, Int.toNat_natCast, app, addBs])); (repeat (first | (refine And.intro ?_ ?_; · (first | omega | decide)) | ((first | (refine call_t _ (ro_at (con9r s2) 2 3 4 _ _ _ true rfl (by decide) (by decide) (by decide) (by decide) (by decide) (by decide) (by simp [keysLt]) (by simp only [me, gotL, leArgs, leV, leV1, leSegs, leSeg, leC, leA, nthO, and_self]) rfl) ?_; rintro v H' ⟨rfl, rfl⟩) | refine call_q _ (ro_at (con9r s2) 2 3 4 _ _ _ true rfl (by decide) (by decide) (by decide) (by decide) (by decide) (by decide) (by simp [keysLt]) (by simp only [me, gotL, leArgs, leV, leV1, leSegs, leSeg, leC, leA, nthO, and_self]) rfl) ?_ | refine call_g _ (imp_of (ro_at (con9r s2) 2 3 4 _ _ _ true rfl (by decide) (by decide) (by decide) (by decide) (by decide) (by decide) (by simp [keysLt]) (by simp only [me, gotL, leArgs, leV, leV1, leSegs, leSeg, leC, leA, nthO, and_self]) rfl)) ?_ | (refine call_t _ (run_at (con14 s2 ⟨5, false, 0⟩ good2 wait2) 2 3 4 _ _ _ rfl rfl rfl (by decide) (by decide) (by decide) (by decide) (by decide) (by decide) (by simp [keysLt]) (by simp only [me, gotL, leArgs, leV, leV1, leSegs, leSeg, leC, leA, nthO, and_self]) rfl) ?_; rintro v H' ⟨rfl, rfl⟩) | refine call_q _ (run_at (con14 s2 ⟨5, false, 0⟩ good2 wait2) 2 3 4 _ _ _ rfl rfl rfl (by decide) (by decide) (by decide) (by decide) (by decide) (by decide) (by simp [keysLt]) (by simp only [me, gotL, leArgs, leV, leV1, leSegs, leSeg, leC, leA, nthO, and_self]) rfl) ?_ | refine call_g _ (imp_of (run_at (con14 s2 ⟨5, false, 0⟩ good2 wait2) 2 3 4 _ _ _ rfl rfl rfl (by decide) (by decide) (by decide) (by decide) (by decide) (by decide) (by simp [keysLt]) (by simp only [me, gotL, leArgs, leV, leV1, leSegs, leSeg, leC, leA, nthO, and_self]) rfl)) ?_); simp (maxSteps := 10000000) only [microL, wantL, want0, coreL, s0_def, s1_def, s2_def, s3_def, s4_def, t0_def, t1_def, C5r0, C5r1, C5r2, C5r3, C5r4, C5r5, C5r6, C5r7, C5r8, C5r9, C5r11, C5r12, C5r13, C5r14, C5r15, C5r16, C5r17, C5r18, rwp_nil, rwp_cons, rwpK_app, aop, gpath, St.get, slotAt, sfx, eqP, segsOf, St.put, addBlk, getB, setB, delB, ld1, ldn, st1, stn, setRow, rowNeed, segAt, nsub, bin, un, eqB, isShift, sameK, arith, shiftR, getsl, selB_or, selB_and, beqb, shed, addN, Nat.beq, Seg.size, sizes, imp, needP, andN, appL, argsOf, ptrsOf, aasOf, cut, takeS, dropS, putS, partsOf, fillS, fieldOf, nthA, negIf, nilq, nilB, eqS, eqF, eqS1, andP, kin, slcS, strOk, plusA, bndHi, leN, optG, roH, roL, initT, exOk, exAll, wrAddr, Nat.reduceAdd, Nat.reduceSub, Nat.reduceMul, Int.reduceToNat, List.append_nil, List.nil_append, List.cons_append, eqT, idxT, cat, cpy, ite_int, ite_bool, ite_seg, ite_segs, ite_nil, ite_twice, Int.toNat_natCast, app, addBs]))); with_reducible refine hK _ ?_; clear hK K)
    | (refine run_cond rfl (fun hc => ?_) (fun hc => ?_) <;> try (simp only [*, Bool.true_eq_false, Bool.false_eq_true, Bool.not_true, Bool.not_false, Bool.true_or, Bool.or_true, Bool.false_or, Bool.or_false, Bool.false_and, Bool.and_false, bne_self_eq_false, beq_self_eq_true] at hc; done))
    | refine run_block ?_
    | refine run_ret ?_
    | refine run_nil ?_
    | refine run_exit ?_
    | refine blk_normal ?_
    | refine blk_ret ?_
    | refine blk_here ?_
    | refine blk_there rfl ?_
    | refine loop_exit ?_
    | refine loop_ret ?_
    | refine un_exit ?_
    | refine un_ret ?_
    | refine unE_exit ?_
    | refine unE_ret ?_
    | refine un_normal ?_)
  repeat' (first
    | refine run_seq ?_
    | refine run_skip ?_
    | (refine run_region fun K hK => ?_; (try (simp (maxSteps := 10000000) only [microL, wantL, want0, coreL, s0_def, s1_def, s2_def, s3_def, s4_def, t0_def, t1_def, C5r0, C5r1, C5r2, C5r3, C5r4, C5r5, C5r6, C5r7, C5r8, C5r9, C5r10, C5r12, C5r13, C5r14, C5r15, C5r16, C5r17, C5r18, rwp_nil, rwp_cons, rwpK_app, aop, gpath, St.get, slotAt, sfx, eqP, segsOf, St.put, addBlk, getB, setB, delB, ld1, ldn, st1, stn, setRow, rowNeed, segAt, nsub, bin, un, eqB, isShift, sameK, arith, shiftR, getsl, selB_or, selB_and, beqb, shed, addN, Nat.beq, Seg.size, sizes, imp, needP, andN, appL, argsOf, ptrsOf, aasOf, cut, takeS, dropS, putS, partsOf, fillS, fieldOf, nthA, negIf, nilq, nilB, eqS, eqF, eqS1, andP, kin, slcS, strOk, plusA, bndHi, leN, optG, roH, roL, initT, exOk, exAll, wrAddr, Nat.reduceAdd, Nat.reduceSub, Nat.reduceMul, Int.reduceToNat, List.append_nil, List.nil_append, List.cons_append, eqT, idxT, cat, cpy, ite_int, ite_bool, ite_seg, ite_segs, ite_nil, ite_twice, Int.toNat_natCast, app, addBs])); (repeat (first | (refine And.intro ?_ ?_; · (first | omega | decide)) | ((first | (refine call_t _ (run_at (con11 s3 good3) 2 3 4 _ _ _ rfl rfl rfl (by decide) (by decide) (by decide) (by decide) (by decide) (by decide) (by simp [keysLt]) (by simp only [me, gotL, leArgs, leV, leV1, leSegs, leSeg, leC, leA, nthO, and_self]) rfl) ?_; rintro v H' ⟨rfl, rfl⟩) | refine call_q _ (run_at (con11 s3 good3) 2 3 4 _ _ _ rfl rfl rfl (by decide) (by decide) (by decide) (by decide) (by decide) (by decide) (by simp [keysLt]) (by simp only [me, gotL, leArgs, leV, leV1, leSegs, leSeg, leC, leA, nthO, and_self]) rfl) ?_ | refine call_g _ (imp_of (run_at (con11 s3 good3) 2 3 4 _ _ _ rfl rfl rfl (by decide) (by decide) (by decide) (by decide) (by decide) (by decide) (by simp [keysLt]) (by simp only [me, gotL, leArgs, leV, leV1, leSegs, leSeg, leC, leA, nthO, and_self]) rfl)) ?_); simp (maxSteps := 10000000) only [microL, wantL, want0, coreL, s0_def, s1_def, s2_def, s3_def, s4_def, t0_def, t1_def, C5r0, C5r1, C5r2, C5r3, C5r4, C5r5, C5r6, C5r7, C5r8, C5r9, C5r10, C5r12, C5r13, C5r14, C5r15, C5r16, C5r17, C5r18, rwp_nil, rwp_cons, rwpK_app, aop, gpath, St.get, slotAt, sfx, eqP, segsOf, St.put, addBlk, getB, setB, delB, ld1, ldn, st1, stn, setRow, rowNeed, segAt, nsub, bin, un, eqB, isShift, sameK, arith, shiftR, getsl, selB_or, selB_and, beqb, shed, addN, Nat.beq, Seg.size, sizes, imp, needP, andN, appL, argsOf, ptrsOf, aasOf, cut, takeS, dropS, putS, partsOf, fillS, fieldOf, nthA, negIf, nilq, nilB, eqS, eqF, eqS1, andP, kin, slcS, strOk, plusA, bndHi, leN, optG, roH, roL, initT, exOk, exAll, wrAddr, Nat.reduceAdd, Nat.reduceSub, Nat.reduceMul, Int.reduceToNat, List.append_nil, List.nil_append, List.cons_append, eqT, idxT, cat, cpy, ite_int, ite_bool, ite_seg, ite_segs, ite_nil, ite_twice, Int.toNat_natCast, app, addBs]))); with_reducible refine hK _ ?_; clear hK K)
    | (refine run_cond rfl (fun hc => ?_) (fun hc => ?_) <;> try (simp only [*, Bool.true_eq_false, Bool.false_eq_true, Bool.not_true, Bool.not_false, Bool.true_or, Bool.or_true, Bool.false_or, Bool.or_false, Bool.false_and, Bool.and_false, bne_self_eq_false, beq_self_eq_true] at hc; done))
    | refine run_block ?_
    | refine run_ret ?_
    | refine run_nil ?_
    | refine run_exit ?_
    | refine blk_normal ?_
    | refine blk_ret ?_
    | refine blk_here ?_
    | refine blk_there rfl ?_
    | refine loop_exit ?_
    | refine loop_ret ?_
    | refine un_exit ?_
    | refine un_ret ?_
    | refine unE_exit ?_
    | refine unE_ret ?_
    | refine un_normal ?_)
  repeat' (first
    | refine run_seq ?_
    | refine run_skip ?_
    | (refine run_region fun K hK => ?_; (try (simp (maxSteps := 10000000) only [microL, wantL, want0, coreL, s0_def, s1_def, s2_def, s3_def, s4_def, t0_def, t1_def, C5r0, C5r1, C5r2, C5r3, C5r4, C5r5, C5r6, C5r7, C5r8, C5r9, C5r10, C5r11, C5r12, C5r13, C5r15, C5r16, C5r17, C5r18, rwp_nil, rwp_cons, rwpK_app, aop, gpath, St.get, slotAt, sfx, eqP, segsOf, St.put, addBlk, getB, setB, delB, ld1, ldn, st1, stn, setRow, rowNeed, segAt, nsub, bin, un, eqB, isShift, sameK, arith, shiftR, getsl, selB_or, selB_and, beqb, shed, addN, Nat.beq, Seg.size, sizes, imp, needP, andN, appL, argsOf, ptrsOf, aasOf, cut, takeS, dropS, putS, partsOf, fillS, fieldOf, nthA, negIf, nilq, nilB, eqS, eqF, eqS1, andP, kin, slcS, strOk, plusA, bndHi, leN, optG, roH, roL, initT, exOk, exAll, wrAddr, Nat.reduceAdd, Nat.reduceSub, Nat.reduceMul, Int.reduceToNat, List.append_nil, List.nil_append, List.cons_append, eqT, idxT, cat, cpy, ite_int, ite_bool, ite_seg, ite_segs, ite_nil, ite_twice, Int.toNat_natCast, app, addBs])); (repeat (first | (refine And.intro ?_ ?_; · (first | omega | decide)) | ((first | (refine call_t _ (ro_at (con8r s4) 2 3 4 _ _ _ true rfl (by decide) (by decide) (by decide) (by decide) (by decide) (by decide) (by simp [keysLt]) (by simp only [me, gotL, leArgs, leV, leV1, leSegs, leSeg, leC, leA, nthO, and_self]) rfl) ?_; rintro v H' ⟨rfl, rfl⟩) | refine call_q _ (ro_at (con8r s4) 2 3 4 _ _ _ true rfl (by decide) (by decide) (by decide) (by decide) (by decide) (by decide) (by simp [keysLt]) (by simp only [me, gotL, leArgs, leV, leV1, leSegs, leSeg, leC, leA, nthO, and_self]) rfl) ?_ | refine call_g _ (imp_of (ro_at (con8r s4) 2 3 4 _ _ _ true rfl (by decide) (by decide) (by decide) (by decide) (by decide) (by decide) (by simp [keysLt]) (by simp only [me, gotL, leArgs, leV, leV1, leSegs, leSeg, leC, leA, nthO, and_self]) rfl)) ?_ | (refine call_t _ (run_at (con14n s4 ⟨0, false, 0⟩ wait4) 2 3 4 _ _ _ rfl rfl rfl (by decide) (by decide) (by decide) (by decide) (by decide) (by decide) (by simp [keysLt]) (by simp only [me, gotL, leArgs, leV, leV1, leSegs, leSeg, leC, leA, nthO, and_self]) rfl) ?_; rintro v H' ⟨rfl, rfl⟩) | refine call_q _ (run_at (con14n s4 ⟨0, false, 0⟩ wait4) 2 3 4 _ _ _ rfl rfl rfl (by decide) (by decide) (by decide) (by decide) (by decide) (by decide) (by simp [keysLt]) (by simp only [me, gotL, leArgs, leV, leV1, leSegs, leSeg, leC, leA, nthO, and_self]) rfl) ?_ | refine call_g _ (imp_of (run_at (con14n s4 ⟨0, false, 0⟩ wait4) 2 3 4 _ _ _ rfl rfl rfl (by decide) (by decide) (by decide) (by decide) (by decide) (by decide) (by simp [keysLt]) (by simp only [me, gotL, leArgs, leV, leV1, leSegs, leSeg, leC, leA, nthO, and_self]) rfl)) ?_); simp (maxSteps := 10000000) only [microL, wantL, want0, coreL, s0_def, s1_def, s2_def, s3_def, s4_def, t0_def, t1_def, C5r0, C5r1, C5r2, C5r3, C5r4, C5r5, C5r6, C5r7, C5r8, C5r9, C5r10, C5r11, C5r12, C5r13, C5r15, C5r16, C5r17, C5r18, rwp_nil, rwp_cons, rwpK_app, aop, gpath, St.get, slotAt, sfx, eqP, segsOf, St.put, addBlk, getB, setB, delB, ld1, ldn, st1, stn, setRow, rowNeed, segAt, nsub, bin, un, eqB, isShift, sameK, arith, shiftR, getsl, selB_or, selB_and, beqb, shed, addN, Nat.beq, Seg.size, sizes, imp, needP, andN, appL, argsOf, ptrsOf, aasOf, cut, takeS, dropS, putS, partsOf, fillS, fieldOf, nthA, negIf, nilq, nilB, eqS, eqF, eqS1, andP, kin, slcS, strOk, plusA, bndHi, leN, optG, roH, roL, initT, exOk, exAll, wrAddr, Nat.reduceAdd, Nat.reduceSub, Nat.reduceMul, Int.reduceToNat, List.append_nil, List.nil_append, List.cons_append, eqT, idxT, cat, cpy, ite_int, ite_bool, ite_seg, ite_segs, ite_nil, ite_twice, Int.toNat_natCast, app, addBs]))); with_reducible refine hK _ ?_; clear hK K)
    | (refine run_cond rfl (fun hc => ?_) (fun hc => ?_) <;> try (simp only [*, Bool.true_eq_false, Bool.false_eq_true, Bool.not_true, Bool.not_false, Bool.true_or, Bool.or_true, Bool.false_or, Bool.or_false, Bool.false_and, Bool.and_false, bne_self_eq_false, beq_self_eq_true] at hc; done))
    | refine run_block ?_
    | refine run_ret ?_
    | refine run_nil ?_
    | refine run_exit ?_
    | refine blk_normal ?_
    | refine blk_ret ?_
    | refine blk_here ?_
    | refine blk_there rfl ?_
    | refine loop_exit ?_
    | refine loop_ret ?_
    | refine un_exit ?_
    | refine un_ret ?_
    | refine unE_exit ?_
    | refine unE_ret ?_
    | refine un_normal ?_)
  refine run_region fun K hK => ?_
  simp (maxSteps := 10000000) only [microL, wantL, want0, coreL, s0_def, s1_def, s2_def, s3_def, s4_def, t0_def, t1_def, C5r0, C5r1, C5r2, C5r3, C5r4, C5r5, C5r6, C5r7, C5r8, C5r9, C5r10, C5r11, C5r12, C5r13, C5r14, C5r15, C5r16, C5r17, C5r18, rwp_nil, rwp_cons, rwpK_app, aop, gpath, St.get, slotAt, sfx, eqP, segsOf, St.put, addBlk, getB, setB, delB, ld1, ldn, st1, stn, setRow, rowNeed, segAt, nsub, bin, un, eqB, isShift, sameK, arith, shiftR, getsl, selB_or, selB_and, beqb, shed, addN, Nat.beq, Seg.size, sizes, imp, needP, andN, appL, argsOf, ptrsOf, aasOf, cut, takeS, dropS, putS, partsOf, fillS, fieldOf, nthA, negIf, nilq, nilB, eqS, eqF, eqS1, andP, kin, slcS, strOk, plusA, bndHi, leN, optG, roH, roL, initT, exOk, exAll, wrAddr, Nat.reduceAdd, Nat.reduceSub, Nat.reduceMul, Int.reduceToNat, List.append_nil, List.nil_append, List.cons_append, eqT, idxT, cat, cpy, ite_int, ite_bool, ite_seg, ite_segs, ite_nil, ite_twice, Int.toNat_natCast, app, addBs]
  refine call_n _ [opsBk exC true] rfl (con16_n _ _ (keysLt_roL (by simp [keysLt]))) ?_
  simp (maxSteps := 10000000) only [microL, wantL, want0, coreL, s0_def, s1_def, s2_def, s3_def, s4_def, t0_def, t1_def, C5r0, C5r1, C5r2, C5r3, C5r4, C5r5, C5r6, C5r7, C5r8, C5r9, C5r10, C5r11, C5r12, C5r13, C5r14, C5r15, C5r16, C5r17, C5r18, rwp_nil, rwp_cons, rwpK_app, aop, gpath, St.get, slotAt, sfx, eqP, segsOf, St.put, addBlk, getB, setB, delB, ld1, ldn, st1, stn, setRow, rowNeed, segAt, nsub, bin, un, eqB, isShift, sameK, arith, shiftR, getsl, selB_or, selB_and, beqb, shed, addN, Nat.beq, Seg.size, sizes, imp, needP, andN, appL, argsOf, ptrsOf, aasOf, cut, takeS, dropS, putS, partsOf, fillS, fieldOf, nthA, negIf, nilq, nilB, eqS, eqF, eqS1, andP, kin, slcS, strOk, plusA, bndHi, leN, optG, roH, roL, initT, exOk, exAll, wrAddr, Nat.reduceAdd, Nat.reduceSub, Nat.reduceMul, Int.reduceToNat, List.append_nil, List.nil_append, List.cons_append, eqT, idxT, cat, cpy, ite_int, ite_bool, ite_seg, ite_segs, ite_nil, ite_twice, Int.toNat_natCast, app, addBs]
  refine call_t _ (con6_n exC (exK 9) ex_imm (ex_err 9) 9 10 _ true rfl (by decide) (by simp [keysLt])) ?_
  rintro v H' ⟨rfl, rfl⟩
  simp (maxSteps := 10000000) only [microL, wantL, want0, coreL, s0_def, s1_def, s2_def, s3_def, s4_def, t0_def, t1_def, C5r0, C5r1, C5r2, C5r3, C5r4, C5r5, C5r6, C5r7, C5r8, C5r9, C5r10, C5r11, C5r12, C5r13, C5r14, C5r15, C5r16, C5r17, C5r18, rwp_nil, rwp_cons, rwpK_app, aop, gpath, St.get, slotAt, sfx, eqP, segsOf, St.put, addBlk, getB, setB, delB, ld1, ldn, st1, stn, setRow, rowNeed, segAt, nsub, bin, un, eqB, isShift, sameK, arith, shiftR, getsl, selB_or, selB_and, beqb, shed, addN, Nat.beq, Seg.size, sizes, imp, needP, andN, appL, argsOf, ptrsOf, aasOf, cut, takeS, dropS, putS, partsOf, fillS, fieldOf, nthA, negIf, nilq, nilB, eqS, eqF, eqS1, andP, kin, slcS, strOk, plusA, bndHi, leN, optG, roH, roL, initT, exOk, exAll, wrAddr, Nat.reduceAdd, Nat.reduceSub, Nat.reduceMul, Int.reduceToNat, List.append_nil, List.nil_append, List.cons_append, eqT, idxT, cat, cpy, ite_int, ite_bool, ite_seg, ite_segs, ite_nil, ite_twice, Int.toNat_natCast, app, addBs]
  refine hK _ ?_
  clear hK K
  repeat' (first
    | refine run_seq ?_
    | refine run_skip ?_
    | (refine run_region fun K hK => ?_; (try (simp (maxSteps := 10000000) only [microL, wantL, want0, coreL, s0_def, s1_def, s2_def, s3_def, s4_def, t0_def, t1_def, C5r0, C5r1, C5r2, C5r3, C5r4, C5r5, C5r6, C5r7, C5r8, C5r9, C5r10, C5r11, C5r12, C5r13, C5r14, C5r15, C5r16, C5r17, rwp_nil, rwp_cons, rwpK_app, aop, gpath, St.get, slotAt, sfx, eqP, segsOf, St.put, addBlk, getB, setB, delB, ld1, ldn, st1, stn, setRow, rowNeed, segAt, nsub, bin, un, eqB, isShift, sameK, arith, shiftR, getsl, selB_or, selB_and, beqb, shed, addN, Nat.beq, Seg.size, sizes, imp, needP, andN, appL, argsOf, ptrsOf, aasOf, cut, takeS, dropS, putS, partsOf, fillS, fieldOf, nthA, negIf, nilq, nilB, eqS, eqF, eqS1, andP, kin, slcS, strOk, plusA, bndHi, leN, optG, roH, roL, initT, exOk, exAll, wrAddr, Nat.reduceAdd, Nat.reduceSub, Nat.reduceMul, Int.reduceToNat, List.append_nil, List.nil_append, List.cons_append, eqT, idxT, cat, cpy, ite_int, ite_bool, ite_seg, ite_segs, ite_nil, ite_twice, Int.toNat_natCast, app, addBs])); (repeat (first | (refine And.intro ?_ ?_; · (first | omega | decide)) | ((first | (refine call_t _ (run_at (con11 t0 goodt) 10 11 12 _ _ _ rfl rfl rfl (by decide) (by decide) (by decide) (by decide) (by decide) (by decide) (by simp [keysLt]) (by simp only [me, gotL, leArgs, leV, leV1, leSegs, leSeg, leC, leA, nthO, and_self]) rfl) ?_; rintro v H' ⟨rfl, rfl⟩) | refine call_q _ (run_at (con11 t0 goodt) 10 11 12 _ _ _ rfl rfl rfl (by decide) (by decide) (by decide) (by decide) (by decide) (by decide) (by simp [keysLt]) (by simp only [me, gotL, leArgs, leV, leV1, leSegs, leSeg, leC, leA, nthO, and_self]) rfl) ?_ | refine call_g _ (imp_of (run_at (con11 t0 goodt) 10 11 12 _ _ _ rfl rfl rfl (by decide) (by decide) (by decide) (by decide) (by decide) (by decide) (by simp [keysLt]) (by simp only [me, gotL, leArgs, leV, leV1, leSegs, leSeg, leC, leA, nthO, and_self]) rfl)) ?_); simp (maxSteps := 10000000) only [microL, wantL, want0, coreL, s0_def, s1_def, s2_def, s3_def, s4_def, t0_def, t1_def, C5r0, C5r1, C5r2, C5r3, C5r4, C5r5, C5r6, C5r7, C5r8, C5r9, C5r10, C5r11, C5r12, C5r13, C5r14, C5r15, C5r16, C5r17, rwp_nil, rwp_cons, rwpK_app, aop, gpath, St.get, slotAt, sfx, eqP, segsOf, St.put, addBlk, getB, setB, delB, ld1, ldn, st1, stn, setRow, rowNeed, segAt, nsub, bin, un, eqB, isShift, sameK, arith, shiftR, getsl, selB_or, selB_and, beqb, shed, addN, Nat.beq, Seg.size, sizes, imp, needP, andN, appL, argsOf, ptrsOf, aasOf, cut, takeS, dropS, putS, partsOf, fillS, fieldOf, nthA, negIf, nilq, nilB, eqS, eqF, eqS1, andP, kin, slcS, strOk, plusA, bndHi, leN, optG, roH, roL, initT, exOk, exAll, wrAddr, Nat.reduceAdd, Nat.reduceSub, Nat.reduceMul, Int.reduceToNat, List.append_nil, List.nil_append, List.cons_append, eqT, idxT, cat, cpy, ite_int, ite_bool, ite_seg, ite_segs, ite_nil, ite_twice, Int.toNat_natCast, app, addBs]))); with_reducible refine hK _ ?_; clear hK K)
    | (refine run_cond rfl (fun hc => ?_) (fun hc => ?_) <;> try (simp only [*, Bool.true_eq_false, Bool.false_eq_true, Bool.not_true, Bool.not_false, Bool.true_or, Bool.or_true, Bool.false_or, Bool.or_false, Bool.false_and, Bool.and_false, bne_self_eq_false, beq_self_eq_true] at hc; done))
    | refine run_block ?_
    | refine run_ret ?_
    | refine run_nil ?_
    | refine run_exit ?_
    | refine blk_normal ?_
    | refine blk_ret ?_
    | refine blk_here ?_
    | refine blk_there rfl ?_
    | refine loop_exit ?_
    | refine loop_ret ?_
    | refine un_exit ?_
    | refine un_ret ?_
    | refine unE_exit ?_
    | refine unE_ret ?_
    | refine un_normal ?_)
  repeat' (first
    | refine run_seq ?_
    | refine run_skip ?_
    | (refine run_region fun K hK => ?_; (try (simp (maxSteps := 10000000) only [microL, wantL, want0, coreL, s0_def, s1_def, s2_def, s3_def, s4_def, t0_def, t1_def, eqS, eqF, eqS1, C5r0, C5r1, C5r2, C5r3, C5r4, C5r5, C5r6, C5r7, C5r8, C5r9, C5r10, C5r11, C5r12, C5r13, C5r14, C5r15, C5r16, C5r17, C5r18, rwp_nil, rwp_cons, rwpK_app, aop, gpath, St.get, slotAt, sfx, eqP, segsOf, St.put, addBlk, getB, setB, delB, ld1, ldn, st1, stn, setRow, rowNeed, segAt, nsub, bin, un, eqB, isShift, sameK, arith, shiftR, getsl, selB_or, selB_and, beqb, shed, addN, Nat.beq, Seg.size, sizes, imp, needP, andN, appL, argsOf, ptrsOf, aasOf, cut, takeS, dropS, putS, partsOf, fillS, fieldOf, nthA, negIf, nilq, nilB, eqS, eqF, eqS1, andP, kin, slcS, strOk, plusA, bndHi, leN, optG, roH, roL, initT, exOk, exAll, wrAddr, Nat.reduceAdd, Nat.reduceSub, Nat.reduceMul, Int.reduceToNat, List.append_nil, List.nil_append, List.cons_append, eqT, idxT, cat, cpy, ite_int, ite_bool, ite_seg, ite_segs, ite_nil, ite_twice, Int.toNat_natCast, app, addBs])); (repeat (first | (refine And.intro ?_ ?_; · (first | omega | decide)) | ((first | refine call_g _ (imp_of (ro_at (con9r s4) 2 3 4 _ _ _ false rfl (by decide) (by decide) (by decide) (by decide) (by decide) (by decide) (keysLt_roL (by simp [keysLt])) (by simp only [me, gotL, leArgs, leV, leV1, leSegs, leSeg, leC, leA, nthO, and_self]) rfl)) ?_ | refine call_g _ (imp_of (ro_at (con10r t1) 10 11 12 _ _ _ false rfl (by decide) (by decide) (by decide) (by decide) (by decide) (by decide) (keysLt_roL (by simp [keysLt])) (by simp only [me, gotL, leArgs, leV, leV1, leSegs, leSeg, leC, leA, nthO, and_self]) rfl)) ?_ | refine call_g _ (imp_of (ro_at (con8r t1) 10 11 12 _ _ _ false rfl (by decide) (by decide) (by decide) (by decide) (by decide) (by decide) (keysLt_roL (by simp [keysLt])) (by simp only [me, gotL, leArgs, leV, leV1, leSegs, leSeg, leC, leA, nthO, and_self]) rfl)) ?_); simp (maxSteps := 10000000) only [microL, wantL, want0, coreL, s0_def, s1_def, s2_def, s3_def, s4_def, t0_def, t1_def, eqS, eqF, eqS1, C5r0, C5r1, C5r2, C5r3, C5r4, C5r5, C5r6, C5r7, C5r8, C5r9, C5r10, C5r11, C5r12, C5r13, C5r14, C5r15, C5r16, C5r17, C5r18, rwp_nil, rwp_cons, rwpK_app, aop, gpath, St.get, slotAt, sfx, eqP, segsOf, St.put, addBlk, getB, setB, delB, ld1, ldn, st1, stn, setRow, rowNeed, segAt, nsub, bin, un, eqB, isShift, sameK, arith, shiftR, getsl, selB_or, selB_and, beqb, shed, addN, Nat.beq, Seg.size, sizes, imp, needP, andN, appL, argsOf, ptrsOf, aasOf, cut, takeS, dropS, putS, partsOf, fillS, fieldOf, nthA, negIf, nilq, nilB, eqS, eqF, eqS1, andP, kin, slcS, strOk, plusA, bndHi, leN, optG, roH, roL, initT, exOk, exAll, wrAddr, Nat.reduceAdd, Nat.reduceSub, Nat.reduceMul, Int.reduceToNat, List.append_nil, List.nil_append, List.cons_append, eqT, idxT, cat, cpy, ite_int, ite_bool, ite_seg, ite_segs, ite_nil, ite_twice, Int.toNat_natCast, app, addBs]))); with_reducible refine hK _ ?_; clear hK K)
    | (refine run_cond rfl (fun hc => ?_) (fun hc => ?_) <;> try (simp only [*, Bool.true_eq_false, Bool.false_eq_true, Bool.not_true, Bool.not_false, Bool.true_or, Bool.or_true, Bool.false_or, Bool.or_false, Bool.false_and, Bool.and_false, bne_self_eq_false, beq_self_eq_true] at hc; done))
    | refine run_block ?_
    | refine run_ret ?_
    | refine run_nil ?_
    | refine run_exit ?_
    | refine blk_normal ?_
    | refine blk_ret ?_
    | refine blk_here ?_
    | refine blk_there rfl ?_
    | refine loop_exit ?_
    | refine loop_ret ?_
    | refine un_exit ?_
    | refine un_ret ?_
    | refine unE_exit ?_
    | refine unE_ret ?_
    | refine un_normal ?_)
  refine end_tmp1 rfl rfl rfl ?_
  subst hR
  refine ⟨?_, rfl⟩
  refine congrArg (fun b => AV.c (CV.bool b)) ?_
  kernel_rfl
end Go.Proofs.Yteikpddilabppaa
