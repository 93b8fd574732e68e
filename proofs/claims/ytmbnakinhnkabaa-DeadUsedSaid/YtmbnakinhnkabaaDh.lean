/- ir: rightOp, its head. -/
import Derived.Test.YtmbnakinhnkabaaDg
namespace Go.Proofs.Ytmbnakinhnkabaa
open Go.AM
set_option maxRecDepth 100000
set_option linter.unusedSimpArgs false
set_option linter.unusedVariables false
def badE (rv r i od : Bool) (u : Int) (o : OpS) : Bool := (((((!true || !rv) || (!r && (o.r != 0))) || (!i && (o.imm != 0))) || (!od && (o.order != 0))) || (decide (u < 1) && (o.a != 0))) || (decide (u < 2) && (o.b != 0))
theorem no_true {p : Prop} (h : true = false) : p := by cases h
theorem opk_le {l : List Nat} (o : OpS) : leB l ⟨6, none, fun _ => opL o, 39, true⟩ (opB' o) := ⟨rfl, rfl, id, Nat.le_refl _, fun _ _ => by simp only [opB', opL, leSegs, leSeg, leC, and_self]⟩
set_option maxHeartbeats 8000000 in
theorem rop_P (o : OpS) (N m : Nat) (f : Nat → OpS) (hm : m ≤ N) (hN : N ≤ 140737488355328) (w : ByteArray) (r i od : Bool) (u : Int) (d e a : Bool) (g : FuncId) (rv : Bool) (h46 : ∀ H, Con Try.prog 46 [.c (.int .i64 o.kind)] H (fun v H' => v = kindV (kindL w r i od u d e a (.fn g [] [])) true ∧ H' = H)) (hg : ∀ H, Con Try.prog g [.agg (opL o)] H (fun v H' => v = .c (.bool rv) ∧ H' = H)) : Con Try.prog 54 [.agg (opL o), .c (.slice ⟨0, 0, 0, 0⟩ false m)] ⟨1, [(0, opsB N f)]⟩ (fun v H' => v = .c (.bool (!badE rv r i od u o && usesOk o m f (usesS o.kind))) ∧ H' = ⟨1, [(0, opsB N f)]⟩) := by
  (refine con_of_run mixed (fn := Try.f54) (by kernel_rfl) (by kernel_rfl) C54_ok (rs := [.tmp 4]) (by kernel_rfl) (Nat.le_of_ble_eq_true (by kernel_rfl)) ?_; unfold C54; simp only [initT, Nat.reduceAdd])
  repeat' (first
    | refine run_seq ?_
    | refine run_skip ?_
    | (refine run_region fun K hK => ?_; (try (simp (maxSteps := 10000000) only [opL, kindV, kindL, boxW, intsW, slB, C54r0, C54r1, C54r3, C54r5, C54r6, C54r7, C54r8, C54r9, C54r10, rwp_nil, rwp_cons, rwpK_app, aop, gpath, St.get, slotAt, sfx, eqP, segsOf, St.put, addBlk, getB, setB, delB, ld1, ldn, st1, stn, setRow, rowNeed, segAt, nsub, bin, un, eqB, isShift, sameK, arith, shiftR, getsl, selB_or, selB_and, beqb, shed, addN, Nat.beq, Seg.size, sizes, imp, needP, andN, appL, argsOf, ptrsOf, aasOf, cut, takeS, dropS, putS, partsOf, fillS, fieldOf, nthA, negIf, nilq, nilB, eqS, eqF, eqS1, andP, kin, slcS, strOk, plusA, bndHi, leN, optG, roH, roL, initT, exOk, exAll, wrAddr, Nat.reduceAdd, Nat.reduceSub, Nat.reduceMul, Int.reduceToNat, List.append_nil, List.nil_append, List.cons_append, eqT, idxT, cat, cpy, ite_int, ite_bool, ite_seg, ite_segs, ite_nil, ite_twice, Int.toNat_natCast, app, addBs, tob])); (repeat (first | (refine And.intro ?_ ?_; · (first | decide | trivial | assumption | (intros; first | decide | trivial))) | ((first | (refine call_t _ (h46 _) ?_; rintro v H' ⟨rfl, rfl⟩) | refine call_q _ (h46 _) ?_ | refine call_g _ (imp_of (h46 _)) ?_); simp (maxSteps := 10000000) only [opL, kindV, kindL, boxW, intsW, slB, C54r0, C54r1, C54r3, C54r5, C54r6, C54r7, C54r8, C54r9, C54r10, rwp_nil, rwp_cons, rwpK_app, aop, gpath, St.get, slotAt, sfx, eqP, segsOf, St.put, addBlk, getB, setB, delB, ld1, ldn, st1, stn, setRow, rowNeed, segAt, nsub, bin, un, eqB, isShift, sameK, arith, shiftR, getsl, selB_or, selB_and, beqb, shed, addN, Nat.beq, Seg.size, sizes, imp, needP, andN, appL, argsOf, ptrsOf, aasOf, cut, takeS, dropS, putS, partsOf, fillS, fieldOf, nthA, negIf, nilq, nilB, eqS, eqF, eqS1, andP, kin, slcS, strOk, plusA, bndHi, leN, optG, roH, roL, initT, exOk, exAll, wrAddr, Nat.reduceAdd, Nat.reduceSub, Nat.reduceMul, Int.reduceToNat, List.append_nil, List.nil_append, List.cons_append, eqT, idxT, cat, cpy, ite_int, ite_bool, ite_seg, ite_segs, ite_nil, ite_twice, Int.toNat_natCast, app, addBs, tob]))); with_reducible refine hK _ ?_; clear hK K)
    | (refine run_cond rfl (fun hc => ?_) (fun hc => ?_) <;> try (simp only [*, Bool.true_eq_false, Bool.false_eq_true, Bool.not_true, Bool.not_false, Bool.true_or, Bool.or_true, Bool.false_or, Bool.or_false, Bool.false_and, Bool.and_false, bne_self_eq_false, beq_self_eq_true] at hc; done))
    | refine run_block ?_
    | refine run_ret ?_
    | refine run_nil ?_
    | refine run_exit ?_
    | refine blk_normal ?_
    | refine blk_ret ?_
    | refine blk_here ?_
    | refine blk_there rfl ?_
    | refine loop_exit ?_
    | refine loop_ret ?_
    | refine un_exit ?_
    | refine un_ret ?_
    | refine unE_exit ?_
    | refine unE_ret ?_
    | refine un_normal ?_)
  (refine run_regionL fun K hK => ?_; simp only [C54r2]; (repeat' (first | (refine And.intro ?_ ?_; · (first | decide | trivial | assumption | (intros; first | decide | trivial))) | (rw [rwp_cons]; (try simp (maxSteps := 10000000) only [opL, rwp_nil, rwpK_app, aop, gpath, St.get, slotAt, sfx, eqP, segsOf, St.put, addBlk, getB, setB, delB, ld1, ldn, st1, stn, setRow, rowNeed, segAt, nsub, bin, un, eqB, isShift, sameK, arith, shiftR, getsl, selB_or, selB_and, beqb, shed, addN, Nat.beq, Seg.size, sizes, imp, needP, andN, appL, argsOf, ptrsOf, aasOf, cut, takeS, dropS, putS, partsOf, fillS, fieldOf, nthA, negIf, nilq, nilB, eqS, eqF, eqS1, andP, kin, slcS, strOk, plusA, bndHi, leN, optG, roH, roL, initT, exOk, exAll, wrAddr, Nat.reduceAdd, Nat.reduceSub, Nat.reduceMul, Int.reduceToNat, List.append_nil, List.nil_append, List.cons_append, eqT, idxT, cat, cpy, ite_int, ite_bool, ite_seg, ite_segs, ite_nil, ite_twice, Int.toNat_natCast, app, addBs, tob])) | ((first | (refine call_g _ (imp_of (hg _)) ?_)) <;> (try simp (maxSteps := 10000000) only [opL, rwp_nil, rwpK_app, aop, gpath, St.get, slotAt, sfx, eqP, segsOf, St.put, addBlk, getB, setB, delB, ld1, ldn, st1, stn, setRow, rowNeed, segAt, nsub, bin, un, eqB, isShift, sameK, arith, shiftR, getsl, selB_or, selB_and, beqb, shed, addN, Nat.beq, Seg.size, sizes, imp, needP, andN, appL, argsOf, ptrsOf, aasOf, cut, takeS, dropS, putS, partsOf, fillS, fieldOf, nthA, negIf, nilq, nilB, eqS, eqF, eqS1, andP, kin, slcS, strOk, plusA, bndHi, leN, optG, roH, roL, initT, exOk, exAll, wrAddr, Nat.reduceAdd, Nat.reduceSub, Nat.reduceMul, Int.reduceToNat, List.append_nil, List.nil_append, List.cons_append, eqT, idxT, cat, cpy, ite_int, ite_bool, ite_seg, ite_segs, ite_nil, ite_twice, Int.toNat_natCast, app, addBs, tob])))); all_goals ((try simp only [rwp_nil, shed]); (with_reducible refine hK _ (⟨[⟨73, [], .c (.bool (badE rv r i od u o))⟩, ⟨2, [], .c (.ptr ⟨1, 0, 0, 0⟩)⟩, ⟨1, [], .c (.slice ⟨0, 0, 0, 0⟩ false m)⟩], ⟨2, [(1, opB' o), (0, opsB N f)]⟩⟩) ?hle ?_); (case hle => exact (LeS.intro [0, 1] (fun i h => idt1' i h) (by simp only [diff, notIn, Nat.beq, and_self]) rfl (by simp only [badE, slotsLe, slotAt, Nat.beq, leV, leV1, leC, leA, nthO, and_self]) ⟨opk_le o, ops_le N f false, trivial⟩)); clear hK K))
  refine run_cond rfl (fun hc => ?_) (fun hc => ?_)
  · repeat' (first
    | refine run_seq ?_
    | refine run_skip ?_
    | (refine run_region fun K hK => ?_; (try (simp (maxSteps := 10000000) only [C54r0, C54r1, C54r2, C54r3, C54r4, C54r5, C54r6, C54r7, C54r8, C54r9, C54r10, rwp_nil, rwp_cons, rwpK_app, aop, gpath, St.get, slotAt, sfx, eqP, segsOf, St.put, addBlk, getB, setB, delB, ld1, ldn, st1, stn, setRow, rowNeed, segAt, nsub, bin, un, eqB, isShift, sameK, arith, shiftR, getsl, selB_or, selB_and, beqb, shed, addN, Nat.beq, Seg.size, sizes, imp, needP, andN, appL, argsOf, ptrsOf, aasOf, cut, takeS, dropS, putS, partsOf, fillS, fieldOf, nthA, negIf, nilq, nilB, eqS, eqF, eqS1, andP, kin, slcS, strOk, plusA, bndHi, leN, optG, roH, roL, initT, exOk, exAll, wrAddr, Nat.reduceAdd, Nat.reduceSub, Nat.reduceMul, Int.reduceToNat, List.append_nil, List.nil_append, List.cons_append, eqT, idxT, cat, cpy, ite_int, ite_bool, ite_seg, ite_segs, ite_nil, ite_twice, Int.toNat_natCast, app, addBs, tob])); (repeat (first | (refine And.intro ?_ ?_; · first | trivial | assumption | omega))); with_reducible refine hK _ ?_; clear hK K)
    | (refine run_cond rfl (fun hc => ?_) (fun hc => ?_) <;> try (simp only [*, Bool.true_eq_false, Bool.false_eq_true, Bool.not_true, Bool.not_false, Bool.true_or, Bool.or_true, Bool.false_or, Bool.or_false, Bool.false_and, Bool.and_false, bne_self_eq_false, beq_self_eq_true] at hc; done))
    | refine run_block ?_
    | refine run_ret ?_
    | refine run_nil ?_
    | refine run_exit ?_
    | refine blk_normal ?_
    | refine blk_ret ?_
    | refine blk_here ?_
    | refine blk_there rfl ?_
    | refine loop_exit ?_
    | refine loop_ret ?_
    | refine un_exit ?_
    | refine un_ret ?_
    | refine unE_exit ?_
    | refine unE_ret ?_
    | refine un_normal ?_)
    exact end_ops false rfl rfl ⟨by rw [hc]; rfl, rfl⟩
  · refine run_skip ?_
    exact rop_tail _ o N m f hm hN ⟨by rw [hc]; rfl, rfl⟩
set_option maxHeartbeats 8000000 in
theorem rop_Q (o : OpS) (N m : Nat) (f : Nat → OpS) (hm : m ≤ N) (hN : N ≤ 140737488355328) (w : ByteArray) (r i od : Bool) (u : Int) (d e a : Bool) (t : Int) (h46 : ∀ n X, keysLt X n → Con Try.prog 46 [.c (.int .i64 o.kind)] ⟨n, X⟩ (fun v H' => v = kindV (kindL w r i od u d e a (.fn 98 [] [⟨n, 0, 0, 0⟩])) true ∧ H' = addBs ⟨n, X⟩ [boxW t])) : Con Try.prog 54 [.agg (opL o), .c (.slice ⟨0, 0, 0, 0⟩ false m)] ⟨1, [(0, opsB N f)]⟩ (fun v H' => v = .c (.bool (!badE (upS t o) r i od u o && usesOk o m f (usesS o.kind))) ∧ H' = ⟨1, [(0, opsB N f)]⟩) := by
  (refine con_of_run mixed (fn := Try.f54) (by kernel_rfl) (by kernel_rfl) C54_ok (rs := [.tmp 4]) (by kernel_rfl) (Nat.le_of_ble_eq_true (by kernel_rfl)) ?_; unfold C54; simp only [initT, Nat.reduceAdd])
  repeat' (first
    | refine run_seq ?_
    | refine run_skip ?_
    | (refine run_region fun K hK => ?_; (try (simp (maxSteps := 10000000) only [opL, kindV, kindL, boxW, intsW, slB, C54r0, C54r1, C54r3, C54r5, C54r6, C54r7, C54r8, C54r9, C54r10, rwp_nil, rwp_cons, rwpK_app, aop, gpath, St.get, slotAt, sfx, eqP, segsOf, St.put, addBlk, getB, setB, delB, ld1, ldn, st1, stn, setRow, rowNeed, segAt, nsub, bin, un, eqB, isShift, sameK, arith, shiftR, getsl, selB_or, selB_and, beqb, shed, addN, Nat.beq, Seg.size, sizes, imp, needP, andN, appL, argsOf, ptrsOf, aasOf, cut, takeS, dropS, putS, partsOf, fillS, fieldOf, nthA, negIf, nilq, nilB, eqS, eqF, eqS1, andP, kin, slcS, strOk, plusA, bndHi, leN, optG, roH, roL, initT, exOk, exAll, wrAddr, Nat.reduceAdd, Nat.reduceSub, Nat.reduceMul, Int.reduceToNat, List.append_nil, List.nil_append, List.cons_append, eqT, idxT, cat, cpy, ite_int, ite_bool, ite_seg, ite_segs, ite_nil, ite_twice, Int.toNat_natCast, app, addBs, tob])); (repeat (first | (refine And.intro ?_ ?_; · (first | decide | trivial | assumption | (intros; first | decide | trivial))) | ((first | (refine call_t _ (h46 _ _ (by simp [roL, keysLt, boxW, intsW, slB, opB', opsB])) ?_; rintro v H' ⟨rfl, rfl⟩) | refine call_q _ (h46 _ _ (by simp [roL, keysLt, boxW, intsW, slB, opB', opsB])) ?_ | refine call_g _ (imp_of (h46 _ _ (by simp [roL, keysLt, boxW, intsW, slB, opB', opsB]))) ?_); simp (maxSteps := 10000000) only [opL, kindV, kindL, boxW, intsW, slB, C54r0, C54r1, C54r3, C54r5, C54r6, C54r7, C54r8, C54r9, C54r10, rwp_nil, rwp_cons, rwpK_app, aop, gpath, St.get, slotAt, sfx, eqP, segsOf, St.put, addBlk, getB, setB, delB, ld1, ldn, st1, stn, setRow, rowNeed, segAt, nsub, bin, un, eqB, isShift, sameK, arith, shiftR, getsl, selB_or, selB_and, beqb, shed, addN, Nat.beq, Seg.size, sizes, imp, needP, andN, appL, argsOf, ptrsOf, aasOf, cut, takeS, dropS, putS, partsOf, fillS, fieldOf, nthA, negIf, nilq, nilB, eqS, eqF, eqS1, andP, kin, slcS, strOk, plusA, bndHi, leN, optG, roH, roL, initT, exOk, exAll, wrAddr, Nat.reduceAdd, Nat.reduceSub, Nat.reduceMul, Int.reduceToNat, List.append_nil, List.nil_append, List.cons_append, eqT, idxT, cat, cpy, ite_int, ite_bool, ite_seg, ite_segs, ite_nil, ite_twice, Int.toNat_natCast, app, addBs, tob]))); with_reducible refine hK _ ?_; clear hK K)
    | (refine run_cond rfl (fun hc => ?_) (fun hc => ?_) <;> try (simp only [*, Bool.true_eq_false, Bool.false_eq_true, Bool.not_true, Bool.not_false, Bool.true_or, Bool.or_true, Bool.false_or, Bool.or_false, Bool.false_and, Bool.and_false, bne_self_eq_false, beq_self_eq_true] at hc; done))
    | refine run_block ?_
    | refine run_ret ?_
    | refine run_nil ?_
    | refine run_exit ?_
    | refine blk_normal ?_
    | refine blk_ret ?_
    | refine blk_here ?_
    | refine blk_there rfl ?_
    | refine loop_exit ?_
    | refine loop_ret ?_
    | refine un_exit ?_
    | refine un_ret ?_
    | refine unE_exit ?_
    | refine unE_ret ?_
    | refine un_normal ?_)
  (refine run_regionL fun K hK => ?_; simp only [C54r2]; (repeat' (first | (refine And.intro ?_ ?_; · (first | decide | trivial | assumption | (intros; first | decide | trivial))) | (rw [rwp_cons]; (try simp (maxSteps := 10000000) only [opL, rwp_nil, rwpK_app, aop, gpath, St.get, slotAt, sfx, eqP, segsOf, St.put, addBlk, getB, setB, delB, ld1, ldn, st1, stn, setRow, rowNeed, segAt, nsub, bin, un, eqB, isShift, sameK, arith, shiftR, getsl, selB_or, selB_and, beqb, shed, addN, Nat.beq, Seg.size, sizes, imp, needP, andN, appL, argsOf, ptrsOf, aasOf, cut, takeS, dropS, putS, partsOf, fillS, fieldOf, nthA, negIf, nilq, nilB, eqS, eqF, eqS1, andP, kin, slcS, strOk, plusA, bndHi, leN, optG, roH, roL, initT, exOk, exAll, wrAddr, Nat.reduceAdd, Nat.reduceSub, Nat.reduceMul, Int.reduceToNat, List.append_nil, List.nil_append, List.cons_append, eqT, idxT, cat, cpy, ite_int, ite_bool, ite_seg, ite_segs, ite_nil, ite_twice, Int.toNat_natCast, app, addBs, tob])) | ((first | (refine call_g _ (imp_of (con98_at t o _ _ _ _ rfl (Nat.le_of_ble_eq_true rfl) (by simp [roL, keysLt, boxW, intsW, slB, opB', opsB]))) ?_)) <;> (try simp (maxSteps := 10000000) only [opL, rwp_nil, rwpK_app, aop, gpath, St.get, slotAt, sfx, eqP, segsOf, St.put, addBlk, getB, setB, delB, ld1, ldn, st1, stn, setRow, rowNeed, segAt, nsub, bin, un, eqB, isShift, sameK, arith, shiftR, getsl, selB_or, selB_and, beqb, shed, addN, Nat.beq, Seg.size, sizes, imp, needP, andN, appL, argsOf, ptrsOf, aasOf, cut, takeS, dropS, putS, partsOf, fillS, fieldOf, nthA, negIf, nilq, nilB, eqS, eqF, eqS1, andP, kin, slcS, strOk, plusA, bndHi, leN, optG, roH, roL, initT, exOk, exAll, wrAddr, Nat.reduceAdd, Nat.reduceSub, Nat.reduceMul, Int.reduceToNat, List.append_nil, List.nil_append, List.cons_append, eqT, idxT, cat, cpy, ite_int, ite_bool, ite_seg, ite_segs, ite_nil, ite_twice, Int.toNat_natCast, app, addBs, tob])))); all_goals ((try simp only [rwp_nil, shed]); (with_reducible refine hK _ (⟨[⟨73, [], .c (.bool (badE (upS t o) r i od u o))⟩, ⟨2, [], .c (.ptr ⟨1, 0, 0, 0⟩)⟩, ⟨1, [], .c (.slice ⟨0, 0, 0, 0⟩ false m)⟩], ⟨2, [(1, opB' o), (0, opsB N f)]⟩⟩) ?hle ?_); (case hle => exact (LeS.intro [0, 1] (fun i h => idt1' i h) (by simp only [diff, notIn, Nat.beq, and_self]) rfl (by simp only [badE, slotsLe, slotAt, Nat.beq, leV, leV1, leC, leA, nthO, and_self]) ⟨opk_le o, ops_le N f false, trivial⟩)); clear hK K))
  refine run_cond rfl (fun hc => ?_) (fun hc => ?_)
  · repeat' (first
    | refine run_seq ?_
    | refine run_skip ?_
    | (refine run_region fun K hK => ?_; (try (simp (maxSteps := 10000000) only [C54r0, C54r1, C54r2, C54r3, C54r4, C54r5, C54r6, C54r7, C54r8, C54r9, C54r10, rwp_nil, rwp_cons, rwpK_app, aop, gpath, St.get, slotAt, sfx, eqP, segsOf, St.put, addBlk, getB, setB, delB, ld1, ldn, st1, stn, setRow, rowNeed, segAt, nsub, bin, un, eqB, isShift, sameK, arith, shiftR, getsl, selB_or, selB_and, beqb, shed, addN, Nat.beq, Seg.size, sizes, imp, needP, andN, appL, argsOf, ptrsOf, aasOf, cut, takeS, dropS, putS, partsOf, fillS, fieldOf, nthA, negIf, nilq, nilB, eqS, eqF, eqS1, andP, kin, slcS, strOk, plusA, bndHi, leN, optG, roH, roL, initT, exOk, exAll, wrAddr, Nat.reduceAdd, Nat.reduceSub, Nat.reduceMul, Int.reduceToNat, List.append_nil, List.nil_append, List.cons_append, eqT, idxT, cat, cpy, ite_int, ite_bool, ite_seg, ite_segs, ite_nil, ite_twice, Int.toNat_natCast, app, addBs, tob])); (repeat (first | (refine And.intro ?_ ?_; · first | trivial | assumption | omega))); with_reducible refine hK _ ?_; clear hK K)
    | (refine run_cond rfl (fun hc => ?_) (fun hc => ?_) <;> try (simp only [*, Bool.true_eq_false, Bool.false_eq_true, Bool.not_true, Bool.not_false, Bool.true_or, Bool.or_true, Bool.false_or, Bool.or_false, Bool.false_and, Bool.and_false, bne_self_eq_false, beq_self_eq_true] at hc; done))
    | refine run_block ?_
    | refine run_ret ?_
    | refine run_nil ?_
    | refine run_exit ?_
    | refine blk_normal ?_
    | refine blk_ret ?_
    | refine blk_here ?_
    | refine blk_there rfl ?_
    | refine loop_exit ?_
    | refine loop_ret ?_
    | refine un_exit ?_
    | refine un_ret ?_
    | refine unE_exit ?_
    | refine unE_ret ?_
    | refine un_normal ?_)
    exact end_ops false rfl rfl ⟨by rw [hc]; rfl, rfl⟩
  · refine run_skip ?_
    exact rop_tail _ o N m f hm hN ⟨by rw [hc]; rfl, rfl⟩
set_option maxHeartbeats 8000000 in
theorem rop_S (o : OpS) (N m : Nat) (f : Nat → OpS) (hm : m ≤ N) (hN : N ≤ 140737488355328) (w : ByteArray) (r i od : Bool) (u : Int) (d e a : Bool) (c : Nat) (g1 g2 : Int) (hc : c < 1000) (h46 : ∀ n X, keysLt X n → Con Try.prog 46 [.c (.int .i64 o.kind)] ⟨n, X⟩ (fun v H' => v = kindV (kindL w r i od u d e a (.fn 99 [] [⟨n + 1, 0, 0, 0⟩])) true ∧ H' = addBs ⟨n, X⟩ [intsW c (ordF g1 g2), slB n c true])) : Con Try.prog 54 [.agg (opL o), .c (.slice ⟨0, 0, 0, 0⟩ false m)] ⟨1, [(0, opsB N f)]⟩ (fun v H' => v = .c (.bool (!badE (inB (ordF g1 g2) o.order c 0) r i od u o && usesOk o m f (usesS o.kind))) ∧ H' = ⟨1, [(0, opsB N f)]⟩) := by
  (refine con_of_run mixed (fn := Try.f54) (by kernel_rfl) (by kernel_rfl) C54_ok (rs := [.tmp 4]) (by kernel_rfl) (Nat.le_of_ble_eq_true (by kernel_rfl)) ?_; unfold C54; simp only [initT, Nat.reduceAdd])
  repeat' (first
    | refine run_seq ?_
    | refine run_skip ?_
    | (refine run_region fun K hK => ?_; (try (simp (maxSteps := 10000000) only [opL, kindV, kindL, boxW, intsW, slB, C54r0, C54r1, C54r3, C54r5, C54r6, C54r7, C54r8, C54r9, C54r10, rwp_nil, rwp_cons, rwpK_app, aop, gpath, St.get, slotAt, sfx, eqP, segsOf, St.put, addBlk, getB, setB, delB, ld1, ldn, st1, stn, setRow, rowNeed, segAt, nsub, bin, un, eqB, isShift, sameK, arith, shiftR, getsl, selB_or, selB_and, beqb, shed, addN, Nat.beq, Seg.size, sizes, imp, needP, andN, appL, argsOf, ptrsOf, aasOf, cut, takeS, dropS, putS, partsOf, fillS, fieldOf, nthA, negIf, nilq, nilB, eqS, eqF, eqS1, andP, kin, slcS, strOk, plusA, bndHi, leN, optG, roH, roL, initT, exOk, exAll, wrAddr, Nat.reduceAdd, Nat.reduceSub, Nat.reduceMul, Int.reduceToNat, List.append_nil, List.nil_append, List.cons_append, eqT, idxT, cat, cpy, ite_int, ite_bool, ite_seg, ite_segs, ite_nil, ite_twice, Int.toNat_natCast, app, addBs, tob])); (repeat (first | (refine And.intro ?_ ?_; · (first | decide | trivial | assumption | (intros; first | decide | trivial))) | ((first | (refine call_t _ (h46 _ _ (by simp [roL, keysLt, boxW, intsW, slB, opB', opsB])) ?_; rintro v H' ⟨rfl, rfl⟩) | refine call_q _ (h46 _ _ (by simp [roL, keysLt, boxW, intsW, slB, opB', opsB])) ?_ | refine call_g _ (imp_of (h46 _ _ (by simp [roL, keysLt, boxW, intsW, slB, opB', opsB]))) ?_); simp (maxSteps := 10000000) only [opL, kindV, kindL, boxW, intsW, slB, C54r0, C54r1, C54r3, C54r5, C54r6, C54r7, C54r8, C54r9, C54r10, rwp_nil, rwp_cons, rwpK_app, aop, gpath, St.get, slotAt, sfx, eqP, segsOf, St.put, addBlk, getB, setB, delB, ld1, ldn, st1, stn, setRow, rowNeed, segAt, nsub, bin, un, eqB, isShift, sameK, arith, shiftR, getsl, selB_or, selB_and, beqb, shed, addN, Nat.beq, Seg.size, sizes, imp, needP, andN, appL, argsOf, ptrsOf, aasOf, cut, takeS, dropS, putS, partsOf, fillS, fieldOf, nthA, negIf, nilq, nilB, eqS, eqF, eqS1, andP, kin, slcS, strOk, plusA, bndHi, leN, optG, roH, roL, initT, exOk, exAll, wrAddr, Nat.reduceAdd, Nat.reduceSub, Nat.reduceMul, Int.reduceToNat, List.append_nil, List.nil_append, List.cons_append, eqT, idxT, cat, cpy, ite_int, ite_bool, ite_seg, ite_segs, ite_nil, ite_twice, Int.toNat_natCast, app, addBs, tob]))); with_reducible refine hK _ ?_; clear hK K)
    | (refine run_cond rfl (fun hc => ?_) (fun hc => ?_) <;> try (simp only [*, Bool.true_eq_false, Bool.false_eq_true, Bool.not_true, Bool.not_false, Bool.true_or, Bool.or_true, Bool.false_or, Bool.or_false, Bool.false_and, Bool.and_false, bne_self_eq_false, beq_self_eq_true] at hc; done))
    | refine run_block ?_
    | refine run_ret ?_
    | refine run_nil ?_
    | refine run_exit ?_
    | refine blk_normal ?_
    | refine blk_ret ?_
    | refine blk_here ?_
    | refine blk_there rfl ?_
    | refine loop_exit ?_
    | refine loop_ret ?_
    | refine un_exit ?_
    | refine un_ret ?_
    | refine unE_exit ?_
    | refine unE_ret ?_
    | refine un_normal ?_)
  (refine run_regionL fun K hK => ?_; simp only [C54r2]; (repeat' (first | (refine And.intro ?_ ?_; · (first | decide | trivial | assumption | (intros; first | decide | trivial))) | (rw [rwp_cons]; (try simp (maxSteps := 10000000) only [opL, rwp_nil, rwpK_app, aop, gpath, St.get, slotAt, sfx, eqP, segsOf, St.put, addBlk, getB, setB, delB, ld1, ldn, st1, stn, setRow, rowNeed, segAt, nsub, bin, un, eqB, isShift, sameK, arith, shiftR, getsl, selB_or, selB_and, beqb, shed, addN, Nat.beq, Seg.size, sizes, imp, needP, andN, appL, argsOf, ptrsOf, aasOf, cut, takeS, dropS, putS, partsOf, fillS, fieldOf, nthA, negIf, nilq, nilB, eqS, eqF, eqS1, andP, kin, slcS, strOk, plusA, bndHi, leN, optG, roH, roL, initT, exOk, exAll, wrAddr, Nat.reduceAdd, Nat.reduceSub, Nat.reduceMul, Int.reduceToNat, List.append_nil, List.nil_append, List.cons_append, eqT, idxT, cat, cpy, ite_int, ite_bool, ite_seg, ite_segs, ite_nil, ite_twice, Int.toNat_natCast, app, addBs, tob])) | ((first | (refine call_g _ (imp_of (con99_at c (ordF g1 g2) o hc 2 3 _ _ _ _ rfl rfl rfl (Nat.le_of_ble_eq_true rfl) (Nat.le_of_ble_eq_true rfl) (by simp [roL, keysLt, boxW, intsW, slB, opB', opsB]))) ?_)) <;> (try simp (maxSteps := 10000000) only [opL, rwp_nil, rwpK_app, aop, gpath, St.get, slotAt, sfx, eqP, segsOf, St.put, addBlk, getB, setB, delB, ld1, ldn, st1, stn, setRow, rowNeed, segAt, nsub, bin, un, eqB, isShift, sameK, arith, shiftR, getsl, selB_or, selB_and, beqb, shed, addN, Nat.beq, Seg.size, sizes, imp, needP, andN, appL, argsOf, ptrsOf, aasOf, cut, takeS, dropS, putS, partsOf, fillS, fieldOf, nthA, negIf, nilq, nilB, eqS, eqF, eqS1, andP, kin, slcS, strOk, plusA, bndHi, leN, optG, roH, roL, initT, exOk, exAll, wrAddr, Nat.reduceAdd, Nat.reduceSub, Nat.reduceMul, Int.reduceToNat, List.append_nil, List.nil_append, List.cons_append, eqT, idxT, cat, cpy, ite_int, ite_bool, ite_seg, ite_segs, ite_nil, ite_twice, Int.toNat_natCast, app, addBs, tob])))); all_goals ((try simp only [rwp_nil, shed]); (with_reducible refine hK _ (⟨[⟨73, [], .c (.bool (badE (inB (ordF g1 g2) o.order c 0) r i od u o))⟩, ⟨2, [], .c (.ptr ⟨1, 0, 0, 0⟩)⟩, ⟨1, [], .c (.slice ⟨0, 0, 0, 0⟩ false m)⟩], ⟨2, [(1, opB' o), (0, opsB N f)]⟩⟩) ?hle ?_); (case hle => exact (LeS.intro [0, 1] (fun i h => idt1' i h) (by simp only [diff, notIn, Nat.beq, and_self]) rfl (by simp only [badE, slotsLe, slotAt, Nat.beq, leV, leV1, leC, leA, nthO, and_self]) ⟨opk_le o, ops_le N f false, trivial⟩)); clear hK K))
  refine run_cond rfl (fun hc => ?_) (fun hc => ?_)
  · repeat' (first
    | refine run_seq ?_
    | refine run_skip ?_
    | (refine run_region fun K hK => ?_; (try (simp (maxSteps := 10000000) only [C54r0, C54r1, C54r2, C54r3, C54r4, C54r5, C54r6, C54r7, C54r8, C54r9, C54r10, rwp_nil, rwp_cons, rwpK_app, aop, gpath, St.get, slotAt, sfx, eqP, segsOf, St.put, addBlk, getB, setB, delB, ld1, ldn, st1, stn, setRow, rowNeed, segAt, nsub, bin, un, eqB, isShift, sameK, arith, shiftR, getsl, selB_or, selB_and, beqb, shed, addN, Nat.beq, Seg.size, sizes, imp, needP, andN, appL, argsOf, ptrsOf, aasOf, cut, takeS, dropS, putS, partsOf, fillS, fieldOf, nthA, negIf, nilq, nilB, eqS, eqF, eqS1, andP, kin, slcS, strOk, plusA, bndHi, leN, optG, roH, roL, initT, exOk, exAll, wrAddr, Nat.reduceAdd, Nat.reduceSub, Nat.reduceMul, Int.reduceToNat, List.append_nil, List.nil_append, List.cons_append, eqT, idxT, cat, cpy, ite_int, ite_bool, ite_seg, ite_segs, ite_nil, ite_twice, Int.toNat_natCast, app, addBs, tob])); (repeat (first | (refine And.intro ?_ ?_; · first | trivial | assumption | omega))); with_reducible refine hK _ ?_; clear hK K)
    | (refine run_cond rfl (fun hc => ?_) (fun hc => ?_) <;> try (simp only [*, Bool.true_eq_false, Bool.false_eq_true, Bool.not_true, Bool.not_false, Bool.true_or, Bool.or_true, Bool.false_or, Bool.or_false, Bool.false_and, Bool.and_false, bne_self_eq_false, beq_self_eq_true] at hc; done))
    | refine run_block ?_
    | refine run_ret ?_
    | refine run_nil ?_
    | refine run_exit ?_
    | refine blk_normal ?_
    | refine blk_ret ?_
    | refine blk_here ?_
    | refine blk_there rfl ?_
    | refine loop_exit ?_
    | refine loop_ret ?_
    | refine un_exit ?_
    | refine un_ret ?_
    | refine unE_exit ?_
    | refine unE_ret ?_
    | refine un_normal ?_)
    exact end_ops false rfl rfl ⟨by rw [hc]; rfl, rfl⟩
  · refine run_skip ?_
    exact rop_tail _ o N m f hm hN ⟨by rw [hc]; rfl, rfl⟩
def badN (o : OpS) : Bool := (((((!false || !false) || (!false && (o.r != 0))) || (!false && (o.imm != 0))) || (!false && (o.order != 0))) || (decide ((0 : Int) < 1) && (o.a != 0))) || (decide ((0 : Int) < 2) && (o.b != 0))
set_option maxHeartbeats 8000000 in
theorem rop_no (o : OpS) (N m : Nat) (f : Nat → OpS) (hm : m ≤ N) (hN : N ≤ 140737488355328) (h : noKind o.kind) : Con Try.prog 54 [.agg (opL o), .c (.slice ⟨0, 0, 0, 0⟩ false m)] ⟨1, [(0, opsB N f)]⟩ (fun v H' => v = .c (.bool (false)) ∧ H' = ⟨1, [(0, opsB N f)]⟩) := by
  (refine con_of_run mixed (fn := Try.f54) (by kernel_rfl) (by kernel_rfl) C54_ok (rs := [.tmp 4]) (by kernel_rfl) (Nat.le_of_ble_eq_true (by kernel_rfl)) ?_; unfold C54; simp only [initT, Nat.reduceAdd])
  repeat' (first
    | refine run_seq ?_
    | refine run_skip ?_
    | (refine run_region fun K hK => ?_; (try (simp (maxSteps := 10000000) only [opL, kindV, kindL, boxW, intsW, slB, C54r0, C54r1, C54r3, C54r5, C54r6, C54r7, C54r8, C54r9, C54r10, rwp_nil, rwp_cons, rwpK_app, aop, gpath, St.get, slotAt, sfx, eqP, segsOf, St.put, addBlk, getB, setB, delB, ld1, ldn, st1, stn, setRow, rowNeed, segAt, nsub, bin, un, eqB, isShift, sameK, arith, shiftR, getsl, selB_or, selB_and, beqb, shed, addN, Nat.beq, Seg.size, sizes, imp, needP, andN, appL, argsOf, ptrsOf, aasOf, cut, takeS, dropS, putS, partsOf, fillS, fieldOf, nthA, negIf, nilq, nilB, eqS, eqF, eqS1, andP, kin, slcS, strOk, plusA, bndHi, leN, optG, roH, roL, initT, exOk, exAll, wrAddr, Nat.reduceAdd, Nat.reduceSub, Nat.reduceMul, Int.reduceToNat, List.append_nil, List.nil_append, List.cons_append, eqT, idxT, cat, cpy, ite_int, ite_bool, ite_seg, ite_segs, ite_nil, ite_twice, Int.toNat_natCast, app, addBs, tob])); (repeat (first | (refine And.intro ?_ ?_; · (first | decide | trivial | assumption | (intros; first | decide | trivial | exact no_true (by assumption)))) | ((first | (refine call_t _ (kind_no _ h _) ?_; rintro v H' ⟨rfl, rfl⟩) | refine call_q _ (kind_no _ h _) ?_ | refine call_g _ (imp_of (kind_no _ h _)) ?_); simp (maxSteps := 10000000) only [opL, kindV, kindL, boxW, intsW, slB, C54r0, C54r1, C54r3, C54r5, C54r6, C54r7, C54r8, C54r9, C54r10, rwp_nil, rwp_cons, rwpK_app, aop, gpath, St.get, slotAt, sfx, eqP, segsOf, St.put, addBlk, getB, setB, delB, ld1, ldn, st1, stn, setRow, rowNeed, segAt, nsub, bin, un, eqB, isShift, sameK, arith, shiftR, getsl, selB_or, selB_and, beqb, shed, addN, Nat.beq, Seg.size, sizes, imp, needP, andN, appL, argsOf, ptrsOf, aasOf, cut, takeS, dropS, putS, partsOf, fillS, fieldOf, nthA, negIf, nilq, nilB, eqS, eqF, eqS1, andP, kin, slcS, strOk, plusA, bndHi, leN, optG, roH, roL, initT, exOk, exAll, wrAddr, Nat.reduceAdd, Nat.reduceSub, Nat.reduceMul, Int.reduceToNat, List.append_nil, List.nil_append, List.cons_append, eqT, idxT, cat, cpy, ite_int, ite_bool, ite_seg, ite_segs, ite_nil, ite_twice, Int.toNat_natCast, app, addBs, tob]))); with_reducible refine hK _ ?_; clear hK K)
    | (refine run_cond rfl (fun hc => ?_) (fun hc => ?_) <;> try (simp only [*, Bool.true_eq_false, Bool.false_eq_true, Bool.not_true, Bool.not_false, Bool.true_or, Bool.or_true, Bool.false_or, Bool.or_false, Bool.false_and, Bool.and_false, bne_self_eq_false, beq_self_eq_true] at hc; done))
    | refine run_block ?_
    | refine run_ret ?_
    | refine run_nil ?_
    | refine run_exit ?_
    | refine blk_normal ?_
    | refine blk_ret ?_
    | refine blk_here ?_
    | refine blk_there rfl ?_
    | refine loop_exit ?_
    | refine loop_ret ?_
    | refine un_exit ?_
    | refine un_ret ?_
    | refine unE_exit ?_
    | refine unE_ret ?_
    | refine un_normal ?_)
  (refine run_regionL fun K hK => ?_; simp only [C54r2]; (repeat' (first | (refine And.intro ?_ ?_; · (first | decide | trivial | assumption | (intros; first | decide | trivial | exact no_true (by assumption)))) | (rw [rwp_cons]; (try simp (maxSteps := 10000000) only [opL, rwp_nil, rwpK_app, aop, gpath, St.get, slotAt, sfx, eqP, segsOf, St.put, addBlk, getB, setB, delB, ld1, ldn, st1, stn, setRow, rowNeed, segAt, nsub, bin, un, eqB, isShift, sameK, arith, shiftR, getsl, selB_or, selB_and, beqb, shed, addN, Nat.beq, Seg.size, sizes, imp, needP, andN, appL, argsOf, ptrsOf, aasOf, cut, takeS, dropS, putS, partsOf, fillS, fieldOf, nthA, negIf, nilq, nilB, eqS, eqF, eqS1, andP, kin, slcS, strOk, plusA, bndHi, leN, optG, roH, roL, initT, exOk, exAll, wrAddr, Nat.reduceAdd, Nat.reduceSub, Nat.reduceMul, Int.reduceToNat, List.append_nil, List.nil_append, List.cons_append, eqT, idxT, cat, cpy, ite_int, ite_bool, ite_seg, ite_segs, ite_nil, ite_twice, Int.toNat_natCast, app, addBs, tob])) | ((first | (refine call_g _ (imp_of (kind_no _ h _)) ?_)) <;> (try simp (maxSteps := 10000000) only [opL, rwp_nil, rwpK_app, aop, gpath, St.get, slotAt, sfx, eqP, segsOf, St.put, addBlk, getB, setB, delB, ld1, ldn, st1, stn, setRow, rowNeed, segAt, nsub, bin, un, eqB, isShift, sameK, arith, shiftR, getsl, selB_or, selB_and, beqb, shed, addN, Nat.beq, Seg.size, sizes, imp, needP, andN, appL, argsOf, ptrsOf, aasOf, cut, takeS, dropS, putS, partsOf, fillS, fieldOf, nthA, negIf, nilq, nilB, eqS, eqF, eqS1, andP, kin, slcS, strOk, plusA, bndHi, leN, optG, roH, roL, initT, exOk, exAll, wrAddr, Nat.reduceAdd, Nat.reduceSub, Nat.reduceMul, Int.reduceToNat, List.append_nil, List.nil_append, List.cons_append, eqT, idxT, cat, cpy, ite_int, ite_bool, ite_seg, ite_segs, ite_nil, ite_twice, Int.toNat_natCast, app, addBs, tob])))); all_goals ((try simp only [rwp_nil, shed]); (with_reducible refine hK _ (⟨[⟨73, [], .c (.bool (badN o))⟩, ⟨2, [], .c (.ptr ⟨1, 0, 0, 0⟩)⟩, ⟨1, [], .c (.slice ⟨0, 0, 0, 0⟩ false m)⟩], ⟨2, [(1, opB' o), (0, opsB N f)]⟩⟩) ?hle ?_); (case hle => exact (LeS.intro [0, 1] (fun i h => idt1' i h) (by simp only [diff, notIn, Nat.beq, and_self]) rfl (by simp only [badN, slotsLe, slotAt, Nat.beq, leV, leV1, leC, leA, nthO, and_self]) ⟨opk_le o, ops_le N f false, trivial⟩)); clear hK K))
  refine run_cond rfl (fun hc => ?_) (fun hc => ?_)
  · repeat' (first
    | refine run_seq ?_
    | refine run_skip ?_
    | (refine run_region fun K hK => ?_; (try (simp (maxSteps := 10000000) only [C54r0, C54r1, C54r2, C54r3, C54r4, C54r5, C54r6, C54r7, C54r8, C54r9, C54r10, rwp_nil, rwp_cons, rwpK_app, aop, gpath, St.get, slotAt, sfx, eqP, segsOf, St.put, addBlk, getB, setB, delB, ld1, ldn, st1, stn, setRow, rowNeed, segAt, nsub, bin, un, eqB, isShift, sameK, arith, shiftR, getsl, selB_or, selB_and, beqb, shed, addN, Nat.beq, Seg.size, sizes, imp, needP, andN, appL, argsOf, ptrsOf, aasOf, cut, takeS, dropS, putS, partsOf, fillS, fieldOf, nthA, negIf, nilq, nilB, eqS, eqF, eqS1, andP, kin, slcS, strOk, plusA, bndHi, leN, optG, roH, roL, initT, exOk, exAll, wrAddr, Nat.reduceAdd, Nat.reduceSub, Nat.reduceMul, Int.reduceToNat, List.append_nil, List.nil_append, List.cons_append, eqT, idxT, cat, cpy, ite_int, ite_bool, ite_seg, ite_segs, ite_nil, ite_twice, Int.toNat_natCast, app, addBs, tob])); (repeat (first | (refine And.intro ?_ ?_; · first | trivial | assumption | omega))); with_reducible refine hK _ ?_; clear hK K)
    | (refine run_cond rfl (fun hc => ?_) (fun hc => ?_) <;> try (simp only [*, Bool.true_eq_false, Bool.false_eq_true, Bool.not_true, Bool.not_false, Bool.true_or, Bool.or_true, Bool.false_or, Bool.or_false, Bool.false_and, Bool.and_false, bne_self_eq_false, beq_self_eq_true] at hc; done))
    | refine run_block ?_
    | refine run_ret ?_
    | refine run_nil ?_
    | refine run_exit ?_
    | refine blk_normal ?_
    | refine blk_ret ?_
    | refine blk_here ?_
    | refine blk_there rfl ?_
    | refine loop_exit ?_
    | refine loop_ret ?_
    | refine un_exit ?_
    | refine un_ret ?_
    | refine unE_exit ?_
    | refine unE_ret ?_
    | refine un_normal ?_)
    exact end_ops false rfl rfl ⟨rfl, rfl⟩
  · simp [badN] at hc
/-- May an operation stand behind m others? -/
def ropS (o : OpS) (m : Nat) (f : Nat → OpS) : Bool := !fieldBad o && usesOk o m f (usesS o.kind)
theorem badE_field (o : OpS) (rv r i od : Bool) (u : Nat) (h1 : rightF o = rv) (h2 : hasR o.kind = r) (h3 : hasImm o.kind = i) (h4 : hasOrd o.kind = od) (h5 : usesS o.kind = u) : badE rv r i od (u : Int) o = fieldBad o := by
  unfold badE fieldBad
  rw [h1, h2, h3, h4, h5]
  have e1 : decide ((u : Int) < 1) = decide (u < 1) := decide_eq_decide.2 (by omega)
  have e2 : decide ((u : Int) < 2) = decide (u < 2) := decide_eq_decide.2 (by omega)
  rw [e1, e2, Bool.not_true, Bool.false_or]
theorem rightF_1 (o : OpS) (h : o.kind = 1) : rightF o = (true) := by simp [rightF, h]
theorem rightF_2 (o : OpS) (h : o.kind = 2) : rightF o = (upS 30 o) := by simp [rightF, h]
theorem rightF_3 (o : OpS) (h : o.kind = 3) : rightF o = (upS 30 o) := by simp [rightF, h]
theorem rightF_4 (o : OpS) (h : o.kind = 4) : rightF o = (true) := by simp [rightF, h]
theorem rightF_5 (o : OpS) (h : o.kind = 5) : rightF o = (true) := by simp [rightF, h]
theorem rightF_6 (o : OpS) (h : o.kind = 6) : rightF o = (upS 3 o) := by simp [rightF, h]
theorem rightF_7 (o : OpS) (h : o.kind = 7) : rightF o = (upS 3 o) := by simp [rightF, h]
theorem rightF_8 (o : OpS) (h : o.kind = 8) : rightF o = (decide (o.r ≥ 1) && decide (o.r ≤ 15)) := by simp [rightF, h]
theorem rightF_9 (o : OpS) (h : o.kind = 9) : rightF o = (inB (ordF 1 2) o.order 3 0) := by simp [rightF, h]
theorem rightF_10 (o : OpS) (h : o.kind = 10) : rightF o = (inB (ordF 4 0) o.order 2 0) := by simp [rightF, h]
theorem rightF_11 (o : OpS) (h : o.kind = 11) : rightF o = (inB (ordF 2 0) o.order 2 0) := by simp [rightF, h]
theorem rightF_12 (o : OpS) (h : o.kind = 12) : rightF o = (inB (ordF 4 0) o.order 2 0) := by simp [rightF, h]
theorem rightF_13 (o : OpS) (h : o.kind = 13) : rightF o = (((o.r == 13) || (o.r == 10)) || (o.r == 15)) := by simp [rightF, h]
theorem rightF_14 (o : OpS) (h : o.kind = 14) : rightF o = (IntKind.u64.wrap (BitVec.ofInt IntKind.u64.bits o.imm &&& BitVec.ofInt IntKind.u64.bits 3).toNat == 0) := by simp [rightF, h]
theorem rightF_15 (o : OpS) (h : o.kind = 15) : rightF o = (true) := by simp [rightF, h]
theorem rightF_16 (o : OpS) (h : o.kind = 16) : rightF o = (true) := by simp [rightF, h]
theorem rightF_17 (o : OpS) (h : o.kind = 17) : rightF o = (true) := by simp [rightF, h]
theorem rightF_18 (o : OpS) (h : o.kind = 18) : rightF o = (o.imm.fdiv (2 ^ min 32 IntKind.u64.bits) == 0) := by simp [rightF, h]
theorem con54 (o : OpS) (N m : Nat) (f : Nat → OpS) (hm : m ≤ N) (hN : N ≤ 140737488355328) : Con Try.prog 54 [.agg (opL o), .c (.slice ⟨0, 0, 0, 0⟩ false m)] ⟨1, [(0, opsB N f)]⟩ (fun v H' => v = .c (.bool (ropS o m f)) ∧ H' = ⟨1, [(0, opsB N f)]⟩) := by
  by_cases h1 : o.kind = 1
  · have e := badE_field o _ false true false 0 rfl (by rw [h1]; decide) (by rw [h1]; decide) (by rw [h1]; decide) (by rw [h1]; decide)
    unfold ropS
    rw [← e]
    have hr : rightF o = _ := rightF_1 o h1
    rw [hr]
    exact rop_P o N m f hm hN ⟨#[99, 111, 110, 115, 116]⟩ false true false 0 true false false 66 _ (kindo_1 o h1) (con66 o)
  by_cases h2 : o.kind = 2
  · have e := badE_field o _ true false false 0 rfl (by rw [h2]; decide) (by rw [h2]; decide) (by rw [h2]; decide) (by rw [h2]; decide)
    unfold ropS
    rw [← e]
    have hr : rightF o = _ := rightF_2 o h2
    rw [hr]
    exact rop_Q o N m f hm hN ⟨#[103, 101, 116, 120]⟩ true false false 0 true false false 30 (kindo_2 o h2)
  by_cases h3 : o.kind = 3
  · have e := badE_field o _ true false false 1 rfl (by rw [h3]; decide) (by rw [h3]; decide) (by rw [h3]; decide) (by rw [h3]; decide)
    unfold ropS
    rw [← e]
    have hr : rightF o = _ := rightF_3 o h3
    rw [hr]
    exact rop_Q o N m f hm hN ⟨#[115, 101, 116, 120]⟩ true false false 1 false false false 30 (kindo_3 o h3)
  by_cases h4 : o.kind = 4
  · have e := badE_field o _ false false false 0 rfl (by rw [h4]; decide) (by rw [h4]; decide) (by rw [h4]; decide) (by rw [h4]; decide)
    unfold ropS
    rw [← e]
    have hr : rightF o = _ := rightF_4 o h4
    rw [hr]
    exact rop_P o N m f hm hN ⟨#[103, 101, 116, 115, 112]⟩ false false false 0 true false false 66 _ (kindo_4 o h4) (con66 o)
  by_cases h5 : o.kind = 5
  · have e := badE_field o _ false false false 1 rfl (by rw [h5]; decide) (by rw [h5]; decide) (by rw [h5]; decide) (by rw [h5]; decide)
    unfold ropS
    rw [← e]
    have hr : rightF o = _ := rightF_5 o h5
    rw [hr]
    exact rop_P o N m f hm hN ⟨#[115, 101, 116, 115, 112]⟩ false false false 1 false false false 66 _ (kindo_5 o h5) (con66 o)
  by_cases h6 : o.kind = 6
  · have e := badE_field o _ true false false 0 rfl (by rw [h6]; decide) (by rw [h6]; decide) (by rw [h6]; decide) (by rw [h6]; decide)
    unfold ropS
    rw [← e]
    have hr : rightF o = _ := rightF_6 o h6
    rw [hr]
    exact rop_Q o N m f hm hN ⟨#[103, 101, 116, 102]⟩ true false false 0 true false false 3 (kindo_6 o h6)
  by_cases h7 : o.kind = 7
  · have e := badE_field o _ true false false 1 rfl (by rw [h7]; decide) (by rw [h7]; decide) (by rw [h7]; decide) (by rw [h7]; decide)
    unfold ropS
    rw [← e]
    have hr : rightF o = _ := rightF_7 o h7
    rw [hr]
    exact rop_Q o N m f hm hN ⟨#[115, 101, 116, 102]⟩ true false false 1 false false false 3 (kindo_7 o h7)
  by_cases h8 : o.kind = 8
  · have e := badE_field o _ true false false 2 rfl (by rw [h8]; decide) (by rw [h8]; decide) (by rw [h8]; decide) (by rw [h8]; decide)
    unfold ropS
    rw [← e]
    have hr : rightF o = _ := rightF_8 o h8
    rw [hr]
    exact rop_P o N m f hm hN ⟨#[97, 108, 117]⟩ true false false 2 true false false 68 _ (kindo_8 o h8) (con68 o)
  by_cases h9 : o.kind = 9
  · have e := badE_field o _ false false true 1 rfl (by rw [h9]; decide) (by rw [h9]; decide) (by rw [h9]; decide) (by rw [h9]; decide)
    unfold ropS
    rw [← e]
    have hr : rightF o = _ := rightF_9 o h9
    rw [hr]
    exact rop_S o N m f hm hN ⟨#[108, 111, 97, 100]⟩ false false true 1 true false true 3 1 2 (by decide) (kindo_9 o h9)
  by_cases h10 : o.kind = 10
  · have e := badE_field o _ false false true 2 rfl (by rw [h10]; decide) (by rw [h10]; decide) (by rw [h10]; decide) (by rw [h10]; decide)
    unfold ropS
    rw [← e]
    have hr : rightF o = _ := rightF_10 o h10
    rw [hr]
    exact rop_S o N m f hm hN ⟨#[115, 116, 111, 114, 101]⟩ false false true 2 false false true 2 4 0 (by decide) (kindo_10 o h10)
  by_cases h11 : o.kind = 11
  · have e := badE_field o _ false false true 1 rfl (by rw [h11]; decide) (by rw [h11]; decide) (by rw [h11]; decide) (by rw [h11]; decide)
    unfold ropS
    rw [← e]
    have hr : rightF o = _ := rightF_11 o h11
    rw [hr]
    exact rop_S o N m f hm hN ⟨#[108, 111, 97, 100, 101, 120]⟩ false false true 1 true false true 2 2 0 (by decide) (kindo_11 o h11)
  by_cases h12 : o.kind = 12
  · have e := badE_field o _ false false true 2 rfl (by rw [h12]; decide) (by rw [h12]; decide) (by rw [h12]; decide) (by rw [h12]; decide)
    unfold ropS
    rw [← e]
    have hr : rightF o = _ := rightF_12 o h12
    rw [hr]
    exact rop_S o N m f hm hN ⟨#[115, 116, 111, 114, 101, 101, 120]⟩ false false true 2 true false true 2 4 0 (by decide) (kindo_12 o h12)
  by_cases h13 : o.kind = 13
  · have e := badE_field o _ true false false 0 rfl (by rw [h13]; decide) (by rw [h13]; decide) (by rw [h13]; decide) (by rw [h13]; decide)
    unfold ropS
    rw [← e]
    have hr : rightF o = _ := rightF_13 o h13
    rw [hr]
    exact rop_P o N m f hm hN ⟨#[102, 101, 110, 99, 101]⟩ true false false 0 false false false 70 _ (kindo_13 o h13) (con70 o)
  by_cases h14 : o.kind = 14
  · have e := badE_field o _ false true false 0 rfl (by rw [h14]; decide) (by rw [h14]; decide) (by rw [h14]; decide) (by rw [h14]; decide)
    unfold ropS
    rw [← e]
    have hr : rightF o = _ := rightF_14 o h14
    rw [hr]
    exact rop_P o N m f hm hN ⟨#[97, 116]⟩ false true false 0 false false false 71 _ (kindo_14 o h14) (con71 o)
  by_cases h15 : o.kind = 15
  · have e := badE_field o _ false true false 1 rfl (by rw [h15]; decide) (by rw [h15]; decide) (by rw [h15]; decide) (by rw [h15]; decide)
    unfold ropS
    rw [← e]
    have hr : rightF o = _ := rightF_15 o h15
    rw [hr]
    exact rop_P o N m f hm hN ⟨#[101, 120, 105, 116, 105, 102]⟩ false true false 1 false false false 66 _ (kindo_15 o h15) (con66 o)
  by_cases h16 : o.kind = 16
  · have e := badE_field o _ false true false 0 rfl (by rw [h16]; decide) (by rw [h16]; decide) (by rw [h16]; decide) (by rw [h16]; decide)
    unfold ropS
    rw [← e]
    have hr : rightF o = _ := rightF_16 o h16
    rw [hr]
    exact rop_P o N m f hm hN ⟨#[101, 120, 105, 116]⟩ false true false 0 false true false 66 _ (kindo_16 o h16) (con66 o)
  by_cases h17 : o.kind = 17
  · have e := badE_field o _ false false false 1 rfl (by rw [h17]; decide) (by rw [h17]; decide) (by rw [h17]; decide) (by rw [h17]; decide)
    unfold ropS
    rw [← e]
    have hr : rightF o = _ := rightF_17 o h17
    rw [hr]
    exact rop_P o N m f hm hN ⟨#[101, 120, 105, 116, 116, 111]⟩ false false false 1 false true false 66 _ (kindo_17 o h17) (con66 o)
  by_cases h18 : o.kind = 18
  · have e := badE_field o _ false true false 0 rfl (by rw [h18]; decide) (by rw [h18]; decide) (by rw [h18]; decide) (by rw [h18]; decide)
    unfold ropS
    rw [← e]
    have hr : rightF o = _ := rightF_18 o h18
    rw [hr]
    exact rop_P o N m f hm hN ⟨#[103, 117, 101, 115, 116]⟩ false true false 0 false true false 72 _ (kindo_18 o h18) (con72 o)
  have hno : noKind o.kind := by simp [noKind, *]
  have e : ropS o m f = false := by simp [ropS, fieldBad, rightF, *]
  rw [e]
  exact rop_no o N m f hm hN hno
end Go.Proofs.Ytmbnakinhnkabaa
