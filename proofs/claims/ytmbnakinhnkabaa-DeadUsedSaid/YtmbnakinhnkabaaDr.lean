/- law19.DeadUsed. -/
import Derived.Test.YtmbnakinhnkabaaDq
namespace Go.Proofs.Ytmbnakinhnkabaa
open Go.AM
set_option maxRecDepth 100000
set_option linter.unusedSimpArgs false
set_option linter.unusedVariables false
def duH (b : BlkS) : List (Nat × Blk) := [(2, boolsB b.n (seenS b) true), (1, blkB b 0), (0, opsB b.n b.f)]
def duT (b : BlkS) (i : Nat) : List Slot := [⟨6, [], .c (.int .i64 i)⟩, ⟨4, [], .c (.slice ⟨2, 0, 0, 0⟩ false b.n)⟩, ⟨3, [], .c (.bool true)⟩, ⟨1, [], .c (.ptr ⟨1, 0, 0, 0⟩)⟩]
def duS (b : BlkS) (i : Nat) : St := ⟨duT b i, ⟨3, duH b⟩⟩
def duI (b : BlkS) (i u k : Nat) : St := ⟨⟨8, [], .c (.int .i64 k)⟩ :: ⟨7, [], .c (.slice ⟨3, 0, 0, 0⟩ false u)⟩ :: duT b i, ⟨4, (3, usesBk (b.f i) u) :: duH b⟩⟩
theorem con5 (b : BlkS) : Con Try.prog 5 [.agg (blkL b 0)] ⟨1, [(0, opsB b.n b.f)]⟩ (fun v H' => v = .c (.bool true) ∧ H' = ⟨1, [(0, opsB b.n b.f)]⟩) := by
  (refine con_of_run mixed (fn := Try.f5) (by kernel_rfl) (by kernel_rfl) C5_ok (rs := [.tmp 2]) (by kernel_rfl) (Nat.le_of_ble_eq_true (by kernel_rfl)) ?_; unfold C5; simp only [initT, Nat.reduceAdd])
  repeat' (first
    | refine run_seq ?_
    | refine run_skip ?_
    | (refine run_region fun K hK => ?_; (try (simp (maxSteps := 10000000) only [C5r0, C5r1, C5r2, C5r3, C5r8, C5r10, C5r11, C5r12, C5r13, C5r14, C5r15, C5r16, C5r17, C5r18, C5r19, C5r20, rwp_nil, rwp_cons, rwpK_app, aop, gpath, St.get, slotAt, sfx, eqP, segsOf, St.put, addBlk, getB, setB, delB, ld1, ldn, st1, stn, setRow, rowNeed, segAt, nsub, bin, un, eqB, isShift, sameK, arith, shiftR, getsl, selB_or, selB_and, beqb, shed, addN, Nat.beq, Seg.size, sizes, imp, needP, andN, appL, argsOf, ptrsOf, aasOf, cut, takeS, dropS, putS, partsOf, fillS, fieldOf, nthA, negIf, nilq, nilB, eqS, eqF, eqS1, andP, kin, slcS, strOk, plusA, bndHi, leN, optG, roH, roL, initT, exOk, exAll, wrAddr, Nat.reduceAdd, Nat.reduceSub, Nat.reduceMul, Int.reduceToNat, List.append_nil, List.nil_append, List.cons_append, eqT, idxT, cat, cpy, ite_int, ite_bool, ite_seg, ite_segs, ite_nil, ite_twice, Int.toNat_natCast, app, addBs, tob])); (repeat (first | (refine And.intro ?_ ?_; · (first | trivial | assumption | omega)) | ((first | (refine call_t _ (con9 _) ?_; rintro v H' ⟨rfl, rfl⟩) | refine call_q _ (con9 _) ?_ | refine call_g _ (imp_of (con9 _)) ?_ | (refine call_t _ (con12_at b 0 _ _ _ rfl (Nat.le_of_ble_eq_true rfl) (by simp [keysLt])) ?_; rintro v H' ⟨rfl, rfl⟩) | refine call_q _ (con12_at b 0 _ _ _ rfl (Nat.le_of_ble_eq_true rfl) (by simp [keysLt])) ?_ | refine call_g _ (imp_of (con12_at b 0 _ _ _ rfl (Nat.le_of_ble_eq_true rfl) (by simp [keysLt]))) ?_); simp (maxSteps := 10000000) only [C5r0, C5r1, C5r2, C5r3, C5r8, C5r10, C5r11, C5r12, C5r13, C5r14, C5r15, C5r16, C5r17, C5r18, C5r19, C5r20, rwp_nil, rwp_cons, rwpK_app, aop, gpath, St.get, slotAt, sfx, eqP, segsOf, St.put, addBlk, getB, setB, delB, ld1, ldn, st1, stn, setRow, rowNeed, segAt, nsub, bin, un, eqB, isShift, sameK, arith, shiftR, getsl, selB_or, selB_and, beqb, shed, addN, Nat.beq, Seg.size, sizes, imp, needP, andN, appL, argsOf, ptrsOf, aasOf, cut, takeS, dropS, putS, partsOf, fillS, fieldOf, nthA, negIf, nilq, nilB, eqS, eqF, eqS1, andP, kin, slcS, strOk, plusA, bndHi, leN, optG, roH, roL, initT, exOk, exAll, wrAddr, Nat.reduceAdd, Nat.reduceSub, Nat.reduceMul, Int.reduceToNat, List.append_nil, List.nil_append, List.cons_append, eqT, idxT, cat, cpy, ite_int, ite_bool, ite_seg, ite_segs, ite_nil, ite_twice, Int.toNat_natCast, app, addBs, tob]))); with_reducible refine hK _ ?_; clear hK K)
    | (refine run_cond rfl (fun hc => ?_) (fun hc => ?_) <;> try (simp only [*, Bool.true_eq_false, Bool.false_eq_true, Bool.not_true, Bool.not_false, Bool.true_or, Bool.or_true, Bool.false_or, Bool.or_false, Bool.false_and, Bool.and_false, bne_self_eq_false, beq_self_eq_true] at hc; done))
    | refine run_block ?_
    | refine run_ret ?_
    | refine run_nil ?_
    | refine run_exit ?_
    | refine blk_normal ?_
    | refine blk_ret ?_
    | refine blk_here ?_
    | refine blk_there rfl ?_
    | refine loop_exit ?_
    | refine loop_ret ?_
    | refine un_exit ?_
    | refine un_ret ?_
    | refine unE_exit ?_
    | refine unE_ret ?_
    | refine un_normal ?_)
  by_cases hr : rightS b = true
  rotate_left
  · have e1 : ∀ n, retSeenAt b n = .tup [.c .nils, .c (.int .i64 4)] := fun n => by simp only [retSeenAt, hr, if_false, Bool.false_eq_true]
    have e2 : newSeen b = [] := by simp only [newSeen, hr, if_false, Bool.false_eq_true]
    repeat' (first
    | refine run_seq ?_
    | refine run_skip ?_
    | (refine run_region fun K hK => ?_; (try (simp (maxSteps := 10000000) only [blkL, e1, e2, C5r0, C5r1, C5r2, C5r3, C5r4, C5r5, C5r6, C5r8, C5r10, C5r11, C5r12, C5r13, C5r14, C5r15, C5r16, C5r17, C5r18, C5r19, C5r20, rwp_nil, rwp_cons, rwpK_app, aop, gpath, St.get, slotAt, sfx, eqP, segsOf, St.put, addBlk, getB, setB, delB, ld1, ldn, st1, stn, setRow, rowNeed, segAt, nsub, bin, un, eqB, isShift, sameK, arith, shiftR, getsl, selB_or, selB_and, beqb, shed, addN, Nat.beq, Seg.size, sizes, imp, needP, andN, appL, argsOf, ptrsOf, aasOf, cut, takeS, dropS, putS, partsOf, fillS, fieldOf, nthA, negIf, nilq, nilB, eqS, eqF, eqS1, andP, kin, slcS, strOk, plusA, bndHi, leN, optG, roH, roL, initT, exOk, exAll, wrAddr, Nat.reduceAdd, Nat.reduceSub, Nat.reduceMul, Int.reduceToNat, List.append_nil, List.nil_append, List.cons_append, eqT, idxT, cat, cpy, ite_int, ite_bool, ite_seg, ite_segs, ite_nil, ite_twice, Int.toNat_natCast, app, addBs, tob])); (repeat (first | (refine And.intro ?_ ?_; · (first | trivial | assumption | omega)) | ((first | (refine call_t _ (con12_at b 0 _ _ _ rfl (Nat.le_of_ble_eq_true rfl) (by simp [keysLt])) ?_; rintro v H' ⟨rfl, rfl⟩) | refine call_q _ (con12_at b 0 _ _ _ rfl (Nat.le_of_ble_eq_true rfl) (by simp [keysLt])) ?_ | refine call_g _ (imp_of (con12_at b 0 _ _ _ rfl (Nat.le_of_ble_eq_true rfl) (by simp [keysLt]))) ?_); simp (maxSteps := 10000000) only [blkL, e1, e2, C5r0, C5r1, C5r2, C5r3, C5r4, C5r5, C5r6, C5r8, C5r10, C5r11, C5r12, C5r13, C5r14, C5r15, C5r16, C5r17, C5r18, C5r19, C5r20, rwp_nil, rwp_cons, rwpK_app, aop, gpath, St.get, slotAt, sfx, eqP, segsOf, St.put, addBlk, getB, setB, delB, ld1, ldn, st1, stn, setRow, rowNeed, segAt, nsub, bin, un, eqB, isShift, sameK, arith, shiftR, getsl, selB_or, selB_and, beqb, shed, addN, Nat.beq, Seg.size, sizes, imp, needP, andN, appL, argsOf, ptrsOf, aasOf, cut, takeS, dropS, putS, partsOf, fillS, fieldOf, nthA, negIf, nilq, nilB, eqS, eqF, eqS1, andP, kin, slcS, strOk, plusA, bndHi, leN, optG, roH, roL, initT, exOk, exAll, wrAddr, Nat.reduceAdd, Nat.reduceSub, Nat.reduceMul, Int.reduceToNat, List.append_nil, List.nil_append, List.cons_append, eqT, idxT, cat, cpy, ite_int, ite_bool, ite_seg, ite_segs, ite_nil, ite_twice, Int.toNat_natCast, app, addBs, tob]))); with_reducible refine hK _ ?_; clear hK K)
    | (refine run_cond rfl (fun hc => ?_) (fun hc => ?_) <;> try (simp only [*, Bool.true_eq_false, Bool.false_eq_true, Bool.not_true, Bool.not_false, Bool.true_or, Bool.or_true, Bool.false_or, Bool.or_false, Bool.false_and, Bool.and_false, bne_self_eq_false, beq_self_eq_true] at hc; done))
    | refine run_block ?_
    | refine run_ret ?_
    | refine run_nil ?_
    | refine run_exit ?_
    | refine blk_normal ?_
    | refine blk_ret ?_
    | refine blk_here ?_
    | refine blk_there rfl ?_
    | refine loop_exit ?_
    | refine loop_ret ?_
    | refine un_exit ?_
    | refine un_ret ?_
    | refine unE_exit ?_
    | refine unE_ret ?_
    | refine un_normal ?_)
    · exact end_ops _ rfl rfl ⟨rfl, rfl⟩
    · simp at hc
  have e1 : ∀ n, retSeenAt b n = .tup [.c (.slice ⟨n, 0, 0, 0⟩ false b.n), .c (.int .i64 0)] := fun n => by simp only [retSeenAt, hr, if_true]
  have e2 : newSeen b = [boolsB b.n (seenS b) true] := by simp only [newSeen, hr, if_true]
  have hn := right_n hr
  have hw1 : IntKind.i64.wrap ((b.n : Int) - 1) = ((b.n - 1 : Nat) : Int) := by rw [IntKind.wrap_i64]; omega
  repeat' (first
    | refine run_seq ?_
    | refine run_skip ?_
    | (refine run_region fun K hK => ?_; (try (simp (maxSteps := 10000000) only [blkL, e1, e2, boolsB, hw1, Int.toNat_zero, C5r0, C5r1, C5r2, C5r3, C5r4, C5r5, C5r6, C5r7, C5r8, C5r10, C5r11, C5r12, C5r13, C5r14, C5r15, C5r16, C5r17, C5r18, C5r19, C5r20, rwp_nil, rwp_cons, rwpK_app, aop, gpath, St.get, slotAt, sfx, eqP, segsOf, St.put, addBlk, getB, setB, delB, ld1, ldn, st1, stn, setRow, rowNeed, segAt, nsub, bin, un, eqB, isShift, sameK, arith, shiftR, getsl, selB_or, selB_and, beqb, shed, addN, Nat.beq, Seg.size, sizes, imp, needP, andN, appL, argsOf, ptrsOf, aasOf, cut, takeS, dropS, putS, partsOf, fillS, fieldOf, nthA, negIf, nilq, nilB, eqS, eqF, eqS1, andP, kin, slcS, strOk, plusA, bndHi, leN, optG, roH, roL, initT, exOk, exAll, wrAddr, Nat.reduceAdd, Nat.reduceSub, Nat.reduceMul, Int.reduceToNat, List.append_nil, List.nil_append, List.cons_append, eqT, idxT, cat, cpy, ite_int, ite_bool, ite_seg, ite_segs, ite_nil, ite_twice, Int.toNat_natCast, app, addBs, tob])); (repeat (first | (refine And.intro ?_ ?_; · (first | trivial | assumption | omega | (intros; omega))) | ((first | (refine call_t _ (con12_at b 0 _ _ _ rfl (Nat.le_of_ble_eq_true rfl) (by simp [keysLt])) ?_; rintro v H' ⟨rfl, rfl⟩) | refine call_q _ (con12_at b 0 _ _ _ rfl (Nat.le_of_ble_eq_true rfl) (by simp [keysLt])) ?_ | refine call_g _ (imp_of (con12_at b 0 _ _ _ rfl (Nat.le_of_ble_eq_true rfl) (by simp [keysLt]))) ?_); simp (maxSteps := 10000000) only [blkL, e1, e2, boolsB, hw1, Int.toNat_zero, C5r0, C5r1, C5r2, C5r3, C5r4, C5r5, C5r6, C5r7, C5r8, C5r10, C5r11, C5r12, C5r13, C5r14, C5r15, C5r16, C5r17, C5r18, C5r19, C5r20, rwp_nil, rwp_cons, rwpK_app, aop, gpath, St.get, slotAt, sfx, eqP, segsOf, St.put, addBlk, getB, setB, delB, ld1, ldn, st1, stn, setRow, rowNeed, segAt, nsub, bin, un, eqB, isShift, sameK, arith, shiftR, getsl, selB_or, selB_and, beqb, shed, addN, Nat.beq, Seg.size, sizes, imp, needP, andN, appL, argsOf, ptrsOf, aasOf, cut, takeS, dropS, putS, partsOf, fillS, fieldOf, nthA, negIf, nilq, nilB, eqS, eqF, eqS1, andP, kin, slcS, strOk, plusA, bndHi, leN, optG, roH, roL, initT, exOk, exAll, wrAddr, Nat.reduceAdd, Nat.reduceSub, Nat.reduceMul, Int.reduceToNat, List.append_nil, List.nil_append, List.cons_append, eqT, idxT, cat, cpy, ite_int, ite_bool, ite_seg, ite_segs, ite_nil, ite_twice, Int.toNat_natCast, app, addBs, tob]))); with_reducible refine hK _ ?_; clear hK K)
    | (refine run_cond rfl (fun hc => ?_) (fun hc => ?_) <;> try (simp only [*, Bool.true_eq_false, Bool.false_eq_true, Bool.not_true, Bool.not_false, Bool.true_or, Bool.or_true, Bool.false_or, Bool.or_false, Bool.false_and, Bool.and_false, bne_self_eq_false, beq_self_eq_true] at hc; done))
    | refine run_block ?_
    | refine run_ret ?_
    | refine run_nil ?_
    | refine run_exit ?_
    | refine blk_normal ?_
    | refine blk_ret ?_
    | refine blk_here ?_
    | refine blk_there rfl ?_
    | refine loop_exit ?_
    | refine loop_ret ?_
    | refine un_exit ?_
    | refine un_ret ?_
    | refine unE_exit ?_
    | refine unE_ret ?_
    | refine un_normal ?_)
  · exfalso
    simp [seen_first hr, seen_last hr] at hc
  (refine run_regionL fun K hK => ?_; (try (simp (maxSteps := 10000000) only [C5r0, C5r1, C5r2, C5r3, C5r4, C5r5, C5r6, C5r7, C5r8, C5r9, C5r10, C5r11, C5r12, C5r13, C5r14, C5r15, C5r16, C5r17, C5r18, C5r19, C5r20, rwp_nil, rwp_cons, rwpK_app, aop, gpath, St.get, slotAt, sfx, eqP, segsOf, St.put, addBlk, getB, setB, delB, ld1, ldn, st1, stn, setRow, rowNeed, segAt, nsub, bin, un, eqB, isShift, sameK, arith, shiftR, getsl, selB_or, selB_and, beqb, shed, addN, Nat.beq, Seg.size, sizes, imp, needP, andN, appL, argsOf, ptrsOf, aasOf, cut, takeS, dropS, putS, partsOf, fillS, fieldOf, nthA, negIf, nilq, nilB, eqS, eqF, eqS1, andP, kin, slcS, strOk, plusA, bndHi, leN, optG, roH, roL, initT, exOk, exAll, wrAddr, Nat.reduceAdd, Nat.reduceSub, Nat.reduceMul, Int.reduceToNat, List.append_nil, List.nil_append, List.cons_append, eqT, idxT, cat, cpy, ite_int, ite_bool, ite_seg, ite_segs, ite_nil, ite_twice, Int.toNat_natCast, app, addBs, tob])); (repeat (first | (refine And.intro ?_ ?_; · first | trivial | assumption | omega))); refine hK _ (duS b 0) (LeS.intro [0, 1, 2] idts (by simp only [diff, notIn, Nat.beq, and_self]) rfl (by simp only [duS, duT, slotsLe, slotAt, Nat.beq, leV, leV1, leC, leA, nthO, Int.natCast_zero, Int.ofNat_zero, and_self]) ⟨boolsw_le b.n _ _ (fun _ _ => rfl), blk_le b rfl, ops_le b.n b.f false, trivial⟩) ?_; clear hK K)
  refine run_block ?_
  refine run_loop (fun m s => ∃ i, m = b.n - i ∧ i ≤ b.n ∧ s = duS b i) b.n ⟨0, rfl, Nat.zero_le _, rfl⟩ ?_
  rintro m s ⟨i, rfl, hi, rfl⟩
  unfold duS duT duH
  repeat' (first
    | refine run_seq ?_
    | refine run_skip ?_
    | (refine run_region fun K hK => ?_; (try (simp (maxSteps := 10000000) only [boolsB, blkB, blkL, opsB, opL, C5r0, C5r1, C5r2, C5r3, C5r4, C5r5, C5r6, C5r7, C5r8, C5r9, C5r10, C5r13, C5r14, C5r15, C5r16, C5r17, C5r18, C5r19, C5r20, rwp_nil, rwp_cons, rwpK_app, aop, gpath, St.get, slotAt, sfx, eqP, segsOf, St.put, addBlk, getB, setB, delB, ld1, ldn, st1, stn, setRow, rowNeed, segAt, nsub, bin, un, eqB, isShift, sameK, arith, shiftR, getsl, selB_or, selB_and, beqb, shed, addN, Nat.beq, Seg.size, sizes, imp, needP, andN, appL, argsOf, ptrsOf, aasOf, cut, takeS, dropS, putS, partsOf, fillS, fieldOf, nthA, negIf, nilq, nilB, eqS, eqF, eqS1, andP, kin, slcS, strOk, plusA, bndHi, leN, optG, roH, roL, initT, exOk, exAll, wrAddr, Nat.reduceAdd, Nat.reduceSub, Nat.reduceMul, Int.reduceToNat, List.append_nil, List.nil_append, List.cons_append, eqT, idxT, cat, cpy, ite_int, ite_bool, ite_seg, ite_segs, ite_nil, ite_twice, Int.toNat_natCast, app, addBs, tob])); (repeat (first | (refine And.intro ?_ ?_; · (first | trivial | assumption | (simp only [decide_eq_true_eq] at *; omega))))); with_reducible refine hK _ ?_; clear hK K)
    | (refine run_cond rfl (fun hc => ?_) (fun hc => ?_) <;> try (simp only [*, Bool.true_eq_false, Bool.false_eq_true, Bool.not_true, Bool.not_false, Bool.true_or, Bool.or_true, Bool.false_or, Bool.or_false, Bool.false_and, Bool.and_false, bne_self_eq_false, beq_self_eq_true] at hc; done))
    | refine run_block ?_
    | refine run_ret ?_
    | refine run_nil ?_
    | refine run_exit ?_
    | refine blk_normal ?_
    | refine blk_ret ?_
    | refine blk_here ?_
    | refine blk_there rfl ?_
    | refine loop_exit ?_
    | refine loop_ret ?_
    | refine un_exit ?_
    | refine un_ret ?_
    | refine unE_exit ?_
    | refine unE_ret ?_
    | refine un_normal ?_)
  · have hlt : i < b.n := by simp only [decide_eq_true_eq] at hc; omega
    obtain ⟨u, hu⟩ : ∃ u, usesS (b.f i).kind = u := ⟨_, rfl⟩
    have hu2 : u ≤ 2 := by rw [← hu]; unfold usesS; (repeat' split) <;> omega
    have hU : ∀ k, k < u → seenS b i = true → 0 ≤ useF (b.f i) k ∧ useF (b.f i) k < b.n ∧ seenS b (useF (b.f i) k).toNat = true := fun k hk hs => by
      obtain ⟨h1, h2, _⟩ := right_use hr hlt (i := k) (by rw [hu]; exact hk)
      exact ⟨h1, by omega, seen_use hr hlt hs (by rw [hu]; exact hk)⟩
    have hw : IntKind.i64.wrap ((i : Int) + 1) = ((i + 1 : Nat) : Int) := by rw [IntKind.wrap_i64]; omega
    clear hc
    repeat' (first
    | refine run_seq ?_
    | refine run_skip ?_
    | (refine run_region fun K hK => ?_; (try (simp (maxSteps := 10000000) only [boolsB, blkB, blkL, opsB, opL, hu, C5r0, C5r1, C5r2, C5r3, C5r4, C5r5, C5r6, C5r7, C5r8, C5r9, C5r10, C5r11, C5r13, C5r14, C5r15, C5r16, C5r17, C5r18, C5r19, C5r20, rwp_nil, rwp_cons, rwpK_app, aop, gpath, St.get, slotAt, sfx, eqP, segsOf, St.put, addBlk, getB, setB, delB, ld1, ldn, st1, stn, setRow, rowNeed, segAt, nsub, bin, un, eqB, isShift, sameK, arith, shiftR, getsl, selB_or, selB_and, beqb, shed, addN, Nat.beq, Seg.size, sizes, imp, needP, andN, appL, argsOf, ptrsOf, aasOf, cut, takeS, dropS, putS, partsOf, fillS, fieldOf, nthA, negIf, nilq, nilB, eqS, eqF, eqS1, andP, kin, slcS, strOk, plusA, bndHi, leN, optG, roH, roL, initT, exOk, exAll, wrAddr, Nat.reduceAdd, Nat.reduceSub, Nat.reduceMul, Int.reduceToNat, List.append_nil, List.nil_append, List.cons_append, eqT, idxT, cat, cpy, ite_int, ite_bool, ite_seg, ite_segs, ite_nil, ite_twice, Int.toNat_natCast, app, addBs, tob])); (repeat (first | (refine And.intro ?_ ?_; · (first | trivial | assumption | omega)) | ((first | (refine call_t _ (con21 (b.f i) _ _ (by simp [keysLt])) ?_; rintro v H' ⟨rfl, rfl⟩) | refine call_q _ (con21 (b.f i) _ _ (by simp [keysLt])) ?_ | refine call_g _ (imp_of (con21 (b.f i) _ _ (by simp [keysLt]))) ?_); simp (maxSteps := 10000000) only [boolsB, blkB, blkL, opsB, opL, hu, C5r0, C5r1, C5r2, C5r3, C5r4, C5r5, C5r6, C5r7, C5r8, C5r9, C5r10, C5r11, C5r13, C5r14, C5r15, C5r16, C5r17, C5r18, C5r19, C5r20, rwp_nil, rwp_cons, rwpK_app, aop, gpath, St.get, slotAt, sfx, eqP, segsOf, St.put, addBlk, getB, setB, delB, ld1, ldn, st1, stn, setRow, rowNeed, segAt, nsub, bin, un, eqB, isShift, sameK, arith, shiftR, getsl, selB_or, selB_and, beqb, shed, addN, Nat.beq, Seg.size, sizes, imp, needP, andN, appL, argsOf, ptrsOf, aasOf, cut, takeS, dropS, putS, partsOf, fillS, fieldOf, nthA, negIf, nilq, nilB, eqS, eqF, eqS1, andP, kin, slcS, strOk, plusA, bndHi, leN, optG, roH, roL, initT, exOk, exAll, wrAddr, Nat.reduceAdd, Nat.reduceSub, Nat.reduceMul, Int.reduceToNat, List.append_nil, List.nil_append, List.cons_append, eqT, idxT, cat, cpy, ite_int, ite_bool, ite_seg, ite_segs, ite_nil, ite_twice, Int.toNat_natCast, app, addBs, tob]))); with_reducible refine hK _ ?_; clear hK K)
    | (refine run_cond rfl (fun hc => ?_) (fun hc => ?_) <;> try (simp only [*, Bool.true_eq_false, Bool.false_eq_true, Bool.not_true, Bool.not_false, Bool.true_or, Bool.or_true, Bool.false_or, Bool.or_false, Bool.false_and, Bool.and_false, bne_self_eq_false, beq_self_eq_true] at hc; done))
    | refine run_block ?_
    | refine run_ret ?_
    | refine run_nil ?_
    | refine run_exit ?_
    | refine blk_normal ?_
    | refine blk_ret ?_
    | refine blk_here ?_
    | refine blk_there rfl ?_
    | refine loop_exit ?_
    | refine loop_ret ?_
    | refine un_exit ?_
    | refine un_ret ?_
    | refine unE_exit ?_
    | refine unE_ret ?_
    | refine un_normal ?_)
    (refine run_regionL fun K hK => ?_; (try (simp (maxSteps := 10000000) only [opL, boolsB, blkB, blkL, C5r0, C5r1, C5r2, C5r3, C5r4, C5r5, C5r6, C5r7, C5r8, C5r9, C5r10, C5r11, C5r12, C5r13, C5r14, C5r15, C5r16, C5r17, C5r18, C5r19, C5r20, rwp_nil, rwp_cons, rwpK_app, aop, gpath, St.get, slotAt, sfx, eqP, segsOf, St.put, addBlk, getB, setB, delB, ld1, ldn, st1, stn, setRow, rowNeed, segAt, nsub, bin, un, eqB, isShift, sameK, arith, shiftR, getsl, selB_or, selB_and, beqb, shed, addN, Nat.beq, Seg.size, sizes, imp, needP, andN, appL, argsOf, ptrsOf, aasOf, cut, takeS, dropS, putS, partsOf, fillS, fieldOf, nthA, negIf, nilq, nilB, eqS, eqF, eqS1, andP, kin, slcS, strOk, plusA, bndHi, leN, optG, roH, roL, initT, exOk, exAll, wrAddr, Nat.reduceAdd, Nat.reduceSub, Nat.reduceMul, Int.reduceToNat, List.append_nil, List.nil_append, List.cons_append, eqT, idxT, cat, cpy, ite_int, ite_bool, ite_seg, ite_segs, ite_nil, ite_twice, Int.toNat_natCast, app, addBs, tob])); (repeat (first | (refine And.intro ?_ ?_; · first | trivial | assumption | omega))); refine hK _ (duI b i u 0) (LeS.intro [0, 1, 2, 3] idts (by simp only [diff, notIn, Nat.beq, and_self]) rfl (by simp only [duI, duT, slotsLe, slotAt, Nat.beq, leV, leV1, leC, leA, nthO, Int.natCast_zero, Int.ofNat_zero, and_self]) ⟨⟨rfl, rfl, id, Nat.le_refl _, fun _ _ => ⟨⟨rfl, rfl⟩, trivial⟩⟩, boolsw_le b.n _ _ (fun _ _ => rfl), blk_le b rfl, ops_le b.n b.f false, trivial⟩) ?_; clear hK K)
    refine run_block ?_
    refine run_loop (fun m s => ∃ k, m = u - k ∧ k ≤ u ∧ s = duI b i u k) u ⟨0, rfl, Nat.zero_le _, rfl⟩ ?_
    rintro m s ⟨k, rfl, hk, rfl⟩
    have hwk : IntKind.i64.wrap ((k : Int) + 1) = ((k + 1 : Nat) : Int) := by rw [IntKind.wrap_i64]; omega
    unfold duI duT duH
    repeat' (first
    | refine run_seq ?_
    | refine run_skip ?_
    | (refine run_region fun K hK => ?_; (try (simp (maxSteps := 10000000) only [boolsB, blkB, blkL, opsB, opL, usesBk, hwk, hw, C5r0, C5r1, C5r2, C5r3, C5r4, C5r5, C5r6, C5r7, C5r8, C5r9, C5r10, C5r11, C5r12, C5r13, C5r15, C5r16, C5r17, C5r18, C5r19, C5r20, rwp_nil, rwp_cons, rwpK_app, aop, gpath, St.get, slotAt, sfx, eqP, segsOf, St.put, addBlk, getB, setB, delB, ld1, ldn, st1, stn, setRow, rowNeed, segAt, nsub, bin, un, eqB, isShift, sameK, arith, shiftR, getsl, selB_or, selB_and, beqb, shed, addN, Nat.beq, Seg.size, sizes, imp, needP, andN, appL, argsOf, ptrsOf, aasOf, cut, takeS, dropS, putS, partsOf, fillS, fieldOf, nthA, negIf, nilq, nilB, eqS, eqF, eqS1, andP, kin, slcS, strOk, plusA, bndHi, leN, optG, roH, roL, initT, exOk, exAll, wrAddr, Nat.reduceAdd, Nat.reduceSub, Nat.reduceMul, Int.reduceToNat, List.append_nil, List.nil_append, List.cons_append, eqT, idxT, cat, cpy, ite_int, ite_bool, ite_seg, ite_segs, ite_nil, ite_twice, Int.toNat_natCast, app, addBs, tob])); (repeat (first | (refine And.intro ?_ ?_; · (first | trivial | assumption | (intros; simp only [decide_eq_true_eq] at *; omega))) | ((first | (refine call_t _ (con22 (b.f i) _) ?_; rintro v H' ⟨rfl, rfl⟩) | refine call_q _ (con22 (b.f i) _) ?_ | refine call_g _ (imp_of (con22 (b.f i) _)) ?_); simp (maxSteps := 10000000) only [boolsB, blkB, blkL, opsB, opL, usesBk, hwk, hw, C5r0, C5r1, C5r2, C5r3, C5r4, C5r5, C5r6, C5r7, C5r8, C5r9, C5r10, C5r11, C5r12, C5r13, C5r15, C5r16, C5r17, C5r18, C5r19, C5r20, rwp_nil, rwp_cons, rwpK_app, aop, gpath, St.get, slotAt, sfx, eqP, segsOf, St.put, addBlk, getB, setB, delB, ld1, ldn, st1, stn, setRow, rowNeed, segAt, nsub, bin, un, eqB, isShift, sameK, arith, shiftR, getsl, selB_or, selB_and, beqb, shed, addN, Nat.beq, Seg.size, sizes, imp, needP, andN, appL, argsOf, ptrsOf, aasOf, cut, takeS, dropS, putS, partsOf, fillS, fieldOf, nthA, negIf, nilq, nilB, eqS, eqF, eqS1, andP, kin, slcS, strOk, plusA, bndHi, leN, optG, roH, roL, initT, exOk, exAll, wrAddr, Nat.reduceAdd, Nat.reduceSub, Nat.reduceMul, Int.reduceToNat, List.append_nil, List.nil_append, List.cons_append, eqT, idxT, cat, cpy, ite_int, ite_bool, ite_seg, ite_segs, ite_nil, ite_twice, Int.toNat_natCast, app, addBs, tob]))); with_reducible refine hK _ ?_; clear hK K)
    | (refine run_cond rfl (fun hc => ?_) (fun hc => ?_) <;> try (simp only [*, Bool.true_eq_false, Bool.false_eq_true, Bool.not_true, Bool.not_false, Bool.true_or, Bool.or_true, Bool.false_or, Bool.or_false, Bool.false_and, Bool.and_false, bne_self_eq_false, beq_self_eq_true] at hc; done))
    | refine run_block ?_
    | refine run_ret ?_
    | refine run_nil ?_
    | refine run_exit ?_
    | refine blk_normal ?_
    | refine blk_ret ?_
    | refine blk_here ?_
    | refine blk_there rfl ?_
    | refine loop_exit ?_
    | refine loop_ret ?_
    | refine un_exit ?_
    | refine un_ret ?_
    | refine unE_exit ?_
    | refine unE_ret ?_
    | refine un_normal ?_)
    · have hks : k < u ∧ seenS b i = true := by simpa using hc
      obtain ⟨a1, a2, a3⟩ := hU k hks.1 hks.2
      repeat' (first
    | refine run_seq ?_
    | refine run_skip ?_
    | (refine run_region fun K hK => ?_; (try (simp (maxSteps := 10000000) only [opL, hwk, C5r0, C5r1, C5r2, C5r3, C5r4, C5r5, C5r6, C5r7, C5r8, C5r9, C5r10, C5r11, C5r12, C5r13, C5r14, C5r15, C5r16, C5r17, C5r18, C5r19, C5r20, rwp_nil, rwp_cons, rwpK_app, aop, gpath, St.get, slotAt, sfx, eqP, segsOf, St.put, addBlk, getB, setB, delB, ld1, ldn, st1, stn, setRow, rowNeed, segAt, nsub, bin, un, eqB, isShift, sameK, arith, shiftR, getsl, selB_or, selB_and, beqb, shed, addN, Nat.beq, Seg.size, sizes, imp, needP, andN, appL, argsOf, ptrsOf, aasOf, cut, takeS, dropS, putS, partsOf, fillS, fieldOf, nthA, negIf, nilq, nilB, eqS, eqF, eqS1, andP, kin, slcS, strOk, plusA, bndHi, leN, optG, roH, roL, initT, exOk, exAll, wrAddr, Nat.reduceAdd, Nat.reduceSub, Nat.reduceMul, Int.reduceToNat, List.append_nil, List.nil_append, List.cons_append, eqT, idxT, cat, cpy, ite_int, ite_bool, ite_seg, ite_segs, ite_nil, ite_twice, Int.toNat_natCast, app, addBs, tob])); (repeat (first | (refine And.intro ?_ ?_; · (first | trivial | assumption | omega)))); with_reducible refine hK _ ?_; clear hK K)
    | (refine run_cond rfl (fun hc => ?_) (fun hc => ?_) <;> try (simp only [*, Bool.true_eq_false, Bool.false_eq_true, Bool.not_true, Bool.not_false, Bool.true_or, Bool.or_true, Bool.false_or, Bool.or_false, Bool.false_and, Bool.and_false, bne_self_eq_false, beq_self_eq_true] at hc; done))
    | refine run_block ?_
    | refine run_ret ?_
    | refine run_nil ?_
    | refine run_exit ?_
    | refine blk_normal ?_
    | refine blk_ret ?_
    | refine blk_here ?_
    | refine blk_there rfl ?_
    | refine loop_exit ?_
    | refine loop_ret ?_
    | refine un_exit ?_
    | refine un_ret ?_
    | refine unE_exit ?_
    | refine unE_ret ?_
    | refine un_normal ?_)
      · exact loop_normal (u - (k + 1)) (duI b i u (k + 1)) (by omega) (LeS.intro [0, 1, 2, 3] idts (by simp only [diff, notIn, Nat.beq, and_self]) rfl (by simp only [duI, duT, slotsLe, slotAt, Nat.beq, leV, leV1, leC, leA, nthO, Int.natCast_zero, Int.ofNat_zero, and_self]) ⟨⟨rfl, rfl, id, Nat.le_refl _, fun _ _ => ⟨⟨rfl, rfl⟩, trivial⟩⟩, boolsw_le b.n _ _ (fun _ _ => rfl), blk_le b rfl, ops_le b.n b.f false, trivial⟩) ⟨k + 1, rfl, hks.1, rfl⟩
    · repeat' (first
    | refine run_seq ?_
    | refine run_skip ?_
    | (refine run_region fun K hK => ?_; (try (simp (maxSteps := 10000000) only [opL, hw, C5r0, C5r1, C5r2, C5r3, C5r4, C5r5, C5r6, C5r7, C5r8, C5r9, C5r10, C5r11, C5r12, C5r13, C5r14, C5r15, C5r16, C5r17, C5r18, C5r19, C5r20, rwp_nil, rwp_cons, rwpK_app, aop, gpath, St.get, slotAt, sfx, eqP, segsOf, St.put, addBlk, getB, setB, delB, ld1, ldn, st1, stn, setRow, rowNeed, segAt, nsub, bin, un, eqB, isShift, sameK, arith, shiftR, getsl, selB_or, selB_and, beqb, shed, addN, Nat.beq, Seg.size, sizes, imp, needP, andN, appL, argsOf, ptrsOf, aasOf, cut, takeS, dropS, putS, partsOf, fillS, fieldOf, nthA, negIf, nilq, nilB, eqS, eqF, eqS1, andP, kin, slcS, strOk, plusA, bndHi, leN, optG, roH, roL, initT, exOk, exAll, wrAddr, Nat.reduceAdd, Nat.reduceSub, Nat.reduceMul, Int.reduceToNat, List.append_nil, List.nil_append, List.cons_append, eqT, idxT, cat, cpy, ite_int, ite_bool, ite_seg, ite_segs, ite_nil, ite_twice, Int.toNat_natCast, app, addBs, tob])); (repeat (first | (refine And.intro ?_ ?_; · (first | trivial | assumption | (intros; omega))) | ((first | (refine call_t _ (con22 (b.f i) _) ?_; rintro v H' ⟨rfl, rfl⟩) | refine call_q _ (con22 (b.f i) _) ?_ | refine call_g _ (imp_of (con22 (b.f i) _)) ?_); simp (maxSteps := 10000000) only [opL, hw, C5r0, C5r1, C5r2, C5r3, C5r4, C5r5, C5r6, C5r7, C5r8, C5r9, C5r10, C5r11, C5r12, C5r13, C5r14, C5r15, C5r16, C5r17, C5r18, C5r19, C5r20, rwp_nil, rwp_cons, rwpK_app, aop, gpath, St.get, slotAt, sfx, eqP, segsOf, St.put, addBlk, getB, setB, delB, ld1, ldn, st1, stn, setRow, rowNeed, segAt, nsub, bin, un, eqB, isShift, sameK, arith, shiftR, getsl, selB_or, selB_and, beqb, shed, addN, Nat.beq, Seg.size, sizes, imp, needP, andN, appL, argsOf, ptrsOf, aasOf, cut, takeS, dropS, putS, partsOf, fillS, fieldOf, nthA, negIf, nilq, nilB, eqS, eqF, eqS1, andP, kin, slcS, strOk, plusA, bndHi, leN, optG, roH, roL, initT, exOk, exAll, wrAddr, Nat.reduceAdd, Nat.reduceSub, Nat.reduceMul, Int.reduceToNat, List.append_nil, List.nil_append, List.cons_append, eqT, idxT, cat, cpy, ite_int, ite_bool, ite_seg, ite_segs, ite_nil, ite_twice, Int.toNat_natCast, app, addBs, tob]))); with_reducible refine hK _ ?_; clear hK K)
    | (refine run_cond rfl (fun hc => ?_) (fun hc => ?_) <;> try (simp only [*, Bool.true_eq_false, Bool.false_eq_true, Bool.not_true, Bool.not_false, Bool.true_or, Bool.or_true, Bool.false_or, Bool.or_false, Bool.false_and, Bool.and_false, bne_self_eq_false, beq_self_eq_true] at hc; done))
    | refine run_block ?_
    | refine run_ret ?_
    | refine run_nil ?_
    | refine run_exit ?_
    | refine blk_normal ?_
    | refine blk_ret ?_
    | refine blk_here ?_
    | refine blk_there rfl ?_
    | refine loop_exit ?_
    | refine loop_ret ?_
    | refine un_exit ?_
    | refine un_ret ?_
    | refine unE_exit ?_
    | refine unE_ret ?_
    | refine un_normal ?_)
      · exfalso
        simp only [Bool.and_eq_true, Bool.not_eq_true'] at hc
        rw [seen_leaves hr hlt hc.2] at hc
        exact absurd hc.1 (by decide)
      · exact loop_normal (b.n - (i + 1)) (duS b (i + 1)) (by omega) (LeS.intro [0, 1, 2] idts (by simp only [diff, notIn, Nat.beq, and_self]) rfl (by simp only [duS, duT, slotsLe, slotAt, Nat.beq, leV, leV1, leC, leA, nthO, Int.natCast_zero, Int.ofNat_zero, and_self]) ⟨boolsw_le b.n _ _ (fun _ _ => rfl), blk_le b rfl, ops_le b.n b.f false, trivial⟩) ⟨i + 1, rfl, hlt, rfl⟩
  · exact end_ops _ rfl rfl ⟨rfl, rfl⟩
end Go.Proofs.Ytmbnakinhnkabaa
