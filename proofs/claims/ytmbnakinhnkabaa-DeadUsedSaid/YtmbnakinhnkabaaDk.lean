/- dead: same, hidden; slices: Index, Contains, Backward. -/
import Derived.Test.YtmbnakinhnkabaaDj
import Derived.Test.YtmbnakinhnkabaaAmJ
namespace Go.Proofs.Ytmbnakinhnkabaa
open Go.AM
set_option maxRecDepth 100000
set_option linter.unusedSimpArgs false
set_option linter.unusedVariables false
/-- Does an operation set what another one sets; does it get it? -/
def sameS (o x : OpS) : Bool × Bool :=
  if (o.r != x.r) = true then (false, false) else
  if (o.kind == 14) = true then (x.kind == 14, false) else
  if (o.kind == 3) = true then (x.kind == 3, x.kind == 2) else
  if (o.kind == 5) = true then (x.kind == 5, x.kind == 4) else
  if (o.kind == 7) = true then (x.kind == 7, x.kind == 6) else (false, false)
theorem con93 (o x : OpS) (H : Heap) : Con Try.prog 93 [.agg (opL o), .agg (opL x)] H (fun v H' => v = .tup [.c (.bool (sameS o x).1), .c (.bool (sameS o x).2)] ∧ H' = H) := by
  refine Con.pure ?_ (by simp only [leArgs, leV, leV1, opL, leSegs, leSeg, leC, and_self]) rfl H
  (refine con_of_run mixed (fn := Try.f93) (by kernel_rfl) (by kernel_rfl) C93_ok (rs := [.tmp 4, .tmp 5]) (by kernel_rfl) (Nat.le_of_ble_eq_true (by kernel_rfl)) ?_; unfold C93; simp only [initT, Nat.reduceAdd])
  repeat' (first
    | refine run_seq ?_
    | refine run_skip ?_
    | (refine run_region fun K hK => ?_; (try (simp (maxSteps := 10000000) only [opL, C93r0, C93r1, C93r2, C93r3, C93r4, C93r5, C93r6, C93r7, C93r8, C93r9, C93r10, C93r11, C93r12, rwp_nil, rwp_cons, rwpK_app, aop, gpath, St.get, slotAt, sfx, eqP, segsOf, St.put, addBlk, getB, setB, delB, ld1, ldn, st1, stn, setRow, rowNeed, segAt, nsub, bin, un, eqB, isShift, sameK, arith, shiftR, getsl, selB_or, selB_and, beqb, shed, addN, Nat.beq, Seg.size, sizes, imp, needP, andN, appL, argsOf, ptrsOf, aasOf, cut, takeS, dropS, putS, partsOf, fillS, fieldOf, nthA, negIf, nilq, nilB, eqS, eqF, eqS1, andP, kin, slcS, strOk, plusA, bndHi, leN, optG, roH, roL, initT, exOk, exAll, wrAddr, Nat.reduceAdd, Nat.reduceSub, Nat.reduceMul, Int.reduceToNat, List.append_nil, List.nil_append, List.cons_append, eqT, idxT, cat, cpy, ite_int, ite_bool, ite_seg, ite_segs, ite_nil, ite_twice, Int.toNat_natCast, app, addBs, tob])); (repeat (first | (refine And.intro ?_ ?_; · first | trivial | assumption | omega))); with_reducible refine hK _ ?_; clear hK K)
    | (refine run_cond rfl (fun hc => ?_) (fun hc => ?_) <;> try (simp only [*, Bool.true_eq_false, Bool.false_eq_true, Bool.not_true, Bool.not_false, Bool.true_or, Bool.or_true, Bool.false_or, Bool.or_false, Bool.false_and, Bool.and_false, bne_self_eq_false, beq_self_eq_true] at hc; done))
    | refine run_block ?_
    | refine run_ret ?_
    | refine run_nil ?_
    | refine blk_normal ?_
    | refine blk_ret ?_
    | refine blk_here ?_
    | refine blk_there rfl ?_)
  all_goals exact end_tmp2 rfl rfl rfl rfl rfl rfl rfl ⟨by simp only [sameS, *, if_true, Bool.false_eq_true, if_false], rfl⟩
/-- Is what o sets set anew, in c operations from j on, ahead of anybody who sees it? -/
def hidF (f : Nat → OpS) (o : OpS) : Nat → Nat → Bool
  | 0, _ => false
  | c + 1, j => if ((sameS o (f j)).2 || leaveS (f j).kind) = true then false else if (sameS o (f j)).1 = true then true else hidF f o c (j + 1)
def hidSt (N i m : Nat) (f : Nat → OpS) (j : Nat) : St := ⟨[⟨10, [], .c (.int .i64 j)⟩, ⟨9, [], .c (.int .i64 ((m - 1 : Nat) : Int))⟩, ⟨8, [], .c (.slice ⟨0, i + 1, 0, 0⟩ false (m - 1))⟩, ⟨0, [], .c (.slice ⟨0, i, 0, 0⟩ false m)⟩], ⟨1, [(0, opsB N f)]⟩⟩
theorem con56 (N i m : Nat) (f : Nat → OpS) (hm : 1 ≤ m) (hi : i + m ≤ N) (hN : N ≤ 140737488355328) : Con Try.prog 56 [.c (.slice ⟨0, i, 0, 0⟩ false m)] ⟨1, [(0, opsB N f)]⟩ (fun v H' => v = .c (.bool (hidF f (f i) (m - 1) (i + 1))) ∧ H' = ⟨1, [(0, opsB N f)]⟩) := by
  (refine con_of_run mixed (fn := Try.f56) (by kernel_rfl) (by kernel_rfl) C56_ok (rs := [.tmp 2]) (by kernel_rfl) (Nat.le_of_ble_eq_true (by kernel_rfl)) ?_; unfold C56; simp only [initT, Nat.reduceAdd])
  repeat' (first
    | refine run_seq ?_
    | refine run_skip ?_
    | (refine run_region fun K hK => ?_; (try (simp (maxSteps := 10000000) only [opL, opsB, C56r0, C56r2, C56r3, C56r5, C56r6, C56r7, C56r8, C56r9, C56r10, rwp_nil, rwp_cons, rwpK_app, aop, gpath, St.get, slotAt, sfx, eqP, segsOf, St.put, addBlk, getB, setB, delB, ld1, ldn, st1, stn, setRow, rowNeed, segAt, nsub, bin, un, eqB, isShift, sameK, arith, shiftR, getsl, selB_or, selB_and, beqb, shed, addN, Nat.beq, Seg.size, sizes, imp, needP, andN, appL, argsOf, ptrsOf, aasOf, cut, takeS, dropS, putS, partsOf, fillS, fieldOf, nthA, negIf, nilq, nilB, eqS, eqF, eqS1, andP, kin, slcS, strOk, plusA, bndHi, leN, optG, roH, roL, initT, exOk, exAll, wrAddr, Nat.reduceAdd, Nat.reduceSub, Nat.reduceMul, Int.reduceToNat, List.append_nil, List.nil_append, List.cons_append, eqT, idxT, cat, cpy, ite_int, ite_bool, ite_seg, ite_segs, ite_nil, ite_twice, Int.toNat_natCast, app, addBs, tob])); (repeat (first | (refine And.intro ?_ ?_; · (first | trivial | assumption | omega)))); with_reducible refine hK _ ?_; clear hK K)
    | (refine run_cond rfl (fun hc => ?_) (fun hc => ?_) <;> try (simp only [*, Bool.true_eq_false, Bool.false_eq_true, Bool.not_true, Bool.not_false, Bool.true_or, Bool.or_true, Bool.false_or, Bool.or_false, Bool.false_and, Bool.and_false, bne_self_eq_false, beq_self_eq_true] at hc; done))
    | refine run_block ?_
    | refine run_ret ?_
    | refine run_nil ?_
    | refine run_exit ?_
    | refine blk_normal ?_
    | refine blk_ret ?_
    | refine blk_here ?_
    | refine blk_there rfl ?_
    | refine loop_exit ?_
    | refine loop_ret ?_
    | refine un_exit ?_
    | refine un_ret ?_
    | refine unE_exit ?_
    | refine unE_ret ?_
    | refine un_normal ?_)
  (refine run_regionL fun K hK => ?_; (try (simp (maxSteps := 10000000) only [opL, opsB, addN_eq, Int.toNat_one, Nat.add_zero, Nat.zero_add, C56r0, C56r1, C56r2, C56r3, C56r4, C56r5, C56r6, C56r7, C56r8, C56r9, C56r10, rwp_nil, rwp_cons, rwpK_app, aop, gpath, St.get, slotAt, sfx, eqP, segsOf, St.put, addBlk, getB, setB, delB, ld1, ldn, st1, stn, setRow, rowNeed, segAt, nsub, bin, un, eqB, isShift, sameK, arith, shiftR, getsl, selB_or, selB_and, beqb, shed, Nat.beq, Seg.size, sizes, imp, needP, andN, appL, argsOf, ptrsOf, aasOf, cut, takeS, dropS, putS, partsOf, fillS, fieldOf, nthA, negIf, nilq, nilB, eqS, eqF, eqS1, andP, kin, slcS, strOk, plusA, bndHi, leN, optG, roH, roL, initT, exOk, exAll, wrAddr, Nat.reduceAdd, Nat.reduceSub, Nat.reduceMul, Int.reduceToNat, List.append_nil, List.nil_append, List.cons_append, eqT, idxT, cat, cpy, ite_int, ite_bool, ite_seg, ite_segs, ite_nil, ite_twice, Int.toNat_natCast, app, addBs, tob])); (repeat (first | (refine And.intro ?_ ?_; · (refine ⟨by omega, ?_⟩; omega)))); refine hK _ (hidSt N i m f 0) (LeS.intro [0] idt1 ⟨trivial, trivial⟩ rfl (by simp only [hidSt, slotsLe, slotAt, Nat.beq, leV, leV1, leC, leA, nthO, Int.natCast_zero, Int.ofNat_zero, and_self]) ⟨ops_le N f false, trivial⟩) ?_; clear hK K)
  refine run_block ?_
  refine run_loop (fun n s => ∃ j, n = m - 1 - j ∧ j ≤ m - 1 ∧ hidF f (f i) (m - 1) (i + 1) = hidF f (f i) (m - 1 - j) (i + 1 + j) ∧ s = hidSt N i m f j) (m - 1) ⟨0, rfl, Nat.zero_le _, rfl, rfl⟩ ?_
  rintro n s ⟨j, rfl, hj, he, rfl⟩
  unfold hidSt
  repeat' (first
    | refine run_seq ?_
    | refine run_skip ?_
    | (refine run_region fun K hK => ?_; (try (simp (maxSteps := 10000000) only [opL, opsB, addN_eq, Nat.add_zero, Nat.zero_add, C56r0, C56r1, C56r2, C56r3, C56r4, C56r5, C56r6, C56r7, C56r8, C56r9, C56r10, rwp_nil, rwp_cons, rwpK_app, aop, gpath, St.get, slotAt, sfx, eqP, segsOf, St.put, addBlk, getB, setB, delB, ld1, ldn, st1, stn, setRow, rowNeed, segAt, nsub, bin, un, eqB, isShift, sameK, arith, shiftR, getsl, selB_or, selB_and, beqb, shed, Nat.beq, Seg.size, sizes, imp, needP, andN, appL, argsOf, ptrsOf, aasOf, cut, takeS, dropS, putS, partsOf, fillS, fieldOf, nthA, negIf, nilq, nilB, eqS, eqF, eqS1, andP, kin, slcS, strOk, plusA, bndHi, leN, optG, roH, roL, initT, exOk, exAll, wrAddr, Nat.reduceAdd, Nat.reduceSub, Nat.reduceMul, Int.reduceToNat, List.append_nil, List.nil_append, List.cons_append, eqT, idxT, cat, cpy, ite_int, ite_bool, ite_seg, ite_segs, ite_nil, ite_twice, Int.toNat_natCast, app, addBs, tob])); (repeat (first | (refine And.intro ?_ ?_; · (first | trivial | assumption | (intros; simp only [decide_eq_true_eq] at *; omega))) | ((first | (refine call_t _ (con93 (f i) (f (i + 1 + j)) _) ?_; rintro v H' ⟨rfl, rfl⟩) | refine call_q _ (con93 (f i) (f (i + 1 + j)) _) ?_ | refine call_g _ (imp_of (con93 (f i) (f (i + 1 + j)) _)) ?_ | (refine call_t _ (con22 _ _) ?_; rintro v H' ⟨rfl, rfl⟩) | refine call_q _ (con22 _ _) ?_ | refine call_g _ (imp_of (con22 _ _)) ?_); simp (maxSteps := 10000000) only [opL, opsB, addN_eq, Nat.add_zero, Nat.zero_add, C56r0, C56r1, C56r2, C56r3, C56r4, C56r5, C56r6, C56r7, C56r8, C56r9, C56r10, rwp_nil, rwp_cons, rwpK_app, aop, gpath, St.get, slotAt, sfx, eqP, segsOf, St.put, addBlk, getB, setB, delB, ld1, ldn, st1, stn, setRow, rowNeed, segAt, nsub, bin, un, eqB, isShift, sameK, arith, shiftR, getsl, selB_or, selB_and, beqb, shed, Nat.beq, Seg.size, sizes, imp, needP, andN, appL, argsOf, ptrsOf, aasOf, cut, takeS, dropS, putS, partsOf, fillS, fieldOf, nthA, negIf, nilq, nilB, eqS, eqF, eqS1, andP, kin, slcS, strOk, plusA, bndHi, leN, optG, roH, roL, initT, exOk, exAll, wrAddr, Nat.reduceAdd, Nat.reduceSub, Nat.reduceMul, Int.reduceToNat, List.append_nil, List.nil_append, List.cons_append, eqT, idxT, cat, cpy, ite_int, ite_bool, ite_seg, ite_segs, ite_nil, ite_twice, Int.toNat_natCast, app, addBs, tob]))); with_reducible refine hK _ ?_; clear hK K)
    | (refine run_cond rfl (fun hc => ?_) (fun hc => ?_) <;> try (simp only [*, Bool.true_eq_false, Bool.false_eq_true, Bool.not_true, Bool.not_false, Bool.true_or, Bool.or_true, Bool.false_or, Bool.or_false, Bool.false_and, Bool.and_false, bne_self_eq_false, beq_self_eq_true] at hc; done))
    | refine run_block ?_
    | refine run_ret ?_
    | refine run_nil ?_
    | refine run_exit ?_
    | refine blk_normal ?_
    | refine blk_ret ?_
    | refine blk_here ?_
    | refine blk_there rfl ?_
    | refine loop_exit ?_
    | refine loop_ret ?_
    | refine un_exit ?_
    | refine un_ret ?_
    | refine unE_exit ?_
    | refine unE_ret ?_
    | refine un_normal ?_)
  · rename_i h0
    have hlt : j < m - 1 := by simp only [decide_eq_true_eq] at h0; omega
    have e : hidF f (f i) (m - 1) (i + 1) = false := by rw [he, show m - 1 - j = (m - 1 - (j + 1)) + 1 by omega]; simp only [hidF, hc, if_true]
    exact end_ops false rfl rfl ⟨by rw [e], rfl⟩
  · rename_i h0 h1
    have hlt : j < m - 1 := by simp only [decide_eq_true_eq] at h0; omega
    have e : hidF f (f i) (m - 1) (i + 1) = true := by rw [he, show m - 1 - j = (m - 1 - (j + 1)) + 1 by omega]; simp only [hidF, h1, hc, if_true, Bool.false_eq_true, if_false]
    exact end_ops true rfl rfl ⟨by rw [e], rfl⟩
  · rename_i h0 h1
    have hlt : j < m - 1 := by simp only [decide_eq_true_eq] at h0; omega
    have hw : IntKind.i64.wrap ((j : Int) + 1) = ((j + 1 : Nat) : Int) := by rw [IntKind.wrap_i64]; omega
    refine loop_normal (m - 1 - (j + 1)) (hidSt N i m f (j + 1)) (by omega) (LeS.intro [0] idt1 ⟨trivial, trivial⟩ rfl (by simp only [hidSt, slotsLe, slotAt, Nat.beq, leV, leV1, leC, leA, nthO, hw, and_self]) ⟨ops_le N f false, trivial⟩) ⟨j + 1, rfl, hlt, ?_, rfl⟩
    rw [he, show m - 1 - j = (m - 1 - (j + 1)) + 1 by omega]
    simp only [hidF, h1, hc, Bool.false_eq_true, if_false]
    rfl
  · have e : hidF f (f i) (m - 1) (i + 1) = false := by
      have : m - 1 - j = 0 := by simp only [decide_eq_false_iff_not] at hc; omega
      rw [he, this]
      rfl
    exact end_ops false rfl rfl ⟨by rw [e], rfl⟩
/-- Rows of truth values. -/
def boolsB (n : Nat) (g : Nat → Bool) (w : Bool) : Blk := ⟨1, some n, fun i => [.c (.bool (g i))], 4, w⟩
theorem bools_le {l : List Nat} (n : Nat) (g : Nat → Bool) (w : Bool) : leB l ⟨1, some n, fun i => [.c (.bool (g i))], 4, w⟩ (boolsB n g false) := ⟨rfl, rfl, fun h => (by cases h), Nat.le_refl _, fun _ _ => ⟨rfl, trivial⟩⟩
theorem end_bools {l : List Slot} {H : Heap} {R : Post} {t N : Nat} {g : Nat → Bool} (v : CV) (hv : leC [] v v) (hsl : slotAt l t = some ⟨t, [], .c v⟩) (hb : getB H.blks 0 = some (boolsB N g false)) (hR : R (.c v) ⟨1, [(0, boolsB N g false)]⟩) (hv0 : leC [0] v v) : endQ (LeS 1) [.tmp t] R .ret ⟨l, H⟩ := by
  refine end_of ⟨[⟨t, [], .c v⟩], ⟨1, [(0, boolsB N g false)]⟩⟩ (LeS.intro [0] idt1 (by simp only [diff, notIn, and_self]) rfl (by simp only [slotsLe, hsl, leV, leV1]; exact ⟨hv0, trivial⟩) ?_) ?_
  · simp only [leBlks, nthO, hb]
    exact ⟨bools_le N g false, trivial⟩
  · simp only [endF, resL, resA, St.get, slotAt, Nat.beq_refl, sfx, eqP, noTup, resV]
    exact hR
/-- Where a truth value stands among c from j on; below 0: nowhere. -/
def idxF (g : Nat → Bool) (v : Bool) : Nat → Nat → Int
  | 0, _ => -1
  | c + 1, j => if (v == g j) = true then (j : Int) else idxF g v c (j + 1)
def idxSt (n M : Nat) (g : Nat → Bool) (v : Bool) (j : Nat) : St := ⟨[⟨8, [], .c (.int .i64 j)⟩, ⟨7, [], .c (.int .i64 n)⟩, ⟨0, [], .c (.slice ⟨0, 0, 0, 0⟩ false n)⟩, ⟨1, [], .c (.bool v)⟩], ⟨1, [(0, boolsB M g false)]⟩⟩
theorem con58 (n M : Nat) (g : Nat → Bool) (v : Bool) (hM : n ≤ M) (hN : n ≤ 140737488355328) : Con Try.prog 58 [.c (.slice ⟨0, 0, 0, 0⟩ false n), .c (.bool v)] ⟨1, [(0, boolsB M g false)]⟩ (fun x H' => x = .c (.int .i64 (idxF g v n 0)) ∧ H' = ⟨1, [(0, boolsB M g false)]⟩) := by
  (refine con_of_run mixed (fn := Try.f58) (by kernel_rfl) (by kernel_rfl) C58_ok (rs := [.tmp 4]) (by kernel_rfl) (Nat.le_of_ble_eq_true (by kernel_rfl)) ?_; unfold C58; simp only [initT, Nat.reduceAdd])
  repeat' (first
    | refine run_seq ?_
    | refine run_skip ?_
    | (refine run_region fun K hK => ?_; (try (simp (maxSteps := 10000000) only [boolsB, C58r0, C58r2, C58r4, C58r5, C58r6, C58r7, rwp_nil, rwp_cons, rwpK_app, aop, gpath, St.get, slotAt, sfx, eqP, segsOf, St.put, addBlk, getB, setB, delB, ld1, ldn, st1, stn, setRow, rowNeed, segAt, nsub, bin, un, eqB, isShift, sameK, arith, shiftR, getsl, selB_or, selB_and, beqb, shed, addN, Nat.beq, Seg.size, sizes, imp, needP, andN, appL, argsOf, ptrsOf, aasOf, cut, takeS, dropS, putS, partsOf, fillS, fieldOf, nthA, negIf, nilq, nilB, eqS, eqF, eqS1, andP, kin, slcS, strOk, plusA, bndHi, leN, optG, roH, roL, initT, exOk, exAll, wrAddr, Nat.reduceAdd, Nat.reduceSub, Nat.reduceMul, Int.reduceToNat, List.append_nil, List.nil_append, List.cons_append, eqT, idxT, cat, cpy, ite_int, ite_bool, ite_seg, ite_segs, ite_nil, ite_twice, Int.toNat_natCast, app, addBs, tob])); (repeat (first | (refine And.intro ?_ ?_; · (first | trivial | assumption | omega)))); with_reducible refine hK _ ?_; clear hK K)
    | (refine run_cond rfl (fun hc => ?_) (fun hc => ?_) <;> try (simp only [*, Bool.true_eq_false, Bool.false_eq_true, Bool.not_true, Bool.not_false, Bool.true_or, Bool.or_true, Bool.false_or, Bool.or_false, Bool.false_and, Bool.and_false, bne_self_eq_false, beq_self_eq_true] at hc; done))
    | refine run_block ?_
    | refine run_ret ?_
    | refine run_nil ?_
    | refine run_exit ?_
    | refine blk_normal ?_
    | refine blk_ret ?_
    | refine blk_here ?_
    | refine blk_there rfl ?_
    | refine loop_exit ?_
    | refine loop_ret ?_
    | refine un_exit ?_
    | refine un_ret ?_
    | refine unE_exit ?_
    | refine unE_ret ?_
    | refine un_normal ?_)
  (refine run_regionL fun K hK => ?_; (try (simp (maxSteps := 10000000) only [boolsB, C58r0, C58r1, C58r2, C58r3, C58r4, C58r5, C58r6, C58r7, rwp_nil, rwp_cons, rwpK_app, aop, gpath, St.get, slotAt, sfx, eqP, segsOf, St.put, addBlk, getB, setB, delB, ld1, ldn, st1, stn, setRow, rowNeed, segAt, nsub, bin, un, eqB, isShift, sameK, arith, shiftR, getsl, selB_or, selB_and, beqb, shed, addN, Nat.beq, Seg.size, sizes, imp, needP, andN, appL, argsOf, ptrsOf, aasOf, cut, takeS, dropS, putS, partsOf, fillS, fieldOf, nthA, negIf, nilq, nilB, eqS, eqF, eqS1, andP, kin, slcS, strOk, plusA, bndHi, leN, optG, roH, roL, initT, exOk, exAll, wrAddr, Nat.reduceAdd, Nat.reduceSub, Nat.reduceMul, Int.reduceToNat, List.append_nil, List.nil_append, List.cons_append, eqT, idxT, cat, cpy, ite_int, ite_bool, ite_seg, ite_segs, ite_nil, ite_twice, Int.toNat_natCast, app, addBs, tob])); (repeat (first | (refine And.intro ?_ ?_; · first | trivial | assumption | omega))); refine hK _ (idxSt n M g v 0) (LeS.intro [0] idt1 ⟨trivial, trivial⟩ rfl (by simp only [idxSt, slotsLe, slotAt, Nat.beq, leV, leV1, leC, leA, nthO, Int.natCast_zero, Int.ofNat_zero, and_self]) ⟨bools_le M g false, trivial⟩) ?_; clear hK K)
  refine run_block ?_
  refine run_loop (fun k s => ∃ j, k = n - j ∧ j ≤ n ∧ idxF g v n 0 = idxF g v (n - j) j ∧ s = idxSt n M g v j) n ⟨0, rfl, Nat.zero_le _, rfl, rfl⟩ ?_
  rintro k s ⟨j, rfl, hj, he, rfl⟩
  unfold idxSt
  repeat' (first
    | refine run_seq ?_
    | refine run_skip ?_
    | (refine run_region fun K hK => ?_; (try (simp (maxSteps := 10000000) only [boolsB, C58r0, C58r1, C58r2, C58r3, C58r4, C58r5, C58r6, C58r7, rwp_nil, rwp_cons, rwpK_app, aop, gpath, St.get, slotAt, sfx, eqP, segsOf, St.put, addBlk, getB, setB, delB, ld1, ldn, st1, stn, setRow, rowNeed, segAt, nsub, bin, un, eqB, isShift, sameK, arith, shiftR, getsl, selB_or, selB_and, beqb, shed, addN, Nat.beq, Seg.size, sizes, imp, needP, andN, appL, argsOf, ptrsOf, aasOf, cut, takeS, dropS, putS, partsOf, fillS, fieldOf, nthA, negIf, nilq, nilB, eqS, eqF, eqS1, andP, kin, slcS, strOk, plusA, bndHi, leN, optG, roH, roL, initT, exOk, exAll, wrAddr, Nat.reduceAdd, Nat.reduceSub, Nat.reduceMul, Int.reduceToNat, List.append_nil, List.nil_append, List.cons_append, eqT, idxT, cat, cpy, ite_int, ite_bool, ite_seg, ite_segs, ite_nil, ite_twice, Int.toNat_natCast, app, addBs, tob])); (repeat (first | (refine And.intro ?_ ?_; · (first | trivial | assumption | (intros; simp only [decide_eq_true_eq] at *; omega))))); with_reducible refine hK _ ?_; clear hK K)
    | (refine run_cond rfl (fun hc => ?_) (fun hc => ?_) <;> try (simp only [*, Bool.true_eq_false, Bool.false_eq_true, Bool.not_true, Bool.not_false, Bool.true_or, Bool.or_true, Bool.false_or, Bool.or_false, Bool.false_and, Bool.and_false, bne_self_eq_false, beq_self_eq_true] at hc; done))
    | refine run_block ?_
    | refine run_ret ?_
    | refine run_nil ?_
    | refine run_exit ?_
    | refine blk_normal ?_
    | refine blk_ret ?_
    | refine blk_here ?_
    | refine blk_there rfl ?_
    | refine loop_exit ?_
    | refine loop_ret ?_
    | refine un_exit ?_
    | refine un_ret ?_
    | refine unE_exit ?_
    | refine unE_ret ?_
    | refine un_normal ?_)
  · rename_i h0
    have hlt : j < n := by simp only [decide_eq_true_eq] at h0; omega
    have e : idxF g v n 0 = j := by rw [he, show n - j = (n - (j + 1)) + 1 by omega]; simp only [idxF, hc, if_true]
    exact end_bools _ (by simp only [leC, and_self]) rfl rfl ⟨by rw [e], rfl⟩ (by simp only [leC, and_self])
  · rename_i h0
    have hlt : j < n := by simp only [decide_eq_true_eq] at h0; omega
    have hw : IntKind.i64.wrap ((j : Int) + 1) = ((j + 1 : Nat) : Int) := by rw [IntKind.wrap_i64]; omega
    refine loop_normal (n - (j + 1)) (idxSt n M g v (j + 1)) (by omega) (LeS.intro [0] idt1 ⟨trivial, trivial⟩ rfl (by simp only [idxSt, slotsLe, slotAt, Nat.beq, leV, leV1, leC, leA, nthO, hw, and_self]) ⟨bools_le M g false, trivial⟩) ⟨j + 1, rfl, hlt, ?_, rfl⟩
    rw [he, show n - j = (n - (j + 1)) + 1 by omega]
    simp only [idxF, hc, Bool.false_eq_true, if_false]
  · have e : idxF g v n 0 = -1 := by
      have : n - j = 0 := by simp only [decide_eq_false_iff_not] at hc; omega
      rw [he, this]
      rfl
    exact end_bools _ (by simp only [leC, and_self]) rfl rfl ⟨by rw [e], rfl⟩ (by simp only [leC, and_self])
theorem con40 (n M : Nat) (g : Nat → Bool) (v : Bool) (hM : n ≤ M) (hN : n ≤ 140737488355328) : Con Try.prog 40 [.c (.slice ⟨0, 0, 0, 0⟩ false n), .c (.bool v)] ⟨1, [(0, boolsB M g false)]⟩ (fun x H' => x = .c (.bool (decide (idxF g v n 0 ≥ 0))) ∧ H' = ⟨1, [(0, boolsB M g false)]⟩) := by
  (refine con_of_run mixed (fn := Try.f40) (by kernel_rfl) (by kernel_rfl) C40_ok (rs := [.tmp 4]) (by kernel_rfl) (Nat.le_of_ble_eq_true (by kernel_rfl)) ?_; unfold C40; simp only [initT, Nat.reduceAdd])
  repeat' (first
    | refine run_seq ?_
    | (refine run_region fun K hK => ?_; (try (simp (maxSteps := 10000000) only [C40r0, C40r1, rwp_nil, rwp_cons, rwpK_app, aop, gpath, St.get, slotAt, sfx, eqP, segsOf, St.put, addBlk, getB, setB, delB, ld1, ldn, st1, stn, setRow, rowNeed, segAt, nsub, bin, un, eqB, isShift, sameK, arith, shiftR, getsl, selB_or, selB_and, beqb, shed, addN, Nat.beq, Seg.size, sizes, imp, needP, andN, appL, argsOf, ptrsOf, aasOf, cut, takeS, dropS, putS, partsOf, fillS, fieldOf, nthA, negIf, nilq, nilB, eqS, eqF, eqS1, andP, kin, slcS, strOk, plusA, bndHi, leN, optG, roH, roL, initT, exOk, exAll, wrAddr, Nat.reduceAdd, Nat.reduceSub, Nat.reduceMul, Int.reduceToNat, List.append_nil, List.nil_append, List.cons_append, eqT, idxT, cat, cpy, ite_int, ite_bool, ite_seg, ite_segs, ite_nil, ite_twice, Int.toNat_natCast, app, addBs, tob])); (repeat (first | (refine And.intro ?_ ?_; · first | trivial | assumption | omega) | ((first | (refine call_t _ (con58 n M g v hM hN) ?_; rintro v H' ⟨rfl, rfl⟩) | refine call_q _ (con58 n M g v hM hN) ?_ | refine call_g _ (imp_of (con58 n M g v hM hN)) ?_); simp (maxSteps := 10000000) only [C40r0, C40r1, rwp_nil, rwp_cons, rwpK_app, aop, gpath, St.get, slotAt, sfx, eqP, segsOf, St.put, addBlk, getB, setB, delB, ld1, ldn, st1, stn, setRow, rowNeed, segAt, nsub, bin, un, eqB, isShift, sameK, arith, shiftR, getsl, selB_or, selB_and, beqb, shed, addN, Nat.beq, Seg.size, sizes, imp, needP, andN, appL, argsOf, ptrsOf, aasOf, cut, takeS, dropS, putS, partsOf, fillS, fieldOf, nthA, negIf, nilq, nilB, eqS, eqF, eqS1, andP, kin, slcS, strOk, plusA, bndHi, leN, optG, roH, roL, initT, exOk, exAll, wrAddr, Nat.reduceAdd, Nat.reduceSub, Nat.reduceMul, Int.reduceToNat, List.append_nil, List.nil_append, List.cons_append, eqT, idxT, cat, cpy, ite_int, ite_bool, ite_seg, ite_segs, ite_nil, ite_twice, Int.toNat_natCast, app, addBs, tob]))); with_reducible refine hK _ ?_; clear hK K)
    | refine run_ret ?_
    | refine run_nil ?_)
  exact end_bools _ (by simp only [leC, and_self]) rfl rfl ⟨rfl, rfl⟩ (by simp only [leC, and_self])
theorem con40_at (n M : Nat) (g : Nat → Bool) (v : Bool) (hM : n ≤ M) (hN : n ≤ 140737488355328) (i m : Nat) (X : List (Nat × Blk)) (w : Bool) (h0 : getB X i = some ⟨1, some M, fun i => [.c (.bool (g i))], 4, w⟩) (hlt : i < m) (hkl : keysLt X m) : Con Try.prog 40 [.c (.slice ⟨i, 0, 0, 0⟩ false n), .c (.bool v)] ⟨m, X⟩ (fun x H' => x = .c (.bool (decide (idxF g v n 0 ≥ 0))) ∧ H' = ⟨m, X⟩) :=
  ro_gen (con40 n M g v hM hN) [i] m X rfl ⟨trivial, trivial⟩ ⟨hlt, trivial⟩ hkl (by simp only [leBlks, nthO, h0]; exact ⟨bools_le M g w, trivial⟩) (by simp only [leArgs, leV, leV1, leC, leA, nthO, and_self]) rfl (fun _ => rfl) rfl rfl
theorem con56_at (N i m : Nat) (f : Nat → OpS) (hm : 1 ≤ m) (hi : i + m ≤ N) (hN : N ≤ 140737488355328) (b n : Nat) (X : List (Nat × Blk)) (w : Bool) (h0 : getB X b = some ⟨6, some N, fun i => opL (f i), 39, w⟩) (hlt : b < n) (hkl : keysLt X n) : Con Try.prog 56 [.c (.slice ⟨b, i, 0, 0⟩ false m)] ⟨n, X⟩ (fun v H' => v = .c (.bool (hidF f (f i) (m - 1) (i + 1))) ∧ H' = ⟨n, X⟩) :=
  ro_gen (con56 N i m f hm hi hN) [b] n X rfl ⟨trivial, trivial⟩ ⟨hlt, trivial⟩ hkl (by simp only [leBlks, nthO, h0]; exact ⟨ops_le N f w, trivial⟩) (by simp only [leArgs, leV, leV1, leC, leA, nthO, and_self]) rfl (fun _ => rfl) rfl rfl
end Go.Proofs.Ytmbnakinhnkabaa
