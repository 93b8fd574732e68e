/- Parts of the proof of deadDoes_holds, joined and cut by a program: Dk, Dl, Dm, Dn, Do, Dp, Dq, Dr, Am23, Ds. No condition. -/
import Derived.Test.YtmbnakinhnkabaaZdc
import Derived.DataOpen
import Derived.OpenShut
import Derived.Carry
import Derived.ChangeSame
import Derived.Test.YtmbnakinhnkabaaRows
import Derived.ProofKit
namespace Go.Proofs.Ytmbnakinhnkabaa
open Go.AM
set_option maxRecDepth 100000
set_option linter.unusedSimpArgs false
set_option linter.unusedVariables false
def sameS (o x : OpS) : Bool × Bool :=
  if (o.r != x.r) = true then (false, false) else
  if (o.kind == 14) = true then (x.kind == 14, false) else
  if (o.kind == 3) = true then (x.kind == 3, x.kind == 2) else
  if (o.kind == 5) = true then (x.kind == 5, x.kind == 4) else
  if (o.kind == 7) = true then (x.kind == 7, x.kind == 6) else (false, false)
theorem con93 (o x : OpS) (H : Heap) : Con Try.prog 93 [.agg (opL o), .agg (opL x)] H (fun v H' => v = .tup [.c (.bool (sameS o x).1), .c (.bool (sameS o x).2)] ∧ H' = H) := by
  refine Con.pure ?_ (by simp only [leArgs, leV, leV1, opL, leSegs, leSeg, leC, and_self]) rfl H
  (refine con_of_run mixed (fn := Try.f93) (by kernel_rfl) (by kernel_rfl) C93_ok (rs := [.tmp 4, .tmp 5]) (by kernel_rfl) (Nat.le_of_ble_eq_true (by kernel_rfl)) ?_; unfold C93; simp only [initT, Nat.reduceAdd])
  repeat' (first | refine run_seq ?_ | refine run_skip ?_ | (refine run_region fun K hK => ?_; (try (simp (maxSteps := 10000000) only [opL, C93r0, C93r1, C93r2, C93r3, C93r4, C93r5, C93r6, C93r7, C93r8, C93r9, C93r10, C93r11, C93r12, rwp_nil, rwp_cons, rwpK_app, aop, gpath, St.get, slotAt, sfx, eqP, segsOf, St.put, addBlk, getB, setB, delB, ld1, ldn, st1, stn, setRow, rowNeed, segAt, nsub, bin, un, eqB, isShift, sameK, arith, shiftR, getsl, selB_or, selB_and, beqb, shed, addN, Nat.beq, Seg.size, sizes, imp, needP, andN, appL, argsOf, ptrsOf, aasOf, cut, takeS, dropS, putS, partsOf, fillS, fieldOf, nthA, negIf, nilq, nilB, eqS, eqF, eqS1, andP, kin, slcS, strOk, plusA, bndHi, leN, optG, roH, roL, initT, exOk, exAll, wrAddr, Nat.reduceAdd, Nat.reduceSub, Nat.reduceMul, Int.reduceToNat, List.append_nil, List.nil_append, List.cons_append, eqT, idxT, cat, cpy, ite_int, ite_bool, ite_seg, ite_segs, ite_nil, ite_twice, Int.toNat_natCast, app, addBs, tob])); (repeat (first | (refine And.intro ?_ ?_; · first | trivial | assumption | omega))); with_reducible refine hK _ ?_; clear hK K) | (refine run_cond rfl (fun hc => ?_) (fun hc => ?_) <;> try (simp only [*, Bool.true_eq_false, Bool.false_eq_true, Bool.not_true, Bool.not_false, Bool.true_or, Bool.or_true, Bool.false_or, Bool.or_false, Bool.false_and, Bool.and_false, bne_self_eq_false, beq_self_eq_true] at hc; done)) | refine run_block ?_ | refine run_ret ?_ | refine run_nil ?_ | refine blk_normal ?_ | refine blk_ret ?_ | refine blk_here ?_ | refine blk_there rfl ?_)
  all_goals exact end_tmp2 rfl rfl rfl rfl rfl rfl rfl ⟨by simp only [sameS, *, if_true, Bool.false_eq_true, if_false], rfl⟩
def hidF (f : Nat → OpS) (o : OpS) : Nat → Nat → Bool
  | 0, _ => false
  | c + 1, j => if ((sameS o (f j)).2 || leaveS (f j).kind) = true then false else if (sameS o (f j)).1 = true then true else hidF f o c (j + 1)
def hidSt (N i m : Nat) (f : Nat → OpS) (j : Nat) : St := ⟨[⟨10, [], .c (.int .i64 j)⟩, ⟨9, [], .c (.int .i64 ((m - 1 : Nat) : Int))⟩, ⟨8, [], .c (.slice ⟨0, i + 1, 0, 0⟩ false (m - 1))⟩, ⟨0, [], .c (.slice ⟨0, i, 0, 0⟩ false m)⟩], ⟨1, [(0, opsB N f)]⟩⟩
theorem con56 (N i m : Nat) (f : Nat → OpS) (hm : 1 ≤ m) (hi : i + m ≤ N) (hN : N ≤ 140737488355328) : Con Try.prog 56 [.c (.slice ⟨0, i, 0, 0⟩ false m)] ⟨1, [(0, opsB N f)]⟩ (fun v H' => v = .c (.bool (hidF f (f i) (m - 1) (i + 1))) ∧ H' = ⟨1, [(0, opsB N f)]⟩) := by
  (refine con_of_run mixed (fn := Try.f56) (by kernel_rfl) (by kernel_rfl) C56_ok (rs := [.tmp 2]) (by kernel_rfl) (Nat.le_of_ble_eq_true (by kernel_rfl)) ?_; unfold C56; simp only [initT, Nat.reduceAdd])
  repeat' (first | refine run_seq ?_ | refine run_skip ?_ | (refine run_region fun K hK => ?_; (try (simp (maxSteps := 10000000) only [opL, opsB, C56r0, C56r2, C56r3, C56r5, C56r6, C56r7, C56r8, C56r9, C56r10, rwp_nil, rwp_cons, rwpK_app, aop, gpath, St.get, slotAt, sfx, eqP, segsOf, St.put, addBlk, getB, setB, delB, ld1, ldn, st1, stn, setRow, rowNeed, segAt, nsub, bin, un, eqB, isShift, sameK, arith, shiftR, getsl, selB_or, selB_and, beqb, shed, addN, Nat.beq, Seg.size, sizes, imp, needP, andN, appL, argsOf, ptrsOf, aasOf, cut, takeS, dropS, putS, partsOf, fillS, fieldOf, nthA, negIf, nilq, nilB, eqS, eqF, eqS1, andP, kin, slcS, strOk, plusA, bndHi, leN, optG, roH, roL, initT, exOk, exAll, wrAddr, Nat.reduceAdd, Nat.reduceSub, Nat.reduceMul, Int.reduceToNat, List.append_nil, List.nil_append, List.cons_append, eqT, idxT, cat, cpy, ite_int, ite_bool, ite_seg, ite_segs, ite_nil, ite_twice, Int.toNat_natCast, app, addBs, tob])); (repeat (first | (refine And.intro ?_ ?_; · (first | trivial | assumption | omega)))); with_reducible refine hK _ ?_; clear hK K) | (refine run_cond rfl (fun hc => ?_) (fun hc => ?_) <;> try (simp only [*, Bool.true_eq_false, Bool.false_eq_true, Bool.not_true, Bool.not_false, Bool.true_or, Bool.or_true, Bool.false_or, Bool.or_false, Bool.false_and, Bool.and_false, bne_self_eq_false, beq_self_eq_true] at hc; done)) | refine run_block ?_ | refine run_ret ?_ | refine run_nil ?_ | refine run_exit ?_ | refine blk_normal ?_ | refine blk_ret ?_ | refine blk_here ?_ | refine blk_there rfl ?_ | refine loop_exit ?_ | refine loop_ret ?_ | refine un_exit ?_ | refine un_ret ?_ | refine unE_exit ?_ | refine unE_ret ?_ | refine un_normal ?_)
  (refine run_regionL fun K hK => ?_; (try (simp (maxSteps := 10000000) only [opL, opsB, addN_eq, Int.toNat_one, Nat.add_zero, Nat.zero_add, C56r0, C56r1, C56r2, C56r3, C56r4, C56r5, C56r6, C56r7, C56r8, C56r9, C56r10, rwp_nil, rwp_cons, rwpK_app, aop, gpath, St.get, slotAt, sfx, eqP, segsOf, St.put, addBlk, getB, setB, delB, ld1, ldn, st1, stn, setRow, rowNeed, segAt, nsub, bin, un, eqB, isShift, sameK, arith, shiftR, getsl, selB_or, selB_and, beqb, shed, Nat.beq, Seg.size, sizes, imp, needP, andN, appL, argsOf, ptrsOf, aasOf, cut, takeS, dropS, putS, partsOf, fillS, fieldOf, nthA, negIf, nilq, nilB, eqS, eqF, eqS1, andP, kin, slcS, strOk, plusA, bndHi, leN, optG, roH, roL, initT, exOk, exAll, wrAddr, Nat.reduceAdd, Nat.reduceSub, Nat.reduceMul, Int.reduceToNat, List.append_nil, List.nil_append, List.cons_append, eqT, idxT, cat, cpy, ite_int, ite_bool, ite_seg, ite_segs, ite_nil, ite_twice, Int.toNat_natCast, app, addBs, tob])); (repeat (first | (refine And.intro ?_ ?_; · (refine ⟨by omega, ?_⟩; omega)))); refine hK _ (hidSt N i m f 0) (LeS.intro [0] idt1 ⟨trivial, trivial⟩ rfl (by simp only [hidSt, slotsLe, slotAt, Nat.beq, leV, leV1, leC, leA, nthO, Int.natCast_zero, Int.ofNat_zero, and_self]) ⟨ops_le N f false, trivial⟩) ?_; clear hK K)
  refine run_block ?_
  refine run_loop (fun n s => ∃ j, n = m - 1 - j ∧ j ≤ m - 1 ∧ hidF f (f i) (m - 1) (i + 1) = hidF f (f i) (m - 1 - j) (i + 1 + j) ∧ s = hidSt N i m f j) (m - 1) ⟨0, rfl, Nat.zero_le _, rfl, rfl⟩ ?_
  rintro n s ⟨j, rfl, hj, he, rfl⟩
  unfold hidSt
  repeat' (first | refine run_seq ?_ | refine run_skip ?_ | (refine run_region fun K hK => ?_; (try (simp (maxSteps := 10000000) only [opL, opsB, addN_eq, Nat.add_zero, Nat.zero_add, C56r0, C56r1, C56r2, C56r3, C56r4, C56r5, C56r6, C56r7, C56r8, C56r9, C56r10, rwp_nil, rwp_cons, rwpK_app, aop, gpath, St.get, slotAt, sfx, eqP, segsOf, St.put, addBlk, getB, setB, delB, ld1, ldn, st1, stn, setRow, rowNeed, segAt, nsub, bin, un, eqB, isShift, sameK, arith, shiftR, getsl, selB_or, selB_and, beqb, shed, Nat.beq, Seg.size, sizes, imp, needP, andN, appL, argsOf, ptrsOf, aasOf, cut, takeS, dropS, putS, partsOf, fillS, fieldOf, nthA, negIf, nilq, nilB, eqS, eqF, eqS1, andP, kin, slcS, strOk, plusA, bndHi, leN, optG, roH, roL, initT, exOk, exAll, wrAddr, Nat.reduceAdd, Nat.reduceSub, Nat.reduceMul, Int.reduceToNat, List.append_nil, List.nil_append, List.cons_append, eqT, idxT, cat, cpy, ite_int, ite_bool, ite_seg, ite_segs, ite_nil, ite_twice, Int.toNat_natCast, app, addBs, tob])); (repeat (first | (refine And.intro ?_ ?_; · (first | trivial | assumption | (intros; simp only [decide_eq_true_eq] at *; omega))) | ((first | (refine call_t _ (con93 (f i) (f (i + 1 + j)) _) ?_; rintro v H' ⟨rfl, rfl⟩) | refine call_q _ (con93 (f i) (f (i + 1 + j)) _) ?_ | refine call_g _ (imp_of (con93 (f i) (f (i + 1 + j)) _)) ?_ | (refine call_t _ (con22 _ _) ?_; rintro v H' ⟨rfl, rfl⟩) | refine call_q _ (con22 _ _) ?_ | refine call_g _ (imp_of (con22 _ _)) ?_); simp (maxSteps := 10000000) only [opL, opsB, addN_eq, Nat.add_zero, Nat.zero_add, C56r0, C56r1, C56r2, C56r3, C56r4, C56r5, C56r6, C56r7, C56r8, C56r9, C56r10, rwp_nil, rwp_cons, rwpK_app, aop, gpath, St.get, slotAt, sfx, eqP, segsOf, St.put, addBlk, getB, setB, delB, ld1, ldn, st1, stn, setRow, rowNeed, segAt, nsub, bin, un, eqB, isShift, sameK, arith, shiftR, getsl, selB_or, selB_and, beqb, shed, Nat.beq, Seg.size, sizes, imp, needP, andN, appL, argsOf, ptrsOf, aasOf, cut, takeS, dropS, putS, partsOf, fillS, fieldOf, nthA, negIf, nilq, nilB, eqS, eqF, eqS1, andP, kin, slcS, strOk, plusA, bndHi, leN, optG, roH, roL, initT, exOk, exAll, wrAddr, Nat.reduceAdd, Nat.reduceSub, Nat.reduceMul, Int.reduceToNat, List.append_nil, List.nil_append, List.cons_append, eqT, idxT, cat, cpy, ite_int, ite_bool, ite_seg, ite_segs, ite_nil, ite_twice, Int.toNat_natCast, app, addBs, tob]))); with_reducible refine hK _ ?_; clear hK K) | (refine run_cond rfl (fun hc => ?_) (fun hc => ?_) <;> try (simp only [*, Bool.true_eq_false, Bool.false_eq_true, Bool.not_true, Bool.not_false, Bool.true_or, Bool.or_true, Bool.false_or, Bool.or_false, Bool.false_and, Bool.and_false, bne_self_eq_false, beq_self_eq_true] at hc; done)) | refine run_block ?_ | refine run_ret ?_ | refine run_nil ?_ | refine run_exit ?_ | refine blk_normal ?_ | refine blk_ret ?_ | refine blk_here ?_ | refine blk_there rfl ?_ | refine loop_exit ?_ | refine loop_ret ?_ | refine un_exit ?_ | refine un_ret ?_ | refine unE_exit ?_ | refine unE_ret ?_ | refine un_normal ?_)
  · rename_i h0
    have hlt : j < m - 1 := by simp only [decide_eq_true_eq] at h0; omega
    have e : hidF f (f i) (m - 1) (i + 1) = false := by rw [he, show m - 1 - j = (m - 1 - (j + 1)) + 1 by omega]; simp only [hidF, hc, if_true]
    exact end_ops false rfl rfl ⟨by rw [e], rfl⟩
  · rename_i h0 h1
    have hlt : j < m - 1 := by simp only [decide_eq_true_eq] at h0; omega
    have e : hidF f (f i) (m - 1) (i + 1) = true := by rw [he, show m - 1 - j = (m - 1 - (j + 1)) + 1 by omega]; simp only [hidF, h1, hc, if_true, Bool.false_eq_true, if_false]
    exact end_ops true rfl rfl ⟨by rw [e], rfl⟩
  · rename_i h0 h1
    have hlt : j < m - 1 := by simp only [decide_eq_true_eq] at h0; omega
    have hw : IntKind.i64.wrap ((j : Int) + 1) = ((j + 1 : Nat) : Int) := by rw [IntKind.wrap_i64]; omega
    refine loop_normal (m - 1 - (j + 1)) (hidSt N i m f (j + 1)) (by omega) (LeS.intro [0] idt1 ⟨trivial, trivial⟩ rfl (by simp only [hidSt, slotsLe, slotAt, Nat.beq, leV, leV1, leC, leA, nthO, hw, and_self]) ⟨ops_le N f false, trivial⟩) ⟨j + 1, rfl, hlt, ?_, rfl⟩
    rw [he, show m - 1 - j = (m - 1 - (j + 1)) + 1 by omega]
    simp only [hidF, h1, hc, Bool.false_eq_true, if_false]
    rfl
  · have e : hidF f (f i) (m - 1) (i + 1) = false := by
      have : m - 1 - j = 0 := by simp only [decide_eq_false_iff_not] at hc; omega
      rw [he, this]
      rfl
    exact end_ops false rfl rfl ⟨by rw [e], rfl⟩
def boolsB (n : Nat) (g : Nat → Bool) (w : Bool) : Blk := ⟨1, some n, fun i => [.c (.bool (g i))], 4, w⟩
theorem bools_le {l : List Nat} (n : Nat) (g : Nat → Bool) (w : Bool) : leB l ⟨1, some n, fun i => [.c (.bool (g i))], 4, w⟩ (boolsB n g false) := ⟨rfl, rfl, fun h => (by cases h), Nat.le_refl _, fun _ _ => ⟨rfl, trivial⟩⟩
theorem end_bools {l : List Slot} {H : Heap} {R : Post} {t N : Nat} {g : Nat → Bool} (v : CV) (hv : leC [] v v) (hsl : slotAt l t = some ⟨t, [], .c v⟩) (hb : getB H.blks 0 = some (boolsB N g false)) (hR : R (.c v) ⟨1, [(0, boolsB N g false)]⟩) (hv0 : leC [0] v v) : endQ (LeS 1) [.tmp t] R .ret ⟨l, H⟩ := by
  refine end_of ⟨[⟨t, [], .c v⟩], ⟨1, [(0, boolsB N g false)]⟩⟩ (LeS.intro [0] idt1 (by simp only [diff, notIn, and_self]) rfl (by simp only [slotsLe, hsl, leV, leV1]; exact ⟨hv0, trivial⟩) ?_) ?_
  · simp only [leBlks, nthO, hb]
    exact ⟨bools_le N g false, trivial⟩
  · simp only [endF, resL, resA, St.get, slotAt, Nat.beq_refl, sfx, eqP, noTup, resV]
    exact hR
def idxF (g : Nat → Bool) (v : Bool) : Nat → Nat → Int
  | 0, _ => -1
  | c + 1, j => if (v == g j) = true then (j : Int) else idxF g v c (j + 1)
def idxSt (n M : Nat) (g : Nat → Bool) (v : Bool) (j : Nat) : St := ⟨[⟨8, [], .c (.int .i64 j)⟩, ⟨7, [], .c (.int .i64 n)⟩, ⟨0, [], .c (.slice ⟨0, 0, 0, 0⟩ false n)⟩, ⟨1, [], .c (.bool v)⟩], ⟨1, [(0, boolsB M g false)]⟩⟩
theorem con58 (n M : Nat) (g : Nat → Bool) (v : Bool) (hM : n ≤ M) (hN : n ≤ 140737488355328) : Con Try.prog 58 [.c (.slice ⟨0, 0, 0, 0⟩ false n), .c (.bool v)] ⟨1, [(0, boolsB M g false)]⟩ (fun x H' => x = .c (.int .i64 (idxF g v n 0)) ∧ H' = ⟨1, [(0, boolsB M g false)]⟩) := by
  (refine con_of_run mixed (fn := Try.f58) (by kernel_rfl) (by kernel_rfl) C58_ok (rs := [.tmp 4]) (by kernel_rfl) (Nat.le_of_ble_eq_true (by kernel_rfl)) ?_; unfold C58; simp only [initT, Nat.reduceAdd])
  repeat' (first | refine run_seq ?_ | refine run_skip ?_ | (refine run_region fun K hK => ?_; (try (simp (maxSteps := 10000000) only [boolsB, C58r0, C58r2, C58r4, C58r5, C58r6, C58r7, rwp_nil, rwp_cons, rwpK_app, aop, gpath, St.get, slotAt, sfx, eqP, segsOf, St.put, addBlk, getB, setB, delB, ld1, ldn, st1, stn, setRow, rowNeed, segAt, nsub, bin, un, eqB, isShift, sameK, arith, shiftR, getsl, selB_or, selB_and, beqb, shed, addN, Nat.beq, Seg.size, sizes, imp, needP, andN, appL, argsOf, ptrsOf, aasOf, cut, takeS, dropS, putS, partsOf, fillS, fieldOf, nthA, negIf, nilq, nilB, eqS, eqF, eqS1, andP, kin, slcS, strOk, plusA, bndHi, leN, optG, roH, roL, initT, exOk, exAll, wrAddr, Nat.reduceAdd, Nat.reduceSub, Nat.reduceMul, Int.reduceToNat, List.append_nil, List.nil_append, List.cons_append, eqT, idxT, cat, cpy, ite_int, ite_bool, ite_seg, ite_segs, ite_nil, ite_twice, Int.toNat_natCast, app, addBs, tob])); (repeat (first | (refine And.intro ?_ ?_; · (first | trivial | assumption | omega)))); with_reducible refine hK _ ?_; clear hK K) | (refine run_cond rfl (fun hc => ?_) (fun hc => ?_) <;> try (simp only [*, Bool.true_eq_false, Bool.false_eq_true, Bool.not_true, Bool.not_false, Bool.true_or, Bool.or_true, Bool.false_or, Bool.or_false, Bool.false_and, Bool.and_false, bne_self_eq_false, beq_self_eq_true] at hc; done)) | refine run_block ?_ | refine run_ret ?_ | refine run_nil ?_ | refine run_exit ?_ | refine blk_normal ?_ | refine blk_ret ?_ | refine blk_here ?_ | refine blk_there rfl ?_ | refine loop_exit ?_ | refine loop_ret ?_ | refine un_exit ?_ | refine un_ret ?_ | refine unE_exit ?_ | refine unE_ret ?_ | refine un_normal ?_)
  (refine run_regionL fun K hK => ?_; (try (simp (maxSteps := 10000000) only [boolsB, C58r0, C58r1, C58r2, C58r3, C58r4, C58r5, C58r6, C58r7, rwp_nil, rwp_cons, rwpK_app, aop, gpath, St.get, slotAt, sfx, eqP, segsOf, St.put, addBlk, getB, setB, delB, ld1, ldn, st1, stn, setRow, rowNeed, segAt, nsub, bin, un, eqB, isShift, sameK, arith, shiftR, getsl, selB_or, selB_and, beqb, shed, addN, Nat.beq, Seg.size, sizes, imp, needP, andN, appL, argsOf, ptrsOf, aasOf, cut, takeS, dropS, putS, partsOf, fillS, fieldOf, nthA, negIf, nilq, nilB, eqS, eqF, eqS1, andP, kin, slcS, strOk, plusA, bndHi, leN, optG, roH, roL, initT, exOk, exAll, wrAddr, Nat.reduceAdd, Nat.reduceSub, Nat.reduceMul, Int.reduceToNat, List.append_nil, List.nil_append, List.cons_append, eqT, idxT, cat, cpy, ite_int, ite_bool, ite_seg, ite_segs, ite_nil, ite_twice, Int.toNat_natCast, app, addBs, tob])); (repeat (first | (refine And.intro ?_ ?_; · first | trivial | assumption | omega))); refine hK _ (idxSt n M g v 0) (LeS.intro [0] idt1 ⟨trivial, trivial⟩ rfl (by simp only [idxSt, slotsLe, slotAt, Nat.beq, leV, leV1, leC, leA, nthO, Int.natCast_zero, Int.ofNat_zero, and_self]) ⟨bools_le M g false, trivial⟩) ?_; clear hK K)
  refine run_block ?_
  refine run_loop (fun k s => ∃ j, k = n - j ∧ j ≤ n ∧ idxF g v n 0 = idxF g v (n - j) j ∧ s = idxSt n M g v j) n ⟨0, rfl, Nat.zero_le _, rfl, rfl⟩ ?_
  rintro k s ⟨j, rfl, hj, he, rfl⟩
  unfold idxSt
  repeat' (first | refine run_seq ?_ | refine run_skip ?_ | (refine run_region fun K hK => ?_; (try (simp (maxSteps := 10000000) only [boolsB, C58r0, C58r1, C58r2, C58r3, C58r4, C58r5, C58r6, C58r7, rwp_nil, rwp_cons, rwpK_app, aop, gpath, St.get, slotAt, sfx, eqP, segsOf, St.put, addBlk, getB, setB, delB, ld1, ldn, st1, stn, setRow, rowNeed, segAt, nsub, bin, un, eqB, isShift, sameK, arith, shiftR, getsl, selB_or, selB_and, beqb, shed, addN, Nat.beq, Seg.size, sizes, imp, needP, andN, appL, argsOf, ptrsOf, aasOf, cut, takeS, dropS, putS, partsOf, fillS, fieldOf, nthA, negIf, nilq, nilB, eqS, eqF, eqS1, andP, kin, slcS, strOk, plusA, bndHi, leN, optG, roH, roL, initT, exOk, exAll, wrAddr, Nat.reduceAdd, Nat.reduceSub, Nat.reduceMul, Int.reduceToNat, List.append_nil, List.nil_append, List.cons_append, eqT, idxT, cat, cpy, ite_int, ite_bool, ite_seg, ite_segs, ite_nil, ite_twice, Int.toNat_natCast, app, addBs, tob])); (repeat (first | (refine And.intro ?_ ?_; · (first | trivial | assumption | (intros; simp only [decide_eq_true_eq] at *; omega))))); with_reducible refine hK _ ?_; clear hK K) | (refine run_cond rfl (fun hc => ?_) (fun hc => ?_) <;> try (simp only [*, Bool.true_eq_false, Bool.false_eq_true, Bool.not_true, Bool.not_false, Bool.true_or, Bool.or_true, Bool.false_or, Bool.or_false, Bool.false_and, Bool.and_false, bne_self_eq_false, beq_self_eq_true] at hc; done)) | refine run_block ?_ | refine run_ret ?_ | refine run_nil ?_ | refine run_exit ?_ | refine blk_normal ?_ | refine blk_ret ?_ | refine blk_here ?_ | refine blk_there rfl ?_ | refine loop_exit ?_ | refine loop_ret ?_ | refine un_exit ?_ | refine un_ret ?_ | refine unE_exit ?_ | refine unE_ret ?_ | refine un_normal ?_)
  · rename_i h0
    have hlt : j < n := by simp only [decide_eq_true_eq] at h0; omega
    have e : idxF g v n 0 = j := by rw [he, show n - j = (n - (j + 1)) + 1 by omega]; simp only [idxF, hc, if_true]
    exact end_bools _ (by simp only [leC, and_self]) rfl rfl ⟨by rw [e], rfl⟩ (by simp only [leC, and_self])
  · rename_i h0
    have hlt : j < n := by simp only [decide_eq_true_eq] at h0; omega
    have hw : IntKind.i64.wrap ((j : Int) + 1) = ((j + 1 : Nat) : Int) := by rw [IntKind.wrap_i64]; omega
    refine loop_normal (n - (j + 1)) (idxSt n M g v (j + 1)) (by omega) (LeS.intro [0] idt1 ⟨trivial, trivial⟩ rfl (by simp only [idxSt, slotsLe, slotAt, Nat.beq, leV, leV1, leC, leA, nthO, hw, and_self]) ⟨bools_le M g false, trivial⟩) ⟨j + 1, rfl, hlt, ?_, rfl⟩
    rw [he, show n - j = (n - (j + 1)) + 1 by omega]
    simp only [idxF, hc, Bool.false_eq_true, if_false]
  · have e : idxF g v n 0 = -1 := by
      have : n - j = 0 := by simp only [decide_eq_false_iff_not] at hc; omega
      rw [he, this]
      rfl
    exact end_bools _ (by simp only [leC, and_self]) rfl rfl ⟨by rw [e], rfl⟩ (by simp only [leC, and_self])
theorem con40 (n M : Nat) (g : Nat → Bool) (v : Bool) (hM : n ≤ M) (hN : n ≤ 140737488355328) : Con Try.prog 40 [.c (.slice ⟨0, 0, 0, 0⟩ false n), .c (.bool v)] ⟨1, [(0, boolsB M g false)]⟩ (fun x H' => x = .c (.bool (decide (idxF g v n 0 ≥ 0))) ∧ H' = ⟨1, [(0, boolsB M g false)]⟩) := by
  (refine con_of_run mixed (fn := Try.f40) (by kernel_rfl) (by kernel_rfl) C40_ok (rs := [.tmp 4]) (by kernel_rfl) (Nat.le_of_ble_eq_true (by kernel_rfl)) ?_; unfold C40; simp only [initT, Nat.reduceAdd])
  repeat' (first | refine run_seq ?_ | (refine run_region fun K hK => ?_; (try (simp (maxSteps := 10000000) only [C40r0, C40r1, rwp_nil, rwp_cons, rwpK_app, aop, gpath, St.get, slotAt, sfx, eqP, segsOf, St.put, addBlk, getB, setB, delB, ld1, ldn, st1, stn, setRow, rowNeed, segAt, nsub, bin, un, eqB, isShift, sameK, arith, shiftR, getsl, selB_or, selB_and, beqb, shed, addN, Nat.beq, Seg.size, sizes, imp, needP, andN, appL, argsOf, ptrsOf, aasOf, cut, takeS, dropS, putS, partsOf, fillS, fieldOf, nthA, negIf, nilq, nilB, eqS, eqF, eqS1, andP, kin, slcS, strOk, plusA, bndHi, leN, optG, roH, roL, initT, exOk, exAll, wrAddr, Nat.reduceAdd, Nat.reduceSub, Nat.reduceMul, Int.reduceToNat, List.append_nil, List.nil_append, List.cons_append, eqT, idxT, cat, cpy, ite_int, ite_bool, ite_seg, ite_segs, ite_nil, ite_twice, Int.toNat_natCast, app, addBs, tob])); (repeat (first | (refine And.intro ?_ ?_; · first | trivial | assumption | omega) | ((first | (refine call_t _ (con58 n M g v hM hN) ?_; rintro v H' ⟨rfl, rfl⟩) | refine call_q _ (con58 n M g v hM hN) ?_ | refine call_g _ (imp_of (con58 n M g v hM hN)) ?_); simp (maxSteps := 10000000) only [C40r0, C40r1, rwp_nil, rwp_cons, rwpK_app, aop, gpath, St.get, slotAt, sfx, eqP, segsOf, St.put, addBlk, getB, setB, delB, ld1, ldn, st1, stn, setRow, rowNeed, segAt, nsub, bin, un, eqB, isShift, sameK, arith, shiftR, getsl, selB_or, selB_and, beqb, shed, addN, Nat.beq, Seg.size, sizes, imp, needP, andN, appL, argsOf, ptrsOf, aasOf, cut, takeS, dropS, putS, partsOf, fillS, fieldOf, nthA, negIf, nilq, nilB, eqS, eqF, eqS1, andP, kin, slcS, strOk, plusA, bndHi, leN, optG, roH, roL, initT, exOk, exAll, wrAddr, Nat.reduceAdd, Nat.reduceSub, Nat.reduceMul, Int.reduceToNat, List.append_nil, List.nil_append, List.cons_append, eqT, idxT, cat, cpy, ite_int, ite_bool, ite_seg, ite_segs, ite_nil, ite_twice, Int.toNat_natCast, app, addBs, tob]))); with_reducible refine hK _ ?_; clear hK K) | refine run_ret ?_ | refine run_nil ?_)
  exact end_bools _ (by simp only [leC, and_self]) rfl rfl ⟨rfl, rfl⟩ (by simp only [leC, and_self])
theorem con40_at (n M : Nat) (g : Nat → Bool) (v : Bool) (hM : n ≤ M) (hN : n ≤ 140737488355328) (i m : Nat) (X : List (Nat × Blk)) (w : Bool) (h0 : getB X i = some ⟨1, some M, fun i => [.c (.bool (g i))], 4, w⟩) (hlt : i < m) (hkl : keysLt X m) : Con Try.prog 40 [.c (.slice ⟨i, 0, 0, 0⟩ false n), .c (.bool v)] ⟨m, X⟩ (fun x H' => x = .c (.bool (decide (idxF g v n 0 ≥ 0))) ∧ H' = ⟨m, X⟩) :=
  ro_gen (con40 n M g v hM hN) [i] m X rfl ⟨trivial, trivial⟩ ⟨hlt, trivial⟩ hkl (by simp only [leBlks, nthO, h0]; exact ⟨bools_le M g w, trivial⟩) (by simp only [leArgs, leV, leV1, leC, leA, nthO, and_self]) rfl (fun _ => rfl) rfl rfl
theorem con56_at (N i m : Nat) (f : Nat → OpS) (hm : 1 ≤ m) (hi : i + m ≤ N) (hN : N ≤ 140737488355328) (b n : Nat) (X : List (Nat × Blk)) (w : Bool) (h0 : getB X b = some ⟨6, some N, fun i => opL (f i), 39, w⟩) (hlt : b < n) (hkl : keysLt X n) : Con Try.prog 56 [.c (.slice ⟨b, i, 0, 0⟩ false m)] ⟨n, X⟩ (fun v H' => v = .c (.bool (hidF f (f i) (m - 1) (i + 1))) ∧ H' = ⟨n, X⟩) :=
  ro_gen (con56 N i m f hm hi hN) [b] n X rfl ⟨trivial, trivial⟩ ⟨hlt, trivial⟩ hkl (by simp only [leBlks, nthO, h0]; exact ⟨ops_le N f w, trivial⟩) (by simp only [leArgs, leV, leV1, leC, leA, nthO, and_self]) rfl (fun _ => rfl) rfl rfl
end Go.Proofs.Ytmbnakinhnkabaa

namespace Go.Proofs.Ytmbnakinhnkabaa
open Go.AM
set_option maxRecDepth 100000
set_option linter.unusedSimpArgs false
set_option linter.unusedVariables false
def bxB (i m : Nat) (w : Bool) : Blk := ⟨1, none, fun _ => [.c (.slice ⟨i, 0, 0, 0⟩ false m)], 23, w⟩
theorem con55 (m j n : Nat) (X : List (Nat × Blk)) (hj : j < n) (hkl : keysLt X n) : Con Try.prog 55 [.c (.slice ⟨j, 0, 0, 0⟩ false m)] ⟨n, X⟩ (fun v H' => v = .c (.fn 92 [] [⟨n, 0, 0, 0⟩]) ∧ H' = addBs ⟨n, X⟩ [bxB j m true]) := by
  have h0 : Con Try.prog 55 [.c (.slice ⟨0, 0, 0, 0⟩ false m)] ⟨1, []⟩ (fun v H' => v = .c (.fn 92 [] [⟨1, 0, 0, 0⟩]) ∧ H' = ⟨2, [(1, bxB 0 m true)]⟩) := by
    (refine con_of_run mixed (fn := Try.f55) (by kernel_rfl) (by kernel_rfl) C55_ok (rs := [.tmp 2]) (by kernel_rfl) (Nat.le_of_ble_eq_true (by kernel_rfl)) ?_; unfold C55; simp only [initT, Nat.reduceAdd])
    repeat' (first | refine run_seq ?_ | (refine run_region fun K hK => ?_; (try (simp (maxSteps := 10000000) only [C55r0, C55r1, rwp_nil, rwp_cons, rwpK_app, aop, gpath, St.get, slotAt, sfx, eqP, segsOf, St.put, addBlk, getB, setB, delB, ld1, ldn, st1, stn, setRow, rowNeed, segAt, nsub, bin, un, eqB, isShift, sameK, arith, shiftR, getsl, selB_or, selB_and, beqb, shed, addN, Nat.beq, Seg.size, sizes, imp, needP, andN, appL, argsOf, ptrsOf, aasOf, cut, takeS, dropS, putS, partsOf, fillS, fieldOf, nthA, negIf, nilq, nilB, eqS, eqF, eqS1, andP, kin, slcS, strOk, plusA, bndHi, leN, optG, roH, roL, initT, exOk, exAll, wrAddr, Nat.reduceAdd, Nat.reduceSub, Nat.reduceMul, Int.reduceToNat, List.append_nil, List.nil_append, List.cons_append, eqT, idxT, cat, cpy, ite_int, ite_bool, ite_seg, ite_segs, ite_nil, ite_twice, Int.toNat_natCast, app, addBs, tob])); (repeat (first | (refine And.intro ?_ ?_; · first | trivial | assumption | omega))); with_reducible refine hK _ ?_; clear hK K) | refine run_ret ?_ | refine run_nil ?_)
    refine end_of ⟨[⟨2, [], .c (.fn 92 [] [⟨1, 0, 0, 0⟩])⟩], ⟨2, [(1, bxB 0 m true)]⟩⟩ (LeS.intro [0, 1] (fun i h => by match i, h with | 0, _ => rfl) (by simp only [diff, notIn, Nat.beq, and_self]) rfl ?_ ?_) ⟨rfl, rfl⟩
    · simp only [slotsLe, slotAt, Nat.beq, leV, leV1, leC, leAL, leA, nthO, and_self]
    · simp only [leBlks, nthO, getB, Nat.beq]
      exact ⟨⟨rfl, rfl, id, Nat.le_refl _, fun _ _ => by simp only [bxB, leSegs, leSeg, leC, leA, nthO, and_self]⟩, trivial⟩
  refine (h0.frame (H := ⟨n, X⟩) [j] rfl ⟨trivial, trivial⟩ ⟨hj, trivial⟩ hkl trivial (by simp only [leArgs, leV, leV1, leC, leA, nthO, and_self])).weaken ?_
  rintro v H' ⟨v0, H0', ⟨rfl, rfl⟩, rfl, rfl⟩
  refine ⟨rfl, ?_⟩
  simp only [framed, dropB_none (l := [j]) (H0 := []) (fun _ => rfl)]
  rfl
theorem ops_iter (n : Nat) (f : Nat → OpS) (hn : n ≤ 140737488355328) (i j nx : Nat) (hij : Nat.beq i j = false) : IterC Try.prog 92 [⟨i, 0, 0, 0⟩] ⟨nx, [(i, bxB j n false), (j, opsB n f)]⟩ n (fun t => [.c (.int .i64 ((n : Int) - 1 - t)), .agg (opL (f (n - 1 - t)))]) := by
  have hji : getB [(i, bxB j n false), (j, opsB n f)] j = some (opsB n f) := by simp only [getB, hij, Nat.beq_refl]
  refine iter_back (fn := Try.f92) (by kernel_rfl) (by kernel_rfl) rfl (by kernel_rfl) (by kernel_rfl) (k := 6) (el := .ldn 6 (.t 15)) (by kernel_rfl) (by kernel_rfl) (by kernel_rfl) (by kernel_rfl) (j := j) (b := 0) (need := none) hn (fun nx => ?_) trivial (fun nx => ?_) (E := fun m => .agg (opL (f m))) (fun l nx m hm hl => ⟨some (m < n), hm, ?_⟩)
  · simp only [ld1, getB, Nat.beq_refl, bxB, rowNeed, segAt, Nat.beq]
  · simp only [strOk, hji]; rfl
  · have ha : addN 0 m = m := rfl
    simp only [aop, St.get, hl, sfx, eqP, ldn, hji]
    simp only [opsB, rowNeed, ha, Nat.beq, cut, dropS, takeS, opL, Seg.size, nsub]
def upd (g : Nat → Bool) (k : Nat) (v : Bool) : Nat → Bool := fun j => if j = k then v else g j
def hidAt (f : Nat → OpS) (n k : Nat) : Bool := hidF f (f k) (n - k - 1) (k + 1)
def mark1 (f : Nat → OpS) (n k : Nat) (g : Nat → Bool) : Nat → Bool :=
  upd g k (if ((f k).kind == 14) = true then ((k : Int) == 0) || !hidAt f n k else if (((f k).kind == 3) || ((f k).kind == 5) || ((f k).kind == 7)) = true then !hidAt f n k else (g k || !defS (f k).kind) || leaveS (f k).kind)
def markU (o : OpS) (g : Nat → Bool) : Nat → Nat → Bool
  | 0 => g
  | j + 1 => upd (markU o g j) (useF o j).toNat true
def markStep (f : Nat → OpS) (n k : Nat) (g : Nat → Bool) : Nat → Bool :=
  if mark1 f n k g k = true then markU (f k) (mark1 f n k g) (usesS (f k).kind) else mark1 f n k g
def markN (f : Nat → OpS) (n : Nat) (g0 : Nat → Bool) : Nat → Nat → Bool
  | 0 => fun i => if i < n then false else g0 i
  | j + 1 => markStep f n (n - 1 - j) (markN f n g0 j)
def mkH (f : Nat → OpS) (n M : Nat) (g : Nat → Bool) : List (Nat × Blk) := [(4, bxB 0 n true), (3, ⟨1, none, fun _ => [.c (.slice ⟨1, 0, 0, 0⟩ false n)], 29, true⟩), (2, bxB 0 n true), (1, boolsB M g true), (0, opsB n f)]
def mkSt (f : Nat → OpS) (n M k : Nat) (g : Nat → Bool) : St := ⟨[⟨5, [], .c (.ptr ⟨5, 0, 0, 0⟩)⟩, ⟨4, [], .c (.int .i64 k)⟩, ⟨3, [], .c (.ptr ⟨3, 0, 0, 0⟩)⟩, ⟨2, [], .c (.ptr ⟨2, 0, 0, 0⟩)⟩], ⟨6, (5, opB' (f k)) :: mkH f n M g⟩⟩
def mkEnd (f : Nat → OpS) (n M : Nat) (g : Nat → Bool) : St := ⟨[], ⟨5, mkH f n M g⟩⟩
theorem idt5 {l : List Nat} : ∀ i, i < 5 → nthO (0 :: 1 :: 2 :: 3 :: 4 :: l) i = some i := by
  intro i h; match i, h with
  | 0, _ => rfl
  | 1, _ => rfl
  | 2, _ => rfl
  | 3, _ => rfl
  | 4, _ => rfl
theorem bx_le {l : List Nat} (i m : Nat) (h : nthO l i = some i) : leB l ⟨1, none, fun _ => [.c (.slice ⟨i, 0, 0, 0⟩ false m)], 23, true⟩ (bxB i m true) := ⟨rfl, rfl, id, Nat.le_refl _, fun _ _ => by simp only [bxB, leSegs, leSeg, leC, leA, h, and_self]⟩
theorem bx2_le {l : List Nat} (m : Nat) (h : nthO l 1 = some 1) : leB l ⟨1, none, fun _ => [.c (.slice ⟨1, 0, 0, 0⟩ false m)], 29, true⟩ ⟨1, none, fun _ => [.c (.slice ⟨1, 0, 0, 0⟩ false m)], 29, true⟩ := ⟨rfl, rfl, id, Nat.le_refl _, fun _ _ => by simp only [leSegs, leSeg, leC, leA, h, and_self]⟩
theorem boolsw_le {l : List Nat} (n : Nat) (g g' : Nat → Bool) (h : ∀ i, i < n → g i = g' i) : leB l ⟨1, some n, fun i => [.c (.bool (g i))], 4, true⟩ (boolsB n g' true) := ⟨rfl, rfl, id, Nat.le_refl _, fun i hi => ⟨h i hi, trivial⟩⟩
theorem uses_le {l : List Nat} {o : OpS} {u : Nat} (h : usesS o.kind = u) : leB l (usesBk o (usesS o.kind)) (usesBk o u) := by
  subst h
  exact ⟨rfl, rfl, id, Nat.le_refl _, fun _ _ => ⟨⟨rfl, rfl⟩, trivial⟩⟩
def mkTail : ACode := .seq (.region C38r13)
     (.cond (.t 60)
      (.seq (.region C38r14)
      (.block 3
       (.loop
        (.seq (.region C38r15)
        (.seq (.cond (.t 65)
         (.skip)
         (.exit 3))
        (.seq (.block 4
         (.seq (.region C38r16)
         (.region C38r17)))
        (.region C38r18)))))))
      (.skip))
def mkLp (f : Nat → OpS) (n M k u : Nat) (g : Nat → Bool) (j : Nat) : St := ⟨[⟨64, [], .c (.int .i64 j)⟩, ⟨63, [], .c (.int .i64 u)⟩, ⟨62, [], .c (.slice ⟨5, 0, 0, 0⟩ false u)⟩, ⟨3, [], .c (.ptr ⟨3, 0, 0, 0⟩)⟩], ⟨6, (5, usesBk (f k) u) :: mkH f n M g⟩⟩
theorem mk_tail (f : Nat → OpS) (n M k : Nat) (g : Nat → Bool) (hM : n ≤ M) (hk : k < n) (hn : n ≤ 140737488355328) (hU : ∀ i, i < usesS (f k).kind → 0 ≤ useF (f k) i ∧ useF (f k) i < n) {Q : AEx → St → Prop}
    (h : ∀ s, LeS 5 s (mkEnd f n M (if g k = true then markU (f k) g (usesS (f k).kind) else g)) → Q .normal s) : runA (Con Try.prog) (LeS 5) [mkTail] (mkSt f n M k g) Q := by
  unfold mkTail mkSt mkH
  repeat' (first | refine run_seq ?_ | refine run_skip ?_ | (refine run_region fun K hK => ?_; (try (simp (maxSteps := 10000000) only [opL, opB', bxB, opsB, boolsB, C38r0, C38r1, C38r2, C38r3, C38r4, C38r5, C38r6, C38r7, C38r8, C38r9, C38r10, C38r11, C38r12, C38r13, C38r15, C38r16, C38r17, C38r18, rwp_nil, rwp_cons, rwpK_app, aop, gpath, St.get, slotAt, sfx, eqP, segsOf, St.put, addBlk, getB, setB, delB, ld1, ldn, st1, stn, setRow, rowNeed, segAt, nsub, bin, un, eqB, isShift, sameK, arith, shiftR, getsl, selB_or, selB_and, beqb, shed, addN, Nat.beq, Seg.size, sizes, imp, needP, andN, appL, argsOf, ptrsOf, aasOf, cut, takeS, dropS, putS, partsOf, fillS, fieldOf, nthA, negIf, nilq, nilB, eqS, eqF, eqS1, andP, kin, slcS, strOk, plusA, bndHi, leN, optG, roH, roL, initT, exOk, exAll, wrAddr, Nat.reduceAdd, Nat.reduceSub, Nat.reduceMul, Int.reduceToNat, List.append_nil, List.nil_append, List.cons_append, eqT, idxT, cat, cpy, ite_int, ite_bool, ite_seg, ite_segs, ite_nil, ite_twice, Int.toNat_natCast, app, addBs, tob])); (repeat (first | (refine And.intro ?_ ?_; · (first | trivial | assumption | omega)))); with_reducible refine hK _ ?_; clear hK K) | (refine run_cond rfl (fun hc => ?_) (fun hc => ?_) <;> try (simp only [*, Bool.true_eq_false, Bool.false_eq_true, Bool.not_true, Bool.not_false, Bool.true_or, Bool.or_true, Bool.false_or, Bool.or_false, Bool.false_and, Bool.and_false, bne_self_eq_false, beq_self_eq_true] at hc; done)) | refine run_block ?_ | refine run_ret ?_ | refine run_nil ?_ | refine run_exit ?_ | refine blk_normal ?_ | refine blk_ret ?_ | refine blk_here ?_ | refine blk_there rfl ?_ | refine loop_exit ?_ | refine loop_ret ?_ | refine un_exit ?_ | refine un_ret ?_ | refine unE_exit ?_ | refine unE_ret ?_ | refine un_normal ?_)
  · obtain ⟨u, hu⟩ : ∃ u, usesS (f k).kind = u := ⟨_, rfl⟩
    rw [hc, if_pos rfl] at h
    rw [hu] at h hU
    (refine run_regionL fun K hK => ?_; (try (simp (maxSteps := 10000000) only [opL, C38r0, C38r1, C38r2, C38r3, C38r4, C38r5, C38r6, C38r7, C38r8, C38r9, C38r10, C38r11, C38r12, C38r13, C38r14, C38r15, C38r16, C38r17, C38r18, rwp_nil, rwp_cons, rwpK_app, aop, gpath, St.get, slotAt, sfx, eqP, segsOf, St.put, addBlk, getB, setB, delB, ld1, ldn, st1, stn, setRow, rowNeed, segAt, nsub, bin, un, eqB, isShift, sameK, arith, shiftR, getsl, selB_or, selB_and, beqb, shed, addN, Nat.beq, Seg.size, sizes, imp, needP, andN, appL, argsOf, ptrsOf, aasOf, cut, takeS, dropS, putS, partsOf, fillS, fieldOf, nthA, negIf, nilq, nilB, eqS, eqF, eqS1, andP, kin, slcS, strOk, plusA, bndHi, leN, optG, roH, roL, initT, exOk, exAll, wrAddr, Nat.reduceAdd, Nat.reduceSub, Nat.reduceMul, Int.reduceToNat, List.append_nil, List.nil_append, List.cons_append, eqT, idxT, cat, cpy, ite_int, ite_bool, ite_seg, ite_segs, ite_nil, ite_twice, Int.toNat_natCast, app, addBs, tob])); (repeat (first | (refine And.intro ?_ ?_; · trivial) | ((first | (refine call_t _ (con21 (f k) _ _ (by simp [keysLt])) ?_; rintro v H' ⟨rfl, rfl⟩) | (refine call_q _ (con21 (f k) _ _ (by simp [keysLt])) ?_) | (refine call_g _ (imp_of (con21 (f k) _ _ (by simp [keysLt]))) ?_)); (try simp (maxSteps := 10000000) only [opL, C38r0, C38r1, C38r2, C38r3, C38r4, C38r5, C38r6, C38r7, C38r8, C38r9, C38r10, C38r11, C38r12, C38r13, C38r14, C38r15, C38r16, C38r17, C38r18, rwp_nil, rwp_cons, rwpK_app, aop, gpath, St.get, slotAt, sfx, eqP, segsOf, St.put, addBlk, getB, setB, delB, ld1, ldn, st1, stn, setRow, rowNeed, segAt, nsub, bin, un, eqB, isShift, sameK, arith, shiftR, getsl, selB_or, selB_and, beqb, shed, addN, Nat.beq, Seg.size, sizes, imp, needP, andN, appL, argsOf, ptrsOf, aasOf, cut, takeS, dropS, putS, partsOf, fillS, fieldOf, nthA, negIf, nilq, nilB, eqS, eqF, eqS1, andP, kin, slcS, strOk, plusA, bndHi, leN, optG, roH, roL, initT, exOk, exAll, wrAddr, Nat.reduceAdd, Nat.reduceSub, Nat.reduceMul, Int.reduceToNat, List.append_nil, List.nil_append, List.cons_append, eqT, idxT, cat, cpy, ite_int, ite_bool, ite_seg, ite_segs, ite_nil, ite_twice, Int.toNat_natCast, app, addBs, tob])))); refine hK _ (mkLp f n M k u g 0) (LeS.intro [0, 1, 2, 3, 4, 6] idt5 (by simp only [diff, notIn, Nat.beq, and_self]) rfl (by simp only [mkLp, slotsLe, slotAt, Nat.beq, leV, leV1, leC, leA, nthO, Int.natCast_zero, Int.ofNat_zero, hu, and_self]) ⟨uses_le hu, bx_le 0 n rfl, bx2_le n rfl, bx_le 0 n rfl, boolsw_le M _ _ (fun _ _ => rfl), ops_le n f false, trivial⟩) ?_; clear hK K)
    refine run_block ?_
    have hu2 : u ≤ 2 := by rw [← hu]; unfold usesS; (repeat' split) <;> omega
    refine run_loop (fun m s => ∃ j, m = u - j ∧ j ≤ u ∧ s = mkLp f n M k u (markU (f k) g j) j) u ⟨0, rfl, Nat.zero_le _, rfl⟩ ?_
    rintro m s ⟨j, rfl, hj, rfl⟩
    unfold mkLp mkH
    repeat' (first | refine run_seq ?_ | refine run_skip ?_ | (refine run_region fun K hK => ?_; (try (simp (maxSteps := 10000000) only [opL, usesBk, bxB, opsB, boolsB, C38r0, C38r1, C38r2, C38r3, C38r4, C38r5, C38r6, C38r7, C38r8, C38r9, C38r10, C38r11, C38r12, C38r13, C38r14, C38r15, C38r16, C38r17, C38r18, rwp_nil, rwp_cons, rwpK_app, aop, gpath, St.get, slotAt, sfx, eqP, segsOf, St.put, addBlk, getB, setB, delB, ld1, ldn, st1, stn, setRow, rowNeed, segAt, nsub, bin, un, eqB, isShift, sameK, arith, shiftR, getsl, selB_or, selB_and, beqb, shed, addN, Nat.beq, Seg.size, sizes, imp, needP, andN, appL, argsOf, ptrsOf, aasOf, cut, takeS, dropS, putS, partsOf, fillS, fieldOf, nthA, negIf, nilq, nilB, eqS, eqF, eqS1, andP, kin, slcS, strOk, plusA, bndHi, leN, optG, roH, roL, initT, exOk, exAll, wrAddr, Nat.reduceAdd, Nat.reduceSub, Nat.reduceMul, Int.reduceToNat, List.append_nil, List.nil_append, List.cons_append, eqT, idxT, cat, cpy, ite_int, ite_bool, ite_seg, ite_segs, ite_nil, ite_twice, Int.toNat_natCast, app, addBs, tob])); (repeat (first | (refine And.intro ?_ ?_; · (first | trivial | assumption | (simp only [decide_eq_true_eq] at *; omega) | (simp only [decide_eq_true_eq] at *; have := hU j (by omega); omega))))); with_reducible refine hK _ ?_; clear hK K) | (refine run_cond rfl (fun hc => ?_) (fun hc => ?_) <;> try (simp only [*, Bool.true_eq_false, Bool.false_eq_true, Bool.not_true, Bool.not_false, Bool.true_or, Bool.or_true, Bool.false_or, Bool.or_false, Bool.false_and, Bool.and_false, bne_self_eq_false, beq_self_eq_true] at hc; done)) | refine run_block ?_ | refine run_ret ?_ | refine run_nil ?_ | refine run_exit ?_ | refine blk_normal ?_ | refine blk_ret ?_ | refine blk_here ?_ | refine blk_there rfl ?_ | refine loop_exit ?_ | refine loop_ret ?_ | refine un_exit ?_ | refine un_ret ?_ | refine unE_exit ?_ | refine unE_ret ?_ | refine un_normal ?_)
    · have hlt : j < u := by simp only [decide_eq_true_eq] at *; omega
      have hw : IntKind.i64.wrap ((j : Int) + 1) = ((j + 1 : Nat) : Int) := by rw [IntKind.wrap_i64]; omega
      refine loop_normal (u - (j + 1)) (mkLp f n M k u (markU (f k) g (j + 1)) (j + 1)) (by omega) (LeS.intro [0, 1, 2, 3, 4, 5] idt5 (by simp only [diff, notIn, Nat.beq, and_self]) rfl (by simp only [mkLp, slotsLe, slotAt, Nat.beq, leV, leV1, leC, leA, nthO, hw, and_self]) ⟨⟨rfl, rfl, id, Nat.le_refl _, fun _ _ => ⟨⟨rfl, rfl⟩, trivial⟩⟩, bx_le 0 n rfl, bx2_le n rfl, bx_le 0 n rfl, boolsw_le M _ _ (fun _ _ => rfl), ops_le n f false, trivial⟩) ⟨j + 1, rfl, hlt, rfl⟩
    · have e : j = u := by simp only [decide_eq_false_iff_not] at *; omega
      subst e
      exact h _ (LeS.intro [0, 1, 2, 3, 4] idt5 (by simp only [diff, notIn, Nat.beq, and_self]) rfl trivial ⟨bx_le 0 n rfl, bx2_le n rfl, bx_le 0 n rfl, boolsw_le M _ _ (fun _ _ => rfl), ops_le n f false, trivial⟩)
  · rw [hc, if_neg (by decide)] at h
    exact h _ (LeS.intro [0, 1, 2, 3, 4] idt5 (by simp only [diff, notIn, Nat.beq, and_self]) rfl trivial ⟨bx_le 0 n rfl, bx2_le n rfl, bx_le 0 n rfl, boolsw_le M _ _ (fun _ _ => rfl), ops_le n f false, trivial⟩)
def subL (H : Heap) (n : Nat) : List (Nat × Blk) → Prop
  | [] => True
  | (i, B) :: r => (i < n ∧ B.wr = false ∧ ∃ C, getB H.blks i = some C ∧ B.str = C.str ∧ B.sz = C.sz ∧ B.elem = C.elem ∧ ∀ j, B.row j = C.row j) ∧ subL H n r
theorem subH_of {H : Heap} {n nx : Nat} : ∀ {X : List (Nat × Blk)}, subL H n X → subH ⟨nx, X⟩ H n
  | [], _, i, B, hB => by simp [getB] at hB
  | (j, C) :: r, h, i, B, hB => by
    by_cases hi : i = j
    · subst hi
      have e : getB ((i, C) :: r) i = some C := getB_cons_self _ _ _
      have hB' : getB ((i, C) :: r) i = some B := hB
      rw [e] at hB'
      cases hB'
      exact h.1
    · have hB' : getB ((j, C) :: r) i = some B := hB
      rw [getB_cons_ne hi] at hB'
      exact subH_of (nx := nx) h.2 i B hB'
def mkSw : ACode := .seq (.region C38r5)
     (.block 2
      (.seq (.region C38r6)
      (.cond (.t 31)
       (.region C38r7)
       (.seq (.seq (.region C38r8)
       (.cond (.t 45)
        (.skip)
        (.seq (.region C38r9)
        (.cond (.t 45)
         (.skip)
         (.region C38r10)))))
       (.cond (.t 45)
        (.region C38r11)
        (.region C38r12))))))
set_option maxHeartbeats 8000000 in
theorem mk_sw (f : Nat → OpS) (n M k : Nat) (g : Nat → Bool) (hM : n ≤ M) (hk : k < n) (hn : n ≤ 140737488355328) {Q : AEx → St → Prop}
    (h : runA (Con Try.prog) (LeS 5) [mkTail] (mkSt f n M k (mark1 f n k g)) Q) : runA (Con Try.prog) (LeS 5) [.seq mkSw mkTail] (mkSt f n M k g) Q := by
  refine run_seq ?_
  unfold mkSw mkSt mkH
  repeat' (first | refine run_seq ?_ | refine run_skip ?_ | (refine run_region fun K hK => ?_; (try (simp (maxSteps := 10000000) only [opL, opB', bxB, opsB, boolsB, C38r0, C38r1, C38r2, C38r3, C38r4, C38r5, C38r6, C38r8, C38r9, C38r10, C38r13, C38r14, C38r15, C38r16, C38r17, C38r18, rwp_nil, rwp_cons, rwpK_app, aop, gpath, St.get, slotAt, sfx, eqP, segsOf, St.put, addBlk, getB, setB, delB, ld1, ldn, st1, stn, setRow, rowNeed, segAt, nsub, bin, un, eqB, isShift, sameK, arith, shiftR, getsl, selB_or, selB_and, beqb, shed, addN, Nat.beq, Seg.size, sizes, imp, needP, andN, appL, argsOf, ptrsOf, aasOf, cut, takeS, dropS, putS, partsOf, fillS, fieldOf, nthA, negIf, nilq, nilB, eqS, eqF, eqS1, andP, kin, slcS, strOk, plusA, bndHi, leN, optG, roH, roL, initT, exOk, exAll, wrAddr, Nat.reduceAdd, Nat.reduceSub, Nat.reduceMul, Int.reduceToNat, List.append_nil, List.nil_append, List.cons_append, eqT, idxT, cat, cpy, ite_int, ite_bool, ite_seg, ite_segs, ite_nil, ite_twice, Int.toNat_natCast, app, addBs, tob])); (repeat (first | (refine And.intro ?_ ?_; · (first | trivial | assumption | omega)))); with_reducible refine hK _ ?_; clear hK K) | (refine run_cond rfl (fun hc => ?_) (fun hc => ?_) <;> try (simp only [*, Bool.true_eq_false, Bool.false_eq_true, Bool.not_true, Bool.not_false, Bool.true_or, Bool.or_true, Bool.false_or, Bool.or_false, Bool.false_and, Bool.and_false, bne_self_eq_false, beq_self_eq_true] at hc; done)) | refine run_block ?_ | refine run_ret ?_ | refine run_nil ?_ | refine run_exit ?_ | refine blk_normal ?_ | refine blk_ret ?_ | refine blk_here ?_ | refine blk_there rfl ?_ | refine loop_exit ?_ | refine loop_ret ?_ | refine un_exit ?_ | refine un_ret ?_ | refine unE_exit ?_ | refine unE_ret ?_ | refine un_normal ?_)
  · (refine run_regionL fun K hK => ?_; (try (simp (maxSteps := 10000000) only [opL, opB', bxB, opsB, boolsB, C38r0, C38r1, C38r2, C38r3, C38r4, C38r5, C38r6, C38r7, C38r8, C38r9, C38r10, C38r11, C38r12, C38r13, C38r14, C38r15, C38r16, C38r17, C38r18, rwp_nil, rwp_cons, rwpK_app, aop, gpath, St.get, slotAt, sfx, eqP, segsOf, St.put, addBlk, getB, setB, delB, ld1, ldn, st1, stn, setRow, rowNeed, segAt, nsub, bin, un, eqB, isShift, sameK, arith, shiftR, getsl, selB_or, selB_and, beqb, shed, addN, Nat.beq, Seg.size, sizes, imp, needP, andN, appL, argsOf, ptrsOf, aasOf, cut, takeS, dropS, putS, partsOf, fillS, fieldOf, nthA, negIf, nilq, nilB, eqS, eqF, eqS1, andP, kin, slcS, strOk, plusA, bndHi, leN, optG, roH, roL, initT, exOk, exAll, wrAddr, Nat.reduceAdd, Nat.reduceSub, Nat.reduceMul, Int.reduceToNat, List.append_nil, List.nil_append, List.cons_append, eqT, idxT, cat, cpy, ite_int, ite_bool, ite_seg, ite_segs, ite_nil, ite_twice, Int.toNat_natCast, app, addBs, tob])); (repeat (first | (refine And.intro ?_ ?_; · (first | trivial | (intros; omega))) | ((first | (refine call_t _ (con56_at n k (n - k) f (by omega) (by omega) hn _ _ _ _ rfl (Nat.le_of_ble_eq_true rfl) (by simp [roL, keysLt])) ?_; rintro v H' ⟨rfl, rfl⟩) | (refine call_q _ (con56_at n k (n - k) f (by omega) (by omega) hn _ _ _ _ rfl (Nat.le_of_ble_eq_true rfl) (by simp [roL, keysLt])) ?_) | (refine call_g _ (imp_of (con56_at n k (n - k) f (by omega) (by omega) hn _ _ _ _ rfl (Nat.le_of_ble_eq_true rfl) (by simp [roL, keysLt]))) ?_)); (try simp (maxSteps := 10000000) only [opL, opB', bxB, opsB, boolsB, C38r0, C38r1, C38r2, C38r3, C38r4, C38r5, C38r6, C38r7, C38r8, C38r9, C38r10, C38r11, C38r12, C38r13, C38r14, C38r15, C38r16, C38r17, C38r18, rwp_nil, rwp_cons, rwpK_app, aop, gpath, St.get, slotAt, sfx, eqP, segsOf, St.put, addBlk, getB, setB, delB, ld1, ldn, st1, stn, setRow, rowNeed, segAt, nsub, bin, un, eqB, isShift, sameK, arith, shiftR, getsl, selB_or, selB_and, beqb, shed, addN, Nat.beq, Seg.size, sizes, imp, needP, andN, appL, argsOf, ptrsOf, aasOf, cut, takeS, dropS, putS, partsOf, fillS, fieldOf, nthA, negIf, nilq, nilB, eqS, eqF, eqS1, andP, kin, slcS, strOk, plusA, bndHi, leN, optG, roH, roL, initT, exOk, exAll, wrAddr, Nat.reduceAdd, Nat.reduceSub, Nat.reduceMul, Int.reduceToNat, List.append_nil, List.nil_append, List.cons_append, eqT, idxT, cat, cpy, ite_int, ite_bool, ite_seg, ite_segs, ite_nil, ite_twice, Int.toNat_natCast, app, addBs, tob])))); refine hK _ (mkSt f n M k (mark1 f n k g)) (LeS.intro [0, 1, 2, 3, 4, 5] idt5 (by simp only [diff, notIn, Nat.beq, and_self]) rfl (by simp only [mkSt, slotsLe, slotAt, Nat.beq, leV, leV1, leC, leA, nthO, and_self]) ⟨opk_le (f k), bx_le 0 n rfl, bx2_le n rfl, bx_le 0 n rfl, boolsw_le M _ _ (fun i hi => by simp only [mark1, upd, hidAt, *, if_true, Bool.false_eq_true, if_false, Bool.true_or, Bool.or_true, Bool.or_false, Bool.false_or]), ops_le n f false, trivial⟩) ?_; clear hK K)
    exact run_nil (blk_normal h)
  iterate 3
    · (refine run_regionL fun K hK => ?_; (try (simp (maxSteps := 10000000) only [opL, opB', bxB, opsB, boolsB, C38r0, C38r1, C38r2, C38r3, C38r4, C38r5, C38r6, C38r7, C38r8, C38r9, C38r10, C38r11, C38r12, C38r13, C38r14, C38r15, C38r16, C38r17, C38r18, rwp_nil, rwp_cons, rwpK_app, aop, gpath, St.get, slotAt, sfx, eqP, segsOf, St.put, addBlk, getB, setB, delB, ld1, ldn, st1, stn, setRow, rowNeed, segAt, nsub, bin, un, eqB, isShift, sameK, arith, shiftR, getsl, selB_or, selB_and, beqb, shed, addN, Nat.beq, Seg.size, sizes, imp, needP, andN, appL, argsOf, ptrsOf, aasOf, cut, takeS, dropS, putS, partsOf, fillS, fieldOf, nthA, negIf, nilq, nilB, eqS, eqF, eqS1, andP, kin, slcS, strOk, plusA, bndHi, leN, optG, roH, roL, initT, exOk, exAll, wrAddr, Nat.reduceAdd, Nat.reduceSub, Nat.reduceMul, Int.reduceToNat, List.append_nil, List.nil_append, List.cons_append, eqT, idxT, cat, cpy, ite_int, ite_bool, ite_seg, ite_segs, ite_nil, ite_twice, Int.toNat_natCast, app, addBs, tob])); (repeat (first | (refine And.intro ?_ ?_; · (first | trivial | omega | (intros; omega))) | ((first | (refine call_t _ (con56_at n k (n - k) f (by omega) (by omega) hn _ _ _ _ rfl (Nat.le_of_ble_eq_true rfl) (by simp [roL, keysLt])) ?_; rintro v H' ⟨rfl, rfl⟩) | (refine call_q _ (con56_at n k (n - k) f (by omega) (by omega) hn _ _ _ _ rfl (Nat.le_of_ble_eq_true rfl) (by simp [roL, keysLt])) ?_) | (refine call_g _ (imp_of (con56_at n k (n - k) f (by omega) (by omega) hn _ _ _ _ rfl (Nat.le_of_ble_eq_true rfl) (by simp [roL, keysLt]))) ?_)); (try simp (maxSteps := 10000000) only [opL, opB', bxB, opsB, boolsB, C38r0, C38r1, C38r2, C38r3, C38r4, C38r5, C38r6, C38r7, C38r8, C38r9, C38r10, C38r11, C38r12, C38r13, C38r14, C38r15, C38r16, C38r17, C38r18, rwp_nil, rwp_cons, rwpK_app, aop, gpath, St.get, slotAt, sfx, eqP, segsOf, St.put, addBlk, getB, setB, delB, ld1, ldn, st1, stn, setRow, rowNeed, segAt, nsub, bin, un, eqB, isShift, sameK, arith, shiftR, getsl, selB_or, selB_and, beqb, shed, addN, Nat.beq, Seg.size, sizes, imp, needP, andN, appL, argsOf, ptrsOf, aasOf, cut, takeS, dropS, putS, partsOf, fillS, fieldOf, nthA, negIf, nilq, nilB, eqS, eqF, eqS1, andP, kin, slcS, strOk, plusA, bndHi, leN, optG, roH, roL, initT, exOk, exAll, wrAddr, Nat.reduceAdd, Nat.reduceSub, Nat.reduceMul, Int.reduceToNat, List.append_nil, List.nil_append, List.cons_append, eqT, idxT, cat, cpy, ite_int, ite_bool, ite_seg, ite_segs, ite_nil, ite_twice, Int.toNat_natCast, app, addBs, tob])))); refine hK _ (mkSt f n M k (mark1 f n k g)) (LeS.intro [0, 1, 2, 3, 4, 5] idt5 (by simp only [diff, notIn, Nat.beq, and_self]) rfl (by simp only [mkSt, slotsLe, slotAt, Nat.beq, leV, leV1, leC, leA, nthO, and_self]) ⟨opk_le (f k), bx_le 0 n rfl, bx2_le n rfl, bx_le 0 n rfl, boolsw_le M _ _ (fun i hi => by simp only [mark1, upd, hidAt, *, if_true, Bool.false_eq_true, if_false, Bool.true_or, Bool.or_true, Bool.or_false, Bool.false_or]), ops_le n f false, trivial⟩) ?_; clear hK K)
      exact run_nil (blk_normal h)
  · (refine run_regionL fun K hK => ?_; (try (simp (maxSteps := 10000000) only [opL, opB', bxB, opsB, boolsB, C38r0, C38r1, C38r2, C38r3, C38r4, C38r5, C38r6, C38r7, C38r8, C38r9, C38r10, C38r11, C38r12, C38r13, C38r14, C38r15, C38r16, C38r17, C38r18, rwp_nil, rwp_cons, rwpK_app, aop, gpath, St.get, slotAt, sfx, eqP, segsOf, St.put, addBlk, getB, setB, delB, ld1, ldn, st1, stn, setRow, rowNeed, segAt, nsub, bin, un, eqB, isShift, sameK, arith, shiftR, getsl, selB_or, selB_and, beqb, shed, addN, Nat.beq, Seg.size, sizes, imp, needP, andN, appL, argsOf, ptrsOf, aasOf, cut, takeS, dropS, putS, partsOf, fillS, fieldOf, nthA, negIf, nilq, nilB, eqS, eqF, eqS1, andP, kin, slcS, strOk, plusA, bndHi, leN, optG, roH, roL, initT, exOk, exAll, wrAddr, Nat.reduceAdd, Nat.reduceSub, Nat.reduceMul, Int.reduceToNat, List.append_nil, List.nil_append, List.cons_append, eqT, idxT, cat, cpy, ite_int, ite_bool, ite_seg, ite_segs, ite_nil, ite_twice, Int.toNat_natCast, app, addBs, tob])); (repeat (first | (refine And.intro ?_ ?_; · (first | trivial | omega | (intros; first | trivial | omega))) | ((first | (refine call_t _ (con57 (f k) _) ?_; rintro v H' ⟨rfl, rfl⟩) | (refine call_q _ (con57 (f k) _) ?_) | (refine call_g _ (imp_of (con57 (f k) _)) ?_) | (refine call_t _ (con22 (f k) _) ?_; rintro v H' ⟨rfl, rfl⟩) | (refine call_q _ (con22 (f k) _) ?_) | (refine call_g _ (imp_of (con22 (f k) _)) ?_)); (try simp (maxSteps := 10000000) only [opL, opB', bxB, opsB, boolsB, C38r0, C38r1, C38r2, C38r3, C38r4, C38r5, C38r6, C38r7, C38r8, C38r9, C38r10, C38r11, C38r12, C38r13, C38r14, C38r15, C38r16, C38r17, C38r18, rwp_nil, rwp_cons, rwpK_app, aop, gpath, St.get, slotAt, sfx, eqP, segsOf, St.put, addBlk, getB, setB, delB, ld1, ldn, st1, stn, setRow, rowNeed, segAt, nsub, bin, un, eqB, isShift, sameK, arith, shiftR, getsl, selB_or, selB_and, beqb, shed, addN, Nat.beq, Seg.size, sizes, imp, needP, andN, appL, argsOf, ptrsOf, aasOf, cut, takeS, dropS, putS, partsOf, fillS, fieldOf, nthA, negIf, nilq, nilB, eqS, eqF, eqS1, andP, kin, slcS, strOk, plusA, bndHi, leN, optG, roH, roL, initT, exOk, exAll, wrAddr, Nat.reduceAdd, Nat.reduceSub, Nat.reduceMul, Int.reduceToNat, List.append_nil, List.nil_append, List.cons_append, eqT, idxT, cat, cpy, ite_int, ite_bool, ite_seg, ite_segs, ite_nil, ite_twice, Int.toNat_natCast, app, addBs, tob])))); refine hK _ (mkSt f n M k (mark1 f n k g)) (LeS.intro [0, 1, 2, 3, 4, 5] idt5 (by simp only [diff, notIn, Nat.beq, and_self]) rfl (by simp only [mkSt, slotsLe, slotAt, Nat.beq, leV, leV1, leC, leA, nthO, and_self]) ⟨opk_le (f k), bx_le 0 n rfl, bx2_le n rfl, bx_le 0 n rfl, boolsw_le M _ _ (fun i hi => by simp only [mark1, upd, hidAt, *, if_true, Bool.false_eq_true, if_false, Bool.true_or, Bool.or_true, Bool.or_false, Bool.false_or]), ops_le n f false, trivial⟩) ?_; clear hK K)
    exact run_nil (blk_normal h)
theorem con38 (f : Nat → OpS) (n M : Nat) (g0 : Nat → Bool) (hM : n ≤ M) (hn : n ≤ 140737488355328) (hU : ∀ k, k < n → ∀ i, i < usesS (f k).kind → 0 ≤ useF (f k) i ∧ useF (f k) i < n) : Con Try.prog 38 [.c (.slice ⟨0, 0, 0, 0⟩ false n), .c (.slice ⟨1, 0, 0, 0⟩ false n)] ⟨2, [(1, boolsB M g0 true), (0, opsB n f)]⟩ (fun v H' => v = .tup [] ∧ H' = ⟨2, [(1, boolsB M (markN f n g0 n) true), (0, opsB n f)]⟩) := by
  (refine con_of_run mixed (fn := Try.f38) (by kernel_rfl) (by kernel_rfl) C38_ok (rs := []) (by kernel_rfl) (Nat.le_of_ble_eq_true (by kernel_rfl)) ?_; unfold C38; simp only [initT, Nat.reduceAdd])
  repeat' (first | refine run_seq ?_ | refine run_skip ?_ | (refine run_region fun K hK => ?_; (try (simp (maxSteps := 10000000) only [bxB, opsB, boolsB, clr, rowsClr, addN_eq, Nat.zero_add, Nat.zero_le, true_and, C38r0, C38r1, C38r3, C38r4, C38r5, C38r6, C38r7, C38r8, C38r9, C38r10, C38r11, C38r12, C38r13, C38r14, C38r15, C38r16, C38r17, C38r18, rwp_nil, rwp_cons, rwpK_app, aop, gpath, St.get, slotAt, sfx, eqP, segsOf, St.put, addBlk, getB, setB, delB, ld1, ldn, st1, stn, setRow, rowNeed, segAt, nsub, bin, un, eqB, isShift, sameK, arith, shiftR, getsl, selB_or, selB_and, beqb, shed, Nat.beq, Seg.size, sizes, imp, needP, andN, appL, argsOf, ptrsOf, aasOf, cut, takeS, dropS, putS, partsOf, fillS, fieldOf, nthA, negIf, nilq, nilB, eqS, eqF, eqS1, andP, kin, slcS, strOk, plusA, bndHi, leN, optG, roH, roL, initT, exOk, exAll, wrAddr, Nat.reduceAdd, Nat.reduceSub, Nat.reduceMul, Int.reduceToNat, List.append_nil, List.nil_append, List.cons_append, eqT, idxT, cat, cpy, ite_int, ite_bool, ite_seg, ite_segs, ite_nil, ite_twice, Int.toNat_natCast, app, addBs, tob])); (repeat (first | (refine And.intro ?_ ?_; · (first | trivial | assumption | omega)))); with_reducible refine hK _ ?_; clear hK K) | (refine run_cond rfl (fun hc => ?_) (fun hc => ?_) <;> try (simp only [*, Bool.true_eq_false, Bool.false_eq_true, Bool.not_true, Bool.not_false, Bool.true_or, Bool.or_true, Bool.false_or, Bool.or_false, Bool.false_and, Bool.and_false, bne_self_eq_false, beq_self_eq_true] at hc; done)) | refine run_block ?_ | refine run_ret ?_ | refine run_nil ?_ | refine run_exit ?_ | refine blk_normal ?_ | refine blk_ret ?_ | refine blk_here ?_ | refine blk_there rfl ?_ | refine loop_exit ?_ | refine loop_ret ?_ | refine un_exit ?_ | refine un_ret ?_ | refine unE_exit ?_ | refine unE_ret ?_ | refine un_normal ?_)
  (refine run_regionL fun K hK => ?_; (try (simp (maxSteps := 10000000) only [opL, bxB, opsB, boolsB, C38r0, C38r1, C38r2, C38r3, C38r4, C38r5, C38r6, C38r7, C38r8, C38r9, C38r10, C38r11, C38r12, C38r13, C38r14, C38r15, C38r16, C38r17, C38r18, rwp_nil, rwp_cons, rwpK_app, aop, gpath, St.get, slotAt, sfx, eqP, segsOf, St.put, addBlk, getB, setB, delB, ld1, ldn, st1, stn, setRow, rowNeed, segAt, nsub, bin, un, eqB, isShift, sameK, arith, shiftR, getsl, selB_or, selB_and, beqb, shed, addN, Nat.beq, Seg.size, sizes, imp, needP, andN, appL, argsOf, ptrsOf, aasOf, cut, takeS, dropS, putS, partsOf, fillS, fieldOf, nthA, negIf, nilq, nilB, eqS, eqF, eqS1, andP, kin, slcS, strOk, plusA, bndHi, leN, optG, roH, roL, initT, exOk, exAll, wrAddr, Nat.reduceAdd, Nat.reduceSub, Nat.reduceMul, Int.reduceToNat, List.append_nil, List.nil_append, List.cons_append, eqT, idxT, cat, cpy, ite_int, ite_bool, ite_seg, ite_segs, ite_nil, ite_twice, Int.toNat_natCast, app, addBs, tob])); (repeat (first | (refine And.intro ?_ ?_; · trivial) | ((first | (refine call_t _ (con55 n 0 _ _ (Nat.le_of_ble_eq_true rfl) (by simp [keysLt])) ?_; rintro v H' ⟨rfl, rfl⟩) | (refine call_q _ (con55 n 0 _ _ (Nat.le_of_ble_eq_true rfl) (by simp [keysLt])) ?_) | (refine call_g _ (imp_of (con55 n 0 _ _ (Nat.le_of_ble_eq_true rfl) (by simp [keysLt]))) ?_)); (try simp (maxSteps := 10000000) only [opL, bxB, opsB, boolsB, C38r0, C38r1, C38r2, C38r3, C38r4, C38r5, C38r6, C38r7, C38r8, C38r9, C38r10, C38r11, C38r12, C38r13, C38r14, C38r15, C38r16, C38r17, C38r18, rwp_nil, rwp_cons, rwpK_app, aop, gpath, St.get, slotAt, sfx, eqP, segsOf, St.put, addBlk, getB, setB, delB, ld1, ldn, st1, stn, setRow, rowNeed, segAt, nsub, bin, un, eqB, isShift, sameK, arith, shiftR, getsl, selB_or, selB_and, beqb, shed, addN, Nat.beq, Seg.size, sizes, imp, needP, andN, appL, argsOf, ptrsOf, aasOf, cut, takeS, dropS, putS, partsOf, fillS, fieldOf, nthA, negIf, nilq, nilB, eqS, eqF, eqS1, andP, kin, slcS, strOk, plusA, bndHi, leN, optG, roH, roL, initT, exOk, exAll, wrAddr, Nat.reduceAdd, Nat.reduceSub, Nat.reduceMul, Int.reduceToNat, List.append_nil, List.nil_append, List.cons_append, eqT, idxT, cat, cpy, ite_int, ite_bool, ite_seg, ite_segs, ite_nil, ite_twice, Int.toNat_natCast, app, addBs, tob])))); refine hK _ (⟨[⟨10, [], .c (.fn 92 [] [⟨4, 0, 0, 0⟩])⟩, ⟨3, [], .c (.ptr ⟨3, 0, 0, 0⟩)⟩, ⟨2, [], .c (.ptr ⟨2, 0, 0, 0⟩)⟩], ⟨5, mkH f n M (markN f n g0 0)⟩⟩) (LeS.intro [0, 1, 2, 3, 4] (fun i h => idt5 i (by omega)) (by simp only [diff, notIn, Nat.beq, and_self]) rfl (by simp only [slotsLe, slotAt, Nat.beq, leV, leV1, leC, leAL, leA, nthO, and_self]) ⟨bx_le 0 n rfl, bx2_le n rfl, bx_le 0 n rfl, ⟨rfl, rfl, id, Nat.le_refl _, fun i hi => by by_cases hi' : i < n <;> simp only [rowsClr, boolsB, markN, addN_eq, Nat.zero_add, Nat.zero_le, true_and, hi', if_true, if_false, leSegs, leSeg, leC, and_self]⟩, ops_le n f false, trivial⟩) ?_; clear hK K)
  refine run_block ?_
  refine run_range 92 [⟨4, 0, 0, 0⟩] ⟨5, [(4, bxB 0 n false), (0, opsB n f)]⟩ n _ (fun j H => H = ⟨5, mkH f n M (markN f n g0 j)⟩) rfl (ops_iter n f hn 4 0 5 rfl) (fun _ => rfl) rfl ?_ ?_ ?_
  · rintro j H rfl
    exact subH_of ⟨⟨Nat.le_of_ble_eq_true rfl, rfl, _, rfl, rfl, rfl, rfl, fun _ => rfl⟩, ⟨Nat.le_of_ble_eq_true rfl, rfl, _, rfl, rfl, rfl, rfl, fun _ => rfl⟩, trivial⟩
  · rintro j H hj rfl
    obtain ⟨k, hk⟩ : ∃ k, n - 1 - j = k := ⟨_, rfl⟩
    have hkI : (n : Int) - 1 - (j : Int) = (k : Int) := by omega
    rw [hk, hkI]
    have hkn : k < n := by omega
    refine run_seq ?_
    simp only [putL]
    repeat' (first | refine run_seq ?_ | refine run_skip ?_ | (refine run_region fun K hK => ?_; (try (simp (maxSteps := 10000000) only [opL, C38r0, C38r1, C38r2, C38r3, C38r5, C38r6, C38r7, C38r8, C38r9, C38r10, C38r11, C38r12, C38r13, C38r14, C38r15, C38r16, C38r17, C38r18, rwp_nil, rwp_cons, rwpK_app, aop, gpath, St.get, slotAt, sfx, eqP, segsOf, St.put, addBlk, getB, setB, delB, ld1, ldn, st1, stn, setRow, rowNeed, segAt, nsub, bin, un, eqB, isShift, sameK, arith, shiftR, getsl, selB_or, selB_and, beqb, shed, addN, Nat.beq, Seg.size, sizes, imp, needP, andN, appL, argsOf, ptrsOf, aasOf, cut, takeS, dropS, putS, partsOf, fillS, fieldOf, nthA, negIf, nilq, nilB, eqS, eqF, eqS1, andP, kin, slcS, strOk, plusA, bndHi, leN, optG, roH, roL, initT, exOk, exAll, wrAddr, Nat.reduceAdd, Nat.reduceSub, Nat.reduceMul, Int.reduceToNat, List.append_nil, List.nil_append, List.cons_append, eqT, idxT, cat, cpy, ite_int, ite_bool, ite_seg, ite_segs, ite_nil, ite_twice, Int.toNat_natCast, app, addBs, tob])); (repeat (first | (refine And.intro ?_ ?_; · ))); with_reducible refine hK _ ?_; clear hK K) | (refine run_cond rfl (fun hc => ?_) (fun hc => ?_) <;> try (simp only [*, Bool.true_eq_false, Bool.false_eq_true, Bool.not_true, Bool.not_false, Bool.true_or, Bool.or_true, Bool.false_or, Bool.or_false, Bool.false_and, Bool.and_false, bne_self_eq_false, beq_self_eq_true] at hc; done)) | refine run_block ?_ | refine run_ret ?_ | refine run_nil ?_ | refine run_exit ?_ | refine blk_normal ?_ | refine blk_ret ?_ | refine blk_here ?_ | refine blk_there rfl ?_ | refine loop_exit ?_ | refine loop_ret ?_ | refine un_exit ?_ | refine un_ret ?_ | refine unE_exit ?_ | refine unE_ret ?_ | refine un_normal ?_)
    (refine run_regionL fun K hK => ?_; (try (simp (maxSteps := 10000000) only [opL, mkH, C38r0, C38r1, C38r2, C38r3, C38r4, C38r5, C38r6, C38r7, C38r8, C38r9, C38r10, C38r11, C38r12, C38r13, C38r14, C38r15, C38r16, C38r17, C38r18, rwp_nil, rwp_cons, rwpK_app, aop, gpath, St.get, slotAt, sfx, eqP, segsOf, St.put, addBlk, getB, setB, delB, ld1, ldn, st1, stn, setRow, rowNeed, segAt, nsub, bin, un, eqB, isShift, sameK, arith, shiftR, getsl, selB_or, selB_and, beqb, shed, addN, Nat.beq, Seg.size, sizes, imp, needP, andN, appL, argsOf, ptrsOf, aasOf, cut, takeS, dropS, putS, partsOf, fillS, fieldOf, nthA, negIf, nilq, nilB, eqS, eqF, eqS1, andP, kin, slcS, strOk, plusA, bndHi, leN, optG, roH, roL, initT, exOk, exAll, wrAddr, Nat.reduceAdd, Nat.reduceSub, Nat.reduceMul, Int.reduceToNat, List.append_nil, List.nil_append, List.cons_append, eqT, idxT, cat, cpy, ite_int, ite_bool, ite_seg, ite_segs, ite_nil, ite_twice, Int.toNat_natCast, app, addBs, tob])); (repeat (first | (refine And.intro ?_ ?_; · first | trivial | assumption | omega))); refine hK _ (mkSt f n M k (markN f n g0 j)) (LeS.intro [0, 1, 2, 3, 4, 5] idt5 (by simp only [diff, notIn, Nat.beq, and_self]) rfl (by simp only [mkSt, slotsLe, slotAt, Nat.beq, leV, leV1, leC, leA, nthO, and_self]) ⟨opk_le (f k), bx_le 0 n rfl, bx2_le n rfl, bx_le 0 n rfl, boolsw_le M _ _ (fun _ _ => rfl), ops_le n f false, trivial⟩) ?_; clear hK K)
    refine run_nil (asg_normal (run_block (mk_sw f n M k (markN f n g0 j) hM hkn hn (mk_tail f n M k _ hM hkn hn (hU k hkn) fun s hs => blk_normal (run_nil (rng_normal _ hs ?_))))))
    rw [← hk]
    rfl
  · rintro H rfl
    refine run_nil (blk_normal (run_nil (end_of' ⟨[], ⟨2, [(1, boolsB M (markN f n g0 n) true), (0, opsB n f)]⟩⟩ (LeS.intro [0, 1] (fun i h => idt2 i h) (by simp only [diff, notIn, Nat.beq, and_self]) rfl trivial ⟨boolsw_le M _ _ (fun _ _ => rfl), ops_le n f false, trivial⟩) ⟨rfl, rfl⟩)))
end Go.Proofs.Ytmbnakinhnkabaa

namespace Go.Proofs.Ytmbnakinhnkabaa
open Go.AM
set_option maxRecDepth 100000
set_option linter.unusedSimpArgs false
set_option linter.unusedVariables false
theorem opsOk_at {b : BlkS} : ∀ {n : Nat}, opsOk b n = true → ∀ {k : Nat}, k < n → ropS (b.f k) k b.f = true ∧ endS (b.f k).kind = decide ((k : Int) = (b.n : Int) - 1)
  | n + 1, h, k, hk => by
    simp only [opsOk, Bool.and_eq_true, beq_iff_eq] at h
    by_cases e : k = n
    · subst e; exact h.2
    · exact opsOk_at h.1 (by omega)
theorem usesOk_at {o : OpS} {m : Nat} {f : Nat → OpS} : ∀ {u : Nat}, usesOk o m f u = true → ∀ {i : Nat}, i < u → 0 ≤ useF o i ∧ useF o i < m ∧ defS (f (useF o i).toNat).kind = true
  | u + 1, h, i, hi => by
    simp only [usesOk, Bool.and_eq_true] at h
    by_cases e : i = u
    · subst e
      have := h.2
      unfold useOk at this
      simp only [Bool.and_eq_true, decide_eq_true_eq] at this
      exact ⟨this.1.1, this.1.2, this.2⟩
    · exact usesOk_at h.1 (by omega)
theorem right_ops {b : BlkS} (h : rightS b = true) : opsOk b b.n = true := by
  unfold rightS at h
  simp only [Bool.and_eq_true] at h
  exact h.2
theorem right_use {b : BlkS} (h : rightS b = true) {k : Nat} (hk : k < b.n) {i : Nat} (hi : i < usesS (b.f k).kind) : 0 ≤ useF (b.f k) i ∧ useF (b.f k) i < k ∧ defS (b.f (useF (b.f k) i).toNat).kind = true := by
  have := (opsOk_at (right_ops h) hk).1
  unfold ropS at this
  simp only [Bool.and_eq_true] at this
  exact usesOk_at this.2 hi
theorem right_n {b : BlkS} (h : rightS b = true) : 1 ≤ b.n ∧ b.n ≤ 512 := by
  unfold rightS head1 at h
  simp only [Bool.and_eq_true, Bool.not_eq_true', Bool.or_eq_false_iff, decide_eq_false_iff_not] at h
  omega
theorem right_U {b : BlkS} (h : rightS b = true) : ∀ k, k < b.n → ∀ i, i < usesS (b.f k).kind → 0 ≤ useF (b.f k) i ∧ useF (b.f k) i < b.n := fun k hk i hi => by
  obtain ⟨h1, h2, _⟩ := right_use h hk hi
  exact ⟨h1, by omega⟩
theorem con37_at (b : BlkS) (i n : Nat) (X : List (Nat × Blk)) (w : Bool) (h0 : getB X i = some ⟨6, some b.n, fun i => opL (b.f i), 39, w⟩) (hlt : i < n) (hkl : keysLt X n) : Con Try.prog 37 [.agg (blkL b i)] ⟨n, X⟩ (fun v H' => v = .c (.bool (rightS b)) ∧ H' = ⟨n, X⟩) :=
  ro_gen (con37 b) [i] n X rfl ⟨trivial, trivial⟩ ⟨hlt, trivial⟩ hkl (by simp only [leBlks, nthO, h0]; exact ⟨ops_le b.n b.f w, trivial⟩) (by simp only [leArgs, leV, leV1, blkL, leSegs, leSeg, leC, leA, nthO, and_self]) rfl (fun _ => rfl) rfl rfl
theorem drop_one (a b M n : Nat) (g : Nat → Bool) (f : Nat → OpS) : ∀ X : List (Nat × Blk), dropB [a, b] [(1, boolsB M g true), (0, opsB n f)] X = delB X b
  | [] => rfl
  | (k, B) :: r => by
    simp only [dropB, goneB, boolsB, opsB, nthO, delB]
    have e : Nat.beq b k = Nat.beq k b := by
      by_cases h : b = k
      · rw [h]
      · cases h1 : Nat.beq b k with
        | true => exact absurd (Nat.eq_of_beq_eq_true h1) h
        | false => cases h2 : Nat.beq k b with
          | true => exact absurd (Nat.eq_of_beq_eq_true h2).symm h
          | false => rfl
    rw [← e]
    have ih := drop_one a b M n g f r
    simp only [boolsB, opsB] at ih
    cases Nat.beq b k with
    | true => simp only []; exact ih
    | false => simp only []; rw [ih]
theorem con38_at (f : Nat → OpS) (n M : Nat) (g0 : Nat → Bool) (hM : n ≤ M) (hn : n ≤ 140737488355328) (hU : ∀ k, k < n → ∀ i, i < usesS (f k).kind → 0 ≤ useF (f k) i ∧ useF (f k) i < n) (a b m : Nat) (X : List (Nat × Blk)) (w : Bool) (hab : Nat.beq a b = false) (ha : getB X a = some ⟨6, some n, fun i => opL (f i), 39, w⟩) (hb : getB X b = some ⟨1, some M, fun i => [.c (.bool (g0 i))], 4, true⟩) (hla : a < m) (hlb : b < m) (hkl : keysLt X m) :
    Con Try.prog 38 [.c (.slice ⟨a, 0, 0, 0⟩ false n), .c (.slice ⟨b, 0, 0, 0⟩ false n)] ⟨m, X⟩ (fun v H' => v = .tup [] ∧ H' = ⟨m, (b, boolsB M (markN f n g0 n) true) :: delB X b⟩) := by
  refine ((con38 f n M g0 hM hn hU).frame (H := ⟨m, X⟩) [a, b] rfl (by simp only [diff, notIn, hab, and_self]) ⟨hla, hlb, trivial⟩ hkl ?_ (by simp only [leArgs, leV, leV1, leC, leA, nthO, and_self])).weaken ?_
  · simp only [leBlks, nthO, ha, hb]
    exact ⟨boolsw_le M g0 g0 (fun _ _ => rfl), ops_le n f w, trivial⟩
  · rintro v H' ⟨v0, H0', ⟨rfl, rfl⟩, rfl, rfl⟩
    refine ⟨rfl, ?_⟩
    simp only [framed, drop_one]
    rfl
def retSeen (b : BlkS) : AV := if rightS b = true then .tup [.c (.slice ⟨1, 0, 0, 0⟩ false b.n), .c (.int .i64 0)] else .tup [.c .nils, .c (.int .i64 4)]
def heapSeen (b : BlkS) : Heap := if rightS b = true then ⟨2, [(1, boolsB b.n (markN b.f b.n (fun _ => false) b.n) true), (0, opsB b.n b.f)]⟩ else ⟨1, [(0, opsB b.n b.f)]⟩
theorem con12 (b : BlkS) : Con Try.prog 12 [.agg (blkL b 0)] ⟨1, [(0, opsB b.n b.f)]⟩ (fun v H' => v = retSeen b ∧ H' = heapSeen b) := by
  (refine con_of_run mixed (fn := Try.f12) (by kernel_rfl) (by kernel_rfl) C12_ok (rs := [.tmp 2, .tmp 3]) (by kernel_rfl) (Nat.le_of_ble_eq_true (by kernel_rfl)) ?_; unfold C12; simp only [initT, Nat.reduceAdd])
  repeat' (first | refine run_seq ?_ | refine run_skip ?_ | (refine run_region fun K hK => ?_; (try (simp (maxSteps := 10000000) only [opL, blkL, opsB, C12r0, C12r1, C12r2, C12r3, C12r5, rwp_nil, rwp_cons, rwpK_app, aop, gpath, St.get, slotAt, sfx, eqP, segsOf, St.put, addBlk, getB, setB, delB, ld1, ldn, st1, stn, setRow, rowNeed, segAt, nsub, bin, un, eqB, isShift, sameK, arith, shiftR, getsl, selB_or, selB_and, beqb, shed, addN, Nat.beq, Seg.size, sizes, imp, needP, andN, appL, argsOf, ptrsOf, aasOf, cut, takeS, dropS, putS, partsOf, fillS, fieldOf, nthA, negIf, nilq, nilB, eqS, eqF, eqS1, andP, kin, slcS, strOk, plusA, bndHi, leN, optG, roH, roL, initT, exOk, exAll, wrAddr, Nat.reduceAdd, Nat.reduceSub, Nat.reduceMul, Int.reduceToNat, List.append_nil, List.nil_append, List.cons_append, eqT, idxT, cat, cpy, ite_int, ite_bool, ite_seg, ite_segs, ite_nil, ite_twice, Int.toNat_natCast, app, addBs, tob])); (repeat (first | (refine And.intro ?_ ?_; · (first | trivial | assumption | omega)) | ((first | (refine call_t _ (con37_at b 0 _ _ _ rfl (Nat.le_of_ble_eq_true rfl) (by simp [keysLt])) ?_; rintro v H' ⟨rfl, rfl⟩) | refine call_q _ (con37_at b 0 _ _ _ rfl (Nat.le_of_ble_eq_true rfl) (by simp [keysLt])) ?_ | refine call_g _ (imp_of (con37_at b 0 _ _ _ rfl (Nat.le_of_ble_eq_true rfl) (by simp [keysLt]))) ?_); simp (maxSteps := 10000000) only [opL, blkL, opsB, C12r0, C12r1, C12r2, C12r3, C12r5, rwp_nil, rwp_cons, rwpK_app, aop, gpath, St.get, slotAt, sfx, eqP, segsOf, St.put, addBlk, getB, setB, delB, ld1, ldn, st1, stn, setRow, rowNeed, segAt, nsub, bin, un, eqB, isShift, sameK, arith, shiftR, getsl, selB_or, selB_and, beqb, shed, addN, Nat.beq, Seg.size, sizes, imp, needP, andN, appL, argsOf, ptrsOf, aasOf, cut, takeS, dropS, putS, partsOf, fillS, fieldOf, nthA, negIf, nilq, nilB, eqS, eqF, eqS1, andP, kin, slcS, strOk, plusA, bndHi, leN, optG, roH, roL, initT, exOk, exAll, wrAddr, Nat.reduceAdd, Nat.reduceSub, Nat.reduceMul, Int.reduceToNat, List.append_nil, List.nil_append, List.cons_append, eqT, idxT, cat, cpy, ite_int, ite_bool, ite_seg, ite_segs, ite_nil, ite_twice, Int.toNat_natCast, app, addBs, tob]))); with_reducible refine hK _ ?_; clear hK K) | (refine run_cond rfl (fun hc => ?_) (fun hc => ?_) <;> try (simp only [*, Bool.true_eq_false, Bool.false_eq_true, Bool.not_true, Bool.not_false, Bool.true_or, Bool.or_true, Bool.false_or, Bool.or_false, Bool.false_and, Bool.and_false, bne_self_eq_false, beq_self_eq_true] at hc; done)) | refine run_ret ?_ | refine run_nil ?_)
  · have hr : rightS b = false := by simpa using hc
    refine end_of ⟨[⟨2, [], .c .nils⟩, ⟨3, [], .c (.int .i64 4)⟩], ⟨1, [(0, opsB b.n b.f)]⟩⟩ (LeS.intro [0] idt1 ⟨trivial, trivial⟩ rfl (by simp only [slotsLe, slotAt, Nat.beq, leV, leV1, leC, and_self]) ⟨ops_le b.n b.f false, trivial⟩) ?_
    simp only [endF, resL, resA, St.get, slotAt, Nat.beq, sfx, eqP, noTup, resV]
    exact ⟨by simp only [retSeen, hr, Bool.false_eq_true, if_false], by simp only [heapSeen, hr, Bool.false_eq_true, if_false]⟩
  · have hr : rightS b = true := by simpa using hc
    have hN : b.n ≤ 140737488355328 := by have := right_n hr; omega
    have hU := right_U hr
    repeat' (first | refine run_seq ?_ | refine run_skip ?_ | (refine run_region fun K hK => ?_; (try (simp (maxSteps := 10000000) only [opL, blkL, opsB, C12r0, C12r1, C12r2, C12r3, C12r4, C12r5, rwp_nil, rwp_cons, rwpK_app, aop, gpath, St.get, slotAt, sfx, eqP, segsOf, St.put, addBlk, getB, setB, delB, ld1, ldn, st1, stn, setRow, rowNeed, segAt, nsub, bin, un, eqB, isShift, sameK, arith, shiftR, getsl, selB_or, selB_and, beqb, shed, addN, Nat.beq, Seg.size, sizes, imp, needP, andN, appL, argsOf, ptrsOf, aasOf, cut, takeS, dropS, putS, partsOf, fillS, fieldOf, nthA, negIf, nilq, nilB, eqS, eqF, eqS1, andP, kin, slcS, strOk, plusA, bndHi, leN, optG, roH, roL, initT, exOk, exAll, wrAddr, Nat.reduceAdd, Nat.reduceSub, Nat.reduceMul, Int.reduceToNat, List.append_nil, List.nil_append, List.cons_append, eqT, idxT, cat, cpy, ite_int, ite_bool, ite_seg, ite_segs, ite_nil, ite_twice, Int.toNat_natCast, app, addBs, tob])); (repeat (first | (refine And.intro ?_ ?_; · (first | trivial | assumption | omega)) | ((first | (refine call_t _ (con38_at b.f b.n b.n (fun _ => false) (Nat.le_refl _) hN hU 0 2 _ _ _ rfl rfl rfl (Nat.le_of_ble_eq_true rfl) (Nat.le_of_ble_eq_true rfl) (by simp [keysLt])) ?_; rintro v H' ⟨rfl, rfl⟩) | refine call_q _ (con38_at b.f b.n b.n (fun _ => false) (Nat.le_refl _) hN hU 0 2 _ _ _ rfl rfl rfl (Nat.le_of_ble_eq_true rfl) (Nat.le_of_ble_eq_true rfl) (by simp [keysLt])) ?_ | refine call_g _ (imp_of (con38_at b.f b.n b.n (fun _ => false) (Nat.le_refl _) hN hU 0 2 _ _ _ rfl rfl rfl (Nat.le_of_ble_eq_true rfl) (Nat.le_of_ble_eq_true rfl) (by simp [keysLt]))) ?_); simp (maxSteps := 10000000) only [opL, blkL, opsB, C12r0, C12r1, C12r2, C12r3, C12r4, C12r5, rwp_nil, rwp_cons, rwpK_app, aop, gpath, St.get, slotAt, sfx, eqP, segsOf, St.put, addBlk, getB, setB, delB, ld1, ldn, st1, stn, setRow, rowNeed, segAt, nsub, bin, un, eqB, isShift, sameK, arith, shiftR, getsl, selB_or, selB_and, beqb, shed, addN, Nat.beq, Seg.size, sizes, imp, needP, andN, appL, argsOf, ptrsOf, aasOf, cut, takeS, dropS, putS, partsOf, fillS, fieldOf, nthA, negIf, nilq, nilB, eqS, eqF, eqS1, andP, kin, slcS, strOk, plusA, bndHi, leN, optG, roH, roL, initT, exOk, exAll, wrAddr, Nat.reduceAdd, Nat.reduceSub, Nat.reduceMul, Int.reduceToNat, List.append_nil, List.nil_append, List.cons_append, eqT, idxT, cat, cpy, ite_int, ite_bool, ite_seg, ite_segs, ite_nil, ite_twice, Int.toNat_natCast, app, addBs, tob]))); with_reducible refine hK _ ?_; clear hK K) | (refine run_cond rfl (fun hc => ?_) (fun hc => ?_) <;> try (simp only [*, Bool.true_eq_false, Bool.false_eq_true, Bool.not_true, Bool.not_false, Bool.true_or, Bool.or_true, Bool.false_or, Bool.or_false, Bool.false_and, Bool.and_false, bne_self_eq_false, beq_self_eq_true] at hc; done)) | refine run_ret ?_ | refine run_nil ?_)
    refine end_of ⟨[⟨2, [], .c (.slice ⟨1, 0, 0, 0⟩ false b.n)⟩, ⟨3, [], .c (.int .i64 0)⟩], ⟨2, [(1, boolsB b.n (markN b.f b.n (fun _ => false) b.n) true), (0, opsB b.n b.f)]⟩⟩ (LeS.intro [0, 2] (fun i h => idt1' i h) (by simp only [diff, notIn, Nat.beq, and_self]) rfl (by simp only [slotsLe, slotAt, Nat.beq, leV, leV1, leC, leA, nthO, and_self]) ⟨boolsw_le b.n _ _ (fun _ _ => rfl), ops_le b.n b.f false, trivial⟩) ?_
    simp only [endF, resL, resA, St.get, slotAt, Nat.beq, sfx, eqP, noTup, resV]
    exact ⟨by simp only [retSeen, hr, if_true], by simp only [heapSeen, hr, if_true]⟩
def opsW (n : Nat) (f : Nat → OpS) : Blk := ⟨6, some n, fun i => opL (f i), 39, true⟩
theorem opsw_le {l : List Nat} (n : Nat) (f f' : Nat → OpS) (h : ∀ i, i < n → f i = f' i) : leB l ⟨6, some n, fun i => opL (f i), 39, true⟩ (opsW n f') := ⟨rfl, rfl, id, Nat.le_refl _, fun i hi => by have e := h i hi; simp only [opsW, opL, e, leSegs, leSeg, leC, and_self]⟩
theorem con39 (n : Nat) (f : Nat → OpS) (h1 : 1 ≤ n) (hn : n ≤ 512) : Con Try.prog 39 [.c (.slice ⟨0, 0, 0, 0⟩ false n)] ⟨1, [(0, opsB n f)]⟩ (fun v H' => v = .c (.slice ⟨1, 0, 0, 0⟩ false n) ∧ H' = ⟨2, [(1, opsW n f), (0, opsB n f)]⟩) := by
  (refine con_of_run mixed (fn := Try.f39) (by kernel_rfl) (by kernel_rfl) C39_ok (rs := [.tmp 2]) (by kernel_rfl) (Nat.le_of_ble_eq_true (by kernel_rfl)) ?_; unfold C39; simp only [initT, Nat.reduceAdd])
  repeat' (first | refine run_seq ?_ | refine run_skip ?_ | (refine run_region fun K hK => ?_; (try (simp (maxSteps := 10000000) only [opL, opsB, C39r0, C39r1, C39r2, rwp_nil, rwp_cons, rwpK_app, aop, gpath, St.get, slotAt, sfx, eqP, segsOf, St.put, addBlk, getB, setB, delB, ld1, ldn, st1, stn, setRow, rowNeed, segAt, nsub, bin, un, eqB, isShift, sameK, arith, shiftR, getsl, selB_or, selB_and, beqb, shed, addN, Nat.beq, Seg.size, sizes, imp, needP, andN, appL, argsOf, ptrsOf, aasOf, cut, takeS, dropS, putS, partsOf, fillS, fieldOf, nthA, negIf, nilq, nilB, eqS, eqF, eqS1, andP, kin, slcS, strOk, plusA, bndHi, leN, optG, roH, roL, initT, exOk, exAll, wrAddr, Nat.reduceAdd, Nat.reduceSub, Nat.reduceMul, Int.reduceToNat, List.append_nil, List.nil_append, List.cons_append, eqT, idxT, cat, cpy, ite_int, ite_bool, ite_seg, ite_segs, ite_nil, ite_twice, Int.toNat_natCast, app, addBs, tob])); (repeat (first | (refine And.intro ?_ ?_; · (first | trivial | assumption | omega)))); with_reducible refine hK _ ?_; clear hK K) | (refine run_cond rfl (fun hc => ?_) (fun hc => ?_) <;> try (simp only [*, Bool.true_eq_false, Bool.false_eq_true, Bool.not_true, Bool.not_false, Bool.true_or, Bool.or_true, Bool.false_or, Bool.or_false, Bool.false_and, Bool.and_false, bne_self_eq_false, beq_self_eq_true] at hc; done)) | refine run_ret ?_ | refine run_nil ?_)
  repeat' (first | refine run_seq ?_ | refine run_skip ?_ | (refine run_region fun K hK => ?_; (try (simp (maxSteps := 10000000) only [opL, opsB, repl, fillS, partsOf, rowsFit, C39r0, C39r1, C39r2, C39r3, rwp_nil, rwp_cons, rwpK_app, aop, gpath, St.get, slotAt, sfx, eqP, segsOf, St.put, addBlk, getB, setB, delB, ld1, ldn, st1, stn, setRow, rowNeed, segAt, nsub, bin, un, eqB, isShift, sameK, arith, shiftR, getsl, selB_or, selB_and, beqb, shed, addN, Nat.beq, Seg.size, sizes, imp, needP, andN, appL, argsOf, ptrsOf, aasOf, cut, takeS, dropS, putS, partsOf, fillS, fieldOf, nthA, negIf, nilq, nilB, eqS, eqF, eqS1, andP, kin, slcS, strOk, plusA, bndHi, leN, optG, roH, roL, initT, exOk, exAll, wrAddr, Nat.reduceAdd, Nat.reduceSub, Nat.reduceMul, Int.reduceToNat, List.append_nil, List.nil_append, List.cons_append, eqT, idxT, cat, cpy, ite_int, ite_bool, ite_seg, ite_segs, ite_nil, ite_twice, Int.toNat_natCast, app, addBs, tob])); (repeat (first | (refine And.intro ?_ ?_; · (exact ⟨trivial, by omega, by omega⟩)))); with_reducible refine hK _ ?_; clear hK K) | (refine run_cond rfl (fun hc => ?_) (fun hc => ?_) <;> try (simp only [*, Bool.true_eq_false, Bool.false_eq_true, Bool.not_true, Bool.not_false, Bool.true_or, Bool.or_true, Bool.false_or, Bool.or_false, Bool.false_and, Bool.and_false, bne_self_eq_false, beq_self_eq_true] at hc; done)) | refine run_ret ?_ | refine run_nil ?_)
  refine end_of ⟨[⟨2, [], .c (.slice ⟨1, 0, 0, 0⟩ false n)⟩], ⟨2, [(1, opsW n f), (0, opsB n f)]⟩⟩ (LeS.intro [0, 2] (fun i h => idt1' i h) (by simp only [diff, notIn, Nat.beq, and_self]) rfl (by simp only [slotsLe, slotAt, Nat.beq, leV, leV1, leC, leA, nthO, Nat.zero_add, and_self]) ⟨⟨rfl, by simp only [opsW, Nat.zero_add], id, by simp only [opsW, Blk.n, Option.getD, Nat.zero_add, Nat.le_refl], fun i hi => by simp only [rowsApp, opsW, opL, Nat.not_lt_zero, if_false, addN_eq, Nat.zero_add, Nat.sub_zero, leSegs, leSeg, leC, and_self]⟩, ops_le n f false, trivial⟩) ⟨rfl, rfl⟩
theorem con39_at (n : Nat) (f : Nat → OpS) (h1 : 1 ≤ n) (hn : n ≤ 512) (i m : Nat) (X : List (Nat × Blk)) (w : Bool) (h0 : getB X i = some ⟨6, some n, fun i => opL (f i), 39, w⟩) (hlt : i < m) (hkl : keysLt X m) : Con Try.prog 39 [.c (.slice ⟨i, 0, 0, 0⟩ false n)] ⟨m, X⟩ (fun v H' => v = .c (.slice ⟨m, 0, 0, 0⟩ false n) ∧ H' = addBs ⟨m, X⟩ [opsW n f]) := by
  refine ((con39 n f h1 hn).frame (H := ⟨m, X⟩) [i] rfl ⟨trivial, trivial⟩ ⟨hlt, trivial⟩ hkl (by simp only [leBlks, nthO, h0]; exact ⟨ops_le n f w, trivial⟩) (by simp only [leArgs, leV, leV1, leC, leA, nthO, and_self])).weaken ?_
  rintro v H' ⟨v0, H0', ⟨rfl, rfl⟩, rfl, rfl⟩
  refine ⟨rfl, ?_⟩
  simp only [framed, dropB_none (l := [i]) (H0 := [(0, opsB n f)]) (fun _ => rfl)]
  rfl
end Go.Proofs.Ytmbnakinhnkabaa

namespace Go.Proofs.Ytmbnakinhnkabaa
open Go.AM
set_option maxRecDepth 100000
set_option linter.unusedSimpArgs false
set_option linter.unusedVariables false
theorem upd_same {g g' : Nat → Bool} {n k : Nat} {v v' : Bool} (h : ∀ i, i < n → g i = g' i) (hv : v = v') : ∀ i, i < n → upd g k v i = upd g' k v' i := fun i hi => by
  unfold upd; rw [h i hi, hv]
theorem mark1_same {f : Nat → OpS} {g g' : Nat → Bool} {n k : Nat} (hk : k < n) (h : ∀ i, i < n → g i = g' i) : ∀ i, i < n → mark1 f n k g i = mark1 f n k g' i := by
  unfold mark1
  exact upd_same h (by rw [h k hk])
theorem markU_same {o : OpS} {g g' : Nat → Bool} {n : Nat} (h : ∀ i, i < n → g i = g' i) : ∀ u i, i < n → markU o g u i = markU o g' u i
  | 0 => h
  | u + 1 => upd_same (markU_same h u) rfl
theorem markStep_same {f : Nat → OpS} {g g' : Nat → Bool} {n k : Nat} (hk : k < n) (h : ∀ i, i < n → g i = g' i) : ∀ i, i < n → markStep f n k g i = markStep f n k g' i := fun i hi => by
  unfold markStep
  rw [mark1_same hk h k hk]
  split
  · exact markU_same (mark1_same hk h) _ i hi
  · exact mark1_same hk h i hi
theorem markN_same {f : Nat → OpS} {g g' : Nat → Bool} {n : Nat} : ∀ {j : Nat}, j ≤ n → ∀ i, i < n → markN f n g j i = markN f n g' j i
  | 0, _, i, hi => by simp only [markN, hi, if_true]
  | j + 1, hj, i, hi => markStep_same (by omega) (markN_same (j := j) (by omega)) i hi
def seenS (b : BlkS) : Nat → Bool := markN b.f b.n (fun _ => false) b.n
theorem seenS_of (b : BlkS) (g : Nat → Bool) {i : Nat} (hi : i < b.n) : markN b.f b.n g b.n i = seenS b i := markN_same (Nat.le_refl _) i hi

theorem upd_ge {g : Nat → Bool} {k : Nat} {i : Nat} (h : g i = true) : upd g k true i = true := by unfold upd; split <;> simp [h]
theorem markU_ge {o : OpS} {g : Nat → Bool} {i : Nat} (h : g i = true) : ∀ u, markU o g u i = true
  | 0 => h
  | u + 1 => upd_ge (markU_ge h u)
theorem markU_at {o : OpS} {g : Nat → Bool} : ∀ {u j : Nat}, j < u → markU o g u (useF o j).toNat = true
  | u + 1, j, h => by
    by_cases e : j = u
    · subst e; simp only [markU, upd, if_true]
    · exact upd_ge (markU_at (u := u) (by omega))
theorem markU_no {o : OpS} {g : Nat → Bool} {i : Nat} : ∀ {u : Nat}, (∀ j, j < u → (useF o j).toNat ≠ i) → markU o g u i = g i
  | 0, _ => rfl
  | u + 1, h => by
    simp only [markU, upd]
    rw [if_neg (fun e => h u (by omega) e.symm), markU_no (u := u) fun j hj => h j (by omega)]
theorem mark1_ne {f : Nat → OpS} {n k i : Nat} {g : Nat → Bool} (h : i ≠ k) : mark1 f n k g i = g i := by unfold mark1 upd; rw [if_neg h]
theorem step_hi {f : Nat → OpS} {n k i : Nat} {g : Nat → Bool} (hU : ∀ j, j < usesS (f k).kind → (useF (f k) j).toNat < k) (h : k < i) : markStep f n k g i = g i := by
  unfold markStep
  split
  · rw [markU_no fun j hj => by have := hU j hj; omega, mark1_ne (by omega)]
  · exact mark1_ne (by omega)
theorem step_ge {f : Nat → OpS} {n k i : Nat} {g : Nat → Bool} (hne : i ≠ k) (h : g i = true) : markStep f n k g i = true := by
  unfold markStep
  split
  · exact markU_ge (by rw [mark1_ne hne]; exact h) _
  · rw [mark1_ne hne]; exact h
theorem step_self {f : Nat → OpS} {n k : Nat} {g : Nat → Bool} (hU : ∀ j, j < usesS (f k).kind → (useF (f k) j).toNat < k) : markStep f n k g k = mark1 f n k g k := by
  unfold markStep
  split
  · rw [markU_no fun j hj => by have := hU j hj; omega]
  · rfl
theorem step_use {f : Nat → OpS} {n k : Nat} {g : Nat → Bool} (hs : mark1 f n k g k = true) {j : Nat} (hj : j < usesS (f k).kind) : markStep f n k g (useF (f k) j).toNat = true := by
  unfold markStep
  rw [if_pos hs]
  exact markU_at hj
section
variable {f : Nat → OpS} {n : Nat} {g : Nat → Bool}
theorem markN_stays (hU : ∀ k, k < n → ∀ j, j < usesS (f k).kind → (useF (f k) j).toNat < k) {k : Nat} : ∀ (j : Nat), n - 1 - k < j → j ≤ n → k < n → markN f n g j k = markN f n g (n - 1 - k + 1) k
  | j + 1, h1, h2, hk => by
    by_cases e : j = n - 1 - k
    · rw [e]
    · have hlt : n - 1 - j < k := by omega
      show markStep f n (n - 1 - j) (markN f n g j) k = _
      rw [step_hi (hU _ (by omega)) hlt]
      exact markN_stays hU j (by omega) (by omega) hk
theorem markN_ge {i : Nat} : ∀ {j j' : Nat}, j ≤ j' → j' ≤ n - 1 - i → markN f n g j i = true → markN f n g j' i = true
  | j, 0, h1, h2, h => by
    have e : j = 0 := by omega
    subst e; exact h
  | j, j' + 1, h1, h2, h => by
    by_cases e : j = j' + 1
    · subst e; exact h
    · show markStep f n (n - 1 - j') (markN f n g j') i = true
      exact step_ge (by omega) (markN_ge (j' := j') (by omega) (by omega) h)
end
theorem seen_at {b : BlkS} (hr : rightS b = true) {k : Nat} (hk : k < b.n) : seenS b k = mark1 b.f b.n k (markN b.f b.n (fun _ => false) (b.n - 1 - k)) k := by
  have hU : ∀ k, k < b.n → ∀ j, j < usesS (b.f k).kind → (useF (b.f k) j).toNat < k := fun k hk j hj => by
    obtain ⟨h1, h2, _⟩ := right_use hr hk hj
    omega
  unfold seenS
  rw [markN_stays hU b.n (by omega) (Nat.le_refl _) hk]
  show markStep b.f b.n (b.n - 1 - (b.n - 1 - k)) _ k = _
  rw [show b.n - 1 - (b.n - 1 - k) = k by omega]
  exact step_self (hU k hk)
theorem seen_use {b : BlkS} (hr : rightS b = true) {k : Nat} (hk : k < b.n) (hs : seenS b k = true) {j : Nat} (hj : j < usesS (b.f k).kind) : seenS b (useF (b.f k) j).toNat = true := by
  obtain ⟨h1, h2, hd⟩ := right_use hr hk hj
  have hU : ∀ k, k < b.n → ∀ j, j < usesS (b.f k).kind → (useF (b.f k) j).toNat < k := fun k hk j hj => by
    obtain ⟨h1, h2, _⟩ := right_use hr hk hj
    omega
  obtain ⟨i, hi⟩ : ∃ i, (useF (b.f k) j).toNat = i := ⟨_, rfl⟩
  rw [hi] at hd ⊢
  have hik : i < k := by omega
  rw [seen_at hr hk] at hs
  have h3 : markN b.f b.n (fun _ => false) (b.n - 1 - k + 1) i = true := by
    show markStep b.f b.n (b.n - 1 - (b.n - 1 - k)) _ i = true
    rw [show b.n - 1 - (b.n - 1 - k) = k by omega, ← hi]
    exact step_use hs hj
  rw [seen_at hr (by omega)]
  have h4 := markN_ge (n := b.n) (f := b.f) (j' := b.n - 1 - i) (by omega) (Nat.le_refl _) h3
  have hk4 : ((b.f i).kind == 14) = false ∧ (((b.f i).kind == 3) || ((b.f i).kind == 5) || ((b.f i).kind == 7)) = false := by
    unfold defS at hd
    simp only [Bool.or_eq_true, beq_iff_eq] at hd
    rcases hd with ((((((hd | hd) | hd) | hd) | hd) | hd) | hd) | hd <;> rw [hd] <;> decide
  unfold mark1 upd
  rw [if_pos rfl, hk4.1, hk4.2, h4]
  simp
theorem seen_first {b : BlkS} (hr : rightS b = true) : seenS b 0 = true := by
  have hn := right_n hr
  have hk : ((b.f 0).kind == 14) = true := by
    unfold rightS head2 at hr
    simp only [Bool.and_eq_true, Bool.not_eq_true', Bool.or_eq_false_iff, bne_eq_false_iff_eq] at hr
    simpa using hr.1.2.1
  rw [seen_at hr (by omega)]
  unfold mark1 upd
  rw [if_pos rfl, hk]
  simp
theorem seen_leaves {b : BlkS} (hr : rightS b = true) {k : Nat} (hk : k < b.n) (hl : leaveS (b.f k).kind = true) : seenS b k = true := by
  rw [seen_at hr hk]
  have hk4 : ((b.f k).kind == 14) = false ∧ (((b.f k).kind == 3) || ((b.f k).kind == 5) || ((b.f k).kind == 7)) = false := by
    unfold leaveS accS endS at hl
    simp only [Bool.or_eq_true, beq_iff_eq] at hl
    rcases hl with ((((hl | hl) | hl) | hl) | ((hl | hl) | hl)) | hl <;> rw [hl] <;> decide
  unfold mark1 upd
  rw [if_pos rfl, hk4.1, hk4.2, hl]
  simp
theorem seen_last {b : BlkS} (hr : rightS b = true) : seenS b (b.n - 1) = true := by
  have hn := right_n hr
  refine seen_leaves hr (by omega) ?_
  have := (opsOk_at (right_ops hr) (k := b.n - 1) (by omega)).2
  unfold leaveS
  rw [this, decide_eq_true (by omega)]
  simp

def cnt (g : Nat → Bool) : Nat → Nat
  | 0 => 0
  | k + 1 => cnt g k + (if g k = true then 1 else 0)
def renS (g : Nat → Bool) (o : OpS) : OpS := ⟨o.kind, o.r, if 0 < usesS o.kind then (cnt g o.a.toNat : Int) else o.a, if 1 < usesS o.kind then (cnt g o.b.toNat : Int) else o.b, o.order, o.imm⟩
def newF (f : Nat → OpS) (g : Nat → Bool) : Nat → Nat → OpS
  | 0 => f
  | k + 1 => if g k = true then (fun j => if j < cnt g k then newF f g k j else renS g (f k)) else newF f g k
def withS (b : BlkS) : BlkS := ⟨b.pc, b.words, b.el, cnt (seenS b) b.n, newF b.f (seenS b) b.n⟩
def allS (b : BlkS) : Bool := !decide (idxF (seenS b) false b.n 0 ≥ 0)
def blkIt : Nat → BlkS → BlkS
  | 0, b => b
  | t + 1, b => if allS b = true then b else blkIt t (withS b)
def blockS (b : BlkS) : BlkS := blkIt b.n b
theorem cnt_le (g : Nat → Bool) : ∀ k, cnt g k ≤ k
  | 0 => Nat.le_refl _
  | k + 1 => by have := cnt_le g k; simp only [cnt]; split <;> omega
theorem cnt_mono (g : Nat → Bool) {j : Nat} : ∀ {k : Nat}, j ≤ k → cnt g j ≤ cnt g k
  | 0, h => by have : j = 0 := by omega
               subst this; exact Nat.le_refl _
  | k + 1, h => by
    by_cases e : j = k + 1
    · subst e; exact Nat.le_refl _
    · have := cnt_mono g (j := j) (k := k) (by omega)
      simp only [cnt]; omega
theorem cnt_lt (g : Nat → Bool) {j k : Nat} (h : j < k) (hg : g j = true) : cnt g j < cnt g k := by
  have := cnt_mono g (show j + 1 ≤ k from h)
  simp only [cnt, hg, if_true] at this
  omega
theorem newF_at {f : Nat → OpS} {g : Nat → Bool} : ∀ {m k : Nat}, k < m → g k = true → newF f g m (cnt g k) = renS g (f k)
  | m + 1, k, h, hg => by
    simp only [newF]
    by_cases e : k = m
    · subst e
      rw [if_pos hg]
      simp only [Nat.lt_irrefl, if_false]
    · have hlt : k < m := by omega
      split
      · simp only []
        rw [if_pos (cnt_lt g hlt hg)]
        exact newF_at hlt hg
      · exact newF_at hlt hg
theorem cnt_inv {g : Nat → Bool} : ∀ {m j : Nat}, j < cnt g m → ∃ k, k < m ∧ g k = true ∧ cnt g k = j
  | m + 1, j, h => by
    simp only [cnt] at h
    by_cases hg : g m = true
    · rw [if_pos hg] at h
      by_cases e : j = cnt g m
      · exact ⟨m, by omega, hg, e.symm⟩
      · obtain ⟨k, h1, h2, h3⟩ := cnt_inv (g := g) (m := m) (j := j) (by omega)
        exact ⟨k, by omega, h2, h3⟩
    · rw [if_neg hg] at h
      obtain ⟨k, h1, h2, h3⟩ := cnt_inv (g := g) (m := m) (j := j) (by omega)
      exact ⟨k, by omega, h2, h3⟩
theorem ren_uses {g : Nat → Bool} {o : OpS} {i : Nat} (hi : i < usesS o.kind) : useF (renS g o) i = (cnt g (useF o i).toNat : Int) := by
  unfold renS
  match i, hi with
  | 0, h => simp only [useF, h, if_true]
  | i + 1, h => simp only [useF]; rw [if_pos (by omega)]
theorem idxF_none {g : Nat → Bool} {v : Bool} : ∀ {c j : Nat}, ¬ idxF g v c j ≥ 0 → ∀ i, j ≤ i → i < j + c → g i ≠ v
  | 0, j, _, i, h1, h2 => by omega
  | c + 1, j, h, i, h1, h2 => by
    simp only [idxF] at h
    split at h
    · omega
    · rename_i hne
      by_cases e : i = j
      · subst e; intro hv; rw [hv] at hne; simp at hne
      · exact idxF_none (c := c) (j := j + 1) h i (by omega) (by omega)
theorem idxF_some {g : Nat → Bool} {v : Bool} : ∀ {c j : Nat}, idxF g v c j ≥ 0 → ∃ i, j ≤ i ∧ i < j + c ∧ g i = v
  | 0, j, h => by simp [idxF] at h
  | c + 1, j, h => by
    simp only [idxF] at h
    split at h
    · rename_i he
      exact ⟨j, Nat.le_refl _, by omega, by simpa using (beq_iff_eq.1 he).symm⟩
    · obtain ⟨i, h1, h2, h3⟩ := idxF_some (c := c) (j := j + 1) h
      exact ⟨i, by omega, by omega, h3⟩
theorem allS_iff (b : BlkS) : allS b = true ↔ ∀ i, i < b.n → seenS b i = true := by
  unfold allS
  constructor
  · intro h i hi
    have := idxF_none (g := seenS b) (v := false) (c := b.n) (j := 0) (by simpa using h) i (by omega) (by omega)
    simpa using this
  · intro h
    have : ¬ idxF (seenS b) false b.n 0 ≥ 0 := fun hh => by
      obtain ⟨i, _, h2, h3⟩ := idxF_some hh
      rw [h i (by omega)] at h3
      cases h3
    simp [this]
theorem cnt_all {g : Nat → Bool} : ∀ {n : Nat}, cnt g n = n → ∀ i, i < n → g i = true
  | n + 1, h, i, hi => by
    simp only [cnt] at h
    have h1 := cnt_le g n
    split at h
    · by_cases e : i = n
      · subst e; assumption
      · exact cnt_all (n := n) (by omega) i (by omega)
    · omega
theorem with_lt {b : BlkS} (h : allS b = false) : (withS b).n < b.n := by
  have h1 := cnt_le (seenS b) b.n
  rcases Nat.lt_or_ge (cnt (seenS b) b.n) b.n with h2 | h2
  · exact h2
  · have : allS b = true := (allS_iff b).2 (cnt_all (by omega))
    rw [this] at h; cases h
theorem ren_field {g : Nat → Bool} {o : OpS} : fieldBad (renS g o) = fieldBad o := by
  have e1 : rightF (renS g o) = rightF o := rfl
  unfold fieldBad
  rw [e1]
  simp only [renS]
  by_cases h1 : usesS o.kind < 1
  · have h2 : usesS o.kind = 0 := by omega
    simp [h2]
  · by_cases h2 : usesS o.kind < 2
    · have h3 : usesS o.kind = 1 := by omega
      simp [h3]
    · simp [h1, h2]
theorem usesOk_all {o : OpS} {m : Nat} {f : Nat → OpS} : ∀ {u : Nat}, (∀ i, i < u → useOk f m (useF o i) = true) → usesOk o m f u = true
  | 0, _ => rfl
  | u + 1, h => by
    simp only [usesOk]
    rw [usesOk_all (u := u) fun i hi => h i (by omega), h u (by omega)]
    rfl
theorem opsOk_all {b : BlkS} : ∀ {n : Nat}, (∀ k, k < n → ropS (b.f k) k b.f = true ∧ endS (b.f k).kind = decide ((k : Int) = (b.n : Int) - 1)) → opsOk b n = true
  | 0, _ => rfl
  | n + 1, h => by
    simp only [opsOk]
    obtain ⟨h1, h2⟩ := h n (by omega)
    rw [opsOk_all (n := n) fun k hk => h k (by omega), h1, h2]
    simp
theorem right_with {b : BlkS} (hr : rightS b = true) : rightS (withS b) = true := by
  have hn := right_n hr
  obtain ⟨g, hg⟩ : ∃ g, seenS b = g := ⟨_, rfl⟩
  have hf0 : g 0 = true := by rw [← hg]; exact seen_first hr
  have hlast : g (b.n - 1) = true := by rw [← hg]; exact seen_last hr
  have hu : ∀ k, k < b.n → g k = true → ∀ j, j < usesS (b.f k).kind → g (useF (b.f k) j).toNat = true := fun k hk hs j hj => by rw [← hg] at hs ⊢; exact seen_use hr hk hs hj
  have hcn : cnt g b.n = cnt g (b.n - 1) + 1 := by
    obtain ⟨m, hm⟩ : ∃ m, b.n = m + 1 := ⟨b.n - 1, by omega⟩
    rw [hm] at hlast ⊢
    simp only [Nat.add_sub_cancel] at hlast ⊢
    simp only [cnt, hlast, if_true]
  have hle := cnt_le g b.n
  have h00 : newF b.f g b.n 0 = renS g (b.f 0) := newF_at (m := b.n) (k := 0) (by omega) hf0
  have hb := hr
  unfold rightS at hb
  simp only [Bool.and_eq_true, Bool.not_eq_true'] at hb
  obtain ⟨⟨hb1, hb2⟩, hb3⟩ := hb
  unfold rightS
  simp only [Bool.and_eq_true, Bool.not_eq_true']
  refine ⟨⟨?_, ?_⟩, ?_⟩
  · unfold head1 at hb1 ⊢
    simp only [withS, hg, Bool.or_eq_false_iff, decide_eq_false_iff_not] at hb1 ⊢
    refine ⟨⟨hb1.1.1, ?_⟩, ?_⟩ <;> omega
  · unfold head2 at hb2 ⊢
    simp only [withS, hg, h00]
    exact hb2
  · refine opsOk_all fun j hj => ?_
    have hj' : j < cnt g b.n := by rw [← hg]; exact hj
    obtain ⟨k, hk, hgk, rfl⟩ := cnt_inv hj'
    obtain ⟨ho, he⟩ := opsOk_at hb3 hk
    have hfk : (withS b).f (cnt g k) = renS g (b.f k) := by show newF b.f (seenS b) b.n (cnt g k) = _; rw [hg]; exact newF_at hk hgk
    rw [hfk]
    constructor
    · unfold ropS at ho ⊢
      simp only [Bool.and_eq_true, Bool.not_eq_true'] at ho ⊢
      rw [ren_field]
      refine ⟨ho.1, usesOk_all fun i hi => ?_⟩
      have hi' : i < usesS (b.f k).kind := hi
      obtain ⟨u1, u2, u3⟩ := right_use hr hk hi'
      have hui := hu k hk hgk i hi'
      have hlt : (useF (b.f k) i).toNat < k := by omega
      rw [ren_uses hi']
      unfold useOk
      simp only [Bool.and_eq_true, decide_eq_true_eq]
      refine ⟨⟨by omega, ?_⟩, ?_⟩
      · have := cnt_lt g hlt hui; omega
      · rw [Int.toNat_natCast]
        have : (withS b).f (cnt g (useF (b.f k) i).toNat) = renS g (b.f (useF (b.f k) i).toNat) := by show newF b.f (seenS b) b.n _ = _; rw [hg]; exact newF_at (by omega) hui
        rw [this]
        exact u3
    · show endS (b.f k).kind = _
      rw [he]
      have hw : ((withS b).n : Int) = (cnt g b.n : Int) := by show ((cnt (seenS b) b.n : Nat) : Int) = _; rw [hg]
      rw [hw, hcn]
      refine decide_eq_decide.2 ⟨fun h => ?_, fun h => ?_⟩
      · have : k = b.n - 1 := by omega
        rw [this]; omega
      · rcases Nat.lt_or_ge k (b.n - 1) with hlt | hge
        · have := cnt_lt g hlt hgk; omega
        · omega
end Go.Proofs.Ytmbnakinhnkabaa

namespace Go.Proofs.Ytmbnakinhnkabaa
open Go.AM
set_option maxRecDepth 100000
set_option linter.unusedSimpArgs false
set_option linter.unusedVariables false
def zblk : Blk := ⟨4, none, fun _ => [.c (.int .u64 0), .c (.int .i64 0), .c (.int .i64 0), .c (.nils)], 25, true⟩
def hO (b0 b : BlkS) (M : Nat) (g : Nat → Bool) : List (Nat × Blk) := [(4, boolsB M g true), (3, opsW b.n b.f), (2, zblk), (1, blkB b 3), (0, opsB b0.n b0.f)]
def stO (b0 b : BlkS) (M : Nat) (g : Nat → Bool) : St := ⟨[⟨4, [], .c (.slice ⟨4, 0, 0, 0⟩ false M)⟩, ⟨2, [], .c (.ptr ⟨2, 0, 0, 0⟩)⟩, ⟨1, [], .c (.ptr ⟨1, 0, 0, 0⟩)⟩], ⟨5, hO b0 b M g⟩⟩
theorem blk_le' {l : List Nat} (b : BlkS) (i j : Nat) (h : nthO l j = some i) : leB l ⟨4, none, fun _ => blkL b i, 25, true⟩ (blkB b j) := ⟨rfl, rfl, id, Nat.le_refl _, fun _ _ => by simp only [blkB, blkL, leSegs, leSeg, leC, leA, h, and_self]⟩
theorem z_le {l : List Nat} : leB l ⟨4, none, fun _ => [.c (.int .u64 0), .c (.int .i64 0), .c (.int .i64 0), .c (.nils)], 25, true⟩ zblk := ⟨rfl, rfl, id, Nat.le_refl _, fun _ _ => by simp only [zblk, leSegs, leSeg, leC, and_self]⟩
theorem idts {l : List Nat} : ∀ i, i < 1 → nthO (0 :: l) i = some i := by
  intro i h; match i, h with
  | 0, _ => rfl
def retBlk (b0 : BlkS) (i : Nat) : AV := if rightS b0 = true then .tup [.agg (blkL (blockS b0) i), .c (.int .i64 0)] else .tup [.agg [.c (.int .u64 0), .c (.int .i64 0), .c (.int .i64 0), .c (.nils)], .c (.int .i64 4)]
def heapBlk0 (b0 : BlkS) : Heap := if rightS b0 = true then ⟨3, [(2, blkB (blockS b0) 1), (1, opsW (blockS b0).n (blockS b0).f), (0, opsB b0.n b0.f)]⟩ else ⟨2, [(1, zblk), (0, opsB b0.n b0.f)]⟩
def heapBlk (b0 : BlkS) : Heap := if rightS b0 = true then ⟨2, [(1, opsW (blockS b0).n (blockS b0).f), (0, opsB b0.n b0.f)]⟩ else ⟨1, [(0, opsB b0.n b0.f)]⟩
def blkBody : ACode := .block 1
     (.seq (.region C13r5)
     (.seq (.region C13r6)
     (.seq (.seq (.region C13r7)
     (.cond (.t 34)
      (.seq (.region C13r8)
      (.ret))
      (.skip)))
     (.seq (.region C13r9)
     (.seq (.region C13r10)
     (.seq (.seq (.region C13r11)
     (.block 2
      (.loop
       (.seq (.region C13r12)
       (.seq (.cond (.t 44)
        (.skip)
        (.exit 2))
       (.seq (.block 3
        (.seq (.region C13r13)
        (.seq (.region C13r14)
        (.seq (.seq (.region C13r15)
        (.cond (.t 57)
         (.exit 3)
         (.skip)))
        (.seq (.seq (.region C13r16)
        (.seq (.region C13r17)
        (.cond (.t 62)
         (.seq (.region C13r18)
         (.seq (.region C13r19)
         (.cond (.t 70)
          (.region C13r20)
          (.skip))))
         (.skip))))
        (.region C13r21))))))
       (.region C13r22)))))))
     (.region C13r23)))))))
theorem idxF_same {g g' : Nat → Bool} {v : Bool} : ∀ {c j : Nat}, (∀ i, j ≤ i → i < j + c → g i = g' i) → idxF g v c j = idxF g' v c j
  | 0, _, _ => rfl
  | c + 1, j, h => by
    simp only [idxF]
    rw [h j (by omega) (by omega), idxF_same (c := c) (j := j + 1) fun i h1 h2 => h i (by omega) (by omega)]
def atF (g : Nat → Bool) (k : Nat) (i : Nat) : Int := if i < k then (cnt g i : Int) else 0
def atB (n : Nat) (h : Nat → Int) : Blk := ⟨1, some n, fun i => [.c (.int .i64 (h i))], 3, true⟩
theorem at_le {l : List Nat} (n : Nat) (h h' : Nat → Int) (hh : ∀ i, i < n → h i = h' i) : leB l ⟨1, some n, fun i => [.c (.int .i64 (h i))], 3, true⟩ (atB n h') := ⟨rfl, rfl, id, Nat.le_refl _, fun i hi => ⟨⟨rfl, hh i hi⟩, trivial⟩⟩
def inS (b0 b : BlkS) (M : Nat) (gs : Nat → Bool) (i k : Nat) : St := ⟨[⟨43, [], .c (.int .i64 i)⟩, ⟨42, [], .c (.int .i64 b.n)⟩, ⟨41, [], .c (.slice ⟨3, 0, 0, 0⟩ false b.n)⟩, ⟨7, [], .c (.slice ⟨6, 0, 0, 0⟩ false (cnt (seenS b) k))⟩, ⟨6, [], .c (.slice ⟨5, 0, 0, 0⟩ false b.n)⟩, ⟨5, [], .c (.slice ⟨4, 0, 0, 0⟩ false b.n)⟩, ⟨4, [], .c (.slice ⟨4, 0, 0, 0⟩ false M)⟩, ⟨2, [], .c (.ptr ⟨2, 0, 0, 0⟩)⟩, ⟨1, [], .c (.ptr ⟨1, 0, 0, 0⟩)⟩],
  ⟨7, (6, opsW (cnt (seenS b) k) (newF b.f (seenS b) k)) :: (5, atB b.n (atF (seenS b) k)) :: hO b0 b M gs⟩⟩
def in0 (b0 b : BlkS) (M : Nat) (gs : Nat → Bool) : St := ⟨[⟨43, [], .c (.int .i64 0)⟩, ⟨42, [], .c (.int .i64 b.n)⟩, ⟨41, [], .c (.slice ⟨3, 0, 0, 0⟩ false b.n)⟩, ⟨7, [], .c (.nils)⟩, ⟨6, [], .c (.slice ⟨5, 0, 0, 0⟩ false b.n)⟩, ⟨5, [], .c (.slice ⟨4, 0, 0, 0⟩ false b.n)⟩, ⟨4, [], .c (.slice ⟨4, 0, 0, 0⟩ false M)⟩, ⟨2, [], .c (.ptr ⟨2, 0, 0, 0⟩)⟩, ⟨1, [], .c (.ptr ⟨1, 0, 0, 0⟩)⟩],
  ⟨6, (5, atB b.n (fun _ => 0)) :: hO b0 b M gs⟩⟩
theorem right_k0 {b : BlkS} (hr : rightS b = true) : (b.f 0).kind = 14 := by
  unfold rightS head2 at hr
  simp only [Bool.and_eq_true, Bool.not_eq_true', Bool.or_eq_false_iff, bne_eq_false_iff_eq] at hr
  exact hr.1.2.1
def inBody : ACode := .seq (.region C13r12)
       (.seq (.cond (.t 44)
        (.skip)
        (.exit 2))
       (.seq (.block 3
        (.seq (.region C13r13)
        (.seq (.region C13r14)
        (.seq (.seq (.region C13r15)
        (.cond (.t 57)
         (.exit 3)
         (.skip)))
        (.seq (.seq (.region C13r16)
        (.seq (.region C13r17)
        (.cond (.t 62)
         (.seq (.region C13r18)
         (.seq (.region C13r19)
         (.cond (.t 70)
          (.region C13r20)
          (.skip))))
         (.skip))))
        (.region C13r21))))))
       (.region C13r22)))
theorem at_use {g : Nat → Bool} {k c x : Nat} (h : cnt g k = c) (hx : x < k) : (if x = k then (c : Int) else atF g k x) = (cnt g x : Int) := by
  rw [if_neg (by omega)]
  unfold atF
  rw [if_pos hx]
theorem at_next {g : Nat → Bool} {k c : Nat} (h : cnt g k = c) (i : Nat) : (if i = k then (c : Int) else atF g k i) = atF g (k + 1) i := by
  unfold atF
  by_cases e : i = k
  · subst e; rw [if_pos rfl, if_pos (by omega), h]
  · rw [if_neg e]
    by_cases e2 : i < k
    · rw [if_pos e2, if_pos (by omega)]
    · rw [if_neg e2, if_neg (by omega)]
set_option maxHeartbeats 8000000 in
theorem in_round0 (b0 b : BlkS) (M : Nat) (gs : Nat → Bool) (hr : rightS b = true) (hM : b.n ≤ M) (hgs : ∀ i, i < b.n → gs i = seenS b i) {Q : AEx → St → Prop} (h : ∀ s, LeS 1 s (inS b0 b M gs 1 1) → Q .normal s) : runA (Con Try.prog) (LeS 1) [inBody] (in0 b0 b M gs) Q := by
  have hn := right_n hr
  have hs0 : seenS b 0 = true := seen_first hr
  have hg0 : gs 0 = true := by rw [hgs 0 (by omega)]; exact hs0
  have hu0 : usesS (b.f 0).kind = 0 := by rw [right_k0 hr]; decide
  unfold inBody in0 hO
  repeat' (first | refine run_seq ?_ | refine run_skip ?_ | (refine run_region fun K hK => ?_; (try (simp (maxSteps := 10000000) only [opL, opsW, boolsB, atB, Int.toNat_zero, C13r0, C13r1, C13r2, C13r3, C13r4, C13r5, C13r6, C13r7, C13r8, C13r9, C13r10, C13r11, C13r12, C13r13, C13r14, C13r15, C13r17, C13r18, C13r19, C13r20, C13r22, C13r23, rwp_nil, rwp_cons, rwpK_app, aop, gpath, St.get, slotAt, sfx, eqP, segsOf, St.put, addBlk, getB, setB, delB, ld1, ldn, st1, stn, setRow, rowNeed, segAt, nsub, bin, un, eqB, isShift, sameK, arith, shiftR, getsl, selB_or, selB_and, beqb, shed, addN, Nat.beq, Seg.size, sizes, imp, needP, andN, appL, argsOf, ptrsOf, aasOf, cut, takeS, dropS, putS, partsOf, fillS, fieldOf, nthA, negIf, nilq, nilB, eqS, eqF, eqS1, andP, kin, slcS, strOk, plusA, bndHi, leN, optG, roH, roL, initT, exOk, exAll, wrAddr, Nat.reduceAdd, Nat.reduceSub, Nat.reduceMul, Int.reduceToNat, List.append_nil, List.nil_append, List.cons_append, eqT, idxT, cat, cpy, ite_int, ite_bool, ite_seg, ite_segs, ite_nil, ite_twice, Int.toNat_natCast, app, addBs, tob])); (repeat (first | (refine And.intro ?_ ?_; · (first | trivial | assumption | omega)))); with_reducible refine hK _ ?_; clear hK K) | (refine run_cond rfl (fun hc => ?_) (fun hc => ?_) <;> try (simp only [*, Bool.true_eq_false, Bool.false_eq_true, Bool.not_true, Bool.not_false, Bool.true_or, Bool.or_true, Bool.false_or, Bool.or_false, Bool.false_and, Bool.and_false, bne_self_eq_false, beq_self_eq_true] at hc; done)) | refine run_block ?_ | refine run_ret ?_ | refine run_nil ?_ | refine run_exit ?_ | refine blk_normal ?_ | refine blk_ret ?_ | refine blk_here ?_ | refine blk_there rfl ?_ | refine loop_exit ?_ | refine loop_ret ?_ | refine un_exit ?_ | refine un_ret ?_ | refine unE_exit ?_ | refine unE_ret ?_ | refine un_normal ?_)
  · repeat' (first | refine run_seq ?_ | refine run_skip ?_ | (refine run_region fun K hK => ?_; (try (simp (maxSteps := 10000000) only [opL, repl, rowsFit, partsOf, fillS, rowFn, Nat.zero_add, Int.natCast_zero, Int.zero_add, C13r0, C13r1, C13r2, C13r3, C13r4, C13r5, C13r6, C13r7, C13r8, C13r9, C13r10, C13r11, C13r12, C13r13, C13r14, C13r15, C13r16, C13r17, C13r19, C13r21, C13r22, C13r23, rwp_nil, rwp_cons, rwpK_app, aop, gpath, St.get, slotAt, sfx, eqP, segsOf, St.put, addBlk, getB, setB, delB, ld1, ldn, st1, stn, setRow, rowNeed, segAt, nsub, bin, un, eqB, isShift, sameK, arith, shiftR, getsl, selB_or, selB_and, beqb, shed, addN, Nat.beq, Seg.size, sizes, imp, needP, andN, appL, argsOf, ptrsOf, aasOf, cut, takeS, dropS, putS, partsOf, fillS, fieldOf, nthA, negIf, nilq, nilB, eqS, eqF, eqS1, andP, kin, slcS, strOk, plusA, bndHi, leN, optG, roH, roL, initT, exOk, exAll, wrAddr, Nat.reduceAdd, Nat.reduceSub, Nat.reduceMul, Int.reduceToNat, List.append_nil, List.nil_append, List.cons_append, eqT, idxT, cat, cpy, ite_int, ite_bool, ite_seg, ite_segs, ite_nil, ite_twice, Int.toNat_natCast, app, addBs, tob])); (repeat (first | (refine And.intro ?_ ?_; · (first | trivial | assumption | omega | exact ⟨by omega, by omega⟩)) | ((first | (refine call_t _ (con21 (b.f 0) _ _ (by simp [keysLt])) ?_; rintro v H' ⟨rfl, rfl⟩) | refine call_q _ (con21 (b.f 0) _ _ (by simp [keysLt])) ?_ | refine call_g _ (imp_of (con21 (b.f 0) _ _ (by simp [keysLt]))) ?_); simp (maxSteps := 10000000) only [opL, repl, rowsFit, partsOf, fillS, rowFn, Nat.zero_add, Int.natCast_zero, Int.zero_add, C13r0, C13r1, C13r2, C13r3, C13r4, C13r5, C13r6, C13r7, C13r8, C13r9, C13r10, C13r11, C13r12, C13r13, C13r14, C13r15, C13r16, C13r17, C13r19, C13r21, C13r22, C13r23, rwp_nil, rwp_cons, rwpK_app, aop, gpath, St.get, slotAt, sfx, eqP, segsOf, St.put, addBlk, getB, setB, delB, ld1, ldn, st1, stn, setRow, rowNeed, segAt, nsub, bin, un, eqB, isShift, sameK, arith, shiftR, getsl, selB_or, selB_and, beqb, shed, addN, Nat.beq, Seg.size, sizes, imp, needP, andN, appL, argsOf, ptrsOf, aasOf, cut, takeS, dropS, putS, partsOf, fillS, fieldOf, nthA, negIf, nilq, nilB, eqS, eqF, eqS1, andP, kin, slcS, strOk, plusA, bndHi, leN, optG, roH, roL, initT, exOk, exAll, wrAddr, Nat.reduceAdd, Nat.reduceSub, Nat.reduceMul, Int.reduceToNat, List.append_nil, List.nil_append, List.cons_append, eqT, idxT, cat, cpy, ite_int, ite_bool, ite_seg, ite_segs, ite_nil, ite_twice, Int.toNat_natCast, app, addBs, tob]))); with_reducible refine hK _ ?_; clear hK K) | (refine run_cond rfl (fun hc => ?_) (fun hc => ?_) <;> try (simp only [*, Bool.true_eq_false, Bool.false_eq_true, Bool.not_true, Bool.not_false, Bool.true_or, Bool.or_true, Bool.false_or, Bool.or_false, Bool.false_and, Bool.and_false, bne_self_eq_false, beq_self_eq_true] at hc; done)) | refine run_block ?_ | refine run_ret ?_ | refine run_nil ?_ | refine run_exit ?_ | refine blk_normal ?_ | refine blk_ret ?_ | refine blk_here ?_ | refine blk_there rfl ?_ | refine loop_exit ?_ | refine loop_ret ?_ | refine un_exit ?_ | refine un_ret ?_ | refine unE_exit ?_ | refine unE_ret ?_ | refine un_normal ?_)
    · simp [hu0] at hc
    · have hw : IntKind.i64.wrap 1 = 1 := by decide
      have hc1 : cnt (seenS b) 1 = 1 := by simp only [cnt, hs0, if_true, Nat.zero_add]
      refine h _ ?_
      rw [hw]
      refine LeS.intro [0, 1, 2, 3, 4, 5, 9] idts (by simp only [diff, notIn, Nat.beq, and_self]) rfl (by simp only [inS, hc1, slotsLe, slotAt, Nat.beq, leV, leV1, leC, leA, nthO, and_self]; exact ⟨⟨trivial, rfl⟩, trivial⟩) ?_
      refine ⟨⟨rfl, rfl, id, Nat.le_of_eq hc1, fun i hi => ?_⟩, at_le b.n _ _ (fun i hi => ?_), boolsw_le M gs gs (fun _ _ => rfl), opsw_le b.n b.f b.f (fun _ _ => rfl), z_le, blk_le' b 3 3 rfl, ops_le b0.n b0.f false, trivial⟩
      · simp only [opsW, newF, hs0, if_true, cnt, Nat.not_lt_zero, if_false, renS, hu0, Nat.lt_irrefl, opL, leSegs, leSeg, leC, and_self]
      · unfold atF
        by_cases hi : i < 1
        · have : i = 0 := by omega
          subst this
          rfl
        · rw [if_neg hi, if_neg (by omega)]
  · simp at hc
    omega
def exS (b0 b : BlkS) (M : Nat) (gs : Nat → Bool) (k : Nat) : St := ⟨⟨44, [], .c (.bool (decide ((k : Int) < (b.n : Int))))⟩ :: (inS b0 b M gs k k).tmps, (inS b0 b M gs k k).heap⟩
set_option maxHeartbeats 8000000 in
theorem in_round (b0 b : BlkS) (M k : Nat) (gs : Nat → Bool) (hr : rightS b = true) (hM : b.n ≤ M) (hgs : ∀ i, i < b.n → gs i = seenS b i) (hk1 : 1 ≤ k) (hk : k ≤ b.n) {Q : AEx → St → Prop} (h : k < b.n → ∀ s, LeS 1 s (inS b0 b M gs (k + 1) (k + 1)) → Q .normal s) (hx : k = b.n → Q (.exit 2) (exS b0 b M gs k)) : runA (Con Try.prog) (LeS 1) [inBody] (inS b0 b M gs k k) Q := by
  have hn := right_n hr
  have hw : IntKind.i64.wrap ((k : Int) + 1) = ((k + 1 : Nat) : Int) := by rw [IntKind.wrap_i64]; omega
  obtain ⟨c, hc'⟩ : ∃ c, cnt (seenS b) k = c := ⟨_, rfl⟩
  have hck : c ≤ 512 := by have := cnt_le (seenS b) k; omega
  have hx' : k = b.n → Q (.exit 2) ⟨⟨44, [], .c (.bool (decide ((k : Int) < (b.n : Int))))⟩ :: (inS b0 b M gs k k).tmps, (inS b0 b M gs k k).heap⟩ := hx
  unfold inBody
  refine run_seq ?_
  unfold inS hO
  (refine run_regionL fun K hK => ?_; (try (simp (maxSteps := 10000000) only [opL, C13r0, C13r1, C13r2, C13r3, C13r4, C13r5, C13r6, C13r7, C13r8, C13r9, C13r10, C13r11, C13r12, C13r13, C13r14, C13r15, C13r16, C13r17, C13r18, C13r19, C13r20, C13r21, C13r22, C13r23, rwp_nil, rwp_cons, rwpK_app, aop, gpath, St.get, slotAt, sfx, eqP, segsOf, St.put, addBlk, getB, setB, delB, ld1, ldn, st1, stn, setRow, rowNeed, segAt, nsub, bin, un, eqB, isShift, sameK, arith, shiftR, getsl, selB_or, selB_and, beqb, shed, addN, Nat.beq, Seg.size, sizes, imp, needP, andN, appL, argsOf, ptrsOf, aasOf, cut, takeS, dropS, putS, partsOf, fillS, fieldOf, nthA, negIf, nilq, nilB, eqS, eqF, eqS1, andP, kin, slcS, strOk, plusA, bndHi, leN, optG, roH, roL, initT, exOk, exAll, wrAddr, Nat.reduceAdd, Nat.reduceSub, Nat.reduceMul, Int.reduceToNat, List.append_nil, List.nil_append, List.cons_append, eqT, idxT, cat, cpy, ite_int, ite_bool, ite_seg, ite_segs, ite_nil, ite_twice, Int.toNat_natCast, app, addBs, tob])); (repeat (first | (refine And.intro ?_ ?_; · first | trivial | assumption | omega))); refine hK _ (⟨⟨44, [], .c (.bool (decide ((k : Int) < (b.n : Int))))⟩ :: (inS b0 b M gs k k).tmps, (inS b0 b M gs k k).heap⟩) (LeS.intro [0, 1, 2, 3, 4, 5, 6] idts (by simp only [diff, notIn, Nat.beq, and_self]) rfl (by simp only [inS, slotsLe, slotAt, Nat.beq, leV, leV1, leC, leA, nthO, and_self]) ⟨opsw_le _ _ _ (fun _ _ => rfl), at_le b.n _ _ (fun _ _ => rfl), boolsw_le M gs gs (fun _ _ => rfl), opsw_le b.n b.f b.f (fun _ _ => rfl), z_le, blk_le' b 3 3 rfl, ops_le b0.n b0.f false, trivial⟩) ?_; clear hK K)
  refine run_seq (run_cond rfl (fun hlt0 => ?_) (fun hlt0 => ?_))
  rotate_left
  · exact run_exit (hx' (by simp only [decide_eq_false_iff_not] at hlt0; omega))
  clear hx hx'
  unfold inS hO
  rw [hc']
  repeat' (first | refine run_seq ?_ | refine run_skip ?_ | (refine run_region fun K hK => ?_; (try (simp (maxSteps := 10000000) only [opL, opsW, boolsB, atB, hw, C13r0, C13r1, C13r2, C13r3, C13r4, C13r5, C13r6, C13r7, C13r8, C13r9, C13r10, C13r11, C13r12, C13r13, C13r14, C13r15, C13r17, C13r18, C13r19, C13r20, C13r22, C13r23, rwp_nil, rwp_cons, rwpK_app, aop, gpath, St.get, slotAt, sfx, eqP, segsOf, St.put, addBlk, getB, setB, delB, ld1, ldn, st1, stn, setRow, rowNeed, segAt, nsub, bin, un, eqB, isShift, sameK, arith, shiftR, getsl, selB_or, selB_and, beqb, shed, addN, Nat.beq, Seg.size, sizes, imp, needP, andN, appL, argsOf, ptrsOf, aasOf, cut, takeS, dropS, putS, partsOf, fillS, fieldOf, nthA, negIf, nilq, nilB, eqS, eqF, eqS1, andP, kin, slcS, strOk, plusA, bndHi, leN, optG, roH, roL, initT, exOk, exAll, wrAddr, Nat.reduceAdd, Nat.reduceSub, Nat.reduceMul, Int.reduceToNat, List.append_nil, List.nil_append, List.cons_append, eqT, idxT, cat, cpy, ite_int, ite_bool, ite_seg, ite_segs, ite_nil, ite_twice, Int.toNat_natCast, app, addBs, tob])); (repeat (first | (refine And.intro ?_ ?_; · (first | trivial | assumption | (simp only [decide_eq_true_eq] at *; omega))))); with_reducible refine hK _ ?_; clear hK K) | (refine run_cond rfl (fun hc => ?_) (fun hc => ?_) <;> try (simp only [*, Bool.true_eq_false, Bool.false_eq_true, Bool.not_true, Bool.not_false, Bool.true_or, Bool.or_true, Bool.false_or, Bool.or_false, Bool.false_and, Bool.and_false, bne_self_eq_false, beq_self_eq_true] at hc; done)) | refine run_block ?_ | refine run_ret ?_ | refine run_nil ?_ | refine run_exit ?_ | refine blk_normal ?_ | refine blk_ret ?_ | refine blk_here ?_ | refine blk_there rfl ?_ | refine loop_exit ?_ | refine loop_ret ?_ | refine un_exit ?_ | refine un_ret ?_ | refine unE_exit ?_ | refine unE_ret ?_ | refine un_normal ?_)
  · -- gone
    have hlt : k < b.n := by simp only [decide_eq_true_eq] at *; omega
    have hg : seenS b k = false := by rw [← hgs k hlt]; simpa using hc
    have hc1 : cnt (seenS b) (k + 1) = c := by simp only [cnt, hg, Bool.false_eq_true, if_false, Nat.add_zero, hc']
    refine h hlt _ (LeS.intro [0, 1, 2, 3, 4, 5, 6] idts (by simp only [diff, notIn, Nat.beq, and_self]) rfl (by simp only [inS, hc1, slotsLe, slotAt, Nat.beq, leV, leV1, leC, leA, nthO, and_self]) ?_)
    refine ⟨⟨rfl, rfl, id, Nat.le_of_eq hc1, fun i hi => ?_⟩, at_le b.n _ _ (fun i hi => ?_), boolsw_le M gs gs (fun _ _ => rfl), opsw_le b.n b.f b.f (fun _ _ => rfl), z_le, blk_le' b 3 3 rfl, ops_le b0.n b0.f false, trivial⟩
    · simp only [opsW, newF, hg, Bool.false_eq_true, if_false, opL, leSegs, leSeg, leC, and_self]
    · exact at_next hc' i
  · have hlt : k < b.n := by simp only [decide_eq_true_eq] at *; omega
    have hg : seenS b k = true := by rw [← hgs k hlt]; simpa using hc
    have hc1 : cnt (seenS b) (k + 1) = c + 1 := by simp only [cnt, hg, if_true, hc']
    have hU : ∀ i, i < usesS (b.f k).kind → 0 ≤ useF (b.f k) i ∧ useF (b.f k) i < k := fun i hi => ⟨(right_use hr hlt hi).1, (right_use hr hlt hi).2.1⟩
    have hU0 : 0 < usesS (b.f k).kind → 0 ≤ (b.f k).a ∧ (b.f k).a < k := fun h => hU 0 h
    have hU1 : 1 < usesS (b.f k).kind → 0 ≤ (b.f k).b ∧ (b.f k).b < k := fun h => hU 1 h
    clear hc hU
    repeat' (first | refine run_seq ?_ | refine run_skip ?_ | (refine run_region fun K hK => ?_; (try (simp (maxSteps := 10000000) only [opL, repl, rowsFit, partsOf, fillS, rowFn, hw, C13r0, C13r1, C13r2, C13r3, C13r4, C13r5, C13r6, C13r7, C13r8, C13r9, C13r10, C13r11, C13r12, C13r13, C13r14, C13r15, C13r16, C13r17, C13r18, C13r19, C13r20, C13r21, C13r22, C13r23, rwp_nil, rwp_cons, rwpK_app, aop, gpath, St.get, slotAt, sfx, eqP, segsOf, St.put, addBlk, getB, setB, delB, ld1, ldn, st1, stn, setRow, rowNeed, segAt, nsub, bin, un, eqB, isShift, sameK, arith, shiftR, getsl, selB_or, selB_and, beqb, shed, addN, Nat.beq, Seg.size, sizes, imp, needP, andN, appL, argsOf, ptrsOf, aasOf, cut, takeS, dropS, putS, partsOf, fillS, fieldOf, nthA, negIf, nilq, nilB, eqS, eqF, eqS1, andP, kin, slcS, strOk, plusA, bndHi, leN, optG, roH, roL, initT, exOk, exAll, wrAddr, Nat.reduceAdd, Nat.reduceSub, Nat.reduceMul, Int.reduceToNat, List.append_nil, List.nil_append, List.cons_append, eqT, idxT, cat, cpy, ite_int, ite_bool, ite_seg, ite_segs, ite_nil, ite_twice, Int.toNat_natCast, app, addBs, tob])); (repeat (first | (refine And.intro ?_ ?_; · (first | trivial | assumption | (simp only [decide_eq_true_eq] at *; have h9 := hU0 (by omega); omega) | (simp only [decide_eq_true_eq] at *; have h9 := hU1 (by omega); omega) | exact ⟨by omega, by omega⟩ | exact ⟨trivial, by omega, by omega⟩)) | ((first | (refine call_t _ (con21 (b.f k) _ _ (by simp [keysLt])) ?_; rintro v H' ⟨rfl, rfl⟩) | refine call_q _ (con21 (b.f k) _ _ (by simp [keysLt])) ?_ | refine call_g _ (imp_of (con21 (b.f k) _ _ (by simp [keysLt]))) ?_); simp (maxSteps := 10000000) only [opL, repl, rowsFit, partsOf, fillS, rowFn, hw, C13r0, C13r1, C13r2, C13r3, C13r4, C13r5, C13r6, C13r7, C13r8, C13r9, C13r10, C13r11, C13r12, C13r13, C13r14, C13r15, C13r16, C13r17, C13r18, C13r19, C13r20, C13r21, C13r22, C13r23, rwp_nil, rwp_cons, rwpK_app, aop, gpath, St.get, slotAt, sfx, eqP, segsOf, St.put, addBlk, getB, setB, delB, ld1, ldn, st1, stn, setRow, rowNeed, segAt, nsub, bin, un, eqB, isShift, sameK, arith, shiftR, getsl, selB_or, selB_and, beqb, shed, addN, Nat.beq, Seg.size, sizes, imp, needP, andN, appL, argsOf, ptrsOf, aasOf, cut, takeS, dropS, putS, partsOf, fillS, fieldOf, nthA, negIf, nilq, nilB, eqS, eqF, eqS1, andP, kin, slcS, strOk, plusA, bndHi, leN, optG, roH, roL, initT, exOk, exAll, wrAddr, Nat.reduceAdd, Nat.reduceSub, Nat.reduceMul, Int.reduceToNat, List.append_nil, List.nil_append, List.cons_append, eqT, idxT, cat, cpy, ite_int, ite_bool, ite_seg, ite_segs, ite_nil, ite_twice, Int.toNat_natCast, app, addBs, tob]))); with_reducible refine hK _ ?_; clear hK K) | (refine run_cond rfl (fun hc => ?_) (fun hc => ?_) <;> try (simp only [*, Bool.true_eq_false, Bool.false_eq_true, Bool.not_true, Bool.not_false, Bool.true_or, Bool.or_true, Bool.false_or, Bool.or_false, Bool.false_and, Bool.and_false, bne_self_eq_false, beq_self_eq_true] at hc; done)) | refine run_block ?_ | refine run_ret ?_ | refine run_nil ?_ | refine run_exit ?_ | refine blk_normal ?_ | refine blk_ret ?_ | refine blk_here ?_ | refine blk_there rfl ?_ | refine loop_exit ?_ | refine loop_ret ?_ | refine un_exit ?_ | refine un_ret ?_ | refine unE_exit ?_ | refine unE_ret ?_ | refine un_normal ?_)
    · simp only [decide_eq_true_eq] at *
      have a0 := hU0 (by omega)
      have a1 := hU1 (by omega)
      have e0 : 0 < usesS (b.f k).kind := by omega
      have e1 : 1 < usesS (b.f k).kind := by omega
      have f0 := at_use hc' (show (b.f k).a.toNat < k by omega)
      have f1 := at_use hc' (show (b.f k).b.toNat < k by omega)
      refine h hlt _ (LeS.intro [0, 1, 2, 3, 4, 5, 10] idts (by simp only [diff, notIn, Nat.beq, and_self]) rfl (by simp only [inS, hc1, slotsLe, slotAt, Nat.beq, leV, leV1, leC, leA, nthO, and_self]) ?_)
      refine ⟨⟨rfl, rfl, id, Nat.le_of_eq hc1, fun i hi => ?_⟩, at_le b.n _ _ (fun i hi => at_next hc' i), boolsw_le M gs gs (fun _ _ => rfl), opsw_le b.n b.f b.f (fun _ _ => rfl), z_le, blk_le' b 3 3 rfl, ops_le b0.n b0.f false, trivial⟩
      by_cases e : i < c <;> simp only [rowsApp, opsW, newF, hg, if_true, hc', e, if_false, renS, e0, e1, f0, f1, opL, leSegs, leSeg, leC, and_self]
    · simp only [decide_eq_true_eq, decide_eq_false_iff_not] at *
      have a0 := hU0 (by omega)
      have e0 : 0 < usesS (b.f k).kind := by omega
      have e1 : ¬ 1 < usesS (b.f k).kind := by omega
      have f0 := at_use hc' (show (b.f k).a.toNat < k by omega)
      refine h hlt _ (LeS.intro [0, 1, 2, 3, 4, 5, 10] idts (by simp only [diff, notIn, Nat.beq, and_self]) rfl (by simp only [inS, hc1, slotsLe, slotAt, Nat.beq, leV, leV1, leC, leA, nthO, and_self]) ?_)
      refine ⟨⟨rfl, rfl, id, Nat.le_of_eq hc1, fun i hi => ?_⟩, at_le b.n _ _ (fun i hi => at_next hc' i), boolsw_le M gs gs (fun _ _ => rfl), opsw_le b.n b.f b.f (fun _ _ => rfl), z_le, blk_le' b 3 3 rfl, ops_le b0.n b0.f false, trivial⟩
      by_cases e : i < c <;> simp only [rowsApp, opsW, newF, hg, if_true, hc', e, if_false, renS, e0, e1, f0, opL, leSegs, leSeg, leC, and_self]
    · simp only [decide_eq_true_eq, decide_eq_false_iff_not] at *
      have e0 : ¬ 0 < usesS (b.f k).kind := by omega
      have e1 : ¬ 1 < usesS (b.f k).kind := by omega
      refine h hlt _ (LeS.intro [0, 1, 2, 3, 4, 5, 10] idts (by simp only [diff, notIn, Nat.beq, and_self]) rfl (by simp only [inS, hc1, slotsLe, slotAt, Nat.beq, leV, leV1, leC, leA, nthO, and_self]) ?_)
      refine ⟨⟨rfl, rfl, id, Nat.le_of_eq hc1, fun i hi => ?_⟩, at_le b.n _ _ (fun i hi => at_next hc' i), boolsw_le M gs gs (fun _ _ => rfl), opsw_le b.n b.f b.f (fun _ _ => rfl), z_le, blk_le' b 3 3 rfl, ops_le b0.n b0.f false, trivial⟩
      by_cases e : i < c <;> simp only [rowsApp, opsW, newF, hg, if_true, hc', e, if_false, renS, e0, e1, opL, leSegs, leSeg, leC, and_self]
theorem in_loop (b0 b : BlkS) (M : Nat) (gs : Nat → Bool) (hr : rightS b = true) (hM : b.n ≤ M) (hgs : ∀ i, i < b.n → gs i = seenS b i) {k : List ACode} {Q : AEx → St → Prop} (hend : Q (.exit 2) (exS b0 b M gs b.n)) : runA (Con Try.prog) (LeS 1) (.loop inBody :: k) (in0 b0 b M gs) Q := by
  have hn := right_n hr
  refine run_loop (fun m s => (m = b.n + 1 ∧ s = in0 b0 b M gs) ∨ ∃ k, 1 ≤ k ∧ k ≤ b.n ∧ m = b.n - k ∧ s = inS b0 b M gs k k) (b.n + 1) (.inl ⟨rfl, rfl⟩) ?_
  rintro m s (⟨rfl, rfl⟩ | ⟨k, h1, h2, rfl, rfl⟩)
  · exact in_round0 b0 b M gs hr hM hgs fun s hs => loop_normal (b.n - 1) _ (by omega) hs (.inr ⟨1, Nat.le_refl _, hn.1, rfl, rfl⟩)
  · refine in_round b0 b M k gs hr hM hgs h1 h2 (fun hlt s hs => loop_normal (b.n - (k + 1)) _ (by omega) hs (.inr ⟨k + 1, by omega, hlt, rfl, rfl⟩)) fun e => loop_exit ?_
    subst e
    exact hend
def endB (b0 b : BlkS) : St := ⟨[⟨2, [], .c (.ptr ⟨2, 0, 0, 0⟩)⟩, ⟨3, [], .c (.int .i64 0)⟩], ⟨3, [(2, blkB b 1), (1, opsW b.n b.f), (0, opsB b0.n b0.f)]⟩⟩
theorem out_round (b0 b : BlkS) (M : Nat) (g : Nat → Bool) (hr : rightS b = true) (hM : b.n ≤ M) {Q : AEx → St → Prop} (hret : allS b = true → ∀ s, LeS 1 s (endB b0 b) → Q .ret s) (hnext : allS b = false → ∀ g' s, LeS 1 s (stO b0 (withS b) M g') → Q .normal s) : runA (Con Try.prog) (LeS 1) [blkBody] (stO b0 b M g) Q := by
  have hn := right_n hr
  have hU := right_U hr
  have hall : (!decide (idxF (markN b.f b.n g b.n) false b.n 0 ≥ 0)) = allS b := by
    unfold allS
    rw [idxF_same (g := markN b.f b.n g b.n) (g' := seenS b) fun i _ hi => seenS_of b g (by omega)]
  unfold blkBody stO hO
  repeat' (first | refine run_seq ?_ | refine run_skip ?_ | (refine run_region fun K hK => ?_; (try (simp (maxSteps := 10000000) only [opL, opsW, boolsB, blkB, blkL, zblk, Nat.sub_zero, C13r0, C13r1, C13r2, C13r3, C13r4, C13r5, C13r6, C13r7, C13r8, C13r9, C13r10, C13r12, C13r13, C13r14, C13r15, C13r16, C13r17, C13r18, C13r19, C13r20, C13r21, C13r22, rwp_nil, rwp_cons, rwpK_app, aop, gpath, St.get, slotAt, sfx, eqP, segsOf, St.put, addBlk, getB, setB, delB, ld1, ldn, st1, stn, setRow, rowNeed, segAt, nsub, bin, un, eqB, isShift, sameK, arith, shiftR, getsl, selB_or, selB_and, beqb, shed, addN, Nat.beq, Seg.size, sizes, imp, needP, andN, appL, argsOf, ptrsOf, aasOf, cut, takeS, dropS, putS, partsOf, fillS, fieldOf, nthA, negIf, nilq, nilB, eqS, eqF, eqS1, andP, kin, slcS, strOk, plusA, bndHi, leN, optG, roH, roL, initT, exOk, exAll, wrAddr, Nat.reduceAdd, Nat.reduceSub, Nat.reduceMul, Int.reduceToNat, List.append_nil, List.nil_append, List.cons_append, eqT, idxT, cat, cpy, ite_int, ite_bool, ite_seg, ite_segs, ite_nil, ite_twice, Int.toNat_natCast, app, addBs, tob])); (repeat (first | (refine And.intro ?_ ?_; · (first | trivial | assumption | omega)) | ((first | (refine call_t _ (con38_at b.f b.n M g hM (by omega) hU 3 4 _ _ _ rfl rfl rfl (Nat.le_of_ble_eq_true rfl) (Nat.le_of_ble_eq_true rfl) (by simp [keysLt])) ?_; rintro v H' ⟨rfl, rfl⟩) | refine call_q _ (con38_at b.f b.n M g hM (by omega) hU 3 4 _ _ _ rfl rfl rfl (Nat.le_of_ble_eq_true rfl) (Nat.le_of_ble_eq_true rfl) (by simp [keysLt])) ?_ | refine call_g _ (imp_of (con38_at b.f b.n M g hM (by omega) hU 3 4 _ _ _ rfl rfl rfl (Nat.le_of_ble_eq_true rfl) (Nat.le_of_ble_eq_true rfl) (by simp [keysLt]))) ?_ | (refine call_t _ (con40_at b.n M (markN b.f b.n g b.n) false hM (by omega) 4 _ _ _ rfl (Nat.le_of_ble_eq_true rfl) (by simp [roL, keysLt])) ?_; rintro v H' ⟨rfl, rfl⟩) | refine call_q _ (con40_at b.n M (markN b.f b.n g b.n) false hM (by omega) 4 _ _ _ rfl (Nat.le_of_ble_eq_true rfl) (by simp [roL, keysLt])) ?_ | refine call_g _ (imp_of (con40_at b.n M (markN b.f b.n g b.n) false hM (by omega) 4 _ _ _ rfl (Nat.le_of_ble_eq_true rfl) (by simp [roL, keysLt]))) ?_); simp (maxSteps := 10000000) only [opL, opsW, boolsB, blkB, blkL, zblk, Nat.sub_zero, C13r0, C13r1, C13r2, C13r3, C13r4, C13r5, C13r6, C13r7, C13r8, C13r9, C13r10, C13r12, C13r13, C13r14, C13r15, C13r16, C13r17, C13r18, C13r19, C13r20, C13r21, C13r22, rwp_nil, rwp_cons, rwpK_app, aop, gpath, St.get, slotAt, sfx, eqP, segsOf, St.put, addBlk, getB, setB, delB, ld1, ldn, st1, stn, setRow, rowNeed, segAt, nsub, bin, un, eqB, isShift, sameK, arith, shiftR, getsl, selB_or, selB_and, beqb, shed, addN, Nat.beq, Seg.size, sizes, imp, needP, andN, appL, argsOf, ptrsOf, aasOf, cut, takeS, dropS, putS, partsOf, fillS, fieldOf, nthA, negIf, nilq, nilB, eqS, eqF, eqS1, andP, kin, slcS, strOk, plusA, bndHi, leN, optG, roH, roL, initT, exOk, exAll, wrAddr, Nat.reduceAdd, Nat.reduceSub, Nat.reduceMul, Int.reduceToNat, List.append_nil, List.nil_append, List.cons_append, eqT, idxT, cat, cpy, ite_int, ite_bool, ite_seg, ite_segs, ite_nil, ite_twice, Int.toNat_natCast, app, addBs, tob]))); with_reducible refine hK _ ?_; clear hK K) | (refine run_cond rfl (fun hc => ?_) (fun hc => ?_) <;> try (simp only [*, Bool.true_eq_false, Bool.false_eq_true, Bool.not_true, Bool.not_false, Bool.true_or, Bool.or_true, Bool.false_or, Bool.or_false, Bool.false_and, Bool.and_false, bne_self_eq_false, beq_self_eq_true] at hc; done)) | refine run_block ?_ | refine run_ret ?_ | refine run_nil ?_ | refine run_exit ?_ | refine blk_normal ?_ | refine blk_ret ?_ | refine blk_here ?_ | refine blk_there rfl ?_ | refine loop_exit ?_ | refine loop_ret ?_ | refine un_exit ?_ | refine un_ret ?_ | refine unE_exit ?_ | refine unE_ret ?_ | refine un_normal ?_)
  · rw [hall] at hc
    exact hret hc _ (LeS.intro [0, 3, 2] idts (by simp only [diff, notIn, Nat.beq, and_self]) rfl (by simp only [endB, slotsLe, slotAt, Nat.beq, leV, leV1, leC, leA, nthO, and_self]) ⟨blk_le' b 3 1 rfl, opsw_le b.n b.f b.f (fun _ _ => rfl), ops_le b0.n b0.f false, trivial⟩)
  · rw [hall] at hc
    (refine run_regionL fun K hK => ?_; (try (simp (maxSteps := 10000000) only [opL, opsW, boolsB, blkB, blkL, zblk, C13r0, C13r1, C13r2, C13r3, C13r4, C13r5, C13r6, C13r7, C13r8, C13r9, C13r10, C13r11, C13r12, C13r13, C13r14, C13r15, C13r16, C13r17, C13r18, C13r19, C13r20, C13r21, C13r22, C13r23, rwp_nil, rwp_cons, rwpK_app, aop, gpath, St.get, slotAt, sfx, eqP, segsOf, St.put, addBlk, getB, setB, delB, ld1, ldn, st1, stn, setRow, rowNeed, segAt, nsub, bin, un, eqB, isShift, sameK, arith, shiftR, getsl, selB_or, selB_and, beqb, shed, addN, Nat.beq, Seg.size, sizes, imp, needP, andN, appL, argsOf, ptrsOf, aasOf, cut, takeS, dropS, putS, partsOf, fillS, fieldOf, nthA, negIf, nilq, nilB, eqS, eqF, eqS1, andP, kin, slcS, strOk, plusA, bndHi, leN, optG, roH, roL, initT, exOk, exAll, wrAddr, Nat.reduceAdd, Nat.reduceSub, Nat.reduceMul, Int.reduceToNat, List.append_nil, List.nil_append, List.cons_append, eqT, idxT, cat, cpy, ite_int, ite_bool, ite_seg, ite_segs, ite_nil, ite_twice, Int.toNat_natCast, app, addBs, tob])); (repeat (first | (refine And.intro ?_ ?_; · first | trivial | assumption | omega))); refine hK _ (in0 b0 b M (markN b.f b.n g b.n)) (LeS.intro [0, 1, 2, 3, 4, 5] idts (by simp only [diff, notIn, Nat.beq, and_self]) rfl (by simp only [in0, slotsLe, slotAt, Nat.beq, leV, leV1, leC, leA, nthO, Int.toNat_natCast, and_self]) ⟨at_le b.n _ _ (fun _ _ => rfl), boolsw_le M _ _ (fun _ _ => rfl), opsw_le b.n b.f b.f (fun _ _ => rfl), z_le, blk_le' b 3 3 rfl, ops_le b0.n b0.f false, trivial⟩) ?_; clear hK K)
    refine run_block (in_loop b0 b M _ hr hM (fun i hi => seenS_of b g hi) (blk_here ?_))
    unfold exS inS hO
    repeat' (first | refine run_seq ?_ | refine run_skip ?_ | (refine run_region fun K hK => ?_; (try (simp (maxSteps := 10000000) only [opL, blkB, blkL, C13r0, C13r1, C13r2, C13r3, C13r4, C13r5, C13r6, C13r7, C13r8, C13r9, C13r10, C13r11, C13r12, C13r13, C13r14, C13r15, C13r16, C13r17, C13r18, C13r19, C13r20, C13r21, C13r22, C13r23, rwp_nil, rwp_cons, rwpK_app, aop, gpath, St.get, slotAt, sfx, eqP, segsOf, St.put, addBlk, getB, setB, delB, ld1, ldn, st1, stn, setRow, rowNeed, segAt, nsub, bin, un, eqB, isShift, sameK, arith, shiftR, getsl, selB_or, selB_and, beqb, shed, addN, Nat.beq, Seg.size, sizes, imp, needP, andN, appL, argsOf, ptrsOf, aasOf, cut, takeS, dropS, putS, partsOf, fillS, fieldOf, nthA, negIf, nilq, nilB, eqS, eqF, eqS1, andP, kin, slcS, strOk, plusA, bndHi, leN, optG, roH, roL, initT, exOk, exAll, wrAddr, Nat.reduceAdd, Nat.reduceSub, Nat.reduceMul, Int.reduceToNat, List.append_nil, List.nil_append, List.cons_append, eqT, idxT, cat, cpy, ite_int, ite_bool, ite_seg, ite_segs, ite_nil, ite_twice, Int.toNat_natCast, app, addBs, tob])); (repeat (first | (refine And.intro ?_ ?_; · first | trivial | assumption | omega))); with_reducible refine hK _ ?_; clear hK K) | (refine run_cond rfl (fun hc => ?_) (fun hc => ?_) <;> try (simp only [*, Bool.true_eq_false, Bool.false_eq_true, Bool.not_true, Bool.not_false, Bool.true_or, Bool.or_true, Bool.false_or, Bool.or_false, Bool.false_and, Bool.and_false, bne_self_eq_false, beq_self_eq_true] at hc; done)) | refine run_block ?_ | refine run_ret ?_ | refine run_nil ?_ | refine run_exit ?_ | refine blk_normal ?_ | refine blk_ret ?_ | refine blk_here ?_ | refine blk_there rfl ?_ | refine loop_exit ?_ | refine loop_ret ?_ | refine un_exit ?_ | refine un_ret ?_ | refine unE_exit ?_ | refine unE_ret ?_ | refine un_normal ?_)
    exact hnext hc (markN b.f b.n g b.n) _ (LeS.intro [0, 1, 2, 6, 4] idts (by simp only [diff, notIn, Nat.beq, and_self]) rfl (by simp only [stO, slotsLe, slotAt, Nat.beq, leV, leV1, leC, leA, nthO, and_self]) ⟨boolsw_le M _ _ (fun _ _ => rfl), opsw_le _ _ _ (fun _ _ => rfl), z_le, blk_le' (withS b) 6 3 rfl, ops_le b0.n b0.f false, trivial⟩)
theorem blkIt_le {t : Nat} {b : BlkS} (h : allS b = true) : blkIt t b = b := by
  cases t with
  | zero => rfl
  | succ t => simp only [blkIt, h, if_true]
theorem con13_0 (b0 : BlkS) : Con Try.prog 13 [.agg (blkL b0 0)] ⟨1, [(0, opsB b0.n b0.f)]⟩ (fun v H' => v = retBlk b0 1 ∧ H' = heapBlk0 b0) := by
  (refine con_of_run mixed (fn := Try.f13) (by kernel_rfl) (by kernel_rfl) C13_ok (rs := [.cn 4 2, .tmp 3]) (by kernel_rfl) (Nat.le_of_ble_eq_true (by kernel_rfl)) ?_; unfold C13; simp only [initT, Nat.reduceAdd])
  repeat' (first | refine run_seq ?_ | refine run_skip ?_ | (refine run_region fun K hK => ?_; (try (simp (maxSteps := 10000000) only [opL, blkL, opsB, partsOf, fillS, C13r0, C13r1, C13r2, C13r4, C13r5, C13r6, C13r7, C13r8, C13r9, C13r10, C13r11, C13r12, C13r13, C13r14, C13r15, C13r16, C13r17, C13r18, C13r19, C13r20, C13r21, C13r22, C13r23, rwp_nil, rwp_cons, rwpK_app, aop, gpath, St.get, slotAt, sfx, eqP, segsOf, St.put, addBlk, getB, setB, delB, ld1, ldn, st1, stn, setRow, rowNeed, segAt, nsub, bin, un, eqB, isShift, sameK, arith, shiftR, getsl, selB_or, selB_and, beqb, shed, addN, Nat.beq, Seg.size, sizes, imp, needP, andN, appL, argsOf, ptrsOf, aasOf, cut, takeS, dropS, putS, partsOf, fillS, fieldOf, nthA, negIf, nilq, nilB, eqS, eqF, eqS1, andP, kin, slcS, strOk, plusA, bndHi, leN, optG, roH, roL, initT, exOk, exAll, wrAddr, Nat.reduceAdd, Nat.reduceSub, Nat.reduceMul, Int.reduceToNat, List.append_nil, List.nil_append, List.cons_append, eqT, idxT, cat, cpy, ite_int, ite_bool, ite_seg, ite_segs, ite_nil, ite_twice, Int.toNat_natCast, app, addBs, tob])); (repeat (first | (refine And.intro ?_ ?_; · (first | trivial | assumption | omega)) | ((first | (refine call_t _ (con37_at b0 0 _ _ _ rfl (Nat.le_of_ble_eq_true rfl) (by simp [keysLt])) ?_; rintro v H' ⟨rfl, rfl⟩) | refine call_q _ (con37_at b0 0 _ _ _ rfl (Nat.le_of_ble_eq_true rfl) (by simp [keysLt])) ?_ | refine call_g _ (imp_of (con37_at b0 0 _ _ _ rfl (Nat.le_of_ble_eq_true rfl) (by simp [keysLt]))) ?_); simp (maxSteps := 10000000) only [opL, blkL, opsB, partsOf, fillS, C13r0, C13r1, C13r2, C13r4, C13r5, C13r6, C13r7, C13r8, C13r9, C13r10, C13r11, C13r12, C13r13, C13r14, C13r15, C13r16, C13r17, C13r18, C13r19, C13r20, C13r21, C13r22, C13r23, rwp_nil, rwp_cons, rwpK_app, aop, gpath, St.get, slotAt, sfx, eqP, segsOf, St.put, addBlk, getB, setB, delB, ld1, ldn, st1, stn, setRow, rowNeed, segAt, nsub, bin, un, eqB, isShift, sameK, arith, shiftR, getsl, selB_or, selB_and, beqb, shed, addN, Nat.beq, Seg.size, sizes, imp, needP, andN, appL, argsOf, ptrsOf, aasOf, cut, takeS, dropS, putS, partsOf, fillS, fieldOf, nthA, negIf, nilq, nilB, eqS, eqF, eqS1, andP, kin, slcS, strOk, plusA, bndHi, leN, optG, roH, roL, initT, exOk, exAll, wrAddr, Nat.reduceAdd, Nat.reduceSub, Nat.reduceMul, Int.reduceToNat, List.append_nil, List.nil_append, List.cons_append, eqT, idxT, cat, cpy, ite_int, ite_bool, ite_seg, ite_segs, ite_nil, ite_twice, Int.toNat_natCast, app, addBs, tob]))); with_reducible refine hK _ ?_; clear hK K) | (refine run_cond rfl (fun hc => ?_) (fun hc => ?_) <;> try (simp only [*, Bool.true_eq_false, Bool.false_eq_true, Bool.not_true, Bool.not_false, Bool.true_or, Bool.or_true, Bool.false_or, Bool.or_false, Bool.false_and, Bool.and_false, bne_self_eq_false, beq_self_eq_true] at hc; done)) | refine run_block ?_ | refine run_ret ?_ | refine run_nil ?_ | refine run_exit ?_ | refine blk_normal ?_ | refine blk_ret ?_ | refine blk_here ?_ | refine blk_there rfl ?_ | refine loop_exit ?_ | refine loop_ret ?_ | refine un_exit ?_ | refine un_ret ?_ | refine unE_exit ?_ | refine unE_ret ?_ | refine un_normal ?_)
  · have hr : rightS b0 = false := by simpa using hc
    refine end_of ⟨[⟨2, [], .c (.ptr ⟨1, 0, 0, 0⟩)⟩, ⟨3, [], .c (.int .i64 4)⟩], ⟨2, [(1, zblk), (0, opsB b0.n b0.f)]⟩⟩ (LeS.intro [0, 2] idts (by simp only [diff, notIn, Nat.beq, and_self]) rfl (by simp only [slotsLe, slotAt, Nat.beq, leV, leV1, leC, leA, nthO, and_self]) ⟨z_le, ops_le b0.n b0.f false, trivial⟩) ?_
    simp only [endF, resL, resA, St.get, slotAt, Nat.beq, sfx, eqP, ldn, getB, zblk, rowNeed, cut, dropS, takeS, Seg.size, nsub, noTup, resV]
    exact ⟨by simp only [retBlk, hr, Bool.false_eq_true, if_false], by simp only [heapBlk0, hr, Bool.false_eq_true, if_false, zblk]⟩
  · have hr : rightS b0 = true := by simpa using hc
    have hn := right_n hr
    repeat' (first | refine run_seq ?_ | refine run_skip ?_ | (refine run_region fun K hK => ?_; (try (simp (maxSteps := 10000000) only [opL, blkL, opsB, Nat.sub_zero, C13r0, C13r1, C13r2, C13r3, C13r5, C13r6, C13r7, C13r8, C13r9, C13r10, C13r11, C13r12, C13r13, C13r14, C13r15, C13r16, C13r17, C13r18, C13r19, C13r20, C13r21, C13r22, C13r23, rwp_nil, rwp_cons, rwpK_app, aop, gpath, St.get, slotAt, sfx, eqP, segsOf, St.put, addBlk, getB, setB, delB, ld1, ldn, st1, stn, setRow, rowNeed, segAt, nsub, bin, un, eqB, isShift, sameK, arith, shiftR, getsl, selB_or, selB_and, beqb, shed, addN, Nat.beq, Seg.size, sizes, imp, needP, andN, appL, argsOf, ptrsOf, aasOf, cut, takeS, dropS, putS, partsOf, fillS, fieldOf, nthA, negIf, nilq, nilB, eqS, eqF, eqS1, andP, kin, slcS, strOk, plusA, bndHi, leN, optG, roH, roL, initT, exOk, exAll, wrAddr, Nat.reduceAdd, Nat.reduceSub, Nat.reduceMul, Int.reduceToNat, List.append_nil, List.nil_append, List.cons_append, eqT, idxT, cat, cpy, ite_int, ite_bool, ite_seg, ite_segs, ite_nil, ite_twice, Int.toNat_natCast, app, addBs, tob])); (repeat (first | (refine And.intro ?_ ?_; · (first | trivial | assumption | omega)) | ((first | (refine call_t _ (con39_at b0.n b0.f hn.1 hn.2 0 _ _ _ rfl (Nat.le_of_ble_eq_true rfl) (by simp [keysLt])) ?_; rintro v H' ⟨rfl, rfl⟩) | refine call_q _ (con39_at b0.n b0.f hn.1 hn.2 0 _ _ _ rfl (Nat.le_of_ble_eq_true rfl) (by simp [keysLt])) ?_ | refine call_g _ (imp_of (con39_at b0.n b0.f hn.1 hn.2 0 _ _ _ rfl (Nat.le_of_ble_eq_true rfl) (by simp [keysLt]))) ?_); simp (maxSteps := 10000000) only [opL, blkL, opsB, Nat.sub_zero, C13r0, C13r1, C13r2, C13r3, C13r5, C13r6, C13r7, C13r8, C13r9, C13r10, C13r11, C13r12, C13r13, C13r14, C13r15, C13r16, C13r17, C13r18, C13r19, C13r20, C13r21, C13r22, C13r23, rwp_nil, rwp_cons, rwpK_app, aop, gpath, St.get, slotAt, sfx, eqP, segsOf, St.put, addBlk, getB, setB, delB, ld1, ldn, st1, stn, setRow, rowNeed, segAt, nsub, bin, un, eqB, isShift, sameK, arith, shiftR, getsl, selB_or, selB_and, beqb, shed, addN, Nat.beq, Seg.size, sizes, imp, needP, andN, appL, argsOf, ptrsOf, aasOf, cut, takeS, dropS, putS, partsOf, fillS, fieldOf, nthA, negIf, nilq, nilB, eqS, eqF, eqS1, andP, kin, slcS, strOk, plusA, bndHi, leN, optG, roH, roL, initT, exOk, exAll, wrAddr, Nat.reduceAdd, Nat.reduceSub, Nat.reduceMul, Int.reduceToNat, List.append_nil, List.nil_append, List.cons_append, eqT, idxT, cat, cpy, ite_int, ite_bool, ite_seg, ite_segs, ite_nil, ite_twice, Int.toNat_natCast, app, addBs, tob]))); with_reducible refine hK _ ?_; clear hK K) | (refine run_cond rfl (fun hc => ?_) (fun hc => ?_) <;> try (simp only [*, Bool.true_eq_false, Bool.false_eq_true, Bool.not_true, Bool.not_false, Bool.true_or, Bool.or_true, Bool.false_or, Bool.or_false, Bool.false_and, Bool.and_false, bne_self_eq_false, beq_self_eq_true] at hc; done)) | refine run_block ?_ | refine run_ret ?_ | refine run_nil ?_ | refine run_exit ?_ | refine blk_normal ?_ | refine blk_ret ?_ | refine blk_here ?_ | refine blk_there rfl ?_ | refine loop_exit ?_ | refine loop_ret ?_ | refine un_exit ?_ | refine un_ret ?_ | refine unE_exit ?_ | refine unE_ret ?_ | refine un_normal ?_)
    (refine run_regionL fun K hK => ?_; (try (simp (maxSteps := 10000000) only [opL, opsW, blkB, blkL, Int.toNat_natCast, C13r0, C13r1, C13r2, C13r3, C13r4, C13r5, C13r6, C13r7, C13r8, C13r9, C13r10, C13r11, C13r12, C13r13, C13r14, C13r15, C13r16, C13r17, C13r18, C13r19, C13r20, C13r21, C13r22, C13r23, rwp_nil, rwp_cons, rwpK_app, aop, gpath, St.get, slotAt, sfx, eqP, segsOf, St.put, addBlk, getB, setB, delB, ld1, ldn, st1, stn, setRow, rowNeed, segAt, nsub, bin, un, eqB, isShift, sameK, arith, shiftR, getsl, selB_or, selB_and, beqb, shed, addN, Nat.beq, Seg.size, sizes, imp, needP, andN, appL, argsOf, ptrsOf, aasOf, cut, takeS, dropS, putS, partsOf, fillS, fieldOf, nthA, negIf, nilq, nilB, eqS, eqF, eqS1, andP, kin, slcS, strOk, plusA, bndHi, leN, optG, roH, roL, initT, exOk, exAll, wrAddr, Nat.reduceAdd, Nat.reduceSub, Nat.reduceMul, Int.reduceToNat, List.append_nil, List.nil_append, List.cons_append, eqT, idxT, cat, cpy, ite_int, ite_bool, ite_seg, ite_segs, ite_nil, ite_twice, Int.toNat_natCast, app, addBs, tob])); (repeat (first | (refine And.intro ?_ ?_; · (first | trivial | omega | exact ⟨by omega, by omega, by omega⟩)))); refine hK _ (stO b0 b0 b0.n (fun _ => false)) (LeS.intro [0, 1, 2, 3, 4] idts (by simp only [diff, notIn, Nat.beq, and_self]) rfl (by simp only [stO, slotsLe, slotAt, Nat.beq, leV, leV1, leC, leA, nthO, and_self]) ⟨boolsw_le b0.n _ _ (fun _ _ => rfl), opsw_le b0.n b0.f b0.f (fun _ _ => rfl), z_le, blk_le' b0 3 3 rfl, ops_le b0.n b0.f false, trivial⟩) ?_; clear hK K)
    refine run_block ?_
    refine run_loop (fun m s => ∃ t b g, m = b.n ∧ rightS b = true ∧ b.n ≤ b0.n ∧ b.n ≤ t ∧ blkIt t b = blockS b0 ∧ s = stO b0 b b0.n g) b0.n ⟨b0.n, b0, _, rfl, hr, Nat.le_refl _, Nat.le_refl _, rfl, rfl⟩ ?_
    rintro m s ⟨t, b, g, rfl, hrb, hb, ht, he, rfl⟩
    have hnb := right_n hrb
    refine out_round b0 b b0.n g hrb hb (fun ha s hs => loop_ret (blk_ret (end_of _ hs ?_))) (fun ha g' s hs => ?_)
    · have e : blockS b0 = b := by rw [← he]; exact blkIt_le ha
      simp only [endF, resL, resA, endB, St.get, slotAt, Nat.beq, sfx, eqP, ldn, getB, blkB, blkL, rowNeed, cut, dropS, takeS, Seg.size, nsub, noTup, resV]
      exact ⟨by simp only [retBlk, hr, if_true, e, blkL], by simp only [heapBlk0, hr, if_true, e, blkB, blkL]⟩
    · obtain ⟨t', rfl⟩ : ∃ t', t = t' + 1 := ⟨t - 1, by omega⟩
      have hlt := with_lt ha
      refine loop_normal (withS b).n _ hlt hs ⟨t', withS b, g', rfl, right_with hrb, by omega, by omega, ?_, rfl⟩
      rw [← he]
      simp only [blkIt, ha, Bool.false_eq_true, if_false]
theorem con13 (b0 : BlkS) : Con Try.prog 13 [.agg (blkL b0 0)] ⟨1, [(0, opsB b0.n b0.f)]⟩ (fun v H' => v = retBlk b0 1 ∧ H' = heapBlk b0) := by
  refine Con.forget (con13_0 b0) ?_
  rintro v H' ⟨rfl, rfl⟩
  by_cases hr : rightS b0 = true
  · refine ⟨_, heapBlk b0, [0, 1], idts, (by simp only [diff, notIn, Nat.beq, and_self]), by simp only [heapBlk, hr, if_true]; rfl, ?_, ?_, rfl, rfl⟩
    · simp only [heapBlk0, heapBlk, hr, if_true]
      exact ⟨opsw_le _ _ _ (fun _ _ => rfl), ops_le b0.n b0.f false, trivial⟩
    · simp only [retBlk, hr, if_true, leV, leV1, leVL, blkL, leSegs, leSeg, leC, leA, nthO, and_self]
  · refine ⟨_, heapBlk b0, [0], idts, ⟨trivial, trivial⟩, by simp only [heapBlk, hr, if_false, Bool.false_eq_true]; rfl, ?_, ?_, rfl, rfl⟩
    · simp only [heapBlk0, heapBlk, hr, if_false, Bool.false_eq_true]
      exact ⟨ops_le b0.n b0.f false, trivial⟩
    · simp only [retBlk, hr, if_false, Bool.false_eq_true, leV, leV1, leVL, leSegs, leSeg, leC, and_self]
end Go.Proofs.Ytmbnakinhnkabaa

namespace Go.Proofs.Ytmbnakinhnkabaa
open Go.AM
set_option maxRecDepth 100000
set_option linter.unusedSimpArgs false
set_option linter.unusedVariables false
def retSeenAt (b : BlkS) (n : Nat) : AV := if rightS b = true then .tup [.c (.slice ⟨n, 0, 0, 0⟩ false b.n), .c (.int .i64 0)] else .tup [.c .nils, .c (.int .i64 4)]
def newSeen (b : BlkS) : List Blk := if rightS b = true then [boolsB b.n (seenS b) true] else []
def newBlk (b : BlkS) : List Blk := if rightS b = true then [opsW (blockS b).n (blockS b).f] else []
theorem dropB_ro (i N n : Nat) (f : Nat → OpS) (X : List (Nat × Blk)) : dropB [i] [(0, opsB N f)] X = X := dropB_none (fun _ => rfl) X
theorem con12_at (b : BlkS) (i n : Nat) (X : List (Nat × Blk)) (w : Bool) (h0 : getB X i = some ⟨6, some b.n, fun i => opL (b.f i), 39, w⟩) (hlt : i < n) (hkl : keysLt X n) : Con Try.prog 12 [.agg (blkL b i)] ⟨n, X⟩ (fun v H' => v = retSeenAt b n ∧ H' = addBs ⟨n, X⟩ (newSeen b)) := by
  refine ((con12 b).frame (H := ⟨n, X⟩) [i] rfl ⟨trivial, trivial⟩ ⟨hlt, trivial⟩ hkl (by simp only [leBlks, nthO, h0]; exact ⟨ops_le b.n b.f w, trivial⟩) (by simp only [leArgs, leV, leV1, blkL, leSegs, leSeg, leC, leA, nthO, and_self])).weaken ?_
  rintro v H' ⟨v0, H0', ⟨rfl, rfl⟩, rfl, rfl⟩
  by_cases hr : rightS b = true
  · simp only [retSeen, heapSeen, retSeenAt, newSeen, hr, if_true, framed, dropB_ro i b.n 0]
    exact ⟨rfl, rfl⟩
  · simp only [retSeen, heapSeen, retSeenAt, newSeen, hr, if_false, framed, dropB_ro i b.n 0]
    exact ⟨rfl, rfl⟩
theorem con13_at (b : BlkS) (i n : Nat) (X : List (Nat × Blk)) (w : Bool) (h0 : getB X i = some ⟨6, some b.n, fun i => opL (b.f i), 39, w⟩) (hlt : i < n) (hkl : keysLt X n) : Con Try.prog 13 [.agg (blkL b i)] ⟨n, X⟩ (fun v H' => v = retBlk b n ∧ H' = addBs ⟨n, X⟩ (newBlk b)) := by
  refine ((con13 b).frame (H := ⟨n, X⟩) [i] rfl ⟨trivial, trivial⟩ ⟨hlt, trivial⟩ hkl (by simp only [leBlks, nthO, h0]; exact ⟨ops_le b.n b.f w, trivial⟩) (by simp only [leArgs, leV, leV1, blkL, leSegs, leSeg, leC, leA, nthO, and_self])).weaken ?_
  rintro v H' ⟨v0, H0', ⟨rfl, rfl⟩, rfl, rfl⟩
  by_cases hr : rightS b = true
  · simp only [retBlk, heapBlk, newBlk, hr, if_true, framed, dropB_ro i b.n 0]
    exact ⟨rfl, rfl⟩
  · simp only [retBlk, heapBlk, newBlk, hr, if_false, framed, dropB_ro i b.n 0]
    exact ⟨rfl, rfl⟩
def zL : List Seg := [.c (.int .u64 0), .c (.int .i64 0), .c (.int .i64 0), .c (.nils)]
theorem con37_nil (H : Heap) : Con Try.prog 37 [.agg zL] H (fun v H' => v = .c (.bool false) ∧ H' = H) := by
  refine Con.pure ?_ (by simp only [leArgs, leV, leV1, zL, leSegs, leSeg, leC, and_self]) rfl H
  (refine con_of_run mixed (fn := Try.f37) (by kernel_rfl) (by kernel_rfl) C37_ok (rs := [.tmp 2]) (by kernel_rfl) (Nat.le_of_ble_eq_true (by kernel_rfl)) ?_; unfold C37; simp only [initT, Nat.reduceAdd])
  repeat' (first | refine run_seq ?_ | refine run_skip ?_ | (refine run_region fun K hK => ?_; (try (simp (maxSteps := 10000000) only [zL, C37r0, C37r1, C37r2, C37r3, C37r5, C37r7, C37r11, C37r12, C37r13, rwp_nil, rwp_cons, rwpK_app, aop, gpath, St.get, slotAt, sfx, eqP, segsOf, St.put, addBlk, getB, setB, delB, ld1, ldn, st1, stn, setRow, rowNeed, segAt, nsub, bin, un, eqB, isShift, sameK, arith, shiftR, getsl, selB_or, selB_and, beqb, shed, addN, Nat.beq, Seg.size, sizes, imp, needP, andN, appL, argsOf, ptrsOf, aasOf, cut, takeS, dropS, putS, partsOf, fillS, fieldOf, nthA, negIf, nilq, nilB, eqS, eqF, eqS1, andP, kin, slcS, strOk, plusA, bndHi, leN, optG, roH, roL, initT, exOk, exAll, wrAddr, Nat.reduceAdd, Nat.reduceSub, Nat.reduceMul, Int.reduceToNat, List.append_nil, List.nil_append, List.cons_append, eqT, idxT, cat, cpy, ite_int, ite_bool, ite_seg, ite_segs, ite_nil, ite_twice, Int.toNat_natCast, app, addBs, tob])); (repeat (first | (refine And.intro ?_ ?_; · (first | trivial | assumption | omega)))); with_reducible refine hK _ ?_; clear hK K) | (refine run_cond rfl (fun hc => ?_) (fun hc => ?_) <;> try (simp only [*, Bool.true_eq_false, Bool.false_eq_true, Bool.not_true, Bool.not_false, Bool.true_or, Bool.or_true, Bool.false_or, Bool.or_false, Bool.false_and, Bool.and_false, bne_self_eq_false, beq_self_eq_true] at hc; done)) | refine run_block ?_ | refine run_ret ?_ | refine run_nil ?_ | refine run_exit ?_ | refine blk_normal ?_ | refine blk_ret ?_ | refine blk_here ?_ | refine blk_there rfl ?_ | refine loop_exit ?_ | refine loop_ret ?_ | refine un_exit ?_ | refine un_ret ?_ | refine unE_exit ?_ | refine unE_ret ?_ | refine un_normal ?_)
  · exact end_tmp1 rfl rfl rfl ⟨rfl, rfl⟩
  · simp at hc
theorem con12_nil (H : Heap) : Con Try.prog 12 [.agg zL] H (fun v H' => v = .tup [.c .nils, .c (.int .i64 4)] ∧ H' = H) := by
  refine Con.pure ?_ (by simp only [leArgs, leV, leV1, zL, leSegs, leSeg, leC, and_self]) rfl H
  (refine con_of_run mixed (fn := Try.f12) (by kernel_rfl) (by kernel_rfl) C12_ok (rs := [.tmp 2, .tmp 3]) (by kernel_rfl) (Nat.le_of_ble_eq_true (by kernel_rfl)) ?_; unfold C12; simp only [initT, Nat.reduceAdd])
  repeat' (first | refine run_seq ?_ | refine run_skip ?_ | (refine run_region fun K hK => ?_; (try (simp (maxSteps := 10000000) only [zL, C12r0, C12r1, C12r2, C12r5, rwp_nil, rwp_cons, rwpK_app, aop, gpath, St.get, slotAt, sfx, eqP, segsOf, St.put, addBlk, getB, setB, delB, ld1, ldn, st1, stn, setRow, rowNeed, segAt, nsub, bin, un, eqB, isShift, sameK, arith, shiftR, getsl, selB_or, selB_and, beqb, shed, addN, Nat.beq, Seg.size, sizes, imp, needP, andN, appL, argsOf, ptrsOf, aasOf, cut, takeS, dropS, putS, partsOf, fillS, fieldOf, nthA, negIf, nilq, nilB, eqS, eqF, eqS1, andP, kin, slcS, strOk, plusA, bndHi, leN, optG, roH, roL, initT, exOk, exAll, wrAddr, Nat.reduceAdd, Nat.reduceSub, Nat.reduceMul, Int.reduceToNat, List.append_nil, List.nil_append, List.cons_append, eqT, idxT, cat, cpy, ite_int, ite_bool, ite_seg, ite_segs, ite_nil, ite_twice, Int.toNat_natCast, app, addBs, tob])); (repeat (first | (refine And.intro ?_ ?_; · (first | trivial | assumption | omega)) | ((first | (refine call_t _ (con37_nil _) ?_; rintro v H' ⟨rfl, rfl⟩) | refine call_q _ (con37_nil _) ?_ | refine call_g _ (imp_of (con37_nil _)) ?_); simp (maxSteps := 10000000) only [zL, C12r0, C12r1, C12r2, C12r5, rwp_nil, rwp_cons, rwpK_app, aop, gpath, St.get, slotAt, sfx, eqP, segsOf, St.put, addBlk, getB, setB, delB, ld1, ldn, st1, stn, setRow, rowNeed, segAt, nsub, bin, un, eqB, isShift, sameK, arith, shiftR, getsl, selB_or, selB_and, beqb, shed, addN, Nat.beq, Seg.size, sizes, imp, needP, andN, appL, argsOf, ptrsOf, aasOf, cut, takeS, dropS, putS, partsOf, fillS, fieldOf, nthA, negIf, nilq, nilB, eqS, eqF, eqS1, andP, kin, slcS, strOk, plusA, bndHi, leN, optG, roH, roL, initT, exOk, exAll, wrAddr, Nat.reduceAdd, Nat.reduceSub, Nat.reduceMul, Int.reduceToNat, List.append_nil, List.nil_append, List.cons_append, eqT, idxT, cat, cpy, ite_int, ite_bool, ite_seg, ite_segs, ite_nil, ite_twice, Int.toNat_natCast, app, addBs, tob]))); with_reducible refine hK _ ?_; clear hK K) | (refine run_cond rfl (fun hc => ?_) (fun hc => ?_) <;> try (simp only [*, Bool.true_eq_false, Bool.false_eq_true, Bool.not_true, Bool.not_false, Bool.true_or, Bool.or_true, Bool.false_or, Bool.or_false, Bool.false_and, Bool.and_false, bne_self_eq_false, beq_self_eq_true] at hc; done)) | refine run_ret ?_ | refine run_nil ?_)
  exact end_tmp2 rfl rfl rfl (by simp only [leV, leV1, leC]) (by simp only [leV, leV1, leC, and_self]) rfl rfl ⟨rfl, rfl⟩
def twF : Nat → OpS
  | 0 => ⟨14, 0, 0, 0, 0, 64⟩
  | 1 => ⟨1, 0, 0, 0, 0, 1⟩
  | 2 => ⟨3, 0, 1, 0, 0, 0⟩
  | 3 => ⟨1, 0, 0, 0, 0, 2⟩
  | 4 => ⟨3, 0, 3, 0, 0, 0⟩
  | _ => ⟨16, 0, 0, 0, 0, 68⟩
def tw : BlkS := ⟨64, 1, 1, 6, twF⟩
theorem con32 (n : Nat) (X : List (Nat × Blk)) (hkl : keysLt X n) : Con Try.prog 32 [] ⟨n, X⟩ (fun v H' => v = .agg (blkL tw n) ∧ H' = addBs ⟨n, X⟩ [opsW 6 twF]) := by
  have h0 : Con Try.prog 32 [] ⟨0, []⟩ (fun v H' => v = .agg (blkL tw 0) ∧ H' = ⟨2, [(1, blkB tw 0), (0, opsW 6 twF)]⟩) := by
    (refine con_of_run mixed (fn := Try.f32) (by kernel_rfl) (by kernel_rfl) C32_ok (rs := [.cn 4 0]) (by kernel_rfl) (Nat.le_of_ble_eq_true (by kernel_rfl)) ?_; unfold C32; simp only [initT, Nat.reduceAdd])
    repeat' (first | refine run_seq ?_ | (refine run_region fun K hK => ?_; (try (simp (maxSteps := 10000000) only [repl, rowsFit, partsOf, fillS, rowFn, cutD, C32r0, C32r1, rwp_nil, rwp_cons, rwpK_app, aop, gpath, St.get, slotAt, sfx, eqP, segsOf, St.put, addBlk, getB, setB, delB, ld1, ldn, st1, stn, setRow, rowNeed, segAt, nsub, bin, un, eqB, isShift, sameK, arith, shiftR, getsl, selB_or, selB_and, beqb, shed, addN, Nat.beq, Seg.size, sizes, imp, needP, andN, appL, argsOf, ptrsOf, aasOf, cut, takeS, dropS, putS, partsOf, fillS, fieldOf, nthA, negIf, nilq, nilB, eqS, eqF, eqS1, andP, kin, slcS, strOk, plusA, bndHi, leN, optG, roH, roL, initT, exOk, exAll, wrAddr, Nat.reduceAdd, Nat.reduceSub, Nat.reduceMul, Int.reduceToNat, List.append_nil, List.nil_append, List.cons_append, eqT, idxT, cat, cpy, ite_int, ite_bool, ite_seg, ite_segs, ite_nil, ite_twice, Int.toNat_natCast, app, addBs, tob])); (repeat (first | (refine And.intro ?_ ?_; · first | trivial | assumption | omega))); with_reducible refine hK _ ?_; clear hK K) | refine run_ret ?_ | refine run_nil ?_)
    refine end_of ⟨[⟨0, [], .c (.ptr ⟨1, 0, 0, 0⟩)⟩], ⟨2, [(1, blkB tw 0), (0, opsW 6 twF)]⟩⟩ (LeS.intro [1, 0] (fun i h => absurd h (Nat.not_lt_zero i)) (by simp only [diff, notIn, Nat.beq, and_self]) rfl (by simp only [slotsLe, slotAt, Nat.beq, leV, leV1, leC, leA, nthO, and_self]) ⟨blk_le' tw 1 0 rfl, ⟨rfl, rfl, id, Nat.le_refl _, fun i hi => ?_⟩, trivial⟩) ?_
    · match i, hi with
      | 0, _ => simp only [cutD, cut, dropS, takeS, Seg.size, nsub, opsW, opL, twF, Nat.reduceMul, Nat.zero_mul, Nat.one_mul, leSegs, leSeg, leC, and_self]
      | 1, _ => simp only [cutD, cut, dropS, takeS, Seg.size, nsub, opsW, opL, twF, Nat.reduceMul, Nat.zero_mul, Nat.one_mul, leSegs, leSeg, leC, and_self]
      | 2, _ => simp only [cutD, cut, dropS, takeS, Seg.size, nsub, opsW, opL, twF, Nat.reduceMul, Nat.zero_mul, Nat.one_mul, leSegs, leSeg, leC, and_self]
      | 3, _ => simp only [cutD, cut, dropS, takeS, Seg.size, nsub, opsW, opL, twF, Nat.reduceMul, Nat.zero_mul, Nat.one_mul, leSegs, leSeg, leC, and_self]
      | 4, _ => simp only [cutD, cut, dropS, takeS, Seg.size, nsub, opsW, opL, twF, Nat.reduceMul, Nat.zero_mul, Nat.one_mul, leSegs, leSeg, leC, and_self]
      | 5, _ => simp only [cutD, cut, dropS, takeS, Seg.size, nsub, opsW, opL, twF, Nat.reduceMul, Nat.zero_mul, Nat.one_mul, leSegs, leSeg, leC, and_self]
    · simp only [endF, resL, resA, St.get, slotAt, Nat.beq, sfx, eqP, ldn, getB, blkB, blkL, rowNeed, cut, dropS, takeS, Seg.size, nsub, noTup, resV]
      refine ⟨?_, ?_⟩ <;> first | rfl | trivial
  have h1 : Con Try.prog 32 [] ⟨0, []⟩ (fun v H' => v = .agg (blkL tw 0) ∧ H' = ⟨1, [(0, opsW 6 twF)]⟩) := by
    refine Con.forget h0 ?_
    rintro v H' ⟨rfl, rfl⟩
    exact ⟨_, ⟨1, [(0, opsW 6 twF)]⟩, [0], fun i h => absurd h (Nat.not_lt_zero i), ⟨trivial, trivial⟩, rfl, ⟨opsw_le 6 twF twF (fun _ _ => rfl), trivial⟩, by simp only [blkL, leV, leV1, leSegs, leSeg, leC, leA, nthO, and_self], rfl, rfl⟩
  refine (h1.frame (args := []) (H := ⟨n, X⟩) [] rfl trivial trivial hkl trivial trivial).weaken ?_
  rintro v H' ⟨v0, H0', ⟨rfl, rfl⟩, rfl, rfl⟩
  refine ⟨rfl, ?_⟩
  simp only [framed, dropB_none (l := []) (H0 := []) (fun _ => rfl)]
  rfl
def sameB (g h : Nat → Bool) : Nat → Nat → Bool
  | 0, _ => true
  | c + 1, j => if (g j != h j) = true then false else sameB g h c (j + 1)
def smSt (n m : Nat) (g h : Nat → Bool) (j : Nat) : St := ⟨[⟨5, [], .c (.int .i64 j)⟩, ⟨0, [], .c (.slice ⟨0, 0, 0, 0⟩ false n)⟩, ⟨1, [], .c (.slice ⟨1, 0, 0, 0⟩ false m)⟩], ⟨2, [(1, boolsB m h false), (0, boolsB n g false)]⟩⟩
theorem end_bb {l : List Slot} {H : Heap} {R : Post} {t n m : Nat} {g h : Nat → Bool} (b : Bool) (hsl : slotAt l t = some ⟨t, [], .c (.bool b)⟩) (hb0 : getB H.blks 0 = some (boolsB n g false)) (hb1 : getB H.blks 1 = some (boolsB m h false)) (hR : R (.c (.bool b)) ⟨2, [(1, boolsB m h false), (0, boolsB n g false)]⟩) : endQ (LeS 2) [.tmp t] R .ret ⟨l, H⟩ := by
  refine end_of ⟨[⟨t, [], .c (.bool b)⟩], ⟨2, [(1, boolsB m h false), (0, boolsB n g false)]⟩⟩ (LeS.intro [0, 1] (fun i h => idt2 i h) (by simp only [diff, notIn, Nat.beq, and_self]) rfl (by simp only [slotsLe, hsl, leV, leV1, leC, and_self]) ?_) ?_
  · simp only [leBlks, nthO, hb0, hb1]
    exact ⟨bools_le m h false, bools_le n g false, trivial⟩
  · simp only [endF, resL, resA, St.get, slotAt, Nat.beq_refl, sfx, eqP, noTup, resV]
    exact hR
theorem con15 (n m : Nat) (g h : Nat → Bool) (hn : n ≤ 140737488355328) : Con Try.prog 15 [.c (.slice ⟨0, 0, 0, 0⟩ false n), .c (.slice ⟨1, 0, 0, 0⟩ false m)] ⟨2, [(1, boolsB m h false), (0, boolsB n g false)]⟩ (fun v H' => v = .c (.bool (decide (n = m) && sameB g h n 0)) ∧ H' = ⟨2, [(1, boolsB m h false), (0, boolsB n g false)]⟩) := by
  (refine con_of_run mixed (fn := Try.f15) (by kernel_rfl) (by kernel_rfl) C15_ok (rs := [.tmp 4]) (by kernel_rfl) (Nat.le_of_ble_eq_true (by kernel_rfl)) ?_; unfold C15; simp only [initT, Nat.reduceAdd])
  repeat' (first | refine run_seq ?_ | refine run_skip ?_ | (refine run_region fun K hK => ?_; (try (simp (maxSteps := 10000000) only [boolsB, C15r0, C15r1, C15r2, C15r6, C15r7, C15r8, rwp_nil, rwp_cons, rwpK_app, aop, gpath, St.get, slotAt, sfx, eqP, segsOf, St.put, addBlk, getB, setB, delB, ld1, ldn, st1, stn, setRow, rowNeed, segAt, nsub, bin, un, eqB, isShift, sameK, arith, shiftR, getsl, selB_or, selB_and, beqb, shed, addN, Nat.beq, Seg.size, sizes, imp, needP, andN, appL, argsOf, ptrsOf, aasOf, cut, takeS, dropS, putS, partsOf, fillS, fieldOf, nthA, negIf, nilq, nilB, eqS, eqF, eqS1, andP, kin, slcS, strOk, plusA, bndHi, leN, optG, roH, roL, initT, exOk, exAll, wrAddr, Nat.reduceAdd, Nat.reduceSub, Nat.reduceMul, Int.reduceToNat, List.append_nil, List.nil_append, List.cons_append, eqT, idxT, cat, cpy, ite_int, ite_bool, ite_seg, ite_segs, ite_nil, ite_twice, Int.toNat_natCast, app, addBs, tob])); (repeat (first | (refine And.intro ?_ ?_; · (first | trivial | assumption | omega)))); with_reducible refine hK _ ?_; clear hK K) | (refine run_cond rfl (fun hc => ?_) (fun hc => ?_) <;> try (simp only [*, Bool.true_eq_false, Bool.false_eq_true, Bool.not_true, Bool.not_false, Bool.true_or, Bool.or_true, Bool.false_or, Bool.or_false, Bool.false_and, Bool.and_false, bne_self_eq_false, beq_self_eq_true] at hc; done)) | refine run_block ?_ | refine run_ret ?_ | refine run_nil ?_ | refine run_exit ?_ | refine blk_normal ?_ | refine blk_ret ?_ | refine blk_here ?_ | refine blk_there rfl ?_ | refine loop_exit ?_ | refine loop_ret ?_ | refine un_exit ?_ | refine un_ret ?_ | refine unE_exit ?_ | refine unE_ret ?_ | refine un_normal ?_)
  · have e : decide (n = m) = false := by simp only [bne_iff_ne, ne_eq] at hc; exact decide_eq_false (by omega)
    rw [e]
    exact end_bb _ rfl rfl rfl ⟨rfl, rfl⟩
  have e : n = m := by simp only [bne_eq_false_iff_eq] at hc; omega
  subst e
  clear hc
  (refine run_regionL fun K hK => ?_; (try (simp (maxSteps := 10000000) only [boolsB, C15r0, C15r1, C15r2, C15r3, C15r4, C15r5, C15r6, C15r7, C15r8, rwp_nil, rwp_cons, rwpK_app, aop, gpath, St.get, slotAt, sfx, eqP, segsOf, St.put, addBlk, getB, setB, delB, ld1, ldn, st1, stn, setRow, rowNeed, segAt, nsub, bin, un, eqB, isShift, sameK, arith, shiftR, getsl, selB_or, selB_and, beqb, shed, addN, Nat.beq, Seg.size, sizes, imp, needP, andN, appL, argsOf, ptrsOf, aasOf, cut, takeS, dropS, putS, partsOf, fillS, fieldOf, nthA, negIf, nilq, nilB, eqS, eqF, eqS1, andP, kin, slcS, strOk, plusA, bndHi, leN, optG, roH, roL, initT, exOk, exAll, wrAddr, Nat.reduceAdd, Nat.reduceSub, Nat.reduceMul, Int.reduceToNat, List.append_nil, List.nil_append, List.cons_append, eqT, idxT, cat, cpy, ite_int, ite_bool, ite_seg, ite_segs, ite_nil, ite_twice, Int.toNat_natCast, app, addBs, tob])); (repeat (first | (refine And.intro ?_ ?_; · first | trivial | assumption | omega))); refine hK _ (smSt n n g h 0) (LeS.intro [0, 1] (fun i h => idt2 i h) (by simp only [diff, notIn, Nat.beq, and_self]) rfl (by simp only [smSt, slotsLe, slotAt, Nat.beq, leV, leV1, leC, leA, nthO, Int.natCast_zero, Int.ofNat_zero, and_self]) ⟨bools_le n h false, bools_le n g false, trivial⟩) ?_; clear hK K)
  refine run_block ?_
  refine run_loop (fun k s => ∃ j, k = n - j ∧ j ≤ n ∧ sameB g h n 0 = sameB g h (n - j) j ∧ s = smSt n n g h j) n ⟨0, rfl, Nat.zero_le _, rfl, rfl⟩ ?_
  rintro k s ⟨j, rfl, hj, he, rfl⟩
  unfold smSt
  repeat' (first | refine run_seq ?_ | refine run_skip ?_ | (refine run_region fun K hK => ?_; (try (simp (maxSteps := 10000000) only [boolsB, C15r0, C15r1, C15r2, C15r3, C15r4, C15r5, C15r6, C15r7, C15r8, rwp_nil, rwp_cons, rwpK_app, aop, gpath, St.get, slotAt, sfx, eqP, segsOf, St.put, addBlk, getB, setB, delB, ld1, ldn, st1, stn, setRow, rowNeed, segAt, nsub, bin, un, eqB, isShift, sameK, arith, shiftR, getsl, selB_or, selB_and, beqb, shed, addN, Nat.beq, Seg.size, sizes, imp, needP, andN, appL, argsOf, ptrsOf, aasOf, cut, takeS, dropS, putS, partsOf, fillS, fieldOf, nthA, negIf, nilq, nilB, eqS, eqF, eqS1, andP, kin, slcS, strOk, plusA, bndHi, leN, optG, roH, roL, initT, exOk, exAll, wrAddr, Nat.reduceAdd, Nat.reduceSub, Nat.reduceMul, Int.reduceToNat, List.append_nil, List.nil_append, List.cons_append, eqT, idxT, cat, cpy, ite_int, ite_bool, ite_seg, ite_segs, ite_nil, ite_twice, Int.toNat_natCast, app, addBs, tob])); (repeat (first | (refine And.intro ?_ ?_; · (first | trivial | assumption | (simp only [decide_eq_true_eq] at *; omega))))); with_reducible refine hK _ ?_; clear hK K) | (refine run_cond rfl (fun hc => ?_) (fun hc => ?_) <;> try (simp only [*, Bool.true_eq_false, Bool.false_eq_true, Bool.not_true, Bool.not_false, Bool.true_or, Bool.or_true, Bool.false_or, Bool.or_false, Bool.false_and, Bool.and_false, bne_self_eq_false, beq_self_eq_true] at hc; done)) | refine run_block ?_ | refine run_ret ?_ | refine run_nil ?_ | refine run_exit ?_ | refine blk_normal ?_ | refine blk_ret ?_ | refine blk_here ?_ | refine blk_there rfl ?_ | refine loop_exit ?_ | refine loop_ret ?_ | refine un_exit ?_ | refine un_ret ?_ | refine unE_exit ?_ | refine unE_ret ?_ | refine un_normal ?_)
  · rename_i h0
    have hlt : j < n := by simp only [decide_eq_true_eq] at h0; omega
    have e : sameB g h n 0 = false := by
      rw [he, show n - j = (n - (j + 1)) + 1 by omega]
      have hc' : (g j != h j) = true := hc
      simp only [sameB, hc', if_true]
    rw [e]
    exact end_bb _ rfl rfl rfl ⟨by simp, rfl⟩
  · rename_i h0
    have hlt : j < n := by simp only [decide_eq_true_eq] at h0; omega
    have hw : IntKind.i64.wrap ((j : Int) + 1) = ((j + 1 : Nat) : Int) := by rw [IntKind.wrap_i64]; omega
    refine loop_normal (n - (j + 1)) (smSt n n g h (j + 1)) (by omega) (LeS.intro [0, 1] (fun i h => idt2 i h) (by simp only [diff, notIn, Nat.beq, and_self]) rfl (by simp only [smSt, slotsLe, slotAt, Nat.beq, leV, leV1, leC, leA, nthO, hw, and_self]) ⟨bools_le n h false, bools_le n g false, trivial⟩) ⟨j + 1, rfl, hlt, ?_, rfl⟩
    rw [he, show n - j = (n - (j + 1)) + 1 by omega]
    have hc' : (g j != h j) = false := hc
    simp only [sameB, hc', Bool.false_eq_true, if_false]
  · have e : sameB g h n 0 = true := by
      have : n - j = 0 := by simp only [decide_eq_false_iff_not] at hc; omega
      rw [he, this]
      rfl
    rw [e]
    exact end_bb _ rfl rfl rfl ⟨by simp, rfl⟩
end Go.Proofs.Ytmbnakinhnkabaa

namespace Go.Proofs.Ytmbnakinhnkabaa
open Go.AM
set_option maxRecDepth 100000
set_option linter.unusedSimpArgs false
set_option linter.unusedVariables false
def exH : Nat → Bool
  | 0 => true
  | 1 => false
  | 2 => false
  | 3 => true
  | 4 => true
  | _ => true
theorem con15_le (n m : Nat) (g h : Nat → Bool) (hn : n ≤ 140737488355328) (a b q : Nat) (X : List (Nat × Blk)) (A B : Blk) (hab : Nat.beq a b = false) (ha : getB X a = some A) (hA : leB [a, b] A (boolsB n g false)) (hb : getB X b = some B) (hB : leB [a, b] B (boolsB m h false)) (hla : a < q) (hlb : b < q) (hkl : keysLt X q) : Con Try.prog 15 [.c (.slice ⟨a, 0, 0, 0⟩ false n), .c (.slice ⟨b, 0, 0, 0⟩ false m)] ⟨q, X⟩ (fun v H' => v = .c (.bool (decide (n = m) && sameB g h n 0)) ∧ H' = ⟨q, X⟩) :=
  ro_gen (con15 n m g h hn) [a, b] q X rfl (by simp only [diff, notIn, hab, and_self]) ⟨hla, hlb, trivial⟩ hkl (by simp only [leBlks, nthO, ha, hb]; exact ⟨hB, hA, trivial⟩) (by simp only [leArgs, leV, leV1, leC, leA, nthO, and_self]) rfl (fun _ => rfl) rfl rfl
theorem rights_tw : rightS tw = true := by decide +kernel
theorem block_tw : (blockS tw).n = 4 := by decide +kernel
theorem block_tw2 : ((blockS tw).f 2).kind = 3 ∧ ((blockS tw).f 2).r = 0 ∧ ((blockS tw).f 2).a = 1 ∧ ((blockS tw).f 2).b = 0 ∧ ((blockS tw).f 2).order = 0 ∧ ((blockS tw).f 2).imm = 0 := by decide +kernel
theorem same_tw : sameB (seenS tw) exH 6 0 = true := by decide +kernel
theorem rs_tw (n : Nat) : retSeenAt tw n = .tup [.c (.slice ⟨n, 0, 0, 0⟩ false 6), .c (.int .i64 0)] := by simp only [retSeenAt, rights_tw, if_true]; rfl
theorem ns_tw : newSeen tw = [boolsB 6 (seenS tw) true] := by simp only [newSeen, rights_tw, if_true]; rfl
theorem rb_tw (n : Nat) : retBlk tw n = .tup [.agg [.c (.int .u64 (blockS tw).pc), .c (.int .i64 (blockS tw).words), .c (.int .i64 (blockS tw).el), .c (.slice ⟨n, 0, 0, 0⟩ false 4)], .c (.int .i64 0)] := by simp only [retBlk, rights_tw, if_true, blkL, block_tw]
theorem nb_tw : newBlk tw = [opsW 4 (blockS tw).f] := by simp only [newBlk, rights_tw, if_true, block_tw]
theorem con9 (H : Heap) : Con Try.prog 9 [] H (fun v H' => v = .c (.bool true) ∧ H' = H) := by
  refine Con.pure (args := []) ?_ trivial rfl H
  (refine con_of_run mixed (fn := Try.f9) (by kernel_rfl) (by kernel_rfl) C9_ok (rs := [.tmp 0]) (by kernel_rfl) (Nat.le_of_ble_eq_true (by kernel_rfl)) ?_; unfold C9; simp only [initT, Nat.reduceAdd])
  repeat' (first | refine run_seq ?_ | (refine run_region fun K hK => ?_; (try (simp (maxSteps := 10000000) only [opL, rs_tw, ns_tw, rb_tw, nb_tw, partsOf, fillS, C9r0, C9r1, C9r2, C9r3, rwp_nil, rwp_cons, rwpK_app, aop, gpath, St.get, slotAt, sfx, eqP, segsOf, St.put, addBlk, getB, setB, delB, ld1, ldn, st1, stn, setRow, rowNeed, segAt, nsub, bin, un, eqB, isShift, sameK, arith, shiftR, getsl, selB_or, selB_and, beqb, shed, addN, Nat.beq, Seg.size, sizes, imp, needP, andN, appL, argsOf, ptrsOf, aasOf, cut, takeS, dropS, putS, partsOf, fillS, fieldOf, nthA, negIf, nilq, nilB, eqS, eqF, eqS1, andP, kin, slcS, strOk, plusA, bndHi, leN, optG, roH, roL, initT, exOk, exAll, wrAddr, Nat.reduceAdd, Nat.reduceSub, Nat.reduceMul, Int.reduceToNat, List.append_nil, List.nil_append, List.cons_append, eqT, idxT, cat, cpy, ite_int, ite_bool, ite_seg, ite_segs, ite_nil, ite_twice, Int.toNat_natCast, app, addBs, tob])); (repeat (first | (refine And.intro ?_ ?_; · (first | trivial | assumption | omega)) | ((first | (refine call_t _ (con32 _ _ (by simp [keysLt])) ?_; rintro v H' ⟨rfl, rfl⟩) | refine call_q _ (con32 _ _ (by simp [keysLt])) ?_ | refine call_g _ (imp_of (con32 _ _ (by simp [keysLt]))) ?_ | (refine call_t _ (con12_at tw _ _ _ _ rfl (Nat.le_of_ble_eq_true rfl) (by simp [keysLt])) ?_; rintro v H' ⟨rfl, rfl⟩) | refine call_q _ (con12_at tw _ _ _ _ rfl (Nat.le_of_ble_eq_true rfl) (by simp [keysLt])) ?_ | refine call_g _ (imp_of (con12_at tw _ _ _ _ rfl (Nat.le_of_ble_eq_true rfl) (by simp [keysLt]))) ?_ | (refine call_t _ (con13_at tw _ _ _ _ rfl (Nat.le_of_ble_eq_true rfl) (by simp [keysLt])) ?_; rintro v H' ⟨rfl, rfl⟩) | refine call_q _ (con13_at tw _ _ _ _ rfl (Nat.le_of_ble_eq_true rfl) (by simp [keysLt])) ?_ | refine call_g _ (imp_of (con13_at tw _ _ _ _ rfl (Nat.le_of_ble_eq_true rfl) (by simp [keysLt]))) ?_ | (refine call_t _ (con12_nil _) ?_; rintro v H' ⟨rfl, rfl⟩) | refine call_q _ (con12_nil _) ?_ | refine call_g _ (imp_of (con12_nil _)) ?_); simp (maxSteps := 10000000) only [opL, rs_tw, ns_tw, rb_tw, nb_tw, partsOf, fillS, C9r0, C9r1, C9r2, C9r3, rwp_nil, rwp_cons, rwpK_app, aop, gpath, St.get, slotAt, sfx, eqP, segsOf, St.put, addBlk, getB, setB, delB, ld1, ldn, st1, stn, setRow, rowNeed, segAt, nsub, bin, un, eqB, isShift, sameK, arith, shiftR, getsl, selB_or, selB_and, beqb, shed, addN, Nat.beq, Seg.size, sizes, imp, needP, andN, appL, argsOf, ptrsOf, aasOf, cut, takeS, dropS, putS, partsOf, fillS, fieldOf, nthA, negIf, nilq, nilB, eqS, eqF, eqS1, andP, kin, slcS, strOk, plusA, bndHi, leN, optG, roH, roL, initT, exOk, exAll, wrAddr, Nat.reduceAdd, Nat.reduceSub, Nat.reduceMul, Int.reduceToNat, List.append_nil, List.nil_append, List.cons_append, eqT, idxT, cat, cpy, ite_int, ite_bool, ite_seg, ite_segs, ite_nil, ite_twice, Int.toNat_natCast, app, addBs, tob]))); with_reducible refine hK _ ?_; clear hK K) | refine run_ret ?_ | refine run_nil ?_)
  repeat' (first | refine run_seq ?_ | (refine run_region fun K hK => ?_; (try (simp (maxSteps := 10000000) only [repl, rowsFit, partsOf, fillS, C9r0, C9r1, C9r2, C9r3, C9r4, rwp_nil, rwp_cons, rwpK_app, aop, gpath, St.get, slotAt, sfx, eqP, segsOf, St.put, addBlk, getB, setB, delB, ld1, ldn, st1, stn, setRow, rowNeed, segAt, nsub, bin, un, eqB, isShift, sameK, arith, shiftR, getsl, selB_or, selB_and, beqb, shed, addN, Nat.beq, Seg.size, sizes, imp, needP, andN, appL, argsOf, ptrsOf, aasOf, cut, takeS, dropS, putS, partsOf, fillS, fieldOf, nthA, negIf, nilq, nilB, eqS, eqF, eqS1, andP, kin, slcS, strOk, plusA, bndHi, leN, optG, roH, roL, initT, exOk, exAll, wrAddr, Nat.reduceAdd, Nat.reduceSub, Nat.reduceMul, Int.reduceToNat, List.append_nil, List.nil_append, List.cons_append, eqT, idxT, cat, cpy, ite_int, ite_bool, ite_seg, ite_segs, ite_nil, ite_twice, Int.toNat_natCast, app, addBs, tob])); (repeat (first | (refine And.intro ?_ ?_; · (first | trivial | assumption | omega)) | ((first | (refine call_t _ (con15_le 6 6 (seenS tw) exH (by decide) _ _ _ _ _ _ rfl rfl ⟨rfl, rfl, fun h => (by cases h), Nat.le_refl _, fun _ _ => ⟨rfl, trivial⟩⟩ rfl ⟨rfl, rfl, fun h => (by cases h), Nat.le_refl _, fun i hi => (match i, hi with | 0, _ => ⟨rfl, trivial⟩ | 1, _ => ⟨rfl, trivial⟩ | 2, _ => ⟨rfl, trivial⟩ | 3, _ => ⟨rfl, trivial⟩ | 4, _ => ⟨rfl, trivial⟩ | 5, _ => ⟨rfl, trivial⟩)⟩ (Nat.le_of_ble_eq_true rfl) (Nat.le_of_ble_eq_true rfl) (by simp [keysLt])) ?_; rintro v H' ⟨rfl, rfl⟩) | refine call_q _ (con15_le 6 6 (seenS tw) exH (by decide) _ _ _ _ _ _ rfl rfl ⟨rfl, rfl, fun h => (by cases h), Nat.le_refl _, fun _ _ => ⟨rfl, trivial⟩⟩ rfl ⟨rfl, rfl, fun h => (by cases h), Nat.le_refl _, fun i hi => (match i, hi with | 0, _ => ⟨rfl, trivial⟩ | 1, _ => ⟨rfl, trivial⟩ | 2, _ => ⟨rfl, trivial⟩ | 3, _ => ⟨rfl, trivial⟩ | 4, _ => ⟨rfl, trivial⟩ | 5, _ => ⟨rfl, trivial⟩)⟩ (Nat.le_of_ble_eq_true rfl) (Nat.le_of_ble_eq_true rfl) (by simp [keysLt])) ?_ | refine call_g _ (imp_of (con15_le 6 6 (seenS tw) exH (by decide) _ _ _ _ _ _ rfl rfl ⟨rfl, rfl, fun h => (by cases h), Nat.le_refl _, fun _ _ => ⟨rfl, trivial⟩⟩ rfl ⟨rfl, rfl, fun h => (by cases h), Nat.le_refl _, fun i hi => (match i, hi with | 0, _ => ⟨rfl, trivial⟩ | 1, _ => ⟨rfl, trivial⟩ | 2, _ => ⟨rfl, trivial⟩ | 3, _ => ⟨rfl, trivial⟩ | 4, _ => ⟨rfl, trivial⟩ | 5, _ => ⟨rfl, trivial⟩)⟩ (Nat.le_of_ble_eq_true rfl) (Nat.le_of_ble_eq_true rfl) (by simp [keysLt]))) ?_); simp (maxSteps := 10000000) only [repl, rowsFit, partsOf, fillS, C9r0, C9r1, C9r2, C9r3, C9r4, rwp_nil, rwp_cons, rwpK_app, aop, gpath, St.get, slotAt, sfx, eqP, segsOf, St.put, addBlk, getB, setB, delB, ld1, ldn, st1, stn, setRow, rowNeed, segAt, nsub, bin, un, eqB, isShift, sameK, arith, shiftR, getsl, selB_or, selB_and, beqb, shed, addN, Nat.beq, Seg.size, sizes, imp, needP, andN, appL, argsOf, ptrsOf, aasOf, cut, takeS, dropS, putS, partsOf, fillS, fieldOf, nthA, negIf, nilq, nilB, eqS, eqF, eqS1, andP, kin, slcS, strOk, plusA, bndHi, leN, optG, roH, roL, initT, exOk, exAll, wrAddr, Nat.reduceAdd, Nat.reduceSub, Nat.reduceMul, Int.reduceToNat, List.append_nil, List.nil_append, List.cons_append, eqT, idxT, cat, cpy, ite_int, ite_bool, ite_seg, ite_segs, ite_nil, ite_twice, Int.toNat_natCast, app, addBs, tob]))); with_reducible refine hK _ ?_; clear hK K) | refine run_ret ?_ | refine run_nil ?_)
  repeat' (first | refine run_seq ?_ | (refine run_region fun K hK => ?_; (try (simp (maxSteps := 10000000) only [opL, opsW, partsOf, fillS, C9r0, C9r1, C9r2, C9r3, C9r4, C9r5, rwp_nil, rwp_cons, rwpK_app, aop, gpath, St.get, slotAt, sfx, eqP, segsOf, St.put, addBlk, getB, setB, delB, ld1, ldn, st1, stn, setRow, rowNeed, segAt, nsub, bin, un, eqB, isShift, sameK, arith, shiftR, getsl, selB_or, selB_and, beqb, shed, addN, Nat.beq, Seg.size, sizes, imp, needP, andN, appL, argsOf, ptrsOf, aasOf, cut, takeS, dropS, putS, partsOf, fillS, fieldOf, nthA, negIf, nilq, nilB, eqS, eqF, eqS1, andP, kin, slcS, strOk, plusA, bndHi, leN, optG, roH, roL, initT, exOk, exAll, wrAddr, Nat.reduceAdd, Nat.reduceSub, Nat.reduceMul, Int.reduceToNat, List.append_nil, List.nil_append, List.cons_append, eqT, idxT, cat, cpy, ite_int, ite_bool, ite_seg, ite_segs, ite_nil, ite_twice, Int.toNat_natCast, app, addBs, tob])); (repeat (first | (refine And.intro ?_ ?_; · (intros; first | trivial | assumption | omega)))); with_reducible refine hK _ ?_; clear hK K) | refine run_ret ?_ | refine run_nil ?_)
  obtain ⟨q1, q2, q3, q4, q5, q6⟩ := block_tw2
  refine end_tmp1 rfl rfl rfl ⟨?_, rfl⟩
  simp only [same_tw, q1, q2, q3, q4, q5, q6]
  rfl
end Go.Proofs.Ytmbnakinhnkabaa

namespace Go.Proofs.Ytmbnakinhnkabaa
open Go.AM
set_option maxRecDepth 100000
set_option linter.unusedSimpArgs false
set_option linter.unusedVariables false
end Go.Proofs.Ytmbnakinhnkabaa

namespace Go.AM
open Go.WideShapes Go.ChangeShapes Go.RowKit
set_option linter.unusedVariables false
set_option linter.unusedSimpArgs false

inductive CK where
  | bool
  | int (k : IntKind)
  | slice (e : TypeId)

def okK (P : Program) (w : World) (T : TypeId → List Value → Prop) : CK → Value → Prop
  | .bool, x => ∃ b, x = .bool b
  | .int k, x => ∃ n, x = .int k n ∧ (Lit.int k n).wf = true
  | .slice e, x => x = .slice none 0 0 ∨ ∃ a len cap, x = .slice (some a) len cap ∧ len ≤ cap ∧ cap ≤ maxLen ∧ ∀ i, i < len → ∃ cs, w.cells? 0 (a.add (i * P.cellsOf e)) (P.cellsOf e) = some cs ∧ T e cs

def kindsF (g : TypeId → Option (List CK)) : List Field → Option (List CK)
  | [] => some []
  | f :: fs => match g f.type, kindsF g fs with
    | some a, some b => some (a ++ b)
    | _, _ => none
def repK : Nat → List CK → List CK
  | 0, _ => []
  | n + 1, l => l ++ repK n l
def kindsT (P : Program) : Nat → TypeId → Option (List CK)
  | 0, _ => none
  | d + 1, t =>
    match P.underlying t with
    | some .bool => some [.bool]
    | some (.int k) => some [.int k]
    | some (.slice e) => some [.slice e]
    | some (.struct fs) => if P.consecB fs.toList 0 (P.cellsOf t) = true then kindsF (kindsT P d) fs.toList else none
    | some (.array n e) => if P.cellsOf t = n * P.cellsOf e then (match kindsT P d e with | some l => some (repK n l) | none => none) else none
    | _ => none

section
variable {P : Program} {w : World} {T : TypeId → List Value → Prop}

theorem kindsF_ok {g : TypeId → Option (List CK)} {T' : TypeId → List Value → Prop} (IH : ∀ t K cs, g t = some K → T' t cs → F2 (okK P w T) K cs) (cs : List Value) :
    ∀ (fs : List Field) (off : Nat) (K : List CK), P.consecB fs off cs.length = true → kindsF g fs = some K → (∀ (i : Nat) (f : Field), fs[i]? = some f → T' f.type ((cs.drop f.offset).take (P.cellsOf f.type))) → F2 (okK P w T) K (cs.drop off)
  | [], off, K, hc, hK, _ => by
    simp only [Program.consecB, beq_iff_eq] at hc
    simp only [kindsF, Option.some.injEq] at hK
    subst hK
    have h0 : cs.drop off = [] := List.drop_eq_nil_iff.2 (by omega)
    rw [h0]
    exact .nil
  | f :: fs, off, K, hc, hK, hT => by
    simp only [Program.consecB, Bool.and_eq_true, beq_iff_eq] at hc
    obtain ⟨hoff, hc⟩ := hc
    simp only [kindsF] at hK
    cases ha : g f.type with
    | none => simp [ha] at hK
    | some a =>
      cases hb : kindsF g fs with
      | none => simp [ha, hb] at hK
      | some b =>
        simp only [ha, hb, Option.some.injEq] at hK
        subst hK
        have h1 := IH _ _ _ ha (hT 0 f rfl)
        have h2 := kindsF_ok IH cs fs (off + P.cellsOf f.type) b hc hb (fun i f' hf => hT (i + 1) f' hf)
        have h3 := h1.append h2
        rw [hoff, take_drop_step] at h3
        exact h3

theorem repK_ok {l : List CK} (c : Nat) (cs : List Value) :
    ∀ (n s : Nat), cs.length = (s + n) * c → (∀ i, s ≤ i → i < s + n → F2 (okK P w T) l ((cs.drop (i * c)).take c)) → F2 (okK P w T) (repK n l) (cs.drop (s * c))
  | 0, s, hl, _ => by
    have h0 : cs.drop (s * c) = [] := List.drop_eq_nil_iff.2 (by simp at hl; omega)
    rw [h0]
    exact .nil
  | n + 1, s, hl, h => by
    have h1 := h s (Nat.le_refl _) (by omega)
    have h2 := repK_ok c cs n (s + 1) (by rw [hl]; congr 1; omega) (fun i hi hj => h i (by omega) (by omega))
    have h3 := h1.append h2
    rw [Nat.add_mul, Nat.one_mul, take_drop_step] at h3
    exact h3
end

section
variable {H : Type} {enc : TypeId × Value → H} {P : Program} {w : World} {spare : Nat → Bool} {held : Bool}

def Tr (enc : TypeId × Value → H) (P : Program) (w : World) (spare : Nat → Bool) (held : Bool) : TypeId → List Value → Prop := fun t cs => ∃ m y, DataW.trod enc P w 0 spare held m t cs = some y

theorem kinds_ok : ∀ (d : Nat) (t : TypeId) (K : List CK) (cs : List Value), kindsT P d t = some K → Tr enc P w spare held t cs → F2 (okK P w (Tr enc P w spare held)) K cs
  | 0, _, _, _, hK, _ => by simp [kindsT] at hK
  | d + 1, t, K, cs, hK, ⟨m, y, h⟩ => by
    unfold kindsT at hK
    cases ht : P.underlying t with
    | none => simp [ht] at hK
    | some desc =>
      simp only [ht] at hK
      cases desc
      case bool =>
        simp only [Option.some.injEq] at hK
        subst hK
        obtain ⟨b, rfl, _⟩ := DataW.trod_bool ht h
        exact .cons ⟨b, rfl⟩ .nil
      case int k =>
        simp only [Option.some.injEq] at hK
        subst hK
        obtain ⟨n, rfl, _, hw⟩ := DataW.trod_int ht h
        exact .cons ⟨n, rfl, hw⟩ .nil
      case slice e =>
        simp only [Option.some.injEq] at hK
        subst hK
        rcases DataW.trod_slice ht h with ⟨rfl, _⟩ | ⟨a, len, cap, elems, rest, n, _, rfl, _, _, hl, hc, hel, hi, _, _⟩
        · exact .cons (.inl rfl) .nil
        · refine .cons (.inr ⟨a, len, cap, rfl, hl, hc, fun i hlt => ?_⟩) .nil
          have h1 := hi i hlt
          obtain ⟨z, hz⟩ : ∃ z, elems[i]? = some z := ⟨_, List.getElem?_eq_getElem (by omega)⟩
          rw [hz, Option.bind_eq_some_iff] at h1
          obtain ⟨cs, hcs, hd⟩ := h1
          exact ⟨cs, hcs, n, z, hd⟩
      case struct fs =>
        simp only at hK
        split at hK
        · rename_i hcons
          obtain ⟨xs, n, _, _, hl, hxl, hf⟩ := DataW.trod_struct ht h
          rw [← hl] at hcons
          have h2 := kindsF_ok (T := Tr enc P w spare held) (T' := Tr enc P w spare held) (fun t K cs a b => kinds_ok d t K cs a b) cs fs.toList 0 K hcons hK (fun i f hfi => by
            have hfi' : fs[i]? = some f := by simpa using hfi
            have hlt : i < fs.size := by
              rcases Nat.lt_or_ge i fs.size with h | h
              · exact h
              · rw [Array.getElem?_eq_none h] at hfi'; cases hfi'
            exact ⟨n, xs[i]'(by omega), (hf i f hfi').trans (List.getElem?_eq_getElem (by omega))⟩)
          simpa using h2
        · cases hK
      case array n e =>
        simp only at hK
        split at hK
        · rename_i hcn
          cases hl : kindsT P d e with
          | none => simp [hl] at hK
          | some l =>
            simp only [hl, Option.some.injEq] at hK
            subst hK
            obtain ⟨xs, m', _, _, hlen, hxl, hf⟩ := DataW.trod_array ht h
            have h2 := repK_ok (P := P) (w := w) (T := Tr enc P w spare held) (l := l) (P.cellsOf e) cs n 0 (by rw [hlen, hcn]; simp) (fun i _ hi =>
              kinds_ok d e l _ hl ⟨m', xs[i]'(by omega), (hf i (by omega)).trans (List.getElem?_eq_getElem (by omega))⟩)
            simpa using h2
        · cases hK
      all_goals simp at hK
end

def boolAt (cs : List Value) (i : Nat) : Bool := match cs[i]? with | some (.bool b) => b | _ => false
def intAt (cs : List Value) (i : Nat) : Int := match cs[i]? with | some (.int _ n) => n | _ => 0
def lenV : Value → Nat
  | .slice _ n _ => n
  | _ => 0
def lenAt (cs : List Value) (i : Nat) : Nat := match cs[i]? with | some x => lenV x | none => 0
def valAt (cs : List Value) (i : Nat) : Value := match cs[i]? with | some x => x | none => .nilFunc

def gen (id : Nat) (cs : List Value) : List CK → Nat → List CV
  | [], _ => []
  | .bool :: K, o => .bool (boolAt cs o) :: gen id cs K (o + 1)
  | .int k :: K, o => .int k (intAt cs o) :: gen id cs K (o + 1)
  | .slice _ :: K, o => .slice ⟨id, 0, 0, 0⟩ false (lenAt cs o) :: gen id cs K (o + 1)

theorem drop_head {cs : List Value} {o : Nat} {x : Value} {r : List Value} (h : cs.drop o = x :: r) : cs[o]? = some x ∧ cs.drop (o + 1) = r := by
  constructor
  · have := congrArg (fun l => l[0]?) h
    simpa using this
  · have := congrArg List.tail h
    simpa using this

theorem gen_rel {P : Program} {w : World} {T : TypeId → List Value → Prop} {φ : Emb} {id : Nat} {cs : List Value} (hs : ∀ (j : Nat) (e : TypeId) (x : Value), cs[j]? = some x → okK P w T (.slice e) x → rel φ (.slice ⟨id, 0, 0, 0⟩ false (lenV x)) x) :
    ∀ (K : List CK) (o : Nat), F2 (okK P w T) K (cs.drop o) → F2 (rel φ) (gen id cs K o) (cs.drop o)
  | [], o, h => by rw [h.nil_left]; exact .nil
  | k :: K, o, h => by
    obtain ⟨x, r, e, hx, hr⟩ := h.cons_left
    obtain ⟨h0, h1⟩ := drop_head e
    rw [← h1] at hr
    have h2 := gen_rel hs K (o + 1) hr
    rw [h1] at h2
    rw [e]
    cases k with
    | bool => obtain ⟨b, rfl⟩ := hx; exact .cons (by simp [boolAt, h0, rel]) h2
    | int k => obtain ⟨n, rfl, _⟩ := hx; exact .cons (by simp [intAt, h0, rel]) h2
    | slice t => exact .cons (by simp only [lenAt, h0]; exact hs o t x h0 hx) h2

def noSl : List CK → Bool
  | [] => true
  | .slice _ :: _ => false
  | _ :: K => noSl K
theorem noSl_rel {P : Program} {w : World} {T : TypeId → List Value → Prop} {φ : Emb} {id : Nat} {cs : List Value} :
    ∀ (K : List CK) (o : Nat), noSl K = true → F2 (okK P w T) K (cs.drop o) → F2 (rel φ) (gen id cs K o) (cs.drop o)
  | [], o, _, h => by rw [h.nil_left]; exact .nil
  | k :: K, o, hn, h => by
    obtain ⟨x, r, e, hx, hr⟩ := h.cons_left
    obtain ⟨h0, h1⟩ := drop_head e
    rw [← h1] at hr
    cases k with
    | bool =>
      have h2 := noSl_rel (φ := φ) (id := id) K (o + 1) hn hr
      rw [h1] at h2; rw [e]
      obtain ⟨b, rfl⟩ := hx; exact .cons (by simp [boolAt, h0, rel]) h2
    | int k =>
      have h2 := noSl_rel (φ := φ) (id := id) K (o + 1) hn hr
      rw [h1] at h2; rw [e]
      obtain ⟨n, rfl, _⟩ := hx; exact .cons (by simp [intAt, h0, rel]) h2
    | slice t => cases hn

theorem int_wf {P : Program} {w : World} {T : TypeId → List Value → Prop} {K : List CK} {cs : List Value} (h : F2 (okK P w T) K cs) {i : Nat} {k : IntKind} (hk : K[i]? = some (.int k)) : (Lit.int k (intAt cs i)).wf = true := by
  obtain ⟨x, hx, n, rfl, hw⟩ := h.get hk
  simp only [intAt, hx]
  exact hw

def placeOf (x : Value) (str : Nat) : Option Place := match x with | .slice (some a) _ cap => some ⟨a.block, a.off, str, cap⟩ | _ => none
def rowsOf (w : World) (x : Value) (c i : Nat) : List Value := match x with | .slice (some a) _ _ => (match w.cells? 0 (a.add (i * c)) c with | some cs => cs | none => []) | _ => []

theorem has_spot {P : Program} {w : World} {r : Reach} {b : Nat} {a : Addr} {e : TypeId} {n : Nat} (h : w.has P r b a e n) : a.spot = none ∧ a.block < w.heap.size := by
  obtain ⟨_, hs, row, cells, hsh, _⟩ := h
  refine ⟨hs, ?_⟩
  unfold World.shape? at hsh
  rcases Nat.lt_or_ge a.block w.heap.size with h | h
  · exact h
  · rw [Array.getElem?_eq_none h] at hsh
    cases hsh

theorem spot_cell {P : Program} {w : World} {r : Reach} {b : Nat} {u : TypeId} {a : Addr} {len cap : Nat} (h : Cell.okWide P w r b u (.slice (some a) len cap)) : a.spot = none ∧ a.block < w.heap.size := by
  unfold Cell.okWide at h
  cases hu : P.underlying u with
  | none => simp [hu, Cell.ok] at h
  | some desc =>
    cases desc <;> simp [hu, Cell.ok] at h
    exact has_spot h.2.2

theorem spot_agg {P : Program} {w : World} {r : Reach} {b : Nat} {t : TypeId} {fs : Array Field} {cs : Array Value} (ht : P.underlying t = some (.struct fs)) (h : Value.okWide P w r b t (.agg cs)) {i : Nat} {a : Addr} {len cap : Nat} (hi : cs.toList[i]? = some (.slice (some a) len cap)) :
    a.spot = none ∧ a.block < w.heap.size := by
  unfold Value.okWide at h
  simp only [ht] at h
  obtain ⟨cs', he, _, ts, _, _, hr⟩ := h
  cases he
  obtain ⟨u, _, hu⟩ := hr i _ (by simpa using hi)
  exact spot_cell hu

theorem spot_slice {P : Program} {w : World} {r : Reach} {b : Nat} {t e : TypeId} (ht : P.underlying t = some (.slice e)) {a : Addr} {len cap : Nat} (h : Value.okWide P w r b t (.slice (some a) len cap)) : a.spot = none ∧ a.block < w.heap.size := by
  unfold Value.okWide at h
  simp only [ht] at h
  exact spot_cell h

theorem rel_slice {P : Program} {w : World} {T : TypeId → List Value → Prop} {φ : Emb} {id str : Nat} {e : TypeId} {x : Value} (hx : okK P w T (.slice e) x) (hs : ∀ a len cap, x = .slice (some a) len cap → a.spot = none) (hφ : φ id = placeOf x str) :
    rel φ (.slice ⟨id, 0, 0, 0⟩ false (lenV x)) x := by
  rcases hx with rfl | ⟨a, len, cap, rfl, hl, hc, _⟩
  · exact ⟨none, 0, rfl, Nat.le_refl _, .inl ⟨rfl, rfl, .inl rfl⟩⟩
  · refine ⟨some a, cap, rfl, hl, .inr ⟨_, hφ, ?_, fun _ => ⟨rfl, rfl, by simp⟩⟩⟩
    have h1 := hs a len cap rfl
    cases a
    simp only at h1
    subst h1
    simp [Place.at]

theorem brel_slice {P : Program} {w : World} {T : TypeId → List Value → Prop} {φ : Emb} {id c n : Nat} {e te : TypeId} {x : Value} {K : List CK} {row : Nat → List Seg} {p : Place} (hx : okK P w T (.slice e) x) (hs : ∀ a len cap, x = .slice (some a) len cap → a.spot = none) (hc : P.cellsOf e = c)
    (hK : ∀ cs, T e cs → F2 (okK P w T) K cs) (hno : noSl K = true) (hrow : ∀ i, flat (row i) = gen id (rowsOf w x c i) K 0) (hn : n = lenV x) (hp : placeOf x c = some p) : BRel φ ⟨c, some n, row, te, false⟩ p w := by
  rcases hx with rfl | ⟨a, len, cap, rfl, hl, hcap, hi⟩
  · cases hp
  · have h1 := hs a len cap rfl
    obtain ⟨bk, off, sp⟩ := a
    simp only at h1
    subst h1
    simp only [placeOf, Option.some.injEq] at hp
    subst hp
    refine ⟨rfl, fun i hlt => ?_, fun h => by cases h⟩
    have hlt' : i < len := by subst hn; exact hlt
    obtain ⟨cs, hcs, hT⟩ := hi i hlt'
    rw [hc] at hcs
    obtain ⟨_, hlen, hcell⟩ := World.cells?_some hcs
    refine ⟨cs, ?_, hlen, fun j y hy => ?_⟩
    · rw [hrow i]
      have hr : rowsOf w (.slice (some ⟨bk, off, none⟩) len cap) c i = cs := by simp only [rowsOf, hcs]
      rw [hr]
      have := noSl_rel (φ := φ) (id := id) K 0 hno (by simpa using hK cs hT)
      simpa using this
    · have hj : j < c := by
        rcases Nat.lt_or_ge j cs.length with h | h
        · omega
        · rw [List.getElem?_eq_none h] at hy; cases hy
      have := hcell j hj
      rw [hy, add_plain, add_plain] at this
      rw [← this, Nat.mul_comm]

theorem place_lt {x : Value} {str : Nat} {w : World} {p : Place} (hs : ∀ a len cap, x = .slice (some a) len cap → a.block < w.heap.size) (hp : placeOf x str = some p) : p.blk < w.heap.size := by
  unfold placeOf at hp
  split at hp
  · cases hp; exact hs _ _ _ rfl
  · cases hp

theorem Fr.below {φ ψ : Emb} {H K : Heap} {w v : World} (h : Fr φ H w ψ K v) (hno : ∀ i B, getB H.blks i = some B → B.wr = false) : Below w.heap.size w v :=
  ⟨h.os, h.tape, h.output, h.size, fun k hk => h.old k hk (fun i B p h1 h2 _ => by rw [hno i B h1] at h2; cases h2)⟩

section
variable {H : Type} {enc : TypeId × Value → H} {P : Program}
theorem post_of_old {f : Func} {s : ChangeSpec} {apart fresh handsOn again : Bool} {W W' : World} {args : Array Value} {v : Value} {ds gs : List (DataW H)} {before pa pv : List MemPlace}
    (hW : DataW.Whole enc P f.params.toList s.vars apart W args.toList ds gs before)
    (hres : ∀ (b : Nat) (sp : Nat → Bool) (hd : Bool), DataW.TrodAll enc P W' b sp hd f.resultTypes.toList (v.resultList f.resultTypes.size) (s.fn H (ds ++ gs)).results [])
    (hargs : ∀ sp : Nat → Bool, (∀ p ∈ before, sp p.block = true) → DataW.TrodAll enc P W' 0 sp true f.params.toList args.toList (s.fn H (ds ++ gs)).args pa)
    (hvars : ∀ sp : Nat → Bool, (∀ p ∈ before, sp p.block = true) → DataW.TrodVars enc P W' sp s.vars (s.fn H (ds ++ gs)).vars pv)
    (hps : before = pa ++ pv) (hb : Below W.heap.size W W')
    (hok : ∀ (j : Nat) (t : TypeId) (r : Value), f.resultTypes[j]? = some t → (v.resultList f.resultTypes.size)[j]? = some r → Value.okWide P W' .any 0 t r) :
    s.post enc P f apart fresh handsOn again W args v W' := by
  have hlt : ∀ p ∈ before, p.block < W.heap.size := fun p hp => hW.lt p hp
  have hold : ∀ p ∈ before, (fun b => decide (b < W.heap.size)) p.block = true := fun p hp => by simpa using hlt p hp
  refine ⟨ds, gs, before, [], pa, pv, hW, hres _ _ _, hargs _ hold, hvars _ hold, World.keptBut_mono (fun p hp => ⟨hp, ?_⟩) (hb.frame (· ∈ before)), fun _ => ?_⟩
  · rw [hps, List.mem_append] at hp
    exact Or.inr hp
  · obtain ⟨_, _, _, _, _, hz, hn⟩ := hW
    refine ⟨hok, _, _, ([] ++ pa) ++ pv, ⟨[] ++ pa, pv, trodAll_append (hargs _ (fun _ _ => rfl)) (hres _ _ _), hvars _ (fun _ _ => rfl), rfl, ?_, ?_⟩, ?_⟩
    · intro b off hp
      have hin : MemPlace.cell b off ∈ before := by rw [hps]; simpa using hp
      rw [hb.frozen (hlt _ hin)]
      exact hz b off hin
    · intro ha
      have := hn ha
      rw [hps] at this
      simpa using this
    · intro p hp _
      rw [hps]
      simpa using hp
end
end Go.AM

namespace Go.Proofs.Ytmbnakinhnkabaa
open Go.AM Go.ChangeShapes Go.WideShapes Go.ChangeAt Go.RowKit
set_option maxRecDepth 100000
set_option linter.unusedSimpArgs false
set_option linter.unusedVariables false
theorem own19 : ownKnob Try.prog.godebug = none := by kernel_rfl
theorem laidOut19 : laidOutB Try.prog = true := by kernel_rfl
def kBlk : List CK := [.int .u64, .int .i64, .int .i64, .slice 39]
def kOp : List CK := [.int .i64, .int .i64, .int .i64, .int .i64, .int .i64, .int .u64]
theorem kBlk_ok : kindsT Try.prog 5 25 = some kBlk := by kernel_rfl
theorem kOp_ok : kindsT Try.prog 5 39 = some kOp := by kernel_rfl
theorem cells39 : Try.prog.cellsOf 39 = 6 := by kernel_rfl
def opOf (cs : List Value) : OpS := ⟨intAt cs 0, intAt cs 1, intAt cs 2, intAt cs 3, intAt cs 4, intAt cs 5⟩
def blkOf (w : World) (cs : List Value) : BlkS := ⟨intAt cs 0, intAt cs 1, intAt cs 2, lenAt cs 3, fun i => opOf (rowsOf w (valAt cs 3) 6 i)⟩
theorem op_gen (cs : List Value) : flat (opL (opOf cs)) = gen 0 cs kOp 0 := rfl
theorem blk_gen (w : World) (cs : List Value) : flat (blkL (blkOf w cs) 0) = gen 0 cs kBlk 0 := rfl
structure OpWf (o : OpS) : Prop where
  kind : -9223372036854775808 ≤ o.kind ∧ o.kind ≤ 9223372036854775807
  r : -9223372036854775808 ≤ o.r ∧ o.r ≤ 9223372036854775807
  a : -9223372036854775808 ≤ o.a ∧ o.a ≤ 9223372036854775807
  b : -9223372036854775808 ≤ o.b ∧ o.b ≤ 9223372036854775807
  order : -9223372036854775808 ≤ o.order ∧ o.order ≤ 9223372036854775807
  imm : 0 ≤ o.imm ∧ o.imm ≤ 18446744073709551615
structure BlkWf (b : BlkS) : Prop where
  pc : 0 ≤ b.pc ∧ b.pc ≤ 18446744073709551615
  words : -9223372036854775808 ≤ b.words ∧ b.words ≤ 9223372036854775807
  el : -9223372036854775808 ≤ b.el ∧ b.el ≤ 9223372036854775807
  ops : ∀ i, i < b.n → OpWf (b.f i)
theorem wf_i64 {n : Int} (h : (Lit.int .i64 n).wf = true) : -9223372036854775808 ≤ n ∧ n ≤ 9223372036854775807 := by
  simp only [Lit.wf, Bool.and_eq_true, decide_eq_true_eq] at h
  exact ⟨h.1, h.2⟩
theorem wf_u64 {n : Int} (h : (Lit.int .u64 n).wf = true) : 0 ≤ n ∧ n ≤ 18446744073709551615 := by
  simp only [Lit.wf, Bool.and_eq_true, decide_eq_true_eq] at h
  exact ⟨h.1, h.2⟩
theorem blk_arg2 {H : Type} {enc : TypeId × Value → H} {W : World} {v0 : Value} {d0 : DataW H} {p0 : List MemPlace}
    (o0 : Value.okWide Try.prog W .any 0 25 v0) (h0 : DataW.Trod enc Try.prog W 0 (fun _ => true) true 25 v0 d0 p0) :
    ∃ (b : BlkS) (q : Option AM.Place), BlkWf b ∧ (∀ φ : Emb, φ 0 = q → relA φ (.agg (blkL b 0)) v0) ∧ (∀ (φ : Emb) (p : AM.Place), q = some p → BRel φ (opsB b.n b.f) p W) ∧ (∀ p : AM.Place, q = some p → p.blk < W.heap.size) ∧ ∀ cs, v0 = .agg cs → b.n = lenAt cs.toList 3 := by
  obtain ⟨cs0, rfl, _⟩ := okWide_struct Try.underlying25 o0
  obtain ⟨f0, h0⟩ := h0
  have q0 := kinds_ok (spare := fun _ => true) (held := true) 5 25 kBlk cs0.toList kBlk_ok ⟨f0, _, h0⟩
  obtain ⟨x0, hx0, k0⟩ := q0.get (i := 3) (a := .slice 39) rfl
  have hv0 : valAt cs0.toList 3 = x0 := by simp only [valAt, hx0]
  have hl0 : lenAt cs0.toList 3 = lenV x0 := by simp only [lenAt, hx0]
  have s0 : ∀ a len cap, x0 = .slice (some a) len cap → a.spot = none ∧ a.block < W.heap.size := fun a len cap e => spot_agg Try.underlying25 o0 (i := 3) (by rw [← e]; exact hx0)
  refine ⟨blkOf W cs0.toList, placeOf x0 6, ⟨?_, ?_, ?_, fun i hi => ?_⟩, fun φ hφ => ⟨cs0, rfl, ?_⟩, fun φ p hp => ?_, fun p hp => place_lt (fun a len cap e => (s0 a len cap e).2) hp, fun cs e => by cases e; rfl⟩
  · exact wf_u64 (int_wf q0 (i := 0) (k := .u64) rfl)
  · exact wf_i64 (int_wf q0 (i := 1) (k := .i64) rfl)
  · exact wf_i64 (int_wf q0 (i := 2) (k := .i64) rfl)
  · have hi' : i < lenV x0 := by rw [← hl0]; exact hi
    show OpWf (opOf (rowsOf W (valAt cs0.toList 3) 6 i))
    rw [hv0]
    rcases k0 with rfl | ⟨a, len, cap, rfl, _, _, hrow⟩
    · exact absurd hi' (Nat.not_lt_zero _)
    · obtain ⟨cs, hcs, hT⟩ := hrow i hi'
      rw [cells39] at hcs
      have hr : rowsOf W (.slice (some a) len cap) 6 i = cs := by simp only [rowsOf, hcs]
      rw [hr]
      have hk := kinds_ok 5 39 kOp cs kOp_ok hT
      exact ⟨wf_i64 (int_wf hk (i := 0) (k := .i64) rfl), wf_i64 (int_wf hk (i := 1) (k := .i64) rfl), wf_i64 (int_wf hk (i := 2) (k := .i64) rfl), wf_i64 (int_wf hk (i := 3) (k := .i64) rfl), wf_i64 (int_wf hk (i := 4) (k := .i64) rfl), wf_u64 (int_wf hk (i := 5) (k := .u64) rfl)⟩
  · rw [blk_gen]
    refine gen_rel (φ := φ) (T := Tr enc Try.prog W (fun _ => true) true) ?_ kBlk 0 (by simpa using q0)
    intro j e x hj hx
    refine rel_slice hx (fun a len cap e => ?_) (str := 6) ?_
    · subst e
      exact (spot_agg Try.underlying25 o0 hj).1
    · obtain ⟨ck, hck, hck'⟩ : ∃ ck, kBlk[j]? = some ck ∧ okK Try.prog W (Tr enc Try.prog W (fun _ => true) true) ck x := by
        have hlt : j < kBlk.length := by
          rw [q0.length]
          rcases Nat.lt_or_ge j cs0.toList.length with h | h
          · exact h
          · rw [List.getElem?_eq_none h] at hj; cases hj
        obtain ⟨y, hy, hyk⟩ := q0.get (List.getElem?_eq_getElem hlt)
        rw [hj] at hy
        cases hy
        exact ⟨_, List.getElem?_eq_getElem hlt, hyk⟩
      have isS : ∃ r n c, x = .slice r n c := by
        rcases hx with rfl | ⟨a, len, cap, rfl, _⟩ <;> exact ⟨_, _, _, rfl⟩
      obtain ⟨r, n, c, rfl⟩ := isS
      match j, hck with
      | 0, hck => cases hck; obtain ⟨_, e, _⟩ := hck'; cases e
      | 1, hck => cases hck; obtain ⟨_, e, _⟩ := hck'; cases e
      | 2, hck => cases hck; obtain ⟨_, e, _⟩ := hck'; cases e
      | 3, hck =>
        rw [hj] at hx0
        cases hx0
        exact hφ
      | j + 4, hck => cases hck
  · exact brel_slice (φ := φ) (id := 0) k0 (fun a len cap e => (s0 a len cap e).1) cells39 (fun cs hT => kinds_ok 5 39 kOp cs kOp_ok hT) rfl (fun i => by rw [← hv0]; exact op_gen _) hl0 hp
theorem blk_arg {H : Type} {enc : TypeId × Value → H} {W : World} {v0 : Value} {d0 : DataW H} {p0 : List MemPlace}
    (o0 : Value.okWide Try.prog W .any 0 25 v0) (h0 : DataW.Trod enc Try.prog W 0 (fun _ => true) true 25 v0 d0 p0) :
    ∃ (b : BlkS) (q : Option AM.Place), BlkWf b ∧ (∀ φ : Emb, φ 0 = q → relA φ (.agg (blkL b 0)) v0) ∧ (∀ (φ : Emb) (p : AM.Place), q = some p → BRel φ (opsB b.n b.f) p W) ∧ ∀ p : AM.Place, q = some p → p.blk < W.heap.size := by
  obtain ⟨b, q, h1, h2, h3, h4, _⟩ := blk_arg2 o0 h0
  exact ⟨b, q, h1, h2, h3, h4⟩
def zeros : List CK → List Value
  | [] => []
  | .bool :: K => .bool false :: zeros K
  | .int k :: K => .int k 0 :: zeros K
  | .slice _ :: K => .slice none 0 0 :: zeros K
end Go.Proofs.Ytmbnakinhnkabaa

