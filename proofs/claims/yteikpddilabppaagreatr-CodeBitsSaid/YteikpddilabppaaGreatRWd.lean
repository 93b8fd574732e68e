/- insn: what is asked of fields. -/
import Derived.Test.YteikpddilabppaaGreatRWb
namespace Go.Proofs.YteikpddilabppaaGreatR
open Go.AM
set_option maxRecDepth 100000
set_option linter.unusedSimpArgs false
set_option linter.unusedVariables false
theorem call_gn {Con' : ConT} {f : FuncId} {args : List AV} {s : St} {e : Nat × Bool × Bool} {π : Path} {dst : Option Nat} {tl : Bool} {k : St → (St → Prop) → Prop} {Q : St → Prop} (v : AV) (N : List Blk) (hN : allW N = true) (h : imp (e :: π) (Con' f args (roH s.heap) fun v' H' => v' = v ∧ H' = addBs (roH s.heap) N)) (hk : k (St.put ⟨s.tmps, addBs s.heap N⟩ dst (e :: π) v) Q) : callW Con' f args s (e :: π) dst tl k Q := by
  cases tl
  · exact ⟨v, N, hN, h, hk⟩
  · exact .inl ⟨v, N, hN, h, hk⟩
def withinS (n of least most : Int) : Bool := (decide (n ≥ least) && decide (n ≤ most)) && (n.tmod of == 0)
theorem con70 (n of least most : Int) (ho : of ≠ 0) (H : Heap) : Con Tryz.prog 70 [.c (.int .i64 n), .c (.int .i64 of), .c (.int .i64 least), .c (.int .i64 most)] H (fun v H' => v = .c (.bool (withinS n of least most)) ∧ H' = H) := by
  refine Con.pure ?_ (by simp only [leArgs, leV, leV1, leC, and_self]) rfl H
  (refine con_of_run mixed (fn := Tryz.f70) (by kernel_rfl) (by kernel_rfl) C70_ok (rs := [.tmp 8]) (by kernel_rfl) (Nat.le_of_ble_eq_true (by kernel_rfl)) ?_; unfold C70; simp only [initT, Nat.reduceAdd])
  repeat' (first
    | refine run_seq ?_
    | refine run_skip ?_
    | (refine run_region fun K hK => ?_; (try (simp (maxSteps := 10000000) only [ne_eq, C70r0, C70r1, rwp_nil, rwp_cons, aop, gpath, St.get, slotAt, sfx, eqP, St.put, addBlk, bin, isShift, sameK, arith, getsl, selB_and, beqb, shed, imp])); (repeat (first | (refine And.intro ?_ ?_; · (intros; assumption)))); with_reducible refine hK _ ?_; clear hK K)
    | (refine run_cond rfl (fun hc => ?_) (fun hc => ?_) <;> try (simp only [*, Bool.true_eq_false, Bool.false_eq_true, Bool.not_true, Bool.not_false, Bool.true_or, Bool.or_true, Bool.false_or, Bool.or_false, Bool.false_and, Bool.and_false, bne_self_eq_false, beq_self_eq_true] at hc; done))
    | refine run_block ?_
    | refine run_ret ?_
    | refine run_nil ?_
    | refine run_exit ?_
    | refine blk_normal ?_
    | refine blk_ret ?_
    | refine blk_here ?_
    | refine blk_there rfl ?_
    | refine loop_exit ?_
    | refine loop_ret ?_
    | refine un_exit ?_
    | refine un_ret ?_
    | refine unE_exit ?_
    | refine unE_ret ?_
    | refine un_normal ?_)
  exact end_tmp1 rfl rfl rfl ⟨rfl, rfl⟩
def logicOk (i : InsnS) : Bool := withinS i.sub 1 0 2 && (!i.flags || (i.sub == 0))
theorem con73 (i : InsnS) (H : Heap) : Con Tryz.prog 73 [.agg (insnL i)] H (fun v H' => v = .c (.bool (logicOk i)) ∧ H' = H) := by
  refine Con.pure ?_ (by simp only [leArgs, leV, leV1, insnL, leSegs, leSeg, leC, and_self]) rfl H
  (refine con_of_run mixed (fn := Tryz.f73) (by kernel_rfl) (by kernel_rfl) C73_ok (rs := [.tmp 2]) (by kernel_rfl) (Nat.le_of_ble_eq_true (by kernel_rfl)) ?_; unfold C73; simp only [initT])
  repeat' (first
    | refine run_seq ?_
    | refine run_skip ?_
    | (refine run_region fun K hK => ?_; (try (simp (maxSteps := 10000000) only [insnL, C73r0, C73r1, rwp_nil, rwp_cons, aop, gpath, St.get, slotAt, sfx, eqP, segsOf, St.put, addBlk, getB, ld1, rowNeed, segAt, nsub, shed, addN, Seg.size, sizes, appL, argsOf, ptrsOf, Nat.reduceAdd])); (repeat (first | (refine And.intro ?_ ?_; · decide) | ((first | (refine call_t _ (con70 _ _ _ _ (by decide) _) ?_; rintro v H' ⟨rfl, rfl⟩) | refine call_q _ (con70 _ _ _ _ (by decide) _) ?_ | refine call_g _ (imp_of (con70 _ _ _ _ (by decide) _)) ?_); simp (maxSteps := 10000000) only [rwp_nil, rwp_cons, rwpK_app, aop, gpath, St.get, slotAt, sfx, eqP, St.put, addBlk, getB, ld1, rowNeed, segAt, nsub, bin, un, isShift, sameK, arith, getsl, selB_or, selB_and, beqb, shed, addN, Seg.size, Nat.reduceAdd]))); with_reducible refine hK _ ?_; clear hK K)
    | (refine run_cond rfl (fun hc => ?_) (fun hc => ?_) <;> try (simp only [*, Bool.true_eq_false, Bool.false_eq_true, Bool.not_true, Bool.not_false, Bool.true_or, Bool.or_true, Bool.false_or, Bool.or_false, Bool.false_and, Bool.and_false, bne_self_eq_false, beq_self_eq_true] at hc; done))
    | refine run_block ?_
    | refine run_ret ?_
    | refine run_nil ?_
    | refine run_exit ?_
    | refine blk_normal ?_
    | refine blk_ret ?_
    | refine blk_here ?_
    | refine blk_there rfl ?_
    | refine loop_exit ?_
    | refine loop_ret ?_
    | refine un_exit ?_
    | refine un_ret ?_
    | refine unE_exit ?_
    | refine unE_ret ?_
    | refine un_normal ?_)
  exact end_tmp1 rfl rfl rfl ⟨rfl, rfl⟩
def addImmOk (i : InsnS) : Bool := withinS i.imm 1 0 4095 && withinS i.amount 12 0 12
theorem con69 (i : InsnS) (H : Heap) : Con Tryz.prog 69 [.agg (insnL i)] H (fun v H' => v = .c (.bool (addImmOk i)) ∧ H' = H) := by
  refine Con.pure ?_ (by simp only [leArgs, leV, leV1, insnL, leSegs, leSeg, leC, and_self]) rfl H
  (refine con_of_run mixed (fn := Tryz.f69) (by kernel_rfl) (by kernel_rfl) C69_ok (rs := [.tmp 2]) (by kernel_rfl) (Nat.le_of_ble_eq_true (by kernel_rfl)) ?_; unfold C69; simp only [initT])
  repeat' (first
    | refine run_seq ?_
    | refine run_skip ?_
    | (refine run_region fun K hK => ?_; (try (simp (maxSteps := 10000000) only [insnL, C69r0, C69r1, rwp_nil, rwp_cons, aop, gpath, St.get, slotAt, sfx, eqP, segsOf, St.put, addBlk, getB, ld1, rowNeed, segAt, nsub, shed, addN, Seg.size, sizes, appL, argsOf, ptrsOf, Nat.reduceAdd])); (repeat (first | (refine And.intro ?_ ?_; · decide) | ((first | (refine call_t _ (con70 _ _ _ _ (by decide) _) ?_; rintro v H' ⟨rfl, rfl⟩) | refine call_q _ (con70 _ _ _ _ (by decide) _) ?_ | refine call_g _ (imp_of (con70 _ _ _ _ (by decide) _)) ?_); simp (maxSteps := 10000000) only [rwp_nil, rwp_cons, rwpK_app, aop, gpath, St.get, slotAt, sfx, eqP, St.put, addBlk, getB, ld1, rowNeed, segAt, nsub, getsl, selB_and, beqb, shed, addN, Seg.size, appL, argsOf, ptrsOf, Nat.reduceAdd]))); with_reducible refine hK _ ?_; clear hK K)
    | (refine run_cond rfl (fun hc => ?_) (fun hc => ?_) <;> try (simp only [*, Bool.true_eq_false, Bool.false_eq_true, Bool.not_true, Bool.not_false, Bool.true_or, Bool.or_true, Bool.false_or, Bool.or_false, Bool.false_and, Bool.and_false, bne_self_eq_false, beq_self_eq_true] at hc; done))
    | refine run_block ?_
    | refine run_ret ?_
    | refine run_nil ?_
    | refine run_exit ?_
    | refine blk_normal ?_
    | refine blk_ret ?_
    | refine blk_here ?_
    | refine blk_there rfl ?_
    | refine loop_exit ?_
    | refine loop_ret ?_
    | refine un_exit ?_
    | refine un_ret ?_
    | refine unE_exit ?_
    | refine unE_ret ?_
    | refine un_normal ?_)
  exact end_tmp1 rfl rfl rfl ⟨rfl, rfl⟩
def addRegOk (i : InsnS) : Bool := withinS i.shift 1 0 2 && withinS i.amount 1 0 63
theorem con71 (i : InsnS) (H : Heap) : Con Tryz.prog 71 [.agg (insnL i)] H (fun v H' => v = .c (.bool (addRegOk i)) ∧ H' = H) := by
  refine Con.pure ?_ (by simp only [leArgs, leV, leV1, insnL, leSegs, leSeg, leC, and_self]) rfl H
  (refine con_of_run mixed (fn := Tryz.f71) (by kernel_rfl) (by kernel_rfl) C71_ok (rs := [.tmp 2]) (by kernel_rfl) (Nat.le_of_ble_eq_true (by kernel_rfl)) ?_; unfold C71; simp only [initT])
  repeat' (first
    | refine run_seq ?_
    | refine run_skip ?_
    | (refine run_region fun K hK => ?_; (try (simp (maxSteps := 10000000) only [insnL, C71r0, C71r1, rwp_nil, rwp_cons, aop, gpath, St.get, slotAt, sfx, eqP, segsOf, St.put, addBlk, getB, ld1, rowNeed, segAt, nsub, shed, addN, Seg.size, sizes, appL, argsOf, ptrsOf, Nat.reduceAdd])); (repeat (first | (refine And.intro ?_ ?_; · decide) | ((first | (refine call_t _ (con70 _ _ _ _ (by decide) _) ?_; rintro v H' ⟨rfl, rfl⟩) | refine call_q _ (con70 _ _ _ _ (by decide) _) ?_ | refine call_g _ (imp_of (con70 _ _ _ _ (by decide) _)) ?_); simp (maxSteps := 10000000) only [rwp_nil, rwp_cons, rwpK_app, aop, gpath, St.get, slotAt, sfx, eqP, St.put, addBlk, getB, ld1, rowNeed, segAt, nsub, getsl, selB_and, beqb, shed, addN, Seg.size, appL, argsOf, ptrsOf, Nat.reduceAdd]))); with_reducible refine hK _ ?_; clear hK K)
    | (refine run_cond rfl (fun hc => ?_) (fun hc => ?_) <;> try (simp only [*, Bool.true_eq_false, Bool.false_eq_true, Bool.not_true, Bool.not_false, Bool.true_or, Bool.or_true, Bool.false_or, Bool.or_false, Bool.false_and, Bool.and_false, bne_self_eq_false, beq_self_eq_true] at hc; done))
    | refine run_block ?_
    | refine run_ret ?_
    | refine run_nil ?_
    | refine run_exit ?_
    | refine blk_normal ?_
    | refine blk_ret ?_
    | refine blk_here ?_
    | refine blk_there rfl ?_
    | refine loop_exit ?_
    | refine loop_ret ?_
    | refine un_exit ?_
    | refine un_ret ?_
    | refine unE_exit ?_
    | refine unE_ret ?_
    | refine un_normal ?_)
  exact end_tmp1 rfl rfl rfl ⟨rfl, rfl⟩
def logRegOk (i : InsnS) : Bool := (logicOk i && withinS i.shift 1 0 3) && withinS i.amount 1 0 63
theorem con72 (i : InsnS) (H : Heap) : Con Tryz.prog 72 [.agg (insnL i)] H (fun v H' => v = .c (.bool (logRegOk i)) ∧ H' = H) := by
  refine Con.pure ?_ (by simp only [leArgs, leV, leV1, insnL, leSegs, leSeg, leC, and_self]) rfl H
  (refine con_of_run mixed (fn := Tryz.f72) (by kernel_rfl) (by kernel_rfl) C72_ok (rs := [.tmp 2]) (by kernel_rfl) (Nat.le_of_ble_eq_true (by kernel_rfl)) ?_; unfold C72; simp only [initT])
  repeat' (first
    | refine run_seq ?_
    | refine run_skip ?_
    | (refine run_region fun K hK => ?_; (try (simp (maxSteps := 10000000) only [insnL, C72r0, C72r1, rwp_nil, rwp_cons, aop, gpath, St.get, slotAt, sfx, eqP, segsOf, St.put, addBlk, getB, ldn, rowNeed, nsub, shed, Seg.size, sizes, appL, argsOf, ptrsOf, cut, takeS, dropS, Nat.reduceAdd])); (repeat (first | (refine And.intro ?_ ?_; · decide) | ((first | (refine call_t _ (con70 _ _ _ _ (by decide) _) ?_; rintro v H' ⟨rfl, rfl⟩) | refine call_q _ (con70 _ _ _ _ (by decide) _) ?_ | refine call_g _ (imp_of (con70 _ _ _ _ (by decide) _)) ?_ | (refine call_t _ (con73 i _) ?_; rintro v H' ⟨rfl, rfl⟩) | refine call_q _ (con73 i _) ?_ | refine call_g _ (imp_of (con73 i _)) ?_); simp (maxSteps := 10000000) only [rwp_nil, rwp_cons, rwpK_app, aop, gpath, St.get, slotAt, sfx, eqP, St.put, addBlk, getB, ld1, rowNeed, segAt, nsub, getsl, selB_and, beqb, shed, addN, Seg.size, appL, argsOf, ptrsOf, Nat.reduceAdd]))); with_reducible refine hK _ ?_; clear hK K)
    | (refine run_cond rfl (fun hc => ?_) (fun hc => ?_) <;> try (simp only [*, Bool.true_eq_false, Bool.false_eq_true, Bool.not_true, Bool.not_false, Bool.true_or, Bool.or_true, Bool.false_or, Bool.or_false, Bool.false_and, Bool.and_false, bne_self_eq_false, beq_self_eq_true] at hc; done))
    | refine run_block ?_
    | refine run_ret ?_
    | refine run_nil ?_
    | refine run_exit ?_
    | refine blk_normal ?_
    | refine blk_ret ?_
    | refine blk_here ?_
    | refine blk_there rfl ?_
    | refine loop_exit ?_
    | refine loop_ret ?_
    | refine un_exit ?_
    | refine un_ret ?_
    | refine unE_exit ?_
    | refine unE_ret ?_
    | refine un_normal ?_)
  exact end_tmp1 rfl rfl rfl ⟨rfl, rfl⟩
def movWideOk (i : InsnS) : Bool := ((withinS i.sub 1 0 3 && (i.sub != 1)) && withinS i.imm 1 0 65535) && withinS i.amount 16 0 48
theorem con76 (i : InsnS) (H : Heap) : Con Tryz.prog 76 [.agg (insnL i)] H (fun v H' => v = .c (.bool (movWideOk i)) ∧ H' = H) := by
  refine Con.pure ?_ (by simp only [leArgs, leV, leV1, insnL, leSegs, leSeg, leC, and_self]) rfl H
  (refine con_of_run mixed (fn := Tryz.f76) (by kernel_rfl) (by kernel_rfl) C76_ok (rs := [.tmp 2]) (by kernel_rfl) (Nat.le_of_ble_eq_true (by kernel_rfl)) ?_; unfold C76; simp only [initT])
  repeat' (first
    | refine run_seq ?_
    | refine run_skip ?_
    | (refine run_region fun K hK => ?_; (try (simp (maxSteps := 10000000) only [insnL, C76r0, C76r1, rwp_nil, rwp_cons, aop, gpath, St.get, slotAt, sfx, eqP, segsOf, St.put, addBlk, getB, ld1, rowNeed, segAt, nsub, shed, addN, Seg.size, sizes, appL, argsOf, ptrsOf, Nat.reduceAdd])); (repeat (first | (refine And.intro ?_ ?_; · decide) | ((first | (refine call_t _ (con70 _ _ _ _ (by decide) _) ?_; rintro v H' ⟨rfl, rfl⟩) | refine call_q _ (con70 _ _ _ _ (by decide) _) ?_ | refine call_g _ (imp_of (con70 _ _ _ _ (by decide) _)) ?_); simp (maxSteps := 10000000) only [rwp_nil, rwp_cons, rwpK_app, aop, gpath, St.get, slotAt, sfx, eqP, St.put, addBlk, getB, ld1, rowNeed, segAt, nsub, bin, isShift, sameK, arith, getsl, selB_and, beqb, shed, addN, Seg.size, appL, argsOf, ptrsOf, Nat.reduceAdd]))); with_reducible refine hK _ ?_; clear hK K)
    | (refine run_cond rfl (fun hc => ?_) (fun hc => ?_) <;> try (simp only [*, Bool.true_eq_false, Bool.false_eq_true, Bool.not_true, Bool.not_false, Bool.true_or, Bool.or_true, Bool.false_or, Bool.or_false, Bool.false_and, Bool.and_false, bne_self_eq_false, beq_self_eq_true] at hc; done))
    | refine run_block ?_
    | refine run_ret ?_
    | refine run_nil ?_
    | refine run_exit ?_
    | refine blk_normal ?_
    | refine blk_ret ?_
    | refine blk_here ?_
    | refine blk_there rfl ?_
    | refine loop_exit ?_
    | refine loop_ret ?_
    | refine un_exit ?_
    | refine un_ret ?_
    | refine unE_exit ?_
    | refine unE_ret ?_
    | refine un_normal ?_)
  exact end_tmp1 rfl rfl rfl ⟨rfl, rfl⟩
def bitfieldOk (i : InsnS) : Bool := (withinS i.sub 2 0 2 && withinS i.imm 1 0 63) && withinS i.imm2 1 0 63
theorem con77 (i : InsnS) (H : Heap) : Con Tryz.prog 77 [.agg (insnL i)] H (fun v H' => v = .c (.bool (bitfieldOk i)) ∧ H' = H) := by
  refine Con.pure ?_ (by simp only [leArgs, leV, leV1, insnL, leSegs, leSeg, leC, and_self]) rfl H
  (refine con_of_run mixed (fn := Tryz.f77) (by kernel_rfl) (by kernel_rfl) C77_ok (rs := [.tmp 2]) (by kernel_rfl) (Nat.le_of_ble_eq_true (by kernel_rfl)) ?_; unfold C77; simp only [initT])
  repeat' (first
    | refine run_seq ?_
    | refine run_skip ?_
    | (refine run_region fun K hK => ?_; (try (simp (maxSteps := 10000000) only [insnL, C77r0, C77r1, rwp_nil, rwp_cons, aop, gpath, St.get, slotAt, sfx, eqP, segsOf, St.put, addBlk, getB, ld1, rowNeed, segAt, nsub, shed, addN, Seg.size, sizes, appL, argsOf, ptrsOf, Nat.reduceAdd])); (repeat (first | (refine And.intro ?_ ?_; · decide) | ((first | (refine call_t _ (con70 _ _ _ _ (by decide) _) ?_; rintro v H' ⟨rfl, rfl⟩) | refine call_q _ (con70 _ _ _ _ (by decide) _) ?_ | refine call_g _ (imp_of (con70 _ _ _ _ (by decide) _)) ?_); simp (maxSteps := 10000000) only [rwp_nil, rwp_cons, rwpK_app, aop, gpath, St.get, slotAt, sfx, eqP, St.put, addBlk, getB, ld1, rowNeed, segAt, nsub, getsl, selB_and, beqb, shed, addN, Seg.size, appL, argsOf, ptrsOf, Nat.reduceAdd]))); with_reducible refine hK _ ?_; clear hK K)
    | (refine run_cond rfl (fun hc => ?_) (fun hc => ?_) <;> try (simp only [*, Bool.true_eq_false, Bool.false_eq_true, Bool.not_true, Bool.not_false, Bool.true_or, Bool.or_true, Bool.false_or, Bool.or_false, Bool.false_and, Bool.and_false, bne_self_eq_false, beq_self_eq_true] at hc; done))
    | refine run_block ?_
    | refine run_ret ?_
    | refine run_nil ?_
    | refine run_exit ?_
    | refine blk_normal ?_
    | refine blk_ret ?_
    | refine blk_here ?_
    | refine blk_there rfl ?_
    | refine loop_exit ?_
    | refine loop_ret ?_
    | refine un_exit ?_
    | refine un_ret ?_
    | refine unE_exit ?_
    | refine unE_ret ?_
    | refine un_normal ?_)
  exact end_tmp1 rfl rfl rfl ⟨rfl, rfl⟩
def noneOk (i : InsnS) : Bool := true
theorem con79 (i : InsnS) (H : Heap) : Con Tryz.prog 79 [.agg (insnL i)] H (fun v H' => v = .c (.bool (noneOk i)) ∧ H' = H) := by
  refine Con.pure ?_ (by simp only [leArgs, leV, leV1, insnL, leSegs, leSeg, leC, and_self]) rfl H
  (refine con_of_run mixed (fn := Tryz.f79) (by kernel_rfl) (by kernel_rfl) C79_ok (rs := [.tmp 2]) (by kernel_rfl) (Nat.le_of_ble_eq_true (by kernel_rfl)) ?_; unfold C79; simp only [initT])
  repeat' (first
    | refine run_seq ?_
    | refine run_skip ?_
    | (refine run_region fun K hK => ?_; (try (simp (maxSteps := 10000000) only [insnL, C79r0, C79r1, rwp_nil, rwp_cons, aop, gpath, St.get, slotAt, sfx, eqP, segsOf, St.put, addBlk, shed, Seg.size, sizes, Nat.reduceAdd])); (repeat (first | (refine And.intro ?_ ?_; · decide) | ((first | (refine call_t _ (con70 _ _ _ _ (by decide) _) ?_; rintro v H' ⟨rfl, rfl⟩) | refine call_q _ (con70 _ _ _ _ (by decide) _) ?_ | refine call_g _ (imp_of (con70 _ _ _ _ (by decide) _)) ?_); simp (maxSteps := 10000000) only [insnL, C79r0, C79r1, rwp_nil, rwp_cons, rwpK_app, aop, gpath, St.get, slotAt, sfx, eqP, segsOf, St.put, addBlk, getB, setB, delB, ld1, ldn, st1, stn, setRow, rowNeed, segAt, nsub, bin, un, eqB, isShift, sameK, arith, shiftR, getsl, selB_or, selB_and, beqb, shed, addN, Nat.beq, Seg.size, sizes, imp, needP, andN, appL, argsOf, ptrsOf, aasOf, cut, takeS, dropS, putS, partsOf, fillS, fieldOf, nthA, negIf, nilq, nilB, eqS, eqF, eqS1, andP, kin, slcS, strOk, plusA, bndHi, leN, optG, roH, roL, initT, exOk, exAll, wrAddr, Nat.reduceAdd, Nat.reduceSub, Nat.reduceMul, Int.reduceToNat, List.append_nil, List.nil_append, List.cons_append, eqT, idxT, cat, cpy, ite_int, ite_bool, ite_seg, ite_segs, ite_nil, ite_twice, Int.toNat_natCast, app, addBs, tob]))); with_reducible refine hK _ ?_; clear hK K)
    | (refine run_cond rfl (fun hc => ?_) (fun hc => ?_) <;> try (simp only [*, Bool.true_eq_false, Bool.false_eq_true, Bool.not_true, Bool.not_false, Bool.true_or, Bool.or_true, Bool.false_or, Bool.or_false, Bool.false_and, Bool.and_false, bne_self_eq_false, beq_self_eq_true] at hc; done))
    | refine run_block ?_
    | refine run_ret ?_
    | refine run_nil ?_
    | refine run_exit ?_
    | refine blk_normal ?_
    | refine blk_ret ?_
    | refine blk_here ?_
    | refine blk_there rfl ?_
    | refine loop_exit ?_
    | refine loop_ret ?_
    | refine un_exit ?_
    | refine un_ret ?_
    | refine unE_exit ?_
    | refine unE_ret ?_
    | refine un_normal ?_)
  exact end_tmp1 rfl rfl rfl ⟨rfl, rfl⟩
def selOk (i : InsnS) : Bool := withinS i.sub 1 0 3 && withinS i.cond 1 0 15
theorem con80 (i : InsnS) (H : Heap) : Con Tryz.prog 80 [.agg (insnL i)] H (fun v H' => v = .c (.bool (selOk i)) ∧ H' = H) := by
  refine Con.pure ?_ (by simp only [leArgs, leV, leV1, insnL, leSegs, leSeg, leC, and_self]) rfl H
  (refine con_of_run mixed (fn := Tryz.f80) (by kernel_rfl) (by kernel_rfl) C80_ok (rs := [.tmp 2]) (by kernel_rfl) (Nat.le_of_ble_eq_true (by kernel_rfl)) ?_; unfold C80; simp only [initT])
  repeat' (first
    | refine run_seq ?_
    | refine run_skip ?_
    | (refine run_region fun K hK => ?_; (try (simp (maxSteps := 10000000) only [insnL, C80r0, C80r1, rwp_nil, rwp_cons, aop, gpath, St.get, slotAt, sfx, eqP, segsOf, St.put, addBlk, getB, ld1, rowNeed, segAt, nsub, shed, addN, Seg.size, sizes, appL, argsOf, ptrsOf, Nat.reduceAdd])); (repeat (first | (refine And.intro ?_ ?_; · decide) | ((first | (refine call_t _ (con70 _ _ _ _ (by decide) _) ?_; rintro v H' ⟨rfl, rfl⟩) | refine call_q _ (con70 _ _ _ _ (by decide) _) ?_ | refine call_g _ (imp_of (con70 _ _ _ _ (by decide) _)) ?_); simp (maxSteps := 10000000) only [rwp_nil, rwp_cons, rwpK_app, aop, gpath, St.get, slotAt, sfx, eqP, St.put, addBlk, getB, ld1, rowNeed, segAt, nsub, getsl, selB_and, beqb, shed, addN, Seg.size, appL, argsOf, ptrsOf, Nat.reduceAdd]))); with_reducible refine hK _ ?_; clear hK K)
    | (refine run_cond rfl (fun hc => ?_) (fun hc => ?_) <;> try (simp only [*, Bool.true_eq_false, Bool.false_eq_true, Bool.not_true, Bool.not_false, Bool.true_or, Bool.or_true, Bool.false_or, Bool.or_false, Bool.false_and, Bool.and_false, bne_self_eq_false, beq_self_eq_true] at hc; done))
    | refine run_block ?_
    | refine run_ret ?_
    | refine run_nil ?_
    | refine run_exit ?_
    | refine blk_normal ?_
    | refine blk_ret ?_
    | refine blk_here ?_
    | refine blk_there rfl ?_
    | refine loop_exit ?_
    | refine loop_ret ?_
    | refine un_exit ?_
    | refine un_ret ?_
    | refine unE_exit ?_
    | refine unE_ret ?_
    | refine un_normal ?_)
  exact end_tmp1 rfl rfl rfl ⟨rfl, rfl⟩
def adrOk (i : InsnS) : Bool := ((i.sub == 0) && withinS i.imm 1 (-1048576) 1048575) || ((i.sub == 1) && withinS i.imm 4096 (-4294967296) 4294963200)
theorem con81 (i : InsnS) (H : Heap) : Con Tryz.prog 81 [.agg (insnL i)] H (fun v H' => v = .c (.bool (adrOk i)) ∧ H' = H) := by
  refine Con.pure ?_ (by simp only [leArgs, leV, leV1, insnL, leSegs, leSeg, leC, and_self]) rfl H
  (refine con_of_run mixed (fn := Tryz.f81) (by kernel_rfl) (by kernel_rfl) C81_ok (rs := [.tmp 2]) (by kernel_rfl) (Nat.le_of_ble_eq_true (by kernel_rfl)) ?_; unfold C81; simp only [initT])
  repeat' (first
    | refine run_seq ?_
    | refine run_skip ?_
    | (refine run_region fun K hK => ?_; (try (simp (maxSteps := 10000000) only [insnL, C81r0, C81r1, rwp_nil, rwp_cons, aop, gpath, St.get, slotAt, sfx, eqP, segsOf, St.put, addBlk, getB, ld1, rowNeed, segAt, nsub, bin, isShift, sameK, arith, beqb, shed, addN, Seg.size, sizes, appL, argsOf, ptrsOf, Nat.reduceAdd])); (repeat (first | (refine And.intro ?_ ?_; · decide) | ((first | (refine call_t _ (con70 _ _ _ _ (by decide) _) ?_; rintro v H' ⟨rfl, rfl⟩) | refine call_q _ (con70 _ _ _ _ (by decide) _) ?_ | refine call_g _ (imp_of (con70 _ _ _ _ (by decide) _)) ?_); simp (maxSteps := 10000000) only [rwp_nil, rwp_cons, rwpK_app, aop, gpath, St.get, slotAt, sfx, eqP, St.put, addBlk, getB, ld1, rowNeed, segAt, nsub, bin, isShift, sameK, arith, getsl, selB_or, selB_and, beqb, shed, addN, Seg.size, appL, argsOf, ptrsOf, Nat.reduceAdd]))); with_reducible refine hK _ ?_; clear hK K)
    | (refine run_cond rfl (fun hc => ?_) (fun hc => ?_) <;> try (simp only [*, Bool.true_eq_false, Bool.false_eq_true, Bool.not_true, Bool.not_false, Bool.true_or, Bool.or_true, Bool.false_or, Bool.or_false, Bool.false_and, Bool.and_false, bne_self_eq_false, beq_self_eq_true] at hc; done))
    | refine run_block ?_
    | refine run_ret ?_
    | refine run_nil ?_
    | refine run_exit ?_
    | refine blk_normal ?_
    | refine blk_ret ?_
    | refine blk_here ?_
    | refine blk_there rfl ?_
    | refine loop_exit ?_
    | refine loop_ret ?_
    | refine un_exit ?_
    | refine un_ret ?_
    | refine unE_exit ?_
    | refine unE_ret ?_
    | refine un_normal ?_)
  exact end_tmp1 rfl rfl rfl ⟨rfl, rfl⟩
def ldrOk (i : InsnS) : Bool := withinS i.imm 8 0 32760
theorem con85 (i : InsnS) (H : Heap) : Con Tryz.prog 85 [.agg (insnL i)] H (fun v H' => v = .c (.bool (ldrOk i)) ∧ H' = H) := by
  refine Con.pure ?_ (by simp only [leArgs, leV, leV1, insnL, leSegs, leSeg, leC, and_self]) rfl H
  (refine con_of_run mixed (fn := Tryz.f85) (by kernel_rfl) (by kernel_rfl) C85_ok (rs := [.tmp 2]) (by kernel_rfl) (Nat.le_of_ble_eq_true (by kernel_rfl)) ?_; unfold C85; simp only [initT])
  repeat' (first
    | refine run_seq ?_
    | refine run_skip ?_
    | (refine run_region fun K hK => ?_; (try (simp (maxSteps := 10000000) only [insnL, C85r0, C85r1, rwp_nil, rwp_cons, aop, gpath, St.get, slotAt, sfx, eqP, segsOf, St.put, addBlk, getB, ld1, rowNeed, segAt, nsub, shed, addN, Seg.size, sizes, appL, argsOf, ptrsOf, Nat.reduceAdd])); (repeat (first | (refine And.intro ?_ ?_; · decide) | ((first | (refine call_t _ (con70 _ _ _ _ (by decide) _) ?_; rintro v H' ⟨rfl, rfl⟩) | refine call_q _ (con70 _ _ _ _ (by decide) _) ?_ | refine call_g _ (imp_of (con70 _ _ _ _ (by decide) _)) ?_); simp (maxSteps := 10000000) only [rwp_nil, rwp_cons, rwpK_app, aop, gpath, St.get, slotAt, sfx, eqP, St.put, addBlk, shed]))); with_reducible refine hK _ ?_; clear hK K)
    | (refine run_cond rfl (fun hc => ?_) (fun hc => ?_) <;> try (simp only [*, Bool.true_eq_false, Bool.false_eq_true, Bool.not_true, Bool.not_false, Bool.true_or, Bool.or_true, Bool.false_or, Bool.or_false, Bool.false_and, Bool.and_false, bne_self_eq_false, beq_self_eq_true] at hc; done))
    | refine run_block ?_
    | refine run_ret ?_
    | refine run_nil ?_
    | refine run_exit ?_
    | refine blk_normal ?_
    | refine blk_ret ?_
    | refine blk_here ?_
    | refine blk_there rfl ?_
    | refine loop_exit ?_
    | refine loop_ret ?_
    | refine un_exit ?_
    | refine un_ret ?_
    | refine unE_exit ?_
    | refine unE_ret ?_
    | refine un_normal ?_)
  exact end_tmp1 rfl rfl rfl ⟨rfl, rfl⟩
def ldrRegOk (i : InsnS) : Bool := withinS i.amount 3 0 3
theorem con86 (i : InsnS) (H : Heap) : Con Tryz.prog 86 [.agg (insnL i)] H (fun v H' => v = .c (.bool (ldrRegOk i)) ∧ H' = H) := by
  refine Con.pure ?_ (by simp only [leArgs, leV, leV1, insnL, leSegs, leSeg, leC, and_self]) rfl H
  (refine con_of_run mixed (fn := Tryz.f86) (by kernel_rfl) (by kernel_rfl) C86_ok (rs := [.tmp 2]) (by kernel_rfl) (Nat.le_of_ble_eq_true (by kernel_rfl)) ?_; unfold C86; simp only [initT])
  repeat' (first
    | refine run_seq ?_
    | refine run_skip ?_
    | (refine run_region fun K hK => ?_; (try (simp (maxSteps := 10000000) only [insnL, C86r0, C86r1, rwp_nil, rwp_cons, aop, gpath, St.get, slotAt, sfx, eqP, segsOf, St.put, addBlk, getB, ld1, rowNeed, segAt, nsub, shed, addN, Seg.size, sizes, appL, argsOf, ptrsOf, Nat.reduceAdd])); (repeat (first | (refine And.intro ?_ ?_; · decide) | ((first | (refine call_t _ (con70 _ _ _ _ (by decide) _) ?_; rintro v H' ⟨rfl, rfl⟩) | refine call_q _ (con70 _ _ _ _ (by decide) _) ?_ | refine call_g _ (imp_of (con70 _ _ _ _ (by decide) _)) ?_); simp (maxSteps := 10000000) only [rwp_nil, rwp_cons, rwpK_app, aop, gpath, St.get, slotAt, sfx, eqP, St.put, addBlk, shed]))); with_reducible refine hK _ ?_; clear hK K)
    | (refine run_cond rfl (fun hc => ?_) (fun hc => ?_) <;> try (simp only [*, Bool.true_eq_false, Bool.false_eq_true, Bool.not_true, Bool.not_false, Bool.true_or, Bool.or_true, Bool.false_or, Bool.or_false, Bool.false_and, Bool.and_false, bne_self_eq_false, beq_self_eq_true] at hc; done))
    | refine run_block ?_
    | refine run_ret ?_
    | refine run_nil ?_
    | refine run_exit ?_
    | refine blk_normal ?_
    | refine blk_ret ?_
    | refine blk_here ?_
    | refine blk_there rfl ?_
    | refine loop_exit ?_
    | refine loop_ret ?_
    | refine un_exit ?_
    | refine un_ret ?_
    | refine unE_exit ?_
    | refine unE_ret ?_
    | refine un_normal ?_)
  exact end_tmp1 rfl rfl rfl ⟨rfl, rfl⟩
def dmbOk (i : InsnS) : Bool := withinS i.sub 1 0 1 && withinS i.imm 1 1 3
theorem con114 (i : InsnS) (H : Heap) : Con Tryz.prog 114 [.agg (insnL i)] H (fun v H' => v = .c (.bool (dmbOk i)) ∧ H' = H) := by
  refine Con.pure ?_ (by simp only [leArgs, leV, leV1, insnL, leSegs, leSeg, leC, and_self]) rfl H
  (refine con_of_run mixed (fn := Tryz.f114) (by kernel_rfl) (by kernel_rfl) C114_ok (rs := [.tmp 2]) (by kernel_rfl) (Nat.le_of_ble_eq_true (by kernel_rfl)) ?_; unfold C114; simp only [initT])
  repeat' (first
    | refine run_seq ?_
    | refine run_skip ?_
    | (refine run_region fun K hK => ?_; (try (simp (maxSteps := 10000000) only [insnL, C114r0, C114r1, rwp_nil, rwp_cons, aop, gpath, St.get, slotAt, sfx, eqP, segsOf, St.put, addBlk, getB, ld1, rowNeed, segAt, nsub, shed, addN, Seg.size, sizes, appL, argsOf, ptrsOf, Nat.reduceAdd])); (repeat (first | (refine And.intro ?_ ?_; · decide) | ((first | (refine call_t _ (con70 _ _ _ _ (by decide) _) ?_; rintro v H' ⟨rfl, rfl⟩) | refine call_q _ (con70 _ _ _ _ (by decide) _) ?_ | refine call_g _ (imp_of (con70 _ _ _ _ (by decide) _)) ?_); simp (maxSteps := 10000000) only [rwp_nil, rwp_cons, rwpK_app, aop, gpath, St.get, slotAt, sfx, eqP, St.put, addBlk, getB, ld1, rowNeed, segAt, nsub, getsl, selB_and, beqb, shed, addN, Seg.size, appL, argsOf, ptrsOf, Nat.reduceAdd]))); with_reducible refine hK _ ?_; clear hK K)
    | (refine run_cond rfl (fun hc => ?_) (fun hc => ?_) <;> try (simp only [*, Bool.true_eq_false, Bool.false_eq_true, Bool.not_true, Bool.not_false, Bool.true_or, Bool.or_true, Bool.false_or, Bool.or_false, Bool.false_and, Bool.and_false, bne_self_eq_false, beq_self_eq_true] at hc; done))
    | refine run_block ?_
    | refine run_ret ?_
    | refine run_nil ?_
    | refine run_exit ?_
    | refine blk_normal ?_
    | refine blk_ret ?_
    | refine blk_here ?_
    | refine blk_there rfl ?_
    | refine loop_exit ?_
    | refine loop_ret ?_
    | refine un_exit ?_
    | refine un_ret ?_
    | refine unE_exit ?_
    | refine unE_ret ?_
    | refine un_normal ?_)
  exact end_tmp1 rfl rfl rfl ⟨rfl, rfl⟩
def msrMaskOk (i : InsnS) : Bool := withinS i.sub 1 0 1 && withinS i.imm 1 0 15
theorem con117 (i : InsnS) (H : Heap) : Con Tryz.prog 117 [.agg (insnL i)] H (fun v H' => v = .c (.bool (msrMaskOk i)) ∧ H' = H) := by
  refine Con.pure ?_ (by simp only [leArgs, leV, leV1, insnL, leSegs, leSeg, leC, and_self]) rfl H
  (refine con_of_run mixed (fn := Tryz.f117) (by kernel_rfl) (by kernel_rfl) C117_ok (rs := [.tmp 2]) (by kernel_rfl) (Nat.le_of_ble_eq_true (by kernel_rfl)) ?_; unfold C117; simp only [initT])
  repeat' (first
    | refine run_seq ?_
    | refine run_skip ?_
    | (refine run_region fun K hK => ?_; (try (simp (maxSteps := 10000000) only [insnL, C117r0, C117r1, rwp_nil, rwp_cons, aop, gpath, St.get, slotAt, sfx, eqP, segsOf, St.put, addBlk, getB, ld1, rowNeed, segAt, nsub, shed, addN, Seg.size, sizes, appL, argsOf, ptrsOf, Nat.reduceAdd])); (repeat (first | (refine And.intro ?_ ?_; · decide) | ((first | (refine call_t _ (con70 _ _ _ _ (by decide) _) ?_; rintro v H' ⟨rfl, rfl⟩) | refine call_q _ (con70 _ _ _ _ (by decide) _) ?_ | refine call_g _ (imp_of (con70 _ _ _ _ (by decide) _)) ?_); simp (maxSteps := 10000000) only [rwp_nil, rwp_cons, rwpK_app, aop, gpath, St.get, slotAt, sfx, eqP, St.put, addBlk, getB, ld1, rowNeed, segAt, nsub, getsl, selB_and, beqb, shed, addN, Seg.size, appL, argsOf, ptrsOf, Nat.reduceAdd]))); with_reducible refine hK _ ?_; clear hK K)
    | (refine run_cond rfl (fun hc => ?_) (fun hc => ?_) <;> try (simp only [*, Bool.true_eq_false, Bool.false_eq_true, Bool.not_true, Bool.not_false, Bool.true_or, Bool.or_true, Bool.false_or, Bool.or_false, Bool.false_and, Bool.and_false, bne_self_eq_false, beq_self_eq_true] at hc; done))
    | refine run_block ?_
    | refine run_ret ?_
    | refine run_nil ?_
    | refine run_exit ?_
    | refine blk_normal ?_
    | refine blk_ret ?_
    | refine blk_here ?_
    | refine blk_there rfl ?_
    | refine loop_exit ?_
    | refine loop_ret ?_
    | refine un_exit ?_
    | refine un_ret ?_
    | refine unE_exit ?_
    | refine unE_ret ?_
    | refine un_normal ?_)
  exact end_tmp1 rfl rfl rfl ⟨rfl, rfl⟩
def svcOk (i : InsnS) : Bool := withinS i.imm 1 0 65535
theorem con118 (i : InsnS) (H : Heap) : Con Tryz.prog 118 [.agg (insnL i)] H (fun v H' => v = .c (.bool (svcOk i)) ∧ H' = H) := by
  refine Con.pure ?_ (by simp only [leArgs, leV, leV1, insnL, leSegs, leSeg, leC, and_self]) rfl H
  (refine con_of_run mixed (fn := Tryz.f118) (by kernel_rfl) (by kernel_rfl) C118_ok (rs := [.tmp 2]) (by kernel_rfl) (Nat.le_of_ble_eq_true (by kernel_rfl)) ?_; unfold C118; simp only [initT])
  repeat' (first
    | refine run_seq ?_
    | refine run_skip ?_
    | (refine run_region fun K hK => ?_; (try (simp (maxSteps := 10000000) only [insnL, C118r0, C118r1, rwp_nil, rwp_cons, aop, gpath, St.get, slotAt, sfx, eqP, segsOf, St.put, addBlk, getB, ld1, rowNeed, segAt, nsub, shed, addN, Seg.size, sizes, appL, argsOf, ptrsOf, Nat.reduceAdd])); (repeat (first | (refine And.intro ?_ ?_; · decide) | ((first | (refine call_t _ (con70 _ _ _ _ (by decide) _) ?_; rintro v H' ⟨rfl, rfl⟩) | refine call_q _ (con70 _ _ _ _ (by decide) _) ?_ | refine call_g _ (imp_of (con70 _ _ _ _ (by decide) _)) ?_); simp (maxSteps := 10000000) only [rwp_nil, rwp_cons, rwpK_app, aop, gpath, St.get, slotAt, sfx, eqP, St.put, addBlk, shed]))); with_reducible refine hK _ ?_; clear hK K)
    | (refine run_cond rfl (fun hc => ?_) (fun hc => ?_) <;> try (simp only [*, Bool.true_eq_false, Bool.false_eq_true, Bool.not_true, Bool.not_false, Bool.true_or, Bool.or_true, Bool.false_or, Bool.or_false, Bool.false_and, Bool.and_false, bne_self_eq_false, beq_self_eq_true] at hc; done))
    | refine run_block ?_
    | refine run_ret ?_
    | refine run_nil ?_
    | refine run_exit ?_
    | refine blk_normal ?_
    | refine blk_ret ?_
    | refine blk_here ?_
    | refine blk_there rfl ?_
    | refine loop_exit ?_
    | refine loop_ret ?_
    | refine un_exit ?_
    | refine un_ret ?_
    | refine unE_exit ?_
    | refine unE_ret ?_
    | refine un_normal ?_)
  exact end_tmp1 rfl rfl rfl ⟨rfl, rfl⟩
def hintOk (i : InsnS) : Bool := withinS i.imm 1 0 5
theorem con119 (i : InsnS) (H : Heap) : Con Tryz.prog 119 [.agg (insnL i)] H (fun v H' => v = .c (.bool (hintOk i)) ∧ H' = H) := by
  refine Con.pure ?_ (by simp only [leArgs, leV, leV1, insnL, leSegs, leSeg, leC, and_self]) rfl H
  (refine con_of_run mixed (fn := Tryz.f119) (by kernel_rfl) (by kernel_rfl) C119_ok (rs := [.tmp 2]) (by kernel_rfl) (Nat.le_of_ble_eq_true (by kernel_rfl)) ?_; unfold C119; simp only [initT])
  repeat' (first
    | refine run_seq ?_
    | refine run_skip ?_
    | (refine run_region fun K hK => ?_; (try (simp (maxSteps := 10000000) only [insnL, C119r0, C119r1, rwp_nil, rwp_cons, aop, gpath, St.get, slotAt, sfx, eqP, segsOf, St.put, addBlk, getB, ld1, rowNeed, segAt, nsub, shed, addN, Seg.size, sizes, appL, argsOf, ptrsOf, Nat.reduceAdd])); (repeat (first | (refine And.intro ?_ ?_; · decide) | ((first | (refine call_t _ (con70 _ _ _ _ (by decide) _) ?_; rintro v H' ⟨rfl, rfl⟩) | refine call_q _ (con70 _ _ _ _ (by decide) _) ?_ | refine call_g _ (imp_of (con70 _ _ _ _ (by decide) _)) ?_); simp (maxSteps := 10000000) only [rwp_nil, rwp_cons, rwpK_app, aop, gpath, St.get, slotAt, sfx, eqP, St.put, addBlk, shed]))); with_reducible refine hK _ ?_; clear hK K)
    | (refine run_cond rfl (fun hc => ?_) (fun hc => ?_) <;> try (simp only [*, Bool.true_eq_false, Bool.false_eq_true, Bool.not_true, Bool.not_false, Bool.true_or, Bool.or_true, Bool.false_or, Bool.or_false, Bool.false_and, Bool.and_false, bne_self_eq_false, beq_self_eq_true] at hc; done))
    | refine run_block ?_
    | refine run_ret ?_
    | refine run_nil ?_
    | refine run_exit ?_
    | refine blk_normal ?_
    | refine blk_ret ?_
    | refine blk_here ?_
    | refine blk_there rfl ?_
    | refine loop_exit ?_
    | refine loop_ret ?_
    | refine un_exit ?_
    | refine un_ret ?_
    | refine unE_exit ?_
    | refine unE_ret ?_
    | refine un_normal ?_)
  exact end_tmp1 rfl rfl rfl ⟨rfl, rfl⟩
theorem con82 (a : Int) (n : Nat) (X : List (Nat × Blk)) (hkl : keysLt X n) : Con Tryz.prog 82 [.c (.int .i64 a)] ⟨n, X⟩ (fun v H' => v = .c (.fn 113 [] [⟨n, 0, 0, 0⟩]) ∧ H' = addBs ⟨n, X⟩ [boxW a]) := by
  have h0 : Con Tryz.prog 82 [.c (.int .i64 a)] ⟨0, []⟩ (fun v H' => v = .c (.fn 113 [] [⟨0, 0, 0, 0⟩]) ∧ H' = ⟨1, [(0, boxW a)]⟩) := by
    (refine con_of_run mixed (fn := Tryz.f82) (by kernel_rfl) (by kernel_rfl) C82_ok (rs := [.tmp 2]) (by kernel_rfl) (Nat.le_of_ble_eq_true (by kernel_rfl)) ?_; unfold C82; simp only [initT])
    repeat' (first
    | refine run_seq ?_
    | refine run_skip ?_
    | (refine run_region fun K hK => ?_; (try (simp (maxSteps := 10000000) only [C82r0, C82r1, rwp_nil, rwp_cons, aop, gpath, St.get, slotAt, sfx, eqP, segsOf, St.put, addBlk, shed, Seg.size, sizes, aasOf, Nat.reduceAdd])); (repeat (first | (refine And.intro ?_ ?_; · first | trivial | assumption | omega))); with_reducible refine hK _ ?_; clear hK K)
    | (refine run_cond rfl (fun hc => ?_) (fun hc => ?_) <;> try (simp only [*, Bool.true_eq_false, Bool.false_eq_true, Bool.not_true, Bool.not_false, Bool.true_or, Bool.or_true, Bool.false_or, Bool.or_false, Bool.false_and, Bool.and_false, bne_self_eq_false, beq_self_eq_true] at hc; done))
    | refine run_block ?_
    | refine run_ret ?_
    | refine run_nil ?_
    | refine run_exit ?_
    | refine blk_normal ?_
    | refine blk_ret ?_
    | refine blk_here ?_
    | refine blk_there rfl ?_
    | refine loop_exit ?_
    | refine loop_ret ?_
    | refine un_exit ?_
    | refine un_ret ?_
    | refine unE_exit ?_
    | refine unE_ret ?_
    | refine un_normal ?_)
    refine end_of ⟨[⟨2, [], .c (.fn 113 [] [⟨0, 0, 0, 0⟩])⟩], ⟨1, [(0, boxW a)]⟩⟩ (LeS.intro [0] (fun i h => absurd h (Nat.not_lt_zero i)) (by simp only [diff, notIn, and_self]) rfl ?_ ?_) ⟨rfl, rfl⟩
    · simp only [slotsLe, slotAt, leV, leV1, leC, leAL, leA, nthO, and_self]
    · simp only [leBlks, nthO, getB]
      exact ⟨⟨rfl, rfl, id, Nat.le_refl _, fun _ _ => by simp only [boxW, leSegs, leSeg, leC, and_self]⟩, trivial⟩
  refine (h0.frame (H := ⟨n, X⟩) [] rfl trivial trivial hkl trivial (by simp only [leArgs, leV, leV1, leC, and_self])).weaken ?_
  rintro v H' ⟨v0, H0', ⟨rfl, rfl⟩, rfl, rfl⟩
  refine ⟨rfl, ?_⟩
  simp only [framed, dropB_none (l := []) (H0 := []) (fun _ => rfl)]
  rfl
def farS (b : Int) (i : InsnS) : Bool := withinS i.imm 4 (IntKind.i64.wrap (-1 * 2 ^ min b.toNat IntKind.i64.bits)) (IntKind.i64.wrap (IntKind.i64.wrap (1 * 2 ^ min b.toNat IntKind.i64.bits) - 4))
theorem con113 (b : Int) (i : InsnS) (hb : 0 ≤ b) : Con Tryz.prog 113 [.agg (insnL i), .c (.ptr ⟨0, 0, 0, 0⟩)] (boxH1 b) (fun v H' => v = .c (.bool (farS b i)) ∧ H' = boxH1 b) := by
  (refine con_of_run mixed (fn := Tryz.f113) (by kernel_rfl) (by kernel_rfl) C113_ok (rs := [.tmp 3]) (by kernel_rfl) (Nat.le_of_ble_eq_true (by kernel_rfl)) ?_; unfold C113; simp only [initT, Nat.reduceAdd])
  generalize hR : (fun (v : AV) (H' : Heap) => v = AV.c (.bool (farS b i)) ∧ H' = boxH1 b) = R
  simp only [boxH1, boxI]
  repeat' (first
    | refine run_seq ?_
    | refine run_skip ?_
    | (refine run_region fun K hK => ?_; (try (simp (maxSteps := 10000000) only [insnL, C113r0, C113r1, rwp_nil, rwp_cons, aop, gpath, St.get, slotAt, sfx, eqP, segsOf, St.put, addBlk, getB, ld1, rowNeed, segAt, nsub, bin, isShift, sameK, arith, shiftR, shed, addN, Seg.size, sizes, imp, appL, argsOf, ptrsOf, Nat.reduceAdd])); (repeat (first | (refine And.intro ?_ ?_; · assumption) | ((first | (refine call_t _ (con70 _ _ _ _ (by decide) _) ?_; rintro v H' ⟨rfl, rfl⟩) | refine call_q _ (con70 _ _ _ _ (by decide) _) ?_ | refine call_g _ (imp_of (con70 _ _ _ _ (by decide) _)) ?_); simp (maxSteps := 10000000) only [rwp_nil, rwp_cons, rwpK_app, aop, gpath, St.get, slotAt, sfx, eqP, St.put, addBlk, shed]))); with_reducible refine hK _ ?_; clear hK K)
    | (refine run_cond rfl (fun hc => ?_) (fun hc => ?_) <;> try (simp only [*, Bool.true_eq_false, Bool.false_eq_true, Bool.not_true, Bool.not_false, Bool.true_or, Bool.or_true, Bool.false_or, Bool.or_false, Bool.false_and, Bool.and_false, bne_self_eq_false, beq_self_eq_true] at hc; done))
    | refine run_block ?_
    | refine run_ret ?_
    | refine run_nil ?_
    | refine run_exit ?_
    | refine blk_normal ?_
    | refine blk_ret ?_
    | refine blk_here ?_
    | refine blk_there rfl ?_
    | refine loop_exit ?_
    | refine loop_ret ?_
    | refine un_exit ?_
    | refine un_ret ?_
    | refine unE_exit ?_
    | refine unE_ret ?_
    | refine un_normal ?_)
  subst hR
  exact end_of ⟨[⟨3, [], .c (.bool (farS b i))⟩], boxH1 b⟩ (LeS.intro [0] idt1 (by simp only [diff, notIn, and_self]) rfl ⟨rfl, trivial⟩ ⟨box_le _ _, trivial⟩) ⟨rfl, rfl⟩
theorem con113_at (b : Int) (i : InsnS) (hb : 0 ≤ b) (j n : Nat) (X : List (Nat × Blk)) (w : Bool) (hj : getB X j = some ⟨1, none, fun _ => [.c (.int .i64 b)], 3, w⟩) (hlt : j < n) (hkl : keysLt X n) : Con Tryz.prog 113 [.agg (insnL i), .c (.ptr ⟨j, 0, 0, 0⟩)] ⟨n, X⟩ (fun v H' => v = .c (.bool (farS b i)) ∧ H' = ⟨n, X⟩) :=
  ro_gen (con113 b i hb) [j] n X rfl ⟨trivial, trivial⟩ ⟨hlt, trivial⟩ hkl (by simp only [boxH1, leBlks, nthO, hj]; exact ⟨box_le b w, trivial⟩) (by simp only [leArgs, leV, leV1, insnL, leSegs, leSeg, leC, leA, nthO, and_self]) rfl (fun _ => rfl) rfl rfl
def bCondOk (i : InsnS) : Bool := withinS i.cond 1 0 15 && farS 20 i
theorem con83 (i : InsnS) (H : Heap) : Con Tryz.prog 83 [.agg (insnL i)] H (fun v H' => v = .c (.bool (bCondOk i)) ∧ H' = H) := by
  refine Con.pure ?_ (by simp only [leArgs, leV, leV1, insnL, leSegs, leSeg, leC, and_self]) rfl H
  (refine con_of_run mixed (fn := Tryz.f83) (by kernel_rfl) (by kernel_rfl) C83_ok (rs := [.tmp 2]) (by kernel_rfl) (Nat.le_of_ble_eq_true (by kernel_rfl)) ?_; unfold C83; simp only [initT])
  repeat' (first
    | refine run_seq ?_
    | refine run_skip ?_
    | (refine run_region fun K hK => ?_; (try (simp (maxSteps := 10000000) only [insnL, C83r0, rwp_nil, rwp_cons, aop, gpath, St.get, slotAt, sfx, eqP, segsOf, St.put, addBlk, shed, Seg.size, sizes, Nat.reduceAdd])); (repeat (first | (refine And.intro ?_ ?_; · decide))); with_reducible refine hK _ ?_; clear hK K)
    | (refine run_cond rfl (fun hc => ?_) (fun hc => ?_) <;> try (simp only [*, Bool.true_eq_false, Bool.false_eq_true, Bool.not_true, Bool.not_false, Bool.true_or, Bool.or_true, Bool.false_or, Bool.or_false, Bool.false_and, Bool.and_false, bne_self_eq_false, beq_self_eq_true] at hc; done))
    | refine run_block ?_
    | refine run_ret ?_
    | refine run_nil ?_
    | refine run_exit ?_
    | refine blk_normal ?_
    | refine blk_ret ?_
    | refine blk_here ?_
    | refine blk_there rfl ?_
    | refine loop_exit ?_
    | refine loop_ret ?_
    | refine un_exit ?_
    | refine un_ret ?_
    | refine unE_exit ?_
    | refine unE_ret ?_
    | refine un_normal ?_)
  refine run_region fun K hK => ?_
  simp (maxSteps := 10000000) only [C83r1, rwp_cons, aop, gpath, St.get, slotAt, sfx, eqP, St.put, addBlk, getB, ld1, rowNeed, segAt, nsub, addN, Seg.size, appL, argsOf, ptrsOf, Nat.reduceAdd]
  refine call_t _ (con70 _ _ _ _ (by decide) _) ?_
  rintro v H' ⟨rfl, rfl⟩
  simp (maxSteps := 10000000) only [rwp_cons, rwpK_app, aop, gpath, St.get, slotAt, sfx, eqP, St.put, addBlk, appL, argsOf, ptrsOf]
  refine call_gn _ [boxW 20] rfl (imp_of (con82 20 _ _ (by simp [roL, keysLt]))) ?_
  simp (maxSteps := 10000000) only [rwp_cons, rwpK_app, aop, gpath, St.get, slotAt, sfx, eqP, St.put, addBlk, getB, ldn, rowNeed, nsub, beqb, Seg.size, appL, argsOf, ptrsOf, cut, takeS, dropS, Nat.reduceAdd, addBs]
  refine call_g _ (imp_of (con113_at 20 i (by decide) 1 2 _ false rfl (by decide) (by simp [roL, keysLt, boxW]))) ?_
  simp (maxSteps := 10000000) only [rwp_nil, rwp_cons, rwpK_app, aop, gpath, St.get, slotAt, sfx, eqP, St.put, addBlk, getsl, selB_and, beqb, shed]
  refine hK _ ?_
  clear hK K
  repeat' (first
    | refine run_seq ?_
    | refine run_skip ?_
    | (refine run_region fun K hK => ?_; (try (simp (maxSteps := 10000000) only [insnL, C83r0, C83r1, rwp_nil, rwp_cons, rwpK_app, aop, gpath, St.get, slotAt, sfx, eqP, segsOf, St.put, addBlk, getB, setB, delB, ld1, ldn, st1, stn, setRow, rowNeed, segAt, nsub, bin, un, eqB, isShift, sameK, arith, shiftR, getsl, selB_or, selB_and, beqb, shed, addN, Nat.beq, Seg.size, sizes, imp, needP, andN, appL, argsOf, ptrsOf, aasOf, cut, takeS, dropS, putS, partsOf, fillS, fieldOf, nthA, negIf, nilq, nilB, eqS, eqF, eqS1, andP, kin, slcS, strOk, plusA, bndHi, leN, optG, roH, roL, initT, exOk, exAll, wrAddr, Nat.reduceAdd, Nat.reduceSub, Nat.reduceMul, Int.reduceToNat, List.append_nil, List.nil_append, List.cons_append, eqT, idxT, cat, cpy, ite_int, ite_bool, ite_seg, ite_segs, ite_nil, ite_twice, Int.toNat_natCast, app, addBs, tob])); (repeat (first | (refine And.intro ?_ ?_; · first | trivial | assumption | omega))); with_reducible refine hK _ ?_; clear hK K)
    | (refine run_cond rfl (fun hc => ?_) (fun hc => ?_) <;> try (simp only [*, Bool.true_eq_false, Bool.false_eq_true, Bool.not_true, Bool.not_false, Bool.true_or, Bool.or_true, Bool.false_or, Bool.or_false, Bool.false_and, Bool.and_false, bne_self_eq_false, beq_self_eq_true] at hc; done))
    | refine run_block ?_
    | refine run_ret ?_
    | refine run_nil ?_
    | refine run_exit ?_
    | refine blk_normal ?_
    | refine blk_ret ?_
    | refine blk_here ?_
    | refine blk_there rfl ?_
    | refine loop_exit ?_
    | refine loop_ret ?_
    | refine un_exit ?_
    | refine un_ret ?_
    | refine unE_exit ?_
    | refine unE_ret ?_
    | refine un_normal ?_)
  exact end_tmp1 rfl rfl rfl ⟨rfl, rfl⟩
def tbzOk (i : InsnS) : Bool := withinS i.amount 1 0 63 && farS 15 i
theorem con84 (i : InsnS) (H : Heap) : Con Tryz.prog 84 [.agg (insnL i)] H (fun v H' => v = .c (.bool (tbzOk i)) ∧ H' = H) := by
  refine Con.pure ?_ (by simp only [leArgs, leV, leV1, insnL, leSegs, leSeg, leC, and_self]) rfl H
  (refine con_of_run mixed (fn := Tryz.f84) (by kernel_rfl) (by kernel_rfl) C84_ok (rs := [.tmp 2]) (by kernel_rfl) (Nat.le_of_ble_eq_true (by kernel_rfl)) ?_; unfold C84; simp only [initT])
  repeat' (first
    | refine run_seq ?_
    | refine run_skip ?_
    | (refine run_region fun K hK => ?_; (try (simp (maxSteps := 10000000) only [insnL, C84r0, rwp_nil, rwp_cons, aop, gpath, St.get, slotAt, sfx, eqP, segsOf, St.put, addBlk, shed, Seg.size, sizes, Nat.reduceAdd])); (repeat (first | (refine And.intro ?_ ?_; · decide))); with_reducible refine hK _ ?_; clear hK K)
    | (refine run_cond rfl (fun hc => ?_) (fun hc => ?_) <;> try (simp only [*, Bool.true_eq_false, Bool.false_eq_true, Bool.not_true, Bool.not_false, Bool.true_or, Bool.or_true, Bool.false_or, Bool.or_false, Bool.false_and, Bool.and_false, bne_self_eq_false, beq_self_eq_true] at hc; done))
    | refine run_block ?_
    | refine run_ret ?_
    | refine run_nil ?_
    | refine run_exit ?_
    | refine blk_normal ?_
    | refine blk_ret ?_
    | refine blk_here ?_
    | refine blk_there rfl ?_
    | refine loop_exit ?_
    | refine loop_ret ?_
    | refine un_exit ?_
    | refine un_ret ?_
    | refine unE_exit ?_
    | refine unE_ret ?_
    | refine un_normal ?_)
  refine run_region fun K hK => ?_
  simp (maxSteps := 10000000) only [C84r1, rwp_cons, aop, gpath, St.get, slotAt, sfx, eqP, St.put, addBlk, getB, ld1, rowNeed, segAt, nsub, addN, Seg.size, appL, argsOf, ptrsOf, Nat.reduceAdd]
  refine call_t _ (con70 _ _ _ _ (by decide) _) ?_
  rintro v H' ⟨rfl, rfl⟩
  simp (maxSteps := 10000000) only [rwp_cons, rwpK_app, aop, gpath, St.get, slotAt, sfx, eqP, St.put, addBlk, appL, argsOf, ptrsOf]
  refine call_gn _ [boxW 15] rfl (imp_of (con82 15 _ _ (by simp [roL, keysLt]))) ?_
  simp (maxSteps := 10000000) only [rwp_cons, rwpK_app, aop, gpath, St.get, slotAt, sfx, eqP, St.put, addBlk, getB, ldn, rowNeed, nsub, beqb, Seg.size, appL, argsOf, ptrsOf, cut, takeS, dropS, Nat.reduceAdd, addBs]
  refine call_g _ (imp_of (con113_at 15 i (by decide) 1 2 _ false rfl (by decide) (by simp [roL, keysLt, boxW]))) ?_
  simp (maxSteps := 10000000) only [rwp_nil, rwp_cons, rwpK_app, aop, gpath, St.get, slotAt, sfx, eqP, St.put, addBlk, getsl, selB_and, beqb, shed]
  refine hK _ ?_
  clear hK K
  repeat' (first
    | refine run_seq ?_
    | refine run_skip ?_
    | (refine run_region fun K hK => ?_; (try (simp (maxSteps := 10000000) only [insnL, C84r0, C84r1, rwp_nil, rwp_cons, rwpK_app, aop, gpath, St.get, slotAt, sfx, eqP, segsOf, St.put, addBlk, getB, setB, delB, ld1, ldn, st1, stn, setRow, rowNeed, segAt, nsub, bin, un, eqB, isShift, sameK, arith, shiftR, getsl, selB_or, selB_and, beqb, shed, addN, Nat.beq, Seg.size, sizes, imp, needP, andN, appL, argsOf, ptrsOf, aasOf, cut, takeS, dropS, putS, partsOf, fillS, fieldOf, nthA, negIf, nilq, nilB, eqS, eqF, eqS1, andP, kin, slcS, strOk, plusA, bndHi, leN, optG, roH, roL, initT, exOk, exAll, wrAddr, Nat.reduceAdd, Nat.reduceSub, Nat.reduceMul, Int.reduceToNat, List.append_nil, List.nil_append, List.cons_append, eqT, idxT, cat, cpy, ite_int, ite_bool, ite_seg, ite_segs, ite_nil, ite_twice, Int.toNat_natCast, app, addBs, tob])); (repeat (first | (refine And.intro ?_ ?_; · first | trivial | assumption | omega))); with_reducible refine hK _ ?_; clear hK K)
    | (refine run_cond rfl (fun hc => ?_) (fun hc => ?_) <;> try (simp only [*, Bool.true_eq_false, Bool.false_eq_true, Bool.not_true, Bool.not_false, Bool.true_or, Bool.or_true, Bool.false_or, Bool.or_false, Bool.false_and, Bool.and_false, bne_self_eq_false, beq_self_eq_true] at hc; done))
    | refine run_block ?_
    | refine run_ret ?_
    | refine run_nil ?_
    | refine run_exit ?_
    | refine blk_normal ?_
    | refine blk_ret ?_
    | refine blk_here ?_
    | refine blk_there rfl ?_
    | refine loop_exit ?_
    | refine loop_ret ?_
    | refine un_exit ?_
    | refine un_ret ?_
    | refine unE_exit ?_
    | refine unE_ret ?_
    | refine un_normal ?_)
  exact end_tmp1 rfl rfl rfl ⟨rfl, rfl⟩
/-! ### Numbers in a list -/
def intsB (n : Nat) (f : Nat → Int) : Blk := ⟨1, some n, fun i => [.c (.int .i64 (f i))], 3, false⟩
theorem ints_le {l : List Nat} (n : Nat) (f : Nat → Int) (w : Bool) : leB l ⟨1, some n, fun i => [.c (.int .i64 (f i))], 3, w⟩ (intsB n f) := ⟨rfl, rfl, fun h => (by cases h), Nat.le_refl _, fun _ _ => ⟨⟨rfl, rfl⟩, trivial⟩⟩
def idxL (f : Nat → Int) (v : Int) : Nat → Nat → Int
  | 0, _ => -1
  | n + 1, i => if v = f i then i else idxL f v n (i + 1)
def idxSt (n : Nat) (f : Nat → Int) (v : Int) (i : Nat) : St := ⟨[⟨8, [], .c (.int .i64 i)⟩, ⟨7, [], .c (.int .i64 n)⟩, ⟨0, [], .c (.slice ⟨0, 0, 0, 0⟩ false n)⟩, ⟨1, [], .c (.int .i64 v)⟩], ⟨1, [(0, intsB n f)]⟩⟩
theorem end_ints {l : List Slot} {H : Heap} {R : Post} {t : Nat} {v : AV} (n : Nat) (f : Nat → Int) (hv : slotAt l t = some ⟨t, [], v⟩) (h0 : getB H.blks 0 = some (intsB n f)) (hid : leV [0] v v) (hn : noTup v = true) (hR : R v ⟨1, [(0, intsB n f)]⟩) : endQ (LeS 1) [.tmp t] R .ret ⟨l, H⟩ := by
  refine end_of ⟨[⟨t, [], v⟩], ⟨1, [(0, intsB n f)]⟩⟩ (LeS.intro [0] idt1 (by simp only [diff, notIn, and_self]) rfl (slotsOf hv hid trivial) (by simp only [leBlks, nthO, h0]; exact ⟨ints_le n f _, trivial⟩)) ?_
  have hg : St.get ⟨[⟨t, [], v⟩], ⟨1, [(0, intsB n f)]⟩⟩ [] (.t t) = v := by simp [St.get, slotAt, Nat.beq_refl, sfx, eqP]
  simp only [endF, resL, resA, hg, hn, resV]
  exact hR
theorem con122 (n : Nat) (f : Nat → Int) (v : Int) (hn : n < 1000) : Con Tryz.prog 122 [.c (.slice ⟨0, 0, 0, 0⟩ false n), .c (.int .i64 v)] ⟨1, [(0, intsB n f)]⟩ (fun r H' => r = .c (.int .i64 (idxL f v n 0)) ∧ H' = ⟨1, [(0, intsB n f)]⟩) := by
  (refine con_of_run mixed (fn := Tryz.f122) (by kernel_rfl) (by kernel_rfl) C122_ok (rs := [.tmp 4]) (by kernel_rfl) (Nat.le_of_ble_eq_true (by kernel_rfl)) ?_; unfold C122; simp only [initT, Nat.reduceAdd])
  generalize hT : idxL f v n 0 = T
  simp only [intsB]
  repeat' (first
    | refine run_seq ?_
    | refine run_skip ?_
    | (refine run_region fun K hK => ?_; (try (simp (maxSteps := 10000000) only [C122r0, rwp_nil, rwp_cons, aop, gpath, St.get, St.put, addBlk, shed])); (repeat (first | (refine And.intro ?_ ?_; · decide))); with_reducible refine hK _ ?_; clear hK K)
    | (refine run_cond rfl (fun hc => ?_) (fun hc => ?_) <;> try (simp only [*, Bool.true_eq_false, Bool.false_eq_true, Bool.not_true, Bool.not_false, Bool.true_or, Bool.or_true, Bool.false_or, Bool.or_false, Bool.false_and, Bool.and_false, bne_self_eq_false, beq_self_eq_true] at hc; done))
    | refine run_block ?_
    | refine run_ret ?_
    | refine run_nil ?_
    | refine run_exit ?_
    | refine blk_normal ?_
    | refine blk_ret ?_
    | refine blk_here ?_
    | refine blk_there rfl ?_
    | refine loop_exit ?_
    | refine loop_ret ?_
    | refine un_exit ?_
    | refine un_ret ?_
    | refine unE_exit ?_
    | refine unE_ret ?_
    | refine un_normal ?_)
  (refine run_regionL fun K hK => ?_; (try (simp (maxSteps := 10000000) only [C122r1, rwp_nil, rwp_cons, aop, gpath, St.get, slotAt, sfx, eqP, St.put, addBlk, shed])); (repeat (refine And.intro ?_ ?_; · first | trivial | assumption | omega)); refine hK _ (idxSt n f v 0) ((LeS.intro [0] idt1 (by simp only [diff, notIn, and_self]) rfl (by simp only [idxSt, slotsLe, slotAt, leV, leV1, leC, leA, nthO, and_self, Int.natCast_zero]) ⟨ints_le n f _, trivial⟩)) ?_; clear hK K)
  refine run_block ?_
  refine run_loop (fun k st => ∃ i : Nat, st = idxSt n f v i ∧ k = n - i ∧ i ≤ n ∧ idxL f v (n - i) i = T) n ⟨0, rfl, rfl, Nat.zero_le _, hT⟩ ?_
  rintro k st ⟨i, rfl, hk, hi, hT⟩
  simp only [idxSt, intsB]
  repeat' (first
    | refine run_seq ?_
    | refine run_skip ?_
    | (refine run_region fun K hK => ?_; (try (simp (maxSteps := 10000000) only [C122r2, C122r3, C122r4, C122r5, C122r6, C122r7, rwp_nil, rwp_cons, aop, gpath, St.get, slotAt, sfx, eqP, St.put, addBlk, getB, ld1, rowNeed, segAt, bin, isShift, sameK, arith, shed, addN, Nat.beq, imp, strOk, plusA, Int.toNat_natCast])); (repeat (first | (refine And.intro ?_ ?_; · (first | omega | (simp only [decide_eq_true_eq] at hc; omega))))); with_reducible refine hK _ ?_; clear hK K)
    | (refine run_cond rfl (fun hc => ?_) (fun hc => ?_) <;> try (simp only [*, Bool.true_eq_false, Bool.false_eq_true, Bool.not_true, Bool.not_false, Bool.true_or, Bool.or_true, Bool.false_or, Bool.or_false, Bool.false_and, Bool.and_false, bne_self_eq_false, beq_self_eq_true] at hc; done))
    | refine run_block ?_
    | refine run_ret ?_
    | refine run_nil ?_
    | refine run_exit ?_
    | refine blk_normal ?_
    | refine blk_ret ?_
    | refine blk_here ?_
    | refine blk_there rfl ?_
    | refine loop_exit ?_
    | refine loop_ret ?_
    | refine un_exit ?_
    | refine un_ret ?_
    | refine unE_exit ?_
    | refine unE_ret ?_
    | refine un_normal ?_)
  · have hlt : i < n := by simpa using ‹decide ((i : Int) < (n : Int)) = true›
    obtain ⟨m, hm⟩ : ∃ m, n - i = m + 1 := ⟨n - i - 1, by omega⟩
    have e : v = f i := by simpa using hc
    rw [hm] at hT
    unfold idxL at hT
    rw [if_pos e] at hT
    refine end_ints n f rfl rfl ⟨rfl, rfl⟩ rfl ⟨by rw [hT], rfl⟩
  · have hlt : i < n := by simpa using ‹decide ((i : Int) < (n : Int)) = true›
    obtain ⟨m, hm⟩ : ∃ m, n - i = m + 1 := ⟨n - i - 1, by omega⟩
    have e : ¬ v = f i := by simpa using hc
    rw [hm] at hT
    unfold idxL at hT
    rw [if_neg e] at hT
    have hw : IntKind.i64.wrap ((i : Int) + 1) = ((i + 1 : Nat) : Int) := by rw [IntKind.wrap_i64]; omega
    rw [hw]
    exact loop_normal (n - (i + 1)) (idxSt n f v (i + 1)) (by omega) (LeS.intro [0] idt1 (by simp only [diff, notIn, and_self]) rfl (by simp only [idxSt, slotsLe, slotAt, leV, leV1, leC, leA, nthO, and_self]) ⟨ints_le n f _, trivial⟩) ⟨i + 1, rfl, rfl, hlt, by rw [show n - (i + 1) = m by omega]; exact hT⟩
  · have hge : ¬ i < n := by simpa using hc
    have h0 : n - i = 0 := by omega
    rw [h0] at hT
    exact end_ints n f rfl rfl ⟨rfl, rfl⟩ rfl ⟨by rw [← hT]; rfl, rfl⟩
def inL (f : Nat → Int) (n : Nat) (v : Int) : Bool := decide (idxL f v n 0 ≥ 0)
theorem con112 (n : Nat) (f : Nat → Int) (v : Int) (hn : n < 1000) : Con Tryz.prog 112 [.c (.slice ⟨0, 0, 0, 0⟩ false n), .c (.int .i64 v)] ⟨1, [(0, intsB n f)]⟩ (fun r H' => r = .c (.bool (inL f n v)) ∧ H' = ⟨1, [(0, intsB n f)]⟩) := by
  (refine con_of_run mixed (fn := Tryz.f112) (by kernel_rfl) (by kernel_rfl) C112_ok (rs := [.tmp 4]) (by kernel_rfl) (Nat.le_of_ble_eq_true (by kernel_rfl)) ?_; unfold C112; simp only [initT, Nat.reduceAdd])
  repeat' (first
    | refine run_seq ?_
    | refine run_skip ?_
    | (refine run_region fun K hK => ?_; (try (simp (maxSteps := 10000000) only [C112r0, C112r1, rwp_nil, rwp_cons, aop, gpath, St.get, slotAt, sfx, eqP, St.put, addBlk, shed, appL, argsOf, ptrsOf])); (repeat (first | (refine And.intro ?_ ?_; · decide) | ((first | (refine call_t _ (con122 n f v hn) ?_; rintro v H' ⟨rfl, rfl⟩) | refine call_q _ (con122 n f v hn) ?_ | refine call_g _ (imp_of (con122 n f v hn)) ?_); simp (maxSteps := 10000000) only [rwp_nil, rwp_cons, rwpK_app, aop, gpath, St.get, slotAt, sfx, eqP, St.put, addBlk, bin, isShift, sameK, arith, shed]))); with_reducible refine hK _ ?_; clear hK K)
    | (refine run_cond rfl (fun hc => ?_) (fun hc => ?_) <;> try (simp only [*, Bool.true_eq_false, Bool.false_eq_true, Bool.not_true, Bool.not_false, Bool.true_or, Bool.or_true, Bool.false_or, Bool.or_false, Bool.false_and, Bool.and_false, bne_self_eq_false, beq_self_eq_true] at hc; done))
    | refine run_block ?_
    | refine run_ret ?_
    | refine run_nil ?_
    | refine run_exit ?_
    | refine blk_normal ?_
    | refine blk_ret ?_
    | refine blk_here ?_
    | refine blk_there rfl ?_
    | refine loop_exit ?_
    | refine loop_ret ?_
    | refine un_exit ?_
    | refine un_ret ?_
    | refine unE_exit ?_
    | refine unE_ret ?_
    | refine un_normal ?_)
  exact end_ints n f rfl rfl rfl rfl ⟨rfl, rfl⟩
theorem con112_at (m : Nat) (f : Nat → Int) (v : Int) (hm : m < 1000) (j n : Nat) (X : List (Nat × Blk)) (w : Bool) (hj : getB X j = some ⟨1, some m, fun i => [.c (.int .i64 (f i))], 3, w⟩) (hlt : j < n) (hkl : keysLt X n) : Con Tryz.prog 112 [.c (.slice ⟨j, 0, 0, 0⟩ false m), .c (.int .i64 v)] ⟨n, X⟩ (fun r H' => r = .c (.bool (inL f m v)) ∧ H' = ⟨n, X⟩) :=
  ro_gen (con112 m f v hm) [j] n X rfl ⟨trivial, trivial⟩ ⟨hlt, trivial⟩ hkl (by simp only [leBlks, nthO, hj]; exact ⟨ints_le m f w, trivial⟩) (by simp only [leArgs, leV, leV1, leC, leA, nthO, and_self]) rfl (fun _ => rfl) rfl rfl
def slB (a n : Nat) (w : Bool) : Blk := ⟨1, none, fun _ => [.c (.slice ⟨a, 0, 0, 0⟩ false n)], 52, w⟩
theorem con111 (n : Nat) (f : Nat → Int) (i : InsnS) (hn : n < 1000) : Con Tryz.prog 111 [.agg (insnL i), .c (.ptr ⟨1, 0, 0, 0⟩)] ⟨2, [(1, slB 0 n false), (0, intsB n f)]⟩ (fun v H' => v = .c (.bool (inL f n i.sub)) ∧ H' = ⟨2, [(1, slB 0 n false), (0, intsB n f)]⟩) := by
  (refine con_of_run mixed (fn := Tryz.f111) (by kernel_rfl) (by kernel_rfl) C111_ok (rs := [.tmp 3]) (by kernel_rfl) (Nat.le_of_ble_eq_true (by kernel_rfl)) ?_; unfold C111; simp only [initT, Nat.reduceAdd])
  generalize hR : (fun (v : AV) (H' : Heap) => v = AV.c (.bool (inL f n i.sub)) ∧ H' = ⟨2, [(1, slB 0 n false), (0, intsB n f)]⟩) = R
  simp only [slB]
  repeat' (first
    | refine run_seq ?_
    | refine run_skip ?_
    | (refine run_region fun K hK => ?_; (try (simp (maxSteps := 10000000) only [insnL, C111r0, C111r1, rwp_nil, rwp_cons, aop, gpath, St.get, slotAt, sfx, eqP, segsOf, St.put, addBlk, getB, ld1, rowNeed, segAt, nsub, shed, addN, Seg.size, sizes, appL, argsOf, ptrsOf, Nat.reduceAdd])); (repeat (first | (refine And.intro ?_ ?_; · decide) | ((first | (refine call_t _ (con112_at n f _ hn 0 _ _ false rfl (by decide) (by simp [keysLt])) ?_; rintro v H' ⟨rfl, rfl⟩) | refine call_q _ (con112_at n f _ hn 0 _ _ false rfl (by decide) (by simp [roL, keysLt, boxW])) ?_ | refine call_g _ (imp_of (con112_at n f _ hn 0 _ _ false rfl (by decide) (by simp [roL, keysLt, boxW]))) ?_); simp (maxSteps := 10000000) only [rwp_nil, rwp_cons, rwpK_app, aop, gpath, St.get, slotAt, sfx, eqP, St.put, addBlk, shed]))); with_reducible refine hK _ ?_; clear hK K)
    | (refine run_cond rfl (fun hc => ?_) (fun hc => ?_) <;> try (simp only [*, Bool.true_eq_false, Bool.false_eq_true, Bool.not_true, Bool.not_false, Bool.true_or, Bool.or_true, Bool.false_or, Bool.or_false, Bool.false_and, Bool.and_false, bne_self_eq_false, beq_self_eq_true] at hc; done))
    | refine run_block ?_
    | refine run_ret ?_
    | refine run_nil ?_
    | refine run_exit ?_
    | refine blk_normal ?_
    | refine blk_ret ?_
    | refine blk_here ?_
    | refine blk_there rfl ?_
    | refine loop_exit ?_
    | refine loop_ret ?_
    | refine un_exit ?_
    | refine un_ret ?_
    | refine unE_exit ?_
    | refine unE_ret ?_
    | refine un_normal ?_)
  subst hR
  refine end_of ⟨[⟨3, [], .c (.bool (inL f n i.sub))⟩], ⟨2, [(1, slB 0 n false), (0, intsB n f)]⟩⟩ (LeS.intro [0, 1] idt2 (by simp only [diff, notIn, Nat.beq, and_self]) rfl ⟨rfl, trivial⟩ ⟨⟨rfl, rfl, id, Nat.le_refl _, fun _ _ => ⟨⟨⟨rfl, rfl, rfl, rfl⟩, rfl, rfl⟩, trivial⟩⟩, ints_le n f _, trivial⟩) ⟨rfl, rfl⟩
def sysL : Nat → Int
  | 0 => 17920
  | 1 => 16897
  | 2 => 16896
  | 3 => 17040
  | 4 => 17152
  | 5 => 16904
  | 6 => 16389
  | 7 => 16914
  | 8 => 23057
  | 9 => 23056
  | 10 => 24194
  | 11 => 18016
  | 12 => 18017
  | 13 => 16944
  | 14 => 18013
  | 15 => 24322
  | 16 => 24345
  | 17 => 24346
  | _ => 0
theorem sys_rows : ∀ i, i < 18 → cutD [.c (.int .i64 17920), .c (.int .i64 16897), .c (.int .i64 16896), .c (.int .i64 17040), .c (.int .i64 17152), .c (.int .i64 16904), .c (.int .i64 16389), .c (.int .i64 16914), .c (.int .i64 23057), .c (.int .i64 23056), .c (.int .i64 24194), .c (.int .i64 18016), .c (.int .i64 18017), .c (.int .i64 16944), .c (.int .i64 18013), .c (.int .i64 24322), .c (.int .i64 24345), .c (.int .i64 24346)] (i * 1) 1 = [.c (.int .i64 (sysL i))]
  | 0, _ => rfl
  | 1, _ => rfl
  | 2, _ => rfl
  | 3, _ => rfl
  | 4, _ => rfl
  | 5, _ => rfl
  | 6, _ => rfl
  | 7, _ => rfl
  | 8, _ => rfl
  | 9, _ => rfl
  | 10, _ => rfl
  | 11, _ => rfl
  | 12, _ => rfl
  | 13, _ => rfl
  | 14, _ => rfl
  | 15, _ => rfl
  | 16, _ => rfl
  | 17, _ => rfl
  | n + 18, h => absurd h (by omega)
theorem con116 (n : Nat) (X : List (Nat × Blk)) (hkl : keysLt X n) : Con Tryz.prog 116 [] ⟨n, X⟩ (fun v H' => v = .c (.slice ⟨n, 0, 0, 0⟩ false 18) ∧ H' = addBs ⟨n, X⟩ [⟨1, some 18, fun i => [.c (.int .i64 (sysL i))], 3, true⟩]) := by
  have h0 : Con Tryz.prog 116 [] ⟨0, []⟩ (fun v H' => v = .c (.slice ⟨0, 0, 0, 0⟩ false 18) ∧ H' = ⟨1, [(0, ⟨1, some 18, fun i => [.c (.int .i64 (sysL i))], 3, true⟩)]⟩) := by
    (refine con_of_run mixed (fn := Tryz.f116) (by kernel_rfl) (by kernel_rfl) C116_ok (rs := [.tmp 0]) (by kernel_rfl) (Nat.le_of_ble_eq_true (by kernel_rfl)) ?_; unfold C116; simp only [initT])
    repeat' (first
    | refine run_seq ?_
    | refine run_skip ?_
    | (refine run_region fun K hK => ?_; (try (simp (maxSteps := 10000000) only [repl, rowsFit, rowFn, cutD, C116r0, C116r1, rwp_nil, rwp_cons, aop, gpath, St.get, slotAt, sfx, eqP, segsOf, St.put, addBlk, nsub, shed, Nat.beq, Seg.size, sizes, cut, takeS, dropS, putS, partsOf, fillS, Nat.reduceAdd, List.append_nil, List.nil_append, List.cons_append])); (repeat (first | (refine And.intro ?_ ?_; · first | trivial | assumption | omega))); with_reducible refine hK _ ?_; clear hK K)
    | (refine run_cond rfl (fun hc => ?_) (fun hc => ?_) <;> try (simp only [*, Bool.true_eq_false, Bool.false_eq_true, Bool.not_true, Bool.not_false, Bool.true_or, Bool.or_true, Bool.false_or, Bool.or_false, Bool.false_and, Bool.and_false, bne_self_eq_false, beq_self_eq_true] at hc; done))
    | refine run_block ?_
    | refine run_ret ?_
    | refine run_nil ?_
    | refine run_exit ?_
    | refine blk_normal ?_
    | refine blk_ret ?_
    | refine blk_here ?_
    | refine blk_there rfl ?_
    | refine loop_exit ?_
    | refine loop_ret ?_
    | refine un_exit ?_
    | refine un_ret ?_
    | refine unE_exit ?_
    | refine unE_ret ?_
    | refine un_normal ?_)
    refine end_of ⟨[⟨0, [], .c (.slice ⟨0, 0, 0, 0⟩ false 18)⟩], ⟨1, [(0, ⟨1, some 18, fun i => [.c (.int .i64 (sysL i))], 3, true⟩)]⟩⟩ (LeS.intro [0] (fun i h => absurd h (Nat.not_lt_zero i)) (by simp only [diff, notIn, and_self]) rfl ⟨⟨⟨rfl, rfl, rfl, rfl⟩, rfl, rfl⟩, trivial⟩ ⟨⟨rfl, rfl, id, Nat.le_refl _, fun i hi => ?_⟩, trivial⟩) ⟨rfl, rfl⟩
    have e := sys_rows i hi
    show leSegs _ (cutD _ (i * 1) 1) [.c (.int .i64 (sysL i))]
    rw [e]
    exact ⟨⟨rfl, rfl⟩, trivial⟩
  refine (h0.frame (H := ⟨n, X⟩) (args := []) [] rfl trivial trivial hkl trivial (by simp only [leArgs])).weaken ?_
  rintro v H' ⟨v0, H0', ⟨rfl, rfl⟩, rfl, rfl⟩
  refine ⟨rfl, ?_⟩
  simp only [framed, dropB_none (l := []) (H0 := []) (fun _ => rfl)]
  rfl
def sysOk (i : InsnS) : Bool := inL sysL 18 i.sys
theorem con115 (i : InsnS) (H : Heap) : Con Tryz.prog 115 [.agg (insnL i)] H (fun v H' => v = .c (.bool (sysOk i)) ∧ H' = H) := by
  refine Con.pure ?_ (by simp only [leArgs, leV, leV1, insnL, leSegs, leSeg, leC, and_self]) rfl H
  (refine con_of_run mixed (fn := Tryz.f115) (by kernel_rfl) (by kernel_rfl) C115_ok (rs := [.tmp 2]) (by kernel_rfl) (Nat.le_of_ble_eq_true (by kernel_rfl)) ?_; unfold C115; simp only [initT])
  repeat' (first
    | refine run_seq ?_
    | refine run_skip ?_
    | (refine run_region fun K hK => ?_; (try (simp (maxSteps := 10000000) only [insnL, C115r0, rwp_nil, rwp_cons, aop, gpath, St.get, slotAt, sfx, eqP, segsOf, St.put, addBlk, shed, Seg.size, sizes, Nat.reduceAdd])); (repeat (first | (refine And.intro ?_ ?_; · decide))); with_reducible refine hK _ ?_; clear hK K)
    | (refine run_cond rfl (fun hc => ?_) (fun hc => ?_) <;> try (simp only [*, Bool.true_eq_false, Bool.false_eq_true, Bool.not_true, Bool.not_false, Bool.true_or, Bool.or_true, Bool.false_or, Bool.or_false, Bool.false_and, Bool.and_false, bne_self_eq_false, beq_self_eq_true] at hc; done))
    | refine run_block ?_
    | refine run_ret ?_
    | refine run_nil ?_
    | refine run_exit ?_
    | refine blk_normal ?_
    | refine blk_ret ?_
    | refine blk_here ?_
    | refine blk_there rfl ?_
    | refine loop_exit ?_
    | refine loop_ret ?_
    | refine un_exit ?_
    | refine un_ret ?_
    | refine unE_exit ?_
    | refine unE_ret ?_
    | refine un_normal ?_)
  refine run_region fun K hK => ?_
  simp (maxSteps := 10000000) only [C115r1, rwp_cons, aop, gpath, St.get, appL, argsOf, ptrsOf]
  refine call_n _ [⟨1, some 18, fun i => [.c (.int .i64 (sysL i))], 3, true⟩] rfl (con116 _ _ (by simp [roL, keysLt])) ?_
  simp (maxSteps := 10000000) only [rwp_cons, rwpK_app, aop, gpath, St.get, slotAt, sfx, eqP, St.put, addBlk, getB, ld1, rowNeed, segAt, nsub, addN, Seg.size, appL, argsOf, ptrsOf, Nat.reduceAdd, addBs]
  refine call_t _ (con112_at 18 sysL _ (by decide) 1 _ _ true rfl (by decide) (by simp [keysLt])) ?_
  rintro v H' ⟨rfl, rfl⟩
  simp (maxSteps := 10000000) only [rwp_nil, rwp_cons, rwpK_app, aop, gpath, St.get, slotAt, sfx, eqP, St.put, addBlk, shed]
  refine hK _ ?_
  clear hK K
  repeat' (first
    | refine run_seq ?_
    | refine run_skip ?_
    | (refine run_region fun K hK => ?_; (try (simp (maxSteps := 10000000) only [insnL, C115r0, C115r1, rwp_nil, rwp_cons, rwpK_app, aop, gpath, St.get, slotAt, sfx, eqP, segsOf, St.put, addBlk, getB, setB, delB, ld1, ldn, st1, stn, setRow, rowNeed, segAt, nsub, bin, un, eqB, isShift, sameK, arith, shiftR, getsl, selB_or, selB_and, beqb, shed, addN, Nat.beq, Seg.size, sizes, imp, needP, andN, appL, argsOf, ptrsOf, aasOf, cut, takeS, dropS, putS, partsOf, fillS, fieldOf, nthA, negIf, nilq, nilB, eqS, eqF, eqS1, andP, kin, slcS, strOk, plusA, bndHi, leN, optG, roH, roL, initT, exOk, exAll, wrAddr, Nat.reduceAdd, Nat.reduceSub, Nat.reduceMul, Int.reduceToNat, List.append_nil, List.nil_append, List.cons_append, eqT, idxT, cat, cpy, ite_int, ite_bool, ite_seg, ite_segs, ite_nil, ite_twice, Int.toNat_natCast, app, addBs, tob])); (repeat (first | (refine And.intro ?_ ?_; · first | trivial | assumption | omega))); with_reducible refine hK _ ?_; clear hK K)
    | (refine run_cond rfl (fun hc => ?_) (fun hc => ?_) <;> try (simp only [*, Bool.true_eq_false, Bool.false_eq_true, Bool.not_true, Bool.not_false, Bool.true_or, Bool.or_true, Bool.false_or, Bool.or_false, Bool.false_and, Bool.and_false, bne_self_eq_false, beq_self_eq_true] at hc; done))
    | refine run_block ?_
    | refine run_ret ?_
    | refine run_nil ?_
    | refine run_exit ?_
    | refine blk_normal ?_
    | refine blk_ret ?_
    | refine blk_here ?_
    | refine blk_there rfl ?_
    | refine loop_exit ?_
    | refine loop_ret ?_
    | refine un_exit ?_
    | refine un_ret ?_
    | refine unE_exit ?_
    | refine unE_ret ?_
    | refine un_normal ?_)
  exact end_tmp1 rfl rfl rfl ⟨rfl, rfl⟩
end Go.Proofs.YteikpddilabppaaGreatR
