/- micro: states, and the functions that reach little. -/
import Derived.Test.YteikpddilabppaaAlu
namespace Go.Proofs.Yteikpddilabppaa
open Go.AM
set_option maxRecDepth 100000
set_option linter.unusedSimpArgs false
set_option linter.unusedVariables false
structure MicroS where
  kind : Int
  r : Int
  d : Int
  a : Int
  b : Int
  order : Int
  imm : Int
def microL (m : MicroS) : List Seg := [.c (.int .i64 m.kind), .c (.int .i64 m.r), .c (.int .i64 m.d), .c (.int .i64 m.a), .c (.int .i64 m.b), .c (.int .i64 m.order), .c (.int .u64 m.imm)]
structure CoreS where
  x : Nat → Int
  sp : Nat → Int
  pc : Int
  n : Bool
  z : Bool
  c : Bool
  v : Bool
  el : Int
  mask : Bool
  q0 : Int
  q1 : Int
  q2 : Int
  q3 : Int
  q4 : Int
  q5 : Int
  id : Int
  wait : Int
  last : Bool
def coreL (c : CoreS) : List Seg := [.a 31 (fun i => .int .u64 (c.x i)), .a 2 (fun i => .int .u64 (c.sp i)), .c (.int .u64 c.pc), .c (.bool c.n), .c (.bool c.z), .c (.bool c.c), .c (.bool c.v), .c (.int .i64 c.el), .c (.bool c.mask),
  .c (.int .u64 c.q0), .c (.int .u64 c.q1), .c (.int .u64 c.q2), .c (.int .u64 c.q3), .c (.int .u64 c.q4), .c (.int .u64 c.q5), .c (.int .i64 c.id), .c (.int .i64 c.wait), .c (.bool c.last)]
structure WantS where
  kind : Int
  addr : Int
  value : Int
  acq : Int
  rel : Bool
  w5 : Int
  w6 : Bool
  w7 : Int
  w8 : Int
  w9 : Int
def wantL (w : WantS) : List Seg := [.c (.int .i64 w.kind), .c (.int .u64 w.addr), .c (.int .u64 w.value), .c (.int .i64 w.acq), .c (.bool w.rel), .c (.int .i64 w.w5), .c (.bool w.w6), .c (.int .i64 w.w7), .c (.int .i64 w.w8), .c (.int .i64 w.w9)]
inductive WaitK where
  | none
  | loaded
  | stored
  | tried
  | fenced
def waitV : WaitK → CV
  | .none => .nilfn
  | .loaded => .fn 34 [⟨0, 0, 0, 0⟩] []
  | .stored => .fn 35 [⟨0, 0, 0, 0⟩] []
  | .tried => .fn 36 [⟨0, 0, 0, 0⟩] []
  | .fenced => .fn 37 [⟨0, 0, 0, 0⟩] []
structure RunS where
  pc : Int
  words : Int
  el : Int
  slots : Int
  nops : Nat
  ops : Nat → MicroS
  core : CoreS
  host : Nat → Int
  nslots : Nat
  slot : Nat → Int
  at_ : Int
  want : WantS
  waits : WaitK
  left : Bool
  faulted : Bool
  guest : Int
  isGuest : Bool
  steps : Int
def runL (s : RunS) : List Seg := [.c (.int .u64 s.pc), .c (.int .i64 s.words), .c (.int .i64 s.el), .c (.int .i64 s.slots), .c (.slice ⟨1, 0, 0, 0⟩ false s.nops),
  .a 31 (fun i => .int .u64 (s.core.x i)), .a 2 (fun i => .int .u64 (s.core.sp i)), .c (.int .u64 s.core.pc), .c (.bool s.core.n), .c (.bool s.core.z), .c (.bool s.core.c), .c (.bool s.core.v), .c (.int .i64 s.core.el), .c (.bool s.core.mask),
  .c (.int .u64 s.core.q0), .c (.int .u64 s.core.q1), .c (.int .u64 s.core.q2), .c (.int .u64 s.core.q3), .c (.int .u64 s.core.q4), .c (.int .u64 s.core.q5), .c (.int .i64 s.core.id), .c (.int .i64 s.core.wait), .c (.bool s.core.last),
  .a 8 (fun i => .int .u64 (s.host i)), .c (.slice ⟨2, 0, 0, 0⟩ false s.nslots), .c (.int .i64 s.at_),
  .c (.int .i64 s.want.kind), .c (.int .u64 s.want.addr), .c (.int .u64 s.want.value), .c (.int .i64 s.want.acq), .c (.bool s.want.rel), .c (.int .i64 s.want.w5), .c (.bool s.want.w6), .c (.int .i64 s.want.w7), .c (.int .i64 s.want.w8), .c (.int .i64 s.want.w9),
  .c (waitV s.waits), .c (.bool s.left), .c (.bool s.faulted), .c (.int .u32 s.guest), .c (.bool s.isGuest), .c (.int .i64 s.steps)]
def runB (s : RunS) : Blk := ⟨80, none, fun _ => runL s, 65, true⟩
def opsB (s : RunS) : Blk := ⟨7, some s.nops, fun i => microL (s.ops i), 34, true⟩
def slotB (s : RunS) : Blk := ⟨1, some s.nslots, fun i => [.c (.int .u64 (s.slot i))], 22, true⟩
def runH (s : RunS) : Heap := ⟨3, [(0, runB s), (1, opsB s), (2, slotB s)]⟩
def me : AV := .c (.ptr ⟨0, 0, 0, 0⟩)

theorem con24 (a b c : Int) (H : Heap) : Con Try.prog 24 [.c (.int .i64 a), .c (.int .i64 b), .c (.int .i64 c)] H (fun v H' => v = .c (.bool (decide (a ≥ b) && decide (a ≤ c))) ∧ H' = H) := by
  refine Con.pure ?_ (by simp only [leArgs, leV, leV1, leC, and_self]) rfl H
  (refine con_of_run mixed (fn := Try.f24) (by kernel_rfl) (by kernel_rfl) C24_ok (rs := [.tmp 6]) (by kernel_rfl) (Nat.le_of_ble_eq_true (by kernel_rfl)) ?_; unfold C24; simp only [initT, Nat.reduceAdd])
  repeat' (first
    | refine run_seq ?_
    | refine run_skip ?_
    | (refine run_region fun K hK => ?_; (try (simp (maxSteps := 10000000) only [C24r0, C24r1, rwp_nil, rwp_cons, rwpK_app, aop, gpath, St.get, slotAt, sfx, eqP, segsOf, St.put, addBlk, getB, setB, delB, ld1, ldn, st1, stn, setRow, rowNeed, segAt, nsub, bin, un, eqB, isShift, sameK, arith, shiftR, getsl, selB_or, selB_and, beqb, shed, addN, Nat.beq, Seg.size, sizes, imp, needP, andN, appL, argsOf, ptrsOf, aasOf, cut, takeS, dropS, putS, partsOf, fillS, fieldOf, nthA, negIf, nilq, nilB, eqS, eqF, eqS1, andP, kin, slcS, strOk, plusA, bndHi, leN, optG, roH, roL, initT, exOk, exAll, wrAddr, Nat.reduceAdd, Nat.reduceSub, Nat.reduceMul, Int.reduceToNat, List.append_nil, List.nil_append, List.cons_append, eqT, idxT, cat, cpy, ite_int, ite_bool, ite_seg, ite_segs, ite_nil, ite_twice, Int.toNat_natCast, app, addBs])); (repeat (first | (refine And.intro ?_ ?_; · first | trivial | assumption | omega))); with_reducible refine hK _ ?_; clear hK K)
    | (refine run_cond rfl (fun hc => ?_) (fun hc => ?_) <;> try (simp only [*, Bool.true_eq_false, Bool.false_eq_true, Bool.not_true, Bool.not_false, Bool.true_or, Bool.or_true, Bool.false_or, Bool.or_false, Bool.false_and, Bool.and_false, bne_self_eq_false, beq_self_eq_true] at hc; done))
    | refine run_block ?_
    | refine run_ret ?_
    | refine run_nil ?_
    | refine run_exit ?_
    | refine blk_normal ?_
    | refine blk_ret ?_
    | refine blk_here ?_
    | refine blk_there rfl ?_
    | refine loop_exit ?_
    | refine loop_ret ?_
    | refine un_exit ?_
    | refine un_ret ?_
    | refine unE_exit ?_
    | refine unE_ret ?_
    | refine un_normal ?_)
  exact end_tmp1 rfl rfl rfl ⟨rfl, rfl⟩
theorem con26 (a : Int) (H : Heap) : Con Try.prog 26 [.c (.int .i64 a)] H (fun v H' => v = .c (.bool ((a == 20) || (a == 21) || (a == 22))) ∧ H' = H) := by
  refine Con.pure ?_ (by simp only [leArgs, leV, leV1, leC, and_self]) rfl H
  (refine con_of_run mixed (fn := Try.f26) (by kernel_rfl) (by kernel_rfl) C26_ok (rs := [.tmp 2]) (by kernel_rfl) (Nat.le_of_ble_eq_true (by kernel_rfl)) ?_; unfold C26; simp only [initT, Nat.reduceAdd])
  repeat' (first
    | refine run_seq ?_
    | refine run_skip ?_
    | (refine run_region fun K hK => ?_; (try (simp (maxSteps := 10000000) only [C26r0, C26r1, rwp_nil, rwp_cons, rwpK_app, aop, gpath, St.get, slotAt, sfx, eqP, segsOf, St.put, addBlk, getB, setB, delB, ld1, ldn, st1, stn, setRow, rowNeed, segAt, nsub, bin, un, eqB, isShift, sameK, arith, shiftR, getsl, selB_or, selB_and, beqb, shed, addN, Nat.beq, Seg.size, sizes, imp, needP, andN, appL, argsOf, ptrsOf, aasOf, cut, takeS, dropS, putS, partsOf, fillS, fieldOf, nthA, negIf, nilq, nilB, eqS, eqF, eqS1, andP, kin, slcS, strOk, plusA, bndHi, leN, optG, roH, roL, initT, exOk, exAll, wrAddr, Nat.reduceAdd, Nat.reduceSub, Nat.reduceMul, Int.reduceToNat, List.append_nil, List.nil_append, List.cons_append, eqT, idxT, cat, cpy, ite_int, ite_bool, ite_seg, ite_segs, ite_nil, ite_twice, Int.toNat_natCast, app, addBs])); (repeat (first | (refine And.intro ?_ ?_; · first | trivial | assumption | omega))); with_reducible refine hK _ ?_; clear hK K)
    | (refine run_cond rfl (fun hc => ?_) (fun hc => ?_) <;> try (simp only [*, Bool.true_eq_false, Bool.false_eq_true, Bool.not_true, Bool.not_false, Bool.true_or, Bool.or_true, Bool.false_or, Bool.or_false, Bool.false_and, Bool.and_false, bne_self_eq_false, beq_self_eq_true] at hc; done))
    | refine run_block ?_
    | refine run_ret ?_
    | refine run_nil ?_
    | refine run_exit ?_
    | refine blk_normal ?_
    | refine blk_ret ?_
    | refine blk_here ?_
    | refine blk_there rfl ?_
    | refine loop_exit ?_
    | refine loop_ret ?_
    | refine un_exit ?_
    | refine un_ret ?_
    | refine unE_exit ?_
    | refine unE_ret ?_
    | refine un_normal ?_)
  exact end_tmp1 rfl rfl rfl ⟨rfl, rfl⟩
theorem con28 (c : CoreS) (H : Heap) : Con Try.prog 28 [.agg (coreL c)] H (fun v H' => v = .c (.bool ((c.el == 0) || (c.el == 1))) ∧ H' = H) := by
  refine Con.pure ?_ (by simp only [coreL, leArgs, leV, leV1, leSegs, leSeg, leC, and_self, implies_true]) rfl H
  (refine con_of_run mixed (fn := Try.f28) (by kernel_rfl) (by kernel_rfl) C28_ok (rs := [.tmp 2]) (by kernel_rfl) (Nat.le_of_ble_eq_true (by kernel_rfl)) ?_; unfold C28; simp only [initT, Nat.reduceAdd])
  repeat' (first
    | refine run_seq ?_
    | refine run_skip ?_
    | (refine run_region fun K hK => ?_; (try (simp (maxSteps := 10000000) only [coreL, C28r0, C28r1, rwp_nil, rwp_cons, rwpK_app, aop, gpath, St.get, slotAt, sfx, eqP, segsOf, St.put, addBlk, getB, setB, delB, ld1, ldn, st1, stn, setRow, rowNeed, segAt, nsub, bin, un, eqB, isShift, sameK, arith, shiftR, getsl, selB_or, selB_and, beqb, shed, addN, Nat.beq, Seg.size, sizes, imp, needP, andN, appL, argsOf, ptrsOf, aasOf, cut, takeS, dropS, putS, partsOf, fillS, fieldOf, nthA, negIf, nilq, nilB, eqS, eqF, eqS1, andP, kin, slcS, strOk, plusA, bndHi, leN, optG, roH, roL, initT, exOk, exAll, wrAddr, Nat.reduceAdd, Nat.reduceSub, Nat.reduceMul, Int.reduceToNat, List.append_nil, List.nil_append, List.cons_append, eqT, idxT, cat, cpy, ite_int, ite_bool, ite_seg, ite_segs, ite_nil, ite_twice, Int.toNat_natCast, app, addBs])); (repeat (first | (refine And.intro ?_ ?_; · first | trivial | assumption | omega))); with_reducible refine hK _ ?_; clear hK K)
    | (refine run_cond rfl (fun hc => ?_) (fun hc => ?_) <;> try (simp only [*, Bool.true_eq_false, Bool.false_eq_true, Bool.not_true, Bool.not_false, Bool.true_or, Bool.or_true, Bool.false_or, Bool.or_false, Bool.false_and, Bool.and_false, bne_self_eq_false, beq_self_eq_true] at hc; done))
    | refine run_block ?_
    | refine run_ret ?_
    | refine run_nil ?_
    | refine run_exit ?_
    | refine blk_normal ?_
    | refine blk_ret ?_
    | refine blk_here ?_
    | refine blk_there rfl ?_
    | refine loop_exit ?_
    | refine loop_ret ?_
    | refine un_exit ?_
    | refine un_ret ?_
    | refine unE_exit ?_
    | refine unE_ret ?_
    | refine un_normal ?_)
  exact end_tmp1 rfl rfl rfl ⟨rfl, rfl⟩
set_option maxHeartbeats 4000000 in
theorem con18 (c : CoreS) (H : Heap) : Con Try.prog 18 [.agg (coreL c)] H (fun v H' => v = .c (.bool ((c.el == 0 || c.el == 1) && decide (c.wait ≥ 0) && decide (c.wait ≤ 2) && decide (c.id ≥ 0) && decide (c.id < 8))) ∧ H' = H) := by
  refine Con.pure ?_ (by simp only [coreL, leArgs, leV, leV1, leSegs, leSeg, leC, and_self, implies_true]) rfl H
  (refine con_of_run mixed (fn := Try.f18) (by kernel_rfl) (by kernel_rfl) C18_ok (rs := [.tmp 2]) (by kernel_rfl) (Nat.le_of_ble_eq_true (by kernel_rfl)) ?_; unfold C18; simp only [initT, Nat.reduceAdd])
  repeat' (first
    | refine run_seq ?_
    | refine run_skip ?_
    | (refine run_region fun K hK => ?_; (try (simp (maxSteps := 10000000) only [coreL, C18r0, C18r1, rwp_nil, rwp_cons, rwpK_app, aop, gpath, St.get, slotAt, sfx, eqP, segsOf, St.put, addBlk, getB, setB, delB, ld1, ldn, st1, stn, setRow, rowNeed, segAt, nsub, bin, un, eqB, isShift, sameK, arith, shiftR, getsl, selB_or, selB_and, beqb, shed, addN, Nat.beq, Seg.size, sizes, imp, needP, andN, appL, argsOf, ptrsOf, aasOf, cut, takeS, dropS, putS, partsOf, fillS, fieldOf, nthA, negIf, nilq, nilB, eqS, eqF, eqS1, andP, kin, slcS, strOk, plusA, bndHi, leN, optG, roH, roL, initT, exOk, exAll, wrAddr, Nat.reduceAdd, Nat.reduceSub, Nat.reduceMul, Int.reduceToNat, List.append_nil, List.nil_append, List.cons_append, eqT, idxT, cat, cpy, ite_int, ite_bool, ite_seg, ite_segs, ite_nil, ite_twice, Int.toNat_natCast, app, addBs])); (repeat (first | (refine And.intro ?_ ?_; · first | trivial | assumption | omega) | ((first | (refine call_t _ (con28 c _) ?_; rintro v H' ⟨rfl, rfl⟩) | refine call_q _ (con28 c _) ?_ | refine call_g _ (imp_of (con28 c _)) ?_); simp (maxSteps := 10000000) only [coreL, C18r0, C18r1, rwp_nil, rwp_cons, rwpK_app, aop, gpath, St.get, slotAt, sfx, eqP, segsOf, St.put, addBlk, getB, setB, delB, ld1, ldn, st1, stn, setRow, rowNeed, segAt, nsub, bin, un, eqB, isShift, sameK, arith, shiftR, getsl, selB_or, selB_and, beqb, shed, addN, Nat.beq, Seg.size, sizes, imp, needP, andN, appL, argsOf, ptrsOf, aasOf, cut, takeS, dropS, putS, partsOf, fillS, fieldOf, nthA, negIf, nilq, nilB, eqS, eqF, eqS1, andP, kin, slcS, strOk, plusA, bndHi, leN, optG, roH, roL, initT, exOk, exAll, wrAddr, Nat.reduceAdd, Nat.reduceSub, Nat.reduceMul, Int.reduceToNat, List.append_nil, List.nil_append, List.cons_append, eqT, idxT, cat, cpy, ite_int, ite_bool, ite_seg, ite_segs, ite_nil, ite_twice, Int.toNat_natCast, app, addBs]))); with_reducible refine hK _ ?_; clear hK K)
    | (refine run_cond rfl (fun hc => ?_) (fun hc => ?_) <;> try (simp only [*, Bool.true_eq_false, Bool.false_eq_true, Bool.not_true, Bool.not_false, Bool.true_or, Bool.or_true, Bool.false_or, Bool.or_false, Bool.false_and, Bool.and_false, bne_self_eq_false, beq_self_eq_true] at hc; done))
    | refine run_block ?_
    | refine run_ret ?_
    | refine run_nil ?_
    | refine run_exit ?_
    | refine blk_normal ?_
    | refine blk_ret ?_
    | refine blk_here ?_
    | refine blk_there rfl ?_
    | refine loop_exit ?_
    | refine loop_ret ?_
    | refine un_exit ?_
    | refine un_ret ?_
    | refine unE_exit ?_
    | refine unE_ret ?_
    | refine un_normal ?_)
  exact end_tmp1 rfl rfl rfl ⟨rfl, rfl⟩
def acqS (o : Int) : Int := if o = 1 then 1 else if o = 2 then 2 else 0
theorem con33 (o : Int) (H : Heap) : Con Try.prog 33 [.c (.int .i64 o)] H (fun v H' => v = .c (.int .i64 (acqS o)) ∧ H' = H) := by
  refine Con.pure ?_ (by simp only [leArgs, leV, leV1, leC, and_self]) rfl H
  (refine con_of_run mixed (fn := Try.f33) (by kernel_rfl) (by kernel_rfl) C33_ok (rs := [.tmp 2]) (by kernel_rfl) (Nat.le_of_ble_eq_true (by kernel_rfl)) ?_; unfold C33; simp only [initT, Nat.reduceAdd])
  repeat' (first
    | refine run_seq ?_
    | refine run_skip ?_
    | (refine run_region fun K hK => ?_; (try (simp (maxSteps := 10000000) only [C33r0, C33r1, C33r2, C33r3, C33r4, C33r5, C33r6, rwp_nil, rwp_cons, rwpK_app, aop, gpath, St.get, slotAt, sfx, eqP, segsOf, St.put, addBlk, getB, setB, delB, ld1, ldn, st1, stn, setRow, rowNeed, segAt, nsub, bin, un, eqB, isShift, sameK, arith, shiftR, getsl, selB_or, selB_and, beqb, shed, addN, Nat.beq, Seg.size, sizes, imp, needP, andN, appL, argsOf, ptrsOf, aasOf, cut, takeS, dropS, putS, partsOf, fillS, fieldOf, nthA, negIf, nilq, nilB, eqS, eqF, eqS1, andP, kin, slcS, strOk, plusA, bndHi, leN, optG, roH, roL, initT, exOk, exAll, wrAddr, Nat.reduceAdd, Nat.reduceSub, Nat.reduceMul, Int.reduceToNat, List.append_nil, List.nil_append, List.cons_append, eqT, idxT, cat, cpy, ite_int, ite_bool, ite_seg, ite_segs, ite_nil, ite_twice, Int.toNat_natCast, app, addBs])); (repeat (first | (refine And.intro ?_ ?_; · first | trivial | assumption | omega))); with_reducible refine hK _ ?_; clear hK K)
    | (refine run_cond rfl (fun hc => ?_) (fun hc => ?_) <;> try (simp only [*, Bool.true_eq_false, Bool.false_eq_true, Bool.not_true, Bool.not_false, Bool.true_or, Bool.or_true, Bool.false_or, Bool.or_false, Bool.false_and, Bool.and_false, bne_self_eq_false, beq_self_eq_true] at hc; done))
    | refine run_block ?_
    | refine run_ret ?_
    | refine run_nil ?_
    | refine run_exit ?_
    | refine blk_normal ?_
    | refine blk_ret ?_
    | refine blk_here ?_
    | refine blk_there rfl ?_
    | refine loop_exit ?_
    | refine loop_ret ?_
    | refine un_exit ?_
    | refine un_ret ?_
    | refine unE_exit ?_
    | refine unE_ret ?_
    | refine un_normal ?_)
  all_goals refine end_tmp1 rfl ⟨rfl, rfl⟩ rfl ⟨?_, rfl⟩
  all_goals simp only [beq_iff_eq, beq_eq_false_iff_ne, ne_eq] at *
  all_goals simp only [acqS, *, if_true, if_false]
  all_goals first | rfl | (subst_vars; rfl)
def fitsS (m : MicroS) (slots : Int) : Bool :=
  if m.kind = 5 ∨ m.kind = 6 then decide (m.r ≥ 0) && decide (m.r ≤ 30)
  else if m.kind = 9 ∨ m.kind = 10 then decide (m.r ≥ 0) && decide (m.r ≤ 3)
  else if m.kind = 11 then decide (m.r ≥ 1) && decide (m.r ≤ 15)
  else if m.kind = 12 then decide (m.order ≥ 0) && decide (m.order ≤ 2)
  else if m.kind = 14 then (m.order == 0) || (m.order == 2)
  else if m.kind = 13 ∨ m.kind = 15 then (m.order == 0) || (m.order == 4)
  else if m.kind = 17 then (m.r == 13) || (m.r == 10) || (m.r == 15)
  else if m.kind = 18 then m.imm.tmod 4 == 0
  else if m.kind = 22 then decide (m.imm < 4294967296)
  else if m.kind = 3 ∨ m.kind = 4 then decide (m.imm < IntKind.u64.wrap slots)
  else true
set_option maxHeartbeats 4000000 in
theorem con27 (m : MicroS) (s : Int) (H : Heap) : Con Try.prog 27 [.agg (microL m), .c (.int .i64 s)] H (fun v H' => v = .c (.bool (fitsS m s)) ∧ H' = H) := by
  refine Con.pure ?_ (by simp only [microL, leArgs, leV, leV1, leSegs, leSeg, leC, and_self, implies_true]) rfl H
  (refine con_of_run mixed (fn := Try.f27) (by kernel_rfl) (by kernel_rfl) C27_ok (rs := [.tmp 4]) (by kernel_rfl) (Nat.le_of_ble_eq_true (by kernel_rfl)) ?_; unfold C27; simp only [initT, Nat.reduceAdd])
  repeat' (first
    | refine run_seq ?_
    | refine run_skip ?_
    | (refine run_region fun K hK => ?_; (try (simp (maxSteps := 10000000) only [microL, ne_eq, Int.reduceEq, not_false_eq_true, true_and, C27r0, C27r1, C27r2, C27r3, C27r4, C27r5, C27r6, C27r7, C27r8, C27r9, C27r10, C27r11, C27r12, C27r13, C27r14, C27r15, C27r16, C27r17, C27r18, C27r19, C27r20, C27r21, C27r22, C27r23, C27r24, C27r25, C27r26, rwp_nil, rwp_cons, rwpK_app, aop, gpath, St.get, slotAt, sfx, eqP, segsOf, St.put, addBlk, getB, setB, delB, ld1, ldn, st1, stn, setRow, rowNeed, segAt, nsub, bin, un, eqB, isShift, sameK, arith, shiftR, getsl, selB_or, selB_and, beqb, shed, addN, Nat.beq, Seg.size, sizes, imp, needP, andN, appL, argsOf, ptrsOf, aasOf, cut, takeS, dropS, putS, partsOf, fillS, fieldOf, nthA, negIf, nilq, nilB, eqS, eqF, eqS1, andP, kin, slcS, strOk, plusA, bndHi, leN, optG, roH, roL, initT, exOk, exAll, wrAddr, Nat.reduceAdd, Nat.reduceSub, Nat.reduceMul, Int.reduceToNat, List.append_nil, List.nil_append, List.cons_append, eqT, idxT, cat, cpy, ite_int, ite_bool, ite_seg, ite_segs, ite_nil, ite_twice, Int.toNat_natCast, app, addBs])); (repeat (first | (refine And.intro ?_ ?_; · first | trivial | assumption | omega) | ((first | (refine call_t _ (con24 _ _ _ _) ?_; rintro v H' ⟨rfl, rfl⟩) | refine call_q _ (con24 _ _ _ _) ?_ | refine call_g _ (imp_of (con24 _ _ _ _)) ?_); simp (maxSteps := 10000000) only [microL, ne_eq, Int.reduceEq, not_false_eq_true, true_and, C27r0, C27r1, C27r2, C27r3, C27r4, C27r5, C27r6, C27r7, C27r8, C27r9, C27r10, C27r11, C27r12, C27r13, C27r14, C27r15, C27r16, C27r17, C27r18, C27r19, C27r20, C27r21, C27r22, C27r23, C27r24, C27r25, C27r26, rwp_nil, rwp_cons, rwpK_app, aop, gpath, St.get, slotAt, sfx, eqP, segsOf, St.put, addBlk, getB, setB, delB, ld1, ldn, st1, stn, setRow, rowNeed, segAt, nsub, bin, un, eqB, isShift, sameK, arith, shiftR, getsl, selB_or, selB_and, beqb, shed, addN, Nat.beq, Seg.size, sizes, imp, needP, andN, appL, argsOf, ptrsOf, aasOf, cut, takeS, dropS, putS, partsOf, fillS, fieldOf, nthA, negIf, nilq, nilB, eqS, eqF, eqS1, andP, kin, slcS, strOk, plusA, bndHi, leN, optG, roH, roL, initT, exOk, exAll, wrAddr, Nat.reduceAdd, Nat.reduceSub, Nat.reduceMul, Int.reduceToNat, List.append_nil, List.nil_append, List.cons_append, eqT, idxT, cat, cpy, ite_int, ite_bool, ite_seg, ite_segs, ite_nil, ite_twice, Int.toNat_natCast, app, addBs]))); with_reducible refine hK _ ?_; clear hK K)
    | (refine run_cond rfl (fun hc => ?_) (fun hc => ?_) <;> try (simp only [*, Bool.true_eq_false, Bool.false_eq_true, Bool.not_true, Bool.not_false, Bool.true_or, Bool.or_true, Bool.false_or, Bool.or_false, Bool.false_and, Bool.and_false, bne_self_eq_false, beq_self_eq_true] at hc; done))
    | refine run_block ?_
    | refine run_ret ?_
    | refine run_nil ?_
    | refine run_exit ?_
    | refine blk_normal ?_
    | refine blk_ret ?_
    | refine blk_here ?_
    | refine blk_there rfl ?_
    | refine loop_exit ?_
    | refine loop_ret ?_
    | refine un_exit ?_
    | refine un_ret ?_
    | refine unE_exit ?_
    | refine unE_ret ?_
    | refine un_normal ?_)
  all_goals first | refine end_tmp1 rfl rfl rfl ⟨?_, rfl⟩ | skip
  all_goals simp only [beq_iff_eq, beq_eq_false_iff_ne, ne_eq, Bool.or_eq_true, Bool.or_eq_false_iff] at *
  all_goals try (simp only [fitsS, *, if_true, if_false, true_or, or_true, or_self]; done)
  all_goals simp [fitsS, *]
end Go.Proofs.Yteikpddilabppaa
