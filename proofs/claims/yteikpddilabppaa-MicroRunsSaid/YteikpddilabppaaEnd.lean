/- micro: a run ends. -/
import Derived.Test.YteikpddilabppaaKn6
namespace Go.Proofs.Yteikpddilabppaa
open Go.AM
set_option maxRecDepth 100000
set_option linter.unusedSimpArgs false
set_option linter.unusedVariables false
def gotsBk (n : Nat) (g : Nat → GotS) : Blk := ⟨3, some n, fun i => gotL (g i), 57, false⟩
def endSt (c : CodeS) (k : CoreS) (ng : Nat) (gs : Nat → GotS) (i : Nat) (s : RunS) (w : Int) : St :=
  ⟨[⟨11, [], .c (.int .i64 i)⟩, ⟨10, [], .c (.int .i64 w)⟩, ⟨8, [], .c (.ptr ⟨4, 0, 0, 0⟩)⟩, ⟨7, [], .c (.bool true)⟩, ⟨6, [], .c (.bool false)⟩, ⟨3, [], .c (.ptr ⟨2, 0, 0, 0⟩)⟩, ⟨2, [], .c (.slice ⟨1, 0, 0, 0⟩ false ng)⟩],
   ⟨7, [(4, runBa 4 5 6 s), (5, opsB s), (6, slotB s), (3, coreB k), (2, ⟨5, none, fun _ => codeLa 0 c, 25, true⟩), (1, gotsBk ng gs), (0, opsBk c false)]⟩⟩
theorem ids7 : ∀ i, i < 2 → nthO [0, 1, 2, 3, 4, 5, 6] i = some i := by
  intro i h
  match i, h with
  | 0, _ => rfl
  | 1, _ => rfl
theorem le_end {c : CodeS} {k : CoreS} {ng : Nat} {gs : Nat → GotS} {l : List Slot} {H : Heap} (i : Nat) (s : RunS) (w : Int) (b4 : getB H.blks 4 = some (runBa 4 5 6 s)) (b5 : getB H.blks 5 = some (opsB s)) (b6 : getB H.blks 6 = some (slotB s)) (b3 : getB H.blks 3 = some (coreB k)) (b2 : getB H.blks 2 = some ⟨5, none, fun _ => codeLa 0 c, 25, true⟩) (b1 : getB H.blks 1 = some (gotsBk ng gs)) (b0 : getB H.blks 0 = some (opsBk c false))
    (h11 : slotAt l 11 = some ⟨11, [], .c (.int .i64 i)⟩) (h10 : slotAt l 10 = some ⟨10, [], .c (.int .i64 w)⟩) (h8 : slotAt l 8 = some ⟨8, [], .c (.ptr ⟨4, 0, 0, 0⟩)⟩) (h7 : slotAt l 7 = some ⟨7, [], .c (.bool true)⟩) (h6 : slotAt l 6 = some ⟨6, [], .c (.bool false)⟩) (h3 : slotAt l 3 = some ⟨3, [], .c (.ptr ⟨2, 0, 0, 0⟩)⟩) (h2 : slotAt l 2 = some ⟨2, [], .c (.slice ⟨1, 0, 0, 0⟩ false ng)⟩) :
    LeS 2 ⟨l, H⟩ (endSt c k ng gs i s w) := by
  refine LeS.intro [0, 1, 2, 3, 4, 5, 6] ids7 (by simp only [diff, notIn, Nat.beq, and_self]) rfl ?_ ?_
  · simp only [endSt, slotsLe, h11, h10, h8, h7, h6, h3, h2, leV, leV1, leC, leA, nthO, and_self]
  · simp only [endSt, leBlks, nthO, b4, b5, b6, b3, b2, b1, b0]
    refine ⟨⟨rfl, rfl, id, Nat.le_refl _, fun _ _ => ?_⟩, ops_le s, slot_le s, core_le k, ⟨rfl, rfl, id, Nat.le_refl _, fun _ _ => ?_⟩, ⟨rfl, rfl, id, Nat.le_refl _, fun _ _ => ?_⟩, ⟨rfl, rfl, id, Nat.le_refl _, fun _ _ => ?_⟩, trivial⟩
    · have hw : leC [0, 1, 2, 3, 4, 5, 6] (waitVa 4 s.waits) (waitVa 4 s.waits) := by
        cases s.waits <;> first | trivial | exact ⟨rfl, ⟨⟨rfl, rfl, rfl, rfl⟩, trivial⟩, trivial⟩
      simp only [↓hw, runBa, runLa, leSegs, leSeg, leC, leA, nthO, and_self, implies_true]
    · simp only [codeLa, leSegs, leSeg, leC, leA, nthO, and_self]
    · simp only [gotsBk, gotL, leSegs, leSeg, leC, and_self]
    · simp only [opsBk, microL, leSegs, leSeg, leC, and_self]
theorem end_law {l : List Slot} {H : Heap} {R : Post} {c : CodeS} {ng : Nat} {gs : Nat → GotS} (b1 : getB H.blks 1 = some (gotsBk ng gs)) (b0 : getB H.blks 0 = some (opsBk c false)) {t : Nat} (b : Bool) (h : slotAt l t = some ⟨t, [], .c (.bool b)⟩) (hR : R (.c (.bool b)) ⟨2, [(1, gotsBk ng gs), (0, opsBk c false)]⟩) : endQ (LeS 2) [.tmp t] R .ret ⟨l, H⟩ := by
  refine end_of ⟨[⟨t, [], .c (.bool b)⟩], ⟨2, [(1, gotsBk ng gs), (0, opsBk c false)]⟩⟩ ?_ ?_
  · refine LeS.intro [0, 1] (fun i h => ?_) (by simp only [diff, notIn, Nat.beq, and_self]) rfl (slotsOf h rfl trivial) ?_
    · match i, h with
      | 0, _ => rfl
      | 1, _ => rfl
    · simp only [leBlks, nthO, b1, b0]
      refine ⟨⟨rfl, rfl, id, Nat.le_refl _, fun _ _ => ?_⟩, ⟨rfl, rfl, id, Nat.le_refl _, fun _ _ => ?_⟩, trivial⟩
      · simp only [gotsBk, gotL, leSegs, leSeg, leC, and_self]
      · simp only [opsBk, microL, leSegs, leSeg, leC, and_self]
  · have hg : St.get ⟨[⟨t, [], .c (.bool b)⟩], ⟨2, [(1, gotsBk ng gs), (0, opsBk c false)]⟩⟩ [] (.t t) = .c (.bool b) := by simp [St.get, slotAt, Nat.beq_refl, sfx, eqP]
    simp only [endF, resL, resA, hg, noTup, resV]
    exact hR
set_option maxHeartbeats 4000000 in
theorem con4 (c : CodeS) (k : CoreS) (ng : Nat) (gs : Nat → GotS) (himm : ∀ i, i < c.nops → 0 ≤ (c.ops i).imm) :
    Con Try.prog 4 [.agg (codeLa 0 c), .agg (coreL k), .c (.slice ⟨1, 0, 0, 0⟩ false ng)] ⟨2, [(1, gotsBk ng gs), (0, opsBk c false)]⟩ (fun v H' => v = .c (.bool true) ∧ H' = ⟨2, [(1, gotsBk ng gs), (0, opsBk c false)]⟩) := by
  (refine con_of_run mixed (fn := Try.f4) (by kernel_rfl) (by kernel_rfl) C4_ok (rs := [.tmp 6]) (by kernel_rfl) (Nat.le_of_ble_eq_true (by kernel_rfl)) ?_; unfold C4; simp only [initT, Nat.reduceAdd])
  generalize hR : (fun (v : AV) (H' : Heap) => v = AV.c (CV.bool true) ∧ H' = ⟨2, [(1, gotsBk ng gs), (0, opsBk c false)]⟩) = R
  simp only [codeLa, coreL]
  repeat' (first
    | refine run_seq ?_
    | refine run_skip ?_
    | (refine run_region fun K hK => ?_; (try (simp (maxSteps := 10000000) only [microL, gotL, wantL, want0, C4r0, C4r1, C4r3, C4r4, C4r5, C4r6, C4r7, C4r8, C4r9, C4r10, C4r11, C4r12, C4r13, C4r14, C4r15, C4r16, C4r17, C4r18, C4r19, C4r20, C4r21, C4r22, C4r23, C4r24, rwp_nil, rwp_cons, rwpK_app, aop, gpath, St.get, slotAt, sfx, eqP, segsOf, St.put, addBlk, getB, setB, delB, ld1, ldn, st1, stn, setRow, rowNeed, segAt, nsub, bin, un, eqB, isShift, sameK, arith, shiftR, getsl, selB_or, selB_and, beqb, shed, addN, Nat.beq, Seg.size, sizes, imp, needP, andN, appL, argsOf, ptrsOf, aasOf, cut, takeS, dropS, putS, partsOf, fillS, fieldOf, nthA, negIf, nilq, nilB, eqS, eqF, eqS1, andP, kin, slcS, strOk, plusA, bndHi, leN, optG, roH, roL, initT, exOk, exAll, wrAddr, Nat.reduceAdd, Nat.reduceSub, Nat.reduceMul, Int.reduceToNat, List.append_nil, List.nil_append, List.cons_append, eqT, idxT, cat, cpy, ite_int, ite_bool, ite_seg, ite_segs, ite_nil, ite_twice, Int.toNat_natCast, app, addBs])); (repeat (first | (refine And.intro ?_ ?_; · omega) | ((first | (refine call_t _ (con5 _) ?_; rintro v H' ⟨rfl, rfl⟩) | refine call_q _ (con5 _) ?_ | refine call_g _ (imp_of (con5 _)) ?_); simp (maxSteps := 10000000) only [microL, gotL, wantL, want0, C4r0, C4r1, C4r3, C4r4, C4r5, C4r6, C4r7, C4r8, C4r9, C4r10, C4r11, C4r12, C4r13, C4r14, C4r15, C4r16, C4r17, C4r18, C4r19, C4r20, C4r21, C4r22, C4r23, C4r24, rwp_nil, rwp_cons, rwpK_app, aop, gpath, St.get, slotAt, sfx, eqP, segsOf, St.put, addBlk, getB, setB, delB, ld1, ldn, st1, stn, setRow, rowNeed, segAt, nsub, bin, un, eqB, isShift, sameK, arith, shiftR, getsl, selB_or, selB_and, beqb, shed, addN, Nat.beq, Seg.size, sizes, imp, needP, andN, appL, argsOf, ptrsOf, aasOf, cut, takeS, dropS, putS, partsOf, fillS, fieldOf, nthA, negIf, nilq, nilB, eqS, eqF, eqS1, andP, kin, slcS, strOk, plusA, bndHi, leN, optG, roH, roL, initT, exOk, exAll, wrAddr, Nat.reduceAdd, Nat.reduceSub, Nat.reduceMul, Int.reduceToNat, List.append_nil, List.nil_append, List.cons_append, eqT, idxT, cat, cpy, ite_int, ite_bool, ite_seg, ite_segs, ite_nil, ite_twice, Int.toNat_natCast, app, addBs]))); with_reducible refine hK _ ?_; clear hK K)
    | (refine run_cond rfl (fun hc => ?_) (fun hc => ?_) <;> try (simp only [*, Bool.true_eq_false, Bool.false_eq_true, Bool.not_true, Bool.not_false, Bool.true_or, Bool.or_true, Bool.false_or, Bool.or_false, Bool.false_and, Bool.and_false, bne_self_eq_false, beq_self_eq_true] at hc; done))
    | refine run_block ?_
    | refine run_ret ?_
    | refine run_nil ?_
    | refine run_exit ?_
    | refine blk_normal ?_
    | refine blk_ret ?_
    | refine blk_here ?_
    | refine blk_there rfl ?_
    | refine loop_exit ?_
    | refine loop_ret ?_
    | refine un_exit ?_
    | refine un_ret ?_
    | refine unE_exit ?_
    | refine unE_ret ?_
    | refine un_normal ?_)
  refine run_region fun K hK => ?_
  simp (maxSteps := 10000000) only [microL, gotL, wantL, want0, C4r0, C4r1, C4r2, C4r3, C4r4, C4r5, C4r6, C4r7, C4r8, C4r9, C4r10, C4r11, C4r12, C4r13, C4r14, C4r15, C4r16, C4r17, C4r18, C4r19, C4r20, C4r21, C4r22, C4r23, C4r24, rwp_nil, rwp_cons, rwpK_app, aop, gpath, St.get, slotAt, sfx, eqP, segsOf, St.put, addBlk, getB, setB, delB, ld1, ldn, st1, stn, setRow, rowNeed, segAt, nsub, bin, un, eqB, isShift, sameK, arith, shiftR, getsl, selB_or, selB_and, beqb, shed, addN, Nat.beq, Seg.size, sizes, imp, needP, andN, appL, argsOf, ptrsOf, aasOf, cut, takeS, dropS, putS, partsOf, fillS, fieldOf, nthA, negIf, nilq, nilB, eqS, eqF, eqS1, andP, kin, slcS, strOk, plusA, bndHi, leN, optG, roH, roL, initT, exOk, exAll, wrAddr, Nat.reduceAdd, Nat.reduceSub, Nat.reduceMul, Int.reduceToNat, List.append_nil, List.nil_append, List.cons_append, eqT, idxT, cat, cpy, ite_int, ite_bool, ite_seg, ite_segs, ite_nil, ite_twice, Int.toNat_natCast, app, addBs]
  refine call_t _ (con6_at c k himm 0 _ _ false rfl (by decide) (by simp [keysLt])) ?_
  intro v H' h
  split at h
  · rename_i he
    obtain ⟨rfl, rfl⟩ := h
    simp (maxSteps := 10000000) only [microL, gotL, wantL, want0, C4r0, C4r1, C4r2, C4r3, C4r4, C4r5, C4r6, C4r7, C4r8, C4r9, C4r10, C4r11, C4r12, C4r13, C4r14, C4r15, C4r16, C4r17, C4r18, C4r19, C4r20, C4r21, C4r22, C4r23, C4r24, rwp_nil, rwp_cons, rwpK_app, aop, gpath, St.get, slotAt, sfx, eqP, segsOf, St.put, addBlk, getB, setB, delB, ld1, ldn, st1, stn, setRow, rowNeed, segAt, nsub, bin, un, eqB, isShift, sameK, arith, shiftR, getsl, selB_or, selB_and, beqb, shed, addN, Nat.beq, Seg.size, sizes, imp, needP, andN, appL, argsOf, ptrsOf, aasOf, cut, takeS, dropS, putS, partsOf, fillS, fieldOf, nthA, negIf, nilq, nilB, eqS, eqF, eqS1, andP, kin, slcS, strOk, plusA, bndHi, leN, optG, roH, roL, initT, exOk, exAll, wrAddr, Nat.reduceAdd, Nat.reduceSub, Nat.reduceMul, Int.reduceToNat, List.append_nil, List.nil_append, List.cons_append, eqT, idxT, cat, cpy, ite_int, ite_bool, ite_seg, ite_segs, ite_nil, ite_twice, Int.toNat_natCast, app, addBs]
    refine hK _ ?_
    clear hK K
    repeat' (first
    | refine run_seq ?_
    | refine run_skip ?_
    | (refine run_region fun K hK => ?_; (try (simp (maxSteps := 10000000) only [microL, gotL, wantL, want0, C4r0, C4r1, C4r2, C4r3, C4r4, C4r5, C4r7, C4r8, C4r9, C4r10, C4r11, C4r12, C4r13, C4r14, C4r15, C4r16, C4r17, C4r18, C4r19, C4r20, C4r21, C4r22, C4r23, C4r24, rwp_nil, rwp_cons, rwpK_app, aop, gpath, St.get, slotAt, sfx, eqP, segsOf, St.put, addBlk, getB, setB, delB, ld1, ldn, st1, stn, setRow, rowNeed, segAt, nsub, bin, un, eqB, isShift, sameK, arith, shiftR, getsl, selB_or, selB_and, beqb, shed, addN, Nat.beq, Seg.size, sizes, imp, needP, andN, appL, argsOf, ptrsOf, aasOf, cut, takeS, dropS, putS, partsOf, fillS, fieldOf, nthA, negIf, nilq, nilB, eqS, eqF, eqS1, andP, kin, slcS, strOk, plusA, bndHi, leN, optG, roH, roL, initT, exOk, exAll, wrAddr, Nat.reduceAdd, Nat.reduceSub, Nat.reduceMul, Int.reduceToNat, List.append_nil, List.nil_append, List.cons_append, eqT, idxT, cat, cpy, ite_int, ite_bool, ite_seg, ite_segs, ite_nil, ite_twice, Int.toNat_natCast, app, addBs])); (repeat (first | (refine And.intro ?_ ?_; · omega))); with_reducible refine hK _ ?_; clear hK K)
    | (refine run_cond rfl (fun hc => ?_) (fun hc => ?_) <;> try (simp only [*, Bool.true_eq_false, Bool.false_eq_true, Bool.not_true, Bool.not_false, Bool.true_or, Bool.or_true, Bool.false_or, Bool.or_false, Bool.false_and, Bool.and_false, bne_self_eq_false, beq_self_eq_true] at hc; done))
    | refine run_block ?_
    | refine run_ret ?_
    | refine run_nil ?_
    | refine run_exit ?_
    | refine blk_normal ?_
    | refine blk_ret ?_
    | refine blk_here ?_
    | refine blk_there rfl ?_
    | refine loop_exit ?_
    | refine loop_ret ?_
    | refine un_exit ?_
    | refine un_ret ?_
    | refine unE_exit ?_
    | refine unE_ret ?_
    | refine un_normal ?_)
    have her : rightS c = true := by
      cases h : rightS c with
      | true => rfl
      | false => simp [newErr, h] at he
    have hg0 := new_good (k := k) her himm
    have hpf := pre_facts (rightS_pre her)
    (refine run_regionL fun K hK => ?_; (try (simp (maxSteps := 10000000) only [microL, gotL, wantL, want0, coreB, coreL, codeLa, gotsBk, C4r0, C4r1, C4r2, C4r3, C4r4, C4r5, C4r6, C4r7, C4r8, C4r9, C4r10, C4r11, C4r12, C4r13, C4r14, C4r15, C4r16, C4r17, C4r18, C4r19, C4r20, C4r21, C4r22, C4r23, C4r24, rwp_nil, rwp_cons, rwpK_app, aop, gpath, St.get, slotAt, sfx, eqP, segsOf, St.put, addBlk, getB, setB, delB, ld1, ldn, st1, stn, setRow, rowNeed, segAt, nsub, bin, un, eqB, isShift, sameK, arith, shiftR, getsl, selB_or, selB_and, beqb, shed, addN, Nat.beq, Seg.size, sizes, imp, needP, andN, appL, argsOf, ptrsOf, aasOf, cut, takeS, dropS, putS, partsOf, fillS, fieldOf, nthA, negIf, nilq, nilB, eqS, eqF, eqS1, andP, kin, slcS, strOk, plusA, bndHi, leN, optG, roH, roL, initT, exOk, exAll, wrAddr, Nat.reduceAdd, Nat.reduceSub, Nat.reduceMul, Int.reduceToNat, List.append_nil, List.nil_append, List.cons_append, eqT, idxT, cat, cpy, ite_int, ite_bool, ite_seg, ite_segs, ite_nil, ite_twice, Int.toNat_natCast, app, addBs])); (repeat (refine And.intro ?_ ?_; · first | trivial | assumption | omega)); refine hK _ (endSt c k ng gs 0 (newS c k) 0) (le_end 0 _ _ rfl rfl rfl rfl rfl rfl rfl rfl rfl rfl rfl rfl rfl rfl) ?_; clear hK K)
    clear hc
    refine run_block ?_
    refine run_loop (fun n st => ∃ (i : Nat) (s : RunS) (w : Int), st = endSt c k ng gs i s w ∧ GoodS s ∧ s.nops = c.nops ∧ (i : Int) ≤ s.at_ ∧ i < c.nops ∧ 0 ≤ w ∧ w ≤ i ∧ n = c.nops - i) c.nops ⟨0, newS c k, 0, rfl, hg0, rfl, Int.le_refl _, by omega, by omega, by omega, by omega⟩ ?_
    rintro n st ⟨i, s, w, rfl, hgs, hns, hat, hi, hw0, hw, hn⟩
    clear hg0 he
    obtain ⟨hgt, htl, hta, htn⟩ := nextR_good hgs
    simp only [endSt]
    repeat' (first
    | refine run_seq ?_
    | refine run_skip ?_
    | (refine run_region fun K hK => ?_; (try (simp (maxSteps := 10000000) only [microL, gotL, wantL, want0, coreB, coreL, codeLa, gotsBk, C4r0, C4r1, C4r2, C4r3, C4r4, C4r5, C4r6, C4r7, C4r8, C4r9, C4r10, C4r11, C4r12, C4r13, C4r14, C4r15, C4r16, C4r17, C4r18, C4r19, C4r20, C4r21, C4r22, C4r23, C4r24, rwp_nil, rwp_cons, rwpK_app, aop, gpath, St.get, slotAt, sfx, eqP, segsOf, St.put, addBlk, getB, setB, delB, ld1, ldn, st1, stn, setRow, rowNeed, segAt, nsub, bin, un, eqB, isShift, sameK, arith, shiftR, getsl, selB_or, selB_and, beqb, shed, addN, Nat.beq, Seg.size, sizes, imp, needP, andN, appL, argsOf, ptrsOf, aasOf, cut, takeS, dropS, putS, partsOf, fillS, fieldOf, nthA, negIf, nilq, nilB, eqS, eqF, eqS1, andP, kin, slcS, strOk, plusA, bndHi, leN, optG, roH, roL, initT, exOk, exAll, wrAddr, Nat.reduceAdd, Nat.reduceSub, Nat.reduceMul, Int.reduceToNat, List.append_nil, List.nil_append, List.cons_append, eqT, idxT, cat, cpy, ite_int, ite_bool, ite_seg, ite_segs, ite_nil, ite_twice, Int.toNat_natCast, app, addBs])); (repeat (first | (refine And.intro ?_ ?_; · omega) | ((first | (refine call_t _ (run_at (con11 s hgs) 4 5 6 _ _ _ rfl rfl rfl (by decide) (by decide) (by decide) (Nat.le_of_ble_eq_true rfl) (Nat.le_of_ble_eq_true rfl) (Nat.le_of_ble_eq_true rfl) (by simp [keysLt]) (by simp only [me, gotL, leArgs, leV, leV1, leSegs, leSeg, leC, leA, nthO, and_self]) rfl) ?_; rintro v H' ⟨rfl, rfl⟩) | refine call_q _ (run_at (con11 s hgs) 4 5 6 _ _ _ rfl rfl rfl (by decide) (by decide) (by decide) (Nat.le_of_ble_eq_true rfl) (Nat.le_of_ble_eq_true rfl) (Nat.le_of_ble_eq_true rfl) (by simp [keysLt]) (by simp only [me, gotL, leArgs, leV, leV1, leSegs, leSeg, leC, leA, nthO, and_self]) rfl) ?_ | refine call_g _ (imp_of (run_at (con11 s hgs) 4 5 6 _ _ _ rfl rfl rfl (by decide) (by decide) (by decide) (Nat.le_of_ble_eq_true rfl) (Nat.le_of_ble_eq_true rfl) (Nat.le_of_ble_eq_true rfl) (by simp [keysLt]) (by simp only [me, gotL, leArgs, leV, leV1, leSegs, leSeg, leC, leA, nthO, and_self]) rfl)) ?_); simp (maxSteps := 10000000) only [microL, gotL, wantL, want0, coreB, coreL, codeLa, gotsBk, C4r0, C4r1, C4r2, C4r3, C4r4, C4r5, C4r6, C4r7, C4r8, C4r9, C4r10, C4r11, C4r12, C4r13, C4r14, C4r15, C4r16, C4r17, C4r18, C4r19, C4r20, C4r21, C4r22, C4r23, C4r24, rwp_nil, rwp_cons, rwpK_app, aop, gpath, St.get, slotAt, sfx, eqP, segsOf, St.put, addBlk, getB, setB, delB, ld1, ldn, st1, stn, setRow, rowNeed, segAt, nsub, bin, un, eqB, isShift, sameK, arith, shiftR, getsl, selB_or, selB_and, beqb, shed, addN, Nat.beq, Seg.size, sizes, imp, needP, andN, appL, argsOf, ptrsOf, aasOf, cut, takeS, dropS, putS, partsOf, fillS, fieldOf, nthA, negIf, nilq, nilB, eqS, eqF, eqS1, andP, kin, slcS, strOk, plusA, bndHi, leN, optG, roH, roL, initT, exOk, exAll, wrAddr, Nat.reduceAdd, Nat.reduceSub, Nat.reduceMul, Int.reduceToNat, List.append_nil, List.nil_append, List.cons_append, eqT, idxT, cat, cpy, ite_int, ite_bool, ite_seg, ite_segs, ite_nil, ite_twice, Int.toNat_natCast, app, addBs]))); with_reducible refine hK _ ?_; clear hK K)
    | (refine run_cond rfl (fun hc => ?_) (fun hc => ?_) <;> try (simp only [*, Bool.true_eq_false, Bool.false_eq_true, Bool.not_true, Bool.not_false, Bool.true_or, Bool.or_true, Bool.false_or, Bool.or_false, Bool.false_and, Bool.and_false, bne_self_eq_false, beq_self_eq_true] at hc; done))
    | refine run_block ?_
    | refine run_ret ?_
    | refine run_nil ?_
    | refine run_exit ?_
    | refine blk_normal ?_
    | refine blk_ret ?_
    | refine blk_here ?_
    | refine blk_there rfl ?_
    | refine loop_exit ?_
    | refine loop_ret ?_
    | refine un_exit ?_
    | refine un_ret ?_
    | refine unE_exit ?_
    | refine unE_ret ?_
    | refine un_normal ?_)
    rotate_right
    · exfalso; simp at hc; omega
    generalize nextR s = t at *
    repeat' (first
    | refine run_seq ?_
    | refine run_skip ?_
    | (refine run_region fun K hK => ?_; (try (simp (maxSteps := 10000000) only [microL, gotL, wantL, want0, coreB, coreL, codeLa, gotsBk, C4r0, C4r1, C4r2, C4r3, C4r4, C4r5, C4r6, C4r7, C4r8, C4r9, C4r10, C4r11, C4r12, C4r13, C4r15, C4r16, C4r17, C4r18, C4r19, C4r20, C4r21, C4r22, C4r23, C4r24, rwp_nil, rwp_cons, rwpK_app, aop, gpath, St.get, slotAt, sfx, eqP, segsOf, St.put, addBlk, getB, setB, delB, ld1, ldn, st1, stn, setRow, rowNeed, segAt, nsub, bin, un, eqB, isShift, sameK, arith, shiftR, getsl, selB_or, selB_and, beqb, shed, addN, Nat.beq, Seg.size, sizes, imp, needP, andN, appL, argsOf, ptrsOf, aasOf, cut, takeS, dropS, putS, partsOf, fillS, fieldOf, nthA, negIf, nilq, nilB, eqS, eqF, eqS1, andP, kin, slcS, strOk, plusA, bndHi, leN, optG, roH, roL, initT, exOk, exAll, wrAddr, Nat.reduceAdd, Nat.reduceSub, Nat.reduceMul, Int.reduceToNat, List.append_nil, List.nil_append, List.cons_append, eqT, idxT, cat, cpy, ite_int, ite_bool, ite_seg, ite_segs, ite_nil, ite_twice, Int.toNat_natCast, app, addBs])); (repeat (first | (refine And.intro ?_ ?_; · omega) | ((first | (refine call_t _ (ro_at (con9r t) 4 5 6 _ _ _ false rfl (by decide) (by decide) (by decide) (Nat.le_of_ble_eq_true rfl) (Nat.le_of_ble_eq_true rfl) (Nat.le_of_ble_eq_true rfl) (keysLt_roL (by simp [keysLt])) (by simp only [me, gotL, leArgs, leV, leV1, leSegs, leSeg, leC, leA, nthO, and_self]) rfl) ?_; rintro v H' ⟨rfl, rfl⟩) | refine call_q _ (ro_at (con9r t) 4 5 6 _ _ _ false rfl (by decide) (by decide) (by decide) (Nat.le_of_ble_eq_true rfl) (Nat.le_of_ble_eq_true rfl) (Nat.le_of_ble_eq_true rfl) (keysLt_roL (by simp [keysLt])) (by simp only [me, gotL, leArgs, leV, leV1, leSegs, leSeg, leC, leA, nthO, and_self]) rfl) ?_ | refine call_g _ (imp_of (ro_at (con9r t) 4 5 6 _ _ _ false rfl (by decide) (by decide) (by decide) (Nat.le_of_ble_eq_true rfl) (Nat.le_of_ble_eq_true rfl) (Nat.le_of_ble_eq_true rfl) (keysLt_roL (by simp [keysLt])) (by simp only [me, gotL, leArgs, leV, leV1, leSegs, leSeg, leC, leA, nthO, and_self]) rfl)) ?_ | (refine call_t _ (ro_at (con13r t) 4 5 6 _ _ _ true rfl (by decide) (by decide) (by decide) (Nat.le_of_ble_eq_true rfl) (Nat.le_of_ble_eq_true rfl) (Nat.le_of_ble_eq_true rfl) (by simp [keysLt]) (by simp only [me, gotL, leArgs, leV, leV1, leSegs, leSeg, leC, leA, nthO, and_self]) rfl) ?_; rintro v H' ⟨rfl, rfl⟩) | refine call_q _ (ro_at (con13r t) 4 5 6 _ _ _ true rfl (by decide) (by decide) (by decide) (Nat.le_of_ble_eq_true rfl) (Nat.le_of_ble_eq_true rfl) (Nat.le_of_ble_eq_true rfl) (by simp [keysLt]) (by simp only [me, gotL, leArgs, leV, leV1, leSegs, leSeg, leC, leA, nthO, and_self]) rfl) ?_ | refine call_g _ (imp_of (ro_at (con13r t) 4 5 6 _ _ _ true rfl (by decide) (by decide) (by decide) (Nat.le_of_ble_eq_true rfl) (Nat.le_of_ble_eq_true rfl) (Nat.le_of_ble_eq_true rfl) (by simp [keysLt]) (by simp only [me, gotL, leArgs, leV, leV1, leSegs, leSeg, leC, leA, nthO, and_self]) rfl)) ?_ | refine call_g _ (imp_of (ro_at (con10r t) 4 5 6 _ _ _ false rfl (by decide) (by decide) (by decide) (Nat.le_of_ble_eq_true rfl) (Nat.le_of_ble_eq_true rfl) (Nat.le_of_ble_eq_true rfl) (keysLt_roL (by simp [keysLt])) (by simp only [me, gotL, leArgs, leV, leV1, leSegs, leSeg, leC, leA, nthO, and_self]) rfl)) ?_ | refine call_g _ (imp_of (ro_at (con9r t) 4 5 6 _ _ _ false rfl (by decide) (by decide) (by decide) (Nat.le_of_ble_eq_true rfl) (Nat.le_of_ble_eq_true rfl) (Nat.le_of_ble_eq_true rfl) (keysLt_roL (by simp [keysLt])) (by simp only [me, gotL, leArgs, leV, leV1, leSegs, leSeg, leC, leA, nthO, and_self]) rfl)) ?_); simp (maxSteps := 10000000) only [microL, gotL, wantL, want0, coreB, coreL, codeLa, gotsBk, C4r0, C4r1, C4r2, C4r3, C4r4, C4r5, C4r6, C4r7, C4r8, C4r9, C4r10, C4r11, C4r12, C4r13, C4r15, C4r16, C4r17, C4r18, C4r19, C4r20, C4r21, C4r22, C4r23, C4r24, rwp_nil, rwp_cons, rwpK_app, aop, gpath, St.get, slotAt, sfx, eqP, segsOf, St.put, addBlk, getB, setB, delB, ld1, ldn, st1, stn, setRow, rowNeed, segAt, nsub, bin, un, eqB, isShift, sameK, arith, shiftR, getsl, selB_or, selB_and, beqb, shed, addN, Nat.beq, Seg.size, sizes, imp, needP, andN, appL, argsOf, ptrsOf, aasOf, cut, takeS, dropS, putS, partsOf, fillS, fieldOf, nthA, negIf, nilq, nilB, eqS, eqF, eqS1, andP, kin, slcS, strOk, plusA, bndHi, leN, optG, roH, roL, initT, exOk, exAll, wrAddr, Nat.reduceAdd, Nat.reduceSub, Nat.reduceMul, Int.reduceToNat, List.append_nil, List.nil_append, List.cons_append, eqT, idxT, cat, cpy, ite_int, ite_bool, ite_seg, ite_segs, ite_nil, ite_twice, Int.toNat_natCast, app, addBs]))); with_reducible refine hK _ ?_; clear hK K)
    | (refine run_cond rfl (fun hc => ?_) (fun hc => ?_) <;> try (simp only [*, Bool.true_eq_false, Bool.false_eq_true, Bool.not_true, Bool.not_false, Bool.true_or, Bool.or_true, Bool.false_or, Bool.or_false, Bool.false_and, Bool.and_false, bne_self_eq_false, beq_self_eq_true] at hc; done))
    | refine run_block ?_
    | refine run_ret ?_
    | refine run_nil ?_
    | refine run_exit ?_
    | refine blk_normal ?_
    | refine blk_ret ?_
    | refine blk_here ?_
    | refine blk_there rfl ?_
    | refine loop_exit ?_
    | refine loop_ret ?_
    | refine un_exit ?_
    | refine un_ret ?_
    | refine unE_exit ?_
    | refine unE_ret ?_
    | refine un_normal ?_)
    · -- more steps than operations
      exfalso
      have := hgt.stn
      simp at hc
      omega
    · -- it has ended
      have hwt : isN t.waits = true := by simpa using hc
      have hlt := htl hwt
      have h1 := hgt.st1 hlt
      subst hR
      refine end_law rfl rfl _ rfl ⟨?_, rfl⟩
      refine congrArg (fun b => AV.c (CV.bool b)) ?_
      have hgf : (!(t.isGuest && t.faulted)) = true := by
        cases hg : t.isGuest with
        | false => rfl
        | true => rw [(hgt.gl hg).2]; rfl
      simp only [hgf, Bool.true_and, Bool.and_true, Bool.and_eq_true, decide_eq_true_eq]
      exact ⟨by omega, h1⟩
    · have hwt : isN t.waits = false := by simpa using hc
      obtain ⟨hlt, hwo, hk12, hk17⟩ := hgt.wl hwt
      have ha1 := hgt.atn hlt
      have ha0 := hgt.at0
      have hlv := (hgt.ops t.at_.toNat (by omega)).lv
      have hlast : t.at_ + 1 < t.nops := by
        have : ¬ t.at_.toNat + 1 = t.nops := fun e => by have := hlv.2 e; omega
        omega
      repeat' (first
    | refine run_seq ?_
    | refine run_skip ?_
    | (refine run_region fun K hK => ?_; (try (simp (maxSteps := 10000000) only [microL, gotL, wantL, want0, coreB, coreL, codeLa, gotsBk, C4r0, C4r1, C4r2, C4r3, C4r4, C4r5, C4r6, C4r7, C4r8, C4r9, C4r10, C4r11, C4r12, C4r13, C4r14, C4r15, C4r16, C4r18, C4r19, C4r20, C4r21, C4r22, C4r23, C4r24, rwp_nil, rwp_cons, rwpK_app, aop, gpath, St.get, slotAt, sfx, eqP, segsOf, St.put, addBlk, getB, setB, delB, ld1, ldn, st1, stn, setRow, rowNeed, segAt, nsub, bin, un, eqB, isShift, sameK, arith, shiftR, getsl, selB_or, selB_and, beqb, shed, addN, Nat.beq, Seg.size, sizes, imp, needP, andN, appL, argsOf, ptrsOf, aasOf, cut, takeS, dropS, putS, partsOf, fillS, fieldOf, nthA, negIf, nilq, nilB, eqS, eqF, eqS1, andP, kin, slcS, strOk, plusA, bndHi, leN, optG, roH, roL, initT, exOk, exAll, wrAddr, Nat.reduceAdd, Nat.reduceSub, Nat.reduceMul, Int.reduceToNat, List.append_nil, List.nil_append, List.cons_append, eqT, idxT, cat, cpy, ite_int, ite_bool, ite_seg, ite_segs, ite_nil, ite_twice, Int.toNat_natCast, app, addBs])); (repeat (first | (refine And.intro ?_ ?_; · omega))); with_reducible refine hK _ ?_; clear hK K)
    | (refine run_cond rfl (fun hc => ?_) (fun hc => ?_) <;> try (simp only [*, Bool.true_eq_false, Bool.false_eq_true, Bool.not_true, Bool.not_false, Bool.true_or, Bool.or_true, Bool.false_or, Bool.or_false, Bool.false_and, Bool.and_false, bne_self_eq_false, beq_self_eq_true] at hc; done))
    | refine run_block ?_
    | refine run_ret ?_
    | refine run_nil ?_
    | refine run_exit ?_
    | refine blk_normal ?_
    | refine blk_ret ?_
    | refine blk_here ?_
    | refine blk_there rfl ?_
    | refine loop_exit ?_
    | refine loop_ret ?_
    | refine un_exit ?_
    | refine un_ret ?_
    | refine unE_exit ?_
    | refine unE_ret ?_
    | refine un_normal ?_)
      · exfalso
        rcases hwo with ⟨hk, ha⟩ | hk | hk
        · rcases hk with hk | hk | hk | hk <;> simp [hk, ha] at hc
        · simp [hk] at hc
        · simp [hk] at hc
      clear hc
      repeat' (first
    | refine run_seq ?_
    | refine run_skip ?_
    | (refine run_region fun K hK => ?_; (try (simp (maxSteps := 10000000) only [microL, gotL, wantL, want0, coreB, coreL, codeLa, gotsBk, C4r0, C4r1, C4r2, C4r3, C4r4, C4r5, C4r6, C4r7, C4r8, C4r9, C4r10, C4r11, C4r12, C4r13, C4r14, C4r15, C4r16, C4r17, C4r18, C4r19, C4r20, C4r22, C4r23, C4r24, rwp_nil, rwp_cons, rwpK_app, aop, gpath, St.get, slotAt, sfx, eqP, segsOf, St.put, addBlk, getB, setB, delB, ld1, ldn, st1, stn, setRow, rowNeed, segAt, nsub, bin, un, eqB, isShift, sameK, arith, shiftR, getsl, selB_or, selB_and, beqb, shed, addN, Nat.beq, Seg.size, sizes, imp, needP, andN, appL, argsOf, ptrsOf, aasOf, cut, takeS, dropS, putS, partsOf, fillS, fieldOf, nthA, negIf, nilq, nilB, eqS, eqF, eqS1, andP, kin, slcS, strOk, plusA, bndHi, leN, optG, roH, roL, initT, exOk, exAll, wrAddr, Nat.reduceAdd, Nat.reduceSub, Nat.reduceMul, Int.reduceToNat, List.append_nil, List.nil_append, List.cons_append, eqT, idxT, cat, cpy, ite_int, ite_bool, ite_seg, ite_segs, ite_nil, ite_twice, Int.toNat_natCast, app, addBs])); (repeat (first | (refine And.intro ?_ ?_; · (simp at hc; omega)))); with_reducible refine hK _ ?_; clear hK K)
    | (refine run_cond rfl (fun hc => ?_) (fun hc => ?_) <;> try (simp only [*, Bool.true_eq_false, Bool.false_eq_true, Bool.not_true, Bool.not_false, Bool.true_or, Bool.or_true, Bool.false_or, Bool.or_false, Bool.false_and, Bool.and_false, bne_self_eq_false, beq_self_eq_true] at hc; done))
    | refine run_block ?_
    | refine run_ret ?_
    | refine run_nil ?_
    | refine run_exit ?_
    | refine blk_normal ?_
    | refine blk_ret ?_
    | refine blk_here ?_
    | refine blk_there rfl ?_
    | refine loop_exit ?_
    | refine loop_ret ?_
    | refine un_exit ?_
    | refine un_ret ?_
    | refine unE_exit ?_
    | refine unE_ret ?_
    | refine un_normal ?_)
      · obtain ⟨hgk, hka, hkn⟩ := took_good hgt hwt (gs i)
        repeat' (first
    | refine run_seq ?_
    | refine run_skip ?_
    | (refine run_region fun K hK => ?_; (try (simp (maxSteps := 10000000) only [microL, gotL, wantL, want0, coreB, coreL, codeLa, gotsBk, C4r0, C4r1, C4r2, C4r3, C4r4, C4r5, C4r6, C4r7, C4r8, C4r9, C4r10, C4r11, C4r12, C4r13, C4r14, C4r15, C4r16, C4r17, C4r18, C4r19, C4r20, C4r21, C4r22, C4r23, C4r24, rwp_nil, rwp_cons, rwpK_app, aop, gpath, St.get, slotAt, sfx, eqP, segsOf, St.put, addBlk, getB, setB, delB, ld1, ldn, st1, stn, setRow, rowNeed, segAt, nsub, bin, un, eqB, isShift, sameK, arith, shiftR, getsl, selB_or, selB_and, beqb, shed, addN, Nat.beq, Seg.size, sizes, imp, needP, andN, appL, argsOf, ptrsOf, aasOf, cut, takeS, dropS, putS, partsOf, fillS, fieldOf, nthA, negIf, nilq, nilB, eqS, eqF, eqS1, andP, kin, slcS, strOk, plusA, bndHi, leN, optG, roH, roL, initT, exOk, exAll, wrAddr, Nat.reduceAdd, Nat.reduceSub, Nat.reduceMul, Int.reduceToNat, List.append_nil, List.nil_append, List.cons_append, eqT, idxT, cat, cpy, ite_int, ite_bool, ite_seg, ite_segs, ite_nil, ite_twice, Int.toNat_natCast, app, addBs])); (repeat (first | (refine And.intro ?_ ?_; · omega) | ((first | (refine call_t _ (run_at (con14 t (gs i) hgt hwt) 4 5 6 _ _ _ rfl rfl rfl (by decide) (by decide) (by decide) (Nat.le_of_ble_eq_true rfl) (Nat.le_of_ble_eq_true rfl) (Nat.le_of_ble_eq_true rfl) (by simp [keysLt]) (by simp only [me, gotL, leArgs, leV, leV1, leSegs, leSeg, leC, leA, nthO, and_self]) rfl) ?_; rintro v H' ⟨rfl, rfl⟩) | refine call_q _ (run_at (con14 t (gs i) hgt hwt) 4 5 6 _ _ _ rfl rfl rfl (by decide) (by decide) (by decide) (Nat.le_of_ble_eq_true rfl) (Nat.le_of_ble_eq_true rfl) (Nat.le_of_ble_eq_true rfl) (by simp [keysLt]) (by simp only [me, gotL, leArgs, leV, leV1, leSegs, leSeg, leC, leA, nthO, and_self]) rfl) ?_ | refine call_g _ (imp_of (run_at (con14 t (gs i) hgt hwt) 4 5 6 _ _ _ rfl rfl rfl (by decide) (by decide) (by decide) (Nat.le_of_ble_eq_true rfl) (Nat.le_of_ble_eq_true rfl) (Nat.le_of_ble_eq_true rfl) (by simp [keysLt]) (by simp only [me, gotL, leArgs, leV, leV1, leSegs, leSeg, leC, leA, nthO, and_self]) rfl)) ?_); simp (maxSteps := 10000000) only [microL, gotL, wantL, want0, coreB, coreL, codeLa, gotsBk, C4r0, C4r1, C4r2, C4r3, C4r4, C4r5, C4r6, C4r7, C4r8, C4r9, C4r10, C4r11, C4r12, C4r13, C4r14, C4r15, C4r16, C4r17, C4r18, C4r19, C4r20, C4r21, C4r22, C4r23, C4r24, rwp_nil, rwp_cons, rwpK_app, aop, gpath, St.get, slotAt, sfx, eqP, segsOf, St.put, addBlk, getB, setB, delB, ld1, ldn, st1, stn, setRow, rowNeed, segAt, nsub, bin, un, eqB, isShift, sameK, arith, shiftR, getsl, selB_or, selB_and, beqb, shed, addN, Nat.beq, Seg.size, sizes, imp, needP, andN, appL, argsOf, ptrsOf, aasOf, cut, takeS, dropS, putS, partsOf, fillS, fieldOf, nthA, negIf, nilq, nilB, eqS, eqF, eqS1, andP, kin, slcS, strOk, plusA, bndHi, leN, optG, roH, roL, initT, exOk, exAll, wrAddr, Nat.reduceAdd, Nat.reduceSub, Nat.reduceMul, Int.reduceToNat, List.append_nil, List.nil_append, List.cons_append, eqT, idxT, cat, cpy, ite_int, ite_bool, ite_seg, ite_segs, ite_nil, ite_twice, Int.toNat_natCast, app, addBs]))); with_reducible refine hK _ ?_; clear hK K)
    | (refine run_cond rfl (fun hc => ?_) (fun hc => ?_) <;> try (simp only [*, Bool.true_eq_false, Bool.false_eq_true, Bool.not_true, Bool.not_false, Bool.true_or, Bool.or_true, Bool.false_or, Bool.or_false, Bool.false_and, Bool.and_false, bne_self_eq_false, beq_self_eq_true] at hc; done))
    | refine run_block ?_
    | refine run_ret ?_
    | refine run_nil ?_
    | refine run_exit ?_
    | refine blk_normal ?_
    | refine blk_ret ?_
    | refine blk_here ?_
    | refine blk_there rfl ?_
    | refine loop_exit ?_
    | refine loop_ret ?_
    | refine un_exit ?_
    | refine un_ret ?_
    | refine unE_exit ?_
    | refine unE_ret ?_
    | refine un_normal ?_)
        have hw1 : IntKind.i64.wrap (w + 1) = w + 1 := wrap64 (by omega) (by omega)
        have hw2 : IntKind.i64.wrap ((i : Int) + 1) = ((i + 1 : Nat) : Int) := by rw [wrap64 (by omega) (by omega)]; omega
        rw [hw1, hw2]
        exact loop_normal (n - 1) (endSt c k ng gs (i + 1) (tookS t (gs i)) (w + 1)) (by omega) (le_end _ _ _ rfl rfl rfl rfl rfl rfl rfl rfl rfl rfl rfl rfl rfl rfl) ⟨i + 1, _, _, rfl, hgk, by omega, by omega, by omega, by omega, by omega, by omega⟩
      · obtain ⟨hgk, hka, hkn⟩ := took_good hgt hwt ⟨0, false, 0⟩
        repeat' (first
    | refine run_seq ?_
    | refine run_skip ?_
    | (refine run_region fun K hK => ?_; (try (simp (maxSteps := 10000000) only [microL, gotL, wantL, want0, coreB, coreL, codeLa, gotsBk, C4r0, C4r1, C4r2, C4r3, C4r4, C4r5, C4r6, C4r7, C4r8, C4r9, C4r10, C4r11, C4r12, C4r13, C4r14, C4r15, C4r16, C4r17, C4r18, C4r19, C4r20, C4r21, C4r22, C4r23, C4r24, rwp_nil, rwp_cons, rwpK_app, aop, gpath, St.get, slotAt, sfx, eqP, segsOf, St.put, addBlk, getB, setB, delB, ld1, ldn, st1, stn, setRow, rowNeed, segAt, nsub, bin, un, eqB, isShift, sameK, arith, shiftR, getsl, selB_or, selB_and, beqb, shed, addN, Nat.beq, Seg.size, sizes, imp, needP, andN, appL, argsOf, ptrsOf, aasOf, cut, takeS, dropS, putS, partsOf, fillS, fieldOf, nthA, negIf, nilq, nilB, eqS, eqF, eqS1, andP, kin, slcS, strOk, plusA, bndHi, leN, optG, roH, roL, initT, exOk, exAll, wrAddr, Nat.reduceAdd, Nat.reduceSub, Nat.reduceMul, Int.reduceToNat, List.append_nil, List.nil_append, List.cons_append, eqT, idxT, cat, cpy, ite_int, ite_bool, ite_seg, ite_segs, ite_nil, ite_twice, Int.toNat_natCast, app, addBs])); (repeat (first | (refine And.intro ?_ ?_; · omega) | ((first | (refine call_t _ (run_at (con14 t ⟨0, false, 0⟩ hgt hwt) 4 5 6 _ _ _ rfl rfl rfl (by decide) (by decide) (by decide) (Nat.le_of_ble_eq_true rfl) (Nat.le_of_ble_eq_true rfl) (Nat.le_of_ble_eq_true rfl) (by simp [keysLt]) (by simp only [me, gotL, leArgs, leV, leV1, leSegs, leSeg, leC, leA, nthO, and_self]) rfl) ?_; rintro v H' ⟨rfl, rfl⟩) | refine call_q _ (run_at (con14 t ⟨0, false, 0⟩ hgt hwt) 4 5 6 _ _ _ rfl rfl rfl (by decide) (by decide) (by decide) (Nat.le_of_ble_eq_true rfl) (Nat.le_of_ble_eq_true rfl) (Nat.le_of_ble_eq_true rfl) (by simp [keysLt]) (by simp only [me, gotL, leArgs, leV, leV1, leSegs, leSeg, leC, leA, nthO, and_self]) rfl) ?_ | refine call_g _ (imp_of (run_at (con14 t ⟨0, false, 0⟩ hgt hwt) 4 5 6 _ _ _ rfl rfl rfl (by decide) (by decide) (by decide) (Nat.le_of_ble_eq_true rfl) (Nat.le_of_ble_eq_true rfl) (Nat.le_of_ble_eq_true rfl) (by simp [keysLt]) (by simp only [me, gotL, leArgs, leV, leV1, leSegs, leSeg, leC, leA, nthO, and_self]) rfl)) ?_); simp (maxSteps := 10000000) only [microL, gotL, wantL, want0, coreB, coreL, codeLa, gotsBk, C4r0, C4r1, C4r2, C4r3, C4r4, C4r5, C4r6, C4r7, C4r8, C4r9, C4r10, C4r11, C4r12, C4r13, C4r14, C4r15, C4r16, C4r17, C4r18, C4r19, C4r20, C4r21, C4r22, C4r23, C4r24, rwp_nil, rwp_cons, rwpK_app, aop, gpath, St.get, slotAt, sfx, eqP, segsOf, St.put, addBlk, getB, setB, delB, ld1, ldn, st1, stn, setRow, rowNeed, segAt, nsub, bin, un, eqB, isShift, sameK, arith, shiftR, getsl, selB_or, selB_and, beqb, shed, addN, Nat.beq, Seg.size, sizes, imp, needP, andN, appL, argsOf, ptrsOf, aasOf, cut, takeS, dropS, putS, partsOf, fillS, fieldOf, nthA, negIf, nilq, nilB, eqS, eqF, eqS1, andP, kin, slcS, strOk, plusA, bndHi, leN, optG, roH, roL, initT, exOk, exAll, wrAddr, Nat.reduceAdd, Nat.reduceSub, Nat.reduceMul, Int.reduceToNat, List.append_nil, List.nil_append, List.cons_append, eqT, idxT, cat, cpy, ite_int, ite_bool, ite_seg, ite_segs, ite_nil, ite_twice, Int.toNat_natCast, app, addBs]))); with_reducible refine hK _ ?_; clear hK K)
    | (refine run_cond rfl (fun hc => ?_) (fun hc => ?_) <;> try (simp only [*, Bool.true_eq_false, Bool.false_eq_true, Bool.not_true, Bool.not_false, Bool.true_or, Bool.or_true, Bool.false_or, Bool.or_false, Bool.false_and, Bool.and_false, bne_self_eq_false, beq_self_eq_true] at hc; done))
    | refine run_block ?_
    | refine run_ret ?_
    | refine run_nil ?_
    | refine run_exit ?_
    | refine blk_normal ?_
    | refine blk_ret ?_
    | refine blk_here ?_
    | refine blk_there rfl ?_
    | refine loop_exit ?_
    | refine loop_ret ?_
    | refine un_exit ?_
    | refine un_ret ?_
    | refine unE_exit ?_
    | refine unE_ret ?_
    | refine un_normal ?_)
        have hw1 : IntKind.i64.wrap (w + 1) = w + 1 := wrap64 (by omega) (by omega)
        have hw2 : IntKind.i64.wrap ((i : Int) + 1) = ((i + 1 : Nat) : Int) := by rw [wrap64 (by omega) (by omega)]; omega
        rw [hw1, hw2]
        exact loop_normal (n - 1) (endSt c k ng gs (i + 1) (tookS t ⟨0, false, 0⟩) (w + 1)) (by omega) (le_end _ _ _ rfl rfl rfl rfl rfl rfl rfl rfl rfl rfl rfl rfl rfl rfl) ⟨i + 1, _, _, rfl, hgk, by omega, by omega, by omega, by omega, by omega, by omega⟩
  · rename_i he
    obtain ⟨rfl, rfl⟩ := h
    simp (maxSteps := 10000000) only [microL, gotL, wantL, want0, C4r0, C4r1, C4r2, C4r3, C4r4, C4r5, C4r6, C4r7, C4r8, C4r9, C4r10, C4r11, C4r12, C4r13, C4r14, C4r15, C4r16, C4r17, C4r18, C4r19, C4r20, C4r21, C4r22, C4r23, C4r24, rwp_nil, rwp_cons, rwpK_app, aop, gpath, St.get, slotAt, sfx, eqP, segsOf, St.put, addBlk, getB, setB, delB, ld1, ldn, st1, stn, setRow, rowNeed, segAt, nsub, bin, un, eqB, isShift, sameK, arith, shiftR, getsl, selB_or, selB_and, beqb, shed, addN, Nat.beq, Seg.size, sizes, imp, needP, andN, appL, argsOf, ptrsOf, aasOf, cut, takeS, dropS, putS, partsOf, fillS, fieldOf, nthA, negIf, nilq, nilB, eqS, eqF, eqS1, andP, kin, slcS, strOk, plusA, bndHi, leN, optG, roH, roL, initT, exOk, exAll, wrAddr, Nat.reduceAdd, Nat.reduceSub, Nat.reduceMul, Int.reduceToNat, List.append_nil, List.nil_append, List.cons_append, eqT, idxT, cat, cpy, ite_int, ite_bool, ite_seg, ite_segs, ite_nil, ite_twice, Int.toNat_natCast, app, addBs]
    refine hK _ ?_
    clear hK K
    repeat' (first
    | refine run_seq ?_
    | refine run_skip ?_
    | (refine run_region fun K hK => ?_; (try (simp (maxSteps := 10000000) only [microL, gotL, wantL, want0, C4r0, C4r1, C4r2, C4r3, C4r4, C4r5, C4r6, C4r7, C4r8, C4r9, C4r10, C4r11, C4r12, C4r13, C4r14, C4r15, C4r16, C4r17, C4r18, C4r19, C4r20, C4r21, C4r22, C4r23, C4r24, rwp_nil, rwp_cons, rwpK_app, aop, gpath, St.get, slotAt, sfx, eqP, segsOf, St.put, addBlk, getB, setB, delB, ld1, ldn, st1, stn, setRow, rowNeed, segAt, nsub, bin, un, eqB, isShift, sameK, arith, shiftR, getsl, selB_or, selB_and, beqb, shed, addN, Nat.beq, Seg.size, sizes, imp, needP, andN, appL, argsOf, ptrsOf, aasOf, cut, takeS, dropS, putS, partsOf, fillS, fieldOf, nthA, negIf, nilq, nilB, eqS, eqF, eqS1, andP, kin, slcS, strOk, plusA, bndHi, leN, optG, roH, roL, initT, exOk, exAll, wrAddr, Nat.reduceAdd, Nat.reduceSub, Nat.reduceMul, Int.reduceToNat, List.append_nil, List.nil_append, List.cons_append, eqT, idxT, cat, cpy, ite_int, ite_bool, ite_seg, ite_segs, ite_nil, ite_twice, Int.toNat_natCast, app, addBs])); (repeat (first | (refine And.intro ?_ ?_; · omega))); with_reducible refine hK _ ?_; clear hK K)
    | (refine run_cond rfl (fun hc => ?_) (fun hc => ?_) <;> try (simp only [*, Bool.true_eq_false, Bool.false_eq_true, Bool.not_true, Bool.not_false, Bool.true_or, Bool.or_true, Bool.false_or, Bool.or_false, Bool.false_and, Bool.and_false, bne_self_eq_false, beq_self_eq_true] at hc; done))
    | refine run_block ?_
    | refine run_ret ?_
    | refine run_nil ?_
    | refine run_exit ?_
    | refine blk_normal ?_
    | refine blk_ret ?_
    | refine blk_here ?_
    | refine blk_there rfl ?_
    | refine loop_exit ?_
    | refine loop_ret ?_
    | refine un_exit ?_
    | refine un_ret ?_
    | refine unE_exit ?_
    | refine unE_ret ?_
    | refine un_normal ?_)
    · subst hR
      exact end_law rfl rfl true rfl ⟨rfl, rfl⟩
    · exfalso; simp at hc; exact he hc
end Go.Proofs.Yteikpddilabppaa
