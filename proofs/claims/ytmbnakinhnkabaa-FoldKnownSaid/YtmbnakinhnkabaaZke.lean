/- FoldKnown: for every Core, every int and every two uint64, understudylaw18.FoldKnown answers true and its arguments read behind the call as before; no condition. -/
import Derived.Test.YtmbnakinhnkabaaZkd
namespace Go.Proofs.Ytmbnakinhnkabaa
open Go.AM
set_option maxRecDepth 100000
set_option linter.unusedSimpArgs false
set_option linter.unusedVariables false
def chgS (b : BlkS) : Bool := !(eqOps (stepS b).m b.n (stepS b).f b.f)
def sfT (i n : Nat) : List Slot := [⟨24, [], .c (.int .i64 i)⟩, ⟨23, [], .c (.int .i64 n)⟩, ⟨22, [], .c (.slice ⟨0, 0, 0, 0⟩ false n)⟩, ⟨5, [], .c (.ptr ⟨4, 0, 0, 0⟩)⟩, ⟨2, [], .c (.ptr ⟨2, 0, 0, 0⟩)⟩, ⟨1, [], .c (.ptr ⟨1, 0, 0, 0⟩)⟩]
def sfH (s : PS) : List (Nat × Blk) := [(4, passB 0 3 5 6 s true), (3, knB s), (5, opsW s.m s.f), (6, atB s.na s.a), (2, zblk), (1, blkB s.b 0), (0, opsB s.b.n s.b.f)]
def stF (s : PS) (i : Nat) : St := ⟨sfT i s.b.n, ⟨7, sfH s⟩⟩
def opBox (o : OpS) : Blk := ⟨6, none, fun _ => opL o, 39, true⟩
def stPo (s : PS) (o : OpS) (d : Bool) : St := ⟨⟨43, [], .c (.bool d)⟩ :: ⟨7, [], .c (.ptr ⟨7, 0, 0, 0⟩)⟩ :: sfT s.na s.b.n, ⟨8, (7, opBox o) :: sfH s⟩⟩
def stE (s : PS) (i : Nat) (e : Bool) : St := ⟨⟨69, [], .c (.bool e)⟩ :: sfT i s.b.n, ⟨7, sfH s⟩⟩
theorem opk_leG {l : List Nat} (o : OpS) : leB l ⟨6, none, fun _ => opL o, 39, true⟩ (opBox o) := ⟨rfl, rfl, id, Nat.le_refl _, fun _ _ => by simp only [opBox, opL, leSegs, leSeg, leC, and_self]⟩
theorem atApp_le {l : List Nat} (m : Nat) (a : Nat → Int) (v : Int) : leB l ⟨1, some (m + 1), rowsApp ⟨1, some m, fun i => [.c (.int .i64 (a i))], 3, true⟩ m ⟨1, some 1, fun _ => [.c (.int .i64 v)], 3, true⟩ 0, 3, true⟩ (atB (m + 1) (fun i => if i < m then a i else v)) := ⟨rfl, rfl, id, Nat.le_refl _, fun i _ => by
  show leSegs _ (rowsApp _ _ _ _ i) [.c (.int .i64 (if i < m then a i else v))]
  unfold rowsApp
  split <;> simp only [leSegs, leSeg, leC, and_self]⟩
def stepTail : ACode := .seq (.region C26r12)
         (.seq (.region C26r13)
         (.seq (.region C26r14)
         (.cond (.t 69)
          (.exit 0)
          (.skip))))
theorem idtF {l : List Nat} : ∀ i, i < 1 → nthO (0 :: l) i = some i := by
  intro i h; match i, h with
  | 0, _ => rfl
set_option maxHeartbeats 8000000 in
theorem step_tail (s : PS) (h : PsOk s) (hlt : s.na < s.b.n) (d : Bool) {Q : AEx → St → Prop} (hN : (nextP s).e = false → Q .normal (stE (afterP s) s.na false)) (hE : (nextP s).e = true → Q (.exit 0) (stE (afterP s) s.na true)) :
    runA (Con Try.prog) (LeS 1) [stepTail] (stPo s (reO s (s.b.f s.na)) d) Q := by
  have ho := nextP_ok h hlt
  have hn := right_n h.r
  have hc48 := con48 s (reO s (s.b.f s.na)) (h.fit hlt)
  have hm := ho.m
  have hmm := h.m
  have hrna := ho.na
  have hrb := ho.b
  unfold afterP at hN hE
  change Con Try.prog 48 [me, .agg (opL (reO s (s.b.f s.na)))] (passH s) (fun u H' => u = retOne (nextP s) ∧ H' = oneH (nextP s)) at hc48
  generalize reO s (s.b.f s.na) = o at *
  generalize nextP s = r at *
  obtain ⟨⟨rb, rm, rf, rna, ra, rkn, rkk, rkr, rkv⟩, rv, re, rl⟩ := r
  simp only at *
  subst hrb hrna
  unfold oneH at hc48
  simp only at hc48
  unfold stepTail stPo sfT sfH
  cases rl with
  | true =>
    simp only [if_true] at hc48 hm
    repeat' (first | refine run_seq ?_ | refine run_skip ?_ | (refine run_region fun K hK => ?_; (try (simp (maxSteps := 10000000) only [opBox, opL, passB, passL, knB, opsW, atB, opsB, blkB, blkL, zblk, retOne, partsOf, fillS, repl, rowsFit, rowFn, cutD, C26r0, C26r1, C26r2, C26r3, C26r4, C26r5, C26r6, C26r7, C26r8, C26r9, C26r10, C26r11, C26r12, C26r13, C26r15, C26r16, C26r17, C26r18, rwp_nil, rwp_cons, rwpK_app, aop, gpath, St.get, slotAt, sfx, eqP, segsOf, St.put, addBlk, getB, setB, delB, ld1, ldn, st1, stn, setRow, rowNeed, segAt, nsub, bin, un, eqB, isShift, sameK, arith, shiftR, getsl, selB_or, selB_and, beqb, shed, addN, Nat.beq, Seg.size, sizes, imp, needP, andN, appL, argsOf, ptrsOf, aasOf, cut, takeS, dropS, putS, partsOf, fillS, fieldOf, nthA, negIf, nilq, nilB, eqS, eqF, eqS1, andP, kin, slcS, strOk, plusA, bndHi, leN, optG, roH, roL, initT, exOk, exAll, wrAddr, Nat.reduceAdd, Nat.reduceSub, Nat.reduceMul, Int.reduceToNat, List.append_nil, List.nil_append, List.cons_append, mapR, mapR1, keyL, keyOk, keyP, colsPut, colsDel, zcols, eqT, idxT, cat, cpy, ite_int, ite_bool, ite_seg, ite_segs, ite_nil, ite_twice, Int.toNat_natCast, app, addBs, tob])); (repeat (first | (refine And.intro ?_ ?_; · (first | trivial | assumption | omega | exact ⟨by omega, by omega⟩ | exact ⟨by omega, by omega, by omega⟩ | exact ⟨trivial, by omega, by omega⟩ | (intros; first | trivial | assumption | omega | exact ⟨by omega, by omega⟩))) | ((first | (refine call_t _ (pass_at' hc48 (fun l => by simp only [opL, leArgs, leV, leV1, leSegs, leSeg, leC, and_self]) (fun g => rfl) 4 0 3 5 6 8 _ _ (by simp only [diff, notIn, Nat.beq, and_self]) rfl rfl rfl rfl rfl (by simp [allLt]) (by simp [keysLt])) ?_; rintro v H' ⟨rfl, rfl⟩) | refine call_q _ (pass_at' hc48 (fun l => by simp only [opL, leArgs, leV, leV1, leSegs, leSeg, leC, and_self]) (fun g => rfl) 4 0 3 5 6 8 _ _ (by simp only [diff, notIn, Nat.beq, and_self]) rfl rfl rfl rfl rfl (by simp [allLt]) (by simp [keysLt])) ?_ | refine call_g _ (imp_of (pass_at' hc48 (fun l => by simp only [opL, leArgs, leV, leV1, leSegs, leSeg, leC, and_self]) (fun g => rfl) 4 0 3 5 6 8 _ _ (by simp only [diff, notIn, Nat.beq, and_self]) rfl rfl rfl rfl rfl (by simp [allLt]) (by simp [keysLt]))) ?_); simp (maxSteps := 10000000) only [opBox, opL, passB, passL, knB, opsW, atB, opsB, blkB, blkL, zblk, retOne, partsOf, fillS, repl, rowsFit, rowFn, cutD, C26r0, C26r1, C26r2, C26r3, C26r4, C26r5, C26r6, C26r7, C26r8, C26r9, C26r10, C26r11, C26r12, C26r13, C26r15, C26r16, C26r17, C26r18, rwp_nil, rwp_cons, rwpK_app, aop, gpath, St.get, slotAt, sfx, eqP, segsOf, St.put, addBlk, getB, setB, delB, ld1, ldn, st1, stn, setRow, rowNeed, segAt, nsub, bin, un, eqB, isShift, sameK, arith, shiftR, getsl, selB_or, selB_and, beqb, shed, addN, Nat.beq, Seg.size, sizes, imp, needP, andN, appL, argsOf, ptrsOf, aasOf, cut, takeS, dropS, putS, partsOf, fillS, fieldOf, nthA, negIf, nilq, nilB, eqS, eqF, eqS1, andP, kin, slcS, strOk, plusA, bndHi, leN, optG, roH, roL, initT, exOk, exAll, wrAddr, Nat.reduceAdd, Nat.reduceSub, Nat.reduceMul, Int.reduceToNat, List.append_nil, List.nil_append, List.cons_append, mapR, mapR1, keyL, keyOk, keyP, colsPut, colsDel, zcols, eqT, idxT, cat, cpy, ite_int, ite_bool, ite_seg, ite_segs, ite_nil, ite_twice, Int.toNat_natCast, app, addBs, tob]))); with_reducible refine hK _ ?_; clear hK K) | (refine run_cond rfl (fun hc => ?_) (fun hc => ?_) <;> try (simp only [*, Bool.true_eq_false, Bool.false_eq_true, Bool.not_true, Bool.not_false, Bool.true_or, Bool.or_true, Bool.false_or, Bool.or_false, Bool.false_and, Bool.and_false, bne_self_eq_false, beq_self_eq_true] at hc; done)) | refine run_block ?_ | refine run_ret ?_ | refine run_nil ?_ | refine run_exit ?_ | refine blk_normal ?_ | refine blk_ret ?_ | refine blk_here ?_ | refine blk_there rfl ?_ | refine loop_exit ?_ | refine loop_ret ?_ | refine un_exit ?_ | refine un_ret ?_ | refine unE_exit ?_ | refine unE_ret ?_ | refine un_normal ?_)
    (refine run_regionL fun K hK => ?_; (try (simp (maxSteps := 10000000) only [opBox, opL, passB, passL, knB, opsW, atB, opsB, blkB, blkL, zblk, retOne, partsOf, fillS, repl, rowsFit, rowFn, cutD, C26r0, C26r1, C26r2, C26r3, C26r4, C26r5, C26r6, C26r7, C26r8, C26r9, C26r10, C26r11, C26r12, C26r13, C26r14, C26r15, C26r16, C26r17, C26r18, rwp_nil, rwp_cons, rwpK_app, aop, gpath, St.get, slotAt, sfx, eqP, segsOf, St.put, addBlk, getB, setB, delB, ld1, ldn, st1, stn, setRow, rowNeed, segAt, nsub, bin, un, eqB, isShift, sameK, arith, shiftR, getsl, selB_or, selB_and, beqb, shed, addN, Nat.beq, Seg.size, sizes, imp, needP, andN, appL, argsOf, ptrsOf, aasOf, cut, takeS, dropS, putS, partsOf, fillS, fieldOf, nthA, negIf, nilq, nilB, eqS, eqF, eqS1, andP, kin, slcS, strOk, plusA, bndHi, leN, optG, roH, roL, initT, exOk, exAll, wrAddr, Nat.reduceAdd, Nat.reduceSub, Nat.reduceMul, Int.reduceToNat, List.append_nil, List.nil_append, List.cons_append, mapR, mapR1, keyL, keyOk, keyP, colsPut, colsDel, zcols, eqT, idxT, cat, cpy, ite_int, ite_bool, ite_seg, ite_segs, ite_nil, ite_twice, Int.toNat_natCast, app, addBs, tob])); (repeat (first | (refine And.intro ?_ ?_; · first | trivial | assumption | omega))); refine hK _ (stE (atPush ⟨s.b, rm, rf, s.na, ra, rkn, rkk, rkr, rkv⟩ rv) s.na re) (LeS.intro [0, 1, 2, 3, 4, 8, 10] (fun i h => idtF i h) (by simp only [diff, notIn, Nat.beq, and_self]) rfl (by simp only [stE, sfT, atPush, slotsLe, slotAt, Nat.beq, leV, leV1, leC, leA, nthO, Int.natCast_zero, Int.ofNat_zero, and_self]) ⟨pass_le (atPush ⟨s.b, rm, rf, s.na, ra, rkn, rkk, rkr, rkv⟩ rv) 0 3 8 10 0 3 5 6 _ _ id rfl rfl rfl rfl, kn_le ⟨s.b, rm, rf, s.na, ra, rkn, rkk, rkr, rkv⟩, opsw_le _ _ _ (fun _ _ => rfl), atApp_le s.na ra rv, z_le, blk_le' s.b 0 0 rfl, ops_le s.b.n s.b.f false, trivial⟩) ?_; clear hK K)
    refine run_cond rfl (fun hc => ?_) (fun hc => ?_)
    · subst hc
      exact run_exit (hE rfl)
    · subst hc
      exact run_skip (run_nil (hN rfl))
  | false =>
    simp only [Bool.false_eq_true, if_false] at hc48 hm
    repeat' (first | refine run_seq ?_ | refine run_skip ?_ | (refine run_region fun K hK => ?_; (try (simp (maxSteps := 10000000) only [opBox, opL, passB, passL, knB, opsW, atB, opsB, blkB, blkL, zblk, retOne, partsOf, fillS, repl, rowsFit, rowFn, cutD, C26r0, C26r1, C26r2, C26r3, C26r4, C26r5, C26r6, C26r7, C26r8, C26r9, C26r10, C26r11, C26r12, C26r13, C26r15, C26r16, C26r17, C26r18, rwp_nil, rwp_cons, rwpK_app, aop, gpath, St.get, slotAt, sfx, eqP, segsOf, St.put, addBlk, getB, setB, delB, ld1, ldn, st1, stn, setRow, rowNeed, segAt, nsub, bin, un, eqB, isShift, sameK, arith, shiftR, getsl, selB_or, selB_and, beqb, shed, addN, Nat.beq, Seg.size, sizes, imp, needP, andN, appL, argsOf, ptrsOf, aasOf, cut, takeS, dropS, putS, partsOf, fillS, fieldOf, nthA, negIf, nilq, nilB, eqS, eqF, eqS1, andP, kin, slcS, strOk, plusA, bndHi, leN, optG, roH, roL, initT, exOk, exAll, wrAddr, Nat.reduceAdd, Nat.reduceSub, Nat.reduceMul, Int.reduceToNat, List.append_nil, List.nil_append, List.cons_append, mapR, mapR1, keyL, keyOk, keyP, colsPut, colsDel, zcols, eqT, idxT, cat, cpy, ite_int, ite_bool, ite_seg, ite_segs, ite_nil, ite_twice, Int.toNat_natCast, app, addBs, tob])); (repeat (first | (refine And.intro ?_ ?_; · (first | trivial | assumption | omega | exact ⟨by omega, by omega⟩ | exact ⟨by omega, by omega, by omega⟩ | exact ⟨trivial, by omega, by omega⟩ | (intros; first | trivial | assumption | omega | exact ⟨by omega, by omega⟩))) | ((first | (refine call_t _ (pass_at0 hc48 (fun l => by simp only [opL, leArgs, leV, leV1, leSegs, leSeg, leC, and_self]) (fun g => rfl) 4 0 3 5 6 8 _ _ (by simp only [diff, notIn, Nat.beq, and_self]) rfl rfl rfl rfl rfl (by simp [allLt]) (by simp [keysLt])) ?_; rintro v H' ⟨rfl, rfl⟩) | refine call_q _ (pass_at0 hc48 (fun l => by simp only [opL, leArgs, leV, leV1, leSegs, leSeg, leC, and_self]) (fun g => rfl) 4 0 3 5 6 8 _ _ (by simp only [diff, notIn, Nat.beq, and_self]) rfl rfl rfl rfl rfl (by simp [allLt]) (by simp [keysLt])) ?_ | refine call_g _ (imp_of (pass_at0 hc48 (fun l => by simp only [opL, leArgs, leV, leV1, leSegs, leSeg, leC, and_self]) (fun g => rfl) 4 0 3 5 6 8 _ _ (by simp only [diff, notIn, Nat.beq, and_self]) rfl rfl rfl rfl rfl (by simp [allLt]) (by simp [keysLt]))) ?_); simp (maxSteps := 10000000) only [opBox, opL, passB, passL, knB, opsW, atB, opsB, blkB, blkL, zblk, retOne, partsOf, fillS, repl, rowsFit, rowFn, cutD, C26r0, C26r1, C26r2, C26r3, C26r4, C26r5, C26r6, C26r7, C26r8, C26r9, C26r10, C26r11, C26r12, C26r13, C26r15, C26r16, C26r17, C26r18, rwp_nil, rwp_cons, rwpK_app, aop, gpath, St.get, slotAt, sfx, eqP, segsOf, St.put, addBlk, getB, setB, delB, ld1, ldn, st1, stn, setRow, rowNeed, segAt, nsub, bin, un, eqB, isShift, sameK, arith, shiftR, getsl, selB_or, selB_and, beqb, shed, addN, Nat.beq, Seg.size, sizes, imp, needP, andN, appL, argsOf, ptrsOf, aasOf, cut, takeS, dropS, putS, partsOf, fillS, fieldOf, nthA, negIf, nilq, nilB, eqS, eqF, eqS1, andP, kin, slcS, strOk, plusA, bndHi, leN, optG, roH, roL, initT, exOk, exAll, wrAddr, Nat.reduceAdd, Nat.reduceSub, Nat.reduceMul, Int.reduceToNat, List.append_nil, List.nil_append, List.cons_append, mapR, mapR1, keyL, keyOk, keyP, colsPut, colsDel, zcols, eqT, idxT, cat, cpy, ite_int, ite_bool, ite_seg, ite_segs, ite_nil, ite_twice, Int.toNat_natCast, app, addBs, tob]))); with_reducible refine hK _ ?_; clear hK K) | (refine run_cond rfl (fun hc => ?_) (fun hc => ?_) <;> try (simp only [*, Bool.true_eq_false, Bool.false_eq_true, Bool.not_true, Bool.not_false, Bool.true_or, Bool.or_true, Bool.false_or, Bool.or_false, Bool.false_and, Bool.and_false, bne_self_eq_false, beq_self_eq_true] at hc; done)) | refine run_block ?_ | refine run_ret ?_ | refine run_nil ?_ | refine run_exit ?_ | refine blk_normal ?_ | refine blk_ret ?_ | refine blk_here ?_ | refine blk_there rfl ?_ | refine loop_exit ?_ | refine loop_ret ?_ | refine un_exit ?_ | refine un_ret ?_ | refine unE_exit ?_ | refine unE_ret ?_ | refine un_normal ?_)
    (refine run_regionL fun K hK => ?_; (try (simp (maxSteps := 10000000) only [opBox, opL, passB, passL, knB, opsW, atB, opsB, blkB, blkL, zblk, retOne, partsOf, fillS, repl, rowsFit, rowFn, cutD, C26r0, C26r1, C26r2, C26r3, C26r4, C26r5, C26r6, C26r7, C26r8, C26r9, C26r10, C26r11, C26r12, C26r13, C26r14, C26r15, C26r16, C26r17, C26r18, rwp_nil, rwp_cons, rwpK_app, aop, gpath, St.get, slotAt, sfx, eqP, segsOf, St.put, addBlk, getB, setB, delB, ld1, ldn, st1, stn, setRow, rowNeed, segAt, nsub, bin, un, eqB, isShift, sameK, arith, shiftR, getsl, selB_or, selB_and, beqb, shed, addN, Nat.beq, Seg.size, sizes, imp, needP, andN, appL, argsOf, ptrsOf, aasOf, cut, takeS, dropS, putS, partsOf, fillS, fieldOf, nthA, negIf, nilq, nilB, eqS, eqF, eqS1, andP, kin, slcS, strOk, plusA, bndHi, leN, optG, roH, roL, initT, exOk, exAll, wrAddr, Nat.reduceAdd, Nat.reduceSub, Nat.reduceMul, Int.reduceToNat, List.append_nil, List.nil_append, List.cons_append, mapR, mapR1, keyL, keyOk, keyP, colsPut, colsDel, zcols, eqT, idxT, cat, cpy, ite_int, ite_bool, ite_seg, ite_segs, ite_nil, ite_twice, Int.toNat_natCast, app, addBs, tob])); (repeat (first | (refine And.intro ?_ ?_; · first | trivial | assumption | omega))); refine hK _ (stE (atPush ⟨s.b, rm, rf, s.na, ra, rkn, rkk, rkr, rkv⟩ rv) s.na re) (LeS.intro [0, 1, 2, 3, 4, 5, 9] (fun i h => idtF i h) (by simp only [diff, notIn, Nat.beq, and_self]) rfl (by simp only [stE, sfT, atPush, slotsLe, slotAt, Nat.beq, leV, leV1, leC, leA, nthO, Int.natCast_zero, Int.ofNat_zero, and_self]) ⟨pass_le (atPush ⟨s.b, rm, rf, s.na, ra, rkn, rkk, rkr, rkv⟩ rv) 0 3 5 9 0 3 5 6 _ _ id rfl rfl rfl rfl, kn_le ⟨s.b, rm, rf, s.na, ra, rkn, rkk, rkr, rkv⟩, opsw_le _ _ _ (fun _ _ => rfl), atApp_le s.na ra rv, z_le, blk_le' s.b 0 0 rfl, ops_le s.b.n s.b.f false, trivial⟩) ?_; clear hK K)
    refine run_cond rfl (fun hc => ?_) (fun hc => ?_)
    · subst hc
      exact run_exit (hE rfl)
    · subst hc
      exact run_skip (run_nil (hN rfl))
theorem usesS_two (k : Int) : usesS k ≤ 2 := by
  unfold usesS
  split
  · omega
  · split <;> omega
def stepRest : ACode := (.seq (.region C26r7)
        (.seq (.seq (.region C26r8)
        (.cond (.t 32)
         (.region C26r9)
         (.skip)))
        (.seq (.seq (.region C26r10)
        (.cond (.t 43)
         (.region C26r11)
         (.skip)))
        stepTail)))
set_option maxHeartbeats 8000000 in
theorem step_round (s : PS) (h : PsOk s) (hlt : s.na < s.b.n) (c : Bool) {Q : AEx → St → Prop} (hN : (nextP s).e = false → Q .normal (stE (afterP s) s.na false)) (hE : (nextP s).e = true → Q (.exit 0) (stE (afterP s) s.na true)) :
    runA (Con Try.prog) (LeS 1) [.region C26r6, stepRest] ⟨⟨25, [], .c (.bool c)⟩ :: sfT s.na s.b.n, ⟨7, sfH s⟩⟩ Q := by
  have hn := right_n h.r
  have hu2 := usesS_two (s.b.f s.na).kind
  have hu0 : 0 < usesS (s.b.f s.na).kind → 0 ≤ (s.b.f s.na).a ∧ (s.b.f s.na).a < s.na := fun hu => by
    obtain ⟨h1, h2, _⟩ := right_use h.r hlt (i := 0) hu
    exact ⟨h1, h2⟩
  have hu1 : 1 < usesS (s.b.f s.na).kind → 0 ≤ (s.b.f s.na).b ∧ (s.b.f s.na).b < s.na := fun hu => by
    obtain ⟨h1, h2, _⟩ := right_use h.r hlt (i := 1) hu
    exact ⟨h1, h2⟩
  have htail := fun d => step_tail s h hlt d hN hE
  clear hN hE
  unfold sfT sfH stepRest
  repeat' (first | refine run_seq ?_ | refine run_skip ?_ | (refine run_region fun K hK => ?_; (try (simp (maxSteps := 10000000) only [opBox, opL, passB, passL, knB, opsW, atB, opsB, blkB, blkL, zblk, partsOf, fillS, repl, rowsFit, rowFn, cutD, Int.toNat_natCast, C26r0, C26r1, C26r2, C26r3, C26r4, C26r5, C26r6, C26r7, C26r9, C26r10, C26r11, C26r12, C26r13, C26r14, C26r15, C26r16, C26r17, C26r18, rwp_nil, rwp_cons, rwpK_app, aop, gpath, St.get, slotAt, sfx, eqP, segsOf, St.put, addBlk, getB, setB, delB, ld1, ldn, st1, stn, setRow, rowNeed, segAt, nsub, bin, un, eqB, isShift, sameK, arith, shiftR, getsl, selB_or, selB_and, beqb, shed, addN, Nat.beq, Seg.size, sizes, imp, needP, andN, appL, argsOf, ptrsOf, aasOf, cut, takeS, dropS, putS, partsOf, fillS, fieldOf, nthA, negIf, nilq, nilB, eqS, eqF, eqS1, andP, kin, slcS, strOk, plusA, bndHi, leN, optG, roH, roL, initT, exOk, exAll, wrAddr, Nat.reduceAdd, Nat.reduceSub, Nat.reduceMul, Int.reduceToNat, List.append_nil, List.nil_append, List.cons_append, mapR, mapR1, keyL, keyOk, keyP, colsPut, colsDel, zcols, eqT, idxT, cat, cpy, ite_int, ite_bool, ite_seg, ite_segs, ite_nil, ite_twice, Int.toNat_natCast, app, addBs, tob])); (repeat (first | (refine And.intro ?_ ?_; · (first | trivial | assumption | omega | exact ⟨by omega, by omega⟩ | exact ⟨by omega, by omega, by omega⟩ | exact ⟨trivial, by omega, by omega⟩ | (intros; first | trivial | assumption | omega | exact ⟨by omega, by omega⟩))) | ((first | (refine call_t _ (con21 _ _ _ (by simp [keysLt])) ?_; rintro v H' ⟨rfl, rfl⟩) | refine call_q _ (con21 _ _ _ (by simp [keysLt])) ?_ | refine call_g _ (imp_of (con21 _ _ _ (by simp [keysLt]))) ?_); simp (maxSteps := 10000000) only [opBox, opL, passB, passL, knB, opsW, atB, opsB, blkB, blkL, zblk, partsOf, fillS, repl, rowsFit, rowFn, cutD, Int.toNat_natCast, C26r0, C26r1, C26r2, C26r3, C26r4, C26r5, C26r6, C26r7, C26r9, C26r10, C26r11, C26r12, C26r13, C26r14, C26r15, C26r16, C26r17, C26r18, rwp_nil, rwp_cons, rwpK_app, aop, gpath, St.get, slotAt, sfx, eqP, segsOf, St.put, addBlk, getB, setB, delB, ld1, ldn, st1, stn, setRow, rowNeed, segAt, nsub, bin, un, eqB, isShift, sameK, arith, shiftR, getsl, selB_or, selB_and, beqb, shed, addN, Nat.beq, Seg.size, sizes, imp, needP, andN, appL, argsOf, ptrsOf, aasOf, cut, takeS, dropS, putS, partsOf, fillS, fieldOf, nthA, negIf, nilq, nilB, eqS, eqF, eqS1, andP, kin, slcS, strOk, plusA, bndHi, leN, optG, roH, roL, initT, exOk, exAll, wrAddr, Nat.reduceAdd, Nat.reduceSub, Nat.reduceMul, Int.reduceToNat, List.append_nil, List.nil_append, List.cons_append, mapR, mapR1, keyL, keyOk, keyP, colsPut, colsDel, zcols, eqT, idxT, cat, cpy, ite_int, ite_bool, ite_seg, ite_segs, ite_nil, ite_twice, Int.toNat_natCast, app, addBs, tob]))); with_reducible refine hK _ ?_; clear hK K) | (refine run_cond rfl (fun hc => ?_) (fun hc => ?_) <;> try (simp only [*, Bool.true_eq_false, Bool.false_eq_true, Bool.not_true, Bool.not_false, Bool.true_or, Bool.or_true, Bool.false_or, Bool.or_false, Bool.false_and, Bool.and_false, bne_self_eq_false, beq_self_eq_true] at hc; done)) | refine run_block ?_ | refine run_ret ?_ | refine run_nil ?_ | refine run_exit ?_ | refine blk_normal ?_ | refine blk_ret ?_ | refine blk_here ?_ | refine blk_there rfl ?_ | refine loop_exit ?_ | refine loop_ret ?_ | refine un_exit ?_ | refine un_ret ?_ | refine unE_exit ?_ | refine unE_ret ?_ | refine un_normal ?_)
  by_cases h0 : 0 < usesS (s.b.f s.na).kind
  · have ha := hu0 h0
    repeat' (first | refine run_seq ?_ | refine run_skip ?_ | (refine run_region fun K hK => ?_; (try (simp (maxSteps := 10000000) only [opBox, opL, passB, passL, knB, opsW, atB, opsB, blkB, blkL, zblk, partsOf, fillS, repl, rowsFit, rowFn, cutD, Int.toNat_natCast, C26r0, C26r1, C26r2, C26r3, C26r4, C26r5, C26r6, C26r7, C26r8, C26r11, C26r12, C26r13, C26r14, C26r15, C26r16, C26r17, C26r18, rwp_nil, rwp_cons, rwpK_app, aop, gpath, St.get, slotAt, sfx, eqP, segsOf, St.put, addBlk, getB, setB, delB, ld1, ldn, st1, stn, setRow, rowNeed, segAt, nsub, bin, un, eqB, isShift, sameK, arith, shiftR, getsl, selB_or, selB_and, beqb, shed, addN, Nat.beq, Seg.size, sizes, imp, needP, andN, appL, argsOf, ptrsOf, aasOf, cut, takeS, dropS, putS, partsOf, fillS, fieldOf, nthA, negIf, nilq, nilB, eqS, eqF, eqS1, andP, kin, slcS, strOk, plusA, bndHi, leN, optG, roH, roL, initT, exOk, exAll, wrAddr, Nat.reduceAdd, Nat.reduceSub, Nat.reduceMul, Int.reduceToNat, List.append_nil, List.nil_append, List.cons_append, mapR, mapR1, keyL, keyOk, keyP, colsPut, colsDel, zcols, eqT, idxT, cat, cpy, ite_int, ite_bool, ite_seg, ite_segs, ite_nil, ite_twice, Int.toNat_natCast, app, addBs, tob])); (repeat (first | (refine And.intro ?_ ?_; · (first | trivial | assumption | omega | exact ⟨by omega, by omega⟩ | exact ⟨by omega, by omega, by omega⟩ | exact ⟨trivial, by omega, by omega⟩ | (intros; first | trivial | assumption | omega | exact ⟨by omega, by omega⟩))))); with_reducible refine hK _ ?_; clear hK K) | (refine run_cond rfl (fun hc => ?_) (fun hc => ?_) <;> try (simp only [*, Bool.true_eq_false, Bool.false_eq_true, Bool.not_true, Bool.not_false, Bool.true_or, Bool.or_true, Bool.false_or, Bool.or_false, Bool.false_and, Bool.and_false, bne_self_eq_false, beq_self_eq_true] at hc; done)) | refine run_block ?_ | refine run_ret ?_ | refine run_nil ?_ | refine run_exit ?_ | refine blk_normal ?_ | refine blk_ret ?_ | refine blk_here ?_ | refine blk_there rfl ?_ | refine loop_exit ?_ | refine loop_ret ?_ | refine un_exit ?_ | refine un_ret ?_ | refine unE_exit ?_ | refine unE_ret ?_ | refine un_normal ?_)
    rotate_left
    · exfalso; simp only [decide_eq_false_iff_not] at hc; omega
    clear hc
    repeat' (first | refine run_seq ?_ | refine run_skip ?_ | (refine run_region fun K hK => ?_; (try (simp (maxSteps := 10000000) only [opBox, opL, passB, passL, knB, opsW, atB, opsB, blkB, blkL, zblk, partsOf, fillS, repl, rowsFit, rowFn, cutD, Int.toNat_natCast, C26r0, C26r1, C26r2, C26r3, C26r4, C26r5, C26r6, C26r7, C26r8, C26r9, C26r11, C26r12, C26r13, C26r14, C26r15, C26r16, C26r17, C26r18, rwp_nil, rwp_cons, rwpK_app, aop, gpath, St.get, slotAt, sfx, eqP, segsOf, St.put, addBlk, getB, setB, delB, ld1, ldn, st1, stn, setRow, rowNeed, segAt, nsub, bin, un, eqB, isShift, sameK, arith, shiftR, getsl, selB_or, selB_and, beqb, shed, addN, Nat.beq, Seg.size, sizes, imp, needP, andN, appL, argsOf, ptrsOf, aasOf, cut, takeS, dropS, putS, partsOf, fillS, fieldOf, nthA, negIf, nilq, nilB, eqS, eqF, eqS1, andP, kin, slcS, strOk, plusA, bndHi, leN, optG, roH, roL, initT, exOk, exAll, wrAddr, Nat.reduceAdd, Nat.reduceSub, Nat.reduceMul, Int.reduceToNat, List.append_nil, List.nil_append, List.cons_append, mapR, mapR1, keyL, keyOk, keyP, colsPut, colsDel, zcols, eqT, idxT, cat, cpy, ite_int, ite_bool, ite_seg, ite_segs, ite_nil, ite_twice, Int.toNat_natCast, app, addBs, tob])); (repeat (first | (refine And.intro ?_ ?_; · (first | trivial | assumption | omega | exact ⟨by omega, by omega⟩ | exact ⟨by omega, by omega, by omega⟩ | exact ⟨trivial, by omega, by omega⟩ | (intros; first | trivial | assumption | omega | exact ⟨by omega, by omega⟩))))); with_reducible refine hK _ ?_; clear hK K) | (refine run_cond rfl (fun hc => ?_) (fun hc => ?_) <;> try (simp only [*, Bool.true_eq_false, Bool.false_eq_true, Bool.not_true, Bool.not_false, Bool.true_or, Bool.or_true, Bool.false_or, Bool.or_false, Bool.false_and, Bool.and_false, bne_self_eq_false, beq_self_eq_true] at hc; done)) | refine run_block ?_ | refine run_ret ?_ | refine run_nil ?_ | refine run_exit ?_ | refine blk_normal ?_ | refine blk_ret ?_ | refine blk_here ?_ | refine blk_there rfl ?_ | refine loop_exit ?_ | refine loop_ret ?_ | refine un_exit ?_ | refine un_ret ?_ | refine unE_exit ?_ | refine unE_ret ?_ | refine un_normal ?_)
    by_cases h1 : 1 < usesS (s.b.f s.na).kind
    · have hb := hu1 h1
      have hre : reO s (s.b.f s.na) = { s.b.f s.na with a := s.a (s.b.f s.na).a.toNat, b := s.a (s.b.f s.na).b.toNat } := by simp only [reO, h0, h1, if_true]
      have hd : decide (((usesS (s.b.f s.na).kind : Nat) : Int) > 1) = true := decide_eq_true (by omega)
      repeat' (first | refine run_seq ?_ | refine run_skip ?_ | (refine run_region fun K hK => ?_; (try (simp (maxSteps := 10000000) only [opBox, opL, passB, passL, knB, opsW, atB, opsB, blkB, blkL, zblk, partsOf, fillS, repl, rowsFit, rowFn, cutD, Int.toNat_natCast, C26r0, C26r1, C26r2, C26r3, C26r4, C26r5, C26r6, C26r7, C26r8, C26r9, C26r10, C26r13, C26r14, C26r15, C26r16, C26r17, C26r18, rwp_nil, rwp_cons, rwpK_app, aop, gpath, St.get, slotAt, sfx, eqP, segsOf, St.put, addBlk, getB, setB, delB, ld1, ldn, st1, stn, setRow, rowNeed, segAt, nsub, bin, un, eqB, isShift, sameK, arith, shiftR, getsl, selB_or, selB_and, beqb, shed, addN, Nat.beq, Seg.size, sizes, imp, needP, andN, appL, argsOf, ptrsOf, aasOf, cut, takeS, dropS, putS, partsOf, fillS, fieldOf, nthA, negIf, nilq, nilB, eqS, eqF, eqS1, andP, kin, slcS, strOk, plusA, bndHi, leN, optG, roH, roL, initT, exOk, exAll, wrAddr, Nat.reduceAdd, Nat.reduceSub, Nat.reduceMul, Int.reduceToNat, List.append_nil, List.nil_append, List.cons_append, mapR, mapR1, keyL, keyOk, keyP, colsPut, colsDel, zcols, eqT, idxT, cat, cpy, ite_int, ite_bool, ite_seg, ite_segs, ite_nil, ite_twice, Int.toNat_natCast, app, addBs, tob])); (repeat (first | (refine And.intro ?_ ?_; · (first | trivial | assumption | omega | exact ⟨by omega, by omega⟩ | exact ⟨by omega, by omega, by omega⟩ | exact ⟨trivial, by omega, by omega⟩ | (intros; first | trivial | assumption | omega | exact ⟨by omega, by omega⟩))))); with_reducible refine hK _ ?_; clear hK K) | (refine run_cond rfl (fun hc => ?_) (fun hc => ?_) <;> try (simp only [*, Bool.true_eq_false, Bool.false_eq_true, Bool.not_true, Bool.not_false, Bool.true_or, Bool.or_true, Bool.false_or, Bool.or_false, Bool.false_and, Bool.and_false, bne_self_eq_false, beq_self_eq_true] at hc; done)) | refine run_block ?_ | refine run_ret ?_ | refine run_nil ?_ | refine run_exit ?_ | refine blk_normal ?_ | refine blk_ret ?_ | refine blk_here ?_ | refine blk_there rfl ?_ | refine loop_exit ?_ | refine loop_ret ?_ | refine un_exit ?_ | refine un_ret ?_ | refine unE_exit ?_ | refine unE_ret ?_ | refine un_normal ?_)
      clear hc
      (refine run_regionL fun K hK => ?_; (try (simp (maxSteps := 10000000) only [opBox, opL, passB, passL, knB, opsW, atB, opsB, blkB, blkL, zblk, partsOf, fillS, repl, rowsFit, rowFn, cutD, Int.toNat_natCast, C26r0, C26r1, C26r2, C26r3, C26r4, C26r5, C26r6, C26r7, C26r8, C26r9, C26r10, C26r11, C26r12, C26r13, C26r14, C26r15, C26r16, C26r17, C26r18, rwp_nil, rwp_cons, rwpK_app, aop, gpath, St.get, slotAt, sfx, eqP, segsOf, St.put, addBlk, getB, setB, delB, ld1, ldn, st1, stn, setRow, rowNeed, segAt, nsub, bin, un, eqB, isShift, sameK, arith, shiftR, getsl, selB_or, selB_and, beqb, shed, addN, Nat.beq, Seg.size, sizes, imp, needP, andN, appL, argsOf, ptrsOf, aasOf, cut, takeS, dropS, putS, partsOf, fillS, fieldOf, nthA, negIf, nilq, nilB, eqS, eqF, eqS1, andP, kin, slcS, strOk, plusA, bndHi, leN, optG, roH, roL, initT, exOk, exAll, wrAddr, Nat.reduceAdd, Nat.reduceSub, Nat.reduceMul, Int.reduceToNat, List.append_nil, List.nil_append, List.cons_append, mapR, mapR1, keyL, keyOk, keyP, colsPut, colsDel, zcols, eqT, idxT, cat, cpy, ite_int, ite_bool, ite_seg, ite_segs, ite_nil, ite_twice, Int.toNat_natCast, app, addBs, tob])); (repeat (first | (refine And.intro ?_ ?_; · first | trivial | assumption | omega))); refine hK _ (stPo s (reO s (s.b.f s.na)) true) (LeS.intro [0, 1, 2, 3, 4, 5, 6, 7] (fun i h => idtF i h) (by simp only [diff, notIn, Nat.beq, and_self]) rfl (by simp only [stPo, sfT, hd, slotsLe, slotAt, Nat.beq, leV, leV1, leC, leA, nthO, Int.natCast_zero, Int.ofNat_zero, and_self]) ⟨by rw [hre]; exact opk_leG _, pass_le s 0 3 5 6 0 3 5 6 _ _ id rfl rfl rfl rfl, kn_le s, opsw_le _ _ _ (fun _ _ => rfl), at_le _ _ _ (fun _ _ => rfl), z_le, blk_le' s.b 0 0 rfl, ops_le s.b.n s.b.f false, trivial⟩) ?_; clear hK K)
      exact htail true
    · have hre : reO s (s.b.f s.na) = { s.b.f s.na with a := s.a (s.b.f s.na).a.toNat } := by simp only [reO, h0, h1, if_true, if_false]
      have hd : decide (((usesS (s.b.f s.na).kind : Nat) : Int) > 1) = false := decide_eq_false (by omega)
      (refine run_regionL fun K hK => ?_; (try (simp (maxSteps := 10000000) only [opBox, opL, passB, passL, knB, opsW, atB, opsB, blkB, blkL, zblk, partsOf, fillS, repl, rowsFit, rowFn, cutD, Int.toNat_natCast, C26r0, C26r1, C26r2, C26r3, C26r4, C26r5, C26r6, C26r7, C26r8, C26r9, C26r10, C26r11, C26r12, C26r13, C26r14, C26r15, C26r16, C26r17, C26r18, rwp_nil, rwp_cons, rwpK_app, aop, gpath, St.get, slotAt, sfx, eqP, segsOf, St.put, addBlk, getB, setB, delB, ld1, ldn, st1, stn, setRow, rowNeed, segAt, nsub, bin, un, eqB, isShift, sameK, arith, shiftR, getsl, selB_or, selB_and, beqb, shed, addN, Nat.beq, Seg.size, sizes, imp, needP, andN, appL, argsOf, ptrsOf, aasOf, cut, takeS, dropS, putS, partsOf, fillS, fieldOf, nthA, negIf, nilq, nilB, eqS, eqF, eqS1, andP, kin, slcS, strOk, plusA, bndHi, leN, optG, roH, roL, initT, exOk, exAll, wrAddr, Nat.reduceAdd, Nat.reduceSub, Nat.reduceMul, Int.reduceToNat, List.append_nil, List.nil_append, List.cons_append, mapR, mapR1, keyL, keyOk, keyP, colsPut, colsDel, zcols, eqT, idxT, cat, cpy, ite_int, ite_bool, ite_seg, ite_segs, ite_nil, ite_twice, Int.toNat_natCast, app, addBs, tob])); (repeat (first | (refine And.intro ?_ ?_; · first | trivial | assumption | omega))); refine hK _ (stPo s (reO s (s.b.f s.na)) false) (LeS.intro [0, 1, 2, 3, 4, 5, 6, 7] (fun i h => idtF i h) (by simp only [diff, notIn, Nat.beq, and_self]) rfl (by simp only [stPo, sfT, hd, slotsLe, slotAt, Nat.beq, leV, leV1, leC, leA, nthO, Int.natCast_zero, Int.ofNat_zero, and_self]) ⟨by rw [hre]; exact opk_leG _, pass_le s 0 3 5 6 0 3 5 6 _ _ id rfl rfl rfl rfl, kn_le s, opsw_le _ _ _ (fun _ _ => rfl), at_le _ _ _ (fun _ _ => rfl), z_le, blk_le' s.b 0 0 rfl, ops_le s.b.n s.b.f false, trivial⟩) ?_; clear hK K)
      exact run_cond rfl (fun hc => by cases hc) (fun _ => run_skip (htail false))
  · have h1 : ¬ 1 < usesS (s.b.f s.na).kind := by omega
    have hre : reO s (s.b.f s.na) = s.b.f s.na := by simp only [reO, h0, h1, if_false]
    have hd : decide (((usesS (s.b.f s.na).kind : Nat) : Int) > 1) = false := decide_eq_false (by omega)
    repeat' (first | refine run_seq ?_ | refine run_skip ?_ | (refine run_region fun K hK => ?_; (try (simp (maxSteps := 10000000) only [opBox, opL, passB, passL, knB, opsW, atB, opsB, blkB, blkL, zblk, partsOf, fillS, repl, rowsFit, rowFn, cutD, Int.toNat_natCast, C26r0, C26r1, C26r2, C26r3, C26r4, C26r5, C26r6, C26r7, C26r8, C26r11, C26r12, C26r13, C26r14, C26r15, C26r16, C26r17, C26r18, rwp_nil, rwp_cons, rwpK_app, aop, gpath, St.get, slotAt, sfx, eqP, segsOf, St.put, addBlk, getB, setB, delB, ld1, ldn, st1, stn, setRow, rowNeed, segAt, nsub, bin, un, eqB, isShift, sameK, arith, shiftR, getsl, selB_or, selB_and, beqb, shed, addN, Nat.beq, Seg.size, sizes, imp, needP, andN, appL, argsOf, ptrsOf, aasOf, cut, takeS, dropS, putS, partsOf, fillS, fieldOf, nthA, negIf, nilq, nilB, eqS, eqF, eqS1, andP, kin, slcS, strOk, plusA, bndHi, leN, optG, roH, roL, initT, exOk, exAll, wrAddr, Nat.reduceAdd, Nat.reduceSub, Nat.reduceMul, Int.reduceToNat, List.append_nil, List.nil_append, List.cons_append, mapR, mapR1, keyL, keyOk, keyP, colsPut, colsDel, zcols, eqT, idxT, cat, cpy, ite_int, ite_bool, ite_seg, ite_segs, ite_nil, ite_twice, Int.toNat_natCast, app, addBs, tob])); (repeat (first | (refine And.intro ?_ ?_; · (first | trivial | assumption | omega | exact ⟨by omega, by omega⟩ | exact ⟨by omega, by omega, by omega⟩ | exact ⟨trivial, by omega, by omega⟩ | (intros; first | trivial | assumption | omega | exact ⟨by omega, by omega⟩))))); with_reducible refine hK _ ?_; clear hK K) | (refine run_cond rfl (fun hc => ?_) (fun hc => ?_) <;> try (simp only [*, Bool.true_eq_false, Bool.false_eq_true, Bool.not_true, Bool.not_false, Bool.true_or, Bool.or_true, Bool.false_or, Bool.or_false, Bool.false_and, Bool.and_false, bne_self_eq_false, beq_self_eq_true] at hc; done)) | refine run_block ?_ | refine run_ret ?_ | refine run_nil ?_ | refine run_exit ?_ | refine blk_normal ?_ | refine blk_ret ?_ | refine blk_here ?_ | refine blk_there rfl ?_ | refine loop_exit ?_ | refine loop_ret ?_ | refine un_exit ?_ | refine un_ret ?_ | refine unE_exit ?_ | refine unE_ret ?_ | refine un_normal ?_)
    · exfalso; simp only [decide_eq_true_eq] at hc; omega
    clear hc
    (refine run_regionL fun K hK => ?_; (try (simp (maxSteps := 10000000) only [opBox, opL, passB, passL, knB, opsW, atB, opsB, blkB, blkL, zblk, partsOf, fillS, repl, rowsFit, rowFn, cutD, Int.toNat_natCast, C26r0, C26r1, C26r2, C26r3, C26r4, C26r5, C26r6, C26r7, C26r8, C26r9, C26r10, C26r11, C26r12, C26r13, C26r14, C26r15, C26r16, C26r17, C26r18, rwp_nil, rwp_cons, rwpK_app, aop, gpath, St.get, slotAt, sfx, eqP, segsOf, St.put, addBlk, getB, setB, delB, ld1, ldn, st1, stn, setRow, rowNeed, segAt, nsub, bin, un, eqB, isShift, sameK, arith, shiftR, getsl, selB_or, selB_and, beqb, shed, addN, Nat.beq, Seg.size, sizes, imp, needP, andN, appL, argsOf, ptrsOf, aasOf, cut, takeS, dropS, putS, partsOf, fillS, fieldOf, nthA, negIf, nilq, nilB, eqS, eqF, eqS1, andP, kin, slcS, strOk, plusA, bndHi, leN, optG, roH, roL, initT, exOk, exAll, wrAddr, Nat.reduceAdd, Nat.reduceSub, Nat.reduceMul, Int.reduceToNat, List.append_nil, List.nil_append, List.cons_append, mapR, mapR1, keyL, keyOk, keyP, colsPut, colsDel, zcols, eqT, idxT, cat, cpy, ite_int, ite_bool, ite_seg, ite_segs, ite_nil, ite_twice, Int.toNat_natCast, app, addBs, tob])); (repeat (first | (refine And.intro ?_ ?_; · first | trivial | assumption | omega))); refine hK _ (stPo s (reO s (s.b.f s.na)) false) (LeS.intro [0, 1, 2, 3, 4, 5, 6, 7] (fun i h => idtF i h) (by simp only [diff, notIn, Nat.beq, and_self]) rfl (by simp only [stPo, sfT, hd, slotsLe, slotAt, Nat.beq, leV, leV1, leC, leA, nthO, Int.natCast_zero, Int.ofNat_zero, and_self]) ⟨by rw [hre]; exact opk_leG _, pass_le s 0 3 5 6 0 3 5 6 _ _ id rfl rfl rfl rfl, kn_le s, opsw_le _ _ _ (fun _ _ => rfl), at_le _ _ _ (fun _ _ => rfl), z_le, blk_le' s.b 0 0 rfl, ops_le s.b.n s.b.f false, trivial⟩) ?_; clear hK K)
    exact run_cond rfl (fun hc => by cases hc) (fun _ => run_skip (htail false))
def heapStep0 (b : BlkS) : Heap := if rightS b = true then ⟨3, [(2, blkB (foldB b) 1), (1, opsW (stepS b).m (stepS b).f), (0, opsB b.n b.f)]⟩ else ⟨2, [(1, zblk), (0, opsB b.n b.f)]⟩
def heapStep (b : BlkS) : Heap := if rightS b = true then ⟨2, [(1, opsW (stepS b).m (stepS b).f), (0, opsB b.n b.f)]⟩ else ⟨1, [(0, opsB b.n b.f)]⟩
def zBlkL : List Seg := [.c (.int .u64 0), .c (.int .i64 0), .c (.int .i64 0), .c (.nils)]
def retStep (b : BlkS) (i : Nat) : AV := if rightS b = true then .tup [.agg (blkL (foldB b) i), .c (.bool (chgS b)), .c (.int .i64 0)] else .tup [.agg zBlkL, .c (.bool false), .c (.int .i64 4)]
theorem end_step {l : List Slot} {H : Heap} {b : BlkS} {T : PS} (hT : stepS b = T) (hr : rightS b = true) (hb : T.b = b) (c : Bool) (s2 : slotAt l 2 = some ⟨2, [], .c (.ptr ⟨2, 0, 0, 0⟩)⟩) (s3 : slotAt l 3 = some ⟨3, [], .c (.bool (!(eqOps T.m T.b.n T.f T.b.f)))⟩) (s4 : slotAt l 4 = some ⟨4, [], .c (.int .i64 0)⟩)
    (g2 : getB H.blks 2 = some ⟨4, none, fun _ => [.c (.int .u64 T.b.pc), .c (.int .i64 T.b.words), .c (.int .i64 T.b.el), .c (.slice ⟨5, 0, 0, 0⟩ false T.m)], 25, true⟩) (g5 : getB H.blks 5 = some (opsW T.m T.f)) (g0 : getB H.blks 0 = some (opsB T.b.n T.b.f)) : endQ (LeS 1) [.cn 4 2, .tmp 3, .tmp 4] (fun v H' => v = retStep b 1 ∧ H' = heapStep0 b) .ret ⟨l, H⟩ := by
  subst hT
  have hR : retStep b 1 = .tup [.agg (blkL (foldB b) 1), .c (.bool (chgS b)), .c (.int .i64 0)] := by unfold retStep; rw [if_pos hr]
  have hH : heapStep0 b = ⟨3, [(2, blkB (foldB b) 1), (1, opsW (stepS b).m (stepS b).f), (0, opsB b.n b.f)]⟩ := by unfold heapStep0; rw [if_pos hr]
  rw [hR, hH]
  rw [hb] at s3 g2 g0
  refine end_of ⟨[⟨2, [], .c (.ptr ⟨2, 0, 0, 0⟩)⟩, ⟨3, [], .c (.bool (chgS b))⟩, ⟨4, [], .c (.int .i64 0)⟩], ⟨3, [(2, blkB (foldB b) 1), (1, opsW (stepS b).m (stepS b).f), (0, opsB b.n b.f)]⟩⟩ (LeS.intro [0, 5, 2] (fun i h => idtF i h) (by simp only [diff, notIn, Nat.beq, and_self]) rfl (by simp only [chgS, slotsLe, s2, s3, s4, leV, leV1, leC, leA, nthO, and_self]) ?_) ?_
  · simp only [leBlks, nthO, g2, g5, g0]
    exact ⟨⟨rfl, rfl, id, Nat.le_refl _, fun _ _ => by simp only [blkB, blkL, foldB, leSegs, leSeg, leC, leA, nthO, and_self]⟩, opsw_le _ _ _ (fun _ _ => rfl), ops_le b.n b.f false, trivial⟩
  · simp only [endF, resL, resA, St.get, slotAt, Nat.beq, sfx, eqP, ldn, getB, blkB, blkL, rowNeed, cut, dropS, takeS, Seg.size, nsub, noTup, resV]
    exact ⟨by first | rfl | trivial, by first | rfl | trivial⟩
set_option maxHeartbeats 16000000 in
theorem con26_0 (b : BlkS) : Con Try.prog 26 [.agg (blkL b 0)] ⟨1, [(0, opsB b.n b.f)]⟩ (fun v H' => v = retStep b 1 ∧ H' = heapStep0 b) := by
  (refine con_of_run mixed (fn := Try.f26) (by kernel_rfl) (by kernel_rfl) C26_ok (rs := [.cn 4 2, .tmp 3, .tmp 4]) (by kernel_rfl) (Nat.le_of_ble_eq_true (by kernel_rfl)) ?_; unfold C26; simp only [initT, Nat.reduceAdd])
  repeat' (first | refine run_seq ?_ | refine run_skip ?_ | (refine run_region fun K hK => ?_; (try (simp (maxSteps := 10000000) only [opL, blkL, opsB, partsOf, fillS, C26r0, C26r1, C26r2, C26r4, C26r5, C26r6, C26r7, C26r8, C26r9, C26r10, C26r11, C26r12, C26r13, C26r14, C26r15, C26r16, C26r17, C26r18, rwp_nil, rwp_cons, rwpK_app, aop, gpath, St.get, slotAt, sfx, eqP, segsOf, St.put, addBlk, getB, setB, delB, ld1, ldn, st1, stn, setRow, rowNeed, segAt, nsub, bin, un, eqB, isShift, sameK, arith, shiftR, getsl, selB_or, selB_and, beqb, shed, addN, Nat.beq, Seg.size, sizes, imp, needP, andN, appL, argsOf, ptrsOf, aasOf, cut, takeS, dropS, putS, partsOf, fillS, fieldOf, nthA, negIf, nilq, nilB, eqS, eqF, eqS1, andP, kin, slcS, strOk, plusA, bndHi, leN, optG, roH, roL, initT, exOk, exAll, wrAddr, Nat.reduceAdd, Nat.reduceSub, Nat.reduceMul, Int.reduceToNat, List.append_nil, List.nil_append, List.cons_append, mapR, mapR1, keyL, keyOk, keyP, colsPut, colsDel, zcols, eqT, idxT, cat, cpy, ite_int, ite_bool, ite_seg, ite_segs, ite_nil, ite_twice, Int.toNat_natCast, app, addBs, tob])); (repeat (first | (refine And.intro ?_ ?_; · (first | trivial | assumption | omega | exact ⟨by omega, by omega⟩ | exact ⟨by omega, by omega, by omega⟩ | exact ⟨trivial, by omega, by omega⟩ | (intros; first | trivial | assumption | omega | exact ⟨by omega, by omega⟩))) | ((first | (refine call_t _ (con37_at b 0 _ _ _ rfl (Nat.le_of_ble_eq_true rfl) (by simp [keysLt])) ?_; rintro v H' ⟨rfl, rfl⟩) | refine call_q _ (con37_at b 0 _ _ _ rfl (Nat.le_of_ble_eq_true rfl) (by simp [keysLt])) ?_ | refine call_g _ (imp_of (con37_at b 0 _ _ _ rfl (Nat.le_of_ble_eq_true rfl) (by simp [keysLt]))) ?_); simp (maxSteps := 10000000) only [opL, blkL, opsB, partsOf, fillS, C26r0, C26r1, C26r2, C26r4, C26r5, C26r6, C26r7, C26r8, C26r9, C26r10, C26r11, C26r12, C26r13, C26r14, C26r15, C26r16, C26r17, C26r18, rwp_nil, rwp_cons, rwpK_app, aop, gpath, St.get, slotAt, sfx, eqP, segsOf, St.put, addBlk, getB, setB, delB, ld1, ldn, st1, stn, setRow, rowNeed, segAt, nsub, bin, un, eqB, isShift, sameK, arith, shiftR, getsl, selB_or, selB_and, beqb, shed, addN, Nat.beq, Seg.size, sizes, imp, needP, andN, appL, argsOf, ptrsOf, aasOf, cut, takeS, dropS, putS, partsOf, fillS, fieldOf, nthA, negIf, nilq, nilB, eqS, eqF, eqS1, andP, kin, slcS, strOk, plusA, bndHi, leN, optG, roH, roL, initT, exOk, exAll, wrAddr, Nat.reduceAdd, Nat.reduceSub, Nat.reduceMul, Int.reduceToNat, List.append_nil, List.nil_append, List.cons_append, mapR, mapR1, keyL, keyOk, keyP, colsPut, colsDel, zcols, eqT, idxT, cat, cpy, ite_int, ite_bool, ite_seg, ite_segs, ite_nil, ite_twice, Int.toNat_natCast, app, addBs, tob]))); with_reducible refine hK _ ?_; clear hK K) | (refine run_cond rfl (fun hc => ?_) (fun hc => ?_) <;> try (simp only [*, Bool.true_eq_false, Bool.false_eq_true, Bool.not_true, Bool.not_false, Bool.true_or, Bool.or_true, Bool.false_or, Bool.or_false, Bool.false_and, Bool.and_false, bne_self_eq_false, beq_self_eq_true] at hc; done)) | refine run_block ?_ | refine run_ret ?_ | refine run_nil ?_ | refine run_exit ?_ | refine blk_normal ?_ | refine blk_ret ?_ | refine blk_here ?_ | refine blk_there rfl ?_ | refine loop_exit ?_ | refine loop_ret ?_ | refine un_exit ?_ | refine un_ret ?_ | refine unE_exit ?_ | refine unE_ret ?_ | refine un_normal ?_)
  · have hr : rightS b = false := by simpa using hc
    refine end_of ⟨[⟨2, [], .c (.ptr ⟨1, 0, 0, 0⟩)⟩, ⟨3, [], .c (.bool false)⟩, ⟨4, [], .c (.int .i64 4)⟩], ⟨2, [(1, zblk), (0, opsB b.n b.f)]⟩⟩ (LeS.intro [0, 2] (fun i h => idtF i h) (by simp only [diff, notIn, Nat.beq, and_self]) rfl (by simp only [slotsLe, slotAt, Nat.beq, leV, leV1, leC, leA, nthO, and_self]) ⟨z_le, ops_le b.n b.f false, trivial⟩) ?_
    simp only [endF, resL, resA, St.get, slotAt, Nat.beq, sfx, eqP, ldn, getB, zblk, rowNeed, cut, dropS, takeS, Seg.size, nsub, noTup, resV]
    exact ⟨by simp only [retStep, zBlkL, hr, Bool.false_eq_true, if_false], by simp only [heapStep0, hr, Bool.false_eq_true, if_false, zblk]⟩
  have hr : rightS b = true := by simpa using hc
  have hn := right_n hr
  clear hc
  repeat' (first | refine run_seq ?_ | refine run_skip ?_ | (refine run_region fun K hK => ?_; (try (simp (maxSteps := 10000000) only [opL, blkL, opsB, partsOf, fillS, C26r0, C26r1, C26r2, C26r3, C26r5, C26r6, C26r7, C26r8, C26r9, C26r10, C26r11, C26r12, C26r13, C26r14, C26r15, C26r16, C26r17, C26r18, rwp_nil, rwp_cons, rwpK_app, aop, gpath, St.get, slotAt, sfx, eqP, segsOf, St.put, addBlk, getB, setB, delB, ld1, ldn, st1, stn, setRow, rowNeed, segAt, nsub, bin, un, eqB, isShift, sameK, arith, shiftR, getsl, selB_or, selB_and, beqb, shed, addN, Nat.beq, Seg.size, sizes, imp, needP, andN, appL, argsOf, ptrsOf, aasOf, cut, takeS, dropS, putS, partsOf, fillS, fieldOf, nthA, negIf, nilq, nilB, eqS, eqF, eqS1, andP, kin, slcS, strOk, plusA, bndHi, leN, optG, roH, roL, initT, exOk, exAll, wrAddr, Nat.reduceAdd, Nat.reduceSub, Nat.reduceMul, Int.reduceToNat, List.append_nil, List.nil_append, List.cons_append, mapR, mapR1, keyL, keyOk, keyP, colsPut, colsDel, zcols, eqT, idxT, cat, cpy, ite_int, ite_bool, ite_seg, ite_segs, ite_nil, ite_twice, Int.toNat_natCast, app, addBs, tob])); (repeat (first | (refine And.intro ?_ ?_; · (first | trivial | assumption | omega | exact ⟨by omega, by omega⟩ | exact ⟨by omega, by omega, by omega⟩ | exact ⟨trivial, by omega, by omega⟩ | (intros; first | trivial | assumption | omega | exact ⟨by omega, by omega⟩))))); with_reducible refine hK _ ?_; clear hK K) | (refine run_cond rfl (fun hc => ?_) (fun hc => ?_) <;> try (simp only [*, Bool.true_eq_false, Bool.false_eq_true, Bool.not_true, Bool.not_false, Bool.true_or, Bool.or_true, Bool.false_or, Bool.or_false, Bool.false_and, Bool.and_false, bne_self_eq_false, beq_self_eq_true] at hc; done)) | refine run_block ?_ | refine run_ret ?_ | refine run_nil ?_ | refine run_exit ?_ | refine blk_normal ?_ | refine blk_ret ?_ | refine blk_here ?_ | refine blk_there rfl ?_ | refine loop_exit ?_ | refine loop_ret ?_ | refine un_exit ?_ | refine un_ret ?_ | refine unE_exit ?_ | refine unE_ret ?_ | refine un_normal ?_)
  (refine run_regionL fun K hK => ?_; (try (simp (maxSteps := 10000000) only [opL, blkL, opsB, partsOf, fillS, C26r0, C26r1, C26r2, C26r3, C26r4, C26r5, C26r6, C26r7, C26r8, C26r9, C26r10, C26r11, C26r12, C26r13, C26r14, C26r15, C26r16, C26r17, C26r18, rwp_nil, rwp_cons, rwpK_app, aop, gpath, St.get, slotAt, sfx, eqP, segsOf, St.put, addBlk, getB, setB, delB, ld1, ldn, st1, stn, setRow, rowNeed, segAt, nsub, bin, un, eqB, isShift, sameK, arith, shiftR, getsl, selB_or, selB_and, beqb, shed, addN, Nat.beq, Seg.size, sizes, imp, needP, andN, appL, argsOf, ptrsOf, aasOf, cut, takeS, dropS, putS, partsOf, fillS, fieldOf, nthA, negIf, nilq, nilB, eqS, eqF, eqS1, andP, kin, slcS, strOk, plusA, bndHi, leN, optG, roH, roL, initT, exOk, exAll, wrAddr, Nat.reduceAdd, Nat.reduceSub, Nat.reduceMul, Int.reduceToNat, List.append_nil, List.nil_append, List.cons_append, mapR, mapR1, keyL, keyOk, keyP, colsPut, colsDel, zcols, eqT, idxT, cat, cpy, ite_int, ite_bool, ite_seg, ite_segs, ite_nil, ite_twice, Int.toNat_natCast, app, addBs, tob])); (repeat (first | (refine And.intro ?_ ?_; · first | trivial | assumption | omega))); refine hK _ (stF (ps0 b) 0) (LeS.introG [0, 1, 2, 3, 4] (fun i h => idtF i h) (by simp only [diff, notIn, Nat.beq, and_self]) (Nat.le_of_ble_eq_true rfl) (by simp only [stF, sfT, ps0, slotsLe, slotAt, Nat.beq, leV, leV1, leC, leA, nthO, Int.natCast_zero, Int.ofNat_zero, and_self]) ⟨⟨rfl, rfl, id, Nat.le_refl _, fun _ _ => by simp only [passB, passL, ps0, leSegs, leSeg, leC, leA, nthO, and_self]⟩, ⟨rfl, rfl, id, rfl, fun _ _ => by simp only [knB, ps0, leSegs, leSeg, leC, and_self, implies_true]⟩, trivial, trivial, z_le, blk_le' b 0 0 rfl, ops_le b.n b.f false, trivial⟩) ?_; clear hK K)
  refine run_block ?_
  have hT : stepN b.n (ps0 b) = stepS b := rfl
  obtain ⟨hTok, hTb⟩ := stepN_ok b.n (ps0_ok hr)
  rw [hT] at hTok hTb
  generalize hTs : stepS b = T at hT hTok hTb
  have hTb : T.b = b := hTb
  have hTm : T.m ≤ 512 := by have := hTok.m; have h2 := hTok.na; rw [hTb] at h2; omega
  have hfin := fun l H c => @end_step l H b T hTs hr hTb c
  refine run_loop (fun t st => ∃ s, t = b.n - s.na ∧ PsOk s ∧ s.b = b ∧ stepN t s = T ∧ st = stF s s.na) b.n ⟨ps0 b, rfl, ps0_ok hr, rfl, hT, rfl⟩ ?_
  rintro t st ⟨s, rfl, hok, hsb, hst, rfl⟩
  have hsbn : s.b.n = b.n := by rw [hsb]
  unfold stF sfT sfH
  repeat' (first | refine run_seq ?_ | refine run_skip ?_ | (refine run_region fun K hK => ?_; (try (simp (maxSteps := 10000000) only [opBox, opL, passB, passL, knB, opsW, atB, opsB, blkB, blkL, zblk, partsOf, fillS, repl, rowsFit, rowFn, cutD, Int.toNat_natCast, C26r0, C26r1, C26r2, C26r3, C26r4, C26r5, C26r7, C26r8, C26r9, C26r10, C26r11, C26r12, C26r13, C26r14, C26r15, C26r17, C26r18, rwp_nil, rwp_cons, rwpK_app, aop, gpath, St.get, slotAt, sfx, eqP, segsOf, St.put, addBlk, getB, setB, delB, ld1, ldn, st1, stn, setRow, rowNeed, segAt, nsub, bin, un, eqB, isShift, sameK, arith, shiftR, getsl, selB_or, selB_and, beqb, shed, addN, Nat.beq, Seg.size, sizes, imp, needP, andN, appL, argsOf, ptrsOf, aasOf, cut, takeS, dropS, putS, partsOf, fillS, fieldOf, nthA, negIf, nilq, nilB, eqS, eqF, eqS1, andP, kin, slcS, strOk, plusA, bndHi, leN, optG, roH, roL, initT, exOk, exAll, wrAddr, Nat.reduceAdd, Nat.reduceSub, Nat.reduceMul, Int.reduceToNat, List.append_nil, List.nil_append, List.cons_append, mapR, mapR1, keyL, keyOk, keyP, colsPut, colsDel, zcols, eqT, idxT, cat, cpy, ite_int, ite_bool, ite_seg, ite_segs, ite_nil, ite_twice, Int.toNat_natCast, app, addBs, tob])); (repeat (first | (refine And.intro ?_ ?_; · (first | trivial | assumption | omega | exact ⟨by omega, by omega⟩ | exact ⟨by omega, by omega, by omega⟩ | exact ⟨trivial, by omega, by omega⟩ | (intros; first | trivial | assumption | omega | exact ⟨by omega, by omega⟩))))); with_reducible refine hK _ ?_; clear hK K) | (refine run_cond rfl (fun hc => ?_) (fun hc => ?_) <;> try (simp only [*, Bool.true_eq_false, Bool.false_eq_true, Bool.not_true, Bool.not_false, Bool.true_or, Bool.or_true, Bool.false_or, Bool.or_false, Bool.false_and, Bool.and_false, bne_self_eq_false, beq_self_eq_true] at hc; done)) | refine run_block ?_ | refine run_ret ?_ | refine run_nil ?_ | refine run_exit ?_ | refine blk_normal ?_ | refine blk_ret ?_ | refine blk_here ?_ | refine blk_there rfl ?_ | refine loop_exit ?_ | refine loop_ret ?_ | refine un_exit ?_ | refine un_ret ?_ | refine unE_exit ?_ | refine unE_ret ?_ | refine un_normal ?_)
  · have hlt : s.na < s.b.n := by simp only [decide_eq_true_eq] at hc; omega
    clear hc
    obtain ⟨t, ht⟩ : ∃ t, b.n - s.na = t + 1 := ⟨b.n - s.na - 1, by omega⟩
    rw [ht] at hst ⊢
    simp only [stepN, hlt, if_true] at hst
    have hna := after_na hok hlt
    have hab := after_b hok hlt
    refine step_round s hok hlt _ (fun he => ?_) (fun he => ?_)
    · rw [he] at hst
      simp only [Bool.false_eq_true, if_false] at hst
      refine blk_normal ?_
      have hw : IntKind.i64.wrap ((s.na : Int) + 1) = ((s.na + 1 : Nat) : Int) := by rw [IntKind.wrap_i64]; omega
      unfold stE sfT sfH
      repeat' (first | refine run_seq ?_ | refine run_skip ?_ | (refine run_region fun K hK => ?_; (try (simp (maxSteps := 10000000) only [opBox, opL, passB, passL, knB, opsW, atB, opsB, blkB, blkL, zblk, partsOf, fillS, repl, rowsFit, rowFn, cutD, Int.toNat_natCast, hw, C26r0, C26r1, C26r2, C26r3, C26r4, C26r5, C26r6, C26r7, C26r8, C26r9, C26r10, C26r11, C26r12, C26r13, C26r14, C26r15, C26r16, C26r17, C26r18, rwp_nil, rwp_cons, rwpK_app, aop, gpath, St.get, slotAt, sfx, eqP, segsOf, St.put, addBlk, getB, setB, delB, ld1, ldn, st1, stn, setRow, rowNeed, segAt, nsub, bin, un, eqB, isShift, sameK, arith, shiftR, getsl, selB_or, selB_and, beqb, shed, addN, Nat.beq, Seg.size, sizes, imp, needP, andN, appL, argsOf, ptrsOf, aasOf, cut, takeS, dropS, putS, partsOf, fillS, fieldOf, nthA, negIf, nilq, nilB, eqS, eqF, eqS1, andP, kin, slcS, strOk, plusA, bndHi, leN, optG, roH, roL, initT, exOk, exAll, wrAddr, Nat.reduceAdd, Nat.reduceSub, Nat.reduceMul, Int.reduceToNat, List.append_nil, List.nil_append, List.cons_append, mapR, mapR1, keyL, keyOk, keyP, colsPut, colsDel, zcols, eqT, idxT, cat, cpy, ite_int, ite_bool, ite_seg, ite_segs, ite_nil, ite_twice, Int.toNat_natCast, app, addBs, tob])); (repeat (first | (refine And.intro ?_ ?_; · (first | trivial | assumption | omega | exact ⟨by omega, by omega⟩ | exact ⟨by omega, by omega, by omega⟩ | exact ⟨trivial, by omega, by omega⟩ | (intros; first | trivial | assumption | omega | exact ⟨by omega, by omega⟩))))); with_reducible refine hK _ ?_; clear hK K) | (refine run_cond rfl (fun hc => ?_) (fun hc => ?_) <;> try (simp only [*, Bool.true_eq_false, Bool.false_eq_true, Bool.not_true, Bool.not_false, Bool.true_or, Bool.or_true, Bool.false_or, Bool.or_false, Bool.false_and, Bool.and_false, bne_self_eq_false, beq_self_eq_true] at hc; done)) | refine run_block ?_ | refine run_ret ?_ | refine run_nil ?_ | refine run_exit ?_ | refine blk_normal ?_ | refine blk_ret ?_ | refine blk_here ?_ | refine blk_there rfl ?_ | refine loop_exit ?_ | refine loop_ret ?_ | refine un_exit ?_ | refine un_ret ?_ | refine unE_exit ?_ | refine unE_ret ?_ | refine un_normal ?_)
      refine loop_normal t (stF (afterP s) (afterP s).na) (by omega) (LeS.intro [0, 1, 2, 3, 4, 5, 6] (fun i h => idtF i h) (by simp only [diff, notIn, Nat.beq, and_self]) rfl (by simp only [stF, sfT, hna, slotsLe, slotAt, Nat.beq, leV, leV1, leC, leA, nthO, Int.natCast_zero, Int.ofNat_zero, and_self]) ⟨pass_le _ 0 3 5 6 0 3 5 6 _ _ id rfl rfl rfl rfl, kn_le _, opsw_le _ _ _ (fun _ _ => rfl), at_le _ _ _ (fun _ _ => rfl), z_le, blk_le' _ 0 0 rfl, ops_le _ _ false, trivial⟩) ⟨afterP s, by rw [hna]; omega, after_ok hok hlt, by rw [hab]; exact hsb, hst, rfl⟩
    · rw [he] at hst
      simp only [if_true] at hst
      subst hst
      generalize hTT : afterP s = T at *
      refine blk_there rfl (loop_exit (blk_here ?_))
      unfold stE sfT sfH
      repeat' (first | refine run_seq ?_ | refine run_skip ?_ | (refine run_region fun K hK => ?_; (try (simp (maxSteps := 10000000) only [opBox, opL, passB, passL, knB, opsW, atB, opsB, blkB, blkL, zblk, partsOf, fillS, repl, rowsFit, rowFn, cutD, Int.toNat_natCast, C26r0, C26r1, C26r2, C26r3, C26r4, C26r5, C26r6, C26r7, C26r8, C26r9, C26r10, C26r11, C26r12, C26r13, C26r14, C26r15, C26r16, C26r17, C26r18, rwp_nil, rwp_cons, rwpK_app, aop, gpath, St.get, slotAt, sfx, eqP, segsOf, St.put, addBlk, getB, setB, delB, ld1, ldn, st1, stn, setRow, rowNeed, segAt, nsub, bin, un, eqB, isShift, sameK, arith, shiftR, getsl, selB_or, selB_and, beqb, shed, addN, Nat.beq, Seg.size, sizes, imp, needP, andN, appL, argsOf, ptrsOf, aasOf, cut, takeS, dropS, putS, partsOf, fillS, fieldOf, nthA, negIf, nilq, nilB, eqS, eqF, eqS1, andP, kin, slcS, strOk, plusA, bndHi, leN, optG, roH, roL, initT, exOk, exAll, wrAddr, Nat.reduceAdd, Nat.reduceSub, Nat.reduceMul, Int.reduceToNat, List.append_nil, List.nil_append, List.cons_append, mapR, mapR1, keyL, keyOk, keyP, colsPut, colsDel, zcols, eqT, idxT, cat, cpy, ite_int, ite_bool, ite_seg, ite_segs, ite_nil, ite_twice, Int.toNat_natCast, app, addBs, tob])); (repeat (first | (refine And.intro ?_ ?_; · (first | trivial | assumption | omega | exact ⟨by omega, by omega⟩ | exact ⟨by omega, by omega, by omega⟩ | exact ⟨trivial, by omega, by omega⟩ | (intros; first | trivial | assumption | omega | exact ⟨by omega, by omega⟩))) | ((first | (refine call_t _ (con49_at T.m T.b.n T.f T.b.f (by omega) 5 0 _ _ _ _ rfl rfl rfl (Nat.le_of_ble_eq_true rfl) (Nat.le_of_ble_eq_true rfl) (by simp [roL, keysLt])) ?_; rintro v H' ⟨rfl, rfl⟩) | refine call_q _ (con49_at T.m T.b.n T.f T.b.f (by omega) 5 0 _ _ _ _ rfl rfl rfl (Nat.le_of_ble_eq_true rfl) (Nat.le_of_ble_eq_true rfl) (by simp [roL, keysLt])) ?_ | refine call_g _ (imp_of (con49_at T.m T.b.n T.f T.b.f (by omega) 5 0 _ _ _ _ rfl rfl rfl (Nat.le_of_ble_eq_true rfl) (Nat.le_of_ble_eq_true rfl) (by simp [roL, keysLt]))) ?_); simp (maxSteps := 10000000) only [opBox, opL, passB, passL, knB, opsW, atB, opsB, blkB, blkL, zblk, partsOf, fillS, repl, rowsFit, rowFn, cutD, Int.toNat_natCast, C26r0, C26r1, C26r2, C26r3, C26r4, C26r5, C26r6, C26r7, C26r8, C26r9, C26r10, C26r11, C26r12, C26r13, C26r14, C26r15, C26r16, C26r17, C26r18, rwp_nil, rwp_cons, rwpK_app, aop, gpath, St.get, slotAt, sfx, eqP, segsOf, St.put, addBlk, getB, setB, delB, ld1, ldn, st1, stn, setRow, rowNeed, segAt, nsub, bin, un, eqB, isShift, sameK, arith, shiftR, getsl, selB_or, selB_and, beqb, shed, addN, Nat.beq, Seg.size, sizes, imp, needP, andN, appL, argsOf, ptrsOf, aasOf, cut, takeS, dropS, putS, partsOf, fillS, fieldOf, nthA, negIf, nilq, nilB, eqS, eqF, eqS1, andP, kin, slcS, strOk, plusA, bndHi, leN, optG, roH, roL, initT, exOk, exAll, wrAddr, Nat.reduceAdd, Nat.reduceSub, Nat.reduceMul, Int.reduceToNat, List.append_nil, List.nil_append, List.cons_append, mapR, mapR1, keyL, keyOk, keyP, colsPut, colsDel, zcols, eqT, idxT, cat, cpy, ite_int, ite_bool, ite_seg, ite_segs, ite_nil, ite_twice, Int.toNat_natCast, app, addBs, tob]))); with_reducible refine hK _ ?_; clear hK K) | (refine run_cond rfl (fun hc => ?_) (fun hc => ?_) <;> try (simp only [*, Bool.true_eq_false, Bool.false_eq_true, Bool.not_true, Bool.not_false, Bool.true_or, Bool.or_true, Bool.false_or, Bool.or_false, Bool.false_and, Bool.and_false, bne_self_eq_false, beq_self_eq_true] at hc; done)) | refine run_block ?_ | refine run_ret ?_ | refine run_nil ?_ | refine run_exit ?_ | refine blk_normal ?_ | refine blk_ret ?_ | refine blk_here ?_ | refine blk_there rfl ?_ | refine loop_exit ?_ | refine loop_ret ?_ | refine un_exit ?_ | refine un_ret ?_ | refine unE_exit ?_ | refine unE_ret ?_ | refine un_normal ?_)
      exact end_step hTs hr hTb true rfl rfl rfl rfl rfl rfl
  · have hge : b.n - s.na = 0 := by simp only [decide_eq_false_iff_not] at hc; omega
    rw [hge] at hst
    simp only [stepN] at hst
    subst hst
    repeat' (first | refine run_seq ?_ | refine run_skip ?_ | (refine run_region fun K hK => ?_; (try (simp (maxSteps := 10000000) only [opBox, opL, passB, passL, knB, opsW, atB, opsB, blkB, blkL, zblk, partsOf, fillS, repl, rowsFit, rowFn, cutD, Int.toNat_natCast, C26r0, C26r1, C26r2, C26r3, C26r4, C26r5, C26r6, C26r7, C26r8, C26r9, C26r10, C26r11, C26r12, C26r13, C26r14, C26r15, C26r16, C26r17, C26r18, rwp_nil, rwp_cons, rwpK_app, aop, gpath, St.get, slotAt, sfx, eqP, segsOf, St.put, addBlk, getB, setB, delB, ld1, ldn, st1, stn, setRow, rowNeed, segAt, nsub, bin, un, eqB, isShift, sameK, arith, shiftR, getsl, selB_or, selB_and, beqb, shed, addN, Nat.beq, Seg.size, sizes, imp, needP, andN, appL, argsOf, ptrsOf, aasOf, cut, takeS, dropS, putS, partsOf, fillS, fieldOf, nthA, negIf, nilq, nilB, eqS, eqF, eqS1, andP, kin, slcS, strOk, plusA, bndHi, leN, optG, roH, roL, initT, exOk, exAll, wrAddr, Nat.reduceAdd, Nat.reduceSub, Nat.reduceMul, Int.reduceToNat, List.append_nil, List.nil_append, List.cons_append, mapR, mapR1, keyL, keyOk, keyP, colsPut, colsDel, zcols, eqT, idxT, cat, cpy, ite_int, ite_bool, ite_seg, ite_segs, ite_nil, ite_twice, Int.toNat_natCast, app, addBs, tob])); (repeat (first | (refine And.intro ?_ ?_; · (first | trivial | assumption | omega | exact ⟨by omega, by omega⟩ | exact ⟨by omega, by omega, by omega⟩ | exact ⟨trivial, by omega, by omega⟩ | (intros; first | trivial | assumption | omega | exact ⟨by omega, by omega⟩))) | ((first | (refine call_t _ (con49_at s.m s.b.n s.f s.b.f (by omega) 5 0 _ _ _ _ rfl rfl rfl (Nat.le_of_ble_eq_true rfl) (Nat.le_of_ble_eq_true rfl) (by simp [roL, keysLt])) ?_; rintro v H' ⟨rfl, rfl⟩) | refine call_q _ (con49_at s.m s.b.n s.f s.b.f (by omega) 5 0 _ _ _ _ rfl rfl rfl (Nat.le_of_ble_eq_true rfl) (Nat.le_of_ble_eq_true rfl) (by simp [roL, keysLt])) ?_ | refine call_g _ (imp_of (con49_at s.m s.b.n s.f s.b.f (by omega) 5 0 _ _ _ _ rfl rfl rfl (Nat.le_of_ble_eq_true rfl) (Nat.le_of_ble_eq_true rfl) (by simp [roL, keysLt]))) ?_); simp (maxSteps := 10000000) only [opBox, opL, passB, passL, knB, opsW, atB, opsB, blkB, blkL, zblk, partsOf, fillS, repl, rowsFit, rowFn, cutD, Int.toNat_natCast, C26r0, C26r1, C26r2, C26r3, C26r4, C26r5, C26r6, C26r7, C26r8, C26r9, C26r10, C26r11, C26r12, C26r13, C26r14, C26r15, C26r16, C26r17, C26r18, rwp_nil, rwp_cons, rwpK_app, aop, gpath, St.get, slotAt, sfx, eqP, segsOf, St.put, addBlk, getB, setB, delB, ld1, ldn, st1, stn, setRow, rowNeed, segAt, nsub, bin, un, eqB, isShift, sameK, arith, shiftR, getsl, selB_or, selB_and, beqb, shed, addN, Nat.beq, Seg.size, sizes, imp, needP, andN, appL, argsOf, ptrsOf, aasOf, cut, takeS, dropS, putS, partsOf, fillS, fieldOf, nthA, negIf, nilq, nilB, eqS, eqF, eqS1, andP, kin, slcS, strOk, plusA, bndHi, leN, optG, roH, roL, initT, exOk, exAll, wrAddr, Nat.reduceAdd, Nat.reduceSub, Nat.reduceMul, Int.reduceToNat, List.append_nil, List.nil_append, List.cons_append, mapR, mapR1, keyL, keyOk, keyP, colsPut, colsDel, zcols, eqT, idxT, cat, cpy, ite_int, ite_bool, ite_seg, ite_segs, ite_nil, ite_twice, Int.toNat_natCast, app, addBs, tob]))); with_reducible refine hK _ ?_; clear hK K) | (refine run_cond rfl (fun hc => ?_) (fun hc => ?_) <;> try (simp only [*, Bool.true_eq_false, Bool.false_eq_true, Bool.not_true, Bool.not_false, Bool.true_or, Bool.or_true, Bool.false_or, Bool.or_false, Bool.false_and, Bool.and_false, bne_self_eq_false, beq_self_eq_true] at hc; done)) | refine run_block ?_ | refine run_ret ?_ | refine run_nil ?_ | refine run_exit ?_ | refine blk_normal ?_ | refine blk_ret ?_ | refine blk_here ?_ | refine blk_there rfl ?_ | refine loop_exit ?_ | refine loop_ret ?_ | refine un_exit ?_ | refine un_ret ?_ | refine unE_exit ?_ | refine unE_ret ?_ | refine un_normal ?_)
    exact end_step hTs hr hTb true rfl rfl rfl rfl rfl rfl
theorem con26 (b : BlkS) : Con Try.prog 26 [.agg (blkL b 0)] ⟨1, [(0, opsB b.n b.f)]⟩ (fun v H' => v = retStep b 1 ∧ H' = heapStep b) := by
  refine Con.forget (con26_0 b) ?_
  rintro v H' ⟨rfl, rfl⟩
  by_cases hr : rightS b = true
  · refine ⟨_, heapStep b, [0, 1], (fun i h => idtF i h), (by simp only [diff, notIn, Nat.beq, and_self]), by simp only [heapStep, hr, if_true]; rfl, ?_, ?_, rfl, rfl⟩
    · simp only [heapStep0, heapStep, hr, if_true]
      exact ⟨opsw_le _ _ _ (fun _ _ => rfl), ops_le b.n b.f false, trivial⟩
    · simp only [retStep, hr, if_true, leV, leV1, leVL, blkL, leSegs, leSeg, leC, leA, nthO, and_self]
  · refine ⟨_, heapStep b, [0], (fun i h => idtF i h), ⟨trivial, trivial⟩, by simp only [heapStep, hr, if_false, Bool.false_eq_true]; rfl, ?_, ?_, rfl, rfl⟩
    · simp only [heapStep0, heapStep, hr, if_false, Bool.false_eq_true]
      exact ⟨ops_le b.n b.f false, trivial⟩
    · simp only [retStep, zBlkL, hr, if_false, Bool.false_eq_true, leV, leV1, leVL, leSegs, leSeg, leC, and_self]
end Go.Proofs.Ytmbnakinhnkabaa

namespace Go.Proofs.Ytmbnakinhnkabaa
open Go.AM
set_option maxRecDepth 100000
set_option linter.unusedSimpArgs false
set_option linter.unusedVariables false
structure Laid (s : PS) (r : One) (x : OpS) : Prop where
  m : r.s.m = s.m + 1
  f : ∀ i, r.s.f i = if i < s.m then s.f i else x
  v : r.v = s.m
structure Gone (s : PS) (r : One) : Prop where
  m : r.s.m = s.m
  f : r.s.f = s.f
  e : r.e = false
def KnN (s : PS) (o : OpS) (r : One) : Prop := ∀ j, j < r.s.kn → (∃ i, i < s.kn ∧ r.s.kv j = s.kv i) ∨ (r.s.kv j = o.a ∧ 1 ≤ usesS o.kind) ∨ (r.s.kv j = s.m ∧ defS o.kind = true ∧ Laid s r o)
def KnO (s : PS) (o : OpS) (r : One) : Prop :=
  (∃ x, Laid s r x ∧ ((x = o ∧ r.e = false ∧ o.kind ≠ 15 ∨ x = o ∧ r.e = false) ∨ (o.kind = 8 ∧ (∃ n, x = constO n) ∧ r.e = false) ∨ (o.kind = 15 ∧ x = exitO o.imm ∧ r.e = true))) ∨
  (Gone s r ∧ (((o.kind = 2 ∨ o.kind = 4 ∨ o.kind = 6) ∧ ∃ j, j < s.kn ∧ r.v = s.kv j) ∨ o.kind = 15))
theorem laid_lay (s : PS) (x : OpS) : Laid s (layO s x) x := ⟨rfl, fun _ => rfl, rfl⟩
theorem kn_same {s : PS} {o : OpS} {r : One} (h1 : r.s.kn = s.kn) (h2 : r.s.kv = s.kv) : KnN s o r := fun j hj => .inl ⟨j, by rw [← h1]; exact hj, by rw [h2]⟩
theorem put_from (s : PS) (k r v : Int) : ∀ j, j < (knPut s k r v).kn → (∃ i, i < s.kn ∧ (knPut s k r v).kv j = s.kv i) ∨ (knPut s k r v).kv j = v := by
  intro j hj
  have hle := findI_ok (s := s) (k := k) (r := r)
  simp only [knPut] at hj ⊢
  by_cases e : j = knFind s k r
  · rw [if_pos e]; exact .inr rfl
  · rw [if_neg e]; exact .inl ⟨j, by omega, rfl⟩
theorem del_from (s : PS) (k r : Int) : ∀ j, j < (knDel s k r).kn → ∃ i, i < s.kn ∧ (knDel s k r).kv j = s.kv i := by
  intro j hj
  have hle := findI_ok (s := s) (k := k) (r := r)
  simp only [knDel] at hj ⊢
  by_cases e : j < knFind s k r
  · rw [if_pos e]; exact ⟨j, by omega, rfl⟩
  · rw [if_neg e]
    rw [if_pos (by split at hj <;> omega)] at hj
    exact ⟨j + 1, by omega, rfl⟩
theorem set_from (s : PS) (o : OpS) (k r : Int) : ∀ j, j < (knSet s o k r).kn → (∃ i, i < s.kn ∧ (knSet s o k r).kv j = s.kv i) ∨ (knSet s o k r).kv j = o.a := by
  unfold knSet
  split
  · exact put_from s k r o.a
  · exact fun j hj => .inl (del_from s k r j hj)
theorem place_get {o : OpS} (h1 : placeOk o = true) (h2 : ¬ placeSet o = true) : o.kind = 2 ∨ o.kind = 4 ∨ o.kind = 6 := by
  unfold placeOk at h1
  unfold placeSet at h2
  simp only [Bool.or_eq_true, beq_iff_eq] at h1 h2
  omega
theorem def_get {o : OpS} (h : o.kind = 2 ∨ o.kind = 4 ∨ o.kind = 6) : defS o.kind = true := by
  rcases h with h | h | h <;> rw [h] <;> decide
theorem one_known (s : PS) (o : OpS) : KnN s o (oneP s o) := by
  unfold oneP
  split
  · rename_i h1
    split
    · rename_i h2
      intro j hj
      rcases set_from s o (placeK o) (placeR o) j hj with h | h
      · exact .inl h
      · exact .inr (.inl ⟨h, usesS_set h1 h2⟩)
    · rename_i h2
      split
      · exact kn_same rfl rfl
      · intro j hj
        rcases put_from (layS s o) (placeK o) (placeR o) s.m j hj with h | h
        · exact .inl h
        · exact .inr (.inr ⟨h, def_get (place_get h1 h2), ⟨rfl, fun _ => rfl, rfl⟩⟩)
  · split
    · split <;> exact kn_same rfl rfl
    · split
      · split
        · split <;> exact kn_same rfl rfl
        · exact kn_same rfl rfl
      · exact kn_same rfl rfl
theorem one_out (s : PS) (o : OpS) : KnO s o (oneP s o) := by
  have lay : ∀ x, Laid s (layO s x) x := laid_lay s
  unfold oneP
  split
  · rename_i h1
    split
    · rename_i h2
      obtain ⟨g1, g2, g3⟩ := knSet_at s o (placeK o) (placeR o)
      have hm := knSet_m s o (placeK o) (placeR o)
      refine .inl ⟨o, ⟨?_, fun i => ?_, rfl⟩, .inl (.inr ⟨rfl, rfl⟩)⟩
      · show (knSet s o (placeK o) (placeR o)).m + 1 = _
        rw [hm]
      · show (if i < (knSet s o (placeK o) (placeR o)).m then (knSet s o (placeK o) (placeR o)).f i else o) = _
        rw [hm, g3]
    · rename_i h2
      split
      · rename_i hj
        exact .inr ⟨⟨rfl, rfl, rfl⟩, .inl ⟨place_get h1 h2, _, hj, rfl⟩⟩
      · exact .inl ⟨o, ⟨rfl, fun _ => rfl, rfl⟩, .inl (.inr ⟨rfl, rfl⟩)⟩
  · split
    · rename_i h8
      split
      · exact .inl ⟨_, lay _, .inr (.inl ⟨h8, ⟨_, rfl⟩, rfl⟩)⟩
      · exact .inl ⟨o, lay o, .inl (.inr ⟨rfl, rfl⟩)⟩
    · split
      · rename_i h15
        split
        · split
          · exact .inr ⟨⟨rfl, rfl, rfl⟩, .inr h15⟩
          · exact .inl ⟨_, ⟨rfl, fun _ => rfl, rfl⟩, .inr (.inr ⟨h15, rfl, rfl⟩)⟩
        · exact .inl ⟨o, lay o, .inl (.inr ⟨rfl, rfl⟩)⟩
      · exact .inl ⟨o, lay o, .inl (.inr ⟨rfl, rfl⟩)⟩
def wOp (o : OpS) : Nat := if o.kind = 8 ∨ o.kind = 15 then 2 else 1
def wt (f : Nat → OpS) : Nat → Nat
  | 0 => 0
  | n + 1 => wt f n + wOp (f n)
theorem wt_congr {f g : Nat → OpS} : ∀ {n : Nat}, (∀ i, i < n → f i = g i) → wt f n = wt g n
  | 0, _ => rfl
  | n + 1, h => by simp only [wt]; rw [wt_congr fun i hi => h i (by omega), h n (by omega)]
theorem wt_mono (f : Nat → OpS) {n m : Nat} (h : n ≤ m) : wt f n ≤ wt f m := by
  induction m with
  | zero => rw [Nat.le_zero.1 h]; exact Nat.le_refl _
  | succ m ih =>
    by_cases e : n = m + 1
    · rw [e]; exact Nat.le_refl _
    · simp only [wt]; have := ih (by omega); omega
theorem wOp_pos (o : OpS) : 1 ≤ wOp o := by unfold wOp; split <;> omega
theorem fieldBad_reO (s : PS) {o : OpS} (h : fieldBad o = false) : fieldBad (reO s o) = false := by
  unfold fieldBad at h ⊢
  simp only [Bool.or_eq_false_iff, Bool.and_eq_false_iff, decide_eq_false_iff_not, bne_eq_false_iff_eq] at h ⊢
  obtain ⟨⟨⟨⟨⟨h1, h2⟩, h3⟩, h4⟩, h5⟩, h6⟩ := h
  refine ⟨⟨⟨⟨⟨h1, h2⟩, h3⟩, h4⟩, ?_⟩, ?_⟩
  · rcases h5 with h5 | h5
    · exact .inl h5
    · by_cases hu : 0 < usesS o.kind
      · exact .inl (by show ¬ usesS o.kind < 1; omega)
      · exact .inr (by show (if 0 < usesS o.kind then _ else o.a) = 0; rw [if_neg hu]; exact h5)
  · rcases h6 with h6 | h6
    · exact .inl h6
    · by_cases hu : 1 < usesS o.kind
      · exact .inl (by show ¬ usesS o.kind < 2; omega)
      · exact .inr (by show (if 1 < usesS o.kind then _ else o.b) = 0; rw [if_neg hu]; exact h6)
theorem usesOk_of {o : OpS} {m : Nat} {f : Nat → OpS} : ∀ {u : Nat}, (∀ i, i < u → 0 ≤ useF o i ∧ useF o i < m ∧ defS (f (useF o i).toNat).kind = true) → usesOk o m f u = true
  | 0, _ => rfl
  | u + 1, h => by
    have h1 := usesOk_of (o := o) (m := m) (f := f) fun i hi => h i (Nat.lt_succ_of_lt hi)
    have h2 := h u (Nat.lt_succ_self u)
    simp only [usesOk, h1, useOk_eq, Bool.true_and, Bool.not_eq_true', Bool.or_eq_false_iff, decide_eq_false_iff_not]
    exact ⟨⟨by omega, by omega⟩, by rw [h2.2.2]; rfl⟩
theorem rop_iff {o : OpS} {m : Nat} {f : Nat → OpS} : ropS o m f = true ↔ fieldBad o = false ∧ ∀ i, i < usesS o.kind → 0 ≤ useF o i ∧ useF o i < m ∧ defS (f (useF o i).toNat).kind = true := by
  unfold ropS
  simp only [Bool.and_eq_true, Bool.not_eq_true']
  exact ⟨fun h => ⟨h.1, fun i hi => usesOk_at h.2 hi⟩, fun h => ⟨h.1, usesOk_of h.2⟩⟩
theorem rop_congr {o : OpS} {m : Nat} {f g : Nat → OpS} (h : ∀ i, i < m → g i = f i) (hr : ropS o m f = true) : ropS o m g = true := by
  rw [rop_iff] at hr ⊢
  refine ⟨hr.1, fun i hi => ?_⟩
  obtain ⟨h1, h2, h3⟩ := hr.2 i hi
  exact ⟨h1, h2, by rw [h _ (by omega)]; exact h3⟩
structure PsR (s : PS) : Prop where
  ok : PsOk s
  op : ∀ k, k < s.m → ropS (s.f k) k s.f = true
  dA : ∀ j, j < s.na → defS (s.b.f j).kind = true → defS (s.f (s.a j).toNat).kind = true
  dK : ∀ j, j < s.kn → defS (s.f (s.kv j).toNat).kind = true
  hd : 0 < s.na → 0 < s.m ∧ s.f 0 = s.b.f 0
  w : wt s.f s.m ≤ wt s.b.f s.na
  e : wt s.f s.m = wt s.b.f s.na → s.m = s.na ∧ (∀ j, j < s.na → s.a j = j) ∧ ∀ k, k < s.m → s.f k = s.b.f k
theorem ps0_r {b : BlkS} (hr : rightS b = true) : PsR (ps0 b) := ⟨ps0_ok hr, fun k h => absurd h (Nat.not_lt_zero k), fun j h => absurd h (Nat.not_lt_zero j), fun j h => absurd h (Nat.not_lt_zero j), fun h => absurd h (Nat.not_lt_zero _), Nat.le_refl _, fun _ => ⟨rfl, fun j h => absurd h (Nat.not_lt_zero j), fun k h => absurd h (Nat.not_lt_zero k)⟩⟩
theorem reO_rop {s : PS} (h : PsR s) (hlt : s.na < s.b.n) : ropS (reO s (s.b.f s.na)) s.m s.f = true := by
  have hop := rop_iff.1 (opsOk_at (right_ops h.ok.r) hlt).1
  rw [rop_iff]
  refine ⟨fieldBad_reO s hop.1, fun i hi => ?_⟩
  have hi : i < usesS (s.b.f s.na).kind := hi
  have hu2 : usesS (s.b.f s.na).kind ≤ 2 := by unfold usesS; (repeat' split) <;> omega
  obtain ⟨h1, h2, h3⟩ := hop.2 i hi
  have he : useF (reO s (s.b.f s.na)) i = s.a (useF (s.b.f s.na) i).toNat := by
    match i, hi with
    | 0, hi => show (if 0 < usesS (s.b.f s.na).kind then _ else _) = _; rw [if_pos hi]; rfl
    | 1, hi => show (if 1 < usesS (s.b.f s.na).kind then _ else _) = _; rw [if_pos hi]; rfl
    | i + 2, hi => omega
  have hlt' : (useF (s.b.f s.na) i).toNat < s.na := by omega
  rw [he]
  obtain ⟨g1, g2⟩ := h.ok.at_ _ hlt' h3
  exact ⟨g1, g2, h.dA _ hlt' h3⟩
theorem constO_rop (n : Int) (m : Nat) (f : Nat → OpS) : ropS (constO n) m f = true := rop_iff.2 ⟨by simp [fieldBad, constO, rightF, hasR, hasImm, hasOrd], fun i hi => by
  have : usesS (constO n).kind = 0 := by show usesS 1 = 0; decide
  omega⟩
theorem exitO_rop (n : Int) (m : Nat) (f : Nat → OpS) : ropS (exitO n) m f = true := rop_iff.2 ⟨by simp [fieldBad, exitO, rightF, hasR, hasImm, hasOrd], fun i hi => by
  have : usesS (exitO n).kind = 0 := by show usesS 16 = 0; decide
  omega⟩
theorem right_first {b : BlkS} (hr : rightS b = true) : (b.f 0).kind = 14 ∧ (b.f 0).imm = b.pc := by
  unfold rightS head2 at hr
  simp only [Bool.and_eq_true, Bool.not_eq_true', Bool.or_eq_false_iff, bne_eq_false_iff_eq] at hr
  exact hr.1.2
theorem reO_none {s : PS} {o : OpS} (h : usesS o.kind = 0) : reO s o = o := by
  unfold reO
  rw [if_neg (by omega), if_neg (by omega)]
theorem reO_id {s : PS} {b : BlkS} (hr : rightS b = true) {k : Nat} (hk : k < b.n) (ha : ∀ j, j < k → s.a j = j) : reO s (b.f k) = b.f k := by
  have hu := fun i (hi : i < usesS (b.f k).kind) => right_use hr hk hi
  have h0 : (if 0 < usesS (b.f k).kind then s.a (b.f k).a.toNat else (b.f k).a) = (b.f k).a := by
    split
    · rename_i h
      obtain ⟨h1, h2, _⟩ := hu 0 h
      have e : useF (b.f k) 0 = (b.f k).a := rfl
      rw [e] at h1 h2
      rw [ha _ (by omega)]
      omega
    · rfl
  have h1 : (if 1 < usesS (b.f k).kind then s.a (b.f k).b.toNat else (b.f k).b) = (b.f k).b := by
    split
    · rename_i h
      obtain ⟨h1, h2, _⟩ := hu 1 h
      have e : useF (b.f k) 1 = (b.f k).b := rfl
      rw [e] at h1 h2
      rw [ha _ (by omega)]
      omega
    · rfl
  unfold reO
  rw [h0, h1]
theorem out_kinds {s : PS} {o : OpS} {r : One} (h : KnO s o r) : (∃ x, Laid s r x ∧ (x = o ∨ (o.kind = 8 ∧ ∃ n, x = constO n) ∨ (o.kind = 15 ∧ x = exitO o.imm ∧ r.e = true))) ∨ (Gone s r ∧ (((o.kind = 2 ∨ o.kind = 4 ∨ o.kind = 6) ∧ ∃ j, j < s.kn ∧ r.v = s.kv j) ∨ o.kind = 15)) := by
  rcases h with ⟨x, hl, h⟩ | h
  · refine .inl ⟨x, hl, ?_⟩
    rcases h with h | h | h
    · exact .inl (h.elim (·.1) (·.1))
    · exact .inr (.inl ⟨h.1, h.2.1⟩)
    · exact .inr (.inr h)
  · exact .inr h
theorem after_r {s : PS} (h : PsR s) (hlt : s.na < s.b.n) : PsR (afterP s) := by
  have hok := after_ok h.ok hlt
  have ho := nextP_ok h.ok hlt
  have hout := out_kinds (r := nextP s) (show KnO s (reO s (s.b.f s.na)) (nextP s) from one_out s _)
  have hkn := one_known s (reO s (s.b.f s.na))
  have hrop := reO_rop h hlt
  have hropi := rop_iff.1 hrop
  have hm := h.ok.m
  have hfst := right_first h.ok.r
  have hid : (∀ j, j < s.na → s.a j = j) → reO s (s.b.f s.na) = s.b.f s.na := fun ha => reO_id h.ok.r hlt ha
  have hz : s.na = 0 → reO s (s.b.f s.na) = s.b.f 0 := fun e => by rw [e]; exact reO_none (by rw [hfst.1]; decide)
  have hkd : (reO s (s.b.f s.na)).kind = (s.b.f s.na).kind := rfl
  have hwo : wOp (reO s (s.b.f s.na)) = wOp (s.b.f s.na) := rfl
  change KnN s (reO s (s.b.f s.na)) (nextP s) at hkn
  revert hok
  unfold afterP
  intro hok
  generalize reO s (s.b.f s.na) = o at *
  generalize nextP s = r at *
  obtain ⟨⟨rb, rm, rf, rna, ra, rkn, rkk, rkr, rkv⟩, rv, re, rl⟩ := r
  obtain ⟨hb, hna, ha, hmm, hf, hkr, hv⟩ := ho
  simp only at *
  subst hb hna ha
  have hoa : 1 ≤ usesS o.kind → 0 ≤ o.a ∧ o.a < s.m ∧ defS (s.f o.a.toNat).kind = true := fun hu => hropi.2 0 hu
  rcases hout with ⟨x, hl, hx⟩ | ⟨hg, hx⟩
  · obtain ⟨hl1, hl2, hl3⟩ := hl
    simp only at hl1 hl2 hl3
    subst hl1
    obtain rfl : rf = fun i => if i < s.m then s.f i else x := funext hl2
    subst hl3
    have hold : ∀ i, i < s.m → (fun i => if i < s.m then s.f i else x) i = s.f i := fun i hi => if_pos hi
    have hnew : (fun i => if i < s.m then s.f i else x) s.m = x := if_neg (Nat.lt_irrefl _)
    have hxr : ropS x s.m s.f = true := by
      rcases hx with rfl | ⟨_, n, rfl⟩ | ⟨_, rfl, _⟩
      · exact hrop
      · exact constO_rop _ _ _
      · exact exitO_rop _ _ _
    have hxd : defS o.kind = true → defS x.kind = true := fun hd => by
      rcases hx with rfl | ⟨_, n, rfl⟩ | ⟨h15, rfl, _⟩
      · exact hd
      · show defS 1 = true; decide
      · rw [h15] at hd; exact absurd hd (by decide)
    have hxw : wOp x ≤ wOp o := by
      rcases hx with rfl | ⟨h8, n, rfl⟩ | ⟨h15, rfl, _⟩
      · exact Nat.le_refl _
      · have : wOp (constO n) = 1 := by simp [wOp, constO]
        rw [this]; exact wOp_pos o
      · have : wOp (exitO o.imm) = 1 := by simp [wOp, exitO]
        rw [this]; exact wOp_pos o
    have hxe : wOp x = wOp o → x = o := fun he => by
      rcases hx with rfl | ⟨h8, n, rfl⟩ | ⟨h15, rfl, _⟩
      · rfl
      · have h1 : wOp (constO n) = 1 := by simp [wOp, constO]
        have h2 : wOp o = 2 := by simp [wOp, h8]
        omega
      · have h1 : wOp (exitO o.imm) = 1 := by simp [wOp, exitO]
        have h2 : wOp o = 2 := by simp [wOp, h15]
        omega
    have hwt : wt (fun i => if i < s.m then s.f i else x) (s.m + 1) = wt s.f s.m + wOp x := by
      simp only [wt]
      rw [wt_congr hold, if_neg (Nat.lt_irrefl _)]
    refine ⟨hok, fun k hk => ?_, fun j hj hd => ?_, fun j hj => ?_, fun _ => ?_, ?_, fun he => ?_⟩
    · have hk : k < s.m + 1 := hk
      by_cases e : k = s.m
      · subst e
        show ropS ((fun i => if i < s.m then s.f i else x) s.m) s.m _ = true
        rw [hnew]
        exact rop_congr hold hxr
      · show ropS ((fun i => if i < s.m then s.f i else x) k) k _ = true
        rw [hold k (by omega)]
        exact rop_congr (fun i hi => hold i (by omega)) (h.op k (by omega))
    · have hj : j < s.na + 1 := hj
      have hd : defS (s.b.f j).kind = true := hd
      show defS ((fun i => if i < s.m then s.f i else x) (if j < s.na then s.a j else (s.m : Int)).toNat).kind = true
      by_cases e : j < s.na
      · have := h.ok.at_ j e hd
        rw [if_pos e, hold _ (by omega)]
        exact h.dA j e hd
      · have e2 : j = s.na := by omega
        subst e2
        rw [if_neg e, Int.toNat_natCast, hnew]
        exact hxd (by rw [hkd]; exact hd)
    · show defS ((fun i => if i < s.m then s.f i else x) (rkv j).toNat).kind = true
      rcases hkn j hj with ⟨i, hi, e⟩ | ⟨e, hu⟩ | ⟨e, hd, hl⟩
      · have e : rkv j = s.kv i := e
        have := h.ok.kn i hi
        rw [e, hold _ (by omega)]
        exact h.dK i hi
      · have e : rkv j = o.a := e
        obtain ⟨g1, g2, g3⟩ := hoa hu
        rw [e, hold _ (by omega)]
        exact g3
      · have e : rkv j = (s.m : Int) := e
        rw [e, Int.toNat_natCast, hnew]
        exact hxd hd
    · show 0 < s.m + 1 ∧ (fun i => if i < s.m then s.f i else x) 0 = s.b.f 0
      refine ⟨by omega, ?_⟩
      by_cases e : s.na = 0
      · have hm0 : s.m = 0 := by omega
        have hx0 : x = o := by
          rcases hx with rfl | ⟨h8, _⟩ | ⟨h15, _⟩
          · rfl
          · rw [hz e] at h8; rw [hfst.1] at h8; exact absurd h8 (by decide)
          · rw [hz e] at h15; rw [hfst.1] at h15; exact absurd h15 (by decide)
        show (if 0 < s.m then s.f 0 else x) = _
        rw [if_neg (by omega), hx0, hz e]
      · obtain ⟨g1, g2⟩ := h.hd (by omega)
        rw [hold 0 g1, g2]
    · show wt (fun i => if i < s.m then s.f i else x) (s.m + 1) ≤ wt s.b.f (s.na + 1)
      rw [hwt]
      simp only [wt]
      have := h.w
      omega
    · have he : wt (fun i => if i < s.m then s.f i else x) (s.m + 1) = wt s.b.f (s.na + 1) := he
      rw [hwt] at he
      simp only [wt] at he
      have hw := h.w
      obtain ⟨g1, g2, g3⟩ := h.e (by omega)
      have hxo := hxe (by omega)
      show s.m + 1 = s.na + 1 ∧ (∀ j, j < s.na + 1 → (if j < s.na then s.a j else (s.m : Int)) = j) ∧ ∀ k, k < s.m + 1 → (fun i => if i < s.m then s.f i else x) k = s.b.f k
      refine ⟨by omega, fun j hj => ?_, fun k hk => ?_⟩
      · split
        · exact g2 j (by assumption)
        · omega
      · by_cases e : k = s.m
        · subst e
          rw [hnew, hxo, hid g2, g1]
        · rw [hold k (by omega)]
          exact g3 k (by omega)
  · obtain ⟨hg1, hg2, hg3⟩ := hg
    simp only at hg1 hg2 hg3
    subst hg1 hg2
    refine ⟨hok, h.op, fun j hj hd => ?_, fun j hj => ?_, fun _ => ?_, ?_, fun he => ?_⟩
    · have hj : j < s.na + 1 := hj
      have hd : defS (s.b.f j).kind = true := hd
      show defS (s.f (if j < s.na then s.a j else rv).toNat).kind = true
      by_cases e : j < s.na
      · rw [if_pos e]; exact h.dA j e hd
      · have e2 : j = s.na := by omega
        subst e2
        rw [if_neg e]
        rcases hx with ⟨_, i, hi, hvi⟩ | h15
        · rw [show rv = s.kv i from hvi]; exact h.dK i hi
        · rw [← hkd, h15] at hd; exact absurd hd (by decide)
    · show defS (s.f (rkv j).toNat).kind = true
      rcases hkn j hj with ⟨i, hi, e⟩ | ⟨e, hu⟩ | ⟨e, hd, hl⟩
      · rw [show rkv j = s.kv i from e]; exact h.dK i hi
      · rw [show rkv j = o.a from e]; exact (hoa hu).2.2
      · exact absurd hl.m (by show ¬ s.m = s.m + 1; omega)
    · show 0 < s.m ∧ s.f 0 = s.b.f 0
      by_cases e : s.na = 0
      · exfalso
        have h14 : o.kind = 14 := by rw [hz e]; exact hfst.1
        rcases hx with ⟨hk, _⟩ | hk
        · rw [h14] at hk; exact absurd hk (by decide)
        · rw [h14] at hk; exact absurd hk (by decide)
      · exact h.hd (by omega)
    · show wt s.f s.m ≤ wt s.b.f (s.na + 1)
      simp only [wt]
      have := h.w
      omega
    · exfalso
      have he : wt s.f s.m = wt s.b.f (s.na + 1) := he
      simp only [wt] at he
      have := h.w
      have := wOp_pos (s.b.f s.na)
      omega
end Go.Proofs.Ytmbnakinhnkabaa

namespace Go.Proofs.Ytmbnakinhnkabaa
open Go.AM
set_option maxRecDepth 100000
set_option linter.unusedSimpArgs false
set_option linter.unusedVariables false
def Nd (s : PS) : Prop := ∀ k, k < s.m → endS (s.f k).kind = false
theorem end_at {b : BlkS} (hr : rightS b = true) {k : Nat} (hk : k < b.n) : endS (b.f k).kind = true ↔ k + 1 = b.n := by
  rw [(opsOk_at (right_ops hr) hk).2, decide_eq_true_eq]
  omega
theorem after_nd {s : PS} (h : PsR s) (hn : Nd s) (hlt : s.na < s.b.n) (he : (nextP s).e = false) (hl : s.na + 1 < s.b.n) : Nd (afterP s) := by
  have hout := out_kinds (r := nextP s) (show KnO s (reO s (s.b.f s.na)) (nextP s) from one_out s _)
  have hne : ¬ endS (s.b.f s.na).kind = true := fun e => by have := (end_at h.ok.r hlt).1 e; omega
  have hkd : (reO s (s.b.f s.na)).kind = (s.b.f s.na).kind := rfl
  intro k hk
  have hk : k < (nextP s).s.m := hk
  show endS ((nextP s).s.f k).kind = false
  rcases hout with ⟨x, hl', hx⟩ | ⟨hg, hx⟩
  · rw [hl'.m] at hk
    rw [hl'.f]
    split
    · exact hn k (by assumption)
    · rcases hx with rfl | ⟨_, n, rfl⟩ | ⟨_, rfl, e⟩
      · rw [hkd]; simpa using hne
      · show endS 1 = false; decide
      · rw [he] at e; cases e
  · rw [hg.m] at hk
    rw [hg.f]
    exact hn k hk
def EndOk (s : PS) : Prop := ∃ m0, s.m = m0 + 1 ∧ endS (s.f m0).kind = true ∧ ∀ k, k < m0 → endS (s.f k).kind = false
theorem after_end {s : PS} (h : PsR s) (hn : Nd s) (hlt : s.na < s.b.n) (hc : (nextP s).e = true ∨ s.na + 1 = s.b.n) : EndOk (afterP s) := by
  have hout := show KnO s (reO s (s.b.f s.na)) (nextP s) from one_out s _
  have hkd : (reO s (s.b.f s.na)).kind = (s.b.f s.na).kind := rfl
  have fin : ∀ x, Laid s (nextP s) x → endS x.kind = true → EndOk (afterP s) := fun x hl hx => by
    refine ⟨s.m, hl.m, ?_, fun k hk => ?_⟩
    · show endS ((nextP s).s.f s.m).kind = true
      rw [hl.f, if_neg (Nat.lt_irrefl _)]; exact hx
    · show endS ((nextP s).s.f k).kind = false
      rw [hl.f, if_pos hk]; exact hn k hk
  have hend : (nextP s).e = false → endS (reO s (s.b.f s.na)).kind = true := fun e => by
    rw [hkd, end_at h.ok.r hlt]
    rcases hc with hc | hc
    · rw [hc] at e; cases e
    · exact hc
  have no : ∀ {k : Int}, (k = 8 ∨ k = 15 ∨ k = 2 ∨ k = 4 ∨ k = 6) → endS k = true → False := fun {k} hk he => by
    rcases hk with rfl | rfl | rfl | rfl | rfl <;> exact absurd he (by decide)
  rcases hout with ⟨x, hl, hx⟩ | ⟨hg, hx⟩
  · rcases hx with hx | ⟨h8, hx, he⟩ | ⟨h15, rfl, he⟩
    · have hxo : x = reO s (s.b.f s.na) := hx.elim (·.1) (·.1)
      have he : (nextP s).e = false := hx.elim (·.2.1) (·.2)
      exact fin x hl (by rw [hxo]; exact hend he)
    · exact (no (.inl h8) (hend he)).elim
    · exact fin _ hl (by show endS 16 = true; decide)
  · have he := hend hg.e
    rcases hx with ⟨hk, _⟩ | hk
    · exact (no (by rcases hk with h | h | h <;> simp [h]) he).elim
    · exact (no (.inr (.inl hk)) he).elim
theorem stepN_fin : ∀ (t : Nat) {s : PS}, PsR s → Nd s → s.na < s.b.n → s.b.n - s.na ≤ t → PsR (stepN t s) ∧ EndOk (stepN t s) ∧ 0 < (stepN t s).na ∧ (stepN t s).b = s.b
  | 0, s, _, _, hlt, ht => by omega
  | t + 1, s, h, hn, hlt, ht => by
    have hr := after_r h hlt
    have hb := after_b h.ok hlt
    have hna := after_na h.ok hlt
    simp only [stepN, hlt, if_true]
    cases he : (nextP s).e with
    | true =>
      simp only [if_true]
      exact ⟨hr, after_end h hn hlt (.inl he), by rw [hna]; omega, hb⟩
    | false =>
      simp only [Bool.false_eq_true, if_false]
      by_cases hl : s.na + 1 < s.b.n
      · obtain ⟨g1, g2, g3, g4⟩ := stepN_fin t hr (after_nd h hn hlt he hl) (by rw [hb, hna]; exact hl) (by rw [hb, hna]; omega)
        exact ⟨g1, g2, g3, g4.trans hb⟩
      · have hend := after_end h hn hlt (.inr (by omega))
        have hst : stepN t (afterP s) = afterP s := by
          cases t with
          | zero => rfl
          | succ t => simp only [stepN]; rw [if_neg (by rw [hb, hna]; omega)]
        rw [hst]
        exact ⟨hr, hend, by rw [hna]; omega, hb⟩
theorem step_fin {b : BlkS} (hr : rightS b = true) : PsR (stepS b) ∧ EndOk (stepS b) ∧ 0 < (stepS b).na ∧ (stepS b).b = b :=
  stepN_fin b.n (ps0_r hr) (fun k h => absurd h (Nat.not_lt_zero k)) (right_n hr).1 (by show b.n - 0 ≤ b.n; omega)
theorem fold_n {b : BlkS} (hr : rightS b = true) : 1 ≤ (foldB b).n ∧ (foldB b).n ≤ b.n := by
  obtain ⟨h1, ⟨m0, h2, _⟩, h3, h4⟩ := step_fin hr
  have hm := h1.ok.m
  have hna := h1.ok.na
  rw [h4] at hna
  show 1 ≤ (stepS b).m ∧ (stepS b).m ≤ b.n
  omega
theorem fold_right {b : BlkS} (hr : rightS b = true) : rightS (foldB b) = true := by
  obtain ⟨h1, ⟨m0, h2, h3, h4⟩, h5, h6⟩ := step_fin hr
  have hn := fold_n hr
  have hbn := right_n hr
  have hfst := right_first hr
  obtain ⟨g1, g2⟩ := h1.hd h5
  have ho : opsOk (foldB b) (foldB b).n = true := opsOk_all fun k hk => by
    have hk : k < (stepS b).m := hk
    refine ⟨h1.op k hk, ?_⟩
    show endS ((stepS b).f k).kind = decide ((k : Int) = ((stepS b).m : Int) - 1)
    by_cases e : k = m0
    · subst e
      rw [h3, decide_eq_true (by omega)]
    · rw [h4 k (by omega), decide_eq_false (by omega)]
  have h0 : ((foldB b).f 0).kind = 14 ∧ ((foldB b).f 0).imm = b.pc := by
    show ((stepS b).f 0).kind = 14 ∧ ((stepS b).f 0).imm = b.pc
    rw [g2, h6]; exact hfst
  unfold rightS
  rw [ho, Bool.and_true]
  unfold rightS at hr
  simp only [Bool.and_eq_true, Bool.not_eq_true'] at hr ⊢
  constructor
  · have hh := hr.1.1
    unfold head1 at hh ⊢
    simp only [Bool.or_eq_false_iff, decide_eq_false_iff_not] at hh ⊢
    obtain ⟨⟨⟨⟨⟨⟨a1, a2⟩, a3⟩, a4⟩, a5⟩, a6⟩, a7⟩ := hh
    exact ⟨⟨⟨⟨⟨⟨a1, a2⟩, a3⟩, a4⟩, a5⟩, by omega⟩, by omega⟩
  · unfold head2
    rw [h0.1, h0.2]
    show ((14 : Int) != 14 || b.pc != b.pc) = false
    simp
theorem fold_lt {b : BlkS} (hr : rightS b = true) (hc : chgS b = true) : wt (foldB b).f (foldB b).n < wt b.f b.n := by
  obtain ⟨h1, _, _, h6⟩ := step_fin hr
  have hw := h1.w
  have he := h1.e
  have hna := h1.ok.na
  rw [h6] at hw he hna
  have hmono := wt_mono b.f hna
  show wt (stepS b).f (stepS b).m < wt b.f b.n
  rcases Nat.lt_or_ge (wt (stepS b).f (stepS b).m) (wt b.f b.n) with h | h
  · exact h
  · exfalso
    obtain ⟨e1, _, e3⟩ := he (by omega)
    have hn : (stepS b).na = b.n := by
      rcases Nat.lt_or_ge (stepS b).na b.n with hlt | hge
      · exfalso
        have h2 := wt_mono b.f (show (stepS b).na + 1 ≤ b.n from hlt)
        simp only [wt] at h2
        have := wOp_pos (b.f (stepS b).na)
        omega
      · omega
    have : eqOps (stepS b).m b.n (stepS b).f b.f = true := eqOps_iff.2 ⟨by omega, e3⟩
    unfold chgS at hc
    rw [this] at hc
    cases hc
def foldIt : Nat → BlkS → BlkS
  | 0, b => foldB b
  | t + 1, b => if chgS b = true then foldIt t (foldB b) else foldB b
def foldF (b : BlkS) : BlkS := foldIt (wt b.f b.n) b
theorem foldIt_more : ∀ {t u : Nat} {b : BlkS}, rightS b = true → wt b.f b.n ≤ t → wt b.f b.n ≤ u → foldIt t b = foldIt u b
  | 0, u, b, hr, ht, hu => by
    have := fold_n hr
    have hw := wt_mono b.f (show 1 ≤ b.n from (right_n hr).1)
    simp only [wt] at hw
    have := wOp_pos (b.f 0)
    omega
  | t + 1, 0, b, hr, ht, hu => by
    have hw := wt_mono b.f (show 1 ≤ b.n from (right_n hr).1)
    simp only [wt] at hw
    have := wOp_pos (b.f 0)
    omega
  | t + 1, u + 1, b, hr, ht, hu => by
    simp only [foldIt]
    split
    · rename_i hc
      have := fold_lt hr hc
      exact foldIt_more (fold_right hr) (by omega) (by omega)
    · rfl
theorem foldF_step {b : BlkS} (hr : rightS b = true) : foldF b = if chgS b = true then foldF (foldB b) else foldB b := by
  unfold foldF
  have hw := wt_mono b.f (show 1 ≤ b.n from (right_n hr).1)
  simp only [wt] at hw
  have := wOp_pos (b.f 0)
  obtain ⟨t, ht⟩ : ∃ t, wt b.f b.n = t + 1 := ⟨wt b.f b.n - 1, by omega⟩
  rw [ht]
  simp only [foldIt]
  split
  · rename_i hc
    have := fold_lt hr hc
    exact foldIt_more (fold_right hr) (by omega) (Nat.le_refl _)
  · rfl
def retFold (b : BlkS) (i : Nat) : AV := if rightS b = true then .tup [.agg (blkL (foldF b) i), .c (.int .i64 0)] else .tup [.agg zBlkL, .c (.int .i64 4)]
def heapFold0 (b : BlkS) : Heap := if rightS b = true then ⟨3, [(2, blkB (foldF b) 1), (1, opsW (foldF b).n (foldF b).f), (0, opsB b.n b.f)]⟩ else ⟨2, [(1, zblk), (0, opsB b.n b.f)]⟩
def heapFold (b : BlkS) : Heap := if rightS b = true then ⟨2, [(1, opsW (foldF b).n (foldF b).f), (0, opsB b.n b.f)]⟩ else ⟨1, [(0, opsB b.n b.f)]⟩
def newStep (b : BlkS) : List Blk := if rightS b = true then [opsW (stepS b).m (stepS b).f] else []
theorem con26_at (b : BlkS) (i n : Nat) (X : List (Nat × Blk)) (w : Bool) (h0 : getB X i = some ⟨6, some b.n, fun i => opL (b.f i), 39, w⟩) (hlt : i < n) (hkl : keysLt X n) : Con Try.prog 26 [.agg (blkL b i)] ⟨n, X⟩ (fun v H' => v = retStep b n ∧ H' = addBs ⟨n, X⟩ (newStep b)) := by
  refine ((con26 b).frame (H := ⟨n, X⟩) [i] rfl ⟨trivial, trivial⟩ ⟨hlt, trivial⟩ hkl (by simp only [leBlks, nthO, h0]; exact ⟨ops_le b.n b.f w, trivial⟩) (by simp only [leArgs, leV, leV1, blkL, leSegs, leSeg, leC, leA, nthO, and_self])).weaken ?_
  rintro v H' ⟨v0, H0', ⟨rfl, rfl⟩, rfl, rfl⟩
  unfold retStep heapStep newStep
  cases rightS b
  · simp only [framed, dropB_ro i b.n 0]
    exact ⟨rfl, rfl⟩
  · simp only [framed, dropB_ro i b.n 0]
    exact ⟨rfl, rfl⟩
end Go.Proofs.Ytmbnakinhnkabaa

namespace Go.Proofs.Ytmbnakinhnkabaa
open Go.AM
set_option maxRecDepth 100000
set_option linter.unusedSimpArgs false
set_option linter.unusedVariables false
def stB0 (b : BlkS) : St := ⟨[⟨2, [], .c (.ptr ⟨2, 0, 0, 0⟩)⟩, ⟨1, [], .c (.ptr ⟨1, 0, 0, 0⟩)⟩], ⟨3, [(2, zblk), (1, blkB b 0), (0, opsB b.n b.f)]⟩⟩
def stB (b cb : BlkS) : St := ⟨[⟨2, [], .c (.ptr ⟨2, 0, 0, 0⟩)⟩, ⟨1, [], .c (.ptr ⟨1, 0, 0, 0⟩)⟩], ⟨4, [(3, opsW cb.n cb.f), (2, zblk), (1, blkB cb 3), (0, opsB b.n b.f)]⟩⟩
theorem end_fold {l : List Slot} {H : Heap} {b T : BlkS} (hF : T = foldF b) (hr : rightS b = true) (N : Nat) (hN : notIn N [0, 2]) (s2 : slotAt l 2 = some ⟨2, [], .c (.ptr ⟨2, 0, 0, 0⟩)⟩) (s3 : slotAt l 3 = some ⟨3, [], .c (.int .i64 0)⟩)
    (g2 : getB H.blks 2 = some (blkB T N)) (g5 : getB H.blks N = some (opsW T.n T.f)) (g0 : getB H.blks 0 = some (opsB b.n b.f)) : endQ (LeS 1) [.cn 4 2, .tmp 3] (fun v H' => v = retFold b 1 ∧ H' = heapFold0 b) .ret ⟨l, H⟩ := by
  subst hF
  have hR : retFold b 1 = .tup [.agg (blkL (foldF b) 1), .c (.int .i64 0)] := by unfold retFold; rw [if_pos hr]
  have hH : heapFold0 b = ⟨3, [(2, blkB (foldF b) 1), (1, opsW (foldF b).n (foldF b).f), (0, opsB b.n b.f)]⟩ := by unfold heapFold0; rw [if_pos hr]
  rw [hR, hH]
  obtain ⟨n0, n2, _⟩ := hN
  have n0' : Nat.beq 0 N = false := by rw [beq_commG]; exact n0
  refine end_of ⟨[⟨2, [], .c (.ptr ⟨2, 0, 0, 0⟩)⟩, ⟨3, [], .c (.int .i64 0)⟩], ⟨3, [(2, blkB (foldF b) 1), (1, opsW (foldF b).n (foldF b).f), (0, opsB b.n b.f)]⟩⟩ (LeS.intro [0, N, 2] (fun i h => idtF i h) (by simp only [diff, notIn, n0', n2, Nat.beq, and_self]) rfl (by simp only [slotsLe, s2, s3, leV, leV1, leC, leA, nthO, and_self]) ?_) ?_
  · simp only [leBlks, nthO, g2, g5, g0]
    exact ⟨blk_le' (foldF b) N 1 rfl, opsw_le _ _ _ (fun _ _ => rfl), ops_le b.n b.f false, trivial⟩
  · simp only [endF, resL, resA, St.get, slotAt, Nat.beq, sfx, eqP, ldn, getB, blkB, blkL, rowNeed, cut, dropS, takeS, Seg.size, nsub, noTup, resV]
    exact ⟨by first | rfl | trivial, by first | rfl | trivial⟩
set_option maxHeartbeats 8000000 in
theorem con25_0 (b : BlkS) : Con Try.prog 25 [.agg (blkL b 0)] ⟨1, [(0, opsB b.n b.f)]⟩ (fun v H' => v = retFold b 1 ∧ H' = heapFold0 b) := by
  (refine con_of_run mixed (fn := Try.f25) (by kernel_rfl) (by kernel_rfl) C25_ok (rs := [.cn 4 2, .tmp 3]) (by kernel_rfl) (Nat.le_of_ble_eq_true (by kernel_rfl)) ?_; unfold C25; simp only [initT, Nat.reduceAdd])
  refine run_seq ?_
  (refine run_regionL fun K hK => ?_; (try (simp (maxSteps := 10000000) only [blkL, opsB, partsOf, fillS, C25r0, C25r1, C25r2, C25r3, C25r4, rwp_nil, rwp_cons, rwpK_app, aop, gpath, St.get, slotAt, sfx, eqP, segsOf, St.put, addBlk, getB, setB, delB, ld1, ldn, st1, stn, setRow, rowNeed, segAt, nsub, bin, un, eqB, isShift, sameK, arith, shiftR, getsl, selB_or, selB_and, beqb, shed, addN, Nat.beq, Seg.size, sizes, imp, needP, andN, appL, argsOf, ptrsOf, aasOf, cut, takeS, dropS, putS, partsOf, fillS, fieldOf, nthA, negIf, nilq, nilB, eqS, eqF, eqS1, andP, kin, slcS, strOk, plusA, bndHi, leN, optG, roH, roL, initT, exOk, exAll, wrAddr, Nat.reduceAdd, Nat.reduceSub, Nat.reduceMul, Int.reduceToNat, List.append_nil, List.nil_append, List.cons_append, mapR, mapR1, keyL, keyOk, keyP, colsPut, colsDel, zcols, eqT, idxT, cat, cpy, ite_int, ite_bool, ite_seg, ite_segs, ite_nil, ite_twice, Int.toNat_natCast, app, addBs, tob])); (repeat (first | (refine And.intro ?_ ?_; · first | trivial | assumption | omega))); refine hK _ (stB0 b) (LeS.intro [0, 1, 2] (fun i h => idtF i h) (by simp only [diff, notIn, Nat.beq, and_self]) rfl (by simp only [stB0, slotsLe, slotAt, Nat.beq, leV, leV1, leC, leA, nthO, Int.natCast_zero, Int.ofNat_zero, and_self]) ⟨z_le, blk_le' b 0 0 rfl, ops_le b.n b.f false, trivial⟩) ?_; clear hK K)
  refine run_block ?_
  by_cases hr : rightS b = true
  rotate_left
  · have hr0 : rightS b = false := by simpa using hr
    have e3 : ∀ n, retStep b n = .tup [.agg zBlkL, .c (.bool false), .c (.int .i64 4)] := fun n => by unfold retStep; rw [if_neg hr]
    have e4 : newStep b = [] := by unfold newStep; rw [if_neg hr]
    refine run_loop (fun t st => st = stB0 b) 0 rfl ?_
    rintro t st rfl
    unfold stB0
    repeat' (first | refine run_seq ?_ | refine run_skip ?_ | (refine run_region fun K hK => ?_; (try (simp (maxSteps := 10000000) only [blkB, blkL, opL, opsB, opsW, zblk, e3, e4, partsOf, fillS, zBlkL, C25r0, C25r1, C25r2, C25r3, C25r4, rwp_nil, rwp_cons, rwpK_app, aop, gpath, St.get, slotAt, sfx, eqP, segsOf, St.put, addBlk, getB, setB, delB, ld1, ldn, st1, stn, setRow, rowNeed, segAt, nsub, bin, un, eqB, isShift, sameK, arith, shiftR, getsl, selB_or, selB_and, beqb, shed, addN, Nat.beq, Seg.size, sizes, imp, needP, andN, appL, argsOf, ptrsOf, aasOf, cut, takeS, dropS, putS, partsOf, fillS, fieldOf, nthA, negIf, nilq, nilB, eqS, eqF, eqS1, andP, kin, slcS, strOk, plusA, bndHi, leN, optG, roH, roL, initT, exOk, exAll, wrAddr, Nat.reduceAdd, Nat.reduceSub, Nat.reduceMul, Int.reduceToNat, List.append_nil, List.nil_append, List.cons_append, mapR, mapR1, keyL, keyOk, keyP, colsPut, colsDel, zcols, eqT, idxT, cat, cpy, ite_int, ite_bool, ite_seg, ite_segs, ite_nil, ite_twice, Int.toNat_natCast, app, addBs, tob])); (repeat (first | (refine And.intro ?_ ?_; · (first | trivial | assumption | omega | exact ⟨by omega, by omega⟩ | (intros; first | trivial | assumption | omega))) | ((first | (refine call_t _ (con26_at b 0 _ _ _ rfl (Nat.le_of_ble_eq_true rfl) (by simp [keysLt])) ?_; rintro v H' ⟨rfl, rfl⟩) | refine call_q _ (con26_at b 0 _ _ _ rfl (Nat.le_of_ble_eq_true rfl) (by simp [keysLt])) ?_ | refine call_g _ (imp_of (con26_at b 0 _ _ _ rfl (Nat.le_of_ble_eq_true rfl) (by simp [keysLt]))) ?_); simp (maxSteps := 10000000) only [blkB, blkL, opL, opsB, opsW, zblk, e3, e4, partsOf, fillS, zBlkL, C25r0, C25r1, C25r2, C25r3, C25r4, rwp_nil, rwp_cons, rwpK_app, aop, gpath, St.get, slotAt, sfx, eqP, segsOf, St.put, addBlk, getB, setB, delB, ld1, ldn, st1, stn, setRow, rowNeed, segAt, nsub, bin, un, eqB, isShift, sameK, arith, shiftR, getsl, selB_or, selB_and, beqb, shed, addN, Nat.beq, Seg.size, sizes, imp, needP, andN, appL, argsOf, ptrsOf, aasOf, cut, takeS, dropS, putS, partsOf, fillS, fieldOf, nthA, negIf, nilq, nilB, eqS, eqF, eqS1, andP, kin, slcS, strOk, plusA, bndHi, leN, optG, roH, roL, initT, exOk, exAll, wrAddr, Nat.reduceAdd, Nat.reduceSub, Nat.reduceMul, Int.reduceToNat, List.append_nil, List.nil_append, List.cons_append, mapR, mapR1, keyL, keyOk, keyP, colsPut, colsDel, zcols, eqT, idxT, cat, cpy, ite_int, ite_bool, ite_seg, ite_segs, ite_nil, ite_twice, Int.toNat_natCast, app, addBs, tob]))); with_reducible refine hK _ ?_; clear hK K) | (refine run_cond rfl (fun hc => ?_) (fun hc => ?_) <;> try (simp only [*, Bool.true_eq_false, Bool.false_eq_true, Bool.not_true, Bool.not_false, Bool.true_or, Bool.or_true, Bool.false_or, Bool.or_false, Bool.false_and, Bool.and_false, bne_self_eq_false, beq_self_eq_true] at hc; done)) | refine run_block ?_ | refine run_ret ?_ | refine run_nil ?_ | refine blk_normal ?_ | refine blk_ret ?_ | refine blk_here ?_ | refine blk_there rfl ?_ | refine loop_exit ?_ | refine loop_ret ?_ | refine un_exit ?_ | refine un_ret ?_ | refine unE_exit ?_ | refine unE_ret ?_ | refine un_normal ?_)
    refine end_of ⟨[⟨2, [], .c (.ptr ⟨1, 0, 0, 0⟩)⟩, ⟨3, [], .c (.int .i64 4)⟩], ⟨2, [(1, zblk), (0, opsB b.n b.f)]⟩⟩ (LeS.intro [0, 2] (fun i h => idtF i h) (by simp only [diff, notIn, Nat.beq, and_self]) rfl (by simp only [slotsLe, slotAt, Nat.beq, leV, leV1, leC, leA, nthO, and_self]) ⟨z_le, ops_le b.n b.f false, trivial⟩) ?_
    simp only [endF, resL, resA, St.get, slotAt, Nat.beq, sfx, eqP, ldn, getB, zblk, rowNeed, cut, dropS, takeS, Seg.size, nsub, noTup, resV]
    exact ⟨by simp only [retFold, zBlkL, hr0, Bool.false_eq_true, if_false], by simp only [heapFold0, hr0, Bool.false_eq_true, if_false, zblk]⟩
  refine run_loop (fun t st => ∃ cb, t = wt cb.f cb.n ∧ rightS cb = true ∧ foldF cb = foldF b ∧ ((cb = b ∧ st = stB0 b) ∨ st = stB b cb)) (wt b.f b.n) ⟨b, rfl, hr, rfl, .inl ⟨rfl, rfl⟩⟩ ?_
  rintro t st ⟨cb, rfl, hcr, hF, ⟨hcb, rfl⟩ | rfl⟩
  · subst hcb
    unfold stB0
    have e3 : retStep cb 3 = .tup [.agg (blkL (foldB cb) 3), .c (.bool (chgS cb)), .c (.int .i64 0)] := by unfold retStep; rw [if_pos hcr]
    have e4 : newStep cb = [opsW (stepS cb).m (stepS cb).f] := by unfold newStep; rw [if_pos hcr]
    repeat' (first | refine run_seq ?_ | refine run_skip ?_ | (refine run_region fun K hK => ?_; (try (simp (maxSteps := 10000000) only [blkB, blkL, opL, opsB, opsW, zblk, e3, e4, partsOf, fillS, C25r0, C25r1, C25r2, rwp_nil, rwp_cons, rwpK_app, aop, gpath, St.get, slotAt, sfx, eqP, segsOf, St.put, addBlk, getB, setB, delB, ld1, ldn, st1, stn, setRow, rowNeed, segAt, nsub, bin, un, eqB, isShift, sameK, arith, shiftR, getsl, selB_or, selB_and, beqb, shed, addN, Nat.beq, Seg.size, sizes, imp, needP, andN, appL, argsOf, ptrsOf, aasOf, cut, takeS, dropS, putS, partsOf, fillS, fieldOf, nthA, negIf, nilq, nilB, eqS, eqF, eqS1, andP, kin, slcS, strOk, plusA, bndHi, leN, optG, roH, roL, initT, exOk, exAll, wrAddr, Nat.reduceAdd, Nat.reduceSub, Nat.reduceMul, Int.reduceToNat, List.append_nil, List.nil_append, List.cons_append, mapR, mapR1, keyL, keyOk, keyP, colsPut, colsDel, zcols, eqT, idxT, cat, cpy, ite_int, ite_bool, ite_seg, ite_segs, ite_nil, ite_twice, Int.toNat_natCast, app, addBs, tob])); (repeat (first | (refine And.intro ?_ ?_; · (first | trivial | assumption | omega | exact ⟨by omega, by omega⟩ | (intros; first | trivial | assumption | omega))) | ((first | (refine call_t _ (con26_at cb 0 _ _ _ rfl (Nat.le_of_ble_eq_true rfl) (by simp [keysLt])) ?_; rintro v H' ⟨rfl, rfl⟩) | refine call_q _ (con26_at cb 0 _ _ _ rfl (Nat.le_of_ble_eq_true rfl) (by simp [keysLt])) ?_ | refine call_g _ (imp_of (con26_at cb 0 _ _ _ rfl (Nat.le_of_ble_eq_true rfl) (by simp [keysLt]))) ?_); simp (maxSteps := 10000000) only [blkB, blkL, opL, opsB, opsW, zblk, e3, e4, partsOf, fillS, C25r0, C25r1, C25r2, rwp_nil, rwp_cons, rwpK_app, aop, gpath, St.get, slotAt, sfx, eqP, segsOf, St.put, addBlk, getB, setB, delB, ld1, ldn, st1, stn, setRow, rowNeed, segAt, nsub, bin, un, eqB, isShift, sameK, arith, shiftR, getsl, selB_or, selB_and, beqb, shed, addN, Nat.beq, Seg.size, sizes, imp, needP, andN, appL, argsOf, ptrsOf, aasOf, cut, takeS, dropS, putS, partsOf, fillS, fieldOf, nthA, negIf, nilq, nilB, eqS, eqF, eqS1, andP, kin, slcS, strOk, plusA, bndHi, leN, optG, roH, roL, initT, exOk, exAll, wrAddr, Nat.reduceAdd, Nat.reduceSub, Nat.reduceMul, Int.reduceToNat, List.append_nil, List.nil_append, List.cons_append, mapR, mapR1, keyL, keyOk, keyP, colsPut, colsDel, zcols, eqT, idxT, cat, cpy, ite_int, ite_bool, ite_seg, ite_segs, ite_nil, ite_twice, Int.toNat_natCast, app, addBs, tob]))); with_reducible refine hK _ ?_; clear hK K) | (refine run_cond rfl (fun hc => ?_) (fun hc => ?_) <;> try (simp only [*, Bool.true_eq_false, Bool.false_eq_true, Bool.not_true, Bool.not_false, Bool.true_or, Bool.or_true, Bool.false_or, Bool.or_false, Bool.false_and, Bool.and_false, bne_self_eq_false, beq_self_eq_true] at hc; done)) | refine run_block ?_ | refine run_ret ?_ | refine run_nil ?_ | refine blk_normal ?_ | refine blk_ret ?_ | refine blk_here ?_ | refine blk_there rfl ?_ | refine loop_exit ?_ | refine loop_ret ?_ | refine un_exit ?_ | refine un_ret ?_ | refine unE_exit ?_ | refine unE_ret ?_ | refine un_normal ?_)
    · have hch : chgS cb = false := by simpa using hc
      have hF1 : foldF cb = foldB cb := by rw [foldF_step hcr, hch]; rfl
      have hF := hF1.symm.trans hF
      repeat' (first | refine run_seq ?_ | refine run_skip ?_ | (refine run_region fun K hK => ?_; (try (simp (maxSteps := 10000000) only [blkB, blkL, opL, opsB, opsW, zblk, e3, e4, partsOf, fillS, C25r0, C25r1, C25r2, C25r3, C25r4, rwp_nil, rwp_cons, rwpK_app, aop, gpath, St.get, slotAt, sfx, eqP, segsOf, St.put, addBlk, getB, setB, delB, ld1, ldn, st1, stn, setRow, rowNeed, segAt, nsub, bin, un, eqB, isShift, sameK, arith, shiftR, getsl, selB_or, selB_and, beqb, shed, addN, Nat.beq, Seg.size, sizes, imp, needP, andN, appL, argsOf, ptrsOf, aasOf, cut, takeS, dropS, putS, partsOf, fillS, fieldOf, nthA, negIf, nilq, nilB, eqS, eqF, eqS1, andP, kin, slcS, strOk, plusA, bndHi, leN, optG, roH, roL, initT, exOk, exAll, wrAddr, Nat.reduceAdd, Nat.reduceSub, Nat.reduceMul, Int.reduceToNat, List.append_nil, List.nil_append, List.cons_append, mapR, mapR1, keyL, keyOk, keyP, colsPut, colsDel, zcols, eqT, idxT, cat, cpy, ite_int, ite_bool, ite_seg, ite_segs, ite_nil, ite_twice, Int.toNat_natCast, app, addBs, tob])); (repeat (first | (refine And.intro ?_ ?_; · (first | trivial | assumption | omega | exact ⟨by omega, by omega⟩ | (intros; first | trivial | assumption | omega))))); with_reducible refine hK _ ?_; clear hK K) | (refine run_cond rfl (fun hc => ?_) (fun hc => ?_) <;> try (simp only [*, Bool.true_eq_false, Bool.false_eq_true, Bool.not_true, Bool.not_false, Bool.true_or, Bool.or_true, Bool.false_or, Bool.or_false, Bool.false_and, Bool.and_false, bne_self_eq_false, beq_self_eq_true] at hc; done)) | refine run_block ?_ | refine run_ret ?_ | refine run_nil ?_ | refine blk_normal ?_ | refine blk_ret ?_ | refine blk_here ?_ | refine blk_there rfl ?_ | refine loop_exit ?_ | refine loop_ret ?_ | refine un_exit ?_ | refine un_ret ?_ | refine unE_exit ?_ | refine unE_ret ?_ | refine un_normal ?_)
      exact end_fold hF hr 3 (by simp only [notIn, Nat.beq, and_self]) rfl rfl rfl rfl rfl
    · have hch : chgS cb = true := by simpa using hc
      have hF1 : foldF cb = foldF (foldB cb) := by rw [foldF_step hcr, hch]; rfl
      have hF := hF1.symm.trans hF
      have hlt := fold_lt hcr hch
      repeat' (first | refine run_seq ?_ | refine run_skip ?_ | (refine run_region fun K hK => ?_; (try (simp (maxSteps := 10000000) only [blkB, blkL, opL, opsB, opsW, zblk, e3, e4, partsOf, fillS, C25r0, C25r1, C25r2, C25r3, C25r4, rwp_nil, rwp_cons, rwpK_app, aop, gpath, St.get, slotAt, sfx, eqP, segsOf, St.put, addBlk, getB, setB, delB, ld1, ldn, st1, stn, setRow, rowNeed, segAt, nsub, bin, un, eqB, isShift, sameK, arith, shiftR, getsl, selB_or, selB_and, beqb, shed, addN, Nat.beq, Seg.size, sizes, imp, needP, andN, appL, argsOf, ptrsOf, aasOf, cut, takeS, dropS, putS, partsOf, fillS, fieldOf, nthA, negIf, nilq, nilB, eqS, eqF, eqS1, andP, kin, slcS, strOk, plusA, bndHi, leN, optG, roH, roL, initT, exOk, exAll, wrAddr, Nat.reduceAdd, Nat.reduceSub, Nat.reduceMul, Int.reduceToNat, List.append_nil, List.nil_append, List.cons_append, mapR, mapR1, keyL, keyOk, keyP, colsPut, colsDel, zcols, eqT, idxT, cat, cpy, ite_int, ite_bool, ite_seg, ite_segs, ite_nil, ite_twice, Int.toNat_natCast, app, addBs, tob])); (repeat (first | (refine And.intro ?_ ?_; · (first | trivial | assumption | omega | exact ⟨by omega, by omega⟩ | (intros; first | trivial | assumption | omega))))); with_reducible refine hK _ ?_; clear hK K) | (refine run_cond rfl (fun hc => ?_) (fun hc => ?_) <;> try (simp only [*, Bool.true_eq_false, Bool.false_eq_true, Bool.not_true, Bool.not_false, Bool.true_or, Bool.or_true, Bool.false_or, Bool.or_false, Bool.false_and, Bool.and_false, bne_self_eq_false, beq_self_eq_true] at hc; done)) | refine run_block ?_ | refine run_ret ?_ | refine run_nil ?_ | refine blk_normal ?_ | refine blk_ret ?_ | refine blk_here ?_ | refine blk_there rfl ?_ | refine loop_exit ?_ | refine loop_ret ?_ | refine un_exit ?_ | refine un_ret ?_ | refine unE_exit ?_ | refine unE_ret ?_ | refine un_normal ?_)
      refine loop_normal (wt (foldB cb).f (foldB cb).n) (stB cb (foldB cb)) hlt (LeS.intro [0, 1, 2, 3] (fun i h => idtF i h) (by simp only [diff, notIn, Nat.beq, and_self]) rfl (by simp only [stB, slotsLe, slotAt, Nat.beq, leV, leV1, leC, leA, nthO, Int.natCast_zero, Int.ofNat_zero, and_self]) ⟨opsw_le _ _ _ (fun _ _ => rfl), z_le, blk_le' (foldB cb) 3 3 rfl, ops_le cb.n cb.f false, trivial⟩) ⟨foldB cb, rfl, fold_right hcr, hF, .inr rfl⟩
  · unfold stB
    have e3 : retStep cb 4 = .tup [.agg (blkL (foldB cb) 4), .c (.bool (chgS cb)), .c (.int .i64 0)] := by unfold retStep; rw [if_pos hcr]
    have e4 : newStep cb = [opsW (stepS cb).m (stepS cb).f] := by unfold newStep; rw [if_pos hcr]
    repeat' (first | refine run_seq ?_ | refine run_skip ?_ | (refine run_region fun K hK => ?_; (try (simp (maxSteps := 10000000) only [blkB, blkL, opL, opsB, opsW, zblk, e3, e4, partsOf, fillS, C25r0, C25r1, C25r2, rwp_nil, rwp_cons, rwpK_app, aop, gpath, St.get, slotAt, sfx, eqP, segsOf, St.put, addBlk, getB, setB, delB, ld1, ldn, st1, stn, setRow, rowNeed, segAt, nsub, bin, un, eqB, isShift, sameK, arith, shiftR, getsl, selB_or, selB_and, beqb, shed, addN, Nat.beq, Seg.size, sizes, imp, needP, andN, appL, argsOf, ptrsOf, aasOf, cut, takeS, dropS, putS, partsOf, fillS, fieldOf, nthA, negIf, nilq, nilB, eqS, eqF, eqS1, andP, kin, slcS, strOk, plusA, bndHi, leN, optG, roH, roL, initT, exOk, exAll, wrAddr, Nat.reduceAdd, Nat.reduceSub, Nat.reduceMul, Int.reduceToNat, List.append_nil, List.nil_append, List.cons_append, mapR, mapR1, keyL, keyOk, keyP, colsPut, colsDel, zcols, eqT, idxT, cat, cpy, ite_int, ite_bool, ite_seg, ite_segs, ite_nil, ite_twice, Int.toNat_natCast, app, addBs, tob])); (repeat (first | (refine And.intro ?_ ?_; · (first | trivial | assumption | omega | exact ⟨by omega, by omega⟩ | (intros; first | trivial | assumption | omega))) | ((first | (refine call_t _ (con26_at cb 3 _ _ _ rfl (Nat.le_of_ble_eq_true rfl) (by simp [keysLt])) ?_; rintro v H' ⟨rfl, rfl⟩) | refine call_q _ (con26_at cb 3 _ _ _ rfl (Nat.le_of_ble_eq_true rfl) (by simp [keysLt])) ?_ | refine call_g _ (imp_of (con26_at cb 3 _ _ _ rfl (Nat.le_of_ble_eq_true rfl) (by simp [keysLt]))) ?_); simp (maxSteps := 10000000) only [blkB, blkL, opL, opsB, opsW, zblk, e3, e4, partsOf, fillS, C25r0, C25r1, C25r2, rwp_nil, rwp_cons, rwpK_app, aop, gpath, St.get, slotAt, sfx, eqP, segsOf, St.put, addBlk, getB, setB, delB, ld1, ldn, st1, stn, setRow, rowNeed, segAt, nsub, bin, un, eqB, isShift, sameK, arith, shiftR, getsl, selB_or, selB_and, beqb, shed, addN, Nat.beq, Seg.size, sizes, imp, needP, andN, appL, argsOf, ptrsOf, aasOf, cut, takeS, dropS, putS, partsOf, fillS, fieldOf, nthA, negIf, nilq, nilB, eqS, eqF, eqS1, andP, kin, slcS, strOk, plusA, bndHi, leN, optG, roH, roL, initT, exOk, exAll, wrAddr, Nat.reduceAdd, Nat.reduceSub, Nat.reduceMul, Int.reduceToNat, List.append_nil, List.nil_append, List.cons_append, mapR, mapR1, keyL, keyOk, keyP, colsPut, colsDel, zcols, eqT, idxT, cat, cpy, ite_int, ite_bool, ite_seg, ite_segs, ite_nil, ite_twice, Int.toNat_natCast, app, addBs, tob]))); with_reducible refine hK _ ?_; clear hK K) | (refine run_cond rfl (fun hc => ?_) (fun hc => ?_) <;> try (simp only [*, Bool.true_eq_false, Bool.false_eq_true, Bool.not_true, Bool.not_false, Bool.true_or, Bool.or_true, Bool.false_or, Bool.or_false, Bool.false_and, Bool.and_false, bne_self_eq_false, beq_self_eq_true] at hc; done)) | refine run_block ?_ | refine run_ret ?_ | refine run_nil ?_ | refine blk_normal ?_ | refine blk_ret ?_ | refine blk_here ?_ | refine blk_there rfl ?_ | refine loop_exit ?_ | refine loop_ret ?_ | refine un_exit ?_ | refine un_ret ?_ | refine unE_exit ?_ | refine unE_ret ?_ | refine un_normal ?_)
    · have hch : chgS cb = false := by simpa using hc
      have hF1 : foldF cb = foldB cb := by rw [foldF_step hcr, hch]; rfl
      have hF := hF1.symm.trans hF
      repeat' (first | refine run_seq ?_ | refine run_skip ?_ | (refine run_region fun K hK => ?_; (try (simp (maxSteps := 10000000) only [blkB, blkL, opL, opsB, opsW, zblk, e3, e4, partsOf, fillS, C25r0, C25r1, C25r2, C25r3, C25r4, rwp_nil, rwp_cons, rwpK_app, aop, gpath, St.get, slotAt, sfx, eqP, segsOf, St.put, addBlk, getB, setB, delB, ld1, ldn, st1, stn, setRow, rowNeed, segAt, nsub, bin, un, eqB, isShift, sameK, arith, shiftR, getsl, selB_or, selB_and, beqb, shed, addN, Nat.beq, Seg.size, sizes, imp, needP, andN, appL, argsOf, ptrsOf, aasOf, cut, takeS, dropS, putS, partsOf, fillS, fieldOf, nthA, negIf, nilq, nilB, eqS, eqF, eqS1, andP, kin, slcS, strOk, plusA, bndHi, leN, optG, roH, roL, initT, exOk, exAll, wrAddr, Nat.reduceAdd, Nat.reduceSub, Nat.reduceMul, Int.reduceToNat, List.append_nil, List.nil_append, List.cons_append, mapR, mapR1, keyL, keyOk, keyP, colsPut, colsDel, zcols, eqT, idxT, cat, cpy, ite_int, ite_bool, ite_seg, ite_segs, ite_nil, ite_twice, Int.toNat_natCast, app, addBs, tob])); (repeat (first | (refine And.intro ?_ ?_; · (first | trivial | assumption | omega | exact ⟨by omega, by omega⟩ | (intros; first | trivial | assumption | omega))))); with_reducible refine hK _ ?_; clear hK K) | (refine run_cond rfl (fun hc => ?_) (fun hc => ?_) <;> try (simp only [*, Bool.true_eq_false, Bool.false_eq_true, Bool.not_true, Bool.not_false, Bool.true_or, Bool.or_true, Bool.false_or, Bool.or_false, Bool.false_and, Bool.and_false, bne_self_eq_false, beq_self_eq_true] at hc; done)) | refine run_block ?_ | refine run_ret ?_ | refine run_nil ?_ | refine blk_normal ?_ | refine blk_ret ?_ | refine blk_here ?_ | refine blk_there rfl ?_ | refine loop_exit ?_ | refine loop_ret ?_ | refine un_exit ?_ | refine un_ret ?_ | refine unE_exit ?_ | refine unE_ret ?_ | refine un_normal ?_)
      exact end_fold hF hr 4 (by simp only [notIn, Nat.beq, and_self]) rfl rfl rfl rfl rfl
    · have hch : chgS cb = true := by simpa using hc
      have hF1 : foldF cb = foldF (foldB cb) := by rw [foldF_step hcr, hch]; rfl
      have hF := hF1.symm.trans hF
      have hlt := fold_lt hcr hch
      repeat' (first | refine run_seq ?_ | refine run_skip ?_ | (refine run_region fun K hK => ?_; (try (simp (maxSteps := 10000000) only [blkB, blkL, opL, opsB, opsW, zblk, e3, e4, partsOf, fillS, C25r0, C25r1, C25r2, C25r3, C25r4, rwp_nil, rwp_cons, rwpK_app, aop, gpath, St.get, slotAt, sfx, eqP, segsOf, St.put, addBlk, getB, setB, delB, ld1, ldn, st1, stn, setRow, rowNeed, segAt, nsub, bin, un, eqB, isShift, sameK, arith, shiftR, getsl, selB_or, selB_and, beqb, shed, addN, Nat.beq, Seg.size, sizes, imp, needP, andN, appL, argsOf, ptrsOf, aasOf, cut, takeS, dropS, putS, partsOf, fillS, fieldOf, nthA, negIf, nilq, nilB, eqS, eqF, eqS1, andP, kin, slcS, strOk, plusA, bndHi, leN, optG, roH, roL, initT, exOk, exAll, wrAddr, Nat.reduceAdd, Nat.reduceSub, Nat.reduceMul, Int.reduceToNat, List.append_nil, List.nil_append, List.cons_append, mapR, mapR1, keyL, keyOk, keyP, colsPut, colsDel, zcols, eqT, idxT, cat, cpy, ite_int, ite_bool, ite_seg, ite_segs, ite_nil, ite_twice, Int.toNat_natCast, app, addBs, tob])); (repeat (first | (refine And.intro ?_ ?_; · (first | trivial | assumption | omega | exact ⟨by omega, by omega⟩ | (intros; first | trivial | assumption | omega))))); with_reducible refine hK _ ?_; clear hK K) | (refine run_cond rfl (fun hc => ?_) (fun hc => ?_) <;> try (simp only [*, Bool.true_eq_false, Bool.false_eq_true, Bool.not_true, Bool.not_false, Bool.true_or, Bool.or_true, Bool.false_or, Bool.or_false, Bool.false_and, Bool.and_false, bne_self_eq_false, beq_self_eq_true] at hc; done)) | refine run_block ?_ | refine run_ret ?_ | refine run_nil ?_ | refine blk_normal ?_ | refine blk_ret ?_ | refine blk_here ?_ | refine blk_there rfl ?_ | refine loop_exit ?_ | refine loop_ret ?_ | refine un_exit ?_ | refine un_ret ?_ | refine unE_exit ?_ | refine unE_ret ?_ | refine un_normal ?_)
      refine loop_normal (wt (foldB cb).f (foldB cb).n) (stB b (foldB cb)) hlt (LeS.intro [0, 1, 2, 4] (fun i h => idtF i h) (by simp only [diff, notIn, Nat.beq, and_self]) rfl (by simp only [stB, slotsLe, slotAt, Nat.beq, leV, leV1, leC, leA, nthO, Int.natCast_zero, Int.ofNat_zero, and_self]) ⟨opsw_le _ _ _ (fun _ _ => rfl), z_le, blk_le' (foldB cb) 4 3 rfl, ops_le b.n b.f false, trivial⟩) ⟨foldB cb, rfl, fold_right hcr, hF, .inr rfl⟩
end Go.Proofs.Ytmbnakinhnkabaa

namespace Go.Proofs.Ytmbnakinhnkabaa
open Go.AM
set_option maxRecDepth 100000
set_option linter.unusedSimpArgs false
set_option linter.unusedVariables false
theorem con25 (b : BlkS) : Con Try.prog 25 [.agg (blkL b 0)] ⟨1, [(0, opsB b.n b.f)]⟩ (fun v H' => v = retFold b 1 ∧ H' = heapFold b) := by
  refine Con.forget (con25_0 b) ?_
  rintro v H' ⟨rfl, rfl⟩
  by_cases hr : rightS b = true
  · refine ⟨_, heapFold b, [0, 1], (fun i h => idtF i h), (by simp only [diff, notIn, Nat.beq, and_self]), by simp only [heapFold, hr, if_true]; rfl, ?_, ?_, rfl, rfl⟩
    · simp only [heapFold0, heapFold, hr, if_true]
      exact ⟨opsw_le _ _ _ (fun _ _ => rfl), ops_le b.n b.f false, trivial⟩
    · simp only [retFold, hr, if_true, leV, leV1, leVL, blkL, leSegs, leSeg, leC, leA, nthO, and_self]
  · refine ⟨_, heapFold b, [0], (fun i h => idtF i h), ⟨trivial, trivial⟩, by simp only [heapFold, hr, if_false, Bool.false_eq_true]; rfl, ?_, ?_, rfl, rfl⟩
    · simp only [heapFold0, heapFold, hr, if_false, Bool.false_eq_true]
      exact ⟨ops_le b.n b.f false, trivial⟩
    · simp only [retFold, zBlkL, hr, if_false, Bool.false_eq_true, leV, leV1, leVL, leSegs, leSeg, leC, and_self]
def newFold (b : BlkS) : List Blk := if rightS b = true then [opsW (foldF b).n (foldF b).f] else []
theorem con25_at (b : BlkS) (i n : Nat) (X : List (Nat × Blk)) (w : Bool) (h0 : getB X i = some ⟨6, some b.n, fun i => opL (b.f i), 39, w⟩) (hlt : i < n) (hkl : keysLt X n) : Con Try.prog 25 [.agg (blkL b i)] ⟨n, X⟩ (fun v H' => v = retFold b n ∧ H' = addBs ⟨n, X⟩ (newFold b)) := by
  refine ((con25 b).frame (H := ⟨n, X⟩) [i] rfl ⟨trivial, trivial⟩ ⟨hlt, trivial⟩ hkl (by simp only [leBlks, nthO, h0]; exact ⟨ops_le b.n b.f w, trivial⟩) (by simp only [leArgs, leV, leV1, blkL, leSegs, leSeg, leC, leA, nthO, and_self])).weaken ?_
  rintro v H' ⟨v0, H0', ⟨rfl, rfl⟩, rfl, rfl⟩
  unfold retFold heapFold newFold
  cases rightS b
  · simp only [framed, dropB_ro i b.n 0]
    exact ⟨rfl, rfl⟩
  · simp only [framed, dropB_ro i b.n 0]
    exact ⟨rfl, rfl⟩
theorem nil_right (f : Nat → OpS) : rightS ⟨0, 0, 0, 0, f⟩ = false := by
  unfold rightS head1
  simp
theorem con25_nil (i N n : Nat) (f : Nat → OpS) (X : List (Nat × Blk)) (w : Bool) (h0 : getB X i = some ⟨6, some N, fun i => opL (f i), 39, w⟩) (hlt : i < n) (hkl : keysLt X n) : Con Try.prog 25 [.agg zBlkL] ⟨n, X⟩ (fun v H' => v = .tup [.agg zBlkL, .c (.int .i64 4)] ∧ H' = ⟨n, X⟩) := by
  refine ((con25 ⟨0, 0, 0, 0, f⟩).frame (args := [.agg zBlkL]) (H := ⟨n, X⟩) [i] rfl ⟨trivial, trivial⟩ ⟨hlt, trivial⟩ hkl (by simp only [leBlks, nthO, h0]; exact ⟨⟨rfl, rfl, fun h => (by cases h), Nat.zero_le _, fun _ _ => by simp only [opsB, opL, leSegs, leSeg, leC, and_self]⟩, trivial⟩) (by simp only [leArgs, leV, leV1, zBlkL, blkL, leSegs, leSeg, leC, leA, nthO, and_self])).weaken ?_
  rintro v H' ⟨v0, H0', ⟨rfl, rfl⟩, rfl, rfl⟩
  unfold retFold heapFold
  rw [nil_right f]
  simp only [framed, dropB_ro i 0 0]
  exact ⟨rfl, rfl⟩
def suF : Nat → OpS
  | 0 => ⟨14, 0, 0, 0, 0, 64⟩
  | 1 => ⟨1, 0, 0, 0, 0, 2⟩
  | 2 => ⟨1, 0, 0, 0, 0, 3⟩
  | 3 => ⟨8, 1, 1, 2, 0, 0⟩
  | 4 => ⟨3, 0, 3, 0, 0, 0⟩
  | _ => ⟨16, 0, 0, 0, 0, 68⟩
def su : BlkS := ⟨64, 1, 1, 6, suF⟩
theorem con47 (n : Nat) (X : List (Nat × Blk)) (hkl : keysLt X n) : Con Try.prog 47 [] ⟨n, X⟩ (fun v H' => v = .agg (blkL su n) ∧ H' = addBs ⟨n, X⟩ [opsW 6 suF]) := by
  have h0 : Con Try.prog 47 [] ⟨0, []⟩ (fun v H' => v = .agg (blkL su 0) ∧ H' = ⟨2, [(1, blkB su 0), (0, opsW 6 suF)]⟩) := by
    (refine con_of_run mixed (fn := Try.f47) (by kernel_rfl) (by kernel_rfl) C47_ok (rs := [.cn 4 0]) (by kernel_rfl) (Nat.le_of_ble_eq_true (by kernel_rfl)) ?_; unfold C47; simp only [initT, Nat.reduceAdd])
    repeat' (first | refine run_seq ?_ | (refine run_region fun K hK => ?_; (try (simp (maxSteps := 10000000) only [repl, rowsFit, partsOf, fillS, rowFn, cutD, C47r0, C47r1, rwp_nil, rwp_cons, rwpK_app, aop, gpath, St.get, slotAt, sfx, eqP, segsOf, St.put, addBlk, getB, setB, delB, ld1, ldn, st1, stn, setRow, rowNeed, segAt, nsub, bin, un, eqB, isShift, sameK, arith, shiftR, getsl, selB_or, selB_and, beqb, shed, addN, Nat.beq, Seg.size, sizes, imp, needP, andN, appL, argsOf, ptrsOf, aasOf, cut, takeS, dropS, putS, partsOf, fillS, fieldOf, nthA, negIf, nilq, nilB, eqS, eqF, eqS1, andP, kin, slcS, strOk, plusA, bndHi, leN, optG, roH, roL, initT, exOk, exAll, wrAddr, Nat.reduceAdd, Nat.reduceSub, Nat.reduceMul, Int.reduceToNat, List.append_nil, List.nil_append, List.cons_append, mapR, mapR1, keyL, keyOk, keyP, colsPut, colsDel, zcols, eqT, idxT, cat, cpy, ite_int, ite_bool, ite_seg, ite_segs, ite_nil, ite_twice, Int.toNat_natCast, app, addBs, tob])); (repeat (first | (refine And.intro ?_ ?_; · first | trivial | assumption | omega))); with_reducible refine hK _ ?_; clear hK K) | refine run_ret ?_ | refine run_nil ?_)
    refine end_of ⟨[⟨0, [], .c (.ptr ⟨1, 0, 0, 0⟩)⟩], ⟨2, [(1, blkB su 0), (0, opsW 6 suF)]⟩⟩ (LeS.intro [1, 0] (fun i h => absurd h (Nat.not_lt_zero i)) (by simp only [diff, notIn, Nat.beq, and_self]) rfl (by simp only [slotsLe, slotAt, Nat.beq, leV, leV1, leC, leA, nthO, and_self]) ⟨blk_le' su 1 0 rfl, ⟨rfl, rfl, id, Nat.le_refl _, fun i hi => ?_⟩, trivial⟩) ?_
    · match i, (hi.resolve_right (Nat.succ_ne_zero _)) with
      | 0, _ => simp only [cutD, cut, dropS, takeS, Seg.size, nsub, opsW, opL, suF, Nat.reduceMul, Nat.zero_mul, Nat.one_mul, leSegs, leSeg, leC, and_self]
      | 1, _ => simp only [cutD, cut, dropS, takeS, Seg.size, nsub, opsW, opL, suF, Nat.reduceMul, Nat.zero_mul, Nat.one_mul, leSegs, leSeg, leC, and_self]
      | 2, _ => simp only [cutD, cut, dropS, takeS, Seg.size, nsub, opsW, opL, suF, Nat.reduceMul, Nat.zero_mul, Nat.one_mul, leSegs, leSeg, leC, and_self]
      | 3, _ => simp only [cutD, cut, dropS, takeS, Seg.size, nsub, opsW, opL, suF, Nat.reduceMul, Nat.zero_mul, Nat.one_mul, leSegs, leSeg, leC, and_self]
      | 4, _ => simp only [cutD, cut, dropS, takeS, Seg.size, nsub, opsW, opL, suF, Nat.reduceMul, Nat.zero_mul, Nat.one_mul, leSegs, leSeg, leC, and_self]
      | 5, _ => simp only [cutD, cut, dropS, takeS, Seg.size, nsub, opsW, opL, suF, Nat.reduceMul, Nat.zero_mul, Nat.one_mul, leSegs, leSeg, leC, and_self]
    · simp only [endF, resL, resA, St.get, slotAt, Nat.beq, sfx, eqP, ldn, getB, blkB, blkL, rowNeed, cut, dropS, takeS, Seg.size, nsub, noTup, resV]
      refine ⟨?_, ?_⟩ <;> first | rfl | trivial
  have h1 : Con Try.prog 47 [] ⟨0, []⟩ (fun v H' => v = .agg (blkL su 0) ∧ H' = ⟨1, [(0, opsW 6 suF)]⟩) := by
    refine Con.forget h0 ?_
    rintro v H' ⟨rfl, rfl⟩
    exact ⟨_, ⟨1, [(0, opsW 6 suF)]⟩, [0], fun i h => absurd h (Nat.not_lt_zero i), ⟨trivial, trivial⟩, rfl, ⟨opsw_le 6 suF suF (fun _ _ => rfl), trivial⟩, by simp only [blkL, leV, leV1, leSegs, leSeg, leC, leA, nthO, and_self], rfl, rfl⟩
  refine (h1.frame (args := []) (H := ⟨n, X⟩) [] rfl trivial trivial hkl trivial trivial).weaken ?_
  rintro v H' ⟨v0, H0', ⟨rfl, rfl⟩, rfl, rfl⟩
  refine ⟨rfl, ?_⟩
  simp only [framed, dropB_none (l := []) (H0 := []) (fun _ => rfl)]
  rfl
theorem su_right : rightS su = true := by decide +kernel
theorem su_n : (foldF su).n = 6 := by decide +kernel
theorem su_chg : chgS su = true := by decide +kernel
theorem su_ops : ∀ i, i < 6 → (foldF su).f i = match i with | 3 => constO 5 | i => suF i := by
  intro i hi
  match i, hi with
  | 0, _ => exact eqO_eq.1 (by decide +kernel)
  | 1, _ => exact eqO_eq.1 (by decide +kernel)
  | 2, _ => exact eqO_eq.1 (by decide +kernel)
  | 3, _ => exact eqO_eq.1 (by decide +kernel)
  | 4, _ => exact eqO_eq.1 (by decide +kernel)
  | 5, _ => exact eqO_eq.1 (by decide +kernel)
theorem su_retF (n : Nat) : retFold su n = .tup [.agg [.c (.int .u64 (foldF su).pc), .c (.int .i64 (foldF su).words), .c (.int .i64 (foldF su).el), .c (.slice ⟨n, 0, 0, 0⟩ false 6)], .c (.int .i64 0)] := by unfold retFold; rw [if_pos su_right]; unfold blkL; rw [su_n]
theorem su_newF : newFold su = [opsW 6 (foldF su).f] := by unfold newFold; rw [if_pos su_right, su_n]
theorem su_retS (n : Nat) : retStep su n = .tup [.agg (blkL (foldB su) n), .c (.bool true), .c (.int .i64 0)] := by unfold retStep; rw [if_pos su_right, su_chg]
theorem su_newS : newStep su = [opsW (stepS su).m (stepS su).f] := by unfold newStep; rw [if_pos su_right]
def exSt (i : Nat) (c : Bool) : St := ⟨[⟨9, [], .c (.int .i64 i)⟩, ⟨8, [], .c (.bool c)⟩, ⟨7, [], .c (.int .i64 0)⟩, ⟨6, [], .c (.bool true)⟩, ⟨4, [], .c (.int .i64 4)⟩, ⟨2, [], .c (.int .i64 0)⟩, ⟨1, [], .c (.ptr ⟨1, 0, 0, 0⟩)⟩], ⟨2, [(1, blkB (foldF su) 0), (0, opsW 6 (foldF su).f)]⟩⟩
theorem su_no {i : Nat} (hi : i < 6) (h : i ≠ 4) : ((foldF su).f i).kind ≠ 3 := by
  rw [su_ops i hi]
  match i, hi, h with
  | 0, _, _ => decide
  | 1, _, _ => decide
  | 2, _, _ => decide
  | 3, _, _ => decide
  | 4, _, h => exact absurd rfl h
  | 5, _, _ => decide
set_option maxHeartbeats 8000000 in
theorem con23 (H : Heap) : Con Try.prog 23 [] H (fun v H' => v = .c (.bool true) ∧ H' = H) := by
  refine Con.pure (args := []) ?_ trivial rfl H
  have f3 := su_ops 3 (by decide)
  have f4 := su_ops 4 (by decide)
  simp only [suF, constO] at f3 f4
  (refine con_of_run mixed (fn := Try.f23) (by kernel_rfl) (by kernel_rfl) C23_ok (rs := [.tmp 0]) (by kernel_rfl) (Nat.le_of_ble_eq_true (by kernel_rfl)) ?_; unfold C23; simp only [initT, Nat.reduceAdd])
  repeat' (first | refine run_seq ?_ | refine run_skip ?_ | (refine run_region fun K hK => ?_; (try (simp (maxSteps := 10000000) only [opL, su_retF, su_newF, su_retS, su_newS, blkL, zBlkL, opsW, partsOf, fillS, C23r0, C23r1, C23r2, C23r3, C23r4, C23r6, C23r7, C23r8, C23r9, C23r10, rwp_nil, rwp_cons, rwpK_app, aop, gpath, St.get, slotAt, sfx, eqP, segsOf, St.put, addBlk, getB, setB, delB, ld1, ldn, st1, stn, setRow, rowNeed, segAt, nsub, bin, un, eqB, isShift, sameK, arith, shiftR, getsl, selB_or, selB_and, beqb, shed, addN, Nat.beq, Seg.size, sizes, imp, needP, andN, appL, argsOf, ptrsOf, aasOf, cut, takeS, dropS, putS, partsOf, fillS, fieldOf, nthA, negIf, nilq, nilB, eqS, eqF, eqS1, andP, kin, slcS, strOk, plusA, bndHi, leN, optG, roH, roL, initT, exOk, exAll, wrAddr, Nat.reduceAdd, Nat.reduceSub, Nat.reduceMul, Int.reduceToNat, List.append_nil, List.nil_append, List.cons_append, mapR, mapR1, keyL, keyOk, keyP, colsPut, colsDel, zcols, eqT, idxT, cat, cpy, ite_int, ite_bool, ite_seg, ite_segs, ite_nil, ite_twice, Int.toNat_natCast, app, addBs, tob])); (repeat (first | (refine And.intro ?_ ?_; · (first | trivial | assumption | omega | exact ⟨by omega, by omega⟩ | (intros; first | trivial | assumption | omega | decide))) | ((first | (refine call_t _ (con47 _ _ (by simp [keysLt])) ?_; rintro v H' ⟨rfl, rfl⟩) | refine call_q _ (con47 _ _ (by simp [keysLt])) ?_ | refine call_g _ (imp_of (con47 _ _ (by simp [keysLt]))) ?_ | (refine call_t _ (con25_at su _ _ _ _ rfl (Nat.le_of_ble_eq_true rfl) (by simp [keysLt])) ?_; rintro v H' ⟨rfl, rfl⟩) | refine call_q _ (con25_at su _ _ _ _ rfl (Nat.le_of_ble_eq_true rfl) (by simp [keysLt])) ?_ | refine call_g _ (imp_of (con25_at su _ _ _ _ rfl (Nat.le_of_ble_eq_true rfl) (by simp [keysLt]))) ?_ | (refine call_t _ (con25_nil 0 6 _ suF _ true rfl (Nat.le_of_ble_eq_true rfl) (by simp [keysLt])) ?_; rintro v H' ⟨rfl, rfl⟩) | refine call_q _ (con25_nil 0 6 _ suF _ true rfl (Nat.le_of_ble_eq_true rfl) (by simp [keysLt])) ?_ | refine call_g _ (imp_of (con25_nil 0 6 _ suF _ true rfl (Nat.le_of_ble_eq_true rfl) (by simp [keysLt]))) ?_ | (refine call_t _ (con26_at su _ _ _ _ rfl (Nat.le_of_ble_eq_true rfl) (by simp [keysLt])) ?_; rintro v H' ⟨rfl, rfl⟩) | refine call_q _ (con26_at su _ _ _ _ rfl (Nat.le_of_ble_eq_true rfl) (by simp [keysLt])) ?_ | refine call_g _ (imp_of (con26_at su _ _ _ _ rfl (Nat.le_of_ble_eq_true rfl) (by simp [keysLt]))) ?_); simp (maxSteps := 10000000) only [opL, su_retF, su_newF, su_retS, su_newS, blkL, zBlkL, opsW, partsOf, fillS, C23r0, C23r1, C23r2, C23r3, C23r4, C23r6, C23r7, C23r8, C23r9, C23r10, rwp_nil, rwp_cons, rwpK_app, aop, gpath, St.get, slotAt, sfx, eqP, segsOf, St.put, addBlk, getB, setB, delB, ld1, ldn, st1, stn, setRow, rowNeed, segAt, nsub, bin, un, eqB, isShift, sameK, arith, shiftR, getsl, selB_or, selB_and, beqb, shed, addN, Nat.beq, Seg.size, sizes, imp, needP, andN, appL, argsOf, ptrsOf, aasOf, cut, takeS, dropS, putS, partsOf, fillS, fieldOf, nthA, negIf, nilq, nilB, eqS, eqF, eqS1, andP, kin, slcS, strOk, plusA, bndHi, leN, optG, roH, roL, initT, exOk, exAll, wrAddr, Nat.reduceAdd, Nat.reduceSub, Nat.reduceMul, Int.reduceToNat, List.append_nil, List.nil_append, List.cons_append, mapR, mapR1, keyL, keyOk, keyP, colsPut, colsDel, zcols, eqT, idxT, cat, cpy, ite_int, ite_bool, ite_seg, ite_segs, ite_nil, ite_twice, Int.toNat_natCast, app, addBs, tob]))); with_reducible refine hK _ ?_; clear hK K) | (refine run_cond rfl (fun hc => ?_) (fun hc => ?_) <;> try (simp only [*, Bool.true_eq_false, Bool.false_eq_true, Bool.not_true, Bool.not_false, Bool.true_or, Bool.or_true, Bool.false_or, Bool.or_false, Bool.false_and, Bool.and_false, bne_self_eq_false, beq_self_eq_true] at hc; done)) | refine run_block ?_ | refine run_ret ?_ | refine run_nil ?_ | refine run_exit ?_ | refine blk_normal ?_ | refine blk_ret ?_ | refine blk_here ?_ | refine blk_there rfl ?_ | refine loop_exit ?_ | refine loop_ret ?_ | refine un_exit ?_ | refine un_ret ?_ | refine unE_exit ?_ | refine unE_ret ?_ | refine un_normal ?_)
  (refine run_regionL fun K hK => ?_; (try (simp (maxSteps := 10000000) only [opL, blkL, opsW, C23r0, C23r1, C23r2, C23r3, C23r4, C23r5, C23r6, C23r7, C23r8, C23r9, C23r10, rwp_nil, rwp_cons, rwpK_app, aop, gpath, St.get, slotAt, sfx, eqP, segsOf, St.put, addBlk, getB, setB, delB, ld1, ldn, st1, stn, setRow, rowNeed, segAt, nsub, bin, un, eqB, isShift, sameK, arith, shiftR, getsl, selB_or, selB_and, beqb, shed, addN, Nat.beq, Seg.size, sizes, imp, needP, andN, appL, argsOf, ptrsOf, aasOf, cut, takeS, dropS, putS, partsOf, fillS, fieldOf, nthA, negIf, nilq, nilB, eqS, eqF, eqS1, andP, kin, slcS, strOk, plusA, bndHi, leN, optG, roH, roL, initT, exOk, exAll, wrAddr, Nat.reduceAdd, Nat.reduceSub, Nat.reduceMul, Int.reduceToNat, List.append_nil, List.nil_append, List.cons_append, mapR, mapR1, keyL, keyOk, keyP, colsPut, colsDel, zcols, eqT, idxT, cat, cpy, ite_int, ite_bool, ite_seg, ite_segs, ite_nil, ite_twice, Int.toNat_natCast, app, addBs, tob])); (repeat (first | (refine And.intro ?_ ?_; · first | trivial | assumption | omega))); refine hK _ (exSt 0 false) (LeS.intro [1, 2] (fun i h => absurd h (Nat.not_lt_zero i)) (by simp only [diff, notIn, Nat.beq, and_self]) rfl (by simp only [exSt, slotsLe, slotAt, Nat.beq, leV, leV1, leC, leA, nthO, Int.natCast_zero, Int.ofNat_zero, and_self]) ⟨⟨rfl, rfl, id, Nat.le_refl _, fun _ _ => by simp only [blkB, blkL, su_n, leSegs, leSeg, leC, leA, nthO, and_self]⟩, opsw_le _ _ _ (fun _ _ => rfl), trivial⟩) ?_; clear hK K)
  refine run_block ?_
  refine run_loop (fun t st => ∃ i, i ≤ 6 ∧ t = 6 - i ∧ st = exSt i (decide (4 < i))) 6 ⟨0, by omega, rfl, rfl⟩ ?_
  rintro t st ⟨i, hi, rfl, rfl⟩
  have hw : IntKind.i64.wrap ((i : Int) + 1) = ((i + 1 : Nat) : Int) := by rw [IntKind.wrap_i64]; omega
  have hn6 := su_n
  unfold exSt
  repeat' (first | refine run_seq ?_ | refine run_skip ?_ | (refine run_region fun K hK => ?_; (try (simp (maxSteps := 10000000) only [opL, blkB, blkL, opsW, hn6, C23r0, C23r1, C23r2, C23r3, C23r4, C23r5, C23r6, C23r8, C23r9, rwp_nil, rwp_cons, rwpK_app, aop, gpath, St.get, slotAt, sfx, eqP, segsOf, St.put, addBlk, getB, setB, delB, ld1, ldn, st1, stn, setRow, rowNeed, segAt, nsub, bin, un, eqB, isShift, sameK, arith, shiftR, getsl, selB_or, selB_and, beqb, shed, addN, Nat.beq, Seg.size, sizes, imp, needP, andN, appL, argsOf, ptrsOf, aasOf, cut, takeS, dropS, putS, partsOf, fillS, fieldOf, nthA, negIf, nilq, nilB, eqS, eqF, eqS1, andP, kin, slcS, strOk, plusA, bndHi, leN, optG, roH, roL, initT, exOk, exAll, wrAddr, Nat.reduceAdd, Nat.reduceSub, Nat.reduceMul, Int.reduceToNat, List.append_nil, List.nil_append, List.cons_append, mapR, mapR1, keyL, keyOk, keyP, colsPut, colsDel, zcols, eqT, idxT, cat, cpy, ite_int, ite_bool, ite_seg, ite_segs, ite_nil, ite_twice, Int.toNat_natCast, app, addBs, tob])); (repeat (first | (refine And.intro ?_ ?_; · (first | trivial | assumption | omega | exact ⟨by omega, by omega⟩ | (intros; first | trivial | assumption | omega | decide))))); with_reducible refine hK _ ?_; clear hK K) | (refine run_cond rfl (fun hc => ?_) (fun hc => ?_) <;> try (simp only [*, Bool.true_eq_false, Bool.false_eq_true, Bool.not_true, Bool.not_false, Bool.true_or, Bool.or_true, Bool.false_or, Bool.or_false, Bool.false_and, Bool.and_false, bne_self_eq_false, beq_self_eq_true] at hc; done)) | refine run_block ?_ | refine run_ret ?_ | refine run_nil ?_ | refine run_exit ?_ | refine blk_normal ?_ | refine blk_ret ?_ | refine blk_here ?_ | refine blk_there rfl ?_ | refine loop_exit ?_ | refine loop_ret ?_ | refine un_exit ?_ | refine un_ret ?_ | refine unE_exit ?_ | refine unE_ret ?_ | refine un_normal ?_)
  · have hlt : i < 6 := by simp only [decide_eq_true_eq] at hc; omega
    clear hc
    by_cases h4 : i = 4
    · have hFi : (foldF su).f i = ⟨3, 0, 3, 0, 0, 0⟩ := by rw [h4]; exact f4
      have hd : decide ((3 : Int) < (i : Int)) = true := decide_eq_true (by omega)
      repeat' (first | refine run_seq ?_ | refine run_skip ?_ | (refine run_region fun K hK => ?_; (try (simp (maxSteps := 10000000) only [opL, blkB, blkL, opsW, hFi, hd, f3, hw, hn6, beq_self_eq_true, Bool.and_self, Bool.true_and, Int.toNat_natCast, partsOf, fillS, C23r0, C23r1, C23r2, C23r3, C23r4, C23r5, C23r6, C23r7, C23r8, C23r9, C23r10, rwp_nil, rwp_cons, rwpK_app, aop, gpath, St.get, slotAt, sfx, eqP, segsOf, St.put, addBlk, getB, setB, delB, ld1, ldn, st1, stn, setRow, rowNeed, segAt, nsub, bin, un, eqB, isShift, sameK, arith, shiftR, getsl, selB_or, selB_and, beqb, shed, addN, Nat.beq, Seg.size, sizes, imp, needP, andN, appL, argsOf, ptrsOf, aasOf, cut, takeS, dropS, putS, partsOf, fillS, fieldOf, nthA, negIf, nilq, nilB, eqS, eqF, eqS1, andP, kin, slcS, strOk, plusA, bndHi, leN, optG, roH, roL, initT, exOk, exAll, wrAddr, Nat.reduceAdd, Nat.reduceSub, Nat.reduceMul, Int.reduceToNat, List.append_nil, List.nil_append, List.cons_append, mapR, mapR1, keyL, keyOk, keyP, colsPut, colsDel, zcols, eqT, idxT, cat, cpy, ite_int, ite_bool, ite_seg, ite_segs, ite_nil, ite_twice, Int.toNat_natCast, app, addBs, tob])); (repeat (first | (refine And.intro ?_ ?_; · (first | trivial | assumption | omega | exact ⟨by omega, by omega⟩ | (intros; first | trivial | assumption | omega | decide))))); with_reducible refine hK _ ?_; clear hK K) | (refine run_cond rfl (fun hc => ?_) (fun hc => ?_) <;> try (simp only [*, Bool.true_eq_false, Bool.false_eq_true, Bool.not_true, Bool.not_false, Bool.true_or, Bool.or_true, Bool.false_or, Bool.or_false, Bool.false_and, Bool.and_false, bne_self_eq_false, beq_self_eq_true] at hc; done)) | refine run_block ?_ | refine run_ret ?_ | refine run_nil ?_ | refine run_exit ?_ | refine blk_normal ?_ | refine blk_ret ?_ | refine blk_here ?_ | refine blk_there rfl ?_ | refine loop_exit ?_ | refine loop_ret ?_ | refine un_exit ?_ | refine un_ret ?_ | refine unE_exit ?_ | refine unE_ret ?_ | refine un_normal ?_)
      refine loop_normal (6 - (i + 1)) (exSt (i + 1) (decide (4 < i + 1))) (by omega) (LeS.intro [0, 1] (fun i h => absurd h (Nat.not_lt_zero i)) (by simp only [diff, notIn, Nat.beq, and_self]) rfl ?_ ⟨blk_le' (foldF su) 0 0 rfl, opsw_le _ _ _ (fun _ _ => rfl), trivial⟩) ⟨i + 1, by omega, rfl, rfl⟩
      have hd2 : decide (4 < i + 1) = true := decide_eq_true (by omega)
      simp only [exSt, hd2, slotsLe, slotAt, Nat.beq, leV, leV1, leC, leA, nthO, and_self]
    · have hFk : (((foldF su).f i).kind == 3) = false := by simpa using su_no hlt h4
      repeat' (first | refine run_seq ?_ | refine run_skip ?_ | (refine run_region fun K hK => ?_; (try (simp (maxSteps := 10000000) only [opL, blkB, blkL, opsW, hFk, hw, hn6, Bool.false_and, Int.toNat_natCast, partsOf, fillS, C23r0, C23r1, C23r2, C23r3, C23r4, C23r5, C23r6, C23r7, C23r8, C23r9, C23r10, rwp_nil, rwp_cons, rwpK_app, aop, gpath, St.get, slotAt, sfx, eqP, segsOf, St.put, addBlk, getB, setB, delB, ld1, ldn, st1, stn, setRow, rowNeed, segAt, nsub, bin, un, eqB, isShift, sameK, arith, shiftR, getsl, selB_or, selB_and, beqb, shed, addN, Nat.beq, Seg.size, sizes, imp, needP, andN, appL, argsOf, ptrsOf, aasOf, cut, takeS, dropS, putS, partsOf, fillS, fieldOf, nthA, negIf, nilq, nilB, eqS, eqF, eqS1, andP, kin, slcS, strOk, plusA, bndHi, leN, optG, roH, roL, initT, exOk, exAll, wrAddr, Nat.reduceAdd, Nat.reduceSub, Nat.reduceMul, Int.reduceToNat, List.append_nil, List.nil_append, List.cons_append, mapR, mapR1, keyL, keyOk, keyP, colsPut, colsDel, zcols, eqT, idxT, cat, cpy, ite_int, ite_bool, ite_seg, ite_segs, ite_nil, ite_twice, Int.toNat_natCast, app, addBs, tob])); (repeat (first | (refine And.intro ?_ ?_; · (first | trivial | assumption | omega | exact ⟨by omega, by omega⟩ | (intros; first | trivial | assumption | omega | decide))))); with_reducible refine hK _ ?_; clear hK K) | (refine run_cond rfl (fun hc => ?_) (fun hc => ?_) <;> try (simp only [*, Bool.true_eq_false, Bool.false_eq_true, Bool.not_true, Bool.not_false, Bool.true_or, Bool.or_true, Bool.false_or, Bool.or_false, Bool.false_and, Bool.and_false, bne_self_eq_false, beq_self_eq_true] at hc; done)) | refine run_block ?_ | refine run_ret ?_ | refine run_nil ?_ | refine run_exit ?_ | refine blk_normal ?_ | refine blk_ret ?_ | refine blk_here ?_ | refine blk_there rfl ?_ | refine loop_exit ?_ | refine loop_ret ?_ | refine un_exit ?_ | refine un_ret ?_ | refine unE_exit ?_ | refine unE_ret ?_ | refine un_normal ?_)
      refine loop_normal (6 - (i + 1)) (exSt (i + 1) (decide (4 < i + 1))) (by omega) (LeS.intro [0, 1] (fun i h => absurd h (Nat.not_lt_zero i)) (by simp only [diff, notIn, Nat.beq, and_self]) rfl ?_ ⟨blk_le' (foldF su) 0 0 rfl, opsw_le _ _ _ (fun _ _ => rfl), trivial⟩) ⟨i + 1, by omega, rfl, rfl⟩
      have hd2 : decide (4 < i) = decide (4 < i + 1) := by congr 1; exact propext ⟨fun h => by omega, fun h => by omega⟩
      simp only [exSt, hd2, slotsLe, slotAt, Nat.beq, leV, leV1, leC, leA, nthO, and_self]
  · have hge : decide (4 < i) = true := by simp only [decide_eq_false_iff_not] at hc; exact decide_eq_true (by omega)
    rw [hge]
    repeat' (first | refine run_seq ?_ | refine run_skip ?_ | (refine run_region fun K hK => ?_; (try (simp (maxSteps := 10000000) only [opL, blkB, blkL, opsW, beq_self_eq_true, Bool.and_self, C23r0, C23r1, C23r2, C23r3, C23r4, C23r5, C23r6, C23r7, C23r8, C23r9, C23r10, rwp_nil, rwp_cons, rwpK_app, aop, gpath, St.get, slotAt, sfx, eqP, segsOf, St.put, addBlk, getB, setB, delB, ld1, ldn, st1, stn, setRow, rowNeed, segAt, nsub, bin, un, eqB, isShift, sameK, arith, shiftR, getsl, selB_or, selB_and, beqb, shed, addN, Nat.beq, Seg.size, sizes, imp, needP, andN, appL, argsOf, ptrsOf, aasOf, cut, takeS, dropS, putS, partsOf, fillS, fieldOf, nthA, negIf, nilq, nilB, eqS, eqF, eqS1, andP, kin, slcS, strOk, plusA, bndHi, leN, optG, roH, roL, initT, exOk, exAll, wrAddr, Nat.reduceAdd, Nat.reduceSub, Nat.reduceMul, Int.reduceToNat, List.append_nil, List.nil_append, List.cons_append, mapR, mapR1, keyL, keyOk, keyP, colsPut, colsDel, zcols, eqT, idxT, cat, cpy, ite_int, ite_bool, ite_seg, ite_segs, ite_nil, ite_twice, Int.toNat_natCast, app, addBs, tob])); (repeat (first | (refine And.intro ?_ ?_; · (first | trivial | assumption | omega | exact ⟨by omega, by omega⟩ | (intros; first | trivial | assumption | omega | decide))))); with_reducible refine hK _ ?_; clear hK K) | (refine run_cond rfl (fun hc => ?_) (fun hc => ?_) <;> try (simp only [*, Bool.true_eq_false, Bool.false_eq_true, Bool.not_true, Bool.not_false, Bool.true_or, Bool.or_true, Bool.false_or, Bool.or_false, Bool.false_and, Bool.and_false, bne_self_eq_false, beq_self_eq_true] at hc; done)) | refine run_block ?_ | refine run_ret ?_ | refine run_nil ?_ | refine run_exit ?_ | refine blk_normal ?_ | refine blk_ret ?_ | refine blk_here ?_ | refine blk_there rfl ?_ | refine loop_exit ?_ | refine loop_ret ?_ | refine un_exit ?_ | refine un_ret ?_ | refine unE_exit ?_ | refine unE_ret ?_ | refine un_normal ?_)
    exact end_tmp1 rfl rfl rfl ⟨rfl, rfl⟩
end Go.Proofs.Ytmbnakinhnkabaa

namespace Go.Proofs.Ytmbnakinhnkabaa
open Go.AM
set_option maxRecDepth 100000
set_option linter.unusedSimpArgs false
set_option linter.unusedVariables false
def knF (k a b : Int) : Nat → OpS
  | 0 => ⟨14, 0, 0, 0, 0, 64⟩
  | 1 => ⟨1, 0, 0, 0, 0, a⟩
  | 2 => ⟨3, 5, 1, 0, 0, 0⟩
  | 3 => ⟨1, 0, 0, 0, 0, b⟩
  | 4 => ⟨2, 5, 0, 0, 0, 0⟩
  | 5 => ⟨8, k, 4, 3, 0, 0⟩
  | 6 => ⟨3, 0, 5, 0, 0, 0⟩
  | _ => ⟨16, 0, 0, 0, 0, 68⟩
def knX (k a b : Int) : BlkS := ⟨64, 1, 1, 8, knF k a b⟩
def knG (k a b : Int) : Nat → OpS
  | 0 => ⟨14, 0, 0, 0, 0, 64⟩
  | 1 => ⟨1, 0, 0, 0, 0, a⟩
  | 2 => ⟨3, 5, 1, 0, 0, 0⟩
  | 3 => ⟨1, 0, 0, 0, 0, b⟩
  | 4 => constO (reckS k a b).1
  | 5 => ⟨3, 0, 4, 0, 0, 0⟩
  | _ => ⟨16, 0, 0, 0, 0, 68⟩
theorem knX_field (k a b : Int) : fieldBad (knF k a b 5) = !(decide (k ≥ 1) && decide (k ≤ 15)) := by
  show fieldBad ⟨8, k, 4, 3, 0, 0⟩ = _
  simp [fieldBad, rightF, hasR, hasImm, hasOrd, usesS]
theorem knX_right (k a b : Int) : rightS (knX k a b) = (decide (k ≥ 1) && decide (k ≤ 15)) := by
  cases hk : (decide (k ≥ 1) && decide (k ≤ 15)) with
  | true =>
    have h1 : head1 (knX k a b) = false := by kernel_rfl
    have h2 : head2 (knX k a b) = false := by kernel_rfl
    have h3 : opsOk (knX k a b) 8 = true := opsOk_all fun j hj => by
      match j, hj with
      | 0, _ => exact ⟨by kernel_rfl, by kernel_rfl⟩
      | 1, _ => exact ⟨by kernel_rfl, by kernel_rfl⟩
      | 2, _ => exact ⟨by kernel_rfl, by kernel_rfl⟩
      | 3, _ => exact ⟨by kernel_rfl, by kernel_rfl⟩
      | 4, _ => exact ⟨by kernel_rfl, by kernel_rfl⟩
      | 5, _ =>
        refine ⟨rop_iff.2 ⟨by show fieldBad (knF k a b 5) = false; rw [knX_field, hk]; rfl, fun i hi => ?_⟩, by kernel_rfl⟩
        have hi : i < 2 := hi
        match i, hi with
        | 0, _ => exact ⟨by show (0 : Int) ≤ 4; decide, by show (4 : Int) < ((5 : Nat) : Int); decide, by kernel_rfl⟩
        | 1, _ => exact ⟨by show (0 : Int) ≤ 3; decide, by show (3 : Int) < ((5 : Nat) : Int); decide, by kernel_rfl⟩
      | 6, _ => exact ⟨by kernel_rfl, by kernel_rfl⟩
      | 7, _ => exact ⟨by kernel_rfl, by kernel_rfl⟩
    unfold rightS
    rw [h1, h2]
    show (!false && !false && opsOk (knX k a b) 8) = true
    rw [h3]
    rfl
  | false =>
    have h3 : opsOk (knX k a b) 8 = false := opsOk_no (j := 5) (by decide) (by
      show (ropS (knF k a b 5) 5 (knF k a b) && _) = false
      unfold ropS
      rw [knX_field, hk]
      rfl)
    unfold rightS
    show (_ && opsOk (knX k a b) 8) = false
    rw [h3, Bool.and_false]
theorem reck_err (k a b : Int) : (reckS k a b).2 = if (decide (k ≥ 1) && decide (k ≤ 15)) = true then 0 else 1 := by
  by_cases h : 1 ≤ k ∧ k ≤ 15
  · rw [if_pos (by simp; omega)]
    obtain ⟨n, rfl⟩ : ∃ n : Nat, k = n := ⟨k.toNat, by omega⟩
    have hn : 1 ≤ n ∧ n ≤ 15 := by omega
    match n, hn with
    | 1, _ | 2, _ | 3, _ | 4, _ | 5, _ | 6, _ | 7, _ | 8, _ | 9, _ | 10, _ | 11, _ | 12, _ | 13, _ | 14, _ | 15, _ => simp [reckS]
  · rw [if_neg (by simp; omega)]
    have hne : ∀ j : Int, 1 ≤ j → j ≤ 15 → k ≠ j := fun j h1 h2 e => h (by omega)
    unfold reckS
    rw [if_neg (hne 1 (by omega) (by omega)), if_neg (hne 2 (by omega) (by omega)), if_neg (hne 3 (by omega) (by omega)), if_neg (hne 4 (by omega) (by omega)), if_neg (hne 5 (by omega) (by omega)), if_neg (hne 6 (by omega) (by omega)), if_neg (hne 7 (by omega) (by omega)), if_neg (hne 8 (by omega) (by omega)), if_neg (hne 9 (by omega) (by omega)), if_neg (hne 10 (by omega) (by omega)), if_neg (hne 11 (by omega) (by omega)), if_neg (hne 12 (by omega) (by omega)), if_neg (hne 13 (by omega) (by omega)), if_neg (hne 14 (by omega) (by omega)), if_neg (hne 15 (by omega) (by omega))]
theorem foldB_n (b : BlkS) : (foldB b).n = (stepS b).m := rfl
theorem knX_chg (k a b : Int) : chgS (knX k a b) = true := by kernel_rfl
theorem knX_m (k a b : Int) : (stepS (foldB (knX k a b))).m = 7 := by kernel_rfl
theorem knX_f (k a b : Int) : ∀ i, i < 7 → (stepS (foldB (knX k a b))).f i = (foldB (knX k a b)).f i := fun i hi => by
  match i, hi with
  | 0, _ => show _ = _; kernel_rfl
  | 1, _ => show _ = _; kernel_rfl
  | 2, _ => show _ = _; kernel_rfl
  | 3, _ => show _ = _; kernel_rfl
  | 4, _ => show _ = _; kernel_rfl
  | 5, _ => show _ = _; kernel_rfl
  | 6, _ => show _ = _; kernel_rfl
theorem knX_g (k a b : Int) : ∀ i, i < 7 → (foldB (foldB (knX k a b))).f i = knG k a b i := fun i hi => by
  match i, hi with
  | 0, _ => show _ = _; kernel_rfl
  | 1, _ => show _ = _; kernel_rfl
  | 2, _ => show _ = _; kernel_rfl
  | 3, _ => show _ = _; kernel_rfl
  | 4, _ => show _ = _; kernel_rfl
  | 5, _ => show _ = _; kernel_rfl
  | 6, _ => show _ = _; kernel_rfl
theorem knX_n1 (k a b : Int) : (foldB (knX k a b)).n = 7 := by kernel_rfl
theorem knX_fold {k a b : Int} (hr : rightS (knX k a b) = true) : foldF (knX k a b) = foldB (foldB (knX k a b)) := by
  rw [foldF_step hr, knX_chg]
  simp only [if_true]
  have hc : chgS (foldB (knX k a b)) = false := by
    have : eqOps (stepS (foldB (knX k a b))).m (foldB (knX k a b)).n (stepS (foldB (knX k a b))).f (foldB (knX k a b)).f = true := by
      rw [eqOps_iff, knX_m, knX_n1]
      exact ⟨rfl, knX_f k a b⟩
    unfold chgS
    rw [this]
    rfl
  rw [foldF_step (fold_right hr), hc]
  rfl
theorem knX_n {k a b : Int} (hr : rightS (knX k a b) = true) : (foldF (knX k a b)).n = 7 := by
  rw [knX_fold hr, foldB_n, knX_m]
theorem knX_ops {k a b : Int} (hr : rightS (knX k a b) = true) : ∀ i, i < 7 → (foldF (knX k a b)).f i = knG k a b i := by
  rw [knX_fold hr]; exact knX_g k a b
theorem knG_no {k a b : Int} {i : Nat} (hi : i < 7) (h : i ≠ 5) : ((knG k a b i).kind == 3 && (knG k a b i).r == 0) = false := by
  match i, hi, h with
  | 0, _, _ => show _ = _; kernel_rfl
  | 1, _, _ => show _ = _; kernel_rfl
  | 2, _, _ => show _ = _; kernel_rfl
  | 3, _, _ => show _ = _; kernel_rfl
  | 4, _, _ => show _ = _; kernel_rfl
  | 5, _, h => exact absurd rfl h
  | 6, _, _ => show _ = _; kernel_rfl
def kkSt0 (k a b : Int) : St := ⟨[⟨10, [], .c (.ptr ⟨1, 0, 0, 0⟩)⟩, ⟨9, [], .c (.bool true)⟩, ⟨1, [], .c (.int .i64 k)⟩, ⟨2, [], .c (.int .u64 a)⟩, ⟨3, [], .c (.int .u64 b)⟩], ⟨2, [(1, blkB (knX k a b) 0), (0, opsW 8 (knF k a b))]⟩⟩
def kkSt (T : BlkS) (G : Nat → OpS) (v : Int) (i : Nat) : St := ⟨[⟨15, [], .c (.int .i64 i)⟩, ⟨13, [], .c (.int .u64 v)⟩, ⟨11, [], .c (.ptr ⟨1, 0, 0, 0⟩)⟩, ⟨9, [], .c (.bool true)⟩], ⟨2, [(1, ⟨4, none, fun _ => [.c (.int .u64 T.pc), .c (.int .i64 T.words), .c (.int .i64 T.el), .c (.slice ⟨0, 0, 0, 0⟩ false 7)], 25, true⟩), (0, opsW 7 G)]⟩⟩
set_option maxHeartbeats 8000000 in
theorem con8 (c : CoreS) (k a b : Int) (H : Heap) : Con Try.prog 8 [.agg (coreL c), .c (.int .i64 k), .c (.int .u64 a), .c (.int .u64 b)] H (fun v H' => v = .c (.bool true) ∧ H' = H) := by
  refine Con.pure ?_ (by simp only [coreL, leArgs, leV, leV1, leSegs, leSeg, leC, and_self, implies_true]) rfl H
  (refine con_of_run mixed (fn := Try.f8) (by kernel_rfl) (by kernel_rfl) C8_ok (rs := [.tmp 8]) (by kernel_rfl) (Nat.le_of_ble_eq_true (by kernel_rfl)) ?_; unfold C8; simp only [initT, Nat.reduceAdd])
  repeat' (first | refine run_seq ?_ | refine run_skip ?_ | (refine run_region fun K hK => ?_; (try (simp (maxSteps := 10000000) only [coreL, C8r0, C8r1, C8r2, C8r3, C8r5, C8r6, C8r7, C8r8, C8r9, C8r10, C8r11, C8r12, C8r13, C8r14, C8r15, C8r16, C8r17, rwp_nil, rwp_cons, rwpK_app, aop, gpath, St.get, slotAt, sfx, eqP, segsOf, St.put, addBlk, getB, setB, delB, ld1, ldn, st1, stn, setRow, rowNeed, segAt, nsub, bin, un, eqB, isShift, sameK, arith, shiftR, getsl, selB_or, selB_and, beqb, shed, addN, Nat.beq, Seg.size, sizes, imp, needP, andN, appL, argsOf, ptrsOf, aasOf, cut, takeS, dropS, putS, partsOf, fillS, fieldOf, nthA, negIf, nilq, nilB, eqS, eqF, eqS1, andP, kin, slcS, strOk, plusA, bndHi, leN, optG, roH, roL, initT, exOk, exAll, wrAddr, Nat.reduceAdd, Nat.reduceSub, Nat.reduceMul, Int.reduceToNat, List.append_nil, List.nil_append, List.cons_append, mapR, mapR1, keyL, keyOk, keyP, colsPut, colsDel, zcols, eqT, idxT, cat, cpy, ite_int, ite_bool, ite_seg, ite_segs, ite_nil, ite_twice, Int.toNat_natCast, app, addBs, tob])); (repeat (first | (refine And.intro ?_ ?_; · (first | trivial | assumption | omega | exact ⟨by omega, by omega⟩ | (intros; first | trivial | assumption | omega | decide))) | ((first | (refine call_t _ (con23 _) ?_; rintro v H' ⟨rfl, rfl⟩) | refine call_q _ (con23 _) ?_ | refine call_g _ (imp_of (con23 _)) ?_); simp (maxSteps := 10000000) only [coreL, C8r0, C8r1, C8r2, C8r3, C8r5, C8r6, C8r7, C8r8, C8r9, C8r10, C8r11, C8r12, C8r13, C8r14, C8r15, C8r16, C8r17, rwp_nil, rwp_cons, rwpK_app, aop, gpath, St.get, slotAt, sfx, eqP, segsOf, St.put, addBlk, getB, setB, delB, ld1, ldn, st1, stn, setRow, rowNeed, segAt, nsub, bin, un, eqB, isShift, sameK, arith, shiftR, getsl, selB_or, selB_and, beqb, shed, addN, Nat.beq, Seg.size, sizes, imp, needP, andN, appL, argsOf, ptrsOf, aasOf, cut, takeS, dropS, putS, partsOf, fillS, fieldOf, nthA, negIf, nilq, nilB, eqS, eqF, eqS1, andP, kin, slcS, strOk, plusA, bndHi, leN, optG, roH, roL, initT, exOk, exAll, wrAddr, Nat.reduceAdd, Nat.reduceSub, Nat.reduceMul, Int.reduceToNat, List.append_nil, List.nil_append, List.cons_append, mapR, mapR1, keyL, keyOk, keyP, colsPut, colsDel, zcols, eqT, idxT, cat, cpy, ite_int, ite_bool, ite_seg, ite_segs, ite_nil, ite_twice, Int.toNat_natCast, app, addBs, tob]))); with_reducible refine hK _ ?_; clear hK K) | (refine run_cond rfl (fun hc => ?_) (fun hc => ?_) <;> try (simp only [*, Bool.true_eq_false, Bool.false_eq_true, Bool.not_true, Bool.not_false, Bool.true_or, Bool.or_true, Bool.false_or, Bool.or_false, Bool.false_and, Bool.and_false, bne_self_eq_false, beq_self_eq_true] at hc; done)) | refine run_block ?_ | refine run_ret ?_ | refine run_nil ?_ | refine run_exit ?_ | refine blk_normal ?_ | refine blk_ret ?_ | refine blk_here ?_ | refine blk_there rfl ?_ | refine loop_exit ?_ | refine loop_ret ?_ | refine un_exit ?_ | refine un_ret ?_ | refine unE_exit ?_ | refine unE_ret ?_ | refine un_normal ?_)
  (refine run_regionL fun K hK => ?_; (try (simp (maxSteps := 10000000) only [coreL, repl, rowsFit, rowFn, partsOf, fillS, C8r0, C8r1, C8r2, C8r3, C8r4, C8r5, C8r6, C8r7, C8r8, C8r9, C8r10, C8r11, C8r12, C8r13, C8r14, C8r15, C8r16, C8r17, rwp_nil, rwp_cons, rwpK_app, aop, gpath, St.get, slotAt, sfx, eqP, segsOf, St.put, addBlk, getB, setB, delB, ld1, ldn, st1, stn, setRow, rowNeed, segAt, nsub, bin, un, eqB, isShift, sameK, arith, shiftR, getsl, selB_or, selB_and, beqb, shed, addN, Nat.beq, Seg.size, sizes, imp, needP, andN, appL, argsOf, ptrsOf, aasOf, cut, takeS, dropS, putS, partsOf, fillS, fieldOf, nthA, negIf, nilq, nilB, eqS, eqF, eqS1, andP, kin, slcS, strOk, plusA, bndHi, leN, optG, roH, roL, initT, exOk, exAll, wrAddr, Nat.reduceAdd, Nat.reduceSub, Nat.reduceMul, Int.reduceToNat, List.append_nil, List.nil_append, List.cons_append, mapR, mapR1, keyL, keyOk, keyP, colsPut, colsDel, zcols, eqT, idxT, cat, cpy, ite_int, ite_bool, ite_seg, ite_segs, ite_nil, ite_twice, Int.toNat_natCast, app, addBs, tob])); (repeat (first | (refine And.intro ?_ ?_; · first | trivial | assumption | omega))); refine hK _ (kkSt0 k a b) (LeS.intro [1, 2] (fun i h => absurd h (Nat.not_lt_zero i)) (by simp only [diff, notIn, Nat.beq, and_self]) rfl (by simp only [kkSt0, slotsLe, slotAt, Nat.beq, leV, leV1, leC, leA, nthO, Int.natCast_zero, Int.ofNat_zero, and_self]) ⟨blk_le' (knX k a b) 1 0 rfl, ⟨rfl, rfl, id, Nat.le_refl _, fun i hi => (match i, hi.resolve_right (Nat.succ_ne_zero _) with | 0, _ => by simp only [cutD, cut, dropS, takeS, Seg.size, nsub, opsW, opL, knF, Nat.reduceMul, Nat.zero_mul, Nat.one_mul, leSegs, leSeg, leC, and_self] | 1, _ => by simp only [cutD, cut, dropS, takeS, Seg.size, nsub, opsW, opL, knF, Nat.reduceMul, Nat.zero_mul, Nat.one_mul, leSegs, leSeg, leC, and_self] | 2, _ => by simp only [cutD, cut, dropS, takeS, Seg.size, nsub, opsW, opL, knF, Nat.reduceMul, Nat.zero_mul, Nat.one_mul, leSegs, leSeg, leC, and_self] | 3, _ => by simp only [cutD, cut, dropS, takeS, Seg.size, nsub, opsW, opL, knF, Nat.reduceMul, Nat.zero_mul, Nat.one_mul, leSegs, leSeg, leC, and_self] | 4, _ => by simp only [cutD, cut, dropS, takeS, Seg.size, nsub, opsW, opL, knF, Nat.reduceMul, Nat.zero_mul, Nat.one_mul, leSegs, leSeg, leC, and_self] | 5, _ => by simp only [cutD, cut, dropS, takeS, Seg.size, nsub, opsW, opL, knF, Nat.reduceMul, Nat.zero_mul, Nat.one_mul, leSegs, leSeg, leC, and_self] | 6, _ => by simp only [cutD, cut, dropS, takeS, Seg.size, nsub, opsW, opL, knF, Nat.reduceMul, Nat.zero_mul, Nat.one_mul, leSegs, leSeg, leC, and_self] | 7, _ => by simp only [cutD, cut, dropS, takeS, Seg.size, nsub, opsW, opL, knF, Nat.reduceMul, Nat.zero_mul, Nat.one_mul, leSegs, leSeg, leC, and_self])⟩, trivial⟩) ?_; clear hK K)
  have herr := reck_err k a b
  have hright := knX_right k a b
  cases hk : (decide (k ≥ 1) && decide (k ≤ 15)) with
  | false =>
    rw [hk] at herr hright
    simp only [Bool.false_eq_true, if_false] at herr
    have e3 : ∀ n, retFold (knX k a b) n = .tup [.agg zBlkL, .c (.int .i64 4)] := fun n => by unfold retFold; rw [hright]; rfl
    have e4 : newFold (knX k a b) = [] := by unfold newFold; rw [hright]; rfl
    unfold kkSt0
    repeat' (first | refine run_seq ?_ | refine run_skip ?_ | (refine run_region fun K hK => ?_; (try (simp (maxSteps := 10000000) only [blkB, blkL, opL, opsW, zBlkL, e3, e4, herr, partsOf, fillS, beq_self_eq_true, Bool.and_self, C8r0, C8r1, C8r2, C8r3, C8r4, C8r5, C8r6, C8r7, C8r10, C8r11, C8r12, C8r13, C8r14, C8r15, C8r16, C8r17, rwp_nil, rwp_cons, rwpK_app, aop, gpath, St.get, slotAt, sfx, eqP, segsOf, St.put, addBlk, getB, setB, delB, ld1, ldn, st1, stn, setRow, rowNeed, segAt, nsub, bin, un, eqB, isShift, sameK, arith, shiftR, getsl, selB_or, selB_and, beqb, shed, addN, Nat.beq, Seg.size, sizes, imp, needP, andN, appL, argsOf, ptrsOf, aasOf, cut, takeS, dropS, putS, partsOf, fillS, fieldOf, nthA, negIf, nilq, nilB, eqS, eqF, eqS1, andP, kin, slcS, strOk, plusA, bndHi, leN, optG, roH, roL, initT, exOk, exAll, wrAddr, Nat.reduceAdd, Nat.reduceSub, Nat.reduceMul, Int.reduceToNat, List.append_nil, List.nil_append, List.cons_append, mapR, mapR1, keyL, keyOk, keyP, colsPut, colsDel, zcols, eqT, idxT, cat, cpy, ite_int, ite_bool, ite_seg, ite_segs, ite_nil, ite_twice, Int.toNat_natCast, app, addBs, tob])); (repeat (first | (refine And.intro ?_ ?_; · (first | trivial | assumption | omega | exact ⟨by omega, by omega⟩ | (intros; first | trivial | assumption | omega | decide))) | ((first | (refine call_t _ (con25_at (knX k a b) 0 _ _ _ rfl (Nat.le_of_ble_eq_true rfl) (by simp [keysLt])) ?_; rintro v H' ⟨rfl, rfl⟩) | refine call_q _ (con25_at (knX k a b) 0 _ _ _ rfl (Nat.le_of_ble_eq_true rfl) (by simp [keysLt])) ?_ | refine call_g _ (imp_of (con25_at (knX k a b) 0 _ _ _ rfl (Nat.le_of_ble_eq_true rfl) (by simp [keysLt]))) ?_ | (refine call_t _ (con31 _ _ _ _) ?_; rintro v H' ⟨rfl, rfl⟩) | refine call_q _ (con31 _ _ _ _) ?_ | refine call_g _ (imp_of (con31 _ _ _ _)) ?_); simp (maxSteps := 10000000) only [blkB, blkL, opL, opsW, zBlkL, e3, e4, herr, partsOf, fillS, beq_self_eq_true, Bool.and_self, C8r0, C8r1, C8r2, C8r3, C8r4, C8r5, C8r6, C8r7, C8r10, C8r11, C8r12, C8r13, C8r14, C8r15, C8r16, C8r17, rwp_nil, rwp_cons, rwpK_app, aop, gpath, St.get, slotAt, sfx, eqP, segsOf, St.put, addBlk, getB, setB, delB, ld1, ldn, st1, stn, setRow, rowNeed, segAt, nsub, bin, un, eqB, isShift, sameK, arith, shiftR, getsl, selB_or, selB_and, beqb, shed, addN, Nat.beq, Seg.size, sizes, imp, needP, andN, appL, argsOf, ptrsOf, aasOf, cut, takeS, dropS, putS, partsOf, fillS, fieldOf, nthA, negIf, nilq, nilB, eqS, eqF, eqS1, andP, kin, slcS, strOk, plusA, bndHi, leN, optG, roH, roL, initT, exOk, exAll, wrAddr, Nat.reduceAdd, Nat.reduceSub, Nat.reduceMul, Int.reduceToNat, List.append_nil, List.nil_append, List.cons_append, mapR, mapR1, keyL, keyOk, keyP, colsPut, colsDel, zcols, eqT, idxT, cat, cpy, ite_int, ite_bool, ite_seg, ite_segs, ite_nil, ite_twice, Int.toNat_natCast, app, addBs, tob]))); with_reducible refine hK _ ?_; clear hK K) | (refine run_cond rfl (fun hc => ?_) (fun hc => ?_) <;> try (simp only [*, Bool.true_eq_false, Bool.false_eq_true, Bool.not_true, Bool.not_false, Bool.true_or, Bool.or_true, Bool.false_or, Bool.or_false, Bool.false_and, Bool.and_false, bne_self_eq_false, beq_self_eq_true] at hc; done)) | refine run_block ?_ | refine run_ret ?_ | refine run_nil ?_ | refine run_exit ?_ | refine blk_normal ?_ | refine blk_ret ?_ | refine blk_here ?_ | refine blk_there rfl ?_ | refine loop_exit ?_ | refine loop_ret ?_ | refine un_exit ?_ | refine un_ret ?_ | refine unE_exit ?_ | refine unE_ret ?_ | refine un_normal ?_)
    · repeat' (first | refine run_seq ?_ | refine run_skip ?_ | (refine run_region fun K hK => ?_; (try (simp (maxSteps := 10000000) only [blkB, blkL, opL, opsW, zBlkL, e3, e4, herr, partsOf, fillS, beq_self_eq_true, Bool.and_self, C8r0, C8r1, C8r2, C8r3, C8r4, C8r5, C8r6, C8r7, C8r8, C8r9, C8r10, C8r11, C8r12, C8r13, C8r14, C8r15, C8r16, C8r17, rwp_nil, rwp_cons, rwpK_app, aop, gpath, St.get, slotAt, sfx, eqP, segsOf, St.put, addBlk, getB, setB, delB, ld1, ldn, st1, stn, setRow, rowNeed, segAt, nsub, bin, un, eqB, isShift, sameK, arith, shiftR, getsl, selB_or, selB_and, beqb, shed, addN, Nat.beq, Seg.size, sizes, imp, needP, andN, appL, argsOf, ptrsOf, aasOf, cut, takeS, dropS, putS, partsOf, fillS, fieldOf, nthA, negIf, nilq, nilB, eqS, eqF, eqS1, andP, kin, slcS, strOk, plusA, bndHi, leN, optG, roH, roL, initT, exOk, exAll, wrAddr, Nat.reduceAdd, Nat.reduceSub, Nat.reduceMul, Int.reduceToNat, List.append_nil, List.nil_append, List.cons_append, mapR, mapR1, keyL, keyOk, keyP, colsPut, colsDel, zcols, eqT, idxT, cat, cpy, ite_int, ite_bool, ite_seg, ite_segs, ite_nil, ite_twice, Int.toNat_natCast, app, addBs, tob])); (repeat (first | (refine And.intro ?_ ?_; · (first | trivial | assumption | omega | exact ⟨by omega, by omega⟩ | (intros; first | trivial | assumption | omega | decide))))); with_reducible refine hK _ ?_; clear hK K) | (refine run_cond rfl (fun hc => ?_) (fun hc => ?_) <;> try (simp only [*, Bool.true_eq_false, Bool.false_eq_true, Bool.not_true, Bool.not_false, Bool.true_or, Bool.or_true, Bool.false_or, Bool.or_false, Bool.false_and, Bool.and_false, bne_self_eq_false, beq_self_eq_true] at hc; done)) | refine run_block ?_ | refine run_ret ?_ | refine run_nil ?_ | refine run_exit ?_ | refine blk_normal ?_ | refine blk_ret ?_ | refine blk_here ?_ | refine blk_there rfl ?_ | refine loop_exit ?_ | refine loop_ret ?_ | refine un_exit ?_ | refine un_ret ?_ | refine unE_exit ?_ | refine unE_ret ?_ | refine un_normal ?_)
      exact end_tmp1 rfl rfl rfl ⟨rfl, rfl⟩
    · exact absurd hc (by decide)
  | true =>
    rw [hk] at herr hright
    simp only [if_true] at herr
    have hn7 := knX_n hright
    have hops := knX_ops hright
    have e3 : ∀ n, retFold (knX k a b) n = .tup [.agg [.c (.int .u64 (foldF (knX k a b)).pc), .c (.int .i64 (foldF (knX k a b)).words), .c (.int .i64 (foldF (knX k a b)).el), .c (.slice ⟨n, 0, 0, 0⟩ false 7)], .c (.int .i64 0)] := fun n => by unfold retFold; rw [if_pos hright]; unfold blkL; rw [hn7]
    have e4 : newFold (knX k a b) = [opsW 7 (foldF (knX k a b)).f] := by unfold newFold; rw [if_pos hright, hn7]
    have hG5 : knG k a b 5 = ⟨3, 0, 4, 0, 0, 0⟩ := rfl
    have hG4 : knG k a b 4 = ⟨1, 0, 0, 0, 0, (reckS k a b).1⟩ := rfl
    have hno := fun i (hi : i < 7) h => @knG_no k a b i hi h
    have c31 := fun H => con31 k a b H
    have c25 := fun n X h0 hlt hkl => con25_at (knX k a b) 0 n X true h0 hlt hkl
    simp only [e3, e4] at c25
    clear e3 e4 hright hk hn7
    generalize foldF (knX k a b) = T at *
    generalize knG k a b = G at *
    generalize reckS k a b = R at *
    unfold kkSt0
    repeat' (first | refine run_seq ?_ | refine run_skip ?_ | (refine run_region fun K hK => ?_; (try (simp (maxSteps := 10000000) only [blkB, blkL, opL, opsW, herr, partsOf, fillS, C8r0, C8r1, C8r2, C8r3, C8r4, C8r5, C8r6, C8r7, C8r10, C8r11, C8r12, C8r13, C8r14, C8r15, C8r16, C8r17, rwp_nil, rwp_cons, rwpK_app, aop, gpath, St.get, slotAt, sfx, eqP, segsOf, St.put, addBlk, getB, setB, delB, ld1, ldn, st1, stn, setRow, rowNeed, segAt, nsub, bin, un, eqB, isShift, sameK, arith, shiftR, getsl, selB_or, selB_and, beqb, shed, addN, Nat.beq, Seg.size, sizes, imp, needP, andN, appL, argsOf, ptrsOf, aasOf, cut, takeS, dropS, putS, partsOf, fillS, fieldOf, nthA, negIf, nilq, nilB, eqS, eqF, eqS1, andP, kin, slcS, strOk, plusA, bndHi, leN, optG, roH, roL, initT, exOk, exAll, wrAddr, Nat.reduceAdd, Nat.reduceSub, Nat.reduceMul, Int.reduceToNat, List.append_nil, List.nil_append, List.cons_append, mapR, mapR1, keyL, keyOk, keyP, colsPut, colsDel, zcols, eqT, idxT, cat, cpy, ite_int, ite_bool, ite_seg, ite_segs, ite_nil, ite_twice, Int.toNat_natCast, app, addBs, tob])); (repeat (first | (refine And.intro ?_ ?_; · (first | trivial | assumption | omega | exact ⟨by omega, by omega⟩ | (intros; first | trivial | assumption | omega | decide))) | ((first | (refine call_t _ (c25 _ _ rfl (Nat.le_of_ble_eq_true rfl) (by simp [keysLt])) ?_; rintro v H' ⟨rfl, rfl⟩) | refine call_q _ (c25 _ _ rfl (Nat.le_of_ble_eq_true rfl) (by simp [keysLt])) ?_ | refine call_g _ (imp_of (c25 _ _ rfl (Nat.le_of_ble_eq_true rfl) (by simp [keysLt]))) ?_ | (refine call_t _ (c31 _) ?_; rintro v H' ⟨rfl, rfl⟩) | refine call_q _ (c31 _) ?_ | refine call_g _ (imp_of (c31 _)) ?_); simp (maxSteps := 10000000) only [blkB, blkL, opL, opsW, herr, partsOf, fillS, C8r0, C8r1, C8r2, C8r3, C8r4, C8r5, C8r6, C8r7, C8r10, C8r11, C8r12, C8r13, C8r14, C8r15, C8r16, C8r17, rwp_nil, rwp_cons, rwpK_app, aop, gpath, St.get, slotAt, sfx, eqP, segsOf, St.put, addBlk, getB, setB, delB, ld1, ldn, st1, stn, setRow, rowNeed, segAt, nsub, bin, un, eqB, isShift, sameK, arith, shiftR, getsl, selB_or, selB_and, beqb, shed, addN, Nat.beq, Seg.size, sizes, imp, needP, andN, appL, argsOf, ptrsOf, aasOf, cut, takeS, dropS, putS, partsOf, fillS, fieldOf, nthA, negIf, nilq, nilB, eqS, eqF, eqS1, andP, kin, slcS, strOk, plusA, bndHi, leN, optG, roH, roL, initT, exOk, exAll, wrAddr, Nat.reduceAdd, Nat.reduceSub, Nat.reduceMul, Int.reduceToNat, List.append_nil, List.nil_append, List.cons_append, mapR, mapR1, keyL, keyOk, keyP, colsPut, colsDel, zcols, eqT, idxT, cat, cpy, ite_int, ite_bool, ite_seg, ite_segs, ite_nil, ite_twice, Int.toNat_natCast, app, addBs, tob]))); with_reducible refine hK _ ?_; clear hK K) | (refine run_cond rfl (fun hc => ?_) (fun hc => ?_) <;> try (simp only [*, Bool.true_eq_false, Bool.false_eq_true, Bool.not_true, Bool.not_false, Bool.true_or, Bool.or_true, Bool.false_or, Bool.or_false, Bool.false_and, Bool.and_false, bne_self_eq_false, beq_self_eq_true] at hc; done)) | refine run_block ?_ | refine run_ret ?_ | refine run_nil ?_ | refine run_exit ?_ | refine blk_normal ?_ | refine blk_ret ?_ | refine blk_here ?_ | refine blk_there rfl ?_ | refine loop_exit ?_ | refine loop_ret ?_ | refine un_exit ?_ | refine un_ret ?_ | refine unE_exit ?_ | refine unE_ret ?_ | refine un_normal ?_)
    repeat' (first | refine run_seq ?_ | refine run_skip ?_ | (refine run_region fun K hK => ?_; (try (simp (maxSteps := 10000000) only [blkB, blkL, opL, opsW, partsOf, fillS, C8r0, C8r1, C8r2, C8r3, C8r4, C8r5, C8r6, C8r7, C8r8, C8r9, C8r12, C8r13, C8r14, C8r15, C8r16, C8r17, rwp_nil, rwp_cons, rwpK_app, aop, gpath, St.get, slotAt, sfx, eqP, segsOf, St.put, addBlk, getB, setB, delB, ld1, ldn, st1, stn, setRow, rowNeed, segAt, nsub, bin, un, eqB, isShift, sameK, arith, shiftR, getsl, selB_or, selB_and, beqb, shed, addN, Nat.beq, Seg.size, sizes, imp, needP, andN, appL, argsOf, ptrsOf, aasOf, cut, takeS, dropS, putS, partsOf, fillS, fieldOf, nthA, negIf, nilq, nilB, eqS, eqF, eqS1, andP, kin, slcS, strOk, plusA, bndHi, leN, optG, roH, roL, initT, exOk, exAll, wrAddr, Nat.reduceAdd, Nat.reduceSub, Nat.reduceMul, Int.reduceToNat, List.append_nil, List.nil_append, List.cons_append, mapR, mapR1, keyL, keyOk, keyP, colsPut, colsDel, zcols, eqT, idxT, cat, cpy, ite_int, ite_bool, ite_seg, ite_segs, ite_nil, ite_twice, Int.toNat_natCast, app, addBs, tob])); (repeat (first | (refine And.intro ?_ ?_; · (first | trivial | assumption | omega | exact ⟨by omega, by omega⟩ | (intros; first | trivial | assumption | omega | decide))))); with_reducible refine hK _ ?_; clear hK K) | (refine run_cond rfl (fun hc => ?_) (fun hc => ?_) <;> try (simp only [*, Bool.true_eq_false, Bool.false_eq_true, Bool.not_true, Bool.not_false, Bool.true_or, Bool.or_true, Bool.false_or, Bool.or_false, Bool.false_and, Bool.and_false, bne_self_eq_false, beq_self_eq_true] at hc; done)) | refine run_block ?_ | refine run_ret ?_ | refine run_nil ?_ | refine run_exit ?_ | refine blk_normal ?_ | refine blk_ret ?_ | refine blk_here ?_ | refine blk_there rfl ?_ | refine loop_exit ?_ | refine loop_ret ?_ | refine un_exit ?_ | refine un_ret ?_ | refine unE_exit ?_ | refine unE_ret ?_ | refine un_normal ?_)
    (refine run_regionL fun K hK => ?_; (try (simp (maxSteps := 10000000) only [blkB, blkL, opL, opsW, C8r0, C8r1, C8r2, C8r3, C8r4, C8r5, C8r6, C8r7, C8r8, C8r9, C8r10, C8r11, C8r12, C8r13, C8r14, C8r15, C8r16, C8r17, rwp_nil, rwp_cons, rwpK_app, aop, gpath, St.get, slotAt, sfx, eqP, segsOf, St.put, addBlk, getB, setB, delB, ld1, ldn, st1, stn, setRow, rowNeed, segAt, nsub, bin, un, eqB, isShift, sameK, arith, shiftR, getsl, selB_or, selB_and, beqb, shed, addN, Nat.beq, Seg.size, sizes, imp, needP, andN, appL, argsOf, ptrsOf, aasOf, cut, takeS, dropS, putS, partsOf, fillS, fieldOf, nthA, negIf, nilq, nilB, eqS, eqF, eqS1, andP, kin, slcS, strOk, plusA, bndHi, leN, optG, roH, roL, initT, exOk, exAll, wrAddr, Nat.reduceAdd, Nat.reduceSub, Nat.reduceMul, Int.reduceToNat, List.append_nil, List.nil_append, List.cons_append, mapR, mapR1, keyL, keyOk, keyP, colsPut, colsDel, zcols, eqT, idxT, cat, cpy, ite_int, ite_bool, ite_seg, ite_segs, ite_nil, ite_twice, Int.toNat_natCast, app, addBs, tob])); (repeat (first | (refine And.intro ?_ ?_; · first | trivial | assumption | omega))); refine hK _ (kkSt T G R.1 0) (LeS.intro [2, 3] (fun i h => absurd h (Nat.not_lt_zero i)) (by simp only [diff, notIn, Nat.beq, and_self]) rfl (by simp only [kkSt, slotsLe, slotAt, Nat.beq, leV, leV1, leC, leA, nthO, Int.natCast_zero, Int.ofNat_zero, and_self]) ⟨⟨rfl, rfl, id, Nat.le_refl _, fun _ _ => by simp only [leSegs, leSeg, leC, leA, nthO, and_self]⟩, opsw_le _ _ _ hops, trivial⟩) ?_; clear hK K)
    refine run_block ?_
    refine run_loop (fun t st => ∃ i, i ≤ 5 ∧ t = 5 - i ∧ st = kkSt T G R.1 i) 5 ⟨0, by omega, rfl, rfl⟩ ?_
    rintro t st ⟨i, hi, rfl, rfl⟩
    have hw : IntKind.i64.wrap ((i : Int) + 1) = ((i + 1 : Nat) : Int) := by rw [IntKind.wrap_i64]; omega
    have hd : decide ((i : Int) < 7) = true := decide_eq_true (by omega)
    have hd' : decide ((i : Int) < ((7 : Nat) : Int)) = true := decide_eq_true (by omega)
    by_cases h5 : i = 5
    · have hG : G i = ⟨3, 0, 4, 0, 0, 0⟩ := by rw [h5]; exact hG5
      unfold kkSt
      repeat' (first | refine run_seq ?_ | refine run_skip ?_ | (refine run_region fun K hK => ?_; (try (simp (maxSteps := 10000000) only [opL, opsW, hG, hG4, hd, hd', Int.toNat_natCast, partsOf, fillS, beq_self_eq_true, Bool.and_self, C8r0, C8r1, C8r2, C8r3, C8r4, C8r5, C8r6, C8r7, C8r8, C8r9, C8r10, C8r11, C8r12, C8r13, C8r14, C8r15, C8r16, C8r17, rwp_nil, rwp_cons, rwpK_app, aop, gpath, St.get, slotAt, sfx, eqP, segsOf, St.put, addBlk, getB, setB, delB, ld1, ldn, st1, stn, setRow, rowNeed, segAt, nsub, bin, un, eqB, isShift, sameK, arith, shiftR, getsl, selB_or, selB_and, beqb, shed, addN, Nat.beq, Seg.size, sizes, imp, needP, andN, appL, argsOf, ptrsOf, aasOf, cut, takeS, dropS, putS, partsOf, fillS, fieldOf, nthA, negIf, nilq, nilB, eqS, eqF, eqS1, andP, kin, slcS, strOk, plusA, bndHi, leN, optG, roH, roL, initT, exOk, exAll, wrAddr, Nat.reduceAdd, Nat.reduceSub, Nat.reduceMul, Int.reduceToNat, List.append_nil, List.nil_append, List.cons_append, mapR, mapR1, keyL, keyOk, keyP, colsPut, colsDel, zcols, eqT, idxT, cat, cpy, ite_int, ite_bool, ite_seg, ite_segs, ite_nil, ite_twice, Int.toNat_natCast, app, addBs, tob])); (repeat (first | (refine And.intro ?_ ?_; · (first | trivial | assumption | omega | exact ⟨by omega, by omega⟩ | (intros; first | trivial | assumption | omega | decide))))); with_reducible refine hK _ ?_; clear hK K) | (refine run_cond rfl (fun hc => ?_) (fun hc => ?_) <;> try (simp only [*, Bool.true_eq_false, Bool.false_eq_true, Bool.not_true, Bool.not_false, Bool.true_or, Bool.or_true, Bool.false_or, Bool.or_false, Bool.false_and, Bool.and_false, bne_self_eq_false, beq_self_eq_true] at hc; done)) | refine run_block ?_ | refine run_ret ?_ | refine run_nil ?_ | refine run_exit ?_ | refine blk_normal ?_ | refine blk_ret ?_ | refine blk_here ?_ | refine blk_there rfl ?_ | refine loop_exit ?_ | refine loop_ret ?_ | refine un_exit ?_ | refine un_ret ?_ | refine unE_exit ?_ | refine unE_ret ?_ | refine un_normal ?_)
      exact end_tmp1 rfl rfl rfl ⟨rfl, rfl⟩
    · have hG := hno i (by omega) h5
      unfold kkSt
      repeat' (first | refine run_seq ?_ | refine run_skip ?_ | (refine run_region fun K hK => ?_; (try (simp (maxSteps := 10000000) only [opL, opsW, hG, hd, hd', hw, Int.toNat_natCast, partsOf, fillS, C8r0, C8r1, C8r2, C8r3, C8r4, C8r5, C8r6, C8r7, C8r8, C8r9, C8r10, C8r11, C8r12, C8r13, C8r14, C8r15, C8r16, C8r17, rwp_nil, rwp_cons, rwpK_app, aop, gpath, St.get, slotAt, sfx, eqP, segsOf, St.put, addBlk, getB, setB, delB, ld1, ldn, st1, stn, setRow, rowNeed, segAt, nsub, bin, un, eqB, isShift, sameK, arith, shiftR, getsl, selB_or, selB_and, beqb, shed, addN, Nat.beq, Seg.size, sizes, imp, needP, andN, appL, argsOf, ptrsOf, aasOf, cut, takeS, dropS, putS, partsOf, fillS, fieldOf, nthA, negIf, nilq, nilB, eqS, eqF, eqS1, andP, kin, slcS, strOk, plusA, bndHi, leN, optG, roH, roL, initT, exOk, exAll, wrAddr, Nat.reduceAdd, Nat.reduceSub, Nat.reduceMul, Int.reduceToNat, List.append_nil, List.nil_append, List.cons_append, mapR, mapR1, keyL, keyOk, keyP, colsPut, colsDel, zcols, eqT, idxT, cat, cpy, ite_int, ite_bool, ite_seg, ite_segs, ite_nil, ite_twice, Int.toNat_natCast, app, addBs, tob])); (repeat (first | (refine And.intro ?_ ?_; · (first | trivial | assumption | omega | exact ⟨by omega, by omega⟩ | (intros; first | trivial | assumption | omega | decide))))); with_reducible refine hK _ ?_; clear hK K) | (refine run_cond rfl (fun hc => ?_) (fun hc => ?_) <;> try (simp only [*, Bool.true_eq_false, Bool.false_eq_true, Bool.not_true, Bool.not_false, Bool.true_or, Bool.or_true, Bool.false_or, Bool.or_false, Bool.false_and, Bool.and_false, bne_self_eq_false, beq_self_eq_true] at hc; done)) | refine run_block ?_ | refine run_ret ?_ | refine run_nil ?_ | refine run_exit ?_ | refine blk_normal ?_ | refine blk_ret ?_ | refine blk_here ?_ | refine blk_there rfl ?_ | refine loop_exit ?_ | refine loop_ret ?_ | refine un_exit ?_ | refine un_ret ?_ | refine unE_exit ?_ | refine unE_ret ?_ | refine un_normal ?_)
      exact loop_normal (5 - (i + 1)) (kkSt T G R.1 (i + 1)) (by omega) (LeS.intro [0, 1] (fun i h => absurd h (Nat.not_lt_zero i)) (by simp only [diff, notIn, Nat.beq, and_self]) rfl (by simp only [kkSt, slotsLe, slotAt, Nat.beq, leV, leV1, leC, leA, nthO, Int.natCast_zero, Int.ofNat_zero, and_self]) ⟨⟨rfl, rfl, id, Nat.le_refl _, fun _ _ => by simp only [leSegs, leSeg, leC, leA, nthO, and_self]⟩, opsw_le _ _ _ (fun _ _ => rfl), trivial⟩) ⟨i + 1, by omega, rfl, rfl⟩
end Go.Proofs.Ytmbnakinhnkabaa

namespace Go.Proofs.Ytmbnakinhnkabaa
open Go.AM Go.ChangeShapes Go.WideShapes Go.ChangeAt Go.RowKit
set_option maxRecDepth 100000
set_option linter.unusedSimpArgs false
set_option linter.unusedVariables false
def kCore : List CK := [.int .u64, .int .u64, .int .u64, .int .u64, .int .u64, .int .u64, .int .u64, .int .u64, .int .u64, .int .u64, .int .u64, .int .u64, .int .u64, .int .u64, .int .u64, .int .u64, .int .u64, .int .u64, .int .u64, .int .u64, .int .u64, .int .u64, .int .u64, .int .u64, .int .u64, .int .u64, .int .u64, .int .u64, .int .u64, .int .u64, .int .u64, .int .u64, .int .u64, .int .u64, .bool, .bool, .bool, .bool, .int .i64, .bool, .int .u64, .int .u64, .int .u64, .int .u64, .int .u64, .int .u64, .int .i64, .int .i64, .bool]
theorem kCore_ok : kindsT Try.prog 5 43 = some kCore := by kernel_rfl
def coreOf (cs : List Value) : CoreS := ⟨fun i => intAt cs i, fun i => intAt cs (31 + i), intAt cs 33, boolAt cs 34, boolAt cs 35, boolAt cs 36, boolAt cs 37, intAt cs 38, boolAt cs 39, intAt cs 40, intAt cs 41, intAt cs 42, intAt cs 43, intAt cs 44, intAt cs 45, intAt cs 46, intAt cs 47, boolAt cs 48⟩
theorem core_gen (cs : List Value) : flat (coreL (coreOf cs)) = gen 0 cs kCore 0 := rfl
theorem none_heap (W : World) : HRel (fun _ => none) ⟨0, []⟩ W := ⟨fun i B p hB => by simp [getB] at hB, fun i j B C p q hB => by simp [getB] at hB, fun i _ => rfl, fun i p hp => by cases hp⟩
theorem foldKnown_lifted (os : Os) (started : os.Started) (H : Type) (enc : TypeId × Value → H) :
    ReturnsInHanded {} Try.checked os 8 .any (Rows.foldKnownSpec.pre6 enc Try.prog Try.f8 Rows.foldKnownRow.domain false) (Rows.foldKnownSpec.post enc Try.prog Try.f8 false true false false) := by
  refine returnsInHanded_of_change (C := Try.checked) own19 started (by kernel_rfl) Try.func8
    (ChangeSpec.witness6 (enc := enc) (C := Try.checked) false ⟨#[], #[.agg (zeros kCore).toArray, .int .i64 0, .int .u64 0, .int .u64 0], []⟩ 8 (by kernel_rfl) (by kernel_rfl) (by kernel_rfl) (by kernel_rfl)) ?_
  intro W base args ds gs before hval0 hW hcnd _
  have hval : ∀ (j : Nat) t v, Try.f8.params[j]? = some t → args[j]? = some v → Value.okWide Try.prog W .any base t v := hval0
  have hW' := hW
  obtain ⟨p, q, hA0, hV, rfl, hfz, hnd⟩ := hW
  have hA : DataW.TrodAll enc Try.prog W 0 (fun _ => true) true Try.f8.params.toList args.toList ds p := hA0
  rw [Try.params8] at hA hval
  obtain ⟨v0, v1, v2, v3, d0, d1, d2, d3, p0, p1, p2, p3, rfl, rfl, rfl, h0, h1, h2, h3⟩ := trodAll_four hA
  obtain ⟨rfl, rfl⟩ := trodVars_none hV
  obtain ⟨cs0, rfl, _⟩ := okWide_struct Try.underlying43 (hval 0 43 v0 rfl rfl)
  obtain ⟨k, rfl⟩ := okWide_int Try.underlying3 (hval 1 3 v1 rfl rfl)
  obtain ⟨a, rfl⟩ := okWide_int Try.underlying22 (hval 2 22 v2 rfl rfl)
  obtain ⟨b, rfl⟩ := okWide_int Try.underlying22 (hval 3 22 v3 rfl rfl)
  have q0 : F2 (okK Try.prog W (Tr enc Try.prog W (fun _ => true) true)) kCore cs0.toList := by
    obtain ⟨f0, h0⟩ := h0
    exact kinds_ok (spare := fun _ => true) (held := true) 5 43 kCore cs0.toList kCore_ok ⟨f0, _, h0⟩
  have hrel : F2 (relA (fun _ => none)) [.agg (coreL (coreOf cs0.toList)), .c (.int .i64 k), .c (.int .u64 a), .c (.int .u64 b)] [.agg cs0, .int .i64 k, .int .u64 a, .int .u64 b] := by
    refine .cons ⟨cs0, rfl, ?_⟩ (.cons rfl (.cons rfl (.cons rfl .nil)))
    rw [core_gen]
    have := noSl_rel (φ := fun _ => none) (id := 0) kCore 0 rfl (by simpa using q0)
    simpa using this
  refine ((con8 (coreOf cs0.toList) k a b ⟨0, []⟩).2 (fun _ => none) W #[.agg cs0, .int .i64 k, .int .u64 a, .int .u64 b] hrel (none_heap W)).mono fun e W' ⟨φ', v, x, H', he, ⟨hv, hH'⟩, hx, _, hfr⟩ => ?_
  subst he; subst hv
  cases hx
  have hb : Below W.heap.size W W' := hfr.below (fun i B hB => by simp [getB] at hB)
  have hlt : ∀ x ∈ (p0 ++ p1 ++ p2 ++ p3), x.block < W.heap.size := fun x hx => hW'.lt x (by simpa using hx)
  refine ⟨_, rfl, post_of_old (pa := p0 ++ (p1 ++ (p2 ++ p3))) (pv := []) hW' (fun _ _ _ => trodAll_mk1 (shut_bool Try.underlying4 true)) (fun sp hsp => ?_) (fun _ _ => rfl) (by simp) hb (ok_one (by kernel_rfl) rfl (okWide_bool_mk Try.underlying4 true))⟩
  show DataW.TrodAll enc Try.prog W' 0 sp true Try.f8.params.toList [.agg cs0, .int .i64 k, .int .u64 a, .int .u64 b] [d0, d1, d2, d3] (p0 ++ (p1 ++ (p2 ++ p3)))
  rw [Try.params8]
  exact trodAll_mk4
    (WideElems.Trod_stays laidOut19 (by kernel_rfl) (of_decide_eq_true (by kernel_rfl)) h0 (fun x hx => hb.same (hlt x (by simp [hx]))) (fun x hx => hsp x (by simp [hx])))
    (WideElems.Trod_stays laidOut19 (by kernel_rfl) (of_decide_eq_true (by kernel_rfl)) h1 (fun x hx => hb.same (hlt x (by simp [hx]))) (fun x hx => hsp x (by simp [hx])))
    (WideElems.Trod_stays laidOut19 (by kernel_rfl) (of_decide_eq_true (by kernel_rfl)) h2 (fun x hx => hb.same (hlt x (by simp [hx]))) (fun x hx => hsp x (by simp [hx])))
    (WideElems.Trod_stays laidOut19 (by kernel_rfl) (of_decide_eq_true (by kernel_rfl)) h3 (fun x hx => hb.same (hlt x (by simp [hx]))) (fun x hx => hsp x (by simp [hx])))
theorem foldKnown_holds : Rows.FoldKnownSaid :=
  OpenClaim.holds_of_wide 8 Try.f8 rfl rfl rfl rfl rfl rfl rfl ⟨rfl, rfl, rfl, rfl, rfl⟩ rfl rfl rfl rfl rfl (by kernel_rfl) Try.func8 (by kernel_rfl)
    (of_decide_eq_true (by kernel_rfl)) (by unfold Func.isWrapper; first | (rw [if_pos (by decide +kernel)]; kernel_rfl) | (rw [if_neg (by decide +kernel)]; exact ⟨rfl, rfl⟩))
    (fun os started H enc _ => foldKnown_lifted os started H enc)
#print axioms foldKnown_holds
end Go.Proofs.Ytmbnakinhnkabaa

