/- micro: what an operation does that wants nothing. -/
import Derived.Test.YteikpddilabppaaRun
namespace Go.Proofs.Yteikpddilabppaa
open Go.AM
set_option maxRecDepth 100000
set_option linter.unusedSimpArgs false
set_option linter.unusedVariables false
def flagGet (s : RunS) (r : Int) : Bool := if r = 0 then s.core.n else if r = 1 then s.core.z else if r = 2 then s.core.c else s.core.v
def flagSet (s : RunS) (r : Int) (b : Bool) : RunS := { s with core := if r = 0 then { s.core with n := b } else if r = 1 then { s.core with z := b } else if r = 2 then { s.core with c := b } else { s.core with v := b } }
def localS (s : RunS) (m : MicroS) : RunS :=
  let a := s.host m.a.toNat
  if m.kind = 1 then setHost s m.d m.imm
  else if m.kind = 2 then setHost s m.d a
  else if m.kind = 3 then setHost s m.d (s.slot m.imm.toNat)
  else if m.kind = 4 then { s with slot := fun i => if i = m.imm.toNat then a else s.slot i }
  else if m.kind = 5 then setHost s m.d (s.core.x m.r.toNat)
  else if m.kind = 6 then { s with core := { s.core with x := fun i => if i = m.r.toNat then a else s.core.x i } }
  else if m.kind = 7 then setHost s m.d (s.core.sp s.el.toNat)
  else if m.kind = 8 then { s with core := { s.core with sp := fun i => if i = s.el.toNat then a else s.core.sp i } }
  else if m.kind = 9 then setHost s m.d (if flagGet s m.r then 1 else 0)
  else if m.kind = 10 then flagSet s m.r (a != 0)
  else if m.kind = 11 then setHost s m.d (reckS m.r a (s.host m.b.toNat)).1
  else if m.kind = 18 then { s with core := { s.core with pc := m.imm } }
  else if m.kind = 19 then (if a = 0 then s else leaveS s m.imm)
  else if m.kind = 20 then leaveS s m.imm
  else if m.kind = 21 then leaveS s a
  else if m.kind = 22 then { s with left := true, guest := IntKind.u32.wrap m.imm, isGuest := true }
  else s
structure FitM (s : RunS) (m : MicroS) : Prop where
  d0 : 0 ≤ m.d
  d8 : m.d < 8
  a0 : 0 ≤ m.a
  a8 : m.a < 8
  b0 : 0 ≤ m.b
  b8 : m.b < 8
  imm0 : 0 ≤ m.imm
  sl : m.kind = 3 ∨ m.kind = 4 → m.imm < s.nslots
  x : m.kind = 5 ∨ m.kind = 6 → 0 ≤ m.r ∧ m.r ≤ 30
  f : m.kind = 9 ∨ m.kind = 10 → 0 ≤ m.r ∧ m.r ≤ 3
  el : 0 ≤ s.el ∧ s.el ≤ 1
set_option maxHeartbeats 8000000 in
theorem con22 (s : RunS) (m : MicroS) (hf : FitM s m) : Con Try.prog 22 [me, .agg (microL m)] (runH s) (fun v H' => v = .tup [] ∧ H' = runH (localS s m)) := by
  obtain ⟨hd0, hd8, ha0, ha8, hb0, hb8, hi0, hsl, hx, hfl, hel⟩ := hf
  (refine con_of_run mixed (fn := Try.f22) (by kernel_rfl) (by kernel_rfl) C22_ok (rs := []) (by kernel_rfl) (Nat.le_of_ble_eq_true (by kernel_rfl)) ?_; unfold C22; simp only [initT, Nat.reduceAdd])
  generalize hR : (fun (v : AV) (H' : Heap) => v = AV.tup [] ∧ H' = runH (localS s m)) = R
  simp only [me, runH, runB, runL, opsB, slotB]
  repeat' (first
    | refine run_seq ?_
    | refine run_skip ?_
    | (refine run_region fun K hK => ?_; (try (simp (maxSteps := 10000000) only [microL, C22r0, C22r1, C22r2, C22r3, C22r4, C22r5, C22r6, C22r7, C22r8, C22r9, C22r10, C22r11, C22r12, C22r13, C22r14, C22r15, C22r16, C22r17, C22r18, C22r19, C22r20, C22r21, C22r22, C22r23, C22r24, C22r25, C22r26, C22r27, C22r28, C22r29, C22r30, C22r31, C22r32, C22r33, C22r34, C22r35, C22r36, C22r37, rwp_nil, rwp_cons, rwpK_app, aop, gpath, St.get, slotAt, sfx, eqP, segsOf, St.put, addBlk, getB, setB, delB, ld1, ldn, st1, stn, setRow, rowNeed, segAt, nsub, bin, un, eqB, isShift, sameK, arith, shiftR, getsl, selB_or, selB_and, beqb, shed, addN, Nat.beq, Seg.size, sizes, imp, needP, andN, appL, argsOf, ptrsOf, aasOf, cut, takeS, dropS, putS, partsOf, fillS, fieldOf, nthA, negIf, nilq, nilB, eqS, eqF, eqS1, andP, kin, slcS, strOk, plusA, bndHi, leN, optG, roH, roL, initT, exOk, exAll, wrAddr, Nat.reduceAdd, Nat.reduceSub, Nat.reduceMul, Int.reduceToNat, List.append_nil, List.nil_append, List.cons_append, eqT, idxT, cat, cpy, ite_int, ite_bool, ite_seg, ite_segs, ite_nil, ite_twice, Int.toNat_natCast, app, addBs])); (repeat (first | (refine And.intro ?_ ?_; · (first | omega | (simp only [beq_iff_eq] at hc; omega))) | ((first | (refine call_t _ (con39 _ _ _ _) ?_; rintro v H' ⟨rfl, rfl⟩) | refine call_q _ (con39 _ _ _ _) ?_ | refine call_g _ (imp_of (con39 _ _ _ _)) ?_ | (refine call_t _ (run_frame1 (con40 s _) (by simp only [me, leArgs, leV, leV1, leC, leA, nthO, and_self])) ?_; rintro v H' ⟨rfl, rfl⟩) | refine call_q _ (run_frame1 (con40 s _) (by simp only [me, leArgs, leV, leV1, leC, leA, nthO, and_self])) ?_ | refine call_g _ (imp_of (run_frame1 (con40 s _) (by simp only [me, leArgs, leV, leV1, leC, leA, nthO, and_self]))) ?_); simp (maxSteps := 10000000) only [microL, C22r0, C22r1, C22r2, C22r3, C22r4, C22r5, C22r6, C22r7, C22r8, C22r9, C22r10, C22r11, C22r12, C22r13, C22r14, C22r15, C22r16, C22r17, C22r18, C22r19, C22r20, C22r21, C22r22, C22r23, C22r24, C22r25, C22r26, C22r27, C22r28, C22r29, C22r30, C22r31, C22r32, C22r33, C22r34, C22r35, C22r36, C22r37, rwp_nil, rwp_cons, rwpK_app, aop, gpath, St.get, slotAt, sfx, eqP, segsOf, St.put, addBlk, getB, setB, delB, ld1, ldn, st1, stn, setRow, rowNeed, segAt, nsub, bin, un, eqB, isShift, sameK, arith, shiftR, getsl, selB_or, selB_and, beqb, shed, addN, Nat.beq, Seg.size, sizes, imp, needP, andN, appL, argsOf, ptrsOf, aasOf, cut, takeS, dropS, putS, partsOf, fillS, fieldOf, nthA, negIf, nilq, nilB, eqS, eqF, eqS1, andP, kin, slcS, strOk, plusA, bndHi, leN, optG, roH, roL, initT, exOk, exAll, wrAddr, Nat.reduceAdd, Nat.reduceSub, Nat.reduceMul, Int.reduceToNat, List.append_nil, List.nil_append, List.cons_append, eqT, idxT, cat, cpy, ite_int, ite_bool, ite_seg, ite_segs, ite_nil, ite_twice, Int.toNat_natCast, app, addBs]))); with_reducible refine hK _ ?_; clear hK K)
    | (refine run_cond rfl (fun hc => ?_) (fun hc => ?_) <;> try (simp only [*, Bool.true_eq_false, Bool.false_eq_true, Bool.not_true, Bool.not_false, Bool.true_or, Bool.or_true, Bool.false_or, Bool.or_false, Bool.false_and, Bool.and_false, bne_self_eq_false, beq_self_eq_true] at hc; done))
    | refine run_block ?_
    | refine run_ret ?_
    | refine run_nil ?_
    | refine run_exit ?_
    | refine blk_normal ?_
    | refine blk_ret ?_
    | refine blk_here ?_
    | refine blk_there rfl ?_
    | refine loop_exit ?_
    | refine loop_ret ?_
    | refine un_exit ?_
    | refine un_ret ?_
    | refine unE_exit ?_
    | refine unE_ret ?_
    | refine un_normal ?_)
  all_goals try (first
    | (simp only [beq_iff_eq] at hc
       subst hR
       refine end_run0 nofun (localS s m) ?_ ?_ ?_ ⟨rfl, rfl⟩ <;> (simp only [localS, hc, Int.reduceEq, if_true, if_false, reduceIte]; rfl))
    | (rename_i h0
       simp only [beq_iff_eq] at h0
       simp only [bne_iff_ne, ne_eq, bne_eq_false_iff_eq] at hc
       subst hR
       refine end_run0 nofun (localS s m) ?_ ?_ ?_ ⟨rfl, rfl⟩ <;> (simp only [localS, h0, hc, Int.reduceEq, if_true, if_false, reduceIte]; rfl))
    | (simp only [beq_iff_eq, beq_eq_false_iff_ne, ne_eq] at *
       subst hR
       refine end_run0 nofun (localS s m) ?_ ?_ ?_ ⟨rfl, rfl⟩ <;> (simp only [localS, *, if_true, if_false]; rfl)))
  · have hk : m.kind = 9 := by simpa using hc
    clear hc
    rcases (by omega : m.r = 0 ∨ m.r = 1 ∨ m.r = 2 ∨ m.r = 3) with h | h | h | h
    all_goals
      repeat' (first
    | refine run_seq ?_
    | refine run_skip ?_
    | (refine run_region fun K hK => ?_; (try (simp (maxSteps := 10000000) only [microL, h, runH, runB, runL, opsB, slotB, setHost, C22r0, C22r1, C22r2, C22r3, C22r4, C22r5, C22r6, C22r7, C22r8, C22r9, C22r10, C22r11, C22r12, C22r13, C22r14, C22r15, C22r16, C22r17, C22r18, C22r19, C22r20, C22r21, C22r22, C22r23, C22r24, C22r25, C22r26, C22r27, C22r28, C22r29, C22r30, C22r31, C22r32, C22r33, C22r34, C22r35, C22r36, C22r37, rwp_nil, rwp_cons, rwpK_app, aop, gpath, St.get, slotAt, sfx, eqP, segsOf, St.put, addBlk, getB, setB, delB, ld1, ldn, st1, stn, setRow, rowNeed, segAt, nsub, bin, un, eqB, isShift, sameK, arith, shiftR, getsl, selB_or, selB_and, beqb, shed, addN, Nat.beq, Seg.size, sizes, imp, needP, andN, appL, argsOf, ptrsOf, aasOf, cut, takeS, dropS, putS, partsOf, fillS, fieldOf, nthA, negIf, nilq, nilB, eqS, eqF, eqS1, andP, kin, slcS, strOk, plusA, bndHi, leN, optG, roH, roL, initT, exOk, exAll, wrAddr, Nat.reduceAdd, Nat.reduceSub, Nat.reduceMul, Int.reduceToNat, List.append_nil, List.nil_append, List.cons_append, eqT, idxT, cat, cpy, ite_int, ite_bool, ite_seg, ite_segs, ite_nil, ite_twice, Int.toNat_natCast, app, addBs])); (repeat (first | (refine And.intro ?_ ?_; · omega) | ((first | (refine call_t _ (run_frame1 (con38_0 (setHost s m.d 0)) (by simp only [me, leArgs, leV, leV1, leC, leA, nthO, and_self])) ?_; rintro v H' ⟨rfl, rfl⟩) | refine call_q _ (run_frame1 (con38_0 (setHost s m.d 0)) (by simp only [me, leArgs, leV, leV1, leC, leA, nthO, and_self])) ?_ | refine call_g _ (imp_of (run_frame1 (con38_0 (setHost s m.d 0)) (by simp only [me, leArgs, leV, leV1, leC, leA, nthO, and_self]))) ?_ | (refine call_t _ (run_frame1 (con38_1 (setHost s m.d 0)) (by simp only [me, leArgs, leV, leV1, leC, leA, nthO, and_self])) ?_; rintro v H' ⟨rfl, rfl⟩) | refine call_q _ (run_frame1 (con38_1 (setHost s m.d 0)) (by simp only [me, leArgs, leV, leV1, leC, leA, nthO, and_self])) ?_ | refine call_g _ (imp_of (run_frame1 (con38_1 (setHost s m.d 0)) (by simp only [me, leArgs, leV, leV1, leC, leA, nthO, and_self]))) ?_ | (refine call_t _ (run_frame1 (con38_2 (setHost s m.d 0)) (by simp only [me, leArgs, leV, leV1, leC, leA, nthO, and_self])) ?_; rintro v H' ⟨rfl, rfl⟩) | refine call_q _ (run_frame1 (con38_2 (setHost s m.d 0)) (by simp only [me, leArgs, leV, leV1, leC, leA, nthO, and_self])) ?_ | refine call_g _ (imp_of (run_frame1 (con38_2 (setHost s m.d 0)) (by simp only [me, leArgs, leV, leV1, leC, leA, nthO, and_self]))) ?_ | (refine call_t _ (run_frame1 (con38_3 (setHost s m.d 0)) (by simp only [me, leArgs, leV, leV1, leC, leA, nthO, and_self])) ?_; rintro v H' ⟨rfl, rfl⟩) | refine call_q _ (run_frame1 (con38_3 (setHost s m.d 0)) (by simp only [me, leArgs, leV, leV1, leC, leA, nthO, and_self])) ?_ | refine call_g _ (imp_of (run_frame1 (con38_3 (setHost s m.d 0)) (by simp only [me, leArgs, leV, leV1, leC, leA, nthO, and_self]))) ?_); simp (maxSteps := 10000000) only [microL, h, runH, runB, runL, opsB, slotB, setHost, C22r0, C22r1, C22r2, C22r3, C22r4, C22r5, C22r6, C22r7, C22r8, C22r9, C22r10, C22r11, C22r12, C22r13, C22r14, C22r15, C22r16, C22r17, C22r18, C22r19, C22r20, C22r21, C22r22, C22r23, C22r24, C22r25, C22r26, C22r27, C22r28, C22r29, C22r30, C22r31, C22r32, C22r33, C22r34, C22r35, C22r36, C22r37, rwp_nil, rwp_cons, rwpK_app, aop, gpath, St.get, slotAt, sfx, eqP, segsOf, St.put, addBlk, getB, setB, delB, ld1, ldn, st1, stn, setRow, rowNeed, segAt, nsub, bin, un, eqB, isShift, sameK, arith, shiftR, getsl, selB_or, selB_and, beqb, shed, addN, Nat.beq, Seg.size, sizes, imp, needP, andN, appL, argsOf, ptrsOf, aasOf, cut, takeS, dropS, putS, partsOf, fillS, fieldOf, nthA, negIf, nilq, nilB, eqS, eqF, eqS1, andP, kin, slcS, strOk, plusA, bndHi, leN, optG, roH, roL, initT, exOk, exAll, wrAddr, Nat.reduceAdd, Nat.reduceSub, Nat.reduceMul, Int.reduceToNat, List.append_nil, List.nil_append, List.cons_append, eqT, idxT, cat, cpy, ite_int, ite_bool, ite_seg, ite_segs, ite_nil, ite_twice, Int.toNat_natCast, app, addBs]))); with_reducible refine hK _ ?_; clear hK K)
    | (refine run_cond rfl (fun hc => ?_) (fun hc => ?_) <;> try (simp only [*, Bool.true_eq_false, Bool.false_eq_true, Bool.not_true, Bool.not_false, Bool.true_or, Bool.or_true, Bool.false_or, Bool.or_false, Bool.false_and, Bool.and_false, bne_self_eq_false, beq_self_eq_true] at hc; done))
    | refine run_block ?_
    | refine run_ret ?_
    | refine run_nil ?_
    | refine run_exit ?_
    | refine blk_normal ?_
    | refine blk_ret ?_
    | refine blk_here ?_
    | refine blk_there rfl ?_
    | refine loop_exit ?_
    | refine loop_ret ?_
    | refine un_exit ?_
    | refine un_ret ?_
    | refine unE_exit ?_
    | refine unE_ret ?_
    | refine un_normal ?_)
      all_goals
        subst hR
        first
          | exact end_run0 nofun (setHost s m.d 1) rfl rfl rfl ⟨rfl, by simp only [localS, flagGet, h, hk, hc, Int.reduceEq, if_true, if_false, reduceIte, Bool.false_eq_true]⟩
          | exact end_run0 nofun (setHost s m.d 0) rfl rfl rfl ⟨rfl, by simp only [localS, flagGet, h, hk, hc, Int.reduceEq, if_true, if_false, reduceIte, Bool.false_eq_true]⟩
  · have hk : m.kind = 10 := by simpa using hc
    clear hc
    rcases (by omega : m.r = 0 ∨ m.r = 1 ∨ m.r = 2 ∨ m.r = 3) with h | h | h | h
    all_goals
      repeat' (first
    | refine run_seq ?_
    | refine run_skip ?_
    | (refine run_region fun K hK => ?_; (try (simp (maxSteps := 10000000) only [microL, h, runH, runB, runL, opsB, slotB, C22r0, C22r1, C22r2, C22r3, C22r4, C22r5, C22r6, C22r7, C22r8, C22r9, C22r10, C22r11, C22r12, C22r13, C22r14, C22r15, C22r16, C22r17, C22r18, C22r19, C22r20, C22r21, C22r22, C22r23, C22r24, C22r25, C22r26, C22r27, C22r28, C22r29, C22r30, C22r31, C22r32, C22r33, C22r34, C22r35, C22r36, C22r37, rwp_nil, rwp_cons, rwpK_app, aop, gpath, St.get, slotAt, sfx, eqP, segsOf, St.put, addBlk, getB, setB, delB, ld1, ldn, st1, stn, setRow, rowNeed, segAt, nsub, bin, un, eqB, isShift, sameK, arith, shiftR, getsl, selB_or, selB_and, beqb, shed, addN, Nat.beq, Seg.size, sizes, imp, needP, andN, appL, argsOf, ptrsOf, aasOf, cut, takeS, dropS, putS, partsOf, fillS, fieldOf, nthA, negIf, nilq, nilB, eqS, eqF, eqS1, andP, kin, slcS, strOk, plusA, bndHi, leN, optG, roH, roL, initT, exOk, exAll, wrAddr, Nat.reduceAdd, Nat.reduceSub, Nat.reduceMul, Int.reduceToNat, List.append_nil, List.nil_append, List.cons_append, eqT, idxT, cat, cpy, ite_int, ite_bool, ite_seg, ite_segs, ite_nil, ite_twice, Int.toNat_natCast, app, addBs])); (repeat (first | (refine And.intro ?_ ?_; · omega) | ((first | (refine call_t _ (run_frame1 (con38_0 s) (by simp only [me, leArgs, leV, leV1, leC, leA, nthO, and_self])) ?_; rintro v H' ⟨rfl, rfl⟩) | refine call_q _ (run_frame1 (con38_0 s) (by simp only [me, leArgs, leV, leV1, leC, leA, nthO, and_self])) ?_ | refine call_g _ (imp_of (run_frame1 (con38_0 s) (by simp only [me, leArgs, leV, leV1, leC, leA, nthO, and_self]))) ?_ | (refine call_t _ (run_frame1 (con38_1 s) (by simp only [me, leArgs, leV, leV1, leC, leA, nthO, and_self])) ?_; rintro v H' ⟨rfl, rfl⟩) | refine call_q _ (run_frame1 (con38_1 s) (by simp only [me, leArgs, leV, leV1, leC, leA, nthO, and_self])) ?_ | refine call_g _ (imp_of (run_frame1 (con38_1 s) (by simp only [me, leArgs, leV, leV1, leC, leA, nthO, and_self]))) ?_ | (refine call_t _ (run_frame1 (con38_2 s) (by simp only [me, leArgs, leV, leV1, leC, leA, nthO, and_self])) ?_; rintro v H' ⟨rfl, rfl⟩) | refine call_q _ (run_frame1 (con38_2 s) (by simp only [me, leArgs, leV, leV1, leC, leA, nthO, and_self])) ?_ | refine call_g _ (imp_of (run_frame1 (con38_2 s) (by simp only [me, leArgs, leV, leV1, leC, leA, nthO, and_self]))) ?_ | (refine call_t _ (run_frame1 (con38_3 s) (by simp only [me, leArgs, leV, leV1, leC, leA, nthO, and_self])) ?_; rintro v H' ⟨rfl, rfl⟩) | refine call_q _ (run_frame1 (con38_3 s) (by simp only [me, leArgs, leV, leV1, leC, leA, nthO, and_self])) ?_ | refine call_g _ (imp_of (run_frame1 (con38_3 s) (by simp only [me, leArgs, leV, leV1, leC, leA, nthO, and_self]))) ?_); simp (maxSteps := 10000000) only [microL, h, runH, runB, runL, opsB, slotB, C22r0, C22r1, C22r2, C22r3, C22r4, C22r5, C22r6, C22r7, C22r8, C22r9, C22r10, C22r11, C22r12, C22r13, C22r14, C22r15, C22r16, C22r17, C22r18, C22r19, C22r20, C22r21, C22r22, C22r23, C22r24, C22r25, C22r26, C22r27, C22r28, C22r29, C22r30, C22r31, C22r32, C22r33, C22r34, C22r35, C22r36, C22r37, rwp_nil, rwp_cons, rwpK_app, aop, gpath, St.get, slotAt, sfx, eqP, segsOf, St.put, addBlk, getB, setB, delB, ld1, ldn, st1, stn, setRow, rowNeed, segAt, nsub, bin, un, eqB, isShift, sameK, arith, shiftR, getsl, selB_or, selB_and, beqb, shed, addN, Nat.beq, Seg.size, sizes, imp, needP, andN, appL, argsOf, ptrsOf, aasOf, cut, takeS, dropS, putS, partsOf, fillS, fieldOf, nthA, negIf, nilq, nilB, eqS, eqF, eqS1, andP, kin, slcS, strOk, plusA, bndHi, leN, optG, roH, roL, initT, exOk, exAll, wrAddr, Nat.reduceAdd, Nat.reduceSub, Nat.reduceMul, Int.reduceToNat, List.append_nil, List.nil_append, List.cons_append, eqT, idxT, cat, cpy, ite_int, ite_bool, ite_seg, ite_segs, ite_nil, ite_twice, Int.toNat_natCast, app, addBs]))); with_reducible refine hK _ ?_; clear hK K)
    | (refine run_cond rfl (fun hc => ?_) (fun hc => ?_) <;> try (simp only [*, Bool.true_eq_false, Bool.false_eq_true, Bool.not_true, Bool.not_false, Bool.true_or, Bool.or_true, Bool.false_or, Bool.or_false, Bool.false_and, Bool.and_false, bne_self_eq_false, beq_self_eq_true] at hc; done))
    | refine run_block ?_
    | refine run_ret ?_
    | refine run_nil ?_
    | refine run_exit ?_
    | refine blk_normal ?_
    | refine blk_ret ?_
    | refine blk_here ?_
    | refine blk_there rfl ?_
    | refine loop_exit ?_
    | refine loop_ret ?_
    | refine un_exit ?_
    | refine un_ret ?_
    | refine unE_exit ?_
    | refine unE_ret ?_
    | refine un_normal ?_)
      subst hR
      refine end_run0 nofun (localS s m) ?_ ?_ ?_ ⟨rfl, rfl⟩ <;> (simp only [localS, flagSet, h, hk, Int.reduceEq, if_true, if_false, reduceIte]; first | rfl | skip)
end Go.Proofs.Yteikpddilabppaa
