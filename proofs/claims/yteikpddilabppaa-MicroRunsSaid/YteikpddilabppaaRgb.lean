/- the reference of chapter 22: an operation. -/
import Derived.Test.YteikpddilabppaaRga
namespace Go.Proofs.Yteikpddilabppaa
open Go.AM
set_option maxRecDepth 100000
set_option linter.unusedSimpArgs false
set_option linter.unusedVariables false
/-- An operation, carried out. -/
def oneS (s : RunS) (m : MicroS) : RunS :=
  if (worldS s m).1 = true then (worldS s m).2
  else { localS s m with steps := IntKind.i64.wrap ((localS s m).steps + 1), at_ := IntKind.i64.wrap ((localS s m).at_ + 1) }
structure RegU (s : RunS) : Prop where
  host : ∀ i, i < 8 → U (s.host i)
  slot : ∀ i, i < s.nslots → U (s.slot i)
  x : ∀ i, i < 31 → U (s.core.x i)
  sp : ∀ i, i < 2 → U (s.core.sp i)
  g : U s.guest
theorem world_local {s : RunS} {m : MicroS} (h : ¬ (m.kind = 12 ∨ m.kind = 13 ∨ m.kind = 14 ∨ m.kind = 15 ∨ m.kind = 16 ∨ m.kind = 17)) : worldS s m = (false, s) := by
  simp only [not_or] at h
  obtain ⟨h1, h2, h3, h4, h5, h6⟩ := h
  simp only [worldS, h1, h2, h3, h4, h5, h6, if_false]
theorem one_local {s : RunS} {m : MicroS} (h : ¬ (m.kind = 12 ∨ m.kind = 13 ∨ m.kind = 14 ∨ m.kind = 15 ∨ m.kind = 16 ∨ m.kind = 17)) : oneS s m = { localS s m with steps := IntKind.i64.wrap ((localS s m).steps + 1), at_ := IntKind.i64.wrap ((localS s m).at_ + 1) } := by
  simp only [oneS, world_local h, Bool.false_eq_true, if_false]
set_option maxHeartbeats 8000000 in
theorem con23 (s : RunS) (W : WantS) (m : MicroS) (hf : FitM s m) (ho : OpR m) (hw : s.waits = .none) (hu : RegU s) : Con Try.prog 23 [me, .agg (microL m)] (refH s W) (fun v H' => v = .tup [] ∧ H' = refH (oneS s m) (wNext (oneS s m) W)) := by
  obtain ⟨hd0, hd8, ha0, ha8, hb0, hb8, hi0, hsl, hx, hfl, hel⟩ := id hf
  have hua := hu.host m.a.toNat (by omega)
  have hub := hu.host m.b.toNat (by omega)
  (refine con_of_run mixed (fn := Try.f23) (by kernel_rfl) (by kernel_rfl) C23_ok (rs := []) (by kernel_rfl) (Nat.le_of_ble_eq_true (by kernel_rfl)) ?_; unfold C23; simp only [initT, Nat.reduceAdd])
  generalize hR : (fun (v : AV) (H' : Heap) => v = AV.tup [] ∧ H' = refH (oneS s m) (wNext (oneS s m) W)) = R
  simp only [me, refH, refB, refLa, opsR, slotB]
  repeat' (first
    | refine run_seq ?_
    | refine run_skip ?_
    | (refine run_region fun K hK => ?_; (try (simp (maxSteps := 10000000) only [microL, ne_eq, C23r0, C23r1, C23r2, C23r3, C23r4, C23r5, C23r6, C23r7, C23r8, C23r9, C23r10, C23r11, C23r12, C23r13, C23r14, C23r15, C23r16, C23r17, C23r18, C23r19, C23r20, C23r21, C23r22, C23r23, C23r24, C23r25, C23r26, C23r27, C23r28, C23r29, C23r30, C23r31, C23r32, C23r33, C23r34, C23r35, C23r36, C23r37, C23r38, C23r39, C23r40, C23r41, C23r42, C23r43, C23r44, C23r45, C23r46, C23r47, C23r48, C23r49, C23r50, C23r51, rwp_nil, rwp_cons, rwpK_app, aop, gpath, St.get, slotAt, sfx, eqP, segsOf, St.put, addBlk, getB, setB, delB, ld1, ldn, st1, stn, setRow, rowNeed, segAt, nsub, bin, un, eqB, isShift, sameK, arith, shiftR, getsl, selB_or, selB_and, beqb, shed, addN, Nat.beq, Seg.size, sizes, imp, needP, andN, appL, argsOf, ptrsOf, aasOf, cut, takeS, dropS, putS, partsOf, fillS, fieldOf, nthA, negIf, nilq, nilB, eqS, eqF, eqS1, andP, kin, slcS, strOk, plusA, bndHi, leN, optG, roH, roL, initT, exOk, exAll, wrAddr, Nat.reduceAdd, Nat.reduceSub, Nat.reduceMul, Int.reduceToNat, List.append_nil, List.nil_append, List.cons_append, eqT, idxT, cat, cpy, ite_int, ite_bool, ite_seg, ite_segs, ite_nil, ite_twice, Int.toNat_natCast, app, addBs])); (repeat (first | (refine And.intro ?_ ?_; · (first | omega | (simp only [beq_iff_eq] at hc; omega))) | ((first | (refine call_t _ (con44 _ _ _ hua hub _) ?_; rintro v H' ⟨rfl, rfl⟩) | refine call_q _ (con44 _ _ _ hua hub _) ?_ | refine call_g _ (imp_of (con44 _ _ _ hua hub _)) ?_ | (refine call_t _ (ref_frame1 (con45 s W m.imm) (by simp only [me, microL, wantL, leArgs, leV, leV1, leSegs, leSeg, leC, leA, nthO, and_self])) ?_; rintro v H' ⟨rfl, rfl⟩) | refine call_q _ (ref_frame1 (con45 s W m.imm) (by simp only [me, microL, wantL, leArgs, leV, leV1, leSegs, leSeg, leC, leA, nthO, and_self])) ?_ | refine call_g _ (imp_of (ref_frame1 (con45 s W m.imm) (by simp only [me, microL, wantL, leArgs, leV, leV1, leSegs, leSeg, leC, leA, nthO, and_self]))) ?_ | (refine call_t _ (ref_frame1 (con45 s W (s.host m.a.toNat)) (by simp only [me, microL, wantL, leArgs, leV, leV1, leSegs, leSeg, leC, leA, nthO, and_self])) ?_; rintro v H' ⟨rfl, rfl⟩) | refine call_q _ (ref_frame1 (con45 s W (s.host m.a.toNat)) (by simp only [me, microL, wantL, leArgs, leV, leV1, leSegs, leSeg, leC, leA, nthO, and_self])) ?_ | refine call_g _ (imp_of (ref_frame1 (con45 s W (s.host m.a.toNat)) (by simp only [me, microL, wantL, leArgs, leV, leV1, leSegs, leSeg, leC, leA, nthO, and_self]))) ?_ | (refine call_t _ (ref_frame1 (con42 s W ⟨16, 0, 0, 0, false, 0, false, 0, 0, 0⟩ .fenced rfl) (by simp only [me, microL, wantL, leArgs, leV, leV1, leSegs, leSeg, leC, leA, nthO, and_self])) ?_; rintro v H' ⟨rfl, rfl⟩) | refine call_q _ (ref_frame1 (con42 s W ⟨16, 0, 0, 0, false, 0, false, 0, 0, 0⟩ .fenced rfl) (by simp only [me, microL, wantL, leArgs, leV, leV1, leSegs, leSeg, leC, leA, nthO, and_self])) ?_ | refine call_g _ (imp_of (ref_frame1 (con42 s W ⟨16, 0, 0, 0, false, 0, false, 0, 0, 0⟩ .fenced rfl) (by simp only [me, microL, wantL, leArgs, leV, leV1, leSegs, leSeg, leC, leA, nthO, and_self]))) ?_ | (refine call_t _ (ref_frame1 (con42 s W ⟨6, 0, 0, 0, false, m.r, false, 0, 0, 0⟩ .fenced rfl) (by simp only [me, microL, wantL, leArgs, leV, leV1, leSegs, leSeg, leC, leA, nthO, and_self])) ?_; rintro v H' ⟨rfl, rfl⟩) | refine call_q _ (ref_frame1 (con42 s W ⟨6, 0, 0, 0, false, m.r, false, 0, 0, 0⟩ .fenced rfl) (by simp only [me, microL, wantL, leArgs, leV, leV1, leSegs, leSeg, leC, leA, nthO, and_self])) ?_ | refine call_g _ (imp_of (ref_frame1 (con42 s W ⟨6, 0, 0, 0, false, m.r, false, 0, 0, 0⟩ .fenced rfl) (by simp only [me, microL, wantL, leArgs, leV, leV1, leSegs, leSeg, leC, leA, nthO, and_self]))) ?_ | (refine call_t _ (ref_frame1 (con43 s W m.r (s.host m.a.toNat != 0)) (by simp only [me, microL, wantL, leArgs, leV, leV1, leSegs, leSeg, leC, leA, nthO, and_self])) ?_; rintro v H' ⟨rfl, rfl⟩) | refine call_q _ (ref_frame1 (con43 s W m.r (s.host m.a.toNat != 0)) (by simp only [me, microL, wantL, leArgs, leV, leV1, leSegs, leSeg, leC, leA, nthO, and_self])) ?_ | refine call_g _ (imp_of (ref_frame1 (con43 s W m.r (s.host m.a.toNat != 0)) (by simp only [me, microL, wantL, leArgs, leV, leV1, leSegs, leSeg, leC, leA, nthO, and_self]))) ?_ | (refine call_t _ (ref_frame1 (con41 s W m hf ho hw (by simp only [beq_iff_eq] at *; omega) _ rfl) (by simp only [me, microL, wantL, leArgs, leV, leV1, leSegs, leSeg, leC, leA, nthO, and_self])) ?_; rintro v H' ⟨rfl, rfl⟩) | refine call_q _ (ref_frame1 (con41 s W m hf ho hw (by simp only [beq_iff_eq] at *; omega) _ rfl) (by simp only [me, microL, wantL, leArgs, leV, leV1, leSegs, leSeg, leC, leA, nthO, and_self])) ?_ | refine call_g _ (imp_of (ref_frame1 (con41 s W m hf ho hw (by simp only [beq_iff_eq] at *; omega) _ rfl) (by simp only [me, microL, wantL, leArgs, leV, leV1, leSegs, leSeg, leC, leA, nthO, and_self]))) ?_); simp (maxSteps := 10000000) only [microL, ne_eq, C23r0, C23r1, C23r2, C23r3, C23r4, C23r5, C23r6, C23r7, C23r8, C23r9, C23r10, C23r11, C23r12, C23r13, C23r14, C23r15, C23r16, C23r17, C23r18, C23r19, C23r20, C23r21, C23r22, C23r23, C23r24, C23r25, C23r26, C23r27, C23r28, C23r29, C23r30, C23r31, C23r32, C23r33, C23r34, C23r35, C23r36, C23r37, C23r38, C23r39, C23r40, C23r41, C23r42, C23r43, C23r44, C23r45, C23r46, C23r47, C23r48, C23r49, C23r50, C23r51, rwp_nil, rwp_cons, rwpK_app, aop, gpath, St.get, slotAt, sfx, eqP, segsOf, St.put, addBlk, getB, setB, delB, ld1, ldn, st1, stn, setRow, rowNeed, segAt, nsub, bin, un, eqB, isShift, sameK, arith, shiftR, getsl, selB_or, selB_and, beqb, shed, addN, Nat.beq, Seg.size, sizes, imp, needP, andN, appL, argsOf, ptrsOf, aasOf, cut, takeS, dropS, putS, partsOf, fillS, fieldOf, nthA, negIf, nilq, nilB, eqS, eqF, eqS1, andP, kin, slcS, strOk, plusA, bndHi, leN, optG, roH, roL, initT, exOk, exAll, wrAddr, Nat.reduceAdd, Nat.reduceSub, Nat.reduceMul, Int.reduceToNat, List.append_nil, List.nil_append, List.cons_append, eqT, idxT, cat, cpy, ite_int, ite_bool, ite_seg, ite_segs, ite_nil, ite_twice, Int.toNat_natCast, app, addBs]))); with_reducible refine hK _ ?_; clear hK K)
    | (refine run_cond rfl (fun hc => ?_) (fun hc => ?_) <;> try (simp only [*, Bool.true_eq_false, Bool.false_eq_true, Bool.not_true, Bool.not_false, Bool.true_or, Bool.or_true, Bool.false_or, Bool.or_false, Bool.false_and, Bool.and_false, bne_self_eq_false, beq_self_eq_true] at hc; done))
    | refine run_block ?_
    | refine run_ret ?_
    | refine run_nil ?_
    | refine run_exit ?_
    | refine blk_normal ?_
    | refine blk_ret ?_
    | refine blk_here ?_
    | refine blk_there rfl ?_
    | refine loop_exit ?_
    | refine loop_ret ?_
    | refine un_exit ?_
    | refine un_ret ?_
    | refine unE_exit ?_
    | refine unE_ret ?_
    | refine un_normal ?_)
  -- what wants something
  iterate 4 (· have h : m.kind = 12 ∨ m.kind = 13 ∨ m.kind = 14 ∨ m.kind = 15 := by simp only [beq_iff_eq] at hc; omega
               have e : oneS s m = (worldS s m).2 := by rcases h with h | h | h | h <;> simp only [oneS, worldS, h, Int.reduceEq, if_true, if_false, reduceIte]
               subst hR
               rw [e]
               exact end_ref0 nofun (worldS s m).2 _ rfl rfl rfl ⟨rfl, rfl⟩)
  iterate 2 (· have h := beq_iff_eq.1 hc
               subst hR
               have e : oneS s m = (worldS s m).2 := by simp only [oneS, worldS, h, Int.reduceEq, if_true, if_false, reduceIte]
               rw [e]
               simp only [worldS, h, Int.reduceEq, if_true, if_false, reduceIte]
               exact end_ref0 nofun _ _ rfl rfl rfl ⟨rfl, rfl⟩)
  -- what wants nothing
  all_goals
    have hkl : ¬ (m.kind = 12 ∨ m.kind = 13 ∨ m.kind = 14 ∨ m.kind = 15 ∨ m.kind = 16 ∨ m.kind = 17) := by
      simp only [beq_iff_eq, beq_eq_false_iff_ne, ne_eq] at *
      omega
    have e := one_local (s := s) hkl
    have hwn : (oneS s m).waits = .none := by rw [e]; exact (local_same s m).waits.trans hw
    have w : wNext (oneS s m) W = W := by simp only [wNext, hwn, isN, if_true]
    rw [w] at hR
    clear w hwn
  all_goals try (
    have h := beq_iff_eq.1 hc
    subst hR
    refine end_ref0 nofun (oneS s m) W ?_ ?_ ?_ ⟨rfl, rfl⟩ <;> rw [e] <;> simp only [localS, h, refR_eq _ _ _ hua hub, Int.reduceEq, if_true, if_false, reduceIte] <;> rfl)
  · have h := beq_iff_eq.1 hc
    clear hc
    rcases (by omega : m.r = 0 ∨ m.r = 1 ∨ m.r = 2 ∨ m.r = 3) with hr | hr | hr | hr
    all_goals
      repeat' (first
    | refine run_seq ?_
    | refine run_skip ?_
    | (refine run_region fun K hK => ?_; (try (simp (maxSteps := 10000000) only [microL, hr, repl, rowsFit, rowFn, cutD, C23r0, C23r1, C23r2, C23r3, C23r4, C23r5, C23r6, C23r7, C23r8, C23r9, C23r10, C23r11, C23r12, C23r13, C23r14, C23r15, C23r16, C23r17, C23r18, C23r19, C23r20, C23r21, C23r22, C23r23, C23r24, C23r25, C23r26, C23r27, C23r28, C23r29, C23r30, C23r31, C23r32, C23r33, C23r34, C23r35, C23r36, C23r37, C23r38, C23r39, C23r40, C23r41, C23r42, C23r43, C23r44, C23r45, C23r46, C23r47, C23r48, C23r49, C23r50, C23r51, rwp_nil, rwp_cons, rwpK_app, aop, gpath, St.get, slotAt, sfx, eqP, segsOf, St.put, addBlk, getB, setB, delB, ld1, ldn, st1, stn, setRow, rowNeed, segAt, nsub, bin, un, eqB, isShift, sameK, arith, shiftR, getsl, selB_or, selB_and, beqb, shed, addN, Nat.beq, Seg.size, sizes, imp, needP, andN, appL, argsOf, ptrsOf, aasOf, cut, takeS, dropS, putS, partsOf, fillS, fieldOf, nthA, negIf, nilq, nilB, eqS, eqF, eqS1, andP, kin, slcS, strOk, plusA, bndHi, leN, optG, roH, roL, initT, exOk, exAll, wrAddr, Nat.reduceAdd, Nat.reduceSub, Nat.reduceMul, Int.reduceToNat, List.append_nil, List.nil_append, List.cons_append, eqT, idxT, cat, cpy, ite_int, ite_bool, ite_seg, ite_segs, ite_nil, ite_twice, Int.toNat_natCast, app, addBs])); (repeat (first | (refine And.intro ?_ ?_; · first | omega | decide))); with_reducible refine hK _ ?_; clear hK K)
    | (refine run_cond rfl (fun hc => ?_) (fun hc => ?_) <;> try (simp only [*, Bool.true_eq_false, Bool.false_eq_true, Bool.not_true, Bool.not_false, Bool.true_or, Bool.or_true, Bool.false_or, Bool.or_false, Bool.false_and, Bool.and_false, bne_self_eq_false, beq_self_eq_true] at hc; done))
    | refine run_block ?_
    | refine run_ret ?_
    | refine run_nil ?_
    | refine run_exit ?_
    | refine blk_normal ?_
    | refine blk_ret ?_
    | refine blk_here ?_
    | refine blk_there rfl ?_
    | refine loop_exit ?_
    | refine loop_ret ?_
    | refine un_exit ?_
    | refine un_ret ?_
    | refine unE_exit ?_
    | refine unE_ret ?_
    | refine un_normal ?_)
      all_goals
        subst hR
        first
          | exact end_ref0 nofun { setHost s m.d 1 with steps := IntKind.i64.wrap ((setHost s m.d 1).steps + 1), at_ := IntKind.i64.wrap ((setHost s m.d 1).at_ + 1) } W rfl rfl rfl ⟨rfl, by rw [e]; simp only [localS, flagGet, h, hr, hc, Int.reduceEq, if_true, if_false, reduceIte, Bool.false_eq_true]⟩
          | exact end_ref0 nofun { setHost s m.d 0 with steps := IntKind.i64.wrap ((setHost s m.d 0).steps + 1), at_ := IntKind.i64.wrap ((setHost s m.d 0).at_ + 1) } W rfl rfl rfl ⟨rfl, by rw [e]; simp only [localS, flagGet, h, hr, hc, Int.reduceEq, if_true, if_false, reduceIte, Bool.false_eq_true]⟩
  · have h := beq_iff_eq.1 hc
    repeat' (first
    | refine run_seq ?_
    | refine run_skip ?_
    | (refine run_region fun K hK => ?_; (try (simp (maxSteps := 10000000) only [microL, refH, refB, refLa, opsR, slotB, C23r0, C23r1, C23r2, C23r3, C23r4, C23r5, C23r6, C23r7, C23r8, C23r9, C23r10, C23r11, C23r12, C23r13, C23r14, C23r15, C23r16, C23r17, C23r18, C23r19, C23r20, C23r21, C23r22, C23r23, C23r24, C23r25, C23r26, C23r27, C23r28, C23r29, C23r30, C23r31, C23r32, C23r33, C23r34, C23r35, C23r36, C23r37, C23r38, C23r39, C23r40, C23r41, C23r42, C23r43, C23r44, C23r45, C23r46, C23r47, C23r48, C23r49, C23r50, C23r51, rwp_nil, rwp_cons, rwpK_app, aop, gpath, St.get, slotAt, sfx, eqP, segsOf, St.put, addBlk, getB, setB, delB, ld1, ldn, st1, stn, setRow, rowNeed, segAt, nsub, bin, un, eqB, isShift, sameK, arith, shiftR, getsl, selB_or, selB_and, beqb, shed, addN, Nat.beq, Seg.size, sizes, imp, needP, andN, appL, argsOf, ptrsOf, aasOf, cut, takeS, dropS, putS, partsOf, fillS, fieldOf, nthA, negIf, nilq, nilB, eqS, eqF, eqS1, andP, kin, slcS, strOk, plusA, bndHi, leN, optG, roH, roL, initT, exOk, exAll, wrAddr, Nat.reduceAdd, Nat.reduceSub, Nat.reduceMul, Int.reduceToNat, List.append_nil, List.nil_append, List.cons_append, eqT, idxT, cat, cpy, ite_int, ite_bool, ite_seg, ite_segs, ite_nil, ite_twice, Int.toNat_natCast, app, addBs])); (repeat (first | (refine And.intro ?_ ?_; · omega))); with_reducible refine hK _ ?_; clear hK K)
    | (refine run_cond rfl (fun hc => ?_) (fun hc => ?_) <;> try (simp only [*, Bool.true_eq_false, Bool.false_eq_true, Bool.not_true, Bool.not_false, Bool.true_or, Bool.or_true, Bool.false_or, Bool.or_false, Bool.false_and, Bool.and_false, bne_self_eq_false, beq_self_eq_true] at hc; done))
    | refine run_block ?_
    | refine run_ret ?_
    | refine run_nil ?_
    | refine run_exit ?_
    | refine blk_normal ?_
    | refine blk_ret ?_
    | refine blk_here ?_
    | refine blk_there rfl ?_
    | refine loop_exit ?_
    | refine loop_ret ?_
    | refine un_exit ?_
    | refine un_ret ?_
    | refine unE_exit ?_
    | refine unE_ret ?_
    | refine un_normal ?_)
    subst hR
    refine end_ref0 nofun (oneS s m) W ?_ ?_ ?_ ⟨rfl, rfl⟩ <;> rw [e] <;> simp only [localS, h, Int.reduceEq, if_true, if_false, reduceIte] <;> rfl
  · have h := beq_iff_eq.1 ‹(m.kind == 19) = true›
    have h0 : ¬ s.host m.a.toNat = 0 := by simpa using hc
    repeat' (first
    | refine run_seq ?_
    | refine run_skip ?_
    | (refine run_region fun K hK => ?_; (try (simp (maxSteps := 10000000) only [microL, refH, refB, refLa, opsR, slotB, C23r0, C23r1, C23r2, C23r3, C23r4, C23r5, C23r6, C23r7, C23r8, C23r9, C23r10, C23r11, C23r12, C23r13, C23r14, C23r15, C23r16, C23r17, C23r18, C23r19, C23r20, C23r21, C23r22, C23r23, C23r24, C23r25, C23r26, C23r27, C23r28, C23r29, C23r30, C23r31, C23r32, C23r33, C23r34, C23r35, C23r36, C23r37, C23r38, C23r39, C23r40, C23r41, C23r42, C23r43, C23r44, C23r45, C23r46, C23r47, C23r48, C23r49, C23r50, C23r51, rwp_nil, rwp_cons, rwpK_app, aop, gpath, St.get, slotAt, sfx, eqP, segsOf, St.put, addBlk, getB, setB, delB, ld1, ldn, st1, stn, setRow, rowNeed, segAt, nsub, bin, un, eqB, isShift, sameK, arith, shiftR, getsl, selB_or, selB_and, beqb, shed, addN, Nat.beq, Seg.size, sizes, imp, needP, andN, appL, argsOf, ptrsOf, aasOf, cut, takeS, dropS, putS, partsOf, fillS, fieldOf, nthA, negIf, nilq, nilB, eqS, eqF, eqS1, andP, kin, slcS, strOk, plusA, bndHi, leN, optG, roH, roL, initT, exOk, exAll, wrAddr, Nat.reduceAdd, Nat.reduceSub, Nat.reduceMul, Int.reduceToNat, List.append_nil, List.nil_append, List.cons_append, eqT, idxT, cat, cpy, ite_int, ite_bool, ite_seg, ite_segs, ite_nil, ite_twice, Int.toNat_natCast, app, addBs])); (repeat (first | (refine And.intro ?_ ?_; · omega))); with_reducible refine hK _ ?_; clear hK K)
    | (refine run_cond rfl (fun hc => ?_) (fun hc => ?_) <;> try (simp only [*, Bool.true_eq_false, Bool.false_eq_true, Bool.not_true, Bool.not_false, Bool.true_or, Bool.or_true, Bool.false_or, Bool.or_false, Bool.false_and, Bool.and_false, bne_self_eq_false, beq_self_eq_true] at hc; done))
    | refine run_block ?_
    | refine run_ret ?_
    | refine run_nil ?_
    | refine run_exit ?_
    | refine blk_normal ?_
    | refine blk_ret ?_
    | refine blk_here ?_
    | refine blk_there rfl ?_
    | refine loop_exit ?_
    | refine loop_ret ?_
    | refine un_exit ?_
    | refine un_ret ?_
    | refine unE_exit ?_
    | refine unE_ret ?_
    | refine un_normal ?_)
    subst hR
    refine end_ref0 nofun (oneS s m) W ?_ ?_ ?_ ⟨rfl, rfl⟩ <;> rw [e] <;> simp only [localS, h, h0, Int.reduceEq, if_true, if_false, reduceIte] <;> rfl
  · have h := beq_iff_eq.1 ‹(m.kind == 19) = true›
    have h0 : s.host m.a.toNat = 0 := by simpa using hc
    subst hR
    refine end_ref0 nofun (oneS s m) W ?_ ?_ ?_ ⟨rfl, rfl⟩ <;> rw [e] <;> simp only [localS, h, h0, Int.reduceEq, if_true, if_false, reduceIte] <;> rfl
  · have h := beq_iff_eq.1 hc
    repeat' (first
    | refine run_seq ?_
    | refine run_skip ?_
    | (refine run_region fun K hK => ?_; (try (simp (maxSteps := 10000000) only [microL, refH, refB, refLa, opsR, slotB, C23r0, C23r1, C23r2, C23r3, C23r4, C23r5, C23r6, C23r7, C23r8, C23r9, C23r10, C23r11, C23r12, C23r13, C23r14, C23r15, C23r16, C23r17, C23r18, C23r19, C23r20, C23r21, C23r22, C23r23, C23r24, C23r25, C23r26, C23r27, C23r28, C23r29, C23r30, C23r31, C23r32, C23r33, C23r34, C23r35, C23r36, C23r37, C23r38, C23r39, C23r40, C23r41, C23r42, C23r43, C23r44, C23r45, C23r46, C23r47, C23r48, C23r49, C23r50, C23r51, rwp_nil, rwp_cons, rwpK_app, aop, gpath, St.get, slotAt, sfx, eqP, segsOf, St.put, addBlk, getB, setB, delB, ld1, ldn, st1, stn, setRow, rowNeed, segAt, nsub, bin, un, eqB, isShift, sameK, arith, shiftR, getsl, selB_or, selB_and, beqb, shed, addN, Nat.beq, Seg.size, sizes, imp, needP, andN, appL, argsOf, ptrsOf, aasOf, cut, takeS, dropS, putS, partsOf, fillS, fieldOf, nthA, negIf, nilq, nilB, eqS, eqF, eqS1, andP, kin, slcS, strOk, plusA, bndHi, leN, optG, roH, roL, initT, exOk, exAll, wrAddr, Nat.reduceAdd, Nat.reduceSub, Nat.reduceMul, Int.reduceToNat, List.append_nil, List.nil_append, List.cons_append, eqT, idxT, cat, cpy, ite_int, ite_bool, ite_seg, ite_segs, ite_nil, ite_twice, Int.toNat_natCast, app, addBs])); (repeat (first | (refine And.intro ?_ ?_; · omega))); with_reducible refine hK _ ?_; clear hK K)
    | (refine run_cond rfl (fun hc => ?_) (fun hc => ?_) <;> try (simp only [*, Bool.true_eq_false, Bool.false_eq_true, Bool.not_true, Bool.not_false, Bool.true_or, Bool.or_true, Bool.false_or, Bool.or_false, Bool.false_and, Bool.and_false, bne_self_eq_false, beq_self_eq_true] at hc; done))
    | refine run_block ?_
    | refine run_ret ?_
    | refine run_nil ?_
    | refine run_exit ?_
    | refine blk_normal ?_
    | refine blk_ret ?_
    | refine blk_here ?_
    | refine blk_there rfl ?_
    | refine loop_exit ?_
    | refine loop_ret ?_
    | refine un_exit ?_
    | refine un_ret ?_
    | refine unE_exit ?_
    | refine unE_ret ?_
    | refine un_normal ?_)
    subst hR
    refine end_ref0 nofun (oneS s m) W ?_ ?_ ?_ ⟨rfl, rfl⟩ <;> rw [e] <;> simp only [localS, h, Int.reduceEq, if_true, if_false, reduceIte] <;> rfl
  · have h := beq_iff_eq.1 hc
    repeat' (first
    | refine run_seq ?_
    | refine run_skip ?_
    | (refine run_region fun K hK => ?_; (try (simp (maxSteps := 10000000) only [microL, refH, refB, refLa, opsR, slotB, C23r0, C23r1, C23r2, C23r3, C23r4, C23r5, C23r6, C23r7, C23r8, C23r9, C23r10, C23r11, C23r12, C23r13, C23r14, C23r15, C23r16, C23r17, C23r18, C23r19, C23r20, C23r21, C23r22, C23r23, C23r24, C23r25, C23r26, C23r27, C23r28, C23r29, C23r30, C23r31, C23r32, C23r33, C23r34, C23r35, C23r36, C23r37, C23r38, C23r39, C23r40, C23r41, C23r42, C23r43, C23r44, C23r45, C23r46, C23r47, C23r48, C23r49, C23r50, C23r51, rwp_nil, rwp_cons, rwpK_app, aop, gpath, St.get, slotAt, sfx, eqP, segsOf, St.put, addBlk, getB, setB, delB, ld1, ldn, st1, stn, setRow, rowNeed, segAt, nsub, bin, un, eqB, isShift, sameK, arith, shiftR, getsl, selB_or, selB_and, beqb, shed, addN, Nat.beq, Seg.size, sizes, imp, needP, andN, appL, argsOf, ptrsOf, aasOf, cut, takeS, dropS, putS, partsOf, fillS, fieldOf, nthA, negIf, nilq, nilB, eqS, eqF, eqS1, andP, kin, slcS, strOk, plusA, bndHi, leN, optG, roH, roL, initT, exOk, exAll, wrAddr, Nat.reduceAdd, Nat.reduceSub, Nat.reduceMul, Int.reduceToNat, List.append_nil, List.nil_append, List.cons_append, eqT, idxT, cat, cpy, ite_int, ite_bool, ite_seg, ite_segs, ite_nil, ite_twice, Int.toNat_natCast, app, addBs])); (repeat (first | (refine And.intro ?_ ?_; · omega))); with_reducible refine hK _ ?_; clear hK K)
    | (refine run_cond rfl (fun hc => ?_) (fun hc => ?_) <;> try (simp only [*, Bool.true_eq_false, Bool.false_eq_true, Bool.not_true, Bool.not_false, Bool.true_or, Bool.or_true, Bool.false_or, Bool.or_false, Bool.false_and, Bool.and_false, bne_self_eq_false, beq_self_eq_true] at hc; done))
    | refine run_block ?_
    | refine run_ret ?_
    | refine run_nil ?_
    | refine run_exit ?_
    | refine blk_normal ?_
    | refine blk_ret ?_
    | refine blk_here ?_
    | refine blk_there rfl ?_
    | refine loop_exit ?_
    | refine loop_ret ?_
    | refine un_exit ?_
    | refine un_ret ?_
    | refine unE_exit ?_
    | refine unE_ret ?_
    | refine un_normal ?_)
    subst hR
    refine end_ref0 nofun (oneS s m) W ?_ ?_ ?_ ⟨rfl, rfl⟩ <;> rw [e] <;> simp only [localS, h, Int.reduceEq, if_true, if_false, reduceIte] <;> rfl
  · have h := beq_iff_eq.1 hc
    have hg : IntKind.u32.wrap m.imm = m.imm := by
      have h1 := ho.g h
      rw [IntKind.wrap_u32]; omega
    subst hR
    refine end_ref0 nofun (oneS s m) W ?_ ?_ ?_ ⟨rfl, rfl⟩ <;> rw [e] <;> simp only [localS, h, hg, Int.reduceEq, if_true, if_false, reduceIte] <;> rfl
  · simp only [beq_iff_eq, beq_eq_false_iff_ne, ne_eq] at *
    have hl : localS s m = s := by simp only [localS, *, if_false]
    subst hR
    refine end_ref0 nofun (oneS s m) W ?_ ?_ ?_ ⟨rfl, rfl⟩ <;> rw [e] <;> simp only [hl] <;> rfl
end Go.Proofs.Yteikpddilabppaa
