/- micro: an operation that wants something. -/
import Derived.Test.YteikpddilabppaaLoc
namespace Go.Proofs.Yteikpddilabppaa
open Go.AM
set_option maxRecDepth 100000
set_option linter.unusedSimpArgs false
set_option linter.unusedVariables false
def want0 : WantS := ⟨0, 0, 0, 0, false, 0, false, 0, 0, 0⟩
/-- An access begins, or is a fault. -/
def accS (s : RunS) (a : Int) (w : WantS) (k : WaitK) : RunS :=
  if a.tmod 8 = 0 then { s with want := w, waits := k }
  else { s with want := want0, waits := .none, steps := IntKind.i64.wrap (s.steps + 1), left := true, faulted := true }
def worldS (s : RunS) (m : MicroS) : Bool × RunS :=
  let a := s.host m.a.toNat
  let b := s.host m.b.toNat
  if m.kind = 12 then (true, accS s a ⟨1, a, 0, acqS m.order, false, 0, false, 0, 0, 0⟩ .loaded)
  else if m.kind = 14 then (true, accS s a ⟨3, a, 0, acqS m.order, false, 0, false, 0, 0, 0⟩ .loaded)
  else if m.kind = 13 then (true, accS s a ⟨2, a, b, 0, m.order == 4, 0, false, 0, 0, 0⟩ .stored)
  else if m.kind = 15 then (true, accS s a ⟨4, a, b, 0, m.order == 4, 0, false, 0, 0, 0⟩ .tried)
  else if m.kind = 16 then (true, { s with want := ⟨16, 0, 0, 0, false, 0, false, 0, 0, 0⟩, waits := .fenced })
  else if m.kind = 17 then (true, { s with want := ⟨6, 0, 0, 0, false, m.r, false, 0, 0, 0⟩, waits := .fenced })
  else (false, s)
set_option maxHeartbeats 8000000 in
theorem con21 (s : RunS) (m : MicroS) (hf : FitM s m) : Con Try.prog 21 [me, .agg (microL m)] (runH s) (fun v H' => v = .c (.bool (worldS s m).1) ∧ H' = runH (worldS s m).2) := by
  obtain ⟨hd0, hd8, ha0, ha8, hb0, hb8, hi0, hsl, hx, hfl, hel⟩ := hf
  (refine con_of_run mixed (fn := Try.f21) (by kernel_rfl) (by kernel_rfl) C21_ok (rs := [.tmp 4]) (by kernel_rfl) (Nat.le_of_ble_eq_true (by kernel_rfl)) ?_; unfold C21; simp only [initT, Nat.reduceAdd])
  generalize hR : (fun (v : AV) (H' : Heap) => v = AV.c (CV.bool (worldS s m).1) ∧ H' = runH (worldS s m).2) = R
  simp only [me, runH, runB, runL, opsB, slotB]
  repeat' (first
    | refine run_seq ?_
    | refine run_skip ?_
    | (refine run_region fun K hK => ?_; (try (simp (maxSteps := 10000000) only [microL, C21r0, C21r1, C21r2, C21r3, C21r4, C21r5, C21r6, C21r7, C21r8, C21r9, C21r10, C21r11, C21r12, C21r13, C21r14, C21r15, C21r16, C21r17, C21r18, C21r19, C21r20, C21r21, C21r22, rwp_nil, rwp_cons, rwpK_app, aop, gpath, St.get, slotAt, sfx, eqP, segsOf, St.put, addBlk, getB, setB, delB, ld1, ldn, st1, stn, setRow, rowNeed, segAt, nsub, bin, un, eqB, isShift, sameK, arith, shiftR, getsl, selB_or, selB_and, beqb, shed, addN, Nat.beq, Seg.size, sizes, imp, needP, andN, appL, argsOf, ptrsOf, aasOf, cut, takeS, dropS, putS, partsOf, fillS, fieldOf, nthA, negIf, nilq, nilB, eqS, eqF, eqS1, andP, kin, slcS, strOk, plusA, bndHi, leN, optG, roH, roL, initT, exOk, exAll, wrAddr, Nat.reduceAdd, Nat.reduceSub, Nat.reduceMul, Int.reduceToNat, List.append_nil, List.nil_append, List.cons_append, eqT, idxT, cat, cpy, ite_int, ite_bool, ite_seg, ite_segs, ite_nil, ite_twice, Int.toNat_natCast, app, addBs])); (repeat (first | (refine And.intro ?_ ?_; · (first | omega | decide)) | ((first | (refine call_t _ (con33 _ _) ?_; rintro v H' ⟨rfl, rfl⟩) | refine call_q _ (con33 _ _) ?_ | refine call_g _ (imp_of (con33 _ _)) ?_); simp (maxSteps := 10000000) only [microL, C21r0, C21r1, C21r2, C21r3, C21r4, C21r5, C21r6, C21r7, C21r8, C21r9, C21r10, C21r11, C21r12, C21r13, C21r14, C21r15, C21r16, C21r17, C21r18, C21r19, C21r20, C21r21, C21r22, rwp_nil, rwp_cons, rwpK_app, aop, gpath, St.get, slotAt, sfx, eqP, segsOf, St.put, addBlk, getB, setB, delB, ld1, ldn, st1, stn, setRow, rowNeed, segAt, nsub, bin, un, eqB, isShift, sameK, arith, shiftR, getsl, selB_or, selB_and, beqb, shed, addN, Nat.beq, Seg.size, sizes, imp, needP, andN, appL, argsOf, ptrsOf, aasOf, cut, takeS, dropS, putS, partsOf, fillS, fieldOf, nthA, negIf, nilq, nilB, eqS, eqF, eqS1, andP, kin, slcS, strOk, plusA, bndHi, leN, optG, roH, roL, initT, exOk, exAll, wrAddr, Nat.reduceAdd, Nat.reduceSub, Nat.reduceMul, Int.reduceToNat, List.append_nil, List.nil_append, List.cons_append, eqT, idxT, cat, cpy, ite_int, ite_bool, ite_seg, ite_segs, ite_nil, ite_twice, Int.toNat_natCast, app, addBs]))); with_reducible refine hK _ ?_; clear hK K)
    | (refine run_cond rfl (fun hc => ?_) (fun hc => ?_) <;> try (simp only [*, Bool.true_eq_false, Bool.false_eq_true, Bool.not_true, Bool.not_false, Bool.true_or, Bool.or_true, Bool.false_or, Bool.or_false, Bool.false_and, Bool.and_false, bne_self_eq_false, beq_self_eq_true] at hc; done))
    | refine run_block ?_
    | refine run_ret ?_
    | refine run_nil ?_
    | refine run_exit ?_
    | refine blk_normal ?_
    | refine blk_ret ?_
    | refine blk_here ?_
    | refine blk_there rfl ?_
    | refine loop_exit ?_
    | refine loop_ret ?_
    | refine un_exit ?_
    | refine un_ret ?_
    | refine unE_exit ?_
    | refine unE_ret ?_
    | refine un_normal ?_)
  all_goals try (first
    | (simp only [beq_iff_eq] at hc
       subst hR
       refine end_run1 (worldS s m).2 rfl ?_ ?_ ?_ rfl rfl ⟨?_, rfl⟩ <;> (simp only [worldS, hc, Int.reduceEq, if_true, if_false, reduceIte] <;> rfl))
    | (rename_i h0
       simp only [beq_iff_eq] at h0
       simp only [bne_iff_ne, ne_eq, bne_eq_false_iff_eq] at hc
       subst hR
       refine end_run1 (worldS s m).2 rfl ?_ ?_ ?_ rfl rfl ⟨?_, rfl⟩ <;> (simp only [worldS, accS, h0, hc, Int.reduceEq, if_true, if_false, reduceIte] <;> rfl))
    | (simp only [beq_iff_eq, beq_eq_false_iff_ne, ne_eq] at *
       subst hR
       refine end_run1 (worldS s m).2 rfl ?_ ?_ ?_ rfl rfl ⟨?_, rfl⟩ <;> (simp only [worldS, *, if_true, if_false] <;> rfl)))
end Go.Proofs.Yteikpddilabppaa
