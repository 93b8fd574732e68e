/- micro: the state. -/
import Derived.Test.YteikpddilabppaaTak
namespace Go.Proofs.Yteikpddilabppaa
open Go.AM
set_option maxRecDepth 100000
set_option linter.unusedSimpArgs false
set_option linter.unusedVariables false
def coreB (c : CoreS) : Blk := ⟨49, none, fun _ => coreL c, 29, true⟩
theorem core_le {l : List Nat} (w : CoreS) : leB l (coreB w) (coreB w) := by
  refine ⟨rfl, rfl, id, Nat.le_refl _, fun i _ => ?_⟩
  simp only [coreB, coreL, leSegs, leSeg, leC, and_self, implies_true]
theorem con8 (s : RunS) : Con Try.prog 8 [me] (runH s) (fun v H' => v = .agg (coreL s.core) ∧ H' = runH s) := by
  refine Con.forget (R := fun v H' => v = .agg (coreL s.core) ∧ H' = ⟨4, [(3, coreB s.core), (0, runB s), (1, opsB s), (2, slotB s)]⟩) ?_ ?_
  rotate_left
  · rintro v H' ⟨rfl, rfl⟩
    refine ⟨_, _, [0, 1, 2], ids3, diff3, rfl, ?_, ?_, rfl, rfl⟩
    · exact ⟨run_le ids012 _, ops_le _, slot_le _, trivial⟩
    · simp only [leV, leVL, leV1, coreL, leSegs, leSeg, leC, and_self, implies_true]
  (refine con_of_run mixed (fn := Try.f8) (by kernel_rfl) (by kernel_rfl) C8_ok (rs := [.cn 49 2]) (by kernel_rfl) (Nat.le_of_ble_eq_true (by kernel_rfl)) ?_; unfold C8; simp only [initT, Nat.reduceAdd])
  simp only [me, runH, runB, runL, opsB, slotB]
  repeat' (first
    | refine run_seq ?_
    | refine run_skip ?_
    | (refine run_region fun K hK => ?_; (try (simp (maxSteps := 10000000) only [C8r0, C8r1, rwp_nil, rwp_cons, rwpK_app, aop, gpath, St.get, slotAt, sfx, eqP, segsOf, St.put, addBlk, getB, setB, delB, ld1, ldn, st1, stn, setRow, rowNeed, segAt, nsub, bin, un, eqB, isShift, sameK, arith, shiftR, getsl, selB_or, selB_and, beqb, shed, addN, Nat.beq, Seg.size, sizes, imp, needP, andN, appL, argsOf, ptrsOf, aasOf, cut, takeS, dropS, putS, partsOf, fillS, fieldOf, nthA, negIf, nilq, nilB, eqS, eqF, eqS1, andP, kin, slcS, strOk, plusA, bndHi, leN, optG, roH, roL, initT, exOk, exAll, wrAddr, Nat.reduceAdd, Nat.reduceSub, Nat.reduceMul, Int.reduceToNat, List.append_nil, List.nil_append, List.cons_append, ite_int, ite_bool, ite_seg, ite_segs, ite_nil, ite_twice, Int.toNat_natCast, app, addBs])); (repeat (first | (refine And.intro ?_ ?_; · first | trivial | assumption | omega))); with_reducible refine hK _ ?_; clear hK K)
    | (refine run_cond rfl (fun hc => ?_) (fun hc => ?_) <;> try (simp only [*, Bool.true_eq_false, Bool.false_eq_true, Bool.not_true, Bool.not_false, Bool.true_or, Bool.or_true, Bool.false_or, Bool.or_false, Bool.false_and, Bool.and_false] at hc; done))
    | refine run_block ?_
    | refine run_ret ?_
    | refine run_nil ?_
    | refine run_exit ?_
    | refine blk_normal ?_
    | refine blk_ret ?_
    | refine blk_here ?_
    | refine blk_there rfl ?_
    | refine loop_exit ?_
    | refine loop_ret ?_
    | refine un_exit ?_
    | refine un_ret ?_
    | refine unE_exit ?_
    | refine unE_ret ?_
    | refine un_normal ?_)
  refine end_of ⟨[⟨2, [], .c (.ptr ⟨3, 0, 0, 0⟩)⟩], ⟨4, [(3, coreB s.core), (0, runB s), (1, opsB s), (2, slotB s)]⟩⟩ ?_ ?_
  rotate_left
  · simp (maxSteps := 10000000) only [coreB, coreL, endF, resL, resA, noTup, resV, C8r0, C8r1, rwp_nil, rwp_cons, rwpK_app, aop, gpath, St.get, slotAt, sfx, eqP, segsOf, St.put, addBlk, getB, setB, delB, ld1, ldn, st1, stn, setRow, rowNeed, segAt, nsub, bin, un, eqB, isShift, sameK, arith, shiftR, getsl, selB_or, selB_and, beqb, shed, addN, Nat.beq, Seg.size, sizes, imp, needP, andN, appL, argsOf, ptrsOf, aasOf, cut, takeS, dropS, putS, partsOf, fillS, fieldOf, nthA, negIf, nilq, nilB, eqS, eqF, eqS1, andP, kin, slcS, strOk, plusA, bndHi, leN, optG, roH, roL, initT, exOk, exAll, wrAddr, Nat.reduceAdd, Nat.reduceSub, Nat.reduceMul, Int.reduceToNat, List.append_nil, List.nil_append, List.cons_append, ite_int, ite_bool, ite_seg, ite_segs, ite_nil, ite_twice, Int.toNat_natCast, app, addBs]
    refine ⟨trivial, ?_⟩
    exact rfl
  refine LeS.intro [0, 1, 2, 3] ids3' (by simp only [diff, notIn, Nat.beq, and_self]) rfl ⟨⟨rfl, rfl, rfl, rfl⟩, trivial⟩ ?_
  exact ⟨core_le _, run_le ids0123 s, ops_le s, slot_le s, trivial⟩
end Go.Proofs.Yteikpddilabppaa
