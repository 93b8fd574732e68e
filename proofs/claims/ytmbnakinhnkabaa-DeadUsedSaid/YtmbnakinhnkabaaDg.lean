/- ir: rightOp. -/
import Derived.Test.YtmbnakinhnkabaaDf
namespace Go.Proofs.Ytmbnakinhnkabaa
open Go.AM
set_option maxRecDepth 100000
set_option linter.unusedSimpArgs false
set_option linter.unusedVariables false
theorem idt1' {j : Nat} : ∀ i, i < 1 → nthO [0, j] i = some i := by
  intro i h; match i, h with
  | 0, _ => rfl
def opB' (o : OpS) : Blk := ⟨6, none, fun _ => opL o, 39, true⟩
/-- Where a function ends that has read block 0. -/
theorem end_ops {l : List Slot} {H : Heap} {R : Post} {t N : Nat} {f : Nat → OpS} (b : Bool) (hsl : slotAt l t = some ⟨t, [], .c (.bool b)⟩) (hb : getB H.blks 0 = some (opsB N f)) (hR : R (.c (.bool b)) ⟨1, [(0, opsB N f)]⟩) : endQ (LeS 1) [.tmp t] R .ret ⟨l, H⟩ := by
  refine end_of ⟨[⟨t, [], .c (.bool b)⟩], ⟨1, [(0, opsB N f)]⟩⟩ (LeS.intro [0] idt1 (by simp only [diff, notIn, and_self]) rfl (by simp only [slotsLe, hsl, leV, leV1, leC, and_self]) ?_) ?_
  · simp only [leBlks, nthO, hb]
    exact ⟨ops_le N f false, trivial⟩
  · simp only [endF, resL, resA, St.get, slotAt, Nat.beq_refl, sfx, eqP, noTup, resV]
    exact hR
/-- A value that an operation uses is one, and defined. -/
def useOk (f : Nat → OpS) (m : Nat) (v : Int) : Bool := decide (0 ≤ v) && decide (v < (m : Int)) && defS (f v.toNat).kind
def usesOk (o : OpS) (m : Nat) (f : Nat → OpS) : Nat → Bool
  | 0 => true
  | j + 1 => usesOk o m f j && useOk f m (useF o j)
theorem useOk_eq (f : Nat → OpS) (m : Nat) (v : Int) : useOk f m v = !(decide (v < 0) || decide (v ≥ (m : Int)) || !defS (f v.toNat).kind) := by
  unfold useOk
  have e1 : decide (v < 0) = !decide (0 ≤ v) := by by_cases h : 0 ≤ v <;> simp [h]; omega
  have e2 : decide (v ≥ (m : Int)) = !decide (v < (m : Int)) := by by_cases h : v < (m : Int) <;> simp [h]; omega
  rw [e1, e2]
  cases decide (0 ≤ v) <;> cases decide (v < (m : Int)) <;> cases defS (f v.toNat).kind <;> rfl
theorem usesOk_no {o : OpS} {m : Nat} {f : Nat → OpS} : ∀ {u j : Nat}, j < u → useOk f m (useF o j) = false → usesOk o m f u = false
  | u + 1, j, h, hb => by
    simp only [usesOk]
    by_cases hj : j = u
    · rw [← hj, hb, Bool.and_false]
    · rw [usesOk_no (u := u) (by omega) hb, Bool.false_and]
def ropTail : List ACode := [.seq (.seq (.region C54r4)
  (.block 0
   (.loop
    (.seq (.region C54r5)
    (.seq (.cond (.t 78)
     (.skip)
     (.exit 0))
    (.seq (.block 1
     (.seq (.region C54r6)
     (.seq (.region C54r7)
     (.cond (.t 96)
      (.seq (.region C54r8)
      (.ret))
      (.skip)))))
    (.region C54r9)))))))
  (.seq (.region C54r10)
  (.ret))]
def ropSt (o : OpS) (N m : Nat) (f : Nat → OpS) (u j : Nat) : St := ⟨[⟨77, [], .c (.int .i64 j)⟩, ⟨76, [], .c (.int .i64 u)⟩, ⟨75, [], .c (.slice ⟨1, 0, 0, 0⟩ false u)⟩, ⟨1, [], .c (.slice ⟨0, 0, 0, 0⟩ false m)⟩], ⟨2, [(1, usesBk o u), (0, opsB N f)]⟩⟩
theorem rop_tail (c : Bool) (o : OpS) (N m : Nat) (f : Nat → OpS) (hm : m ≤ N) (hN : N ≤ 140737488355328) {R : Post} (hR : R (.c (.bool (usesOk o m f (usesS o.kind)))) ⟨1, [(0, opsB N f)]⟩) :
    runA (Con Try.prog) (LeS 1) ropTail ⟨[⟨73, [], .c (.bool c)⟩, ⟨2, [], .c (.ptr ⟨1, 0, 0, 0⟩)⟩, ⟨1, [], .c (.slice ⟨0, 0, 0, 0⟩ false m)⟩], ⟨2, [(1, opB' o), (0, opsB N f)]⟩⟩ (endQ (LeS 1) [.tmp 4] R) := by
  unfold ropTail
  have hu : usesS o.kind ≤ 2 := by unfold usesS; (repeat' split) <;> omega
  obtain ⟨u, hu'⟩ : ∃ u, usesS o.kind = u := ⟨_, rfl⟩
  rw [hu'] at hu hR
  refine run_seq (run_seq ?_)
  (refine run_regionL fun K hK => ?_; (try (simp (maxSteps := 10000000) only [opL, opB', opsB, hu', C54r0, C54r1, C54r2, C54r3, C54r4, C54r5, C54r6, C54r7, C54r8, C54r9, C54r10, rwp_nil, rwp_cons, rwpK_app, aop, gpath, St.get, slotAt, sfx, eqP, segsOf, St.put, addBlk, getB, setB, delB, ld1, ldn, st1, stn, setRow, rowNeed, segAt, nsub, bin, un, eqB, isShift, sameK, arith, shiftR, getsl, selB_or, selB_and, beqb, shed, addN, Nat.beq, Seg.size, sizes, imp, needP, andN, appL, argsOf, ptrsOf, aasOf, cut, takeS, dropS, putS, partsOf, fillS, fieldOf, nthA, negIf, nilq, nilB, eqS, eqF, eqS1, andP, kin, slcS, strOk, plusA, bndHi, leN, optG, roH, roL, initT, exOk, exAll, wrAddr, Nat.reduceAdd, Nat.reduceSub, Nat.reduceMul, Int.reduceToNat, List.append_nil, List.nil_append, List.cons_append, eqT, idxT, cat, cpy, ite_int, ite_bool, ite_seg, ite_segs, ite_nil, ite_twice, Int.toNat_natCast, app, addBs, tob])); (repeat (first | (refine And.intro ?_ ?_; · (refine ⟨by omega, by omega⟩)) | ((first | (refine call_t _ (con21 o _ _ (by simp [roL, keysLt, opB', opsB, usesBk])) ?_; rintro v H' ⟨rfl, rfl⟩) | (refine call_q _ (con21 o _ _ (by simp [roL, keysLt, opB', opsB, usesBk])) ?_) | (refine call_g _ (imp_of (con21 o _ _ (by simp [roL, keysLt, opB', opsB, usesBk]))) ?_)); (try simp (maxSteps := 10000000) only [opL, opB', opsB, hu', C54r0, C54r1, C54r2, C54r3, C54r4, C54r5, C54r6, C54r7, C54r8, C54r9, C54r10, rwp_nil, rwp_cons, rwpK_app, aop, gpath, St.get, slotAt, sfx, eqP, segsOf, St.put, addBlk, getB, setB, delB, ld1, ldn, st1, stn, setRow, rowNeed, segAt, nsub, bin, un, eqB, isShift, sameK, arith, shiftR, getsl, selB_or, selB_and, beqb, shed, addN, Nat.beq, Seg.size, sizes, imp, needP, andN, appL, argsOf, ptrsOf, aasOf, cut, takeS, dropS, putS, partsOf, fillS, fieldOf, nthA, negIf, nilq, nilB, eqS, eqF, eqS1, andP, kin, slcS, strOk, plusA, bndHi, leN, optG, roH, roL, initT, exOk, exAll, wrAddr, Nat.reduceAdd, Nat.reduceSub, Nat.reduceMul, Int.reduceToNat, List.append_nil, List.nil_append, List.cons_append, eqT, idxT, cat, cpy, ite_int, ite_bool, ite_seg, ite_segs, ite_nil, ite_twice, Int.toNat_natCast, app, addBs, tob])))); refine hK _ (ropSt o N m f u 0) (LeS.intro [0, 2] idt1' (by simp only [diff, notIn, Nat.beq, and_self]) rfl (by simp only [ropSt, slotsLe, slotAt, Nat.beq, leV, leV1, leC, leA, nthO, Int.natCast_zero, Int.ofNat_zero, and_self]) ⟨⟨rfl, rfl, id, Nat.le_refl _, fun _ _ => ⟨⟨rfl, rfl⟩, trivial⟩⟩, ops_le N f false, trivial⟩) ?_; clear hK K)
  refine run_block ?_
  refine run_loop (fun n s => ∃ j, n = u - j ∧ j ≤ u ∧ usesOk o m f j = true ∧ s = ropSt o N m f u j) u ⟨0, rfl, Nat.zero_le _, rfl, rfl⟩ ?_
  rintro n s ⟨j, rfl, hj, hok, rfl⟩
  unfold ropSt
  repeat' (first
    | refine run_seq ?_
    | refine run_skip ?_
    | (refine run_region fun K hK => ?_; (try (simp (maxSteps := 10000000) only [opL, usesBk, opsB, C54r0, C54r1, C54r2, C54r3, C54r4, C54r5, C54r6, C54r7, C54r8, C54r9, C54r10, rwp_nil, rwp_cons, rwpK_app, aop, gpath, St.get, slotAt, sfx, eqP, segsOf, St.put, addBlk, getB, setB, delB, ld1, ldn, st1, stn, setRow, rowNeed, segAt, nsub, bin, un, eqB, isShift, sameK, arith, shiftR, getsl, selB_or, selB_and, beqb, shed, addN, Nat.beq, Seg.size, sizes, imp, needP, andN, appL, argsOf, ptrsOf, aasOf, cut, takeS, dropS, putS, partsOf, fillS, fieldOf, nthA, negIf, nilq, nilB, eqS, eqF, eqS1, andP, kin, slcS, strOk, plusA, bndHi, leN, optG, roH, roL, initT, exOk, exAll, wrAddr, Nat.reduceAdd, Nat.reduceSub, Nat.reduceMul, Int.reduceToNat, List.append_nil, List.nil_append, List.cons_append, eqT, idxT, cat, cpy, ite_int, ite_bool, ite_seg, ite_segs, ite_nil, ite_twice, Int.toNat_natCast, app, addBs, tob])); (repeat (first | (refine And.intro ?_ ?_; · (first | trivial | assumption | (intros; simp only [Bool.or_eq_false_iff, decide_eq_false_iff_not, decide_eq_true_eq] at *; omega))) | ((first | (refine call_t _ (con57 (f _) _) ?_; rintro v H' ⟨rfl, rfl⟩) | refine call_q _ (con57 (f _) _) ?_ | refine call_g _ (imp_of (con57 (f _) _)) ?_); simp (maxSteps := 10000000) only [opL, usesBk, opsB, C54r0, C54r1, C54r2, C54r3, C54r4, C54r5, C54r6, C54r7, C54r8, C54r9, C54r10, rwp_nil, rwp_cons, rwpK_app, aop, gpath, St.get, slotAt, sfx, eqP, segsOf, St.put, addBlk, getB, setB, delB, ld1, ldn, st1, stn, setRow, rowNeed, segAt, nsub, bin, un, eqB, isShift, sameK, arith, shiftR, getsl, selB_or, selB_and, beqb, shed, addN, Nat.beq, Seg.size, sizes, imp, needP, andN, appL, argsOf, ptrsOf, aasOf, cut, takeS, dropS, putS, partsOf, fillS, fieldOf, nthA, negIf, nilq, nilB, eqS, eqF, eqS1, andP, kin, slcS, strOk, plusA, bndHi, leN, optG, roH, roL, initT, exOk, exAll, wrAddr, Nat.reduceAdd, Nat.reduceSub, Nat.reduceMul, Int.reduceToNat, List.append_nil, List.nil_append, List.cons_append, eqT, idxT, cat, cpy, ite_int, ite_bool, ite_seg, ite_segs, ite_nil, ite_twice, Int.toNat_natCast, app, addBs, tob]))); with_reducible refine hK _ ?_; clear hK K)
    | (refine run_cond rfl (fun hc => ?_) (fun hc => ?_) <;> try (simp only [*, Bool.true_eq_false, Bool.false_eq_true, Bool.not_true, Bool.not_false, Bool.true_or, Bool.or_true, Bool.false_or, Bool.or_false, Bool.false_and, Bool.and_false, bne_self_eq_false, beq_self_eq_true] at hc; done))
    | refine run_block ?_
    | refine run_ret ?_
    | refine run_nil ?_
    | refine run_exit ?_
    | refine blk_normal ?_
    | refine blk_ret ?_
    | refine blk_here ?_
    | refine blk_there rfl ?_
    | refine loop_exit ?_
    | refine loop_ret ?_
    | refine un_exit ?_
    | refine un_ret ?_
    | refine unE_exit ?_
    | refine unE_ret ?_
    | refine un_normal ?_)
  · rename_i hc0
    have h1 : usesOk o m f u = false := usesOk_no (j := j) (by simp only [decide_eq_true_eq] at hc0; omega) (by rw [useOk_eq, hc]; rfl)
    exact end_ops false rfl rfl (by rw [← h1]; exact hR)
  · rename_i hc0
    have h1 : j < u := by simp only [decide_eq_true_eq] at hc0; omega
    have hw : IntKind.i64.wrap ((j : Int) + 1) = ((j + 1 : Nat) : Int) := by rw [IntKind.wrap_i64]; omega
    refine loop_normal (u - (j + 1)) (ropSt o N m f u (j + 1)) (by omega) (LeS.intro [0, 1] idt1' (by simp only [diff, notIn, Nat.beq, and_self]) rfl (by simp only [ropSt, slotsLe, slotAt, Nat.beq, leV, leV1, leC, leA, nthO, hw, and_self]) ⟨⟨rfl, rfl, id, Nat.le_refl _, fun _ _ => ⟨⟨rfl, rfl⟩, trivial⟩⟩, ops_le N f false, trivial⟩) ⟨j + 1, rfl, h1, ?_, rfl⟩
    simp only [usesOk, hok, useOk_eq, hc, Bool.not_false, Bool.and_self]
  · have h1 : j = u := by simp only [decide_eq_false_iff_not] at hc; omega
    exact end_ops true rfl rfl (by rw [← hok, h1]; exact hR)
end Go.Proofs.Ytmbnakinhnkabaa
