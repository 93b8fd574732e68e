/- slices.Backward. -/
import Derived.Test.YtmbnakinhnkabaaDk
namespace Go.Proofs.Ytmbnakinhnkabaa
open Go.AM
set_option maxRecDepth 100000
set_option linter.unusedSimpArgs false
set_option linter.unusedVariables false
def bxB (i m : Nat) (w : Bool) : Blk := ⟨1, none, fun _ => [.c (.slice ⟨i, 0, 0, 0⟩ false m)], 23, w⟩
theorem con55 (m j n : Nat) (X : List (Nat × Blk)) (hj : j < n) (hkl : keysLt X n) : Con Try.prog 55 [.c (.slice ⟨j, 0, 0, 0⟩ false m)] ⟨n, X⟩ (fun v H' => v = .c (.fn 92 [] [⟨n, 0, 0, 0⟩]) ∧ H' = addBs ⟨n, X⟩ [bxB j m true]) := by
  have h0 : Con Try.prog 55 [.c (.slice ⟨0, 0, 0, 0⟩ false m)] ⟨1, []⟩ (fun v H' => v = .c (.fn 92 [] [⟨1, 0, 0, 0⟩]) ∧ H' = ⟨2, [(1, bxB 0 m true)]⟩) := by
    (refine con_of_run mixed (fn := Try.f55) (by kernel_rfl) (by kernel_rfl) C55_ok (rs := [.tmp 2]) (by kernel_rfl) (Nat.le_of_ble_eq_true (by kernel_rfl)) ?_; unfold C55; simp only [initT, Nat.reduceAdd])
    repeat' (first
    | refine run_seq ?_
    | (refine run_region fun K hK => ?_; (try (simp (maxSteps := 10000000) only [C55r0, C55r1, rwp_nil, rwp_cons, rwpK_app, aop, gpath, St.get, slotAt, sfx, eqP, segsOf, St.put, addBlk, getB, setB, delB, ld1, ldn, st1, stn, setRow, rowNeed, segAt, nsub, bin, un, eqB, isShift, sameK, arith, shiftR, getsl, selB_or, selB_and, beqb, shed, addN, Nat.beq, Seg.size, sizes, imp, needP, andN, appL, argsOf, ptrsOf, aasOf, cut, takeS, dropS, putS, partsOf, fillS, fieldOf, nthA, negIf, nilq, nilB, eqS, eqF, eqS1, andP, kin, slcS, strOk, plusA, bndHi, leN, optG, roH, roL, initT, exOk, exAll, wrAddr, Nat.reduceAdd, Nat.reduceSub, Nat.reduceMul, Int.reduceToNat, List.append_nil, List.nil_append, List.cons_append, eqT, idxT, cat, cpy, ite_int, ite_bool, ite_seg, ite_segs, ite_nil, ite_twice, Int.toNat_natCast, app, addBs, tob])); (repeat (first | (refine And.intro ?_ ?_; · first | trivial | assumption | omega))); with_reducible refine hK _ ?_; clear hK K)
    | refine run_ret ?_
    | refine run_nil ?_)
    refine end_of ⟨[⟨2, [], .c (.fn 92 [] [⟨1, 0, 0, 0⟩])⟩], ⟨2, [(1, bxB 0 m true)]⟩⟩ (LeS.intro [0, 1] (fun i h => by match i, h with | 0, _ => rfl) (by simp only [diff, notIn, Nat.beq, and_self]) rfl ?_ ?_) ⟨rfl, rfl⟩
    · simp only [slotsLe, slotAt, Nat.beq, leV, leV1, leC, leAL, leA, nthO, and_self]
    · simp only [leBlks, nthO, getB, Nat.beq]
      exact ⟨⟨rfl, rfl, id, Nat.le_refl _, fun _ _ => by simp only [bxB, leSegs, leSeg, leC, leA, nthO, and_self]⟩, trivial⟩
  refine (h0.frame (H := ⟨n, X⟩) [j] rfl ⟨trivial, trivial⟩ ⟨hj, trivial⟩ hkl trivial (by simp only [leArgs, leV, leV1, leC, leA, nthO, and_self])).weaken ?_
  rintro v H' ⟨v0, H0', ⟨rfl, rfl⟩, rfl, rfl⟩
  refine ⟨rfl, ?_⟩
  simp only [framed, dropB_none (l := [j]) (H0 := []) (fun _ => rfl)]
  rfl
theorem ops_iter (n : Nat) (f : Nat → OpS) (hn : n ≤ 140737488355328) (i j nx : Nat) (hij : Nat.beq i j = false) : IterC Try.prog 92 [⟨i, 0, 0, 0⟩] ⟨nx, [(i, bxB j n false), (j, opsB n f)]⟩ n (fun t => [.c (.int .i64 ((n : Int) - 1 - t)), .agg (opL (f (n - 1 - t)))]) := by
  have hji : getB [(i, bxB j n false), (j, opsB n f)] j = some (opsB n f) := by simp only [getB, hij, Nat.beq_refl]
  refine iter_back (fn := Try.f92) (by kernel_rfl) (by kernel_rfl) rfl (by kernel_rfl) (by kernel_rfl) (k := 6) (el := .ldn 6 (.t 15)) (by kernel_rfl) (by kernel_rfl) (by kernel_rfl) (by kernel_rfl) (j := j) (b := 0) (need := none) hn (fun nx => ?_) trivial (fun nx => ?_) (E := fun m => .agg (opL (f m))) (fun l nx m hm hl => ⟨some (m < n), hm, ?_⟩)
  · simp only [ld1, getB, Nat.beq_refl, bxB, rowNeed, segAt, Nat.beq]
  · simp only [strOk, hji]; rfl
  · have ha : addN 0 m = m := rfl
    simp only [aop, St.get, hl, sfx, eqP, ldn, hji]
    simp only [opsB, rowNeed, ha, Nat.beq, cut, dropS, takeS, opL, Seg.size, nsub]
/-! ### dead.mark -/
def upd (g : Nat → Bool) (k : Nat) (v : Bool) : Nat → Bool := fun j => if j = k then v else g j
def hidAt (f : Nat → OpS) (n k : Nat) : Bool := hidF f (f k) (n - k - 1) (k + 1)
def mark1 (f : Nat → OpS) (n k : Nat) (g : Nat → Bool) : Nat → Bool :=
  upd g k (if ((f k).kind == 14) = true then ((k : Int) == 0) || !hidAt f n k else if (((f k).kind == 3) || ((f k).kind == 5) || ((f k).kind == 7)) = true then !hidAt f n k else (g k || !defS (f k).kind) || leaveS (f k).kind)
def markU (o : OpS) (g : Nat → Bool) : Nat → Nat → Bool
  | 0 => g
  | j + 1 => upd (markU o g j) (useF o j).toNat true
def markStep (f : Nat → OpS) (n k : Nat) (g : Nat → Bool) : Nat → Bool :=
  if mark1 f n k g k = true then markU (f k) (mark1 f n k g) (usesS (f k).kind) else mark1 f n k g
/-- What is seen when the last j operations have been looked at. -/
def markN (f : Nat → OpS) (n : Nat) (g0 : Nat → Bool) : Nat → Nat → Bool
  | 0 => fun i => if i < n then false else g0 i
  | j + 1 => markStep f n (n - 1 - j) (markN f n g0 j)
def mkH (f : Nat → OpS) (n M : Nat) (g : Nat → Bool) : List (Nat × Blk) := [(4, bxB 0 n true), (3, ⟨1, none, fun _ => [.c (.slice ⟨1, 0, 0, 0⟩ false n)], 29, true⟩), (2, bxB 0 n true), (1, boolsB M g true), (0, opsB n f)]
def mkSt (f : Nat → OpS) (n M k : Nat) (g : Nat → Bool) : St := ⟨[⟨5, [], .c (.ptr ⟨5, 0, 0, 0⟩)⟩, ⟨4, [], .c (.int .i64 k)⟩, ⟨3, [], .c (.ptr ⟨3, 0, 0, 0⟩)⟩, ⟨2, [], .c (.ptr ⟨2, 0, 0, 0⟩)⟩], ⟨6, (5, opB' (f k)) :: mkH f n M g⟩⟩
def mkEnd (f : Nat → OpS) (n M : Nat) (g : Nat → Bool) : St := ⟨[], ⟨5, mkH f n M g⟩⟩
theorem idt5 {l : List Nat} : ∀ i, i < 5 → nthO (0 :: 1 :: 2 :: 3 :: 4 :: l) i = some i := by
  intro i h; match i, h with
  | 0, _ => rfl
  | 1, _ => rfl
  | 2, _ => rfl
  | 3, _ => rfl
  | 4, _ => rfl
theorem bx_le {l : List Nat} (i m : Nat) (h : nthO l i = some i) : leB l ⟨1, none, fun _ => [.c (.slice ⟨i, 0, 0, 0⟩ false m)], 23, true⟩ (bxB i m true) := ⟨rfl, rfl, id, Nat.le_refl _, fun _ _ => by simp only [bxB, leSegs, leSeg, leC, leA, h, and_self]⟩
theorem bx2_le {l : List Nat} (m : Nat) (h : nthO l 1 = some 1) : leB l ⟨1, none, fun _ => [.c (.slice ⟨1, 0, 0, 0⟩ false m)], 29, true⟩ ⟨1, none, fun _ => [.c (.slice ⟨1, 0, 0, 0⟩ false m)], 29, true⟩ := ⟨rfl, rfl, id, Nat.le_refl _, fun _ _ => by simp only [leSegs, leSeg, leC, leA, h, and_self]⟩
theorem boolsw_le {l : List Nat} (n : Nat) (g g' : Nat → Bool) (h : ∀ i, i < n → g i = g' i) : leB l ⟨1, some n, fun i => [.c (.bool (g i))], 4, true⟩ (boolsB n g' true) := ⟨rfl, rfl, id, Nat.le_refl _, fun i hi => ⟨h i hi, trivial⟩⟩
theorem uses_le {l : List Nat} {o : OpS} {u : Nat} (h : usesS o.kind = u) : leB l (usesBk o (usesS o.kind)) (usesBk o u) := by
  subst h
  exact ⟨rfl, rfl, id, Nat.le_refl _, fun _ _ => ⟨⟨rfl, rfl⟩, trivial⟩⟩
/-- From the switch's end to the round's. -/
def mkTail : ACode := .seq (.region C38r13)
     (.cond (.t 60)
      (.seq (.region C38r14)
      (.block 3
       (.loop
        (.seq (.region C38r15)
        (.seq (.cond (.t 65)
         (.skip)
         (.exit 3))
        (.seq (.block 4
         (.seq (.region C38r16)
         (.region C38r17)))
        (.region C38r18)))))))
      (.skip))
def mkLp (f : Nat → OpS) (n M k u : Nat) (g : Nat → Bool) (j : Nat) : St := ⟨[⟨64, [], .c (.int .i64 j)⟩, ⟨63, [], .c (.int .i64 u)⟩, ⟨62, [], .c (.slice ⟨5, 0, 0, 0⟩ false u)⟩, ⟨3, [], .c (.ptr ⟨3, 0, 0, 0⟩)⟩], ⟨6, (5, usesBk (f k) u) :: mkH f n M g⟩⟩
theorem mk_tail (f : Nat → OpS) (n M k : Nat) (g : Nat → Bool) (hM : n ≤ M) (hk : k < n) (hn : n ≤ 140737488355328) (hU : ∀ i, i < usesS (f k).kind → 0 ≤ useF (f k) i ∧ useF (f k) i < n) {Q : AEx → St → Prop}
    (h : ∀ s, LeS 5 s (mkEnd f n M (if g k = true then markU (f k) g (usesS (f k).kind) else g)) → Q .normal s) : runA (Con Try.prog) (LeS 5) [mkTail] (mkSt f n M k g) Q := by
  unfold mkTail mkSt mkH
  repeat' (first
    | refine run_seq ?_
    | refine run_skip ?_
    | (refine run_region fun K hK => ?_; (try (simp (maxSteps := 10000000) only [opL, opB', bxB, opsB, boolsB, C38r0, C38r1, C38r2, C38r3, C38r4, C38r5, C38r6, C38r7, C38r8, C38r9, C38r10, C38r11, C38r12, C38r13, C38r15, C38r16, C38r17, C38r18, rwp_nil, rwp_cons, rwpK_app, aop, gpath, St.get, slotAt, sfx, eqP, segsOf, St.put, addBlk, getB, setB, delB, ld1, ldn, st1, stn, setRow, rowNeed, segAt, nsub, bin, un, eqB, isShift, sameK, arith, shiftR, getsl, selB_or, selB_and, beqb, shed, addN, Nat.beq, Seg.size, sizes, imp, needP, andN, appL, argsOf, ptrsOf, aasOf, cut, takeS, dropS, putS, partsOf, fillS, fieldOf, nthA, negIf, nilq, nilB, eqS, eqF, eqS1, andP, kin, slcS, strOk, plusA, bndHi, leN, optG, roH, roL, initT, exOk, exAll, wrAddr, Nat.reduceAdd, Nat.reduceSub, Nat.reduceMul, Int.reduceToNat, List.append_nil, List.nil_append, List.cons_append, eqT, idxT, cat, cpy, ite_int, ite_bool, ite_seg, ite_segs, ite_nil, ite_twice, Int.toNat_natCast, app, addBs, tob])); (repeat (first | (refine And.intro ?_ ?_; · (first | trivial | assumption | omega)))); with_reducible refine hK _ ?_; clear hK K)
    | (refine run_cond rfl (fun hc => ?_) (fun hc => ?_) <;> try (simp only [*, Bool.true_eq_false, Bool.false_eq_true, Bool.not_true, Bool.not_false, Bool.true_or, Bool.or_true, Bool.false_or, Bool.or_false, Bool.false_and, Bool.and_false, bne_self_eq_false, beq_self_eq_true] at hc; done))
    | refine run_block ?_
    | refine run_ret ?_
    | refine run_nil ?_
    | refine run_exit ?_
    | refine blk_normal ?_
    | refine blk_ret ?_
    | refine blk_here ?_
    | refine blk_there rfl ?_
    | refine loop_exit ?_
    | refine loop_ret ?_
    | refine un_exit ?_
    | refine un_ret ?_
    | refine unE_exit ?_
    | refine unE_ret ?_
    | refine un_normal ?_)
  · obtain ⟨u, hu⟩ : ∃ u, usesS (f k).kind = u := ⟨_, rfl⟩
    rw [hc, if_pos rfl] at h
    rw [hu] at h hU
    (refine run_regionL fun K hK => ?_; (try (simp (maxSteps := 10000000) only [opL, C38r0, C38r1, C38r2, C38r3, C38r4, C38r5, C38r6, C38r7, C38r8, C38r9, C38r10, C38r11, C38r12, C38r13, C38r14, C38r15, C38r16, C38r17, C38r18, rwp_nil, rwp_cons, rwpK_app, aop, gpath, St.get, slotAt, sfx, eqP, segsOf, St.put, addBlk, getB, setB, delB, ld1, ldn, st1, stn, setRow, rowNeed, segAt, nsub, bin, un, eqB, isShift, sameK, arith, shiftR, getsl, selB_or, selB_and, beqb, shed, addN, Nat.beq, Seg.size, sizes, imp, needP, andN, appL, argsOf, ptrsOf, aasOf, cut, takeS, dropS, putS, partsOf, fillS, fieldOf, nthA, negIf, nilq, nilB, eqS, eqF, eqS1, andP, kin, slcS, strOk, plusA, bndHi, leN, optG, roH, roL, initT, exOk, exAll, wrAddr, Nat.reduceAdd, Nat.reduceSub, Nat.reduceMul, Int.reduceToNat, List.append_nil, List.nil_append, List.cons_append, eqT, idxT, cat, cpy, ite_int, ite_bool, ite_seg, ite_segs, ite_nil, ite_twice, Int.toNat_natCast, app, addBs, tob])); (repeat (first | (refine And.intro ?_ ?_; · trivial) | ((first | (refine call_t _ (con21 (f k) _ _ (by simp [keysLt])) ?_; rintro v H' ⟨rfl, rfl⟩) | (refine call_q _ (con21 (f k) _ _ (by simp [keysLt])) ?_) | (refine call_g _ (imp_of (con21 (f k) _ _ (by simp [keysLt]))) ?_)); (try simp (maxSteps := 10000000) only [opL, C38r0, C38r1, C38r2, C38r3, C38r4, C38r5, C38r6, C38r7, C38r8, C38r9, C38r10, C38r11, C38r12, C38r13, C38r14, C38r15, C38r16, C38r17, C38r18, rwp_nil, rwp_cons, rwpK_app, aop, gpath, St.get, slotAt, sfx, eqP, segsOf, St.put, addBlk, getB, setB, delB, ld1, ldn, st1, stn, setRow, rowNeed, segAt, nsub, bin, un, eqB, isShift, sameK, arith, shiftR, getsl, selB_or, selB_and, beqb, shed, addN, Nat.beq, Seg.size, sizes, imp, needP, andN, appL, argsOf, ptrsOf, aasOf, cut, takeS, dropS, putS, partsOf, fillS, fieldOf, nthA, negIf, nilq, nilB, eqS, eqF, eqS1, andP, kin, slcS, strOk, plusA, bndHi, leN, optG, roH, roL, initT, exOk, exAll, wrAddr, Nat.reduceAdd, Nat.reduceSub, Nat.reduceMul, Int.reduceToNat, List.append_nil, List.nil_append, List.cons_append, eqT, idxT, cat, cpy, ite_int, ite_bool, ite_seg, ite_segs, ite_nil, ite_twice, Int.toNat_natCast, app, addBs, tob])))); refine hK _ (mkLp f n M k u g 0) (LeS.intro [0, 1, 2, 3, 4, 6] idt5 (by simp only [diff, notIn, Nat.beq, and_self]) rfl (by simp only [mkLp, slotsLe, slotAt, Nat.beq, leV, leV1, leC, leA, nthO, Int.natCast_zero, Int.ofNat_zero, hu, and_self]) ⟨uses_le hu, bx_le 0 n rfl, bx2_le n rfl, bx_le 0 n rfl, boolsw_le M _ _ (fun _ _ => rfl), ops_le n f false, trivial⟩) ?_; clear hK K)
    refine run_block ?_
    have hu2 : u ≤ 2 := by rw [← hu]; unfold usesS; (repeat' split) <;> omega
    refine run_loop (fun m s => ∃ j, m = u - j ∧ j ≤ u ∧ s = mkLp f n M k u (markU (f k) g j) j) u ⟨0, rfl, Nat.zero_le _, rfl⟩ ?_
    rintro m s ⟨j, rfl, hj, rfl⟩
    unfold mkLp mkH
    repeat' (first
    | refine run_seq ?_
    | refine run_skip ?_
    | (refine run_region fun K hK => ?_; (try (simp (maxSteps := 10000000) only [opL, usesBk, bxB, opsB, boolsB, C38r0, C38r1, C38r2, C38r3, C38r4, C38r5, C38r6, C38r7, C38r8, C38r9, C38r10, C38r11, C38r12, C38r13, C38r14, C38r15, C38r16, C38r17, C38r18, rwp_nil, rwp_cons, rwpK_app, aop, gpath, St.get, slotAt, sfx, eqP, segsOf, St.put, addBlk, getB, setB, delB, ld1, ldn, st1, stn, setRow, rowNeed, segAt, nsub, bin, un, eqB, isShift, sameK, arith, shiftR, getsl, selB_or, selB_and, beqb, shed, addN, Nat.beq, Seg.size, sizes, imp, needP, andN, appL, argsOf, ptrsOf, aasOf, cut, takeS, dropS, putS, partsOf, fillS, fieldOf, nthA, negIf, nilq, nilB, eqS, eqF, eqS1, andP, kin, slcS, strOk, plusA, bndHi, leN, optG, roH, roL, initT, exOk, exAll, wrAddr, Nat.reduceAdd, Nat.reduceSub, Nat.reduceMul, Int.reduceToNat, List.append_nil, List.nil_append, List.cons_append, eqT, idxT, cat, cpy, ite_int, ite_bool, ite_seg, ite_segs, ite_nil, ite_twice, Int.toNat_natCast, app, addBs, tob])); (repeat (first | (refine And.intro ?_ ?_; · (first | trivial | assumption | (simp only [decide_eq_true_eq] at *; omega) | (simp only [decide_eq_true_eq] at *; have := hU j (by omega); omega))))); with_reducible refine hK _ ?_; clear hK K)
    | (refine run_cond rfl (fun hc => ?_) (fun hc => ?_) <;> try (simp only [*, Bool.true_eq_false, Bool.false_eq_true, Bool.not_true, Bool.not_false, Bool.true_or, Bool.or_true, Bool.false_or, Bool.or_false, Bool.false_and, Bool.and_false, bne_self_eq_false, beq_self_eq_true] at hc; done))
    | refine run_block ?_
    | refine run_ret ?_
    | refine run_nil ?_
    | refine run_exit ?_
    | refine blk_normal ?_
    | refine blk_ret ?_
    | refine blk_here ?_
    | refine blk_there rfl ?_
    | refine loop_exit ?_
    | refine loop_ret ?_
    | refine un_exit ?_
    | refine un_ret ?_
    | refine unE_exit ?_
    | refine unE_ret ?_
    | refine un_normal ?_)
    · have hlt : j < u := by simp only [decide_eq_true_eq] at *; omega
      have hw : IntKind.i64.wrap ((j : Int) + 1) = ((j + 1 : Nat) : Int) := by rw [IntKind.wrap_i64]; omega
      refine loop_normal (u - (j + 1)) (mkLp f n M k u (markU (f k) g (j + 1)) (j + 1)) (by omega) (LeS.intro [0, 1, 2, 3, 4, 5] idt5 (by simp only [diff, notIn, Nat.beq, and_self]) rfl (by simp only [mkLp, slotsLe, slotAt, Nat.beq, leV, leV1, leC, leA, nthO, hw, and_self]) ⟨⟨rfl, rfl, id, Nat.le_refl _, fun _ _ => ⟨⟨rfl, rfl⟩, trivial⟩⟩, bx_le 0 n rfl, bx2_le n rfl, bx_le 0 n rfl, boolsw_le M _ _ (fun _ _ => rfl), ops_le n f false, trivial⟩) ⟨j + 1, rfl, hlt, rfl⟩
    · have e : j = u := by simp only [decide_eq_false_iff_not] at *; omega
      subst e
      exact h _ (LeS.intro [0, 1, 2, 3, 4] idt5 (by simp only [diff, notIn, Nat.beq, and_self]) rfl trivial ⟨bx_le 0 n rfl, bx2_le n rfl, bx_le 0 n rfl, boolsw_le M _ _ (fun _ _ => rfl), ops_le n f false, trivial⟩)
  · rw [hc, if_neg (by decide)] at h
    exact h _ (LeS.intro [0, 1, 2, 3, 4] idt5 (by simp only [diff, notIn, Nat.beq, and_self]) rfl trivial ⟨bx_le 0 n rfl, bx2_le n rfl, bx_le 0 n rfl, boolsw_le M _ _ (fun _ _ => rfl), ops_le n f false, trivial⟩)
def subL (H : Heap) (n : Nat) : List (Nat × Blk) → Prop
  | [] => True
  | (i, B) :: r => (i < n ∧ B.wr = false ∧ ∃ C, getB H.blks i = some C ∧ B.str = C.str ∧ B.sz = C.sz ∧ B.elem = C.elem ∧ ∀ j, B.row j = C.row j) ∧ subL H n r
theorem subH_of {H : Heap} {n nx : Nat} : ∀ {X : List (Nat × Blk)}, subL H n X → subH ⟨nx, X⟩ H n
  | [], _, i, B, hB => by simp [getB] at hB
  | (j, C) :: r, h, i, B, hB => by
    by_cases hi : i = j
    · subst hi
      have e : getB ((i, C) :: r) i = some C := getB_cons_self _ _ _
      have hB' : getB ((i, C) :: r) i = some B := hB
      rw [e] at hB'
      cases hB'
      exact h.1
    · have hB' : getB ((j, C) :: r) i = some B := hB
      rw [getB_cons_ne hi] at hB'
      exact subH_of (nx := nx) h.2 i B hB'
def mkSw : ACode := .seq (.region C38r5)
     (.block 2
      (.seq (.region C38r6)
      (.cond (.t 31)
       (.region C38r7)
       (.seq (.seq (.region C38r8)
       (.cond (.t 45)
        (.skip)
        (.seq (.region C38r9)
        (.cond (.t 45)
         (.skip)
         (.region C38r10)))))
       (.cond (.t 45)
        (.region C38r11)
        (.region C38r12))))))
set_option maxHeartbeats 8000000 in
theorem mk_sw (f : Nat → OpS) (n M k : Nat) (g : Nat → Bool) (hM : n ≤ M) (hk : k < n) (hn : n ≤ 140737488355328) {Q : AEx → St → Prop}
    (h : runA (Con Try.prog) (LeS 5) [mkTail] (mkSt f n M k (mark1 f n k g)) Q) : runA (Con Try.prog) (LeS 5) [.seq mkSw mkTail] (mkSt f n M k g) Q := by
  refine run_seq ?_
  unfold mkSw mkSt mkH
  repeat' (first
    | refine run_seq ?_
    | refine run_skip ?_
    | (refine run_region fun K hK => ?_; (try (simp (maxSteps := 10000000) only [opL, opB', bxB, opsB, boolsB, C38r0, C38r1, C38r2, C38r3, C38r4, C38r5, C38r6, C38r8, C38r9, C38r10, C38r13, C38r14, C38r15, C38r16, C38r17, C38r18, rwp_nil, rwp_cons, rwpK_app, aop, gpath, St.get, slotAt, sfx, eqP, segsOf, St.put, addBlk, getB, setB, delB, ld1, ldn, st1, stn, setRow, rowNeed, segAt, nsub, bin, un, eqB, isShift, sameK, arith, shiftR, getsl, selB_or, selB_and, beqb, shed, addN, Nat.beq, Seg.size, sizes, imp, needP, andN, appL, argsOf, ptrsOf, aasOf, cut, takeS, dropS, putS, partsOf, fillS, fieldOf, nthA, negIf, nilq, nilB, eqS, eqF, eqS1, andP, kin, slcS, strOk, plusA, bndHi, leN, optG, roH, roL, initT, exOk, exAll, wrAddr, Nat.reduceAdd, Nat.reduceSub, Nat.reduceMul, Int.reduceToNat, List.append_nil, List.nil_append, List.cons_append, eqT, idxT, cat, cpy, ite_int, ite_bool, ite_seg, ite_segs, ite_nil, ite_twice, Int.toNat_natCast, app, addBs, tob])); (repeat (first | (refine And.intro ?_ ?_; · (first | trivial | assumption | omega)))); with_reducible refine hK _ ?_; clear hK K)
    | (refine run_cond rfl (fun hc => ?_) (fun hc => ?_) <;> try (simp only [*, Bool.true_eq_false, Bool.false_eq_true, Bool.not_true, Bool.not_false, Bool.true_or, Bool.or_true, Bool.false_or, Bool.or_false, Bool.false_and, Bool.and_false, bne_self_eq_false, beq_self_eq_true] at hc; done))
    | refine run_block ?_
    | refine run_ret ?_
    | refine run_nil ?_
    | refine run_exit ?_
    | refine blk_normal ?_
    | refine blk_ret ?_
    | refine blk_here ?_
    | refine blk_there rfl ?_
    | refine loop_exit ?_
    | refine loop_ret ?_
    | refine un_exit ?_
    | refine un_ret ?_
    | refine unE_exit ?_
    | refine unE_ret ?_
    | refine un_normal ?_)
  · (refine run_regionL fun K hK => ?_; (try (simp (maxSteps := 10000000) only [opL, opB', bxB, opsB, boolsB, C38r0, C38r1, C38r2, C38r3, C38r4, C38r5, C38r6, C38r7, C38r8, C38r9, C38r10, C38r11, C38r12, C38r13, C38r14, C38r15, C38r16, C38r17, C38r18, rwp_nil, rwp_cons, rwpK_app, aop, gpath, St.get, slotAt, sfx, eqP, segsOf, St.put, addBlk, getB, setB, delB, ld1, ldn, st1, stn, setRow, rowNeed, segAt, nsub, bin, un, eqB, isShift, sameK, arith, shiftR, getsl, selB_or, selB_and, beqb, shed, addN, Nat.beq, Seg.size, sizes, imp, needP, andN, appL, argsOf, ptrsOf, aasOf, cut, takeS, dropS, putS, partsOf, fillS, fieldOf, nthA, negIf, nilq, nilB, eqS, eqF, eqS1, andP, kin, slcS, strOk, plusA, bndHi, leN, optG, roH, roL, initT, exOk, exAll, wrAddr, Nat.reduceAdd, Nat.reduceSub, Nat.reduceMul, Int.reduceToNat, List.append_nil, List.nil_append, List.cons_append, eqT, idxT, cat, cpy, ite_int, ite_bool, ite_seg, ite_segs, ite_nil, ite_twice, Int.toNat_natCast, app, addBs, tob])); (repeat (first | (refine And.intro ?_ ?_; · (first | trivial | (intros; omega))) | ((first | (refine call_t _ (con56_at n k (n - k) f (by omega) (by omega) hn _ _ _ _ rfl (Nat.le_of_ble_eq_true rfl) (by simp [roL, keysLt])) ?_; rintro v H' ⟨rfl, rfl⟩) | (refine call_q _ (con56_at n k (n - k) f (by omega) (by omega) hn _ _ _ _ rfl (Nat.le_of_ble_eq_true rfl) (by simp [roL, keysLt])) ?_) | (refine call_g _ (imp_of (con56_at n k (n - k) f (by omega) (by omega) hn _ _ _ _ rfl (Nat.le_of_ble_eq_true rfl) (by simp [roL, keysLt]))) ?_)); (try simp (maxSteps := 10000000) only [opL, opB', bxB, opsB, boolsB, C38r0, C38r1, C38r2, C38r3, C38r4, C38r5, C38r6, C38r7, C38r8, C38r9, C38r10, C38r11, C38r12, C38r13, C38r14, C38r15, C38r16, C38r17, C38r18, rwp_nil, rwp_cons, rwpK_app, aop, gpath, St.get, slotAt, sfx, eqP, segsOf, St.put, addBlk, getB, setB, delB, ld1, ldn, st1, stn, setRow, rowNeed, segAt, nsub, bin, un, eqB, isShift, sameK, arith, shiftR, getsl, selB_or, selB_and, beqb, shed, addN, Nat.beq, Seg.size, sizes, imp, needP, andN, appL, argsOf, ptrsOf, aasOf, cut, takeS, dropS, putS, partsOf, fillS, fieldOf, nthA, negIf, nilq, nilB, eqS, eqF, eqS1, andP, kin, slcS, strOk, plusA, bndHi, leN, optG, roH, roL, initT, exOk, exAll, wrAddr, Nat.reduceAdd, Nat.reduceSub, Nat.reduceMul, Int.reduceToNat, List.append_nil, List.nil_append, List.cons_append, eqT, idxT, cat, cpy, ite_int, ite_bool, ite_seg, ite_segs, ite_nil, ite_twice, Int.toNat_natCast, app, addBs, tob])))); refine hK _ (mkSt f n M k (mark1 f n k g)) (LeS.intro [0, 1, 2, 3, 4, 5] idt5 (by simp only [diff, notIn, Nat.beq, and_self]) rfl (by simp only [mkSt, slotsLe, slotAt, Nat.beq, leV, leV1, leC, leA, nthO, and_self]) ⟨opk_le (f k), bx_le 0 n rfl, bx2_le n rfl, bx_le 0 n rfl, boolsw_le M _ _ (fun i hi => by simp only [mark1, upd, hidAt, *, if_true, Bool.false_eq_true, if_false, Bool.true_or, Bool.or_true, Bool.or_false, Bool.false_or]), ops_le n f false, trivial⟩) ?_; clear hK K)
    exact run_nil (blk_normal h)
  iterate 3
    · (refine run_regionL fun K hK => ?_; (try (simp (maxSteps := 10000000) only [opL, opB', bxB, opsB, boolsB, C38r0, C38r1, C38r2, C38r3, C38r4, C38r5, C38r6, C38r7, C38r8, C38r9, C38r10, C38r11, C38r12, C38r13, C38r14, C38r15, C38r16, C38r17, C38r18, rwp_nil, rwp_cons, rwpK_app, aop, gpath, St.get, slotAt, sfx, eqP, segsOf, St.put, addBlk, getB, setB, delB, ld1, ldn, st1, stn, setRow, rowNeed, segAt, nsub, bin, un, eqB, isShift, sameK, arith, shiftR, getsl, selB_or, selB_and, beqb, shed, addN, Nat.beq, Seg.size, sizes, imp, needP, andN, appL, argsOf, ptrsOf, aasOf, cut, takeS, dropS, putS, partsOf, fillS, fieldOf, nthA, negIf, nilq, nilB, eqS, eqF, eqS1, andP, kin, slcS, strOk, plusA, bndHi, leN, optG, roH, roL, initT, exOk, exAll, wrAddr, Nat.reduceAdd, Nat.reduceSub, Nat.reduceMul, Int.reduceToNat, List.append_nil, List.nil_append, List.cons_append, eqT, idxT, cat, cpy, ite_int, ite_bool, ite_seg, ite_segs, ite_nil, ite_twice, Int.toNat_natCast, app, addBs, tob])); (repeat (first | (refine And.intro ?_ ?_; · (first | trivial | omega | (intros; omega))) | ((first | (refine call_t _ (con56_at n k (n - k) f (by omega) (by omega) hn _ _ _ _ rfl (Nat.le_of_ble_eq_true rfl) (by simp [roL, keysLt])) ?_; rintro v H' ⟨rfl, rfl⟩) | (refine call_q _ (con56_at n k (n - k) f (by omega) (by omega) hn _ _ _ _ rfl (Nat.le_of_ble_eq_true rfl) (by simp [roL, keysLt])) ?_) | (refine call_g _ (imp_of (con56_at n k (n - k) f (by omega) (by omega) hn _ _ _ _ rfl (Nat.le_of_ble_eq_true rfl) (by simp [roL, keysLt]))) ?_)); (try simp (maxSteps := 10000000) only [opL, opB', bxB, opsB, boolsB, C38r0, C38r1, C38r2, C38r3, C38r4, C38r5, C38r6, C38r7, C38r8, C38r9, C38r10, C38r11, C38r12, C38r13, C38r14, C38r15, C38r16, C38r17, C38r18, rwp_nil, rwp_cons, rwpK_app, aop, gpath, St.get, slotAt, sfx, eqP, segsOf, St.put, addBlk, getB, setB, delB, ld1, ldn, st1, stn, setRow, rowNeed, segAt, nsub, bin, un, eqB, isShift, sameK, arith, shiftR, getsl, selB_or, selB_and, beqb, shed, addN, Nat.beq, Seg.size, sizes, imp, needP, andN, appL, argsOf, ptrsOf, aasOf, cut, takeS, dropS, putS, partsOf, fillS, fieldOf, nthA, negIf, nilq, nilB, eqS, eqF, eqS1, andP, kin, slcS, strOk, plusA, bndHi, leN, optG, roH, roL, initT, exOk, exAll, wrAddr, Nat.reduceAdd, Nat.reduceSub, Nat.reduceMul, Int.reduceToNat, List.append_nil, List.nil_append, List.cons_append, eqT, idxT, cat, cpy, ite_int, ite_bool, ite_seg, ite_segs, ite_nil, ite_twice, Int.toNat_natCast, app, addBs, tob])))); refine hK _ (mkSt f n M k (mark1 f n k g)) (LeS.intro [0, 1, 2, 3, 4, 5] idt5 (by simp only [diff, notIn, Nat.beq, and_self]) rfl (by simp only [mkSt, slotsLe, slotAt, Nat.beq, leV, leV1, leC, leA, nthO, and_self]) ⟨opk_le (f k), bx_le 0 n rfl, bx2_le n rfl, bx_le 0 n rfl, boolsw_le M _ _ (fun i hi => by simp only [mark1, upd, hidAt, *, if_true, Bool.false_eq_true, if_false, Bool.true_or, Bool.or_true, Bool.or_false, Bool.false_or]), ops_le n f false, trivial⟩) ?_; clear hK K)
      exact run_nil (blk_normal h)
  · (refine run_regionL fun K hK => ?_; (try (simp (maxSteps := 10000000) only [opL, opB', bxB, opsB, boolsB, C38r0, C38r1, C38r2, C38r3, C38r4, C38r5, C38r6, C38r7, C38r8, C38r9, C38r10, C38r11, C38r12, C38r13, C38r14, C38r15, C38r16, C38r17, C38r18, rwp_nil, rwp_cons, rwpK_app, aop, gpath, St.get, slotAt, sfx, eqP, segsOf, St.put, addBlk, getB, setB, delB, ld1, ldn, st1, stn, setRow, rowNeed, segAt, nsub, bin, un, eqB, isShift, sameK, arith, shiftR, getsl, selB_or, selB_and, beqb, shed, addN, Nat.beq, Seg.size, sizes, imp, needP, andN, appL, argsOf, ptrsOf, aasOf, cut, takeS, dropS, putS, partsOf, fillS, fieldOf, nthA, negIf, nilq, nilB, eqS, eqF, eqS1, andP, kin, slcS, strOk, plusA, bndHi, leN, optG, roH, roL, initT, exOk, exAll, wrAddr, Nat.reduceAdd, Nat.reduceSub, Nat.reduceMul, Int.reduceToNat, List.append_nil, List.nil_append, List.cons_append, eqT, idxT, cat, cpy, ite_int, ite_bool, ite_seg, ite_segs, ite_nil, ite_twice, Int.toNat_natCast, app, addBs, tob])); (repeat (first | (refine And.intro ?_ ?_; · (first | trivial | omega | (intros; first | trivial | omega))) | ((first | (refine call_t _ (con57 (f k) _) ?_; rintro v H' ⟨rfl, rfl⟩) | (refine call_q _ (con57 (f k) _) ?_) | (refine call_g _ (imp_of (con57 (f k) _)) ?_) | (refine call_t _ (con22 (f k) _) ?_; rintro v H' ⟨rfl, rfl⟩) | (refine call_q _ (con22 (f k) _) ?_) | (refine call_g _ (imp_of (con22 (f k) _)) ?_)); (try simp (maxSteps := 10000000) only [opL, opB', bxB, opsB, boolsB, C38r0, C38r1, C38r2, C38r3, C38r4, C38r5, C38r6, C38r7, C38r8, C38r9, C38r10, C38r11, C38r12, C38r13, C38r14, C38r15, C38r16, C38r17, C38r18, rwp_nil, rwp_cons, rwpK_app, aop, gpath, St.get, slotAt, sfx, eqP, segsOf, St.put, addBlk, getB, setB, delB, ld1, ldn, st1, stn, setRow, rowNeed, segAt, nsub, bin, un, eqB, isShift, sameK, arith, shiftR, getsl, selB_or, selB_and, beqb, shed, addN, Nat.beq, Seg.size, sizes, imp, needP, andN, appL, argsOf, ptrsOf, aasOf, cut, takeS, dropS, putS, partsOf, fillS, fieldOf, nthA, negIf, nilq, nilB, eqS, eqF, eqS1, andP, kin, slcS, strOk, plusA, bndHi, leN, optG, roH, roL, initT, exOk, exAll, wrAddr, Nat.reduceAdd, Nat.reduceSub, Nat.reduceMul, Int.reduceToNat, List.append_nil, List.nil_append, List.cons_append, eqT, idxT, cat, cpy, ite_int, ite_bool, ite_seg, ite_segs, ite_nil, ite_twice, Int.toNat_natCast, app, addBs, tob])))); refine hK _ (mkSt f n M k (mark1 f n k g)) (LeS.intro [0, 1, 2, 3, 4, 5] idt5 (by simp only [diff, notIn, Nat.beq, and_self]) rfl (by simp only [mkSt, slotsLe, slotAt, Nat.beq, leV, leV1, leC, leA, nthO, and_self]) ⟨opk_le (f k), bx_le 0 n rfl, bx2_le n rfl, bx_le 0 n rfl, boolsw_le M _ _ (fun i hi => by simp only [mark1, upd, hidAt, *, if_true, Bool.false_eq_true, if_false, Bool.true_or, Bool.or_true, Bool.or_false, Bool.false_or]), ops_le n f false, trivial⟩) ?_; clear hK K)
    exact run_nil (blk_normal h)
theorem con38 (f : Nat → OpS) (n M : Nat) (g0 : Nat → Bool) (hM : n ≤ M) (hn : n ≤ 140737488355328) (hU : ∀ k, k < n → ∀ i, i < usesS (f k).kind → 0 ≤ useF (f k) i ∧ useF (f k) i < n) : Con Try.prog 38 [.c (.slice ⟨0, 0, 0, 0⟩ false n), .c (.slice ⟨1, 0, 0, 0⟩ false n)] ⟨2, [(1, boolsB M g0 true), (0, opsB n f)]⟩ (fun v H' => v = .tup [] ∧ H' = ⟨2, [(1, boolsB M (markN f n g0 n) true), (0, opsB n f)]⟩) := by
  (refine con_of_run mixed (fn := Try.f38) (by kernel_rfl) (by kernel_rfl) C38_ok (rs := []) (by kernel_rfl) (Nat.le_of_ble_eq_true (by kernel_rfl)) ?_; unfold C38; simp only [initT, Nat.reduceAdd])
  repeat' (first
    | refine run_seq ?_
    | refine run_skip ?_
    | (refine run_region fun K hK => ?_; (try (simp (maxSteps := 10000000) only [bxB, opsB, boolsB, clr, rowsClr, addN_eq, Nat.zero_add, Nat.zero_le, true_and, C38r0, C38r1, C38r3, C38r4, C38r5, C38r6, C38r7, C38r8, C38r9, C38r10, C38r11, C38r12, C38r13, C38r14, C38r15, C38r16, C38r17, C38r18, rwp_nil, rwp_cons, rwpK_app, aop, gpath, St.get, slotAt, sfx, eqP, segsOf, St.put, addBlk, getB, setB, delB, ld1, ldn, st1, stn, setRow, rowNeed, segAt, nsub, bin, un, eqB, isShift, sameK, arith, shiftR, getsl, selB_or, selB_and, beqb, shed, Nat.beq, Seg.size, sizes, imp, needP, andN, appL, argsOf, ptrsOf, aasOf, cut, takeS, dropS, putS, partsOf, fillS, fieldOf, nthA, negIf, nilq, nilB, eqS, eqF, eqS1, andP, kin, slcS, strOk, plusA, bndHi, leN, optG, roH, roL, initT, exOk, exAll, wrAddr, Nat.reduceAdd, Nat.reduceSub, Nat.reduceMul, Int.reduceToNat, List.append_nil, List.nil_append, List.cons_append, eqT, idxT, cat, cpy, ite_int, ite_bool, ite_seg, ite_segs, ite_nil, ite_twice, Int.toNat_natCast, app, addBs, tob])); (repeat (first | (refine And.intro ?_ ?_; · (first | trivial | assumption | omega)))); with_reducible refine hK _ ?_; clear hK K)
    | (refine run_cond rfl (fun hc => ?_) (fun hc => ?_) <;> try (simp only [*, Bool.true_eq_false, Bool.false_eq_true, Bool.not_true, Bool.not_false, Bool.true_or, Bool.or_true, Bool.false_or, Bool.or_false, Bool.false_and, Bool.and_false, bne_self_eq_false, beq_self_eq_true] at hc; done))
    | refine run_block ?_
    | refine run_ret ?_
    | refine run_nil ?_
    | refine run_exit ?_
    | refine blk_normal ?_
    | refine blk_ret ?_
    | refine blk_here ?_
    | refine blk_there rfl ?_
    | refine loop_exit ?_
    | refine loop_ret ?_
    | refine un_exit ?_
    | refine un_ret ?_
    | refine unE_exit ?_
    | refine unE_ret ?_
    | refine un_normal ?_)
  (refine run_regionL fun K hK => ?_; (try (simp (maxSteps := 10000000) only [opL, bxB, opsB, boolsB, C38r0, C38r1, C38r2, C38r3, C38r4, C38r5, C38r6, C38r7, C38r8, C38r9, C38r10, C38r11, C38r12, C38r13, C38r14, C38r15, C38r16, C38r17, C38r18, rwp_nil, rwp_cons, rwpK_app, aop, gpath, St.get, slotAt, sfx, eqP, segsOf, St.put, addBlk, getB, setB, delB, ld1, ldn, st1, stn, setRow, rowNeed, segAt, nsub, bin, un, eqB, isShift, sameK, arith, shiftR, getsl, selB_or, selB_and, beqb, shed, addN, Nat.beq, Seg.size, sizes, imp, needP, andN, appL, argsOf, ptrsOf, aasOf, cut, takeS, dropS, putS, partsOf, fillS, fieldOf, nthA, negIf, nilq, nilB, eqS, eqF, eqS1, andP, kin, slcS, strOk, plusA, bndHi, leN, optG, roH, roL, initT, exOk, exAll, wrAddr, Nat.reduceAdd, Nat.reduceSub, Nat.reduceMul, Int.reduceToNat, List.append_nil, List.nil_append, List.cons_append, eqT, idxT, cat, cpy, ite_int, ite_bool, ite_seg, ite_segs, ite_nil, ite_twice, Int.toNat_natCast, app, addBs, tob])); (repeat (first | (refine And.intro ?_ ?_; · trivial) | ((first | (refine call_t _ (con55 n 0 _ _ (Nat.le_of_ble_eq_true rfl) (by simp [keysLt])) ?_; rintro v H' ⟨rfl, rfl⟩) | (refine call_q _ (con55 n 0 _ _ (Nat.le_of_ble_eq_true rfl) (by simp [keysLt])) ?_) | (refine call_g _ (imp_of (con55 n 0 _ _ (Nat.le_of_ble_eq_true rfl) (by simp [keysLt]))) ?_)); (try simp (maxSteps := 10000000) only [opL, bxB, opsB, boolsB, C38r0, C38r1, C38r2, C38r3, C38r4, C38r5, C38r6, C38r7, C38r8, C38r9, C38r10, C38r11, C38r12, C38r13, C38r14, C38r15, C38r16, C38r17, C38r18, rwp_nil, rwp_cons, rwpK_app, aop, gpath, St.get, slotAt, sfx, eqP, segsOf, St.put, addBlk, getB, setB, delB, ld1, ldn, st1, stn, setRow, rowNeed, segAt, nsub, bin, un, eqB, isShift, sameK, arith, shiftR, getsl, selB_or, selB_and, beqb, shed, addN, Nat.beq, Seg.size, sizes, imp, needP, andN, appL, argsOf, ptrsOf, aasOf, cut, takeS, dropS, putS, partsOf, fillS, fieldOf, nthA, negIf, nilq, nilB, eqS, eqF, eqS1, andP, kin, slcS, strOk, plusA, bndHi, leN, optG, roH, roL, initT, exOk, exAll, wrAddr, Nat.reduceAdd, Nat.reduceSub, Nat.reduceMul, Int.reduceToNat, List.append_nil, List.nil_append, List.cons_append, eqT, idxT, cat, cpy, ite_int, ite_bool, ite_seg, ite_segs, ite_nil, ite_twice, Int.toNat_natCast, app, addBs, tob])))); refine hK _ (⟨[⟨10, [], .c (.fn 92 [] [⟨4, 0, 0, 0⟩])⟩, ⟨3, [], .c (.ptr ⟨3, 0, 0, 0⟩)⟩, ⟨2, [], .c (.ptr ⟨2, 0, 0, 0⟩)⟩], ⟨5, mkH f n M (markN f n g0 0)⟩⟩) (LeS.intro [0, 1, 2, 3, 4] (fun i h => idt5 i (by omega)) (by simp only [diff, notIn, Nat.beq, and_self]) rfl (by simp only [slotsLe, slotAt, Nat.beq, leV, leV1, leC, leAL, leA, nthO, and_self]) ⟨bx_le 0 n rfl, bx2_le n rfl, bx_le 0 n rfl, ⟨rfl, rfl, id, Nat.le_refl _, fun i hi => by by_cases hi' : i < n <;> simp only [rowsClr, boolsB, markN, addN_eq, Nat.zero_add, Nat.zero_le, true_and, hi', if_true, if_false, leSegs, leSeg, leC, and_self]⟩, ops_le n f false, trivial⟩) ?_; clear hK K)
  refine run_block ?_
  refine run_range 92 [⟨4, 0, 0, 0⟩] ⟨5, [(4, bxB 0 n false), (0, opsB n f)]⟩ n _ (fun j H => H = ⟨5, mkH f n M (markN f n g0 j)⟩) rfl (ops_iter n f hn 4 0 5 rfl) (fun _ => rfl) rfl ?_ ?_ ?_
  · rintro j H rfl
    exact subH_of ⟨⟨Nat.le_of_ble_eq_true rfl, rfl, _, rfl, rfl, rfl, rfl, fun _ => rfl⟩, ⟨Nat.le_of_ble_eq_true rfl, rfl, _, rfl, rfl, rfl, rfl, fun _ => rfl⟩, trivial⟩
  · rintro j H hj rfl
    obtain ⟨k, hk⟩ : ∃ k, n - 1 - j = k := ⟨_, rfl⟩
    have hkI : (n : Int) - 1 - (j : Int) = (k : Int) := by omega
    rw [hk, hkI]
    have hkn : k < n := by omega
    refine run_seq ?_
    simp only [putL]
    repeat' (first
    | refine run_seq ?_
    | refine run_skip ?_
    | (refine run_region fun K hK => ?_; (try (simp (maxSteps := 10000000) only [opL, C38r0, C38r1, C38r2, C38r3, C38r5, C38r6, C38r7, C38r8, C38r9, C38r10, C38r11, C38r12, C38r13, C38r14, C38r15, C38r16, C38r17, C38r18, rwp_nil, rwp_cons, rwpK_app, aop, gpath, St.get, slotAt, sfx, eqP, segsOf, St.put, addBlk, getB, setB, delB, ld1, ldn, st1, stn, setRow, rowNeed, segAt, nsub, bin, un, eqB, isShift, sameK, arith, shiftR, getsl, selB_or, selB_and, beqb, shed, addN, Nat.beq, Seg.size, sizes, imp, needP, andN, appL, argsOf, ptrsOf, aasOf, cut, takeS, dropS, putS, partsOf, fillS, fieldOf, nthA, negIf, nilq, nilB, eqS, eqF, eqS1, andP, kin, slcS, strOk, plusA, bndHi, leN, optG, roH, roL, initT, exOk, exAll, wrAddr, Nat.reduceAdd, Nat.reduceSub, Nat.reduceMul, Int.reduceToNat, List.append_nil, List.nil_append, List.cons_append, eqT, idxT, cat, cpy, ite_int, ite_bool, ite_seg, ite_segs, ite_nil, ite_twice, Int.toNat_natCast, app, addBs, tob])); (repeat (first | (refine And.intro ?_ ?_; · ))); with_reducible refine hK _ ?_; clear hK K)
    | (refine run_cond rfl (fun hc => ?_) (fun hc => ?_) <;> try (simp only [*, Bool.true_eq_false, Bool.false_eq_true, Bool.not_true, Bool.not_false, Bool.true_or, Bool.or_true, Bool.false_or, Bool.or_false, Bool.false_and, Bool.and_false, bne_self_eq_false, beq_self_eq_true] at hc; done))
    | refine run_block ?_
    | refine run_ret ?_
    | refine run_nil ?_
    | refine run_exit ?_
    | refine blk_normal ?_
    | refine blk_ret ?_
    | refine blk_here ?_
    | refine blk_there rfl ?_
    | refine loop_exit ?_
    | refine loop_ret ?_
    | refine un_exit ?_
    | refine un_ret ?_
    | refine unE_exit ?_
    | refine unE_ret ?_
    | refine un_normal ?_)
    (refine run_regionL fun K hK => ?_; (try (simp (maxSteps := 10000000) only [opL, mkH, C38r0, C38r1, C38r2, C38r3, C38r4, C38r5, C38r6, C38r7, C38r8, C38r9, C38r10, C38r11, C38r12, C38r13, C38r14, C38r15, C38r16, C38r17, C38r18, rwp_nil, rwp_cons, rwpK_app, aop, gpath, St.get, slotAt, sfx, eqP, segsOf, St.put, addBlk, getB, setB, delB, ld1, ldn, st1, stn, setRow, rowNeed, segAt, nsub, bin, un, eqB, isShift, sameK, arith, shiftR, getsl, selB_or, selB_and, beqb, shed, addN, Nat.beq, Seg.size, sizes, imp, needP, andN, appL, argsOf, ptrsOf, aasOf, cut, takeS, dropS, putS, partsOf, fillS, fieldOf, nthA, negIf, nilq, nilB, eqS, eqF, eqS1, andP, kin, slcS, strOk, plusA, bndHi, leN, optG, roH, roL, initT, exOk, exAll, wrAddr, Nat.reduceAdd, Nat.reduceSub, Nat.reduceMul, Int.reduceToNat, List.append_nil, List.nil_append, List.cons_append, eqT, idxT, cat, cpy, ite_int, ite_bool, ite_seg, ite_segs, ite_nil, ite_twice, Int.toNat_natCast, app, addBs, tob])); (repeat (first | (refine And.intro ?_ ?_; · first | trivial | assumption | omega))); refine hK _ (mkSt f n M k (markN f n g0 j)) (LeS.intro [0, 1, 2, 3, 4, 5] idt5 (by simp only [diff, notIn, Nat.beq, and_self]) rfl (by simp only [mkSt, slotsLe, slotAt, Nat.beq, leV, leV1, leC, leA, nthO, and_self]) ⟨opk_le (f k), bx_le 0 n rfl, bx2_le n rfl, bx_le 0 n rfl, boolsw_le M _ _ (fun _ _ => rfl), ops_le n f false, trivial⟩) ?_; clear hK K)
    refine run_nil (asg_normal (run_block (mk_sw f n M k (markN f n g0 j) hM hkn hn (mk_tail f n M k _ hM hkn hn (hU k hkn) fun s hs => blk_normal (run_nil (rng_normal _ hs ?_))))))
    rw [← hk]
    rfl
  · rintro H rfl
    refine run_nil (blk_normal (run_nil (end_of' ⟨[], ⟨2, [(1, boolsB M (markN f n g0 n) true), (0, opsB n f)]⟩⟩ (LeS.intro [0, 1] (fun i h => idt2 i h) (by simp only [diff, notIn, Nat.beq, and_self]) rfl trivial ⟨boolsw_le M _ _ (fun _ _ => rfl), ops_le n f false, trivial⟩) ⟨rfl, rfl⟩)))
end Go.Proofs.Ytmbnakinhnkabaa
