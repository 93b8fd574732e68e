/- ir: Right. -/
import Derived.Test.YtmbnakinhnkabaaDi
namespace Go.Proofs.Ytmbnakinhnkabaa
open Go.AM
set_option maxRecDepth 100000
set_option linter.unusedSimpArgs false
set_option linter.unusedVariables false
/-- A block: its head, and its operations. -/
structure BlkS where
  pc : Int
  words : Int
  el : Int
  n : Nat
  f : Nat → OpS
def blkL (b : BlkS) (i : Nat) : List Seg := [.c (.int .u64 b.pc), .c (.int .i64 b.words), .c (.int .i64 b.el), .c (.slice ⟨i, 0, 0, 0⟩ false b.n)]
def blkB (b : BlkS) (i : Nat) : Blk := ⟨4, none, fun _ => blkL b i, 25, true⟩
def head1 (b : BlkS) : Bool := ((((((IntKind.u64.wrap (BitVec.ofInt IntKind.u64.bits b.pc &&& BitVec.ofInt IntKind.u64.bits 3).toNat != 0) || decide (b.words < 1)) || decide (b.words > 16)) || decide (b.el < 0)) || decide (b.el > 1)) || decide ((b.n : Int) < 1)) || decide ((b.n : Int) > 512)
def head2 (b : BlkS) : Bool := ((b.f 0).kind != 14) || ((b.f 0).imm != b.pc)
/-- The first j operations are right. -/
def opsOk (b : BlkS) : Nat → Bool
  | 0 => true
  | j + 1 => opsOk b j && (ropS (b.f j) j b.f && (endS (b.f j).kind == decide ((j : Int) = (b.n : Int) - 1)))
def rightS (b : BlkS) : Bool := !head1 b && !head2 b && opsOk b b.n
theorem opsOk_no {b : BlkS} : ∀ {n j : Nat}, j < n → (ropS (b.f j) j b.f && (endS (b.f j).kind == decide ((j : Int) = (b.n : Int) - 1))) = false → opsOk b n = false
  | n + 1, j, h, hb => by
    simp only [opsOk]
    by_cases hj : j = n
    · rw [← hj, hb, Bool.and_false]
    · rw [opsOk_no (n := n) (by omega) hb, Bool.false_and]
theorem con54_at (o : OpS) (N m : Nat) (f : Nat → OpS) (hm : m ≤ N) (hN : N ≤ 140737488355328) (n : Nat) (X : List (Nat × Blk)) (w : Bool) (h0 : getB X 0 = some ⟨6, some N, fun i => opL (f i), 39, w⟩) (hlt : 0 < n) (hkl : keysLt X n) : Con Try.prog 54 [.agg (opL o), .c (.slice ⟨0, 0, 0, 0⟩ false m)] ⟨n, X⟩ (fun v H' => v = .c (.bool (ropS o m f)) ∧ H' = ⟨n, X⟩) :=
  ro_gen (con54 o N m f hm hN) [0] n X rfl ⟨trivial, trivial⟩ ⟨hlt, trivial⟩ hkl (by simp only [leBlks, nthO, h0]; exact ⟨ops_le N f w, trivial⟩) (by simp only [leArgs, leV, leV1, opL, leSegs, leSeg, leC, leA, nthO, and_self]) rfl (fun _ => rfl) rfl rfl
theorem blk_le {l : List Nat} (b : BlkS) (h : nthO l 0 = some 0) : leB l ⟨4, none, fun _ => blkL b 0, 25, true⟩ (blkB b 0) := ⟨rfl, rfl, id, Nat.le_refl _, fun _ _ => by simp only [blkB, blkL, leSegs, leSeg, leC, leA, h, and_self]⟩
def rgtSt (b : BlkS) (j : Nat) : St := ⟨[⟨62, [], .c (.int .i64 j)⟩, ⟨61, [], .c (.int .i64 b.n)⟩, ⟨60, [], .c (.slice ⟨0, 0, 0, 0⟩ false b.n)⟩, ⟨3, [], .c (.int .i64 b.n)⟩, ⟨1, [], .c (.ptr ⟨1, 0, 0, 0⟩)⟩], ⟨2, [(1, blkB b 0), (0, opsB b.n b.f)]⟩⟩
def rgtC (b : BlkS) (j : Nat) : Bool := !ropS (b.f j) j b.f || !(endS (b.f j).kind == ((j : Int) == IntKind.i64.wrap ((b.n : Int) - 1)))
def rgtS2 (b : BlkS) (j : Nat) (c : Bool) : St := ⟨⟨88, [], .c (.bool c)⟩ :: (rgtSt b j).tmps, (rgtSt b j).heap⟩
def rgtMid : ACode := .seq (.region C37r8)
     (.seq (.region C37r9)
     (.seq (.region C37r10)
     (.cond (.t 88)
      (.seq (.region C37r11)
      (.ret))
      (.skip))))
def rgtBody : ACode := .seq (.region C37r7)
    (.seq (.cond (.t 63)
     (.skip)
     (.exit 0))
    (.seq (.block 1
     (.seq (.region C37r8)
     (.seq (.region C37r9)
     (.seq (.region C37r10)
     (.cond (.t 88)
      (.seq (.region C37r11)
      (.ret))
      (.skip))))))
    (.region C37r12)))
set_option maxHeartbeats 8000000 in
theorem rgt_mid (c0 : Bool) (b : BlkS) (j : Nat) (hj : j < b.n) (hn : b.n ≤ 512) {Q : AEx → St → Prop} (h : runA (Con Try.prog) (LeS 1) [.cond (.t 88) (.seq (.region C37r11) .ret) .skip] (rgtS2 b j (rgtC b j)) Q) : runA (Con Try.prog) (LeS 1) [rgtMid] ⟨⟨63, [], .c (.bool c0)⟩ :: (rgtSt b j).tmps, (rgtSt b j).heap⟩ Q := by
  unfold rgtMid rgtSt
  refine run_seq ?_
  (refine run_region fun K hK => ?_; simp only [C37r8]; (repeat' (first | (refine And.intro ?_ ?_; · (first | trivial | assumption | omega | exact ⟨by omega, by omega⟩)) | (rw [rwp_cons]; (try simp (maxSteps := 10000000) only [opL, blkB, blkL, opsB, rwp_nil, rwpK_app, aop, gpath, St.get, slotAt, sfx, eqP, segsOf, St.put, addBlk, getB, setB, delB, ld1, ldn, st1, stn, setRow, rowNeed, segAt, nsub, bin, un, eqB, isShift, sameK, arith, shiftR, getsl, selB_or, selB_and, beqb, shed, addN, Nat.beq, Seg.size, sizes, imp, needP, andN, appL, argsOf, ptrsOf, aasOf, cut, takeS, dropS, putS, partsOf, fillS, fieldOf, nthA, negIf, nilq, nilB, eqS, eqF, eqS1, andP, kin, slcS, strOk, plusA, bndHi, leN, optG, roH, roL, initT, exOk, exAll, wrAddr, Nat.reduceAdd, Nat.reduceSub, Nat.reduceMul, Int.reduceToNat, List.append_nil, List.nil_append, List.cons_append, eqT, idxT, cat, cpy, ite_int, ite_bool, ite_seg, ite_segs, ite_nil, ite_twice, Int.toNat_natCast, app, addBs, tob])))); all_goals ((try simp only [rwp_nil, shed]); with_reducible refine hK _ ?_; clear hK K))
  refine run_seq ?_
  (refine run_region fun K hK => ?_; simp only [C37r9]; (repeat' (first | (refine And.intro ?_ ?_; · (first | trivial | assumption | omega)) | (rw [rwp_cons]; (try simp (maxSteps := 10000000) only [opL, kindV, kindL, boxW, intsW, slB, rwp_nil, rwpK_app, aop, gpath, St.get, slotAt, sfx, eqP, segsOf, St.put, addBlk, getB, setB, delB, ld1, ldn, st1, stn, setRow, rowNeed, segAt, nsub, bin, un, eqB, isShift, sameK, arith, shiftR, getsl, selB_or, selB_and, beqb, shed, addN, Nat.beq, Seg.size, sizes, imp, needP, andN, appL, argsOf, ptrsOf, aasOf, cut, takeS, dropS, putS, partsOf, fillS, fieldOf, nthA, negIf, nilq, nilB, eqS, eqF, eqS1, andP, kin, slcS, strOk, plusA, bndHi, leN, optG, roH, roL, initT, exOk, exAll, wrAddr, Nat.reduceAdd, Nat.reduceSub, Nat.reduceMul, Int.reduceToNat, List.append_nil, List.nil_append, List.cons_append, eqT, idxT, cat, cpy, ite_int, ite_bool, ite_seg, ite_segs, ite_nil, ite_twice, Int.toNat_natCast, app, addBs, tob])) | ((first | (refine call_t _ (kind_R _ _ _ (by simp [keysLt])) ?_; rintro v H' (⟨w, r, i, od, a, g, rfl, rfl⟩ | ⟨w, r, i, od, a, t, rfl, rfl⟩ | ⟨w, r, i, od, a, c, g, rfl, rfl⟩ | ⟨rfl, rfl⟩))) <;> (try simp (maxSteps := 10000000) only [opL, kindV, kindL, boxW, intsW, slB, rwp_nil, rwpK_app, aop, gpath, St.get, slotAt, sfx, eqP, segsOf, St.put, addBlk, getB, setB, delB, ld1, ldn, st1, stn, setRow, rowNeed, segAt, nsub, bin, un, eqB, isShift, sameK, arith, shiftR, getsl, selB_or, selB_and, beqb, shed, addN, Nat.beq, Seg.size, sizes, imp, needP, andN, appL, argsOf, ptrsOf, aasOf, cut, takeS, dropS, putS, partsOf, fillS, fieldOf, nthA, negIf, nilq, nilB, eqS, eqF, eqS1, andP, kin, slcS, strOk, plusA, bndHi, leN, optG, roH, roL, initT, exOk, exAll, wrAddr, Nat.reduceAdd, Nat.reduceSub, Nat.reduceMul, Int.reduceToNat, List.append_nil, List.nil_append, List.cons_append, eqT, idxT, cat, cpy, ite_int, ite_bool, ite_seg, ite_segs, ite_nil, ite_twice, Int.toNat_natCast, app, addBs, tob])))); all_goals ((try simp only [rwp_nil, shed]); with_reducible refine hK _ ?_; clear hK K))
  all_goals refine run_seq ?_
  all_goals
    (refine run_regionL fun K hK => ?_; simp only [C37r10]; (repeat' (first | (refine And.intro ?_ ?_; · (first | trivial | assumption | omega | (intros; first | trivial | omega))) | (rw [rwp_cons]; (try simp (maxSteps := 10000000) only [opL, kindV, kindL, boxW, intsW, slB, blkB, blkL, rwp_nil, rwpK_app, aop, gpath, St.get, slotAt, sfx, eqP, segsOf, St.put, addBlk, getB, setB, delB, ld1, ldn, st1, stn, setRow, rowNeed, segAt, nsub, bin, un, eqB, isShift, sameK, arith, shiftR, getsl, selB_or, selB_and, beqb, shed, addN, Nat.beq, Seg.size, sizes, imp, needP, andN, appL, argsOf, ptrsOf, aasOf, cut, takeS, dropS, putS, partsOf, fillS, fieldOf, nthA, negIf, nilq, nilB, eqS, eqF, eqS1, andP, kin, slcS, strOk, plusA, bndHi, leN, optG, roH, roL, initT, exOk, exAll, wrAddr, Nat.reduceAdd, Nat.reduceSub, Nat.reduceMul, Int.reduceToNat, List.append_nil, List.nil_append, List.cons_append, eqT, idxT, cat, cpy, ite_int, ite_bool, ite_seg, ite_segs, ite_nil, ite_twice, Int.toNat_natCast, app, addBs, tob])) | ((first | (refine call_t _ (con54_at (b.f j) b.n j b.f (Nat.le_of_lt hj) (by omega) _ _ _ rfl (Nat.le_of_ble_eq_true rfl) (by simp [roL, keysLt])) ?_; rintro v H' ⟨rfl, rfl⟩) | (refine call_q _ (con54_at (b.f j) b.n j b.f (Nat.le_of_lt hj) (by omega) _ _ _ rfl (Nat.le_of_ble_eq_true rfl) (by simp [roL, keysLt])) ?_) | (refine call_g _ (imp_of (con54_at (b.f j) b.n j b.f (Nat.le_of_lt hj) (by omega) _ _ _ rfl (Nat.le_of_ble_eq_true rfl) (by simp [roL, keysLt]))) ?_)) <;> (try simp (maxSteps := 10000000) only [opL, kindV, kindL, boxW, intsW, slB, blkB, blkL, rwp_nil, rwpK_app, aop, gpath, St.get, slotAt, sfx, eqP, segsOf, St.put, addBlk, getB, setB, delB, ld1, ldn, st1, stn, setRow, rowNeed, segAt, nsub, bin, un, eqB, isShift, sameK, arith, shiftR, getsl, selB_or, selB_and, beqb, shed, addN, Nat.beq, Seg.size, sizes, imp, needP, andN, appL, argsOf, ptrsOf, aasOf, cut, takeS, dropS, putS, partsOf, fillS, fieldOf, nthA, negIf, nilq, nilB, eqS, eqF, eqS1, andP, kin, slcS, strOk, plusA, bndHi, leN, optG, roH, roL, initT, exOk, exAll, wrAddr, Nat.reduceAdd, Nat.reduceSub, Nat.reduceMul, Int.reduceToNat, List.append_nil, List.nil_append, List.cons_append, eqT, idxT, cat, cpy, ite_int, ite_bool, ite_seg, ite_segs, ite_nil, ite_twice, Int.toNat_natCast, app, addBs, tob])))); all_goals ((try simp only [rwp_nil, shed]); (with_reducible refine hK _ (rgtS2 b j (rgtC b j)) ?hle ?_); (case hle => exact (LeS.intro [0, 1] (fun i h => idt1' i h) (by simp only [diff, notIn, Nat.beq, and_self]) rfl (by simp only [rgtS2, rgtC, rgtSt, slotsLe, slotAt, Nat.beq, leV, leV1, leC, leA, nthO, and_self]) ⟨blk_le b rfl, ops_le b.n b.f false, trivial⟩)); clear hK K))
    exact h
theorem con37 (b : BlkS) : Con Try.prog 37 [.agg (blkL b 0)] ⟨1, [(0, opsB b.n b.f)]⟩ (fun v H' => v = .c (.bool (rightS b)) ∧ H' = ⟨1, [(0, opsB b.n b.f)]⟩) := by
  (refine con_of_run mixed (fn := Try.f37) (by kernel_rfl) (by kernel_rfl) C37_ok (rs := [.tmp 2]) (by kernel_rfl) (Nat.le_of_ble_eq_true (by kernel_rfl)) ?_; unfold C37; simp only [initT, Nat.reduceAdd])
  repeat' (first
    | refine run_seq ?_
    | refine run_skip ?_
    | (refine run_region fun K hK => ?_; (try (simp (maxSteps := 10000000) only [opL, blkL, blkB, opsB, C37r0, C37r1, C37r2, C37r3, C37r4, C37r5, C37r7, C37r11, C37r12, C37r13, rwp_nil, rwp_cons, rwpK_app, aop, gpath, St.get, slotAt, sfx, eqP, segsOf, St.put, addBlk, getB, setB, delB, ld1, ldn, st1, stn, setRow, rowNeed, segAt, nsub, bin, un, eqB, isShift, sameK, arith, shiftR, getsl, selB_or, selB_and, beqb, shed, addN, Nat.beq, Seg.size, sizes, imp, needP, andN, appL, argsOf, ptrsOf, aasOf, cut, takeS, dropS, putS, partsOf, fillS, fieldOf, nthA, negIf, nilq, nilB, eqS, eqF, eqS1, andP, kin, slcS, strOk, plusA, bndHi, leN, optG, roH, roL, initT, exOk, exAll, wrAddr, Nat.reduceAdd, Nat.reduceSub, Nat.reduceMul, Int.reduceToNat, List.append_nil, List.nil_append, List.cons_append, eqT, idxT, cat, cpy, ite_int, ite_bool, ite_seg, ite_segs, ite_nil, ite_twice, Int.toNat_natCast, app, addBs, tob])); (repeat (first | (refine And.intro ?_ ?_; · (first | trivial | assumption | (intros; simp only [Bool.or_eq_false_iff, decide_eq_false_iff_not, decide_eq_true_eq] at *; omega))))); with_reducible refine hK _ ?_; clear hK K)
    | (refine run_cond rfl (fun hc => ?_) (fun hc => ?_) <;> try (simp only [*, Bool.true_eq_false, Bool.false_eq_true, Bool.not_true, Bool.not_false, Bool.true_or, Bool.or_true, Bool.false_or, Bool.or_false, Bool.false_and, Bool.and_false, bne_self_eq_false, beq_self_eq_true] at hc; done))
    | refine run_block ?_
    | refine run_ret ?_
    | refine run_nil ?_
    | refine run_exit ?_
    | refine blk_normal ?_
    | refine blk_ret ?_
    | refine blk_here ?_
    | refine blk_there rfl ?_
    | refine loop_exit ?_
    | refine loop_ret ?_
    | refine un_exit ?_
    | refine un_ret ?_
    | refine unE_exit ?_
    | refine unE_ret ?_
    | refine un_normal ?_)
  · have e : rightS b = false := by unfold rightS; rw [show head1 b = true from hc]; rfl
    rw [e]
    exact end_ops false rfl rfl ⟨rfl, rfl⟩
  · have e : rightS b = false := by unfold rightS; rw [show head2 b = true from hc, Bool.not_true, Bool.and_false]; rfl
    rw [e]
    exact end_ops false rfl rfl ⟨rfl, rfl⟩
  rename_i hc1
  have hc2 := hc
  have h1 : head1 b = false := hc1
  have h2 : head2 b = false := hc2
  have hn : 1 ≤ b.n ∧ b.n ≤ 512 := by
    unfold head1 at h1
    simp only [Bool.or_eq_false_iff, decide_eq_false_iff_not] at h1
    omega
  clear hc1 hc2 hc
  (refine run_regionL fun K hK => ?_; (try (simp (maxSteps := 10000000) only [opL, blkL, blkB, opsB, C37r0, C37r1, C37r2, C37r3, C37r4, C37r5, C37r6, C37r7, C37r8, C37r9, C37r10, C37r11, C37r12, C37r13, rwp_nil, rwp_cons, rwpK_app, aop, gpath, St.get, slotAt, sfx, eqP, segsOf, St.put, addBlk, getB, setB, delB, ld1, ldn, st1, stn, setRow, rowNeed, segAt, nsub, bin, un, eqB, isShift, sameK, arith, shiftR, getsl, selB_or, selB_and, beqb, shed, addN, Nat.beq, Seg.size, sizes, imp, needP, andN, appL, argsOf, ptrsOf, aasOf, cut, takeS, dropS, putS, partsOf, fillS, fieldOf, nthA, negIf, nilq, nilB, eqS, eqF, eqS1, andP, kin, slcS, strOk, plusA, bndHi, leN, optG, roH, roL, initT, exOk, exAll, wrAddr, Nat.reduceAdd, Nat.reduceSub, Nat.reduceMul, Int.reduceToNat, List.append_nil, List.nil_append, List.cons_append, eqT, idxT, cat, cpy, ite_int, ite_bool, ite_seg, ite_segs, ite_nil, ite_twice, Int.toNat_natCast, app, addBs, tob])); (repeat (first | (refine And.intro ?_ ?_; · first | trivial | assumption | omega))); refine hK _ (rgtSt b 0) (LeS.intro [0, 1] (fun i h => idt1' i h) (by simp only [diff, notIn, Nat.beq, and_self]) rfl (by simp only [rgtSt, slotsLe, slotAt, Nat.beq, leV, leV1, leC, leA, nthO, Int.natCast_zero, Int.ofNat_zero, and_self]) ⟨blk_le b rfl, ops_le b.n b.f false, trivial⟩) ?_; clear hK K)
  refine run_block ?_
  refine run_loop (fun n s => ∃ j, n = b.n - j ∧ j ≤ b.n ∧ opsOk b j = true ∧ s = rgtSt b j) b.n ⟨0, rfl, Nat.zero_le _, rfl, rfl⟩ ?_
  rintro n s ⟨j, rfl, hj, hok, rfl⟩
  refine run_seq ?_
  unfold rgtSt
  (refine run_regionL fun K hK => ?_; (try (simp (maxSteps := 10000000) only [opL, C37r0, C37r1, C37r2, C37r3, C37r4, C37r5, C37r6, C37r7, C37r8, C37r9, C37r10, C37r11, C37r12, C37r13, rwp_nil, rwp_cons, rwpK_app, aop, gpath, St.get, slotAt, sfx, eqP, segsOf, St.put, addBlk, getB, setB, delB, ld1, ldn, st1, stn, setRow, rowNeed, segAt, nsub, bin, un, eqB, isShift, sameK, arith, shiftR, getsl, selB_or, selB_and, beqb, shed, addN, Nat.beq, Seg.size, sizes, imp, needP, andN, appL, argsOf, ptrsOf, aasOf, cut, takeS, dropS, putS, partsOf, fillS, fieldOf, nthA, negIf, nilq, nilB, eqS, eqF, eqS1, andP, kin, slcS, strOk, plusA, bndHi, leN, optG, roH, roL, initT, exOk, exAll, wrAddr, Nat.reduceAdd, Nat.reduceSub, Nat.reduceMul, Int.reduceToNat, List.append_nil, List.nil_append, List.cons_append, eqT, idxT, cat, cpy, ite_int, ite_bool, ite_seg, ite_segs, ite_nil, ite_twice, Int.toNat_natCast, app, addBs, tob])); (repeat (first | (refine And.intro ?_ ?_; · first | trivial | assumption | omega))); refine hK _ (⟨⟨63, [], .c (.bool (decide ((j : Int) < (b.n : Int))))⟩ :: (rgtSt b j).tmps, (rgtSt b j).heap⟩) (LeS.intro [0, 1] (fun i h => idt1' i h) (by simp only [diff, notIn, Nat.beq, and_self]) rfl (by simp only [rgtSt, slotsLe, slotAt, Nat.beq, leV, leV1, leC, leA, nthO, and_self]) ⟨blk_le b rfl, ops_le b.n b.f false, trivial⟩) ?_; clear hK K)
  refine run_seq (run_cond rfl (fun hc => ?_) (fun hc => ?_))
  · have hlt : j < b.n := by simp only [decide_eq_true_eq] at hc; omega
    have hw1 : IntKind.i64.wrap ((b.n : Int) - 1) = (b.n : Int) - 1 := by rw [IntKind.wrap_i64]; omega
    have hw : IntKind.i64.wrap ((j : Int) + 1) = ((j + 1 : Nat) : Int) := by rw [IntKind.wrap_i64]; omega
    refine run_skip (run_seq (run_block ?_))
    refine rgt_mid _ b j hlt hn.2 (run_cond rfl (fun hc' => ?_) (fun hc' => ?_))
    · unfold rgtS2 rgtSt
      repeat' (first
    | refine run_seq ?_
    | refine run_skip ?_
    | (refine run_region fun K hK => ?_; (try (simp (maxSteps := 10000000) only [opL, rgtSt, C37r0, C37r1, C37r2, C37r3, C37r4, C37r5, C37r6, C37r7, C37r11, C37r13, rwp_nil, rwp_cons, rwpK_app, aop, gpath, St.get, slotAt, sfx, eqP, segsOf, St.put, addBlk, getB, setB, delB, ld1, ldn, st1, stn, setRow, rowNeed, segAt, nsub, bin, un, eqB, isShift, sameK, arith, shiftR, getsl, selB_or, selB_and, beqb, shed, addN, Nat.beq, Seg.size, sizes, imp, needP, andN, appL, argsOf, ptrsOf, aasOf, cut, takeS, dropS, putS, partsOf, fillS, fieldOf, nthA, negIf, nilq, nilB, eqS, eqF, eqS1, andP, kin, slcS, strOk, plusA, bndHi, leN, optG, roH, roL, initT, exOk, exAll, wrAddr, Nat.reduceAdd, Nat.reduceSub, Nat.reduceMul, Int.reduceToNat, List.append_nil, List.nil_append, List.cons_append, eqT, idxT, cat, cpy, ite_int, ite_bool, ite_seg, ite_segs, ite_nil, ite_twice, Int.toNat_natCast, app, addBs, tob])); (repeat (first | (refine And.intro ?_ ?_; · ))); with_reducible refine hK _ ?_; clear hK K)
    | (refine run_cond rfl (fun hc => ?_) (fun hc => ?_) <;> try (simp only [*, Bool.true_eq_false, Bool.false_eq_true, Bool.not_true, Bool.not_false, Bool.true_or, Bool.or_true, Bool.false_or, Bool.or_false, Bool.false_and, Bool.and_false, bne_self_eq_false, beq_self_eq_true] at hc; done))
    | refine run_block ?_
    | refine run_ret ?_
    | refine run_nil ?_
    | refine run_exit ?_
    | refine blk_normal ?_
    | refine blk_ret ?_
    | refine blk_here ?_
    | refine blk_there rfl ?_
    | refine loop_exit ?_
    | refine loop_ret ?_
    | refine un_exit ?_
    | refine un_ret ?_
    | refine unE_exit ?_
    | refine unE_ret ?_
    | refine un_normal ?_)
      have e : rightS b = false := by
        unfold rightS
        rw [opsOk_no hlt, Bool.and_false]
        unfold rgtC at hc'
        rw [hw1] at hc'
        rw [show ((j : Int) == (b.n : Int) - 1) = decide ((j : Int) = (b.n : Int) - 1) from rfl] at hc'
        rw [← Bool.not_and, Bool.not_eq_true'] at hc'
        exact hc'
      rw [e]
      exact end_ops false rfl rfl ⟨rfl, rfl⟩
    · unfold rgtS2 rgtSt
      repeat' (first
    | refine run_seq ?_
    | refine run_skip ?_
    | (refine run_region fun K hK => ?_; (try (simp (maxSteps := 10000000) only [opL, rgtSt, hw, C37r0, C37r1, C37r2, C37r3, C37r4, C37r5, C37r6, C37r7, C37r11, C37r12, C37r13, rwp_nil, rwp_cons, rwpK_app, aop, gpath, St.get, slotAt, sfx, eqP, segsOf, St.put, addBlk, getB, setB, delB, ld1, ldn, st1, stn, setRow, rowNeed, segAt, nsub, bin, un, eqB, isShift, sameK, arith, shiftR, getsl, selB_or, selB_and, beqb, shed, addN, Nat.beq, Seg.size, sizes, imp, needP, andN, appL, argsOf, ptrsOf, aasOf, cut, takeS, dropS, putS, partsOf, fillS, fieldOf, nthA, negIf, nilq, nilB, eqS, eqF, eqS1, andP, kin, slcS, strOk, plusA, bndHi, leN, optG, roH, roL, initT, exOk, exAll, wrAddr, Nat.reduceAdd, Nat.reduceSub, Nat.reduceMul, Int.reduceToNat, List.append_nil, List.nil_append, List.cons_append, eqT, idxT, cat, cpy, ite_int, ite_bool, ite_seg, ite_segs, ite_nil, ite_twice, Int.toNat_natCast, app, addBs, tob])); (repeat (first | (refine And.intro ?_ ?_; · ))); with_reducible refine hK _ ?_; clear hK K)
    | (refine run_cond rfl (fun hc => ?_) (fun hc => ?_) <;> try (simp only [*, Bool.true_eq_false, Bool.false_eq_true, Bool.not_true, Bool.not_false, Bool.true_or, Bool.or_true, Bool.false_or, Bool.or_false, Bool.false_and, Bool.and_false, bne_self_eq_false, beq_self_eq_true] at hc; done))
    | refine run_block ?_
    | refine run_ret ?_
    | refine run_nil ?_
    | refine run_exit ?_
    | refine blk_normal ?_
    | refine blk_ret ?_
    | refine blk_here ?_
    | refine blk_there rfl ?_
    | refine loop_exit ?_
    | refine loop_ret ?_
    | refine un_exit ?_
    | refine un_ret ?_
    | refine unE_exit ?_
    | refine unE_ret ?_
    | refine un_normal ?_)
      refine loop_normal (b.n - (j + 1)) (rgtSt b (j + 1)) (by omega) (LeS.intro [0, 1] (fun i h => idt1' i h) (by simp only [diff, notIn, Nat.beq, and_self]) rfl (by simp only [rgtSt, slotsLe, slotAt, Nat.beq, leV, leV1, leC, leA, nthO, and_self]) ⟨blk_le b rfl, ops_le b.n b.f false, trivial⟩) ⟨j + 1, rfl, hlt, ?_, rfl⟩
      unfold rgtC at hc'
      rw [hw1] at hc'
      rw [show ((j : Int) == (b.n : Int) - 1) = decide ((j : Int) = (b.n : Int) - 1) from rfl] at hc'
      rw [← Bool.not_and, Bool.not_eq_false'] at hc'
      unfold opsOk
      rw [hok, hc']
      rfl
  · have e : j = b.n := by simp only [decide_eq_false_iff_not] at hc; omega
    have e2 : rightS b = true := by unfold rightS; rw [h1, h2, ← e, hok]; rfl
    unfold rgtSt
    repeat' (first
    | refine run_seq ?_
    | refine run_skip ?_
    | (refine run_region fun K hK => ?_; (try (simp (maxSteps := 10000000) only [opL, C37r0, C37r1, C37r2, C37r3, C37r4, C37r5, C37r6, C37r7, C37r11, C37r13, rwp_nil, rwp_cons, rwpK_app, aop, gpath, St.get, slotAt, sfx, eqP, segsOf, St.put, addBlk, getB, setB, delB, ld1, ldn, st1, stn, setRow, rowNeed, segAt, nsub, bin, un, eqB, isShift, sameK, arith, shiftR, getsl, selB_or, selB_and, beqb, shed, addN, Nat.beq, Seg.size, sizes, imp, needP, andN, appL, argsOf, ptrsOf, aasOf, cut, takeS, dropS, putS, partsOf, fillS, fieldOf, nthA, negIf, nilq, nilB, eqS, eqF, eqS1, andP, kin, slcS, strOk, plusA, bndHi, leN, optG, roH, roL, initT, exOk, exAll, wrAddr, Nat.reduceAdd, Nat.reduceSub, Nat.reduceMul, Int.reduceToNat, List.append_nil, List.nil_append, List.cons_append, eqT, idxT, cat, cpy, ite_int, ite_bool, ite_seg, ite_segs, ite_nil, ite_twice, Int.toNat_natCast, app, addBs, tob])); (repeat (first | (refine And.intro ?_ ?_; · ))); with_reducible refine hK _ ?_; clear hK K)
    | (refine run_cond rfl (fun hc => ?_) (fun hc => ?_) <;> try (simp only [*, Bool.true_eq_false, Bool.false_eq_true, Bool.not_true, Bool.not_false, Bool.true_or, Bool.or_true, Bool.false_or, Bool.or_false, Bool.false_and, Bool.and_false, bne_self_eq_false, beq_self_eq_true] at hc; done))
    | refine run_block ?_
    | refine run_ret ?_
    | refine run_nil ?_
    | refine run_exit ?_
    | refine blk_normal ?_
    | refine blk_ret ?_
    | refine blk_here ?_
    | refine blk_there rfl ?_
    | refine loop_exit ?_
    | refine loop_ret ?_
    | refine un_exit ?_
    | refine un_ret ?_
    | refine unE_exit ?_
    | refine unE_ret ?_
    | refine un_normal ?_)
    rw [e2]
    exact end_ops true rfl rfl ⟨rfl, rfl⟩
end Go.Proofs.Ytmbnakinhnkabaa
