/- law19: what its examples need. -/
import Derived.Test.YtmbnakinhnkabaaDo
namespace Go.Proofs.Ytmbnakinhnkabaa
open Go.AM
set_option maxRecDepth 100000
set_option linter.unusedSimpArgs false
set_option linter.unusedVariables false
def retSeenAt (b : BlkS) (n : Nat) : AV := if rightS b = true then .tup [.c (.slice ⟨n, 0, 0, 0⟩ false b.n), .c (.int .i64 0)] else .tup [.c .nils, .c (.int .i64 4)]
def newSeen (b : BlkS) : List Blk := if rightS b = true then [boolsB b.n (seenS b) true] else []
def newBlk (b : BlkS) : List Blk := if rightS b = true then [opsW (blockS b).n (blockS b).f] else []
theorem dropB_ro (i N n : Nat) (f : Nat → OpS) (X : List (Nat × Blk)) : dropB [i] [(0, opsB N f)] X = X := dropB_none (fun _ => rfl) X
theorem con12_at (b : BlkS) (i n : Nat) (X : List (Nat × Blk)) (w : Bool) (h0 : getB X i = some ⟨6, some b.n, fun i => opL (b.f i), 39, w⟩) (hlt : i < n) (hkl : keysLt X n) : Con Try.prog 12 [.agg (blkL b i)] ⟨n, X⟩ (fun v H' => v = retSeenAt b n ∧ H' = addBs ⟨n, X⟩ (newSeen b)) := by
  refine ((con12 b).frame (H := ⟨n, X⟩) [i] rfl ⟨trivial, trivial⟩ ⟨hlt, trivial⟩ hkl (by simp only [leBlks, nthO, h0]; exact ⟨ops_le b.n b.f w, trivial⟩) (by simp only [leArgs, leV, leV1, blkL, leSegs, leSeg, leC, leA, nthO, and_self])).weaken ?_
  rintro v H' ⟨v0, H0', ⟨rfl, rfl⟩, rfl, rfl⟩
  by_cases hr : rightS b = true
  · simp only [retSeen, heapSeen, retSeenAt, newSeen, hr, if_true, framed, dropB_ro i b.n 0]
    exact ⟨rfl, rfl⟩
  · simp only [retSeen, heapSeen, retSeenAt, newSeen, hr, if_false, framed, dropB_ro i b.n 0]
    exact ⟨rfl, rfl⟩
theorem con13_at (b : BlkS) (i n : Nat) (X : List (Nat × Blk)) (w : Bool) (h0 : getB X i = some ⟨6, some b.n, fun i => opL (b.f i), 39, w⟩) (hlt : i < n) (hkl : keysLt X n) : Con Try.prog 13 [.agg (blkL b i)] ⟨n, X⟩ (fun v H' => v = retBlk b n ∧ H' = addBs ⟨n, X⟩ (newBlk b)) := by
  refine ((con13 b).frame (H := ⟨n, X⟩) [i] rfl ⟨trivial, trivial⟩ ⟨hlt, trivial⟩ hkl (by simp only [leBlks, nthO, h0]; exact ⟨ops_le b.n b.f w, trivial⟩) (by simp only [leArgs, leV, leV1, blkL, leSegs, leSeg, leC, leA, nthO, and_self])).weaken ?_
  rintro v H' ⟨v0, H0', ⟨rfl, rfl⟩, rfl, rfl⟩
  by_cases hr : rightS b = true
  · simp only [retBlk, heapBlk, newBlk, hr, if_true, framed, dropB_ro i b.n 0]
    exact ⟨rfl, rfl⟩
  · simp only [retBlk, heapBlk, newBlk, hr, if_false, framed, dropB_ro i b.n 0]
    exact ⟨rfl, rfl⟩
/-! ### A block without anything -/
def zL : List Seg := [.c (.int .u64 0), .c (.int .i64 0), .c (.int .i64 0), .c (.nils)]
theorem con37_nil (H : Heap) : Con Try.prog 37 [.agg zL] H (fun v H' => v = .c (.bool false) ∧ H' = H) := by
  refine Con.pure ?_ (by simp only [leArgs, leV, leV1, zL, leSegs, leSeg, leC, and_self]) rfl H
  (refine con_of_run mixed (fn := Try.f37) (by kernel_rfl) (by kernel_rfl) C37_ok (rs := [.tmp 2]) (by kernel_rfl) (Nat.le_of_ble_eq_true (by kernel_rfl)) ?_; unfold C37; simp only [initT, Nat.reduceAdd])
  repeat' (first
    | refine run_seq ?_
    | refine run_skip ?_
    | (refine run_region fun K hK => ?_; (try (simp (maxSteps := 10000000) only [zL, C37r0, C37r1, C37r2, C37r3, C37r5, C37r7, C37r11, C37r12, C37r13, rwp_nil, rwp_cons, rwpK_app, aop, gpath, St.get, slotAt, sfx, eqP, segsOf, St.put, addBlk, getB, setB, delB, ld1, ldn, st1, stn, setRow, rowNeed, segAt, nsub, bin, un, eqB, isShift, sameK, arith, shiftR, getsl, selB_or, selB_and, beqb, shed, addN, Nat.beq, Seg.size, sizes, imp, needP, andN, appL, argsOf, ptrsOf, aasOf, cut, takeS, dropS, putS, partsOf, fillS, fieldOf, nthA, negIf, nilq, nilB, eqS, eqF, eqS1, andP, kin, slcS, strOk, plusA, bndHi, leN, optG, roH, roL, initT, exOk, exAll, wrAddr, Nat.reduceAdd, Nat.reduceSub, Nat.reduceMul, Int.reduceToNat, List.append_nil, List.nil_append, List.cons_append, eqT, idxT, cat, cpy, ite_int, ite_bool, ite_seg, ite_segs, ite_nil, ite_twice, Int.toNat_natCast, app, addBs, tob])); (repeat (first | (refine And.intro ?_ ?_; · (first | trivial | assumption | omega)))); with_reducible refine hK _ ?_; clear hK K)
    | (refine run_cond rfl (fun hc => ?_) (fun hc => ?_) <;> try (simp only [*, Bool.true_eq_false, Bool.false_eq_true, Bool.not_true, Bool.not_false, Bool.true_or, Bool.or_true, Bool.false_or, Bool.or_false, Bool.false_and, Bool.and_false, bne_self_eq_false, beq_self_eq_true] at hc; done))
    | refine run_block ?_
    | refine run_ret ?_
    | refine run_nil ?_
    | refine run_exit ?_
    | refine blk_normal ?_
    | refine blk_ret ?_
    | refine blk_here ?_
    | refine blk_there rfl ?_
    | refine loop_exit ?_
    | refine loop_ret ?_
    | refine un_exit ?_
    | refine un_ret ?_
    | refine unE_exit ?_
    | refine unE_ret ?_
    | refine un_normal ?_)
  · exact end_tmp1 rfl rfl rfl ⟨rfl, rfl⟩
  · simp at hc
theorem con12_nil (H : Heap) : Con Try.prog 12 [.agg zL] H (fun v H' => v = .tup [.c .nils, .c (.int .i64 4)] ∧ H' = H) := by
  refine Con.pure ?_ (by simp only [leArgs, leV, leV1, zL, leSegs, leSeg, leC, and_self]) rfl H
  (refine con_of_run mixed (fn := Try.f12) (by kernel_rfl) (by kernel_rfl) C12_ok (rs := [.tmp 2, .tmp 3]) (by kernel_rfl) (Nat.le_of_ble_eq_true (by kernel_rfl)) ?_; unfold C12; simp only [initT, Nat.reduceAdd])
  repeat' (first
    | refine run_seq ?_
    | refine run_skip ?_
    | (refine run_region fun K hK => ?_; (try (simp (maxSteps := 10000000) only [zL, C12r0, C12r1, C12r2, C12r5, rwp_nil, rwp_cons, rwpK_app, aop, gpath, St.get, slotAt, sfx, eqP, segsOf, St.put, addBlk, getB, setB, delB, ld1, ldn, st1, stn, setRow, rowNeed, segAt, nsub, bin, un, eqB, isShift, sameK, arith, shiftR, getsl, selB_or, selB_and, beqb, shed, addN, Nat.beq, Seg.size, sizes, imp, needP, andN, appL, argsOf, ptrsOf, aasOf, cut, takeS, dropS, putS, partsOf, fillS, fieldOf, nthA, negIf, nilq, nilB, eqS, eqF, eqS1, andP, kin, slcS, strOk, plusA, bndHi, leN, optG, roH, roL, initT, exOk, exAll, wrAddr, Nat.reduceAdd, Nat.reduceSub, Nat.reduceMul, Int.reduceToNat, List.append_nil, List.nil_append, List.cons_append, eqT, idxT, cat, cpy, ite_int, ite_bool, ite_seg, ite_segs, ite_nil, ite_twice, Int.toNat_natCast, app, addBs, tob])); (repeat (first | (refine And.intro ?_ ?_; · (first | trivial | assumption | omega)) | ((first | (refine call_t _ (con37_nil _) ?_; rintro v H' ⟨rfl, rfl⟩) | refine call_q _ (con37_nil _) ?_ | refine call_g _ (imp_of (con37_nil _)) ?_); simp (maxSteps := 10000000) only [zL, C12r0, C12r1, C12r2, C12r5, rwp_nil, rwp_cons, rwpK_app, aop, gpath, St.get, slotAt, sfx, eqP, segsOf, St.put, addBlk, getB, setB, delB, ld1, ldn, st1, stn, setRow, rowNeed, segAt, nsub, bin, un, eqB, isShift, sameK, arith, shiftR, getsl, selB_or, selB_and, beqb, shed, addN, Nat.beq, Seg.size, sizes, imp, needP, andN, appL, argsOf, ptrsOf, aasOf, cut, takeS, dropS, putS, partsOf, fillS, fieldOf, nthA, negIf, nilq, nilB, eqS, eqF, eqS1, andP, kin, slcS, strOk, plusA, bndHi, leN, optG, roH, roL, initT, exOk, exAll, wrAddr, Nat.reduceAdd, Nat.reduceSub, Nat.reduceMul, Int.reduceToNat, List.append_nil, List.nil_append, List.cons_append, eqT, idxT, cat, cpy, ite_int, ite_bool, ite_seg, ite_segs, ite_nil, ite_twice, Int.toNat_natCast, app, addBs, tob]))); with_reducible refine hK _ ?_; clear hK K)
    | (refine run_cond rfl (fun hc => ?_) (fun hc => ?_) <;> try (simp only [*, Bool.true_eq_false, Bool.false_eq_true, Bool.not_true, Bool.not_false, Bool.true_or, Bool.or_true, Bool.false_or, Bool.or_false, Bool.false_and, Bool.and_false, bne_self_eq_false, beq_self_eq_true] at hc; done))
    | refine run_ret ?_
    | refine run_nil ?_)
  exact end_tmp2 rfl rfl rfl (by simp only [leV, leV1, leC]) (by simp only [leV, leV1, leC, and_self]) rfl rfl ⟨rfl, rfl⟩
/-! ### twice -/
def twF : Nat → OpS
  | 0 => ⟨14, 0, 0, 0, 0, 64⟩
  | 1 => ⟨1, 0, 0, 0, 0, 1⟩
  | 2 => ⟨3, 0, 1, 0, 0, 0⟩
  | 3 => ⟨1, 0, 0, 0, 0, 2⟩
  | 4 => ⟨3, 0, 3, 0, 0, 0⟩
  | _ => ⟨16, 0, 0, 0, 0, 68⟩
def tw : BlkS := ⟨64, 1, 1, 6, twF⟩
theorem con32 (n : Nat) (X : List (Nat × Blk)) (hkl : keysLt X n) : Con Try.prog 32 [] ⟨n, X⟩ (fun v H' => v = .agg (blkL tw n) ∧ H' = addBs ⟨n, X⟩ [opsW 6 twF]) := by
  have h0 : Con Try.prog 32 [] ⟨0, []⟩ (fun v H' => v = .agg (blkL tw 0) ∧ H' = ⟨2, [(1, blkB tw 0), (0, opsW 6 twF)]⟩) := by
    (refine con_of_run mixed (fn := Try.f32) (by kernel_rfl) (by kernel_rfl) C32_ok (rs := [.cn 4 0]) (by kernel_rfl) (Nat.le_of_ble_eq_true (by kernel_rfl)) ?_; unfold C32; simp only [initT, Nat.reduceAdd])
    repeat' (first
    | refine run_seq ?_
    | (refine run_region fun K hK => ?_; (try (simp (maxSteps := 10000000) only [repl, rowsFit, partsOf, fillS, rowFn, cutD, C32r0, C32r1, rwp_nil, rwp_cons, rwpK_app, aop, gpath, St.get, slotAt, sfx, eqP, segsOf, St.put, addBlk, getB, setB, delB, ld1, ldn, st1, stn, setRow, rowNeed, segAt, nsub, bin, un, eqB, isShift, sameK, arith, shiftR, getsl, selB_or, selB_and, beqb, shed, addN, Nat.beq, Seg.size, sizes, imp, needP, andN, appL, argsOf, ptrsOf, aasOf, cut, takeS, dropS, putS, partsOf, fillS, fieldOf, nthA, negIf, nilq, nilB, eqS, eqF, eqS1, andP, kin, slcS, strOk, plusA, bndHi, leN, optG, roH, roL, initT, exOk, exAll, wrAddr, Nat.reduceAdd, Nat.reduceSub, Nat.reduceMul, Int.reduceToNat, List.append_nil, List.nil_append, List.cons_append, eqT, idxT, cat, cpy, ite_int, ite_bool, ite_seg, ite_segs, ite_nil, ite_twice, Int.toNat_natCast, app, addBs, tob])); (repeat (first | (refine And.intro ?_ ?_; · first | trivial | assumption | omega))); with_reducible refine hK _ ?_; clear hK K)
    | refine run_ret ?_
    | refine run_nil ?_)
    refine end_of ⟨[⟨0, [], .c (.ptr ⟨1, 0, 0, 0⟩)⟩], ⟨2, [(1, blkB tw 0), (0, opsW 6 twF)]⟩⟩ (LeS.intro [1, 0] (fun i h => absurd h (Nat.not_lt_zero i)) (by simp only [diff, notIn, Nat.beq, and_self]) rfl (by simp only [slotsLe, slotAt, Nat.beq, leV, leV1, leC, leA, nthO, and_self]) ⟨blk_le' tw 1 0 rfl, ⟨rfl, rfl, id, Nat.le_refl _, fun i hi => ?_⟩, trivial⟩) ?_
    · match i, hi with
      | 0, _ => simp only [cutD, cut, dropS, takeS, Seg.size, nsub, opsW, opL, twF, Nat.reduceMul, Nat.zero_mul, Nat.one_mul, leSegs, leSeg, leC, and_self]
      | 1, _ => simp only [cutD, cut, dropS, takeS, Seg.size, nsub, opsW, opL, twF, Nat.reduceMul, Nat.zero_mul, Nat.one_mul, leSegs, leSeg, leC, and_self]
      | 2, _ => simp only [cutD, cut, dropS, takeS, Seg.size, nsub, opsW, opL, twF, Nat.reduceMul, Nat.zero_mul, Nat.one_mul, leSegs, leSeg, leC, and_self]
      | 3, _ => simp only [cutD, cut, dropS, takeS, Seg.size, nsub, opsW, opL, twF, Nat.reduceMul, Nat.zero_mul, Nat.one_mul, leSegs, leSeg, leC, and_self]
      | 4, _ => simp only [cutD, cut, dropS, takeS, Seg.size, nsub, opsW, opL, twF, Nat.reduceMul, Nat.zero_mul, Nat.one_mul, leSegs, leSeg, leC, and_self]
      | 5, _ => simp only [cutD, cut, dropS, takeS, Seg.size, nsub, opsW, opL, twF, Nat.reduceMul, Nat.zero_mul, Nat.one_mul, leSegs, leSeg, leC, and_self]
    · simp only [endF, resL, resA, St.get, slotAt, Nat.beq, sfx, eqP, ldn, getB, blkB, blkL, rowNeed, cut, dropS, takeS, Seg.size, nsub, noTup, resV]
      refine ⟨?_, ?_⟩ <;> first | rfl | trivial
  have h1 : Con Try.prog 32 [] ⟨0, []⟩ (fun v H' => v = .agg (blkL tw 0) ∧ H' = ⟨1, [(0, opsW 6 twF)]⟩) := by
    refine Con.forget h0 ?_
    rintro v H' ⟨rfl, rfl⟩
    exact ⟨_, ⟨1, [(0, opsW 6 twF)]⟩, [0], fun i h => absurd h (Nat.not_lt_zero i), ⟨trivial, trivial⟩, rfl, ⟨opsw_le 6 twF twF (fun _ _ => rfl), trivial⟩, by simp only [blkL, leV, leV1, leSegs, leSeg, leC, leA, nthO, and_self], rfl, rfl⟩
  refine (h1.frame (args := []) (H := ⟨n, X⟩) [] rfl trivial trivial hkl trivial trivial).weaken ?_
  rintro v H' ⟨v0, H0', ⟨rfl, rfl⟩, rfl, rfl⟩
  refine ⟨rfl, ?_⟩
  simp only [framed, dropB_none (l := []) (H0 := []) (fun _ => rfl)]
  rfl
/-! ### same -/
def sameB (g h : Nat → Bool) : Nat → Nat → Bool
  | 0, _ => true
  | c + 1, j => if (g j != h j) = true then false else sameB g h c (j + 1)
def smSt (n m : Nat) (g h : Nat → Bool) (j : Nat) : St := ⟨[⟨5, [], .c (.int .i64 j)⟩, ⟨0, [], .c (.slice ⟨0, 0, 0, 0⟩ false n)⟩, ⟨1, [], .c (.slice ⟨1, 0, 0, 0⟩ false m)⟩], ⟨2, [(1, boolsB m h false), (0, boolsB n g false)]⟩⟩
theorem end_bb {l : List Slot} {H : Heap} {R : Post} {t n m : Nat} {g h : Nat → Bool} (b : Bool) (hsl : slotAt l t = some ⟨t, [], .c (.bool b)⟩) (hb0 : getB H.blks 0 = some (boolsB n g false)) (hb1 : getB H.blks 1 = some (boolsB m h false)) (hR : R (.c (.bool b)) ⟨2, [(1, boolsB m h false), (0, boolsB n g false)]⟩) : endQ (LeS 2) [.tmp t] R .ret ⟨l, H⟩ := by
  refine end_of ⟨[⟨t, [], .c (.bool b)⟩], ⟨2, [(1, boolsB m h false), (0, boolsB n g false)]⟩⟩ (LeS.intro [0, 1] (fun i h => idt2 i h) (by simp only [diff, notIn, Nat.beq, and_self]) rfl (by simp only [slotsLe, hsl, leV, leV1, leC, and_self]) ?_) ?_
  · simp only [leBlks, nthO, hb0, hb1]
    exact ⟨bools_le m h false, bools_le n g false, trivial⟩
  · simp only [endF, resL, resA, St.get, slotAt, Nat.beq_refl, sfx, eqP, noTup, resV]
    exact hR
theorem con15 (n m : Nat) (g h : Nat → Bool) (hn : n ≤ 140737488355328) : Con Try.prog 15 [.c (.slice ⟨0, 0, 0, 0⟩ false n), .c (.slice ⟨1, 0, 0, 0⟩ false m)] ⟨2, [(1, boolsB m h false), (0, boolsB n g false)]⟩ (fun v H' => v = .c (.bool (decide (n = m) && sameB g h n 0)) ∧ H' = ⟨2, [(1, boolsB m h false), (0, boolsB n g false)]⟩) := by
  (refine con_of_run mixed (fn := Try.f15) (by kernel_rfl) (by kernel_rfl) C15_ok (rs := [.tmp 4]) (by kernel_rfl) (Nat.le_of_ble_eq_true (by kernel_rfl)) ?_; unfold C15; simp only [initT, Nat.reduceAdd])
  repeat' (first
    | refine run_seq ?_
    | refine run_skip ?_
    | (refine run_region fun K hK => ?_; (try (simp (maxSteps := 10000000) only [boolsB, C15r0, C15r1, C15r2, C15r6, C15r7, C15r8, rwp_nil, rwp_cons, rwpK_app, aop, gpath, St.get, slotAt, sfx, eqP, segsOf, St.put, addBlk, getB, setB, delB, ld1, ldn, st1, stn, setRow, rowNeed, segAt, nsub, bin, un, eqB, isShift, sameK, arith, shiftR, getsl, selB_or, selB_and, beqb, shed, addN, Nat.beq, Seg.size, sizes, imp, needP, andN, appL, argsOf, ptrsOf, aasOf, cut, takeS, dropS, putS, partsOf, fillS, fieldOf, nthA, negIf, nilq, nilB, eqS, eqF, eqS1, andP, kin, slcS, strOk, plusA, bndHi, leN, optG, roH, roL, initT, exOk, exAll, wrAddr, Nat.reduceAdd, Nat.reduceSub, Nat.reduceMul, Int.reduceToNat, List.append_nil, List.nil_append, List.cons_append, eqT, idxT, cat, cpy, ite_int, ite_bool, ite_seg, ite_segs, ite_nil, ite_twice, Int.toNat_natCast, app, addBs, tob])); (repeat (first | (refine And.intro ?_ ?_; · (first | trivial | assumption | omega)))); with_reducible refine hK _ ?_; clear hK K)
    | (refine run_cond rfl (fun hc => ?_) (fun hc => ?_) <;> try (simp only [*, Bool.true_eq_false, Bool.false_eq_true, Bool.not_true, Bool.not_false, Bool.true_or, Bool.or_true, Bool.false_or, Bool.or_false, Bool.false_and, Bool.and_false, bne_self_eq_false, beq_self_eq_true] at hc; done))
    | refine run_block ?_
    | refine run_ret ?_
    | refine run_nil ?_
    | refine run_exit ?_
    | refine blk_normal ?_
    | refine blk_ret ?_
    | refine blk_here ?_
    | refine blk_there rfl ?_
    | refine loop_exit ?_
    | refine loop_ret ?_
    | refine un_exit ?_
    | refine un_ret ?_
    | refine unE_exit ?_
    | refine unE_ret ?_
    | refine un_normal ?_)
  · have e : decide (n = m) = false := by simp only [bne_iff_ne, ne_eq] at hc; exact decide_eq_false (by omega)
    rw [e]
    exact end_bb _ rfl rfl rfl ⟨rfl, rfl⟩
  have e : n = m := by simp only [bne_eq_false_iff_eq] at hc; omega
  subst e
  clear hc
  (refine run_regionL fun K hK => ?_; (try (simp (maxSteps := 10000000) only [boolsB, C15r0, C15r1, C15r2, C15r3, C15r4, C15r5, C15r6, C15r7, C15r8, rwp_nil, rwp_cons, rwpK_app, aop, gpath, St.get, slotAt, sfx, eqP, segsOf, St.put, addBlk, getB, setB, delB, ld1, ldn, st1, stn, setRow, rowNeed, segAt, nsub, bin, un, eqB, isShift, sameK, arith, shiftR, getsl, selB_or, selB_and, beqb, shed, addN, Nat.beq, Seg.size, sizes, imp, needP, andN, appL, argsOf, ptrsOf, aasOf, cut, takeS, dropS, putS, partsOf, fillS, fieldOf, nthA, negIf, nilq, nilB, eqS, eqF, eqS1, andP, kin, slcS, strOk, plusA, bndHi, leN, optG, roH, roL, initT, exOk, exAll, wrAddr, Nat.reduceAdd, Nat.reduceSub, Nat.reduceMul, Int.reduceToNat, List.append_nil, List.nil_append, List.cons_append, eqT, idxT, cat, cpy, ite_int, ite_bool, ite_seg, ite_segs, ite_nil, ite_twice, Int.toNat_natCast, app, addBs, tob])); (repeat (first | (refine And.intro ?_ ?_; · first | trivial | assumption | omega))); refine hK _ (smSt n n g h 0) (LeS.intro [0, 1] (fun i h => idt2 i h) (by simp only [diff, notIn, Nat.beq, and_self]) rfl (by simp only [smSt, slotsLe, slotAt, Nat.beq, leV, leV1, leC, leA, nthO, Int.natCast_zero, Int.ofNat_zero, and_self]) ⟨bools_le n h false, bools_le n g false, trivial⟩) ?_; clear hK K)
  refine run_block ?_
  refine run_loop (fun k s => ∃ j, k = n - j ∧ j ≤ n ∧ sameB g h n 0 = sameB g h (n - j) j ∧ s = smSt n n g h j) n ⟨0, rfl, Nat.zero_le _, rfl, rfl⟩ ?_
  rintro k s ⟨j, rfl, hj, he, rfl⟩
  unfold smSt
  repeat' (first
    | refine run_seq ?_
    | refine run_skip ?_
    | (refine run_region fun K hK => ?_; (try (simp (maxSteps := 10000000) only [boolsB, C15r0, C15r1, C15r2, C15r3, C15r4, C15r5, C15r6, C15r7, C15r8, rwp_nil, rwp_cons, rwpK_app, aop, gpath, St.get, slotAt, sfx, eqP, segsOf, St.put, addBlk, getB, setB, delB, ld1, ldn, st1, stn, setRow, rowNeed, segAt, nsub, bin, un, eqB, isShift, sameK, arith, shiftR, getsl, selB_or, selB_and, beqb, shed, addN, Nat.beq, Seg.size, sizes, imp, needP, andN, appL, argsOf, ptrsOf, aasOf, cut, takeS, dropS, putS, partsOf, fillS, fieldOf, nthA, negIf, nilq, nilB, eqS, eqF, eqS1, andP, kin, slcS, strOk, plusA, bndHi, leN, optG, roH, roL, initT, exOk, exAll, wrAddr, Nat.reduceAdd, Nat.reduceSub, Nat.reduceMul, Int.reduceToNat, List.append_nil, List.nil_append, List.cons_append, eqT, idxT, cat, cpy, ite_int, ite_bool, ite_seg, ite_segs, ite_nil, ite_twice, Int.toNat_natCast, app, addBs, tob])); (repeat (first | (refine And.intro ?_ ?_; · (first | trivial | assumption | (simp only [decide_eq_true_eq] at *; omega))))); with_reducible refine hK _ ?_; clear hK K)
    | (refine run_cond rfl (fun hc => ?_) (fun hc => ?_) <;> try (simp only [*, Bool.true_eq_false, Bool.false_eq_true, Bool.not_true, Bool.not_false, Bool.true_or, Bool.or_true, Bool.false_or, Bool.or_false, Bool.false_and, Bool.and_false, bne_self_eq_false, beq_self_eq_true] at hc; done))
    | refine run_block ?_
    | refine run_ret ?_
    | refine run_nil ?_
    | refine run_exit ?_
    | refine blk_normal ?_
    | refine blk_ret ?_
    | refine blk_here ?_
    | refine blk_there rfl ?_
    | refine loop_exit ?_
    | refine loop_ret ?_
    | refine un_exit ?_
    | refine un_ret ?_
    | refine unE_exit ?_
    | refine unE_ret ?_
    | refine un_normal ?_)
  · rename_i h0
    have hlt : j < n := by simp only [decide_eq_true_eq] at h0; omega
    have e : sameB g h n 0 = false := by
      rw [he, show n - j = (n - (j + 1)) + 1 by omega]
      have hc' : (g j != h j) = true := hc
      simp only [sameB, hc', if_true]
    rw [e]
    exact end_bb _ rfl rfl rfl ⟨by simp, rfl⟩
  · rename_i h0
    have hlt : j < n := by simp only [decide_eq_true_eq] at h0; omega
    have hw : IntKind.i64.wrap ((j : Int) + 1) = ((j + 1 : Nat) : Int) := by rw [IntKind.wrap_i64]; omega
    refine loop_normal (n - (j + 1)) (smSt n n g h (j + 1)) (by omega) (LeS.intro [0, 1] (fun i h => idt2 i h) (by simp only [diff, notIn, Nat.beq, and_self]) rfl (by simp only [smSt, slotsLe, slotAt, Nat.beq, leV, leV1, leC, leA, nthO, hw, and_self]) ⟨bools_le n h false, bools_le n g false, trivial⟩) ⟨j + 1, rfl, hlt, ?_, rfl⟩
    rw [he, show n - j = (n - (j + 1)) + 1 by omega]
    have hc' : (g j != h j) = false := hc
    simp only [sameB, hc', Bool.false_eq_true, if_false]
  · have e : sameB g h n 0 = true := by
      have : n - j = 0 := by simp only [decide_eq_false_iff_not] at hc; omega
      rw [he, this]
      rfl
    rw [e]
    exact end_bb _ rfl rfl rfl ⟨by simp, rfl⟩
theorem con15_at (n m : Nat) (g h : Nat → Bool) (hn : n ≤ 140737488355328) (a b q : Nat) (X : List (Nat × Blk)) (w w' : Bool) (hab : Nat.beq a b = false) (ha : getB X a = some ⟨1, some n, fun i => [.c (.bool (g i))], 4, w⟩) (hb : getB X b = some ⟨1, some m, fun i => [.c (.bool (h i))], 4, w'⟩) (hla : a < q) (hlb : b < q) (hkl : keysLt X q) : Con Try.prog 15 [.c (.slice ⟨a, 0, 0, 0⟩ false n), .c (.slice ⟨b, 0, 0, 0⟩ false m)] ⟨q, X⟩ (fun v H' => v = .c (.bool (decide (n = m) && sameB g h n 0)) ∧ H' = ⟨q, X⟩) :=
  ro_gen (con15 n m g h hn) [a, b] q X rfl (by simp only [diff, notIn, hab, and_self]) ⟨hla, hlb, trivial⟩ hkl (by simp only [leBlks, nthO, ha, hb]; exact ⟨bools_le m h w', bools_le n g w, trivial⟩) (by simp only [leArgs, leV, leV1, leC, leA, nthO, and_self]) rfl (fun _ => rfl) rfl rfl
end Go.Proofs.Ytmbnakinhnkabaa
