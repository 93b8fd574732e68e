/- FoldDoes: for every Block, Core and list of answers, understudylaw18.FoldDoes answers true and its arguments read behind the call as before; no condition. -/
import Derived.Test.YtmbnakinhnkabaaZge
namespace Go.Proofs.Ytmbnakinhnkabaa
open Go.AM
set_option maxRecDepth 100000
set_option linter.unusedSimpArgs false
set_option linter.unusedVariables false
theorem con25 (b : BlkS) : Con Try.prog 25 [.agg (blkL b 0)] ⟨1, [(0, opsB b.n b.f)]⟩ (fun v H' => v = retFold b 1 ∧ H' = heapFold b) := by
  refine Con.forget (con25_0 b) ?_
  rintro v H' ⟨rfl, rfl⟩
  by_cases hr : rightS b = true
  · refine ⟨_, heapFold b, [0, 1], (fun i h => idtF i h), (by simp only [diff, notIn, Nat.beq, and_self]), by simp only [heapFold, hr, if_true]; rfl, ?_, ?_, rfl, rfl⟩
    · simp only [heapFold0, heapFold, hr, if_true]
      exact ⟨opsw_le _ _ _ (fun _ _ => rfl), ops_le b.n b.f false, trivial⟩
    · simp only [retFold, hr, if_true, leV, leV1, leVL, blkL, leSegs, leSeg, leC, leA, nthO, and_self]
  · refine ⟨_, heapFold b, [0], (fun i h => idtF i h), ⟨trivial, trivial⟩, by simp only [heapFold, hr, if_false, Bool.false_eq_true]; rfl, ?_, ?_, rfl, rfl⟩
    · simp only [heapFold0, heapFold, hr, if_false, Bool.false_eq_true]
      exact ⟨ops_le b.n b.f false, trivial⟩
    · simp only [retFold, zBlkL, hr, if_false, Bool.false_eq_true, leV, leV1, leVL, leSegs, leSeg, leC, and_self]
def newFold (b : BlkS) : List Blk := if rightS b = true then [opsW (foldF b).n (foldF b).f] else []
theorem con25_at (b : BlkS) (i n : Nat) (X : List (Nat × Blk)) (w : Bool) (h0 : getB X i = some ⟨6, some b.n, fun i => opL (b.f i), 39, w⟩) (hlt : i < n) (hkl : keysLt X n) : Con Try.prog 25 [.agg (blkL b i)] ⟨n, X⟩ (fun v H' => v = retFold b n ∧ H' = addBs ⟨n, X⟩ (newFold b)) := by
  refine ((con25 b).frame (H := ⟨n, X⟩) [i] rfl ⟨trivial, trivial⟩ ⟨hlt, trivial⟩ hkl (by simp only [leBlks, nthO, h0]; exact ⟨ops_le b.n b.f w, trivial⟩) (by simp only [leArgs, leV, leV1, blkL, leSegs, leSeg, leC, leA, nthO, and_self])).weaken ?_
  rintro v H' ⟨v0, H0', ⟨rfl, rfl⟩, rfl, rfl⟩
  unfold retFold heapFold newFold
  cases rightS b
  · simp only [framed, dropB_ro i b.n 0]
    exact ⟨rfl, rfl⟩
  · simp only [framed, dropB_ro i b.n 0]
    exact ⟨rfl, rfl⟩
theorem nil_right (f : Nat → OpS) : rightS ⟨0, 0, 0, 0, f⟩ = false := by
  unfold rightS head1
  simp
theorem con25_nil (i N n : Nat) (f : Nat → OpS) (X : List (Nat × Blk)) (w : Bool) (h0 : getB X i = some ⟨6, some N, fun i => opL (f i), 39, w⟩) (hlt : i < n) (hkl : keysLt X n) : Con Try.prog 25 [.agg zBlkL] ⟨n, X⟩ (fun v H' => v = .tup [.agg zBlkL, .c (.int .i64 4)] ∧ H' = ⟨n, X⟩) := by
  refine ((con25 ⟨0, 0, 0, 0, f⟩).frame (args := [.agg zBlkL]) (H := ⟨n, X⟩) [i] rfl ⟨trivial, trivial⟩ ⟨hlt, trivial⟩ hkl (by simp only [leBlks, nthO, h0]; exact ⟨⟨rfl, rfl, fun h => (by cases h), Nat.zero_le _, fun _ _ => by simp only [opsB, opL, leSegs, leSeg, leC, and_self]⟩, trivial⟩) (by simp only [leArgs, leV, leV1, zBlkL, blkL, leSegs, leSeg, leC, and_self])).weaken ?_
  rintro v H' ⟨v0, H0', ⟨rfl, rfl⟩, rfl, rfl⟩
  unfold retFold heapFold
  rw [nil_right f]
  simp only [framed, dropB_ro i 0 0]
  exact ⟨rfl, rfl⟩
def suF : Nat → OpS
  | 0 => ⟨14, 0, 0, 0, 0, 64⟩
  | 1 => ⟨1, 0, 0, 0, 0, 2⟩
  | 2 => ⟨1, 0, 0, 0, 0, 3⟩
  | 3 => ⟨8, 1, 1, 2, 0, 0⟩
  | 4 => ⟨3, 0, 3, 0, 0, 0⟩
  | _ => ⟨16, 0, 0, 0, 0, 68⟩
def su : BlkS := ⟨64, 1, 1, 6, suF⟩
theorem con47 (n : Nat) (X : List (Nat × Blk)) (hkl : keysLt X n) : Con Try.prog 47 [] ⟨n, X⟩ (fun v H' => v = .agg (blkL su n) ∧ H' = addBs ⟨n, X⟩ [opsW 6 suF]) := by
  have h0 : Con Try.prog 47 [] ⟨0, []⟩ (fun v H' => v = .agg (blkL su 0) ∧ H' = ⟨2, [(1, blkB su 0), (0, opsW 6 suF)]⟩) := by
    (refine con_of_run mixed (fn := Try.f47) (by kernel_rfl) (by kernel_rfl) C47_ok (rs := [.cn 4 0]) (by kernel_rfl) (Nat.le_of_ble_eq_true (by kernel_rfl)) ?_; unfold C47; simp only [initT])
    repeat' (first | refine run_seq ?_ | (refine run_region fun K hK => ?_; (try (simp (maxSteps := 10000000) only [repl, rowsFit, partsOf, fillS, rowFn, cutD, C47r0, C47r1, rwp_nil, rwp_cons, aop, gpath, St.get, slotAt, sfx, eqP, segsOf, St.put, addBlk, getB, setB, stn, setRow, rowNeed, nsub, shed, Nat.beq, Seg.size, sizes, cut, takeS, dropS, putS, partsOf, fillS, exOk, Nat.reduceAdd, List.append_nil, List.nil_append, List.cons_append])); (repeat (first | (refine And.intro ?_ ?_; · first | trivial | assumption | omega))); with_reducible refine hK _ ?_; clear hK K) | refine run_ret ?_ | refine run_nil ?_)
    refine end_of ⟨[⟨0, [], .c (.ptr ⟨1, 0, 0, 0⟩)⟩], ⟨2, [(1, blkB su 0), (0, opsW 6 suF)]⟩⟩ (LeS.intro [1, 0] (fun i h => absurd h (Nat.not_lt_zero i)) (by simp only [diff, notIn, Nat.beq, and_self]) rfl (by simp only [slotsLe, slotAt, leV, leV1, leC, leA, nthO, and_self]) ⟨blk_le' su 1 0 rfl, ⟨rfl, rfl, id, Nat.le_refl _, fun i hi => ?_⟩, trivial⟩) ?_
    · match i, (hi.resolve_right (Nat.succ_ne_zero _)) with
      | 0, _ => simp only [dropS, takeS, Seg.size, nsub, opsW, opL, suF, leSegs, leSeg, leC, and_self]
      | 1, _ => simp only [dropS, takeS, Seg.size, nsub, opsW, opL, suF, leSegs, leSeg, leC, and_self]
      | 2, _ => simp only [dropS, takeS, Seg.size, nsub, opsW, opL, suF, leSegs, leSeg, leC, and_self]
      | 3, _ => simp only [dropS, takeS, Seg.size, nsub, opsW, opL, suF, leSegs, leSeg, leC, and_self]
      | 4, _ => simp only [dropS, takeS, Seg.size, nsub, opsW, opL, suF, leSegs, leSeg, leC, and_self]
      | 5, _ => simp only [dropS, takeS, Seg.size, nsub, opsW, opL, suF, leSegs, leSeg, leC, and_self]
    · simp only [endF, resL, resA, St.get, slotAt, sfx, eqP, ldn, getB, blkB, blkL, rowNeed, cut, dropS, takeS, Seg.size, nsub, noTup, resV]
      refine ⟨?_, ?_⟩ <;> first | rfl | trivial
  have h1 : Con Try.prog 47 [] ⟨0, []⟩ (fun v H' => v = .agg (blkL su 0) ∧ H' = ⟨1, [(0, opsW 6 suF)]⟩) := by
    refine Con.forget h0 ?_
    rintro v H' ⟨rfl, rfl⟩
    exact ⟨_, ⟨1, [(0, opsW 6 suF)]⟩, [0], fun i h => absurd h (Nat.not_lt_zero i), ⟨trivial, trivial⟩, rfl, ⟨opsw_le 6 suF suF (fun _ _ => rfl), trivial⟩, by simp only [blkL, leV, leV1, leSegs, leSeg, leC, leA, nthO, and_self], rfl, rfl⟩
  refine (h1.frame (args := []) (H := ⟨n, X⟩) [] rfl trivial trivial hkl trivial trivial).weaken ?_
  rintro v H' ⟨v0, H0', ⟨rfl, rfl⟩, rfl, rfl⟩
  refine ⟨rfl, ?_⟩
  simp only [framed, dropB_none (l := []) (H0 := []) (fun _ => rfl)]
  rfl
theorem su_right : rightS su = true := by decide +kernel
theorem su_n : (foldF su).n = 6 := by decide +kernel
theorem su_chg : chgS su = true := by decide +kernel
theorem su_ops : ∀ i, i < 6 → (foldF su).f i = match i with | 3 => constO 5 | i => suF i := by
  intro i hi
  match i, hi with
  | 0, _ => exact eqO_eq.1 (by decide +kernel)
  | 1, _ => exact eqO_eq.1 (by decide +kernel)
  | 2, _ => exact eqO_eq.1 (by decide +kernel)
  | 3, _ => exact eqO_eq.1 (by decide +kernel)
  | 4, _ => exact eqO_eq.1 (by decide +kernel)
  | 5, _ => exact eqO_eq.1 (by decide +kernel)
theorem su_retF (n : Nat) : retFold su n = .tup [.agg [.c (.int .u64 (foldF su).pc), .c (.int .i64 (foldF su).words), .c (.int .i64 (foldF su).el), .c (.slice ⟨n, 0, 0, 0⟩ false 6)], .c (.int .i64 0)] := by unfold retFold; rw [if_pos su_right]; unfold blkL; rw [su_n]
theorem su_newF : newFold su = [opsW 6 (foldF su).f] := by unfold newFold; rw [if_pos su_right, su_n]
theorem su_retS (n : Nat) : retStep su n = .tup [.agg (blkL (foldB su) n), .c (.bool true), .c (.int .i64 0)] := by unfold retStep; rw [if_pos su_right, su_chg]
theorem su_newS : newStep su = [opsW (stepS su).m (stepS su).f] := by unfold newStep; rw [if_pos su_right]
def exSt (i : Nat) (c : Bool) : St := ⟨[⟨9, [], .c (.int .i64 i)⟩, ⟨8, [], .c (.bool c)⟩, ⟨7, [], .c (.int .i64 0)⟩, ⟨6, [], .c (.bool true)⟩, ⟨4, [], .c (.int .i64 4)⟩, ⟨2, [], .c (.int .i64 0)⟩, ⟨1, [], .c (.ptr ⟨1, 0, 0, 0⟩)⟩], ⟨2, [(1, blkB (foldF su) 0), (0, opsW 6 (foldF su).f)]⟩⟩
theorem su_no {i : Nat} (hi : i < 6) (h : i ≠ 4) : ((foldF su).f i).kind ≠ 3 := by
  rw [su_ops i hi]
  match i, hi, h with
  | 0, _, _ => decide
  | 1, _, _ => decide
  | 2, _, _ => decide
  | 3, _, _ => decide
  | 4, _, h => exact absurd rfl h
  | 5, _, _ => decide
set_option maxHeartbeats 8000000 in
theorem con23 (H : Heap) : Con Try.prog 23 [] H (fun v H' => v = .c (.bool true) ∧ H' = H) := by
  refine Con.pure (args := []) ?_ trivial rfl H
  have f3 := su_ops 3 (by decide)
  have f4 := su_ops 4 (by decide)
  simp only [suF, constO] at f3 f4
  (refine con_of_run mixed (fn := Try.f23) (by kernel_rfl) (by kernel_rfl) C23_ok (rs := [.tmp 0]) (by kernel_rfl) (Nat.le_of_ble_eq_true (by kernel_rfl)) ?_; unfold C23; simp only [initT])
  repeat' (first | refine run_seq ?_ | refine run_skip ?_ | (refine run_region fun K hK => ?_; (try (simp (maxSteps := 10000000) only [partsOf, fillS, C23r0, C23r1, C23r2, C23r3, C23r4, rwp_nil, rwp_cons, aop, gpath, St.get, slotAt, sfx, eqP, St.put, addBlk, shed, appL, argsOf, ptrsOf, partsOf, fillS])); (repeat (first | (refine And.intro ?_ ?_; · (first | trivial | assumption | omega | exact ⟨by omega, by omega⟩ | (intros; first | trivial | assumption | omega | decide))) | ((first | (refine call_t _ (con47 _ _ (by simp [keysLt])) ?_; rintro v H' ⟨rfl, rfl⟩) | refine call_q _ (con47 _ _ (by simp [keysLt])) ?_ | refine call_g _ (imp_of (con47 _ _ (by simp [keysLt]))) ?_ | (refine call_t _ (con25_at su _ _ _ _ rfl (Nat.le_of_ble_eq_true rfl) (by simp [keysLt])) ?_; rintro v H' ⟨rfl, rfl⟩) | refine call_q _ (con25_at su _ _ _ _ rfl (Nat.le_of_ble_eq_true rfl) (by simp [keysLt])) ?_ | refine call_g _ (imp_of (con25_at su _ _ _ _ rfl (Nat.le_of_ble_eq_true rfl) (by simp [keysLt]))) ?_ | (refine call_t _ (con25_nil 0 6 _ suF _ true rfl (Nat.le_of_ble_eq_true rfl) (by simp [keysLt])) ?_; rintro v H' ⟨rfl, rfl⟩) | refine call_q _ (con25_nil 0 6 _ suF _ true rfl (Nat.le_of_ble_eq_true rfl) (by simp [keysLt])) ?_ | refine call_g _ (imp_of (con25_nil 0 6 _ suF _ true rfl (Nat.le_of_ble_eq_true rfl) (by simp [keysLt]))) ?_ | (refine call_t _ (con26_at su _ _ _ _ rfl (Nat.le_of_ble_eq_true rfl) (by simp [keysLt])) ?_; rintro v H' ⟨rfl, rfl⟩) | refine call_q _ (con26_at su _ _ _ _ rfl (Nat.le_of_ble_eq_true rfl) (by simp [keysLt])) ?_ | refine call_g _ (imp_of (con26_at su _ _ _ _ rfl (Nat.le_of_ble_eq_true rfl) (by simp [keysLt]))) ?_); simp (maxSteps := 10000000) only [opL, su_retF, su_newF, su_retS, su_newS, blkL, zBlkL, opsW, rwp_nil, rwp_cons, rwpK_app, aop, gpath, St.get, slotAt, sfx, eqP, St.put, addBlk, getB, setB, stn, setRow, rowNeed, nsub, shed, Nat.beq, Seg.size, sizes, appL, argsOf, ptrsOf, takeS, dropS, putS, nthA, exOk, Nat.reduceAdd, List.append_nil, List.nil_append, addBs]))); with_reducible refine hK _ ?_; clear hK K) | (refine run_cond rfl (fun hc => ?_) (fun hc => ?_) <;> try (simp only [*, Bool.true_eq_false, Bool.false_eq_true, Bool.not_true, Bool.not_false, Bool.true_or, Bool.or_true, Bool.false_or, Bool.or_false, Bool.false_and, Bool.and_false, bne_self_eq_false, beq_self_eq_true] at hc; done)) | refine run_block ?_ | refine run_ret ?_ | refine run_nil ?_ | refine run_exit ?_ | refine blk_normal ?_ | refine blk_ret ?_ | refine blk_here ?_ | refine blk_there rfl ?_ | refine loop_exit ?_ | refine loop_ret ?_ | refine un_exit ?_ | refine un_ret ?_ | refine unE_exit ?_ | refine unE_ret ?_ | refine un_normal ?_)
  (refine run_regionL fun K hK => ?_; (try (simp (maxSteps := 10000000) only [C23r5, rwp_nil, rwp_cons, aop, gpath, St.get, St.put, addBlk, shed])); (repeat (first | (refine And.intro ?_ ?_; · first | trivial | assumption | omega))); refine hK _ (exSt 0 false) (LeS.intro [1, 2] (fun i h => absurd h (Nat.not_lt_zero i)) (by simp only [diff, notIn, Nat.beq, and_self]) rfl (by simp only [exSt, slotsLe, slotAt, leV, leV1, leC, leA, nthO, Int.natCast_zero, and_self]) ⟨⟨rfl, rfl, id, Nat.le_refl _, fun _ _ => by simp only [blkB, blkL, su_n, leSegs, leSeg, leC, leA, nthO, and_self]⟩, opsw_le _ _ _ (fun _ _ => rfl), trivial⟩) ?_; clear hK K)
  refine run_block ?_
  refine run_loop (fun t st => ∃ i, i ≤ 6 ∧ t = 6 - i ∧ st = exSt i (decide (4 < i))) 6 ⟨0, by omega, rfl, rfl⟩ ?_
  rintro t st ⟨i, hi, rfl, rfl⟩
  have hw : IntKind.i64.wrap ((i : Int) + 1) = ((i + 1 : Nat) : Int) := by rw [IntKind.wrap_i64]; omega
  have hn6 := su_n
  unfold exSt
  repeat' (first | refine run_seq ?_ | refine run_skip ?_ | (refine run_region fun K hK => ?_; (try (simp (maxSteps := 10000000) only [opL, blkB, blkL, opsW, hn6, C23r6, rwp_nil, rwp_cons, aop, gpath, St.get, slotAt, sfx, eqP, St.put, addBlk, getB, ld1, rowNeed, segAt, nsub, bin, isShift, sameK, arith, shed, addN, Seg.size, Nat.reduceAdd])); (repeat (first | (refine And.intro ?_ ?_; · (first | trivial | assumption | omega | exact ⟨by omega, by omega⟩ | (intros; first | trivial | assumption | omega | decide))))); with_reducible refine hK _ ?_; clear hK K) | (refine run_cond rfl (fun hc => ?_) (fun hc => ?_) <;> try (simp only [*, Bool.true_eq_false, Bool.false_eq_true, Bool.not_true, Bool.not_false, Bool.true_or, Bool.or_true, Bool.false_or, Bool.or_false, Bool.false_and, Bool.and_false, bne_self_eq_false, beq_self_eq_true] at hc; done)) | refine run_block ?_ | refine run_ret ?_ | refine run_nil ?_ | refine run_exit ?_ | refine blk_normal ?_ | refine blk_ret ?_ | refine blk_here ?_ | refine blk_there rfl ?_ | refine loop_exit ?_ | refine loop_ret ?_ | refine un_exit ?_ | refine un_ret ?_ | refine unE_exit ?_ | refine unE_ret ?_ | refine un_normal ?_)
  · have hlt : i < 6 := by simp only [decide_eq_true_eq] at hc; omega
    clear hc
    by_cases h4 : i = 4
    · have hFi : (foldF su).f i = ⟨3, 0, 3, 0, 0, 0⟩ := by rw [h4]; exact f4
      have hd : decide ((3 : Int) < (i : Int)) = true := decide_eq_true (by omega)
      repeat' (first | refine run_seq ?_ | refine run_skip ?_ | (refine run_region fun K hK => ?_; (try (simp (maxSteps := 10000000) only [hFi, hd, f3, hw, beq_self_eq_true, Bool.and_self, Int.toNat_natCast, partsOf, fillS, C23r7, C23r8, C23r9, rwp_nil, rwp_cons, aop, gpath, St.get, slotAt, sfx, eqP, segsOf, St.put, addBlk, getB, ld1, ldn, rowNeed, segAt, nsub, bin, isShift, sameK, arith, getsl, selB_and, beqb, shed, addN, Nat.beq, Seg.size, sizes, imp, cut, takeS, dropS, putS, partsOf, fillS, negIf, eqS, eqF, eqS1, strOk, plusA, Nat.reduceAdd, Int.reduceToNat, List.append_nil, List.nil_append, List.cons_append, Int.toNat_natCast])); (repeat (first | (refine And.intro ?_ ?_; · (first | trivial | assumption | omega | exact ⟨by omega, by omega⟩ | (intros; first | trivial | assumption | omega | decide))))); with_reducible refine hK _ ?_; clear hK K) | (refine run_cond rfl (fun hc => ?_) (fun hc => ?_) <;> try (simp only [*, Bool.true_eq_false] at hc; done)) | refine run_block ?_ | refine run_ret ?_ | refine run_nil ?_ | refine run_exit ?_ | refine blk_normal ?_ | refine blk_ret ?_ | refine blk_here ?_ | refine blk_there rfl ?_ | refine loop_exit ?_ | refine loop_ret ?_ | refine un_exit ?_ | refine un_ret ?_ | refine unE_exit ?_ | refine unE_ret ?_ | refine un_normal ?_)
      refine loop_normal (6 - (i + 1)) (exSt (i + 1) (decide (4 < i + 1))) (by omega) (LeS.intro [0, 1] (fun i h => absurd h (Nat.not_lt_zero i)) (by simp only [diff, notIn, Nat.beq, and_self]) rfl ?_ ⟨blk_le' (foldF su) 0 0 rfl, opsw_le _ _ _ (fun _ _ => rfl), trivial⟩) ⟨i + 1, by omega, rfl, rfl⟩
      have hd2 : decide (4 < i + 1) = true := decide_eq_true (by omega)
      simp only [exSt, hd2, slotsLe, slotAt, leV, leV1, leC, leA, nthO, and_self]
    · have hFk : (((foldF su).f i).kind == 3) = false := by simpa using su_no hlt h4
      repeat' (first | refine run_seq ?_ | refine run_skip ?_ | (refine run_region fun K hK => ?_; (try (simp (maxSteps := 10000000) only [hFk, hw, Bool.false_and, Int.toNat_natCast, C23r7, C23r9, rwp_nil, rwp_cons, aop, gpath, St.get, slotAt, sfx, eqP, St.put, addBlk, getB, ld1, rowNeed, segAt, nsub, bin, isShift, sameK, arith, getsl, selB_and, beqb, shed, addN, Nat.beq, Seg.size, imp, strOk, plusA, Nat.reduceAdd, Int.toNat_natCast])); (repeat (first | (refine And.intro ?_ ?_; · (first | trivial | assumption | omega | exact ⟨by omega, by omega⟩ | (intros; first | trivial | assumption | omega | decide))))); with_reducible refine hK _ ?_; clear hK K) | (refine run_cond rfl (fun hc => ?_) (fun hc => ?_) <;> try (simp only [*, Bool.false_eq_true] at hc; done)) | refine run_block ?_ | refine run_ret ?_ | refine run_nil ?_ | refine run_exit ?_ | refine blk_normal ?_ | refine blk_ret ?_ | refine blk_here ?_ | refine blk_there rfl ?_ | refine loop_exit ?_ | refine loop_ret ?_ | refine un_exit ?_ | refine un_ret ?_ | refine unE_exit ?_ | refine unE_ret ?_ | refine un_normal ?_)
      refine loop_normal (6 - (i + 1)) (exSt (i + 1) (decide (4 < i + 1))) (by omega) (LeS.intro [0, 1] (fun i h => absurd h (Nat.not_lt_zero i)) (by simp only [diff, notIn, Nat.beq, and_self]) rfl ?_ ⟨blk_le' (foldF su) 0 0 rfl, opsw_le _ _ _ (fun _ _ => rfl), trivial⟩) ⟨i + 1, by omega, rfl, rfl⟩
      have hd2 : decide (4 < i) = decide (4 < i + 1) := by congr 1; exact propext ⟨fun h => by omega, fun h => by omega⟩
      simp only [exSt, hd2, slotsLe, slotAt, leV, leV1, leC, leA, nthO, and_self]
  · have hge : decide (4 < i) = true := by simp only [decide_eq_false_iff_not] at hc; exact decide_eq_true (by omega)
    rw [hge]
    repeat' (first | refine run_seq ?_ | refine run_skip ?_ | (refine run_region fun K hK => ?_; (try (simp (maxSteps := 10000000) only [beq_self_eq_true, Bool.and_self, C23r10, rwp_nil, rwp_cons, aop, gpath, St.get, slotAt, sfx, eqP, St.put, addBlk, bin, isShift, sameK, arith, getsl, selB_and, beqb, shed])); (repeat (first | (refine And.intro ?_ ?_; · (first | trivial | assumption | omega | exact ⟨by omega, by omega⟩ | (intros; first | trivial | assumption | omega | decide))))); with_reducible refine hK _ ?_; clear hK K) | (refine run_cond rfl (fun hc => ?_) (fun hc => ?_) <;> try (simp only [*, Bool.true_eq_false, Bool.false_eq_true, Bool.not_true, Bool.not_false, Bool.true_or, Bool.or_true, Bool.false_or, Bool.or_false, Bool.false_and, Bool.and_false, bne_self_eq_false, beq_self_eq_true] at hc; done)) | refine run_block ?_ | refine run_ret ?_ | refine run_nil ?_ | refine run_exit ?_ | refine blk_normal ?_ | refine blk_ret ?_ | refine blk_here ?_ | refine blk_there rfl ?_ | refine loop_exit ?_ | refine loop_ret ?_ | refine un_exit ?_ | refine un_ret ?_ | refine unE_exit ?_ | refine unE_ret ?_ | refine un_normal ?_)
    exact end_tmp1 rfl rfl rfl ⟨rfl, rfl⟩
end Go.Proofs.Ytmbnakinhnkabaa

namespace Go.Proofs.Ytmbnakinhnkabaa
open Go.AM
set_option maxRecDepth 100000
set_option linter.unusedSimpArgs false
set_option linter.unusedVariables false
end Go.Proofs.Ytmbnakinhnkabaa

namespace Go.Proofs.Ytmbnakinhnkabaa
open Go.AM
set_option maxRecDepth 100000
set_option linter.unusedSimpArgs false
set_option linter.unusedVariables false
end Go.Proofs.Ytmbnakinhnkabaa

namespace Go.Proofs.Ytmbnakinhnkabaa
open Go.AM
set_option maxRecDepth 100000
set_option linter.unusedSimpArgs false
set_option linter.unusedVariables false
def U64 (x : Int) : Prop := 0 ≤ x ∧ x ≤ 18446744073709551615
theorem u64_wrap (x : Int) : U64 (IntKind.u64.wrap x) := by
  rw [IntKind.wrap_u64]
  unfold U64
  omega
theorem u64_truth (b : Bool) : U64 (truthS b) := by cases b <;> (unfold U64 truthS; decide)
theorem u64_fdiv {a : Int} (h : U64 a) (n : Nat) : U64 (a.fdiv (2 ^ n)) := by
  obtain ⟨h1, h2⟩ := h
  have hp : (0 : Int) ≤ 2 ^ n := Int.pow_nonneg (by decide)
  rw [Int.fdiv_eq_ediv_of_nonneg _ hp]
  have g1 := Int.ediv_nonneg h1 hp
  have g2 := Int.ediv_le_self (2 ^ n) h1
  exact ⟨g1, by omega⟩
theorem u64_zero : U64 0 := by unfold U64; decide
theorem ite_P18 {α : Type} {P : α → Prop} {c : Prop} [Decidable c] {a b : α} (h1 : P a) (h2 : P b) : P (if c then a else b) := by split <;> assumption
theorem reckS_u {k a b : Int} (ha : U64 a) : U64 (reckS k a b).1 := by
  unfold reckS
  iterate 15 (refine ite_P18 (P := fun r : Int × Int => U64 r.1) ?_ ?_; rotate_left)
  all_goals first | exact u64_wrap _ | exact u64_truth _ | exact u64_fdiv ha _ | exact u64_zero | skip
  · unfold f58
    split
    · exact u64_zero
    · exact u64_wrap _
  · unfold f59
    split
    · exact u64_zero
    · split <;> exact u64_wrap _
theorem wf_of {o x : OpS} {m : Nat} {f : Nat → OpS} (ho : OpWf o) (hk : x.kind = o.kind) (hr : x.r = o.r) (hor : x.order = o.order) (hi : x.imm = o.imm) (h : ropS x m f = true) (hm : m ≤ 1000) : OpWf x := by
  obtain ⟨h1, h2⟩ := rop_iff.1 h
  unfold fieldBad at h1
  simp only [Bool.or_eq_false_iff, Bool.and_eq_false_iff, decide_eq_false_iff_not, bne_eq_false_iff_eq] at h1
  have ea : useF x 0 = x.a := rfl
  have eb : useF x 1 = x.b := rfl
  refine ⟨by rw [hk]; exact ho.kind, by rw [hr]; exact ho.r, ?_, ?_, by rw [hor]; exact ho.order, by rw [hi]; exact ho.imm⟩
  · rcases h1.1.2 with g | g
    · have := h2 0 (by omega)
      rw [ea] at this
      omega
    · omega
  · rcases h1.2 with g | g
    · have := h2 1 (by omega)
      rw [eb] at this
      omega
    · omega
theorem one_wf {s : PS} {o : OpS} (hf : ∀ k, k < s.m → OpWf (s.f k)) (ho : OpWf o) (ha : usesS o.kind ≥ 1 → 0 ≤ o.a ∧ o.a < s.m) : ∀ k, k < (oneP s o).s.m → OpWf ((oneP s o).s.f k) := by
  have wc : ∀ n, U64 n → OpWf (constO n) := fun n h => ⟨by simp [constO], by simp [constO], by simp [constO], by simp [constO], by simp [constO], h⟩
  have we : OpWf (exitO o.imm) := ⟨by simp [exitO], by simp [exitO], by simp [exitO], by simp [exitO], by simp [exitO], ho.imm⟩
  have lay : ∀ (t : PS) (x : OpS), t.m = s.m → t.f = s.f → OpWf x → ∀ k, k < (layS t x).m → OpWf ((layS t x).f k) := fun t x e1 e2 hx k hk => by
    have hk : k < t.m + 1 := hk
    show OpWf (if k < t.m then t.f k else x)
    split
    · rename_i h; rw [e2]; exact hf k (by omega)
    · exact hx
  unfold oneP
  split
  · rename_i h1
    split
    · exact lay _ _ (knSet_m _ _ _ _) (knSet_at _ _ _ _).2.2 ho
    · split
      · exact hf
      · exact lay s o rfl rfl ho
  · split
    · rename_i h8
      split
      · have := ha (by rw [h8]; decide)
        exact lay s _ rfl rfl (wc _ (reckS_u (hf o.a.toNat (by omega)).imm))
      · exact lay s o rfl rfl ho
    · split
      · split
        · split
          · exact hf
          · exact lay s _ rfl rfl we
        · exact lay s o rfl rfl ho
      · exact lay s o rfl rfl ho
theorem after_wf {s : PS} (h : PsR s) (hlt : s.na < s.b.n) (hb : ∀ k, k < s.b.n → OpWf (s.b.f k)) (hf : ∀ k, k < s.m → OpWf (s.f k)) : ∀ k, k < (afterP s).m → OpWf ((afterP s).f k) := by
  have hn := right_n h.ok.r
  have hm := h.ok.m
  have hrop := reO_rop h hlt
  exact one_wf hf (wf_of (hb _ hlt) rfl rfl rfl rfl hrop (by omega)) fun hu => by
    have := (rop_iff.1 hrop).2 0 hu
    exact ⟨this.1, this.2.1⟩
theorem stepN_wf : ∀ (t : Nat) {s : PS}, PsR s → (∀ k, k < s.b.n → OpWf (s.b.f k)) → (∀ k, k < s.m → OpWf (s.f k)) → ∀ k, k < (stepN t s).m → OpWf ((stepN t s).f k)
  | 0, s, _, _, hf => hf
  | t + 1, s, h, hb, hf => by
    simp only [stepN]
    split
    · rename_i hlt
      have h1 := after_wf h hlt hb hf
      split
      · exact h1
      · exact stepN_wf t (after_r h hlt) (by rw [after_b h.ok hlt]; exact hb) h1
    · exact hf
theorem foldB_wf {b : BlkS} (hr : rightS b = true) (hw : BlkWf b) : BlkWf (foldB b) :=
  ⟨hw.pc, hw.words, hw.el, stepN_wf b.n (ps0_r hr) hw.ops fun k hk => absurd hk (Nat.not_lt_zero k)⟩
theorem foldF_wf : ∀ {N : Nat} {b : BlkS}, wt b.f b.n ≤ N → rightS b = true → BlkWf b → BlkWf (foldF b)
  | 0, b, hw, hr, _ => by
    have h1 := wt_mono b.f (show 1 ≤ b.n from (right_n hr).1)
    simp only [wt] at h1
    have := wOp_pos (b.f 0)
    omega
  | N + 1, b, hw, hr, hb => by
    rw [foldF_step hr]
    split
    · rename_i hc
      have := fold_lt hr hc
      exact foldF_wf (N := N) (by omega) (fold_right hr) (foldB_wf hr hb)
    · exact foldB_wf hr hb
end Go.Proofs.Ytmbnakinhnkabaa

namespace Go.Proofs.Ytmbnakinhnkabaa
open Go.AM
set_option maxRecDepth 100000
set_option linter.unusedSimpArgs false
set_option linter.unusedVariables false
structure GotS where
  value : Int
  ok : Bool
  fault : Int
def gotL (g : GotS) : List Seg := [.c (.int .u64 g.value), .c (.bool g.ok), .c (.int .i64 g.fault)]
def noW (s : RS) : RS := { s with waits := false }
def tookR (s : RS) (g : GotS) : RS :=
  if accS (s.b.f (s.pos - 1)).kind = false then noW s
  else if (g.fault != 0) = true then { noW s with left := true, faulted := true }
  else if ((s.b.f (s.pos - 1)).kind == 12) = true then (if g.ok = true then setV (noW s) (s.pos - 1) 0 else setV (noW s) (s.pos - 1) 1)
  else if ((s.b.f (s.pos - 1)).kind != 10) = true then setV (noW s) (s.pos - 1) g.value
  else noW s
set_option maxHeartbeats 16000000 in
theorem con20 (s : RS) (g : GotS) (hw : s.waits = true) (hp : 1 ≤ s.pos) (hp2 : s.pos ≤ s.b.n) (hn : s.b.n ≤ 512) : Con Try.prog 20 [me, .agg (gotL g)] (runH s) (fun v H' => v = .c (.bool true) ∧ H' = runH (tookR s g)) := by
  have hw1 : IntKind.i64.wrap ((s.pos : Int) - 1) = ((s.pos - 1 : Nat) : Int) := by rw [IntKind.wrap_i64]; omega
  have hp3 : s.pos - 1 < s.b.n := by omega
  (refine con_of_run mixed (fn := Try.f20) (by kernel_rfl) (by kernel_rfl) C20_ok (rs := [.tmp 4]) (by kernel_rfl) (Nat.le_of_ble_eq_true (by kernel_rfl)) ?_; unfold C20; simp only [initT, Nat.reduceAdd])
  generalize hR : (fun (v : AV) (H' : Heap) => v = AV.c (.bool true) ∧ H' = runH (tookR s g)) = R
  simp only [me, runH, runB, runL, runO, runV]
  repeat' (first | refine run_seq ?_ | refine run_skip ?_ | (refine run_region fun K hK => ?_; (try (simp (maxSteps := 10000000) only [gotL, opL, hw1, C20r0, C20r1, C20r3, C20r4, C20r5, C20r6, C20r7, C20r8, C20r9, C20r10, C20r11, C20r12, C20r13, C20r14, C20r15, C20r16, C20r17, rwp_nil, rwp_cons, aop, gpath, St.get, slotAt, sfx, eqP, segsOf, St.put, addBlk, getB, setB, ld1, ldn, st1, stn, setRow, rowNeed, segAt, nsub, bin, un, isShift, sameK, arith, shed, addN, Nat.beq, Seg.size, sizes, imp, appL, argsOf, ptrsOf, cut, takeS, dropS, putS, strOk, plusA, exOk, Nat.reduceAdd, List.append_nil, List.nil_append, List.cons_append, ite_int, ite_seg, ite_segs, ite_nil, ite_twice, Int.toNat_natCast])); (repeat (first | (refine And.intro ?_ ?_; · (first | decide | trivial | assumption | omega | (intros; first | decide | trivial | omega))) | ((first | (refine call_t _ (con41 (s.b.f (s.pos - 1)) _) ?_; rintro v H' ⟨rfl, rfl⟩) | refine call_q _ (con41 (s.b.f (s.pos - 1)) _) ?_ | refine call_g _ (imp_of (con41 (s.b.f (s.pos - 1)) _)) ?_); simp (maxSteps := 10000000) only [rwp_nil, rwp_cons, rwpK_app, aop, gpath, St.get, slotAt, sfx, eqP, St.put, addBlk, shed]))); with_reducible refine hK _ ?_; clear hK K) | (refine run_cond rfl (fun hc => ?_) (fun hc => ?_) <;> try (simp only [*, Bool.false_eq_true, Bool.not_true] at hc; done)) | refine run_block ?_ | refine run_ret ?_ | refine run_nil ?_ | refine blk_normal ?_ | refine blk_ret ?_ | refine blk_here ?_ | refine blk_there rfl ?_)
  all_goals first
    | (exfalso; rw [hw] at hc; exact absurd hc (by decide))
    | (subst hR
       simp only [Bool.not_eq_true', Bool.not_eq_false'] at *
       refine end_run1 (tookR s g) rfl ?_ ?_ ?_ rfl rfl ⟨rfl, rfl⟩ <;> (simp only [tookR, *, if_true, if_false, Bool.false_eq_true, Bool.true_eq_false]; rfl))
def runLI (s : RS) (o v : Nat) : List Seg := [.c (.int .u64 s.b.pc), .c (.int .i64 s.b.words), .c (.int .i64 s.b.el), .c (.slice ⟨o, 0, 0, 0⟩ false s.b.n), .a 31 (fun i => .int .u64 (s.core.x i)), .a 2 (fun i => .int .u64 (s.core.sp i)), .c (.int .u64 s.core.pc), .c (.bool s.core.n), .c (.bool s.core.z), .c (.bool s.core.c), .c (.bool s.core.v), .c (.int .i64 s.core.el), .c (.bool s.core.mask), .c (.int .u64 s.core.q0), .c (.int .u64 s.core.q1), .c (.int .u64 s.core.q2), .c (.int .u64 s.core.q3), .c (.int .u64 s.core.q4), .c (.int .u64 s.core.q5), .c (.int .i64 s.core.id), .c (.int .i64 s.core.wait), .c (.bool s.core.last), .c (.slice ⟨v, 0, 0, 0⟩ false s.b.n), .c (.int .i64 s.pos), .c (.bool s.waits), .c (.int .i64 s.want.kind), .c (.int .u64 s.want.addr), .c (.int .u64 s.want.value), .c (.int .i64 s.want.acq), .c (.bool s.want.rel), .c (.int .i64 s.want.w5), .c (.bool s.want.w6), .c (.int .i64 s.want.w7), .c (.int .i64 s.want.w8), .c (.int .i64 s.want.w9), .c (.bool s.left), .c (.bool s.faulted), .c (.int .u64 s.word), .c (.bool s.guest)]
def runBI (s : RS) (o v : Nat) : Blk := ⟨70, none, fun _ => runLI s o v, 54, true⟩
def newR (b : BlkS) (c : CoreS) : RS := ⟨b, c, fun _ => 0, 0, false, want0, false, false, 0, false⟩
def newOk (b : BlkS) (c : CoreS) : Bool := rightC c && (c.el == b.el)
theorem con18_b (b : BlkS) (c : CoreS) (hw : BlkWf b) (hr : rightS b = true) (ho : newOk b c = false) : Con Try.prog 18 [.agg (blkL b 0), .agg (coreL c)] ⟨1, [(0, opsB b.n b.f)]⟩ (fun v H' => v = .tup [.c .nilp, .c (.int .i64 1)] ∧ H' = ⟨1, [(0, opsB b.n b.f)]⟩) := by
  (refine con_of_run mixed (fn := Try.f18) (by kernel_rfl) (by kernel_rfl) C18_ok (rs := [.tmp 4, .tmp 5]) (by kernel_rfl) (Nat.le_of_ble_eq_true (by kernel_rfl)) ?_; unfold C18; simp only [initT, Nat.reduceAdd])
  repeat' (first | refine run_seq ?_ | refine run_skip ?_ | (refine run_region fun K hK => ?_; (try (simp (maxSteps := 10000000) only [blkL, opsB, C18r0, C18r1, C18r2, rwp_nil, rwp_cons, aop, gpath, St.get, slotAt, sfx, eqP, segsOf, St.put, addBlk, getB, ldn, rowNeed, nsub, un, shed, Seg.size, sizes, appL, argsOf, ptrsOf, cut, takeS, dropS, Nat.reduceAdd])); (repeat (first | (refine And.intro ?_ ?_; · (first | decide | trivial | assumption | omega | (intros; first | decide | trivial | omega))) | ((first | (refine call_t _ (con11_at b hw 0 _ _ _ rfl (Nat.le_of_ble_eq_true rfl) (by simp [keysLt])) ?_; rintro v H' ⟨rfl, rfl⟩) | refine call_q _ (con11_at b hw 0 _ _ _ rfl (Nat.le_of_ble_eq_true rfl) (by simp [roL, keysLt])) ?_ | refine call_g _ (imp_of (con11_at b hw 0 _ _ _ rfl (Nat.le_of_ble_eq_true rfl) (by simp [roL, keysLt]))) ?_); simp (maxSteps := 10000000) only [hr, rwp_nil, rwp_cons, rwpK_app, aop, gpath, St.get, slotAt, sfx, eqP, St.put, addBlk, shed]))); with_reducible refine hK _ ?_; clear hK K) | (refine run_cond rfl (fun hc => ?_) (fun hc => ?_) <;> try (simp only [*, Bool.false_eq_true, Bool.not_true] at hc; done)) | refine run_ret ?_ | refine run_nil ?_)
  repeat' (first | refine run_seq ?_ | refine run_skip ?_ | (refine run_region fun K hK => ?_; (try (simp (maxSteps := 10000000) only [coreL, C18r4, C18r5, rwp_nil, rwp_cons, aop, gpath, St.get, slotAt, sfx, eqP, St.put, addBlk, getB, ld1, ldn, rowNeed, segAt, nsub, bin, un, isShift, sameK, arith, getsl, selB_or, beqb, shed, addN, Seg.size, sizes, appL, argsOf, ptrsOf, cut, takeS, dropS, Nat.reduceAdd])); (repeat (first | (refine And.intro ?_ ?_; · (first | decide | trivial | assumption | omega | (intros; first | decide | trivial | omega))) | ((first | (refine call_t _ (con44 c _) ?_; rintro v H' ⟨rfl, rfl⟩) | refine call_q _ (con44 c _) ?_ | refine call_g _ (imp_of (con44 c _)) ?_); simp (maxSteps := 10000000) only [rwp_nil, rwp_cons, rwpK_app, aop, gpath, St.get, slotAt, sfx, eqP, St.put, addBlk, shed]))); with_reducible refine hK _ ?_; clear hK K) | (refine run_cond rfl (fun hc => ?_) (fun hc => ?_) <;> try (simp only [*, Bool.true_eq_false, Bool.false_eq_true, Bool.not_true, Bool.not_false, Bool.true_or, Bool.or_true, Bool.false_or, Bool.or_false, Bool.false_and, Bool.and_false, bne_self_eq_false, beq_self_eq_true] at hc; done)) | refine run_ret ?_ | refine run_nil ?_)
  · repeat' (first | refine run_seq ?_ | refine run_skip ?_ | (refine run_region fun K hK => ?_; (try (simp (maxSteps := 10000000) only [C18r6, rwp_nil, rwp_cons, aop, gpath, St.get, St.put, addBlk, shed])); (repeat (first | (refine And.intro ?_ ?_; · first | trivial | assumption | omega))); with_reducible refine hK _ ?_; clear hK K) | (refine run_cond rfl (fun hc => ?_) (fun hc => ?_) <;> try (simp only [*, Bool.true_eq_false, Bool.false_eq_true, Bool.not_true, Bool.not_false, Bool.true_or, Bool.or_true, Bool.false_or, Bool.or_false, Bool.false_and, Bool.and_false, bne_self_eq_false, beq_self_eq_true] at hc; done)) | refine run_ret ?_ | refine run_nil ?_)
    refine end_of ⟨[⟨4, [], .c .nilp⟩, ⟨5, [], .c (.int .i64 1)⟩], ⟨1, [(0, opsB b.n b.f)]⟩⟩ (LeS.intro [0] idt1 ⟨trivial, trivial⟩ rfl (by simp only [slotsLe, slotAt, leV, leV1, leC, and_self]) ⟨ops_le b.n b.f false, trivial⟩) ?_
    simp only [endF, resL, resA, St.get, slotAt, sfx, eqP, noTup, resV]
    exact ⟨by first | rfl | trivial, by first | rfl | trivial⟩
  · exfalso
    unfold newOk at ho
    simp only [Bool.or_eq_false_iff, Bool.not_eq_false', bne_eq_false_iff_eq] at hc
    simp [hc.1, hc.2] at ho
theorem con18_c (b : BlkS) (c : CoreS) (hw : BlkWf b) (hr : rightS b = true) (ho : newOk b c = true) : Con Try.prog 18 [.agg (blkL b 0), .agg (coreL c)] ⟨1, [(0, opsB b.n b.f)]⟩ (fun v H' => v = .tup [.c (.ptr ⟨2, 0, 0, 0⟩), .c (.int .i64 0)] ∧ H' = ⟨3, [(2, runBI (newR b c) 0 1), (1, runV (newR b c)), (0, opsB b.n b.f)]⟩) := by
  have hn := right_n hr
  (refine con_of_run mixed (fn := Try.f18) (by kernel_rfl) (by kernel_rfl) C18_ok (rs := [.tmp 4, .tmp 5]) (by kernel_rfl) (Nat.le_of_ble_eq_true (by kernel_rfl)) ?_; unfold C18; simp only [initT, Nat.reduceAdd])
  repeat' (first | refine run_seq ?_ | refine run_skip ?_ | (refine run_region fun K hK => ?_; (try (simp (maxSteps := 10000000) only [blkL, opsB, C18r0, C18r1, C18r2, rwp_nil, rwp_cons, aop, gpath, St.get, slotAt, sfx, eqP, segsOf, St.put, addBlk, getB, ldn, rowNeed, nsub, un, shed, Seg.size, sizes, appL, argsOf, ptrsOf, cut, takeS, dropS, Nat.reduceAdd])); (repeat (first | (refine And.intro ?_ ?_; · (first | decide | trivial | assumption | omega | (intros; first | decide | trivial | omega))) | ((first | (refine call_t _ (con11_at b hw 0 _ _ _ rfl (Nat.le_of_ble_eq_true rfl) (by simp [keysLt])) ?_; rintro v H' ⟨rfl, rfl⟩) | refine call_q _ (con11_at b hw 0 _ _ _ rfl (Nat.le_of_ble_eq_true rfl) (by simp [roL, keysLt])) ?_ | refine call_g _ (imp_of (con11_at b hw 0 _ _ _ rfl (Nat.le_of_ble_eq_true rfl) (by simp [roL, keysLt]))) ?_); simp (maxSteps := 10000000) only [hr, rwp_nil, rwp_cons, rwpK_app, aop, gpath, St.get, slotAt, sfx, eqP, St.put, addBlk, shed]))); with_reducible refine hK _ ?_; clear hK K) | (refine run_cond rfl (fun hc => ?_) (fun hc => ?_) <;> try (simp only [*, Bool.false_eq_true, Bool.not_true] at hc; done)) | refine run_ret ?_ | refine run_nil ?_)
  repeat' (first | refine run_seq ?_ | refine run_skip ?_ | (refine run_region fun K hK => ?_; (try (simp (maxSteps := 10000000) only [coreL, C18r4, C18r5, rwp_nil, rwp_cons, aop, gpath, St.get, slotAt, sfx, eqP, St.put, addBlk, getB, ld1, ldn, rowNeed, segAt, nsub, bin, un, isShift, sameK, arith, getsl, selB_or, beqb, shed, addN, Seg.size, sizes, appL, argsOf, ptrsOf, cut, takeS, dropS, Nat.reduceAdd])); (repeat (first | (refine And.intro ?_ ?_; · (first | decide | trivial | assumption | omega | (intros; first | decide | trivial | omega))) | ((first | (refine call_t _ (con44 c _) ?_; rintro v H' ⟨rfl, rfl⟩) | refine call_q _ (con44 c _) ?_ | refine call_g _ (imp_of (con44 c _)) ?_); simp (maxSteps := 10000000) only [rwp_nil, rwp_cons, rwpK_app, aop, gpath, St.get, slotAt, sfx, eqP, St.put, addBlk, shed]))); with_reducible refine hK _ ?_; clear hK K) | (refine run_cond rfl (fun hc => ?_) (fun hc => ?_) <;> try (simp only [*, Bool.true_eq_false, Bool.false_eq_true, Bool.not_true, Bool.not_false, Bool.true_or, Bool.or_true, Bool.false_or, Bool.or_false, Bool.false_and, Bool.and_false, bne_self_eq_false, beq_self_eq_true] at hc; done)) | refine run_ret ?_ | refine run_nil ?_)
  · exfalso
    unfold newOk at ho
    simp only [Bool.and_eq_true, beq_iff_eq] at ho
    simp [ho.1, ho.2] at hc
  · repeat' (first | refine run_seq ?_ | refine run_skip ?_ | (refine run_region fun K hK => ?_; (try (simp (maxSteps := 10000000) only [partsOf, fillS, Int.toNat_natCast, C18r7, rwp_nil, rwp_cons, aop, gpath, St.get, slotAt, sfx, eqP, segsOf, St.put, addBlk, getB, ld1, ldn, rowNeed, segAt, nsub, shed, addN, Nat.beq, Seg.size, sizes, imp, cut, takeS, dropS, putS, partsOf, fillS, Nat.reduceAdd, List.nil_append, List.cons_append, Int.toNat_natCast])); (repeat (first | (refine And.intro ?_ ?_; · (first | trivial | omega | exact ⟨by omega, by omega⟩ | exact ⟨by omega, by omega, by omega⟩)))); with_reducible refine hK _ ?_; clear hK K) | (refine run_cond rfl (fun hc => ?_) (fun hc => ?_) <;> try (simp only [*, Bool.true_eq_false, Bool.false_eq_true, Bool.not_true, Bool.not_false, Bool.true_or, Bool.or_true, Bool.false_or, Bool.or_false, Bool.false_and, Bool.and_false, bne_self_eq_false, beq_self_eq_true] at hc; done)) | refine run_ret ?_ | refine run_nil ?_)
    refine end_of ⟨[⟨4, [], .c (.ptr ⟨2, 0, 0, 0⟩)⟩, ⟨5, [], .c (.int .i64 0)⟩], ⟨3, [(2, runBI (newR b c) 0 1), (1, runV (newR b c)), (0, opsB b.n b.f)]⟩⟩ (LeS.intro [0, 3, 4] idts (by simp only [diff, notIn, Nat.beq, and_self]) rfl (by simp only [slotsLe, slotAt, leV, leV1, leC, leA, nthO, and_self]) ⟨⟨rfl, rfl, id, Nat.le_refl _, fun i _ => by simp only [runBI, runLI, newR, want0, leSegs, leSeg, leC, leA, nthO, Int.natCast_zero, and_self, implies_true]⟩, ⟨rfl, rfl, id, Nat.le_refl _, fun i _ => by simp only [runV, newR, leSegs, leSeg, leC, and_self]⟩, ops_le b.n b.f false, trivial⟩) ?_
    simp only [endF, resL, resA, St.get, slotAt, sfx, eqP, noTup, resV]
    exact ⟨by first | rfl | trivial, by first | rfl | trivial⟩
end Go.Proofs.Ytmbnakinhnkabaa

namespace Go.Proofs.Ytmbnakinhnkabaa
open Go.AM
set_option maxRecDepth 100000
set_option linter.unusedSimpArgs false
set_option linter.unusedVariables false
theorem four_cases {r : Nat} (h : r < 4) : r = 0 ∨ r = 1 ∨ r = 2 ∨ r = 3 := by omega
theorem flag_set {c : CoreS} {r : Nat} (h : r < 4) (b : Bool) : flagG (flagS c r b) r = b := by
  rcases four_cases h with rfl | rfl | rfl | rfl <;> rfl
theorem flag_other {c : CoreS} {r r' : Nat} (h : r < 4) (h' : r' < 4) (hn : r' ≠ r) (b : Bool) : flagG (flagS c r b) r' = flagG c r' := by
  rcases four_cases h with rfl | rfl | rfl | rfl <;> rcases four_cases h' with rfl | rfl | rfl | rfl <;> first | rfl | exact absurd rfl hn
end Go.Proofs.Ytmbnakinhnkabaa

namespace Go.Proofs.Ytmbnakinhnkabaa
open Go.AM
set_option maxRecDepth 100000
set_option linter.unusedSimpArgs false
set_option linter.unusedVariables false
section
variable {b : BlkS} {x y : RS}
end
end Go.Proofs.Ytmbnakinhnkabaa

namespace Go.Proofs.Ytmbnakinhnkabaa
open Go.AM
set_option maxRecDepth 100000
set_option linter.unusedSimpArgs false
set_option linter.unusedVariables false
end Go.Proofs.Ytmbnakinhnkabaa

namespace Go.Proofs.Ytmbnakinhnkabaa
open Go.AM
set_option maxRecDepth 100000
set_option linter.unusedSimpArgs false
set_option linter.unusedVariables false
theorem next_stop {s : RS} (h : s.left = true ∨ s.waits = true) : nextS s = s := nextN_stop (by rcases h with h | h <;> rw [h] <;> simp) _
theorem next_step {s : RS} (hok : RunOk s) (hl : s.left = false) (hw : s.waits = false) : nextS s = nextS (oneS s (s.b.f s.pos)) := by
  have hp := hok.go hl
  have hc : (!s.left && !s.waits) = true := by rw [hl, hw]; rfl
  unfold nextS
  rw [one_b, one_pos, show s.b.n + 1 - s.pos = (s.b.n + 1 - (s.pos + 1)) + 1 by omega]
  simp only [nextN, hc, if_true]
theorem take_b (s : RS) (g : GotS) : (tookR s g).b = s.b := by
  show (fun r : RS => r.b = s.b) (tookR s g)
  unfold tookR
  repeat' (first | exact rfl | refine ite_P (P := fun r : RS => r.b = s.b) ?_ ?_)
theorem take_pos (s : RS) (g : GotS) : (tookR s g).pos = s.pos := by
  show (fun r : RS => r.pos = s.pos) (tookR s g)
  unfold tookR
  repeat' (first | exact rfl | refine ite_P (P := fun r : RS => r.pos = s.pos) ?_ ?_)
theorem take_waits (s : RS) (g : GotS) : (tookR s g).waits = false := by
  show (fun r : RS => r.waits = false) (tookR s g)
  unfold tookR
  repeat' (first | exact rfl | refine ite_P (P := fun r : RS => r.waits = false) ?_ ?_)
theorem take_core (s : RS) (g : GotS) : (tookR s g).core = s.core := by
  show (fun r : RS => r.core = s.core) (tookR s g)
  unfold tookR
  repeat' (first | exact rfl | refine ite_P (P := fun r : RS => r.core = s.core) ?_ ?_)
theorem RunOk.take {s : RS} (h : RunOk s) (g : GotS) (hg : U g.value) : RunOk (tookR s g) := by
  have hs : ∀ v, U v → ∀ i, U (updI s.vs (s.pos - 1) v i) := fun v hv i => by unfold updI; split; exact hv; exact h.u i
  refine ⟨by rw [take_b]; exact h.hr, by rw [take_b]; exact h.wf, ?_, by rw [take_core]; exact h.x, by rw [take_core]; exact h.sp, ?_⟩
  · show (fun r : RS => ∀ i, U (r.vs i)) (tookR s g)
    unfold tookR
    repeat' (first | exact h.u | exact hs _ U_0 | exact hs _ U_1 | exact hs _ hg | refine ite_P (P := fun r : RS => ∀ i, U (r.vs i)) ?_ ?_)
  · show (fun r : RS => r.left = false → r.pos < r.b.n) (tookR s g)
    unfold tookR
    repeat' (first | exact h.go | (intro hh; cases hh; done) | refine ite_P (P := fun r : RS => r.left = false → r.pos < r.b.n) ?_ ?_)
end Go.Proofs.Ytmbnakinhnkabaa

namespace Go.Proofs.Ytmbnakinhnkabaa
open Go.AM
set_option maxRecDepth 100000
set_option linter.unusedSimpArgs false
set_option linter.unusedVariables false
structure CoreAll (p q : CoreS) : Prop where
  x : ∀ i, i < 31 → p.x i = q.x i
  sp : ∀ i, i < 2 → p.sp i = q.sp i
  pc : p.pc = q.pc
  n : p.n = q.n
  z : p.z = q.z
  c : p.c = q.c
  v : p.v = q.v
  el : p.el = q.el
  mask : p.mask = q.mask
  q0 : p.q0 = q.q0
  q1 : p.q1 = q.q1
  q2 : p.q2 = q.q2
  q3 : p.q3 = q.q3
  q4 : p.q4 = q.q4
  q5 : p.q5 = q.q5
  id : p.id = q.id
  wait : p.wait = q.wait
  last : p.last = q.last
theorem CoreAll.refl (c : CoreS) : CoreAll c c := ⟨fun _ _ => rfl, fun _ _ => rfl, rfl, rfl, rfl, rfl, rfl, rfl, rfl, rfl, rfl, rfl, rfl, rfl, rfl, rfl, rfl, rfl⟩
theorem new_ok {b : BlkS} {c : CoreS} (hr : rightS b = true) (hw : BlkWf b) (hx : ∀ i, i < 31 → U (c.x i)) (hsp : ∀ i, i < 2 → U (c.sp i)) : RunOk (newR b c) :=
  ⟨hr, hw, fun _ => U_0, hx, hsp, fun _ => (right_n hr).1⟩
theorem next_ok : ∀ (t : Nat) {s : RS}, RunOk s → s.b.n - s.pos ≤ t → RunOk (nextS s) ∧ ((nextS s).left = true ∨ (nextS s).waits = true) ∧ (nextS s).b = s.b ∧ s.pos ≤ (nextS s).pos ∧ ((nextS s).left = false → s.waits = false → s.pos < (nextS s).pos)
  | t, s, h, ht => by
    by_cases hst : s.left = true ∨ s.waits = true
    · rw [next_stop hst]
      refine ⟨h, hst, rfl, Nat.le_refl _, fun e1 e2 => ?_⟩
      rcases hst with e | e
      · rw [e] at e1; cases e1
      · rw [e] at e2; cases e2
    · have hl : s.left = false := by
        cases e : s.left with
        | false => rfl
        | true => exact absurd (.inl e) hst
      have hw : s.waits = false := by
        cases e : s.waits with
        | false => rfl
        | true => exact absurd (.inr e) hst
      have hp := h.go hl
      match t, ht with
      | 0, ht => omega
      | t + 1, ht =>
        rw [next_step h hl hw]
        obtain ⟨h1, h2, h3, h4, h5⟩ := next_ok t (h.one hl) (by rw [one_b, one_pos]; omega)
        rw [one_b] at h3
        rw [one_pos] at h4
        exact ⟨h1, h2, h3, by omega, fun _ _ => by omega⟩
end Go.Proofs.Ytmbnakinhnkabaa

namespace Go.Proofs.Ytmbnakinhnkabaa
open Go.AM
set_option maxRecDepth 100000
set_option linter.unusedSimpArgs false
set_option linter.unusedVariables false
def valC (e : Nat) (c : CoreS) (k r : Int) : Int := if k = 0 then c.x r.toNat else if k = 1 then c.sp e else if flagG c r = true then 1 else 0
def KOk (k r : Int) : Prop := (k = 0 ∧ 0 ≤ r) ∨ (k = 1 ∧ r = 0) ∨ (k = 2 ∧ 0 ≤ r ∧ r ≤ 3)
structure Vals (s : PS) (xv yv : Nat → Int) (c : CoreS) : Prop where
  at_ : ∀ i, i < s.na → defS (s.b.f i).kind = true → yv (s.a i).toNat = xv i
  cst : ∀ j, j < s.m → (s.f j).kind = 1 → yv j = (s.f j).imm
  tru : ∀ j, j < s.m → truthF (s.f j) = true → yv j = 0 ∨ yv j = 1
  kn : ∀ k r v, Has s k r v → KOk k r ∧ yv v.toNat = valC s.b.el.toNat c k r
theorem has_lt {s : PS} (h : PsOk s) {k r v : Int} (hh : Has s k r v) : 0 ≤ v ∧ v < s.m := by
  obtain ⟨j, h1, _, _, rfl⟩ := hh
  exact h.kn j h1
theorem Vals.lay {s s' : PS} {xv yv xv' yv' : Nat → Int} {c c' : CoreS} (h : Vals s xv yv c) (hok : PsOk s) {x' : OpS}
    (eb : s'.b = s.b) (ena : s'.na = s.na + 1) (em : s'.m = s.m + 1) (ef : ∀ i, s'.f i = if i < s.m then s.f i else x') (ea : ∀ i, s'.a i = if i < s.na then s.a i else (s.m : Int))
    (hx : ∀ i, i < s.na → xv' i = xv i) (hy : ∀ j, j < s.m → yv' j = yv j)
    (hd : defS (s.b.f s.na).kind = true → yv' s.m = xv' s.na)
    (hc : x'.kind = 1 → yv' s.m = x'.imm) (ht : truthF x' = true → yv' s.m = 0 ∨ yv' s.m = 1)
    (hk : ∀ k r v, Has s' k r v → KOk k r ∧ yv' v.toNat = valC s.b.el.toNat c' k r) : Vals s' xv' yv' c' := by
  refine ⟨fun i hi hd' => ?_, fun j hj hk' => ?_, fun j hj hk' => ?_, fun k r v hh => by rw [eb]; exact hk k r v hh⟩
  · rw [eb] at hd'
    rw [ea]
    by_cases e : i < s.na
    · rw [if_pos e, hx i e]
      have := hok.at_ i e hd'
      rw [hy _ (by omega)]
      exact h.at_ i e hd'
    · have : i = s.na := by omega
      subst this
      rw [if_neg e, Int.toNat_natCast]
      exact hd hd'
  · rw [ef] at hk' ⊢
    by_cases e : j < s.m
    · rw [if_pos e] at hk' ⊢
      rw [hy j e]
      exact h.cst j e hk'
    · have : j = s.m := by omega
      subst this
      rw [if_neg e] at hk' ⊢
      exact hc hk'
  · rw [ef] at hk'
    by_cases e : j < s.m
    · rw [if_pos e] at hk'
      rw [hy j e]
      exact h.tru j e hk'
    · have : j = s.m := by omega
      subst this
      rw [if_neg e] at hk'
      exact ht hk'
theorem Vals.same {s s' : PS} {xv yv yv' : Nat → Int} {c c' : CoreS} (h : Vals s xv yv c) (hok : PsOk s) (hs : ∀ k r v, Has s' k r v → Has s k r v) (hy : ∀ j, j < s.m → yv' j = yv j)
    (hcv : ∀ k r, valC s.b.el.toNat c' k r = valC s.b.el.toNat c k r) : ∀ k r v, Has s' k r v → KOk k r ∧ yv' v.toNat = valC s.b.el.toNat c' k r := fun k r v hh => by
  have h1 := hs k r v hh
  have h2 := has_lt hok h1
  obtain ⟨h3, h4⟩ := h.kn k r v h1
  exact ⟨h3, by rw [hy _ (by omega), h4, hcv]⟩
structure Stage (b : BlkS) (s : PS) (x y : RS) : Prop where
  sb : s.b = b
  r : PsR s
  d : KnD s
  lt : s.na < b.n
  reach : stepN (b.n - s.na) s = stepS b
  vals : Vals s x.vs y.vs x.core
  px : x.pos = if x.waits = true then s.na + 1 else s.na
  py : y.pos = if x.waits = true then s.m + 1 else s.m
  wt : x.waits = true → accS (b.f s.na).kind = true ∨ (b.f s.na).kind = 13
structure FM (b : BlkS) (x y : RS) : Prop where
  xb : x.b = b
  yb : y.b = foldB b
  okx : RunOk x
  oky : RunOk y
  waits : y.waits = x.waits
  want : y.want = x.want
  left : y.left = x.left
  fal : y.faulted = x.faulted
  gst : y.guest = x.guest
  wrd : y.word = x.word
  core : y.core = x.core
  st : x.left = false → ∃ s, Stage b s x y
structure Like (x x1 : RS) : Prop where
  b : x1.b = x.b
  want : x1.want = x.want
  fal : x1.faulted = x.faulted
  gst : x1.guest = x.guest
  wrd : x1.word = x.word
theorem stepN_keep : ∀ (t : Nat) {s : PS}, PsOk s → s.m ≤ (stepN t s).m ∧ ∀ j, j < s.m → (stepN t s).f j = s.f j
  | 0, s, _ => ⟨Nat.le_refl _, fun _ _ => rfl⟩
  | t + 1, s, h => by
    simp only [stepN]
    by_cases hlt : s.na < s.b.n
    · have ho := nextP_ok h hlt
      have hm : s.m ≤ (afterP s).m := by
        show s.m ≤ (nextP s).s.m
        rw [ho.m]; split <;> omega
      have hf : ∀ j, j < s.m → (afterP s).f j = s.f j := ho.f
      rw [if_pos hlt]
      by_cases he : (nextP s).e = true
      · rw [if_pos he]; exact ⟨hm, hf⟩
      · rw [if_neg he]
        obtain ⟨g1, g2⟩ := stepN_keep t (after_ok h hlt)
        exact ⟨Nat.le_trans hm g1, fun j hj => (g2 j (by omega)).trans (hf j hj)⟩
    · rw [if_neg hlt]; exact ⟨Nat.le_refl _, fun _ _ => rfl⟩
section
variable {b : BlkS} {s : PS} {x y x1 y1 : RS}
theorem Stage.hlt (hs : Stage b s x y) : s.na < s.b.n := by rw [hs.sb]; exact hs.lt
theorem Stage.next (hs : Stage b s x y) : stepS b = if (nextP s).e = true then afterP s else stepN (b.n - (s.na + 1)) (afterP s) := by
  have h1 := hs.lt
  rw [← hs.reach, show b.n - s.na = (b.n - (s.na + 1)) + 1 by omega]
  simp only [stepN]
  rw [if_pos hs.hlt]
theorem Stage.laid (hs : Stage b s x y) {j : Nat} (hj : j < (nextP s).s.m) : (foldB b).f j = (nextP s).s.f j := by
  show (stepS b).f j = _
  rw [hs.next]
  split
  · rfl
  · exact (stepN_keep _ (after_ok hs.r.ok hs.hlt)).2 j hj
theorem FM.go (h : FM b x y) (hs : Stage b s x y) (k1 : Like x x1) (k2 : Like y y1) (o1 : RunOk x1) (o2 : RunOk y1) (w1 : x1.waits = false) (w2 : y1.waits = false) (l1 : x1.left = false) (l2 : y1.left = false)
    (hc : y1.core = x1.core) (p1 : x1.pos = s.na + 1) (p2 : y1.pos = (nextP s).s.m) (he : (nextP s).e = false) (hv : Vals (afterP s) x1.vs y1.vs x1.core) : FM b x1 y1 := by
  have hlt := hs.hlt
  have hb := after_b hs.r.ok hlt
  have hna := after_na hs.r.ok hlt
  refine ⟨by rw [k1.b]; exact h.xb, by rw [k2.b]; exact h.yb, o1, o2, by rw [w1, w2], by rw [k1.want, k2.want]; exact h.want, by rw [l1, l2], by rw [k1.fal, k2.fal]; exact h.fal, by rw [k1.gst, k2.gst]; exact h.gst, by rw [k1.wrd, k2.wrd]; exact h.wrd, hc, fun _ => ⟨afterP s, ?_⟩⟩
  have hgo := o1.go l1
  rw [p1, k1.b, h.xb] at hgo
  refine ⟨hb.trans hs.sb, after_r hs.r hlt, after_d hs.d, by rw [hna]; exact hgo, ?_, hv, by rw [w1, hna]; exact p1, by rw [w1]; exact p2, fun e => by rw [w1] at e; cases e⟩
  have := hs.next
  rw [he] at this
  rw [hna, this]
  rfl
theorem FM.fin (h : FM b x y) (e1 : x1.b = x.b) (e2 : y1.b = y.b) (o1 : RunOk x1) (o2 : RunOk y1) (w1 : x1.waits = false) (w2 : y1.waits = false) (n : y1.want = x1.want) (l1 : x1.left = true) (l2 : y1.left = true)
    (hf : y1.faulted = x1.faulted) (hg : y1.guest = x1.guest) (hw : y1.word = x1.word) (hc : y1.core = x1.core) : FM b x1 y1 :=
  ⟨by rw [e1]; exact h.xb, by rw [e2]; exact h.yb, o1, o2, by rw [w1, w2], n, by rw [l1, l2], hf, hg, hw, hc, fun e => by rw [l1] at e; cases e⟩
theorem FM.wait (h : FM b x y) (hs : Stage b s x y) (hl : x.left = false) (hw : x.waits = false) (w : WantS) (hk : accS (b.f s.na).kind = true ∨ (b.f s.na).kind = 13) (o1 : RunOk (waitS (nxt x) w)) (o2 : RunOk (waitS (nxt y) w)) : FM b (waitS (nxt x) w) (waitS (nxt y) w) := by
  refine ⟨h.xb, h.yb, o1, o2, rfl, rfl, h.left, h.fal, h.gst, h.wrd, h.core, fun _ => ⟨s, hs.sb, hs.r, hs.d, hs.lt, hs.reach, hs.vals, ?_, ?_, fun _ => hk⟩⟩
  · show x.pos + 1 = s.na + 1
    have := hs.px
    rw [hw] at this
    rw [this]; rfl
  · show y.pos + 1 = s.m + 1
    have := hs.py
    rw [hw] at this
    rw [this]; rfl
theorem Stage.p (hs : Stage b s x y) (hw : x.waits = false) : x.pos = s.na ∧ y.pos = s.m := by
  have h1 := hs.px
  have h2 := hs.py
  rw [hw] at h1 h2
  exact ⟨h1, h2⟩
theorem Stage.useA (hs : Stage b s x y) (hu : 0 < usesS (s.b.f s.na).kind) : y.vs (reO s (s.b.f s.na)).a.toNat = x.vs (s.b.f s.na).a.toNat := by
  obtain ⟨h1, h2, h3⟩ := right_use hs.r.ok.r hs.hlt (i := 0) hu
  have e : useF (s.b.f s.na) 0 = (s.b.f s.na).a := rfl
  rw [e] at h1 h2 h3
  have e2 : (reO s (s.b.f s.na)).a = s.a (s.b.f s.na).a.toNat := by simp only [reO, hu, if_true]
  rw [e2]
  exact hs.vals.at_ _ (by omega) h3
theorem Stage.useB (hs : Stage b s x y) (hu : 1 < usesS (s.b.f s.na).kind) : y.vs (reO s (s.b.f s.na)).b.toNat = x.vs (s.b.f s.na).b.toNat := by
  obtain ⟨h1, h2, h3⟩ := right_use hs.r.ok.r hs.hlt (i := 1) hu
  have e : useF (s.b.f s.na) 1 = (s.b.f s.na).b := rfl
  rw [e] at h1 h2 h3
  have e2 : (reO s (s.b.f s.na)).b = s.a (s.b.f s.na).b.toNat := by simp only [reO, hu, if_true]
  rw [e2]
  exact hs.vals.at_ _ (by omega) h3
theorem Stage.opY (h : FM b x y) (hs : Stage b s x y) (hw : x.waits = false) {x' : OpS} (hm : (nextP s).s.m = s.m + 1) (hf : (nextP s).s.f s.m = x') : y.b.f y.pos = x' := by
  rw [h.yb, (hs.p hw).2, hs.laid (by omega), hf]
theorem Stage.opX (h : FM b x y) (hs : Stage b s x y) (hw : x.waits = false) : x.b.f x.pos = s.b.f s.na := by
  rw [(hs.p hw).1, h.xb, hs.sb]
theorem lay_f (s : PS) (x' : OpS) : (layO s x').s.f s.m = x' := by
  show (if s.m < s.m then s.f s.m else x') = x'
  rw [if_neg (by omega)]
theorem FM.lay_def (h : FM b x y) (hs : Stage b s x y) (hl : x.left = false) (hw : x.waits = false) {x' : OpS} (hn : nextP s = layO s x') (v : Int) (ex : oneS x (s.b.f s.na) = setV (nxt x) x.pos v) (ey : oneS y x' = setV (nxt y) y.pos v)
    (hc : x'.kind = 1 → v = x'.imm) (ht : truthF x' = true → v = 0 ∨ v = 1) : FM b (oneS x (x.b.f x.pos)) (oneS y (y.b.f y.pos)) := by
  have hyl : y.left = false := by rw [h.left]; exact hl
  have hyw : y.waits = false := by rw [h.waits]; exact hw
  have o1 := h.okx.one hl
  have o2 := h.oky.one hyl
  have hy := Stage.opY h hs hw (x' := x') (by rw [hn]; rfl) (by rw [hn]; exact lay_f s x')
  obtain ⟨p1, p2⟩ := hs.p hw
  rw [Stage.opX h hs hw, ex] at o1 ⊢
  rw [hy, ey] at o2 ⊢
  refine h.go hs ⟨rfl, rfl, rfl, rfl, rfl⟩ ⟨rfl, rfl, rfl, rfl, rfl⟩ o1 o2 hw hyw hl hyl h.core (by show x.pos + 1 = _; rw [p1]) (by show y.pos + 1 = _; rw [hn, p2]; rfl) (by rw [hn]; rfl) ?_
  have ha : afterP s = atPush (layS s x') s.m := by unfold afterP; rw [hn]; rfl
  have ux : ∀ i, i < s.na → updI x.vs x.pos v i = x.vs i := fun i hi => by unfold updI; rw [if_neg (by omega)]
  have uy : ∀ i, i < s.m → updI y.vs y.pos v i = y.vs i := fun i hi => by unfold updI; rw [if_neg (by omega)]
  have vx : updI x.vs x.pos v s.na = v := by unfold updI; rw [if_pos p1.symm]
  have vy : updI y.vs y.pos v s.m = v := by unfold updI; rw [if_pos p2.symm]
  rw [ha]
  refine hs.vals.lay hs.r.ok (x' := x') rfl rfl rfl (fun _ => rfl) (fun _ => rfl) ux uy (fun _ => vy.trans vx.symm) (fun e => vy.trans (hc e)) (fun e => by rcases ht e with e | e; exact .inl (vy.trans e); exact .inr (vy.trans e)) ?_
  exact hs.vals.same hs.r.ok (fun _ _ _ hh => hh) uy (fun _ _ => rfl)
theorem FM.lay_core (h : FM b x y) (hs : Stage b s x y) (hl : x.left = false) (hw : x.waits = false) {x' : OpS} (hn : nextP s = layO s x') (c : CoreS) (ex : oneS x (s.b.f s.na) = { nxt x with core := c }) (ey : oneS y x' = { nxt y with core := c })
    (hv : ∀ k r, valC s.b.el.toNat c k r = valC s.b.el.toNat x.core k r) (hd : defS (s.b.f s.na).kind = false) (hc : x'.kind ≠ 1) (ht : truthF x' = false) : FM b (oneS x (x.b.f x.pos)) (oneS y (y.b.f y.pos)) := by
  have hyl : y.left = false := by rw [h.left]; exact hl
  have hyw : y.waits = false := by rw [h.waits]; exact hw
  have o1 := h.okx.one hl
  have o2 := h.oky.one hyl
  have hy := Stage.opY h hs hw (x' := x') (by rw [hn]; rfl) (by rw [hn]; exact lay_f s x')
  obtain ⟨p1, p2⟩ := hs.p hw
  rw [Stage.opX h hs hw, ex] at o1 ⊢
  rw [hy, ey] at o2 ⊢
  refine h.go hs ⟨rfl, rfl, rfl, rfl, rfl⟩ ⟨rfl, rfl, rfl, rfl, rfl⟩ o1 o2 hw hyw hl hyl rfl (by show x.pos + 1 = _; rw [p1]) (by show y.pos + 1 = _; rw [hn, p2]; rfl) (by rw [hn]; rfl) ?_
  have ha : afterP s = atPush (layS s x') s.m := by unfold afterP; rw [hn]; rfl
  rw [ha]
  refine hs.vals.lay hs.r.ok (x' := x') rfl rfl rfl (fun _ => rfl) (fun _ => rfl) (fun _ _ => rfl) (fun _ _ => rfl) (fun e => by rw [hd] at e; cases e) (fun e => absurd e hc) (fun e => by rw [ht] at e; cases e) ?_
  exact hs.vals.same hs.r.ok (fun _ _ _ hh => hh) (fun _ _ => rfl) hv
end
end Go.Proofs.Ytmbnakinhnkabaa

namespace Go.Proofs.Ytmbnakinhnkabaa
open Go.AM
set_option maxRecDepth 100000
set_option linter.unusedSimpArgs false
set_option linter.unusedVariables false
theorem valC_x {e : Nat} {c : CoreS} {r v k r' : Int} (h1 : 0 ≤ r) (hk : KOk k r') (hn : ¬ (k = 0 ∧ r' = r)) : valC e { c with x := updI c.x r.toNat v } k r' = valC e c k r' := by
  unfold valC
  by_cases h0 : k = 0
  · rw [if_pos h0, if_pos h0]
    have h2 : 0 ≤ r' := by rcases hk with h | h | h <;> omega
    show updI c.x r.toNat v r'.toNat = c.x r'.toNat
    unfold updI
    rw [if_neg (by omega)]
  · rw [if_neg h0, if_neg h0]
    rfl
theorem valC_sp {e : Nat} {c : CoreS} {v k r' : Int} (hk : KOk k r') (hn : ¬ (k = 1 ∧ r' = 0)) : valC e { c with sp := updI c.sp e v } k r' = valC e c k r' := by
  have h1 : ¬ k = 1 := by rcases hk with h | h | h <;> omega
  unfold valC
  rw [if_neg h1, if_neg h1]
  rfl
theorem valC_f {e : Nat} {c : CoreS} {r : Int} {v : Bool} {k r' : Int} (h1 : 0 ≤ r ∧ r ≤ 3) (hk : KOk k r') (hn : ¬ (k = 2 ∧ r' = r)) : valC e (flagS c r v) k r' = valC e c k r' := by
  unfold valC
  rw [(flagS_x c r v).1, (flagS_x c r v).2]
  by_cases h0 : k = 0
  · rw [if_pos h0, if_pos h0]
  by_cases h2 : k = 1
  · rw [if_neg h0, if_neg h0, if_pos h2, if_pos h2]
  rw [if_neg h0, if_neg h0, if_neg h2, if_neg h2]
  have h3 : 0 ≤ r' ∧ r' ≤ 3 := by rcases hk with h | h | h <;> omega
  have h4 : r' ≠ r := by rcases hk with h | h | h <;> omega
  have e1 : (r.toNat : Int) = r := by omega
  have e2 : (r'.toNat : Int) = r' := by omega
  have := flag_other (c := c) (r := r.toNat) (r' := r'.toNat) (by omega) (by omega) (by omega) v
  rw [e1, e2] at this
  rw [this]
theorem pk_x {o : OpS} (e : o.kind = 2 ∨ o.kind = 3) : placeK o = 0 ∧ placeR o = o.r := by
  unfold placeK placeR
  rw [if_pos e, if_pos e]
  exact ⟨rfl, rfl⟩
theorem pk_s {o : OpS} (e : o.kind = 4 ∨ o.kind = 5) : placeK o = 1 ∧ placeR o = 0 := by
  unfold placeK placeR
  have h : ¬ (o.kind = 2 ∨ o.kind = 3) := by omega
  rw [if_neg h, if_neg h, if_pos e, if_pos e]
  exact ⟨rfl, rfl⟩
theorem pk_f {o : OpS} (e : o.kind = 6 ∨ o.kind = 7) : placeK o = 2 ∧ placeR o = o.r := by
  unfold placeK placeR
  have h : ¬ (o.kind = 2 ∨ o.kind = 3) := by omega
  have h' : ¬ (o.kind = 4 ∨ o.kind = 5) := by omega
  rw [if_neg h, if_neg h, if_neg h', if_neg h', if_pos e, if_pos e]
  exact ⟨rfl, rfl⟩
section
variable {b : BlkS} {s : PS} {x y : RS}
theorem Stage.rf (hs : Stage b s x y) : rightF (s.b.f s.na) = true := (ropS_ab (opsOk_at (right_ops hs.r.ok.r) hs.hlt).1).2.2
theorem FM.get (h : FM b x y) (hs : Stage b s x y) (hl : x.left = false) (hw : x.waits = false) (hk : (s.b.f s.na).kind = 2 ∨ (s.b.f s.na).kind = 4 ∨ (s.b.f s.na).kind = 6) :
    FM b (oneS x (x.b.f x.pos)) y ∨ FM b (oneS x (x.b.f x.pos)) (oneS y (y.b.f y.pos)) := by
  have hyl : y.left = false := by rw [h.left]; exact hl
  have hyw : y.waits = false := by rw [h.waits]; exact hw
  have o1 := h.okx.one hl
  have o2 := h.oky.one hyl
  have hrF := hs.rf
  have hrop := reO_rop hs.r hs.hlt
  obtain ⟨p1, p2⟩ := hs.p hw
  have hxb : x.b = s.b := by rw [h.xb, hs.sb]
  have hye : y.b.el = s.b.el := by rw [h.yb, hs.sb]; rfl
  have hcore := h.core
  have hox := Stage.opX h hs hw
  rw [hox] at o1 ⊢
  have hre : reO s (s.b.f s.na) = s.b.f s.na := reO_none (by rcases hk with e | e | e <;> rw [e] <;> decide)
  generalize ho : s.b.f s.na = o at *
  generalize hV : valC s.b.el.toNat x.core (placeK o) (placeR o) = V
  have k1 : placeOk o = true := by unfold placeOk; rcases hk with e | e | e <;> rw [e] <;> decide
  have k2 : ¬ placeSet o = true := by unfold placeSet; rcases hk with e | e | e <;> rw [e] <;> decide
  have hK : KOk (placeK o) (placeR o) := by
    rcases hk with e | e | e
    · have : 0 ≤ o.r ∧ o.r ≤ 30 := by simpa [rightF, e, upS] using hrF
      rw [(pk_x (.inl e)).1, (pk_x (.inl e)).2]
      exact .inl ⟨rfl, this.1⟩
    · rw [(pk_s (.inl e)).1, (pk_s (.inl e)).2]
      exact .inr (.inl ⟨rfl, rfl⟩)
    · have : 0 ≤ o.r ∧ o.r ≤ 3 := by simpa [rightF, e, upS] using hrF
      rw [(pk_f (.inl e)).1, (pk_f (.inl e)).2]
      exact .inr (.inr ⟨rfl, this⟩)
  have ex : oneS x o = setV (nxt x) x.pos V := by
    rw [← hV]
    unfold valC placeK placeR
    rcases hk with e | e | e
    all_goals (simp only [oneS, e, hxb, Int.reduceEq, if_true, if_false, reduceIte, true_or, or_true, or_self]; try rfl)
  have ey : oneS y o = setV (nxt y) y.pos V := by
    rw [← hV]
    unfold valC placeK placeR
    rcases hk with e | e | e
    all_goals (simp only [oneS, e, hye, hcore, Int.reduceEq, if_true, if_false, reduceIte, true_or, or_true, or_self]; try rfl)
  have ux : ∀ i, i < s.na → updI x.vs x.pos V i = x.vs i := fun i hi => by unfold updI; rw [if_neg (by omega)]
  have uy : ∀ i, i < s.m → updI y.vs y.pos V i = y.vs i := fun i hi => by unfold updI; rw [if_neg (by omega)]
  have vx : updI x.vs x.pos V s.na = V := by unfold updI; rw [if_pos p1.symm]
  have vy : updI y.vs y.pos V s.m = V := by unfold updI; rw [if_pos p2.symm]
  by_cases hf : knFind s (placeK o) (placeR o) < s.kn
  · left
    have hn : nextP s = ⟨s, s.kv (knFind s (placeK o) (placeR o)), false, false⟩ := by
      unfold nextP
      rw [ho, hre]
      unfold oneP
      rw [if_pos k1, if_neg k2, if_pos hf]
    obtain ⟨a1, a2⟩ := find_at hf
    obtain ⟨_, hv⟩ := hs.vals.kn _ _ _ ⟨_, hf, a1, a2, rfl⟩
    rw [ex] at o1 ⊢
    refine h.go hs ⟨rfl, rfl, rfl, rfl, rfl⟩ ⟨rfl, rfl, rfl, rfl, rfl⟩ o1 h.oky hw hyw hl hyl h.core (by show x.pos + 1 = _; rw [p1]) (by rw [hn]; exact p2) (by rw [hn]) ?_
    have ha : afterP s = atPush s (s.kv (knFind s (placeK o) (placeR o))) := by unfold afterP; rw [hn]
    rw [ha]
    refine ⟨fun i hi hd => ?_, hs.vals.cst, hs.vals.tru, hs.vals.kn⟩
    show y.vs (if i < s.na then s.a i else s.kv (knFind s (placeK o) (placeR o))).toNat = updI x.vs x.pos V i
    by_cases e : i < s.na
    · rw [if_pos e, ux i e]
      exact hs.vals.at_ i e hd
    · have : i = s.na := by
        have : i < s.na + 1 := hi
        omega
      subst this
      rw [if_neg e, vx, hv, hV]
  · right
    have hn : nextP s = ⟨knPut (layS s o) (placeK o) (placeR o) s.m, s.m, false, true⟩ := by
      unfold nextP
      rw [ho, hre]
      unfold oneP
      rw [if_pos k1, if_neg k2, if_neg hf]
    have hoy : y.b.f y.pos = o := Stage.opY h hs hw (by rw [hn]; rfl) (by rw [hn]; exact lay_f s o)
    rw [hoy] at o2 ⊢
    rw [ex] at o1 ⊢
    rw [ey] at o2 ⊢
    refine h.go hs ⟨rfl, rfl, rfl, rfl, rfl⟩ ⟨rfl, rfl, rfl, rfl, rfl⟩ o1 o2 hw hyw hl hyl h.core (by show x.pos + 1 = _; rw [p1]) (by show y.pos + 1 = _; rw [hn, p2]; rfl) (by rw [hn]) ?_
    have ha : afterP s = atPush (knPut (layS s o) (placeK o) (placeR o) s.m) s.m := by unfold afterP; rw [hn]
    rw [ha]
    refine hs.vals.lay hs.r.ok (x' := o) rfl rfl rfl (fun _ => rfl) (fun _ => rfl) ux uy (fun _ => vy.trans vx.symm) (fun e => ?_) (fun e => ?_) (fun k r v hh => ?_)
    · exfalso
      rcases hk with e' | e' | e' <;> rw [e'] at e <;> exact absurd e (by decide)
    · show updI y.vs y.pos V s.m = 0 ∨ updI y.vs y.pos V s.m = 1
      rw [vy]
      rcases hk with e' | e' | e'
      · exfalso; unfold truthF at e; simp [e'] at e
      · exfalso; unfold truthF at e; simp [e'] at e
      · rw [← hV]
        unfold valC placeK placeR
        simp only [e', Int.reduceEq, if_true, if_false, reduceIte, true_or, or_true, or_self]
        split
        · exact .inr rfl
        · exact .inl rfl
    · have hd0 : KnD (layS s o) := hs.d
      rcases (put_has hd0).1 (show Has (knPut (layS s o) (placeK o) (placeR o) s.m) k r v from hh) with ⟨rfl, rfl, rfl⟩ | ⟨_, h2⟩
      · refine ⟨hK, ?_⟩
        rw [Int.toNat_natCast]
        exact vy.trans hV.symm
      · have h2' : Has s k r v := h2
        have h3 := has_lt hs.r.ok h2'
        obtain ⟨h4, h5⟩ := hs.vals.kn k r v h2'
        exact ⟨h4, by
          show updI y.vs y.pos V v.toNat = valC s.b.el.toNat x.core k r
          rw [uy _ (by omega)]; exact h5⟩
theorem FM.set (h : FM b x y) (hs : Stage b s x y) (hl : x.left = false) (hw : x.waits = false) (hk : (s.b.f s.na).kind = 3 ∨ (s.b.f s.na).kind = 5 ∨ (s.b.f s.na).kind = 7) :
    FM b (oneS x (x.b.f x.pos)) (oneS y (y.b.f y.pos)) := by
  have hyl : y.left = false := by rw [h.left]; exact hl
  have hyw : y.waits = false := by rw [h.waits]; exact hw
  have o1 := h.okx.one hl
  have o2 := h.oky.one hyl
  have hrF := hs.rf
  have hA := hs.useA (by rcases hk with e | e | e <;> rw [e] <;> decide)
  have hfit := (hs.r.ok.fit hs.hlt).a (by rw [reO_kind]; rcases hk with e | e | e <;> rw [e] <;> decide)
  obtain ⟨p1, p2⟩ := hs.p hw
  have hxb : x.b = s.b := by rw [h.xb, hs.sb]
  have hye : y.b.el = s.b.el := by rw [h.yb, hs.sb]; rfl
  have hcore := h.core
  have hox := Stage.opX h hs hw
  rw [hox] at o1 ⊢
  have hdef : defS (s.b.f s.na).kind = false := by rcases hk with e | e | e <;> rw [e] <;> decide
  have hk' : (reO s (s.b.f s.na)).kind = 3 ∨ (reO s (s.b.f s.na)).kind = 5 ∨ (reO s (s.b.f s.na)).kind = 7 := hk
  have hr' : (reO s (s.b.f s.na)).r = (s.b.f s.na).r := rfl
  have hkk' : (reO s (s.b.f s.na)).kind = (s.b.f s.na).kind := rfl
  have hn0 : nextP s = oneP s (reO s (s.b.f s.na)) := rfl
  generalize ho : s.b.f s.na = o at *
  generalize reO s o = o' at *
  have k1 : placeOk o' = true := by unfold placeOk; rcases hk' with e | e | e <;> rw [e] <;> decide
  have k2 : placeSet o' = true := by unfold placeSet; rcases hk' with e | e | e <;> rw [e] <;> decide
  have hn : nextP s = ⟨layS (knSet s o' (placeK o') (placeR o')) o', s.m, false, true⟩ := by
    rw [hn0]
    unfold oneP
    rw [if_pos k1, if_pos k2]
  have hm0 : (knSet s o' (placeK o') (placeR o')).m = s.m := knSet_m _ _ _ _
  obtain ⟨g1, g2, g3⟩ := knSet_at s o' (placeK o') (placeR o')
  have hb0 := knSet_b s o' (placeK o') (placeR o')
  have hoy : y.b.f y.pos = o' := Stage.opY h hs hw (by rw [hn]; show (knSet s o' (placeK o') (placeR o')).m + 1 = _; rw [hm0]) (by
    rw [hn]
    show (if s.m < (knSet s o' (placeK o') (placeR o')).m then (knSet s o' (placeK o') (placeR o')).f s.m else o') = o'
    rw [hm0, if_neg (by omega)])
  rw [hoy] at o2 ⊢
  -- the new core
  obtain ⟨c, ex, ey, hsame, hother⟩ : ∃ c : CoreS, oneS x o = { nxt x with core := c } ∧ oneS y o' = { nxt y with core := c } ∧
      (((placeK o' != 2) || truthF (s.f o'.a.toNat)) = true → KOk (placeK o') (placeR o') ∧ valC s.b.el.toNat c (placeK o') (placeR o') = y.vs o'.a.toNat) ∧
      ∀ k r, KOk k r → ¬ (k = placeK o' ∧ r = placeR o') → valC s.b.el.toNat c k r = valC s.b.el.toNat x.core k r := by
    rcases hk with e | e | e
    · have e' : o'.kind = 3 := by rw [hkk', e]
      have hrr : 0 ≤ o.r ∧ o.r ≤ 30 := by simpa [rightF, e, upS] using hrF
      refine ⟨{ x.core with x := updI x.core.x o.r.toNat (x.vs o.a.toNat) }, ?_, ?_, fun _ => ?_, fun k r hK hn => ?_⟩
      · simp only [oneS, e, Int.reduceEq, if_true, if_false, reduceIte]; try rfl
      · simp only [oneS, e', hr', hA, hcore, Int.reduceEq, if_true, if_false, reduceIte]; try rfl
      · have q1 : placeK o' = 0 := by unfold placeK; simp only [e', Int.reduceEq, if_true, if_false, reduceIte, true_or, or_true, or_self]
        have q2 : placeR o' = o.r := by unfold placeR; simp only [e', hr', Int.reduceEq, if_true, if_false, reduceIte, true_or, or_true, or_self]
        rw [q1, q2, hA]
        refine ⟨.inl ⟨rfl, hrr.1⟩, ?_⟩
        unfold valC
        rw [if_pos rfl]
        show updI x.core.x o.r.toNat (x.vs o.a.toNat) o.r.toNat = _
        unfold updI
        rw [if_pos rfl]
      · have q1 : placeK o' = 0 := by unfold placeK; simp only [e', Int.reduceEq, if_true, if_false, reduceIte, true_or, or_true, or_self]
        have q2 : placeR o' = o.r := by unfold placeR; simp only [e', hr', Int.reduceEq, if_true, if_false, reduceIte, true_or, or_true, or_self]
        rw [q1, q2] at hn
        exact valC_x hrr.1 hK hn
    · have e' : o'.kind = 5 := by rw [hkk', e]
      have q1 : placeK o' = 1 := by unfold placeK; simp only [e', Int.reduceEq, if_true, if_false, reduceIte, true_or, or_true, or_self]
      have q2 : placeR o' = 0 := by unfold placeR; simp only [e', Int.reduceEq, if_true, if_false, reduceIte, true_or, or_true, or_self]
      refine ⟨{ x.core with sp := updI x.core.sp s.b.el.toNat (x.vs o.a.toNat) }, ?_, ?_, fun _ => ?_, fun k r hK hn => ?_⟩
      · simp only [oneS, e, hxb, Int.reduceEq, if_true, if_false, reduceIte]; try rfl
      · simp only [oneS, e', hr', hA, hcore, hye, Int.reduceEq, if_true, if_false, reduceIte]; try rfl
      · rw [q1, q2, hA]
        refine ⟨.inr (.inl ⟨rfl, rfl⟩), ?_⟩
        unfold valC
        rw [if_neg (by decide), if_pos rfl]
        show updI x.core.sp s.b.el.toNat (x.vs o.a.toNat) s.b.el.toNat = _
        unfold updI
        rw [if_pos rfl]
      · rw [q1, q2] at hn
        exact valC_sp hK hn
    · have e' : o'.kind = 7 := by rw [hkk', e]
      have hrr : 0 ≤ o.r ∧ o.r ≤ 3 := by simpa [rightF, e, upS] using hrF
      have q1 : placeK o' = 2 := by unfold placeK; simp only [e', Int.reduceEq, if_true, if_false, reduceIte, true_or, or_true, or_self]
      have q2 : placeR o' = o.r := by unfold placeR; simp only [e', hr', Int.reduceEq, if_true, if_false, reduceIte, true_or, or_true, or_self]
      refine ⟨flagS x.core o.r (x.vs o.a.toNat != 0), ?_, ?_, fun ht => ?_, fun k r hK hn => ?_⟩
      · simp only [oneS, e, Int.reduceEq, if_true, if_false, reduceIte]; try rfl
      · simp only [oneS, e', hr', hA, hcore, Int.reduceEq, if_true, if_false, reduceIte]; try rfl
      · rw [q1] at ht
        have ht' : truthF (s.f o'.a.toNat) = true := by simpa using ht
        have hv := hs.vals.tru o'.a.toNat (by omega) ht'
        rw [q1, q2]
        refine ⟨.inr (.inr ⟨rfl, hrr⟩), ?_⟩
        unfold valC
        rw [if_neg (by decide), if_neg (by decide)]
        have e1 : (o.r.toNat : Int) = o.r := by omega
        have := flag_set (c := x.core) (r := o.r.toNat) (by omega) (x.vs o.a.toNat != 0)
        rw [e1] at this
        rw [this]
        rw [hA] at hv ⊢
        rcases hv with hv | hv <;> rw [hv] <;> rfl
      · rw [q1, q2] at hn
        exact valC_f hrr hK hn
  rw [ex] at o1 ⊢
  rw [ey] at o2 ⊢
  refine h.go hs ⟨rfl, rfl, rfl, rfl, rfl⟩ ⟨rfl, rfl, rfl, rfl, rfl⟩ o1 o2 hw hyw hl hyl rfl (by show x.pos + 1 = _; rw [p1]) (by show y.pos + 1 = _; rw [hn, p2]; show _ = (knSet s o' (placeK o') (placeR o')).m + 1; rw [hm0]) (by rw [hn]) ?_
  have ha : afterP s = atPush (layS (knSet s o' (placeK o') (placeR o')) o') s.m := by unfold afterP; rw [hn]
  rw [ha]
  refine hs.vals.lay hs.r.ok (x' := o') hb0 (by show (knSet s o' (placeK o') (placeR o')).na + 1 = _; rw [g1]) (by show (knSet s o' (placeK o') (placeR o')).m + 1 = _; rw [hm0]) (fun i => by
      show (if i < (knSet s o' (placeK o') (placeR o')).m then (knSet s o' (placeK o') (placeR o')).f i else o') = _
      rw [hm0, g3]) (fun i => by
      show (if i < (knSet s o' (placeK o') (placeR o')).na then (knSet s o' (placeK o') (placeR o')).a i else _) = _
      rw [g1, g2]) (fun _ _ => rfl) (fun _ _ => rfl) (fun e => ?_) (fun e => ?_) (fun e => ?_) (fun k r v hh => ?_)
  · rw [ho, hdef] at e
    cases e
  · exfalso
    rcases hk' with e' | e' | e' <;> rw [e'] at e <;> exact absurd e (by decide)
  · exfalso
    unfold truthF at e
    rcases hk' with e' | e' | e' <;> simp [e'] at e
  · have hh' := (set_has hs.d).1 (show Has (knSet s o' (placeK o') (placeR o')) k r v from hh)
    by_cases hkr : k = placeK o' ∧ r = placeR o'
    · rw [if_pos hkr] at hh'
      obtain ⟨h1, rfl⟩ := hh'
      obtain ⟨rfl, rfl⟩ := hkr
      obtain ⟨h2, h3⟩ := hsame h1
      exact ⟨h2, h3.symm⟩
    · rw [if_neg hkr] at hh'
      obtain ⟨h4, h5⟩ := hs.vals.kn k r v hh'
      exact ⟨h4, by rw [hother k r h4 hkr]; exact h5⟩
end
end Go.Proofs.Ytmbnakinhnkabaa

namespace Go.Proofs.Ytmbnakinhnkabaa
open Go.AM
set_option maxRecDepth 100000
set_option linter.unusedSimpArgs false
set_option linter.unusedVariables false
theorem truth_u {r a b : Int} (h : (r == 13 || r == 14 || r == 15) = true) : (refR r a b).1 = 0 ∨ (refR r a b).1 = 1 := by
  simp only [Bool.or_eq_true, beq_iff_eq] at h
  have ht : ∀ c, truthS c = 0 ∨ truthS c = 1 := fun c => by cases c <;> simp [truthS]
  rcases h with (h | h) | h <;> subst h <;> (simp only [refR, Int.reduceEq, if_true, if_false, reduceIte]; exact ht _)
theorem pc_eq {c d : CoreS} (h : d = c) (v : Int) : ({ d with pc := v } : CoreS) = { c with pc := v } := by rw [h]
section
variable {b : BlkS} {s : PS} {x y : RS}
theorem FM.alu (h : FM b x y) (hs : Stage b s x y) (hl : x.left = false) (hw : x.waits = false) (hk : (s.b.f s.na).kind = 8) : FM b (oneS x (x.b.f x.pos)) (oneS y (y.b.f y.pos)) := by
  have hA := hs.useA (by rw [hk]; decide)
  have hB := hs.useB (by rw [hk]; decide)
  have hfit := hs.r.ok.fit hs.hlt
  have hk' : (reO s (s.b.f s.na)).kind = 8 := hk
  have hfa := hfit.a (by rw [hk']; decide)
  have hfb := hfit.b (by rw [hk']; decide)
  have hr' : (reO s (s.b.f s.na)).r = (s.b.f s.na).r := rfl
  have hn0 : nextP s = oneP s (reO s (s.b.f s.na)) := rfl
  have uA := h.okx.u (s.b.f s.na).a.toNat
  have uB := h.okx.u (s.b.f s.na).b.toNat
  have hp : ¬ placeOk (reO s (s.b.f s.na)) = true := by
    rw [place_no (by rw [hk']; decide)]
    exact Bool.false_ne_true
  have ex : oneS x (s.b.f s.na) = setV (nxt x) x.pos (refR (s.b.f s.na).r (x.vs (s.b.f s.na).a.toNat) (x.vs (s.b.f s.na).b.toNat)).1 := by simp only [oneS, hk, Int.reduceEq, if_true, if_false, reduceIte]; try rfl
  unfold oneP at hn0
  rw [if_neg hp, if_pos hk'] at hn0
  by_cases hc : (isC s (reO s (s.b.f s.na)).a && isC s (reO s (s.b.f s.na)).b) = true
  · rw [if_pos hc] at hn0
    simp only [isC, Bool.and_eq_true, beq_iff_eq] at hc
    have e1 := hs.vals.cst _ (by omega) hc.1
    have e2 := hs.vals.cst _ (by omega) hc.2
    rw [← e1, ← e2, hA, hB, hr'] at hn0
    have e3 : (reckS (s.b.f s.na).r (x.vs (s.b.f s.na).a.toNat) (x.vs (s.b.f s.na).b.toNat)).1 = (refR (s.b.f s.na).r (x.vs (s.b.f s.na).a.toNat) (x.vs (s.b.f s.na).b.toNat)).1 := by rw [refR_eq _ _ _ uA uB]
    rw [e3] at hn0
    have hU := U_ref (k := (s.b.f s.na).r) uA uB
    refine h.lay_def hs hl hw hn0 _ ex (by simp only [oneS, constO, Int.reduceEq, if_true, if_false, reduceIte]; try rfl) (fun _ => rfl) (fun e => ?_)
    generalize (refR (s.b.f s.na).r (x.vs (s.b.f s.na).a.toNat) (x.vs (s.b.f s.na).b.toNat)).1 = v at *
    unfold truthF constO at e
    simp only [if_true, decide_eq_true_eq] at e
    unfold U at hU
    omega
  · rw [if_neg hc] at hn0
    refine h.lay_def hs hl hw hn0 _ ex (by rw [← hA, ← hB]; simp only [oneS, hk', hr', Int.reduceEq, if_true, if_false, reduceIte]; try rfl) (fun e => by rw [hk'] at e; exact absurd e (by decide)) (fun e => ?_)
    unfold truthF at e
    simp only [hk', hr', Int.reduceEq, if_true, if_false, reduceIte] at e
    exact truth_u e
theorem FM.exitIf (h : FM b x y) (hs : Stage b s x y) (hl : x.left = false) (hw : x.waits = false) (hk : (s.b.f s.na).kind = 15) : FM b (oneS x (x.b.f x.pos)) y ∨ FM b (oneS x (x.b.f x.pos)) (oneS y (y.b.f y.pos)) := by
  have hyl : y.left = false := by rw [h.left]; exact hl
  have hyw : y.waits = false := by rw [h.waits]; exact hw
  have hA := hs.useA (by rw [hk]; decide)
  have hfit := hs.r.ok.fit hs.hlt
  have hk' : (reO s (s.b.f s.na)).kind = 15 := hk
  have hi' : (reO s (s.b.f s.na)).imm = (s.b.f s.na).imm := rfl
  have hfa := hfit.a (by rw [hk']; decide)
  have hn0 : nextP s = oneP s (reO s (s.b.f s.na)) := rfl
  have hp : ¬ placeOk (reO s (s.b.f s.na)) = true := by
    rw [place_no (by rw [hk']; decide)]
    exact Bool.false_ne_true
  have h8 : ¬ (reO s (s.b.f s.na)).kind = 8 := by rw [hk']; decide
  unfold oneP at hn0
  rw [if_neg hp, if_neg h8, if_pos hk'] at hn0
  have o1 := h.okx.one hl
  have o2 := h.oky.one hyl
  obtain ⟨p1, p2⟩ := hs.p hw
  have hox := Stage.opX h hs hw
  by_cases ha : (x.vs (s.b.f s.na).a.toNat != 0) = true
  · -- it goes
    right
    have ex : oneS x (s.b.f s.na) = { pcR (nxt x) (s.b.f s.na).imm with left := true } := by simp only [oneS, hk, ha, Int.reduceEq, if_true, if_false, reduceIte]
    by_cases hc : isC s (reO s (s.b.f s.na)).a = true
    · rw [if_pos hc] at hn0
      have e1 := hs.vals.cst (reO s (s.b.f s.na)).a.toNat (by omega) (by simpa [isC] using hc)
      have hne : ¬ (s.f (reO s (s.b.f s.na)).a.toNat).imm = 0 := by
        rw [← e1, hA]
        simpa using ha
      rw [if_neg hne] at hn0
      have hoy : y.b.f y.pos = exitO (reO s (s.b.f s.na)).imm := Stage.opY h hs hw (by rw [hn0]; rfl) (by rw [hn0]; exact lay_f s _)
      have ey : oneS y (exitO (reO s (s.b.f s.na)).imm) = { pcR (nxt y) (s.b.f s.na).imm with left := true } := by simp only [oneS, exitO, hi', Int.reduceEq, if_true, if_false, reduceIte]
      rw [hox, ex] at o1 ⊢
      rw [hoy, ey] at o2 ⊢
      exact h.fin rfl rfl o1 o2 hw hyw h.want rfl rfl h.fal h.gst h.wrd (pc_eq h.core _)
    · rw [if_neg hc] at hn0
      have hoy : y.b.f y.pos = reO s (s.b.f s.na) := Stage.opY h hs hw (by rw [hn0]; rfl) (by rw [hn0]; exact lay_f s _)
      have ha' : (y.vs (reO s (s.b.f s.na)).a.toNat != 0) = true := by rw [hA]; exact ha
      have ey : oneS y (reO s (s.b.f s.na)) = { pcR (nxt y) (s.b.f s.na).imm with left := true } := by simp only [oneS, hk', hi', ha', Int.reduceEq, if_true, if_false, reduceIte]
      rw [hox, ex] at o1 ⊢
      rw [hoy, ey] at o2 ⊢
      exact h.fin rfl rfl o1 o2 hw hyw h.want rfl rfl h.fal h.gst h.wrd (pc_eq h.core _)
  · -- it stays
    have ex : oneS x (s.b.f s.na) = nxt x := by simp only [oneS, hk, ha, Int.reduceEq, if_true, if_false, reduceIte]; try rfl
    by_cases hc : isC s (reO s (s.b.f s.na)).a = true
    · left
      rw [if_pos hc] at hn0
      have e1 := hs.vals.cst (reO s (s.b.f s.na)).a.toNat (by omega) (by simpa [isC] using hc)
      have hz : (s.f (reO s (s.b.f s.na)).a.toNat).imm = 0 := by
        rw [← e1, hA]
        simpa using ha
      rw [if_pos hz] at hn0
      rw [hox, ex] at o1 ⊢
      refine h.go hs ⟨rfl, rfl, rfl, rfl, rfl⟩ ⟨rfl, rfl, rfl, rfl, rfl⟩ o1 h.oky hw hyw hl hyl h.core (by show x.pos + 1 = _; rw [p1]) (by rw [hn0]; exact p2) (by rw [hn0]) ?_
      have ha : afterP s = atPush s (-1) := by unfold afterP; rw [hn0]
      rw [ha]
      refine ⟨fun i hi hd => ?_, hs.vals.cst, hs.vals.tru, hs.vals.kn⟩
      show y.vs (if i < s.na then s.a i else -1).toNat = x.vs i
      by_cases e : i < s.na
      · rw [if_pos e]
        exact hs.vals.at_ i e hd
      · have : i = s.na := by
          have : i < s.na + 1 := hi
          omega
        subst this
        have hd' : defS (s.b.f s.na).kind = true := hd
        rw [hk] at hd'
        exact absurd hd' (by decide)
    · right
      rw [if_neg hc] at hn0
      have ha' : ¬ (y.vs (reO s (s.b.f s.na)).a.toNat != 0) = true := by rw [hA]; exact ha
      refine h.lay_core hs hl hw hn0 x.core ?_ ?_ (fun _ _ => rfl) (by rw [hk]; decide) (by rw [hk']; decide) (by unfold truthF; simp [hk'])
      · rw [ex]; rfl
      · have := h.core
        simp only [oneS, hk', ha', Int.reduceEq, if_true, if_false, reduceIte]
        rw [← this]; rfl
theorem FM.step (h : FM b x y) (hl : x.left = false) (hw : x.waits = false) : FM b (oneS x (x.b.f x.pos)) y ∨ FM b (oneS x (x.b.f x.pos)) (oneS y (y.b.f y.pos)) := by
  obtain ⟨s, hs⟩ := h.st hl
  have hyl : y.left = false := by rw [h.left]; exact hl
  have hyw : y.waits = false := by rw [h.waits]; exact hw
  have hrF := hs.rf
  by_cases g1 : (s.b.f s.na).kind = 2 ∨ (s.b.f s.na).kind = 4 ∨ (s.b.f s.na).kind = 6
  · exact h.get hs hl hw g1
  by_cases g2 : (s.b.f s.na).kind = 3 ∨ (s.b.f s.na).kind = 5 ∨ (s.b.f s.na).kind = 7
  · exact .inr (h.set hs hl hw g2)
  by_cases g3 : (s.b.f s.na).kind = 8
  · exact .inr (h.alu hs hl hw g3)
  by_cases g4 : (s.b.f s.na).kind = 15
  · exact h.exitIf hs hl hw g4
  right
  have hk' : (reO s (s.b.f s.na)).kind = (s.b.f s.na).kind := rfl
  have hi' : (reO s (s.b.f s.na)).imm = (s.b.f s.na).imm := rfl
  have hr' : (reO s (s.b.f s.na)).r = (s.b.f s.na).r := rfl
  have ho' : (reO s (s.b.f s.na)).order = (s.b.f s.na).order := rfl
  have hn : nextP s = layO s (reO s (s.b.f s.na)) := by
    unfold nextP oneP
    have hp : ¬ placeOk (reO s (s.b.f s.na)) = true := by
      rw [place_no (by rw [hk']; omega)]
      exact Bool.false_ne_true
    rw [if_neg hp, if_neg (by rw [hk']; exact g3), if_neg (by rw [hk']; exact g4)]
  have hA : 0 < usesS (s.b.f s.na).kind → _ := hs.useA
  have hB : 1 < usesS (s.b.f s.na).kind → _ := hs.useB
  have o1 := h.okx.one hl
  have o2 := h.oky.one hyl
  have hox := Stage.opX h hs hw
  have hoy : y.b.f y.pos = reO s (s.b.f s.na) := Stage.opY h hs hw (by rw [hn]; rfl) (by rw [hn]; exact lay_f s _)
  by_cases h1 : (s.b.f s.na).kind = 1
  · have hlt := hs.lt
    have hwf : 0 ≤ (s.b.f s.na).imm := ((by rw [← hs.sb] at hlt; have := h.okx.wf; rw [h.xb, ← hs.sb] at this; exact this.ops _ hlt : OpWf (s.b.f s.na)).imm).1
    refine h.lay_def hs hl hw hn (s.b.f s.na).imm (by simp only [oneS, h1, Int.reduceEq, if_true, if_false, reduceIte]; try rfl) (by simp only [oneS, hk', hi', h1, Int.reduceEq, if_true, if_false, reduceIte]; try rfl) (fun _ => rfl) (fun e => ?_)
    unfold truthF at e
    simp only [hk', hi', h1, if_true, decide_eq_true_eq] at e
    omega
  by_cases h14 : (s.b.f s.na).kind = 14
  · have := h.core
    refine h.lay_core hs hl hw hn { x.core with pc := (s.b.f s.na).imm } (by simp only [oneS, h14, Int.reduceEq, if_true, if_false, reduceIte]; try rfl) (by rw [← this]; simp only [oneS, hk', hi', h14, Int.reduceEq, if_true, if_false, reduceIte]; rfl) (fun _ _ => rfl) (by rw [h14]; decide) (by rw [hk', h14]; decide) (by unfold truthF; simp [hk', h14])
  rw [hox] at o1 ⊢
  rw [hoy] at o2 ⊢
  have hc := h.core
  by_cases h13 : (s.b.f s.na).kind = 13
  · have ex : oneS x (s.b.f s.na) = waitS (nxt x) ⟨6, 0, 0, 0, false, (s.b.f s.na).r, false, 0, 0, 0⟩ := by simp only [oneS, h13, Int.reduceEq, if_true, if_false, reduceIte]; try rfl
    have ey : oneS y (reO s (s.b.f s.na)) = waitS (nxt y) ⟨6, 0, 0, 0, false, (s.b.f s.na).r, false, 0, 0, 0⟩ := by simp only [oneS, hk', hr', h13, Int.reduceEq, if_true, if_false, reduceIte]; try rfl
    rw [ex] at o1 ⊢
    rw [ey] at o2 ⊢
    exact h.wait hs hl hw _ (.inr (by rw [← hs.sb]; exact h13)) o1 o2
  by_cases h16 : (s.b.f s.na).kind = 16
  · have ex : oneS x (s.b.f s.na) = { pcR (nxt x) (s.b.f s.na).imm with left := true } := by simp only [oneS, h16, Int.reduceEq, if_true, if_false, reduceIte]; try rfl
    have ey : oneS y (reO s (s.b.f s.na)) = { pcR (nxt y) (s.b.f s.na).imm with left := true } := by simp only [oneS, hk', hi', h16, Int.reduceEq, if_true, if_false, reduceIte]; try rfl
    rw [ex] at o1 ⊢
    rw [ey] at o2 ⊢
    exact h.fin rfl rfl o1 o2 hw hyw h.want rfl rfl h.fal h.gst h.wrd (pc_eq hc _)
  by_cases h17 : (s.b.f s.na).kind = 17
  · have ex : oneS x (s.b.f s.na) = { pcR (nxt x) (x.vs (s.b.f s.na).a.toNat) with left := true } := by simp only [oneS, h17, Int.reduceEq, if_true, if_false, reduceIte]; try rfl
    have ey : oneS y (reO s (s.b.f s.na)) = { pcR (nxt y) (y.vs (reO s (s.b.f s.na)).a.toNat) with left := true } := by simp only [oneS, hk', h17, Int.reduceEq, if_true, if_false, reduceIte]; try rfl
    rw [hA (by rw [h17]; decide)] at ey
    rw [ex] at o1 ⊢
    rw [ey] at o2 ⊢
    exact h.fin rfl rfl o1 o2 hw hyw h.want rfl rfl h.fal h.gst h.wrd (pc_eq hc _)
  by_cases h18 : (s.b.f s.na).kind = 18
  · have ex : oneS x (s.b.f s.na) = { nxt x with word := (s.b.f s.na).imm, guest := true, left := true } := by simp only [oneS, h18, Int.reduceEq, if_true, if_false, reduceIte]; try rfl
    have ey : oneS y (reO s (s.b.f s.na)) = { nxt y with word := (s.b.f s.na).imm, guest := true, left := true } := by simp only [oneS, hk', hi', h18, Int.reduceEq, if_true, if_false, reduceIte]; try rfl
    rw [ex] at o1 ⊢
    rw [ey] at o2 ⊢
    exact h.fin rfl rfl o1 o2 hw hyw h.want rfl rfl h.fal rfl rfl hc
  have hacc : (s.b.f s.na).kind = 9 ∨ (s.b.f s.na).kind = 10 ∨ (s.b.f s.na).kind = 11 ∨ (s.b.f s.na).kind = 12 := by
    have n2 : ¬ (s.b.f s.na).kind = 2 := fun e => g1 (.inl e)
    have n4 : ¬ (s.b.f s.na).kind = 4 := fun e => g1 (.inr (.inl e))
    have n6 : ¬ (s.b.f s.na).kind = 6 := fun e => g1 (.inr (.inr e))
    have n3 : ¬ (s.b.f s.na).kind = 3 := fun e => g2 (.inl e)
    have n5 : ¬ (s.b.f s.na).kind = 5 := fun e => g2 (.inr (.inl e))
    have n7 : ¬ (s.b.f s.na).kind = 7 := fun e => g2 (.inr (.inr e))
    by_cases h9 : (s.b.f s.na).kind = 9
    · exact .inl h9
    by_cases h10 : (s.b.f s.na).kind = 10
    · exact .inr (.inl h10)
    by_cases h11 : (s.b.f s.na).kind = 11
    · exact .inr (.inr (.inl h11))
    by_cases h12 : (s.b.f s.na).kind = 12
    · exact .inr (.inr (.inr h12))
    exfalso
    unfold rightF at hrF
    rw [if_neg h1, if_neg n2, if_neg n3, if_neg n4, if_neg n5, if_neg n6, if_neg n7, if_neg g3, if_neg h9, if_neg h10, if_neg h11, if_neg h12, if_neg h13, if_neg h14, if_neg g4, if_neg h16, if_neg h17, if_neg h18] at hrF
    cases hrF
  have hu : 0 < usesS (s.b.f s.na).kind := by rcases hacc with e | e | e | e <;> rw [e] <;> decide
  have hwant : wantA (reO s (s.b.f s.na)) (x.vs (s.b.f s.na).a.toNat) (y.vs (reO s (s.b.f s.na)).b.toNat) = wantA (s.b.f s.na) (x.vs (s.b.f s.na).a.toNat) (x.vs (s.b.f s.na).b.toNat) := by
    rcases hacc with e | e | e | e
    · simp only [wantA, hk', ho', e, Int.reduceEq, if_true, if_false, reduceIte]; try rfl
    · rw [hB (by rw [e]; decide)]
      simp only [wantA, hk', ho', e, Int.reduceEq, if_true, if_false, reduceIte]; try rfl
    · simp only [wantA, hk', ho', e, Int.reduceEq, if_true, if_false, reduceIte]; try rfl
    · rw [hB (by rw [e]; decide)]
      simp only [wantA, hk', ho', e, Int.reduceEq, if_true, if_false, reduceIte]; try rfl
  have ex : oneS x (s.b.f s.na) = accR (nxt x) (s.b.f s.na) (x.vs (s.b.f s.na).a.toNat) (x.vs (s.b.f s.na).b.toNat) := by
    rcases hacc with e | e | e | e <;> simp only [oneS, e, Int.reduceEq, if_true, if_false, reduceIte]
  have ey : oneS y (reO s (s.b.f s.na)) = accR (nxt y) (reO s (s.b.f s.na)) (y.vs (reO s (s.b.f s.na)).a.toNat) (y.vs (reO s (s.b.f s.na)).b.toNat) := by
    rcases hacc with e | e | e | e <;> simp only [oneS, hk', e, Int.reduceEq, if_true, if_false, reduceIte]
  rw [hA hu] at ey
  unfold accR at ex ey
  rw [hwant] at ey
  by_cases ha : ((x.vs (s.b.f s.na).a.toNat).tmod 8 != 0) = true
  · rw [if_pos ha] at ex ey
    rw [ex] at o1 ⊢
    rw [ey] at o2 ⊢
    exact h.fin rfl rfl o1 o2 hw hyw h.want rfl rfl rfl h.gst h.wrd hc
  · rw [if_neg ha] at ex ey
    rw [ex] at o1 ⊢
    rw [ey] at o2 ⊢
    exact h.wait hs hl hw _ (.inl (by rw [← hs.sb]; rcases hacc with e | e | e | e <;> rw [e] <;> decide)) o1 o2
end
theorem FM.next {b : BlkS} : ∀ (t : Nat) {x y : RS}, FM b x y → b.n - x.pos ≤ t → FM b (nextS x) (nextS y)
  | t, x, y, h, ht => by
    by_cases hst : x.left = true ∨ x.waits = true
    · have hst' : y.left = true ∨ y.waits = true := by rw [h.left, h.waits]; exact hst
      rw [next_stop hst, next_stop hst']
      exact h
    · have hl : x.left = false := by
        cases e : x.left with
        | false => rfl
        | true => exact absurd (.inl e) hst
      have hw : x.waits = false := by
        cases e : x.waits with
        | false => rfl
        | true => exact absurd (.inr e) hst
      have hk := h.okx.go hl
      rw [h.xb] at hk
      match t, ht with
      | 0, ht => omega
      | t + 1, ht =>
        have hp : (oneS x (x.b.f x.pos)).pos = x.pos + 1 := one_pos _ _
        rw [next_step h.okx hl hw]
        rcases h.step hl hw with h1 | h1
        · exact FM.next t h1 (by rw [hp]; omega)
        · rw [next_step h.oky (by rw [h.left]; exact hl) (by rw [h.waits]; exact hw)]
          exact FM.next t h1 (by rw [hp]; omega)
theorem FM.take {b : BlkS} {x y : RS} (h : FM b x y) (hw : x.waits = true) (hl : x.left = false) (g : GotS) (hg : U g.value) : FM b (tookR x g) (tookR y g) := by
  obtain ⟨s, hs⟩ := h.st hl
  have hyl : y.left = false := by rw [h.left]; exact hl
  have px := hs.px
  have py := hs.py
  rw [hw] at px py
  simp only [if_true] at px py
  have hx1 : x.pos - 1 = s.na := by omega
  have hy1 : y.pos - 1 = s.m := by omega
  have hk' : (reO s (s.b.f s.na)).kind = (s.b.f s.na).kind := rfl
  have hkd : accS (s.b.f s.na).kind = true ∨ (s.b.f s.na).kind = 13 := by have := hs.wt hw; rw [← hs.sb] at this; exact this
  have hk4 : (s.b.f s.na).kind = 9 ∨ (s.b.f s.na).kind = 10 ∨ (s.b.f s.na).kind = 11 ∨ (s.b.f s.na).kind = 12 ∨ (s.b.f s.na).kind = 13 := by
    rcases hkd with e | e
    · unfold accS at e
      simp only [Bool.or_eq_true, beq_iff_eq] at e
      omega
    · omega
  have hn : nextP s = layO s (reO s (s.b.f s.na)) := by
    unfold nextP oneP
    have hp : ¬ placeOk (reO s (s.b.f s.na)) = true := by
      rw [place_no (by rw [hk']; omega)]
      exact Bool.false_ne_true
    rw [if_neg hp, if_neg (by rw [hk']; omega), if_neg (by rw [hk']; omega)]
  have hoy : y.b.f (y.pos - 1) = reO s (s.b.f s.na) := by
    rw [hy1, h.yb, hs.laid (by rw [hn]; show s.m < s.m + 1; omega), hn]
    exact lay_f s _
  have hox : x.b.f (x.pos - 1) = s.b.f s.na := by rw [hx1, h.xb, hs.sb]
  have ok1 := h.okx.take g hg
  have ok2 := h.oky.take g hg
  have ha : afterP s = atPush (layS s (reO s (s.b.f s.na))) s.m := by unfold afterP; rw [hn]; rfl
  have hx' : (reO s (s.b.f s.na)).kind ≠ 1 := by rw [hk']; omega
  have ht' : truthF (reO s (s.b.f s.na)) = false := by
    unfold truthF
    rw [if_neg hx', if_neg (by rw [hk']; omega), if_neg (by rw [hk']; omega)]
  -- with a value, and without
  have setk : ∀ v, RunOk (setV (noW x) (x.pos - 1) v) → RunOk (setV (noW y) (y.pos - 1) v) → FM b (setV (noW x) (x.pos - 1) v) (setV (noW y) (y.pos - 1) v) := fun v o1 o2 => by
    refine h.go hs ⟨rfl, rfl, rfl, rfl, rfl⟩ ⟨rfl, rfl, rfl, rfl, rfl⟩ o1 o2 rfl rfl hl hyl h.core px (by rw [hn]; exact py) (by rw [hn]; rfl) ?_
    have ux : ∀ i, i < s.na → updI x.vs (x.pos - 1) v i = x.vs i := fun i hi => by unfold updI; rw [if_neg (by omega)]
    have uy : ∀ i, i < s.m → updI y.vs (y.pos - 1) v i = y.vs i := fun i hi => by unfold updI; rw [if_neg (by omega)]
    have vx : updI x.vs (x.pos - 1) v s.na = v := by unfold updI; rw [if_pos hx1.symm]
    have vy : updI y.vs (y.pos - 1) v s.m = v := by unfold updI; rw [if_pos hy1.symm]
    rw [ha]
    refine hs.vals.lay hs.r.ok (x' := reO s (s.b.f s.na)) rfl rfl rfl (fun _ => rfl) (fun _ => rfl) ux uy (fun _ => vy.trans vx.symm) (fun e => absurd e hx') (fun e => by rw [ht'] at e; cases e) ?_
    exact hs.vals.same hs.r.ok (fun _ _ _ hh => hh) uy (fun _ _ => rfl)
  have keep : defS (s.b.f s.na).kind = false → RunOk (noW x) → RunOk (noW y) → FM b (noW x) (noW y) := fun hd o1 o2 => by
    refine h.go hs ⟨rfl, rfl, rfl, rfl, rfl⟩ ⟨rfl, rfl, rfl, rfl, rfl⟩ o1 o2 rfl rfl hl hyl h.core px (by rw [hn]; exact py) (by rw [hn]; rfl) ?_
    rw [ha]
    refine hs.vals.lay hs.r.ok (x' := reO s (s.b.f s.na)) rfl rfl rfl (fun _ => rfl) (fun _ => rfl) (fun _ _ => rfl) (fun _ _ => rfl) (fun e => by rw [hd] at e; cases e) (fun e => absurd e hx') (fun e => by rw [ht'] at e; cases e) ?_
    exact hs.vals.same hs.r.ok (fun _ _ _ hh => hh) (fun _ _ => rfl) (fun _ _ => rfl)
  unfold tookR at ok1 ok2 ⊢
  rw [hoy, hk'] at ok2 ⊢
  rw [hox] at ok1 ⊢
  by_cases ha : accS (s.b.f s.na).kind = false
  · rw [if_pos ha] at ok1 ok2 ⊢
    rw [if_pos ha]
    have h13 : (s.b.f s.na).kind = 13 := hkd.resolve_left fun e => by rw [ha] at e; cases e
    exact keep (by rw [h13]; decide) ok1 ok2
  · rw [if_neg ha] at ok1 ok2 ⊢
    rw [if_neg ha]
    by_cases hf : (g.fault != 0) = true
    · rw [if_pos hf] at ok1 ok2 ⊢
      rw [if_pos hf]
      exact h.fin rfl rfl ok1 ok2 rfl rfl h.want rfl rfl rfl h.gst h.wrd h.core
    · rw [if_neg hf] at ok1 ok2 ⊢
      rw [if_neg hf]
      by_cases h12 : ((s.b.f s.na).kind == 12) = true
      · rw [if_pos h12] at ok1 ok2 ⊢
        rw [if_pos h12]
        by_cases ho : g.ok = true
        · rw [if_pos ho] at ok1 ok2 ⊢
          rw [if_pos ho]
          exact setk 0 ok1 ok2
        · rw [if_neg ho] at ok1 ok2 ⊢
          rw [if_neg ho]
          exact setk 1 ok1 ok2
      · rw [if_neg h12] at ok1 ok2 ⊢
        rw [if_neg h12]
        by_cases h10 : ((s.b.f s.na).kind != 10) = true
        · rw [if_pos h10] at ok1 ok2 ⊢
          rw [if_pos h10]
          exact setk g.value ok1 ok2
        · rw [if_neg h10] at ok1 ok2 ⊢
          rw [if_neg h10]
          have e10 : (s.b.f s.na).kind = 10 := by simpa using h10
          exact keep (by rw [e10]; decide) ok1 ok2
structure Sees (x z : RS) : Prop where
  waits : z.waits = x.waits
  want : z.want = x.want
  left : z.left = x.left
  fal : z.faulted = x.faulted
  gst : z.guest = x.guest
  wrd : z.word = x.word
  core : z.core = x.core
inductive FChain : RS → RS → Prop
  | nil (x : RS) : FChain x x
  | cons {b : BlkS} {x y z : RS} : FM b x y → FChain y z → FChain x z
theorem FChain.sees {x z : RS} (h : FChain x z) : Sees x z := by
  induction h with
  | nil x => exact ⟨rfl, rfl, rfl, rfl, rfl, rfl, rfl⟩
  | cons h _ ih => exact ⟨ih.waits.trans h.waits, ih.want.trans h.want, ih.left.trans h.left, ih.fal.trans h.fal, ih.gst.trans h.gst, ih.wrd.trans h.wrd, ih.core.trans h.core⟩
theorem FChain.next {x z : RS} (h : FChain x z) : FChain (nextS x) (nextS z) := by
  induction h with
  | nil x => exact .nil _
  | cons h _ ih => exact .cons (FM.next _ h (Nat.le_refl _)) ih
theorem FChain.take {x z : RS} (h : FChain x z) (hw : x.waits = true) (hl : x.left = false) (g : GotS) (hg : U g.value) : FChain (tookR x g) (tookR z g) := by
  induction h with
  | nil x => exact .nil _
  | cons h _ ih => exact .cons (h.take hw hl g hg) (ih (by rw [h.waits]; exact hw) (by rw [h.left]; exact hl))
theorem new_fm {b : BlkS} {c : CoreS} (hr : rightS b = true) (hw : BlkWf b) (hx : ∀ i, i < 31 → U (c.x i)) (hsp : ∀ i, i < 2 → U (c.sp i)) : FM b (newR b c) (newR (foldB b) c) :=
  ⟨rfl, rfl, new_ok hr hw hx hsp, new_ok (fold_right hr) (foldB_wf hr hw) hx hsp, rfl, rfl, rfl, rfl, rfl, rfl, rfl, fun _ =>
    ⟨ps0 b, rfl, ps0_r hr, fun i j h => absurd h (Nat.not_lt_zero i), (right_n hr).1, rfl,
      ⟨fun i h => absurd h (Nat.not_lt_zero i), fun j h => absurd h (Nat.not_lt_zero j), fun j h => absurd h (Nat.not_lt_zero j), fun k r v ⟨j, h, _⟩ => absurd h (Nat.not_lt_zero j)⟩, rfl, rfl, fun e => by cases e⟩⟩
theorem new_fchain {c : CoreS} (hx : ∀ i, i < 31 → U (c.x i)) (hsp : ∀ i, i < 2 → U (c.sp i)) : ∀ {N : Nat} {b : BlkS}, wt b.f b.n ≤ N → rightS b = true → BlkWf b → FChain (newR b c) (newR (foldF b) c)
  | N, b, hN, hr, hw => by
    rw [foldF_step hr]
    by_cases hc : chgS b = true
    · rw [if_pos hc]
      have h1 := fold_lt hr hc
      match N, hN with
      | 0, hN => omega
      | N + 1, hN => exact .cons (new_fm hr hw hx hsp) (new_fchain hx hsp (N := N) (by omega) (fold_right hr) (foldB_wf hr hw))
    · rw [if_neg hc]
      exact .cons (new_fm hr hw hx hsp) (.nil _)
end Go.Proofs.Ytmbnakinhnkabaa

namespace Go.Proofs.Ytmbnakinhnkabaa
open Go.AM
set_option maxRecDepth 100000
set_option linter.unusedSimpArgs false
set_option linter.unusedVariables false
theorem beq_comm (a b : Nat) : Nat.beq a b = Nat.beq b a := by
  by_cases h : a = b
  · rw [h]
  · rw [nbeq h, nbeq fun e => h e.symm]
theorem drop_two (s : RS) (R O V : Nat) : ∀ X : List (Nat × Blk), dropB [R, O, V] (runH s).blks X = delB (delB X R) V
  | [] => rfl
  | (k, B) :: r => by
    have ih := drop_two s R O V r
    simp only [runH] at ih ⊢
    simp only [dropB, goneB, runB, runO, runV, nthO, delB] at ih ⊢
    rw [beq_comm R k, beq_comm V k]
    cases h1 : Nat.beq k R with
    | true => simp only [ih]
    | false =>
      simp only [delB]
      cases h2 : Nat.beq k V with
      | true => simp only [ih]
      | false => simp only [ih]
theorem run_at {f : FuncId} {rest : List AV} {s s' : RS} {V0 : AV} (h : Con Try.prog f (me :: rest) (runH s) (fun v H' => v = V0 ∧ H' = runH s')) (R O V m : Nat) (X : List (Nat × Blk)) (w : Bool) (h1 : Nat.beq R O = false) (h2 : Nat.beq R V = false) (h3 : Nat.beq O V = false)
    (hR : getB X R = some (runBI s O V)) (hO : getB X O = some ⟨6, some s.b.n, fun i => opL (s.b.f i), 39, w⟩) (hV : getB X V = some (runV s)) (hlR : R < m) (hlO : O < m) (hlV : V < m) (hkl : keysLt X m) (hrest : leArgs [R, O, V] rest rest) (hV0 : ∀ g, mapV g V0 = V0) :
    Con Try.prog f (.c (.ptr ⟨R, 0, 0, 0⟩) :: rest) ⟨m, X⟩ (fun v H' => v = V0 ∧ H' = ⟨m, (R, runBI s' O V) :: (V, runV s') :: delB (delB X R) V⟩) := by
  refine (h.frame (args := .c (.ptr ⟨R, 0, 0, 0⟩) :: rest) (H := ⟨m, X⟩) [R, O, V] rfl (by simp only [diff, notIn, h1, h2, h3, and_self]) ⟨hlR, hlO, hlV, trivial⟩ hkl ?_ ⟨⟨rfl, rfl, rfl, rfl⟩, hrest⟩).weaken ?_
  · simp only [runH, leBlks, nthO, hR, hO, hV]
    refine ⟨⟨rfl, rfl, id, Nat.le_refl _, fun i _ => by simp only [runBI, runLI, runB, runL, leSegs, leSeg, leC, leA, nthO, and_self, implies_true]⟩, ⟨rfl, rfl, fun h => (by cases h), Nat.le_refl _, fun i _ => by simp only [runO, opL, leSegs, leSeg, leC, and_self]⟩, rv_le s, trivial⟩
  · rintro v H' ⟨v0, H0', ⟨rfl, rfl⟩, rfl, rfl⟩
    refine ⟨hV0 _, ?_⟩
    simp only [framed, drop_two]
    rfl
theorem con18_bat (b : BlkS) (c : CoreS) (hw : BlkWf b) (hr : rightS b = true) (ho : newOk b c = false) (i n : Nat) (X : List (Nat × Blk)) (w : Bool) (h0 : getB X i = some ⟨6, some b.n, fun i => opL (b.f i), 39, w⟩) (hlt : i < n) (hkl : keysLt X n) : Con Try.prog 18 [.agg (blkL b i), .agg (coreL c)] ⟨n, X⟩ (fun v H' => v = .tup [.c .nilp, .c (.int .i64 1)] ∧ H' = ⟨n, X⟩) := by
  refine ((con18_b b c hw hr ho).frame (H := ⟨n, X⟩) [i] rfl ⟨trivial, trivial⟩ ⟨hlt, trivial⟩ hkl (by simp only [leBlks, nthO, h0]; exact ⟨ops_le b.n b.f w, trivial⟩) (by simp only [leArgs, leV, leV1, blkL, coreL, leSegs, leSeg, leC, leA, nthO, and_self, implies_true])).weaken ?_
  rintro v H' ⟨v0, H0', ⟨rfl, rfl⟩, rfl, rfl⟩
  simp only [framed, dropB_ro i b.n 0]
  exact ⟨rfl, rfl⟩
theorem con18_cat (b : BlkS) (c : CoreS) (hw : BlkWf b) (hr : rightS b = true) (ho : newOk b c = true) (i n : Nat) (X : List (Nat × Blk)) (w : Bool) (h0 : getB X i = some ⟨6, some b.n, fun i => opL (b.f i), 39, w⟩) (hlt : i < n) (hkl : keysLt X n) : Con Try.prog 18 [.agg (blkL b i), .agg (coreL c)] ⟨n, X⟩ (fun v H' => v = .tup [.c (.ptr ⟨n + 1, 0, 0, 0⟩), .c (.int .i64 0)] ∧ H' = ⟨n + 2, (n + 1, runBI (newR b c) i n) :: (n, runV (newR b c)) :: X⟩) := by
  refine ((con18_c b c hw hr ho).frame (H := ⟨n, X⟩) [i] rfl ⟨trivial, trivial⟩ ⟨hlt, trivial⟩ hkl (by simp only [leBlks, nthO, h0]; exact ⟨ops_le b.n b.f w, trivial⟩) (by simp only [leArgs, leV, leV1, blkL, coreL, leSegs, leSeg, leC, leA, nthO, and_self, implies_true])).weaken ?_
  rintro v H' ⟨v0, H0', ⟨rfl, rfl⟩, rfl, rfl⟩
  simp only [framed, dropB_ro i b.n 0]
  exact ⟨rfl, rfl⟩
theorem con19_at (s : RS) (h : RunOk s) (R O V m : Nat) (X : List (Nat × Blk)) (w : Bool) (h1 : Nat.beq R O = false) (h2 : Nat.beq R V = false) (h3 : Nat.beq O V = false)
    (hR : getB X R = some (runBI s O V)) (hO : getB X O = some ⟨6, some s.b.n, fun i => opL (s.b.f i), 39, w⟩) (hV : getB X V = some (runV s)) (hlR : R < m) (hlO : O < m) (hlV : V < m) (hkl : keysLt X m) :
    Con Try.prog 19 [.c (.ptr ⟨R, 0, 0, 0⟩)] ⟨m, X⟩ (fun v H' => v = retNx (nextS s) ∧ H' = ⟨m, (R, runBI (nextS s) O V) :: (V, runV (nextS s)) :: delB (delB X R) V⟩) :=
  run_at (con19 s h) R O V m X w h1 h2 h3 hR hO hV hlR hlO hlV hkl trivial (fun g => rfl)
theorem con20_at (s : RS) (g : GotS) (hw : s.waits = true) (hp : 1 ≤ s.pos) (hp2 : s.pos ≤ s.b.n) (hn : s.b.n ≤ 512) (R O V m : Nat) (X : List (Nat × Blk)) (w : Bool) (h1 : Nat.beq R O = false) (h2 : Nat.beq R V = false) (h3 : Nat.beq O V = false)
    (hR : getB X R = some (runBI s O V)) (hO : getB X O = some ⟨6, some s.b.n, fun i => opL (s.b.f i), 39, w⟩) (hV : getB X V = some (runV s)) (hlR : R < m) (hlO : O < m) (hlV : V < m) (hkl : keysLt X m) :
    Con Try.prog 20 [.c (.ptr ⟨R, 0, 0, 0⟩), .agg (gotL g)] ⟨m, X⟩ (fun v H' => v = .c (.bool true) ∧ H' = ⟨m, (R, runBI (tookR s g) O V) :: (V, runV (tookR s g)) :: delB (delB X R) V⟩) :=
  run_at (con20 s g hw hp hp2 hn) R O V m X w h1 h2 h3 hR hO hV hlR hlO hlV hkl (by simp only [gotL, leArgs, leV, leV1, leSegs, leSeg, leC, and_self]) (fun g => rfl)
end Go.Proofs.Ytmbnakinhnkabaa

namespace Go.Proofs.Ytmbnakinhnkabaa
open Go.AM
set_option maxRecDepth 100000
set_option linter.unusedSimpArgs false
set_option linter.unusedVariables false
def gotsB (ng : Nat) (gs : Nat → GotS) : Blk := ⟨3, some ng, fun i => gotL (gs i), 56, false⟩
def ddH (b : BlkS) (ng : Nat) (gs : Nat → GotS) : Heap := ⟨2, [(1, gotsB ng gs), (0, opsB b.n b.f)]⟩
theorem gots_le {l : List Nat} (ng : Nat) (gs : Nat → GotS) : leB l (gotsB ng gs) (gotsB ng gs) := ⟨rfl, rfl, id, Nat.le_refl _, fun i _ => by simp only [gotsB, gotL, leSegs, leSeg, leC, and_self]⟩
theorem end_dd {l : List Slot} {H : Heap} {b : BlkS} {ng : Nat} {gs : Nat → GotS} (hsl : slotAt l 6 = some ⟨6, [], .c (.bool true)⟩) (hb0 : getB H.blks 0 = some (opsB b.n b.f)) (hb1 : getB H.blks 1 = some (gotsB ng gs)) : endQ (LeS 2) [.tmp 6] (fun v H' => v = .c (.bool true) ∧ H' = ddH b ng gs) .ret ⟨l, H⟩ := by
  refine end_of ⟨[⟨6, [], .c (.bool true)⟩], ddH b ng gs⟩ (LeS.intro [0, 1] (fun i h => idt2 i h) (by simp only [diff, notIn, Nat.beq, and_self]) rfl (by simp only [slotsLe, hsl, leV, leV1, leC, and_self]) ?_) ?_
  · simp only [ddH, leBlks, nthO, hb0, hb1]
    exact ⟨gots_le ng gs, ops_le b.n b.f false, trivial⟩
  · simp only [endF, resL, resA, St.get, slotAt, Nat.beq_refl, sfx, eqP, noTup, resV]
    refine ⟨?_, ?_⟩ <;> first | rfl | trivial
theorem runBI_le {l : List Nat} (s : RS) (o v o' v' : Nat) (h1 : nthO l o' = some o) (h2 : nthO l v' = some v) : leB l (runBI s o v) (runBI s o' v') := ⟨rfl, rfl, id, Nat.le_refl _, fun i _ => by simp only [runBI, runLI, leSegs, leSeg, leC, leA, h1, h2, and_self, implies_true]⟩
def wS (s : RS) : WantS := if s.waits = true then s.want else want0
theorem retNx_eq (s : RS) : retNx s = .tup [.agg (wantL (wS s)), .c (.bool s.waits)] := rfl
theorem want_leE {l : List Nat} {w w' : WantS} (h : w = w') : leB l ⟨10, none, fun _ => wantL w, 49, true⟩ (wantB w') := by subst h; exact want_le w
def gotB (g : GotS) : Blk := ⟨3, none, fun _ => gotL g, 56, true⟩
theorem goti_le {l : List Nat} (g : GotS) : leB l ⟨3, none, fun _ => [.c (.int .u64 g.value), .c (.bool g.ok), .c (.int .i64 g.fault)], 56, true⟩ (gotB g) := ⟨rfl, rfl, id, Nat.le_refl _, fun _ _ => by simp only [gotB, gotL, leSegs, leSeg, leC, and_self]⟩
theorem all_eqb {n : Nat} {f g : Nat → Int} (h : ∀ i, i < n → f i = g i) : ((List.range n).all fun z => eqCb (.int .u64 (f z)) (.int .u64 (g z))) = true := by
  rw [List.all_eq_true]
  intro z hz
  rw [List.mem_range] at hz
  simp [eqCb, h z hz]
theorem one_w {s : RS} {o : OpS} (hl : s.left = false) (hw : s.waits = false) : (oneS s o).waits = true → (oneS s o).left = false := by
  show (fun r : RS => r.waits = true → r.left = false) (oneS s o)
  have h0 : ∀ r : RS, r.waits = s.waits → (r.waits = true → r.left = false) := fun r e1 e2 => by rw [e1, hw] at e2; cases e2
  unfold oneS accR
  repeat' (first | exact h0 _ rfl | exact fun _ => hl | refine ite_P (P := fun r : RS => r.waits = true → r.left = false) ?_ ?_)
theorem next_w : ∀ (t : Nat) {s : RS}, RunOk s → s.b.n - s.pos ≤ t → s.waits = false → (nextS s).waits = true → (nextS s).left = false
  | t, s, h, ht, hw, hn => by
    by_cases hst : s.left = true
    · rw [next_stop (.inl hst), hw] at hn; cases hn
    · have hl : s.left = false := by simpa using hst
      have hp := h.go hl
      match t, ht with
      | 0, ht => omega
      | t + 1, ht =>
        rw [next_step h hl hw] at hn ⊢
        by_cases h1 : (oneS s (s.b.f s.pos)).waits = true
        · rw [next_stop (.inr h1)]
          exact one_w hl hw h1
        · exact next_w t (h.one hl) (by rw [one_b, one_pos]; omega) (by simpa using h1) hn
end Go.Proofs.Ytmbnakinhnkabaa

namespace Go.Proofs.Ytmbnakinhnkabaa
open Go.AM
set_option maxRecDepth 100000
set_option linter.unusedSimpArgs false
set_option linter.unusedVariables false
def doH (a b : BlkS) (ng : Nat) (gs : Nat → GotS) : Heap := ⟨3, [(2, gotsB ng gs), (1, opsB b.n b.f), (0, opsB a.n a.f)]⟩
theorem end_do {l : List Slot} {H : Heap} {a b : BlkS} {ng : Nat} {gs : Nat → GotS} (hsl : slotAt l 8 = some ⟨8, [], .c (.bool true)⟩) (hb0 : getB H.blks 0 = some (opsB a.n a.f)) (hb1 : getB H.blks 1 = some (opsB b.n b.f)) (hb2 : getB H.blks 2 = some (gotsB ng gs)) : endQ (LeS 3) [.tmp 8] (fun v H' => v = .c (.bool true) ∧ H' = doH a b ng gs) .ret ⟨l, H⟩ := by
  refine end_of ⟨[⟨8, [], .c (.bool true)⟩], doH a b ng gs⟩ (LeS.intro [0, 1, 2] ids3 diff3 rfl (by simp only [slotsLe, hsl, leV, leV1, leC, and_self]) ?_) ?_
  · simp only [doH, leBlks, nthO, hb0, hb1, hb2]
    exact ⟨gots_le ng gs, ops_le b.n b.f false, ops_le a.n a.f false, trivial⟩
  · simp only [endF, resL, resA, St.get, slotAt, sfx, eqP, noTup, resV]
    refine ⟨?_, ?_⟩ <;> first | rfl | trivial
def doT (i : Nat) (ng : Nat) : List Slot := [⟨13, [], .c (.int .i64 i)⟩, ⟨11, [], .c (.ptr ⟨7, 0, 0, 0⟩)⟩, ⟨9, [], .c (.ptr ⟨5, 0, 0, 0⟩)⟩, ⟨4, [], .c (.ptr ⟨3, 0, 0, 0⟩)⟩, ⟨3, [], .c (.slice ⟨2, 0, 0, 0⟩ false ng)⟩]
def doS (a b : BlkS) (ng : Nat) (gs : Nat → GotS) (x y : RS) (i : Nat) : St := ⟨doT i ng, ⟨8, [(7, runBI y 1 6), (6, runV y), (5, runBI x 0 4), (4, runV x), (3, blkB a 0), (2, gotsB ng gs), (1, opsB b.n b.f), (0, opsB a.n a.f)]⟩⟩
def doW (a b : BlkS) (ng : Nat) (gs : Nat → GotS) (x y : RS) (i : Nat) (w : WantS) (c : Bool) : St := ⟨⟨17, [], .c (.bool c)⟩ :: ⟨16, [], .c (.ptr ⟨9, 0, 0, 0⟩)⟩ :: ⟨15, [], .c (.bool c)⟩ :: ⟨14, [], .c (.ptr ⟨8, 0, 0, 0⟩)⟩ :: doT i ng, ⟨10, (9, wantB w) :: (8, wantB w) :: (doS a b ng gs x y i).heap.blks⟩⟩
def doG (a b : BlkS) (ng : Nat) (gs : Nat → GotS) (x y : RS) (i : Nat) (g : GotS) : St := ⟨⟨18, [], .c (.ptr ⟨8, 0, 0, 0⟩)⟩ :: doT i ng, ⟨9, (8, gotB g) :: (doS a b ng gs x y i).heap.blks⟩⟩
theorem sees_w {x z : RS} (h : Sees x z) : wS z = wS x := by
  unfold wS
  rw [h.waits, h.want]
set_option maxHeartbeats 16000000 in
theorem con28 (a b : BlkS) (c : CoreS) (ng : Nat) (gs : Nat → GotS) (hwa : BlkWf a) (hwb : BlkWf b) (hra : rightS a = true) (hrb : rightS b = true) (hel : b.el = a.el) (hx : ∀ i, i < 31 → U (c.x i)) (hsp : ∀ i, i < 2 → U (c.sp i)) (hgs : ∀ i, i < ng → U (gs i).value) (hch0 : FChain (newR a c) (newR b c)) : Con Try.prog 28 [.agg (blkL a 0), .agg (blkL b 1), .agg (coreL c), .c (.slice ⟨2, 0, 0, 0⟩ false ng)] (doH a b ng gs) (fun v H' => v = .c (.bool true) ∧ H' = doH a b ng gs) := by
  have hno : newOk b c = newOk a c := by unfold newOk; rw [hel]
  (refine con_of_run mixed (fn := Try.f28) (by kernel_rfl) (by kernel_rfl) C28_ok (rs := [.tmp 8]) (by kernel_rfl) (Nat.le_of_ble_eq_true (by kernel_rfl)) ?_; unfold C28; simp only [initT, Nat.reduceAdd])
  by_cases ho : newOk a c = true
  rotate_left
  · have ho1 : newOk a c = false := by simpa using ho
    have ho2 : newOk b c = false := by rw [hno]; exact ho1
    repeat' (first | refine run_seq ?_ | refine run_skip ?_ | (refine run_region fun K hK => ?_; (try (simp (maxSteps := 10000000) only [blkL, coreL, opsB, gotsB, doH, C28r0, C28r1, C28r2, C28r3, C28r4, rwp_nil, rwp_cons, aop, gpath, St.get, slotAt, sfx, eqP, segsOf, St.put, addBlk, getB, ldn, rowNeed, nsub, bin, isShift, sameK, arith, getsl, selB_or, beqb, shed, Seg.size, sizes, appL, argsOf, ptrsOf, cut, takeS, dropS, Nat.reduceAdd])); (repeat (first | (refine And.intro ?_ ?_; · (first | trivial | assumption | omega | (intros; first | trivial | omega))) | ((first | (refine call_t _ (con18_bat a c hwa hra ho1 0 _ _ _ rfl (Nat.le_of_ble_eq_true rfl) (by simp [keysLt])) ?_; rintro v H' ⟨rfl, rfl⟩) | refine call_q _ (con18_bat a c hwa hra ho1 0 _ _ _ rfl (Nat.le_of_ble_eq_true rfl) (by simp [roL, keysLt])) ?_ | refine call_g _ (imp_of (con18_bat a c hwa hra ho1 0 _ _ _ rfl (Nat.le_of_ble_eq_true rfl) (by simp [roL, keysLt]))) ?_ | (refine call_t _ (con18_bat b c hwb hrb ho2 1 _ _ _ rfl (Nat.le_of_ble_eq_true rfl) (by simp [keysLt])) ?_; rintro v H' ⟨rfl, rfl⟩) | refine call_q _ (con18_bat b c hwb hrb ho2 1 _ _ _ rfl (Nat.le_of_ble_eq_true rfl) (by simp [roL, keysLt])) ?_ | refine call_g _ (imp_of (con18_bat b c hwb hrb ho2 1 _ _ _ rfl (Nat.le_of_ble_eq_true rfl) (by simp [roL, keysLt]))) ?_); simp (maxSteps := 10000000) only [rwp_nil, rwp_cons, rwpK_app, aop, gpath, St.get, slotAt, sfx, eqP, St.put, addBlk, shed, nthA]))); with_reducible refine hK _ ?_; clear hK K) | (refine run_cond rfl (fun hc => ?_) (fun hc => ?_) <;> try (simp only [*, Bool.true_eq_false, Bool.false_eq_true, Bool.not_true, Bool.not_false, Bool.true_or, Bool.or_true, Bool.false_or, Bool.or_false, Bool.false_and, Bool.and_false, bne_self_eq_false, beq_self_eq_true] at hc; done)) | refine run_block ?_ | refine run_ret ?_ | refine run_nil ?_ | refine run_exit ?_ | refine blk_normal ?_ | refine blk_ret ?_ | refine blk_here ?_ | refine blk_there rfl ?_ | refine loop_exit ?_ | refine loop_ret ?_ | refine un_exit ?_ | refine un_ret ?_ | refine unE_exit ?_ | refine unE_ret ?_ | refine un_normal ?_)
    · exact end_do rfl rfl rfl rfl
    · exact absurd hc (by decide)
  have ho2 : newOk b c = true := by rw [hno]; exact ho
  repeat' (first | refine run_seq ?_ | refine run_skip ?_ | (refine run_region fun K hK => ?_; (try (simp (maxSteps := 10000000) only [blkL, coreL, opsB, gotsB, doH, C28r0, C28r1, C28r2, C28r3, rwp_nil, rwp_cons, aop, gpath, St.get, slotAt, sfx, eqP, segsOf, St.put, addBlk, getB, ldn, rowNeed, nsub, bin, isShift, sameK, arith, getsl, selB_or, beqb, shed, Seg.size, sizes, appL, argsOf, ptrsOf, cut, takeS, dropS, Nat.reduceAdd])); (repeat (first | (refine And.intro ?_ ?_; · (first | trivial | assumption | omega | (intros; first | trivial | omega))) | ((first | (refine call_t _ (con18_cat a c hwa hra ho 0 _ _ _ rfl (Nat.le_of_ble_eq_true rfl) (by simp [keysLt])) ?_; rintro v H' ⟨rfl, rfl⟩) | refine call_q _ (con18_cat a c hwa hra ho 0 _ _ _ rfl (Nat.le_of_ble_eq_true rfl) (by simp [roL, keysLt])) ?_ | refine call_g _ (imp_of (con18_cat a c hwa hra ho 0 _ _ _ rfl (Nat.le_of_ble_eq_true rfl) (by simp [roL, keysLt]))) ?_ | (refine call_t _ (con18_cat b c hwb hrb ho2 1 _ _ _ rfl (Nat.le_of_ble_eq_true rfl) (by simp [keysLt])) ?_; rintro v H' ⟨rfl, rfl⟩) | refine call_q _ (con18_cat b c hwb hrb ho2 1 _ _ _ rfl (Nat.le_of_ble_eq_true rfl) (by simp [roL, keysLt])) ?_ | refine call_g _ (imp_of (con18_cat b c hwb hrb ho2 1 _ _ _ rfl (Nat.le_of_ble_eq_true rfl) (by simp [roL, keysLt]))) ?_); simp (maxSteps := 10000000) only [rwp_nil, rwp_cons, rwpK_app, aop, gpath, St.get, slotAt, sfx, eqP, St.put, addBlk, shed, nthA, Nat.reduceAdd]))); with_reducible refine hK _ ?_; clear hK K) | (refine run_cond rfl (fun hc => ?_) (fun hc => ?_) <;> try (simp only [*, Bool.false_eq_true, Bool.or_false, bne_self_eq_false] at hc; done)) | refine run_block ?_ | refine run_ret ?_ | refine run_nil ?_ | refine run_exit ?_ | refine blk_normal ?_ | refine blk_ret ?_ | refine blk_here ?_ | refine blk_there rfl ?_ | refine loop_exit ?_ | refine loop_ret ?_ | refine un_exit ?_ | refine un_ret ?_ | refine unE_exit ?_ | refine unE_ret ?_ | refine un_normal ?_)
  clear hc
  (refine run_regionL fun K hK => ?_; (try (simp (maxSteps := 10000000) only [C28r5, rwp_nil, rwp_cons, aop, gpath, St.get, St.put, addBlk, shed])); (repeat (first | (refine And.intro ?_ ?_; · first | trivial | assumption | omega))); refine hK _ (doS a b ng gs (newR a c) (newR b c) 0) (LeS.intro [0, 1, 2, 3, 6, 7, 8, 9] ids3 (by simp only [diff, notIn, Nat.beq, and_self]) rfl (by simp only [doS, doT, slotsLe, slotAt, leV, leV1, leC, leA, nthO, Int.natCast_zero, and_self]) ⟨runBI_le _ 1 8 1 6 rfl rfl, rv_le _, runBI_le _ 0 6 0 4 rfl rfl, rv_le _, blk_le' a 0 0 rfl, gots_le ng gs, ops_le b.n b.f false, ops_le a.n a.f false, trivial⟩) ?_; clear hK K)
  refine run_block ?_
  refine run_loop (fun m st => ∃ i x y, m = a.n + 1 - i ∧ i ≤ a.n ∧ x.b = a ∧ y.b = b ∧ RunOk x ∧ RunOk y ∧ FChain x y ∧ x.waits = false ∧ y.waits = false ∧ (x.left = true ∨ i ≤ x.pos) ∧ st = doS a b ng gs x y i) (a.n + 1) ⟨0, newR a c, newR b c, rfl, Nat.zero_le _, rfl, rfl, new_ok hra hwa hx hsp, new_ok hrb hwb hx hsp, hch0, rfl, rfl, .inr (Nat.zero_le _), rfl⟩ ?_
  rintro m st ⟨i, x, y, rfl, hi, hxb, hyb, okx, oky, hch, hwx, hwy, hlp, rfl⟩
  subst hxb
  obtain ⟨okx', hstx, hbx, hpx, hgx⟩ := next_ok _ okx (Nat.le_refl _)
  obtain ⟨oky', hsty, hby, hpy, hgy⟩ := next_ok _ oky (Nat.le_refl _)
  have hch' := hch.next
  have hlk := hch'.sees
  unfold doS doT
  repeat' (first | refine run_seq ?_ | refine run_skip ?_ | (refine run_region fun K hK => ?_; (try (simp (maxSteps := 10000000) only [opL, blkB, blkL, opsB, gotsB, C28r6, C28r7, C28r21, rwp_nil, rwp_cons, aop, gpath, St.get, slotAt, sfx, eqP, St.put, addBlk, getB, ld1, rowNeed, segAt, nsub, bin, isShift, sameK, arith, shed, addN, Seg.size, appL, argsOf, ptrsOf, Nat.reduceAdd])); (repeat (first | (refine And.intro ?_ ?_; · (first | trivial | assumption | omega | (intros; first | trivial | omega))) | ((first | (refine call_t _ (con19_at x okx 5 0 4 8 _ _ rfl rfl rfl rfl rfl rfl (Nat.le_of_ble_eq_true rfl) (Nat.le_of_ble_eq_true rfl) (Nat.le_of_ble_eq_true rfl) (by simp [keysLt])) ?_; rintro v H' ⟨rfl, rfl⟩) | refine call_q _ (con19_at x okx 5 0 4 8 _ _ rfl rfl rfl rfl rfl rfl (Nat.le_of_ble_eq_true rfl) (Nat.le_of_ble_eq_true rfl) (Nat.le_of_ble_eq_true rfl) (by simp [roL, keysLt])) ?_ | refine call_g _ (imp_of (con19_at x okx 5 0 4 8 _ _ rfl rfl rfl rfl rfl rfl (Nat.le_of_ble_eq_true rfl) (Nat.le_of_ble_eq_true rfl) (Nat.le_of_ble_eq_true rfl) (by simp [roL, keysLt]))) ?_); simp (maxSteps := 10000000) only [retNx_eq, wantL, rwp_nil, rwp_cons, rwpK_app, aop, gpath, St.get, slotAt, sfx, eqP, St.put, addBlk, getB, setB, delB, stn, setRow, rowNeed, nsub, shed, Nat.beq, Seg.size, sizes, takeS, dropS, putS, nthA, exOk, Nat.reduceAdd, List.append_nil, List.nil_append]))); with_reducible refine hK _ ?_; clear hK K) | (refine run_cond rfl (fun hc => ?_) (fun hc => ?_) <;> try (simp only [*, Bool.true_eq_false, Bool.false_eq_true, Bool.not_true, Bool.not_false, Bool.true_or, Bool.or_true, Bool.false_or, Bool.or_false, Bool.false_and, Bool.and_false, bne_self_eq_false, beq_self_eq_true] at hc; done)) | refine run_block ?_ | refine run_ret ?_ | refine run_nil ?_ | refine run_exit ?_ | refine blk_normal ?_ | refine blk_ret ?_ | refine blk_here ?_ | refine blk_there rfl ?_ | refine loop_exit ?_ | refine loop_ret ?_ | refine un_exit ?_ | refine un_ret ?_ | refine unE_exit ?_ | refine unE_ret ?_ | refine un_normal ?_)
  · (refine run_regionL fun K hK => ?_; (try (simp (maxSteps := 10000000) only [C28r8, rwp_cons, aop, gpath, St.get, slotAt, sfx, eqP, St.put, addBlk, appL, argsOf, ptrsOf])); (repeat (first | (refine And.intro ?_ ?_; · (first | trivial | assumption | omega | (intros; first | trivial | omega))) | ((first | (refine call_t _ (con19_at y oky 7 1 6 _ _ _ rfl rfl rfl rfl (by rw [hyb]; rfl) rfl (Nat.le_of_ble_eq_true rfl) (Nat.le_of_ble_eq_true rfl) (Nat.le_of_ble_eq_true rfl) (by simp [keysLt])) ?_; rintro v H' ⟨rfl, rfl⟩) | (refine call_q _ (con19_at y oky 7 1 6 _ _ _ rfl rfl rfl rfl (by rw [hyb]; rfl) rfl (Nat.le_of_ble_eq_true rfl) (Nat.le_of_ble_eq_true rfl) (Nat.le_of_ble_eq_true rfl) (by simp [roL, keysLt])) ?_) | (refine call_g _ (imp_of (con19_at y oky 7 1 6 _ _ _ rfl rfl rfl rfl (by rw [hyb]; rfl) rfl (Nat.le_of_ble_eq_true rfl) (Nat.le_of_ble_eq_true rfl) (Nat.le_of_ble_eq_true rfl) (by simp [roL, keysLt]))) ?_)); (try simp (maxSteps := 10000000) only [retNx_eq, wantL, rwp_nil, rwp_cons, rwpK_app, aop, gpath, St.get, slotAt, sfx, eqP, St.put, addBlk, getB, setB, delB, stn, setRow, rowNeed, nsub, shed, Nat.beq, Seg.size, sizes, takeS, dropS, putS, nthA, exOk, Nat.reduceAdd, List.append_nil, List.nil_append])))); refine hK _ (doW x.b b ng gs (nextS x) (nextS y) i (wS (nextS x)) (nextS x).waits) (LeS.intro [0, 1, 2, 3, 4, 5, 6, 7, 8, 9] ids3 (by simp only [diff, notIn, Nat.beq, and_self]) rfl (by simp only [doW, doT, hlk.waits, slotsLe, slotAt, leV, leV1, leC, leA, nthO, and_self]) ⟨want_leE (sees_w hlk), want_leE rfl, runBI_le _ 1 6 1 6 rfl rfl, rv_le _, runBI_le _ 0 4 0 4 rfl rfl, rv_le _, blk_le' x.b 0 0 rfl, gots_le ng gs, ops_le b.n b.f false, ops_le x.b.n x.b.f false, trivial⟩) ?_; clear hK K)
    have hca : CoreAll (nextS x).core (nextS y).core := by rw [hlk.core]; exact CoreAll.refl _
    clear hc
    generalize hxn : nextS x = xn at *
    generalize hyn : nextS y = yn at *
    generalize hwn : wS xn = wn at *
    unfold doW doT doS
    repeat' (first | refine run_seq ?_ | refine run_skip ?_ | (refine run_region fun K hK => ?_; (try (simp (maxSteps := 10000000) only [gotsB, wantB, wantL, runBI, runLI, runV, C28r9, C28r10, rwp_nil, rwp_cons, aop, gpath, St.get, slotAt, sfx, eqP, St.put, addBlk, getB, ldn, rowNeed, nsub, eqB, sameK, getsl, selB_or, beqb, shed, addN, Nat.beq, Seg.size, imp, cut, takeS, dropS, negIf, eqS, eqF, eqS1, andP, kin, Nat.reduceAdd])); (repeat (first | (refine And.intro ?_ ?_; · (first | trivial | assumption | omega | (intros; first | trivial | omega))))); with_reducible refine hK _ ?_; clear hK K) | (refine run_cond rfl (fun hc => ?_) (fun hc => ?_) <;> try (simp only [*, Bool.not_true, Bool.or_false, beq_self_eq_true] at hc; done)) | refine run_block ?_ | refine run_ret ?_ | refine run_nil ?_ | refine run_exit ?_ | refine blk_normal ?_ | refine blk_ret ?_ | refine blk_here ?_ | refine blk_there rfl ?_ | refine loop_exit ?_ | refine loop_ret ?_ | refine un_exit ?_ | refine un_ret ?_ | refine unE_exit ?_ | refine unE_ret ?_ | refine un_normal ?_)
    · exfalso
      simp only [all_eqb hca.x, all_eqb hca.sp, hca.pc, hca.n, hca.z, hca.c, hca.v, hca.el, hca.mask, hca.q0, hca.q1, hca.q2, hca.q3, hca.q4, hca.q5, hca.id, hca.wait, hca.last, beq_self_eq_true, Bool.and_self, Bool.not_true, Bool.or_self, Bool.false_eq_true] at hc
    clear hc
    by_cases hcw : xn.waits = true
    rotate_left
    · have hcw0 : xn.waits = false := by simpa using hcw
      repeat' (first | refine run_seq ?_ | refine run_skip ?_ | (refine run_region fun K hK => ?_; (try (simp (maxSteps := 10000000) only [hcw0, hlk.fal, hlk.gst, hlk.wrd, Bool.not_false, beq_self_eq_true, Bool.and_self, Bool.and_true, C28r11, C28r12, rwp_nil, rwp_cons, aop, gpath, St.get, slotAt, sfx, eqP, St.put, addBlk, getB, ld1, rowNeed, segAt, nsub, bin, un, eqB, isShift, sameK, arith, getsl, selB_and, beqb, shed, addN, Seg.size, Nat.reduceAdd])); (repeat (first | (refine And.intro ?_ ?_; · (first | trivial | assumption | omega | (intros; first | trivial | omega))))); with_reducible refine hK _ ?_; clear hK K) | (refine run_cond rfl (fun hc => ?_) (fun hc => ?_) <;> try (simp only [*, Bool.true_eq_false] at hc; done)) | refine run_block ?_ | refine run_ret ?_ | refine run_nil ?_ | refine run_exit ?_ | refine blk_normal ?_ | refine blk_ret ?_ | refine blk_here ?_ | refine blk_there rfl ?_ | refine loop_exit ?_ | refine loop_ret ?_ | refine un_exit ?_ | refine un_ret ?_ | refine unE_exit ?_ | refine unE_ret ?_ | refine un_normal ?_)
      exact end_do rfl rfl rfl rfl
    have hl : x.left = false := by
      cases e : x.left with
      | false => rfl
      | true => rw [← hxn, next_stop (.inl e), hwx] at hcw; cases hcw
    have hxl : xn.left = false := by rw [← hxn]; exact next_w _ okx (Nat.le_refl _) hwx (by rw [hxn]; exact hcw)
    have hyl : yn.left = false := by rw [hlk.left]; exact hxl
    have hyw : yn.waits = true := by rw [hlk.waits]; exact hcw
    have hp1 : x.pos < xn.pos := hgx hxl hwx
    have hp2 : y.pos < yn.pos := hgy hyl hwy
    have hp3 : xn.pos < xn.b.n := okx'.go hxl
    have hp4 : yn.pos < yn.b.n := oky'.go hyl
    have hip : i ≤ x.pos := by
      rcases hlp with h | h
      · rw [h] at hl; cases hl
      · exact h
    have hxbn : xn.b.n ≤ 512 := (right_n okx'.hr).2
    have hybn : yn.b.n ≤ 512 := (right_n oky'.hr).2
    have hw8 : IntKind.i64.wrap (8 * (i : Int)) = 8 * (i : Int) := by rw [IntKind.wrap_i64]; rw [hbx] at hp3 hxbn; omega
    have hw1 : IntKind.i64.wrap ((i : Int) + 1) = ((i + 1 : Nat) : Int) := by rw [IntKind.wrap_i64]; rw [hbx] at hp3 hxbn; omega
    repeat' (first | refine run_seq ?_ | refine run_skip ?_ | (refine run_region fun K hK => ?_; (try (simp (maxSteps := 10000000) only [C28r11, rwp_nil, rwp_cons, aop, gpath, St.get, slotAt, sfx, eqP, St.put, addBlk, un, shed])); (repeat (first | (refine And.intro ?_ ?_; · (first | trivial | assumption | omega | (intros; first | trivial | omega))))); with_reducible refine hK _ ?_; clear hK K) | (refine run_cond rfl (fun hc => ?_) (fun hc => ?_) <;> try (simp only [*, Bool.false_eq_true, Bool.not_true] at hc; done)) | refine run_block ?_ | refine run_ret ?_ | refine run_nil ?_ | refine run_exit ?_ | refine blk_normal ?_ | refine blk_ret ?_ | refine blk_here ?_ | refine blk_there rfl ?_ | refine loop_exit ?_ | refine loop_ret ?_ | refine un_exit ?_ | refine un_ret ?_ | refine unE_exit ?_ | refine unE_ret ?_ | refine un_normal ?_)
    clear hc
    (refine run_regionL fun K hK => ?_; (try (simp (maxSteps := 10000000) only [hw8, partsOf, fillS, C28r13, rwp_nil, rwp_cons, aop, gpath, St.get, slotAt, sfx, eqP, segsOf, St.put, addBlk, getB, setB, stn, setRow, rowNeed, nsub, bin, isShift, sameK, arith, shed, Nat.beq, Seg.size, sizes, imp, takeS, dropS, putS, partsOf, fillS, exOk, Nat.reduceAdd, List.append_nil, List.nil_append, List.cons_append])); (repeat (first | (refine And.intro ?_ ?_; · first | trivial | assumption | omega))); refine hK _ (doG x.b b ng gs xn yn i ⟨IntKind.u64.wrap (8 * (i : Int)), (i : Int).tmod 2 == 0, 0⟩) (LeS.intro [0, 1, 2, 3, 4, 5, 6, 7, 10] ids3 (by simp only [diff, notIn, Nat.beq, and_self]) rfl (by simp only [doG, doT, slotsLe, slotAt, leV, leV1, leC, leA, nthO, and_self]) ⟨goti_le _, runBI_le _ 1 6 1 6 rfl rfl, rv_le _, runBI_le _ 0 4 0 4 rfl rfl, rv_le _, blk_le' x.b 0 0 rfl, gots_le ng gs, ops_le b.n b.f false, ops_le x.b.n x.b.f false, trivial⟩) ?_; clear hK K)
    have hgd : ∀ g : GotS, U g.value → ∃ i' x' y', x.b.n + 1 - (i + 1) = x.b.n + 1 - i' ∧ i' ≤ x.b.n ∧ x'.b = x.b ∧ y'.b = b ∧ RunOk x' ∧ RunOk y' ∧ FChain x' y' ∧ x'.waits = false ∧ y'.waits = false ∧ (x'.left = true ∨ i' ≤ x'.pos) ∧ doS x.b b ng gs (tookR xn g) (tookR yn g) (i + 1) = doS x.b b ng gs x' y' i' := fun g hg =>
      ⟨i + 1, tookR xn g, tookR yn g, rfl, by rw [hbx] at hp3; omega, by rw [take_b]; exact hbx, by rw [take_b, hby]; exact hyb, okx'.take g hg, oky'.take g hg, hch'.take hcw hxl g hg, take_waits _ _, take_waits _ _, .inr (by rw [take_pos]; omega), rfl⟩
    unfold doG doT doS
    repeat' (first | refine run_seq ?_ | refine run_skip ?_ | (refine run_region fun K hK => ?_; (try (simp (maxSteps := 10000000) only [gotsB, gotB, gotL, C28r14, rwp_nil, rwp_cons, aop, gpath, St.get, slotAt, sfx, eqP, St.put, addBlk, bin, isShift, sameK, arith, shed])); (repeat (first | (refine And.intro ?_ ?_; · (first | trivial | assumption | omega | (intros; first | trivial | omega))))); with_reducible refine hK _ ?_; clear hK K) | (refine run_cond rfl (fun hc => ?_) (fun hc => ?_) <;> try (simp only [*, Bool.true_eq_false, Bool.false_eq_true, Bool.not_true, Bool.not_false, Bool.true_or, Bool.or_true, Bool.false_or, Bool.or_false, Bool.false_and, Bool.and_false, bne_self_eq_false, beq_self_eq_true] at hc; done)) | refine run_block ?_ | refine run_ret ?_ | refine run_nil ?_ | refine run_exit ?_ | refine blk_normal ?_ | refine blk_ret ?_ | refine blk_here ?_ | refine blk_there rfl ?_ | refine loop_exit ?_ | refine loop_ret ?_ | refine un_exit ?_ | refine un_ret ?_ | refine unE_exit ?_ | refine unE_ret ?_ | refine un_normal ?_)
    · skip
      have hin : i < ng := by simpa using hc
      have hg := hgd (gs i) (hgs i hin)
      repeat' (first | refine run_seq ?_ | refine run_skip ?_ | (refine run_region fun K hK => ?_; (try (simp (maxSteps := 10000000) only [C28r15, C28r16, C28r17, C28r18, rwp_nil, rwp_cons, aop, gpath, St.get, slotAt, sfx, eqP, St.put, addBlk, getB, setB, ldn, stn, setRow, rowNeed, nsub, un, getsl, selB_or, beqb, shed, addN, Nat.beq, Seg.size, sizes, imp, appL, argsOf, ptrsOf, cut, takeS, dropS, putS, strOk, plusA, exOk, Nat.reduceAdd, List.append_nil, List.nil_append, Int.toNat_natCast])); (repeat (first | (refine And.intro ?_ ?_; · (first | trivial | assumption | omega | (intros; first | trivial | omega))) | ((first | (refine call_t _ (con20_at xn (gs i) hcw (by omega) (by omega) hxbn 5 0 4 9 _ _ rfl rfl rfl rfl (by rw [hbx]; rfl) rfl (Nat.le_of_ble_eq_true rfl) (Nat.le_of_ble_eq_true rfl) (Nat.le_of_ble_eq_true rfl) (by simp [keysLt])) ?_; rintro v H' ⟨rfl, rfl⟩) | refine call_q _ (con20_at xn (gs i) hcw (by omega) (by omega) hxbn 5 0 4 9 _ _ rfl rfl rfl rfl (by rw [hbx]; rfl) rfl (Nat.le_of_ble_eq_true rfl) (Nat.le_of_ble_eq_true rfl) (Nat.le_of_ble_eq_true rfl) (by simp [roL, keysLt])) ?_ | refine call_g _ (imp_of (con20_at xn (gs i) hcw (by omega) (by omega) hxbn 5 0 4 9 _ _ rfl rfl rfl rfl (by rw [hbx]; rfl) rfl (Nat.le_of_ble_eq_true rfl) (Nat.le_of_ble_eq_true rfl) (Nat.le_of_ble_eq_true rfl) (by simp [roL, keysLt]))) ?_ | (refine call_t _ (con20_at yn (gs i) hyw (by omega) (by omega) hybn 7 1 6 9 _ _ rfl rfl rfl rfl (by rw [hby, hyb]; rfl) rfl (Nat.le_of_ble_eq_true rfl) (Nat.le_of_ble_eq_true rfl) (Nat.le_of_ble_eq_true rfl) (by simp [keysLt])) ?_; rintro v H' ⟨rfl, rfl⟩) | refine call_q _ (con20_at yn (gs i) hyw (by omega) (by omega) hybn 7 1 6 9 _ _ rfl rfl rfl rfl (by rw [hby, hyb]; rfl) rfl (Nat.le_of_ble_eq_true rfl) (Nat.le_of_ble_eq_true rfl) (Nat.le_of_ble_eq_true rfl) (by simp [roL, keysLt])) ?_ | refine call_g _ (imp_of (con20_at yn (gs i) hyw (by omega) (by omega) hybn 7 1 6 9 _ _ rfl rfl rfl rfl (by rw [hby, hyb]; rfl) rfl (Nat.le_of_ble_eq_true rfl) (Nat.le_of_ble_eq_true rfl) (Nat.le_of_ble_eq_true rfl) (by simp [roL, keysLt]))) ?_); simp (maxSteps := 10000000) only [rwp_nil, rwp_cons, rwpK_app, aop, gpath, St.get, slotAt, sfx, eqP, St.put, addBlk, delB, shed]))); with_reducible refine hK _ ?_; clear hK K) | (refine run_cond rfl (fun hc => ?_) (fun hc => ?_) <;> try (simp only [*, Bool.false_eq_true, Bool.not_true, Bool.or_false] at hc; done)) | refine run_block ?_ | refine run_ret ?_ | refine run_nil ?_ | refine run_exit ?_ | refine blk_normal ?_ | refine blk_ret ?_ | refine blk_here ?_ | refine blk_there rfl ?_ | refine loop_exit ?_ | refine loop_ret ?_ | refine un_exit ?_ | refine un_ret ?_ | refine unE_exit ?_ | refine unE_ret ?_ | refine un_normal ?_)
      repeat' (first | refine run_seq ?_ | refine run_skip ?_ | (refine run_region fun K hK => ?_; (try (simp (maxSteps := 10000000) only [hw1, C28r20, rwp_nil, rwp_cons, aop, gpath, St.get, slotAt, sfx, eqP, St.put, addBlk, bin, isShift, sameK, arith, shed])); (repeat (first | (refine And.intro ?_ ?_; · first | trivial | assumption | omega))); with_reducible refine hK _ ?_; clear hK K) | (refine run_cond rfl (fun hc => ?_) (fun hc => ?_) <;> try (simp only [*, Bool.true_eq_false, Bool.false_eq_true, Bool.not_true, Bool.not_false, Bool.true_or, Bool.or_true, Bool.false_or, Bool.or_false, Bool.false_and, Bool.and_false, bne_self_eq_false, beq_self_eq_true] at hc; done)) | refine run_block ?_ | refine run_ret ?_ | refine run_nil ?_ | refine run_exit ?_ | refine blk_normal ?_ | refine blk_ret ?_ | refine blk_here ?_ | refine blk_there rfl ?_ | refine loop_exit ?_ | refine loop_ret ?_ | refine un_exit ?_ | refine un_ret ?_ | refine unE_exit ?_ | refine unE_ret ?_ | refine un_normal ?_)
      exact loop_normal (x.b.n + 1 - (i + 1)) (doS x.b b ng gs (tookR xn (gs i)) (tookR yn (gs i)) (i + 1)) (by omega) (LeS.intro [0, 1, 2, 3, 4, 5, 6, 7] ids3 (by simp only [diff, notIn, Nat.beq, and_self]) rfl (by simp only [doS, doT, slotsLe, slotAt, leV, leV1, leC, leA, nthO, and_self]) ⟨runBI_le _ 1 6 1 6 rfl rfl, rv_le _, runBI_le _ 0 4 0 4 rfl rfl, rv_le _, blk_le' x.b 0 0 rfl, gots_le ng gs, ops_le b.n b.f false, ops_le x.b.n x.b.f false, trivial⟩) hg
    · skip
      have hg := hgd ⟨IntKind.u64.wrap (8 * (i : Int)), (i : Int).tmod 2 == 0, 0⟩ (U_wrap _)
      repeat' (first | refine run_seq ?_ | refine run_skip ?_ | (refine run_region fun K hK => ?_; (try (simp (maxSteps := 10000000) only [C28r16, C28r17, C28r18, rwp_nil, rwp_cons, aop, gpath, St.get, slotAt, sfx, eqP, St.put, addBlk, getB, ldn, rowNeed, nsub, un, getsl, selB_or, beqb, shed, Seg.size, appL, argsOf, ptrsOf, cut, takeS, dropS, Nat.reduceAdd])); (repeat (first | (refine And.intro ?_ ?_; · (first | trivial | assumption | omega | (intros; first | trivial | omega))) | ((first | (refine call_t _ (con20_at xn ⟨IntKind.u64.wrap (8 * (i : Int)), (i : Int).tmod 2 == 0, 0⟩ hcw (by omega) (by omega) hxbn 5 0 4 9 _ _ rfl rfl rfl rfl (by rw [hbx]; rfl) rfl (Nat.le_of_ble_eq_true rfl) (Nat.le_of_ble_eq_true rfl) (Nat.le_of_ble_eq_true rfl) (by simp [keysLt])) ?_; rintro v H' ⟨rfl, rfl⟩) | refine call_q _ (con20_at xn ⟨IntKind.u64.wrap (8 * (i : Int)), (i : Int).tmod 2 == 0, 0⟩ hcw (by omega) (by omega) hxbn 5 0 4 9 _ _ rfl rfl rfl rfl (by rw [hbx]; rfl) rfl (Nat.le_of_ble_eq_true rfl) (Nat.le_of_ble_eq_true rfl) (Nat.le_of_ble_eq_true rfl) (by simp [roL, keysLt])) ?_ | refine call_g _ (imp_of (con20_at xn ⟨IntKind.u64.wrap (8 * (i : Int)), (i : Int).tmod 2 == 0, 0⟩ hcw (by omega) (by omega) hxbn 5 0 4 9 _ _ rfl rfl rfl rfl (by rw [hbx]; rfl) rfl (Nat.le_of_ble_eq_true rfl) (Nat.le_of_ble_eq_true rfl) (Nat.le_of_ble_eq_true rfl) (by simp [roL, keysLt]))) ?_ | (refine call_t _ (con20_at yn ⟨IntKind.u64.wrap (8 * (i : Int)), (i : Int).tmod 2 == 0, 0⟩ hyw (by omega) (by omega) hybn 7 1 6 9 _ _ rfl rfl rfl rfl (by rw [hby, hyb]; rfl) rfl (Nat.le_of_ble_eq_true rfl) (Nat.le_of_ble_eq_true rfl) (Nat.le_of_ble_eq_true rfl) (by simp [keysLt])) ?_; rintro v H' ⟨rfl, rfl⟩) | refine call_q _ (con20_at yn ⟨IntKind.u64.wrap (8 * (i : Int)), (i : Int).tmod 2 == 0, 0⟩ hyw (by omega) (by omega) hybn 7 1 6 9 _ _ rfl rfl rfl rfl (by rw [hby, hyb]; rfl) rfl (Nat.le_of_ble_eq_true rfl) (Nat.le_of_ble_eq_true rfl) (Nat.le_of_ble_eq_true rfl) (by simp [roL, keysLt])) ?_ | refine call_g _ (imp_of (con20_at yn ⟨IntKind.u64.wrap (8 * (i : Int)), (i : Int).tmod 2 == 0, 0⟩ hyw (by omega) (by omega) hybn 7 1 6 9 _ _ rfl rfl rfl rfl (by rw [hby, hyb]; rfl) rfl (Nat.le_of_ble_eq_true rfl) (Nat.le_of_ble_eq_true rfl) (Nat.le_of_ble_eq_true rfl) (by simp [roL, keysLt]))) ?_); simp (maxSteps := 10000000) only [rwp_nil, rwp_cons, rwpK_app, aop, gpath, St.get, slotAt, sfx, eqP, St.put, addBlk, delB, shed]))); with_reducible refine hK _ ?_; clear hK K) | (refine run_cond rfl (fun hc => ?_) (fun hc => ?_) <;> try (simp only [*, Bool.false_eq_true, Bool.not_true, Bool.or_false] at hc; done)) | refine run_block ?_ | refine run_ret ?_ | refine run_nil ?_ | refine run_exit ?_ | refine blk_normal ?_ | refine blk_ret ?_ | refine blk_here ?_ | refine blk_there rfl ?_ | refine loop_exit ?_ | refine loop_ret ?_ | refine un_exit ?_ | refine un_ret ?_ | refine unE_exit ?_ | refine unE_ret ?_ | refine un_normal ?_)
      repeat' (first | refine run_seq ?_ | refine run_skip ?_ | (refine run_region fun K hK => ?_; (try (simp (maxSteps := 10000000) only [hw1, C28r20, rwp_nil, rwp_cons, aop, gpath, St.get, slotAt, sfx, eqP, St.put, addBlk, bin, isShift, sameK, arith, shed])); (repeat (first | (refine And.intro ?_ ?_; · first | trivial | assumption | omega))); with_reducible refine hK _ ?_; clear hK K) | (refine run_cond rfl (fun hc => ?_) (fun hc => ?_) <;> try (simp only [*, Bool.true_eq_false, Bool.false_eq_true, Bool.not_true, Bool.not_false, Bool.true_or, Bool.or_true, Bool.false_or, Bool.or_false, Bool.false_and, Bool.and_false, bne_self_eq_false, beq_self_eq_true] at hc; done)) | refine run_block ?_ | refine run_ret ?_ | refine run_nil ?_ | refine run_exit ?_ | refine blk_normal ?_ | refine blk_ret ?_ | refine blk_here ?_ | refine blk_there rfl ?_ | refine loop_exit ?_ | refine loop_ret ?_ | refine un_exit ?_ | refine un_ret ?_ | refine unE_exit ?_ | refine unE_ret ?_ | refine un_normal ?_)
      exact loop_normal (x.b.n + 1 - (i + 1)) (doS x.b b ng gs (tookR xn ⟨IntKind.u64.wrap (8 * (i : Int)), (i : Int).tmod 2 == 0, 0⟩) (tookR yn ⟨IntKind.u64.wrap (8 * (i : Int)), (i : Int).tmod 2 == 0, 0⟩) (i + 1)) (by omega) (LeS.intro [0, 1, 2, 3, 4, 5, 6, 7] ids3 (by simp only [diff, notIn, Nat.beq, and_self]) rfl (by simp only [doS, doT, slotsLe, slotAt, leV, leV1, leC, leA, nthO, and_self]) ⟨runBI_le _ 1 6 1 6 rfl rfl, rv_le _, runBI_le _ 0 4 0 4 rfl rfl, rv_le _, blk_le' x.b 0 0 rfl, gots_le ng gs, ops_le b.n b.f false, ops_le x.b.n x.b.f false, trivial⟩) hg
  · exfalso
    simp only [decide_eq_false_iff_not] at hc
    omega
end Go.Proofs.Ytmbnakinhnkabaa

namespace Go.Proofs.Ytmbnakinhnkabaa
open Go.AM
set_option maxRecDepth 100000
set_option linter.unusedSimpArgs false
set_option linter.unusedVariables false
end Go.Proofs.Ytmbnakinhnkabaa

namespace Go.Proofs.Ytmbnakinhnkabaa
open Go.AM
set_option maxRecDepth 100000
set_option linter.unusedSimpArgs false
set_option linter.unusedVariables false
def saG (a b : BlkS) (j : Nat) : St := ⟨[⟨5, [], .c (.int .i64 j)⟩, ⟨3, [], .c (.ptr ⟨3, 0, 0, 0⟩)⟩, ⟨2, [], .c (.ptr ⟨2, 0, 0, 0⟩)⟩], ⟨4, [(3, blkB b 1), (2, blkB a 0), (1, opsB b.n b.f), (0, opsB a.n a.f)]⟩⟩
theorem con14g (a b : BlkS) (hpc : a.pc = b.pc) (hwo : a.words = b.words) (hel : a.el = b.el) (hn : a.n ≤ 140737488355328) : Con Try.prog 14 [.agg (blkL a 0), .agg (blkL b 1)] ⟨2, [(1, opsB b.n b.f), (0, opsB a.n a.f)]⟩ (fun v H' => v = .c (.bool (eqOps a.n b.n a.f b.f)) ∧ H' = ⟨2, [(1, opsB b.n b.f), (0, opsB a.n a.f)]⟩) := by
  (refine con_of_run mixed (fn := Try.f14) (by kernel_rfl) (by kernel_rfl) C14_ok (rs := [.tmp 4]) (by kernel_rfl) (Nat.le_of_ble_eq_true (by kernel_rfl)) ?_; unfold C14; simp only [initT, Nat.reduceAdd])
  repeat' (first | refine run_seq ?_ | refine run_skip ?_ | (refine run_region fun K hK => ?_; (try (simp (maxSteps := 10000000) only [blkL, hpc, hwo, hel, bne_self_eq_false, C14r0, C14r1, C14r2, rwp_nil, rwp_cons, aop, gpath, St.get, slotAt, sfx, eqP, segsOf, St.put, addBlk, getB, ld1, rowNeed, segAt, nsub, bin, isShift, sameK, arith, getsl, selB_or, selB_and, beqb, shed, addN, Seg.size, sizes, Nat.reduceAdd])); (repeat (first | (refine And.intro ?_ ?_; · (first | trivial | assumption | omega | (intros; first | trivial | assumption | omega))))); with_reducible refine hK _ ?_; clear hK K) | (refine run_cond rfl (fun hc => ?_) (fun hc => ?_) <;> try (simp only [*, Bool.false_or, Bool.false_and] at hc; done)) | refine run_block ?_ | refine run_ret ?_ | refine run_nil ?_ | refine run_exit ?_ | refine blk_normal ?_ | refine blk_ret ?_ | refine blk_here ?_ | refine blk_there rfl ?_ | refine loop_exit ?_ | refine loop_ret ?_ | refine un_exit ?_ | refine un_ret ?_ | refine unE_exit ?_ | refine unE_ret ?_ | refine un_normal ?_)
  · refine end_eq false _ rfl rfl rfl ?_
    have : ¬ a.n = b.n := by
      intro e
      rw [e] at hc
      simp at hc
    simp [eqOps, this]
  have e : a.n = b.n := by
    simp only [bne_eq_false_iff_eq, Int.natCast_inj, Bool.or_eq_false_iff] at hc
    first | exact hc | exact hc.2 | simp_all
  have hT : eqN a.f b.f a.n a.n = eqOps a.n b.n a.f b.f := by simp [eqOps, e]
  generalize eqOps a.n b.n a.f b.f = T at hT ⊢
  clear hc
  (refine run_regionL fun K hK => ?_; (try (simp (maxSteps := 10000000) only [C14r3, rwp_nil, rwp_cons, aop, gpath, St.get, St.put, addBlk, shed])); (repeat (first | (refine And.intro ?_ ?_; · first | trivial | assumption | omega))); refine hK _ (saG a b 0) (LeS.intro [0, 1, 2, 3] idtt (by simp only [diff, notIn, Nat.beq, and_self]) rfl (by simp only [saG, slotsLe, slotAt, leV, leV1, leC, leA, nthO, Int.natCast_zero, and_self]) ⟨blk_le' b 1 1 rfl, ⟨rfl, rfl, id, Nat.le_refl _, fun _ _ => by simp only [blkB, blkL, hpc, hwo, hel, leSegs, leSeg, leC, leA, nthO, and_self]⟩, ops_le b.n b.f false, ops_le a.n a.f false, trivial⟩) ?_; clear hK K)
  refine run_block ?_
  refine run_loop (fun t st => ∃ j, j ≤ a.n ∧ t = a.n - j ∧ eqN a.f b.f a.n t = T ∧ st = saG a b j) a.n ⟨0, Nat.zero_le _, rfl, hT, rfl⟩ ?_
  rintro t st ⟨j, hj, rfl, hT, rfl⟩
  unfold saG
  have hw : IntKind.i64.wrap ((j : Int) + 1) = ((j + 1 : Nat) : Int) := by rw [IntKind.wrap_i64]; omega
  repeat' (first | refine run_seq ?_ | refine run_skip ?_ | (refine run_region fun K hK => ?_; (try (simp (maxSteps := 10000000) only [blkB, blkL, opsB, opL, C14r4, C14r5, C14r6, C14r8, rwp_nil, rwp_cons, aop, gpath, St.get, slotAt, sfx, eqP, St.put, addBlk, getB, ld1, ldn, rowNeed, segAt, nsub, bin, isShift, sameK, arith, shed, addN, Nat.beq, Seg.size, imp, cut, takeS, dropS, negIf, eqS, eqF, eqS1, strOk, plusA, Nat.reduceAdd, Int.toNat_natCast])); (repeat (first | (refine And.intro ?_ ?_; · (first | trivial | assumption | (simp only [decide_eq_true_eq] at *; omega))))); with_reducible refine hK _ ?_; clear hK K) | (refine run_cond rfl (fun hc => ?_) (fun hc => ?_) <;> try (simp only [*] at hc; done)) | refine run_block ?_ | refine run_ret ?_ | refine run_nil ?_ | refine run_exit ?_ | refine blk_normal ?_ | refine blk_ret ?_ | refine blk_here ?_ | refine blk_there rfl ?_ | refine loop_exit ?_ | refine loop_ret ?_ | refine un_exit ?_ | refine un_ret ?_ | refine unE_exit ?_ | refine unE_ret ?_ | refine un_normal ?_)
  · rename_i h0
    have hlt : j < a.n := by simp only [decide_eq_true_eq] at h0; omega
    obtain ⟨t, ht⟩ : ∃ t, a.n - j = t + 1 := ⟨a.n - j - 1, by omega⟩
    have hj' : a.n - (t + 1) = j := by omega
    rw [ht] at hT
    simp only [eqN, hj'] at hT
    refine end_eq false _ rfl rfl rfl ?_
    rw [← hT, show eqO (a.f j) (b.f j) = false from by simp only [Bool.not_eq_true'] at hc; exact hc]
    rfl
  · rename_i h0
    have hlt : j < a.n := by simp only [decide_eq_true_eq] at h0; omega
    obtain ⟨t, ht⟩ : ∃ t, a.n - j = t + 1 := ⟨a.n - j - 1, by omega⟩
    have hj' : a.n - (t + 1) = j := by omega
    rw [ht] at hT
    simp only [eqN, hj'] at hT
    have he : eqO (a.f j) (b.f j) = true := by simp only [Bool.not_eq_false'] at hc; exact hc
    rw [he, Bool.true_and] at hT
    repeat' (first | refine run_seq ?_ | refine run_skip ?_ | (refine run_region fun K hK => ?_; (try (simp (maxSteps := 10000000) only [hw, C14r7, rwp_nil, rwp_cons, aop, gpath, St.get, slotAt, sfx, eqP, St.put, addBlk, bin, isShift, sameK, arith, shed])); (repeat (first | (refine And.intro ?_ ?_; · first | trivial | assumption | omega))); with_reducible refine hK _ ?_; clear hK K) | (refine run_cond rfl (fun hc => ?_) (fun hc => ?_) <;> try (simp only [*, Bool.true_eq_false, Bool.false_eq_true, Bool.not_true, Bool.not_false, Bool.true_or, Bool.or_true, Bool.false_or, Bool.or_false, Bool.false_and, Bool.and_false, bne_self_eq_false, beq_self_eq_true] at hc; done)) | refine run_block ?_ | refine run_ret ?_ | refine run_nil ?_ | refine run_exit ?_ | refine blk_normal ?_ | refine blk_ret ?_ | refine blk_here ?_ | refine blk_there rfl ?_ | refine loop_exit ?_ | refine loop_ret ?_ | refine un_exit ?_ | refine un_ret ?_ | refine unE_exit ?_ | refine unE_ret ?_ | refine un_normal ?_)
    refine loop_normal (a.n - (j + 1)) (saG a b (j + 1)) (by omega) (LeS.intro [0, 1, 2, 3] idtt (by simp only [diff, notIn, Nat.beq, and_self]) rfl (by simp only [saG, slotsLe, slotAt, leV, leV1, leC, leA, nthO, and_self]) ⟨blk_le' b 1 1 rfl, blk_le' a 0 0 rfl, ops_le b.n b.f false, ops_le a.n a.f false, trivial⟩) ⟨j + 1, hlt, rfl, ?_, rfl⟩
    rw [show a.n - (j + 1) = t by omega]
    exact hT
  · have hn0 : a.n - j = 0 := by simp only [decide_eq_false_iff_not] at hc; omega
    rw [hn0] at hT
    exact end_eq true _ rfl rfl rfl hT
theorem con14g_at (a b : BlkS) (hpc : a.pc = b.pc) (hwo : a.words = b.words) (hel : a.el = b.el) (hn : a.n ≤ 140737488355328) (i j q : Nat) (X : List (Nat × Blk)) (w w' : Bool) (hij : Nat.beq i j = false) (h0 : getB X i = some ⟨6, some a.n, fun i => opL (a.f i), 39, w⟩) (h1 : getB X j = some ⟨6, some b.n, fun i => opL (b.f i), 39, w'⟩) (hi : i < q) (hj : j < q) (hkl : keysLt X q) : Con Try.prog 14 [.agg (blkL a i), .agg (blkL b j)] ⟨q, X⟩ (fun v H' => v = .c (.bool (eqOps a.n b.n a.f b.f)) ∧ H' = ⟨q, X⟩) :=
  ro_gen (con14g a b hpc hwo hel hn) [i, j] q X rfl (by simp only [diff, notIn, hij, and_self]) ⟨hi, hj, trivial⟩ hkl (by simp only [leBlks, nthO, h0, h1]; exact ⟨ops_le b.n b.f w', ops_le a.n a.f w, trivial⟩) (by simp only [leArgs, leV, leV1, blkL, leSegs, leSeg, leC, leA, nthO, and_self]) rfl (fun _ => rfl) rfl rfl
def blkF (b : BlkS) (i : Nat) : List Seg := [.c (.int .u64 b.pc), .c (.int .i64 b.words), .c (.int .i64 b.el), .c (.full ⟨i, 0, 0, 0⟩ b.n (b.n + 1))]
def moreO (b : BlkS) (i : Nat) : OpS := if i < b.n then b.f i else ⟨-7, 0, 0, 0, 0, 0⟩
def opsX (b : BlkS) : Blk := ⟨6, some (b.n + 1), fun i => opL (moreO b i), 39, true⟩
def blkFB (b : BlkS) (i : Nat) : Blk := ⟨4, none, fun _ => blkF b i, 25, true⟩
theorem blkF_le {l : List Nat} (b : BlkS) (i j : Nat) (h : nthO l j = some i) : leB l ⟨4, none, fun _ => blkF b i, 25, true⟩ (blkFB b j) := ⟨rfl, rfl, id, Nat.le_refl _, fun _ _ => by simp only [blkFB, blkF, leSegs, leSeg, leC, leA, h, and_self]⟩
def cpSt (b : BlkS) : St := ⟨[⟨3, [], .c (.full ⟨3, 0, 0, 0⟩ (b.n + 1) (b.n + 1))⟩, ⟨1, [], .c (.ptr ⟨1, 0, 0, 0⟩)⟩, ⟨2, [], .c (.ptr ⟨2, 0, 0, 0⟩)⟩], ⟨4, [(3, opsX b), (2, zblk), (1, blkB b 0), (0, opsB b.n b.f)]⟩⟩
theorem rows_end (B C : Blk) (n : Nat) : rowsCpy B 0 C 0 n n = B.row n := by simp [rowsCpy, addN_eq]
theorem x_le {l : List Nat} (b : BlkS) {row : Nat → List Seg} (h : ∀ i, i < b.n + 1 → row i = opL (moreO b i)) : leB l ⟨6, some (b.n + 1), row, 39, true⟩ (opsX b) := ⟨rfl, rfl, id, Nat.le_refl _, fun i hi => by
  have hi := hi.resolve_right (Nat.succ_ne_zero _)
  show leSegs l (row i) _
  rw [h i hi]
  simp only [opsX, opL, leSegs, leSeg, leC, and_self]⟩
theorem con24_0 (b : BlkS) (hn : (b.n + 1) * 48 ≤ 140737488355328) : Con Try.prog 24 [.agg (blkL b 0)] ⟨1, [(0, opsB b.n b.f)]⟩ (fun v H' => v = .agg (blkF b 3) ∧ H' = ⟨4, [(3, opsX b), (2, blkFB b 3), (1, blkFB b 3), (0, opsB b.n b.f)]⟩) := by
  have hw : IntKind.i64.wrap ((b.n : Int) + 1) = ((b.n + 1 : Nat) : Int) := by rw [IntKind.wrap_i64]; omega
  have hmin : min b.n (b.n + 1) = b.n := by omega
  (refine con_of_run mixed (fn := Try.f24) (by kernel_rfl) (by kernel_rfl) C24_ok (rs := [.cn 4 2]) (by kernel_rfl) (Nat.le_of_ble_eq_true (by kernel_rfl)) ?_; unfold C24; simp only [initT])
  repeat' (first | refine run_seq ?_ | (refine run_region fun K hK => ?_; (try (simp (maxSteps := 10000000) only [blkL, opsB, hw, hmin, C24r0, C24r1, C24r2, rwp_nil, rwp_cons, aop, gpath, St.get, slotAt, sfx, eqP, segsOf, St.put, addBlk, getB, setB, ld1, rowNeed, segAt, nsub, bin, isShift, sameK, arith, shed, addN, Nat.beq, Seg.size, sizes, imp, exOk, Nat.reduceAdd, cpy, Int.toNat_natCast])); (repeat (first | (refine And.intro ?_ ?_; · (first | trivial | assumption | omega | exact ⟨by omega, by omega⟩ | exact ⟨by omega, by omega, by omega⟩)))); with_reducible refine hK _ ?_; clear hK K) | refine run_ret ?_ | refine run_nil ?_)
  (refine run_regionL fun K hK => ?_; (try (simp (maxSteps := 10000000) only [rows_end, partsOf, fillS, C24r3, rwp_nil, rwp_cons, aop, gpath, St.get, slotAt, sfx, eqP, segsOf, St.put, addBlk, getB, setB, ld1, stn, setRow, rowNeed, segAt, nsub, shed, addN, Nat.beq, Seg.size, sizes, imp, takeS, dropS, putS, partsOf, fillS, strOk, plusA, exOk, Nat.reduceAdd, List.append_nil, List.nil_append, List.cons_append, Int.toNat_natCast])); (repeat (first | (refine And.intro ?_ ?_; · (first | trivial | assumption | omega | exact ⟨by omega, by omega⟩ | exact ⟨by omega, by omega, by omega⟩)))); refine hK _ (cpSt b) (LeS.intro [0, 1, 2, 3] idts (by simp only [diff, notIn, Nat.beq, and_self]) rfl (by simp only [cpSt, slotsLe, slotAt, leV, leV1, leC, leA, nthO, and_self, true_and]; exact ⟨Nat.succ_pos _, trivial⟩) ⟨x_le b (fun i hi => by
    by_cases e : i = b.n
    · subst e
      simp [moreO, opL]
    · have : i < b.n := by omega
      simp [e, this, rowsCpy, moreO, addN_eq]), ⟨rfl, rfl, id, Nat.le_refl _, fun _ _ => by simp only [zblk, leSegs, leSeg, leC, and_self]⟩, blk_le' b 0 0 rfl, ops_le b.n b.f false, trivial⟩) ?_; clear hK K)
  unfold cpSt
  repeat' (first | refine run_seq ?_ | (refine run_region fun K hK => ?_; (try (simp (maxSteps := 10000000) only [blkL, blkB, zblk, opsB, opsX, C24r4, C24r5, rwp_nil, rwp_cons, aop, gpath, St.get, slotAt, sfx, eqP, St.put, addBlk, getB, setB, ld1, ldn, st1, stn, setRow, rowNeed, segAt, nsub, shed, addN, Nat.beq, Seg.size, sizes, imp, cut, takeS, dropS, putS, slcS, bndHi, leN, optG, exOk, Nat.reduceAdd, List.append_nil, List.nil_append, List.cons_append, Int.toNat_natCast])); (repeat (first | (refine And.intro ?_ ?_; · (first | trivial | assumption | omega | exact ⟨by omega, by omega⟩ | exact ⟨by omega, by omega, by omega⟩)))); with_reducible refine hK _ ?_; clear hK K) | refine run_ret ?_ | refine run_nil ?_)
  refine end_of ⟨[⟨2, [], .c (.ptr ⟨2, 0, 0, 0⟩)⟩], ⟨4, [(3, opsX b), (2, blkFB b 3), (1, blkFB b 3), (0, opsB b.n b.f)]⟩⟩ (LeS.intro [0, 1, 2, 3] idts (by simp only [diff, notIn, Nat.beq, and_self]) rfl (by simp only [slotsLe, slotAt, leV, leV1, leC, leA, nthO, and_self]) ⟨x_le b (fun _ _ => rfl), blkF_le b 3 3 rfl, blkF_le b 3 3 rfl, ops_le b.n b.f false, trivial⟩) ?_
  simp only [endF, resL, resA, St.get, slotAt, sfx, eqP, ldn, getB, blkFB, blkF, rowNeed, cut, dropS, takeS, Seg.size, nsub, noTup, resV]
  refine ⟨?_, ?_⟩ <;> first | rfl | trivial
theorem con24 (b : BlkS) (hn : (b.n + 1) * 48 ≤ 140737488355328) : Con Try.prog 24 [.agg (blkL b 0)] ⟨1, [(0, opsB b.n b.f)]⟩ (fun v H' => v = .agg (blkF b 1) ∧ H' = ⟨2, [(1, opsX b), (0, opsB b.n b.f)]⟩) := by
  refine Con.forget (con24_0 b hn) ?_
  rintro v H' ⟨rfl, rfl⟩
  exact ⟨_, ⟨2, [(1, opsX b), (0, opsB b.n b.f)]⟩, [0, 3], idts, (by simp only [diff, notIn, Nat.beq, and_self]), rfl, ⟨x_le b (fun _ _ => rfl), ops_le b.n b.f false, trivial⟩, by simp only [blkF, leV, leV1, leSegs, leSeg, leC, leA, nthO, and_self], rfl, rfl⟩
theorem con24_at (b : BlkS) (hn : (b.n + 1) * 48 ≤ 140737488355328) (i n : Nat) (X : List (Nat × Blk)) (w : Bool) (h0 : getB X i = some ⟨6, some b.n, fun i => opL (b.f i), 39, w⟩) (hlt : i < n) (hkl : keysLt X n) : Con Try.prog 24 [.agg (blkL b i)] ⟨n, X⟩ (fun v H' => v = .agg (blkF b n) ∧ H' = addBs ⟨n, X⟩ [opsX b]) := by
  refine ((con24 b hn).frame (H := ⟨n, X⟩) [i] rfl ⟨trivial, trivial⟩ ⟨hlt, trivial⟩ hkl (by simp only [leBlks, nthO, h0]; exact ⟨ops_le b.n b.f w, trivial⟩) (by simp only [leArgs, leV, leV1, blkL, leSegs, leSeg, leC, leA, nthO, and_self])).weaken ?_
  rintro v H' ⟨v0, H0', ⟨rfl, rfl⟩, rfl, rfl⟩
  simp only [framed, dropB_ro i b.n 0]
  exact ⟨rfl, rfl⟩
theorem ops_x {l : List Nat} (b : BlkS) (w : Bool) : leB l ⟨6, some (b.n + 1), fun i => opL (moreO b i), 39, w⟩ (opsB b.n b.f) := ⟨rfl, rfl, fun h => (by cases h), Nat.le_succ _, fun i hi => by
  have hi := hi.resolve_right (Nat.succ_ne_zero _)
  have hi' : i < b.n := hi
  show leSegs l (opL (moreO b i)) _
  simp only [moreO, hi', if_true, opsB, opL, leSegs, leSeg, leC, and_self]⟩
theorem con14x_at (b : BlkS) (hn : b.n ≤ 140737488355328) (i j q : Nat) (X : List (Nat × Blk)) (w w' : Bool) (hij : Nat.beq i j = false) (h0 : getB X i = some ⟨6, some (b.n + 1), fun i => opL (moreO b i), 39, w⟩) (h1 : getB X j = some ⟨6, some b.n, fun i => opL (b.f i), 39, w'⟩) (hi : i < q) (hj : j < q) (hkl : keysLt X q) : Con Try.prog 14 [.agg (blkF b i), .agg (blkL b j)] ⟨q, X⟩ (fun v H' => v = .c (.bool true) ∧ H' = ⟨q, X⟩) :=
  ro_gen (con14 b hn) [i, j] q X rfl (by simp only [diff, notIn, hij, and_self]) ⟨hi, hj, trivial⟩ hkl (by simp only [leBlks, nthO, h0, h1]; exact ⟨ops_le b.n b.f w', ops_x b w, trivial⟩) (by simp only [leArgs, leV, leV1, blkF, blkL, leSegs, leSeg, leC, leA, nthO, and_self]) rfl (fun _ => rfl) rfl rfl
def stH (b : BlkS) : Heap := ⟨2, [(1, opsB b.n b.f), (0, ⟨6, some (b.n + 1), fun i => opL (moreO b i), 39, false⟩)]⟩
theorem xr_le {l : List Nat} (b : BlkS) (w : Bool) : leB l ⟨6, some (b.n + 1), fun i => opL (moreO b i), 39, w⟩ ⟨6, some (b.n + 1), fun i => opL (moreO b i), 39, false⟩ := ⟨rfl, rfl, fun h => (by cases h), Nat.le_refl _, fun i hi => by simp only [opL, leSegs, leSeg, leC, and_self]⟩
theorem con27 (b : BlkS) (hn : b.n * 48 ≤ 140737488355328) : Con Try.prog 27 [.agg (blkF b 0), .agg (blkL b 1)] (stH b) (fun v H' => v = .c (.bool true) ∧ H' = stH b) := by
  have hw : IntKind.i64.wrap ((b.n : Int) + 1) = ((b.n + 1 : Nat) : Int) := by rw [IntKind.wrap_i64]; omega
  have hm : moreO b b.n = ⟨-7, 0, 0, 0, 0, 0⟩ := by unfold moreO; rw [if_neg (by omega)]
  (refine con_of_run mixed (fn := Try.f27) (by kernel_rfl) (by kernel_rfl) C27_ok (rs := [.tmp 4]) (by kernel_rfl) (Nat.le_of_ble_eq_true (by kernel_rfl)) ?_; unfold C27; simp only [initT, Nat.reduceAdd])
  repeat' (first | refine run_seq ?_ | (refine run_region fun K hK => ?_; (try (simp (maxSteps := 10000000) only [stH, blkF, blkL, opsB, opL, hw, hm, C27r0, C27r1, C27r2, rwp_nil, rwp_cons, aop, gpath, St.get, slotAt, sfx, eqP, segsOf, St.put, addBlk, getB, ld1, ldn, rowNeed, segAt, nsub, bin, isShift, sameK, arith, getsl, selB_and, beqb, shed, addN, Nat.beq, Seg.size, sizes, imp, appL, argsOf, ptrsOf, cut, takeS, dropS, slcS, strOk, plusA, bndHi, leN, optG, Nat.reduceAdd, Int.toNat_natCast])); (repeat (first | (refine And.intro ?_ ?_; · (first | trivial | assumption | omega | exact ⟨by omega, by omega⟩ | exact ⟨by omega, by omega, by omega⟩ | (intros; first | trivial | assumption | omega | exact ⟨by omega, by omega⟩))) | ((first | (refine call_t _ (con14x_at b (by omega) 0 1 _ _ _ _ rfl rfl rfl (Nat.le_of_ble_eq_true rfl) (Nat.le_of_ble_eq_true rfl) (by simp [keysLt])) ?_; rintro v H' ⟨rfl, rfl⟩) | refine call_q _ (con14x_at b (by omega) 0 1 _ _ _ _ rfl rfl rfl (Nat.le_of_ble_eq_true rfl) (Nat.le_of_ble_eq_true rfl) (by simp [roL, keysLt])) ?_ | refine call_g _ (imp_of (con14x_at b (by omega) 0 1 _ _ _ _ rfl rfl rfl (Nat.le_of_ble_eq_true rfl) (Nat.le_of_ble_eq_true rfl) (by simp [roL, keysLt]))) ?_); simp (maxSteps := 10000000) only [rwp_nil, rwp_cons, rwpK_app, aop, gpath, St.get, slotAt, sfx, eqP, St.put, addBlk, shed]))); with_reducible refine hK _ ?_; clear hK K) | refine run_ret ?_ | refine run_nil ?_)
  refine end_of ⟨[⟨4, [], .c (.bool true)⟩], stH b⟩ (LeS.intro [0, 1] (fun i h => idt2 i h) (by simp only [diff, notIn, Nat.beq, and_self]) rfl (by simp only [slotsLe, slotAt, leV, leV1, leC]; exact ⟨rfl, trivial⟩) ⟨ops_le b.n b.f false, xr_le b false, trivial⟩) ?_
  simp only [endF, resL, resA, St.get, slotAt, sfx, eqP, noTup, resV]
  exact ⟨by first | rfl | trivial, by first | rfl | trivial⟩
theorem con27_at (b : BlkS) (hn : b.n * 48 ≤ 140737488355328) (i j q : Nat) (X : List (Nat × Blk)) (w w' : Bool) (hij : Nat.beq i j = false) (h0 : getB X i = some ⟨6, some (b.n + 1), fun i => opL (moreO b i), 39, w⟩) (h1 : getB X j = some ⟨6, some b.n, fun i => opL (b.f i), 39, w'⟩) (hi : i < q) (hj : j < q) (hkl : keysLt X q) : Con Try.prog 27 [.agg (blkF b i), .agg (blkL b j)] ⟨q, X⟩ (fun v H' => v = .c (.bool true) ∧ H' = ⟨q, X⟩) :=
  ro_gen (con27 b hn) [i, j] q X rfl (by simp only [diff, notIn, hij, and_self]) ⟨hi, hj, trivial⟩ hkl (by simp only [stH, leBlks, nthO, h0, h1]; exact ⟨ops_le b.n b.f w', xr_le b w, trivial⟩) (by simp only [leArgs, leV, leV1, blkF, blkL, leSegs, leSeg, leC, leA, nthO, and_self]) rfl (fun _ => rfl) rfl rfl
theorem con25_x (b : BlkS) (i n : Nat) (X : List (Nat × Blk)) (w : Bool) (h0 : getB X i = some ⟨6, some (b.n + 1), fun i => opL (moreO b i), 39, w⟩) (hlt : i < n) (hkl : keysLt X n) : Con Try.prog 25 [.agg (blkF b i)] ⟨n, X⟩ (fun v H' => v = retFold b n ∧ H' = addBs ⟨n, X⟩ (newFold b)) := by
  refine ((con25 b).frame (args := [.agg (blkF b i)]) (H := ⟨n, X⟩) [i] rfl ⟨trivial, trivial⟩ ⟨hlt, trivial⟩ hkl (by simp only [leBlks, nthO, h0]; exact ⟨ops_x b w, trivial⟩) (by simp only [leArgs, leV, leV1, blkF, blkL, leSegs, leSeg, leC, leA, nthO, and_self])).weaken ?_
  rintro v H' ⟨v0, H0', ⟨rfl, rfl⟩, rfl, rfl⟩
  unfold retFold heapFold newFold
  cases rightS b
  · simp only [framed, dropB_ro i b.n 0]
    exact ⟨rfl, rfl⟩
  · simp only [framed, dropB_ro i b.n 0]
    exact ⟨rfl, rfl⟩
theorem con26_x (b : BlkS) (i n : Nat) (X : List (Nat × Blk)) (w : Bool) (h0 : getB X i = some ⟨6, some (b.n + 1), fun i => opL (moreO b i), 39, w⟩) (hlt : i < n) (hkl : keysLt X n) : Con Try.prog 26 [.agg (blkF b i)] ⟨n, X⟩ (fun v H' => v = retStep b n ∧ H' = addBs ⟨n, X⟩ (newStep b)) := by
  refine ((con26 b).frame (args := [.agg (blkF b i)]) (H := ⟨n, X⟩) [i] rfl ⟨trivial, trivial⟩ ⟨hlt, trivial⟩ hkl (by simp only [leBlks, nthO, h0]; exact ⟨ops_x b w, trivial⟩) (by simp only [leArgs, leV, leV1, blkF, blkL, leSegs, leSeg, leC, leA, nthO, and_self])).weaken ?_
  rintro v H' ⟨v0, H0', ⟨rfl, rfl⟩, rfl, rfl⟩
  unfold retStep heapStep newStep
  cases rightS b
  · simp only [framed, dropB_ro i b.n 0]
    exact ⟨rfl, rfl⟩
  · simp only [framed, dropB_ro i b.n 0]
    exact ⟨rfl, rfl⟩
end Go.Proofs.Ytmbnakinhnkabaa

namespace Go.Proofs.Ytmbnakinhnkabaa
open Go.AM
set_option maxRecDepth 100000
set_option linter.unusedSimpArgs false
set_option linter.unusedVariables false
theorem got_le {l : List Nat} (ng : Nat) (gs : Nat → GotS) (w : Bool) : leB l ⟨3, some ng, fun i => gotL (gs i), 56, w⟩ (gotsB ng gs) := ⟨rfl, rfl, fun h => (by cases h), Nat.le_refl _, fun i _ => by simp only [gotsB, gotL, leSegs, leSeg, leC, and_self]⟩
theorem con28_at (a b : BlkS) (c : CoreS) (ng : Nat) (gs : Nat → GotS) (hwa : BlkWf a) (hwb : BlkWf b) (hra : rightS a = true) (hrb : rightS b = true) (hel : b.el = a.el) (hx : ∀ i, i < 31 → U (c.x i)) (hsp : ∀ i, i < 2 → U (c.sp i)) (hgs : ∀ i, i < ng → U (gs i).value) (hch0 : FChain (newR a c) (newR b c))
    (i j k q : Nat) (X : List (Nat × Blk)) (w w' w2 : Bool) (hij : Nat.beq i j = false) (hik : Nat.beq i k = false) (hjk : Nat.beq j k = false) (h0 : getB X i = some ⟨6, some a.n, fun i => opL (a.f i), 39, w⟩) (h1 : getB X j = some ⟨6, some b.n, fun i => opL (b.f i), 39, w'⟩) (h2 : getB X k = some ⟨3, some ng, fun i => gotL (gs i), 56, w2⟩) (hi : i < q) (hj : j < q) (hk : k < q) (hkl : keysLt X q) :
    Con Try.prog 28 [.agg (blkL a i), .agg (blkL b j), .agg (coreL c), .c (.slice ⟨k, 0, 0, 0⟩ false ng)] ⟨q, X⟩ (fun v H' => v = .c (.bool true) ∧ H' = ⟨q, X⟩) :=
  ro_gen (con28 a b c ng gs hwa hwb hra hrb hel hx hsp hgs hch0) [i, j, k] q X rfl (by simp only [diff, notIn, hij, hik, hjk, and_self]) ⟨hi, hj, hk, trivial⟩ hkl (by simp only [doH, leBlks, nthO, h0, h1, h2]; exact ⟨got_le ng gs w2, ops_le b.n b.f w', ops_le a.n a.f w, trivial⟩) (by simp only [leArgs, leV, leV1, blkL, coreL, leSegs, leSeg, leC, leA, nthO, and_self, implies_true]) rfl (fun _ => rfl) rfl rfl
set_option maxHeartbeats 16000000 in
theorem con6 (b : BlkS) (c : CoreS) (ng : Nat) (gs : Nat → GotS) (hw : BlkWf b) (hx : ∀ i, i < 31 → U (c.x i)) (hsp : ∀ i, i < 2 → U (c.sp i)) (hgs : ∀ i, i < ng → U (gs i).value) (hz : b.n * 48 ≤ 140737488351232) : Con Try.prog 6 [.agg (blkL b 0), .agg (coreL c), .c (.slice ⟨1, 0, 0, 0⟩ false ng)] (ddH b ng gs) (fun v H' => v = .c (.bool true) ∧ H' = ddH b ng gs) := by
  have hbn : (b.n + 1) * 48 ≤ 140737488355328 := by omega
  have hbn2 : b.n * 48 ≤ 140737488355328 := by omega
  cases hr : rightS b with
  | false =>
    have hret : ∀ n, retFold b n = .tup [.agg zBlkL, .c (.int .i64 4)] := fun n => by simp [retFold, hr]
    have hnew : newFold b = [] := by simp [newFold, hr]
    have hret2 : ∀ n, retStep b n = .tup [.agg zBlkL, .c (.bool false), .c (.int .i64 4)] := fun n => by simp [retStep, hr]
    have hnew2 : newStep b = [] := by simp [newStep, hr]
    (refine con_of_run mixed (fn := Try.f6) (by kernel_rfl) (by kernel_rfl) C6_ok (rs := [.tmp 6]) (by kernel_rfl) (Nat.le_of_ble_eq_true (by kernel_rfl)) ?_; unfold C6; simp only [initT, Nat.reduceAdd])
    repeat' (first | refine run_seq ?_ | refine run_skip ?_ | (refine run_region fun K hK => ?_; (try (simp (maxSteps := 10000000) only [opL, blkL, ddH, opsB, coreL, gotsB, Bool.not_true, C6r0, C6r1, C6r2, C6r4, C6r5, C6r6, C6r7, C6r8, C6r9, C6r11, C6r12, rwp_nil, rwp_cons, aop, gpath, St.get, slotAt, sfx, eqP, segsOf, St.put, addBlk, getB, ld1, ldn, rowNeed, segAt, nsub, bin, un, isShift, sameK, arith, getsl, selB_and, beqb, shed, addN, Seg.size, sizes, appL, argsOf, ptrsOf, cut, takeS, dropS, Nat.reduceAdd])); (repeat (first | (refine And.intro ?_ ?_; · (first | trivial | assumption | omega | exact ⟨by omega, by omega⟩ | (intros; first | trivial | assumption | omega | decide))) | ((first | (refine call_t _ (con23 _) ?_; rintro v H' ⟨rfl, rfl⟩) | refine call_q _ (con23 _) ?_ | refine call_g _ (imp_of (con23 _)) ?_ | (refine call_t _ (con11_at b hw 0 _ _ _ rfl (Nat.le_of_ble_eq_true rfl) (by simp [keysLt])) ?_; rintro v H' ⟨rfl, rfl⟩) | refine call_q _ (con11_at b hw 0 _ _ _ rfl (Nat.le_of_ble_eq_true rfl) (by simp [roL, keysLt])) ?_ | refine call_g _ (imp_of (con11_at b hw 0 _ _ _ rfl (Nat.le_of_ble_eq_true rfl) (by simp [roL, keysLt]))) ?_ | (refine call_t _ (con24_at b hbn 0 _ _ _ rfl (Nat.le_of_ble_eq_true rfl) (by simp [keysLt])) ?_; rintro v H' ⟨rfl, rfl⟩) | refine call_q _ (con24_at b hbn 0 _ _ _ rfl (Nat.le_of_ble_eq_true rfl) (by simp [roL, keysLt])) ?_ | refine call_g _ (imp_of (con24_at b hbn 0 _ _ _ rfl (Nat.le_of_ble_eq_true rfl) (by simp [roL, keysLt]))) ?_ | (refine call_t _ (con25_x b _ _ _ _ rfl (Nat.le_of_ble_eq_true rfl) (by simp [keysLt])) ?_; rintro v H' ⟨rfl, rfl⟩) | refine call_q _ (con25_x b _ _ _ _ rfl (Nat.le_of_ble_eq_true rfl) (by simp [roL, keysLt])) ?_ | refine call_g _ (imp_of (con25_x b _ _ _ _ rfl (Nat.le_of_ble_eq_true rfl) (by simp [roL, keysLt]))) ?_ | (refine call_t _ (con26_x b _ _ _ _ rfl (Nat.le_of_ble_eq_true rfl) (by simp [keysLt])) ?_; rintro v H' ⟨rfl, rfl⟩) | refine call_q _ (con26_x b _ _ _ _ rfl (Nat.le_of_ble_eq_true rfl) (by simp [roL, keysLt])) ?_ | refine call_g _ (imp_of (con26_x b _ _ _ _ rfl (Nat.le_of_ble_eq_true rfl) (by simp [roL, keysLt]))) ?_ | (refine call_t _ (con27_at b hbn2 _ 0 _ _ _ _ rfl rfl rfl (Nat.le_of_ble_eq_true rfl) (Nat.le_of_ble_eq_true rfl) (by simp [keysLt])) ?_; rintro v H' ⟨rfl, rfl⟩) | refine call_q _ (con27_at b hbn2 _ 0 _ _ _ _ rfl rfl rfl (Nat.le_of_ble_eq_true rfl) (Nat.le_of_ble_eq_true rfl) (by simp [roL, keysLt])) ?_ | refine call_g _ (imp_of (con27_at b hbn2 _ 0 _ _ _ _ rfl rfl rfl (Nat.le_of_ble_eq_true rfl) (Nat.le_of_ble_eq_true rfl) (by simp [roL, keysLt]))) ?_); simp (maxSteps := 10000000) only [opL, blkF, opsX, zBlkL, hr, hret, hnew, hret2, hnew2, rwp_nil, rwp_cons, rwpK_app, aop, gpath, St.get, slotAt, sfx, eqP, St.put, addBlk, getB, setB, stn, setRow, rowNeed, nsub, shed, Nat.beq, Seg.size, sizes, takeS, dropS, putS, nthA, exOk, Nat.reduceAdd, List.append_nil, List.nil_append, addBs]))); with_reducible refine hK _ ?_; clear hK K) | (refine run_cond rfl (fun hc => ?_) (fun hc => ?_) <;> try (simp only [*, Bool.true_eq_false, Bool.false_eq_true, Bool.not_false] at hc; done)) | refine run_ret ?_ | refine run_nil ?_)
    exact end_dd rfl rfl rfl
  | true =>
    have hret : ∀ n, retFold b n = .tup [.agg (blkL (foldF b) n), .c (.int .i64 0)] := fun n => by simp [retFold, hr]
    have hnew : newFold b = [opsW (foldF b).n (foldF b).f] := by simp [newFold, hr]
    have hret2 : ∀ n, retStep b n = .tup [.agg (blkL (foldB b) n), .c (.bool (chgS b)), .c (.int .i64 0)] := fun n => by simp [retStep, hr]
    have hnew2 : newStep b = [opsW (foldB b).n (foldB b).f] := by simp only [newStep, hr, if_true]; rfl
    obtain ⟨ra, _, _, _⟩ := foldF_same hr
    obtain ⟨gn, gpc, gw, gel, gcnt⟩ := foldF_n (Nat.le_refl _) hr
    have hwa := foldF_wf (Nat.le_refl _) hr hw
    have hwt := foldB_wf hr hw
    have rt := fold_right hr
    have hE : chgS b = !(eqOps (foldB b).n b.n (foldB b).f b.f) := rfl
    have ch1 := new_fchain hx hsp (Nat.le_refl _) hr hw
    have ch2 : FChain (newR b c) (newR (foldB b) c) := .cons (new_fm hr hw hx hsp) (.nil _)
    have tpc : (foldB b).pc = b.pc := rfl
    have tw : (foldB b).words = b.words := rfl
    have tel : (foldB b).el = b.el := rfl
    rw [hE] at hret2
    clear hE
    generalize foldF b = a at *
    generalize foldB b = t at *
    have htn := (right_n rt).2
    have han := (right_n ra).2
    generalize hE : eqOps t.n b.n t.f b.f = E at *
    (refine con_of_run mixed (fn := Try.f6) (by kernel_rfl) (by kernel_rfl) C6_ok (rs := [.tmp 6]) (by kernel_rfl) (Nat.le_of_ble_eq_true (by kernel_rfl)) ?_; unfold C6; simp only [initT, Nat.reduceAdd])
    repeat' (first | refine run_seq ?_ | refine run_skip ?_ | (refine run_region fun K hK => ?_; (try (simp (maxSteps := 10000000) only [opL, blkL, ddH, opsB, coreL, gotsB, Bool.not_true, C6r0, C6r1, C6r2, C6r4, C6r5, C6r6, C6r7, C6r8, C6r9, C6r11, rwp_nil, rwp_cons, aop, gpath, St.get, slotAt, sfx, eqP, segsOf, St.put, addBlk, getB, ldn, rowNeed, nsub, un, shed, Seg.size, sizes, appL, argsOf, ptrsOf, cut, takeS, dropS, Nat.reduceAdd])); (repeat (first | (refine And.intro ?_ ?_; · (first | trivial | assumption | omega | exact ⟨by omega, by omega⟩ | (intros; first | trivial | assumption | omega | decide))) | ((first | (refine call_t _ (con23 _) ?_; rintro v H' ⟨rfl, rfl⟩) | refine call_q _ (con23 _) ?_ | refine call_g _ (imp_of (con23 _)) ?_ | (refine call_t _ (con11_at b hw 0 _ _ _ rfl (Nat.le_of_ble_eq_true rfl) (by simp [keysLt])) ?_; rintro v H' ⟨rfl, rfl⟩) | refine call_q _ (con11_at b hw 0 _ _ _ rfl (Nat.le_of_ble_eq_true rfl) (by simp [roL, keysLt])) ?_ | refine call_g _ (imp_of (con11_at b hw 0 _ _ _ rfl (Nat.le_of_ble_eq_true rfl) (by simp [roL, keysLt]))) ?_ | (refine call_t _ (con24_at b hbn 0 _ _ _ rfl (Nat.le_of_ble_eq_true rfl) (by simp [keysLt])) ?_; rintro v H' ⟨rfl, rfl⟩) | refine call_q _ (con24_at b hbn 0 _ _ _ rfl (Nat.le_of_ble_eq_true rfl) (by simp [roL, keysLt])) ?_ | refine call_g _ (imp_of (con24_at b hbn 0 _ _ _ rfl (Nat.le_of_ble_eq_true rfl) (by simp [roL, keysLt]))) ?_ | (refine call_t _ (con25_x b _ _ _ _ rfl (Nat.le_of_ble_eq_true rfl) (by simp [keysLt])) ?_; rintro v H' ⟨rfl, rfl⟩) | refine call_q _ (con25_x b _ _ _ _ rfl (Nat.le_of_ble_eq_true rfl) (by simp [roL, keysLt])) ?_ | refine call_g _ (imp_of (con25_x b _ _ _ _ rfl (Nat.le_of_ble_eq_true rfl) (by simp [roL, keysLt]))) ?_ | (refine call_t _ (con26_x b _ _ _ _ rfl (Nat.le_of_ble_eq_true rfl) (by simp [keysLt])) ?_; rintro v H' ⟨rfl, rfl⟩) | refine call_q _ (con26_x b _ _ _ _ rfl (Nat.le_of_ble_eq_true rfl) (by simp [roL, keysLt])) ?_ | refine call_g _ (imp_of (con26_x b _ _ _ _ rfl (Nat.le_of_ble_eq_true rfl) (by simp [roL, keysLt]))) ?_ | (refine call_t _ (con27_at b hbn2 _ 0 _ _ _ _ rfl rfl rfl (Nat.le_of_ble_eq_true rfl) (Nat.le_of_ble_eq_true rfl) (by simp [keysLt])) ?_; rintro v H' ⟨rfl, rfl⟩) | refine call_q _ (con27_at b hbn2 _ 0 _ _ _ _ rfl rfl rfl (Nat.le_of_ble_eq_true rfl) (Nat.le_of_ble_eq_true rfl) (by simp [roL, keysLt])) ?_ | refine call_g _ (imp_of (con27_at b hbn2 _ 0 _ _ _ _ rfl rfl rfl (Nat.le_of_ble_eq_true rfl) (Nat.le_of_ble_eq_true rfl) (by simp [roL, keysLt]))) ?_); simp (maxSteps := 10000000) only [opL, blkL, blkF, opsX, opsW, hr, hret, hnew, hret2, hnew2, rwp_nil, rwp_cons, rwpK_app, aop, gpath, St.get, slotAt, sfx, eqP, St.put, addBlk, getB, setB, stn, setRow, rowNeed, nsub, shed, Nat.beq, Seg.size, sizes, takeS, dropS, putS, nthA, exOk, Nat.reduceAdd, List.append_nil, List.nil_append, addBs]))); with_reducible refine hK _ ?_; clear hK K) | (refine run_cond rfl (fun hc => ?_) (fun hc => ?_) <;> try (simp only [*, Bool.false_eq_true] at hc; done)) | refine run_ret ?_ | refine run_nil ?_)
    have q1 : (a.pc != b.pc) = false := by rw [gpc]; exact bne_self_eq_false _
    have q2 : (a.words != b.words) = false := by rw [gw]; exact bne_self_eq_false _
    have q3 : (a.el != b.el) = false := by rw [gel]; exact bne_self_eq_false _
    have q4 : (t.pc != b.pc) = false := by rw [tpc]; exact bne_self_eq_false _
    have q5 : (t.words != b.words) = false := by rw [tw]; exact bne_self_eq_false _
    have q6 : (t.el != b.el) = false := by rw [tel]; exact bne_self_eq_false _
    have q0 : ((0 : Int) != 0) = false := rfl
    clear hc
    repeat' (first | refine run_seq ?_ | refine run_skip ?_ | (refine run_region fun K hK => ?_; (try (simp (maxSteps := 10000000) only [q0, q1, q2, q3, q4, q5, q6, Bool.not_true, C6r13, C6r14, C6r15, C6r17, C6r18, C6r19, C6r20, rwp_nil, rwp_cons, aop, gpath, St.get, slotAt, sfx, eqP, St.put, addBlk, getB, ld1, ldn, rowNeed, segAt, nsub, bin, un, eqB, isShift, sameK, arith, getsl, selB_and, beqb, shed, addN, Seg.size, appL, argsOf, ptrsOf, cut, takeS, dropS, Nat.reduceAdd])); (repeat (first | (refine And.intro ?_ ?_; · (first | trivial | assumption | omega | exact ⟨by omega, by omega⟩ | (intros; first | trivial | assumption | omega | decide))) | ((first | (refine call_t _ (con11_at a hwa 6 _ _ _ rfl (Nat.le_of_ble_eq_true rfl) (by simp [keysLt])) ?_; rintro v H' ⟨rfl, rfl⟩) | refine call_q _ (con11_at a hwa 6 _ _ _ rfl (Nat.le_of_ble_eq_true rfl) (by simp [roL, keysLt])) ?_ | refine call_g _ (imp_of (con11_at a hwa 6 _ _ _ rfl (Nat.le_of_ble_eq_true rfl) (by simp [roL, keysLt]))) ?_ | (refine call_t _ (con11_at t hwt 8 _ _ _ rfl (Nat.le_of_ble_eq_true rfl) (by simp [keysLt])) ?_; rintro v H' ⟨rfl, rfl⟩) | refine call_q _ (con11_at t hwt 8 _ _ _ rfl (Nat.le_of_ble_eq_true rfl) (by simp [roL, keysLt])) ?_ | refine call_g _ (imp_of (con11_at t hwt 8 _ _ _ rfl (Nat.le_of_ble_eq_true rfl) (by simp [roL, keysLt]))) ?_ | (refine call_t _ (con14g_at t b tpc tw tel (by omega) 8 0 _ _ _ _ rfl rfl rfl (Nat.le_of_ble_eq_true rfl) (Nat.le_of_ble_eq_true rfl) (by simp [keysLt])) ?_; rintro v H' ⟨rfl, rfl⟩) | refine call_q _ (con14g_at t b tpc tw tel (by omega) 8 0 _ _ _ _ rfl rfl rfl (Nat.le_of_ble_eq_true rfl) (Nat.le_of_ble_eq_true rfl) (by simp [roL, keysLt])) ?_ | refine call_g _ (imp_of (con14g_at t b tpc tw tel (by omega) 8 0 _ _ _ _ rfl rfl rfl (Nat.le_of_ble_eq_true rfl) (Nat.le_of_ble_eq_true rfl) (by simp [roL, keysLt]))) ?_ | (refine call_t _ (con28_at b a c ng gs hw hwa hr ra gel hx hsp hgs ch1 0 6 1 _ _ _ _ _ rfl rfl rfl rfl rfl rfl (Nat.le_of_ble_eq_true rfl) (Nat.le_of_ble_eq_true rfl) (Nat.le_of_ble_eq_true rfl) (by simp [keysLt])) ?_; rintro v H' ⟨rfl, rfl⟩) | refine call_q _ (con28_at b a c ng gs hw hwa hr ra gel hx hsp hgs ch1 0 6 1 _ _ _ _ _ rfl rfl rfl rfl rfl rfl (Nat.le_of_ble_eq_true rfl) (Nat.le_of_ble_eq_true rfl) (Nat.le_of_ble_eq_true rfl) (by simp [roL, keysLt])) ?_ | refine call_g _ (imp_of (con28_at b a c ng gs hw hwa hr ra gel hx hsp hgs ch1 0 6 1 _ _ _ _ _ rfl rfl rfl rfl rfl rfl (Nat.le_of_ble_eq_true rfl) (Nat.le_of_ble_eq_true rfl) (Nat.le_of_ble_eq_true rfl) (by simp [roL, keysLt]))) ?_ | (refine call_t _ (con28_at b t c ng gs hw hwt hr rt tel hx hsp hgs ch2 0 8 1 _ _ _ _ _ rfl rfl rfl rfl rfl rfl (Nat.le_of_ble_eq_true rfl) (Nat.le_of_ble_eq_true rfl) (Nat.le_of_ble_eq_true rfl) (by simp [keysLt])) ?_; rintro v H' ⟨rfl, rfl⟩) | refine call_q _ (con28_at b t c ng gs hw hwt hr rt tel hx hsp hgs ch2 0 8 1 _ _ _ _ _ rfl rfl rfl rfl rfl rfl (Nat.le_of_ble_eq_true rfl) (Nat.le_of_ble_eq_true rfl) (Nat.le_of_ble_eq_true rfl) (by simp [roL, keysLt])) ?_ | refine call_g _ (imp_of (con28_at b t c ng gs hw hwt hr rt tel hx hsp hgs ch2 0 8 1 _ _ _ _ _ rfl rfl rfl rfl rfl rfl (Nat.le_of_ble_eq_true rfl) (Nat.le_of_ble_eq_true rfl) (Nat.le_of_ble_eq_true rfl) (by simp [roL, keysLt]))) ?_); simp (maxSteps := 10000000) only [ra, rt, hE, rwp_nil, rwp_cons, rwpK_app, aop, gpath, St.get, slotAt, sfx, eqP, St.put, addBlk, shed]))); with_reducible refine hK _ ?_; clear hK K) | (refine run_cond rfl (fun hc => ?_) (fun hc => ?_) <;> try (simp only [*, Bool.false_eq_true, Bool.false_and] at hc; done)) | refine run_ret ?_ | refine run_nil ?_)
    clear hc hE
    cases E <;> exact end_dd rfl rfl rfl
end Go.Proofs.Ytmbnakinhnkabaa

namespace Go.Proofs.Ytmbnakinhnkabaa
open Go.AM Go.ChangeShapes Go.WideShapes Go.ChangeAt Go.RowKit
set_option maxRecDepth 100000
set_option linter.unusedSimpArgs false
set_option linter.unusedVariables false
def kGot : List CK := [.int .u64, .bool, .int .i64]
def kCore : List CK := [.int .u64, .int .u64, .int .u64, .int .u64, .int .u64, .int .u64, .int .u64, .int .u64, .int .u64, .int .u64, .int .u64, .int .u64, .int .u64, .int .u64, .int .u64, .int .u64, .int .u64, .int .u64, .int .u64, .int .u64, .int .u64, .int .u64, .int .u64, .int .u64, .int .u64, .int .u64, .int .u64, .int .u64, .int .u64, .int .u64, .int .u64, .int .u64, .int .u64, .int .u64, .bool, .bool, .bool, .bool, .int .i64, .bool, .int .u64, .int .u64, .int .u64, .int .u64, .int .u64, .int .u64, .int .i64, .int .i64, .bool]
theorem kGot_ok : kindsT Try.prog 5 56 = some kGot := by kernel_rfl
theorem kCore_ok : kindsT Try.prog 5 43 = some kCore := by kernel_rfl
theorem cells56 : Try.prog.cellsOf 56 = 3 := by kernel_rfl
def gotOf (cs : List Value) : GotS := ⟨intAt cs 0, boolAt cs 1, intAt cs 2⟩
def coreOf (cs : List Value) : CoreS := ⟨fun i => intAt cs i, fun i => intAt cs (31 + i), intAt cs 33, boolAt cs 34, boolAt cs 35, boolAt cs 36, boolAt cs 37, intAt cs 38, boolAt cs 39, intAt cs 40, intAt cs 41, intAt cs 42, intAt cs 43, intAt cs 44, intAt cs 45, intAt cs 46, intAt cs 47, boolAt cs 48⟩
theorem got_gen (cs : List Value) : flat (gotL (gotOf cs)) = gen 0 cs kGot 0 := rfl
theorem core_gen (cs : List Value) : flat (coreL (coreOf cs)) = gen 0 cs kCore 0 := rfl
theorem U_wf {n : Int} (h : (Lit.int .u64 n).wf = true) : U n := by
  have := wf_u64 h
  exact ⟨this.1, by omega⟩
theorem kCore_fin : ∀ i : Fin 34, (match kCore[i.val]? with | some (.int .u64) => true | _ => false) = true := by decide +kernel
theorem kCore_u64 (i : Nat) (h : i < 34) : kCore[i]? = some (.int .u64) := by
  have := kCore_fin ⟨i, h⟩
  revert this
  simp only
  split
  · intro _; assumption
  · intro h; cases h
theorem three {H : Type} {enc : TypeId × Value → H} {W : World} {v0 v1 v2 : Value} {d0 d1 d2 : DataW H} {p0 p1 p2 : List MemPlace}
    (o0 : Value.okWide Try.prog W .any 0 25 v0) (o1 : Value.okWide Try.prog W .any 0 43 v1) (o2 : Value.okWide Try.prog W .any 0 44 v2)
    (h0 : DataW.Trod enc Try.prog W 0 (fun _ => true) true 25 v0 d0 p0) (h1 : DataW.Trod enc Try.prog W 0 (fun _ => true) true 43 v1 d1 p1) (h2 : DataW.Trod enc Try.prog W 0 (fun _ => true) true 44 v2 d2 p2) :
    ∃ φ b k ng gs, (∀ cs : Array Value, v0 = .agg cs → b.n = lenAt cs.toList 3) ∧ BlkWf b ∧ (∀ i, i < 31 → U (k.x i)) ∧ (∀ i, i < 2 → U (k.sp i)) ∧ (∀ i, i < ng → U (gs i).value) ∧ F2 (relA φ) [.agg (blkL b 0), .agg (coreL k), .c (.slice ⟨1, 0, 0, 0⟩ false ng)] [v0, v1, v2] ∧ HRel φ (ddH b ng gs) W := by
  obtain ⟨b, q, hwf, hrel, hbr, hlt0, hbn⟩ := blk_arg2 o0 h0
  obtain ⟨cs1, rfl, _⟩ := okWide_struct Try.underlying43 o1
  obtain ⟨r2, n2, c2, rfl⟩ := okWide_slice Try.underlying44 o2
  obtain ⟨f1, h1⟩ := h1
  obtain ⟨f2, h2⟩ := h2
  have q1 := kinds_ok (spare := fun _ => true) (held := true) 5 43 kCore cs1.toList kCore_ok ⟨f1, _, h1⟩
  have q2 := kinds_ok (enc := enc) (w := W) (spare := fun _ => true) (held := true) 5 44 [.slice 56] [.slice r2 n2 c2] (by kernel_rfl) ⟨f2, _, h2⟩
  obtain ⟨_, _, e2, x2, _⟩ := q2.cons_left
  cases e2
  have s2 : ∀ a len cap, Value.slice r2 n2 c2 = .slice (some a) len cap → a.spot = none ∧ a.block < W.heap.size := fun a len cap e => by
    rw [e] at o2
    exact spot_slice Try.underlying44 o2
  let φ : Emb := fun i => if i = 0 then q else if i = 1 then placeOf (.slice r2 n2 c2) 3 else none
  refine ⟨φ, b, coreOf cs1.toList, n2, fun i => gotOf (rowsOf W (.slice r2 n2 c2) 3 i), hbn, hwf, ?_, ?_, ?_, ?_, ?_⟩
  · intro i hi
    exact U_wf (int_wf q1 (i := i) (k := .u64) (kCore_u64 i (by omega)))
  · intro i hi
    show U (intAt cs1.toList (31 + i))
    exact U_wf (int_wf q1 (i := 31 + i) (k := .u64) (kCore_u64 (31 + i) (by omega)))
  · intro i hi
    show U (intAt (rowsOf W (.slice r2 n2 c2) 3 i) 0)
    rcases x2 with e | ⟨a, len, cap, e, _, _, hrow⟩
    · cases e; exact absurd hi (Nat.not_lt_zero _)
    · cases e
      obtain ⟨cs, hcs, hT⟩ := hrow i hi
      rw [cells56] at hcs
      have hr : rowsOf W (.slice (some a) n2 c2) 3 i = cs := by simp only [rowsOf, hcs]
      rw [hr]
      exact U_wf (int_wf (kinds_ok 5 56 kGot cs kGot_ok hT) (i := 0) (k := .u64) rfl)
  · refine .cons (hrel _ rfl) (.cons ⟨cs1, rfl, ?_⟩ (.cons ?_ .nil))
    · rw [core_gen]
      have := noSl_rel (φ := φ) (id := 0) kCore 0 rfl (by simpa using q1)
      simpa using this
    · exact rel_slice (φ := φ) (id := 1) (str := 3) x2 (fun a len cap e => (s2 a len cap e).1) rfl
  · have hb1 : ∀ p, φ 1 = some p → BRel φ (gotsB n2 (fun i => gotOf (rowsOf W (.slice r2 n2 c2) 3 i))) p W := fun p hp =>
      brel_slice (φ := φ) (id := 0) x2 (fun a len cap e => (s2 a len cap e).1) cells56 (fun cs hT => kinds_ok 5 56 kGot cs kGot_ok hT) rfl (fun i => got_gen _) rfl hp
    refine ⟨?_, ?_, ?_, ?_⟩
    · intro i B p hB hp
      match i, hB with
      | 0, hB => cases hB; exact hbr _ p hp
      | 1, hB => cases hB; exact hb1 p hp
      | i + 2, hB => cases hB
    · intro i j B C p q hB hC _ _ _ hw
      match i, hB with
      | 0, hB => cases hB; cases hw
      | 1, hB => cases hB; cases hw
      | i + 2, hB => cases hB
    · intro i hi
      have hi' : 2 ≤ i := hi
      show (if i = 0 then _ else if i = 1 then _ else none) = none
      rw [if_neg (by omega), if_neg (by omega)]
    · intro i p hp
      match i, hp with
      | 0, hp => exact hlt0 p hp
      | 1, hp => exact place_lt (fun a len cap e => (s2 a len cap e).2) hp
      | i + 2, hp => cases hp
theorem foldDoes_lifted (os : Os) (started : os.Started) (H : Type) (enc : TypeId × Value → H) :
    ReturnsInHanded {} Try.checked os 6 .any (Rows.foldDoesSpec.pre6 enc Try.prog Try.f6 Rows.foldDoesRow.domain false) (Rows.foldDoesSpec.post enc Try.prog Try.f6 false true false false) := by
  refine returnsInHanded_of_change_sized (C := Try.checked) own19 started (by kernel_rfl) Try.func6
    (ChangeSpec.witness6 (enc := enc) (C := Try.checked) false ⟨#[], #[.agg (zeros kBlk).toArray, .agg (zeros kCore).toArray, .slice none 0 0], []⟩ 8 (by kernel_rfl) (by kernel_rfl) (by kernel_rfl) (by kernel_rfl)) ?_
  intro W base args ds gs before hval0 hW hcnd hsz0 _
  have hval : ∀ (j : Nat) t v, Try.f6.params[j]? = some t → args[j]? = some v → Value.okWide Try.prog W .any base t v := hval0
  have hsz : (DataW.weightsEach Try.prog (Try.f6.params.toList ++ Rows.foldDoesSpec.plain.varTypes Try.prog) (ds ++ gs)).all (· ≤ reachBytes) = true := hsz0
  have hW' := hW
  obtain ⟨p, q, hA0, hV, rfl, hfz, hnd⟩ := hW
  have hA : DataW.TrodAll enc Try.prog W 0 (fun _ => true) true Try.f6.params.toList args.toList ds p := hA0
  rw [Try.params6] at hA hval hsz
  obtain ⟨v0, v1, v2, d0, d1, d2, p0, p1, p2, rfl, rfl, rfl, h0, h1, h2⟩ := trodAll_three hA
  obtain ⟨rfl, rfl⟩ := trodVars_none hV
  obtain ⟨φ, b, k, ng, gs, hbn, hwf, hx, hsp, hgv, hrel, hH⟩ := three (hval 0 25 v0 rfl rfl) (hval 1 43 v1 rfl rfl) (hval 2 44 v2 rfl rfl) h0 h1 h2
  have hz : b.n * 48 ≤ 140737488351232 := by
    obtain ⟨cs0, rfl, _⟩ := okWide_struct Try.underlying25 (hval 0 25 v0 rfl rfl)
    rw [hbn cs0 rfl]
    exact blk_size (ts := _) (ds := _) hsz h0
  refine ((con6 b k ng gs hwf hx hsp hgv hz).2 φ W #[v0, v1, v2] hrel hH).mono fun e W' ⟨φ', v, x, H', he, ⟨hv, hH'⟩, hx, _, hfr⟩ => ?_
  subst he; subst hv
  cases hx
  have hb : Below W.heap.size W W' := hfr.below (fun i B hB => by
    match i, hB with
    | 0, hB => cases hB; rfl
    | 1, hB => cases hB; rfl
    | i + 2, hB => cases hB)
  have hlt : ∀ x ∈ (p0 ++ p1 ++ p2), x.block < W.heap.size := fun x hx => hW'.lt x (by simpa using hx)
  refine ⟨_, rfl, post_of_old (pa := p0 ++ (p1 ++ p2)) (pv := []) hW' (fun _ _ _ => trodAll_mk1 (shut_bool Try.underlying4 true)) (fun sp hsp => ?_) (fun _ _ => rfl) (by simp) hb (ok_one (by kernel_rfl) rfl (okWide_bool_mk Try.underlying4 true))⟩
  show DataW.TrodAll enc Try.prog W' 0 sp true Try.f6.params.toList [v0, v1, v2] [d0, d1, d2] (p0 ++ (p1 ++ p2))
  rw [Try.params6]
  exact trodAll_mk3
    (WideElems.Trod_stays laidOut19 (by kernel_rfl) (of_decide_eq_true (by kernel_rfl)) h0 (fun x hx => hb.same (hlt x (by simp [hx]))) (fun x hx => hsp x (by simp [hx])))
    (WideElems.Trod_stays laidOut19 (by kernel_rfl) (of_decide_eq_true (by kernel_rfl)) h1 (fun x hx => hb.same (hlt x (by simp [hx]))) (fun x hx => hsp x (by simp [hx])))
    (WideElems.Trod_stays laidOut19 (by kernel_rfl) (of_decide_eq_true (by kernel_rfl)) h2 (fun x hx => hb.same (hlt x (by simp [hx]))) (fun x hx => hsp x (by simp [hx])))
theorem foldDoes_holds : Rows.FoldDoesSaid :=
  OpenClaim.holds_of_wide 6 Try.f6 rfl rfl rfl rfl rfl rfl rfl ⟨rfl, rfl, rfl, rfl, rfl⟩ rfl rfl rfl rfl rfl (by kernel_rfl) Try.func6 (by kernel_rfl)
    (of_decide_eq_true (by kernel_rfl)) (by unfold Func.isWrapper; first | (rw [if_pos (by decide +kernel)]; kernel_rfl) | (rw [if_neg (by decide +kernel)]; exact ⟨rfl, rfl⟩))
    (fun os started H enc _ => foldDoes_lifted os started H enc)
#print axioms foldDoes_holds
end Go.Proofs.Ytmbnakinhnkabaa

