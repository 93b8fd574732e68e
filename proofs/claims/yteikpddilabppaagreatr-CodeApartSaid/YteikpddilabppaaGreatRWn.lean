/- code: Encode. -/
import Derived.Test.YteikpddilabppaaGreatRWm
namespace Go.Proofs.YteikpddilabppaaGreatR
open Go.AM
set_option maxRecDepth 100000
set_option linter.unusedSimpArgs false
set_option linter.unusedVariables false
def formIs (x : InsnS) (k : Nat) : Bool := (fOp k == x.op) && (decide (fSub k < 0) || (fSub k == x.sub))
def encL (x : InsnS) : Nat → Nat → Int × Int
  | 0, _ => (0, 3)
  | m + 1, k => if formIs x k = true then (putI k (fBase k) x, 0) else encL x m (k + 1)
noncomputable def encodeS (x : InsnS) : Int × Int := if rightI x = true then encL x 40 0 else (0, 3)
def encSt (x : InsnS) (k : Nat) : St := ⟨[⟨11, [], .c (.int .i64 k)⟩, ⟨10, [], .c (.int .i64 40)⟩, ⟨9, [], .c (.slice ⟨63, 0, 0, 0⟩ false 40)⟩, ⟨1, [], .c (.ptr ⟨0, 0, 0, 0⟩)⟩], ⟨64, Y1 (insnB x)⟩⟩
theorem con8 (x : InsnS) (H : Heap) : Con Tryz.prog 8 [.agg (insnL x)] H (fun v H' => v = .tup [.c (.int .u32 (encodeS x).1), .c (.int .i64 (encodeS x).2)] ∧ H' = H) := by
  have h0 : Con Tryz.prog 8 [.agg (insnL x)] ⟨0, []⟩ (fun v H' => v = .tup [.c (.int .u32 (encodeS x).1), .c (.int .i64 (encodeS x).2)] ∧ H' = ⟨0, []⟩) := by
    generalize hT : encodeS x = T
    unfold encodeS at hT
    (refine con_of_run mixed (fn := Tryz.f8) (by kernel_rfl) (by kernel_rfl) C8_ok (rs := [.tmp 2, .tmp 3]) (by kernel_rfl) (Nat.le_of_ble_eq_true (by kernel_rfl)) ?_; unfold C8; simp only [initT])
    repeat' (first
    | refine run_seq ?_
    | refine run_skip ?_
    | (refine run_region fun K hK => ?_; (try (simp (maxSteps := 10000000) only [insnL, C8r0, C8r1, C8r2, rwp_nil, rwp_cons, aop, gpath, St.get, slotAt, sfx, eqP, segsOf, St.put, addBlk, getB, ldn, rowNeed, nsub, shed, Seg.size, sizes, appL, argsOf, ptrsOf, cut, takeS, dropS, Nat.reduceAdd])); (repeat (first | (refine And.intro ?_ ?_; · decide) | ((first | (refine call_t _ (con11 x _) ?_; rintro v H' ⟨rfl, rfl⟩) | refine call_q _ (con11 x _) ?_ | refine call_g _ (imp_of (con11 x _)) ?_); simp (maxSteps := 10000000) only [rwp_nil, rwp_cons, rwpK_app, aop, gpath, St.get, slotAt, sfx, eqP, St.put, addBlk, un, shed]))); with_reducible refine hK _ ?_; clear hK K)
    | (refine run_cond rfl (fun hc => ?_) (fun hc => ?_) <;> try (simp only [*, Bool.true_eq_false, Bool.false_eq_true, Bool.not_true, Bool.not_false, Bool.true_or, Bool.or_true, Bool.false_or, Bool.or_false, Bool.false_and, Bool.and_false, bne_self_eq_false, beq_self_eq_true] at hc; done))
    | refine run_block ?_
    | refine run_ret ?_
    | refine run_nil ?_
    | refine run_exit ?_
    | refine blk_normal ?_
    | refine blk_ret ?_
    | refine blk_here ?_
    | refine blk_there rfl ?_
    | refine loop_exit ?_
    | refine loop_ret ?_
    | refine un_exit ?_
    | refine un_ret ?_
    | refine unE_exit ?_
    | refine unE_ret ?_
    | refine un_normal ?_)
    · have hr : ¬ rightI x = true := by
        intro h
        rw [h] at hc
        cases hc
      rw [if_neg hr] at hT
      subst hT
      exact end_tmp2 rfl rfl rfl ⟨rfl, rfl⟩ ⟨rfl, rfl⟩ rfl rfl ⟨rfl, rfl⟩
    · have hr : rightI x = true := by simpa using hc
      rw [if_pos hr] at hT
      refine run_regionL fun K hK => ?_
      simp (maxSteps := 10000000) only [C8r3, rwp_cons, aop, gpath, St.get, appL, argsOf, ptrsOf]
      refine call_t _ (con12_1 _) ?_
      rintro v H' ⟨rfl, rfl⟩
      simp (maxSteps := 10000000) only [rwp_nil, rwp_cons, rwpK_app, aop, gpath, St.get, slotAt, sfx, eqP, St.put, addBlk, shed]
      refine hK _ (encSt x 0) (LeS.intro ids64 (fun i h => absurd h (Nat.not_lt_zero i)) diff64 rfl (by simp only [encSt, slotsLe, slotAt, leV, leV1, leC, leA, ids64, nthO, and_self, Int.natCast_zero]; decide) (Y1_le (insnB x) (insn_le x))) ?_
      clear hK K
      refine run_block ?_
      refine run_loop (fun q st => ∃ k : Nat, st = encSt x k ∧ q = 40 - k ∧ k ≤ 40 ∧ encL x (40 - k) k = T) 40 ⟨0, rfl, rfl, by decide, hT⟩ ?_
      clear hT
      rintro q st ⟨k, rfl, hq, hk, hT⟩
      simp only [encSt]
      repeat' (first
    | refine run_seq ?_
    | refine run_skip ?_
    | (refine run_region fun K hK => ?_; (try (simp (maxSteps := 10000000) only [C8r4, C8r9, rwp_nil, rwp_cons, aop, gpath, St.get, slotAt, sfx, eqP, St.put, addBlk, bin, isShift, sameK, arith, shed])); (repeat (first | (refine And.intro ?_ ?_; · decide))); with_reducible refine hK _ ?_; clear hK K)
    | (refine run_cond rfl (fun hc => ?_) (fun hc => ?_) <;> try (simp only [*, Bool.true_eq_false, Bool.false_eq_true, Bool.not_true, Bool.not_false, Bool.true_or, Bool.or_true, Bool.false_or, Bool.or_false, Bool.false_and, Bool.and_false, bne_self_eq_false, beq_self_eq_true] at hc; done))
    | refine run_block ?_
    | refine run_ret ?_
    | refine run_nil ?_
    | refine run_exit ?_
    | refine blk_normal ?_
    | refine blk_ret ?_
    | refine blk_here ?_
    | refine blk_there rfl ?_
    | refine loop_exit ?_
    | refine loop_ret ?_
    | refine un_exit ?_
    | refine un_ret ?_
    | refine unE_exit ?_
    | refine unE_ret ?_
    | refine un_normal ?_)
      · have hlt : k < 40 := by have := of_decide_eq_true ‹decide ((k : Int) < 40) = true›; omega
        obtain ⟨m, hm⟩ : ∃ m, 40 - k = m + 1 := ⟨39 - k, by omega⟩
        have hw : IntKind.i64.wrap ((k : Int) + 1) = ((k + 1 : Nat) : Int) := by rw [IntKind.wrap_i64]; omega
        rw [hm] at hT
        unfold encL at hT
        repeat' (first
    | refine run_seq ?_
    | refine run_skip ?_
    | (refine run_region fun K hK => ?_; (try (simp (maxSteps := 10000000) only [insnL, insnB, Y1_forms, Y1_0, formB1, formRow1, C8r5, C8r6, C8r7, C8r8, rwp_nil, rwp_cons, aop, gpath, St.get, slotAt, sfx, eqP, St.put, addBlk, getB, setB, ld1, ldn, stn, setRow, rowNeed, segAt, nsub, bin, isShift, sameK, arith, getsl, selB_or, selB_and, beqb, shed, addN, Nat.beq, Seg.size, sizes, imp, appL, argsOf, ptrsOf, cut, takeS, dropS, putS, strOk, plusA, exOk, Nat.reduceAdd, List.append_nil, List.nil_append, Int.toNat_natCast])); (repeat (first | (refine And.intro ?_ ?_; · (first | decide | omega | (intros; omega))) | ((first | (refine call_t _ (put_con (fBase k) x _ _ (box_more (by decide) (Y1_box _)) (by decide) ⟨by decide, Y1_keysN _ _ (by decide)⟩ k hlt) ?_; rintro v H' ⟨rfl, rfl⟩) | refine call_q _ (put_con (fBase k) x _ _ (box_more (by decide) (Y1_box _)) (by decide) ⟨by decide, Y1_keysN _ _ (by decide)⟩ k hlt) ?_ | refine call_g _ (imp_of (put_con (fBase k) x _ _ (box_more (by decide) (Y1_box _)) (by decide) ⟨by decide, Y1_keysN _ _ (by decide)⟩ k hlt)) ?_); simp (maxSteps := 10000000) only [rwp_nil, rwp_cons, rwpK_app, aop, gpath, St.get, slotAt, sfx, eqP, St.put, addBlk, shed]))); with_reducible refine hK _ ?_; clear hK K)
    | (refine run_cond rfl (fun hc => ?_) (fun hc => ?_) <;> try (simp only [*, Bool.true_eq_false, Bool.false_eq_true, Bool.not_true, Bool.not_false, Bool.true_or, Bool.or_true, Bool.false_or, Bool.or_false, Bool.false_and, Bool.and_false, bne_self_eq_false, beq_self_eq_true] at hc; done))
    | refine run_block ?_
    | refine run_ret ?_
    | refine run_nil ?_
    | refine run_exit ?_
    | refine blk_normal ?_
    | refine blk_ret ?_
    | refine blk_here ?_
    | refine blk_there rfl ?_
    | refine loop_exit ?_
    | refine loop_ret ?_
    | refine un_exit ?_
    | refine un_ret ?_
    | refine unE_exit ?_
    | refine unE_ret ?_
    | refine un_normal ?_)
        · have hc' : formIs x k = true := hc
          rw [if_pos hc'] at hT
          subst hT
          exact end_tmp2 rfl rfl rfl ⟨rfl, rfl⟩ ⟨rfl, rfl⟩ rfl rfl ⟨rfl, rfl⟩
        · have hc' : ¬ formIs x k = true := by
            have e : formIs x k = false := hc
            rw [e]
            exact Bool.false_ne_true
          rw [if_neg hc'] at hT
          rw [hw]
          exact loop_normal m (encSt x (k + 1)) (by omega) (LeS.intro ids64 (fun i h => absurd h (Nat.not_lt_zero i)) diff64 rfl (by simp only [encSt, slotsLe, slotAt, leV, leV1, leC, leA, ids64, nthO, and_self]) (leBlks_more (by decide) (Y1_le (insnB x) (insn_le x)))) ⟨k + 1, rfl, by omega, by omega, by rw [show 40 - (k + 1) = m by omega]; exact hT⟩
      · have hge : ¬ k < 40 := by have := of_decide_eq_false ‹decide ((k : Int) < 40) = false›; omega
        have h0 : 40 - k = 0 := by omega
        rw [h0] at hT
        have e : ((0, 3) : Int × Int) = T := hT
        subst e
        repeat' (first
    | refine run_seq ?_
    | refine run_skip ?_
    | (refine run_region fun K hK => ?_; (try (simp (maxSteps := 10000000) only [C8r0, C8r1, C8r2, C8r3, C8r4, C8r5, C8r6, C8r7, C8r8, C8r9, rwp_nil, rwp_cons, rwpK_app, aop, gpath, St.get, slotAt, sfx, eqP, segsOf, St.put, addBlk, getB, setB, delB, ld1, ldn, st1, stn, setRow, rowNeed, segAt, nsub, bin, un, eqB, isShift, sameK, arith, shiftR, getsl, selB_or, selB_and, beqb, shed, addN, Nat.beq, Seg.size, sizes, imp, needP, andN, appL, argsOf, ptrsOf, aasOf, cut, takeS, dropS, putS, partsOf, fillS, fieldOf, nthA, negIf, nilq, nilB, eqS, eqF, eqS1, andP, kin, slcS, strOk, plusA, bndHi, leN, optG, roH, roL, initT, exOk, exAll, wrAddr, Nat.reduceAdd, Nat.reduceSub, Nat.reduceMul, Int.reduceToNat, List.append_nil, List.nil_append, List.cons_append, eqT, idxT, cat, cpy, ite_int, ite_bool, ite_seg, ite_segs, ite_nil, ite_twice, Int.toNat_natCast, app, addBs, tob])); (repeat (first | (refine And.intro ?_ ?_; · first | trivial | assumption | omega))); with_reducible refine hK _ ?_; clear hK K)
    | (refine run_cond rfl (fun hc => ?_) (fun hc => ?_) <;> try (simp only [*, Bool.true_eq_false, Bool.false_eq_true, Bool.not_true, Bool.not_false, Bool.true_or, Bool.or_true, Bool.false_or, Bool.or_false, Bool.false_and, Bool.and_false, bne_self_eq_false, beq_self_eq_true] at hc; done))
    | refine run_block ?_
    | refine run_ret ?_
    | refine run_nil ?_
    | refine run_exit ?_
    | refine blk_normal ?_
    | refine blk_ret ?_
    | refine blk_here ?_
    | refine blk_there rfl ?_
    | refine loop_exit ?_
    | refine loop_ret ?_
    | refine un_exit ?_
    | refine un_ret ?_
    | refine unE_exit ?_
    | refine unE_ret ?_
    | refine un_normal ?_)
        exact end_tmp2 rfl rfl rfl ⟨rfl, rfl⟩ ⟨rfl, rfl⟩ rfl rfl ⟨rfl, rfl⟩
  refine Con.pure (Con.forget h0 ?_) (by simp only [leArgs, leV, leV1, insnL, leSegs, leSeg, leC, and_self]) rfl H
  rintro v H' ⟨rfl, rfl⟩
  exact ⟨_, ⟨0, []⟩, [], fun i h => absurd h (Nat.not_lt_zero i), trivial, rfl, trivial, by simp only [leV, leV1, leC, leVL, and_self], rfl, rfl⟩
end Go.Proofs.YteikpddilabppaaGreatR
