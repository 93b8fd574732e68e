/- code: Decode. -/
import Derived.Test.YteikpddilabppaaGreatRWl
namespace Go.Proofs.YteikpddilabppaaGreatR
open Go.AM
set_option maxRecDepth 100000
set_option linter.unusedSimpArgs false
set_option linter.unusedVariables false
theorem Y1_keysN (B0 : Blk) (n : Nat) (h : 64 ≤ n) : keysLt (Y1 B0) n := by
  simp only [Y1, keysLt, and_true]
  repeat' (first | omega | refine And.intro ?_ ?_)
theorem box_more {X : List (Nat × Blk)} {i : Nat} {C : Blk} (hi : 63 ≤ i) (h : ∀ k, k < 62 → getB X (k + 1) = some (boxW (boxV k))) : ∀ k, k < 62 → getB ((i, C) :: X) (k + 1) = some (boxW (boxV k)) := fun k hk => by
  have hb : Nat.beq i (k + 1) = false := by
    cases hb : Nat.beq i (k + 1) with
    | false => rfl
    | true => exact absurd (Nat.eq_of_beq_eq_true hb) (by omega)
  simp only [getB, hb]
  exact h k hk
def andU (w m : Int) : Int := IntKind.u32.wrap (BitVec.ofInt IntKind.u32.bits w &&& BitVec.ofInt IntKind.u32.bits m).toNat
noncomputable def decL (w : Int) : Nat → Nat → InsnS
  | 0, _ => nilI
  | m + 1, k => if (!(andU w (fMask k) == fBase k)) = true then decL w m (k + 1) else if rightI (takeI k w) = true then takeI k w else decL w m (k + 1)
noncomputable def decodeS (w : Int) : InsnS := decL w 40 0
def decSt (w : Int) (k : Nat) : St := ⟨[⟨8, [], .c (.int .i64 k)⟩, ⟨7, [], .c (.int .i64 40)⟩, ⟨6, [], .c (.slice ⟨63, 0, 0, 0⟩ false 40)⟩, ⟨0, [], .c (.int .u32 w)⟩, ⟨2, [], .c (.ptr ⟨0, 0, 0, 0⟩)⟩], ⟨64, Y1 (insnB nilI)⟩⟩
theorem con10 (w : Int) (H : Heap) : Con Tryz.prog 10 [.c (.int .u32 w)] H (fun v H' => v = .agg (insnL (decodeS w)) ∧ H' = H) := by
  refine Con.insn0 ?_ (by simp only [leArgs, leV, leV1, leC, and_self]) H
  generalize hT : decodeS w = T
  unfold decodeS at hT
  (refine con_of_run mixed (fn := Tryz.f10) (by kernel_rfl) (by kernel_rfl) C10_ok (rs := [.cn 16 2]) (by kernel_rfl) (Nat.le_of_ble_eq_true (by kernel_rfl)) ?_; unfold C10; simp only [initT])
  repeat' (first
    | refine run_seq ?_
    | refine run_skip ?_
    | (refine run_region fun K hK => ?_; (try (simp (maxSteps := 10000000) only [C10r0, rwp_nil, rwp_cons, aop, gpath, St.put, addBlk, shed, Seg.size, sizes, Nat.reduceAdd])); (repeat (first | (refine And.intro ?_ ?_; · decide))); with_reducible refine hK _ ?_; clear hK K)
    | (refine run_cond rfl (fun hc => ?_) (fun hc => ?_) <;> try (simp only [*, Bool.true_eq_false, Bool.false_eq_true, Bool.not_true, Bool.not_false, Bool.true_or, Bool.or_true, Bool.false_or, Bool.or_false, Bool.false_and, Bool.and_false, bne_self_eq_false, beq_self_eq_true] at hc; done))
    | refine run_block ?_
    | refine run_ret ?_
    | refine run_nil ?_
    | refine run_exit ?_
    | refine blk_normal ?_
    | refine blk_ret ?_
    | refine blk_here ?_
    | refine blk_there rfl ?_
    | refine loop_exit ?_
    | refine loop_ret ?_
    | refine un_exit ?_
    | refine un_ret ?_
    | refine unE_exit ?_
    | refine unE_ret ?_
    | refine un_normal ?_)
  refine run_regionL fun K hK => ?_
  simp (maxSteps := 10000000) only [C10r1, rwp_cons, aop, gpath, St.get, appL, argsOf, ptrsOf]
  refine call_t _ (con12_1 _) ?_
  rintro v H' ⟨rfl, rfl⟩
  simp (maxSteps := 10000000) only [rwp_nil, rwp_cons, rwpK_app, aop, gpath, St.get, slotAt, sfx, eqP, St.put, addBlk, shed]
  refine hK _ (decSt w 0) (LeS.intro ids64 (fun i h => absurd h (Nat.not_lt_zero i)) diff64 rfl (by simp only [decSt, slotsLe, slotAt, leV, leV1, leC, leA, ids64, nthO, and_self, Int.natCast_zero]; decide) (Y1_le (insnB nilI) (insn_le nilI))) ?_
  clear hK K
  refine run_block ?_
  refine run_loop (fun q st => ∃ k : Nat, st = decSt w k ∧ q = 40 - k ∧ k ≤ 40 ∧ decL w (40 - k) k = T) 40 ⟨0, rfl, rfl, by decide, hT⟩ ?_
  clear hT
  rintro q st ⟨k, rfl, hq, hk, hT⟩
  simp only [decSt]
  repeat' (first
    | refine run_seq ?_
    | refine run_skip ?_
    | (refine run_region fun K hK => ?_; (try (simp (maxSteps := 10000000) only [C10r2, C10r9, rwp_nil, rwp_cons, aop, gpath, St.get, slotAt, sfx, eqP, St.put, addBlk, stn, setRow, rowNeed, bin, isShift, sameK, arith, shed, Nat.beq, Seg.size, sizes, imp, takeS, putS, partsOf, fillS, exOk, Nat.reduceAdd, List.nil_append, List.cons_append])); (repeat (first | (refine And.intro ?_ ?_; · decide))); with_reducible refine hK _ ?_; clear hK K)
    | (refine run_cond rfl (fun hc => ?_) (fun hc => ?_) <;> try (simp only [*, Bool.true_eq_false, Bool.false_eq_true, Bool.not_true, Bool.not_false, Bool.true_or, Bool.or_true, Bool.false_or, Bool.or_false, Bool.false_and, Bool.and_false, bne_self_eq_false, beq_self_eq_true] at hc; done))
    | refine run_block ?_
    | refine run_ret ?_
    | refine run_nil ?_
    | refine run_exit ?_
    | refine blk_normal ?_
    | refine blk_ret ?_
    | refine blk_here ?_
    | refine blk_there rfl ?_
    | refine loop_exit ?_
    | refine loop_ret ?_
    | refine un_exit ?_
    | refine un_ret ?_
    | refine unE_exit ?_
    | refine unE_ret ?_
    | refine un_normal ?_)
  · have hlt : k < 40 := by have := of_decide_eq_true ‹decide ((k : Int) < 40) = true›; omega
    obtain ⟨m, hm⟩ : ∃ m, 40 - k = m + 1 := ⟨39 - k, by omega⟩
    have hw : IntKind.i64.wrap ((k : Int) + 1) = ((k + 1 : Nat) : Int) := by rw [IntKind.wrap_i64]; omega
    rw [hm] at hT
    unfold decL at hT
    repeat' (first
    | refine run_seq ?_
    | refine run_skip ?_
    | (refine run_region fun K hK => ?_; (try (simp (maxSteps := 10000000) only [insnL, insnB, Y1_forms, Y1_0, formB1, formRow1, C10r3, C10r4, C10r5, C10r6, C10r7, C10r8, rwp_nil, rwp_cons, aop, gpath, St.get, slotAt, sfx, eqP, St.put, addBlk, getB, setB, ld1, ldn, stn, setRow, rowNeed, segAt, nsub, bin, isShift, sameK, arith, shed, addN, Nat.beq, Seg.size, sizes, imp, appL, argsOf, ptrsOf, cut, takeS, dropS, putS, strOk, plusA, exOk, Nat.reduceAdd, List.append_nil, List.nil_append, Int.toNat_natCast])); (repeat (first | (refine And.intro ?_ ?_; · (first | decide | omega | (intros; omega))) | ((first | (refine call_t _ (take_con w _ _ (box_more (by decide) (Y1_box _)) (by decide) ⟨by decide, Y1_keysN _ _ (by decide)⟩ k hlt) ?_; rintro v H' ⟨rfl, rfl⟩) | refine call_q _ (take_con w _ _ (box_more (by decide) (Y1_box _)) (by decide) ⟨by decide, Y1_keysN _ _ (by decide)⟩ k hlt) ?_ | refine call_g _ (imp_of (take_con w _ _ (box_more (by decide) (Y1_box _)) (by decide) ⟨by decide, Y1_keysN _ _ (by decide)⟩ k hlt)) ?_ | (refine call_t _ (con11 (takeI k w) _) ?_; rintro v H' ⟨rfl, rfl⟩) | refine call_q _ (con11 (takeI k w) _) ?_ | refine call_g _ (imp_of (con11 (takeI k w) _)) ?_); simp (maxSteps := 10000000) only [insnL, rwp_nil, rwp_cons, rwpK_app, aop, gpath, St.get, slotAt, sfx, eqP, St.put, addBlk, getB, setB, stn, setRow, rowNeed, nsub, shed, Nat.beq, Seg.size, sizes, takeS, dropS, putS, exOk, Nat.reduceAdd, List.append_nil, List.nil_append]))); with_reducible refine hK _ ?_; clear hK K)
    | (refine run_cond rfl (fun hc => ?_) (fun hc => ?_) <;> try (simp only [*, Bool.true_eq_false, Bool.false_eq_true, Bool.not_true, Bool.not_false, Bool.true_or, Bool.or_true, Bool.false_or, Bool.or_false, Bool.false_and, Bool.and_false, bne_self_eq_false, beq_self_eq_true] at hc; done))
    | refine run_block ?_
    | refine run_ret ?_
    | refine run_nil ?_
    | refine run_exit ?_
    | refine blk_normal ?_
    | refine blk_ret ?_
    | refine blk_here ?_
    | refine blk_there rfl ?_
    | refine loop_exit ?_
    | refine loop_ret ?_
    | refine un_exit ?_
    | refine un_ret ?_
    | refine unE_exit ?_
    | refine unE_ret ?_
    | refine un_normal ?_)
    · have hc' : (!(andU w (fMask k) == fBase k)) = true := hc
      rw [if_pos hc'] at hT
      rw [hw]
      exact loop_normal m (decSt w (k + 1)) (by omega) (LeS.intro ids64 (fun i h => absurd h (Nat.not_lt_zero i)) diff64 rfl (by simp only [decSt, slotsLe, slotAt, leV, leV1, leC, leA, ids64, nthO, and_self]) (leBlks_more (by decide) (Y1_le (insnB nilI) (insn_le nilI)))) ⟨k + 1, rfl, by omega, by omega, by rw [show 40 - (k + 1) = m by omega]; exact hT⟩
    · have hc' : ¬ (!(andU w (fMask k) == fBase k)) = true := by
        intro h
        have e : (!(andU w (fMask k) == fBase k)) = false := ‹(IntKind.u32.wrap (BitVec.ofInt IntKind.u32.bits w &&& BitVec.ofInt IntKind.u32.bits (fMask k)).toNat != fBase k) = false›
        rw [e] at h
        cases h
      rw [if_neg hc', if_pos hc] at hT
      subst hT
      exact end_insn0 (takeI k w) rfl (getB_setB_self (Y1_0 _)) ⟨rfl, rfl⟩
    · have hc' : ¬ (!(andU w (fMask k) == fBase k)) = true := by
        intro h
        have e : (!(andU w (fMask k) == fBase k)) = false := ‹(IntKind.u32.wrap (BitVec.ofInt IntKind.u32.bits w &&& BitVec.ofInt IntKind.u32.bits (fMask k)).toNat != fBase k) = false›
        rw [e] at h
        cases h
      have hr : ¬ rightI (takeI k w) = true := by rw [hc]; exact Bool.false_ne_true
      rw [if_neg hc', if_neg hr] at hT
      rw [hw]
      exact loop_normal m (decSt w (k + 1)) (by omega) (LeS.intro ids64 (fun i h => absurd h (Nat.not_lt_zero i)) diff64 rfl (by simp only [decSt, slotsLe, slotAt, leV, leV1, leC, leA, ids64, nthO, and_self]) (leBlks_more (by decide) (leBlks_more (by decide) (Y1_le (insnB nilI) (insn_le nilI))))) ⟨k + 1, rfl, by omega, by omega, by rw [show 40 - (k + 1) = m by omega]; exact hT⟩
  · have hge : ¬ k < 40 := by have := of_decide_eq_false ‹decide ((k : Int) < 40) = false›; omega
    have h0 : 40 - k = 0 := by omega
    rw [h0] at hT
    have e : nilI = T := hT
    subst e
    repeat' (first
    | refine run_seq ?_
    | refine run_skip ?_
    | (refine run_region fun K hK => ?_; (try (simp (maxSteps := 10000000) only [insnL, insnB, Y1_0, C10r9, rwp_nil, rwp_cons, aop, gpath, St.get, slotAt, sfx, eqP, St.put, addBlk, stn, setRow, rowNeed, nsub, shed, Nat.beq, Seg.size, sizes, takeS, dropS, putS, partsOf, fillS, exOk, Nat.reduceAdd, List.append_nil, List.nil_append])); (repeat (first | (refine And.intro ?_ ?_; · first | trivial | assumption | omega))); with_reducible refine hK _ ?_; clear hK K)
    | (refine run_cond rfl (fun hc => ?_) (fun hc => ?_) <;> try (simp only [*, Bool.true_eq_false, Bool.false_eq_true, Bool.not_true, Bool.not_false, Bool.true_or, Bool.or_true, Bool.false_or, Bool.or_false, Bool.false_and, Bool.and_false, bne_self_eq_false, beq_self_eq_true] at hc; done))
    | refine run_block ?_
    | refine run_ret ?_
    | refine run_nil ?_
    | refine run_exit ?_
    | refine blk_normal ?_
    | refine blk_ret ?_
    | refine blk_here ?_
    | refine blk_there rfl ?_
    | refine loop_exit ?_
    | refine loop_ret ?_
    | refine un_exit ?_
    | refine un_ret ?_
    | refine unE_exit ?_
    | refine unE_ret ?_
    | refine un_normal ?_)
    exact end_insn0 nilI rfl (getB_setB_self (Y1_0 _)) ⟨rfl, rfl⟩
end Go.Proofs.YteikpddilabppaaGreatR
