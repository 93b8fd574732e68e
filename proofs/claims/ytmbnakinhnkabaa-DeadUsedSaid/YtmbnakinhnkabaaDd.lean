/- ir: Defines, Leaves. -/
import Derived.Test.YtmbnakinhnkabaaDc
namespace Go.Proofs.Ytmbnakinhnkabaa
open Go.AM
set_option maxRecDepth 100000
set_option linter.unusedSimpArgs false
set_option linter.unusedVariables false
theorem kind_1 (H : Heap) : Con Try.prog 46 [.c (.int .i64 1)] H (fun v H' => v = kindV (kindL ⟨#[99, 111, 110, 115, 116]⟩ false true false 0 true false false (.fn 66 [] [])) true ∧ H' = H) := kind_P _ _ _ _ _ _ _ _ _ _ (by simp) H
theorem kind_2 (n : Nat) (X : List (Nat × Blk)) (hkl : keysLt X n) : Con Try.prog 46 [.c (.int .i64 2)] ⟨n, X⟩ (fun v H' => v = kindV (kindL ⟨#[103, 101, 116, 120]⟩ true false false 0 true false false (.fn 98 [] [⟨n, 0, 0, 0⟩])) true ∧ H' = addBs ⟨n, X⟩ [boxW 30]) := kind_Q _ _ _ _ _ _ _ _ _ _ (by simp) n X hkl
theorem kind_3 (n : Nat) (X : List (Nat × Blk)) (hkl : keysLt X n) : Con Try.prog 46 [.c (.int .i64 3)] ⟨n, X⟩ (fun v H' => v = kindV (kindL ⟨#[115, 101, 116, 120]⟩ true false false 1 false false false (.fn 98 [] [⟨n, 0, 0, 0⟩])) true ∧ H' = addBs ⟨n, X⟩ [boxW 30]) := kind_Q _ _ _ _ _ _ _ _ _ _ (by simp) n X hkl
theorem kind_4 (H : Heap) : Con Try.prog 46 [.c (.int .i64 4)] H (fun v H' => v = kindV (kindL ⟨#[103, 101, 116, 115, 112]⟩ false false false 0 true false false (.fn 66 [] [])) true ∧ H' = H) := kind_P _ _ _ _ _ _ _ _ _ _ (by simp) H
theorem kind_5 (H : Heap) : Con Try.prog 46 [.c (.int .i64 5)] H (fun v H' => v = kindV (kindL ⟨#[115, 101, 116, 115, 112]⟩ false false false 1 false false false (.fn 66 [] [])) true ∧ H' = H) := kind_P _ _ _ _ _ _ _ _ _ _ (by simp) H
theorem kind_6 (n : Nat) (X : List (Nat × Blk)) (hkl : keysLt X n) : Con Try.prog 46 [.c (.int .i64 6)] ⟨n, X⟩ (fun v H' => v = kindV (kindL ⟨#[103, 101, 116, 102]⟩ true false false 0 true false false (.fn 98 [] [⟨n, 0, 0, 0⟩])) true ∧ H' = addBs ⟨n, X⟩ [boxW 3]) := kind_Q _ _ _ _ _ _ _ _ _ _ (by simp) n X hkl
theorem kind_7 (n : Nat) (X : List (Nat × Blk)) (hkl : keysLt X n) : Con Try.prog 46 [.c (.int .i64 7)] ⟨n, X⟩ (fun v H' => v = kindV (kindL ⟨#[115, 101, 116, 102]⟩ true false false 1 false false false (.fn 98 [] [⟨n, 0, 0, 0⟩])) true ∧ H' = addBs ⟨n, X⟩ [boxW 3]) := kind_Q _ _ _ _ _ _ _ _ _ _ (by simp) n X hkl
theorem kind_8 (H : Heap) : Con Try.prog 46 [.c (.int .i64 8)] H (fun v H' => v = kindV (kindL ⟨#[97, 108, 117]⟩ true false false 2 true false false (.fn 68 [] [])) true ∧ H' = H) := kind_P _ _ _ _ _ _ _ _ _ _ (by simp) H
theorem kind_9 (n : Nat) (X : List (Nat × Blk)) (hkl : keysLt X n) : Con Try.prog 46 [.c (.int .i64 9)] ⟨n, X⟩ (fun v H' => v = kindV (kindL ⟨#[108, 111, 97, 100]⟩ false false true 1 true false true (.fn 99 [] [⟨n + 1, 0, 0, 0⟩])) true ∧ H' = addBs ⟨n, X⟩ [intsW 3 (ordF 1 2), slB n 3 true]) := kind_S _ _ _ _ _ _ _ _ _ _ _ _ (by simp) n X hkl
theorem kind_10 (n : Nat) (X : List (Nat × Blk)) (hkl : keysLt X n) : Con Try.prog 46 [.c (.int .i64 10)] ⟨n, X⟩ (fun v H' => v = kindV (kindL ⟨#[115, 116, 111, 114, 101]⟩ false false true 2 false false true (.fn 99 [] [⟨n + 1, 0, 0, 0⟩])) true ∧ H' = addBs ⟨n, X⟩ [intsW 2 (ordF 4 0), slB n 2 true]) := kind_S _ _ _ _ _ _ _ _ _ _ _ _ (by simp) n X hkl
theorem kind_11 (n : Nat) (X : List (Nat × Blk)) (hkl : keysLt X n) : Con Try.prog 46 [.c (.int .i64 11)] ⟨n, X⟩ (fun v H' => v = kindV (kindL ⟨#[108, 111, 97, 100, 101, 120]⟩ false false true 1 true false true (.fn 99 [] [⟨n + 1, 0, 0, 0⟩])) true ∧ H' = addBs ⟨n, X⟩ [intsW 2 (ordF 2 0), slB n 2 true]) := kind_S _ _ _ _ _ _ _ _ _ _ _ _ (by simp) n X hkl
theorem kind_12 (n : Nat) (X : List (Nat × Blk)) (hkl : keysLt X n) : Con Try.prog 46 [.c (.int .i64 12)] ⟨n, X⟩ (fun v H' => v = kindV (kindL ⟨#[115, 116, 111, 114, 101, 101, 120]⟩ false false true 2 true false true (.fn 99 [] [⟨n + 1, 0, 0, 0⟩])) true ∧ H' = addBs ⟨n, X⟩ [intsW 2 (ordF 4 0), slB n 2 true]) := kind_S _ _ _ _ _ _ _ _ _ _ _ _ (by simp) n X hkl
theorem kind_13 (H : Heap) : Con Try.prog 46 [.c (.int .i64 13)] H (fun v H' => v = kindV (kindL ⟨#[102, 101, 110, 99, 101]⟩ true false false 0 false false false (.fn 70 [] [])) true ∧ H' = H) := kind_P _ _ _ _ _ _ _ _ _ _ (by simp) H
theorem kind_14 (H : Heap) : Con Try.prog 46 [.c (.int .i64 14)] H (fun v H' => v = kindV (kindL ⟨#[97, 116]⟩ false true false 0 false false false (.fn 71 [] [])) true ∧ H' = H) := kind_P _ _ _ _ _ _ _ _ _ _ (by simp) H
theorem kind_15 (H : Heap) : Con Try.prog 46 [.c (.int .i64 15)] H (fun v H' => v = kindV (kindL ⟨#[101, 120, 105, 116, 105, 102]⟩ false true false 1 false false false (.fn 66 [] [])) true ∧ H' = H) := kind_P _ _ _ _ _ _ _ _ _ _ (by simp) H
theorem kind_16 (H : Heap) : Con Try.prog 46 [.c (.int .i64 16)] H (fun v H' => v = kindV (kindL ⟨#[101, 120, 105, 116]⟩ false true false 0 false true false (.fn 66 [] [])) true ∧ H' = H) := kind_P _ _ _ _ _ _ _ _ _ _ (by simp) H
theorem kind_17 (H : Heap) : Con Try.prog 46 [.c (.int .i64 17)] H (fun v H' => v = kindV (kindL ⟨#[101, 120, 105, 116, 116, 111]⟩ false false false 1 false true false (.fn 66 [] [])) true ∧ H' = H) := kind_P _ _ _ _ _ _ _ _ _ _ (by simp) H
theorem kind_18 (H : Heap) : Con Try.prog 46 [.c (.int .i64 18)] H (fun v H' => v = kindV (kindL ⟨#[103, 117, 101, 115, 116]⟩ false true false 0 false true false (.fn 72 [] [])) true ∧ H' = H) := kind_P _ _ _ _ _ _ _ _ _ _ (by simp) H
def defS (k : Int) : Bool := (k == 1) || (k == 2) || (k == 4) || (k == 6) || (k == 8) || (k == 9) || (k == 11) || (k == 12)
def accS (k : Int) : Bool := (k == 9) || (k == 10) || (k == 11) || (k == 12)
def endS (k : Int) : Bool := (k == 16) || (k == 17) || (k == 18)
def leaveS (k : Int) : Bool := (accS k || endS k) || (k == 15)
def usesS (k : Int) : Nat := if k = 8 ∨ k = 10 ∨ k = 12 then 2 else if k = 3 ∨ k = 5 ∨ k = 7 ∨ k = 9 ∨ k = 11 ∨ k = 15 ∨ k = 17 then 1 else 0
set_option maxHeartbeats 8000000 in
theorem con57_k (o : OpS) (k : Int) (V : Bool) (ho : o.kind = k) (hk : (k = 1 ∧ V = true) ∨ (k = 2 ∧ V = true) ∨ (k = 3 ∧ V = false) ∨ (k = 4 ∧ V = true) ∨ (k = 5 ∧ V = false) ∨ (k = 6 ∧ V = true) ∨ (k = 7 ∧ V = false) ∨ (k = 8 ∧ V = true) ∨ (k = 9 ∧ V = true) ∨ (k = 10 ∧ V = false) ∨ (k = 11 ∧ V = true) ∨ (k = 12 ∧ V = true) ∨ (k = 13 ∧ V = false) ∨ (k = 14 ∧ V = false) ∨ (k = 15 ∧ V = false) ∨ (k = 16 ∧ V = false) ∨ (k = 17 ∧ V = false) ∨ (k = 18 ∧ V = false)) (H : Heap) : Con Try.prog 57 [.agg (opL o)] H (fun v H' => v = .c (.bool V) ∧ H' = H) := by
  refine Con.pure ?_ (by simp only [leArgs, leV, leV1, opL, leSegs, leSeg, leC, and_self]) rfl H
  rcases hk with ⟨rfl, rfl⟩ | ⟨rfl, rfl⟩ | ⟨rfl, rfl⟩ | ⟨rfl, rfl⟩ | ⟨rfl, rfl⟩ | ⟨rfl, rfl⟩ | ⟨rfl, rfl⟩ | ⟨rfl, rfl⟩ | ⟨rfl, rfl⟩ | ⟨rfl, rfl⟩ | ⟨rfl, rfl⟩ | ⟨rfl, rfl⟩ | ⟨rfl, rfl⟩ | ⟨rfl, rfl⟩ | ⟨rfl, rfl⟩ | ⟨rfl, rfl⟩ | ⟨rfl, rfl⟩ | ⟨rfl, rfl⟩
  all_goals
    (refine con_of_run mixed (fn := Try.f57) (by kernel_rfl) (by kernel_rfl) C57_ok (rs := [.tmp 2]) (by kernel_rfl) (Nat.le_of_ble_eq_true (by kernel_rfl)) ?_; unfold C57; simp only [initT, Nat.reduceAdd])
    repeat' (first
    | refine run_seq ?_
    | (refine run_region fun K hK => ?_; (try (simp (maxSteps := 10000000) only [opL, ho, kindV, kindL, boxW, intsW, slB, C57r0, C57r1, C57r2, rwp_nil, rwp_cons, rwpK_app, aop, gpath, St.get, slotAt, sfx, eqP, segsOf, St.put, addBlk, getB, setB, delB, ld1, ldn, st1, stn, setRow, rowNeed, segAt, nsub, bin, un, eqB, isShift, sameK, arith, shiftR, getsl, selB_or, selB_and, beqb, shed, addN, Nat.beq, Seg.size, sizes, imp, needP, andN, appL, argsOf, ptrsOf, aasOf, cut, takeS, dropS, putS, partsOf, fillS, fieldOf, nthA, negIf, nilq, nilB, eqS, eqF, eqS1, andP, kin, slcS, strOk, plusA, bndHi, leN, optG, roH, roL, initT, exOk, exAll, wrAddr, Nat.reduceAdd, Nat.reduceSub, Nat.reduceMul, Int.reduceToNat, List.append_nil, List.nil_append, List.cons_append, eqT, idxT, cat, cpy, ite_int, ite_bool, ite_seg, ite_segs, ite_nil, ite_twice, Int.toNat_natCast, app, addBs, tob])); (repeat (first | (refine And.intro ?_ ?_; · (first | decide | trivial | assumption | (intros; first | decide | trivial))) | ((first | (refine call_t _ (kind_1 _) ?_; rintro v H' ⟨rfl, rfl⟩) | refine call_q _ (kind_1 _) ?_ | refine call_g _ (imp_of (kind_1 _)) ?_ | (refine call_t _ (kind_2 _ _ (by simp [roL, keysLt, boxW])) ?_; rintro v H' ⟨rfl, rfl⟩) | refine call_q _ (kind_2 _ _ (by simp [roL, keysLt, boxW])) ?_ | refine call_g _ (imp_of (kind_2 _ _ (by simp [roL, keysLt, boxW]))) ?_ | (refine call_t _ (kind_3 _ _ (by simp [roL, keysLt, boxW])) ?_; rintro v H' ⟨rfl, rfl⟩) | refine call_q _ (kind_3 _ _ (by simp [roL, keysLt, boxW])) ?_ | refine call_g _ (imp_of (kind_3 _ _ (by simp [roL, keysLt, boxW]))) ?_ | (refine call_t _ (kind_4 _) ?_; rintro v H' ⟨rfl, rfl⟩) | refine call_q _ (kind_4 _) ?_ | refine call_g _ (imp_of (kind_4 _)) ?_ | (refine call_t _ (kind_5 _) ?_; rintro v H' ⟨rfl, rfl⟩) | refine call_q _ (kind_5 _) ?_ | refine call_g _ (imp_of (kind_5 _)) ?_ | (refine call_t _ (kind_6 _ _ (by simp [roL, keysLt, boxW])) ?_; rintro v H' ⟨rfl, rfl⟩) | refine call_q _ (kind_6 _ _ (by simp [roL, keysLt, boxW])) ?_ | refine call_g _ (imp_of (kind_6 _ _ (by simp [roL, keysLt, boxW]))) ?_ | (refine call_t _ (kind_7 _ _ (by simp [roL, keysLt, boxW])) ?_; rintro v H' ⟨rfl, rfl⟩) | refine call_q _ (kind_7 _ _ (by simp [roL, keysLt, boxW])) ?_ | refine call_g _ (imp_of (kind_7 _ _ (by simp [roL, keysLt, boxW]))) ?_ | (refine call_t _ (kind_8 _) ?_; rintro v H' ⟨rfl, rfl⟩) | refine call_q _ (kind_8 _) ?_ | refine call_g _ (imp_of (kind_8 _)) ?_ | (refine call_t _ (kind_9 _ _ (by simp [roL, keysLt, boxW])) ?_; rintro v H' ⟨rfl, rfl⟩) | refine call_q _ (kind_9 _ _ (by simp [roL, keysLt, boxW])) ?_ | refine call_g _ (imp_of (kind_9 _ _ (by simp [roL, keysLt, boxW]))) ?_ | (refine call_t _ (kind_10 _ _ (by simp [roL, keysLt, boxW])) ?_; rintro v H' ⟨rfl, rfl⟩) | refine call_q _ (kind_10 _ _ (by simp [roL, keysLt, boxW])) ?_ | refine call_g _ (imp_of (kind_10 _ _ (by simp [roL, keysLt, boxW]))) ?_ | (refine call_t _ (kind_11 _ _ (by simp [roL, keysLt, boxW])) ?_; rintro v H' ⟨rfl, rfl⟩) | refine call_q _ (kind_11 _ _ (by simp [roL, keysLt, boxW])) ?_ | refine call_g _ (imp_of (kind_11 _ _ (by simp [roL, keysLt, boxW]))) ?_ | (refine call_t _ (kind_12 _ _ (by simp [roL, keysLt, boxW])) ?_; rintro v H' ⟨rfl, rfl⟩) | refine call_q _ (kind_12 _ _ (by simp [roL, keysLt, boxW])) ?_ | refine call_g _ (imp_of (kind_12 _ _ (by simp [roL, keysLt, boxW]))) ?_ | (refine call_t _ (kind_13 _) ?_; rintro v H' ⟨rfl, rfl⟩) | refine call_q _ (kind_13 _) ?_ | refine call_g _ (imp_of (kind_13 _)) ?_ | (refine call_t _ (kind_14 _) ?_; rintro v H' ⟨rfl, rfl⟩) | refine call_q _ (kind_14 _) ?_ | refine call_g _ (imp_of (kind_14 _)) ?_ | (refine call_t _ (kind_15 _) ?_; rintro v H' ⟨rfl, rfl⟩) | refine call_q _ (kind_15 _) ?_ | refine call_g _ (imp_of (kind_15 _)) ?_ | (refine call_t _ (kind_16 _) ?_; rintro v H' ⟨rfl, rfl⟩) | refine call_q _ (kind_16 _) ?_ | refine call_g _ (imp_of (kind_16 _)) ?_ | (refine call_t _ (kind_17 _) ?_; rintro v H' ⟨rfl, rfl⟩) | refine call_q _ (kind_17 _) ?_ | refine call_g _ (imp_of (kind_17 _)) ?_ | (refine call_t _ (kind_18 _) ?_; rintro v H' ⟨rfl, rfl⟩) | refine call_q _ (kind_18 _) ?_ | refine call_g _ (imp_of (kind_18 _)) ?_); simp (maxSteps := 10000000) only [opL, ho, kindV, kindL, boxW, intsW, slB, C57r0, C57r1, C57r2, rwp_nil, rwp_cons, rwpK_app, aop, gpath, St.get, slotAt, sfx, eqP, segsOf, St.put, addBlk, getB, setB, delB, ld1, ldn, st1, stn, setRow, rowNeed, segAt, nsub, bin, un, eqB, isShift, sameK, arith, shiftR, getsl, selB_or, selB_and, beqb, shed, addN, Nat.beq, Seg.size, sizes, imp, needP, andN, appL, argsOf, ptrsOf, aasOf, cut, takeS, dropS, putS, partsOf, fillS, fieldOf, nthA, negIf, nilq, nilB, eqS, eqF, eqS1, andP, kin, slcS, strOk, plusA, bndHi, leN, optG, roH, roL, initT, exOk, exAll, wrAddr, Nat.reduceAdd, Nat.reduceSub, Nat.reduceMul, Int.reduceToNat, List.append_nil, List.nil_append, List.cons_append, eqT, idxT, cat, cpy, ite_int, ite_bool, ite_seg, ite_segs, ite_nil, ite_twice, Int.toNat_natCast, app, addBs, tob]))); with_reducible refine hK _ ?_; clear hK K)
    | refine run_ret ?_
    | refine run_nil ?_)
    exact end_tmp1 rfl rfl rfl ⟨rfl, rfl⟩
theorem con57_no (o : OpS) (h : noKind o.kind) (H : Heap) : Con Try.prog 57 [.agg (opL o)] H (fun v H' => v = .c (.bool false) ∧ H' = H) := by
  refine Con.pure ?_ (by simp only [leArgs, leV, leV1, opL, leSegs, leSeg, leC, and_self]) rfl H
  have h' := h
  unfold noKind at h'
  (refine con_of_run mixed (fn := Try.f57) (by kernel_rfl) (by kernel_rfl) C57_ok (rs := [.tmp 2]) (by kernel_rfl) (Nat.le_of_ble_eq_true (by kernel_rfl)) ?_; unfold C57; simp only [initT, Nat.reduceAdd])
  repeat' (first
    | refine run_seq ?_
    | (refine run_region fun K hK => ?_; (try (simp (maxSteps := 10000000) only [opL, h', kindV, kindL, C57r0, C57r1, C57r2, rwp_nil, rwp_cons, rwpK_app, aop, gpath, St.get, slotAt, sfx, eqP, segsOf, St.put, addBlk, getB, setB, delB, ld1, ldn, st1, stn, setRow, rowNeed, segAt, nsub, bin, un, eqB, isShift, sameK, arith, shiftR, getsl, selB_or, selB_and, beqb, shed, addN, Nat.beq, Seg.size, sizes, imp, needP, andN, appL, argsOf, ptrsOf, aasOf, cut, takeS, dropS, putS, partsOf, fillS, fieldOf, nthA, negIf, nilq, nilB, eqS, eqF, eqS1, andP, kin, slcS, strOk, plusA, bndHi, leN, optG, roH, roL, initT, exOk, exAll, wrAddr, Nat.reduceAdd, Nat.reduceSub, Nat.reduceMul, Int.reduceToNat, List.append_nil, List.nil_append, List.cons_append, eqT, idxT, cat, cpy, ite_int, ite_bool, ite_seg, ite_segs, ite_nil, ite_twice, Int.toNat_natCast, app, addBs, tob])); (repeat (first | (refine And.intro ?_ ?_; · (first | decide | trivial | assumption | (intros; first | decide | trivial))) | ((first | (refine call_t _ (kind_no _ h _) ?_; rintro v H' ⟨rfl, rfl⟩) | refine call_q _ (kind_no _ h _) ?_ | refine call_g _ (imp_of (kind_no _ h _)) ?_); simp (maxSteps := 10000000) only [opL, h', kindV, kindL, C57r0, C57r1, C57r2, rwp_nil, rwp_cons, rwpK_app, aop, gpath, St.get, slotAt, sfx, eqP, segsOf, St.put, addBlk, getB, setB, delB, ld1, ldn, st1, stn, setRow, rowNeed, segAt, nsub, bin, un, eqB, isShift, sameK, arith, shiftR, getsl, selB_or, selB_and, beqb, shed, addN, Nat.beq, Seg.size, sizes, imp, needP, andN, appL, argsOf, ptrsOf, aasOf, cut, takeS, dropS, putS, partsOf, fillS, fieldOf, nthA, negIf, nilq, nilB, eqS, eqF, eqS1, andP, kin, slcS, strOk, plusA, bndHi, leN, optG, roH, roL, initT, exOk, exAll, wrAddr, Nat.reduceAdd, Nat.reduceSub, Nat.reduceMul, Int.reduceToNat, List.append_nil, List.nil_append, List.cons_append, eqT, idxT, cat, cpy, ite_int, ite_bool, ite_seg, ite_segs, ite_nil, ite_twice, Int.toNat_natCast, app, addBs, tob]))); with_reducible refine hK _ ?_; clear hK K)
    | refine run_ret ?_
    | refine run_nil ?_)
  exact end_tmp1 rfl rfl rfl ⟨rfl, rfl⟩
theorem con57 (o : OpS) (H : Heap) : Con Try.prog 57 [.agg (opL o)] H (fun v H' => v = .c (.bool (defS o.kind)) ∧ H' = H) := by
  by_cases h1 : o.kind = 1
  · have e : defS o.kind = true := by rw [h1]; decide
    rw [e]
    exact con57_k o _ _ h1 (by simp) H
  by_cases h2 : o.kind = 2
  · have e : defS o.kind = true := by rw [h2]; decide
    rw [e]
    exact con57_k o _ _ h2 (by simp) H
  by_cases h3 : o.kind = 3
  · have e : defS o.kind = false := by rw [h3]; decide
    rw [e]
    exact con57_k o _ _ h3 (by simp) H
  by_cases h4 : o.kind = 4
  · have e : defS o.kind = true := by rw [h4]; decide
    rw [e]
    exact con57_k o _ _ h4 (by simp) H
  by_cases h5 : o.kind = 5
  · have e : defS o.kind = false := by rw [h5]; decide
    rw [e]
    exact con57_k o _ _ h5 (by simp) H
  by_cases h6 : o.kind = 6
  · have e : defS o.kind = true := by rw [h6]; decide
    rw [e]
    exact con57_k o _ _ h6 (by simp) H
  by_cases h7 : o.kind = 7
  · have e : defS o.kind = false := by rw [h7]; decide
    rw [e]
    exact con57_k o _ _ h7 (by simp) H
  by_cases h8 : o.kind = 8
  · have e : defS o.kind = true := by rw [h8]; decide
    rw [e]
    exact con57_k o _ _ h8 (by simp) H
  by_cases h9 : o.kind = 9
  · have e : defS o.kind = true := by rw [h9]; decide
    rw [e]
    exact con57_k o _ _ h9 (by simp) H
  by_cases h10 : o.kind = 10
  · have e : defS o.kind = false := by rw [h10]; decide
    rw [e]
    exact con57_k o _ _ h10 (by simp) H
  by_cases h11 : o.kind = 11
  · have e : defS o.kind = true := by rw [h11]; decide
    rw [e]
    exact con57_k o _ _ h11 (by simp) H
  by_cases h12 : o.kind = 12
  · have e : defS o.kind = true := by rw [h12]; decide
    rw [e]
    exact con57_k o _ _ h12 (by simp) H
  by_cases h13 : o.kind = 13
  · have e : defS o.kind = false := by rw [h13]; decide
    rw [e]
    exact con57_k o _ _ h13 (by simp) H
  by_cases h14 : o.kind = 14
  · have e : defS o.kind = false := by rw [h14]; decide
    rw [e]
    exact con57_k o _ _ h14 (by simp) H
  by_cases h15 : o.kind = 15
  · have e : defS o.kind = false := by rw [h15]; decide
    rw [e]
    exact con57_k o _ _ h15 (by simp) H
  by_cases h16 : o.kind = 16
  · have e : defS o.kind = false := by rw [h16]; decide
    rw [e]
    exact con57_k o _ _ h16 (by simp) H
  by_cases h17 : o.kind = 17
  · have e : defS o.kind = false := by rw [h17]; decide
    rw [e]
    exact con57_k o _ _ h17 (by simp) H
  by_cases h18 : o.kind = 18
  · have e : defS o.kind = false := by rw [h18]; decide
    rw [e]
    exact con57_k o _ _ h18 (by simp) H
  have h : noKind o.kind := by simp only [noKind, beq_eq_false_iff_ne, ne_eq]; exact ⟨h1, h2, h3, h4, h5, h6, h7, h8, h9, h10, h11, h12, h13, h14, h15, h16, h17, h18⟩
  have e : defS o.kind = false := by
    unfold noKind at h
    simp [defS, h]
  rw [e]
  exact con57_no o h H
set_option maxHeartbeats 8000000 in
theorem con22_k (o : OpS) (k : Int) (V : Bool) (ho : o.kind = k) (hk : (k = 1 ∧ V = false) ∨ (k = 2 ∧ V = false) ∨ (k = 3 ∧ V = false) ∨ (k = 4 ∧ V = false) ∨ (k = 5 ∧ V = false) ∨ (k = 6 ∧ V = false) ∨ (k = 7 ∧ V = false) ∨ (k = 8 ∧ V = false) ∨ (k = 9 ∧ V = true) ∨ (k = 10 ∧ V = true) ∨ (k = 11 ∧ V = true) ∨ (k = 12 ∧ V = true) ∨ (k = 13 ∧ V = false) ∨ (k = 14 ∧ V = false) ∨ (k = 15 ∧ V = true) ∨ (k = 16 ∧ V = true) ∨ (k = 17 ∧ V = true) ∨ (k = 18 ∧ V = true)) (H : Heap) : Con Try.prog 22 [.agg (opL o)] H (fun v H' => v = .c (.bool V) ∧ H' = H) := by
  refine Con.pure ?_ (by simp only [leArgs, leV, leV1, opL, leSegs, leSeg, leC, and_self]) rfl H
  rcases hk with ⟨rfl, rfl⟩ | ⟨rfl, rfl⟩ | ⟨rfl, rfl⟩ | ⟨rfl, rfl⟩ | ⟨rfl, rfl⟩ | ⟨rfl, rfl⟩ | ⟨rfl, rfl⟩ | ⟨rfl, rfl⟩ | ⟨rfl, rfl⟩ | ⟨rfl, rfl⟩ | ⟨rfl, rfl⟩ | ⟨rfl, rfl⟩ | ⟨rfl, rfl⟩ | ⟨rfl, rfl⟩ | ⟨rfl, rfl⟩ | ⟨rfl, rfl⟩ | ⟨rfl, rfl⟩ | ⟨rfl, rfl⟩
  all_goals
    (refine con_of_run mixed (fn := Try.f22) (by kernel_rfl) (by kernel_rfl) C22_ok (rs := [.tmp 2]) (by kernel_rfl) (Nat.le_of_ble_eq_true (by kernel_rfl)) ?_; unfold C22; simp only [initT, Nat.reduceAdd])
    repeat' (first
    | refine run_seq ?_
    | (refine run_region fun K hK => ?_; (try (simp (maxSteps := 10000000) only [opL, ho, kindV, kindL, boxW, intsW, slB, C22r0, C22r1, C22r2, rwp_nil, rwp_cons, rwpK_app, aop, gpath, St.get, slotAt, sfx, eqP, segsOf, St.put, addBlk, getB, setB, delB, ld1, ldn, st1, stn, setRow, rowNeed, segAt, nsub, bin, un, eqB, isShift, sameK, arith, shiftR, getsl, selB_or, selB_and, beqb, shed, addN, Nat.beq, Seg.size, sizes, imp, needP, andN, appL, argsOf, ptrsOf, aasOf, cut, takeS, dropS, putS, partsOf, fillS, fieldOf, nthA, negIf, nilq, nilB, eqS, eqF, eqS1, andP, kin, slcS, strOk, plusA, bndHi, leN, optG, roH, roL, initT, exOk, exAll, wrAddr, Nat.reduceAdd, Nat.reduceSub, Nat.reduceMul, Int.reduceToNat, List.append_nil, List.nil_append, List.cons_append, eqT, idxT, cat, cpy, ite_int, ite_bool, ite_seg, ite_segs, ite_nil, ite_twice, Int.toNat_natCast, app, addBs, tob])); (repeat (first | (refine And.intro ?_ ?_; · (first | decide | trivial | assumption | (intros; first | decide | trivial))) | ((first | (refine call_t _ (kind_1 _) ?_; rintro v H' ⟨rfl, rfl⟩) | refine call_q _ (kind_1 _) ?_ | refine call_g _ (imp_of (kind_1 _)) ?_ | (refine call_t _ (kind_2 _ _ (by simp [roL, keysLt, boxW])) ?_; rintro v H' ⟨rfl, rfl⟩) | refine call_q _ (kind_2 _ _ (by simp [roL, keysLt, boxW])) ?_ | refine call_g _ (imp_of (kind_2 _ _ (by simp [roL, keysLt, boxW]))) ?_ | (refine call_t _ (kind_3 _ _ (by simp [roL, keysLt, boxW])) ?_; rintro v H' ⟨rfl, rfl⟩) | refine call_q _ (kind_3 _ _ (by simp [roL, keysLt, boxW])) ?_ | refine call_g _ (imp_of (kind_3 _ _ (by simp [roL, keysLt, boxW]))) ?_ | (refine call_t _ (kind_4 _) ?_; rintro v H' ⟨rfl, rfl⟩) | refine call_q _ (kind_4 _) ?_ | refine call_g _ (imp_of (kind_4 _)) ?_ | (refine call_t _ (kind_5 _) ?_; rintro v H' ⟨rfl, rfl⟩) | refine call_q _ (kind_5 _) ?_ | refine call_g _ (imp_of (kind_5 _)) ?_ | (refine call_t _ (kind_6 _ _ (by simp [roL, keysLt, boxW])) ?_; rintro v H' ⟨rfl, rfl⟩) | refine call_q _ (kind_6 _ _ (by simp [roL, keysLt, boxW])) ?_ | refine call_g _ (imp_of (kind_6 _ _ (by simp [roL, keysLt, boxW]))) ?_ | (refine call_t _ (kind_7 _ _ (by simp [roL, keysLt, boxW])) ?_; rintro v H' ⟨rfl, rfl⟩) | refine call_q _ (kind_7 _ _ (by simp [roL, keysLt, boxW])) ?_ | refine call_g _ (imp_of (kind_7 _ _ (by simp [roL, keysLt, boxW]))) ?_ | (refine call_t _ (kind_8 _) ?_; rintro v H' ⟨rfl, rfl⟩) | refine call_q _ (kind_8 _) ?_ | refine call_g _ (imp_of (kind_8 _)) ?_ | (refine call_t _ (kind_9 _ _ (by simp [roL, keysLt, boxW])) ?_; rintro v H' ⟨rfl, rfl⟩) | refine call_q _ (kind_9 _ _ (by simp [roL, keysLt, boxW])) ?_ | refine call_g _ (imp_of (kind_9 _ _ (by simp [roL, keysLt, boxW]))) ?_ | (refine call_t _ (kind_10 _ _ (by simp [roL, keysLt, boxW])) ?_; rintro v H' ⟨rfl, rfl⟩) | refine call_q _ (kind_10 _ _ (by simp [roL, keysLt, boxW])) ?_ | refine call_g _ (imp_of (kind_10 _ _ (by simp [roL, keysLt, boxW]))) ?_ | (refine call_t _ (kind_11 _ _ (by simp [roL, keysLt, boxW])) ?_; rintro v H' ⟨rfl, rfl⟩) | refine call_q _ (kind_11 _ _ (by simp [roL, keysLt, boxW])) ?_ | refine call_g _ (imp_of (kind_11 _ _ (by simp [roL, keysLt, boxW]))) ?_ | (refine call_t _ (kind_12 _ _ (by simp [roL, keysLt, boxW])) ?_; rintro v H' ⟨rfl, rfl⟩) | refine call_q _ (kind_12 _ _ (by simp [roL, keysLt, boxW])) ?_ | refine call_g _ (imp_of (kind_12 _ _ (by simp [roL, keysLt, boxW]))) ?_ | (refine call_t _ (kind_13 _) ?_; rintro v H' ⟨rfl, rfl⟩) | refine call_q _ (kind_13 _) ?_ | refine call_g _ (imp_of (kind_13 _)) ?_ | (refine call_t _ (kind_14 _) ?_; rintro v H' ⟨rfl, rfl⟩) | refine call_q _ (kind_14 _) ?_ | refine call_g _ (imp_of (kind_14 _)) ?_ | (refine call_t _ (kind_15 _) ?_; rintro v H' ⟨rfl, rfl⟩) | refine call_q _ (kind_15 _) ?_ | refine call_g _ (imp_of (kind_15 _)) ?_ | (refine call_t _ (kind_16 _) ?_; rintro v H' ⟨rfl, rfl⟩) | refine call_q _ (kind_16 _) ?_ | refine call_g _ (imp_of (kind_16 _)) ?_ | (refine call_t _ (kind_17 _) ?_; rintro v H' ⟨rfl, rfl⟩) | refine call_q _ (kind_17 _) ?_ | refine call_g _ (imp_of (kind_17 _)) ?_ | (refine call_t _ (kind_18 _) ?_; rintro v H' ⟨rfl, rfl⟩) | refine call_q _ (kind_18 _) ?_ | refine call_g _ (imp_of (kind_18 _)) ?_); simp (maxSteps := 10000000) only [opL, ho, kindV, kindL, boxW, intsW, slB, C22r0, C22r1, C22r2, rwp_nil, rwp_cons, rwpK_app, aop, gpath, St.get, slotAt, sfx, eqP, segsOf, St.put, addBlk, getB, setB, delB, ld1, ldn, st1, stn, setRow, rowNeed, segAt, nsub, bin, un, eqB, isShift, sameK, arith, shiftR, getsl, selB_or, selB_and, beqb, shed, addN, Nat.beq, Seg.size, sizes, imp, needP, andN, appL, argsOf, ptrsOf, aasOf, cut, takeS, dropS, putS, partsOf, fillS, fieldOf, nthA, negIf, nilq, nilB, eqS, eqF, eqS1, andP, kin, slcS, strOk, plusA, bndHi, leN, optG, roH, roL, initT, exOk, exAll, wrAddr, Nat.reduceAdd, Nat.reduceSub, Nat.reduceMul, Int.reduceToNat, List.append_nil, List.nil_append, List.cons_append, eqT, idxT, cat, cpy, ite_int, ite_bool, ite_seg, ite_segs, ite_nil, ite_twice, Int.toNat_natCast, app, addBs, tob]))); with_reducible refine hK _ ?_; clear hK K)
    | refine run_ret ?_
    | refine run_nil ?_)
    exact end_tmp1 rfl rfl rfl ⟨rfl, rfl⟩
theorem con22_no (o : OpS) (h : noKind o.kind) (H : Heap) : Con Try.prog 22 [.agg (opL o)] H (fun v H' => v = .c (.bool false) ∧ H' = H) := by
  refine Con.pure ?_ (by simp only [leArgs, leV, leV1, opL, leSegs, leSeg, leC, and_self]) rfl H
  have h' := h
  unfold noKind at h'
  (refine con_of_run mixed (fn := Try.f22) (by kernel_rfl) (by kernel_rfl) C22_ok (rs := [.tmp 2]) (by kernel_rfl) (Nat.le_of_ble_eq_true (by kernel_rfl)) ?_; unfold C22; simp only [initT, Nat.reduceAdd])
  repeat' (first
    | refine run_seq ?_
    | (refine run_region fun K hK => ?_; (try (simp (maxSteps := 10000000) only [opL, h', kindV, kindL, C22r0, C22r1, C22r2, rwp_nil, rwp_cons, rwpK_app, aop, gpath, St.get, slotAt, sfx, eqP, segsOf, St.put, addBlk, getB, setB, delB, ld1, ldn, st1, stn, setRow, rowNeed, segAt, nsub, bin, un, eqB, isShift, sameK, arith, shiftR, getsl, selB_or, selB_and, beqb, shed, addN, Nat.beq, Seg.size, sizes, imp, needP, andN, appL, argsOf, ptrsOf, aasOf, cut, takeS, dropS, putS, partsOf, fillS, fieldOf, nthA, negIf, nilq, nilB, eqS, eqF, eqS1, andP, kin, slcS, strOk, plusA, bndHi, leN, optG, roH, roL, initT, exOk, exAll, wrAddr, Nat.reduceAdd, Nat.reduceSub, Nat.reduceMul, Int.reduceToNat, List.append_nil, List.nil_append, List.cons_append, eqT, idxT, cat, cpy, ite_int, ite_bool, ite_seg, ite_segs, ite_nil, ite_twice, Int.toNat_natCast, app, addBs, tob])); (repeat (first | (refine And.intro ?_ ?_; · (first | decide | trivial | assumption | (intros; first | decide | trivial))) | ((first | (refine call_t _ (kind_no _ h _) ?_; rintro v H' ⟨rfl, rfl⟩) | refine call_q _ (kind_no _ h _) ?_ | refine call_g _ (imp_of (kind_no _ h _)) ?_); simp (maxSteps := 10000000) only [opL, h', kindV, kindL, C22r0, C22r1, C22r2, rwp_nil, rwp_cons, rwpK_app, aop, gpath, St.get, slotAt, sfx, eqP, segsOf, St.put, addBlk, getB, setB, delB, ld1, ldn, st1, stn, setRow, rowNeed, segAt, nsub, bin, un, eqB, isShift, sameK, arith, shiftR, getsl, selB_or, selB_and, beqb, shed, addN, Nat.beq, Seg.size, sizes, imp, needP, andN, appL, argsOf, ptrsOf, aasOf, cut, takeS, dropS, putS, partsOf, fillS, fieldOf, nthA, negIf, nilq, nilB, eqS, eqF, eqS1, andP, kin, slcS, strOk, plusA, bndHi, leN, optG, roH, roL, initT, exOk, exAll, wrAddr, Nat.reduceAdd, Nat.reduceSub, Nat.reduceMul, Int.reduceToNat, List.append_nil, List.nil_append, List.cons_append, eqT, idxT, cat, cpy, ite_int, ite_bool, ite_seg, ite_segs, ite_nil, ite_twice, Int.toNat_natCast, app, addBs, tob]))); with_reducible refine hK _ ?_; clear hK K)
    | refine run_ret ?_
    | refine run_nil ?_)
  exact end_tmp1 rfl rfl rfl ⟨rfl, rfl⟩
theorem con22 (o : OpS) (H : Heap) : Con Try.prog 22 [.agg (opL o)] H (fun v H' => v = .c (.bool (leaveS o.kind)) ∧ H' = H) := by
  by_cases h1 : o.kind = 1
  · have e : leaveS o.kind = false := by rw [h1]; decide
    rw [e]
    exact con22_k o _ _ h1 (by simp) H
  by_cases h2 : o.kind = 2
  · have e : leaveS o.kind = false := by rw [h2]; decide
    rw [e]
    exact con22_k o _ _ h2 (by simp) H
  by_cases h3 : o.kind = 3
  · have e : leaveS o.kind = false := by rw [h3]; decide
    rw [e]
    exact con22_k o _ _ h3 (by simp) H
  by_cases h4 : o.kind = 4
  · have e : leaveS o.kind = false := by rw [h4]; decide
    rw [e]
    exact con22_k o _ _ h4 (by simp) H
  by_cases h5 : o.kind = 5
  · have e : leaveS o.kind = false := by rw [h5]; decide
    rw [e]
    exact con22_k o _ _ h5 (by simp) H
  by_cases h6 : o.kind = 6
  · have e : leaveS o.kind = false := by rw [h6]; decide
    rw [e]
    exact con22_k o _ _ h6 (by simp) H
  by_cases h7 : o.kind = 7
  · have e : leaveS o.kind = false := by rw [h7]; decide
    rw [e]
    exact con22_k o _ _ h7 (by simp) H
  by_cases h8 : o.kind = 8
  · have e : leaveS o.kind = false := by rw [h8]; decide
    rw [e]
    exact con22_k o _ _ h8 (by simp) H
  by_cases h9 : o.kind = 9
  · have e : leaveS o.kind = true := by rw [h9]; decide
    rw [e]
    exact con22_k o _ _ h9 (by simp) H
  by_cases h10 : o.kind = 10
  · have e : leaveS o.kind = true := by rw [h10]; decide
    rw [e]
    exact con22_k o _ _ h10 (by simp) H
  by_cases h11 : o.kind = 11
  · have e : leaveS o.kind = true := by rw [h11]; decide
    rw [e]
    exact con22_k o _ _ h11 (by simp) H
  by_cases h12 : o.kind = 12
  · have e : leaveS o.kind = true := by rw [h12]; decide
    rw [e]
    exact con22_k o _ _ h12 (by simp) H
  by_cases h13 : o.kind = 13
  · have e : leaveS o.kind = false := by rw [h13]; decide
    rw [e]
    exact con22_k o _ _ h13 (by simp) H
  by_cases h14 : o.kind = 14
  · have e : leaveS o.kind = false := by rw [h14]; decide
    rw [e]
    exact con22_k o _ _ h14 (by simp) H
  by_cases h15 : o.kind = 15
  · have e : leaveS o.kind = true := by rw [h15]; decide
    rw [e]
    exact con22_k o _ _ h15 (by simp) H
  by_cases h16 : o.kind = 16
  · have e : leaveS o.kind = true := by rw [h16]; decide
    rw [e]
    exact con22_k o _ _ h16 (by simp) H
  by_cases h17 : o.kind = 17
  · have e : leaveS o.kind = true := by rw [h17]; decide
    rw [e]
    exact con22_k o _ _ h17 (by simp) H
  by_cases h18 : o.kind = 18
  · have e : leaveS o.kind = true := by rw [h18]; decide
    rw [e]
    exact con22_k o _ _ h18 (by simp) H
  have h : noKind o.kind := by simp only [noKind, beq_eq_false_iff_ne, ne_eq]; exact ⟨h1, h2, h3, h4, h5, h6, h7, h8, h9, h10, h11, h12, h13, h14, h15, h16, h17, h18⟩
  have e : leaveS o.kind = false := by
    unfold noKind at h
    simp [leaveS, accS, endS, h]
  rw [e]
  exact con22_no o h H
end Go.Proofs.Ytmbnakinhnkabaa
