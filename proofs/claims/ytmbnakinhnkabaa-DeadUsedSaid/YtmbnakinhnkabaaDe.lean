/- ir: Uses. -/
import Derived.Test.YtmbnakinhnkabaaDd
namespace Go.Proofs.Ytmbnakinhnkabaa
open Go.AM
set_option maxRecDepth 100000
set_option linter.unusedSimpArgs false
set_option linter.unusedVariables false
def useF (o : OpS) : Nat → Int
  | 0 => o.a
  | _ => o.b
def usesBk (o : OpS) (u : Nat) : Blk := ⟨1, some u, fun j => [.c (.int .i64 (useF o j))], 3, true⟩
theorem end_uses {l : List Slot} {H : Heap} {R : Post} {b : Nat} {row : Nat → List Seg} (o : OpS) (u : Nat) (hu : u ≤ 2) (hsl : slotAt l 2 = some ⟨2, [], .c (.slice ⟨b, 0, 0, 0⟩ false u)⟩) (hb : getB H.blks b = some ⟨1, some u, row, 3, true⟩) (h0 : row 0 = [.c (.int .i64 o.a)]) (h1 : row 1 = [.c (.int .i64 o.b)]) (hR : R (.c (.slice ⟨0, 0, 0, 0⟩ false u)) ⟨1, [(0, usesBk o u)]⟩) : endQ (LeS 0) [.tmp 2] R .ret ⟨l, H⟩ := by
  refine end_of ⟨[⟨2, [], .c (.slice ⟨0, 0, 0, 0⟩ false u)⟩], ⟨1, [(0, usesBk o u)]⟩⟩ (LeS.intro [b] (fun i h => absurd h (Nat.not_lt_zero i)) (by simp only [diff, notIn, and_self]) rfl (by simp only [slotsLe, hsl, leV, leV1, leC, leA, nthO, and_self]) ?_) hR
  simp only [leBlks, nthO, hb]
  refine ⟨⟨rfl, rfl, id, Nat.le_refl _, fun j hj => ?_⟩, trivial⟩
  show leSegs _ (row j) [.c (.int .i64 (useF o j))]
  match j, Nat.lt_of_lt_of_le hj hu with
  | 0, _ => rw [h0]; exact ⟨⟨rfl, rfl⟩, trivial⟩
  | 1, _ => rw [h1]; exact ⟨⟨rfl, rfl⟩, trivial⟩
theorem frame_uses (o : OpS) (u : Nat) {m : FuncId} {args : List AV} (h : Con Try.prog m args ⟨0, []⟩ fun v H' => v = .c (.slice ⟨0, 0, 0, 0⟩ false u) ∧ H' = ⟨1, [(0, usesBk o u)]⟩) (ha : leArgs [] args args) (n : Nat) (X : List (Nat × Blk)) (hkl : keysLt X n) : Con Try.prog m args ⟨n, X⟩ fun v H' => v = .c (.slice ⟨n, 0, 0, 0⟩ false u) ∧ H' = addBs ⟨n, X⟩ [usesBk o u] := by
  refine (h.frame (H := ⟨n, X⟩) [] rfl trivial trivial hkl trivial ha).weaken ?_
  rintro v H' ⟨v0, H0', ⟨rfl, rfl⟩, rfl, rfl⟩
  refine ⟨rfl, ?_⟩
  simp only [framed, dropB_none (l := []) (H0 := []) (fun _ => rfl)]
  rfl
set_option maxHeartbeats 8000000 in
theorem con21_k (o : OpS) (k : Int) (u : Nat) (ho : o.kind = k) (hk : (k = 1 ∧ u = 0) ∨ (k = 2 ∧ u = 0) ∨ (k = 3 ∧ u = 1) ∨ (k = 4 ∧ u = 0) ∨ (k = 5 ∧ u = 1) ∨ (k = 6 ∧ u = 0) ∨ (k = 7 ∧ u = 1) ∨ (k = 8 ∧ u = 2) ∨ (k = 9 ∧ u = 1) ∨ (k = 10 ∧ u = 2) ∨ (k = 11 ∧ u = 1) ∨ (k = 12 ∧ u = 2) ∨ (k = 13 ∧ u = 0) ∨ (k = 14 ∧ u = 0) ∨ (k = 15 ∧ u = 1) ∨ (k = 16 ∧ u = 0) ∨ (k = 17 ∧ u = 1) ∨ (k = 18 ∧ u = 0)) (n : Nat) (X : List (Nat × Blk)) (hkl : keysLt X n) : Con Try.prog 21 [.agg (opL o)] ⟨n, X⟩ (fun v H' => v = .c (.slice ⟨n, 0, 0, 0⟩ false u) ∧ H' = addBs ⟨n, X⟩ [usesBk o u]) := by
  refine frame_uses o u ?_ (by simp only [leArgs, leV, leV1, opL, leSegs, leSeg, leC, and_self]) n X hkl
  rcases hk with ⟨rfl, rfl⟩ | ⟨rfl, rfl⟩ | ⟨rfl, rfl⟩ | ⟨rfl, rfl⟩ | ⟨rfl, rfl⟩ | ⟨rfl, rfl⟩ | ⟨rfl, rfl⟩ | ⟨rfl, rfl⟩ | ⟨rfl, rfl⟩ | ⟨rfl, rfl⟩ | ⟨rfl, rfl⟩ | ⟨rfl, rfl⟩ | ⟨rfl, rfl⟩ | ⟨rfl, rfl⟩ | ⟨rfl, rfl⟩ | ⟨rfl, rfl⟩ | ⟨rfl, rfl⟩ | ⟨rfl, rfl⟩
  all_goals
    (refine con_of_run mixed (fn := Try.f21) (by kernel_rfl) (by kernel_rfl) C21_ok (rs := [.tmp 2]) (by kernel_rfl) (Nat.le_of_ble_eq_true (by kernel_rfl)) ?_; unfold C21; simp only [initT, Nat.reduceAdd])
    repeat' (first
    | refine run_seq ?_
    | (refine run_region fun K hK => ?_; (try (simp (maxSteps := 10000000) only [opL, ho, kindV, kindL, boxW, intsW, slB, repl, rowsFit, rowFn, cutD, C21r0, C21r1, C21r2, rwp_nil, rwp_cons, rwpK_app, aop, gpath, St.get, slotAt, sfx, eqP, segsOf, St.put, addBlk, getB, setB, delB, ld1, ldn, st1, stn, setRow, rowNeed, segAt, nsub, bin, un, eqB, isShift, sameK, arith, shiftR, getsl, selB_or, selB_and, beqb, shed, addN, Nat.beq, Seg.size, sizes, imp, needP, andN, appL, argsOf, ptrsOf, aasOf, cut, takeS, dropS, putS, partsOf, fillS, fieldOf, nthA, negIf, nilq, nilB, eqS, eqF, eqS1, andP, kin, slcS, strOk, plusA, bndHi, leN, optG, roH, roL, initT, exOk, exAll, wrAddr, Nat.reduceAdd, Nat.reduceSub, Nat.reduceMul, Int.reduceToNat, List.append_nil, List.nil_append, List.cons_append, eqT, idxT, cat, cpy, ite_int, ite_bool, ite_seg, ite_segs, ite_nil, ite_twice, Int.toNat_natCast, app, addBs, tob])); (repeat (first | (refine And.intro ?_ ?_; · (first | decide | trivial | assumption | (intros; first | decide | trivial))) | ((first | (refine call_t _ (kind_1 _) ?_; rintro v H' ⟨rfl, rfl⟩) | refine call_q _ (kind_1 _) ?_ | refine call_g _ (imp_of (kind_1 _)) ?_ | (refine call_t _ (kind_2 _ _ (by simp [roL, keysLt, boxW])) ?_; rintro v H' ⟨rfl, rfl⟩) | refine call_q _ (kind_2 _ _ (by simp [roL, keysLt, boxW])) ?_ | refine call_g _ (imp_of (kind_2 _ _ (by simp [roL, keysLt, boxW]))) ?_ | (refine call_t _ (kind_3 _ _ (by simp [roL, keysLt, boxW])) ?_; rintro v H' ⟨rfl, rfl⟩) | refine call_q _ (kind_3 _ _ (by simp [roL, keysLt, boxW])) ?_ | refine call_g _ (imp_of (kind_3 _ _ (by simp [roL, keysLt, boxW]))) ?_ | (refine call_t _ (kind_4 _) ?_; rintro v H' ⟨rfl, rfl⟩) | refine call_q _ (kind_4 _) ?_ | refine call_g _ (imp_of (kind_4 _)) ?_ | (refine call_t _ (kind_5 _) ?_; rintro v H' ⟨rfl, rfl⟩) | refine call_q _ (kind_5 _) ?_ | refine call_g _ (imp_of (kind_5 _)) ?_ | (refine call_t _ (kind_6 _ _ (by simp [roL, keysLt, boxW])) ?_; rintro v H' ⟨rfl, rfl⟩) | refine call_q _ (kind_6 _ _ (by simp [roL, keysLt, boxW])) ?_ | refine call_g _ (imp_of (kind_6 _ _ (by simp [roL, keysLt, boxW]))) ?_ | (refine call_t _ (kind_7 _ _ (by simp [roL, keysLt, boxW])) ?_; rintro v H' ⟨rfl, rfl⟩) | refine call_q _ (kind_7 _ _ (by simp [roL, keysLt, boxW])) ?_ | refine call_g _ (imp_of (kind_7 _ _ (by simp [roL, keysLt, boxW]))) ?_ | (refine call_t _ (kind_8 _) ?_; rintro v H' ⟨rfl, rfl⟩) | refine call_q _ (kind_8 _) ?_ | refine call_g _ (imp_of (kind_8 _)) ?_ | (refine call_t _ (kind_9 _ _ (by simp [roL, keysLt, boxW])) ?_; rintro v H' ⟨rfl, rfl⟩) | refine call_q _ (kind_9 _ _ (by simp [roL, keysLt, boxW])) ?_ | refine call_g _ (imp_of (kind_9 _ _ (by simp [roL, keysLt, boxW]))) ?_ | (refine call_t _ (kind_10 _ _ (by simp [roL, keysLt, boxW])) ?_; rintro v H' ⟨rfl, rfl⟩) | refine call_q _ (kind_10 _ _ (by simp [roL, keysLt, boxW])) ?_ | refine call_g _ (imp_of (kind_10 _ _ (by simp [roL, keysLt, boxW]))) ?_ | (refine call_t _ (kind_11 _ _ (by simp [roL, keysLt, boxW])) ?_; rintro v H' ⟨rfl, rfl⟩) | refine call_q _ (kind_11 _ _ (by simp [roL, keysLt, boxW])) ?_ | refine call_g _ (imp_of (kind_11 _ _ (by simp [roL, keysLt, boxW]))) ?_ | (refine call_t _ (kind_12 _ _ (by simp [roL, keysLt, boxW])) ?_; rintro v H' ⟨rfl, rfl⟩) | refine call_q _ (kind_12 _ _ (by simp [roL, keysLt, boxW])) ?_ | refine call_g _ (imp_of (kind_12 _ _ (by simp [roL, keysLt, boxW]))) ?_ | (refine call_t _ (kind_13 _) ?_; rintro v H' ⟨rfl, rfl⟩) | refine call_q _ (kind_13 _) ?_ | refine call_g _ (imp_of (kind_13 _)) ?_ | (refine call_t _ (kind_14 _) ?_; rintro v H' ⟨rfl, rfl⟩) | refine call_q _ (kind_14 _) ?_ | refine call_g _ (imp_of (kind_14 _)) ?_ | (refine call_t _ (kind_15 _) ?_; rintro v H' ⟨rfl, rfl⟩) | refine call_q _ (kind_15 _) ?_ | refine call_g _ (imp_of (kind_15 _)) ?_ | (refine call_t _ (kind_16 _) ?_; rintro v H' ⟨rfl, rfl⟩) | refine call_q _ (kind_16 _) ?_ | refine call_g _ (imp_of (kind_16 _)) ?_ | (refine call_t _ (kind_17 _) ?_; rintro v H' ⟨rfl, rfl⟩) | refine call_q _ (kind_17 _) ?_ | refine call_g _ (imp_of (kind_17 _)) ?_ | (refine call_t _ (kind_18 _) ?_; rintro v H' ⟨rfl, rfl⟩) | refine call_q _ (kind_18 _) ?_ | refine call_g _ (imp_of (kind_18 _)) ?_); simp (maxSteps := 10000000) only [opL, ho, kindV, kindL, boxW, intsW, slB, repl, rowsFit, rowFn, cutD, C21r0, C21r1, C21r2, rwp_nil, rwp_cons, rwpK_app, aop, gpath, St.get, slotAt, sfx, eqP, segsOf, St.put, addBlk, getB, setB, delB, ld1, ldn, st1, stn, setRow, rowNeed, segAt, nsub, bin, un, eqB, isShift, sameK, arith, shiftR, getsl, selB_or, selB_and, beqb, shed, addN, Nat.beq, Seg.size, sizes, imp, needP, andN, appL, argsOf, ptrsOf, aasOf, cut, takeS, dropS, putS, partsOf, fillS, fieldOf, nthA, negIf, nilq, nilB, eqS, eqF, eqS1, andP, kin, slcS, strOk, plusA, bndHi, leN, optG, roH, roL, initT, exOk, exAll, wrAddr, Nat.reduceAdd, Nat.reduceSub, Nat.reduceMul, Int.reduceToNat, List.append_nil, List.nil_append, List.cons_append, eqT, idxT, cat, cpy, ite_int, ite_bool, ite_seg, ite_segs, ite_nil, ite_twice, Int.toNat_natCast, app, addBs, tob]))); with_reducible refine hK _ ?_; clear hK K)
    | refine run_ret ?_
    | refine run_nil ?_)
    exact end_uses o _ (by decide) rfl rfl rfl rfl ⟨rfl, rfl⟩
theorem con21_no (o : OpS) (h : noKind o.kind) (n : Nat) (X : List (Nat × Blk)) (hkl : keysLt X n) : Con Try.prog 21 [.agg (opL o)] ⟨n, X⟩ (fun v H' => v = .c (.slice ⟨n, 0, 0, 0⟩ false 0) ∧ H' = addBs ⟨n, X⟩ [usesBk o 0]) := by
  refine frame_uses o 0 ?_ (by simp only [leArgs, leV, leV1, opL, leSegs, leSeg, leC, and_self]) n X hkl
  have h' := h
  unfold noKind at h'
  (refine con_of_run mixed (fn := Try.f21) (by kernel_rfl) (by kernel_rfl) C21_ok (rs := [.tmp 2]) (by kernel_rfl) (Nat.le_of_ble_eq_true (by kernel_rfl)) ?_; unfold C21; simp only [initT, Nat.reduceAdd])
  repeat' (first
    | refine run_seq ?_
    | (refine run_region fun K hK => ?_; (try (simp (maxSteps := 10000000) only [opL, h', kindV, kindL, repl, rowsFit, rowFn, cutD, C21r0, C21r1, C21r2, rwp_nil, rwp_cons, rwpK_app, aop, gpath, St.get, slotAt, sfx, eqP, segsOf, St.put, addBlk, getB, setB, delB, ld1, ldn, st1, stn, setRow, rowNeed, segAt, nsub, bin, un, eqB, isShift, sameK, arith, shiftR, getsl, selB_or, selB_and, beqb, shed, addN, Nat.beq, Seg.size, sizes, imp, needP, andN, appL, argsOf, ptrsOf, aasOf, cut, takeS, dropS, putS, partsOf, fillS, fieldOf, nthA, negIf, nilq, nilB, eqS, eqF, eqS1, andP, kin, slcS, strOk, plusA, bndHi, leN, optG, roH, roL, initT, exOk, exAll, wrAddr, Nat.reduceAdd, Nat.reduceSub, Nat.reduceMul, Int.reduceToNat, List.append_nil, List.nil_append, List.cons_append, eqT, idxT, cat, cpy, ite_int, ite_bool, ite_seg, ite_segs, ite_nil, ite_twice, Int.toNat_natCast, app, addBs, tob])); (repeat (first | (refine And.intro ?_ ?_; · (first | decide | trivial | assumption | (intros; first | decide | trivial))) | ((first | (refine call_t _ (kind_no _ h _) ?_; rintro v H' ⟨rfl, rfl⟩) | refine call_q _ (kind_no _ h _) ?_ | refine call_g _ (imp_of (kind_no _ h _)) ?_); simp (maxSteps := 10000000) only [opL, h', kindV, kindL, repl, rowsFit, rowFn, cutD, C21r0, C21r1, C21r2, rwp_nil, rwp_cons, rwpK_app, aop, gpath, St.get, slotAt, sfx, eqP, segsOf, St.put, addBlk, getB, setB, delB, ld1, ldn, st1, stn, setRow, rowNeed, segAt, nsub, bin, un, eqB, isShift, sameK, arith, shiftR, getsl, selB_or, selB_and, beqb, shed, addN, Nat.beq, Seg.size, sizes, imp, needP, andN, appL, argsOf, ptrsOf, aasOf, cut, takeS, dropS, putS, partsOf, fillS, fieldOf, nthA, negIf, nilq, nilB, eqS, eqF, eqS1, andP, kin, slcS, strOk, plusA, bndHi, leN, optG, roH, roL, initT, exOk, exAll, wrAddr, Nat.reduceAdd, Nat.reduceSub, Nat.reduceMul, Int.reduceToNat, List.append_nil, List.nil_append, List.cons_append, eqT, idxT, cat, cpy, ite_int, ite_bool, ite_seg, ite_segs, ite_nil, ite_twice, Int.toNat_natCast, app, addBs, tob]))); with_reducible refine hK _ ?_; clear hK K)
    | refine run_ret ?_
    | refine run_nil ?_)
  exact end_uses o _ (by decide) rfl rfl rfl rfl ⟨rfl, rfl⟩
theorem con21 (o : OpS) (n : Nat) (X : List (Nat × Blk)) (hkl : keysLt X n) : Con Try.prog 21 [.agg (opL o)] ⟨n, X⟩ (fun v H' => v = .c (.slice ⟨n, 0, 0, 0⟩ false (usesS o.kind)) ∧ H' = addBs ⟨n, X⟩ [usesBk o (usesS o.kind)]) := by
  by_cases h1 : o.kind = 1
  · have e : usesS o.kind = 0 := by rw [h1]; decide
    rw [e]
    exact con21_k o _ _ h1 (by simp) n X hkl
  by_cases h2 : o.kind = 2
  · have e : usesS o.kind = 0 := by rw [h2]; decide
    rw [e]
    exact con21_k o _ _ h2 (by simp) n X hkl
  by_cases h3 : o.kind = 3
  · have e : usesS o.kind = 1 := by rw [h3]; decide
    rw [e]
    exact con21_k o _ _ h3 (by simp) n X hkl
  by_cases h4 : o.kind = 4
  · have e : usesS o.kind = 0 := by rw [h4]; decide
    rw [e]
    exact con21_k o _ _ h4 (by simp) n X hkl
  by_cases h5 : o.kind = 5
  · have e : usesS o.kind = 1 := by rw [h5]; decide
    rw [e]
    exact con21_k o _ _ h5 (by simp) n X hkl
  by_cases h6 : o.kind = 6
  · have e : usesS o.kind = 0 := by rw [h6]; decide
    rw [e]
    exact con21_k o _ _ h6 (by simp) n X hkl
  by_cases h7 : o.kind = 7
  · have e : usesS o.kind = 1 := by rw [h7]; decide
    rw [e]
    exact con21_k o _ _ h7 (by simp) n X hkl
  by_cases h8 : o.kind = 8
  · have e : usesS o.kind = 2 := by rw [h8]; decide
    rw [e]
    exact con21_k o _ _ h8 (by simp) n X hkl
  by_cases h9 : o.kind = 9
  · have e : usesS o.kind = 1 := by rw [h9]; decide
    rw [e]
    exact con21_k o _ _ h9 (by simp) n X hkl
  by_cases h10 : o.kind = 10
  · have e : usesS o.kind = 2 := by rw [h10]; decide
    rw [e]
    exact con21_k o _ _ h10 (by simp) n X hkl
  by_cases h11 : o.kind = 11
  · have e : usesS o.kind = 1 := by rw [h11]; decide
    rw [e]
    exact con21_k o _ _ h11 (by simp) n X hkl
  by_cases h12 : o.kind = 12
  · have e : usesS o.kind = 2 := by rw [h12]; decide
    rw [e]
    exact con21_k o _ _ h12 (by simp) n X hkl
  by_cases h13 : o.kind = 13
  · have e : usesS o.kind = 0 := by rw [h13]; decide
    rw [e]
    exact con21_k o _ _ h13 (by simp) n X hkl
  by_cases h14 : o.kind = 14
  · have e : usesS o.kind = 0 := by rw [h14]; decide
    rw [e]
    exact con21_k o _ _ h14 (by simp) n X hkl
  by_cases h15 : o.kind = 15
  · have e : usesS o.kind = 1 := by rw [h15]; decide
    rw [e]
    exact con21_k o _ _ h15 (by simp) n X hkl
  by_cases h16 : o.kind = 16
  · have e : usesS o.kind = 0 := by rw [h16]; decide
    rw [e]
    exact con21_k o _ _ h16 (by simp) n X hkl
  by_cases h17 : o.kind = 17
  · have e : usesS o.kind = 1 := by rw [h17]; decide
    rw [e]
    exact con21_k o _ _ h17 (by simp) n X hkl
  by_cases h18 : o.kind = 18
  · have e : usesS o.kind = 0 := by rw [h18]; decide
    rw [e]
    exact con21_k o _ _ h18 (by simp) n X hkl
  have h : noKind o.kind := by simp only [noKind, beq_eq_false_iff_ne, ne_eq]; exact ⟨h1, h2, h3, h4, h5, h6, h7, h8, h9, h10, h11, h12, h13, h14, h15, h16, h17, h18⟩
  have e : usesS o.kind = 0 := by
    unfold usesS
    rw [if_neg (by omega), if_neg (by omega)]
  rw [e]
  exact con21_no o h n X hkl
end Go.Proofs.Ytmbnakinhnkabaa
