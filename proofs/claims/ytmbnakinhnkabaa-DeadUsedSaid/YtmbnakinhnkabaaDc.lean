/- ir: kindOf where it makes closures. -/
import Derived.Test.YtmbnakinhnkabaaDb
namespace Go.Proofs.Ytmbnakinhnkabaa
open Go.AM
set_option maxRecDepth 100000
set_option linter.unusedSimpArgs false
set_option linter.unusedVariables false
theorem con69 (m j n : Nat) (X : List (Nat × Blk)) (hj : j < n) (hkl : keysLt X n) : Con Try.prog 69 [.c (.slice ⟨j, 0, 0, 0⟩ false m)] ⟨n, X⟩ (fun v H' => v = .c (.fn 99 [] [⟨n, 0, 0, 0⟩]) ∧ H' = addBs ⟨n, X⟩ [slB j m true]) := by
  have h0 : Con Try.prog 69 [.c (.slice ⟨0, 0, 0, 0⟩ false m)] ⟨1, []⟩ (fun v H' => v = .c (.fn 99 [] [⟨1, 0, 0, 0⟩]) ∧ H' = ⟨2, [(1, slB 0 m true)]⟩) := by
    (refine con_of_run mixed (fn := Try.f69) (by kernel_rfl) (by kernel_rfl) C69_ok (rs := [.tmp 2]) (by kernel_rfl) (Nat.le_of_ble_eq_true (by kernel_rfl)) ?_; unfold C69; simp only [initT, Nat.reduceAdd])
    repeat' (first
    | refine run_seq ?_
    | (refine run_region fun K hK => ?_; (try (simp (maxSteps := 10000000) only [C69r0, C69r1, rwp_nil, rwp_cons, rwpK_app, aop, gpath, St.get, slotAt, sfx, eqP, segsOf, St.put, addBlk, getB, setB, delB, ld1, ldn, st1, stn, setRow, rowNeed, segAt, nsub, bin, un, eqB, isShift, sameK, arith, shiftR, getsl, selB_or, selB_and, beqb, shed, addN, Nat.beq, Seg.size, sizes, imp, needP, andN, appL, argsOf, ptrsOf, aasOf, cut, takeS, dropS, putS, partsOf, fillS, fieldOf, nthA, negIf, nilq, nilB, eqS, eqF, eqS1, andP, kin, slcS, strOk, plusA, bndHi, leN, optG, roH, roL, initT, exOk, exAll, wrAddr, Nat.reduceAdd, Nat.reduceSub, Nat.reduceMul, Int.reduceToNat, List.append_nil, List.nil_append, List.cons_append, eqT, idxT, cat, cpy, ite_int, ite_bool, ite_seg, ite_segs, ite_nil, ite_twice, Int.toNat_natCast, app, addBs, tob])); (repeat (first | (refine And.intro ?_ ?_; · first | trivial | assumption | omega))); with_reducible refine hK _ ?_; clear hK K)
    | refine run_ret ?_
    | refine run_nil ?_)
    refine end_of ⟨[⟨2, [], .c (.fn 99 [] [⟨1, 0, 0, 0⟩])⟩], ⟨2, [(1, slB 0 m true)]⟩⟩ (LeS.intro [0, 1] (fun i h => by match i, h with | 0, _ => rfl) (by simp only [diff, notIn, Nat.beq, and_self]) rfl ?_ ?_) ⟨rfl, rfl⟩
    · simp only [slotsLe, slotAt, Nat.beq, leV, leV1, leC, leAL, leA, nthO, and_self]
    · simp only [leBlks, nthO, getB, Nat.beq]
      exact ⟨⟨rfl, rfl, id, Nat.le_refl _, fun _ _ => by simp only [slB, leSegs, leSeg, leC, leA, nthO, and_self]⟩, trivial⟩
  refine (h0.frame (H := ⟨n, X⟩) [j] rfl ⟨trivial, trivial⟩ ⟨hj, trivial⟩ hkl trivial (by simp only [leArgs, leV, leV1, leC, leA, nthO, and_self])).weaken ?_
  rintro v H' ⟨v0, H0', ⟨rfl, rfl⟩, rfl, rfl⟩
  refine ⟨rfl, ?_⟩
  simp only [framed, dropB_none (l := [j]) (H0 := []) (fun _ => rfl)]
  rfl
theorem end_kindQ {l : List Slot} {H : Heap} {R : Post} (w : ByteArray) (r i o : Bool) (u : Int) (d e a : Bool) (t : Int) (ok : Bool) (hsl : slotAt l 2 = some ⟨2, [], .c (.ptr ⟨0, 0, 0, 0⟩)⟩) (hok : slotAt l 3 = some ⟨3, [], .c (.bool ok)⟩) (hb : getB H.blks 0 = some (kindB (kindL w r i o u d e a (.fn 98 [] [⟨1, 0, 0, 0⟩])))) (hx : getB H.blks 1 = some (boxW t))
    (hR : R (kindV (kindL w r i o u d e a (.fn 98 [] [⟨0, 0, 0, 0⟩])) ok) ⟨2, [(1, kindB (kindL w r i o u d e a (.fn 98 [] [⟨0, 0, 0, 0⟩]))), (0, boxW t)]⟩) : endQ (LeS 0) [.cn 9 2, .tmp 3] R .ret ⟨l, H⟩ := by
  refine end_of ⟨[⟨2, [], .c (.ptr ⟨1, 0, 0, 0⟩)⟩, ⟨3, [], .c (.bool ok)⟩], ⟨2, [(1, kindB (kindL w r i o u d e a (.fn 98 [] [⟨0, 0, 0, 0⟩]))), (0, boxW t)]⟩⟩ (LeS.intro [1, 0] (fun i h => absurd h (Nat.not_lt_zero i)) (by simp only [diff, notIn, Nat.beq, and_self]) rfl (by simp only [slotsLe, hsl, hok, leV, leV1, leC, leA, nthO, and_self]) ?_) ?_
  · simp only [leBlks, nthO, hb, hx]
    exact ⟨⟨rfl, rfl, id, Nat.le_refl _, fun _ _ => by simp only [kindB, kindL, leSegs, leSeg, leC, leAL, leA, nthO, and_self]⟩, ⟨rfl, rfl, id, Nat.le_refl _, fun _ _ => by simp only [boxW, leSegs, leSeg, leC, and_self]⟩, trivial⟩
  · simp only [endF, resL, resA, St.get, slotAt, Nat.beq, sfx, eqP, ldn, getB, kindB, kindL, rowNeed, cut, dropS, takeS, Seg.size, nsub, noTup, resV]
    exact hR
theorem frame_kindQ (w : ByteArray) (r i o : Bool) (u : Int) (d e a : Bool) (t : Int) (ok : Bool) {m : FuncId} {args : List AV} (h : Con Try.prog m args ⟨0, []⟩ fun v H' => v = kindV (kindL w r i o u d e a (.fn 98 [] [⟨0, 0, 0, 0⟩])) ok ∧ H' = ⟨2, [(1, kindB (kindL w r i o u d e a (.fn 98 [] [⟨0, 0, 0, 0⟩]))), (0, boxW t)]⟩) (ha : leArgs [] args args) (n : Nat) (X : List (Nat × Blk)) (hkl : keysLt X n) : Con Try.prog m args ⟨n, X⟩ fun v H' => v = kindV (kindL w r i o u d e a (.fn 98 [] [⟨n, 0, 0, 0⟩])) ok ∧ H' = addBs ⟨n, X⟩ [boxW t] := by
  have h1 : Con Try.prog m args ⟨0, []⟩ fun v H' => v = kindV (kindL w r i o u d e a (.fn 98 [] [⟨0, 0, 0, 0⟩])) ok ∧ H' = ⟨1, [(0, boxW t)]⟩ := by
    refine Con.forget h ?_
    rintro v H' ⟨rfl, rfl⟩
    exact ⟨_, ⟨1, [(0, boxW t)]⟩, [0], fun i h => absurd h (Nat.not_lt_zero i), ⟨trivial, trivial⟩, rfl, ⟨⟨rfl, rfl, id, Nat.le_refl _, fun _ _ => by simp only [boxW, leSegs, leSeg, leC, and_self]⟩, trivial⟩, by simp only [kindV, kindL, leV, leV1, leVL, leC, leSegs, leSeg, leAL, leA, nthO, and_self], rfl, rfl⟩
  refine (h1.frame (H := ⟨n, X⟩) [] rfl trivial trivial hkl trivial ha).weaken ?_
  rintro v H' ⟨v0, H0', ⟨rfl, rfl⟩, rfl, rfl⟩
  refine ⟨rfl, ?_⟩
  simp only [framed, dropB_none (l := []) (H0 := []) (fun _ => rfl)]
  rfl
set_option maxHeartbeats 8000000 in
theorem kind_Q (k : Int) (w : ByteArray) (r i o : Bool) (u : Int) (d e a : Bool) (t : Int) (hk : (k = 2 ∧ w = ⟨#[103, 101, 116, 120]⟩ ∧ r = true ∧ i = false ∧ o = false ∧ u = 0 ∧ d = true ∧ e = false ∧ a = false ∧ t = 30) ∨ (k = 3 ∧ w = ⟨#[115, 101, 116, 120]⟩ ∧ r = true ∧ i = false ∧ o = false ∧ u = 1 ∧ d = false ∧ e = false ∧ a = false ∧ t = 30) ∨ (k = 6 ∧ w = ⟨#[103, 101, 116, 102]⟩ ∧ r = true ∧ i = false ∧ o = false ∧ u = 0 ∧ d = true ∧ e = false ∧ a = false ∧ t = 3) ∨ (k = 7 ∧ w = ⟨#[115, 101, 116, 102]⟩ ∧ r = true ∧ i = false ∧ o = false ∧ u = 1 ∧ d = false ∧ e = false ∧ a = false ∧ t = 3)) (n : Nat) (X : List (Nat × Blk)) (hkl : keysLt X n) : Con Try.prog 46 [.c (.int .i64 k)] ⟨n, X⟩ (fun v H' => v = kindV (kindL w r i o u d e a (.fn 98 [] [⟨n, 0, 0, 0⟩])) true ∧ H' = addBs ⟨n, X⟩ [boxW t]) := by
  refine frame_kindQ _ _ _ _ _ _ _ _ _ _ ?_ (by simp only [leArgs, leV, leV1, leC, and_self]) n X hkl
  rcases hk with ⟨rfl, rfl, rfl, rfl, rfl, rfl, rfl, rfl, rfl, rfl⟩ | ⟨rfl, rfl, rfl, rfl, rfl, rfl, rfl, rfl, rfl, rfl⟩ | ⟨rfl, rfl, rfl, rfl, rfl, rfl, rfl, rfl, rfl, rfl⟩ | ⟨rfl, rfl, rfl, rfl, rfl, rfl, rfl, rfl, rfl, rfl⟩
  all_goals
    (refine con_of_run mixed (fn := Try.f46) (by kernel_rfl) (by kernel_rfl) C46_ok (rs := [.cn 9 2, .tmp 3]) (by kernel_rfl) (Nat.le_of_ble_eq_true (by kernel_rfl)) ?_; unfold C46; simp only [initT, Nat.reduceAdd])
    repeat' (first
    | refine run_seq ?_
    | refine run_skip ?_
    | (refine run_region fun K hK => ?_; (try (simp (maxSteps := 10000000) only [Int.reduceBEq, partsOf, fillS, C46r0, C46r1, C46r2, C46r3, C46r4, C46r5, C46r6, C46r7, C46r8, C46r9, C46r10, C46r11, C46r12, C46r13, C46r14, C46r15, C46r16, C46r17, C46r18, C46r19, C46r20, C46r21, C46r22, C46r23, C46r24, C46r25, C46r26, C46r27, C46r28, C46r29, C46r30, C46r31, C46r32, C46r33, C46r34, C46r35, C46r36, C46r37, C46r38, rwp_nil, rwp_cons, rwpK_app, aop, gpath, St.get, slotAt, sfx, eqP, segsOf, St.put, addBlk, getB, setB, delB, ld1, ldn, st1, stn, setRow, rowNeed, segAt, nsub, bin, un, eqB, isShift, sameK, arith, shiftR, getsl, selB_or, selB_and, beqb, shed, addN, Nat.beq, Seg.size, sizes, imp, needP, andN, appL, argsOf, ptrsOf, aasOf, cut, takeS, dropS, putS, partsOf, fillS, fieldOf, nthA, negIf, nilq, nilB, eqS, eqF, eqS1, andP, kin, slcS, strOk, plusA, bndHi, leN, optG, roH, roL, initT, exOk, exAll, wrAddr, Nat.reduceAdd, Nat.reduceSub, Nat.reduceMul, Int.reduceToNat, List.append_nil, List.nil_append, List.cons_append, eqT, idxT, cat, cpy, ite_int, ite_bool, ite_seg, ite_segs, ite_nil, ite_twice, Int.toNat_natCast, app, addBs, tob])); (repeat (first | (refine And.intro ?_ ?_; · first | trivial | assumption | omega) | ((first | (refine call_t _ (con67 _ _ _ (by simp [roL, keysLt, boxW])) ?_; rintro v H' ⟨rfl, rfl⟩) | refine call_q _ (con67 _ _ _ (by simp [roL, keysLt, boxW])) ?_ | refine call_g _ (imp_of (con67 _ _ _ (by simp [roL, keysLt, boxW]))) ?_); simp (maxSteps := 10000000) only [Int.reduceBEq, partsOf, fillS, C46r0, C46r1, C46r2, C46r3, C46r4, C46r5, C46r6, C46r7, C46r8, C46r9, C46r10, C46r11, C46r12, C46r13, C46r14, C46r15, C46r16, C46r17, C46r18, C46r19, C46r20, C46r21, C46r22, C46r23, C46r24, C46r25, C46r26, C46r27, C46r28, C46r29, C46r30, C46r31, C46r32, C46r33, C46r34, C46r35, C46r36, C46r37, C46r38, rwp_nil, rwp_cons, rwpK_app, aop, gpath, St.get, slotAt, sfx, eqP, segsOf, St.put, addBlk, getB, setB, delB, ld1, ldn, st1, stn, setRow, rowNeed, segAt, nsub, bin, un, eqB, isShift, sameK, arith, shiftR, getsl, selB_or, selB_and, beqb, shed, addN, Nat.beq, Seg.size, sizes, imp, needP, andN, appL, argsOf, ptrsOf, aasOf, cut, takeS, dropS, putS, partsOf, fillS, fieldOf, nthA, negIf, nilq, nilB, eqS, eqF, eqS1, andP, kin, slcS, strOk, plusA, bndHi, leN, optG, roH, roL, initT, exOk, exAll, wrAddr, Nat.reduceAdd, Nat.reduceSub, Nat.reduceMul, Int.reduceToNat, List.append_nil, List.nil_append, List.cons_append, eqT, idxT, cat, cpy, ite_int, ite_bool, ite_seg, ite_segs, ite_nil, ite_twice, Int.toNat_natCast, app, addBs, tob]))); with_reducible refine hK _ ?_; clear hK K)
    | (refine run_cond rfl (fun hc => ?_) (fun hc => ?_) <;> try (simp only [*, Bool.true_eq_false, Bool.false_eq_true, Bool.not_true, Bool.not_false, Bool.true_or, Bool.or_true, Bool.false_or, Bool.or_false, Bool.false_and, Bool.and_false, bne_self_eq_false, beq_self_eq_true] at hc; done))
    | refine run_block ?_
    | refine run_ret ?_
    | refine run_nil ?_
    | refine blk_normal ?_
    | refine blk_ret ?_
    | refine blk_here ?_
    | refine blk_there rfl ?_)
    exact end_kindQ _ _ _ _ _ _ _ _ _ true rfl rfl rfl rfl ⟨rfl, rfl⟩
def ordF (f1 f2 : Int) : Nat → Int
  | 0 => 0
  | 1 => f1
  | _ => f2
def intsW (m : Nat) (f : Nat → Int) : Blk := ⟨1, some m, fun i => [.c (.int .i64 (f i))], 3, true⟩
theorem rows2 (f1 f2 : Int) (i : Nat) (hi : i < 2) : cutD [Seg.c (.int .i64 0), Seg.c (.int .i64 f1)] (i * 1) 1 = [Seg.c (.int .i64 (ordF f1 f2 i))] := by
  match i, hi with
  | 0, _ => rfl
  | 1, _ => rfl
theorem rows3 (f1 f2 : Int) (i : Nat) (hi : i < 3) : cutD [Seg.c (.int .i64 0), Seg.c (.int .i64 f1), Seg.c (.int .i64 f2)] (i * 1) 1 = [Seg.c (.int .i64 (ordF f1 f2 i))] := by
  match i, hi with
  | 0, _ => rfl
  | 1, _ => rfl
  | 2, _ => rfl
theorem end_kindS {l : List Slot} {H : Heap} {R : Post} (w : ByteArray) (r i o : Bool) (u : Int) (d e a : Bool) (m : Nat) (f : Nat → Int) (row : Nat → List Seg) (ok : Bool) (hsl : slotAt l 2 = some ⟨2, [], .c (.ptr ⟨0, 0, 0, 0⟩)⟩) (hok : slotAt l 3 = some ⟨3, [], .c (.bool ok)⟩) (hb : getB H.blks 0 = some (kindB (kindL w r i o u d e a (.fn 99 [] [⟨2, 0, 0, 0⟩])))) (hx : getB H.blks 1 = some ⟨1, some m, row, 3, true⟩) (hy : getB H.blks 2 = some (slB 1 m true)) (hrow : ∀ i, i < m → row i = [.c (.int .i64 (f i))])
    (hR : R (kindV (kindL w r i o u d e a (.fn 99 [] [⟨1, 0, 0, 0⟩])) ok) ⟨3, [(2, kindB (kindL w r i o u d e a (.fn 99 [] [⟨1, 0, 0, 0⟩]))), (1, slB 0 m true), (0, intsW m f)]⟩) : endQ (LeS 0) [.cn 9 2, .tmp 3] R .ret ⟨l, H⟩ := by
  refine end_of ⟨[⟨2, [], .c (.ptr ⟨2, 0, 0, 0⟩)⟩, ⟨3, [], .c (.bool ok)⟩], ⟨3, [(2, kindB (kindL w r i o u d e a (.fn 99 [] [⟨1, 0, 0, 0⟩]))), (1, slB 0 m true), (0, intsW m f)]⟩⟩ (LeS.intro [1, 2, 0] (fun i h => absurd h (Nat.not_lt_zero i)) (by simp only [diff, notIn, Nat.beq, and_self]) rfl (by simp only [slotsLe, hsl, hok, leV, leV1, leC, leA, nthO, and_self]) ?_) ?_
  · simp only [leBlks, nthO, hb, hx, hy]
    exact ⟨⟨rfl, rfl, id, Nat.le_refl _, fun _ _ => by simp only [kindB, kindL, leSegs, leSeg, leC, leAL, leA, nthO, and_self]⟩, ⟨rfl, rfl, id, Nat.le_refl _, fun _ _ => by simp only [slB, leSegs, leSeg, leC, leA, nthO, and_self]⟩, ⟨rfl, rfl, id, Nat.le_refl _, fun i hi => by show leSegs _ (row i) _; rw [hrow i hi]; simp only [intsW, leSegs, leSeg, leC, and_self]⟩, trivial⟩
  · simp only [endF, resL, resA, St.get, slotAt, Nat.beq, sfx, eqP, ldn, getB, kindB, kindL, rowNeed, cut, dropS, takeS, Seg.size, nsub, noTup, resV]
    exact hR
theorem frame_kindS (w : ByteArray) (r i o : Bool) (u : Int) (d e a : Bool) (c : Nat) (f : Nat → Int) (ok : Bool) {m : FuncId} {args : List AV} (h : Con Try.prog m args ⟨0, []⟩ fun v H' => v = kindV (kindL w r i o u d e a (.fn 99 [] [⟨1, 0, 0, 0⟩])) ok ∧ H' = ⟨3, [(2, kindB (kindL w r i o u d e a (.fn 99 [] [⟨1, 0, 0, 0⟩]))), (1, slB 0 c true), (0, intsW c f)]⟩) (ha : leArgs [] args args) (n : Nat) (X : List (Nat × Blk)) (hkl : keysLt X n) : Con Try.prog m args ⟨n, X⟩ fun v H' => v = kindV (kindL w r i o u d e a (.fn 99 [] [⟨n + 1, 0, 0, 0⟩])) ok ∧ H' = addBs ⟨n, X⟩ [intsW c f, slB n c true] := by
  have h1 : Con Try.prog m args ⟨0, []⟩ fun v H' => v = kindV (kindL w r i o u d e a (.fn 99 [] [⟨1, 0, 0, 0⟩])) ok ∧ H' = ⟨2, [(1, slB 0 c true), (0, intsW c f)]⟩ := by
    refine Con.forget h ?_
    rintro v H' ⟨rfl, rfl⟩
    exact ⟨_, ⟨2, [(1, slB 0 c true), (0, intsW c f)]⟩, [0, 1], fun i h => absurd h (Nat.not_lt_zero i), by simp only [diff, notIn, Nat.beq, and_self], rfl, ⟨⟨rfl, rfl, id, Nat.le_refl _, fun _ _ => by simp only [slB, leSegs, leSeg, leC, leA, nthO, and_self]⟩, ⟨rfl, rfl, id, Nat.le_refl _, fun _ _ => by simp only [intsW, leSegs, leSeg, leC, and_self]⟩, trivial⟩, by simp only [kindV, kindL, leV, leV1, leVL, leC, leSegs, leSeg, leAL, leA, nthO, and_self], rfl, rfl⟩
  refine (h1.frame (H := ⟨n, X⟩) [] rfl trivial trivial hkl trivial ha).weaken ?_
  rintro v H' ⟨v0, H0', ⟨rfl, rfl⟩, rfl, rfl⟩
  refine ⟨rfl, ?_⟩
  simp only [framed, dropB_none (l := []) (H0 := []) (fun _ => rfl)]
  rfl
set_option maxHeartbeats 8000000 in
theorem kind_S (k : Int) (w : ByteArray) (r i o : Bool) (u : Int) (d e a : Bool) (c : Nat) (f1 f2 : Int) (hk : (k = 9 ∧ w = ⟨#[108, 111, 97, 100]⟩ ∧ r = false ∧ i = false ∧ o = true ∧ u = 1 ∧ d = true ∧ e = false ∧ a = true ∧ c = 3 ∧ f1 = 1 ∧ f2 = 2) ∨ (k = 10 ∧ w = ⟨#[115, 116, 111, 114, 101]⟩ ∧ r = false ∧ i = false ∧ o = true ∧ u = 2 ∧ d = false ∧ e = false ∧ a = true ∧ c = 2 ∧ f1 = 4 ∧ f2 = 0) ∨ (k = 11 ∧ w = ⟨#[108, 111, 97, 100, 101, 120]⟩ ∧ r = false ∧ i = false ∧ o = true ∧ u = 1 ∧ d = true ∧ e = false ∧ a = true ∧ c = 2 ∧ f1 = 2 ∧ f2 = 0) ∨ (k = 12 ∧ w = ⟨#[115, 116, 111, 114, 101, 101, 120]⟩ ∧ r = false ∧ i = false ∧ o = true ∧ u = 2 ∧ d = true ∧ e = false ∧ a = true ∧ c = 2 ∧ f1 = 4 ∧ f2 = 0)) (n : Nat) (X : List (Nat × Blk)) (hkl : keysLt X n) : Con Try.prog 46 [.c (.int .i64 k)] ⟨n, X⟩ (fun v H' => v = kindV (kindL w r i o u d e a (.fn 99 [] [⟨n + 1, 0, 0, 0⟩])) true ∧ H' = addBs ⟨n, X⟩ [intsW c (ordF f1 f2), slB n c true]) := by
  refine frame_kindS _ _ _ _ _ _ _ _ _ _ _ ?_ (by simp only [leArgs, leV, leV1, leC, and_self]) n X hkl
  rcases hk with ⟨rfl, rfl, rfl, rfl, rfl, rfl, rfl, rfl, rfl, rfl, rfl, rfl⟩ | ⟨rfl, rfl, rfl, rfl, rfl, rfl, rfl, rfl, rfl, rfl, rfl, rfl⟩ | ⟨rfl, rfl, rfl, rfl, rfl, rfl, rfl, rfl, rfl, rfl, rfl, rfl⟩ | ⟨rfl, rfl, rfl, rfl, rfl, rfl, rfl, rfl, rfl, rfl, rfl, rfl⟩
  all_goals
    (refine con_of_run mixed (fn := Try.f46) (by kernel_rfl) (by kernel_rfl) C46_ok (rs := [.cn 9 2, .tmp 3]) (by kernel_rfl) (Nat.le_of_ble_eq_true (by kernel_rfl)) ?_; unfold C46; simp only [initT, Nat.reduceAdd])
    repeat' (first
    | refine run_seq ?_
    | refine run_skip ?_
    | (refine run_region fun K hK => ?_; (try (simp (maxSteps := 10000000) only [Int.reduceBEq, partsOf, fillS, repl, rowsFit, rowFn, cutD, C46r0, C46r1, C46r2, C46r3, C46r4, C46r5, C46r6, C46r7, C46r8, C46r9, C46r10, C46r11, C46r12, C46r13, C46r14, C46r15, C46r16, C46r17, C46r18, C46r19, C46r20, C46r21, C46r22, C46r23, C46r24, C46r25, C46r26, C46r27, C46r28, C46r29, C46r30, C46r31, C46r32, C46r33, C46r34, C46r35, C46r36, C46r37, C46r38, rwp_nil, rwp_cons, rwpK_app, aop, gpath, St.get, slotAt, sfx, eqP, segsOf, St.put, addBlk, getB, setB, delB, ld1, ldn, st1, stn, setRow, rowNeed, segAt, nsub, bin, un, eqB, isShift, sameK, arith, shiftR, getsl, selB_or, selB_and, beqb, shed, addN, Nat.beq, Seg.size, sizes, imp, needP, andN, appL, argsOf, ptrsOf, aasOf, cut, takeS, dropS, putS, partsOf, fillS, fieldOf, nthA, negIf, nilq, nilB, eqS, eqF, eqS1, andP, kin, slcS, strOk, plusA, bndHi, leN, optG, roH, roL, initT, exOk, exAll, wrAddr, Nat.reduceAdd, Nat.reduceSub, Nat.reduceMul, Int.reduceToNat, List.append_nil, List.nil_append, List.cons_append, eqT, idxT, cat, cpy, ite_int, ite_bool, ite_seg, ite_segs, ite_nil, ite_twice, Int.toNat_natCast, app, addBs, tob])); (repeat (first | (refine And.intro ?_ ?_; · first | trivial | assumption | omega) | ((first | (refine call_t _ (con69 _ 1 _ _ (by decide) (by simp [roL, keysLt, boxW])) ?_; rintro v H' ⟨rfl, rfl⟩) | refine call_q _ (con69 _ 1 _ _ (by decide) (by simp [roL, keysLt, boxW])) ?_ | refine call_g _ (imp_of (con69 _ 1 _ _ (by decide) (by simp [roL, keysLt, boxW]))) ?_); simp (maxSteps := 10000000) only [Int.reduceBEq, partsOf, fillS, repl, rowsFit, rowFn, cutD, C46r0, C46r1, C46r2, C46r3, C46r4, C46r5, C46r6, C46r7, C46r8, C46r9, C46r10, C46r11, C46r12, C46r13, C46r14, C46r15, C46r16, C46r17, C46r18, C46r19, C46r20, C46r21, C46r22, C46r23, C46r24, C46r25, C46r26, C46r27, C46r28, C46r29, C46r30, C46r31, C46r32, C46r33, C46r34, C46r35, C46r36, C46r37, C46r38, rwp_nil, rwp_cons, rwpK_app, aop, gpath, St.get, slotAt, sfx, eqP, segsOf, St.put, addBlk, getB, setB, delB, ld1, ldn, st1, stn, setRow, rowNeed, segAt, nsub, bin, un, eqB, isShift, sameK, arith, shiftR, getsl, selB_or, selB_and, beqb, shed, addN, Nat.beq, Seg.size, sizes, imp, needP, andN, appL, argsOf, ptrsOf, aasOf, cut, takeS, dropS, putS, partsOf, fillS, fieldOf, nthA, negIf, nilq, nilB, eqS, eqF, eqS1, andP, kin, slcS, strOk, plusA, bndHi, leN, optG, roH, roL, initT, exOk, exAll, wrAddr, Nat.reduceAdd, Nat.reduceSub, Nat.reduceMul, Int.reduceToNat, List.append_nil, List.nil_append, List.cons_append, eqT, idxT, cat, cpy, ite_int, ite_bool, ite_seg, ite_segs, ite_nil, ite_twice, Int.toNat_natCast, app, addBs, tob]))); with_reducible refine hK _ ?_; clear hK K)
    | (refine run_cond rfl (fun hc => ?_) (fun hc => ?_) <;> try (simp only [*, Bool.true_eq_false, Bool.false_eq_true, Bool.not_true, Bool.not_false, Bool.true_or, Bool.or_true, Bool.false_or, Bool.or_false, Bool.false_and, Bool.and_false, bne_self_eq_false, beq_self_eq_true] at hc; done))
    | refine run_block ?_
    | refine run_ret ?_
    | refine run_nil ?_
    | refine blk_normal ?_
    | refine blk_ret ?_
    | refine blk_here ?_
    | refine blk_there rfl ?_)
    first | exact end_kindS _ _ _ _ _ _ _ _ 2 _ _ true rfl rfl rfl rfl rfl (rows2 _ _) ⟨rfl, rfl⟩ | exact end_kindS _ _ _ _ _ _ _ _ 3 _ _ true rfl rfl rfl rfl rfl (rows3 _ _) ⟨rfl, rfl⟩
def noKind (k : Int) : Prop := (k == 1) = false ∧ (k == 2) = false ∧ (k == 3) = false ∧ (k == 4) = false ∧ (k == 5) = false ∧ (k == 6) = false ∧ (k == 7) = false ∧ (k == 8) = false ∧ (k == 9) = false ∧ (k == 10) = false ∧ (k == 11) = false ∧ (k == 12) = false ∧ (k == 13) = false ∧ (k == 14) = false ∧ (k == 15) = false ∧ (k == 16) = false ∧ (k == 17) = false ∧ (k == 18) = false
theorem forget_noKind {n : FuncId} {args : List AV} (h : Con Try.prog n args ⟨0, []⟩ fun v H' => v = kindV (kindL ⟨#[]⟩ false false false 0 false false false .nilfn) false ∧ H' = ⟨1, [(0, kindB (kindL ⟨#[]⟩ false false false 0 false false false .nilfn))]⟩) (ha : leArgs [] args args) (H : Heap) : Con Try.prog n args H fun v H' => v = kindV (kindL ⟨#[]⟩ false false false 0 false false false .nilfn) false ∧ H' = H := by
  refine Con.pure (Con.forget h ?_) ha rfl H
  rintro v H' ⟨rfl, rfl⟩
  exact ⟨_, ⟨0, []⟩, [], fun i h => absurd h (Nat.not_lt_zero i), trivial, rfl, trivial, by simp only [kindV, kindL, leV, leV1, leVL, leC, leSegs, leSeg, leAL, and_self], rfl, rfl⟩
theorem end_noKind {l : List Slot} {H : Heap} {R : Post} {n : Nat} (hsl : slotAt l 2 = some ⟨2, [], .c (.ptr ⟨n, 0, 0, 0⟩)⟩) (hok : slotAt l 3 = some ⟨3, [], .c (.bool false)⟩) (hb : getB H.blks n = some (kindB (kindL ⟨#[]⟩ false false false 0 false false false .nilfn)))
    (hR : R (kindV (kindL ⟨#[]⟩ false false false 0 false false false .nilfn) false) ⟨1, [(0, kindB (kindL ⟨#[]⟩ false false false 0 false false false .nilfn))]⟩) : endQ (LeS 0) [.cn 9 2, .tmp 3] R .ret ⟨l, H⟩ := by
  refine end_of ⟨[⟨2, [], .c (.ptr ⟨0, 0, 0, 0⟩)⟩, ⟨3, [], .c (.bool false)⟩], ⟨1, [(0, kindB (kindL ⟨#[]⟩ false false false 0 false false false .nilfn))]⟩⟩ (LeS.intro [n] (fun i h => absurd h (Nat.not_lt_zero i)) (by simp only [diff, notIn, and_self]) rfl (by simp only [slotsLe, hsl, hok, leV, leV1, leC, leA, nthO, and_self]) ?_) ?_
  · simp only [leBlks, nthO, hb]
    exact ⟨⟨rfl, rfl, id, Nat.le_refl _, fun _ _ => by simp only [kindB, kindL, leSegs, leSeg, leC, leAL, and_self]⟩, trivial⟩
  · simp only [endF, resL, resA, St.get, slotAt, Nat.beq, sfx, eqP, ldn, getB, kindB, kindL, rowNeed, cut, dropS, takeS, Seg.size, nsub, noTup, resV]
    exact hR
theorem kind_no (k : Int) (h : noKind k) (H : Heap) : Con Try.prog 46 [.c (.int .i64 k)] H (fun v H' => v = kindV (kindL ⟨#[]⟩ false false false 0 false false false .nilfn) false ∧ H' = H) := by
  refine forget_noKind ?_ (by simp only [leArgs, leV, leV1, leC, and_self]) H
  unfold noKind at h
  (refine con_of_run mixed (fn := Try.f46) (by kernel_rfl) (by kernel_rfl) C46_ok (rs := [.cn 9 2, .tmp 3]) (by kernel_rfl) (Nat.le_of_ble_eq_true (by kernel_rfl)) ?_; unfold C46; simp only [initT, Nat.reduceAdd])
  repeat' (first
    | refine run_seq ?_
    | refine run_skip ?_
    | (refine run_region fun K hK => ?_; (try (simp (maxSteps := 10000000) only [h, partsOf, fillS, C46r0, C46r1, C46r2, C46r3, C46r4, C46r5, C46r6, C46r7, C46r8, C46r9, C46r10, C46r11, C46r12, C46r13, C46r14, C46r15, C46r16, C46r17, C46r18, C46r19, C46r20, C46r21, C46r22, C46r23, C46r24, C46r25, C46r26, C46r27, C46r28, C46r29, C46r30, C46r31, C46r32, C46r33, C46r34, C46r35, C46r36, C46r37, C46r38, rwp_nil, rwp_cons, rwpK_app, aop, gpath, St.get, slotAt, sfx, eqP, segsOf, St.put, addBlk, getB, setB, delB, ld1, ldn, st1, stn, setRow, rowNeed, segAt, nsub, bin, un, eqB, isShift, sameK, arith, shiftR, getsl, selB_or, selB_and, beqb, shed, addN, Nat.beq, Seg.size, sizes, imp, needP, andN, appL, argsOf, ptrsOf, aasOf, cut, takeS, dropS, putS, partsOf, fillS, fieldOf, nthA, negIf, nilq, nilB, eqS, eqF, eqS1, andP, kin, slcS, strOk, plusA, bndHi, leN, optG, roH, roL, initT, exOk, exAll, wrAddr, Nat.reduceAdd, Nat.reduceSub, Nat.reduceMul, Int.reduceToNat, List.append_nil, List.nil_append, List.cons_append, eqT, idxT, cat, cpy, ite_int, ite_bool, ite_seg, ite_segs, ite_nil, ite_twice, Int.toNat_natCast, app, addBs, tob])); (repeat (first | (refine And.intro ?_ ?_; · first | trivial | assumption | omega))); with_reducible refine hK _ ?_; clear hK K)
    | (refine run_cond rfl (fun hc => ?_) (fun hc => ?_) <;> try (simp only [*, Bool.true_eq_false, Bool.false_eq_true, Bool.not_true, Bool.not_false, Bool.true_or, Bool.or_true, Bool.false_or, Bool.or_false, Bool.false_and, Bool.and_false, bne_self_eq_false, beq_self_eq_true] at hc; done))
    | refine run_block ?_
    | refine run_ret ?_
    | refine run_nil ?_
    | refine blk_normal ?_
    | refine blk_ret ?_
    | refine blk_here ?_
    | refine blk_there rfl ?_)
  exact end_noKind rfl rfl rfl ⟨rfl, rfl⟩
end Go.Proofs.Ytmbnakinhnkabaa
