/- ir: closures of kinds; kindOf where it makes them. -/
import Derived.Test.YtmbnakinhnkabaaDa
namespace Go.Proofs.Ytmbnakinhnkabaa
open Go.AM
set_option maxRecDepth 100000
set_option linter.unusedSimpArgs false
set_option linter.unusedVariables false
def opB (o : OpS) : Blk := ⟨6, none, fun _ => opL o, 39, true⟩
theorem op_le {l : List Nat} (o : OpS) : leB l (opB o) (opB o) := ⟨rfl, rfl, id, Nat.le_refl _, fun _ _ => by simp only [opB, opL, leSegs, leSeg, leC, and_self]⟩
def boxR (v : Int) : Blk := ⟨1, none, fun _ => [.c (.int .i64 v)], 3, false⟩
theorem box_le {l : List Nat} (v : Int) (w : Bool) : leB l ⟨1, none, fun _ => [.c (.int .i64 v)], 3, w⟩ (boxR v) := ⟨rfl, rfl, fun h => (by cases h), Nat.le_refl _, fun _ _ => ⟨⟨rfl, rfl⟩, trivial⟩⟩
def upS (a : Int) (o : OpS) : Bool := decide (o.r ≥ 0) && decide (o.r ≤ a)
theorem con98 (a : Int) (o : OpS) : Con Try.prog 98 [.agg (opL o), .c (.ptr ⟨0, 0, 0, 0⟩)] ⟨1, [(0, boxR a)]⟩ (fun v H' => v = .c (.bool (upS a o)) ∧ H' = ⟨1, [(0, boxR a)]⟩) := by
  (refine con_of_run mixed (fn := Try.f98) (by kernel_rfl) (by kernel_rfl) C98_ok (rs := [.tmp 3]) (by kernel_rfl) (Nat.le_of_ble_eq_true (by kernel_rfl)) ?_; unfold C98; simp only [initT, Nat.reduceAdd])
  generalize hR : (fun (v : AV) (H' : Heap) => v = AV.c (.bool (upS a o)) ∧ H' = ⟨1, [(0, boxR a)]⟩) = R
  simp only [boxR]
  repeat' (first
    | refine run_seq ?_
    | (refine run_region fun K hK => ?_; (try (simp (maxSteps := 10000000) only [opL, C98r0, C98r1, rwp_nil, rwp_cons, rwpK_app, aop, gpath, St.get, slotAt, sfx, eqP, segsOf, St.put, addBlk, getB, setB, delB, ld1, ldn, st1, stn, setRow, rowNeed, segAt, nsub, bin, un, eqB, isShift, sameK, arith, shiftR, getsl, selB_or, selB_and, beqb, shed, addN, Nat.beq, Seg.size, sizes, imp, needP, andN, appL, argsOf, ptrsOf, aasOf, cut, takeS, dropS, putS, partsOf, fillS, fieldOf, nthA, negIf, nilq, nilB, eqS, eqF, eqS1, andP, kin, slcS, strOk, plusA, bndHi, leN, optG, roH, roL, initT, exOk, exAll, wrAddr, Nat.reduceAdd, Nat.reduceSub, Nat.reduceMul, Int.reduceToNat, List.append_nil, List.nil_append, List.cons_append, eqT, idxT, cat, cpy, ite_int, ite_bool, ite_seg, ite_segs, ite_nil, ite_twice, Int.toNat_natCast, app, addBs, tob])); (repeat (first | (refine And.intro ?_ ?_; · (first | decide | trivial | (intros; first | decide | trivial))))); with_reducible refine hK _ ?_; clear hK K)
    | refine run_ret ?_
    | refine run_nil ?_)
  subst hR
  exact end_of ⟨[⟨3, [], .c (.bool (upS a o))⟩], ⟨1, [(0, boxR a)]⟩⟩ (LeS.intro [0] idt1 (by simp only [diff, notIn, Nat.beq, and_self]) rfl ⟨rfl, trivial⟩ ⟨box_le _ _, trivial⟩) ⟨rfl, rfl⟩
theorem con98_at (a : Int) (o : OpS) (j n : Nat) (X : List (Nat × Blk)) (w : Bool) (hj : getB X j = some ⟨1, none, fun _ => [.c (.int .i64 a)], 3, w⟩) (hlt : j < n) (hkl : keysLt X n) : Con Try.prog 98 [.agg (opL o), .c (.ptr ⟨j, 0, 0, 0⟩)] ⟨n, X⟩ (fun v H' => v = .c (.bool (upS a o)) ∧ H' = ⟨n, X⟩) :=
  ro_gen (con98 a o) [j] n X rfl ⟨trivial, trivial⟩ ⟨hlt, trivial⟩ hkl (by simp only [leBlks, nthO, hj]; exact ⟨box_le a w, trivial⟩) (by simp only [leArgs, leV, leV1, opL, leSegs, leSeg, leC, leA, nthO, and_self]) rfl (fun _ => rfl) rfl rfl
def intsB (n : Nat) (f : Nat → Int) : Blk := ⟨1, some n, fun i => [.c (.int .i64 (f i))], 3, false⟩
theorem ints_le {l : List Nat} (n : Nat) (f : Nat → Int) (w : Bool) : leB l ⟨1, some n, fun i => [.c (.int .i64 (f i))], 3, w⟩ (intsB n f) := ⟨rfl, rfl, fun h => (by cases h), Nat.le_refl _, fun _ _ => ⟨⟨rfl, rfl⟩, trivial⟩⟩
def slB (a n : Nat) (w : Bool) : Blk := ⟨1, none, fun _ => [.c (.slice ⟨a, 0, 0, 0⟩ false n)], 59, w⟩
theorem sl_le {l : List Nat} (a n : Nat) (ha : nthO l a = some a) : leB l (slB a n false) (slB a n false) := ⟨rfl, rfl, id, Nat.le_refl _, fun _ _ => by simp only [slB, leSegs, leSeg, leC, leA, ha, and_self]⟩
def inB (f : Nat → Int) (v : Int) : Nat → Nat → Bool
  | 0, _ => false
  | m + 1, k => (v == f k) || inB f v m (k + 1)
def ordSt (n : Nat) (f : Nat → Int) (o : OpS) (k : Nat) : St := ⟨[⟨8, [], .c (.int .i64 k)⟩, ⟨7, [], .c (.int .i64 n)⟩, ⟨6, [], .c (.slice ⟨0, 0, 0, 0⟩ false n)⟩, ⟨2, [], .c (.ptr ⟨2, 0, 0, 0⟩)⟩], ⟨3, [(2, opB o), (1, slB 0 n false), (0, intsB n f)]⟩⟩
theorem con99 (n : Nat) (f : Nat → Int) (o : OpS) (hn : n < 1000) : Con Try.prog 99 [.agg (opL o), .c (.ptr ⟨1, 0, 0, 0⟩)] ⟨2, [(1, slB 0 n false), (0, intsB n f)]⟩ (fun v H' => v = .c (.bool (inB f o.order n 0)) ∧ H' = ⟨2, [(1, slB 0 n false), (0, intsB n f)]⟩) := by
  (refine con_of_run mixed (fn := Try.f99) (by kernel_rfl) (by kernel_rfl) C99_ok (rs := [.tmp 3]) (by kernel_rfl) (Nat.le_of_ble_eq_true (by kernel_rfl)) ?_; unfold C99; simp only [initT, Nat.reduceAdd])
  generalize hT : inB f o.order n 0 = T
  generalize hR : (fun (v : AV) (H' : Heap) => v = AV.c (.bool T) ∧ H' = ⟨2, [(1, slB 0 n false), (0, intsB n f)]⟩) = R
  have hend : ∀ (l : List Slot) (X : List (Nat × Blk)), slotAt l 3 = some ⟨3, [], .c (.bool T)⟩ → getB X 0 = some (intsB n f) → getB X 1 = some (slB 0 n false) → endQ (LeS 2) [.tmp 3] R .ret ⟨l, ⟨3, X⟩⟩ := by
    intro l X h3 h0 h1
    subst hR
    exact end_of ⟨[⟨3, [], .c (.bool T)⟩], ⟨2, [(1, slB 0 n false), (0, intsB n f)]⟩⟩ (LeS.intro [0, 1] idt2 (by simp only [diff, notIn, Nat.beq, and_self]) rfl (by simp only [slotsLe, h3, leV, leV1, leC, and_self]) (by simp only [leBlks, nthO, h0, h1]; exact ⟨sl_le 0 n rfl, ints_le n f _, trivial⟩)) ⟨rfl, rfl⟩
  simp only [slB]
  repeat' (first
    | refine run_seq ?_
    | refine run_skip ?_
    | (refine run_region fun K hK => ?_; (try (simp (maxSteps := 10000000) only [opL, C99r0, C99r2, C99r3, C99r4, C99r5, C99r6, C99r7, rwp_nil, rwp_cons, rwpK_app, aop, gpath, St.get, slotAt, sfx, eqP, segsOf, St.put, addBlk, getB, setB, delB, ld1, ldn, st1, stn, setRow, rowNeed, segAt, nsub, bin, un, eqB, isShift, sameK, arith, shiftR, getsl, selB_or, selB_and, beqb, shed, addN, Nat.beq, Seg.size, sizes, imp, needP, andN, appL, argsOf, ptrsOf, aasOf, cut, takeS, dropS, putS, partsOf, fillS, fieldOf, nthA, negIf, nilq, nilB, eqS, eqF, eqS1, andP, kin, slcS, strOk, plusA, bndHi, leN, optG, roH, roL, initT, exOk, exAll, wrAddr, Nat.reduceAdd, Nat.reduceSub, Nat.reduceMul, Int.reduceToNat, List.append_nil, List.nil_append, List.cons_append, eqT, idxT, cat, cpy, ite_int, ite_bool, ite_seg, ite_segs, ite_nil, ite_twice, Int.toNat_natCast, app, addBs, tob])); (repeat (first | (refine And.intro ?_ ?_; · decide))); with_reducible refine hK _ ?_; clear hK K)
    | (refine run_cond rfl (fun hc => ?_) (fun hc => ?_) <;> try (simp only [*, Bool.true_eq_false, Bool.false_eq_true, Bool.not_true, Bool.not_false, Bool.true_or, Bool.or_true, Bool.false_or, Bool.or_false, Bool.false_and, Bool.and_false, bne_self_eq_false, beq_self_eq_true] at hc; done))
    | refine run_block ?_
    | refine run_ret ?_
    | refine run_nil ?_
    | refine run_exit ?_
    | refine blk_normal ?_
    | refine blk_ret ?_
    | refine blk_here ?_
    | refine blk_there rfl ?_
    | refine loop_exit ?_
    | refine loop_ret ?_
    | refine un_exit ?_
    | refine un_ret ?_
    | refine unE_exit ?_
    | refine unE_ret ?_
    | refine un_normal ?_)
  (refine run_regionL fun K hK => ?_; (try (simp (maxSteps := 10000000) only [opL, C99r0, C99r1, C99r2, C99r3, C99r4, C99r5, C99r6, C99r7, rwp_nil, rwp_cons, rwpK_app, aop, gpath, St.get, slotAt, sfx, eqP, segsOf, St.put, addBlk, getB, setB, delB, ld1, ldn, st1, stn, setRow, rowNeed, segAt, nsub, bin, un, eqB, isShift, sameK, arith, shiftR, getsl, selB_or, selB_and, beqb, shed, addN, Nat.beq, Seg.size, sizes, imp, needP, andN, appL, argsOf, ptrsOf, aasOf, cut, takeS, dropS, putS, partsOf, fillS, fieldOf, nthA, negIf, nilq, nilB, eqS, eqF, eqS1, andP, kin, slcS, strOk, plusA, bndHi, leN, optG, roH, roL, initT, exOk, exAll, wrAddr, Nat.reduceAdd, Nat.reduceSub, Nat.reduceMul, Int.reduceToNat, List.append_nil, List.nil_append, List.cons_append, eqT, idxT, cat, cpy, ite_int, ite_bool, ite_seg, ite_segs, ite_nil, ite_twice, Int.toNat_natCast, app, addBs, tob])); (repeat (first | (refine And.intro ?_ ?_; · first | trivial | assumption | omega))); refine hK _ (ordSt n f o 0) ((LeS.intro [0, 1, 2] (fun i h => by match i, h with | 0, _ => rfl | 1, _ => rfl) (by simp only [diff, notIn, Nat.beq, and_self]) rfl (by simp only [ordSt, slotsLe, slotAt, Nat.beq, leV, leV1, leC, leA, nthO, and_self, Int.natCast_zero]) ⟨op_le o, sl_le 0 n rfl, ints_le n f _, trivial⟩)) ?_; clear hK K)
  refine run_block ?_
  refine run_loop (fun q st => ∃ k : Nat, st = ordSt n f o k ∧ q = n - k ∧ k ≤ n ∧ inB f o.order (n - k) k = T) n ⟨0, rfl, rfl, Nat.zero_le _, hT⟩ ?_
  clear hT
  rintro q st ⟨k, rfl, hq, hk, hT⟩
  simp only [ordSt, opB, intsB]
  repeat' (first
    | refine run_seq ?_
    | refine run_skip ?_
    | (refine run_region fun K hK => ?_; (try (simp (maxSteps := 10000000) only [opL, C99r0, C99r1, C99r2, C99r3, C99r4, C99r5, C99r6, C99r7, rwp_nil, rwp_cons, rwpK_app, aop, gpath, St.get, slotAt, sfx, eqP, segsOf, St.put, addBlk, getB, setB, delB, ld1, ldn, st1, stn, setRow, rowNeed, segAt, nsub, bin, un, eqB, isShift, sameK, arith, shiftR, getsl, selB_or, selB_and, beqb, shed, addN, Nat.beq, Seg.size, sizes, imp, needP, andN, appL, argsOf, ptrsOf, aasOf, cut, takeS, dropS, putS, partsOf, fillS, fieldOf, nthA, negIf, nilq, nilB, eqS, eqF, eqS1, andP, kin, slcS, strOk, plusA, bndHi, leN, optG, roH, roL, initT, exOk, exAll, wrAddr, Nat.reduceAdd, Nat.reduceSub, Nat.reduceMul, Int.reduceToNat, List.append_nil, List.nil_append, List.cons_append, eqT, idxT, cat, cpy, ite_int, ite_bool, ite_seg, ite_segs, ite_nil, ite_twice, Int.toNat_natCast, app, addBs, tob])); (repeat (first | (refine And.intro ?_ ?_; · (first | decide | omega | (simp only [decide_eq_true_eq] at hc; omega))))); with_reducible refine hK _ ?_; clear hK K)
    | (refine run_cond rfl (fun hc => ?_) (fun hc => ?_) <;> try (simp only [*, Bool.true_eq_false, Bool.false_eq_true, Bool.not_true, Bool.not_false, Bool.true_or, Bool.or_true, Bool.false_or, Bool.or_false, Bool.false_and, Bool.and_false, bne_self_eq_false, beq_self_eq_true] at hc; done))
    | refine run_block ?_
    | refine run_ret ?_
    | refine run_nil ?_
    | refine run_exit ?_
    | refine blk_normal ?_
    | refine blk_ret ?_
    | refine blk_here ?_
    | refine blk_there rfl ?_
    | refine loop_exit ?_
    | refine loop_ret ?_
    | refine un_exit ?_
    | refine un_ret ?_
    | refine unE_exit ?_
    | refine unE_ret ?_
    | refine un_normal ?_)
  · have hlt : k < n := by simpa using ‹decide ((k : Int) < (n : Int)) = true›
    obtain ⟨m, hm⟩ : ∃ m, n - k = m + 1 := ⟨n - k - 1, by omega⟩
    have hb : (o.order == f k) = true := by assumption
    rw [hm] at hT
    unfold inB at hT
    rw [hb, Bool.true_or] at hT
    exact hend _ _ (by rw [← hT]; rfl) rfl rfl
  · have hlt : k < n := by simpa using ‹decide ((k : Int) < (n : Int)) = true›
    obtain ⟨m, hm⟩ : ∃ m, n - k = m + 1 := ⟨n - k - 1, by omega⟩
    have hw : IntKind.i64.wrap ((k : Int) + 1) = ((k + 1 : Nat) : Int) := by rw [IntKind.wrap_i64]; omega
    have hb : (o.order == f k) = false := by assumption
    rw [hm] at hT
    unfold inB at hT
    rw [hb, Bool.false_or] at hT
    rw [hw]
    exact loop_normal m (ordSt n f o (k + 1)) (by omega) (LeS.intro [0, 1, 2] (fun i h => by match i, h with | 0, _ => rfl | 1, _ => rfl) (by simp only [diff, notIn, Nat.beq, and_self]) rfl (by simp only [ordSt, slotsLe, slotAt, Nat.beq, leV, leV1, leC, leA, nthO, and_self]) ⟨op_le o, sl_le 0 n rfl, ints_le n f _, trivial⟩) ⟨k + 1, rfl, by omega, by omega, by rw [show n - (k + 1) = m by omega]; exact hT⟩
  · have hge : ¬ k < n := by simpa using ‹decide ((k : Int) < (n : Int)) = false›
    have h0 : n - k = 0 := by omega
    rw [h0] at hT
    have e : false = T := hT
    exact hend _ _ (by rw [← e]; rfl) rfl rfl
end Go.Proofs.Ytmbnakinhnkabaa
