/- the reference's arithmetic (chapter 5): what its functions compute. -/
import Derived.Test.YteikpddilabppaaAlu
import Derived.Laws.BitsLemmas
import Derived.Laws.Bits64
namespace Go.Proofs.Yteikpddilabppaa
open Go.AM
set_option maxRecDepth 100000
set_option linter.unusedSimpArgs false
set_option linter.unusedVariables false
/-- A number of 64 bits. -/
def U (x : Int) : Prop := 0 ≤ x ∧ x < 18446744073709551616
theorem uwrap (x : Int) : IntKind.u64.wrap x = x % 18446744073709551616 := by
  rw [IntKind.wrap_u64]
theorem U_wrap (x : Int) : U (IntKind.u64.wrap x) := by
  rw [uwrap]; unfold U; omega
theorem sixtythree : min 63 IntKind.u64.bits = 63 := by decide
def sh63 (a : Int) : Int := a.fdiv (2 ^ 63)
theorem con50 (b : Bool) (H : Heap) : Con Try.prog 50 [.c (.bool b)] H (fun v H' => v = .c (.int .u64 (truthS b)) ∧ H' = H) := by
  refine Con.pure ?_ (by simp only [leArgs, leV, leV1, leC, and_self]) rfl H
  (refine con_of_run mixed (fn := Try.f50) (by kernel_rfl) (by kernel_rfl) C50_ok (rs := [.tmp 2]) (by kernel_rfl) (Nat.le_of_ble_eq_true (by kernel_rfl)) ?_; unfold C50; simp only [initT, Nat.reduceAdd])
  repeat' (first
    | refine run_seq ?_
    | refine run_skip ?_
    | (refine run_region fun K hK => ?_; (try (simp (maxSteps := 10000000) only [C50r0, C50r1, C50r2, C50r3, rwp_nil, rwp_cons, rwpK_app, aop, gpath, St.get, slotAt, sfx, eqP, segsOf, St.put, addBlk, getB, setB, delB, ld1, ldn, st1, stn, setRow, rowNeed, segAt, nsub, bin, un, eqB, isShift, sameK, arith, shiftR, getsl, selB_or, selB_and, beqb, shed, addN, Nat.beq, Seg.size, sizes, imp, needP, andN, appL, argsOf, ptrsOf, aasOf, cut, takeS, dropS, putS, partsOf, fillS, fieldOf, nthA, negIf, nilq, nilB, eqS, eqF, eqS1, andP, kin, slcS, strOk, plusA, bndHi, leN, optG, roH, roL, initT, exOk, exAll, wrAddr, Nat.reduceAdd, Nat.reduceSub, Nat.reduceMul, Int.reduceToNat, List.append_nil, List.nil_append, List.cons_append, eqT, idxT, cat, cpy, ite_int, ite_bool, ite_seg, ite_segs, ite_nil, ite_twice, Int.toNat_natCast, app, addBs])); (repeat (first | (refine And.intro ?_ ?_; · first | trivial | assumption | omega))); with_reducible refine hK _ ?_; clear hK K)
    | (refine run_cond rfl (fun hc => ?_) (fun hc => ?_) <;> try (simp only [*, Bool.true_eq_false, Bool.false_eq_true, Bool.not_true, Bool.not_false, Bool.true_or, Bool.or_true, Bool.false_or, Bool.or_false, Bool.false_and, Bool.and_false, bne_self_eq_false, beq_self_eq_true] at hc; done))
    | refine run_block ?_
    | refine run_ret ?_
    | refine run_nil ?_
    | refine run_exit ?_
    | refine blk_normal ?_
    | refine blk_ret ?_
    | refine blk_here ?_
    | refine blk_there rfl ?_
    | refine loop_exit ?_
    | refine loop_ret ?_
    | refine un_exit ?_
    | refine un_ret ?_
    | refine unE_exit ?_
    | refine unE_ret ?_
    | refine un_normal ?_)
  all_goals exact end_tmp1 rfl ⟨rfl, rfl⟩ rfl ⟨by rw [hc]; rfl, rfl⟩
def belowS (a b : Int) : Bool := decide (IntKind.u64.wrap (BitVec.ofInt IntKind.u64.bits a ^^^ BitVec.ofInt IntKind.u64.bits 9223372036854775808).toNat < IntKind.u64.wrap (BitVec.ofInt IntKind.u64.bits b ^^^ BitVec.ofInt IntKind.u64.bits 9223372036854775808).toNat)
theorem con51 (a b : Int) (H : Heap) : Con Try.prog 51 [.c (.int .u64 a), .c (.int .u64 b)] H (fun v H' => v = .c (.bool (belowS a b)) ∧ H' = H) := by
  refine Con.pure ?_ (by simp only [leArgs, leV, leV1, leC, and_self]) rfl H
  (refine con_of_run mixed (fn := Try.f51) (by kernel_rfl) (by kernel_rfl) C51_ok (rs := [.tmp 4]) (by kernel_rfl) (Nat.le_of_ble_eq_true (by kernel_rfl)) ?_; unfold C51; simp only [initT, Nat.reduceAdd])
  repeat' (first
    | refine run_seq ?_
    | refine run_skip ?_
    | (refine run_region fun K hK => ?_; (try (simp (maxSteps := 10000000) only [C51r0, C51r1, rwp_nil, rwp_cons, rwpK_app, aop, gpath, St.get, slotAt, sfx, eqP, segsOf, St.put, addBlk, getB, setB, delB, ld1, ldn, st1, stn, setRow, rowNeed, segAt, nsub, bin, un, eqB, isShift, sameK, arith, shiftR, getsl, selB_or, selB_and, beqb, shed, addN, Nat.beq, Seg.size, sizes, imp, needP, andN, appL, argsOf, ptrsOf, aasOf, cut, takeS, dropS, putS, partsOf, fillS, fieldOf, nthA, negIf, nilq, nilB, eqS, eqF, eqS1, andP, kin, slcS, strOk, plusA, bndHi, leN, optG, roH, roL, initT, exOk, exAll, wrAddr, Nat.reduceAdd, Nat.reduceSub, Nat.reduceMul, Int.reduceToNat, List.append_nil, List.nil_append, List.cons_append, eqT, idxT, cat, cpy, ite_int, ite_bool, ite_seg, ite_segs, ite_nil, ite_twice, Int.toNat_natCast, app, addBs])); (repeat (first | (refine And.intro ?_ ?_; · first | trivial | assumption | omega))); with_reducible refine hK _ ?_; clear hK K)
    | (refine run_cond rfl (fun hc => ?_) (fun hc => ?_) <;> try (simp only [*, Bool.true_eq_false, Bool.false_eq_true, Bool.not_true, Bool.not_false, Bool.true_or, Bool.or_true, Bool.false_or, Bool.or_false, Bool.false_and, Bool.and_false, bne_self_eq_false, beq_self_eq_true] at hc; done))
    | refine run_block ?_
    | refine run_ret ?_
    | refine run_nil ?_
    | refine run_exit ?_
    | refine blk_normal ?_
    | refine blk_ret ?_
    | refine blk_here ?_
    | refine blk_there rfl ?_
    | refine loop_exit ?_
    | refine loop_ret ?_
    | refine un_exit ?_
    | refine un_ret ?_
    | refine unE_exit ?_
    | refine unE_ret ?_
    | refine un_normal ?_)
  exact end_tmp1 rfl rfl rfl ⟨rfl, rfl⟩
def divX (a : Int) : Int := if sh63 a = 1 then IntKind.u64.wrap (0 - a) else a
def divQ (a b : Int) : Int := IntKind.u64.wrap ((divX a).tdiv (divX b))
def divS (a b : Int) : Int := if b = 0 then 0 else if sh63 a = sh63 b then divQ a b else IntKind.u64.wrap (0 - divQ a b)
theorem divX_ne {b : Int} (hb : U b) (h : b ≠ 0) : divX b ≠ 0 := by
  unfold divX
  split
  · rw [uwrap]; obtain ⟨h0, h1⟩ := hb; omega
  · exact h
theorem divX_ne' {b : Int} (hb : U b) (h : b ≠ 0) (h1 : (b.fdiv (2 ^ 63) == 1) = true) : IntKind.u64.wrap (0 - b) ≠ 0 := by
  rw [uwrap]; obtain ⟨h0, h1⟩ := hb; omega
theorem con48 (a b : Int) (ha : U a) (hb : U b) (H : Heap) : Con Try.prog 48 [.c (.int .u64 a), .c (.int .u64 b)] H (fun v H' => v = .c (.int .u64 (divS a b)) ∧ H' = H) := by
  refine Con.pure ?_ (by simp only [leArgs, leV, leV1, leC, and_self]) rfl H
  (refine con_of_run mixed (fn := Try.f48) (by kernel_rfl) (by kernel_rfl) C48_ok (rs := [.tmp 4]) (by kernel_rfl) (Nat.le_of_ble_eq_true (by kernel_rfl)) ?_; unfold C48; simp only [initT, Nat.reduceAdd])
  repeat' (first
    | refine run_seq ?_
    | refine run_skip ?_
    | (refine run_region fun K hK => ?_; (try (simp (maxSteps := 10000000) only [sixtythree, C48r0, C48r1, C48r2, C48r3, C48r4, C48r5, C48r6, C48r7, C48r8, C48r9, C48r10, C48r11, C48r12, rwp_nil, rwp_cons, rwpK_app, aop, gpath, St.get, slotAt, sfx, eqP, segsOf, St.put, addBlk, getB, setB, delB, ld1, ldn, st1, stn, setRow, rowNeed, segAt, nsub, bin, un, eqB, isShift, sameK, arith, shiftR, getsl, selB_or, selB_and, beqb, shed, addN, Nat.beq, Seg.size, sizes, imp, needP, andN, appL, argsOf, ptrsOf, aasOf, cut, takeS, dropS, putS, partsOf, fillS, fieldOf, nthA, negIf, nilq, nilB, eqS, eqF, eqS1, andP, kin, slcS, strOk, plusA, bndHi, leN, optG, roH, roL, initT, exOk, exAll, wrAddr, Nat.reduceAdd, Nat.reduceSub, Nat.reduceMul, Int.reduceToNat, List.append_nil, List.nil_append, List.cons_append, eqT, idxT, cat, cpy, ite_int, ite_bool, ite_seg, ite_segs, ite_nil, ite_twice, Int.toNat_natCast, app, addBs])); (repeat (first | (refine And.intro ?_ ?_; · (first | decide | (intros; omega) | (simpa using ‹(b == 0) = false›) | exact divX_ne' hb (by simpa using ‹(b == 0) = false›) (by assumption))))); with_reducible refine hK _ ?_; clear hK K)
    | (refine run_cond rfl (fun hc => ?_) (fun hc => ?_) <;> try (simp only [*, Bool.true_eq_false, Bool.false_eq_true, Bool.not_true, Bool.not_false, Bool.true_or, Bool.or_true, Bool.false_or, Bool.or_false, Bool.false_and, Bool.and_false, bne_self_eq_false, beq_self_eq_true] at hc; done))
    | refine run_block ?_
    | refine run_ret ?_
    | refine run_nil ?_
    | refine run_exit ?_
    | refine blk_normal ?_
    | refine blk_ret ?_
    | refine blk_here ?_
    | refine blk_there rfl ?_
    | refine loop_exit ?_
    | refine loop_ret ?_
    | refine un_exit ?_
    | refine un_ret ?_
    | refine unE_exit ?_
    | refine unE_ret ?_
    | refine un_normal ?_)
  all_goals
    refine end_tmp1 rfl ⟨rfl, rfl⟩ rfl ⟨?_, rfl⟩
    simp only [beq_iff_eq, beq_eq_false_iff_ne, bne_iff_ne, bne_eq_false_iff_eq, ne_eq] at *
    try simp only [show ∀ x : Int, x.fdiv (2 ^ 63) = sh63 x from fun _ => rfl] at *
    simp only [divS, divQ, divX]
    generalize sh63 a = p at *
    generalize sh63 b = q at *
  · simp only [*, if_true]
  all_goals rw [if_neg (by assumption)]
  · subst p q; simp at *
  · subst p q; simp only [if_true]
  · subst p; rw [if_neg (by assumption), if_pos rfl, if_neg (by assumption)]
  · subst p; exact absurd ‹(1 : Int) = q›.symm ‹¬ q = 1›
  · subst q; rw [if_neg (by assumption), if_neg (by assumption), if_pos rfl]
  · subst q; exact absurd ‹p = 1› ‹¬ p = 1›
  · rw [if_neg (by assumption), if_neg (by assumption), if_neg (by assumption)]
  · rw [if_pos (by assumption), if_neg (by assumption), if_neg (by assumption)]
def topS (a fill : Int) : Int := if fill = 2 then a.tmod 2 else IntKind.u64.wrap fill
def turn1 (a fill : Int) : Int := IntKind.u64.wrap (IntKind.u64.wrap (a.tdiv 2) + IntKind.u64.wrap (topS a fill * 2 ^ 63))
def turnS : Nat → Int → Int → Int
  | 0, a, _ => a
  | n + 1, a, f => turnS n (turn1 a f) f
def turnSt (a by_ f i : Int) : St := ⟨[⟨7, [], .c (.int .i64 i)⟩, ⟨0, [], .c (.int .u64 a)⟩, ⟨1, [], .c (.int .i64 by_)⟩, ⟨2, [], .c (.int .i64 f)⟩], ⟨0, []⟩⟩
theorem con49 (a f : Int) (n : Nat) (hn : n < 1000) (H : Heap) : Con Try.prog 49 [.c (.int .u64 a), .c (.int .i64 n), .c (.int .i64 f)] H (fun v H' => v = .c (.int .u64 (turnS n a f)) ∧ H' = H) := by
  refine Con.pure ?_ (by simp only [leArgs, leV, leV1, leC, and_self]) rfl H
  (refine con_of_run mixed (fn := Try.f49) (by kernel_rfl) (by kernel_rfl) C49_ok (rs := [.tmp 6]) (by kernel_rfl) (Nat.le_of_ble_eq_true (by kernel_rfl)) ?_; unfold C49; simp only [initT, Nat.reduceAdd])
  repeat' (first
    | refine run_seq ?_
    | refine run_skip ?_
    | (refine run_region fun K hK => ?_; (try (simp (maxSteps := 10000000) only [sixtythree, C49r0, C49r2, C49r3, C49r4, C49r5, C49r6, C49r7, C49r8, rwp_nil, rwp_cons, rwpK_app, aop, gpath, St.get, slotAt, sfx, eqP, segsOf, St.put, addBlk, getB, setB, delB, ld1, ldn, st1, stn, setRow, rowNeed, segAt, nsub, bin, un, eqB, isShift, sameK, arith, shiftR, getsl, selB_or, selB_and, beqb, shed, addN, Nat.beq, Seg.size, sizes, imp, needP, andN, appL, argsOf, ptrsOf, aasOf, cut, takeS, dropS, putS, partsOf, fillS, fieldOf, nthA, negIf, nilq, nilB, eqS, eqF, eqS1, andP, kin, slcS, strOk, plusA, bndHi, leN, optG, roH, roL, initT, exOk, exAll, wrAddr, Nat.reduceAdd, Nat.reduceSub, Nat.reduceMul, Int.reduceToNat, List.append_nil, List.nil_append, List.cons_append, eqT, idxT, cat, cpy, ite_int, ite_bool, ite_seg, ite_segs, ite_nil, ite_twice, Int.toNat_natCast, app, addBs])); (repeat (first | (refine And.intro ?_ ?_; · decide))); with_reducible refine hK _ ?_; clear hK K)
    | (refine run_cond rfl (fun hc => ?_) (fun hc => ?_) <;> try (simp only [*, Bool.true_eq_false, Bool.false_eq_true, Bool.not_true, Bool.not_false, Bool.true_or, Bool.or_true, Bool.false_or, Bool.or_false, Bool.false_and, Bool.and_false, bne_self_eq_false, beq_self_eq_true] at hc; done))
    | refine run_block ?_
    | refine run_ret ?_
    | refine run_nil ?_
    | refine run_exit ?_
    | refine blk_normal ?_
    | refine blk_ret ?_
    | refine blk_here ?_
    | refine blk_there rfl ?_
    | refine loop_exit ?_
    | refine loop_ret ?_
    | refine un_exit ?_
    | refine un_ret ?_
    | refine unE_exit ?_
    | refine unE_ret ?_
    | refine un_normal ?_)
  (refine run_regionL fun K hK => ?_; (try (simp (maxSteps := 10000000) only [sixtythree, C49r0, C49r1, C49r2, C49r3, C49r4, C49r5, C49r6, C49r7, C49r8, rwp_nil, rwp_cons, rwpK_app, aop, gpath, St.get, slotAt, sfx, eqP, segsOf, St.put, addBlk, getB, setB, delB, ld1, ldn, st1, stn, setRow, rowNeed, segAt, nsub, bin, un, eqB, isShift, sameK, arith, shiftR, getsl, selB_or, selB_and, beqb, shed, addN, Nat.beq, Seg.size, sizes, imp, needP, andN, appL, argsOf, ptrsOf, aasOf, cut, takeS, dropS, putS, partsOf, fillS, fieldOf, nthA, negIf, nilq, nilB, eqS, eqF, eqS1, andP, kin, slcS, strOk, plusA, bndHi, leN, optG, roH, roL, initT, exOk, exAll, wrAddr, Nat.reduceAdd, Nat.reduceSub, Nat.reduceMul, Int.reduceToNat, List.append_nil, List.nil_append, List.cons_append, eqT, idxT, cat, cpy, ite_int, ite_bool, ite_seg, ite_segs, ite_nil, ite_twice, Int.toNat_natCast, app, addBs])); (repeat (refine And.intro ?_ ?_; · first | trivial | assumption | omega)); refine hK _ (turnSt a n f 0) ((LeS.intro [] (fun i h => by omega) trivial rfl (by simp only [turnSt, slotsLe, slotAt, Nat.beq, leV, leV1, leC, and_self]) trivial)) ?_; clear hK K)
  refine run_block ?_
  generalize hT : turnS n a f = T
  refine run_loop (fun k st => ∃ (a' : Int) (i : Nat), st = turnSt a' n f i ∧ k = n - i ∧ i ≤ n ∧ turnS k a' f = T) n ⟨a, 0, rfl, by omega, by omega, hT⟩ ?_
  rintro k st ⟨a', i, rfl, hk, hi, hT⟩
  simp only [turnSt]
  repeat' (first
    | refine run_seq ?_
    | refine run_skip ?_
    | (refine run_region fun K hK => ?_; (try (simp (maxSteps := 10000000) only [sixtythree, ne_eq, C49r0, C49r1, C49r2, C49r3, C49r4, C49r5, C49r6, C49r7, C49r8, rwp_nil, rwp_cons, rwpK_app, aop, gpath, St.get, slotAt, sfx, eqP, segsOf, St.put, addBlk, getB, setB, delB, ld1, ldn, st1, stn, setRow, rowNeed, segAt, nsub, bin, un, eqB, isShift, sameK, arith, shiftR, getsl, selB_or, selB_and, beqb, shed, addN, Nat.beq, Seg.size, sizes, imp, needP, andN, appL, argsOf, ptrsOf, aasOf, cut, takeS, dropS, putS, partsOf, fillS, fieldOf, nthA, negIf, nilq, nilB, eqS, eqF, eqS1, andP, kin, slcS, strOk, plusA, bndHi, leN, optG, roH, roL, initT, exOk, exAll, wrAddr, Nat.reduceAdd, Nat.reduceSub, Nat.reduceMul, Int.reduceToNat, List.append_nil, List.nil_append, List.cons_append, eqT, idxT, cat, cpy, ite_int, ite_bool, ite_seg, ite_segs, ite_nil, ite_twice, Int.toNat_natCast, app, addBs])); (repeat (first | (refine And.intro ?_ ?_; · decide))); with_reducible refine hK _ ?_; clear hK K)
    | (refine run_cond rfl (fun hc => ?_) (fun hc => ?_) <;> try (simp only [*, Bool.true_eq_false, Bool.false_eq_true, Bool.not_true, Bool.not_false, Bool.true_or, Bool.or_true, Bool.false_or, Bool.or_false, Bool.false_and, Bool.and_false, bne_self_eq_false, beq_self_eq_true] at hc; done))
    | refine run_block ?_
    | refine run_ret ?_
    | refine run_nil ?_
    | refine run_exit ?_
    | refine blk_normal ?_
    | refine blk_ret ?_
    | refine blk_here ?_
    | refine blk_there rfl ?_
    | refine loop_exit ?_
    | refine loop_ret ?_
    | refine un_exit ?_
    | refine un_ret ?_
    | refine unE_exit ?_
    | refine unE_ret ?_
    | refine un_normal ?_)
  · have hlt : i < n := by simpa using ‹decide ((i : Int) < (n : Int)) = true›
    obtain ⟨k', rfl⟩ : ∃ k', k = k' + 1 := ⟨k - 1, by omega⟩
    refine loop_normal k' (turnSt (turn1 a' f) n f ((i + 1 : Nat) : Int)) (by omega) (LeS.intro [] (fun i h => by omega) trivial rfl (by
      have hf : f = 2 := by simpa using hc
      have hw : IntKind.i64.wrap ((i : Int) + 1) = ((i + 1 : Nat) : Int) := by rw [IntKind.wrap_i64]; omega
      simp only [turnSt, slotsLe, slotAt, Nat.beq, leV, leV1, leC, and_self, turn1, topS, hf, if_true, hw]) trivial) ⟨_, i + 1, rfl, by omega, by omega, hT⟩
  · have hlt : i < n := by simpa using ‹decide ((i : Int) < (n : Int)) = true›
    obtain ⟨k', rfl⟩ : ∃ k', k = k' + 1 := ⟨k - 1, by omega⟩
    refine loop_normal k' (turnSt (turn1 a' f) n f ((i + 1 : Nat) : Int)) (by omega) (LeS.intro [] (fun i h => by omega) trivial rfl (by
      have hf : ¬ f = 2 := by simpa using hc
      have hw : IntKind.i64.wrap ((i : Int) + 1) = ((i + 1 : Nat) : Int) := by rw [IntKind.wrap_i64]; omega
      simp only [turnSt, slotsLe, slotAt, Nat.beq, leV, leV1, leC, and_self, turn1, topS, hf, if_false, hw]) trivial) ⟨_, i + 1, rfl, by omega, by omega, hT⟩
  · have hlt : ¬ i < n := by simpa using hc
    have h0 : k = 0 := by omega
    subst h0
    exact end_tmp1 rfl ⟨rfl, rfl⟩ rfl ⟨by rw [← hT]; rfl, rfl⟩
/-- Doubled so often. -/
def dblS : Nat → Int → Int
  | 0, a => a
  | n + 1, a => dblS n (IntKind.u64.wrap (a + a))
def by64 (b : Int) : Int := IntKind.i64.wrap (b.tmod 64)
def refR (k a b : Int) : Int × Bool :=
  if k = 1 then (f52 a b, true) else if k = 2 then (f53 a b, true) else if k = 3 then (f54 a b, true) else if k = 4 then (f55 a b, true) else if k = 5 then (f56 a b, true) else if k = 6 then (f57 a b, true) else if k = 7 then (f58 a b, true) else
  if k = 8 then (divS a b, true) else if k = 9 then (dblS (by64 b).toNat a, true) else if k = 10 then (turnS (by64 b).toNat a 0, true) else if k = 11 then (turnS (by64 b).toNat a (IntKind.i64.wrap (sh63 a)), true) else if k = 12 then (turnS (by64 b).toNat a 2, true) else
  if k = 13 then (truthS (a == b), true) else if k = 14 then (truthS (decide (a < b)), true) else if k = 15 then (truthS (belowS a b), true) else (0, false)
def dblSt (k a b n i : Int) : St := ⟨[⟨9, [], .c (.int .i64 i)⟩, ⟨1, [], .c (.int .u64 a)⟩, ⟨8, [], .c (.int .i64 n)⟩, ⟨0, [], .c (.int .i64 k)⟩, ⟨2, [], .c (.int .u64 b)⟩], ⟨0, []⟩⟩
theorem by64_le {b : Int} (hb : U b) : 0 ≤ by64 b ∧ by64 b < 64 := by
  unfold by64
  rw [IntKind.wrap_i64, Int.tmod_eq_emod_of_nonneg hb.1]
  omega
theorem con49' (a b f : Int) (hb : U b) (H : Heap) : Con Try.prog 49 [.c (.int .u64 a), .c (.int .i64 (by64 b)), .c (.int .i64 f)] H (fun v H' => v = .c (.int .u64 (turnS (by64 b).toNat a f)) ∧ H' = H) := by
  have h := by64_le hb
  have := con49 a f (by64 b).toNat (by omega) H
  rwa [Int.toNat_of_nonneg h.1] at this
theorem con44 (k a b : Int) (ha : U a) (hb : U b) (H : Heap) : Con Try.prog 44 [.c (.int .i64 k), .c (.int .u64 a), .c (.int .u64 b)] H (fun v H' => v = .tup [.c (.int .u64 (refR k a b).1), .c (.bool (refR k a b).2)] ∧ H' = H) := by
  refine Con.pure ?_ (by simp only [leArgs, leV, leV1, leC, and_self]) rfl H
  (refine con_of_run mixed (fn := Try.f44) (by kernel_rfl) (by kernel_rfl) C44_ok (rs := [.tmp 6, .tmp 7]) (by kernel_rfl) (Nat.le_of_ble_eq_true (by kernel_rfl)) ?_; unfold C44; simp only [initT, Nat.reduceAdd])
  have hby : IntKind.i64.wrap (b.tmod 64) = by64 b := rfl
  repeat' (first
    | refine run_seq ?_
    | refine run_skip ?_
    | (refine run_region fun K hK => ?_; (try (simp (maxSteps := 10000000) only [sixtythree, ne_eq, hby, C44r0, C44r1, C44r2, C44r3, C44r4, C44r5, C44r6, C44r7, C44r8, C44r9, C44r10, C44r11, C44r12, C44r13, C44r14, C44r15, C44r16, C44r17, C44r18, C44r19, C44r20, C44r21, C44r23, C44r24, C44r25, C44r26, C44r27, C44r28, C44r29, C44r30, C44r31, C44r32, C44r33, C44r34, C44r35, C44r36, C44r37, C44r38, C44r39, rwp_nil, rwp_cons, rwpK_app, aop, gpath, St.get, slotAt, sfx, eqP, segsOf, St.put, addBlk, getB, setB, delB, ld1, ldn, st1, stn, setRow, rowNeed, segAt, nsub, bin, un, eqB, isShift, sameK, arith, shiftR, getsl, selB_or, selB_and, beqb, shed, addN, Nat.beq, Seg.size, sizes, imp, needP, andN, appL, argsOf, ptrsOf, aasOf, cut, takeS, dropS, putS, partsOf, fillS, fieldOf, nthA, negIf, nilq, nilB, eqS, eqF, eqS1, andP, kin, slcS, strOk, plusA, bndHi, leN, optG, roH, roL, initT, exOk, exAll, wrAddr, Nat.reduceAdd, Nat.reduceSub, Nat.reduceMul, Int.reduceToNat, List.append_nil, List.nil_append, List.cons_append, eqT, idxT, cat, cpy, ite_int, ite_bool, ite_seg, ite_segs, ite_nil, ite_twice, Int.toNat_natCast, app, addBs])); (repeat (first | (refine And.intro ?_ ?_; · first | decide | (simpa using ‹(b == 0) = false›)) | ((first | (refine call_t _ (con48 _ _ ha hb _) ?_; rintro v H' ⟨rfl, rfl⟩) | refine call_q _ (con48 _ _ ha hb _) ?_ | refine call_g _ (imp_of (con48 _ _ ha hb _)) ?_ | (refine call_t _ (con49' _ _ _ hb _) ?_; rintro v H' ⟨rfl, rfl⟩) | refine call_q _ (con49' _ _ _ hb _) ?_ | refine call_g _ (imp_of (con49' _ _ _ hb _)) ?_ | (refine call_t _ (con50 _ _) ?_; rintro v H' ⟨rfl, rfl⟩) | refine call_q _ (con50 _ _) ?_ | refine call_g _ (imp_of (con50 _ _)) ?_ | (refine call_t _ (con51 _ _ _) ?_; rintro v H' ⟨rfl, rfl⟩) | refine call_q _ (con51 _ _ _) ?_ | refine call_g _ (imp_of (con51 _ _ _)) ?_); simp (maxSteps := 10000000) only [sixtythree, ne_eq, hby, C44r0, C44r1, C44r2, C44r3, C44r4, C44r5, C44r6, C44r7, C44r8, C44r9, C44r10, C44r11, C44r12, C44r13, C44r14, C44r15, C44r16, C44r17, C44r18, C44r19, C44r20, C44r21, C44r23, C44r24, C44r25, C44r26, C44r27, C44r28, C44r29, C44r30, C44r31, C44r32, C44r33, C44r34, C44r35, C44r36, C44r37, C44r38, C44r39, rwp_nil, rwp_cons, rwpK_app, aop, gpath, St.get, slotAt, sfx, eqP, segsOf, St.put, addBlk, getB, setB, delB, ld1, ldn, st1, stn, setRow, rowNeed, segAt, nsub, bin, un, eqB, isShift, sameK, arith, shiftR, getsl, selB_or, selB_and, beqb, shed, addN, Nat.beq, Seg.size, sizes, imp, needP, andN, appL, argsOf, ptrsOf, aasOf, cut, takeS, dropS, putS, partsOf, fillS, fieldOf, nthA, negIf, nilq, nilB, eqS, eqF, eqS1, andP, kin, slcS, strOk, plusA, bndHi, leN, optG, roH, roL, initT, exOk, exAll, wrAddr, Nat.reduceAdd, Nat.reduceSub, Nat.reduceMul, Int.reduceToNat, List.append_nil, List.nil_append, List.cons_append, eqT, idxT, cat, cpy, ite_int, ite_bool, ite_seg, ite_segs, ite_nil, ite_twice, Int.toNat_natCast, app, addBs]))); with_reducible refine hK _ ?_; clear hK K)
    | (refine run_cond rfl (fun hc => ?_) (fun hc => ?_) <;> try (simp only [*, Bool.true_eq_false, Bool.false_eq_true, Bool.not_true, Bool.not_false, Bool.true_or, Bool.or_true, Bool.false_or, Bool.or_false, Bool.false_and, Bool.and_false, bne_self_eq_false, beq_self_eq_true] at hc; done))
    | refine run_block ?_
    | refine run_ret ?_
    | refine run_nil ?_
    | refine run_exit ?_
    | refine blk_normal ?_
    | refine blk_ret ?_
    | refine blk_here ?_
    | refine blk_there rfl ?_
    | refine loop_exit ?_
    | refine loop_ret ?_
    | refine un_exit ?_
    | refine un_ret ?_
    | refine unE_exit ?_
    | refine unE_ret ?_
    | refine un_normal ?_)
  all_goals try (
    refine end_tmp2 rfl rfl rfl ⟨rfl, rfl⟩ rfl rfl rfl ⟨?_, rfl⟩
    simp only [beq_iff_eq, beq_eq_false_iff_ne, ne_eq] at *
    (simp only [refR, *, if_true, if_false, reduceIte]) <;> first | rfl | (simp [f58, *]; done))
  have h9 : k = 9 := by simpa using hc
  (refine run_regionL fun K hK => ?_; (try (simp (maxSteps := 10000000) only [sixtythree, C44r0, C44r1, C44r2, C44r3, C44r4, C44r5, C44r6, C44r7, C44r8, C44r9, C44r10, C44r11, C44r12, C44r13, C44r14, C44r15, C44r16, C44r17, C44r18, C44r19, C44r20, C44r21, C44r22, C44r23, C44r24, C44r25, C44r26, C44r27, C44r28, C44r29, C44r30, C44r31, C44r32, C44r33, C44r34, C44r35, C44r36, C44r37, C44r38, C44r39, rwp_nil, rwp_cons, rwpK_app, aop, gpath, St.get, slotAt, sfx, eqP, segsOf, St.put, addBlk, getB, setB, delB, ld1, ldn, st1, stn, setRow, rowNeed, segAt, nsub, bin, un, eqB, isShift, sameK, arith, shiftR, getsl, selB_or, selB_and, beqb, shed, addN, Nat.beq, Seg.size, sizes, imp, needP, andN, appL, argsOf, ptrsOf, aasOf, cut, takeS, dropS, putS, partsOf, fillS, fieldOf, nthA, negIf, nilq, nilB, eqS, eqF, eqS1, andP, kin, slcS, strOk, plusA, bndHi, leN, optG, roH, roL, initT, exOk, exAll, wrAddr, Nat.reduceAdd, Nat.reduceSub, Nat.reduceMul, Int.reduceToNat, List.append_nil, List.nil_append, List.cons_append, eqT, idxT, cat, cpy, ite_int, ite_bool, ite_seg, ite_segs, ite_nil, ite_twice, Int.toNat_natCast, app, addBs])); (repeat (refine And.intro ?_ ?_; · first | trivial | assumption | omega)); refine hK _ (dblSt k a b (by64 b) 0) ((LeS.intro [] (fun i h => by omega) trivial rfl (by simp only [dblSt, slotsLe, slotAt, Nat.beq, leV, leV1, leC, and_self]) trivial)) ?_; clear hK K)
  refine run_block ?_
  have hle := by64_le hb
  generalize hT : dblS (by64 b).toNat a = T
  have hres : refR k a b = (T, true) := by subst h9; simp [refR, hT]
  rw [hres]
  generalize hm : by64 b = m at *
  refine run_loop (fun n st => ∃ (a' : Int) (i : Nat), st = dblSt k a' b m i ∧ n = m.toNat - i ∧ i ≤ m.toNat ∧ dblS n a' = T) m.toNat ⟨a, 0, rfl, by omega, by omega, hT⟩ ?_
  rintro n st ⟨a', i, rfl, hn, hi, hT⟩
  simp only [dblSt]
  clear hc hby
  repeat' (first
    | refine run_seq ?_
    | refine run_skip ?_
    | (refine run_region fun K hK => ?_; (try (simp (maxSteps := 10000000) only [ne_eq, C44r0, C44r1, C44r2, C44r3, C44r4, C44r5, C44r6, C44r7, C44r8, C44r9, C44r10, C44r11, C44r12, C44r13, C44r14, C44r15, C44r16, C44r17, C44r18, C44r19, C44r20, C44r21, C44r22, C44r23, C44r24, C44r25, C44r26, C44r27, C44r28, C44r29, C44r30, C44r31, C44r32, C44r33, C44r34, C44r35, C44r36, C44r37, C44r38, C44r39, rwp_nil, rwp_cons, rwpK_app, aop, gpath, St.get, slotAt, sfx, eqP, segsOf, St.put, addBlk, getB, setB, delB, ld1, ldn, st1, stn, setRow, rowNeed, segAt, nsub, bin, un, eqB, isShift, sameK, arith, shiftR, getsl, selB_or, selB_and, beqb, shed, addN, Nat.beq, Seg.size, sizes, imp, needP, andN, appL, argsOf, ptrsOf, aasOf, cut, takeS, dropS, putS, partsOf, fillS, fieldOf, nthA, negIf, nilq, nilB, eqS, eqF, eqS1, andP, kin, slcS, strOk, plusA, bndHi, leN, optG, roH, roL, initT, exOk, exAll, wrAddr, Nat.reduceAdd, Nat.reduceSub, Nat.reduceMul, Int.reduceToNat, List.append_nil, List.nil_append, List.cons_append, eqT, idxT, cat, cpy, ite_int, ite_bool, ite_seg, ite_segs, ite_nil, ite_twice, Int.toNat_natCast, app, addBs])); (repeat (first | (refine And.intro ?_ ?_; · decide))); with_reducible refine hK _ ?_; clear hK K)
    | (refine run_cond rfl (fun hc => ?_) (fun hc => ?_) <;> try (simp only [*, Bool.true_eq_false, Bool.false_eq_true, Bool.not_true, Bool.not_false, Bool.true_or, Bool.or_true, Bool.false_or, Bool.or_false, Bool.false_and, Bool.and_false, bne_self_eq_false, beq_self_eq_true] at hc; done))
    | refine run_block ?_
    | refine run_ret ?_
    | refine run_nil ?_
    | refine run_exit ?_
    | refine blk_normal ?_
    | refine blk_ret ?_
    | refine blk_here ?_
    | refine blk_there rfl ?_
    | refine loop_exit ?_
    | refine loop_ret ?_
    | refine un_exit ?_
    | refine un_ret ?_
    | refine unE_exit ?_
    | refine unE_ret ?_
    | refine un_normal ?_)
  · have hlt : i < m.toNat := by have : (i : Int) < m := by simpa using hc
                                 omega
    obtain ⟨n', rfl⟩ : ∃ n', n = n' + 1 := ⟨n - 1, by omega⟩
    refine loop_normal n' (dblSt k (IntKind.u64.wrap (a' + a')) b m ((i + 1 : Nat) : Int)) (by omega) (LeS.intro [] (fun i h => by omega) trivial rfl (by
      have hw : IntKind.i64.wrap ((i : Int) + 1) = ((i + 1 : Nat) : Int) := by rw [IntKind.wrap_i64]; omega
      simp only [dblSt, slotsLe, slotAt, Nat.beq, leV, leV1, leC, and_self, hw]) trivial) ⟨_, i + 1, rfl, by omega, by omega, hT⟩
  · have hlt : ¬ i < m.toNat := by have : ¬ (i : Int) < m := by simpa using hc
                                   omega
    have h0 : n = 0 := by omega
    subst h0
    exact end_tmp2 rfl rfl rfl ⟨rfl, rfl⟩ rfl rfl rfl ⟨by rw [← hT]; rfl, rfl⟩
end Go.Proofs.Yteikpddilabppaa
