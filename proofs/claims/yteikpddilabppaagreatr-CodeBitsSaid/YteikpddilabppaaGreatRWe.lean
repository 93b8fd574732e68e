/- bits: masks. -/
import Derived.Test.YteikpddilabppaaGreatRWd
import Derived.Laws.BitsLemmas
namespace Go.Proofs.YteikpddilabppaaGreatR
open Go.AM
set_option maxRecDepth 100000
set_option linter.unusedSimpArgs false
set_option linter.unusedVariables false
def tabT : ByteArray := ⟨#[0, 1, 2, 2, 3, 3, 3, 3, 4, 4, 4, 4, 4, 4, 4, 4, 5, 5, 5, 5, 5, 5, 5, 5, 5, 5, 5, 5, 5, 5, 5, 5, 6, 6, 6, 6, 6, 6, 6, 6, 6, 6, 6, 6, 6, 6, 6, 6, 6, 6, 6, 6, 6, 6, 6, 6, 6, 6, 6, 6, 6, 6, 6, 6, 7, 7, 7, 7, 7, 7, 7, 7, 7, 7, 7, 7, 7, 7, 7, 7, 7, 7, 7, 7, 7, 7, 7, 7, 7, 7, 7, 7, 7, 7, 7, 7, 7, 7, 7, 7, 7, 7, 7, 7, 7, 7, 7, 7, 7, 7, 7, 7, 7, 7, 7, 7, 7, 7, 7, 7, 7, 7, 7, 7, 7, 7, 7, 7, 8, 8, 8, 8, 8, 8, 8, 8, 8, 8, 8, 8, 8, 8, 8, 8, 8, 8, 8, 8, 8, 8, 8, 8, 8, 8, 8, 8, 8, 8, 8, 8, 8, 8, 8, 8, 8, 8, 8, 8, 8, 8, 8, 8, 8, 8, 8, 8, 8, 8, 8, 8, 8, 8, 8, 8, 8, 8, 8, 8, 8, 8, 8, 8, 8, 8, 8, 8, 8, 8, 8, 8, 8, 8, 8, 8, 8, 8, 8, 8, 8, 8, 8, 8, 8, 8, 8, 8, 8, 8, 8, 8, 8, 8, 8, 8, 8, 8, 8, 8, 8, 8, 8, 8, 8, 8, 8, 8, 8, 8, 8, 8, 8, 8, 8, 8, 8, 8, 8, 8, 8, 8, 8, 8, 8, 8, 8, 8]⟩
theorem tab_size : ((ByteArray.size ⟨#[0, 1, 2, 2, 3, 3, 3, 3, 4, 4, 4, 4, 4, 4, 4, 4, 5, 5, 5, 5, 5, 5, 5, 5, 5, 5, 5, 5, 5, 5, 5, 5, 6, 6, 6, 6, 6, 6, 6, 6, 6, 6, 6, 6, 6, 6, 6, 6, 6, 6, 6, 6, 6, 6, 6, 6, 6, 6, 6, 6, 6, 6, 6, 6, 7, 7, 7, 7, 7, 7, 7, 7, 7, 7, 7, 7, 7, 7, 7, 7, 7, 7, 7, 7, 7, 7, 7, 7, 7, 7, 7, 7, 7, 7, 7, 7, 7, 7, 7, 7, 7, 7, 7, 7, 7, 7, 7, 7, 7, 7, 7, 7, 7, 7, 7, 7, 7, 7, 7, 7, 7, 7, 7, 7, 7, 7, 7, 7, 8, 8, 8, 8, 8, 8, 8, 8, 8, 8, 8, 8, 8, 8, 8, 8, 8, 8, 8, 8, 8, 8, 8, 8, 8, 8, 8, 8, 8, 8, 8, 8, 8, 8, 8, 8, 8, 8, 8, 8, 8, 8, 8, 8, 8, 8, 8, 8, 8, 8, 8, 8, 8, 8, 8, 8, 8, 8, 8, 8, 8, 8, 8, 8, 8, 8, 8, 8, 8, 8, 8, 8, 8, 8, 8, 8, 8, 8, 8, 8, 8, 8, 8, 8, 8, 8, 8, 8, 8, 8, 8, 8, 8, 8, 8, 8, 8, 8, 8, 8, 8, 8, 8, 8, 8, 8, 8, 8, 8, 8, 8, 8, 8, 8, 8, 8, 8, 8, 8, 8, 8, 8, 8, 8, 8, 8, 8, 8]⟩ : Nat) : Int) = 256 := by decide +kernel
def lenS (x : Int) : Int := IntKind.i64.wrap (0 + IntKind.i64.wrap (byteAt tabT (IntKind.u8.wrap x).toNat))
theorem con121 (x : Int) (h0 : 0 ≤ x) (h1 : x < 256) (H : Heap) : Con Tryz.prog 121 [.c (.int .u64 x)] H (fun v H' => v = .c (.int .i64 (lenS x)) ∧ H' = H) := by
  refine Con.pure ?_ (by simp only [leArgs, leV, leV1, leC, and_self]) rfl H
  (refine con_of_run mixed (fn := Tryz.f121) (by kernel_rfl) (by kernel_rfl) C121_ok (rs := [.tmp 2]) (by kernel_rfl) (Nat.le_of_ble_eq_true (by kernel_rfl)) ?_; unfold C121; simp only [initT])
  have c1 : decide (x ≥ 4294967296) = false := by simp; omega
  have c2 : decide (x ≥ 65536) = false := by simp; omega
  have c3 : decide (x ≥ 256) = false := by simp; omega
  have hb : 0 ≤ IntKind.u8.wrap x ∧ IntKind.u8.wrap x < 256 := by rw [IntKind.wrap_u8]; omega
  repeat' (first
    | refine run_seq ?_
    | refine run_skip ?_
    | (refine run_region fun K hK => ?_; (try (simp (maxSteps := 10000000) only [c1, c2, c3, tab_size, C121r0, C121r1, C121r4, C121r7, C121r10, rwp_nil, rwp_cons, aop, gpath, St.get, slotAt, sfx, eqP, St.put, addBlk, bin, isShift, sameK, arith, shed, imp, idxT])); (repeat (first | (refine And.intro ?_ ?_; · assumption))); with_reducible refine hK _ ?_; clear hK K)
    | (refine run_cond rfl (fun hc => ?_) (fun hc => ?_) <;> try (simp only [*, Bool.false_eq_true] at hc; done))
    | refine run_block ?_
    | refine run_ret ?_
    | refine run_nil ?_
    | refine run_exit ?_
    | refine blk_normal ?_
    | refine blk_ret ?_
    | refine blk_here ?_
    | refine blk_there rfl ?_
    | refine loop_exit ?_
    | refine loop_ret ?_
    | refine un_exit ?_
    | refine un_ret ?_
    | refine unE_exit ?_
    | refine unE_ret ?_
    | refine un_normal ?_)
  exact end_tmp1 rfl ⟨rfl, rfl⟩ rfl ⟨rfl, rfl⟩
theorem con109 (x : Int) (h0 : 0 ≤ x) (h1 : x < 256) (H : Heap) : Con Tryz.prog 109 [.c (.int .u64 x)] H (fun v H' => v = .c (.int .i64 (lenS x)) ∧ H' = H) := by
  refine Con.pure ?_ (by simp only [leArgs, leV, leV1, leC, and_self]) rfl H
  (refine con_of_run mixed (fn := Tryz.f109) (by kernel_rfl) (by kernel_rfl) C109_ok (rs := [.tmp 2]) (by kernel_rfl) (Nat.le_of_ble_eq_true (by kernel_rfl)) ?_; unfold C109; simp only [initT])
  repeat' (first
    | refine run_seq ?_
    | refine run_skip ?_
    | (refine run_region fun K hK => ?_; (try (simp (maxSteps := 10000000) only [C109r0, C109r2, rwp_nil, rwp_cons, aop, gpath, St.get, slotAt, sfx, eqP, St.put, addBlk, shed, appL, argsOf, ptrsOf])); (repeat (first | (refine And.intro ?_ ?_; · assumption) | ((first | (refine call_t _ (con121 x h0 h1 _) ?_; rintro v H' ⟨rfl, rfl⟩) | refine call_q _ (con121 x h0 h1 _) ?_ | refine call_g _ (imp_of (con121 x h0 h1 _)) ?_); simp (maxSteps := 10000000) only [rwp_nil, rwp_cons, rwpK_app, aop, gpath, St.get, slotAt, sfx, eqP, St.put, addBlk, shed]))); with_reducible refine hK _ ?_; clear hK K)
    | (refine run_cond rfl (fun hc => ?_) (fun hc => ?_) <;> try (simp only [*, Bool.false_eq_true] at hc; done))
    | refine run_block ?_
    | refine run_ret ?_
    | refine run_nil ?_
    | refine run_exit ?_
    | refine blk_normal ?_
    | refine blk_ret ?_
    | refine blk_here ?_
    | refine blk_there rfl ?_
    | refine loop_exit ?_
    | refine loop_ret ?_
    | refine un_exit ?_
    | refine un_ret ?_
    | refine unE_exit ?_
    | refine unE_ret ?_
    | refine un_normal ?_)
  exact end_tmp1 rfl ⟨rfl, rfl⟩ rfl ⟨rfl, rfl⟩
def rorBad (v by_ many : Int) : Bool := (decide (many < 1) || decide (many > 64)) || decide (by_ < 0)
def rorOver (v many : Int) : Bool := decide (many < 64) && (v.fdiv (2 ^ min many.toNat IntKind.u64.bits) != 0)
def rorE (v by_ many : Int) : Int := if rorBad v by_ many = true then 1 else if rorOver v many = true then 2 else 0
theorem con110 (v by_ many : Int) (hby : by_ ≤ 9223372036854775807) : ∃ x : Int, Con Tryz.prog 110 [.c (.int .u64 v), .c (.int .i64 by_), .c (.int .i64 many)] ⟨0, []⟩ (fun r H' => r = .tup [.c (.int .u64 x), .c (.int .i64 (rorE v by_ many))] ∧ H' = ⟨0, []⟩) := by
  by_cases hb : rorBad v by_ many = true
  · refine ⟨0, ?_⟩
    have hb0 : ((decide (many < 1) || decide (many > 64)) || decide (by_ < 0)) = true := hb
    (refine con_of_run mixed (fn := Tryz.f110) (by kernel_rfl) (by kernel_rfl) C110_ok (rs := [.tmp 6, .tmp 7]) (by kernel_rfl) (Nat.le_of_ble_eq_true (by kernel_rfl)) ?_; unfold C110; simp only [initT, Nat.reduceAdd])
    repeat' (first
    | refine run_seq ?_
    | refine run_skip ?_
    | (refine run_region fun K hK => ?_; (try (simp (maxSteps := 10000000) only [hb0, C110r0, C110r1, C110r2, rwp_nil, rwp_cons, aop, gpath, St.get, slotAt, sfx, eqP, St.put, addBlk, bin, isShift, sameK, arith, getsl, selB_or, beqb, shed])); (repeat (first | (refine And.intro ?_ ?_; · first | trivial | assumption | omega))); with_reducible refine hK _ ?_; clear hK K)
    | (refine run_cond rfl (fun hc => ?_) (fun hc => ?_) <;> try (simp only [*, Bool.true_eq_false] at hc; done))
    | refine run_block ?_
    | refine run_ret ?_
    | refine run_nil ?_
    | refine run_exit ?_
    | refine blk_normal ?_
    | refine blk_ret ?_
    | refine blk_here ?_
    | refine blk_there rfl ?_
    | refine loop_exit ?_
    | refine loop_ret ?_
    | refine un_exit ?_
    | refine un_ret ?_
    | refine unE_exit ?_
    | refine unE_ret ?_
    | refine un_normal ?_)
    exact end_tmp2 rfl rfl rfl ⟨rfl, rfl⟩ ⟨rfl, rfl⟩ rfl rfl ⟨by simp only [rorE, hb, if_true], rfl⟩
  · have hb1 : rorBad v by_ many = false := by simpa using hb
    have hb0 : ((decide (many < 1) || decide (many > 64)) || decide (by_ < 0)) = false := hb1
    have hb' := hb1
    simp only [rorBad, Bool.or_eq_false_iff, decide_eq_false_iff_not] at hb'
    by_cases ho : rorOver v many = true
    · refine ⟨0, ?_⟩
      have ho0 : (decide (many < 64) && (v.fdiv (2 ^ min many.toNat IntKind.u64.bits) != 0)) = true := ho
      (refine con_of_run mixed (fn := Tryz.f110) (by kernel_rfl) (by kernel_rfl) C110_ok (rs := [.tmp 6, .tmp 7]) (by kernel_rfl) (Nat.le_of_ble_eq_true (by kernel_rfl)) ?_; unfold C110; simp only [initT, Nat.reduceAdd])
      repeat' (first
    | refine run_seq ?_
    | refine run_skip ?_
    | (refine run_region fun K hK => ?_; (try (simp (maxSteps := 10000000) only [hb0, ho0, C110r0, C110r1, C110r3, C110r4, rwp_nil, rwp_cons, aop, gpath, St.get, slotAt, sfx, eqP, St.put, addBlk, bin, isShift, sameK, arith, shiftR, getsl, selB_or, selB_and, beqb, shed, imp])); (repeat (first | (refine And.intro ?_ ?_; · (intros; omega)))); with_reducible refine hK _ ?_; clear hK K)
    | (refine run_cond rfl (fun hc => ?_) (fun hc => ?_) <;> try (simp only [*, Bool.true_eq_false, Bool.false_eq_true] at hc; done))
    | refine run_block ?_
    | refine run_ret ?_
    | refine run_nil ?_
    | refine run_exit ?_
    | refine blk_normal ?_
    | refine blk_ret ?_
    | refine blk_here ?_
    | refine blk_there rfl ?_
    | refine loop_exit ?_
    | refine loop_ret ?_
    | refine un_exit ?_
    | refine un_ret ?_
    | refine unE_exit ?_
    | refine unE_ret ?_
    | refine un_normal ?_)
      exact end_tmp2 rfl rfl rfl ⟨rfl, rfl⟩ ⟨rfl, rfl⟩ rfl rfl ⟨by simp only [rorE, hb1, ho, if_true, Bool.false_eq_true, if_false], rfl⟩
    · have ho1 : rorOver v many = false := by simpa using ho
      have ho0 : (decide (many < 64) && (v.fdiv (2 ^ min many.toNat IntKind.u64.bits) != 0)) = false := ho1
      have hm : many ≠ 0 := by omega
      have ht : 0 ≤ by_.tmod many ∧ by_.tmod many < many := ⟨Int.tmod_nonneg _ (by omega), Int.tmod_lt_of_pos _ (by omega)⟩
      have hw1 : 0 ≤ IntKind.i64.wrap (64 - many) := by rw [IntKind.wrap_i64]; omega
      have hw2 : 0 ≤ IntKind.i64.wrap (many - by_.tmod many) := by rw [IntKind.wrap_i64]; omega
      apply Exists.intro
      (refine con_of_run mixed (fn := Tryz.f110) (by kernel_rfl) (by kernel_rfl) C110_ok (rs := [.tmp 6, .tmp 7]) (by kernel_rfl) (Nat.le_of_ble_eq_true (by kernel_rfl)) ?_; unfold C110; simp only [initT, Nat.reduceAdd])
      repeat' (first
    | refine run_seq ?_
    | refine run_skip ?_
    | (refine run_region fun K hK => ?_; (try (simp (maxSteps := 10000000) only [hb0, ho0, C110r0, C110r1, C110r3, C110r5, C110r6, C110r7, rwp_nil, rwp_cons, aop, gpath, St.get, slotAt, sfx, eqP, St.put, addBlk, bin, isShift, sameK, arith, shiftR, getsl, selB_or, selB_and, beqb, shed, imp])); (repeat (first | (refine And.intro ?_ ?_; · (first | assumption | exact ht.1 | (intros; omega))))); with_reducible refine hK _ ?_; clear hK K)
    | (refine run_cond rfl (fun hc => ?_) (fun hc => ?_) <;> try (simp only [*, Bool.false_eq_true] at hc; done))
    | refine run_block ?_
    | refine run_ret ?_
    | refine run_nil ?_
    | refine run_exit ?_
    | refine blk_normal ?_
    | refine blk_ret ?_
    | refine blk_here ?_
    | refine blk_there rfl ?_
    | refine loop_exit ?_
    | refine loop_ret ?_
    | refine un_exit ?_
    | refine un_ret ?_
    | refine unE_exit ?_
    | refine unE_ret ?_
    | refine un_normal ?_)
      exact end_tmp2 rfl rfl rfl ⟨rfl, rfl⟩ ⟨rfl, rfl⟩ rfl rfl ⟨by simp only [rorE, hb1, ho1, Bool.false_eq_true, if_false]; rfl, rfl⟩
end Go.Proofs.YteikpddilabppaaGreatR
