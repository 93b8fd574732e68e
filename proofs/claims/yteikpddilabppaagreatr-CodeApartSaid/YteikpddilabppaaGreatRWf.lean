/- bits: masks of logical immediates. -/
import Derived.Test.YteikpddilabppaaGreatRWd
import Derived.Test.YteikpddilabppaaGreatRWg
import Derived.Laws.Bits64
namespace Go.Proofs.YteikpddilabppaaGreatR
open Go.AM
set_option maxRecDepth 100000
set_option linter.unusedSimpArgs false
set_option linter.unusedVariables false
theorem key_rng {n r s : Int} (h : (((orS n 1 != 1) || (orS r 63 != 63)) || (orS s 63 != 63)) = false) : 0 ≤ keyV n s ∧ keyV n s < 128 := by
  simp only [Bool.or_eq_false_iff] at h
  have h1 := orS_le (by decide) (by decide) h.1.1
  have h2 := orS_le (by decide) (by decide) h.2
  rw [keyV_nat]
  exact key_dec ⟨(BitVec.ofInt 64 n).toNat, by omega⟩ ⟨(BitVec.ofInt 64 s).toNat, by omega⟩
theorem and_rng (x : BitVec 64) (y : Int) (h0 : 0 ≤ y) (h1 : y < 64) : 0 ≤ IntKind.i64.wrap (x &&& BitVec.ofInt 64 y).toNat ∧ IntKind.i64.wrap (x &&& BitVec.ofInt 64 y).toNat < 64 := by
  have e : (x &&& BitVec.ofInt 64 y).toNat ≤ y.toNat := by
    rw [BitVec.toNat_and]
    refine Nat.le_trans Nat.and_le_right ?_
    rw [BitVec.toNat_ofInt, show ((2 ^ 64 : Nat) : Int) = 18446744073709551616 from rfl, Int.emod_eq_of_lt h0 (by omega)]
    exact Nat.le_refl _
  generalize (x &&& BitVec.ofInt 64 y).toNat = t at e
  have ht : t < 64 := by omega
  rw [IntKind.wrap_i64]
  omega
def dblM : Nat → Int → Int → Int
  | 0, one, _ => one
  | f + 1, one, w => if w < 64 then dblM f (IntKind.u64.wrap (BitVec.ofInt IntKind.u64.bits one ||| BitVec.ofInt IntKind.u64.bits (IntKind.u64.wrap (one * 2 ^ min w.toNat IntKind.u64.bits))).toNat) (IntKind.i64.wrap (w * 2)) else one
theorem con75a (n r s : Int) (hb0 : selB (selB (IntKind.i64.wrap (BitVec.ofInt IntKind.i64.bits n ||| BitVec.ofInt IntKind.i64.bits 1).toNat != 1) true (IntKind.i64.wrap (BitVec.ofInt IntKind.i64.bits r ||| BitVec.ofInt IntKind.i64.bits 63).toNat != 63)) true (IntKind.i64.wrap (BitVec.ofInt IntKind.i64.bits s ||| BitVec.ofInt IntKind.i64.bits 63).toNat != 63) = true) : Con Tryz.prog 75 [.c (.int .i64 n), .c (.int .i64 r), .c (.int .i64 s)] ⟨0, []⟩ (fun v H' => v = .tup [.c (.int .u64 0), .c (.int .i64 1)] ∧ H' = ⟨0, []⟩) := by
  (refine con_of_run mixed (fn := Tryz.f75) (by kernel_rfl) (by kernel_rfl) C75_ok (rs := [.tmp 6, .tmp 7]) (by kernel_rfl) (Nat.le_of_ble_eq_true (by kernel_rfl)) ?_; unfold C75; simp only [initT, Nat.reduceAdd])
  repeat' (first
    | refine run_seq ?_
    | refine run_skip ?_
    | (refine run_region fun K hK => ?_; (try (simp (maxSteps := 10000000) only [hb0, C75r0, C75r1, C75r2, rwp_nil, rwp_cons, aop, gpath, St.get, slotAt, sfx, eqP, St.put, addBlk, bin, isShift, sameK, arith, getsl, beqb, shed])); (repeat (first | (refine And.intro ?_ ?_; · (first | assumption | (intros; omega))))); with_reducible refine hK _ ?_; clear hK K)
    | (refine run_cond rfl (fun hc => ?_) (fun hc => ?_) <;> try (simp only [*, Bool.true_eq_false] at hc; done))
    | refine run_block ?_
    | refine run_ret ?_
    | refine run_nil ?_
    | refine run_exit ?_
    | refine blk_normal ?_
    | refine blk_ret ?_
    | refine blk_here ?_
    | refine blk_there rfl ?_
    | refine loop_exit ?_
    | refine loop_ret ?_
    | refine un_exit ?_
    | refine un_ret ?_
    | refine unE_exit ?_
    | refine unE_ret ?_
    | refine un_normal ?_)
  exact end_tmp2 rfl rfl rfl ⟨rfl, rfl⟩ ⟨rfl, rfl⟩ rfl rfl ⟨rfl, rfl⟩
theorem con75b (n r s k : Int) (hb0 : selB (selB (IntKind.i64.wrap (BitVec.ofInt IntKind.i64.bits n ||| BitVec.ofInt IntKind.i64.bits 1).toNat != 1) true (IntKind.i64.wrap (BitVec.ofInt IntKind.i64.bits r ||| BitVec.ofInt IntKind.i64.bits 63).toNat != 63)) true (IntKind.i64.wrap (BitVec.ofInt IntKind.i64.bits s ||| BitVec.ofInt IntKind.i64.bits 63).toNat != 63) = false) (hke : k = keyV n s) (hq : decide (k < 2) = true) : Con Tryz.prog 75 [.c (.int .i64 n), .c (.int .i64 r), .c (.int .i64 s)] ⟨0, []⟩ (fun v H' => v = .tup [.c (.int .u64 0), .c (.int .i64 2)] ∧ H' = ⟨0, []⟩) := by
  (refine con_of_run mixed (fn := Tryz.f75) (by kernel_rfl) (by kernel_rfl) C75_ok (rs := [.tmp 6, .tmp 7]) (by kernel_rfl) (Nat.le_of_ble_eq_true (by kernel_rfl)) ?_; unfold C75; simp only [initT, Nat.reduceAdd])
  repeat' (first
    | refine run_seq ?_
    | refine run_skip ?_
    | (refine run_region fun K hK => ?_; (try (simp (maxSteps := 10000000) only [hb0, C75r0, C75r1, rwp_nil, rwp_cons, aop, gpath, St.get, slotAt, sfx, eqP, St.put, addBlk, bin, isShift, sameK, arith, getsl, beqb, shed])); (repeat (first | (refine And.intro ?_ ?_; · (first | assumption | (intros; omega))))); with_reducible refine hK _ ?_; clear hK K)
    | (refine run_cond rfl (fun hc => ?_) (fun hc => ?_) <;> try (simp only [*, Bool.false_eq_true] at hc; done))
    | refine run_block ?_
    | refine run_ret ?_
    | refine run_nil ?_
    | refine run_exit ?_
    | refine blk_normal ?_
    | refine blk_ret ?_
    | refine blk_here ?_
    | refine blk_there rfl ?_
    | refine loop_exit ?_
    | refine loop_ret ?_
    | refine un_exit ?_
    | refine un_ret ?_
    | refine unE_exit ?_
    | refine unE_ret ?_
    | refine un_normal ?_)
  (refine run_regionL fun K hK => ?_; (try (simp (maxSteps := 10000000) only [C75r3, rwp_nil, rwp_cons, aop, gpath, St.get, slotAt, sfx, eqP, St.put, addBlk, bin, un, isShift, sameK, arith, shiftR, selB_or, shed, imp, Int.reduceToNat])); (repeat (refine And.intro ?_ ?_; · first | trivial | assumption | omega)); refine hK _ (⟨[⟨8, [], .c (.int .i64 k)⟩, ⟨0, [], .c (.int .i64 n)⟩, ⟨1, [], .c (.int .i64 r)⟩, ⟨2, [], .c (.int .i64 s)⟩], ⟨0, []⟩⟩) ((LeS.intro [] (fun i h => absurd h (Nat.not_lt_zero i)) trivial rfl (by simp only [slotsLe, slotAt, leV, leV1, leC, and_self, true_and, and_true]; exact hke.symm) trivial)) ?_; clear hK K)
  repeat' (first
    | refine run_seq ?_
    | refine run_skip ?_
    | (refine run_region fun K hK => ?_; (try (simp (maxSteps := 10000000) only [hq, C75r4, C75r5, rwp_nil, rwp_cons, aop, gpath, St.get, slotAt, sfx, eqP, St.put, addBlk, bin, isShift, sameK, arith, shed])); (repeat (first | (refine And.intro ?_ ?_; · (first | assumption | (intros; omega))))); with_reducible refine hK _ ?_; clear hK K)
    | (refine run_cond rfl (fun hc => ?_) (fun hc => ?_) <;> try (simp only [*, Bool.true_eq_false] at hc; done))
    | refine run_block ?_
    | refine run_ret ?_
    | refine run_nil ?_
    | refine run_exit ?_
    | refine blk_normal ?_
    | refine blk_ret ?_
    | refine blk_here ?_
    | refine blk_there rfl ?_
    | refine loop_exit ?_
    | refine loop_ret ?_
    | refine un_exit ?_
    | refine un_ret ?_
    | refine unE_exit ?_
    | refine unE_ret ?_
    | refine un_normal ?_)
  exact end_tmp2 rfl rfl rfl ⟨rfl, rfl⟩ ⟨rfl, rfl⟩ rfl rfl ⟨rfl, rfl⟩
theorem con75c (n r s k : Int) (hb0 : selB (selB (IntKind.i64.wrap (BitVec.ofInt IntKind.i64.bits n ||| BitVec.ofInt IntKind.i64.bits 1).toNat != 1) true (IntKind.i64.wrap (BitVec.ofInt IntKind.i64.bits r ||| BitVec.ofInt IntKind.i64.bits 63).toNat != 63)) true (IntKind.i64.wrap (BitVec.ofInt IntKind.i64.bits s ||| BitVec.ofInt IntKind.i64.bits 63).toNat != 63) = false) (hke : k = keyV n s) (hk : 0 ≤ k ∧ k < 128) (hq : decide (k < 2) = false) (hkw : IntKind.u64.wrap k = k) (hsz : 0 ≤ IntKind.i64.wrap (lenS k - 1)) (ht : (IntKind.i64.wrap (BitVec.ofInt IntKind.i64.bits s &&& BitVec.ofInt IntKind.i64.bits (IntKind.i64.wrap (IntKind.i64.wrap (1 * 2 ^ min (IntKind.i64.wrap (lenS k - 1)).toNat IntKind.i64.bits) - 1))).toNat == IntKind.i64.wrap (IntKind.i64.wrap (1 * 2 ^ min (IntKind.i64.wrap (lenS k - 1)).toNat IntKind.i64.bits) - 1)) = true) : Con Tryz.prog 75 [.c (.int .i64 n), .c (.int .i64 r), .c (.int .i64 s)] ⟨0, []⟩ (fun v H' => v = .tup [.c (.int .u64 0), .c (.int .i64 2)] ∧ H' = ⟨0, []⟩) := by
  (refine con_of_run mixed (fn := Tryz.f75) (by kernel_rfl) (by kernel_rfl) C75_ok (rs := [.tmp 6, .tmp 7]) (by kernel_rfl) (Nat.le_of_ble_eq_true (by kernel_rfl)) ?_; unfold C75; simp only [initT, Nat.reduceAdd])
  repeat' (first
    | refine run_seq ?_
    | refine run_skip ?_
    | (refine run_region fun K hK => ?_; (try (simp (maxSteps := 10000000) only [hb0, C75r0, C75r1, rwp_nil, rwp_cons, aop, gpath, St.get, slotAt, sfx, eqP, St.put, addBlk, bin, isShift, sameK, arith, getsl, beqb, shed])); (repeat (first | (refine And.intro ?_ ?_; · (first | assumption | (intros; omega))))); with_reducible refine hK _ ?_; clear hK K)
    | (refine run_cond rfl (fun hc => ?_) (fun hc => ?_) <;> try (simp only [*, Bool.false_eq_true] at hc; done))
    | refine run_block ?_
    | refine run_ret ?_
    | refine run_nil ?_
    | refine run_exit ?_
    | refine blk_normal ?_
    | refine blk_ret ?_
    | refine blk_here ?_
    | refine blk_there rfl ?_
    | refine loop_exit ?_
    | refine loop_ret ?_
    | refine un_exit ?_
    | refine un_ret ?_
    | refine unE_exit ?_
    | refine unE_ret ?_
    | refine un_normal ?_)
  (refine run_regionL fun K hK => ?_; (try (simp (maxSteps := 10000000) only [C75r3, rwp_nil, rwp_cons, aop, gpath, St.get, slotAt, sfx, eqP, St.put, addBlk, bin, un, isShift, sameK, arith, shiftR, selB_or, shed, imp, Int.reduceToNat])); (repeat (refine And.intro ?_ ?_; · first | trivial | assumption | omega)); refine hK _ (⟨[⟨8, [], .c (.int .i64 k)⟩, ⟨0, [], .c (.int .i64 n)⟩, ⟨1, [], .c (.int .i64 r)⟩, ⟨2, [], .c (.int .i64 s)⟩], ⟨0, []⟩⟩) ((LeS.intro [] (fun i h => absurd h (Nat.not_lt_zero i)) trivial rfl (by simp only [slotsLe, slotAt, leV, leV1, leC, and_self, true_and, and_true]; exact hke.symm) trivial)) ?_; clear hK K)
  repeat' (first
    | refine run_seq ?_
    | refine run_skip ?_
    | (refine run_region fun K hK => ?_; (try (simp (maxSteps := 10000000) only [hq, hkw, ht, C75r4, C75r6, C75r7, C75r8, C75r9, rwp_nil, rwp_cons, aop, gpath, St.get, slotAt, sfx, eqP, St.put, addBlk, bin, isShift, sameK, arith, shed, appL, argsOf, ptrsOf])); (repeat (first | (refine And.intro ?_ ?_; · (first | exact hsz | assumption | (intros; omega))) | ((first | (refine call_t _ (con109 k (by omega) (by omega) _) ?_; rintro v H' ⟨rfl, rfl⟩) | refine call_q _ (con109 k (by omega) (by omega) _) ?_ | refine call_g _ (imp_of (con109 k (by omega) (by omega) _)) ?_); simp (maxSteps := 10000000) only [rwp_nil, rwp_cons, rwpK_app, aop, gpath, St.get, slotAt, sfx, eqP, St.put, addBlk, bin, isShift, sameK, arith, shiftR, shed, imp]))); with_reducible refine hK _ ?_; clear hK K)
    | (refine run_cond rfl (fun hc => ?_) (fun hc => ?_) <;> try (simp only [*, Bool.true_eq_false, Bool.false_eq_true] at hc; done))
    | refine run_block ?_
    | refine run_ret ?_
    | refine run_nil ?_
    | refine run_exit ?_
    | refine blk_normal ?_
    | refine blk_ret ?_
    | refine blk_here ?_
    | refine blk_there rfl ?_
    | refine loop_exit ?_
    | refine loop_ret ?_
    | refine un_exit ?_
    | refine un_ret ?_
    | refine unE_exit ?_
    | refine unE_ret ?_
    | refine un_normal ?_)
  exact end_tmp2 rfl rfl rfl ⟨rfl, rfl⟩ ⟨rfl, rfl⟩ rfl rfl ⟨rfl, rfl⟩
def dblSt (one e w : Int) : St := ⟨[⟨13, [], .c (.int .i64 w)⟩, ⟨11, [], .c (.int .u64 one)⟩, ⟨12, [], .c (.int .i64 e)⟩], ⟨0, []⟩⟩
theorem con75d (n r s k x : Int) (hb0 : selB (selB (IntKind.i64.wrap (BitVec.ofInt IntKind.i64.bits n ||| BitVec.ofInt IntKind.i64.bits 1).toNat != 1) true (IntKind.i64.wrap (BitVec.ofInt IntKind.i64.bits r ||| BitVec.ofInt IntKind.i64.bits 63).toNat != 63)) true (IntKind.i64.wrap (BitVec.ofInt IntKind.i64.bits s ||| BitVec.ofInt IntKind.i64.bits 63).toNat != 63) = false) (hke : k = keyV n s) (hk : 0 ≤ k ∧ k < 128) (hq : decide (k < 2) = false) (hkw : IntKind.u64.wrap k = k) (hsz : 0 ≤ IntKind.i64.wrap (lenS k - 1)) (hs1 : 1 ≤ sizeV k) (htp : 0 ≤ IntKind.i64.wrap (BitVec.ofInt IntKind.i64.bits s &&& BitVec.ofInt IntKind.i64.bits (IntKind.i64.wrap (IntKind.i64.wrap (1 * 2 ^ min (IntKind.i64.wrap (lenS k - 1)).toNat IntKind.i64.bits) - 1))).toNat) (ht : (IntKind.i64.wrap (BitVec.ofInt IntKind.i64.bits s &&& BitVec.ofInt IntKind.i64.bits (IntKind.i64.wrap (IntKind.i64.wrap (1 * 2 ^ min (IntKind.i64.wrap (lenS k - 1)).toNat IntKind.i64.bits) - 1))).toNat == IntKind.i64.wrap (IntKind.i64.wrap (1 * 2 ^ min (IntKind.i64.wrap (lenS k - 1)).toNat IntKind.i64.bits) - 1)) = false)
    (h110 : Con Tryz.prog 110 [.c (.int .u64 (IntKind.u64.wrap (IntKind.u64.wrap (2 * 2 ^ min (IntKind.i64.wrap (BitVec.ofInt IntKind.i64.bits s &&& BitVec.ofInt IntKind.i64.bits (IntKind.i64.wrap (IntKind.i64.wrap (1 * 2 ^ min (IntKind.i64.wrap (lenS k - 1)).toNat IntKind.i64.bits) - 1))).toNat).toNat IntKind.u64.bits) - 1))), .c (.int .i64 (IntKind.i64.wrap (BitVec.ofInt IntKind.i64.bits r &&& BitVec.ofInt IntKind.i64.bits (IntKind.i64.wrap (IntKind.i64.wrap (1 * 2 ^ min (IntKind.i64.wrap (lenS k - 1)).toNat IntKind.i64.bits) - 1))).toNat)), .c (.int .i64 (IntKind.i64.wrap (1 * 2 ^ min (IntKind.i64.wrap (lenS k - 1)).toNat IntKind.i64.bits)))] ⟨0, []⟩ (fun v H' => v = .tup [.c (.int .u64 x), .c (.int .i64 (rorE (IntKind.u64.wrap (IntKind.u64.wrap (2 * 2 ^ min (IntKind.i64.wrap (BitVec.ofInt IntKind.i64.bits s &&& BitVec.ofInt IntKind.i64.bits (IntKind.i64.wrap (IntKind.i64.wrap (1 * 2 ^ min (IntKind.i64.wrap (lenS k - 1)).toNat IntKind.i64.bits) - 1))).toNat).toNat IntKind.u64.bits) - 1)) (IntKind.i64.wrap (BitVec.ofInt IntKind.i64.bits r &&& BitVec.ofInt IntKind.i64.bits (IntKind.i64.wrap (IntKind.i64.wrap (1 * 2 ^ min (IntKind.i64.wrap (lenS k - 1)).toNat IntKind.i64.bits) - 1))).toNat) (IntKind.i64.wrap (1 * 2 ^ min (IntKind.i64.wrap (lenS k - 1)).toNat IntKind.i64.bits))))] ∧ H' = ⟨0, []⟩)) :
    Con Tryz.prog 75 [.c (.int .i64 n), .c (.int .i64 r), .c (.int .i64 s)] ⟨0, []⟩ (fun v H' => v = .tup [.c (.int .u64 (dblM 64 x (sizeV k))), .c (.int .i64 (rorE (IntKind.u64.wrap (IntKind.u64.wrap (2 * 2 ^ min (IntKind.i64.wrap (BitVec.ofInt IntKind.i64.bits s &&& BitVec.ofInt IntKind.i64.bits (IntKind.i64.wrap (IntKind.i64.wrap (1 * 2 ^ min (IntKind.i64.wrap (lenS k - 1)).toNat IntKind.i64.bits) - 1))).toNat).toNat IntKind.u64.bits) - 1)) (IntKind.i64.wrap (BitVec.ofInt IntKind.i64.bits r &&& BitVec.ofInt IntKind.i64.bits (IntKind.i64.wrap (IntKind.i64.wrap (1 * 2 ^ min (IntKind.i64.wrap (lenS k - 1)).toNat IntKind.i64.bits) - 1))).toNat) (IntKind.i64.wrap (1 * 2 ^ min (IntKind.i64.wrap (lenS k - 1)).toNat IntKind.i64.bits))))] ∧ H' = ⟨0, []⟩) := by
  (refine con_of_run mixed (fn := Tryz.f75) (by kernel_rfl) (by kernel_rfl) C75_ok (rs := [.tmp 6, .tmp 7]) (by kernel_rfl) (Nat.le_of_ble_eq_true (by kernel_rfl)) ?_; unfold C75; simp only [initT, Nat.reduceAdd])
  repeat' (first
    | refine run_seq ?_
    | refine run_skip ?_
    | (refine run_region fun K hK => ?_; (try (simp (maxSteps := 10000000) only [hb0, C75r0, C75r1, rwp_nil, rwp_cons, aop, gpath, St.get, slotAt, sfx, eqP, St.put, addBlk, bin, isShift, sameK, arith, getsl, beqb, shed])); (repeat (first | (refine And.intro ?_ ?_; · (first | assumption | (intros; omega))))); with_reducible refine hK _ ?_; clear hK K)
    | (refine run_cond rfl (fun hc => ?_) (fun hc => ?_) <;> try (simp only [*, Bool.false_eq_true] at hc; done))
    | refine run_block ?_
    | refine run_ret ?_
    | refine run_nil ?_
    | refine run_exit ?_
    | refine blk_normal ?_
    | refine blk_ret ?_
    | refine blk_here ?_
    | refine blk_there rfl ?_
    | refine loop_exit ?_
    | refine loop_ret ?_
    | refine un_exit ?_
    | refine un_ret ?_
    | refine unE_exit ?_
    | refine unE_ret ?_
    | refine un_normal ?_)
  (refine run_regionL fun K hK => ?_; (try (simp (maxSteps := 10000000) only [C75r3, rwp_nil, rwp_cons, aop, gpath, St.get, slotAt, sfx, eqP, St.put, addBlk, bin, un, isShift, sameK, arith, shiftR, selB_or, shed, imp, Int.reduceToNat])); (repeat (refine And.intro ?_ ?_; · first | trivial | assumption | omega)); refine hK _ (⟨[⟨8, [], .c (.int .i64 k)⟩, ⟨0, [], .c (.int .i64 n)⟩, ⟨1, [], .c (.int .i64 r)⟩, ⟨2, [], .c (.int .i64 s)⟩], ⟨0, []⟩⟩) ((LeS.intro [] (fun i h => absurd h (Nat.not_lt_zero i)) trivial rfl (by simp only [slotsLe, slotAt, leV, leV1, leC, and_self, true_and, and_true]; exact hke.symm) trivial)) ?_; clear hK K)
  repeat' (first
    | refine run_seq ?_
    | refine run_skip ?_
    | (refine run_region fun K hK => ?_; (try (simp (maxSteps := 10000000) only [hq, hkw, ht, C75r4, C75r6, C75r7, C75r8, C75r10, rwp_nil, rwp_cons, aop, gpath, St.get, slotAt, sfx, eqP, St.put, addBlk, bin, isShift, sameK, arith, shiftR, shed, imp, appL, argsOf, ptrsOf])); (repeat (first | (refine And.intro ?_ ?_; · (first | exact hsz | exact htp | assumption | (intros; omega))) | ((first | (refine call_t _ (con109 k (by omega) (by omega) _) ?_; rintro v H' ⟨rfl, rfl⟩) | refine call_q _ (con109 k (by omega) (by omega) _) ?_ | refine call_g _ (imp_of (con109 k (by omega) (by omega) _)) ?_ | (refine call_t _ (h110) ?_; rintro v H' ⟨rfl, rfl⟩) | refine call_q _ (h110) ?_ | refine call_g _ (imp_of (h110)) ?_); simp (maxSteps := 10000000) only [rwp_nil, rwp_cons, rwpK_app, aop, gpath, St.get, slotAt, sfx, eqP, St.put, addBlk, bin, isShift, sameK, arith, shiftR, shed, imp, nthA]))); with_reducible refine hK _ ?_; clear hK K)
    | (refine run_cond rfl (fun hc => ?_) (fun hc => ?_) <;> try (simp only [*, Bool.false_eq_true] at hc; done))
    | refine run_block ?_
    | refine run_ret ?_
    | refine run_nil ?_
    | refine run_exit ?_
    | refine blk_normal ?_
    | refine blk_ret ?_
    | refine blk_here ?_
    | refine blk_there rfl ?_
    | refine loop_exit ?_
    | refine loop_ret ?_
    | refine un_exit ?_
    | refine un_ret ?_
    | refine unE_exit ?_
    | refine unE_ret ?_
    | refine un_normal ?_)
  generalize hE : rorE (IntKind.u64.wrap (IntKind.u64.wrap (2 * 2 ^ min (IntKind.i64.wrap (BitVec.ofInt IntKind.i64.bits s &&& BitVec.ofInt IntKind.i64.bits (IntKind.i64.wrap (IntKind.i64.wrap (1 * 2 ^ min (IntKind.i64.wrap (lenS k - 1)).toNat IntKind.i64.bits) - 1))).toNat).toNat IntKind.u64.bits) - 1)) (IntKind.i64.wrap (BitVec.ofInt IntKind.i64.bits r &&& BitVec.ofInt IntKind.i64.bits (IntKind.i64.wrap (IntKind.i64.wrap (1 * 2 ^ min (IntKind.i64.wrap (lenS k - 1)).toNat IntKind.i64.bits) - 1))).toNat) (IntKind.i64.wrap (1 * 2 ^ min (IntKind.i64.wrap (lenS k - 1)).toNat IntKind.i64.bits)) = E
  (refine run_regionL fun K hK => ?_; (try (simp (maxSteps := 10000000) only [C75r11, rwp_nil, rwp_cons, aop, gpath, St.get, slotAt, sfx, eqP, St.put, addBlk, shed])); (repeat (refine And.intro ?_ ?_; · first | trivial | assumption | omega)); refine hK _ (dblSt x E (sizeV k)) ((LeS.intro [] (fun i h => absurd h (Nat.not_lt_zero i)) trivial rfl (by simp only [dblSt, slotsLe, slotAt, leV, leV1, leC, and_self, sizeV]) trivial)) ?_; clear hK K)
  generalize hX : dblM 64 x (sizeV k) = X
  refine run_block ?_
  refine run_loop (fun m st => ∃ one w : Int, st = dblSt one E w ∧ dblM m one w = X ∧ 1 ≤ w ∧ 64 - w ≤ m) 64 ⟨_, _, rfl, hX, hs1, by omega⟩ ?_
  rintro m st ⟨one, w, rfl, hT, hw, hm⟩
  simp only [dblSt]
  have hw0 : 0 ≤ w := by omega
  repeat' (first
    | refine run_seq ?_
    | refine run_skip ?_
    | (refine run_region fun K hK => ?_; (try (simp (maxSteps := 10000000) only [C75r12, C75r13, C75r14, C75r15, rwp_nil, rwp_cons, aop, gpath, St.get, slotAt, sfx, eqP, St.put, addBlk, bin, isShift, sameK, arith, shiftR, shed, imp])); (repeat (first | (refine And.intro ?_ ?_; · (first | assumption | (intros; omega))))); with_reducible refine hK _ ?_; clear hK K)
    | (refine run_cond rfl (fun hc => ?_) (fun hc => ?_) <;> try (simp only [*, Bool.true_eq_false, Bool.false_eq_true, Bool.not_true, Bool.not_false, Bool.true_or, Bool.or_true, Bool.false_or, Bool.or_false, Bool.false_and, Bool.and_false, bne_self_eq_false, beq_self_eq_true] at hc; done))
    | refine run_block ?_
    | refine run_ret ?_
    | refine run_nil ?_
    | refine run_exit ?_
    | refine blk_normal ?_
    | refine blk_ret ?_
    | refine blk_here ?_
    | refine blk_there rfl ?_
    | refine loop_exit ?_
    | refine loop_ret ?_
    | refine un_exit ?_
    | refine un_ret ?_
    | refine unE_exit ?_
    | refine unE_ret ?_
    | refine un_normal ?_)
  · have hlt : w < 64 := by simpa using ‹decide (w < 64) = true›
    obtain ⟨m', hm'⟩ : ∃ m', m = m' + 1 := ⟨m - 1, by omega⟩
    subst hm'
    have hw2 : IntKind.i64.wrap (w * 2) = w * 2 := by rw [IntKind.wrap_i64]; omega
    unfold dblM at hT
    rw [if_pos hlt] at hT
    exact loop_normal m' (dblSt _ E (IntKind.i64.wrap (w * 2))) (Nat.lt_succ_self _) (LeS.intro [] (fun i h => absurd h (Nat.not_lt_zero i)) trivial rfl (by simp only [dblSt, slotsLe, slotAt, leV, leV1, leC, and_self]) trivial) ⟨_, _, rfl, hT, by rw [hw2]; omega, by rw [hw2]; omega⟩
  · have hge : ¬ w < 64 := by simpa using ‹decide (w < 64) = false›
    have hT' : one = X := by
      cases m with
      | zero => exact hT
      | succ m => unfold dblM at hT; rw [if_neg hge] at hT; exact hT
    exact end_tmp2 rfl rfl rfl ⟨rfl, rfl⟩ ⟨rfl, rfl⟩ rfl rfl ⟨by rw [hT'], rfl⟩
theorem con75 (n r s : Int) : ∃ e x : Int, (e = 0 → (((orS n 1 != 1) || (orS r 63 != 63)) || (orS s 63 != 63)) = false) ∧ Con Tryz.prog 75 [.c (.int .i64 n), .c (.int .i64 r), .c (.int .i64 s)] ⟨0, []⟩ (fun v H' => v = .tup [.c (.int .u64 x), .c (.int .i64 e)] ∧ H' = ⟨0, []⟩) := by
  cases hb : (((orS n 1 != 1) || (orS r 63 != 63)) || (orS s 63 != 63))
  · have hb0 : selB (selB (orS n 1 != 1) true (orS r 63 != 63)) true (orS s 63 != 63) = false := by rw [selB_or, selB_or]; exact hb
    have hk := key_rng hb
    obtain ⟨k, hke⟩ : ∃ k, k = keyV n s := ⟨_, rfl⟩
    rw [← hke] at hk
    cases hq : decide (k < 2)
    · have hkw : IntKind.u64.wrap k = k := by rw [IntKind.wrap_u64]; omega
      have hkn : ((k.toNat : Nat) : Int) = k := by omega
      have hsz := size_dec ⟨k.toNat, by omega⟩ (by simp only [decide_eq_false_iff_not] at hq; show 2 ≤ k.toNat; omega)
      simp only [hkn] at hsz
      have htp := and_rng (BitVec.ofInt 64 s) (IntKind.i64.wrap (sizeV k - 1)) hsz.2.2.1 hsz.2.2.2
      have hrp := and_rng (BitVec.ofInt 64 r) (IntKind.i64.wrap (sizeV k - 1)) hsz.2.2.1 hsz.2.2.2
      cases ht : (IntKind.i64.wrap (BitVec.ofInt IntKind.i64.bits s &&& BitVec.ofInt IntKind.i64.bits (IntKind.i64.wrap (IntKind.i64.wrap (1 * 2 ^ min (IntKind.i64.wrap (lenS k - 1)).toNat IntKind.i64.bits) - 1))).toNat == IntKind.i64.wrap (IntKind.i64.wrap (1 * 2 ^ min (IntKind.i64.wrap (lenS k - 1)).toNat IntKind.i64.bits) - 1))
      · obtain ⟨x, h110⟩ := con110 (IntKind.u64.wrap (IntKind.u64.wrap (2 * 2 ^ min (IntKind.i64.wrap (BitVec.ofInt IntKind.i64.bits s &&& BitVec.ofInt IntKind.i64.bits (IntKind.i64.wrap (IntKind.i64.wrap (1 * 2 ^ min (IntKind.i64.wrap (lenS k - 1)).toNat IntKind.i64.bits) - 1))).toNat).toNat IntKind.u64.bits) - 1)) (IntKind.i64.wrap (BitVec.ofInt IntKind.i64.bits r &&& BitVec.ofInt IntKind.i64.bits (IntKind.i64.wrap (IntKind.i64.wrap (1 * 2 ^ min (IntKind.i64.wrap (lenS k - 1)).toNat IntKind.i64.bits) - 1))).toNat) (sizeV k) (Int.le_trans (Int.le_of_lt hrp.2) (by decide))
        exact ⟨_, _, fun _ => rfl, con75d n r s k x hb0 hke hk hq hkw hsz.1 hsz.2.1 htp.1 ht h110⟩
      · exact ⟨_, _, fun _ => rfl, con75c n r s k hb0 hke hk hq hkw hsz.1 ht⟩
    · exact ⟨_, _, fun _ => rfl, con75b n r s k hb0 hke hq⟩
  · exact ⟨_, _, fun h => absurd h (by decide), con75a n r s (by rw [selB_or, selB_or]; exact hb)⟩
noncomputable def maskE (n r s : Int) : Int := Classical.choose (con75 n r s)
theorem con75_e (n r s : Int) : ∃ x : Int, Con Tryz.prog 75 [.c (.int .i64 n), .c (.int .i64 r), .c (.int .i64 s)] ⟨0, []⟩ (fun v H' => v = .tup [.c (.int .u64 x), .c (.int .i64 (maskE n r s))] ∧ H' = ⟨0, []⟩) := by
  obtain ⟨x, h⟩ := Classical.choose_spec (con75 n r s)
  exact ⟨x, h.2⟩
theorem maskE_ok {n r s : Int} (h : maskE n r s = 0) : (((orS n 1 != 1) || (orS r 63 != 63)) || (orS s 63 != 63)) = false := by
  obtain ⟨x, h'⟩ := Classical.choose_spec (con75 n r s)
  exact h'.1 h
noncomputable def logImmOk (i : InsnS) : Bool := logicOk i && (maskE i.amount i.imm i.imm2 == 0)
theorem con74 (i : InsnS) (H : Heap) : Con Tryz.prog 74 [.agg (insnL i)] H (fun v H' => v = .c (.bool (logImmOk i)) ∧ H' = H) := by
  obtain ⟨x, h0⟩ := con75_e i.amount i.imm i.imm2
  have h : ∀ H, Con Tryz.prog 75 [.c (.int .i64 i.amount), .c (.int .i64 i.imm), .c (.int .i64 i.imm2)] H (fun v H' => v = .tup [.c (.int .u64 x), .c (.int .i64 (maskE i.amount i.imm i.imm2))] ∧ H' = H) := fun H => by
    refine Con.pure (Con.forget h0 ?_) (by simp only [leArgs, leV, leV1, leC, and_self]) rfl H
    rintro v H' ⟨rfl, rfl⟩
    exact ⟨_, ⟨0, []⟩, [], fun i h => absurd h (Nat.not_lt_zero i), trivial, rfl, trivial, by simp only [leV, leV1, leC, leVL, and_self], rfl, rfl⟩
  refine Con.pure ?_ (by simp only [leArgs, leV, leV1, insnL, leSegs, leSeg, leC, and_self]) rfl H
  (refine con_of_run mixed (fn := Tryz.f74) (by kernel_rfl) (by kernel_rfl) C74_ok (rs := [.tmp 2]) (by kernel_rfl) (Nat.le_of_ble_eq_true (by kernel_rfl)) ?_; unfold C74; simp only [initT])
  repeat' (first
    | refine run_seq ?_
    | refine run_skip ?_
    | (refine run_region fun K hK => ?_; (try (simp (maxSteps := 10000000) only [insnL, C74r0, C74r1, C74r2, rwp_nil, rwp_cons, aop, gpath, St.get, slotAt, sfx, eqP, segsOf, St.put, addBlk, getB, ld1, ldn, rowNeed, segAt, nsub, shed, addN, Seg.size, sizes, appL, argsOf, ptrsOf, cut, takeS, dropS, Nat.reduceAdd])); (repeat (first | (refine And.intro ?_ ?_; · decide) | ((first | (refine call_t _ (con73 i _) ?_; rintro v H' ⟨rfl, rfl⟩) | refine call_q _ (con73 i _) ?_ | refine call_g _ (imp_of (con73 i _)) ?_ | (refine call_t _ (h _) ?_; rintro v H' ⟨rfl, rfl⟩) | refine call_q _ (h _) ?_ | refine call_g _ (imp_of (h _)) ?_); simp (maxSteps := 10000000) only [rwp_nil, rwp_cons, rwpK_app, aop, gpath, St.get, slotAt, sfx, eqP, St.put, addBlk, bin, isShift, sameK, arith, getsl, selB_and, beqb, shed, nthA]))); with_reducible refine hK _ ?_; clear hK K)
    | (refine run_cond rfl (fun hc => ?_) (fun hc => ?_) <;> try (simp only [*, Bool.true_eq_false, Bool.false_eq_true, Bool.not_true, Bool.not_false, Bool.true_or, Bool.or_true, Bool.false_or, Bool.or_false, Bool.false_and, Bool.and_false, bne_self_eq_false, beq_self_eq_true] at hc; done))
    | refine run_block ?_
    | refine run_ret ?_
    | refine run_nil ?_
    | refine run_exit ?_
    | refine blk_normal ?_
    | refine blk_ret ?_
    | refine blk_here ?_
    | refine blk_there rfl ?_
    | refine loop_exit ?_
    | refine loop_ret ?_
    | refine un_exit ?_
    | refine un_ret ?_
    | refine unE_exit ?_
    | refine unE_ret ?_
    | refine un_normal ?_)
  exact end_tmp1 rfl rfl rfl ⟨rfl, rfl⟩
end Go.Proofs.YteikpddilabppaaGreatR
