/- chapter 3: what the laws' functions ask. -/
import Derived.Test.YteikpddilabppaaGreatRWo
namespace Go.Proofs.YteikpddilabppaaGreatR
open Go.AM
set_option maxRecDepth 100000
set_option linter.unusedSimpArgs false
set_option linter.unusedVariables false
def Back1 : Prop := ∀ w : Int, 0 ≤ w → w < 4294967296 → decodeS w = nilI ∨ ((decodeS w).op ≠ 0 ∧ encodeS (decodeS w) = (w, 0))
def rngI (x : InsnS) : Prop := (-9223372036854775808 ≤ x.amount ∧ x.amount < 9223372036854775808) ∧ (-9223372036854775808 ≤ x.imm ∧ x.imm < 9223372036854775808) ∧ (-9223372036854775808 ≤ x.imm2 ∧ x.imm2 < 9223372036854775808)
def Back2 : Prop := ∀ x : InsnS, rngI x → ((encodeS x).2 = 0 ∧ decodeS (encodeS x).1 = x) ∨ ((encodeS x).2 ≠ 0 ∧ (encodeS x).1 = 0)
theorem eqI_iff (a b : InsnS) : eqI a b = true ↔ a = b := by
  cases a; cases b
  simp [eqI, InsnS.mk.injEq]
theorem eqI_self (a : InsnS) : eqI a a = true := (eqI_iff a a).2 rfl
theorem eqI_ne {a b : InsnS} (h : a ≠ b) : eqI a b = false := by
  cases e : eqI a b with
  | false => rfl
  | true => exact absurd ((eqI_iff a b).1 e) h
theorem apart (hb : Back2) (x y : InsnS) (hx : rngI x) (hy : rngI y) : (true && ((((encodeS x).2 != 0) || ((encodeS y).2 != 0)) || (((encodeS x).1 == (encodeS y).1) == eqI x y))) = true := by
  rcases hb x hx with ⟨h1, h2⟩ | ⟨h1, h2⟩
  · rcases hb y hy with ⟨h3, h4⟩ | ⟨h3, h4⟩
    · by_cases e : x = y
      · subst e
        simp [eqI_self]
      · have hn : (encodeS x).1 ≠ (encodeS y).1 := fun h => e (by rw [← h2, ← h4, h])
        have hn' : ((encodeS x).1 == (encodeS y).1) = false := by simpa using hn
        rw [hn', eqI_ne e]
        simp
    · have : ((encodeS y).2 != 0) = true := by simpa using h3
      rw [this]
      simp
  · have : ((encodeS x).2 != 0) = true := by simpa using h1
    rw [this]
    simp
theorem con5 (hb : Back2) (x y : InsnS) (hx : rngI x) (hy : rngI y) (H : Heap) : Con Tryz.prog 5 [.agg (insnL x), .agg (insnL y)] H (fun v H' => v = .c (.bool true) ∧ H' = H) := by
  refine Con.pure ?_ (by simp only [leArgs, leV, leV1, insnL, leSegs, leSeg, leC, and_self]) rfl H
  (refine con_of_run mixed (fn := Tryz.f5) (by kernel_rfl) (by kernel_rfl) C5_ok (rs := [.tmp 4]) (by kernel_rfl) (Nat.le_of_ble_eq_true (by kernel_rfl)) ?_; unfold C5; simp only [initT, Nat.reduceAdd])
  repeat' (first
    | refine run_seq ?_
    | refine run_skip ?_
    | (refine run_region fun K hK => ?_; (try (simp (maxSteps := 10000000) only [insnL, Bool.not_true, C5r0, C5r1, C5r2, C5r4, C5r5, C5r6, rwp_nil, rwp_cons, aop, gpath, St.get, slotAt, sfx, eqP, segsOf, St.put, addBlk, getB, ldn, rowNeed, nsub, bin, un, eqB, isShift, sameK, arith, getsl, selB_or, selB_and, beqb, shed, Seg.size, sizes, appL, argsOf, ptrsOf, cut, takeS, dropS, negIf, eqS, eqF, eqS1, Nat.reduceAdd])); (repeat (first | (refine And.intro ?_ ?_; · decide) | ((first | (refine call_t _ (con7 _) ?_; rintro v H' ⟨rfl, rfl⟩) | refine call_q _ (con7 _) ?_ | refine call_g _ (imp_of (con7 _)) ?_ | (refine call_t _ (con8 x _) ?_; rintro v H' ⟨rfl, rfl⟩) | refine call_q _ (con8 x _) ?_ | refine call_g _ (imp_of (con8 x _)) ?_ | (refine call_t _ (con8 y _) ?_; rintro v H' ⟨rfl, rfl⟩) | refine call_q _ (con8 y _) ?_ | refine call_g _ (imp_of (con8 y _)) ?_); simp (maxSteps := 10000000) only [rwp_nil, rwp_cons, rwpK_app, aop, gpath, St.get, slotAt, sfx, eqP, St.put, addBlk, shed, nthA]))); with_reducible refine hK _ ?_; clear hK K)
    | (refine run_cond rfl (fun hc => ?_) (fun hc => ?_) <;> try (simp only [*, Bool.false_eq_true] at hc; done))
    | refine run_block ?_
    | refine run_ret ?_
    | refine run_nil ?_
    | refine run_exit ?_
    | refine blk_normal ?_
    | refine blk_ret ?_
    | refine blk_here ?_
    | refine blk_there rfl ?_
    | refine loop_exit ?_
    | refine loop_ret ?_
    | refine un_exit ?_
    | refine un_ret ?_
    | refine unE_exit ?_
    | refine unE_ret ?_
    | refine un_normal ?_)
  exact end_tmp1 rfl rfl rfl ⟨congrArg (fun b => AV.c (.bool b)) (apart hb x y hx hy), rfl⟩
theorem bits_apart (hb : Back1) {w v : Int} (hw : 0 ≤ w) (hw' : w < 4294967296) (hv : 0 ≤ v) (hv' : v < 4294967296) (hne : v ≠ w) : (true && ((!eqI (decodeS w) (decodeS v)) || eqI (decodeS w) nilI)) = true := by
  by_cases e : decodeS w = decodeS v
  · rcases hb w hw hw' with h | ⟨h1, h2⟩
    · rw [h, eqI_self nilI]
      simp
    · rcases hb v hv hv' with g | ⟨g1, g2⟩
      · rw [e, g] at h1
        exact absurd rfl h1
      · rw [e] at h2
        rw [h2] at g2
        exact absurd (Prod.mk.inj g2).1.symm hne
  · rw [eqI_ne e]
    simp
theorem xor_bit (w b : Int) (hw : 0 ≤ w) (hw' : w < 4294967296) (hb : 0 ≤ b) (hb' : b < 32) : IntKind.u32.wrap (BitVec.ofInt IntKind.u32.bits w ^^^ BitVec.ofInt IntKind.u32.bits (IntKind.u32.wrap (1 * 2 ^ min b.toNat IntKind.u32.bits))).toNat ≠ w := by
  intro h
  obtain ⟨n, rfl⟩ := Int.eq_ofNat_of_zero_le hw
  have h2 : BitVec.ofInt 32 (IntKind.u32.wrap (BitVec.ofInt 32 (n : Int) ^^^ BitVec.ofInt 32 (IntKind.u32.wrap (1 * 2 ^ min b.toNat 32))).toNat) = BitVec.ofInt 32 (n : Int) := congrArg (BitVec.ofInt 32) h
  have h3 : ∀ z : BitVec 32, BitVec.ofInt 32 (IntKind.u32.wrap (z.toNat : Int)) = z := fun z => by
    apply BitVec.eq_of_toNat_eq
    have hz := z.isLt
    rw [IntKind.wrap_u32, BitVec.toNat_ofInt]
    omega
  rw [h3] at h2
  have h4 : BitVec.ofInt 32 (IntKind.u32.wrap (1 * 2 ^ min b.toNat 32)) = 0#32 := by
    have := congrArg (fun z => BitVec.ofInt 32 (n : Int) ^^^ z) h2
    simpa [← BitVec.xor_assoc] using this
  have h5 : ∀ k : Fin 32, BitVec.ofInt 32 (IntKind.u32.wrap (1 * 2 ^ min k.val 32)) ≠ 0#32 := by decide +kernel
  exact h5 ⟨b.toNat, by omega⟩ h4
theorem con6 (hB : Back1) (w b : Int) (hw : 0 ≤ w) (hw' : w < 4294967296) (hb : -9223372036854775808 ≤ b) (hb' : b ≤ 9223372036854775807) (H : Heap) : Con Tryz.prog 6 [.c (.int .u32 w), .c (.int .i64 b)] H (fun v H' => v = .c (.bool true) ∧ H' = H) := by
  refine Con.pure ?_ (by simp only [leArgs, leV, leV1, leC, and_self]) rfl H
  obtain ⟨dw, hdw⟩ : ∃ dw, dw = decodeS w := ⟨_, rfl⟩
  have hw10 : ∀ H, Con Tryz.prog 10 [.c (.int .u32 w)] H (fun v H' => v = .agg (insnL dw) ∧ H' = H) := fun H => by rw [hdw]; exact con10 w H
  (refine con_of_run mixed (fn := Tryz.f6) (by kernel_rfl) (by kernel_rfl) C6_ok (rs := [.tmp 4]) (by kernel_rfl) (Nat.le_of_ble_eq_true (by kernel_rfl)) ?_; unfold C6; simp only [initT, Nat.reduceAdd])
  repeat' (first
    | refine run_seq ?_
    | refine run_skip ?_
    | (refine run_region fun K hK => ?_; (try (simp (maxSteps := 10000000) only [Bool.not_true, C6r0, C6r1, C6r2, C6r4, C6r5, C6r6, rwp_nil, rwp_cons, aop, gpath, St.get, slotAt, sfx, eqP, St.put, addBlk, bin, un, isShift, sameK, arith, shed, appL, argsOf, ptrsOf])); (repeat (first | (refine And.intro ?_ ?_; · decide) | ((first | (refine call_t _ (con7 _) ?_; rintro v H' ⟨rfl, rfl⟩) | refine call_q _ (con7 _) ?_ | refine call_g _ (imp_of (con7 _)) ?_ | (refine call_t _ (hw10 _) ?_; rintro v H' ⟨rfl, rfl⟩) | refine call_q _ (hw10 _) ?_ | refine call_g _ (imp_of (hw10 _)) ?_); simp (maxSteps := 10000000) only [insnL, rwp_nil, rwp_cons, rwpK_app, aop, gpath, St.get, slotAt, sfx, eqP, St.put, addBlk, getB, setB, stn, setRow, rowNeed, nsub, shed, Nat.beq, Seg.size, sizes, takeS, dropS, putS, exOk, Nat.reduceAdd, List.append_nil, List.nil_append]))); with_reducible refine hK _ ?_; clear hK K)
    | (refine run_cond rfl (fun hc => ?_) (fun hc => ?_) <;> try (simp only [*, Bool.false_eq_true] at hc; done))
    | refine run_block ?_
    | refine run_ret ?_
    | refine run_nil ?_
    | refine run_exit ?_
    | refine blk_normal ?_
    | refine blk_ret ?_
    | refine blk_here ?_
    | refine blk_there rfl ?_
    | refine loop_exit ?_
    | refine loop_ret ?_
    | refine un_exit ?_
    | refine un_ret ?_
    | refine unE_exit ?_
    | refine unE_ret ?_
    | refine un_normal ?_)
  · have h0 : b < 0 := of_decide_eq_true hc
    obtain ⟨b', hb'e⟩ : ∃ b', b' = IntKind.i64.wrap (0 - IntKind.i64.wrap (b + 1)) := ⟨_, rfl⟩
    have e1 : IntKind.i64.wrap (0 - IntKind.i64.wrap (b + 1)) = -(b + 1) := by
      have : IntKind.i64.wrap (b + 1) = b + 1 := by rw [IntKind.wrap_i64]; omega
      rw [this, IntKind.wrap_i64]
      omega
    have hb0 : 0 ≤ b' := by rw [hb'e, e1]; omega
    have hr : 0 ≤ b'.tmod 32 ∧ b'.tmod 32 < 32 := ⟨Int.tmod_nonneg _ (by omega), Int.tmod_lt_of_pos _ (by decide)⟩
    have hr1 : 0 ≤ b'.tmod 32 := hr.1
    obtain ⟨dv, hE, hv⟩ : ∃ dv, (true && ((!eqI dw dv) || eqI dw nilI)) = true ∧ ∀ H, Con Tryz.prog 10 [.c (.int .u32 (IntKind.u32.wrap (BitVec.ofInt IntKind.u32.bits w ^^^ BitVec.ofInt IntKind.u32.bits (IntKind.u32.wrap (1 * 2 ^ min (b'.tmod 32).toNat IntKind.u32.bits))).toNat))] H (fun v H' => v = .agg (insnL dv) ∧ H' = H) := by
      refine ⟨decodeS (IntKind.u32.wrap (BitVec.ofInt IntKind.u32.bits w ^^^ BitVec.ofInt IntKind.u32.bits (IntKind.u32.wrap (1 * 2 ^ min (b'.tmod 32).toNat IntKind.u32.bits))).toNat), ?_, fun H => con10 _ H⟩
      rw [hdw]
      exact bits_apart hB hw hw' (by rw [IntKind.wrap_u32]; omega) (by rw [IntKind.wrap_u32]; omega) (xor_bit w _ hw hw' hr.1 hr.2)
    rw [← hb'e]
    clear hb'e e1
    repeat' (first
    | refine run_seq ?_
    | refine run_skip ?_
    | (refine run_region fun K hK => ?_; (try (simp (maxSteps := 10000000) only [ne_eq, C6r7, C6r8, rwp_nil, rwp_cons, aop, gpath, St.get, slotAt, sfx, eqP, St.put, addBlk, getB, ldn, rowNeed, nsub, bin, isShift, sameK, arith, shiftR, getsl, selB_or, selB_and, beqb, shed, Seg.size, imp, appL, argsOf, ptrsOf, cut, takeS, dropS, partsOf, fillS, negIf, eqS, eqF, eqS1, Nat.reduceAdd])); (repeat (first | (refine And.intro ?_ ?_; · (first | exact hr1 | decide | (intros; decide) | (intros; omega))) | ((first | (refine call_t _ (hv _) ?_; rintro v H' ⟨rfl, rfl⟩) | refine call_q _ (hv _) ?_ | refine call_g _ (imp_of (hv _)) ?_); simp (maxSteps := 10000000) only [insnL, rwp_nil, rwp_cons, rwpK_app, aop, gpath, St.get, slotAt, sfx, eqP, St.put, addBlk, getB, setB, stn, setRow, rowNeed, nsub, shed, Nat.beq, Seg.size, sizes, takeS, dropS, putS, exOk, Nat.reduceAdd, List.append_nil, List.nil_append]))); with_reducible refine hK _ ?_; clear hK K)
    | (refine run_cond rfl (fun hc => ?_) (fun hc => ?_) <;> try (simp only [*, Bool.true_eq_false, Bool.false_eq_true, Bool.not_true, Bool.not_false, Bool.true_or, Bool.or_true, Bool.false_or, Bool.or_false, Bool.false_and, Bool.and_false, bne_self_eq_false, beq_self_eq_true] at hc; done))
    | refine run_block ?_
    | refine run_ret ?_
    | refine run_nil ?_
    | refine run_exit ?_
    | refine blk_normal ?_
    | refine blk_ret ?_
    | refine blk_here ?_
    | refine blk_there rfl ?_
    | refine loop_exit ?_
    | refine loop_ret ?_
    | refine un_exit ?_
    | refine un_ret ?_
    | refine unE_exit ?_
    | refine unE_ret ?_
    | refine un_normal ?_)
    exact end_tmp1 rfl rfl rfl ⟨congrArg (fun b => AV.c (.bool b)) hE, rfl⟩
  · have h0 : ¬ b < 0 := of_decide_eq_false hc
    have hr : 0 ≤ b.tmod 32 ∧ b.tmod 32 < 32 := ⟨Int.tmod_nonneg _ (by omega), Int.tmod_lt_of_pos _ (by decide)⟩
    have hr1 : 0 ≤ b.tmod 32 := hr.1
    obtain ⟨dv, hE, hv⟩ : ∃ dv, (true && ((!eqI dw dv) || eqI dw nilI)) = true ∧ ∀ H, Con Tryz.prog 10 [.c (.int .u32 (IntKind.u32.wrap (BitVec.ofInt IntKind.u32.bits w ^^^ BitVec.ofInt IntKind.u32.bits (IntKind.u32.wrap (1 * 2 ^ min (b.tmod 32).toNat IntKind.u32.bits))).toNat))] H (fun v H' => v = .agg (insnL dv) ∧ H' = H) := by
      refine ⟨decodeS (IntKind.u32.wrap (BitVec.ofInt IntKind.u32.bits w ^^^ BitVec.ofInt IntKind.u32.bits (IntKind.u32.wrap (1 * 2 ^ min (b.tmod 32).toNat IntKind.u32.bits))).toNat), ?_, fun H => con10 _ H⟩
      rw [hdw]
      exact bits_apart hB hw hw' (by rw [IntKind.wrap_u32]; omega) (by rw [IntKind.wrap_u32]; omega) (xor_bit w _ hw hw' hr.1 hr.2)
    repeat' (first
    | refine run_seq ?_
    | refine run_skip ?_
    | (refine run_region fun K hK => ?_; (try (simp (maxSteps := 10000000) only [ne_eq, C6r7, C6r8, rwp_nil, rwp_cons, aop, gpath, St.get, slotAt, sfx, eqP, St.put, addBlk, getB, ldn, rowNeed, nsub, bin, isShift, sameK, arith, shiftR, getsl, selB_or, selB_and, beqb, shed, Seg.size, imp, appL, argsOf, ptrsOf, cut, takeS, dropS, partsOf, fillS, negIf, eqS, eqF, eqS1, Nat.reduceAdd])); (repeat (first | (refine And.intro ?_ ?_; · (first | exact hr1 | decide | (intros; decide) | (intros; omega))) | ((first | (refine call_t _ (hv _) ?_; rintro v H' ⟨rfl, rfl⟩) | refine call_q _ (hv _) ?_ | refine call_g _ (imp_of (hv _)) ?_); simp (maxSteps := 10000000) only [insnL, rwp_nil, rwp_cons, rwpK_app, aop, gpath, St.get, slotAt, sfx, eqP, St.put, addBlk, getB, setB, stn, setRow, rowNeed, nsub, shed, Nat.beq, Seg.size, sizes, takeS, dropS, putS, exOk, Nat.reduceAdd, List.append_nil, List.nil_append]))); with_reducible refine hK _ ?_; clear hK K)
    | (refine run_cond rfl (fun hc => ?_) (fun hc => ?_) <;> try (simp only [*, Bool.true_eq_false, Bool.false_eq_true, Bool.not_true, Bool.not_false, Bool.true_or, Bool.or_true, Bool.false_or, Bool.or_false, Bool.false_and, Bool.and_false, bne_self_eq_false, beq_self_eq_true] at hc; done))
    | refine run_block ?_
    | refine run_ret ?_
    | refine run_nil ?_
    | refine run_exit ?_
    | refine blk_normal ?_
    | refine blk_ret ?_
    | refine blk_here ?_
    | refine blk_there rfl ?_
    | refine loop_exit ?_
    | refine loop_ret ?_
    | refine un_exit ?_
    | refine un_ret ?_
    | refine unE_exit ?_
    | refine unE_ret ?_
    | refine un_normal ?_)
    exact end_tmp1 rfl rfl rfl ⟨congrArg (fun b => AV.c (.bool b)) hE, rfl⟩
theorem con4 (hB : Back1) (hB2 : Back2) (w : Int) (x : InsnS) (hx : rngI x) (hw : 0 ≤ w) (hw' : w < 4294967296) (H : Heap) : Con Tryz.prog 4 [.c (.int .u32 w), .agg (insnL x)] H (fun v H' => v = .c (.bool true) ∧ H' = H) := by
  refine Con.pure ?_ (by simp only [leArgs, leV, leV1, insnL, leSegs, leSeg, leC, and_self]) rfl H
  have q2 : ((encodeS x).2 != 0) = true → (true && ((encodeS x).1 == 0)) = true := fun h => by
    rcases hB2 x hx with ⟨h1, h2⟩ | ⟨h1, h2⟩
    · rw [h1] at h
      exact absurd h (by decide)
    · rw [h2]
      rfl
  have q3 : ((encodeS x).2 != 0) = false → (true && eqI (decodeS (encodeS x).1) x) = true := fun h => by
    rcases hB2 x hx with ⟨h1, h2⟩ | ⟨h1, h2⟩
    · rw [h2, eqI_self]
      rfl
    · exact absurd h (by simpa using h1)
  have q1 : ((decodeS w).op != 0) = true → ((encodeS (decodeS w)).2 != 0 || (encodeS (decodeS w)).1 != w) = true → False := fun h g => by
    rcases hB w hw hw' with h1 | ⟨h1, h2⟩
    · rw [h1] at h
      exact absurd h (by decide)
    · rw [h2] at g
      simp at g
  have q4 : ((decodeS w).op != 0) = false → (!eqI (decodeS w) nilI) = true → False := fun h g => by
    rcases hB w hw hw' with h1 | ⟨h1, h2⟩
    · rw [h1, eqI_self] at g
      cases g
    · exact absurd h (by simpa using h1)
  (refine con_of_run mixed (fn := Tryz.f4) (by kernel_rfl) (by kernel_rfl) C4_ok (rs := [.tmp 4]) (by kernel_rfl) (Nat.le_of_ble_eq_true (by kernel_rfl)) ?_; unfold C4; simp only [initT, Nat.reduceAdd])
  repeat' (first
    | refine run_seq ?_
    | refine run_skip ?_
    | (refine run_region fun K hK => ?_; (try (simp (maxSteps := 10000000) only [insnL, Bool.not_true, C4r0, C4r1, C4r2, C4r4, C4r5, C4r6, C4r7, C4r8, C4r9, C4r10, C4r11, C4r12, C4r13, C4r14, rwp_nil, rwp_cons, aop, gpath, St.get, slotAt, sfx, eqP, segsOf, St.put, addBlk, getB, ld1, ldn, rowNeed, segAt, nsub, bin, un, isShift, sameK, arith, getsl, selB_or, selB_and, beqb, shed, addN, Seg.size, sizes, appL, argsOf, ptrsOf, cut, takeS, dropS, partsOf, fillS, negIf, eqS, eqF, eqS1, Nat.reduceAdd])); (repeat (first | (refine And.intro ?_ ?_; · decide) | ((first | (refine call_t _ (con7 _) ?_; rintro v H' ⟨rfl, rfl⟩) | refine call_q _ (con7 _) ?_ | refine call_g _ (imp_of (con7 _)) ?_ | (refine call_t _ (con10 _ _) ?_; rintro v H' ⟨rfl, rfl⟩) | refine call_q _ (con10 _ _) ?_ | refine call_g _ (imp_of (con10 _ _)) ?_ | (refine call_t _ (con8 x _) ?_; rintro v H' ⟨rfl, rfl⟩) | refine call_q _ (con8 x _) ?_ | refine call_g _ (imp_of (con8 x _)) ?_ | (refine call_t _ (con8 (decodeS w) _) ?_; rintro v H' ⟨rfl, rfl⟩) | refine call_q _ (con8 (decodeS w) _) ?_ | refine call_g _ (imp_of (con8 (decodeS w) _)) ?_); simp (maxSteps := 10000000) only [insnL, rwp_nil, rwp_cons, rwpK_app, aop, gpath, St.get, slotAt, sfx, eqP, St.put, addBlk, getB, setB, ldn, stn, setRow, rowNeed, nsub, sameK, getsl, selB_and, beqb, shed, Nat.beq, Seg.size, sizes, cut, takeS, dropS, putS, nthA, negIf, eqS, eqF, eqS1, exOk, Nat.reduceAdd, List.append_nil, List.nil_append]))); with_reducible refine hK _ ?_; clear hK K)
    | (refine run_cond rfl (fun hc => ?_) (fun hc => ?_) <;> try (simp only [*, Bool.false_eq_true] at hc; done))
    | refine run_block ?_
    | refine run_ret ?_
    | refine run_nil ?_
    | refine run_exit ?_
    | refine blk_normal ?_
    | refine blk_ret ?_
    | refine blk_here ?_
    | refine blk_there rfl ?_
    | refine loop_exit ?_
    | refine loop_ret ?_
    | refine un_exit ?_
    | refine un_ret ?_
    | refine unE_exit ?_
    | refine unE_ret ?_
    | refine un_normal ?_)
  · exact absurd hc (fun h => q1 (by assumption) h)
  · exact end_tmp1 rfl rfl rfl ⟨congrArg (fun b => AV.c (.bool b)) (q2 hc), rfl⟩
  · exact end_tmp1 rfl rfl rfl ⟨congrArg (fun b => AV.c (.bool b)) (q3 hc), rfl⟩
  · exact absurd hc (fun h => q4 (by assumption) h)
  · exact end_tmp1 rfl rfl rfl ⟨congrArg (fun b => AV.c (.bool b)) (q2 hc), rfl⟩
  · exact end_tmp1 rfl rfl rfl ⟨congrArg (fun b => AV.c (.bool b)) (q3 hc), rfl⟩
end Go.Proofs.YteikpddilabppaaGreatR
