/- insn: shapes. -/
import Derived.Test.YteikpddilabppaaGreatRWh
namespace Go.Proofs.YteikpddilabppaaGreatR
open Go.AM
set_option maxRecDepth 100000
set_option linter.unusedSimpArgs false
set_option linter.unusedVariables false
def shapeV (f : ByteArray) (g : FuncId) (c : List AA) (b : Bool) : AV := .tup [.agg [.c (.str f), .c (.fn g [] c)], .c (.bool b)]
def shapeB (f : ByteArray) (g : FuncId) (c : List AA) : Blk := ⟨2, none, fun _ => [.c (.str f), .c (.fn g [] c)], 48, true⟩
theorem end_shape {l : List Slot} {H : Heap} {R : Post} {b : Nat} (f : ByteArray) (g : FuncId) (ok : Bool) (hsl : slotAt l 2 = some ⟨2, [], .c (.ptr ⟨b, 0, 0, 0⟩)⟩) (hok : slotAt l 3 = some ⟨3, [], .c (.bool ok)⟩) (hb : getB H.blks b = some (shapeB f g []))
    (hR : R (shapeV f g [] ok) ⟨1, [(0, shapeB f g [])]⟩) : endQ (LeS 0) [.cn 2 2, .tmp 3] R .ret ⟨l, H⟩ := by
  refine end_of ⟨[⟨2, [], .c (.ptr ⟨0, 0, 0, 0⟩)⟩, ⟨3, [], .c (.bool ok)⟩], ⟨1, [(0, shapeB f g [])]⟩⟩ (LeS.intro [b] (fun i h => absurd h (Nat.not_lt_zero i)) (by simp only [diff, notIn, and_self]) rfl (by simp only [slotsLe, hsl, hok, leV, leV1, leC, leA, nthO, and_self]) ?_) ?_
  · simp only [leBlks, nthO, hb]
    exact ⟨⟨rfl, rfl, id, Nat.le_refl _, fun _ _ => by simp only [shapeB, leSegs, leSeg, leC, leAL, and_self]⟩, trivial⟩
  · simp only [endF, resL, resA, St.get, slotAt, sfx, eqP, ldn, getB, shapeB, rowNeed, cut, dropS, takeS, Seg.size, nsub, noTup, resV]
    exact hR
theorem forget_shape (f : ByteArray) (g : FuncId) (ok : Bool) {n : FuncId} {args : List AV} (h : Con Tryz.prog n args ⟨0, []⟩ fun v H' => v = shapeV f g [] ok ∧ H' = ⟨1, [(0, shapeB f g [])]⟩) (ha : leArgs [] args args) (H : Heap) : Con Tryz.prog n args H fun v H' => v = shapeV f g [] ok ∧ H' = H := by
  refine Con.pure (Con.forget h ?_) ha rfl H
  rintro v H' ⟨rfl, rfl⟩
  exact ⟨_, ⟨0, []⟩, [], fun i h => absurd h (Nat.not_lt_zero i), trivial, rfl, trivial, by simp only [shapeV, leV, leV1, leVL, leC, leSegs, leSeg, leAL, and_self], rfl, rfl⟩
set_option maxHeartbeats 8000000 in
theorem sh87_P (k : Int) (f : ByteArray) (g : FuncId) (hk : (k = 22 ∧ f = ⟨#[100, 110]⟩ ∧ g = 79) ∨ (k = 25 ∧ f = ⟨#[]⟩ ∧ g = 79) ∨ (k = 26 ∧ f = ⟨#[115, 105]⟩ ∧ g = 114) ∨ (k = 27 ∧ f = ⟨#[]⟩ ∧ g = 79) ∨ (k = 28 ∧ f = ⟨#[100]⟩ ∧ g = 79) ∨ (k = 29 ∧ f = ⟨#[]⟩ ∧ g = 79) ∨ (k = 30 ∧ f = ⟨#[100]⟩ ∧ g = 79) ∨ (k = 31 ∧ f = ⟨#[100, 121]⟩ ∧ g = 115) ∨ (k = 32 ∧ f = ⟨#[100, 121]⟩ ∧ g = 115) ∨ (k = 33 ∧ f = ⟨#[115, 105]⟩ ∧ g = 117) ∨ (k = 34 ∧ f = ⟨#[105]⟩ ∧ g = 118) ∨ (k = 35 ∧ f = ⟨#[105]⟩ ∧ g = 118) ∨ (k = 36 ∧ f = ⟨#[]⟩ ∧ g = 79) ∨ (k = 37 ∧ f = ⟨#[105]⟩ ∧ g = 119)) (H : Heap) : Con Tryz.prog 87 [.c (.int .i64 k)] H (fun v H' => v = shapeV f g [] true ∧ H' = H) := by
  refine forget_shape _ _ _ ?_ (by simp only [leArgs, leV, leV1, leC, and_self]) H
  rcases hk with ⟨rfl, rfl, rfl⟩ | ⟨rfl, rfl, rfl⟩ | ⟨rfl, rfl, rfl⟩ | ⟨rfl, rfl, rfl⟩ | ⟨rfl, rfl, rfl⟩ | ⟨rfl, rfl, rfl⟩ | ⟨rfl, rfl, rfl⟩ | ⟨rfl, rfl, rfl⟩ | ⟨rfl, rfl, rfl⟩ | ⟨rfl, rfl, rfl⟩ | ⟨rfl, rfl, rfl⟩ | ⟨rfl, rfl, rfl⟩ | ⟨rfl, rfl, rfl⟩ | ⟨rfl, rfl, rfl⟩
  all_goals
    (refine con_of_run mixed (fn := Tryz.f87) (by kernel_rfl) (by kernel_rfl) C87_ok (rs := [.cn 2 2, .tmp 3]) (by kernel_rfl) (Nat.le_of_ble_eq_true (by kernel_rfl)) ?_; unfold C87; simp only [initT])
    repeat' (first
    | refine run_seq ?_
    | refine run_skip ?_
    | (refine run_region fun K hK => ?_; (try (simp (maxSteps := 10000000) only [Int.reduceBEq, C87r0, C87r1, C87r2, C87r3, C87r4, C87r5, C87r6, C87r7, C87r8, C87r9, C87r10, C87r11, C87r12, C87r13, C87r14, C87r15, C87r16, C87r17, C87r18, C87r20, C87r22, C87r23, C87r24, C87r25, C87r26, C87r27, C87r28, rwp_nil, rwp_cons, aop, gpath, St.get, slotAt, sfx, eqP, segsOf, St.put, addBlk, getB, setB, stn, setRow, rowNeed, nsub, bin, isShift, sameK, arith, shed, Nat.beq, Seg.size, sizes, takeS, dropS, putS, partsOf, fillS, exOk, Nat.reduceAdd, List.append_nil, List.nil_append, List.cons_append])); (repeat (first | (refine And.intro ?_ ?_; · first | trivial | assumption | omega))); with_reducible refine hK _ ?_; clear hK K)
    | (refine run_cond rfl (fun hc => ?_) (fun hc => ?_) <;> try (simp only [*, Bool.true_eq_false, Bool.false_eq_true] at hc; done))
    | refine run_block ?_
    | refine run_ret ?_
    | refine run_nil ?_
    | refine run_exit ?_
    | refine blk_normal ?_
    | refine blk_ret ?_
    | refine blk_here ?_
    | refine blk_there rfl ?_
    | refine loop_exit ?_
    | refine loop_ret ?_
    | refine un_exit ?_
    | refine un_ret ?_
    | refine unE_exit ?_
    | refine unE_ret ?_
    | refine un_normal ?_)
    exact end_shape _ _ true rfl rfl rfl ⟨rfl, rfl⟩
theorem sh87_22 (H : Heap) : Con Tryz.prog 87 [.c (.int .i64 22)] H (fun v H' => v = shapeV ⟨#[100, 110]⟩ 79 [] true ∧ H' = H) := sh87_P _ _ _ (.inl ⟨rfl, rfl, rfl⟩) H
theorem sh87_25 (H : Heap) : Con Tryz.prog 87 [.c (.int .i64 25)] H (fun v H' => v = shapeV ⟨#[]⟩ 79 [] true ∧ H' = H) := sh87_P _ _ _ (.inr (.inl ⟨rfl, rfl, rfl⟩)) H
theorem sh87_26 (H : Heap) : Con Tryz.prog 87 [.c (.int .i64 26)] H (fun v H' => v = shapeV ⟨#[115, 105]⟩ 114 [] true ∧ H' = H) := sh87_P _ _ _ (.inr (.inr (.inl ⟨rfl, rfl, rfl⟩))) H
theorem sh87_27 (H : Heap) : Con Tryz.prog 87 [.c (.int .i64 27)] H (fun v H' => v = shapeV ⟨#[]⟩ 79 [] true ∧ H' = H) := sh87_P _ _ _ (.inr (.inr (.inr (.inl ⟨rfl, rfl, rfl⟩)))) H
theorem sh87_28 (H : Heap) : Con Tryz.prog 87 [.c (.int .i64 28)] H (fun v H' => v = shapeV ⟨#[100]⟩ 79 [] true ∧ H' = H) := sh87_P _ _ _ (.inr (.inr (.inr (.inr (.inl ⟨rfl, rfl, rfl⟩))))) H
theorem sh87_29 (H : Heap) : Con Tryz.prog 87 [.c (.int .i64 29)] H (fun v H' => v = shapeV ⟨#[]⟩ 79 [] true ∧ H' = H) := sh87_P _ _ _ (.inr (.inr (.inr (.inr (.inr (.inl ⟨rfl, rfl, rfl⟩)))))) H
theorem sh87_30 (H : Heap) : Con Tryz.prog 87 [.c (.int .i64 30)] H (fun v H' => v = shapeV ⟨#[100]⟩ 79 [] true ∧ H' = H) := sh87_P _ _ _ (.inr (.inr (.inr (.inr (.inr (.inr (.inl ⟨rfl, rfl, rfl⟩))))))) H
theorem sh87_31 (H : Heap) : Con Tryz.prog 87 [.c (.int .i64 31)] H (fun v H' => v = shapeV ⟨#[100, 121]⟩ 115 [] true ∧ H' = H) := sh87_P _ _ _ (.inr (.inr (.inr (.inr (.inr (.inr (.inr (.inl ⟨rfl, rfl, rfl⟩)))))))) H
theorem sh87_32 (H : Heap) : Con Tryz.prog 87 [.c (.int .i64 32)] H (fun v H' => v = shapeV ⟨#[100, 121]⟩ 115 [] true ∧ H' = H) := sh87_P _ _ _ (.inr (.inr (.inr (.inr (.inr (.inr (.inr (.inr (.inl ⟨rfl, rfl, rfl⟩))))))))) H
theorem sh87_33 (H : Heap) : Con Tryz.prog 87 [.c (.int .i64 33)] H (fun v H' => v = shapeV ⟨#[115, 105]⟩ 117 [] true ∧ H' = H) := sh87_P _ _ _ (.inr (.inr (.inr (.inr (.inr (.inr (.inr (.inr (.inr (.inl ⟨rfl, rfl, rfl⟩)))))))))) H
theorem sh87_34 (H : Heap) : Con Tryz.prog 87 [.c (.int .i64 34)] H (fun v H' => v = shapeV ⟨#[105]⟩ 118 [] true ∧ H' = H) := sh87_P _ _ _ (.inr (.inr (.inr (.inr (.inr (.inr (.inr (.inr (.inr (.inr (.inl ⟨rfl, rfl, rfl⟩))))))))))) H
theorem sh87_35 (H : Heap) : Con Tryz.prog 87 [.c (.int .i64 35)] H (fun v H' => v = shapeV ⟨#[105]⟩ 118 [] true ∧ H' = H) := sh87_P _ _ _ (.inr (.inr (.inr (.inr (.inr (.inr (.inr (.inr (.inr (.inr (.inr (.inl ⟨rfl, rfl, rfl⟩)))))))))))) H
theorem sh87_36 (H : Heap) : Con Tryz.prog 87 [.c (.int .i64 36)] H (fun v H' => v = shapeV ⟨#[]⟩ 79 [] true ∧ H' = H) := sh87_P _ _ _ (.inr (.inr (.inr (.inr (.inr (.inr (.inr (.inr (.inr (.inr (.inr (.inr (.inl ⟨rfl, rfl, rfl⟩))))))))))))) H
theorem sh87_37 (H : Heap) : Con Tryz.prog 87 [.c (.int .i64 37)] H (fun v H' => v = shapeV ⟨#[105]⟩ 119 [] true ∧ H' = H) := sh87_P _ _ _ (.inr (.inr (.inr (.inr (.inr (.inr (.inr (.inr (.inr (.inr (.inr (.inr (.inr (⟨rfl, rfl, rfl⟩)))))))))))))) H
set_option maxHeartbeats 8000000 in
theorem sh17_P (k : Int) (f : ByteArray) (g : FuncId) (hk : (k = 1 ∧ f = ⟨#[100, 110, 105, 107, 70, 77]⟩ ∧ g = 69) ∨ (k = 2 ∧ f = ⟨#[100, 110, 109, 116, 107, 70, 77]⟩ ∧ g = 71) ∨ (k = 3 ∧ f = ⟨#[100, 110, 109, 115, 116, 107, 70, 78]⟩ ∧ g = 72) ∨ (k = 4 ∧ f = ⟨#[100, 110, 115, 107, 105, 106, 70]⟩ ∧ g = 74) ∨ (k = 5 ∧ f = ⟨#[100, 115, 105, 107]⟩ ∧ g = 76) ∨ (k = 6 ∧ f = ⟨#[100, 110, 115, 105, 106]⟩ ∧ g = 77) ∨ (k = 8 ∧ f = ⟨#[100, 110, 109, 97, 77]⟩ ∧ g = 79) ∨ (k = 10 ∧ f = ⟨#[100, 110, 109, 115, 99]⟩ ∧ g = 80) ∨ (k = 11 ∧ f = ⟨#[100, 115, 105]⟩ ∧ g = 81) ∨ (k = 13 ∧ f = ⟨#[99, 105]⟩ ∧ g = 83) ∨ (k = 15 ∧ f = ⟨#[100, 105, 107, 78]⟩ ∧ g = 84) ∨ (k = 17 ∧ f = ⟨#[100, 110, 105]⟩ ∧ g = 85) ∨ (k = 18 ∧ f = ⟨#[100, 110, 105]⟩ ∧ g = 85) ∨ (k = 19 ∧ f = ⟨#[100, 110, 109, 107]⟩ ∧ g = 86) ∨ (k = 20 ∧ f = ⟨#[100, 110, 109, 107]⟩ ∧ g = 86) ∨ (k = 22 ∧ f = ⟨#[100, 110]⟩ ∧ g = 79) ∨ (k = 25 ∧ f = ⟨#[]⟩ ∧ g = 79) ∨ (k = 26 ∧ f = ⟨#[115, 105]⟩ ∧ g = 114) ∨ (k = 27 ∧ f = ⟨#[]⟩ ∧ g = 79) ∨ (k = 28 ∧ f = ⟨#[100]⟩ ∧ g = 79) ∨ (k = 29 ∧ f = ⟨#[]⟩ ∧ g = 79) ∨ (k = 30 ∧ f = ⟨#[100]⟩ ∧ g = 79) ∨ (k = 31 ∧ f = ⟨#[100, 121]⟩ ∧ g = 115) ∨ (k = 32 ∧ f = ⟨#[100, 121]⟩ ∧ g = 115) ∨ (k = 33 ∧ f = ⟨#[115, 105]⟩ ∧ g = 117) ∨ (k = 34 ∧ f = ⟨#[105]⟩ ∧ g = 118) ∨ (k = 35 ∧ f = ⟨#[105]⟩ ∧ g = 118) ∨ (k = 36 ∧ f = ⟨#[]⟩ ∧ g = 79) ∨ (k = 37 ∧ f = ⟨#[105]⟩ ∧ g = 119)) (H : Heap) : Con Tryz.prog 17 [.c (.int .i64 k)] H (fun v H' => v = shapeV f g [] true ∧ H' = H) := by
  refine forget_shape _ _ _ ?_ (by simp only [leArgs, leV, leV1, leC, and_self]) H
  rcases hk with ⟨rfl, rfl, rfl⟩ | ⟨rfl, rfl, rfl⟩ | ⟨rfl, rfl, rfl⟩ | ⟨rfl, rfl, rfl⟩ | ⟨rfl, rfl, rfl⟩ | ⟨rfl, rfl, rfl⟩ | ⟨rfl, rfl, rfl⟩ | ⟨rfl, rfl, rfl⟩ | ⟨rfl, rfl, rfl⟩ | ⟨rfl, rfl, rfl⟩ | ⟨rfl, rfl, rfl⟩ | ⟨rfl, rfl, rfl⟩ | ⟨rfl, rfl, rfl⟩ | ⟨rfl, rfl, rfl⟩ | ⟨rfl, rfl, rfl⟩ | ⟨rfl, rfl, rfl⟩ | ⟨rfl, rfl, rfl⟩ | ⟨rfl, rfl, rfl⟩ | ⟨rfl, rfl, rfl⟩ | ⟨rfl, rfl, rfl⟩ | ⟨rfl, rfl, rfl⟩ | ⟨rfl, rfl, rfl⟩ | ⟨rfl, rfl, rfl⟩ | ⟨rfl, rfl, rfl⟩ | ⟨rfl, rfl, rfl⟩ | ⟨rfl, rfl, rfl⟩ | ⟨rfl, rfl, rfl⟩ | ⟨rfl, rfl, rfl⟩ | ⟨rfl, rfl, rfl⟩
  all_goals
    (refine con_of_run mixed (fn := Tryz.f17) (by kernel_rfl) (by kernel_rfl) C17_ok (rs := [.cn 2 2, .tmp 3]) (by kernel_rfl) (Nat.le_of_ble_eq_true (by kernel_rfl)) ?_; unfold C17; simp only [initT])
    repeat' (first
    | refine run_seq ?_
    | refine run_skip ?_
    | (refine run_region fun K hK => ?_; (try (simp (maxSteps := 10000000) only [Int.reduceBEq, C17r0, C17r1, C17r2, C17r3, C17r4, C17r5, C17r6, C17r7, C17r8, C17r9, C17r10, C17r11, C17r12, C17r13, C17r14, C17r16, C17r17, C17r18, C17r20, C17r21, C17r22, C17r23, C17r24, C17r26, C17r27, C17r28, C17r30, C17r31, C17r32, C17r34, C17r35, C17r36, C17r37, C17r38, C17r39, C17r40, rwp_nil, rwp_cons, aop, gpath, St.get, slotAt, sfx, eqP, segsOf, St.put, addBlk, getB, setB, stn, setRow, rowNeed, nsub, bin, isShift, sameK, arith, shed, Nat.beq, Seg.size, sizes, appL, argsOf, ptrsOf, takeS, dropS, putS, partsOf, fillS, exOk, Nat.reduceAdd, List.append_nil, List.nil_append, List.cons_append])); (repeat (first | (refine And.intro ?_ ?_; · first | trivial | assumption | omega) | ((first | (refine call_t _ (sh87_22 _) ?_; rintro v H' ⟨rfl, rfl⟩) | refine call_q _ (sh87_22 _) ?_ | refine call_g _ (imp_of (sh87_22 _)) ?_ | (refine call_t _ (sh87_25 _) ?_; rintro v H' ⟨rfl, rfl⟩) | refine call_q _ (sh87_25 _) ?_ | refine call_g _ (imp_of (sh87_25 _)) ?_ | (refine call_t _ (sh87_26 _) ?_; rintro v H' ⟨rfl, rfl⟩) | refine call_q _ (sh87_26 _) ?_ | refine call_g _ (imp_of (sh87_26 _)) ?_ | (refine call_t _ (sh87_27 _) ?_; rintro v H' ⟨rfl, rfl⟩) | refine call_q _ (sh87_27 _) ?_ | refine call_g _ (imp_of (sh87_27 _)) ?_ | (refine call_t _ (sh87_28 _) ?_; rintro v H' ⟨rfl, rfl⟩) | refine call_q _ (sh87_28 _) ?_ | refine call_g _ (imp_of (sh87_28 _)) ?_ | (refine call_t _ (sh87_29 _) ?_; rintro v H' ⟨rfl, rfl⟩) | refine call_q _ (sh87_29 _) ?_ | refine call_g _ (imp_of (sh87_29 _)) ?_ | (refine call_t _ (sh87_30 _) ?_; rintro v H' ⟨rfl, rfl⟩) | refine call_q _ (sh87_30 _) ?_ | refine call_g _ (imp_of (sh87_30 _)) ?_ | (refine call_t _ (sh87_31 _) ?_; rintro v H' ⟨rfl, rfl⟩) | refine call_q _ (sh87_31 _) ?_ | refine call_g _ (imp_of (sh87_31 _)) ?_ | (refine call_t _ (sh87_32 _) ?_; rintro v H' ⟨rfl, rfl⟩) | refine call_q _ (sh87_32 _) ?_ | refine call_g _ (imp_of (sh87_32 _)) ?_ | (refine call_t _ (sh87_33 _) ?_; rintro v H' ⟨rfl, rfl⟩) | refine call_q _ (sh87_33 _) ?_ | refine call_g _ (imp_of (sh87_33 _)) ?_ | (refine call_t _ (sh87_34 _) ?_; rintro v H' ⟨rfl, rfl⟩) | refine call_q _ (sh87_34 _) ?_ | refine call_g _ (imp_of (sh87_34 _)) ?_ | (refine call_t _ (sh87_35 _) ?_; rintro v H' ⟨rfl, rfl⟩) | refine call_q _ (sh87_35 _) ?_ | refine call_g _ (imp_of (sh87_35 _)) ?_ | (refine call_t _ (sh87_36 _) ?_; rintro v H' ⟨rfl, rfl⟩) | refine call_q _ (sh87_36 _) ?_ | refine call_g _ (imp_of (sh87_36 _)) ?_ | (refine call_t _ (sh87_37 _) ?_; rintro v H' ⟨rfl, rfl⟩) | refine call_q _ (sh87_37 _) ?_ | refine call_g _ (imp_of (sh87_37 _)) ?_); simp (maxSteps := 10000000) only [shapeV, rwp_nil, rwp_cons, rwpK_app, aop, gpath, St.get, slotAt, sfx, eqP, St.put, addBlk, getB, setB, stn, setRow, rowNeed, nsub, shed, Nat.beq, Seg.size, sizes, takeS, dropS, putS, nthA, exOk, Nat.reduceAdd, List.append_nil, List.nil_append]))); with_reducible refine hK _ ?_; clear hK K)
    | (refine run_cond rfl (fun hc => ?_) (fun hc => ?_) <;> try (simp only [*, Bool.true_eq_false, Bool.false_eq_true] at hc; done))
    | refine run_block ?_
    | refine run_ret ?_
    | refine run_nil ?_
    | refine run_exit ?_
    | refine blk_normal ?_
    | refine blk_ret ?_
    | refine blk_here ?_
    | refine blk_there rfl ?_
    | refine loop_exit ?_
    | refine loop_ret ?_
    | refine un_exit ?_
    | refine un_ret ?_
    | refine unE_exit ?_
    | refine unE_ret ?_
    | refine un_normal ?_)
    exact end_shape _ _ true rfl rfl rfl ⟨rfl, rfl⟩
theorem sh17_1 (H : Heap) : Con Tryz.prog 17 [.c (.int .i64 1)] H (fun v H' => v = shapeV ⟨#[100, 110, 105, 107, 70, 77]⟩ 69 [] true ∧ H' = H) := sh17_P _ _ _ (.inl ⟨rfl, rfl, rfl⟩) H
theorem sh17_2 (H : Heap) : Con Tryz.prog 17 [.c (.int .i64 2)] H (fun v H' => v = shapeV ⟨#[100, 110, 109, 116, 107, 70, 77]⟩ 71 [] true ∧ H' = H) := sh17_P _ _ _ (.inr (.inl ⟨rfl, rfl, rfl⟩)) H
theorem sh17_3 (H : Heap) : Con Tryz.prog 17 [.c (.int .i64 3)] H (fun v H' => v = shapeV ⟨#[100, 110, 109, 115, 116, 107, 70, 78]⟩ 72 [] true ∧ H' = H) := sh17_P _ _ _ (.inr (.inr (.inl ⟨rfl, rfl, rfl⟩))) H
theorem sh17_4 (H : Heap) : Con Tryz.prog 17 [.c (.int .i64 4)] H (fun v H' => v = shapeV ⟨#[100, 110, 115, 107, 105, 106, 70]⟩ 74 [] true ∧ H' = H) := sh17_P _ _ _ (.inr (.inr (.inr (.inl ⟨rfl, rfl, rfl⟩)))) H
theorem sh17_5 (H : Heap) : Con Tryz.prog 17 [.c (.int .i64 5)] H (fun v H' => v = shapeV ⟨#[100, 115, 105, 107]⟩ 76 [] true ∧ H' = H) := sh17_P _ _ _ (.inr (.inr (.inr (.inr (.inl ⟨rfl, rfl, rfl⟩))))) H
theorem sh17_6 (H : Heap) : Con Tryz.prog 17 [.c (.int .i64 6)] H (fun v H' => v = shapeV ⟨#[100, 110, 115, 105, 106]⟩ 77 [] true ∧ H' = H) := sh17_P _ _ _ (.inr (.inr (.inr (.inr (.inr (.inl ⟨rfl, rfl, rfl⟩)))))) H
theorem sh17_8 (H : Heap) : Con Tryz.prog 17 [.c (.int .i64 8)] H (fun v H' => v = shapeV ⟨#[100, 110, 109, 97, 77]⟩ 79 [] true ∧ H' = H) := sh17_P _ _ _ (.inr (.inr (.inr (.inr (.inr (.inr (.inl ⟨rfl, rfl, rfl⟩))))))) H
theorem sh17_10 (H : Heap) : Con Tryz.prog 17 [.c (.int .i64 10)] H (fun v H' => v = shapeV ⟨#[100, 110, 109, 115, 99]⟩ 80 [] true ∧ H' = H) := sh17_P _ _ _ (.inr (.inr (.inr (.inr (.inr (.inr (.inr (.inl ⟨rfl, rfl, rfl⟩)))))))) H
theorem sh17_11 (H : Heap) : Con Tryz.prog 17 [.c (.int .i64 11)] H (fun v H' => v = shapeV ⟨#[100, 115, 105]⟩ 81 [] true ∧ H' = H) := sh17_P _ _ _ (.inr (.inr (.inr (.inr (.inr (.inr (.inr (.inr (.inl ⟨rfl, rfl, rfl⟩))))))))) H
theorem sh17_13 (H : Heap) : Con Tryz.prog 17 [.c (.int .i64 13)] H (fun v H' => v = shapeV ⟨#[99, 105]⟩ 83 [] true ∧ H' = H) := sh17_P _ _ _ (.inr (.inr (.inr (.inr (.inr (.inr (.inr (.inr (.inr (.inl ⟨rfl, rfl, rfl⟩)))))))))) H
theorem sh17_15 (H : Heap) : Con Tryz.prog 17 [.c (.int .i64 15)] H (fun v H' => v = shapeV ⟨#[100, 105, 107, 78]⟩ 84 [] true ∧ H' = H) := sh17_P _ _ _ (.inr (.inr (.inr (.inr (.inr (.inr (.inr (.inr (.inr (.inr (.inl ⟨rfl, rfl, rfl⟩))))))))))) H
theorem sh17_17 (H : Heap) : Con Tryz.prog 17 [.c (.int .i64 17)] H (fun v H' => v = shapeV ⟨#[100, 110, 105]⟩ 85 [] true ∧ H' = H) := sh17_P _ _ _ (.inr (.inr (.inr (.inr (.inr (.inr (.inr (.inr (.inr (.inr (.inr (.inl ⟨rfl, rfl, rfl⟩)))))))))))) H
theorem sh17_18 (H : Heap) : Con Tryz.prog 17 [.c (.int .i64 18)] H (fun v H' => v = shapeV ⟨#[100, 110, 105]⟩ 85 [] true ∧ H' = H) := sh17_P _ _ _ (.inr (.inr (.inr (.inr (.inr (.inr (.inr (.inr (.inr (.inr (.inr (.inr (.inl ⟨rfl, rfl, rfl⟩))))))))))))) H
theorem sh17_19 (H : Heap) : Con Tryz.prog 17 [.c (.int .i64 19)] H (fun v H' => v = shapeV ⟨#[100, 110, 109, 107]⟩ 86 [] true ∧ H' = H) := sh17_P _ _ _ (.inr (.inr (.inr (.inr (.inr (.inr (.inr (.inr (.inr (.inr (.inr (.inr (.inr (.inl ⟨rfl, rfl, rfl⟩)))))))))))))) H
theorem sh17_20 (H : Heap) : Con Tryz.prog 17 [.c (.int .i64 20)] H (fun v H' => v = shapeV ⟨#[100, 110, 109, 107]⟩ 86 [] true ∧ H' = H) := sh17_P _ _ _ (.inr (.inr (.inr (.inr (.inr (.inr (.inr (.inr (.inr (.inr (.inr (.inr (.inr (.inr (.inl ⟨rfl, rfl, rfl⟩))))))))))))))) H
theorem sh17_22 (H : Heap) : Con Tryz.prog 17 [.c (.int .i64 22)] H (fun v H' => v = shapeV ⟨#[100, 110]⟩ 79 [] true ∧ H' = H) := sh17_P _ _ _ (.inr (.inr (.inr (.inr (.inr (.inr (.inr (.inr (.inr (.inr (.inr (.inr (.inr (.inr (.inr (.inl ⟨rfl, rfl, rfl⟩)))))))))))))))) H
theorem sh17_25 (H : Heap) : Con Tryz.prog 17 [.c (.int .i64 25)] H (fun v H' => v = shapeV ⟨#[]⟩ 79 [] true ∧ H' = H) := sh17_P _ _ _ (.inr (.inr (.inr (.inr (.inr (.inr (.inr (.inr (.inr (.inr (.inr (.inr (.inr (.inr (.inr (.inr (.inl ⟨rfl, rfl, rfl⟩))))))))))))))))) H
theorem sh17_26 (H : Heap) : Con Tryz.prog 17 [.c (.int .i64 26)] H (fun v H' => v = shapeV ⟨#[115, 105]⟩ 114 [] true ∧ H' = H) := sh17_P _ _ _ (.inr (.inr (.inr (.inr (.inr (.inr (.inr (.inr (.inr (.inr (.inr (.inr (.inr (.inr (.inr (.inr (.inr (.inl ⟨rfl, rfl, rfl⟩)))))))))))))))))) H
theorem sh17_27 (H : Heap) : Con Tryz.prog 17 [.c (.int .i64 27)] H (fun v H' => v = shapeV ⟨#[]⟩ 79 [] true ∧ H' = H) := sh17_P _ _ _ (.inr (.inr (.inr (.inr (.inr (.inr (.inr (.inr (.inr (.inr (.inr (.inr (.inr (.inr (.inr (.inr (.inr (.inr (.inl ⟨rfl, rfl, rfl⟩))))))))))))))))))) H
theorem sh17_28 (H : Heap) : Con Tryz.prog 17 [.c (.int .i64 28)] H (fun v H' => v = shapeV ⟨#[100]⟩ 79 [] true ∧ H' = H) := sh17_P _ _ _ (.inr (.inr (.inr (.inr (.inr (.inr (.inr (.inr (.inr (.inr (.inr (.inr (.inr (.inr (.inr (.inr (.inr (.inr (.inr (.inl ⟨rfl, rfl, rfl⟩)))))))))))))))))))) H
theorem sh17_29 (H : Heap) : Con Tryz.prog 17 [.c (.int .i64 29)] H (fun v H' => v = shapeV ⟨#[]⟩ 79 [] true ∧ H' = H) := sh17_P _ _ _ (.inr (.inr (.inr (.inr (.inr (.inr (.inr (.inr (.inr (.inr (.inr (.inr (.inr (.inr (.inr (.inr (.inr (.inr (.inr (.inr (.inl ⟨rfl, rfl, rfl⟩))))))))))))))))))))) H
theorem sh17_30 (H : Heap) : Con Tryz.prog 17 [.c (.int .i64 30)] H (fun v H' => v = shapeV ⟨#[100]⟩ 79 [] true ∧ H' = H) := sh17_P _ _ _ (.inr (.inr (.inr (.inr (.inr (.inr (.inr (.inr (.inr (.inr (.inr (.inr (.inr (.inr (.inr (.inr (.inr (.inr (.inr (.inr (.inr (.inl ⟨rfl, rfl, rfl⟩)))))))))))))))))))))) H
theorem sh17_31 (H : Heap) : Con Tryz.prog 17 [.c (.int .i64 31)] H (fun v H' => v = shapeV ⟨#[100, 121]⟩ 115 [] true ∧ H' = H) := sh17_P _ _ _ (.inr (.inr (.inr (.inr (.inr (.inr (.inr (.inr (.inr (.inr (.inr (.inr (.inr (.inr (.inr (.inr (.inr (.inr (.inr (.inr (.inr (.inr (.inl ⟨rfl, rfl, rfl⟩))))))))))))))))))))))) H
theorem sh17_32 (H : Heap) : Con Tryz.prog 17 [.c (.int .i64 32)] H (fun v H' => v = shapeV ⟨#[100, 121]⟩ 115 [] true ∧ H' = H) := sh17_P _ _ _ (.inr (.inr (.inr (.inr (.inr (.inr (.inr (.inr (.inr (.inr (.inr (.inr (.inr (.inr (.inr (.inr (.inr (.inr (.inr (.inr (.inr (.inr (.inr (.inl ⟨rfl, rfl, rfl⟩)))))))))))))))))))))))) H
theorem sh17_33 (H : Heap) : Con Tryz.prog 17 [.c (.int .i64 33)] H (fun v H' => v = shapeV ⟨#[115, 105]⟩ 117 [] true ∧ H' = H) := sh17_P _ _ _ (.inr (.inr (.inr (.inr (.inr (.inr (.inr (.inr (.inr (.inr (.inr (.inr (.inr (.inr (.inr (.inr (.inr (.inr (.inr (.inr (.inr (.inr (.inr (.inr (.inl ⟨rfl, rfl, rfl⟩))))))))))))))))))))))))) H
theorem sh17_34 (H : Heap) : Con Tryz.prog 17 [.c (.int .i64 34)] H (fun v H' => v = shapeV ⟨#[105]⟩ 118 [] true ∧ H' = H) := sh17_P _ _ _ (.inr (.inr (.inr (.inr (.inr (.inr (.inr (.inr (.inr (.inr (.inr (.inr (.inr (.inr (.inr (.inr (.inr (.inr (.inr (.inr (.inr (.inr (.inr (.inr (.inr (.inl ⟨rfl, rfl, rfl⟩)))))))))))))))))))))))))) H
theorem sh17_35 (H : Heap) : Con Tryz.prog 17 [.c (.int .i64 35)] H (fun v H' => v = shapeV ⟨#[105]⟩ 118 [] true ∧ H' = H) := sh17_P _ _ _ (.inr (.inr (.inr (.inr (.inr (.inr (.inr (.inr (.inr (.inr (.inr (.inr (.inr (.inr (.inr (.inr (.inr (.inr (.inr (.inr (.inr (.inr (.inr (.inr (.inr (.inr (.inl ⟨rfl, rfl, rfl⟩))))))))))))))))))))))))))) H
theorem sh17_36 (H : Heap) : Con Tryz.prog 17 [.c (.int .i64 36)] H (fun v H' => v = shapeV ⟨#[]⟩ 79 [] true ∧ H' = H) := sh17_P _ _ _ (.inr (.inr (.inr (.inr (.inr (.inr (.inr (.inr (.inr (.inr (.inr (.inr (.inr (.inr (.inr (.inr (.inr (.inr (.inr (.inr (.inr (.inr (.inr (.inr (.inr (.inr (.inr (.inl ⟨rfl, rfl, rfl⟩)))))))))))))))))))))))))))) H
theorem sh17_37 (H : Heap) : Con Tryz.prog 17 [.c (.int .i64 37)] H (fun v H' => v = shapeV ⟨#[105]⟩ 119 [] true ∧ H' = H) := sh17_P _ _ _ (.inr (.inr (.inr (.inr (.inr (.inr (.inr (.inr (.inr (.inr (.inr (.inr (.inr (.inr (.inr (.inr (.inr (.inr (.inr (.inr (.inr (.inr (.inr (.inr (.inr (.inr (.inr (.inr (⟨rfl, rfl, rfl⟩))))))))))))))))))))))))))))) H
theorem end_shapeQ {l : List Slot} {H : Heap} {R : Post} (f : ByteArray) (a : Int) (ok : Bool) (hsl : slotAt l 2 = some ⟨2, [], .c (.ptr ⟨0, 0, 0, 0⟩)⟩) (hok : slotAt l 3 = some ⟨3, [], .c (.bool ok)⟩) (hb : getB H.blks 0 = some (shapeB f 113 [⟨1, 0, 0, 0⟩])) (hx : getB H.blks 1 = some (boxW a))
    (hR : R (shapeV f 113 [⟨0, 0, 0, 0⟩] ok) ⟨2, [(1, shapeB f 113 [⟨0, 0, 0, 0⟩]), (0, boxW a)]⟩) : endQ (LeS 0) [.cn 2 2, .tmp 3] R .ret ⟨l, H⟩ := by
  refine end_of ⟨[⟨2, [], .c (.ptr ⟨1, 0, 0, 0⟩)⟩, ⟨3, [], .c (.bool ok)⟩], ⟨2, [(1, shapeB f 113 [⟨0, 0, 0, 0⟩]), (0, boxW a)]⟩⟩ (LeS.intro [1, 0] (fun i h => absurd h (Nat.not_lt_zero i)) (by simp only [diff, notIn, Nat.beq, and_self]) rfl (by simp only [slotsLe, hsl, hok, leV, leV1, leC, leA, nthO, and_self]) ?_) ?_
  · simp only [leBlks, nthO, hb, hx]
    exact ⟨⟨rfl, rfl, id, Nat.le_refl _, fun _ _ => by simp only [shapeB, leSegs, leSeg, leC, leAL, leA, nthO, and_self]⟩, ⟨rfl, rfl, id, Nat.le_refl _, fun _ _ => by simp only [boxW, leSegs, leSeg, leC, and_self]⟩, trivial⟩
  · simp only [endF, resL, resA, St.get, slotAt, sfx, eqP, ldn, getB, shapeB, rowNeed, cut, dropS, takeS, Seg.size, nsub, noTup, resV]
    exact hR
theorem frame_shapeQ (f : ByteArray) (a : Int) (ok : Bool) {m : FuncId} {args : List AV} (h : Con Tryz.prog m args ⟨0, []⟩ fun v H' => v = shapeV f 113 [⟨0, 0, 0, 0⟩] ok ∧ H' = ⟨2, [(1, shapeB f 113 [⟨0, 0, 0, 0⟩]), (0, boxW a)]⟩) (ha : leArgs [] args args) (n : Nat) (X : List (Nat × Blk)) (hkl : keysLt X n) : Con Tryz.prog m args ⟨n, X⟩ fun v H' => v = shapeV f 113 [⟨n, 0, 0, 0⟩] ok ∧ H' = addBs ⟨n, X⟩ [boxW a] := by
  have h1 : Con Tryz.prog m args ⟨0, []⟩ fun v H' => v = shapeV f 113 [⟨0, 0, 0, 0⟩] ok ∧ H' = ⟨1, [(0, boxW a)]⟩ := by
    refine Con.forget h ?_
    rintro v H' ⟨rfl, rfl⟩
    exact ⟨_, ⟨1, [(0, boxW a)]⟩, [0], fun i h => absurd h (Nat.not_lt_zero i), ⟨trivial, trivial⟩, rfl, ⟨⟨rfl, rfl, id, Nat.le_refl _, fun _ _ => by simp only [boxW, leSegs, leSeg, leC, and_self]⟩, trivial⟩, by simp only [shapeV, leV, leV1, leVL, leC, leSegs, leSeg, leAL, leA, nthO, and_self], rfl, rfl⟩
  refine (h1.frame (H := ⟨n, X⟩) [] rfl trivial trivial hkl trivial ha).weaken ?_
  rintro v H' ⟨v0, H0', ⟨rfl, rfl⟩, rfl, rfl⟩
  refine ⟨rfl, ?_⟩
  simp only [framed, dropB_none (l := []) (H0 := []) (fun _ => rfl)]
  rfl
set_option maxHeartbeats 8000000 in
theorem sh17_Q (k : Int) (f : ByteArray) (a : Int) (hk : (k = 12 ∧ f = ⟨#[105, 76]⟩ ∧ a = 27) ∨ (k = 14 ∧ f = ⟨#[100, 105, 78]⟩ ∧ a = 20)) (n : Nat) (X : List (Nat × Blk)) (hkl : keysLt X n) : Con Tryz.prog 17 [.c (.int .i64 k)] ⟨n, X⟩ (fun v H' => v = shapeV f 113 [⟨n, 0, 0, 0⟩] true ∧ H' = addBs ⟨n, X⟩ [boxW a]) := by
  refine frame_shapeQ _ _ _ ?_ (by simp only [leArgs, leV, leV1, leC, and_self]) n X hkl
  rcases hk with ⟨rfl, rfl, rfl⟩ | ⟨rfl, rfl, rfl⟩
  all_goals
    (refine con_of_run mixed (fn := Tryz.f17) (by kernel_rfl) (by kernel_rfl) C17_ok (rs := [.cn 2 2, .tmp 3]) (by kernel_rfl) (Nat.le_of_ble_eq_true (by kernel_rfl)) ?_; unfold C17; simp only [initT])
    repeat' (first
    | refine run_seq ?_
    | refine run_skip ?_
    | (refine run_region fun K hK => ?_; (try (simp (maxSteps := 10000000) only [Int.reduceBEq, C17r0, C17r1, C17r2, C17r4, C17r6, C17r8, C17r10, C17r12, C17r14, C17r16, C17r18, C17r20, C17r22, C17r24, C17r25, C17r26, C17r28, C17r29, rwp_nil, rwp_cons, aop, gpath, St.get, slotAt, sfx, eqP, St.put, addBlk, bin, isShift, sameK, arith, shed, Seg.size, sizes, appL, argsOf, ptrsOf, Nat.reduceAdd])); (repeat (first | (refine And.intro ?_ ?_; · first | trivial | assumption | omega) | ((first | (refine call_t _ (con82 _ _ _ (by simp [keysLt])) ?_; rintro v H' ⟨rfl, rfl⟩) | refine call_q _ (con82 _ _ _ (by simp [roL, keysLt, boxW])) ?_ | refine call_g _ (imp_of (con82 _ _ _ (by simp [roL, keysLt, boxW]))) ?_); simp (maxSteps := 10000000) only [rwp_nil, rwp_cons, rwpK_app, aop, gpath, St.get, slotAt, sfx, eqP, segsOf, St.put, addBlk, getB, setB, stn, setRow, rowNeed, nsub, shed, Nat.beq, Seg.size, sizes, takeS, dropS, putS, partsOf, fillS, exOk, Nat.reduceAdd, List.append_nil, List.nil_append, List.cons_append, addBs]))); with_reducible refine hK _ ?_; clear hK K)
    | (refine run_cond rfl (fun hc => ?_) (fun hc => ?_) <;> try (simp only [*, Bool.true_eq_false, Bool.false_eq_true] at hc; done))
    | refine run_block ?_
    | refine run_ret ?_
    | refine run_nil ?_
    | refine run_exit ?_
    | refine blk_normal ?_
    | refine blk_ret ?_
    | refine blk_here ?_
    | refine blk_there rfl ?_
    | refine loop_exit ?_
    | refine loop_ret ?_
    | refine un_exit ?_
    | refine un_ret ?_
    | refine unE_exit ?_
    | refine unE_ret ?_
    | refine un_normal ?_)
    exact end_shapeQ _ _ true rfl rfl rfl rfl ⟨rfl, rfl⟩
theorem sh17_12 (n : Nat) (X : List (Nat × Blk)) (hkl : keysLt X n) : Con Tryz.prog 17 [.c (.int .i64 12)] ⟨n, X⟩ (fun v H' => v = shapeV ⟨#[105, 76]⟩ 113 [⟨n, 0, 0, 0⟩] true ∧ H' = addBs ⟨n, X⟩ [boxW 27]) := sh17_Q _ _ _ (.inl ⟨rfl, rfl, rfl⟩) n X hkl
theorem sh17_14 (n : Nat) (X : List (Nat × Blk)) (hkl : keysLt X n) : Con Tryz.prog 17 [.c (.int .i64 14)] ⟨n, X⟩ (fun v H' => v = shapeV ⟨#[100, 105, 78]⟩ 113 [⟨n, 0, 0, 0⟩] true ∧ H' = addBs ⟨n, X⟩ [boxW 20]) := sh17_Q _ _ _ (.inr (⟨rfl, rfl, rfl⟩)) n X hkl
def intsW (m : Nat) : Blk := ⟨1, some m, fun i => [.c (.int .i64 (i : Int))], 3, true⟩
theorem con78 (m j n : Nat) (X : List (Nat × Blk)) (hj : j < n) (hkl : keysLt X n) : Con Tryz.prog 78 [.c (.slice ⟨j, 0, 0, 0⟩ false m)] ⟨n, X⟩ (fun v H' => v = .c (.fn 111 [] [⟨n, 0, 0, 0⟩]) ∧ H' = addBs ⟨n, X⟩ [slB j m true]) := by
  have h0 : Con Tryz.prog 78 [.c (.slice ⟨0, 0, 0, 0⟩ false m)] ⟨1, []⟩ (fun v H' => v = .c (.fn 111 [] [⟨1, 0, 0, 0⟩]) ∧ H' = ⟨2, [(1, slB 0 m true)]⟩) := by
    (refine con_of_run mixed (fn := Tryz.f78) (by kernel_rfl) (by kernel_rfl) C78_ok (rs := [.tmp 2]) (by kernel_rfl) (Nat.le_of_ble_eq_true (by kernel_rfl)) ?_; unfold C78; simp only [initT])
    repeat' (first
    | refine run_seq ?_
    | refine run_skip ?_
    | (refine run_region fun K hK => ?_; (try (simp (maxSteps := 10000000) only [C78r0, C78r1, rwp_nil, rwp_cons, aop, gpath, St.get, slotAt, sfx, eqP, segsOf, St.put, addBlk, shed, Seg.size, sizes, aasOf, Nat.reduceAdd])); (repeat (first | (refine And.intro ?_ ?_; · first | trivial | assumption | omega))); with_reducible refine hK _ ?_; clear hK K)
    | (refine run_cond rfl (fun hc => ?_) (fun hc => ?_) <;> try (simp only [*, Bool.true_eq_false, Bool.false_eq_true, Bool.not_true, Bool.not_false, Bool.true_or, Bool.or_true, Bool.false_or, Bool.or_false, Bool.false_and, Bool.and_false, bne_self_eq_false, beq_self_eq_true] at hc; done))
    | refine run_block ?_
    | refine run_ret ?_
    | refine run_nil ?_
    | refine run_exit ?_
    | refine blk_normal ?_
    | refine blk_ret ?_
    | refine blk_here ?_
    | refine blk_there rfl ?_
    | refine loop_exit ?_
    | refine loop_ret ?_
    | refine un_exit ?_
    | refine un_ret ?_
    | refine unE_exit ?_
    | refine unE_ret ?_
    | refine un_normal ?_)
    refine end_of ⟨[⟨2, [], .c (.fn 111 [] [⟨1, 0, 0, 0⟩])⟩], ⟨2, [(1, slB 0 m true)]⟩⟩ (LeS.intro [0, 1] (fun i h => by match i, h with | 0, _ => rfl) (by simp only [diff, notIn, Nat.beq, and_self]) rfl ?_ ?_) ⟨rfl, rfl⟩
    · simp only [slotsLe, slotAt, leV, leV1, leC, leAL, leA, nthO, and_self]
    · simp only [leBlks, nthO, getB]
      exact ⟨⟨rfl, rfl, id, Nat.le_refl _, fun _ _ => by simp only [slB, leSegs, leSeg, leC, leA, nthO, and_self]⟩, trivial⟩
  refine (h0.frame (H := ⟨n, X⟩) [j] rfl ⟨trivial, trivial⟩ ⟨hj, trivial⟩ hkl trivial (by simp only [leArgs, leV, leV1, leC, leA, nthO, and_self])).weaken ?_
  rintro v H' ⟨v0, H0', ⟨rfl, rfl⟩, rfl, rfl⟩
  refine ⟨rfl, ?_⟩
  simp only [framed, dropB_none (l := [j]) (H0 := []) (fun _ => rfl)]
  rfl
theorem end_shapeS {l : List Slot} {H : Heap} {R : Post} (f : ByteArray) (m : Nat) (row : Nat → List Seg) (ok : Bool) (hsl : slotAt l 2 = some ⟨2, [], .c (.ptr ⟨0, 0, 0, 0⟩)⟩) (hok : slotAt l 3 = some ⟨3, [], .c (.bool ok)⟩) (hb : getB H.blks 0 = some (shapeB f 111 [⟨2, 0, 0, 0⟩])) (hx : getB H.blks 1 = some ⟨1, some m, row, 3, true⟩) (hy : getB H.blks 2 = some (slB 1 m true)) (hrow : ∀ i, i < m → row i = [.c (.int .i64 (i : Int))])
    (hR : R (shapeV f 111 [⟨1, 0, 0, 0⟩] ok) ⟨3, [(2, shapeB f 111 [⟨1, 0, 0, 0⟩]), (1, slB 0 m true), (0, intsW m)]⟩) : endQ (LeS 0) [.cn 2 2, .tmp 3] R .ret ⟨l, H⟩ := by
  refine end_of ⟨[⟨2, [], .c (.ptr ⟨2, 0, 0, 0⟩)⟩, ⟨3, [], .c (.bool ok)⟩], ⟨3, [(2, shapeB f 111 [⟨1, 0, 0, 0⟩]), (1, slB 0 m true), (0, intsW m)]⟩⟩ (LeS.intro [1, 2, 0] (fun i h => absurd h (Nat.not_lt_zero i)) (by simp only [diff, notIn, Nat.beq, and_self]) rfl (by simp only [slotsLe, hsl, hok, leV, leV1, leC, leA, nthO, and_self]) ?_) ?_
  · simp only [leBlks, nthO, hb, hx, hy]
    exact ⟨⟨rfl, rfl, id, Nat.le_refl _, fun _ _ => by simp only [shapeB, leSegs, leSeg, leC, leAL, leA, nthO, and_self]⟩, ⟨rfl, rfl, id, Nat.le_refl _, fun _ _ => by simp only [slB, leSegs, leSeg, leC, leA, nthO, and_self]⟩, ⟨rfl, rfl, id, Nat.le_refl _, fun i hi => by show leSegs _ (row i) _; rw [hrow i hi]; simp only [intsW, leSegs, leSeg, leC, and_self]⟩, trivial⟩
  · simp only [endF, resL, resA, St.get, slotAt, sfx, eqP, ldn, getB, shapeB, rowNeed, cut, dropS, takeS, Seg.size, nsub, noTup, resV]
    exact hR
theorem frame_shapeS (f : ByteArray) (c : Nat) (ok : Bool) {m : FuncId} {args : List AV} (h : Con Tryz.prog m args ⟨0, []⟩ fun v H' => v = shapeV f 111 [⟨1, 0, 0, 0⟩] ok ∧ H' = ⟨3, [(2, shapeB f 111 [⟨1, 0, 0, 0⟩]), (1, slB 0 c true), (0, intsW c)]⟩) (ha : leArgs [] args args) (n : Nat) (X : List (Nat × Blk)) (hkl : keysLt X n) : Con Tryz.prog m args ⟨n, X⟩ fun v H' => v = shapeV f 111 [⟨n + 1, 0, 0, 0⟩] ok ∧ H' = addBs ⟨n, X⟩ [intsW c, slB n c true] := by
  have h1 : Con Tryz.prog m args ⟨0, []⟩ fun v H' => v = shapeV f 111 [⟨1, 0, 0, 0⟩] ok ∧ H' = ⟨2, [(1, slB 0 c true), (0, intsW c)]⟩ := by
    refine Con.forget h ?_
    rintro v H' ⟨rfl, rfl⟩
    exact ⟨_, ⟨2, [(1, slB 0 c true), (0, intsW c)]⟩, [0, 1], fun i h => absurd h (Nat.not_lt_zero i), by simp only [diff, notIn, Nat.beq, and_self], rfl, ⟨⟨rfl, rfl, id, Nat.le_refl _, fun _ _ => by simp only [slB, leSegs, leSeg, leC, leA, nthO, and_self]⟩, ⟨rfl, rfl, id, Nat.le_refl _, fun _ _ => by simp only [intsW, leSegs, leSeg, leC, and_self]⟩, trivial⟩, by simp only [shapeV, leV, leV1, leVL, leC, leSegs, leSeg, leAL, leA, nthO, and_self], rfl, rfl⟩
  refine (h1.frame (H := ⟨n, X⟩) [] rfl trivial trivial hkl trivial ha).weaken ?_
  rintro v H' ⟨v0, H0', ⟨rfl, rfl⟩, rfl, rfl⟩
  refine ⟨rfl, ?_⟩
  simp only [framed, dropB_none (l := []) (H0 := []) (fun _ => rfl)]
  rfl
theorem rows4 (i : Nat) (hi : i < 4) : cutD [Seg.c (.int .i64 0), Seg.c (.int .i64 1), Seg.c (.int .i64 2), Seg.c (.int .i64 3)] (i * 1) 1 = [Seg.c (.int .i64 (i : Int))] := by
  match i, hi with
  | 0, _ => rfl
  | 1, _ => rfl
  | 2, _ => rfl
  | 3, _ => rfl
theorem rows3 (i : Nat) (hi : i < 3) : cutD [Seg.c (.int .i64 0), Seg.c (.int .i64 1), Seg.c (.int .i64 2)] (i * 1) 1 = [Seg.c (.int .i64 (i : Int))] := by
  match i, hi with
  | 0, _ => rfl
  | 1, _ => rfl
  | 2, _ => rfl
theorem rows2 (i : Nat) (hi : i < 2) : cutD [Seg.c (.int .i64 0), Seg.c (.int .i64 1)] (i * 1) 1 = [Seg.c (.int .i64 (i : Int))] := by
  match i, hi with
  | 0, _ => rfl
  | 1, _ => rfl
set_option maxHeartbeats 8000000 in
theorem sh87_S (k : Int) (f : ByteArray) (c : Nat) (hk : (k = 21 ∧ f = ⟨#[100, 110, 115]⟩ ∧ c = 2) ∨ (k = 23 ∧ f = ⟨#[100, 110, 115]⟩ ∧ c = 2) ∨ (k = 24 ∧ f = ⟨#[100, 110, 109, 115]⟩ ∧ c = 2)) (n : Nat) (X : List (Nat × Blk)) (hkl : keysLt X n) : Con Tryz.prog 87 [.c (.int .i64 k)] ⟨n, X⟩ (fun v H' => v = shapeV f 111 [⟨n + 1, 0, 0, 0⟩] true ∧ H' = addBs ⟨n, X⟩ [intsW c, slB n c true]) := by
  refine frame_shapeS _ _ _ ?_ (by simp only [leArgs, leV, leV1, leC, and_self]) n X hkl
  rcases hk with ⟨rfl, rfl, rfl⟩ | ⟨rfl, rfl, rfl⟩ | ⟨rfl, rfl, rfl⟩
  all_goals
    (refine con_of_run mixed (fn := Tryz.f87) (by kernel_rfl) (by kernel_rfl) C87_ok (rs := [.cn 2 2, .tmp 3]) (by kernel_rfl) (Nat.le_of_ble_eq_true (by kernel_rfl)) ?_; unfold C87; simp only [initT])
    repeat' (first
    | refine run_seq ?_
    | refine run_skip ?_
    | (refine run_region fun K hK => ?_; (try (simp (maxSteps := 10000000) only [Int.reduceBEq, repl, rowsFit, rowFn, cutD, C87r0, C87r1, C87r2, C87r3, C87r4, C87r5, C87r19, C87r21, rwp_nil, rwp_cons, aop, gpath, St.get, slotAt, sfx, eqP, segsOf, St.put, addBlk, nsub, bin, isShift, sameK, arith, shed, Nat.beq, Seg.size, sizes, appL, argsOf, ptrsOf, cut, takeS, dropS, putS, partsOf, fillS, Nat.reduceAdd, List.append_nil, List.nil_append, List.cons_append])); (repeat (first | (refine And.intro ?_ ?_; · first | trivial | assumption | omega) | ((first | (refine call_t _ (con78 _ 1 _ _ (by decide) (by simp [keysLt])) ?_; rintro v H' ⟨rfl, rfl⟩) | refine call_q _ (con78 _ 1 _ _ (by decide) (by simp [roL, keysLt, boxW])) ?_ | refine call_g _ (imp_of (con78 _ 1 _ _ (by decide) (by simp [roL, keysLt, boxW]))) ?_); simp (maxSteps := 10000000) only [rwp_nil, rwp_cons, rwpK_app, aop, gpath, St.get, slotAt, sfx, eqP, segsOf, St.put, addBlk, getB, setB, stn, setRow, rowNeed, nsub, shed, Nat.beq, Seg.size, sizes, takeS, dropS, putS, partsOf, fillS, exOk, Nat.reduceAdd, List.append_nil, List.nil_append, List.cons_append, addBs]))); with_reducible refine hK _ ?_; clear hK K)
    | (refine run_cond rfl (fun hc => ?_) (fun hc => ?_) <;> try (simp only [*, Bool.true_eq_false, Bool.false_eq_true] at hc; done))
    | refine run_block ?_
    | refine run_ret ?_
    | refine run_nil ?_
    | refine run_exit ?_
    | refine blk_normal ?_
    | refine blk_ret ?_
    | refine blk_here ?_
    | refine blk_there rfl ?_
    | refine loop_exit ?_
    | refine loop_ret ?_
    | refine un_exit ?_
    | refine un_ret ?_
    | refine unE_exit ?_
    | refine unE_ret ?_
    | refine un_normal ?_)
    first | exact end_shapeS _ 2 _ true rfl rfl rfl rfl rfl rows2 ⟨rfl, rfl⟩ | exact end_shapeS _ 3 _ true rfl rfl rfl rfl rfl rows3 ⟨rfl, rfl⟩ | exact end_shapeS _ 4 _ true rfl rfl rfl rfl rfl rows4 ⟨rfl, rfl⟩
theorem sh87_21 (n : Nat) (X : List (Nat × Blk)) (hkl : keysLt X n) : Con Tryz.prog 87 [.c (.int .i64 21)] ⟨n, X⟩ (fun v H' => v = shapeV ⟨#[100, 110, 115]⟩ 111 [⟨n + 1, 0, 0, 0⟩] true ∧ H' = addBs ⟨n, X⟩ [intsW 2, slB n 2 true]) := sh87_S _ _ _ (.inl ⟨rfl, rfl, rfl⟩) n X hkl
theorem sh87_23 (n : Nat) (X : List (Nat × Blk)) (hkl : keysLt X n) : Con Tryz.prog 87 [.c (.int .i64 23)] ⟨n, X⟩ (fun v H' => v = shapeV ⟨#[100, 110, 115]⟩ 111 [⟨n + 1, 0, 0, 0⟩] true ∧ H' = addBs ⟨n, X⟩ [intsW 2, slB n 2 true]) := sh87_S _ _ _ (.inr (.inl ⟨rfl, rfl, rfl⟩)) n X hkl
theorem sh87_24 (n : Nat) (X : List (Nat × Blk)) (hkl : keysLt X n) : Con Tryz.prog 87 [.c (.int .i64 24)] ⟨n, X⟩ (fun v H' => v = shapeV ⟨#[100, 110, 109, 115]⟩ 111 [⟨n + 1, 0, 0, 0⟩] true ∧ H' = addBs ⟨n, X⟩ [intsW 2, slB n 2 true]) := sh87_S _ _ _ (.inr (.inr (⟨rfl, rfl, rfl⟩))) n X hkl
set_option maxHeartbeats 8000000 in
theorem sh17_S (k : Int) (f : ByteArray) (c : Nat) (hk : (k = 7 ∧ f = ⟨#[100, 110, 109, 115]⟩ ∧ c = 4) ∨ (k = 9 ∧ f = ⟨#[100, 110, 109, 115]⟩ ∧ c = 2) ∨ (k = 16 ∧ f = ⟨#[110, 115]⟩ ∧ c = 3)) (n : Nat) (X : List (Nat × Blk)) (hkl : keysLt X n) : Con Tryz.prog 17 [.c (.int .i64 k)] ⟨n, X⟩ (fun v H' => v = shapeV f 111 [⟨n + 1, 0, 0, 0⟩] true ∧ H' = addBs ⟨n, X⟩ [intsW c, slB n c true]) := by
  refine frame_shapeS _ _ _ ?_ (by simp only [leArgs, leV, leV1, leC, and_self]) n X hkl
  rcases hk with ⟨rfl, rfl, rfl⟩ | ⟨rfl, rfl, rfl⟩ | ⟨rfl, rfl, rfl⟩
  all_goals
    (refine con_of_run mixed (fn := Tryz.f17) (by kernel_rfl) (by kernel_rfl) C17_ok (rs := [.cn 2 2, .tmp 3]) (by kernel_rfl) (Nat.le_of_ble_eq_true (by kernel_rfl)) ?_; unfold C17; simp only [initT])
    repeat' (first
    | refine run_seq ?_
    | refine run_skip ?_
    | (refine run_region fun K hK => ?_; (try (simp (maxSteps := 10000000) only [Int.reduceBEq, repl, rowsFit, rowFn, cutD, C17r0, C17r1, C17r2, C17r4, C17r6, C17r8, C17r10, C17r12, C17r14, C17r15, C17r16, C17r18, C17r19, C17r20, C17r22, C17r24, C17r26, C17r28, C17r30, C17r32, C17r33, rwp_nil, rwp_cons, aop, gpath, St.get, slotAt, sfx, eqP, segsOf, St.put, addBlk, nsub, bin, isShift, sameK, arith, shed, Nat.beq, Seg.size, sizes, appL, argsOf, ptrsOf, cut, takeS, dropS, putS, partsOf, fillS, Nat.reduceAdd, List.append_nil, List.nil_append, List.cons_append])); (repeat (first | (refine And.intro ?_ ?_; · first | trivial | assumption | omega) | ((first | (refine call_t _ (con78 _ 1 _ _ (by decide) (by simp [keysLt])) ?_; rintro v H' ⟨rfl, rfl⟩) | refine call_q _ (con78 _ 1 _ _ (by decide) (by simp [roL, keysLt, boxW])) ?_ | refine call_g _ (imp_of (con78 _ 1 _ _ (by decide) (by simp [roL, keysLt, boxW]))) ?_); simp (maxSteps := 10000000) only [rwp_nil, rwp_cons, rwpK_app, aop, gpath, St.get, slotAt, sfx, eqP, segsOf, St.put, addBlk, getB, setB, stn, setRow, rowNeed, nsub, shed, Nat.beq, Seg.size, sizes, takeS, dropS, putS, partsOf, fillS, exOk, Nat.reduceAdd, List.append_nil, List.nil_append, List.cons_append, addBs]))); with_reducible refine hK _ ?_; clear hK K)
    | (refine run_cond rfl (fun hc => ?_) (fun hc => ?_) <;> try (simp only [*, Bool.true_eq_false, Bool.false_eq_true] at hc; done))
    | refine run_block ?_
    | refine run_ret ?_
    | refine run_nil ?_
    | refine run_exit ?_
    | refine blk_normal ?_
    | refine blk_ret ?_
    | refine blk_here ?_
    | refine blk_there rfl ?_
    | refine loop_exit ?_
    | refine loop_ret ?_
    | refine un_exit ?_
    | refine un_ret ?_
    | refine unE_exit ?_
    | refine unE_ret ?_
    | refine un_normal ?_)
    first | exact end_shapeS _ 2 _ true rfl rfl rfl rfl rfl rows2 ⟨rfl, rfl⟩ | exact end_shapeS _ 3 _ true rfl rfl rfl rfl rfl rows3 ⟨rfl, rfl⟩ | exact end_shapeS _ 4 _ true rfl rfl rfl rfl rfl rows4 ⟨rfl, rfl⟩
theorem sh17_7 (n : Nat) (X : List (Nat × Blk)) (hkl : keysLt X n) : Con Tryz.prog 17 [.c (.int .i64 7)] ⟨n, X⟩ (fun v H' => v = shapeV ⟨#[100, 110, 109, 115]⟩ 111 [⟨n + 1, 0, 0, 0⟩] true ∧ H' = addBs ⟨n, X⟩ [intsW 4, slB n 4 true]) := sh17_S _ _ _ (.inl ⟨rfl, rfl, rfl⟩) n X hkl
theorem sh17_9 (n : Nat) (X : List (Nat × Blk)) (hkl : keysLt X n) : Con Tryz.prog 17 [.c (.int .i64 9)] ⟨n, X⟩ (fun v H' => v = shapeV ⟨#[100, 110, 109, 115]⟩ 111 [⟨n + 1, 0, 0, 0⟩] true ∧ H' = addBs ⟨n, X⟩ [intsW 2, slB n 2 true]) := sh17_S _ _ _ (.inr (.inl ⟨rfl, rfl, rfl⟩)) n X hkl
theorem sh17_16 (n : Nat) (X : List (Nat × Blk)) (hkl : keysLt X n) : Con Tryz.prog 17 [.c (.int .i64 16)] ⟨n, X⟩ (fun v H' => v = shapeV ⟨#[110, 115]⟩ 111 [⟨n + 1, 0, 0, 0⟩] true ∧ H' = addBs ⟨n, X⟩ [intsW 3, slB n 3 true]) := sh17_S _ _ _ (.inr (.inr (⟨rfl, rfl, rfl⟩))) n X hkl
set_option maxHeartbeats 8000000 in
theorem sh17_T (k : Int) (f : ByteArray) (c : Nat) (hk : (k = 21 ∧ f = ⟨#[100, 110, 115]⟩ ∧ c = 2) ∨ (k = 23 ∧ f = ⟨#[100, 110, 115]⟩ ∧ c = 2) ∨ (k = 24 ∧ f = ⟨#[100, 110, 109, 115]⟩ ∧ c = 2)) (n : Nat) (X : List (Nat × Blk)) (hkl : keysLt X n) : Con Tryz.prog 17 [.c (.int .i64 k)] ⟨n, X⟩ (fun v H' => v = shapeV f 111 [⟨n + 1, 0, 0, 0⟩] true ∧ H' = addBs ⟨n, X⟩ [intsW c, slB n c true]) := by
  refine frame_shapeS _ _ _ ?_ (by simp only [leArgs, leV, leV1, leC, and_self]) n X hkl
  rcases hk with ⟨rfl, rfl, rfl⟩ | ⟨rfl, rfl, rfl⟩ | ⟨rfl, rfl, rfl⟩
  all_goals
    (refine con_of_run mixed (fn := Tryz.f17) (by kernel_rfl) (by kernel_rfl) C17_ok (rs := [.cn 2 2, .tmp 3]) (by kernel_rfl) (Nat.le_of_ble_eq_true (by kernel_rfl)) ?_; unfold C17; simp only [initT])
    repeat' (first
    | refine run_seq ?_
    | refine run_skip ?_
    | (refine run_region fun K hK => ?_; (try (simp (maxSteps := 10000000) only [Int.reduceBEq, C17r0, C17r1, C17r2, C17r4, C17r6, C17r8, C17r10, C17r12, C17r14, C17r16, C17r18, C17r20, C17r22, C17r24, C17r26, C17r28, C17r30, C17r32, C17r34, C17r35, C17r37, C17r38, C17r40, rwp_nil, rwp_cons, aop, gpath, St.get, slotAt, sfx, eqP, St.put, addBlk, bin, isShift, sameK, arith, shed, Seg.size, sizes, appL, argsOf, ptrsOf, Nat.reduceAdd])); (repeat (first | (refine And.intro ?_ ?_; · first | trivial | assumption | omega) | ((first | (refine call_t _ (sh87_21 _ _ (by simp [keysLt])) ?_; rintro v H' ⟨rfl, rfl⟩) | refine call_q _ (sh87_21 _ _ (by simp [roL, keysLt, boxW])) ?_ | refine call_g _ (imp_of (sh87_21 _ _ (by simp [roL, keysLt, boxW]))) ?_ | (refine call_t _ (sh87_23 _ _ (by simp [keysLt])) ?_; rintro v H' ⟨rfl, rfl⟩) | refine call_q _ (sh87_23 _ _ (by simp [roL, keysLt, boxW])) ?_ | refine call_g _ (imp_of (sh87_23 _ _ (by simp [roL, keysLt, boxW]))) ?_ | (refine call_t _ (sh87_24 _ _ (by simp [keysLt])) ?_; rintro v H' ⟨rfl, rfl⟩) | refine call_q _ (sh87_24 _ _ (by simp [roL, keysLt, boxW])) ?_ | refine call_g _ (imp_of (sh87_24 _ _ (by simp [roL, keysLt, boxW]))) ?_); simp (maxSteps := 10000000) only [shapeV, rwp_nil, rwp_cons, rwpK_app, aop, gpath, St.get, slotAt, sfx, eqP, St.put, addBlk, getB, setB, stn, setRow, rowNeed, nsub, shed, Nat.beq, Seg.size, sizes, takeS, dropS, putS, nthA, exOk, Nat.reduceAdd, List.append_nil, List.nil_append, addBs]))); with_reducible refine hK _ ?_; clear hK K)
    | (refine run_cond rfl (fun hc => ?_) (fun hc => ?_) <;> try (simp only [*, Bool.false_eq_true] at hc; done))
    | refine run_block ?_
    | refine run_ret ?_
    | refine run_nil ?_
    | refine run_exit ?_
    | refine blk_normal ?_
    | refine blk_ret ?_
    | refine blk_here ?_
    | refine blk_there rfl ?_
    | refine loop_exit ?_
    | refine loop_ret ?_
    | refine un_exit ?_
    | refine un_ret ?_
    | refine unE_exit ?_
    | refine unE_ret ?_
    | refine un_normal ?_)
    exact end_shapeS _ _ _ true rfl rfl rfl rfl rfl (fun _ _ => rfl) ⟨rfl, rfl⟩
theorem sh17_21 (n : Nat) (X : List (Nat × Blk)) (hkl : keysLt X n) : Con Tryz.prog 17 [.c (.int .i64 21)] ⟨n, X⟩ (fun v H' => v = shapeV ⟨#[100, 110, 115]⟩ 111 [⟨n + 1, 0, 0, 0⟩] true ∧ H' = addBs ⟨n, X⟩ [intsW 2, slB n 2 true]) := sh17_T _ _ _ (.inl ⟨rfl, rfl, rfl⟩) n X hkl
theorem sh17_23 (n : Nat) (X : List (Nat × Blk)) (hkl : keysLt X n) : Con Tryz.prog 17 [.c (.int .i64 23)] ⟨n, X⟩ (fun v H' => v = shapeV ⟨#[100, 110, 115]⟩ 111 [⟨n + 1, 0, 0, 0⟩] true ∧ H' = addBs ⟨n, X⟩ [intsW 2, slB n 2 true]) := sh17_T _ _ _ (.inr (.inl ⟨rfl, rfl, rfl⟩)) n X hkl
theorem sh17_24 (n : Nat) (X : List (Nat × Blk)) (hkl : keysLt X n) : Con Tryz.prog 17 [.c (.int .i64 24)] ⟨n, X⟩ (fun v H' => v = shapeV ⟨#[100, 110, 109, 115]⟩ 111 [⟨n + 1, 0, 0, 0⟩] true ∧ H' = addBs ⟨n, X⟩ [intsW 2, slB n 2 true]) := sh17_T _ _ _ (.inr (.inr (⟨rfl, rfl, rfl⟩))) n X hkl
def noShapeV : AV := .tup [.agg [.c (.str ⟨#[]⟩), .c .nilfn], .c (.bool false)]
def noShapeB : Blk := ⟨2, none, fun _ => [.c (.str ⟨#[]⟩), .c .nilfn], 48, true⟩
theorem end_noShape {l : List Slot} {H : Heap} {R : Post} {b : Nat} (hsl : slotAt l 2 = some ⟨2, [], .c (.ptr ⟨b, 0, 0, 0⟩)⟩) (hok : slotAt l 3 = some ⟨3, [], .c (.bool false)⟩) (hb : getB H.blks b = some noShapeB)
    (hR : R noShapeV ⟨1, [(0, noShapeB)]⟩) : endQ (LeS 0) [.cn 2 2, .tmp 3] R .ret ⟨l, H⟩ := by
  refine end_of ⟨[⟨2, [], .c (.ptr ⟨0, 0, 0, 0⟩)⟩, ⟨3, [], .c (.bool false)⟩], ⟨1, [(0, noShapeB)]⟩⟩ (LeS.intro [b] (fun i h => absurd h (Nat.not_lt_zero i)) (by simp only [diff, notIn, and_self]) rfl (by simp only [slotsLe, hsl, hok, leV, leV1, leC, leA, nthO, and_self]) ?_) ?_
  · simp only [leBlks, nthO, hb]
    exact ⟨⟨rfl, rfl, id, Nat.le_refl _, fun _ _ => by simp only [noShapeB, leSegs, leSeg, leC, and_self]⟩, trivial⟩
  · simp only [endF, resL, resA, St.get, slotAt, sfx, eqP, ldn, getB, noShapeB, rowNeed, cut, dropS, takeS, Seg.size, nsub, noTup, resV]
    exact hR
theorem forget_noShape {n : FuncId} {args : List AV} (h : Con Tryz.prog n args ⟨0, []⟩ fun v H' => v = noShapeV ∧ H' = ⟨1, [(0, noShapeB)]⟩) (ha : leArgs [] args args) (H : Heap) : Con Tryz.prog n args H fun v H' => v = noShapeV ∧ H' = H := by
  refine Con.pure (Con.forget h ?_) ha rfl H
  rintro v H' ⟨rfl, rfl⟩
  exact ⟨_, ⟨0, []⟩, [], fun i h => absurd h (Nat.not_lt_zero i), trivial, rfl, trivial, by simp only [noShapeV, leV, leV1, leVL, leC, leSegs, leSeg, and_self], rfl, rfl⟩
def noOp (op : Int) : Prop := (op == 1) = false ∧ (op == 2) = false ∧ (op == 3) = false ∧ (op == 4) = false ∧ (op == 5) = false ∧ (op == 6) = false ∧ (op == 7) = false ∧ (op == 8) = false ∧ (op == 9) = false ∧ (op == 10) = false ∧ (op == 11) = false ∧ (op == 12) = false ∧ (op == 13) = false ∧ (op == 14) = false ∧ (op == 15) = false ∧ (op == 16) = false ∧ (op == 17) = false ∧ (op == 18) = false ∧ (op == 19) = false ∧ (op == 20) = false ∧ (op == 21) = false ∧ (op == 22) = false ∧ (op == 23) = false ∧ (op == 24) = false ∧ (op == 25) = false ∧ (op == 26) = false ∧ (op == 27) = false ∧ (op == 28) = false ∧ (op == 29) = false ∧ (op == 30) = false ∧ (op == 31) = false ∧ (op == 32) = false ∧ (op == 33) = false ∧ (op == 34) = false ∧ (op == 35) = false ∧ (op == 36) = false ∧ (op == 37) = false
theorem sh87_no (op : Int) (h : noOp op) (H : Heap) : Con Tryz.prog 87 [.c (.int .i64 op)] H (fun v H' => v = noShapeV ∧ H' = H) := by
  refine forget_noShape ?_ (by simp only [leArgs, leV, leV1, leC, and_self]) H
  unfold noOp at h
  (refine con_of_run mixed (fn := Tryz.f87) (by kernel_rfl) (by kernel_rfl) C87_ok (rs := [.cn 2 2, .tmp 3]) (by kernel_rfl) (Nat.le_of_ble_eq_true (by kernel_rfl)) ?_; unfold C87; simp only [initT])
  repeat' (first
    | refine run_seq ?_
    | refine run_skip ?_
    | (refine run_region fun K hK => ?_; (try (simp (maxSteps := 10000000) only [h, C87r0, C87r1, C87r2, C87r3, C87r4, C87r5, C87r6, C87r7, C87r8, C87r9, C87r10, C87r11, C87r12, C87r13, C87r14, C87r15, C87r16, C87r17, C87r18, C87r29, rwp_nil, rwp_cons, aop, gpath, St.get, slotAt, sfx, eqP, St.put, addBlk, getB, setB, stn, setRow, rowNeed, nsub, bin, isShift, sameK, arith, shed, Nat.beq, Seg.size, sizes, takeS, dropS, putS, partsOf, fillS, exOk, Nat.reduceAdd, List.append_nil, List.nil_append])); (repeat (first | (refine And.intro ?_ ?_; · first | trivial | assumption | omega))); with_reducible refine hK _ ?_; clear hK K)
    | (refine run_cond rfl (fun hc => ?_) (fun hc => ?_) <;> try (simp only [*, Bool.false_eq_true] at hc; done))
    | refine run_block ?_
    | refine run_ret ?_
    | refine run_nil ?_
    | refine run_exit ?_
    | refine blk_normal ?_
    | refine blk_ret ?_
    | refine blk_here ?_
    | refine blk_there rfl ?_
    | refine loop_exit ?_
    | refine loop_ret ?_
    | refine un_exit ?_
    | refine un_ret ?_
    | refine unE_exit ?_
    | refine unE_ret ?_
    | refine un_normal ?_)
  exact end_noShape rfl rfl rfl ⟨rfl, rfl⟩
theorem sh17_no (op : Int) (h : noOp op) (H : Heap) : Con Tryz.prog 17 [.c (.int .i64 op)] H (fun v H' => v = noShapeV ∧ H' = H) := by
  refine forget_noShape ?_ (by simp only [leArgs, leV, leV1, leC, and_self]) H
  have h' := h
  unfold noOp at h'
  (refine con_of_run mixed (fn := Tryz.f17) (by kernel_rfl) (by kernel_rfl) C17_ok (rs := [.cn 2 2, .tmp 3]) (by kernel_rfl) (Nat.le_of_ble_eq_true (by kernel_rfl)) ?_; unfold C17; simp only [initT])
  repeat' (first
    | refine run_seq ?_
    | refine run_skip ?_
    | (refine run_region fun K hK => ?_; (try (simp (maxSteps := 10000000) only [h', C17r0, C17r1, C17r2, C17r4, C17r6, C17r8, C17r10, C17r12, C17r14, C17r16, C17r18, C17r20, C17r22, C17r24, C17r26, C17r28, C17r30, C17r32, C17r34, C17r35, C17r37, C17r38, C17r40, rwp_nil, rwp_cons, aop, gpath, St.get, slotAt, sfx, eqP, St.put, addBlk, bin, isShift, sameK, arith, shed, Seg.size, sizes, appL, argsOf, ptrsOf, Nat.reduceAdd])); (repeat (first | (refine And.intro ?_ ?_; · first | trivial | assumption | omega) | ((first | (refine call_t _ (sh87_no _ h _) ?_; rintro v H' ⟨rfl, rfl⟩) | refine call_q _ (sh87_no _ h _) ?_ | refine call_g _ (imp_of (sh87_no _ h _)) ?_); simp (maxSteps := 10000000) only [noShapeV, rwp_nil, rwp_cons, rwpK_app, aop, gpath, St.get, slotAt, sfx, eqP, St.put, addBlk, getB, setB, stn, setRow, rowNeed, nsub, shed, Nat.beq, Seg.size, sizes, takeS, dropS, putS, nthA, exOk, Nat.reduceAdd, List.append_nil, List.nil_append]))); with_reducible refine hK _ ?_; clear hK K)
    | (refine run_cond rfl (fun hc => ?_) (fun hc => ?_) <;> try (simp only [*, Bool.false_eq_true] at hc; done))
    | refine run_block ?_
    | refine run_ret ?_
    | refine run_nil ?_
    | refine run_exit ?_
    | refine blk_normal ?_
    | refine blk_ret ?_
    | refine blk_here ?_
    | refine blk_there rfl ?_
    | refine loop_exit ?_
    | refine loop_ret ?_
    | refine un_exit ?_
    | refine un_ret ?_
    | refine unE_exit ?_
    | refine unE_ret ?_
    | refine un_normal ?_)
  exact end_noShape rfl rfl rfl ⟨rfl, rfl⟩
end Go.Proofs.YteikpddilabppaaGreatR
