/- code: closures, and the forms. -/
import Derived.Test.YteikpddilabppaaGreatRWa
namespace Go.Proofs.YteikpddilabppaaGreatR
open Go.AM
set_option maxRecDepth 100000
set_option linter.unusedSimpArgs false
set_option linter.unusedVariables false
theorem dropB_none {l : List Nat} {H0 : List (Nat × Blk)} (h : ∀ k, goneB l H0 k = false) (X : List (Nat × Blk)) : dropB l H0 X = X := by
  induction X with
  | nil => rfl
  | cons x r ih => simp [dropB, h, ih]
/-- A call that only reads what is named to it, where more is named. -/
theorem ro_gen {f : FuncId} {args args' : List AV} {H0 : Heap} {V : AV} (h : Con Tryz.prog f args H0 (fun v H' => v = V ∧ H' = H0)) (l : List Nat) (n : Nat) (X : List (Nat × Blk)) (hl : H0.next = l.length) (hd : diff l) (hlt : allLt l n) (hkl : keysLt X n) (hb : leBlks l X H0.blks) (ha : leArgs l args' args) (hV : mapV (gId l n) V = V)
    (hgone : ∀ k, goneB l H0.blks k = false) (hnew : newB (gId l n) l H0.blks [] H0.blks = []) (hnx : gId l n H0.next = n) : Con Tryz.prog f args' ⟨n, X⟩ (fun v H' => v = V ∧ H' = ⟨n, X⟩) := by
  refine (h.frame (H := ⟨n, X⟩) l hl hd hlt hkl hb ha).weaken ?_
  rintro v H' ⟨v0, H0', ⟨rfl, rfl⟩, rfl, rfl⟩
  refine ⟨hV, ?_⟩
  simp only [framed, dropB_none hgone, hnew, hnx, appB]
def boxW (v : Int) : Blk := ⟨1, none, fun _ => [.c (.int .i64 v)], 3, true⟩
def boxH1 (a : Int) : Heap := ⟨1, [(0, boxI a)]⟩
def boxH2 (a b : Int) : Heap := ⟨2, [(0, boxI a), (1, boxI b)]⟩
def boxH4 (a b c d : Int) : Heap := ⟨4, [(0, boxI a), (1, boxI b), (2, boxI c), (3, boxI d)]⟩
theorem idt1 : ∀ i, i < 1 → nthO [0] i = some i := by
  intro i h; match i, h with
  | 0, _ => rfl
theorem idt2 : ∀ i, i < 2 → nthO [0, 1] i = some i := by
  intro i h; match i, h with
  | 0, _ => rfl
  | 1, _ => rfl
theorem idt4 : ∀ i, i < 4 → nthO [0, 1, 2, 3] i = some i := by
  intro i h; match i, h with
  | 0, _ => rfl
  | 1, _ => rfl
  | 2, _ => rfl
  | 3, _ => rfl
theorem idu1 (b : Nat) : ∀ i, i < 1 → nthO [0, b] i = some i := by
  intro i h; match i, h with
  | 0, _ => rfl
theorem idu2 (b : Nat) : ∀ i, i < 2 → nthO [0, 1, b] i = some i := by
  intro i h; match i, h with
  | 0, _ => rfl
  | 1, _ => rfl
theorem idu4 (b : Nat) : ∀ i, i < 4 → nthO [0, 1, 2, 3, b] i = some i := by
  intro i h; match i, h with
  | 0, _ => rfl
  | 1, _ => rfl
  | 2, _ => rfl
  | 3, _ => rfl
def accI (op w : Int) : InsnS := { nilI with op := op, rd := bitsS w 0 5, rn := bitsS w 5 5, imm := mulS 8 (bitsS w 10 12) }
theorem con96 (op w : Int)  : Con Tryz.prog 96 [.c (.int .u32 w), .c (.ptr ⟨0, 0, 0, 0⟩)] (boxH1 op) (fun v H' => v = .agg (insnL (accI op w)) ∧ H' = boxH1 op) := by
  refine Con.forget (R := fun v H' => v = .agg (insnL (accI op w)) ∧ H' = ⟨2, (1, insnB (accI op w)) :: [(0, boxI op)]⟩) ?_ ?_
  rotate_left
  · rintro v H' ⟨rfl, rfl⟩
    exact ⟨.agg (insnL (accI op w)), boxH1 op, [0], idt1, by simp only [diff, notIn, and_self], rfl, ⟨box_le _ _, trivial⟩, insn_leV _, rfl, rfl⟩
  (refine con_of_run mixed (fn := Tryz.f96) (by kernel_rfl) (by kernel_rfl) C96_ok (rs := [.cn 16 3]) (by kernel_rfl) (Nat.le_of_ble_eq_true (by kernel_rfl)) ?_; unfold C96; simp only [initT, Nat.reduceAdd])
  simp only [boxH1, boxI]
  repeat' (first
    | refine run_seq ?_
    | refine run_skip ?_
    | (refine run_region fun K hK => ?_; (try (simp (maxSteps := 10000000) only [C96r0, C96r1, rwp_nil, rwp_cons, aop, gpath, St.get, slotAt, sfx, eqP, St.put, addBlk, getB, ld1, rowNeed, segAt, shed, Seg.size, sizes, appL, argsOf, ptrsOf, Nat.reduceAdd])); (repeat (first | (refine And.intro ?_ ?_; · decide) | ((first | (refine call_t _ (con91 _ _ _ (by first | assumption | decide) (by first | assumption | decide) _) ?_; rintro v H' ⟨rfl, rfl⟩) | refine call_q _ (con91 _ _ _ (by first | assumption | decide) (by first | assumption | decide) _) ?_ | refine call_g _ (imp_of (con91 _ _ _ (by first | assumption | decide) (by first | assumption | decide) _)) ?_ | (refine call_t _ (con90 _ _ _) ?_; rintro v H' ⟨rfl, rfl⟩) | refine call_q _ (con90 _ _ _) ?_ | refine call_g _ (imp_of (con90 _ _ _)) ?_); simp (maxSteps := 10000000) only [rwp_nil, rwp_cons, rwpK_app, aop, gpath, St.get, slotAt, sfx, eqP, segsOf, St.put, addBlk, getB, setB, stn, setRow, rowNeed, nsub, bin, isShift, sameK, arith, shed, Nat.beq, Seg.size, sizes, appL, argsOf, ptrsOf, takeS, dropS, putS, partsOf, fillS, exOk, Nat.reduceAdd, List.append_nil, List.nil_append, List.cons_append]))); with_reducible refine hK _ ?_; clear hK K)
    | (refine run_cond rfl (fun hc => ?_) (fun hc => ?_) <;> try (simp only [*, Bool.true_eq_false, Bool.false_eq_true, Bool.not_true, Bool.not_false, Bool.true_or, Bool.or_true, Bool.false_or, Bool.or_false, Bool.false_and, Bool.and_false, bne_self_eq_false, beq_self_eq_true] at hc; done))
    | refine run_block ?_
    | refine run_ret ?_
    | refine run_nil ?_
    | refine run_exit ?_
    | refine blk_normal ?_
    | refine blk_ret ?_
    | refine blk_here ?_
    | refine blk_there rfl ?_
    | refine loop_exit ?_
    | refine loop_ret ?_
    | refine un_exit ?_
    | refine un_ret ?_
    | refine unE_exit ?_
    | refine unE_ret ?_
    | refine un_normal ?_)
  exact end_insn (b0 := [(0, boxI op)]) (accI op w) [0] rfl idt1 (by simp only [diff, notIn, Nat.beq, and_self, List.cons_append, List.nil_append]) rfl rfl ⟨box_le _ _, trivial⟩ rfl (idu1 _) ⟨rfl, rfl⟩
def accRegI (op w : Int) : InsnS := { insnS w op with amount := mulS 3 (bitsS w 12 1) }
theorem con97 (op w : Int)  : Con Tryz.prog 97 [.c (.int .u32 w), .c (.ptr ⟨0, 0, 0, 0⟩)] (boxH1 op) (fun v H' => v = .agg (insnL (accRegI op w)) ∧ H' = boxH1 op) := by
  refine Con.forget (R := fun v H' => v = .agg (insnL (accRegI op w)) ∧ H' = ⟨2, (1, insnB (accRegI op w)) :: [(0, boxI op)]⟩) ?_ ?_
  rotate_left
  · rintro v H' ⟨rfl, rfl⟩
    exact ⟨.agg (insnL (accRegI op w)), boxH1 op, [0], idt1, by simp only [diff, notIn, and_self], rfl, ⟨box_le _ _, trivial⟩, insn_leV _, rfl, rfl⟩
  (refine con_of_run mixed (fn := Tryz.f97) (by kernel_rfl) (by kernel_rfl) C97_ok (rs := [.cn 16 3]) (by kernel_rfl) (Nat.le_of_ble_eq_true (by kernel_rfl)) ?_; unfold C97; simp only [initT, Nat.reduceAdd])
  simp only [boxH1, boxI]
  repeat' (first
    | refine run_seq ?_
    | refine run_skip ?_
    | (refine run_region fun K hK => ?_; (try (simp (maxSteps := 10000000) only [C97r0, C97r1, C97r2, C97r3, rwp_nil, rwp_cons, aop, gpath, St.get, slotAt, sfx, eqP, St.put, addBlk, getB, setB, ld1, ldn, stn, setRow, rowNeed, segAt, nsub, shed, Nat.beq, Seg.size, sizes, appL, argsOf, ptrsOf, cut, takeS, dropS, putS, exOk, Nat.reduceAdd, List.append_nil, List.nil_append])); (repeat (first | (refine And.intro ?_ ?_; · decide) | ((first | (refine call_t _ (con91 _ _ _ (by first | assumption | decide) (by first | assumption | decide) _) ?_; rintro v H' ⟨rfl, rfl⟩) | refine call_q _ (con91 _ _ _ (by first | assumption | decide) (by first | assumption | decide) _) ?_ | refine call_g _ (imp_of (con91 _ _ _ (by first | assumption | decide) (by first | assumption | decide) _)) ?_ | (refine call_t _ (con90 _ _ _) ?_; rintro v H' ⟨rfl, rfl⟩) | refine call_q _ (con90 _ _ _) ?_ | refine call_g _ (imp_of (con90 _ _ _)) ?_); simp (maxSteps := 10000000) only [insnL, rwp_nil, rwp_cons, rwpK_app, aop, gpath, St.get, slotAt, sfx, eqP, St.put, addBlk, getB, setB, st1, stn, setRow, rowNeed, segAt, nsub, bin, isShift, sameK, arith, shed, addN, Nat.beq, Seg.size, sizes, takeS, dropS, putS, exOk, Nat.reduceAdd, List.append_nil, List.nil_append, List.cons_append]))); with_reducible refine hK _ ?_; clear hK K)
    | (refine run_cond rfl (fun hc => ?_) (fun hc => ?_) <;> try (simp only [*, Bool.true_eq_false, Bool.false_eq_true, Bool.not_true, Bool.not_false, Bool.true_or, Bool.or_true, Bool.false_or, Bool.or_false, Bool.false_and, Bool.and_false, bne_self_eq_false, beq_self_eq_true] at hc; done))
    | refine run_block ?_
    | refine run_ret ?_
    | refine run_nil ?_
    | refine run_exit ?_
    | refine blk_normal ?_
    | refine blk_ret ?_
    | refine blk_here ?_
    | refine blk_there rfl ?_
    | refine loop_exit ?_
    | refine loop_ret ?_
    | refine un_exit ?_
    | refine un_ret ?_
    | refine unE_exit ?_
    | refine unE_ret ?_
    | refine un_normal ?_)
  exact end_insn (b0 := [(0, boxI op)]) (accRegI op w) [0] rfl idt1 (by simp only [diff, notIn, Nat.beq, and_self, List.cons_append, List.nil_append]) rfl rfl ⟨box_le _ _, trivial⟩ rfl (idu1 _) ⟨rfl, rfl⟩
def twoI (op sub w : Int) : InsnS := { nilI with op := op, sub := sub, rd := bitsS w 0 5, rn := bitsS w 5 5 }
theorem con98 (op sub w : Int)  : Con Tryz.prog 98 [.c (.int .u32 w), .c (.ptr ⟨0, 0, 0, 0⟩), .c (.ptr ⟨1, 0, 0, 0⟩)] (boxH2 op sub) (fun v H' => v = .agg (insnL (twoI op sub w)) ∧ H' = boxH2 op sub) := by
  refine Con.forget (R := fun v H' => v = .agg (insnL (twoI op sub w)) ∧ H' = ⟨3, (2, insnB (twoI op sub w)) :: [(0, boxI op), (1, boxI sub)]⟩) ?_ ?_
  rotate_left
  · rintro v H' ⟨rfl, rfl⟩
    exact ⟨.agg (insnL (twoI op sub w)), boxH2 op sub, [0, 1], idt2, by simp only [diff, notIn, Nat.beq, and_self], rfl, ⟨box_le _ _, box_le _ _, trivial⟩, insn_leV _, rfl, rfl⟩
  (refine con_of_run mixed (fn := Tryz.f98) (by kernel_rfl) (by kernel_rfl) C98_ok (rs := [.cn 16 4]) (by kernel_rfl) (Nat.le_of_ble_eq_true (by kernel_rfl)) ?_; unfold C98; simp only [initT, Nat.reduceAdd])
  simp only [boxH2, boxI]
  repeat' (first
    | refine run_seq ?_
    | refine run_skip ?_
    | (refine run_region fun K hK => ?_; (try (simp (maxSteps := 10000000) only [C98r0, C98r1, rwp_nil, rwp_cons, aop, gpath, St.get, slotAt, sfx, eqP, St.put, addBlk, getB, ld1, rowNeed, segAt, shed, Seg.size, sizes, appL, argsOf, ptrsOf, Nat.reduceAdd])); (repeat (first | (refine And.intro ?_ ?_; · decide) | ((first | (refine call_t _ (con91 _ _ _ (by first | assumption | decide) (by first | assumption | decide) _) ?_; rintro v H' ⟨rfl, rfl⟩) | refine call_q _ (con91 _ _ _ (by first | assumption | decide) (by first | assumption | decide) _) ?_ | refine call_g _ (imp_of (con91 _ _ _ (by first | assumption | decide) (by first | assumption | decide) _)) ?_ | (refine call_t _ (con90 _ _ _) ?_; rintro v H' ⟨rfl, rfl⟩) | refine call_q _ (con90 _ _ _) ?_ | refine call_g _ (imp_of (con90 _ _ _)) ?_); simp (maxSteps := 10000000) only [rwp_nil, rwp_cons, rwpK_app, aop, gpath, St.get, slotAt, sfx, eqP, segsOf, St.put, addBlk, getB, setB, stn, setRow, rowNeed, nsub, shed, Nat.beq, Seg.size, sizes, appL, argsOf, ptrsOf, takeS, dropS, putS, partsOf, fillS, exOk, Nat.reduceAdd, List.append_nil, List.nil_append, List.cons_append]))); with_reducible refine hK _ ?_; clear hK K)
    | (refine run_cond rfl (fun hc => ?_) (fun hc => ?_) <;> try (simp only [*, Bool.true_eq_false, Bool.false_eq_true, Bool.not_true, Bool.not_false, Bool.true_or, Bool.or_true, Bool.false_or, Bool.or_false, Bool.false_and, Bool.and_false, bne_self_eq_false, beq_self_eq_true] at hc; done))
    | refine run_block ?_
    | refine run_ret ?_
    | refine run_nil ?_
    | refine run_exit ?_
    | refine blk_normal ?_
    | refine blk_ret ?_
    | refine blk_here ?_
    | refine blk_there rfl ?_
    | refine loop_exit ?_
    | refine loop_ret ?_
    | refine un_exit ?_
    | refine un_ret ?_
    | refine unE_exit ?_
    | refine unE_ret ?_
    | refine un_normal ?_)
  exact end_insn (b0 := [(0, boxI op), (1, boxI sub)]) (twoI op sub w) [0, 1] rfl idt2 (by simp only [diff, notIn, Nat.beq, and_self, List.cons_append, List.nil_append]) rfl rfl ⟨box_le _ _, box_le _ _, trivial⟩ rfl (idu2 _) ⟨rfl, rfl⟩
def plainI (op w : Int) : InsnS := { nilI with op := op }
theorem con100 (op w : Int)  : Con Tryz.prog 100 [.c (.int .u32 w), .c (.ptr ⟨0, 0, 0, 0⟩)] (boxH1 op) (fun v H' => v = .agg (insnL (plainI op w)) ∧ H' = boxH1 op) := by
  refine Con.forget (R := fun v H' => v = .agg (insnL (plainI op w)) ∧ H' = ⟨2, (1, insnB (plainI op w)) :: [(0, boxI op)]⟩) ?_ ?_
  rotate_left
  · rintro v H' ⟨rfl, rfl⟩
    exact ⟨.agg (insnL (plainI op w)), boxH1 op, [0], idt1, by simp only [diff, notIn, and_self], rfl, ⟨box_le _ _, trivial⟩, insn_leV _, rfl, rfl⟩
  (refine con_of_run mixed (fn := Tryz.f100) (by kernel_rfl) (by kernel_rfl) C100_ok (rs := [.cn 16 3]) (by kernel_rfl) (Nat.le_of_ble_eq_true (by kernel_rfl)) ?_; unfold C100; simp only [initT, Nat.reduceAdd])
  simp only [boxH1, boxI]
  repeat' (first
    | refine run_seq ?_
    | refine run_skip ?_
    | (refine run_region fun K hK => ?_; (try (simp (maxSteps := 10000000) only [C100r0, C100r1, rwp_nil, rwp_cons, aop, gpath, St.get, slotAt, sfx, eqP, segsOf, St.put, addBlk, getB, setB, ld1, stn, setRow, rowNeed, segAt, nsub, shed, Nat.beq, Seg.size, sizes, takeS, dropS, putS, partsOf, fillS, exOk, Nat.reduceAdd, List.append_nil, List.nil_append, List.cons_append])); (repeat (first | (refine And.intro ?_ ?_; · decide) | ((first | (refine call_t _ (con91 _ _ _ (by first | assumption | decide) (by first | assumption | decide) _) ?_; rintro v H' ⟨rfl, rfl⟩) | refine call_q _ (con91 _ _ _ (by first | assumption | decide) (by first | assumption | decide) _) ?_ | refine call_g _ (imp_of (con91 _ _ _ (by first | assumption | decide) (by first | assumption | decide) _)) ?_ | (refine call_t _ (con90 _ _ _) ?_; rintro v H' ⟨rfl, rfl⟩) | refine call_q _ (con90 _ _ _) ?_ | refine call_g _ (imp_of (con90 _ _ _)) ?_); simp (maxSteps := 10000000) only [insnL, C100r0, C100r1, rwp_nil, rwp_cons, rwpK_app, aop, gpath, St.get, slotAt, sfx, eqP, segsOf, St.put, addBlk, getB, setB, delB, ld1, ldn, st1, stn, setRow, rowNeed, segAt, nsub, bin, un, eqB, isShift, sameK, arith, shiftR, getsl, selB_or, selB_and, beqb, shed, addN, Nat.beq, Seg.size, sizes, imp, needP, andN, appL, argsOf, ptrsOf, aasOf, cut, takeS, dropS, putS, partsOf, fillS, fieldOf, nthA, negIf, nilq, nilB, eqS, eqF, eqS1, andP, kin, slcS, strOk, plusA, bndHi, leN, optG, roH, roL, initT, exOk, exAll, wrAddr, Nat.reduceAdd, Nat.reduceSub, Nat.reduceMul, Int.reduceToNat, List.append_nil, List.nil_append, List.cons_append, eqT, idxT, cat, cpy, ite_int, ite_bool, ite_seg, ite_segs, ite_nil, ite_twice, Int.toNat_natCast, app, addBs, tob]))); with_reducible refine hK _ ?_; clear hK K)
    | (refine run_cond rfl (fun hc => ?_) (fun hc => ?_) <;> try (simp only [*, Bool.true_eq_false, Bool.false_eq_true, Bool.not_true, Bool.not_false, Bool.true_or, Bool.or_true, Bool.false_or, Bool.or_false, Bool.false_and, Bool.and_false, bne_self_eq_false, beq_self_eq_true] at hc; done))
    | refine run_block ?_
    | refine run_ret ?_
    | refine run_nil ?_
    | refine run_exit ?_
    | refine blk_normal ?_
    | refine blk_ret ?_
    | refine blk_here ?_
    | refine blk_there rfl ?_
    | refine loop_exit ?_
    | refine loop_ret ?_
    | refine un_exit ?_
    | refine un_ret ?_
    | refine unE_exit ?_
    | refine unE_ret ?_
    | refine un_normal ?_)
  exact end_insn (b0 := [(0, boxI op)]) (plainI op w) [0] rfl idt1 (by simp only [diff, notIn, Nat.beq, and_self, List.cons_append, List.nil_append]) rfl rfl ⟨box_le _ _, trivial⟩ rfl (idu1 _) ⟨rfl, rfl⟩
def targetI (op w : Int) : InsnS := { nilI with op := op, rd := bitsS w 0 5 }
theorem con103 (op w : Int)  : Con Tryz.prog 103 [.c (.int .u32 w), .c (.ptr ⟨0, 0, 0, 0⟩)] (boxH1 op) (fun v H' => v = .agg (insnL (targetI op w)) ∧ H' = boxH1 op) := by
  refine Con.forget (R := fun v H' => v = .agg (insnL (targetI op w)) ∧ H' = ⟨2, (1, insnB (targetI op w)) :: [(0, boxI op)]⟩) ?_ ?_
  rotate_left
  · rintro v H' ⟨rfl, rfl⟩
    exact ⟨.agg (insnL (targetI op w)), boxH1 op, [0], idt1, by simp only [diff, notIn, and_self], rfl, ⟨box_le _ _, trivial⟩, insn_leV _, rfl, rfl⟩
  (refine con_of_run mixed (fn := Tryz.f103) (by kernel_rfl) (by kernel_rfl) C103_ok (rs := [.cn 16 3]) (by kernel_rfl) (Nat.le_of_ble_eq_true (by kernel_rfl)) ?_; unfold C103; simp only [initT, Nat.reduceAdd])
  simp only [boxH1, boxI]
  repeat' (first
    | refine run_seq ?_
    | refine run_skip ?_
    | (refine run_region fun K hK => ?_; (try (simp (maxSteps := 10000000) only [C103r0, C103r1, rwp_nil, rwp_cons, aop, gpath, St.get, slotAt, sfx, eqP, St.put, addBlk, getB, ld1, rowNeed, segAt, shed, Seg.size, sizes, appL, argsOf, ptrsOf, Nat.reduceAdd])); (repeat (first | (refine And.intro ?_ ?_; · decide) | ((first | (refine call_t _ (con91 _ _ _ (by first | assumption | decide) (by first | assumption | decide) _) ?_; rintro v H' ⟨rfl, rfl⟩) | refine call_q _ (con91 _ _ _ (by first | assumption | decide) (by first | assumption | decide) _) ?_ | refine call_g _ (imp_of (con91 _ _ _ (by first | assumption | decide) (by first | assumption | decide) _)) ?_ | (refine call_t _ (con90 _ _ _) ?_; rintro v H' ⟨rfl, rfl⟩) | refine call_q _ (con90 _ _ _) ?_ | refine call_g _ (imp_of (con90 _ _ _)) ?_); simp (maxSteps := 10000000) only [rwp_nil, rwp_cons, rwpK_app, aop, gpath, St.get, slotAt, sfx, eqP, segsOf, St.put, addBlk, getB, setB, stn, setRow, rowNeed, nsub, shed, Nat.beq, Seg.size, sizes, takeS, dropS, putS, partsOf, fillS, exOk, Nat.reduceAdd, List.append_nil, List.nil_append, List.cons_append]))); with_reducible refine hK _ ?_; clear hK K)
    | (refine run_cond rfl (fun hc => ?_) (fun hc => ?_) <;> try (simp only [*, Bool.true_eq_false, Bool.false_eq_true, Bool.not_true, Bool.not_false, Bool.true_or, Bool.or_true, Bool.false_or, Bool.or_false, Bool.false_and, Bool.and_false, bne_self_eq_false, beq_self_eq_true] at hc; done))
    | refine run_block ?_
    | refine run_ret ?_
    | refine run_nil ?_
    | refine run_exit ?_
    | refine blk_normal ?_
    | refine blk_ret ?_
    | refine blk_here ?_
    | refine blk_there rfl ?_
    | refine loop_exit ?_
    | refine loop_ret ?_
    | refine un_exit ?_
    | refine un_ret ?_
    | refine unE_exit ?_
    | refine unE_ret ?_
    | refine un_normal ?_)
  exact end_insn (b0 := [(0, boxI op)]) (targetI op w) [0] rfl idt1 (by simp only [diff, notIn, Nat.beq, and_self, List.cons_append, List.nil_append]) rfl rfl ⟨box_le _ _, trivial⟩ rfl (idu1 _) ⟨rfl, rfl⟩
def systemI (op w : Int) : InsnS := { nilI with op := op, rd := bitsS w 0 5, sys := bitsS w 5 15 }
theorem con104 (op w : Int)  : Con Tryz.prog 104 [.c (.int .u32 w), .c (.ptr ⟨0, 0, 0, 0⟩)] (boxH1 op) (fun v H' => v = .agg (insnL (systemI op w)) ∧ H' = boxH1 op) := by
  refine Con.forget (R := fun v H' => v = .agg (insnL (systemI op w)) ∧ H' = ⟨2, (1, insnB (systemI op w)) :: [(0, boxI op)]⟩) ?_ ?_
  rotate_left
  · rintro v H' ⟨rfl, rfl⟩
    exact ⟨.agg (insnL (systemI op w)), boxH1 op, [0], idt1, by simp only [diff, notIn, and_self], rfl, ⟨box_le _ _, trivial⟩, insn_leV _, rfl, rfl⟩
  (refine con_of_run mixed (fn := Tryz.f104) (by kernel_rfl) (by kernel_rfl) C104_ok (rs := [.cn 16 3]) (by kernel_rfl) (Nat.le_of_ble_eq_true (by kernel_rfl)) ?_; unfold C104; simp only [initT, Nat.reduceAdd])
  simp only [boxH1, boxI]
  repeat' (first
    | refine run_seq ?_
    | refine run_skip ?_
    | (refine run_region fun K hK => ?_; (try (simp (maxSteps := 10000000) only [C104r0, C104r1, rwp_nil, rwp_cons, aop, gpath, St.get, slotAt, sfx, eqP, St.put, addBlk, getB, ld1, rowNeed, segAt, shed, Seg.size, sizes, appL, argsOf, ptrsOf, Nat.reduceAdd])); (repeat (first | (refine And.intro ?_ ?_; · decide) | ((first | (refine call_t _ (con91 _ _ _ (by first | assumption | decide) (by first | assumption | decide) _) ?_; rintro v H' ⟨rfl, rfl⟩) | refine call_q _ (con91 _ _ _ (by first | assumption | decide) (by first | assumption | decide) _) ?_ | refine call_g _ (imp_of (con91 _ _ _ (by first | assumption | decide) (by first | assumption | decide) _)) ?_ | (refine call_t _ (con90 _ _ _) ?_; rintro v H' ⟨rfl, rfl⟩) | refine call_q _ (con90 _ _ _) ?_ | refine call_g _ (imp_of (con90 _ _ _)) ?_); simp (maxSteps := 10000000) only [rwp_nil, rwp_cons, rwpK_app, aop, gpath, St.get, slotAt, sfx, eqP, segsOf, St.put, addBlk, getB, setB, stn, setRow, rowNeed, nsub, shed, Nat.beq, Seg.size, sizes, appL, argsOf, ptrsOf, takeS, dropS, putS, partsOf, fillS, exOk, Nat.reduceAdd, List.append_nil, List.nil_append, List.cons_append]))); with_reducible refine hK _ ?_; clear hK K)
    | (refine run_cond rfl (fun hc => ?_) (fun hc => ?_) <;> try (simp only [*, Bool.true_eq_false, Bool.false_eq_true, Bool.not_true, Bool.not_false, Bool.true_or, Bool.or_true, Bool.false_or, Bool.or_false, Bool.false_and, Bool.and_false, bne_self_eq_false, beq_self_eq_true] at hc; done))
    | refine run_block ?_
    | refine run_ret ?_
    | refine run_nil ?_
    | refine run_exit ?_
    | refine blk_normal ?_
    | refine blk_ret ?_
    | refine blk_here ?_
    | refine blk_there rfl ?_
    | refine loop_exit ?_
    | refine loop_ret ?_
    | refine un_exit ?_
    | refine un_ret ?_
    | refine unE_exit ?_
    | refine unE_ret ?_
    | refine un_normal ?_)
  exact end_insn (b0 := [(0, boxI op)]) (systemI op w) [0] rfl idt1 (by simp only [diff, notIn, Nat.beq, and_self, List.cons_append, List.nil_append]) rfl rfl ⟨box_le _ _, trivial⟩ rfl (idu1 _) ⟨rfl, rfl⟩
def numberI (op sub at_ many w : Int) : InsnS := { nilI with op := op, sub := sub, imm := bitsS w at_ many }
theorem con102 (op sub at_ many w : Int) (h1 : 0 ≤ at_) (h2 : 0 ≤ many) : Con Tryz.prog 102 [.c (.int .u32 w), .c (.ptr ⟨0, 0, 0, 0⟩), .c (.ptr ⟨1, 0, 0, 0⟩), .c (.ptr ⟨2, 0, 0, 0⟩), .c (.ptr ⟨3, 0, 0, 0⟩)] (boxH4 op sub at_ many) (fun v H' => v = .agg (insnL (numberI op sub at_ many w)) ∧ H' = boxH4 op sub at_ many) := by
  refine Con.forget (R := fun v H' => v = .agg (insnL (numberI op sub at_ many w)) ∧ H' = ⟨5, (4, insnB (numberI op sub at_ many w)) :: [(0, boxI op), (1, boxI sub), (2, boxI at_), (3, boxI many)]⟩) ?_ ?_
  rotate_left
  · rintro v H' ⟨rfl, rfl⟩
    exact ⟨.agg (insnL (numberI op sub at_ many w)), boxH4 op sub at_ many, [0, 1, 2, 3], idt4, by simp only [diff, notIn, Nat.beq, and_self], rfl, ⟨box_le _ _, box_le _ _, box_le _ _, box_le _ _, trivial⟩, insn_leV _, rfl, rfl⟩
  (refine con_of_run mixed (fn := Tryz.f102) (by kernel_rfl) (by kernel_rfl) C102_ok (rs := [.cn 16 6]) (by kernel_rfl) (Nat.le_of_ble_eq_true (by kernel_rfl)) ?_; unfold C102; simp only [initT, Nat.reduceAdd])
  simp only [boxH4, boxI]
  repeat' (first
    | refine run_seq ?_
    | refine run_skip ?_
    | (refine run_region fun K hK => ?_; (try (simp (maxSteps := 10000000) only [C102r0, C102r1, rwp_nil, rwp_cons, aop, gpath, St.get, slotAt, sfx, eqP, St.put, addBlk, getB, ld1, rowNeed, segAt, shed, Seg.size, sizes, appL, argsOf, ptrsOf, Nat.reduceAdd])); (repeat (first | (refine And.intro ?_ ?_; · decide) | ((first | (refine call_t _ (con91 _ _ _ (by first | assumption | decide) (by first | assumption | decide) _) ?_; rintro v H' ⟨rfl, rfl⟩) | refine call_q _ (con91 _ _ _ (by first | assumption | decide) (by first | assumption | decide) _) ?_ | refine call_g _ (imp_of (con91 _ _ _ (by first | assumption | decide) (by first | assumption | decide) _)) ?_ | (refine call_t _ (con90 _ _ _) ?_; rintro v H' ⟨rfl, rfl⟩) | refine call_q _ (con90 _ _ _) ?_ | refine call_g _ (imp_of (con90 _ _ _)) ?_); simp (maxSteps := 10000000) only [rwp_nil, rwp_cons, rwpK_app, aop, gpath, St.get, slotAt, sfx, eqP, segsOf, St.put, addBlk, getB, setB, stn, setRow, rowNeed, nsub, shed, Nat.beq, Seg.size, sizes, takeS, dropS, putS, partsOf, fillS, exOk, Nat.reduceAdd, List.append_nil, List.nil_append, List.cons_append]))); with_reducible refine hK _ ?_; clear hK K)
    | (refine run_cond rfl (fun hc => ?_) (fun hc => ?_) <;> try (simp only [*, Bool.true_eq_false, Bool.false_eq_true, Bool.not_true, Bool.not_false, Bool.true_or, Bool.or_true, Bool.false_or, Bool.or_false, Bool.false_and, Bool.and_false, bne_self_eq_false, beq_self_eq_true] at hc; done))
    | refine run_block ?_
    | refine run_ret ?_
    | refine run_nil ?_
    | refine run_exit ?_
    | refine blk_normal ?_
    | refine blk_ret ?_
    | refine blk_here ?_
    | refine blk_there rfl ?_
    | refine loop_exit ?_
    | refine loop_ret ?_
    | refine un_exit ?_
    | refine un_ret ?_
    | refine unE_exit ?_
    | refine unE_ret ?_
    | refine un_normal ?_)
  exact end_insn (b0 := [(0, boxI op), (1, boxI sub), (2, boxI at_), (3, boxI many)]) (numberI op sub at_ many w) [0, 1, 2, 3] rfl idt4 (by simp only [diff, notIn, Nat.beq, and_self, List.cons_append, List.nil_append]) rfl rfl ⟨box_le _ _, box_le _ _, box_le _ _, box_le _ _, trivial⟩ rfl (idu4 _) ⟨rfl, rfl⟩
def exclI (op w : Int) : InsnS := { insnS w op with sub := bitsS w 15 1, rm := if op = 23 then 0 else (insnS w op).rm }
theorem con99 (op w : Int) : Con Tryz.prog 99 [.c (.int .u32 w), .c (.ptr ⟨0, 0, 0, 0⟩)] (boxH1 op) (fun v H' => v = .agg (insnL (exclI op w)) ∧ H' = boxH1 op) := by
  refine Con.forget (R := fun v H' => v = .agg (insnL (exclI op w)) ∧ H' = ⟨2, (1, insnB (exclI op w)) :: [(0, boxI op)]⟩) ?_ ?_
  rotate_left
  · rintro v H' ⟨rfl, rfl⟩
    exact ⟨.agg (insnL (exclI op w)), boxH1 op, [0], idt1, by simp only [diff, notIn, and_self], rfl, ⟨box_le _ _, trivial⟩, insn_leV _, rfl, rfl⟩
  (refine con_of_run mixed (fn := Tryz.f99) (by kernel_rfl) (by kernel_rfl) C99_ok (rs := [.cn 16 3]) (by kernel_rfl) (Nat.le_of_ble_eq_true (by kernel_rfl)) ?_; unfold C99; simp only [initT, Nat.reduceAdd])
  generalize hR : (fun (v : AV) (H' : Heap) => v = AV.agg (insnL (exclI op w)) ∧ H' = ⟨2, (1, insnB (exclI op w)) :: [(0, boxI op)]⟩) = R
  simp only [boxH1, boxI]
  repeat' (first
    | refine run_seq ?_
    | refine run_skip ?_
    | (refine run_region fun K hK => ?_; (try (simp (maxSteps := 10000000) only [C99r0, C99r1, C99r2, C99r3, C99r4, C99r5, rwp_nil, rwp_cons, aop, gpath, St.get, slotAt, sfx, eqP, St.put, addBlk, getB, setB, ld1, ldn, st1, stn, setRow, rowNeed, segAt, nsub, bin, isShift, sameK, arith, shed, addN, Nat.beq, Seg.size, sizes, appL, argsOf, ptrsOf, cut, takeS, dropS, putS, exOk, Nat.reduceAdd, List.append_nil, List.nil_append, List.cons_append])); (repeat (first | (refine And.intro ?_ ?_; · decide) | ((first | (refine call_t _ (con91 _ _ _ (by decide) (by decide) _) ?_; rintro v H' ⟨rfl, rfl⟩) | refine call_q _ (con91 _ _ _ (by decide) (by decide) _) ?_ | refine call_g _ (imp_of (con91 _ _ _ (by decide) (by decide) _)) ?_ | (refine call_t _ (con90 _ _ _) ?_; rintro v H' ⟨rfl, rfl⟩) | refine call_q _ (con90 _ _ _) ?_ | refine call_g _ (imp_of (con90 _ _ _)) ?_); simp (maxSteps := 10000000) only [insnL, rwp_nil, rwp_cons, rwpK_app, aop, gpath, St.get, slotAt, sfx, eqP, St.put, addBlk, getB, setB, st1, stn, setRow, rowNeed, segAt, nsub, shed, addN, Nat.beq, Seg.size, sizes, takeS, dropS, putS, exOk, Nat.reduceAdd, List.append_nil, List.nil_append, List.cons_append]))); with_reducible refine hK _ ?_; clear hK K)
    | (refine run_cond rfl (fun hc => ?_) (fun hc => ?_) <;> try (simp only [*, Bool.true_eq_false, Bool.false_eq_true, Bool.not_true, Bool.not_false, Bool.true_or, Bool.or_true, Bool.false_or, Bool.or_false, Bool.false_and, Bool.and_false, bne_self_eq_false, beq_self_eq_true] at hc; done))
    | refine run_block ?_
    | refine run_ret ?_
    | refine run_nil ?_
    | refine run_exit ?_
    | refine blk_normal ?_
    | refine blk_ret ?_
    | refine blk_here ?_
    | refine blk_there rfl ?_
    | refine loop_exit ?_
    | refine loop_ret ?_
    | refine un_exit ?_
    | refine un_ret ?_
    | refine unE_exit ?_
    | refine unE_ret ?_
    | refine un_normal ?_)
  · have h : op = 23 := by simpa using hc
    subst hR
    refine end_insn (b0 := [(0, boxI op)]) { insnS w op with sub := bitsS w 15 1, rm := 0 } [0] rfl idt1 (by simp only [diff, notIn, Nat.beq, and_self, List.cons_append, List.nil_append]) rfl rfl ⟨box_le _ _, trivial⟩ rfl (idu1 _) ?_
    have e : exclI op w = { insnS w op with sub := bitsS w 15 1, rm := 0 } := by simp only [exclI, h, if_true]
    rw [e]
    exact ⟨rfl, rfl⟩
  · have h : ¬ op = 23 := by simpa using hc
    subst hR
    refine end_insn (b0 := [(0, boxI op)]) { insnS w op with sub := bitsS w 15 1 } [0] rfl idt1 (by simp only [diff, notIn, Nat.beq, and_self, List.cons_append, List.nil_append]) rfl rfl ⟨box_le _ _, trivial⟩ rfl (idu1 _) ?_
    have e : exclI op w = { insnS w op with sub := bitsS w 15 1 } := by simp only [exclI, h, if_false]
    rw [e]
    exact ⟨rfl, rfl⟩
theorem con101 (at_ many w : Int) (i : InsnS) (h1 : 0 ≤ at_) (h2 : 0 ≤ many) : Con Tryz.prog 101 [.c (.int .u32 w), .agg (insnL i), .c (.ptr ⟨0, 0, 0, 0⟩), .c (.ptr ⟨1, 0, 0, 0⟩)] (boxH2 at_ many) (fun v H' => v = .c (.int .u32 (layS w i.imm at_ many)) ∧ H' = boxH2 at_ many) := by
  (refine con_of_run mixed (fn := Tryz.f101) (by kernel_rfl) (by kernel_rfl) C101_ok (rs := [.tmp 6]) (by kernel_rfl) (Nat.le_of_ble_eq_true (by kernel_rfl)) ?_; unfold C101; simp only [initT, Nat.reduceAdd])
  generalize hR : (fun (v : AV) (H' : Heap) => v = AV.c (.int .u32 (layS w i.imm at_ many)) ∧ H' = boxH2 at_ many) = R
  simp only [boxH2, boxI]
  repeat' (first
    | refine run_seq ?_
    | refine run_skip ?_
    | (refine run_region fun K hK => ?_; (try (simp (maxSteps := 10000000) only [insnL, C101r0, C101r1, rwp_nil, rwp_cons, aop, gpath, St.get, slotAt, sfx, eqP, segsOf, St.put, addBlk, getB, ld1, rowNeed, segAt, nsub, shed, addN, Seg.size, sizes, appL, argsOf, ptrsOf, Nat.reduceAdd])); (repeat (first | (refine And.intro ?_ ?_; · decide) | ((first | (refine call_t _ (con88 _ _ _ _ (by assumption) (by assumption) _) ?_; rintro v H' ⟨rfl, rfl⟩) | refine call_q _ (con88 _ _ _ _ (by assumption) (by assumption) _) ?_ | refine call_g _ (imp_of (con88 _ _ _ _ (by assumption) (by assumption) _)) ?_); simp (maxSteps := 10000000) only [rwp_nil, rwp_cons, rwpK_app, aop, gpath, St.get, slotAt, sfx, eqP, St.put, addBlk, shed]))); with_reducible refine hK _ ?_; clear hK K)
    | (refine run_cond rfl (fun hc => ?_) (fun hc => ?_) <;> try (simp only [*, Bool.true_eq_false, Bool.false_eq_true, Bool.not_true, Bool.not_false, Bool.true_or, Bool.or_true, Bool.false_or, Bool.or_false, Bool.false_and, Bool.and_false, bne_self_eq_false, beq_self_eq_true] at hc; done))
    | refine run_block ?_
    | refine run_ret ?_
    | refine run_nil ?_
    | refine run_exit ?_
    | refine blk_normal ?_
    | refine blk_ret ?_
    | refine blk_here ?_
    | refine blk_there rfl ?_
    | refine loop_exit ?_
    | refine loop_ret ?_
    | refine un_exit ?_
    | refine un_ret ?_
    | refine unE_exit ?_
    | refine unE_ret ?_
    | refine un_normal ?_)
  subst hR
  refine end_of ⟨[⟨6, [], .c (.int .u32 (layS w i.imm at_ many))⟩], boxH2 at_ many⟩ (LeS.intro [0, 1] idt2 (by simp only [diff, notIn, Nat.beq, and_self]) rfl ⟨⟨rfl, rfl⟩, trivial⟩ ⟨box_le _ _, box_le _ _, trivial⟩) ⟨rfl, rfl⟩
theorem con51 (a : Int) (n : Nat) (X : List (Nat × Blk)) (hkl : keysLt X n) : Con Tryz.prog 51 [.c (.int .i64 a)] ⟨n, X⟩ (fun v H' => v = .c (.fn 96 [] [⟨n, 0, 0, 0⟩]) ∧ H' = ⟨n + 1, (n, boxW a) :: X⟩) := by
  have h0 : Con Tryz.prog 51 [.c (.int .i64 a)] ⟨0, []⟩ (fun v H' => v = .c (.fn 96 [] [⟨0, 0, 0, 0⟩]) ∧ H' = ⟨1, [(0, boxW a)]⟩) := by
    (refine con_of_run mixed (fn := Tryz.f51) (by kernel_rfl) (by kernel_rfl) C51_ok (rs := [.tmp 2]) (by kernel_rfl) (Nat.le_of_ble_eq_true (by kernel_rfl)) ?_; unfold C51; simp only [initT])
    repeat' (first
    | refine run_seq ?_
    | refine run_skip ?_
    | (refine run_region fun K hK => ?_; (try (simp (maxSteps := 10000000) only [C51r0, C51r1, rwp_nil, rwp_cons, aop, gpath, St.get, slotAt, sfx, eqP, segsOf, St.put, addBlk, shed, Seg.size, sizes, aasOf, Nat.reduceAdd])); (repeat (first | (refine And.intro ?_ ?_; · first | trivial | assumption | omega))); with_reducible refine hK _ ?_; clear hK K)
    | (refine run_cond rfl (fun hc => ?_) (fun hc => ?_) <;> try (simp only [*, Bool.true_eq_false, Bool.false_eq_true, Bool.not_true, Bool.not_false, Bool.true_or, Bool.or_true, Bool.false_or, Bool.or_false, Bool.false_and, Bool.and_false, bne_self_eq_false, beq_self_eq_true] at hc; done))
    | refine run_block ?_
    | refine run_ret ?_
    | refine run_nil ?_
    | refine run_exit ?_
    | refine blk_normal ?_
    | refine blk_ret ?_
    | refine blk_here ?_
    | refine blk_there rfl ?_
    | refine loop_exit ?_
    | refine loop_ret ?_
    | refine un_exit ?_
    | refine un_ret ?_
    | refine unE_exit ?_
    | refine unE_ret ?_
    | refine un_normal ?_)
    refine end_of ⟨[⟨2, [], .c (.fn 96 [] [⟨0, 0, 0, 0⟩])⟩], ⟨1, [(0, boxW a)]⟩⟩ (LeS.intro [0] (fun i h => absurd h (Nat.not_lt_zero i)) (by simp only [diff, notIn, and_self]) rfl ?_ ?_) ⟨rfl, rfl⟩
    · simp only [slotsLe, slotAt, leV, leV1, leC, leAL, leA, nthO, and_self]
    · simp only [leBlks, nthO, getB]
      refine ⟨⟨rfl, rfl, id, Nat.le_refl _, fun _ _ => by simp only [boxW, leSegs, leSeg, leC, and_self]⟩, trivial⟩
  refine (h0.frame (H := ⟨n, X⟩) [] rfl trivial trivial hkl trivial (by simp only [leArgs, leV, leV1, leC, and_self])).weaken ?_
  rintro v H' ⟨v0, H0', ⟨rfl, rfl⟩, rfl, rfl⟩
  refine ⟨rfl, ?_⟩
  simp only [framed, dropB_none (l := []) (H0 := []) (fun _ => rfl)]
  rfl
theorem con53 (a : Int) (n : Nat) (X : List (Nat × Blk)) (hkl : keysLt X n) : Con Tryz.prog 53 [.c (.int .i64 a)] ⟨n, X⟩ (fun v H' => v = .c (.fn 97 [] [⟨n, 0, 0, 0⟩]) ∧ H' = ⟨n + 1, (n, boxW a) :: X⟩) := by
  have h0 : Con Tryz.prog 53 [.c (.int .i64 a)] ⟨0, []⟩ (fun v H' => v = .c (.fn 97 [] [⟨0, 0, 0, 0⟩]) ∧ H' = ⟨1, [(0, boxW a)]⟩) := by
    (refine con_of_run mixed (fn := Tryz.f53) (by kernel_rfl) (by kernel_rfl) C53_ok (rs := [.tmp 2]) (by kernel_rfl) (Nat.le_of_ble_eq_true (by kernel_rfl)) ?_; unfold C53; simp only [initT])
    repeat' (first
    | refine run_seq ?_
    | refine run_skip ?_
    | (refine run_region fun K hK => ?_; (try (simp (maxSteps := 10000000) only [C53r0, C53r1, rwp_nil, rwp_cons, aop, gpath, St.get, slotAt, sfx, eqP, segsOf, St.put, addBlk, shed, Seg.size, sizes, aasOf, Nat.reduceAdd])); (repeat (first | (refine And.intro ?_ ?_; · first | trivial | assumption | omega))); with_reducible refine hK _ ?_; clear hK K)
    | (refine run_cond rfl (fun hc => ?_) (fun hc => ?_) <;> try (simp only [*, Bool.true_eq_false, Bool.false_eq_true, Bool.not_true, Bool.not_false, Bool.true_or, Bool.or_true, Bool.false_or, Bool.or_false, Bool.false_and, Bool.and_false, bne_self_eq_false, beq_self_eq_true] at hc; done))
    | refine run_block ?_
    | refine run_ret ?_
    | refine run_nil ?_
    | refine run_exit ?_
    | refine blk_normal ?_
    | refine blk_ret ?_
    | refine blk_here ?_
    | refine blk_there rfl ?_
    | refine loop_exit ?_
    | refine loop_ret ?_
    | refine un_exit ?_
    | refine un_ret ?_
    | refine unE_exit ?_
    | refine unE_ret ?_
    | refine un_normal ?_)
    refine end_of ⟨[⟨2, [], .c (.fn 97 [] [⟨0, 0, 0, 0⟩])⟩], ⟨1, [(0, boxW a)]⟩⟩ (LeS.intro [0] (fun i h => absurd h (Nat.not_lt_zero i)) (by simp only [diff, notIn, and_self]) rfl ?_ ?_) ⟨rfl, rfl⟩
    · simp only [slotsLe, slotAt, leV, leV1, leC, leAL, leA, nthO, and_self]
    · simp only [leBlks, nthO, getB]
      refine ⟨⟨rfl, rfl, id, Nat.le_refl _, fun _ _ => by simp only [boxW, leSegs, leSeg, leC, and_self]⟩, trivial⟩
  refine (h0.frame (H := ⟨n, X⟩) [] rfl trivial trivial hkl trivial (by simp only [leArgs, leV, leV1, leC, and_self])).weaken ?_
  rintro v H' ⟨v0, H0', ⟨rfl, rfl⟩, rfl, rfl⟩
  refine ⟨rfl, ?_⟩
  simp only [framed, dropB_none (l := []) (H0 := []) (fun _ => rfl)]
  rfl
theorem con55 (a b : Int) (n : Nat) (X : List (Nat × Blk)) (hkl : keysLt X n) : Con Tryz.prog 55 [.c (.int .i64 a), .c (.int .i64 b)] ⟨n, X⟩ (fun v H' => v = .c (.fn 98 [] [⟨n, 0, 0, 0⟩, ⟨n + 1, 0, 0, 0⟩]) ∧ H' = ⟨n + 2, (n + 1, boxW b) :: (n, boxW a) :: X⟩) := by
  have h0 : Con Tryz.prog 55 [.c (.int .i64 a), .c (.int .i64 b)] ⟨0, []⟩ (fun v H' => v = .c (.fn 98 [] [⟨0, 0, 0, 0⟩, ⟨1, 0, 0, 0⟩]) ∧ H' = ⟨2, [(1, boxW b), (0, boxW a)]⟩) := by
    (refine con_of_run mixed (fn := Tryz.f55) (by kernel_rfl) (by kernel_rfl) C55_ok (rs := [.tmp 4]) (by kernel_rfl) (Nat.le_of_ble_eq_true (by kernel_rfl)) ?_; unfold C55; simp only [initT, Nat.reduceAdd])
    repeat' (first
    | refine run_seq ?_
    | refine run_skip ?_
    | (refine run_region fun K hK => ?_; (try (simp (maxSteps := 10000000) only [C55r0, C55r1, rwp_nil, rwp_cons, aop, gpath, St.get, slotAt, sfx, eqP, segsOf, St.put, addBlk, shed, Seg.size, sizes, aasOf, Nat.reduceAdd])); (repeat (first | (refine And.intro ?_ ?_; · first | trivial | assumption | omega))); with_reducible refine hK _ ?_; clear hK K)
    | (refine run_cond rfl (fun hc => ?_) (fun hc => ?_) <;> try (simp only [*, Bool.true_eq_false, Bool.false_eq_true, Bool.not_true, Bool.not_false, Bool.true_or, Bool.or_true, Bool.false_or, Bool.or_false, Bool.false_and, Bool.and_false, bne_self_eq_false, beq_self_eq_true] at hc; done))
    | refine run_block ?_
    | refine run_ret ?_
    | refine run_nil ?_
    | refine run_exit ?_
    | refine blk_normal ?_
    | refine blk_ret ?_
    | refine blk_here ?_
    | refine blk_there rfl ?_
    | refine loop_exit ?_
    | refine loop_ret ?_
    | refine un_exit ?_
    | refine un_ret ?_
    | refine unE_exit ?_
    | refine unE_ret ?_
    | refine un_normal ?_)
    refine end_of ⟨[⟨4, [], .c (.fn 98 [] [⟨0, 0, 0, 0⟩, ⟨1, 0, 0, 0⟩])⟩], ⟨2, [(1, boxW b), (0, boxW a)]⟩⟩ (LeS.intro [0, 1] (fun i h => absurd h (Nat.not_lt_zero i)) (by simp only [diff, notIn, Nat.beq, and_self]) rfl ?_ ?_) ⟨rfl, rfl⟩
    · simp only [slotsLe, slotAt, leV, leV1, leC, leAL, leA, nthO, and_self]
    · simp only [leBlks, nthO, getB]
      refine ⟨⟨rfl, rfl, id, Nat.le_refl _, fun _ _ => by simp only [boxW, leSegs, leSeg, leC, and_self]⟩, ⟨rfl, rfl, id, Nat.le_refl _, fun _ _ => by simp only [boxW, leSegs, leSeg, leC, and_self]⟩, trivial⟩
  refine (h0.frame (H := ⟨n, X⟩) [] rfl trivial trivial hkl trivial (by simp only [leArgs, leV, leV1, leC, and_self])).weaken ?_
  rintro v H' ⟨v0, H0', ⟨rfl, rfl⟩, rfl, rfl⟩
  refine ⟨rfl, ?_⟩
  simp only [framed, dropB_none (l := []) (H0 := []) (fun _ => rfl)]
  rfl
theorem con57 (a : Int) (n : Nat) (X : List (Nat × Blk)) (hkl : keysLt X n) : Con Tryz.prog 57 [.c (.int .i64 a)] ⟨n, X⟩ (fun v H' => v = .c (.fn 99 [] [⟨n, 0, 0, 0⟩]) ∧ H' = ⟨n + 1, (n, boxW a) :: X⟩) := by
  have h0 : Con Tryz.prog 57 [.c (.int .i64 a)] ⟨0, []⟩ (fun v H' => v = .c (.fn 99 [] [⟨0, 0, 0, 0⟩]) ∧ H' = ⟨1, [(0, boxW a)]⟩) := by
    (refine con_of_run mixed (fn := Tryz.f57) (by kernel_rfl) (by kernel_rfl) C57_ok (rs := [.tmp 2]) (by kernel_rfl) (Nat.le_of_ble_eq_true (by kernel_rfl)) ?_; unfold C57; simp only [initT])
    repeat' (first
    | refine run_seq ?_
    | refine run_skip ?_
    | (refine run_region fun K hK => ?_; (try (simp (maxSteps := 10000000) only [C57r0, C57r1, rwp_nil, rwp_cons, aop, gpath, St.get, slotAt, sfx, eqP, segsOf, St.put, addBlk, shed, Seg.size, sizes, aasOf, Nat.reduceAdd])); (repeat (first | (refine And.intro ?_ ?_; · first | trivial | assumption | omega))); with_reducible refine hK _ ?_; clear hK K)
    | (refine run_cond rfl (fun hc => ?_) (fun hc => ?_) <;> try (simp only [*, Bool.true_eq_false, Bool.false_eq_true, Bool.not_true, Bool.not_false, Bool.true_or, Bool.or_true, Bool.false_or, Bool.or_false, Bool.false_and, Bool.and_false, bne_self_eq_false, beq_self_eq_true] at hc; done))
    | refine run_block ?_
    | refine run_ret ?_
    | refine run_nil ?_
    | refine run_exit ?_
    | refine blk_normal ?_
    | refine blk_ret ?_
    | refine blk_here ?_
    | refine blk_there rfl ?_
    | refine loop_exit ?_
    | refine loop_ret ?_
    | refine un_exit ?_
    | refine un_ret ?_
    | refine unE_exit ?_
    | refine unE_ret ?_
    | refine un_normal ?_)
    refine end_of ⟨[⟨2, [], .c (.fn 99 [] [⟨0, 0, 0, 0⟩])⟩], ⟨1, [(0, boxW a)]⟩⟩ (LeS.intro [0] (fun i h => absurd h (Nat.not_lt_zero i)) (by simp only [diff, notIn, and_self]) rfl ?_ ?_) ⟨rfl, rfl⟩
    · simp only [slotsLe, slotAt, leV, leV1, leC, leAL, leA, nthO, and_self]
    · simp only [leBlks, nthO, getB]
      refine ⟨⟨rfl, rfl, id, Nat.le_refl _, fun _ _ => by simp only [boxW, leSegs, leSeg, leC, and_self]⟩, trivial⟩
  refine (h0.frame (H := ⟨n, X⟩) [] rfl trivial trivial hkl trivial (by simp only [leArgs, leV, leV1, leC, and_self])).weaken ?_
  rintro v H' ⟨v0, H0', ⟨rfl, rfl⟩, rfl, rfl⟩
  refine ⟨rfl, ?_⟩
  simp only [framed, dropB_none (l := []) (H0 := []) (fun _ => rfl)]
  rfl
theorem con58 (a : Int) (n : Nat) (X : List (Nat × Blk)) (hkl : keysLt X n) : Con Tryz.prog 58 [.c (.int .i64 a)] ⟨n, X⟩ (fun v H' => v = .c (.fn 100 [] [⟨n, 0, 0, 0⟩]) ∧ H' = ⟨n + 1, (n, boxW a) :: X⟩) := by
  have h0 : Con Tryz.prog 58 [.c (.int .i64 a)] ⟨0, []⟩ (fun v H' => v = .c (.fn 100 [] [⟨0, 0, 0, 0⟩]) ∧ H' = ⟨1, [(0, boxW a)]⟩) := by
    (refine con_of_run mixed (fn := Tryz.f58) (by kernel_rfl) (by kernel_rfl) C58_ok (rs := [.tmp 2]) (by kernel_rfl) (Nat.le_of_ble_eq_true (by kernel_rfl)) ?_; unfold C58; simp only [initT])
    repeat' (first
    | refine run_seq ?_
    | refine run_skip ?_
    | (refine run_region fun K hK => ?_; (try (simp (maxSteps := 10000000) only [C58r0, C58r1, rwp_nil, rwp_cons, aop, gpath, St.get, slotAt, sfx, eqP, segsOf, St.put, addBlk, shed, Seg.size, sizes, aasOf, Nat.reduceAdd])); (repeat (first | (refine And.intro ?_ ?_; · first | trivial | assumption | omega))); with_reducible refine hK _ ?_; clear hK K)
    | (refine run_cond rfl (fun hc => ?_) (fun hc => ?_) <;> try (simp only [*, Bool.true_eq_false, Bool.false_eq_true, Bool.not_true, Bool.not_false, Bool.true_or, Bool.or_true, Bool.false_or, Bool.or_false, Bool.false_and, Bool.and_false, bne_self_eq_false, beq_self_eq_true] at hc; done))
    | refine run_block ?_
    | refine run_ret ?_
    | refine run_nil ?_
    | refine run_exit ?_
    | refine blk_normal ?_
    | refine blk_ret ?_
    | refine blk_here ?_
    | refine blk_there rfl ?_
    | refine loop_exit ?_
    | refine loop_ret ?_
    | refine un_exit ?_
    | refine un_ret ?_
    | refine unE_exit ?_
    | refine unE_ret ?_
    | refine un_normal ?_)
    refine end_of ⟨[⟨2, [], .c (.fn 100 [] [⟨0, 0, 0, 0⟩])⟩], ⟨1, [(0, boxW a)]⟩⟩ (LeS.intro [0] (fun i h => absurd h (Nat.not_lt_zero i)) (by simp only [diff, notIn, and_self]) rfl ?_ ?_) ⟨rfl, rfl⟩
    · simp only [slotsLe, slotAt, leV, leV1, leC, leAL, leA, nthO, and_self]
    · simp only [leBlks, nthO, getB]
      refine ⟨⟨rfl, rfl, id, Nat.le_refl _, fun _ _ => by simp only [boxW, leSegs, leSeg, leC, and_self]⟩, trivial⟩
  refine (h0.frame (H := ⟨n, X⟩) [] rfl trivial trivial hkl trivial (by simp only [leArgs, leV, leV1, leC, and_self])).weaken ?_
  rintro v H' ⟨v0, H0', ⟨rfl, rfl⟩, rfl, rfl⟩
  refine ⟨rfl, ?_⟩
  simp only [framed, dropB_none (l := []) (H0 := []) (fun _ => rfl)]
  rfl
theorem con59 (a b : Int) (n : Nat) (X : List (Nat × Blk)) (hkl : keysLt X n) : Con Tryz.prog 59 [.c (.int .i64 a), .c (.int .i64 b)] ⟨n, X⟩ (fun v H' => v = .c (.fn 101 [] [⟨n, 0, 0, 0⟩, ⟨n + 1, 0, 0, 0⟩]) ∧ H' = ⟨n + 2, (n + 1, boxW b) :: (n, boxW a) :: X⟩) := by
  have h0 : Con Tryz.prog 59 [.c (.int .i64 a), .c (.int .i64 b)] ⟨0, []⟩ (fun v H' => v = .c (.fn 101 [] [⟨0, 0, 0, 0⟩, ⟨1, 0, 0, 0⟩]) ∧ H' = ⟨2, [(1, boxW b), (0, boxW a)]⟩) := by
    (refine con_of_run mixed (fn := Tryz.f59) (by kernel_rfl) (by kernel_rfl) C59_ok (rs := [.tmp 4]) (by kernel_rfl) (Nat.le_of_ble_eq_true (by kernel_rfl)) ?_; unfold C59; simp only [initT, Nat.reduceAdd])
    repeat' (first
    | refine run_seq ?_
    | refine run_skip ?_
    | (refine run_region fun K hK => ?_; (try (simp (maxSteps := 10000000) only [C59r0, C59r1, rwp_nil, rwp_cons, aop, gpath, St.get, slotAt, sfx, eqP, segsOf, St.put, addBlk, shed, Seg.size, sizes, aasOf, Nat.reduceAdd])); (repeat (first | (refine And.intro ?_ ?_; · first | trivial | assumption | omega))); with_reducible refine hK _ ?_; clear hK K)
    | (refine run_cond rfl (fun hc => ?_) (fun hc => ?_) <;> try (simp only [*, Bool.true_eq_false, Bool.false_eq_true, Bool.not_true, Bool.not_false, Bool.true_or, Bool.or_true, Bool.false_or, Bool.or_false, Bool.false_and, Bool.and_false, bne_self_eq_false, beq_self_eq_true] at hc; done))
    | refine run_block ?_
    | refine run_ret ?_
    | refine run_nil ?_
    | refine run_exit ?_
    | refine blk_normal ?_
    | refine blk_ret ?_
    | refine blk_here ?_
    | refine blk_there rfl ?_
    | refine loop_exit ?_
    | refine loop_ret ?_
    | refine un_exit ?_
    | refine un_ret ?_
    | refine unE_exit ?_
    | refine unE_ret ?_
    | refine un_normal ?_)
    refine end_of ⟨[⟨4, [], .c (.fn 101 [] [⟨0, 0, 0, 0⟩, ⟨1, 0, 0, 0⟩])⟩], ⟨2, [(1, boxW b), (0, boxW a)]⟩⟩ (LeS.intro [0, 1] (fun i h => absurd h (Nat.not_lt_zero i)) (by simp only [diff, notIn, Nat.beq, and_self]) rfl ?_ ?_) ⟨rfl, rfl⟩
    · simp only [slotsLe, slotAt, leV, leV1, leC, leAL, leA, nthO, and_self]
    · simp only [leBlks, nthO, getB]
      refine ⟨⟨rfl, rfl, id, Nat.le_refl _, fun _ _ => by simp only [boxW, leSegs, leSeg, leC, and_self]⟩, ⟨rfl, rfl, id, Nat.le_refl _, fun _ _ => by simp only [boxW, leSegs, leSeg, leC, and_self]⟩, trivial⟩
  refine (h0.frame (H := ⟨n, X⟩) [] rfl trivial trivial hkl trivial (by simp only [leArgs, leV, leV1, leC, and_self])).weaken ?_
  rintro v H' ⟨v0, H0', ⟨rfl, rfl⟩, rfl, rfl⟩
  refine ⟨rfl, ?_⟩
  simp only [framed, dropB_none (l := []) (H0 := []) (fun _ => rfl)]
  rfl
theorem con60 (a b c d : Int) (n : Nat) (X : List (Nat × Blk)) (hkl : keysLt X n) : Con Tryz.prog 60 [.c (.int .i64 a), .c (.int .i64 b), .c (.int .i64 c), .c (.int .i64 d)] ⟨n, X⟩ (fun v H' => v = .c (.fn 102 [] [⟨n, 0, 0, 0⟩, ⟨n + 1, 0, 0, 0⟩, ⟨n + 2, 0, 0, 0⟩, ⟨n + 3, 0, 0, 0⟩]) ∧ H' = ⟨n + 4, (n + 3, boxW d) :: (n + 2, boxW c) :: (n + 1, boxW b) :: (n, boxW a) :: X⟩) := by
  have h0 : Con Tryz.prog 60 [.c (.int .i64 a), .c (.int .i64 b), .c (.int .i64 c), .c (.int .i64 d)] ⟨0, []⟩ (fun v H' => v = .c (.fn 102 [] [⟨0, 0, 0, 0⟩, ⟨1, 0, 0, 0⟩, ⟨2, 0, 0, 0⟩, ⟨3, 0, 0, 0⟩]) ∧ H' = ⟨4, [(3, boxW d), (2, boxW c), (1, boxW b), (0, boxW a)]⟩) := by
    (refine con_of_run mixed (fn := Tryz.f60) (by kernel_rfl) (by kernel_rfl) C60_ok (rs := [.tmp 8]) (by kernel_rfl) (Nat.le_of_ble_eq_true (by kernel_rfl)) ?_; unfold C60; simp only [initT, Nat.reduceAdd])
    repeat' (first
    | refine run_seq ?_
    | refine run_skip ?_
    | (refine run_region fun K hK => ?_; (try (simp (maxSteps := 10000000) only [C60r0, C60r1, rwp_nil, rwp_cons, aop, gpath, St.get, slotAt, sfx, eqP, segsOf, St.put, addBlk, shed, Seg.size, sizes, aasOf, Nat.reduceAdd])); (repeat (first | (refine And.intro ?_ ?_; · first | trivial | assumption | omega))); with_reducible refine hK _ ?_; clear hK K)
    | (refine run_cond rfl (fun hc => ?_) (fun hc => ?_) <;> try (simp only [*, Bool.true_eq_false, Bool.false_eq_true, Bool.not_true, Bool.not_false, Bool.true_or, Bool.or_true, Bool.false_or, Bool.or_false, Bool.false_and, Bool.and_false, bne_self_eq_false, beq_self_eq_true] at hc; done))
    | refine run_block ?_
    | refine run_ret ?_
    | refine run_nil ?_
    | refine run_exit ?_
    | refine blk_normal ?_
    | refine blk_ret ?_
    | refine blk_here ?_
    | refine blk_there rfl ?_
    | refine loop_exit ?_
    | refine loop_ret ?_
    | refine un_exit ?_
    | refine un_ret ?_
    | refine unE_exit ?_
    | refine unE_ret ?_
    | refine un_normal ?_)
    refine end_of ⟨[⟨8, [], .c (.fn 102 [] [⟨0, 0, 0, 0⟩, ⟨1, 0, 0, 0⟩, ⟨2, 0, 0, 0⟩, ⟨3, 0, 0, 0⟩])⟩], ⟨4, [(3, boxW d), (2, boxW c), (1, boxW b), (0, boxW a)]⟩⟩ (LeS.intro [0, 1, 2, 3] (fun i h => absurd h (Nat.not_lt_zero i)) (by simp only [diff, notIn, Nat.beq, and_self]) rfl ?_ ?_) ⟨rfl, rfl⟩
    · simp only [slotsLe, slotAt, leV, leV1, leC, leAL, leA, nthO, and_self]
    · simp only [leBlks, nthO, getB]
      refine ⟨⟨rfl, rfl, id, Nat.le_refl _, fun _ _ => by simp only [boxW, leSegs, leSeg, leC, and_self]⟩, ⟨rfl, rfl, id, Nat.le_refl _, fun _ _ => by simp only [boxW, leSegs, leSeg, leC, and_self]⟩, ⟨rfl, rfl, id, Nat.le_refl _, fun _ _ => by simp only [boxW, leSegs, leSeg, leC, and_self]⟩, ⟨rfl, rfl, id, Nat.le_refl _, fun _ _ => by simp only [boxW, leSegs, leSeg, leC, and_self]⟩, trivial⟩
  refine (h0.frame (H := ⟨n, X⟩) [] rfl trivial trivial hkl trivial (by simp only [leArgs, leV, leV1, leC, and_self])).weaken ?_
  rintro v H' ⟨v0, H0', ⟨rfl, rfl⟩, rfl, rfl⟩
  refine ⟨rfl, ?_⟩
  simp only [framed, dropB_none (l := []) (H0 := []) (fun _ => rfl)]
  rfl
theorem con61 (a : Int) (n : Nat) (X : List (Nat × Blk)) (hkl : keysLt X n) : Con Tryz.prog 61 [.c (.int .i64 a)] ⟨n, X⟩ (fun v H' => v = .c (.fn 103 [] [⟨n, 0, 0, 0⟩]) ∧ H' = ⟨n + 1, (n, boxW a) :: X⟩) := by
  have h0 : Con Tryz.prog 61 [.c (.int .i64 a)] ⟨0, []⟩ (fun v H' => v = .c (.fn 103 [] [⟨0, 0, 0, 0⟩]) ∧ H' = ⟨1, [(0, boxW a)]⟩) := by
    (refine con_of_run mixed (fn := Tryz.f61) (by kernel_rfl) (by kernel_rfl) C61_ok (rs := [.tmp 2]) (by kernel_rfl) (Nat.le_of_ble_eq_true (by kernel_rfl)) ?_; unfold C61; simp only [initT])
    repeat' (first
    | refine run_seq ?_
    | refine run_skip ?_
    | (refine run_region fun K hK => ?_; (try (simp (maxSteps := 10000000) only [C61r0, C61r1, rwp_nil, rwp_cons, aop, gpath, St.get, slotAt, sfx, eqP, segsOf, St.put, addBlk, shed, Seg.size, sizes, aasOf, Nat.reduceAdd])); (repeat (first | (refine And.intro ?_ ?_; · first | trivial | assumption | omega))); with_reducible refine hK _ ?_; clear hK K)
    | (refine run_cond rfl (fun hc => ?_) (fun hc => ?_) <;> try (simp only [*, Bool.true_eq_false, Bool.false_eq_true, Bool.not_true, Bool.not_false, Bool.true_or, Bool.or_true, Bool.false_or, Bool.or_false, Bool.false_and, Bool.and_false, bne_self_eq_false, beq_self_eq_true] at hc; done))
    | refine run_block ?_
    | refine run_ret ?_
    | refine run_nil ?_
    | refine run_exit ?_
    | refine blk_normal ?_
    | refine blk_ret ?_
    | refine blk_here ?_
    | refine blk_there rfl ?_
    | refine loop_exit ?_
    | refine loop_ret ?_
    | refine un_exit ?_
    | refine un_ret ?_
    | refine unE_exit ?_
    | refine unE_ret ?_
    | refine un_normal ?_)
    refine end_of ⟨[⟨2, [], .c (.fn 103 [] [⟨0, 0, 0, 0⟩])⟩], ⟨1, [(0, boxW a)]⟩⟩ (LeS.intro [0] (fun i h => absurd h (Nat.not_lt_zero i)) (by simp only [diff, notIn, and_self]) rfl ?_ ?_) ⟨rfl, rfl⟩
    · simp only [slotsLe, slotAt, leV, leV1, leC, leAL, leA, nthO, and_self]
    · simp only [leBlks, nthO, getB]
      refine ⟨⟨rfl, rfl, id, Nat.le_refl _, fun _ _ => by simp only [boxW, leSegs, leSeg, leC, and_self]⟩, trivial⟩
  refine (h0.frame (H := ⟨n, X⟩) [] rfl trivial trivial hkl trivial (by simp only [leArgs, leV, leV1, leC, and_self])).weaken ?_
  rintro v H' ⟨v0, H0', ⟨rfl, rfl⟩, rfl, rfl⟩
  refine ⟨rfl, ?_⟩
  simp only [framed, dropB_none (l := []) (H0 := []) (fun _ => rfl)]
  rfl
theorem con63 (a : Int) (n : Nat) (X : List (Nat × Blk)) (hkl : keysLt X n) : Con Tryz.prog 63 [.c (.int .i64 a)] ⟨n, X⟩ (fun v H' => v = .c (.fn 104 [] [⟨n, 0, 0, 0⟩]) ∧ H' = ⟨n + 1, (n, boxW a) :: X⟩) := by
  have h0 : Con Tryz.prog 63 [.c (.int .i64 a)] ⟨0, []⟩ (fun v H' => v = .c (.fn 104 [] [⟨0, 0, 0, 0⟩]) ∧ H' = ⟨1, [(0, boxW a)]⟩) := by
    (refine con_of_run mixed (fn := Tryz.f63) (by kernel_rfl) (by kernel_rfl) C63_ok (rs := [.tmp 2]) (by kernel_rfl) (Nat.le_of_ble_eq_true (by kernel_rfl)) ?_; unfold C63; simp only [initT])
    repeat' (first
    | refine run_seq ?_
    | refine run_skip ?_
    | (refine run_region fun K hK => ?_; (try (simp (maxSteps := 10000000) only [C63r0, C63r1, rwp_nil, rwp_cons, aop, gpath, St.get, slotAt, sfx, eqP, segsOf, St.put, addBlk, shed, Seg.size, sizes, aasOf, Nat.reduceAdd])); (repeat (first | (refine And.intro ?_ ?_; · first | trivial | assumption | omega))); with_reducible refine hK _ ?_; clear hK K)
    | (refine run_cond rfl (fun hc => ?_) (fun hc => ?_) <;> try (simp only [*, Bool.true_eq_false, Bool.false_eq_true, Bool.not_true, Bool.not_false, Bool.true_or, Bool.or_true, Bool.false_or, Bool.or_false, Bool.false_and, Bool.and_false, bne_self_eq_false, beq_self_eq_true] at hc; done))
    | refine run_block ?_
    | refine run_ret ?_
    | refine run_nil ?_
    | refine run_exit ?_
    | refine blk_normal ?_
    | refine blk_ret ?_
    | refine blk_here ?_
    | refine blk_there rfl ?_
    | refine loop_exit ?_
    | refine loop_ret ?_
    | refine un_exit ?_
    | refine un_ret ?_
    | refine unE_exit ?_
    | refine unE_ret ?_
    | refine un_normal ?_)
    refine end_of ⟨[⟨2, [], .c (.fn 104 [] [⟨0, 0, 0, 0⟩])⟩], ⟨1, [(0, boxW a)]⟩⟩ (LeS.intro [0] (fun i h => absurd h (Nat.not_lt_zero i)) (by simp only [diff, notIn, and_self]) rfl ?_ ?_) ⟨rfl, rfl⟩
    · simp only [slotsLe, slotAt, leV, leV1, leC, leAL, leA, nthO, and_self]
    · simp only [leBlks, nthO, getB]
      refine ⟨⟨rfl, rfl, id, Nat.le_refl _, fun _ _ => by simp only [boxW, leSegs, leSeg, leC, and_self]⟩, trivial⟩
  refine (h0.frame (H := ⟨n, X⟩) [] rfl trivial trivial hkl trivial (by simp only [leArgs, leV, leV1, leC, and_self])).weaken ?_
  rintro v H' ⟨v0, H0', ⟨rfl, rfl⟩, rfl, rfl⟩
  refine ⟨rfl, ?_⟩
  simp only [framed, dropB_none (l := []) (H0 := []) (fun _ => rfl)]
  rfl
end Go.Proofs.YteikpddilabppaaGreatR
