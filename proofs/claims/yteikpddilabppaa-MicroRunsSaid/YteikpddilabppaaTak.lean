/- micro: what came of it; what is asked of a run. -/
import Derived.Test.YteikpddilabppaaNex
namespace Go.Proofs.Yteikpddilabppaa
open Go.AM
set_option maxRecDepth 100000
set_option linter.unusedSimpArgs false
set_option linter.unusedVariables false
def goS (s : RunS) (g : GotS) : RunS :=
  if (s.want.kind != 16 && s.want.kind != 6 && g.fault != 0) = true then { s with left := true, faulted := true }
  else match s.waits with
    | .loaded => setHost s (s.ops s.at_.toNat).d g.value
    | .tried => setHost s (s.ops s.at_.toNat).d (match g.ok with | true => 0 | false => 1)
    | _ => s
def tookS (s : RunS) (g : GotS) : RunS := { goS s g with want := want0, waits := .none, steps := IntKind.i64.wrap (s.steps + 1), at_ := IntKind.i64.wrap (s.at_ + 1) }
set_option maxHeartbeats 8000000 in
theorem con14n (s : RunS) (g : GotS) (hw : s.waits = .none) : Con Try.prog 14 [me, .agg (gotL g)] (runH s) (fun v H' => v = .c (.int .i64 1) ∧ H' = runH s) := by
  (refine con_of_run mixed (fn := Try.f14) (by kernel_rfl) (by kernel_rfl) C14_ok (rs := [.tmp 4]) (by kernel_rfl) (Nat.le_of_ble_eq_true (by kernel_rfl)) ?_; unfold C14; simp only [initT, Nat.reduceAdd])
  generalize hR : (fun (v : AV) (H' : Heap) => v = AV.c (CV.int .i64 1) ∧ H' = runH s) = R
  simp only [me, runH, runB, runL, opsB, slotB, gotL, hw, waitV]
  repeat' (first
    | refine run_seq ?_
    | refine run_skip ?_
    | (refine run_region fun K hK => ?_; (try (simp (maxSteps := 10000000) only [microL, C14r0, C14r1, C14r2, C14r3, C14r4, C14r5, C14r6, C14r7, C14r8, C14r9, C14r10, rwp_nil, rwp_cons, rwpK_app, aop, gpath, St.get, slotAt, sfx, eqP, segsOf, St.put, addBlk, getB, setB, delB, ld1, ldn, st1, stn, setRow, rowNeed, segAt, nsub, bin, un, eqB, isShift, sameK, arith, shiftR, getsl, selB_or, selB_and, beqb, shed, addN, Nat.beq, Seg.size, sizes, imp, needP, andN, appL, argsOf, ptrsOf, aasOf, cut, takeS, dropS, putS, partsOf, fillS, fieldOf, nthA, negIf, nilq, nilB, eqS, eqF, eqS1, andP, kin, slcS, strOk, plusA, bndHi, leN, optG, roH, roL, initT, exOk, exAll, wrAddr, Nat.reduceAdd, Nat.reduceSub, Nat.reduceMul, Int.reduceToNat, List.append_nil, List.nil_append, List.cons_append, eqT, idxT, cat, cpy, ite_int, ite_bool, ite_seg, ite_segs, ite_nil, ite_twice, Int.toNat_natCast, app, addBs])); (repeat (first | (refine And.intro ?_ ?_; · first | trivial | assumption | omega))); with_reducible refine hK _ ?_; clear hK K)
    | (refine run_cond rfl (fun hc => ?_) (fun hc => ?_) <;> try (simp only [*, Bool.true_eq_false, Bool.false_eq_true, Bool.not_true, Bool.not_false, Bool.true_or, Bool.or_true, Bool.false_or, Bool.or_false, Bool.false_and, Bool.and_false, bne_self_eq_false, beq_self_eq_true] at hc; done))
    | refine run_block ?_
    | refine run_ret ?_
    | refine run_nil ?_
    | refine run_exit ?_
    | refine blk_normal ?_
    | refine blk_ret ?_
    | refine blk_here ?_
    | refine blk_there rfl ?_
    | refine loop_exit ?_
    | refine loop_ret ?_
    | refine un_exit ?_
    | refine un_ret ?_
    | refine unE_exit ?_
    | refine unE_ret ?_
    | refine un_normal ?_)
  subst hR
  exact end_run1 s rfl (by simp only [runB, runL, hw, waitV]; rfl) rfl rfl ⟨rfl, rfl⟩ rfl ⟨rfl, rfl⟩
set_option maxHeartbeats 8000000 in
theorem con14k (s0 : RunS) (g : GotS) (k : WaitK) (hw : isN k = false) (hg : GoodS { s0 with waits := k }) : Con Try.prog 14 [me, .agg (gotL g)] (runH { s0 with waits := k }) (fun v H' => v = .c (.int .i64 0) ∧ H' = runH (tookS { s0 with waits := k } g)) := by
  obtain ⟨hl, _, _⟩ := hg.wl hw
  have ha := hg.at0
  have hn := hg.atn hl
  have hd := (hg.fit hl).d0
  have hd8 := (hg.fit hl).d8
  cases k with
  | none => cases hw
  | _ =>
    (refine con_of_run mixed (fn := Try.f14) (by kernel_rfl) (by kernel_rfl) C14_ok (rs := [.tmp 4]) (by kernel_rfl) (Nat.le_of_ble_eq_true (by kernel_rfl)) ?_; unfold C14; simp only [initT, Nat.reduceAdd])
    simp only [me, runH, runB, runL, opsB, slotB, gotL, waitV]
    simp only at ha hn hd hd8 hl
    repeat' (first
    | refine run_seq ?_
    | refine run_skip ?_
    | (refine run_region fun K hK => ?_; (try (simp (maxSteps := 10000000) only [microL, setHost, runH, runB, runL, opsB, slotB, waitV, ne_eq, C14r0, C14r1, C14r2, C14r3, C14r4, C14r5, C14r6, C14r7, C14r8, C14r9, C14r10, rwp_nil, rwp_cons, rwpK_app, aop, gpath, St.get, slotAt, sfx, eqP, segsOf, St.put, addBlk, getB, setB, delB, ld1, ldn, st1, stn, setRow, rowNeed, segAt, nsub, bin, un, eqB, isShift, sameK, arith, shiftR, getsl, selB_or, selB_and, beqb, shed, addN, Nat.beq, Seg.size, sizes, imp, needP, andN, appL, argsOf, ptrsOf, aasOf, cut, takeS, dropS, putS, partsOf, fillS, fieldOf, nthA, negIf, nilq, nilB, eqS, eqF, eqS1, andP, kin, slcS, strOk, plusA, bndHi, leN, optG, roH, roL, initT, exOk, exAll, wrAddr, Nat.reduceAdd, Nat.reduceSub, Nat.reduceMul, Int.reduceToNat, List.append_nil, List.nil_append, List.cons_append, eqT, idxT, cat, cpy, ite_int, ite_bool, ite_seg, ite_segs, ite_nil, ite_twice, Int.toNat_natCast, app, addBs])); (repeat (first | (refine And.intro ?_ ?_; · omega) | ((first | (refine call_t _ (run_frame1 (con34 { s0 with waits := .loaded } g ha hn hd hd8) (by simp only [me, gotL, leArgs, leV, leV1, leSegs, leSeg, leC, leA, nthO, and_self])) ?_; rintro v H' ⟨rfl, rfl⟩) | refine call_q _ (run_frame1 (con34 { s0 with waits := .loaded } g ha hn hd hd8) (by simp only [me, gotL, leArgs, leV, leV1, leSegs, leSeg, leC, leA, nthO, and_self])) ?_ | refine call_g _ (imp_of (run_frame1 (con34 { s0 with waits := .loaded } g ha hn hd hd8) (by simp only [me, gotL, leArgs, leV, leV1, leSegs, leSeg, leC, leA, nthO, and_self]))) ?_ | (refine call_t _ (run_frame1 (con35 { s0 with waits := .stored } g) (by simp only [me, gotL, leArgs, leV, leV1, leSegs, leSeg, leC, leA, nthO, and_self])) ?_; rintro v H' ⟨rfl, rfl⟩) | refine call_q _ (run_frame1 (con35 { s0 with waits := .stored } g) (by simp only [me, gotL, leArgs, leV, leV1, leSegs, leSeg, leC, leA, nthO, and_self])) ?_ | refine call_g _ (imp_of (run_frame1 (con35 { s0 with waits := .stored } g) (by simp only [me, gotL, leArgs, leV, leV1, leSegs, leSeg, leC, leA, nthO, and_self]))) ?_ | (refine call_t _ (run_frame1 (con36 { s0 with waits := .tried } g ha hn hd hd8) (by simp only [me, gotL, leArgs, leV, leV1, leSegs, leSeg, leC, leA, nthO, and_self])) ?_; rintro v H' ⟨rfl, rfl⟩) | refine call_q _ (run_frame1 (con36 { s0 with waits := .tried } g ha hn hd hd8) (by simp only [me, gotL, leArgs, leV, leV1, leSegs, leSeg, leC, leA, nthO, and_self])) ?_ | refine call_g _ (imp_of (run_frame1 (con36 { s0 with waits := .tried } g ha hn hd hd8) (by simp only [me, gotL, leArgs, leV, leV1, leSegs, leSeg, leC, leA, nthO, and_self]))) ?_ | (refine call_t _ (run_frame1 (con37 { s0 with waits := .fenced } g) (by simp only [me, gotL, leArgs, leV, leV1, leSegs, leSeg, leC, leA, nthO, and_self])) ?_; rintro v H' ⟨rfl, rfl⟩) | refine call_q _ (run_frame1 (con37 { s0 with waits := .fenced } g) (by simp only [me, gotL, leArgs, leV, leV1, leSegs, leSeg, leC, leA, nthO, and_self])) ?_ | refine call_g _ (imp_of (run_frame1 (con37 { s0 with waits := .fenced } g) (by simp only [me, gotL, leArgs, leV, leV1, leSegs, leSeg, leC, leA, nthO, and_self]))) ?_); simp (maxSteps := 10000000) only [microL, setHost, runH, runB, runL, opsB, slotB, waitV, ne_eq, C14r0, C14r1, C14r2, C14r3, C14r4, C14r5, C14r6, C14r7, C14r8, C14r9, C14r10, rwp_nil, rwp_cons, rwpK_app, aop, gpath, St.get, slotAt, sfx, eqP, segsOf, St.put, addBlk, getB, setB, delB, ld1, ldn, st1, stn, setRow, rowNeed, segAt, nsub, bin, un, eqB, isShift, sameK, arith, shiftR, getsl, selB_or, selB_and, beqb, shed, addN, Nat.beq, Seg.size, sizes, imp, needP, andN, appL, argsOf, ptrsOf, aasOf, cut, takeS, dropS, putS, partsOf, fillS, fieldOf, nthA, negIf, nilq, nilB, eqS, eqF, eqS1, andP, kin, slcS, strOk, plusA, bndHi, leN, optG, roH, roL, initT, exOk, exAll, wrAddr, Nat.reduceAdd, Nat.reduceSub, Nat.reduceMul, Int.reduceToNat, List.append_nil, List.nil_append, List.cons_append, eqT, idxT, cat, cpy, ite_int, ite_bool, ite_seg, ite_segs, ite_nil, ite_twice, Int.toNat_natCast, app, addBs]))); with_reducible refine hK _ ?_; clear hK K)
    | (refine run_cond rfl (fun hc => ?_) (fun hc => ?_) <;> try (simp only [*, Bool.true_eq_false, Bool.false_eq_true, Bool.not_true, Bool.not_false, Bool.true_or, Bool.or_true, Bool.false_or, Bool.or_false, Bool.false_and, Bool.and_false, bne_self_eq_false, beq_self_eq_true] at hc; done))
    | refine run_block ?_
    | refine run_ret ?_
    | refine run_nil ?_
    | refine run_exit ?_
    | refine blk_normal ?_
    | refine blk_ret ?_
    | refine blk_here ?_
    | refine blk_there rfl ?_
    | refine loop_exit ?_
    | refine loop_ret ?_
    | refine un_exit ?_
    | refine un_ret ?_
    | refine unE_exit ?_
    | refine unE_ret ?_
    | refine un_normal ?_)
    all_goals
      refine end_run1 (tookS _ g) rfl ?_ ?_ ?_ ⟨rfl, rfl⟩ rfl ⟨rfl, rfl⟩ <;> (simp only [tookS, goS, hc, if_true, if_false, Bool.false_eq_true, reduceIte]) <;> rfl
theorem con14 (s : RunS) (g : GotS) (hg : GoodS s) (hw : isN s.waits = false) : Con Try.prog 14 [me, .agg (gotL g)] (runH s) (fun v H' => v = .c (.int .i64 0) ∧ H' = runH (tookS s g)) := con14k s g s.waits hw hg
theorem con9 (s : RunS) : Con Try.prog 9 [me] (runH s) (fun v H' => v = .c (.int .i64 s.steps) ∧ H' = runH s) := by
  (refine con_of_run mixed (fn := Try.f9) (by kernel_rfl) (by kernel_rfl) C9_ok (rs := [.tmp 2]) (by kernel_rfl) (Nat.le_of_ble_eq_true (by kernel_rfl)) ?_; unfold C9; simp only [initT, Nat.reduceAdd])
  simp only [me, runH, runB, runL, opsB, slotB]
  repeat' (first
    | refine run_seq ?_
    | refine run_skip ?_
    | (refine run_region fun K hK => ?_; (try (simp (maxSteps := 10000000) only [C9r0, C9r1, rwp_nil, rwp_cons, rwpK_app, aop, gpath, St.get, slotAt, sfx, eqP, segsOf, St.put, addBlk, getB, setB, delB, ld1, ldn, st1, stn, setRow, rowNeed, segAt, nsub, bin, un, eqB, isShift, sameK, arith, shiftR, getsl, selB_or, selB_and, beqb, shed, addN, Nat.beq, Seg.size, sizes, imp, needP, andN, appL, argsOf, ptrsOf, aasOf, cut, takeS, dropS, putS, partsOf, fillS, fieldOf, nthA, negIf, nilq, nilB, eqS, eqF, eqS1, andP, kin, slcS, strOk, plusA, bndHi, leN, optG, roH, roL, initT, exOk, exAll, wrAddr, Nat.reduceAdd, Nat.reduceSub, Nat.reduceMul, Int.reduceToNat, List.append_nil, List.nil_append, List.cons_append, eqT, idxT, cat, cpy, ite_int, ite_bool, ite_seg, ite_segs, ite_nil, ite_twice, Int.toNat_natCast, app, addBs])); (repeat (first | (refine And.intro ?_ ?_; · first | trivial | assumption | omega))); with_reducible refine hK _ ?_; clear hK K)
    | (refine run_cond rfl (fun hc => ?_) (fun hc => ?_) <;> try (simp only [*, Bool.true_eq_false, Bool.false_eq_true, Bool.not_true, Bool.not_false, Bool.true_or, Bool.or_true, Bool.false_or, Bool.or_false, Bool.false_and, Bool.and_false, bne_self_eq_false, beq_self_eq_true] at hc; done))
    | refine run_block ?_
    | refine run_ret ?_
    | refine run_nil ?_
    | refine run_exit ?_
    | refine blk_normal ?_
    | refine blk_ret ?_
    | refine blk_here ?_
    | refine blk_there rfl ?_
    | refine loop_exit ?_
    | refine loop_ret ?_
    | refine un_exit ?_
    | refine un_ret ?_
    | refine unE_exit ?_
    | refine unE_ret ?_
    | refine un_normal ?_)
  exact end_run1 s rfl rfl rfl rfl ⟨rfl, rfl⟩ rfl ⟨rfl, rfl⟩
theorem con10 (s : RunS) : Con Try.prog 10 [me] (runH s) (fun v H' => v = .c (.bool s.faulted) ∧ H' = runH s) := by
  (refine con_of_run mixed (fn := Try.f10) (by kernel_rfl) (by kernel_rfl) C10_ok (rs := [.tmp 2]) (by kernel_rfl) (Nat.le_of_ble_eq_true (by kernel_rfl)) ?_; unfold C10; simp only [initT, Nat.reduceAdd])
  simp only [me, runH, runB, runL, opsB, slotB]
  repeat' (first
    | refine run_seq ?_
    | refine run_skip ?_
    | (refine run_region fun K hK => ?_; (try (simp (maxSteps := 10000000) only [C10r0, C10r1, rwp_nil, rwp_cons, rwpK_app, aop, gpath, St.get, slotAt, sfx, eqP, segsOf, St.put, addBlk, getB, setB, delB, ld1, ldn, st1, stn, setRow, rowNeed, segAt, nsub, bin, un, eqB, isShift, sameK, arith, shiftR, getsl, selB_or, selB_and, beqb, shed, addN, Nat.beq, Seg.size, sizes, imp, needP, andN, appL, argsOf, ptrsOf, aasOf, cut, takeS, dropS, putS, partsOf, fillS, fieldOf, nthA, negIf, nilq, nilB, eqS, eqF, eqS1, andP, kin, slcS, strOk, plusA, bndHi, leN, optG, roH, roL, initT, exOk, exAll, wrAddr, Nat.reduceAdd, Nat.reduceSub, Nat.reduceMul, Int.reduceToNat, List.append_nil, List.nil_append, List.cons_append, eqT, idxT, cat, cpy, ite_int, ite_bool, ite_seg, ite_segs, ite_nil, ite_twice, Int.toNat_natCast, app, addBs])); (repeat (first | (refine And.intro ?_ ?_; · first | trivial | assumption | omega))); with_reducible refine hK _ ?_; clear hK K)
    | (refine run_cond rfl (fun hc => ?_) (fun hc => ?_) <;> try (simp only [*, Bool.true_eq_false, Bool.false_eq_true, Bool.not_true, Bool.not_false, Bool.true_or, Bool.or_true, Bool.false_or, Bool.or_false, Bool.false_and, Bool.and_false, bne_self_eq_false, beq_self_eq_true] at hc; done))
    | refine run_block ?_
    | refine run_ret ?_
    | refine run_nil ?_
    | refine run_exit ?_
    | refine blk_normal ?_
    | refine blk_ret ?_
    | refine blk_here ?_
    | refine blk_there rfl ?_
    | refine loop_exit ?_
    | refine loop_ret ?_
    | refine un_exit ?_
    | refine un_ret ?_
    | refine unE_exit ?_
    | refine unE_ret ?_
    | refine un_normal ?_)
  exact end_run1 s rfl rfl rfl rfl rfl rfl ⟨rfl, rfl⟩
theorem end_run2 {l : List Slot} {H : Heap} {R : Post} {t u : Nat} {v x : AV} (s : RunS) (htu : Nat.beq t u = false) (hv : slotAt l t = some ⟨t, [], v⟩) (hx : slotAt l u = some ⟨u, [], x⟩) (h0 : getB H.blks 0 = some (runB s)) (h1 : getB H.blks 1 = some (opsB s)) (h2 : getB H.blks 2 = some (slotB s)) (hid : leV [0, 1, 2] v v) (hidx : leV [0, 1, 2] x x) (hn : noTup v = true) (hnx : noTup x = true) (hR : R (.tup [v, x]) (runH s)) : endQ (LeS 3) [.tmp t, .tmp u] R .ret ⟨l, H⟩ := by
  refine end_of ⟨[⟨t, [], v⟩, ⟨u, [], x⟩], runH s⟩ (le_run h0 h1 h2 (slotsOf hv hid (slotsOf hx hidx trivial))) ?_
  have hg : St.get ⟨[⟨t, [], v⟩, ⟨u, [], x⟩], runH s⟩ [] (.t t) = v := by simp [St.get, slotAt, Nat.beq_refl, sfx, eqP]
  have hg2 : St.get ⟨[⟨t, [], v⟩, ⟨u, [], x⟩], runH s⟩ [] (.t u) = x := by simp [St.get, slotAt, Nat.beq_refl, sfx, eqP, htu]
  simp only [endF, resL, resA, hg, hg2, hn, hnx, resV]
  exact hR
theorem con13 (s : RunS) : Con Try.prog 13 [me] (runH s) (fun v H' => v = .tup [.c (.int .u32 s.guest), .c (.bool s.isGuest)] ∧ H' = runH s) := by
  (refine con_of_run mixed (fn := Try.f13) (by kernel_rfl) (by kernel_rfl) C13_ok (rs := [.tmp 2, .tmp 3]) (by kernel_rfl) (Nat.le_of_ble_eq_true (by kernel_rfl)) ?_; unfold C13; simp only [initT, Nat.reduceAdd])
  simp only [me, runH, runB, runL, opsB, slotB]
  repeat' (first
    | refine run_seq ?_
    | refine run_skip ?_
    | (refine run_region fun K hK => ?_; (try (simp (maxSteps := 10000000) only [C13r0, C13r1, rwp_nil, rwp_cons, rwpK_app, aop, gpath, St.get, slotAt, sfx, eqP, segsOf, St.put, addBlk, getB, setB, delB, ld1, ldn, st1, stn, setRow, rowNeed, segAt, nsub, bin, un, eqB, isShift, sameK, arith, shiftR, getsl, selB_or, selB_and, beqb, shed, addN, Nat.beq, Seg.size, sizes, imp, needP, andN, appL, argsOf, ptrsOf, aasOf, cut, takeS, dropS, putS, partsOf, fillS, fieldOf, nthA, negIf, nilq, nilB, eqS, eqF, eqS1, andP, kin, slcS, strOk, plusA, bndHi, leN, optG, roH, roL, initT, exOk, exAll, wrAddr, Nat.reduceAdd, Nat.reduceSub, Nat.reduceMul, Int.reduceToNat, List.append_nil, List.nil_append, List.cons_append, eqT, idxT, cat, cpy, ite_int, ite_bool, ite_seg, ite_segs, ite_nil, ite_twice, Int.toNat_natCast, app, addBs])); (repeat (first | (refine And.intro ?_ ?_; · first | trivial | assumption | omega))); with_reducible refine hK _ ?_; clear hK K)
    | (refine run_cond rfl (fun hc => ?_) (fun hc => ?_) <;> try (simp only [*, Bool.true_eq_false, Bool.false_eq_true, Bool.not_true, Bool.not_false, Bool.true_or, Bool.or_true, Bool.false_or, Bool.or_false, Bool.false_and, Bool.and_false, bne_self_eq_false, beq_self_eq_true] at hc; done))
    | refine run_block ?_
    | refine run_ret ?_
    | refine run_nil ?_
    | refine run_exit ?_
    | refine blk_normal ?_
    | refine blk_ret ?_
    | refine blk_here ?_
    | refine blk_there rfl ?_
    | refine loop_exit ?_
    | refine loop_ret ?_
    | refine un_exit ?_
    | refine un_ret ?_
    | refine unE_exit ?_
    | refine unE_ret ?_
    | refine un_normal ?_)
  exact end_run2 s rfl rfl rfl rfl rfl rfl ⟨rfl, rfl⟩ rfl rfl rfl ⟨rfl, rfl⟩
def coreB (c : CoreS) : Blk := ⟨49, none, fun _ => coreL c, 29, true⟩
theorem core_le {l : List Nat} (w : CoreS) : leB l (coreB w) (coreB w) := by
  refine ⟨rfl, rfl, id, Nat.le_refl _, fun i _ => ?_⟩
  simp only [coreB, coreL, leSegs, leSeg, leC, and_self, implies_true]
theorem con8 (s : RunS) : Con Try.prog 8 [me] (runH s) (fun v H' => v = .agg (coreL s.core) ∧ H' = runH s) := by
  refine Con.forget (R := fun v H' => v = .agg (coreL s.core) ∧ H' = ⟨4, [(3, coreB s.core), (0, runB s), (1, opsB s), (2, slotB s)]⟩) ?_ ?_
  rotate_left
  · rintro v H' ⟨rfl, rfl⟩
    refine ⟨_, _, [0, 1, 2], ids3, diff3, rfl, ?_, ?_, rfl, rfl⟩
    · exact ⟨run_le ids012 _, ops_le _, slot_le _, trivial⟩
    · simp only [leV, leVL, leV1, coreL, leSegs, leSeg, leC, and_self, implies_true]
  (refine con_of_run mixed (fn := Try.f8) (by kernel_rfl) (by kernel_rfl) C8_ok (rs := [.cn 49 2]) (by kernel_rfl) (Nat.le_of_ble_eq_true (by kernel_rfl)) ?_; unfold C8; simp only [initT, Nat.reduceAdd])
  simp only [me, runH, runB, runL, opsB, slotB]
  repeat' (first
    | refine run_seq ?_
    | refine run_skip ?_
    | (refine run_region fun K hK => ?_; (try (simp (maxSteps := 10000000) only [C8r0, C8r1, rwp_nil, rwp_cons, rwpK_app, aop, gpath, St.get, slotAt, sfx, eqP, segsOf, St.put, addBlk, getB, setB, delB, ld1, ldn, st1, stn, setRow, rowNeed, segAt, nsub, bin, un, eqB, isShift, sameK, arith, shiftR, getsl, selB_or, selB_and, beqb, shed, addN, Nat.beq, Seg.size, sizes, imp, needP, andN, appL, argsOf, ptrsOf, aasOf, cut, takeS, dropS, putS, partsOf, fillS, fieldOf, nthA, negIf, nilq, nilB, eqS, eqF, eqS1, andP, kin, slcS, strOk, plusA, bndHi, leN, optG, roH, roL, initT, exOk, exAll, wrAddr, Nat.reduceAdd, Nat.reduceSub, Nat.reduceMul, Int.reduceToNat, List.append_nil, List.nil_append, List.cons_append, eqT, idxT, cat, cpy, ite_int, ite_bool, ite_seg, ite_segs, ite_nil, ite_twice, Int.toNat_natCast, app, addBs])); (repeat (first | (refine And.intro ?_ ?_; · first | trivial | assumption | omega))); with_reducible refine hK _ ?_; clear hK K)
    | (refine run_cond rfl (fun hc => ?_) (fun hc => ?_) <;> try (simp only [*, Bool.true_eq_false, Bool.false_eq_true, Bool.not_true, Bool.not_false, Bool.true_or, Bool.or_true, Bool.false_or, Bool.or_false, Bool.false_and, Bool.and_false, bne_self_eq_false, beq_self_eq_true] at hc; done))
    | refine run_block ?_
    | refine run_ret ?_
    | refine run_nil ?_
    | refine run_exit ?_
    | refine blk_normal ?_
    | refine blk_ret ?_
    | refine blk_here ?_
    | refine blk_there rfl ?_
    | refine loop_exit ?_
    | refine loop_ret ?_
    | refine un_exit ?_
    | refine un_ret ?_
    | refine unE_exit ?_
    | refine unE_ret ?_
    | refine un_normal ?_)
  refine end_of ⟨[⟨2, [], .c (.ptr ⟨3, 0, 0, 0⟩)⟩], ⟨4, [(3, coreB s.core), (0, runB s), (1, opsB s), (2, slotB s)]⟩⟩ ?_ ?_
  rotate_left
  · simp (maxSteps := 10000000) only [coreB, coreL, endF, resL, resA, noTup, resV, C8r0, C8r1, rwp_nil, rwp_cons, rwpK_app, aop, gpath, St.get, slotAt, sfx, eqP, segsOf, St.put, addBlk, getB, setB, delB, ld1, ldn, st1, stn, setRow, rowNeed, segAt, nsub, bin, un, eqB, isShift, sameK, arith, shiftR, getsl, selB_or, selB_and, beqb, shed, addN, Nat.beq, Seg.size, sizes, imp, needP, andN, appL, argsOf, ptrsOf, aasOf, cut, takeS, dropS, putS, partsOf, fillS, fieldOf, nthA, negIf, nilq, nilB, eqS, eqF, eqS1, andP, kin, slcS, strOk, plusA, bndHi, leN, optG, roH, roL, initT, exOk, exAll, wrAddr, Nat.reduceAdd, Nat.reduceSub, Nat.reduceMul, Int.reduceToNat, List.append_nil, List.nil_append, List.cons_append, eqT, idxT, cat, cpy, ite_int, ite_bool, ite_seg, ite_segs, ite_nil, ite_twice, Int.toNat_natCast, app, addBs]
    refine ⟨trivial, ?_⟩
    exact rfl
  refine LeS.intro [0, 1, 2, 3] ids3' (by simp only [diff, notIn, Nat.beq, and_self]) rfl ⟨⟨rfl, rfl, rfl, rfl⟩, trivial⟩ ?_
  exact ⟨core_le _, run_le ids0123 s, ops_le s, slot_le s, trivial⟩
end Go.Proofs.Yteikpddilabppaa
