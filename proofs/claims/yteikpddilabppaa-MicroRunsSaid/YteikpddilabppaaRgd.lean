/- the reference of chapter 22: Next, Take, New. -/
import Derived.Test.YteikpddilabppaaRgc
import Derived.Test.YteikpddilabppaaRfd
namespace Go.Proofs.Yteikpddilabppaa
open Go.AM
set_option maxRecDepth 100000
set_option linter.unusedSimpArgs false
set_option linter.unusedVariables false
def mu (t : RunS) : Nat := 2 * (t.nops - t.at_.toNat) + (if (!t.left && isN t.waits) = true then 1 else 0)
def loopR (s : RunS) (W : WantS) : St := ⟨[⟨3, [], .c (.bool false)⟩, ⟨2, [], .c (.ptr ⟨3, 0, 0, 0⟩)⟩, ⟨0, [], me⟩], ⟨4, [(3, resB want0), (0, refB 1 2 s W), (1, opsR s), (2, slotB s)]⟩⟩
theorem le_loopR {l : List Slot} {H : Heap} {s : RunS} {W : WantS} (h3 : getB H.blks 3 = some (resB want0)) (h0 : getB H.blks 0 = some (refB 1 2 s W)) (h1 : getB H.blks 1 = some (opsR s)) (h2 : getB H.blks 2 = some (slotB s))
    (t0 : slotAt l 0 = some ⟨0, [], me⟩) (t2 : slotAt l 2 = some ⟨2, [], .c (.ptr ⟨3, 0, 0, 0⟩)⟩) (t3 : slotAt l 3 = some ⟨3, [], .c (.bool false)⟩) : LeS 3 ⟨l, H⟩ (loopR s W) := by
  refine LeS.intro [0, 1, 2, 3] (fun i h => ids3' i h) (by simp only [diff, notIn, Nat.beq, and_self]) rfl ?_ ?_
  · simp only [loopR, slotsLe, t0, t2, t3]
    exact ⟨rfl, ⟨rfl, rfl, rfl, rfl⟩, ⟨rfl, rfl, rfl, rfl⟩, trivial⟩
  · simp only [loopR, leBlks, nthO, h0, h1, h2, h3]
    exact ⟨res_le _, ref_le rfl rfl s W, opsR_le s _, slot_le s, trivial⟩
def postR (s : RunS) (W w : WantS) : Heap := ⟨4, [(3, resB w), (0, refB 1 2 s W), (1, opsR s), (2, slotB s)]⟩
theorem end_nextR {l : List Slot} {H : Heap} {R : Post} (s : RunS) (W w : WantS) (h3 : getB H.blks 3 = some (resB w)) (h0 : getB H.blks 0 = some (refB 1 2 s W)) (h1 : getB H.blks 1 = some (opsR s)) (h2 : getB H.blks 2 = some (slotB s))
    (t2 : slotAt l 2 = some ⟨2, [], .c (.ptr ⟨3, 0, 0, 0⟩)⟩) {b : Bool} (t3 : slotAt l 3 = some ⟨3, [], .c (.bool b)⟩) (hR : R (.tup [.agg (wantL w), .c (.bool b)]) (postR s W w)) : endQ (LeS 3) [.cn 10 2, .tmp 3] R .ret ⟨l, H⟩ := by
  refine end_of ⟨[⟨2, [], .c (.ptr ⟨3, 0, 0, 0⟩)⟩, ⟨3, [], .c (.bool b)⟩], postR s W w⟩ ?_ hR
  refine LeS.intro [0, 1, 2, 3] ids3' (by simp only [diff, notIn, Nat.beq, and_self]) rfl ?_ ?_
  · simp only [slotsLe, t2, t3]
    exact ⟨⟨rfl, rfl, rfl, rfl⟩, rfl, trivial⟩
  · simp only [postR, leBlks, nthO, h0, h1, h2, h3]
    exact ⟨res_le _, ref_le rfl rfl s W, opsR_le s _, slot_le s, trivial⟩
theorem wNext_self {t : RunS} {W : WantS} (h : isN t.waits = false → W = t.want) : wNext t W = W := by
  unfold wNext
  split
  · rfl
  · exact (h (by simpa using ‹¬ isN t.waits = true›)).symm
theorem wNext_wNext (t : RunS) (W : WantS) : wNext t (wNext t W) = wNext t W := by
  unfold wNext
  split <;> rfl
theorem wNext_wait (t : RunS) (W : WantS) (h : isN t.waits = false) : wNext t W = t.want := by
  unfold wNext
  rw [h]; rfl
theorem wNext_none (t : RunS) (W : WantS) (h : isN t.waits = true) : wNext t W = W := by
  unfold wNext
  rw [h]; rfl
theorem isN_none {k : WaitK} (h : isN k = true) : k = .none := by cases k <;> first | rfl | cases h
set_option maxHeartbeats 8000000 in
theorem con12 (s : RunS) (W : WantS) (hg : GoodS s) (hf : FineS s) (hW : isN s.waits = false → W = s.want) : Con Try.prog 12 [me] (refH s W) (fun v H' => v = .tup [.agg (wantL (nextR s).want), .c (.bool (!isN (nextR s).waits))] ∧ H' = refH (nextR s) (wNext (nextR s) W)) := by
  refine Con.forget (R := fun v H' => v = .tup [.agg (wantL (nextR s).want), .c (.bool (!isN (nextR s).waits))] ∧ H' = postR (nextR s) (wNext (nextR s) W) (nextR s).want) ?_ ?_
  rotate_left
  · rintro v H' ⟨rfl, rfl⟩
    refine ⟨_, _, [0, 1, 2], ids3, diff3, rfl, ?_, ?_, rfl, rfl⟩
    · exact ⟨ref_le rfl rfl _ _, opsR_le _ _, slot_le _, trivial⟩
    · simp only [leV, leVL, leV1, wantL, leSegs, leSeg, leC, and_self]
  have hfT := nextR_fine hg hf
  (refine con_of_run mixed (fn := Try.f12) (by kernel_rfl) (by kernel_rfl) C12_ok (rs := [.cn 10 2, .tmp 3]) (by kernel_rfl) (Nat.le_of_ble_eq_true (by kernel_rfl)) ?_; unfold C12; simp only [initT, Nat.reduceAdd])
  generalize hT : nextR s = T at *
  generalize hR : (fun (v : AV) (H' : Heap) => v = AV.tup [.agg (wantL T.want), .c (.bool (!isN T.waits))] ∧ H' = postR T (wNext T W) T.want) = R
  simp only [me]
  repeat' (first
    | refine run_seq ?_
    | refine run_skip ?_
    | (refine run_region fun K hK => ?_; (try (simp (maxSteps := 10000000) only [refH, C12r0, C12r1, C12r2, C12r3, C12r4, C12r5, rwp_nil, rwp_cons, rwpK_app, aop, gpath, St.get, slotAt, sfx, eqP, segsOf, St.put, addBlk, getB, setB, delB, ld1, ldn, st1, stn, setRow, rowNeed, segAt, nsub, bin, un, eqB, isShift, sameK, arith, shiftR, getsl, selB_or, selB_and, beqb, shed, addN, Nat.beq, Seg.size, sizes, imp, needP, andN, appL, argsOf, ptrsOf, aasOf, cut, takeS, dropS, putS, partsOf, fillS, fieldOf, nthA, negIf, nilq, nilB, eqS, eqF, eqS1, andP, kin, slcS, strOk, plusA, bndHi, leN, optG, roH, roL, initT, exOk, exAll, wrAddr, Nat.reduceAdd, Nat.reduceSub, Nat.reduceMul, Int.reduceToNat, List.append_nil, List.nil_append, List.cons_append, eqT, idxT, cat, cpy, ite_int, ite_bool, ite_seg, ite_segs, ite_nil, ite_twice, Int.toNat_natCast, app, addBs])); (repeat (first | (refine And.intro ?_ ?_; · omega))); with_reducible refine hK _ ?_; clear hK K)
    | (refine run_cond rfl (fun hc => ?_) (fun hc => ?_) <;> try (simp only [*, Bool.true_eq_false, Bool.false_eq_true, Bool.not_true, Bool.not_false, Bool.true_or, Bool.or_true, Bool.false_or, Bool.or_false, Bool.false_and, Bool.and_false, bne_self_eq_false, beq_self_eq_true] at hc; done))
    | refine run_block ?_
    | refine run_ret ?_
    | refine run_nil ?_
    | refine run_exit ?_
    | refine blk_normal ?_
    | refine blk_ret ?_
    | refine blk_here ?_
    | refine blk_there rfl ?_
    | refine loop_exit ?_
    | refine loop_ret ?_
    | refine un_exit ?_
    | refine un_ret ?_
    | refine unE_exit ?_
    | refine unE_ret ?_
    | refine un_normal ?_)
  refine run_loop (fun n st => ∃ t Wt m, GoodS t ∧ FineS t ∧ st = loopR t Wt ∧ n = mu t ∧ t.nops - t.at_.toNat < m ∧ nextS m t = T ∧ wNext T Wt = wNext T W ∧ (isN t.waits = false → Wt = t.want)) (mu s) ⟨s, W, _, hg, hf, rfl, rfl, Nat.lt_succ_self _, hT, rfl, hW⟩ ?_
  rintro n st ⟨t, Wt, m, hgt, hft, rfl, hn, hm, ht, hwt, hww⟩
  simp only [loopR, me, resB, refB, refLa, opsR, slotB, wantL, want0]
  have hat0 := hgt.at0
  repeat' (first
    | refine run_seq ?_
    | refine run_skip ?_
    | (refine run_region fun K hK => ?_; (try (simp (maxSteps := 10000000) only [microL, C12r0, C12r1, C12r2, C12r3, C12r4, C12r5, rwp_nil, rwp_cons, rwpK_app, aop, gpath, St.get, slotAt, sfx, eqP, segsOf, St.put, addBlk, getB, setB, delB, ld1, ldn, st1, stn, setRow, rowNeed, segAt, nsub, bin, un, eqB, isShift, sameK, arith, shiftR, getsl, selB_or, selB_and, beqb, shed, addN, Nat.beq, Seg.size, sizes, imp, needP, andN, appL, argsOf, ptrsOf, aasOf, cut, takeS, dropS, putS, partsOf, fillS, fieldOf, nthA, negIf, nilq, nilB, eqS, eqF, eqS1, andP, kin, slcS, strOk, plusA, bndHi, leN, optG, roH, roL, initT, exOk, exAll, wrAddr, Nat.reduceAdd, Nat.reduceSub, Nat.reduceMul, Int.reduceToNat, List.append_nil, List.nil_append, List.cons_append, eqT, idxT, cat, cpy, ite_int, ite_bool, ite_seg, ite_segs, ite_nil, ite_twice, Int.toNat_natCast, app, addBs])); (repeat (first | (refine And.intro ?_ ?_; · omega))); with_reducible refine hK _ ?_; clear hK K)
    | (refine run_cond rfl (fun hc => ?_) (fun hc => ?_) <;> try (simp only [*, Bool.true_eq_false, Bool.false_eq_true, Bool.not_true, Bool.not_false, Bool.true_or, Bool.or_true, Bool.false_or, Bool.or_false, Bool.false_and, Bool.and_false, bne_self_eq_false, beq_self_eq_true] at hc; done))
    | refine run_block ?_
    | refine run_ret ?_
    | refine run_nil ?_
    | refine run_exit ?_
    | refine blk_normal ?_
    | refine blk_ret ?_
    | refine blk_here ?_
    | refine blk_there rfl ?_
    | refine loop_exit ?_
    | refine loop_ret ?_
    | refine un_exit ?_
    | refine un_ret ?_
    | refine unE_exit ?_
    | refine unE_ret ?_
    | refine un_normal ?_)
  · have hl : t.left = false := by revert hc; cases t.left <;> simp
    have hwn : isN t.waits = true := by revert hc; cases isN t.waits <;> simp
    have hat := hgt.atn hl
    have hfit := hgt.fit hl
    have hgr := hgt.round hl hwn
    have hrun : (!t.left && isN t.waits) = true := by rw [hl, hwn]; rfl
    obtain ⟨m, rfl⟩ : ∃ k, m = k + 1 := ⟨m - 1, by omega⟩
    repeat' (first
    | refine run_seq ?_
    | refine run_skip ?_
    | (refine run_region fun K hK => ?_; (try (simp (maxSteps := 10000000) only [microL, C12r0, C12r1, C12r2, C12r3, C12r4, C12r5, rwp_nil, rwp_cons, rwpK_app, aop, gpath, St.get, slotAt, sfx, eqP, segsOf, St.put, addBlk, getB, setB, delB, ld1, ldn, st1, stn, setRow, rowNeed, segAt, nsub, bin, un, eqB, isShift, sameK, arith, shiftR, getsl, selB_or, selB_and, beqb, shed, addN, Nat.beq, Seg.size, sizes, imp, needP, andN, appL, argsOf, ptrsOf, aasOf, cut, takeS, dropS, putS, partsOf, fillS, fieldOf, nthA, negIf, nilq, nilB, eqS, eqF, eqS1, andP, kin, slcS, strOk, plusA, bndHi, leN, optG, roH, roL, initT, exOk, exAll, wrAddr, Nat.reduceAdd, Nat.reduceSub, Nat.reduceMul, Int.reduceToNat, List.append_nil, List.nil_append, List.cons_append, eqT, idxT, cat, cpy, ite_int, ite_bool, ite_seg, ite_segs, ite_nil, ite_twice, Int.toNat_natCast, app, addBs])); (repeat (first | (refine And.intro ?_ ?_; · omega) | ((first | (refine call_t _ (ref_frame1 (con23 t Wt _ hfit (hft.ops _ (by omega)) (isN_none hwn) hft.reg) (by simp only [me, microL, leArgs, leV, leV1, leSegs, leSeg, leC, leA, nthO, and_self])) ?_; rintro v H' ⟨rfl, rfl⟩) | refine call_q _ (ref_frame1 (con23 t Wt _ hfit (hft.ops _ (by omega)) (isN_none hwn) hft.reg) (by simp only [me, microL, leArgs, leV, leV1, leSegs, leSeg, leC, leA, nthO, and_self])) ?_ | refine call_g _ (imp_of (ref_frame1 (con23 t Wt _ hfit (hft.ops _ (by omega)) (isN_none hwn) hft.reg) (by simp only [me, microL, leArgs, leV, leV1, leSegs, leSeg, leC, leA, nthO, and_self]))) ?_); simp (maxSteps := 10000000) only [microL, C12r0, C12r1, C12r2, C12r3, C12r4, C12r5, rwp_nil, rwp_cons, rwpK_app, aop, gpath, St.get, slotAt, sfx, eqP, segsOf, St.put, addBlk, getB, setB, delB, ld1, ldn, st1, stn, setRow, rowNeed, segAt, nsub, bin, un, eqB, isShift, sameK, arith, shiftR, getsl, selB_or, selB_and, beqb, shed, addN, Nat.beq, Seg.size, sizes, imp, needP, andN, appL, argsOf, ptrsOf, aasOf, cut, takeS, dropS, putS, partsOf, fillS, fieldOf, nthA, negIf, nilq, nilB, eqS, eqF, eqS1, andP, kin, slcS, strOk, plusA, bndHi, leN, optG, roH, roL, initT, exOk, exAll, wrAddr, Nat.reduceAdd, Nat.reduceSub, Nat.reduceMul, Int.reduceToNat, List.append_nil, List.nil_append, List.cons_append, eqT, idxT, cat, cpy, ite_int, ite_bool, ite_seg, ite_segs, ite_nil, ite_twice, Int.toNat_natCast, app, addBs]))); with_reducible refine hK _ ?_; clear hK K)
    | (refine run_cond rfl (fun hc => ?_) (fun hc => ?_) <;> try (simp only [*, Bool.true_eq_false, Bool.false_eq_true, Bool.not_true, Bool.not_false, Bool.true_or, Bool.or_true, Bool.false_or, Bool.or_false, Bool.false_and, Bool.and_false, bne_self_eq_false, beq_self_eq_true] at hc; done))
    | refine run_block ?_
    | refine run_ret ?_
    | refine run_nil ?_
    | refine run_exit ?_
    | refine blk_normal ?_
    | refine blk_ret ?_
    | refine blk_here ?_
    | refine blk_there rfl ?_
    | refine loop_exit ?_
    | refine loop_ret ?_
    | refine un_exit ?_
    | refine un_ret ?_
    | refine unE_exit ?_
    | refine unE_ret ?_
    | refine un_normal ?_)
    unfold nextS at ht
    rw [if_pos hrun] at ht
    by_cases hwo : (worldS t (t.ops t.at_.toNat)).1 = true
    · rw [if_pos hwo] at ht
      have e : oneS t (t.ops t.at_.toNat) = T := by rw [← ht]; simp only [oneS, hwo, if_true]
      rw [e]
      obtain ⟨f1, f2, f3⟩ := world_fields hwo
      have hgw := world_good hgt hl hwo
      have hfw := world_fine hgt hft hl hwo
      rw [ht] at f1 f2 f3 hgw hfw
      have hstop : T.left = true ∨ isN T.waits = false := by
        cases hx : isN T.waits with
        | true => exact .inl (f3 hx)
        | false => exact .inr rfl
      have hmu : mu T < n := by
        have : (!T.left && isN T.waits) = false := by
          rcases hstop with h | h <;> simp [h]
        rw [hn]
        unfold mu
        rw [f1, f2, this, hrun]
        simp
      exact loop_normal (mu T) (loopR T (wNext T Wt)) hmu (le_loopR rfl rfl rfl rfl rfl rfl rfl) ⟨T, _, _, hgw, hfw, rfl, rfl, Nat.lt_succ_self _, nextS_stop hstop _, by rw [wNext_wNext]; exact hwt, fun h => wNext_wait T Wt h⟩
    · rw [if_neg hwo] at ht
      have e : oneS t (t.ops t.at_.toNat) = roundS t := by simp only [oneS, if_neg hwo]; rfl
      rw [e]
      obtain ⟨r1, r2⟩ := hgt.round_at hl
      have hrw : isN (roundS t).waits = true := by
        have : (roundS t).waits = t.waits := (local_same t (t.ops t.at_.toNat)).waits
        rw [this]; exact hwn
      rw [wNext_none _ _ hrw]
      have hmu : mu (roundS t) < n := by
        rw [hn]
        unfold mu
        rw [r1, r2, hrun]
        split <;> simp <;> omega
      exact loop_normal (mu (roundS t)) (loopR (roundS t) Wt) hmu (le_loopR rfl rfl rfl rfl rfl rfl rfl) ⟨roundS t, _, m, hgr, round_fine hgt hft hl hwn, rfl, rfl, by rw [r1, r2]; omega, ht, hwt, fun h => by rw [hrw] at h; cases h⟩
  · have hstop : t.left = true ∨ isN t.waits = false := by
      have h1 := ‹(!t.left && !!isN t.waits) = false›
      revert h1
      cases t.left <;> cases isN t.waits <;> simp
    rw [nextS_stop hstop] at ht
    subst ht
    subst hR
    have hWt : Wt = t.want := hww (by simpa using ‹(!isN t.waits) = true›)
    subst hWt
    rw [wNext_self (fun _ => rfl)] at hwt
    refine end_nextR t t.want t.want rfl rfl rfl rfl rfl rfl ⟨?_, ?_⟩
    · rw [‹(!isN t.waits) = true›]
    · rw [← hwt]
  · have hstop : t.left = true ∨ isN t.waits = false := by
      have h1 := ‹(!t.left && !!isN t.waits) = false›
      revert h1
      cases t.left <;> cases isN t.waits <;> simp
    rw [nextS_stop hstop] at ht
    subst ht
    subst hR
    have hn : isN t.waits = true := by simpa using ‹(!isN t.waits) = false›
    have hz := hft.wz hn
    rw [wNext_none _ _ hn, wNext_none _ _ hn] at hwt
    subst hwt
    rw [hz]
    refine end_nextR t Wt want0 rfl rfl rfl rfl rfl rfl ⟨?_, ?_⟩
    · rw [‹(!isN t.waits) = false›]
    · rw [wNext_none _ _ hn]
set_option maxHeartbeats 8000000 in
theorem con15 (s : RunS) (W : WantS) (g : GotS) (hg : GoodS s) (hf : FineS s) (hw : isN s.waits = false) : Con Try.prog 15 [me, .agg (gotL g)] (refH s W) (fun v H' => v = .c (.bool true) ∧ H' = refH (tookS s g) W) := by
  obtain ⟨hl, _, _⟩ := hg.wl hw
  have ha := hg.at0
  have hn := hg.atn hl
  have hd := (hg.fit hl).d0
  have hd8 := (hg.fit hl).d8
  have hk := hf.ww hw
  unfold WKind at hk
  rcases hk with ⟨hk, hwk, hwt⟩ | ⟨hk, hwk, hwt⟩ | ⟨hk, hwk, hwt⟩ | ⟨hk, hwk, hwt⟩ | ⟨hk, hwk, hwt⟩ | ⟨hk, hwk, hwt⟩
  all_goals
    (refine con_of_run mixed (fn := Try.f15) (by kernel_rfl) (by kernel_rfl) C15_ok (rs := [.tmp 4]) (by kernel_rfl) (Nat.le_of_ble_eq_true (by kernel_rfl)) ?_; unfold C15; simp only [initT, Nat.reduceAdd])
    generalize hR : (fun (v : AV) (H' : Heap) => v = AV.c (.bool true) ∧ H' = refH (tookS s g) W) = R
    simp only [me, refH, refB, refLa, opsR, slotB, gotL]
    repeat' (first
    | refine run_seq ?_
    | refine run_skip ?_
    | (refine run_region fun K hK => ?_; (try (simp (maxSteps := 10000000) only [microL, hk, hwt, isN, Bool.not_true, Bool.not_false, Int.reduceBEq, beq_self_eq_true, ne_eq, C15r0, C15r1, C15r2, C15r3, C15r4, C15r5, C15r6, C15r7, C15r8, C15r9, C15r10, C15r11, C15r12, C15r13, C15r14, C15r15, C15r16, C15r17, C15r18, C15r19, C15r20, C15r21, rwp_nil, rwp_cons, rwpK_app, aop, gpath, St.get, slotAt, sfx, eqP, segsOf, St.put, addBlk, getB, setB, delB, ld1, ldn, st1, stn, setRow, rowNeed, segAt, nsub, bin, un, eqB, isShift, sameK, arith, shiftR, getsl, selB_or, selB_and, beqb, shed, addN, Nat.beq, Seg.size, sizes, imp, needP, andN, appL, argsOf, ptrsOf, aasOf, cut, takeS, dropS, putS, partsOf, fillS, fieldOf, nthA, negIf, nilq, nilB, eqS, eqF, eqS1, andP, kin, slcS, strOk, plusA, bndHi, leN, optG, roH, roL, initT, exOk, exAll, wrAddr, Nat.reduceAdd, Nat.reduceSub, Nat.reduceMul, Int.reduceToNat, List.append_nil, List.nil_append, List.cons_append, eqT, idxT, cat, cpy, ite_int, ite_bool, ite_seg, ite_segs, ite_nil, ite_twice, Int.toNat_natCast, app, addBs])); (repeat (first | (refine And.intro ?_ ?_; · omega))); with_reducible refine hK _ ?_; clear hK K)
    | (refine run_cond rfl (fun hc => ?_) (fun hc => ?_) <;> try (simp only [*, Bool.true_eq_false, Bool.false_eq_true, Bool.not_true, Bool.not_false, Bool.true_or, Bool.or_true, Bool.false_or, Bool.or_false, Bool.false_and, Bool.and_false, bne_self_eq_false, beq_self_eq_true] at hc; done))
    | refine run_block ?_
    | refine run_ret ?_
    | refine run_nil ?_
    | refine run_exit ?_
    | refine blk_normal ?_
    | refine blk_ret ?_
    | refine blk_here ?_
    | refine blk_there rfl ?_
    | refine loop_exit ?_
    | refine loop_ret ?_
    | refine un_exit ?_
    | refine un_ret ?_
    | refine unE_exit ?_
    | refine unE_ret ?_
    | refine un_normal ?_)
    all_goals try exact absurd ‹(true && true) = false› (by decide)
    all_goals try exact absurd ‹(true && false) = true› (by decide)
    all_goals
      subst hR
      have hx : (g.fault != 0) = true ∨ (g.fault != 0) = false := by cases (g.fault != 0) <;> simp
      have hy : g.ok = true ∨ g.ok = false := by cases g.ok <;> simp
      first
        | (have hx := ‹(g.fault != 0) = true›
           refine end_ref1 (tookS s g) W rfl ?_ ?_ ?_ rfl rfl ⟨rfl, rfl⟩ <;> (simp only [tookS, goS, hwk, hwt, hx, Int.reduceBNe, Bool.true_and, Bool.and_true, Bool.false_and, Bool.false_eq_true, if_true, if_false, reduceIte]) <;> rfl)
        | (have hx := ‹(g.fault != 0) = false›
           have hy := ‹g.ok = true›
           refine end_ref1 { setHost s (s.ops s.at_.toNat).d 0 with want := want0, waits := .none, steps := IntKind.i64.wrap (s.steps + 1), at_ := IntKind.i64.wrap (s.at_ + 1) } W rfl rfl rfl rfl rfl rfl ⟨rfl, ?_⟩
           simp only [tookS, goS, hwk, hwt, hx, hy, Int.reduceBNe, Bool.true_and, Bool.and_true, Bool.false_and, Bool.false_eq_true, if_true, if_false, reduceIte])
        | (have hx := ‹(g.fault != 0) = false›
           have hy := ‹g.ok = false›
           refine end_ref1 { setHost s (s.ops s.at_.toNat).d 1 with want := want0, waits := .none, steps := IntKind.i64.wrap (s.steps + 1), at_ := IntKind.i64.wrap (s.at_ + 1) } W rfl rfl rfl rfl rfl rfl ⟨rfl, ?_⟩
           simp only [tookS, goS, hwk, hwt, hx, hy, Int.reduceBNe, Bool.true_and, Bool.and_true, Bool.false_and, Bool.false_eq_true, if_true, if_false, reduceIte])
        | (have hx := ‹(g.fault != 0) = false›
           refine end_ref1 (tookS s g) W rfl ?_ ?_ ?_ rfl rfl ⟨rfl, rfl⟩ <;> (simp only [tookS, goS, hwk, hwt, hx, Int.reduceBNe, Bool.true_and, Bool.and_true, Bool.false_and, Bool.false_eq_true, if_true, if_false, reduceIte]) <;> rfl)
        | (refine end_ref1 (tookS s g) W rfl ?_ ?_ ?_ rfl rfl ⟨rfl, rfl⟩ <;> (simp only [tookS, goS, hwk, hwt, Int.reduceBNe, Bool.true_and, Bool.and_true, Bool.false_and, Bool.false_eq_true, if_true, if_false, reduceIte]) <;> rfl)
end Go.Proofs.Yteikpddilabppaa
