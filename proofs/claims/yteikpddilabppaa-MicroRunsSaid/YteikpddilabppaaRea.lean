/- micro: what is read of a run; what stays right behind an answer. -/
import Derived.Test.YteikpddilabppaaKno
namespace Go.Proofs.Yteikpddilabppaa
open Go.AM
set_option maxRecDepth 100000
set_option linter.unusedSimpArgs false
set_option linter.unusedVariables false
/-! ### Reading -/
def roB (s : RunS) : Blk := ⟨80, none, fun _ => runL s, 65, false⟩
def roR (s : RunS) : Heap := ⟨3, [(0, roB s)]⟩
theorem ro_le {i j k : Nat} (s : RunS) (w : Bool) : leB [i, j, k] ⟨80, none, fun _ => runLa i j k s, 65, w⟩ (roB s) := by
  refine ⟨rfl, rfl, fun h => (by cases h), Nat.le_refl _, fun _ _ => ?_⟩
  have hw : leC [i, j, k] (waitVa i s.waits) (waitV s.waits) := by
    cases s.waits <;> first | trivial | exact ⟨rfl, ⟨⟨rfl, rfl, rfl, rfl⟩, trivial⟩, trivial⟩
  simp only [↓hw, roB, runL, runLa, leSegs, leSeg, leC, leA, nthO, and_self, implies_true]
theorem ro_le0 (s : RunS) : leB [0, 1, 2] (roB s) (roB s) := by
  refine ⟨rfl, rfl, id, Nat.le_refl _, fun i _ => ?_⟩
  have hw := wait_le ids012 s.waits
  simp only [↓hw, roB, runL, leSegs, leSeg, leC, leA, nthO, and_self, implies_true]
theorem dropB_roR {l : List Nat} {s : RunS} (X : List (Nat × Blk)) : dropB l (roR s).blks X = X := dropB_ro rfl X
/-- A method that only reads, where more is named. -/
theorem ro_at {f : FuncId} {args : List AV} {s : RunS} {V : AV} (h : Con Try.prog f args (roR s) (fun v H' => v = V ∧ H' = roR s)) (i j k n : Nat) (X : List (Nat × Blk)) (args' : List AV) (w : Bool)
    (hi : getB X i = some ⟨80, none, fun _ => runLa i j k s, 65, w⟩) (d1 : i ≠ j) (d2 : i ≠ k) (d3 : j ≠ k) (l1 : i < n) (l2 : j < n) (l3 : k < n) (hkl : keysLt X n) (ha : leArgs [i, j, k] args' args) (hV : mapV (gId [i, j, k] n) V = V) :
    Con Try.prog f args' ⟨n, X⟩ (fun v H' => v = V ∧ H' = ⟨n, X⟩) := by
  have := h.frame (H := ⟨n, X⟩) [i, j, k] rfl ⟨⟨beq_ne d1, beq_ne d2, trivial⟩, ⟨beq_ne d3, trivial⟩, trivial, trivial⟩ ⟨l1, l2, l3, trivial⟩ hkl (by simp only [roR, leBlks, nthO, hi]; exact ⟨ro_le s w, trivial⟩) ha
  refine this.weaken ?_
  rintro v H' ⟨v0, H0', ⟨rfl, rfl⟩, rfl, rfl⟩
  refine ⟨hV, ?_⟩
  simp only [framed, dropB_roR]
  rfl
theorem end_ro {l : List Slot} {H : Heap} {R : Post} {rs : List ARes} (s : RunS) (r : List Slot) (h0 : getB H.blks 0 = some (roB s)) (hr : slotsLe [0, 1, 2] l r) (hR : endF rs R ⟨r, roR s⟩) : endQ (LeS 3) rs R .ret ⟨l, H⟩ := by
  refine end_of ⟨r, roR s⟩ (LeS.intro [0, 1, 2] ids3 diff3 rfl hr ?_) hR
  simp only [roR, leBlks, nthO, h0]
  exact ⟨ro_le0 s, trivial⟩
theorem con9r (s : RunS) : Con Try.prog 9 [me] (roR s) (fun v H' => v = .c (.int .i64 s.steps) ∧ H' = roR s) := by
  (refine con_of_run mixed (fn := Try.f9) (by kernel_rfl) (by kernel_rfl) C9_ok (rs := [.tmp 2]) (by kernel_rfl) (Nat.le_of_ble_eq_true (by kernel_rfl)) ?_; unfold C9; simp only [initT, Nat.reduceAdd])
  generalize hR : (fun (v : AV) (H' : Heap) => v = AV.c (CV.int .i64 s.steps) ∧ H' = roR s) = R
  simp only [me, roR, roB, runL]
  repeat' (first
    | refine run_seq ?_
    | refine run_skip ?_
    | (refine run_region fun K hK => ?_; (try (simp (maxSteps := 10000000) only [C9r0, C9r1, rwp_nil, rwp_cons, rwpK_app, aop, gpath, St.get, slotAt, sfx, eqP, segsOf, St.put, addBlk, getB, setB, delB, ld1, ldn, st1, stn, setRow, rowNeed, segAt, nsub, bin, un, eqB, isShift, sameK, arith, shiftR, getsl, selB_or, selB_and, beqb, shed, addN, Nat.beq, Seg.size, sizes, imp, needP, andN, appL, argsOf, ptrsOf, aasOf, cut, takeS, dropS, putS, partsOf, fillS, fieldOf, nthA, negIf, nilq, nilB, eqS, eqF, eqS1, andP, kin, slcS, strOk, plusA, bndHi, leN, optG, roH, roL, initT, exOk, exAll, wrAddr, Nat.reduceAdd, Nat.reduceSub, Nat.reduceMul, Int.reduceToNat, List.append_nil, List.nil_append, List.cons_append, eqT, idxT, cat, cpy, ite_int, ite_bool, ite_seg, ite_segs, ite_nil, ite_twice, Int.toNat_natCast, app, addBs])); (repeat (first | (refine And.intro ?_ ?_; · first | trivial | assumption | omega))); with_reducible refine hK _ ?_; clear hK K)
    | (refine run_cond rfl (fun hc => ?_) (fun hc => ?_) <;> try (simp only [*, Bool.true_eq_false, Bool.false_eq_true, Bool.not_true, Bool.not_false, Bool.true_or, Bool.or_true, Bool.false_or, Bool.or_false, Bool.false_and, Bool.and_false, bne_self_eq_false, beq_self_eq_true] at hc; done))
    | refine run_block ?_
    | refine run_ret ?_
    | refine run_nil ?_
    | refine run_exit ?_
    | refine blk_normal ?_
    | refine blk_ret ?_
    | refine blk_here ?_
    | refine blk_there rfl ?_
    | refine loop_exit ?_
    | refine loop_ret ?_
    | refine un_exit ?_
    | refine un_ret ?_
    | refine unE_exit ?_
    | refine unE_ret ?_
    | refine un_normal ?_)
  subst hR
  exact end_ro s [⟨2, [], .c (.int .i64 s.steps)⟩] rfl ⟨⟨rfl, rfl⟩, trivial⟩ ⟨rfl, rfl⟩
theorem con10r (s : RunS) : Con Try.prog 10 [me] (roR s) (fun v H' => v = .c (.bool s.faulted) ∧ H' = roR s) := by
  (refine con_of_run mixed (fn := Try.f10) (by kernel_rfl) (by kernel_rfl) C10_ok (rs := [.tmp 2]) (by kernel_rfl) (Nat.le_of_ble_eq_true (by kernel_rfl)) ?_; unfold C10; simp only [initT, Nat.reduceAdd])
  generalize hR : (fun (v : AV) (H' : Heap) => v = AV.c (CV.bool s.faulted) ∧ H' = roR s) = R
  simp only [me, roR, roB, runL]
  repeat' (first
    | refine run_seq ?_
    | refine run_skip ?_
    | (refine run_region fun K hK => ?_; (try (simp (maxSteps := 10000000) only [C10r0, C10r1, rwp_nil, rwp_cons, rwpK_app, aop, gpath, St.get, slotAt, sfx, eqP, segsOf, St.put, addBlk, getB, setB, delB, ld1, ldn, st1, stn, setRow, rowNeed, segAt, nsub, bin, un, eqB, isShift, sameK, arith, shiftR, getsl, selB_or, selB_and, beqb, shed, addN, Nat.beq, Seg.size, sizes, imp, needP, andN, appL, argsOf, ptrsOf, aasOf, cut, takeS, dropS, putS, partsOf, fillS, fieldOf, nthA, negIf, nilq, nilB, eqS, eqF, eqS1, andP, kin, slcS, strOk, plusA, bndHi, leN, optG, roH, roL, initT, exOk, exAll, wrAddr, Nat.reduceAdd, Nat.reduceSub, Nat.reduceMul, Int.reduceToNat, List.append_nil, List.nil_append, List.cons_append, eqT, idxT, cat, cpy, ite_int, ite_bool, ite_seg, ite_segs, ite_nil, ite_twice, Int.toNat_natCast, app, addBs])); (repeat (first | (refine And.intro ?_ ?_; · first | trivial | assumption | omega))); with_reducible refine hK _ ?_; clear hK K)
    | (refine run_cond rfl (fun hc => ?_) (fun hc => ?_) <;> try (simp only [*, Bool.true_eq_false, Bool.false_eq_true, Bool.not_true, Bool.not_false, Bool.true_or, Bool.or_true, Bool.false_or, Bool.or_false, Bool.false_and, Bool.and_false, bne_self_eq_false, beq_self_eq_true] at hc; done))
    | refine run_block ?_
    | refine run_ret ?_
    | refine run_nil ?_
    | refine run_exit ?_
    | refine blk_normal ?_
    | refine blk_ret ?_
    | refine blk_here ?_
    | refine blk_there rfl ?_
    | refine loop_exit ?_
    | refine loop_ret ?_
    | refine un_exit ?_
    | refine un_ret ?_
    | refine unE_exit ?_
    | refine unE_ret ?_
    | refine un_normal ?_)
  subst hR
  exact end_ro s [⟨2, [], .c (.bool s.faulted)⟩] rfl ⟨rfl, trivial⟩ ⟨rfl, rfl⟩
theorem con13r (s : RunS) : Con Try.prog 13 [me] (roR s) (fun v H' => v = .tup [.c (.int .u32 s.guest), .c (.bool s.isGuest)] ∧ H' = roR s) := by
  (refine con_of_run mixed (fn := Try.f13) (by kernel_rfl) (by kernel_rfl) C13_ok (rs := [.tmp 2, .tmp 3]) (by kernel_rfl) (Nat.le_of_ble_eq_true (by kernel_rfl)) ?_; unfold C13; simp only [initT, Nat.reduceAdd])
  generalize hR : (fun (v : AV) (H' : Heap) => v = AV.tup [.c (.int .u32 s.guest), .c (.bool s.isGuest)] ∧ H' = roR s) = R
  simp only [me, roR, roB, runL]
  repeat' (first
    | refine run_seq ?_
    | refine run_skip ?_
    | (refine run_region fun K hK => ?_; (try (simp (maxSteps := 10000000) only [C13r0, C13r1, rwp_nil, rwp_cons, rwpK_app, aop, gpath, St.get, slotAt, sfx, eqP, segsOf, St.put, addBlk, getB, setB, delB, ld1, ldn, st1, stn, setRow, rowNeed, segAt, nsub, bin, un, eqB, isShift, sameK, arith, shiftR, getsl, selB_or, selB_and, beqb, shed, addN, Nat.beq, Seg.size, sizes, imp, needP, andN, appL, argsOf, ptrsOf, aasOf, cut, takeS, dropS, putS, partsOf, fillS, fieldOf, nthA, negIf, nilq, nilB, eqS, eqF, eqS1, andP, kin, slcS, strOk, plusA, bndHi, leN, optG, roH, roL, initT, exOk, exAll, wrAddr, Nat.reduceAdd, Nat.reduceSub, Nat.reduceMul, Int.reduceToNat, List.append_nil, List.nil_append, List.cons_append, eqT, idxT, cat, cpy, ite_int, ite_bool, ite_seg, ite_segs, ite_nil, ite_twice, Int.toNat_natCast, app, addBs])); (repeat (first | (refine And.intro ?_ ?_; · first | trivial | assumption | omega))); with_reducible refine hK _ ?_; clear hK K)
    | (refine run_cond rfl (fun hc => ?_) (fun hc => ?_) <;> try (simp only [*, Bool.true_eq_false, Bool.false_eq_true, Bool.not_true, Bool.not_false, Bool.true_or, Bool.or_true, Bool.false_or, Bool.or_false, Bool.false_and, Bool.and_false, bne_self_eq_false, beq_self_eq_true] at hc; done))
    | refine run_block ?_
    | refine run_ret ?_
    | refine run_nil ?_
    | refine run_exit ?_
    | refine blk_normal ?_
    | refine blk_ret ?_
    | refine blk_here ?_
    | refine blk_there rfl ?_
    | refine loop_exit ?_
    | refine loop_ret ?_
    | refine un_exit ?_
    | refine un_ret ?_
    | refine unE_exit ?_
    | refine unE_ret ?_
    | refine un_normal ?_)
  subst hR
  exact end_ro s [⟨2, [], .c (.int .u32 s.guest)⟩, ⟨3, [], .c (.bool s.isGuest)⟩] rfl ⟨⟨rfl, rfl⟩, rfl, trivial⟩ ⟨rfl, rfl⟩
theorem con8r (s : RunS) : Con Try.prog 8 [me] (roR s) (fun v H' => v = .agg (coreL s.core) ∧ H' = roR s) := by
  refine Con.forget (R := fun v H' => v = .agg (coreL s.core) ∧ H' = ⟨4, [(3, coreB s.core), (0, roB s)]⟩) ?_ ?_
  rotate_left
  · rintro v H' ⟨rfl, rfl⟩
    refine ⟨_, _, [0, 1, 2], ids3, diff3, rfl, ?_, ?_, rfl, rfl⟩
    · exact ⟨ro_le0 _, trivial⟩
    · simp only [leV, leVL, leV1, coreL, leSegs, leSeg, leC, and_self, implies_true]
  (refine con_of_run mixed (fn := Try.f8) (by kernel_rfl) (by kernel_rfl) C8_ok (rs := [.cn 49 2]) (by kernel_rfl) (Nat.le_of_ble_eq_true (by kernel_rfl)) ?_; unfold C8; simp only [initT, Nat.reduceAdd])
  generalize hR : (fun (v : AV) (H' : Heap) => v = AV.agg (coreL s.core) ∧ H' = ⟨4, [(3, coreB s.core), (0, roB s)]⟩) = R
  simp only [me, roR, roB, runL]
  repeat' (first
    | refine run_seq ?_
    | refine run_skip ?_
    | (refine run_region fun K hK => ?_; (try (simp (maxSteps := 10000000) only [C8r0, C8r1, rwp_nil, rwp_cons, rwpK_app, aop, gpath, St.get, slotAt, sfx, eqP, segsOf, St.put, addBlk, getB, setB, delB, ld1, ldn, st1, stn, setRow, rowNeed, segAt, nsub, bin, un, eqB, isShift, sameK, arith, shiftR, getsl, selB_or, selB_and, beqb, shed, addN, Nat.beq, Seg.size, sizes, imp, needP, andN, appL, argsOf, ptrsOf, aasOf, cut, takeS, dropS, putS, partsOf, fillS, fieldOf, nthA, negIf, nilq, nilB, eqS, eqF, eqS1, andP, kin, slcS, strOk, plusA, bndHi, leN, optG, roH, roL, initT, exOk, exAll, wrAddr, Nat.reduceAdd, Nat.reduceSub, Nat.reduceMul, Int.reduceToNat, List.append_nil, List.nil_append, List.cons_append, eqT, idxT, cat, cpy, ite_int, ite_bool, ite_seg, ite_segs, ite_nil, ite_twice, Int.toNat_natCast, app, addBs])); (repeat (first | (refine And.intro ?_ ?_; · first | trivial | assumption | omega))); with_reducible refine hK _ ?_; clear hK K)
    | (refine run_cond rfl (fun hc => ?_) (fun hc => ?_) <;> try (simp only [*, Bool.true_eq_false, Bool.false_eq_true, Bool.not_true, Bool.not_false, Bool.true_or, Bool.or_true, Bool.false_or, Bool.or_false, Bool.false_and, Bool.and_false, bne_self_eq_false, beq_self_eq_true] at hc; done))
    | refine run_block ?_
    | refine run_ret ?_
    | refine run_nil ?_
    | refine run_exit ?_
    | refine blk_normal ?_
    | refine blk_ret ?_
    | refine blk_here ?_
    | refine blk_there rfl ?_
    | refine loop_exit ?_
    | refine loop_ret ?_
    | refine un_exit ?_
    | refine un_ret ?_
    | refine unE_exit ?_
    | refine unE_ret ?_
    | refine un_normal ?_)
  subst hR
  refine end_of ⟨[⟨2, [], .c (.ptr ⟨3, 0, 0, 0⟩)⟩], ⟨4, [(3, coreB s.core), (0, roB s)]⟩⟩ ?_ ?_
  rotate_left
  · simp (maxSteps := 10000000) only [coreB, coreL, endF, resL, resA, noTup, resV, C8r0, C8r1, rwp_nil, rwp_cons, rwpK_app, aop, gpath, St.get, slotAt, sfx, eqP, segsOf, St.put, addBlk, getB, setB, delB, ld1, ldn, st1, stn, setRow, rowNeed, segAt, nsub, bin, un, eqB, isShift, sameK, arith, shiftR, getsl, selB_or, selB_and, beqb, shed, addN, Nat.beq, Seg.size, sizes, imp, needP, andN, appL, argsOf, ptrsOf, aasOf, cut, takeS, dropS, putS, partsOf, fillS, fieldOf, nthA, negIf, nilq, nilB, eqS, eqF, eqS1, andP, kin, slcS, strOk, plusA, bndHi, leN, optG, roH, roL, initT, exOk, exAll, wrAddr, Nat.reduceAdd, Nat.reduceSub, Nat.reduceMul, Int.reduceToNat, List.append_nil, List.nil_append, List.cons_append, eqT, idxT, cat, cpy, ite_int, ite_bool, ite_seg, ite_segs, ite_nil, ite_twice, Int.toNat_natCast, app, addBs]
    first | trivial | exact ⟨trivial, trivial⟩ | exact ⟨trivial, rfl⟩
  refine LeS.intro [0, 1, 2, 3] ids3' (by simp only [diff, notIn, Nat.beq, and_self]) rfl ⟨⟨rfl, rfl, rfl, rfl⟩, trivial⟩ ?_
  refine ⟨core_le _, ?_, trivial⟩
  refine ⟨rfl, rfl, id, Nat.le_refl _, fun i _ => ?_⟩
  have hw := wait_le ids0123 s.waits
  simp only [↓hw, roB, runL, leSegs, leSeg, leC, leA, nthO, and_self, implies_true]
/-! ### Behind an answer -/
theorem goS_same (s : RunS) (g : GotS) : (goS s g).ops = s.ops ∧ (goS s g).nops = s.nops ∧ (goS s g).nslots = s.nslots ∧ (goS s g).el = s.el ∧ (goS s g).isGuest = s.isGuest ∧ ((goS s g).left = s.left ∨ (goS s g).left = true) ∧ ((goS s g).faulted = true → s.faulted = true ∨ (goS s g).left = true) := by
  unfold goS setHost
  split
  · exact ⟨rfl, rfl, rfl, rfl, rfl, .inr rfl, fun _ => .inr rfl⟩
  · split <;> exact ⟨rfl, rfl, rfl, rfl, rfl, .inl rfl, fun h => .inl h⟩
theorem took_good {s : RunS} (h : GoodS s) (hw : isN s.waits = false) (g : GotS) : GoodS (tookS s g) ∧ (tookS s g).at_ = s.at_ + 1 ∧ (tookS s g).nops = s.nops := by
  obtain ⟨hl, hwo, hk⟩ := h.wl hw
  have h0 := h.at0
  have hn := h.atn hl
  have hs := h.ats hl
  have hb := h.nb
  have hg0 : s.isGuest = false := by
    cases hg : s.isGuest with
    | false => rfl
    | true => have := (h.gl hg).1; rw [this] at hl; cases hl
  have hf0 : s.faulted = false := by
    cases hf : s.faulted with
    | false => rfl
    | true => have := h.fl hf; rw [this] at hl; cases hl
  obtain ⟨e1, e2, e3, e4, e5, e6, e7⟩ := goS_same s g
  have ea : (tookS s g).at_ = s.at_ + 1 := by
    show IntKind.i64.wrap _ = _
    rw [wrap64 (by omega) (by omega)]
  have es : (tookS s g).steps = s.at_ + 1 := by
    show IntKind.i64.wrap _ = _
    rw [hs, wrap64 (by omega) (by omega)]
  have en : (tookS s g).nops = s.nops := e2
  refine ⟨⟨fun i hi => ?_, by rw [en]; exact h.n1, by rw [en]; exact hb, by rw [ea]; omega, fun _ => by rw [ea, es], fun _ => ?_, by rw [es]; omega, by rw [es, en]; omega, fun _ => by rw [es]; omega, by have e : (tookS s g).el = s.el := e4; rw [e]; exact h.el, fun hx => (by cases hx), fun hx => ?_, fun hx => ?_⟩, ea, en⟩
  · have eo : (tookS s g).ops = s.ops := e1
    rw [en] at hi ⊢
    rw [eo, show (tookS s g).nslots = s.nslots from e3]
    exact h.ops i hi
  · rw [ea, en]
    have hop := (h.ops s.at_.toNat (by omega)).lv
    have : ¬ s.at_.toNat + 1 = s.nops := fun e => by have := hop.2 e; omega
    omega
  · have : (tookS s g).isGuest = s.isGuest := e5
    rw [this, hg0] at hx; cases hx
  · have hx : (goS s g).faulted = true := hx
    rcases e7 hx with h' | h'
    · rw [hf0] at h'; cases h'
    · exact h'
end Go.Proofs.Yteikpddilabppaa
