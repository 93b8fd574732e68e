/- micro: what a run's methods make of it. -/
import Derived.Test.YteikpddilabppaaMic
namespace Go.Proofs.Yteikpddilabppaa
open Go.AM
set_option maxRecDepth 100000
set_option linter.unusedSimpArgs false
set_option linter.unusedVariables false
theorem ids3 : idTo [0, 1, 2] 3 := by
  intro i h
  match i, h with
  | 0, _ => rfl
  | 1, _ => rfl
  | 2, _ => rfl
theorem diff3 : diff [0, 1, 2] := by simp only [diff, notIn, Nat.beq, and_self]
theorem leA3 (o : Nat) : leA [0, 1, 2] ⟨0, 0, o, 0⟩ ⟨0, 0, o, 0⟩ := ⟨rfl, rfl, rfl, rfl⟩
structure Ids3 (l : List Nat) : Prop where
  i0 : nthO l 0 = some 0
  i1 : nthO l 1 = some 1
  i2 : nthO l 2 = some 2
theorem wait_le {l : List Nat} (h : Ids3 l) (k : WaitK) : leC l (waitV k) (waitV k) := by
  cases k <;> first | trivial | exact ⟨rfl, ⟨⟨h.i0, rfl, rfl, rfl⟩, trivial⟩, trivial⟩
theorem ops_le {l : List Nat} (s : RunS) : leB l (opsB s) (opsB s) := by
  refine ⟨rfl, rfl, id, Nat.le_refl _, fun i _ => ?_⟩
  simp only [opsB, microL, leSegs, leSeg, leC, and_self]
theorem slot_le {l : List Nat} (s : RunS) : leB l (slotB s) (slotB s) := by
  refine ⟨rfl, rfl, id, Nat.le_refl _, fun i _ => ?_⟩
  simp only [slotB, leSegs, leSeg, leC, and_self]
theorem run_le {l : List Nat} (h : Ids3 l) (s : RunS) : leB l (runB s) (runB s) := by
  refine ⟨rfl, rfl, id, Nat.le_refl _, fun i _ => ?_⟩
  have hw := wait_le h s.waits
  simp only [↓hw, runB, runL, leSegs, leSeg, leC, leA, h.i0, h.i1, h.i2, and_self, implies_true]
theorem ids012 : Ids3 [0, 1, 2] := ⟨rfl, rfl, rfl⟩
/-- A run's heap, found again behind a method. -/
theorem le_run {l : List Slot} {H : Heap} {s : RunS} (h0 : getB H.blks 0 = some (runB s)) (h1 : getB H.blks 1 = some (opsB s)) (h2 : getB H.blks 2 = some (slotB s))
    {r : List Slot} (hr : slotsLe [0, 1, 2] l r) : LeS 3 ⟨l, H⟩ ⟨r, runH s⟩ := by
  refine LeS.intro [0, 1, 2] ids3 diff3 rfl hr ?_
  simp only [runH, leBlks, nthO, h0, h1, h2]
  exact ⟨run_le ids012 s, ops_le s, slot_le s, trivial⟩
theorem end_run0 {l : List Slot} {H : Heap} {R : Post} {e : AEx} (he : ∀ i, e ≠ .exit i) (s : RunS) (h0 : getB H.blks 0 = some (runB s)) (h1 : getB H.blks 1 = some (opsB s)) (h2 : getB H.blks 2 = some (slotB s)) (hR : R (.tup []) (runH s)) : endQ (LeS 3) [] R e ⟨l, H⟩ := by
  cases e with
  | exit i => exact absurd rfl (he i)
  | normal => exact end_of' ⟨[], runH s⟩ (le_run h0 h1 h2 trivial) hR
  | ret => exact end_of ⟨[], runH s⟩ (le_run h0 h1 h2 trivial) hR
theorem end_run1 {l : List Slot} {H : Heap} {R : Post} {t : Nat} {v : AV} (s : RunS) (hv : slotAt l t = some ⟨t, [], v⟩) (h0 : getB H.blks 0 = some (runB s)) (h1 : getB H.blks 1 = some (opsB s)) (h2 : getB H.blks 2 = some (slotB s)) (hid : leV [0, 1, 2] v v) (hn : noTup v = true) (hR : R v (runH s)) : endQ (LeS 3) [.tmp t] R .ret ⟨l, H⟩ := by
  refine end_of ⟨[⟨t, [], v⟩], runH s⟩ (le_run h0 h1 h2 (slotsOf hv hid trivial)) ?_
  have hg : St.get ⟨[⟨t, [], v⟩], runH s⟩ [] (.t t) = v := by simp [St.get, slotAt, Nat.beq_refl, sfx, eqP]
  simp only [endF, resL, resA, hg, hn, resV]
  exact hR
/-- A method's contract where more is named. -/
theorem run_frame {f : FuncId} {args : List AV} {s s' : RunS} {V : AV} (h : Con Try.prog f args (runH s) (fun v H' => v = V ∧ H' = runH s')) (ha : leArgs [0, 1, 2] args args) (X : List (Nat × Blk)) (n : Nat) (hX : allBe 3 n (keysB X) = true) (hn : 3 ≤ n) (hx : ∀ i, i < 3 → getB X i = none) :
    Con Try.prog f args ⟨n, appX X (runH s).blks⟩ (fun v H' => v = V ∧ H' = ⟨n, appX X (runH s').blks⟩) := by
  refine (h.frameN [0, 1, 2] rfl ids3 X n (fun v H' hv => by rw [hv.2]; exact ⟨rfl, rfl⟩) hX rfl hn ?_ ha).weaken ?_
  · have g0 : getB (appX X (runH s).blks) 0 = some (runB s) := by rw [getB_appX, hx 0 (by omega)]; rfl
    have g1 : getB (appX X (runH s).blks) 1 = some (opsB s) := by rw [getB_appX, hx 1 (by omega)]; rfl
    have g2 : getB (appX X (runH s).blks) 2 = some (slotB s) := by rw [getB_appX, hx 2 (by omega)]; rfl
    generalize hL : appX X (runH s).blks = L at g0 g1 g2 ⊢
    simp only [runH, leBlks, nthO, g0, g1, g2]
    exact ⟨run_le ids012 s, ops_le s, slot_le s, trivial⟩
  · rintro v H' ⟨H0', ⟨rfl, rfl⟩, rfl⟩
    exact ⟨rfl, rfl⟩
theorem run_frame1 {f : FuncId} {args : List AV} {s s' : RunS} {V : AV} (h : Con Try.prog f args (runH s) (fun v H' => v = V ∧ H' = runH s')) (ha : leArgs [0, 1, 2] args args) {B : Blk} :
    Con Try.prog f args ⟨4, (3, B) :: (runH s).blks⟩ (fun v H' => v = V ∧ H' = ⟨4, (3, B) :: (runH s').blks⟩) :=
  run_frame h ha [(3, B)] 4 rfl (by decide) (fun i hi => by
    match i, hi with
    | 0, _ => rfl
    | 1, _ => rfl
    | 2, _ => rfl)
def leaveS (s : RunS) (pc : Int) : RunS := { s with left := true, core := { s.core with pc := pc } }
theorem con40 (s : RunS) (pc : Int) : Con Try.prog 40 [me, .c (.int .u64 pc)] (runH s) (fun v H' => v = .tup [] ∧ H' = runH (leaveS s pc)) := by
  (refine con_of_run mixed (fn := Try.f40) (by kernel_rfl) (by kernel_rfl) C40_ok (rs := []) (by kernel_rfl) (Nat.le_of_ble_eq_true (by kernel_rfl)) ?_; unfold C40; simp only [initT, Nat.reduceAdd])
  simp only [me, runH, runB, runL]
  repeat' (first
    | refine run_seq ?_
    | refine run_skip ?_
    | (refine run_region fun K hK => ?_; (try (simp (maxSteps := 10000000) only [C40r0, rwp_nil, rwp_cons, rwpK_app, aop, gpath, St.get, slotAt, sfx, eqP, segsOf, St.put, addBlk, getB, setB, delB, ld1, ldn, st1, stn, setRow, rowNeed, segAt, nsub, bin, un, eqB, isShift, sameK, arith, shiftR, getsl, selB_or, selB_and, beqb, shed, addN, Nat.beq, Seg.size, sizes, imp, needP, andN, appL, argsOf, ptrsOf, aasOf, cut, takeS, dropS, putS, partsOf, fillS, fieldOf, nthA, negIf, nilq, nilB, eqS, eqF, eqS1, andP, kin, slcS, strOk, plusA, bndHi, leN, optG, roH, roL, initT, exOk, exAll, wrAddr, Nat.reduceAdd, Nat.reduceSub, Nat.reduceMul, Int.reduceToNat, List.append_nil, List.nil_append, List.cons_append, eqT, idxT, cat, cpy, ite_int, ite_bool, ite_seg, ite_segs, ite_nil, ite_twice, Int.toNat_natCast, app, addBs])); (repeat (first | (refine And.intro ?_ ?_; · first | trivial | assumption | omega))); with_reducible refine hK _ ?_; clear hK K)
    | (refine run_cond rfl (fun hc => ?_) (fun hc => ?_) <;> try (simp only [*, Bool.true_eq_false, Bool.false_eq_true, Bool.not_true, Bool.not_false, Bool.true_or, Bool.or_true, Bool.false_or, Bool.or_false, Bool.false_and, Bool.and_false, bne_self_eq_false, beq_self_eq_true] at hc; done))
    | refine run_block ?_
    | refine run_ret ?_
    | refine run_nil ?_
    | refine run_exit ?_
    | refine blk_normal ?_
    | refine blk_ret ?_
    | refine blk_here ?_
    | refine blk_there rfl ?_
    | refine loop_exit ?_
    | refine loop_ret ?_
    | refine un_exit ?_
    | refine un_ret ?_
    | refine unE_exit ?_
    | refine unE_ret ?_
    | refine un_normal ?_)
  exact end_run0 nofun (leaveS s pc) rfl rfl rfl ⟨rfl, rfl⟩
structure GotS where
  value : Int
  ok : Bool
  fault : Int
def gotL (g : GotS) : List Seg := [.c (.int .u64 g.value), .c (.bool g.ok), .c (.int .i64 g.fault)]
def setHost (s : RunS) (d v : Int) : RunS := { s with host := fun i => if i = d.toNat then v else s.host i }

theorem con34 (s : RunS) (g : GotS) (ha : 0 ≤ s.at_) (hn : s.at_ < s.nops) (hd : 0 ≤ (s.ops s.at_.toNat).d) (hd8 : (s.ops s.at_.toNat).d < 8) : Con Try.prog 34 [me, .agg (gotL g)] (runH s) (fun v H' => v = AV.c (CV.bool (g.fault == 0)) ∧ H' = runH (setHost s (s.ops s.at_.toNat).d g.value)) := by
  (refine con_of_run mixed (fn := Try.f34) (by kernel_rfl) (by kernel_rfl) C34_ok (rs := [.tmp 4]) (by kernel_rfl) (Nat.le_of_ble_eq_true (by kernel_rfl)) ?_; unfold C34; simp only [initT, Nat.reduceAdd])
  generalize hR : (fun (v : AV) (H' : Heap) => v = AV.c (CV.bool (g.fault == 0)) ∧ H' = runH (setHost s (s.ops s.at_.toNat).d g.value)) = R
  simp only [me, runH, runB, runL, opsB, slotB, gotL]
  repeat' (first
    | refine run_seq ?_
    | refine run_skip ?_
    | (refine run_region fun K hK => ?_; (try (simp (maxSteps := 10000000) only [microL, C34r0, C34r1, C34r2, rwp_nil, rwp_cons, rwpK_app, aop, gpath, St.get, slotAt, sfx, eqP, segsOf, St.put, addBlk, getB, setB, delB, ld1, ldn, st1, stn, setRow, rowNeed, segAt, nsub, bin, un, eqB, isShift, sameK, arith, shiftR, getsl, selB_or, selB_and, beqb, shed, addN, Nat.beq, Seg.size, sizes, imp, needP, andN, appL, argsOf, ptrsOf, aasOf, cut, takeS, dropS, putS, partsOf, fillS, fieldOf, nthA, negIf, nilq, nilB, eqS, eqF, eqS1, andP, kin, slcS, strOk, plusA, bndHi, leN, optG, roH, roL, initT, exOk, exAll, wrAddr, Nat.reduceAdd, Nat.reduceSub, Nat.reduceMul, Int.reduceToNat, List.append_nil, List.nil_append, List.cons_append, eqT, idxT, cat, cpy, ite_int, ite_bool, ite_seg, ite_segs, ite_nil, ite_twice, Int.toNat_natCast, app, addBs])); (repeat (first | (refine And.intro ?_ ?_; · first | trivial | assumption | omega))); with_reducible refine hK _ ?_; clear hK K)
    | (refine run_cond rfl (fun hc => ?_) (fun hc => ?_) <;> try (simp only [*, Bool.true_eq_false, Bool.false_eq_true, Bool.not_true, Bool.not_false, Bool.true_or, Bool.or_true, Bool.false_or, Bool.or_false, Bool.false_and, Bool.and_false, bne_self_eq_false, beq_self_eq_true] at hc; done))
    | refine run_block ?_
    | refine run_ret ?_
    | refine run_nil ?_
    | refine run_exit ?_
    | refine blk_normal ?_
    | refine blk_ret ?_
    | refine blk_here ?_
    | refine blk_there rfl ?_
    | refine loop_exit ?_
    | refine loop_ret ?_
    | refine un_exit ?_
    | refine un_ret ?_
    | refine unE_exit ?_
    | refine unE_ret ?_
    | refine un_normal ?_)
  all_goals subst hR

  exact end_run1 (setHost s (s.ops s.at_.toNat).d g.value) rfl rfl rfl rfl rfl rfl ⟨rfl, rfl⟩

theorem con35 (s : RunS) (g : GotS) : Con Try.prog 35 [me, .agg (gotL g)] (runH s) (fun v H' => v = AV.c (CV.bool (g.fault == 0)) ∧ H' = runH (s)) := by
  (refine con_of_run mixed (fn := Try.f35) (by kernel_rfl) (by kernel_rfl) C35_ok (rs := [.tmp 4]) (by kernel_rfl) (Nat.le_of_ble_eq_true (by kernel_rfl)) ?_; unfold C35; simp only [initT, Nat.reduceAdd])
  generalize hR : (fun (v : AV) (H' : Heap) => v = AV.c (CV.bool (g.fault == 0)) ∧ H' = runH (s)) = R
  simp only [me, runH, runB, runL, opsB, slotB, gotL]
  repeat' (first
    | refine run_seq ?_
    | refine run_skip ?_
    | (refine run_region fun K hK => ?_; (try (simp (maxSteps := 10000000) only [microL, C35r0, C35r1, rwp_nil, rwp_cons, rwpK_app, aop, gpath, St.get, slotAt, sfx, eqP, segsOf, St.put, addBlk, getB, setB, delB, ld1, ldn, st1, stn, setRow, rowNeed, segAt, nsub, bin, un, eqB, isShift, sameK, arith, shiftR, getsl, selB_or, selB_and, beqb, shed, addN, Nat.beq, Seg.size, sizes, imp, needP, andN, appL, argsOf, ptrsOf, aasOf, cut, takeS, dropS, putS, partsOf, fillS, fieldOf, nthA, negIf, nilq, nilB, eqS, eqF, eqS1, andP, kin, slcS, strOk, plusA, bndHi, leN, optG, roH, roL, initT, exOk, exAll, wrAddr, Nat.reduceAdd, Nat.reduceSub, Nat.reduceMul, Int.reduceToNat, List.append_nil, List.nil_append, List.cons_append, eqT, idxT, cat, cpy, ite_int, ite_bool, ite_seg, ite_segs, ite_nil, ite_twice, Int.toNat_natCast, app, addBs])); (repeat (first | (refine And.intro ?_ ?_; · first | trivial | assumption | omega))); with_reducible refine hK _ ?_; clear hK K)
    | (refine run_cond rfl (fun hc => ?_) (fun hc => ?_) <;> try (simp only [*, Bool.true_eq_false, Bool.false_eq_true, Bool.not_true, Bool.not_false, Bool.true_or, Bool.or_true, Bool.false_or, Bool.or_false, Bool.false_and, Bool.and_false, bne_self_eq_false, beq_self_eq_true] at hc; done))
    | refine run_block ?_
    | refine run_ret ?_
    | refine run_nil ?_
    | refine run_exit ?_
    | refine blk_normal ?_
    | refine blk_ret ?_
    | refine blk_here ?_
    | refine blk_there rfl ?_
    | refine loop_exit ?_
    | refine loop_ret ?_
    | refine un_exit ?_
    | refine un_ret ?_
    | refine unE_exit ?_
    | refine unE_ret ?_
    | refine un_normal ?_)
  all_goals subst hR

  exact end_run1 s rfl rfl rfl rfl rfl rfl ⟨rfl, rfl⟩

theorem con37 (s : RunS) (g : GotS) : Con Try.prog 37 [me, .agg (gotL g)] (runH s) (fun v H' => v = AV.c (CV.bool true) ∧ H' = runH (s)) := by
  (refine con_of_run mixed (fn := Try.f37) (by kernel_rfl) (by kernel_rfl) C37_ok (rs := [.tmp 4]) (by kernel_rfl) (Nat.le_of_ble_eq_true (by kernel_rfl)) ?_; unfold C37; simp only [initT, Nat.reduceAdd])
  generalize hR : (fun (v : AV) (H' : Heap) => v = AV.c (CV.bool true) ∧ H' = runH (s)) = R
  simp only [me, runH, runB, runL, opsB, slotB, gotL]
  repeat' (first
    | refine run_seq ?_
    | refine run_skip ?_
    | (refine run_region fun K hK => ?_; (try (simp (maxSteps := 10000000) only [microL, C37r0, C37r1, rwp_nil, rwp_cons, rwpK_app, aop, gpath, St.get, slotAt, sfx, eqP, segsOf, St.put, addBlk, getB, setB, delB, ld1, ldn, st1, stn, setRow, rowNeed, segAt, nsub, bin, un, eqB, isShift, sameK, arith, shiftR, getsl, selB_or, selB_and, beqb, shed, addN, Nat.beq, Seg.size, sizes, imp, needP, andN, appL, argsOf, ptrsOf, aasOf, cut, takeS, dropS, putS, partsOf, fillS, fieldOf, nthA, negIf, nilq, nilB, eqS, eqF, eqS1, andP, kin, slcS, strOk, plusA, bndHi, leN, optG, roH, roL, initT, exOk, exAll, wrAddr, Nat.reduceAdd, Nat.reduceSub, Nat.reduceMul, Int.reduceToNat, List.append_nil, List.nil_append, List.cons_append, eqT, idxT, cat, cpy, ite_int, ite_bool, ite_seg, ite_segs, ite_nil, ite_twice, Int.toNat_natCast, app, addBs])); (repeat (first | (refine And.intro ?_ ?_; · first | trivial | assumption | omega))); with_reducible refine hK _ ?_; clear hK K)
    | (refine run_cond rfl (fun hc => ?_) (fun hc => ?_) <;> try (simp only [*, Bool.true_eq_false, Bool.false_eq_true, Bool.not_true, Bool.not_false, Bool.true_or, Bool.or_true, Bool.false_or, Bool.or_false, Bool.false_and, Bool.and_false, bne_self_eq_false, beq_self_eq_true] at hc; done))
    | refine run_block ?_
    | refine run_ret ?_
    | refine run_nil ?_
    | refine run_exit ?_
    | refine blk_normal ?_
    | refine blk_ret ?_
    | refine blk_here ?_
    | refine blk_there rfl ?_
    | refine loop_exit ?_
    | refine loop_ret ?_
    | refine un_exit ?_
    | refine un_ret ?_
    | refine unE_exit ?_
    | refine unE_ret ?_
    | refine un_normal ?_)
  all_goals subst hR

  exact end_run1 s rfl rfl rfl rfl rfl rfl ⟨rfl, rfl⟩

theorem con36 (s : RunS) (g : GotS) (ha : 0 ≤ s.at_) (hn : s.at_ < s.nops) (hd : 0 ≤ (s.ops s.at_.toNat).d) (hd8 : (s.ops s.at_.toNat).d < 8) : Con Try.prog 36 [me, .agg (gotL g)] (runH s) (fun v H' => v = AV.c (CV.bool (g.fault == 0)) ∧ H' = runH (setHost s (s.ops s.at_.toNat).d (match g.ok with | true => 0 | false => 1))) := by
  (refine con_of_run mixed (fn := Try.f36) (by kernel_rfl) (by kernel_rfl) C36_ok (rs := [.tmp 4]) (by kernel_rfl) (Nat.le_of_ble_eq_true (by kernel_rfl)) ?_; unfold C36; simp only [initT, Nat.reduceAdd])
  generalize hR : (fun (v : AV) (H' : Heap) => v = AV.c (CV.bool (g.fault == 0)) ∧ H' = runH (setHost s (s.ops s.at_.toNat).d (match g.ok with | true => 0 | false => 1))) = R
  simp only [me, runH, runB, runL, opsB, slotB, gotL]
  repeat' (first
    | refine run_seq ?_
    | refine run_skip ?_
    | (refine run_region fun K hK => ?_; (try (simp (maxSteps := 10000000) only [microL, C36r0, C36r1, C36r2, C36r3, C36r4, C36r5, rwp_nil, rwp_cons, rwpK_app, aop, gpath, St.get, slotAt, sfx, eqP, segsOf, St.put, addBlk, getB, setB, delB, ld1, ldn, st1, stn, setRow, rowNeed, segAt, nsub, bin, un, eqB, isShift, sameK, arith, shiftR, getsl, selB_or, selB_and, beqb, shed, addN, Nat.beq, Seg.size, sizes, imp, needP, andN, appL, argsOf, ptrsOf, aasOf, cut, takeS, dropS, putS, partsOf, fillS, fieldOf, nthA, negIf, nilq, nilB, eqS, eqF, eqS1, andP, kin, slcS, strOk, plusA, bndHi, leN, optG, roH, roL, initT, exOk, exAll, wrAddr, Nat.reduceAdd, Nat.reduceSub, Nat.reduceMul, Int.reduceToNat, List.append_nil, List.nil_append, List.cons_append, eqT, idxT, cat, cpy, ite_int, ite_bool, ite_seg, ite_segs, ite_nil, ite_twice, Int.toNat_natCast, app, addBs])); (repeat (first | (refine And.intro ?_ ?_; · first | trivial | assumption | omega))); with_reducible refine hK _ ?_; clear hK K)
    | (refine run_cond rfl (fun hc => ?_) (fun hc => ?_) <;> try (simp only [*, Bool.true_eq_false, Bool.false_eq_true, Bool.not_true, Bool.not_false, Bool.true_or, Bool.or_true, Bool.false_or, Bool.or_false, Bool.false_and, Bool.and_false, bne_self_eq_false, beq_self_eq_true] at hc; done))
    | refine run_block ?_
    | refine run_ret ?_
    | refine run_nil ?_
    | refine run_exit ?_
    | refine blk_normal ?_
    | refine blk_ret ?_
    | refine blk_here ?_
    | refine blk_there rfl ?_
    | refine loop_exit ?_
    | refine loop_ret ?_
    | refine un_exit ?_
    | refine un_ret ?_
    | refine unE_exit ?_
    | refine unE_ret ?_
    | refine un_normal ?_)
  all_goals subst hR

  all_goals exact end_run1 (setHost s (s.ops s.at_.toNat).d (match g.ok with | true => 0 | false => 1)) rfl (by rw [hc]; rfl) rfl rfl rfl rfl ⟨rfl, rfl⟩

theorem con38_0 (s : RunS) : Con Try.prog 38 [me, .c (.int .i64 0)] (runH s) (fun v H' => v = .c (.ptr ⟨0, 0, 39, 0⟩) ∧ H' = runH s) := by
  (refine con_of_run mixed (fn := Try.f38) (by kernel_rfl) (by kernel_rfl) C38_ok (rs := [.tmp 4]) (by kernel_rfl) (Nat.le_of_ble_eq_true (by kernel_rfl)) ?_; unfold C38; simp only [initT, Nat.reduceAdd])
  generalize hR : (fun (v : AV) (H' : Heap) => v = AV.c (CV.ptr ⟨0, 0, 39, 0⟩) ∧ H' = runH s) = R
  simp only [me, runH, runB, runL, opsB, slotB]
  repeat' (first
    | refine run_seq ?_
    | refine run_skip ?_
    | (refine run_region fun K hK => ?_; (try (simp (maxSteps := 10000000) only [rowsFit, rowFn, cutD, C38r0, C38r1, rwp_nil, rwp_cons, rwpK_app, aop, gpath, St.get, slotAt, sfx, eqP, segsOf, St.put, addBlk, getB, setB, delB, ld1, ldn, st1, stn, setRow, rowNeed, segAt, nsub, bin, un, eqB, isShift, sameK, arith, shiftR, getsl, selB_or, selB_and, beqb, shed, addN, Nat.beq, Seg.size, sizes, imp, needP, andN, appL, argsOf, ptrsOf, aasOf, cut, takeS, dropS, putS, partsOf, fillS, fieldOf, nthA, negIf, nilq, nilB, eqS, eqF, eqS1, andP, kin, slcS, strOk, plusA, bndHi, leN, optG, roH, roL, initT, exOk, exAll, wrAddr, Nat.reduceAdd, Nat.reduceSub, Nat.reduceMul, Int.reduceToNat, List.append_nil, List.nil_append, List.cons_append, eqT, idxT, cat, cpy, ite_int, ite_bool, ite_seg, ite_segs, ite_nil, ite_twice, Int.toNat_natCast, app, addBs])); (repeat (first | (refine And.intro ?_ ?_; · first | trivial | assumption | omega))); with_reducible refine hK _ ?_; clear hK K)
    | (refine run_cond rfl (fun hc => ?_) (fun hc => ?_) <;> try (simp only [*, Bool.true_eq_false, Bool.false_eq_true, Bool.not_true, Bool.not_false, Bool.true_or, Bool.or_true, Bool.false_or, Bool.or_false, Bool.false_and, Bool.and_false, bne_self_eq_false, beq_self_eq_true] at hc; done))
    | refine run_block ?_
    | refine run_ret ?_
    | refine run_nil ?_
    | refine run_exit ?_
    | refine blk_normal ?_
    | refine blk_ret ?_
    | refine blk_here ?_
    | refine blk_there rfl ?_
    | refine loop_exit ?_
    | refine loop_ret ?_
    | refine un_exit ?_
    | refine un_ret ?_
    | refine unE_exit ?_
    | refine unE_ret ?_
    | refine un_normal ?_)
  subst hR
  exact end_run1 s rfl rfl rfl rfl (leA3 _) rfl ⟨rfl, rfl⟩

theorem con38_1 (s : RunS) : Con Try.prog 38 [me, .c (.int .i64 1)] (runH s) (fun v H' => v = .c (.ptr ⟨0, 0, 40, 0⟩) ∧ H' = runH s) := by
  (refine con_of_run mixed (fn := Try.f38) (by kernel_rfl) (by kernel_rfl) C38_ok (rs := [.tmp 4]) (by kernel_rfl) (Nat.le_of_ble_eq_true (by kernel_rfl)) ?_; unfold C38; simp only [initT, Nat.reduceAdd])
  generalize hR : (fun (v : AV) (H' : Heap) => v = AV.c (CV.ptr ⟨0, 0, 40, 0⟩) ∧ H' = runH s) = R
  simp only [me, runH, runB, runL, opsB, slotB]
  repeat' (first
    | refine run_seq ?_
    | refine run_skip ?_
    | (refine run_region fun K hK => ?_; (try (simp (maxSteps := 10000000) only [rowsFit, rowFn, cutD, C38r0, C38r1, rwp_nil, rwp_cons, rwpK_app, aop, gpath, St.get, slotAt, sfx, eqP, segsOf, St.put, addBlk, getB, setB, delB, ld1, ldn, st1, stn, setRow, rowNeed, segAt, nsub, bin, un, eqB, isShift, sameK, arith, shiftR, getsl, selB_or, selB_and, beqb, shed, addN, Nat.beq, Seg.size, sizes, imp, needP, andN, appL, argsOf, ptrsOf, aasOf, cut, takeS, dropS, putS, partsOf, fillS, fieldOf, nthA, negIf, nilq, nilB, eqS, eqF, eqS1, andP, kin, slcS, strOk, plusA, bndHi, leN, optG, roH, roL, initT, exOk, exAll, wrAddr, Nat.reduceAdd, Nat.reduceSub, Nat.reduceMul, Int.reduceToNat, List.append_nil, List.nil_append, List.cons_append, eqT, idxT, cat, cpy, ite_int, ite_bool, ite_seg, ite_segs, ite_nil, ite_twice, Int.toNat_natCast, app, addBs])); (repeat (first | (refine And.intro ?_ ?_; · first | trivial | assumption | omega))); with_reducible refine hK _ ?_; clear hK K)
    | (refine run_cond rfl (fun hc => ?_) (fun hc => ?_) <;> try (simp only [*, Bool.true_eq_false, Bool.false_eq_true, Bool.not_true, Bool.not_false, Bool.true_or, Bool.or_true, Bool.false_or, Bool.or_false, Bool.false_and, Bool.and_false, bne_self_eq_false, beq_self_eq_true] at hc; done))
    | refine run_block ?_
    | refine run_ret ?_
    | refine run_nil ?_
    | refine run_exit ?_
    | refine blk_normal ?_
    | refine blk_ret ?_
    | refine blk_here ?_
    | refine blk_there rfl ?_
    | refine loop_exit ?_
    | refine loop_ret ?_
    | refine un_exit ?_
    | refine un_ret ?_
    | refine unE_exit ?_
    | refine unE_ret ?_
    | refine un_normal ?_)
  subst hR
  exact end_run1 s rfl rfl rfl rfl (leA3 _) rfl ⟨rfl, rfl⟩

theorem con38_2 (s : RunS) : Con Try.prog 38 [me, .c (.int .i64 2)] (runH s) (fun v H' => v = .c (.ptr ⟨0, 0, 41, 0⟩) ∧ H' = runH s) := by
  (refine con_of_run mixed (fn := Try.f38) (by kernel_rfl) (by kernel_rfl) C38_ok (rs := [.tmp 4]) (by kernel_rfl) (Nat.le_of_ble_eq_true (by kernel_rfl)) ?_; unfold C38; simp only [initT, Nat.reduceAdd])
  generalize hR : (fun (v : AV) (H' : Heap) => v = AV.c (CV.ptr ⟨0, 0, 41, 0⟩) ∧ H' = runH s) = R
  simp only [me, runH, runB, runL, opsB, slotB]
  repeat' (first
    | refine run_seq ?_
    | refine run_skip ?_
    | (refine run_region fun K hK => ?_; (try (simp (maxSteps := 10000000) only [rowsFit, rowFn, cutD, C38r0, C38r1, rwp_nil, rwp_cons, rwpK_app, aop, gpath, St.get, slotAt, sfx, eqP, segsOf, St.put, addBlk, getB, setB, delB, ld1, ldn, st1, stn, setRow, rowNeed, segAt, nsub, bin, un, eqB, isShift, sameK, arith, shiftR, getsl, selB_or, selB_and, beqb, shed, addN, Nat.beq, Seg.size, sizes, imp, needP, andN, appL, argsOf, ptrsOf, aasOf, cut, takeS, dropS, putS, partsOf, fillS, fieldOf, nthA, negIf, nilq, nilB, eqS, eqF, eqS1, andP, kin, slcS, strOk, plusA, bndHi, leN, optG, roH, roL, initT, exOk, exAll, wrAddr, Nat.reduceAdd, Nat.reduceSub, Nat.reduceMul, Int.reduceToNat, List.append_nil, List.nil_append, List.cons_append, eqT, idxT, cat, cpy, ite_int, ite_bool, ite_seg, ite_segs, ite_nil, ite_twice, Int.toNat_natCast, app, addBs])); (repeat (first | (refine And.intro ?_ ?_; · first | trivial | assumption | omega))); with_reducible refine hK _ ?_; clear hK K)
    | (refine run_cond rfl (fun hc => ?_) (fun hc => ?_) <;> try (simp only [*, Bool.true_eq_false, Bool.false_eq_true, Bool.not_true, Bool.not_false, Bool.true_or, Bool.or_true, Bool.false_or, Bool.or_false, Bool.false_and, Bool.and_false, bne_self_eq_false, beq_self_eq_true] at hc; done))
    | refine run_block ?_
    | refine run_ret ?_
    | refine run_nil ?_
    | refine run_exit ?_
    | refine blk_normal ?_
    | refine blk_ret ?_
    | refine blk_here ?_
    | refine blk_there rfl ?_
    | refine loop_exit ?_
    | refine loop_ret ?_
    | refine un_exit ?_
    | refine un_ret ?_
    | refine unE_exit ?_
    | refine unE_ret ?_
    | refine un_normal ?_)
  subst hR
  exact end_run1 s rfl rfl rfl rfl (leA3 _) rfl ⟨rfl, rfl⟩

theorem con38_3 (s : RunS) : Con Try.prog 38 [me, .c (.int .i64 3)] (runH s) (fun v H' => v = .c (.ptr ⟨0, 0, 42, 0⟩) ∧ H' = runH s) := by
  (refine con_of_run mixed (fn := Try.f38) (by kernel_rfl) (by kernel_rfl) C38_ok (rs := [.tmp 4]) (by kernel_rfl) (Nat.le_of_ble_eq_true (by kernel_rfl)) ?_; unfold C38; simp only [initT, Nat.reduceAdd])
  generalize hR : (fun (v : AV) (H' : Heap) => v = AV.c (CV.ptr ⟨0, 0, 42, 0⟩) ∧ H' = runH s) = R
  simp only [me, runH, runB, runL, opsB, slotB]
  repeat' (first
    | refine run_seq ?_
    | refine run_skip ?_
    | (refine run_region fun K hK => ?_; (try (simp (maxSteps := 10000000) only [rowsFit, rowFn, cutD, C38r0, C38r1, rwp_nil, rwp_cons, rwpK_app, aop, gpath, St.get, slotAt, sfx, eqP, segsOf, St.put, addBlk, getB, setB, delB, ld1, ldn, st1, stn, setRow, rowNeed, segAt, nsub, bin, un, eqB, isShift, sameK, arith, shiftR, getsl, selB_or, selB_and, beqb, shed, addN, Nat.beq, Seg.size, sizes, imp, needP, andN, appL, argsOf, ptrsOf, aasOf, cut, takeS, dropS, putS, partsOf, fillS, fieldOf, nthA, negIf, nilq, nilB, eqS, eqF, eqS1, andP, kin, slcS, strOk, plusA, bndHi, leN, optG, roH, roL, initT, exOk, exAll, wrAddr, Nat.reduceAdd, Nat.reduceSub, Nat.reduceMul, Int.reduceToNat, List.append_nil, List.nil_append, List.cons_append, eqT, idxT, cat, cpy, ite_int, ite_bool, ite_seg, ite_segs, ite_nil, ite_twice, Int.toNat_natCast, app, addBs])); (repeat (first | (refine And.intro ?_ ?_; · first | trivial | assumption | omega))); with_reducible refine hK _ ?_; clear hK K)
    | (refine run_cond rfl (fun hc => ?_) (fun hc => ?_) <;> try (simp only [*, Bool.true_eq_false, Bool.false_eq_true, Bool.not_true, Bool.not_false, Bool.true_or, Bool.or_true, Bool.false_or, Bool.or_false, Bool.false_and, Bool.and_false, bne_self_eq_false, beq_self_eq_true] at hc; done))
    | refine run_block ?_
    | refine run_ret ?_
    | refine run_nil ?_
    | refine run_exit ?_
    | refine blk_normal ?_
    | refine blk_ret ?_
    | refine blk_here ?_
    | refine blk_there rfl ?_
    | refine loop_exit ?_
    | refine loop_ret ?_
    | refine un_exit ?_
    | refine un_ret ?_
    | refine unE_exit ?_
    | refine unE_ret ?_
    | refine un_normal ?_)
  subst hR
  exact end_run1 s rfl rfl rfl rfl (leA3 _) rfl ⟨rfl, rfl⟩

end Go.Proofs.Yteikpddilabppaa