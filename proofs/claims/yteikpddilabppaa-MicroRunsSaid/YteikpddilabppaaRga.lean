/- the reference of chapter 22: its run's heap, the methods that reach little. -/
import Derived.Test.YteikpddilabppaaRfe
import Derived.Test.YteikpddilabppaaEnd
namespace Go.Proofs.Yteikpddilabppaa
open Go.AM
set_option maxRecDepth 100000
set_option linter.unusedSimpArgs false
set_option linter.unusedVariables false
/-- The reference's run, of the same state; 'W': what it holds as wanted. -/
def refLa (j k : Nat) (s : RunS) (W : WantS) : List Seg := [.c (.int .u64 s.pc), .c (.int .i64 s.words), .c (.int .i64 s.el), .c (.int .i64 s.slots), .c (.slice ⟨j, 0, 0, 0⟩ false s.nops),
  .a 31 (fun i => .int .u64 (s.core.x i)), .a 2 (fun i => .int .u64 (s.core.sp i)), .c (.int .u64 s.core.pc), .c (.bool s.core.n), .c (.bool s.core.z), .c (.bool s.core.c), .c (.bool s.core.v), .c (.int .i64 s.core.el), .c (.bool s.core.mask),
  .c (.int .u64 s.core.q0), .c (.int .u64 s.core.q1), .c (.int .u64 s.core.q2), .c (.int .u64 s.core.q3), .c (.int .u64 s.core.q4), .c (.int .u64 s.core.q5), .c (.int .i64 s.core.id), .c (.int .i64 s.core.wait), .c (.bool s.core.last),
  .a 8 (fun i => .int .u64 (s.host i)), .c (.slice ⟨k, 0, 0, 0⟩ false s.nslots), .c (.int .i64 s.at_), .c (.bool (!isN s.waits)),
  .c (.int .i64 W.kind), .c (.int .u64 W.addr), .c (.int .u64 W.value), .c (.int .i64 W.acq), .c (.bool W.rel), .c (.int .i64 W.w5), .c (.bool W.w6), .c (.int .i64 W.w7), .c (.int .i64 W.w8), .c (.int .i64 W.w9),
  .c (.bool s.left), .c (.bool s.faulted), .c (.int .u64 s.guest), .c (.bool s.isGuest), .c (.int .i64 s.steps)]
def refB (j k : Nat) (s : RunS) (W : WantS) : Blk := ⟨80, none, fun _ => refLa j k s W, 51, true⟩
def opsR (s : RunS) : Blk := ⟨7, some s.nops, fun i => microL (s.ops i), 34, false⟩
def refH (s : RunS) (W : WantS) : Heap := ⟨3, [(0, refB 1 2 s W), (1, opsR s), (2, slotB s)]⟩
theorem ref_le {l : List Nat} {j k j' k' : Nat} (hj : nthO l j' = some j) (hk : nthO l k' = some k) (s : RunS) (W : WantS) : leB l (refB j k s W) (refB j' k' s W) := by
  refine ⟨rfl, rfl, id, Nat.le_refl _, fun i _ => ?_⟩
  simp only [refB, refLa, leSegs, leSeg, leC, leA, hj, hk, and_self, implies_true]
theorem opsR_le {l : List Nat} (s : RunS) (w : Bool) : leB l ⟨7, some s.nops, fun i => microL (s.ops i), 34, w⟩ (opsR s) := by
  refine ⟨rfl, rfl, fun h => (by cases h), Nat.le_refl _, fun i _ => ?_⟩
  simp only [opsR, microL, leSegs, leSeg, leC, and_self]
theorem le_refH {l : List Slot} {H : Heap} {s : RunS} {W : WantS} (h0 : getB H.blks 0 = some (refB 1 2 s W)) (h1 : getB H.blks 1 = some (opsR s)) (h2 : getB H.blks 2 = some (slotB s))
    {r : List Slot} (hr : slotsLe [0, 1, 2] l r) : LeS 3 ⟨l, H⟩ ⟨r, refH s W⟩ := by
  refine LeS.intro [0, 1, 2] ids3 diff3 rfl hr ?_
  simp only [refH, leBlks, nthO, h0, h1, h2]
  exact ⟨ref_le rfl rfl s W, opsR_le s _, slot_le s, trivial⟩
theorem end_ref0 {l : List Slot} {H : Heap} {R : Post} {e : AEx} (he : ∀ i, e ≠ .exit i) (s : RunS) (W : WantS) (h0 : getB H.blks 0 = some (refB 1 2 s W)) (h1 : getB H.blks 1 = some (opsR s)) (h2 : getB H.blks 2 = some (slotB s)) (hR : R (.tup []) (refH s W)) : endQ (LeS 3) [] R e ⟨l, H⟩ := by
  cases e with
  | exit i => exact absurd rfl (he i)
  | normal => exact end_of' ⟨[], refH s W⟩ (le_refH h0 h1 h2 trivial) hR
  | ret => exact end_of ⟨[], refH s W⟩ (le_refH h0 h1 h2 trivial) hR
theorem end_ref1 {l : List Slot} {H : Heap} {R : Post} {t : Nat} {v : AV} (s : RunS) (W : WantS) (hv : slotAt l t = some ⟨t, [], v⟩) (h0 : getB H.blks 0 = some (refB 1 2 s W)) (h1 : getB H.blks 1 = some (opsR s)) (h2 : getB H.blks 2 = some (slotB s)) (hid : leV [0, 1, 2] v v) (hn : noTup v = true) (hR : R v (refH s W)) : endQ (LeS 3) [.tmp t] R .ret ⟨l, H⟩ := by
  refine end_of ⟨[⟨t, [], v⟩], refH s W⟩ (le_refH h0 h1 h2 (slotsOf hv hid trivial)) ?_
  have hg : St.get ⟨[⟨t, [], v⟩], refH s W⟩ [] (.t t) = v := by simp [St.get, slotAt, Nat.beq_refl, sfx, eqP]
  simp only [endF, resL, resA, hg, hn, resV]
  exact hR
/-- A method's contract where more is named. -/
theorem ref_frame {f : FuncId} {args : List AV} {s s' : RunS} {W W' : WantS} {V : AV} (h : Con Try.prog f args (refH s W) (fun v H' => v = V ∧ H' = refH s' W')) (ha : leArgs [0, 1, 2] args args) (X : List (Nat × Blk)) (n : Nat) (hX : allBe 3 n (keysB X) = true) (hn : 3 ≤ n) (hx : ∀ i, i < 3 → getB X i = none) :
    Con Try.prog f args ⟨n, appX X (refH s W).blks⟩ (fun v H' => v = V ∧ H' = ⟨n, appX X (refH s' W').blks⟩) := by
  refine (h.frameN [0, 1, 2] rfl ids3 X n (fun v H' hv => by rw [hv.2]; exact ⟨rfl, rfl⟩) hX rfl hn ?_ ha).weaken ?_
  · have g0 : getB (appX X (refH s W).blks) 0 = some (refB 1 2 s W) := by rw [getB_appX, hx 0 (by omega)]; rfl
    have g1 : getB (appX X (refH s W).blks) 1 = some (opsR s) := by rw [getB_appX, hx 1 (by omega)]; rfl
    have g2 : getB (appX X (refH s W).blks) 2 = some (slotB s) := by rw [getB_appX, hx 2 (by omega)]; rfl
    generalize hL : appX X (refH s W).blks = L at g0 g1 g2 ⊢
    simp only [refH, leBlks, nthO, g0, g1, g2]
    exact ⟨ref_le rfl rfl s W, opsR_le s _, slot_le s, trivial⟩
  · rintro v H' ⟨H0', ⟨rfl, rfl⟩, rfl⟩
    exact ⟨rfl, rfl⟩
theorem ref_frame1 {f : FuncId} {args : List AV} {s s' : RunS} {W W' : WantS} {V : AV} (h : Con Try.prog f args (refH s W) (fun v H' => v = V ∧ H' = refH s' W')) (ha : leArgs [0, 1, 2] args args) {B : Blk} :
    Con Try.prog f args ⟨4, (3, B) :: (refH s W).blks⟩ (fun v H' => v = V ∧ H' = ⟨4, (3, B) :: (refH s' W').blks⟩) :=
  ref_frame h ha [(3, B)] 4 rfl (by decide) (fun i hi => by
    match i, hi with
    | 0, _ => rfl
    | 1, _ => rfl
    | 2, _ => rfl)
theorem ref_frame2 {f : FuncId} {args : List AV} {s s' : RunS} {W W' : WantS} {V : AV} (h : Con Try.prog f args (refH s W) (fun v H' => v = V ∧ H' = refH s' W')) (ha : leArgs [0, 1, 2] args args) {B C : Blk} :
    Con Try.prog f args ⟨5, (4, B) :: (3, C) :: (refH s W).blks⟩ (fun v H' => v = V ∧ H' = ⟨5, (4, B) :: (3, C) :: (refH s' W').blks⟩) :=
  ref_frame h ha [(4, B), (3, C)] 5 rfl (by decide) (fun i hi => by
    match i, hi with
    | 0, _ => rfl
    | 1, _ => rfl
    | 2, _ => rfl)
theorem con42 (s : RunS) (W w : WantS) (k : WaitK) (hk : isN k = false) : Con Try.prog 42 [me, .agg (wantL w)] (refH s W) (fun v H' => v = .tup [] ∧ H' = refH { s with want := w, waits := k } w) := by
  cases k with
  | none => cases hk
  | _ =>
    clear hk
    (refine con_of_run mixed (fn := Try.f42) (by kernel_rfl) (by kernel_rfl) C42_ok (rs := []) (by kernel_rfl) (Nat.le_of_ble_eq_true (by kernel_rfl)) ?_; unfold C42; simp only [initT, Nat.reduceAdd])
    simp only [me, refH, refB, refLa, opsR, slotB, wantL]
    repeat' (first
    | refine run_seq ?_
    | refine run_skip ?_
    | (refine run_region fun K hK => ?_; (try (simp (maxSteps := 10000000) only [C42r0, C42r1, C42r2, rwp_nil, rwp_cons, rwpK_app, aop, gpath, St.get, slotAt, sfx, eqP, segsOf, St.put, addBlk, getB, setB, delB, ld1, ldn, st1, stn, setRow, rowNeed, segAt, nsub, bin, un, eqB, isShift, sameK, arith, shiftR, getsl, selB_or, selB_and, beqb, shed, addN, Nat.beq, Seg.size, sizes, imp, needP, andN, appL, argsOf, ptrsOf, aasOf, cut, takeS, dropS, putS, partsOf, fillS, fieldOf, nthA, negIf, nilq, nilB, eqS, eqF, eqS1, andP, kin, slcS, strOk, plusA, bndHi, leN, optG, roH, roL, initT, exOk, exAll, wrAddr, Nat.reduceAdd, Nat.reduceSub, Nat.reduceMul, Int.reduceToNat, List.append_nil, List.nil_append, List.cons_append, eqT, idxT, cat, cpy, ite_int, ite_bool, ite_seg, ite_segs, ite_nil, ite_twice, Int.toNat_natCast, app, addBs])); (repeat (first | (refine And.intro ?_ ?_; · first | trivial | assumption | omega))); with_reducible refine hK _ ?_; clear hK K)
    | (refine run_cond rfl (fun hc => ?_) (fun hc => ?_) <;> try (simp only [*, Bool.true_eq_false, Bool.false_eq_true, Bool.not_true, Bool.not_false, Bool.true_or, Bool.or_true, Bool.false_or, Bool.or_false, Bool.false_and, Bool.and_false, bne_self_eq_false, beq_self_eq_true] at hc; done))
    | refine run_block ?_
    | refine run_ret ?_
    | refine run_nil ?_
    | refine run_exit ?_
    | refine blk_normal ?_
    | refine blk_ret ?_
    | refine blk_here ?_
    | refine blk_there rfl ?_
    | refine loop_exit ?_
    | refine loop_ret ?_
    | refine un_exit ?_
    | refine un_ret ?_
    | refine unE_exit ?_
    | refine unE_ret ?_
    | refine un_normal ?_)
    exact end_ref0 nofun { s with want := w, waits := _ } w rfl rfl rfl ⟨rfl, rfl⟩
theorem con45 (s : RunS) (W : WantS) (pc : Int) : Con Try.prog 45 [me, .c (.int .u64 pc)] (refH s W) (fun v H' => v = .tup [] ∧ H' = refH (leaveS s pc) W) := by
  (refine con_of_run mixed (fn := Try.f45) (by kernel_rfl) (by kernel_rfl) C45_ok (rs := []) (by kernel_rfl) (Nat.le_of_ble_eq_true (by kernel_rfl)) ?_; unfold C45; simp only [initT, Nat.reduceAdd])
  simp only [me, refH, refB, refLa, opsR, slotB]
  repeat' (first
    | refine run_seq ?_
    | refine run_skip ?_
    | (refine run_region fun K hK => ?_; (try (simp (maxSteps := 10000000) only [C45r0, C45r1, rwp_nil, rwp_cons, rwpK_app, aop, gpath, St.get, slotAt, sfx, eqP, segsOf, St.put, addBlk, getB, setB, delB, ld1, ldn, st1, stn, setRow, rowNeed, segAt, nsub, bin, un, eqB, isShift, sameK, arith, shiftR, getsl, selB_or, selB_and, beqb, shed, addN, Nat.beq, Seg.size, sizes, imp, needP, andN, appL, argsOf, ptrsOf, aasOf, cut, takeS, dropS, putS, partsOf, fillS, fieldOf, nthA, negIf, nilq, nilB, eqS, eqF, eqS1, andP, kin, slcS, strOk, plusA, bndHi, leN, optG, roH, roL, initT, exOk, exAll, wrAddr, Nat.reduceAdd, Nat.reduceSub, Nat.reduceMul, Int.reduceToNat, List.append_nil, List.nil_append, List.cons_append, eqT, idxT, cat, cpy, ite_int, ite_bool, ite_seg, ite_segs, ite_nil, ite_twice, Int.toNat_natCast, app, addBs])); (repeat (first | (refine And.intro ?_ ?_; · first | trivial | assumption | omega))); with_reducible refine hK _ ?_; clear hK K)
    | (refine run_cond rfl (fun hc => ?_) (fun hc => ?_) <;> try (simp only [*, Bool.true_eq_false, Bool.false_eq_true, Bool.not_true, Bool.not_false, Bool.true_or, Bool.or_true, Bool.false_or, Bool.or_false, Bool.false_and, Bool.and_false, bne_self_eq_false, beq_self_eq_true] at hc; done))
    | refine run_block ?_
    | refine run_ret ?_
    | refine run_nil ?_
    | refine run_exit ?_
    | refine blk_normal ?_
    | refine blk_ret ?_
    | refine blk_here ?_
    | refine blk_there rfl ?_
    | refine loop_exit ?_
    | refine loop_ret ?_
    | refine un_exit ?_
    | refine un_ret ?_
    | refine unE_exit ?_
    | refine unE_ret ?_
    | refine un_normal ?_)
  exact end_ref0 nofun (leaveS s pc) W rfl rfl rfl ⟨rfl, rfl⟩
theorem con43 (s : RunS) (W : WantS) (r : Int) (b : Bool) : Con Try.prog 43 [me, .c (.int .i64 r), .c (.bool b)] (refH s W) (fun v H' => v = .tup [] ∧ H' = refH (flagSet s r b) W) := by
  (refine con_of_run mixed (fn := Try.f43) (by kernel_rfl) (by kernel_rfl) C43_ok (rs := []) (by kernel_rfl) (Nat.le_of_ble_eq_true (by kernel_rfl)) ?_; unfold C43; simp only [initT, Nat.reduceAdd])
  generalize hR : (fun (v : AV) (H' : Heap) => v = AV.tup [] ∧ H' = refH (flagSet s r b) W) = R
  simp only [me, refH, refB, refLa, opsR, slotB]
  repeat' (first
    | refine run_seq ?_
    | refine run_skip ?_
    | (refine run_region fun K hK => ?_; (try (simp (maxSteps := 10000000) only [C43r0, C43r1, C43r2, C43r3, C43r4, C43r5, C43r6, C43r7, rwp_nil, rwp_cons, rwpK_app, aop, gpath, St.get, slotAt, sfx, eqP, segsOf, St.put, addBlk, getB, setB, delB, ld1, ldn, st1, stn, setRow, rowNeed, segAt, nsub, bin, un, eqB, isShift, sameK, arith, shiftR, getsl, selB_or, selB_and, beqb, shed, addN, Nat.beq, Seg.size, sizes, imp, needP, andN, appL, argsOf, ptrsOf, aasOf, cut, takeS, dropS, putS, partsOf, fillS, fieldOf, nthA, negIf, nilq, nilB, eqS, eqF, eqS1, andP, kin, slcS, strOk, plusA, bndHi, leN, optG, roH, roL, initT, exOk, exAll, wrAddr, Nat.reduceAdd, Nat.reduceSub, Nat.reduceMul, Int.reduceToNat, List.append_nil, List.nil_append, List.cons_append, eqT, idxT, cat, cpy, ite_int, ite_bool, ite_seg, ite_segs, ite_nil, ite_twice, Int.toNat_natCast, app, addBs])); (repeat (first | (refine And.intro ?_ ?_; · first | trivial | assumption | omega))); with_reducible refine hK _ ?_; clear hK K)
    | (refine run_cond rfl (fun hc => ?_) (fun hc => ?_) <;> try (simp only [*, Bool.true_eq_false, Bool.false_eq_true, Bool.not_true, Bool.not_false, Bool.true_or, Bool.or_true, Bool.false_or, Bool.or_false, Bool.false_and, Bool.and_false, bne_self_eq_false, beq_self_eq_true] at hc; done))
    | refine run_block ?_
    | refine run_ret ?_
    | refine run_nil ?_
    | refine run_exit ?_
    | refine blk_normal ?_
    | refine blk_ret ?_
    | refine blk_here ?_
    | refine blk_there rfl ?_
    | refine loop_exit ?_
    | refine loop_ret ?_
    | refine un_exit ?_
    | refine un_ret ?_
    | refine unE_exit ?_
    | refine unE_ret ?_
    | refine un_normal ?_)
  all_goals
    subst hR
    simp only [beq_iff_eq, beq_eq_false_iff_ne, ne_eq] at *
    refine end_ref0 nofun (flagSet s r b) W ?_ ?_ ?_ ⟨rfl, rfl⟩ <;> (simp only [flagSet, *, Int.reduceEq, if_true, if_false, reduceIte] <;> rfl)
/-! ### Accesses -/
structure OpR (m : MicroS) : Prop where
  imm : U m.imm
  ord : m.kind = 12 ∨ m.kind = 14 → acqS m.order = m.order
  g : m.kind = 22 → m.imm < 4294967296
def wNext (s : RunS) (W : WantS) : WantS := if isN s.waits = true then W else s.want
set_option maxHeartbeats 8000000 in
theorem con41 (s : RunS) (W : WantS) (m : MicroS) (hf : FitM s m) (ho : OpR m) (hw : s.waits = .none) (hk : m.kind = 12 ∨ m.kind = 13 ∨ m.kind = 14 ∨ m.kind = 15) (a : Int) (ha : a = s.host m.a.toNat) : Con Try.prog 41 [me, .agg (microL m), .c (.int .u64 a)] (refH s W) (fun v H' => v = .tup [] ∧ H' = refH (worldS s m).2 (wNext (worldS s m).2 W)) := by
  obtain ⟨hd0, hd8, ha0, ha8, hb0, hb8, hi0, hsl, hx, hfl, hel⟩ := hf
  have hord := ho.ord
  (refine con_of_run mixed (fn := Try.f41) (by kernel_rfl) (by kernel_rfl) C41_ok (rs := []) (by kernel_rfl) (Nat.le_of_ble_eq_true (by kernel_rfl)) ?_; unfold C41; simp only [initT, Nat.reduceAdd])
  generalize hR : (fun (v : AV) (H' : Heap) => v = AV.tup [] ∧ H' = refH (worldS s m).2 (wNext (worldS s m).2 W)) = R
  simp only [me, refH, refB, refLa, opsR, slotB]
  repeat' (first
    | refine run_seq ?_
    | refine run_skip ?_
    | (refine run_region fun K hK => ?_; (try (simp (maxSteps := 10000000) only [microL, ne_eq, C41r0, C41r1, C41r2, C41r3, C41r4, C41r5, C41r6, C41r7, C41r8, C41r9, C41r10, C41r11, C41r12, C41r13, C41r14, C41r15, C41r16, C41r17, C41r18, C41r19, C41r20, rwp_nil, rwp_cons, rwpK_app, aop, gpath, St.get, slotAt, sfx, eqP, segsOf, St.put, addBlk, getB, setB, delB, ld1, ldn, st1, stn, setRow, rowNeed, segAt, nsub, bin, un, eqB, isShift, sameK, arith, shiftR, getsl, selB_or, selB_and, beqb, shed, addN, Nat.beq, Seg.size, sizes, imp, needP, andN, appL, argsOf, ptrsOf, aasOf, cut, takeS, dropS, putS, partsOf, fillS, fieldOf, nthA, negIf, nilq, nilB, eqS, eqF, eqS1, andP, kin, slcS, strOk, plusA, bndHi, leN, optG, roH, roL, initT, exOk, exAll, wrAddr, Nat.reduceAdd, Nat.reduceSub, Nat.reduceMul, Int.reduceToNat, List.append_nil, List.nil_append, List.cons_append, eqT, idxT, cat, cpy, ite_int, ite_bool, ite_seg, ite_segs, ite_nil, ite_twice, Int.toNat_natCast, app, addBs])); (repeat (first | (refine And.intro ?_ ?_; · (first | omega | decide)) | ((first | (refine call_t _ (ref_frame2 (con42 s W ⟨1, a, 0, m.order, false, 0, false, 0, 0, 0⟩ .loaded rfl) (by simp only [me, wantL, leArgs, leV, leV1, leSegs, leSeg, leC, leA, nthO, and_self])) ?_; rintro v H' ⟨rfl, rfl⟩) | refine call_q _ (ref_frame2 (con42 s W ⟨1, a, 0, m.order, false, 0, false, 0, 0, 0⟩ .loaded rfl) (by simp only [me, wantL, leArgs, leV, leV1, leSegs, leSeg, leC, leA, nthO, and_self])) ?_ | refine call_g _ (imp_of (ref_frame2 (con42 s W ⟨1, a, 0, m.order, false, 0, false, 0, 0, 0⟩ .loaded rfl) (by simp only [me, wantL, leArgs, leV, leV1, leSegs, leSeg, leC, leA, nthO, and_self]))) ?_ | (refine call_t _ (ref_frame2 (con42 s W ⟨3, a, 0, m.order, false, 0, false, 0, 0, 0⟩ .loaded rfl) (by simp only [me, wantL, leArgs, leV, leV1, leSegs, leSeg, leC, leA, nthO, and_self])) ?_; rintro v H' ⟨rfl, rfl⟩) | refine call_q _ (ref_frame2 (con42 s W ⟨3, a, 0, m.order, false, 0, false, 0, 0, 0⟩ .loaded rfl) (by simp only [me, wantL, leArgs, leV, leV1, leSegs, leSeg, leC, leA, nthO, and_self])) ?_ | refine call_g _ (imp_of (ref_frame2 (con42 s W ⟨3, a, 0, m.order, false, 0, false, 0, 0, 0⟩ .loaded rfl) (by simp only [me, wantL, leArgs, leV, leV1, leSegs, leSeg, leC, leA, nthO, and_self]))) ?_ | (refine call_t _ (ref_frame2 (con42 s W ⟨2, a, s.host m.b.toNat, 0, m.order == 4, 0, false, 0, 0, 0⟩ .stored rfl) (by simp only [me, wantL, leArgs, leV, leV1, leSegs, leSeg, leC, leA, nthO, and_self])) ?_; rintro v H' ⟨rfl, rfl⟩) | refine call_q _ (ref_frame2 (con42 s W ⟨2, a, s.host m.b.toNat, 0, m.order == 4, 0, false, 0, 0, 0⟩ .stored rfl) (by simp only [me, wantL, leArgs, leV, leV1, leSegs, leSeg, leC, leA, nthO, and_self])) ?_ | refine call_g _ (imp_of (ref_frame2 (con42 s W ⟨2, a, s.host m.b.toNat, 0, m.order == 4, 0, false, 0, 0, 0⟩ .stored rfl) (by simp only [me, wantL, leArgs, leV, leV1, leSegs, leSeg, leC, leA, nthO, and_self]))) ?_ | (refine call_t _ (ref_frame2 (con42 s W ⟨4, a, s.host m.b.toNat, 0, m.order == 4, 0, false, 0, 0, 0⟩ .tried rfl) (by simp only [me, wantL, leArgs, leV, leV1, leSegs, leSeg, leC, leA, nthO, and_self])) ?_; rintro v H' ⟨rfl, rfl⟩) | refine call_q _ (ref_frame2 (con42 s W ⟨4, a, s.host m.b.toNat, 0, m.order == 4, 0, false, 0, 0, 0⟩ .tried rfl) (by simp only [me, wantL, leArgs, leV, leV1, leSegs, leSeg, leC, leA, nthO, and_self])) ?_ | refine call_g _ (imp_of (ref_frame2 (con42 s W ⟨4, a, s.host m.b.toNat, 0, m.order == 4, 0, false, 0, 0, 0⟩ .tried rfl) (by simp only [me, wantL, leArgs, leV, leV1, leSegs, leSeg, leC, leA, nthO, and_self]))) ?_); simp (maxSteps := 10000000) only [microL, ne_eq, C41r0, C41r1, C41r2, C41r3, C41r4, C41r5, C41r6, C41r7, C41r8, C41r9, C41r10, C41r11, C41r12, C41r13, C41r14, C41r15, C41r16, C41r17, C41r18, C41r19, C41r20, rwp_nil, rwp_cons, rwpK_app, aop, gpath, St.get, slotAt, sfx, eqP, segsOf, St.put, addBlk, getB, setB, delB, ld1, ldn, st1, stn, setRow, rowNeed, segAt, nsub, bin, un, eqB, isShift, sameK, arith, shiftR, getsl, selB_or, selB_and, beqb, shed, addN, Nat.beq, Seg.size, sizes, imp, needP, andN, appL, argsOf, ptrsOf, aasOf, cut, takeS, dropS, putS, partsOf, fillS, fieldOf, nthA, negIf, nilq, nilB, eqS, eqF, eqS1, andP, kin, slcS, strOk, plusA, bndHi, leN, optG, roH, roL, initT, exOk, exAll, wrAddr, Nat.reduceAdd, Nat.reduceSub, Nat.reduceMul, Int.reduceToNat, List.append_nil, List.nil_append, List.cons_append, eqT, idxT, cat, cpy, ite_int, ite_bool, ite_seg, ite_segs, ite_nil, ite_twice, Int.toNat_natCast, app, addBs]))); with_reducible refine hK _ ?_; clear hK K)
    | (refine run_cond rfl (fun hc => ?_) (fun hc => ?_) <;> try (simp only [*, Bool.true_eq_false, Bool.false_eq_true, Bool.not_true, Bool.not_false, Bool.true_or, Bool.or_true, Bool.false_or, Bool.or_false, Bool.false_and, Bool.and_false, bne_self_eq_false, beq_self_eq_true] at hc; done))
    | refine run_block ?_
    | refine run_ret ?_
    | refine run_nil ?_
    | refine run_exit ?_
    | refine blk_normal ?_
    | refine blk_ret ?_
    | refine blk_here ?_
    | refine blk_there rfl ?_
    | refine loop_exit ?_
    | refine loop_ret ?_
    | refine un_exit ?_
    | refine un_ret ?_
    | refine unE_exit ?_
    | refine unE_ret ?_
    | refine un_normal ?_)
  · have e : (worldS s m).2 = { s with want := want0, waits := .none, steps := IntKind.i64.wrap (s.steps + 1), left := true, faulted := true } := by
      have h8 : ¬ a.tmod 8 = 0 := by simpa using hc
      rcases hk with h | h | h | h <;> simp only [worldS, accS, h, h8, ← ha, Int.reduceEq, if_true, if_false, reduceIte]
    subst hR
    rw [e]
    exact end_ref0 nofun { s with want := want0, waits := .none, steps := IntKind.i64.wrap (s.steps + 1), left := true, faulted := true } W (by simp only [refB, refLa, hw]; rfl) rfl rfl ⟨rfl, rfl⟩
  · have h8 : a.tmod 8 = 0 := by simpa using ‹(a.tmod 8 != 0) = false›
    have h : m.kind = 12 := by simpa using hc
    have e : (worldS s m).2 = { s with want := ⟨1, a, 0, m.order, false, 0, false, 0, 0, 0⟩, waits := .loaded } := by
      simp only [worldS, accS, h, h8, ← ha, hord (.inl h), Int.reduceEq, if_true, if_false, reduceIte]
    subst hR
    rw [e]
    exact end_ref0 nofun { s with want := ⟨1, a, 0, m.order, false, 0, false, 0, 0, 0⟩, waits := .loaded } _ rfl rfl rfl ⟨rfl, rfl⟩
  · have h8 : a.tmod 8 = 0 := by simpa using ‹(a.tmod 8 != 0) = false›
    have h : m.kind = 14 := by simpa using hc
    have e : (worldS s m).2 = { s with want := ⟨3, a, 0, m.order, false, 0, false, 0, 0, 0⟩, waits := .loaded } := by
      simp only [worldS, accS, h, h8, ← ha, hord (.inr h), Int.reduceEq, if_true, if_false, reduceIte]
    subst hR
    rw [e]
    exact end_ref0 nofun { s with want := ⟨3, a, 0, m.order, false, 0, false, 0, 0, 0⟩, waits := .loaded } _ rfl rfl rfl ⟨rfl, rfl⟩
  · have h8 : a.tmod 8 = 0 := by simpa using ‹(a.tmod 8 != 0) = false›
    have h : m.kind = 13 := by simpa using hc
    have e : (worldS s m).2 = { s with want := ⟨2, a, s.host m.b.toNat, 0, m.order == 4, 0, false, 0, 0, 0⟩, waits := .stored } := by
      simp only [worldS, accS, h, h8, ← ha, Int.reduceEq, if_true, if_false, reduceIte]
    subst hR
    rw [e]
    exact end_ref0 nofun { s with want := ⟨2, a, s.host m.b.toNat, 0, m.order == 4, 0, false, 0, 0, 0⟩, waits := .stored } _ rfl rfl rfl ⟨rfl, rfl⟩
  · have h8 : a.tmod 8 = 0 := by simpa using ‹(a.tmod 8 != 0) = false›
    have h : m.kind = 15 := by
      have h2 : ¬ m.kind = 13 := by simpa using hc
      have h3 : ¬ m.kind = 14 := by simpa using ‹(m.kind == 14) = false›
      have h4 : ¬ m.kind = 12 := by simpa using ‹(m.kind == 12) = false›
      omega
    have e : (worldS s m).2 = { s with want := ⟨4, a, s.host m.b.toNat, 0, m.order == 4, 0, false, 0, 0, 0⟩, waits := .tried } := by
      simp only [worldS, accS, h, h8, ← ha, Int.reduceEq, if_true, if_false, reduceIte]
    subst hR
    rw [e]
    exact end_ref0 nofun { s with want := ⟨4, a, s.host m.b.toNat, 0, m.order == 4, 0, false, 0, 0, 0⟩, waits := .tried } _ rfl rfl rfl ⟨rfl, rfl⟩
end Go.Proofs.Yteikpddilabppaa
