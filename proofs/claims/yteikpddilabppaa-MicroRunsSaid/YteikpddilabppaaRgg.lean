/- MicroRuns: the law's function answers true. -/
import Derived.Test.YteikpddilabppaaRgf
namespace Go.Proofs.Yteikpddilabppaa
open Go.AM
set_option maxRecDepth 100000
set_option linter.unusedSimpArgs false
set_option linter.unusedVariables false
def twB (n : Nat) (tw : Nat → Bool) : Blk := ⟨1, some n, fun i => [.c (.bool (tw i))], 4, false⟩
def codeX (a n : Nat) (c : CodeS) : List Seg := [.c (.int .u64 c.pc), .c (.int .i64 c.words), .c (.int .i64 c.el), .c (.int .i64 c.slots), .c (.slice ⟨a, 0, 0, 0⟩ false n)]
def argH (c : CodeS) (ng : Nat) (gs : Nat → GotS) (nt : Nat) (tw : Nat → Bool) : Heap := ⟨3, [(2, twB nt tw), (1, gotsBk ng gs), (0, opsBk c false)]⟩
/-- The code is copied. -/
def mrSt0 (c : CodeS) (k : CoreS) (ng : Nat) (gs : Nat → GotS) (nt : Nat) (tw : Nat → Bool) : St :=
  ⟨[⟨10, [], .c (.ptr ⟨5, 0, 0, 0⟩)⟩, ⟨9, [], .c (.bool true)⟩, ⟨8, [], .c (.bool false)⟩, ⟨5, [], .c (.ptr ⟨4, 0, 0, 0⟩)⟩, ⟨4, [], .c (.ptr ⟨3, 0, 0, 0⟩)⟩, ⟨3, [], .c (.slice ⟨2, 0, 0, 0⟩ false nt)⟩, ⟨2, [], .c (.slice ⟨1, 0, 0, 0⟩ false ng)⟩],
   ⟨7, [(6, opsBk c true), (5, ⟨5, none, fun _ => codeLa 6 c, 25, true⟩), (4, coreB k), (3, ⟨5, none, fun _ => codeLa 0 c, 25, true⟩), (2, twB nt tw), (1, gotsBk ng gs), (0, opsBk c false)]⟩⟩
theorem ids8 : ∀ i, i < 3 → nthO [0, 1, 2, 3, 4, 5, 6] i = some i := by
  intro i h
  match i, h with
  | 0, _ => rfl
  | 1, _ => rfl
  | 2, _ => rfl
theorem tw_le {l : List Nat} (n : Nat) (tw : Nat → Bool) : leB l (twB n tw) (twB n tw) := ⟨rfl, rfl, id, Nat.le_refl _, fun i _ => by simp only [twB, leSegs, leSeg, leC, and_self]⟩
theorem gots_le {l : List Nat} (n : Nat) (g : Nat → GotS) : leB l (gotsBk n g) (gotsBk n g) := ⟨rfl, rfl, id, Nat.le_refl _, fun i _ => by simp only [gotsBk, gotL, leSegs, leSeg, leC, and_self]⟩
theorem ops_le' {l : List Nat} (c : CodeS) (w : Bool) : leB l (opsBk c w) (opsBk c w) := ⟨rfl, rfl, id, Nat.le_refl _, fun i _ => by simp only [opsBk, microL, leSegs, leSeg, leC, and_self]⟩
theorem le_mr0 {c : CodeS} {k : CoreS} {ng : Nat} {gs : Nat → GotS} {nt : Nat} {tw : Nat → Bool} {l : List Slot} {H : Heap} {B6 : Blk} (h10 : slotAt l 10 = some ⟨10, [], .c (.ptr ⟨5, 0, 0, 0⟩)⟩) (h9 : slotAt l 9 = some ⟨9, [], .c (.bool true)⟩) (h8 : slotAt l 8 = some ⟨8, [], .c (.bool false)⟩) (h5 : slotAt l 5 = some ⟨5, [], .c (.ptr ⟨4, 0, 0, 0⟩)⟩) (h4 : slotAt l 4 = some ⟨4, [], .c (.ptr ⟨3, 0, 0, 0⟩)⟩)
    (h3 : slotAt l 3 = some ⟨3, [], .c (.slice ⟨2, 0, 0, 0⟩ false nt)⟩) (h2 : slotAt l 2 = some ⟨2, [], .c (.slice ⟨1, 0, 0, 0⟩ false ng)⟩) (b2 : getB H.blks 2 = some (twB nt tw)) (b1 : getB H.blks 1 = some (gotsBk ng gs)) (b0 : getB H.blks 0 = some (opsBk c false)) (b3 : getB H.blks 3 = some ⟨5, none, fun _ => codeLa 0 c, 25, true⟩)
    (b6 : getB H.blks 6 = some B6) (hB6 : leB [0, 1, 2, 3, 4, 5, 6] B6 (opsBk c true)) (b4 : getB H.blks 4 = some (coreB k)) (b5 : getB H.blks 5 = some ⟨5, none, fun _ => codeLa 6 c, 25, true⟩) : LeS 3 ⟨l, H⟩ (mrSt0 c k ng gs nt tw) := by
  refine LeS.intro [0, 1, 2, 3, 4, 5, 6] ids8 (by simp only [diff, notIn, Nat.beq, and_self]) rfl ?_ ?_
  · simp only [mrSt0, slotsLe, h10, h9, h8, h5, h4, h3, h2, leV, leV1, leC, leA, nthO, and_self]
  · simp only [mrSt0, leBlks, nthO, b6, b5, b4, b3, b2, b1, b0]
    refine ⟨hB6, ⟨rfl, rfl, id, Nat.le_refl _, fun _ _ => ?_⟩, core_le k, ⟨rfl, rfl, id, Nat.le_refl _, fun _ _ => ?_⟩, tw_le _ _, gots_le _ _, ops_le' _ _, trivial⟩ <;> simp only [codeLa, leSegs, leSeg, leC, leA, nthO, and_self]
/-- What was handed over is written anew. -/
def xB (n : Nat) (xo : Nat → MicroS) : Blk := ⟨7, some n, fun i => microL (xo i), 34, true⟩
def mr1 (c : CodeS) (ng : Nat) (gs : Nat → GotS) (nt : Nat) (tw : Nat → Bool) (s : RunS) (xo : Nat → MicroS) (i : Nat) : St :=
  ⟨[⟨15, [], .c (.int .i64 i)⟩, ⟨13, [], .c (.ptr ⟨9, 0, 0, 0⟩)⟩, ⟨11, [], .c (.ptr ⟨6, 0, 0, 0⟩)⟩, ⟨10, [], .c (.ptr ⟨4, 0, 0, 0⟩)⟩, ⟨4, [], .c (.ptr ⟨3, 0, 0, 0⟩)⟩, ⟨3, [], .c (.slice ⟨2, 0, 0, 0⟩ false nt)⟩, ⟨2, [], .c (.slice ⟨1, 0, 0, 0⟩ false ng)⟩],
   ⟨11, [(4, ⟨5, none, fun _ => codeLa 5 c, 25, true⟩), (5, xB c.nops xo), (6, runBa 6 7 8 s), (7, opsB s), (8, slotB s), (9, refB 0 10 s want0), (10, slotB s), (3, ⟨5, none, fun _ => codeLa 0 c, 25, true⟩), (2, twB nt tw), (1, gotsBk ng gs), (0, opsBk c false)]⟩⟩
theorem le_mr1 {c : CodeS} {ng : Nat} {gs : Nat → GotS} {nt : Nat} {tw : Nat → Bool} {l : List Slot} {H : Heap} (a b p q r u v : Nat) (s : RunS) (xo : Nat → MicroS) (i : Nat) (hd : diff [0, 1, 2, 3, a, b, p, q, r, u, v]) (h15 : slotAt l 15 = some ⟨15, [], .c (.int .i64 i)⟩) (h13 : slotAt l 13 = some ⟨13, [], .c (.ptr ⟨u, 0, 0, 0⟩)⟩) (h11 : slotAt l 11 = some ⟨11, [], .c (.ptr ⟨p, 0, 0, 0⟩)⟩) (h10 : slotAt l 10 = some ⟨10, [], .c (.ptr ⟨a, 0, 0, 0⟩)⟩) (h4 : slotAt l 4 = some ⟨4, [], .c (.ptr ⟨3, 0, 0, 0⟩)⟩)
    (h3 : slotAt l 3 = some ⟨3, [], .c (.slice ⟨2, 0, 0, 0⟩ false nt)⟩) (h2 : slotAt l 2 = some ⟨2, [], .c (.slice ⟨1, 0, 0, 0⟩ false ng)⟩) (b2 : getB H.blks 2 = some (twB nt tw)) (b1 : getB H.blks 1 = some (gotsBk ng gs)) (b0 : getB H.blks 0 = some (opsBk c false)) (b3 : getB H.blks 3 = some ⟨5, none, fun _ => codeLa 0 c, 25, true⟩)
    (ba : getB H.blks a = some ⟨5, none, fun _ => codeLa b c, 25, true⟩) {B : Blk} (bb : getB H.blks b = some B) (hB : leB [0, 1, 2, 3, a, b, p, q, r, u, v] B (xB c.nops xo)) (bp : getB H.blks p = some (runBa p q r s)) (bq : getB H.blks q = some (opsB s)) (br : getB H.blks r = some (slotB s)) (bu : getB H.blks u = some (refB 0 v s want0)) (bv : getB H.blks v = some (slotB s)) : LeS 3 ⟨l, H⟩ (mr1 c ng gs nt tw s xo i) := by
  refine LeS.intro [0, 1, 2, 3, a, b, p, q, r, u, v] (fun i h => ?_) hd rfl ?_ ?_
  · match i, h with
    | 0, _ => rfl
    | 1, _ => rfl
    | 2, _ => rfl
  · simp only [mr1, slotsLe, h15, h13, h11, h10, h4, h3, h2, leV, leV1, leC, leA, nthO, and_self]
  · simp only [mr1, leBlks, nthO, ba, bb, bp, bq, br, bu, bv, b3, b2, b1, b0]
    refine ⟨⟨rfl, rfl, id, Nat.le_refl _, fun _ _ => ?_⟩, hB, ⟨rfl, rfl, id, Nat.le_refl _, fun _ _ => ?_⟩, ops_le s, slot_le s, ref_le rfl rfl s want0, slot_le s, ⟨rfl, rfl, id, Nat.le_refl _, fun _ _ => ?_⟩, tw_le _ _, gots_le _ _, ops_le' _ _, trivial⟩
    · simp only [codeLa, leSegs, leSeg, leC, leA, nthO, and_self]
    · have hw : leC [0, 1, 2, 3, a, b, p, q, r, u, v] (waitVa p s.waits) (waitVa 6 s.waits) := by
        cases s.waits <;> first | trivial | exact ⟨rfl, ⟨⟨rfl, rfl, rfl, rfl⟩, trivial⟩, trivial⟩
      simp only [↓hw, runBa, runLa, leSegs, leSeg, leC, leA, nthO, and_self, implies_true]
    · simp only [codeLa, leSegs, leSeg, leC, leA, nthO, and_self]
/-- Both runs, behind so many wants. -/
def mrSt (c : CodeS) (ng : Nat) (gs : Nat → GotS) (nt : Nat) (tw : Nat → Bool) (s : RunS) (W : WantS) (i : Nat) : St :=
  ⟨[⟨16, [], .c (.int .i64 i)⟩, ⟨13, [], .c (.ptr ⟨7, 0, 0, 0⟩)⟩, ⟨11, [], .c (.ptr ⟨4, 0, 0, 0⟩)⟩, ⟨4, [], .c (.ptr ⟨3, 0, 0, 0⟩)⟩, ⟨3, [], .c (.slice ⟨2, 0, 0, 0⟩ false nt)⟩, ⟨2, [], .c (.slice ⟨1, 0, 0, 0⟩ false ng)⟩],
   ⟨9, [(4, runBa 4 5 6 s), (5, opsB s), (6, slotB s), (7, refB 0 8 s W), (8, slotB s), (3, ⟨5, none, fun _ => codeLa 0 c, 25, true⟩), (2, twB nt tw), (1, gotsBk ng gs), (0, opsBk c false)]⟩⟩
theorem le_mr {c : CodeS} {ng : Nat} {gs : Nat → GotS} {nt : Nat} {tw : Nat → Bool} {l : List Slot} {H : Heap} (p q r u v : Nat) (s : RunS) (W : WantS) (i : Nat) (hd : diff [0, 1, 2, 3, p, q, r, u, v]) (h16 : slotAt l 16 = some ⟨16, [], .c (.int .i64 i)⟩) (h13 : slotAt l 13 = some ⟨13, [], .c (.ptr ⟨u, 0, 0, 0⟩)⟩) (h11 : slotAt l 11 = some ⟨11, [], .c (.ptr ⟨p, 0, 0, 0⟩)⟩) (h4 : slotAt l 4 = some ⟨4, [], .c (.ptr ⟨3, 0, 0, 0⟩)⟩)
    (h3 : slotAt l 3 = some ⟨3, [], .c (.slice ⟨2, 0, 0, 0⟩ false nt)⟩) (h2 : slotAt l 2 = some ⟨2, [], .c (.slice ⟨1, 0, 0, 0⟩ false ng)⟩) (b2 : getB H.blks 2 = some (twB nt tw)) (b1 : getB H.blks 1 = some (gotsBk ng gs)) (b0 : getB H.blks 0 = some (opsBk c false)) (b3 : getB H.blks 3 = some ⟨5, none, fun _ => codeLa 0 c, 25, true⟩)
    (bp : getB H.blks p = some (runBa p q r s)) (bq : getB H.blks q = some (opsB s)) (br : getB H.blks r = some (slotB s)) (bu : getB H.blks u = some (refB 0 v s W)) (bv : getB H.blks v = some (slotB s)) : LeS 3 ⟨l, H⟩ (mrSt c ng gs nt tw s W i) := by
  refine LeS.intro [0, 1, 2, 3, p, q, r, u, v] (fun i h => ?_) hd rfl ?_ ?_
  · match i, h with
    | 0, _ => rfl
    | 1, _ => rfl
    | 2, _ => rfl
  · simp only [mrSt, slotsLe, h16, h13, h11, h4, h3, h2, leV, leV1, leC, leA, nthO, and_self]
  · simp only [mrSt, leBlks, nthO, bp, bq, br, bu, bv, b3, b2, b1, b0]
    refine ⟨⟨rfl, rfl, id, Nat.le_refl _, fun _ _ => ?_⟩, ops_le s, slot_le s, ref_le rfl rfl s W, slot_le s, ⟨rfl, rfl, id, Nat.le_refl _, fun _ _ => ?_⟩, tw_le _ _, gots_le _ _, ops_le' _ _, trivial⟩
    · have hw : leC [0, 1, 2, 3, p, q, r, u, v] (waitVa p s.waits) (waitVa 4 s.waits) := by
        cases s.waits <;> first | trivial | exact ⟨rfl, ⟨⟨rfl, rfl, rfl, rfl⟩, trivial⟩, trivial⟩
      simp only [↓hw, runBa, runLa, leSegs, leSeg, leC, leA, nthO, and_self, implies_true]
    · simp only [codeLa, leSegs, leSeg, leC, leA, nthO, and_self]
theorem end_mr {l : List Slot} {H : Heap} {R : Post} {c : CodeS} {ng : Nat} {gs : Nat → GotS} {nt : Nat} {tw : Nat → Bool} (b2 : getB H.blks 2 = some (twB nt tw)) (b1 : getB H.blks 1 = some (gotsBk ng gs)) (b0 : getB H.blks 0 = some (opsBk c false)) {t : Nat} (b : Bool) (h : slotAt l t = some ⟨t, [], .c (.bool b)⟩) (hR : R (.c (.bool b)) (argH c ng gs nt tw)) : endQ (LeS 3) [.tmp t] R .ret ⟨l, H⟩ := by
  refine end_of ⟨[⟨t, [], .c (.bool b)⟩], argH c ng gs nt tw⟩ ?_ ?_
  · refine LeS.intro [0, 1, 2] (fun i h => ?_) (by simp only [diff, notIn, Nat.beq, and_self]) rfl (slotsOf h rfl trivial) ?_
    · match i, h with
      | 0, _ => rfl
      | 1, _ => rfl
      | 2, _ => rfl
    · simp only [argH, leBlks, nthO, b2, b1, b0]
      exact ⟨tw_le _ _, gots_le _ _, ops_le' _ _, trivial⟩
  · have hg : St.get ⟨[⟨t, [], .c (.bool b)⟩], argH c ng gs nt tw⟩ [] (.t t) = .c (.bool b) := by simp [St.get, slotAt, Nat.beq_refl, sfx, eqP]
    simp only [endF, resL, resA, hg, noTup, resV]
    exact hR
set_option maxHeartbeats 4000000 in
theorem con3 (c : CodeS) (k : CoreS) (ng : Nat) (gs : Nat → GotS) (nt : Nat) (tw : Nat → Bool) (hsz : c.nops * 56 ≤ 140737488351232) (himm : ∀ i, i < c.nops → U (c.ops i).imm) (hx : ∀ i, i < 31 → U (k.x i)) (hsp : ∀ i, i < 2 → U (k.sp i)) (hgv : ∀ i, i < ng → U (gs i).value) :
    Con Try.prog 3 [.agg (codeLa 0 c), .agg (coreL k), .c (.slice ⟨1, 0, 0, 0⟩ false ng), .c (.slice ⟨2, 0, 0, 0⟩ false nt)] (argH c ng gs nt tw) (fun v H' => v = .c (.bool true) ∧ H' = argH c ng gs nt tw) := by
  (refine con_of_run mixed (fn := Try.f3) (by kernel_rfl) (by kernel_rfl) C3_ok (rs := [.tmp 8]) (by kernel_rfl) (Nat.le_of_ble_eq_true (by kernel_rfl)) ?_; unfold C3; simp only [initT, Nat.reduceAdd])
  generalize hR : (fun (v : AV) (H' : Heap) => v = AV.c (CV.bool true) ∧ H' = argH c ng gs nt tw) = R
  have hw1 : IntKind.i64.wrap ((c.nops : Int) + 1) = ((c.nops + 1 : Nat) : Int) := by rw [IntKind.wrap_i64]; omega
  have hmin : min c.nops (c.nops + 1) = c.nops := Nat.min_eq_left (Nat.le_succ _)
  have hn0 : ((c.nops + 1 : Nat) : Int).toNat = c.nops + 1 := rfl
  simp only [codeLa, coreL, argH]
  repeat' (first
    | refine run_seq ?_
    | refine run_skip ?_
    | (refine run_region fun K hK => ?_; (try (simp (maxSteps := 10000000) only [microL, gotL, wantL, want0, twB, gotsBk, opsBk, hw1, hmin, rowsCpy, Nat.lt_irrefl, and_false, if_false, C3r0, C3r1, C3r2, C3r3, C3r4, C3r5, C3r7, C3r8, C3r9, C3r10, C3r11, C3r12, C3r13, C3r14, C3r15, C3r16, C3r17, C3r18, C3r19, C3r20, C3r21, C3r22, C3r23, C3r24, C3r25, C3r26, C3r27, C3r28, C3r29, C3r30, C3r31, C3r32, C3r33, C3r34, C3r35, C3r36, C3r37, C3r38, rwp_nil, rwp_cons, rwpK_app, aop, gpath, St.get, slotAt, sfx, eqP, segsOf, St.put, addBlk, getB, setB, delB, ld1, ldn, st1, stn, setRow, rowNeed, segAt, nsub, bin, un, eqB, isShift, sameK, arith, shiftR, getsl, selB_or, selB_and, beqb, shed, addN, Nat.beq, Seg.size, sizes, imp, needP, andN, appL, argsOf, ptrsOf, aasOf, cut, takeS, dropS, putS, partsOf, fillS, fieldOf, nthA, negIf, nilq, nilB, eqS, eqF, eqS1, andP, kin, slcS, strOk, plusA, bndHi, leN, optG, roH, roL, initT, exOk, exAll, wrAddr, Nat.reduceAdd, Nat.reduceSub, Nat.reduceMul, Int.reduceToNat, List.append_nil, List.nil_append, List.cons_append, eqT, idxT, cat, cpy, ite_int, ite_bool, ite_seg, ite_segs, ite_nil, ite_twice, Int.toNat_natCast, app, addBs])); (repeat (first | (refine And.intro ?_ ?_; · omega) | ((first | (refine call_t _ (con5 _) ?_; rintro v H' ⟨rfl, rfl⟩) | refine call_q _ (con5 _) ?_ | refine call_g _ (imp_of (con5 _)) ?_); simp (maxSteps := 10000000) only [microL, gotL, wantL, want0, twB, gotsBk, opsBk, hw1, hmin, rowsCpy, Nat.lt_irrefl, and_false, if_false, C3r0, C3r1, C3r2, C3r3, C3r4, C3r5, C3r7, C3r8, C3r9, C3r10, C3r11, C3r12, C3r13, C3r14, C3r15, C3r16, C3r17, C3r18, C3r19, C3r20, C3r21, C3r22, C3r23, C3r24, C3r25, C3r26, C3r27, C3r28, C3r29, C3r30, C3r31, C3r32, C3r33, C3r34, C3r35, C3r36, C3r37, C3r38, rwp_nil, rwp_cons, rwpK_app, aop, gpath, St.get, slotAt, sfx, eqP, segsOf, St.put, addBlk, getB, setB, delB, ld1, ldn, st1, stn, setRow, rowNeed, segAt, nsub, bin, un, eqB, isShift, sameK, arith, shiftR, getsl, selB_or, selB_and, beqb, shed, addN, Nat.beq, Seg.size, sizes, imp, needP, andN, appL, argsOf, ptrsOf, aasOf, cut, takeS, dropS, putS, partsOf, fillS, fieldOf, nthA, negIf, nilq, nilB, eqS, eqF, eqS1, andP, kin, slcS, strOk, plusA, bndHi, leN, optG, roH, roL, initT, exOk, exAll, wrAddr, Nat.reduceAdd, Nat.reduceSub, Nat.reduceMul, Int.reduceToNat, List.append_nil, List.nil_append, List.cons_append, eqT, idxT, cat, cpy, ite_int, ite_bool, ite_seg, ite_segs, ite_nil, ite_twice, Int.toNat_natCast, app, addBs]))); with_reducible refine hK _ ?_; clear hK K)
    | (refine run_cond rfl (fun hc => ?_) (fun hc => ?_) <;> try (simp only [*, Bool.true_eq_false, Bool.false_eq_true, Bool.not_true, Bool.not_false, Bool.true_or, Bool.or_true, Bool.false_or, Bool.or_false, Bool.false_and, Bool.and_false, bne_self_eq_false, beq_self_eq_true] at hc; done))
    | refine run_block ?_
    | refine run_ret ?_
    | refine run_nil ?_
    | refine run_exit ?_
    | refine blk_normal ?_
    | refine blk_ret ?_
    | refine blk_here ?_
    | refine blk_there rfl ?_
    | refine loop_exit ?_
    | refine loop_ret ?_
    | refine un_exit ?_
    | refine un_ret ?_
    | refine unE_exit ?_
    | refine unE_ret ?_
    | refine un_normal ?_)
  (refine run_regionL fun K hK => ?_; (try (simp (maxSteps := 10000000) only [microL, gotL, wantL, want0, twB, gotsBk, opsBk, hw1, hmin, rowsCpy, Nat.lt_irrefl, and_false, if_false, C3r0, C3r1, C3r2, C3r3, C3r4, C3r5, C3r6, C3r7, C3r8, C3r9, C3r10, C3r11, C3r12, C3r13, C3r14, C3r15, C3r16, C3r17, C3r18, C3r19, C3r20, C3r21, C3r22, C3r23, C3r24, C3r25, C3r26, C3r27, C3r28, C3r29, C3r30, C3r31, C3r32, C3r33, C3r34, C3r35, C3r36, C3r37, C3r38, rwp_nil, rwp_cons, rwpK_app, aop, gpath, St.get, slotAt, sfx, eqP, segsOf, St.put, addBlk, getB, setB, delB, ld1, ldn, st1, stn, setRow, rowNeed, segAt, nsub, bin, un, eqB, isShift, sameK, arith, shiftR, getsl, selB_or, selB_and, beqb, shed, addN, Nat.beq, Seg.size, sizes, imp, needP, andN, appL, argsOf, ptrsOf, aasOf, cut, takeS, dropS, putS, partsOf, fillS, fieldOf, nthA, negIf, nilq, nilB, eqS, eqF, eqS1, andP, kin, slcS, strOk, plusA, bndHi, leN, optG, roH, roL, initT, exOk, exAll, wrAddr, Nat.reduceAdd, Nat.reduceSub, Nat.reduceMul, Int.reduceToNat, List.append_nil, List.nil_append, List.cons_append, eqT, idxT, cat, cpy, ite_int, ite_bool, ite_seg, ite_segs, ite_nil, ite_twice, Int.toNat_natCast, app, addBs])); (repeat (refine And.intro ?_ ?_; · first | trivial | assumption | omega)); refine hK _ (mrSt0 c k ng gs nt tw) (le_mr0 rfl rfl rfl rfl rfl rfl rfl rfl rfl rfl rfl rfl ?_ rfl rfl) ?_; clear hK K)
  · refine ⟨rfl, rfl, id, ?_, fun j hj => ?_⟩
    · show c.nops ≤ c.nops + 1; omega
    · have hj' : j < c.nops := hj
      have h1 : ¬ j = c.nops := by omega
      have h2 : 0 ≤ j ∧ j < c.nops := ⟨by omega, hj'⟩
      simp only [h1, h2, if_false, if_true, and_self, Nat.sub_zero, opsBk, microL, leSegs, leSeg, leC]
  have himm0 : ∀ i, i < c.nops → 0 ≤ (c.ops i).imm := fun i hi => (himm i hi).1
  simp only [mrSt0]
  repeat' (first
    | refine run_seq ?_
    | refine run_skip ?_
    | (refine run_region fun K hK => ?_; (try (simp (maxSteps := 10000000) only [microL, gotL, wantL, want0, codeLa, coreB, coreL, C3r0, C3r1, C3r2, C3r3, C3r4, C3r5, C3r6, C3r8, C3r9, C3r10, C3r11, C3r12, C3r13, C3r14, C3r15, C3r16, C3r17, C3r18, C3r19, C3r20, C3r21, C3r22, C3r23, C3r24, C3r25, C3r26, C3r27, C3r28, C3r29, C3r30, C3r31, C3r32, C3r33, C3r34, C3r35, C3r36, C3r37, C3r38, rwp_nil, rwp_cons, rwpK_app, aop, gpath, St.get, slotAt, sfx, eqP, segsOf, St.put, addBlk, getB, setB, delB, ld1, ldn, st1, stn, setRow, rowNeed, segAt, nsub, bin, un, eqB, isShift, sameK, arith, shiftR, getsl, selB_or, selB_and, beqb, shed, addN, Nat.beq, Seg.size, sizes, imp, needP, andN, appL, argsOf, ptrsOf, aasOf, cut, takeS, dropS, putS, partsOf, fillS, fieldOf, nthA, negIf, nilq, nilB, eqS, eqF, eqS1, andP, kin, slcS, strOk, plusA, bndHi, leN, optG, roH, roL, initT, exOk, exAll, wrAddr, Nat.reduceAdd, Nat.reduceSub, Nat.reduceMul, Int.reduceToNat, List.append_nil, List.nil_append, List.cons_append, eqT, idxT, cat, cpy, ite_int, ite_bool, ite_seg, ite_segs, ite_nil, ite_twice, Int.toNat_natCast, app, addBs])); (repeat (first | (refine And.intro ?_ ?_; · omega))); with_reducible refine hK _ ?_; clear hK K)
    | (refine run_cond rfl (fun hc => ?_) (fun hc => ?_) <;> try (simp only [*, Bool.true_eq_false, Bool.false_eq_true, Bool.not_true, Bool.not_false, Bool.true_or, Bool.or_true, Bool.false_or, Bool.or_false, Bool.false_and, Bool.and_false, bne_self_eq_false, beq_self_eq_true] at hc; done))
    | refine run_block ?_
    | refine run_ret ?_
    | refine run_nil ?_
    | refine run_exit ?_
    | refine blk_normal ?_
    | refine blk_ret ?_
    | refine blk_here ?_
    | refine blk_there rfl ?_
    | refine loop_exit ?_
    | refine loop_ret ?_
    | refine un_exit ?_
    | refine un_ret ?_
    | refine unE_exit ?_
    | refine unE_ret ?_
    | refine un_normal ?_)
  refine run_region fun K hK => ?_
  simp (maxSteps := 10000000) only [microL, gotL, wantL, want0, codeLa, coreB, coreL, C3r0, C3r1, C3r2, C3r3, C3r4, C3r5, C3r6, C3r7, C3r8, C3r9, C3r10, C3r11, C3r12, C3r13, C3r14, C3r15, C3r16, C3r17, C3r18, C3r19, C3r20, C3r21, C3r22, C3r23, C3r24, C3r25, C3r26, C3r27, C3r28, C3r29, C3r30, C3r31, C3r32, C3r33, C3r34, C3r35, C3r36, C3r37, C3r38, rwp_nil, rwp_cons, rwpK_app, aop, gpath, St.get, slotAt, sfx, eqP, segsOf, St.put, addBlk, getB, setB, delB, ld1, ldn, st1, stn, setRow, rowNeed, segAt, nsub, bin, un, eqB, isShift, sameK, arith, shiftR, getsl, selB_or, selB_and, beqb, shed, addN, Nat.beq, Seg.size, sizes, imp, needP, andN, appL, argsOf, ptrsOf, aasOf, cut, takeS, dropS, putS, partsOf, fillS, fieldOf, nthA, negIf, nilq, nilB, eqS, eqF, eqS1, andP, kin, slcS, strOk, plusA, bndHi, leN, optG, roH, roL, initT, exOk, exAll, wrAddr, Nat.reduceAdd, Nat.reduceSub, Nat.reduceMul, Int.reduceToNat, List.append_nil, List.nil_append, List.cons_append, eqT, idxT, cat, cpy, ite_int, ite_bool, ite_seg, ite_segs, ite_nil, ite_twice, Int.toNat_natCast, app, addBs]
  refine call_t _ (con6_at c k himm0 6 _ _ true rfl (by decide) (by simp [keysLt])) ?_
  intro v H' h
  split at h
  · rename_i he
    obtain ⟨rfl, rfl⟩ := h
    simp (maxSteps := 10000000) only [microL, gotL, wantL, want0, codeLa, coreB, coreL, C3r0, C3r1, C3r2, C3r3, C3r4, C3r5, C3r6, C3r7, C3r8, C3r9, C3r10, C3r11, C3r12, C3r13, C3r14, C3r15, C3r16, C3r17, C3r18, C3r19, C3r20, C3r21, C3r22, C3r23, C3r24, C3r25, C3r26, C3r27, C3r28, C3r29, C3r30, C3r31, C3r32, C3r33, C3r34, C3r35, C3r36, C3r37, C3r38, rwp_nil, rwp_cons, rwpK_app, aop, gpath, St.get, slotAt, sfx, eqP, segsOf, St.put, addBlk, getB, setB, delB, ld1, ldn, st1, stn, setRow, rowNeed, segAt, nsub, bin, un, eqB, isShift, sameK, arith, shiftR, getsl, selB_or, selB_and, beqb, shed, addN, Nat.beq, Seg.size, sizes, imp, needP, andN, appL, argsOf, ptrsOf, aasOf, cut, takeS, dropS, putS, partsOf, fillS, fieldOf, nthA, negIf, nilq, nilB, eqS, eqF, eqS1, andP, kin, slcS, strOk, plusA, bndHi, leN, optG, roH, roL, initT, exOk, exAll, wrAddr, Nat.reduceAdd, Nat.reduceSub, Nat.reduceMul, Int.reduceToNat, List.append_nil, List.nil_append, List.cons_append, eqT, idxT, cat, cpy, ite_int, ite_bool, ite_seg, ite_segs, ite_nil, ite_twice, Int.toNat_natCast, app, addBs]
    refine hK _ ?_
    clear hK K
    repeat' (first
    | refine run_seq ?_
    | refine run_skip ?_
    | (refine run_region fun K hK => ?_; (try (simp (maxSteps := 10000000) only [microL, gotL, wantL, want0, codeLa, coreB, coreL, C3r0, C3r1, C3r2, C3r3, C3r4, C3r5, C3r6, C3r7, C3r9, C3r10, C3r11, C3r12, C3r13, C3r14, C3r15, C3r16, C3r17, C3r18, C3r19, C3r20, C3r21, C3r22, C3r23, C3r24, C3r25, C3r26, C3r27, C3r28, C3r29, C3r30, C3r31, C3r32, C3r33, C3r34, C3r35, C3r36, C3r37, C3r38, rwp_nil, rwp_cons, rwpK_app, aop, gpath, St.get, slotAt, sfx, eqP, segsOf, St.put, addBlk, getB, setB, delB, ld1, ldn, st1, stn, setRow, rowNeed, segAt, nsub, bin, un, eqB, isShift, sameK, arith, shiftR, getsl, selB_or, selB_and, beqb, shed, addN, Nat.beq, Seg.size, sizes, imp, needP, andN, appL, argsOf, ptrsOf, aasOf, cut, takeS, dropS, putS, partsOf, fillS, fieldOf, nthA, negIf, nilq, nilB, eqS, eqF, eqS1, andP, kin, slcS, strOk, plusA, bndHi, leN, optG, roH, roL, initT, exOk, exAll, wrAddr, Nat.reduceAdd, Nat.reduceSub, Nat.reduceMul, Int.reduceToNat, List.append_nil, List.nil_append, List.cons_append, eqT, idxT, cat, cpy, ite_int, ite_bool, ite_seg, ite_segs, ite_nil, ite_twice, Int.toNat_natCast, app, addBs])); (repeat (first | (refine And.intro ?_ ?_; · omega))); with_reducible refine hK _ ?_; clear hK K)
    | (refine run_cond rfl (fun hc => ?_) (fun hc => ?_) <;> try (simp only [*, Bool.true_eq_false, Bool.false_eq_true, Bool.not_true, Bool.not_false, Bool.true_or, Bool.or_true, Bool.false_or, Bool.or_false, Bool.false_and, Bool.and_false, bne_self_eq_false, beq_self_eq_true] at hc; done))
    | refine run_block ?_
    | refine run_ret ?_
    | refine run_nil ?_
    | refine run_exit ?_
    | refine blk_normal ?_
    | refine blk_ret ?_
    | refine blk_here ?_
    | refine blk_there rfl ?_
    | refine loop_exit ?_
    | refine loop_ret ?_
    | refine un_exit ?_
    | refine un_ret ?_
    | refine unE_exit ?_
    | refine unE_ret ?_
    | refine un_normal ?_)
    refine run_region fun K hK => ?_
    simp (maxSteps := 10000000) only [microL, gotL, wantL, want0, codeLa, coreB, coreL, C3r0, C3r1, C3r2, C3r3, C3r4, C3r5, C3r6, C3r7, C3r8, C3r9, C3r10, C3r11, C3r12, C3r13, C3r14, C3r15, C3r16, C3r17, C3r18, C3r19, C3r20, C3r21, C3r22, C3r23, C3r24, C3r25, C3r26, C3r27, C3r28, C3r29, C3r30, C3r31, C3r32, C3r33, C3r34, C3r35, C3r36, C3r37, C3r38, rwp_nil, rwp_cons, rwpK_app, aop, gpath, St.get, slotAt, sfx, eqP, segsOf, St.put, addBlk, getB, setB, delB, ld1, ldn, st1, stn, setRow, rowNeed, segAt, nsub, bin, un, eqB, isShift, sameK, arith, shiftR, getsl, selB_or, selB_and, beqb, shed, addN, Nat.beq, Seg.size, sizes, imp, needP, andN, appL, argsOf, ptrsOf, aasOf, cut, takeS, dropS, putS, partsOf, fillS, fieldOf, nthA, negIf, nilq, nilB, eqS, eqF, eqS1, andP, kin, slcS, strOk, plusA, bndHi, leN, optG, roH, roL, initT, exOk, exAll, wrAddr, Nat.reduceAdd, Nat.reduceSub, Nat.reduceMul, Int.reduceToNat, List.append_nil, List.nil_append, List.cons_append, eqT, idxT, cat, cpy, ite_int, ite_bool, ite_seg, ite_segs, ite_nil, ite_twice, Int.toNat_natCast, app, addBs]
    refine call_t _ (con7_at c k himm0 0 _ _ false rfl (by decide) (by simp [keysLt])) ?_
    intro v H' h
    rw [if_pos he] at h
    obtain ⟨rfl, rfl⟩ := h
    simp (maxSteps := 10000000) only [microL, gotL, wantL, want0, codeLa, coreB, coreL, C3r0, C3r1, C3r2, C3r3, C3r4, C3r5, C3r6, C3r7, C3r8, C3r9, C3r10, C3r11, C3r12, C3r13, C3r14, C3r15, C3r16, C3r17, C3r18, C3r19, C3r20, C3r21, C3r22, C3r23, C3r24, C3r25, C3r26, C3r27, C3r28, C3r29, C3r30, C3r31, C3r32, C3r33, C3r34, C3r35, C3r36, C3r37, C3r38, rwp_nil, rwp_cons, rwpK_app, aop, gpath, St.get, slotAt, sfx, eqP, segsOf, St.put, addBlk, getB, setB, delB, ld1, ldn, st1, stn, setRow, rowNeed, segAt, nsub, bin, un, eqB, isShift, sameK, arith, shiftR, getsl, selB_or, selB_and, beqb, shed, addN, Nat.beq, Seg.size, sizes, imp, needP, andN, appL, argsOf, ptrsOf, aasOf, cut, takeS, dropS, putS, partsOf, fillS, fieldOf, nthA, negIf, nilq, nilB, eqS, eqF, eqS1, andP, kin, slcS, strOk, plusA, bndHi, leN, optG, roH, roL, initT, exOk, exAll, wrAddr, Nat.reduceAdd, Nat.reduceSub, Nat.reduceMul, Int.reduceToNat, List.append_nil, List.nil_append, List.cons_append, eqT, idxT, cat, cpy, ite_int, ite_bool, ite_seg, ite_segs, ite_nil, ite_twice, Int.toNat_natCast, app, addBs]
    refine hK _ ?_
    clear hK K
    repeat' (first
    | refine run_seq ?_
    | refine run_skip ?_
    | (refine run_region fun K hK => ?_; (try (simp (maxSteps := 10000000) only [microL, gotL, wantL, want0, codeLa, coreB, coreL, newS, beq_self_eq_true, core_eq, sp_eq, Bool.and_self, Bool.not_true, Bool.not_false, Bool.or_self, Bool.or_false, Bool.and_true, Bool.false_and, bne_self_eq_false, implies_true, and_self, C3r0, C3r1, C3r2, C3r3, C3r4, C3r5, C3r6, C3r7, C3r8, C3r9, C3r10, C3r11, C3r12, C3r14, C3r15, C3r16, C3r17, C3r18, C3r19, C3r20, C3r21, C3r22, C3r23, C3r24, C3r25, C3r26, C3r27, C3r28, C3r29, C3r30, C3r31, C3r32, C3r33, C3r34, C3r35, C3r36, C3r37, C3r38, rwp_nil, rwp_cons, rwpK_app, aop, gpath, St.get, slotAt, sfx, eqP, segsOf, St.put, addBlk, getB, setB, delB, ld1, ldn, st1, stn, setRow, rowNeed, segAt, nsub, bin, un, eqB, isShift, sameK, arith, shiftR, getsl, selB_or, selB_and, beqb, shed, addN, Nat.beq, Seg.size, sizes, imp, needP, andN, appL, argsOf, ptrsOf, aasOf, cut, takeS, dropS, putS, partsOf, fillS, fieldOf, nthA, negIf, nilq, nilB, eqS, eqF, eqS1, andP, kin, slcS, strOk, plusA, bndHi, leN, optG, roH, roL, initT, exOk, exAll, wrAddr, Nat.reduceAdd, Nat.reduceSub, Nat.reduceMul, Int.reduceToNat, List.append_nil, List.nil_append, List.cons_append, eqT, idxT, cat, cpy, ite_int, ite_bool, ite_seg, ite_segs, ite_nil, ite_twice, Int.toNat_natCast, app, addBs])); (repeat (first | (refine And.intro ?_ ?_; · (first | trivial | omega | (intros; trivial))) | ((first | refine call_g _ (imp_of (ro_at (con8r (newS c k)) 7 8 9 _ _ _ false rfl (by decide) (by decide) (by decide) (Nat.le_of_ble_eq_true rfl) (Nat.le_of_ble_eq_true rfl) (Nat.le_of_ble_eq_true rfl) (keysLt_roL (by simp [keysLt])) (by simp only [me, gotL, leArgs, leV, leV1, leSegs, leSeg, leC, leA, nthO, and_self]) rfl)) ?_ | refine call_g _ (imp_of (ro_at (con9r (newS c k)) 7 8 9 _ _ _ false rfl (by decide) (by decide) (by decide) (Nat.le_of_ble_eq_true rfl) (Nat.le_of_ble_eq_true rfl) (Nat.le_of_ble_eq_true rfl) (keysLt_roL (by simp [keysLt])) (by simp only [me, gotL, leArgs, leV, leV1, leSegs, leSeg, leC, leA, nthO, and_self]) rfl)) ?_ | refine call_g _ (imp_of (ro_at (con10r (newS c k)) 7 8 9 _ _ _ false rfl (by decide) (by decide) (by decide) (Nat.le_of_ble_eq_true rfl) (Nat.le_of_ble_eq_true rfl) (Nat.le_of_ble_eq_true rfl) (keysLt_roL (by simp [keysLt])) (by simp only [me, gotL, leArgs, leV, leV1, leSegs, leSeg, leC, leA, nthO, and_self]) rfl)) ?_); simp (maxSteps := 10000000) only [microL, gotL, wantL, want0, codeLa, coreB, coreL, newS, beq_self_eq_true, core_eq, sp_eq, Bool.and_self, Bool.not_true, Bool.not_false, Bool.or_self, Bool.or_false, Bool.and_true, Bool.false_and, bne_self_eq_false, implies_true, and_self, C3r0, C3r1, C3r2, C3r3, C3r4, C3r5, C3r6, C3r7, C3r8, C3r9, C3r10, C3r11, C3r12, C3r14, C3r15, C3r16, C3r17, C3r18, C3r19, C3r20, C3r21, C3r22, C3r23, C3r24, C3r25, C3r26, C3r27, C3r28, C3r29, C3r30, C3r31, C3r32, C3r33, C3r34, C3r35, C3r36, C3r37, C3r38, rwp_nil, rwp_cons, rwpK_app, aop, gpath, St.get, slotAt, sfx, eqP, segsOf, St.put, addBlk, getB, setB, delB, ld1, ldn, st1, stn, setRow, rowNeed, segAt, nsub, bin, un, eqB, isShift, sameK, arith, shiftR, getsl, selB_or, selB_and, beqb, shed, addN, Nat.beq, Seg.size, sizes, imp, needP, andN, appL, argsOf, ptrsOf, aasOf, cut, takeS, dropS, putS, partsOf, fillS, fieldOf, nthA, negIf, nilq, nilB, eqS, eqF, eqS1, andP, kin, slcS, strOk, plusA, bndHi, leN, optG, roH, roL, initT, exOk, exAll, wrAddr, Nat.reduceAdd, Nat.reduceSub, Nat.reduceMul, Int.reduceToNat, List.append_nil, List.nil_append, List.cons_append, eqT, idxT, cat, cpy, ite_int, ite_bool, ite_seg, ite_segs, ite_nil, ite_twice, Int.toNat_natCast, app, addBs]))); with_reducible refine hK _ ?_; clear hK K)
    | (refine run_cond rfl (fun hc => ?_) (fun hc => ?_) <;> try (simp only [*, Bool.true_eq_false, Bool.false_eq_true, Bool.not_true, Bool.not_false, Bool.true_or, Bool.or_true, Bool.false_or, Bool.or_false, Bool.false_and, Bool.and_false, bne_self_eq_false, beq_self_eq_true] at hc; done))
    | refine run_block ?_
    | refine run_ret ?_
    | refine run_nil ?_
    | refine run_exit ?_
    | refine blk_normal ?_
    | refine blk_ret ?_
    | refine blk_here ?_
    | refine blk_there rfl ?_
    | refine loop_exit ?_
    | refine loop_ret ?_
    | refine un_exit ?_
    | refine un_ret ?_
    | refine unE_exit ?_
    | refine unE_ret ?_
    | refine un_normal ?_)
    clear hc
    have her : rightS c = true := by
      cases h : rightS c with
      | true => rfl
      | false => simp [newErr, h] at he
    have hg0 := new_good (k := k) her himm0
    have hf0 := new_fine her himm hx hsp
    have hpf := pre_facts (rightS_pre her)
    (refine run_regionL fun K hK => ?_; (try (simp (maxSteps := 10000000) only [microL, gotL, wantL, want0, codeLa, coreB, coreL, C3r0, C3r1, C3r2, C3r3, C3r4, C3r5, C3r6, C3r7, C3r8, C3r9, C3r10, C3r11, C3r12, C3r13, C3r14, C3r15, C3r16, C3r17, C3r18, C3r19, C3r20, C3r21, C3r22, C3r23, C3r24, C3r25, C3r26, C3r27, C3r28, C3r29, C3r30, C3r31, C3r32, C3r33, C3r34, C3r35, C3r36, C3r37, C3r38, rwp_nil, rwp_cons, rwpK_app, aop, gpath, St.get, slotAt, sfx, eqP, segsOf, St.put, addBlk, getB, setB, delB, ld1, ldn, st1, stn, setRow, rowNeed, segAt, nsub, bin, un, eqB, isShift, sameK, arith, shiftR, getsl, selB_or, selB_and, beqb, shed, addN, Nat.beq, Seg.size, sizes, imp, needP, andN, appL, argsOf, ptrsOf, aasOf, cut, takeS, dropS, putS, partsOf, fillS, fieldOf, nthA, negIf, nilq, nilB, eqS, eqF, eqS1, andP, kin, slcS, strOk, plusA, bndHi, leN, optG, roH, roL, initT, exOk, exAll, wrAddr, Nat.reduceAdd, Nat.reduceSub, Nat.reduceMul, Int.reduceToNat, List.append_nil, List.nil_append, List.cons_append, eqT, idxT, cat, cpy, ite_int, ite_bool, ite_seg, ite_segs, ite_nil, ite_twice, Int.toNat_natCast, app, addBs])); (repeat (refine And.intro ?_ ?_; · first | trivial | assumption | omega)); refine hK _ (mr1 c ng gs nt tw (newS c k) c.ops 0) (le_mr1 5 6 7 8 9 10 11 _ _ _ (by simp only [diff, notIn, Nat.beq, and_self]) rfl rfl rfl rfl rfl rfl rfl rfl rfl rfl rfl rfl rfl (ops_le' _ _) rfl rfl rfl rfl rfl) ?_; clear hK K)
    refine run_block ?_
    refine run_loop (fun n st => ∃ (i : Nat) (xo : Nat → MicroS), st = mr1 c ng gs nt tw (newS c k) xo i ∧ i ≤ c.nops ∧ n = c.nops - i) c.nops ⟨0, c.ops, rfl, Nat.zero_le _, rfl⟩ ?_
    rintro n st ⟨i, xo, rfl, hi, hn⟩
    simp only [mr1]
    repeat' (first
    | refine run_seq ?_
    | refine run_skip ?_
    | (refine run_region fun K hK => ?_; (try (simp (maxSteps := 10000000) only [microL, gotL, wantL, want0, codeLa, coreB, coreL, xB, C3r0, C3r1, C3r2, C3r3, C3r4, C3r5, C3r6, C3r7, C3r8, C3r9, C3r10, C3r11, C3r12, C3r13, C3r14, C3r15, C3r16, C3r18, C3r19, C3r20, C3r21, C3r22, C3r23, C3r24, C3r25, C3r26, C3r27, C3r28, C3r29, C3r30, C3r31, C3r32, C3r33, C3r34, C3r35, C3r36, C3r37, C3r38, rwp_nil, rwp_cons, rwpK_app, aop, gpath, St.get, slotAt, sfx, eqP, segsOf, St.put, addBlk, getB, setB, delB, ld1, ldn, st1, stn, setRow, rowNeed, segAt, nsub, bin, un, eqB, isShift, sameK, arith, shiftR, getsl, selB_or, selB_and, beqb, shed, addN, Nat.beq, Seg.size, sizes, imp, needP, andN, appL, argsOf, ptrsOf, aasOf, cut, takeS, dropS, putS, partsOf, fillS, fieldOf, nthA, negIf, nilq, nilB, eqS, eqF, eqS1, andP, kin, slcS, strOk, plusA, bndHi, leN, optG, roH, roL, initT, exOk, exAll, wrAddr, Nat.reduceAdd, Nat.reduceSub, Nat.reduceMul, Int.reduceToNat, List.append_nil, List.nil_append, List.cons_append, eqT, idxT, cat, cpy, ite_int, ite_bool, ite_seg, ite_segs, ite_nil, ite_twice, Int.toNat_natCast, app, addBs])); (repeat (first | (refine And.intro ?_ ?_; · (first | omega | (simp only [decide_eq_true_eq] at hc; omega))))); with_reducible refine hK _ ?_; clear hK K)
    | (refine run_cond rfl (fun hc => ?_) (fun hc => ?_) <;> try (simp only [*, Bool.true_eq_false, Bool.false_eq_true, Bool.not_true, Bool.not_false, Bool.true_or, Bool.or_true, Bool.false_or, Bool.or_false, Bool.false_and, Bool.and_false, bne_self_eq_false, beq_self_eq_true] at hc; done))
    | refine run_block ?_
    | refine run_ret ?_
    | refine run_nil ?_
    | refine run_exit ?_
    | refine blk_normal ?_
    | refine blk_ret ?_
    | refine blk_here ?_
    | refine blk_there rfl ?_
    | refine loop_exit ?_
    | refine loop_ret ?_
    | refine un_exit ?_
    | refine un_ret ?_
    | refine unE_exit ?_
    | refine unE_ret ?_
    | refine un_normal ?_)
    · have hlt : i < c.nops := by simpa using hc
      have hw2 : IntKind.i64.wrap ((i : Int) + 1) = ((i + 1 : Nat) : Int) := by rw [wrap64 (by omega) (by omega)]; omega
      rw [hw2]
      refine loop_normal (n - 1) (mr1 c ng gs nt tw (newS c k) (fun j => if j = i then ⟨20, 0, 0, 0, 0, 0, 0⟩ else xo j) (i + 1)) (by omega) (le_mr1 4 5 6 7 8 9 10 _ _ _ (by simp only [diff, notIn, Nat.beq, and_self]) rfl rfl rfl rfl rfl rfl rfl rfl rfl rfl rfl rfl rfl ?_ rfl rfl rfl rfl rfl) ⟨i + 1, _, rfl, hlt, by omega⟩
      refine ⟨rfl, rfl, id, Nat.le_refl _, fun j hj => ?_⟩
      simp only [xB, microL]
      by_cases hji : j = i
      · simp only [hji, if_true, leSegs, leSeg, leC, and_self]
      · simp only [hji, if_false, leSegs, leSeg, leC, and_self]
    (refine run_regionL fun K hK => ?_; (try (simp (maxSteps := 10000000) only [microL, gotL, wantL, want0, codeLa, coreB, coreL, C3r0, C3r1, C3r2, C3r3, C3r4, C3r5, C3r6, C3r7, C3r8, C3r9, C3r10, C3r11, C3r12, C3r13, C3r14, C3r15, C3r16, C3r17, C3r18, C3r19, C3r20, C3r21, C3r22, C3r23, C3r24, C3r25, C3r26, C3r27, C3r28, C3r29, C3r30, C3r31, C3r32, C3r33, C3r34, C3r35, C3r36, C3r37, C3r38, rwp_nil, rwp_cons, rwpK_app, aop, gpath, St.get, slotAt, sfx, eqP, segsOf, St.put, addBlk, getB, setB, delB, ld1, ldn, st1, stn, setRow, rowNeed, segAt, nsub, bin, un, eqB, isShift, sameK, arith, shiftR, getsl, selB_or, selB_and, beqb, shed, addN, Nat.beq, Seg.size, sizes, imp, needP, andN, appL, argsOf, ptrsOf, aasOf, cut, takeS, dropS, putS, partsOf, fillS, fieldOf, nthA, negIf, nilq, nilB, eqS, eqF, eqS1, andP, kin, slcS, strOk, plusA, bndHi, leN, optG, roH, roL, initT, exOk, exAll, wrAddr, Nat.reduceAdd, Nat.reduceSub, Nat.reduceMul, Int.reduceToNat, List.append_nil, List.nil_append, List.cons_append, eqT, idxT, cat, cpy, ite_int, ite_bool, ite_seg, ite_segs, ite_nil, ite_twice, Int.toNat_natCast, app, addBs])); (repeat (refine And.intro ?_ ?_; · first | trivial | assumption | omega)); refine hK _ (mrSt c ng gs nt tw (newS c k) want0 0) (le_mr 6 7 8 9 10 _ _ _ (by simp only [diff, notIn, Nat.beq, and_self]) rfl rfl rfl rfl rfl rfl rfl rfl rfl rfl rfl rfl rfl rfl rfl) ?_; clear hK K)
    clear hc hn hi
    refine run_block ?_
    refine run_loop (fun n st => ∃ (i : Nat) (s : RunS) (W : WantS), st = mrSt c ng gs nt tw s W i ∧ GoodS s ∧ FineS s ∧ (isN s.waits = false → W = s.want) ∧ s.nops = c.nops ∧ s.ops = c.ops ∧ (i : Int) ≤ s.at_ ∧ i < c.nops ∧ n = c.nops - i) c.nops ⟨0, newS c k, want0, rfl, hg0, hf0, fun h => (by cases h), rfl, rfl, Int.le_refl _, by omega, rfl⟩ ?_
    clear hg0 hf0 he
    rintro n st ⟨i, s, W, rfl, hgs, hfs, hW, hns, hops, hat, hi, hn⟩
    obtain ⟨hgt, htl, hta, htn⟩ := nextR_good hgs
    have hft := nextR_fine hgs hfs
    have hnn := next_next hgs
    have hto := nextR_ops s
    simp only [mrSt]
    repeat' (first
    | refine run_seq ?_
    | refine run_skip ?_
    | (refine run_region fun K hK => ?_; (try (simp (maxSteps := 10000000) only [microL, gotL, wantL, want0, codeLa, coreB, coreL, gotsBk, twB, refB, refLa, C3r0, C3r1, C3r2, C3r3, C3r4, C3r5, C3r6, C3r7, C3r8, C3r9, C3r10, C3r11, C3r12, C3r13, C3r14, C3r15, C3r16, C3r17, C3r18, C3r19, C3r20, C3r22, C3r23, C3r24, C3r25, C3r26, C3r27, C3r28, C3r29, C3r30, C3r31, C3r32, C3r33, C3r34, C3r35, C3r36, C3r37, C3r38, rwp_nil, rwp_cons, rwpK_app, aop, gpath, St.get, slotAt, sfx, eqP, segsOf, St.put, addBlk, getB, setB, delB, ld1, ldn, st1, stn, setRow, rowNeed, segAt, nsub, bin, un, eqB, isShift, sameK, arith, shiftR, getsl, selB_or, selB_and, beqb, shed, addN, Nat.beq, Seg.size, sizes, imp, needP, andN, appL, argsOf, ptrsOf, aasOf, cut, takeS, dropS, putS, partsOf, fillS, fieldOf, nthA, negIf, nilq, nilB, eqS, eqF, eqS1, andP, kin, slcS, strOk, plusA, bndHi, leN, optG, roH, roL, initT, exOk, exAll, wrAddr, Nat.reduceAdd, Nat.reduceSub, Nat.reduceMul, Int.reduceToNat, List.append_nil, List.nil_append, List.cons_append, eqT, idxT, cat, cpy, ite_int, ite_bool, ite_seg, ite_segs, ite_nil, ite_twice, Int.toNat_natCast, app, addBs])); (repeat (first | (refine And.intro ?_ ?_; · omega) | ((first | (refine call_t _ (run_at (con11 s hgs) 4 5 6 _ _ _ rfl rfl rfl (by decide) (by decide) (by decide) (Nat.le_of_ble_eq_true rfl) (Nat.le_of_ble_eq_true rfl) (Nat.le_of_ble_eq_true rfl) (by simp [keysLt]) (by simp only [me, gotL, leArgs, leV, leV1, leSegs, leSeg, leC, leA, nthO, and_self]) rfl) ?_; rintro v H' ⟨rfl, rfl⟩) | refine call_q _ (run_at (con11 s hgs) 4 5 6 _ _ _ rfl rfl rfl (by decide) (by decide) (by decide) (Nat.le_of_ble_eq_true rfl) (Nat.le_of_ble_eq_true rfl) (Nat.le_of_ble_eq_true rfl) (by simp [keysLt]) (by simp only [me, gotL, leArgs, leV, leV1, leSegs, leSeg, leC, leA, nthO, and_self]) rfl) ?_ | refine call_g _ (imp_of (run_at (con11 s hgs) 4 5 6 _ _ _ rfl rfl rfl (by decide) (by decide) (by decide) (Nat.le_of_ble_eq_true rfl) (Nat.le_of_ble_eq_true rfl) (Nat.le_of_ble_eq_true rfl) (by simp [keysLt]) (by simp only [me, gotL, leArgs, leV, leV1, leSegs, leSeg, leC, leA, nthO, and_self]) rfl)) ?_ | (refine call_t _ (ref_at (con12 s W hgs hfs hW) 7 0 8 _ _ _ false rfl (by simp only [hns, hops]; rfl) rfl (by decide) (by decide) (by decide) (Nat.le_of_ble_eq_true rfl) (Nat.le_of_ble_eq_true rfl) (Nat.le_of_ble_eq_true rfl) (by simp [keysLt]) (by simp only [me, gotL, leArgs, leV, leV1, leSegs, leSeg, leC, leA, nthO, and_self]) rfl) ?_; rintro v H' ⟨rfl, rfl⟩) | refine call_q _ (ref_at (con12 s W hgs hfs hW) 7 0 8 _ _ _ false rfl (by simp only [hns, hops]; rfl) rfl (by decide) (by decide) (by decide) (Nat.le_of_ble_eq_true rfl) (Nat.le_of_ble_eq_true rfl) (Nat.le_of_ble_eq_true rfl) (by simp [keysLt]) (by simp only [me, gotL, leArgs, leV, leV1, leSegs, leSeg, leC, leA, nthO, and_self]) rfl) ?_ | refine call_g _ (imp_of (ref_at (con12 s W hgs hfs hW) 7 0 8 _ _ _ false rfl (by simp only [hns, hops]; rfl) rfl (by decide) (by decide) (by decide) (Nat.le_of_ble_eq_true rfl) (Nat.le_of_ble_eq_true rfl) (Nat.le_of_ble_eq_true rfl) (by simp [keysLt]) (by simp only [me, gotL, leArgs, leV, leV1, leSegs, leSeg, leC, leA, nthO, and_self]) rfl)) ?_); simp (maxSteps := 10000000) only [microL, gotL, wantL, want0, codeLa, coreB, coreL, gotsBk, twB, refB, refLa, C3r0, C3r1, C3r2, C3r3, C3r4, C3r5, C3r6, C3r7, C3r8, C3r9, C3r10, C3r11, C3r12, C3r13, C3r14, C3r15, C3r16, C3r17, C3r18, C3r19, C3r20, C3r22, C3r23, C3r24, C3r25, C3r26, C3r27, C3r28, C3r29, C3r30, C3r31, C3r32, C3r33, C3r34, C3r35, C3r36, C3r37, C3r38, rwp_nil, rwp_cons, rwpK_app, aop, gpath, St.get, slotAt, sfx, eqP, segsOf, St.put, addBlk, getB, setB, delB, ld1, ldn, st1, stn, setRow, rowNeed, segAt, nsub, bin, un, eqB, isShift, sameK, arith, shiftR, getsl, selB_or, selB_and, beqb, shed, addN, Nat.beq, Seg.size, sizes, imp, needP, andN, appL, argsOf, ptrsOf, aasOf, cut, takeS, dropS, putS, partsOf, fillS, fieldOf, nthA, negIf, nilq, nilB, eqS, eqF, eqS1, andP, kin, slcS, strOk, plusA, bndHi, leN, optG, roH, roL, initT, exOk, exAll, wrAddr, Nat.reduceAdd, Nat.reduceSub, Nat.reduceMul, Int.reduceToNat, List.append_nil, List.nil_append, List.cons_append, eqT, idxT, cat, cpy, ite_int, ite_bool, ite_seg, ite_segs, ite_nil, ite_twice, Int.toNat_natCast, app, addBs]))); with_reducible refine hK _ ?_; clear hK K)
    | (refine run_cond rfl (fun hc => ?_) (fun hc => ?_) <;> try (simp only [*, Bool.true_eq_false, Bool.false_eq_true, Bool.not_true, Bool.not_false, Bool.true_or, Bool.or_true, Bool.false_or, Bool.or_false, Bool.false_and, Bool.and_false, bne_self_eq_false, beq_self_eq_true] at hc; done))
    | refine run_block ?_
    | refine run_ret ?_
    | refine run_nil ?_
    | refine run_exit ?_
    | refine blk_normal ?_
    | refine blk_ret ?_
    | refine blk_here ?_
    | refine blk_there rfl ?_
    | refine loop_exit ?_
    | refine loop_ret ?_
    | refine un_exit ?_
    | refine un_ret ?_
    | refine unE_exit ?_
    | refine unE_ret ?_
    | refine un_normal ?_)
    rotate_right
    · exfalso; simp at hc; omega
    generalize nextR s = t at *
    have hnt : t.nops = c.nops := htn.trans hns
    have hot : t.ops = c.ops := hto.trans hops
    have h11 : Con Try.prog 11 [me] (runH t) (fun v H' => v = .tup [.agg (wantL t.want), .c (.bool (!isN t.waits))] ∧ H' = runH t) := by
      have := con11 t hgt
      rwa [hnn] at this
    repeat' (first
    | refine run_seq ?_
    | refine run_skip ?_
    | (refine run_region fun K hK => ?_; (try (simp (maxSteps := 10000000) only [microL, gotL, wantL, want0, codeLa, coreB, coreL, gotsBk, twB, refB, refLa, beq_self_eq_true, core_eq, sp_eq, Bool.and_self, Bool.not_true, Bool.not_false, Bool.or_self, Bool.or_false, Bool.and_true, Bool.false_and, bne_self_eq_false, implies_true, and_self, C3r0, C3r1, C3r2, C3r3, C3r4, C3r5, C3r6, C3r7, C3r8, C3r9, C3r10, C3r11, C3r12, C3r13, C3r14, C3r15, C3r16, C3r17, C3r18, C3r19, C3r20, C3r21, C3r22, C3r23, C3r24, C3r25, C3r26, C3r27, C3r29, C3r31, C3r32, C3r33, C3r34, C3r35, C3r36, C3r37, C3r38, rwp_nil, rwp_cons, rwpK_app, aop, gpath, St.get, slotAt, sfx, eqP, segsOf, St.put, addBlk, getB, setB, delB, ld1, ldn, st1, stn, setRow, rowNeed, segAt, nsub, bin, un, eqB, isShift, sameK, arith, shiftR, getsl, selB_or, selB_and, beqb, shed, addN, Nat.beq, Seg.size, sizes, imp, needP, andN, appL, argsOf, ptrsOf, aasOf, cut, takeS, dropS, putS, partsOf, fillS, fieldOf, nthA, negIf, nilq, nilB, eqS, eqF, eqS1, andP, kin, slcS, strOk, plusA, bndHi, leN, optG, roH, roL, initT, exOk, exAll, wrAddr, Nat.reduceAdd, Nat.reduceSub, Nat.reduceMul, Int.reduceToNat, List.append_nil, List.nil_append, List.cons_append, eqT, idxT, cat, cpy, ite_int, ite_bool, ite_seg, ite_segs, ite_nil, ite_twice, Int.toNat_natCast, app, addBs])); (repeat (first | (refine And.intro ?_ ?_; · (first | trivial | omega | (intros; trivial) | (intro h; simp only [decide_eq_true_eq] at h; omega) | (simp only [decide_eq_true_eq] at hc; omega))) | ((first | (refine call_t _ (run_at (h11) 4 5 6 _ _ _ rfl rfl rfl (by decide) (by decide) (by decide) (Nat.le_of_ble_eq_true rfl) (Nat.le_of_ble_eq_true rfl) (Nat.le_of_ble_eq_true rfl) (by simp [keysLt]) (by simp only [me, gotL, leArgs, leV, leV1, leSegs, leSeg, leC, leA, nthO, and_self]) rfl) ?_; rintro v H' ⟨rfl, rfl⟩) | refine call_q _ (run_at (h11) 4 5 6 _ _ _ rfl rfl rfl (by decide) (by decide) (by decide) (Nat.le_of_ble_eq_true rfl) (Nat.le_of_ble_eq_true rfl) (Nat.le_of_ble_eq_true rfl) (by simp [keysLt]) (by simp only [me, gotL, leArgs, leV, leV1, leSegs, leSeg, leC, leA, nthO, and_self]) rfl) ?_ | refine call_g _ (imp_of (run_at (h11) 4 5 6 _ _ _ rfl rfl rfl (by decide) (by decide) (by decide) (Nat.le_of_ble_eq_true rfl) (Nat.le_of_ble_eq_true rfl) (Nat.le_of_ble_eq_true rfl) (by simp [keysLt]) (by simp only [me, gotL, leArgs, leV, leV1, leSegs, leSeg, leC, leA, nthO, and_self]) rfl)) ?_ | refine call_g _ (imp_of (ro_at (con8r t) 4 5 6 _ _ _ false rfl (by decide) (by decide) (by decide) (Nat.le_of_ble_eq_true rfl) (Nat.le_of_ble_eq_true rfl) (Nat.le_of_ble_eq_true rfl) (keysLt_roL (by simp [keysLt])) (by simp only [me, gotL, leArgs, leV, leV1, leSegs, leSeg, leC, leA, nthO, and_self]) rfl)) ?_ | refine call_g _ (imp_of (ro_at (con9r t) 4 5 6 _ _ _ false rfl (by decide) (by decide) (by decide) (Nat.le_of_ble_eq_true rfl) (Nat.le_of_ble_eq_true rfl) (Nat.le_of_ble_eq_true rfl) (keysLt_roL (by simp [keysLt])) (by simp only [me, gotL, leArgs, leV, leV1, leSegs, leSeg, leC, leA, nthO, and_self]) rfl)) ?_); simp (maxSteps := 10000000) only [microL, gotL, wantL, want0, codeLa, coreB, coreL, gotsBk, twB, refB, refLa, beq_self_eq_true, core_eq, sp_eq, Bool.and_self, Bool.not_true, Bool.not_false, Bool.or_self, Bool.or_false, Bool.and_true, Bool.false_and, bne_self_eq_false, implies_true, and_self, C3r0, C3r1, C3r2, C3r3, C3r4, C3r5, C3r6, C3r7, C3r8, C3r9, C3r10, C3r11, C3r12, C3r13, C3r14, C3r15, C3r16, C3r17, C3r18, C3r19, C3r20, C3r21, C3r22, C3r23, C3r24, C3r25, C3r26, C3r27, C3r29, C3r31, C3r32, C3r33, C3r34, C3r35, C3r36, C3r37, C3r38, rwp_nil, rwp_cons, rwpK_app, aop, gpath, St.get, slotAt, sfx, eqP, segsOf, St.put, addBlk, getB, setB, delB, ld1, ldn, st1, stn, setRow, rowNeed, segAt, nsub, bin, un, eqB, isShift, sameK, arith, shiftR, getsl, selB_or, selB_and, beqb, shed, addN, Nat.beq, Seg.size, sizes, imp, needP, andN, appL, argsOf, ptrsOf, aasOf, cut, takeS, dropS, putS, partsOf, fillS, fieldOf, nthA, negIf, nilq, nilB, eqS, eqF, eqS1, andP, kin, slcS, strOk, plusA, bndHi, leN, optG, roH, roL, initT, exOk, exAll, wrAddr, Nat.reduceAdd, Nat.reduceSub, Nat.reduceMul, Int.reduceToNat, List.append_nil, List.nil_append, List.cons_append, eqT, idxT, cat, cpy, ite_int, ite_bool, ite_seg, ite_segs, ite_nil, ite_twice, Int.toNat_natCast, app, addBs]))); with_reducible refine hK _ ?_; clear hK K)
    | (refine run_cond rfl (fun hc => ?_) (fun hc => ?_) <;> try (simp only [*, Bool.true_eq_false, Bool.false_eq_true, Bool.not_true, Bool.not_false, Bool.true_or, Bool.or_true, Bool.false_or, Bool.or_false, Bool.false_and, Bool.and_false, bne_self_eq_false, beq_self_eq_true] at hc; done))
    | refine run_block ?_
    | refine run_ret ?_
    | refine run_nil ?_
    | refine run_exit ?_
    | refine blk_normal ?_
    | refine blk_ret ?_
    | refine blk_here ?_
    | refine blk_there rfl ?_
    | refine loop_exit ?_
    | refine loop_ret ?_
    | refine un_exit ?_
    | refine un_ret ?_
    | refine unE_exit ?_
    | refine unE_ret ?_
    | refine un_normal ?_)
    · have hwt : isN t.waits = true := by simpa using hc
      have hgw := guest_wrap hft.reg.g
      clear hc
      repeat' (first
    | refine run_seq ?_
    | refine run_skip ?_
    | (refine run_region fun K hK => ?_; (try (simp (maxSteps := 10000000) only [microL, gotL, wantL, want0, codeLa, coreB, coreL, gotsBk, twB, refB, refLa, beq_self_eq_true, core_eq, sp_eq, Bool.and_self, Bool.not_true, Bool.not_false, Bool.or_self, Bool.or_false, Bool.and_true, Bool.false_and, bne_self_eq_false, implies_true, and_self, hgw, C3r0, C3r1, C3r2, C3r3, C3r4, C3r5, C3r6, C3r7, C3r8, C3r9, C3r10, C3r11, C3r12, C3r13, C3r14, C3r15, C3r16, C3r17, C3r18, C3r19, C3r20, C3r21, C3r22, C3r23, C3r24, C3r25, C3r26, C3r27, C3r28, C3r29, C3r30, C3r31, C3r32, C3r33, C3r34, C3r35, C3r36, C3r37, C3r38, rwp_nil, rwp_cons, rwpK_app, aop, gpath, St.get, slotAt, sfx, eqP, segsOf, St.put, addBlk, getB, setB, delB, ld1, ldn, st1, stn, setRow, rowNeed, segAt, nsub, bin, un, eqB, isShift, sameK, arith, shiftR, getsl, selB_or, selB_and, beqb, shed, addN, Nat.beq, Seg.size, sizes, imp, needP, andN, appL, argsOf, ptrsOf, aasOf, cut, takeS, dropS, putS, partsOf, fillS, fieldOf, nthA, negIf, nilq, nilB, eqS, eqF, eqS1, andP, kin, slcS, strOk, plusA, bndHi, leN, optG, roH, roL, initT, exOk, exAll, wrAddr, Nat.reduceAdd, Nat.reduceSub, Nat.reduceMul, Int.reduceToNat, List.append_nil, List.nil_append, List.cons_append, eqT, idxT, cat, cpy, ite_int, ite_bool, ite_seg, ite_segs, ite_nil, ite_twice, Int.toNat_natCast, app, addBs])); (repeat (first | (refine And.intro ?_ ?_; · (first | trivial | omega | (intros; trivial) | (intro h; simp only [decide_eq_true_eq] at h; omega) | (simp only [decide_eq_true_eq] at hc; omega))) | ((first | (refine call_t _ (ro_at (con13r t) 4 5 6 _ _ _ true rfl (by decide) (by decide) (by decide) (Nat.le_of_ble_eq_true rfl) (Nat.le_of_ble_eq_true rfl) (Nat.le_of_ble_eq_true rfl) (by simp [keysLt]) (by simp only [me, gotL, leArgs, leV, leV1, leSegs, leSeg, leC, leA, nthO, and_self]) rfl) ?_; rintro v H' ⟨rfl, rfl⟩) | refine call_q _ (ro_at (con13r t) 4 5 6 _ _ _ true rfl (by decide) (by decide) (by decide) (Nat.le_of_ble_eq_true rfl) (Nat.le_of_ble_eq_true rfl) (Nat.le_of_ble_eq_true rfl) (by simp [keysLt]) (by simp only [me, gotL, leArgs, leV, leV1, leSegs, leSeg, leC, leA, nthO, and_self]) rfl) ?_ | refine call_g _ (imp_of (ro_at (con13r t) 4 5 6 _ _ _ true rfl (by decide) (by decide) (by decide) (Nat.le_of_ble_eq_true rfl) (Nat.le_of_ble_eq_true rfl) (Nat.le_of_ble_eq_true rfl) (by simp [keysLt]) (by simp only [me, gotL, leArgs, leV, leV1, leSegs, leSeg, leC, leA, nthO, and_self]) rfl)) ?_ | refine call_g _ (imp_of (ro_at (con10r t) 4 5 6 _ _ _ false rfl (by decide) (by decide) (by decide) (Nat.le_of_ble_eq_true rfl) (Nat.le_of_ble_eq_true rfl) (Nat.le_of_ble_eq_true rfl) (keysLt_roL (by simp [keysLt])) (by simp only [me, gotL, leArgs, leV, leV1, leSegs, leSeg, leC, leA, nthO, and_self]) rfl)) ?_ | refine call_g _ (imp_of (ro_at (con14r t ⟨0, false, 0⟩ (isN_none hwt)) 4 5 6 _ _ _ false rfl (by decide) (by decide) (by decide) (Nat.le_of_ble_eq_true rfl) (Nat.le_of_ble_eq_true rfl) (Nat.le_of_ble_eq_true rfl) (keysLt_roL (by simp [keysLt])) (by simp only [me, gotL, leArgs, leV, leV1, leSegs, leSeg, leC, leA, nthO, and_self]) rfl)) ?_); simp (maxSteps := 10000000) only [microL, gotL, wantL, want0, codeLa, coreB, coreL, gotsBk, twB, refB, refLa, beq_self_eq_true, core_eq, sp_eq, Bool.and_self, Bool.not_true, Bool.not_false, Bool.or_self, Bool.or_false, Bool.and_true, Bool.false_and, bne_self_eq_false, implies_true, and_self, hgw, C3r0, C3r1, C3r2, C3r3, C3r4, C3r5, C3r6, C3r7, C3r8, C3r9, C3r10, C3r11, C3r12, C3r13, C3r14, C3r15, C3r16, C3r17, C3r18, C3r19, C3r20, C3r21, C3r22, C3r23, C3r24, C3r25, C3r26, C3r27, C3r28, C3r29, C3r30, C3r31, C3r32, C3r33, C3r34, C3r35, C3r36, C3r37, C3r38, rwp_nil, rwp_cons, rwpK_app, aop, gpath, St.get, slotAt, sfx, eqP, segsOf, St.put, addBlk, getB, setB, delB, ld1, ldn, st1, stn, setRow, rowNeed, segAt, nsub, bin, un, eqB, isShift, sameK, arith, shiftR, getsl, selB_or, selB_and, beqb, shed, addN, Nat.beq, Seg.size, sizes, imp, needP, andN, appL, argsOf, ptrsOf, aasOf, cut, takeS, dropS, putS, partsOf, fillS, fieldOf, nthA, negIf, nilq, nilB, eqS, eqF, eqS1, andP, kin, slcS, strOk, plusA, bndHi, leN, optG, roH, roL, initT, exOk, exAll, wrAddr, Nat.reduceAdd, Nat.reduceSub, Nat.reduceMul, Int.reduceToNat, List.append_nil, List.nil_append, List.cons_append, eqT, idxT, cat, cpy, ite_int, ite_bool, ite_seg, ite_segs, ite_nil, ite_twice, Int.toNat_natCast, app, addBs]))); with_reducible refine hK _ ?_; clear hK K)
    | (refine run_cond rfl (fun hc => ?_) (fun hc => ?_) <;> try (simp only [*, Bool.true_eq_false, Bool.false_eq_true, Bool.not_true, Bool.not_false, Bool.true_or, Bool.or_true, Bool.false_or, Bool.or_false, Bool.false_and, Bool.and_false, bne_self_eq_false, beq_self_eq_true] at hc; done))
    | refine run_block ?_
    | refine run_ret ?_
    | refine run_nil ?_
    | refine run_exit ?_
    | refine blk_normal ?_
    | refine blk_ret ?_
    | refine blk_here ?_
    | refine blk_there rfl ?_
    | refine loop_exit ?_
    | refine loop_ret ?_
    | refine un_exit ?_
    | refine un_ret ?_
    | refine unE_exit ?_
    | refine unE_ret ?_
    | refine un_normal ?_)
      subst hR
      exact end_mr rfl rfl rfl true rfl ⟨rfl, rfl⟩
    · have hwt : isN t.waits = false := by simpa using hc
      obtain ⟨hlt, hwo, hk12, hk17⟩ := hgt.wl hwt
      have ha1 := hgt.atn hlt
      have ha0 := hgt.at0
      have hlv := (hgt.ops t.at_.toNat (by omega)).lv
      have hlast : t.at_ + 1 < t.nops := by
        have : ¬ t.at_.toNat + 1 = t.nops := fun e => by have := hlv.2 e; omega
        omega
      have hgf : t.isGuest = false := by
        cases hg : t.isGuest with
        | false => rfl
        | true => have := (hgt.gl hg).1; rw [this] at hlt; cases hlt
      clear hc
      repeat' (first
    | refine run_seq ?_
    | refine run_skip ?_
    | (refine run_region fun K hK => ?_; (try (simp (maxSteps := 10000000) only [microL, gotL, wantL, want0, codeLa, coreB, coreL, gotsBk, twB, refB, refLa, beq_self_eq_true, core_eq, sp_eq, Bool.and_self, Bool.not_true, Bool.not_false, Bool.or_self, Bool.or_false, Bool.and_true, Bool.false_and, bne_self_eq_false, implies_true, and_self, C3r0, C3r1, C3r2, C3r3, C3r4, C3r5, C3r6, C3r7, C3r8, C3r9, C3r10, C3r11, C3r12, C3r13, C3r14, C3r15, C3r16, C3r17, C3r18, C3r19, C3r20, C3r21, C3r22, C3r23, C3r24, C3r25, C3r26, C3r27, C3r28, C3r29, C3r30, C3r31, C3r32, C3r34, C3r35, C3r36, C3r37, C3r38, rwp_nil, rwp_cons, rwpK_app, aop, gpath, St.get, slotAt, sfx, eqP, segsOf, St.put, addBlk, getB, setB, delB, ld1, ldn, st1, stn, setRow, rowNeed, segAt, nsub, bin, un, eqB, isShift, sameK, arith, shiftR, getsl, selB_or, selB_and, beqb, shed, addN, Nat.beq, Seg.size, sizes, imp, needP, andN, appL, argsOf, ptrsOf, aasOf, cut, takeS, dropS, putS, partsOf, fillS, fieldOf, nthA, negIf, nilq, nilB, eqS, eqF, eqS1, andP, kin, slcS, strOk, plusA, bndHi, leN, optG, roH, roL, initT, exOk, exAll, wrAddr, Nat.reduceAdd, Nat.reduceSub, Nat.reduceMul, Int.reduceToNat, List.append_nil, List.nil_append, List.cons_append, eqT, idxT, cat, cpy, ite_int, ite_bool, ite_seg, ite_segs, ite_nil, ite_twice, Int.toNat_natCast, app, addBs])); (repeat (first | (refine And.intro ?_ ?_; · (first | trivial | omega | (intros; trivial) | (intro h; simp only [decide_eq_true_eq] at h; omega) | (simp only [decide_eq_true_eq] at hc; omega))))); with_reducible refine hK _ ?_; clear hK K)
    | (refine run_cond rfl (fun hc => ?_) (fun hc => ?_) <;> try (simp only [*, Bool.true_eq_false, Bool.false_eq_true, Bool.not_true, Bool.not_false, Bool.true_or, Bool.or_true, Bool.false_or, Bool.or_false, Bool.false_and, Bool.and_false, bne_self_eq_false, beq_self_eq_true] at hc; done))
    | refine run_block ?_
    | refine run_ret ?_
    | refine run_nil ?_
    | refine run_exit ?_
    | refine blk_normal ?_
    | refine blk_ret ?_
    | refine blk_here ?_
    | refine blk_there rfl ?_
    | refine loop_exit ?_
    | refine loop_ret ?_
    | refine un_exit ?_
    | refine un_ret ?_
    | refine unE_exit ?_
    | refine unE_ret ?_
    | refine un_normal ?_)
      · have hlg : i < ng := by simpa using hc
        obtain ⟨hgk, hka, hkn⟩ := took_good hgt hwt (gs i)
        have hfk := took_fine hft (gs i) (hgv i hlg)
        clear hc
        repeat' (first
    | refine run_seq ?_
    | refine run_skip ?_
    | (refine run_region fun K hK => ?_; (try (simp (maxSteps := 10000000) only [microL, gotL, wantL, want0, codeLa, coreB, coreL, gotsBk, twB, refB, refLa, beq_self_eq_true, core_eq, sp_eq, Bool.and_self, Bool.not_true, Bool.not_false, Bool.or_self, Bool.or_false, Bool.and_true, Bool.false_and, bne_self_eq_false, implies_true, and_self, C3r0, C3r1, C3r2, C3r3, C3r4, C3r5, C3r6, C3r7, C3r8, C3r9, C3r10, C3r11, C3r12, C3r13, C3r14, C3r15, C3r16, C3r17, C3r18, C3r19, C3r20, C3r21, C3r22, C3r23, C3r24, C3r25, C3r26, C3r27, C3r28, C3r29, C3r30, C3r31, C3r32, C3r33, C3r34, C3r35, C3r36, C3r37, C3r38, rwp_nil, rwp_cons, rwpK_app, aop, gpath, St.get, slotAt, sfx, eqP, segsOf, St.put, addBlk, getB, setB, delB, ld1, ldn, st1, stn, setRow, rowNeed, segAt, nsub, bin, un, eqB, isShift, sameK, arith, shiftR, getsl, selB_or, selB_and, beqb, shed, addN, Nat.beq, Seg.size, sizes, imp, needP, andN, appL, argsOf, ptrsOf, aasOf, cut, takeS, dropS, putS, partsOf, fillS, fieldOf, nthA, negIf, nilq, nilB, eqS, eqF, eqS1, andP, kin, slcS, strOk, plusA, bndHi, leN, optG, roH, roL, initT, exOk, exAll, wrAddr, Nat.reduceAdd, Nat.reduceSub, Nat.reduceMul, Int.reduceToNat, List.append_nil, List.nil_append, List.cons_append, eqT, idxT, cat, cpy, ite_int, ite_bool, ite_seg, ite_segs, ite_nil, ite_twice, Int.toNat_natCast, app, addBs])); (repeat (first | (refine And.intro ?_ ?_; · (first | trivial | omega | (intros; trivial) | (intro h; simp only [decide_eq_true_eq] at h; omega) | (simp only [decide_eq_true_eq] at hc; omega))) | ((first | (refine call_t _ (ref_at (con15 t (wNext t W) (gs i) hgt hft hwt) 7 0 8 _ _ _ false rfl (by simp only [hnt, hot]; rfl) rfl (by decide) (by decide) (by decide) (Nat.le_of_ble_eq_true rfl) (Nat.le_of_ble_eq_true rfl) (Nat.le_of_ble_eq_true rfl) (by simp [keysLt]) (by simp only [me, gotL, leArgs, leV, leV1, leSegs, leSeg, leC, leA, nthO, and_self]) rfl) ?_; rintro v H' ⟨rfl, rfl⟩) | refine call_q _ (ref_at (con15 t (wNext t W) (gs i) hgt hft hwt) 7 0 8 _ _ _ false rfl (by simp only [hnt, hot]; rfl) rfl (by decide) (by decide) (by decide) (Nat.le_of_ble_eq_true rfl) (Nat.le_of_ble_eq_true rfl) (Nat.le_of_ble_eq_true rfl) (by simp [keysLt]) (by simp only [me, gotL, leArgs, leV, leV1, leSegs, leSeg, leC, leA, nthO, and_self]) rfl) ?_ | refine call_g _ (imp_of (ref_at (con15 t (wNext t W) (gs i) hgt hft hwt) 7 0 8 _ _ _ false rfl (by simp only [hnt, hot]; rfl) rfl (by decide) (by decide) (by decide) (Nat.le_of_ble_eq_true rfl) (Nat.le_of_ble_eq_true rfl) (Nat.le_of_ble_eq_true rfl) (by simp [keysLt]) (by simp only [me, gotL, leArgs, leV, leV1, leSegs, leSeg, leC, leA, nthO, and_self]) rfl)) ?_ | (refine call_t _ (ro_at (con13r t) 4 5 6 _ _ _ true rfl (by decide) (by decide) (by decide) (Nat.le_of_ble_eq_true rfl) (Nat.le_of_ble_eq_true rfl) (Nat.le_of_ble_eq_true rfl) (by simp [keysLt]) (by simp only [me, gotL, leArgs, leV, leV1, leSegs, leSeg, leC, leA, nthO, and_self]) rfl) ?_; rintro v H' ⟨rfl, rfl⟩) | refine call_q _ (ro_at (con13r t) 4 5 6 _ _ _ true rfl (by decide) (by decide) (by decide) (Nat.le_of_ble_eq_true rfl) (Nat.le_of_ble_eq_true rfl) (Nat.le_of_ble_eq_true rfl) (by simp [keysLt]) (by simp only [me, gotL, leArgs, leV, leV1, leSegs, leSeg, leC, leA, nthO, and_self]) rfl) ?_ | refine call_g _ (imp_of (ro_at (con13r t) 4 5 6 _ _ _ true rfl (by decide) (by decide) (by decide) (Nat.le_of_ble_eq_true rfl) (Nat.le_of_ble_eq_true rfl) (Nat.le_of_ble_eq_true rfl) (by simp [keysLt]) (by simp only [me, gotL, leArgs, leV, leV1, leSegs, leSeg, leC, leA, nthO, and_self]) rfl)) ?_ | (refine call_c _ ⟨by assumption, trivial⟩ (run_at (con14 t (gs i) hgt hwt) 4 5 6 _ _ _ rfl rfl rfl (by decide) (by decide) (by decide) (Nat.le_of_ble_eq_true rfl) (Nat.le_of_ble_eq_true rfl) (Nat.le_of_ble_eq_true rfl) (by simp [keysLt]) (by simp only [me, gotL, leArgs, leV, leV1, leSegs, leSeg, leC, leA, nthO, and_self]) rfl) ?_; rintro v H' ⟨rfl, rfl⟩) | refine call_g _ (imp_of (ro_at (con9r (tookS t (gs i))) 4 5 6 _ _ _ false rfl (by decide) (by decide) (by decide) (Nat.le_of_ble_eq_true rfl) (Nat.le_of_ble_eq_true rfl) (Nat.le_of_ble_eq_true rfl) (keysLt_roL (by simp [keysLt])) (by simp only [me, gotL, leArgs, leV, leV1, leSegs, leSeg, leC, leA, nthO, and_self]) rfl)) ?_ | refine call_g _ (imp_of (ro_at (con10r (tookS t (gs i))) 4 5 6 _ _ _ false rfl (by decide) (by decide) (by decide) (Nat.le_of_ble_eq_true rfl) (Nat.le_of_ble_eq_true rfl) (Nat.le_of_ble_eq_true rfl) (keysLt_roL (by simp [keysLt])) (by simp only [me, gotL, leArgs, leV, leV1, leSegs, leSeg, leC, leA, nthO, and_self]) rfl)) ?_); simp (maxSteps := 10000000) only [microL, gotL, wantL, want0, codeLa, coreB, coreL, gotsBk, twB, refB, refLa, beq_self_eq_true, core_eq, sp_eq, Bool.and_self, Bool.not_true, Bool.not_false, Bool.or_self, Bool.or_false, Bool.and_true, Bool.false_and, bne_self_eq_false, implies_true, and_self, C3r0, C3r1, C3r2, C3r3, C3r4, C3r5, C3r6, C3r7, C3r8, C3r9, C3r10, C3r11, C3r12, C3r13, C3r14, C3r15, C3r16, C3r17, C3r18, C3r19, C3r20, C3r21, C3r22, C3r23, C3r24, C3r25, C3r26, C3r27, C3r28, C3r29, C3r30, C3r31, C3r32, C3r33, C3r34, C3r35, C3r36, C3r37, C3r38, rwp_nil, rwp_cons, rwpK_app, aop, gpath, St.get, slotAt, sfx, eqP, segsOf, St.put, addBlk, getB, setB, delB, ld1, ldn, st1, stn, setRow, rowNeed, segAt, nsub, bin, un, eqB, isShift, sameK, arith, shiftR, getsl, selB_or, selB_and, beqb, shed, addN, Nat.beq, Seg.size, sizes, imp, needP, andN, appL, argsOf, ptrsOf, aasOf, cut, takeS, dropS, putS, partsOf, fillS, fieldOf, nthA, negIf, nilq, nilB, eqS, eqF, eqS1, andP, kin, slcS, strOk, plusA, bndHi, leN, optG, roH, roL, initT, exOk, exAll, wrAddr, Nat.reduceAdd, Nat.reduceSub, Nat.reduceMul, Int.reduceToNat, List.append_nil, List.nil_append, List.cons_append, eqT, idxT, cat, cpy, ite_int, ite_bool, ite_seg, ite_segs, ite_nil, ite_twice, Int.toNat_natCast, app, addBs]))); with_reducible refine hK _ ?_; clear hK K)
    | (refine run_cond rfl (fun hc => ?_) (fun hc => ?_) <;> try (simp only [*, Bool.true_eq_false, Bool.false_eq_true, Bool.not_true, Bool.not_false, Bool.true_or, Bool.or_true, Bool.false_or, Bool.or_false, Bool.false_and, Bool.and_false, bne_self_eq_false, beq_self_eq_true] at hc; done))
    | refine run_block ?_
    | refine run_ret ?_
    | refine run_nil ?_
    | refine run_exit ?_
    | refine blk_normal ?_
    | refine blk_ret ?_
    | refine blk_here ?_
    | refine blk_there rfl ?_
    | refine loop_exit ?_
    | refine loop_ret ?_
    | refine un_exit ?_
    | refine un_ret ?_
    | refine unE_exit ?_
    | refine unE_ret ?_
    | refine un_normal ?_)
        have hw2 : IntKind.i64.wrap ((i : Int) + 1) = ((i + 1 : Nat) : Int) := by rw [wrap64 (by omega) (by omega)]; omega
        rw [hw2]
        exact loop_normal (n - 1) (mrSt c ng gs nt tw (tookS t (gs i)) (wNext t W) (i + 1)) (by omega) (le_mr 4 5 6 7 8 _ _ _ (by simp only [diff, notIn, Nat.beq, and_self]) rfl rfl rfl rfl rfl rfl rfl rfl rfl rfl rfl rfl rfl rfl rfl) ⟨i + 1, _, _, rfl, hgk, hfk, fun h => (by cases h), by rw [hkn]; exact hnt, by rw [took_ops]; exact hot, by omega, by omega, by omega⟩

      · obtain ⟨hgk, hka, hkn⟩ := took_good hgt hwt (⟨0, false, 0⟩)
        have hfk := took_fine hft (⟨0, false, 0⟩) U0
        clear hc
        repeat' (first
    | refine run_seq ?_
    | refine run_skip ?_
    | (refine run_region fun K hK => ?_; (try (simp (maxSteps := 10000000) only [microL, gotL, wantL, want0, codeLa, coreB, coreL, gotsBk, twB, refB, refLa, beq_self_eq_true, core_eq, sp_eq, Bool.and_self, Bool.not_true, Bool.not_false, Bool.or_self, Bool.or_false, Bool.and_true, Bool.false_and, bne_self_eq_false, implies_true, and_self, C3r0, C3r1, C3r2, C3r3, C3r4, C3r5, C3r6, C3r7, C3r8, C3r9, C3r10, C3r11, C3r12, C3r13, C3r14, C3r15, C3r16, C3r17, C3r18, C3r19, C3r20, C3r21, C3r22, C3r23, C3r24, C3r25, C3r26, C3r27, C3r28, C3r29, C3r30, C3r31, C3r32, C3r33, C3r34, C3r35, C3r36, C3r37, C3r38, rwp_nil, rwp_cons, rwpK_app, aop, gpath, St.get, slotAt, sfx, eqP, segsOf, St.put, addBlk, getB, setB, delB, ld1, ldn, st1, stn, setRow, rowNeed, segAt, nsub, bin, un, eqB, isShift, sameK, arith, shiftR, getsl, selB_or, selB_and, beqb, shed, addN, Nat.beq, Seg.size, sizes, imp, needP, andN, appL, argsOf, ptrsOf, aasOf, cut, takeS, dropS, putS, partsOf, fillS, fieldOf, nthA, negIf, nilq, nilB, eqS, eqF, eqS1, andP, kin, slcS, strOk, plusA, bndHi, leN, optG, roH, roL, initT, exOk, exAll, wrAddr, Nat.reduceAdd, Nat.reduceSub, Nat.reduceMul, Int.reduceToNat, List.append_nil, List.nil_append, List.cons_append, eqT, idxT, cat, cpy, ite_int, ite_bool, ite_seg, ite_segs, ite_nil, ite_twice, Int.toNat_natCast, app, addBs])); (repeat (first | (refine And.intro ?_ ?_; · (first | trivial | omega | (intros; trivial) | (intro h; simp only [decide_eq_true_eq] at h; omega) | (simp only [decide_eq_true_eq] at hc; omega))) | ((first | (refine call_t _ (ref_at (con15 t (wNext t W) (⟨0, false, 0⟩) hgt hft hwt) 7 0 8 _ _ _ false rfl (by simp only [hnt, hot]; rfl) rfl (by decide) (by decide) (by decide) (Nat.le_of_ble_eq_true rfl) (Nat.le_of_ble_eq_true rfl) (Nat.le_of_ble_eq_true rfl) (by simp [keysLt]) (by simp only [me, gotL, leArgs, leV, leV1, leSegs, leSeg, leC, leA, nthO, and_self]) rfl) ?_; rintro v H' ⟨rfl, rfl⟩) | refine call_q _ (ref_at (con15 t (wNext t W) (⟨0, false, 0⟩) hgt hft hwt) 7 0 8 _ _ _ false rfl (by simp only [hnt, hot]; rfl) rfl (by decide) (by decide) (by decide) (Nat.le_of_ble_eq_true rfl) (Nat.le_of_ble_eq_true rfl) (Nat.le_of_ble_eq_true rfl) (by simp [keysLt]) (by simp only [me, gotL, leArgs, leV, leV1, leSegs, leSeg, leC, leA, nthO, and_self]) rfl) ?_ | refine call_g _ (imp_of (ref_at (con15 t (wNext t W) (⟨0, false, 0⟩) hgt hft hwt) 7 0 8 _ _ _ false rfl (by simp only [hnt, hot]; rfl) rfl (by decide) (by decide) (by decide) (Nat.le_of_ble_eq_true rfl) (Nat.le_of_ble_eq_true rfl) (Nat.le_of_ble_eq_true rfl) (by simp [keysLt]) (by simp only [me, gotL, leArgs, leV, leV1, leSegs, leSeg, leC, leA, nthO, and_self]) rfl)) ?_ | (refine call_t _ (ro_at (con13r t) 4 5 6 _ _ _ true rfl (by decide) (by decide) (by decide) (Nat.le_of_ble_eq_true rfl) (Nat.le_of_ble_eq_true rfl) (Nat.le_of_ble_eq_true rfl) (by simp [keysLt]) (by simp only [me, gotL, leArgs, leV, leV1, leSegs, leSeg, leC, leA, nthO, and_self]) rfl) ?_; rintro v H' ⟨rfl, rfl⟩) | refine call_q _ (ro_at (con13r t) 4 5 6 _ _ _ true rfl (by decide) (by decide) (by decide) (Nat.le_of_ble_eq_true rfl) (Nat.le_of_ble_eq_true rfl) (Nat.le_of_ble_eq_true rfl) (by simp [keysLt]) (by simp only [me, gotL, leArgs, leV, leV1, leSegs, leSeg, leC, leA, nthO, and_self]) rfl) ?_ | refine call_g _ (imp_of (ro_at (con13r t) 4 5 6 _ _ _ true rfl (by decide) (by decide) (by decide) (Nat.le_of_ble_eq_true rfl) (Nat.le_of_ble_eq_true rfl) (Nat.le_of_ble_eq_true rfl) (by simp [keysLt]) (by simp only [me, gotL, leArgs, leV, leV1, leSegs, leSeg, leC, leA, nthO, and_self]) rfl)) ?_ | (refine call_c _ ⟨by assumption, trivial⟩ (run_at (con14 t (⟨0, false, 0⟩) hgt hwt) 4 5 6 _ _ _ rfl rfl rfl (by decide) (by decide) (by decide) (Nat.le_of_ble_eq_true rfl) (Nat.le_of_ble_eq_true rfl) (Nat.le_of_ble_eq_true rfl) (by simp [keysLt]) (by simp only [me, gotL, leArgs, leV, leV1, leSegs, leSeg, leC, leA, nthO, and_self]) rfl) ?_; rintro v H' ⟨rfl, rfl⟩) | refine call_g _ (imp_of (ro_at (con9r (tookS t (⟨0, false, 0⟩))) 4 5 6 _ _ _ false rfl (by decide) (by decide) (by decide) (Nat.le_of_ble_eq_true rfl) (Nat.le_of_ble_eq_true rfl) (Nat.le_of_ble_eq_true rfl) (keysLt_roL (by simp [keysLt])) (by simp only [me, gotL, leArgs, leV, leV1, leSegs, leSeg, leC, leA, nthO, and_self]) rfl)) ?_ | refine call_g _ (imp_of (ro_at (con10r (tookS t (⟨0, false, 0⟩))) 4 5 6 _ _ _ false rfl (by decide) (by decide) (by decide) (Nat.le_of_ble_eq_true rfl) (Nat.le_of_ble_eq_true rfl) (Nat.le_of_ble_eq_true rfl) (keysLt_roL (by simp [keysLt])) (by simp only [me, gotL, leArgs, leV, leV1, leSegs, leSeg, leC, leA, nthO, and_self]) rfl)) ?_); simp (maxSteps := 10000000) only [microL, gotL, wantL, want0, codeLa, coreB, coreL, gotsBk, twB, refB, refLa, beq_self_eq_true, core_eq, sp_eq, Bool.and_self, Bool.not_true, Bool.not_false, Bool.or_self, Bool.or_false, Bool.and_true, Bool.false_and, bne_self_eq_false, implies_true, and_self, C3r0, C3r1, C3r2, C3r3, C3r4, C3r5, C3r6, C3r7, C3r8, C3r9, C3r10, C3r11, C3r12, C3r13, C3r14, C3r15, C3r16, C3r17, C3r18, C3r19, C3r20, C3r21, C3r22, C3r23, C3r24, C3r25, C3r26, C3r27, C3r28, C3r29, C3r30, C3r31, C3r32, C3r33, C3r34, C3r35, C3r36, C3r37, C3r38, rwp_nil, rwp_cons, rwpK_app, aop, gpath, St.get, slotAt, sfx, eqP, segsOf, St.put, addBlk, getB, setB, delB, ld1, ldn, st1, stn, setRow, rowNeed, segAt, nsub, bin, un, eqB, isShift, sameK, arith, shiftR, getsl, selB_or, selB_and, beqb, shed, addN, Nat.beq, Seg.size, sizes, imp, needP, andN, appL, argsOf, ptrsOf, aasOf, cut, takeS, dropS, putS, partsOf, fillS, fieldOf, nthA, negIf, nilq, nilB, eqS, eqF, eqS1, andP, kin, slcS, strOk, plusA, bndHi, leN, optG, roH, roL, initT, exOk, exAll, wrAddr, Nat.reduceAdd, Nat.reduceSub, Nat.reduceMul, Int.reduceToNat, List.append_nil, List.nil_append, List.cons_append, eqT, idxT, cat, cpy, ite_int, ite_bool, ite_seg, ite_segs, ite_nil, ite_twice, Int.toNat_natCast, app, addBs]))); with_reducible refine hK _ ?_; clear hK K)
    | (refine run_cond rfl (fun hc => ?_) (fun hc => ?_) <;> try (simp only [*, Bool.true_eq_false, Bool.false_eq_true, Bool.not_true, Bool.not_false, Bool.true_or, Bool.or_true, Bool.false_or, Bool.or_false, Bool.false_and, Bool.and_false, bne_self_eq_false, beq_self_eq_true] at hc; done))
    | refine run_block ?_
    | refine run_ret ?_
    | refine run_nil ?_
    | refine run_exit ?_
    | refine blk_normal ?_
    | refine blk_ret ?_
    | refine blk_here ?_
    | refine blk_there rfl ?_
    | refine loop_exit ?_
    | refine loop_ret ?_
    | refine un_exit ?_
    | refine un_ret ?_
    | refine unE_exit ?_
    | refine unE_ret ?_
    | refine un_normal ?_)
        have hw2 : IntKind.i64.wrap ((i : Int) + 1) = ((i + 1 : Nat) : Int) := by rw [wrap64 (by omega) (by omega)]; omega
        rw [hw2]
        exact loop_normal (n - 1) (mrSt c ng gs nt tw (tookS t (⟨0, false, 0⟩)) (wNext t W) (i + 1)) (by omega) (le_mr 4 5 6 7 8 _ _ _ (by simp only [diff, notIn, Nat.beq, and_self]) rfl rfl rfl rfl rfl rfl rfl rfl rfl rfl rfl rfl rfl rfl rfl) ⟨i + 1, _, _, rfl, hgk, hfk, fun h => (by cases h), by rw [hkn]; exact hnt, by rw [took_ops]; exact hot, by omega, by omega, by omega⟩

    · have hwt : isN t.waits = true := by simpa using hc
      have hgw := guest_wrap hft.reg.g
      clear hc
      repeat' (first
    | refine run_seq ?_
    | refine run_skip ?_
    | (refine run_region fun K hK => ?_; (try (simp (maxSteps := 10000000) only [microL, gotL, wantL, want0, codeLa, coreB, coreL, gotsBk, twB, refB, refLa, beq_self_eq_true, core_eq, sp_eq, Bool.and_self, Bool.not_true, Bool.not_false, Bool.or_self, Bool.or_false, Bool.and_true, Bool.false_and, bne_self_eq_false, implies_true, and_self, hgw, C3r0, C3r1, C3r2, C3r3, C3r4, C3r5, C3r6, C3r7, C3r8, C3r9, C3r10, C3r11, C3r12, C3r13, C3r14, C3r15, C3r16, C3r17, C3r18, C3r19, C3r20, C3r21, C3r22, C3r23, C3r24, C3r25, C3r26, C3r27, C3r28, C3r29, C3r30, C3r31, C3r32, C3r33, C3r34, C3r35, C3r36, C3r37, C3r38, rwp_nil, rwp_cons, rwpK_app, aop, gpath, St.get, slotAt, sfx, eqP, segsOf, St.put, addBlk, getB, setB, delB, ld1, ldn, st1, stn, setRow, rowNeed, segAt, nsub, bin, un, eqB, isShift, sameK, arith, shiftR, getsl, selB_or, selB_and, beqb, shed, addN, Nat.beq, Seg.size, sizes, imp, needP, andN, appL, argsOf, ptrsOf, aasOf, cut, takeS, dropS, putS, partsOf, fillS, fieldOf, nthA, negIf, nilq, nilB, eqS, eqF, eqS1, andP, kin, slcS, strOk, plusA, bndHi, leN, optG, roH, roL, initT, exOk, exAll, wrAddr, Nat.reduceAdd, Nat.reduceSub, Nat.reduceMul, Int.reduceToNat, List.append_nil, List.nil_append, List.cons_append, eqT, idxT, cat, cpy, ite_int, ite_bool, ite_seg, ite_segs, ite_nil, ite_twice, Int.toNat_natCast, app, addBs])); (repeat (first | (refine And.intro ?_ ?_; · (first | trivial | omega | (intros; trivial) | (intro h; simp only [decide_eq_true_eq] at h; omega) | (simp only [decide_eq_true_eq] at hc; omega))) | ((first | (refine call_t _ (ro_at (con13r t) 4 5 6 _ _ _ true rfl (by decide) (by decide) (by decide) (Nat.le_of_ble_eq_true rfl) (Nat.le_of_ble_eq_true rfl) (Nat.le_of_ble_eq_true rfl) (by simp [keysLt]) (by simp only [me, gotL, leArgs, leV, leV1, leSegs, leSeg, leC, leA, nthO, and_self]) rfl) ?_; rintro v H' ⟨rfl, rfl⟩) | refine call_q _ (ro_at (con13r t) 4 5 6 _ _ _ true rfl (by decide) (by decide) (by decide) (Nat.le_of_ble_eq_true rfl) (Nat.le_of_ble_eq_true rfl) (Nat.le_of_ble_eq_true rfl) (by simp [keysLt]) (by simp only [me, gotL, leArgs, leV, leV1, leSegs, leSeg, leC, leA, nthO, and_self]) rfl) ?_ | refine call_g _ (imp_of (ro_at (con13r t) 4 5 6 _ _ _ true rfl (by decide) (by decide) (by decide) (Nat.le_of_ble_eq_true rfl) (Nat.le_of_ble_eq_true rfl) (Nat.le_of_ble_eq_true rfl) (by simp [keysLt]) (by simp only [me, gotL, leArgs, leV, leV1, leSegs, leSeg, leC, leA, nthO, and_self]) rfl)) ?_ | refine call_g _ (imp_of (ro_at (con10r t) 4 5 6 _ _ _ false rfl (by decide) (by decide) (by decide) (Nat.le_of_ble_eq_true rfl) (Nat.le_of_ble_eq_true rfl) (Nat.le_of_ble_eq_true rfl) (keysLt_roL (by simp [keysLt])) (by simp only [me, gotL, leArgs, leV, leV1, leSegs, leSeg, leC, leA, nthO, and_self]) rfl)) ?_ | refine call_g _ (imp_of (ro_at (con14r t ⟨0, false, 0⟩ (isN_none hwt)) 4 5 6 _ _ _ false rfl (by decide) (by decide) (by decide) (Nat.le_of_ble_eq_true rfl) (Nat.le_of_ble_eq_true rfl) (Nat.le_of_ble_eq_true rfl) (keysLt_roL (by simp [keysLt])) (by simp only [me, gotL, leArgs, leV, leV1, leSegs, leSeg, leC, leA, nthO, and_self]) rfl)) ?_); simp (maxSteps := 10000000) only [microL, gotL, wantL, want0, codeLa, coreB, coreL, gotsBk, twB, refB, refLa, beq_self_eq_true, core_eq, sp_eq, Bool.and_self, Bool.not_true, Bool.not_false, Bool.or_self, Bool.or_false, Bool.and_true, Bool.false_and, bne_self_eq_false, implies_true, and_self, hgw, C3r0, C3r1, C3r2, C3r3, C3r4, C3r5, C3r6, C3r7, C3r8, C3r9, C3r10, C3r11, C3r12, C3r13, C3r14, C3r15, C3r16, C3r17, C3r18, C3r19, C3r20, C3r21, C3r22, C3r23, C3r24, C3r25, C3r26, C3r27, C3r28, C3r29, C3r30, C3r31, C3r32, C3r33, C3r34, C3r35, C3r36, C3r37, C3r38, rwp_nil, rwp_cons, rwpK_app, aop, gpath, St.get, slotAt, sfx, eqP, segsOf, St.put, addBlk, getB, setB, delB, ld1, ldn, st1, stn, setRow, rowNeed, segAt, nsub, bin, un, eqB, isShift, sameK, arith, shiftR, getsl, selB_or, selB_and, beqb, shed, addN, Nat.beq, Seg.size, sizes, imp, needP, andN, appL, argsOf, ptrsOf, aasOf, cut, takeS, dropS, putS, partsOf, fillS, fieldOf, nthA, negIf, nilq, nilB, eqS, eqF, eqS1, andP, kin, slcS, strOk, plusA, bndHi, leN, optG, roH, roL, initT, exOk, exAll, wrAddr, Nat.reduceAdd, Nat.reduceSub, Nat.reduceMul, Int.reduceToNat, List.append_nil, List.nil_append, List.cons_append, eqT, idxT, cat, cpy, ite_int, ite_bool, ite_seg, ite_segs, ite_nil, ite_twice, Int.toNat_natCast, app, addBs]))); with_reducible refine hK _ ?_; clear hK K)
    | (refine run_cond rfl (fun hc => ?_) (fun hc => ?_) <;> try (simp only [*, Bool.true_eq_false, Bool.false_eq_true, Bool.not_true, Bool.not_false, Bool.true_or, Bool.or_true, Bool.false_or, Bool.or_false, Bool.false_and, Bool.and_false, bne_self_eq_false, beq_self_eq_true] at hc; done))
    | refine run_block ?_
    | refine run_ret ?_
    | refine run_nil ?_
    | refine run_exit ?_
    | refine blk_normal ?_
    | refine blk_ret ?_
    | refine blk_here ?_
    | refine blk_there rfl ?_
    | refine loop_exit ?_
    | refine loop_ret ?_
    | refine un_exit ?_
    | refine un_ret ?_
    | refine unE_exit ?_
    | refine unE_ret ?_
    | refine un_normal ?_)
      subst hR
      exact end_mr rfl rfl rfl true rfl ⟨rfl, rfl⟩
    · have hwt : isN t.waits = false := by simpa using hc
      obtain ⟨hlt, hwo, hk12, hk17⟩ := hgt.wl hwt
      have ha1 := hgt.atn hlt
      have ha0 := hgt.at0
      have hlv := (hgt.ops t.at_.toNat (by omega)).lv
      have hlast : t.at_ + 1 < t.nops := by
        have : ¬ t.at_.toNat + 1 = t.nops := fun e => by have := hlv.2 e; omega
        omega
      have hgf : t.isGuest = false := by
        cases hg : t.isGuest with
        | false => rfl
        | true => have := (hgt.gl hg).1; rw [this] at hlt; cases hlt
      clear hc
      repeat' (first
    | refine run_seq ?_
    | refine run_skip ?_
    | (refine run_region fun K hK => ?_; (try (simp (maxSteps := 10000000) only [microL, gotL, wantL, want0, codeLa, coreB, coreL, gotsBk, twB, refB, refLa, beq_self_eq_true, core_eq, sp_eq, Bool.and_self, Bool.not_true, Bool.not_false, Bool.or_self, Bool.or_false, Bool.and_true, Bool.false_and, bne_self_eq_false, implies_true, and_self, C3r0, C3r1, C3r2, C3r3, C3r4, C3r5, C3r6, C3r7, C3r8, C3r9, C3r10, C3r11, C3r12, C3r13, C3r14, C3r15, C3r16, C3r17, C3r18, C3r19, C3r20, C3r21, C3r22, C3r23, C3r24, C3r25, C3r26, C3r27, C3r28, C3r29, C3r30, C3r31, C3r32, C3r34, C3r35, C3r36, C3r37, C3r38, rwp_nil, rwp_cons, rwpK_app, aop, gpath, St.get, slotAt, sfx, eqP, segsOf, St.put, addBlk, getB, setB, delB, ld1, ldn, st1, stn, setRow, rowNeed, segAt, nsub, bin, un, eqB, isShift, sameK, arith, shiftR, getsl, selB_or, selB_and, beqb, shed, addN, Nat.beq, Seg.size, sizes, imp, needP, andN, appL, argsOf, ptrsOf, aasOf, cut, takeS, dropS, putS, partsOf, fillS, fieldOf, nthA, negIf, nilq, nilB, eqS, eqF, eqS1, andP, kin, slcS, strOk, plusA, bndHi, leN, optG, roH, roL, initT, exOk, exAll, wrAddr, Nat.reduceAdd, Nat.reduceSub, Nat.reduceMul, Int.reduceToNat, List.append_nil, List.nil_append, List.cons_append, eqT, idxT, cat, cpy, ite_int, ite_bool, ite_seg, ite_segs, ite_nil, ite_twice, Int.toNat_natCast, app, addBs])); (repeat (first | (refine And.intro ?_ ?_; · (first | trivial | omega | (intros; trivial) | (intro h; simp only [decide_eq_true_eq] at h; omega) | (simp only [decide_eq_true_eq] at hc; omega))))); with_reducible refine hK _ ?_; clear hK K)
    | (refine run_cond rfl (fun hc => ?_) (fun hc => ?_) <;> try (simp only [*, Bool.true_eq_false, Bool.false_eq_true, Bool.not_true, Bool.not_false, Bool.true_or, Bool.or_true, Bool.false_or, Bool.or_false, Bool.false_and, Bool.and_false, bne_self_eq_false, beq_self_eq_true] at hc; done))
    | refine run_block ?_
    | refine run_ret ?_
    | refine run_nil ?_
    | refine run_exit ?_
    | refine blk_normal ?_
    | refine blk_ret ?_
    | refine blk_here ?_
    | refine blk_there rfl ?_
    | refine loop_exit ?_
    | refine loop_ret ?_
    | refine un_exit ?_
    | refine un_ret ?_
    | refine unE_exit ?_
    | refine unE_ret ?_
    | refine un_normal ?_)
      · have hlg : i < ng := by simpa using hc
        obtain ⟨hgk, hka, hkn⟩ := took_good hgt hwt (gs i)
        have hfk := took_fine hft (gs i) (hgv i hlg)
        clear hc
        repeat' (first
    | refine run_seq ?_
    | refine run_skip ?_
    | (refine run_region fun K hK => ?_; (try (simp (maxSteps := 10000000) only [microL, gotL, wantL, want0, codeLa, coreB, coreL, gotsBk, twB, refB, refLa, beq_self_eq_true, core_eq, sp_eq, Bool.and_self, Bool.not_true, Bool.not_false, Bool.or_self, Bool.or_false, Bool.and_true, Bool.false_and, bne_self_eq_false, implies_true, and_self, C3r0, C3r1, C3r2, C3r3, C3r4, C3r5, C3r6, C3r7, C3r8, C3r9, C3r10, C3r11, C3r12, C3r13, C3r14, C3r15, C3r16, C3r17, C3r18, C3r19, C3r20, C3r21, C3r22, C3r23, C3r24, C3r25, C3r26, C3r27, C3r28, C3r29, C3r30, C3r31, C3r32, C3r33, C3r34, C3r35, C3r36, C3r37, C3r38, rwp_nil, rwp_cons, rwpK_app, aop, gpath, St.get, slotAt, sfx, eqP, segsOf, St.put, addBlk, getB, setB, delB, ld1, ldn, st1, stn, setRow, rowNeed, segAt, nsub, bin, un, eqB, isShift, sameK, arith, shiftR, getsl, selB_or, selB_and, beqb, shed, addN, Nat.beq, Seg.size, sizes, imp, needP, andN, appL, argsOf, ptrsOf, aasOf, cut, takeS, dropS, putS, partsOf, fillS, fieldOf, nthA, negIf, nilq, nilB, eqS, eqF, eqS1, andP, kin, slcS, strOk, plusA, bndHi, leN, optG, roH, roL, initT, exOk, exAll, wrAddr, Nat.reduceAdd, Nat.reduceSub, Nat.reduceMul, Int.reduceToNat, List.append_nil, List.nil_append, List.cons_append, eqT, idxT, cat, cpy, ite_int, ite_bool, ite_seg, ite_segs, ite_nil, ite_twice, Int.toNat_natCast, app, addBs])); (repeat (first | (refine And.intro ?_ ?_; · (first | trivial | omega | (intros; trivial) | (intro h; simp only [decide_eq_true_eq] at h; omega) | (simp only [decide_eq_true_eq] at hc; omega))) | ((first | (refine call_t _ (ref_at (con15 t (wNext t W) (gs i) hgt hft hwt) 7 0 8 _ _ _ false rfl (by simp only [hnt, hot]; rfl) rfl (by decide) (by decide) (by decide) (Nat.le_of_ble_eq_true rfl) (Nat.le_of_ble_eq_true rfl) (Nat.le_of_ble_eq_true rfl) (by simp [keysLt]) (by simp only [me, gotL, leArgs, leV, leV1, leSegs, leSeg, leC, leA, nthO, and_self]) rfl) ?_; rintro v H' ⟨rfl, rfl⟩) | refine call_q _ (ref_at (con15 t (wNext t W) (gs i) hgt hft hwt) 7 0 8 _ _ _ false rfl (by simp only [hnt, hot]; rfl) rfl (by decide) (by decide) (by decide) (Nat.le_of_ble_eq_true rfl) (Nat.le_of_ble_eq_true rfl) (Nat.le_of_ble_eq_true rfl) (by simp [keysLt]) (by simp only [me, gotL, leArgs, leV, leV1, leSegs, leSeg, leC, leA, nthO, and_self]) rfl) ?_ | refine call_g _ (imp_of (ref_at (con15 t (wNext t W) (gs i) hgt hft hwt) 7 0 8 _ _ _ false rfl (by simp only [hnt, hot]; rfl) rfl (by decide) (by decide) (by decide) (Nat.le_of_ble_eq_true rfl) (Nat.le_of_ble_eq_true rfl) (Nat.le_of_ble_eq_true rfl) (by simp [keysLt]) (by simp only [me, gotL, leArgs, leV, leV1, leSegs, leSeg, leC, leA, nthO, and_self]) rfl)) ?_ | (refine call_t _ (ro_at (con13r t) 4 5 6 _ _ _ true rfl (by decide) (by decide) (by decide) (Nat.le_of_ble_eq_true rfl) (Nat.le_of_ble_eq_true rfl) (Nat.le_of_ble_eq_true rfl) (by simp [keysLt]) (by simp only [me, gotL, leArgs, leV, leV1, leSegs, leSeg, leC, leA, nthO, and_self]) rfl) ?_; rintro v H' ⟨rfl, rfl⟩) | refine call_q _ (ro_at (con13r t) 4 5 6 _ _ _ true rfl (by decide) (by decide) (by decide) (Nat.le_of_ble_eq_true rfl) (Nat.le_of_ble_eq_true rfl) (Nat.le_of_ble_eq_true rfl) (by simp [keysLt]) (by simp only [me, gotL, leArgs, leV, leV1, leSegs, leSeg, leC, leA, nthO, and_self]) rfl) ?_ | refine call_g _ (imp_of (ro_at (con13r t) 4 5 6 _ _ _ true rfl (by decide) (by decide) (by decide) (Nat.le_of_ble_eq_true rfl) (Nat.le_of_ble_eq_true rfl) (Nat.le_of_ble_eq_true rfl) (by simp [keysLt]) (by simp only [me, gotL, leArgs, leV, leV1, leSegs, leSeg, leC, leA, nthO, and_self]) rfl)) ?_ | (refine call_c _ ⟨by assumption, trivial⟩ (run_at (con14 t (gs i) hgt hwt) 4 5 6 _ _ _ rfl rfl rfl (by decide) (by decide) (by decide) (Nat.le_of_ble_eq_true rfl) (Nat.le_of_ble_eq_true rfl) (Nat.le_of_ble_eq_true rfl) (by simp [keysLt]) (by simp only [me, gotL, leArgs, leV, leV1, leSegs, leSeg, leC, leA, nthO, and_self]) rfl) ?_; rintro v H' ⟨rfl, rfl⟩) | refine call_g _ (imp_of (ro_at (con9r (tookS t (gs i))) 4 5 6 _ _ _ false rfl (by decide) (by decide) (by decide) (Nat.le_of_ble_eq_true rfl) (Nat.le_of_ble_eq_true rfl) (Nat.le_of_ble_eq_true rfl) (keysLt_roL (by simp [keysLt])) (by simp only [me, gotL, leArgs, leV, leV1, leSegs, leSeg, leC, leA, nthO, and_self]) rfl)) ?_ | refine call_g _ (imp_of (ro_at (con10r (tookS t (gs i))) 4 5 6 _ _ _ false rfl (by decide) (by decide) (by decide) (Nat.le_of_ble_eq_true rfl) (Nat.le_of_ble_eq_true rfl) (Nat.le_of_ble_eq_true rfl) (keysLt_roL (by simp [keysLt])) (by simp only [me, gotL, leArgs, leV, leV1, leSegs, leSeg, leC, leA, nthO, and_self]) rfl)) ?_); simp (maxSteps := 10000000) only [microL, gotL, wantL, want0, codeLa, coreB, coreL, gotsBk, twB, refB, refLa, beq_self_eq_true, core_eq, sp_eq, Bool.and_self, Bool.not_true, Bool.not_false, Bool.or_self, Bool.or_false, Bool.and_true, Bool.false_and, bne_self_eq_false, implies_true, and_self, C3r0, C3r1, C3r2, C3r3, C3r4, C3r5, C3r6, C3r7, C3r8, C3r9, C3r10, C3r11, C3r12, C3r13, C3r14, C3r15, C3r16, C3r17, C3r18, C3r19, C3r20, C3r21, C3r22, C3r23, C3r24, C3r25, C3r26, C3r27, C3r28, C3r29, C3r30, C3r31, C3r32, C3r33, C3r34, C3r35, C3r36, C3r37, C3r38, rwp_nil, rwp_cons, rwpK_app, aop, gpath, St.get, slotAt, sfx, eqP, segsOf, St.put, addBlk, getB, setB, delB, ld1, ldn, st1, stn, setRow, rowNeed, segAt, nsub, bin, un, eqB, isShift, sameK, arith, shiftR, getsl, selB_or, selB_and, beqb, shed, addN, Nat.beq, Seg.size, sizes, imp, needP, andN, appL, argsOf, ptrsOf, aasOf, cut, takeS, dropS, putS, partsOf, fillS, fieldOf, nthA, negIf, nilq, nilB, eqS, eqF, eqS1, andP, kin, slcS, strOk, plusA, bndHi, leN, optG, roH, roL, initT, exOk, exAll, wrAddr, Nat.reduceAdd, Nat.reduceSub, Nat.reduceMul, Int.reduceToNat, List.append_nil, List.nil_append, List.cons_append, eqT, idxT, cat, cpy, ite_int, ite_bool, ite_seg, ite_segs, ite_nil, ite_twice, Int.toNat_natCast, app, addBs]))); with_reducible refine hK _ ?_; clear hK K)
    | (refine run_cond rfl (fun hc => ?_) (fun hc => ?_) <;> try (simp only [*, Bool.true_eq_false, Bool.false_eq_true, Bool.not_true, Bool.not_false, Bool.true_or, Bool.or_true, Bool.false_or, Bool.or_false, Bool.false_and, Bool.and_false, bne_self_eq_false, beq_self_eq_true] at hc; done))
    | refine run_block ?_
    | refine run_ret ?_
    | refine run_nil ?_
    | refine run_exit ?_
    | refine blk_normal ?_
    | refine blk_ret ?_
    | refine blk_here ?_
    | refine blk_there rfl ?_
    | refine loop_exit ?_
    | refine loop_ret ?_
    | refine un_exit ?_
    | refine un_ret ?_
    | refine unE_exit ?_
    | refine unE_ret ?_
    | refine un_normal ?_)
        have hw2 : IntKind.i64.wrap ((i : Int) + 1) = ((i + 1 : Nat) : Int) := by rw [wrap64 (by omega) (by omega)]; omega
        rw [hw2]
        exact loop_normal (n - 1) (mrSt c ng gs nt tw (tookS t (gs i)) (wNext t W) (i + 1)) (by omega) (le_mr 4 5 6 7 8 _ _ _ (by simp only [diff, notIn, Nat.beq, and_self]) rfl rfl rfl rfl rfl rfl rfl rfl rfl rfl rfl rfl rfl rfl rfl) ⟨i + 1, _, _, rfl, hgk, hfk, fun h => (by cases h), by rw [hkn]; exact hnt, by rw [took_ops]; exact hot, by omega, by omega, by omega⟩

      · obtain ⟨hgk, hka, hkn⟩ := took_good hgt hwt (⟨0, false, 0⟩)
        have hfk := took_fine hft (⟨0, false, 0⟩) U0
        clear hc
        repeat' (first
    | refine run_seq ?_
    | refine run_skip ?_
    | (refine run_region fun K hK => ?_; (try (simp (maxSteps := 10000000) only [microL, gotL, wantL, want0, codeLa, coreB, coreL, gotsBk, twB, refB, refLa, beq_self_eq_true, core_eq, sp_eq, Bool.and_self, Bool.not_true, Bool.not_false, Bool.or_self, Bool.or_false, Bool.and_true, Bool.false_and, bne_self_eq_false, implies_true, and_self, C3r0, C3r1, C3r2, C3r3, C3r4, C3r5, C3r6, C3r7, C3r8, C3r9, C3r10, C3r11, C3r12, C3r13, C3r14, C3r15, C3r16, C3r17, C3r18, C3r19, C3r20, C3r21, C3r22, C3r23, C3r24, C3r25, C3r26, C3r27, C3r28, C3r29, C3r30, C3r31, C3r32, C3r33, C3r34, C3r35, C3r36, C3r37, C3r38, rwp_nil, rwp_cons, rwpK_app, aop, gpath, St.get, slotAt, sfx, eqP, segsOf, St.put, addBlk, getB, setB, delB, ld1, ldn, st1, stn, setRow, rowNeed, segAt, nsub, bin, un, eqB, isShift, sameK, arith, shiftR, getsl, selB_or, selB_and, beqb, shed, addN, Nat.beq, Seg.size, sizes, imp, needP, andN, appL, argsOf, ptrsOf, aasOf, cut, takeS, dropS, putS, partsOf, fillS, fieldOf, nthA, negIf, nilq, nilB, eqS, eqF, eqS1, andP, kin, slcS, strOk, plusA, bndHi, leN, optG, roH, roL, initT, exOk, exAll, wrAddr, Nat.reduceAdd, Nat.reduceSub, Nat.reduceMul, Int.reduceToNat, List.append_nil, List.nil_append, List.cons_append, eqT, idxT, cat, cpy, ite_int, ite_bool, ite_seg, ite_segs, ite_nil, ite_twice, Int.toNat_natCast, app, addBs])); (repeat (first | (refine And.intro ?_ ?_; · (first | trivial | omega | (intros; trivial) | (intro h; simp only [decide_eq_true_eq] at h; omega) | (simp only [decide_eq_true_eq] at hc; omega))) | ((first | (refine call_t _ (ref_at (con15 t (wNext t W) (⟨0, false, 0⟩) hgt hft hwt) 7 0 8 _ _ _ false rfl (by simp only [hnt, hot]; rfl) rfl (by decide) (by decide) (by decide) (Nat.le_of_ble_eq_true rfl) (Nat.le_of_ble_eq_true rfl) (Nat.le_of_ble_eq_true rfl) (by simp [keysLt]) (by simp only [me, gotL, leArgs, leV, leV1, leSegs, leSeg, leC, leA, nthO, and_self]) rfl) ?_; rintro v H' ⟨rfl, rfl⟩) | refine call_q _ (ref_at (con15 t (wNext t W) (⟨0, false, 0⟩) hgt hft hwt) 7 0 8 _ _ _ false rfl (by simp only [hnt, hot]; rfl) rfl (by decide) (by decide) (by decide) (Nat.le_of_ble_eq_true rfl) (Nat.le_of_ble_eq_true rfl) (Nat.le_of_ble_eq_true rfl) (by simp [keysLt]) (by simp only [me, gotL, leArgs, leV, leV1, leSegs, leSeg, leC, leA, nthO, and_self]) rfl) ?_ | refine call_g _ (imp_of (ref_at (con15 t (wNext t W) (⟨0, false, 0⟩) hgt hft hwt) 7 0 8 _ _ _ false rfl (by simp only [hnt, hot]; rfl) rfl (by decide) (by decide) (by decide) (Nat.le_of_ble_eq_true rfl) (Nat.le_of_ble_eq_true rfl) (Nat.le_of_ble_eq_true rfl) (by simp [keysLt]) (by simp only [me, gotL, leArgs, leV, leV1, leSegs, leSeg, leC, leA, nthO, and_self]) rfl)) ?_ | (refine call_t _ (ro_at (con13r t) 4 5 6 _ _ _ true rfl (by decide) (by decide) (by decide) (Nat.le_of_ble_eq_true rfl) (Nat.le_of_ble_eq_true rfl) (Nat.le_of_ble_eq_true rfl) (by simp [keysLt]) (by simp only [me, gotL, leArgs, leV, leV1, leSegs, leSeg, leC, leA, nthO, and_self]) rfl) ?_; rintro v H' ⟨rfl, rfl⟩) | refine call_q _ (ro_at (con13r t) 4 5 6 _ _ _ true rfl (by decide) (by decide) (by decide) (Nat.le_of_ble_eq_true rfl) (Nat.le_of_ble_eq_true rfl) (Nat.le_of_ble_eq_true rfl) (by simp [keysLt]) (by simp only [me, gotL, leArgs, leV, leV1, leSegs, leSeg, leC, leA, nthO, and_self]) rfl) ?_ | refine call_g _ (imp_of (ro_at (con13r t) 4 5 6 _ _ _ true rfl (by decide) (by decide) (by decide) (Nat.le_of_ble_eq_true rfl) (Nat.le_of_ble_eq_true rfl) (Nat.le_of_ble_eq_true rfl) (by simp [keysLt]) (by simp only [me, gotL, leArgs, leV, leV1, leSegs, leSeg, leC, leA, nthO, and_self]) rfl)) ?_ | (refine call_c _ ⟨by assumption, trivial⟩ (run_at (con14 t (⟨0, false, 0⟩) hgt hwt) 4 5 6 _ _ _ rfl rfl rfl (by decide) (by decide) (by decide) (Nat.le_of_ble_eq_true rfl) (Nat.le_of_ble_eq_true rfl) (Nat.le_of_ble_eq_true rfl) (by simp [keysLt]) (by simp only [me, gotL, leArgs, leV, leV1, leSegs, leSeg, leC, leA, nthO, and_self]) rfl) ?_; rintro v H' ⟨rfl, rfl⟩) | refine call_g _ (imp_of (ro_at (con9r (tookS t (⟨0, false, 0⟩))) 4 5 6 _ _ _ false rfl (by decide) (by decide) (by decide) (Nat.le_of_ble_eq_true rfl) (Nat.le_of_ble_eq_true rfl) (Nat.le_of_ble_eq_true rfl) (keysLt_roL (by simp [keysLt])) (by simp only [me, gotL, leArgs, leV, leV1, leSegs, leSeg, leC, leA, nthO, and_self]) rfl)) ?_ | refine call_g _ (imp_of (ro_at (con10r (tookS t (⟨0, false, 0⟩))) 4 5 6 _ _ _ false rfl (by decide) (by decide) (by decide) (Nat.le_of_ble_eq_true rfl) (Nat.le_of_ble_eq_true rfl) (Nat.le_of_ble_eq_true rfl) (keysLt_roL (by simp [keysLt])) (by simp only [me, gotL, leArgs, leV, leV1, leSegs, leSeg, leC, leA, nthO, and_self]) rfl)) ?_); simp (maxSteps := 10000000) only [microL, gotL, wantL, want0, codeLa, coreB, coreL, gotsBk, twB, refB, refLa, beq_self_eq_true, core_eq, sp_eq, Bool.and_self, Bool.not_true, Bool.not_false, Bool.or_self, Bool.or_false, Bool.and_true, Bool.false_and, bne_self_eq_false, implies_true, and_self, C3r0, C3r1, C3r2, C3r3, C3r4, C3r5, C3r6, C3r7, C3r8, C3r9, C3r10, C3r11, C3r12, C3r13, C3r14, C3r15, C3r16, C3r17, C3r18, C3r19, C3r20, C3r21, C3r22, C3r23, C3r24, C3r25, C3r26, C3r27, C3r28, C3r29, C3r30, C3r31, C3r32, C3r33, C3r34, C3r35, C3r36, C3r37, C3r38, rwp_nil, rwp_cons, rwpK_app, aop, gpath, St.get, slotAt, sfx, eqP, segsOf, St.put, addBlk, getB, setB, delB, ld1, ldn, st1, stn, setRow, rowNeed, segAt, nsub, bin, un, eqB, isShift, sameK, arith, shiftR, getsl, selB_or, selB_and, beqb, shed, addN, Nat.beq, Seg.size, sizes, imp, needP, andN, appL, argsOf, ptrsOf, aasOf, cut, takeS, dropS, putS, partsOf, fillS, fieldOf, nthA, negIf, nilq, nilB, eqS, eqF, eqS1, andP, kin, slcS, strOk, plusA, bndHi, leN, optG, roH, roL, initT, exOk, exAll, wrAddr, Nat.reduceAdd, Nat.reduceSub, Nat.reduceMul, Int.reduceToNat, List.append_nil, List.nil_append, List.cons_append, eqT, idxT, cat, cpy, ite_int, ite_bool, ite_seg, ite_segs, ite_nil, ite_twice, Int.toNat_natCast, app, addBs]))); with_reducible refine hK _ ?_; clear hK K)
    | (refine run_cond rfl (fun hc => ?_) (fun hc => ?_) <;> try (simp only [*, Bool.true_eq_false, Bool.false_eq_true, Bool.not_true, Bool.not_false, Bool.true_or, Bool.or_true, Bool.false_or, Bool.or_false, Bool.false_and, Bool.and_false, bne_self_eq_false, beq_self_eq_true] at hc; done))
    | refine run_block ?_
    | refine run_ret ?_
    | refine run_nil ?_
    | refine run_exit ?_
    | refine blk_normal ?_
    | refine blk_ret ?_
    | refine blk_here ?_
    | refine blk_there rfl ?_
    | refine loop_exit ?_
    | refine loop_ret ?_
    | refine un_exit ?_
    | refine un_ret ?_
    | refine unE_exit ?_
    | refine unE_ret ?_
    | refine un_normal ?_)
        have hw2 : IntKind.i64.wrap ((i : Int) + 1) = ((i + 1 : Nat) : Int) := by rw [wrap64 (by omega) (by omega)]; omega
        rw [hw2]
        exact loop_normal (n - 1) (mrSt c ng gs nt tw (tookS t (⟨0, false, 0⟩)) (wNext t W) (i + 1)) (by omega) (le_mr 4 5 6 7 8 _ _ _ (by simp only [diff, notIn, Nat.beq, and_self]) rfl rfl rfl rfl rfl rfl rfl rfl rfl rfl rfl rfl rfl rfl rfl) ⟨i + 1, _, _, rfl, hgk, hfk, fun h => (by cases h), by rw [hkn]; exact hnt, by rw [took_ops]; exact hot, by omega, by omega, by omega⟩

  · rename_i he
    obtain ⟨rfl, rfl⟩ := h
    simp (maxSteps := 10000000) only [microL, gotL, wantL, want0, codeLa, coreB, coreL, C3r0, C3r1, C3r2, C3r3, C3r4, C3r5, C3r6, C3r7, C3r8, C3r9, C3r10, C3r11, C3r12, C3r13, C3r14, C3r15, C3r16, C3r17, C3r18, C3r19, C3r20, C3r21, C3r22, C3r23, C3r24, C3r25, C3r26, C3r27, C3r28, C3r29, C3r30, C3r31, C3r32, C3r33, C3r34, C3r35, C3r36, C3r37, C3r38, rwp_nil, rwp_cons, rwpK_app, aop, gpath, St.get, slotAt, sfx, eqP, segsOf, St.put, addBlk, getB, setB, delB, ld1, ldn, st1, stn, setRow, rowNeed, segAt, nsub, bin, un, eqB, isShift, sameK, arith, shiftR, getsl, selB_or, selB_and, beqb, shed, addN, Nat.beq, Seg.size, sizes, imp, needP, andN, appL, argsOf, ptrsOf, aasOf, cut, takeS, dropS, putS, partsOf, fillS, fieldOf, nthA, negIf, nilq, nilB, eqS, eqF, eqS1, andP, kin, slcS, strOk, plusA, bndHi, leN, optG, roH, roL, initT, exOk, exAll, wrAddr, Nat.reduceAdd, Nat.reduceSub, Nat.reduceMul, Int.reduceToNat, List.append_nil, List.nil_append, List.cons_append, eqT, idxT, cat, cpy, ite_int, ite_bool, ite_seg, ite_segs, ite_nil, ite_twice, Int.toNat_natCast, app, addBs]
    refine hK _ ?_
    clear hK K
    repeat' (first
    | refine run_seq ?_
    | refine run_skip ?_
    | (refine run_region fun K hK => ?_; (try (simp (maxSteps := 10000000) only [microL, gotL, wantL, want0, codeLa, coreB, coreL, C3r0, C3r1, C3r2, C3r3, C3r4, C3r5, C3r6, C3r7, C3r9, C3r10, C3r11, C3r12, C3r13, C3r14, C3r15, C3r16, C3r17, C3r18, C3r19, C3r20, C3r21, C3r22, C3r23, C3r24, C3r25, C3r26, C3r27, C3r28, C3r29, C3r30, C3r31, C3r32, C3r33, C3r34, C3r35, C3r36, C3r37, C3r38, rwp_nil, rwp_cons, rwpK_app, aop, gpath, St.get, slotAt, sfx, eqP, segsOf, St.put, addBlk, getB, setB, delB, ld1, ldn, st1, stn, setRow, rowNeed, segAt, nsub, bin, un, eqB, isShift, sameK, arith, shiftR, getsl, selB_or, selB_and, beqb, shed, addN, Nat.beq, Seg.size, sizes, imp, needP, andN, appL, argsOf, ptrsOf, aasOf, cut, takeS, dropS, putS, partsOf, fillS, fieldOf, nthA, negIf, nilq, nilB, eqS, eqF, eqS1, andP, kin, slcS, strOk, plusA, bndHi, leN, optG, roH, roL, initT, exOk, exAll, wrAddr, Nat.reduceAdd, Nat.reduceSub, Nat.reduceMul, Int.reduceToNat, List.append_nil, List.nil_append, List.cons_append, eqT, idxT, cat, cpy, ite_int, ite_bool, ite_seg, ite_segs, ite_nil, ite_twice, Int.toNat_natCast, app, addBs])); (repeat (first | (refine And.intro ?_ ?_; · omega))); with_reducible refine hK _ ?_; clear hK K)
    | (refine run_cond rfl (fun hc => ?_) (fun hc => ?_) <;> try (simp only [*, Bool.true_eq_false, Bool.false_eq_true, Bool.not_true, Bool.not_false, Bool.true_or, Bool.or_true, Bool.false_or, Bool.or_false, Bool.false_and, Bool.and_false, bne_self_eq_false, beq_self_eq_true] at hc; done))
    | refine run_block ?_
    | refine run_ret ?_
    | refine run_nil ?_
    | refine run_exit ?_
    | refine blk_normal ?_
    | refine blk_ret ?_
    | refine blk_here ?_
    | refine blk_there rfl ?_
    | refine loop_exit ?_
    | refine loop_ret ?_
    | refine un_exit ?_
    | refine un_ret ?_
    | refine unE_exit ?_
    | refine unE_ret ?_
    | refine un_normal ?_)
    refine run_region fun K hK => ?_
    simp (maxSteps := 10000000) only [microL, gotL, wantL, want0, codeLa, coreB, coreL, C3r0, C3r1, C3r2, C3r3, C3r4, C3r5, C3r6, C3r7, C3r8, C3r9, C3r10, C3r11, C3r12, C3r13, C3r14, C3r15, C3r16, C3r17, C3r18, C3r19, C3r20, C3r21, C3r22, C3r23, C3r24, C3r25, C3r26, C3r27, C3r28, C3r29, C3r30, C3r31, C3r32, C3r33, C3r34, C3r35, C3r36, C3r37, C3r38, rwp_nil, rwp_cons, rwpK_app, aop, gpath, St.get, slotAt, sfx, eqP, segsOf, St.put, addBlk, getB, setB, delB, ld1, ldn, st1, stn, setRow, rowNeed, segAt, nsub, bin, un, eqB, isShift, sameK, arith, shiftR, getsl, selB_or, selB_and, beqb, shed, addN, Nat.beq, Seg.size, sizes, imp, needP, andN, appL, argsOf, ptrsOf, aasOf, cut, takeS, dropS, putS, partsOf, fillS, fieldOf, nthA, negIf, nilq, nilB, eqS, eqF, eqS1, andP, kin, slcS, strOk, plusA, bndHi, leN, optG, roH, roL, initT, exOk, exAll, wrAddr, Nat.reduceAdd, Nat.reduceSub, Nat.reduceMul, Int.reduceToNat, List.append_nil, List.nil_append, List.cons_append, eqT, idxT, cat, cpy, ite_int, ite_bool, ite_seg, ite_segs, ite_nil, ite_twice, Int.toNat_natCast, app, addBs]
    refine call_t _ (con7_at c k himm0 0 _ _ false rfl (by decide) (by simp [keysLt])) ?_
    intro v H' h
    rw [if_neg he] at h
    obtain ⟨rfl, rfl⟩ := h
    simp (maxSteps := 10000000) only [microL, gotL, wantL, want0, codeLa, coreB, coreL, C3r0, C3r1, C3r2, C3r3, C3r4, C3r5, C3r6, C3r7, C3r8, C3r9, C3r10, C3r11, C3r12, C3r13, C3r14, C3r15, C3r16, C3r17, C3r18, C3r19, C3r20, C3r21, C3r22, C3r23, C3r24, C3r25, C3r26, C3r27, C3r28, C3r29, C3r30, C3r31, C3r32, C3r33, C3r34, C3r35, C3r36, C3r37, C3r38, rwp_nil, rwp_cons, rwpK_app, aop, gpath, St.get, slotAt, sfx, eqP, segsOf, St.put, addBlk, getB, setB, delB, ld1, ldn, st1, stn, setRow, rowNeed, segAt, nsub, bin, un, eqB, isShift, sameK, arith, shiftR, getsl, selB_or, selB_and, beqb, shed, addN, Nat.beq, Seg.size, sizes, imp, needP, andN, appL, argsOf, ptrsOf, aasOf, cut, takeS, dropS, putS, partsOf, fillS, fieldOf, nthA, negIf, nilq, nilB, eqS, eqF, eqS1, andP, kin, slcS, strOk, plusA, bndHi, leN, optG, roH, roL, initT, exOk, exAll, wrAddr, Nat.reduceAdd, Nat.reduceSub, Nat.reduceMul, Int.reduceToNat, List.append_nil, List.nil_append, List.cons_append, eqT, idxT, cat, cpy, ite_int, ite_bool, ite_seg, ite_segs, ite_nil, ite_twice, Int.toNat_natCast, app, addBs]
    refine hK _ ?_
    clear hK K
    repeat' (first
    | refine run_seq ?_
    | refine run_skip ?_
    | (refine run_region fun K hK => ?_; (try (simp (maxSteps := 10000000) only [microL, gotL, wantL, want0, beq_self_eq_true, core_eq, sp_eq, Bool.and_self, Bool.not_true, Bool.not_false, Bool.or_self, Bool.or_false, Bool.and_true, Bool.false_and, bne_self_eq_false, implies_true, and_self, C3r0, C3r1, C3r2, C3r3, C3r4, C3r5, C3r6, C3r7, C3r8, C3r9, C3r10, C3r12, C3r13, C3r14, C3r15, C3r16, C3r17, C3r18, C3r19, C3r20, C3r21, C3r22, C3r23, C3r24, C3r25, C3r26, C3r27, C3r28, C3r29, C3r30, C3r31, C3r32, C3r33, C3r34, C3r35, C3r36, C3r37, C3r38, rwp_nil, rwp_cons, rwpK_app, aop, gpath, St.get, slotAt, sfx, eqP, segsOf, St.put, addBlk, getB, setB, delB, ld1, ldn, st1, stn, setRow, rowNeed, segAt, nsub, bin, un, eqB, isShift, sameK, arith, shiftR, getsl, selB_or, selB_and, beqb, shed, addN, Nat.beq, Seg.size, sizes, imp, needP, andN, appL, argsOf, ptrsOf, aasOf, cut, takeS, dropS, putS, partsOf, fillS, fieldOf, nthA, negIf, nilq, nilB, eqS, eqF, eqS1, andP, kin, slcS, strOk, plusA, bndHi, leN, optG, roH, roL, initT, exOk, exAll, wrAddr, Nat.reduceAdd, Nat.reduceSub, Nat.reduceMul, Int.reduceToNat, List.append_nil, List.nil_append, List.cons_append, eqT, idxT, cat, cpy, ite_int, ite_bool, ite_seg, ite_segs, ite_nil, ite_twice, Int.toNat_natCast, app, addBs])); (repeat (first | (refine And.intro ?_ ?_; · omega))); with_reducible refine hK _ ?_; clear hK K)
    | (refine run_cond rfl (fun hc => ?_) (fun hc => ?_) <;> try (simp only [*, Bool.true_eq_false, Bool.false_eq_true, Bool.not_true, Bool.not_false, Bool.true_or, Bool.or_true, Bool.false_or, Bool.or_false, Bool.false_and, Bool.and_false, bne_self_eq_false, beq_self_eq_true] at hc; done))
    | refine run_block ?_
    | refine run_ret ?_
    | refine run_nil ?_
    | refine run_exit ?_
    | refine blk_normal ?_
    | refine blk_ret ?_
    | refine blk_here ?_
    | refine blk_there rfl ?_
    | refine loop_exit ?_
    | refine loop_ret ?_
    | refine un_exit ?_
    | refine un_ret ?_
    | refine unE_exit ?_
    | refine unE_ret ?_
    | refine un_normal ?_)
    · subst hR
      exact end_mr rfl rfl rfl true rfl ⟨rfl, rfl⟩
    · exfalso
      simp at hc
      exact he hc
end Go.Proofs.Yteikpddilabppaa
