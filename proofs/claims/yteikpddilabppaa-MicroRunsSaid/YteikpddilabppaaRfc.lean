/- the reference of chapter 21: which micro-code is right, all of it. -/
import Derived.Test.YteikpddilabppaaRfb
namespace Go.Proofs.Yteikpddilabppaa
open Go.AM
set_option maxRecDepth 100000
set_option linter.unusedSimpArgs false
set_option linter.unusedVariables false
theorem beq_ne' {a b : Nat} (h : a ≠ b) : Nat.beq a b = false := by
  cases hk : Nat.beq a b with
  | false => rfl
  | true => exact absurd (Nat.eq_of_beq_eq_true hk) h
theorem dropB_ro2 {l : List Nat} {i j : Nat} {B C : Blk} (hB : B.wr = false) (hC : C.wr = false) (X : List (Nat × Blk)) : dropB l [(i, B), (j, C)] X = X := by
  induction X with
  | nil => rfl
  | cons x r ih => simp [dropB, goneB, hB, hC, ih]
theorem row_leR {l : List Nat} (n : Nat) (set : Nat → Bool) (wr : Bool) : leB l (rowB n set wr) (rowB n set false) := ⟨rfl, rfl, fun h => (by cases h), Nat.le_refl _, fun i _ => by simp only [rowB, leSegs, leSeg, leC, and_self]⟩
theorem con30_at (m : MicroS) (set slot : Nat → Bool) (ns : Nat) (hns : ns < 1000000) (himm : 0 ≤ m.imm) (a b n : Nat) (X : List (Nat × Blk)) (w1 w2 : Bool) (ha : getB X a = some (rowB 8 set w1)) (hb : getB X b = some (rowB ns slot w2)) (hab : a ≠ b) (la : a < n) (lb : b < n) (hkl : keysLt X n) :
    Con Try.prog 30 [.agg (microL m), .c (.slice ⟨a, 0, 0, 0⟩ false 8), .c (.slice ⟨b, 0, 0, 0⟩ false ns)] ⟨n, X⟩ (fun v H' => v = .c (.bool (rightR m set slot ns)) ∧ H' = ⟨n, X⟩) := by
  have := (con30 m set slot ns hns himm).frame (H := ⟨n, X⟩) [a, b] rfl ⟨⟨beq_ne' hab, trivial⟩, trivial, trivial⟩ ⟨la, lb, trivial⟩ hkl (by simp only [leBlks, nthO, ha, hb]; exact ⟨row_leR _ _ _, row_leR _ _ _, trivial⟩) (args := [.agg (microL m), .c (.slice ⟨a, 0, 0, 0⟩ false 8), .c (.slice ⟨b, 0, 0, 0⟩ false ns)])
    (by simp only [microL, leArgs, leV, leV1, leSegs, leSeg, leC, leA, nthO, and_self, implies_true])
  refine this.weaken ?_
  rintro v H' ⟨v0, H0', ⟨rfl, rfl⟩, rfl, rfl⟩
  refine ⟨rfl, ?_⟩
  simp only [framed, dropB_ro2 (B := rowB 8 set false) (C := rowB ns slot false) rfl rfl]
  rfl
def lastK (k : Int) : Bool := (k == 20) || (k == 21) || (k == 22)
def setR (set : Nat → Bool) (m : MicroS) : Nat → Bool := if hasS (refW m.kind).2 68 = true then fun j => if j = m.d.toNat then true else set j else set
def slotR (slot : Nat → Bool) (m : MicroS) : Nat → Bool := if (m.kind == 4) = true then fun j => if j = m.imm.toNat then true else slot j else slot
def opR (c : CodeS) (i : Int) (m : MicroS) (set slot : Nat → Bool) : Bool := !rightR m set slot c.slots.toNat || !(lastK m.kind == (i == IntKind.i64.wrap ((c.nops : Int) - 1)))
def refL (c : CodeS) : Nat → Nat → (Nat → Bool) → (Nat → Bool) → Bool
  | 0, _, _, _ => true
  | n + 1, i, set, slot => if opR c i (c.ops i) set slot = true then false else refL c n (i + 1) (setR set (c.ops i)) (slotR slot (c.ops i))
def refPre (c : CodeS) : Bool := (preBad c || ((c.ops 0).kind != 18)) || ((c.ops 0).imm != c.pc)
def refRight (c : CodeS) : Bool := !refPre c && refL c c.nops 0 (fun _ => false) (fun _ => false)
def refSt (c : CodeS) (wr : Bool) (i : Nat) (set slot : Nat → Bool) : St :=
  ⟨[⟨6, [], .c (.int .i64 i)⟩, ⟨5, [], .c (.slice ⟨3, 0, 0, 0⟩ false c.slots.toNat)⟩, ⟨4, [], .c (.slice ⟨2, 0, 0, 0⟩ false 8)⟩, ⟨3, [], .c (.int .i64 c.nops)⟩, ⟨1, [], .c (.ptr ⟨1, 0, 0, 0⟩)⟩],
   ⟨4, [(3, rowB c.slots.toNat slot true), (2, rowB 8 set true), (1, ⟨5, none, fun _ => codeL c, 25, true⟩), (0, opsBk c wr)]⟩⟩
theorem le_ref {l : List Slot} {H : Heap} (c : CodeS) (wr : Bool) (i : Nat) (set slot : Nat → Bool) (b3 : getB H.blks 3 = some (rowB c.slots.toNat slot true)) (b2 : getB H.blks 2 = some (rowB 8 set true)) (b1 : getB H.blks 1 = some ⟨5, none, fun _ => codeL c, 25, true⟩) (b0 : getB H.blks 0 = some (opsBk c wr))
    (h6 : slotAt l 6 = some ⟨6, [], .c (.int .i64 i)⟩) (h5 : slotAt l 5 = some ⟨5, [], .c (.slice ⟨3, 0, 0, 0⟩ false c.slots.toNat)⟩) (h4 : slotAt l 4 = some ⟨4, [], .c (.slice ⟨2, 0, 0, 0⟩ false 8)⟩) (h3 : slotAt l 3 = some ⟨3, [], .c (.int .i64 c.nops)⟩) (h1 : slotAt l 1 = some ⟨1, [], .c (.ptr ⟨1, 0, 0, 0⟩)⟩) : LeS 1 ⟨l, H⟩ (refSt c wr i set slot) := by
  refine LeS.intro [0, 1, 2, 3] (fun i h => ?_) (by simp only [diff, notIn, Nat.beq, and_self]) rfl ?_ ?_
  · match i, h with
    | 0, _ => rfl
  · simp only [refSt, slotsLe, h6, h5, h4, h3, h1, leV, leV1, leC, leA, nthO, and_self]
  · simp only [refSt, b3, b2, b1, b0, leBlks, nthO]
    refine ⟨row_le _ _ _, row_le _ _ _, ?_, ?_, trivial⟩
    all_goals refine ⟨rfl, rfl, id, Nat.le_refl _, fun i _ => ?_⟩
    all_goals simp only [codeL, opsBk, microL, leSegs, leSeg, leC, leA, nthO, and_self, implies_true]
theorem rightR_facts {m : MicroS} {set slot : Nat → Bool} {ns : Nat} (hns : ns < 1000000) (h : rightR m set slot ns = true) : (0 ≤ m.d ∧ m.d ≤ 7) ∧ (m.kind = 4 → m.imm < ns) := by
  simp only [rightR, rightW, Bool.and_eq_true, Bool.not_eq_true'] at h
  obtain ⟨⟨h1, h2⟩, _⟩ := h
  refine ⟨?_, fun hk => ?_⟩
  · simp only [bad2, btw, Bool.or_eq_false_iff, Bool.not_eq_false', Bool.and_eq_true, decide_eq_true_eq] at h2
    exact h2.1.1.1.1
  · have := bad1_fits h1
    simp only [fitsS, hk] at this
    simp at this
    rw [show IntKind.u64.wrap (ns : Int) = ns by simp [IntKind.wrap, IntKind.bits, IntKind.signed]; omega] at this
    exact this
set_option maxHeartbeats 4000000 in
theorem con19 (c : CodeS) (wr : Bool) (himm : ∀ i, i < c.nops → 0 ≤ (c.ops i).imm) : Con Try.prog 19 [.agg (codeL c)] ⟨1, [(0, opsBk c wr)]⟩ (fun v H' => v = .c (.bool (refRight c)) ∧ H' = ⟨1, [(0, opsBk c wr)]⟩) := by
  (refine con_of_run mixed (fn := Try.f19) (by kernel_rfl) (by kernel_rfl) C19_ok (rs := [.tmp 2]) (by kernel_rfl) (Nat.le_of_ble_eq_true (by kernel_rfl)) ?_; unfold C19; simp only [initT, Nat.reduceAdd])
  generalize hR : (fun (v : AV) (H' : Heap) => v = AV.c (CV.bool (refRight c)) ∧ H' = ⟨1, [(0, opsBk c wr)]⟩) = R
  simp only [codeL, opsBk]
  repeat' (first
    | refine run_seq ?_
    | refine run_skip ?_
    | (refine run_region fun K hK => ?_; (try (simp (maxSteps := 10000000) only [microL, C19r0, C19r1, C19r2, C19r3, C19r5, C19r6, C19r7, C19r8, C19r9, C19r10, C19r11, C19r12, C19r13, C19r14, C19r15, C19r16, C19r17, C19r18, C19r19, C19r20, rwp_nil, rwp_cons, rwpK_app, aop, gpath, St.get, slotAt, sfx, eqP, segsOf, St.put, addBlk, getB, setB, delB, ld1, ldn, st1, stn, setRow, rowNeed, segAt, nsub, bin, un, eqB, isShift, sameK, arith, shiftR, getsl, selB_or, selB_and, beqb, shed, addN, Nat.beq, Seg.size, sizes, imp, needP, andN, appL, argsOf, ptrsOf, aasOf, cut, takeS, dropS, putS, partsOf, fillS, fieldOf, nthA, negIf, nilq, nilB, eqS, eqF, eqS1, andP, kin, slcS, strOk, plusA, bndHi, leN, optG, roH, roL, initT, exOk, exAll, wrAddr, Nat.reduceAdd, Nat.reduceSub, Nat.reduceMul, Int.reduceToNat, List.append_nil, List.nil_append, List.cons_append, eqT, idxT, cat, cpy, ite_int, ite_bool, ite_seg, ite_segs, ite_nil, ite_twice, Int.toNat_natCast, app, addBs])); (repeat (first | (refine And.intro ?_ ?_; · (first | decide | (clear hK; intros; simp at *; omega))) | ((first | (refine call_t _ (con29 _ _ _ _) ?_; rintro v H' ⟨rfl, rfl⟩) | refine call_q _ (con29 _ _ _ _) ?_ | refine call_g _ (imp_of (con29 _ _ _ _)) ?_); simp (maxSteps := 10000000) only [microL, C19r0, C19r1, C19r2, C19r3, C19r5, C19r6, C19r7, C19r8, C19r9, C19r10, C19r11, C19r12, C19r13, C19r14, C19r15, C19r16, C19r17, C19r18, C19r19, C19r20, rwp_nil, rwp_cons, rwpK_app, aop, gpath, St.get, slotAt, sfx, eqP, segsOf, St.put, addBlk, getB, setB, delB, ld1, ldn, st1, stn, setRow, rowNeed, segAt, nsub, bin, un, eqB, isShift, sameK, arith, shiftR, getsl, selB_or, selB_and, beqb, shed, addN, Nat.beq, Seg.size, sizes, imp, needP, andN, appL, argsOf, ptrsOf, aasOf, cut, takeS, dropS, putS, partsOf, fillS, fieldOf, nthA, negIf, nilq, nilB, eqS, eqF, eqS1, andP, kin, slcS, strOk, plusA, bndHi, leN, optG, roH, roL, initT, exOk, exAll, wrAddr, Nat.reduceAdd, Nat.reduceSub, Nat.reduceMul, Int.reduceToNat, List.append_nil, List.nil_append, List.cons_append, eqT, idxT, cat, cpy, ite_int, ite_bool, ite_seg, ite_segs, ite_nil, ite_twice, Int.toNat_natCast, app, addBs]))); with_reducible refine hK _ ?_; clear hK K)
    | (refine run_cond rfl (fun hc => ?_) (fun hc => ?_) <;> try (simp only [*, Bool.true_eq_false, Bool.false_eq_true, Bool.not_true, Bool.not_false, Bool.true_or, Bool.or_true, Bool.false_or, Bool.or_false, Bool.false_and, Bool.and_false, bne_self_eq_false, beq_self_eq_true] at hc; done))
    | refine run_block ?_
    | refine run_ret ?_
    | refine run_nil ?_
    | refine run_exit ?_
    | refine blk_normal ?_
    | refine blk_ret ?_
    | refine blk_here ?_
    | refine blk_there rfl ?_
    | refine loop_exit ?_
    | refine loop_ret ?_
    | refine un_exit ?_
    | refine un_ret ?_
    | refine unE_exit ?_
    | refine unE_ret ?_
    | refine un_normal ?_)
  · subst hR
    have hp : refPre c = true := hc
    exact end_rig c wr false rfl rfl ⟨by simp only [refRight, hp, Bool.not_true, Bool.false_and], rfl⟩
  · have hp : refPre c = false := hc
    have hpf : preBad c = false := by
      simp only [refPre, Bool.or_eq_false_iff] at hp
      exact hp.1.1
    have hpf := pre_facts hpf
    clear hc
    repeat' (first
    | refine run_seq ?_
    | refine run_skip ?_
    | (refine run_region fun K hK => ?_; (try (simp (maxSteps := 10000000) only [microL, C19r0, C19r1, C19r2, C19r3, C19r4, C19r5, C19r7, C19r8, C19r9, C19r10, C19r11, C19r12, C19r13, C19r14, C19r15, C19r16, C19r17, C19r18, C19r19, C19r20, rwp_nil, rwp_cons, rwpK_app, aop, gpath, St.get, slotAt, sfx, eqP, segsOf, St.put, addBlk, getB, setB, delB, ld1, ldn, st1, stn, setRow, rowNeed, segAt, nsub, bin, un, eqB, isShift, sameK, arith, shiftR, getsl, selB_or, selB_and, beqb, shed, addN, Nat.beq, Seg.size, sizes, imp, needP, andN, appL, argsOf, ptrsOf, aasOf, cut, takeS, dropS, putS, partsOf, fillS, fieldOf, nthA, negIf, nilq, nilB, eqS, eqF, eqS1, andP, kin, slcS, strOk, plusA, bndHi, leN, optG, roH, roL, initT, exOk, exAll, wrAddr, Nat.reduceAdd, Nat.reduceSub, Nat.reduceMul, Int.reduceToNat, List.append_nil, List.nil_append, List.cons_append, eqT, idxT, cat, cpy, ite_int, ite_bool, ite_seg, ite_segs, ite_nil, ite_twice, Int.toNat_natCast, app, addBs])); (repeat (first | (refine And.intro ?_ ?_; · (first | decide | omega)))); with_reducible refine hK _ ?_; clear hK K)
    | (refine run_cond rfl (fun hc => ?_) (fun hc => ?_) <;> try (simp only [*, Bool.true_eq_false, Bool.false_eq_true, Bool.not_true, Bool.not_false, Bool.true_or, Bool.or_true, Bool.false_or, Bool.or_false, Bool.false_and, Bool.and_false, bne_self_eq_false, beq_self_eq_true] at hc; done))
    | refine run_block ?_
    | refine run_ret ?_
    | refine run_nil ?_
    | refine run_exit ?_
    | refine blk_normal ?_
    | refine blk_ret ?_
    | refine blk_here ?_
    | refine blk_there rfl ?_
    | refine loop_exit ?_
    | refine loop_ret ?_
    | refine un_exit ?_
    | refine un_ret ?_
    | refine unE_exit ?_
    | refine unE_ret ?_
    | refine un_normal ?_)
    (refine run_regionL fun K hK => ?_; (try (simp (maxSteps := 10000000) only [microL, C19r0, C19r1, C19r2, C19r3, C19r4, C19r5, C19r6, C19r7, C19r8, C19r9, C19r10, C19r11, C19r12, C19r13, C19r14, C19r15, C19r16, C19r17, C19r18, C19r19, C19r20, rwp_nil, rwp_cons, rwpK_app, aop, gpath, St.get, slotAt, sfx, eqP, segsOf, St.put, addBlk, getB, setB, delB, ld1, ldn, st1, stn, setRow, rowNeed, segAt, nsub, bin, un, eqB, isShift, sameK, arith, shiftR, getsl, selB_or, selB_and, beqb, shed, addN, Nat.beq, Seg.size, sizes, imp, needP, andN, appL, argsOf, ptrsOf, aasOf, cut, takeS, dropS, putS, partsOf, fillS, fieldOf, nthA, negIf, nilq, nilB, eqS, eqF, eqS1, andP, kin, slcS, strOk, plusA, bndHi, leN, optG, roH, roL, initT, exOk, exAll, wrAddr, Nat.reduceAdd, Nat.reduceSub, Nat.reduceMul, Int.reduceToNat, List.append_nil, List.nil_append, List.cons_append, eqT, idxT, cat, cpy, ite_int, ite_bool, ite_seg, ite_segs, ite_nil, ite_twice, Int.toNat_natCast, app, addBs])); (repeat (refine And.intro ?_ ?_; · omega)); refine hK _ (refSt c wr 0 (fun _ => false) (fun _ => false)) (le_ref c wr 0 _ _ rfl rfl rfl rfl rfl rfl rfl rfl rfl) ?_; clear hK K)
    refine run_block ?_
    generalize hT : refL c c.nops 0 (fun _ => false) (fun _ => false) = T
    have hRT : refRight c = T := by simp only [refRight, hp, hT, Bool.not_false, Bool.true_and]
    refine run_loop (fun n st => ∃ i set slot, st = refSt c wr i set slot ∧ n = c.nops - i ∧ i ≤ c.nops ∧ refL c n i set slot = T) c.nops ⟨0, _, _, rfl, by omega, by omega, hT⟩ ?_
    rintro n st ⟨i, set, slot, rfl, hn, hi, hT⟩
    clear hp
    simp only [refSt, codeL, opsBk, rowB]
    repeat' (first
    | refine run_seq ?_
    | refine run_skip ?_
    | (refine run_region fun K hK => ?_; (try (simp (maxSteps := 10000000) only [microL, hRT, C19r0, C19r1, C19r2, C19r3, C19r4, C19r5, C19r6, C19r7, C19r8, C19r10, C19r11, C19r12, C19r13, C19r14, C19r15, C19r16, C19r17, C19r18, C19r19, C19r20, rwp_nil, rwp_cons, rwpK_app, aop, gpath, St.get, slotAt, sfx, eqP, segsOf, St.put, addBlk, getB, setB, delB, ld1, ldn, st1, stn, setRow, rowNeed, segAt, nsub, bin, un, eqB, isShift, sameK, arith, shiftR, getsl, selB_or, selB_and, beqb, shed, addN, Nat.beq, Seg.size, sizes, imp, needP, andN, appL, argsOf, ptrsOf, aasOf, cut, takeS, dropS, putS, partsOf, fillS, fieldOf, nthA, negIf, nilq, nilB, eqS, eqF, eqS1, andP, kin, slcS, strOk, plusA, bndHi, leN, optG, roH, roL, initT, exOk, exAll, wrAddr, Nat.reduceAdd, Nat.reduceSub, Nat.reduceMul, Int.reduceToNat, List.append_nil, List.nil_append, List.cons_append, eqT, idxT, cat, cpy, ite_int, ite_bool, ite_seg, ite_segs, ite_nil, ite_twice, Int.toNat_natCast, app, addBs])); (repeat (first | (refine And.intro ?_ ?_; · (simp only [decide_eq_true_eq] at hc; omega)))); with_reducible refine hK _ ?_; clear hK K)
    | (refine run_cond rfl (fun hc => ?_) (fun hc => ?_) <;> try (simp only [*, Bool.true_eq_false, Bool.false_eq_true, Bool.not_true, Bool.not_false, Bool.true_or, Bool.or_true, Bool.false_or, Bool.or_false, Bool.false_and, Bool.and_false, bne_self_eq_false, beq_self_eq_true] at hc; done))
    | refine run_block ?_
    | refine run_ret ?_
    | refine run_nil ?_
    | refine run_exit ?_
    | refine blk_normal ?_
    | refine blk_ret ?_
    | refine blk_here ?_
    | refine blk_there rfl ?_
    | refine loop_exit ?_
    | refine loop_ret ?_
    | refine un_exit ?_
    | refine un_ret ?_
    | refine unE_exit ?_
    | refine unE_ret ?_
    | refine un_normal ?_)
    · have hin : i < c.nops := by simpa using hc
      have himm := himm i hin
      obtain ⟨n', rfl⟩ : ∃ n', n = n' + 1 := ⟨n - 1, by omega⟩
      simp only [refL] at hT
      clear hc
      generalize hm : c.ops i = m at *
      repeat' (first
    | refine run_seq ?_
    | refine run_skip ?_
    | (refine run_region fun K hK => ?_; (try (simp (maxSteps := 10000000) only [microL, C19r0, C19r1, C19r2, C19r3, C19r4, C19r5, C19r6, C19r7, C19r8, C19r9, C19r10, C19r11, C19r12, C19r14, C19r15, C19r16, C19r17, C19r18, C19r19, C19r20, rwp_nil, rwp_cons, rwpK_app, aop, gpath, St.get, slotAt, sfx, eqP, segsOf, St.put, addBlk, getB, setB, delB, ld1, ldn, st1, stn, setRow, rowNeed, segAt, nsub, bin, un, eqB, isShift, sameK, arith, shiftR, getsl, selB_or, selB_and, beqb, shed, addN, Nat.beq, Seg.size, sizes, imp, needP, andN, appL, argsOf, ptrsOf, aasOf, cut, takeS, dropS, putS, partsOf, fillS, fieldOf, nthA, negIf, nilq, nilB, eqS, eqF, eqS1, andP, kin, slcS, strOk, plusA, bndHi, leN, optG, roH, roL, initT, exOk, exAll, wrAddr, Nat.reduceAdd, Nat.reduceSub, Nat.reduceMul, Int.reduceToNat, List.append_nil, List.nil_append, List.cons_append, eqT, idxT, cat, cpy, ite_int, ite_bool, ite_seg, ite_segs, ite_nil, ite_twice, Int.toNat_natCast, app, addBs])); (repeat (first | (refine And.intro ?_ ?_; · omega) | ((first | (refine call_t _ (con30_at m set slot c.slots.toNat (by omega) himm 2 3 _ _ true true rfl rfl (by decide) (Nat.le_of_ble_eq_true rfl) (Nat.le_of_ble_eq_true rfl) (by simp [keysLt])) ?_; rintro v H' ⟨rfl, rfl⟩) | refine call_q _ (con30_at m set slot c.slots.toNat (by omega) himm 2 3 _ _ true true rfl rfl (by decide) (Nat.le_of_ble_eq_true rfl) (Nat.le_of_ble_eq_true rfl) (by simp [keysLt])) ?_ | refine call_g _ (imp_of (con30_at m set slot c.slots.toNat (by omega) himm 2 3 _ _ true true rfl rfl (by decide) (Nat.le_of_ble_eq_true rfl) (Nat.le_of_ble_eq_true rfl) (by simp [keysLt]))) ?_); simp (maxSteps := 10000000) only [microL, C19r0, C19r1, C19r2, C19r3, C19r4, C19r5, C19r6, C19r7, C19r8, C19r9, C19r10, C19r11, C19r12, C19r14, C19r15, C19r16, C19r17, C19r18, C19r19, C19r20, rwp_nil, rwp_cons, rwpK_app, aop, gpath, St.get, slotAt, sfx, eqP, segsOf, St.put, addBlk, getB, setB, delB, ld1, ldn, st1, stn, setRow, rowNeed, segAt, nsub, bin, un, eqB, isShift, sameK, arith, shiftR, getsl, selB_or, selB_and, beqb, shed, addN, Nat.beq, Seg.size, sizes, imp, needP, andN, appL, argsOf, ptrsOf, aasOf, cut, takeS, dropS, putS, partsOf, fillS, fieldOf, nthA, negIf, nilq, nilB, eqS, eqF, eqS1, andP, kin, slcS, strOk, plusA, bndHi, leN, optG, roH, roL, initT, exOk, exAll, wrAddr, Nat.reduceAdd, Nat.reduceSub, Nat.reduceMul, Int.reduceToNat, List.append_nil, List.nil_append, List.cons_append, eqT, idxT, cat, cpy, ite_int, ite_bool, ite_seg, ite_segs, ite_nil, ite_twice, Int.toNat_natCast, app, addBs]))); with_reducible refine hK _ ?_; clear hK K)
    | (refine run_cond rfl (fun hc => ?_) (fun hc => ?_) <;> try (simp only [*, Bool.true_eq_false, Bool.false_eq_true, Bool.not_true, Bool.not_false, Bool.true_or, Bool.or_true, Bool.false_or, Bool.or_false, Bool.false_and, Bool.and_false, bne_self_eq_false, beq_self_eq_true] at hc; done))
    | refine run_block ?_
    | refine run_ret ?_
    | refine run_nil ?_
    | refine run_exit ?_
    | refine blk_normal ?_
    | refine blk_ret ?_
    | refine blk_here ?_
    | refine blk_there rfl ?_
    | refine loop_exit ?_
    | refine loop_ret ?_
    | refine un_exit ?_
    | refine un_ret ?_
    | refine unE_exit ?_
    | refine unE_ret ?_
    | refine un_normal ?_)
      · have h1 : opR c i m set slot = true := hc
        rw [if_pos h1] at hT
        subst hR
        exact end_rig c wr false rfl rfl ⟨by rw [hRT, ← hT], rfl⟩
      · have h1 : opR c i m set slot = false := hc
        rw [if_neg (by rw [h1]; decide)] at hT
        have hrr : rightR m set slot c.slots.toNat = true := by
          simp only [opR, Bool.or_eq_false_iff, Bool.not_eq_false'] at h1
          exact h1.1
        have hf := rightR_facts (by omega) hrr
        clear hc
        repeat' (first
    | refine run_seq ?_
    | refine run_skip ?_
    | (refine run_region fun K hK => ?_; (try (simp (maxSteps := 10000000) only [microL, C19r0, C19r1, C19r2, C19r3, C19r4, C19r5, C19r6, C19r7, C19r8, C19r9, C19r10, C19r11, C19r12, C19r13, C19r14, C19r15, C19r16, C19r17, C19r18, C19r19, C19r20, rwp_nil, rwp_cons, rwpK_app, aop, gpath, St.get, slotAt, sfx, eqP, segsOf, St.put, addBlk, getB, setB, delB, ld1, ldn, st1, stn, setRow, rowNeed, segAt, nsub, bin, un, eqB, isShift, sameK, arith, shiftR, getsl, selB_or, selB_and, beqb, shed, addN, Nat.beq, Seg.size, sizes, imp, needP, andN, appL, argsOf, ptrsOf, aasOf, cut, takeS, dropS, putS, partsOf, fillS, fieldOf, nthA, negIf, nilq, nilB, eqS, eqF, eqS1, andP, kin, slcS, strOk, plusA, bndHi, leN, optG, roH, roL, initT, exOk, exAll, wrAddr, Nat.reduceAdd, Nat.reduceSub, Nat.reduceMul, Int.reduceToNat, List.append_nil, List.nil_append, List.cons_append, eqT, idxT, cat, cpy, ite_int, ite_bool, ite_seg, ite_segs, ite_nil, ite_twice, Int.toNat_natCast, app, addBs])); (repeat (first | (refine And.intro ?_ ?_; · (first | omega | (have := hf.2 (by simpa using hc); omega))) | ((first | (refine call_t _ (con31 _ _) ?_; rintro v H' ⟨rfl, rfl⟩) | refine call_q _ (con31 _ _) ?_ | refine call_g _ (imp_of (con31 _ _)) ?_ | (refine call_t _ (con32 _ _ (refW_size _) _) ?_; rintro v H' ⟨rfl, rfl⟩) | refine call_q _ (con32 _ _ (refW_size _) _) ?_ | refine call_g _ (imp_of (con32 _ _ (refW_size _) _)) ?_); simp (maxSteps := 10000000) only [microL, C19r0, C19r1, C19r2, C19r3, C19r4, C19r5, C19r6, C19r7, C19r8, C19r9, C19r10, C19r11, C19r12, C19r13, C19r14, C19r15, C19r16, C19r17, C19r18, C19r19, C19r20, rwp_nil, rwp_cons, rwpK_app, aop, gpath, St.get, slotAt, sfx, eqP, segsOf, St.put, addBlk, getB, setB, delB, ld1, ldn, st1, stn, setRow, rowNeed, segAt, nsub, bin, un, eqB, isShift, sameK, arith, shiftR, getsl, selB_or, selB_and, beqb, shed, addN, Nat.beq, Seg.size, sizes, imp, needP, andN, appL, argsOf, ptrsOf, aasOf, cut, takeS, dropS, putS, partsOf, fillS, fieldOf, nthA, negIf, nilq, nilB, eqS, eqF, eqS1, andP, kin, slcS, strOk, plusA, bndHi, leN, optG, roH, roL, initT, exOk, exAll, wrAddr, Nat.reduceAdd, Nat.reduceSub, Nat.reduceMul, Int.reduceToNat, List.append_nil, List.nil_append, List.cons_append, eqT, idxT, cat, cpy, ite_int, ite_bool, ite_seg, ite_segs, ite_nil, ite_twice, Int.toNat_natCast, app, addBs]))); with_reducible refine hK _ ?_; clear hK K)
    | (refine run_cond rfl (fun hc => ?_) (fun hc => ?_) <;> try (simp only [*, Bool.true_eq_false, Bool.false_eq_true, Bool.not_true, Bool.not_false, Bool.true_or, Bool.or_true, Bool.false_or, Bool.or_false, Bool.false_and, Bool.and_false, bne_self_eq_false, beq_self_eq_true] at hc; done))
    | refine run_block ?_
    | refine run_ret ?_
    | refine run_nil ?_
    | refine run_exit ?_
    | refine blk_normal ?_
    | refine blk_ret ?_
    | refine blk_here ?_
    | refine blk_there rfl ?_
    | refine loop_exit ?_
    | refine loop_ret ?_
    | refine un_exit ?_
    | refine un_ret ?_
    | refine unE_exit ?_
    | refine unE_ret ?_
    | refine un_normal ?_)
        all_goals
          rename_i hc68
          have hw : IntKind.i64.wrap ((i : Int) + 1) = ((i + 1 : Nat) : Int) := by rw [IntKind.wrap_i64]; omega
          refine loop_normal n' (refSt c wr (i + 1) (setR set m) (slotR slot m)) (by omega) (le_ref c wr (i + 1) _ _ ?_ ?_ rfl rfl (by simp only [hw]; rfl) rfl rfl rfl rfl) ⟨i + 1, _, _, rfl, by omega, by omega, hT⟩
          · simp only [rowB, slotR, hc, if_true, if_false, Bool.false_eq_true, reduceIte]; rfl
          · simp only [rowB, setR, hc68, if_true, if_false, Bool.false_eq_true, reduceIte]; rfl
    · have hin : ¬ i < c.nops := by simpa using hc
      have h0 : n = 0 := by omega
      subst h0
      subst hR
      exact end_rig c wr true rfl rfl ⟨by rw [hRT, ← hT]; rfl, rfl⟩
end Go.Proofs.Yteikpddilabppaa
