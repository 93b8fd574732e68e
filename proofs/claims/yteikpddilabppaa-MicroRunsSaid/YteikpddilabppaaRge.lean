/- the reference of chapter 22: New; runs under other ids. -/
import Derived.Test.YteikpddilabppaaRgd
namespace Go.Proofs.Yteikpddilabppaa
open Go.AM
set_option maxRecDepth 100000
set_option linter.unusedSimpArgs false
set_option linter.unusedVariables false
theorem refB_eq {g : Nat → Nat} {j k j' k' : Nat} (hj : g j' = j) (hk : g k' = k) (s : RunS) (W : WantS) : mapB g (refB j' k' s W) = refB j k s W := by
  subst hj hk
  simp only [mapB, refB, refLa, mapSegs, mapSeg]
  rfl
theorem opsR_eq {g : Nat → Nat} (s : RunS) : mapB g (opsR s) = opsR s := rfl
theorem dropR_get {i j k : Nat} {s : RunS} {W : WantS} {X : List (Nat × Blk)} {q : Nat} (hi : q ≠ i) (hk : q ≠ k) : getB (dropB [i, j, k] (refH s W).blks X) q = getB X q := by
  induction X with
  | nil => rfl
  | cons x r ih =>
    obtain ⟨m, B⟩ := x
    simp only [dropB]
    cases hg : goneB [i, j, k] (refH s W).blks m with
    | false => simp only [getB, ih]
    | true =>
      have hm : m = i ∨ m = k := by
        simp only [refH, goneB, refB, opsR, slotB, nthO] at hg
        by_cases h1 : i = m
        · exact .inl h1.symm
        · by_cases h3 : k = m
          · exact .inr h3.symm
          · rw [beq_ne h1, beq_ne h3] at hg
            simp at hg
      have : Nat.beq m q = false := beq_ne (by omega)
      simp only [getB, this, ih]
theorem ref_at {f : FuncId} {args : List AV} {s s' : RunS} {W W' : WantS} {V : AV} (h : Con Try.prog f args (refH s W) (fun v H' => v = V ∧ H' = refH s' W')) (i j k n : Nat) (X : List (Nat × Blk)) (args' : List AV) (w : Bool)
    (hi : getB X i = some (refB j k s W)) (hj : getB X j = some ⟨7, some s.nops, fun i => microL (s.ops i), 34, w⟩) (hk : getB X k = some (slotB s)) (d1 : i ≠ j) (d2 : i ≠ k) (d3 : j ≠ k) (l1 : i < n) (l2 : j < n) (l3 : k < n) (hkl : keysLt X n) (ha : leArgs [i, j, k] args' args) (hV : mapV (gId [i, j, k] n) V = V) :
    Con Try.prog f args' ⟨n, X⟩ (fun v H' => v = V ∧ H' = ⟨n, setB (setB X i (refB j k s' W')) k (slotB s')⟩) := by
  have := h.frame (H := ⟨n, X⟩) [i, j, k] rfl ⟨⟨beq_ne d1, beq_ne d2, trivial⟩, ⟨beq_ne d3, trivial⟩, trivial, trivial⟩ ⟨l1, l2, l3, trivial⟩ hkl (by simp only [refH, leBlks, nthO, hi, hj, hk]; exact ⟨ref_le rfl rfl s W, opsR_le s w, slot_le s, trivial⟩) ha
  refine Con.perm this ?_
  rintro v H' ⟨v0, H0', ⟨rfl, rfl⟩, rfl, rfl⟩
  refine ⟨_, ?_, ?_, hV, rfl⟩
  · rfl
  · intro q
    have e : (framed (refH s W) ⟨n, X⟩ [i, j, k] (refH s' W')).blks = (i, refB j k s' W') :: (k, slotB s') :: dropB [i, j, k] (refH s W).blks X := by
      have := refB_eq (g := gId [i, j, k] n) (j := j) (k := k) (j' := 1) (k' := 2) rfl rfl s' W'
      rw [← this]
      rfl
    rw [e]
    by_cases q1 : q = k
    · subst q1
      rw [getB_setB_self (B := slotB s) (by rw [getB_setB_ne d2.symm]; exact hk), getB_cons_ne d2.symm, getB_cons_self]
    · rw [getB_setB_ne q1]
      by_cases q3 : q = i
      · subst q3
        rw [getB_setB_self hi, getB_cons_self]
      · rw [getB_setB_ne q3, getB_cons_ne q3, getB_cons_ne q1, dropR_get q3 q1]
/-! ### A run begins -/
theorem coreOk_7 (k : CoreS) : ((k.el == 0 || k.el == 1) && decide (k.wait ≥ 0) && decide (k.wait ≤ 2) && decide (k.id ≥ 0) && decide (k.id ≤ 7)) = coreOk k := by
  have : decide (k.id ≤ 7) = decide (k.id < 8) := by rw [decide_eq_decide]; omega
  simp only [coreOk, this]
theorem con20' (c : CoreS) (H : Heap) : Con Try.prog 20 [.agg (coreL c)] H (fun v H' => v = .c (.bool (coreOk c)) ∧ H' = H) := by
  have := con20 c H
  rwa [coreOk_7] at this
def newHR (c : CodeS) (k : CoreS) : Heap := ⟨3, [(1, refB 0 2 (newS c k) want0), (2, slotB (newS c k)), (0, opsBk c false)]⟩
theorem con19_at (c : CodeS) (himm : ∀ i, i < c.nops → 0 ≤ (c.ops i).imm) {B C : Blk} : Con Try.prog 19 [.agg (codeL c)] ⟨3, [(2, B), (1, C), (0, opsBk c false)]⟩ (fun v H' => v = .c (.bool (rightS c)) ∧ H' = ⟨3, [(2, B), (1, C), (0, opsBk c false)]⟩) := by
  rw [← refRight_eq]
  refine ((con19 c false himm).frameN [0] rfl ?_ [(2, B), (1, C)] 3 (fun v H' hv => by rw [hv.2]; exact ⟨rfl, rfl⟩) rfl rfl (by show 1 ≤ 3; decide) ?_ ?_).weaken ?_
  · intro i h
    match i, h with
    | 0, _ => rfl
  · refine ⟨⟨rfl, rfl, id, Nat.le_refl _, fun i _ => ?_⟩, trivial⟩
    simp only [opsBk, microL, leSegs, leSeg, leC, and_self]
  · simp only [codeL, leArgs, leV, leV1, leSegs, leSeg, leC, leA, nthO, and_self]
  · rintro v H' ⟨H0', ⟨rfl, rfl⟩, rfl⟩
    exact ⟨rfl, rfl⟩
theorem end_newR {l : List Slot} {H : Heap} {R : Post} (c : CodeS) (k : CoreS) (h0 : getB H.blks 0 = some (opsBk c false)) (h1 : getB H.blks 4 = some (refB 0 3 (newS c k) want0)) (h3 : getB H.blks 3 = some (slotB (newS c k)))
    (h4 : slotAt l 4 = some ⟨4, [], .c (.ptr ⟨4, 0, 0, 0⟩)⟩) (h5 : slotAt l 5 = some ⟨5, [], .c (.int .i64 0)⟩) (hR : R (.tup [.c (.ptr ⟨1, 0, 0, 0⟩), .c (.int .i64 0)]) (newHR c k)) : endQ (LeS 1) [.tmp 4, .tmp 5] R .ret ⟨l, H⟩ := by
  refine end_of ⟨[⟨4, [], .c (.ptr ⟨1, 0, 0, 0⟩)⟩, ⟨5, [], .c (.int .i64 0)⟩], newHR c k⟩ ?_ hR
  refine LeS.intro [0, 4, 3] (fun i h => ?_) (by simp only [diff, notIn, Nat.beq, and_self]) rfl ?_ ?_
  · match i, h with
    | 0, _ => rfl
  · simp only [slotsLe, h4, h5]
    exact ⟨⟨rfl, rfl, rfl, rfl⟩, ⟨rfl, rfl⟩, trivial⟩
  · simp only [newHR, leBlks, nthO, h0, h1, h3]
    exact ⟨ref_le rfl rfl _ _, slot_le _, ⟨rfl, rfl, id, Nat.le_refl _, fun i _ => by simp only [opsBk, microL, leSegs, leSeg, leC, and_self]⟩, trivial⟩
set_option maxHeartbeats 4000000 in
theorem con7 (c : CodeS) (k : CoreS) (himm : ∀ i, i < c.nops → 0 ≤ (c.ops i).imm) : Con Try.prog 7 [.agg (codeL c), .agg (coreL k)] ⟨1, [(0, opsBk c false)]⟩ (fun v H' => if newErr c k = 0 then v = .tup [.c (.ptr ⟨1, 0, 0, 0⟩), .c (.int .i64 0)] ∧ H' = newHR c k else v = .tup [.c .nilp, .c (.int .i64 (newErr c k))] ∧ H' = ⟨1, [(0, opsBk c false)]⟩) := by
  (refine con_of_run mixed (fn := Try.f7) (by kernel_rfl) (by kernel_rfl) C7_ok (rs := [.tmp 4, .tmp 5]) (by kernel_rfl) (Nat.le_of_ble_eq_true (by kernel_rfl)) ?_; unfold C7; simp only [initT, Nat.reduceAdd])
  generalize hR : (fun (v : AV) (H' : Heap) => if newErr c k = 0 then v = .tup [.c (.ptr ⟨1, 0, 0, 0⟩), .c (.int .i64 0)] ∧ H' = newHR c k else v = .tup [.c .nilp, .c (.int .i64 (newErr c k))] ∧ H' = ⟨1, [(0, opsBk c false)]⟩) = R
  simp only [codeL, coreL, opsBk]
  repeat' (first
    | refine run_seq ?_
    | refine run_skip ?_
    | (refine run_region fun K hK => ?_; (try (simp (maxSteps := 10000000) only [microL, C7r0, C7r1, C7r2, C7r3, C7r4, C7r5, C7r6, rwp_nil, rwp_cons, rwpK_app, aop, gpath, St.get, slotAt, sfx, eqP, segsOf, St.put, addBlk, getB, setB, delB, ld1, ldn, st1, stn, setRow, rowNeed, segAt, nsub, bin, un, eqB, isShift, sameK, arith, shiftR, getsl, selB_or, selB_and, beqb, shed, addN, Nat.beq, Seg.size, sizes, imp, needP, andN, appL, argsOf, ptrsOf, aasOf, cut, takeS, dropS, putS, partsOf, fillS, fieldOf, nthA, negIf, nilq, nilB, eqS, eqF, eqS1, andP, kin, slcS, strOk, plusA, bndHi, leN, optG, roH, roL, initT, exOk, exAll, wrAddr, Nat.reduceAdd, Nat.reduceSub, Nat.reduceMul, Int.reduceToNat, List.append_nil, List.nil_append, List.cons_append, eqT, idxT, cat, cpy, ite_int, ite_bool, ite_seg, ite_segs, ite_nil, ite_twice, Int.toNat_natCast, app, addBs])); (repeat (first | (refine And.intro ?_ ?_; · omega) | ((first | (refine call_t _ (con19_at c himm) ?_; rintro v H' ⟨rfl, rfl⟩) | refine call_q _ (con19_at c himm) ?_ | refine call_g _ (imp_of (con19_at c himm)) ?_ | (refine call_t _ (con20' k _) ?_; rintro v H' ⟨rfl, rfl⟩) | refine call_q _ (con20' k _) ?_ | refine call_g _ (imp_of (con20' k _)) ?_); simp (maxSteps := 10000000) only [microL, C7r0, C7r1, C7r2, C7r3, C7r4, C7r5, C7r6, rwp_nil, rwp_cons, rwpK_app, aop, gpath, St.get, slotAt, sfx, eqP, segsOf, St.put, addBlk, getB, setB, delB, ld1, ldn, st1, stn, setRow, rowNeed, segAt, nsub, bin, un, eqB, isShift, sameK, arith, shiftR, getsl, selB_or, selB_and, beqb, shed, addN, Nat.beq, Seg.size, sizes, imp, needP, andN, appL, argsOf, ptrsOf, aasOf, cut, takeS, dropS, putS, partsOf, fillS, fieldOf, nthA, negIf, nilq, nilB, eqS, eqF, eqS1, andP, kin, slcS, strOk, plusA, bndHi, leN, optG, roH, roL, initT, exOk, exAll, wrAddr, Nat.reduceAdd, Nat.reduceSub, Nat.reduceMul, Int.reduceToNat, List.append_nil, List.nil_append, List.cons_append, eqT, idxT, cat, cpy, ite_int, ite_bool, ite_seg, ite_segs, ite_nil, ite_twice, Int.toNat_natCast, app, addBs]))); with_reducible refine hK _ ?_; clear hK K)
    | (refine run_cond rfl (fun hc => ?_) (fun hc => ?_) <;> try (simp only [*, Bool.true_eq_false, Bool.false_eq_true, Bool.not_true, Bool.not_false, Bool.true_or, Bool.or_true, Bool.false_or, Bool.or_false, Bool.false_and, Bool.and_false, bne_self_eq_false, beq_self_eq_true] at hc; done))
    | refine run_block ?_
    | refine run_ret ?_
    | refine run_nil ?_
    | refine run_exit ?_
    | refine blk_normal ?_
    | refine blk_ret ?_
    | refine blk_here ?_
    | refine blk_there rfl ?_
    | refine loop_exit ?_
    | refine loop_ret ?_
    | refine un_exit ?_
    | refine un_ret ?_
    | refine unE_exit ?_
    | refine unE_ret ?_
    | refine un_normal ?_)
  · have hr : rightS c = false := by simpa using hc
    have he : newErr c k = 4 := by simp only [newErr, hr, if_true]
    subst hR
    refine end_new0 c 4 rfl rfl rfl ?_
    show if _ then _ else _
    rw [he, if_neg (by decide)]
    exact ⟨rfl, rfl⟩
  · rename_i hr
    have hr : rightS c = true := by simpa using hr
    have hb : coreBad c k = true := hc
    have he : newErr c k = 1 := by simp only [newErr, hr, hb, if_true, if_false, Bool.true_eq_false]
    subst hR
    refine end_new0 c 1 rfl rfl rfl ?_
    show if _ then _ else _
    rw [he, if_neg (by decide)]
    exact ⟨rfl, rfl⟩
  · rename_i hr
    have hr : rightS c = true := by simpa using hr
    have hb : coreBad c k = false := hc
    have he : newErr c k = 0 := by simp only [newErr, hr, hb, if_true, if_false, Bool.true_eq_false, Bool.false_eq_true]
    have hpf := pre_facts (rightS_pre hr)
    repeat' (first
    | refine run_seq ?_
    | refine run_skip ?_
    | (refine run_region fun K hK => ?_; (try (simp (maxSteps := 10000000) only [microL, opsBk, C7r0, C7r1, C7r2, C7r3, C7r4, C7r5, C7r6, C7r7, rwp_nil, rwp_cons, rwpK_app, aop, gpath, St.get, slotAt, sfx, eqP, segsOf, St.put, addBlk, getB, setB, delB, ld1, ldn, st1, stn, setRow, rowNeed, segAt, nsub, bin, un, eqB, isShift, sameK, arith, shiftR, getsl, selB_or, selB_and, beqb, shed, addN, Nat.beq, Seg.size, sizes, imp, needP, andN, appL, argsOf, ptrsOf, aasOf, cut, takeS, dropS, putS, partsOf, fillS, fieldOf, nthA, negIf, nilq, nilB, eqS, eqF, eqS1, andP, kin, slcS, strOk, plusA, bndHi, leN, optG, roH, roL, initT, exOk, exAll, wrAddr, Nat.reduceAdd, Nat.reduceSub, Nat.reduceMul, Int.reduceToNat, List.append_nil, List.nil_append, List.cons_append, eqT, idxT, cat, cpy, ite_int, ite_bool, ite_seg, ite_segs, ite_nil, ite_twice, Int.toNat_natCast, app, addBs])); (repeat (first | (refine And.intro ?_ ?_; · omega))); with_reducible refine hK _ ?_; clear hK K)
    | (refine run_cond rfl (fun hc => ?_) (fun hc => ?_) <;> try (simp only [*, Bool.true_eq_false, Bool.false_eq_true, Bool.not_true, Bool.not_false, Bool.true_or, Bool.or_true, Bool.false_or, Bool.or_false, Bool.false_and, Bool.and_false, bne_self_eq_false, beq_self_eq_true] at hc; done))
    | refine run_block ?_
    | refine run_ret ?_
    | refine run_nil ?_
    | refine run_exit ?_
    | refine blk_normal ?_
    | refine blk_ret ?_
    | refine blk_here ?_
    | refine blk_there rfl ?_
    | refine loop_exit ?_
    | refine loop_ret ?_
    | refine un_exit ?_
    | refine un_ret ?_
    | refine unE_exit ?_
    | refine unE_ret ?_
    | refine un_normal ?_)
    subst hR
    refine end_newR c k rfl rfl rfl rfl rfl ?_
    show if _ then _ else _
    rw [he, if_pos rfl]
    exact ⟨rfl, rfl⟩
theorem con7_at (c : CodeS) (k : CoreS) (himm : ∀ i, i < c.nops → 0 ≤ (c.ops i).imm) (a n : Nat) (X : List (Nat × Blk)) (wr : Bool) (ha : getB X a = some (opsBk c wr)) (hlt : a < n) (hkl : keysLt X n) :
    Con Try.prog 7 [.agg (codeLa a c), .agg (coreL k)] ⟨n, X⟩ (fun v H' => if newErr c k = 0 then v = .tup [.c (.ptr ⟨n, 0, 0, 0⟩), .c (.int .i64 0)] ∧ H' = ⟨n + 2, (n, refB a (n + 1) (newS c k) want0) :: (n + 1, slotB (newS c k)) :: X⟩ else v = .tup [.c .nilp, .c (.int .i64 (newErr c k))] ∧ H' = ⟨n, X⟩) := by
  have hle : leB [a] (opsBk c wr) (opsBk c false) := ⟨rfl, rfl, fun h => (by cases h), Nat.le_refl _, fun i _ => by simp only [opsBk, microL, leSegs, leSeg, leC, and_self]⟩
  have := (con7 c k himm).frame (H := ⟨n, X⟩) [a] rfl ⟨trivial, trivial⟩ ⟨hlt, trivial⟩ hkl (by simp only [leBlks, nthO, ha]; exact ⟨hle, trivial⟩) (args := [.agg (codeLa a c), .agg (coreL k)])
    (by simp only [codeLa, codeL, coreL, leArgs, leV, leV1, leSegs, leSeg, leC, leA, nthO, and_self, implies_true])
  refine this.weaken ?_
  rintro v H' ⟨v0, H0', h0, rfl, rfl⟩
  split at h0
  · rename_i he
    rw [if_pos he]
    obtain ⟨rfl, rfl⟩ := h0
    refine ⟨by simp only [mapV, mapVL, mapV1, mapC, mapA, gId, Nat.add_zero], ?_⟩
    have hr := refB_eq (g := gId [a] n) (j := a) (k := n + 1) (j' := 0) (k' := 2) rfl rfl (newS c k) want0
    simp only [framed, newHR, dropB_ro (l := [a]) (i := 0) (B := opsBk c false) rfl]
    rw [← hr]
    rfl
  · rename_i he
    rw [if_neg he]
    obtain ⟨rfl, rfl⟩ := h0
    refine ⟨rfl, ?_⟩
    simp only [framed, dropB_ro (l := [a]) (i := 0) (B := opsBk c false) rfl]
    rfl
end Go.Proofs.Yteikpddilabppaa
