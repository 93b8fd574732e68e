/- micro: a run begins; runs under other ids. -/
import Derived.Test.YteikpddilabppaaRig
import Derived.Test.YteikpddilabppaaTak
namespace Go.Proofs.Yteikpddilabppaa
open Go.AM
set_option maxRecDepth 100000
set_option linter.unusedSimpArgs false
set_option linter.unusedVariables false
/-! ### Runs under other ids -/
def waitVa (i : Nat) : WaitK → CV
  | .none => .nilfn
  | .loaded => .fn 34 [⟨i, 0, 0, 0⟩] []
  | .stored => .fn 35 [⟨i, 0, 0, 0⟩] []
  | .tried => .fn 36 [⟨i, 0, 0, 0⟩] []
  | .fenced => .fn 37 [⟨i, 0, 0, 0⟩] []
def runLa (i j k : Nat) (s : RunS) : List Seg := [.c (.int .u64 s.pc), .c (.int .i64 s.words), .c (.int .i64 s.el), .c (.int .i64 s.slots), .c (.slice ⟨j, 0, 0, 0⟩ false s.nops),
  .a 31 (fun i => .int .u64 (s.core.x i)), .a 2 (fun i => .int .u64 (s.core.sp i)), .c (.int .u64 s.core.pc), .c (.bool s.core.n), .c (.bool s.core.z), .c (.bool s.core.c), .c (.bool s.core.v), .c (.int .i64 s.core.el), .c (.bool s.core.mask),
  .c (.int .u64 s.core.q0), .c (.int .u64 s.core.q1), .c (.int .u64 s.core.q2), .c (.int .u64 s.core.q3), .c (.int .u64 s.core.q4), .c (.int .u64 s.core.q5), .c (.int .i64 s.core.id), .c (.int .i64 s.core.wait), .c (.bool s.core.last),
  .a 8 (fun i => .int .u64 (s.host i)), .c (.slice ⟨k, 0, 0, 0⟩ false s.nslots), .c (.int .i64 s.at_),
  .c (.int .i64 s.want.kind), .c (.int .u64 s.want.addr), .c (.int .u64 s.want.value), .c (.int .i64 s.want.acq), .c (.bool s.want.rel), .c (.int .i64 s.want.w5), .c (.bool s.want.w6), .c (.int .i64 s.want.w7), .c (.int .i64 s.want.w8), .c (.int .i64 s.want.w9),
  .c (waitVa i s.waits), .c (.bool s.left), .c (.bool s.faulted), .c (.int .u32 s.guest), .c (.bool s.isGuest), .c (.int .i64 s.steps)]
def runBa (i j k : Nat) (s : RunS) : Blk := ⟨80, none, fun _ => runLa i j k s, 65, true⟩
theorem waitVa_eq {g : Nat → Nat} {i : Nat} (h : g 0 = i) (w : WaitK) : mapC g (waitV w) = waitVa i w := by
  subst h
  cases w <;> rfl
theorem runBa_eq {g : Nat → Nat} {i j k : Nat} (h0 : g 0 = i) (h1 : g 1 = j) (h2 : g 2 = k) (s : RunS) : mapB g (runB s) = runBa i j k s := by
  have hw := waitVa_eq h0 s.waits
  subst h1 h2
  simp only [mapB, runB, runBa, runL, runLa, mapSegs, mapSeg, hw]
  rfl
theorem opsB_eq {g : Nat → Nat} (s : RunS) : mapB g (opsB s) = opsB s := rfl
theorem slotB_eq {g : Nat → Nat} (s : RunS) : mapB g (slotB s) = slotB s := rfl
theorem Con.perm {P : Program} {f : FuncId} {args : List AV} {H : Heap} {R R' : Post} (h : Con P f args H R) (hR : ∀ v H', R v H' → ∃ H'', H''.next = H'.next ∧ (∀ i, getB H''.blks i = getB H'.blks i) ∧ R' v H'') : Con P f args H R' := by
  refine ⟨h.1, fun φ w xs hF hH => (h.2 φ w xs hF hH).mono fun e w' ⟨φ', v, x, H', he, hr, hv, hh, hf⟩ => ?_⟩
  obtain ⟨H'', h1, h2, h3⟩ := hR v H' hr
  exact ⟨φ', v, x, H'', he, h3, hv, ⟨fun i B p hB hp => hh.blk i B p (by rw [← h2]; exact hB) hp, fun i j B C p q hB hC => hh.inj i j B C p q (by rw [← h2]; exact hB) (by rw [← h2]; exact hC), fun i hi => hh.fresh i (by omega), hh.lt⟩,
    ⟨hf.le, hf.same, by rw [h1]; exact hf.nx, hf.size, hf.os, hf.tape, hf.output, hf.old, fun i B p hB => hf.own i B p (by rw [← h2]; exact hB)⟩⟩
theorem beq_ne {a b : Nat} (h : a ≠ b) : Nat.beq a b = false := by
  cases hb : Nat.beq a b with
  | false => rfl
  | true => exact absurd (Nat.eq_of_beq_eq_true hb) h
theorem dropB_get {i j k : Nat} {s : RunS} {X : List (Nat × Blk)} {q : Nat} (hi : q ≠ i) (hj : q ≠ j) (hk : q ≠ k) : getB (dropB [i, j, k] (runH s).blks X) q = getB X q := by
  induction X with
  | nil => rfl
  | cons x r ih =>
    obtain ⟨m, B⟩ := x
    simp only [dropB]
    cases hg : goneB [i, j, k] (runH s).blks m with
    | false => simp only [getB, ih]
    | true =>
      have hm : m = i ∨ m = j ∨ m = k := by
        simp only [runH, goneB, runB, opsB, slotB, nthO] at hg
        by_cases h1 : i = m
        · exact .inl h1.symm
        · by_cases h2 : j = m
          · exact .inr (.inl h2.symm)
          · by_cases h3 : k = m
            · exact .inr (.inr h3.symm)
            · rw [beq_ne h1, beq_ne h2, beq_ne h3] at hg; cases hg
      have : Nat.beq m q = false := beq_ne (by omega)
      simp only [getB, this, ih]
theorem run_at {f : FuncId} {args : List AV} {s s' : RunS} {V : AV} (h : Con Try.prog f args (runH s) (fun v H' => v = V ∧ H' = runH s')) (i j k n : Nat) (X : List (Nat × Blk)) (args' : List AV)
    (hi : getB X i = some (runBa i j k s)) (hj : getB X j = some (opsB s)) (hk : getB X k = some (slotB s)) (d1 : i ≠ j) (d2 : i ≠ k) (d3 : j ≠ k) (l1 : i < n) (l2 : j < n) (l3 : k < n) (hkl : keysLt X n) (ha : leArgs [i, j, k] args' args) (hV : mapV (gId [i, j, k] n) V = V) :
    Con Try.prog f args' ⟨n, X⟩ (fun v H' => v = V ∧ H' = ⟨n, setB (setB (setB X i (runBa i j k s')) j (opsB s')) k (slotB s')⟩) := by
  have hle : leB [i, j, k] (runBa i j k s) (runB s) := by
    refine ⟨rfl, rfl, id, Nat.le_refl _, fun _ _ => ?_⟩
    have hw : leC [i, j, k] (waitVa i s.waits) (waitV s.waits) := by
      cases s.waits <;> first | trivial | exact ⟨rfl, ⟨⟨rfl, rfl, rfl, rfl⟩, trivial⟩, trivial⟩
    simp only [↓hw, runB, runBa, runL, runLa, leSegs, leSeg, leC, leA, nthO, and_self, implies_true]
  have := h.frame (H := ⟨n, X⟩) [i, j, k] rfl ⟨⟨beq_ne d1, beq_ne d2, trivial⟩, ⟨beq_ne d3, trivial⟩, trivial, trivial⟩ ⟨l1, l2, l3, trivial⟩ hkl (by simp only [runH, leBlks, nthO, hi, hj, hk]; exact ⟨hle, ops_le s, slot_le s, trivial⟩) ha
  refine Con.perm this ?_
  rintro v H' ⟨v0, H0', ⟨rfl, rfl⟩, rfl, rfl⟩
  refine ⟨_, ?_, ?_, hV, rfl⟩
  · rfl
  · intro q
    have e : (framed (runH s) ⟨n, X⟩ [i, j, k] (runH s')).blks = (i, runBa i j k s') :: (j, opsB s') :: (k, slotB s') :: dropB [i, j, k] (runH s).blks X := by
      have := runBa_eq (g := gId [i, j, k] n) (i := i) (j := j) (k := k) rfl rfl rfl s'
      rw [← this]
      rfl
    rw [e]
    by_cases q1 : q = k
    · subst q1
      rw [getB_setB_self (B := slotB s) (by rw [getB_setB_ne d3.symm, getB_setB_ne d2.symm]; exact hk), getB_cons_ne d2.symm, getB_cons_ne d3.symm, getB_cons_self]
    · rw [getB_setB_ne q1]
      by_cases q2 : q = j
      · subst q2
        rw [getB_setB_self (B := opsB s) (by rw [getB_setB_ne d1.symm]; exact hj), getB_cons_ne d1.symm, getB_cons_self]
      · rw [getB_setB_ne q2]
        by_cases q3 : q = i
        · subst q3
          rw [getB_setB_self hi, getB_cons_self]
        · rw [getB_setB_ne q3, getB_cons_ne q3, getB_cons_ne q2, getB_cons_ne q1, dropB_get q3 q2 q1]
/-! ### A run begins -/
def newS (c : CodeS) (k : CoreS) : RunS := ⟨c.pc, c.words, c.el, c.slots, c.nops, c.ops, k, fun _ => 0, c.slots.toNat, fun _ => 0, 0, want0, .none, false, false, 0, false, 0⟩
def coreOk (k : CoreS) : Bool := (k.el == 0 || k.el == 1) && decide (k.wait ≥ 0) && decide (k.wait ≤ 2) && decide (k.id ≥ 0) && decide (k.id < 8)
def coreBad (c : CodeS) (k : CoreS) : Bool := !coreOk k || (k.el != c.el)
/-- What New answers: nothing, by an error, or a run. -/
def newErr (c : CodeS) (k : CoreS) : Int := if rightS c = false then 4 else if coreBad c k = true then 1 else 0
def newH (c : CodeS) (k : CoreS) : Heap := ⟨4, [(1, runBa 1 2 3 (newS c k)), (2, opsB (newS c k)), (3, slotB (newS c k)), (0, opsBk c false)]⟩
theorem con17_at (c : CodeS) (himm : ∀ i, i < c.nops → 0 ≤ (c.ops i).imm) {B C : Blk} : Con Try.prog 17 [.agg (codeL c)] ⟨3, [(2, B), (1, C), (0, opsBk c false)]⟩ (fun v H' => v = .c (.bool (rightS c)) ∧ H' = ⟨3, [(2, B), (1, C), (0, opsBk c false)]⟩) := by
  refine ((con17 c false himm).frameN [0] rfl ?_ [(2, B), (1, C)] 3 (fun v H' hv => by rw [hv.2]; exact ⟨rfl, rfl⟩) rfl rfl (by show 1 ≤ 3; decide) ?_ ?_).weaken ?_
  · intro i h
    match i, h with
    | 0, _ => rfl
  · refine ⟨⟨rfl, rfl, id, Nat.le_refl _, fun i _ => ?_⟩, trivial⟩
    simp only [opsBk, microL, leSegs, leSeg, leC, and_self]
  · simp only [codeL, leArgs, leV, leV1, leSegs, leSeg, leC, leA, nthO, and_self]
  · rintro v H' ⟨H0', ⟨rfl, rfl⟩, rfl⟩
    exact ⟨rfl, rfl⟩
theorem rightS_pre {c : CodeS} (h : rightS c = true) : preBad c = false := by
  simp only [rightS, Bool.and_eq_true, Bool.not_eq_true'] at h
  exact h.1.1
theorem end_new0 {l : List Slot} {H : Heap} {R : Post} (c : CodeS) (e : Int) (h0 : getB H.blks 0 = some (opsBk c false)) (h4 : slotAt l 4 = some ⟨4, [], .c .nilp⟩) (h5 : slotAt l 5 = some ⟨5, [], .c (.int .i64 e)⟩) (hR : R (.tup [.c .nilp, .c (.int .i64 e)]) ⟨1, [(0, opsBk c false)]⟩) : endQ (LeS 1) [.tmp 4, .tmp 5] R .ret ⟨l, H⟩ := by
  refine end_of ⟨[⟨4, [], .c .nilp⟩, ⟨5, [], .c (.int .i64 e)⟩], ⟨1, [(0, opsBk c false)]⟩⟩ ?_ hR
  refine LeS.intro [0] (fun i h => ?_) (by simp only [diff, notIn, and_self]) rfl (slotsOf h4 trivial (slotsOf h5 ⟨rfl, rfl⟩ trivial)) ?_
  · match i, h with
    | 0, _ => rfl
  · simp only [leBlks, nthO, h0]
    exact ⟨⟨rfl, rfl, id, Nat.le_refl _, fun i _ => by simp only [opsBk, microL, leSegs, leSeg, leC, and_self]⟩, trivial⟩
theorem end_new1 {l : List Slot} {H : Heap} {R : Post} (c : CodeS) (k : CoreS) (h0 : getB H.blks 0 = some (opsBk c false)) (h1 : getB H.blks 5 = some (runBa 5 3 4 (newS c k))) (h2 : getB H.blks 3 = some (opsB (newS c k))) (h3 : getB H.blks 4 = some (slotB (newS c k)))
    (h4 : slotAt l 4 = some ⟨4, [], .c (.ptr ⟨5, 0, 0, 0⟩)⟩) (h5 : slotAt l 5 = some ⟨5, [], .c (.int .i64 0)⟩) (hR : R (.tup [.c (.ptr ⟨1, 0, 0, 0⟩), .c (.int .i64 0)]) (newH c k)) : endQ (LeS 1) [.tmp 4, .tmp 5] R .ret ⟨l, H⟩ := by
  refine end_of ⟨[⟨4, [], .c (.ptr ⟨1, 0, 0, 0⟩)⟩, ⟨5, [], .c (.int .i64 0)⟩], newH c k⟩ ?_ hR
  refine LeS.intro [0, 5, 3, 4] (fun i h => ?_) (by simp only [diff, notIn, Nat.beq, and_self]) rfl ?_ ?_
  · match i, h with
    | 0, _ => rfl
  · simp only [slotsLe, h4, h5]
    exact ⟨⟨rfl, rfl, rfl, rfl⟩, ⟨rfl, rfl⟩, trivial⟩
  · simp only [newH, leBlks, nthO, h0, h1, h2, h3]
    refine ⟨⟨rfl, rfl, id, Nat.le_refl _, fun i _ => ?_⟩, ops_le _, slot_le _, ⟨rfl, rfl, id, Nat.le_refl _, fun i _ => by simp only [opsBk, microL, leSegs, leSeg, leC, and_self]⟩, trivial⟩
    simp only [runBa, runLa, newS, waitVa, leSegs, leSeg, leC, leA, nthO, and_self, implies_true]
set_option maxHeartbeats 4000000 in
theorem con6 (c : CodeS) (k : CoreS) (himm : ∀ i, i < c.nops → 0 ≤ (c.ops i).imm) : Con Try.prog 6 [.agg (codeL c), .agg (coreL k)] ⟨1, [(0, opsBk c false)]⟩ (fun v H' => if newErr c k = 0 then v = .tup [.c (.ptr ⟨1, 0, 0, 0⟩), .c (.int .i64 0)] ∧ H' = newH c k else v = .tup [.c .nilp, .c (.int .i64 (newErr c k))] ∧ H' = ⟨1, [(0, opsBk c false)]⟩) := by
  (refine con_of_run mixed (fn := Try.f6) (by kernel_rfl) (by kernel_rfl) C6_ok (rs := [.tmp 4, .tmp 5]) (by kernel_rfl) (Nat.le_of_ble_eq_true (by kernel_rfl)) ?_; unfold C6; simp only [initT, Nat.reduceAdd])
  generalize hR : (fun (v : AV) (H' : Heap) => if newErr c k = 0 then v = .tup [.c (.ptr ⟨1, 0, 0, 0⟩), .c (.int .i64 0)] ∧ H' = newH c k else v = .tup [.c .nilp, .c (.int .i64 (newErr c k))] ∧ H' = ⟨1, [(0, opsBk c false)]⟩) = R
  simp only [codeL, coreL, opsBk]
  repeat' (first
    | refine run_seq ?_
    | refine run_skip ?_
    | (refine run_region fun K hK => ?_; (try (simp (maxSteps := 10000000) only [microL, C6r0, C6r1, C6r2, C6r3, C6r4, C6r5, C6r6, rwp_nil, rwp_cons, rwpK_app, aop, gpath, St.get, slotAt, sfx, eqP, segsOf, St.put, addBlk, getB, setB, delB, ld1, ldn, st1, stn, setRow, rowNeed, segAt, nsub, bin, un, eqB, isShift, sameK, arith, shiftR, getsl, selB_or, selB_and, beqb, shed, addN, Nat.beq, Seg.size, sizes, imp, needP, andN, appL, argsOf, ptrsOf, aasOf, cut, takeS, dropS, putS, partsOf, fillS, fieldOf, nthA, negIf, nilq, nilB, eqS, eqF, eqS1, andP, kin, slcS, strOk, plusA, bndHi, leN, optG, roH, roL, initT, exOk, exAll, wrAddr, Nat.reduceAdd, Nat.reduceSub, Nat.reduceMul, Int.reduceToNat, List.append_nil, List.nil_append, List.cons_append, eqT, idxT, cat, cpy, ite_int, ite_bool, ite_seg, ite_segs, ite_nil, ite_twice, Int.toNat_natCast, app, addBs])); (repeat (first | (refine And.intro ?_ ?_; · omega) | ((first | (refine call_t _ (con17_at c himm) ?_; rintro v H' ⟨rfl, rfl⟩) | refine call_q _ (con17_at c himm) ?_ | refine call_g _ (imp_of (con17_at c himm)) ?_ | (refine call_t _ (con18 k _) ?_; rintro v H' ⟨rfl, rfl⟩) | refine call_q _ (con18 k _) ?_ | refine call_g _ (imp_of (con18 k _)) ?_); simp (maxSteps := 10000000) only [microL, C6r0, C6r1, C6r2, C6r3, C6r4, C6r5, C6r6, rwp_nil, rwp_cons, rwpK_app, aop, gpath, St.get, slotAt, sfx, eqP, segsOf, St.put, addBlk, getB, setB, delB, ld1, ldn, st1, stn, setRow, rowNeed, segAt, nsub, bin, un, eqB, isShift, sameK, arith, shiftR, getsl, selB_or, selB_and, beqb, shed, addN, Nat.beq, Seg.size, sizes, imp, needP, andN, appL, argsOf, ptrsOf, aasOf, cut, takeS, dropS, putS, partsOf, fillS, fieldOf, nthA, negIf, nilq, nilB, eqS, eqF, eqS1, andP, kin, slcS, strOk, plusA, bndHi, leN, optG, roH, roL, initT, exOk, exAll, wrAddr, Nat.reduceAdd, Nat.reduceSub, Nat.reduceMul, Int.reduceToNat, List.append_nil, List.nil_append, List.cons_append, eqT, idxT, cat, cpy, ite_int, ite_bool, ite_seg, ite_segs, ite_nil, ite_twice, Int.toNat_natCast, app, addBs]))); with_reducible refine hK _ ?_; clear hK K)
    | (refine run_cond rfl (fun hc => ?_) (fun hc => ?_) <;> try (simp only [*, Bool.true_eq_false, Bool.false_eq_true, Bool.not_true, Bool.not_false, Bool.true_or, Bool.or_true, Bool.false_or, Bool.or_false, Bool.false_and, Bool.and_false, bne_self_eq_false, beq_self_eq_true] at hc; done))
    | refine run_block ?_
    | refine run_ret ?_
    | refine run_nil ?_
    | refine run_exit ?_
    | refine blk_normal ?_
    | refine blk_ret ?_
    | refine blk_here ?_
    | refine blk_there rfl ?_
    | refine loop_exit ?_
    | refine loop_ret ?_
    | refine un_exit ?_
    | refine un_ret ?_
    | refine unE_exit ?_
    | refine unE_ret ?_
    | refine un_normal ?_)
  · have hr : rightS c = false := by simpa using hc
    have he : newErr c k = 4 := by simp only [newErr, hr, if_true]
    subst hR
    refine end_new0 c 4 rfl rfl rfl ?_
    show if _ then _ else _
    rw [he, if_neg (by decide)]
    exact ⟨rfl, rfl⟩
  · rename_i hr
    have hr : rightS c = true := by simpa using hr
    have hb : coreBad c k = true := hc
    have he : newErr c k = 1 := by simp only [newErr, hr, hb, if_true, if_false, Bool.true_eq_false]
    subst hR
    refine end_new0 c 1 rfl rfl rfl ?_
    show if _ then _ else _
    rw [he, if_neg (by decide)]
    exact ⟨rfl, rfl⟩
  · rename_i hr
    have hr : rightS c = true := by simpa using hr
    have hb : coreBad c k = false := hc
    have he : newErr c k = 0 := by simp only [newErr, hr, hb, if_true, if_false, Bool.true_eq_false, Bool.false_eq_true]
    have hpf := pre_facts (rightS_pre hr)
    repeat' (first
    | refine run_seq ?_
    | refine run_skip ?_
    | (refine run_region fun K hK => ?_; (try (simp (maxSteps := 10000000) only [microL, opsBk, C6r0, C6r1, C6r2, C6r3, C6r4, C6r5, C6r6, rwp_nil, rwp_cons, rwpK_app, aop, gpath, St.get, slotAt, sfx, eqP, segsOf, St.put, addBlk, getB, setB, delB, ld1, ldn, st1, stn, setRow, rowNeed, segAt, nsub, bin, un, eqB, isShift, sameK, arith, shiftR, getsl, selB_or, selB_and, beqb, shed, addN, Nat.beq, Seg.size, sizes, imp, needP, andN, appL, argsOf, ptrsOf, aasOf, cut, takeS, dropS, putS, partsOf, fillS, fieldOf, nthA, negIf, nilq, nilB, eqS, eqF, eqS1, andP, kin, slcS, strOk, plusA, bndHi, leN, optG, roH, roL, initT, exOk, exAll, wrAddr, Nat.reduceAdd, Nat.reduceSub, Nat.reduceMul, Int.reduceToNat, List.append_nil, List.nil_append, List.cons_append, eqT, idxT, cat, cpy, ite_int, ite_bool, ite_seg, ite_segs, ite_nil, ite_twice, Int.toNat_natCast, app, addBs])); (repeat (first | (refine And.intro ?_ ?_; · omega) | ((first | (refine call_t _ (con17_at c himm) ?_; rintro v H' ⟨rfl, rfl⟩) | refine call_q _ (con17_at c himm) ?_ | refine call_g _ (imp_of (con17_at c himm)) ?_ | (refine call_t _ (con18 k _) ?_; rintro v H' ⟨rfl, rfl⟩) | refine call_q _ (con18 k _) ?_ | refine call_g _ (imp_of (con18 k _)) ?_); simp (maxSteps := 10000000) only [microL, opsBk, C6r0, C6r1, C6r2, C6r3, C6r4, C6r5, C6r6, rwp_nil, rwp_cons, rwpK_app, aop, gpath, St.get, slotAt, sfx, eqP, segsOf, St.put, addBlk, getB, setB, delB, ld1, ldn, st1, stn, setRow, rowNeed, segAt, nsub, bin, un, eqB, isShift, sameK, arith, shiftR, getsl, selB_or, selB_and, beqb, shed, addN, Nat.beq, Seg.size, sizes, imp, needP, andN, appL, argsOf, ptrsOf, aasOf, cut, takeS, dropS, putS, partsOf, fillS, fieldOf, nthA, negIf, nilq, nilB, eqS, eqF, eqS1, andP, kin, slcS, strOk, plusA, bndHi, leN, optG, roH, roL, initT, exOk, exAll, wrAddr, Nat.reduceAdd, Nat.reduceSub, Nat.reduceMul, Int.reduceToNat, List.append_nil, List.nil_append, List.cons_append, eqT, idxT, cat, cpy, ite_int, ite_bool, ite_seg, ite_segs, ite_nil, ite_twice, Int.toNat_natCast, app, addBs]))); with_reducible refine hK _ ?_; clear hK K)
    | (refine run_cond rfl (fun hc => ?_) (fun hc => ?_) <;> try (simp only [*, Bool.true_eq_false, Bool.false_eq_true, Bool.not_true, Bool.not_false, Bool.true_or, Bool.or_true, Bool.false_or, Bool.or_false, Bool.false_and, Bool.and_false, bne_self_eq_false, beq_self_eq_true] at hc; done))
    | refine run_block ?_
    | refine run_ret ?_
    | refine run_nil ?_
    | refine run_exit ?_
    | refine blk_normal ?_
    | refine blk_ret ?_
    | refine blk_here ?_
    | refine blk_there rfl ?_
    | refine loop_exit ?_
    | refine loop_ret ?_
    | refine un_exit ?_
    | refine un_ret ?_
    | refine unE_exit ?_
    | refine unE_ret ?_
    | refine un_normal ?_)
    subst hR
    refine end_new1 c k rfl rfl rfl rfl rfl rfl ?_
    show if _ then _ else _
    rw [he, if_pos rfl]
    exact ⟨rfl, rfl⟩
theorem rightL_all {c : CodeS} : ∀ (n i : Nat) (set slot : Nat → Bool), rightL c n i set slot = true → ∀ j, i ≤ j → j < i + n → opA c j (c.ops j) = false ∧ ∃ set slot, opB (c.ops j) (fieldT (c.ops j).kind.toNat) set slot = false
  | 0, i, set, slot, h, j, h1, h2 => by omega
  | n + 1, i, set, slot, h, j, h1, h2 => by
    simp only [rightL, Bool.and_eq_true, Bool.not_eq_true', Bool.or_eq_false_iff] at h
    by_cases hj : j = i
    · subst hj; exact ⟨h.1.1, set, slot, h.1.2⟩
    · exact rightL_all n (i + 1) _ _ h.2 j (by omega) (by omega)
theorem op_ok {c : CodeS} {i : Nat} {m : MicroS} {set slot : Nat → Bool} (hp : preBad c = false) (hA : opA c i m = false) (hB : opB m (fieldT m.kind.toNat) set slot = false) (hi : i < c.nops) (himm : 0 ≤ m.imm) : OpOk c.slots.toNat c.nops i m := by
  have hpf := pre_facts hp
  have hk := opA_facts hA
  have hf : fitsS m c.slots = true := by
    simp only [opA, Bool.or_eq_false_iff, Bool.not_eq_false'] at hA
    exact hA.2
  have hs := opA_slot hA ⟨hpf.2.2.2.2.1, hpf.2.2.2.2.2.1⟩
  have hlv : ((m.kind == 20) || (m.kind == 21) || (m.kind == 22)) = ((i : Int) == IntKind.i64.wrap ((c.nops : Int) - 1)) := by
    simp only [opA, Bool.or_eq_false_iff, Bool.not_eq_false'] at hA
    simpa using hA.1.2
  have hw : IntKind.i64.wrap ((c.nops : Int) - 1) = (c.nops : Int) - 1 := by rw [IntKind.wrap_i64]; omega
  rw [hw] at hlv
  simp [opB, regBad, btw] at hB
  refine ⟨hk.1, hk.2, by omega, by omega, by omega, by omega, by omega, by omega, himm, fun h => by have := hs h; omega, fun h => ?_, fun h => ?_, ?_⟩
  · simp only [fitsS, h, if_true] at hf
    simpa using hf
  · have h5 : ¬ (m.kind = 5 ∨ m.kind = 6) := by omega
    simp only [fitsS, h, h5, if_true, if_false] at hf
    simpa using hf
  · constructor
    · intro h
      have : ((m.kind == 20) || (m.kind == 21) || (m.kind == 22)) = true := by simpa [or_assoc] using h
      rw [this] at hlv
      have := (beq_iff_eq).1 hlv.symm
      omega
    · intro h
      have : ((i : Int) == (c.nops : Int) - 1) = true := by rw [beq_iff_eq]; omega
      rw [this] at hlv
      simpa [or_assoc] using hlv
theorem new_good {c : CodeS} {k : CoreS} (h : rightS c = true) (himm : ∀ i, i < c.nops → 0 ≤ (c.ops i).imm) : GoodS (newS c k) := by
  have hp := rightS_pre h
  have hpf := pre_facts hp
  have hr : rightL c c.nops 0 (fun _ => false) (fun _ => false) = true := by
    simp only [rightS, Bool.and_eq_true] at h
    exact h.2
  refine ⟨fun i hi => ?_, hpf.2.2.2.2.2.2.1, ?_, Int.le_refl _, fun _ => rfl, fun _ => ?_, Int.le_refl _, ?_, fun h => (by cases h), ⟨hpf.2.2.1, hpf.2.2.2.1⟩, fun h => (by cases h), fun h => (by cases h), fun h => (by cases h)⟩
  · obtain ⟨hA, set, slot, hB⟩ := rightL_all _ _ _ _ hr i (by omega) (by simpa [newS] using hi)
    exact op_ok hp hA hB hi (himm i hi)
  · show c.nops ≤ 1000000; omega
  · show (0 : Int) < c.nops; omega
  · show (0 : Int) ≤ c.nops; omega
end Go.Proofs.Yteikpddilabppaa
