/- dead.Seen; slices.Clone. -/
import Derived.Test.YtmbnakinhnkabaaDl
namespace Go.Proofs.Ytmbnakinhnkabaa
open Go.AM
set_option maxRecDepth 100000
set_option linter.unusedSimpArgs false
set_option linter.unusedVariables false
theorem opsOk_at {b : BlkS} : ∀ {n : Nat}, opsOk b n = true → ∀ {k : Nat}, k < n → ropS (b.f k) k b.f = true ∧ endS (b.f k).kind = decide ((k : Int) = (b.n : Int) - 1)
  | n + 1, h, k, hk => by
    simp only [opsOk, Bool.and_eq_true, beq_iff_eq] at h
    by_cases e : k = n
    · subst e; exact h.2
    · exact opsOk_at h.1 (by omega)
theorem usesOk_at {o : OpS} {m : Nat} {f : Nat → OpS} : ∀ {u : Nat}, usesOk o m f u = true → ∀ {i : Nat}, i < u → 0 ≤ useF o i ∧ useF o i < m ∧ defS (f (useF o i).toNat).kind = true
  | u + 1, h, i, hi => by
    simp only [usesOk, Bool.and_eq_true] at h
    by_cases e : i = u
    · subst e
      have := h.2
      unfold useOk at this
      simp only [Bool.and_eq_true, decide_eq_true_eq] at this
      exact ⟨this.1.1, this.1.2, this.2⟩
    · exact usesOk_at h.1 (by omega)
theorem right_ops {b : BlkS} (h : rightS b = true) : opsOk b b.n = true := by
  unfold rightS at h
  simp only [Bool.and_eq_true] at h
  exact h.2
theorem right_use {b : BlkS} (h : rightS b = true) {k : Nat} (hk : k < b.n) {i : Nat} (hi : i < usesS (b.f k).kind) : 0 ≤ useF (b.f k) i ∧ useF (b.f k) i < k ∧ defS (b.f (useF (b.f k) i).toNat).kind = true := by
  have := (opsOk_at (right_ops h) hk).1
  unfold ropS at this
  simp only [Bool.and_eq_true] at this
  exact usesOk_at this.2 hi
theorem right_n {b : BlkS} (h : rightS b = true) : 1 ≤ b.n ∧ b.n ≤ 512 := by
  unfold rightS head1 at h
  simp only [Bool.and_eq_true, Bool.not_eq_true', Bool.or_eq_false_iff, decide_eq_false_iff_not] at h
  omega
theorem right_U {b : BlkS} (h : rightS b = true) : ∀ k, k < b.n → ∀ i, i < usesS (b.f k).kind → 0 ≤ useF (b.f k) i ∧ useF (b.f k) i < b.n := fun k hk i hi => by
  obtain ⟨h1, h2, _⟩ := right_use h hk hi
  exact ⟨h1, by omega⟩
theorem con37_at (b : BlkS) (i n : Nat) (X : List (Nat × Blk)) (w : Bool) (h0 : getB X i = some ⟨6, some b.n, fun i => opL (b.f i), 39, w⟩) (hlt : i < n) (hkl : keysLt X n) : Con Try.prog 37 [.agg (blkL b i)] ⟨n, X⟩ (fun v H' => v = .c (.bool (rightS b)) ∧ H' = ⟨n, X⟩) :=
  ro_gen (con37 b) [i] n X rfl ⟨trivial, trivial⟩ ⟨hlt, trivial⟩ hkl (by simp only [leBlks, nthO, h0]; exact ⟨ops_le b.n b.f w, trivial⟩) (by simp only [leArgs, leV, leV1, blkL, leSegs, leSeg, leC, leA, nthO, and_self]) rfl (fun _ => rfl) rfl rfl
theorem drop_one (a b M n : Nat) (g : Nat → Bool) (f : Nat → OpS) : ∀ X : List (Nat × Blk), dropB [a, b] [(1, boolsB M g true), (0, opsB n f)] X = delB X b
  | [] => rfl
  | (k, B) :: r => by
    simp only [dropB, goneB, boolsB, opsB, nthO, delB]
    have e : Nat.beq b k = Nat.beq k b := by
      by_cases h : b = k
      · rw [h]
      · cases h1 : Nat.beq b k with
        | true => exact absurd (Nat.eq_of_beq_eq_true h1) h
        | false => cases h2 : Nat.beq k b with
          | true => exact absurd (Nat.eq_of_beq_eq_true h2).symm h
          | false => rfl
    rw [← e]
    have ih := drop_one a b M n g f r
    simp only [boolsB, opsB] at ih
    cases Nat.beq b k with
    | true => simp only []; exact ih
    | false => simp only []; rw [ih]
theorem con38_at (f : Nat → OpS) (n M : Nat) (g0 : Nat → Bool) (hM : n ≤ M) (hn : n ≤ 140737488355328) (hU : ∀ k, k < n → ∀ i, i < usesS (f k).kind → 0 ≤ useF (f k) i ∧ useF (f k) i < n) (a b m : Nat) (X : List (Nat × Blk)) (w : Bool) (hab : Nat.beq a b = false) (ha : getB X a = some ⟨6, some n, fun i => opL (f i), 39, w⟩) (hb : getB X b = some ⟨1, some M, fun i => [.c (.bool (g0 i))], 4, true⟩) (hla : a < m) (hlb : b < m) (hkl : keysLt X m) :
    Con Try.prog 38 [.c (.slice ⟨a, 0, 0, 0⟩ false n), .c (.slice ⟨b, 0, 0, 0⟩ false n)] ⟨m, X⟩ (fun v H' => v = .tup [] ∧ H' = ⟨m, (b, boolsB M (markN f n g0 n) true) :: delB X b⟩) := by
  refine ((con38 f n M g0 hM hn hU).frame (H := ⟨m, X⟩) [a, b] rfl (by simp only [diff, notIn, hab, and_self]) ⟨hla, hlb, trivial⟩ hkl ?_ (by simp only [leArgs, leV, leV1, leC, leA, nthO, and_self])).weaken ?_
  · simp only [leBlks, nthO, ha, hb]
    exact ⟨boolsw_le M g0 g0 (fun _ _ => rfl), ops_le n f w, trivial⟩
  · rintro v H' ⟨v0, H0', ⟨rfl, rfl⟩, rfl, rfl⟩
    refine ⟨rfl, ?_⟩
    simp only [framed, drop_one]
    rfl
def retSeen (b : BlkS) : AV := if rightS b = true then .tup [.c (.slice ⟨1, 0, 0, 0⟩ false b.n), .c (.int .i64 0)] else .tup [.c .nils, .c (.int .i64 4)]
def heapSeen (b : BlkS) : Heap := if rightS b = true then ⟨2, [(1, boolsB b.n (markN b.f b.n (fun _ => false) b.n) true), (0, opsB b.n b.f)]⟩ else ⟨1, [(0, opsB b.n b.f)]⟩
theorem con12 (b : BlkS) : Con Try.prog 12 [.agg (blkL b 0)] ⟨1, [(0, opsB b.n b.f)]⟩ (fun v H' => v = retSeen b ∧ H' = heapSeen b) := by
  (refine con_of_run mixed (fn := Try.f12) (by kernel_rfl) (by kernel_rfl) C12_ok (rs := [.tmp 2, .tmp 3]) (by kernel_rfl) (Nat.le_of_ble_eq_true (by kernel_rfl)) ?_; unfold C12; simp only [initT, Nat.reduceAdd])
  repeat' (first
    | refine run_seq ?_
    | refine run_skip ?_
    | (refine run_region fun K hK => ?_; (try (simp (maxSteps := 10000000) only [opL, blkL, opsB, C12r0, C12r1, C12r2, C12r3, C12r5, rwp_nil, rwp_cons, rwpK_app, aop, gpath, St.get, slotAt, sfx, eqP, segsOf, St.put, addBlk, getB, setB, delB, ld1, ldn, st1, stn, setRow, rowNeed, segAt, nsub, bin, un, eqB, isShift, sameK, arith, shiftR, getsl, selB_or, selB_and, beqb, shed, addN, Nat.beq, Seg.size, sizes, imp, needP, andN, appL, argsOf, ptrsOf, aasOf, cut, takeS, dropS, putS, partsOf, fillS, fieldOf, nthA, negIf, nilq, nilB, eqS, eqF, eqS1, andP, kin, slcS, strOk, plusA, bndHi, leN, optG, roH, roL, initT, exOk, exAll, wrAddr, Nat.reduceAdd, Nat.reduceSub, Nat.reduceMul, Int.reduceToNat, List.append_nil, List.nil_append, List.cons_append, eqT, idxT, cat, cpy, ite_int, ite_bool, ite_seg, ite_segs, ite_nil, ite_twice, Int.toNat_natCast, app, addBs, tob])); (repeat (first | (refine And.intro ?_ ?_; · (first | trivial | assumption | omega)) | ((first | (refine call_t _ (con37_at b 0 _ _ _ rfl (Nat.le_of_ble_eq_true rfl) (by simp [keysLt])) ?_; rintro v H' ⟨rfl, rfl⟩) | refine call_q _ (con37_at b 0 _ _ _ rfl (Nat.le_of_ble_eq_true rfl) (by simp [keysLt])) ?_ | refine call_g _ (imp_of (con37_at b 0 _ _ _ rfl (Nat.le_of_ble_eq_true rfl) (by simp [keysLt]))) ?_); simp (maxSteps := 10000000) only [opL, blkL, opsB, C12r0, C12r1, C12r2, C12r3, C12r5, rwp_nil, rwp_cons, rwpK_app, aop, gpath, St.get, slotAt, sfx, eqP, segsOf, St.put, addBlk, getB, setB, delB, ld1, ldn, st1, stn, setRow, rowNeed, segAt, nsub, bin, un, eqB, isShift, sameK, arith, shiftR, getsl, selB_or, selB_and, beqb, shed, addN, Nat.beq, Seg.size, sizes, imp, needP, andN, appL, argsOf, ptrsOf, aasOf, cut, takeS, dropS, putS, partsOf, fillS, fieldOf, nthA, negIf, nilq, nilB, eqS, eqF, eqS1, andP, kin, slcS, strOk, plusA, bndHi, leN, optG, roH, roL, initT, exOk, exAll, wrAddr, Nat.reduceAdd, Nat.reduceSub, Nat.reduceMul, Int.reduceToNat, List.append_nil, List.nil_append, List.cons_append, eqT, idxT, cat, cpy, ite_int, ite_bool, ite_seg, ite_segs, ite_nil, ite_twice, Int.toNat_natCast, app, addBs, tob]))); with_reducible refine hK _ ?_; clear hK K)
    | (refine run_cond rfl (fun hc => ?_) (fun hc => ?_) <;> try (simp only [*, Bool.true_eq_false, Bool.false_eq_true, Bool.not_true, Bool.not_false, Bool.true_or, Bool.or_true, Bool.false_or, Bool.or_false, Bool.false_and, Bool.and_false, bne_self_eq_false, beq_self_eq_true] at hc; done))
    | refine run_ret ?_
    | refine run_nil ?_)
  · have hr : rightS b = false := by simpa using hc
    refine end_of ⟨[⟨2, [], .c .nils⟩, ⟨3, [], .c (.int .i64 4)⟩], ⟨1, [(0, opsB b.n b.f)]⟩⟩ (LeS.intro [0] idt1 ⟨trivial, trivial⟩ rfl (by simp only [slotsLe, slotAt, Nat.beq, leV, leV1, leC, and_self]) ⟨ops_le b.n b.f false, trivial⟩) ?_
    simp only [endF, resL, resA, St.get, slotAt, Nat.beq, sfx, eqP, noTup, resV]
    exact ⟨by simp only [retSeen, hr, Bool.false_eq_true, if_false], by simp only [heapSeen, hr, Bool.false_eq_true, if_false]⟩
  · have hr : rightS b = true := by simpa using hc
    have hN : b.n ≤ 140737488355328 := by have := right_n hr; omega
    have hU := right_U hr
    repeat' (first
    | refine run_seq ?_
    | refine run_skip ?_
    | (refine run_region fun K hK => ?_; (try (simp (maxSteps := 10000000) only [opL, blkL, opsB, C12r0, C12r1, C12r2, C12r3, C12r4, C12r5, rwp_nil, rwp_cons, rwpK_app, aop, gpath, St.get, slotAt, sfx, eqP, segsOf, St.put, addBlk, getB, setB, delB, ld1, ldn, st1, stn, setRow, rowNeed, segAt, nsub, bin, un, eqB, isShift, sameK, arith, shiftR, getsl, selB_or, selB_and, beqb, shed, addN, Nat.beq, Seg.size, sizes, imp, needP, andN, appL, argsOf, ptrsOf, aasOf, cut, takeS, dropS, putS, partsOf, fillS, fieldOf, nthA, negIf, nilq, nilB, eqS, eqF, eqS1, andP, kin, slcS, strOk, plusA, bndHi, leN, optG, roH, roL, initT, exOk, exAll, wrAddr, Nat.reduceAdd, Nat.reduceSub, Nat.reduceMul, Int.reduceToNat, List.append_nil, List.nil_append, List.cons_append, eqT, idxT, cat, cpy, ite_int, ite_bool, ite_seg, ite_segs, ite_nil, ite_twice, Int.toNat_natCast, app, addBs, tob])); (repeat (first | (refine And.intro ?_ ?_; · (first | trivial | assumption | omega)) | ((first | (refine call_t _ (con38_at b.f b.n b.n (fun _ => false) (Nat.le_refl _) hN hU 0 2 _ _ _ rfl rfl rfl (Nat.le_of_ble_eq_true rfl) (Nat.le_of_ble_eq_true rfl) (by simp [keysLt])) ?_; rintro v H' ⟨rfl, rfl⟩) | refine call_q _ (con38_at b.f b.n b.n (fun _ => false) (Nat.le_refl _) hN hU 0 2 _ _ _ rfl rfl rfl (Nat.le_of_ble_eq_true rfl) (Nat.le_of_ble_eq_true rfl) (by simp [keysLt])) ?_ | refine call_g _ (imp_of (con38_at b.f b.n b.n (fun _ => false) (Nat.le_refl _) hN hU 0 2 _ _ _ rfl rfl rfl (Nat.le_of_ble_eq_true rfl) (Nat.le_of_ble_eq_true rfl) (by simp [keysLt]))) ?_); simp (maxSteps := 10000000) only [opL, blkL, opsB, C12r0, C12r1, C12r2, C12r3, C12r4, C12r5, rwp_nil, rwp_cons, rwpK_app, aop, gpath, St.get, slotAt, sfx, eqP, segsOf, St.put, addBlk, getB, setB, delB, ld1, ldn, st1, stn, setRow, rowNeed, segAt, nsub, bin, un, eqB, isShift, sameK, arith, shiftR, getsl, selB_or, selB_and, beqb, shed, addN, Nat.beq, Seg.size, sizes, imp, needP, andN, appL, argsOf, ptrsOf, aasOf, cut, takeS, dropS, putS, partsOf, fillS, fieldOf, nthA, negIf, nilq, nilB, eqS, eqF, eqS1, andP, kin, slcS, strOk, plusA, bndHi, leN, optG, roH, roL, initT, exOk, exAll, wrAddr, Nat.reduceAdd, Nat.reduceSub, Nat.reduceMul, Int.reduceToNat, List.append_nil, List.nil_append, List.cons_append, eqT, idxT, cat, cpy, ite_int, ite_bool, ite_seg, ite_segs, ite_nil, ite_twice, Int.toNat_natCast, app, addBs, tob]))); with_reducible refine hK _ ?_; clear hK K)
    | (refine run_cond rfl (fun hc => ?_) (fun hc => ?_) <;> try (simp only [*, Bool.true_eq_false, Bool.false_eq_true, Bool.not_true, Bool.not_false, Bool.true_or, Bool.or_true, Bool.false_or, Bool.or_false, Bool.false_and, Bool.and_false, bne_self_eq_false, beq_self_eq_true] at hc; done))
    | refine run_ret ?_
    | refine run_nil ?_)
    refine end_of ⟨[⟨2, [], .c (.slice ⟨1, 0, 0, 0⟩ false b.n)⟩, ⟨3, [], .c (.int .i64 0)⟩], ⟨2, [(1, boolsB b.n (markN b.f b.n (fun _ => false) b.n) true), (0, opsB b.n b.f)]⟩⟩ (LeS.intro [0, 2] (fun i h => idt1' i h) (by simp only [diff, notIn, Nat.beq, and_self]) rfl (by simp only [slotsLe, slotAt, Nat.beq, leV, leV1, leC, leA, nthO, and_self]) ⟨boolsw_le b.n _ _ (fun _ _ => rfl), ops_le b.n b.f false, trivial⟩) ?_
    simp only [endF, resL, resA, St.get, slotAt, Nat.beq, sfx, eqP, noTup, resV]
    exact ⟨by simp only [retSeen, hr, if_true], by simp only [heapSeen, hr, if_true]⟩
def opsW (n : Nat) (f : Nat → OpS) : Blk := ⟨6, some n, fun i => opL (f i), 39, true⟩
theorem opsw_le {l : List Nat} (n : Nat) (f f' : Nat → OpS) (h : ∀ i, i < n → f i = f' i) : leB l ⟨6, some n, fun i => opL (f i), 39, true⟩ (opsW n f') := ⟨rfl, rfl, id, Nat.le_refl _, fun i hi => by have e := h i hi; simp only [opsW, opL, e, leSegs, leSeg, leC, and_self]⟩
theorem con39 (n : Nat) (f : Nat → OpS) (h1 : 1 ≤ n) (hn : n ≤ 512) : Con Try.prog 39 [.c (.slice ⟨0, 0, 0, 0⟩ false n)] ⟨1, [(0, opsB n f)]⟩ (fun v H' => v = .c (.slice ⟨1, 0, 0, 0⟩ false n) ∧ H' = ⟨2, [(1, opsW n f), (0, opsB n f)]⟩) := by
  (refine con_of_run mixed (fn := Try.f39) (by kernel_rfl) (by kernel_rfl) C39_ok (rs := [.tmp 2]) (by kernel_rfl) (Nat.le_of_ble_eq_true (by kernel_rfl)) ?_; unfold C39; simp only [initT, Nat.reduceAdd])
  repeat' (first
    | refine run_seq ?_
    | refine run_skip ?_
    | (refine run_region fun K hK => ?_; (try (simp (maxSteps := 10000000) only [opL, opsB, C39r0, C39r1, C39r2, rwp_nil, rwp_cons, rwpK_app, aop, gpath, St.get, slotAt, sfx, eqP, segsOf, St.put, addBlk, getB, setB, delB, ld1, ldn, st1, stn, setRow, rowNeed, segAt, nsub, bin, un, eqB, isShift, sameK, arith, shiftR, getsl, selB_or, selB_and, beqb, shed, addN, Nat.beq, Seg.size, sizes, imp, needP, andN, appL, argsOf, ptrsOf, aasOf, cut, takeS, dropS, putS, partsOf, fillS, fieldOf, nthA, negIf, nilq, nilB, eqS, eqF, eqS1, andP, kin, slcS, strOk, plusA, bndHi, leN, optG, roH, roL, initT, exOk, exAll, wrAddr, Nat.reduceAdd, Nat.reduceSub, Nat.reduceMul, Int.reduceToNat, List.append_nil, List.nil_append, List.cons_append, eqT, idxT, cat, cpy, ite_int, ite_bool, ite_seg, ite_segs, ite_nil, ite_twice, Int.toNat_natCast, app, addBs, tob])); (repeat (first | (refine And.intro ?_ ?_; · (first | trivial | assumption | omega)))); with_reducible refine hK _ ?_; clear hK K)
    | (refine run_cond rfl (fun hc => ?_) (fun hc => ?_) <;> try (simp only [*, Bool.true_eq_false, Bool.false_eq_true, Bool.not_true, Bool.not_false, Bool.true_or, Bool.or_true, Bool.false_or, Bool.or_false, Bool.false_and, Bool.and_false, bne_self_eq_false, beq_self_eq_true] at hc; done))
    | refine run_ret ?_
    | refine run_nil ?_)
  repeat' (first
    | refine run_seq ?_
    | refine run_skip ?_
    | (refine run_region fun K hK => ?_; (try (simp (maxSteps := 10000000) only [opL, opsB, repl, fillS, partsOf, rowsFit, C39r0, C39r1, C39r2, C39r3, rwp_nil, rwp_cons, rwpK_app, aop, gpath, St.get, slotAt, sfx, eqP, segsOf, St.put, addBlk, getB, setB, delB, ld1, ldn, st1, stn, setRow, rowNeed, segAt, nsub, bin, un, eqB, isShift, sameK, arith, shiftR, getsl, selB_or, selB_and, beqb, shed, addN, Nat.beq, Seg.size, sizes, imp, needP, andN, appL, argsOf, ptrsOf, aasOf, cut, takeS, dropS, putS, partsOf, fillS, fieldOf, nthA, negIf, nilq, nilB, eqS, eqF, eqS1, andP, kin, slcS, strOk, plusA, bndHi, leN, optG, roH, roL, initT, exOk, exAll, wrAddr, Nat.reduceAdd, Nat.reduceSub, Nat.reduceMul, Int.reduceToNat, List.append_nil, List.nil_append, List.cons_append, eqT, idxT, cat, cpy, ite_int, ite_bool, ite_seg, ite_segs, ite_nil, ite_twice, Int.toNat_natCast, app, addBs, tob])); (repeat (first | (refine And.intro ?_ ?_; · (exact ⟨trivial, by omega, by omega⟩)))); with_reducible refine hK _ ?_; clear hK K)
    | (refine run_cond rfl (fun hc => ?_) (fun hc => ?_) <;> try (simp only [*, Bool.true_eq_false, Bool.false_eq_true, Bool.not_true, Bool.not_false, Bool.true_or, Bool.or_true, Bool.false_or, Bool.or_false, Bool.false_and, Bool.and_false, bne_self_eq_false, beq_self_eq_true] at hc; done))
    | refine run_ret ?_
    | refine run_nil ?_)
  refine end_of ⟨[⟨2, [], .c (.slice ⟨1, 0, 0, 0⟩ false n)⟩], ⟨2, [(1, opsW n f), (0, opsB n f)]⟩⟩ (LeS.intro [0, 2] (fun i h => idt1' i h) (by simp only [diff, notIn, Nat.beq, and_self]) rfl (by simp only [slotsLe, slotAt, Nat.beq, leV, leV1, leC, leA, nthO, Nat.zero_add, and_self]) ⟨⟨rfl, by simp only [opsW, Nat.zero_add], id, by simp only [opsW, Blk.n, Option.getD, Nat.zero_add, Nat.le_refl], fun i hi => by simp only [rowsApp, opsW, opL, Nat.not_lt_zero, if_false, addN_eq, Nat.zero_add, Nat.sub_zero, leSegs, leSeg, leC, and_self]⟩, ops_le n f false, trivial⟩) ⟨rfl, rfl⟩
theorem con39_at (n : Nat) (f : Nat → OpS) (h1 : 1 ≤ n) (hn : n ≤ 512) (i m : Nat) (X : List (Nat × Blk)) (w : Bool) (h0 : getB X i = some ⟨6, some n, fun i => opL (f i), 39, w⟩) (hlt : i < m) (hkl : keysLt X m) : Con Try.prog 39 [.c (.slice ⟨i, 0, 0, 0⟩ false n)] ⟨m, X⟩ (fun v H' => v = .c (.slice ⟨m, 0, 0, 0⟩ false n) ∧ H' = addBs ⟨m, X⟩ [opsW n f]) := by
  refine ((con39 n f h1 hn).frame (H := ⟨m, X⟩) [i] rfl ⟨trivial, trivial⟩ ⟨hlt, trivial⟩ hkl (by simp only [leBlks, nthO, h0]; exact ⟨ops_le n f w, trivial⟩) (by simp only [leArgs, leV, leV1, leC, leA, nthO, and_self])).weaken ?_
  rintro v H' ⟨v0, H0', ⟨rfl, rfl⟩, rfl, rfl⟩
  refine ⟨rfl, ?_⟩
  simp only [framed, dropB_none (l := [i]) (H0 := [(0, opsB n f)]) (fun _ => rfl)]
  rfl
end Go.Proofs.Ytmbnakinhnkabaa
