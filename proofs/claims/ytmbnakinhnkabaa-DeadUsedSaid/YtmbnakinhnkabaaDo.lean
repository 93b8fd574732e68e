/- dead.Block: its walk. -/
import Derived.Test.YtmbnakinhnkabaaDn
namespace Go.Proofs.Ytmbnakinhnkabaa
open Go.AM
set_option maxRecDepth 100000
set_option linter.unusedSimpArgs false
set_option linter.unusedVariables false
def zblk : Blk := ⟨4, none, fun _ => [.c (.int .u64 0), .c (.int .i64 0), .c (.int .i64 0), .c (.nils)], 25, true⟩
def hO (b0 b : BlkS) (M : Nat) (g : Nat → Bool) : List (Nat × Blk) := [(4, boolsB M g true), (3, opsW b.n b.f), (2, zblk), (1, blkB b 3), (0, opsB b0.n b0.f)]
def stO (b0 b : BlkS) (M : Nat) (g : Nat → Bool) : St := ⟨[⟨4, [], .c (.slice ⟨4, 0, 0, 0⟩ false M)⟩, ⟨2, [], .c (.ptr ⟨2, 0, 0, 0⟩)⟩, ⟨1, [], .c (.ptr ⟨1, 0, 0, 0⟩)⟩], ⟨5, hO b0 b M g⟩⟩
theorem blk_le' {l : List Nat} (b : BlkS) (i j : Nat) (h : nthO l j = some i) : leB l ⟨4, none, fun _ => blkL b i, 25, true⟩ (blkB b j) := ⟨rfl, rfl, id, Nat.le_refl _, fun _ _ => by simp only [blkB, blkL, leSegs, leSeg, leC, leA, h, and_self]⟩
theorem z_le {l : List Nat} : leB l ⟨4, none, fun _ => [.c (.int .u64 0), .c (.int .i64 0), .c (.int .i64 0), .c (.nils)], 25, true⟩ zblk := ⟨rfl, rfl, id, Nat.le_refl _, fun _ _ => by simp only [zblk, leSegs, leSeg, leC, and_self]⟩
theorem idts {l : List Nat} : ∀ i, i < 1 → nthO (0 :: l) i = some i := by
  intro i h; match i, h with
  | 0, _ => rfl
/-- What Block comes to. -/
def retBlk (b0 : BlkS) (i : Nat) : AV := if rightS b0 = true then .tup [.agg (blkL (blockS b0) i), .c (.int .i64 0)] else .tup [.agg [.c (.int .u64 0), .c (.int .i64 0), .c (.int .i64 0), .c (.nils)], .c (.int .i64 4)]
def heapBlk0 (b0 : BlkS) : Heap := if rightS b0 = true then ⟨3, [(2, blkB (blockS b0) 1), (1, opsW (blockS b0).n (blockS b0).f), (0, opsB b0.n b0.f)]⟩ else ⟨2, [(1, zblk), (0, opsB b0.n b0.f)]⟩
def heapBlk (b0 : BlkS) : Heap := if rightS b0 = true then ⟨2, [(1, opsW (blockS b0).n (blockS b0).f), (0, opsB b0.n b0.f)]⟩ else ⟨1, [(0, opsB b0.n b0.f)]⟩
def blkBody : ACode := .block 1
     (.seq (.region C13r5)
     (.seq (.region C13r6)
     (.seq (.seq (.region C13r7)
     (.cond (.t 34)
      (.seq (.region C13r8)
      (.ret))
      (.skip)))
     (.seq (.region C13r9)
     (.seq (.region C13r10)
     (.seq (.seq (.region C13r11)
     (.block 2
      (.loop
       (.seq (.region C13r12)
       (.seq (.cond (.t 44)
        (.skip)
        (.exit 2))
       (.seq (.block 3
        (.seq (.region C13r13)
        (.seq (.region C13r14)
        (.seq (.seq (.region C13r15)
        (.cond (.t 57)
         (.exit 3)
         (.skip)))
        (.seq (.seq (.region C13r16)
        (.seq (.region C13r17)
        (.cond (.t 62)
         (.seq (.region C13r18)
         (.seq (.region C13r19)
         (.cond (.t 70)
          (.region C13r20)
          (.skip))))
         (.skip))))
        (.region C13r21))))))
       (.region C13r22)))))))
     (.region C13r23)))))))
theorem idxF_same {g g' : Nat → Bool} {v : Bool} : ∀ {c j : Nat}, (∀ i, j ≤ i → i < j + c → g i = g' i) → idxF g v c j = idxF g' v c j
  | 0, _, _ => rfl
  | c + 1, j, h => by
    simp only [idxF]
    rw [h j (by omega) (by omega), idxF_same (c := c) (j := j + 1) fun i h1 h2 => h i (by omega) (by omega)]
/-- The places of what is kept, as far as they have been told. -/
def atF (g : Nat → Bool) (k : Nat) (i : Nat) : Int := if i < k then (cnt g i : Int) else 0
def atB (n : Nat) (h : Nat → Int) : Blk := ⟨1, some n, fun i => [.c (.int .i64 (h i))], 3, true⟩
theorem at_le {l : List Nat} (n : Nat) (h h' : Nat → Int) (hh : ∀ i, i < n → h i = h' i) : leB l ⟨1, some n, fun i => [.c (.int .i64 (h i))], 3, true⟩ (atB n h') := ⟨rfl, rfl, id, Nat.le_refl _, fun i hi => ⟨⟨rfl, hh i hi⟩, trivial⟩⟩
def inS (b0 b : BlkS) (M : Nat) (gs : Nat → Bool) (i k : Nat) : St := ⟨[⟨43, [], .c (.int .i64 i)⟩, ⟨42, [], .c (.int .i64 b.n)⟩, ⟨41, [], .c (.slice ⟨3, 0, 0, 0⟩ false b.n)⟩, ⟨7, [], .c (.slice ⟨6, 0, 0, 0⟩ false (cnt (seenS b) k))⟩, ⟨6, [], .c (.slice ⟨5, 0, 0, 0⟩ false b.n)⟩, ⟨5, [], .c (.slice ⟨4, 0, 0, 0⟩ false b.n)⟩, ⟨4, [], .c (.slice ⟨4, 0, 0, 0⟩ false M)⟩, ⟨2, [], .c (.ptr ⟨2, 0, 0, 0⟩)⟩, ⟨1, [], .c (.ptr ⟨1, 0, 0, 0⟩)⟩],
  ⟨7, (6, opsW (cnt (seenS b) k) (newF b.f (seenS b) k)) :: (5, atB b.n (atF (seenS b) k)) :: hO b0 b M gs⟩⟩
def in0 (b0 b : BlkS) (M : Nat) (gs : Nat → Bool) : St := ⟨[⟨43, [], .c (.int .i64 0)⟩, ⟨42, [], .c (.int .i64 b.n)⟩, ⟨41, [], .c (.slice ⟨3, 0, 0, 0⟩ false b.n)⟩, ⟨7, [], .c (.nils)⟩, ⟨6, [], .c (.slice ⟨5, 0, 0, 0⟩ false b.n)⟩, ⟨5, [], .c (.slice ⟨4, 0, 0, 0⟩ false b.n)⟩, ⟨4, [], .c (.slice ⟨4, 0, 0, 0⟩ false M)⟩, ⟨2, [], .c (.ptr ⟨2, 0, 0, 0⟩)⟩, ⟨1, [], .c (.ptr ⟨1, 0, 0, 0⟩)⟩],
  ⟨6, (5, atB b.n (fun _ => 0)) :: hO b0 b M gs⟩⟩
theorem right_k0 {b : BlkS} (hr : rightS b = true) : (b.f 0).kind = 14 := by
  unfold rightS head2 at hr
  simp only [Bool.and_eq_true, Bool.not_eq_true', Bool.or_eq_false_iff, bne_eq_false_iff_eq] at hr
  exact hr.1.2.1
/-- A round of the inner loop. -/
def inBody : ACode := .seq (.region C13r12)
       (.seq (.cond (.t 44)
        (.skip)
        (.exit 2))
       (.seq (.block 3
        (.seq (.region C13r13)
        (.seq (.region C13r14)
        (.seq (.seq (.region C13r15)
        (.cond (.t 57)
         (.exit 3)
         (.skip)))
        (.seq (.seq (.region C13r16)
        (.seq (.region C13r17)
        (.cond (.t 62)
         (.seq (.region C13r18)
         (.seq (.region C13r19)
         (.cond (.t 70)
          (.region C13r20)
          (.skip))))
         (.skip))))
        (.region C13r21))))))
       (.region C13r22)))
theorem at_use {g : Nat → Bool} {k c x : Nat} (h : cnt g k = c) (hx : x < k) : (if x = k then (c : Int) else atF g k x) = (cnt g x : Int) := by
  rw [if_neg (by omega)]
  unfold atF
  rw [if_pos hx]
theorem at_next {g : Nat → Bool} {k c : Nat} (h : cnt g k = c) (i : Nat) : (if i = k then (c : Int) else atF g k i) = atF g (k + 1) i := by
  unfold atF
  by_cases e : i = k
  · subst e; rw [if_pos rfl, if_pos (by omega), h]
  · rw [if_neg e]
    by_cases e2 : i < k
    · rw [if_pos e2, if_pos (by omega)]
    · rw [if_neg e2, if_neg (by omega)]
set_option maxHeartbeats 8000000 in
theorem in_round0 (b0 b : BlkS) (M : Nat) (gs : Nat → Bool) (hr : rightS b = true) (hM : b.n ≤ M) (hgs : ∀ i, i < b.n → gs i = seenS b i) {Q : AEx → St → Prop} (h : ∀ s, LeS 1 s (inS b0 b M gs 1 1) → Q .normal s) : runA (Con Try.prog) (LeS 1) [inBody] (in0 b0 b M gs) Q := by
  have hn := right_n hr
  have hs0 : seenS b 0 = true := seen_first hr
  have hg0 : gs 0 = true := by rw [hgs 0 (by omega)]; exact hs0
  have hu0 : usesS (b.f 0).kind = 0 := by rw [right_k0 hr]; decide
  unfold inBody in0 hO
  repeat' (first
    | refine run_seq ?_
    | refine run_skip ?_
    | (refine run_region fun K hK => ?_; (try (simp (maxSteps := 10000000) only [opL, opsW, boolsB, atB, Int.toNat_zero, C13r0, C13r1, C13r2, C13r3, C13r4, C13r5, C13r6, C13r7, C13r8, C13r9, C13r10, C13r11, C13r12, C13r13, C13r14, C13r15, C13r17, C13r18, C13r19, C13r20, C13r22, C13r23, rwp_nil, rwp_cons, rwpK_app, aop, gpath, St.get, slotAt, sfx, eqP, segsOf, St.put, addBlk, getB, setB, delB, ld1, ldn, st1, stn, setRow, rowNeed, segAt, nsub, bin, un, eqB, isShift, sameK, arith, shiftR, getsl, selB_or, selB_and, beqb, shed, addN, Nat.beq, Seg.size, sizes, imp, needP, andN, appL, argsOf, ptrsOf, aasOf, cut, takeS, dropS, putS, partsOf, fillS, fieldOf, nthA, negIf, nilq, nilB, eqS, eqF, eqS1, andP, kin, slcS, strOk, plusA, bndHi, leN, optG, roH, roL, initT, exOk, exAll, wrAddr, Nat.reduceAdd, Nat.reduceSub, Nat.reduceMul, Int.reduceToNat, List.append_nil, List.nil_append, List.cons_append, eqT, idxT, cat, cpy, ite_int, ite_bool, ite_seg, ite_segs, ite_nil, ite_twice, Int.toNat_natCast, app, addBs, tob])); (repeat (first | (refine And.intro ?_ ?_; · (first | trivial | assumption | omega)))); with_reducible refine hK _ ?_; clear hK K)
    | (refine run_cond rfl (fun hc => ?_) (fun hc => ?_) <;> try (simp only [*, Bool.true_eq_false, Bool.false_eq_true, Bool.not_true, Bool.not_false, Bool.true_or, Bool.or_true, Bool.false_or, Bool.or_false, Bool.false_and, Bool.and_false, bne_self_eq_false, beq_self_eq_true] at hc; done))
    | refine run_block ?_
    | refine run_ret ?_
    | refine run_nil ?_
    | refine run_exit ?_
    | refine blk_normal ?_
    | refine blk_ret ?_
    | refine blk_here ?_
    | refine blk_there rfl ?_
    | refine loop_exit ?_
    | refine loop_ret ?_
    | refine un_exit ?_
    | refine un_ret ?_
    | refine unE_exit ?_
    | refine unE_ret ?_
    | refine un_normal ?_)
  · repeat' (first
    | refine run_seq ?_
    | refine run_skip ?_
    | (refine run_region fun K hK => ?_; (try (simp (maxSteps := 10000000) only [opL, repl, rowsFit, partsOf, fillS, rowFn, Nat.zero_add, Int.natCast_zero, Int.zero_add, C13r0, C13r1, C13r2, C13r3, C13r4, C13r5, C13r6, C13r7, C13r8, C13r9, C13r10, C13r11, C13r12, C13r13, C13r14, C13r15, C13r16, C13r17, C13r19, C13r21, C13r22, C13r23, rwp_nil, rwp_cons, rwpK_app, aop, gpath, St.get, slotAt, sfx, eqP, segsOf, St.put, addBlk, getB, setB, delB, ld1, ldn, st1, stn, setRow, rowNeed, segAt, nsub, bin, un, eqB, isShift, sameK, arith, shiftR, getsl, selB_or, selB_and, beqb, shed, addN, Nat.beq, Seg.size, sizes, imp, needP, andN, appL, argsOf, ptrsOf, aasOf, cut, takeS, dropS, putS, partsOf, fillS, fieldOf, nthA, negIf, nilq, nilB, eqS, eqF, eqS1, andP, kin, slcS, strOk, plusA, bndHi, leN, optG, roH, roL, initT, exOk, exAll, wrAddr, Nat.reduceAdd, Nat.reduceSub, Nat.reduceMul, Int.reduceToNat, List.append_nil, List.nil_append, List.cons_append, eqT, idxT, cat, cpy, ite_int, ite_bool, ite_seg, ite_segs, ite_nil, ite_twice, Int.toNat_natCast, app, addBs, tob])); (repeat (first | (refine And.intro ?_ ?_; · (first | trivial | assumption | omega | exact ⟨by omega, by omega⟩)) | ((first | (refine call_t _ (con21 (b.f 0) _ _ (by simp [keysLt])) ?_; rintro v H' ⟨rfl, rfl⟩) | refine call_q _ (con21 (b.f 0) _ _ (by simp [keysLt])) ?_ | refine call_g _ (imp_of (con21 (b.f 0) _ _ (by simp [keysLt]))) ?_); simp (maxSteps := 10000000) only [opL, repl, rowsFit, partsOf, fillS, rowFn, Nat.zero_add, Int.natCast_zero, Int.zero_add, C13r0, C13r1, C13r2, C13r3, C13r4, C13r5, C13r6, C13r7, C13r8, C13r9, C13r10, C13r11, C13r12, C13r13, C13r14, C13r15, C13r16, C13r17, C13r19, C13r21, C13r22, C13r23, rwp_nil, rwp_cons, rwpK_app, aop, gpath, St.get, slotAt, sfx, eqP, segsOf, St.put, addBlk, getB, setB, delB, ld1, ldn, st1, stn, setRow, rowNeed, segAt, nsub, bin, un, eqB, isShift, sameK, arith, shiftR, getsl, selB_or, selB_and, beqb, shed, addN, Nat.beq, Seg.size, sizes, imp, needP, andN, appL, argsOf, ptrsOf, aasOf, cut, takeS, dropS, putS, partsOf, fillS, fieldOf, nthA, negIf, nilq, nilB, eqS, eqF, eqS1, andP, kin, slcS, strOk, plusA, bndHi, leN, optG, roH, roL, initT, exOk, exAll, wrAddr, Nat.reduceAdd, Nat.reduceSub, Nat.reduceMul, Int.reduceToNat, List.append_nil, List.nil_append, List.cons_append, eqT, idxT, cat, cpy, ite_int, ite_bool, ite_seg, ite_segs, ite_nil, ite_twice, Int.toNat_natCast, app, addBs, tob]))); with_reducible refine hK _ ?_; clear hK K)
    | (refine run_cond rfl (fun hc => ?_) (fun hc => ?_) <;> try (simp only [*, Bool.true_eq_false, Bool.false_eq_true, Bool.not_true, Bool.not_false, Bool.true_or, Bool.or_true, Bool.false_or, Bool.or_false, Bool.false_and, Bool.and_false, bne_self_eq_false, beq_self_eq_true] at hc; done))
    | refine run_block ?_
    | refine run_ret ?_
    | refine run_nil ?_
    | refine run_exit ?_
    | refine blk_normal ?_
    | refine blk_ret ?_
    | refine blk_here ?_
    | refine blk_there rfl ?_
    | refine loop_exit ?_
    | refine loop_ret ?_
    | refine un_exit ?_
    | refine un_ret ?_
    | refine unE_exit ?_
    | refine unE_ret ?_
    | refine un_normal ?_)
    · simp [hu0] at hc
    · have hw : IntKind.i64.wrap 1 = 1 := by decide
      have hc1 : cnt (seenS b) 1 = 1 := by simp only [cnt, hs0, if_true, Nat.zero_add]
      refine h _ ?_
      rw [hw]
      refine LeS.intro [0, 1, 2, 3, 4, 5, 9] idts (by simp only [diff, notIn, Nat.beq, and_self]) rfl (by simp only [inS, hc1, slotsLe, slotAt, Nat.beq, leV, leV1, leC, leA, nthO, and_self]; exact ⟨⟨trivial, rfl⟩, trivial⟩) ?_
      refine ⟨⟨rfl, rfl, id, Nat.le_of_eq hc1, fun i hi => ?_⟩, at_le b.n _ _ (fun i hi => ?_), boolsw_le M gs gs (fun _ _ => rfl), opsw_le b.n b.f b.f (fun _ _ => rfl), z_le, blk_le' b 3 3 rfl, ops_le b0.n b0.f false, trivial⟩
      · simp only [opsW, newF, hs0, if_true, cnt, Nat.not_lt_zero, if_false, renS, hu0, Nat.lt_irrefl, opL, leSegs, leSeg, leC, and_self]
      · unfold atF
        by_cases hi : i < 1
        · have : i = 0 := by omega
          subst this
          rfl
        · rw [if_neg hi, if_neg (by omega)]
  · simp at hc
    omega
def exS (b0 b : BlkS) (M : Nat) (gs : Nat → Bool) (k : Nat) : St := ⟨⟨44, [], .c (.bool (decide ((k : Int) < (b.n : Int))))⟩ :: (inS b0 b M gs k k).tmps, (inS b0 b M gs k k).heap⟩
set_option maxHeartbeats 8000000 in
theorem in_round (b0 b : BlkS) (M k : Nat) (gs : Nat → Bool) (hr : rightS b = true) (hM : b.n ≤ M) (hgs : ∀ i, i < b.n → gs i = seenS b i) (hk1 : 1 ≤ k) (hk : k ≤ b.n) {Q : AEx → St → Prop} (h : k < b.n → ∀ s, LeS 1 s (inS b0 b M gs (k + 1) (k + 1)) → Q .normal s) (hx : k = b.n → Q (.exit 2) (exS b0 b M gs k)) : runA (Con Try.prog) (LeS 1) [inBody] (inS b0 b M gs k k) Q := by
  have hn := right_n hr
  have hw : IntKind.i64.wrap ((k : Int) + 1) = ((k + 1 : Nat) : Int) := by rw [IntKind.wrap_i64]; omega
  obtain ⟨c, hc'⟩ : ∃ c, cnt (seenS b) k = c := ⟨_, rfl⟩
  have hck : c ≤ 512 := by have := cnt_le (seenS b) k; omega
  have hx' : k = b.n → Q (.exit 2) ⟨⟨44, [], .c (.bool (decide ((k : Int) < (b.n : Int))))⟩ :: (inS b0 b M gs k k).tmps, (inS b0 b M gs k k).heap⟩ := hx
  unfold inBody
  refine run_seq ?_
  unfold inS hO
  (refine run_regionL fun K hK => ?_; (try (simp (maxSteps := 10000000) only [opL, C13r0, C13r1, C13r2, C13r3, C13r4, C13r5, C13r6, C13r7, C13r8, C13r9, C13r10, C13r11, C13r12, C13r13, C13r14, C13r15, C13r16, C13r17, C13r18, C13r19, C13r20, C13r21, C13r22, C13r23, rwp_nil, rwp_cons, rwpK_app, aop, gpath, St.get, slotAt, sfx, eqP, segsOf, St.put, addBlk, getB, setB, delB, ld1, ldn, st1, stn, setRow, rowNeed, segAt, nsub, bin, un, eqB, isShift, sameK, arith, shiftR, getsl, selB_or, selB_and, beqb, shed, addN, Nat.beq, Seg.size, sizes, imp, needP, andN, appL, argsOf, ptrsOf, aasOf, cut, takeS, dropS, putS, partsOf, fillS, fieldOf, nthA, negIf, nilq, nilB, eqS, eqF, eqS1, andP, kin, slcS, strOk, plusA, bndHi, leN, optG, roH, roL, initT, exOk, exAll, wrAddr, Nat.reduceAdd, Nat.reduceSub, Nat.reduceMul, Int.reduceToNat, List.append_nil, List.nil_append, List.cons_append, eqT, idxT, cat, cpy, ite_int, ite_bool, ite_seg, ite_segs, ite_nil, ite_twice, Int.toNat_natCast, app, addBs, tob])); (repeat (first | (refine And.intro ?_ ?_; · first | trivial | assumption | omega))); refine hK _ (⟨⟨44, [], .c (.bool (decide ((k : Int) < (b.n : Int))))⟩ :: (inS b0 b M gs k k).tmps, (inS b0 b M gs k k).heap⟩) (LeS.intro [0, 1, 2, 3, 4, 5, 6] idts (by simp only [diff, notIn, Nat.beq, and_self]) rfl (by simp only [inS, slotsLe, slotAt, Nat.beq, leV, leV1, leC, leA, nthO, and_self]) ⟨opsw_le _ _ _ (fun _ _ => rfl), at_le b.n _ _ (fun _ _ => rfl), boolsw_le M gs gs (fun _ _ => rfl), opsw_le b.n b.f b.f (fun _ _ => rfl), z_le, blk_le' b 3 3 rfl, ops_le b0.n b0.f false, trivial⟩) ?_; clear hK K)
  refine run_seq (run_cond rfl (fun hlt0 => ?_) (fun hlt0 => ?_))
  rotate_left
  · exact run_exit (hx' (by simp only [decide_eq_false_iff_not] at hlt0; omega))
  clear hx hx'
  unfold inS hO
  rw [hc']
  repeat' (first
    | refine run_seq ?_
    | refine run_skip ?_
    | (refine run_region fun K hK => ?_; (try (simp (maxSteps := 10000000) only [opL, opsW, boolsB, atB, hw, C13r0, C13r1, C13r2, C13r3, C13r4, C13r5, C13r6, C13r7, C13r8, C13r9, C13r10, C13r11, C13r12, C13r13, C13r14, C13r15, C13r17, C13r18, C13r19, C13r20, C13r22, C13r23, rwp_nil, rwp_cons, rwpK_app, aop, gpath, St.get, slotAt, sfx, eqP, segsOf, St.put, addBlk, getB, setB, delB, ld1, ldn, st1, stn, setRow, rowNeed, segAt, nsub, bin, un, eqB, isShift, sameK, arith, shiftR, getsl, selB_or, selB_and, beqb, shed, addN, Nat.beq, Seg.size, sizes, imp, needP, andN, appL, argsOf, ptrsOf, aasOf, cut, takeS, dropS, putS, partsOf, fillS, fieldOf, nthA, negIf, nilq, nilB, eqS, eqF, eqS1, andP, kin, slcS, strOk, plusA, bndHi, leN, optG, roH, roL, initT, exOk, exAll, wrAddr, Nat.reduceAdd, Nat.reduceSub, Nat.reduceMul, Int.reduceToNat, List.append_nil, List.nil_append, List.cons_append, eqT, idxT, cat, cpy, ite_int, ite_bool, ite_seg, ite_segs, ite_nil, ite_twice, Int.toNat_natCast, app, addBs, tob])); (repeat (first | (refine And.intro ?_ ?_; · (first | trivial | assumption | (simp only [decide_eq_true_eq] at *; omega))))); with_reducible refine hK _ ?_; clear hK K)
    | (refine run_cond rfl (fun hc => ?_) (fun hc => ?_) <;> try (simp only [*, Bool.true_eq_false, Bool.false_eq_true, Bool.not_true, Bool.not_false, Bool.true_or, Bool.or_true, Bool.false_or, Bool.or_false, Bool.false_and, Bool.and_false, bne_self_eq_false, beq_self_eq_true] at hc; done))
    | refine run_block ?_
    | refine run_ret ?_
    | refine run_nil ?_
    | refine run_exit ?_
    | refine blk_normal ?_
    | refine blk_ret ?_
    | refine blk_here ?_
    | refine blk_there rfl ?_
    | refine loop_exit ?_
    | refine loop_ret ?_
    | refine un_exit ?_
    | refine un_ret ?_
    | refine unE_exit ?_
    | refine unE_ret ?_
    | refine un_normal ?_)
  · -- gone
    have hlt : k < b.n := by simp only [decide_eq_true_eq] at *; omega
    have hg : seenS b k = false := by rw [← hgs k hlt]; simpa using hc
    have hc1 : cnt (seenS b) (k + 1) = c := by simp only [cnt, hg, Bool.false_eq_true, if_false, Nat.add_zero, hc']
    refine h hlt _ (LeS.intro [0, 1, 2, 3, 4, 5, 6] idts (by simp only [diff, notIn, Nat.beq, and_self]) rfl (by simp only [inS, hc1, slotsLe, slotAt, Nat.beq, leV, leV1, leC, leA, nthO, and_self]) ?_)
    refine ⟨⟨rfl, rfl, id, Nat.le_of_eq hc1, fun i hi => ?_⟩, at_le b.n _ _ (fun i hi => ?_), boolsw_le M gs gs (fun _ _ => rfl), opsw_le b.n b.f b.f (fun _ _ => rfl), z_le, blk_le' b 3 3 rfl, ops_le b0.n b0.f false, trivial⟩
    · simp only [opsW, newF, hg, Bool.false_eq_true, if_false, opL, leSegs, leSeg, leC, and_self]
    · exact at_next hc' i
  · have hlt : k < b.n := by simp only [decide_eq_true_eq] at *; omega
    have hg : seenS b k = true := by rw [← hgs k hlt]; simpa using hc
    have hc1 : cnt (seenS b) (k + 1) = c + 1 := by simp only [cnt, hg, if_true, hc']
    have hU : ∀ i, i < usesS (b.f k).kind → 0 ≤ useF (b.f k) i ∧ useF (b.f k) i < k := fun i hi => ⟨(right_use hr hlt hi).1, (right_use hr hlt hi).2.1⟩
    have hU0 : 0 < usesS (b.f k).kind → 0 ≤ (b.f k).a ∧ (b.f k).a < k := fun h => hU 0 h
    have hU1 : 1 < usesS (b.f k).kind → 0 ≤ (b.f k).b ∧ (b.f k).b < k := fun h => hU 1 h
    clear hc hU
    repeat' (first
    | refine run_seq ?_
    | refine run_skip ?_
    | (refine run_region fun K hK => ?_; (try (simp (maxSteps := 10000000) only [opL, repl, rowsFit, partsOf, fillS, rowFn, hw, C13r0, C13r1, C13r2, C13r3, C13r4, C13r5, C13r6, C13r7, C13r8, C13r9, C13r10, C13r11, C13r12, C13r13, C13r14, C13r15, C13r16, C13r17, C13r18, C13r19, C13r20, C13r21, C13r22, C13r23, rwp_nil, rwp_cons, rwpK_app, aop, gpath, St.get, slotAt, sfx, eqP, segsOf, St.put, addBlk, getB, setB, delB, ld1, ldn, st1, stn, setRow, rowNeed, segAt, nsub, bin, un, eqB, isShift, sameK, arith, shiftR, getsl, selB_or, selB_and, beqb, shed, addN, Nat.beq, Seg.size, sizes, imp, needP, andN, appL, argsOf, ptrsOf, aasOf, cut, takeS, dropS, putS, partsOf, fillS, fieldOf, nthA, negIf, nilq, nilB, eqS, eqF, eqS1, andP, kin, slcS, strOk, plusA, bndHi, leN, optG, roH, roL, initT, exOk, exAll, wrAddr, Nat.reduceAdd, Nat.reduceSub, Nat.reduceMul, Int.reduceToNat, List.append_nil, List.nil_append, List.cons_append, eqT, idxT, cat, cpy, ite_int, ite_bool, ite_seg, ite_segs, ite_nil, ite_twice, Int.toNat_natCast, app, addBs, tob])); (repeat (first | (refine And.intro ?_ ?_; · (first | trivial | assumption | (simp only [decide_eq_true_eq] at *; have h9 := hU0 (by omega); omega) | (simp only [decide_eq_true_eq] at *; have h9 := hU1 (by omega); omega) | exact ⟨by omega, by omega⟩ | exact ⟨trivial, by omega, by omega⟩)) | ((first | (refine call_t _ (con21 (b.f k) _ _ (by simp [keysLt])) ?_; rintro v H' ⟨rfl, rfl⟩) | refine call_q _ (con21 (b.f k) _ _ (by simp [keysLt])) ?_ | refine call_g _ (imp_of (con21 (b.f k) _ _ (by simp [keysLt]))) ?_); simp (maxSteps := 10000000) only [opL, repl, rowsFit, partsOf, fillS, rowFn, hw, C13r0, C13r1, C13r2, C13r3, C13r4, C13r5, C13r6, C13r7, C13r8, C13r9, C13r10, C13r11, C13r12, C13r13, C13r14, C13r15, C13r16, C13r17, C13r18, C13r19, C13r20, C13r21, C13r22, C13r23, rwp_nil, rwp_cons, rwpK_app, aop, gpath, St.get, slotAt, sfx, eqP, segsOf, St.put, addBlk, getB, setB, delB, ld1, ldn, st1, stn, setRow, rowNeed, segAt, nsub, bin, un, eqB, isShift, sameK, arith, shiftR, getsl, selB_or, selB_and, beqb, shed, addN, Nat.beq, Seg.size, sizes, imp, needP, andN, appL, argsOf, ptrsOf, aasOf, cut, takeS, dropS, putS, partsOf, fillS, fieldOf, nthA, negIf, nilq, nilB, eqS, eqF, eqS1, andP, kin, slcS, strOk, plusA, bndHi, leN, optG, roH, roL, initT, exOk, exAll, wrAddr, Nat.reduceAdd, Nat.reduceSub, Nat.reduceMul, Int.reduceToNat, List.append_nil, List.nil_append, List.cons_append, eqT, idxT, cat, cpy, ite_int, ite_bool, ite_seg, ite_segs, ite_nil, ite_twice, Int.toNat_natCast, app, addBs, tob]))); with_reducible refine hK _ ?_; clear hK K)
    | (refine run_cond rfl (fun hc => ?_) (fun hc => ?_) <;> try (simp only [*, Bool.true_eq_false, Bool.false_eq_true, Bool.not_true, Bool.not_false, Bool.true_or, Bool.or_true, Bool.false_or, Bool.or_false, Bool.false_and, Bool.and_false, bne_self_eq_false, beq_self_eq_true] at hc; done))
    | refine run_block ?_
    | refine run_ret ?_
    | refine run_nil ?_
    | refine run_exit ?_
    | refine blk_normal ?_
    | refine blk_ret ?_
    | refine blk_here ?_
    | refine blk_there rfl ?_
    | refine loop_exit ?_
    | refine loop_ret ?_
    | refine un_exit ?_
    | refine un_ret ?_
    | refine unE_exit ?_
    | refine unE_ret ?_
    | refine un_normal ?_)
    · simp only [decide_eq_true_eq] at *
      have a0 := hU0 (by omega)
      have a1 := hU1 (by omega)
      have e0 : 0 < usesS (b.f k).kind := by omega
      have e1 : 1 < usesS (b.f k).kind := by omega
      have f0 := at_use hc' (show (b.f k).a.toNat < k by omega)
      have f1 := at_use hc' (show (b.f k).b.toNat < k by omega)
      refine h hlt _ (LeS.intro [0, 1, 2, 3, 4, 5, 10] idts (by simp only [diff, notIn, Nat.beq, and_self]) rfl (by simp only [inS, hc1, slotsLe, slotAt, Nat.beq, leV, leV1, leC, leA, nthO, and_self]) ?_)
      refine ⟨⟨rfl, rfl, id, Nat.le_of_eq hc1, fun i hi => ?_⟩, at_le b.n _ _ (fun i hi => at_next hc' i), boolsw_le M gs gs (fun _ _ => rfl), opsw_le b.n b.f b.f (fun _ _ => rfl), z_le, blk_le' b 3 3 rfl, ops_le b0.n b0.f false, trivial⟩
      by_cases e : i < c <;> simp only [rowsApp, opsW, newF, hg, if_true, hc', e, if_false, renS, e0, e1, f0, f1, opL, leSegs, leSeg, leC, and_self]
    · simp only [decide_eq_true_eq, decide_eq_false_iff_not] at *
      have a0 := hU0 (by omega)
      have e0 : 0 < usesS (b.f k).kind := by omega
      have e1 : ¬ 1 < usesS (b.f k).kind := by omega
      have f0 := at_use hc' (show (b.f k).a.toNat < k by omega)
      refine h hlt _ (LeS.intro [0, 1, 2, 3, 4, 5, 10] idts (by simp only [diff, notIn, Nat.beq, and_self]) rfl (by simp only [inS, hc1, slotsLe, slotAt, Nat.beq, leV, leV1, leC, leA, nthO, and_self]) ?_)
      refine ⟨⟨rfl, rfl, id, Nat.le_of_eq hc1, fun i hi => ?_⟩, at_le b.n _ _ (fun i hi => at_next hc' i), boolsw_le M gs gs (fun _ _ => rfl), opsw_le b.n b.f b.f (fun _ _ => rfl), z_le, blk_le' b 3 3 rfl, ops_le b0.n b0.f false, trivial⟩
      by_cases e : i < c <;> simp only [rowsApp, opsW, newF, hg, if_true, hc', e, if_false, renS, e0, e1, f0, opL, leSegs, leSeg, leC, and_self]
    · simp only [decide_eq_true_eq, decide_eq_false_iff_not] at *
      have e0 : ¬ 0 < usesS (b.f k).kind := by omega
      have e1 : ¬ 1 < usesS (b.f k).kind := by omega
      refine h hlt _ (LeS.intro [0, 1, 2, 3, 4, 5, 10] idts (by simp only [diff, notIn, Nat.beq, and_self]) rfl (by simp only [inS, hc1, slotsLe, slotAt, Nat.beq, leV, leV1, leC, leA, nthO, and_self]) ?_)
      refine ⟨⟨rfl, rfl, id, Nat.le_of_eq hc1, fun i hi => ?_⟩, at_le b.n _ _ (fun i hi => at_next hc' i), boolsw_le M gs gs (fun _ _ => rfl), opsw_le b.n b.f b.f (fun _ _ => rfl), z_le, blk_le' b 3 3 rfl, ops_le b0.n b0.f false, trivial⟩
      by_cases e : i < c <;> simp only [rowsApp, opsW, newF, hg, if_true, hc', e, if_false, renS, e0, e1, opL, leSegs, leSeg, leC, and_self]
theorem in_loop (b0 b : BlkS) (M : Nat) (gs : Nat → Bool) (hr : rightS b = true) (hM : b.n ≤ M) (hgs : ∀ i, i < b.n → gs i = seenS b i) {k : List ACode} {Q : AEx → St → Prop} (hend : Q (.exit 2) (exS b0 b M gs b.n)) : runA (Con Try.prog) (LeS 1) (.loop inBody :: k) (in0 b0 b M gs) Q := by
  have hn := right_n hr
  refine run_loop (fun m s => (m = b.n + 1 ∧ s = in0 b0 b M gs) ∨ ∃ k, 1 ≤ k ∧ k ≤ b.n ∧ m = b.n - k ∧ s = inS b0 b M gs k k) (b.n + 1) (.inl ⟨rfl, rfl⟩) ?_
  rintro m s (⟨rfl, rfl⟩ | ⟨k, h1, h2, rfl, rfl⟩)
  · exact in_round0 b0 b M gs hr hM hgs fun s hs => loop_normal (b.n - 1) _ (by omega) hs (.inr ⟨1, Nat.le_refl _, hn.1, rfl, rfl⟩)
  · refine in_round b0 b M k gs hr hM hgs h1 h2 (fun hlt s hs => loop_normal (b.n - (k + 1)) _ (by omega) hs (.inr ⟨k + 1, by omega, hlt, rfl, rfl⟩)) fun e => loop_exit ?_
    subst e
    exact hend
def endB (b0 b : BlkS) : St := ⟨[⟨2, [], .c (.ptr ⟨2, 0, 0, 0⟩)⟩, ⟨3, [], .c (.int .i64 0)⟩], ⟨3, [(2, blkB b 1), (1, opsW b.n b.f), (0, opsB b0.n b0.f)]⟩⟩
theorem out_round (b0 b : BlkS) (M : Nat) (g : Nat → Bool) (hr : rightS b = true) (hM : b.n ≤ M) {Q : AEx → St → Prop} (hret : allS b = true → ∀ s, LeS 1 s (endB b0 b) → Q .ret s) (hnext : allS b = false → ∀ g' s, LeS 1 s (stO b0 (withS b) M g') → Q .normal s) : runA (Con Try.prog) (LeS 1) [blkBody] (stO b0 b M g) Q := by
  have hn := right_n hr
  have hU := right_U hr
  have hall : (!decide (idxF (markN b.f b.n g b.n) false b.n 0 ≥ 0)) = allS b := by
    unfold allS
    rw [idxF_same (g := markN b.f b.n g b.n) (g' := seenS b) fun i _ hi => seenS_of b g (by omega)]
  unfold blkBody stO hO
  repeat' (first
    | refine run_seq ?_
    | refine run_skip ?_
    | (refine run_region fun K hK => ?_; (try (simp (maxSteps := 10000000) only [opL, opsW, boolsB, blkB, blkL, zblk, Nat.sub_zero, C13r0, C13r1, C13r2, C13r3, C13r4, C13r5, C13r6, C13r7, C13r8, C13r9, C13r10, C13r12, C13r13, C13r14, C13r15, C13r16, C13r17, C13r18, C13r19, C13r20, C13r21, C13r22, rwp_nil, rwp_cons, rwpK_app, aop, gpath, St.get, slotAt, sfx, eqP, segsOf, St.put, addBlk, getB, setB, delB, ld1, ldn, st1, stn, setRow, rowNeed, segAt, nsub, bin, un, eqB, isShift, sameK, arith, shiftR, getsl, selB_or, selB_and, beqb, shed, addN, Nat.beq, Seg.size, sizes, imp, needP, andN, appL, argsOf, ptrsOf, aasOf, cut, takeS, dropS, putS, partsOf, fillS, fieldOf, nthA, negIf, nilq, nilB, eqS, eqF, eqS1, andP, kin, slcS, strOk, plusA, bndHi, leN, optG, roH, roL, initT, exOk, exAll, wrAddr, Nat.reduceAdd, Nat.reduceSub, Nat.reduceMul, Int.reduceToNat, List.append_nil, List.nil_append, List.cons_append, eqT, idxT, cat, cpy, ite_int, ite_bool, ite_seg, ite_segs, ite_nil, ite_twice, Int.toNat_natCast, app, addBs, tob])); (repeat (first | (refine And.intro ?_ ?_; · (first | trivial | assumption | omega)) | ((first | (refine call_t _ (con38_at b.f b.n M g hM (by omega) hU 3 4 _ _ _ rfl rfl rfl (Nat.le_of_ble_eq_true rfl) (Nat.le_of_ble_eq_true rfl) (by simp [keysLt])) ?_; rintro v H' ⟨rfl, rfl⟩) | refine call_q _ (con38_at b.f b.n M g hM (by omega) hU 3 4 _ _ _ rfl rfl rfl (Nat.le_of_ble_eq_true rfl) (Nat.le_of_ble_eq_true rfl) (by simp [keysLt])) ?_ | refine call_g _ (imp_of (con38_at b.f b.n M g hM (by omega) hU 3 4 _ _ _ rfl rfl rfl (Nat.le_of_ble_eq_true rfl) (Nat.le_of_ble_eq_true rfl) (by simp [keysLt]))) ?_ | (refine call_t _ (con40_at b.n M (markN b.f b.n g b.n) false hM (by omega) 4 _ _ _ rfl (Nat.le_of_ble_eq_true rfl) (by simp [roL, keysLt])) ?_; rintro v H' ⟨rfl, rfl⟩) | refine call_q _ (con40_at b.n M (markN b.f b.n g b.n) false hM (by omega) 4 _ _ _ rfl (Nat.le_of_ble_eq_true rfl) (by simp [roL, keysLt])) ?_ | refine call_g _ (imp_of (con40_at b.n M (markN b.f b.n g b.n) false hM (by omega) 4 _ _ _ rfl (Nat.le_of_ble_eq_true rfl) (by simp [roL, keysLt]))) ?_); simp (maxSteps := 10000000) only [opL, opsW, boolsB, blkB, blkL, zblk, Nat.sub_zero, C13r0, C13r1, C13r2, C13r3, C13r4, C13r5, C13r6, C13r7, C13r8, C13r9, C13r10, C13r12, C13r13, C13r14, C13r15, C13r16, C13r17, C13r18, C13r19, C13r20, C13r21, C13r22, rwp_nil, rwp_cons, rwpK_app, aop, gpath, St.get, slotAt, sfx, eqP, segsOf, St.put, addBlk, getB, setB, delB, ld1, ldn, st1, stn, setRow, rowNeed, segAt, nsub, bin, un, eqB, isShift, sameK, arith, shiftR, getsl, selB_or, selB_and, beqb, shed, addN, Nat.beq, Seg.size, sizes, imp, needP, andN, appL, argsOf, ptrsOf, aasOf, cut, takeS, dropS, putS, partsOf, fillS, fieldOf, nthA, negIf, nilq, nilB, eqS, eqF, eqS1, andP, kin, slcS, strOk, plusA, bndHi, leN, optG, roH, roL, initT, exOk, exAll, wrAddr, Nat.reduceAdd, Nat.reduceSub, Nat.reduceMul, Int.reduceToNat, List.append_nil, List.nil_append, List.cons_append, eqT, idxT, cat, cpy, ite_int, ite_bool, ite_seg, ite_segs, ite_nil, ite_twice, Int.toNat_natCast, app, addBs, tob]))); with_reducible refine hK _ ?_; clear hK K)
    | (refine run_cond rfl (fun hc => ?_) (fun hc => ?_) <;> try (simp only [*, Bool.true_eq_false, Bool.false_eq_true, Bool.not_true, Bool.not_false, Bool.true_or, Bool.or_true, Bool.false_or, Bool.or_false, Bool.false_and, Bool.and_false, bne_self_eq_false, beq_self_eq_true] at hc; done))
    | refine run_block ?_
    | refine run_ret ?_
    | refine run_nil ?_
    | refine run_exit ?_
    | refine blk_normal ?_
    | refine blk_ret ?_
    | refine blk_here ?_
    | refine blk_there rfl ?_
    | refine loop_exit ?_
    | refine loop_ret ?_
    | refine un_exit ?_
    | refine un_ret ?_
    | refine unE_exit ?_
    | refine unE_ret ?_
    | refine un_normal ?_)
  · rw [hall] at hc
    exact hret hc _ (LeS.intro [0, 3, 2] idts (by simp only [diff, notIn, Nat.beq, and_self]) rfl (by simp only [endB, slotsLe, slotAt, Nat.beq, leV, leV1, leC, leA, nthO, and_self]) ⟨blk_le' b 3 1 rfl, opsw_le b.n b.f b.f (fun _ _ => rfl), ops_le b0.n b0.f false, trivial⟩)
  · rw [hall] at hc
    (refine run_regionL fun K hK => ?_; (try (simp (maxSteps := 10000000) only [opL, opsW, boolsB, blkB, blkL, zblk, C13r0, C13r1, C13r2, C13r3, C13r4, C13r5, C13r6, C13r7, C13r8, C13r9, C13r10, C13r11, C13r12, C13r13, C13r14, C13r15, C13r16, C13r17, C13r18, C13r19, C13r20, C13r21, C13r22, C13r23, rwp_nil, rwp_cons, rwpK_app, aop, gpath, St.get, slotAt, sfx, eqP, segsOf, St.put, addBlk, getB, setB, delB, ld1, ldn, st1, stn, setRow, rowNeed, segAt, nsub, bin, un, eqB, isShift, sameK, arith, shiftR, getsl, selB_or, selB_and, beqb, shed, addN, Nat.beq, Seg.size, sizes, imp, needP, andN, appL, argsOf, ptrsOf, aasOf, cut, takeS, dropS, putS, partsOf, fillS, fieldOf, nthA, negIf, nilq, nilB, eqS, eqF, eqS1, andP, kin, slcS, strOk, plusA, bndHi, leN, optG, roH, roL, initT, exOk, exAll, wrAddr, Nat.reduceAdd, Nat.reduceSub, Nat.reduceMul, Int.reduceToNat, List.append_nil, List.nil_append, List.cons_append, eqT, idxT, cat, cpy, ite_int, ite_bool, ite_seg, ite_segs, ite_nil, ite_twice, Int.toNat_natCast, app, addBs, tob])); (repeat (first | (refine And.intro ?_ ?_; · first | trivial | assumption | omega))); refine hK _ (in0 b0 b M (markN b.f b.n g b.n)) (LeS.intro [0, 1, 2, 3, 4, 5] idts (by simp only [diff, notIn, Nat.beq, and_self]) rfl (by simp only [in0, slotsLe, slotAt, Nat.beq, leV, leV1, leC, leA, nthO, Int.toNat_natCast, and_self]) ⟨at_le b.n _ _ (fun _ _ => rfl), boolsw_le M _ _ (fun _ _ => rfl), opsw_le b.n b.f b.f (fun _ _ => rfl), z_le, blk_le' b 3 3 rfl, ops_le b0.n b0.f false, trivial⟩) ?_; clear hK K)
    refine run_block (in_loop b0 b M _ hr hM (fun i hi => seenS_of b g hi) (blk_here ?_))
    unfold exS inS hO
    repeat' (first
    | refine run_seq ?_
    | refine run_skip ?_
    | (refine run_region fun K hK => ?_; (try (simp (maxSteps := 10000000) only [opL, blkB, blkL, C13r0, C13r1, C13r2, C13r3, C13r4, C13r5, C13r6, C13r7, C13r8, C13r9, C13r10, C13r11, C13r12, C13r13, C13r14, C13r15, C13r16, C13r17, C13r18, C13r19, C13r20, C13r21, C13r22, C13r23, rwp_nil, rwp_cons, rwpK_app, aop, gpath, St.get, slotAt, sfx, eqP, segsOf, St.put, addBlk, getB, setB, delB, ld1, ldn, st1, stn, setRow, rowNeed, segAt, nsub, bin, un, eqB, isShift, sameK, arith, shiftR, getsl, selB_or, selB_and, beqb, shed, addN, Nat.beq, Seg.size, sizes, imp, needP, andN, appL, argsOf, ptrsOf, aasOf, cut, takeS, dropS, putS, partsOf, fillS, fieldOf, nthA, negIf, nilq, nilB, eqS, eqF, eqS1, andP, kin, slcS, strOk, plusA, bndHi, leN, optG, roH, roL, initT, exOk, exAll, wrAddr, Nat.reduceAdd, Nat.reduceSub, Nat.reduceMul, Int.reduceToNat, List.append_nil, List.nil_append, List.cons_append, eqT, idxT, cat, cpy, ite_int, ite_bool, ite_seg, ite_segs, ite_nil, ite_twice, Int.toNat_natCast, app, addBs, tob])); (repeat (first | (refine And.intro ?_ ?_; · first | trivial | assumption | omega))); with_reducible refine hK _ ?_; clear hK K)
    | (refine run_cond rfl (fun hc => ?_) (fun hc => ?_) <;> try (simp only [*, Bool.true_eq_false, Bool.false_eq_true, Bool.not_true, Bool.not_false, Bool.true_or, Bool.or_true, Bool.false_or, Bool.or_false, Bool.false_and, Bool.and_false, bne_self_eq_false, beq_self_eq_true] at hc; done))
    | refine run_block ?_
    | refine run_ret ?_
    | refine run_nil ?_
    | refine run_exit ?_
    | refine blk_normal ?_
    | refine blk_ret ?_
    | refine blk_here ?_
    | refine blk_there rfl ?_
    | refine loop_exit ?_
    | refine loop_ret ?_
    | refine un_exit ?_
    | refine un_ret ?_
    | refine unE_exit ?_
    | refine unE_ret ?_
    | refine un_normal ?_)
    exact hnext hc (markN b.f b.n g b.n) _ (LeS.intro [0, 1, 2, 6, 4] idts (by simp only [diff, notIn, Nat.beq, and_self]) rfl (by simp only [stO, slotsLe, slotAt, Nat.beq, leV, leV1, leC, leA, nthO, and_self]) ⟨boolsw_le M _ _ (fun _ _ => rfl), opsw_le _ _ _ (fun _ _ => rfl), z_le, blk_le' (withS b) 6 3 rfl, ops_le b0.n b0.f false, trivial⟩)
theorem blkIt_le {t : Nat} {b : BlkS} (h : allS b = true) : blkIt t b = b := by
  cases t with
  | zero => rfl
  | succ t => simp only [blkIt, h, if_true]
theorem con13_0 (b0 : BlkS) : Con Try.prog 13 [.agg (blkL b0 0)] ⟨1, [(0, opsB b0.n b0.f)]⟩ (fun v H' => v = retBlk b0 1 ∧ H' = heapBlk0 b0) := by
  (refine con_of_run mixed (fn := Try.f13) (by kernel_rfl) (by kernel_rfl) C13_ok (rs := [.cn 4 2, .tmp 3]) (by kernel_rfl) (Nat.le_of_ble_eq_true (by kernel_rfl)) ?_; unfold C13; simp only [initT, Nat.reduceAdd])
  repeat' (first
    | refine run_seq ?_
    | refine run_skip ?_
    | (refine run_region fun K hK => ?_; (try (simp (maxSteps := 10000000) only [opL, blkL, opsB, partsOf, fillS, C13r0, C13r1, C13r2, C13r4, C13r5, C13r6, C13r7, C13r8, C13r9, C13r10, C13r11, C13r12, C13r13, C13r14, C13r15, C13r16, C13r17, C13r18, C13r19, C13r20, C13r21, C13r22, C13r23, rwp_nil, rwp_cons, rwpK_app, aop, gpath, St.get, slotAt, sfx, eqP, segsOf, St.put, addBlk, getB, setB, delB, ld1, ldn, st1, stn, setRow, rowNeed, segAt, nsub, bin, un, eqB, isShift, sameK, arith, shiftR, getsl, selB_or, selB_and, beqb, shed, addN, Nat.beq, Seg.size, sizes, imp, needP, andN, appL, argsOf, ptrsOf, aasOf, cut, takeS, dropS, putS, partsOf, fillS, fieldOf, nthA, negIf, nilq, nilB, eqS, eqF, eqS1, andP, kin, slcS, strOk, plusA, bndHi, leN, optG, roH, roL, initT, exOk, exAll, wrAddr, Nat.reduceAdd, Nat.reduceSub, Nat.reduceMul, Int.reduceToNat, List.append_nil, List.nil_append, List.cons_append, eqT, idxT, cat, cpy, ite_int, ite_bool, ite_seg, ite_segs, ite_nil, ite_twice, Int.toNat_natCast, app, addBs, tob])); (repeat (first | (refine And.intro ?_ ?_; · (first | trivial | assumption | omega)) | ((first | (refine call_t _ (con37_at b0 0 _ _ _ rfl (Nat.le_of_ble_eq_true rfl) (by simp [keysLt])) ?_; rintro v H' ⟨rfl, rfl⟩) | refine call_q _ (con37_at b0 0 _ _ _ rfl (Nat.le_of_ble_eq_true rfl) (by simp [keysLt])) ?_ | refine call_g _ (imp_of (con37_at b0 0 _ _ _ rfl (Nat.le_of_ble_eq_true rfl) (by simp [keysLt]))) ?_); simp (maxSteps := 10000000) only [opL, blkL, opsB, partsOf, fillS, C13r0, C13r1, C13r2, C13r4, C13r5, C13r6, C13r7, C13r8, C13r9, C13r10, C13r11, C13r12, C13r13, C13r14, C13r15, C13r16, C13r17, C13r18, C13r19, C13r20, C13r21, C13r22, C13r23, rwp_nil, rwp_cons, rwpK_app, aop, gpath, St.get, slotAt, sfx, eqP, segsOf, St.put, addBlk, getB, setB, delB, ld1, ldn, st1, stn, setRow, rowNeed, segAt, nsub, bin, un, eqB, isShift, sameK, arith, shiftR, getsl, selB_or, selB_and, beqb, shed, addN, Nat.beq, Seg.size, sizes, imp, needP, andN, appL, argsOf, ptrsOf, aasOf, cut, takeS, dropS, putS, partsOf, fillS, fieldOf, nthA, negIf, nilq, nilB, eqS, eqF, eqS1, andP, kin, slcS, strOk, plusA, bndHi, leN, optG, roH, roL, initT, exOk, exAll, wrAddr, Nat.reduceAdd, Nat.reduceSub, Nat.reduceMul, Int.reduceToNat, List.append_nil, List.nil_append, List.cons_append, eqT, idxT, cat, cpy, ite_int, ite_bool, ite_seg, ite_segs, ite_nil, ite_twice, Int.toNat_natCast, app, addBs, tob]))); with_reducible refine hK _ ?_; clear hK K)
    | (refine run_cond rfl (fun hc => ?_) (fun hc => ?_) <;> try (simp only [*, Bool.true_eq_false, Bool.false_eq_true, Bool.not_true, Bool.not_false, Bool.true_or, Bool.or_true, Bool.false_or, Bool.or_false, Bool.false_and, Bool.and_false, bne_self_eq_false, beq_self_eq_true] at hc; done))
    | refine run_block ?_
    | refine run_ret ?_
    | refine run_nil ?_
    | refine run_exit ?_
    | refine blk_normal ?_
    | refine blk_ret ?_
    | refine blk_here ?_
    | refine blk_there rfl ?_
    | refine loop_exit ?_
    | refine loop_ret ?_
    | refine un_exit ?_
    | refine un_ret ?_
    | refine unE_exit ?_
    | refine unE_ret ?_
    | refine un_normal ?_)
  · have hr : rightS b0 = false := by simpa using hc
    refine end_of ⟨[⟨2, [], .c (.ptr ⟨1, 0, 0, 0⟩)⟩, ⟨3, [], .c (.int .i64 4)⟩], ⟨2, [(1, zblk), (0, opsB b0.n b0.f)]⟩⟩ (LeS.intro [0, 2] idts (by simp only [diff, notIn, Nat.beq, and_self]) rfl (by simp only [slotsLe, slotAt, Nat.beq, leV, leV1, leC, leA, nthO, and_self]) ⟨z_le, ops_le b0.n b0.f false, trivial⟩) ?_
    simp only [endF, resL, resA, St.get, slotAt, Nat.beq, sfx, eqP, ldn, getB, zblk, rowNeed, cut, dropS, takeS, Seg.size, nsub, noTup, resV]
    exact ⟨by simp only [retBlk, hr, Bool.false_eq_true, if_false], by simp only [heapBlk0, hr, Bool.false_eq_true, if_false, zblk]⟩
  · have hr : rightS b0 = true := by simpa using hc
    have hn := right_n hr
    repeat' (first
    | refine run_seq ?_
    | refine run_skip ?_
    | (refine run_region fun K hK => ?_; (try (simp (maxSteps := 10000000) only [opL, blkL, opsB, Nat.sub_zero, C13r0, C13r1, C13r2, C13r3, C13r5, C13r6, C13r7, C13r8, C13r9, C13r10, C13r11, C13r12, C13r13, C13r14, C13r15, C13r16, C13r17, C13r18, C13r19, C13r20, C13r21, C13r22, C13r23, rwp_nil, rwp_cons, rwpK_app, aop, gpath, St.get, slotAt, sfx, eqP, segsOf, St.put, addBlk, getB, setB, delB, ld1, ldn, st1, stn, setRow, rowNeed, segAt, nsub, bin, un, eqB, isShift, sameK, arith, shiftR, getsl, selB_or, selB_and, beqb, shed, addN, Nat.beq, Seg.size, sizes, imp, needP, andN, appL, argsOf, ptrsOf, aasOf, cut, takeS, dropS, putS, partsOf, fillS, fieldOf, nthA, negIf, nilq, nilB, eqS, eqF, eqS1, andP, kin, slcS, strOk, plusA, bndHi, leN, optG, roH, roL, initT, exOk, exAll, wrAddr, Nat.reduceAdd, Nat.reduceSub, Nat.reduceMul, Int.reduceToNat, List.append_nil, List.nil_append, List.cons_append, eqT, idxT, cat, cpy, ite_int, ite_bool, ite_seg, ite_segs, ite_nil, ite_twice, Int.toNat_natCast, app, addBs, tob])); (repeat (first | (refine And.intro ?_ ?_; · (first | trivial | assumption | omega)) | ((first | (refine call_t _ (con39_at b0.n b0.f hn.1 hn.2 0 _ _ _ rfl (Nat.le_of_ble_eq_true rfl) (by simp [keysLt])) ?_; rintro v H' ⟨rfl, rfl⟩) | refine call_q _ (con39_at b0.n b0.f hn.1 hn.2 0 _ _ _ rfl (Nat.le_of_ble_eq_true rfl) (by simp [keysLt])) ?_ | refine call_g _ (imp_of (con39_at b0.n b0.f hn.1 hn.2 0 _ _ _ rfl (Nat.le_of_ble_eq_true rfl) (by simp [keysLt]))) ?_); simp (maxSteps := 10000000) only [opL, blkL, opsB, Nat.sub_zero, C13r0, C13r1, C13r2, C13r3, C13r5, C13r6, C13r7, C13r8, C13r9, C13r10, C13r11, C13r12, C13r13, C13r14, C13r15, C13r16, C13r17, C13r18, C13r19, C13r20, C13r21, C13r22, C13r23, rwp_nil, rwp_cons, rwpK_app, aop, gpath, St.get, slotAt, sfx, eqP, segsOf, St.put, addBlk, getB, setB, delB, ld1, ldn, st1, stn, setRow, rowNeed, segAt, nsub, bin, un, eqB, isShift, sameK, arith, shiftR, getsl, selB_or, selB_and, beqb, shed, addN, Nat.beq, Seg.size, sizes, imp, needP, andN, appL, argsOf, ptrsOf, aasOf, cut, takeS, dropS, putS, partsOf, fillS, fieldOf, nthA, negIf, nilq, nilB, eqS, eqF, eqS1, andP, kin, slcS, strOk, plusA, bndHi, leN, optG, roH, roL, initT, exOk, exAll, wrAddr, Nat.reduceAdd, Nat.reduceSub, Nat.reduceMul, Int.reduceToNat, List.append_nil, List.nil_append, List.cons_append, eqT, idxT, cat, cpy, ite_int, ite_bool, ite_seg, ite_segs, ite_nil, ite_twice, Int.toNat_natCast, app, addBs, tob]))); with_reducible refine hK _ ?_; clear hK K)
    | (refine run_cond rfl (fun hc => ?_) (fun hc => ?_) <;> try (simp only [*, Bool.true_eq_false, Bool.false_eq_true, Bool.not_true, Bool.not_false, Bool.true_or, Bool.or_true, Bool.false_or, Bool.or_false, Bool.false_and, Bool.and_false, bne_self_eq_false, beq_self_eq_true] at hc; done))
    | refine run_block ?_
    | refine run_ret ?_
    | refine run_nil ?_
    | refine run_exit ?_
    | refine blk_normal ?_
    | refine blk_ret ?_
    | refine blk_here ?_
    | refine blk_there rfl ?_
    | refine loop_exit ?_
    | refine loop_ret ?_
    | refine un_exit ?_
    | refine un_ret ?_
    | refine unE_exit ?_
    | refine unE_ret ?_
    | refine un_normal ?_)
    (refine run_regionL fun K hK => ?_; (try (simp (maxSteps := 10000000) only [opL, opsW, blkB, blkL, Int.toNat_natCast, C13r0, C13r1, C13r2, C13r3, C13r4, C13r5, C13r6, C13r7, C13r8, C13r9, C13r10, C13r11, C13r12, C13r13, C13r14, C13r15, C13r16, C13r17, C13r18, C13r19, C13r20, C13r21, C13r22, C13r23, rwp_nil, rwp_cons, rwpK_app, aop, gpath, St.get, slotAt, sfx, eqP, segsOf, St.put, addBlk, getB, setB, delB, ld1, ldn, st1, stn, setRow, rowNeed, segAt, nsub, bin, un, eqB, isShift, sameK, arith, shiftR, getsl, selB_or, selB_and, beqb, shed, addN, Nat.beq, Seg.size, sizes, imp, needP, andN, appL, argsOf, ptrsOf, aasOf, cut, takeS, dropS, putS, partsOf, fillS, fieldOf, nthA, negIf, nilq, nilB, eqS, eqF, eqS1, andP, kin, slcS, strOk, plusA, bndHi, leN, optG, roH, roL, initT, exOk, exAll, wrAddr, Nat.reduceAdd, Nat.reduceSub, Nat.reduceMul, Int.reduceToNat, List.append_nil, List.nil_append, List.cons_append, eqT, idxT, cat, cpy, ite_int, ite_bool, ite_seg, ite_segs, ite_nil, ite_twice, Int.toNat_natCast, app, addBs, tob])); (repeat (first | (refine And.intro ?_ ?_; · (first | trivial | omega | exact ⟨by omega, by omega, by omega⟩)))); refine hK _ (stO b0 b0 b0.n (fun _ => false)) (LeS.intro [0, 1, 2, 3, 4] idts (by simp only [diff, notIn, Nat.beq, and_self]) rfl (by simp only [stO, slotsLe, slotAt, Nat.beq, leV, leV1, leC, leA, nthO, and_self]) ⟨boolsw_le b0.n _ _ (fun _ _ => rfl), opsw_le b0.n b0.f b0.f (fun _ _ => rfl), z_le, blk_le' b0 3 3 rfl, ops_le b0.n b0.f false, trivial⟩) ?_; clear hK K)
    refine run_block ?_
    refine run_loop (fun m s => ∃ t b g, m = b.n ∧ rightS b = true ∧ b.n ≤ b0.n ∧ b.n ≤ t ∧ blkIt t b = blockS b0 ∧ s = stO b0 b b0.n g) b0.n ⟨b0.n, b0, _, rfl, hr, Nat.le_refl _, Nat.le_refl _, rfl, rfl⟩ ?_
    rintro m s ⟨t, b, g, rfl, hrb, hb, ht, he, rfl⟩
    have hnb := right_n hrb
    refine out_round b0 b b0.n g hrb hb (fun ha s hs => loop_ret (blk_ret (end_of _ hs ?_))) (fun ha g' s hs => ?_)
    · have e : blockS b0 = b := by rw [← he]; exact blkIt_le ha
      simp only [endF, resL, resA, endB, St.get, slotAt, Nat.beq, sfx, eqP, ldn, getB, blkB, blkL, rowNeed, cut, dropS, takeS, Seg.size, nsub, noTup, resV]
      exact ⟨by simp only [retBlk, hr, if_true, e, blkL], by simp only [heapBlk0, hr, if_true, e, blkB, blkL]⟩
    · obtain ⟨t', rfl⟩ : ∃ t', t = t' + 1 := ⟨t - 1, by omega⟩
      have hlt := with_lt ha
      refine loop_normal (withS b).n _ hlt hs ⟨t', withS b, g', rfl, right_with hrb, by omega, by omega, ?_, rfl⟩
      rw [← he]
      simp only [blkIt, ha, Bool.false_eq_true, if_false]
/-- dead.Block. -/
theorem con13 (b0 : BlkS) : Con Try.prog 13 [.agg (blkL b0 0)] ⟨1, [(0, opsB b0.n b0.f)]⟩ (fun v H' => v = retBlk b0 1 ∧ H' = heapBlk b0) := by
  refine Con.forget (con13_0 b0) ?_
  rintro v H' ⟨rfl, rfl⟩
  by_cases hr : rightS b0 = true
  · refine ⟨_, heapBlk b0, [0, 1], idts, (by simp only [diff, notIn, Nat.beq, and_self]), by simp only [heapBlk, hr, if_true]; rfl, ?_, ?_, rfl, rfl⟩
    · simp only [heapBlk0, heapBlk, hr, if_true]
      exact ⟨opsw_le _ _ _ (fun _ _ => rfl), ops_le b0.n b0.f false, trivial⟩
    · simp only [retBlk, hr, if_true, leV, leV1, leVL, blkL, leSegs, leSeg, leC, leA, nthO, and_self]
  · refine ⟨_, heapBlk b0, [0], idts, ⟨trivial, trivial⟩, by simp only [heapBlk, hr, if_false, Bool.false_eq_true]; rfl, ?_, ?_, rfl, rfl⟩
    · simp only [heapBlk0, heapBlk, hr, if_false, Bool.false_eq_true]
      exact ⟨ops_le b0.n b0.f false, trivial⟩
    · simp only [retBlk, hr, if_false, Bool.false_eq_true, leV, leV1, leVL, leSegs, leSeg, leC, and_self]
end Go.Proofs.Ytmbnakinhnkabaa
