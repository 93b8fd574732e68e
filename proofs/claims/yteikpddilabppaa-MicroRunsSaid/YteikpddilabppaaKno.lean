/- micro: New where more is named; the chapter's example. -/
import Derived.Test.YteikpddilabppaaNew
namespace Go.Proofs.Yteikpddilabppaa
open Go.AM
set_option maxRecDepth 100000
set_option linter.unusedSimpArgs false
set_option linter.unusedVariables false
def codeLa (a : Nat) (c : CodeS) : List Seg := [.c (.int .u64 c.pc), .c (.int .i64 c.words), .c (.int .i64 c.el), .c (.int .i64 c.slots), .c (.slice ⟨a, 0, 0, 0⟩ false c.nops)]
theorem dropB_ro {l : List Nat} {i : Nat} {B : Blk} (hB : B.wr = false) (X : List (Nat × Blk)) : dropB l [(i, B)] X = X := by
  induction X with
  | nil => rfl
  | cons x r ih => simp [dropB, goneB, hB, ih]
theorem con6_at (c : CodeS) (k : CoreS) (himm : ∀ i, i < c.nops → 0 ≤ (c.ops i).imm) (a n : Nat) (X : List (Nat × Blk)) (wr : Bool) (ha : getB X a = some (opsBk c wr)) (hlt : a < n) (hkl : keysLt X n) :
    Con Try.prog 6 [.agg (codeLa a c), .agg (coreL k)] ⟨n, X⟩ (fun v H' => if newErr c k = 0 then v = .tup [.c (.ptr ⟨n, 0, 0, 0⟩), .c (.int .i64 0)] ∧ H' = ⟨n + 3, (n, runBa n (n + 1) (n + 2) (newS c k)) :: (n + 1, opsB (newS c k)) :: (n + 2, slotB (newS c k)) :: X⟩ else v = .tup [.c .nilp, .c (.int .i64 (newErr c k))] ∧ H' = ⟨n, X⟩) := by
  have hle : leB [a] (opsBk c wr) (opsBk c false) := ⟨rfl, rfl, fun h => (by cases h), Nat.le_refl _, fun i _ => by simp only [opsBk, microL, leSegs, leSeg, leC, and_self]⟩
  have := (con6 c k himm).frame (H := ⟨n, X⟩) [a] rfl ⟨trivial, trivial⟩ ⟨hlt, trivial⟩ hkl (by simp only [leBlks, nthO, ha]; exact ⟨hle, trivial⟩) (args := [.agg (codeLa a c), .agg (coreL k)])
    (by simp only [codeLa, codeL, coreL, leArgs, leV, leV1, leSegs, leSeg, leC, leA, nthO, and_self, implies_true])
  refine this.weaken ?_
  rintro v H' ⟨v0, H0', h0, rfl, rfl⟩
  split at h0
  · rename_i he
    rw [if_pos he]
    obtain ⟨rfl, rfl⟩ := h0
    refine ⟨by simp only [mapV, mapVL, mapV1, mapC, mapA, gId, Nat.add_zero], ?_⟩
    have hr := runBa_eq (g := gId [a] n) (i := a) (j := n) (k := n + 1) rfl rfl rfl
    simp only [framed, newH, dropB_ro (l := [a]) (i := 0) (B := opsBk c false) rfl]
    have e : mapB (gId [a] n) (runBa 1 2 3 (newS c k)) = runBa n (n + 1) (n + 2) (newS c k) := by
      simp only [mapB, runBa, runLa, newS, waitVa, mapSegs, mapSeg]
      rfl
    rw [← e]
    rfl
  · rename_i he
    rw [if_neg he]
    obtain ⟨rfl, rfl⟩ := h0
    refine ⟨rfl, ?_⟩
    simp only [framed, dropB_ro (l := [a]) (i := 0) (B := opsBk c false) rfl]
    rfl
def exOps : Nat → MicroS
  | 0 => ⟨18, 0, 0, 0, 0, 0, 64⟩
  | 1 => ⟨5, 1, 0, 0, 0, 0, 0⟩
  | 2 => ⟨12, 0, 0, 0, 0, 2, 0⟩
  | 3 => ⟨6, 0, 0, 0, 0, 0, 0⟩
  | _ => ⟨20, 0, 0, 0, 0, 0, 68⟩
def exC : CodeS := ⟨64, 1, 1, 0, 5, exOps⟩
theorem con16 : Con Try.prog 16 [] ⟨0, []⟩ (fun v H' => v = .agg (codeLa 0 exC) ∧ H' = ⟨1, [(0, opsBk exC true)]⟩) := by
  refine Con.forget (R := fun v H' => v = .agg (codeLa 1 exC) ∧ H' = ⟨2, [(1, opsBk exC true), (0, ⟨5, none, fun _ => codeLa 1 exC, 25, true⟩)]⟩) ?_ ?_
  rotate_left
  · rintro v H' ⟨rfl, rfl⟩
    refine ⟨_, _, [1], fun i h => absurd h (Nat.not_lt_zero i), ⟨trivial, trivial⟩, rfl, ?_, ?_, rfl, rfl⟩
    · exact ⟨⟨rfl, rfl, id, Nat.le_refl _, fun i _ => by simp only [opsBk, microL, leSegs, leSeg, leC, and_self]⟩, trivial⟩
    · simp only [leV, leV1, codeLa, leSegs, leSeg, leC, leA, nthO, and_self]
  (refine con_of_run mixed (fn := Try.f16) (by kernel_rfl) (by kernel_rfl) C16_ok (rs := [.cn 5 0]) (by kernel_rfl) (Nat.le_of_ble_eq_true (by kernel_rfl)) ?_; unfold C16; simp only [initT, Nat.reduceAdd])
  repeat' (first
    | refine run_seq ?_
    | refine run_skip ?_
    | (refine run_region fun K hK => ?_; (try (simp (maxSteps := 10000000) only [rowsFit, rowFn, cutD, repl, C16r0, C16r1, rwp_nil, rwp_cons, rwpK_app, aop, gpath, St.get, slotAt, sfx, eqP, segsOf, St.put, addBlk, getB, setB, delB, ld1, ldn, st1, stn, setRow, rowNeed, segAt, nsub, bin, un, eqB, isShift, sameK, arith, shiftR, getsl, selB_or, selB_and, beqb, shed, addN, Nat.beq, Seg.size, sizes, imp, needP, andN, appL, argsOf, ptrsOf, aasOf, cut, takeS, dropS, putS, partsOf, fillS, fieldOf, nthA, negIf, nilq, nilB, eqS, eqF, eqS1, andP, kin, slcS, strOk, plusA, bndHi, leN, optG, roH, roL, initT, exOk, exAll, wrAddr, Nat.reduceAdd, Nat.reduceSub, Nat.reduceMul, Int.reduceToNat, List.append_nil, List.nil_append, List.cons_append, eqT, idxT, cat, cpy, ite_int, ite_bool, ite_seg, ite_segs, ite_nil, ite_twice, Int.toNat_natCast, app, addBs])); (repeat (first | (refine And.intro ?_ ?_; · omega))); with_reducible refine hK _ ?_; clear hK K)
    | (refine run_cond rfl (fun hc => ?_) (fun hc => ?_) <;> try (simp only [*, Bool.true_eq_false, Bool.false_eq_true, Bool.not_true, Bool.not_false, Bool.true_or, Bool.or_true, Bool.false_or, Bool.or_false, Bool.false_and, Bool.and_false, bne_self_eq_false, beq_self_eq_true] at hc; done))
    | refine run_block ?_
    | refine run_ret ?_
    | refine run_nil ?_
    | refine run_exit ?_
    | refine blk_normal ?_
    | refine blk_ret ?_
    | refine blk_here ?_
    | refine blk_there rfl ?_
    | refine loop_exit ?_
    | refine loop_ret ?_
    | refine un_exit ?_
    | refine un_ret ?_
    | refine unE_exit ?_
    | refine unE_ret ?_
    | refine un_normal ?_)
  refine end_of ⟨[⟨0, [], .c (.ptr ⟨0, 0, 0, 0⟩)⟩], ⟨2, [(1, opsBk exC true), (0, ⟨5, none, fun _ => codeLa 1 exC, 25, true⟩)]⟩⟩ ?_ ?_
  rotate_left
  · simp (maxSteps := 10000000) only [codeLa, endF, resL, resA, noTup, resV, C16r0, C16r1, rwp_nil, rwp_cons, rwpK_app, aop, gpath, St.get, slotAt, sfx, eqP, segsOf, St.put, addBlk, getB, setB, delB, ld1, ldn, st1, stn, setRow, rowNeed, segAt, nsub, bin, un, eqB, isShift, sameK, arith, shiftR, getsl, selB_or, selB_and, beqb, shed, addN, Nat.beq, Seg.size, sizes, imp, needP, andN, appL, argsOf, ptrsOf, aasOf, cut, takeS, dropS, putS, partsOf, fillS, fieldOf, nthA, negIf, nilq, nilB, eqS, eqF, eqS1, andP, kin, slcS, strOk, plusA, bndHi, leN, optG, roH, roL, initT, exOk, exAll, wrAddr, Nat.reduceAdd, Nat.reduceSub, Nat.reduceMul, Int.reduceToNat, List.append_nil, List.nil_append, List.cons_append, eqT, idxT, cat, cpy, ite_int, ite_bool, ite_seg, ite_segs, ite_nil, ite_twice, Int.toNat_natCast, app, addBs]
    exact ⟨trivial, trivial⟩
  refine LeS.intro [0, 1] (fun i h => absurd h (Nat.not_lt_zero i)) (by simp only [diff, notIn, Nat.beq, and_self]) rfl ⟨⟨rfl, rfl, rfl, rfl⟩, trivial⟩ ?_
  refine ⟨⟨rfl, rfl, id, Nat.le_refl _, fun i hi => ?_⟩, ⟨rfl, rfl, id, Nat.le_refl _, fun i _ => ?_⟩, trivial⟩
  · match i, hi with
    | 0, _ => exact ⟨⟨rfl, rfl⟩, ⟨rfl, rfl⟩, ⟨rfl, rfl⟩, ⟨rfl, rfl⟩, ⟨rfl, rfl⟩, ⟨rfl, rfl⟩, ⟨rfl, rfl⟩, trivial⟩
    | 1, _ => exact ⟨⟨rfl, rfl⟩, ⟨rfl, rfl⟩, ⟨rfl, rfl⟩, ⟨rfl, rfl⟩, ⟨rfl, rfl⟩, ⟨rfl, rfl⟩, ⟨rfl, rfl⟩, trivial⟩
    | 2, _ => exact ⟨⟨rfl, rfl⟩, ⟨rfl, rfl⟩, ⟨rfl, rfl⟩, ⟨rfl, rfl⟩, ⟨rfl, rfl⟩, ⟨rfl, rfl⟩, ⟨rfl, rfl⟩, trivial⟩
    | 3, _ => exact ⟨⟨rfl, rfl⟩, ⟨rfl, rfl⟩, ⟨rfl, rfl⟩, ⟨rfl, rfl⟩, ⟨rfl, rfl⟩, ⟨rfl, rfl⟩, ⟨rfl, rfl⟩, trivial⟩
    | 4, _ => exact ⟨⟨rfl, rfl⟩, ⟨rfl, rfl⟩, ⟨rfl, rfl⟩, ⟨rfl, rfl⟩, ⟨rfl, rfl⟩, ⟨rfl, rfl⟩, ⟨rfl, rfl⟩, trivial⟩
    | n + 5, h => exact absurd h (by simp only [opsBk, exC, Blk.n, Option.getD]; omega)
  · simp only [codeLa, exC, leSegs, leSeg, leC, leA, nthO, and_self]
end Go.Proofs.Yteikpddilabppaa
