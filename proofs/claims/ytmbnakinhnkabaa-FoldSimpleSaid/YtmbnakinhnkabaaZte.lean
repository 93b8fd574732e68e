/- Parts of the proof of foldSimple_holds, joined and cut by a program: Gb, Gc, Gd, Ge, Gf, Gg, Gh, Gi, Gj, Hb. No condition. -/
import Derived.Test.YtmbnakinhnkabaaZtd
namespace Go.Proofs.Ytmbnakinhnkabaa
open Go.AM
set_option maxRecDepth 100000
set_option linter.unusedSimpArgs false
set_option linter.unusedVariables false
def placeK (o : OpS) : Int := if o.kind = 2 ∨ o.kind = 3 then 0 else if o.kind = 4 ∨ o.kind = 5 then 1 else if o.kind = 6 ∨ o.kind = 7 then 2 else 0
def placeR (o : OpS) : Int := if o.kind = 2 ∨ o.kind = 3 then o.r else if o.kind = 4 ∨ o.kind = 5 then 0 else if o.kind = 6 ∨ o.kind = 7 then o.r else 0
def placeSet (o : OpS) : Bool := o.kind == 3 || o.kind == 5 || o.kind == 7
def placeOk (o : OpS) : Bool := o.kind == 2 || o.kind == 3 || o.kind == 4 || o.kind == 5 || o.kind == 6 || o.kind == 7
def placeL (k r : Int) : List Seg := [.c (.int .i64 k), .c (.int .i64 r)]
def plB (k r : Int) : Blk := ⟨2, none, fun _ => placeL k r, 111, true⟩
theorem pl_le {l : List Nat} (k r : Int) : leB l (plB k r) (plB k r) := ⟨rfl, rfl, id, Nat.le_refl _, fun _ _ => by simp only [plB, placeL, leSegs, leSeg, leC, and_self]⟩
theorem end_pl {l : List Slot} {H : Heap} (o : OpS) (k r : Int) (set ok : Bool) (s2 : slotAt l 2 = some ⟨2, [], .c (.ptr ⟨1, 0, 0, 0⟩)⟩) (s3 : slotAt l 3 = some ⟨3, [], .c (.bool set)⟩) (s4 : slotAt l 4 = some ⟨4, [], .c (.bool ok)⟩) (g : getB H.blks 1 = some (plB k r))
    (h1 : k = placeK o) (h2 : r = placeR o) (h3 : set = placeSet o) (h4 : ok = placeOk o) : endQ (LeS 0) [.cn 2 2, .tmp 3, .tmp 4] (fun v H' => v = .tup [.agg (placeL (placeK o) (placeR o)), .c (.bool (placeSet o)), .c (.bool (placeOk o))] ∧ H' = ⟨1, [(0, plB (placeK o) (placeR o))]⟩) .ret ⟨l, H⟩ := by
  subst h1 h2 h3 h4
  refine end_of ⟨[⟨2, [], .c (.ptr ⟨0, 0, 0, 0⟩)⟩, ⟨3, [], .c (.bool (placeSet o))⟩, ⟨4, [], .c (.bool (placeOk o))⟩], ⟨1, [(0, plB (placeK o) (placeR o))]⟩⟩ (LeS.intro [1] (fun i h => absurd h (Nat.not_lt_zero i)) (by simp only [diff, notIn, Nat.beq, and_self]) rfl (by simp only [slotsLe, s2, s3, s4, leV, leV1, leC, leA, nthO, and_self]) ?_) ?_
  · simp only [leBlks, nthO, g]
    exact ⟨pl_le _ _, trivial⟩
  · simp only [endF, resL, resA, St.get, slotAt, Nat.beq, sfx, eqP, ldn, getB, plB, placeL, rowNeed, cut, dropS, takeS, Seg.size, nsub, noTup, resV]
    exact ⟨by first | rfl | trivial, by first | rfl | trivial⟩
theorem con73 (o : OpS) (H : Heap) : Con Try.prog 73 [.agg (opL o)] H (fun v H' => v = .tup [.agg (placeL (placeK o) (placeR o)), .c (.bool (placeSet o)), .c (.bool (placeOk o))] ∧ H' = H) := by
  have h0 : Con Try.prog 73 [.agg (opL o)] ⟨0, []⟩ (fun v H' => v = .tup [.agg (placeL (placeK o) (placeR o)), .c (.bool (placeSet o)), .c (.bool (placeOk o))] ∧ H' = ⟨1, [(0, plB (placeK o) (placeR o))]⟩) := by
    (refine con_of_run mixed (fn := Try.f73) (by kernel_rfl) (by kernel_rfl) C73_ok (rs := [.cn 2 2, .tmp 3, .tmp 4]) (by kernel_rfl) (Nat.le_of_ble_eq_true (by kernel_rfl)) ?_; unfold C73; simp only [initT, Nat.reduceAdd])
    repeat' (first | refine run_seq ?_ | refine run_skip ?_ | (refine run_region fun K hK => ?_; (try (simp (maxSteps := 10000000) only [opL, partsOf, fillS, C73r0, C73r1, C73r2, C73r3, C73r4, C73r5, C73r6, C73r7, C73r8, C73r9, C73r10, C73r11, rwp_nil, rwp_cons, rwpK_app, aop, gpath, St.get, slotAt, sfx, eqP, segsOf, St.put, addBlk, getB, setB, delB, ld1, ldn, st1, stn, setRow, rowNeed, segAt, nsub, bin, un, eqB, isShift, sameK, arith, shiftR, getsl, selB_or, selB_and, beqb, shed, addN, Nat.beq, Seg.size, sizes, imp, needP, andN, appL, argsOf, ptrsOf, aasOf, cut, takeS, dropS, putS, partsOf, fillS, fieldOf, nthA, negIf, nilq, nilB, eqS, eqF, eqS1, andP, kin, slcS, strOk, plusA, bndHi, leN, optG, roH, roL, initT, exOk, exAll, wrAddr, Nat.reduceAdd, Nat.reduceSub, Nat.reduceMul, Int.reduceToNat, List.append_nil, List.nil_append, List.cons_append, mapR, mapR1, keyL, keyOk, keyP, colsPut, colsDel, zcols, eqT, idxT, cat, cpy, ite_int, ite_bool, ite_seg, ite_segs, ite_nil, ite_twice, Int.toNat_natCast, app, addBs, tob])); (repeat (first | (refine And.intro ?_ ?_; · (first | trivial | assumption | omega | exact ⟨by omega, by omega, by omega⟩ | exact ⟨trivial, by omega, by omega⟩ | (intros; first | trivial | assumption | omega))))); with_reducible refine hK _ ?_; clear hK K) | (refine run_cond rfl (fun hc => ?_) (fun hc => ?_) <;> try (simp only [*, Bool.true_eq_false, Bool.false_eq_true, Bool.not_true, Bool.not_false, Bool.true_or, Bool.or_true, Bool.false_or, Bool.or_false, Bool.false_and, Bool.and_false, bne_self_eq_false, beq_self_eq_true] at hc; done)) | refine run_block ?_ | refine run_ret ?_ | refine run_nil ?_ | refine blk_normal ?_ | refine blk_ret ?_ | refine blk_here ?_ | refine blk_there rfl ?_)
    all_goals
      simp only [beq_iff_eq, beq_eq_false_iff_ne, ne_eq] at *
      refine end_pl o _ _ _ _ rfl rfl rfl rfl ?_ ?_ ?_ ?_
      all_goals (try simp only [placeK, placeR, placeSet, placeOk, *])
      all_goals first | rfl | (simp; done) | simp [*]
  refine Con.pure (Con.forget h0 ?_) (by simp only [opL, leArgs, leV, leV1, leSegs, leSeg, leC, and_self]) rfl H
  rintro v H' ⟨rfl, rfl⟩
  exact ⟨_, ⟨0, []⟩, [], fun i h => absurd h (Nat.not_lt_zero i), trivial, rfl, trivial, by simp only [placeL, leV, leV1, leVL, leSegs, leSeg, leC, and_self], rfl, rfl⟩
structure PS where
  b : BlkS
  m : Nat
  f : Nat → OpS
  na : Nat
  a : Nat → Int
  kn : Nat
  kk : Nat → Int
  kr : Nat → Int
  kv : Nat → Int
def passL (F M O A : Nat) (s : PS) : List Seg := [.c (.slice ⟨F, 0, 0, 0⟩ false s.b.n), .c (.slice ⟨O, 0, 0, 0⟩ false s.m), .c (.slice ⟨A, 0, 0, 0⟩ false s.na), .c (.map M)]
def passB (F M O A : Nat) (s : PS) (w : Bool) : Blk := ⟨4, none, fun _ => passL F M O A s, 85, w⟩
def knB (s : PS) : Blk := ⟨0, some 0, fun _ => [.a s.kn (fun i => .int .i64 (s.kv i)), .a s.kn (fun i => .int .i64 (s.kk i)), .a s.kn (fun i => .int .i64 (s.kr i))], 0, true⟩
theorem pass_le {l : List Nat} (s : PS) (F M O A F' M' O' A' : Nat) (w w' : Bool) (hw : w' = true → w = true) (h1 : nthO l F' = some F) (h2 : nthO l M' = some M) (h3 : nthO l O' = some O) (h4 : nthO l A' = some A) : leB l (passB F M O A s w) (passB F' M' O' A' s w') := ⟨rfl, rfl, hw, Nat.le_refl _, fun _ _ => by simp only [passB, passL, leSegs, leSeg, leC, leA, h1, h2, h3, h4, and_self]⟩
theorem kn_le {l : List Nat} (s : PS) : leB l (knB s) (knB s) := ⟨rfl, rfl, id, rfl, fun _ _ => by simp only [knB, leSegs, leSeg, leC, and_self, implies_true]⟩
def passR (s : PS) : Heap := ⟨5, [(0, passB 1 2 3 4 s false), (3, opsB s.m s.f)]⟩
theorem ids5 {l : List Nat} : idTo (0 :: 1 :: 2 :: 3 :: 4 :: l) 5 := by
  intro i h
  match i, h with
  | 0, _ => rfl
  | 1, _ => rfl
  | 2, _ => rfl
  | 3, _ => rfl
  | 4, _ => rfl
theorem passR_le {l : List Slot} {H : Heap} {s : PS} {w : Bool} (h0 : getB H.blks 0 = some (passB 1 2 3 4 s w)) (h3 : getB H.blks 3 = some (opsB s.m s.f)) {r : List Slot} (hr : slotsLe [0, 1, 2, 3, 4] l r) : LeS 5 ⟨l, H⟩ ⟨r, passR s⟩ := by
  refine LeS.intro [0, 1, 2, 3, 4] ids5 (by simp only [diff, notIn, Nat.beq, and_self]) rfl hr ?_
  simp only [passR, leBlks, nthO, h0, h3]
  exact ⟨pass_le s _ _ _ _ _ _ _ _ _ _ (fun h => by cases h) rfl rfl rfl rfl, ops_le s.m s.f false, trivial⟩
theorem passR_at {f : FuncId} {rest : List AV} {s : PS} {V0 : AV} (h : Con Try.prog f (me :: rest) (passR s) (fun v H' => v = V0 ∧ H' = passR s)) (hrest : ∀ l, leArgs l rest rest) (hV0 : ∀ g, mapV g V0 = V0) (R F M O A m : Nat) (X : List (Nat × Blk)) (w w' : Bool) (hd : diff [R, F, M, O, A])
    (hR : getB X R = some (passB F M O A s w)) (hO : getB X O = some ⟨6, some s.m, fun i => opL (s.f i), 39, w'⟩) (hl : allLt [R, F, M, O, A] m) (hkl : keysLt X m) :
    Con Try.prog f (.c (.ptr ⟨R, 0, 0, 0⟩) :: rest) ⟨m, X⟩ (fun v H' => v = V0 ∧ H' = ⟨m, X⟩) := by
  refine ro_gen h [R, F, M, O, A] m X rfl hd hl hkl ?_ ⟨⟨rfl, rfl, rfl, rfl⟩, hrest _⟩ (hV0 _) (fun _ => rfl) rfl rfl
  simp only [passR, leBlks, nthO, hR, hO]
  exact ⟨pass_le s _ _ _ _ _ _ _ _ _ _ (fun h => by cases h) rfl rfl rfl rfl, ops_le s.m s.f w', trivial⟩
theorem con76 (s : PS) (v : Nat) (hv : v < s.m) : Con Try.prog 76 [me, .c (.int .i64 v)] (passR s) (fun u H' => u = .tup [.c (.int .u64 (s.f v).imm), .c (.bool ((s.f v).kind == 1))] ∧ H' = passR s) := by
  (refine con_of_run mixed (fn := Try.f76) (by kernel_rfl) (by kernel_rfl) C76_ok (rs := [.tmp 4, .tmp 5]) (by kernel_rfl) (Nat.le_of_ble_eq_true (by kernel_rfl)) ?_; unfold C76; simp only [initT, Nat.reduceAdd])
  simp only [me, passR, passB, passL, opsB]
  repeat' (first | refine run_seq ?_ | (refine run_region fun K hK => ?_; (try (simp (maxSteps := 10000000) only [opL, Int.toNat_natCast, C76r0, C76r1, C76r2, rwp_nil, rwp_cons, rwpK_app, aop, gpath, St.get, slotAt, sfx, eqP, segsOf, St.put, addBlk, getB, setB, delB, ld1, ldn, st1, stn, setRow, rowNeed, segAt, nsub, bin, un, eqB, isShift, sameK, arith, shiftR, getsl, selB_or, selB_and, beqb, shed, addN, Nat.beq, Seg.size, sizes, imp, needP, andN, appL, argsOf, ptrsOf, aasOf, cut, takeS, dropS, putS, partsOf, fillS, fieldOf, nthA, negIf, nilq, nilB, eqS, eqF, eqS1, andP, kin, slcS, strOk, plusA, bndHi, leN, optG, roH, roL, initT, exOk, exAll, wrAddr, Nat.reduceAdd, Nat.reduceSub, Nat.reduceMul, Int.reduceToNat, List.append_nil, List.nil_append, List.cons_append, mapR, mapR1, keyL, keyOk, keyP, colsPut, colsDel, zcols, eqT, idxT, cat, cpy, ite_int, ite_bool, ite_seg, ite_segs, ite_nil, ite_twice, Int.toNat_natCast, app, addBs, tob])); (repeat (first | (refine And.intro ?_ ?_; · (first | trivial | assumption | omega | exact ⟨by omega, by omega, by omega⟩ | exact ⟨trivial, by omega, by omega⟩ | (intros; first | trivial | assumption | omega))))); with_reducible refine hK _ ?_; clear hK K) | refine run_ret ?_ | refine run_nil ?_)
  refine end_of ⟨[⟨4, [], .c (.int .u64 (s.f v).imm)⟩, ⟨5, [], .c (.bool ((s.f v).kind == 1))⟩], passR s⟩ (passR_le (w := false) rfl rfl (by simp only [slotsLe, slotAt, Nat.beq, leV, leV1, leC, and_self])) ?_
  simp only [endF, resL, resA, St.get, slotAt, Nat.beq, sfx, eqP, noTup, resV]
  exact ⟨by first | rfl | trivial, by first | rfl | trivial⟩
def truthF (o : OpS) : Bool := if o.kind = 1 then decide (o.imm < 2) else if o.kind = 6 then true else if o.kind = 8 then (o.r == 13 || o.r == 14 || o.r == 15) else false
theorem end_truth {l : List Slot} {H : Heap} (s : PS) (c t : Bool) (hs : slotAt l 4 = some ⟨4, [], .c (.bool c)⟩) (h0 : getB H.blks 0 = some (passB 1 2 3 4 s false)) (h3 : getB H.blks 3 = some (opsB s.m s.f)) (hc : c = t) : endQ (LeS 5) [.tmp 4] (fun u H' => u = .c (.bool t) ∧ H' = passR s) .ret ⟨l, H⟩ := by
  subst hc
  refine end_of ⟨[⟨4, [], .c (.bool c)⟩], passR s⟩ (passR_le h0 h3 (by simp only [slotsLe, hs, leV, leV1, leC, and_self])) ?_
  simp only [endF, resL, resA, St.get, slotAt, Nat.beq, sfx, eqP, noTup, resV]
  exact ⟨by first | rfl | trivial, by first | rfl | trivial⟩
theorem con100 (s : PS) (v : Nat) (hv : v < s.m) : Con Try.prog 100 [me, .c (.int .i64 v)] (passR s) (fun u H' => u = .c (.bool (truthF (s.f v))) ∧ H' = passR s) := by
  (refine con_of_run mixed (fn := Try.f100) (by kernel_rfl) (by kernel_rfl) C100_ok (rs := [.tmp 4]) (by kernel_rfl) (Nat.le_of_ble_eq_true (by kernel_rfl)) ?_; unfold C100; simp only [initT, Nat.reduceAdd])
  simp only [me, passR, passB, passL, opsB]
  repeat' (first | refine run_seq ?_ | refine run_skip ?_ | (refine run_region fun K hK => ?_; (try (simp (maxSteps := 10000000) only [opL, Int.toNat_natCast, C100r0, C100r1, C100r2, C100r3, C100r4, C100r5, C100r6, C100r7, C100r8, C100r9, rwp_nil, rwp_cons, rwpK_app, aop, gpath, St.get, slotAt, sfx, eqP, segsOf, St.put, addBlk, getB, setB, delB, ld1, ldn, st1, stn, setRow, rowNeed, segAt, nsub, bin, un, eqB, isShift, sameK, arith, shiftR, getsl, selB_or, selB_and, beqb, shed, addN, Nat.beq, Seg.size, sizes, imp, needP, andN, appL, argsOf, ptrsOf, aasOf, cut, takeS, dropS, putS, partsOf, fillS, fieldOf, nthA, negIf, nilq, nilB, eqS, eqF, eqS1, andP, kin, slcS, strOk, plusA, bndHi, leN, optG, roH, roL, initT, exOk, exAll, wrAddr, Nat.reduceAdd, Nat.reduceSub, Nat.reduceMul, Int.reduceToNat, List.append_nil, List.nil_append, List.cons_append, mapR, mapR1, keyL, keyOk, keyP, colsPut, colsDel, zcols, eqT, idxT, cat, cpy, ite_int, ite_bool, ite_seg, ite_segs, ite_nil, ite_twice, Int.toNat_natCast, app, addBs, tob])); (repeat (first | (refine And.intro ?_ ?_; · (first | trivial | assumption | omega | exact ⟨by omega, by omega, by omega⟩ | exact ⟨trivial, by omega, by omega⟩ | (intros; first | trivial | assumption | omega))))); with_reducible refine hK _ ?_; clear hK K) | (refine run_cond rfl (fun hc => ?_) (fun hc => ?_) <;> try (simp only [*, Bool.true_eq_false, Bool.false_eq_true, Bool.not_true, Bool.not_false, Bool.true_or, Bool.or_true, Bool.false_or, Bool.or_false, Bool.false_and, Bool.and_false, bne_self_eq_false, beq_self_eq_true] at hc; done)) | refine run_block ?_ | refine run_ret ?_ | refine run_nil ?_ | refine blk_normal ?_ | refine blk_ret ?_ | refine blk_here ?_ | refine blk_there rfl ?_)
  all_goals
    simp only [beq_iff_eq, beq_eq_false_iff_ne, ne_eq] at *
    refine end_truth s _ _ rfl rfl rfl ?_
    simp only [truthF, *]
    first | rfl | simp
def layS (s : PS) (o : OpS) : PS := { s with m := s.m + 1, f := fun i => if i < s.m then s.f i else o }
def passH (s : PS) : Heap := ⟨5, [(0, passB 1 2 3 4 s true), (1, opsB s.b.n s.b.f), (2, knB s), (3, opsW s.m s.f), (4, atB s.na s.a)]⟩
def passH' (s : PS) : Heap := ⟨6, [(0, passB 1 2 5 4 s true), (1, opsB s.b.n s.b.f), (2, knB s), (5, opsW s.m s.f), (4, atB s.na s.a)]⟩
theorem app_le {l : List Nat} (m : Nat) (f : Nat → OpS) (o : OpS) : leB l ⟨6, some (m + 1), rowsApp ⟨6, some m, fun i => opL (f i), 39, true⟩ m ⟨6, some 1, fun _ => opL o, 39, true⟩ 0, 39, true⟩ (opsW (m + 1) (fun i => if i < m then f i else o)) := ⟨rfl, rfl, id, Nat.le_refl _, fun i _ => by
  show leSegs _ (rowsApp _ _ _ _ i) (opL (if i < m then f i else o))
  unfold rowsApp
  split <;> simp only [opL, leSegs, leSeg, leC, and_self]⟩
theorem con75 (s : PS) (o : OpS) (hm : s.m < 1000) : Con Try.prog 75 [me, .agg (opL o)] (passH s) (fun u H' => u = .c (.int .i64 s.m) ∧ H' = passH' (layS s o)) := by
  (refine con_of_run mixed (fn := Try.f75) (by kernel_rfl) (by kernel_rfl) C75_ok (rs := [.tmp 4]) (by kernel_rfl) (Nat.le_of_ble_eq_true (by kernel_rfl)) ?_; unfold C75; simp only [initT, Nat.reduceAdd])
  simp only [me, passH, passB, passL, opsB, opsW, knB, atB]
  repeat' (first | refine run_seq ?_ | (refine run_region fun K hK => ?_; (try (simp (maxSteps := 10000000) only [opL, partsOf, fillS, repl, rowsFit, rowFn, cutD, C75r0, C75r1, C75r2, rwp_nil, rwp_cons, rwpK_app, aop, gpath, St.get, slotAt, sfx, eqP, segsOf, St.put, addBlk, getB, setB, delB, ld1, ldn, st1, stn, setRow, rowNeed, segAt, nsub, bin, un, eqB, isShift, sameK, arith, shiftR, getsl, selB_or, selB_and, beqb, shed, addN, Nat.beq, Seg.size, sizes, imp, needP, andN, appL, argsOf, ptrsOf, aasOf, cut, takeS, dropS, putS, partsOf, fillS, fieldOf, nthA, negIf, nilq, nilB, eqS, eqF, eqS1, andP, kin, slcS, strOk, plusA, bndHi, leN, optG, roH, roL, initT, exOk, exAll, wrAddr, Nat.reduceAdd, Nat.reduceSub, Nat.reduceMul, Int.reduceToNat, List.append_nil, List.nil_append, List.cons_append, mapR, mapR1, keyL, keyOk, keyP, colsPut, colsDel, zcols, eqT, idxT, cat, cpy, ite_int, ite_bool, ite_seg, ite_segs, ite_nil, ite_twice, Int.toNat_natCast, app, addBs, tob])); (repeat (first | (refine And.intro ?_ ?_; · (first | trivial | assumption | omega | exact ⟨by omega, by omega, by omega⟩ | exact ⟨trivial, by omega, by omega⟩ | (intros; first | trivial | assumption | omega))))); with_reducible refine hK _ ?_; clear hK K) | refine run_ret ?_ | refine run_nil ?_)
  have hw : IntKind.i64.wrap (((s.m + 1 : Nat) : Int) - 1) = (s.m : Int) := by rw [IntKind.wrap_i64]; omega
  repeat' (first | refine run_seq ?_ | (refine run_region fun K hK => ?_; (try (simp (maxSteps := 10000000) only [opL, partsOf, fillS, repl, rowsFit, rowFn, cutD, hw, C75r0, C75r1, C75r2, rwp_nil, rwp_cons, rwpK_app, aop, gpath, St.get, slotAt, sfx, eqP, segsOf, St.put, addBlk, getB, setB, delB, ld1, ldn, st1, stn, setRow, rowNeed, segAt, nsub, bin, un, eqB, isShift, sameK, arith, shiftR, getsl, selB_or, selB_and, beqb, shed, addN, Nat.beq, Seg.size, sizes, imp, needP, andN, appL, argsOf, ptrsOf, aasOf, cut, takeS, dropS, putS, partsOf, fillS, fieldOf, nthA, negIf, nilq, nilB, eqS, eqF, eqS1, andP, kin, slcS, strOk, plusA, bndHi, leN, optG, roH, roL, initT, exOk, exAll, wrAddr, Nat.reduceAdd, Nat.reduceSub, Nat.reduceMul, Int.reduceToNat, List.append_nil, List.nil_append, List.cons_append, mapR, mapR1, keyL, keyOk, keyP, colsPut, colsDel, zcols, eqT, idxT, cat, cpy, ite_int, ite_bool, ite_seg, ite_segs, ite_nil, ite_twice, Int.toNat_natCast, app, addBs, tob])); (repeat (first | (refine And.intro ?_ ?_; · (first | trivial | assumption | omega | exact ⟨by omega, by omega, by omega⟩ | exact ⟨trivial, by omega, by omega⟩ | (intros; first | trivial | assumption | omega))))); with_reducible refine hK _ ?_; clear hK K) | refine run_ret ?_ | refine run_nil ?_)
  refine end_of ⟨[⟨4, [], .c (.int .i64 s.m)⟩], passH' (layS s o)⟩ (LeS.intro [0, 1, 2, 3, 4, 7] ids5 (by simp only [diff, notIn, Nat.beq, and_self]) rfl (by simp only [hw, slotsLe, slotAt, Nat.beq, leV, leV1, leC, and_self]) ?_) ?_
  · exact ⟨pass_le (layS s o) 1 2 7 4 1 2 5 4 _ _ id rfl rfl rfl rfl, ops_le s.b.n s.b.f false, kn_le s, app_le s.m s.f o, at_le s.na s.a s.a (fun _ _ => rfl), trivial⟩
  · simp only [endF, resL, resA, St.get, slotAt, Nat.beq, sfx, eqP, noTup, resV]
    exact ⟨by first | rfl | trivial, by first | rfl | trivial⟩
theorem beq_commG (a b : Nat) : Nat.beq a b = Nat.beq b a := by
  cases h : Nat.beq a b with
  | true => rw [Nat.eq_of_beq_eq_true h, Nat.beq_refl]
  | false =>
    cases h' : Nat.beq b a with
    | false => rfl
    | true => rw [Nat.eq_of_beq_eq_true h', Nat.beq_refl] at h; cases h
theorem drop4 (R F M O A : Nat) (s : PS) : ∀ X : List (Nat × Blk), dropB [R, F, M, O, A] (passH s).blks X = delB (delB (delB (delB X R) M) O) A
  | [] => rfl
  | (k, B) :: r => by
    have ih := drop4 R F M O A s r
    simp only [passH] at ih ⊢
    simp only [dropB, goneB, passB, opsB, knB, opsW, atB, nthO, delB] at ih ⊢
    rw [beq_commG R k, beq_commG M k, beq_commG O k, beq_commG A k]
    cases h1 : Nat.beq k R with
    | true => simp only [ih]
    | false =>
      simp only [delB]
      cases h2 : Nat.beq k M with
      | true => simp only [ih]
      | false =>
        simp only [delB]
        cases h3 : Nat.beq k O with
        | true => simp only [ih]
        | false =>
          simp only [delB]
          cases h4 : Nat.beq k A with
          | true => simp only [ih]
          | false => simp only [ih]
theorem pass_at' {f : FuncId} {rest : List AV} {s s' : PS} {V0 : AV} (h : Con Try.prog f (me :: rest) (passH s) (fun v H' => v = V0 ∧ H' = passH' s')) (hrest : ∀ l, leArgs l rest rest) (hV0 : ∀ g, mapV g V0 = V0) (R F M O A m : Nat) (X : List (Nat × Blk)) (w : Bool) (hd : diff [R, F, M, O, A])
    (hR : getB X R = some (passB F M O A s true)) (hF : getB X F = some ⟨6, some s.b.n, fun i => opL (s.b.f i), 39, w⟩) (hM : getB X M = some (knB s)) (hO : getB X O = some (opsW s.m s.f)) (hA : getB X A = some (atB s.na s.a)) (hl : allLt [R, F, M, O, A] m) (hkl : keysLt X m) :
    Con Try.prog f (.c (.ptr ⟨R, 0, 0, 0⟩) :: rest) ⟨m, X⟩ (fun v H' => v = V0 ∧ H' = ⟨m + 1, (R, passB F M m A s' true) :: (M, knB s') :: (m, opsW s'.m s'.f) :: (A, atB s'.na s'.a) :: delB (delB (delB (delB X R) M) O) A⟩) := by
  refine (h.frame (args := .c (.ptr ⟨R, 0, 0, 0⟩) :: rest) (H := ⟨m, X⟩) [R, F, M, O, A] rfl hd hl hkl ?_ ⟨⟨rfl, rfl, rfl, rfl⟩, hrest _⟩).weaken ?_
  · simp only [passH, leBlks, nthO, hR, hF, hM, hO, hA]
    exact ⟨pass_le s _ _ _ _ _ _ _ _ _ _ id rfl rfl rfl rfl, ops_le s.b.n s.b.f w, kn_le s, opsw_le _ _ _ (fun _ _ => rfl), at_le _ _ _ (fun _ _ => rfl), trivial⟩
  · rintro v H' ⟨v0, H0', ⟨rfl, rfl⟩, rfl, rfl⟩
    refine ⟨hV0 _, ?_⟩
    simp only [framed, drop4]
    rfl
theorem pass_at0 {f : FuncId} {rest : List AV} {s s' : PS} {V0 : AV} (h : Con Try.prog f (me :: rest) (passH s) (fun v H' => v = V0 ∧ H' = passH s')) (hrest : ∀ l, leArgs l rest rest) (hV0 : ∀ g, mapV g V0 = V0) (R F M O A m : Nat) (X : List (Nat × Blk)) (w : Bool) (hd : diff [R, F, M, O, A])
    (hR : getB X R = some (passB F M O A s true)) (hF : getB X F = some ⟨6, some s.b.n, fun i => opL (s.b.f i), 39, w⟩) (hM : getB X M = some (knB s)) (hO : getB X O = some (opsW s.m s.f)) (hA : getB X A = some (atB s.na s.a)) (hl : allLt [R, F, M, O, A] m) (hkl : keysLt X m) :
    Con Try.prog f (.c (.ptr ⟨R, 0, 0, 0⟩) :: rest) ⟨m, X⟩ (fun v H' => v = V0 ∧ H' = ⟨m, (R, passB F M O A s' true) :: (M, knB s') :: (O, opsW s'.m s'.f) :: (A, atB s'.na s'.a) :: delB (delB (delB (delB X R) M) O) A⟩) := by
  refine (h.frame (args := .c (.ptr ⟨R, 0, 0, 0⟩) :: rest) (H := ⟨m, X⟩) [R, F, M, O, A] rfl hd hl hkl ?_ ⟨⟨rfl, rfl, rfl, rfl⟩, hrest _⟩).weaken ?_
  · simp only [passH, leBlks, nthO, hR, hF, hM, hO, hA]
    exact ⟨pass_le s _ _ _ _ _ _ _ _ _ _ id rfl rfl rfl rfl, ops_le s.b.n s.b.f w, kn_le s, opsw_le _ _ _ (fun _ _ => rfl), at_le _ _ _ (fun _ _ => rfl), trivial⟩
  · rintro v H' ⟨v0, H0', ⟨rfl, rfl⟩, rfl, rfl⟩
    refine ⟨hV0 _, ?_⟩
    simp only [framed, drop4]
    rfl
end Go.Proofs.Ytmbnakinhnkabaa

namespace Go.Proofs.Ytmbnakinhnkabaa
open Go.AM
set_option maxRecDepth 100000
set_option linter.unusedSimpArgs false
set_option linter.unusedVariables false
def knK (s : PS) : List Seg := [.a s.kn (fun i => .int .i64 (s.kk i)), .a s.kn (fun i => .int .i64 (s.kr i))]
def knFind (s : PS) (k r : Int) : Nat := findI (keyEq (placeL k r) (knK s)) s.kn
def knPut (s : PS) (k r v : Int) : PS := { s with kn := max s.kn (knFind s k r + 1), kk := fun i => if i = knFind s k r then k else s.kk i, kr := fun i => if i = knFind s k r then r else s.kr i, kv := fun i => if i = knFind s k r then v else s.kv i }
def knDel (s : PS) (k r : Int) : PS := { s with kn := if knFind s k r < s.kn then s.kn - 1 else s.kn, kk := fun i => if i < knFind s k r then s.kk i else s.kk (i + 1), kr := fun i => if i < knFind s k r then s.kr i else s.kr (i + 1), kv := fun i => if i < knFind s k r then s.kv i else s.kv (i + 1) }
def knSet (s : PS) (o : OpS) (k r : Int) : PS := if ((k != 2) || truthF (s.f o.a.toNat)) = true then knPut s k r o.a else knDel s k r
theorem knSet_m (s : PS) (o : OpS) (k r : Int) : (knSet s o k r).m = s.m := by unfold knSet; split <;> rfl
theorem alt5 {m : Nat} (h : 5 ≤ m) : allLt [0, 1, 2, 3, 4] m := ⟨by omega, by omega, by omega, by omega, by omega, trivial⟩
theorem end_set {l : List Slot} {H : Heap} (s' : PS) (m : Int) (hs : slotAt l 6 = some ⟨6, [], .c (.int .i64 m)⟩) (h0 : getB H.blks 0 = some (passB 1 2 7 4 s' true)) (h1 : getB H.blks 1 = some (opsB s'.b.n s'.b.f)) (h2 : getB H.blks 2 = some (knB s')) (h3 : getB H.blks 7 = some (opsW s'.m s'.f)) (h4 : getB H.blks 4 = some (atB s'.na s'.a)) :
    endQ (LeS 5) [.tmp 6] (fun u H' => u = .c (.int .i64 m) ∧ H' = passH' s') .ret ⟨l, H⟩ := by
  refine end_of ⟨[⟨6, [], .c (.int .i64 m)⟩], passH' s'⟩ (LeS.intro [0, 1, 2, 3, 4, 7] ids5 (by simp only [diff, notIn, Nat.beq, and_self]) rfl (by simp only [slotsLe, hs, leV, leV1, leC, and_self]) ?_) ?_
  · simp only [passH', leBlks, nthO, h0, h1, h2, h3, h4]
    exact ⟨pass_le s' 1 2 7 4 1 2 5 4 _ _ id rfl rfl rfl rfl, ops_le _ _ false, kn_le s', opsw_le _ _ _ (fun _ _ => rfl), at_le _ _ _ (fun _ _ => rfl), trivial⟩
  · simp only [endF, resL, resA, St.get, slotAt, Nat.beq, sfx, eqP, noTup, resV]
    exact ⟨by first | rfl | trivial, by first | rfl | trivial⟩
set_option maxHeartbeats 2000000 in
theorem con74 (s : PS) (o : OpS) (k r : Int) (v : Nat) (ha : o.a = (v : Int)) (hv : v < s.m) (hm : s.m < 1000) : Con Try.prog 74 [me, .agg (opL o), .agg (placeL k r)] (passH s) (fun u H' => u = .c (.int .i64 s.m) ∧ H' = passH' (layS (knSet s o k r) o)) := by
  obtain ⟨kd, ro, oa, ob, oo, im⟩ := o
  simp only at ha
  subst ha
  generalize hS : knSet s ⟨kd, ro, (v : Int), ob, oo, im⟩ k r = S
  unfold knSet at hS
  simp only [Int.toNat_natCast] at hS
  (refine con_of_run mixed (fn := Try.f74) (by kernel_rfl) (by kernel_rfl) C74_ok (rs := [.tmp 6]) (by kernel_rfl) (Nat.le_of_ble_eq_true (by kernel_rfl)) ?_; unfold C74; simp only [initT, Nat.reduceAdd])
  simp only [me, passH, passB, passL, opsB, opsW, knB, atB]
  repeat' (first | refine run_seq ?_ | (refine run_region fun K hK => ?_; (try (simp (maxSteps := 10000000) only [opL, placeL, partsOf, fillS, C74r0, C74r1, C74r2, C74r3, rwp_nil, rwp_cons, rwpK_app, aop, gpath, St.get, slotAt, sfx, eqP, segsOf, St.put, addBlk, getB, setB, delB, ld1, ldn, st1, stn, setRow, rowNeed, segAt, nsub, bin, un, eqB, isShift, sameK, arith, shiftR, getsl, selB_or, selB_and, beqb, shed, addN, Nat.beq, Seg.size, sizes, imp, needP, andN, appL, argsOf, ptrsOf, aasOf, cut, takeS, dropS, putS, partsOf, fillS, fieldOf, nthA, negIf, nilq, nilB, eqS, eqF, eqS1, andP, kin, slcS, strOk, plusA, bndHi, leN, optG, roH, roL, initT, exOk, exAll, wrAddr, Nat.reduceAdd, Nat.reduceSub, Nat.reduceMul, Int.reduceToNat, List.append_nil, List.nil_append, List.cons_append, mapR, mapR1, keyL, keyOk, keyP, colsPut, colsDel, zcols, eqT, idxT, cat, cpy, ite_int, ite_bool, ite_seg, ite_segs, ite_nil, ite_twice, Int.toNat_natCast, app, addBs, tob])); (repeat (first | (refine And.intro ?_ ?_; · (first | trivial | assumption | omega | exact ⟨by omega, by omega, by omega⟩ | exact ⟨trivial, by omega, by omega⟩ | exact ⟨fun _ _ => trivial, fun _ _ => trivial, trivial⟩ | (intros; first | trivial | assumption | omega))) | ((first | (refine call_t _ (passR_at (con100 s v hv) (fun l => by simp only [leArgs, leV, leV1, leC, and_self]) (fun g => rfl) 0 1 2 3 4 _ _ _ _ (by simp only [diff, notIn, Nat.beq, and_self]) rfl rfl (alt5 (Nat.le_of_ble_eq_true rfl)) (by simp [roL, keysLt])) ?_; rintro v H' ⟨rfl, rfl⟩) | refine call_q _ (passR_at (con100 s v hv) (fun l => by simp only [leArgs, leV, leV1, leC, and_self]) (fun g => rfl) 0 1 2 3 4 _ _ _ _ (by simp only [diff, notIn, Nat.beq, and_self]) rfl rfl (alt5 (Nat.le_of_ble_eq_true rfl)) (by simp [roL, keysLt])) ?_ | refine call_g _ (imp_of (passR_at (con100 s v hv) (fun l => by simp only [leArgs, leV, leV1, leC, and_self]) (fun g => rfl) 0 1 2 3 4 _ _ _ _ (by simp only [diff, notIn, Nat.beq, and_self]) rfl rfl (alt5 (Nat.le_of_ble_eq_true rfl)) (by simp [roL, keysLt]))) ?_); simp (maxSteps := 10000000) only [opL, placeL, partsOf, fillS, C74r0, C74r1, C74r2, C74r3, rwp_nil, rwp_cons, rwpK_app, aop, gpath, St.get, slotAt, sfx, eqP, segsOf, St.put, addBlk, getB, setB, delB, ld1, ldn, st1, stn, setRow, rowNeed, segAt, nsub, bin, un, eqB, isShift, sameK, arith, shiftR, getsl, selB_or, selB_and, beqb, shed, addN, Nat.beq, Seg.size, sizes, imp, needP, andN, appL, argsOf, ptrsOf, aasOf, cut, takeS, dropS, putS, partsOf, fillS, fieldOf, nthA, negIf, nilq, nilB, eqS, eqF, eqS1, andP, kin, slcS, strOk, plusA, bndHi, leN, optG, roH, roL, initT, exOk, exAll, wrAddr, Nat.reduceAdd, Nat.reduceSub, Nat.reduceMul, Int.reduceToNat, List.append_nil, List.nil_append, List.cons_append, mapR, mapR1, keyL, keyOk, keyP, colsPut, colsDel, zcols, eqT, idxT, cat, cpy, ite_int, ite_bool, ite_seg, ite_segs, ite_nil, ite_twice, Int.toNat_natCast, app, addBs, tob]))); with_reducible refine hK _ ?_; clear hK K) | (refine run_cond rfl (fun hc => ?_) (fun hc => ?_) <;> try (simp only [*, Bool.true_eq_false, Bool.false_eq_true, Bool.not_true, Bool.not_false, Bool.true_or, Bool.or_true, Bool.false_or, Bool.or_false, Bool.false_and, Bool.and_false, bne_self_eq_false, beq_self_eq_true] at hc; done)) | refine run_ret ?_ | refine run_nil ?_)
  · rw [if_pos hc] at hS
    subst hS
    repeat' (first | refine run_seq ?_ | (refine run_region fun K hK => ?_; (try (simp (maxSteps := 10000000) only [opL, placeL, partsOf, fillS, C74r0, C74r1, C74r2, C74r3, C74r4, rwp_nil, rwp_cons, rwpK_app, aop, gpath, St.get, slotAt, sfx, eqP, segsOf, St.put, addBlk, getB, setB, delB, ld1, ldn, st1, stn, setRow, rowNeed, segAt, nsub, bin, un, eqB, isShift, sameK, arith, shiftR, getsl, selB_or, selB_and, beqb, shed, addN, Nat.beq, Seg.size, sizes, imp, needP, andN, appL, argsOf, ptrsOf, aasOf, cut, takeS, dropS, putS, partsOf, fillS, fieldOf, nthA, negIf, nilq, nilB, eqS, eqF, eqS1, andP, kin, slcS, strOk, plusA, bndHi, leN, optG, roH, roL, initT, exOk, exAll, wrAddr, Nat.reduceAdd, Nat.reduceSub, Nat.reduceMul, Int.reduceToNat, List.append_nil, List.nil_append, List.cons_append, mapR, mapR1, keyL, keyOk, keyP, colsPut, colsDel, zcols, eqT, idxT, cat, cpy, ite_int, ite_bool, ite_seg, ite_segs, ite_nil, ite_twice, Int.toNat_natCast, app, addBs, tob])); (repeat (first | (refine And.intro ?_ ?_; · (first | trivial | assumption | omega | exact ⟨by omega, by omega, by omega⟩ | exact ⟨trivial, by omega, by omega⟩ | exact ⟨fun _ _ => trivial, fun _ _ => trivial, trivial⟩ | (intros; first | trivial | assumption | omega))) | ((first | (refine call_t _ (pass_at' (con75 (knPut s k r v) ⟨kd, ro, (v : Int), ob, oo, im⟩ hm) (fun l => by simp only [opL, placeL, leArgs, leV, leV1, leSegs, leSeg, leC, and_self]) (fun g => rfl) 0 1 2 3 4 _ _ _ (by simp only [diff, notIn, Nat.beq, and_self]) rfl rfl rfl rfl rfl (alt5 (Nat.le_of_ble_eq_true rfl)) (by simp [keysLt])) ?_; rintro v H' ⟨rfl, rfl⟩) | refine call_q _ (pass_at' (con75 (knPut s k r v) ⟨kd, ro, (v : Int), ob, oo, im⟩ hm) (fun l => by simp only [opL, placeL, leArgs, leV, leV1, leSegs, leSeg, leC, and_self]) (fun g => rfl) 0 1 2 3 4 _ _ _ (by simp only [diff, notIn, Nat.beq, and_self]) rfl rfl rfl rfl rfl (alt5 (Nat.le_of_ble_eq_true rfl)) (by simp [keysLt])) ?_ | refine call_g _ (imp_of (pass_at' (con75 (knPut s k r v) ⟨kd, ro, (v : Int), ob, oo, im⟩ hm) (fun l => by simp only [opL, placeL, leArgs, leV, leV1, leSegs, leSeg, leC, and_self]) (fun g => rfl) 0 1 2 3 4 _ _ _ (by simp only [diff, notIn, Nat.beq, and_self]) rfl rfl rfl rfl rfl (alt5 (Nat.le_of_ble_eq_true rfl)) (by simp [keysLt]))) ?_); simp (maxSteps := 10000000) only [opL, placeL, partsOf, fillS, C74r0, C74r1, C74r2, C74r3, C74r4, rwp_nil, rwp_cons, rwpK_app, aop, gpath, St.get, slotAt, sfx, eqP, segsOf, St.put, addBlk, getB, setB, delB, ld1, ldn, st1, stn, setRow, rowNeed, segAt, nsub, bin, un, eqB, isShift, sameK, arith, shiftR, getsl, selB_or, selB_and, beqb, shed, addN, Nat.beq, Seg.size, sizes, imp, needP, andN, appL, argsOf, ptrsOf, aasOf, cut, takeS, dropS, putS, partsOf, fillS, fieldOf, nthA, negIf, nilq, nilB, eqS, eqF, eqS1, andP, kin, slcS, strOk, plusA, bndHi, leN, optG, roH, roL, initT, exOk, exAll, wrAddr, Nat.reduceAdd, Nat.reduceSub, Nat.reduceMul, Int.reduceToNat, List.append_nil, List.nil_append, List.cons_append, mapR, mapR1, keyL, keyOk, keyP, colsPut, colsDel, zcols, eqT, idxT, cat, cpy, ite_int, ite_bool, ite_seg, ite_segs, ite_nil, ite_twice, Int.toNat_natCast, app, addBs, tob]))); with_reducible refine hK _ ?_; clear hK K) | (refine run_cond rfl (fun hc => ?_) (fun hc => ?_) <;> try (simp only [*, Bool.true_eq_false, Bool.false_eq_true, Bool.not_true, Bool.not_false, Bool.true_or, Bool.or_true, Bool.false_or, Bool.or_false, Bool.false_and, Bool.and_false, bne_self_eq_false, beq_self_eq_true] at hc; done)) | refine run_ret ?_ | refine run_nil ?_)
    exact end_set (layS (knPut s k r v) ⟨kd, ro, (v : Int), ob, oo, im⟩) _ rfl rfl rfl rfl rfl rfl
  · rw [if_neg (by rw [hc]; exact Bool.false_ne_true)] at hS
    subst hS
    repeat' (first | refine run_seq ?_ | (refine run_region fun K hK => ?_; (try (simp (maxSteps := 10000000) only [opL, placeL, partsOf, fillS, C74r0, C74r1, C74r2, C74r3, C74r4, rwp_nil, rwp_cons, rwpK_app, aop, gpath, St.get, slotAt, sfx, eqP, segsOf, St.put, addBlk, getB, setB, delB, ld1, ldn, st1, stn, setRow, rowNeed, segAt, nsub, bin, un, eqB, isShift, sameK, arith, shiftR, getsl, selB_or, selB_and, beqb, shed, addN, Nat.beq, Seg.size, sizes, imp, needP, andN, appL, argsOf, ptrsOf, aasOf, cut, takeS, dropS, putS, partsOf, fillS, fieldOf, nthA, negIf, nilq, nilB, eqS, eqF, eqS1, andP, kin, slcS, strOk, plusA, bndHi, leN, optG, roH, roL, initT, exOk, exAll, wrAddr, Nat.reduceAdd, Nat.reduceSub, Nat.reduceMul, Int.reduceToNat, List.append_nil, List.nil_append, List.cons_append, mapR, mapR1, keyL, keyOk, keyP, colsPut, colsDel, zcols, eqT, idxT, cat, cpy, ite_int, ite_bool, ite_seg, ite_segs, ite_nil, ite_twice, Int.toNat_natCast, app, addBs, tob])); (repeat (first | (refine And.intro ?_ ?_; · (first | trivial | assumption | omega | exact ⟨by omega, by omega, by omega⟩ | exact ⟨trivial, by omega, by omega⟩ | exact ⟨fun _ _ => trivial, fun _ _ => trivial, trivial⟩ | (intros; first | trivial | assumption | omega))) | ((first | (refine call_t _ (pass_at' (con75 (knDel s k r) ⟨kd, ro, (v : Int), ob, oo, im⟩ hm) (fun l => by simp only [opL, placeL, leArgs, leV, leV1, leSegs, leSeg, leC, and_self]) (fun g => rfl) 0 1 2 3 4 _ _ _ (by simp only [diff, notIn, Nat.beq, and_self]) rfl rfl rfl rfl rfl (alt5 (Nat.le_of_ble_eq_true rfl)) (by simp [keysLt])) ?_; rintro v H' ⟨rfl, rfl⟩) | refine call_q _ (pass_at' (con75 (knDel s k r) ⟨kd, ro, (v : Int), ob, oo, im⟩ hm) (fun l => by simp only [opL, placeL, leArgs, leV, leV1, leSegs, leSeg, leC, and_self]) (fun g => rfl) 0 1 2 3 4 _ _ _ (by simp only [diff, notIn, Nat.beq, and_self]) rfl rfl rfl rfl rfl (alt5 (Nat.le_of_ble_eq_true rfl)) (by simp [keysLt])) ?_ | refine call_g _ (imp_of (pass_at' (con75 (knDel s k r) ⟨kd, ro, (v : Int), ob, oo, im⟩ hm) (fun l => by simp only [opL, placeL, leArgs, leV, leV1, leSegs, leSeg, leC, and_self]) (fun g => rfl) 0 1 2 3 4 _ _ _ (by simp only [diff, notIn, Nat.beq, and_self]) rfl rfl rfl rfl rfl (alt5 (Nat.le_of_ble_eq_true rfl)) (by simp [keysLt]))) ?_); simp (maxSteps := 10000000) only [opL, placeL, partsOf, fillS, C74r0, C74r1, C74r2, C74r3, C74r4, rwp_nil, rwp_cons, rwpK_app, aop, gpath, St.get, slotAt, sfx, eqP, segsOf, St.put, addBlk, getB, setB, delB, ld1, ldn, st1, stn, setRow, rowNeed, segAt, nsub, bin, un, eqB, isShift, sameK, arith, shiftR, getsl, selB_or, selB_and, beqb, shed, addN, Nat.beq, Seg.size, sizes, imp, needP, andN, appL, argsOf, ptrsOf, aasOf, cut, takeS, dropS, putS, partsOf, fillS, fieldOf, nthA, negIf, nilq, nilB, eqS, eqF, eqS1, andP, kin, slcS, strOk, plusA, bndHi, leN, optG, roH, roL, initT, exOk, exAll, wrAddr, Nat.reduceAdd, Nat.reduceSub, Nat.reduceMul, Int.reduceToNat, List.append_nil, List.nil_append, List.cons_append, mapR, mapR1, keyL, keyOk, keyP, colsPut, colsDel, zcols, eqT, idxT, cat, cpy, ite_int, ite_bool, ite_seg, ite_segs, ite_nil, ite_twice, Int.toNat_natCast, app, addBs, tob]))); with_reducible refine hK _ ?_; clear hK K) | (refine run_cond rfl (fun hc => ?_) (fun hc => ?_) <;> try (simp only [*, Bool.true_eq_false, Bool.false_eq_true, Bool.not_true, Bool.not_false, Bool.true_or, Bool.or_true, Bool.false_or, Bool.or_false, Bool.false_and, Bool.and_false, bne_self_eq_false, beq_self_eq_true] at hc; done)) | refine run_ret ?_ | refine run_nil ?_)
    exact end_set (layS (knDel s k r) ⟨kd, ro, (v : Int), ob, oo, im⟩) _ rfl rfl rfl rfl rfl rfl
end Go.Proofs.Ytmbnakinhnkabaa

namespace Go.Proofs.Ytmbnakinhnkabaa
open Go.AM
set_option maxRecDepth 100000
set_option linter.unusedSimpArgs false
set_option linter.unusedVariables false
structure One where
  s : PS
  v : Int
  e : Bool
  l : Bool
def constO (n : Int) : OpS := ⟨1, 0, 0, 0, 0, n⟩
def exitO (n : Int) : OpS := ⟨16, 0, 0, 0, 0, n⟩
def isC (s : PS) (v : Int) : Bool := (s.f v.toNat).kind == 1
def layO (s : PS) (o : OpS) : One := ⟨layS s o, s.m, false, true⟩
def oneP (s : PS) (o : OpS) : One :=
  if placeOk o = true then
    if placeSet o = true then ⟨layS (knSet s o (placeK o) (placeR o)) o, s.m, false, true⟩
    else if knFind s (placeK o) (placeR o) < s.kn then ⟨s, s.kv (knFind s (placeK o) (placeR o)), false, false⟩
    else ⟨knPut (layS s o) (placeK o) (placeR o) s.m, s.m, false, true⟩
  else if o.kind = 8 then
    if (isC s o.a && isC s o.b) = true then layO s (constO (reckS o.r (s.f o.a.toNat).imm (s.f o.b.toNat).imm).1) else layO s o
  else if o.kind = 15 then
    if isC s o.a = true then (if (s.f o.a.toNat).imm = 0 then ⟨s, -1, false, false⟩ else ⟨layS s (exitO o.imm), s.m, true, true⟩) else layO s o
  else layO s o
def oneH (r : One) : Heap := if r.l = true then passH' r.s else passH r.s
def retOne (r : One) : AV := .tup [.c (.int .i64 r.v), .c (.bool r.e)]
structure FitP (s : PS) (o : OpS) : Prop where
  m : s.m < 1000
  a : 1 ≤ usesS o.kind → 0 ≤ o.a ∧ o.a < s.m
  b : 2 ≤ usesS o.kind → 0 ≤ o.b ∧ o.b < s.m
theorem end_one {l : List Slot} {H : Heap} (r T : One) (hT : r = T) (hl : r.l = true) (s4 : slotAt l 4 = some ⟨4, [], .c (.int .i64 r.v)⟩) (s5 : slotAt l 5 = some ⟨5, [], .c (.bool r.e)⟩) (h0 : getB H.blks 0 = some (passB 1 2 7 4 r.s true)) (h1 : getB H.blks 1 = some (opsB r.s.b.n r.s.b.f)) (h2 : getB H.blks 2 = some (knB r.s)) (h3 : getB H.blks 7 = some (opsW r.s.m r.s.f)) (h4 : getB H.blks 4 = some (atB r.s.na r.s.a)) :
    endQ (LeS 5) [.tmp 4, .tmp 5] (fun u H' => u = retOne T ∧ H' = oneH T) .ret ⟨l, H⟩ := by
  subst hT
  refine end_of ⟨[⟨4, [], .c (.int .i64 r.v)⟩, ⟨5, [], .c (.bool r.e)⟩], passH' r.s⟩ (LeS.intro [0, 1, 2, 3, 4, 7] ids5 (by simp only [diff, notIn, Nat.beq, and_self]) rfl (by simp only [slotsLe, s4, s5, leV, leV1, leC, and_self]) ?_) ?_
  · simp only [passH', leBlks, nthO, h0, h1, h2, h3, h4]
    exact ⟨pass_le r.s 1 2 7 4 1 2 5 4 _ _ id rfl rfl rfl rfl, ops_le _ _ false, kn_le r.s, opsw_le _ _ _ (fun _ _ => rfl), at_le _ _ _ (fun _ _ => rfl), trivial⟩
  · simp only [endF, resL, resA, St.get, slotAt, Nat.beq, sfx, eqP, noTup, resV]
    exact ⟨by first | rfl | trivial, by unfold oneH; rw [if_pos hl]⟩
theorem end_one0 {l : List Slot} {H : Heap} (r T : One) (hT : r = T) (hl : r.l = false) (s4 : slotAt l 4 = some ⟨4, [], .c (.int .i64 r.v)⟩) (s5 : slotAt l 5 = some ⟨5, [], .c (.bool r.e)⟩) (h0 : getB H.blks 0 = some (passB 1 2 3 4 r.s true)) (h1 : getB H.blks 1 = some (opsB r.s.b.n r.s.b.f)) (h2 : getB H.blks 2 = some (knB r.s)) (h3 : getB H.blks 3 = some (opsW r.s.m r.s.f)) (h4 : getB H.blks 4 = some (atB r.s.na r.s.a)) :
    endQ (LeS 5) [.tmp 4, .tmp 5] (fun u H' => u = retOne T ∧ H' = oneH T) .ret ⟨l, H⟩ := by
  subst hT
  refine end_of ⟨[⟨4, [], .c (.int .i64 r.v)⟩, ⟨5, [], .c (.bool r.e)⟩], passH r.s⟩ (LeS.intro [0, 1, 2, 3, 4] ids5 (by simp only [diff, notIn, Nat.beq, and_self]) rfl (by simp only [slotsLe, s4, s5, leV, leV1, leC, and_self]) ?_) ?_
  · simp only [passH, leBlks, nthO, h0, h1, h2, h3, h4]
    exact ⟨pass_le r.s 1 2 3 4 1 2 3 4 _ _ id rfl rfl rfl rfl, ops_le _ _ false, kn_le r.s, opsw_le _ _ _ (fun _ _ => rfl), at_le _ _ _ (fun _ _ => rfl), trivial⟩
  · simp only [endF, resL, resA, St.get, slotAt, Nat.beq, sfx, eqP, noTup, resV]
    exact ⟨by first | rfl | trivial, by unfold oneH; rw [if_neg (by rw [hl]; exact Bool.false_ne_true)]⟩
theorem knSet_b (s : PS) (o : OpS) (k r : Int) : (knSet s o k r).b = s.b := by unfold knSet; split <;> rfl
theorem usesS_set {o : OpS} (h1 : placeOk o = true) (h2 : placeSet o = true) : 1 ≤ usesS o.kind := by
  unfold placeSet at h2
  simp only [Bool.or_eq_true, beq_iff_eq] at h2
  rcases h2 with (h | h) | h <;> rw [h] <;> decide
set_option maxHeartbeats 4000000 in
theorem con48_set (s : PS) (o : OpS) (hf : FitP s o) (h1 : placeOk o = true) (h2 : placeSet o = true) : Con Try.prog 48 [me, .agg (opL o)] (passH s) (fun u H' => u = retOne (oneP s o) ∧ H' = oneH (oneP s o)) := by
  have hT : (⟨layS (knSet s o (placeK o) (placeR o)) o, s.m, false, true⟩ : One) = oneP s o := by unfold oneP; rw [if_pos h1, if_pos h2]
  generalize oneP s o = T at hT ⊢
  obtain ⟨ha0, ha1⟩ := hf.a (usesS_set h1 h2)
  have hm := hf.m
  (refine con_of_run mixed (fn := Try.f48) (by kernel_rfl) (by kernel_rfl) C48_ok (rs := [.tmp 4, .tmp 5]) (by kernel_rfl) (Nat.le_of_ble_eq_true (by kernel_rfl)) ?_; unfold C48; simp only [initT, Nat.reduceAdd])
  generalize hk : placeK o = k at hT
  generalize hr : placeR o = r at hT
  simp only [me, passH, passB, passL, opsB, opsW, knB, atB]
  repeat' (first | refine run_seq ?_ | refine run_skip ?_ | (refine run_region fun K hK => ?_; (try (simp (maxSteps := 10000000) only [Bool.and_self, Bool.true_and, opL, hk, hr, h1, h2, placeL, partsOf, fillS, C48r0, C48r1, C48r2, C48r3, C48r4, C48r5, C48r6, C48r7, C48r8, C48r9, C48r10, C48r11, C48r12, C48r13, C48r14, C48r15, C48r16, C48r17, C48r18, C48r19, C48r20, C48r21, C48r22, C48r23, rwp_nil, rwp_cons, rwpK_app, aop, gpath, St.get, slotAt, sfx, eqP, segsOf, St.put, addBlk, getB, setB, delB, ld1, ldn, st1, stn, setRow, rowNeed, segAt, nsub, bin, un, eqB, isShift, sameK, arith, shiftR, getsl, selB_or, selB_and, beqb, shed, addN, Nat.beq, Seg.size, sizes, imp, needP, andN, appL, argsOf, ptrsOf, aasOf, cut, takeS, dropS, putS, partsOf, fillS, fieldOf, nthA, negIf, nilq, nilB, eqS, eqF, eqS1, andP, kin, slcS, strOk, plusA, bndHi, leN, optG, roH, roL, initT, exOk, exAll, wrAddr, Nat.reduceAdd, Nat.reduceSub, Nat.reduceMul, Int.reduceToNat, List.append_nil, List.nil_append, List.cons_append, mapR, mapR1, keyL, keyOk, keyP, colsPut, colsDel, zcols, eqT, idxT, cat, cpy, ite_int, ite_bool, ite_seg, ite_segs, ite_nil, ite_twice, Int.toNat_natCast, app, addBs, tob])); (repeat (first | (refine And.intro ?_ ?_; · (first | trivial | assumption | omega | exact ⟨by omega, by omega, by omega⟩ | exact ⟨trivial, by omega, by omega⟩ | exact ⟨fun _ _ => trivial, fun _ _ => trivial, trivial⟩ | (intros; first | trivial | assumption | omega))) | ((first | (refine call_t _ (con73 o _) ?_; rintro v H' ⟨rfl, rfl⟩) | refine call_q _ (con73 o _) ?_ | refine call_g _ (imp_of (con73 o _)) ?_ | (refine call_t _ (pass_at' (con74 s o k r o.a.toNat (Int.toNat_of_nonneg ha0).symm (by omega) hm) (fun l => by simp only [opL, placeL, leArgs, leV, leV1, leSegs, leSeg, leC, and_self]) (fun g => rfl) 0 1 2 3 4 _ _ _ (by simp only [diff, notIn, Nat.beq, and_self]) rfl rfl rfl rfl rfl (alt5 (Nat.le_of_ble_eq_true rfl)) (by simp [keysLt])) ?_; rintro v H' ⟨rfl, rfl⟩) | refine call_q _ (pass_at' (con74 s o k r o.a.toNat (Int.toNat_of_nonneg ha0).symm (by omega) hm) (fun l => by simp only [opL, placeL, leArgs, leV, leV1, leSegs, leSeg, leC, and_self]) (fun g => rfl) 0 1 2 3 4 _ _ _ (by simp only [diff, notIn, Nat.beq, and_self]) rfl rfl rfl rfl rfl (alt5 (Nat.le_of_ble_eq_true rfl)) (by simp [keysLt])) ?_ | refine call_g _ (imp_of (pass_at' (con74 s o k r o.a.toNat (Int.toNat_of_nonneg ha0).symm (by omega) hm) (fun l => by simp only [opL, placeL, leArgs, leV, leV1, leSegs, leSeg, leC, and_self]) (fun g => rfl) 0 1 2 3 4 _ _ _ (by simp only [diff, notIn, Nat.beq, and_self]) rfl rfl rfl rfl rfl (alt5 (Nat.le_of_ble_eq_true rfl)) (by simp [keysLt]))) ?_); simp (maxSteps := 10000000) only [Bool.and_self, Bool.true_and, opL, hk, hr, h1, h2, placeL, partsOf, fillS, C48r0, C48r1, C48r2, C48r3, C48r4, C48r5, C48r6, C48r7, C48r8, C48r9, C48r10, C48r11, C48r12, C48r13, C48r14, C48r15, C48r16, C48r17, C48r18, C48r19, C48r20, C48r21, C48r22, C48r23, rwp_nil, rwp_cons, rwpK_app, aop, gpath, St.get, slotAt, sfx, eqP, segsOf, St.put, addBlk, getB, setB, delB, ld1, ldn, st1, stn, setRow, rowNeed, segAt, nsub, bin, un, eqB, isShift, sameK, arith, shiftR, getsl, selB_or, selB_and, beqb, shed, addN, Nat.beq, Seg.size, sizes, imp, needP, andN, appL, argsOf, ptrsOf, aasOf, cut, takeS, dropS, putS, partsOf, fillS, fieldOf, nthA, negIf, nilq, nilB, eqS, eqF, eqS1, andP, kin, slcS, strOk, plusA, bndHi, leN, optG, roH, roL, initT, exOk, exAll, wrAddr, Nat.reduceAdd, Nat.reduceSub, Nat.reduceMul, Int.reduceToNat, List.append_nil, List.nil_append, List.cons_append, mapR, mapR1, keyL, keyOk, keyP, colsPut, colsDel, zcols, eqT, idxT, cat, cpy, ite_int, ite_bool, ite_seg, ite_segs, ite_nil, ite_twice, Int.toNat_natCast, app, addBs, tob]))); with_reducible refine hK _ ?_; clear hK K) | (refine run_cond rfl (fun hc => ?_) (fun hc => ?_) <;> try (simp only [*, Bool.true_eq_false, Bool.false_eq_true, Bool.not_true, Bool.not_false, Bool.true_or, Bool.or_true, Bool.false_or, Bool.or_false, Bool.false_and, Bool.and_false, bne_self_eq_false, beq_self_eq_true] at hc; done)) | refine run_block ?_ | refine run_ret ?_ | refine run_nil ?_ | refine blk_normal ?_ | refine blk_ret ?_ | refine blk_here ?_ | refine blk_there rfl ?_)
  exact end_one _ _ hT rfl rfl rfl rfl (by show _ = some (opsB (knSet s o k r).b.n (knSet s o k r).b.f); rw [knSet_b]; rfl) rfl rfl rfl
set_option maxHeartbeats 4000000 in
theorem con48_get (s : PS) (o : OpS) (hf : FitP s o) (h1 : placeOk o = true) (h2 : placeSet o = false) : Con Try.prog 48 [me, .agg (opL o)] (passH s) (fun u H' => u = retOne (oneP s o) ∧ H' = oneH (oneP s o)) := by
  have hT : (if knFind s (placeK o) (placeR o) < s.kn then ⟨s, s.kv (knFind s (placeK o) (placeR o)), false, false⟩
    else ⟨knPut (layS s o) (placeK o) (placeR o) s.m, s.m, false, true⟩ : One) = oneP s o := by simp only [oneP, h1, h2, if_true, Bool.false_eq_true, if_false]
  generalize oneP s o = T at hT ⊢
  have hm := hf.m
  (refine con_of_run mixed (fn := Try.f48) (by kernel_rfl) (by kernel_rfl) C48_ok (rs := [.tmp 4, .tmp 5]) (by kernel_rfl) (Nat.le_of_ble_eq_true (by kernel_rfl)) ?_; unfold C48; simp only [initT, Nat.reduceAdd])
  generalize hk : placeK o = k at hT
  generalize hr : placeR o = r at hT
  simp only [me, passH, passB, passL, opsB, opsW, knB, atB]
  repeat' (first | refine run_seq ?_ | refine run_skip ?_ | (refine run_region fun K hK => ?_; (try (simp (maxSteps := 10000000) only [Bool.and_self, Bool.true_and, opL, hk, hr, h1, h2, placeL, partsOf, fillS, C48r0, C48r1, C48r2, C48r3, C48r4, C48r5, C48r6, C48r7, C48r9, C48r10, C48r11, C48r12, C48r13, C48r14, C48r15, C48r16, C48r17, C48r18, C48r19, C48r20, C48r21, C48r22, C48r23, rwp_nil, rwp_cons, rwpK_app, aop, gpath, St.get, slotAt, sfx, eqP, segsOf, St.put, addBlk, getB, setB, delB, ld1, ldn, st1, stn, setRow, rowNeed, segAt, nsub, bin, un, eqB, isShift, sameK, arith, shiftR, getsl, selB_or, selB_and, beqb, shed, addN, Nat.beq, Seg.size, sizes, imp, needP, andN, appL, argsOf, ptrsOf, aasOf, cut, takeS, dropS, putS, partsOf, fillS, fieldOf, nthA, negIf, nilq, nilB, eqS, eqF, eqS1, andP, kin, slcS, strOk, plusA, bndHi, leN, optG, roH, roL, initT, exOk, exAll, wrAddr, Nat.reduceAdd, Nat.reduceSub, Nat.reduceMul, Int.reduceToNat, List.append_nil, List.nil_append, List.cons_append, mapR, mapR1, keyL, keyOk, keyP, colsPut, colsDel, zcols, eqT, idxT, cat, cpy, ite_int, ite_bool, ite_seg, ite_segs, ite_nil, ite_twice, Int.toNat_natCast, app, addBs, tob])); (repeat (first | (refine And.intro ?_ ?_; · (first | trivial | assumption | omega | exact ⟨by omega, by omega, by omega⟩ | exact ⟨trivial, by omega, by omega⟩ | exact ⟨fun _ _ => trivial, fun _ _ => trivial, trivial⟩ | (intros; first | trivial | assumption | omega))) | ((first | (refine call_t _ (con73 o _) ?_; rintro v H' ⟨rfl, rfl⟩) | refine call_q _ (con73 o _) ?_ | refine call_g _ (imp_of (con73 o _)) ?_); simp (maxSteps := 10000000) only [Bool.and_self, Bool.true_and, opL, hk, hr, h1, h2, placeL, partsOf, fillS, C48r0, C48r1, C48r2, C48r3, C48r4, C48r5, C48r6, C48r7, C48r9, C48r10, C48r11, C48r12, C48r13, C48r14, C48r15, C48r16, C48r17, C48r18, C48r19, C48r20, C48r21, C48r22, C48r23, rwp_nil, rwp_cons, rwpK_app, aop, gpath, St.get, slotAt, sfx, eqP, segsOf, St.put, addBlk, getB, setB, delB, ld1, ldn, st1, stn, setRow, rowNeed, segAt, nsub, bin, un, eqB, isShift, sameK, arith, shiftR, getsl, selB_or, selB_and, beqb, shed, addN, Nat.beq, Seg.size, sizes, imp, needP, andN, appL, argsOf, ptrsOf, aasOf, cut, takeS, dropS, putS, partsOf, fillS, fieldOf, nthA, negIf, nilq, nilB, eqS, eqF, eqS1, andP, kin, slcS, strOk, plusA, bndHi, leN, optG, roH, roL, initT, exOk, exAll, wrAddr, Nat.reduceAdd, Nat.reduceSub, Nat.reduceMul, Int.reduceToNat, List.append_nil, List.nil_append, List.cons_append, mapR, mapR1, keyL, keyOk, keyP, colsPut, colsDel, zcols, eqT, idxT, cat, cpy, ite_int, ite_bool, ite_seg, ite_segs, ite_nil, ite_twice, Int.toNat_natCast, app, addBs, tob]))); with_reducible refine hK _ ?_; clear hK K) | (refine run_cond rfl (fun hc => ?_) (fun hc => ?_) <;> try (simp only [*, Bool.true_eq_false, Bool.false_eq_true, Bool.not_true, Bool.not_false, Bool.true_or, Bool.or_true, Bool.false_or, Bool.or_false, Bool.false_and, Bool.and_false, bne_self_eq_false, beq_self_eq_true] at hc; done)) | refine run_block ?_ | refine run_ret ?_ | refine run_nil ?_ | refine blk_normal ?_ | refine blk_ret ?_ | refine blk_here ?_ | refine blk_there rfl ?_)
  · have hj : knFind s k r < s.kn := of_decide_eq_true hc
    rw [if_pos hj] at hT
    refine end_one0 _ _ hT rfl ?_ rfl rfl rfl rfl rfl rfl
    show some (⟨4, [], .c (.int .i64 (if knFind s k r < s.kn then s.kv (knFind s k r) else 0))⟩ : Slot) = _
    rw [if_pos hj]
  · have hj : ¬ knFind s k r < s.kn := of_decide_eq_false hc
    rw [if_neg hj] at hT
    repeat' (first | refine run_seq ?_ | refine run_skip ?_ | (refine run_region fun K hK => ?_; (try (simp (maxSteps := 10000000) only [opL, knB, layS, passB, passL, opsW, atB, placeL, partsOf, fillS, C48r0, C48r1, C48r2, C48r3, C48r4, C48r5, C48r6, C48r7, C48r8, C48r9, C48r10, C48r11, C48r12, C48r13, C48r14, C48r15, C48r16, C48r17, C48r18, C48r19, C48r20, C48r21, C48r22, C48r23, rwp_nil, rwp_cons, rwpK_app, aop, gpath, St.get, slotAt, sfx, eqP, segsOf, St.put, addBlk, getB, setB, delB, ld1, ldn, st1, stn, setRow, rowNeed, segAt, nsub, bin, un, eqB, isShift, sameK, arith, shiftR, getsl, selB_or, selB_and, beqb, shed, addN, Nat.beq, Seg.size, sizes, imp, needP, andN, appL, argsOf, ptrsOf, aasOf, cut, takeS, dropS, putS, partsOf, fillS, fieldOf, nthA, negIf, nilq, nilB, eqS, eqF, eqS1, andP, kin, slcS, strOk, plusA, bndHi, leN, optG, roH, roL, initT, exOk, exAll, wrAddr, Nat.reduceAdd, Nat.reduceSub, Nat.reduceMul, Int.reduceToNat, List.append_nil, List.nil_append, List.cons_append, mapR, mapR1, keyL, keyOk, keyP, colsPut, colsDel, zcols, eqT, idxT, cat, cpy, ite_int, ite_bool, ite_seg, ite_segs, ite_nil, ite_twice, Int.toNat_natCast, app, addBs, tob])); (repeat (first | (refine And.intro ?_ ?_; · (first | trivial | assumption | omega | exact ⟨by omega, by omega, by omega⟩ | exact ⟨trivial, by omega, by omega⟩ | exact ⟨fun _ _ => trivial, fun _ _ => trivial, trivial⟩ | (intros; first | trivial | assumption | omega))) | ((first | (refine call_t _ (pass_at' (con75 s o hm) (fun l => by simp only [opL, placeL, leArgs, leV, leV1, leSegs, leSeg, leC, and_self]) (fun g => rfl) 0 1 2 3 4 _ _ _ (by simp only [diff, notIn, Nat.beq, and_self]) rfl rfl rfl rfl rfl (alt5 (Nat.le_of_ble_eq_true rfl)) (by simp [keysLt])) ?_; rintro v H' ⟨rfl, rfl⟩) | refine call_q _ (pass_at' (con75 s o hm) (fun l => by simp only [opL, placeL, leArgs, leV, leV1, leSegs, leSeg, leC, and_self]) (fun g => rfl) 0 1 2 3 4 _ _ _ (by simp only [diff, notIn, Nat.beq, and_self]) rfl rfl rfl rfl rfl (alt5 (Nat.le_of_ble_eq_true rfl)) (by simp [keysLt])) ?_ | refine call_g _ (imp_of (pass_at' (con75 s o hm) (fun l => by simp only [opL, placeL, leArgs, leV, leV1, leSegs, leSeg, leC, and_self]) (fun g => rfl) 0 1 2 3 4 _ _ _ (by simp only [diff, notIn, Nat.beq, and_self]) rfl rfl rfl rfl rfl (alt5 (Nat.le_of_ble_eq_true rfl)) (by simp [keysLt]))) ?_); simp (maxSteps := 10000000) only [opL, knB, layS, passB, passL, opsW, atB, placeL, partsOf, fillS, C48r0, C48r1, C48r2, C48r3, C48r4, C48r5, C48r6, C48r7, C48r8, C48r9, C48r10, C48r11, C48r12, C48r13, C48r14, C48r15, C48r16, C48r17, C48r18, C48r19, C48r20, C48r21, C48r22, C48r23, rwp_nil, rwp_cons, rwpK_app, aop, gpath, St.get, slotAt, sfx, eqP, segsOf, St.put, addBlk, getB, setB, delB, ld1, ldn, st1, stn, setRow, rowNeed, segAt, nsub, bin, un, eqB, isShift, sameK, arith, shiftR, getsl, selB_or, selB_and, beqb, shed, addN, Nat.beq, Seg.size, sizes, imp, needP, andN, appL, argsOf, ptrsOf, aasOf, cut, takeS, dropS, putS, partsOf, fillS, fieldOf, nthA, negIf, nilq, nilB, eqS, eqF, eqS1, andP, kin, slcS, strOk, plusA, bndHi, leN, optG, roH, roL, initT, exOk, exAll, wrAddr, Nat.reduceAdd, Nat.reduceSub, Nat.reduceMul, Int.reduceToNat, List.append_nil, List.nil_append, List.cons_append, mapR, mapR1, keyL, keyOk, keyP, colsPut, colsDel, zcols, eqT, idxT, cat, cpy, ite_int, ite_bool, ite_seg, ite_segs, ite_nil, ite_twice, Int.toNat_natCast, app, addBs, tob]))); with_reducible refine hK _ ?_; clear hK K) | (refine run_cond rfl (fun hc => ?_) (fun hc => ?_) <;> try (simp only [*, Bool.true_eq_false, Bool.false_eq_true, Bool.not_true, Bool.not_false, Bool.true_or, Bool.or_true, Bool.false_or, Bool.or_false, Bool.false_and, Bool.and_false, bne_self_eq_false, beq_self_eq_true] at hc; done)) | refine run_block ?_ | refine run_ret ?_ | refine run_nil ?_ | refine blk_normal ?_ | refine blk_ret ?_ | refine blk_here ?_ | refine blk_there rfl ?_)
    exact end_one _ _ hT rfl rfl rfl rfl rfl rfl rfl rfl
theorem con76' (s : PS) (v : Int) (h : 0 ≤ v ∧ v < s.m) : Con Try.prog 76 [me, .c (.int .i64 v)] (passR s) (fun u H' => u = .tup [.c (.int .u64 (s.f v.toNat).imm), .c (.bool (isC s v))] ∧ H' = passR s) := by
  have := con76 s v.toNat (by omega)
  rwa [Int.toNat_of_nonneg h.1] at this
theorem place_no {o : OpS} (h : o.kind ≠ 2 ∧ o.kind ≠ 3 ∧ o.kind ≠ 4 ∧ o.kind ≠ 5 ∧ o.kind ≠ 6 ∧ o.kind ≠ 7) : placeOk o = false := by
  unfold placeOk
  simp only [Bool.or_eq_false_iff, beq_eq_false_iff_ne, ne_eq]
  exact ⟨⟨⟨⟨⟨h.1, h.2.1⟩, h.2.2.1⟩, h.2.2.2.1⟩, h.2.2.2.2.1⟩, h.2.2.2.2.2⟩
set_option maxHeartbeats 4000000 in
theorem con48_alu (s : PS) (o : OpS) (hf : FitP s o) (hk8 : o.kind = 8) : Con Try.prog 48 [me, .agg (opL o)] (passH s) (fun u H' => u = retOne (oneP s o) ∧ H' = oneH (oneP s o)) := by
  have h1 : placeOk o = false := place_no (by rw [hk8]; decide)
  have hT : (if (isC s o.a && isC s o.b) = true then layO s (constO (reckS o.r (s.f o.a.toNat).imm (s.f o.b.toNat).imm).1) else layO s o : One) = oneP s o := by simp only [oneP, h1, hk8, if_true, Bool.false_eq_true, if_false]
  generalize oneP s o = T at hT ⊢
  have hm := hf.m
  have hfa := hf.a (by rw [hk8]; decide)
  have hfb := hf.b (by rw [hk8]; decide)
  (refine con_of_run mixed (fn := Try.f48) (by kernel_rfl) (by kernel_rfl) C48_ok (rs := [.tmp 4, .tmp 5]) (by kernel_rfl) (Nat.le_of_ble_eq_true (by kernel_rfl)) ?_; unfold C48; simp only [initT, Nat.reduceAdd])
  simp only [me, passH, passB, passL, opsB, opsW, knB, atB]
  repeat' (first | refine run_seq ?_ | refine run_skip ?_ | (refine run_region fun K hK => ?_; (try (simp (maxSteps := 10000000) only [Bool.and_self, Bool.true_and, Bool.and_false, opL, h1, placeL, partsOf, fillS, C48r0, C48r1, C48r2, C48r3, C48r4, C48r5, C48r6, C48r7, C48r8, C48r9, C48r10, C48r11, C48r12, C48r13, C48r14, C48r16, C48r18, C48r19, C48r20, C48r21, C48r22, rwp_nil, rwp_cons, rwpK_app, aop, gpath, St.get, slotAt, sfx, eqP, segsOf, St.put, addBlk, getB, setB, delB, ld1, ldn, st1, stn, setRow, rowNeed, segAt, nsub, bin, un, eqB, isShift, sameK, arith, shiftR, getsl, selB_or, selB_and, beqb, shed, addN, Nat.beq, Seg.size, sizes, imp, needP, andN, appL, argsOf, ptrsOf, aasOf, cut, takeS, dropS, putS, partsOf, fillS, fieldOf, nthA, negIf, nilq, nilB, eqS, eqF, eqS1, andP, kin, slcS, strOk, plusA, bndHi, leN, optG, roH, roL, initT, exOk, exAll, wrAddr, Nat.reduceAdd, Nat.reduceSub, Nat.reduceMul, Int.reduceToNat, List.append_nil, List.nil_append, List.cons_append, mapR, mapR1, keyL, keyOk, keyP, colsPut, colsDel, zcols, eqT, idxT, cat, cpy, ite_int, ite_bool, ite_seg, ite_segs, ite_nil, ite_twice, Int.toNat_natCast, app, addBs, tob])); (repeat (first | (refine And.intro ?_ ?_; · (first | trivial | assumption | omega | exact ⟨by omega, by omega, by omega⟩ | exact ⟨trivial, by omega, by omega⟩ | exact ⟨fun _ _ => trivial, fun _ _ => trivial, trivial⟩ | (intros; first | trivial | assumption | omega))) | ((first | (refine call_t _ (con73 o _) ?_; rintro v H' ⟨rfl, rfl⟩) | refine call_q _ (con73 o _) ?_ | refine call_g _ (imp_of (con73 o _)) ?_ | (refine call_t _ (passR_at (con76' s o.a hfa) (fun l => by simp only [leArgs, leV, leV1, leC, and_self]) (fun g => rfl) 0 1 2 3 4 _ _ _ _ (by simp only [diff, notIn, Nat.beq, and_self]) rfl rfl (alt5 (Nat.le_of_ble_eq_true rfl)) (by simp [roL, keysLt])) ?_; rintro v H' ⟨rfl, rfl⟩) | refine call_q _ (passR_at (con76' s o.a hfa) (fun l => by simp only [leArgs, leV, leV1, leC, and_self]) (fun g => rfl) 0 1 2 3 4 _ _ _ _ (by simp only [diff, notIn, Nat.beq, and_self]) rfl rfl (alt5 (Nat.le_of_ble_eq_true rfl)) (by simp [roL, keysLt])) ?_ | refine call_g _ (imp_of (passR_at (con76' s o.a hfa) (fun l => by simp only [leArgs, leV, leV1, leC, and_self]) (fun g => rfl) 0 1 2 3 4 _ _ _ _ (by simp only [diff, notIn, Nat.beq, and_self]) rfl rfl (alt5 (Nat.le_of_ble_eq_true rfl)) (by simp [roL, keysLt]))) ?_ | (refine call_t _ (passR_at (con76' s o.b hfb) (fun l => by simp only [leArgs, leV, leV1, leC, and_self]) (fun g => rfl) 0 1 2 3 4 _ _ _ _ (by simp only [diff, notIn, Nat.beq, and_self]) rfl rfl (alt5 (Nat.le_of_ble_eq_true rfl)) (by simp [roL, keysLt])) ?_; rintro v H' ⟨rfl, rfl⟩) | refine call_q _ (passR_at (con76' s o.b hfb) (fun l => by simp only [leArgs, leV, leV1, leC, and_self]) (fun g => rfl) 0 1 2 3 4 _ _ _ _ (by simp only [diff, notIn, Nat.beq, and_self]) rfl rfl (alt5 (Nat.le_of_ble_eq_true rfl)) (by simp [roL, keysLt])) ?_ | refine call_g _ (imp_of (passR_at (con76' s o.b hfb) (fun l => by simp only [leArgs, leV, leV1, leC, and_self]) (fun g => rfl) 0 1 2 3 4 _ _ _ _ (by simp only [diff, notIn, Nat.beq, and_self]) rfl rfl (alt5 (Nat.le_of_ble_eq_true rfl)) (by simp [roL, keysLt]))) ?_); simp (maxSteps := 10000000) only [Bool.and_self, Bool.true_and, Bool.and_false, opL, h1, placeL, partsOf, fillS, C48r0, C48r1, C48r2, C48r3, C48r4, C48r5, C48r6, C48r7, C48r8, C48r9, C48r10, C48r11, C48r12, C48r13, C48r14, C48r16, C48r18, C48r19, C48r20, C48r21, C48r22, rwp_nil, rwp_cons, rwpK_app, aop, gpath, St.get, slotAt, sfx, eqP, segsOf, St.put, addBlk, getB, setB, delB, ld1, ldn, st1, stn, setRow, rowNeed, segAt, nsub, bin, un, eqB, isShift, sameK, arith, shiftR, getsl, selB_or, selB_and, beqb, shed, addN, Nat.beq, Seg.size, sizes, imp, needP, andN, appL, argsOf, ptrsOf, aasOf, cut, takeS, dropS, putS, partsOf, fillS, fieldOf, nthA, negIf, nilq, nilB, eqS, eqF, eqS1, andP, kin, slcS, strOk, plusA, bndHi, leN, optG, roH, roL, initT, exOk, exAll, wrAddr, Nat.reduceAdd, Nat.reduceSub, Nat.reduceMul, Int.reduceToNat, List.append_nil, List.nil_append, List.cons_append, mapR, mapR1, keyL, keyOk, keyP, colsPut, colsDel, zcols, eqT, idxT, cat, cpy, ite_int, ite_bool, ite_seg, ite_segs, ite_nil, ite_twice, Int.toNat_natCast, app, addBs, tob]))); with_reducible refine hK _ ?_; clear hK K) | (refine run_cond rfl (fun hc => ?_) (fun hc => ?_) <;> try (simp only [*, Bool.true_eq_false, Bool.false_eq_true, Bool.not_true, Bool.not_false, Bool.true_or, Bool.or_true, Bool.false_or, Bool.or_false, Bool.false_and, Bool.and_false, bne_self_eq_false, beq_self_eq_true] at hc; done)) | refine run_block ?_ | refine run_ret ?_ | refine run_nil ?_ | refine blk_normal ?_ | refine blk_ret ?_ | refine blk_here ?_ | refine blk_there rfl ?_)
  · rw [if_pos hc] at hT
    repeat' (first | refine run_seq ?_ | refine run_skip ?_ | (refine run_region fun K hK => ?_; (try (simp (maxSteps := 10000000) only [opL, partsOf, fillS, C48r0, C48r1, C48r2, C48r3, C48r4, C48r5, C48r6, C48r7, C48r8, C48r9, C48r10, C48r11, C48r12, C48r13, C48r14, C48r15, C48r16, C48r17, C48r18, C48r19, C48r20, C48r21, C48r22, C48r23, rwp_nil, rwp_cons, rwpK_app, aop, gpath, St.get, slotAt, sfx, eqP, segsOf, St.put, addBlk, getB, setB, delB, ld1, ldn, st1, stn, setRow, rowNeed, segAt, nsub, bin, un, eqB, isShift, sameK, arith, shiftR, getsl, selB_or, selB_and, beqb, shed, addN, Nat.beq, Seg.size, sizes, imp, needP, andN, appL, argsOf, ptrsOf, aasOf, cut, takeS, dropS, putS, partsOf, fillS, fieldOf, nthA, negIf, nilq, nilB, eqS, eqF, eqS1, andP, kin, slcS, strOk, plusA, bndHi, leN, optG, roH, roL, initT, exOk, exAll, wrAddr, Nat.reduceAdd, Nat.reduceSub, Nat.reduceMul, Int.reduceToNat, List.append_nil, List.nil_append, List.cons_append, mapR, mapR1, keyL, keyOk, keyP, colsPut, colsDel, zcols, eqT, idxT, cat, cpy, ite_int, ite_bool, ite_seg, ite_segs, ite_nil, ite_twice, Int.toNat_natCast, app, addBs, tob])); (repeat (first | (refine And.intro ?_ ?_; · (first | trivial | assumption | omega | exact ⟨by omega, by omega, by omega⟩ | exact ⟨trivial, by omega, by omega⟩ | exact ⟨fun _ _ => trivial, fun _ _ => trivial, trivial⟩ | (intros; first | trivial | assumption | omega))) | ((first | (refine call_t _ (con31 _ _ _ _) ?_; rintro v H' ⟨rfl, rfl⟩) | refine call_q _ (con31 _ _ _ _) ?_ | refine call_g _ (imp_of (con31 _ _ _ _)) ?_ | (refine call_t _ (pass_at' (con75 s (constO (reckS o.r (s.f o.a.toNat).imm (s.f o.b.toNat).imm).1) hm) (fun l => by simp only [opL, placeL, leArgs, leV, leV1, leSegs, leSeg, leC, and_self]) (fun g => rfl) 0 1 2 3 4 _ _ _ (by simp only [diff, notIn, Nat.beq, and_self]) rfl rfl rfl rfl rfl (alt5 (Nat.le_of_ble_eq_true rfl)) (by simp [keysLt])) ?_; rintro v H' ⟨rfl, rfl⟩) | refine call_q _ (pass_at' (con75 s (constO (reckS o.r (s.f o.a.toNat).imm (s.f o.b.toNat).imm).1) hm) (fun l => by simp only [opL, placeL, leArgs, leV, leV1, leSegs, leSeg, leC, and_self]) (fun g => rfl) 0 1 2 3 4 _ _ _ (by simp only [diff, notIn, Nat.beq, and_self]) rfl rfl rfl rfl rfl (alt5 (Nat.le_of_ble_eq_true rfl)) (by simp [keysLt])) ?_ | refine call_g _ (imp_of (pass_at' (con75 s (constO (reckS o.r (s.f o.a.toNat).imm (s.f o.b.toNat).imm).1) hm) (fun l => by simp only [opL, placeL, leArgs, leV, leV1, leSegs, leSeg, leC, and_self]) (fun g => rfl) 0 1 2 3 4 _ _ _ (by simp only [diff, notIn, Nat.beq, and_self]) rfl rfl rfl rfl rfl (alt5 (Nat.le_of_ble_eq_true rfl)) (by simp [keysLt]))) ?_); simp (maxSteps := 10000000) only [opL, partsOf, fillS, C48r0, C48r1, C48r2, C48r3, C48r4, C48r5, C48r6, C48r7, C48r8, C48r9, C48r10, C48r11, C48r12, C48r13, C48r14, C48r15, C48r16, C48r17, C48r18, C48r19, C48r20, C48r21, C48r22, C48r23, rwp_nil, rwp_cons, rwpK_app, aop, gpath, St.get, slotAt, sfx, eqP, segsOf, St.put, addBlk, getB, setB, delB, ld1, ldn, st1, stn, setRow, rowNeed, segAt, nsub, bin, un, eqB, isShift, sameK, arith, shiftR, getsl, selB_or, selB_and, beqb, shed, addN, Nat.beq, Seg.size, sizes, imp, needP, andN, appL, argsOf, ptrsOf, aasOf, cut, takeS, dropS, putS, partsOf, fillS, fieldOf, nthA, negIf, nilq, nilB, eqS, eqF, eqS1, andP, kin, slcS, strOk, plusA, bndHi, leN, optG, roH, roL, initT, exOk, exAll, wrAddr, Nat.reduceAdd, Nat.reduceSub, Nat.reduceMul, Int.reduceToNat, List.append_nil, List.nil_append, List.cons_append, mapR, mapR1, keyL, keyOk, keyP, colsPut, colsDel, zcols, eqT, idxT, cat, cpy, ite_int, ite_bool, ite_seg, ite_segs, ite_nil, ite_twice, Int.toNat_natCast, app, addBs, tob]))); with_reducible refine hK _ ?_; clear hK K) | (refine run_cond rfl (fun hc => ?_) (fun hc => ?_) <;> try (simp only [*, Bool.true_eq_false, Bool.false_eq_true, Bool.not_true, Bool.not_false, Bool.true_or, Bool.or_true, Bool.false_or, Bool.or_false, Bool.false_and, Bool.and_false, bne_self_eq_false, beq_self_eq_true] at hc; done)) | refine run_block ?_ | refine run_ret ?_ | refine run_nil ?_ | refine blk_normal ?_ | refine blk_ret ?_ | refine blk_here ?_ | refine blk_there rfl ?_)
    exact end_one _ _ hT rfl rfl rfl rfl rfl rfl rfl rfl
  · rw [if_neg (by rw [hc]; exact Bool.false_ne_true)] at hT
    repeat' (first | refine run_seq ?_ | refine run_skip ?_ | (refine run_region fun K hK => ?_; (try (simp (maxSteps := 10000000) only [opL, partsOf, fillS, C48r0, C48r1, C48r2, C48r3, C48r4, C48r5, C48r6, C48r7, C48r8, C48r9, C48r10, C48r11, C48r12, C48r13, C48r14, C48r15, C48r16, C48r17, C48r18, C48r19, C48r20, C48r21, C48r22, C48r23, rwp_nil, rwp_cons, rwpK_app, aop, gpath, St.get, slotAt, sfx, eqP, segsOf, St.put, addBlk, getB, setB, delB, ld1, ldn, st1, stn, setRow, rowNeed, segAt, nsub, bin, un, eqB, isShift, sameK, arith, shiftR, getsl, selB_or, selB_and, beqb, shed, addN, Nat.beq, Seg.size, sizes, imp, needP, andN, appL, argsOf, ptrsOf, aasOf, cut, takeS, dropS, putS, partsOf, fillS, fieldOf, nthA, negIf, nilq, nilB, eqS, eqF, eqS1, andP, kin, slcS, strOk, plusA, bndHi, leN, optG, roH, roL, initT, exOk, exAll, wrAddr, Nat.reduceAdd, Nat.reduceSub, Nat.reduceMul, Int.reduceToNat, List.append_nil, List.nil_append, List.cons_append, mapR, mapR1, keyL, keyOk, keyP, colsPut, colsDel, zcols, eqT, idxT, cat, cpy, ite_int, ite_bool, ite_seg, ite_segs, ite_nil, ite_twice, Int.toNat_natCast, app, addBs, tob])); (repeat (first | (refine And.intro ?_ ?_; · (first | trivial | assumption | omega | exact ⟨by omega, by omega, by omega⟩ | exact ⟨trivial, by omega, by omega⟩ | exact ⟨fun _ _ => trivial, fun _ _ => trivial, trivial⟩ | (intros; first | trivial | assumption | omega))) | ((first | (refine call_t _ (pass_at' (con75 s o hm) (fun l => by simp only [opL, placeL, leArgs, leV, leV1, leSegs, leSeg, leC, and_self]) (fun g => rfl) 0 1 2 3 4 _ _ _ (by simp only [diff, notIn, Nat.beq, and_self]) rfl rfl rfl rfl rfl (alt5 (Nat.le_of_ble_eq_true rfl)) (by simp [keysLt])) ?_; rintro v H' ⟨rfl, rfl⟩) | refine call_q _ (pass_at' (con75 s o hm) (fun l => by simp only [opL, placeL, leArgs, leV, leV1, leSegs, leSeg, leC, and_self]) (fun g => rfl) 0 1 2 3 4 _ _ _ (by simp only [diff, notIn, Nat.beq, and_self]) rfl rfl rfl rfl rfl (alt5 (Nat.le_of_ble_eq_true rfl)) (by simp [keysLt])) ?_ | refine call_g _ (imp_of (pass_at' (con75 s o hm) (fun l => by simp only [opL, placeL, leArgs, leV, leV1, leSegs, leSeg, leC, and_self]) (fun g => rfl) 0 1 2 3 4 _ _ _ (by simp only [diff, notIn, Nat.beq, and_self]) rfl rfl rfl rfl rfl (alt5 (Nat.le_of_ble_eq_true rfl)) (by simp [keysLt]))) ?_); simp (maxSteps := 10000000) only [opL, partsOf, fillS, C48r0, C48r1, C48r2, C48r3, C48r4, C48r5, C48r6, C48r7, C48r8, C48r9, C48r10, C48r11, C48r12, C48r13, C48r14, C48r15, C48r16, C48r17, C48r18, C48r19, C48r20, C48r21, C48r22, C48r23, rwp_nil, rwp_cons, rwpK_app, aop, gpath, St.get, slotAt, sfx, eqP, segsOf, St.put, addBlk, getB, setB, delB, ld1, ldn, st1, stn, setRow, rowNeed, segAt, nsub, bin, un, eqB, isShift, sameK, arith, shiftR, getsl, selB_or, selB_and, beqb, shed, addN, Nat.beq, Seg.size, sizes, imp, needP, andN, appL, argsOf, ptrsOf, aasOf, cut, takeS, dropS, putS, partsOf, fillS, fieldOf, nthA, negIf, nilq, nilB, eqS, eqF, eqS1, andP, kin, slcS, strOk, plusA, bndHi, leN, optG, roH, roL, initT, exOk, exAll, wrAddr, Nat.reduceAdd, Nat.reduceSub, Nat.reduceMul, Int.reduceToNat, List.append_nil, List.nil_append, List.cons_append, mapR, mapR1, keyL, keyOk, keyP, colsPut, colsDel, zcols, eqT, idxT, cat, cpy, ite_int, ite_bool, ite_seg, ite_segs, ite_nil, ite_twice, Int.toNat_natCast, app, addBs, tob]))); with_reducible refine hK _ ?_; clear hK K) | (refine run_cond rfl (fun hc => ?_) (fun hc => ?_) <;> try (simp only [*, Bool.true_eq_false, Bool.false_eq_true, Bool.not_true, Bool.not_false, Bool.true_or, Bool.or_true, Bool.false_or, Bool.or_false, Bool.false_and, Bool.and_false, bne_self_eq_false, beq_self_eq_true] at hc; done)) | refine run_block ?_ | refine run_ret ?_ | refine run_nil ?_ | refine blk_normal ?_ | refine blk_ret ?_ | refine blk_here ?_ | refine blk_there rfl ?_)
    exact end_one _ _ hT rfl rfl rfl rfl rfl rfl rfl rfl
  all_goals (exfalso; rw [hk8] at hc; exact absurd hc (by decide))
set_option maxHeartbeats 4000000 in
theorem con48_exit (s : PS) (o : OpS) (hf : FitP s o) (hk8 : o.kind = 15) : Con Try.prog 48 [me, .agg (opL o)] (passH s) (fun u H' => u = retOne (oneP s o) ∧ H' = oneH (oneP s o)) := by
  have h1 : placeOk o = false := place_no (by rw [hk8]; decide)
  have hT : (if isC s o.a = true then (if (s.f o.a.toNat).imm = 0 then ⟨s, -1, false, false⟩ else ⟨layS s (exitO o.imm), s.m, true, true⟩) else layO s o : One) = oneP s o := by simp only [oneP, h1, hk8, if_true, Bool.false_eq_true, if_false, Int.reduceEq]
  generalize oneP s o = T at hT ⊢
  have hm := hf.m
  have hfa := hf.a (by rw [hk8]; decide)
  (refine con_of_run mixed (fn := Try.f48) (by kernel_rfl) (by kernel_rfl) C48_ok (rs := [.tmp 4, .tmp 5]) (by kernel_rfl) (Nat.le_of_ble_eq_true (by kernel_rfl)) ?_; unfold C48; simp only [initT, Nat.reduceAdd])
  simp only [me, passH, passB, passL, opsB, opsW, knB, atB]
  repeat' (first | refine run_seq ?_ | refine run_skip ?_ | (refine run_region fun K hK => ?_; (try (simp (maxSteps := 10000000) only [Bool.and_self, Bool.true_and, Bool.and_false, opL, h1, placeL, partsOf, fillS, C48r0, C48r1, C48r2, C48r3, C48r4, C48r5, C48r6, C48r7, C48r8, C48r9, C48r10, C48r11, C48r13, C48r14, C48r15, C48r16, C48r17, C48r18, C48r19, C48r21, C48r22, rwp_nil, rwp_cons, rwpK_app, aop, gpath, St.get, slotAt, sfx, eqP, segsOf, St.put, addBlk, getB, setB, delB, ld1, ldn, st1, stn, setRow, rowNeed, segAt, nsub, bin, un, eqB, isShift, sameK, arith, shiftR, getsl, selB_or, selB_and, beqb, shed, addN, Nat.beq, Seg.size, sizes, imp, needP, andN, appL, argsOf, ptrsOf, aasOf, cut, takeS, dropS, putS, partsOf, fillS, fieldOf, nthA, negIf, nilq, nilB, eqS, eqF, eqS1, andP, kin, slcS, strOk, plusA, bndHi, leN, optG, roH, roL, initT, exOk, exAll, wrAddr, Nat.reduceAdd, Nat.reduceSub, Nat.reduceMul, Int.reduceToNat, List.append_nil, List.nil_append, List.cons_append, mapR, mapR1, keyL, keyOk, keyP, colsPut, colsDel, zcols, eqT, idxT, cat, cpy, ite_int, ite_bool, ite_seg, ite_segs, ite_nil, ite_twice, Int.toNat_natCast, app, addBs, tob])); (repeat (first | (refine And.intro ?_ ?_; · (first | trivial | assumption | omega | exact ⟨by omega, by omega, by omega⟩ | exact ⟨trivial, by omega, by omega⟩ | exact ⟨fun _ _ => trivial, fun _ _ => trivial, trivial⟩ | (intros; first | trivial | assumption | omega))) | ((first | (refine call_t _ (con73 o _) ?_; rintro v H' ⟨rfl, rfl⟩) | refine call_q _ (con73 o _) ?_ | refine call_g _ (imp_of (con73 o _)) ?_ | (refine call_t _ (passR_at (con76' s o.a hfa) (fun l => by simp only [leArgs, leV, leV1, leC, and_self]) (fun g => rfl) 0 1 2 3 4 _ _ _ _ (by simp only [diff, notIn, Nat.beq, and_self]) rfl rfl (alt5 (Nat.le_of_ble_eq_true rfl)) (by simp [roL, keysLt])) ?_; rintro v H' ⟨rfl, rfl⟩) | refine call_q _ (passR_at (con76' s o.a hfa) (fun l => by simp only [leArgs, leV, leV1, leC, and_self]) (fun g => rfl) 0 1 2 3 4 _ _ _ _ (by simp only [diff, notIn, Nat.beq, and_self]) rfl rfl (alt5 (Nat.le_of_ble_eq_true rfl)) (by simp [roL, keysLt])) ?_ | refine call_g _ (imp_of (passR_at (con76' s o.a hfa) (fun l => by simp only [leArgs, leV, leV1, leC, and_self]) (fun g => rfl) 0 1 2 3 4 _ _ _ _ (by simp only [diff, notIn, Nat.beq, and_self]) rfl rfl (alt5 (Nat.le_of_ble_eq_true rfl)) (by simp [roL, keysLt]))) ?_); simp (maxSteps := 10000000) only [Bool.and_self, Bool.true_and, Bool.and_false, opL, h1, placeL, partsOf, fillS, C48r0, C48r1, C48r2, C48r3, C48r4, C48r5, C48r6, C48r7, C48r8, C48r9, C48r10, C48r11, C48r13, C48r14, C48r15, C48r16, C48r17, C48r18, C48r19, C48r21, C48r22, rwp_nil, rwp_cons, rwpK_app, aop, gpath, St.get, slotAt, sfx, eqP, segsOf, St.put, addBlk, getB, setB, delB, ld1, ldn, st1, stn, setRow, rowNeed, segAt, nsub, bin, un, eqB, isShift, sameK, arith, shiftR, getsl, selB_or, selB_and, beqb, shed, addN, Nat.beq, Seg.size, sizes, imp, needP, andN, appL, argsOf, ptrsOf, aasOf, cut, takeS, dropS, putS, partsOf, fillS, fieldOf, nthA, negIf, nilq, nilB, eqS, eqF, eqS1, andP, kin, slcS, strOk, plusA, bndHi, leN, optG, roH, roL, initT, exOk, exAll, wrAddr, Nat.reduceAdd, Nat.reduceSub, Nat.reduceMul, Int.reduceToNat, List.append_nil, List.nil_append, List.cons_append, mapR, mapR1, keyL, keyOk, keyP, colsPut, colsDel, zcols, eqT, idxT, cat, cpy, ite_int, ite_bool, ite_seg, ite_segs, ite_nil, ite_twice, Int.toNat_natCast, app, addBs, tob]))); with_reducible refine hK _ ?_; clear hK K) | (refine run_cond rfl (fun hc => ?_) (fun hc => ?_) <;> try (simp only [*, Bool.true_eq_false, Bool.false_eq_true, Bool.not_true, Bool.not_false, Bool.true_or, Bool.or_true, Bool.false_or, Bool.or_false, Bool.false_and, Bool.and_false, bne_self_eq_false, beq_self_eq_true] at hc; done)) | refine run_block ?_ | refine run_ret ?_ | refine run_nil ?_ | refine blk_normal ?_ | refine blk_ret ?_ | refine blk_here ?_ | refine blk_there rfl ?_)
  · exfalso; rw [hk8] at hc; exact absurd hc (by decide)
  · rw [if_pos hc] at hT
    repeat' (first | refine run_seq ?_ | refine run_skip ?_ | (refine run_region fun K hK => ?_; (try (simp (maxSteps := 10000000) only [opL, partsOf, fillS, C48r0, C48r1, C48r2, C48r3, C48r4, C48r5, C48r6, C48r7, C48r8, C48r9, C48r10, C48r11, C48r12, C48r13, C48r14, C48r15, C48r16, C48r17, C48r18, C48r19, C48r20, C48r21, C48r23, rwp_nil, rwp_cons, rwpK_app, aop, gpath, St.get, slotAt, sfx, eqP, segsOf, St.put, addBlk, getB, setB, delB, ld1, ldn, st1, stn, setRow, rowNeed, segAt, nsub, bin, un, eqB, isShift, sameK, arith, shiftR, getsl, selB_or, selB_and, beqb, shed, addN, Nat.beq, Seg.size, sizes, imp, needP, andN, appL, argsOf, ptrsOf, aasOf, cut, takeS, dropS, putS, partsOf, fillS, fieldOf, nthA, negIf, nilq, nilB, eqS, eqF, eqS1, andP, kin, slcS, strOk, plusA, bndHi, leN, optG, roH, roL, initT, exOk, exAll, wrAddr, Nat.reduceAdd, Nat.reduceSub, Nat.reduceMul, Int.reduceToNat, List.append_nil, List.nil_append, List.cons_append, mapR, mapR1, keyL, keyOk, keyP, colsPut, colsDel, zcols, eqT, idxT, cat, cpy, ite_int, ite_bool, ite_seg, ite_segs, ite_nil, ite_twice, Int.toNat_natCast, app, addBs, tob])); (repeat (first | (refine And.intro ?_ ?_; · (first | trivial | assumption | omega | exact ⟨by omega, by omega, by omega⟩ | exact ⟨trivial, by omega, by omega⟩ | exact ⟨fun _ _ => trivial, fun _ _ => trivial, trivial⟩ | (intros; first | trivial | assumption | omega))))); with_reducible refine hK _ ?_; clear hK K) | (refine run_cond rfl (fun hc => ?_) (fun hc => ?_) <;> try (simp only [*, Bool.true_eq_false, Bool.false_eq_true, Bool.not_true, Bool.not_false, Bool.true_or, Bool.or_true, Bool.false_or, Bool.or_false, Bool.false_and, Bool.and_false, bne_self_eq_false, beq_self_eq_true] at hc; done)) | refine run_block ?_ | refine run_ret ?_ | refine run_nil ?_ | refine blk_normal ?_ | refine blk_ret ?_ | refine blk_here ?_ | refine blk_there rfl ?_)
    · rw [if_pos (by simpa using hc)] at hT
      exact end_one0 _ _ hT rfl rfl rfl rfl rfl rfl rfl rfl
    · rw [if_neg (by simpa using hc)] at hT
      repeat' (first | refine run_seq ?_ | refine run_skip ?_ | (refine run_region fun K hK => ?_; (try (simp (maxSteps := 10000000) only [opL, partsOf, fillS, C48r0, C48r1, C48r2, C48r3, C48r4, C48r5, C48r6, C48r7, C48r8, C48r9, C48r10, C48r11, C48r12, C48r13, C48r14, C48r15, C48r16, C48r17, C48r18, C48r19, C48r20, C48r21, C48r22, C48r23, rwp_nil, rwp_cons, rwpK_app, aop, gpath, St.get, slotAt, sfx, eqP, segsOf, St.put, addBlk, getB, setB, delB, ld1, ldn, st1, stn, setRow, rowNeed, segAt, nsub, bin, un, eqB, isShift, sameK, arith, shiftR, getsl, selB_or, selB_and, beqb, shed, addN, Nat.beq, Seg.size, sizes, imp, needP, andN, appL, argsOf, ptrsOf, aasOf, cut, takeS, dropS, putS, partsOf, fillS, fieldOf, nthA, negIf, nilq, nilB, eqS, eqF, eqS1, andP, kin, slcS, strOk, plusA, bndHi, leN, optG, roH, roL, initT, exOk, exAll, wrAddr, Nat.reduceAdd, Nat.reduceSub, Nat.reduceMul, Int.reduceToNat, List.append_nil, List.nil_append, List.cons_append, mapR, mapR1, keyL, keyOk, keyP, colsPut, colsDel, zcols, eqT, idxT, cat, cpy, ite_int, ite_bool, ite_seg, ite_segs, ite_nil, ite_twice, Int.toNat_natCast, app, addBs, tob])); (repeat (first | (refine And.intro ?_ ?_; · (first | trivial | assumption | omega | exact ⟨by omega, by omega, by omega⟩ | exact ⟨trivial, by omega, by omega⟩ | exact ⟨fun _ _ => trivial, fun _ _ => trivial, trivial⟩ | (intros; first | trivial | assumption | omega))) | ((first | (refine call_t _ (pass_at' (con75 s (exitO o.imm) hm) (fun l => by simp only [opL, placeL, leArgs, leV, leV1, leSegs, leSeg, leC, and_self]) (fun g => rfl) 0 1 2 3 4 _ _ _ (by simp only [diff, notIn, Nat.beq, and_self]) rfl rfl rfl rfl rfl (alt5 (Nat.le_of_ble_eq_true rfl)) (by simp [keysLt])) ?_; rintro v H' ⟨rfl, rfl⟩) | refine call_q _ (pass_at' (con75 s (exitO o.imm) hm) (fun l => by simp only [opL, placeL, leArgs, leV, leV1, leSegs, leSeg, leC, and_self]) (fun g => rfl) 0 1 2 3 4 _ _ _ (by simp only [diff, notIn, Nat.beq, and_self]) rfl rfl rfl rfl rfl (alt5 (Nat.le_of_ble_eq_true rfl)) (by simp [keysLt])) ?_ | refine call_g _ (imp_of (pass_at' (con75 s (exitO o.imm) hm) (fun l => by simp only [opL, placeL, leArgs, leV, leV1, leSegs, leSeg, leC, and_self]) (fun g => rfl) 0 1 2 3 4 _ _ _ (by simp only [diff, notIn, Nat.beq, and_self]) rfl rfl rfl rfl rfl (alt5 (Nat.le_of_ble_eq_true rfl)) (by simp [keysLt]))) ?_); simp (maxSteps := 10000000) only [opL, partsOf, fillS, C48r0, C48r1, C48r2, C48r3, C48r4, C48r5, C48r6, C48r7, C48r8, C48r9, C48r10, C48r11, C48r12, C48r13, C48r14, C48r15, C48r16, C48r17, C48r18, C48r19, C48r20, C48r21, C48r22, C48r23, rwp_nil, rwp_cons, rwpK_app, aop, gpath, St.get, slotAt, sfx, eqP, segsOf, St.put, addBlk, getB, setB, delB, ld1, ldn, st1, stn, setRow, rowNeed, segAt, nsub, bin, un, eqB, isShift, sameK, arith, shiftR, getsl, selB_or, selB_and, beqb, shed, addN, Nat.beq, Seg.size, sizes, imp, needP, andN, appL, argsOf, ptrsOf, aasOf, cut, takeS, dropS, putS, partsOf, fillS, fieldOf, nthA, negIf, nilq, nilB, eqS, eqF, eqS1, andP, kin, slcS, strOk, plusA, bndHi, leN, optG, roH, roL, initT, exOk, exAll, wrAddr, Nat.reduceAdd, Nat.reduceSub, Nat.reduceMul, Int.reduceToNat, List.append_nil, List.nil_append, List.cons_append, mapR, mapR1, keyL, keyOk, keyP, colsPut, colsDel, zcols, eqT, idxT, cat, cpy, ite_int, ite_bool, ite_seg, ite_segs, ite_nil, ite_twice, Int.toNat_natCast, app, addBs, tob]))); with_reducible refine hK _ ?_; clear hK K) | (refine run_cond rfl (fun hc => ?_) (fun hc => ?_) <;> try (simp only [*, Bool.true_eq_false, Bool.false_eq_true, Bool.not_true, Bool.not_false, Bool.true_or, Bool.or_true, Bool.false_or, Bool.or_false, Bool.false_and, Bool.and_false, bne_self_eq_false, beq_self_eq_true] at hc; done)) | refine run_block ?_ | refine run_ret ?_ | refine run_nil ?_ | refine blk_normal ?_ | refine blk_ret ?_ | refine blk_here ?_ | refine blk_there rfl ?_)
      exact end_one _ _ hT rfl rfl rfl rfl rfl rfl rfl rfl
  · rw [if_neg (by rw [hc]; exact Bool.false_ne_true)] at hT
    repeat' (first | refine run_seq ?_ | refine run_skip ?_ | (refine run_region fun K hK => ?_; (try (simp (maxSteps := 10000000) only [opL, partsOf, fillS, C48r0, C48r1, C48r2, C48r3, C48r4, C48r5, C48r6, C48r7, C48r8, C48r9, C48r10, C48r11, C48r12, C48r13, C48r14, C48r15, C48r16, C48r17, C48r18, C48r19, C48r20, C48r21, C48r22, C48r23, rwp_nil, rwp_cons, rwpK_app, aop, gpath, St.get, slotAt, sfx, eqP, segsOf, St.put, addBlk, getB, setB, delB, ld1, ldn, st1, stn, setRow, rowNeed, segAt, nsub, bin, un, eqB, isShift, sameK, arith, shiftR, getsl, selB_or, selB_and, beqb, shed, addN, Nat.beq, Seg.size, sizes, imp, needP, andN, appL, argsOf, ptrsOf, aasOf, cut, takeS, dropS, putS, partsOf, fillS, fieldOf, nthA, negIf, nilq, nilB, eqS, eqF, eqS1, andP, kin, slcS, strOk, plusA, bndHi, leN, optG, roH, roL, initT, exOk, exAll, wrAddr, Nat.reduceAdd, Nat.reduceSub, Nat.reduceMul, Int.reduceToNat, List.append_nil, List.nil_append, List.cons_append, mapR, mapR1, keyL, keyOk, keyP, colsPut, colsDel, zcols, eqT, idxT, cat, cpy, ite_int, ite_bool, ite_seg, ite_segs, ite_nil, ite_twice, Int.toNat_natCast, app, addBs, tob])); (repeat (first | (refine And.intro ?_ ?_; · (first | trivial | assumption | omega | exact ⟨by omega, by omega, by omega⟩ | exact ⟨trivial, by omega, by omega⟩ | exact ⟨fun _ _ => trivial, fun _ _ => trivial, trivial⟩ | (intros; first | trivial | assumption | omega))) | ((first | (refine call_t _ (pass_at' (con75 s o hm) (fun l => by simp only [opL, placeL, leArgs, leV, leV1, leSegs, leSeg, leC, and_self]) (fun g => rfl) 0 1 2 3 4 _ _ _ (by simp only [diff, notIn, Nat.beq, and_self]) rfl rfl rfl rfl rfl (alt5 (Nat.le_of_ble_eq_true rfl)) (by simp [keysLt])) ?_; rintro v H' ⟨rfl, rfl⟩) | refine call_q _ (pass_at' (con75 s o hm) (fun l => by simp only [opL, placeL, leArgs, leV, leV1, leSegs, leSeg, leC, and_self]) (fun g => rfl) 0 1 2 3 4 _ _ _ (by simp only [diff, notIn, Nat.beq, and_self]) rfl rfl rfl rfl rfl (alt5 (Nat.le_of_ble_eq_true rfl)) (by simp [keysLt])) ?_ | refine call_g _ (imp_of (pass_at' (con75 s o hm) (fun l => by simp only [opL, placeL, leArgs, leV, leV1, leSegs, leSeg, leC, and_self]) (fun g => rfl) 0 1 2 3 4 _ _ _ (by simp only [diff, notIn, Nat.beq, and_self]) rfl rfl rfl rfl rfl (alt5 (Nat.le_of_ble_eq_true rfl)) (by simp [keysLt]))) ?_); simp (maxSteps := 10000000) only [opL, partsOf, fillS, C48r0, C48r1, C48r2, C48r3, C48r4, C48r5, C48r6, C48r7, C48r8, C48r9, C48r10, C48r11, C48r12, C48r13, C48r14, C48r15, C48r16, C48r17, C48r18, C48r19, C48r20, C48r21, C48r22, C48r23, rwp_nil, rwp_cons, rwpK_app, aop, gpath, St.get, slotAt, sfx, eqP, segsOf, St.put, addBlk, getB, setB, delB, ld1, ldn, st1, stn, setRow, rowNeed, segAt, nsub, bin, un, eqB, isShift, sameK, arith, shiftR, getsl, selB_or, selB_and, beqb, shed, addN, Nat.beq, Seg.size, sizes, imp, needP, andN, appL, argsOf, ptrsOf, aasOf, cut, takeS, dropS, putS, partsOf, fillS, fieldOf, nthA, negIf, nilq, nilB, eqS, eqF, eqS1, andP, kin, slcS, strOk, plusA, bndHi, leN, optG, roH, roL, initT, exOk, exAll, wrAddr, Nat.reduceAdd, Nat.reduceSub, Nat.reduceMul, Int.reduceToNat, List.append_nil, List.nil_append, List.cons_append, mapR, mapR1, keyL, keyOk, keyP, colsPut, colsDel, zcols, eqT, idxT, cat, cpy, ite_int, ite_bool, ite_seg, ite_segs, ite_nil, ite_twice, Int.toNat_natCast, app, addBs, tob]))); with_reducible refine hK _ ?_; clear hK K) | (refine run_cond rfl (fun hc => ?_) (fun hc => ?_) <;> try (simp only [*, Bool.true_eq_false, Bool.false_eq_true, Bool.not_true, Bool.not_false, Bool.true_or, Bool.or_true, Bool.false_or, Bool.or_false, Bool.false_and, Bool.and_false, bne_self_eq_false, beq_self_eq_true] at hc; done)) | refine run_block ?_ | refine run_ret ?_ | refine run_nil ?_ | refine blk_normal ?_ | refine blk_ret ?_ | refine blk_here ?_ | refine blk_there rfl ?_)
    exact end_one _ _ hT rfl rfl rfl rfl rfl rfl rfl rfl
set_option maxHeartbeats 4000000 in
theorem con48_else (s : PS) (o : OpS) (hf : FitP s o) (h1 : placeOk o = false) (h8 : ¬ o.kind = 8) (h15 : ¬ o.kind = 15) : Con Try.prog 48 [me, .agg (opL o)] (passH s) (fun u H' => u = retOne (oneP s o) ∧ H' = oneH (oneP s o)) := by
  have hT : layO s o = oneP s o := by simp only [oneP, h1, h8, h15, Bool.false_eq_true, if_false]
  generalize oneP s o = T at hT ⊢
  have hm := hf.m
  (refine con_of_run mixed (fn := Try.f48) (by kernel_rfl) (by kernel_rfl) C48_ok (rs := [.tmp 4, .tmp 5]) (by kernel_rfl) (Nat.le_of_ble_eq_true (by kernel_rfl)) ?_; unfold C48; simp only [initT, Nat.reduceAdd])
  simp only [me, passH, passB, passL, opsB, opsW, knB, atB]
  repeat' (first | refine run_seq ?_ | refine run_skip ?_ | (refine run_region fun K hK => ?_; (try (simp (maxSteps := 10000000) only [Bool.and_self, Bool.true_and, Bool.and_false, opL, h1, placeL, partsOf, fillS, C48r0, C48r1, C48r2, C48r3, C48r4, C48r5, C48r6, C48r7, C48r8, C48r9, C48r10, C48r11, C48r13, C48r14, C48r15, C48r16, C48r17, C48r19, C48r20, C48r21, C48r22, rwp_nil, rwp_cons, rwpK_app, aop, gpath, St.get, slotAt, sfx, eqP, segsOf, St.put, addBlk, getB, setB, delB, ld1, ldn, st1, stn, setRow, rowNeed, segAt, nsub, bin, un, eqB, isShift, sameK, arith, shiftR, getsl, selB_or, selB_and, beqb, shed, addN, Nat.beq, Seg.size, sizes, imp, needP, andN, appL, argsOf, ptrsOf, aasOf, cut, takeS, dropS, putS, partsOf, fillS, fieldOf, nthA, negIf, nilq, nilB, eqS, eqF, eqS1, andP, kin, slcS, strOk, plusA, bndHi, leN, optG, roH, roL, initT, exOk, exAll, wrAddr, Nat.reduceAdd, Nat.reduceSub, Nat.reduceMul, Int.reduceToNat, List.append_nil, List.nil_append, List.cons_append, mapR, mapR1, keyL, keyOk, keyP, colsPut, colsDel, zcols, eqT, idxT, cat, cpy, ite_int, ite_bool, ite_seg, ite_segs, ite_nil, ite_twice, Int.toNat_natCast, app, addBs, tob])); (repeat (first | (refine And.intro ?_ ?_; · (first | trivial | assumption | omega | exact ⟨by omega, by omega, by omega⟩ | exact ⟨trivial, by omega, by omega⟩ | exact ⟨fun _ _ => trivial, fun _ _ => trivial, trivial⟩ | (intros; first | trivial | assumption | omega))) | ((first | (refine call_t _ (con73 o _) ?_; rintro v H' ⟨rfl, rfl⟩) | refine call_q _ (con73 o _) ?_ | refine call_g _ (imp_of (con73 o _)) ?_); simp (maxSteps := 10000000) only [Bool.and_self, Bool.true_and, Bool.and_false, opL, h1, placeL, partsOf, fillS, C48r0, C48r1, C48r2, C48r3, C48r4, C48r5, C48r6, C48r7, C48r8, C48r9, C48r10, C48r11, C48r13, C48r14, C48r15, C48r16, C48r17, C48r19, C48r20, C48r21, C48r22, rwp_nil, rwp_cons, rwpK_app, aop, gpath, St.get, slotAt, sfx, eqP, segsOf, St.put, addBlk, getB, setB, delB, ld1, ldn, st1, stn, setRow, rowNeed, segAt, nsub, bin, un, eqB, isShift, sameK, arith, shiftR, getsl, selB_or, selB_and, beqb, shed, addN, Nat.beq, Seg.size, sizes, imp, needP, andN, appL, argsOf, ptrsOf, aasOf, cut, takeS, dropS, putS, partsOf, fillS, fieldOf, nthA, negIf, nilq, nilB, eqS, eqF, eqS1, andP, kin, slcS, strOk, plusA, bndHi, leN, optG, roH, roL, initT, exOk, exAll, wrAddr, Nat.reduceAdd, Nat.reduceSub, Nat.reduceMul, Int.reduceToNat, List.append_nil, List.nil_append, List.cons_append, mapR, mapR1, keyL, keyOk, keyP, colsPut, colsDel, zcols, eqT, idxT, cat, cpy, ite_int, ite_bool, ite_seg, ite_segs, ite_nil, ite_twice, Int.toNat_natCast, app, addBs, tob]))); with_reducible refine hK _ ?_; clear hK K) | (refine run_cond rfl (fun hc => ?_) (fun hc => ?_) <;> try (simp only [*, Bool.true_eq_false, Bool.false_eq_true, Bool.not_true, Bool.not_false, Bool.true_or, Bool.or_true, Bool.false_or, Bool.or_false, Bool.false_and, Bool.and_false, bne_self_eq_false, beq_self_eq_true] at hc; done)) | refine run_block ?_ | refine run_ret ?_ | refine run_nil ?_ | refine blk_normal ?_ | refine blk_ret ?_ | refine blk_here ?_ | refine blk_there rfl ?_)
  · exfalso; exact h8 (by simpa using hc)
  · exfalso; exact h15 (by simpa using hc)
  · repeat' (first | refine run_seq ?_ | refine run_skip ?_ | (refine run_region fun K hK => ?_; (try (simp (maxSteps := 10000000) only [opL, partsOf, fillS, C48r0, C48r1, C48r2, C48r3, C48r4, C48r5, C48r6, C48r7, C48r8, C48r9, C48r10, C48r11, C48r12, C48r13, C48r14, C48r15, C48r16, C48r17, C48r18, C48r19, C48r20, C48r21, C48r22, C48r23, rwp_nil, rwp_cons, rwpK_app, aop, gpath, St.get, slotAt, sfx, eqP, segsOf, St.put, addBlk, getB, setB, delB, ld1, ldn, st1, stn, setRow, rowNeed, segAt, nsub, bin, un, eqB, isShift, sameK, arith, shiftR, getsl, selB_or, selB_and, beqb, shed, addN, Nat.beq, Seg.size, sizes, imp, needP, andN, appL, argsOf, ptrsOf, aasOf, cut, takeS, dropS, putS, partsOf, fillS, fieldOf, nthA, negIf, nilq, nilB, eqS, eqF, eqS1, andP, kin, slcS, strOk, plusA, bndHi, leN, optG, roH, roL, initT, exOk, exAll, wrAddr, Nat.reduceAdd, Nat.reduceSub, Nat.reduceMul, Int.reduceToNat, List.append_nil, List.nil_append, List.cons_append, mapR, mapR1, keyL, keyOk, keyP, colsPut, colsDel, zcols, eqT, idxT, cat, cpy, ite_int, ite_bool, ite_seg, ite_segs, ite_nil, ite_twice, Int.toNat_natCast, app, addBs, tob])); (repeat (first | (refine And.intro ?_ ?_; · (first | trivial | assumption | omega | exact ⟨by omega, by omega, by omega⟩ | exact ⟨trivial, by omega, by omega⟩ | exact ⟨fun _ _ => trivial, fun _ _ => trivial, trivial⟩ | (intros; first | trivial | assumption | omega))) | ((first | (refine call_t _ (pass_at' (con75 s o hm) (fun l => by simp only [opL, placeL, leArgs, leV, leV1, leSegs, leSeg, leC, and_self]) (fun g => rfl) 0 1 2 3 4 _ _ _ (by simp only [diff, notIn, Nat.beq, and_self]) rfl rfl rfl rfl rfl (alt5 (Nat.le_of_ble_eq_true rfl)) (by simp [keysLt])) ?_; rintro v H' ⟨rfl, rfl⟩) | refine call_q _ (pass_at' (con75 s o hm) (fun l => by simp only [opL, placeL, leArgs, leV, leV1, leSegs, leSeg, leC, and_self]) (fun g => rfl) 0 1 2 3 4 _ _ _ (by simp only [diff, notIn, Nat.beq, and_self]) rfl rfl rfl rfl rfl (alt5 (Nat.le_of_ble_eq_true rfl)) (by simp [keysLt])) ?_ | refine call_g _ (imp_of (pass_at' (con75 s o hm) (fun l => by simp only [opL, placeL, leArgs, leV, leV1, leSegs, leSeg, leC, and_self]) (fun g => rfl) 0 1 2 3 4 _ _ _ (by simp only [diff, notIn, Nat.beq, and_self]) rfl rfl rfl rfl rfl (alt5 (Nat.le_of_ble_eq_true rfl)) (by simp [keysLt]))) ?_); simp (maxSteps := 10000000) only [opL, partsOf, fillS, C48r0, C48r1, C48r2, C48r3, C48r4, C48r5, C48r6, C48r7, C48r8, C48r9, C48r10, C48r11, C48r12, C48r13, C48r14, C48r15, C48r16, C48r17, C48r18, C48r19, C48r20, C48r21, C48r22, C48r23, rwp_nil, rwp_cons, rwpK_app, aop, gpath, St.get, slotAt, sfx, eqP, segsOf, St.put, addBlk, getB, setB, delB, ld1, ldn, st1, stn, setRow, rowNeed, segAt, nsub, bin, un, eqB, isShift, sameK, arith, shiftR, getsl, selB_or, selB_and, beqb, shed, addN, Nat.beq, Seg.size, sizes, imp, needP, andN, appL, argsOf, ptrsOf, aasOf, cut, takeS, dropS, putS, partsOf, fillS, fieldOf, nthA, negIf, nilq, nilB, eqS, eqF, eqS1, andP, kin, slcS, strOk, plusA, bndHi, leN, optG, roH, roL, initT, exOk, exAll, wrAddr, Nat.reduceAdd, Nat.reduceSub, Nat.reduceMul, Int.reduceToNat, List.append_nil, List.nil_append, List.cons_append, mapR, mapR1, keyL, keyOk, keyP, colsPut, colsDel, zcols, eqT, idxT, cat, cpy, ite_int, ite_bool, ite_seg, ite_segs, ite_nil, ite_twice, Int.toNat_natCast, app, addBs, tob]))); with_reducible refine hK _ ?_; clear hK K) | (refine run_cond rfl (fun hc => ?_) (fun hc => ?_) <;> try (simp only [*, Bool.true_eq_false, Bool.false_eq_true, Bool.not_true, Bool.not_false, Bool.true_or, Bool.or_true, Bool.false_or, Bool.or_false, Bool.false_and, Bool.and_false, bne_self_eq_false, beq_self_eq_true] at hc; done)) | refine run_block ?_ | refine run_ret ?_ | refine run_nil ?_ | refine blk_normal ?_ | refine blk_ret ?_ | refine blk_here ?_ | refine blk_there rfl ?_)
    exact end_one _ _ hT rfl rfl rfl rfl rfl rfl rfl rfl
theorem con48 (s : PS) (o : OpS) (hf : FitP s o) : Con Try.prog 48 [me, .agg (opL o)] (passH s) (fun u H' => u = retOne (oneP s o) ∧ H' = oneH (oneP s o)) := by
  cases h1 : placeOk o with
  | true =>
    cases h2 : placeSet o with
    | true => exact con48_set s o hf h1 h2
    | false => exact con48_get s o hf h1 h2
  | false =>
    by_cases h8 : o.kind = 8
    · exact con48_alu s o hf h8
    by_cases h15 : o.kind = 15
    · exact con48_exit s o hf h15
    exact con48_else s o hf h1 h8 h15
end Go.Proofs.Ytmbnakinhnkabaa

namespace Go.Proofs.Ytmbnakinhnkabaa
open Go.AM
set_option maxRecDepth 100000
set_option linter.unusedSimpArgs false
set_option linter.unusedVariables false
def reO (s : PS) (o : OpS) : OpS := { o with a := if 0 < usesS o.kind then s.a o.a.toNat else o.a, b := if 1 < usesS o.kind then s.a o.b.toNat else o.b }
def atPush (s : PS) (v : Int) : PS := { s with na := s.na + 1, a := fun i => if i < s.na then s.a i else v }
def nextP (s : PS) : One := oneP s (reO s (s.b.f s.na))
def afterP (s : PS) : PS := atPush (nextP s).s (nextP s).v
def stepN : Nat → PS → PS
  | 0, s => s
  | t + 1, s => if s.na < s.b.n then (if (nextP s).e = true then afterP s else stepN t (afterP s)) else s
def ps0 (b : BlkS) : PS := ⟨b, 0, fun _ => constO 0, 0, fun _ => 0, 0, fun _ => 0, fun _ => 0, fun _ => 0⟩
def stepS (b : BlkS) : PS := stepN b.n (ps0 b)
def foldB (b : BlkS) : BlkS := { b with n := (stepS b).m, f := (stepS b).f }
structure PsOk (s : PS) : Prop where
  r : rightS s.b = true
  na : s.na ≤ s.b.n
  m : s.m ≤ s.na
  at_ : ∀ j, j < s.na → defS (s.b.f j).kind = true → 0 ≤ s.a j ∧ s.a j < s.m
  kn : ∀ j, j < s.kn → 0 ≤ s.kv j ∧ s.kv j < s.m
theorem ps0_ok {b : BlkS} (hr : rightS b = true) : PsOk (ps0 b) := ⟨hr, Nat.zero_le _, Nat.le_refl _, fun j h => absurd h (Nat.not_lt_zero j), fun j h => absurd h (Nat.not_lt_zero j)⟩
theorem reO_kind (s : PS) (o : OpS) : (reO s o).kind = o.kind := rfl
theorem PsOk.fit {s : PS} (h : PsOk s) (hlt : s.na < s.b.n) : FitP s (reO s (s.b.f s.na)) := by
  have hn := right_n h.r
  have hm := h.m
  refine ⟨by omega, fun hu => ?_, fun hu => ?_⟩
  · rw [reO_kind] at hu
    obtain ⟨h1, h2, h3⟩ := right_use h.r hlt (i := 0) hu
    have e : useF (s.b.f s.na) 0 = (s.b.f s.na).a := rfl
    rw [e] at h1 h2 h3
    have := h.at_ (s.b.f s.na).a.toNat (by omega) h3
    simp only [reO, show (0 : Nat) < usesS (s.b.f s.na).kind from hu, if_true]
    exact this
  · rw [reO_kind] at hu
    obtain ⟨h1, h2, h3⟩ := right_use h.r hlt (i := 1) hu
    have e : useF (s.b.f s.na) 1 = (s.b.f s.na).b := rfl
    rw [e] at h1 h2 h3
    have := h.at_ (s.b.f s.na).b.toNat (by omega) h3
    simp only [reO, show (1 : Nat) < usesS (s.b.f s.na).kind from hu, if_true]
    exact this
theorem findI_ok {s : PS} {k r : Int} : knFind s k r ≤ s.kn := findI_le _ _
theorem put_kn {s : PS} {k r v : Int} {M : Nat} (h : ∀ j, j < s.kn → 0 ≤ s.kv j ∧ s.kv j < M) (hv : 0 ≤ v ∧ v < M) : ∀ j, j < (knPut s k r v).kn → 0 ≤ (knPut s k r v).kv j ∧ (knPut s k r v).kv j < M := by
  intro j hj
  have hle := findI_ok (s := s) (k := k) (r := r)
  simp only [knPut] at hj ⊢
  split
  · exact hv
  · rename_i hne
    exact h j (by omega)
theorem del_kn {s : PS} {k r : Int} {M : Nat} (h : ∀ j, j < s.kn → 0 ≤ s.kv j ∧ s.kv j < M) : ∀ j, j < (knDel s k r).kn → 0 ≤ (knDel s k r).kv j ∧ (knDel s k r).kv j < M := by
  intro j hj
  have hle := findI_ok (s := s) (k := k) (r := r)
  simp only [knDel] at hj ⊢
  split
  · exact h j (by omega)
  · rename_i hne
    rw [if_pos (by split at hj <;> omega)] at hj
    exact h (j + 1) (by omega)
theorem set_kn {s : PS} {o : OpS} {k r : Int} {M : Nat} (h : ∀ j, j < s.kn → 0 ≤ s.kv j ∧ s.kv j < M) (hv : 0 ≤ o.a ∧ o.a < M) : ∀ j, j < (knSet s o k r).kn → 0 ≤ (knSet s o k r).kv j ∧ (knSet s o k r).kv j < M := by
  unfold knSet
  split
  · exact put_kn h hv
  · exact del_kn h
theorem knSet_at (s : PS) (o : OpS) (k r : Int) : (knSet s o k r).na = s.na ∧ (knSet s o k r).a = s.a ∧ (knSet s o k r).f = s.f := by unfold knSet; split <;> exact ⟨rfl, rfl, rfl⟩
structure OneOk (s : PS) (o : OpS) (r : One) : Prop where
  b : r.s.b = s.b
  na : r.s.na = s.na
  a : r.s.a = s.a
  m : r.s.m = if r.l = true then s.m + 1 else s.m
  f : ∀ i, i < s.m → r.s.f i = s.f i
  kn : ∀ j, j < r.s.kn → 0 ≤ r.s.kv j ∧ r.s.kv j < r.s.m
  v : o.kind ≠ 15 → 0 ≤ r.v ∧ r.v < r.s.m
theorem lay_ok {s : PS} {o x : OpS} (h : ∀ j, j < s.kn → 0 ≤ s.kv j ∧ s.kv j < s.m) : OneOk s o (layO s x) := by
  refine ⟨rfl, rfl, rfl, rfl, fun i hi => if_pos hi, fun j hj => ?_, fun _ => ?_⟩
  · have := h j hj
    show 0 ≤ s.kv j ∧ s.kv j < ((s.m + 1 : Nat) : Int)
    omega
  · show (0 : Int) ≤ (s.m : Int) ∧ (s.m : Int) < ((s.m + 1 : Nat) : Int)
    omega
theorem one_ok {s : PS} {o : OpS} (h : ∀ j, j < s.kn → 0 ≤ s.kv j ∧ s.kv j < s.m) (hf : FitP s o) : OneOk s o (oneP s o) := by
  unfold oneP
  split
  · rename_i h1
    split
    · rename_i h2
      obtain ⟨g1, g2, g3⟩ := knSet_at s o (placeK o) (placeR o)
      have hb := knSet_b s o (placeK o) (placeR o)
      have hm := knSet_m s o (placeK o) (placeR o)
      have ha := hf.a (usesS_set h1 h2)
      refine ⟨hb, g1, g2, ?_, fun i hi => ?_, fun j hj => ?_, fun _ => ?_⟩
      · show (knSet s o (placeK o) (placeR o)).m + 1 = _
        rw [hm]; rfl
      · show (if i < (knSet s o (placeK o) (placeR o)).m then (knSet s o (placeK o) (placeR o)).f i else o) = _
        rw [hm, if_pos hi, g3]
      · have := set_kn (o := o) (k := placeK o) (r := placeR o) h ha j hj
        show 0 ≤ (knSet s o (placeK o) (placeR o)).kv j ∧ (knSet s o (placeK o) (placeR o)).kv j < (((knSet s o (placeK o) (placeR o)).m + 1 : Nat) : Int)
        rw [hm]
        omega
      · show (0 : Int) ≤ (s.m : Int) ∧ (s.m : Int) < (((knSet s o (placeK o) (placeR o)).m + 1 : Nat) : Int)
        rw [hm]
        omega
    · split
      · rename_i hj
        exact ⟨rfl, rfl, rfl, rfl, fun _ _ => rfl, h, fun _ => h _ hj⟩
      · refine ⟨rfl, rfl, rfl, rfl, fun i hi => if_pos hi, put_kn (s := layS s o) (M := s.m + 1) (fun j hj => ?_) ?_, fun _ => ?_⟩
        · have := h j hj
          show 0 ≤ s.kv j ∧ s.kv j < ((s.m + 1 : Nat) : Int)
          omega
        · omega
        · show (0 : Int) ≤ (s.m : Int) ∧ (s.m : Int) < ((s.m + 1 : Nat) : Int)
          omega
  · split
    · split <;> exact lay_ok h
    · split
      · rename_i h15
        split
        · split
          · exact ⟨rfl, rfl, rfl, rfl, fun _ _ => rfl, h, fun h' => absurd h15 h'⟩
          · have := lay_ok (o := o) (x := exitO o.imm) h
            exact ⟨this.b, this.na, this.a, this.m, this.f, this.kn, this.v⟩
        · exact lay_ok h
      · exact lay_ok h
theorem nextP_ok {s : PS} (h : PsOk s) (hlt : s.na < s.b.n) : OneOk s (reO s (s.b.f s.na)) (nextP s) := one_ok h.kn (h.fit hlt)
theorem after_ok {s : PS} (h : PsOk s) (hlt : s.na < s.b.n) : PsOk (afterP s) := by
  have ho := nextP_ok h hlt
  have hm := ho.m
  have hmm : s.m ≤ (nextP s).s.m ∧ (nextP s).s.m ≤ s.m + 1 := by rw [hm]; split <;> omega
  have h1 := h.m
  refine ⟨?_, ?_, ?_, fun j hj hd => ?_, ho.kn⟩
  · show rightS (nextP s).s.b = true
    rw [ho.b]; exact h.r
  · show (nextP s).s.na + 1 ≤ (nextP s).s.b.n
    rw [ho.b, ho.na]; omega
  · show (nextP s).s.m ≤ (nextP s).s.na + 1
    rw [ho.na]; omega
  · have hj : j < (nextP s).s.na + 1 := hj
    have hd : defS ((nextP s).s.b.f j).kind = true := hd
    show 0 ≤ (if j < (nextP s).s.na then (nextP s).s.a j else (nextP s).v) ∧ (if j < (nextP s).s.na then (nextP s).s.a j else (nextP s).v) < ((nextP s).s.m : Int)
    rw [ho.b] at hd
    rw [ho.na] at hj ⊢
    split
    · rename_i hlt'
      have := h.at_ j hlt' hd
      rw [ho.a]
      omega
    · have e : j = s.na := by omega
      subst e
      refine ho.v fun h15 => ?_
      rw [reO_kind] at h15
      rw [h15] at hd
      exact absurd hd (by decide)
theorem after_b {s : PS} (h : PsOk s) (hlt : s.na < s.b.n) : (afterP s).b = s.b := (nextP_ok h hlt).b
theorem after_na {s : PS} (h : PsOk s) (hlt : s.na < s.b.n) : (afterP s).na = s.na + 1 := by
  show (nextP s).s.na + 1 = _
  rw [(nextP_ok h hlt).na]
theorem stepN_ok : ∀ (t : Nat) {s : PS}, PsOk s → PsOk (stepN t s) ∧ (stepN t s).b = s.b
  | 0, s, h => ⟨h, rfl⟩
  | t + 1, s, h => by
    simp only [stepN]
    split
    · rename_i hlt
      have h1 := after_ok h hlt
      have h2 := after_b h hlt
      split
      · exact ⟨h1, h2⟩
      · obtain ⟨g1, g2⟩ := stepN_ok t h1
        exact ⟨g1, g2.trans h2⟩
    · exact ⟨h, rfl⟩
def eqO (a b : OpS) : Bool := a.kind == b.kind && (a.r == b.r && (a.a == b.a && (a.b == b.b && (a.order == b.order && (a.imm == b.imm && true)))))
def eqN (f g : Nat → OpS) (n : Nat) : Nat → Bool
  | 0 => true
  | t + 1 => eqO (f (n - (t + 1))) (g (n - (t + 1))) && eqN f g n t
def eqOps (n m : Nat) (f g : Nat → OpS) : Bool := n == m && eqN f g n n
theorem eqO_eq {a b : OpS} : eqO a b = true ↔ a = b := by
  cases a; cases b
  simp only [eqO, Bool.and_eq_true, beq_iff_eq, and_true, OpS.mk.injEq]
theorem eqN_iff {f g : Nat → OpS} {n : Nat} : ∀ {t : Nat}, t ≤ n → (eqN f g n t = true ↔ ∀ i, n - t ≤ i → i < n → f i = g i)
  | 0, _ => ⟨fun _ i h1 h2 => by omega, fun _ => rfl⟩
  | t + 1, h => by
    simp only [eqN, Bool.and_eq_true, eqO_eq, eqN_iff (f := f) (g := g) (show t ≤ n by omega)]
    constructor
    · rintro ⟨h1, h2⟩ i h3 h4
      by_cases e : i = n - (t + 1)
      · rw [e]; exact h1
      · exact h2 i (by omega) h4
    · intro h1
      exact ⟨h1 _ (Nat.le_refl _) (by omega), fun i h3 h4 => h1 i (by omega) h4⟩
theorem eqOps_iff {n m : Nat} {f g : Nat → OpS} : eqOps n m f g = true ↔ n = m ∧ ∀ i, i < n → f i = g i := by
  unfold eqOps
  simp only [Bool.and_eq_true, beq_iff_eq, eqN_iff (f := f) (g := g) (Nat.le_refl n), Nat.sub_self, Nat.zero_le, true_implies]
def eqSt (n : Nat) (f g : Nat → OpS) (j : Nat) : St := ⟨[⟨13, [], .c (.int .i64 j)⟩, ⟨12, [], .c (.int .i64 n)⟩, ⟨1, [], .c (.slice ⟨1, 0, 0, 0⟩ false n)⟩, ⟨0, [], .c (.slice ⟨0, 0, 0, 0⟩ false n)⟩], ⟨2, [(1, opsB n g), (0, opsB n f)]⟩⟩
theorem end_eq {l : List Slot} {H : Heap} {n m : Nat} {f g : Nat → OpS} (c t : Bool) (hs : slotAt l 4 = some ⟨4, [], .c (.bool c)⟩) (h0 : getB H.blks 0 = some (opsB n f)) (h1 : getB H.blks 1 = some (opsB m g)) (hc : c = t) : endQ (LeS 2) [.tmp 4] (fun v H' => v = .c (.bool t) ∧ H' = ⟨2, [(1, opsB m g), (0, opsB n f)]⟩) .ret ⟨l, H⟩ := by
  subst hc
  refine end_of ⟨[⟨4, [], .c (.bool c)⟩], ⟨2, [(1, opsB m g), (0, opsB n f)]⟩⟩ (LeS.intro [0, 1] (fun i h => idt2 i h) (by simp only [diff, notIn, Nat.beq, and_self]) rfl (by simp only [slotsLe, hs, leV, leV1, leC, and_self]) ?_) ?_
  · simp only [leBlks, nthO, h0, h1]
    exact ⟨ops_le m g false, ops_le n f false, trivial⟩
  · simp only [endF, resL, resA, St.get, slotAt, Nat.beq, sfx, eqP, noTup, resV]
    exact ⟨by first | rfl | trivial, by first | rfl | trivial⟩
theorem con49 (n m : Nat) (f g : Nat → OpS) (hn : n ≤ 1000) : Con Try.prog 49 [.c (.slice ⟨0, 0, 0, 0⟩ false n), .c (.slice ⟨1, 0, 0, 0⟩ false m)] ⟨2, [(1, opsB m g), (0, opsB n f)]⟩ (fun v H' => v = .c (.bool (eqOps n m f g)) ∧ H' = ⟨2, [(1, opsB m g), (0, opsB n f)]⟩) := by
  (refine con_of_run mixed (fn := Try.f49) (by kernel_rfl) (by kernel_rfl) C49_ok (rs := [.tmp 4]) (by kernel_rfl) (Nat.le_of_ble_eq_true (by kernel_rfl)) ?_; unfold C49; simp only [initT, Nat.reduceAdd])
  repeat' (first | refine run_seq ?_ | refine run_skip ?_ | (refine run_region fun K hK => ?_; (try (simp (maxSteps := 10000000) only [opL, opsB, C49r0, C49r1, C49r2, C49r4, C49r5, C49r6, C49r7, C49r8, C49r9, rwp_nil, rwp_cons, rwpK_app, aop, gpath, St.get, slotAt, sfx, eqP, segsOf, St.put, addBlk, getB, setB, delB, ld1, ldn, st1, stn, setRow, rowNeed, segAt, nsub, bin, un, eqB, isShift, sameK, arith, shiftR, getsl, selB_or, selB_and, beqb, shed, addN, Nat.beq, Seg.size, sizes, imp, needP, andN, appL, argsOf, ptrsOf, aasOf, cut, takeS, dropS, putS, partsOf, fillS, fieldOf, nthA, negIf, nilq, nilB, eqS, eqF, eqS1, andP, kin, slcS, strOk, plusA, bndHi, leN, optG, roH, roL, initT, exOk, exAll, wrAddr, Nat.reduceAdd, Nat.reduceSub, Nat.reduceMul, Int.reduceToNat, List.append_nil, List.nil_append, List.cons_append, mapR, mapR1, keyL, keyOk, keyP, colsPut, colsDel, zcols, eqT, idxT, cat, cpy, ite_int, ite_bool, ite_seg, ite_segs, ite_nil, ite_twice, Int.toNat_natCast, app, addBs, tob])); (repeat (first | (refine And.intro ?_ ?_; · (first | trivial | assumption | omega | exact ⟨by omega, by omega⟩ | (intros; first | trivial | assumption | omega))))); with_reducible refine hK _ ?_; clear hK K) | (refine run_cond rfl (fun hc => ?_) (fun hc => ?_) <;> try (simp only [*, Bool.true_eq_false, Bool.false_eq_true, Bool.not_true, Bool.not_false, Bool.true_or, Bool.or_true, Bool.false_or, Bool.or_false, Bool.false_and, Bool.and_false, bne_self_eq_false, beq_self_eq_true] at hc; done)) | refine run_block ?_ | refine run_ret ?_ | refine run_nil ?_ | refine run_exit ?_ | refine blk_normal ?_ | refine blk_ret ?_ | refine blk_here ?_ | refine blk_there rfl ?_ | refine loop_exit ?_ | refine loop_ret ?_ | refine un_exit ?_ | refine un_ret ?_ | refine unE_exit ?_ | refine unE_ret ?_ | refine un_normal ?_)
  · refine end_eq false _ rfl rfl rfl ?_
    have : ¬ n = m := by simp only [bne_iff_ne, ne_eq, Int.natCast_inj] at hc; exact hc
    simp [eqOps, this]
  have e : n = m := by simp only [bne_eq_false_iff_eq, Int.natCast_inj] at hc; exact hc
  subst e
  have hT : eqN f g n n = eqOps n n f g := by simp [eqOps]
  generalize eqOps n n f g = T at hT ⊢
  clear hc
  (refine run_regionL fun K hK => ?_; (try (simp (maxSteps := 10000000) only [opL, opsB, C49r0, C49r1, C49r2, C49r3, C49r4, C49r5, C49r6, C49r7, C49r8, C49r9, rwp_nil, rwp_cons, rwpK_app, aop, gpath, St.get, slotAt, sfx, eqP, segsOf, St.put, addBlk, getB, setB, delB, ld1, ldn, st1, stn, setRow, rowNeed, segAt, nsub, bin, un, eqB, isShift, sameK, arith, shiftR, getsl, selB_or, selB_and, beqb, shed, addN, Nat.beq, Seg.size, sizes, imp, needP, andN, appL, argsOf, ptrsOf, aasOf, cut, takeS, dropS, putS, partsOf, fillS, fieldOf, nthA, negIf, nilq, nilB, eqS, eqF, eqS1, andP, kin, slcS, strOk, plusA, bndHi, leN, optG, roH, roL, initT, exOk, exAll, wrAddr, Nat.reduceAdd, Nat.reduceSub, Nat.reduceMul, Int.reduceToNat, List.append_nil, List.nil_append, List.cons_append, mapR, mapR1, keyL, keyOk, keyP, colsPut, colsDel, zcols, eqT, idxT, cat, cpy, ite_int, ite_bool, ite_seg, ite_segs, ite_nil, ite_twice, Int.toNat_natCast, app, addBs, tob])); (repeat (first | (refine And.intro ?_ ?_; · first | trivial | assumption | omega))); refine hK _ (eqSt n f g 0) (LeS.intro [0, 1] (fun i h => idt2 i h) (by simp only [diff, notIn, Nat.beq, and_self]) rfl (by simp only [eqSt, slotsLe, slotAt, Nat.beq, leV, leV1, leC, leA, nthO, Int.natCast_zero, Int.ofNat_zero, and_self]) ⟨ops_le n g false, ops_le n f false, trivial⟩) ?_; clear hK K)
  refine run_block ?_
  refine run_loop (fun t st => ∃ j, j ≤ n ∧ t = n - j ∧ eqN f g n t = T ∧ st = eqSt n f g j) n ⟨0, Nat.zero_le _, rfl, hT, rfl⟩ ?_
  rintro t st ⟨j, hj, rfl, hT, rfl⟩
  unfold eqSt
  have hw : IntKind.i64.wrap ((j : Int) + 1) = ((j + 1 : Nat) : Int) := by rw [IntKind.wrap_i64]; omega
  repeat' (first | refine run_seq ?_ | refine run_skip ?_ | (refine run_region fun K hK => ?_; (try (simp (maxSteps := 10000000) only [opL, opsB, Int.toNat_natCast, hw, C49r0, C49r1, C49r2, C49r3, C49r4, C49r5, C49r6, C49r7, C49r8, C49r9, rwp_nil, rwp_cons, rwpK_app, aop, gpath, St.get, slotAt, sfx, eqP, segsOf, St.put, addBlk, getB, setB, delB, ld1, ldn, st1, stn, setRow, rowNeed, segAt, nsub, bin, un, eqB, isShift, sameK, arith, shiftR, getsl, selB_or, selB_and, beqb, shed, addN, Nat.beq, Seg.size, sizes, imp, needP, andN, appL, argsOf, ptrsOf, aasOf, cut, takeS, dropS, putS, partsOf, fillS, fieldOf, nthA, negIf, nilq, nilB, eqS, eqF, eqS1, andP, kin, slcS, strOk, plusA, bndHi, leN, optG, roH, roL, initT, exOk, exAll, wrAddr, Nat.reduceAdd, Nat.reduceSub, Nat.reduceMul, Int.reduceToNat, List.append_nil, List.nil_append, List.cons_append, mapR, mapR1, keyL, keyOk, keyP, colsPut, colsDel, zcols, eqT, idxT, cat, cpy, ite_int, ite_bool, ite_seg, ite_segs, ite_nil, ite_twice, Int.toNat_natCast, app, addBs, tob])); (repeat (first | (refine And.intro ?_ ?_; · (first | trivial | assumption | omega | exact ⟨by omega, by omega⟩ | (intros; first | trivial | assumption | omega))))); with_reducible refine hK _ ?_; clear hK K) | (refine run_cond rfl (fun hc => ?_) (fun hc => ?_) <;> try (simp only [*, Bool.true_eq_false, Bool.false_eq_true, Bool.not_true, Bool.not_false, Bool.true_or, Bool.or_true, Bool.false_or, Bool.or_false, Bool.false_and, Bool.and_false, bne_self_eq_false, beq_self_eq_true] at hc; done)) | refine run_block ?_ | refine run_ret ?_ | refine run_nil ?_ | refine run_exit ?_ | refine blk_normal ?_ | refine blk_ret ?_ | refine blk_here ?_ | refine blk_there rfl ?_ | refine loop_exit ?_ | refine loop_ret ?_ | refine un_exit ?_ | refine un_ret ?_ | refine unE_exit ?_ | refine unE_ret ?_ | refine un_normal ?_)
  · have hlt : j < n := by simp only [decide_eq_true_eq] at hc; omega
    obtain ⟨t, ht⟩ : ∃ t, n - j = t + 1 := ⟨n - j - 1, by omega⟩
    have hj' : n - (t + 1) = j := by omega
    rw [ht] at hT
    simp only [eqN, hj'] at hT
    clear hc
    repeat' (first | refine run_seq ?_ | refine run_skip ?_ | (refine run_region fun K hK => ?_; (try (simp (maxSteps := 10000000) only [opL, opsB, Int.toNat_natCast, hw, C49r0, C49r1, C49r2, C49r3, C49r4, C49r5, C49r6, C49r7, C49r8, C49r9, rwp_nil, rwp_cons, rwpK_app, aop, gpath, St.get, slotAt, sfx, eqP, segsOf, St.put, addBlk, getB, setB, delB, ld1, ldn, st1, stn, setRow, rowNeed, segAt, nsub, bin, un, eqB, isShift, sameK, arith, shiftR, getsl, selB_or, selB_and, beqb, shed, addN, Nat.beq, Seg.size, sizes, imp, needP, andN, appL, argsOf, ptrsOf, aasOf, cut, takeS, dropS, putS, partsOf, fillS, fieldOf, nthA, negIf, nilq, nilB, eqS, eqF, eqS1, andP, kin, slcS, strOk, plusA, bndHi, leN, optG, roH, roL, initT, exOk, exAll, wrAddr, Nat.reduceAdd, Nat.reduceSub, Nat.reduceMul, Int.reduceToNat, List.append_nil, List.nil_append, List.cons_append, mapR, mapR1, keyL, keyOk, keyP, colsPut, colsDel, zcols, eqT, idxT, cat, cpy, ite_int, ite_bool, ite_seg, ite_segs, ite_nil, ite_twice, Int.toNat_natCast, app, addBs, tob])); (repeat (first | (refine And.intro ?_ ?_; · (first | trivial | assumption | omega | exact ⟨by omega, by omega⟩ | (intros; first | trivial | assumption | omega))))); with_reducible refine hK _ ?_; clear hK K) | (refine run_cond rfl (fun hc => ?_) (fun hc => ?_) <;> try (simp only [*, Bool.true_eq_false, Bool.false_eq_true, Bool.not_true, Bool.not_false, Bool.true_or, Bool.or_true, Bool.false_or, Bool.or_false, Bool.false_and, Bool.and_false, bne_self_eq_false, beq_self_eq_true] at hc; done)) | refine run_block ?_ | refine run_ret ?_ | refine run_nil ?_ | refine run_exit ?_ | refine blk_normal ?_ | refine blk_ret ?_ | refine blk_here ?_ | refine blk_there rfl ?_ | refine loop_exit ?_ | refine loop_ret ?_ | refine un_exit ?_ | refine un_ret ?_ | refine unE_exit ?_ | refine unE_ret ?_ | refine un_normal ?_)
    · refine end_eq false _ rfl rfl rfl ?_
      rw [← hT, show eqO (f j) (g j) = false from by simp only [Bool.not_eq_true'] at hc; exact hc]
      rfl
    · have he : eqO (f j) (g j) = true := by simp only [Bool.not_eq_false'] at hc; exact hc
      rw [he, Bool.true_and] at hT
      refine loop_normal (n - (j + 1)) (eqSt n f g (j + 1)) (by omega) (LeS.intro [0, 1] (fun i h => idt2 i h) (by simp only [diff, notIn, Nat.beq, and_self]) rfl (by simp only [eqSt, hw, slotsLe, slotAt, Nat.beq, leV, leV1, leC, leA, nthO, Int.natCast_zero, Int.ofNat_zero, and_self]) ⟨ops_le n g false, ops_le n f false, trivial⟩) ⟨j + 1, hlt, rfl, ?_, rfl⟩
      rw [show n - (j + 1) = t by omega]
      exact hT
  · have hn0 : n - j = 0 := by simp only [decide_eq_false_iff_not] at hc; omega
    rw [hn0] at hT
    exact end_eq true _ rfl rfl rfl hT
theorem con49_at (n m : Nat) (f g : Nat → OpS) (hn : n ≤ 1000) (i j q : Nat) (X : List (Nat × Blk)) (w w' : Bool) (hij : Nat.beq i j = false) (h0 : getB X i = some ⟨6, some n, fun i => opL (f i), 39, w⟩) (h1 : getB X j = some ⟨6, some m, fun i => opL (g i), 39, w'⟩) (hli : i < q) (hlj : j < q) (hkl : keysLt X q) :
    Con Try.prog 49 [.c (.slice ⟨i, 0, 0, 0⟩ false n), .c (.slice ⟨j, 0, 0, 0⟩ false m)] ⟨q, X⟩ (fun v H' => v = .c (.bool (eqOps n m f g)) ∧ H' = ⟨q, X⟩) :=
  ro_gen (con49 n m f g hn) [i, j] q X rfl ⟨⟨hij, trivial⟩, trivial, trivial⟩ ⟨hli, hlj, trivial⟩ hkl (by simp only [leBlks, nthO, h0, h1]; exact ⟨ops_le m g w', ops_le n f w, trivial⟩) (by simp only [leArgs, leV, leV1, leC, leA, nthO, and_self]) rfl (fun _ => rfl) rfl rfl
end Go.Proofs.Ytmbnakinhnkabaa

namespace Go.Proofs.Ytmbnakinhnkabaa
open Go.AM
set_option maxRecDepth 100000
set_option linter.unusedSimpArgs false
set_option linter.unusedVariables false
def chgS (b : BlkS) : Bool := !(eqOps (stepS b).m b.n (stepS b).f b.f)
def sfT (i n : Nat) : List Slot := [⟨24, [], .c (.int .i64 i)⟩, ⟨23, [], .c (.int .i64 n)⟩, ⟨22, [], .c (.slice ⟨0, 0, 0, 0⟩ false n)⟩, ⟨5, [], .c (.ptr ⟨4, 0, 0, 0⟩)⟩, ⟨2, [], .c (.ptr ⟨2, 0, 0, 0⟩)⟩, ⟨1, [], .c (.ptr ⟨1, 0, 0, 0⟩)⟩]
def sfH (s : PS) : List (Nat × Blk) := [(4, passB 0 3 5 6 s true), (3, knB s), (5, opsW s.m s.f), (6, atB s.na s.a), (2, zblk), (1, blkB s.b 0), (0, opsB s.b.n s.b.f)]
def stF (s : PS) (i : Nat) : St := ⟨sfT i s.b.n, ⟨7, sfH s⟩⟩
def opBox (o : OpS) : Blk := ⟨6, none, fun _ => opL o, 39, true⟩
def stPo (s : PS) (o : OpS) (d : Bool) : St := ⟨⟨43, [], .c (.bool d)⟩ :: ⟨7, [], .c (.ptr ⟨7, 0, 0, 0⟩)⟩ :: sfT s.na s.b.n, ⟨8, (7, opBox o) :: sfH s⟩⟩
def stE (s : PS) (i : Nat) (e : Bool) : St := ⟨⟨69, [], .c (.bool e)⟩ :: sfT i s.b.n, ⟨7, sfH s⟩⟩
theorem opk_leG {l : List Nat} (o : OpS) : leB l ⟨6, none, fun _ => opL o, 39, true⟩ (opBox o) := ⟨rfl, rfl, id, Nat.le_refl _, fun _ _ => by simp only [opBox, opL, leSegs, leSeg, leC, and_self]⟩
theorem atApp_le {l : List Nat} (m : Nat) (a : Nat → Int) (v : Int) : leB l ⟨1, some (m + 1), rowsApp ⟨1, some m, fun i => [.c (.int .i64 (a i))], 3, true⟩ m ⟨1, some 1, fun _ => [.c (.int .i64 v)], 3, true⟩ 0, 3, true⟩ (atB (m + 1) (fun i => if i < m then a i else v)) := ⟨rfl, rfl, id, Nat.le_refl _, fun i _ => by
  show leSegs _ (rowsApp _ _ _ _ i) [.c (.int .i64 (if i < m then a i else v))]
  unfold rowsApp
  split <;> simp only [leSegs, leSeg, leC, and_self]⟩
def stepTail : ACode := .seq (.region C26r12)
         (.seq (.region C26r13)
         (.seq (.region C26r14)
         (.cond (.t 69)
          (.exit 0)
          (.skip))))
theorem idtF {l : List Nat} : ∀ i, i < 1 → nthO (0 :: l) i = some i := by
  intro i h; match i, h with
  | 0, _ => rfl
set_option maxHeartbeats 8000000 in
theorem step_tail (s : PS) (h : PsOk s) (hlt : s.na < s.b.n) (d : Bool) {Q : AEx → St → Prop} (hN : (nextP s).e = false → Q .normal (stE (afterP s) s.na false)) (hE : (nextP s).e = true → Q (.exit 0) (stE (afterP s) s.na true)) :
    runA (Con Try.prog) (LeS 1) [stepTail] (stPo s (reO s (s.b.f s.na)) d) Q := by
  have ho := nextP_ok h hlt
  have hn := right_n h.r
  have hc48 := con48 s (reO s (s.b.f s.na)) (h.fit hlt)
  have hm := ho.m
  have hmm := h.m
  have hrna := ho.na
  have hrb := ho.b
  unfold afterP at hN hE
  change Con Try.prog 48 [me, .agg (opL (reO s (s.b.f s.na)))] (passH s) (fun u H' => u = retOne (nextP s) ∧ H' = oneH (nextP s)) at hc48
  generalize reO s (s.b.f s.na) = o at *
  generalize nextP s = r at *
  obtain ⟨⟨rb, rm, rf, rna, ra, rkn, rkk, rkr, rkv⟩, rv, re, rl⟩ := r
  simp only at *
  subst hrb hrna
  unfold oneH at hc48
  simp only at hc48
  unfold stepTail stPo sfT sfH
  cases rl with
  | true =>
    simp only [if_true] at hc48 hm
    repeat' (first | refine run_seq ?_ | refine run_skip ?_ | (refine run_region fun K hK => ?_; (try (simp (maxSteps := 10000000) only [opBox, opL, passB, passL, knB, opsW, atB, opsB, blkB, blkL, zblk, retOne, partsOf, fillS, repl, rowsFit, rowFn, cutD, C26r0, C26r1, C26r2, C26r3, C26r4, C26r5, C26r6, C26r7, C26r8, C26r9, C26r10, C26r11, C26r12, C26r13, C26r15, C26r16, C26r17, C26r18, rwp_nil, rwp_cons, rwpK_app, aop, gpath, St.get, slotAt, sfx, eqP, segsOf, St.put, addBlk, getB, setB, delB, ld1, ldn, st1, stn, setRow, rowNeed, segAt, nsub, bin, un, eqB, isShift, sameK, arith, shiftR, getsl, selB_or, selB_and, beqb, shed, addN, Nat.beq, Seg.size, sizes, imp, needP, andN, appL, argsOf, ptrsOf, aasOf, cut, takeS, dropS, putS, partsOf, fillS, fieldOf, nthA, negIf, nilq, nilB, eqS, eqF, eqS1, andP, kin, slcS, strOk, plusA, bndHi, leN, optG, roH, roL, initT, exOk, exAll, wrAddr, Nat.reduceAdd, Nat.reduceSub, Nat.reduceMul, Int.reduceToNat, List.append_nil, List.nil_append, List.cons_append, mapR, mapR1, keyL, keyOk, keyP, colsPut, colsDel, zcols, eqT, idxT, cat, cpy, ite_int, ite_bool, ite_seg, ite_segs, ite_nil, ite_twice, Int.toNat_natCast, app, addBs, tob])); (repeat (first | (refine And.intro ?_ ?_; · (first | trivial | assumption | omega | exact ⟨by omega, by omega⟩ | exact ⟨by omega, by omega, by omega⟩ | exact ⟨trivial, by omega, by omega⟩ | (intros; first | trivial | assumption | omega | exact ⟨by omega, by omega⟩))) | ((first | (refine call_t _ (pass_at' hc48 (fun l => by simp only [opL, leArgs, leV, leV1, leSegs, leSeg, leC, and_self]) (fun g => rfl) 4 0 3 5 6 8 _ _ (by simp only [diff, notIn, Nat.beq, and_self]) rfl rfl rfl rfl rfl (by simp [allLt]) (by simp [keysLt])) ?_; rintro v H' ⟨rfl, rfl⟩) | refine call_q _ (pass_at' hc48 (fun l => by simp only [opL, leArgs, leV, leV1, leSegs, leSeg, leC, and_self]) (fun g => rfl) 4 0 3 5 6 8 _ _ (by simp only [diff, notIn, Nat.beq, and_self]) rfl rfl rfl rfl rfl (by simp [allLt]) (by simp [keysLt])) ?_ | refine call_g _ (imp_of (pass_at' hc48 (fun l => by simp only [opL, leArgs, leV, leV1, leSegs, leSeg, leC, and_self]) (fun g => rfl) 4 0 3 5 6 8 _ _ (by simp only [diff, notIn, Nat.beq, and_self]) rfl rfl rfl rfl rfl (by simp [allLt]) (by simp [keysLt]))) ?_); simp (maxSteps := 10000000) only [opBox, opL, passB, passL, knB, opsW, atB, opsB, blkB, blkL, zblk, retOne, partsOf, fillS, repl, rowsFit, rowFn, cutD, C26r0, C26r1, C26r2, C26r3, C26r4, C26r5, C26r6, C26r7, C26r8, C26r9, C26r10, C26r11, C26r12, C26r13, C26r15, C26r16, C26r17, C26r18, rwp_nil, rwp_cons, rwpK_app, aop, gpath, St.get, slotAt, sfx, eqP, segsOf, St.put, addBlk, getB, setB, delB, ld1, ldn, st1, stn, setRow, rowNeed, segAt, nsub, bin, un, eqB, isShift, sameK, arith, shiftR, getsl, selB_or, selB_and, beqb, shed, addN, Nat.beq, Seg.size, sizes, imp, needP, andN, appL, argsOf, ptrsOf, aasOf, cut, takeS, dropS, putS, partsOf, fillS, fieldOf, nthA, negIf, nilq, nilB, eqS, eqF, eqS1, andP, kin, slcS, strOk, plusA, bndHi, leN, optG, roH, roL, initT, exOk, exAll, wrAddr, Nat.reduceAdd, Nat.reduceSub, Nat.reduceMul, Int.reduceToNat, List.append_nil, List.nil_append, List.cons_append, mapR, mapR1, keyL, keyOk, keyP, colsPut, colsDel, zcols, eqT, idxT, cat, cpy, ite_int, ite_bool, ite_seg, ite_segs, ite_nil, ite_twice, Int.toNat_natCast, app, addBs, tob]))); with_reducible refine hK _ ?_; clear hK K) | (refine run_cond rfl (fun hc => ?_) (fun hc => ?_) <;> try (simp only [*, Bool.true_eq_false, Bool.false_eq_true, Bool.not_true, Bool.not_false, Bool.true_or, Bool.or_true, Bool.false_or, Bool.or_false, Bool.false_and, Bool.and_false, bne_self_eq_false, beq_self_eq_true] at hc; done)) | refine run_block ?_ | refine run_ret ?_ | refine run_nil ?_ | refine run_exit ?_ | refine blk_normal ?_ | refine blk_ret ?_ | refine blk_here ?_ | refine blk_there rfl ?_ | refine loop_exit ?_ | refine loop_ret ?_ | refine un_exit ?_ | refine un_ret ?_ | refine unE_exit ?_ | refine unE_ret ?_ | refine un_normal ?_)
    (refine run_regionL fun K hK => ?_; (try (simp (maxSteps := 10000000) only [opBox, opL, passB, passL, knB, opsW, atB, opsB, blkB, blkL, zblk, retOne, partsOf, fillS, repl, rowsFit, rowFn, cutD, C26r0, C26r1, C26r2, C26r3, C26r4, C26r5, C26r6, C26r7, C26r8, C26r9, C26r10, C26r11, C26r12, C26r13, C26r14, C26r15, C26r16, C26r17, C26r18, rwp_nil, rwp_cons, rwpK_app, aop, gpath, St.get, slotAt, sfx, eqP, segsOf, St.put, addBlk, getB, setB, delB, ld1, ldn, st1, stn, setRow, rowNeed, segAt, nsub, bin, un, eqB, isShift, sameK, arith, shiftR, getsl, selB_or, selB_and, beqb, shed, addN, Nat.beq, Seg.size, sizes, imp, needP, andN, appL, argsOf, ptrsOf, aasOf, cut, takeS, dropS, putS, partsOf, fillS, fieldOf, nthA, negIf, nilq, nilB, eqS, eqF, eqS1, andP, kin, slcS, strOk, plusA, bndHi, leN, optG, roH, roL, initT, exOk, exAll, wrAddr, Nat.reduceAdd, Nat.reduceSub, Nat.reduceMul, Int.reduceToNat, List.append_nil, List.nil_append, List.cons_append, mapR, mapR1, keyL, keyOk, keyP, colsPut, colsDel, zcols, eqT, idxT, cat, cpy, ite_int, ite_bool, ite_seg, ite_segs, ite_nil, ite_twice, Int.toNat_natCast, app, addBs, tob])); (repeat (first | (refine And.intro ?_ ?_; · first | trivial | assumption | omega))); refine hK _ (stE (atPush ⟨s.b, rm, rf, s.na, ra, rkn, rkk, rkr, rkv⟩ rv) s.na re) (LeS.intro [0, 1, 2, 3, 4, 8, 10] (fun i h => idtF i h) (by simp only [diff, notIn, Nat.beq, and_self]) rfl (by simp only [stE, sfT, atPush, slotsLe, slotAt, Nat.beq, leV, leV1, leC, leA, nthO, Int.natCast_zero, Int.ofNat_zero, and_self]) ⟨pass_le (atPush ⟨s.b, rm, rf, s.na, ra, rkn, rkk, rkr, rkv⟩ rv) 0 3 8 10 0 3 5 6 _ _ id rfl rfl rfl rfl, kn_le ⟨s.b, rm, rf, s.na, ra, rkn, rkk, rkr, rkv⟩, opsw_le _ _ _ (fun _ _ => rfl), atApp_le s.na ra rv, z_le, blk_le' s.b 0 0 rfl, ops_le s.b.n s.b.f false, trivial⟩) ?_; clear hK K)
    refine run_cond rfl (fun hc => ?_) (fun hc => ?_)
    · subst hc
      exact run_exit (hE rfl)
    · subst hc
      exact run_skip (run_nil (hN rfl))
  | false =>
    simp only [Bool.false_eq_true, if_false] at hc48 hm
    repeat' (first | refine run_seq ?_ | refine run_skip ?_ | (refine run_region fun K hK => ?_; (try (simp (maxSteps := 10000000) only [opBox, opL, passB, passL, knB, opsW, atB, opsB, blkB, blkL, zblk, retOne, partsOf, fillS, repl, rowsFit, rowFn, cutD, C26r0, C26r1, C26r2, C26r3, C26r4, C26r5, C26r6, C26r7, C26r8, C26r9, C26r10, C26r11, C26r12, C26r13, C26r15, C26r16, C26r17, C26r18, rwp_nil, rwp_cons, rwpK_app, aop, gpath, St.get, slotAt, sfx, eqP, segsOf, St.put, addBlk, getB, setB, delB, ld1, ldn, st1, stn, setRow, rowNeed, segAt, nsub, bin, un, eqB, isShift, sameK, arith, shiftR, getsl, selB_or, selB_and, beqb, shed, addN, Nat.beq, Seg.size, sizes, imp, needP, andN, appL, argsOf, ptrsOf, aasOf, cut, takeS, dropS, putS, partsOf, fillS, fieldOf, nthA, negIf, nilq, nilB, eqS, eqF, eqS1, andP, kin, slcS, strOk, plusA, bndHi, leN, optG, roH, roL, initT, exOk, exAll, wrAddr, Nat.reduceAdd, Nat.reduceSub, Nat.reduceMul, Int.reduceToNat, List.append_nil, List.nil_append, List.cons_append, mapR, mapR1, keyL, keyOk, keyP, colsPut, colsDel, zcols, eqT, idxT, cat, cpy, ite_int, ite_bool, ite_seg, ite_segs, ite_nil, ite_twice, Int.toNat_natCast, app, addBs, tob])); (repeat (first | (refine And.intro ?_ ?_; · (first | trivial | assumption | omega | exact ⟨by omega, by omega⟩ | exact ⟨by omega, by omega, by omega⟩ | exact ⟨trivial, by omega, by omega⟩ | (intros; first | trivial | assumption | omega | exact ⟨by omega, by omega⟩))) | ((first | (refine call_t _ (pass_at0 hc48 (fun l => by simp only [opL, leArgs, leV, leV1, leSegs, leSeg, leC, and_self]) (fun g => rfl) 4 0 3 5 6 8 _ _ (by simp only [diff, notIn, Nat.beq, and_self]) rfl rfl rfl rfl rfl (by simp [allLt]) (by simp [keysLt])) ?_; rintro v H' ⟨rfl, rfl⟩) | refine call_q _ (pass_at0 hc48 (fun l => by simp only [opL, leArgs, leV, leV1, leSegs, leSeg, leC, and_self]) (fun g => rfl) 4 0 3 5 6 8 _ _ (by simp only [diff, notIn, Nat.beq, and_self]) rfl rfl rfl rfl rfl (by simp [allLt]) (by simp [keysLt])) ?_ | refine call_g _ (imp_of (pass_at0 hc48 (fun l => by simp only [opL, leArgs, leV, leV1, leSegs, leSeg, leC, and_self]) (fun g => rfl) 4 0 3 5 6 8 _ _ (by simp only [diff, notIn, Nat.beq, and_self]) rfl rfl rfl rfl rfl (by simp [allLt]) (by simp [keysLt]))) ?_); simp (maxSteps := 10000000) only [opBox, opL, passB, passL, knB, opsW, atB, opsB, blkB, blkL, zblk, retOne, partsOf, fillS, repl, rowsFit, rowFn, cutD, C26r0, C26r1, C26r2, C26r3, C26r4, C26r5, C26r6, C26r7, C26r8, C26r9, C26r10, C26r11, C26r12, C26r13, C26r15, C26r16, C26r17, C26r18, rwp_nil, rwp_cons, rwpK_app, aop, gpath, St.get, slotAt, sfx, eqP, segsOf, St.put, addBlk, getB, setB, delB, ld1, ldn, st1, stn, setRow, rowNeed, segAt, nsub, bin, un, eqB, isShift, sameK, arith, shiftR, getsl, selB_or, selB_and, beqb, shed, addN, Nat.beq, Seg.size, sizes, imp, needP, andN, appL, argsOf, ptrsOf, aasOf, cut, takeS, dropS, putS, partsOf, fillS, fieldOf, nthA, negIf, nilq, nilB, eqS, eqF, eqS1, andP, kin, slcS, strOk, plusA, bndHi, leN, optG, roH, roL, initT, exOk, exAll, wrAddr, Nat.reduceAdd, Nat.reduceSub, Nat.reduceMul, Int.reduceToNat, List.append_nil, List.nil_append, List.cons_append, mapR, mapR1, keyL, keyOk, keyP, colsPut, colsDel, zcols, eqT, idxT, cat, cpy, ite_int, ite_bool, ite_seg, ite_segs, ite_nil, ite_twice, Int.toNat_natCast, app, addBs, tob]))); with_reducible refine hK _ ?_; clear hK K) | (refine run_cond rfl (fun hc => ?_) (fun hc => ?_) <;> try (simp only [*, Bool.true_eq_false, Bool.false_eq_true, Bool.not_true, Bool.not_false, Bool.true_or, Bool.or_true, Bool.false_or, Bool.or_false, Bool.false_and, Bool.and_false, bne_self_eq_false, beq_self_eq_true] at hc; done)) | refine run_block ?_ | refine run_ret ?_ | refine run_nil ?_ | refine run_exit ?_ | refine blk_normal ?_ | refine blk_ret ?_ | refine blk_here ?_ | refine blk_there rfl ?_ | refine loop_exit ?_ | refine loop_ret ?_ | refine un_exit ?_ | refine un_ret ?_ | refine unE_exit ?_ | refine unE_ret ?_ | refine un_normal ?_)
    (refine run_regionL fun K hK => ?_; (try (simp (maxSteps := 10000000) only [opBox, opL, passB, passL, knB, opsW, atB, opsB, blkB, blkL, zblk, retOne, partsOf, fillS, repl, rowsFit, rowFn, cutD, C26r0, C26r1, C26r2, C26r3, C26r4, C26r5, C26r6, C26r7, C26r8, C26r9, C26r10, C26r11, C26r12, C26r13, C26r14, C26r15, C26r16, C26r17, C26r18, rwp_nil, rwp_cons, rwpK_app, aop, gpath, St.get, slotAt, sfx, eqP, segsOf, St.put, addBlk, getB, setB, delB, ld1, ldn, st1, stn, setRow, rowNeed, segAt, nsub, bin, un, eqB, isShift, sameK, arith, shiftR, getsl, selB_or, selB_and, beqb, shed, addN, Nat.beq, Seg.size, sizes, imp, needP, andN, appL, argsOf, ptrsOf, aasOf, cut, takeS, dropS, putS, partsOf, fillS, fieldOf, nthA, negIf, nilq, nilB, eqS, eqF, eqS1, andP, kin, slcS, strOk, plusA, bndHi, leN, optG, roH, roL, initT, exOk, exAll, wrAddr, Nat.reduceAdd, Nat.reduceSub, Nat.reduceMul, Int.reduceToNat, List.append_nil, List.nil_append, List.cons_append, mapR, mapR1, keyL, keyOk, keyP, colsPut, colsDel, zcols, eqT, idxT, cat, cpy, ite_int, ite_bool, ite_seg, ite_segs, ite_nil, ite_twice, Int.toNat_natCast, app, addBs, tob])); (repeat (first | (refine And.intro ?_ ?_; · first | trivial | assumption | omega))); refine hK _ (stE (atPush ⟨s.b, rm, rf, s.na, ra, rkn, rkk, rkr, rkv⟩ rv) s.na re) (LeS.intro [0, 1, 2, 3, 4, 5, 9] (fun i h => idtF i h) (by simp only [diff, notIn, Nat.beq, and_self]) rfl (by simp only [stE, sfT, atPush, slotsLe, slotAt, Nat.beq, leV, leV1, leC, leA, nthO, Int.natCast_zero, Int.ofNat_zero, and_self]) ⟨pass_le (atPush ⟨s.b, rm, rf, s.na, ra, rkn, rkk, rkr, rkv⟩ rv) 0 3 5 9 0 3 5 6 _ _ id rfl rfl rfl rfl, kn_le ⟨s.b, rm, rf, s.na, ra, rkn, rkk, rkr, rkv⟩, opsw_le _ _ _ (fun _ _ => rfl), atApp_le s.na ra rv, z_le, blk_le' s.b 0 0 rfl, ops_le s.b.n s.b.f false, trivial⟩) ?_; clear hK K)
    refine run_cond rfl (fun hc => ?_) (fun hc => ?_)
    · subst hc
      exact run_exit (hE rfl)
    · subst hc
      exact run_skip (run_nil (hN rfl))
theorem usesS_two (k : Int) : usesS k ≤ 2 := by
  unfold usesS
  split
  · omega
  · split <;> omega
def stepRest : ACode := (.seq (.region C26r7)
        (.seq (.seq (.region C26r8)
        (.cond (.t 32)
         (.region C26r9)
         (.skip)))
        (.seq (.seq (.region C26r10)
        (.cond (.t 43)
         (.region C26r11)
         (.skip)))
        stepTail)))
set_option maxHeartbeats 8000000 in
theorem step_round (s : PS) (h : PsOk s) (hlt : s.na < s.b.n) (c : Bool) {Q : AEx → St → Prop} (hN : (nextP s).e = false → Q .normal (stE (afterP s) s.na false)) (hE : (nextP s).e = true → Q (.exit 0) (stE (afterP s) s.na true)) :
    runA (Con Try.prog) (LeS 1) [.region C26r6, stepRest] ⟨⟨25, [], .c (.bool c)⟩ :: sfT s.na s.b.n, ⟨7, sfH s⟩⟩ Q := by
  have hn := right_n h.r
  have hu2 := usesS_two (s.b.f s.na).kind
  have hu0 : 0 < usesS (s.b.f s.na).kind → 0 ≤ (s.b.f s.na).a ∧ (s.b.f s.na).a < s.na := fun hu => by
    obtain ⟨h1, h2, _⟩ := right_use h.r hlt (i := 0) hu
    exact ⟨h1, h2⟩
  have hu1 : 1 < usesS (s.b.f s.na).kind → 0 ≤ (s.b.f s.na).b ∧ (s.b.f s.na).b < s.na := fun hu => by
    obtain ⟨h1, h2, _⟩ := right_use h.r hlt (i := 1) hu
    exact ⟨h1, h2⟩
  have htail := fun d => step_tail s h hlt d hN hE
  clear hN hE
  unfold sfT sfH stepRest
  repeat' (first | refine run_seq ?_ | refine run_skip ?_ | (refine run_region fun K hK => ?_; (try (simp (maxSteps := 10000000) only [opBox, opL, passB, passL, knB, opsW, atB, opsB, blkB, blkL, zblk, partsOf, fillS, repl, rowsFit, rowFn, cutD, Int.toNat_natCast, C26r0, C26r1, C26r2, C26r3, C26r4, C26r5, C26r6, C26r7, C26r9, C26r10, C26r11, C26r12, C26r13, C26r14, C26r15, C26r16, C26r17, C26r18, rwp_nil, rwp_cons, rwpK_app, aop, gpath, St.get, slotAt, sfx, eqP, segsOf, St.put, addBlk, getB, setB, delB, ld1, ldn, st1, stn, setRow, rowNeed, segAt, nsub, bin, un, eqB, isShift, sameK, arith, shiftR, getsl, selB_or, selB_and, beqb, shed, addN, Nat.beq, Seg.size, sizes, imp, needP, andN, appL, argsOf, ptrsOf, aasOf, cut, takeS, dropS, putS, partsOf, fillS, fieldOf, nthA, negIf, nilq, nilB, eqS, eqF, eqS1, andP, kin, slcS, strOk, plusA, bndHi, leN, optG, roH, roL, initT, exOk, exAll, wrAddr, Nat.reduceAdd, Nat.reduceSub, Nat.reduceMul, Int.reduceToNat, List.append_nil, List.nil_append, List.cons_append, mapR, mapR1, keyL, keyOk, keyP, colsPut, colsDel, zcols, eqT, idxT, cat, cpy, ite_int, ite_bool, ite_seg, ite_segs, ite_nil, ite_twice, Int.toNat_natCast, app, addBs, tob])); (repeat (first | (refine And.intro ?_ ?_; · (first | trivial | assumption | omega | exact ⟨by omega, by omega⟩ | exact ⟨by omega, by omega, by omega⟩ | exact ⟨trivial, by omega, by omega⟩ | (intros; first | trivial | assumption | omega | exact ⟨by omega, by omega⟩))) | ((first | (refine call_t _ (con21 _ _ _ (by simp [keysLt])) ?_; rintro v H' ⟨rfl, rfl⟩) | refine call_q _ (con21 _ _ _ (by simp [keysLt])) ?_ | refine call_g _ (imp_of (con21 _ _ _ (by simp [keysLt]))) ?_); simp (maxSteps := 10000000) only [opBox, opL, passB, passL, knB, opsW, atB, opsB, blkB, blkL, zblk, partsOf, fillS, repl, rowsFit, rowFn, cutD, Int.toNat_natCast, C26r0, C26r1, C26r2, C26r3, C26r4, C26r5, C26r6, C26r7, C26r9, C26r10, C26r11, C26r12, C26r13, C26r14, C26r15, C26r16, C26r17, C26r18, rwp_nil, rwp_cons, rwpK_app, aop, gpath, St.get, slotAt, sfx, eqP, segsOf, St.put, addBlk, getB, setB, delB, ld1, ldn, st1, stn, setRow, rowNeed, segAt, nsub, bin, un, eqB, isShift, sameK, arith, shiftR, getsl, selB_or, selB_and, beqb, shed, addN, Nat.beq, Seg.size, sizes, imp, needP, andN, appL, argsOf, ptrsOf, aasOf, cut, takeS, dropS, putS, partsOf, fillS, fieldOf, nthA, negIf, nilq, nilB, eqS, eqF, eqS1, andP, kin, slcS, strOk, plusA, bndHi, leN, optG, roH, roL, initT, exOk, exAll, wrAddr, Nat.reduceAdd, Nat.reduceSub, Nat.reduceMul, Int.reduceToNat, List.append_nil, List.nil_append, List.cons_append, mapR, mapR1, keyL, keyOk, keyP, colsPut, colsDel, zcols, eqT, idxT, cat, cpy, ite_int, ite_bool, ite_seg, ite_segs, ite_nil, ite_twice, Int.toNat_natCast, app, addBs, tob]))); with_reducible refine hK _ ?_; clear hK K) | (refine run_cond rfl (fun hc => ?_) (fun hc => ?_) <;> try (simp only [*, Bool.true_eq_false, Bool.false_eq_true, Bool.not_true, Bool.not_false, Bool.true_or, Bool.or_true, Bool.false_or, Bool.or_false, Bool.false_and, Bool.and_false, bne_self_eq_false, beq_self_eq_true] at hc; done)) | refine run_block ?_ | refine run_ret ?_ | refine run_nil ?_ | refine run_exit ?_ | refine blk_normal ?_ | refine blk_ret ?_ | refine blk_here ?_ | refine blk_there rfl ?_ | refine loop_exit ?_ | refine loop_ret ?_ | refine un_exit ?_ | refine un_ret ?_ | refine unE_exit ?_ | refine unE_ret ?_ | refine un_normal ?_)
  by_cases h0 : 0 < usesS (s.b.f s.na).kind
  · have ha := hu0 h0
    repeat' (first | refine run_seq ?_ | refine run_skip ?_ | (refine run_region fun K hK => ?_; (try (simp (maxSteps := 10000000) only [opBox, opL, passB, passL, knB, opsW, atB, opsB, blkB, blkL, zblk, partsOf, fillS, repl, rowsFit, rowFn, cutD, Int.toNat_natCast, C26r0, C26r1, C26r2, C26r3, C26r4, C26r5, C26r6, C26r7, C26r8, C26r11, C26r12, C26r13, C26r14, C26r15, C26r16, C26r17, C26r18, rwp_nil, rwp_cons, rwpK_app, aop, gpath, St.get, slotAt, sfx, eqP, segsOf, St.put, addBlk, getB, setB, delB, ld1, ldn, st1, stn, setRow, rowNeed, segAt, nsub, bin, un, eqB, isShift, sameK, arith, shiftR, getsl, selB_or, selB_and, beqb, shed, addN, Nat.beq, Seg.size, sizes, imp, needP, andN, appL, argsOf, ptrsOf, aasOf, cut, takeS, dropS, putS, partsOf, fillS, fieldOf, nthA, negIf, nilq, nilB, eqS, eqF, eqS1, andP, kin, slcS, strOk, plusA, bndHi, leN, optG, roH, roL, initT, exOk, exAll, wrAddr, Nat.reduceAdd, Nat.reduceSub, Nat.reduceMul, Int.reduceToNat, List.append_nil, List.nil_append, List.cons_append, mapR, mapR1, keyL, keyOk, keyP, colsPut, colsDel, zcols, eqT, idxT, cat, cpy, ite_int, ite_bool, ite_seg, ite_segs, ite_nil, ite_twice, Int.toNat_natCast, app, addBs, tob])); (repeat (first | (refine And.intro ?_ ?_; · (first | trivial | assumption | omega | exact ⟨by omega, by omega⟩ | exact ⟨by omega, by omega, by omega⟩ | exact ⟨trivial, by omega, by omega⟩ | (intros; first | trivial | assumption | omega | exact ⟨by omega, by omega⟩))))); with_reducible refine hK _ ?_; clear hK K) | (refine run_cond rfl (fun hc => ?_) (fun hc => ?_) <;> try (simp only [*, Bool.true_eq_false, Bool.false_eq_true, Bool.not_true, Bool.not_false, Bool.true_or, Bool.or_true, Bool.false_or, Bool.or_false, Bool.false_and, Bool.and_false, bne_self_eq_false, beq_self_eq_true] at hc; done)) | refine run_block ?_ | refine run_ret ?_ | refine run_nil ?_ | refine run_exit ?_ | refine blk_normal ?_ | refine blk_ret ?_ | refine blk_here ?_ | refine blk_there rfl ?_ | refine loop_exit ?_ | refine loop_ret ?_ | refine un_exit ?_ | refine un_ret ?_ | refine unE_exit ?_ | refine unE_ret ?_ | refine un_normal ?_)
    rotate_left
    · exfalso; simp only [decide_eq_false_iff_not] at hc; omega
    clear hc
    repeat' (first | refine run_seq ?_ | refine run_skip ?_ | (refine run_region fun K hK => ?_; (try (simp (maxSteps := 10000000) only [opBox, opL, passB, passL, knB, opsW, atB, opsB, blkB, blkL, zblk, partsOf, fillS, repl, rowsFit, rowFn, cutD, Int.toNat_natCast, C26r0, C26r1, C26r2, C26r3, C26r4, C26r5, C26r6, C26r7, C26r8, C26r9, C26r11, C26r12, C26r13, C26r14, C26r15, C26r16, C26r17, C26r18, rwp_nil, rwp_cons, rwpK_app, aop, gpath, St.get, slotAt, sfx, eqP, segsOf, St.put, addBlk, getB, setB, delB, ld1, ldn, st1, stn, setRow, rowNeed, segAt, nsub, bin, un, eqB, isShift, sameK, arith, shiftR, getsl, selB_or, selB_and, beqb, shed, addN, Nat.beq, Seg.size, sizes, imp, needP, andN, appL, argsOf, ptrsOf, aasOf, cut, takeS, dropS, putS, partsOf, fillS, fieldOf, nthA, negIf, nilq, nilB, eqS, eqF, eqS1, andP, kin, slcS, strOk, plusA, bndHi, leN, optG, roH, roL, initT, exOk, exAll, wrAddr, Nat.reduceAdd, Nat.reduceSub, Nat.reduceMul, Int.reduceToNat, List.append_nil, List.nil_append, List.cons_append, mapR, mapR1, keyL, keyOk, keyP, colsPut, colsDel, zcols, eqT, idxT, cat, cpy, ite_int, ite_bool, ite_seg, ite_segs, ite_nil, ite_twice, Int.toNat_natCast, app, addBs, tob])); (repeat (first | (refine And.intro ?_ ?_; · (first | trivial | assumption | omega | exact ⟨by omega, by omega⟩ | exact ⟨by omega, by omega, by omega⟩ | exact ⟨trivial, by omega, by omega⟩ | (intros; first | trivial | assumption | omega | exact ⟨by omega, by omega⟩))))); with_reducible refine hK _ ?_; clear hK K) | (refine run_cond rfl (fun hc => ?_) (fun hc => ?_) <;> try (simp only [*, Bool.true_eq_false, Bool.false_eq_true, Bool.not_true, Bool.not_false, Bool.true_or, Bool.or_true, Bool.false_or, Bool.or_false, Bool.false_and, Bool.and_false, bne_self_eq_false, beq_self_eq_true] at hc; done)) | refine run_block ?_ | refine run_ret ?_ | refine run_nil ?_ | refine run_exit ?_ | refine blk_normal ?_ | refine blk_ret ?_ | refine blk_here ?_ | refine blk_there rfl ?_ | refine loop_exit ?_ | refine loop_ret ?_ | refine un_exit ?_ | refine un_ret ?_ | refine unE_exit ?_ | refine unE_ret ?_ | refine un_normal ?_)
    by_cases h1 : 1 < usesS (s.b.f s.na).kind
    · have hb := hu1 h1
      have hre : reO s (s.b.f s.na) = { s.b.f s.na with a := s.a (s.b.f s.na).a.toNat, b := s.a (s.b.f s.na).b.toNat } := by simp only [reO, h0, h1, if_true]
      have hd : decide (((usesS (s.b.f s.na).kind : Nat) : Int) > 1) = true := decide_eq_true (by omega)
      repeat' (first | refine run_seq ?_ | refine run_skip ?_ | (refine run_region fun K hK => ?_; (try (simp (maxSteps := 10000000) only [opBox, opL, passB, passL, knB, opsW, atB, opsB, blkB, blkL, zblk, partsOf, fillS, repl, rowsFit, rowFn, cutD, Int.toNat_natCast, C26r0, C26r1, C26r2, C26r3, C26r4, C26r5, C26r6, C26r7, C26r8, C26r9, C26r10, C26r13, C26r14, C26r15, C26r16, C26r17, C26r18, rwp_nil, rwp_cons, rwpK_app, aop, gpath, St.get, slotAt, sfx, eqP, segsOf, St.put, addBlk, getB, setB, delB, ld1, ldn, st1, stn, setRow, rowNeed, segAt, nsub, bin, un, eqB, isShift, sameK, arith, shiftR, getsl, selB_or, selB_and, beqb, shed, addN, Nat.beq, Seg.size, sizes, imp, needP, andN, appL, argsOf, ptrsOf, aasOf, cut, takeS, dropS, putS, partsOf, fillS, fieldOf, nthA, negIf, nilq, nilB, eqS, eqF, eqS1, andP, kin, slcS, strOk, plusA, bndHi, leN, optG, roH, roL, initT, exOk, exAll, wrAddr, Nat.reduceAdd, Nat.reduceSub, Nat.reduceMul, Int.reduceToNat, List.append_nil, List.nil_append, List.cons_append, mapR, mapR1, keyL, keyOk, keyP, colsPut, colsDel, zcols, eqT, idxT, cat, cpy, ite_int, ite_bool, ite_seg, ite_segs, ite_nil, ite_twice, Int.toNat_natCast, app, addBs, tob])); (repeat (first | (refine And.intro ?_ ?_; · (first | trivial | assumption | omega | exact ⟨by omega, by omega⟩ | exact ⟨by omega, by omega, by omega⟩ | exact ⟨trivial, by omega, by omega⟩ | (intros; first | trivial | assumption | omega | exact ⟨by omega, by omega⟩))))); with_reducible refine hK _ ?_; clear hK K) | (refine run_cond rfl (fun hc => ?_) (fun hc => ?_) <;> try (simp only [*, Bool.true_eq_false, Bool.false_eq_true, Bool.not_true, Bool.not_false, Bool.true_or, Bool.or_true, Bool.false_or, Bool.or_false, Bool.false_and, Bool.and_false, bne_self_eq_false, beq_self_eq_true] at hc; done)) | refine run_block ?_ | refine run_ret ?_ | refine run_nil ?_ | refine run_exit ?_ | refine blk_normal ?_ | refine blk_ret ?_ | refine blk_here ?_ | refine blk_there rfl ?_ | refine loop_exit ?_ | refine loop_ret ?_ | refine un_exit ?_ | refine un_ret ?_ | refine unE_exit ?_ | refine unE_ret ?_ | refine un_normal ?_)
      clear hc
      (refine run_regionL fun K hK => ?_; (try (simp (maxSteps := 10000000) only [opBox, opL, passB, passL, knB, opsW, atB, opsB, blkB, blkL, zblk, partsOf, fillS, repl, rowsFit, rowFn, cutD, Int.toNat_natCast, C26r0, C26r1, C26r2, C26r3, C26r4, C26r5, C26r6, C26r7, C26r8, C26r9, C26r10, C26r11, C26r12, C26r13, C26r14, C26r15, C26r16, C26r17, C26r18, rwp_nil, rwp_cons, rwpK_app, aop, gpath, St.get, slotAt, sfx, eqP, segsOf, St.put, addBlk, getB, setB, delB, ld1, ldn, st1, stn, setRow, rowNeed, segAt, nsub, bin, un, eqB, isShift, sameK, arith, shiftR, getsl, selB_or, selB_and, beqb, shed, addN, Nat.beq, Seg.size, sizes, imp, needP, andN, appL, argsOf, ptrsOf, aasOf, cut, takeS, dropS, putS, partsOf, fillS, fieldOf, nthA, negIf, nilq, nilB, eqS, eqF, eqS1, andP, kin, slcS, strOk, plusA, bndHi, leN, optG, roH, roL, initT, exOk, exAll, wrAddr, Nat.reduceAdd, Nat.reduceSub, Nat.reduceMul, Int.reduceToNat, List.append_nil, List.nil_append, List.cons_append, mapR, mapR1, keyL, keyOk, keyP, colsPut, colsDel, zcols, eqT, idxT, cat, cpy, ite_int, ite_bool, ite_seg, ite_segs, ite_nil, ite_twice, Int.toNat_natCast, app, addBs, tob])); (repeat (first | (refine And.intro ?_ ?_; · first | trivial | assumption | omega))); refine hK _ (stPo s (reO s (s.b.f s.na)) true) (LeS.intro [0, 1, 2, 3, 4, 5, 6, 7] (fun i h => idtF i h) (by simp only [diff, notIn, Nat.beq, and_self]) rfl (by simp only [stPo, sfT, hd, slotsLe, slotAt, Nat.beq, leV, leV1, leC, leA, nthO, Int.natCast_zero, Int.ofNat_zero, and_self]) ⟨by rw [hre]; exact opk_leG _, pass_le s 0 3 5 6 0 3 5 6 _ _ id rfl rfl rfl rfl, kn_le s, opsw_le _ _ _ (fun _ _ => rfl), at_le _ _ _ (fun _ _ => rfl), z_le, blk_le' s.b 0 0 rfl, ops_le s.b.n s.b.f false, trivial⟩) ?_; clear hK K)
      exact htail true
    · have hre : reO s (s.b.f s.na) = { s.b.f s.na with a := s.a (s.b.f s.na).a.toNat } := by simp only [reO, h0, h1, if_true, if_false]
      have hd : decide (((usesS (s.b.f s.na).kind : Nat) : Int) > 1) = false := decide_eq_false (by omega)
      (refine run_regionL fun K hK => ?_; (try (simp (maxSteps := 10000000) only [opBox, opL, passB, passL, knB, opsW, atB, opsB, blkB, blkL, zblk, partsOf, fillS, repl, rowsFit, rowFn, cutD, Int.toNat_natCast, C26r0, C26r1, C26r2, C26r3, C26r4, C26r5, C26r6, C26r7, C26r8, C26r9, C26r10, C26r11, C26r12, C26r13, C26r14, C26r15, C26r16, C26r17, C26r18, rwp_nil, rwp_cons, rwpK_app, aop, gpath, St.get, slotAt, sfx, eqP, segsOf, St.put, addBlk, getB, setB, delB, ld1, ldn, st1, stn, setRow, rowNeed, segAt, nsub, bin, un, eqB, isShift, sameK, arith, shiftR, getsl, selB_or, selB_and, beqb, shed, addN, Nat.beq, Seg.size, sizes, imp, needP, andN, appL, argsOf, ptrsOf, aasOf, cut, takeS, dropS, putS, partsOf, fillS, fieldOf, nthA, negIf, nilq, nilB, eqS, eqF, eqS1, andP, kin, slcS, strOk, plusA, bndHi, leN, optG, roH, roL, initT, exOk, exAll, wrAddr, Nat.reduceAdd, Nat.reduceSub, Nat.reduceMul, Int.reduceToNat, List.append_nil, List.nil_append, List.cons_append, mapR, mapR1, keyL, keyOk, keyP, colsPut, colsDel, zcols, eqT, idxT, cat, cpy, ite_int, ite_bool, ite_seg, ite_segs, ite_nil, ite_twice, Int.toNat_natCast, app, addBs, tob])); (repeat (first | (refine And.intro ?_ ?_; · first | trivial | assumption | omega))); refine hK _ (stPo s (reO s (s.b.f s.na)) false) (LeS.intro [0, 1, 2, 3, 4, 5, 6, 7] (fun i h => idtF i h) (by simp only [diff, notIn, Nat.beq, and_self]) rfl (by simp only [stPo, sfT, hd, slotsLe, slotAt, Nat.beq, leV, leV1, leC, leA, nthO, Int.natCast_zero, Int.ofNat_zero, and_self]) ⟨by rw [hre]; exact opk_leG _, pass_le s 0 3 5 6 0 3 5 6 _ _ id rfl rfl rfl rfl, kn_le s, opsw_le _ _ _ (fun _ _ => rfl), at_le _ _ _ (fun _ _ => rfl), z_le, blk_le' s.b 0 0 rfl, ops_le s.b.n s.b.f false, trivial⟩) ?_; clear hK K)
      exact run_cond rfl (fun hc => by cases hc) (fun _ => run_skip (htail false))
  · have h1 : ¬ 1 < usesS (s.b.f s.na).kind := by omega
    have hre : reO s (s.b.f s.na) = s.b.f s.na := by simp only [reO, h0, h1, if_false]
    have hd : decide (((usesS (s.b.f s.na).kind : Nat) : Int) > 1) = false := decide_eq_false (by omega)
    repeat' (first | refine run_seq ?_ | refine run_skip ?_ | (refine run_region fun K hK => ?_; (try (simp (maxSteps := 10000000) only [opBox, opL, passB, passL, knB, opsW, atB, opsB, blkB, blkL, zblk, partsOf, fillS, repl, rowsFit, rowFn, cutD, Int.toNat_natCast, C26r0, C26r1, C26r2, C26r3, C26r4, C26r5, C26r6, C26r7, C26r8, C26r11, C26r12, C26r13, C26r14, C26r15, C26r16, C26r17, C26r18, rwp_nil, rwp_cons, rwpK_app, aop, gpath, St.get, slotAt, sfx, eqP, segsOf, St.put, addBlk, getB, setB, delB, ld1, ldn, st1, stn, setRow, rowNeed, segAt, nsub, bin, un, eqB, isShift, sameK, arith, shiftR, getsl, selB_or, selB_and, beqb, shed, addN, Nat.beq, Seg.size, sizes, imp, needP, andN, appL, argsOf, ptrsOf, aasOf, cut, takeS, dropS, putS, partsOf, fillS, fieldOf, nthA, negIf, nilq, nilB, eqS, eqF, eqS1, andP, kin, slcS, strOk, plusA, bndHi, leN, optG, roH, roL, initT, exOk, exAll, wrAddr, Nat.reduceAdd, Nat.reduceSub, Nat.reduceMul, Int.reduceToNat, List.append_nil, List.nil_append, List.cons_append, mapR, mapR1, keyL, keyOk, keyP, colsPut, colsDel, zcols, eqT, idxT, cat, cpy, ite_int, ite_bool, ite_seg, ite_segs, ite_nil, ite_twice, Int.toNat_natCast, app, addBs, tob])); (repeat (first | (refine And.intro ?_ ?_; · (first | trivial | assumption | omega | exact ⟨by omega, by omega⟩ | exact ⟨by omega, by omega, by omega⟩ | exact ⟨trivial, by omega, by omega⟩ | (intros; first | trivial | assumption | omega | exact ⟨by omega, by omega⟩))))); with_reducible refine hK _ ?_; clear hK K) | (refine run_cond rfl (fun hc => ?_) (fun hc => ?_) <;> try (simp only [*, Bool.true_eq_false, Bool.false_eq_true, Bool.not_true, Bool.not_false, Bool.true_or, Bool.or_true, Bool.false_or, Bool.or_false, Bool.false_and, Bool.and_false, bne_self_eq_false, beq_self_eq_true] at hc; done)) | refine run_block ?_ | refine run_ret ?_ | refine run_nil ?_ | refine run_exit ?_ | refine blk_normal ?_ | refine blk_ret ?_ | refine blk_here ?_ | refine blk_there rfl ?_ | refine loop_exit ?_ | refine loop_ret ?_ | refine un_exit ?_ | refine un_ret ?_ | refine unE_exit ?_ | refine unE_ret ?_ | refine un_normal ?_)
    · exfalso; simp only [decide_eq_true_eq] at hc; omega
    clear hc
    (refine run_regionL fun K hK => ?_; (try (simp (maxSteps := 10000000) only [opBox, opL, passB, passL, knB, opsW, atB, opsB, blkB, blkL, zblk, partsOf, fillS, repl, rowsFit, rowFn, cutD, Int.toNat_natCast, C26r0, C26r1, C26r2, C26r3, C26r4, C26r5, C26r6, C26r7, C26r8, C26r9, C26r10, C26r11, C26r12, C26r13, C26r14, C26r15, C26r16, C26r17, C26r18, rwp_nil, rwp_cons, rwpK_app, aop, gpath, St.get, slotAt, sfx, eqP, segsOf, St.put, addBlk, getB, setB, delB, ld1, ldn, st1, stn, setRow, rowNeed, segAt, nsub, bin, un, eqB, isShift, sameK, arith, shiftR, getsl, selB_or, selB_and, beqb, shed, addN, Nat.beq, Seg.size, sizes, imp, needP, andN, appL, argsOf, ptrsOf, aasOf, cut, takeS, dropS, putS, partsOf, fillS, fieldOf, nthA, negIf, nilq, nilB, eqS, eqF, eqS1, andP, kin, slcS, strOk, plusA, bndHi, leN, optG, roH, roL, initT, exOk, exAll, wrAddr, Nat.reduceAdd, Nat.reduceSub, Nat.reduceMul, Int.reduceToNat, List.append_nil, List.nil_append, List.cons_append, mapR, mapR1, keyL, keyOk, keyP, colsPut, colsDel, zcols, eqT, idxT, cat, cpy, ite_int, ite_bool, ite_seg, ite_segs, ite_nil, ite_twice, Int.toNat_natCast, app, addBs, tob])); (repeat (first | (refine And.intro ?_ ?_; · first | trivial | assumption | omega))); refine hK _ (stPo s (reO s (s.b.f s.na)) false) (LeS.intro [0, 1, 2, 3, 4, 5, 6, 7] (fun i h => idtF i h) (by simp only [diff, notIn, Nat.beq, and_self]) rfl (by simp only [stPo, sfT, hd, slotsLe, slotAt, Nat.beq, leV, leV1, leC, leA, nthO, Int.natCast_zero, Int.ofNat_zero, and_self]) ⟨by rw [hre]; exact opk_leG _, pass_le s 0 3 5 6 0 3 5 6 _ _ id rfl rfl rfl rfl, kn_le s, opsw_le _ _ _ (fun _ _ => rfl), at_le _ _ _ (fun _ _ => rfl), z_le, blk_le' s.b 0 0 rfl, ops_le s.b.n s.b.f false, trivial⟩) ?_; clear hK K)
    exact run_cond rfl (fun hc => by cases hc) (fun _ => run_skip (htail false))
def heapStep0 (b : BlkS) : Heap := if rightS b = true then ⟨3, [(2, blkB (foldB b) 1), (1, opsW (stepS b).m (stepS b).f), (0, opsB b.n b.f)]⟩ else ⟨2, [(1, zblk), (0, opsB b.n b.f)]⟩
def heapStep (b : BlkS) : Heap := if rightS b = true then ⟨2, [(1, opsW (stepS b).m (stepS b).f), (0, opsB b.n b.f)]⟩ else ⟨1, [(0, opsB b.n b.f)]⟩
def zBlkL : List Seg := [.c (.int .u64 0), .c (.int .i64 0), .c (.int .i64 0), .c (.nils)]
def retStep (b : BlkS) (i : Nat) : AV := if rightS b = true then .tup [.agg (blkL (foldB b) i), .c (.bool (chgS b)), .c (.int .i64 0)] else .tup [.agg zBlkL, .c (.bool false), .c (.int .i64 4)]
theorem end_step {l : List Slot} {H : Heap} {b : BlkS} {T : PS} (hT : stepS b = T) (hr : rightS b = true) (hb : T.b = b) (c : Bool) (s2 : slotAt l 2 = some ⟨2, [], .c (.ptr ⟨2, 0, 0, 0⟩)⟩) (s3 : slotAt l 3 = some ⟨3, [], .c (.bool (!(eqOps T.m T.b.n T.f T.b.f)))⟩) (s4 : slotAt l 4 = some ⟨4, [], .c (.int .i64 0)⟩)
    (g2 : getB H.blks 2 = some ⟨4, none, fun _ => [.c (.int .u64 T.b.pc), .c (.int .i64 T.b.words), .c (.int .i64 T.b.el), .c (.slice ⟨5, 0, 0, 0⟩ false T.m)], 25, true⟩) (g5 : getB H.blks 5 = some (opsW T.m T.f)) (g0 : getB H.blks 0 = some (opsB T.b.n T.b.f)) : endQ (LeS 1) [.cn 4 2, .tmp 3, .tmp 4] (fun v H' => v = retStep b 1 ∧ H' = heapStep0 b) .ret ⟨l, H⟩ := by
  subst hT
  have hR : retStep b 1 = .tup [.agg (blkL (foldB b) 1), .c (.bool (chgS b)), .c (.int .i64 0)] := by unfold retStep; rw [if_pos hr]
  have hH : heapStep0 b = ⟨3, [(2, blkB (foldB b) 1), (1, opsW (stepS b).m (stepS b).f), (0, opsB b.n b.f)]⟩ := by unfold heapStep0; rw [if_pos hr]
  rw [hR, hH]
  rw [hb] at s3 g2 g0
  refine end_of ⟨[⟨2, [], .c (.ptr ⟨2, 0, 0, 0⟩)⟩, ⟨3, [], .c (.bool (chgS b))⟩, ⟨4, [], .c (.int .i64 0)⟩], ⟨3, [(2, blkB (foldB b) 1), (1, opsW (stepS b).m (stepS b).f), (0, opsB b.n b.f)]⟩⟩ (LeS.intro [0, 5, 2] (fun i h => idtF i h) (by simp only [diff, notIn, Nat.beq, and_self]) rfl (by simp only [chgS, slotsLe, s2, s3, s4, leV, leV1, leC, leA, nthO, and_self]) ?_) ?_
  · simp only [leBlks, nthO, g2, g5, g0]
    exact ⟨⟨rfl, rfl, id, Nat.le_refl _, fun _ _ => by simp only [blkB, blkL, foldB, leSegs, leSeg, leC, leA, nthO, and_self]⟩, opsw_le _ _ _ (fun _ _ => rfl), ops_le b.n b.f false, trivial⟩
  · simp only [endF, resL, resA, St.get, slotAt, Nat.beq, sfx, eqP, ldn, getB, blkB, blkL, rowNeed, cut, dropS, takeS, Seg.size, nsub, noTup, resV]
    exact ⟨by first | rfl | trivial, by first | rfl | trivial⟩
set_option maxHeartbeats 16000000 in
theorem con26_0 (b : BlkS) : Con Try.prog 26 [.agg (blkL b 0)] ⟨1, [(0, opsB b.n b.f)]⟩ (fun v H' => v = retStep b 1 ∧ H' = heapStep0 b) := by
  (refine con_of_run mixed (fn := Try.f26) (by kernel_rfl) (by kernel_rfl) C26_ok (rs := [.cn 4 2, .tmp 3, .tmp 4]) (by kernel_rfl) (Nat.le_of_ble_eq_true (by kernel_rfl)) ?_; unfold C26; simp only [initT, Nat.reduceAdd])
  repeat' (first | refine run_seq ?_ | refine run_skip ?_ | (refine run_region fun K hK => ?_; (try (simp (maxSteps := 10000000) only [opL, blkL, opsB, partsOf, fillS, C26r0, C26r1, C26r2, C26r4, C26r5, C26r6, C26r7, C26r8, C26r9, C26r10, C26r11, C26r12, C26r13, C26r14, C26r15, C26r16, C26r17, C26r18, rwp_nil, rwp_cons, rwpK_app, aop, gpath, St.get, slotAt, sfx, eqP, segsOf, St.put, addBlk, getB, setB, delB, ld1, ldn, st1, stn, setRow, rowNeed, segAt, nsub, bin, un, eqB, isShift, sameK, arith, shiftR, getsl, selB_or, selB_and, beqb, shed, addN, Nat.beq, Seg.size, sizes, imp, needP, andN, appL, argsOf, ptrsOf, aasOf, cut, takeS, dropS, putS, partsOf, fillS, fieldOf, nthA, negIf, nilq, nilB, eqS, eqF, eqS1, andP, kin, slcS, strOk, plusA, bndHi, leN, optG, roH, roL, initT, exOk, exAll, wrAddr, Nat.reduceAdd, Nat.reduceSub, Nat.reduceMul, Int.reduceToNat, List.append_nil, List.nil_append, List.cons_append, mapR, mapR1, keyL, keyOk, keyP, colsPut, colsDel, zcols, eqT, idxT, cat, cpy, ite_int, ite_bool, ite_seg, ite_segs, ite_nil, ite_twice, Int.toNat_natCast, app, addBs, tob])); (repeat (first | (refine And.intro ?_ ?_; · (first | trivial | assumption | omega | exact ⟨by omega, by omega⟩ | exact ⟨by omega, by omega, by omega⟩ | exact ⟨trivial, by omega, by omega⟩ | (intros; first | trivial | assumption | omega | exact ⟨by omega, by omega⟩))) | ((first | (refine call_t _ (con37_at b 0 _ _ _ rfl (Nat.le_of_ble_eq_true rfl) (by simp [keysLt])) ?_; rintro v H' ⟨rfl, rfl⟩) | refine call_q _ (con37_at b 0 _ _ _ rfl (Nat.le_of_ble_eq_true rfl) (by simp [keysLt])) ?_ | refine call_g _ (imp_of (con37_at b 0 _ _ _ rfl (Nat.le_of_ble_eq_true rfl) (by simp [keysLt]))) ?_); simp (maxSteps := 10000000) only [opL, blkL, opsB, partsOf, fillS, C26r0, C26r1, C26r2, C26r4, C26r5, C26r6, C26r7, C26r8, C26r9, C26r10, C26r11, C26r12, C26r13, C26r14, C26r15, C26r16, C26r17, C26r18, rwp_nil, rwp_cons, rwpK_app, aop, gpath, St.get, slotAt, sfx, eqP, segsOf, St.put, addBlk, getB, setB, delB, ld1, ldn, st1, stn, setRow, rowNeed, segAt, nsub, bin, un, eqB, isShift, sameK, arith, shiftR, getsl, selB_or, selB_and, beqb, shed, addN, Nat.beq, Seg.size, sizes, imp, needP, andN, appL, argsOf, ptrsOf, aasOf, cut, takeS, dropS, putS, partsOf, fillS, fieldOf, nthA, negIf, nilq, nilB, eqS, eqF, eqS1, andP, kin, slcS, strOk, plusA, bndHi, leN, optG, roH, roL, initT, exOk, exAll, wrAddr, Nat.reduceAdd, Nat.reduceSub, Nat.reduceMul, Int.reduceToNat, List.append_nil, List.nil_append, List.cons_append, mapR, mapR1, keyL, keyOk, keyP, colsPut, colsDel, zcols, eqT, idxT, cat, cpy, ite_int, ite_bool, ite_seg, ite_segs, ite_nil, ite_twice, Int.toNat_natCast, app, addBs, tob]))); with_reducible refine hK _ ?_; clear hK K) | (refine run_cond rfl (fun hc => ?_) (fun hc => ?_) <;> try (simp only [*, Bool.true_eq_false, Bool.false_eq_true, Bool.not_true, Bool.not_false, Bool.true_or, Bool.or_true, Bool.false_or, Bool.or_false, Bool.false_and, Bool.and_false, bne_self_eq_false, beq_self_eq_true] at hc; done)) | refine run_block ?_ | refine run_ret ?_ | refine run_nil ?_ | refine run_exit ?_ | refine blk_normal ?_ | refine blk_ret ?_ | refine blk_here ?_ | refine blk_there rfl ?_ | refine loop_exit ?_ | refine loop_ret ?_ | refine un_exit ?_ | refine un_ret ?_ | refine unE_exit ?_ | refine unE_ret ?_ | refine un_normal ?_)
  · have hr : rightS b = false := by simpa using hc
    refine end_of ⟨[⟨2, [], .c (.ptr ⟨1, 0, 0, 0⟩)⟩, ⟨3, [], .c (.bool false)⟩, ⟨4, [], .c (.int .i64 4)⟩], ⟨2, [(1, zblk), (0, opsB b.n b.f)]⟩⟩ (LeS.intro [0, 2] (fun i h => idtF i h) (by simp only [diff, notIn, Nat.beq, and_self]) rfl (by simp only [slotsLe, slotAt, Nat.beq, leV, leV1, leC, leA, nthO, and_self]) ⟨z_le, ops_le b.n b.f false, trivial⟩) ?_
    simp only [endF, resL, resA, St.get, slotAt, Nat.beq, sfx, eqP, ldn, getB, zblk, rowNeed, cut, dropS, takeS, Seg.size, nsub, noTup, resV]
    exact ⟨by simp only [retStep, zBlkL, hr, Bool.false_eq_true, if_false], by simp only [heapStep0, hr, Bool.false_eq_true, if_false, zblk]⟩
  have hr : rightS b = true := by simpa using hc
  have hn := right_n hr
  clear hc
  repeat' (first | refine run_seq ?_ | refine run_skip ?_ | (refine run_region fun K hK => ?_; (try (simp (maxSteps := 10000000) only [opL, blkL, opsB, partsOf, fillS, C26r0, C26r1, C26r2, C26r3, C26r5, C26r6, C26r7, C26r8, C26r9, C26r10, C26r11, C26r12, C26r13, C26r14, C26r15, C26r16, C26r17, C26r18, rwp_nil, rwp_cons, rwpK_app, aop, gpath, St.get, slotAt, sfx, eqP, segsOf, St.put, addBlk, getB, setB, delB, ld1, ldn, st1, stn, setRow, rowNeed, segAt, nsub, bin, un, eqB, isShift, sameK, arith, shiftR, getsl, selB_or, selB_and, beqb, shed, addN, Nat.beq, Seg.size, sizes, imp, needP, andN, appL, argsOf, ptrsOf, aasOf, cut, takeS, dropS, putS, partsOf, fillS, fieldOf, nthA, negIf, nilq, nilB, eqS, eqF, eqS1, andP, kin, slcS, strOk, plusA, bndHi, leN, optG, roH, roL, initT, exOk, exAll, wrAddr, Nat.reduceAdd, Nat.reduceSub, Nat.reduceMul, Int.reduceToNat, List.append_nil, List.nil_append, List.cons_append, mapR, mapR1, keyL, keyOk, keyP, colsPut, colsDel, zcols, eqT, idxT, cat, cpy, ite_int, ite_bool, ite_seg, ite_segs, ite_nil, ite_twice, Int.toNat_natCast, app, addBs, tob])); (repeat (first | (refine And.intro ?_ ?_; · (first | trivial | assumption | omega | exact ⟨by omega, by omega⟩ | exact ⟨by omega, by omega, by omega⟩ | exact ⟨trivial, by omega, by omega⟩ | (intros; first | trivial | assumption | omega | exact ⟨by omega, by omega⟩))))); with_reducible refine hK _ ?_; clear hK K) | (refine run_cond rfl (fun hc => ?_) (fun hc => ?_) <;> try (simp only [*, Bool.true_eq_false, Bool.false_eq_true, Bool.not_true, Bool.not_false, Bool.true_or, Bool.or_true, Bool.false_or, Bool.or_false, Bool.false_and, Bool.and_false, bne_self_eq_false, beq_self_eq_true] at hc; done)) | refine run_block ?_ | refine run_ret ?_ | refine run_nil ?_ | refine run_exit ?_ | refine blk_normal ?_ | refine blk_ret ?_ | refine blk_here ?_ | refine blk_there rfl ?_ | refine loop_exit ?_ | refine loop_ret ?_ | refine un_exit ?_ | refine un_ret ?_ | refine unE_exit ?_ | refine unE_ret ?_ | refine un_normal ?_)
  (refine run_regionL fun K hK => ?_; (try (simp (maxSteps := 10000000) only [opL, blkL, opsB, partsOf, fillS, C26r0, C26r1, C26r2, C26r3, C26r4, C26r5, C26r6, C26r7, C26r8, C26r9, C26r10, C26r11, C26r12, C26r13, C26r14, C26r15, C26r16, C26r17, C26r18, rwp_nil, rwp_cons, rwpK_app, aop, gpath, St.get, slotAt, sfx, eqP, segsOf, St.put, addBlk, getB, setB, delB, ld1, ldn, st1, stn, setRow, rowNeed, segAt, nsub, bin, un, eqB, isShift, sameK, arith, shiftR, getsl, selB_or, selB_and, beqb, shed, addN, Nat.beq, Seg.size, sizes, imp, needP, andN, appL, argsOf, ptrsOf, aasOf, cut, takeS, dropS, putS, partsOf, fillS, fieldOf, nthA, negIf, nilq, nilB, eqS, eqF, eqS1, andP, kin, slcS, strOk, plusA, bndHi, leN, optG, roH, roL, initT, exOk, exAll, wrAddr, Nat.reduceAdd, Nat.reduceSub, Nat.reduceMul, Int.reduceToNat, List.append_nil, List.nil_append, List.cons_append, mapR, mapR1, keyL, keyOk, keyP, colsPut, colsDel, zcols, eqT, idxT, cat, cpy, ite_int, ite_bool, ite_seg, ite_segs, ite_nil, ite_twice, Int.toNat_natCast, app, addBs, tob])); (repeat (first | (refine And.intro ?_ ?_; · first | trivial | assumption | omega))); refine hK _ (stF (ps0 b) 0) (LeS.introG [0, 1, 2, 3, 4] (fun i h => idtF i h) (by simp only [diff, notIn, Nat.beq, and_self]) (Nat.le_of_ble_eq_true rfl) (by simp only [stF, sfT, ps0, slotsLe, slotAt, Nat.beq, leV, leV1, leC, leA, nthO, Int.natCast_zero, Int.ofNat_zero, and_self]) ⟨⟨rfl, rfl, id, Nat.le_refl _, fun _ _ => by simp only [passB, passL, ps0, leSegs, leSeg, leC, leA, nthO, and_self]⟩, ⟨rfl, rfl, id, rfl, fun _ _ => by simp only [knB, ps0, leSegs, leSeg, leC, and_self, implies_true]⟩, trivial, trivial, z_le, blk_le' b 0 0 rfl, ops_le b.n b.f false, trivial⟩) ?_; clear hK K)
  refine run_block ?_
  have hT : stepN b.n (ps0 b) = stepS b := rfl
  obtain ⟨hTok, hTb⟩ := stepN_ok b.n (ps0_ok hr)
  rw [hT] at hTok hTb
  generalize hTs : stepS b = T at hT hTok hTb
  have hTb : T.b = b := hTb
  have hTm : T.m ≤ 512 := by have := hTok.m; have h2 := hTok.na; rw [hTb] at h2; omega
  have hfin := fun l H c => @end_step l H b T hTs hr hTb c
  refine run_loop (fun t st => ∃ s, t = b.n - s.na ∧ PsOk s ∧ s.b = b ∧ stepN t s = T ∧ st = stF s s.na) b.n ⟨ps0 b, rfl, ps0_ok hr, rfl, hT, rfl⟩ ?_
  rintro t st ⟨s, rfl, hok, hsb, hst, rfl⟩
  have hsbn : s.b.n = b.n := by rw [hsb]
  unfold stF sfT sfH
  repeat' (first | refine run_seq ?_ | refine run_skip ?_ | (refine run_region fun K hK => ?_; (try (simp (maxSteps := 10000000) only [opBox, opL, passB, passL, knB, opsW, atB, opsB, blkB, blkL, zblk, partsOf, fillS, repl, rowsFit, rowFn, cutD, Int.toNat_natCast, C26r0, C26r1, C26r2, C26r3, C26r4, C26r5, C26r7, C26r8, C26r9, C26r10, C26r11, C26r12, C26r13, C26r14, C26r15, C26r17, C26r18, rwp_nil, rwp_cons, rwpK_app, aop, gpath, St.get, slotAt, sfx, eqP, segsOf, St.put, addBlk, getB, setB, delB, ld1, ldn, st1, stn, setRow, rowNeed, segAt, nsub, bin, un, eqB, isShift, sameK, arith, shiftR, getsl, selB_or, selB_and, beqb, shed, addN, Nat.beq, Seg.size, sizes, imp, needP, andN, appL, argsOf, ptrsOf, aasOf, cut, takeS, dropS, putS, partsOf, fillS, fieldOf, nthA, negIf, nilq, nilB, eqS, eqF, eqS1, andP, kin, slcS, strOk, plusA, bndHi, leN, optG, roH, roL, initT, exOk, exAll, wrAddr, Nat.reduceAdd, Nat.reduceSub, Nat.reduceMul, Int.reduceToNat, List.append_nil, List.nil_append, List.cons_append, mapR, mapR1, keyL, keyOk, keyP, colsPut, colsDel, zcols, eqT, idxT, cat, cpy, ite_int, ite_bool, ite_seg, ite_segs, ite_nil, ite_twice, Int.toNat_natCast, app, addBs, tob])); (repeat (first | (refine And.intro ?_ ?_; · (first | trivial | assumption | omega | exact ⟨by omega, by omega⟩ | exact ⟨by omega, by omega, by omega⟩ | exact ⟨trivial, by omega, by omega⟩ | (intros; first | trivial | assumption | omega | exact ⟨by omega, by omega⟩))))); with_reducible refine hK _ ?_; clear hK K) | (refine run_cond rfl (fun hc => ?_) (fun hc => ?_) <;> try (simp only [*, Bool.true_eq_false, Bool.false_eq_true, Bool.not_true, Bool.not_false, Bool.true_or, Bool.or_true, Bool.false_or, Bool.or_false, Bool.false_and, Bool.and_false, bne_self_eq_false, beq_self_eq_true] at hc; done)) | refine run_block ?_ | refine run_ret ?_ | refine run_nil ?_ | refine run_exit ?_ | refine blk_normal ?_ | refine blk_ret ?_ | refine blk_here ?_ | refine blk_there rfl ?_ | refine loop_exit ?_ | refine loop_ret ?_ | refine un_exit ?_ | refine un_ret ?_ | refine unE_exit ?_ | refine unE_ret ?_ | refine un_normal ?_)
  · have hlt : s.na < s.b.n := by simp only [decide_eq_true_eq] at hc; omega
    clear hc
    obtain ⟨t, ht⟩ : ∃ t, b.n - s.na = t + 1 := ⟨b.n - s.na - 1, by omega⟩
    rw [ht] at hst ⊢
    simp only [stepN, hlt, if_true] at hst
    have hna := after_na hok hlt
    have hab := after_b hok hlt
    refine step_round s hok hlt _ (fun he => ?_) (fun he => ?_)
    · rw [he] at hst
      simp only [Bool.false_eq_true, if_false] at hst
      refine blk_normal ?_
      have hw : IntKind.i64.wrap ((s.na : Int) + 1) = ((s.na + 1 : Nat) : Int) := by rw [IntKind.wrap_i64]; omega
      unfold stE sfT sfH
      repeat' (first | refine run_seq ?_ | refine run_skip ?_ | (refine run_region fun K hK => ?_; (try (simp (maxSteps := 10000000) only [opBox, opL, passB, passL, knB, opsW, atB, opsB, blkB, blkL, zblk, partsOf, fillS, repl, rowsFit, rowFn, cutD, Int.toNat_natCast, hw, C26r0, C26r1, C26r2, C26r3, C26r4, C26r5, C26r6, C26r7, C26r8, C26r9, C26r10, C26r11, C26r12, C26r13, C26r14, C26r15, C26r16, C26r17, C26r18, rwp_nil, rwp_cons, rwpK_app, aop, gpath, St.get, slotAt, sfx, eqP, segsOf, St.put, addBlk, getB, setB, delB, ld1, ldn, st1, stn, setRow, rowNeed, segAt, nsub, bin, un, eqB, isShift, sameK, arith, shiftR, getsl, selB_or, selB_and, beqb, shed, addN, Nat.beq, Seg.size, sizes, imp, needP, andN, appL, argsOf, ptrsOf, aasOf, cut, takeS, dropS, putS, partsOf, fillS, fieldOf, nthA, negIf, nilq, nilB, eqS, eqF, eqS1, andP, kin, slcS, strOk, plusA, bndHi, leN, optG, roH, roL, initT, exOk, exAll, wrAddr, Nat.reduceAdd, Nat.reduceSub, Nat.reduceMul, Int.reduceToNat, List.append_nil, List.nil_append, List.cons_append, mapR, mapR1, keyL, keyOk, keyP, colsPut, colsDel, zcols, eqT, idxT, cat, cpy, ite_int, ite_bool, ite_seg, ite_segs, ite_nil, ite_twice, Int.toNat_natCast, app, addBs, tob])); (repeat (first | (refine And.intro ?_ ?_; · (first | trivial | assumption | omega | exact ⟨by omega, by omega⟩ | exact ⟨by omega, by omega, by omega⟩ | exact ⟨trivial, by omega, by omega⟩ | (intros; first | trivial | assumption | omega | exact ⟨by omega, by omega⟩))))); with_reducible refine hK _ ?_; clear hK K) | (refine run_cond rfl (fun hc => ?_) (fun hc => ?_) <;> try (simp only [*, Bool.true_eq_false, Bool.false_eq_true, Bool.not_true, Bool.not_false, Bool.true_or, Bool.or_true, Bool.false_or, Bool.or_false, Bool.false_and, Bool.and_false, bne_self_eq_false, beq_self_eq_true] at hc; done)) | refine run_block ?_ | refine run_ret ?_ | refine run_nil ?_ | refine run_exit ?_ | refine blk_normal ?_ | refine blk_ret ?_ | refine blk_here ?_ | refine blk_there rfl ?_ | refine loop_exit ?_ | refine loop_ret ?_ | refine un_exit ?_ | refine un_ret ?_ | refine unE_exit ?_ | refine unE_ret ?_ | refine un_normal ?_)
      refine loop_normal t (stF (afterP s) (afterP s).na) (by omega) (LeS.intro [0, 1, 2, 3, 4, 5, 6] (fun i h => idtF i h) (by simp only [diff, notIn, Nat.beq, and_self]) rfl (by simp only [stF, sfT, hna, slotsLe, slotAt, Nat.beq, leV, leV1, leC, leA, nthO, Int.natCast_zero, Int.ofNat_zero, and_self]) ⟨pass_le _ 0 3 5 6 0 3 5 6 _ _ id rfl rfl rfl rfl, kn_le _, opsw_le _ _ _ (fun _ _ => rfl), at_le _ _ _ (fun _ _ => rfl), z_le, blk_le' _ 0 0 rfl, ops_le _ _ false, trivial⟩) ⟨afterP s, by rw [hna]; omega, after_ok hok hlt, by rw [hab]; exact hsb, hst, rfl⟩
    · rw [he] at hst
      simp only [if_true] at hst
      subst hst
      generalize hTT : afterP s = T at *
      refine blk_there rfl (loop_exit (blk_here ?_))
      unfold stE sfT sfH
      repeat' (first | refine run_seq ?_ | refine run_skip ?_ | (refine run_region fun K hK => ?_; (try (simp (maxSteps := 10000000) only [opBox, opL, passB, passL, knB, opsW, atB, opsB, blkB, blkL, zblk, partsOf, fillS, repl, rowsFit, rowFn, cutD, Int.toNat_natCast, C26r0, C26r1, C26r2, C26r3, C26r4, C26r5, C26r6, C26r7, C26r8, C26r9, C26r10, C26r11, C26r12, C26r13, C26r14, C26r15, C26r16, C26r17, C26r18, rwp_nil, rwp_cons, rwpK_app, aop, gpath, St.get, slotAt, sfx, eqP, segsOf, St.put, addBlk, getB, setB, delB, ld1, ldn, st1, stn, setRow, rowNeed, segAt, nsub, bin, un, eqB, isShift, sameK, arith, shiftR, getsl, selB_or, selB_and, beqb, shed, addN, Nat.beq, Seg.size, sizes, imp, needP, andN, appL, argsOf, ptrsOf, aasOf, cut, takeS, dropS, putS, partsOf, fillS, fieldOf, nthA, negIf, nilq, nilB, eqS, eqF, eqS1, andP, kin, slcS, strOk, plusA, bndHi, leN, optG, roH, roL, initT, exOk, exAll, wrAddr, Nat.reduceAdd, Nat.reduceSub, Nat.reduceMul, Int.reduceToNat, List.append_nil, List.nil_append, List.cons_append, mapR, mapR1, keyL, keyOk, keyP, colsPut, colsDel, zcols, eqT, idxT, cat, cpy, ite_int, ite_bool, ite_seg, ite_segs, ite_nil, ite_twice, Int.toNat_natCast, app, addBs, tob])); (repeat (first | (refine And.intro ?_ ?_; · (first | trivial | assumption | omega | exact ⟨by omega, by omega⟩ | exact ⟨by omega, by omega, by omega⟩ | exact ⟨trivial, by omega, by omega⟩ | (intros; first | trivial | assumption | omega | exact ⟨by omega, by omega⟩))) | ((first | (refine call_t _ (con49_at T.m T.b.n T.f T.b.f (by omega) 5 0 _ _ _ _ rfl rfl rfl (Nat.le_of_ble_eq_true rfl) (Nat.le_of_ble_eq_true rfl) (by simp [roL, keysLt])) ?_; rintro v H' ⟨rfl, rfl⟩) | refine call_q _ (con49_at T.m T.b.n T.f T.b.f (by omega) 5 0 _ _ _ _ rfl rfl rfl (Nat.le_of_ble_eq_true rfl) (Nat.le_of_ble_eq_true rfl) (by simp [roL, keysLt])) ?_ | refine call_g _ (imp_of (con49_at T.m T.b.n T.f T.b.f (by omega) 5 0 _ _ _ _ rfl rfl rfl (Nat.le_of_ble_eq_true rfl) (Nat.le_of_ble_eq_true rfl) (by simp [roL, keysLt]))) ?_); simp (maxSteps := 10000000) only [opBox, opL, passB, passL, knB, opsW, atB, opsB, blkB, blkL, zblk, partsOf, fillS, repl, rowsFit, rowFn, cutD, Int.toNat_natCast, C26r0, C26r1, C26r2, C26r3, C26r4, C26r5, C26r6, C26r7, C26r8, C26r9, C26r10, C26r11, C26r12, C26r13, C26r14, C26r15, C26r16, C26r17, C26r18, rwp_nil, rwp_cons, rwpK_app, aop, gpath, St.get, slotAt, sfx, eqP, segsOf, St.put, addBlk, getB, setB, delB, ld1, ldn, st1, stn, setRow, rowNeed, segAt, nsub, bin, un, eqB, isShift, sameK, arith, shiftR, getsl, selB_or, selB_and, beqb, shed, addN, Nat.beq, Seg.size, sizes, imp, needP, andN, appL, argsOf, ptrsOf, aasOf, cut, takeS, dropS, putS, partsOf, fillS, fieldOf, nthA, negIf, nilq, nilB, eqS, eqF, eqS1, andP, kin, slcS, strOk, plusA, bndHi, leN, optG, roH, roL, initT, exOk, exAll, wrAddr, Nat.reduceAdd, Nat.reduceSub, Nat.reduceMul, Int.reduceToNat, List.append_nil, List.nil_append, List.cons_append, mapR, mapR1, keyL, keyOk, keyP, colsPut, colsDel, zcols, eqT, idxT, cat, cpy, ite_int, ite_bool, ite_seg, ite_segs, ite_nil, ite_twice, Int.toNat_natCast, app, addBs, tob]))); with_reducible refine hK _ ?_; clear hK K) | (refine run_cond rfl (fun hc => ?_) (fun hc => ?_) <;> try (simp only [*, Bool.true_eq_false, Bool.false_eq_true, Bool.not_true, Bool.not_false, Bool.true_or, Bool.or_true, Bool.false_or, Bool.or_false, Bool.false_and, Bool.and_false, bne_self_eq_false, beq_self_eq_true] at hc; done)) | refine run_block ?_ | refine run_ret ?_ | refine run_nil ?_ | refine run_exit ?_ | refine blk_normal ?_ | refine blk_ret ?_ | refine blk_here ?_ | refine blk_there rfl ?_ | refine loop_exit ?_ | refine loop_ret ?_ | refine un_exit ?_ | refine un_ret ?_ | refine unE_exit ?_ | refine unE_ret ?_ | refine un_normal ?_)
      exact end_step hTs hr hTb true rfl rfl rfl rfl rfl rfl
  · have hge : b.n - s.na = 0 := by simp only [decide_eq_false_iff_not] at hc; omega
    rw [hge] at hst
    simp only [stepN] at hst
    subst hst
    repeat' (first | refine run_seq ?_ | refine run_skip ?_ | (refine run_region fun K hK => ?_; (try (simp (maxSteps := 10000000) only [opBox, opL, passB, passL, knB, opsW, atB, opsB, blkB, blkL, zblk, partsOf, fillS, repl, rowsFit, rowFn, cutD, Int.toNat_natCast, C26r0, C26r1, C26r2, C26r3, C26r4, C26r5, C26r6, C26r7, C26r8, C26r9, C26r10, C26r11, C26r12, C26r13, C26r14, C26r15, C26r16, C26r17, C26r18, rwp_nil, rwp_cons, rwpK_app, aop, gpath, St.get, slotAt, sfx, eqP, segsOf, St.put, addBlk, getB, setB, delB, ld1, ldn, st1, stn, setRow, rowNeed, segAt, nsub, bin, un, eqB, isShift, sameK, arith, shiftR, getsl, selB_or, selB_and, beqb, shed, addN, Nat.beq, Seg.size, sizes, imp, needP, andN, appL, argsOf, ptrsOf, aasOf, cut, takeS, dropS, putS, partsOf, fillS, fieldOf, nthA, negIf, nilq, nilB, eqS, eqF, eqS1, andP, kin, slcS, strOk, plusA, bndHi, leN, optG, roH, roL, initT, exOk, exAll, wrAddr, Nat.reduceAdd, Nat.reduceSub, Nat.reduceMul, Int.reduceToNat, List.append_nil, List.nil_append, List.cons_append, mapR, mapR1, keyL, keyOk, keyP, colsPut, colsDel, zcols, eqT, idxT, cat, cpy, ite_int, ite_bool, ite_seg, ite_segs, ite_nil, ite_twice, Int.toNat_natCast, app, addBs, tob])); (repeat (first | (refine And.intro ?_ ?_; · (first | trivial | assumption | omega | exact ⟨by omega, by omega⟩ | exact ⟨by omega, by omega, by omega⟩ | exact ⟨trivial, by omega, by omega⟩ | (intros; first | trivial | assumption | omega | exact ⟨by omega, by omega⟩))) | ((first | (refine call_t _ (con49_at s.m s.b.n s.f s.b.f (by omega) 5 0 _ _ _ _ rfl rfl rfl (Nat.le_of_ble_eq_true rfl) (Nat.le_of_ble_eq_true rfl) (by simp [roL, keysLt])) ?_; rintro v H' ⟨rfl, rfl⟩) | refine call_q _ (con49_at s.m s.b.n s.f s.b.f (by omega) 5 0 _ _ _ _ rfl rfl rfl (Nat.le_of_ble_eq_true rfl) (Nat.le_of_ble_eq_true rfl) (by simp [roL, keysLt])) ?_ | refine call_g _ (imp_of (con49_at s.m s.b.n s.f s.b.f (by omega) 5 0 _ _ _ _ rfl rfl rfl (Nat.le_of_ble_eq_true rfl) (Nat.le_of_ble_eq_true rfl) (by simp [roL, keysLt]))) ?_); simp (maxSteps := 10000000) only [opBox, opL, passB, passL, knB, opsW, atB, opsB, blkB, blkL, zblk, partsOf, fillS, repl, rowsFit, rowFn, cutD, Int.toNat_natCast, C26r0, C26r1, C26r2, C26r3, C26r4, C26r5, C26r6, C26r7, C26r8, C26r9, C26r10, C26r11, C26r12, C26r13, C26r14, C26r15, C26r16, C26r17, C26r18, rwp_nil, rwp_cons, rwpK_app, aop, gpath, St.get, slotAt, sfx, eqP, segsOf, St.put, addBlk, getB, setB, delB, ld1, ldn, st1, stn, setRow, rowNeed, segAt, nsub, bin, un, eqB, isShift, sameK, arith, shiftR, getsl, selB_or, selB_and, beqb, shed, addN, Nat.beq, Seg.size, sizes, imp, needP, andN, appL, argsOf, ptrsOf, aasOf, cut, takeS, dropS, putS, partsOf, fillS, fieldOf, nthA, negIf, nilq, nilB, eqS, eqF, eqS1, andP, kin, slcS, strOk, plusA, bndHi, leN, optG, roH, roL, initT, exOk, exAll, wrAddr, Nat.reduceAdd, Nat.reduceSub, Nat.reduceMul, Int.reduceToNat, List.append_nil, List.nil_append, List.cons_append, mapR, mapR1, keyL, keyOk, keyP, colsPut, colsDel, zcols, eqT, idxT, cat, cpy, ite_int, ite_bool, ite_seg, ite_segs, ite_nil, ite_twice, Int.toNat_natCast, app, addBs, tob]))); with_reducible refine hK _ ?_; clear hK K) | (refine run_cond rfl (fun hc => ?_) (fun hc => ?_) <;> try (simp only [*, Bool.true_eq_false, Bool.false_eq_true, Bool.not_true, Bool.not_false, Bool.true_or, Bool.or_true, Bool.false_or, Bool.or_false, Bool.false_and, Bool.and_false, bne_self_eq_false, beq_self_eq_true] at hc; done)) | refine run_block ?_ | refine run_ret ?_ | refine run_nil ?_ | refine run_exit ?_ | refine blk_normal ?_ | refine blk_ret ?_ | refine blk_here ?_ | refine blk_there rfl ?_ | refine loop_exit ?_ | refine loop_ret ?_ | refine un_exit ?_ | refine un_ret ?_ | refine unE_exit ?_ | refine unE_ret ?_ | refine un_normal ?_)
    exact end_step hTs hr hTb true rfl rfl rfl rfl rfl rfl
theorem con26 (b : BlkS) : Con Try.prog 26 [.agg (blkL b 0)] ⟨1, [(0, opsB b.n b.f)]⟩ (fun v H' => v = retStep b 1 ∧ H' = heapStep b) := by
  refine Con.forget (con26_0 b) ?_
  rintro v H' ⟨rfl, rfl⟩
  by_cases hr : rightS b = true
  · refine ⟨_, heapStep b, [0, 1], (fun i h => idtF i h), (by simp only [diff, notIn, Nat.beq, and_self]), by simp only [heapStep, hr, if_true]; rfl, ?_, ?_, rfl, rfl⟩
    · simp only [heapStep0, heapStep, hr, if_true]
      exact ⟨opsw_le _ _ _ (fun _ _ => rfl), ops_le b.n b.f false, trivial⟩
    · simp only [retStep, hr, if_true, leV, leV1, leVL, blkL, leSegs, leSeg, leC, leA, nthO, and_self]
  · refine ⟨_, heapStep b, [0], (fun i h => idtF i h), ⟨trivial, trivial⟩, by simp only [heapStep, hr, if_false, Bool.false_eq_true]; rfl, ?_, ?_, rfl, rfl⟩
    · simp only [heapStep0, heapStep, hr, if_false, Bool.false_eq_true]
      exact ⟨ops_le b.n b.f false, trivial⟩
    · simp only [retStep, zBlkL, hr, if_false, Bool.false_eq_true, leV, leV1, leVL, leSegs, leSeg, leC, and_self]
end Go.Proofs.Ytmbnakinhnkabaa

namespace Go.Proofs.Ytmbnakinhnkabaa
open Go.AM
set_option maxRecDepth 100000
set_option linter.unusedSimpArgs false
set_option linter.unusedVariables false
structure Laid (s : PS) (r : One) (x : OpS) : Prop where
  m : r.s.m = s.m + 1
  f : ∀ i, r.s.f i = if i < s.m then s.f i else x
  v : r.v = s.m
structure Gone (s : PS) (r : One) : Prop where
  m : r.s.m = s.m
  f : r.s.f = s.f
  e : r.e = false
def KnN (s : PS) (o : OpS) (r : One) : Prop := ∀ j, j < r.s.kn → (∃ i, i < s.kn ∧ r.s.kv j = s.kv i) ∨ (r.s.kv j = o.a ∧ 1 ≤ usesS o.kind) ∨ (r.s.kv j = s.m ∧ defS o.kind = true ∧ Laid s r o)
def KnO (s : PS) (o : OpS) (r : One) : Prop :=
  (∃ x, Laid s r x ∧ ((x = o ∧ r.e = false ∧ o.kind ≠ 15 ∨ x = o ∧ r.e = false) ∨ (o.kind = 8 ∧ (∃ n, x = constO n) ∧ r.e = false) ∨ (o.kind = 15 ∧ x = exitO o.imm ∧ r.e = true))) ∨
  (Gone s r ∧ (((o.kind = 2 ∨ o.kind = 4 ∨ o.kind = 6) ∧ ∃ j, j < s.kn ∧ r.v = s.kv j) ∨ o.kind = 15))
theorem laid_lay (s : PS) (x : OpS) : Laid s (layO s x) x := ⟨rfl, fun _ => rfl, rfl⟩
theorem kn_same {s : PS} {o : OpS} {r : One} (h1 : r.s.kn = s.kn) (h2 : r.s.kv = s.kv) : KnN s o r := fun j hj => .inl ⟨j, by rw [← h1]; exact hj, by rw [h2]⟩
theorem put_from (s : PS) (k r v : Int) : ∀ j, j < (knPut s k r v).kn → (∃ i, i < s.kn ∧ (knPut s k r v).kv j = s.kv i) ∨ (knPut s k r v).kv j = v := by
  intro j hj
  have hle := findI_ok (s := s) (k := k) (r := r)
  simp only [knPut] at hj ⊢
  by_cases e : j = knFind s k r
  · rw [if_pos e]; exact .inr rfl
  · rw [if_neg e]; exact .inl ⟨j, by omega, rfl⟩
theorem del_from (s : PS) (k r : Int) : ∀ j, j < (knDel s k r).kn → ∃ i, i < s.kn ∧ (knDel s k r).kv j = s.kv i := by
  intro j hj
  have hle := findI_ok (s := s) (k := k) (r := r)
  simp only [knDel] at hj ⊢
  by_cases e : j < knFind s k r
  · rw [if_pos e]; exact ⟨j, by omega, rfl⟩
  · rw [if_neg e]
    rw [if_pos (by split at hj <;> omega)] at hj
    exact ⟨j + 1, by omega, rfl⟩
theorem set_from (s : PS) (o : OpS) (k r : Int) : ∀ j, j < (knSet s o k r).kn → (∃ i, i < s.kn ∧ (knSet s o k r).kv j = s.kv i) ∨ (knSet s o k r).kv j = o.a := by
  unfold knSet
  split
  · exact put_from s k r o.a
  · exact fun j hj => .inl (del_from s k r j hj)
theorem place_get {o : OpS} (h1 : placeOk o = true) (h2 : ¬ placeSet o = true) : o.kind = 2 ∨ o.kind = 4 ∨ o.kind = 6 := by
  unfold placeOk at h1
  unfold placeSet at h2
  simp only [Bool.or_eq_true, beq_iff_eq] at h1 h2
  omega
theorem def_get {o : OpS} (h : o.kind = 2 ∨ o.kind = 4 ∨ o.kind = 6) : defS o.kind = true := by
  rcases h with h | h | h <;> rw [h] <;> decide
theorem one_known (s : PS) (o : OpS) : KnN s o (oneP s o) := by
  unfold oneP
  split
  · rename_i h1
    split
    · rename_i h2
      intro j hj
      rcases set_from s o (placeK o) (placeR o) j hj with h | h
      · exact .inl h
      · exact .inr (.inl ⟨h, usesS_set h1 h2⟩)
    · rename_i h2
      split
      · exact kn_same rfl rfl
      · intro j hj
        rcases put_from (layS s o) (placeK o) (placeR o) s.m j hj with h | h
        · exact .inl h
        · exact .inr (.inr ⟨h, def_get (place_get h1 h2), ⟨rfl, fun _ => rfl, rfl⟩⟩)
  · split
    · split <;> exact kn_same rfl rfl
    · split
      · split
        · split <;> exact kn_same rfl rfl
        · exact kn_same rfl rfl
      · exact kn_same rfl rfl
theorem one_out (s : PS) (o : OpS) : KnO s o (oneP s o) := by
  have lay : ∀ x, Laid s (layO s x) x := laid_lay s
  unfold oneP
  split
  · rename_i h1
    split
    · rename_i h2
      obtain ⟨g1, g2, g3⟩ := knSet_at s o (placeK o) (placeR o)
      have hm := knSet_m s o (placeK o) (placeR o)
      refine .inl ⟨o, ⟨?_, fun i => ?_, rfl⟩, .inl (.inr ⟨rfl, rfl⟩)⟩
      · show (knSet s o (placeK o) (placeR o)).m + 1 = _
        rw [hm]
      · show (if i < (knSet s o (placeK o) (placeR o)).m then (knSet s o (placeK o) (placeR o)).f i else o) = _
        rw [hm, g3]
    · rename_i h2
      split
      · rename_i hj
        exact .inr ⟨⟨rfl, rfl, rfl⟩, .inl ⟨place_get h1 h2, _, hj, rfl⟩⟩
      · exact .inl ⟨o, ⟨rfl, fun _ => rfl, rfl⟩, .inl (.inr ⟨rfl, rfl⟩)⟩
  · split
    · rename_i h8
      split
      · exact .inl ⟨_, lay _, .inr (.inl ⟨h8, ⟨_, rfl⟩, rfl⟩)⟩
      · exact .inl ⟨o, lay o, .inl (.inr ⟨rfl, rfl⟩)⟩
    · split
      · rename_i h15
        split
        · split
          · exact .inr ⟨⟨rfl, rfl, rfl⟩, .inr h15⟩
          · exact .inl ⟨_, ⟨rfl, fun _ => rfl, rfl⟩, .inr (.inr ⟨h15, rfl, rfl⟩)⟩
        · exact .inl ⟨o, lay o, .inl (.inr ⟨rfl, rfl⟩)⟩
      · exact .inl ⟨o, lay o, .inl (.inr ⟨rfl, rfl⟩)⟩
def wOp (o : OpS) : Nat := if o.kind = 8 ∨ o.kind = 15 then 2 else 1
def wt (f : Nat → OpS) : Nat → Nat
  | 0 => 0
  | n + 1 => wt f n + wOp (f n)
theorem wt_congr {f g : Nat → OpS} : ∀ {n : Nat}, (∀ i, i < n → f i = g i) → wt f n = wt g n
  | 0, _ => rfl
  | n + 1, h => by simp only [wt]; rw [wt_congr fun i hi => h i (by omega), h n (by omega)]
theorem wt_mono (f : Nat → OpS) {n m : Nat} (h : n ≤ m) : wt f n ≤ wt f m := by
  induction m with
  | zero => rw [Nat.le_zero.1 h]; exact Nat.le_refl _
  | succ m ih =>
    by_cases e : n = m + 1
    · rw [e]; exact Nat.le_refl _
    · simp only [wt]; have := ih (by omega); omega
theorem wOp_pos (o : OpS) : 1 ≤ wOp o := by unfold wOp; split <;> omega
theorem fieldBad_reO (s : PS) {o : OpS} (h : fieldBad o = false) : fieldBad (reO s o) = false := by
  unfold fieldBad at h ⊢
  simp only [Bool.or_eq_false_iff, Bool.and_eq_false_iff, decide_eq_false_iff_not, bne_eq_false_iff_eq] at h ⊢
  obtain ⟨⟨⟨⟨⟨h1, h2⟩, h3⟩, h4⟩, h5⟩, h6⟩ := h
  refine ⟨⟨⟨⟨⟨h1, h2⟩, h3⟩, h4⟩, ?_⟩, ?_⟩
  · rcases h5 with h5 | h5
    · exact .inl h5
    · by_cases hu : 0 < usesS o.kind
      · exact .inl (by show ¬ usesS o.kind < 1; omega)
      · exact .inr (by show (if 0 < usesS o.kind then _ else o.a) = 0; rw [if_neg hu]; exact h5)
  · rcases h6 with h6 | h6
    · exact .inl h6
    · by_cases hu : 1 < usesS o.kind
      · exact .inl (by show ¬ usesS o.kind < 2; omega)
      · exact .inr (by show (if 1 < usesS o.kind then _ else o.b) = 0; rw [if_neg hu]; exact h6)
theorem usesOk_of {o : OpS} {m : Nat} {f : Nat → OpS} : ∀ {u : Nat}, (∀ i, i < u → 0 ≤ useF o i ∧ useF o i < m ∧ defS (f (useF o i).toNat).kind = true) → usesOk o m f u = true
  | 0, _ => rfl
  | u + 1, h => by
    have h1 := usesOk_of (o := o) (m := m) (f := f) fun i hi => h i (Nat.lt_succ_of_lt hi)
    have h2 := h u (Nat.lt_succ_self u)
    simp only [usesOk, h1, useOk_eq, Bool.true_and, Bool.not_eq_true', Bool.or_eq_false_iff, decide_eq_false_iff_not]
    exact ⟨⟨by omega, by omega⟩, by rw [h2.2.2]; rfl⟩
theorem rop_iff {o : OpS} {m : Nat} {f : Nat → OpS} : ropS o m f = true ↔ fieldBad o = false ∧ ∀ i, i < usesS o.kind → 0 ≤ useF o i ∧ useF o i < m ∧ defS (f (useF o i).toNat).kind = true := by
  unfold ropS
  simp only [Bool.and_eq_true, Bool.not_eq_true']
  exact ⟨fun h => ⟨h.1, fun i hi => usesOk_at h.2 hi⟩, fun h => ⟨h.1, usesOk_of h.2⟩⟩
theorem rop_congr {o : OpS} {m : Nat} {f g : Nat → OpS} (h : ∀ i, i < m → g i = f i) (hr : ropS o m f = true) : ropS o m g = true := by
  rw [rop_iff] at hr ⊢
  refine ⟨hr.1, fun i hi => ?_⟩
  obtain ⟨h1, h2, h3⟩ := hr.2 i hi
  exact ⟨h1, h2, by rw [h _ (by omega)]; exact h3⟩
structure PsR (s : PS) : Prop where
  ok : PsOk s
  op : ∀ k, k < s.m → ropS (s.f k) k s.f = true
  dA : ∀ j, j < s.na → defS (s.b.f j).kind = true → defS (s.f (s.a j).toNat).kind = true
  dK : ∀ j, j < s.kn → defS (s.f (s.kv j).toNat).kind = true
  hd : 0 < s.na → 0 < s.m ∧ s.f 0 = s.b.f 0
  w : wt s.f s.m ≤ wt s.b.f s.na
  e : wt s.f s.m = wt s.b.f s.na → s.m = s.na ∧ (∀ j, j < s.na → s.a j = j) ∧ ∀ k, k < s.m → s.f k = s.b.f k
theorem ps0_r {b : BlkS} (hr : rightS b = true) : PsR (ps0 b) := ⟨ps0_ok hr, fun k h => absurd h (Nat.not_lt_zero k), fun j h => absurd h (Nat.not_lt_zero j), fun j h => absurd h (Nat.not_lt_zero j), fun h => absurd h (Nat.not_lt_zero _), Nat.le_refl _, fun _ => ⟨rfl, fun j h => absurd h (Nat.not_lt_zero j), fun k h => absurd h (Nat.not_lt_zero k)⟩⟩
theorem reO_rop {s : PS} (h : PsR s) (hlt : s.na < s.b.n) : ropS (reO s (s.b.f s.na)) s.m s.f = true := by
  have hop := rop_iff.1 (opsOk_at (right_ops h.ok.r) hlt).1
  rw [rop_iff]
  refine ⟨fieldBad_reO s hop.1, fun i hi => ?_⟩
  have hi : i < usesS (s.b.f s.na).kind := hi
  have hu2 : usesS (s.b.f s.na).kind ≤ 2 := by unfold usesS; (repeat' split) <;> omega
  obtain ⟨h1, h2, h3⟩ := hop.2 i hi
  have he : useF (reO s (s.b.f s.na)) i = s.a (useF (s.b.f s.na) i).toNat := by
    match i, hi with
    | 0, hi => show (if 0 < usesS (s.b.f s.na).kind then _ else _) = _; rw [if_pos hi]; rfl
    | 1, hi => show (if 1 < usesS (s.b.f s.na).kind then _ else _) = _; rw [if_pos hi]; rfl
    | i + 2, hi => omega
  have hlt' : (useF (s.b.f s.na) i).toNat < s.na := by omega
  rw [he]
  obtain ⟨g1, g2⟩ := h.ok.at_ _ hlt' h3
  exact ⟨g1, g2, h.dA _ hlt' h3⟩
theorem constO_rop (n : Int) (m : Nat) (f : Nat → OpS) : ropS (constO n) m f = true := rop_iff.2 ⟨by simp [fieldBad, constO, rightF, hasR, hasImm, hasOrd], fun i hi => by
  have : usesS (constO n).kind = 0 := by show usesS 1 = 0; decide
  omega⟩
theorem exitO_rop (n : Int) (m : Nat) (f : Nat → OpS) : ropS (exitO n) m f = true := rop_iff.2 ⟨by simp [fieldBad, exitO, rightF, hasR, hasImm, hasOrd], fun i hi => by
  have : usesS (exitO n).kind = 0 := by show usesS 16 = 0; decide
  omega⟩
theorem right_first {b : BlkS} (hr : rightS b = true) : (b.f 0).kind = 14 ∧ (b.f 0).imm = b.pc := by
  unfold rightS head2 at hr
  simp only [Bool.and_eq_true, Bool.not_eq_true', Bool.or_eq_false_iff, bne_eq_false_iff_eq] at hr
  exact hr.1.2
theorem reO_none {s : PS} {o : OpS} (h : usesS o.kind = 0) : reO s o = o := by
  unfold reO
  rw [if_neg (by omega), if_neg (by omega)]
theorem reO_id {s : PS} {b : BlkS} (hr : rightS b = true) {k : Nat} (hk : k < b.n) (ha : ∀ j, j < k → s.a j = j) : reO s (b.f k) = b.f k := by
  have hu := fun i (hi : i < usesS (b.f k).kind) => right_use hr hk hi
  have h0 : (if 0 < usesS (b.f k).kind then s.a (b.f k).a.toNat else (b.f k).a) = (b.f k).a := by
    split
    · rename_i h
      obtain ⟨h1, h2, _⟩ := hu 0 h
      have e : useF (b.f k) 0 = (b.f k).a := rfl
      rw [e] at h1 h2
      rw [ha _ (by omega)]
      omega
    · rfl
  have h1 : (if 1 < usesS (b.f k).kind then s.a (b.f k).b.toNat else (b.f k).b) = (b.f k).b := by
    split
    · rename_i h
      obtain ⟨h1, h2, _⟩ := hu 1 h
      have e : useF (b.f k) 1 = (b.f k).b := rfl
      rw [e] at h1 h2
      rw [ha _ (by omega)]
      omega
    · rfl
  unfold reO
  rw [h0, h1]
theorem out_kinds {s : PS} {o : OpS} {r : One} (h : KnO s o r) : (∃ x, Laid s r x ∧ (x = o ∨ (o.kind = 8 ∧ ∃ n, x = constO n) ∨ (o.kind = 15 ∧ x = exitO o.imm ∧ r.e = true))) ∨ (Gone s r ∧ (((o.kind = 2 ∨ o.kind = 4 ∨ o.kind = 6) ∧ ∃ j, j < s.kn ∧ r.v = s.kv j) ∨ o.kind = 15)) := by
  rcases h with ⟨x, hl, h⟩ | h
  · refine .inl ⟨x, hl, ?_⟩
    rcases h with h | h | h
    · exact .inl (h.elim (·.1) (·.1))
    · exact .inr (.inl ⟨h.1, h.2.1⟩)
    · exact .inr (.inr h)
  · exact .inr h
theorem after_r {s : PS} (h : PsR s) (hlt : s.na < s.b.n) : PsR (afterP s) := by
  have hok := after_ok h.ok hlt
  have ho := nextP_ok h.ok hlt
  have hout := out_kinds (r := nextP s) (show KnO s (reO s (s.b.f s.na)) (nextP s) from one_out s _)
  have hkn := one_known s (reO s (s.b.f s.na))
  have hrop := reO_rop h hlt
  have hropi := rop_iff.1 hrop
  have hm := h.ok.m
  have hfst := right_first h.ok.r
  have hid : (∀ j, j < s.na → s.a j = j) → reO s (s.b.f s.na) = s.b.f s.na := fun ha => reO_id h.ok.r hlt ha
  have hz : s.na = 0 → reO s (s.b.f s.na) = s.b.f 0 := fun e => by rw [e]; exact reO_none (by rw [hfst.1]; decide)
  have hkd : (reO s (s.b.f s.na)).kind = (s.b.f s.na).kind := rfl
  have hwo : wOp (reO s (s.b.f s.na)) = wOp (s.b.f s.na) := rfl
  change KnN s (reO s (s.b.f s.na)) (nextP s) at hkn
  revert hok
  unfold afterP
  intro hok
  generalize reO s (s.b.f s.na) = o at *
  generalize nextP s = r at *
  obtain ⟨⟨rb, rm, rf, rna, ra, rkn, rkk, rkr, rkv⟩, rv, re, rl⟩ := r
  obtain ⟨hb, hna, ha, hmm, hf, hkr, hv⟩ := ho
  simp only at *
  subst hb hna ha
  have hoa : 1 ≤ usesS o.kind → 0 ≤ o.a ∧ o.a < s.m ∧ defS (s.f o.a.toNat).kind = true := fun hu => hropi.2 0 hu
  rcases hout with ⟨x, hl, hx⟩ | ⟨hg, hx⟩
  · obtain ⟨hl1, hl2, hl3⟩ := hl
    simp only at hl1 hl2 hl3
    subst hl1
    obtain rfl : rf = fun i => if i < s.m then s.f i else x := funext hl2
    subst hl3
    have hold : ∀ i, i < s.m → (fun i => if i < s.m then s.f i else x) i = s.f i := fun i hi => if_pos hi
    have hnew : (fun i => if i < s.m then s.f i else x) s.m = x := if_neg (Nat.lt_irrefl _)
    have hxr : ropS x s.m s.f = true := by
      rcases hx with rfl | ⟨_, n, rfl⟩ | ⟨_, rfl, _⟩
      · exact hrop
      · exact constO_rop _ _ _
      · exact exitO_rop _ _ _
    have hxd : defS o.kind = true → defS x.kind = true := fun hd => by
      rcases hx with rfl | ⟨_, n, rfl⟩ | ⟨h15, rfl, _⟩
      · exact hd
      · show defS 1 = true; decide
      · rw [h15] at hd; exact absurd hd (by decide)
    have hxw : wOp x ≤ wOp o := by
      rcases hx with rfl | ⟨h8, n, rfl⟩ | ⟨h15, rfl, _⟩
      · exact Nat.le_refl _
      · have : wOp (constO n) = 1 := by simp [wOp, constO]
        rw [this]; exact wOp_pos o
      · have : wOp (exitO o.imm) = 1 := by simp [wOp, exitO]
        rw [this]; exact wOp_pos o
    have hxe : wOp x = wOp o → x = o := fun he => by
      rcases hx with rfl | ⟨h8, n, rfl⟩ | ⟨h15, rfl, _⟩
      · rfl
      · have h1 : wOp (constO n) = 1 := by simp [wOp, constO]
        have h2 : wOp o = 2 := by simp [wOp, h8]
        omega
      · have h1 : wOp (exitO o.imm) = 1 := by simp [wOp, exitO]
        have h2 : wOp o = 2 := by simp [wOp, h15]
        omega
    have hwt : wt (fun i => if i < s.m then s.f i else x) (s.m + 1) = wt s.f s.m + wOp x := by
      simp only [wt]
      rw [wt_congr hold, if_neg (Nat.lt_irrefl _)]
    refine ⟨hok, fun k hk => ?_, fun j hj hd => ?_, fun j hj => ?_, fun _ => ?_, ?_, fun he => ?_⟩
    · have hk : k < s.m + 1 := hk
      by_cases e : k = s.m
      · subst e
        show ropS ((fun i => if i < s.m then s.f i else x) s.m) s.m _ = true
        rw [hnew]
        exact rop_congr hold hxr
      · show ropS ((fun i => if i < s.m then s.f i else x) k) k _ = true
        rw [hold k (by omega)]
        exact rop_congr (fun i hi => hold i (by omega)) (h.op k (by omega))
    · have hj : j < s.na + 1 := hj
      have hd : defS (s.b.f j).kind = true := hd
      show defS ((fun i => if i < s.m then s.f i else x) (if j < s.na then s.a j else (s.m : Int)).toNat).kind = true
      by_cases e : j < s.na
      · have := h.ok.at_ j e hd
        rw [if_pos e, hold _ (by omega)]
        exact h.dA j e hd
      · have e2 : j = s.na := by omega
        subst e2
        rw [if_neg e, Int.toNat_natCast, hnew]
        exact hxd (by rw [hkd]; exact hd)
    · show defS ((fun i => if i < s.m then s.f i else x) (rkv j).toNat).kind = true
      rcases hkn j hj with ⟨i, hi, e⟩ | ⟨e, hu⟩ | ⟨e, hd, hl⟩
      · have e : rkv j = s.kv i := e
        have := h.ok.kn i hi
        rw [e, hold _ (by omega)]
        exact h.dK i hi
      · have e : rkv j = o.a := e
        obtain ⟨g1, g2, g3⟩ := hoa hu
        rw [e, hold _ (by omega)]
        exact g3
      · have e : rkv j = (s.m : Int) := e
        rw [e, Int.toNat_natCast, hnew]
        exact hxd hd
    · show 0 < s.m + 1 ∧ (fun i => if i < s.m then s.f i else x) 0 = s.b.f 0
      refine ⟨by omega, ?_⟩
      by_cases e : s.na = 0
      · have hm0 : s.m = 0 := by omega
        have hx0 : x = o := by
          rcases hx with rfl | ⟨h8, _⟩ | ⟨h15, _⟩
          · rfl
          · rw [hz e] at h8; rw [hfst.1] at h8; exact absurd h8 (by decide)
          · rw [hz e] at h15; rw [hfst.1] at h15; exact absurd h15 (by decide)
        show (if 0 < s.m then s.f 0 else x) = _
        rw [if_neg (by omega), hx0, hz e]
      · obtain ⟨g1, g2⟩ := h.hd (by omega)
        rw [hold 0 g1, g2]
    · show wt (fun i => if i < s.m then s.f i else x) (s.m + 1) ≤ wt s.b.f (s.na + 1)
      rw [hwt]
      simp only [wt]
      have := h.w
      omega
    · have he : wt (fun i => if i < s.m then s.f i else x) (s.m + 1) = wt s.b.f (s.na + 1) := he
      rw [hwt] at he
      simp only [wt] at he
      have hw := h.w
      obtain ⟨g1, g2, g3⟩ := h.e (by omega)
      have hxo := hxe (by omega)
      show s.m + 1 = s.na + 1 ∧ (∀ j, j < s.na + 1 → (if j < s.na then s.a j else (s.m : Int)) = j) ∧ ∀ k, k < s.m + 1 → (fun i => if i < s.m then s.f i else x) k = s.b.f k
      refine ⟨by omega, fun j hj => ?_, fun k hk => ?_⟩
      · split
        · exact g2 j (by assumption)
        · omega
      · by_cases e : k = s.m
        · subst e
          rw [hnew, hxo, hid g2, g1]
        · rw [hold k (by omega)]
          exact g3 k (by omega)
  · obtain ⟨hg1, hg2, hg3⟩ := hg
    simp only at hg1 hg2 hg3
    subst hg1 hg2
    refine ⟨hok, h.op, fun j hj hd => ?_, fun j hj => ?_, fun _ => ?_, ?_, fun he => ?_⟩
    · have hj : j < s.na + 1 := hj
      have hd : defS (s.b.f j).kind = true := hd
      show defS (s.f (if j < s.na then s.a j else rv).toNat).kind = true
      by_cases e : j < s.na
      · rw [if_pos e]; exact h.dA j e hd
      · have e2 : j = s.na := by omega
        subst e2
        rw [if_neg e]
        rcases hx with ⟨_, i, hi, hvi⟩ | h15
        · rw [show rv = s.kv i from hvi]; exact h.dK i hi
        · rw [← hkd, h15] at hd; exact absurd hd (by decide)
    · show defS (s.f (rkv j).toNat).kind = true
      rcases hkn j hj with ⟨i, hi, e⟩ | ⟨e, hu⟩ | ⟨e, hd, hl⟩
      · rw [show rkv j = s.kv i from e]; exact h.dK i hi
      · rw [show rkv j = o.a from e]; exact (hoa hu).2.2
      · exact absurd hl.m (by show ¬ s.m = s.m + 1; omega)
    · show 0 < s.m ∧ s.f 0 = s.b.f 0
      by_cases e : s.na = 0
      · exfalso
        have h14 : o.kind = 14 := by rw [hz e]; exact hfst.1
        rcases hx with ⟨hk, _⟩ | hk
        · rw [h14] at hk; exact absurd hk (by decide)
        · rw [h14] at hk; exact absurd hk (by decide)
      · exact h.hd (by omega)
    · show wt s.f s.m ≤ wt s.b.f (s.na + 1)
      simp only [wt]
      have := h.w
      omega
    · exfalso
      have he : wt s.f s.m = wt s.b.f (s.na + 1) := he
      simp only [wt] at he
      have := h.w
      have := wOp_pos (s.b.f s.na)
      omega
end Go.Proofs.Ytmbnakinhnkabaa

namespace Go.Proofs.Ytmbnakinhnkabaa
open Go.AM
set_option maxRecDepth 100000
set_option linter.unusedSimpArgs false
set_option linter.unusedVariables false
def Nd (s : PS) : Prop := ∀ k, k < s.m → endS (s.f k).kind = false
theorem end_at {b : BlkS} (hr : rightS b = true) {k : Nat} (hk : k < b.n) : endS (b.f k).kind = true ↔ k + 1 = b.n := by
  rw [(opsOk_at (right_ops hr) hk).2, decide_eq_true_eq]
  omega
theorem after_nd {s : PS} (h : PsR s) (hn : Nd s) (hlt : s.na < s.b.n) (he : (nextP s).e = false) (hl : s.na + 1 < s.b.n) : Nd (afterP s) := by
  have hout := out_kinds (r := nextP s) (show KnO s (reO s (s.b.f s.na)) (nextP s) from one_out s _)
  have hne : ¬ endS (s.b.f s.na).kind = true := fun e => by have := (end_at h.ok.r hlt).1 e; omega
  have hkd : (reO s (s.b.f s.na)).kind = (s.b.f s.na).kind := rfl
  intro k hk
  have hk : k < (nextP s).s.m := hk
  show endS ((nextP s).s.f k).kind = false
  rcases hout with ⟨x, hl', hx⟩ | ⟨hg, hx⟩
  · rw [hl'.m] at hk
    rw [hl'.f]
    split
    · exact hn k (by assumption)
    · rcases hx with rfl | ⟨_, n, rfl⟩ | ⟨_, rfl, e⟩
      · rw [hkd]; simpa using hne
      · show endS 1 = false; decide
      · rw [he] at e; cases e
  · rw [hg.m] at hk
    rw [hg.f]
    exact hn k hk
def EndOk (s : PS) : Prop := ∃ m0, s.m = m0 + 1 ∧ endS (s.f m0).kind = true ∧ ∀ k, k < m0 → endS (s.f k).kind = false
theorem after_end {s : PS} (h : PsR s) (hn : Nd s) (hlt : s.na < s.b.n) (hc : (nextP s).e = true ∨ s.na + 1 = s.b.n) : EndOk (afterP s) := by
  have hout := show KnO s (reO s (s.b.f s.na)) (nextP s) from one_out s _
  have hkd : (reO s (s.b.f s.na)).kind = (s.b.f s.na).kind := rfl
  have fin : ∀ x, Laid s (nextP s) x → endS x.kind = true → EndOk (afterP s) := fun x hl hx => by
    refine ⟨s.m, hl.m, ?_, fun k hk => ?_⟩
    · show endS ((nextP s).s.f s.m).kind = true
      rw [hl.f, if_neg (Nat.lt_irrefl _)]; exact hx
    · show endS ((nextP s).s.f k).kind = false
      rw [hl.f, if_pos hk]; exact hn k hk
  have hend : (nextP s).e = false → endS (reO s (s.b.f s.na)).kind = true := fun e => by
    rw [hkd, end_at h.ok.r hlt]
    rcases hc with hc | hc
    · rw [hc] at e; cases e
    · exact hc
  have no : ∀ {k : Int}, (k = 8 ∨ k = 15 ∨ k = 2 ∨ k = 4 ∨ k = 6) → endS k = true → False := fun {k} hk he => by
    rcases hk with rfl | rfl | rfl | rfl | rfl <;> exact absurd he (by decide)
  rcases hout with ⟨x, hl, hx⟩ | ⟨hg, hx⟩
  · rcases hx with hx | ⟨h8, hx, he⟩ | ⟨h15, rfl, he⟩
    · have hxo : x = reO s (s.b.f s.na) := hx.elim (·.1) (·.1)
      have he : (nextP s).e = false := hx.elim (·.2.1) (·.2)
      exact fin x hl (by rw [hxo]; exact hend he)
    · exact (no (.inl h8) (hend he)).elim
    · exact fin _ hl (by show endS 16 = true; decide)
  · have he := hend hg.e
    rcases hx with ⟨hk, _⟩ | hk
    · exact (no (by rcases hk with h | h | h <;> simp [h]) he).elim
    · exact (no (.inr (.inl hk)) he).elim
theorem stepN_fin : ∀ (t : Nat) {s : PS}, PsR s → Nd s → s.na < s.b.n → s.b.n - s.na ≤ t → PsR (stepN t s) ∧ EndOk (stepN t s) ∧ 0 < (stepN t s).na ∧ (stepN t s).b = s.b
  | 0, s, _, _, hlt, ht => by omega
  | t + 1, s, h, hn, hlt, ht => by
    have hr := after_r h hlt
    have hb := after_b h.ok hlt
    have hna := after_na h.ok hlt
    simp only [stepN, hlt, if_true]
    cases he : (nextP s).e with
    | true =>
      simp only [if_true]
      exact ⟨hr, after_end h hn hlt (.inl he), by rw [hna]; omega, hb⟩
    | false =>
      simp only [Bool.false_eq_true, if_false]
      by_cases hl : s.na + 1 < s.b.n
      · obtain ⟨g1, g2, g3, g4⟩ := stepN_fin t hr (after_nd h hn hlt he hl) (by rw [hb, hna]; exact hl) (by rw [hb, hna]; omega)
        exact ⟨g1, g2, g3, g4.trans hb⟩
      · have hend := after_end h hn hlt (.inr (by omega))
        have hst : stepN t (afterP s) = afterP s := by
          cases t with
          | zero => rfl
          | succ t => simp only [stepN]; rw [if_neg (by rw [hb, hna]; omega)]
        rw [hst]
        exact ⟨hr, hend, by rw [hna]; omega, hb⟩
theorem step_fin {b : BlkS} (hr : rightS b = true) : PsR (stepS b) ∧ EndOk (stepS b) ∧ 0 < (stepS b).na ∧ (stepS b).b = b :=
  stepN_fin b.n (ps0_r hr) (fun k h => absurd h (Nat.not_lt_zero k)) (right_n hr).1 (by show b.n - 0 ≤ b.n; omega)
theorem fold_n {b : BlkS} (hr : rightS b = true) : 1 ≤ (foldB b).n ∧ (foldB b).n ≤ b.n := by
  obtain ⟨h1, ⟨m0, h2, _⟩, h3, h4⟩ := step_fin hr
  have hm := h1.ok.m
  have hna := h1.ok.na
  rw [h4] at hna
  show 1 ≤ (stepS b).m ∧ (stepS b).m ≤ b.n
  omega
theorem fold_right {b : BlkS} (hr : rightS b = true) : rightS (foldB b) = true := by
  obtain ⟨h1, ⟨m0, h2, h3, h4⟩, h5, h6⟩ := step_fin hr
  have hn := fold_n hr
  have hbn := right_n hr
  have hfst := right_first hr
  obtain ⟨g1, g2⟩ := h1.hd h5
  have ho : opsOk (foldB b) (foldB b).n = true := opsOk_all fun k hk => by
    have hk : k < (stepS b).m := hk
    refine ⟨h1.op k hk, ?_⟩
    show endS ((stepS b).f k).kind = decide ((k : Int) = ((stepS b).m : Int) - 1)
    by_cases e : k = m0
    · subst e
      rw [h3, decide_eq_true (by omega)]
    · rw [h4 k (by omega), decide_eq_false (by omega)]
  have h0 : ((foldB b).f 0).kind = 14 ∧ ((foldB b).f 0).imm = b.pc := by
    show ((stepS b).f 0).kind = 14 ∧ ((stepS b).f 0).imm = b.pc
    rw [g2, h6]; exact hfst
  unfold rightS
  rw [ho, Bool.and_true]
  unfold rightS at hr
  simp only [Bool.and_eq_true, Bool.not_eq_true'] at hr ⊢
  constructor
  · have hh := hr.1.1
    unfold head1 at hh ⊢
    simp only [Bool.or_eq_false_iff, decide_eq_false_iff_not] at hh ⊢
    obtain ⟨⟨⟨⟨⟨⟨a1, a2⟩, a3⟩, a4⟩, a5⟩, a6⟩, a7⟩ := hh
    exact ⟨⟨⟨⟨⟨⟨a1, a2⟩, a3⟩, a4⟩, a5⟩, by omega⟩, by omega⟩
  · unfold head2
    rw [h0.1, h0.2]
    show ((14 : Int) != 14 || b.pc != b.pc) = false
    simp
theorem fold_lt {b : BlkS} (hr : rightS b = true) (hc : chgS b = true) : wt (foldB b).f (foldB b).n < wt b.f b.n := by
  obtain ⟨h1, _, _, h6⟩ := step_fin hr
  have hw := h1.w
  have he := h1.e
  have hna := h1.ok.na
  rw [h6] at hw he hna
  have hmono := wt_mono b.f hna
  show wt (stepS b).f (stepS b).m < wt b.f b.n
  rcases Nat.lt_or_ge (wt (stepS b).f (stepS b).m) (wt b.f b.n) with h | h
  · exact h
  · exfalso
    obtain ⟨e1, _, e3⟩ := he (by omega)
    have hn : (stepS b).na = b.n := by
      rcases Nat.lt_or_ge (stepS b).na b.n with hlt | hge
      · exfalso
        have h2 := wt_mono b.f (show (stepS b).na + 1 ≤ b.n from hlt)
        simp only [wt] at h2
        have := wOp_pos (b.f (stepS b).na)
        omega
      · omega
    have : eqOps (stepS b).m b.n (stepS b).f b.f = true := eqOps_iff.2 ⟨by omega, e3⟩
    unfold chgS at hc
    rw [this] at hc
    cases hc
def foldIt : Nat → BlkS → BlkS
  | 0, b => foldB b
  | t + 1, b => if chgS b = true then foldIt t (foldB b) else foldB b
def foldF (b : BlkS) : BlkS := foldIt (wt b.f b.n) b
theorem foldIt_more : ∀ {t u : Nat} {b : BlkS}, rightS b = true → wt b.f b.n ≤ t → wt b.f b.n ≤ u → foldIt t b = foldIt u b
  | 0, u, b, hr, ht, hu => by
    have := fold_n hr
    have hw := wt_mono b.f (show 1 ≤ b.n from (right_n hr).1)
    simp only [wt] at hw
    have := wOp_pos (b.f 0)
    omega
  | t + 1, 0, b, hr, ht, hu => by
    have hw := wt_mono b.f (show 1 ≤ b.n from (right_n hr).1)
    simp only [wt] at hw
    have := wOp_pos (b.f 0)
    omega
  | t + 1, u + 1, b, hr, ht, hu => by
    simp only [foldIt]
    split
    · rename_i hc
      have := fold_lt hr hc
      exact foldIt_more (fold_right hr) (by omega) (by omega)
    · rfl
theorem foldF_step {b : BlkS} (hr : rightS b = true) : foldF b = if chgS b = true then foldF (foldB b) else foldB b := by
  unfold foldF
  have hw := wt_mono b.f (show 1 ≤ b.n from (right_n hr).1)
  simp only [wt] at hw
  have := wOp_pos (b.f 0)
  obtain ⟨t, ht⟩ : ∃ t, wt b.f b.n = t + 1 := ⟨wt b.f b.n - 1, by omega⟩
  rw [ht]
  simp only [foldIt]
  split
  · rename_i hc
    have := fold_lt hr hc
    exact foldIt_more (fold_right hr) (by omega) (Nat.le_refl _)
  · rfl
def retFold (b : BlkS) (i : Nat) : AV := if rightS b = true then .tup [.agg (blkL (foldF b) i), .c (.int .i64 0)] else .tup [.agg zBlkL, .c (.int .i64 4)]
def heapFold0 (b : BlkS) : Heap := if rightS b = true then ⟨3, [(2, blkB (foldF b) 1), (1, opsW (foldF b).n (foldF b).f), (0, opsB b.n b.f)]⟩ else ⟨2, [(1, zblk), (0, opsB b.n b.f)]⟩
def heapFold (b : BlkS) : Heap := if rightS b = true then ⟨2, [(1, opsW (foldF b).n (foldF b).f), (0, opsB b.n b.f)]⟩ else ⟨1, [(0, opsB b.n b.f)]⟩
def newStep (b : BlkS) : List Blk := if rightS b = true then [opsW (stepS b).m (stepS b).f] else []
theorem con26_at (b : BlkS) (i n : Nat) (X : List (Nat × Blk)) (w : Bool) (h0 : getB X i = some ⟨6, some b.n, fun i => opL (b.f i), 39, w⟩) (hlt : i < n) (hkl : keysLt X n) : Con Try.prog 26 [.agg (blkL b i)] ⟨n, X⟩ (fun v H' => v = retStep b n ∧ H' = addBs ⟨n, X⟩ (newStep b)) := by
  refine ((con26 b).frame (H := ⟨n, X⟩) [i] rfl ⟨trivial, trivial⟩ ⟨hlt, trivial⟩ hkl (by simp only [leBlks, nthO, h0]; exact ⟨ops_le b.n b.f w, trivial⟩) (by simp only [leArgs, leV, leV1, blkL, leSegs, leSeg, leC, leA, nthO, and_self])).weaken ?_
  rintro v H' ⟨v0, H0', ⟨rfl, rfl⟩, rfl, rfl⟩
  unfold retStep heapStep newStep
  cases rightS b
  · simp only [framed, dropB_ro i b.n 0]
    exact ⟨rfl, rfl⟩
  · simp only [framed, dropB_ro i b.n 0]
    exact ⟨rfl, rfl⟩
end Go.Proofs.Ytmbnakinhnkabaa

namespace Go.Proofs.Ytmbnakinhnkabaa
open Go.AM
set_option maxRecDepth 100000
set_option linter.unusedSimpArgs false
set_option linter.unusedVariables false
def stB0 (b : BlkS) : St := ⟨[⟨2, [], .c (.ptr ⟨2, 0, 0, 0⟩)⟩, ⟨1, [], .c (.ptr ⟨1, 0, 0, 0⟩)⟩], ⟨3, [(2, zblk), (1, blkB b 0), (0, opsB b.n b.f)]⟩⟩
def stB (b cb : BlkS) : St := ⟨[⟨2, [], .c (.ptr ⟨2, 0, 0, 0⟩)⟩, ⟨1, [], .c (.ptr ⟨1, 0, 0, 0⟩)⟩], ⟨4, [(3, opsW cb.n cb.f), (2, zblk), (1, blkB cb 3), (0, opsB b.n b.f)]⟩⟩
theorem end_fold {l : List Slot} {H : Heap} {b T : BlkS} (hF : T = foldF b) (hr : rightS b = true) (N : Nat) (hN : notIn N [0, 2]) (s2 : slotAt l 2 = some ⟨2, [], .c (.ptr ⟨2, 0, 0, 0⟩)⟩) (s3 : slotAt l 3 = some ⟨3, [], .c (.int .i64 0)⟩)
    (g2 : getB H.blks 2 = some (blkB T N)) (g5 : getB H.blks N = some (opsW T.n T.f)) (g0 : getB H.blks 0 = some (opsB b.n b.f)) : endQ (LeS 1) [.cn 4 2, .tmp 3] (fun v H' => v = retFold b 1 ∧ H' = heapFold0 b) .ret ⟨l, H⟩ := by
  subst hF
  have hR : retFold b 1 = .tup [.agg (blkL (foldF b) 1), .c (.int .i64 0)] := by unfold retFold; rw [if_pos hr]
  have hH : heapFold0 b = ⟨3, [(2, blkB (foldF b) 1), (1, opsW (foldF b).n (foldF b).f), (0, opsB b.n b.f)]⟩ := by unfold heapFold0; rw [if_pos hr]
  rw [hR, hH]
  obtain ⟨n0, n2, _⟩ := hN
  have n0' : Nat.beq 0 N = false := by rw [beq_commG]; exact n0
  refine end_of ⟨[⟨2, [], .c (.ptr ⟨2, 0, 0, 0⟩)⟩, ⟨3, [], .c (.int .i64 0)⟩], ⟨3, [(2, blkB (foldF b) 1), (1, opsW (foldF b).n (foldF b).f), (0, opsB b.n b.f)]⟩⟩ (LeS.intro [0, N, 2] (fun i h => idtF i h) (by simp only [diff, notIn, n0', n2, Nat.beq, and_self]) rfl (by simp only [slotsLe, s2, s3, leV, leV1, leC, leA, nthO, and_self]) ?_) ?_
  · simp only [leBlks, nthO, g2, g5, g0]
    exact ⟨blk_le' (foldF b) N 1 rfl, opsw_le _ _ _ (fun _ _ => rfl), ops_le b.n b.f false, trivial⟩
  · simp only [endF, resL, resA, St.get, slotAt, Nat.beq, sfx, eqP, ldn, getB, blkB, blkL, rowNeed, cut, dropS, takeS, Seg.size, nsub, noTup, resV]
    exact ⟨by first | rfl | trivial, by first | rfl | trivial⟩
set_option maxHeartbeats 8000000 in
theorem con25_0 (b : BlkS) : Con Try.prog 25 [.agg (blkL b 0)] ⟨1, [(0, opsB b.n b.f)]⟩ (fun v H' => v = retFold b 1 ∧ H' = heapFold0 b) := by
  (refine con_of_run mixed (fn := Try.f25) (by kernel_rfl) (by kernel_rfl) C25_ok (rs := [.cn 4 2, .tmp 3]) (by kernel_rfl) (Nat.le_of_ble_eq_true (by kernel_rfl)) ?_; unfold C25; simp only [initT, Nat.reduceAdd])
  refine run_seq ?_
  (refine run_regionL fun K hK => ?_; (try (simp (maxSteps := 10000000) only [blkL, opsB, partsOf, fillS, C25r0, C25r1, C25r2, C25r3, C25r4, rwp_nil, rwp_cons, rwpK_app, aop, gpath, St.get, slotAt, sfx, eqP, segsOf, St.put, addBlk, getB, setB, delB, ld1, ldn, st1, stn, setRow, rowNeed, segAt, nsub, bin, un, eqB, isShift, sameK, arith, shiftR, getsl, selB_or, selB_and, beqb, shed, addN, Nat.beq, Seg.size, sizes, imp, needP, andN, appL, argsOf, ptrsOf, aasOf, cut, takeS, dropS, putS, partsOf, fillS, fieldOf, nthA, negIf, nilq, nilB, eqS, eqF, eqS1, andP, kin, slcS, strOk, plusA, bndHi, leN, optG, roH, roL, initT, exOk, exAll, wrAddr, Nat.reduceAdd, Nat.reduceSub, Nat.reduceMul, Int.reduceToNat, List.append_nil, List.nil_append, List.cons_append, mapR, mapR1, keyL, keyOk, keyP, colsPut, colsDel, zcols, eqT, idxT, cat, cpy, ite_int, ite_bool, ite_seg, ite_segs, ite_nil, ite_twice, Int.toNat_natCast, app, addBs, tob])); (repeat (first | (refine And.intro ?_ ?_; · first | trivial | assumption | omega))); refine hK _ (stB0 b) (LeS.intro [0, 1, 2] (fun i h => idtF i h) (by simp only [diff, notIn, Nat.beq, and_self]) rfl (by simp only [stB0, slotsLe, slotAt, Nat.beq, leV, leV1, leC, leA, nthO, Int.natCast_zero, Int.ofNat_zero, and_self]) ⟨z_le, blk_le' b 0 0 rfl, ops_le b.n b.f false, trivial⟩) ?_; clear hK K)
  refine run_block ?_
  by_cases hr : rightS b = true
  rotate_left
  · have hr0 : rightS b = false := by simpa using hr
    have e3 : ∀ n, retStep b n = .tup [.agg zBlkL, .c (.bool false), .c (.int .i64 4)] := fun n => by unfold retStep; rw [if_neg hr]
    have e4 : newStep b = [] := by unfold newStep; rw [if_neg hr]
    refine run_loop (fun t st => st = stB0 b) 0 rfl ?_
    rintro t st rfl
    unfold stB0
    repeat' (first | refine run_seq ?_ | refine run_skip ?_ | (refine run_region fun K hK => ?_; (try (simp (maxSteps := 10000000) only [blkB, blkL, opL, opsB, opsW, zblk, e3, e4, partsOf, fillS, zBlkL, C25r0, C25r1, C25r2, C25r3, C25r4, rwp_nil, rwp_cons, rwpK_app, aop, gpath, St.get, slotAt, sfx, eqP, segsOf, St.put, addBlk, getB, setB, delB, ld1, ldn, st1, stn, setRow, rowNeed, segAt, nsub, bin, un, eqB, isShift, sameK, arith, shiftR, getsl, selB_or, selB_and, beqb, shed, addN, Nat.beq, Seg.size, sizes, imp, needP, andN, appL, argsOf, ptrsOf, aasOf, cut, takeS, dropS, putS, partsOf, fillS, fieldOf, nthA, negIf, nilq, nilB, eqS, eqF, eqS1, andP, kin, slcS, strOk, plusA, bndHi, leN, optG, roH, roL, initT, exOk, exAll, wrAddr, Nat.reduceAdd, Nat.reduceSub, Nat.reduceMul, Int.reduceToNat, List.append_nil, List.nil_append, List.cons_append, mapR, mapR1, keyL, keyOk, keyP, colsPut, colsDel, zcols, eqT, idxT, cat, cpy, ite_int, ite_bool, ite_seg, ite_segs, ite_nil, ite_twice, Int.toNat_natCast, app, addBs, tob])); (repeat (first | (refine And.intro ?_ ?_; · (first | trivial | assumption | omega | exact ⟨by omega, by omega⟩ | (intros; first | trivial | assumption | omega))) | ((first | (refine call_t _ (con26_at b 0 _ _ _ rfl (Nat.le_of_ble_eq_true rfl) (by simp [keysLt])) ?_; rintro v H' ⟨rfl, rfl⟩) | refine call_q _ (con26_at b 0 _ _ _ rfl (Nat.le_of_ble_eq_true rfl) (by simp [keysLt])) ?_ | refine call_g _ (imp_of (con26_at b 0 _ _ _ rfl (Nat.le_of_ble_eq_true rfl) (by simp [keysLt]))) ?_); simp (maxSteps := 10000000) only [blkB, blkL, opL, opsB, opsW, zblk, e3, e4, partsOf, fillS, zBlkL, C25r0, C25r1, C25r2, C25r3, C25r4, rwp_nil, rwp_cons, rwpK_app, aop, gpath, St.get, slotAt, sfx, eqP, segsOf, St.put, addBlk, getB, setB, delB, ld1, ldn, st1, stn, setRow, rowNeed, segAt, nsub, bin, un, eqB, isShift, sameK, arith, shiftR, getsl, selB_or, selB_and, beqb, shed, addN, Nat.beq, Seg.size, sizes, imp, needP, andN, appL, argsOf, ptrsOf, aasOf, cut, takeS, dropS, putS, partsOf, fillS, fieldOf, nthA, negIf, nilq, nilB, eqS, eqF, eqS1, andP, kin, slcS, strOk, plusA, bndHi, leN, optG, roH, roL, initT, exOk, exAll, wrAddr, Nat.reduceAdd, Nat.reduceSub, Nat.reduceMul, Int.reduceToNat, List.append_nil, List.nil_append, List.cons_append, mapR, mapR1, keyL, keyOk, keyP, colsPut, colsDel, zcols, eqT, idxT, cat, cpy, ite_int, ite_bool, ite_seg, ite_segs, ite_nil, ite_twice, Int.toNat_natCast, app, addBs, tob]))); with_reducible refine hK _ ?_; clear hK K) | (refine run_cond rfl (fun hc => ?_) (fun hc => ?_) <;> try (simp only [*, Bool.true_eq_false, Bool.false_eq_true, Bool.not_true, Bool.not_false, Bool.true_or, Bool.or_true, Bool.false_or, Bool.or_false, Bool.false_and, Bool.and_false, bne_self_eq_false, beq_self_eq_true] at hc; done)) | refine run_block ?_ | refine run_ret ?_ | refine run_nil ?_ | refine blk_normal ?_ | refine blk_ret ?_ | refine blk_here ?_ | refine blk_there rfl ?_ | refine loop_exit ?_ | refine loop_ret ?_ | refine un_exit ?_ | refine un_ret ?_ | refine unE_exit ?_ | refine unE_ret ?_ | refine un_normal ?_)
    refine end_of ⟨[⟨2, [], .c (.ptr ⟨1, 0, 0, 0⟩)⟩, ⟨3, [], .c (.int .i64 4)⟩], ⟨2, [(1, zblk), (0, opsB b.n b.f)]⟩⟩ (LeS.intro [0, 2] (fun i h => idtF i h) (by simp only [diff, notIn, Nat.beq, and_self]) rfl (by simp only [slotsLe, slotAt, Nat.beq, leV, leV1, leC, leA, nthO, and_self]) ⟨z_le, ops_le b.n b.f false, trivial⟩) ?_
    simp only [endF, resL, resA, St.get, slotAt, Nat.beq, sfx, eqP, ldn, getB, zblk, rowNeed, cut, dropS, takeS, Seg.size, nsub, noTup, resV]
    exact ⟨by simp only [retFold, zBlkL, hr0, Bool.false_eq_true, if_false], by simp only [heapFold0, hr0, Bool.false_eq_true, if_false, zblk]⟩
  refine run_loop (fun t st => ∃ cb, t = wt cb.f cb.n ∧ rightS cb = true ∧ foldF cb = foldF b ∧ ((cb = b ∧ st = stB0 b) ∨ st = stB b cb)) (wt b.f b.n) ⟨b, rfl, hr, rfl, .inl ⟨rfl, rfl⟩⟩ ?_
  rintro t st ⟨cb, rfl, hcr, hF, ⟨hcb, rfl⟩ | rfl⟩
  · subst hcb
    unfold stB0
    have e3 : retStep cb 3 = .tup [.agg (blkL (foldB cb) 3), .c (.bool (chgS cb)), .c (.int .i64 0)] := by unfold retStep; rw [if_pos hcr]
    have e4 : newStep cb = [opsW (stepS cb).m (stepS cb).f] := by unfold newStep; rw [if_pos hcr]
    repeat' (first | refine run_seq ?_ | refine run_skip ?_ | (refine run_region fun K hK => ?_; (try (simp (maxSteps := 10000000) only [blkB, blkL, opL, opsB, opsW, zblk, e3, e4, partsOf, fillS, C25r0, C25r1, C25r2, rwp_nil, rwp_cons, rwpK_app, aop, gpath, St.get, slotAt, sfx, eqP, segsOf, St.put, addBlk, getB, setB, delB, ld1, ldn, st1, stn, setRow, rowNeed, segAt, nsub, bin, un, eqB, isShift, sameK, arith, shiftR, getsl, selB_or, selB_and, beqb, shed, addN, Nat.beq, Seg.size, sizes, imp, needP, andN, appL, argsOf, ptrsOf, aasOf, cut, takeS, dropS, putS, partsOf, fillS, fieldOf, nthA, negIf, nilq, nilB, eqS, eqF, eqS1, andP, kin, slcS, strOk, plusA, bndHi, leN, optG, roH, roL, initT, exOk, exAll, wrAddr, Nat.reduceAdd, Nat.reduceSub, Nat.reduceMul, Int.reduceToNat, List.append_nil, List.nil_append, List.cons_append, mapR, mapR1, keyL, keyOk, keyP, colsPut, colsDel, zcols, eqT, idxT, cat, cpy, ite_int, ite_bool, ite_seg, ite_segs, ite_nil, ite_twice, Int.toNat_natCast, app, addBs, tob])); (repeat (first | (refine And.intro ?_ ?_; · (first | trivial | assumption | omega | exact ⟨by omega, by omega⟩ | (intros; first | trivial | assumption | omega))) | ((first | (refine call_t _ (con26_at cb 0 _ _ _ rfl (Nat.le_of_ble_eq_true rfl) (by simp [keysLt])) ?_; rintro v H' ⟨rfl, rfl⟩) | refine call_q _ (con26_at cb 0 _ _ _ rfl (Nat.le_of_ble_eq_true rfl) (by simp [keysLt])) ?_ | refine call_g _ (imp_of (con26_at cb 0 _ _ _ rfl (Nat.le_of_ble_eq_true rfl) (by simp [keysLt]))) ?_); simp (maxSteps := 10000000) only [blkB, blkL, opL, opsB, opsW, zblk, e3, e4, partsOf, fillS, C25r0, C25r1, C25r2, rwp_nil, rwp_cons, rwpK_app, aop, gpath, St.get, slotAt, sfx, eqP, segsOf, St.put, addBlk, getB, setB, delB, ld1, ldn, st1, stn, setRow, rowNeed, segAt, nsub, bin, un, eqB, isShift, sameK, arith, shiftR, getsl, selB_or, selB_and, beqb, shed, addN, Nat.beq, Seg.size, sizes, imp, needP, andN, appL, argsOf, ptrsOf, aasOf, cut, takeS, dropS, putS, partsOf, fillS, fieldOf, nthA, negIf, nilq, nilB, eqS, eqF, eqS1, andP, kin, slcS, strOk, plusA, bndHi, leN, optG, roH, roL, initT, exOk, exAll, wrAddr, Nat.reduceAdd, Nat.reduceSub, Nat.reduceMul, Int.reduceToNat, List.append_nil, List.nil_append, List.cons_append, mapR, mapR1, keyL, keyOk, keyP, colsPut, colsDel, zcols, eqT, idxT, cat, cpy, ite_int, ite_bool, ite_seg, ite_segs, ite_nil, ite_twice, Int.toNat_natCast, app, addBs, tob]))); with_reducible refine hK _ ?_; clear hK K) | (refine run_cond rfl (fun hc => ?_) (fun hc => ?_) <;> try (simp only [*, Bool.true_eq_false, Bool.false_eq_true, Bool.not_true, Bool.not_false, Bool.true_or, Bool.or_true, Bool.false_or, Bool.or_false, Bool.false_and, Bool.and_false, bne_self_eq_false, beq_self_eq_true] at hc; done)) | refine run_block ?_ | refine run_ret ?_ | refine run_nil ?_ | refine blk_normal ?_ | refine blk_ret ?_ | refine blk_here ?_ | refine blk_there rfl ?_ | refine loop_exit ?_ | refine loop_ret ?_ | refine un_exit ?_ | refine un_ret ?_ | refine unE_exit ?_ | refine unE_ret ?_ | refine un_normal ?_)
    · have hch : chgS cb = false := by simpa using hc
      have hF1 : foldF cb = foldB cb := by rw [foldF_step hcr, hch]; rfl
      have hF := hF1.symm.trans hF
      repeat' (first | refine run_seq ?_ | refine run_skip ?_ | (refine run_region fun K hK => ?_; (try (simp (maxSteps := 10000000) only [blkB, blkL, opL, opsB, opsW, zblk, e3, e4, partsOf, fillS, C25r0, C25r1, C25r2, C25r3, C25r4, rwp_nil, rwp_cons, rwpK_app, aop, gpath, St.get, slotAt, sfx, eqP, segsOf, St.put, addBlk, getB, setB, delB, ld1, ldn, st1, stn, setRow, rowNeed, segAt, nsub, bin, un, eqB, isShift, sameK, arith, shiftR, getsl, selB_or, selB_and, beqb, shed, addN, Nat.beq, Seg.size, sizes, imp, needP, andN, appL, argsOf, ptrsOf, aasOf, cut, takeS, dropS, putS, partsOf, fillS, fieldOf, nthA, negIf, nilq, nilB, eqS, eqF, eqS1, andP, kin, slcS, strOk, plusA, bndHi, leN, optG, roH, roL, initT, exOk, exAll, wrAddr, Nat.reduceAdd, Nat.reduceSub, Nat.reduceMul, Int.reduceToNat, List.append_nil, List.nil_append, List.cons_append, mapR, mapR1, keyL, keyOk, keyP, colsPut, colsDel, zcols, eqT, idxT, cat, cpy, ite_int, ite_bool, ite_seg, ite_segs, ite_nil, ite_twice, Int.toNat_natCast, app, addBs, tob])); (repeat (first | (refine And.intro ?_ ?_; · (first | trivial | assumption | omega | exact ⟨by omega, by omega⟩ | (intros; first | trivial | assumption | omega))))); with_reducible refine hK _ ?_; clear hK K) | (refine run_cond rfl (fun hc => ?_) (fun hc => ?_) <;> try (simp only [*, Bool.true_eq_false, Bool.false_eq_true, Bool.not_true, Bool.not_false, Bool.true_or, Bool.or_true, Bool.false_or, Bool.or_false, Bool.false_and, Bool.and_false, bne_self_eq_false, beq_self_eq_true] at hc; done)) | refine run_block ?_ | refine run_ret ?_ | refine run_nil ?_ | refine blk_normal ?_ | refine blk_ret ?_ | refine blk_here ?_ | refine blk_there rfl ?_ | refine loop_exit ?_ | refine loop_ret ?_ | refine un_exit ?_ | refine un_ret ?_ | refine unE_exit ?_ | refine unE_ret ?_ | refine un_normal ?_)
      exact end_fold hF hr 3 (by simp only [notIn, Nat.beq, and_self]) rfl rfl rfl rfl rfl
    · have hch : chgS cb = true := by simpa using hc
      have hF1 : foldF cb = foldF (foldB cb) := by rw [foldF_step hcr, hch]; rfl
      have hF := hF1.symm.trans hF
      have hlt := fold_lt hcr hch
      repeat' (first | refine run_seq ?_ | refine run_skip ?_ | (refine run_region fun K hK => ?_; (try (simp (maxSteps := 10000000) only [blkB, blkL, opL, opsB, opsW, zblk, e3, e4, partsOf, fillS, C25r0, C25r1, C25r2, C25r3, C25r4, rwp_nil, rwp_cons, rwpK_app, aop, gpath, St.get, slotAt, sfx, eqP, segsOf, St.put, addBlk, getB, setB, delB, ld1, ldn, st1, stn, setRow, rowNeed, segAt, nsub, bin, un, eqB, isShift, sameK, arith, shiftR, getsl, selB_or, selB_and, beqb, shed, addN, Nat.beq, Seg.size, sizes, imp, needP, andN, appL, argsOf, ptrsOf, aasOf, cut, takeS, dropS, putS, partsOf, fillS, fieldOf, nthA, negIf, nilq, nilB, eqS, eqF, eqS1, andP, kin, slcS, strOk, plusA, bndHi, leN, optG, roH, roL, initT, exOk, exAll, wrAddr, Nat.reduceAdd, Nat.reduceSub, Nat.reduceMul, Int.reduceToNat, List.append_nil, List.nil_append, List.cons_append, mapR, mapR1, keyL, keyOk, keyP, colsPut, colsDel, zcols, eqT, idxT, cat, cpy, ite_int, ite_bool, ite_seg, ite_segs, ite_nil, ite_twice, Int.toNat_natCast, app, addBs, tob])); (repeat (first | (refine And.intro ?_ ?_; · (first | trivial | assumption | omega | exact ⟨by omega, by omega⟩ | (intros; first | trivial | assumption | omega))))); with_reducible refine hK _ ?_; clear hK K) | (refine run_cond rfl (fun hc => ?_) (fun hc => ?_) <;> try (simp only [*, Bool.true_eq_false, Bool.false_eq_true, Bool.not_true, Bool.not_false, Bool.true_or, Bool.or_true, Bool.false_or, Bool.or_false, Bool.false_and, Bool.and_false, bne_self_eq_false, beq_self_eq_true] at hc; done)) | refine run_block ?_ | refine run_ret ?_ | refine run_nil ?_ | refine blk_normal ?_ | refine blk_ret ?_ | refine blk_here ?_ | refine blk_there rfl ?_ | refine loop_exit ?_ | refine loop_ret ?_ | refine un_exit ?_ | refine un_ret ?_ | refine unE_exit ?_ | refine unE_ret ?_ | refine un_normal ?_)
      refine loop_normal (wt (foldB cb).f (foldB cb).n) (stB cb (foldB cb)) hlt (LeS.intro [0, 1, 2, 3] (fun i h => idtF i h) (by simp only [diff, notIn, Nat.beq, and_self]) rfl (by simp only [stB, slotsLe, slotAt, Nat.beq, leV, leV1, leC, leA, nthO, Int.natCast_zero, Int.ofNat_zero, and_self]) ⟨opsw_le _ _ _ (fun _ _ => rfl), z_le, blk_le' (foldB cb) 3 3 rfl, ops_le cb.n cb.f false, trivial⟩) ⟨foldB cb, rfl, fold_right hcr, hF, .inr rfl⟩
  · unfold stB
    have e3 : retStep cb 4 = .tup [.agg (blkL (foldB cb) 4), .c (.bool (chgS cb)), .c (.int .i64 0)] := by unfold retStep; rw [if_pos hcr]
    have e4 : newStep cb = [opsW (stepS cb).m (stepS cb).f] := by unfold newStep; rw [if_pos hcr]
    repeat' (first | refine run_seq ?_ | refine run_skip ?_ | (refine run_region fun K hK => ?_; (try (simp (maxSteps := 10000000) only [blkB, blkL, opL, opsB, opsW, zblk, e3, e4, partsOf, fillS, C25r0, C25r1, C25r2, rwp_nil, rwp_cons, rwpK_app, aop, gpath, St.get, slotAt, sfx, eqP, segsOf, St.put, addBlk, getB, setB, delB, ld1, ldn, st1, stn, setRow, rowNeed, segAt, nsub, bin, un, eqB, isShift, sameK, arith, shiftR, getsl, selB_or, selB_and, beqb, shed, addN, Nat.beq, Seg.size, sizes, imp, needP, andN, appL, argsOf, ptrsOf, aasOf, cut, takeS, dropS, putS, partsOf, fillS, fieldOf, nthA, negIf, nilq, nilB, eqS, eqF, eqS1, andP, kin, slcS, strOk, plusA, bndHi, leN, optG, roH, roL, initT, exOk, exAll, wrAddr, Nat.reduceAdd, Nat.reduceSub, Nat.reduceMul, Int.reduceToNat, List.append_nil, List.nil_append, List.cons_append, mapR, mapR1, keyL, keyOk, keyP, colsPut, colsDel, zcols, eqT, idxT, cat, cpy, ite_int, ite_bool, ite_seg, ite_segs, ite_nil, ite_twice, Int.toNat_natCast, app, addBs, tob])); (repeat (first | (refine And.intro ?_ ?_; · (first | trivial | assumption | omega | exact ⟨by omega, by omega⟩ | (intros; first | trivial | assumption | omega))) | ((first | (refine call_t _ (con26_at cb 3 _ _ _ rfl (Nat.le_of_ble_eq_true rfl) (by simp [keysLt])) ?_; rintro v H' ⟨rfl, rfl⟩) | refine call_q _ (con26_at cb 3 _ _ _ rfl (Nat.le_of_ble_eq_true rfl) (by simp [keysLt])) ?_ | refine call_g _ (imp_of (con26_at cb 3 _ _ _ rfl (Nat.le_of_ble_eq_true rfl) (by simp [keysLt]))) ?_); simp (maxSteps := 10000000) only [blkB, blkL, opL, opsB, opsW, zblk, e3, e4, partsOf, fillS, C25r0, C25r1, C25r2, rwp_nil, rwp_cons, rwpK_app, aop, gpath, St.get, slotAt, sfx, eqP, segsOf, St.put, addBlk, getB, setB, delB, ld1, ldn, st1, stn, setRow, rowNeed, segAt, nsub, bin, un, eqB, isShift, sameK, arith, shiftR, getsl, selB_or, selB_and, beqb, shed, addN, Nat.beq, Seg.size, sizes, imp, needP, andN, appL, argsOf, ptrsOf, aasOf, cut, takeS, dropS, putS, partsOf, fillS, fieldOf, nthA, negIf, nilq, nilB, eqS, eqF, eqS1, andP, kin, slcS, strOk, plusA, bndHi, leN, optG, roH, roL, initT, exOk, exAll, wrAddr, Nat.reduceAdd, Nat.reduceSub, Nat.reduceMul, Int.reduceToNat, List.append_nil, List.nil_append, List.cons_append, mapR, mapR1, keyL, keyOk, keyP, colsPut, colsDel, zcols, eqT, idxT, cat, cpy, ite_int, ite_bool, ite_seg, ite_segs, ite_nil, ite_twice, Int.toNat_natCast, app, addBs, tob]))); with_reducible refine hK _ ?_; clear hK K) | (refine run_cond rfl (fun hc => ?_) (fun hc => ?_) <;> try (simp only [*, Bool.true_eq_false, Bool.false_eq_true, Bool.not_true, Bool.not_false, Bool.true_or, Bool.or_true, Bool.false_or, Bool.or_false, Bool.false_and, Bool.and_false, bne_self_eq_false, beq_self_eq_true] at hc; done)) | refine run_block ?_ | refine run_ret ?_ | refine run_nil ?_ | refine blk_normal ?_ | refine blk_ret ?_ | refine blk_here ?_ | refine blk_there rfl ?_ | refine loop_exit ?_ | refine loop_ret ?_ | refine un_exit ?_ | refine un_ret ?_ | refine unE_exit ?_ | refine unE_ret ?_ | refine un_normal ?_)
    · have hch : chgS cb = false := by simpa using hc
      have hF1 : foldF cb = foldB cb := by rw [foldF_step hcr, hch]; rfl
      have hF := hF1.symm.trans hF
      repeat' (first | refine run_seq ?_ | refine run_skip ?_ | (refine run_region fun K hK => ?_; (try (simp (maxSteps := 10000000) only [blkB, blkL, opL, opsB, opsW, zblk, e3, e4, partsOf, fillS, C25r0, C25r1, C25r2, C25r3, C25r4, rwp_nil, rwp_cons, rwpK_app, aop, gpath, St.get, slotAt, sfx, eqP, segsOf, St.put, addBlk, getB, setB, delB, ld1, ldn, st1, stn, setRow, rowNeed, segAt, nsub, bin, un, eqB, isShift, sameK, arith, shiftR, getsl, selB_or, selB_and, beqb, shed, addN, Nat.beq, Seg.size, sizes, imp, needP, andN, appL, argsOf, ptrsOf, aasOf, cut, takeS, dropS, putS, partsOf, fillS, fieldOf, nthA, negIf, nilq, nilB, eqS, eqF, eqS1, andP, kin, slcS, strOk, plusA, bndHi, leN, optG, roH, roL, initT, exOk, exAll, wrAddr, Nat.reduceAdd, Nat.reduceSub, Nat.reduceMul, Int.reduceToNat, List.append_nil, List.nil_append, List.cons_append, mapR, mapR1, keyL, keyOk, keyP, colsPut, colsDel, zcols, eqT, idxT, cat, cpy, ite_int, ite_bool, ite_seg, ite_segs, ite_nil, ite_twice, Int.toNat_natCast, app, addBs, tob])); (repeat (first | (refine And.intro ?_ ?_; · (first | trivial | assumption | omega | exact ⟨by omega, by omega⟩ | (intros; first | trivial | assumption | omega))))); with_reducible refine hK _ ?_; clear hK K) | (refine run_cond rfl (fun hc => ?_) (fun hc => ?_) <;> try (simp only [*, Bool.true_eq_false, Bool.false_eq_true, Bool.not_true, Bool.not_false, Bool.true_or, Bool.or_true, Bool.false_or, Bool.or_false, Bool.false_and, Bool.and_false, bne_self_eq_false, beq_self_eq_true] at hc; done)) | refine run_block ?_ | refine run_ret ?_ | refine run_nil ?_ | refine blk_normal ?_ | refine blk_ret ?_ | refine blk_here ?_ | refine blk_there rfl ?_ | refine loop_exit ?_ | refine loop_ret ?_ | refine un_exit ?_ | refine un_ret ?_ | refine unE_exit ?_ | refine unE_ret ?_ | refine un_normal ?_)
      exact end_fold hF hr 4 (by simp only [notIn, Nat.beq, and_self]) rfl rfl rfl rfl rfl
    · have hch : chgS cb = true := by simpa using hc
      have hF1 : foldF cb = foldF (foldB cb) := by rw [foldF_step hcr, hch]; rfl
      have hF := hF1.symm.trans hF
      have hlt := fold_lt hcr hch
      repeat' (first | refine run_seq ?_ | refine run_skip ?_ | (refine run_region fun K hK => ?_; (try (simp (maxSteps := 10000000) only [blkB, blkL, opL, opsB, opsW, zblk, e3, e4, partsOf, fillS, C25r0, C25r1, C25r2, C25r3, C25r4, rwp_nil, rwp_cons, rwpK_app, aop, gpath, St.get, slotAt, sfx, eqP, segsOf, St.put, addBlk, getB, setB, delB, ld1, ldn, st1, stn, setRow, rowNeed, segAt, nsub, bin, un, eqB, isShift, sameK, arith, shiftR, getsl, selB_or, selB_and, beqb, shed, addN, Nat.beq, Seg.size, sizes, imp, needP, andN, appL, argsOf, ptrsOf, aasOf, cut, takeS, dropS, putS, partsOf, fillS, fieldOf, nthA, negIf, nilq, nilB, eqS, eqF, eqS1, andP, kin, slcS, strOk, plusA, bndHi, leN, optG, roH, roL, initT, exOk, exAll, wrAddr, Nat.reduceAdd, Nat.reduceSub, Nat.reduceMul, Int.reduceToNat, List.append_nil, List.nil_append, List.cons_append, mapR, mapR1, keyL, keyOk, keyP, colsPut, colsDel, zcols, eqT, idxT, cat, cpy, ite_int, ite_bool, ite_seg, ite_segs, ite_nil, ite_twice, Int.toNat_natCast, app, addBs, tob])); (repeat (first | (refine And.intro ?_ ?_; · (first | trivial | assumption | omega | exact ⟨by omega, by omega⟩ | (intros; first | trivial | assumption | omega))))); with_reducible refine hK _ ?_; clear hK K) | (refine run_cond rfl (fun hc => ?_) (fun hc => ?_) <;> try (simp only [*, Bool.true_eq_false, Bool.false_eq_true, Bool.not_true, Bool.not_false, Bool.true_or, Bool.or_true, Bool.false_or, Bool.or_false, Bool.false_and, Bool.and_false, bne_self_eq_false, beq_self_eq_true] at hc; done)) | refine run_block ?_ | refine run_ret ?_ | refine run_nil ?_ | refine blk_normal ?_ | refine blk_ret ?_ | refine blk_here ?_ | refine blk_there rfl ?_ | refine loop_exit ?_ | refine loop_ret ?_ | refine un_exit ?_ | refine un_ret ?_ | refine unE_exit ?_ | refine unE_ret ?_ | refine un_normal ?_)
      refine loop_normal (wt (foldB cb).f (foldB cb).n) (stB b (foldB cb)) hlt (LeS.intro [0, 1, 2, 4] (fun i h => idtF i h) (by simp only [diff, notIn, Nat.beq, and_self]) rfl (by simp only [stB, slotsLe, slotAt, Nat.beq, leV, leV1, leC, leA, nthO, Int.natCast_zero, Int.ofNat_zero, and_self]) ⟨opsw_le _ _ _ (fun _ _ => rfl), z_le, blk_le' (foldB cb) 4 3 rfl, ops_le b.n b.f false, trivial⟩) ⟨foldB cb, rfl, fold_right hcr, hF, .inr rfl⟩
end Go.Proofs.Ytmbnakinhnkabaa

namespace Go.Proofs.Ytmbnakinhnkabaa
open Go.AM
set_option maxRecDepth 100000
set_option linter.unusedSimpArgs false
set_option linter.unusedVariables false
theorem con25 (b : BlkS) : Con Try.prog 25 [.agg (blkL b 0)] ⟨1, [(0, opsB b.n b.f)]⟩ (fun v H' => v = retFold b 1 ∧ H' = heapFold b) := by
  refine Con.forget (con25_0 b) ?_
  rintro v H' ⟨rfl, rfl⟩
  by_cases hr : rightS b = true
  · refine ⟨_, heapFold b, [0, 1], (fun i h => idtF i h), (by simp only [diff, notIn, Nat.beq, and_self]), by simp only [heapFold, hr, if_true]; rfl, ?_, ?_, rfl, rfl⟩
    · simp only [heapFold0, heapFold, hr, if_true]
      exact ⟨opsw_le _ _ _ (fun _ _ => rfl), ops_le b.n b.f false, trivial⟩
    · simp only [retFold, hr, if_true, leV, leV1, leVL, blkL, leSegs, leSeg, leC, leA, nthO, and_self]
  · refine ⟨_, heapFold b, [0], (fun i h => idtF i h), ⟨trivial, trivial⟩, by simp only [heapFold, hr, if_false, Bool.false_eq_true]; rfl, ?_, ?_, rfl, rfl⟩
    · simp only [heapFold0, heapFold, hr, if_false, Bool.false_eq_true]
      exact ⟨ops_le b.n b.f false, trivial⟩
    · simp only [retFold, zBlkL, hr, if_false, Bool.false_eq_true, leV, leV1, leVL, leSegs, leSeg, leC, and_self]
def newFold (b : BlkS) : List Blk := if rightS b = true then [opsW (foldF b).n (foldF b).f] else []
theorem con25_at (b : BlkS) (i n : Nat) (X : List (Nat × Blk)) (w : Bool) (h0 : getB X i = some ⟨6, some b.n, fun i => opL (b.f i), 39, w⟩) (hlt : i < n) (hkl : keysLt X n) : Con Try.prog 25 [.agg (blkL b i)] ⟨n, X⟩ (fun v H' => v = retFold b n ∧ H' = addBs ⟨n, X⟩ (newFold b)) := by
  refine ((con25 b).frame (H := ⟨n, X⟩) [i] rfl ⟨trivial, trivial⟩ ⟨hlt, trivial⟩ hkl (by simp only [leBlks, nthO, h0]; exact ⟨ops_le b.n b.f w, trivial⟩) (by simp only [leArgs, leV, leV1, blkL, leSegs, leSeg, leC, leA, nthO, and_self])).weaken ?_
  rintro v H' ⟨v0, H0', ⟨rfl, rfl⟩, rfl, rfl⟩
  unfold retFold heapFold newFold
  cases rightS b
  · simp only [framed, dropB_ro i b.n 0]
    exact ⟨rfl, rfl⟩
  · simp only [framed, dropB_ro i b.n 0]
    exact ⟨rfl, rfl⟩
theorem nil_right (f : Nat → OpS) : rightS ⟨0, 0, 0, 0, f⟩ = false := by
  unfold rightS head1
  simp
theorem con25_nil (i N n : Nat) (f : Nat → OpS) (X : List (Nat × Blk)) (w : Bool) (h0 : getB X i = some ⟨6, some N, fun i => opL (f i), 39, w⟩) (hlt : i < n) (hkl : keysLt X n) : Con Try.prog 25 [.agg zBlkL] ⟨n, X⟩ (fun v H' => v = .tup [.agg zBlkL, .c (.int .i64 4)] ∧ H' = ⟨n, X⟩) := by
  refine ((con25 ⟨0, 0, 0, 0, f⟩).frame (args := [.agg zBlkL]) (H := ⟨n, X⟩) [i] rfl ⟨trivial, trivial⟩ ⟨hlt, trivial⟩ hkl (by simp only [leBlks, nthO, h0]; exact ⟨⟨rfl, rfl, fun h => (by cases h), Nat.zero_le _, fun _ _ => by simp only [opsB, opL, leSegs, leSeg, leC, and_self]⟩, trivial⟩) (by simp only [leArgs, leV, leV1, zBlkL, blkL, leSegs, leSeg, leC, leA, nthO, and_self])).weaken ?_
  rintro v H' ⟨v0, H0', ⟨rfl, rfl⟩, rfl, rfl⟩
  unfold retFold heapFold
  rw [nil_right f]
  simp only [framed, dropB_ro i 0 0]
  exact ⟨rfl, rfl⟩
def suF : Nat → OpS
  | 0 => ⟨14, 0, 0, 0, 0, 64⟩
  | 1 => ⟨1, 0, 0, 0, 0, 2⟩
  | 2 => ⟨1, 0, 0, 0, 0, 3⟩
  | 3 => ⟨8, 1, 1, 2, 0, 0⟩
  | 4 => ⟨3, 0, 3, 0, 0, 0⟩
  | _ => ⟨16, 0, 0, 0, 0, 68⟩
def su : BlkS := ⟨64, 1, 1, 6, suF⟩
theorem con47 (n : Nat) (X : List (Nat × Blk)) (hkl : keysLt X n) : Con Try.prog 47 [] ⟨n, X⟩ (fun v H' => v = .agg (blkL su n) ∧ H' = addBs ⟨n, X⟩ [opsW 6 suF]) := by
  have h0 : Con Try.prog 47 [] ⟨0, []⟩ (fun v H' => v = .agg (blkL su 0) ∧ H' = ⟨2, [(1, blkB su 0), (0, opsW 6 suF)]⟩) := by
    (refine con_of_run mixed (fn := Try.f47) (by kernel_rfl) (by kernel_rfl) C47_ok (rs := [.cn 4 0]) (by kernel_rfl) (Nat.le_of_ble_eq_true (by kernel_rfl)) ?_; unfold C47; simp only [initT, Nat.reduceAdd])
    repeat' (first | refine run_seq ?_ | (refine run_region fun K hK => ?_; (try (simp (maxSteps := 10000000) only [repl, rowsFit, partsOf, fillS, rowFn, cutD, C47r0, C47r1, rwp_nil, rwp_cons, rwpK_app, aop, gpath, St.get, slotAt, sfx, eqP, segsOf, St.put, addBlk, getB, setB, delB, ld1, ldn, st1, stn, setRow, rowNeed, segAt, nsub, bin, un, eqB, isShift, sameK, arith, shiftR, getsl, selB_or, selB_and, beqb, shed, addN, Nat.beq, Seg.size, sizes, imp, needP, andN, appL, argsOf, ptrsOf, aasOf, cut, takeS, dropS, putS, partsOf, fillS, fieldOf, nthA, negIf, nilq, nilB, eqS, eqF, eqS1, andP, kin, slcS, strOk, plusA, bndHi, leN, optG, roH, roL, initT, exOk, exAll, wrAddr, Nat.reduceAdd, Nat.reduceSub, Nat.reduceMul, Int.reduceToNat, List.append_nil, List.nil_append, List.cons_append, mapR, mapR1, keyL, keyOk, keyP, colsPut, colsDel, zcols, eqT, idxT, cat, cpy, ite_int, ite_bool, ite_seg, ite_segs, ite_nil, ite_twice, Int.toNat_natCast, app, addBs, tob])); (repeat (first | (refine And.intro ?_ ?_; · first | trivial | assumption | omega))); with_reducible refine hK _ ?_; clear hK K) | refine run_ret ?_ | refine run_nil ?_)
    refine end_of ⟨[⟨0, [], .c (.ptr ⟨1, 0, 0, 0⟩)⟩], ⟨2, [(1, blkB su 0), (0, opsW 6 suF)]⟩⟩ (LeS.intro [1, 0] (fun i h => absurd h (Nat.not_lt_zero i)) (by simp only [diff, notIn, Nat.beq, and_self]) rfl (by simp only [slotsLe, slotAt, Nat.beq, leV, leV1, leC, leA, nthO, and_self]) ⟨blk_le' su 1 0 rfl, ⟨rfl, rfl, id, Nat.le_refl _, fun i hi => ?_⟩, trivial⟩) ?_
    · match i, (hi.resolve_right (Nat.succ_ne_zero _)) with
      | 0, _ => simp only [cutD, cut, dropS, takeS, Seg.size, nsub, opsW, opL, suF, Nat.reduceMul, Nat.zero_mul, Nat.one_mul, leSegs, leSeg, leC, and_self]
      | 1, _ => simp only [cutD, cut, dropS, takeS, Seg.size, nsub, opsW, opL, suF, Nat.reduceMul, Nat.zero_mul, Nat.one_mul, leSegs, leSeg, leC, and_self]
      | 2, _ => simp only [cutD, cut, dropS, takeS, Seg.size, nsub, opsW, opL, suF, Nat.reduceMul, Nat.zero_mul, Nat.one_mul, leSegs, leSeg, leC, and_self]
      | 3, _ => simp only [cutD, cut, dropS, takeS, Seg.size, nsub, opsW, opL, suF, Nat.reduceMul, Nat.zero_mul, Nat.one_mul, leSegs, leSeg, leC, and_self]
      | 4, _ => simp only [cutD, cut, dropS, takeS, Seg.size, nsub, opsW, opL, suF, Nat.reduceMul, Nat.zero_mul, Nat.one_mul, leSegs, leSeg, leC, and_self]
      | 5, _ => simp only [cutD, cut, dropS, takeS, Seg.size, nsub, opsW, opL, suF, Nat.reduceMul, Nat.zero_mul, Nat.one_mul, leSegs, leSeg, leC, and_self]
    · simp only [endF, resL, resA, St.get, slotAt, Nat.beq, sfx, eqP, ldn, getB, blkB, blkL, rowNeed, cut, dropS, takeS, Seg.size, nsub, noTup, resV]
      refine ⟨?_, ?_⟩ <;> first | rfl | trivial
  have h1 : Con Try.prog 47 [] ⟨0, []⟩ (fun v H' => v = .agg (blkL su 0) ∧ H' = ⟨1, [(0, opsW 6 suF)]⟩) := by
    refine Con.forget h0 ?_
    rintro v H' ⟨rfl, rfl⟩
    exact ⟨_, ⟨1, [(0, opsW 6 suF)]⟩, [0], fun i h => absurd h (Nat.not_lt_zero i), ⟨trivial, trivial⟩, rfl, ⟨opsw_le 6 suF suF (fun _ _ => rfl), trivial⟩, by simp only [blkL, leV, leV1, leSegs, leSeg, leC, leA, nthO, and_self], rfl, rfl⟩
  refine (h1.frame (args := []) (H := ⟨n, X⟩) [] rfl trivial trivial hkl trivial trivial).weaken ?_
  rintro v H' ⟨v0, H0', ⟨rfl, rfl⟩, rfl, rfl⟩
  refine ⟨rfl, ?_⟩
  simp only [framed, dropB_none (l := []) (H0 := []) (fun _ => rfl)]
  rfl
theorem su_right : rightS su = true := by decide +kernel
theorem su_n : (foldF su).n = 6 := by decide +kernel
theorem su_chg : chgS su = true := by decide +kernel
theorem su_ops : ∀ i, i < 6 → (foldF su).f i = match i with | 3 => constO 5 | i => suF i := by
  intro i hi
  match i, hi with
  | 0, _ => exact eqO_eq.1 (by decide +kernel)
  | 1, _ => exact eqO_eq.1 (by decide +kernel)
  | 2, _ => exact eqO_eq.1 (by decide +kernel)
  | 3, _ => exact eqO_eq.1 (by decide +kernel)
  | 4, _ => exact eqO_eq.1 (by decide +kernel)
  | 5, _ => exact eqO_eq.1 (by decide +kernel)
theorem su_retF (n : Nat) : retFold su n = .tup [.agg [.c (.int .u64 (foldF su).pc), .c (.int .i64 (foldF su).words), .c (.int .i64 (foldF su).el), .c (.slice ⟨n, 0, 0, 0⟩ false 6)], .c (.int .i64 0)] := by unfold retFold; rw [if_pos su_right]; unfold blkL; rw [su_n]
theorem su_newF : newFold su = [opsW 6 (foldF su).f] := by unfold newFold; rw [if_pos su_right, su_n]
theorem su_retS (n : Nat) : retStep su n = .tup [.agg (blkL (foldB su) n), .c (.bool true), .c (.int .i64 0)] := by unfold retStep; rw [if_pos su_right, su_chg]
theorem su_newS : newStep su = [opsW (stepS su).m (stepS su).f] := by unfold newStep; rw [if_pos su_right]
def exSt (i : Nat) (c : Bool) : St := ⟨[⟨9, [], .c (.int .i64 i)⟩, ⟨8, [], .c (.bool c)⟩, ⟨7, [], .c (.int .i64 0)⟩, ⟨6, [], .c (.bool true)⟩, ⟨4, [], .c (.int .i64 4)⟩, ⟨2, [], .c (.int .i64 0)⟩, ⟨1, [], .c (.ptr ⟨1, 0, 0, 0⟩)⟩], ⟨2, [(1, blkB (foldF su) 0), (0, opsW 6 (foldF su).f)]⟩⟩
theorem su_no {i : Nat} (hi : i < 6) (h : i ≠ 4) : ((foldF su).f i).kind ≠ 3 := by
  rw [su_ops i hi]
  match i, hi, h with
  | 0, _, _ => decide
  | 1, _, _ => decide
  | 2, _, _ => decide
  | 3, _, _ => decide
  | 4, _, h => exact absurd rfl h
  | 5, _, _ => decide
set_option maxHeartbeats 8000000 in
theorem con23 (H : Heap) : Con Try.prog 23 [] H (fun v H' => v = .c (.bool true) ∧ H' = H) := by
  refine Con.pure (args := []) ?_ trivial rfl H
  have f3 := su_ops 3 (by decide)
  have f4 := su_ops 4 (by decide)
  simp only [suF, constO] at f3 f4
  (refine con_of_run mixed (fn := Try.f23) (by kernel_rfl) (by kernel_rfl) C23_ok (rs := [.tmp 0]) (by kernel_rfl) (Nat.le_of_ble_eq_true (by kernel_rfl)) ?_; unfold C23; simp only [initT, Nat.reduceAdd])
  repeat' (first | refine run_seq ?_ | refine run_skip ?_ | (refine run_region fun K hK => ?_; (try (simp (maxSteps := 10000000) only [opL, su_retF, su_newF, su_retS, su_newS, blkL, zBlkL, opsW, partsOf, fillS, C23r0, C23r1, C23r2, C23r3, C23r4, C23r6, C23r7, C23r8, C23r9, C23r10, rwp_nil, rwp_cons, rwpK_app, aop, gpath, St.get, slotAt, sfx, eqP, segsOf, St.put, addBlk, getB, setB, delB, ld1, ldn, st1, stn, setRow, rowNeed, segAt, nsub, bin, un, eqB, isShift, sameK, arith, shiftR, getsl, selB_or, selB_and, beqb, shed, addN, Nat.beq, Seg.size, sizes, imp, needP, andN, appL, argsOf, ptrsOf, aasOf, cut, takeS, dropS, putS, partsOf, fillS, fieldOf, nthA, negIf, nilq, nilB, eqS, eqF, eqS1, andP, kin, slcS, strOk, plusA, bndHi, leN, optG, roH, roL, initT, exOk, exAll, wrAddr, Nat.reduceAdd, Nat.reduceSub, Nat.reduceMul, Int.reduceToNat, List.append_nil, List.nil_append, List.cons_append, mapR, mapR1, keyL, keyOk, keyP, colsPut, colsDel, zcols, eqT, idxT, cat, cpy, ite_int, ite_bool, ite_seg, ite_segs, ite_nil, ite_twice, Int.toNat_natCast, app, addBs, tob])); (repeat (first | (refine And.intro ?_ ?_; · (first | trivial | assumption | omega | exact ⟨by omega, by omega⟩ | (intros; first | trivial | assumption | omega | decide))) | ((first | (refine call_t _ (con47 _ _ (by simp [keysLt])) ?_; rintro v H' ⟨rfl, rfl⟩) | refine call_q _ (con47 _ _ (by simp [keysLt])) ?_ | refine call_g _ (imp_of (con47 _ _ (by simp [keysLt]))) ?_ | (refine call_t _ (con25_at su _ _ _ _ rfl (Nat.le_of_ble_eq_true rfl) (by simp [keysLt])) ?_; rintro v H' ⟨rfl, rfl⟩) | refine call_q _ (con25_at su _ _ _ _ rfl (Nat.le_of_ble_eq_true rfl) (by simp [keysLt])) ?_ | refine call_g _ (imp_of (con25_at su _ _ _ _ rfl (Nat.le_of_ble_eq_true rfl) (by simp [keysLt]))) ?_ | (refine call_t _ (con25_nil 0 6 _ suF _ true rfl (Nat.le_of_ble_eq_true rfl) (by simp [keysLt])) ?_; rintro v H' ⟨rfl, rfl⟩) | refine call_q _ (con25_nil 0 6 _ suF _ true rfl (Nat.le_of_ble_eq_true rfl) (by simp [keysLt])) ?_ | refine call_g _ (imp_of (con25_nil 0 6 _ suF _ true rfl (Nat.le_of_ble_eq_true rfl) (by simp [keysLt]))) ?_ | (refine call_t _ (con26_at su _ _ _ _ rfl (Nat.le_of_ble_eq_true rfl) (by simp [keysLt])) ?_; rintro v H' ⟨rfl, rfl⟩) | refine call_q _ (con26_at su _ _ _ _ rfl (Nat.le_of_ble_eq_true rfl) (by simp [keysLt])) ?_ | refine call_g _ (imp_of (con26_at su _ _ _ _ rfl (Nat.le_of_ble_eq_true rfl) (by simp [keysLt]))) ?_); simp (maxSteps := 10000000) only [opL, su_retF, su_newF, su_retS, su_newS, blkL, zBlkL, opsW, partsOf, fillS, C23r0, C23r1, C23r2, C23r3, C23r4, C23r6, C23r7, C23r8, C23r9, C23r10, rwp_nil, rwp_cons, rwpK_app, aop, gpath, St.get, slotAt, sfx, eqP, segsOf, St.put, addBlk, getB, setB, delB, ld1, ldn, st1, stn, setRow, rowNeed, segAt, nsub, bin, un, eqB, isShift, sameK, arith, shiftR, getsl, selB_or, selB_and, beqb, shed, addN, Nat.beq, Seg.size, sizes, imp, needP, andN, appL, argsOf, ptrsOf, aasOf, cut, takeS, dropS, putS, partsOf, fillS, fieldOf, nthA, negIf, nilq, nilB, eqS, eqF, eqS1, andP, kin, slcS, strOk, plusA, bndHi, leN, optG, roH, roL, initT, exOk, exAll, wrAddr, Nat.reduceAdd, Nat.reduceSub, Nat.reduceMul, Int.reduceToNat, List.append_nil, List.nil_append, List.cons_append, mapR, mapR1, keyL, keyOk, keyP, colsPut, colsDel, zcols, eqT, idxT, cat, cpy, ite_int, ite_bool, ite_seg, ite_segs, ite_nil, ite_twice, Int.toNat_natCast, app, addBs, tob]))); with_reducible refine hK _ ?_; clear hK K) | (refine run_cond rfl (fun hc => ?_) (fun hc => ?_) <;> try (simp only [*, Bool.true_eq_false, Bool.false_eq_true, Bool.not_true, Bool.not_false, Bool.true_or, Bool.or_true, Bool.false_or, Bool.or_false, Bool.false_and, Bool.and_false, bne_self_eq_false, beq_self_eq_true] at hc; done)) | refine run_block ?_ | refine run_ret ?_ | refine run_nil ?_ | refine run_exit ?_ | refine blk_normal ?_ | refine blk_ret ?_ | refine blk_here ?_ | refine blk_there rfl ?_ | refine loop_exit ?_ | refine loop_ret ?_ | refine un_exit ?_ | refine un_ret ?_ | refine unE_exit ?_ | refine unE_ret ?_ | refine un_normal ?_)
  (refine run_regionL fun K hK => ?_; (try (simp (maxSteps := 10000000) only [opL, blkL, opsW, C23r0, C23r1, C23r2, C23r3, C23r4, C23r5, C23r6, C23r7, C23r8, C23r9, C23r10, rwp_nil, rwp_cons, rwpK_app, aop, gpath, St.get, slotAt, sfx, eqP, segsOf, St.put, addBlk, getB, setB, delB, ld1, ldn, st1, stn, setRow, rowNeed, segAt, nsub, bin, un, eqB, isShift, sameK, arith, shiftR, getsl, selB_or, selB_and, beqb, shed, addN, Nat.beq, Seg.size, sizes, imp, needP, andN, appL, argsOf, ptrsOf, aasOf, cut, takeS, dropS, putS, partsOf, fillS, fieldOf, nthA, negIf, nilq, nilB, eqS, eqF, eqS1, andP, kin, slcS, strOk, plusA, bndHi, leN, optG, roH, roL, initT, exOk, exAll, wrAddr, Nat.reduceAdd, Nat.reduceSub, Nat.reduceMul, Int.reduceToNat, List.append_nil, List.nil_append, List.cons_append, mapR, mapR1, keyL, keyOk, keyP, colsPut, colsDel, zcols, eqT, idxT, cat, cpy, ite_int, ite_bool, ite_seg, ite_segs, ite_nil, ite_twice, Int.toNat_natCast, app, addBs, tob])); (repeat (first | (refine And.intro ?_ ?_; · first | trivial | assumption | omega))); refine hK _ (exSt 0 false) (LeS.intro [1, 2] (fun i h => absurd h (Nat.not_lt_zero i)) (by simp only [diff, notIn, Nat.beq, and_self]) rfl (by simp only [exSt, slotsLe, slotAt, Nat.beq, leV, leV1, leC, leA, nthO, Int.natCast_zero, Int.ofNat_zero, and_self]) ⟨⟨rfl, rfl, id, Nat.le_refl _, fun _ _ => by simp only [blkB, blkL, su_n, leSegs, leSeg, leC, leA, nthO, and_self]⟩, opsw_le _ _ _ (fun _ _ => rfl), trivial⟩) ?_; clear hK K)
  refine run_block ?_
  refine run_loop (fun t st => ∃ i, i ≤ 6 ∧ t = 6 - i ∧ st = exSt i (decide (4 < i))) 6 ⟨0, by omega, rfl, rfl⟩ ?_
  rintro t st ⟨i, hi, rfl, rfl⟩
  have hw : IntKind.i64.wrap ((i : Int) + 1) = ((i + 1 : Nat) : Int) := by rw [IntKind.wrap_i64]; omega
  have hn6 := su_n
  unfold exSt
  repeat' (first | refine run_seq ?_ | refine run_skip ?_ | (refine run_region fun K hK => ?_; (try (simp (maxSteps := 10000000) only [opL, blkB, blkL, opsW, hn6, C23r0, C23r1, C23r2, C23r3, C23r4, C23r5, C23r6, C23r8, C23r9, rwp_nil, rwp_cons, rwpK_app, aop, gpath, St.get, slotAt, sfx, eqP, segsOf, St.put, addBlk, getB, setB, delB, ld1, ldn, st1, stn, setRow, rowNeed, segAt, nsub, bin, un, eqB, isShift, sameK, arith, shiftR, getsl, selB_or, selB_and, beqb, shed, addN, Nat.beq, Seg.size, sizes, imp, needP, andN, appL, argsOf, ptrsOf, aasOf, cut, takeS, dropS, putS, partsOf, fillS, fieldOf, nthA, negIf, nilq, nilB, eqS, eqF, eqS1, andP, kin, slcS, strOk, plusA, bndHi, leN, optG, roH, roL, initT, exOk, exAll, wrAddr, Nat.reduceAdd, Nat.reduceSub, Nat.reduceMul, Int.reduceToNat, List.append_nil, List.nil_append, List.cons_append, mapR, mapR1, keyL, keyOk, keyP, colsPut, colsDel, zcols, eqT, idxT, cat, cpy, ite_int, ite_bool, ite_seg, ite_segs, ite_nil, ite_twice, Int.toNat_natCast, app, addBs, tob])); (repeat (first | (refine And.intro ?_ ?_; · (first | trivial | assumption | omega | exact ⟨by omega, by omega⟩ | (intros; first | trivial | assumption | omega | decide))))); with_reducible refine hK _ ?_; clear hK K) | (refine run_cond rfl (fun hc => ?_) (fun hc => ?_) <;> try (simp only [*, Bool.true_eq_false, Bool.false_eq_true, Bool.not_true, Bool.not_false, Bool.true_or, Bool.or_true, Bool.false_or, Bool.or_false, Bool.false_and, Bool.and_false, bne_self_eq_false, beq_self_eq_true] at hc; done)) | refine run_block ?_ | refine run_ret ?_ | refine run_nil ?_ | refine run_exit ?_ | refine blk_normal ?_ | refine blk_ret ?_ | refine blk_here ?_ | refine blk_there rfl ?_ | refine loop_exit ?_ | refine loop_ret ?_ | refine un_exit ?_ | refine un_ret ?_ | refine unE_exit ?_ | refine unE_ret ?_ | refine un_normal ?_)
  · have hlt : i < 6 := by simp only [decide_eq_true_eq] at hc; omega
    clear hc
    by_cases h4 : i = 4
    · have hFi : (foldF su).f i = ⟨3, 0, 3, 0, 0, 0⟩ := by rw [h4]; exact f4
      have hd : decide ((3 : Int) < (i : Int)) = true := decide_eq_true (by omega)
      repeat' (first | refine run_seq ?_ | refine run_skip ?_ | (refine run_region fun K hK => ?_; (try (simp (maxSteps := 10000000) only [opL, blkB, blkL, opsW, hFi, hd, f3, hw, hn6, beq_self_eq_true, Bool.and_self, Bool.true_and, Int.toNat_natCast, partsOf, fillS, C23r0, C23r1, C23r2, C23r3, C23r4, C23r5, C23r6, C23r7, C23r8, C23r9, C23r10, rwp_nil, rwp_cons, rwpK_app, aop, gpath, St.get, slotAt, sfx, eqP, segsOf, St.put, addBlk, getB, setB, delB, ld1, ldn, st1, stn, setRow, rowNeed, segAt, nsub, bin, un, eqB, isShift, sameK, arith, shiftR, getsl, selB_or, selB_and, beqb, shed, addN, Nat.beq, Seg.size, sizes, imp, needP, andN, appL, argsOf, ptrsOf, aasOf, cut, takeS, dropS, putS, partsOf, fillS, fieldOf, nthA, negIf, nilq, nilB, eqS, eqF, eqS1, andP, kin, slcS, strOk, plusA, bndHi, leN, optG, roH, roL, initT, exOk, exAll, wrAddr, Nat.reduceAdd, Nat.reduceSub, Nat.reduceMul, Int.reduceToNat, List.append_nil, List.nil_append, List.cons_append, mapR, mapR1, keyL, keyOk, keyP, colsPut, colsDel, zcols, eqT, idxT, cat, cpy, ite_int, ite_bool, ite_seg, ite_segs, ite_nil, ite_twice, Int.toNat_natCast, app, addBs, tob])); (repeat (first | (refine And.intro ?_ ?_; · (first | trivial | assumption | omega | exact ⟨by omega, by omega⟩ | (intros; first | trivial | assumption | omega | decide))))); with_reducible refine hK _ ?_; clear hK K) | (refine run_cond rfl (fun hc => ?_) (fun hc => ?_) <;> try (simp only [*, Bool.true_eq_false, Bool.false_eq_true, Bool.not_true, Bool.not_false, Bool.true_or, Bool.or_true, Bool.false_or, Bool.or_false, Bool.false_and, Bool.and_false, bne_self_eq_false, beq_self_eq_true] at hc; done)) | refine run_block ?_ | refine run_ret ?_ | refine run_nil ?_ | refine run_exit ?_ | refine blk_normal ?_ | refine blk_ret ?_ | refine blk_here ?_ | refine blk_there rfl ?_ | refine loop_exit ?_ | refine loop_ret ?_ | refine un_exit ?_ | refine un_ret ?_ | refine unE_exit ?_ | refine unE_ret ?_ | refine un_normal ?_)
      refine loop_normal (6 - (i + 1)) (exSt (i + 1) (decide (4 < i + 1))) (by omega) (LeS.intro [0, 1] (fun i h => absurd h (Nat.not_lt_zero i)) (by simp only [diff, notIn, Nat.beq, and_self]) rfl ?_ ⟨blk_le' (foldF su) 0 0 rfl, opsw_le _ _ _ (fun _ _ => rfl), trivial⟩) ⟨i + 1, by omega, rfl, rfl⟩
      have hd2 : decide (4 < i + 1) = true := decide_eq_true (by omega)
      simp only [exSt, hd2, slotsLe, slotAt, Nat.beq, leV, leV1, leC, leA, nthO, and_self]
    · have hFk : (((foldF su).f i).kind == 3) = false := by simpa using su_no hlt h4
      repeat' (first | refine run_seq ?_ | refine run_skip ?_ | (refine run_region fun K hK => ?_; (try (simp (maxSteps := 10000000) only [opL, blkB, blkL, opsW, hFk, hw, hn6, Bool.false_and, Int.toNat_natCast, partsOf, fillS, C23r0, C23r1, C23r2, C23r3, C23r4, C23r5, C23r6, C23r7, C23r8, C23r9, C23r10, rwp_nil, rwp_cons, rwpK_app, aop, gpath, St.get, slotAt, sfx, eqP, segsOf, St.put, addBlk, getB, setB, delB, ld1, ldn, st1, stn, setRow, rowNeed, segAt, nsub, bin, un, eqB, isShift, sameK, arith, shiftR, getsl, selB_or, selB_and, beqb, shed, addN, Nat.beq, Seg.size, sizes, imp, needP, andN, appL, argsOf, ptrsOf, aasOf, cut, takeS, dropS, putS, partsOf, fillS, fieldOf, nthA, negIf, nilq, nilB, eqS, eqF, eqS1, andP, kin, slcS, strOk, plusA, bndHi, leN, optG, roH, roL, initT, exOk, exAll, wrAddr, Nat.reduceAdd, Nat.reduceSub, Nat.reduceMul, Int.reduceToNat, List.append_nil, List.nil_append, List.cons_append, mapR, mapR1, keyL, keyOk, keyP, colsPut, colsDel, zcols, eqT, idxT, cat, cpy, ite_int, ite_bool, ite_seg, ite_segs, ite_nil, ite_twice, Int.toNat_natCast, app, addBs, tob])); (repeat (first | (refine And.intro ?_ ?_; · (first | trivial | assumption | omega | exact ⟨by omega, by omega⟩ | (intros; first | trivial | assumption | omega | decide))))); with_reducible refine hK _ ?_; clear hK K) | (refine run_cond rfl (fun hc => ?_) (fun hc => ?_) <;> try (simp only [*, Bool.true_eq_false, Bool.false_eq_true, Bool.not_true, Bool.not_false, Bool.true_or, Bool.or_true, Bool.false_or, Bool.or_false, Bool.false_and, Bool.and_false, bne_self_eq_false, beq_self_eq_true] at hc; done)) | refine run_block ?_ | refine run_ret ?_ | refine run_nil ?_ | refine run_exit ?_ | refine blk_normal ?_ | refine blk_ret ?_ | refine blk_here ?_ | refine blk_there rfl ?_ | refine loop_exit ?_ | refine loop_ret ?_ | refine un_exit ?_ | refine un_ret ?_ | refine unE_exit ?_ | refine unE_ret ?_ | refine un_normal ?_)
      refine loop_normal (6 - (i + 1)) (exSt (i + 1) (decide (4 < i + 1))) (by omega) (LeS.intro [0, 1] (fun i h => absurd h (Nat.not_lt_zero i)) (by simp only [diff, notIn, Nat.beq, and_self]) rfl ?_ ⟨blk_le' (foldF su) 0 0 rfl, opsw_le _ _ _ (fun _ _ => rfl), trivial⟩) ⟨i + 1, by omega, rfl, rfl⟩
      have hd2 : decide (4 < i) = decide (4 < i + 1) := by congr 1; exact propext ⟨fun h => by omega, fun h => by omega⟩
      simp only [exSt, hd2, slotsLe, slotAt, Nat.beq, leV, leV1, leC, leA, nthO, and_self]
  · have hge : decide (4 < i) = true := by simp only [decide_eq_false_iff_not] at hc; exact decide_eq_true (by omega)
    rw [hge]
    repeat' (first | refine run_seq ?_ | refine run_skip ?_ | (refine run_region fun K hK => ?_; (try (simp (maxSteps := 10000000) only [opL, blkB, blkL, opsW, beq_self_eq_true, Bool.and_self, C23r0, C23r1, C23r2, C23r3, C23r4, C23r5, C23r6, C23r7, C23r8, C23r9, C23r10, rwp_nil, rwp_cons, rwpK_app, aop, gpath, St.get, slotAt, sfx, eqP, segsOf, St.put, addBlk, getB, setB, delB, ld1, ldn, st1, stn, setRow, rowNeed, segAt, nsub, bin, un, eqB, isShift, sameK, arith, shiftR, getsl, selB_or, selB_and, beqb, shed, addN, Nat.beq, Seg.size, sizes, imp, needP, andN, appL, argsOf, ptrsOf, aasOf, cut, takeS, dropS, putS, partsOf, fillS, fieldOf, nthA, negIf, nilq, nilB, eqS, eqF, eqS1, andP, kin, slcS, strOk, plusA, bndHi, leN, optG, roH, roL, initT, exOk, exAll, wrAddr, Nat.reduceAdd, Nat.reduceSub, Nat.reduceMul, Int.reduceToNat, List.append_nil, List.nil_append, List.cons_append, mapR, mapR1, keyL, keyOk, keyP, colsPut, colsDel, zcols, eqT, idxT, cat, cpy, ite_int, ite_bool, ite_seg, ite_segs, ite_nil, ite_twice, Int.toNat_natCast, app, addBs, tob])); (repeat (first | (refine And.intro ?_ ?_; · (first | trivial | assumption | omega | exact ⟨by omega, by omega⟩ | (intros; first | trivial | assumption | omega | decide))))); with_reducible refine hK _ ?_; clear hK K) | (refine run_cond rfl (fun hc => ?_) (fun hc => ?_) <;> try (simp only [*, Bool.true_eq_false, Bool.false_eq_true, Bool.not_true, Bool.not_false, Bool.true_or, Bool.or_true, Bool.false_or, Bool.or_false, Bool.false_and, Bool.and_false, bne_self_eq_false, beq_self_eq_true] at hc; done)) | refine run_block ?_ | refine run_ret ?_ | refine run_nil ?_ | refine run_exit ?_ | refine blk_normal ?_ | refine blk_ret ?_ | refine blk_here ?_ | refine blk_there rfl ?_ | refine loop_exit ?_ | refine loop_ret ?_ | refine un_exit ?_ | refine un_ret ?_ | refine unE_exit ?_ | refine unE_ret ?_ | refine un_normal ?_)
    exact end_tmp1 rfl rfl rfl ⟨rfl, rfl⟩
end Go.Proofs.Ytmbnakinhnkabaa

namespace Go.Proofs.Ytmbnakinhnkabaa
open Go.AM
set_option maxRecDepth 100000
set_option linter.unusedSimpArgs false
set_option linter.unusedVariables false
theorem key_iff {s : PS} {k r : Int} {i : Nat} : keyEq (placeL k r) (knK s) i = true ↔ s.kk i = k ∧ s.kr i = r := by
  simp only [placeL, knK, keyEq, eqCb, Bool.and_eq_true, beq_iff_eq, and_true]
  constructor
  · rintro ⟨h1, h2⟩; exact ⟨h1.symm, h2.symm⟩
  · rintro ⟨h1, h2⟩; exact ⟨h1.symm, h2.symm⟩
theorem find_at {s : PS} {k r : Int} (h : knFind s k r < s.kn) : s.kk (knFind s k r) = k ∧ s.kr (knFind s k r) = r := key_iff.1 (findI_lt (p := keyEq (placeL k r) (knK s)) h)
theorem find_has {s : PS} {k r : Int} {j : Nat} (h : s.kk j = k ∧ s.kr j = r) : knFind s k r ≤ j := by
  rcases Nat.lt_or_ge j (knFind s k r) with hlt | hge
  · have h1 := findI_no (p := keyEq (placeL k r) (knK s)) (n := s.kn) hlt
    rw [key_iff.2 h] at h1
    cases h1
  · exact hge
def KnD (s : PS) : Prop := ∀ i j, i < s.kn → j < s.kn → s.kk i = s.kk j → s.kr i = s.kr j → i = j
def Has (s : PS) (k r v : Int) : Prop := ∃ j, j < s.kn ∧ s.kk j = k ∧ s.kr j = r ∧ s.kv j = v
theorem find_lt {s : PS} {k r : Int} : knFind s k r < s.kn ↔ ∃ v, Has s k r v := by
  constructor
  · intro h
    exact ⟨_, _, h, (find_at h).1, (find_at h).2, rfl⟩
  · rintro ⟨v, j, hj, h1, h2, _⟩
    have := find_has ⟨h1, h2⟩
    omega
theorem put_has {s : PS} (hd : KnD s) {k r v k' r' v' : Int} : Has (knPut s k r v) k' r' v' ↔ (k' = k ∧ r' = r ∧ v' = v) ∨ (¬ (k' = k ∧ r' = r) ∧ Has s k' r' v') := by
  have hle := findI_ok (s := s) (k := k) (r := r)
  constructor
  · rintro ⟨j, hj, h1, h2, h3⟩
    simp only [knPut] at hj h1 h2 h3
    by_cases e : j = knFind s k r
    · simp only [e, if_true] at h1 h2 h3
      exact .inl ⟨h1.symm, h2.symm, h3.symm⟩
    · rw [if_neg e] at h1 h2 h3
      have hj' : j < s.kn := by omega
      refine .inr ⟨?_, j, hj', h1, h2, h3⟩
      rintro ⟨e1, e2⟩
      rw [e1] at h1
      rw [e2] at h2
      have hp := find_has ⟨h1, h2⟩
      have ha := find_at (s := s) (k := k) (r := r) (by omega)
      exact e (hd _ _ hj' (by omega) (h1.trans ha.1.symm) (h2.trans ha.2.symm))
  · rintro (⟨rfl, rfl, rfl⟩ | ⟨hne, j, hj, h1, h2, h3⟩)
    · refine ⟨knFind s k' r', ?_, ?_, ?_, ?_⟩ <;> simp only [knPut, if_true]
      omega
    · have e : j ≠ knFind s k r := by
        rintro rfl
        have ha := find_at hj
        exact hne ⟨h1.symm.trans ha.1, h2.symm.trans ha.2⟩
      refine ⟨j, ?_, ?_, ?_, ?_⟩ <;> simp only [knPut, if_neg e, h1, h2, h3]
      omega
theorem put_d {s : PS} (hd : KnD s) (k r v : Int) : KnD (knPut s k r v) := by
  have hle := findI_ok (s := s) (k := k) (r := r)
  have ne : ∀ j, j < max s.kn (knFind s k r + 1) → j ≠ knFind s k r → s.kk j = k → s.kr j = r → False := fun j hj e h1 h2 => by
    have hj : j < s.kn := by omega
    have hp := find_has ⟨h1, h2⟩
    have ha := find_at (s := s) (k := k) (r := r) (by omega)
    exact e (hd _ _ hj (by omega) (h1.trans ha.1.symm) (h2.trans ha.2.symm))
  intro i j hi hj h1 h2
  simp only [knPut] at hi hj h1 h2
  by_cases ei : i = knFind s k r
  · by_cases ej : j = knFind s k r
    · exact ei.trans ej.symm
    · rw [if_pos ei, if_neg ej] at h1 h2
      exact (ne j hj ej h1.symm h2.symm).elim
  · by_cases ej : j = knFind s k r
    · rw [if_neg ei, if_pos ej] at h1 h2
      exact (ne i hi ei h1 h2).elim
    · rw [if_neg ei, if_neg ej] at h1 h2
      exact hd i j (by omega) (by omega) h1 h2
theorem del_has {s : PS} (hd : KnD s) {k r k' r' v' : Int} : Has (knDel s k r) k' r' v' ↔ ¬ (k' = k ∧ r' = r) ∧ Has s k' r' v' := by
  have hle := findI_ok (s := s) (k := k) (r := r)
  constructor
  · rintro ⟨j, hj, h1, h2, h3⟩
    simp only [knDel] at hj h1 h2 h3
    by_cases e : j < knFind s k r
    · rw [if_pos e] at h1 h2 h3
      refine ⟨?_, j, by omega, h1, h2, h3⟩
      rintro ⟨rfl, rfl⟩
      have := find_has ⟨h1, h2⟩
      omega
    · rw [if_neg e] at h1 h2 h3
      have hp : knFind s k r < s.kn := by split at hj <;> omega
      rw [if_pos hp] at hj
      refine ⟨?_, j + 1, by omega, h1, h2, h3⟩
      rintro ⟨rfl, rfl⟩
      have ha := find_at hp
      have := hd _ _ (by omega) hp (h1.trans ha.1.symm) (h2.trans ha.2.symm)
      omega
  · rintro ⟨hne, j, hj, h1, h2, h3⟩
    by_cases e : j < knFind s k r
    · refine ⟨j, ?_, ?_, ?_, ?_⟩ <;> simp only [knDel, if_pos e, h1, h2, h3]
      split <;> omega
    · have hp : knFind s k r < s.kn := by omega
      have e2 : j ≠ knFind s k r := by
        rintro rfl
        have ha := find_at hj
        exact hne ⟨h1.symm.trans ha.1, h2.symm.trans ha.2⟩
      have e3 : j - 1 + 1 = j := by omega
      have e4 : ¬ j - 1 < knFind s k r := by omega
      refine ⟨j - 1, ?_, ?_, ?_, ?_⟩ <;> simp only [knDel, if_neg e4, e3, h1, h2, h3]
      rw [if_pos hp]; omega
theorem del_d {s : PS} (hd : KnD s) (k r : Int) : KnD (knDel s k r) := by
  have hle := findI_ok (s := s) (k := k) (r := r)
  intro i j hi hj h1 h2
  simp only [knDel] at hi hj h1 h2
  have hi' : i < s.kn ∧ (¬ i < knFind s k r → i + 1 < s.kn) := by split at hi <;> omega
  have hj' : j < s.kn ∧ (¬ j < knFind s k r → j + 1 < s.kn) := by split at hj <;> omega
  by_cases ei : i < knFind s k r
  · by_cases ej : j < knFind s k r
    · rw [if_pos ei, if_pos ej] at h1 h2
      exact hd i j hi'.1 hj'.1 h1 h2
    · rw [if_pos ei, if_neg ej] at h1 h2
      have := hd i (j + 1) hi'.1 (hj'.2 ej) h1 h2
      omega
  · by_cases ej : j < knFind s k r
    · rw [if_neg ei, if_pos ej] at h1 h2
      have := hd (i + 1) j (hi'.2 ei) hj'.1 h1 h2
      omega
    · rw [if_neg ei, if_neg ej] at h1 h2
      have := hd (i + 1) (j + 1) (hi'.2 ei) (hj'.2 ej) h1 h2
      omega
theorem set_has {s : PS} (hd : KnD s) {o : OpS} {k r k' r' v' : Int} : Has (knSet s o k r) k' r' v' ↔ if k' = k ∧ r' = r then ((k != 2) || truthF (s.f o.a.toNat)) = true ∧ v' = o.a else Has s k' r' v' := by
  unfold knSet
  by_cases hc : ((k != 2) || truthF (s.f o.a.toNat)) = true
  · rw [if_pos hc, put_has hd]
    by_cases e : k' = k ∧ r' = r
    · rw [if_pos e]
      exact ⟨fun h => ⟨hc, h.elim (·.2.2) fun h => absurd e h.1⟩, fun h => .inl ⟨e.1, e.2, h.2⟩⟩
    · rw [if_neg e]
      exact ⟨fun h => h.elim (fun h => absurd ⟨h.1, h.2.1⟩ e) (·.2), fun h => .inr ⟨e, h⟩⟩
  · rw [if_neg hc, del_has hd]
    by_cases e : k' = k ∧ r' = r
    · rw [if_pos e]
      exact ⟨fun h => absurd e h.1, fun h => absurd h.1 hc⟩
    · rw [if_neg e]
      exact ⟨fun h => h.2, fun h => ⟨e, h⟩⟩
theorem set_d {s : PS} (hd : KnD s) (o : OpS) (k r : Int) : KnD (knSet s o k r) := by
  unfold knSet
  split
  · exact put_d hd _ _ _
  · exact del_d hd _ _
theorem one_d {s : PS} (hd : KnD s) (o : OpS) : KnD (oneP s o).s := by
  unfold oneP
  split
  · split
    · exact set_d hd _ _ _
    · split
      · exact hd
      · exact put_d (s := layS s o) hd _ _ _
  · split
    · split <;> exact hd
    · split
      · split
        · split <;> exact hd
        · exact hd
      · exact hd
theorem after_d {s : PS} (hd : KnD s) : KnD (afterP s) := one_d hd _
def putB (s : PS) (b : BlkS) : PS := { s with b := b }
structure Agree (b b' : BlkS) : Prop where
  n : b'.n = b.n
  f : ∀ i, i < b.n → b'.f i = b.f i
theorem one_putB (s : PS) (b' : BlkS) (o : OpS) : oneP (putB s b') o = ⟨putB (oneP s o).s b', (oneP s o).v, (oneP s o).e, (oneP s o).l⟩ := by
  have e1 : ∀ k r, knFind (putB s b') k r = knFind s k r := fun _ _ => rfl
  have e2 : ∀ v, isC (putB s b') v = isC s v := fun _ => rfl
  have e3 : ∀ k r, knSet (putB s b') o k r = putB (knSet s o k r) b' := fun k r => by
    unfold knSet
    show (if ((k != 2) || truthF (s.f o.a.toNat)) = true then putB (knPut s k r o.a) b' else putB (knDel s k r) b') = _
    by_cases hc : ((k != 2) || truthF (s.f o.a.toNat)) = true
    · rw [if_pos hc, if_pos hc]
    · rw [if_neg hc, if_neg hc]
  unfold oneP
  simp only [e1, e2, e3, show (putB s b').kn = s.kn from rfl, show (putB s b').f = s.f from rfl]
  (repeat' split) <;> rfl
theorem step_putB : ∀ (t : Nat) {s : PS} {b' : BlkS}, PsOk s → Agree s.b b' → stepN t (putB s b') = putB (stepN t s) b'
  | 0, s, b', _, _ => rfl
  | t + 1, s, b', h, ha => by
    have e0 : (putB s b').na = s.na := rfl
    have e1 : (putB s b').b.n = s.b.n := ha.n
    simp only [stepN, e0, e1]
    by_cases hlt : s.na < s.b.n
    · have hn : nextP (putB s b') = ⟨putB (nextP s).s b', (nextP s).v, (nextP s).e, (nextP s).l⟩ := by
        show oneP (putB s b') (reO s (b'.f s.na)) = _
        rw [ha.f _ hlt]
        exact one_putB s b' _
      have haf : afterP (putB s b') = putB (afterP s) b' := by unfold afterP; rw [hn]; rfl
      rw [if_pos hlt, if_pos hlt, hn, haf]
      have hb := after_b h hlt
      show (if (nextP s).e = true then _ else _) = _
      by_cases he : (nextP s).e = true
      · rw [if_pos he, if_pos he]
      · rw [if_neg he, if_neg he]
        exact step_putB t (after_ok h hlt) (by rw [hb]; exact ha)
    · rw [if_neg hlt, if_neg hlt]
theorem foldB_same {x : BlkS} (hr : rightS x = true) (hc : chgS x = false) : chgS (foldB x) = false ∧ foldB (foldB x) = foldB x := by
  have he : eqOps (stepS x).m x.n (stepS x).f x.f = true := by unfold chgS at hc; simpa using hc
  obtain ⟨h1, h2⟩ := eqOps_iff.1 he
  have ha : Agree x (foldB x) := ⟨h1, fun i hi => h2 i (by omega)⟩
  have hs : stepS (foldB x) = putB (stepS x) (foldB x) := by
    show stepN (stepS x).m (ps0 (foldB x)) = _
    rw [h1]
    exact step_putB x.n (s := ps0 x) (ps0_ok hr) ha
  constructor
  · unfold chgS
    rw [hs]
    show (!eqOps (stepS x).m (stepS x).m (stepS x).f (stepS x).f) = false
    rw [eqOps_iff.2 ⟨rfl, fun _ _ => rfl⟩]
    rfl
  · show ({ foldB x with n := (stepS (foldB x)).m, f := (stepS (foldB x)).f } : BlkS) = foldB x
    rw [hs]
    rfl
theorem foldF_ind (P : BlkS → Prop) (h0 : ∀ {x}, rightS x = true → chgS x = false → P (foldB x)) : ∀ {N : Nat} {b : BlkS}, wt b.f b.n ≤ N → rightS b = true → P (foldF b)
  | 0, b, hw, hr => by
    have h1 := wt_mono b.f (show 1 ≤ b.n from (right_n hr).1)
    simp only [wt] at h1
    have := wOp_pos (b.f 0)
    omega
  | N + 1, b, hw, hr => by
    rw [foldF_step hr]
    split
    · rename_i hc
      have := fold_lt hr hc
      exact foldF_ind P h0 (N := N) (by omega) (fold_right hr)
    · rename_i hc
      exact h0 hr (by simpa using hc)
theorem foldF_same {b : BlkS} (hr : rightS b = true) : rightS (foldF b) = true ∧ chgS (foldF b) = false ∧ foldB (foldF b) = foldF b ∧ foldF (foldF b) = foldF b := by
  refine foldF_ind (fun a => rightS a = true ∧ chgS a = false ∧ foldB a = a ∧ foldF a = a) (fun {x} hr hc => ?_) (Nat.le_refl _) hr
  obtain ⟨h1, h2⟩ := foldB_same hr hc
  refine ⟨fold_right hr, h1, h2, ?_⟩
  rw [foldF_step (fold_right hr), h1, h2]
  rfl
end Go.Proofs.Ytmbnakinhnkabaa

