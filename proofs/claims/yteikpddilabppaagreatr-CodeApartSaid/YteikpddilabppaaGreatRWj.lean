/- insn: Right. -/
import Derived.Test.YteikpddilabppaaGreatRWi
namespace Go.Proofs.YteikpddilabppaaGreatR
open Go.AM
set_option maxRecDepth 100000
set_option linter.unusedSimpArgs false
set_option linter.unusedVariables false
def eqI (a i : InsnS) : Bool := (a.op == i.op && (a.sub == i.sub && (a.rd == i.rd && (a.rn == i.rn && (a.rm == i.rm && (a.ra == i.ra && (a.imm == i.imm && (a.imm2 == i.imm2 && (a.amount == i.amount && (a.shift == i.shift && (a.cond == i.cond && (a.sys == i.sys && (a.flags == i.flags && (a.minus == i.minus && (a.not_ == i.not_ && (a.link == i.link && true))))))))))))))))
def badR (v : Int) : Bool := decide (v < 0) || decide (v > 31)
def regF (i : InsnS) : Nat → Int
  | 0 => i.rd
  | 1 => i.rn
  | 2 => i.rm
  | _ => i.ra
def regsOk (i : InsnS) : Nat → Nat → Bool
  | 0, _ => true
  | m + 1, j => !badR (regF i j) && regsOk i m (j + 1)
def rightB (i : InsnS) (f : ByteArray) (ok : Bool) : Bool := eqI (onlyS i f) i && (regsOk i 4 0 && ok)
def regsB (i : InsnS) : Blk := ⟨1, some 4, fun j => [.c (.int .i64 (regF i j))], 3, true⟩
theorem regs_rows (i : InsnS) (j : Nat) (hj : j < 4) : cutD [Seg.c (.int .i64 i.rd), Seg.c (.int .i64 i.rn), Seg.c (.int .i64 i.rm), Seg.c (.int .i64 i.ra)] (j * 1) 1 = [Seg.c (.int .i64 (regF i j))] := by
  match j, hj with
  | 0, _ => rfl
  | 1, _ => rfl
  | 2, _ => rfl
  | 3, _ => rfl
theorem regs_le {l : List Nat} (i : InsnS) : leB l (regsB i) (regsB i) := ⟨rfl, rfl, id, Nat.le_refl _, fun _ _ => ⟨⟨rfl, rfl⟩, trivial⟩⟩
theorem regs_le0 {l : List Nat} (i : InsnS) : leB l ⟨1, some 4, fun j => cutD [Seg.c (.int .i64 i.rd), Seg.c (.int .i64 i.rn), Seg.c (.int .i64 i.rm), Seg.c (.int .i64 i.ra)] (j * 1) 1, 3, true⟩ (regsB i) := ⟨rfl, rfl, id, Nat.le_refl _, fun j hj => by
  show leSegs _ (cutD _ (j * 1) 1) _
  rw [regs_rows i j hj]
  exact ⟨⟨rfl, rfl⟩, trivial⟩⟩
theorem con111_at (m : Nat) (i : InsnS) (hm : m < 1000) (a b n : Nat) (X : List (Nat × Blk)) (hab : Nat.beq a b = false) (ha : getB X a = some (intsW m)) (hb : getB X b = some (slB a m true)) (hla : a < n) (hlb : b < n) (hkl : keysLt X n) : Con Tryz.prog 111 [.agg (insnL i), .c (.ptr ⟨b, 0, 0, 0⟩)] ⟨n, X⟩ (fun v H' => v = .c (.bool (inL (fun i => (i : Int)) m i.sub)) ∧ H' = ⟨n, X⟩) :=
  ro_gen (con111 m (fun i => (i : Int)) i hm) [a, b] n X rfl (by simp only [diff, notIn, hab, and_self]) ⟨hla, hlb, trivial⟩ hkl (by
    simp only [leBlks, nthO, ha, hb]
    exact ⟨⟨rfl, rfl, fun h => (by cases h), Nat.le_refl _, fun _ _ => ⟨⟨⟨rfl, rfl, rfl, rfl⟩, rfl, rfl⟩, trivial⟩⟩, ints_le m _ true, trivial⟩) (by simp only [leArgs, leV, leV1, insnL, leSegs, leSeg, leC, leA, nthO, and_self]) rfl (fun _ => rfl) rfl rfl
def rPSt (i : InsnS) (f : ByteArray) (g : FuncId) (j : Nat) : St := ⟨[⟨33, [], .c (.int .i64 j)⟩, ⟨32, [], .c (.int .i64 4)⟩, ⟨31, [], .c (.slice ⟨2, 0, 0, 0⟩ false 4)⟩, ⟨1, [], .c (.ptr ⟨0, 0, 0, 0⟩)⟩, ⟨3, [], .c (.ptr ⟨1, 0, 0, 0⟩)⟩], ⟨3, [(2, regsB i), (1, shapeB f g []), (0, insnB i)]⟩⟩
theorem right_rP (i : InsnS) (f : ByteArray) (hf : f.size < 1000) (g : FuncId) (ok : Bool) (h17 : ∀ H, Con Tryz.prog 17 [.c (.int .i64 i.op)] H (fun v H' => v = shapeV f g [] true ∧ H' = H)) (hg : ∀ H, Con Tryz.prog g [.agg (insnL i)] H (fun v H' => v = .c (.bool ok) ∧ H' = H)) : Con Tryz.prog 11 [.agg (insnL i)] ⟨0, []⟩ (fun v H' => v = .c (.bool (rightB i f ok)) ∧ H' = ⟨0, []⟩) := by
  generalize hV : rightB i f ok = V
  unfold rightB at hV
  (refine con_of_run mixed (fn := Tryz.f11) (by kernel_rfl) (by kernel_rfl) C11_ok (rs := [.tmp 2]) (by kernel_rfl) (Nat.le_of_ble_eq_true (by kernel_rfl)) ?_; unfold C11; simp only [initT])
  repeat' (first
    | refine run_seq ?_
    | refine run_skip ?_
    | (refine run_region fun K hK => ?_; (try (simp (maxSteps := 10000000) only [insnL, Bool.not_true, C11r0, C11r1, C11r2, C11r3, rwp_nil, rwp_cons, aop, gpath, St.get, slotAt, sfx, eqP, segsOf, St.put, addBlk, getB, ld1, ldn, rowNeed, segAt, nsub, un, beqb, shed, addN, Seg.size, sizes, appL, argsOf, ptrsOf, cut, takeS, dropS, Nat.reduceAdd])); (repeat (first | (refine And.intro ?_ ?_; · decide) | ((first | (refine call_t _ (h17 _) ?_; rintro v H' ⟨rfl, rfl⟩) | refine call_q _ (h17 _) ?_ | refine call_g _ (imp_of (h17 _)) ?_ | (refine call_t _ (con18 i f hf _) ?_; rintro v H' ⟨rfl, rfl⟩) | refine call_q _ (con18 i f hf _) ?_ | refine call_g _ (imp_of (con18 i f hf _)) ?_); simp (maxSteps := 10000000) only [insnL, shapeV, Bool.false_or, rwp_nil, rwp_cons, rwpK_app, aop, gpath, St.get, slotAt, sfx, eqP, St.put, addBlk, getB, setB, ldn, stn, setRow, rowNeed, nsub, sameK, getsl, selB_or, beqb, shed, Nat.beq, Seg.size, sizes, cut, takeS, dropS, putS, nthA, negIf, eqS, eqF, eqS1, exOk, Nat.reduceAdd, List.append_nil, List.nil_append]))); with_reducible refine hK _ ?_; clear hK K)
    | (refine run_cond rfl (fun hc => ?_) (fun hc => ?_) <;> try (simp only [*, Bool.true_eq_false, Bool.false_eq_true, Bool.not_true, Bool.not_false, Bool.true_or, Bool.or_true, Bool.false_or, Bool.or_false, Bool.false_and, Bool.and_false, bne_self_eq_false, beq_self_eq_true] at hc; done))
    | refine run_block ?_
    | refine run_ret ?_
    | refine run_nil ?_
    | refine run_exit ?_
    | refine blk_normal ?_
    | refine blk_ret ?_
    | refine blk_here ?_
    | refine blk_there rfl ?_
    | refine loop_exit ?_
    | refine loop_ret ?_
    | refine un_exit ?_
    | refine un_ret ?_
    | refine unE_exit ?_
    | refine unE_ret ?_
    | refine un_normal ?_)
  · have he : (!eqI (onlyS i f) i) = true := hc
    have he' : eqI (onlyS i f) i = false := by simpa using he
    rw [he', Bool.false_and] at hV
    subst hV
    exact end_tmp1 rfl rfl rfl ⟨rfl, rfl⟩
  · have he : (!eqI (onlyS i f) i) = false := hc
    have he' : eqI (onlyS i f) i = true := by simpa using he
    rw [he', Bool.true_and] at hV
    clear hc he he'
    (refine run_regionL fun K hK => ?_; (try (simp (maxSteps := 10000000) only [repl, rowsFit, rowFn, C11r4, rwp_nil, rwp_cons, aop, gpath, St.get, slotAt, sfx, eqP, segsOf, St.put, addBlk, getB, ld1, rowNeed, segAt, nsub, shed, addN, Nat.beq, Seg.size, sizes, cut, takeS, dropS, putS, partsOf, fillS, Nat.reduceAdd, List.append_nil, List.nil_append, List.cons_append])); (repeat (refine And.intro ?_ ?_; · first | trivial | assumption | omega)); refine hK _ (rPSt i f g 0) ((LeS.intro [0, 1, 2] (fun i h => absurd h (Nat.not_lt_zero i)) (by simp only [diff, notIn, Nat.beq, and_self]) rfl (by simp only [rPSt, slotsLe, slotAt, leV, leV1, leC, leA, nthO, and_self, Int.natCast_zero]; decide) ⟨regs_le0 i, ⟨rfl, rfl, id, Nat.le_refl _, fun _ _ => by simp only [shapeB, leSegs, leSeg, leC, leAL, and_self]⟩, insn_le i, trivial⟩)) ?_; clear hK K)
    refine run_block ?_
    refine run_loop (fun q st => ∃ j : Nat, st = rPSt i f g j ∧ q = 4 - j ∧ j ≤ 4 ∧ (regsOk i (4 - j) j && ok) = V) 4 ⟨0, rfl, rfl, by decide, hV⟩ ?_
    clear hV
    rintro q st ⟨j, rfl, hq, hj, hT⟩
    simp only [rPSt, regsB, shapeB, insnB]
    repeat' (first
    | refine run_seq ?_
    | refine run_skip ?_
    | (refine run_region fun K hK => ?_; (try (simp (maxSteps := 10000000) only [insnL, C11r5, C11r6, C11r7, C11r8, C11r9, C11r10, rwp_nil, rwp_cons, aop, gpath, St.get, slotAt, sfx, eqP, St.put, addBlk, getB, ld1, ldn, rowNeed, segAt, nsub, bin, isShift, sameK, arith, getsl, selB_or, beqb, shed, addN, Nat.beq, Seg.size, imp, appL, argsOf, ptrsOf, cut, takeS, dropS, strOk, plusA, Nat.reduceAdd, Int.toNat_natCast])); (repeat (first | (refine And.intro ?_ ?_; · (first | decide | omega | (simp only [decide_eq_true_eq] at hc; omega))) | ((first | (refine call_t _ (hg _) ?_; rintro v H' ⟨rfl, rfl⟩) | refine call_q _ (hg _) ?_ | refine call_g _ (imp_of (hg _)) ?_); simp (maxSteps := 10000000) only [rwp_nil, rwp_cons, rwpK_app, aop, gpath, St.get, slotAt, sfx, eqP, St.put, addBlk, shed]))); with_reducible refine hK _ ?_; clear hK K)
    | (refine run_cond rfl (fun hc => ?_) (fun hc => ?_) <;> try (simp only [*, Bool.true_eq_false, Bool.false_eq_true, Bool.not_true, Bool.not_false, Bool.true_or, Bool.or_true, Bool.false_or, Bool.or_false, Bool.false_and, Bool.and_false, bne_self_eq_false, beq_self_eq_true] at hc; done))
    | refine run_block ?_
    | refine run_ret ?_
    | refine run_nil ?_
    | refine run_exit ?_
    | refine blk_normal ?_
    | refine blk_ret ?_
    | refine blk_here ?_
    | refine blk_there rfl ?_
    | refine loop_exit ?_
    | refine loop_ret ?_
    | refine un_exit ?_
    | refine un_ret ?_
    | refine unE_exit ?_
    | refine unE_ret ?_
    | refine un_normal ?_)
    · have hlt : j < 4 := by have := of_decide_eq_true ‹decide ((j : Int) < 4) = true›; omega
      have hb : badR (regF i j) = true := hc
      obtain ⟨m, hm⟩ : ∃ m, 4 - j = m + 1 := ⟨3 - j, by omega⟩
      rw [hm] at hT
      unfold regsOk at hT
      rw [hb, Bool.not_true, Bool.false_and, Bool.false_and] at hT
      exact end_tmp1 rfl rfl rfl ⟨by rw [hT], rfl⟩
    · have hlt : j < 4 := by have := of_decide_eq_true ‹decide ((j : Int) < 4) = true›; omega
      have hb : badR (regF i j) = false := hc
      obtain ⟨m, hm⟩ : ∃ m, 4 - j = m + 1 := ⟨3 - j, by omega⟩
      have hw : IntKind.i64.wrap ((j : Int) + 1) = ((j + 1 : Nat) : Int) := by rw [IntKind.wrap_i64]; omega
      rw [hm] at hT
      unfold regsOk at hT
      rw [hb, Bool.not_false, Bool.true_and] at hT
      rw [hw]
      exact loop_normal m (rPSt i f g (j + 1)) (by omega) (LeS.intro [0, 1, 2] (fun i h => absurd h (Nat.not_lt_zero i)) (by simp only [diff, notIn, Nat.beq, and_self]) rfl (by simp only [rPSt, slotsLe, slotAt, leV, leV1, leC, leA, nthO, and_self]) ⟨regs_le i, ⟨rfl, rfl, id, Nat.le_refl _, fun _ _ => by simp only [shapeB, leSegs, leSeg, leC, leAL, and_self]⟩, insn_le i, trivial⟩) ⟨j + 1, rfl, by omega, by omega, by rw [show 4 - (j + 1) = m by omega]; exact hT⟩
    · have hge : ¬ j < 4 := by have := of_decide_eq_false ‹decide ((j : Int) < 4) = false›; omega
      have h0 : 4 - j = 0 := by omega
      rw [h0] at hT
      have e : ok = V := hT
      exact end_tmp1 rfl rfl rfl ⟨by rw [e], rfl⟩
def rQSt (i : InsnS) (f : ByteArray) (a : Int) (j : Nat) : St := ⟨[⟨33, [], .c (.int .i64 j)⟩, ⟨32, [], .c (.int .i64 4)⟩, ⟨31, [], .c (.slice ⟨3, 0, 0, 0⟩ false 4)⟩, ⟨1, [], .c (.ptr ⟨0, 0, 0, 0⟩)⟩, ⟨3, [], .c (.ptr ⟨2, 0, 0, 0⟩)⟩], ⟨4, [(3, regsB i), (2, shapeB f 113 [⟨1, 0, 0, 0⟩]), (1, boxW a), (0, insnB i)]⟩⟩
theorem right_rQ (i : InsnS) (f : ByteArray) (hf : f.size < 1000) (a : Int) (ha : 0 ≤ a) (h17 : ∀ n X, keysLt X n → Con Tryz.prog 17 [.c (.int .i64 i.op)] ⟨n, X⟩ (fun v H' => v = shapeV f 113 [⟨n, 0, 0, 0⟩] true ∧ H' = addBs ⟨n, X⟩ [boxW a])) : Con Tryz.prog 11 [.agg (insnL i)] ⟨0, []⟩ (fun v H' => v = .c (.bool (rightB i f (farS a i))) ∧ H' = ⟨0, []⟩) := by
  generalize hV : rightB i f (farS a i) = V
  unfold rightB at hV
  (refine con_of_run mixed (fn := Tryz.f11) (by kernel_rfl) (by kernel_rfl) C11_ok (rs := [.tmp 2]) (by kernel_rfl) (Nat.le_of_ble_eq_true (by kernel_rfl)) ?_; unfold C11; simp only [initT])
  repeat' (first
    | refine run_seq ?_
    | refine run_skip ?_
    | (refine run_region fun K hK => ?_; (try (simp (maxSteps := 10000000) only [insnL, Bool.not_true, C11r0, C11r1, C11r2, C11r3, rwp_nil, rwp_cons, aop, gpath, St.get, slotAt, sfx, eqP, segsOf, St.put, addBlk, getB, ld1, ldn, rowNeed, segAt, nsub, un, beqb, shed, addN, Seg.size, sizes, appL, argsOf, ptrsOf, cut, takeS, dropS, Nat.reduceAdd])); (repeat (first | (refine And.intro ?_ ?_; · decide) | ((first | (refine call_t _ (h17 _ _ (by simp [keysLt])) ?_; rintro v H' ⟨rfl, rfl⟩) | refine call_q _ (h17 _ _ (by simp [roL, keysLt, boxW])) ?_ | refine call_g _ (imp_of (h17 _ _ (by simp [roL, keysLt, boxW]))) ?_ | (refine call_t _ (con18 i f hf _) ?_; rintro v H' ⟨rfl, rfl⟩) | refine call_q _ (con18 i f hf _) ?_ | refine call_g _ (imp_of (con18 i f hf _)) ?_); simp (maxSteps := 10000000) only [insnL, shapeV, Bool.false_or, rwp_nil, rwp_cons, rwpK_app, aop, gpath, St.get, slotAt, sfx, eqP, St.put, addBlk, getB, setB, ldn, stn, setRow, rowNeed, nsub, sameK, getsl, selB_or, beqb, shed, Nat.beq, Seg.size, sizes, cut, takeS, dropS, putS, nthA, negIf, eqS, eqF, eqS1, exOk, Nat.reduceAdd, List.append_nil, List.nil_append, addBs]))); with_reducible refine hK _ ?_; clear hK K)
    | (refine run_cond rfl (fun hc => ?_) (fun hc => ?_) <;> try (simp only [*, Bool.true_eq_false, Bool.false_eq_true, Bool.not_true, Bool.not_false, Bool.true_or, Bool.or_true, Bool.false_or, Bool.or_false, Bool.false_and, Bool.and_false, bne_self_eq_false, beq_self_eq_true] at hc; done))
    | refine run_block ?_
    | refine run_ret ?_
    | refine run_nil ?_
    | refine run_exit ?_
    | refine blk_normal ?_
    | refine blk_ret ?_
    | refine blk_here ?_
    | refine blk_there rfl ?_
    | refine loop_exit ?_
    | refine loop_ret ?_
    | refine un_exit ?_
    | refine un_ret ?_
    | refine unE_exit ?_
    | refine unE_ret ?_
    | refine un_normal ?_)
  · have he : (!eqI (onlyS i f) i) = true := hc
    have he' : eqI (onlyS i f) i = false := by simpa using he
    rw [he', Bool.false_and] at hV
    subst hV
    exact end_tmp1 rfl rfl rfl ⟨rfl, rfl⟩
  · have he : (!eqI (onlyS i f) i) = false := hc
    have he' : eqI (onlyS i f) i = true := by simpa using he
    rw [he', Bool.true_and] at hV
    clear hc he he'
    (refine run_regionL fun K hK => ?_; (try (simp (maxSteps := 10000000) only [repl, rowsFit, rowFn, C11r4, rwp_nil, rwp_cons, aop, gpath, St.get, slotAt, sfx, eqP, segsOf, St.put, addBlk, getB, ld1, rowNeed, segAt, nsub, shed, addN, Nat.beq, Seg.size, sizes, cut, takeS, dropS, putS, partsOf, fillS, Nat.reduceAdd, List.append_nil, List.nil_append, List.cons_append])); (repeat (refine And.intro ?_ ?_; · first | trivial | assumption | omega)); refine hK _ (rQSt i f a 0) ((LeS.intro [0, 1, 2, 3] (fun i h => absurd h (Nat.not_lt_zero i)) (by simp only [diff, notIn, Nat.beq, and_self]) rfl (by simp only [rQSt, slotsLe, slotAt, leV, leV1, leC, leA, nthO, and_self, Int.natCast_zero]; decide) ⟨regs_le0 i, ⟨rfl, rfl, id, Nat.le_refl _, fun _ _ => by simp only [shapeB, leSegs, leSeg, leC, leAL, leA, nthO, and_self]⟩, ⟨rfl, rfl, id, Nat.le_refl _, fun _ _ => by simp only [boxW, leSegs, leSeg, leC, and_self]⟩, insn_le i, trivial⟩)) ?_; clear hK K)
    refine run_block ?_
    refine run_loop (fun q st => ∃ j : Nat, st = rQSt i f a j ∧ q = 4 - j ∧ j ≤ 4 ∧ (regsOk i (4 - j) j && (farS a i)) = V) 4 ⟨0, rfl, rfl, by decide, hV⟩ ?_
    clear hV
    rintro q st ⟨j, rfl, hq, hj, hT⟩
    simp only [rQSt, regsB, shapeB, insnB]
    repeat' (first
    | refine run_seq ?_
    | refine run_skip ?_
    | (refine run_region fun K hK => ?_; (try (simp (maxSteps := 10000000) only [insnL, C11r5, C11r6, C11r7, C11r8, C11r9, C11r10, rwp_nil, rwp_cons, aop, gpath, St.get, slotAt, sfx, eqP, St.put, addBlk, getB, ld1, ldn, rowNeed, segAt, nsub, bin, isShift, sameK, arith, getsl, selB_or, beqb, shed, addN, Nat.beq, Seg.size, imp, appL, argsOf, ptrsOf, cut, takeS, dropS, strOk, plusA, Nat.reduceAdd, Int.toNat_natCast])); (repeat (first | (refine And.intro ?_ ?_; · (first | decide | omega | (simp only [decide_eq_true_eq] at hc; omega))) | ((first | (refine call_t _ (con113_at a i ha 1 _ _ true rfl (by decide) (by simp [keysLt])) ?_; rintro v H' ⟨rfl, rfl⟩) | refine call_q _ (con113_at a i ha 1 _ _ true rfl (by decide) (by simp [roL, keysLt, boxW])) ?_ | refine call_g _ (imp_of (con113_at a i ha 1 _ _ true rfl (by decide) (by simp [roL, keysLt, boxW]))) ?_); simp (maxSteps := 10000000) only [rwp_nil, rwp_cons, rwpK_app, aop, gpath, St.get, slotAt, sfx, eqP, St.put, addBlk, shed]))); with_reducible refine hK _ ?_; clear hK K)
    | (refine run_cond rfl (fun hc => ?_) (fun hc => ?_) <;> try (simp only [*, Bool.true_eq_false, Bool.false_eq_true, Bool.not_true, Bool.not_false, Bool.true_or, Bool.or_true, Bool.false_or, Bool.or_false, Bool.false_and, Bool.and_false, bne_self_eq_false, beq_self_eq_true] at hc; done))
    | refine run_block ?_
    | refine run_ret ?_
    | refine run_nil ?_
    | refine run_exit ?_
    | refine blk_normal ?_
    | refine blk_ret ?_
    | refine blk_here ?_
    | refine blk_there rfl ?_
    | refine loop_exit ?_
    | refine loop_ret ?_
    | refine un_exit ?_
    | refine un_ret ?_
    | refine unE_exit ?_
    | refine unE_ret ?_
    | refine un_normal ?_)
    · have hlt : j < 4 := by have := of_decide_eq_true ‹decide ((j : Int) < 4) = true›; omega
      have hb : badR (regF i j) = true := hc
      obtain ⟨m, hm⟩ : ∃ m, 4 - j = m + 1 := ⟨3 - j, by omega⟩
      rw [hm] at hT
      unfold regsOk at hT
      rw [hb, Bool.not_true, Bool.false_and, Bool.false_and] at hT
      exact end_tmp1 rfl rfl rfl ⟨by rw [hT], rfl⟩
    · have hlt : j < 4 := by have := of_decide_eq_true ‹decide ((j : Int) < 4) = true›; omega
      have hb : badR (regF i j) = false := hc
      obtain ⟨m, hm⟩ : ∃ m, 4 - j = m + 1 := ⟨3 - j, by omega⟩
      have hw : IntKind.i64.wrap ((j : Int) + 1) = ((j + 1 : Nat) : Int) := by rw [IntKind.wrap_i64]; omega
      rw [hm] at hT
      unfold regsOk at hT
      rw [hb, Bool.not_false, Bool.true_and] at hT
      rw [hw]
      exact loop_normal m (rQSt i f a (j + 1)) (by omega) (LeS.intro [0, 1, 2, 3] (fun i h => absurd h (Nat.not_lt_zero i)) (by simp only [diff, notIn, Nat.beq, and_self]) rfl (by simp only [rQSt, slotsLe, slotAt, leV, leV1, leC, leA, nthO, and_self]) ⟨regs_le i, ⟨rfl, rfl, id, Nat.le_refl _, fun _ _ => by simp only [shapeB, leSegs, leSeg, leC, leAL, leA, nthO, and_self]⟩, ⟨rfl, rfl, id, Nat.le_refl _, fun _ _ => by simp only [boxW, leSegs, leSeg, leC, and_self]⟩, insn_le i, trivial⟩) ⟨j + 1, rfl, by omega, by omega, by rw [show 4 - (j + 1) = m by omega]; exact hT⟩
    · have hge : ¬ j < 4 := by have := of_decide_eq_false ‹decide ((j : Int) < 4) = false›; omega
      have h0 : 4 - j = 0 := by omega
      rw [h0] at hT
      have e : (farS a i) = V := hT
      exact end_tmp1 rfl rfl rfl ⟨by rw [e], rfl⟩
def rSSt (i : InsnS) (f : ByteArray) (c : Nat) (j : Nat) : St := ⟨[⟨33, [], .c (.int .i64 j)⟩, ⟨32, [], .c (.int .i64 4)⟩, ⟨31, [], .c (.slice ⟨4, 0, 0, 0⟩ false 4)⟩, ⟨1, [], .c (.ptr ⟨0, 0, 0, 0⟩)⟩, ⟨3, [], .c (.ptr ⟨3, 0, 0, 0⟩)⟩], ⟨5, [(4, regsB i), (3, shapeB f 111 [⟨2, 0, 0, 0⟩]), (2, slB 1 c true), (1, intsW c), (0, insnB i)]⟩⟩
theorem right_rS (i : InsnS) (f : ByteArray) (hf : f.size < 1000) (c : Nat) (hc0 : c < 1000) (h17 : ∀ n X, keysLt X n → Con Tryz.prog 17 [.c (.int .i64 i.op)] ⟨n, X⟩ (fun v H' => v = shapeV f 111 [⟨n + 1, 0, 0, 0⟩] true ∧ H' = addBs ⟨n, X⟩ [intsW c, slB n c true])) : Con Tryz.prog 11 [.agg (insnL i)] ⟨0, []⟩ (fun v H' => v = .c (.bool (rightB i f (inL (fun i => (i : Int)) c i.sub))) ∧ H' = ⟨0, []⟩) := by
  generalize hV : rightB i f (inL (fun i => (i : Int)) c i.sub) = V
  unfold rightB at hV
  (refine con_of_run mixed (fn := Tryz.f11) (by kernel_rfl) (by kernel_rfl) C11_ok (rs := [.tmp 2]) (by kernel_rfl) (Nat.le_of_ble_eq_true (by kernel_rfl)) ?_; unfold C11; simp only [initT])
  repeat' (first
    | refine run_seq ?_
    | refine run_skip ?_
    | (refine run_region fun K hK => ?_; (try (simp (maxSteps := 10000000) only [insnL, Bool.not_true, C11r0, C11r1, C11r2, C11r3, rwp_nil, rwp_cons, aop, gpath, St.get, slotAt, sfx, eqP, segsOf, St.put, addBlk, getB, ld1, ldn, rowNeed, segAt, nsub, un, beqb, shed, addN, Seg.size, sizes, appL, argsOf, ptrsOf, cut, takeS, dropS, Nat.reduceAdd])); (repeat (first | (refine And.intro ?_ ?_; · decide) | ((first | (refine call_t _ (h17 _ _ (by simp [keysLt])) ?_; rintro v H' ⟨rfl, rfl⟩) | refine call_q _ (h17 _ _ (by simp [roL, keysLt, boxW])) ?_ | refine call_g _ (imp_of (h17 _ _ (by simp [roL, keysLt, boxW]))) ?_ | (refine call_t _ (con18 i f hf _) ?_; rintro v H' ⟨rfl, rfl⟩) | refine call_q _ (con18 i f hf _) ?_ | refine call_g _ (imp_of (con18 i f hf _)) ?_); simp (maxSteps := 10000000) only [insnL, shapeV, Bool.false_or, rwp_nil, rwp_cons, rwpK_app, aop, gpath, St.get, slotAt, sfx, eqP, St.put, addBlk, getB, setB, ldn, stn, setRow, rowNeed, nsub, sameK, getsl, selB_or, beqb, shed, Nat.beq, Seg.size, sizes, cut, takeS, dropS, putS, nthA, negIf, eqS, eqF, eqS1, exOk, Nat.reduceAdd, List.append_nil, List.nil_append, addBs]))); with_reducible refine hK _ ?_; clear hK K)
    | (refine run_cond rfl (fun hc => ?_) (fun hc => ?_) <;> try (simp only [*, Bool.true_eq_false, Bool.false_eq_true, Bool.not_true, Bool.not_false, Bool.true_or, Bool.or_true, Bool.false_or, Bool.or_false, Bool.false_and, Bool.and_false, bne_self_eq_false, beq_self_eq_true] at hc; done))
    | refine run_block ?_
    | refine run_ret ?_
    | refine run_nil ?_
    | refine run_exit ?_
    | refine blk_normal ?_
    | refine blk_ret ?_
    | refine blk_here ?_
    | refine blk_there rfl ?_
    | refine loop_exit ?_
    | refine loop_ret ?_
    | refine un_exit ?_
    | refine un_ret ?_
    | refine unE_exit ?_
    | refine unE_ret ?_
    | refine un_normal ?_)
  · have he : (!eqI (onlyS i f) i) = true := hc
    have he' : eqI (onlyS i f) i = false := by simpa using he
    rw [he', Bool.false_and] at hV
    subst hV
    exact end_tmp1 rfl rfl rfl ⟨rfl, rfl⟩
  · have he : (!eqI (onlyS i f) i) = false := hc
    have he' : eqI (onlyS i f) i = true := by simpa using he
    rw [he', Bool.true_and] at hV
    clear hc he he'
    (refine run_regionL fun K hK => ?_; (try (simp (maxSteps := 10000000) only [repl, rowsFit, rowFn, C11r4, rwp_nil, rwp_cons, aop, gpath, St.get, slotAt, sfx, eqP, segsOf, St.put, addBlk, getB, ld1, rowNeed, segAt, nsub, shed, addN, Nat.beq, Seg.size, sizes, cut, takeS, dropS, putS, partsOf, fillS, Nat.reduceAdd, List.append_nil, List.nil_append, List.cons_append])); (repeat (refine And.intro ?_ ?_; · first | trivial | assumption | omega)); refine hK _ (rSSt i f c 0) ((LeS.intro [0, 1, 2, 3, 4] (fun i h => absurd h (Nat.not_lt_zero i)) (by simp only [diff, notIn, Nat.beq, and_self]) rfl (by simp only [rSSt, slotsLe, slotAt, leV, leV1, leC, leA, nthO, and_self, Int.natCast_zero]; decide) ⟨regs_le0 i, ⟨rfl, rfl, id, Nat.le_refl _, fun _ _ => by simp only [shapeB, leSegs, leSeg, leC, leAL, leA, nthO, and_self]⟩, ⟨rfl, rfl, id, Nat.le_refl _, fun _ _ => by simp only [slB, leSegs, leSeg, leC, leA, nthO, and_self]⟩, ⟨rfl, rfl, id, Nat.le_refl _, fun _ _ => by simp only [intsW, leSegs, leSeg, leC, and_self]⟩, insn_le i, trivial⟩)) ?_; clear hK K)
    refine run_block ?_
    refine run_loop (fun q st => ∃ j : Nat, st = rSSt i f c j ∧ q = 4 - j ∧ j ≤ 4 ∧ (regsOk i (4 - j) j && (inL (fun i => (i : Int)) c i.sub)) = V) 4 ⟨0, rfl, rfl, by decide, hV⟩ ?_
    clear hV
    rintro q st ⟨j, rfl, hq, hj, hT⟩
    simp only [rSSt, regsB, shapeB, insnB]
    repeat' (first
    | refine run_seq ?_
    | refine run_skip ?_
    | (refine run_region fun K hK => ?_; (try (simp (maxSteps := 10000000) only [insnL, C11r5, C11r6, C11r7, C11r8, C11r9, C11r10, rwp_nil, rwp_cons, aop, gpath, St.get, slotAt, sfx, eqP, St.put, addBlk, getB, ld1, ldn, rowNeed, segAt, nsub, bin, isShift, sameK, arith, getsl, selB_or, beqb, shed, addN, Nat.beq, Seg.size, imp, appL, argsOf, ptrsOf, cut, takeS, dropS, strOk, plusA, Nat.reduceAdd, Int.toNat_natCast])); (repeat (first | (refine And.intro ?_ ?_; · (first | decide | omega | (simp only [decide_eq_true_eq] at hc; omega))) | ((first | (refine call_t _ (con111_at c i hc0 1 2 _ _ rfl rfl rfl (by decide) (by decide) (by simp [keysLt])) ?_; rintro v H' ⟨rfl, rfl⟩) | refine call_q _ (con111_at c i hc0 1 2 _ _ rfl rfl rfl (by decide) (by decide) (by simp [roL, keysLt, boxW])) ?_ | refine call_g _ (imp_of (con111_at c i hc0 1 2 _ _ rfl rfl rfl (by decide) (by decide) (by simp [roL, keysLt, boxW]))) ?_); simp (maxSteps := 10000000) only [rwp_nil, rwp_cons, rwpK_app, aop, gpath, St.get, slotAt, sfx, eqP, St.put, addBlk, shed]))); with_reducible refine hK _ ?_; clear hK K)
    | (refine run_cond rfl (fun hc => ?_) (fun hc => ?_) <;> try (simp only [*, Bool.true_eq_false, Bool.false_eq_true, Bool.not_true, Bool.not_false, Bool.true_or, Bool.or_true, Bool.false_or, Bool.or_false, Bool.false_and, Bool.and_false, bne_self_eq_false, beq_self_eq_true] at hc; done))
    | refine run_block ?_
    | refine run_ret ?_
    | refine run_nil ?_
    | refine run_exit ?_
    | refine blk_normal ?_
    | refine blk_ret ?_
    | refine blk_here ?_
    | refine blk_there rfl ?_
    | refine loop_exit ?_
    | refine loop_ret ?_
    | refine un_exit ?_
    | refine un_ret ?_
    | refine unE_exit ?_
    | refine unE_ret ?_
    | refine un_normal ?_)
    · have hlt : j < 4 := by have := of_decide_eq_true ‹decide ((j : Int) < 4) = true›; omega
      have hb : badR (regF i j) = true := hc
      obtain ⟨m, hm⟩ : ∃ m, 4 - j = m + 1 := ⟨3 - j, by omega⟩
      rw [hm] at hT
      unfold regsOk at hT
      rw [hb, Bool.not_true, Bool.false_and, Bool.false_and] at hT
      exact end_tmp1 rfl rfl rfl ⟨by rw [hT], rfl⟩
    · have hlt : j < 4 := by have := of_decide_eq_true ‹decide ((j : Int) < 4) = true›; omega
      have hb : badR (regF i j) = false := hc
      obtain ⟨m, hm⟩ : ∃ m, 4 - j = m + 1 := ⟨3 - j, by omega⟩
      have hw : IntKind.i64.wrap ((j : Int) + 1) = ((j + 1 : Nat) : Int) := by rw [IntKind.wrap_i64]; omega
      rw [hm] at hT
      unfold regsOk at hT
      rw [hb, Bool.not_false, Bool.true_and] at hT
      rw [hw]
      exact loop_normal m (rSSt i f c (j + 1)) (by omega) (LeS.intro [0, 1, 2, 3, 4] (fun i h => absurd h (Nat.not_lt_zero i)) (by simp only [diff, notIn, Nat.beq, and_self]) rfl (by simp only [rSSt, slotsLe, slotAt, leV, leV1, leC, leA, nthO, and_self]) ⟨regs_le i, ⟨rfl, rfl, id, Nat.le_refl _, fun _ _ => by simp only [shapeB, leSegs, leSeg, leC, leAL, leA, nthO, and_self]⟩, ⟨rfl, rfl, id, Nat.le_refl _, fun _ _ => by simp only [slB, leSegs, leSeg, leC, leA, nthO, and_self]⟩, ⟨rfl, rfl, id, Nat.le_refl _, fun _ _ => by simp only [intsW, leSegs, leSeg, leC, and_self]⟩, insn_le i, trivial⟩) ⟨j + 1, rfl, by omega, by omega, by rw [show 4 - (j + 1) = m by omega]; exact hT⟩
    · have hge : ¬ j < 4 := by have := of_decide_eq_false ‹decide ((j : Int) < 4) = false›; omega
      have h0 : 4 - j = 0 := by omega
      rw [h0] at hT
      have e : (inL (fun i => (i : Int)) c i.sub) = V := hT
      exact end_tmp1 rfl rfl rfl ⟨by rw [e], rfl⟩
noncomputable def rightI (i : InsnS) : Bool := if i.op = 1 then rightB i ⟨#[100, 110, 105, 107, 70, 77]⟩ (addImmOk i) else (if i.op = 2 then rightB i ⟨#[100, 110, 109, 116, 107, 70, 77]⟩ (addRegOk i) else (if i.op = 3 then rightB i ⟨#[100, 110, 109, 115, 116, 107, 70, 78]⟩ (logRegOk i) else (if i.op = 4 then rightB i ⟨#[100, 110, 115, 107, 105, 106, 70]⟩ (logImmOk i) else (if i.op = 5 then rightB i ⟨#[100, 115, 105, 107]⟩ (movWideOk i) else (if i.op = 6 then rightB i ⟨#[100, 110, 115, 105, 106]⟩ (bitfieldOk i) else (if i.op = 7 then rightB i ⟨#[100, 110, 109, 115]⟩ (inL (fun i => (i : Int)) 4 i.sub) else (if i.op = 8 then rightB i ⟨#[100, 110, 109, 97, 77]⟩ (noneOk i) else (if i.op = 9 then rightB i ⟨#[100, 110, 109, 115]⟩ (inL (fun i => (i : Int)) 2 i.sub) else (if i.op = 10 then rightB i ⟨#[100, 110, 109, 115, 99]⟩ (selOk i) else (if i.op = 11 then rightB i ⟨#[100, 115, 105]⟩ (adrOk i) else (if i.op = 12 then rightB i ⟨#[105, 76]⟩ (farS 27 i) else (if i.op = 13 then rightB i ⟨#[99, 105]⟩ (bCondOk i) else (if i.op = 14 then rightB i ⟨#[100, 105, 78]⟩ (farS 20 i) else (if i.op = 15 then rightB i ⟨#[100, 105, 107, 78]⟩ (tbzOk i) else (if i.op = 16 then rightB i ⟨#[110, 115]⟩ (inL (fun i => (i : Int)) 3 i.sub) else (if i.op = 17 then rightB i ⟨#[100, 110, 105]⟩ (ldrOk i) else (if i.op = 18 then rightB i ⟨#[100, 110, 105]⟩ (ldrOk i) else (if i.op = 19 then rightB i ⟨#[100, 110, 109, 107]⟩ (ldrRegOk i) else (if i.op = 20 then rightB i ⟨#[100, 110, 109, 107]⟩ (ldrRegOk i) else (if i.op = 21 then rightB i ⟨#[100, 110, 115]⟩ (inL (fun i => (i : Int)) 2 i.sub) else (if i.op = 22 then rightB i ⟨#[100, 110]⟩ (noneOk i) else (if i.op = 23 then rightB i ⟨#[100, 110, 115]⟩ (inL (fun i => (i : Int)) 2 i.sub) else (if i.op = 24 then rightB i ⟨#[100, 110, 109, 115]⟩ (inL (fun i => (i : Int)) 2 i.sub) else (if i.op = 25 then rightB i ⟨#[]⟩ (noneOk i) else (if i.op = 26 then rightB i ⟨#[115, 105]⟩ (dmbOk i) else (if i.op = 27 then rightB i ⟨#[]⟩ (noneOk i) else (if i.op = 28 then rightB i ⟨#[100]⟩ (noneOk i) else (if i.op = 29 then rightB i ⟨#[]⟩ (noneOk i) else (if i.op = 30 then rightB i ⟨#[100]⟩ (noneOk i) else (if i.op = 31 then rightB i ⟨#[100, 121]⟩ (sysOk i) else (if i.op = 32 then rightB i ⟨#[100, 121]⟩ (sysOk i) else (if i.op = 33 then rightB i ⟨#[115, 105]⟩ (msrMaskOk i) else (if i.op = 34 then rightB i ⟨#[105]⟩ (svcOk i) else (if i.op = 35 then rightB i ⟨#[105]⟩ (svcOk i) else (if i.op = 36 then rightB i ⟨#[]⟩ (noneOk i) else (if i.op = 37 then rightB i ⟨#[105]⟩ (hintOk i) else (false)))))))))))))))))))))))))))))))))))))
theorem right_no (i : InsnS) (h : noOp i.op) : Con Tryz.prog 11 [.agg (insnL i)] ⟨0, []⟩ (fun v H' => v = .c (.bool false) ∧ H' = ⟨0, []⟩) := by
  (refine con_of_run mixed (fn := Tryz.f11) (by kernel_rfl) (by kernel_rfl) C11_ok (rs := [.tmp 2]) (by kernel_rfl) (Nat.le_of_ble_eq_true (by kernel_rfl)) ?_; unfold C11; simp only [initT])
  repeat' (first
    | refine run_seq ?_
    | refine run_skip ?_
    | (refine run_region fun K hK => ?_; (try (simp (maxSteps := 10000000) only [insnL, Bool.not_false, C11r0, C11r1, C11r2, C11r3, rwp_nil, rwp_cons, aop, gpath, St.get, slotAt, sfx, eqP, segsOf, St.put, addBlk, getB, ld1, ldn, rowNeed, segAt, nsub, un, beqb, shed, addN, Seg.size, sizes, appL, argsOf, ptrsOf, cut, takeS, dropS, Nat.reduceAdd])); (repeat (first | (refine And.intro ?_ ?_; · (intros; first | assumption | trivial | contradiction | omega)) | ((first | (refine call_t _ (sh17_no _ h _) ?_; rintro v H' ⟨rfl, rfl⟩) | refine call_q _ (sh17_no _ h _) ?_ | refine call_g _ (imp_of (sh17_no _ h _)) ?_ | (refine call_t _ (con18 i ⟨#[]⟩ (by decide) _) ?_; rintro v H' ⟨rfl, rfl⟩) | refine call_q _ (con18 i ⟨#[]⟩ (by decide) _) ?_ | refine call_g _ (imp_of (con18 i ⟨#[]⟩ (by decide) _)) ?_); simp (maxSteps := 10000000) only [insnL, noShapeV, Bool.true_or, rwp_nil, rwp_cons, rwpK_app, aop, gpath, St.get, slotAt, sfx, eqP, St.put, addBlk, getB, setB, ldn, stn, setRow, rowNeed, nsub, sameK, getsl, selB_or, beqb, shed, Nat.beq, Seg.size, sizes, cut, takeS, dropS, putS, nthA, negIf, eqS, eqF, eqS1, exOk, Nat.reduceAdd, List.append_nil, List.nil_append]))); with_reducible refine hK _ ?_; clear hK K)
    | (refine run_cond rfl (fun hc => ?_) (fun hc => ?_) <;> try (simp only [*, Bool.true_eq_false] at hc; done))
    | refine run_block ?_
    | refine run_ret ?_
    | refine run_nil ?_
    | refine run_exit ?_
    | refine blk_normal ?_
    | refine blk_ret ?_
    | refine blk_here ?_
    | refine blk_there rfl ?_
    | refine loop_exit ?_
    | refine loop_ret ?_
    | refine un_exit ?_
    | refine un_ret ?_
    | refine unE_exit ?_
    | refine unE_ret ?_
    | refine un_normal ?_)
  exact end_tmp1 rfl rfl rfl ⟨rfl, rfl⟩
theorem con11 (i : InsnS) (H : Heap) : Con Tryz.prog 11 [.agg (insnL i)] H (fun v H' => v = .c (.bool (rightI i)) ∧ H' = H) := by
  refine Con.pure ?_ (by simp only [leArgs, leV, leV1, insnL, leSegs, leSeg, leC, and_self]) rfl H
  unfold rightI
  by_cases h1 : i.op = 1
  · rw [if_pos h1]
    exact right_rP i _ (by decide) 69 _ (fun H => by rw [h1]; exact sh17_1 H) (con69 i)
  rw [if_neg h1]
  by_cases h2 : i.op = 2
  · rw [if_pos h2]
    exact right_rP i _ (by decide) 71 _ (fun H => by rw [h2]; exact sh17_2 H) (con71 i)
  rw [if_neg h2]
  by_cases h3 : i.op = 3
  · rw [if_pos h3]
    exact right_rP i _ (by decide) 72 _ (fun H => by rw [h3]; exact sh17_3 H) (con72 i)
  rw [if_neg h3]
  by_cases h4 : i.op = 4
  · rw [if_pos h4]
    exact right_rP i _ (by decide) 74 _ (fun H => by rw [h4]; exact sh17_4 H) (con74 i)
  rw [if_neg h4]
  by_cases h5 : i.op = 5
  · rw [if_pos h5]
    exact right_rP i _ (by decide) 76 _ (fun H => by rw [h5]; exact sh17_5 H) (con76 i)
  rw [if_neg h5]
  by_cases h6 : i.op = 6
  · rw [if_pos h6]
    exact right_rP i _ (by decide) 77 _ (fun H => by rw [h6]; exact sh17_6 H) (con77 i)
  rw [if_neg h6]
  by_cases h7 : i.op = 7
  · rw [if_pos h7]
    exact right_rS i _ (by decide) 4 (by decide) (fun n X hX => by rw [h7]; exact sh17_7 n X hX)
  rw [if_neg h7]
  by_cases h8 : i.op = 8
  · rw [if_pos h8]
    exact right_rP i _ (by decide) 79 _ (fun H => by rw [h8]; exact sh17_8 H) (con79 i)
  rw [if_neg h8]
  by_cases h9 : i.op = 9
  · rw [if_pos h9]
    exact right_rS i _ (by decide) 2 (by decide) (fun n X hX => by rw [h9]; exact sh17_9 n X hX)
  rw [if_neg h9]
  by_cases h10 : i.op = 10
  · rw [if_pos h10]
    exact right_rP i _ (by decide) 80 _ (fun H => by rw [h10]; exact sh17_10 H) (con80 i)
  rw [if_neg h10]
  by_cases h11 : i.op = 11
  · rw [if_pos h11]
    exact right_rP i _ (by decide) 81 _ (fun H => by rw [h11]; exact sh17_11 H) (con81 i)
  rw [if_neg h11]
  by_cases h12 : i.op = 12
  · rw [if_pos h12]
    exact right_rQ i _ (by decide) 27 (by decide) (fun n X hX => by rw [h12]; exact sh17_12 n X hX)
  rw [if_neg h12]
  by_cases h13 : i.op = 13
  · rw [if_pos h13]
    exact right_rP i _ (by decide) 83 _ (fun H => by rw [h13]; exact sh17_13 H) (con83 i)
  rw [if_neg h13]
  by_cases h14 : i.op = 14
  · rw [if_pos h14]
    exact right_rQ i _ (by decide) 20 (by decide) (fun n X hX => by rw [h14]; exact sh17_14 n X hX)
  rw [if_neg h14]
  by_cases h15 : i.op = 15
  · rw [if_pos h15]
    exact right_rP i _ (by decide) 84 _ (fun H => by rw [h15]; exact sh17_15 H) (con84 i)
  rw [if_neg h15]
  by_cases h16 : i.op = 16
  · rw [if_pos h16]
    exact right_rS i _ (by decide) 3 (by decide) (fun n X hX => by rw [h16]; exact sh17_16 n X hX)
  rw [if_neg h16]
  by_cases h17 : i.op = 17
  · rw [if_pos h17]
    exact right_rP i _ (by decide) 85 _ (fun H => by rw [h17]; exact sh17_17 H) (con85 i)
  rw [if_neg h17]
  by_cases h18 : i.op = 18
  · rw [if_pos h18]
    exact right_rP i _ (by decide) 85 _ (fun H => by rw [h18]; exact sh17_18 H) (con85 i)
  rw [if_neg h18]
  by_cases h19 : i.op = 19
  · rw [if_pos h19]
    exact right_rP i _ (by decide) 86 _ (fun H => by rw [h19]; exact sh17_19 H) (con86 i)
  rw [if_neg h19]
  by_cases h20 : i.op = 20
  · rw [if_pos h20]
    exact right_rP i _ (by decide) 86 _ (fun H => by rw [h20]; exact sh17_20 H) (con86 i)
  rw [if_neg h20]
  by_cases h21 : i.op = 21
  · rw [if_pos h21]
    exact right_rS i _ (by decide) 2 (by decide) (fun n X hX => by rw [h21]; exact sh17_21 n X hX)
  rw [if_neg h21]
  by_cases h22 : i.op = 22
  · rw [if_pos h22]
    exact right_rP i _ (by decide) 79 _ (fun H => by rw [h22]; exact sh17_22 H) (con79 i)
  rw [if_neg h22]
  by_cases h23 : i.op = 23
  · rw [if_pos h23]
    exact right_rS i _ (by decide) 2 (by decide) (fun n X hX => by rw [h23]; exact sh17_23 n X hX)
  rw [if_neg h23]
  by_cases h24 : i.op = 24
  · rw [if_pos h24]
    exact right_rS i _ (by decide) 2 (by decide) (fun n X hX => by rw [h24]; exact sh17_24 n X hX)
  rw [if_neg h24]
  by_cases h25 : i.op = 25
  · rw [if_pos h25]
    exact right_rP i _ (by decide) 79 _ (fun H => by rw [h25]; exact sh17_25 H) (con79 i)
  rw [if_neg h25]
  by_cases h26 : i.op = 26
  · rw [if_pos h26]
    exact right_rP i _ (by decide) 114 _ (fun H => by rw [h26]; exact sh17_26 H) (con114 i)
  rw [if_neg h26]
  by_cases h27 : i.op = 27
  · rw [if_pos h27]
    exact right_rP i _ (by decide) 79 _ (fun H => by rw [h27]; exact sh17_27 H) (con79 i)
  rw [if_neg h27]
  by_cases h28 : i.op = 28
  · rw [if_pos h28]
    exact right_rP i _ (by decide) 79 _ (fun H => by rw [h28]; exact sh17_28 H) (con79 i)
  rw [if_neg h28]
  by_cases h29 : i.op = 29
  · rw [if_pos h29]
    exact right_rP i _ (by decide) 79 _ (fun H => by rw [h29]; exact sh17_29 H) (con79 i)
  rw [if_neg h29]
  by_cases h30 : i.op = 30
  · rw [if_pos h30]
    exact right_rP i _ (by decide) 79 _ (fun H => by rw [h30]; exact sh17_30 H) (con79 i)
  rw [if_neg h30]
  by_cases h31 : i.op = 31
  · rw [if_pos h31]
    exact right_rP i _ (by decide) 115 _ (fun H => by rw [h31]; exact sh17_31 H) (con115 i)
  rw [if_neg h31]
  by_cases h32 : i.op = 32
  · rw [if_pos h32]
    exact right_rP i _ (by decide) 115 _ (fun H => by rw [h32]; exact sh17_32 H) (con115 i)
  rw [if_neg h32]
  by_cases h33 : i.op = 33
  · rw [if_pos h33]
    exact right_rP i _ (by decide) 117 _ (fun H => by rw [h33]; exact sh17_33 H) (con117 i)
  rw [if_neg h33]
  by_cases h34 : i.op = 34
  · rw [if_pos h34]
    exact right_rP i _ (by decide) 118 _ (fun H => by rw [h34]; exact sh17_34 H) (con118 i)
  rw [if_neg h34]
  by_cases h35 : i.op = 35
  · rw [if_pos h35]
    exact right_rP i _ (by decide) 118 _ (fun H => by rw [h35]; exact sh17_35 H) (con118 i)
  rw [if_neg h35]
  by_cases h36 : i.op = 36
  · rw [if_pos h36]
    exact right_rP i _ (by decide) 79 _ (fun H => by rw [h36]; exact sh17_36 H) (con79 i)
  rw [if_neg h36]
  by_cases h37 : i.op = 37
  · rw [if_pos h37]
    exact right_rP i _ (by decide) 119 _ (fun H => by rw [h37]; exact sh17_37 H) (con119 i)
  rw [if_neg h37]
  exact right_no i (by simp only [noOp, beq_eq_false_iff_ne, ne_eq]; exact ⟨h1, h2, h3, h4, h5, h6, h7, h8, h9, h10, h11, h12, h13, h14, h15, h16, h17, h18, h19, h20, h21, h22, h23, h24, h25, h26, h27, h28, h29, h30, h31, h32, h33, h34, h35, h36, h37⟩)
end Go.Proofs.YteikpddilabppaaGreatR
