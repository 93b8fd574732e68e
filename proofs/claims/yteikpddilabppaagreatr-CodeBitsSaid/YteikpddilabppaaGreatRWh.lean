/- insn: an instruction with some fields alone. -/
import Derived.Test.YteikpddilabppaaGreatRWf
namespace Go.Proofs.YteikpddilabppaaGreatR
open Go.AM
set_option maxRecDepth 100000
set_option linter.unusedSimpArgs false
set_option linter.unusedVariables false
def onlyStep (i o : InsnS) (b : Int) : InsnS := match b == 100 with | true => { o with rd := i.rd } | false => (match b == 110 with | true => { o with rn := i.rn } | false => (match b == 109 with | true => { o with rm := i.rm } | false => (match b == 97 with | true => { o with ra := i.ra } | false => (match b == 105 with | true => { o with imm := i.imm } | false => (match b == 106 with | true => { o with imm2 := i.imm2 } | false => (match b == 107 with | true => { o with amount := i.amount } | false => (match b == 116 with | true => { o with shift := i.shift } | false => (match b == 115 with | true => { o with sub := i.sub } | false => (match b == 99 with | true => { o with cond := i.cond } | false => (match b == 121 with | true => { o with sys := i.sys } | false => (match b == 70 with | true => { o with flags := i.flags } | false => (match b == 77 with | true => { o with minus := i.minus } | false => (match b == 78 with | true => { o with not_ := i.not_ } | false => (match b == 76 with | true => { o with link := i.link } | false => (o)))))))))))))))
def onlyL (i : InsnS) (f : ByteArray) : Nat → Nat → InsnS → InsnS
  | 0, _, o => o
  | m + 1, k, o => onlyL i f m (k + 1) (onlyStep i o (byteAt f k))
def onlyS (i : InsnS) (f : ByteArray) : InsnS := onlyL i f f.size 0 { nilI with op := i.op }
def bytesB (f : ByteArray) (w : Bool) : Blk := ⟨1, some f.size, fun k => [.c (.int .u8 (byteAt f k))], 5, w⟩
theorem bytes_le {l : List Nat} (f : ByteArray) (w : Bool) : leB l (bytesB f w) (bytesB f w) := ⟨rfl, rfl, id, Nat.le_refl _, fun _ _ => ⟨⟨rfl, rfl⟩, trivial⟩⟩
def onlySt (i : InsnS) (f : ByteArray) (o : InsnS) (k : Nat) : St := ⟨[⟨14, [], .c (.int .i64 k)⟩, ⟨13, [], .c (.int .i64 (f.size : Int))⟩, ⟨12, [], .c (.slice ⟨3, 0, 0, 0⟩ false f.size)⟩, ⟨2, [], .c (.ptr ⟨0, 0, 0, 0⟩)⟩, ⟨4, [], .c (.ptr ⟨1, 0, 0, 0⟩)⟩, ⟨5, [], .c (.ptr ⟨2, 0, 0, 0⟩)⟩], ⟨4, [(3, bytesB f false), (2, insnB o), (1, insnB nilI), (0, insnB i)]⟩⟩
theorem con18 (i : InsnS) (f : ByteArray) (hf : f.size < 1000) (H : Heap) : Con Tryz.prog 18 [.agg (insnL i), .c (.str f)] H (fun v H' => v = .agg (insnL (onlyS i f)) ∧ H' = H) := by
  refine Con.insn0 ?_ (by simp only [leArgs, leV, leV1, insnL, leSegs, leSeg, leC, and_self]) H
  (refine con_of_run mixed (fn := Tryz.f18) (by kernel_rfl) (by kernel_rfl) C18_ok (rs := [.cn 16 4]) (by kernel_rfl) (Nat.le_of_ble_eq_true (by kernel_rfl)) ?_; unfold C18; simp only [initT, Nat.reduceAdd])
  generalize hT : onlyS i f = T
  unfold onlyS at hT
  repeat' (first
    | refine run_seq ?_
    | refine run_skip ?_
    | (refine run_region fun K hK => ?_; (try (simp (maxSteps := 10000000) only [insnL, C18r0, C18r1, rwp_nil, rwp_cons, aop, gpath, St.get, slotAt, sfx, eqP, segsOf, St.put, addBlk, getB, setB, ld1, stn, setRow, rowNeed, segAt, nsub, shed, addN, Nat.beq, Seg.size, sizes, takeS, dropS, putS, partsOf, fillS, exOk, Nat.reduceAdd, List.append_nil, List.nil_append, List.cons_append])); (repeat (first | (refine And.intro ?_ ?_; · decide))); with_reducible refine hK _ ?_; clear hK K)
    | (refine run_cond rfl (fun hc => ?_) (fun hc => ?_) <;> try (simp only [*, Bool.true_eq_false, Bool.false_eq_true, Bool.not_true, Bool.not_false, Bool.true_or, Bool.or_true, Bool.false_or, Bool.or_false, Bool.false_and, Bool.and_false, bne_self_eq_false, beq_self_eq_true] at hc; done))
    | refine run_block ?_
    | refine run_ret ?_
    | refine run_nil ?_
    | refine run_exit ?_
    | refine blk_normal ?_
    | refine blk_ret ?_
    | refine blk_here ?_
    | refine blk_there rfl ?_
    | refine loop_exit ?_
    | refine loop_ret ?_
    | refine un_exit ?_
    | refine un_ret ?_
    | refine unE_exit ?_
    | refine unE_ret ?_
    | refine un_normal ?_)
  (refine run_regionL fun K hK => ?_; (try (simp (maxSteps := 10000000) only [C18r2, rwp_nil, rwp_cons, aop, gpath, St.get, slotAt, sfx, eqP, St.put, addBlk, shed, exOk, Nat.reduceAdd, tob])); (repeat (refine And.intro ?_ ?_; · first | trivial | assumption | omega)); refine hK _ (onlySt i f { nilI with op := i.op } 0) ((LeS.intro [0, 1, 2, 3] (fun i h => absurd h (Nat.not_lt_zero i)) (by simp only [diff, notIn, Nat.beq, and_self]) rfl (by simp only [onlySt, slotsLe, slotAt, leV, leV1, leC, leA, nthO, and_self, Int.natCast_zero]) ⟨bytes_le f false, insn_le { nilI with op := i.op }, insn_le nilI, insn_le i, trivial⟩)) ?_; clear hK K)
  refine run_block ?_
  refine run_loop (fun q st => ∃ (k : Nat) (o : InsnS), st = onlySt i f o k ∧ q = f.size - k ∧ k ≤ f.size ∧ onlyL i f (f.size - k) k o = T) f.size ⟨0, _, rfl, rfl, Nat.zero_le _, hT⟩ ?_
  clear hT
  rintro q st ⟨k, o, rfl, hq, hk, hT⟩
  simp only [onlySt, bytesB, insnB]
  repeat' (first
    | refine run_seq ?_
    | refine run_skip ?_
    | (refine run_region fun K hK => ?_; (try (simp (maxSteps := 10000000) only [insnL, C18r3, C18r4, C18r5, C18r6, C18r7, C18r8, C18r9, C18r10, C18r11, C18r12, C18r13, C18r14, C18r15, C18r16, C18r17, C18r18, C18r19, C18r20, C18r21, C18r22, C18r23, C18r24, C18r25, C18r26, C18r27, C18r28, C18r29, C18r30, C18r31, C18r32, C18r33, C18r34, C18r35, C18r36, C18r37, rwp_nil, rwp_cons, aop, gpath, St.get, slotAt, sfx, eqP, St.put, addBlk, getB, setB, ld1, ldn, st1, stn, setRow, rowNeed, segAt, nsub, bin, isShift, sameK, arith, shed, addN, Nat.beq, Seg.size, sizes, imp, cut, takeS, dropS, putS, strOk, plusA, exOk, Nat.reduceAdd, List.append_nil, List.nil_append, List.cons_append, Int.toNat_natCast])); (repeat (first | (refine And.intro ?_ ?_; · (first | omega | (simp only [decide_eq_true_eq] at hc; omega))))); with_reducible refine hK _ ?_; clear hK K)
    | (refine run_cond rfl (fun hc => ?_) (fun hc => ?_) <;> try (simp only [*, Bool.true_eq_false, Bool.false_eq_true, Bool.not_true, Bool.not_false, Bool.true_or, Bool.or_true, Bool.false_or, Bool.or_false, Bool.false_and, Bool.and_false, bne_self_eq_false, beq_self_eq_true] at hc; done))
    | refine run_block ?_
    | refine run_ret ?_
    | refine run_nil ?_
    | refine run_exit ?_
    | refine blk_normal ?_
    | refine blk_ret ?_
    | refine blk_here ?_
    | refine blk_there rfl ?_
    | refine loop_exit ?_
    | refine loop_ret ?_
    | refine un_exit ?_
    | refine un_ret ?_
    | refine unE_exit ?_
    | refine unE_ret ?_
    | refine un_normal ?_)
  case refine_2 =>
    have hge : ¬ k < f.size := by simpa using ‹decide ((k : Int) < (f.size : Int)) = false›
    have h0 : f.size - k = 0 := by omega
    rw [h0] at hT
    have e : o = T := hT
    rw [e]
    exact end_insn0 T rfl rfl ⟨rfl, rfl⟩
  · have hlt : k < f.size := by simpa using ‹decide ((k : Int) < (f.size : Int)) = true›
    obtain ⟨m, hm⟩ : ∃ m, f.size - k = m + 1 := ⟨f.size - k - 1, by omega⟩
    have hw : IntKind.i64.wrap ((k : Int) + 1) = ((k + 1 : Nat) : Int) := by rw [IntKind.wrap_i64]; omega
    rw [hm] at hT
    unfold onlyL at hT
    have e : onlyStep i o (byteAt f k) = { o with rd := i.rd } := by
      unfold onlyStep
      generalize byteAt f k = b at *
      simp only [*]
    rw [e] at hT
    rw [hw]
    exact loop_normal m (onlySt i f ({ o with rd := i.rd }) (k + 1)) (by omega) (LeS.intro [0, 1, 2, 3] (fun i h => absurd h (Nat.not_lt_zero i)) (by simp only [diff, notIn, Nat.beq, and_self]) rfl (by simp only [onlySt, slotsLe, slotAt, leV, leV1, leC, leA, nthO, and_self]) ⟨bytes_le f false, insn_le ({ o with rd := i.rd }), insn_le nilI, insn_le i, trivial⟩) ⟨k + 1, _, rfl, by omega, by omega, by rw [show f.size - (k + 1) = m by omega]; exact hT⟩
  · have hlt : k < f.size := by simpa using ‹decide ((k : Int) < (f.size : Int)) = true›
    obtain ⟨m, hm⟩ : ∃ m, f.size - k = m + 1 := ⟨f.size - k - 1, by omega⟩
    have hw : IntKind.i64.wrap ((k : Int) + 1) = ((k + 1 : Nat) : Int) := by rw [IntKind.wrap_i64]; omega
    rw [hm] at hT
    unfold onlyL at hT
    have e : onlyStep i o (byteAt f k) = { o with rn := i.rn } := by
      unfold onlyStep
      generalize byteAt f k = b at *
      simp only [*]
    rw [e] at hT
    rw [hw]
    exact loop_normal m (onlySt i f ({ o with rn := i.rn }) (k + 1)) (by omega) (LeS.intro [0, 1, 2, 3] (fun i h => absurd h (Nat.not_lt_zero i)) (by simp only [diff, notIn, Nat.beq, and_self]) rfl (by simp only [onlySt, slotsLe, slotAt, leV, leV1, leC, leA, nthO, and_self]) ⟨bytes_le f false, insn_le ({ o with rn := i.rn }), insn_le nilI, insn_le i, trivial⟩) ⟨k + 1, _, rfl, by omega, by omega, by rw [show f.size - (k + 1) = m by omega]; exact hT⟩
  · have hlt : k < f.size := by simpa using ‹decide ((k : Int) < (f.size : Int)) = true›
    obtain ⟨m, hm⟩ : ∃ m, f.size - k = m + 1 := ⟨f.size - k - 1, by omega⟩
    have hw : IntKind.i64.wrap ((k : Int) + 1) = ((k + 1 : Nat) : Int) := by rw [IntKind.wrap_i64]; omega
    rw [hm] at hT
    unfold onlyL at hT
    have e : onlyStep i o (byteAt f k) = { o with rm := i.rm } := by
      unfold onlyStep
      generalize byteAt f k = b at *
      simp only [*]
    rw [e] at hT
    rw [hw]
    exact loop_normal m (onlySt i f ({ o with rm := i.rm }) (k + 1)) (by omega) (LeS.intro [0, 1, 2, 3] (fun i h => absurd h (Nat.not_lt_zero i)) (by simp only [diff, notIn, Nat.beq, and_self]) rfl (by simp only [onlySt, slotsLe, slotAt, leV, leV1, leC, leA, nthO, and_self]) ⟨bytes_le f false, insn_le ({ o with rm := i.rm }), insn_le nilI, insn_le i, trivial⟩) ⟨k + 1, _, rfl, by omega, by omega, by rw [show f.size - (k + 1) = m by omega]; exact hT⟩
  · have hlt : k < f.size := by simpa using ‹decide ((k : Int) < (f.size : Int)) = true›
    obtain ⟨m, hm⟩ : ∃ m, f.size - k = m + 1 := ⟨f.size - k - 1, by omega⟩
    have hw : IntKind.i64.wrap ((k : Int) + 1) = ((k + 1 : Nat) : Int) := by rw [IntKind.wrap_i64]; omega
    rw [hm] at hT
    unfold onlyL at hT
    have e : onlyStep i o (byteAt f k) = { o with ra := i.ra } := by
      unfold onlyStep
      generalize byteAt f k = b at *
      simp only [*]
    rw [e] at hT
    rw [hw]
    exact loop_normal m (onlySt i f ({ o with ra := i.ra }) (k + 1)) (by omega) (LeS.intro [0, 1, 2, 3] (fun i h => absurd h (Nat.not_lt_zero i)) (by simp only [diff, notIn, Nat.beq, and_self]) rfl (by simp only [onlySt, slotsLe, slotAt, leV, leV1, leC, leA, nthO, and_self]) ⟨bytes_le f false, insn_le ({ o with ra := i.ra }), insn_le nilI, insn_le i, trivial⟩) ⟨k + 1, _, rfl, by omega, by omega, by rw [show f.size - (k + 1) = m by omega]; exact hT⟩
  · have hlt : k < f.size := by simpa using ‹decide ((k : Int) < (f.size : Int)) = true›
    obtain ⟨m, hm⟩ : ∃ m, f.size - k = m + 1 := ⟨f.size - k - 1, by omega⟩
    have hw : IntKind.i64.wrap ((k : Int) + 1) = ((k + 1 : Nat) : Int) := by rw [IntKind.wrap_i64]; omega
    rw [hm] at hT
    unfold onlyL at hT
    have e : onlyStep i o (byteAt f k) = { o with imm := i.imm } := by
      unfold onlyStep
      generalize byteAt f k = b at *
      simp only [*]
    rw [e] at hT
    rw [hw]
    exact loop_normal m (onlySt i f ({ o with imm := i.imm }) (k + 1)) (by omega) (LeS.intro [0, 1, 2, 3] (fun i h => absurd h (Nat.not_lt_zero i)) (by simp only [diff, notIn, Nat.beq, and_self]) rfl (by simp only [onlySt, slotsLe, slotAt, leV, leV1, leC, leA, nthO, and_self]) ⟨bytes_le f false, insn_le ({ o with imm := i.imm }), insn_le nilI, insn_le i, trivial⟩) ⟨k + 1, _, rfl, by omega, by omega, by rw [show f.size - (k + 1) = m by omega]; exact hT⟩
  · have hlt : k < f.size := by simpa using ‹decide ((k : Int) < (f.size : Int)) = true›
    obtain ⟨m, hm⟩ : ∃ m, f.size - k = m + 1 := ⟨f.size - k - 1, by omega⟩
    have hw : IntKind.i64.wrap ((k : Int) + 1) = ((k + 1 : Nat) : Int) := by rw [IntKind.wrap_i64]; omega
    rw [hm] at hT
    unfold onlyL at hT
    have e : onlyStep i o (byteAt f k) = { o with imm2 := i.imm2 } := by
      unfold onlyStep
      generalize byteAt f k = b at *
      simp only [*]
    rw [e] at hT
    rw [hw]
    exact loop_normal m (onlySt i f ({ o with imm2 := i.imm2 }) (k + 1)) (by omega) (LeS.intro [0, 1, 2, 3] (fun i h => absurd h (Nat.not_lt_zero i)) (by simp only [diff, notIn, Nat.beq, and_self]) rfl (by simp only [onlySt, slotsLe, slotAt, leV, leV1, leC, leA, nthO, and_self]) ⟨bytes_le f false, insn_le ({ o with imm2 := i.imm2 }), insn_le nilI, insn_le i, trivial⟩) ⟨k + 1, _, rfl, by omega, by omega, by rw [show f.size - (k + 1) = m by omega]; exact hT⟩
  · have hlt : k < f.size := by simpa using ‹decide ((k : Int) < (f.size : Int)) = true›
    obtain ⟨m, hm⟩ : ∃ m, f.size - k = m + 1 := ⟨f.size - k - 1, by omega⟩
    have hw : IntKind.i64.wrap ((k : Int) + 1) = ((k + 1 : Nat) : Int) := by rw [IntKind.wrap_i64]; omega
    rw [hm] at hT
    unfold onlyL at hT
    have e : onlyStep i o (byteAt f k) = { o with amount := i.amount } := by
      unfold onlyStep
      generalize byteAt f k = b at *
      simp only [*]
    rw [e] at hT
    rw [hw]
    exact loop_normal m (onlySt i f ({ o with amount := i.amount }) (k + 1)) (by omega) (LeS.intro [0, 1, 2, 3] (fun i h => absurd h (Nat.not_lt_zero i)) (by simp only [diff, notIn, Nat.beq, and_self]) rfl (by simp only [onlySt, slotsLe, slotAt, leV, leV1, leC, leA, nthO, and_self]) ⟨bytes_le f false, insn_le ({ o with amount := i.amount }), insn_le nilI, insn_le i, trivial⟩) ⟨k + 1, _, rfl, by omega, by omega, by rw [show f.size - (k + 1) = m by omega]; exact hT⟩
  · have hlt : k < f.size := by simpa using ‹decide ((k : Int) < (f.size : Int)) = true›
    obtain ⟨m, hm⟩ : ∃ m, f.size - k = m + 1 := ⟨f.size - k - 1, by omega⟩
    have hw : IntKind.i64.wrap ((k : Int) + 1) = ((k + 1 : Nat) : Int) := by rw [IntKind.wrap_i64]; omega
    rw [hm] at hT
    unfold onlyL at hT
    have e : onlyStep i o (byteAt f k) = { o with shift := i.shift } := by
      unfold onlyStep
      generalize byteAt f k = b at *
      simp only [*]
    rw [e] at hT
    rw [hw]
    exact loop_normal m (onlySt i f ({ o with shift := i.shift }) (k + 1)) (by omega) (LeS.intro [0, 1, 2, 3] (fun i h => absurd h (Nat.not_lt_zero i)) (by simp only [diff, notIn, Nat.beq, and_self]) rfl (by simp only [onlySt, slotsLe, slotAt, leV, leV1, leC, leA, nthO, and_self]) ⟨bytes_le f false, insn_le ({ o with shift := i.shift }), insn_le nilI, insn_le i, trivial⟩) ⟨k + 1, _, rfl, by omega, by omega, by rw [show f.size - (k + 1) = m by omega]; exact hT⟩
  · have hlt : k < f.size := by simpa using ‹decide ((k : Int) < (f.size : Int)) = true›
    obtain ⟨m, hm⟩ : ∃ m, f.size - k = m + 1 := ⟨f.size - k - 1, by omega⟩
    have hw : IntKind.i64.wrap ((k : Int) + 1) = ((k + 1 : Nat) : Int) := by rw [IntKind.wrap_i64]; omega
    rw [hm] at hT
    unfold onlyL at hT
    have e : onlyStep i o (byteAt f k) = { o with sub := i.sub } := by
      unfold onlyStep
      generalize byteAt f k = b at *
      simp only [*]
    rw [e] at hT
    rw [hw]
    exact loop_normal m (onlySt i f ({ o with sub := i.sub }) (k + 1)) (by omega) (LeS.intro [0, 1, 2, 3] (fun i h => absurd h (Nat.not_lt_zero i)) (by simp only [diff, notIn, Nat.beq, and_self]) rfl (by simp only [onlySt, slotsLe, slotAt, leV, leV1, leC, leA, nthO, and_self]) ⟨bytes_le f false, insn_le ({ o with sub := i.sub }), insn_le nilI, insn_le i, trivial⟩) ⟨k + 1, _, rfl, by omega, by omega, by rw [show f.size - (k + 1) = m by omega]; exact hT⟩
  · have hlt : k < f.size := by simpa using ‹decide ((k : Int) < (f.size : Int)) = true›
    obtain ⟨m, hm⟩ : ∃ m, f.size - k = m + 1 := ⟨f.size - k - 1, by omega⟩
    have hw : IntKind.i64.wrap ((k : Int) + 1) = ((k + 1 : Nat) : Int) := by rw [IntKind.wrap_i64]; omega
    rw [hm] at hT
    unfold onlyL at hT
    have e : onlyStep i o (byteAt f k) = { o with cond := i.cond } := by
      unfold onlyStep
      generalize byteAt f k = b at *
      simp only [*]
    rw [e] at hT
    rw [hw]
    exact loop_normal m (onlySt i f ({ o with cond := i.cond }) (k + 1)) (by omega) (LeS.intro [0, 1, 2, 3] (fun i h => absurd h (Nat.not_lt_zero i)) (by simp only [diff, notIn, Nat.beq, and_self]) rfl (by simp only [onlySt, slotsLe, slotAt, leV, leV1, leC, leA, nthO, and_self]) ⟨bytes_le f false, insn_le ({ o with cond := i.cond }), insn_le nilI, insn_le i, trivial⟩) ⟨k + 1, _, rfl, by omega, by omega, by rw [show f.size - (k + 1) = m by omega]; exact hT⟩
  · have hlt : k < f.size := by simpa using ‹decide ((k : Int) < (f.size : Int)) = true›
    obtain ⟨m, hm⟩ : ∃ m, f.size - k = m + 1 := ⟨f.size - k - 1, by omega⟩
    have hw : IntKind.i64.wrap ((k : Int) + 1) = ((k + 1 : Nat) : Int) := by rw [IntKind.wrap_i64]; omega
    rw [hm] at hT
    unfold onlyL at hT
    have e : onlyStep i o (byteAt f k) = { o with sys := i.sys } := by
      unfold onlyStep
      generalize byteAt f k = b at *
      simp only [*]
    rw [e] at hT
    rw [hw]
    exact loop_normal m (onlySt i f ({ o with sys := i.sys }) (k + 1)) (by omega) (LeS.intro [0, 1, 2, 3] (fun i h => absurd h (Nat.not_lt_zero i)) (by simp only [diff, notIn, Nat.beq, and_self]) rfl (by simp only [onlySt, slotsLe, slotAt, leV, leV1, leC, leA, nthO, and_self]) ⟨bytes_le f false, insn_le ({ o with sys := i.sys }), insn_le nilI, insn_le i, trivial⟩) ⟨k + 1, _, rfl, by omega, by omega, by rw [show f.size - (k + 1) = m by omega]; exact hT⟩
  · have hlt : k < f.size := by simpa using ‹decide ((k : Int) < (f.size : Int)) = true›
    obtain ⟨m, hm⟩ : ∃ m, f.size - k = m + 1 := ⟨f.size - k - 1, by omega⟩
    have hw : IntKind.i64.wrap ((k : Int) + 1) = ((k + 1 : Nat) : Int) := by rw [IntKind.wrap_i64]; omega
    rw [hm] at hT
    unfold onlyL at hT
    have e : onlyStep i o (byteAt f k) = { o with flags := i.flags } := by
      unfold onlyStep
      generalize byteAt f k = b at *
      simp only [*]
    rw [e] at hT
    rw [hw]
    exact loop_normal m (onlySt i f ({ o with flags := i.flags }) (k + 1)) (by omega) (LeS.intro [0, 1, 2, 3] (fun i h => absurd h (Nat.not_lt_zero i)) (by simp only [diff, notIn, Nat.beq, and_self]) rfl (by simp only [onlySt, slotsLe, slotAt, leV, leV1, leC, leA, nthO, and_self]) ⟨bytes_le f false, insn_le ({ o with flags := i.flags }), insn_le nilI, insn_le i, trivial⟩) ⟨k + 1, _, rfl, by omega, by omega, by rw [show f.size - (k + 1) = m by omega]; exact hT⟩
  · have hlt : k < f.size := by simpa using ‹decide ((k : Int) < (f.size : Int)) = true›
    obtain ⟨m, hm⟩ : ∃ m, f.size - k = m + 1 := ⟨f.size - k - 1, by omega⟩
    have hw : IntKind.i64.wrap ((k : Int) + 1) = ((k + 1 : Nat) : Int) := by rw [IntKind.wrap_i64]; omega
    rw [hm] at hT
    unfold onlyL at hT
    have e : onlyStep i o (byteAt f k) = { o with minus := i.minus } := by
      unfold onlyStep
      generalize byteAt f k = b at *
      simp only [*]
    rw [e] at hT
    rw [hw]
    exact loop_normal m (onlySt i f ({ o with minus := i.minus }) (k + 1)) (by omega) (LeS.intro [0, 1, 2, 3] (fun i h => absurd h (Nat.not_lt_zero i)) (by simp only [diff, notIn, Nat.beq, and_self]) rfl (by simp only [onlySt, slotsLe, slotAt, leV, leV1, leC, leA, nthO, and_self]) ⟨bytes_le f false, insn_le ({ o with minus := i.minus }), insn_le nilI, insn_le i, trivial⟩) ⟨k + 1, _, rfl, by omega, by omega, by rw [show f.size - (k + 1) = m by omega]; exact hT⟩
  · have hlt : k < f.size := by simpa using ‹decide ((k : Int) < (f.size : Int)) = true›
    obtain ⟨m, hm⟩ : ∃ m, f.size - k = m + 1 := ⟨f.size - k - 1, by omega⟩
    have hw : IntKind.i64.wrap ((k : Int) + 1) = ((k + 1 : Nat) : Int) := by rw [IntKind.wrap_i64]; omega
    rw [hm] at hT
    unfold onlyL at hT
    have e : onlyStep i o (byteAt f k) = { o with not_ := i.not_ } := by
      unfold onlyStep
      generalize byteAt f k = b at *
      simp only [*]
    rw [e] at hT
    rw [hw]
    exact loop_normal m (onlySt i f ({ o with not_ := i.not_ }) (k + 1)) (by omega) (LeS.intro [0, 1, 2, 3] (fun i h => absurd h (Nat.not_lt_zero i)) (by simp only [diff, notIn, Nat.beq, and_self]) rfl (by simp only [onlySt, slotsLe, slotAt, leV, leV1, leC, leA, nthO, and_self]) ⟨bytes_le f false, insn_le ({ o with not_ := i.not_ }), insn_le nilI, insn_le i, trivial⟩) ⟨k + 1, _, rfl, by omega, by omega, by rw [show f.size - (k + 1) = m by omega]; exact hT⟩
  · have hlt : k < f.size := by simpa using ‹decide ((k : Int) < (f.size : Int)) = true›
    obtain ⟨m, hm⟩ : ∃ m, f.size - k = m + 1 := ⟨f.size - k - 1, by omega⟩
    have hw : IntKind.i64.wrap ((k : Int) + 1) = ((k + 1 : Nat) : Int) := by rw [IntKind.wrap_i64]; omega
    rw [hm] at hT
    unfold onlyL at hT
    have e : onlyStep i o (byteAt f k) = { o with link := i.link } := by
      unfold onlyStep
      generalize byteAt f k = b at *
      simp only [*]
    rw [e] at hT
    rw [hw]
    exact loop_normal m (onlySt i f ({ o with link := i.link }) (k + 1)) (by omega) (LeS.intro [0, 1, 2, 3] (fun i h => absurd h (Nat.not_lt_zero i)) (by simp only [diff, notIn, Nat.beq, and_self]) rfl (by simp only [onlySt, slotsLe, slotAt, leV, leV1, leC, leA, nthO, and_self]) ⟨bytes_le f false, insn_le ({ o with link := i.link }), insn_le nilI, insn_le i, trivial⟩) ⟨k + 1, _, rfl, by omega, by omega, by rw [show f.size - (k + 1) = m by omega]; exact hT⟩
  · have hlt : k < f.size := by simpa using ‹decide ((k : Int) < (f.size : Int)) = true›
    obtain ⟨m, hm⟩ : ∃ m, f.size - k = m + 1 := ⟨f.size - k - 1, by omega⟩
    have hw : IntKind.i64.wrap ((k : Int) + 1) = ((k + 1 : Nat) : Int) := by rw [IntKind.wrap_i64]; omega
    rw [hm] at hT
    unfold onlyL at hT
    have e : onlyStep i o (byteAt f k) = o := by
      unfold onlyStep
      generalize byteAt f k = b at *
      simp only [*]
    rw [e] at hT
    rw [hw]
    exact loop_normal m (onlySt i f (o) (k + 1)) (by omega) (LeS.intro [0, 1, 2, 3] (fun i h => absurd h (Nat.not_lt_zero i)) (by simp only [diff, notIn, Nat.beq, and_self]) rfl (by simp only [onlySt, slotsLe, slotAt, leV, leV1, leC, leA, nthO, and_self]) ⟨bytes_le f false, insn_le (o), insn_le nilI, insn_le i, trivial⟩) ⟨k + 1, _, rfl, by omega, by omega, by rw [show f.size - (k + 1) = m by omega]; exact hT⟩
end Go.Proofs.YteikpddilabppaaGreatR
