/- Parts of the proof of codeEncodes_holds, joined and cut by a program: Wh, Wi, Wj, Wk, Wl, Wm, Wn, Wo. No condition. -/
import Derived.Test.YteikpddilabppaaGreatRZed
namespace Go.Proofs.YteikpddilabppaaGreatR
open Go.AM
set_option maxRecDepth 100000
set_option linter.unusedSimpArgs false
set_option linter.unusedVariables false
def onlyStep (i o : InsnS) (b : Int) : InsnS := match b == 100 with | true => { o with rd := i.rd } | false => (match b == 110 with | true => { o with rn := i.rn } | false => (match b == 109 with | true => { o with rm := i.rm } | false => (match b == 97 with | true => { o with ra := i.ra } | false => (match b == 105 with | true => { o with imm := i.imm } | false => (match b == 106 with | true => { o with imm2 := i.imm2 } | false => (match b == 107 with | true => { o with amount := i.amount } | false => (match b == 116 with | true => { o with shift := i.shift } | false => (match b == 115 with | true => { o with sub := i.sub } | false => (match b == 99 with | true => { o with cond := i.cond } | false => (match b == 121 with | true => { o with sys := i.sys } | false => (match b == 70 with | true => { o with flags := i.flags } | false => (match b == 77 with | true => { o with minus := i.minus } | false => (match b == 78 with | true => { o with not_ := i.not_ } | false => (match b == 76 with | true => { o with link := i.link } | false => (o)))))))))))))))
def onlyL (i : InsnS) (f : ByteArray) : Nat → Nat → InsnS → InsnS
  | 0, _, o => o
  | m + 1, k, o => onlyL i f m (k + 1) (onlyStep i o (byteAt f k))
def onlyS (i : InsnS) (f : ByteArray) : InsnS := onlyL i f f.size 0 { nilI with op := i.op }
def bytesB (f : ByteArray) (w : Bool) : Blk := ⟨1, some f.size, fun k => [.c (.int .u8 (byteAt f k))], 5, w⟩
theorem bytes_le {l : List Nat} (f : ByteArray) (w : Bool) : leB l (bytesB f w) (bytesB f w) := ⟨rfl, rfl, id, Nat.le_refl _, fun _ _ => ⟨⟨rfl, rfl⟩, trivial⟩⟩
def onlySt (i : InsnS) (f : ByteArray) (o : InsnS) (k : Nat) : St := ⟨[⟨14, [], .c (.int .i64 k)⟩, ⟨13, [], .c (.int .i64 (f.size : Int))⟩, ⟨12, [], .c (.slice ⟨3, 0, 0, 0⟩ false f.size)⟩, ⟨2, [], .c (.ptr ⟨0, 0, 0, 0⟩)⟩, ⟨4, [], .c (.ptr ⟨1, 0, 0, 0⟩)⟩, ⟨5, [], .c (.ptr ⟨2, 0, 0, 0⟩)⟩], ⟨4, [(3, bytesB f false), (2, insnB o), (1, insnB nilI), (0, insnB i)]⟩⟩
theorem con18 (i : InsnS) (f : ByteArray) (hf : f.size < 1000) (H : Heap) : Con Tryz.prog 18 [.agg (insnL i), .c (.str f)] H (fun v H' => v = .agg (insnL (onlyS i f)) ∧ H' = H) := by
  refine Con.insn0 ?_ (by simp only [leArgs, leV, leV1, insnL, leSegs, leSeg, leC, and_self]) H
  (refine con_of_run mixed (fn := Tryz.f18) (by kernel_rfl) (by kernel_rfl) C18_ok (rs := [.cn 16 4]) (by kernel_rfl) (Nat.le_of_ble_eq_true (by kernel_rfl)) ?_; unfold C18; simp only [initT, Nat.reduceAdd])
  generalize hT : onlyS i f = T
  unfold onlyS at hT
  repeat' (first | refine run_seq ?_ | refine run_skip ?_ | (refine run_region fun K hK => ?_; (try (simp (maxSteps := 10000000) only [insnL, C18r0, C18r1, rwp_nil, rwp_cons, aop, gpath, St.get, slotAt, sfx, eqP, segsOf, St.put, addBlk, getB, setB, ld1, stn, setRow, rowNeed, segAt, nsub, shed, addN, Nat.beq, Seg.size, sizes, takeS, dropS, putS, partsOf, fillS, exOk, Nat.reduceAdd, List.append_nil, List.nil_append, List.cons_append])); (repeat (first | (refine And.intro ?_ ?_; · decide))); with_reducible refine hK _ ?_; clear hK K) | (refine run_cond rfl (fun hc => ?_) (fun hc => ?_) <;> try (simp only [*, Bool.true_eq_false, Bool.false_eq_true, Bool.not_true, Bool.not_false, Bool.true_or, Bool.or_true, Bool.false_or, Bool.or_false, Bool.false_and, Bool.and_false, bne_self_eq_false, beq_self_eq_true] at hc; done)) | refine run_block ?_ | refine run_ret ?_ | refine run_nil ?_ | refine run_exit ?_ | refine blk_normal ?_ | refine blk_ret ?_ | refine blk_here ?_ | refine blk_there rfl ?_ | refine loop_exit ?_ | refine loop_ret ?_ | refine un_exit ?_ | refine un_ret ?_ | refine unE_exit ?_ | refine unE_ret ?_ | refine un_normal ?_)
  (refine run_regionL fun K hK => ?_; (try (simp (maxSteps := 10000000) only [C18r2, rwp_nil, rwp_cons, aop, gpath, St.get, slotAt, sfx, eqP, St.put, addBlk, shed, exOk, Nat.reduceAdd, tob])); (repeat (refine And.intro ?_ ?_; · first | trivial | assumption | omega)); refine hK _ (onlySt i f { nilI with op := i.op } 0) ((LeS.intro [0, 1, 2, 3] (fun i h => absurd h (Nat.not_lt_zero i)) (by simp only [diff, notIn, Nat.beq, and_self]) rfl (by simp only [onlySt, slotsLe, slotAt, leV, leV1, leC, leA, nthO, and_self, Int.natCast_zero]) ⟨bytes_le f false, insn_le { nilI with op := i.op }, insn_le nilI, insn_le i, trivial⟩)) ?_; clear hK K)
  refine run_block ?_
  refine run_loop (fun q st => ∃ (k : Nat) (o : InsnS), st = onlySt i f o k ∧ q = f.size - k ∧ k ≤ f.size ∧ onlyL i f (f.size - k) k o = T) f.size ⟨0, _, rfl, rfl, Nat.zero_le _, hT⟩ ?_
  clear hT
  rintro q st ⟨k, o, rfl, hq, hk, hT⟩
  simp only [onlySt, bytesB, insnB]
  repeat' (first | refine run_seq ?_ | refine run_skip ?_ | (refine run_region fun K hK => ?_; (try (simp (maxSteps := 10000000) only [insnL, C18r3, C18r4, C18r5, C18r6, C18r7, C18r8, C18r9, C18r10, C18r11, C18r12, C18r13, C18r14, C18r15, C18r16, C18r17, C18r18, C18r19, C18r20, C18r21, C18r22, C18r23, C18r24, C18r25, C18r26, C18r27, C18r28, C18r29, C18r30, C18r31, C18r32, C18r33, C18r34, C18r35, C18r36, C18r37, rwp_nil, rwp_cons, aop, gpath, St.get, slotAt, sfx, eqP, St.put, addBlk, getB, setB, ld1, ldn, st1, stn, setRow, rowNeed, segAt, nsub, bin, isShift, sameK, arith, shed, addN, Nat.beq, Seg.size, sizes, imp, cut, takeS, dropS, putS, strOk, plusA, exOk, Nat.reduceAdd, List.append_nil, List.nil_append, List.cons_append, Int.toNat_natCast])); (repeat (first | (refine And.intro ?_ ?_; · (first | omega | (simp only [decide_eq_true_eq] at hc; omega))))); with_reducible refine hK _ ?_; clear hK K) | (refine run_cond rfl (fun hc => ?_) (fun hc => ?_) <;> try (simp only [*, Bool.true_eq_false, Bool.false_eq_true, Bool.not_true, Bool.not_false, Bool.true_or, Bool.or_true, Bool.false_or, Bool.or_false, Bool.false_and, Bool.and_false, bne_self_eq_false, beq_self_eq_true] at hc; done)) | refine run_block ?_ | refine run_ret ?_ | refine run_nil ?_ | refine run_exit ?_ | refine blk_normal ?_ | refine blk_ret ?_ | refine blk_here ?_ | refine blk_there rfl ?_ | refine loop_exit ?_ | refine loop_ret ?_ | refine un_exit ?_ | refine un_ret ?_ | refine unE_exit ?_ | refine unE_ret ?_ | refine un_normal ?_)
  case refine_2 =>
    have hge : ¬ k < f.size := by simpa using ‹decide ((k : Int) < (f.size : Int)) = false›
    have h0 : f.size - k = 0 := by omega
    rw [h0] at hT
    have e : o = T := hT
    rw [e]
    exact end_insn0 T rfl rfl ⟨rfl, rfl⟩
  · have hlt : k < f.size := by simpa using ‹decide ((k : Int) < (f.size : Int)) = true›
    obtain ⟨m, hm⟩ : ∃ m, f.size - k = m + 1 := ⟨f.size - k - 1, by omega⟩
    have hw : IntKind.i64.wrap ((k : Int) + 1) = ((k + 1 : Nat) : Int) := by rw [IntKind.wrap_i64]; omega
    rw [hm] at hT
    unfold onlyL at hT
    have e : onlyStep i o (byteAt f k) = { o with rd := i.rd } := by
      unfold onlyStep
      generalize byteAt f k = b at *
      simp only [*]
    rw [e] at hT
    rw [hw]
    exact loop_normal m (onlySt i f ({ o with rd := i.rd }) (k + 1)) (by omega) (LeS.intro [0, 1, 2, 3] (fun i h => absurd h (Nat.not_lt_zero i)) (by simp only [diff, notIn, Nat.beq, and_self]) rfl (by simp only [onlySt, slotsLe, slotAt, leV, leV1, leC, leA, nthO, and_self]) ⟨bytes_le f false, insn_le ({ o with rd := i.rd }), insn_le nilI, insn_le i, trivial⟩) ⟨k + 1, _, rfl, by omega, by omega, by rw [show f.size - (k + 1) = m by omega]; exact hT⟩
  · have hlt : k < f.size := by simpa using ‹decide ((k : Int) < (f.size : Int)) = true›
    obtain ⟨m, hm⟩ : ∃ m, f.size - k = m + 1 := ⟨f.size - k - 1, by omega⟩
    have hw : IntKind.i64.wrap ((k : Int) + 1) = ((k + 1 : Nat) : Int) := by rw [IntKind.wrap_i64]; omega
    rw [hm] at hT
    unfold onlyL at hT
    have e : onlyStep i o (byteAt f k) = { o with rn := i.rn } := by
      unfold onlyStep
      generalize byteAt f k = b at *
      simp only [*]
    rw [e] at hT
    rw [hw]
    exact loop_normal m (onlySt i f ({ o with rn := i.rn }) (k + 1)) (by omega) (LeS.intro [0, 1, 2, 3] (fun i h => absurd h (Nat.not_lt_zero i)) (by simp only [diff, notIn, Nat.beq, and_self]) rfl (by simp only [onlySt, slotsLe, slotAt, leV, leV1, leC, leA, nthO, and_self]) ⟨bytes_le f false, insn_le ({ o with rn := i.rn }), insn_le nilI, insn_le i, trivial⟩) ⟨k + 1, _, rfl, by omega, by omega, by rw [show f.size - (k + 1) = m by omega]; exact hT⟩
  · have hlt : k < f.size := by simpa using ‹decide ((k : Int) < (f.size : Int)) = true›
    obtain ⟨m, hm⟩ : ∃ m, f.size - k = m + 1 := ⟨f.size - k - 1, by omega⟩
    have hw : IntKind.i64.wrap ((k : Int) + 1) = ((k + 1 : Nat) : Int) := by rw [IntKind.wrap_i64]; omega
    rw [hm] at hT
    unfold onlyL at hT
    have e : onlyStep i o (byteAt f k) = { o with rm := i.rm } := by
      unfold onlyStep
      generalize byteAt f k = b at *
      simp only [*]
    rw [e] at hT
    rw [hw]
    exact loop_normal m (onlySt i f ({ o with rm := i.rm }) (k + 1)) (by omega) (LeS.intro [0, 1, 2, 3] (fun i h => absurd h (Nat.not_lt_zero i)) (by simp only [diff, notIn, Nat.beq, and_self]) rfl (by simp only [onlySt, slotsLe, slotAt, leV, leV1, leC, leA, nthO, and_self]) ⟨bytes_le f false, insn_le ({ o with rm := i.rm }), insn_le nilI, insn_le i, trivial⟩) ⟨k + 1, _, rfl, by omega, by omega, by rw [show f.size - (k + 1) = m by omega]; exact hT⟩
  · have hlt : k < f.size := by simpa using ‹decide ((k : Int) < (f.size : Int)) = true›
    obtain ⟨m, hm⟩ : ∃ m, f.size - k = m + 1 := ⟨f.size - k - 1, by omega⟩
    have hw : IntKind.i64.wrap ((k : Int) + 1) = ((k + 1 : Nat) : Int) := by rw [IntKind.wrap_i64]; omega
    rw [hm] at hT
    unfold onlyL at hT
    have e : onlyStep i o (byteAt f k) = { o with ra := i.ra } := by
      unfold onlyStep
      generalize byteAt f k = b at *
      simp only [*]
    rw [e] at hT
    rw [hw]
    exact loop_normal m (onlySt i f ({ o with ra := i.ra }) (k + 1)) (by omega) (LeS.intro [0, 1, 2, 3] (fun i h => absurd h (Nat.not_lt_zero i)) (by simp only [diff, notIn, Nat.beq, and_self]) rfl (by simp only [onlySt, slotsLe, slotAt, leV, leV1, leC, leA, nthO, and_self]) ⟨bytes_le f false, insn_le ({ o with ra := i.ra }), insn_le nilI, insn_le i, trivial⟩) ⟨k + 1, _, rfl, by omega, by omega, by rw [show f.size - (k + 1) = m by omega]; exact hT⟩
  · have hlt : k < f.size := by simpa using ‹decide ((k : Int) < (f.size : Int)) = true›
    obtain ⟨m, hm⟩ : ∃ m, f.size - k = m + 1 := ⟨f.size - k - 1, by omega⟩
    have hw : IntKind.i64.wrap ((k : Int) + 1) = ((k + 1 : Nat) : Int) := by rw [IntKind.wrap_i64]; omega
    rw [hm] at hT
    unfold onlyL at hT
    have e : onlyStep i o (byteAt f k) = { o with imm := i.imm } := by
      unfold onlyStep
      generalize byteAt f k = b at *
      simp only [*]
    rw [e] at hT
    rw [hw]
    exact loop_normal m (onlySt i f ({ o with imm := i.imm }) (k + 1)) (by omega) (LeS.intro [0, 1, 2, 3] (fun i h => absurd h (Nat.not_lt_zero i)) (by simp only [diff, notIn, Nat.beq, and_self]) rfl (by simp only [onlySt, slotsLe, slotAt, leV, leV1, leC, leA, nthO, and_self]) ⟨bytes_le f false, insn_le ({ o with imm := i.imm }), insn_le nilI, insn_le i, trivial⟩) ⟨k + 1, _, rfl, by omega, by omega, by rw [show f.size - (k + 1) = m by omega]; exact hT⟩
  · have hlt : k < f.size := by simpa using ‹decide ((k : Int) < (f.size : Int)) = true›
    obtain ⟨m, hm⟩ : ∃ m, f.size - k = m + 1 := ⟨f.size - k - 1, by omega⟩
    have hw : IntKind.i64.wrap ((k : Int) + 1) = ((k + 1 : Nat) : Int) := by rw [IntKind.wrap_i64]; omega
    rw [hm] at hT
    unfold onlyL at hT
    have e : onlyStep i o (byteAt f k) = { o with imm2 := i.imm2 } := by
      unfold onlyStep
      generalize byteAt f k = b at *
      simp only [*]
    rw [e] at hT
    rw [hw]
    exact loop_normal m (onlySt i f ({ o with imm2 := i.imm2 }) (k + 1)) (by omega) (LeS.intro [0, 1, 2, 3] (fun i h => absurd h (Nat.not_lt_zero i)) (by simp only [diff, notIn, Nat.beq, and_self]) rfl (by simp only [onlySt, slotsLe, slotAt, leV, leV1, leC, leA, nthO, and_self]) ⟨bytes_le f false, insn_le ({ o with imm2 := i.imm2 }), insn_le nilI, insn_le i, trivial⟩) ⟨k + 1, _, rfl, by omega, by omega, by rw [show f.size - (k + 1) = m by omega]; exact hT⟩
  · have hlt : k < f.size := by simpa using ‹decide ((k : Int) < (f.size : Int)) = true›
    obtain ⟨m, hm⟩ : ∃ m, f.size - k = m + 1 := ⟨f.size - k - 1, by omega⟩
    have hw : IntKind.i64.wrap ((k : Int) + 1) = ((k + 1 : Nat) : Int) := by rw [IntKind.wrap_i64]; omega
    rw [hm] at hT
    unfold onlyL at hT
    have e : onlyStep i o (byteAt f k) = { o with amount := i.amount } := by
      unfold onlyStep
      generalize byteAt f k = b at *
      simp only [*]
    rw [e] at hT
    rw [hw]
    exact loop_normal m (onlySt i f ({ o with amount := i.amount }) (k + 1)) (by omega) (LeS.intro [0, 1, 2, 3] (fun i h => absurd h (Nat.not_lt_zero i)) (by simp only [diff, notIn, Nat.beq, and_self]) rfl (by simp only [onlySt, slotsLe, slotAt, leV, leV1, leC, leA, nthO, and_self]) ⟨bytes_le f false, insn_le ({ o with amount := i.amount }), insn_le nilI, insn_le i, trivial⟩) ⟨k + 1, _, rfl, by omega, by omega, by rw [show f.size - (k + 1) = m by omega]; exact hT⟩
  · have hlt : k < f.size := by simpa using ‹decide ((k : Int) < (f.size : Int)) = true›
    obtain ⟨m, hm⟩ : ∃ m, f.size - k = m + 1 := ⟨f.size - k - 1, by omega⟩
    have hw : IntKind.i64.wrap ((k : Int) + 1) = ((k + 1 : Nat) : Int) := by rw [IntKind.wrap_i64]; omega
    rw [hm] at hT
    unfold onlyL at hT
    have e : onlyStep i o (byteAt f k) = { o with shift := i.shift } := by
      unfold onlyStep
      generalize byteAt f k = b at *
      simp only [*]
    rw [e] at hT
    rw [hw]
    exact loop_normal m (onlySt i f ({ o with shift := i.shift }) (k + 1)) (by omega) (LeS.intro [0, 1, 2, 3] (fun i h => absurd h (Nat.not_lt_zero i)) (by simp only [diff, notIn, Nat.beq, and_self]) rfl (by simp only [onlySt, slotsLe, slotAt, leV, leV1, leC, leA, nthO, and_self]) ⟨bytes_le f false, insn_le ({ o with shift := i.shift }), insn_le nilI, insn_le i, trivial⟩) ⟨k + 1, _, rfl, by omega, by omega, by rw [show f.size - (k + 1) = m by omega]; exact hT⟩
  · have hlt : k < f.size := by simpa using ‹decide ((k : Int) < (f.size : Int)) = true›
    obtain ⟨m, hm⟩ : ∃ m, f.size - k = m + 1 := ⟨f.size - k - 1, by omega⟩
    have hw : IntKind.i64.wrap ((k : Int) + 1) = ((k + 1 : Nat) : Int) := by rw [IntKind.wrap_i64]; omega
    rw [hm] at hT
    unfold onlyL at hT
    have e : onlyStep i o (byteAt f k) = { o with sub := i.sub } := by
      unfold onlyStep
      generalize byteAt f k = b at *
      simp only [*]
    rw [e] at hT
    rw [hw]
    exact loop_normal m (onlySt i f ({ o with sub := i.sub }) (k + 1)) (by omega) (LeS.intro [0, 1, 2, 3] (fun i h => absurd h (Nat.not_lt_zero i)) (by simp only [diff, notIn, Nat.beq, and_self]) rfl (by simp only [onlySt, slotsLe, slotAt, leV, leV1, leC, leA, nthO, and_self]) ⟨bytes_le f false, insn_le ({ o with sub := i.sub }), insn_le nilI, insn_le i, trivial⟩) ⟨k + 1, _, rfl, by omega, by omega, by rw [show f.size - (k + 1) = m by omega]; exact hT⟩
  · have hlt : k < f.size := by simpa using ‹decide ((k : Int) < (f.size : Int)) = true›
    obtain ⟨m, hm⟩ : ∃ m, f.size - k = m + 1 := ⟨f.size - k - 1, by omega⟩
    have hw : IntKind.i64.wrap ((k : Int) + 1) = ((k + 1 : Nat) : Int) := by rw [IntKind.wrap_i64]; omega
    rw [hm] at hT
    unfold onlyL at hT
    have e : onlyStep i o (byteAt f k) = { o with cond := i.cond } := by
      unfold onlyStep
      generalize byteAt f k = b at *
      simp only [*]
    rw [e] at hT
    rw [hw]
    exact loop_normal m (onlySt i f ({ o with cond := i.cond }) (k + 1)) (by omega) (LeS.intro [0, 1, 2, 3] (fun i h => absurd h (Nat.not_lt_zero i)) (by simp only [diff, notIn, Nat.beq, and_self]) rfl (by simp only [onlySt, slotsLe, slotAt, leV, leV1, leC, leA, nthO, and_self]) ⟨bytes_le f false, insn_le ({ o with cond := i.cond }), insn_le nilI, insn_le i, trivial⟩) ⟨k + 1, _, rfl, by omega, by omega, by rw [show f.size - (k + 1) = m by omega]; exact hT⟩
  · have hlt : k < f.size := by simpa using ‹decide ((k : Int) < (f.size : Int)) = true›
    obtain ⟨m, hm⟩ : ∃ m, f.size - k = m + 1 := ⟨f.size - k - 1, by omega⟩
    have hw : IntKind.i64.wrap ((k : Int) + 1) = ((k + 1 : Nat) : Int) := by rw [IntKind.wrap_i64]; omega
    rw [hm] at hT
    unfold onlyL at hT
    have e : onlyStep i o (byteAt f k) = { o with sys := i.sys } := by
      unfold onlyStep
      generalize byteAt f k = b at *
      simp only [*]
    rw [e] at hT
    rw [hw]
    exact loop_normal m (onlySt i f ({ o with sys := i.sys }) (k + 1)) (by omega) (LeS.intro [0, 1, 2, 3] (fun i h => absurd h (Nat.not_lt_zero i)) (by simp only [diff, notIn, Nat.beq, and_self]) rfl (by simp only [onlySt, slotsLe, slotAt, leV, leV1, leC, leA, nthO, and_self]) ⟨bytes_le f false, insn_le ({ o with sys := i.sys }), insn_le nilI, insn_le i, trivial⟩) ⟨k + 1, _, rfl, by omega, by omega, by rw [show f.size - (k + 1) = m by omega]; exact hT⟩
  · have hlt : k < f.size := by simpa using ‹decide ((k : Int) < (f.size : Int)) = true›
    obtain ⟨m, hm⟩ : ∃ m, f.size - k = m + 1 := ⟨f.size - k - 1, by omega⟩
    have hw : IntKind.i64.wrap ((k : Int) + 1) = ((k + 1 : Nat) : Int) := by rw [IntKind.wrap_i64]; omega
    rw [hm] at hT
    unfold onlyL at hT
    have e : onlyStep i o (byteAt f k) = { o with flags := i.flags } := by
      unfold onlyStep
      generalize byteAt f k = b at *
      simp only [*]
    rw [e] at hT
    rw [hw]
    exact loop_normal m (onlySt i f ({ o with flags := i.flags }) (k + 1)) (by omega) (LeS.intro [0, 1, 2, 3] (fun i h => absurd h (Nat.not_lt_zero i)) (by simp only [diff, notIn, Nat.beq, and_self]) rfl (by simp only [onlySt, slotsLe, slotAt, leV, leV1, leC, leA, nthO, and_self]) ⟨bytes_le f false, insn_le ({ o with flags := i.flags }), insn_le nilI, insn_le i, trivial⟩) ⟨k + 1, _, rfl, by omega, by omega, by rw [show f.size - (k + 1) = m by omega]; exact hT⟩
  · have hlt : k < f.size := by simpa using ‹decide ((k : Int) < (f.size : Int)) = true›
    obtain ⟨m, hm⟩ : ∃ m, f.size - k = m + 1 := ⟨f.size - k - 1, by omega⟩
    have hw : IntKind.i64.wrap ((k : Int) + 1) = ((k + 1 : Nat) : Int) := by rw [IntKind.wrap_i64]; omega
    rw [hm] at hT
    unfold onlyL at hT
    have e : onlyStep i o (byteAt f k) = { o with minus := i.minus } := by
      unfold onlyStep
      generalize byteAt f k = b at *
      simp only [*]
    rw [e] at hT
    rw [hw]
    exact loop_normal m (onlySt i f ({ o with minus := i.minus }) (k + 1)) (by omega) (LeS.intro [0, 1, 2, 3] (fun i h => absurd h (Nat.not_lt_zero i)) (by simp only [diff, notIn, Nat.beq, and_self]) rfl (by simp only [onlySt, slotsLe, slotAt, leV, leV1, leC, leA, nthO, and_self]) ⟨bytes_le f false, insn_le ({ o with minus := i.minus }), insn_le nilI, insn_le i, trivial⟩) ⟨k + 1, _, rfl, by omega, by omega, by rw [show f.size - (k + 1) = m by omega]; exact hT⟩
  · have hlt : k < f.size := by simpa using ‹decide ((k : Int) < (f.size : Int)) = true›
    obtain ⟨m, hm⟩ : ∃ m, f.size - k = m + 1 := ⟨f.size - k - 1, by omega⟩
    have hw : IntKind.i64.wrap ((k : Int) + 1) = ((k + 1 : Nat) : Int) := by rw [IntKind.wrap_i64]; omega
    rw [hm] at hT
    unfold onlyL at hT
    have e : onlyStep i o (byteAt f k) = { o with not_ := i.not_ } := by
      unfold onlyStep
      generalize byteAt f k = b at *
      simp only [*]
    rw [e] at hT
    rw [hw]
    exact loop_normal m (onlySt i f ({ o with not_ := i.not_ }) (k + 1)) (by omega) (LeS.intro [0, 1, 2, 3] (fun i h => absurd h (Nat.not_lt_zero i)) (by simp only [diff, notIn, Nat.beq, and_self]) rfl (by simp only [onlySt, slotsLe, slotAt, leV, leV1, leC, leA, nthO, and_self]) ⟨bytes_le f false, insn_le ({ o with not_ := i.not_ }), insn_le nilI, insn_le i, trivial⟩) ⟨k + 1, _, rfl, by omega, by omega, by rw [show f.size - (k + 1) = m by omega]; exact hT⟩
  · have hlt : k < f.size := by simpa using ‹decide ((k : Int) < (f.size : Int)) = true›
    obtain ⟨m, hm⟩ : ∃ m, f.size - k = m + 1 := ⟨f.size - k - 1, by omega⟩
    have hw : IntKind.i64.wrap ((k : Int) + 1) = ((k + 1 : Nat) : Int) := by rw [IntKind.wrap_i64]; omega
    rw [hm] at hT
    unfold onlyL at hT
    have e : onlyStep i o (byteAt f k) = { o with link := i.link } := by
      unfold onlyStep
      generalize byteAt f k = b at *
      simp only [*]
    rw [e] at hT
    rw [hw]
    exact loop_normal m (onlySt i f ({ o with link := i.link }) (k + 1)) (by omega) (LeS.intro [0, 1, 2, 3] (fun i h => absurd h (Nat.not_lt_zero i)) (by simp only [diff, notIn, Nat.beq, and_self]) rfl (by simp only [onlySt, slotsLe, slotAt, leV, leV1, leC, leA, nthO, and_self]) ⟨bytes_le f false, insn_le ({ o with link := i.link }), insn_le nilI, insn_le i, trivial⟩) ⟨k + 1, _, rfl, by omega, by omega, by rw [show f.size - (k + 1) = m by omega]; exact hT⟩
  · have hlt : k < f.size := by simpa using ‹decide ((k : Int) < (f.size : Int)) = true›
    obtain ⟨m, hm⟩ : ∃ m, f.size - k = m + 1 := ⟨f.size - k - 1, by omega⟩
    have hw : IntKind.i64.wrap ((k : Int) + 1) = ((k + 1 : Nat) : Int) := by rw [IntKind.wrap_i64]; omega
    rw [hm] at hT
    unfold onlyL at hT
    have e : onlyStep i o (byteAt f k) = o := by
      unfold onlyStep
      generalize byteAt f k = b at *
      simp only [*]
    rw [e] at hT
    rw [hw]
    exact loop_normal m (onlySt i f (o) (k + 1)) (by omega) (LeS.intro [0, 1, 2, 3] (fun i h => absurd h (Nat.not_lt_zero i)) (by simp only [diff, notIn, Nat.beq, and_self]) rfl (by simp only [onlySt, slotsLe, slotAt, leV, leV1, leC, leA, nthO, and_self]) ⟨bytes_le f false, insn_le (o), insn_le nilI, insn_le i, trivial⟩) ⟨k + 1, _, rfl, by omega, by omega, by rw [show f.size - (k + 1) = m by omega]; exact hT⟩
end Go.Proofs.YteikpddilabppaaGreatR

namespace Go.Proofs.YteikpddilabppaaGreatR
open Go.AM
set_option maxRecDepth 100000
set_option linter.unusedSimpArgs false
set_option linter.unusedVariables false
def shapeV (f : ByteArray) (g : FuncId) (c : List AA) (b : Bool) : AV := .tup [.agg [.c (.str f), .c (.fn g [] c)], .c (.bool b)]
def shapeB (f : ByteArray) (g : FuncId) (c : List AA) : Blk := ⟨2, none, fun _ => [.c (.str f), .c (.fn g [] c)], 48, true⟩
theorem end_shape {l : List Slot} {H : Heap} {R : Post} {b : Nat} (f : ByteArray) (g : FuncId) (ok : Bool) (hsl : slotAt l 2 = some ⟨2, [], .c (.ptr ⟨b, 0, 0, 0⟩)⟩) (hok : slotAt l 3 = some ⟨3, [], .c (.bool ok)⟩) (hb : getB H.blks b = some (shapeB f g []))
    (hR : R (shapeV f g [] ok) ⟨1, [(0, shapeB f g [])]⟩) : endQ (LeS 0) [.cn 2 2, .tmp 3] R .ret ⟨l, H⟩ := by
  refine end_of ⟨[⟨2, [], .c (.ptr ⟨0, 0, 0, 0⟩)⟩, ⟨3, [], .c (.bool ok)⟩], ⟨1, [(0, shapeB f g [])]⟩⟩ (LeS.intro [b] (fun i h => absurd h (Nat.not_lt_zero i)) (by simp only [diff, notIn, and_self]) rfl (by simp only [slotsLe, hsl, hok, leV, leV1, leC, leA, nthO, and_self]) ?_) ?_
  · simp only [leBlks, nthO, hb]
    exact ⟨⟨rfl, rfl, id, Nat.le_refl _, fun _ _ => by simp only [shapeB, leSegs, leSeg, leC, leAL, and_self]⟩, trivial⟩
  · simp only [endF, resL, resA, St.get, slotAt, sfx, eqP, ldn, getB, shapeB, rowNeed, cut, dropS, takeS, Seg.size, nsub, noTup, resV]
    exact hR
theorem forget_shape (f : ByteArray) (g : FuncId) (ok : Bool) {n : FuncId} {args : List AV} (h : Con Tryz.prog n args ⟨0, []⟩ fun v H' => v = shapeV f g [] ok ∧ H' = ⟨1, [(0, shapeB f g [])]⟩) (ha : leArgs [] args args) (H : Heap) : Con Tryz.prog n args H fun v H' => v = shapeV f g [] ok ∧ H' = H := by
  refine Con.pure (Con.forget h ?_) ha rfl H
  rintro v H' ⟨rfl, rfl⟩
  exact ⟨_, ⟨0, []⟩, [], fun i h => absurd h (Nat.not_lt_zero i), trivial, rfl, trivial, by simp only [shapeV, leV, leV1, leVL, leC, leSegs, leSeg, leAL, and_self], rfl, rfl⟩
set_option maxHeartbeats 8000000 in
theorem sh87_P (k : Int) (f : ByteArray) (g : FuncId) (hk : (k = 22 ∧ f = ⟨#[100, 110]⟩ ∧ g = 79) ∨ (k = 25 ∧ f = ⟨#[]⟩ ∧ g = 79) ∨ (k = 26 ∧ f = ⟨#[115, 105]⟩ ∧ g = 114) ∨ (k = 27 ∧ f = ⟨#[]⟩ ∧ g = 79) ∨ (k = 28 ∧ f = ⟨#[100]⟩ ∧ g = 79) ∨ (k = 29 ∧ f = ⟨#[]⟩ ∧ g = 79) ∨ (k = 30 ∧ f = ⟨#[100]⟩ ∧ g = 79) ∨ (k = 31 ∧ f = ⟨#[100, 121]⟩ ∧ g = 115) ∨ (k = 32 ∧ f = ⟨#[100, 121]⟩ ∧ g = 115) ∨ (k = 33 ∧ f = ⟨#[115, 105]⟩ ∧ g = 117) ∨ (k = 34 ∧ f = ⟨#[105]⟩ ∧ g = 118) ∨ (k = 35 ∧ f = ⟨#[105]⟩ ∧ g = 118) ∨ (k = 36 ∧ f = ⟨#[]⟩ ∧ g = 79) ∨ (k = 37 ∧ f = ⟨#[105]⟩ ∧ g = 119)) (H : Heap) : Con Tryz.prog 87 [.c (.int .i64 k)] H (fun v H' => v = shapeV f g [] true ∧ H' = H) := by
  refine forget_shape _ _ _ ?_ (by simp only [leArgs, leV, leV1, leC, and_self]) H
  rcases hk with ⟨rfl, rfl, rfl⟩ | ⟨rfl, rfl, rfl⟩ | ⟨rfl, rfl, rfl⟩ | ⟨rfl, rfl, rfl⟩ | ⟨rfl, rfl, rfl⟩ | ⟨rfl, rfl, rfl⟩ | ⟨rfl, rfl, rfl⟩ | ⟨rfl, rfl, rfl⟩ | ⟨rfl, rfl, rfl⟩ | ⟨rfl, rfl, rfl⟩ | ⟨rfl, rfl, rfl⟩ | ⟨rfl, rfl, rfl⟩ | ⟨rfl, rfl, rfl⟩ | ⟨rfl, rfl, rfl⟩
  all_goals
    (refine con_of_run mixed (fn := Tryz.f87) (by kernel_rfl) (by kernel_rfl) C87_ok (rs := [.cn 2 2, .tmp 3]) (by kernel_rfl) (Nat.le_of_ble_eq_true (by kernel_rfl)) ?_; unfold C87; simp only [initT])
    repeat' (first | refine run_seq ?_ | refine run_skip ?_ | (refine run_region fun K hK => ?_; (try (simp (maxSteps := 10000000) only [Int.reduceBEq, C87r0, C87r1, C87r2, C87r3, C87r4, C87r5, C87r6, C87r7, C87r8, C87r9, C87r10, C87r11, C87r12, C87r13, C87r14, C87r15, C87r16, C87r17, C87r18, C87r20, C87r22, C87r23, C87r24, C87r25, C87r26, C87r27, C87r28, rwp_nil, rwp_cons, aop, gpath, St.get, slotAt, sfx, eqP, segsOf, St.put, addBlk, getB, setB, stn, setRow, rowNeed, nsub, bin, isShift, sameK, arith, shed, Nat.beq, Seg.size, sizes, takeS, dropS, putS, partsOf, fillS, exOk, Nat.reduceAdd, List.append_nil, List.nil_append, List.cons_append])); (repeat (first | (refine And.intro ?_ ?_; · first | trivial | assumption | omega))); with_reducible refine hK _ ?_; clear hK K) | (refine run_cond rfl (fun hc => ?_) (fun hc => ?_) <;> try (simp only [*, Bool.true_eq_false, Bool.false_eq_true] at hc; done)) | refine run_block ?_ | refine run_ret ?_ | refine run_nil ?_ | refine run_exit ?_ | refine blk_normal ?_ | refine blk_ret ?_ | refine blk_here ?_ | refine blk_there rfl ?_)
    exact end_shape _ _ true rfl rfl rfl ⟨rfl, rfl⟩
theorem sh87_22 (H : Heap) : Con Tryz.prog 87 [.c (.int .i64 22)] H (fun v H' => v = shapeV ⟨#[100, 110]⟩ 79 [] true ∧ H' = H) := sh87_P _ _ _ (.inl ⟨rfl, rfl, rfl⟩) H
theorem sh87_25 (H : Heap) : Con Tryz.prog 87 [.c (.int .i64 25)] H (fun v H' => v = shapeV ⟨#[]⟩ 79 [] true ∧ H' = H) := sh87_P _ _ _ (.inr (.inl ⟨rfl, rfl, rfl⟩)) H
theorem sh87_26 (H : Heap) : Con Tryz.prog 87 [.c (.int .i64 26)] H (fun v H' => v = shapeV ⟨#[115, 105]⟩ 114 [] true ∧ H' = H) := sh87_P _ _ _ (.inr (.inr (.inl ⟨rfl, rfl, rfl⟩))) H
theorem sh87_27 (H : Heap) : Con Tryz.prog 87 [.c (.int .i64 27)] H (fun v H' => v = shapeV ⟨#[]⟩ 79 [] true ∧ H' = H) := sh87_P _ _ _ (.inr (.inr (.inr (.inl ⟨rfl, rfl, rfl⟩)))) H
theorem sh87_28 (H : Heap) : Con Tryz.prog 87 [.c (.int .i64 28)] H (fun v H' => v = shapeV ⟨#[100]⟩ 79 [] true ∧ H' = H) := sh87_P _ _ _ (.inr (.inr (.inr (.inr (.inl ⟨rfl, rfl, rfl⟩))))) H
theorem sh87_29 (H : Heap) : Con Tryz.prog 87 [.c (.int .i64 29)] H (fun v H' => v = shapeV ⟨#[]⟩ 79 [] true ∧ H' = H) := sh87_P _ _ _ (.inr (.inr (.inr (.inr (.inr (.inl ⟨rfl, rfl, rfl⟩)))))) H
theorem sh87_30 (H : Heap) : Con Tryz.prog 87 [.c (.int .i64 30)] H (fun v H' => v = shapeV ⟨#[100]⟩ 79 [] true ∧ H' = H) := sh87_P _ _ _ (.inr (.inr (.inr (.inr (.inr (.inr (.inl ⟨rfl, rfl, rfl⟩))))))) H
theorem sh87_31 (H : Heap) : Con Tryz.prog 87 [.c (.int .i64 31)] H (fun v H' => v = shapeV ⟨#[100, 121]⟩ 115 [] true ∧ H' = H) := sh87_P _ _ _ (.inr (.inr (.inr (.inr (.inr (.inr (.inr (.inl ⟨rfl, rfl, rfl⟩)))))))) H
theorem sh87_32 (H : Heap) : Con Tryz.prog 87 [.c (.int .i64 32)] H (fun v H' => v = shapeV ⟨#[100, 121]⟩ 115 [] true ∧ H' = H) := sh87_P _ _ _ (.inr (.inr (.inr (.inr (.inr (.inr (.inr (.inr (.inl ⟨rfl, rfl, rfl⟩))))))))) H
theorem sh87_33 (H : Heap) : Con Tryz.prog 87 [.c (.int .i64 33)] H (fun v H' => v = shapeV ⟨#[115, 105]⟩ 117 [] true ∧ H' = H) := sh87_P _ _ _ (.inr (.inr (.inr (.inr (.inr (.inr (.inr (.inr (.inr (.inl ⟨rfl, rfl, rfl⟩)))))))))) H
theorem sh87_34 (H : Heap) : Con Tryz.prog 87 [.c (.int .i64 34)] H (fun v H' => v = shapeV ⟨#[105]⟩ 118 [] true ∧ H' = H) := sh87_P _ _ _ (.inr (.inr (.inr (.inr (.inr (.inr (.inr (.inr (.inr (.inr (.inl ⟨rfl, rfl, rfl⟩))))))))))) H
theorem sh87_35 (H : Heap) : Con Tryz.prog 87 [.c (.int .i64 35)] H (fun v H' => v = shapeV ⟨#[105]⟩ 118 [] true ∧ H' = H) := sh87_P _ _ _ (.inr (.inr (.inr (.inr (.inr (.inr (.inr (.inr (.inr (.inr (.inr (.inl ⟨rfl, rfl, rfl⟩)))))))))))) H
theorem sh87_36 (H : Heap) : Con Tryz.prog 87 [.c (.int .i64 36)] H (fun v H' => v = shapeV ⟨#[]⟩ 79 [] true ∧ H' = H) := sh87_P _ _ _ (.inr (.inr (.inr (.inr (.inr (.inr (.inr (.inr (.inr (.inr (.inr (.inr (.inl ⟨rfl, rfl, rfl⟩))))))))))))) H
theorem sh87_37 (H : Heap) : Con Tryz.prog 87 [.c (.int .i64 37)] H (fun v H' => v = shapeV ⟨#[105]⟩ 119 [] true ∧ H' = H) := sh87_P _ _ _ (.inr (.inr (.inr (.inr (.inr (.inr (.inr (.inr (.inr (.inr (.inr (.inr (.inr (⟨rfl, rfl, rfl⟩)))))))))))))) H
set_option maxHeartbeats 8000000 in
theorem sh17_P (k : Int) (f : ByteArray) (g : FuncId) (hk : (k = 1 ∧ f = ⟨#[100, 110, 105, 107, 70, 77]⟩ ∧ g = 69) ∨ (k = 2 ∧ f = ⟨#[100, 110, 109, 116, 107, 70, 77]⟩ ∧ g = 71) ∨ (k = 3 ∧ f = ⟨#[100, 110, 109, 115, 116, 107, 70, 78]⟩ ∧ g = 72) ∨ (k = 4 ∧ f = ⟨#[100, 110, 115, 107, 105, 106, 70]⟩ ∧ g = 74) ∨ (k = 5 ∧ f = ⟨#[100, 115, 105, 107]⟩ ∧ g = 76) ∨ (k = 6 ∧ f = ⟨#[100, 110, 115, 105, 106]⟩ ∧ g = 77) ∨ (k = 8 ∧ f = ⟨#[100, 110, 109, 97, 77]⟩ ∧ g = 79) ∨ (k = 10 ∧ f = ⟨#[100, 110, 109, 115, 99]⟩ ∧ g = 80) ∨ (k = 11 ∧ f = ⟨#[100, 115, 105]⟩ ∧ g = 81) ∨ (k = 13 ∧ f = ⟨#[99, 105]⟩ ∧ g = 83) ∨ (k = 15 ∧ f = ⟨#[100, 105, 107, 78]⟩ ∧ g = 84) ∨ (k = 17 ∧ f = ⟨#[100, 110, 105]⟩ ∧ g = 85) ∨ (k = 18 ∧ f = ⟨#[100, 110, 105]⟩ ∧ g = 85) ∨ (k = 19 ∧ f = ⟨#[100, 110, 109, 107]⟩ ∧ g = 86) ∨ (k = 20 ∧ f = ⟨#[100, 110, 109, 107]⟩ ∧ g = 86) ∨ (k = 22 ∧ f = ⟨#[100, 110]⟩ ∧ g = 79) ∨ (k = 25 ∧ f = ⟨#[]⟩ ∧ g = 79) ∨ (k = 26 ∧ f = ⟨#[115, 105]⟩ ∧ g = 114) ∨ (k = 27 ∧ f = ⟨#[]⟩ ∧ g = 79) ∨ (k = 28 ∧ f = ⟨#[100]⟩ ∧ g = 79) ∨ (k = 29 ∧ f = ⟨#[]⟩ ∧ g = 79) ∨ (k = 30 ∧ f = ⟨#[100]⟩ ∧ g = 79) ∨ (k = 31 ∧ f = ⟨#[100, 121]⟩ ∧ g = 115) ∨ (k = 32 ∧ f = ⟨#[100, 121]⟩ ∧ g = 115) ∨ (k = 33 ∧ f = ⟨#[115, 105]⟩ ∧ g = 117) ∨ (k = 34 ∧ f = ⟨#[105]⟩ ∧ g = 118) ∨ (k = 35 ∧ f = ⟨#[105]⟩ ∧ g = 118) ∨ (k = 36 ∧ f = ⟨#[]⟩ ∧ g = 79) ∨ (k = 37 ∧ f = ⟨#[105]⟩ ∧ g = 119)) (H : Heap) : Con Tryz.prog 17 [.c (.int .i64 k)] H (fun v H' => v = shapeV f g [] true ∧ H' = H) := by
  refine forget_shape _ _ _ ?_ (by simp only [leArgs, leV, leV1, leC, and_self]) H
  rcases hk with ⟨rfl, rfl, rfl⟩ | ⟨rfl, rfl, rfl⟩ | ⟨rfl, rfl, rfl⟩ | ⟨rfl, rfl, rfl⟩ | ⟨rfl, rfl, rfl⟩ | ⟨rfl, rfl, rfl⟩ | ⟨rfl, rfl, rfl⟩ | ⟨rfl, rfl, rfl⟩ | ⟨rfl, rfl, rfl⟩ | ⟨rfl, rfl, rfl⟩ | ⟨rfl, rfl, rfl⟩ | ⟨rfl, rfl, rfl⟩ | ⟨rfl, rfl, rfl⟩ | ⟨rfl, rfl, rfl⟩ | ⟨rfl, rfl, rfl⟩ | ⟨rfl, rfl, rfl⟩ | ⟨rfl, rfl, rfl⟩ | ⟨rfl, rfl, rfl⟩ | ⟨rfl, rfl, rfl⟩ | ⟨rfl, rfl, rfl⟩ | ⟨rfl, rfl, rfl⟩ | ⟨rfl, rfl, rfl⟩ | ⟨rfl, rfl, rfl⟩ | ⟨rfl, rfl, rfl⟩ | ⟨rfl, rfl, rfl⟩ | ⟨rfl, rfl, rfl⟩ | ⟨rfl, rfl, rfl⟩ | ⟨rfl, rfl, rfl⟩ | ⟨rfl, rfl, rfl⟩
  all_goals
    (refine con_of_run mixed (fn := Tryz.f17) (by kernel_rfl) (by kernel_rfl) C17_ok (rs := [.cn 2 2, .tmp 3]) (by kernel_rfl) (Nat.le_of_ble_eq_true (by kernel_rfl)) ?_; unfold C17; simp only [initT])
    repeat' (first | refine run_seq ?_ | refine run_skip ?_ | (refine run_region fun K hK => ?_; (try (simp (maxSteps := 10000000) only [Int.reduceBEq, C17r0, C17r1, C17r2, C17r3, C17r4, C17r5, C17r6, C17r7, C17r8, C17r9, C17r10, C17r11, C17r12, C17r13, C17r14, C17r16, C17r17, C17r18, C17r20, C17r21, C17r22, C17r23, C17r24, C17r26, C17r27, C17r28, C17r30, C17r31, C17r32, C17r34, C17r35, C17r36, C17r37, C17r38, C17r39, C17r40, rwp_nil, rwp_cons, aop, gpath, St.get, slotAt, sfx, eqP, segsOf, St.put, addBlk, getB, setB, stn, setRow, rowNeed, nsub, bin, isShift, sameK, arith, shed, Nat.beq, Seg.size, sizes, appL, argsOf, ptrsOf, takeS, dropS, putS, partsOf, fillS, exOk, Nat.reduceAdd, List.append_nil, List.nil_append, List.cons_append])); (repeat (first | (refine And.intro ?_ ?_; · first | trivial | assumption | omega) | ((first | (refine call_t _ (sh87_22 _) ?_; rintro v H' ⟨rfl, rfl⟩) | refine call_q _ (sh87_22 _) ?_ | refine call_g _ (imp_of (sh87_22 _)) ?_ | (refine call_t _ (sh87_25 _) ?_; rintro v H' ⟨rfl, rfl⟩) | refine call_q _ (sh87_25 _) ?_ | refine call_g _ (imp_of (sh87_25 _)) ?_ | (refine call_t _ (sh87_26 _) ?_; rintro v H' ⟨rfl, rfl⟩) | refine call_q _ (sh87_26 _) ?_ | refine call_g _ (imp_of (sh87_26 _)) ?_ | (refine call_t _ (sh87_27 _) ?_; rintro v H' ⟨rfl, rfl⟩) | refine call_q _ (sh87_27 _) ?_ | refine call_g _ (imp_of (sh87_27 _)) ?_ | (refine call_t _ (sh87_28 _) ?_; rintro v H' ⟨rfl, rfl⟩) | refine call_q _ (sh87_28 _) ?_ | refine call_g _ (imp_of (sh87_28 _)) ?_ | (refine call_t _ (sh87_29 _) ?_; rintro v H' ⟨rfl, rfl⟩) | refine call_q _ (sh87_29 _) ?_ | refine call_g _ (imp_of (sh87_29 _)) ?_ | (refine call_t _ (sh87_30 _) ?_; rintro v H' ⟨rfl, rfl⟩) | refine call_q _ (sh87_30 _) ?_ | refine call_g _ (imp_of (sh87_30 _)) ?_ | (refine call_t _ (sh87_31 _) ?_; rintro v H' ⟨rfl, rfl⟩) | refine call_q _ (sh87_31 _) ?_ | refine call_g _ (imp_of (sh87_31 _)) ?_ | (refine call_t _ (sh87_32 _) ?_; rintro v H' ⟨rfl, rfl⟩) | refine call_q _ (sh87_32 _) ?_ | refine call_g _ (imp_of (sh87_32 _)) ?_ | (refine call_t _ (sh87_33 _) ?_; rintro v H' ⟨rfl, rfl⟩) | refine call_q _ (sh87_33 _) ?_ | refine call_g _ (imp_of (sh87_33 _)) ?_ | (refine call_t _ (sh87_34 _) ?_; rintro v H' ⟨rfl, rfl⟩) | refine call_q _ (sh87_34 _) ?_ | refine call_g _ (imp_of (sh87_34 _)) ?_ | (refine call_t _ (sh87_35 _) ?_; rintro v H' ⟨rfl, rfl⟩) | refine call_q _ (sh87_35 _) ?_ | refine call_g _ (imp_of (sh87_35 _)) ?_ | (refine call_t _ (sh87_36 _) ?_; rintro v H' ⟨rfl, rfl⟩) | refine call_q _ (sh87_36 _) ?_ | refine call_g _ (imp_of (sh87_36 _)) ?_ | (refine call_t _ (sh87_37 _) ?_; rintro v H' ⟨rfl, rfl⟩) | refine call_q _ (sh87_37 _) ?_ | refine call_g _ (imp_of (sh87_37 _)) ?_); simp (maxSteps := 10000000) only [shapeV, rwp_nil, rwp_cons, rwpK_app, aop, gpath, St.get, slotAt, sfx, eqP, St.put, addBlk, getB, setB, stn, setRow, rowNeed, nsub, shed, Nat.beq, Seg.size, sizes, takeS, dropS, putS, nthA, exOk, Nat.reduceAdd, List.append_nil, List.nil_append]))); with_reducible refine hK _ ?_; clear hK K) | (refine run_cond rfl (fun hc => ?_) (fun hc => ?_) <;> try (simp only [*, Bool.true_eq_false, Bool.false_eq_true] at hc; done)) | refine run_block ?_ | refine run_ret ?_ | refine run_nil ?_ | refine blk_normal ?_ | refine blk_ret ?_ | refine blk_here ?_ | refine blk_there rfl ?_)
    exact end_shape _ _ true rfl rfl rfl ⟨rfl, rfl⟩
theorem sh17_1 (H : Heap) : Con Tryz.prog 17 [.c (.int .i64 1)] H (fun v H' => v = shapeV ⟨#[100, 110, 105, 107, 70, 77]⟩ 69 [] true ∧ H' = H) := sh17_P _ _ _ (.inl ⟨rfl, rfl, rfl⟩) H
theorem sh17_2 (H : Heap) : Con Tryz.prog 17 [.c (.int .i64 2)] H (fun v H' => v = shapeV ⟨#[100, 110, 109, 116, 107, 70, 77]⟩ 71 [] true ∧ H' = H) := sh17_P _ _ _ (.inr (.inl ⟨rfl, rfl, rfl⟩)) H
theorem sh17_3 (H : Heap) : Con Tryz.prog 17 [.c (.int .i64 3)] H (fun v H' => v = shapeV ⟨#[100, 110, 109, 115, 116, 107, 70, 78]⟩ 72 [] true ∧ H' = H) := sh17_P _ _ _ (.inr (.inr (.inl ⟨rfl, rfl, rfl⟩))) H
theorem sh17_4 (H : Heap) : Con Tryz.prog 17 [.c (.int .i64 4)] H (fun v H' => v = shapeV ⟨#[100, 110, 115, 107, 105, 106, 70]⟩ 74 [] true ∧ H' = H) := sh17_P _ _ _ (.inr (.inr (.inr (.inl ⟨rfl, rfl, rfl⟩)))) H
theorem sh17_5 (H : Heap) : Con Tryz.prog 17 [.c (.int .i64 5)] H (fun v H' => v = shapeV ⟨#[100, 115, 105, 107]⟩ 76 [] true ∧ H' = H) := sh17_P _ _ _ (.inr (.inr (.inr (.inr (.inl ⟨rfl, rfl, rfl⟩))))) H
theorem sh17_6 (H : Heap) : Con Tryz.prog 17 [.c (.int .i64 6)] H (fun v H' => v = shapeV ⟨#[100, 110, 115, 105, 106]⟩ 77 [] true ∧ H' = H) := sh17_P _ _ _ (.inr (.inr (.inr (.inr (.inr (.inl ⟨rfl, rfl, rfl⟩)))))) H
theorem sh17_8 (H : Heap) : Con Tryz.prog 17 [.c (.int .i64 8)] H (fun v H' => v = shapeV ⟨#[100, 110, 109, 97, 77]⟩ 79 [] true ∧ H' = H) := sh17_P _ _ _ (.inr (.inr (.inr (.inr (.inr (.inr (.inl ⟨rfl, rfl, rfl⟩))))))) H
theorem sh17_10 (H : Heap) : Con Tryz.prog 17 [.c (.int .i64 10)] H (fun v H' => v = shapeV ⟨#[100, 110, 109, 115, 99]⟩ 80 [] true ∧ H' = H) := sh17_P _ _ _ (.inr (.inr (.inr (.inr (.inr (.inr (.inr (.inl ⟨rfl, rfl, rfl⟩)))))))) H
theorem sh17_11 (H : Heap) : Con Tryz.prog 17 [.c (.int .i64 11)] H (fun v H' => v = shapeV ⟨#[100, 115, 105]⟩ 81 [] true ∧ H' = H) := sh17_P _ _ _ (.inr (.inr (.inr (.inr (.inr (.inr (.inr (.inr (.inl ⟨rfl, rfl, rfl⟩))))))))) H
theorem sh17_13 (H : Heap) : Con Tryz.prog 17 [.c (.int .i64 13)] H (fun v H' => v = shapeV ⟨#[99, 105]⟩ 83 [] true ∧ H' = H) := sh17_P _ _ _ (.inr (.inr (.inr (.inr (.inr (.inr (.inr (.inr (.inr (.inl ⟨rfl, rfl, rfl⟩)))))))))) H
theorem sh17_15 (H : Heap) : Con Tryz.prog 17 [.c (.int .i64 15)] H (fun v H' => v = shapeV ⟨#[100, 105, 107, 78]⟩ 84 [] true ∧ H' = H) := sh17_P _ _ _ (.inr (.inr (.inr (.inr (.inr (.inr (.inr (.inr (.inr (.inr (.inl ⟨rfl, rfl, rfl⟩))))))))))) H
theorem sh17_17 (H : Heap) : Con Tryz.prog 17 [.c (.int .i64 17)] H (fun v H' => v = shapeV ⟨#[100, 110, 105]⟩ 85 [] true ∧ H' = H) := sh17_P _ _ _ (.inr (.inr (.inr (.inr (.inr (.inr (.inr (.inr (.inr (.inr (.inr (.inl ⟨rfl, rfl, rfl⟩)))))))))))) H
theorem sh17_18 (H : Heap) : Con Tryz.prog 17 [.c (.int .i64 18)] H (fun v H' => v = shapeV ⟨#[100, 110, 105]⟩ 85 [] true ∧ H' = H) := sh17_P _ _ _ (.inr (.inr (.inr (.inr (.inr (.inr (.inr (.inr (.inr (.inr (.inr (.inr (.inl ⟨rfl, rfl, rfl⟩))))))))))))) H
theorem sh17_19 (H : Heap) : Con Tryz.prog 17 [.c (.int .i64 19)] H (fun v H' => v = shapeV ⟨#[100, 110, 109, 107]⟩ 86 [] true ∧ H' = H) := sh17_P _ _ _ (.inr (.inr (.inr (.inr (.inr (.inr (.inr (.inr (.inr (.inr (.inr (.inr (.inr (.inl ⟨rfl, rfl, rfl⟩)))))))))))))) H
theorem sh17_20 (H : Heap) : Con Tryz.prog 17 [.c (.int .i64 20)] H (fun v H' => v = shapeV ⟨#[100, 110, 109, 107]⟩ 86 [] true ∧ H' = H) := sh17_P _ _ _ (.inr (.inr (.inr (.inr (.inr (.inr (.inr (.inr (.inr (.inr (.inr (.inr (.inr (.inr (.inl ⟨rfl, rfl, rfl⟩))))))))))))))) H
theorem sh17_22 (H : Heap) : Con Tryz.prog 17 [.c (.int .i64 22)] H (fun v H' => v = shapeV ⟨#[100, 110]⟩ 79 [] true ∧ H' = H) := sh17_P _ _ _ (.inr (.inr (.inr (.inr (.inr (.inr (.inr (.inr (.inr (.inr (.inr (.inr (.inr (.inr (.inr (.inl ⟨rfl, rfl, rfl⟩)))))))))))))))) H
theorem sh17_25 (H : Heap) : Con Tryz.prog 17 [.c (.int .i64 25)] H (fun v H' => v = shapeV ⟨#[]⟩ 79 [] true ∧ H' = H) := sh17_P _ _ _ (.inr (.inr (.inr (.inr (.inr (.inr (.inr (.inr (.inr (.inr (.inr (.inr (.inr (.inr (.inr (.inr (.inl ⟨rfl, rfl, rfl⟩))))))))))))))))) H
theorem sh17_26 (H : Heap) : Con Tryz.prog 17 [.c (.int .i64 26)] H (fun v H' => v = shapeV ⟨#[115, 105]⟩ 114 [] true ∧ H' = H) := sh17_P _ _ _ (.inr (.inr (.inr (.inr (.inr (.inr (.inr (.inr (.inr (.inr (.inr (.inr (.inr (.inr (.inr (.inr (.inr (.inl ⟨rfl, rfl, rfl⟩)))))))))))))))))) H
theorem sh17_27 (H : Heap) : Con Tryz.prog 17 [.c (.int .i64 27)] H (fun v H' => v = shapeV ⟨#[]⟩ 79 [] true ∧ H' = H) := sh17_P _ _ _ (.inr (.inr (.inr (.inr (.inr (.inr (.inr (.inr (.inr (.inr (.inr (.inr (.inr (.inr (.inr (.inr (.inr (.inr (.inl ⟨rfl, rfl, rfl⟩))))))))))))))))))) H
theorem sh17_28 (H : Heap) : Con Tryz.prog 17 [.c (.int .i64 28)] H (fun v H' => v = shapeV ⟨#[100]⟩ 79 [] true ∧ H' = H) := sh17_P _ _ _ (.inr (.inr (.inr (.inr (.inr (.inr (.inr (.inr (.inr (.inr (.inr (.inr (.inr (.inr (.inr (.inr (.inr (.inr (.inr (.inl ⟨rfl, rfl, rfl⟩)))))))))))))))))))) H
theorem sh17_29 (H : Heap) : Con Tryz.prog 17 [.c (.int .i64 29)] H (fun v H' => v = shapeV ⟨#[]⟩ 79 [] true ∧ H' = H) := sh17_P _ _ _ (.inr (.inr (.inr (.inr (.inr (.inr (.inr (.inr (.inr (.inr (.inr (.inr (.inr (.inr (.inr (.inr (.inr (.inr (.inr (.inr (.inl ⟨rfl, rfl, rfl⟩))))))))))))))))))))) H
theorem sh17_30 (H : Heap) : Con Tryz.prog 17 [.c (.int .i64 30)] H (fun v H' => v = shapeV ⟨#[100]⟩ 79 [] true ∧ H' = H) := sh17_P _ _ _ (.inr (.inr (.inr (.inr (.inr (.inr (.inr (.inr (.inr (.inr (.inr (.inr (.inr (.inr (.inr (.inr (.inr (.inr (.inr (.inr (.inr (.inl ⟨rfl, rfl, rfl⟩)))))))))))))))))))))) H
theorem sh17_31 (H : Heap) : Con Tryz.prog 17 [.c (.int .i64 31)] H (fun v H' => v = shapeV ⟨#[100, 121]⟩ 115 [] true ∧ H' = H) := sh17_P _ _ _ (.inr (.inr (.inr (.inr (.inr (.inr (.inr (.inr (.inr (.inr (.inr (.inr (.inr (.inr (.inr (.inr (.inr (.inr (.inr (.inr (.inr (.inr (.inl ⟨rfl, rfl, rfl⟩))))))))))))))))))))))) H
theorem sh17_32 (H : Heap) : Con Tryz.prog 17 [.c (.int .i64 32)] H (fun v H' => v = shapeV ⟨#[100, 121]⟩ 115 [] true ∧ H' = H) := sh17_P _ _ _ (.inr (.inr (.inr (.inr (.inr (.inr (.inr (.inr (.inr (.inr (.inr (.inr (.inr (.inr (.inr (.inr (.inr (.inr (.inr (.inr (.inr (.inr (.inr (.inl ⟨rfl, rfl, rfl⟩)))))))))))))))))))))))) H
theorem sh17_33 (H : Heap) : Con Tryz.prog 17 [.c (.int .i64 33)] H (fun v H' => v = shapeV ⟨#[115, 105]⟩ 117 [] true ∧ H' = H) := sh17_P _ _ _ (.inr (.inr (.inr (.inr (.inr (.inr (.inr (.inr (.inr (.inr (.inr (.inr (.inr (.inr (.inr (.inr (.inr (.inr (.inr (.inr (.inr (.inr (.inr (.inr (.inl ⟨rfl, rfl, rfl⟩))))))))))))))))))))))))) H
theorem sh17_34 (H : Heap) : Con Tryz.prog 17 [.c (.int .i64 34)] H (fun v H' => v = shapeV ⟨#[105]⟩ 118 [] true ∧ H' = H) := sh17_P _ _ _ (.inr (.inr (.inr (.inr (.inr (.inr (.inr (.inr (.inr (.inr (.inr (.inr (.inr (.inr (.inr (.inr (.inr (.inr (.inr (.inr (.inr (.inr (.inr (.inr (.inr (.inl ⟨rfl, rfl, rfl⟩)))))))))))))))))))))))))) H
theorem sh17_35 (H : Heap) : Con Tryz.prog 17 [.c (.int .i64 35)] H (fun v H' => v = shapeV ⟨#[105]⟩ 118 [] true ∧ H' = H) := sh17_P _ _ _ (.inr (.inr (.inr (.inr (.inr (.inr (.inr (.inr (.inr (.inr (.inr (.inr (.inr (.inr (.inr (.inr (.inr (.inr (.inr (.inr (.inr (.inr (.inr (.inr (.inr (.inr (.inl ⟨rfl, rfl, rfl⟩))))))))))))))))))))))))))) H
theorem sh17_36 (H : Heap) : Con Tryz.prog 17 [.c (.int .i64 36)] H (fun v H' => v = shapeV ⟨#[]⟩ 79 [] true ∧ H' = H) := sh17_P _ _ _ (.inr (.inr (.inr (.inr (.inr (.inr (.inr (.inr (.inr (.inr (.inr (.inr (.inr (.inr (.inr (.inr (.inr (.inr (.inr (.inr (.inr (.inr (.inr (.inr (.inr (.inr (.inr (.inl ⟨rfl, rfl, rfl⟩)))))))))))))))))))))))))))) H
theorem sh17_37 (H : Heap) : Con Tryz.prog 17 [.c (.int .i64 37)] H (fun v H' => v = shapeV ⟨#[105]⟩ 119 [] true ∧ H' = H) := sh17_P _ _ _ (.inr (.inr (.inr (.inr (.inr (.inr (.inr (.inr (.inr (.inr (.inr (.inr (.inr (.inr (.inr (.inr (.inr (.inr (.inr (.inr (.inr (.inr (.inr (.inr (.inr (.inr (.inr (.inr (⟨rfl, rfl, rfl⟩))))))))))))))))))))))))))))) H
theorem end_shapeQ {l : List Slot} {H : Heap} {R : Post} (f : ByteArray) (a : Int) (ok : Bool) (hsl : slotAt l 2 = some ⟨2, [], .c (.ptr ⟨0, 0, 0, 0⟩)⟩) (hok : slotAt l 3 = some ⟨3, [], .c (.bool ok)⟩) (hb : getB H.blks 0 = some (shapeB f 113 [⟨1, 0, 0, 0⟩])) (hx : getB H.blks 1 = some (boxW a))
    (hR : R (shapeV f 113 [⟨0, 0, 0, 0⟩] ok) ⟨2, [(1, shapeB f 113 [⟨0, 0, 0, 0⟩]), (0, boxW a)]⟩) : endQ (LeS 0) [.cn 2 2, .tmp 3] R .ret ⟨l, H⟩ := by
  refine end_of ⟨[⟨2, [], .c (.ptr ⟨1, 0, 0, 0⟩)⟩, ⟨3, [], .c (.bool ok)⟩], ⟨2, [(1, shapeB f 113 [⟨0, 0, 0, 0⟩]), (0, boxW a)]⟩⟩ (LeS.intro [1, 0] (fun i h => absurd h (Nat.not_lt_zero i)) (by simp only [diff, notIn, Nat.beq, and_self]) rfl (by simp only [slotsLe, hsl, hok, leV, leV1, leC, leA, nthO, and_self]) ?_) ?_
  · simp only [leBlks, nthO, hb, hx]
    exact ⟨⟨rfl, rfl, id, Nat.le_refl _, fun _ _ => by simp only [shapeB, leSegs, leSeg, leC, leAL, leA, nthO, and_self]⟩, ⟨rfl, rfl, id, Nat.le_refl _, fun _ _ => by simp only [boxW, leSegs, leSeg, leC, and_self]⟩, trivial⟩
  · simp only [endF, resL, resA, St.get, slotAt, sfx, eqP, ldn, getB, shapeB, rowNeed, cut, dropS, takeS, Seg.size, nsub, noTup, resV]
    exact hR
theorem frame_shapeQ (f : ByteArray) (a : Int) (ok : Bool) {m : FuncId} {args : List AV} (h : Con Tryz.prog m args ⟨0, []⟩ fun v H' => v = shapeV f 113 [⟨0, 0, 0, 0⟩] ok ∧ H' = ⟨2, [(1, shapeB f 113 [⟨0, 0, 0, 0⟩]), (0, boxW a)]⟩) (ha : leArgs [] args args) (n : Nat) (X : List (Nat × Blk)) (hkl : keysLt X n) : Con Tryz.prog m args ⟨n, X⟩ fun v H' => v = shapeV f 113 [⟨n, 0, 0, 0⟩] ok ∧ H' = addBs ⟨n, X⟩ [boxW a] := by
  have h1 : Con Tryz.prog m args ⟨0, []⟩ fun v H' => v = shapeV f 113 [⟨0, 0, 0, 0⟩] ok ∧ H' = ⟨1, [(0, boxW a)]⟩ := by
    refine Con.forget h ?_
    rintro v H' ⟨rfl, rfl⟩
    exact ⟨_, ⟨1, [(0, boxW a)]⟩, [0], fun i h => absurd h (Nat.not_lt_zero i), ⟨trivial, trivial⟩, rfl, ⟨⟨rfl, rfl, id, Nat.le_refl _, fun _ _ => by simp only [boxW, leSegs, leSeg, leC, and_self]⟩, trivial⟩, by simp only [shapeV, leV, leV1, leVL, leC, leSegs, leSeg, leAL, leA, nthO, and_self], rfl, rfl⟩
  refine (h1.frame (H := ⟨n, X⟩) [] rfl trivial trivial hkl trivial ha).weaken ?_
  rintro v H' ⟨v0, H0', ⟨rfl, rfl⟩, rfl, rfl⟩
  refine ⟨rfl, ?_⟩
  simp only [framed, dropB_none (l := []) (H0 := []) (fun _ => rfl)]
  rfl
set_option maxHeartbeats 8000000 in
theorem sh17_Q (k : Int) (f : ByteArray) (a : Int) (hk : (k = 12 ∧ f = ⟨#[105, 76]⟩ ∧ a = 27) ∨ (k = 14 ∧ f = ⟨#[100, 105, 78]⟩ ∧ a = 20)) (n : Nat) (X : List (Nat × Blk)) (hkl : keysLt X n) : Con Tryz.prog 17 [.c (.int .i64 k)] ⟨n, X⟩ (fun v H' => v = shapeV f 113 [⟨n, 0, 0, 0⟩] true ∧ H' = addBs ⟨n, X⟩ [boxW a]) := by
  refine frame_shapeQ _ _ _ ?_ (by simp only [leArgs, leV, leV1, leC, and_self]) n X hkl
  rcases hk with ⟨rfl, rfl, rfl⟩ | ⟨rfl, rfl, rfl⟩
  all_goals
    (refine con_of_run mixed (fn := Tryz.f17) (by kernel_rfl) (by kernel_rfl) C17_ok (rs := [.cn 2 2, .tmp 3]) (by kernel_rfl) (Nat.le_of_ble_eq_true (by kernel_rfl)) ?_; unfold C17; simp only [initT])
    repeat' (first | refine run_seq ?_ | refine run_skip ?_ | (refine run_region fun K hK => ?_; (try (simp (maxSteps := 10000000) only [Int.reduceBEq, C17r0, C17r1, C17r2, C17r4, C17r6, C17r8, C17r10, C17r12, C17r14, C17r16, C17r18, C17r20, C17r22, C17r24, C17r25, C17r26, C17r28, C17r29, rwp_nil, rwp_cons, aop, gpath, St.get, slotAt, sfx, eqP, St.put, addBlk, bin, isShift, sameK, arith, shed, Seg.size, sizes, appL, argsOf, ptrsOf, Nat.reduceAdd])); (repeat (first | (refine And.intro ?_ ?_; · first | trivial | assumption | omega) | ((first | (refine call_t _ (con82 _ _ _ (by simp [keysLt])) ?_; rintro v H' ⟨rfl, rfl⟩) | refine call_q _ (con82 _ _ _ (by simp [roL, keysLt, boxW])) ?_ | refine call_g _ (imp_of (con82 _ _ _ (by simp [roL, keysLt, boxW]))) ?_); simp (maxSteps := 10000000) only [rwp_nil, rwp_cons, rwpK_app, aop, gpath, St.get, slotAt, sfx, eqP, segsOf, St.put, addBlk, getB, setB, stn, setRow, rowNeed, nsub, shed, Nat.beq, Seg.size, sizes, takeS, dropS, putS, partsOf, fillS, exOk, Nat.reduceAdd, List.append_nil, List.nil_append, List.cons_append, addBs]))); with_reducible refine hK _ ?_; clear hK K) | (refine run_cond rfl (fun hc => ?_) (fun hc => ?_) <;> try (simp only [*, Bool.true_eq_false, Bool.false_eq_true] at hc; done)) | refine run_block ?_ | refine run_ret ?_ | refine run_nil ?_ | refine blk_normal ?_ | refine blk_ret ?_ | refine blk_here ?_ | refine blk_there rfl ?_)
    exact end_shapeQ _ _ true rfl rfl rfl rfl ⟨rfl, rfl⟩
theorem sh17_12 (n : Nat) (X : List (Nat × Blk)) (hkl : keysLt X n) : Con Tryz.prog 17 [.c (.int .i64 12)] ⟨n, X⟩ (fun v H' => v = shapeV ⟨#[105, 76]⟩ 113 [⟨n, 0, 0, 0⟩] true ∧ H' = addBs ⟨n, X⟩ [boxW 27]) := sh17_Q _ _ _ (.inl ⟨rfl, rfl, rfl⟩) n X hkl
theorem sh17_14 (n : Nat) (X : List (Nat × Blk)) (hkl : keysLt X n) : Con Tryz.prog 17 [.c (.int .i64 14)] ⟨n, X⟩ (fun v H' => v = shapeV ⟨#[100, 105, 78]⟩ 113 [⟨n, 0, 0, 0⟩] true ∧ H' = addBs ⟨n, X⟩ [boxW 20]) := sh17_Q _ _ _ (.inr (⟨rfl, rfl, rfl⟩)) n X hkl
def intsW (m : Nat) : Blk := ⟨1, some m, fun i => [.c (.int .i64 (i : Int))], 3, true⟩
theorem con78 (m j n : Nat) (X : List (Nat × Blk)) (hj : j < n) (hkl : keysLt X n) : Con Tryz.prog 78 [.c (.slice ⟨j, 0, 0, 0⟩ false m)] ⟨n, X⟩ (fun v H' => v = .c (.fn 111 [] [⟨n, 0, 0, 0⟩]) ∧ H' = addBs ⟨n, X⟩ [slB j m true]) := by
  have h0 : Con Tryz.prog 78 [.c (.slice ⟨0, 0, 0, 0⟩ false m)] ⟨1, []⟩ (fun v H' => v = .c (.fn 111 [] [⟨1, 0, 0, 0⟩]) ∧ H' = ⟨2, [(1, slB 0 m true)]⟩) := by
    (refine con_of_run mixed (fn := Tryz.f78) (by kernel_rfl) (by kernel_rfl) C78_ok (rs := [.tmp 2]) (by kernel_rfl) (Nat.le_of_ble_eq_true (by kernel_rfl)) ?_; unfold C78; simp only [initT])
    repeat' (first | refine run_seq ?_ | (refine run_region fun K hK => ?_; (try (simp (maxSteps := 10000000) only [C78r0, C78r1, rwp_nil, rwp_cons, aop, gpath, St.get, slotAt, sfx, eqP, segsOf, St.put, addBlk, shed, Seg.size, sizes, aasOf, Nat.reduceAdd])); (repeat (first | (refine And.intro ?_ ?_; · first | trivial | assumption | omega))); with_reducible refine hK _ ?_; clear hK K) | refine run_ret ?_ | refine run_nil ?_)
    refine end_of ⟨[⟨2, [], .c (.fn 111 [] [⟨1, 0, 0, 0⟩])⟩], ⟨2, [(1, slB 0 m true)]⟩⟩ (LeS.intro [0, 1] (fun i h => by match i, h with | 0, _ => rfl) (by simp only [diff, notIn, Nat.beq, and_self]) rfl ?_ ?_) ⟨rfl, rfl⟩
    · simp only [slotsLe, slotAt, leV, leV1, leC, leAL, leA, nthO, and_self]
    · simp only [leBlks, nthO, getB]
      exact ⟨⟨rfl, rfl, id, Nat.le_refl _, fun _ _ => by simp only [slB, leSegs, leSeg, leC, leA, nthO, and_self]⟩, trivial⟩
  refine (h0.frame (H := ⟨n, X⟩) [j] rfl ⟨trivial, trivial⟩ ⟨hj, trivial⟩ hkl trivial (by simp only [leArgs, leV, leV1, leC, leA, nthO, and_self])).weaken ?_
  rintro v H' ⟨v0, H0', ⟨rfl, rfl⟩, rfl, rfl⟩
  refine ⟨rfl, ?_⟩
  simp only [framed, dropB_none (l := [j]) (H0 := []) (fun _ => rfl)]
  rfl
theorem end_shapeS {l : List Slot} {H : Heap} {R : Post} (f : ByteArray) (m : Nat) (row : Nat → List Seg) (ok : Bool) (hsl : slotAt l 2 = some ⟨2, [], .c (.ptr ⟨0, 0, 0, 0⟩)⟩) (hok : slotAt l 3 = some ⟨3, [], .c (.bool ok)⟩) (hb : getB H.blks 0 = some (shapeB f 111 [⟨2, 0, 0, 0⟩])) (hx : getB H.blks 1 = some ⟨1, some m, row, 3, true⟩) (hy : getB H.blks 2 = some (slB 1 m true)) (hrow : ∀ i, i < m → row i = [.c (.int .i64 (i : Int))])
    (hR : R (shapeV f 111 [⟨1, 0, 0, 0⟩] ok) ⟨3, [(2, shapeB f 111 [⟨1, 0, 0, 0⟩]), (1, slB 0 m true), (0, intsW m)]⟩) : endQ (LeS 0) [.cn 2 2, .tmp 3] R .ret ⟨l, H⟩ := by
  refine end_of ⟨[⟨2, [], .c (.ptr ⟨2, 0, 0, 0⟩)⟩, ⟨3, [], .c (.bool ok)⟩], ⟨3, [(2, shapeB f 111 [⟨1, 0, 0, 0⟩]), (1, slB 0 m true), (0, intsW m)]⟩⟩ (LeS.intro [1, 2, 0] (fun i h => absurd h (Nat.not_lt_zero i)) (by simp only [diff, notIn, Nat.beq, and_self]) rfl (by simp only [slotsLe, hsl, hok, leV, leV1, leC, leA, nthO, and_self]) ?_) ?_
  · simp only [leBlks, nthO, hb, hx, hy]
    exact ⟨⟨rfl, rfl, id, Nat.le_refl _, fun _ _ => by simp only [shapeB, leSegs, leSeg, leC, leAL, leA, nthO, and_self]⟩, ⟨rfl, rfl, id, Nat.le_refl _, fun _ _ => by simp only [slB, leSegs, leSeg, leC, leA, nthO, and_self]⟩, ⟨rfl, rfl, id, Nat.le_refl _, fun i hi => by show leSegs _ (row i) _; rw [hrow i hi]; simp only [intsW, leSegs, leSeg, leC, and_self]⟩, trivial⟩
  · simp only [endF, resL, resA, St.get, slotAt, sfx, eqP, ldn, getB, shapeB, rowNeed, cut, dropS, takeS, Seg.size, nsub, noTup, resV]
    exact hR
theorem frame_shapeS (f : ByteArray) (c : Nat) (ok : Bool) {m : FuncId} {args : List AV} (h : Con Tryz.prog m args ⟨0, []⟩ fun v H' => v = shapeV f 111 [⟨1, 0, 0, 0⟩] ok ∧ H' = ⟨3, [(2, shapeB f 111 [⟨1, 0, 0, 0⟩]), (1, slB 0 c true), (0, intsW c)]⟩) (ha : leArgs [] args args) (n : Nat) (X : List (Nat × Blk)) (hkl : keysLt X n) : Con Tryz.prog m args ⟨n, X⟩ fun v H' => v = shapeV f 111 [⟨n + 1, 0, 0, 0⟩] ok ∧ H' = addBs ⟨n, X⟩ [intsW c, slB n c true] := by
  have h1 : Con Tryz.prog m args ⟨0, []⟩ fun v H' => v = shapeV f 111 [⟨1, 0, 0, 0⟩] ok ∧ H' = ⟨2, [(1, slB 0 c true), (0, intsW c)]⟩ := by
    refine Con.forget h ?_
    rintro v H' ⟨rfl, rfl⟩
    exact ⟨_, ⟨2, [(1, slB 0 c true), (0, intsW c)]⟩, [0, 1], fun i h => absurd h (Nat.not_lt_zero i), by simp only [diff, notIn, Nat.beq, and_self], rfl, ⟨⟨rfl, rfl, id, Nat.le_refl _, fun _ _ => by simp only [slB, leSegs, leSeg, leC, leA, nthO, and_self]⟩, ⟨rfl, rfl, id, Nat.le_refl _, fun _ _ => by simp only [intsW, leSegs, leSeg, leC, and_self]⟩, trivial⟩, by simp only [shapeV, leV, leV1, leVL, leC, leSegs, leSeg, leAL, leA, nthO, and_self], rfl, rfl⟩
  refine (h1.frame (H := ⟨n, X⟩) [] rfl trivial trivial hkl trivial ha).weaken ?_
  rintro v H' ⟨v0, H0', ⟨rfl, rfl⟩, rfl, rfl⟩
  refine ⟨rfl, ?_⟩
  simp only [framed, dropB_none (l := []) (H0 := []) (fun _ => rfl)]
  rfl
theorem rows4 (i : Nat) (hi : i < 4) : cutD [Seg.c (.int .i64 0), Seg.c (.int .i64 1), Seg.c (.int .i64 2), Seg.c (.int .i64 3)] (i * 1) 1 = [Seg.c (.int .i64 (i : Int))] := by
  match i, hi with
  | 0, _ => rfl
  | 1, _ => rfl
  | 2, _ => rfl
  | 3, _ => rfl
theorem rows3 (i : Nat) (hi : i < 3) : cutD [Seg.c (.int .i64 0), Seg.c (.int .i64 1), Seg.c (.int .i64 2)] (i * 1) 1 = [Seg.c (.int .i64 (i : Int))] := by
  match i, hi with
  | 0, _ => rfl
  | 1, _ => rfl
  | 2, _ => rfl
theorem rows2 (i : Nat) (hi : i < 2) : cutD [Seg.c (.int .i64 0), Seg.c (.int .i64 1)] (i * 1) 1 = [Seg.c (.int .i64 (i : Int))] := by
  match i, hi with
  | 0, _ => rfl
  | 1, _ => rfl
set_option maxHeartbeats 8000000 in
theorem sh87_S (k : Int) (f : ByteArray) (c : Nat) (hk : (k = 21 ∧ f = ⟨#[100, 110, 115]⟩ ∧ c = 2) ∨ (k = 23 ∧ f = ⟨#[100, 110, 115]⟩ ∧ c = 2) ∨ (k = 24 ∧ f = ⟨#[100, 110, 109, 115]⟩ ∧ c = 2)) (n : Nat) (X : List (Nat × Blk)) (hkl : keysLt X n) : Con Tryz.prog 87 [.c (.int .i64 k)] ⟨n, X⟩ (fun v H' => v = shapeV f 111 [⟨n + 1, 0, 0, 0⟩] true ∧ H' = addBs ⟨n, X⟩ [intsW c, slB n c true]) := by
  refine frame_shapeS _ _ _ ?_ (by simp only [leArgs, leV, leV1, leC, and_self]) n X hkl
  rcases hk with ⟨rfl, rfl, rfl⟩ | ⟨rfl, rfl, rfl⟩ | ⟨rfl, rfl, rfl⟩
  all_goals
    (refine con_of_run mixed (fn := Tryz.f87) (by kernel_rfl) (by kernel_rfl) C87_ok (rs := [.cn 2 2, .tmp 3]) (by kernel_rfl) (Nat.le_of_ble_eq_true (by kernel_rfl)) ?_; unfold C87; simp only [initT])
    repeat' (first | refine run_seq ?_ | refine run_skip ?_ | (refine run_region fun K hK => ?_; (try (simp (maxSteps := 10000000) only [Int.reduceBEq, repl, rowsFit, rowFn, cutD, C87r0, C87r1, C87r2, C87r3, C87r4, C87r5, C87r19, C87r21, rwp_nil, rwp_cons, aop, gpath, St.get, slotAt, sfx, eqP, segsOf, St.put, addBlk, nsub, bin, isShift, sameK, arith, shed, Nat.beq, Seg.size, sizes, appL, argsOf, ptrsOf, cut, takeS, dropS, putS, partsOf, fillS, Nat.reduceAdd, List.append_nil, List.nil_append, List.cons_append])); (repeat (first | (refine And.intro ?_ ?_; · first | trivial | assumption | omega) | ((first | (refine call_t _ (con78 _ 1 _ _ (by decide) (by simp [keysLt])) ?_; rintro v H' ⟨rfl, rfl⟩) | refine call_q _ (con78 _ 1 _ _ (by decide) (by simp [roL, keysLt, boxW])) ?_ | refine call_g _ (imp_of (con78 _ 1 _ _ (by decide) (by simp [roL, keysLt, boxW]))) ?_); simp (maxSteps := 10000000) only [rwp_nil, rwp_cons, rwpK_app, aop, gpath, St.get, slotAt, sfx, eqP, segsOf, St.put, addBlk, getB, setB, stn, setRow, rowNeed, nsub, shed, Nat.beq, Seg.size, sizes, takeS, dropS, putS, partsOf, fillS, exOk, Nat.reduceAdd, List.append_nil, List.nil_append, List.cons_append, addBs]))); with_reducible refine hK _ ?_; clear hK K) | (refine run_cond rfl (fun hc => ?_) (fun hc => ?_) <;> try (simp only [*, Bool.true_eq_false, Bool.false_eq_true] at hc; done)) | refine run_block ?_ | refine run_ret ?_ | refine run_nil ?_ | refine run_exit ?_ | refine blk_normal ?_ | refine blk_ret ?_ | refine blk_here ?_ | refine blk_there rfl ?_)
    first | exact end_shapeS _ 2 _ true rfl rfl rfl rfl rfl rows2 ⟨rfl, rfl⟩ | exact end_shapeS _ 3 _ true rfl rfl rfl rfl rfl rows3 ⟨rfl, rfl⟩ | exact end_shapeS _ 4 _ true rfl rfl rfl rfl rfl rows4 ⟨rfl, rfl⟩
theorem sh87_21 (n : Nat) (X : List (Nat × Blk)) (hkl : keysLt X n) : Con Tryz.prog 87 [.c (.int .i64 21)] ⟨n, X⟩ (fun v H' => v = shapeV ⟨#[100, 110, 115]⟩ 111 [⟨n + 1, 0, 0, 0⟩] true ∧ H' = addBs ⟨n, X⟩ [intsW 2, slB n 2 true]) := sh87_S _ _ _ (.inl ⟨rfl, rfl, rfl⟩) n X hkl
theorem sh87_23 (n : Nat) (X : List (Nat × Blk)) (hkl : keysLt X n) : Con Tryz.prog 87 [.c (.int .i64 23)] ⟨n, X⟩ (fun v H' => v = shapeV ⟨#[100, 110, 115]⟩ 111 [⟨n + 1, 0, 0, 0⟩] true ∧ H' = addBs ⟨n, X⟩ [intsW 2, slB n 2 true]) := sh87_S _ _ _ (.inr (.inl ⟨rfl, rfl, rfl⟩)) n X hkl
theorem sh87_24 (n : Nat) (X : List (Nat × Blk)) (hkl : keysLt X n) : Con Tryz.prog 87 [.c (.int .i64 24)] ⟨n, X⟩ (fun v H' => v = shapeV ⟨#[100, 110, 109, 115]⟩ 111 [⟨n + 1, 0, 0, 0⟩] true ∧ H' = addBs ⟨n, X⟩ [intsW 2, slB n 2 true]) := sh87_S _ _ _ (.inr (.inr (⟨rfl, rfl, rfl⟩))) n X hkl
set_option maxHeartbeats 8000000 in
theorem sh17_S (k : Int) (f : ByteArray) (c : Nat) (hk : (k = 7 ∧ f = ⟨#[100, 110, 109, 115]⟩ ∧ c = 4) ∨ (k = 9 ∧ f = ⟨#[100, 110, 109, 115]⟩ ∧ c = 2) ∨ (k = 16 ∧ f = ⟨#[110, 115]⟩ ∧ c = 3)) (n : Nat) (X : List (Nat × Blk)) (hkl : keysLt X n) : Con Tryz.prog 17 [.c (.int .i64 k)] ⟨n, X⟩ (fun v H' => v = shapeV f 111 [⟨n + 1, 0, 0, 0⟩] true ∧ H' = addBs ⟨n, X⟩ [intsW c, slB n c true]) := by
  refine frame_shapeS _ _ _ ?_ (by simp only [leArgs, leV, leV1, leC, and_self]) n X hkl
  rcases hk with ⟨rfl, rfl, rfl⟩ | ⟨rfl, rfl, rfl⟩ | ⟨rfl, rfl, rfl⟩
  all_goals
    (refine con_of_run mixed (fn := Tryz.f17) (by kernel_rfl) (by kernel_rfl) C17_ok (rs := [.cn 2 2, .tmp 3]) (by kernel_rfl) (Nat.le_of_ble_eq_true (by kernel_rfl)) ?_; unfold C17; simp only [initT])
    repeat' (first | refine run_seq ?_ | refine run_skip ?_ | (refine run_region fun K hK => ?_; (try (simp (maxSteps := 10000000) only [Int.reduceBEq, repl, rowsFit, rowFn, cutD, C17r0, C17r1, C17r2, C17r4, C17r6, C17r8, C17r10, C17r12, C17r14, C17r15, C17r16, C17r18, C17r19, C17r20, C17r22, C17r24, C17r26, C17r28, C17r30, C17r32, C17r33, rwp_nil, rwp_cons, aop, gpath, St.get, slotAt, sfx, eqP, segsOf, St.put, addBlk, nsub, bin, isShift, sameK, arith, shed, Nat.beq, Seg.size, sizes, appL, argsOf, ptrsOf, cut, takeS, dropS, putS, partsOf, fillS, Nat.reduceAdd, List.append_nil, List.nil_append, List.cons_append])); (repeat (first | (refine And.intro ?_ ?_; · first | trivial | assumption | omega) | ((first | (refine call_t _ (con78 _ 1 _ _ (by decide) (by simp [keysLt])) ?_; rintro v H' ⟨rfl, rfl⟩) | refine call_q _ (con78 _ 1 _ _ (by decide) (by simp [roL, keysLt, boxW])) ?_ | refine call_g _ (imp_of (con78 _ 1 _ _ (by decide) (by simp [roL, keysLt, boxW]))) ?_); simp (maxSteps := 10000000) only [rwp_nil, rwp_cons, rwpK_app, aop, gpath, St.get, slotAt, sfx, eqP, segsOf, St.put, addBlk, getB, setB, stn, setRow, rowNeed, nsub, shed, Nat.beq, Seg.size, sizes, takeS, dropS, putS, partsOf, fillS, exOk, Nat.reduceAdd, List.append_nil, List.nil_append, List.cons_append, addBs]))); with_reducible refine hK _ ?_; clear hK K) | (refine run_cond rfl (fun hc => ?_) (fun hc => ?_) <;> try (simp only [*, Bool.true_eq_false, Bool.false_eq_true] at hc; done)) | refine run_block ?_ | refine run_ret ?_ | refine run_nil ?_ | refine blk_normal ?_ | refine blk_ret ?_ | refine blk_here ?_ | refine blk_there rfl ?_)
    first | exact end_shapeS _ 2 _ true rfl rfl rfl rfl rfl rows2 ⟨rfl, rfl⟩ | exact end_shapeS _ 3 _ true rfl rfl rfl rfl rfl rows3 ⟨rfl, rfl⟩ | exact end_shapeS _ 4 _ true rfl rfl rfl rfl rfl rows4 ⟨rfl, rfl⟩
theorem sh17_7 (n : Nat) (X : List (Nat × Blk)) (hkl : keysLt X n) : Con Tryz.prog 17 [.c (.int .i64 7)] ⟨n, X⟩ (fun v H' => v = shapeV ⟨#[100, 110, 109, 115]⟩ 111 [⟨n + 1, 0, 0, 0⟩] true ∧ H' = addBs ⟨n, X⟩ [intsW 4, slB n 4 true]) := sh17_S _ _ _ (.inl ⟨rfl, rfl, rfl⟩) n X hkl
theorem sh17_9 (n : Nat) (X : List (Nat × Blk)) (hkl : keysLt X n) : Con Tryz.prog 17 [.c (.int .i64 9)] ⟨n, X⟩ (fun v H' => v = shapeV ⟨#[100, 110, 109, 115]⟩ 111 [⟨n + 1, 0, 0, 0⟩] true ∧ H' = addBs ⟨n, X⟩ [intsW 2, slB n 2 true]) := sh17_S _ _ _ (.inr (.inl ⟨rfl, rfl, rfl⟩)) n X hkl
theorem sh17_16 (n : Nat) (X : List (Nat × Blk)) (hkl : keysLt X n) : Con Tryz.prog 17 [.c (.int .i64 16)] ⟨n, X⟩ (fun v H' => v = shapeV ⟨#[110, 115]⟩ 111 [⟨n + 1, 0, 0, 0⟩] true ∧ H' = addBs ⟨n, X⟩ [intsW 3, slB n 3 true]) := sh17_S _ _ _ (.inr (.inr (⟨rfl, rfl, rfl⟩))) n X hkl
set_option maxHeartbeats 8000000 in
theorem sh17_T (k : Int) (f : ByteArray) (c : Nat) (hk : (k = 21 ∧ f = ⟨#[100, 110, 115]⟩ ∧ c = 2) ∨ (k = 23 ∧ f = ⟨#[100, 110, 115]⟩ ∧ c = 2) ∨ (k = 24 ∧ f = ⟨#[100, 110, 109, 115]⟩ ∧ c = 2)) (n : Nat) (X : List (Nat × Blk)) (hkl : keysLt X n) : Con Tryz.prog 17 [.c (.int .i64 k)] ⟨n, X⟩ (fun v H' => v = shapeV f 111 [⟨n + 1, 0, 0, 0⟩] true ∧ H' = addBs ⟨n, X⟩ [intsW c, slB n c true]) := by
  refine frame_shapeS _ _ _ ?_ (by simp only [leArgs, leV, leV1, leC, and_self]) n X hkl
  rcases hk with ⟨rfl, rfl, rfl⟩ | ⟨rfl, rfl, rfl⟩ | ⟨rfl, rfl, rfl⟩
  all_goals
    (refine con_of_run mixed (fn := Tryz.f17) (by kernel_rfl) (by kernel_rfl) C17_ok (rs := [.cn 2 2, .tmp 3]) (by kernel_rfl) (Nat.le_of_ble_eq_true (by kernel_rfl)) ?_; unfold C17; simp only [initT])
    repeat' (first | refine run_seq ?_ | refine run_skip ?_ | (refine run_region fun K hK => ?_; (try (simp (maxSteps := 10000000) only [Int.reduceBEq, C17r0, C17r1, C17r2, C17r4, C17r6, C17r8, C17r10, C17r12, C17r14, C17r16, C17r18, C17r20, C17r22, C17r24, C17r26, C17r28, C17r30, C17r32, C17r34, C17r35, C17r37, C17r38, C17r40, rwp_nil, rwp_cons, aop, gpath, St.get, slotAt, sfx, eqP, St.put, addBlk, bin, isShift, sameK, arith, shed, Seg.size, sizes, appL, argsOf, ptrsOf, Nat.reduceAdd])); (repeat (first | (refine And.intro ?_ ?_; · first | trivial | assumption | omega) | ((first | (refine call_t _ (sh87_21 _ _ (by simp [keysLt])) ?_; rintro v H' ⟨rfl, rfl⟩) | refine call_q _ (sh87_21 _ _ (by simp [roL, keysLt, boxW])) ?_ | refine call_g _ (imp_of (sh87_21 _ _ (by simp [roL, keysLt, boxW]))) ?_ | (refine call_t _ (sh87_23 _ _ (by simp [keysLt])) ?_; rintro v H' ⟨rfl, rfl⟩) | refine call_q _ (sh87_23 _ _ (by simp [roL, keysLt, boxW])) ?_ | refine call_g _ (imp_of (sh87_23 _ _ (by simp [roL, keysLt, boxW]))) ?_ | (refine call_t _ (sh87_24 _ _ (by simp [keysLt])) ?_; rintro v H' ⟨rfl, rfl⟩) | refine call_q _ (sh87_24 _ _ (by simp [roL, keysLt, boxW])) ?_ | refine call_g _ (imp_of (sh87_24 _ _ (by simp [roL, keysLt, boxW]))) ?_); simp (maxSteps := 10000000) only [shapeV, rwp_nil, rwp_cons, rwpK_app, aop, gpath, St.get, slotAt, sfx, eqP, St.put, addBlk, getB, setB, stn, setRow, rowNeed, nsub, shed, Nat.beq, Seg.size, sizes, takeS, dropS, putS, nthA, exOk, Nat.reduceAdd, List.append_nil, List.nil_append, addBs]))); with_reducible refine hK _ ?_; clear hK K) | (refine run_cond rfl (fun hc => ?_) (fun hc => ?_) <;> try (simp only [*, Bool.false_eq_true] at hc; done)) | refine run_block ?_ | refine run_ret ?_ | refine run_nil ?_ | refine blk_normal ?_ | refine blk_ret ?_ | refine blk_here ?_ | refine blk_there rfl ?_)
    exact end_shapeS _ _ _ true rfl rfl rfl rfl rfl (fun _ _ => rfl) ⟨rfl, rfl⟩
theorem sh17_21 (n : Nat) (X : List (Nat × Blk)) (hkl : keysLt X n) : Con Tryz.prog 17 [.c (.int .i64 21)] ⟨n, X⟩ (fun v H' => v = shapeV ⟨#[100, 110, 115]⟩ 111 [⟨n + 1, 0, 0, 0⟩] true ∧ H' = addBs ⟨n, X⟩ [intsW 2, slB n 2 true]) := sh17_T _ _ _ (.inl ⟨rfl, rfl, rfl⟩) n X hkl
theorem sh17_23 (n : Nat) (X : List (Nat × Blk)) (hkl : keysLt X n) : Con Tryz.prog 17 [.c (.int .i64 23)] ⟨n, X⟩ (fun v H' => v = shapeV ⟨#[100, 110, 115]⟩ 111 [⟨n + 1, 0, 0, 0⟩] true ∧ H' = addBs ⟨n, X⟩ [intsW 2, slB n 2 true]) := sh17_T _ _ _ (.inr (.inl ⟨rfl, rfl, rfl⟩)) n X hkl
theorem sh17_24 (n : Nat) (X : List (Nat × Blk)) (hkl : keysLt X n) : Con Tryz.prog 17 [.c (.int .i64 24)] ⟨n, X⟩ (fun v H' => v = shapeV ⟨#[100, 110, 109, 115]⟩ 111 [⟨n + 1, 0, 0, 0⟩] true ∧ H' = addBs ⟨n, X⟩ [intsW 2, slB n 2 true]) := sh17_T _ _ _ (.inr (.inr (⟨rfl, rfl, rfl⟩))) n X hkl
def noShapeV : AV := .tup [.agg [.c (.str ⟨#[]⟩), .c .nilfn], .c (.bool false)]
def noShapeB : Blk := ⟨2, none, fun _ => [.c (.str ⟨#[]⟩), .c .nilfn], 48, true⟩
theorem end_noShape {l : List Slot} {H : Heap} {R : Post} {b : Nat} (hsl : slotAt l 2 = some ⟨2, [], .c (.ptr ⟨b, 0, 0, 0⟩)⟩) (hok : slotAt l 3 = some ⟨3, [], .c (.bool false)⟩) (hb : getB H.blks b = some noShapeB)
    (hR : R noShapeV ⟨1, [(0, noShapeB)]⟩) : endQ (LeS 0) [.cn 2 2, .tmp 3] R .ret ⟨l, H⟩ := by
  refine end_of ⟨[⟨2, [], .c (.ptr ⟨0, 0, 0, 0⟩)⟩, ⟨3, [], .c (.bool false)⟩], ⟨1, [(0, noShapeB)]⟩⟩ (LeS.intro [b] (fun i h => absurd h (Nat.not_lt_zero i)) (by simp only [diff, notIn, and_self]) rfl (by simp only [slotsLe, hsl, hok, leV, leV1, leC, leA, nthO, and_self]) ?_) ?_
  · simp only [leBlks, nthO, hb]
    exact ⟨⟨rfl, rfl, id, Nat.le_refl _, fun _ _ => by simp only [noShapeB, leSegs, leSeg, leC, and_self]⟩, trivial⟩
  · simp only [endF, resL, resA, St.get, slotAt, sfx, eqP, ldn, getB, noShapeB, rowNeed, cut, dropS, takeS, Seg.size, nsub, noTup, resV]
    exact hR
theorem forget_noShape {n : FuncId} {args : List AV} (h : Con Tryz.prog n args ⟨0, []⟩ fun v H' => v = noShapeV ∧ H' = ⟨1, [(0, noShapeB)]⟩) (ha : leArgs [] args args) (H : Heap) : Con Tryz.prog n args H fun v H' => v = noShapeV ∧ H' = H := by
  refine Con.pure (Con.forget h ?_) ha rfl H
  rintro v H' ⟨rfl, rfl⟩
  exact ⟨_, ⟨0, []⟩, [], fun i h => absurd h (Nat.not_lt_zero i), trivial, rfl, trivial, by simp only [noShapeV, leV, leV1, leVL, leC, leSegs, leSeg, and_self], rfl, rfl⟩
def noOp (op : Int) : Prop := (op == 1) = false ∧ (op == 2) = false ∧ (op == 3) = false ∧ (op == 4) = false ∧ (op == 5) = false ∧ (op == 6) = false ∧ (op == 7) = false ∧ (op == 8) = false ∧ (op == 9) = false ∧ (op == 10) = false ∧ (op == 11) = false ∧ (op == 12) = false ∧ (op == 13) = false ∧ (op == 14) = false ∧ (op == 15) = false ∧ (op == 16) = false ∧ (op == 17) = false ∧ (op == 18) = false ∧ (op == 19) = false ∧ (op == 20) = false ∧ (op == 21) = false ∧ (op == 22) = false ∧ (op == 23) = false ∧ (op == 24) = false ∧ (op == 25) = false ∧ (op == 26) = false ∧ (op == 27) = false ∧ (op == 28) = false ∧ (op == 29) = false ∧ (op == 30) = false ∧ (op == 31) = false ∧ (op == 32) = false ∧ (op == 33) = false ∧ (op == 34) = false ∧ (op == 35) = false ∧ (op == 36) = false ∧ (op == 37) = false
theorem sh87_no (op : Int) (h : noOp op) (H : Heap) : Con Tryz.prog 87 [.c (.int .i64 op)] H (fun v H' => v = noShapeV ∧ H' = H) := by
  refine forget_noShape ?_ (by simp only [leArgs, leV, leV1, leC, and_self]) H
  unfold noOp at h
  (refine con_of_run mixed (fn := Tryz.f87) (by kernel_rfl) (by kernel_rfl) C87_ok (rs := [.cn 2 2, .tmp 3]) (by kernel_rfl) (Nat.le_of_ble_eq_true (by kernel_rfl)) ?_; unfold C87; simp only [initT])
  repeat' (first | refine run_seq ?_ | refine run_skip ?_ | (refine run_region fun K hK => ?_; (try (simp (maxSteps := 10000000) only [h, C87r0, C87r1, C87r2, C87r3, C87r4, C87r5, C87r6, C87r7, C87r8, C87r9, C87r10, C87r11, C87r12, C87r13, C87r14, C87r15, C87r16, C87r17, C87r18, C87r29, rwp_nil, rwp_cons, aop, gpath, St.get, slotAt, sfx, eqP, St.put, addBlk, getB, setB, stn, setRow, rowNeed, nsub, bin, isShift, sameK, arith, shed, Nat.beq, Seg.size, sizes, takeS, dropS, putS, partsOf, fillS, exOk, Nat.reduceAdd, List.append_nil, List.nil_append])); (repeat (first | (refine And.intro ?_ ?_; · first | trivial | assumption | omega))); with_reducible refine hK _ ?_; clear hK K) | (refine run_cond rfl (fun hc => ?_) (fun hc => ?_) <;> try (simp only [*, Bool.false_eq_true] at hc; done)) | refine run_block ?_ | refine run_ret ?_ | refine run_nil ?_ | refine run_exit ?_ | refine blk_normal ?_ | refine blk_ret ?_ | refine blk_here ?_ | refine blk_there rfl ?_)
  exact end_noShape rfl rfl rfl ⟨rfl, rfl⟩
theorem sh17_no (op : Int) (h : noOp op) (H : Heap) : Con Tryz.prog 17 [.c (.int .i64 op)] H (fun v H' => v = noShapeV ∧ H' = H) := by
  refine forget_noShape ?_ (by simp only [leArgs, leV, leV1, leC, and_self]) H
  have h' := h
  unfold noOp at h'
  (refine con_of_run mixed (fn := Tryz.f17) (by kernel_rfl) (by kernel_rfl) C17_ok (rs := [.cn 2 2, .tmp 3]) (by kernel_rfl) (Nat.le_of_ble_eq_true (by kernel_rfl)) ?_; unfold C17; simp only [initT])
  repeat' (first | refine run_seq ?_ | refine run_skip ?_ | (refine run_region fun K hK => ?_; (try (simp (maxSteps := 10000000) only [h', C17r0, C17r1, C17r2, C17r4, C17r6, C17r8, C17r10, C17r12, C17r14, C17r16, C17r18, C17r20, C17r22, C17r24, C17r26, C17r28, C17r30, C17r32, C17r34, C17r35, C17r37, C17r38, C17r40, rwp_nil, rwp_cons, aop, gpath, St.get, slotAt, sfx, eqP, St.put, addBlk, bin, isShift, sameK, arith, shed, Seg.size, sizes, appL, argsOf, ptrsOf, Nat.reduceAdd])); (repeat (first | (refine And.intro ?_ ?_; · first | trivial | assumption | omega) | ((first | (refine call_t _ (sh87_no _ h _) ?_; rintro v H' ⟨rfl, rfl⟩) | refine call_q _ (sh87_no _ h _) ?_ | refine call_g _ (imp_of (sh87_no _ h _)) ?_); simp (maxSteps := 10000000) only [noShapeV, rwp_nil, rwp_cons, rwpK_app, aop, gpath, St.get, slotAt, sfx, eqP, St.put, addBlk, getB, setB, stn, setRow, rowNeed, nsub, shed, Nat.beq, Seg.size, sizes, takeS, dropS, putS, nthA, exOk, Nat.reduceAdd, List.append_nil, List.nil_append]))); with_reducible refine hK _ ?_; clear hK K) | (refine run_cond rfl (fun hc => ?_) (fun hc => ?_) <;> try (simp only [*, Bool.false_eq_true] at hc; done)) | refine run_block ?_ | refine run_ret ?_ | refine run_nil ?_ | refine blk_normal ?_ | refine blk_ret ?_ | refine blk_here ?_ | refine blk_there rfl ?_)
  exact end_noShape rfl rfl rfl ⟨rfl, rfl⟩
end Go.Proofs.YteikpddilabppaaGreatR

namespace Go.Proofs.YteikpddilabppaaGreatR
open Go.AM
set_option maxRecDepth 100000
set_option linter.unusedSimpArgs false
set_option linter.unusedVariables false
def eqI (a i : InsnS) : Bool := (a.op == i.op && (a.sub == i.sub && (a.rd == i.rd && (a.rn == i.rn && (a.rm == i.rm && (a.ra == i.ra && (a.imm == i.imm && (a.imm2 == i.imm2 && (a.amount == i.amount && (a.shift == i.shift && (a.cond == i.cond && (a.sys == i.sys && (a.flags == i.flags && (a.minus == i.minus && (a.not_ == i.not_ && (a.link == i.link && true))))))))))))))))
def badR (v : Int) : Bool := decide (v < 0) || decide (v > 31)
def regF (i : InsnS) : Nat → Int
  | 0 => i.rd
  | 1 => i.rn
  | 2 => i.rm
  | _ => i.ra
def regsOk (i : InsnS) : Nat → Nat → Bool
  | 0, _ => true
  | m + 1, j => !badR (regF i j) && regsOk i m (j + 1)
def rightB (i : InsnS) (f : ByteArray) (ok : Bool) : Bool := eqI (onlyS i f) i && (regsOk i 4 0 && ok)
def regsB (i : InsnS) : Blk := ⟨1, some 4, fun j => [.c (.int .i64 (regF i j))], 3, true⟩
theorem regs_rows (i : InsnS) (j : Nat) (hj : j < 4) : cutD [Seg.c (.int .i64 i.rd), Seg.c (.int .i64 i.rn), Seg.c (.int .i64 i.rm), Seg.c (.int .i64 i.ra)] (j * 1) 1 = [Seg.c (.int .i64 (regF i j))] := by
  match j, hj with
  | 0, _ => rfl
  | 1, _ => rfl
  | 2, _ => rfl
  | 3, _ => rfl
theorem regs_le {l : List Nat} (i : InsnS) : leB l (regsB i) (regsB i) := ⟨rfl, rfl, id, Nat.le_refl _, fun _ _ => ⟨⟨rfl, rfl⟩, trivial⟩⟩
theorem regs_le0 {l : List Nat} (i : InsnS) : leB l ⟨1, some 4, fun j => cutD [Seg.c (.int .i64 i.rd), Seg.c (.int .i64 i.rn), Seg.c (.int .i64 i.rm), Seg.c (.int .i64 i.ra)] (j * 1) 1, 3, true⟩ (regsB i) := ⟨rfl, rfl, id, Nat.le_refl _, fun j hj => by
  show leSegs _ (cutD _ (j * 1) 1) _
  rw [regs_rows i j hj]
  exact ⟨⟨rfl, rfl⟩, trivial⟩⟩
theorem con111_at (m : Nat) (i : InsnS) (hm : m < 1000) (a b n : Nat) (X : List (Nat × Blk)) (hab : Nat.beq a b = false) (ha : getB X a = some (intsW m)) (hb : getB X b = some (slB a m true)) (hla : a < n) (hlb : b < n) (hkl : keysLt X n) : Con Tryz.prog 111 [.agg (insnL i), .c (.ptr ⟨b, 0, 0, 0⟩)] ⟨n, X⟩ (fun v H' => v = .c (.bool (inL (fun i => (i : Int)) m i.sub)) ∧ H' = ⟨n, X⟩) :=
  ro_gen (con111 m (fun i => (i : Int)) i hm) [a, b] n X rfl (by simp only [diff, notIn, hab, and_self]) ⟨hla, hlb, trivial⟩ hkl (by
    simp only [leBlks, nthO, ha, hb]
    exact ⟨⟨rfl, rfl, fun h => (by cases h), Nat.le_refl _, fun _ _ => ⟨⟨⟨rfl, rfl, rfl, rfl⟩, rfl, rfl⟩, trivial⟩⟩, ints_le m _ true, trivial⟩) (by simp only [leArgs, leV, leV1, insnL, leSegs, leSeg, leC, leA, nthO, and_self]) rfl (fun _ => rfl) rfl rfl
def rPSt (i : InsnS) (f : ByteArray) (g : FuncId) (j : Nat) : St := ⟨[⟨33, [], .c (.int .i64 j)⟩, ⟨32, [], .c (.int .i64 4)⟩, ⟨31, [], .c (.slice ⟨2, 0, 0, 0⟩ false 4)⟩, ⟨1, [], .c (.ptr ⟨0, 0, 0, 0⟩)⟩, ⟨3, [], .c (.ptr ⟨1, 0, 0, 0⟩)⟩], ⟨3, [(2, regsB i), (1, shapeB f g []), (0, insnB i)]⟩⟩
theorem right_rP (i : InsnS) (f : ByteArray) (hf : f.size < 1000) (g : FuncId) (ok : Bool) (h17 : ∀ H, Con Tryz.prog 17 [.c (.int .i64 i.op)] H (fun v H' => v = shapeV f g [] true ∧ H' = H)) (hg : ∀ H, Con Tryz.prog g [.agg (insnL i)] H (fun v H' => v = .c (.bool ok) ∧ H' = H)) : Con Tryz.prog 11 [.agg (insnL i)] ⟨0, []⟩ (fun v H' => v = .c (.bool (rightB i f ok)) ∧ H' = ⟨0, []⟩) := by
  generalize hV : rightB i f ok = V
  unfold rightB at hV
  (refine con_of_run mixed (fn := Tryz.f11) (by kernel_rfl) (by kernel_rfl) C11_ok (rs := [.tmp 2]) (by kernel_rfl) (Nat.le_of_ble_eq_true (by kernel_rfl)) ?_; unfold C11; simp only [initT])
  repeat' (first | refine run_seq ?_ | refine run_skip ?_ | (refine run_region fun K hK => ?_; (try (simp (maxSteps := 10000000) only [insnL, Bool.not_true, C11r0, C11r1, C11r2, C11r3, rwp_nil, rwp_cons, aop, gpath, St.get, slotAt, sfx, eqP, segsOf, St.put, addBlk, getB, ld1, ldn, rowNeed, segAt, nsub, un, beqb, shed, addN, Seg.size, sizes, appL, argsOf, ptrsOf, cut, takeS, dropS, Nat.reduceAdd])); (repeat (first | (refine And.intro ?_ ?_; · decide) | ((first | (refine call_t _ (h17 _) ?_; rintro v H' ⟨rfl, rfl⟩) | refine call_q _ (h17 _) ?_ | refine call_g _ (imp_of (h17 _)) ?_ | (refine call_t _ (con18 i f hf _) ?_; rintro v H' ⟨rfl, rfl⟩) | refine call_q _ (con18 i f hf _) ?_ | refine call_g _ (imp_of (con18 i f hf _)) ?_); simp (maxSteps := 10000000) only [insnL, shapeV, Bool.false_or, rwp_nil, rwp_cons, rwpK_app, aop, gpath, St.get, slotAt, sfx, eqP, St.put, addBlk, getB, setB, ldn, stn, setRow, rowNeed, nsub, sameK, getsl, selB_or, beqb, shed, Nat.beq, Seg.size, sizes, cut, takeS, dropS, putS, nthA, negIf, eqS, eqF, eqS1, exOk, Nat.reduceAdd, List.append_nil, List.nil_append]))); with_reducible refine hK _ ?_; clear hK K) | (refine run_cond rfl (fun hc => ?_) (fun hc => ?_) <;> try (simp only [*, Bool.true_eq_false, Bool.false_eq_true, Bool.not_true, Bool.not_false, Bool.true_or, Bool.or_true, Bool.false_or, Bool.or_false, Bool.false_and, Bool.and_false, bne_self_eq_false, beq_self_eq_true] at hc; done)) | refine run_block ?_ | refine run_ret ?_ | refine run_nil ?_ | refine run_exit ?_ | refine blk_normal ?_ | refine blk_ret ?_ | refine blk_here ?_ | refine blk_there rfl ?_ | refine loop_exit ?_ | refine loop_ret ?_ | refine un_exit ?_ | refine un_ret ?_ | refine unE_exit ?_ | refine unE_ret ?_ | refine un_normal ?_)
  · have he : (!eqI (onlyS i f) i) = true := hc
    have he' : eqI (onlyS i f) i = false := by simpa using he
    rw [he', Bool.false_and] at hV
    subst hV
    exact end_tmp1 rfl rfl rfl ⟨rfl, rfl⟩
  · have he : (!eqI (onlyS i f) i) = false := hc
    have he' : eqI (onlyS i f) i = true := by simpa using he
    rw [he', Bool.true_and] at hV
    clear hc he he'
    (refine run_regionL fun K hK => ?_; (try (simp (maxSteps := 10000000) only [repl, rowsFit, rowFn, C11r4, rwp_nil, rwp_cons, aop, gpath, St.get, slotAt, sfx, eqP, segsOf, St.put, addBlk, getB, ld1, rowNeed, segAt, nsub, shed, addN, Nat.beq, Seg.size, sizes, cut, takeS, dropS, putS, partsOf, fillS, Nat.reduceAdd, List.append_nil, List.nil_append, List.cons_append])); (repeat (refine And.intro ?_ ?_; · first | trivial | assumption | omega)); refine hK _ (rPSt i f g 0) ((LeS.intro [0, 1, 2] (fun i h => absurd h (Nat.not_lt_zero i)) (by simp only [diff, notIn, Nat.beq, and_self]) rfl (by simp only [rPSt, slotsLe, slotAt, leV, leV1, leC, leA, nthO, and_self, Int.natCast_zero]; decide) ⟨regs_le0 i, ⟨rfl, rfl, id, Nat.le_refl _, fun _ _ => by simp only [shapeB, leSegs, leSeg, leC, leAL, and_self]⟩, insn_le i, trivial⟩)) ?_; clear hK K)
    refine run_block ?_
    refine run_loop (fun q st => ∃ j : Nat, st = rPSt i f g j ∧ q = 4 - j ∧ j ≤ 4 ∧ (regsOk i (4 - j) j && ok) = V) 4 ⟨0, rfl, rfl, by decide, hV⟩ ?_
    clear hV
    rintro q st ⟨j, rfl, hq, hj, hT⟩
    simp only [rPSt, regsB, shapeB, insnB]
    repeat' (first | refine run_seq ?_ | refine run_skip ?_ | (refine run_region fun K hK => ?_; (try (simp (maxSteps := 10000000) only [insnL, C11r5, C11r6, C11r7, C11r8, C11r9, C11r10, rwp_nil, rwp_cons, aop, gpath, St.get, slotAt, sfx, eqP, St.put, addBlk, getB, ld1, ldn, rowNeed, segAt, nsub, bin, isShift, sameK, arith, getsl, selB_or, beqb, shed, addN, Nat.beq, Seg.size, imp, appL, argsOf, ptrsOf, cut, takeS, dropS, strOk, plusA, Nat.reduceAdd, Int.toNat_natCast])); (repeat (first | (refine And.intro ?_ ?_; · (first | decide | omega | (simp only [decide_eq_true_eq] at hc; omega))) | ((first | (refine call_t _ (hg _) ?_; rintro v H' ⟨rfl, rfl⟩) | refine call_q _ (hg _) ?_ | refine call_g _ (imp_of (hg _)) ?_); simp (maxSteps := 10000000) only [rwp_nil, rwp_cons, rwpK_app, aop, gpath, St.get, slotAt, sfx, eqP, St.put, addBlk, shed]))); with_reducible refine hK _ ?_; clear hK K) | (refine run_cond rfl (fun hc => ?_) (fun hc => ?_) <;> try (simp only [*, Bool.true_eq_false, Bool.false_eq_true, Bool.not_true, Bool.not_false, Bool.true_or, Bool.or_true, Bool.false_or, Bool.or_false, Bool.false_and, Bool.and_false, bne_self_eq_false, beq_self_eq_true] at hc; done)) | refine run_block ?_ | refine run_ret ?_ | refine run_nil ?_ | refine run_exit ?_ | refine blk_normal ?_ | refine blk_ret ?_ | refine blk_here ?_ | refine blk_there rfl ?_ | refine loop_exit ?_ | refine loop_ret ?_ | refine un_exit ?_ | refine un_ret ?_ | refine unE_exit ?_ | refine unE_ret ?_ | refine un_normal ?_)
    · have hlt : j < 4 := by have := of_decide_eq_true ‹decide ((j : Int) < 4) = true›; omega
      have hb : badR (regF i j) = true := hc
      obtain ⟨m, hm⟩ : ∃ m, 4 - j = m + 1 := ⟨3 - j, by omega⟩
      rw [hm] at hT
      unfold regsOk at hT
      rw [hb, Bool.not_true, Bool.false_and, Bool.false_and] at hT
      exact end_tmp1 rfl rfl rfl ⟨by rw [hT], rfl⟩
    · have hlt : j < 4 := by have := of_decide_eq_true ‹decide ((j : Int) < 4) = true›; omega
      have hb : badR (regF i j) = false := hc
      obtain ⟨m, hm⟩ : ∃ m, 4 - j = m + 1 := ⟨3 - j, by omega⟩
      have hw : IntKind.i64.wrap ((j : Int) + 1) = ((j + 1 : Nat) : Int) := by rw [IntKind.wrap_i64]; omega
      rw [hm] at hT
      unfold regsOk at hT
      rw [hb, Bool.not_false, Bool.true_and] at hT
      rw [hw]
      exact loop_normal m (rPSt i f g (j + 1)) (by omega) (LeS.intro [0, 1, 2] (fun i h => absurd h (Nat.not_lt_zero i)) (by simp only [diff, notIn, Nat.beq, and_self]) rfl (by simp only [rPSt, slotsLe, slotAt, leV, leV1, leC, leA, nthO, and_self]) ⟨regs_le i, ⟨rfl, rfl, id, Nat.le_refl _, fun _ _ => by simp only [shapeB, leSegs, leSeg, leC, leAL, and_self]⟩, insn_le i, trivial⟩) ⟨j + 1, rfl, by omega, by omega, by rw [show 4 - (j + 1) = m by omega]; exact hT⟩
    · have hge : ¬ j < 4 := by have := of_decide_eq_false ‹decide ((j : Int) < 4) = false›; omega
      have h0 : 4 - j = 0 := by omega
      rw [h0] at hT
      have e : ok = V := hT
      exact end_tmp1 rfl rfl rfl ⟨by rw [e], rfl⟩
def rQSt (i : InsnS) (f : ByteArray) (a : Int) (j : Nat) : St := ⟨[⟨33, [], .c (.int .i64 j)⟩, ⟨32, [], .c (.int .i64 4)⟩, ⟨31, [], .c (.slice ⟨3, 0, 0, 0⟩ false 4)⟩, ⟨1, [], .c (.ptr ⟨0, 0, 0, 0⟩)⟩, ⟨3, [], .c (.ptr ⟨2, 0, 0, 0⟩)⟩], ⟨4, [(3, regsB i), (2, shapeB f 113 [⟨1, 0, 0, 0⟩]), (1, boxW a), (0, insnB i)]⟩⟩
theorem right_rQ (i : InsnS) (f : ByteArray) (hf : f.size < 1000) (a : Int) (ha : 0 ≤ a) (h17 : ∀ n X, keysLt X n → Con Tryz.prog 17 [.c (.int .i64 i.op)] ⟨n, X⟩ (fun v H' => v = shapeV f 113 [⟨n, 0, 0, 0⟩] true ∧ H' = addBs ⟨n, X⟩ [boxW a])) : Con Tryz.prog 11 [.agg (insnL i)] ⟨0, []⟩ (fun v H' => v = .c (.bool (rightB i f (farS a i))) ∧ H' = ⟨0, []⟩) := by
  generalize hV : rightB i f (farS a i) = V
  unfold rightB at hV
  (refine con_of_run mixed (fn := Tryz.f11) (by kernel_rfl) (by kernel_rfl) C11_ok (rs := [.tmp 2]) (by kernel_rfl) (Nat.le_of_ble_eq_true (by kernel_rfl)) ?_; unfold C11; simp only [initT])
  repeat' (first | refine run_seq ?_ | refine run_skip ?_ | (refine run_region fun K hK => ?_; (try (simp (maxSteps := 10000000) only [insnL, Bool.not_true, C11r0, C11r1, C11r2, C11r3, rwp_nil, rwp_cons, aop, gpath, St.get, slotAt, sfx, eqP, segsOf, St.put, addBlk, getB, ld1, ldn, rowNeed, segAt, nsub, un, beqb, shed, addN, Seg.size, sizes, appL, argsOf, ptrsOf, cut, takeS, dropS, Nat.reduceAdd])); (repeat (first | (refine And.intro ?_ ?_; · decide) | ((first | (refine call_t _ (h17 _ _ (by simp [keysLt])) ?_; rintro v H' ⟨rfl, rfl⟩) | refine call_q _ (h17 _ _ (by simp [roL, keysLt, boxW])) ?_ | refine call_g _ (imp_of (h17 _ _ (by simp [roL, keysLt, boxW]))) ?_ | (refine call_t _ (con18 i f hf _) ?_; rintro v H' ⟨rfl, rfl⟩) | refine call_q _ (con18 i f hf _) ?_ | refine call_g _ (imp_of (con18 i f hf _)) ?_); simp (maxSteps := 10000000) only [insnL, shapeV, Bool.false_or, rwp_nil, rwp_cons, rwpK_app, aop, gpath, St.get, slotAt, sfx, eqP, St.put, addBlk, getB, setB, ldn, stn, setRow, rowNeed, nsub, sameK, getsl, selB_or, beqb, shed, Nat.beq, Seg.size, sizes, cut, takeS, dropS, putS, nthA, negIf, eqS, eqF, eqS1, exOk, Nat.reduceAdd, List.append_nil, List.nil_append, addBs]))); with_reducible refine hK _ ?_; clear hK K) | (refine run_cond rfl (fun hc => ?_) (fun hc => ?_) <;> try (simp only [*, Bool.true_eq_false, Bool.false_eq_true, Bool.not_true, Bool.not_false, Bool.true_or, Bool.or_true, Bool.false_or, Bool.or_false, Bool.false_and, Bool.and_false, bne_self_eq_false, beq_self_eq_true] at hc; done)) | refine run_block ?_ | refine run_ret ?_ | refine run_nil ?_ | refine run_exit ?_ | refine blk_normal ?_ | refine blk_ret ?_ | refine blk_here ?_ | refine blk_there rfl ?_ | refine loop_exit ?_ | refine loop_ret ?_ | refine un_exit ?_ | refine un_ret ?_ | refine unE_exit ?_ | refine unE_ret ?_ | refine un_normal ?_)
  · have he : (!eqI (onlyS i f) i) = true := hc
    have he' : eqI (onlyS i f) i = false := by simpa using he
    rw [he', Bool.false_and] at hV
    subst hV
    exact end_tmp1 rfl rfl rfl ⟨rfl, rfl⟩
  · have he : (!eqI (onlyS i f) i) = false := hc
    have he' : eqI (onlyS i f) i = true := by simpa using he
    rw [he', Bool.true_and] at hV
    clear hc he he'
    (refine run_regionL fun K hK => ?_; (try (simp (maxSteps := 10000000) only [repl, rowsFit, rowFn, C11r4, rwp_nil, rwp_cons, aop, gpath, St.get, slotAt, sfx, eqP, segsOf, St.put, addBlk, getB, ld1, rowNeed, segAt, nsub, shed, addN, Nat.beq, Seg.size, sizes, cut, takeS, dropS, putS, partsOf, fillS, Nat.reduceAdd, List.append_nil, List.nil_append, List.cons_append])); (repeat (refine And.intro ?_ ?_; · first | trivial | assumption | omega)); refine hK _ (rQSt i f a 0) ((LeS.intro [0, 1, 2, 3] (fun i h => absurd h (Nat.not_lt_zero i)) (by simp only [diff, notIn, Nat.beq, and_self]) rfl (by simp only [rQSt, slotsLe, slotAt, leV, leV1, leC, leA, nthO, and_self, Int.natCast_zero]; decide) ⟨regs_le0 i, ⟨rfl, rfl, id, Nat.le_refl _, fun _ _ => by simp only [shapeB, leSegs, leSeg, leC, leAL, leA, nthO, and_self]⟩, ⟨rfl, rfl, id, Nat.le_refl _, fun _ _ => by simp only [boxW, leSegs, leSeg, leC, and_self]⟩, insn_le i, trivial⟩)) ?_; clear hK K)
    refine run_block ?_
    refine run_loop (fun q st => ∃ j : Nat, st = rQSt i f a j ∧ q = 4 - j ∧ j ≤ 4 ∧ (regsOk i (4 - j) j && (farS a i)) = V) 4 ⟨0, rfl, rfl, by decide, hV⟩ ?_
    clear hV
    rintro q st ⟨j, rfl, hq, hj, hT⟩
    simp only [rQSt, regsB, shapeB, insnB]
    repeat' (first | refine run_seq ?_ | refine run_skip ?_ | (refine run_region fun K hK => ?_; (try (simp (maxSteps := 10000000) only [insnL, C11r5, C11r6, C11r7, C11r8, C11r9, C11r10, rwp_nil, rwp_cons, aop, gpath, St.get, slotAt, sfx, eqP, St.put, addBlk, getB, ld1, ldn, rowNeed, segAt, nsub, bin, isShift, sameK, arith, getsl, selB_or, beqb, shed, addN, Nat.beq, Seg.size, imp, appL, argsOf, ptrsOf, cut, takeS, dropS, strOk, plusA, Nat.reduceAdd, Int.toNat_natCast])); (repeat (first | (refine And.intro ?_ ?_; · (first | decide | omega | (simp only [decide_eq_true_eq] at hc; omega))) | ((first | (refine call_t _ (con113_at a i ha 1 _ _ true rfl (by decide) (by simp [keysLt])) ?_; rintro v H' ⟨rfl, rfl⟩) | refine call_q _ (con113_at a i ha 1 _ _ true rfl (by decide) (by simp [roL, keysLt, boxW])) ?_ | refine call_g _ (imp_of (con113_at a i ha 1 _ _ true rfl (by decide) (by simp [roL, keysLt, boxW]))) ?_); simp (maxSteps := 10000000) only [rwp_nil, rwp_cons, rwpK_app, aop, gpath, St.get, slotAt, sfx, eqP, St.put, addBlk, shed]))); with_reducible refine hK _ ?_; clear hK K) | (refine run_cond rfl (fun hc => ?_) (fun hc => ?_) <;> try (simp only [*, Bool.true_eq_false, Bool.false_eq_true, Bool.not_true, Bool.not_false, Bool.true_or, Bool.or_true, Bool.false_or, Bool.or_false, Bool.false_and, Bool.and_false, bne_self_eq_false, beq_self_eq_true] at hc; done)) | refine run_block ?_ | refine run_ret ?_ | refine run_nil ?_ | refine run_exit ?_ | refine blk_normal ?_ | refine blk_ret ?_ | refine blk_here ?_ | refine blk_there rfl ?_ | refine loop_exit ?_ | refine loop_ret ?_ | refine un_exit ?_ | refine un_ret ?_ | refine unE_exit ?_ | refine unE_ret ?_ | refine un_normal ?_)
    · have hlt : j < 4 := by have := of_decide_eq_true ‹decide ((j : Int) < 4) = true›; omega
      have hb : badR (regF i j) = true := hc
      obtain ⟨m, hm⟩ : ∃ m, 4 - j = m + 1 := ⟨3 - j, by omega⟩
      rw [hm] at hT
      unfold regsOk at hT
      rw [hb, Bool.not_true, Bool.false_and, Bool.false_and] at hT
      exact end_tmp1 rfl rfl rfl ⟨by rw [hT], rfl⟩
    · have hlt : j < 4 := by have := of_decide_eq_true ‹decide ((j : Int) < 4) = true›; omega
      have hb : badR (regF i j) = false := hc
      obtain ⟨m, hm⟩ : ∃ m, 4 - j = m + 1 := ⟨3 - j, by omega⟩
      have hw : IntKind.i64.wrap ((j : Int) + 1) = ((j + 1 : Nat) : Int) := by rw [IntKind.wrap_i64]; omega
      rw [hm] at hT
      unfold regsOk at hT
      rw [hb, Bool.not_false, Bool.true_and] at hT
      rw [hw]
      exact loop_normal m (rQSt i f a (j + 1)) (by omega) (LeS.intro [0, 1, 2, 3] (fun i h => absurd h (Nat.not_lt_zero i)) (by simp only [diff, notIn, Nat.beq, and_self]) rfl (by simp only [rQSt, slotsLe, slotAt, leV, leV1, leC, leA, nthO, and_self]) ⟨regs_le i, ⟨rfl, rfl, id, Nat.le_refl _, fun _ _ => by simp only [shapeB, leSegs, leSeg, leC, leAL, leA, nthO, and_self]⟩, ⟨rfl, rfl, id, Nat.le_refl _, fun _ _ => by simp only [boxW, leSegs, leSeg, leC, and_self]⟩, insn_le i, trivial⟩) ⟨j + 1, rfl, by omega, by omega, by rw [show 4 - (j + 1) = m by omega]; exact hT⟩
    · have hge : ¬ j < 4 := by have := of_decide_eq_false ‹decide ((j : Int) < 4) = false›; omega
      have h0 : 4 - j = 0 := by omega
      rw [h0] at hT
      have e : (farS a i) = V := hT
      exact end_tmp1 rfl rfl rfl ⟨by rw [e], rfl⟩
def rSSt (i : InsnS) (f : ByteArray) (c : Nat) (j : Nat) : St := ⟨[⟨33, [], .c (.int .i64 j)⟩, ⟨32, [], .c (.int .i64 4)⟩, ⟨31, [], .c (.slice ⟨4, 0, 0, 0⟩ false 4)⟩, ⟨1, [], .c (.ptr ⟨0, 0, 0, 0⟩)⟩, ⟨3, [], .c (.ptr ⟨3, 0, 0, 0⟩)⟩], ⟨5, [(4, regsB i), (3, shapeB f 111 [⟨2, 0, 0, 0⟩]), (2, slB 1 c true), (1, intsW c), (0, insnB i)]⟩⟩
theorem right_rS (i : InsnS) (f : ByteArray) (hf : f.size < 1000) (c : Nat) (hc0 : c < 1000) (h17 : ∀ n X, keysLt X n → Con Tryz.prog 17 [.c (.int .i64 i.op)] ⟨n, X⟩ (fun v H' => v = shapeV f 111 [⟨n + 1, 0, 0, 0⟩] true ∧ H' = addBs ⟨n, X⟩ [intsW c, slB n c true])) : Con Tryz.prog 11 [.agg (insnL i)] ⟨0, []⟩ (fun v H' => v = .c (.bool (rightB i f (inL (fun i => (i : Int)) c i.sub))) ∧ H' = ⟨0, []⟩) := by
  generalize hV : rightB i f (inL (fun i => (i : Int)) c i.sub) = V
  unfold rightB at hV
  (refine con_of_run mixed (fn := Tryz.f11) (by kernel_rfl) (by kernel_rfl) C11_ok (rs := [.tmp 2]) (by kernel_rfl) (Nat.le_of_ble_eq_true (by kernel_rfl)) ?_; unfold C11; simp only [initT])
  repeat' (first | refine run_seq ?_ | refine run_skip ?_ | (refine run_region fun K hK => ?_; (try (simp (maxSteps := 10000000) only [insnL, Bool.not_true, C11r0, C11r1, C11r2, C11r3, rwp_nil, rwp_cons, aop, gpath, St.get, slotAt, sfx, eqP, segsOf, St.put, addBlk, getB, ld1, ldn, rowNeed, segAt, nsub, un, beqb, shed, addN, Seg.size, sizes, appL, argsOf, ptrsOf, cut, takeS, dropS, Nat.reduceAdd])); (repeat (first | (refine And.intro ?_ ?_; · decide) | ((first | (refine call_t _ (h17 _ _ (by simp [keysLt])) ?_; rintro v H' ⟨rfl, rfl⟩) | refine call_q _ (h17 _ _ (by simp [roL, keysLt, boxW])) ?_ | refine call_g _ (imp_of (h17 _ _ (by simp [roL, keysLt, boxW]))) ?_ | (refine call_t _ (con18 i f hf _) ?_; rintro v H' ⟨rfl, rfl⟩) | refine call_q _ (con18 i f hf _) ?_ | refine call_g _ (imp_of (con18 i f hf _)) ?_); simp (maxSteps := 10000000) only [insnL, shapeV, Bool.false_or, rwp_nil, rwp_cons, rwpK_app, aop, gpath, St.get, slotAt, sfx, eqP, St.put, addBlk, getB, setB, ldn, stn, setRow, rowNeed, nsub, sameK, getsl, selB_or, beqb, shed, Nat.beq, Seg.size, sizes, cut, takeS, dropS, putS, nthA, negIf, eqS, eqF, eqS1, exOk, Nat.reduceAdd, List.append_nil, List.nil_append, addBs]))); with_reducible refine hK _ ?_; clear hK K) | (refine run_cond rfl (fun hc => ?_) (fun hc => ?_) <;> try (simp only [*, Bool.true_eq_false, Bool.false_eq_true, Bool.not_true, Bool.not_false, Bool.true_or, Bool.or_true, Bool.false_or, Bool.or_false, Bool.false_and, Bool.and_false, bne_self_eq_false, beq_self_eq_true] at hc; done)) | refine run_block ?_ | refine run_ret ?_ | refine run_nil ?_ | refine run_exit ?_ | refine blk_normal ?_ | refine blk_ret ?_ | refine blk_here ?_ | refine blk_there rfl ?_ | refine loop_exit ?_ | refine loop_ret ?_ | refine un_exit ?_ | refine un_ret ?_ | refine unE_exit ?_ | refine unE_ret ?_ | refine un_normal ?_)
  · have he : (!eqI (onlyS i f) i) = true := hc
    have he' : eqI (onlyS i f) i = false := by simpa using he
    rw [he', Bool.false_and] at hV
    subst hV
    exact end_tmp1 rfl rfl rfl ⟨rfl, rfl⟩
  · have he : (!eqI (onlyS i f) i) = false := hc
    have he' : eqI (onlyS i f) i = true := by simpa using he
    rw [he', Bool.true_and] at hV
    clear hc he he'
    (refine run_regionL fun K hK => ?_; (try (simp (maxSteps := 10000000) only [repl, rowsFit, rowFn, C11r4, rwp_nil, rwp_cons, aop, gpath, St.get, slotAt, sfx, eqP, segsOf, St.put, addBlk, getB, ld1, rowNeed, segAt, nsub, shed, addN, Nat.beq, Seg.size, sizes, cut, takeS, dropS, putS, partsOf, fillS, Nat.reduceAdd, List.append_nil, List.nil_append, List.cons_append])); (repeat (refine And.intro ?_ ?_; · first | trivial | assumption | omega)); refine hK _ (rSSt i f c 0) ((LeS.intro [0, 1, 2, 3, 4] (fun i h => absurd h (Nat.not_lt_zero i)) (by simp only [diff, notIn, Nat.beq, and_self]) rfl (by simp only [rSSt, slotsLe, slotAt, leV, leV1, leC, leA, nthO, and_self, Int.natCast_zero]; decide) ⟨regs_le0 i, ⟨rfl, rfl, id, Nat.le_refl _, fun _ _ => by simp only [shapeB, leSegs, leSeg, leC, leAL, leA, nthO, and_self]⟩, ⟨rfl, rfl, id, Nat.le_refl _, fun _ _ => by simp only [slB, leSegs, leSeg, leC, leA, nthO, and_self]⟩, ⟨rfl, rfl, id, Nat.le_refl _, fun _ _ => by simp only [intsW, leSegs, leSeg, leC, and_self]⟩, insn_le i, trivial⟩)) ?_; clear hK K)
    refine run_block ?_
    refine run_loop (fun q st => ∃ j : Nat, st = rSSt i f c j ∧ q = 4 - j ∧ j ≤ 4 ∧ (regsOk i (4 - j) j && (inL (fun i => (i : Int)) c i.sub)) = V) 4 ⟨0, rfl, rfl, by decide, hV⟩ ?_
    clear hV
    rintro q st ⟨j, rfl, hq, hj, hT⟩
    simp only [rSSt, regsB, shapeB, insnB]
    repeat' (first | refine run_seq ?_ | refine run_skip ?_ | (refine run_region fun K hK => ?_; (try (simp (maxSteps := 10000000) only [insnL, C11r5, C11r6, C11r7, C11r8, C11r9, C11r10, rwp_nil, rwp_cons, aop, gpath, St.get, slotAt, sfx, eqP, St.put, addBlk, getB, ld1, ldn, rowNeed, segAt, nsub, bin, isShift, sameK, arith, getsl, selB_or, beqb, shed, addN, Nat.beq, Seg.size, imp, appL, argsOf, ptrsOf, cut, takeS, dropS, strOk, plusA, Nat.reduceAdd, Int.toNat_natCast])); (repeat (first | (refine And.intro ?_ ?_; · (first | decide | omega | (simp only [decide_eq_true_eq] at hc; omega))) | ((first | (refine call_t _ (con111_at c i hc0 1 2 _ _ rfl rfl rfl (by decide) (by decide) (by simp [keysLt])) ?_; rintro v H' ⟨rfl, rfl⟩) | refine call_q _ (con111_at c i hc0 1 2 _ _ rfl rfl rfl (by decide) (by decide) (by simp [roL, keysLt, boxW])) ?_ | refine call_g _ (imp_of (con111_at c i hc0 1 2 _ _ rfl rfl rfl (by decide) (by decide) (by simp [roL, keysLt, boxW]))) ?_); simp (maxSteps := 10000000) only [rwp_nil, rwp_cons, rwpK_app, aop, gpath, St.get, slotAt, sfx, eqP, St.put, addBlk, shed]))); with_reducible refine hK _ ?_; clear hK K) | (refine run_cond rfl (fun hc => ?_) (fun hc => ?_) <;> try (simp only [*, Bool.true_eq_false, Bool.false_eq_true, Bool.not_true, Bool.not_false, Bool.true_or, Bool.or_true, Bool.false_or, Bool.or_false, Bool.false_and, Bool.and_false, bne_self_eq_false, beq_self_eq_true] at hc; done)) | refine run_block ?_ | refine run_ret ?_ | refine run_nil ?_ | refine run_exit ?_ | refine blk_normal ?_ | refine blk_ret ?_ | refine blk_here ?_ | refine blk_there rfl ?_ | refine loop_exit ?_ | refine loop_ret ?_ | refine un_exit ?_ | refine un_ret ?_ | refine unE_exit ?_ | refine unE_ret ?_ | refine un_normal ?_)
    · have hlt : j < 4 := by have := of_decide_eq_true ‹decide ((j : Int) < 4) = true›; omega
      have hb : badR (regF i j) = true := hc
      obtain ⟨m, hm⟩ : ∃ m, 4 - j = m + 1 := ⟨3 - j, by omega⟩
      rw [hm] at hT
      unfold regsOk at hT
      rw [hb, Bool.not_true, Bool.false_and, Bool.false_and] at hT
      exact end_tmp1 rfl rfl rfl ⟨by rw [hT], rfl⟩
    · have hlt : j < 4 := by have := of_decide_eq_true ‹decide ((j : Int) < 4) = true›; omega
      have hb : badR (regF i j) = false := hc
      obtain ⟨m, hm⟩ : ∃ m, 4 - j = m + 1 := ⟨3 - j, by omega⟩
      have hw : IntKind.i64.wrap ((j : Int) + 1) = ((j + 1 : Nat) : Int) := by rw [IntKind.wrap_i64]; omega
      rw [hm] at hT
      unfold regsOk at hT
      rw [hb, Bool.not_false, Bool.true_and] at hT
      rw [hw]
      exact loop_normal m (rSSt i f c (j + 1)) (by omega) (LeS.intro [0, 1, 2, 3, 4] (fun i h => absurd h (Nat.not_lt_zero i)) (by simp only [diff, notIn, Nat.beq, and_self]) rfl (by simp only [rSSt, slotsLe, slotAt, leV, leV1, leC, leA, nthO, and_self]) ⟨regs_le i, ⟨rfl, rfl, id, Nat.le_refl _, fun _ _ => by simp only [shapeB, leSegs, leSeg, leC, leAL, leA, nthO, and_self]⟩, ⟨rfl, rfl, id, Nat.le_refl _, fun _ _ => by simp only [slB, leSegs, leSeg, leC, leA, nthO, and_self]⟩, ⟨rfl, rfl, id, Nat.le_refl _, fun _ _ => by simp only [intsW, leSegs, leSeg, leC, and_self]⟩, insn_le i, trivial⟩) ⟨j + 1, rfl, by omega, by omega, by rw [show 4 - (j + 1) = m by omega]; exact hT⟩
    · have hge : ¬ j < 4 := by have := of_decide_eq_false ‹decide ((j : Int) < 4) = false›; omega
      have h0 : 4 - j = 0 := by omega
      rw [h0] at hT
      have e : (inL (fun i => (i : Int)) c i.sub) = V := hT
      exact end_tmp1 rfl rfl rfl ⟨by rw [e], rfl⟩
noncomputable def rightI (i : InsnS) : Bool := if i.op = 1 then rightB i ⟨#[100, 110, 105, 107, 70, 77]⟩ (addImmOk i) else (if i.op = 2 then rightB i ⟨#[100, 110, 109, 116, 107, 70, 77]⟩ (addRegOk i) else (if i.op = 3 then rightB i ⟨#[100, 110, 109, 115, 116, 107, 70, 78]⟩ (logRegOk i) else (if i.op = 4 then rightB i ⟨#[100, 110, 115, 107, 105, 106, 70]⟩ (logImmOk i) else (if i.op = 5 then rightB i ⟨#[100, 115, 105, 107]⟩ (movWideOk i) else (if i.op = 6 then rightB i ⟨#[100, 110, 115, 105, 106]⟩ (bitfieldOk i) else (if i.op = 7 then rightB i ⟨#[100, 110, 109, 115]⟩ (inL (fun i => (i : Int)) 4 i.sub) else (if i.op = 8 then rightB i ⟨#[100, 110, 109, 97, 77]⟩ (noneOk i) else (if i.op = 9 then rightB i ⟨#[100, 110, 109, 115]⟩ (inL (fun i => (i : Int)) 2 i.sub) else (if i.op = 10 then rightB i ⟨#[100, 110, 109, 115, 99]⟩ (selOk i) else (if i.op = 11 then rightB i ⟨#[100, 115, 105]⟩ (adrOk i) else (if i.op = 12 then rightB i ⟨#[105, 76]⟩ (farS 27 i) else (if i.op = 13 then rightB i ⟨#[99, 105]⟩ (bCondOk i) else (if i.op = 14 then rightB i ⟨#[100, 105, 78]⟩ (farS 20 i) else (if i.op = 15 then rightB i ⟨#[100, 105, 107, 78]⟩ (tbzOk i) else (if i.op = 16 then rightB i ⟨#[110, 115]⟩ (inL (fun i => (i : Int)) 3 i.sub) else (if i.op = 17 then rightB i ⟨#[100, 110, 105]⟩ (ldrOk i) else (if i.op = 18 then rightB i ⟨#[100, 110, 105]⟩ (ldrOk i) else (if i.op = 19 then rightB i ⟨#[100, 110, 109, 107]⟩ (ldrRegOk i) else (if i.op = 20 then rightB i ⟨#[100, 110, 109, 107]⟩ (ldrRegOk i) else (if i.op = 21 then rightB i ⟨#[100, 110, 115]⟩ (inL (fun i => (i : Int)) 2 i.sub) else (if i.op = 22 then rightB i ⟨#[100, 110]⟩ (noneOk i) else (if i.op = 23 then rightB i ⟨#[100, 110, 115]⟩ (inL (fun i => (i : Int)) 2 i.sub) else (if i.op = 24 then rightB i ⟨#[100, 110, 109, 115]⟩ (inL (fun i => (i : Int)) 2 i.sub) else (if i.op = 25 then rightB i ⟨#[]⟩ (noneOk i) else (if i.op = 26 then rightB i ⟨#[115, 105]⟩ (dmbOk i) else (if i.op = 27 then rightB i ⟨#[]⟩ (noneOk i) else (if i.op = 28 then rightB i ⟨#[100]⟩ (noneOk i) else (if i.op = 29 then rightB i ⟨#[]⟩ (noneOk i) else (if i.op = 30 then rightB i ⟨#[100]⟩ (noneOk i) else (if i.op = 31 then rightB i ⟨#[100, 121]⟩ (sysOk i) else (if i.op = 32 then rightB i ⟨#[100, 121]⟩ (sysOk i) else (if i.op = 33 then rightB i ⟨#[115, 105]⟩ (msrMaskOk i) else (if i.op = 34 then rightB i ⟨#[105]⟩ (svcOk i) else (if i.op = 35 then rightB i ⟨#[105]⟩ (svcOk i) else (if i.op = 36 then rightB i ⟨#[]⟩ (noneOk i) else (if i.op = 37 then rightB i ⟨#[105]⟩ (hintOk i) else (false)))))))))))))))))))))))))))))))))))))
theorem right_no (i : InsnS) (h : noOp i.op) : Con Tryz.prog 11 [.agg (insnL i)] ⟨0, []⟩ (fun v H' => v = .c (.bool false) ∧ H' = ⟨0, []⟩) := by
  (refine con_of_run mixed (fn := Tryz.f11) (by kernel_rfl) (by kernel_rfl) C11_ok (rs := [.tmp 2]) (by kernel_rfl) (Nat.le_of_ble_eq_true (by kernel_rfl)) ?_; unfold C11; simp only [initT])
  repeat' (first | refine run_seq ?_ | refine run_skip ?_ | (refine run_region fun K hK => ?_; (try (simp (maxSteps := 10000000) only [insnL, Bool.not_false, C11r0, C11r1, C11r2, C11r3, rwp_nil, rwp_cons, aop, gpath, St.get, slotAt, sfx, eqP, segsOf, St.put, addBlk, getB, ld1, ldn, rowNeed, segAt, nsub, un, beqb, shed, addN, Seg.size, sizes, appL, argsOf, ptrsOf, cut, takeS, dropS, Nat.reduceAdd])); (repeat (first | (refine And.intro ?_ ?_; · (intros; first | assumption | trivial | contradiction | omega)) | ((first | (refine call_t _ (sh17_no _ h _) ?_; rintro v H' ⟨rfl, rfl⟩) | refine call_q _ (sh17_no _ h _) ?_ | refine call_g _ (imp_of (sh17_no _ h _)) ?_ | (refine call_t _ (con18 i ⟨#[]⟩ (by decide) _) ?_; rintro v H' ⟨rfl, rfl⟩) | refine call_q _ (con18 i ⟨#[]⟩ (by decide) _) ?_ | refine call_g _ (imp_of (con18 i ⟨#[]⟩ (by decide) _)) ?_); simp (maxSteps := 10000000) only [insnL, noShapeV, Bool.true_or, rwp_nil, rwp_cons, rwpK_app, aop, gpath, St.get, slotAt, sfx, eqP, St.put, addBlk, getB, setB, ldn, stn, setRow, rowNeed, nsub, sameK, getsl, selB_or, beqb, shed, Nat.beq, Seg.size, sizes, cut, takeS, dropS, putS, nthA, negIf, eqS, eqF, eqS1, exOk, Nat.reduceAdd, List.append_nil, List.nil_append]))); with_reducible refine hK _ ?_; clear hK K) | (refine run_cond rfl (fun hc => ?_) (fun hc => ?_) <;> try (simp only [*, Bool.true_eq_false] at hc; done)) | refine run_block ?_ | refine run_ret ?_ | refine run_nil ?_ | refine run_exit ?_ | refine blk_normal ?_ | refine blk_ret ?_ | refine blk_here ?_ | refine blk_there rfl ?_ | refine loop_exit ?_ | refine loop_ret ?_ | refine un_exit ?_ | refine un_ret ?_ | refine unE_exit ?_ | refine unE_ret ?_ | refine un_normal ?_)
  exact end_tmp1 rfl rfl rfl ⟨rfl, rfl⟩
theorem con11 (i : InsnS) (H : Heap) : Con Tryz.prog 11 [.agg (insnL i)] H (fun v H' => v = .c (.bool (rightI i)) ∧ H' = H) := by
  refine Con.pure ?_ (by simp only [leArgs, leV, leV1, insnL, leSegs, leSeg, leC, and_self]) rfl H
  unfold rightI
  by_cases h1 : i.op = 1
  · rw [if_pos h1]
    exact right_rP i _ (by decide) 69 _ (fun H => by rw [h1]; exact sh17_1 H) (con69 i)
  rw [if_neg h1]
  by_cases h2 : i.op = 2
  · rw [if_pos h2]
    exact right_rP i _ (by decide) 71 _ (fun H => by rw [h2]; exact sh17_2 H) (con71 i)
  rw [if_neg h2]
  by_cases h3 : i.op = 3
  · rw [if_pos h3]
    exact right_rP i _ (by decide) 72 _ (fun H => by rw [h3]; exact sh17_3 H) (con72 i)
  rw [if_neg h3]
  by_cases h4 : i.op = 4
  · rw [if_pos h4]
    exact right_rP i _ (by decide) 74 _ (fun H => by rw [h4]; exact sh17_4 H) (con74 i)
  rw [if_neg h4]
  by_cases h5 : i.op = 5
  · rw [if_pos h5]
    exact right_rP i _ (by decide) 76 _ (fun H => by rw [h5]; exact sh17_5 H) (con76 i)
  rw [if_neg h5]
  by_cases h6 : i.op = 6
  · rw [if_pos h6]
    exact right_rP i _ (by decide) 77 _ (fun H => by rw [h6]; exact sh17_6 H) (con77 i)
  rw [if_neg h6]
  by_cases h7 : i.op = 7
  · rw [if_pos h7]
    exact right_rS i _ (by decide) 4 (by decide) (fun n X hX => by rw [h7]; exact sh17_7 n X hX)
  rw [if_neg h7]
  by_cases h8 : i.op = 8
  · rw [if_pos h8]
    exact right_rP i _ (by decide) 79 _ (fun H => by rw [h8]; exact sh17_8 H) (con79 i)
  rw [if_neg h8]
  by_cases h9 : i.op = 9
  · rw [if_pos h9]
    exact right_rS i _ (by decide) 2 (by decide) (fun n X hX => by rw [h9]; exact sh17_9 n X hX)
  rw [if_neg h9]
  by_cases h10 : i.op = 10
  · rw [if_pos h10]
    exact right_rP i _ (by decide) 80 _ (fun H => by rw [h10]; exact sh17_10 H) (con80 i)
  rw [if_neg h10]
  by_cases h11 : i.op = 11
  · rw [if_pos h11]
    exact right_rP i _ (by decide) 81 _ (fun H => by rw [h11]; exact sh17_11 H) (con81 i)
  rw [if_neg h11]
  by_cases h12 : i.op = 12
  · rw [if_pos h12]
    exact right_rQ i _ (by decide) 27 (by decide) (fun n X hX => by rw [h12]; exact sh17_12 n X hX)
  rw [if_neg h12]
  by_cases h13 : i.op = 13
  · rw [if_pos h13]
    exact right_rP i _ (by decide) 83 _ (fun H => by rw [h13]; exact sh17_13 H) (con83 i)
  rw [if_neg h13]
  by_cases h14 : i.op = 14
  · rw [if_pos h14]
    exact right_rQ i _ (by decide) 20 (by decide) (fun n X hX => by rw [h14]; exact sh17_14 n X hX)
  rw [if_neg h14]
  by_cases h15 : i.op = 15
  · rw [if_pos h15]
    exact right_rP i _ (by decide) 84 _ (fun H => by rw [h15]; exact sh17_15 H) (con84 i)
  rw [if_neg h15]
  by_cases h16 : i.op = 16
  · rw [if_pos h16]
    exact right_rS i _ (by decide) 3 (by decide) (fun n X hX => by rw [h16]; exact sh17_16 n X hX)
  rw [if_neg h16]
  by_cases h17 : i.op = 17
  · rw [if_pos h17]
    exact right_rP i _ (by decide) 85 _ (fun H => by rw [h17]; exact sh17_17 H) (con85 i)
  rw [if_neg h17]
  by_cases h18 : i.op = 18
  · rw [if_pos h18]
    exact right_rP i _ (by decide) 85 _ (fun H => by rw [h18]; exact sh17_18 H) (con85 i)
  rw [if_neg h18]
  by_cases h19 : i.op = 19
  · rw [if_pos h19]
    exact right_rP i _ (by decide) 86 _ (fun H => by rw [h19]; exact sh17_19 H) (con86 i)
  rw [if_neg h19]
  by_cases h20 : i.op = 20
  · rw [if_pos h20]
    exact right_rP i _ (by decide) 86 _ (fun H => by rw [h20]; exact sh17_20 H) (con86 i)
  rw [if_neg h20]
  by_cases h21 : i.op = 21
  · rw [if_pos h21]
    exact right_rS i _ (by decide) 2 (by decide) (fun n X hX => by rw [h21]; exact sh17_21 n X hX)
  rw [if_neg h21]
  by_cases h22 : i.op = 22
  · rw [if_pos h22]
    exact right_rP i _ (by decide) 79 _ (fun H => by rw [h22]; exact sh17_22 H) (con79 i)
  rw [if_neg h22]
  by_cases h23 : i.op = 23
  · rw [if_pos h23]
    exact right_rS i _ (by decide) 2 (by decide) (fun n X hX => by rw [h23]; exact sh17_23 n X hX)
  rw [if_neg h23]
  by_cases h24 : i.op = 24
  · rw [if_pos h24]
    exact right_rS i _ (by decide) 2 (by decide) (fun n X hX => by rw [h24]; exact sh17_24 n X hX)
  rw [if_neg h24]
  by_cases h25 : i.op = 25
  · rw [if_pos h25]
    exact right_rP i _ (by decide) 79 _ (fun H => by rw [h25]; exact sh17_25 H) (con79 i)
  rw [if_neg h25]
  by_cases h26 : i.op = 26
  · rw [if_pos h26]
    exact right_rP i _ (by decide) 114 _ (fun H => by rw [h26]; exact sh17_26 H) (con114 i)
  rw [if_neg h26]
  by_cases h27 : i.op = 27
  · rw [if_pos h27]
    exact right_rP i _ (by decide) 79 _ (fun H => by rw [h27]; exact sh17_27 H) (con79 i)
  rw [if_neg h27]
  by_cases h28 : i.op = 28
  · rw [if_pos h28]
    exact right_rP i _ (by decide) 79 _ (fun H => by rw [h28]; exact sh17_28 H) (con79 i)
  rw [if_neg h28]
  by_cases h29 : i.op = 29
  · rw [if_pos h29]
    exact right_rP i _ (by decide) 79 _ (fun H => by rw [h29]; exact sh17_29 H) (con79 i)
  rw [if_neg h29]
  by_cases h30 : i.op = 30
  · rw [if_pos h30]
    exact right_rP i _ (by decide) 79 _ (fun H => by rw [h30]; exact sh17_30 H) (con79 i)
  rw [if_neg h30]
  by_cases h31 : i.op = 31
  · rw [if_pos h31]
    exact right_rP i _ (by decide) 115 _ (fun H => by rw [h31]; exact sh17_31 H) (con115 i)
  rw [if_neg h31]
  by_cases h32 : i.op = 32
  · rw [if_pos h32]
    exact right_rP i _ (by decide) 115 _ (fun H => by rw [h32]; exact sh17_32 H) (con115 i)
  rw [if_neg h32]
  by_cases h33 : i.op = 33
  · rw [if_pos h33]
    exact right_rP i _ (by decide) 117 _ (fun H => by rw [h33]; exact sh17_33 H) (con117 i)
  rw [if_neg h33]
  by_cases h34 : i.op = 34
  · rw [if_pos h34]
    exact right_rP i _ (by decide) 118 _ (fun H => by rw [h34]; exact sh17_34 H) (con118 i)
  rw [if_neg h34]
  by_cases h35 : i.op = 35
  · rw [if_pos h35]
    exact right_rP i _ (by decide) 118 _ (fun H => by rw [h35]; exact sh17_35 H) (con118 i)
  rw [if_neg h35]
  by_cases h36 : i.op = 36
  · rw [if_pos h36]
    exact right_rP i _ (by decide) 79 _ (fun H => by rw [h36]; exact sh17_36 H) (con79 i)
  rw [if_neg h36]
  by_cases h37 : i.op = 37
  · rw [if_pos h37]
    exact right_rP i _ (by decide) 119 _ (fun H => by rw [h37]; exact sh17_37 H) (con119 i)
  rw [if_neg h37]
  exact right_no i (by simp only [noOp, beq_eq_false_iff_ne, ne_eq]; exact ⟨h1, h2, h3, h4, h5, h6, h7, h8, h9, h10, h11, h12, h13, h14, h15, h16, h17, h18, h19, h20, h21, h22, h23, h24, h25, h26, h27, h28, h29, h30, h31, h32, h33, h34, h35, h36, h37⟩)
end Go.Proofs.YteikpddilabppaaGreatR

namespace Go.Proofs.YteikpddilabppaaGreatR
open Go.AM
set_option maxRecDepth 100000
set_option linter.unusedSimpArgs false
set_option linter.unusedVariables false
def formRow1 (i : Nat) : List Seg := [.c (.int .i64 (fOp i)), .c (.int .i64 (fSub i)), .c (.int .u32 (fMask i)), .c (.int .u32 (fBase i)), .c (.fn (fPut i) [] (mapAL (gId [] 1) (fPutC i))), .c (.fn (fTake i) [] (mapAL (gId [] 1) (fTakeC i)))]
def formB1 : Blk := ⟨6, some 40, formRow1, 42, true⟩
def Y1 (B0 : Blk) : List (Nat × Blk) := (63, formB1) :: [(62, boxW (boxV 61)), (61, boxW (boxV 60)), (60, boxW (boxV 59)), (59, boxW (boxV 58)), (58, boxW (boxV 57)), (57, boxW (boxV 56)), (56, boxW (boxV 55)), (55, boxW (boxV 54)), (54, boxW (boxV 53)), (53, boxW (boxV 52)), (52, boxW (boxV 51)), (51, boxW (boxV 50)), (50, boxW (boxV 49)), (49, boxW (boxV 48)), (48, boxW (boxV 47)), (47, boxW (boxV 46)), (46, boxW (boxV 45)), (45, boxW (boxV 44)), (44, boxW (boxV 43)), (43, boxW (boxV 42)), (42, boxW (boxV 41)), (41, boxW (boxV 40)), (40, boxW (boxV 39)), (39, boxW (boxV 38)), (38, boxW (boxV 37)), (37, boxW (boxV 36)), (36, boxW (boxV 35)), (35, boxW (boxV 34)), (34, boxW (boxV 33)), (33, boxW (boxV 32)), (32, boxW (boxV 31)), (31, boxW (boxV 30)), (30, boxW (boxV 29)), (29, boxW (boxV 28)), (28, boxW (boxV 27)), (27, boxW (boxV 26)), (26, boxW (boxV 25)), (25, boxW (boxV 24)), (24, boxW (boxV 23)), (23, boxW (boxV 22)), (22, boxW (boxV 21)), (21, boxW (boxV 20)), (20, boxW (boxV 19)), (19, boxW (boxV 18)), (18, boxW (boxV 17)), (17, boxW (boxV 16)), (16, boxW (boxV 15)), (15, boxW (boxV 14)), (14, boxW (boxV 13)), (13, boxW (boxV 12)), (12, boxW (boxV 11)), (11, boxW (boxV 10)), (10, boxW (boxV 9)), (9, boxW (boxV 8)), (8, boxW (boxV 7)), (7, boxW (boxV 6)), (6, boxW (boxV 5)), (5, boxW (boxV 4)), (4, boxW (boxV 3)), (3, boxW (boxV 2)), (2, boxW (boxV 1)), (1, boxW (boxV 0)), (0, B0)]
theorem framed_Y1 (B0 : Blk) : framed ⟨0, []⟩ ⟨1, [(0, B0)]⟩ [] ⟨63, formsW⟩ = ⟨64, Y1 B0⟩ := rfl
theorem con12_1 (B0 : Blk) : Con Tryz.prog 12 [] ⟨1, [(0, B0)]⟩ (fun v H' => v = .c (.slice ⟨63, 0, 0, 0⟩ false 40) ∧ H' = ⟨64, Y1 B0⟩) := by
  refine (con12.frame (H := ⟨1, [(0, B0)]⟩) (args := []) [] rfl trivial trivial ⟨Nat.zero_lt_one, trivial⟩ trivial (by simp only [leArgs])).weaken ?_
  rintro v H' ⟨v0, H0', ⟨rfl, rfl⟩, rfl, rfl⟩
  exact ⟨rfl, framed_Y1 B0⟩
theorem Y1_forms (B0 : Blk) : getB (Y1 B0) 63 = some formB1 := rfl
theorem Y1_0 (B0 : Blk) : getB (Y1 B0) 0 = some B0 := rfl
theorem Y1_box (B0 : Blk) : ∀ k, k < 62 → getB (Y1 B0) (k + 1) = some (boxW (boxV k))
  | 0, _ => rfl
  | 1, _ => rfl
  | 2, _ => rfl
  | 3, _ => rfl
  | 4, _ => rfl
  | 5, _ => rfl
  | 6, _ => rfl
  | 7, _ => rfl
  | 8, _ => rfl
  | 9, _ => rfl
  | 10, _ => rfl
  | 11, _ => rfl
  | 12, _ => rfl
  | 13, _ => rfl
  | 14, _ => rfl
  | 15, _ => rfl
  | 16, _ => rfl
  | 17, _ => rfl
  | 18, _ => rfl
  | 19, _ => rfl
  | 20, _ => rfl
  | 21, _ => rfl
  | 22, _ => rfl
  | 23, _ => rfl
  | 24, _ => rfl
  | 25, _ => rfl
  | 26, _ => rfl
  | 27, _ => rfl
  | 28, _ => rfl
  | 29, _ => rfl
  | 30, _ => rfl
  | 31, _ => rfl
  | 32, _ => rfl
  | 33, _ => rfl
  | 34, _ => rfl
  | 35, _ => rfl
  | 36, _ => rfl
  | 37, _ => rfl
  | 38, _ => rfl
  | 39, _ => rfl
  | 40, _ => rfl
  | 41, _ => rfl
  | 42, _ => rfl
  | 43, _ => rfl
  | 44, _ => rfl
  | 45, _ => rfl
  | 46, _ => rfl
  | 47, _ => rfl
  | 48, _ => rfl
  | 49, _ => rfl
  | 50, _ => rfl
  | 51, _ => rfl
  | 52, _ => rfl
  | 53, _ => rfl
  | 54, _ => rfl
  | 55, _ => rfl
  | 56, _ => rfl
  | 57, _ => rfl
  | 58, _ => rfl
  | 59, _ => rfl
  | 60, _ => rfl
  | 61, _ => rfl
  | n + 62, h => absurd h (by omega)
def ids64 : List Nat := [0, 1, 2, 3, 4, 5, 6, 7, 8, 9, 10, 11, 12, 13, 14, 15, 16, 17, 18, 19, 20, 21, 22, 23, 24, 25, 26, 27, 28, 29, 30, 31, 32, 33, 34, 35, 36, 37, 38, 39, 40, 41, 42, 43, 44, 45, 46, 47, 48, 49, 50, 51, 52, 53, 54, 55, 56, 57, 58, 59, 60, 61, 62, 63]
theorem diff64 : diff ids64 := by simp only [ids64, diff, notIn, Nat.beq, and_self]
theorem ids64_fin : ∀ i : Fin 64, nthO ids64 i.val = some i.val := by decide
theorem ids64_at (i : Nat) (h : i < 64) : nthO ids64 i = some i := ids64_fin ⟨i, h⟩
theorem ids64_lt : ∀ {i j : Nat}, nthO ids64 i = some j → j < 64 := fun {i j} => allLt_get (l := ids64) (n := 64) (by simp only [ids64, allLt]; simp)
theorem form_ids1 : ∀ i : Fin 40, ((mapAL (gId [] 1) (fPutC i.val)).all fun a => decide (a.id < 63)) = true ∧ ((mapAL (gId [] 1) (fTakeC i.val)).all fun a => decide (a.id < 63)) = true := by decide
theorem form_leSegs1 (i : Nat) (h : i < 40) : leSegs ids64 (formRow1 i) (formRow1 i) := by
  obtain ⟨h1, h2⟩ := form_ids1 ⟨i, h⟩
  have q1 : leAL ids64 (mapAL (gId [] 1) (fPutC i)) (mapAL (gId [] 1) (fPutC i)) := leAL_refl fun a ha => ids64_at _ (by have := of_decide_eq_true (List.all_eq_true.1 h1 a ha); omega)
  have q2 : leAL ids64 (mapAL (gId [] 1) (fTakeC i)) (mapAL (gId [] 1) (fTakeC i)) := leAL_refl fun a ha => ids64_at _ (by have := of_decide_eq_true (List.all_eq_true.1 h2 a ha); omega)
  exact ⟨⟨rfl, rfl⟩, ⟨rfl, rfl⟩, ⟨rfl, rfl⟩, ⟨rfl, rfl⟩, ⟨rfl, trivial, q1⟩, ⟨rfl, trivial, q2⟩, trivial⟩
theorem Y1_le (B0 : Blk) (h0 : leB ids64 B0 B0) : leBlks ids64 (Y1 B0) (Y1 B0) := by
  unfold Y1
  simp only [leBlks, ids64, nthO, getB]
  refine ⟨⟨rfl, rfl, id, Nat.le_refl _, fun i hi => form_leSegs1 i hi⟩, ?_⟩
  repeat' (first | exact trivial | exact ⟨h0, trivial⟩ | refine And.intro (box_leW _ _ _ (.inr rfl) rfl) ?_)
theorem leBlks_more {H : List (Nat × Blk)} {i : Nat} {C : Blk} (hi : 64 ≤ i) : ∀ {B : List (Nat × Blk)}, leBlks ids64 H B → leBlks ids64 ((i, C) :: H) B
  | [], _ => trivial
  | (k, B') :: r, h => by
    refine ⟨?_, leBlks_more hi h.2⟩
    have h1 := h.1
    cases hn : nthO ids64 k with
    | none => trivial
    | some j =>
      simp only [hn] at h1
      have hj := ids64_lt hn
      have hb : Nat.beq i j = false := by
        cases hb : Nat.beq i j with
        | false => rfl
        | true => exact absurd (Nat.eq_of_beq_eq_true hb) (by omega)
      simp only [getB, hb]
      exact h1
end Go.Proofs.YteikpddilabppaaGreatR

namespace Go.Proofs.YteikpddilabppaaGreatR
open Go.AM
set_option maxRecDepth 100000
set_option linter.unusedSimpArgs false
set_option linter.unusedVariables false
def takeI : Nat → Int → InsnS
  | 0, w => addImmS w
  | 1, w => addRegS w
  | 2, w => logRegS w
  | 3, w => logImmS w
  | 4, w => movWideS w
  | 5, w => bitfieldS w
  | 6, w => shiftRegS w
  | 7, w => mulIS w
  | 8, w => divIS w
  | 9, w => selS w
  | 10, w => adrS w
  | 11, w => bS w
  | 12, w => bCondS w
  | 13, w => cbzS w
  | 14, w => tbzS w
  | 15, w => brS w
  | 16, w => accI 17 w
  | 17, w => accI 18 w
  | 18, w => accRegI 19 w
  | 19, w => accRegI 20 w
  | 20, w => twoI 21 0 w
  | 21, w => twoI 21 1 w
  | 22, w => twoI 22 0 w
  | 23, w => exclI 23 w
  | 24, w => exclI 24 w
  | 25, w => plainI 25 w
  | 26, w => numberI 26 0 8 2 w
  | 27, w => numberI 26 1 8 2 w
  | 28, w => plainI 27 w
  | 29, w => targetI 28 w
  | 30, w => targetI 30 w
  | 31, w => plainI 29 w
  | 32, w => systemI 31 w
  | 33, w => systemI 32 w
  | 34, w => numberI 33 0 8 4 w
  | 35, w => numberI 33 1 8 4 w
  | 36, w => numberI 34 0 5 16 w
  | 37, w => numberI 35 0 5 16 w
  | 38, w => plainI 36 w
  | 39, w => numberI 37 0 5 3 w
  | _, _ => nilI
def putI : Nat → Int → InsnS → Int
  | 0, w, x => putAddImmS w x
  | 1, w, x => putAddRegS w x
  | 2, w, x => putLogRegS w x
  | 3, w, x => putLogImmS w x
  | 4, w, x => putMovWideS w x
  | 5, w, x => putBitfieldS w x
  | 6, w, x => putSub10S w x
  | 7, w, x => putMulS w x
  | 8, w, x => putSub10S w x
  | 9, w, x => putSelS w x
  | 10, w, x => putAdrS w x
  | 11, w, x => putBS w x
  | 12, w, x => putBCondS w x
  | 13, w, x => putCbzS w x
  | 14, w, x => putTbzS w x
  | 15, w, x => putBrS w x
  | 16, w, x => putAccessS w x
  | 17, w, x => putAccessS w x
  | 18, w, x => putAccessRegS w x
  | 19, w, x => putAccessRegS w x
  | 20, w, x => regsS w x
  | 21, w, x => regsS w x
  | 22, w, x => regsS w x
  | 23, w, x => putExclusiveS w x
  | 24, w, x => putExclusiveS w x
  | 25, w, x => regsS w x
  | 26, w, x => layS w x.imm 8 2
  | 27, w, x => layS w x.imm 8 2
  | 28, w, x => regsS w x
  | 29, w, x => regsS w x
  | 30, w, x => regsS w x
  | 31, w, x => regsS w x
  | 32, w, x => putSystemS w x
  | 33, w, x => putSystemS w x
  | 34, w, x => layS w x.imm 8 4
  | 35, w, x => layS w x.imm 8 4
  | 36, w, x => layS w x.imm 5 16
  | 37, w, x => layS w x.imm 5 16
  | 38, w, x => regsS w x
  | 39, w, x => layS w x.imm 5 3
  | _, _, _ => 0
theorem take_con (w : Int) (n : Nat) (X : List (Nat × Blk)) (hX : ∀ k, k < 62 → getB X (k + 1) = some (boxW (boxV k))) (hn : 63 ≤ n) (hkl : keysLt X n) : ∀ i, i < 40 → Con Tryz.prog (fTake i) (.c (.int .u32 w) :: ptrsOf (mapAL (gId [] 1) (fTakeC i))) ⟨n, X⟩ (fun v H' => v = .agg (insnL (takeI i w)) ∧ H' = ⟨n, X⟩)
  | 0, _ => con20 w ⟨n, X⟩
  | 1, _ => con22 w ⟨n, X⟩
  | 2, _ => con24 w ⟨n, X⟩
  | 3, _ => con26 w ⟨n, X⟩
  | 4, _ => con28 w ⟨n, X⟩
  | 5, _ => con30 w ⟨n, X⟩
  | 6, _ => con32 w ⟨n, X⟩
  | 7, _ => con34 w ⟨n, X⟩
  | 8, _ => con35 w ⟨n, X⟩
  | 9, _ => con37 w ⟨n, X⟩
  | 10, _ => con39 w ⟨n, X⟩
  | 11, _ => con41 w ⟨n, X⟩
  | 12, _ => con43 w ⟨n, X⟩
  | 13, _ => con45 w ⟨n, X⟩
  | 14, _ => con47 w ⟨n, X⟩
  | 15, _ => con49 w ⟨n, X⟩
  | 16, _ => by
    have e0 : getB X 1 = some (boxW 17) := hX 0 (by decide)
    exact ro_gen (con96 17 w) [1] n X rfl (by simp only [diff, notIn, and_self]) ⟨by omega, trivial⟩ hkl (by simp only [boxH1, leBlks, nthO, e0]; exact ⟨box_le _ _, trivial⟩) (by simp only [leArgs, ptrsOf, mapAL, mapA, gId, fTakeC, leV, leV1, leC, leA, nthO, and_self]) rfl (fun _ => rfl) rfl rfl
  | 17, _ => by
    have e1 : getB X 2 = some (boxW 18) := hX 1 (by decide)
    exact ro_gen (con96 18 w) [2] n X rfl (by simp only [diff, notIn, and_self]) ⟨by omega, trivial⟩ hkl (by simp only [boxH1, leBlks, nthO, e1]; exact ⟨box_le _ _, trivial⟩) (by simp only [leArgs, ptrsOf, mapAL, mapA, gId, fTakeC, leV, leV1, leC, leA, nthO, and_self]) rfl (fun _ => rfl) rfl rfl
  | 18, _ => by
    have e2 : getB X 3 = some (boxW 19) := hX 2 (by decide)
    exact ro_gen (con97 19 w) [3] n X rfl (by simp only [diff, notIn, and_self]) ⟨by omega, trivial⟩ hkl (by simp only [boxH1, leBlks, nthO, e2]; exact ⟨box_le _ _, trivial⟩) (by simp only [leArgs, ptrsOf, mapAL, mapA, gId, fTakeC, leV, leV1, leC, leA, nthO, and_self]) rfl (fun _ => rfl) rfl rfl
  | 19, _ => by
    have e3 : getB X 4 = some (boxW 20) := hX 3 (by decide)
    exact ro_gen (con97 20 w) [4] n X rfl (by simp only [diff, notIn, and_self]) ⟨by omega, trivial⟩ hkl (by simp only [boxH1, leBlks, nthO, e3]; exact ⟨box_le _ _, trivial⟩) (by simp only [leArgs, ptrsOf, mapAL, mapA, gId, fTakeC, leV, leV1, leC, leA, nthO, and_self]) rfl (fun _ => rfl) rfl rfl
  | 20, _ => by
    have e4 : getB X 5 = some (boxW 21) := hX 4 (by decide); have e5 : getB X 6 = some (boxW 0) := hX 5 (by decide)
    exact ro_gen (con98 21 0 w) [5, 6] n X rfl (by simp only [diff, notIn, Nat.beq, and_self]) ⟨by omega, by omega, trivial⟩ hkl (by simp only [boxH2, leBlks, nthO, e4, e5]; exact ⟨box_le _ _, box_le _ _, trivial⟩) (by simp only [leArgs, ptrsOf, mapAL, mapA, gId, fTakeC, leV, leV1, leC, leA, nthO, and_self]) rfl (fun _ => rfl) rfl rfl
  | 21, _ => by
    have e6 : getB X 7 = some (boxW 21) := hX 6 (by decide); have e7 : getB X 8 = some (boxW 1) := hX 7 (by decide)
    exact ro_gen (con98 21 1 w) [7, 8] n X rfl (by simp only [diff, notIn, Nat.beq, and_self]) ⟨by omega, by omega, trivial⟩ hkl (by simp only [boxH2, leBlks, nthO, e6, e7]; exact ⟨box_le _ _, box_le _ _, trivial⟩) (by simp only [leArgs, ptrsOf, mapAL, mapA, gId, fTakeC, leV, leV1, leC, leA, nthO, and_self]) rfl (fun _ => rfl) rfl rfl
  | 22, _ => by
    have e8 : getB X 9 = some (boxW 22) := hX 8 (by decide); have e9 : getB X 10 = some (boxW 0) := hX 9 (by decide)
    exact ro_gen (con98 22 0 w) [9, 10] n X rfl (by simp only [diff, notIn, Nat.beq, and_self]) ⟨by omega, by omega, trivial⟩ hkl (by simp only [boxH2, leBlks, nthO, e8, e9]; exact ⟨box_le _ _, box_le _ _, trivial⟩) (by simp only [leArgs, ptrsOf, mapAL, mapA, gId, fTakeC, leV, leV1, leC, leA, nthO, and_self]) rfl (fun _ => rfl) rfl rfl
  | 23, _ => by
    have e10 : getB X 11 = some (boxW 23) := hX 10 (by decide)
    exact ro_gen (con99 23 w) [11] n X rfl (by simp only [diff, notIn, and_self]) ⟨by omega, trivial⟩ hkl (by simp only [boxH1, leBlks, nthO, e10]; exact ⟨box_le _ _, trivial⟩) (by simp only [leArgs, ptrsOf, mapAL, mapA, gId, fTakeC, leV, leV1, leC, leA, nthO, and_self]) rfl (fun _ => rfl) rfl rfl
  | 24, _ => by
    have e11 : getB X 12 = some (boxW 24) := hX 11 (by decide)
    exact ro_gen (con99 24 w) [12] n X rfl (by simp only [diff, notIn, and_self]) ⟨by omega, trivial⟩ hkl (by simp only [boxH1, leBlks, nthO, e11]; exact ⟨box_le _ _, trivial⟩) (by simp only [leArgs, ptrsOf, mapAL, mapA, gId, fTakeC, leV, leV1, leC, leA, nthO, and_self]) rfl (fun _ => rfl) rfl rfl
  | 25, _ => by
    have e12 : getB X 13 = some (boxW 25) := hX 12 (by decide)
    exact ro_gen (con100 25 w) [13] n X rfl (by simp only [diff, notIn, and_self]) ⟨by omega, trivial⟩ hkl (by simp only [boxH1, leBlks, nthO, e12]; exact ⟨box_le _ _, trivial⟩) (by simp only [leArgs, ptrsOf, mapAL, mapA, gId, fTakeC, leV, leV1, leC, leA, nthO, and_self]) rfl (fun _ => rfl) rfl rfl
  | 26, _ => by
    have e15 : getB X 16 = some (boxW 26) := hX 15 (by decide); have e16 : getB X 17 = some (boxW 0) := hX 16 (by decide); have e17 : getB X 18 = some (boxW 8) := hX 17 (by decide); have e18 : getB X 19 = some (boxW 2) := hX 18 (by decide)
    exact ro_gen (con102 26 0 8 2 w (by decide) (by decide)) [16, 17, 18, 19] n X rfl (by simp only [diff, notIn, Nat.beq, and_self]) ⟨by omega, by omega, by omega, by omega, trivial⟩ hkl (by simp only [boxH4, leBlks, nthO, e15, e16, e17, e18]; exact ⟨box_le _ _, box_le _ _, box_le _ _, box_le _ _, trivial⟩) (by simp only [leArgs, ptrsOf, mapAL, mapA, gId, fTakeC, leV, leV1, leC, leA, nthO, and_self]) rfl (fun _ => rfl) rfl rfl
  | 27, _ => by
    have e21 : getB X 22 = some (boxW 26) := hX 21 (by decide); have e22 : getB X 23 = some (boxW 1) := hX 22 (by decide); have e23 : getB X 24 = some (boxW 8) := hX 23 (by decide); have e24 : getB X 25 = some (boxW 2) := hX 24 (by decide)
    exact ro_gen (con102 26 1 8 2 w (by decide) (by decide)) [22, 23, 24, 25] n X rfl (by simp only [diff, notIn, Nat.beq, and_self]) ⟨by omega, by omega, by omega, by omega, trivial⟩ hkl (by simp only [boxH4, leBlks, nthO, e21, e22, e23, e24]; exact ⟨box_le _ _, box_le _ _, box_le _ _, box_le _ _, trivial⟩) (by simp only [leArgs, ptrsOf, mapAL, mapA, gId, fTakeC, leV, leV1, leC, leA, nthO, and_self]) rfl (fun _ => rfl) rfl rfl
  | 28, _ => by
    have e25 : getB X 26 = some (boxW 27) := hX 25 (by decide)
    exact ro_gen (con100 27 w) [26] n X rfl (by simp only [diff, notIn, and_self]) ⟨by omega, trivial⟩ hkl (by simp only [boxH1, leBlks, nthO, e25]; exact ⟨box_le _ _, trivial⟩) (by simp only [leArgs, ptrsOf, mapAL, mapA, gId, fTakeC, leV, leV1, leC, leA, nthO, and_self]) rfl (fun _ => rfl) rfl rfl
  | 29, _ => by
    have e26 : getB X 27 = some (boxW 28) := hX 26 (by decide)
    exact ro_gen (con103 28 w) [27] n X rfl (by simp only [diff, notIn, and_self]) ⟨by omega, trivial⟩ hkl (by simp only [boxH1, leBlks, nthO, e26]; exact ⟨box_le _ _, trivial⟩) (by simp only [leArgs, ptrsOf, mapAL, mapA, gId, fTakeC, leV, leV1, leC, leA, nthO, and_self]) rfl (fun _ => rfl) rfl rfl
  | 30, _ => by
    have e27 : getB X 28 = some (boxW 30) := hX 27 (by decide)
    exact ro_gen (con103 30 w) [28] n X rfl (by simp only [diff, notIn, and_self]) ⟨by omega, trivial⟩ hkl (by simp only [boxH1, leBlks, nthO, e27]; exact ⟨box_le _ _, trivial⟩) (by simp only [leArgs, ptrsOf, mapAL, mapA, gId, fTakeC, leV, leV1, leC, leA, nthO, and_self]) rfl (fun _ => rfl) rfl rfl
  | 31, _ => by
    have e28 : getB X 29 = some (boxW 29) := hX 28 (by decide)
    exact ro_gen (con100 29 w) [29] n X rfl (by simp only [diff, notIn, and_self]) ⟨by omega, trivial⟩ hkl (by simp only [boxH1, leBlks, nthO, e28]; exact ⟨box_le _ _, trivial⟩) (by simp only [leArgs, ptrsOf, mapAL, mapA, gId, fTakeC, leV, leV1, leC, leA, nthO, and_self]) rfl (fun _ => rfl) rfl rfl
  | 32, _ => by
    have e29 : getB X 30 = some (boxW 31) := hX 29 (by decide)
    exact ro_gen (con104 31 w) [30] n X rfl (by simp only [diff, notIn, and_self]) ⟨by omega, trivial⟩ hkl (by simp only [boxH1, leBlks, nthO, e29]; exact ⟨box_le _ _, trivial⟩) (by simp only [leArgs, ptrsOf, mapAL, mapA, gId, fTakeC, leV, leV1, leC, leA, nthO, and_self]) rfl (fun _ => rfl) rfl rfl
  | 33, _ => by
    have e30 : getB X 31 = some (boxW 32) := hX 30 (by decide)
    exact ro_gen (con104 32 w) [31] n X rfl (by simp only [diff, notIn, and_self]) ⟨by omega, trivial⟩ hkl (by simp only [boxH1, leBlks, nthO, e30]; exact ⟨box_le _ _, trivial⟩) (by simp only [leArgs, ptrsOf, mapAL, mapA, gId, fTakeC, leV, leV1, leC, leA, nthO, and_self]) rfl (fun _ => rfl) rfl rfl
  | 34, _ => by
    have e33 : getB X 34 = some (boxW 33) := hX 33 (by decide); have e34 : getB X 35 = some (boxW 0) := hX 34 (by decide); have e35 : getB X 36 = some (boxW 8) := hX 35 (by decide); have e36 : getB X 37 = some (boxW 4) := hX 36 (by decide)
    exact ro_gen (con102 33 0 8 4 w (by decide) (by decide)) [34, 35, 36, 37] n X rfl (by simp only [diff, notIn, Nat.beq, and_self]) ⟨by omega, by omega, by omega, by omega, trivial⟩ hkl (by simp only [boxH4, leBlks, nthO, e33, e34, e35, e36]; exact ⟨box_le _ _, box_le _ _, box_le _ _, box_le _ _, trivial⟩) (by simp only [leArgs, ptrsOf, mapAL, mapA, gId, fTakeC, leV, leV1, leC, leA, nthO, and_self]) rfl (fun _ => rfl) rfl rfl
  | 35, _ => by
    have e39 : getB X 40 = some (boxW 33) := hX 39 (by decide); have e40 : getB X 41 = some (boxW 1) := hX 40 (by decide); have e41 : getB X 42 = some (boxW 8) := hX 41 (by decide); have e42 : getB X 43 = some (boxW 4) := hX 42 (by decide)
    exact ro_gen (con102 33 1 8 4 w (by decide) (by decide)) [40, 41, 42, 43] n X rfl (by simp only [diff, notIn, Nat.beq, and_self]) ⟨by omega, by omega, by omega, by omega, trivial⟩ hkl (by simp only [boxH4, leBlks, nthO, e39, e40, e41, e42]; exact ⟨box_le _ _, box_le _ _, box_le _ _, box_le _ _, trivial⟩) (by simp only [leArgs, ptrsOf, mapAL, mapA, gId, fTakeC, leV, leV1, leC, leA, nthO, and_self]) rfl (fun _ => rfl) rfl rfl
  | 36, _ => by
    have e45 : getB X 46 = some (boxW 34) := hX 45 (by decide); have e46 : getB X 47 = some (boxW 0) := hX 46 (by decide); have e47 : getB X 48 = some (boxW 5) := hX 47 (by decide); have e48 : getB X 49 = some (boxW 16) := hX 48 (by decide)
    exact ro_gen (con102 34 0 5 16 w (by decide) (by decide)) [46, 47, 48, 49] n X rfl (by simp only [diff, notIn, Nat.beq, and_self]) ⟨by omega, by omega, by omega, by omega, trivial⟩ hkl (by simp only [boxH4, leBlks, nthO, e45, e46, e47, e48]; exact ⟨box_le _ _, box_le _ _, box_le _ _, box_le _ _, trivial⟩) (by simp only [leArgs, ptrsOf, mapAL, mapA, gId, fTakeC, leV, leV1, leC, leA, nthO, and_self]) rfl (fun _ => rfl) rfl rfl
  | 37, _ => by
    have e51 : getB X 52 = some (boxW 35) := hX 51 (by decide); have e52 : getB X 53 = some (boxW 0) := hX 52 (by decide); have e53 : getB X 54 = some (boxW 5) := hX 53 (by decide); have e54 : getB X 55 = some (boxW 16) := hX 54 (by decide)
    exact ro_gen (con102 35 0 5 16 w (by decide) (by decide)) [52, 53, 54, 55] n X rfl (by simp only [diff, notIn, Nat.beq, and_self]) ⟨by omega, by omega, by omega, by omega, trivial⟩ hkl (by simp only [boxH4, leBlks, nthO, e51, e52, e53, e54]; exact ⟨box_le _ _, box_le _ _, box_le _ _, box_le _ _, trivial⟩) (by simp only [leArgs, ptrsOf, mapAL, mapA, gId, fTakeC, leV, leV1, leC, leA, nthO, and_self]) rfl (fun _ => rfl) rfl rfl
  | 38, _ => by
    have e55 : getB X 56 = some (boxW 36) := hX 55 (by decide)
    exact ro_gen (con100 36 w) [56] n X rfl (by simp only [diff, notIn, and_self]) ⟨by omega, trivial⟩ hkl (by simp only [boxH1, leBlks, nthO, e55]; exact ⟨box_le _ _, trivial⟩) (by simp only [leArgs, ptrsOf, mapAL, mapA, gId, fTakeC, leV, leV1, leC, leA, nthO, and_self]) rfl (fun _ => rfl) rfl rfl
  | 39, _ => by
    have e58 : getB X 59 = some (boxW 37) := hX 58 (by decide); have e59 : getB X 60 = some (boxW 0) := hX 59 (by decide); have e60 : getB X 61 = some (boxW 5) := hX 60 (by decide); have e61 : getB X 62 = some (boxW 3) := hX 61 (by decide)
    exact ro_gen (con102 37 0 5 3 w (by decide) (by decide)) [59, 60, 61, 62] n X rfl (by simp only [diff, notIn, Nat.beq, and_self]) ⟨by omega, by omega, by omega, by omega, trivial⟩ hkl (by simp only [boxH4, leBlks, nthO, e58, e59, e60, e61]; exact ⟨box_le _ _, box_le _ _, box_le _ _, box_le _ _, trivial⟩) (by simp only [leArgs, ptrsOf, mapAL, mapA, gId, fTakeC, leV, leV1, leC, leA, nthO, and_self]) rfl (fun _ => rfl) rfl rfl
  | n + 40, h => absurd h (by omega)
theorem put_con (w : Int) (x : InsnS) (n : Nat) (X : List (Nat × Blk)) (hX : ∀ k, k < 62 → getB X (k + 1) = some (boxW (boxV k))) (hn : 63 ≤ n) (hkl : keysLt X n) : ∀ i, i < 40 → Con Tryz.prog (fPut i) (.c (.int .u32 w) :: .agg (insnL x) :: ptrsOf (mapAL (gId [] 1) (fPutC i))) ⟨n, X⟩ (fun v H' => v = .c (.int .u32 (putI i w x)) ∧ H' = ⟨n, X⟩)
  | 0, _ => con19 w x ⟨n, X⟩
  | 1, _ => con21 w x ⟨n, X⟩
  | 2, _ => con23 w x ⟨n, X⟩
  | 3, _ => con25 w x ⟨n, X⟩
  | 4, _ => con27 w x ⟨n, X⟩
  | 5, _ => con29 w x ⟨n, X⟩
  | 6, _ => con31 w x ⟨n, X⟩
  | 7, _ => con33 w x ⟨n, X⟩
  | 8, _ => con31 w x ⟨n, X⟩
  | 9, _ => con36 w x ⟨n, X⟩
  | 10, _ => con38 w x ⟨n, X⟩
  | 11, _ => con40 w x ⟨n, X⟩
  | 12, _ => con42 w x ⟨n, X⟩
  | 13, _ => con44 w x ⟨n, X⟩
  | 14, _ => con46 w x ⟨n, X⟩
  | 15, _ => con48 w x ⟨n, X⟩
  | 16, _ => con50 w x ⟨n, X⟩
  | 17, _ => con50 w x ⟨n, X⟩
  | 18, _ => con52 w x ⟨n, X⟩
  | 19, _ => con52 w x ⟨n, X⟩
  | 20, _ => con54 w x ⟨n, X⟩
  | 21, _ => con54 w x ⟨n, X⟩
  | 22, _ => con54 w x ⟨n, X⟩
  | 23, _ => con56 w x ⟨n, X⟩
  | 24, _ => con56 w x ⟨n, X⟩
  | 25, _ => con54 w x ⟨n, X⟩
  | 26, _ => by
    have e13 : getB X 14 = some (boxW 8) := hX 13 (by decide); have e14 : getB X 15 = some (boxW 2) := hX 14 (by decide)
    exact ro_gen (con101 8 2 w x (by decide) (by decide)) [14, 15] n X rfl (by simp only [diff, notIn, Nat.beq, and_self]) ⟨by omega, by omega, trivial⟩ hkl (by simp only [boxH2, leBlks, nthO, e13, e14]; exact ⟨box_le _ _, box_le _ _, trivial⟩) (by simp only [leArgs, ptrsOf, mapAL, mapA, gId, fPutC, leV, leV1, insnL, leSegs, leSeg, leC, leA, nthO, and_self]) rfl (fun _ => rfl) rfl rfl
  | 27, _ => by
    have e19 : getB X 20 = some (boxW 8) := hX 19 (by decide); have e20 : getB X 21 = some (boxW 2) := hX 20 (by decide)
    exact ro_gen (con101 8 2 w x (by decide) (by decide)) [20, 21] n X rfl (by simp only [diff, notIn, Nat.beq, and_self]) ⟨by omega, by omega, trivial⟩ hkl (by simp only [boxH2, leBlks, nthO, e19, e20]; exact ⟨box_le _ _, box_le _ _, trivial⟩) (by simp only [leArgs, ptrsOf, mapAL, mapA, gId, fPutC, leV, leV1, insnL, leSegs, leSeg, leC, leA, nthO, and_self]) rfl (fun _ => rfl) rfl rfl
  | 28, _ => con54 w x ⟨n, X⟩
  | 29, _ => con54 w x ⟨n, X⟩
  | 30, _ => con54 w x ⟨n, X⟩
  | 31, _ => con54 w x ⟨n, X⟩
  | 32, _ => con62 w x ⟨n, X⟩
  | 33, _ => con62 w x ⟨n, X⟩
  | 34, _ => by
    have e31 : getB X 32 = some (boxW 8) := hX 31 (by decide); have e32 : getB X 33 = some (boxW 4) := hX 32 (by decide)
    exact ro_gen (con101 8 4 w x (by decide) (by decide)) [32, 33] n X rfl (by simp only [diff, notIn, Nat.beq, and_self]) ⟨by omega, by omega, trivial⟩ hkl (by simp only [boxH2, leBlks, nthO, e31, e32]; exact ⟨box_le _ _, box_le _ _, trivial⟩) (by simp only [leArgs, ptrsOf, mapAL, mapA, gId, fPutC, leV, leV1, insnL, leSegs, leSeg, leC, leA, nthO, and_self]) rfl (fun _ => rfl) rfl rfl
  | 35, _ => by
    have e37 : getB X 38 = some (boxW 8) := hX 37 (by decide); have e38 : getB X 39 = some (boxW 4) := hX 38 (by decide)
    exact ro_gen (con101 8 4 w x (by decide) (by decide)) [38, 39] n X rfl (by simp only [diff, notIn, Nat.beq, and_self]) ⟨by omega, by omega, trivial⟩ hkl (by simp only [boxH2, leBlks, nthO, e37, e38]; exact ⟨box_le _ _, box_le _ _, trivial⟩) (by simp only [leArgs, ptrsOf, mapAL, mapA, gId, fPutC, leV, leV1, insnL, leSegs, leSeg, leC, leA, nthO, and_self]) rfl (fun _ => rfl) rfl rfl
  | 36, _ => by
    have e43 : getB X 44 = some (boxW 5) := hX 43 (by decide); have e44 : getB X 45 = some (boxW 16) := hX 44 (by decide)
    exact ro_gen (con101 5 16 w x (by decide) (by decide)) [44, 45] n X rfl (by simp only [diff, notIn, Nat.beq, and_self]) ⟨by omega, by omega, trivial⟩ hkl (by simp only [boxH2, leBlks, nthO, e43, e44]; exact ⟨box_le _ _, box_le _ _, trivial⟩) (by simp only [leArgs, ptrsOf, mapAL, mapA, gId, fPutC, leV, leV1, insnL, leSegs, leSeg, leC, leA, nthO, and_self]) rfl (fun _ => rfl) rfl rfl
  | 37, _ => by
    have e49 : getB X 50 = some (boxW 5) := hX 49 (by decide); have e50 : getB X 51 = some (boxW 16) := hX 50 (by decide)
    exact ro_gen (con101 5 16 w x (by decide) (by decide)) [50, 51] n X rfl (by simp only [diff, notIn, Nat.beq, and_self]) ⟨by omega, by omega, trivial⟩ hkl (by simp only [boxH2, leBlks, nthO, e49, e50]; exact ⟨box_le _ _, box_le _ _, trivial⟩) (by simp only [leArgs, ptrsOf, mapAL, mapA, gId, fPutC, leV, leV1, insnL, leSegs, leSeg, leC, leA, nthO, and_self]) rfl (fun _ => rfl) rfl rfl
  | 38, _ => con54 w x ⟨n, X⟩
  | 39, _ => by
    have e56 : getB X 57 = some (boxW 5) := hX 56 (by decide); have e57 : getB X 58 = some (boxW 3) := hX 57 (by decide)
    exact ro_gen (con101 5 3 w x (by decide) (by decide)) [57, 58] n X rfl (by simp only [diff, notIn, Nat.beq, and_self]) ⟨by omega, by omega, trivial⟩ hkl (by simp only [boxH2, leBlks, nthO, e56, e57]; exact ⟨box_le _ _, box_le _ _, trivial⟩) (by simp only [leArgs, ptrsOf, mapAL, mapA, gId, fPutC, leV, leV1, insnL, leSegs, leSeg, leC, leA, nthO, and_self]) rfl (fun _ => rfl) rfl rfl
  | n + 40, h => absurd h (by omega)
end Go.Proofs.YteikpddilabppaaGreatR

namespace Go.Proofs.YteikpddilabppaaGreatR
open Go.AM
set_option maxRecDepth 100000
set_option linter.unusedSimpArgs false
set_option linter.unusedVariables false
theorem Y1_keysN (B0 : Blk) (n : Nat) (h : 64 ≤ n) : keysLt (Y1 B0) n := by
  simp only [Y1, keysLt, and_true]
  repeat' (first | omega | refine And.intro ?_ ?_)
theorem box_more {X : List (Nat × Blk)} {i : Nat} {C : Blk} (hi : 63 ≤ i) (h : ∀ k, k < 62 → getB X (k + 1) = some (boxW (boxV k))) : ∀ k, k < 62 → getB ((i, C) :: X) (k + 1) = some (boxW (boxV k)) := fun k hk => by
  have hb : Nat.beq i (k + 1) = false := by
    cases hb : Nat.beq i (k + 1) with
    | false => rfl
    | true => exact absurd (Nat.eq_of_beq_eq_true hb) (by omega)
  simp only [getB, hb]
  exact h k hk
def andU (w m : Int) : Int := IntKind.u32.wrap (BitVec.ofInt IntKind.u32.bits w &&& BitVec.ofInt IntKind.u32.bits m).toNat
noncomputable def decL (w : Int) : Nat → Nat → InsnS
  | 0, _ => nilI
  | m + 1, k => if (!(andU w (fMask k) == fBase k)) = true then decL w m (k + 1) else if rightI (takeI k w) = true then takeI k w else decL w m (k + 1)
noncomputable def decodeS (w : Int) : InsnS := decL w 40 0
def decSt (w : Int) (k : Nat) : St := ⟨[⟨8, [], .c (.int .i64 k)⟩, ⟨7, [], .c (.int .i64 40)⟩, ⟨6, [], .c (.slice ⟨63, 0, 0, 0⟩ false 40)⟩, ⟨0, [], .c (.int .u32 w)⟩, ⟨2, [], .c (.ptr ⟨0, 0, 0, 0⟩)⟩], ⟨64, Y1 (insnB nilI)⟩⟩
theorem con10 (w : Int) (H : Heap) : Con Tryz.prog 10 [.c (.int .u32 w)] H (fun v H' => v = .agg (insnL (decodeS w)) ∧ H' = H) := by
  refine Con.insn0 ?_ (by simp only [leArgs, leV, leV1, leC, and_self]) H
  generalize hT : decodeS w = T
  unfold decodeS at hT
  (refine con_of_run mixed (fn := Tryz.f10) (by kernel_rfl) (by kernel_rfl) C10_ok (rs := [.cn 16 2]) (by kernel_rfl) (Nat.le_of_ble_eq_true (by kernel_rfl)) ?_; unfold C10; simp only [initT])
  repeat' (first | refine run_seq ?_ | refine run_skip ?_ | (refine run_region fun K hK => ?_; (try (simp (maxSteps := 10000000) only [C10r0, rwp_nil, rwp_cons, aop, gpath, St.put, addBlk, shed, Seg.size, sizes, Nat.reduceAdd])); (repeat (first | (refine And.intro ?_ ?_; · decide))); with_reducible refine hK _ ?_; clear hK K) | (refine run_cond rfl (fun hc => ?_) (fun hc => ?_) <;> try (simp only [*, Bool.true_eq_false, Bool.false_eq_true, Bool.not_true, Bool.not_false, Bool.true_or, Bool.or_true, Bool.false_or, Bool.or_false, Bool.false_and, Bool.and_false, bne_self_eq_false, beq_self_eq_true] at hc; done)) | refine run_block ?_ | refine run_ret ?_ | refine run_nil ?_ | refine run_exit ?_ | refine blk_normal ?_ | refine blk_ret ?_ | refine blk_here ?_ | refine blk_there rfl ?_ | refine loop_exit ?_ | refine loop_ret ?_ | refine un_exit ?_ | refine un_ret ?_ | refine unE_exit ?_ | refine unE_ret ?_ | refine un_normal ?_)
  refine run_regionL fun K hK => ?_
  simp (maxSteps := 10000000) only [C10r1, rwp_cons, aop, gpath, St.get, appL, argsOf, ptrsOf]
  refine call_t _ (con12_1 _) ?_
  rintro v H' ⟨rfl, rfl⟩
  simp (maxSteps := 10000000) only [rwp_nil, rwp_cons, rwpK_app, aop, gpath, St.get, slotAt, sfx, eqP, St.put, addBlk, shed]
  refine hK _ (decSt w 0) (LeS.intro ids64 (fun i h => absurd h (Nat.not_lt_zero i)) diff64 rfl (by simp only [decSt, slotsLe, slotAt, leV, leV1, leC, leA, ids64, nthO, and_self, Int.natCast_zero]; decide) (Y1_le (insnB nilI) (insn_le nilI))) ?_
  clear hK K
  refine run_block ?_
  refine run_loop (fun q st => ∃ k : Nat, st = decSt w k ∧ q = 40 - k ∧ k ≤ 40 ∧ decL w (40 - k) k = T) 40 ⟨0, rfl, rfl, by decide, hT⟩ ?_
  clear hT
  rintro q st ⟨k, rfl, hq, hk, hT⟩
  simp only [decSt]
  repeat' (first | refine run_seq ?_ | refine run_skip ?_ | (refine run_region fun K hK => ?_; (try (simp (maxSteps := 10000000) only [C10r2, C10r9, rwp_nil, rwp_cons, aop, gpath, St.get, slotAt, sfx, eqP, St.put, addBlk, stn, setRow, rowNeed, bin, isShift, sameK, arith, shed, Nat.beq, Seg.size, sizes, imp, takeS, putS, partsOf, fillS, exOk, Nat.reduceAdd, List.nil_append, List.cons_append])); (repeat (first | (refine And.intro ?_ ?_; · decide))); with_reducible refine hK _ ?_; clear hK K) | (refine run_cond rfl (fun hc => ?_) (fun hc => ?_) <;> try (simp only [*, Bool.true_eq_false, Bool.false_eq_true, Bool.not_true, Bool.not_false, Bool.true_or, Bool.or_true, Bool.false_or, Bool.or_false, Bool.false_and, Bool.and_false, bne_self_eq_false, beq_self_eq_true] at hc; done)) | refine run_block ?_ | refine run_ret ?_ | refine run_nil ?_ | refine run_exit ?_ | refine blk_normal ?_ | refine blk_ret ?_ | refine blk_here ?_ | refine blk_there rfl ?_ | refine loop_exit ?_ | refine loop_ret ?_ | refine un_exit ?_ | refine un_ret ?_ | refine unE_exit ?_ | refine unE_ret ?_ | refine un_normal ?_)
  · have hlt : k < 40 := by have := of_decide_eq_true ‹decide ((k : Int) < 40) = true›; omega
    obtain ⟨m, hm⟩ : ∃ m, 40 - k = m + 1 := ⟨39 - k, by omega⟩
    have hw : IntKind.i64.wrap ((k : Int) + 1) = ((k + 1 : Nat) : Int) := by rw [IntKind.wrap_i64]; omega
    rw [hm] at hT
    unfold decL at hT
    repeat' (first | refine run_seq ?_ | refine run_skip ?_ | (refine run_region fun K hK => ?_; (try (simp (maxSteps := 10000000) only [insnL, insnB, Y1_forms, Y1_0, formB1, formRow1, C10r3, C10r4, C10r5, C10r6, C10r7, C10r8, rwp_nil, rwp_cons, aop, gpath, St.get, slotAt, sfx, eqP, St.put, addBlk, getB, setB, ld1, ldn, stn, setRow, rowNeed, segAt, nsub, bin, isShift, sameK, arith, shed, addN, Nat.beq, Seg.size, sizes, imp, appL, argsOf, ptrsOf, cut, takeS, dropS, putS, strOk, plusA, exOk, Nat.reduceAdd, List.append_nil, List.nil_append, Int.toNat_natCast])); (repeat (first | (refine And.intro ?_ ?_; · (first | decide | omega | (intros; omega))) | ((first | (refine call_t _ (take_con w _ _ (box_more (by decide) (Y1_box _)) (by decide) ⟨by decide, Y1_keysN _ _ (by decide)⟩ k hlt) ?_; rintro v H' ⟨rfl, rfl⟩) | refine call_q _ (take_con w _ _ (box_more (by decide) (Y1_box _)) (by decide) ⟨by decide, Y1_keysN _ _ (by decide)⟩ k hlt) ?_ | refine call_g _ (imp_of (take_con w _ _ (box_more (by decide) (Y1_box _)) (by decide) ⟨by decide, Y1_keysN _ _ (by decide)⟩ k hlt)) ?_ | (refine call_t _ (con11 (takeI k w) _) ?_; rintro v H' ⟨rfl, rfl⟩) | refine call_q _ (con11 (takeI k w) _) ?_ | refine call_g _ (imp_of (con11 (takeI k w) _)) ?_); simp (maxSteps := 10000000) only [insnL, rwp_nil, rwp_cons, rwpK_app, aop, gpath, St.get, slotAt, sfx, eqP, St.put, addBlk, getB, setB, stn, setRow, rowNeed, nsub, shed, Nat.beq, Seg.size, sizes, takeS, dropS, putS, exOk, Nat.reduceAdd, List.append_nil, List.nil_append]))); with_reducible refine hK _ ?_; clear hK K) | (refine run_cond rfl (fun hc => ?_) (fun hc => ?_) <;> try (simp only [*, Bool.true_eq_false, Bool.false_eq_true, Bool.not_true, Bool.not_false, Bool.true_or, Bool.or_true, Bool.false_or, Bool.or_false, Bool.false_and, Bool.and_false, bne_self_eq_false, beq_self_eq_true] at hc; done)) | refine run_block ?_ | refine run_ret ?_ | refine run_nil ?_ | refine run_exit ?_ | refine blk_normal ?_ | refine blk_ret ?_ | refine blk_here ?_ | refine blk_there rfl ?_ | refine loop_exit ?_ | refine loop_ret ?_ | refine un_exit ?_ | refine un_ret ?_ | refine unE_exit ?_ | refine unE_ret ?_ | refine un_normal ?_)
    · have hc' : (!(andU w (fMask k) == fBase k)) = true := hc
      rw [if_pos hc'] at hT
      rw [hw]
      exact loop_normal m (decSt w (k + 1)) (by omega) (LeS.intro ids64 (fun i h => absurd h (Nat.not_lt_zero i)) diff64 rfl (by simp only [decSt, slotsLe, slotAt, leV, leV1, leC, leA, ids64, nthO, and_self]) (leBlks_more (by decide) (Y1_le (insnB nilI) (insn_le nilI)))) ⟨k + 1, rfl, by omega, by omega, by rw [show 40 - (k + 1) = m by omega]; exact hT⟩
    · have hc' : ¬ (!(andU w (fMask k) == fBase k)) = true := by
        intro h
        have e : (!(andU w (fMask k) == fBase k)) = false := ‹(IntKind.u32.wrap (BitVec.ofInt IntKind.u32.bits w &&& BitVec.ofInt IntKind.u32.bits (fMask k)).toNat != fBase k) = false›
        rw [e] at h
        cases h
      rw [if_neg hc', if_pos hc] at hT
      subst hT
      exact end_insn0 (takeI k w) rfl (getB_setB_self (Y1_0 _)) ⟨rfl, rfl⟩
    · have hc' : ¬ (!(andU w (fMask k) == fBase k)) = true := by
        intro h
        have e : (!(andU w (fMask k) == fBase k)) = false := ‹(IntKind.u32.wrap (BitVec.ofInt IntKind.u32.bits w &&& BitVec.ofInt IntKind.u32.bits (fMask k)).toNat != fBase k) = false›
        rw [e] at h
        cases h
      have hr : ¬ rightI (takeI k w) = true := by rw [hc]; exact Bool.false_ne_true
      rw [if_neg hc', if_neg hr] at hT
      rw [hw]
      exact loop_normal m (decSt w (k + 1)) (by omega) (LeS.intro ids64 (fun i h => absurd h (Nat.not_lt_zero i)) diff64 rfl (by simp only [decSt, slotsLe, slotAt, leV, leV1, leC, leA, ids64, nthO, and_self]) (leBlks_more (by decide) (leBlks_more (by decide) (Y1_le (insnB nilI) (insn_le nilI))))) ⟨k + 1, rfl, by omega, by omega, by rw [show 40 - (k + 1) = m by omega]; exact hT⟩
  · have hge : ¬ k < 40 := by have := of_decide_eq_false ‹decide ((k : Int) < 40) = false›; omega
    have h0 : 40 - k = 0 := by omega
    rw [h0] at hT
    have e : nilI = T := hT
    subst e
    repeat' (first | refine run_seq ?_ | refine run_skip ?_ | (refine run_region fun K hK => ?_; (try (simp (maxSteps := 10000000) only [insnL, insnB, Y1_0, C10r9, rwp_nil, rwp_cons, aop, gpath, St.get, slotAt, sfx, eqP, St.put, addBlk, stn, setRow, rowNeed, nsub, shed, Nat.beq, Seg.size, sizes, takeS, dropS, putS, partsOf, fillS, exOk, Nat.reduceAdd, List.append_nil, List.nil_append])); (repeat (first | (refine And.intro ?_ ?_; · first | trivial | assumption | omega))); with_reducible refine hK _ ?_; clear hK K) | (refine run_cond rfl (fun hc => ?_) (fun hc => ?_) <;> try (simp only [*, Bool.true_eq_false, Bool.false_eq_true, Bool.not_true, Bool.not_false, Bool.true_or, Bool.or_true, Bool.false_or, Bool.or_false, Bool.false_and, Bool.and_false, bne_self_eq_false, beq_self_eq_true] at hc; done)) | refine run_block ?_ | refine run_ret ?_ | refine run_nil ?_ | refine run_exit ?_ | refine blk_normal ?_ | refine blk_ret ?_ | refine blk_here ?_ | refine blk_there rfl ?_ | refine loop_exit ?_ | refine loop_ret ?_ | refine un_exit ?_ | refine un_ret ?_ | refine unE_exit ?_ | refine unE_ret ?_ | refine un_normal ?_)
    exact end_insn0 nilI rfl (getB_setB_self (Y1_0 _)) ⟨rfl, rfl⟩
end Go.Proofs.YteikpddilabppaaGreatR

namespace Go.Proofs.YteikpddilabppaaGreatR
open Go.AM
set_option maxRecDepth 100000
set_option linter.unusedSimpArgs false
set_option linter.unusedVariables false
def formIs (x : InsnS) (k : Nat) : Bool := (fOp k == x.op) && (decide (fSub k < 0) || (fSub k == x.sub))
def encL (x : InsnS) : Nat → Nat → Int × Int
  | 0, _ => (0, 3)
  | m + 1, k => if formIs x k = true then (putI k (fBase k) x, 0) else encL x m (k + 1)
noncomputable def encodeS (x : InsnS) : Int × Int := if rightI x = true then encL x 40 0 else (0, 3)
def encSt (x : InsnS) (k : Nat) : St := ⟨[⟨11, [], .c (.int .i64 k)⟩, ⟨10, [], .c (.int .i64 40)⟩, ⟨9, [], .c (.slice ⟨63, 0, 0, 0⟩ false 40)⟩, ⟨1, [], .c (.ptr ⟨0, 0, 0, 0⟩)⟩], ⟨64, Y1 (insnB x)⟩⟩
theorem con8 (x : InsnS) (H : Heap) : Con Tryz.prog 8 [.agg (insnL x)] H (fun v H' => v = .tup [.c (.int .u32 (encodeS x).1), .c (.int .i64 (encodeS x).2)] ∧ H' = H) := by
  have h0 : Con Tryz.prog 8 [.agg (insnL x)] ⟨0, []⟩ (fun v H' => v = .tup [.c (.int .u32 (encodeS x).1), .c (.int .i64 (encodeS x).2)] ∧ H' = ⟨0, []⟩) := by
    generalize hT : encodeS x = T
    unfold encodeS at hT
    (refine con_of_run mixed (fn := Tryz.f8) (by kernel_rfl) (by kernel_rfl) C8_ok (rs := [.tmp 2, .tmp 3]) (by kernel_rfl) (Nat.le_of_ble_eq_true (by kernel_rfl)) ?_; unfold C8; simp only [initT])
    repeat' (first | refine run_seq ?_ | refine run_skip ?_ | (refine run_region fun K hK => ?_; (try (simp (maxSteps := 10000000) only [insnL, C8r0, C8r1, C8r2, rwp_nil, rwp_cons, aop, gpath, St.get, slotAt, sfx, eqP, segsOf, St.put, addBlk, getB, ldn, rowNeed, nsub, shed, Seg.size, sizes, appL, argsOf, ptrsOf, cut, takeS, dropS, Nat.reduceAdd])); (repeat (first | (refine And.intro ?_ ?_; · decide) | ((first | (refine call_t _ (con11 x _) ?_; rintro v H' ⟨rfl, rfl⟩) | refine call_q _ (con11 x _) ?_ | refine call_g _ (imp_of (con11 x _)) ?_); simp (maxSteps := 10000000) only [rwp_nil, rwp_cons, rwpK_app, aop, gpath, St.get, slotAt, sfx, eqP, St.put, addBlk, un, shed]))); with_reducible refine hK _ ?_; clear hK K) | (refine run_cond rfl (fun hc => ?_) (fun hc => ?_) <;> try (simp only [*, Bool.true_eq_false, Bool.false_eq_true, Bool.not_true, Bool.not_false, Bool.true_or, Bool.or_true, Bool.false_or, Bool.or_false, Bool.false_and, Bool.and_false, bne_self_eq_false, beq_self_eq_true] at hc; done)) | refine run_block ?_ | refine run_ret ?_ | refine run_nil ?_ | refine run_exit ?_ | refine blk_normal ?_ | refine blk_ret ?_ | refine blk_here ?_ | refine blk_there rfl ?_ | refine loop_exit ?_ | refine loop_ret ?_ | refine un_exit ?_ | refine un_ret ?_ | refine unE_exit ?_ | refine unE_ret ?_ | refine un_normal ?_)
    · have hr : ¬ rightI x = true := by
        intro h
        rw [h] at hc
        cases hc
      rw [if_neg hr] at hT
      subst hT
      exact end_tmp2 rfl rfl rfl ⟨rfl, rfl⟩ ⟨rfl, rfl⟩ rfl rfl ⟨rfl, rfl⟩
    · have hr : rightI x = true := by simpa using hc
      rw [if_pos hr] at hT
      refine run_regionL fun K hK => ?_
      simp (maxSteps := 10000000) only [C8r3, rwp_cons, aop, gpath, St.get, appL, argsOf, ptrsOf]
      refine call_t _ (con12_1 _) ?_
      rintro v H' ⟨rfl, rfl⟩
      simp (maxSteps := 10000000) only [rwp_nil, rwp_cons, rwpK_app, aop, gpath, St.get, slotAt, sfx, eqP, St.put, addBlk, shed]
      refine hK _ (encSt x 0) (LeS.intro ids64 (fun i h => absurd h (Nat.not_lt_zero i)) diff64 rfl (by simp only [encSt, slotsLe, slotAt, leV, leV1, leC, leA, ids64, nthO, and_self, Int.natCast_zero]; decide) (Y1_le (insnB x) (insn_le x))) ?_
      clear hK K
      refine run_block ?_
      refine run_loop (fun q st => ∃ k : Nat, st = encSt x k ∧ q = 40 - k ∧ k ≤ 40 ∧ encL x (40 - k) k = T) 40 ⟨0, rfl, rfl, by decide, hT⟩ ?_
      clear hT
      rintro q st ⟨k, rfl, hq, hk, hT⟩
      simp only [encSt]
      repeat' (first | refine run_seq ?_ | refine run_skip ?_ | (refine run_region fun K hK => ?_; (try (simp (maxSteps := 10000000) only [C8r4, C8r9, rwp_nil, rwp_cons, aop, gpath, St.get, slotAt, sfx, eqP, St.put, addBlk, bin, isShift, sameK, arith, shed])); (repeat (first | (refine And.intro ?_ ?_; · decide))); with_reducible refine hK _ ?_; clear hK K) | (refine run_cond rfl (fun hc => ?_) (fun hc => ?_) <;> try (simp only [*, Bool.true_eq_false, Bool.false_eq_true, Bool.not_true, Bool.not_false, Bool.true_or, Bool.or_true, Bool.false_or, Bool.or_false, Bool.false_and, Bool.and_false, bne_self_eq_false, beq_self_eq_true] at hc; done)) | refine run_block ?_ | refine run_ret ?_ | refine run_nil ?_ | refine run_exit ?_ | refine blk_normal ?_ | refine blk_ret ?_ | refine blk_here ?_ | refine blk_there rfl ?_ | refine loop_exit ?_ | refine loop_ret ?_ | refine un_exit ?_ | refine un_ret ?_ | refine unE_exit ?_ | refine unE_ret ?_ | refine un_normal ?_)
      · have hlt : k < 40 := by have := of_decide_eq_true ‹decide ((k : Int) < 40) = true›; omega
        obtain ⟨m, hm⟩ : ∃ m, 40 - k = m + 1 := ⟨39 - k, by omega⟩
        have hw : IntKind.i64.wrap ((k : Int) + 1) = ((k + 1 : Nat) : Int) := by rw [IntKind.wrap_i64]; omega
        rw [hm] at hT
        unfold encL at hT
        repeat' (first | refine run_seq ?_ | refine run_skip ?_ | (refine run_region fun K hK => ?_; (try (simp (maxSteps := 10000000) only [insnL, insnB, Y1_forms, Y1_0, formB1, formRow1, C8r5, C8r6, C8r7, C8r8, rwp_nil, rwp_cons, aop, gpath, St.get, slotAt, sfx, eqP, St.put, addBlk, getB, setB, ld1, ldn, stn, setRow, rowNeed, segAt, nsub, bin, isShift, sameK, arith, getsl, selB_or, selB_and, beqb, shed, addN, Nat.beq, Seg.size, sizes, imp, appL, argsOf, ptrsOf, cut, takeS, dropS, putS, strOk, plusA, exOk, Nat.reduceAdd, List.append_nil, List.nil_append, Int.toNat_natCast])); (repeat (first | (refine And.intro ?_ ?_; · (first | decide | omega | (intros; omega))) | ((first | (refine call_t _ (put_con (fBase k) x _ _ (box_more (by decide) (Y1_box _)) (by decide) ⟨by decide, Y1_keysN _ _ (by decide)⟩ k hlt) ?_; rintro v H' ⟨rfl, rfl⟩) | refine call_q _ (put_con (fBase k) x _ _ (box_more (by decide) (Y1_box _)) (by decide) ⟨by decide, Y1_keysN _ _ (by decide)⟩ k hlt) ?_ | refine call_g _ (imp_of (put_con (fBase k) x _ _ (box_more (by decide) (Y1_box _)) (by decide) ⟨by decide, Y1_keysN _ _ (by decide)⟩ k hlt)) ?_); simp (maxSteps := 10000000) only [rwp_nil, rwp_cons, rwpK_app, aop, gpath, St.get, slotAt, sfx, eqP, St.put, addBlk, shed]))); with_reducible refine hK _ ?_; clear hK K) | (refine run_cond rfl (fun hc => ?_) (fun hc => ?_) <;> try (simp only [*, Bool.true_eq_false, Bool.false_eq_true, Bool.not_true, Bool.not_false, Bool.true_or, Bool.or_true, Bool.false_or, Bool.or_false, Bool.false_and, Bool.and_false, bne_self_eq_false, beq_self_eq_true] at hc; done)) | refine run_block ?_ | refine run_ret ?_ | refine run_nil ?_ | refine run_exit ?_ | refine blk_normal ?_ | refine blk_ret ?_ | refine blk_here ?_ | refine blk_there rfl ?_ | refine loop_exit ?_ | refine loop_ret ?_ | refine un_exit ?_ | refine un_ret ?_ | refine unE_exit ?_ | refine unE_ret ?_ | refine un_normal ?_)
        · have hc' : formIs x k = true := hc
          rw [if_pos hc'] at hT
          subst hT
          exact end_tmp2 rfl rfl rfl ⟨rfl, rfl⟩ ⟨rfl, rfl⟩ rfl rfl ⟨rfl, rfl⟩
        · have hc' : ¬ formIs x k = true := by
            have e : formIs x k = false := hc
            rw [e]
            exact Bool.false_ne_true
          rw [if_neg hc'] at hT
          rw [hw]
          exact loop_normal m (encSt x (k + 1)) (by omega) (LeS.intro ids64 (fun i h => absurd h (Nat.not_lt_zero i)) diff64 rfl (by simp only [encSt, slotsLe, slotAt, leV, leV1, leC, leA, ids64, nthO, and_self]) (leBlks_more (by decide) (Y1_le (insnB x) (insn_le x)))) ⟨k + 1, rfl, by omega, by omega, by rw [show 40 - (k + 1) = m by omega]; exact hT⟩
      · have hge : ¬ k < 40 := by have := of_decide_eq_false ‹decide ((k : Int) < 40) = false›; omega
        have h0 : 40 - k = 0 := by omega
        rw [h0] at hT
        have e : ((0, 3) : Int × Int) = T := hT
        subst e
        repeat' (first | refine run_seq ?_ | refine run_skip ?_ | (refine run_region fun K hK => ?_; (try (simp (maxSteps := 10000000) only [C8r0, C8r1, C8r2, C8r3, C8r4, C8r5, C8r6, C8r7, C8r8, C8r9, rwp_nil, rwp_cons, rwpK_app, aop, gpath, St.get, slotAt, sfx, eqP, segsOf, St.put, addBlk, getB, setB, delB, ld1, ldn, st1, stn, setRow, rowNeed, segAt, nsub, bin, un, eqB, isShift, sameK, arith, shiftR, getsl, selB_or, selB_and, beqb, shed, addN, Nat.beq, Seg.size, sizes, imp, needP, andN, appL, argsOf, ptrsOf, aasOf, cut, takeS, dropS, putS, partsOf, fillS, fieldOf, nthA, negIf, nilq, nilB, eqS, eqF, eqS1, andP, kin, slcS, strOk, plusA, bndHi, leN, optG, roH, roL, initT, exOk, exAll, wrAddr, Nat.reduceAdd, Nat.reduceSub, Nat.reduceMul, Int.reduceToNat, List.append_nil, List.nil_append, List.cons_append, eqT, idxT, cat, cpy, ite_int, ite_bool, ite_seg, ite_segs, ite_nil, ite_twice, Int.toNat_natCast, app, addBs, tob])); (repeat (first | (refine And.intro ?_ ?_; · first | trivial | assumption | omega))); with_reducible refine hK _ ?_; clear hK K) | (refine run_cond rfl (fun hc => ?_) (fun hc => ?_) <;> try (simp only [*, Bool.true_eq_false, Bool.false_eq_true, Bool.not_true, Bool.not_false, Bool.true_or, Bool.or_true, Bool.false_or, Bool.or_false, Bool.false_and, Bool.and_false, bne_self_eq_false, beq_self_eq_true] at hc; done)) | refine run_block ?_ | refine run_ret ?_ | refine run_nil ?_ | refine run_exit ?_ | refine blk_normal ?_ | refine blk_ret ?_ | refine blk_here ?_ | refine blk_there rfl ?_ | refine loop_exit ?_ | refine loop_ret ?_ | refine un_exit ?_ | refine un_ret ?_ | refine unE_exit ?_ | refine unE_ret ?_ | refine un_normal ?_)
        exact end_tmp2 rfl rfl rfl ⟨rfl, rfl⟩ ⟨rfl, rfl⟩ rfl rfl ⟨rfl, rfl⟩
  refine Con.pure (Con.forget h0 ?_) (by simp only [leArgs, leV, leV1, insnL, leSegs, leSeg, leC, and_self]) rfl H
  rintro v H' ⟨rfl, rfl⟩
  exact ⟨_, ⟨0, []⟩, [], fun i h => absurd h (Nat.not_lt_zero i), trivial, rfl, trivial, by simp only [leV, leV1, leC, leVL, and_self], rfl, rfl⟩
end Go.Proofs.YteikpddilabppaaGreatR

namespace Go.Proofs.YteikpddilabppaaGreatR
open Go.AM
set_option maxRecDepth 100000
set_option linter.unusedSimpArgs false
set_option linter.unusedVariables false
theorem rightI_1 {i : InsnS} (h : i.op = 1) : rightI i = rightB i ⟨#[100, 110, 105, 107, 70, 77]⟩ (addImmOk i) := by
  unfold rightI
  rw [if_pos h]
theorem rightI_2 {i : InsnS} (h : i.op = 2) : rightI i = rightB i ⟨#[100, 110, 109, 116, 107, 70, 77]⟩ (addRegOk i) := by
  unfold rightI
  rw [if_neg (by rw [h]; decide)]
  rw [if_pos h]
theorem rightI_3 {i : InsnS} (h : i.op = 3) : rightI i = rightB i ⟨#[100, 110, 109, 115, 116, 107, 70, 78]⟩ (logRegOk i) := by
  unfold rightI
  rw [if_neg (by rw [h]; decide)]
  rw [if_neg (by rw [h]; decide)]
  rw [if_pos h]
theorem rightI_4 {i : InsnS} (h : i.op = 4) : rightI i = rightB i ⟨#[100, 110, 115, 107, 105, 106, 70]⟩ (logImmOk i) := by
  unfold rightI
  rw [if_neg (by rw [h]; decide)]
  rw [if_neg (by rw [h]; decide)]
  rw [if_neg (by rw [h]; decide)]
  rw [if_pos h]
theorem rightI_5 {i : InsnS} (h : i.op = 5) : rightI i = rightB i ⟨#[100, 115, 105, 107]⟩ (movWideOk i) := by
  unfold rightI
  rw [if_neg (by rw [h]; decide)]
  rw [if_neg (by rw [h]; decide)]
  rw [if_neg (by rw [h]; decide)]
  rw [if_neg (by rw [h]; decide)]
  rw [if_pos h]
theorem rightI_6 {i : InsnS} (h : i.op = 6) : rightI i = rightB i ⟨#[100, 110, 115, 105, 106]⟩ (bitfieldOk i) := by
  unfold rightI
  rw [if_neg (by rw [h]; decide)]
  rw [if_neg (by rw [h]; decide)]
  rw [if_neg (by rw [h]; decide)]
  rw [if_neg (by rw [h]; decide)]
  rw [if_neg (by rw [h]; decide)]
  rw [if_pos h]
theorem rightI_7 {i : InsnS} (h : i.op = 7) : rightI i = rightB i ⟨#[100, 110, 109, 115]⟩ (inL (fun i => (i : Int)) 4 i.sub) := by
  unfold rightI
  rw [if_neg (by rw [h]; decide)]
  rw [if_neg (by rw [h]; decide)]
  rw [if_neg (by rw [h]; decide)]
  rw [if_neg (by rw [h]; decide)]
  rw [if_neg (by rw [h]; decide)]
  rw [if_neg (by rw [h]; decide)]
  rw [if_pos h]
theorem rightI_8 {i : InsnS} (h : i.op = 8) : rightI i = rightB i ⟨#[100, 110, 109, 97, 77]⟩ (noneOk i) := by
  unfold rightI
  rw [if_neg (by rw [h]; decide)]
  rw [if_neg (by rw [h]; decide)]
  rw [if_neg (by rw [h]; decide)]
  rw [if_neg (by rw [h]; decide)]
  rw [if_neg (by rw [h]; decide)]
  rw [if_neg (by rw [h]; decide)]
  rw [if_neg (by rw [h]; decide)]
  rw [if_pos h]
theorem rightI_9 {i : InsnS} (h : i.op = 9) : rightI i = rightB i ⟨#[100, 110, 109, 115]⟩ (inL (fun i => (i : Int)) 2 i.sub) := by
  unfold rightI
  rw [if_neg (by rw [h]; decide)]
  rw [if_neg (by rw [h]; decide)]
  rw [if_neg (by rw [h]; decide)]
  rw [if_neg (by rw [h]; decide)]
  rw [if_neg (by rw [h]; decide)]
  rw [if_neg (by rw [h]; decide)]
  rw [if_neg (by rw [h]; decide)]
  rw [if_neg (by rw [h]; decide)]
  rw [if_pos h]
theorem rightI_10 {i : InsnS} (h : i.op = 10) : rightI i = rightB i ⟨#[100, 110, 109, 115, 99]⟩ (selOk i) := by
  unfold rightI
  rw [if_neg (by rw [h]; decide)]
  rw [if_neg (by rw [h]; decide)]
  rw [if_neg (by rw [h]; decide)]
  rw [if_neg (by rw [h]; decide)]
  rw [if_neg (by rw [h]; decide)]
  rw [if_neg (by rw [h]; decide)]
  rw [if_neg (by rw [h]; decide)]
  rw [if_neg (by rw [h]; decide)]
  rw [if_neg (by rw [h]; decide)]
  rw [if_pos h]
theorem rightI_11 {i : InsnS} (h : i.op = 11) : rightI i = rightB i ⟨#[100, 115, 105]⟩ (adrOk i) := by
  unfold rightI
  rw [if_neg (by rw [h]; decide)]
  rw [if_neg (by rw [h]; decide)]
  rw [if_neg (by rw [h]; decide)]
  rw [if_neg (by rw [h]; decide)]
  rw [if_neg (by rw [h]; decide)]
  rw [if_neg (by rw [h]; decide)]
  rw [if_neg (by rw [h]; decide)]
  rw [if_neg (by rw [h]; decide)]
  rw [if_neg (by rw [h]; decide)]
  rw [if_neg (by rw [h]; decide)]
  rw [if_pos h]
theorem rightI_12 {i : InsnS} (h : i.op = 12) : rightI i = rightB i ⟨#[105, 76]⟩ (farS 27 i) := by
  unfold rightI
  rw [if_neg (by rw [h]; decide)]
  rw [if_neg (by rw [h]; decide)]
  rw [if_neg (by rw [h]; decide)]
  rw [if_neg (by rw [h]; decide)]
  rw [if_neg (by rw [h]; decide)]
  rw [if_neg (by rw [h]; decide)]
  rw [if_neg (by rw [h]; decide)]
  rw [if_neg (by rw [h]; decide)]
  rw [if_neg (by rw [h]; decide)]
  rw [if_neg (by rw [h]; decide)]
  rw [if_neg (by rw [h]; decide)]
  rw [if_pos h]
theorem rightI_13 {i : InsnS} (h : i.op = 13) : rightI i = rightB i ⟨#[99, 105]⟩ (bCondOk i) := by
  unfold rightI
  rw [if_neg (by rw [h]; decide)]
  rw [if_neg (by rw [h]; decide)]
  rw [if_neg (by rw [h]; decide)]
  rw [if_neg (by rw [h]; decide)]
  rw [if_neg (by rw [h]; decide)]
  rw [if_neg (by rw [h]; decide)]
  rw [if_neg (by rw [h]; decide)]
  rw [if_neg (by rw [h]; decide)]
  rw [if_neg (by rw [h]; decide)]
  rw [if_neg (by rw [h]; decide)]
  rw [if_neg (by rw [h]; decide)]
  rw [if_neg (by rw [h]; decide)]
  rw [if_pos h]
theorem rightI_14 {i : InsnS} (h : i.op = 14) : rightI i = rightB i ⟨#[100, 105, 78]⟩ (farS 20 i) := by
  unfold rightI
  rw [if_neg (by rw [h]; decide)]
  rw [if_neg (by rw [h]; decide)]
  rw [if_neg (by rw [h]; decide)]
  rw [if_neg (by rw [h]; decide)]
  rw [if_neg (by rw [h]; decide)]
  rw [if_neg (by rw [h]; decide)]
  rw [if_neg (by rw [h]; decide)]
  rw [if_neg (by rw [h]; decide)]
  rw [if_neg (by rw [h]; decide)]
  rw [if_neg (by rw [h]; decide)]
  rw [if_neg (by rw [h]; decide)]
  rw [if_neg (by rw [h]; decide)]
  rw [if_neg (by rw [h]; decide)]
  rw [if_pos h]
theorem rightI_15 {i : InsnS} (h : i.op = 15) : rightI i = rightB i ⟨#[100, 105, 107, 78]⟩ (tbzOk i) := by
  unfold rightI
  rw [if_neg (by rw [h]; decide)]
  rw [if_neg (by rw [h]; decide)]
  rw [if_neg (by rw [h]; decide)]
  rw [if_neg (by rw [h]; decide)]
  rw [if_neg (by rw [h]; decide)]
  rw [if_neg (by rw [h]; decide)]
  rw [if_neg (by rw [h]; decide)]
  rw [if_neg (by rw [h]; decide)]
  rw [if_neg (by rw [h]; decide)]
  rw [if_neg (by rw [h]; decide)]
  rw [if_neg (by rw [h]; decide)]
  rw [if_neg (by rw [h]; decide)]
  rw [if_neg (by rw [h]; decide)]
  rw [if_neg (by rw [h]; decide)]
  rw [if_pos h]
theorem rightI_16 {i : InsnS} (h : i.op = 16) : rightI i = rightB i ⟨#[110, 115]⟩ (inL (fun i => (i : Int)) 3 i.sub) := by
  unfold rightI
  rw [if_neg (by rw [h]; decide)]
  rw [if_neg (by rw [h]; decide)]
  rw [if_neg (by rw [h]; decide)]
  rw [if_neg (by rw [h]; decide)]
  rw [if_neg (by rw [h]; decide)]
  rw [if_neg (by rw [h]; decide)]
  rw [if_neg (by rw [h]; decide)]
  rw [if_neg (by rw [h]; decide)]
  rw [if_neg (by rw [h]; decide)]
  rw [if_neg (by rw [h]; decide)]
  rw [if_neg (by rw [h]; decide)]
  rw [if_neg (by rw [h]; decide)]
  rw [if_neg (by rw [h]; decide)]
  rw [if_neg (by rw [h]; decide)]
  rw [if_neg (by rw [h]; decide)]
  rw [if_pos h]
theorem rightI_17 {i : InsnS} (h : i.op = 17) : rightI i = rightB i ⟨#[100, 110, 105]⟩ (ldrOk i) := by
  unfold rightI
  rw [if_neg (by rw [h]; decide)]
  rw [if_neg (by rw [h]; decide)]
  rw [if_neg (by rw [h]; decide)]
  rw [if_neg (by rw [h]; decide)]
  rw [if_neg (by rw [h]; decide)]
  rw [if_neg (by rw [h]; decide)]
  rw [if_neg (by rw [h]; decide)]
  rw [if_neg (by rw [h]; decide)]
  rw [if_neg (by rw [h]; decide)]
  rw [if_neg (by rw [h]; decide)]
  rw [if_neg (by rw [h]; decide)]
  rw [if_neg (by rw [h]; decide)]
  rw [if_neg (by rw [h]; decide)]
  rw [if_neg (by rw [h]; decide)]
  rw [if_neg (by rw [h]; decide)]
  rw [if_neg (by rw [h]; decide)]
  rw [if_pos h]
theorem rightI_18 {i : InsnS} (h : i.op = 18) : rightI i = rightB i ⟨#[100, 110, 105]⟩ (ldrOk i) := by
  unfold rightI
  rw [if_neg (by rw [h]; decide)]
  rw [if_neg (by rw [h]; decide)]
  rw [if_neg (by rw [h]; decide)]
  rw [if_neg (by rw [h]; decide)]
  rw [if_neg (by rw [h]; decide)]
  rw [if_neg (by rw [h]; decide)]
  rw [if_neg (by rw [h]; decide)]
  rw [if_neg (by rw [h]; decide)]
  rw [if_neg (by rw [h]; decide)]
  rw [if_neg (by rw [h]; decide)]
  rw [if_neg (by rw [h]; decide)]
  rw [if_neg (by rw [h]; decide)]
  rw [if_neg (by rw [h]; decide)]
  rw [if_neg (by rw [h]; decide)]
  rw [if_neg (by rw [h]; decide)]
  rw [if_neg (by rw [h]; decide)]
  rw [if_neg (by rw [h]; decide)]
  rw [if_pos h]
theorem rightI_19 {i : InsnS} (h : i.op = 19) : rightI i = rightB i ⟨#[100, 110, 109, 107]⟩ (ldrRegOk i) := by
  unfold rightI
  rw [if_neg (by rw [h]; decide)]
  rw [if_neg (by rw [h]; decide)]
  rw [if_neg (by rw [h]; decide)]
  rw [if_neg (by rw [h]; decide)]
  rw [if_neg (by rw [h]; decide)]
  rw [if_neg (by rw [h]; decide)]
  rw [if_neg (by rw [h]; decide)]
  rw [if_neg (by rw [h]; decide)]
  rw [if_neg (by rw [h]; decide)]
  rw [if_neg (by rw [h]; decide)]
  rw [if_neg (by rw [h]; decide)]
  rw [if_neg (by rw [h]; decide)]
  rw [if_neg (by rw [h]; decide)]
  rw [if_neg (by rw [h]; decide)]
  rw [if_neg (by rw [h]; decide)]
  rw [if_neg (by rw [h]; decide)]
  rw [if_neg (by rw [h]; decide)]
  rw [if_neg (by rw [h]; decide)]
  rw [if_pos h]
theorem rightI_20 {i : InsnS} (h : i.op = 20) : rightI i = rightB i ⟨#[100, 110, 109, 107]⟩ (ldrRegOk i) := by
  unfold rightI
  rw [if_neg (by rw [h]; decide)]
  rw [if_neg (by rw [h]; decide)]
  rw [if_neg (by rw [h]; decide)]
  rw [if_neg (by rw [h]; decide)]
  rw [if_neg (by rw [h]; decide)]
  rw [if_neg (by rw [h]; decide)]
  rw [if_neg (by rw [h]; decide)]
  rw [if_neg (by rw [h]; decide)]
  rw [if_neg (by rw [h]; decide)]
  rw [if_neg (by rw [h]; decide)]
  rw [if_neg (by rw [h]; decide)]
  rw [if_neg (by rw [h]; decide)]
  rw [if_neg (by rw [h]; decide)]
  rw [if_neg (by rw [h]; decide)]
  rw [if_neg (by rw [h]; decide)]
  rw [if_neg (by rw [h]; decide)]
  rw [if_neg (by rw [h]; decide)]
  rw [if_neg (by rw [h]; decide)]
  rw [if_neg (by rw [h]; decide)]
  rw [if_pos h]
theorem rightI_21 {i : InsnS} (h : i.op = 21) : rightI i = rightB i ⟨#[100, 110, 115]⟩ (inL (fun i => (i : Int)) 2 i.sub) := by
  unfold rightI
  rw [if_neg (by rw [h]; decide)]
  rw [if_neg (by rw [h]; decide)]
  rw [if_neg (by rw [h]; decide)]
  rw [if_neg (by rw [h]; decide)]
  rw [if_neg (by rw [h]; decide)]
  rw [if_neg (by rw [h]; decide)]
  rw [if_neg (by rw [h]; decide)]
  rw [if_neg (by rw [h]; decide)]
  rw [if_neg (by rw [h]; decide)]
  rw [if_neg (by rw [h]; decide)]
  rw [if_neg (by rw [h]; decide)]
  rw [if_neg (by rw [h]; decide)]
  rw [if_neg (by rw [h]; decide)]
  rw [if_neg (by rw [h]; decide)]
  rw [if_neg (by rw [h]; decide)]
  rw [if_neg (by rw [h]; decide)]
  rw [if_neg (by rw [h]; decide)]
  rw [if_neg (by rw [h]; decide)]
  rw [if_neg (by rw [h]; decide)]
  rw [if_neg (by rw [h]; decide)]
  rw [if_pos h]
theorem rightI_22 {i : InsnS} (h : i.op = 22) : rightI i = rightB i ⟨#[100, 110]⟩ (noneOk i) := by
  unfold rightI
  rw [if_neg (by rw [h]; decide)]
  rw [if_neg (by rw [h]; decide)]
  rw [if_neg (by rw [h]; decide)]
  rw [if_neg (by rw [h]; decide)]
  rw [if_neg (by rw [h]; decide)]
  rw [if_neg (by rw [h]; decide)]
  rw [if_neg (by rw [h]; decide)]
  rw [if_neg (by rw [h]; decide)]
  rw [if_neg (by rw [h]; decide)]
  rw [if_neg (by rw [h]; decide)]
  rw [if_neg (by rw [h]; decide)]
  rw [if_neg (by rw [h]; decide)]
  rw [if_neg (by rw [h]; decide)]
  rw [if_neg (by rw [h]; decide)]
  rw [if_neg (by rw [h]; decide)]
  rw [if_neg (by rw [h]; decide)]
  rw [if_neg (by rw [h]; decide)]
  rw [if_neg (by rw [h]; decide)]
  rw [if_neg (by rw [h]; decide)]
  rw [if_neg (by rw [h]; decide)]
  rw [if_neg (by rw [h]; decide)]
  rw [if_pos h]
theorem rightI_23 {i : InsnS} (h : i.op = 23) : rightI i = rightB i ⟨#[100, 110, 115]⟩ (inL (fun i => (i : Int)) 2 i.sub) := by
  unfold rightI
  rw [if_neg (by rw [h]; decide)]
  rw [if_neg (by rw [h]; decide)]
  rw [if_neg (by rw [h]; decide)]
  rw [if_neg (by rw [h]; decide)]
  rw [if_neg (by rw [h]; decide)]
  rw [if_neg (by rw [h]; decide)]
  rw [if_neg (by rw [h]; decide)]
  rw [if_neg (by rw [h]; decide)]
  rw [if_neg (by rw [h]; decide)]
  rw [if_neg (by rw [h]; decide)]
  rw [if_neg (by rw [h]; decide)]
  rw [if_neg (by rw [h]; decide)]
  rw [if_neg (by rw [h]; decide)]
  rw [if_neg (by rw [h]; decide)]
  rw [if_neg (by rw [h]; decide)]
  rw [if_neg (by rw [h]; decide)]
  rw [if_neg (by rw [h]; decide)]
  rw [if_neg (by rw [h]; decide)]
  rw [if_neg (by rw [h]; decide)]
  rw [if_neg (by rw [h]; decide)]
  rw [if_neg (by rw [h]; decide)]
  rw [if_neg (by rw [h]; decide)]
  rw [if_pos h]
theorem rightI_24 {i : InsnS} (h : i.op = 24) : rightI i = rightB i ⟨#[100, 110, 109, 115]⟩ (inL (fun i => (i : Int)) 2 i.sub) := by
  unfold rightI
  rw [if_neg (by rw [h]; decide)]
  rw [if_neg (by rw [h]; decide)]
  rw [if_neg (by rw [h]; decide)]
  rw [if_neg (by rw [h]; decide)]
  rw [if_neg (by rw [h]; decide)]
  rw [if_neg (by rw [h]; decide)]
  rw [if_neg (by rw [h]; decide)]
  rw [if_neg (by rw [h]; decide)]
  rw [if_neg (by rw [h]; decide)]
  rw [if_neg (by rw [h]; decide)]
  rw [if_neg (by rw [h]; decide)]
  rw [if_neg (by rw [h]; decide)]
  rw [if_neg (by rw [h]; decide)]
  rw [if_neg (by rw [h]; decide)]
  rw [if_neg (by rw [h]; decide)]
  rw [if_neg (by rw [h]; decide)]
  rw [if_neg (by rw [h]; decide)]
  rw [if_neg (by rw [h]; decide)]
  rw [if_neg (by rw [h]; decide)]
  rw [if_neg (by rw [h]; decide)]
  rw [if_neg (by rw [h]; decide)]
  rw [if_neg (by rw [h]; decide)]
  rw [if_neg (by rw [h]; decide)]
  rw [if_pos h]
theorem rightI_25 {i : InsnS} (h : i.op = 25) : rightI i = rightB i ⟨#[]⟩ (noneOk i) := by
  unfold rightI
  rw [if_neg (by rw [h]; decide)]
  rw [if_neg (by rw [h]; decide)]
  rw [if_neg (by rw [h]; decide)]
  rw [if_neg (by rw [h]; decide)]
  rw [if_neg (by rw [h]; decide)]
  rw [if_neg (by rw [h]; decide)]
  rw [if_neg (by rw [h]; decide)]
  rw [if_neg (by rw [h]; decide)]
  rw [if_neg (by rw [h]; decide)]
  rw [if_neg (by rw [h]; decide)]
  rw [if_neg (by rw [h]; decide)]
  rw [if_neg (by rw [h]; decide)]
  rw [if_neg (by rw [h]; decide)]
  rw [if_neg (by rw [h]; decide)]
  rw [if_neg (by rw [h]; decide)]
  rw [if_neg (by rw [h]; decide)]
  rw [if_neg (by rw [h]; decide)]
  rw [if_neg (by rw [h]; decide)]
  rw [if_neg (by rw [h]; decide)]
  rw [if_neg (by rw [h]; decide)]
  rw [if_neg (by rw [h]; decide)]
  rw [if_neg (by rw [h]; decide)]
  rw [if_neg (by rw [h]; decide)]
  rw [if_neg (by rw [h]; decide)]
  rw [if_pos h]
theorem rightI_26 {i : InsnS} (h : i.op = 26) : rightI i = rightB i ⟨#[115, 105]⟩ (dmbOk i) := by
  unfold rightI
  rw [if_neg (by rw [h]; decide)]
  rw [if_neg (by rw [h]; decide)]
  rw [if_neg (by rw [h]; decide)]
  rw [if_neg (by rw [h]; decide)]
  rw [if_neg (by rw [h]; decide)]
  rw [if_neg (by rw [h]; decide)]
  rw [if_neg (by rw [h]; decide)]
  rw [if_neg (by rw [h]; decide)]
  rw [if_neg (by rw [h]; decide)]
  rw [if_neg (by rw [h]; decide)]
  rw [if_neg (by rw [h]; decide)]
  rw [if_neg (by rw [h]; decide)]
  rw [if_neg (by rw [h]; decide)]
  rw [if_neg (by rw [h]; decide)]
  rw [if_neg (by rw [h]; decide)]
  rw [if_neg (by rw [h]; decide)]
  rw [if_neg (by rw [h]; decide)]
  rw [if_neg (by rw [h]; decide)]
  rw [if_neg (by rw [h]; decide)]
  rw [if_neg (by rw [h]; decide)]
  rw [if_neg (by rw [h]; decide)]
  rw [if_neg (by rw [h]; decide)]
  rw [if_neg (by rw [h]; decide)]
  rw [if_neg (by rw [h]; decide)]
  rw [if_neg (by rw [h]; decide)]
  rw [if_pos h]
theorem rightI_27 {i : InsnS} (h : i.op = 27) : rightI i = rightB i ⟨#[]⟩ (noneOk i) := by
  unfold rightI
  rw [if_neg (by rw [h]; decide)]
  rw [if_neg (by rw [h]; decide)]
  rw [if_neg (by rw [h]; decide)]
  rw [if_neg (by rw [h]; decide)]
  rw [if_neg (by rw [h]; decide)]
  rw [if_neg (by rw [h]; decide)]
  rw [if_neg (by rw [h]; decide)]
  rw [if_neg (by rw [h]; decide)]
  rw [if_neg (by rw [h]; decide)]
  rw [if_neg (by rw [h]; decide)]
  rw [if_neg (by rw [h]; decide)]
  rw [if_neg (by rw [h]; decide)]
  rw [if_neg (by rw [h]; decide)]
  rw [if_neg (by rw [h]; decide)]
  rw [if_neg (by rw [h]; decide)]
  rw [if_neg (by rw [h]; decide)]
  rw [if_neg (by rw [h]; decide)]
  rw [if_neg (by rw [h]; decide)]
  rw [if_neg (by rw [h]; decide)]
  rw [if_neg (by rw [h]; decide)]
  rw [if_neg (by rw [h]; decide)]
  rw [if_neg (by rw [h]; decide)]
  rw [if_neg (by rw [h]; decide)]
  rw [if_neg (by rw [h]; decide)]
  rw [if_neg (by rw [h]; decide)]
  rw [if_neg (by rw [h]; decide)]
  rw [if_pos h]
theorem rightI_28 {i : InsnS} (h : i.op = 28) : rightI i = rightB i ⟨#[100]⟩ (noneOk i) := by
  unfold rightI
  rw [if_neg (by rw [h]; decide)]
  rw [if_neg (by rw [h]; decide)]
  rw [if_neg (by rw [h]; decide)]
  rw [if_neg (by rw [h]; decide)]
  rw [if_neg (by rw [h]; decide)]
  rw [if_neg (by rw [h]; decide)]
  rw [if_neg (by rw [h]; decide)]
  rw [if_neg (by rw [h]; decide)]
  rw [if_neg (by rw [h]; decide)]
  rw [if_neg (by rw [h]; decide)]
  rw [if_neg (by rw [h]; decide)]
  rw [if_neg (by rw [h]; decide)]
  rw [if_neg (by rw [h]; decide)]
  rw [if_neg (by rw [h]; decide)]
  rw [if_neg (by rw [h]; decide)]
  rw [if_neg (by rw [h]; decide)]
  rw [if_neg (by rw [h]; decide)]
  rw [if_neg (by rw [h]; decide)]
  rw [if_neg (by rw [h]; decide)]
  rw [if_neg (by rw [h]; decide)]
  rw [if_neg (by rw [h]; decide)]
  rw [if_neg (by rw [h]; decide)]
  rw [if_neg (by rw [h]; decide)]
  rw [if_neg (by rw [h]; decide)]
  rw [if_neg (by rw [h]; decide)]
  rw [if_neg (by rw [h]; decide)]
  rw [if_neg (by rw [h]; decide)]
  rw [if_pos h]
theorem rightI_29 {i : InsnS} (h : i.op = 29) : rightI i = rightB i ⟨#[]⟩ (noneOk i) := by
  unfold rightI
  rw [if_neg (by rw [h]; decide)]
  rw [if_neg (by rw [h]; decide)]
  rw [if_neg (by rw [h]; decide)]
  rw [if_neg (by rw [h]; decide)]
  rw [if_neg (by rw [h]; decide)]
  rw [if_neg (by rw [h]; decide)]
  rw [if_neg (by rw [h]; decide)]
  rw [if_neg (by rw [h]; decide)]
  rw [if_neg (by rw [h]; decide)]
  rw [if_neg (by rw [h]; decide)]
  rw [if_neg (by rw [h]; decide)]
  rw [if_neg (by rw [h]; decide)]
  rw [if_neg (by rw [h]; decide)]
  rw [if_neg (by rw [h]; decide)]
  rw [if_neg (by rw [h]; decide)]
  rw [if_neg (by rw [h]; decide)]
  rw [if_neg (by rw [h]; decide)]
  rw [if_neg (by rw [h]; decide)]
  rw [if_neg (by rw [h]; decide)]
  rw [if_neg (by rw [h]; decide)]
  rw [if_neg (by rw [h]; decide)]
  rw [if_neg (by rw [h]; decide)]
  rw [if_neg (by rw [h]; decide)]
  rw [if_neg (by rw [h]; decide)]
  rw [if_neg (by rw [h]; decide)]
  rw [if_neg (by rw [h]; decide)]
  rw [if_neg (by rw [h]; decide)]
  rw [if_neg (by rw [h]; decide)]
  rw [if_pos h]
theorem rightI_30 {i : InsnS} (h : i.op = 30) : rightI i = rightB i ⟨#[100]⟩ (noneOk i) := by
  unfold rightI
  rw [if_neg (by rw [h]; decide)]
  rw [if_neg (by rw [h]; decide)]
  rw [if_neg (by rw [h]; decide)]
  rw [if_neg (by rw [h]; decide)]
  rw [if_neg (by rw [h]; decide)]
  rw [if_neg (by rw [h]; decide)]
  rw [if_neg (by rw [h]; decide)]
  rw [if_neg (by rw [h]; decide)]
  rw [if_neg (by rw [h]; decide)]
  rw [if_neg (by rw [h]; decide)]
  rw [if_neg (by rw [h]; decide)]
  rw [if_neg (by rw [h]; decide)]
  rw [if_neg (by rw [h]; decide)]
  rw [if_neg (by rw [h]; decide)]
  rw [if_neg (by rw [h]; decide)]
  rw [if_neg (by rw [h]; decide)]
  rw [if_neg (by rw [h]; decide)]
  rw [if_neg (by rw [h]; decide)]
  rw [if_neg (by rw [h]; decide)]
  rw [if_neg (by rw [h]; decide)]
  rw [if_neg (by rw [h]; decide)]
  rw [if_neg (by rw [h]; decide)]
  rw [if_neg (by rw [h]; decide)]
  rw [if_neg (by rw [h]; decide)]
  rw [if_neg (by rw [h]; decide)]
  rw [if_neg (by rw [h]; decide)]
  rw [if_neg (by rw [h]; decide)]
  rw [if_neg (by rw [h]; decide)]
  rw [if_neg (by rw [h]; decide)]
  rw [if_pos h]
theorem rightI_31 {i : InsnS} (h : i.op = 31) : rightI i = rightB i ⟨#[100, 121]⟩ (sysOk i) := by
  unfold rightI
  rw [if_neg (by rw [h]; decide)]
  rw [if_neg (by rw [h]; decide)]
  rw [if_neg (by rw [h]; decide)]
  rw [if_neg (by rw [h]; decide)]
  rw [if_neg (by rw [h]; decide)]
  rw [if_neg (by rw [h]; decide)]
  rw [if_neg (by rw [h]; decide)]
  rw [if_neg (by rw [h]; decide)]
  rw [if_neg (by rw [h]; decide)]
  rw [if_neg (by rw [h]; decide)]
  rw [if_neg (by rw [h]; decide)]
  rw [if_neg (by rw [h]; decide)]
  rw [if_neg (by rw [h]; decide)]
  rw [if_neg (by rw [h]; decide)]
  rw [if_neg (by rw [h]; decide)]
  rw [if_neg (by rw [h]; decide)]
  rw [if_neg (by rw [h]; decide)]
  rw [if_neg (by rw [h]; decide)]
  rw [if_neg (by rw [h]; decide)]
  rw [if_neg (by rw [h]; decide)]
  rw [if_neg (by rw [h]; decide)]
  rw [if_neg (by rw [h]; decide)]
  rw [if_neg (by rw [h]; decide)]
  rw [if_neg (by rw [h]; decide)]
  rw [if_neg (by rw [h]; decide)]
  rw [if_neg (by rw [h]; decide)]
  rw [if_neg (by rw [h]; decide)]
  rw [if_neg (by rw [h]; decide)]
  rw [if_neg (by rw [h]; decide)]
  rw [if_neg (by rw [h]; decide)]
  rw [if_pos h]
theorem rightI_32 {i : InsnS} (h : i.op = 32) : rightI i = rightB i ⟨#[100, 121]⟩ (sysOk i) := by
  unfold rightI
  rw [if_neg (by rw [h]; decide)]
  rw [if_neg (by rw [h]; decide)]
  rw [if_neg (by rw [h]; decide)]
  rw [if_neg (by rw [h]; decide)]
  rw [if_neg (by rw [h]; decide)]
  rw [if_neg (by rw [h]; decide)]
  rw [if_neg (by rw [h]; decide)]
  rw [if_neg (by rw [h]; decide)]
  rw [if_neg (by rw [h]; decide)]
  rw [if_neg (by rw [h]; decide)]
  rw [if_neg (by rw [h]; decide)]
  rw [if_neg (by rw [h]; decide)]
  rw [if_neg (by rw [h]; decide)]
  rw [if_neg (by rw [h]; decide)]
  rw [if_neg (by rw [h]; decide)]
  rw [if_neg (by rw [h]; decide)]
  rw [if_neg (by rw [h]; decide)]
  rw [if_neg (by rw [h]; decide)]
  rw [if_neg (by rw [h]; decide)]
  rw [if_neg (by rw [h]; decide)]
  rw [if_neg (by rw [h]; decide)]
  rw [if_neg (by rw [h]; decide)]
  rw [if_neg (by rw [h]; decide)]
  rw [if_neg (by rw [h]; decide)]
  rw [if_neg (by rw [h]; decide)]
  rw [if_neg (by rw [h]; decide)]
  rw [if_neg (by rw [h]; decide)]
  rw [if_neg (by rw [h]; decide)]
  rw [if_neg (by rw [h]; decide)]
  rw [if_neg (by rw [h]; decide)]
  rw [if_neg (by rw [h]; decide)]
  rw [if_pos h]
theorem rightI_33 {i : InsnS} (h : i.op = 33) : rightI i = rightB i ⟨#[115, 105]⟩ (msrMaskOk i) := by
  unfold rightI
  rw [if_neg (by rw [h]; decide)]
  rw [if_neg (by rw [h]; decide)]
  rw [if_neg (by rw [h]; decide)]
  rw [if_neg (by rw [h]; decide)]
  rw [if_neg (by rw [h]; decide)]
  rw [if_neg (by rw [h]; decide)]
  rw [if_neg (by rw [h]; decide)]
  rw [if_neg (by rw [h]; decide)]
  rw [if_neg (by rw [h]; decide)]
  rw [if_neg (by rw [h]; decide)]
  rw [if_neg (by rw [h]; decide)]
  rw [if_neg (by rw [h]; decide)]
  rw [if_neg (by rw [h]; decide)]
  rw [if_neg (by rw [h]; decide)]
  rw [if_neg (by rw [h]; decide)]
  rw [if_neg (by rw [h]; decide)]
  rw [if_neg (by rw [h]; decide)]
  rw [if_neg (by rw [h]; decide)]
  rw [if_neg (by rw [h]; decide)]
  rw [if_neg (by rw [h]; decide)]
  rw [if_neg (by rw [h]; decide)]
  rw [if_neg (by rw [h]; decide)]
  rw [if_neg (by rw [h]; decide)]
  rw [if_neg (by rw [h]; decide)]
  rw [if_neg (by rw [h]; decide)]
  rw [if_neg (by rw [h]; decide)]
  rw [if_neg (by rw [h]; decide)]
  rw [if_neg (by rw [h]; decide)]
  rw [if_neg (by rw [h]; decide)]
  rw [if_neg (by rw [h]; decide)]
  rw [if_neg (by rw [h]; decide)]
  rw [if_neg (by rw [h]; decide)]
  rw [if_pos h]
theorem rightI_34 {i : InsnS} (h : i.op = 34) : rightI i = rightB i ⟨#[105]⟩ (svcOk i) := by
  unfold rightI
  rw [if_neg (by rw [h]; decide)]
  rw [if_neg (by rw [h]; decide)]
  rw [if_neg (by rw [h]; decide)]
  rw [if_neg (by rw [h]; decide)]
  rw [if_neg (by rw [h]; decide)]
  rw [if_neg (by rw [h]; decide)]
  rw [if_neg (by rw [h]; decide)]
  rw [if_neg (by rw [h]; decide)]
  rw [if_neg (by rw [h]; decide)]
  rw [if_neg (by rw [h]; decide)]
  rw [if_neg (by rw [h]; decide)]
  rw [if_neg (by rw [h]; decide)]
  rw [if_neg (by rw [h]; decide)]
  rw [if_neg (by rw [h]; decide)]
  rw [if_neg (by rw [h]; decide)]
  rw [if_neg (by rw [h]; decide)]
  rw [if_neg (by rw [h]; decide)]
  rw [if_neg (by rw [h]; decide)]
  rw [if_neg (by rw [h]; decide)]
  rw [if_neg (by rw [h]; decide)]
  rw [if_neg (by rw [h]; decide)]
  rw [if_neg (by rw [h]; decide)]
  rw [if_neg (by rw [h]; decide)]
  rw [if_neg (by rw [h]; decide)]
  rw [if_neg (by rw [h]; decide)]
  rw [if_neg (by rw [h]; decide)]
  rw [if_neg (by rw [h]; decide)]
  rw [if_neg (by rw [h]; decide)]
  rw [if_neg (by rw [h]; decide)]
  rw [if_neg (by rw [h]; decide)]
  rw [if_neg (by rw [h]; decide)]
  rw [if_neg (by rw [h]; decide)]
  rw [if_neg (by rw [h]; decide)]
  rw [if_pos h]
theorem rightI_35 {i : InsnS} (h : i.op = 35) : rightI i = rightB i ⟨#[105]⟩ (svcOk i) := by
  unfold rightI
  rw [if_neg (by rw [h]; decide)]
  rw [if_neg (by rw [h]; decide)]
  rw [if_neg (by rw [h]; decide)]
  rw [if_neg (by rw [h]; decide)]
  rw [if_neg (by rw [h]; decide)]
  rw [if_neg (by rw [h]; decide)]
  rw [if_neg (by rw [h]; decide)]
  rw [if_neg (by rw [h]; decide)]
  rw [if_neg (by rw [h]; decide)]
  rw [if_neg (by rw [h]; decide)]
  rw [if_neg (by rw [h]; decide)]
  rw [if_neg (by rw [h]; decide)]
  rw [if_neg (by rw [h]; decide)]
  rw [if_neg (by rw [h]; decide)]
  rw [if_neg (by rw [h]; decide)]
  rw [if_neg (by rw [h]; decide)]
  rw [if_neg (by rw [h]; decide)]
  rw [if_neg (by rw [h]; decide)]
  rw [if_neg (by rw [h]; decide)]
  rw [if_neg (by rw [h]; decide)]
  rw [if_neg (by rw [h]; decide)]
  rw [if_neg (by rw [h]; decide)]
  rw [if_neg (by rw [h]; decide)]
  rw [if_neg (by rw [h]; decide)]
  rw [if_neg (by rw [h]; decide)]
  rw [if_neg (by rw [h]; decide)]
  rw [if_neg (by rw [h]; decide)]
  rw [if_neg (by rw [h]; decide)]
  rw [if_neg (by rw [h]; decide)]
  rw [if_neg (by rw [h]; decide)]
  rw [if_neg (by rw [h]; decide)]
  rw [if_neg (by rw [h]; decide)]
  rw [if_neg (by rw [h]; decide)]
  rw [if_neg (by rw [h]; decide)]
  rw [if_pos h]
theorem rightI_36 {i : InsnS} (h : i.op = 36) : rightI i = rightB i ⟨#[]⟩ (noneOk i) := by
  unfold rightI
  rw [if_neg (by rw [h]; decide)]
  rw [if_neg (by rw [h]; decide)]
  rw [if_neg (by rw [h]; decide)]
  rw [if_neg (by rw [h]; decide)]
  rw [if_neg (by rw [h]; decide)]
  rw [if_neg (by rw [h]; decide)]
  rw [if_neg (by rw [h]; decide)]
  rw [if_neg (by rw [h]; decide)]
  rw [if_neg (by rw [h]; decide)]
  rw [if_neg (by rw [h]; decide)]
  rw [if_neg (by rw [h]; decide)]
  rw [if_neg (by rw [h]; decide)]
  rw [if_neg (by rw [h]; decide)]
  rw [if_neg (by rw [h]; decide)]
  rw [if_neg (by rw [h]; decide)]
  rw [if_neg (by rw [h]; decide)]
  rw [if_neg (by rw [h]; decide)]
  rw [if_neg (by rw [h]; decide)]
  rw [if_neg (by rw [h]; decide)]
  rw [if_neg (by rw [h]; decide)]
  rw [if_neg (by rw [h]; decide)]
  rw [if_neg (by rw [h]; decide)]
  rw [if_neg (by rw [h]; decide)]
  rw [if_neg (by rw [h]; decide)]
  rw [if_neg (by rw [h]; decide)]
  rw [if_neg (by rw [h]; decide)]
  rw [if_neg (by rw [h]; decide)]
  rw [if_neg (by rw [h]; decide)]
  rw [if_neg (by rw [h]; decide)]
  rw [if_neg (by rw [h]; decide)]
  rw [if_neg (by rw [h]; decide)]
  rw [if_neg (by rw [h]; decide)]
  rw [if_neg (by rw [h]; decide)]
  rw [if_neg (by rw [h]; decide)]
  rw [if_neg (by rw [h]; decide)]
  rw [if_pos h]
theorem rightI_37 {i : InsnS} (h : i.op = 37) : rightI i = rightB i ⟨#[105]⟩ (hintOk i) := by
  unfold rightI
  rw [if_neg (by rw [h]; decide)]
  rw [if_neg (by rw [h]; decide)]
  rw [if_neg (by rw [h]; decide)]
  rw [if_neg (by rw [h]; decide)]
  rw [if_neg (by rw [h]; decide)]
  rw [if_neg (by rw [h]; decide)]
  rw [if_neg (by rw [h]; decide)]
  rw [if_neg (by rw [h]; decide)]
  rw [if_neg (by rw [h]; decide)]
  rw [if_neg (by rw [h]; decide)]
  rw [if_neg (by rw [h]; decide)]
  rw [if_neg (by rw [h]; decide)]
  rw [if_neg (by rw [h]; decide)]
  rw [if_neg (by rw [h]; decide)]
  rw [if_neg (by rw [h]; decide)]
  rw [if_neg (by rw [h]; decide)]
  rw [if_neg (by rw [h]; decide)]
  rw [if_neg (by rw [h]; decide)]
  rw [if_neg (by rw [h]; decide)]
  rw [if_neg (by rw [h]; decide)]
  rw [if_neg (by rw [h]; decide)]
  rw [if_neg (by rw [h]; decide)]
  rw [if_neg (by rw [h]; decide)]
  rw [if_neg (by rw [h]; decide)]
  rw [if_neg (by rw [h]; decide)]
  rw [if_neg (by rw [h]; decide)]
  rw [if_neg (by rw [h]; decide)]
  rw [if_neg (by rw [h]; decide)]
  rw [if_neg (by rw [h]; decide)]
  rw [if_neg (by rw [h]; decide)]
  rw [if_neg (by rw [h]; decide)]
  rw [if_neg (by rw [h]; decide)]
  rw [if_neg (by rw [h]; decide)]
  rw [if_neg (by rw [h]; decide)]
  rw [if_neg (by rw [h]; decide)]
  rw [if_neg (by rw [h]; decide)]
  rw [if_pos h]
theorem decL_skip {w : Int} : ∀ {j m k : Nat}, (∀ i, i < j → (andU w (fMask (k + i)) == fBase (k + i)) = false) → decL w (j + m) k = decL w m (k + j)
  | 0, m, k, _ => by simp
  | j + 1, m, k, h => by
    have h0 := h 0 (Nat.succ_pos _)
    rw [show j + 1 + m = (j + m) + 1 by omega]
    have e : decL w ((j + m) + 1) k = decL w (j + m) (k + 1) := by
      show (if (!(andU w (fMask k) == fBase k)) = true then decL w (j + m) (k + 1) else _) = _
      rw [Nat.add_zero] at h0
      rw [h0]
      rfl
    rw [e, decL_skip (j := j) (m := m) (k := k + 1) (fun i hi => by rw [show k + 1 + i = k + (i + 1) by omega]; exact h (i + 1) (by omega))]
    rw [show k + 1 + j = k + (j + 1) by omega]
theorem decode_at {w : Int} (j : Nat) (hj : j < 40) (hs : ∀ i, i < j → (andU w (fMask i) == fBase i) = false) (hm : (andU w (fMask j) == fBase j) = true) (hr : rightI (takeI j w) = true) : decodeS w = takeI j w := by
  unfold decodeS
  obtain ⟨m, e⟩ : ∃ m, 40 = j + (m + 1) := ⟨39 - j, by omega⟩
  rw [e, decL_skip (fun i hi => by rw [Nat.zero_add]; exact hs i hi), Nat.zero_add]
  show (if (!(andU w (fMask j) == fBase j)) = true then _ else if rightI (takeI j w) = true then takeI j w else _) = _
  rw [hm, if_neg (by decide), if_pos hr]
theorem decode_none {w : Int} (hs : ∀ i, i < 40 → (andU w (fMask i) == fBase i) = false) : decodeS w = nilI := by
  unfold decodeS
  have e := decL_skip (w := w) (j := 40) (m := 0) (k := 0) (fun i hi => by rw [Nat.zero_add]; exact hs i hi)
  exact e
deriving instance DecidableEq for InsnS
def exA : InsnS := { nilI with op := 1, rn := 1, imm := 1 }
def exC : InsnS := { nilI with op := 12, imm := -4 }
def exR : InsnS := { nilI with op := 16, sub := 2, rn := 30 }
theorem dec_a : decodeS 2432697376 = exA := by
  rw [decode_at 0 (by decide) (by intro i h; exact absurd h (Nat.not_lt_zero i)) (by decide +kernel) (by rw [rightI_1 (by decide +kernel)]; decide +kernel)]
  decide +kernel
theorem dec_b : decodeS 0 = nilI := decode_none (by decide +kernel)
theorem dec_c : decodeS 402653183 = exC := by
  rw [decode_at 11 (by decide) (by decide +kernel) (by decide +kernel) (by rw [rightI_12 (by decide +kernel)]; decide +kernel)]
  decide +kernel
theorem enc_r : encodeS exR = (3596551104, 0) := by
  unfold encodeS
  rw [if_pos (by rw [rightI_16 rfl]; decide +kernel)]
  decide +kernel
theorem enc_n : encodeS nilI = (0, 3) := by
  unfold encodeS
  by_cases h : rightI nilI = true
  · rw [if_pos h]; decide +kernel
  · rw [if_neg h]
theorem con7 (H : Heap) : Con Tryz.prog 7 [] H (fun v H' => v = .c (.bool true) ∧ H' = H) := by
  refine Con.pure ?_ (by simp only [leArgs]) rfl H
  have k1 := fun H => con10 2432697376 H
  have k2 := fun H => con10 0 H
  have k3 := fun H => con10 402653183 H
  have k4 := fun H => con8 exR H
  have k5 := fun H => con8 nilI H
  simp only [dec_a] at k1
  simp only [dec_b] at k2
  simp only [dec_c] at k3
  simp only [enc_r] at k4
  simp only [enc_n] at k5
  (refine con_of_run mixed (fn := Tryz.f7) (by kernel_rfl) (by kernel_rfl) C7_ok (rs := [.tmp 0]) (by kernel_rfl) (Nat.le_of_ble_eq_true (by kernel_rfl)) ?_; unfold C7; simp only [initT])
  repeat' (first | refine run_seq ?_ | (refine run_region fun K hK => ?_; (try (simp (maxSteps := 10000000) only [C7r0, C7r1, C7r2, C7r3, C7r4, C7r5, C7r6, rwp_nil, rwp_cons, aop, gpath, St.get, slotAt, sfx, eqP, segsOf, St.put, addBlk, getB, ldn, rowNeed, nsub, bin, isShift, sameK, arith, getsl, selB_and, beqb, shed, Nat.beq, Seg.size, sizes, appL, argsOf, ptrsOf, cut, takeS, dropS, putS, partsOf, fillS, negIf, eqS, eqF, eqS1, Nat.reduceAdd, List.nil_append, List.cons_append])); (repeat (first | (refine And.intro ?_ ?_; · decide) | ((first | (refine call_t _ (k1 _) ?_; rintro v H' ⟨rfl, rfl⟩) | refine call_q _ (k1 _) ?_ | refine call_g _ (imp_of (k1 _)) ?_ | (refine call_t _ (k2 _) ?_; rintro v H' ⟨rfl, rfl⟩) | refine call_q _ (k2 _) ?_ | refine call_g _ (imp_of (k2 _)) ?_ | (refine call_t _ (k3 _) ?_; rintro v H' ⟨rfl, rfl⟩) | refine call_q _ (k3 _) ?_ | refine call_g _ (imp_of (k3 _)) ?_ | (refine call_t _ (k4 _) ?_; rintro v H' ⟨rfl, rfl⟩) | refine call_q _ (k4 _) ?_ | refine call_g _ (imp_of (k4 _)) ?_ | (refine call_t _ (k5 _) ?_; rintro v H' ⟨rfl, rfl⟩) | refine call_q _ (k5 _) ?_ | refine call_g _ (imp_of (k5 _)) ?_); simp (maxSteps := 10000000) only [insnL, rwp_nil, rwp_cons, rwpK_app, aop, gpath, St.get, slotAt, sfx, eqP, St.put, addBlk, getB, setB, stn, setRow, rowNeed, nsub, shed, Nat.beq, Seg.size, sizes, takeS, dropS, putS, nthA, exOk, Nat.reduceAdd, List.append_nil, List.nil_append]))); with_reducible refine hK _ ?_; clear hK K) | refine run_ret ?_ | refine run_nil ?_)
  exact end_tmp1 rfl rfl rfl ⟨rfl, rfl⟩
end Go.Proofs.YteikpddilabppaaGreatR

