/- code: words put together and taken apart, the parts. -/
import Derived.Test.YteikpddilabppaaGreatRAm22
import Derived.Test.YteikpddilabppaaGreatRCode03a
import Derived.Test.YteikpddilabppaaGreatRCode03c
namespace Go.Proofs.YteikpddilabppaaGreatR
open Go.AM
set_option maxRecDepth 100000
set_option linter.unusedSimpArgs false
set_option linter.unusedVariables false
theorem mixed : Tryz.prog.follows .mixedOrders = true := by kernel_rfl
structure InsnS where
  op : Int
  sub : Int
  rd : Int
  rn : Int
  rm : Int
  ra : Int
  imm : Int
  imm2 : Int
  amount : Int
  shift : Int
  cond : Int
  sys : Int
  flags : Bool
  minus : Bool
  not_ : Bool
  link : Bool
def insnL (i : InsnS) : List Seg := [.c (.int .i64 i.op), .c (.int .i64 i.sub), .c (.int .i64 i.rd), .c (.int .i64 i.rn), .c (.int .i64 i.rm), .c (.int .i64 i.ra), .c (.int .i64 i.imm), .c (.int .i64 i.imm2), .c (.int .i64 i.amount), .c (.int .i64 i.shift), .c (.int .i64 i.cond), .c (.int .i64 i.sys), .c (.bool i.flags), .c (.bool i.minus), .c (.bool i.not_), .c (.bool i.link)]
def insnB (i : InsnS) : Blk := ⟨16, none, fun _ => insnL i, 23, true⟩
def nilI : InsnS := ⟨0, 0, 0, 0, 0, 0, 0, 0, 0, 0, 0, 0, false, false, false, false⟩
def boxI (v : Int) : Blk := ⟨1, none, fun _ => [.c (.int .i64 v)], 3, false⟩
theorem insn_le {l : List Nat} (i : InsnS) : leB l (insnB i) (insnB i) := by
  refine ⟨rfl, rfl, id, Nat.le_refl _, fun _ _ => ?_⟩
  simp only [insnB, insnL, leSegs, leSeg, leC, and_self]
theorem box_le {l : List Nat} (v : Int) (w : Bool) : leB l ⟨1, none, fun _ => [.c (.int .i64 v)], 3, w⟩ (boxI v) := by
  refine ⟨rfl, rfl, fun h => (by cases h), Nat.le_refl _, fun _ _ => ?_⟩
  simp only [boxI, leSegs, leSeg, leC, and_self]
theorem insn_leV {l : List Nat} (i : InsnS) : leV l (.agg (insnL i)) (.agg (insnL i)) := by
  simp only [leV, leV1, insnL, leSegs, leSeg, leC, and_self]
/-- A function that answers an instruction out of a cell of its own, where some captured numbers are. -/
theorem end_insn {b0 : List (Nat × Blk)} {n : Nat} {l : List Slot} {H : Heap} {R : Post} {r b : Nat} (x : InsnS) (ids : List Nat) (hl : ids.length = n) (hid : idTo ids n) (hd : diff (ids ++ [b])) (hsl : slotAt l r = some ⟨r, [], .c (.ptr ⟨b, 0, 0, 0⟩)⟩) (hb : getB H.blks b = some (insnB x)) (hb0 : leBlks (ids ++ [b]) H.blks b0)
    (hnb : nthO (ids ++ [b]) n = some b) (hidb : idTo (ids ++ [b]) n) (hR : R (.agg (insnL x)) ⟨n + 1, (n, insnB x) :: b0⟩) : endQ (LeS n) [.cn 16 r] R .ret ⟨l, H⟩ := by
  refine end_of ⟨[⟨r, [], .c (.ptr ⟨n, 0, 0, 0⟩)⟩], ⟨n + 1, (n, insnB x) :: b0⟩⟩ ?_ ?_
  · refine LeS.intro (ids ++ [b]) hidb hd (by simp [hl]) ?_ ?_
    · simp only [slotsLe, hsl, leV, leV1, leC, leA, hnb, and_self]
    · simp only [leBlks, hnb, hb]
      exact ⟨insn_le x, hb0⟩
  · have hg : St.get ⟨[⟨r, [], .c (.ptr ⟨n, 0, 0, 0⟩)⟩], ⟨n + 1, (n, insnB x) :: b0⟩⟩ [] (.t r) = .c (.ptr ⟨n, 0, 0, 0⟩) := by simp [St.get, slotAt, Nat.beq_refl, sfx, eqP]
    simp only [endF, resL, resA, hg]
    simp only [ldn, getB, Nat.beq_refl, insnB, rowNeed, Nat.beq, cut, dropS, insnL, takeS, Seg.size, nsub, noTup, resV]
    exact hR
theorem end_insn0 {l : List Slot} {H : Heap} {R : Post} {r b : Nat} (x : InsnS) (hsl : slotAt l r = some ⟨r, [], .c (.ptr ⟨b, 0, 0, 0⟩)⟩) (hb : getB H.blks b = some (insnB x)) (hR : R (.agg (insnL x)) ⟨1, [(0, insnB x)]⟩) : endQ (LeS 0) [.cn 16 r] R .ret ⟨l, H⟩ :=
  end_insn (b0 := []) x [] rfl (fun i h => absurd h (Nat.not_lt_zero i)) ⟨trivial, trivial⟩ hsl hb trivial rfl (fun i h => absurd h (Nat.not_lt_zero i)) hR
theorem Con.insn0 {f : FuncId} {args : List AV} {x : InsnS} (h : Con Tryz.prog f args ⟨0, []⟩ fun v H' => v = .agg (insnL x) ∧ H' = ⟨1, [(0, insnB x)]⟩) (ha : leArgs [] args args) (H : Heap) : Con Tryz.prog f args H fun v H' => v = .agg (insnL x) ∧ H' = H := by
  refine Con.pure (Con.forget h ?_) ha rfl H
  rintro v H' ⟨rfl, rfl⟩
  exact ⟨.agg (insnL x), ⟨0, []⟩, [], fun i h => absurd h (Nat.not_lt_zero i), trivial, rfl, trivial, insn_leV x, rfl, rfl⟩
def bitsS (w at_ many : Int) : Int := IntKind.i64.wrap (IntKind.u32.wrap (BitVec.ofInt IntKind.u32.bits (w.fdiv (2 ^ min at_.toNat IntKind.u32.bits)) &&& BitVec.ofInt IntKind.u32.bits (IntKind.u32.wrap (IntKind.u32.wrap (1 * 2 ^ min many.toNat IntKind.u32.bits) - 1))).toNat)
theorem con91 (w at_ many : Int) (h1 : 0 ≤ at_) (h2 : 0 ≤ many) (H : Heap) : Con Tryz.prog 91 [.c (.int .u32 w), .c (.int .i64 at_), .c (.int .i64 many)] H (fun v H' => v = .c (.int .i64 (bitsS w at_ many)) ∧ H' = H) := by
  refine Con.pure ?_ (by simp only [leArgs, leV, leV1, leC, and_self]) rfl H
  (refine con_of_run mixed (fn := Tryz.f91) (by kernel_rfl) (by kernel_rfl) C91_ok (rs := [.tmp 6]) (by kernel_rfl) (Nat.le_of_ble_eq_true (by kernel_rfl)) ?_; unfold C91; simp only [initT, Nat.reduceAdd])
  repeat' (first
    | refine run_seq ?_
    | refine run_skip ?_
    | (refine run_region fun K hK => ?_; (try (simp (maxSteps := 10000000) only [C91r0, C91r1, rwp_nil, rwp_cons, aop, gpath, St.get, slotAt, sfx, eqP, St.put, addBlk, bin, isShift, sameK, arith, shiftR, shed, imp])); (repeat (first | (refine And.intro ?_ ?_; · first | trivial | assumption | omega))); with_reducible refine hK _ ?_; clear hK K)
    | (refine run_cond rfl (fun hc => ?_) (fun hc => ?_) <;> try (simp only [*, Bool.true_eq_false, Bool.false_eq_true, Bool.not_true, Bool.not_false, Bool.true_or, Bool.or_true, Bool.false_or, Bool.or_false, Bool.false_and, Bool.and_false, bne_self_eq_false, beq_self_eq_true] at hc; done))
    | refine run_block ?_
    | refine run_ret ?_
    | refine run_nil ?_
    | refine run_exit ?_
    | refine blk_normal ?_
    | refine blk_ret ?_
    | refine blk_here ?_
    | refine blk_there rfl ?_
    | refine loop_exit ?_
    | refine loop_ret ?_
    | refine un_exit ?_
    | refine un_ret ?_
    | refine unE_exit ?_
    | refine unE_ret ?_
    | refine un_normal ?_)
  exact end_tmp1 rfl ⟨rfl, rfl⟩ rfl ⟨rfl, rfl⟩
def signS (w at_ many : Int) : Int := IntKind.i64.wrap ((IntKind.i32.wrap (IntKind.u32.wrap (w * 2 ^ min (IntKind.i64.wrap (IntKind.i64.wrap (32 - at_) - many)).toNat IntKind.u32.bits))).fdiv (2 ^ min (IntKind.i64.wrap (32 - many)).toNat IntKind.i32.bits))
theorem con95 (w at_ many : Int) (h1 : 0 ≤ IntKind.i64.wrap (IntKind.i64.wrap (32 - at_) - many)) (h2 : 0 ≤ IntKind.i64.wrap (32 - many)) (H : Heap) : Con Tryz.prog 95 [.c (.int .u32 w), .c (.int .i64 at_), .c (.int .i64 many)] H (fun v H' => v = .c (.int .i64 (signS w at_ many)) ∧ H' = H) := by
  refine Con.pure ?_ (by simp only [leArgs, leV, leV1, leC, and_self]) rfl H
  (refine con_of_run mixed (fn := Tryz.f95) (by kernel_rfl) (by kernel_rfl) C95_ok (rs := [.tmp 6]) (by kernel_rfl) (Nat.le_of_ble_eq_true (by kernel_rfl)) ?_; unfold C95; simp only [initT, Nat.reduceAdd])
  repeat' (first
    | refine run_seq ?_
    | refine run_skip ?_
    | (refine run_region fun K hK => ?_; (try (simp (maxSteps := 10000000) only [C95r0, C95r1, rwp_nil, rwp_cons, aop, gpath, St.get, slotAt, sfx, eqP, St.put, addBlk, bin, isShift, sameK, arith, shiftR, shed, imp])); (repeat (first | (refine And.intro ?_ ?_; · assumption))); with_reducible refine hK _ ?_; clear hK K)
    | (refine run_cond rfl (fun hc => ?_) (fun hc => ?_) <;> try (simp only [*, Bool.true_eq_false, Bool.false_eq_true, Bool.not_true, Bool.not_false, Bool.true_or, Bool.or_true, Bool.false_or, Bool.or_false, Bool.false_and, Bool.and_false, bne_self_eq_false, beq_self_eq_true] at hc; done))
    | refine run_block ?_
    | refine run_ret ?_
    | refine run_nil ?_
    | refine run_exit ?_
    | refine blk_normal ?_
    | refine blk_ret ?_
    | refine blk_here ?_
    | refine blk_there rfl ?_
    | refine loop_exit ?_
    | refine loop_ret ?_
    | refine un_exit ?_
    | refine un_ret ?_
    | refine unE_exit ?_
    | refine unE_ret ?_
    | refine un_normal ?_)
  exact end_tmp1 rfl ⟨rfl, rfl⟩ rfl ⟨rfl, rfl⟩
def hasS (w b : Int) : Bool := IntKind.u32.wrap (BitVec.ofInt IntKind.u32.bits w &&& BitVec.ofInt IntKind.u32.bits b).toNat == b
theorem con92 (w b : Int) (H : Heap) : Con Tryz.prog 92 [.c (.int .u32 w), .c (.int .u32 b)] H (fun v H' => v = .c (.bool (hasS w b)) ∧ H' = H) := by
  refine Con.pure ?_ (by simp only [leArgs, leV, leV1, leC, and_self]) rfl H
  (refine con_of_run mixed (fn := Tryz.f92) (by kernel_rfl) (by kernel_rfl) C92_ok (rs := [.tmp 4]) (by kernel_rfl) (Nat.le_of_ble_eq_true (by kernel_rfl)) ?_; unfold C92; simp only [initT, Nat.reduceAdd])
  repeat' (first
    | refine run_seq ?_
    | refine run_skip ?_
    | (refine run_region fun K hK => ?_; (try (simp (maxSteps := 10000000) only [C92r0, C92r1, rwp_nil, rwp_cons, aop, gpath, St.get, slotAt, sfx, eqP, St.put, addBlk, bin, isShift, sameK, arith, shed])); (repeat (first | (refine And.intro ?_ ?_; · first | trivial | assumption | omega))); with_reducible refine hK _ ?_; clear hK K)
    | (refine run_cond rfl (fun hc => ?_) (fun hc => ?_) <;> try (simp only [*, Bool.true_eq_false, Bool.false_eq_true, Bool.not_true, Bool.not_false, Bool.true_or, Bool.or_true, Bool.false_or, Bool.or_false, Bool.false_and, Bool.and_false, bne_self_eq_false, beq_self_eq_true] at hc; done))
    | refine run_block ?_
    | refine run_ret ?_
    | refine run_nil ?_
    | refine run_exit ?_
    | refine blk_normal ?_
    | refine blk_ret ?_
    | refine blk_here ?_
    | refine blk_there rfl ?_
    | refine loop_exit ?_
    | refine loop_ret ?_
    | refine un_exit ?_
    | refine un_ret ?_
    | refine unE_exit ?_
    | refine unE_ret ?_
    | refine un_normal ?_)
  exact end_tmp1 rfl rfl rfl ⟨rfl, rfl⟩
def layS (w n at_ many : Int) : Int := IntKind.u32.wrap (BitVec.ofInt IntKind.u32.bits w ||| BitVec.ofInt IntKind.u32.bits (IntKind.u32.wrap (IntKind.u32.wrap (BitVec.ofInt IntKind.u32.bits (IntKind.u32.wrap n) &&& BitVec.ofInt IntKind.u32.bits (IntKind.u32.wrap (IntKind.u32.wrap (1 * 2 ^ min many.toNat IntKind.u32.bits) - 1))).toNat * 2 ^ min at_.toNat IntKind.u32.bits))).toNat
theorem con88 (w n at_ many : Int) (h1 : 0 ≤ at_) (h2 : 0 ≤ many) (H : Heap) : Con Tryz.prog 88 [.c (.int .u32 w), .c (.int .i64 n), .c (.int .i64 at_), .c (.int .i64 many)] H (fun v H' => v = .c (.int .u32 (layS w n at_ many)) ∧ H' = H) := by
  refine Con.pure ?_ (by simp only [leArgs, leV, leV1, leC, and_self]) rfl H
  (refine con_of_run mixed (fn := Tryz.f88) (by kernel_rfl) (by kernel_rfl) C88_ok (rs := [.tmp 8]) (by kernel_rfl) (Nat.le_of_ble_eq_true (by kernel_rfl)) ?_; unfold C88; simp only [initT, Nat.reduceAdd])
  repeat' (first
    | refine run_seq ?_
    | refine run_skip ?_
    | (refine run_region fun K hK => ?_; (try (simp (maxSteps := 10000000) only [C88r0, C88r1, rwp_nil, rwp_cons, aop, gpath, St.get, slotAt, sfx, eqP, St.put, addBlk, bin, isShift, sameK, arith, shiftR, shed, imp])); (repeat (first | (refine And.intro ?_ ?_; · first | trivial | assumption | omega))); with_reducible refine hK _ ?_; clear hK K)
    | (refine run_cond rfl (fun hc => ?_) (fun hc => ?_) <;> try (simp only [*, Bool.true_eq_false, Bool.false_eq_true, Bool.not_true, Bool.not_false, Bool.true_or, Bool.or_true, Bool.false_or, Bool.or_false, Bool.false_and, Bool.and_false, bne_self_eq_false, beq_self_eq_true] at hc; done))
    | refine run_block ?_
    | refine run_ret ?_
    | refine run_nil ?_
    | refine run_exit ?_
    | refine blk_normal ?_
    | refine blk_ret ?_
    | refine blk_here ?_
    | refine blk_there rfl ?_
    | refine loop_exit ?_
    | refine loop_ret ?_
    | refine un_exit ?_
    | refine un_ret ?_
    | refine unE_exit ?_
    | refine unE_ret ?_
    | refine un_normal ?_)
  exact end_tmp1 rfl ⟨rfl, rfl⟩ rfl ⟨rfl, rfl⟩
def flagS (w : Int) (b : Bool) (bits : Int) : Int := match b with | true => IntKind.u32.wrap (BitVec.ofInt IntKind.u32.bits w ||| BitVec.ofInt IntKind.u32.bits bits).toNat | false => w
theorem con89 (w : Int) (b : Bool) (bits : Int) (H : Heap) : Con Tryz.prog 89 [.c (.int .u32 w), .c (.bool b), .c (.int .u32 bits)] H (fun v H' => v = .c (.int .u32 (flagS w b bits)) ∧ H' = H) := by
  refine Con.pure ?_ (by simp only [leArgs, leV, leV1, leC, and_self]) rfl H
  (refine con_of_run mixed (fn := Tryz.f89) (by kernel_rfl) (by kernel_rfl) C89_ok (rs := [.tmp 6]) (by kernel_rfl) (Nat.le_of_ble_eq_true (by kernel_rfl)) ?_; unfold C89; simp only [initT, Nat.reduceAdd])
  repeat' (first
    | refine run_seq ?_
    | refine run_skip ?_
    | (refine run_region fun K hK => ?_; (try (simp (maxSteps := 10000000) only [C89r0, C89r1, C89r2, C89r3, rwp_nil, rwp_cons, aop, gpath, St.get, slotAt, sfx, eqP, St.put, addBlk, bin, isShift, sameK, arith, shed])); (repeat (first | (refine And.intro ?_ ?_; · first | trivial | assumption | omega))); with_reducible refine hK _ ?_; clear hK K)
    | (refine run_cond rfl (fun hc => ?_) (fun hc => ?_) <;> try (simp only [*, Bool.true_eq_false, Bool.false_eq_true, Bool.not_true, Bool.not_false, Bool.true_or, Bool.or_true, Bool.false_or, Bool.or_false, Bool.false_and, Bool.and_false, bne_self_eq_false, beq_self_eq_true] at hc; done))
    | refine run_block ?_
    | refine run_ret ?_
    | refine run_nil ?_
    | refine run_exit ?_
    | refine blk_normal ?_
    | refine blk_ret ?_
    | refine blk_here ?_
    | refine blk_there rfl ?_
    | refine loop_exit ?_
    | refine loop_ret ?_
    | refine un_exit ?_
    | refine un_ret ?_
    | refine unE_exit ?_
    | refine unE_ret ?_
    | refine un_normal ?_)
  all_goals exact end_tmp1 rfl ⟨rfl, rfl⟩ rfl ⟨by rw [hc]; rfl, rfl⟩
def mulS (a b : Int) : Int := IntKind.i64.wrap (a * b)
def addS (a b : Int) : Int := IntKind.i64.wrap (a + b)
def quoS (a b : Int) : Int := IntKind.i64.wrap (a.tdiv b)
def shlS (a : Int) (n : Nat) : Int := IntKind.i64.wrap (a * 2 ^ min n IntKind.i64.bits)
def shrS (a : Int) (n : Nat) : Int := a.fdiv (2 ^ min n IntKind.i64.bits)
def orS (a b : Int) : Int := IntKind.i64.wrap (BitVec.ofInt IntKind.i64.bits a ||| BitVec.ofInt IntKind.i64.bits b).toNat
def insnS (w op : Int) : InsnS := { nilI with op := op, rd := bitsS w 0 5, rn := bitsS w 5 5, rm := bitsS w 16 5 }
def regsS (w : Int) (i : InsnS) : Int := layS (layS (layS w i.rd 0 5) i.rn 5 5) i.rm 16 5
def logicS (i : InsnS) : Int := match i.flags with | true => 3 | false => i.sub
def unlogS (i : InsnS) (o : Int) : InsnS := { i with sub := if o = 3 then 0 else o, flags := o == 3 }
theorem con54 (w : Int) (i : InsnS) (H : Heap) : Con Tryz.prog 54 [.c (.int .u32 w), .agg (insnL i)] H (fun v H' => v = .c (.int .u32 (regsS w i)) ∧ H' = H) := by
  refine Con.pure ?_ (by simp only [leArgs, leV, leV1, insnL, leSegs, leSeg, leC, and_self]) rfl H
  (refine con_of_run mixed (fn := Tryz.f54) (by kernel_rfl) (by kernel_rfl) C54_ok (rs := [.tmp 4]) (by kernel_rfl) (Nat.le_of_ble_eq_true (by kernel_rfl)) ?_; unfold C54; simp only [initT, Nat.reduceAdd])
  repeat' (first
    | refine run_seq ?_
    | refine run_skip ?_
    | (refine run_region fun K hK => ?_; (try (simp (maxSteps := 10000000) only [insnL, C54r0, C54r1, rwp_nil, rwp_cons, aop, gpath, St.get, slotAt, sfx, eqP, segsOf, St.put, addBlk, getB, ld1, rowNeed, segAt, nsub, shed, addN, Seg.size, sizes, appL, argsOf, ptrsOf, Nat.reduceAdd])); (repeat (first | (refine And.intro ?_ ?_; · decide) | ((first | (refine call_t _ (con88 _ _ _ _ (by decide) (by decide) _) ?_; rintro v H' ⟨rfl, rfl⟩) | refine call_q _ (con88 _ _ _ _ (by decide) (by decide) _) ?_ | refine call_g _ (imp_of (con88 _ _ _ _ (by decide) (by decide) _)) ?_); simp (maxSteps := 10000000) only [rwp_nil, rwp_cons, rwpK_app, aop, gpath, St.get, slotAt, sfx, eqP, St.put, addBlk, getB, ld1, rowNeed, segAt, nsub, shed, addN, Seg.size, appL, argsOf, ptrsOf, Nat.reduceAdd]))); with_reducible refine hK _ ?_; clear hK K)
    | (refine run_cond rfl (fun hc => ?_) (fun hc => ?_) <;> try (simp only [*, Bool.true_eq_false, Bool.false_eq_true, Bool.not_true, Bool.not_false, Bool.true_or, Bool.or_true, Bool.false_or, Bool.or_false, Bool.false_and, Bool.and_false, bne_self_eq_false, beq_self_eq_true] at hc; done))
    | refine run_block ?_
    | refine run_ret ?_
    | refine run_nil ?_
    | refine run_exit ?_
    | refine blk_normal ?_
    | refine blk_ret ?_
    | refine blk_here ?_
    | refine blk_there rfl ?_
    | refine loop_exit ?_
    | refine loop_ret ?_
    | refine un_exit ?_
    | refine un_ret ?_
    | refine unE_exit ?_
    | refine unE_ret ?_
    | refine un_normal ?_)
  exact end_tmp1 rfl ⟨rfl, rfl⟩ rfl ⟨rfl, rfl⟩
theorem con93 (i : InsnS) (H : Heap) : Con Tryz.prog 93 [.agg (insnL i)] H (fun v H' => v = .c (.int .i64 (logicS i)) ∧ H' = H) := by
  refine Con.pure ?_ (by simp only [leArgs, leV, leV1, insnL, leSegs, leSeg, leC, and_self]) rfl H
  (refine con_of_run mixed (fn := Tryz.f93) (by kernel_rfl) (by kernel_rfl) C93_ok (rs := [.tmp 2]) (by kernel_rfl) (Nat.le_of_ble_eq_true (by kernel_rfl)) ?_; unfold C93; simp only [initT])
  repeat' (first
    | refine run_seq ?_
    | refine run_skip ?_
    | (refine run_region fun K hK => ?_; (try (simp (maxSteps := 10000000) only [insnL, C93r0, C93r1, C93r2, C93r3, rwp_nil, rwp_cons, aop, gpath, St.get, slotAt, sfx, eqP, segsOf, St.put, addBlk, getB, ld1, rowNeed, segAt, nsub, shed, addN, Seg.size, sizes, Nat.reduceAdd])); (repeat (first | (refine And.intro ?_ ?_; · first | trivial | assumption | omega))); with_reducible refine hK _ ?_; clear hK K)
    | (refine run_cond rfl (fun hc => ?_) (fun hc => ?_) <;> try (simp only [*, Bool.true_eq_false, Bool.false_eq_true, Bool.not_true, Bool.not_false, Bool.true_or, Bool.or_true, Bool.false_or, Bool.or_false, Bool.false_and, Bool.and_false, bne_self_eq_false, beq_self_eq_true] at hc; done))
    | refine run_block ?_
    | refine run_ret ?_
    | refine run_nil ?_
    | refine run_exit ?_
    | refine blk_normal ?_
    | refine blk_ret ?_
    | refine blk_here ?_
    | refine blk_there rfl ?_
    | refine loop_exit ?_
    | refine loop_ret ?_
    | refine un_exit ?_
    | refine un_ret ?_
    | refine unE_exit ?_
    | refine unE_ret ?_
    | refine un_normal ?_)
  all_goals exact end_tmp1 rfl ⟨rfl, rfl⟩ rfl ⟨by unfold logicS; rw [hc], rfl⟩
theorem con90 (w op : Int) (H : Heap) : Con Tryz.prog 90 [.c (.int .u32 w), .c (.int .i64 op)] H (fun v H' => v = .agg (insnL (insnS w op)) ∧ H' = H) := by
  refine Con.insn0 ?_ (by simp only [leArgs, leV, leV1, leC, and_self]) H
  (refine con_of_run mixed (fn := Tryz.f90) (by kernel_rfl) (by kernel_rfl) C90_ok (rs := [.cn 16 4]) (by kernel_rfl) (Nat.le_of_ble_eq_true (by kernel_rfl)) ?_; unfold C90; simp only [initT, Nat.reduceAdd])
  repeat' (first
    | refine run_seq ?_
    | refine run_skip ?_
    | (refine run_region fun K hK => ?_; (try (simp (maxSteps := 10000000) only [C90r0, C90r1, rwp_nil, rwp_cons, aop, gpath, St.get, slotAt, sfx, eqP, St.put, addBlk, shed, Seg.size, sizes, appL, argsOf, ptrsOf, Nat.reduceAdd])); (repeat (first | (refine And.intro ?_ ?_; · decide) | ((first | (refine call_t _ (con91 _ _ _ (by decide) (by decide) _) ?_; rintro v H' ⟨rfl, rfl⟩) | refine call_q _ (con91 _ _ _ (by decide) (by decide) _) ?_ | refine call_g _ (imp_of (con91 _ _ _ (by decide) (by decide) _)) ?_); simp (maxSteps := 10000000) only [rwp_nil, rwp_cons, rwpK_app, aop, gpath, St.get, slotAt, sfx, eqP, segsOf, St.put, addBlk, getB, setB, stn, setRow, rowNeed, nsub, shed, Nat.beq, Seg.size, sizes, appL, argsOf, ptrsOf, takeS, dropS, putS, partsOf, fillS, exOk, Nat.reduceAdd, List.append_nil, List.nil_append, List.cons_append]))); with_reducible refine hK _ ?_; clear hK K)
    | (refine run_cond rfl (fun hc => ?_) (fun hc => ?_) <;> try (simp only [*, Bool.true_eq_false, Bool.false_eq_true, Bool.not_true, Bool.not_false, Bool.true_or, Bool.or_true, Bool.false_or, Bool.or_false, Bool.false_and, Bool.and_false, bne_self_eq_false, beq_self_eq_true] at hc; done))
    | refine run_block ?_
    | refine run_ret ?_
    | refine run_nil ?_
    | refine run_exit ?_
    | refine blk_normal ?_
    | refine blk_ret ?_
    | refine blk_here ?_
    | refine blk_there rfl ?_
    | refine loop_exit ?_
    | refine loop_ret ?_
    | refine un_exit ?_
    | refine un_ret ?_
    | refine unE_exit ?_
    | refine unE_ret ?_
    | refine un_normal ?_)
  exact end_insn0 (insnS w op) rfl rfl ⟨rfl, rfl⟩
theorem con94 (i : InsnS) (o : Int) (H : Heap) : Con Tryz.prog 94 [.agg (insnL i), .c (.int .i64 o)] H (fun v H' => v = .agg (insnL (unlogS i o)) ∧ H' = H) := by
  refine Con.insn0 ?_ (by simp only [leArgs, leV, leV1, insnL, leSegs, leSeg, leC, and_self]) H
  (refine con_of_run mixed (fn := Tryz.f94) (by kernel_rfl) (by kernel_rfl) C94_ok (rs := [.cn 16 4]) (by kernel_rfl) (Nat.le_of_ble_eq_true (by kernel_rfl)) ?_; unfold C94; simp only [initT, Nat.reduceAdd])
  generalize hR : (fun (v : AV) (H' : Heap) => v = AV.agg (insnL (unlogS i o)) ∧ H' = ⟨1, [(0, insnB (unlogS i o))]⟩) = R
  repeat' (first
    | refine run_seq ?_
    | refine run_skip ?_
    | (refine run_region fun K hK => ?_; (try (simp (maxSteps := 10000000) only [insnL, C94r0, C94r1, C94r2, C94r3, C94r4, rwp_nil, rwp_cons, aop, gpath, St.get, slotAt, sfx, eqP, segsOf, St.put, addBlk, getB, setB, ld1, ldn, st1, stn, setRow, rowNeed, segAt, nsub, bin, isShift, sameK, arith, shed, addN, Nat.beq, Seg.size, sizes, cut, takeS, dropS, putS, exOk, Nat.reduceAdd, List.append_nil, List.nil_append, List.cons_append])); (repeat (first | (refine And.intro ?_ ?_; · first | trivial | assumption | omega))); with_reducible refine hK _ ?_; clear hK K)
    | (refine run_cond rfl (fun hc => ?_) (fun hc => ?_) <;> try (simp only [*, Bool.true_eq_false, Bool.false_eq_true, Bool.not_true, Bool.not_false, Bool.true_or, Bool.or_true, Bool.false_or, Bool.or_false, Bool.false_and, Bool.and_false, bne_self_eq_false, beq_self_eq_true] at hc; done))
    | refine run_block ?_
    | refine run_ret ?_
    | refine run_nil ?_
    | refine run_exit ?_
    | refine blk_normal ?_
    | refine blk_ret ?_
    | refine blk_here ?_
    | refine blk_there rfl ?_
    | refine loop_exit ?_
    | refine loop_ret ?_
    | refine un_exit ?_
    | refine un_ret ?_
    | refine unE_exit ?_
    | refine unE_ret ?_
    | refine un_normal ?_)
  · have h : o = 3 := by simpa using hc
    subst hR
    refine end_insn0 { i with sub := 0, flags := o == 3 } rfl rfl ?_
    have e : unlogS i o = { i with sub := 0, flags := o == 3 } := by simp only [unlogS, h, if_true]
    rw [e]
    exact ⟨rfl, rfl⟩
  · have h : ¬ o = 3 := by simpa using hc
    subst hR
    refine end_insn0 { i with sub := o, flags := o == 3 } rfl rfl ?_
    have e : unlogS i o = { i with sub := o, flags := o == 3 } := by simp only [unlogS, h, if_false]
    rw [e]
    exact ⟨rfl, rfl⟩
theorem min_1 : min 1 IntKind.i64.bits = 1 := by decide
theorem min_2 : min 2 IntKind.i64.bits = 2 := by decide
theorem min_5 : min 5 IntKind.i64.bits = 5 := by decide
def putAddImmS (w : Int) (i : InsnS) : Int := flagS (flagS (layS (layS (regsS w i) i.imm 10 12) (quoS i.amount 12) 22 1) i.flags 536870912) i.minus 1073741824
theorem con19 (w : Int) (i : InsnS) (H : Heap) : Con Tryz.prog 19 [.c (.int .u32 w), .agg (insnL i)] H (fun v H' => v = .c (.int .u32 (putAddImmS w i)) ∧ H' = H) := by
  refine Con.pure ?_ (by simp only [leArgs, leV, leV1, insnL, leSegs, leSeg, leC, and_self]) rfl H
  (refine con_of_run mixed (fn := Tryz.f19) (by kernel_rfl) (by kernel_rfl) C19_ok (rs := [.tmp 4]) (by kernel_rfl) (Nat.le_of_ble_eq_true (by kernel_rfl)) ?_; unfold C19; simp only [initT, Nat.reduceAdd])
  repeat' (first
    | refine run_seq ?_
    | refine run_skip ?_
    | (refine run_region fun K hK => ?_; (try (simp (maxSteps := 10000000) only [insnL, C19r0, C19r1, rwp_nil, rwp_cons, aop, gpath, St.get, slotAt, sfx, eqP, segsOf, St.put, addBlk, getB, ldn, rowNeed, nsub, shed, Seg.size, sizes, appL, argsOf, ptrsOf, cut, takeS, dropS, Nat.reduceAdd])); (repeat (first | (refine And.intro ?_ ?_; · decide) | ((first | (refine call_t _ (con88 _ _ _ _ (by decide) (by decide) _) ?_; rintro v H' ⟨rfl, rfl⟩) | refine call_q _ (con88 _ _ _ _ (by decide) (by decide) _) ?_ | refine call_g _ (imp_of (con88 _ _ _ _ (by decide) (by decide) _)) ?_ | (refine call_t _ (con89 _ _ _ _) ?_; rintro v H' ⟨rfl, rfl⟩) | refine call_q _ (con89 _ _ _ _) ?_ | refine call_g _ (imp_of (con89 _ _ _ _)) ?_ | (refine call_t _ (con54 _ i _) ?_; rintro v H' ⟨rfl, rfl⟩) | refine call_q _ (con54 _ i _) ?_ | refine call_g _ (imp_of (con54 _ i _)) ?_ | (refine call_t _ (con93 i _) ?_; rintro v H' ⟨rfl, rfl⟩) | refine call_q _ (con93 i _) ?_ | refine call_g _ (imp_of (con93 i _)) ?_); simp (maxSteps := 10000000) only [ne_eq, rwp_nil, rwp_cons, rwpK_app, aop, gpath, St.get, slotAt, sfx, eqP, St.put, addBlk, getB, ld1, rowNeed, segAt, nsub, bin, isShift, sameK, arith, shed, addN, Seg.size, imp, appL, argsOf, ptrsOf, Nat.reduceAdd]))); with_reducible refine hK _ ?_; clear hK K)
    | (refine run_cond rfl (fun hc => ?_) (fun hc => ?_) <;> try (simp only [*, Bool.true_eq_false, Bool.false_eq_true, Bool.not_true, Bool.not_false, Bool.true_or, Bool.or_true, Bool.false_or, Bool.or_false, Bool.false_and, Bool.and_false, bne_self_eq_false, beq_self_eq_true] at hc; done))
    | refine run_block ?_
    | refine run_ret ?_
    | refine run_nil ?_
    | refine run_exit ?_
    | refine blk_normal ?_
    | refine blk_ret ?_
    | refine blk_here ?_
    | refine blk_there rfl ?_
    | refine loop_exit ?_
    | refine loop_ret ?_
    | refine un_exit ?_
    | refine un_ret ?_
    | refine unE_exit ?_
    | refine unE_ret ?_
    | refine un_normal ?_)
  exact end_tmp1 rfl ⟨rfl, rfl⟩ rfl ⟨rfl, rfl⟩
def putAddRegS (w : Int) (i : InsnS) : Int := flagS (flagS (layS (layS (regsS w i) i.amount 10 6) i.shift 22 2) i.flags 536870912) i.minus 1073741824
theorem con21 (w : Int) (i : InsnS) (H : Heap) : Con Tryz.prog 21 [.c (.int .u32 w), .agg (insnL i)] H (fun v H' => v = .c (.int .u32 (putAddRegS w i)) ∧ H' = H) := by
  refine Con.pure ?_ (by simp only [leArgs, leV, leV1, insnL, leSegs, leSeg, leC, and_self]) rfl H
  (refine con_of_run mixed (fn := Tryz.f21) (by kernel_rfl) (by kernel_rfl) C21_ok (rs := [.tmp 4]) (by kernel_rfl) (Nat.le_of_ble_eq_true (by kernel_rfl)) ?_; unfold C21; simp only [initT, Nat.reduceAdd])
  repeat' (first
    | refine run_seq ?_
    | refine run_skip ?_
    | (refine run_region fun K hK => ?_; (try (simp (maxSteps := 10000000) only [insnL, C21r0, C21r1, rwp_nil, rwp_cons, aop, gpath, St.get, slotAt, sfx, eqP, segsOf, St.put, addBlk, getB, ldn, rowNeed, nsub, shed, Seg.size, sizes, appL, argsOf, ptrsOf, cut, takeS, dropS, Nat.reduceAdd])); (repeat (first | (refine And.intro ?_ ?_; · decide) | ((first | (refine call_t _ (con88 _ _ _ _ (by decide) (by decide) _) ?_; rintro v H' ⟨rfl, rfl⟩) | refine call_q _ (con88 _ _ _ _ (by decide) (by decide) _) ?_ | refine call_g _ (imp_of (con88 _ _ _ _ (by decide) (by decide) _)) ?_ | (refine call_t _ (con89 _ _ _ _) ?_; rintro v H' ⟨rfl, rfl⟩) | refine call_q _ (con89 _ _ _ _) ?_ | refine call_g _ (imp_of (con89 _ _ _ _)) ?_ | (refine call_t _ (con54 _ i _) ?_; rintro v H' ⟨rfl, rfl⟩) | refine call_q _ (con54 _ i _) ?_ | refine call_g _ (imp_of (con54 _ i _)) ?_ | (refine call_t _ (con93 i _) ?_; rintro v H' ⟨rfl, rfl⟩) | refine call_q _ (con93 i _) ?_ | refine call_g _ (imp_of (con93 i _)) ?_); simp (maxSteps := 10000000) only [rwp_nil, rwp_cons, rwpK_app, aop, gpath, St.get, slotAt, sfx, eqP, St.put, addBlk, getB, ld1, rowNeed, segAt, nsub, shed, addN, Seg.size, appL, argsOf, ptrsOf, Nat.reduceAdd]))); with_reducible refine hK _ ?_; clear hK K)
    | (refine run_cond rfl (fun hc => ?_) (fun hc => ?_) <;> try (simp only [*, Bool.true_eq_false, Bool.false_eq_true, Bool.not_true, Bool.not_false, Bool.true_or, Bool.or_true, Bool.false_or, Bool.or_false, Bool.false_and, Bool.and_false, bne_self_eq_false, beq_self_eq_true] at hc; done))
    | refine run_block ?_
    | refine run_ret ?_
    | refine run_nil ?_
    | refine run_exit ?_
    | refine blk_normal ?_
    | refine blk_ret ?_
    | refine blk_here ?_
    | refine blk_there rfl ?_
    | refine loop_exit ?_
    | refine loop_ret ?_
    | refine un_exit ?_
    | refine un_ret ?_
    | refine unE_exit ?_
    | refine unE_ret ?_
    | refine un_normal ?_)
  exact end_tmp1 rfl ⟨rfl, rfl⟩ rfl ⟨rfl, rfl⟩
def putLogRegS (w : Int) (i : InsnS) : Int := flagS (layS (layS (layS (regsS w i) (logicS i) 29 2) i.amount 10 6) i.shift 22 2) i.not_ 2097152
theorem con23 (w : Int) (i : InsnS) (H : Heap) : Con Tryz.prog 23 [.c (.int .u32 w), .agg (insnL i)] H (fun v H' => v = .c (.int .u32 (putLogRegS w i)) ∧ H' = H) := by
  refine Con.pure ?_ (by simp only [leArgs, leV, leV1, insnL, leSegs, leSeg, leC, and_self]) rfl H
  (refine con_of_run mixed (fn := Tryz.f23) (by kernel_rfl) (by kernel_rfl) C23_ok (rs := [.tmp 4]) (by kernel_rfl) (Nat.le_of_ble_eq_true (by kernel_rfl)) ?_; unfold C23; simp only [initT, Nat.reduceAdd])
  repeat' (first
    | refine run_seq ?_
    | refine run_skip ?_
    | (refine run_region fun K hK => ?_; (try (simp (maxSteps := 10000000) only [insnL, C23r0, C23r1, rwp_nil, rwp_cons, aop, gpath, St.get, slotAt, sfx, eqP, segsOf, St.put, addBlk, getB, ldn, rowNeed, nsub, shed, Seg.size, sizes, appL, argsOf, ptrsOf, cut, takeS, dropS, Nat.reduceAdd])); (repeat (first | (refine And.intro ?_ ?_; · decide) | ((first | (refine call_t _ (con88 _ _ _ _ (by decide) (by decide) _) ?_; rintro v H' ⟨rfl, rfl⟩) | refine call_q _ (con88 _ _ _ _ (by decide) (by decide) _) ?_ | refine call_g _ (imp_of (con88 _ _ _ _ (by decide) (by decide) _)) ?_ | (refine call_t _ (con89 _ _ _ _) ?_; rintro v H' ⟨rfl, rfl⟩) | refine call_q _ (con89 _ _ _ _) ?_ | refine call_g _ (imp_of (con89 _ _ _ _)) ?_ | (refine call_t _ (con54 _ i _) ?_; rintro v H' ⟨rfl, rfl⟩) | refine call_q _ (con54 _ i _) ?_ | refine call_g _ (imp_of (con54 _ i _)) ?_ | (refine call_t _ (con93 i _) ?_; rintro v H' ⟨rfl, rfl⟩) | refine call_q _ (con93 i _) ?_ | refine call_g _ (imp_of (con93 i _)) ?_); simp (maxSteps := 10000000) only [rwp_nil, rwp_cons, rwpK_app, aop, gpath, St.get, slotAt, sfx, eqP, St.put, addBlk, getB, ld1, ldn, rowNeed, segAt, nsub, shed, addN, Seg.size, appL, argsOf, ptrsOf, cut, takeS, dropS, Nat.reduceAdd]))); with_reducible refine hK _ ?_; clear hK K)
    | (refine run_cond rfl (fun hc => ?_) (fun hc => ?_) <;> try (simp only [*, Bool.true_eq_false, Bool.false_eq_true, Bool.not_true, Bool.not_false, Bool.true_or, Bool.or_true, Bool.false_or, Bool.or_false, Bool.false_and, Bool.and_false, bne_self_eq_false, beq_self_eq_true] at hc; done))
    | refine run_block ?_
    | refine run_ret ?_
    | refine run_nil ?_
    | refine run_exit ?_
    | refine blk_normal ?_
    | refine blk_ret ?_
    | refine blk_here ?_
    | refine blk_there rfl ?_
    | refine loop_exit ?_
    | refine loop_ret ?_
    | refine un_exit ?_
    | refine un_ret ?_
    | refine unE_exit ?_
    | refine unE_ret ?_
    | refine un_normal ?_)
  exact end_tmp1 rfl ⟨rfl, rfl⟩ rfl ⟨rfl, rfl⟩
def putLogImmS (w : Int) (i : InsnS) : Int := layS (layS (layS (layS (regsS w i) (logicS i) 29 2) i.amount 22 1) i.imm 16 6) i.imm2 10 6
theorem con25 (w : Int) (i : InsnS) (H : Heap) : Con Tryz.prog 25 [.c (.int .u32 w), .agg (insnL i)] H (fun v H' => v = .c (.int .u32 (putLogImmS w i)) ∧ H' = H) := by
  refine Con.pure ?_ (by simp only [leArgs, leV, leV1, insnL, leSegs, leSeg, leC, and_self]) rfl H
  (refine con_of_run mixed (fn := Tryz.f25) (by kernel_rfl) (by kernel_rfl) C25_ok (rs := [.tmp 4]) (by kernel_rfl) (Nat.le_of_ble_eq_true (by kernel_rfl)) ?_; unfold C25; simp only [initT, Nat.reduceAdd])
  repeat' (first
    | refine run_seq ?_
    | refine run_skip ?_
    | (refine run_region fun K hK => ?_; (try (simp (maxSteps := 10000000) only [insnL, C25r0, C25r1, rwp_nil, rwp_cons, aop, gpath, St.get, slotAt, sfx, eqP, segsOf, St.put, addBlk, getB, ldn, rowNeed, nsub, shed, Seg.size, sizes, appL, argsOf, ptrsOf, cut, takeS, dropS, Nat.reduceAdd])); (repeat (first | (refine And.intro ?_ ?_; · decide) | ((first | (refine call_t _ (con88 _ _ _ _ (by decide) (by decide) _) ?_; rintro v H' ⟨rfl, rfl⟩) | refine call_q _ (con88 _ _ _ _ (by decide) (by decide) _) ?_ | refine call_g _ (imp_of (con88 _ _ _ _ (by decide) (by decide) _)) ?_ | (refine call_t _ (con89 _ _ _ _) ?_; rintro v H' ⟨rfl, rfl⟩) | refine call_q _ (con89 _ _ _ _) ?_ | refine call_g _ (imp_of (con89 _ _ _ _)) ?_ | (refine call_t _ (con54 _ i _) ?_; rintro v H' ⟨rfl, rfl⟩) | refine call_q _ (con54 _ i _) ?_ | refine call_g _ (imp_of (con54 _ i _)) ?_ | (refine call_t _ (con93 i _) ?_; rintro v H' ⟨rfl, rfl⟩) | refine call_q _ (con93 i _) ?_ | refine call_g _ (imp_of (con93 i _)) ?_); simp (maxSteps := 10000000) only [rwp_nil, rwp_cons, rwpK_app, aop, gpath, St.get, slotAt, sfx, eqP, St.put, addBlk, getB, ld1, ldn, rowNeed, segAt, nsub, shed, addN, Seg.size, appL, argsOf, ptrsOf, cut, takeS, dropS, Nat.reduceAdd]))); with_reducible refine hK _ ?_; clear hK K)
    | (refine run_cond rfl (fun hc => ?_) (fun hc => ?_) <;> try (simp only [*, Bool.true_eq_false, Bool.false_eq_true, Bool.not_true, Bool.not_false, Bool.true_or, Bool.or_true, Bool.false_or, Bool.or_false, Bool.false_and, Bool.and_false, bne_self_eq_false, beq_self_eq_true] at hc; done))
    | refine run_block ?_
    | refine run_ret ?_
    | refine run_nil ?_
    | refine run_exit ?_
    | refine blk_normal ?_
    | refine blk_ret ?_
    | refine blk_here ?_
    | refine blk_there rfl ?_
    | refine loop_exit ?_
    | refine loop_ret ?_
    | refine un_exit ?_
    | refine un_ret ?_
    | refine unE_exit ?_
    | refine unE_ret ?_
    | refine un_normal ?_)
  exact end_tmp1 rfl ⟨rfl, rfl⟩ rfl ⟨rfl, rfl⟩
def putMovWideS (w : Int) (i : InsnS) : Int := layS (layS (layS (layS w i.rd 0 5) i.sub 29 2) i.imm 5 16) (quoS i.amount 16) 21 2
theorem con27 (w : Int) (i : InsnS) (H : Heap) : Con Tryz.prog 27 [.c (.int .u32 w), .agg (insnL i)] H (fun v H' => v = .c (.int .u32 (putMovWideS w i)) ∧ H' = H) := by
  refine Con.pure ?_ (by simp only [leArgs, leV, leV1, insnL, leSegs, leSeg, leC, and_self]) rfl H
  (refine con_of_run mixed (fn := Tryz.f27) (by kernel_rfl) (by kernel_rfl) C27_ok (rs := [.tmp 4]) (by kernel_rfl) (Nat.le_of_ble_eq_true (by kernel_rfl)) ?_; unfold C27; simp only [initT, Nat.reduceAdd])
  repeat' (first
    | refine run_seq ?_
    | refine run_skip ?_
    | (refine run_region fun K hK => ?_; (try (simp (maxSteps := 10000000) only [insnL, C27r0, C27r1, rwp_nil, rwp_cons, aop, gpath, St.get, slotAt, sfx, eqP, segsOf, St.put, addBlk, getB, ld1, rowNeed, segAt, nsub, shed, addN, Seg.size, sizes, appL, argsOf, ptrsOf, Nat.reduceAdd])); (repeat (first | (refine And.intro ?_ ?_; · decide) | ((first | (refine call_t _ (con88 _ _ _ _ (by decide) (by decide) _) ?_; rintro v H' ⟨rfl, rfl⟩) | refine call_q _ (con88 _ _ _ _ (by decide) (by decide) _) ?_ | refine call_g _ (imp_of (con88 _ _ _ _ (by decide) (by decide) _)) ?_ | (refine call_t _ (con89 _ _ _ _) ?_; rintro v H' ⟨rfl, rfl⟩) | refine call_q _ (con89 _ _ _ _) ?_ | refine call_g _ (imp_of (con89 _ _ _ _)) ?_ | (refine call_t _ (con54 _ i _) ?_; rintro v H' ⟨rfl, rfl⟩) | refine call_q _ (con54 _ i _) ?_ | refine call_g _ (imp_of (con54 _ i _)) ?_ | (refine call_t _ (con93 i _) ?_; rintro v H' ⟨rfl, rfl⟩) | refine call_q _ (con93 i _) ?_ | refine call_g _ (imp_of (con93 i _)) ?_); simp (maxSteps := 10000000) only [ne_eq, rwp_nil, rwp_cons, rwpK_app, aop, gpath, St.get, slotAt, sfx, eqP, St.put, addBlk, getB, ld1, rowNeed, segAt, nsub, bin, isShift, sameK, arith, shed, addN, Seg.size, imp, appL, argsOf, ptrsOf, Nat.reduceAdd]))); with_reducible refine hK _ ?_; clear hK K)
    | (refine run_cond rfl (fun hc => ?_) (fun hc => ?_) <;> try (simp only [*, Bool.true_eq_false, Bool.false_eq_true, Bool.not_true, Bool.not_false, Bool.true_or, Bool.or_true, Bool.false_or, Bool.or_false, Bool.false_and, Bool.and_false, bne_self_eq_false, beq_self_eq_true] at hc; done))
    | refine run_block ?_
    | refine run_ret ?_
    | refine run_nil ?_
    | refine run_exit ?_
    | refine blk_normal ?_
    | refine blk_ret ?_
    | refine blk_here ?_
    | refine blk_there rfl ?_
    | refine loop_exit ?_
    | refine loop_ret ?_
    | refine un_exit ?_
    | refine un_ret ?_
    | refine unE_exit ?_
    | refine unE_ret ?_
    | refine un_normal ?_)
  exact end_tmp1 rfl ⟨rfl, rfl⟩ rfl ⟨rfl, rfl⟩
def putBitfieldS (w : Int) (i : InsnS) : Int := layS (layS (layS (regsS w i) i.sub 29 2) i.imm 16 6) i.imm2 10 6
theorem con29 (w : Int) (i : InsnS) (H : Heap) : Con Tryz.prog 29 [.c (.int .u32 w), .agg (insnL i)] H (fun v H' => v = .c (.int .u32 (putBitfieldS w i)) ∧ H' = H) := by
  refine Con.pure ?_ (by simp only [leArgs, leV, leV1, insnL, leSegs, leSeg, leC, and_self]) rfl H
  (refine con_of_run mixed (fn := Tryz.f29) (by kernel_rfl) (by kernel_rfl) C29_ok (rs := [.tmp 4]) (by kernel_rfl) (Nat.le_of_ble_eq_true (by kernel_rfl)) ?_; unfold C29; simp only [initT, Nat.reduceAdd])
  repeat' (first
    | refine run_seq ?_
    | refine run_skip ?_
    | (refine run_region fun K hK => ?_; (try (simp (maxSteps := 10000000) only [insnL, C29r0, C29r1, rwp_nil, rwp_cons, aop, gpath, St.get, slotAt, sfx, eqP, segsOf, St.put, addBlk, getB, ldn, rowNeed, nsub, shed, Seg.size, sizes, appL, argsOf, ptrsOf, cut, takeS, dropS, Nat.reduceAdd])); (repeat (first | (refine And.intro ?_ ?_; · decide) | ((first | (refine call_t _ (con88 _ _ _ _ (by decide) (by decide) _) ?_; rintro v H' ⟨rfl, rfl⟩) | refine call_q _ (con88 _ _ _ _ (by decide) (by decide) _) ?_ | refine call_g _ (imp_of (con88 _ _ _ _ (by decide) (by decide) _)) ?_ | (refine call_t _ (con89 _ _ _ _) ?_; rintro v H' ⟨rfl, rfl⟩) | refine call_q _ (con89 _ _ _ _) ?_ | refine call_g _ (imp_of (con89 _ _ _ _)) ?_ | (refine call_t _ (con54 _ i _) ?_; rintro v H' ⟨rfl, rfl⟩) | refine call_q _ (con54 _ i _) ?_ | refine call_g _ (imp_of (con54 _ i _)) ?_ | (refine call_t _ (con93 i _) ?_; rintro v H' ⟨rfl, rfl⟩) | refine call_q _ (con93 i _) ?_ | refine call_g _ (imp_of (con93 i _)) ?_); simp (maxSteps := 10000000) only [rwp_nil, rwp_cons, rwpK_app, aop, gpath, St.get, slotAt, sfx, eqP, St.put, addBlk, getB, ld1, rowNeed, segAt, nsub, shed, addN, Seg.size, appL, argsOf, ptrsOf, Nat.reduceAdd]))); with_reducible refine hK _ ?_; clear hK K)
    | (refine run_cond rfl (fun hc => ?_) (fun hc => ?_) <;> try (simp only [*, Bool.true_eq_false, Bool.false_eq_true, Bool.not_true, Bool.not_false, Bool.true_or, Bool.or_true, Bool.false_or, Bool.or_false, Bool.false_and, Bool.and_false, bne_self_eq_false, beq_self_eq_true] at hc; done))
    | refine run_block ?_
    | refine run_ret ?_
    | refine run_nil ?_
    | refine run_exit ?_
    | refine blk_normal ?_
    | refine blk_ret ?_
    | refine blk_here ?_
    | refine blk_there rfl ?_
    | refine loop_exit ?_
    | refine loop_ret ?_
    | refine un_exit ?_
    | refine un_ret ?_
    | refine unE_exit ?_
    | refine unE_ret ?_
    | refine un_normal ?_)
  exact end_tmp1 rfl ⟨rfl, rfl⟩ rfl ⟨rfl, rfl⟩
def putSub10S (w : Int) (i : InsnS) : Int := layS (regsS w i) i.sub 10 2
theorem con31 (w : Int) (i : InsnS) (H : Heap) : Con Tryz.prog 31 [.c (.int .u32 w), .agg (insnL i)] H (fun v H' => v = .c (.int .u32 (putSub10S w i)) ∧ H' = H) := by
  refine Con.pure ?_ (by simp only [leArgs, leV, leV1, insnL, leSegs, leSeg, leC, and_self]) rfl H
  (refine con_of_run mixed (fn := Tryz.f31) (by kernel_rfl) (by kernel_rfl) C31_ok (rs := [.tmp 4]) (by kernel_rfl) (Nat.le_of_ble_eq_true (by kernel_rfl)) ?_; unfold C31; simp only [initT, Nat.reduceAdd])
  repeat' (first
    | refine run_seq ?_
    | refine run_skip ?_
    | (refine run_region fun K hK => ?_; (try (simp (maxSteps := 10000000) only [insnL, C31r0, C31r1, rwp_nil, rwp_cons, aop, gpath, St.get, slotAt, sfx, eqP, segsOf, St.put, addBlk, getB, ldn, rowNeed, nsub, shed, Seg.size, sizes, appL, argsOf, ptrsOf, cut, takeS, dropS, Nat.reduceAdd])); (repeat (first | (refine And.intro ?_ ?_; · decide) | ((first | (refine call_t _ (con88 _ _ _ _ (by decide) (by decide) _) ?_; rintro v H' ⟨rfl, rfl⟩) | refine call_q _ (con88 _ _ _ _ (by decide) (by decide) _) ?_ | refine call_g _ (imp_of (con88 _ _ _ _ (by decide) (by decide) _)) ?_ | (refine call_t _ (con89 _ _ _ _) ?_; rintro v H' ⟨rfl, rfl⟩) | refine call_q _ (con89 _ _ _ _) ?_ | refine call_g _ (imp_of (con89 _ _ _ _)) ?_ | (refine call_t _ (con54 _ i _) ?_; rintro v H' ⟨rfl, rfl⟩) | refine call_q _ (con54 _ i _) ?_ | refine call_g _ (imp_of (con54 _ i _)) ?_ | (refine call_t _ (con93 i _) ?_; rintro v H' ⟨rfl, rfl⟩) | refine call_q _ (con93 i _) ?_ | refine call_g _ (imp_of (con93 i _)) ?_); simp (maxSteps := 10000000) only [rwp_nil, rwp_cons, rwpK_app, aop, gpath, St.get, slotAt, sfx, eqP, St.put, addBlk, getB, ld1, rowNeed, segAt, nsub, shed, addN, Seg.size, appL, argsOf, ptrsOf, Nat.reduceAdd]))); with_reducible refine hK _ ?_; clear hK K)
    | (refine run_cond rfl (fun hc => ?_) (fun hc => ?_) <;> try (simp only [*, Bool.true_eq_false, Bool.false_eq_true, Bool.not_true, Bool.not_false, Bool.true_or, Bool.or_true, Bool.false_or, Bool.or_false, Bool.false_and, Bool.and_false, bne_self_eq_false, beq_self_eq_true] at hc; done))
    | refine run_block ?_
    | refine run_ret ?_
    | refine run_nil ?_
    | refine run_exit ?_
    | refine blk_normal ?_
    | refine blk_ret ?_
    | refine blk_here ?_
    | refine blk_there rfl ?_
    | refine loop_exit ?_
    | refine loop_ret ?_
    | refine un_exit ?_
    | refine un_ret ?_
    | refine unE_exit ?_
    | refine unE_ret ?_
    | refine un_normal ?_)
  exact end_tmp1 rfl ⟨rfl, rfl⟩ rfl ⟨rfl, rfl⟩
def putMulS (w : Int) (i : InsnS) : Int := flagS (layS (regsS w i) i.ra 10 5) i.minus 32768
theorem con33 (w : Int) (i : InsnS) (H : Heap) : Con Tryz.prog 33 [.c (.int .u32 w), .agg (insnL i)] H (fun v H' => v = .c (.int .u32 (putMulS w i)) ∧ H' = H) := by
  refine Con.pure ?_ (by simp only [leArgs, leV, leV1, insnL, leSegs, leSeg, leC, and_self]) rfl H
  (refine con_of_run mixed (fn := Tryz.f33) (by kernel_rfl) (by kernel_rfl) C33_ok (rs := [.tmp 4]) (by kernel_rfl) (Nat.le_of_ble_eq_true (by kernel_rfl)) ?_; unfold C33; simp only [initT, Nat.reduceAdd])
  repeat' (first
    | refine run_seq ?_
    | refine run_skip ?_
    | (refine run_region fun K hK => ?_; (try (simp (maxSteps := 10000000) only [insnL, C33r0, C33r1, rwp_nil, rwp_cons, aop, gpath, St.get, slotAt, sfx, eqP, segsOf, St.put, addBlk, getB, ldn, rowNeed, nsub, shed, Seg.size, sizes, appL, argsOf, ptrsOf, cut, takeS, dropS, Nat.reduceAdd])); (repeat (first | (refine And.intro ?_ ?_; · decide) | ((first | (refine call_t _ (con88 _ _ _ _ (by decide) (by decide) _) ?_; rintro v H' ⟨rfl, rfl⟩) | refine call_q _ (con88 _ _ _ _ (by decide) (by decide) _) ?_ | refine call_g _ (imp_of (con88 _ _ _ _ (by decide) (by decide) _)) ?_ | (refine call_t _ (con89 _ _ _ _) ?_; rintro v H' ⟨rfl, rfl⟩) | refine call_q _ (con89 _ _ _ _) ?_ | refine call_g _ (imp_of (con89 _ _ _ _)) ?_ | (refine call_t _ (con54 _ i _) ?_; rintro v H' ⟨rfl, rfl⟩) | refine call_q _ (con54 _ i _) ?_ | refine call_g _ (imp_of (con54 _ i _)) ?_ | (refine call_t _ (con93 i _) ?_; rintro v H' ⟨rfl, rfl⟩) | refine call_q _ (con93 i _) ?_ | refine call_g _ (imp_of (con93 i _)) ?_); simp (maxSteps := 10000000) only [rwp_nil, rwp_cons, rwpK_app, aop, gpath, St.get, slotAt, sfx, eqP, St.put, addBlk, getB, ld1, rowNeed, segAt, nsub, shed, addN, Seg.size, appL, argsOf, ptrsOf, Nat.reduceAdd]))); with_reducible refine hK _ ?_; clear hK K)
    | (refine run_cond rfl (fun hc => ?_) (fun hc => ?_) <;> try (simp only [*, Bool.true_eq_false, Bool.false_eq_true, Bool.not_true, Bool.not_false, Bool.true_or, Bool.or_true, Bool.false_or, Bool.or_false, Bool.false_and, Bool.and_false, bne_self_eq_false, beq_self_eq_true] at hc; done))
    | refine run_block ?_
    | refine run_ret ?_
    | refine run_nil ?_
    | refine run_exit ?_
    | refine blk_normal ?_
    | refine blk_ret ?_
    | refine blk_here ?_
    | refine blk_there rfl ?_
    | refine loop_exit ?_
    | refine loop_ret ?_
    | refine un_exit ?_
    | refine un_ret ?_
    | refine unE_exit ?_
    | refine unE_ret ?_
    | refine un_normal ?_)
  exact end_tmp1 rfl ⟨rfl, rfl⟩ rfl ⟨rfl, rfl⟩
def putSelS (w : Int) (i : InsnS) : Int := layS (layS (layS (regsS w i) (shrS i.sub 1) 30 1) i.sub 10 1) i.cond 12 4
theorem con36 (w : Int) (i : InsnS) (H : Heap) : Con Tryz.prog 36 [.c (.int .u32 w), .agg (insnL i)] H (fun v H' => v = .c (.int .u32 (putSelS w i)) ∧ H' = H) := by
  refine Con.pure ?_ (by simp only [leArgs, leV, leV1, insnL, leSegs, leSeg, leC, and_self]) rfl H
  (refine con_of_run mixed (fn := Tryz.f36) (by kernel_rfl) (by kernel_rfl) C36_ok (rs := [.tmp 4]) (by kernel_rfl) (Nat.le_of_ble_eq_true (by kernel_rfl)) ?_; unfold C36; simp only [initT, Nat.reduceAdd])
  repeat' (first
    | refine run_seq ?_
    | refine run_skip ?_
    | (refine run_region fun K hK => ?_; (try (simp (maxSteps := 10000000) only [insnL, C36r0, C36r1, rwp_nil, rwp_cons, aop, gpath, St.get, slotAt, sfx, eqP, segsOf, St.put, addBlk, getB, ldn, rowNeed, nsub, shed, Seg.size, sizes, appL, argsOf, ptrsOf, cut, takeS, dropS, Nat.reduceAdd])); (repeat (first | (refine And.intro ?_ ?_; · decide) | ((first | (refine call_t _ (con88 _ _ _ _ (by decide) (by decide) _) ?_; rintro v H' ⟨rfl, rfl⟩) | refine call_q _ (con88 _ _ _ _ (by decide) (by decide) _) ?_ | refine call_g _ (imp_of (con88 _ _ _ _ (by decide) (by decide) _)) ?_ | (refine call_t _ (con89 _ _ _ _) ?_; rintro v H' ⟨rfl, rfl⟩) | refine call_q _ (con89 _ _ _ _) ?_ | refine call_g _ (imp_of (con89 _ _ _ _)) ?_ | (refine call_t _ (con54 _ i _) ?_; rintro v H' ⟨rfl, rfl⟩) | refine call_q _ (con54 _ i _) ?_ | refine call_g _ (imp_of (con54 _ i _)) ?_ | (refine call_t _ (con93 i _) ?_; rintro v H' ⟨rfl, rfl⟩) | refine call_q _ (con93 i _) ?_ | refine call_g _ (imp_of (con93 i _)) ?_); simp (maxSteps := 10000000) only [rwp_nil, rwp_cons, rwpK_app, aop, gpath, St.get, slotAt, sfx, eqP, St.put, addBlk, getB, ld1, rowNeed, segAt, nsub, bin, isShift, shiftR, shed, addN, Seg.size, imp, appL, argsOf, ptrsOf, Nat.reduceAdd, Int.reduceToNat]))); with_reducible refine hK _ ?_; clear hK K)
    | (refine run_cond rfl (fun hc => ?_) (fun hc => ?_) <;> try (simp only [*, Bool.true_eq_false, Bool.false_eq_true, Bool.not_true, Bool.not_false, Bool.true_or, Bool.or_true, Bool.false_or, Bool.or_false, Bool.false_and, Bool.and_false, bne_self_eq_false, beq_self_eq_true] at hc; done))
    | refine run_block ?_
    | refine run_ret ?_
    | refine run_nil ?_
    | refine run_exit ?_
    | refine blk_normal ?_
    | refine blk_ret ?_
    | refine blk_here ?_
    | refine blk_there rfl ?_
    | refine loop_exit ?_
    | refine loop_ret ?_
    | refine un_exit ?_
    | refine un_ret ?_
    | refine unE_exit ?_
    | refine unE_ret ?_
    | refine un_normal ?_)
  exact end_tmp1 rfl ⟨rfl, rfl⟩ rfl ⟨rfl, rfl⟩
def putBS (w : Int) (i : InsnS) : Int := layS (flagS w i.link 2147483648) (shrS i.imm 2) 0 26
theorem con40 (w : Int) (i : InsnS) (H : Heap) : Con Tryz.prog 40 [.c (.int .u32 w), .agg (insnL i)] H (fun v H' => v = .c (.int .u32 (putBS w i)) ∧ H' = H) := by
  refine Con.pure ?_ (by simp only [leArgs, leV, leV1, insnL, leSegs, leSeg, leC, and_self]) rfl H
  (refine con_of_run mixed (fn := Tryz.f40) (by kernel_rfl) (by kernel_rfl) C40_ok (rs := [.tmp 4]) (by kernel_rfl) (Nat.le_of_ble_eq_true (by kernel_rfl)) ?_; unfold C40; simp only [initT, Nat.reduceAdd])
  repeat' (first
    | refine run_seq ?_
    | refine run_skip ?_
    | (refine run_region fun K hK => ?_; (try (simp (maxSteps := 10000000) only [insnL, C40r0, C40r1, rwp_nil, rwp_cons, aop, gpath, St.get, slotAt, sfx, eqP, segsOf, St.put, addBlk, getB, ld1, rowNeed, segAt, nsub, shed, addN, Seg.size, sizes, appL, argsOf, ptrsOf, Nat.reduceAdd])); (repeat (first | (refine And.intro ?_ ?_; · decide) | ((first | (refine call_t _ (con88 _ _ _ _ (by decide) (by decide) _) ?_; rintro v H' ⟨rfl, rfl⟩) | refine call_q _ (con88 _ _ _ _ (by decide) (by decide) _) ?_ | refine call_g _ (imp_of (con88 _ _ _ _ (by decide) (by decide) _)) ?_ | (refine call_t _ (con89 _ _ _ _) ?_; rintro v H' ⟨rfl, rfl⟩) | refine call_q _ (con89 _ _ _ _) ?_ | refine call_g _ (imp_of (con89 _ _ _ _)) ?_ | (refine call_t _ (con54 _ i _) ?_; rintro v H' ⟨rfl, rfl⟩) | refine call_q _ (con54 _ i _) ?_ | refine call_g _ (imp_of (con54 _ i _)) ?_ | (refine call_t _ (con93 i _) ?_; rintro v H' ⟨rfl, rfl⟩) | refine call_q _ (con93 i _) ?_ | refine call_g _ (imp_of (con93 i _)) ?_); simp (maxSteps := 10000000) only [rwp_nil, rwp_cons, rwpK_app, aop, gpath, St.get, slotAt, sfx, eqP, St.put, addBlk, getB, ld1, rowNeed, segAt, nsub, bin, isShift, shiftR, shed, addN, Seg.size, imp, appL, argsOf, ptrsOf, Nat.reduceAdd, Int.reduceToNat]))); with_reducible refine hK _ ?_; clear hK K)
    | (refine run_cond rfl (fun hc => ?_) (fun hc => ?_) <;> try (simp only [*, Bool.true_eq_false, Bool.false_eq_true, Bool.not_true, Bool.not_false, Bool.true_or, Bool.or_true, Bool.false_or, Bool.or_false, Bool.false_and, Bool.and_false, bne_self_eq_false, beq_self_eq_true] at hc; done))
    | refine run_block ?_
    | refine run_ret ?_
    | refine run_nil ?_
    | refine run_exit ?_
    | refine blk_normal ?_
    | refine blk_ret ?_
    | refine blk_here ?_
    | refine blk_there rfl ?_
    | refine loop_exit ?_
    | refine loop_ret ?_
    | refine un_exit ?_
    | refine un_ret ?_
    | refine unE_exit ?_
    | refine unE_ret ?_
    | refine un_normal ?_)
  exact end_tmp1 rfl ⟨rfl, rfl⟩ rfl ⟨rfl, rfl⟩
def putBCondS (w : Int) (i : InsnS) : Int := layS (layS w i.cond 0 4) (shrS i.imm 2) 5 19
theorem con42 (w : Int) (i : InsnS) (H : Heap) : Con Tryz.prog 42 [.c (.int .u32 w), .agg (insnL i)] H (fun v H' => v = .c (.int .u32 (putBCondS w i)) ∧ H' = H) := by
  refine Con.pure ?_ (by simp only [leArgs, leV, leV1, insnL, leSegs, leSeg, leC, and_self]) rfl H
  (refine con_of_run mixed (fn := Tryz.f42) (by kernel_rfl) (by kernel_rfl) C42_ok (rs := [.tmp 4]) (by kernel_rfl) (Nat.le_of_ble_eq_true (by kernel_rfl)) ?_; unfold C42; simp only [initT, Nat.reduceAdd])
  repeat' (first
    | refine run_seq ?_
    | refine run_skip ?_
    | (refine run_region fun K hK => ?_; (try (simp (maxSteps := 10000000) only [insnL, C42r0, C42r1, rwp_nil, rwp_cons, aop, gpath, St.get, slotAt, sfx, eqP, segsOf, St.put, addBlk, getB, ld1, rowNeed, segAt, nsub, shed, addN, Seg.size, sizes, appL, argsOf, ptrsOf, Nat.reduceAdd])); (repeat (first | (refine And.intro ?_ ?_; · decide) | ((first | (refine call_t _ (con88 _ _ _ _ (by decide) (by decide) _) ?_; rintro v H' ⟨rfl, rfl⟩) | refine call_q _ (con88 _ _ _ _ (by decide) (by decide) _) ?_ | refine call_g _ (imp_of (con88 _ _ _ _ (by decide) (by decide) _)) ?_ | (refine call_t _ (con89 _ _ _ _) ?_; rintro v H' ⟨rfl, rfl⟩) | refine call_q _ (con89 _ _ _ _) ?_ | refine call_g _ (imp_of (con89 _ _ _ _)) ?_ | (refine call_t _ (con54 _ i _) ?_; rintro v H' ⟨rfl, rfl⟩) | refine call_q _ (con54 _ i _) ?_ | refine call_g _ (imp_of (con54 _ i _)) ?_ | (refine call_t _ (con93 i _) ?_; rintro v H' ⟨rfl, rfl⟩) | refine call_q _ (con93 i _) ?_ | refine call_g _ (imp_of (con93 i _)) ?_); simp (maxSteps := 10000000) only [rwp_nil, rwp_cons, rwpK_app, aop, gpath, St.get, slotAt, sfx, eqP, St.put, addBlk, getB, ld1, rowNeed, segAt, nsub, bin, isShift, shiftR, shed, addN, Seg.size, imp, appL, argsOf, ptrsOf, Nat.reduceAdd, Int.reduceToNat]))); with_reducible refine hK _ ?_; clear hK K)
    | (refine run_cond rfl (fun hc => ?_) (fun hc => ?_) <;> try (simp only [*, Bool.true_eq_false, Bool.false_eq_true, Bool.not_true, Bool.not_false, Bool.true_or, Bool.or_true, Bool.false_or, Bool.or_false, Bool.false_and, Bool.and_false, bne_self_eq_false, beq_self_eq_true] at hc; done))
    | refine run_block ?_
    | refine run_ret ?_
    | refine run_nil ?_
    | refine run_exit ?_
    | refine blk_normal ?_
    | refine blk_ret ?_
    | refine blk_here ?_
    | refine blk_there rfl ?_
    | refine loop_exit ?_
    | refine loop_ret ?_
    | refine un_exit ?_
    | refine un_ret ?_
    | refine unE_exit ?_
    | refine unE_ret ?_
    | refine un_normal ?_)
  exact end_tmp1 rfl ⟨rfl, rfl⟩ rfl ⟨rfl, rfl⟩
def putCbzS (w : Int) (i : InsnS) : Int := layS (flagS (layS w i.rd 0 5) i.not_ 16777216) (shrS i.imm 2) 5 19
theorem con44 (w : Int) (i : InsnS) (H : Heap) : Con Tryz.prog 44 [.c (.int .u32 w), .agg (insnL i)] H (fun v H' => v = .c (.int .u32 (putCbzS w i)) ∧ H' = H) := by
  refine Con.pure ?_ (by simp only [leArgs, leV, leV1, insnL, leSegs, leSeg, leC, and_self]) rfl H
  (refine con_of_run mixed (fn := Tryz.f44) (by kernel_rfl) (by kernel_rfl) C44_ok (rs := [.tmp 4]) (by kernel_rfl) (Nat.le_of_ble_eq_true (by kernel_rfl)) ?_; unfold C44; simp only [initT, Nat.reduceAdd])
  repeat' (first
    | refine run_seq ?_
    | refine run_skip ?_
    | (refine run_region fun K hK => ?_; (try (simp (maxSteps := 10000000) only [insnL, C44r0, C44r1, rwp_nil, rwp_cons, aop, gpath, St.get, slotAt, sfx, eqP, segsOf, St.put, addBlk, getB, ld1, rowNeed, segAt, nsub, shed, addN, Seg.size, sizes, appL, argsOf, ptrsOf, Nat.reduceAdd])); (repeat (first | (refine And.intro ?_ ?_; · decide) | ((first | (refine call_t _ (con88 _ _ _ _ (by decide) (by decide) _) ?_; rintro v H' ⟨rfl, rfl⟩) | refine call_q _ (con88 _ _ _ _ (by decide) (by decide) _) ?_ | refine call_g _ (imp_of (con88 _ _ _ _ (by decide) (by decide) _)) ?_ | (refine call_t _ (con89 _ _ _ _) ?_; rintro v H' ⟨rfl, rfl⟩) | refine call_q _ (con89 _ _ _ _) ?_ | refine call_g _ (imp_of (con89 _ _ _ _)) ?_ | (refine call_t _ (con54 _ i _) ?_; rintro v H' ⟨rfl, rfl⟩) | refine call_q _ (con54 _ i _) ?_ | refine call_g _ (imp_of (con54 _ i _)) ?_ | (refine call_t _ (con93 i _) ?_; rintro v H' ⟨rfl, rfl⟩) | refine call_q _ (con93 i _) ?_ | refine call_g _ (imp_of (con93 i _)) ?_); simp (maxSteps := 10000000) only [rwp_nil, rwp_cons, rwpK_app, aop, gpath, St.get, slotAt, sfx, eqP, St.put, addBlk, getB, ld1, rowNeed, segAt, nsub, bin, isShift, shiftR, shed, addN, Seg.size, imp, appL, argsOf, ptrsOf, Nat.reduceAdd, Int.reduceToNat]))); with_reducible refine hK _ ?_; clear hK K)
    | (refine run_cond rfl (fun hc => ?_) (fun hc => ?_) <;> try (simp only [*, Bool.true_eq_false, Bool.false_eq_true, Bool.not_true, Bool.not_false, Bool.true_or, Bool.or_true, Bool.false_or, Bool.or_false, Bool.false_and, Bool.and_false, bne_self_eq_false, beq_self_eq_true] at hc; done))
    | refine run_block ?_
    | refine run_ret ?_
    | refine run_nil ?_
    | refine run_exit ?_
    | refine blk_normal ?_
    | refine blk_ret ?_
    | refine blk_here ?_
    | refine blk_there rfl ?_
    | refine loop_exit ?_
    | refine loop_ret ?_
    | refine un_exit ?_
    | refine un_ret ?_
    | refine unE_exit ?_
    | refine unE_ret ?_
    | refine un_normal ?_)
  exact end_tmp1 rfl ⟨rfl, rfl⟩ rfl ⟨rfl, rfl⟩
def putTbzS (w : Int) (i : InsnS) : Int := layS (layS (layS (flagS (layS w i.rd 0 5) i.not_ 16777216) (shrS i.amount 5) 31 1) i.amount 19 5) (shrS i.imm 2) 5 14
theorem con46 (w : Int) (i : InsnS) (H : Heap) : Con Tryz.prog 46 [.c (.int .u32 w), .agg (insnL i)] H (fun v H' => v = .c (.int .u32 (putTbzS w i)) ∧ H' = H) := by
  refine Con.pure ?_ (by simp only [leArgs, leV, leV1, insnL, leSegs, leSeg, leC, and_self]) rfl H
  (refine con_of_run mixed (fn := Tryz.f46) (by kernel_rfl) (by kernel_rfl) C46_ok (rs := [.tmp 4]) (by kernel_rfl) (Nat.le_of_ble_eq_true (by kernel_rfl)) ?_; unfold C46; simp only [initT, Nat.reduceAdd])
  repeat' (first
    | refine run_seq ?_
    | refine run_skip ?_
    | (refine run_region fun K hK => ?_; (try (simp (maxSteps := 10000000) only [insnL, C46r0, C46r1, rwp_nil, rwp_cons, aop, gpath, St.get, slotAt, sfx, eqP, segsOf, St.put, addBlk, getB, ld1, rowNeed, segAt, nsub, shed, addN, Seg.size, sizes, appL, argsOf, ptrsOf, Nat.reduceAdd])); (repeat (first | (refine And.intro ?_ ?_; · decide) | ((first | (refine call_t _ (con88 _ _ _ _ (by decide) (by decide) _) ?_; rintro v H' ⟨rfl, rfl⟩) | refine call_q _ (con88 _ _ _ _ (by decide) (by decide) _) ?_ | refine call_g _ (imp_of (con88 _ _ _ _ (by decide) (by decide) _)) ?_ | (refine call_t _ (con89 _ _ _ _) ?_; rintro v H' ⟨rfl, rfl⟩) | refine call_q _ (con89 _ _ _ _) ?_ | refine call_g _ (imp_of (con89 _ _ _ _)) ?_ | (refine call_t _ (con54 _ i _) ?_; rintro v H' ⟨rfl, rfl⟩) | refine call_q _ (con54 _ i _) ?_ | refine call_g _ (imp_of (con54 _ i _)) ?_ | (refine call_t _ (con93 i _) ?_; rintro v H' ⟨rfl, rfl⟩) | refine call_q _ (con93 i _) ?_ | refine call_g _ (imp_of (con93 i _)) ?_); simp (maxSteps := 10000000) only [rwp_nil, rwp_cons, rwpK_app, aop, gpath, St.get, slotAt, sfx, eqP, St.put, addBlk, getB, ld1, rowNeed, segAt, nsub, bin, isShift, shiftR, shed, addN, Seg.size, imp, appL, argsOf, ptrsOf, Nat.reduceAdd, Int.reduceToNat]))); with_reducible refine hK _ ?_; clear hK K)
    | (refine run_cond rfl (fun hc => ?_) (fun hc => ?_) <;> try (simp only [*, Bool.true_eq_false, Bool.false_eq_true, Bool.not_true, Bool.not_false, Bool.true_or, Bool.or_true, Bool.false_or, Bool.or_false, Bool.false_and, Bool.and_false, bne_self_eq_false, beq_self_eq_true] at hc; done))
    | refine run_block ?_
    | refine run_ret ?_
    | refine run_nil ?_
    | refine run_exit ?_
    | refine blk_normal ?_
    | refine blk_ret ?_
    | refine blk_here ?_
    | refine blk_there rfl ?_
    | refine loop_exit ?_
    | refine loop_ret ?_
    | refine un_exit ?_
    | refine un_ret ?_
    | refine unE_exit ?_
    | refine unE_ret ?_
    | refine un_normal ?_)
  exact end_tmp1 rfl ⟨rfl, rfl⟩ rfl ⟨rfl, rfl⟩
def putBrS (w : Int) (i : InsnS) : Int := layS (layS w i.rn 5 5) i.sub 21 2
theorem con48 (w : Int) (i : InsnS) (H : Heap) : Con Tryz.prog 48 [.c (.int .u32 w), .agg (insnL i)] H (fun v H' => v = .c (.int .u32 (putBrS w i)) ∧ H' = H) := by
  refine Con.pure ?_ (by simp only [leArgs, leV, leV1, insnL, leSegs, leSeg, leC, and_self]) rfl H
  (refine con_of_run mixed (fn := Tryz.f48) (by kernel_rfl) (by kernel_rfl) C48_ok (rs := [.tmp 4]) (by kernel_rfl) (Nat.le_of_ble_eq_true (by kernel_rfl)) ?_; unfold C48; simp only [initT, Nat.reduceAdd])
  repeat' (first
    | refine run_seq ?_
    | refine run_skip ?_
    | (refine run_region fun K hK => ?_; (try (simp (maxSteps := 10000000) only [insnL, C48r0, C48r1, rwp_nil, rwp_cons, aop, gpath, St.get, slotAt, sfx, eqP, segsOf, St.put, addBlk, getB, ld1, rowNeed, segAt, nsub, shed, addN, Seg.size, sizes, appL, argsOf, ptrsOf, Nat.reduceAdd])); (repeat (first | (refine And.intro ?_ ?_; · decide) | ((first | (refine call_t _ (con88 _ _ _ _ (by decide) (by decide) _) ?_; rintro v H' ⟨rfl, rfl⟩) | refine call_q _ (con88 _ _ _ _ (by decide) (by decide) _) ?_ | refine call_g _ (imp_of (con88 _ _ _ _ (by decide) (by decide) _)) ?_ | (refine call_t _ (con89 _ _ _ _) ?_; rintro v H' ⟨rfl, rfl⟩) | refine call_q _ (con89 _ _ _ _) ?_ | refine call_g _ (imp_of (con89 _ _ _ _)) ?_ | (refine call_t _ (con54 _ i _) ?_; rintro v H' ⟨rfl, rfl⟩) | refine call_q _ (con54 _ i _) ?_ | refine call_g _ (imp_of (con54 _ i _)) ?_ | (refine call_t _ (con93 i _) ?_; rintro v H' ⟨rfl, rfl⟩) | refine call_q _ (con93 i _) ?_ | refine call_g _ (imp_of (con93 i _)) ?_); simp (maxSteps := 10000000) only [rwp_nil, rwp_cons, rwpK_app, aop, gpath, St.get, slotAt, sfx, eqP, St.put, addBlk, getB, ld1, rowNeed, segAt, nsub, shed, addN, Seg.size, appL, argsOf, ptrsOf, Nat.reduceAdd]))); with_reducible refine hK _ ?_; clear hK K)
    | (refine run_cond rfl (fun hc => ?_) (fun hc => ?_) <;> try (simp only [*, Bool.true_eq_false, Bool.false_eq_true, Bool.not_true, Bool.not_false, Bool.true_or, Bool.or_true, Bool.false_or, Bool.or_false, Bool.false_and, Bool.and_false, bne_self_eq_false, beq_self_eq_true] at hc; done))
    | refine run_block ?_
    | refine run_ret ?_
    | refine run_nil ?_
    | refine run_exit ?_
    | refine blk_normal ?_
    | refine blk_ret ?_
    | refine blk_here ?_
    | refine blk_there rfl ?_
    | refine loop_exit ?_
    | refine loop_ret ?_
    | refine un_exit ?_
    | refine un_ret ?_
    | refine unE_exit ?_
    | refine unE_ret ?_
    | refine un_normal ?_)
  exact end_tmp1 rfl ⟨rfl, rfl⟩ rfl ⟨rfl, rfl⟩
def putAccessS (w : Int) (i : InsnS) : Int := layS (regsS w i) (quoS i.imm 8) 10 12
theorem con50 (w : Int) (i : InsnS) (H : Heap) : Con Tryz.prog 50 [.c (.int .u32 w), .agg (insnL i)] H (fun v H' => v = .c (.int .u32 (putAccessS w i)) ∧ H' = H) := by
  refine Con.pure ?_ (by simp only [leArgs, leV, leV1, insnL, leSegs, leSeg, leC, and_self]) rfl H
  (refine con_of_run mixed (fn := Tryz.f50) (by kernel_rfl) (by kernel_rfl) C50_ok (rs := [.tmp 4]) (by kernel_rfl) (Nat.le_of_ble_eq_true (by kernel_rfl)) ?_; unfold C50; simp only [initT, Nat.reduceAdd])
  repeat' (first
    | refine run_seq ?_
    | refine run_skip ?_
    | (refine run_region fun K hK => ?_; (try (simp (maxSteps := 10000000) only [insnL, C50r0, C50r1, rwp_nil, rwp_cons, aop, gpath, St.get, slotAt, sfx, eqP, segsOf, St.put, addBlk, getB, ldn, rowNeed, nsub, shed, Seg.size, sizes, appL, argsOf, ptrsOf, cut, takeS, dropS, Nat.reduceAdd])); (repeat (first | (refine And.intro ?_ ?_; · decide) | ((first | (refine call_t _ (con88 _ _ _ _ (by decide) (by decide) _) ?_; rintro v H' ⟨rfl, rfl⟩) | refine call_q _ (con88 _ _ _ _ (by decide) (by decide) _) ?_ | refine call_g _ (imp_of (con88 _ _ _ _ (by decide) (by decide) _)) ?_ | (refine call_t _ (con89 _ _ _ _) ?_; rintro v H' ⟨rfl, rfl⟩) | refine call_q _ (con89 _ _ _ _) ?_ | refine call_g _ (imp_of (con89 _ _ _ _)) ?_ | (refine call_t _ (con54 _ i _) ?_; rintro v H' ⟨rfl, rfl⟩) | refine call_q _ (con54 _ i _) ?_ | refine call_g _ (imp_of (con54 _ i _)) ?_ | (refine call_t _ (con93 i _) ?_; rintro v H' ⟨rfl, rfl⟩) | refine call_q _ (con93 i _) ?_ | refine call_g _ (imp_of (con93 i _)) ?_); simp (maxSteps := 10000000) only [ne_eq, rwp_nil, rwp_cons, rwpK_app, aop, gpath, St.get, slotAt, sfx, eqP, St.put, addBlk, getB, ld1, rowNeed, segAt, nsub, bin, isShift, sameK, arith, shed, addN, Seg.size, imp, appL, argsOf, ptrsOf, Nat.reduceAdd]))); with_reducible refine hK _ ?_; clear hK K)
    | (refine run_cond rfl (fun hc => ?_) (fun hc => ?_) <;> try (simp only [*, Bool.true_eq_false, Bool.false_eq_true, Bool.not_true, Bool.not_false, Bool.true_or, Bool.or_true, Bool.false_or, Bool.or_false, Bool.false_and, Bool.and_false, bne_self_eq_false, beq_self_eq_true] at hc; done))
    | refine run_block ?_
    | refine run_ret ?_
    | refine run_nil ?_
    | refine run_exit ?_
    | refine blk_normal ?_
    | refine blk_ret ?_
    | refine blk_here ?_
    | refine blk_there rfl ?_
    | refine loop_exit ?_
    | refine loop_ret ?_
    | refine un_exit ?_
    | refine un_ret ?_
    | refine unE_exit ?_
    | refine unE_ret ?_
    | refine un_normal ?_)
  exact end_tmp1 rfl ⟨rfl, rfl⟩ rfl ⟨rfl, rfl⟩
def putAccessRegS (w : Int) (i : InsnS) : Int := layS (regsS w i) (quoS i.amount 3) 12 1
theorem con52 (w : Int) (i : InsnS) (H : Heap) : Con Tryz.prog 52 [.c (.int .u32 w), .agg (insnL i)] H (fun v H' => v = .c (.int .u32 (putAccessRegS w i)) ∧ H' = H) := by
  refine Con.pure ?_ (by simp only [leArgs, leV, leV1, insnL, leSegs, leSeg, leC, and_self]) rfl H
  (refine con_of_run mixed (fn := Tryz.f52) (by kernel_rfl) (by kernel_rfl) C52_ok (rs := [.tmp 4]) (by kernel_rfl) (Nat.le_of_ble_eq_true (by kernel_rfl)) ?_; unfold C52; simp only [initT, Nat.reduceAdd])
  repeat' (first
    | refine run_seq ?_
    | refine run_skip ?_
    | (refine run_region fun K hK => ?_; (try (simp (maxSteps := 10000000) only [insnL, C52r0, C52r1, rwp_nil, rwp_cons, aop, gpath, St.get, slotAt, sfx, eqP, segsOf, St.put, addBlk, getB, ldn, rowNeed, nsub, shed, Seg.size, sizes, appL, argsOf, ptrsOf, cut, takeS, dropS, Nat.reduceAdd])); (repeat (first | (refine And.intro ?_ ?_; · decide) | ((first | (refine call_t _ (con88 _ _ _ _ (by decide) (by decide) _) ?_; rintro v H' ⟨rfl, rfl⟩) | refine call_q _ (con88 _ _ _ _ (by decide) (by decide) _) ?_ | refine call_g _ (imp_of (con88 _ _ _ _ (by decide) (by decide) _)) ?_ | (refine call_t _ (con89 _ _ _ _) ?_; rintro v H' ⟨rfl, rfl⟩) | refine call_q _ (con89 _ _ _ _) ?_ | refine call_g _ (imp_of (con89 _ _ _ _)) ?_ | (refine call_t _ (con54 _ i _) ?_; rintro v H' ⟨rfl, rfl⟩) | refine call_q _ (con54 _ i _) ?_ | refine call_g _ (imp_of (con54 _ i _)) ?_ | (refine call_t _ (con93 i _) ?_; rintro v H' ⟨rfl, rfl⟩) | refine call_q _ (con93 i _) ?_ | refine call_g _ (imp_of (con93 i _)) ?_); simp (maxSteps := 10000000) only [ne_eq, rwp_nil, rwp_cons, rwpK_app, aop, gpath, St.get, slotAt, sfx, eqP, St.put, addBlk, getB, ld1, rowNeed, segAt, nsub, bin, isShift, sameK, arith, shed, addN, Seg.size, imp, appL, argsOf, ptrsOf, Nat.reduceAdd]))); with_reducible refine hK _ ?_; clear hK K)
    | (refine run_cond rfl (fun hc => ?_) (fun hc => ?_) <;> try (simp only [*, Bool.true_eq_false, Bool.false_eq_true, Bool.not_true, Bool.not_false, Bool.true_or, Bool.or_true, Bool.false_or, Bool.or_false, Bool.false_and, Bool.and_false, bne_self_eq_false, beq_self_eq_true] at hc; done))
    | refine run_block ?_
    | refine run_ret ?_
    | refine run_nil ?_
    | refine run_exit ?_
    | refine blk_normal ?_
    | refine blk_ret ?_
    | refine blk_here ?_
    | refine blk_there rfl ?_
    | refine loop_exit ?_
    | refine loop_ret ?_
    | refine un_exit ?_
    | refine un_ret ?_
    | refine unE_exit ?_
    | refine unE_ret ?_
    | refine un_normal ?_)
  exact end_tmp1 rfl ⟨rfl, rfl⟩ rfl ⟨rfl, rfl⟩
def putExclusiveS (w : Int) (i : InsnS) : Int := layS (regsS w i) i.sub 15 1
theorem con56 (w : Int) (i : InsnS) (H : Heap) : Con Tryz.prog 56 [.c (.int .u32 w), .agg (insnL i)] H (fun v H' => v = .c (.int .u32 (putExclusiveS w i)) ∧ H' = H) := by
  refine Con.pure ?_ (by simp only [leArgs, leV, leV1, insnL, leSegs, leSeg, leC, and_self]) rfl H
  (refine con_of_run mixed (fn := Tryz.f56) (by kernel_rfl) (by kernel_rfl) C56_ok (rs := [.tmp 4]) (by kernel_rfl) (Nat.le_of_ble_eq_true (by kernel_rfl)) ?_; unfold C56; simp only [initT, Nat.reduceAdd])
  repeat' (first
    | refine run_seq ?_
    | refine run_skip ?_
    | (refine run_region fun K hK => ?_; (try (simp (maxSteps := 10000000) only [insnL, C56r0, C56r1, rwp_nil, rwp_cons, aop, gpath, St.get, slotAt, sfx, eqP, segsOf, St.put, addBlk, getB, ldn, rowNeed, nsub, shed, Seg.size, sizes, appL, argsOf, ptrsOf, cut, takeS, dropS, Nat.reduceAdd])); (repeat (first | (refine And.intro ?_ ?_; · decide) | ((first | (refine call_t _ (con88 _ _ _ _ (by decide) (by decide) _) ?_; rintro v H' ⟨rfl, rfl⟩) | refine call_q _ (con88 _ _ _ _ (by decide) (by decide) _) ?_ | refine call_g _ (imp_of (con88 _ _ _ _ (by decide) (by decide) _)) ?_ | (refine call_t _ (con89 _ _ _ _) ?_; rintro v H' ⟨rfl, rfl⟩) | refine call_q _ (con89 _ _ _ _) ?_ | refine call_g _ (imp_of (con89 _ _ _ _)) ?_ | (refine call_t _ (con54 _ i _) ?_; rintro v H' ⟨rfl, rfl⟩) | refine call_q _ (con54 _ i _) ?_ | refine call_g _ (imp_of (con54 _ i _)) ?_ | (refine call_t _ (con93 i _) ?_; rintro v H' ⟨rfl, rfl⟩) | refine call_q _ (con93 i _) ?_ | refine call_g _ (imp_of (con93 i _)) ?_); simp (maxSteps := 10000000) only [rwp_nil, rwp_cons, rwpK_app, aop, gpath, St.get, slotAt, sfx, eqP, St.put, addBlk, getB, ld1, rowNeed, segAt, nsub, shed, addN, Seg.size, appL, argsOf, ptrsOf, Nat.reduceAdd]))); with_reducible refine hK _ ?_; clear hK K)
    | (refine run_cond rfl (fun hc => ?_) (fun hc => ?_) <;> try (simp only [*, Bool.true_eq_false, Bool.false_eq_true, Bool.not_true, Bool.not_false, Bool.true_or, Bool.or_true, Bool.false_or, Bool.or_false, Bool.false_and, Bool.and_false, bne_self_eq_false, beq_self_eq_true] at hc; done))
    | refine run_block ?_
    | refine run_ret ?_
    | refine run_nil ?_
    | refine run_exit ?_
    | refine blk_normal ?_
    | refine blk_ret ?_
    | refine blk_here ?_
    | refine blk_there rfl ?_
    | refine loop_exit ?_
    | refine loop_ret ?_
    | refine un_exit ?_
    | refine un_ret ?_
    | refine unE_exit ?_
    | refine unE_ret ?_
    | refine un_normal ?_)
  exact end_tmp1 rfl ⟨rfl, rfl⟩ rfl ⟨rfl, rfl⟩
def putSystemS (w : Int) (i : InsnS) : Int := layS (layS w i.rd 0 5) i.sys 5 15
theorem con62 (w : Int) (i : InsnS) (H : Heap) : Con Tryz.prog 62 [.c (.int .u32 w), .agg (insnL i)] H (fun v H' => v = .c (.int .u32 (putSystemS w i)) ∧ H' = H) := by
  refine Con.pure ?_ (by simp only [leArgs, leV, leV1, insnL, leSegs, leSeg, leC, and_self]) rfl H
  (refine con_of_run mixed (fn := Tryz.f62) (by kernel_rfl) (by kernel_rfl) C62_ok (rs := [.tmp 4]) (by kernel_rfl) (Nat.le_of_ble_eq_true (by kernel_rfl)) ?_; unfold C62; simp only [initT, Nat.reduceAdd])
  repeat' (first
    | refine run_seq ?_
    | refine run_skip ?_
    | (refine run_region fun K hK => ?_; (try (simp (maxSteps := 10000000) only [insnL, C62r0, C62r1, rwp_nil, rwp_cons, aop, gpath, St.get, slotAt, sfx, eqP, segsOf, St.put, addBlk, getB, ld1, rowNeed, segAt, nsub, shed, addN, Seg.size, sizes, appL, argsOf, ptrsOf, Nat.reduceAdd])); (repeat (first | (refine And.intro ?_ ?_; · decide) | ((first | (refine call_t _ (con88 _ _ _ _ (by decide) (by decide) _) ?_; rintro v H' ⟨rfl, rfl⟩) | refine call_q _ (con88 _ _ _ _ (by decide) (by decide) _) ?_ | refine call_g _ (imp_of (con88 _ _ _ _ (by decide) (by decide) _)) ?_ | (refine call_t _ (con89 _ _ _ _) ?_; rintro v H' ⟨rfl, rfl⟩) | refine call_q _ (con89 _ _ _ _) ?_ | refine call_g _ (imp_of (con89 _ _ _ _)) ?_ | (refine call_t _ (con54 _ i _) ?_; rintro v H' ⟨rfl, rfl⟩) | refine call_q _ (con54 _ i _) ?_ | refine call_g _ (imp_of (con54 _ i _)) ?_ | (refine call_t _ (con93 i _) ?_; rintro v H' ⟨rfl, rfl⟩) | refine call_q _ (con93 i _) ?_ | refine call_g _ (imp_of (con93 i _)) ?_); simp (maxSteps := 10000000) only [rwp_nil, rwp_cons, rwpK_app, aop, gpath, St.get, slotAt, sfx, eqP, St.put, addBlk, getB, ld1, rowNeed, segAt, nsub, shed, addN, Seg.size, appL, argsOf, ptrsOf, Nat.reduceAdd]))); with_reducible refine hK _ ?_; clear hK K)
    | (refine run_cond rfl (fun hc => ?_) (fun hc => ?_) <;> try (simp only [*, Bool.true_eq_false, Bool.false_eq_true, Bool.not_true, Bool.not_false, Bool.true_or, Bool.or_true, Bool.false_or, Bool.or_false, Bool.false_and, Bool.and_false, bne_self_eq_false, beq_self_eq_true] at hc; done))
    | refine run_block ?_
    | refine run_ret ?_
    | refine run_nil ?_
    | refine run_exit ?_
    | refine blk_normal ?_
    | refine blk_ret ?_
    | refine blk_here ?_
    | refine blk_there rfl ?_
    | refine loop_exit ?_
    | refine loop_ret ?_
    | refine un_exit ?_
    | refine un_ret ?_
    | refine unE_exit ?_
    | refine unE_ret ?_
    | refine un_normal ?_)
  exact end_tmp1 rfl ⟨rfl, rfl⟩ rfl ⟨rfl, rfl⟩
def putAdrS (w : Int) (i : InsnS) : Int := let v := if i.sub = 1 then quoS i.imm 4096 else i.imm; layS (layS (layS (layS w i.rd 0 5) i.sub 31 1) v 29 2) (shrS v 2) 5 19
theorem con38 (w : Int) (i : InsnS) (H : Heap) : Con Tryz.prog 38 [.c (.int .u32 w), .agg (insnL i)] H (fun v H' => v = .c (.int .u32 (putAdrS w i)) ∧ H' = H) := by
  refine Con.pure ?_ (by simp only [leArgs, leV, leV1, insnL, leSegs, leSeg, leC, and_self]) rfl H
  (refine con_of_run mixed (fn := Tryz.f38) (by kernel_rfl) (by kernel_rfl) C38_ok (rs := [.tmp 4]) (by kernel_rfl) (Nat.le_of_ble_eq_true (by kernel_rfl)) ?_; unfold C38; simp only [initT, Nat.reduceAdd])
  repeat' (first
    | refine run_seq ?_
    | refine run_skip ?_
    | (refine run_region fun K hK => ?_; (try (simp (maxSteps := 10000000) only [insnL, ne_eq, C38r0, C38r1, C38r2, C38r3, C38r4, rwp_nil, rwp_cons, aop, gpath, St.get, slotAt, sfx, eqP, segsOf, St.put, addBlk, getB, ld1, rowNeed, segAt, nsub, bin, isShift, sameK, arith, shed, addN, Seg.size, sizes, imp, appL, argsOf, ptrsOf, Nat.reduceAdd])); (repeat (first | (refine And.intro ?_ ?_; · decide) | ((first | (refine call_t _ (con88 _ _ _ _ (by decide) (by decide) _) ?_; rintro v H' ⟨rfl, rfl⟩) | refine call_q _ (con88 _ _ _ _ (by decide) (by decide) _) ?_ | refine call_g _ (imp_of (con88 _ _ _ _ (by decide) (by decide) _)) ?_); simp (maxSteps := 10000000) only [rwp_nil, rwp_cons, rwpK_app, aop, gpath, St.get, slotAt, sfx, eqP, St.put, addBlk, getB, ld1, rowNeed, segAt, nsub, bin, isShift, shiftR, shed, addN, Seg.size, imp, appL, argsOf, ptrsOf, Nat.reduceAdd, Int.reduceToNat]))); with_reducible refine hK _ ?_; clear hK K)
    | (refine run_cond rfl (fun hc => ?_) (fun hc => ?_) <;> try (simp only [*, Bool.true_eq_false, Bool.false_eq_true, Bool.not_true, Bool.not_false, Bool.true_or, Bool.or_true, Bool.false_or, Bool.or_false, Bool.false_and, Bool.and_false, bne_self_eq_false, beq_self_eq_true] at hc; done))
    | refine run_block ?_
    | refine run_ret ?_
    | refine run_nil ?_
    | refine run_exit ?_
    | refine blk_normal ?_
    | refine blk_ret ?_
    | refine blk_here ?_
    | refine blk_there rfl ?_
    | refine loop_exit ?_
    | refine loop_ret ?_
    | refine un_exit ?_
    | refine un_ret ?_
    | refine unE_exit ?_
    | refine unE_ret ?_
    | refine un_normal ?_)
  · have h : i.sub = 1 := by simpa using hc
    exact end_tmp1 rfl ⟨rfl, rfl⟩ rfl ⟨by simp only [putAdrS, h, if_true]; rfl, rfl⟩
  · have h : ¬ i.sub = 1 := by simpa using hc
    exact end_tmp1 rfl ⟨rfl, rfl⟩ rfl ⟨by simp only [putAdrS, h, if_false]; rfl, rfl⟩
def addImmS (w : Int) : InsnS := { insnS w 1 with rm := 0, imm := bitsS w 10 12, amount := mulS 12 (bitsS w 22 1), flags := hasS w 536870912, minus := hasS w 1073741824 }
theorem con20 (w : Int) (H : Heap) : Con Tryz.prog 20 [.c (.int .u32 w)] H (fun v H' => v = .agg (insnL (addImmS w)) ∧ H' = H) := by
  refine Con.insn0 ?_ (by simp only [leArgs, leV, leV1, leC, and_self]) H
  (refine con_of_run mixed (fn := Tryz.f20) (by kernel_rfl) (by kernel_rfl) C20_ok (rs := [.cn 16 2]) (by kernel_rfl) (Nat.le_of_ble_eq_true (by kernel_rfl)) ?_; unfold C20; simp only [initT])
  repeat' (first
    | refine run_seq ?_
    | refine run_skip ?_
    | (refine run_region fun K hK => ?_; (try (simp (maxSteps := 10000000) only [C20r0, C20r1, C20r2, C20r3, C20r4, rwp_nil, rwp_cons, aop, gpath, St.get, slotAt, sfx, eqP, St.put, addBlk, getB, setB, ldn, stn, setRow, rowNeed, nsub, shed, Nat.beq, Seg.size, sizes, appL, argsOf, ptrsOf, cut, takeS, dropS, putS, exOk, Nat.reduceAdd, List.append_nil, List.nil_append])); (repeat (first | (refine And.intro ?_ ?_; · decide) | ((first | (refine call_t _ (con91 _ _ _ (by decide) (by decide) _) ?_; rintro v H' ⟨rfl, rfl⟩) | refine call_q _ (con91 _ _ _ (by decide) (by decide) _) ?_ | refine call_g _ (imp_of (con91 _ _ _ (by decide) (by decide) _)) ?_ | (refine call_t _ (con95 _ _ _ (by decide) (by decide) _) ?_; rintro v H' ⟨rfl, rfl⟩) | refine call_q _ (con95 _ _ _ (by decide) (by decide) _) ?_ | refine call_g _ (imp_of (con95 _ _ _ (by decide) (by decide) _)) ?_ | (refine call_t _ (con92 _ _ _) ?_; rintro v H' ⟨rfl, rfl⟩) | refine call_q _ (con92 _ _ _) ?_ | refine call_g _ (imp_of (con92 _ _ _)) ?_ | (refine call_t _ (con90 _ _ _) ?_; rintro v H' ⟨rfl, rfl⟩) | refine call_q _ (con90 _ _ _) ?_ | refine call_g _ (imp_of (con90 _ _ _)) ?_); simp (maxSteps := 10000000) only [insnL, rwp_nil, rwp_cons, rwpK_app, aop, gpath, St.get, slotAt, sfx, eqP, St.put, addBlk, getB, setB, st1, stn, setRow, rowNeed, segAt, nsub, bin, isShift, sameK, arith, shed, addN, Nat.beq, Seg.size, sizes, appL, argsOf, ptrsOf, takeS, dropS, putS, exOk, Nat.reduceAdd, List.append_nil, List.nil_append, List.cons_append]))); with_reducible refine hK _ ?_; clear hK K)
    | (refine run_cond rfl (fun hc => ?_) (fun hc => ?_) <;> try (simp only [*, Bool.true_eq_false, Bool.false_eq_true, Bool.not_true, Bool.not_false, Bool.true_or, Bool.or_true, Bool.false_or, Bool.or_false, Bool.false_and, Bool.and_false, bne_self_eq_false, beq_self_eq_true] at hc; done))
    | refine run_block ?_
    | refine run_ret ?_
    | refine run_nil ?_
    | refine run_exit ?_
    | refine blk_normal ?_
    | refine blk_ret ?_
    | refine blk_here ?_
    | refine blk_there rfl ?_
    | refine loop_exit ?_
    | refine loop_ret ?_
    | refine un_exit ?_
    | refine un_ret ?_
    | refine unE_exit ?_
    | refine unE_ret ?_
    | refine un_normal ?_)
  exact end_insn0 (addImmS w) rfl rfl ⟨rfl, rfl⟩
def addRegS (w : Int) : InsnS := { insnS w 2 with shift := bitsS w 22 2, amount := bitsS w 10 6, flags := hasS w 536870912, minus := hasS w 1073741824 }
theorem con22 (w : Int) (H : Heap) : Con Tryz.prog 22 [.c (.int .u32 w)] H (fun v H' => v = .agg (insnL (addRegS w)) ∧ H' = H) := by
  refine Con.insn0 ?_ (by simp only [leArgs, leV, leV1, leC, and_self]) H
  (refine con_of_run mixed (fn := Tryz.f22) (by kernel_rfl) (by kernel_rfl) C22_ok (rs := [.cn 16 2]) (by kernel_rfl) (Nat.le_of_ble_eq_true (by kernel_rfl)) ?_; unfold C22; simp only [initT])
  repeat' (first
    | refine run_seq ?_
    | refine run_skip ?_
    | (refine run_region fun K hK => ?_; (try (simp (maxSteps := 10000000) only [C22r0, C22r1, C22r2, C22r3, C22r4, rwp_nil, rwp_cons, aop, gpath, St.get, slotAt, sfx, eqP, St.put, addBlk, getB, setB, ldn, stn, setRow, rowNeed, nsub, shed, Nat.beq, Seg.size, sizes, appL, argsOf, ptrsOf, cut, takeS, dropS, putS, exOk, Nat.reduceAdd, List.append_nil, List.nil_append])); (repeat (first | (refine And.intro ?_ ?_; · decide) | ((first | (refine call_t _ (con91 _ _ _ (by decide) (by decide) _) ?_; rintro v H' ⟨rfl, rfl⟩) | refine call_q _ (con91 _ _ _ (by decide) (by decide) _) ?_ | refine call_g _ (imp_of (con91 _ _ _ (by decide) (by decide) _)) ?_ | (refine call_t _ (con95 _ _ _ (by decide) (by decide) _) ?_; rintro v H' ⟨rfl, rfl⟩) | refine call_q _ (con95 _ _ _ (by decide) (by decide) _) ?_ | refine call_g _ (imp_of (con95 _ _ _ (by decide) (by decide) _)) ?_ | (refine call_t _ (con92 _ _ _) ?_; rintro v H' ⟨rfl, rfl⟩) | refine call_q _ (con92 _ _ _) ?_ | refine call_g _ (imp_of (con92 _ _ _)) ?_ | (refine call_t _ (con90 _ _ _) ?_; rintro v H' ⟨rfl, rfl⟩) | refine call_q _ (con90 _ _ _) ?_ | refine call_g _ (imp_of (con90 _ _ _)) ?_); simp (maxSteps := 10000000) only [insnL, rwp_nil, rwp_cons, rwpK_app, aop, gpath, St.get, slotAt, sfx, eqP, St.put, addBlk, getB, setB, st1, stn, setRow, rowNeed, segAt, nsub, shed, addN, Nat.beq, Seg.size, sizes, appL, argsOf, ptrsOf, takeS, dropS, putS, exOk, Nat.reduceAdd, List.append_nil, List.nil_append, List.cons_append]))); with_reducible refine hK _ ?_; clear hK K)
    | (refine run_cond rfl (fun hc => ?_) (fun hc => ?_) <;> try (simp only [*, Bool.true_eq_false, Bool.false_eq_true, Bool.not_true, Bool.not_false, Bool.true_or, Bool.or_true, Bool.false_or, Bool.or_false, Bool.false_and, Bool.and_false, bne_self_eq_false, beq_self_eq_true] at hc; done))
    | refine run_block ?_
    | refine run_ret ?_
    | refine run_nil ?_
    | refine run_exit ?_
    | refine blk_normal ?_
    | refine blk_ret ?_
    | refine blk_here ?_
    | refine blk_there rfl ?_
    | refine loop_exit ?_
    | refine loop_ret ?_
    | refine un_exit ?_
    | refine un_ret ?_
    | refine unE_exit ?_
    | refine unE_ret ?_
    | refine un_normal ?_)
  exact end_insn0 (addRegS w) rfl rfl ⟨rfl, rfl⟩
def logRegS (w : Int) : InsnS := { unlogS (insnS w 3) (bitsS w 29 2) with shift := bitsS w 22 2, amount := bitsS w 10 6, not_ := bitsS w 21 1 == 1 }
theorem con24 (w : Int) (H : Heap) : Con Tryz.prog 24 [.c (.int .u32 w)] H (fun v H' => v = .agg (insnL (logRegS w)) ∧ H' = H) := by
  refine Con.insn0 ?_ (by simp only [leArgs, leV, leV1, leC, and_self]) H
  (refine con_of_run mixed (fn := Tryz.f24) (by kernel_rfl) (by kernel_rfl) C24_ok (rs := [.cn 16 2]) (by kernel_rfl) (Nat.le_of_ble_eq_true (by kernel_rfl)) ?_; unfold C24; simp only [initT])
  repeat' (first
    | refine run_seq ?_
    | refine run_skip ?_
    | (refine run_region fun K hK => ?_; (try (simp (maxSteps := 10000000) only [C24r0, C24r1, C24r2, C24r3, rwp_nil, rwp_cons, aop, gpath, St.get, slotAt, sfx, eqP, St.put, addBlk, getB, setB, ldn, stn, setRow, rowNeed, nsub, shed, Nat.beq, Seg.size, sizes, appL, argsOf, ptrsOf, cut, takeS, dropS, putS, exOk, Nat.reduceAdd, List.append_nil, List.nil_append])); (repeat (first | (refine And.intro ?_ ?_; · decide) | ((first | (refine call_t _ (con91 _ _ _ (by decide) (by decide) _) ?_; rintro v H' ⟨rfl, rfl⟩) | refine call_q _ (con91 _ _ _ (by decide) (by decide) _) ?_ | refine call_g _ (imp_of (con91 _ _ _ (by decide) (by decide) _)) ?_ | (refine call_t _ (con95 _ _ _ (by decide) (by decide) _) ?_; rintro v H' ⟨rfl, rfl⟩) | refine call_q _ (con95 _ _ _ (by decide) (by decide) _) ?_ | refine call_g _ (imp_of (con95 _ _ _ (by decide) (by decide) _)) ?_ | (refine call_t _ (con92 _ _ _) ?_; rintro v H' ⟨rfl, rfl⟩) | refine call_q _ (con92 _ _ _) ?_ | refine call_g _ (imp_of (con92 _ _ _)) ?_ | (refine call_t _ (con90 _ _ _) ?_; rintro v H' ⟨rfl, rfl⟩) | refine call_q _ (con90 _ _ _) ?_ | refine call_g _ (imp_of (con90 _ _ _)) ?_ | (refine call_t _ (con94 (insnS w 3) (bitsS w 29 2) _) ?_; rintro v H' ⟨rfl, rfl⟩) | refine call_q _ (con94 (insnS w 3) (bitsS w 29 2) _) ?_ | refine call_g _ (imp_of (con94 (insnS w 3) (bitsS w 29 2) _)) ?_); simp (maxSteps := 10000000) only [insnL, rwp_nil, rwp_cons, rwpK_app, aop, gpath, St.get, slotAt, sfx, eqP, St.put, addBlk, getB, setB, st1, stn, setRow, rowNeed, segAt, nsub, bin, isShift, sameK, arith, shed, addN, Nat.beq, Seg.size, sizes, appL, argsOf, ptrsOf, takeS, dropS, putS, exOk, Nat.reduceAdd, List.append_nil, List.nil_append, List.cons_append]))); with_reducible refine hK _ ?_; clear hK K)
    | (refine run_cond rfl (fun hc => ?_) (fun hc => ?_) <;> try (simp only [*, Bool.true_eq_false, Bool.false_eq_true, Bool.not_true, Bool.not_false, Bool.true_or, Bool.or_true, Bool.false_or, Bool.or_false, Bool.false_and, Bool.and_false, bne_self_eq_false, beq_self_eq_true] at hc; done))
    | refine run_block ?_
    | refine run_ret ?_
    | refine run_nil ?_
    | refine run_exit ?_
    | refine blk_normal ?_
    | refine blk_ret ?_
    | refine blk_here ?_
    | refine blk_there rfl ?_
    | refine loop_exit ?_
    | refine loop_ret ?_
    | refine un_exit ?_
    | refine un_ret ?_
    | refine unE_exit ?_
    | refine unE_ret ?_
    | refine un_normal ?_)
  exact end_insn0 (logRegS w) rfl rfl ⟨rfl, rfl⟩
def logImmS (w : Int) : InsnS := { unlogS (insnS w 4) (bitsS w 29 2) with rm := 0, amount := bitsS w 22 1, imm := bitsS w 16 6, imm2 := bitsS w 10 6 }
theorem con26 (w : Int) (H : Heap) : Con Tryz.prog 26 [.c (.int .u32 w)] H (fun v H' => v = .agg (insnL (logImmS w)) ∧ H' = H) := by
  refine Con.insn0 ?_ (by simp only [leArgs, leV, leV1, leC, and_self]) H
  (refine con_of_run mixed (fn := Tryz.f26) (by kernel_rfl) (by kernel_rfl) C26_ok (rs := [.cn 16 2]) (by kernel_rfl) (Nat.le_of_ble_eq_true (by kernel_rfl)) ?_; unfold C26; simp only [initT])
  repeat' (first
    | refine run_seq ?_
    | refine run_skip ?_
    | (refine run_region fun K hK => ?_; (try (simp (maxSteps := 10000000) only [C26r0, C26r1, C26r2, C26r3, rwp_nil, rwp_cons, aop, gpath, St.get, slotAt, sfx, eqP, St.put, addBlk, getB, setB, ldn, stn, setRow, rowNeed, nsub, shed, Nat.beq, Seg.size, sizes, appL, argsOf, ptrsOf, cut, takeS, dropS, putS, exOk, Nat.reduceAdd, List.append_nil, List.nil_append])); (repeat (first | (refine And.intro ?_ ?_; · decide) | ((first | (refine call_t _ (con91 _ _ _ (by decide) (by decide) _) ?_; rintro v H' ⟨rfl, rfl⟩) | refine call_q _ (con91 _ _ _ (by decide) (by decide) _) ?_ | refine call_g _ (imp_of (con91 _ _ _ (by decide) (by decide) _)) ?_ | (refine call_t _ (con95 _ _ _ (by decide) (by decide) _) ?_; rintro v H' ⟨rfl, rfl⟩) | refine call_q _ (con95 _ _ _ (by decide) (by decide) _) ?_ | refine call_g _ (imp_of (con95 _ _ _ (by decide) (by decide) _)) ?_ | (refine call_t _ (con92 _ _ _) ?_; rintro v H' ⟨rfl, rfl⟩) | refine call_q _ (con92 _ _ _) ?_ | refine call_g _ (imp_of (con92 _ _ _)) ?_ | (refine call_t _ (con90 _ _ _) ?_; rintro v H' ⟨rfl, rfl⟩) | refine call_q _ (con90 _ _ _) ?_ | refine call_g _ (imp_of (con90 _ _ _)) ?_ | (refine call_t _ (con94 (insnS w 4) (bitsS w 29 2) _) ?_; rintro v H' ⟨rfl, rfl⟩) | refine call_q _ (con94 (insnS w 4) (bitsS w 29 2) _) ?_ | refine call_g _ (imp_of (con94 (insnS w 4) (bitsS w 29 2) _)) ?_); simp (maxSteps := 10000000) only [insnL, rwp_nil, rwp_cons, rwpK_app, aop, gpath, St.get, slotAt, sfx, eqP, St.put, addBlk, getB, setB, st1, stn, setRow, rowNeed, segAt, nsub, shed, addN, Nat.beq, Seg.size, sizes, appL, argsOf, ptrsOf, takeS, dropS, putS, exOk, Nat.reduceAdd, List.append_nil, List.nil_append, List.cons_append]))); with_reducible refine hK _ ?_; clear hK K)
    | (refine run_cond rfl (fun hc => ?_) (fun hc => ?_) <;> try (simp only [*, Bool.true_eq_false, Bool.false_eq_true, Bool.not_true, Bool.not_false, Bool.true_or, Bool.or_true, Bool.false_or, Bool.or_false, Bool.false_and, Bool.and_false, bne_self_eq_false, beq_self_eq_true] at hc; done))
    | refine run_block ?_
    | refine run_ret ?_
    | refine run_nil ?_
    | refine run_exit ?_
    | refine blk_normal ?_
    | refine blk_ret ?_
    | refine blk_here ?_
    | refine blk_there rfl ?_
    | refine loop_exit ?_
    | refine loop_ret ?_
    | refine un_exit ?_
    | refine un_ret ?_
    | refine unE_exit ?_
    | refine unE_ret ?_
    | refine un_normal ?_)
  exact end_insn0 (logImmS w) rfl rfl ⟨rfl, rfl⟩
def movWideS (w : Int) : InsnS := { nilI with op := 5, rd := bitsS w 0 5, sub := bitsS w 29 2, imm := bitsS w 5 16, amount := mulS 16 (bitsS w 21 2) }
theorem con28 (w : Int) (H : Heap) : Con Tryz.prog 28 [.c (.int .u32 w)] H (fun v H' => v = .agg (insnL (movWideS w)) ∧ H' = H) := by
  refine Con.insn0 ?_ (by simp only [leArgs, leV, leV1, leC, and_self]) H
  (refine con_of_run mixed (fn := Tryz.f28) (by kernel_rfl) (by kernel_rfl) C28_ok (rs := [.cn 16 2]) (by kernel_rfl) (Nat.le_of_ble_eq_true (by kernel_rfl)) ?_; unfold C28; simp only [initT])
  repeat' (first
    | refine run_seq ?_
    | refine run_skip ?_
    | (refine run_region fun K hK => ?_; (try (simp (maxSteps := 10000000) only [C28r0, C28r1, rwp_nil, rwp_cons, aop, gpath, St.get, slotAt, sfx, eqP, St.put, addBlk, shed, Seg.size, sizes, appL, argsOf, ptrsOf, Nat.reduceAdd])); (repeat (first | (refine And.intro ?_ ?_; · decide) | ((first | (refine call_t _ (con91 _ _ _ (by decide) (by decide) _) ?_; rintro v H' ⟨rfl, rfl⟩) | refine call_q _ (con91 _ _ _ (by decide) (by decide) _) ?_ | refine call_g _ (imp_of (con91 _ _ _ (by decide) (by decide) _)) ?_ | (refine call_t _ (con95 _ _ _ (by decide) (by decide) _) ?_; rintro v H' ⟨rfl, rfl⟩) | refine call_q _ (con95 _ _ _ (by decide) (by decide) _) ?_ | refine call_g _ (imp_of (con95 _ _ _ (by decide) (by decide) _)) ?_ | (refine call_t _ (con92 _ _ _) ?_; rintro v H' ⟨rfl, rfl⟩) | refine call_q _ (con92 _ _ _) ?_ | refine call_g _ (imp_of (con92 _ _ _)) ?_ | (refine call_t _ (con90 _ _ _) ?_; rintro v H' ⟨rfl, rfl⟩) | refine call_q _ (con90 _ _ _) ?_ | refine call_g _ (imp_of (con90 _ _ _)) ?_); simp (maxSteps := 10000000) only [rwp_nil, rwp_cons, rwpK_app, aop, gpath, St.get, slotAt, sfx, eqP, segsOf, St.put, addBlk, getB, setB, stn, setRow, rowNeed, nsub, bin, isShift, sameK, arith, shed, Nat.beq, Seg.size, sizes, appL, argsOf, ptrsOf, takeS, dropS, putS, partsOf, fillS, exOk, Nat.reduceAdd, List.append_nil, List.nil_append, List.cons_append]))); with_reducible refine hK _ ?_; clear hK K)
    | (refine run_cond rfl (fun hc => ?_) (fun hc => ?_) <;> try (simp only [*, Bool.true_eq_false, Bool.false_eq_true, Bool.not_true, Bool.not_false, Bool.true_or, Bool.or_true, Bool.false_or, Bool.or_false, Bool.false_and, Bool.and_false, bne_self_eq_false, beq_self_eq_true] at hc; done))
    | refine run_block ?_
    | refine run_ret ?_
    | refine run_nil ?_
    | refine run_exit ?_
    | refine blk_normal ?_
    | refine blk_ret ?_
    | refine blk_here ?_
    | refine blk_there rfl ?_
    | refine loop_exit ?_
    | refine loop_ret ?_
    | refine un_exit ?_
    | refine un_ret ?_
    | refine unE_exit ?_
    | refine unE_ret ?_
    | refine un_normal ?_)
  exact end_insn0 (movWideS w) rfl rfl ⟨rfl, rfl⟩
def bitfieldS (w : Int) : InsnS := { nilI with op := 6, rd := bitsS w 0 5, rn := bitsS w 5 5, sub := bitsS w 29 2, imm := bitsS w 16 6, imm2 := bitsS w 10 6 }
theorem con30 (w : Int) (H : Heap) : Con Tryz.prog 30 [.c (.int .u32 w)] H (fun v H' => v = .agg (insnL (bitfieldS w)) ∧ H' = H) := by
  refine Con.insn0 ?_ (by simp only [leArgs, leV, leV1, leC, and_self]) H
  (refine con_of_run mixed (fn := Tryz.f30) (by kernel_rfl) (by kernel_rfl) C30_ok (rs := [.cn 16 2]) (by kernel_rfl) (Nat.le_of_ble_eq_true (by kernel_rfl)) ?_; unfold C30; simp only [initT])
  repeat' (first
    | refine run_seq ?_
    | refine run_skip ?_
    | (refine run_region fun K hK => ?_; (try (simp (maxSteps := 10000000) only [C30r0, C30r1, rwp_nil, rwp_cons, aop, gpath, St.get, slotAt, sfx, eqP, St.put, addBlk, shed, Seg.size, sizes, appL, argsOf, ptrsOf, Nat.reduceAdd])); (repeat (first | (refine And.intro ?_ ?_; · decide) | ((first | (refine call_t _ (con91 _ _ _ (by decide) (by decide) _) ?_; rintro v H' ⟨rfl, rfl⟩) | refine call_q _ (con91 _ _ _ (by decide) (by decide) _) ?_ | refine call_g _ (imp_of (con91 _ _ _ (by decide) (by decide) _)) ?_ | (refine call_t _ (con95 _ _ _ (by decide) (by decide) _) ?_; rintro v H' ⟨rfl, rfl⟩) | refine call_q _ (con95 _ _ _ (by decide) (by decide) _) ?_ | refine call_g _ (imp_of (con95 _ _ _ (by decide) (by decide) _)) ?_ | (refine call_t _ (con92 _ _ _) ?_; rintro v H' ⟨rfl, rfl⟩) | refine call_q _ (con92 _ _ _) ?_ | refine call_g _ (imp_of (con92 _ _ _)) ?_ | (refine call_t _ (con90 _ _ _) ?_; rintro v H' ⟨rfl, rfl⟩) | refine call_q _ (con90 _ _ _) ?_ | refine call_g _ (imp_of (con90 _ _ _)) ?_); simp (maxSteps := 10000000) only [rwp_nil, rwp_cons, rwpK_app, aop, gpath, St.get, slotAt, sfx, eqP, segsOf, St.put, addBlk, getB, setB, stn, setRow, rowNeed, nsub, shed, Nat.beq, Seg.size, sizes, appL, argsOf, ptrsOf, takeS, dropS, putS, partsOf, fillS, exOk, Nat.reduceAdd, List.append_nil, List.nil_append, List.cons_append]))); with_reducible refine hK _ ?_; clear hK K)
    | (refine run_cond rfl (fun hc => ?_) (fun hc => ?_) <;> try (simp only [*, Bool.true_eq_false, Bool.false_eq_true, Bool.not_true, Bool.not_false, Bool.true_or, Bool.or_true, Bool.false_or, Bool.or_false, Bool.false_and, Bool.and_false, bne_self_eq_false, beq_self_eq_true] at hc; done))
    | refine run_block ?_
    | refine run_ret ?_
    | refine run_nil ?_
    | refine run_exit ?_
    | refine blk_normal ?_
    | refine blk_ret ?_
    | refine blk_here ?_
    | refine blk_there rfl ?_
    | refine loop_exit ?_
    | refine loop_ret ?_
    | refine un_exit ?_
    | refine un_ret ?_
    | refine unE_exit ?_
    | refine unE_ret ?_
    | refine un_normal ?_)
  exact end_insn0 (bitfieldS w) rfl rfl ⟨rfl, rfl⟩
def shiftRegS (w : Int) : InsnS := { insnS w 7 with sub := bitsS w 10 2 }
theorem con32 (w : Int) (H : Heap) : Con Tryz.prog 32 [.c (.int .u32 w)] H (fun v H' => v = .agg (insnL (shiftRegS w)) ∧ H' = H) := by
  refine Con.insn0 ?_ (by simp only [leArgs, leV, leV1, leC, and_self]) H
  (refine con_of_run mixed (fn := Tryz.f32) (by kernel_rfl) (by kernel_rfl) C32_ok (rs := [.cn 16 2]) (by kernel_rfl) (Nat.le_of_ble_eq_true (by kernel_rfl)) ?_; unfold C32; simp only [initT])
  repeat' (first
    | refine run_seq ?_
    | refine run_skip ?_
    | (refine run_region fun K hK => ?_; (try (simp (maxSteps := 10000000) only [C32r0, C32r1, C32r2, C32r3, rwp_nil, rwp_cons, aop, gpath, St.get, slotAt, sfx, eqP, St.put, addBlk, getB, setB, ldn, stn, setRow, rowNeed, nsub, shed, Nat.beq, Seg.size, sizes, appL, argsOf, ptrsOf, cut, takeS, dropS, putS, exOk, Nat.reduceAdd, List.append_nil, List.nil_append])); (repeat (first | (refine And.intro ?_ ?_; · decide) | ((first | (refine call_t _ (con91 _ _ _ (by decide) (by decide) _) ?_; rintro v H' ⟨rfl, rfl⟩) | refine call_q _ (con91 _ _ _ (by decide) (by decide) _) ?_ | refine call_g _ (imp_of (con91 _ _ _ (by decide) (by decide) _)) ?_ | (refine call_t _ (con95 _ _ _ (by decide) (by decide) _) ?_; rintro v H' ⟨rfl, rfl⟩) | refine call_q _ (con95 _ _ _ (by decide) (by decide) _) ?_ | refine call_g _ (imp_of (con95 _ _ _ (by decide) (by decide) _)) ?_ | (refine call_t _ (con92 _ _ _) ?_; rintro v H' ⟨rfl, rfl⟩) | refine call_q _ (con92 _ _ _) ?_ | refine call_g _ (imp_of (con92 _ _ _)) ?_ | (refine call_t _ (con90 _ _ _) ?_; rintro v H' ⟨rfl, rfl⟩) | refine call_q _ (con90 _ _ _) ?_ | refine call_g _ (imp_of (con90 _ _ _)) ?_); simp (maxSteps := 10000000) only [insnL, rwp_nil, rwp_cons, rwpK_app, aop, gpath, St.get, slotAt, sfx, eqP, St.put, addBlk, getB, setB, st1, stn, setRow, rowNeed, segAt, nsub, shed, addN, Nat.beq, Seg.size, sizes, takeS, dropS, putS, exOk, Nat.reduceAdd, List.append_nil, List.nil_append, List.cons_append]))); with_reducible refine hK _ ?_; clear hK K)
    | (refine run_cond rfl (fun hc => ?_) (fun hc => ?_) <;> try (simp only [*, Bool.true_eq_false, Bool.false_eq_true, Bool.not_true, Bool.not_false, Bool.true_or, Bool.or_true, Bool.false_or, Bool.or_false, Bool.false_and, Bool.and_false, bne_self_eq_false, beq_self_eq_true] at hc; done))
    | refine run_block ?_
    | refine run_ret ?_
    | refine run_nil ?_
    | refine run_exit ?_
    | refine blk_normal ?_
    | refine blk_ret ?_
    | refine blk_here ?_
    | refine blk_there rfl ?_
    | refine loop_exit ?_
    | refine loop_ret ?_
    | refine un_exit ?_
    | refine un_ret ?_
    | refine unE_exit ?_
    | refine unE_ret ?_
    | refine un_normal ?_)
  exact end_insn0 (shiftRegS w) rfl rfl ⟨rfl, rfl⟩
def mulIS (w : Int) : InsnS := { insnS w 8 with ra := bitsS w 10 5, minus := bitsS w 15 1 == 1 }
theorem con34 (w : Int) (H : Heap) : Con Tryz.prog 34 [.c (.int .u32 w)] H (fun v H' => v = .agg (insnL (mulIS w)) ∧ H' = H) := by
  refine Con.insn0 ?_ (by simp only [leArgs, leV, leV1, leC, and_self]) H
  (refine con_of_run mixed (fn := Tryz.f34) (by kernel_rfl) (by kernel_rfl) C34_ok (rs := [.cn 16 2]) (by kernel_rfl) (Nat.le_of_ble_eq_true (by kernel_rfl)) ?_; unfold C34; simp only [initT])
  repeat' (first
    | refine run_seq ?_
    | refine run_skip ?_
    | (refine run_region fun K hK => ?_; (try (simp (maxSteps := 10000000) only [C34r0, C34r1, C34r2, C34r3, rwp_nil, rwp_cons, aop, gpath, St.get, slotAt, sfx, eqP, St.put, addBlk, getB, setB, ldn, stn, setRow, rowNeed, nsub, shed, Nat.beq, Seg.size, sizes, appL, argsOf, ptrsOf, cut, takeS, dropS, putS, exOk, Nat.reduceAdd, List.append_nil, List.nil_append])); (repeat (first | (refine And.intro ?_ ?_; · decide) | ((first | (refine call_t _ (con91 _ _ _ (by decide) (by decide) _) ?_; rintro v H' ⟨rfl, rfl⟩) | refine call_q _ (con91 _ _ _ (by decide) (by decide) _) ?_ | refine call_g _ (imp_of (con91 _ _ _ (by decide) (by decide) _)) ?_ | (refine call_t _ (con95 _ _ _ (by decide) (by decide) _) ?_; rintro v H' ⟨rfl, rfl⟩) | refine call_q _ (con95 _ _ _ (by decide) (by decide) _) ?_ | refine call_g _ (imp_of (con95 _ _ _ (by decide) (by decide) _)) ?_ | (refine call_t _ (con92 _ _ _) ?_; rintro v H' ⟨rfl, rfl⟩) | refine call_q _ (con92 _ _ _) ?_ | refine call_g _ (imp_of (con92 _ _ _)) ?_ | (refine call_t _ (con90 _ _ _) ?_; rintro v H' ⟨rfl, rfl⟩) | refine call_q _ (con90 _ _ _) ?_ | refine call_g _ (imp_of (con90 _ _ _)) ?_); simp (maxSteps := 10000000) only [insnL, rwp_nil, rwp_cons, rwpK_app, aop, gpath, St.get, slotAt, sfx, eqP, St.put, addBlk, getB, setB, st1, stn, setRow, rowNeed, segAt, nsub, bin, isShift, sameK, arith, shed, addN, Nat.beq, Seg.size, sizes, appL, argsOf, ptrsOf, takeS, dropS, putS, exOk, Nat.reduceAdd, List.append_nil, List.nil_append, List.cons_append]))); with_reducible refine hK _ ?_; clear hK K)
    | (refine run_cond rfl (fun hc => ?_) (fun hc => ?_) <;> try (simp only [*, Bool.true_eq_false, Bool.false_eq_true, Bool.not_true, Bool.not_false, Bool.true_or, Bool.or_true, Bool.false_or, Bool.or_false, Bool.false_and, Bool.and_false, bne_self_eq_false, beq_self_eq_true] at hc; done))
    | refine run_block ?_
    | refine run_ret ?_
    | refine run_nil ?_
    | refine run_exit ?_
    | refine blk_normal ?_
    | refine blk_ret ?_
    | refine blk_here ?_
    | refine blk_there rfl ?_
    | refine loop_exit ?_
    | refine loop_ret ?_
    | refine un_exit ?_
    | refine un_ret ?_
    | refine unE_exit ?_
    | refine unE_ret ?_
    | refine un_normal ?_)
  exact end_insn0 (mulIS w) rfl rfl ⟨rfl, rfl⟩
def divIS (w : Int) : InsnS := { insnS w 9 with sub := bitsS w 10 1 }
theorem con35 (w : Int) (H : Heap) : Con Tryz.prog 35 [.c (.int .u32 w)] H (fun v H' => v = .agg (insnL (divIS w)) ∧ H' = H) := by
  refine Con.insn0 ?_ (by simp only [leArgs, leV, leV1, leC, and_self]) H
  (refine con_of_run mixed (fn := Tryz.f35) (by kernel_rfl) (by kernel_rfl) C35_ok (rs := [.cn 16 2]) (by kernel_rfl) (Nat.le_of_ble_eq_true (by kernel_rfl)) ?_; unfold C35; simp only [initT])
  repeat' (first
    | refine run_seq ?_
    | refine run_skip ?_
    | (refine run_region fun K hK => ?_; (try (simp (maxSteps := 10000000) only [C35r0, C35r1, C35r2, C35r3, rwp_nil, rwp_cons, aop, gpath, St.get, slotAt, sfx, eqP, St.put, addBlk, getB, setB, ldn, stn, setRow, rowNeed, nsub, shed, Nat.beq, Seg.size, sizes, appL, argsOf, ptrsOf, cut, takeS, dropS, putS, exOk, Nat.reduceAdd, List.append_nil, List.nil_append])); (repeat (first | (refine And.intro ?_ ?_; · decide) | ((first | (refine call_t _ (con91 _ _ _ (by decide) (by decide) _) ?_; rintro v H' ⟨rfl, rfl⟩) | refine call_q _ (con91 _ _ _ (by decide) (by decide) _) ?_ | refine call_g _ (imp_of (con91 _ _ _ (by decide) (by decide) _)) ?_ | (refine call_t _ (con95 _ _ _ (by decide) (by decide) _) ?_; rintro v H' ⟨rfl, rfl⟩) | refine call_q _ (con95 _ _ _ (by decide) (by decide) _) ?_ | refine call_g _ (imp_of (con95 _ _ _ (by decide) (by decide) _)) ?_ | (refine call_t _ (con92 _ _ _) ?_; rintro v H' ⟨rfl, rfl⟩) | refine call_q _ (con92 _ _ _) ?_ | refine call_g _ (imp_of (con92 _ _ _)) ?_ | (refine call_t _ (con90 _ _ _) ?_; rintro v H' ⟨rfl, rfl⟩) | refine call_q _ (con90 _ _ _) ?_ | refine call_g _ (imp_of (con90 _ _ _)) ?_); simp (maxSteps := 10000000) only [insnL, rwp_nil, rwp_cons, rwpK_app, aop, gpath, St.get, slotAt, sfx, eqP, St.put, addBlk, getB, setB, st1, stn, setRow, rowNeed, segAt, nsub, shed, addN, Nat.beq, Seg.size, sizes, takeS, dropS, putS, exOk, Nat.reduceAdd, List.append_nil, List.nil_append, List.cons_append]))); with_reducible refine hK _ ?_; clear hK K)
    | (refine run_cond rfl (fun hc => ?_) (fun hc => ?_) <;> try (simp only [*, Bool.true_eq_false, Bool.false_eq_true, Bool.not_true, Bool.not_false, Bool.true_or, Bool.or_true, Bool.false_or, Bool.or_false, Bool.false_and, Bool.and_false, bne_self_eq_false, beq_self_eq_true] at hc; done))
    | refine run_block ?_
    | refine run_ret ?_
    | refine run_nil ?_
    | refine run_exit ?_
    | refine blk_normal ?_
    | refine blk_ret ?_
    | refine blk_here ?_
    | refine blk_there rfl ?_
    | refine loop_exit ?_
    | refine loop_ret ?_
    | refine un_exit ?_
    | refine un_ret ?_
    | refine unE_exit ?_
    | refine unE_ret ?_
    | refine un_normal ?_)
  exact end_insn0 (divIS w) rfl rfl ⟨rfl, rfl⟩
def selS (w : Int) : InsnS := { insnS w 10 with sub := addS (mulS 2 (bitsS w 30 1)) (bitsS w 10 1), cond := bitsS w 12 4 }
theorem con37 (w : Int) (H : Heap) : Con Tryz.prog 37 [.c (.int .u32 w)] H (fun v H' => v = .agg (insnL (selS w)) ∧ H' = H) := by
  refine Con.insn0 ?_ (by simp only [leArgs, leV, leV1, leC, and_self]) H
  (refine con_of_run mixed (fn := Tryz.f37) (by kernel_rfl) (by kernel_rfl) C37_ok (rs := [.cn 16 2]) (by kernel_rfl) (Nat.le_of_ble_eq_true (by kernel_rfl)) ?_; unfold C37; simp only [initT])
  repeat' (first
    | refine run_seq ?_
    | refine run_skip ?_
    | (refine run_region fun K hK => ?_; (try (simp (maxSteps := 10000000) only [C37r0, C37r1, C37r2, C37r3, rwp_nil, rwp_cons, aop, gpath, St.get, slotAt, sfx, eqP, St.put, addBlk, getB, setB, ldn, stn, setRow, rowNeed, nsub, shed, Nat.beq, Seg.size, sizes, appL, argsOf, ptrsOf, cut, takeS, dropS, putS, exOk, Nat.reduceAdd, List.append_nil, List.nil_append])); (repeat (first | (refine And.intro ?_ ?_; · decide) | ((first | (refine call_t _ (con91 _ _ _ (by decide) (by decide) _) ?_; rintro v H' ⟨rfl, rfl⟩) | refine call_q _ (con91 _ _ _ (by decide) (by decide) _) ?_ | refine call_g _ (imp_of (con91 _ _ _ (by decide) (by decide) _)) ?_ | (refine call_t _ (con95 _ _ _ (by decide) (by decide) _) ?_; rintro v H' ⟨rfl, rfl⟩) | refine call_q _ (con95 _ _ _ (by decide) (by decide) _) ?_ | refine call_g _ (imp_of (con95 _ _ _ (by decide) (by decide) _)) ?_ | (refine call_t _ (con92 _ _ _) ?_; rintro v H' ⟨rfl, rfl⟩) | refine call_q _ (con92 _ _ _) ?_ | refine call_g _ (imp_of (con92 _ _ _)) ?_ | (refine call_t _ (con90 _ _ _) ?_; rintro v H' ⟨rfl, rfl⟩) | refine call_q _ (con90 _ _ _) ?_ | refine call_g _ (imp_of (con90 _ _ _)) ?_); simp (maxSteps := 10000000) only [insnL, rwp_nil, rwp_cons, rwpK_app, aop, gpath, St.get, slotAt, sfx, eqP, St.put, addBlk, getB, setB, st1, stn, setRow, rowNeed, segAt, nsub, bin, isShift, sameK, arith, shed, addN, Nat.beq, Seg.size, sizes, appL, argsOf, ptrsOf, takeS, dropS, putS, exOk, Nat.reduceAdd, List.append_nil, List.nil_append, List.cons_append]))); with_reducible refine hK _ ?_; clear hK K)
    | (refine run_cond rfl (fun hc => ?_) (fun hc => ?_) <;> try (simp only [*, Bool.true_eq_false, Bool.false_eq_true, Bool.not_true, Bool.not_false, Bool.true_or, Bool.or_true, Bool.false_or, Bool.or_false, Bool.false_and, Bool.and_false, bne_self_eq_false, beq_self_eq_true] at hc; done))
    | refine run_block ?_
    | refine run_ret ?_
    | refine run_nil ?_
    | refine run_exit ?_
    | refine blk_normal ?_
    | refine blk_ret ?_
    | refine blk_here ?_
    | refine blk_there rfl ?_
    | refine loop_exit ?_
    | refine loop_ret ?_
    | refine un_exit ?_
    | refine un_ret ?_
    | refine unE_exit ?_
    | refine unE_ret ?_
    | refine un_normal ?_)
  exact end_insn0 (selS w) rfl rfl ⟨rfl, rfl⟩
def bS (w : Int) : InsnS := { nilI with op := 12, link := bitsS w 31 1 == 1, imm := mulS 4 (signS w 0 26) }
theorem con41 (w : Int) (H : Heap) : Con Tryz.prog 41 [.c (.int .u32 w)] H (fun v H' => v = .agg (insnL (bS w)) ∧ H' = H) := by
  refine Con.insn0 ?_ (by simp only [leArgs, leV, leV1, leC, and_self]) H
  (refine con_of_run mixed (fn := Tryz.f41) (by kernel_rfl) (by kernel_rfl) C41_ok (rs := [.cn 16 2]) (by kernel_rfl) (Nat.le_of_ble_eq_true (by kernel_rfl)) ?_; unfold C41; simp only [initT])
  repeat' (first
    | refine run_seq ?_
    | refine run_skip ?_
    | (refine run_region fun K hK => ?_; (try (simp (maxSteps := 10000000) only [C41r0, C41r1, rwp_nil, rwp_cons, aop, gpath, St.get, slotAt, sfx, eqP, St.put, addBlk, shed, Seg.size, sizes, appL, argsOf, ptrsOf, Nat.reduceAdd])); (repeat (first | (refine And.intro ?_ ?_; · decide) | ((first | (refine call_t _ (con91 _ _ _ (by decide) (by decide) _) ?_; rintro v H' ⟨rfl, rfl⟩) | refine call_q _ (con91 _ _ _ (by decide) (by decide) _) ?_ | refine call_g _ (imp_of (con91 _ _ _ (by decide) (by decide) _)) ?_ | (refine call_t _ (con95 _ _ _ (by decide) (by decide) _) ?_; rintro v H' ⟨rfl, rfl⟩) | refine call_q _ (con95 _ _ _ (by decide) (by decide) _) ?_ | refine call_g _ (imp_of (con95 _ _ _ (by decide) (by decide) _)) ?_ | (refine call_t _ (con92 _ _ _) ?_; rintro v H' ⟨rfl, rfl⟩) | refine call_q _ (con92 _ _ _) ?_ | refine call_g _ (imp_of (con92 _ _ _)) ?_ | (refine call_t _ (con90 _ _ _) ?_; rintro v H' ⟨rfl, rfl⟩) | refine call_q _ (con90 _ _ _) ?_ | refine call_g _ (imp_of (con90 _ _ _)) ?_); simp (maxSteps := 10000000) only [rwp_nil, rwp_cons, rwpK_app, aop, gpath, St.get, slotAt, sfx, eqP, segsOf, St.put, addBlk, getB, setB, stn, setRow, rowNeed, nsub, bin, isShift, sameK, arith, shed, Nat.beq, Seg.size, sizes, appL, argsOf, ptrsOf, takeS, dropS, putS, partsOf, fillS, exOk, Nat.reduceAdd, List.append_nil, List.nil_append, List.cons_append]))); with_reducible refine hK _ ?_; clear hK K)
    | (refine run_cond rfl (fun hc => ?_) (fun hc => ?_) <;> try (simp only [*, Bool.true_eq_false, Bool.false_eq_true, Bool.not_true, Bool.not_false, Bool.true_or, Bool.or_true, Bool.false_or, Bool.or_false, Bool.false_and, Bool.and_false, bne_self_eq_false, beq_self_eq_true] at hc; done))
    | refine run_block ?_
    | refine run_ret ?_
    | refine run_nil ?_
    | refine run_exit ?_
    | refine blk_normal ?_
    | refine blk_ret ?_
    | refine blk_here ?_
    | refine blk_there rfl ?_
    | refine loop_exit ?_
    | refine loop_ret ?_
    | refine un_exit ?_
    | refine un_ret ?_
    | refine unE_exit ?_
    | refine unE_ret ?_
    | refine un_normal ?_)
  exact end_insn0 (bS w) rfl rfl ⟨rfl, rfl⟩
def bCondS (w : Int) : InsnS := { nilI with op := 13, cond := bitsS w 0 4, imm := mulS 4 (signS w 5 19) }
theorem con43 (w : Int) (H : Heap) : Con Tryz.prog 43 [.c (.int .u32 w)] H (fun v H' => v = .agg (insnL (bCondS w)) ∧ H' = H) := by
  refine Con.insn0 ?_ (by simp only [leArgs, leV, leV1, leC, and_self]) H
  (refine con_of_run mixed (fn := Tryz.f43) (by kernel_rfl) (by kernel_rfl) C43_ok (rs := [.cn 16 2]) (by kernel_rfl) (Nat.le_of_ble_eq_true (by kernel_rfl)) ?_; unfold C43; simp only [initT])
  repeat' (first
    | refine run_seq ?_
    | refine run_skip ?_
    | (refine run_region fun K hK => ?_; (try (simp (maxSteps := 10000000) only [C43r0, C43r1, rwp_nil, rwp_cons, aop, gpath, St.get, slotAt, sfx, eqP, St.put, addBlk, shed, Seg.size, sizes, appL, argsOf, ptrsOf, Nat.reduceAdd])); (repeat (first | (refine And.intro ?_ ?_; · decide) | ((first | (refine call_t _ (con91 _ _ _ (by decide) (by decide) _) ?_; rintro v H' ⟨rfl, rfl⟩) | refine call_q _ (con91 _ _ _ (by decide) (by decide) _) ?_ | refine call_g _ (imp_of (con91 _ _ _ (by decide) (by decide) _)) ?_ | (refine call_t _ (con95 _ _ _ (by decide) (by decide) _) ?_; rintro v H' ⟨rfl, rfl⟩) | refine call_q _ (con95 _ _ _ (by decide) (by decide) _) ?_ | refine call_g _ (imp_of (con95 _ _ _ (by decide) (by decide) _)) ?_ | (refine call_t _ (con92 _ _ _) ?_; rintro v H' ⟨rfl, rfl⟩) | refine call_q _ (con92 _ _ _) ?_ | refine call_g _ (imp_of (con92 _ _ _)) ?_ | (refine call_t _ (con90 _ _ _) ?_; rintro v H' ⟨rfl, rfl⟩) | refine call_q _ (con90 _ _ _) ?_ | refine call_g _ (imp_of (con90 _ _ _)) ?_); simp (maxSteps := 10000000) only [rwp_nil, rwp_cons, rwpK_app, aop, gpath, St.get, slotAt, sfx, eqP, segsOf, St.put, addBlk, getB, setB, stn, setRow, rowNeed, nsub, bin, isShift, sameK, arith, shed, Nat.beq, Seg.size, sizes, appL, argsOf, ptrsOf, takeS, dropS, putS, partsOf, fillS, exOk, Nat.reduceAdd, List.append_nil, List.nil_append, List.cons_append]))); with_reducible refine hK _ ?_; clear hK K)
    | (refine run_cond rfl (fun hc => ?_) (fun hc => ?_) <;> try (simp only [*, Bool.true_eq_false, Bool.false_eq_true, Bool.not_true, Bool.not_false, Bool.true_or, Bool.or_true, Bool.false_or, Bool.or_false, Bool.false_and, Bool.and_false, bne_self_eq_false, beq_self_eq_true] at hc; done))
    | refine run_block ?_
    | refine run_ret ?_
    | refine run_nil ?_
    | refine run_exit ?_
    | refine blk_normal ?_
    | refine blk_ret ?_
    | refine blk_here ?_
    | refine blk_there rfl ?_
    | refine loop_exit ?_
    | refine loop_ret ?_
    | refine un_exit ?_
    | refine un_ret ?_
    | refine unE_exit ?_
    | refine unE_ret ?_
    | refine un_normal ?_)
  exact end_insn0 (bCondS w) rfl rfl ⟨rfl, rfl⟩
def cbzS (w : Int) : InsnS := { nilI with op := 14, rd := bitsS w 0 5, not_ := hasS w 16777216, imm := mulS 4 (signS w 5 19) }
theorem con45 (w : Int) (H : Heap) : Con Tryz.prog 45 [.c (.int .u32 w)] H (fun v H' => v = .agg (insnL (cbzS w)) ∧ H' = H) := by
  refine Con.insn0 ?_ (by simp only [leArgs, leV, leV1, leC, and_self]) H
  (refine con_of_run mixed (fn := Tryz.f45) (by kernel_rfl) (by kernel_rfl) C45_ok (rs := [.cn 16 2]) (by kernel_rfl) (Nat.le_of_ble_eq_true (by kernel_rfl)) ?_; unfold C45; simp only [initT])
  repeat' (first
    | refine run_seq ?_
    | refine run_skip ?_
    | (refine run_region fun K hK => ?_; (try (simp (maxSteps := 10000000) only [C45r0, C45r1, rwp_nil, rwp_cons, aop, gpath, St.get, slotAt, sfx, eqP, St.put, addBlk, shed, Seg.size, sizes, appL, argsOf, ptrsOf, Nat.reduceAdd])); (repeat (first | (refine And.intro ?_ ?_; · decide) | ((first | (refine call_t _ (con91 _ _ _ (by decide) (by decide) _) ?_; rintro v H' ⟨rfl, rfl⟩) | refine call_q _ (con91 _ _ _ (by decide) (by decide) _) ?_ | refine call_g _ (imp_of (con91 _ _ _ (by decide) (by decide) _)) ?_ | (refine call_t _ (con95 _ _ _ (by decide) (by decide) _) ?_; rintro v H' ⟨rfl, rfl⟩) | refine call_q _ (con95 _ _ _ (by decide) (by decide) _) ?_ | refine call_g _ (imp_of (con95 _ _ _ (by decide) (by decide) _)) ?_ | (refine call_t _ (con92 _ _ _) ?_; rintro v H' ⟨rfl, rfl⟩) | refine call_q _ (con92 _ _ _) ?_ | refine call_g _ (imp_of (con92 _ _ _)) ?_ | (refine call_t _ (con90 _ _ _) ?_; rintro v H' ⟨rfl, rfl⟩) | refine call_q _ (con90 _ _ _) ?_ | refine call_g _ (imp_of (con90 _ _ _)) ?_); simp (maxSteps := 10000000) only [rwp_nil, rwp_cons, rwpK_app, aop, gpath, St.get, slotAt, sfx, eqP, segsOf, St.put, addBlk, getB, setB, stn, setRow, rowNeed, nsub, bin, isShift, sameK, arith, shed, Nat.beq, Seg.size, sizes, appL, argsOf, ptrsOf, takeS, dropS, putS, partsOf, fillS, exOk, Nat.reduceAdd, List.append_nil, List.nil_append, List.cons_append]))); with_reducible refine hK _ ?_; clear hK K)
    | (refine run_cond rfl (fun hc => ?_) (fun hc => ?_) <;> try (simp only [*, Bool.true_eq_false, Bool.false_eq_true, Bool.not_true, Bool.not_false, Bool.true_or, Bool.or_true, Bool.false_or, Bool.or_false, Bool.false_and, Bool.and_false, bne_self_eq_false, beq_self_eq_true] at hc; done))
    | refine run_block ?_
    | refine run_ret ?_
    | refine run_nil ?_
    | refine run_exit ?_
    | refine blk_normal ?_
    | refine blk_ret ?_
    | refine blk_here ?_
    | refine blk_there rfl ?_
    | refine loop_exit ?_
    | refine loop_ret ?_
    | refine un_exit ?_
    | refine un_ret ?_
    | refine unE_exit ?_
    | refine unE_ret ?_
    | refine un_normal ?_)
  exact end_insn0 (cbzS w) rfl rfl ⟨rfl, rfl⟩
def tbzS (w : Int) : InsnS := { nilI with op := 15, rd := bitsS w 0 5, not_ := hasS w 16777216, amount := orS (shlS (bitsS w 31 1) 5) (bitsS w 19 5), imm := mulS 4 (signS w 5 14) }
theorem con47 (w : Int) (H : Heap) : Con Tryz.prog 47 [.c (.int .u32 w)] H (fun v H' => v = .agg (insnL (tbzS w)) ∧ H' = H) := by
  refine Con.insn0 ?_ (by simp only [leArgs, leV, leV1, leC, and_self]) H
  (refine con_of_run mixed (fn := Tryz.f47) (by kernel_rfl) (by kernel_rfl) C47_ok (rs := [.cn 16 2]) (by kernel_rfl) (Nat.le_of_ble_eq_true (by kernel_rfl)) ?_; unfold C47; simp only [initT])
  repeat' (first
    | refine run_seq ?_
    | refine run_skip ?_
    | (refine run_region fun K hK => ?_; (try (simp (maxSteps := 10000000) only [C47r0, C47r1, rwp_nil, rwp_cons, aop, gpath, St.get, slotAt, sfx, eqP, St.put, addBlk, shed, Seg.size, sizes, appL, argsOf, ptrsOf, Nat.reduceAdd])); (repeat (first | (refine And.intro ?_ ?_; · decide) | ((first | (refine call_t _ (con91 _ _ _ (by decide) (by decide) _) ?_; rintro v H' ⟨rfl, rfl⟩) | refine call_q _ (con91 _ _ _ (by decide) (by decide) _) ?_ | refine call_g _ (imp_of (con91 _ _ _ (by decide) (by decide) _)) ?_ | (refine call_t _ (con95 _ _ _ (by decide) (by decide) _) ?_; rintro v H' ⟨rfl, rfl⟩) | refine call_q _ (con95 _ _ _ (by decide) (by decide) _) ?_ | refine call_g _ (imp_of (con95 _ _ _ (by decide) (by decide) _)) ?_ | (refine call_t _ (con92 _ _ _) ?_; rintro v H' ⟨rfl, rfl⟩) | refine call_q _ (con92 _ _ _) ?_ | refine call_g _ (imp_of (con92 _ _ _)) ?_ | (refine call_t _ (con90 _ _ _) ?_; rintro v H' ⟨rfl, rfl⟩) | refine call_q _ (con90 _ _ _) ?_ | refine call_g _ (imp_of (con90 _ _ _)) ?_); simp (maxSteps := 10000000) only [rwp_nil, rwp_cons, rwpK_app, aop, gpath, St.get, slotAt, sfx, eqP, segsOf, St.put, addBlk, getB, setB, stn, setRow, rowNeed, nsub, bin, isShift, sameK, arith, shiftR, shed, Nat.beq, Seg.size, sizes, imp, appL, argsOf, ptrsOf, takeS, dropS, putS, partsOf, fillS, exOk, Nat.reduceAdd, Int.reduceToNat, List.append_nil, List.nil_append, List.cons_append]))); with_reducible refine hK _ ?_; clear hK K)
    | (refine run_cond rfl (fun hc => ?_) (fun hc => ?_) <;> try (simp only [*, Bool.true_eq_false, Bool.false_eq_true, Bool.not_true, Bool.not_false, Bool.true_or, Bool.or_true, Bool.false_or, Bool.or_false, Bool.false_and, Bool.and_false, bne_self_eq_false, beq_self_eq_true] at hc; done))
    | refine run_block ?_
    | refine run_ret ?_
    | refine run_nil ?_
    | refine run_exit ?_
    | refine blk_normal ?_
    | refine blk_ret ?_
    | refine blk_here ?_
    | refine blk_there rfl ?_
    | refine loop_exit ?_
    | refine loop_ret ?_
    | refine un_exit ?_
    | refine un_ret ?_
    | refine unE_exit ?_
    | refine unE_ret ?_
    | refine un_normal ?_)
  exact end_insn0 (tbzS w) rfl rfl ⟨rfl, rfl⟩
def brS (w : Int) : InsnS := { nilI with op := 16, rn := bitsS w 5 5, sub := bitsS w 21 2 }
theorem con49 (w : Int) (H : Heap) : Con Tryz.prog 49 [.c (.int .u32 w)] H (fun v H' => v = .agg (insnL (brS w)) ∧ H' = H) := by
  refine Con.insn0 ?_ (by simp only [leArgs, leV, leV1, leC, and_self]) H
  (refine con_of_run mixed (fn := Tryz.f49) (by kernel_rfl) (by kernel_rfl) C49_ok (rs := [.cn 16 2]) (by kernel_rfl) (Nat.le_of_ble_eq_true (by kernel_rfl)) ?_; unfold C49; simp only [initT])
  repeat' (first
    | refine run_seq ?_
    | refine run_skip ?_
    | (refine run_region fun K hK => ?_; (try (simp (maxSteps := 10000000) only [C49r0, C49r1, rwp_nil, rwp_cons, aop, gpath, St.get, slotAt, sfx, eqP, St.put, addBlk, shed, Seg.size, sizes, appL, argsOf, ptrsOf, Nat.reduceAdd])); (repeat (first | (refine And.intro ?_ ?_; · decide) | ((first | (refine call_t _ (con91 _ _ _ (by decide) (by decide) _) ?_; rintro v H' ⟨rfl, rfl⟩) | refine call_q _ (con91 _ _ _ (by decide) (by decide) _) ?_ | refine call_g _ (imp_of (con91 _ _ _ (by decide) (by decide) _)) ?_ | (refine call_t _ (con95 _ _ _ (by decide) (by decide) _) ?_; rintro v H' ⟨rfl, rfl⟩) | refine call_q _ (con95 _ _ _ (by decide) (by decide) _) ?_ | refine call_g _ (imp_of (con95 _ _ _ (by decide) (by decide) _)) ?_ | (refine call_t _ (con92 _ _ _) ?_; rintro v H' ⟨rfl, rfl⟩) | refine call_q _ (con92 _ _ _) ?_ | refine call_g _ (imp_of (con92 _ _ _)) ?_ | (refine call_t _ (con90 _ _ _) ?_; rintro v H' ⟨rfl, rfl⟩) | refine call_q _ (con90 _ _ _) ?_ | refine call_g _ (imp_of (con90 _ _ _)) ?_); simp (maxSteps := 10000000) only [rwp_nil, rwp_cons, rwpK_app, aop, gpath, St.get, slotAt, sfx, eqP, segsOf, St.put, addBlk, getB, setB, stn, setRow, rowNeed, nsub, shed, Nat.beq, Seg.size, sizes, appL, argsOf, ptrsOf, takeS, dropS, putS, partsOf, fillS, exOk, Nat.reduceAdd, List.append_nil, List.nil_append, List.cons_append]))); with_reducible refine hK _ ?_; clear hK K)
    | (refine run_cond rfl (fun hc => ?_) (fun hc => ?_) <;> try (simp only [*, Bool.true_eq_false, Bool.false_eq_true, Bool.not_true, Bool.not_false, Bool.true_or, Bool.or_true, Bool.false_or, Bool.or_false, Bool.false_and, Bool.and_false, bne_self_eq_false, beq_self_eq_true] at hc; done))
    | refine run_block ?_
    | refine run_ret ?_
    | refine run_nil ?_
    | refine run_exit ?_
    | refine blk_normal ?_
    | refine blk_ret ?_
    | refine blk_here ?_
    | refine blk_there rfl ?_
    | refine loop_exit ?_
    | refine loop_ret ?_
    | refine un_exit ?_
    | refine un_ret ?_
    | refine unE_exit ?_
    | refine unE_ret ?_
    | refine un_normal ?_)
  exact end_insn0 (brS w) rfl rfl ⟨rfl, rfl⟩
def adrV (w : Int) : Int := orS (shlS (signS w 5 19) 2) (bitsS w 29 2)
def adrS (w : Int) : InsnS := { nilI with op := 11, rd := bitsS w 0 5, sub := bitsS w 31 1, imm := if bitsS w 31 1 = 1 then mulS (adrV w) 4096 else adrV w }
theorem con39 (w : Int) (H : Heap) : Con Tryz.prog 39 [.c (.int .u32 w)] H (fun v H' => v = .agg (insnL (adrS w)) ∧ H' = H) := by
  refine Con.insn0 ?_ (by simp only [leArgs, leV, leV1, leC, and_self]) H
  (refine con_of_run mixed (fn := Tryz.f39) (by kernel_rfl) (by kernel_rfl) C39_ok (rs := [.cn 16 2]) (by kernel_rfl) (Nat.le_of_ble_eq_true (by kernel_rfl)) ?_; unfold C39; simp only [initT])
  generalize hR : (fun (v : AV) (H' : Heap) => v = AV.agg (insnL (adrS w)) ∧ H' = ⟨1, [(0, insnB (adrS w))]⟩) = R
  repeat' (first
    | refine run_seq ?_
    | refine run_skip ?_
    | (refine run_region fun K hK => ?_; (try (simp (maxSteps := 10000000) only [C39r0, C39r1, C39r2, C39r3, C39r4, rwp_nil, rwp_cons, aop, gpath, St.get, slotAt, sfx, eqP, St.put, addBlk, getB, setB, ld1, ldn, st1, stn, setRow, rowNeed, segAt, nsub, bin, isShift, sameK, arith, shed, addN, Nat.beq, Seg.size, sizes, appL, argsOf, ptrsOf, cut, takeS, dropS, putS, exOk, Nat.reduceAdd, List.append_nil, List.nil_append, List.cons_append])); (repeat (first | (refine And.intro ?_ ?_; · decide) | ((first | (refine call_t _ (con91 _ _ _ (by decide) (by decide) _) ?_; rintro v H' ⟨rfl, rfl⟩) | refine call_q _ (con91 _ _ _ (by decide) (by decide) _) ?_ | refine call_g _ (imp_of (con91 _ _ _ (by decide) (by decide) _)) ?_ | (refine call_t _ (con95 _ _ _ (by decide) (by decide) _) ?_; rintro v H' ⟨rfl, rfl⟩) | refine call_q _ (con95 _ _ _ (by decide) (by decide) _) ?_ | refine call_g _ (imp_of (con95 _ _ _ (by decide) (by decide) _)) ?_); simp (maxSteps := 10000000) only [rwp_nil, rwp_cons, rwpK_app, aop, gpath, St.get, slotAt, sfx, eqP, segsOf, St.put, addBlk, getB, setB, stn, setRow, rowNeed, nsub, bin, isShift, sameK, arith, shiftR, shed, Nat.beq, Seg.size, sizes, imp, appL, argsOf, ptrsOf, takeS, dropS, putS, partsOf, fillS, exOk, Nat.reduceAdd, Int.reduceToNat, List.append_nil, List.nil_append, List.cons_append]))); with_reducible refine hK _ ?_; clear hK K)
    | (refine run_cond rfl (fun hc => ?_) (fun hc => ?_) <;> try (simp only [*, Bool.true_eq_false, Bool.false_eq_true, Bool.not_true, Bool.not_false, Bool.true_or, Bool.or_true, Bool.false_or, Bool.or_false, Bool.false_and, Bool.and_false, bne_self_eq_false, beq_self_eq_true] at hc; done))
    | refine run_block ?_
    | refine run_ret ?_
    | refine run_nil ?_
    | refine run_exit ?_
    | refine blk_normal ?_
    | refine blk_ret ?_
    | refine blk_here ?_
    | refine blk_there rfl ?_
    | refine loop_exit ?_
    | refine loop_ret ?_
    | refine un_exit ?_
    | refine un_ret ?_
    | refine unE_exit ?_
    | refine unE_ret ?_
    | refine un_normal ?_)
  · have h : bitsS w 31 1 = 1 := by simpa using hc
    subst hR
    refine end_insn0 { nilI with op := 11, rd := bitsS w 0 5, sub := bitsS w 31 1, imm := mulS (adrV w) 4096 } rfl rfl ?_
    have e : adrS w = { nilI with op := 11, rd := bitsS w 0 5, sub := bitsS w 31 1, imm := mulS (adrV w) 4096 } := by simp only [adrS, h, if_true]
    rw [e]
    exact ⟨rfl, rfl⟩
  · have h : ¬ bitsS w 31 1 = 1 := by simpa using hc
    subst hR
    refine end_insn0 { nilI with op := 11, rd := bitsS w 0 5, sub := bitsS w 31 1, imm := adrV w } rfl rfl ?_
    have e : adrS w = { nilI with op := 11, rd := bitsS w 0 5, sub := bitsS w 31 1, imm := adrV w } := by simp only [adrS, h, if_false]
    rw [e]
    exact ⟨rfl, rfl⟩
end Go.Proofs.YteikpddilabppaaGreatR
