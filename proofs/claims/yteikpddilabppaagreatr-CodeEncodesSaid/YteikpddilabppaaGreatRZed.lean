/- Parts of the proof of codeEncodes_holds, joined and cut by a program: Wa, Am23, Lk, Wb, Wc, Wd, We, Wg, Wf. No condition. -/
import Derived.Test.YteikpddilabppaaGreatRZec
import Derived.DataOpen
import Derived.OpenShut
import Derived.Carry
import Derived.ChangeSame
import Derived.ProofKit
import Derived.Laws.BitsLemmas
import Derived.Laws.Bits64
namespace Go.Proofs.YteikpddilabppaaGreatR
open Go.AM
set_option maxRecDepth 100000
set_option linter.unusedSimpArgs false
set_option linter.unusedVariables false
theorem mixed : Tryz.prog.follows .mixedOrders = true := by kernel_rfl
structure InsnS where
  op : Int
  sub : Int
  rd : Int
  rn : Int
  rm : Int
  ra : Int
  imm : Int
  imm2 : Int
  amount : Int
  shift : Int
  cond : Int
  sys : Int
  flags : Bool
  minus : Bool
  not_ : Bool
  link : Bool
def insnL (i : InsnS) : List Seg := [.c (.int .i64 i.op), .c (.int .i64 i.sub), .c (.int .i64 i.rd), .c (.int .i64 i.rn), .c (.int .i64 i.rm), .c (.int .i64 i.ra), .c (.int .i64 i.imm), .c (.int .i64 i.imm2), .c (.int .i64 i.amount), .c (.int .i64 i.shift), .c (.int .i64 i.cond), .c (.int .i64 i.sys), .c (.bool i.flags), .c (.bool i.minus), .c (.bool i.not_), .c (.bool i.link)]
def insnB (i : InsnS) : Blk := ⟨16, none, fun _ => insnL i, 23, true⟩
def nilI : InsnS := ⟨0, 0, 0, 0, 0, 0, 0, 0, 0, 0, 0, 0, false, false, false, false⟩
def boxI (v : Int) : Blk := ⟨1, none, fun _ => [.c (.int .i64 v)], 3, false⟩
theorem insn_le {l : List Nat} (i : InsnS) : leB l (insnB i) (insnB i) := by
  refine ⟨rfl, rfl, id, Nat.le_refl _, fun _ _ => ?_⟩
  simp only [insnB, insnL, leSegs, leSeg, leC, and_self]
theorem box_le {l : List Nat} (v : Int) (w : Bool) : leB l ⟨1, none, fun _ => [.c (.int .i64 v)], 3, w⟩ (boxI v) := by
  refine ⟨rfl, rfl, fun h => (by cases h), Nat.le_refl _, fun _ _ => ?_⟩
  simp only [boxI, leSegs, leSeg, leC, and_self]
theorem insn_leV {l : List Nat} (i : InsnS) : leV l (.agg (insnL i)) (.agg (insnL i)) := by
  simp only [leV, leV1, insnL, leSegs, leSeg, leC, and_self]
theorem end_insn {b0 : List (Nat × Blk)} {n : Nat} {l : List Slot} {H : Heap} {R : Post} {r b : Nat} (x : InsnS) (ids : List Nat) (hl : ids.length = n) (hid : idTo ids n) (hd : diff (ids ++ [b])) (hsl : slotAt l r = some ⟨r, [], .c (.ptr ⟨b, 0, 0, 0⟩)⟩) (hb : getB H.blks b = some (insnB x)) (hb0 : leBlks (ids ++ [b]) H.blks b0)
    (hnb : nthO (ids ++ [b]) n = some b) (hidb : idTo (ids ++ [b]) n) (hR : R (.agg (insnL x)) ⟨n + 1, (n, insnB x) :: b0⟩) : endQ (LeS n) [.cn 16 r] R .ret ⟨l, H⟩ := by
  refine end_of ⟨[⟨r, [], .c (.ptr ⟨n, 0, 0, 0⟩)⟩], ⟨n + 1, (n, insnB x) :: b0⟩⟩ ?_ ?_
  · refine LeS.intro (ids ++ [b]) hidb hd (by simp [hl]) ?_ ?_
    · simp only [slotsLe, hsl, leV, leV1, leC, leA, hnb, and_self]
    · simp only [leBlks, hnb, hb]
      exact ⟨insn_le x, hb0⟩
  · have hg : St.get ⟨[⟨r, [], .c (.ptr ⟨n, 0, 0, 0⟩)⟩], ⟨n + 1, (n, insnB x) :: b0⟩⟩ [] (.t r) = .c (.ptr ⟨n, 0, 0, 0⟩) := by simp [St.get, slotAt, Nat.beq_refl, sfx, eqP]
    simp only [endF, resL, resA, hg]
    simp only [ldn, getB, Nat.beq_refl, insnB, rowNeed, Nat.beq, cut, dropS, insnL, takeS, Seg.size, nsub, noTup, resV]
    exact hR
theorem end_insn0 {l : List Slot} {H : Heap} {R : Post} {r b : Nat} (x : InsnS) (hsl : slotAt l r = some ⟨r, [], .c (.ptr ⟨b, 0, 0, 0⟩)⟩) (hb : getB H.blks b = some (insnB x)) (hR : R (.agg (insnL x)) ⟨1, [(0, insnB x)]⟩) : endQ (LeS 0) [.cn 16 r] R .ret ⟨l, H⟩ :=
  end_insn (b0 := []) x [] rfl (fun i h => absurd h (Nat.not_lt_zero i)) ⟨trivial, trivial⟩ hsl hb trivial rfl (fun i h => absurd h (Nat.not_lt_zero i)) hR
theorem Con.insn0 {f : FuncId} {args : List AV} {x : InsnS} (h : Con Tryz.prog f args ⟨0, []⟩ fun v H' => v = .agg (insnL x) ∧ H' = ⟨1, [(0, insnB x)]⟩) (ha : leArgs [] args args) (H : Heap) : Con Tryz.prog f args H fun v H' => v = .agg (insnL x) ∧ H' = H := by
  refine Con.pure (Con.forget h ?_) ha rfl H
  rintro v H' ⟨rfl, rfl⟩
  exact ⟨.agg (insnL x), ⟨0, []⟩, [], fun i h => absurd h (Nat.not_lt_zero i), trivial, rfl, trivial, insn_leV x, rfl, rfl⟩
def bitsS (w at_ many : Int) : Int := IntKind.i64.wrap (IntKind.u32.wrap (BitVec.ofInt IntKind.u32.bits (w.fdiv (2 ^ min at_.toNat IntKind.u32.bits)) &&& BitVec.ofInt IntKind.u32.bits (IntKind.u32.wrap (IntKind.u32.wrap (1 * 2 ^ min many.toNat IntKind.u32.bits) - 1))).toNat)
theorem con91 (w at_ many : Int) (h1 : 0 ≤ at_) (h2 : 0 ≤ many) (H : Heap) : Con Tryz.prog 91 [.c (.int .u32 w), .c (.int .i64 at_), .c (.int .i64 many)] H (fun v H' => v = .c (.int .i64 (bitsS w at_ many)) ∧ H' = H) := by
  refine Con.pure ?_ (by simp only [leArgs, leV, leV1, leC, and_self]) rfl H
  (refine con_of_run mixed (fn := Tryz.f91) (by kernel_rfl) (by kernel_rfl) C91_ok (rs := [.tmp 6]) (by kernel_rfl) (Nat.le_of_ble_eq_true (by kernel_rfl)) ?_; unfold C91; simp only [initT, Nat.reduceAdd])
  repeat' (first | refine run_seq ?_ | (refine run_region fun K hK => ?_; (try (simp (maxSteps := 10000000) only [C91r0, C91r1, rwp_nil, rwp_cons, aop, gpath, St.get, slotAt, sfx, eqP, St.put, addBlk, bin, isShift, sameK, arith, shiftR, shed, imp])); (repeat (first | (refine And.intro ?_ ?_; · first | trivial | assumption | omega))); with_reducible refine hK _ ?_; clear hK K) | refine run_ret ?_ | refine run_nil ?_)
  exact end_tmp1 rfl ⟨rfl, rfl⟩ rfl ⟨rfl, rfl⟩
def signS (w at_ many : Int) : Int := IntKind.i64.wrap ((IntKind.i32.wrap (IntKind.u32.wrap (w * 2 ^ min (IntKind.i64.wrap (IntKind.i64.wrap (32 - at_) - many)).toNat IntKind.u32.bits))).fdiv (2 ^ min (IntKind.i64.wrap (32 - many)).toNat IntKind.i32.bits))
theorem con95 (w at_ many : Int) (h1 : 0 ≤ IntKind.i64.wrap (IntKind.i64.wrap (32 - at_) - many)) (h2 : 0 ≤ IntKind.i64.wrap (32 - many)) (H : Heap) : Con Tryz.prog 95 [.c (.int .u32 w), .c (.int .i64 at_), .c (.int .i64 many)] H (fun v H' => v = .c (.int .i64 (signS w at_ many)) ∧ H' = H) := by
  refine Con.pure ?_ (by simp only [leArgs, leV, leV1, leC, and_self]) rfl H
  (refine con_of_run mixed (fn := Tryz.f95) (by kernel_rfl) (by kernel_rfl) C95_ok (rs := [.tmp 6]) (by kernel_rfl) (Nat.le_of_ble_eq_true (by kernel_rfl)) ?_; unfold C95; simp only [initT, Nat.reduceAdd])
  repeat' (first | refine run_seq ?_ | (refine run_region fun K hK => ?_; (try (simp (maxSteps := 10000000) only [C95r0, C95r1, rwp_nil, rwp_cons, aop, gpath, St.get, slotAt, sfx, eqP, St.put, addBlk, bin, isShift, sameK, arith, shiftR, shed, imp])); (repeat (first | (refine And.intro ?_ ?_; · assumption))); with_reducible refine hK _ ?_; clear hK K) | refine run_ret ?_ | refine run_nil ?_)
  exact end_tmp1 rfl ⟨rfl, rfl⟩ rfl ⟨rfl, rfl⟩
def hasS (w b : Int) : Bool := IntKind.u32.wrap (BitVec.ofInt IntKind.u32.bits w &&& BitVec.ofInt IntKind.u32.bits b).toNat == b
theorem con92 (w b : Int) (H : Heap) : Con Tryz.prog 92 [.c (.int .u32 w), .c (.int .u32 b)] H (fun v H' => v = .c (.bool (hasS w b)) ∧ H' = H) := by
  refine Con.pure ?_ (by simp only [leArgs, leV, leV1, leC, and_self]) rfl H
  (refine con_of_run mixed (fn := Tryz.f92) (by kernel_rfl) (by kernel_rfl) C92_ok (rs := [.tmp 4]) (by kernel_rfl) (Nat.le_of_ble_eq_true (by kernel_rfl)) ?_; unfold C92; simp only [initT, Nat.reduceAdd])
  repeat' (first | refine run_seq ?_ | (refine run_region fun K hK => ?_; (try (simp (maxSteps := 10000000) only [C92r0, C92r1, rwp_nil, rwp_cons, aop, gpath, St.get, slotAt, sfx, eqP, St.put, addBlk, bin, isShift, sameK, arith, shed])); (repeat (first | (refine And.intro ?_ ?_; · first | trivial | assumption | omega))); with_reducible refine hK _ ?_; clear hK K) | refine run_ret ?_ | refine run_nil ?_)
  exact end_tmp1 rfl rfl rfl ⟨rfl, rfl⟩
def layS (w n at_ many : Int) : Int := IntKind.u32.wrap (BitVec.ofInt IntKind.u32.bits w ||| BitVec.ofInt IntKind.u32.bits (IntKind.u32.wrap (IntKind.u32.wrap (BitVec.ofInt IntKind.u32.bits (IntKind.u32.wrap n) &&& BitVec.ofInt IntKind.u32.bits (IntKind.u32.wrap (IntKind.u32.wrap (1 * 2 ^ min many.toNat IntKind.u32.bits) - 1))).toNat * 2 ^ min at_.toNat IntKind.u32.bits))).toNat
theorem con88 (w n at_ many : Int) (h1 : 0 ≤ at_) (h2 : 0 ≤ many) (H : Heap) : Con Tryz.prog 88 [.c (.int .u32 w), .c (.int .i64 n), .c (.int .i64 at_), .c (.int .i64 many)] H (fun v H' => v = .c (.int .u32 (layS w n at_ many)) ∧ H' = H) := by
  refine Con.pure ?_ (by simp only [leArgs, leV, leV1, leC, and_self]) rfl H
  (refine con_of_run mixed (fn := Tryz.f88) (by kernel_rfl) (by kernel_rfl) C88_ok (rs := [.tmp 8]) (by kernel_rfl) (Nat.le_of_ble_eq_true (by kernel_rfl)) ?_; unfold C88; simp only [initT, Nat.reduceAdd])
  repeat' (first | refine run_seq ?_ | (refine run_region fun K hK => ?_; (try (simp (maxSteps := 10000000) only [C88r0, C88r1, rwp_nil, rwp_cons, aop, gpath, St.get, slotAt, sfx, eqP, St.put, addBlk, bin, isShift, sameK, arith, shiftR, shed, imp])); (repeat (first | (refine And.intro ?_ ?_; · first | trivial | assumption | omega))); with_reducible refine hK _ ?_; clear hK K) | refine run_ret ?_ | refine run_nil ?_)
  exact end_tmp1 rfl ⟨rfl, rfl⟩ rfl ⟨rfl, rfl⟩
def flagS (w : Int) (b : Bool) (bits : Int) : Int := match b with | true => IntKind.u32.wrap (BitVec.ofInt IntKind.u32.bits w ||| BitVec.ofInt IntKind.u32.bits bits).toNat | false => w
theorem con89 (w : Int) (b : Bool) (bits : Int) (H : Heap) : Con Tryz.prog 89 [.c (.int .u32 w), .c (.bool b), .c (.int .u32 bits)] H (fun v H' => v = .c (.int .u32 (flagS w b bits)) ∧ H' = H) := by
  refine Con.pure ?_ (by simp only [leArgs, leV, leV1, leC, and_self]) rfl H
  (refine con_of_run mixed (fn := Tryz.f89) (by kernel_rfl) (by kernel_rfl) C89_ok (rs := [.tmp 6]) (by kernel_rfl) (Nat.le_of_ble_eq_true (by kernel_rfl)) ?_; unfold C89; simp only [initT, Nat.reduceAdd])
  repeat' (first | refine run_seq ?_ | refine run_skip ?_ | (refine run_region fun K hK => ?_; (try (simp (maxSteps := 10000000) only [C89r0, C89r1, C89r2, C89r3, rwp_nil, rwp_cons, aop, gpath, St.get, slotAt, sfx, eqP, St.put, addBlk, bin, isShift, sameK, arith, shed])); (repeat (first | (refine And.intro ?_ ?_; · first | trivial | assumption | omega))); with_reducible refine hK _ ?_; clear hK K) | (refine run_cond rfl (fun hc => ?_) (fun hc => ?_) <;> try (simp only [*, Bool.true_eq_false, Bool.false_eq_true, Bool.not_true, Bool.not_false, Bool.true_or, Bool.or_true, Bool.false_or, Bool.or_false, Bool.false_and, Bool.and_false, bne_self_eq_false, beq_self_eq_true] at hc; done)) | refine run_ret ?_ | refine run_nil ?_)
  all_goals exact end_tmp1 rfl ⟨rfl, rfl⟩ rfl ⟨by rw [hc]; rfl, rfl⟩
def mulS (a b : Int) : Int := IntKind.i64.wrap (a * b)
def addS (a b : Int) : Int := IntKind.i64.wrap (a + b)
def quoS (a b : Int) : Int := IntKind.i64.wrap (a.tdiv b)
def shlS (a : Int) (n : Nat) : Int := IntKind.i64.wrap (a * 2 ^ min n IntKind.i64.bits)
def shrS (a : Int) (n : Nat) : Int := a.fdiv (2 ^ min n IntKind.i64.bits)
def orS (a b : Int) : Int := IntKind.i64.wrap (BitVec.ofInt IntKind.i64.bits a ||| BitVec.ofInt IntKind.i64.bits b).toNat
def insnS (w op : Int) : InsnS := { nilI with op := op, rd := bitsS w 0 5, rn := bitsS w 5 5, rm := bitsS w 16 5 }
def regsS (w : Int) (i : InsnS) : Int := layS (layS (layS w i.rd 0 5) i.rn 5 5) i.rm 16 5
def logicS (i : InsnS) : Int := match i.flags with | true => 3 | false => i.sub
def unlogS (i : InsnS) (o : Int) : InsnS := { i with sub := if o = 3 then 0 else o, flags := o == 3 }
theorem con54 (w : Int) (i : InsnS) (H : Heap) : Con Tryz.prog 54 [.c (.int .u32 w), .agg (insnL i)] H (fun v H' => v = .c (.int .u32 (regsS w i)) ∧ H' = H) := by
  refine Con.pure ?_ (by simp only [leArgs, leV, leV1, insnL, leSegs, leSeg, leC, and_self]) rfl H
  (refine con_of_run mixed (fn := Tryz.f54) (by kernel_rfl) (by kernel_rfl) C54_ok (rs := [.tmp 4]) (by kernel_rfl) (Nat.le_of_ble_eq_true (by kernel_rfl)) ?_; unfold C54; simp only [initT, Nat.reduceAdd])
  repeat' (first | refine run_seq ?_ | (refine run_region fun K hK => ?_; (try (simp (maxSteps := 10000000) only [insnL, C54r0, C54r1, rwp_nil, rwp_cons, aop, gpath, St.get, slotAt, sfx, eqP, segsOf, St.put, addBlk, getB, ld1, rowNeed, segAt, nsub, shed, addN, Seg.size, sizes, appL, argsOf, ptrsOf, Nat.reduceAdd])); (repeat (first | (refine And.intro ?_ ?_; · decide) | ((first | (refine call_t _ (con88 _ _ _ _ (by decide) (by decide) _) ?_; rintro v H' ⟨rfl, rfl⟩) | refine call_q _ (con88 _ _ _ _ (by decide) (by decide) _) ?_ | refine call_g _ (imp_of (con88 _ _ _ _ (by decide) (by decide) _)) ?_); simp (maxSteps := 10000000) only [rwp_nil, rwp_cons, rwpK_app, aop, gpath, St.get, slotAt, sfx, eqP, St.put, addBlk, getB, ld1, rowNeed, segAt, nsub, shed, addN, Seg.size, appL, argsOf, ptrsOf, Nat.reduceAdd]))); with_reducible refine hK _ ?_; clear hK K) | refine run_ret ?_ | refine run_nil ?_)
  exact end_tmp1 rfl ⟨rfl, rfl⟩ rfl ⟨rfl, rfl⟩
theorem con93 (i : InsnS) (H : Heap) : Con Tryz.prog 93 [.agg (insnL i)] H (fun v H' => v = .c (.int .i64 (logicS i)) ∧ H' = H) := by
  refine Con.pure ?_ (by simp only [leArgs, leV, leV1, insnL, leSegs, leSeg, leC, and_self]) rfl H
  (refine con_of_run mixed (fn := Tryz.f93) (by kernel_rfl) (by kernel_rfl) C93_ok (rs := [.tmp 2]) (by kernel_rfl) (Nat.le_of_ble_eq_true (by kernel_rfl)) ?_; unfold C93; simp only [initT])
  repeat' (first | refine run_seq ?_ | refine run_skip ?_ | (refine run_region fun K hK => ?_; (try (simp (maxSteps := 10000000) only [insnL, C93r0, C93r1, C93r2, C93r3, rwp_nil, rwp_cons, aop, gpath, St.get, slotAt, sfx, eqP, segsOf, St.put, addBlk, getB, ld1, rowNeed, segAt, nsub, shed, addN, Seg.size, sizes, Nat.reduceAdd])); (repeat (first | (refine And.intro ?_ ?_; · first | trivial | assumption | omega))); with_reducible refine hK _ ?_; clear hK K) | (refine run_cond rfl (fun hc => ?_) (fun hc => ?_) <;> try (simp only [*, Bool.true_eq_false, Bool.false_eq_true, Bool.not_true, Bool.not_false, Bool.true_or, Bool.or_true, Bool.false_or, Bool.or_false, Bool.false_and, Bool.and_false, bne_self_eq_false, beq_self_eq_true] at hc; done)) | refine run_ret ?_ | refine run_nil ?_)
  all_goals exact end_tmp1 rfl ⟨rfl, rfl⟩ rfl ⟨by unfold logicS; rw [hc], rfl⟩
theorem con90 (w op : Int) (H : Heap) : Con Tryz.prog 90 [.c (.int .u32 w), .c (.int .i64 op)] H (fun v H' => v = .agg (insnL (insnS w op)) ∧ H' = H) := by
  refine Con.insn0 ?_ (by simp only [leArgs, leV, leV1, leC, and_self]) H
  (refine con_of_run mixed (fn := Tryz.f90) (by kernel_rfl) (by kernel_rfl) C90_ok (rs := [.cn 16 4]) (by kernel_rfl) (Nat.le_of_ble_eq_true (by kernel_rfl)) ?_; unfold C90; simp only [initT, Nat.reduceAdd])
  repeat' (first | refine run_seq ?_ | (refine run_region fun K hK => ?_; (try (simp (maxSteps := 10000000) only [C90r0, C90r1, rwp_nil, rwp_cons, aop, gpath, St.get, slotAt, sfx, eqP, St.put, addBlk, shed, Seg.size, sizes, appL, argsOf, ptrsOf, Nat.reduceAdd])); (repeat (first | (refine And.intro ?_ ?_; · decide) | ((first | (refine call_t _ (con91 _ _ _ (by decide) (by decide) _) ?_; rintro v H' ⟨rfl, rfl⟩) | refine call_q _ (con91 _ _ _ (by decide) (by decide) _) ?_ | refine call_g _ (imp_of (con91 _ _ _ (by decide) (by decide) _)) ?_); simp (maxSteps := 10000000) only [rwp_nil, rwp_cons, rwpK_app, aop, gpath, St.get, slotAt, sfx, eqP, segsOf, St.put, addBlk, getB, setB, stn, setRow, rowNeed, nsub, shed, Nat.beq, Seg.size, sizes, appL, argsOf, ptrsOf, takeS, dropS, putS, partsOf, fillS, exOk, Nat.reduceAdd, List.append_nil, List.nil_append, List.cons_append]))); with_reducible refine hK _ ?_; clear hK K) | refine run_ret ?_ | refine run_nil ?_)
  exact end_insn0 (insnS w op) rfl rfl ⟨rfl, rfl⟩
theorem con94 (i : InsnS) (o : Int) (H : Heap) : Con Tryz.prog 94 [.agg (insnL i), .c (.int .i64 o)] H (fun v H' => v = .agg (insnL (unlogS i o)) ∧ H' = H) := by
  refine Con.insn0 ?_ (by simp only [leArgs, leV, leV1, insnL, leSegs, leSeg, leC, and_self]) H
  (refine con_of_run mixed (fn := Tryz.f94) (by kernel_rfl) (by kernel_rfl) C94_ok (rs := [.cn 16 4]) (by kernel_rfl) (Nat.le_of_ble_eq_true (by kernel_rfl)) ?_; unfold C94; simp only [initT, Nat.reduceAdd])
  generalize hR : (fun (v : AV) (H' : Heap) => v = AV.agg (insnL (unlogS i o)) ∧ H' = ⟨1, [(0, insnB (unlogS i o))]⟩) = R
  repeat' (first | refine run_seq ?_ | refine run_skip ?_ | (refine run_region fun K hK => ?_; (try (simp (maxSteps := 10000000) only [insnL, C94r0, C94r1, C94r2, C94r3, C94r4, rwp_nil, rwp_cons, aop, gpath, St.get, slotAt, sfx, eqP, segsOf, St.put, addBlk, getB, setB, ld1, ldn, st1, stn, setRow, rowNeed, segAt, nsub, bin, isShift, sameK, arith, shed, addN, Nat.beq, Seg.size, sizes, cut, takeS, dropS, putS, exOk, Nat.reduceAdd, List.append_nil, List.nil_append, List.cons_append])); (repeat (first | (refine And.intro ?_ ?_; · first | trivial | assumption | omega))); with_reducible refine hK _ ?_; clear hK K) | (refine run_cond rfl (fun hc => ?_) (fun hc => ?_) <;> try (simp only [*, Bool.true_eq_false, Bool.false_eq_true, Bool.not_true, Bool.not_false, Bool.true_or, Bool.or_true, Bool.false_or, Bool.or_false, Bool.false_and, Bool.and_false, bne_self_eq_false, beq_self_eq_true] at hc; done)) | refine run_ret ?_ | refine run_nil ?_)
  · have h : o = 3 := by simpa using hc
    subst hR
    refine end_insn0 { i with sub := 0, flags := o == 3 } rfl rfl ?_
    have e : unlogS i o = { i with sub := 0, flags := o == 3 } := by simp only [unlogS, h, if_true]
    rw [e]
    exact ⟨rfl, rfl⟩
  · have h : ¬ o = 3 := by simpa using hc
    subst hR
    refine end_insn0 { i with sub := o, flags := o == 3 } rfl rfl ?_
    have e : unlogS i o = { i with sub := o, flags := o == 3 } := by simp only [unlogS, h, if_false]
    rw [e]
    exact ⟨rfl, rfl⟩
def putAddImmS (w : Int) (i : InsnS) : Int := flagS (flagS (layS (layS (regsS w i) i.imm 10 12) (quoS i.amount 12) 22 1) i.flags 536870912) i.minus 1073741824
theorem con19 (w : Int) (i : InsnS) (H : Heap) : Con Tryz.prog 19 [.c (.int .u32 w), .agg (insnL i)] H (fun v H' => v = .c (.int .u32 (putAddImmS w i)) ∧ H' = H) := by
  refine Con.pure ?_ (by simp only [leArgs, leV, leV1, insnL, leSegs, leSeg, leC, and_self]) rfl H
  (refine con_of_run mixed (fn := Tryz.f19) (by kernel_rfl) (by kernel_rfl) C19_ok (rs := [.tmp 4]) (by kernel_rfl) (Nat.le_of_ble_eq_true (by kernel_rfl)) ?_; unfold C19; simp only [initT, Nat.reduceAdd])
  repeat' (first | refine run_seq ?_ | (refine run_region fun K hK => ?_; (try (simp (maxSteps := 10000000) only [insnL, C19r0, C19r1, rwp_nil, rwp_cons, aop, gpath, St.get, slotAt, sfx, eqP, segsOf, St.put, addBlk, getB, ldn, rowNeed, nsub, shed, Seg.size, sizes, appL, argsOf, ptrsOf, cut, takeS, dropS, Nat.reduceAdd])); (repeat (first | (refine And.intro ?_ ?_; · decide) | ((first | (refine call_t _ (con88 _ _ _ _ (by decide) (by decide) _) ?_; rintro v H' ⟨rfl, rfl⟩) | refine call_q _ (con88 _ _ _ _ (by decide) (by decide) _) ?_ | refine call_g _ (imp_of (con88 _ _ _ _ (by decide) (by decide) _)) ?_ | (refine call_t _ (con89 _ _ _ _) ?_; rintro v H' ⟨rfl, rfl⟩) | refine call_q _ (con89 _ _ _ _) ?_ | refine call_g _ (imp_of (con89 _ _ _ _)) ?_ | (refine call_t _ (con54 _ i _) ?_; rintro v H' ⟨rfl, rfl⟩) | refine call_q _ (con54 _ i _) ?_ | refine call_g _ (imp_of (con54 _ i _)) ?_ | (refine call_t _ (con93 i _) ?_; rintro v H' ⟨rfl, rfl⟩) | refine call_q _ (con93 i _) ?_ | refine call_g _ (imp_of (con93 i _)) ?_); simp (maxSteps := 10000000) only [ne_eq, rwp_nil, rwp_cons, rwpK_app, aop, gpath, St.get, slotAt, sfx, eqP, St.put, addBlk, getB, ld1, rowNeed, segAt, nsub, bin, isShift, sameK, arith, shed, addN, Seg.size, imp, appL, argsOf, ptrsOf, Nat.reduceAdd]))); with_reducible refine hK _ ?_; clear hK K) | refine run_ret ?_ | refine run_nil ?_)
  exact end_tmp1 rfl ⟨rfl, rfl⟩ rfl ⟨rfl, rfl⟩
def putAddRegS (w : Int) (i : InsnS) : Int := flagS (flagS (layS (layS (regsS w i) i.amount 10 6) i.shift 22 2) i.flags 536870912) i.minus 1073741824
theorem con21 (w : Int) (i : InsnS) (H : Heap) : Con Tryz.prog 21 [.c (.int .u32 w), .agg (insnL i)] H (fun v H' => v = .c (.int .u32 (putAddRegS w i)) ∧ H' = H) := by
  refine Con.pure ?_ (by simp only [leArgs, leV, leV1, insnL, leSegs, leSeg, leC, and_self]) rfl H
  (refine con_of_run mixed (fn := Tryz.f21) (by kernel_rfl) (by kernel_rfl) C21_ok (rs := [.tmp 4]) (by kernel_rfl) (Nat.le_of_ble_eq_true (by kernel_rfl)) ?_; unfold C21; simp only [initT, Nat.reduceAdd])
  repeat' (first | refine run_seq ?_ | (refine run_region fun K hK => ?_; (try (simp (maxSteps := 10000000) only [insnL, C21r0, C21r1, rwp_nil, rwp_cons, aop, gpath, St.get, slotAt, sfx, eqP, segsOf, St.put, addBlk, getB, ldn, rowNeed, nsub, shed, Seg.size, sizes, appL, argsOf, ptrsOf, cut, takeS, dropS, Nat.reduceAdd])); (repeat (first | (refine And.intro ?_ ?_; · decide) | ((first | (refine call_t _ (con88 _ _ _ _ (by decide) (by decide) _) ?_; rintro v H' ⟨rfl, rfl⟩) | refine call_q _ (con88 _ _ _ _ (by decide) (by decide) _) ?_ | refine call_g _ (imp_of (con88 _ _ _ _ (by decide) (by decide) _)) ?_ | (refine call_t _ (con89 _ _ _ _) ?_; rintro v H' ⟨rfl, rfl⟩) | refine call_q _ (con89 _ _ _ _) ?_ | refine call_g _ (imp_of (con89 _ _ _ _)) ?_ | (refine call_t _ (con54 _ i _) ?_; rintro v H' ⟨rfl, rfl⟩) | refine call_q _ (con54 _ i _) ?_ | refine call_g _ (imp_of (con54 _ i _)) ?_ | (refine call_t _ (con93 i _) ?_; rintro v H' ⟨rfl, rfl⟩) | refine call_q _ (con93 i _) ?_ | refine call_g _ (imp_of (con93 i _)) ?_); simp (maxSteps := 10000000) only [rwp_nil, rwp_cons, rwpK_app, aop, gpath, St.get, slotAt, sfx, eqP, St.put, addBlk, getB, ld1, rowNeed, segAt, nsub, shed, addN, Seg.size, appL, argsOf, ptrsOf, Nat.reduceAdd]))); with_reducible refine hK _ ?_; clear hK K) | refine run_ret ?_ | refine run_nil ?_)
  exact end_tmp1 rfl ⟨rfl, rfl⟩ rfl ⟨rfl, rfl⟩
def putLogRegS (w : Int) (i : InsnS) : Int := flagS (layS (layS (layS (regsS w i) (logicS i) 29 2) i.amount 10 6) i.shift 22 2) i.not_ 2097152
theorem con23 (w : Int) (i : InsnS) (H : Heap) : Con Tryz.prog 23 [.c (.int .u32 w), .agg (insnL i)] H (fun v H' => v = .c (.int .u32 (putLogRegS w i)) ∧ H' = H) := by
  refine Con.pure ?_ (by simp only [leArgs, leV, leV1, insnL, leSegs, leSeg, leC, and_self]) rfl H
  (refine con_of_run mixed (fn := Tryz.f23) (by kernel_rfl) (by kernel_rfl) C23_ok (rs := [.tmp 4]) (by kernel_rfl) (Nat.le_of_ble_eq_true (by kernel_rfl)) ?_; unfold C23; simp only [initT, Nat.reduceAdd])
  repeat' (first | refine run_seq ?_ | (refine run_region fun K hK => ?_; (try (simp (maxSteps := 10000000) only [insnL, C23r0, C23r1, rwp_nil, rwp_cons, aop, gpath, St.get, slotAt, sfx, eqP, segsOf, St.put, addBlk, getB, ldn, rowNeed, nsub, shed, Seg.size, sizes, appL, argsOf, ptrsOf, cut, takeS, dropS, Nat.reduceAdd])); (repeat (first | (refine And.intro ?_ ?_; · decide) | ((first | (refine call_t _ (con88 _ _ _ _ (by decide) (by decide) _) ?_; rintro v H' ⟨rfl, rfl⟩) | refine call_q _ (con88 _ _ _ _ (by decide) (by decide) _) ?_ | refine call_g _ (imp_of (con88 _ _ _ _ (by decide) (by decide) _)) ?_ | (refine call_t _ (con89 _ _ _ _) ?_; rintro v H' ⟨rfl, rfl⟩) | refine call_q _ (con89 _ _ _ _) ?_ | refine call_g _ (imp_of (con89 _ _ _ _)) ?_ | (refine call_t _ (con54 _ i _) ?_; rintro v H' ⟨rfl, rfl⟩) | refine call_q _ (con54 _ i _) ?_ | refine call_g _ (imp_of (con54 _ i _)) ?_ | (refine call_t _ (con93 i _) ?_; rintro v H' ⟨rfl, rfl⟩) | refine call_q _ (con93 i _) ?_ | refine call_g _ (imp_of (con93 i _)) ?_); simp (maxSteps := 10000000) only [rwp_nil, rwp_cons, rwpK_app, aop, gpath, St.get, slotAt, sfx, eqP, St.put, addBlk, getB, ld1, ldn, rowNeed, segAt, nsub, shed, addN, Seg.size, appL, argsOf, ptrsOf, cut, takeS, dropS, Nat.reduceAdd]))); with_reducible refine hK _ ?_; clear hK K) | refine run_ret ?_ | refine run_nil ?_)
  exact end_tmp1 rfl ⟨rfl, rfl⟩ rfl ⟨rfl, rfl⟩
def putLogImmS (w : Int) (i : InsnS) : Int := layS (layS (layS (layS (regsS w i) (logicS i) 29 2) i.amount 22 1) i.imm 16 6) i.imm2 10 6
theorem con25 (w : Int) (i : InsnS) (H : Heap) : Con Tryz.prog 25 [.c (.int .u32 w), .agg (insnL i)] H (fun v H' => v = .c (.int .u32 (putLogImmS w i)) ∧ H' = H) := by
  refine Con.pure ?_ (by simp only [leArgs, leV, leV1, insnL, leSegs, leSeg, leC, and_self]) rfl H
  (refine con_of_run mixed (fn := Tryz.f25) (by kernel_rfl) (by kernel_rfl) C25_ok (rs := [.tmp 4]) (by kernel_rfl) (Nat.le_of_ble_eq_true (by kernel_rfl)) ?_; unfold C25; simp only [initT, Nat.reduceAdd])
  repeat' (first | refine run_seq ?_ | (refine run_region fun K hK => ?_; (try (simp (maxSteps := 10000000) only [insnL, C25r0, C25r1, rwp_nil, rwp_cons, aop, gpath, St.get, slotAt, sfx, eqP, segsOf, St.put, addBlk, getB, ldn, rowNeed, nsub, shed, Seg.size, sizes, appL, argsOf, ptrsOf, cut, takeS, dropS, Nat.reduceAdd])); (repeat (first | (refine And.intro ?_ ?_; · decide) | ((first | (refine call_t _ (con88 _ _ _ _ (by decide) (by decide) _) ?_; rintro v H' ⟨rfl, rfl⟩) | refine call_q _ (con88 _ _ _ _ (by decide) (by decide) _) ?_ | refine call_g _ (imp_of (con88 _ _ _ _ (by decide) (by decide) _)) ?_ | (refine call_t _ (con89 _ _ _ _) ?_; rintro v H' ⟨rfl, rfl⟩) | refine call_q _ (con89 _ _ _ _) ?_ | refine call_g _ (imp_of (con89 _ _ _ _)) ?_ | (refine call_t _ (con54 _ i _) ?_; rintro v H' ⟨rfl, rfl⟩) | refine call_q _ (con54 _ i _) ?_ | refine call_g _ (imp_of (con54 _ i _)) ?_ | (refine call_t _ (con93 i _) ?_; rintro v H' ⟨rfl, rfl⟩) | refine call_q _ (con93 i _) ?_ | refine call_g _ (imp_of (con93 i _)) ?_); simp (maxSteps := 10000000) only [rwp_nil, rwp_cons, rwpK_app, aop, gpath, St.get, slotAt, sfx, eqP, St.put, addBlk, getB, ld1, ldn, rowNeed, segAt, nsub, shed, addN, Seg.size, appL, argsOf, ptrsOf, cut, takeS, dropS, Nat.reduceAdd]))); with_reducible refine hK _ ?_; clear hK K) | refine run_ret ?_ | refine run_nil ?_)
  exact end_tmp1 rfl ⟨rfl, rfl⟩ rfl ⟨rfl, rfl⟩
def putMovWideS (w : Int) (i : InsnS) : Int := layS (layS (layS (layS w i.rd 0 5) i.sub 29 2) i.imm 5 16) (quoS i.amount 16) 21 2
theorem con27 (w : Int) (i : InsnS) (H : Heap) : Con Tryz.prog 27 [.c (.int .u32 w), .agg (insnL i)] H (fun v H' => v = .c (.int .u32 (putMovWideS w i)) ∧ H' = H) := by
  refine Con.pure ?_ (by simp only [leArgs, leV, leV1, insnL, leSegs, leSeg, leC, and_self]) rfl H
  (refine con_of_run mixed (fn := Tryz.f27) (by kernel_rfl) (by kernel_rfl) C27_ok (rs := [.tmp 4]) (by kernel_rfl) (Nat.le_of_ble_eq_true (by kernel_rfl)) ?_; unfold C27; simp only [initT, Nat.reduceAdd])
  repeat' (first | refine run_seq ?_ | (refine run_region fun K hK => ?_; (try (simp (maxSteps := 10000000) only [insnL, C27r0, C27r1, rwp_nil, rwp_cons, aop, gpath, St.get, slotAt, sfx, eqP, segsOf, St.put, addBlk, getB, ld1, rowNeed, segAt, nsub, shed, addN, Seg.size, sizes, appL, argsOf, ptrsOf, Nat.reduceAdd])); (repeat (first | (refine And.intro ?_ ?_; · decide) | ((first | (refine call_t _ (con88 _ _ _ _ (by decide) (by decide) _) ?_; rintro v H' ⟨rfl, rfl⟩) | refine call_q _ (con88 _ _ _ _ (by decide) (by decide) _) ?_ | refine call_g _ (imp_of (con88 _ _ _ _ (by decide) (by decide) _)) ?_ | (refine call_t _ (con89 _ _ _ _) ?_; rintro v H' ⟨rfl, rfl⟩) | refine call_q _ (con89 _ _ _ _) ?_ | refine call_g _ (imp_of (con89 _ _ _ _)) ?_ | (refine call_t _ (con54 _ i _) ?_; rintro v H' ⟨rfl, rfl⟩) | refine call_q _ (con54 _ i _) ?_ | refine call_g _ (imp_of (con54 _ i _)) ?_ | (refine call_t _ (con93 i _) ?_; rintro v H' ⟨rfl, rfl⟩) | refine call_q _ (con93 i _) ?_ | refine call_g _ (imp_of (con93 i _)) ?_); simp (maxSteps := 10000000) only [ne_eq, rwp_nil, rwp_cons, rwpK_app, aop, gpath, St.get, slotAt, sfx, eqP, St.put, addBlk, getB, ld1, rowNeed, segAt, nsub, bin, isShift, sameK, arith, shed, addN, Seg.size, imp, appL, argsOf, ptrsOf, Nat.reduceAdd]))); with_reducible refine hK _ ?_; clear hK K) | refine run_ret ?_ | refine run_nil ?_)
  exact end_tmp1 rfl ⟨rfl, rfl⟩ rfl ⟨rfl, rfl⟩
def putBitfieldS (w : Int) (i : InsnS) : Int := layS (layS (layS (regsS w i) i.sub 29 2) i.imm 16 6) i.imm2 10 6
theorem con29 (w : Int) (i : InsnS) (H : Heap) : Con Tryz.prog 29 [.c (.int .u32 w), .agg (insnL i)] H (fun v H' => v = .c (.int .u32 (putBitfieldS w i)) ∧ H' = H) := by
  refine Con.pure ?_ (by simp only [leArgs, leV, leV1, insnL, leSegs, leSeg, leC, and_self]) rfl H
  (refine con_of_run mixed (fn := Tryz.f29) (by kernel_rfl) (by kernel_rfl) C29_ok (rs := [.tmp 4]) (by kernel_rfl) (Nat.le_of_ble_eq_true (by kernel_rfl)) ?_; unfold C29; simp only [initT, Nat.reduceAdd])
  repeat' (first | refine run_seq ?_ | (refine run_region fun K hK => ?_; (try (simp (maxSteps := 10000000) only [insnL, C29r0, C29r1, rwp_nil, rwp_cons, aop, gpath, St.get, slotAt, sfx, eqP, segsOf, St.put, addBlk, getB, ldn, rowNeed, nsub, shed, Seg.size, sizes, appL, argsOf, ptrsOf, cut, takeS, dropS, Nat.reduceAdd])); (repeat (first | (refine And.intro ?_ ?_; · decide) | ((first | (refine call_t _ (con88 _ _ _ _ (by decide) (by decide) _) ?_; rintro v H' ⟨rfl, rfl⟩) | refine call_q _ (con88 _ _ _ _ (by decide) (by decide) _) ?_ | refine call_g _ (imp_of (con88 _ _ _ _ (by decide) (by decide) _)) ?_ | (refine call_t _ (con89 _ _ _ _) ?_; rintro v H' ⟨rfl, rfl⟩) | refine call_q _ (con89 _ _ _ _) ?_ | refine call_g _ (imp_of (con89 _ _ _ _)) ?_ | (refine call_t _ (con54 _ i _) ?_; rintro v H' ⟨rfl, rfl⟩) | refine call_q _ (con54 _ i _) ?_ | refine call_g _ (imp_of (con54 _ i _)) ?_ | (refine call_t _ (con93 i _) ?_; rintro v H' ⟨rfl, rfl⟩) | refine call_q _ (con93 i _) ?_ | refine call_g _ (imp_of (con93 i _)) ?_); simp (maxSteps := 10000000) only [rwp_nil, rwp_cons, rwpK_app, aop, gpath, St.get, slotAt, sfx, eqP, St.put, addBlk, getB, ld1, rowNeed, segAt, nsub, shed, addN, Seg.size, appL, argsOf, ptrsOf, Nat.reduceAdd]))); with_reducible refine hK _ ?_; clear hK K) | refine run_ret ?_ | refine run_nil ?_)
  exact end_tmp1 rfl ⟨rfl, rfl⟩ rfl ⟨rfl, rfl⟩
def putSub10S (w : Int) (i : InsnS) : Int := layS (regsS w i) i.sub 10 2
theorem con31 (w : Int) (i : InsnS) (H : Heap) : Con Tryz.prog 31 [.c (.int .u32 w), .agg (insnL i)] H (fun v H' => v = .c (.int .u32 (putSub10S w i)) ∧ H' = H) := by
  refine Con.pure ?_ (by simp only [leArgs, leV, leV1, insnL, leSegs, leSeg, leC, and_self]) rfl H
  (refine con_of_run mixed (fn := Tryz.f31) (by kernel_rfl) (by kernel_rfl) C31_ok (rs := [.tmp 4]) (by kernel_rfl) (Nat.le_of_ble_eq_true (by kernel_rfl)) ?_; unfold C31; simp only [initT, Nat.reduceAdd])
  repeat' (first | refine run_seq ?_ | (refine run_region fun K hK => ?_; (try (simp (maxSteps := 10000000) only [insnL, C31r0, C31r1, rwp_nil, rwp_cons, aop, gpath, St.get, slotAt, sfx, eqP, segsOf, St.put, addBlk, getB, ldn, rowNeed, nsub, shed, Seg.size, sizes, appL, argsOf, ptrsOf, cut, takeS, dropS, Nat.reduceAdd])); (repeat (first | (refine And.intro ?_ ?_; · decide) | ((first | (refine call_t _ (con88 _ _ _ _ (by decide) (by decide) _) ?_; rintro v H' ⟨rfl, rfl⟩) | refine call_q _ (con88 _ _ _ _ (by decide) (by decide) _) ?_ | refine call_g _ (imp_of (con88 _ _ _ _ (by decide) (by decide) _)) ?_ | (refine call_t _ (con89 _ _ _ _) ?_; rintro v H' ⟨rfl, rfl⟩) | refine call_q _ (con89 _ _ _ _) ?_ | refine call_g _ (imp_of (con89 _ _ _ _)) ?_ | (refine call_t _ (con54 _ i _) ?_; rintro v H' ⟨rfl, rfl⟩) | refine call_q _ (con54 _ i _) ?_ | refine call_g _ (imp_of (con54 _ i _)) ?_ | (refine call_t _ (con93 i _) ?_; rintro v H' ⟨rfl, rfl⟩) | refine call_q _ (con93 i _) ?_ | refine call_g _ (imp_of (con93 i _)) ?_); simp (maxSteps := 10000000) only [rwp_nil, rwp_cons, rwpK_app, aop, gpath, St.get, slotAt, sfx, eqP, St.put, addBlk, getB, ld1, rowNeed, segAt, nsub, shed, addN, Seg.size, appL, argsOf, ptrsOf, Nat.reduceAdd]))); with_reducible refine hK _ ?_; clear hK K) | refine run_ret ?_ | refine run_nil ?_)
  exact end_tmp1 rfl ⟨rfl, rfl⟩ rfl ⟨rfl, rfl⟩
def putMulS (w : Int) (i : InsnS) : Int := flagS (layS (regsS w i) i.ra 10 5) i.minus 32768
theorem con33 (w : Int) (i : InsnS) (H : Heap) : Con Tryz.prog 33 [.c (.int .u32 w), .agg (insnL i)] H (fun v H' => v = .c (.int .u32 (putMulS w i)) ∧ H' = H) := by
  refine Con.pure ?_ (by simp only [leArgs, leV, leV1, insnL, leSegs, leSeg, leC, and_self]) rfl H
  (refine con_of_run mixed (fn := Tryz.f33) (by kernel_rfl) (by kernel_rfl) C33_ok (rs := [.tmp 4]) (by kernel_rfl) (Nat.le_of_ble_eq_true (by kernel_rfl)) ?_; unfold C33; simp only [initT, Nat.reduceAdd])
  repeat' (first | refine run_seq ?_ | (refine run_region fun K hK => ?_; (try (simp (maxSteps := 10000000) only [insnL, C33r0, C33r1, rwp_nil, rwp_cons, aop, gpath, St.get, slotAt, sfx, eqP, segsOf, St.put, addBlk, getB, ldn, rowNeed, nsub, shed, Seg.size, sizes, appL, argsOf, ptrsOf, cut, takeS, dropS, Nat.reduceAdd])); (repeat (first | (refine And.intro ?_ ?_; · decide) | ((first | (refine call_t _ (con88 _ _ _ _ (by decide) (by decide) _) ?_; rintro v H' ⟨rfl, rfl⟩) | refine call_q _ (con88 _ _ _ _ (by decide) (by decide) _) ?_ | refine call_g _ (imp_of (con88 _ _ _ _ (by decide) (by decide) _)) ?_ | (refine call_t _ (con89 _ _ _ _) ?_; rintro v H' ⟨rfl, rfl⟩) | refine call_q _ (con89 _ _ _ _) ?_ | refine call_g _ (imp_of (con89 _ _ _ _)) ?_ | (refine call_t _ (con54 _ i _) ?_; rintro v H' ⟨rfl, rfl⟩) | refine call_q _ (con54 _ i _) ?_ | refine call_g _ (imp_of (con54 _ i _)) ?_ | (refine call_t _ (con93 i _) ?_; rintro v H' ⟨rfl, rfl⟩) | refine call_q _ (con93 i _) ?_ | refine call_g _ (imp_of (con93 i _)) ?_); simp (maxSteps := 10000000) only [rwp_nil, rwp_cons, rwpK_app, aop, gpath, St.get, slotAt, sfx, eqP, St.put, addBlk, getB, ld1, rowNeed, segAt, nsub, shed, addN, Seg.size, appL, argsOf, ptrsOf, Nat.reduceAdd]))); with_reducible refine hK _ ?_; clear hK K) | refine run_ret ?_ | refine run_nil ?_)
  exact end_tmp1 rfl ⟨rfl, rfl⟩ rfl ⟨rfl, rfl⟩
def putSelS (w : Int) (i : InsnS) : Int := layS (layS (layS (regsS w i) (shrS i.sub 1) 30 1) i.sub 10 1) i.cond 12 4
theorem con36 (w : Int) (i : InsnS) (H : Heap) : Con Tryz.prog 36 [.c (.int .u32 w), .agg (insnL i)] H (fun v H' => v = .c (.int .u32 (putSelS w i)) ∧ H' = H) := by
  refine Con.pure ?_ (by simp only [leArgs, leV, leV1, insnL, leSegs, leSeg, leC, and_self]) rfl H
  (refine con_of_run mixed (fn := Tryz.f36) (by kernel_rfl) (by kernel_rfl) C36_ok (rs := [.tmp 4]) (by kernel_rfl) (Nat.le_of_ble_eq_true (by kernel_rfl)) ?_; unfold C36; simp only [initT, Nat.reduceAdd])
  repeat' (first | refine run_seq ?_ | (refine run_region fun K hK => ?_; (try (simp (maxSteps := 10000000) only [insnL, C36r0, C36r1, rwp_nil, rwp_cons, aop, gpath, St.get, slotAt, sfx, eqP, segsOf, St.put, addBlk, getB, ldn, rowNeed, nsub, shed, Seg.size, sizes, appL, argsOf, ptrsOf, cut, takeS, dropS, Nat.reduceAdd])); (repeat (first | (refine And.intro ?_ ?_; · decide) | ((first | (refine call_t _ (con88 _ _ _ _ (by decide) (by decide) _) ?_; rintro v H' ⟨rfl, rfl⟩) | refine call_q _ (con88 _ _ _ _ (by decide) (by decide) _) ?_ | refine call_g _ (imp_of (con88 _ _ _ _ (by decide) (by decide) _)) ?_ | (refine call_t _ (con89 _ _ _ _) ?_; rintro v H' ⟨rfl, rfl⟩) | refine call_q _ (con89 _ _ _ _) ?_ | refine call_g _ (imp_of (con89 _ _ _ _)) ?_ | (refine call_t _ (con54 _ i _) ?_; rintro v H' ⟨rfl, rfl⟩) | refine call_q _ (con54 _ i _) ?_ | refine call_g _ (imp_of (con54 _ i _)) ?_ | (refine call_t _ (con93 i _) ?_; rintro v H' ⟨rfl, rfl⟩) | refine call_q _ (con93 i _) ?_ | refine call_g _ (imp_of (con93 i _)) ?_); simp (maxSteps := 10000000) only [rwp_nil, rwp_cons, rwpK_app, aop, gpath, St.get, slotAt, sfx, eqP, St.put, addBlk, getB, ld1, rowNeed, segAt, nsub, bin, isShift, shiftR, shed, addN, Seg.size, imp, appL, argsOf, ptrsOf, Nat.reduceAdd, Int.reduceToNat]))); with_reducible refine hK _ ?_; clear hK K) | refine run_ret ?_ | refine run_nil ?_)
  exact end_tmp1 rfl ⟨rfl, rfl⟩ rfl ⟨rfl, rfl⟩
def putBS (w : Int) (i : InsnS) : Int := layS (flagS w i.link 2147483648) (shrS i.imm 2) 0 26
theorem con40 (w : Int) (i : InsnS) (H : Heap) : Con Tryz.prog 40 [.c (.int .u32 w), .agg (insnL i)] H (fun v H' => v = .c (.int .u32 (putBS w i)) ∧ H' = H) := by
  refine Con.pure ?_ (by simp only [leArgs, leV, leV1, insnL, leSegs, leSeg, leC, and_self]) rfl H
  (refine con_of_run mixed (fn := Tryz.f40) (by kernel_rfl) (by kernel_rfl) C40_ok (rs := [.tmp 4]) (by kernel_rfl) (Nat.le_of_ble_eq_true (by kernel_rfl)) ?_; unfold C40; simp only [initT, Nat.reduceAdd])
  repeat' (first | refine run_seq ?_ | (refine run_region fun K hK => ?_; (try (simp (maxSteps := 10000000) only [insnL, C40r0, C40r1, rwp_nil, rwp_cons, aop, gpath, St.get, slotAt, sfx, eqP, segsOf, St.put, addBlk, getB, ld1, rowNeed, segAt, nsub, shed, addN, Seg.size, sizes, appL, argsOf, ptrsOf, Nat.reduceAdd])); (repeat (first | (refine And.intro ?_ ?_; · decide) | ((first | (refine call_t _ (con88 _ _ _ _ (by decide) (by decide) _) ?_; rintro v H' ⟨rfl, rfl⟩) | refine call_q _ (con88 _ _ _ _ (by decide) (by decide) _) ?_ | refine call_g _ (imp_of (con88 _ _ _ _ (by decide) (by decide) _)) ?_ | (refine call_t _ (con89 _ _ _ _) ?_; rintro v H' ⟨rfl, rfl⟩) | refine call_q _ (con89 _ _ _ _) ?_ | refine call_g _ (imp_of (con89 _ _ _ _)) ?_ | (refine call_t _ (con54 _ i _) ?_; rintro v H' ⟨rfl, rfl⟩) | refine call_q _ (con54 _ i _) ?_ | refine call_g _ (imp_of (con54 _ i _)) ?_ | (refine call_t _ (con93 i _) ?_; rintro v H' ⟨rfl, rfl⟩) | refine call_q _ (con93 i _) ?_ | refine call_g _ (imp_of (con93 i _)) ?_); simp (maxSteps := 10000000) only [rwp_nil, rwp_cons, rwpK_app, aop, gpath, St.get, slotAt, sfx, eqP, St.put, addBlk, getB, ld1, rowNeed, segAt, nsub, bin, isShift, shiftR, shed, addN, Seg.size, imp, appL, argsOf, ptrsOf, Nat.reduceAdd, Int.reduceToNat]))); with_reducible refine hK _ ?_; clear hK K) | refine run_ret ?_ | refine run_nil ?_)
  exact end_tmp1 rfl ⟨rfl, rfl⟩ rfl ⟨rfl, rfl⟩
def putBCondS (w : Int) (i : InsnS) : Int := layS (layS w i.cond 0 4) (shrS i.imm 2) 5 19
theorem con42 (w : Int) (i : InsnS) (H : Heap) : Con Tryz.prog 42 [.c (.int .u32 w), .agg (insnL i)] H (fun v H' => v = .c (.int .u32 (putBCondS w i)) ∧ H' = H) := by
  refine Con.pure ?_ (by simp only [leArgs, leV, leV1, insnL, leSegs, leSeg, leC, and_self]) rfl H
  (refine con_of_run mixed (fn := Tryz.f42) (by kernel_rfl) (by kernel_rfl) C42_ok (rs := [.tmp 4]) (by kernel_rfl) (Nat.le_of_ble_eq_true (by kernel_rfl)) ?_; unfold C42; simp only [initT, Nat.reduceAdd])
  repeat' (first | refine run_seq ?_ | (refine run_region fun K hK => ?_; (try (simp (maxSteps := 10000000) only [insnL, C42r0, C42r1, rwp_nil, rwp_cons, aop, gpath, St.get, slotAt, sfx, eqP, segsOf, St.put, addBlk, getB, ld1, rowNeed, segAt, nsub, shed, addN, Seg.size, sizes, appL, argsOf, ptrsOf, Nat.reduceAdd])); (repeat (first | (refine And.intro ?_ ?_; · decide) | ((first | (refine call_t _ (con88 _ _ _ _ (by decide) (by decide) _) ?_; rintro v H' ⟨rfl, rfl⟩) | refine call_q _ (con88 _ _ _ _ (by decide) (by decide) _) ?_ | refine call_g _ (imp_of (con88 _ _ _ _ (by decide) (by decide) _)) ?_ | (refine call_t _ (con89 _ _ _ _) ?_; rintro v H' ⟨rfl, rfl⟩) | refine call_q _ (con89 _ _ _ _) ?_ | refine call_g _ (imp_of (con89 _ _ _ _)) ?_ | (refine call_t _ (con54 _ i _) ?_; rintro v H' ⟨rfl, rfl⟩) | refine call_q _ (con54 _ i _) ?_ | refine call_g _ (imp_of (con54 _ i _)) ?_ | (refine call_t _ (con93 i _) ?_; rintro v H' ⟨rfl, rfl⟩) | refine call_q _ (con93 i _) ?_ | refine call_g _ (imp_of (con93 i _)) ?_); simp (maxSteps := 10000000) only [rwp_nil, rwp_cons, rwpK_app, aop, gpath, St.get, slotAt, sfx, eqP, St.put, addBlk, getB, ld1, rowNeed, segAt, nsub, bin, isShift, shiftR, shed, addN, Seg.size, imp, appL, argsOf, ptrsOf, Nat.reduceAdd, Int.reduceToNat]))); with_reducible refine hK _ ?_; clear hK K) | refine run_ret ?_ | refine run_nil ?_)
  exact end_tmp1 rfl ⟨rfl, rfl⟩ rfl ⟨rfl, rfl⟩
def putCbzS (w : Int) (i : InsnS) : Int := layS (flagS (layS w i.rd 0 5) i.not_ 16777216) (shrS i.imm 2) 5 19
theorem con44 (w : Int) (i : InsnS) (H : Heap) : Con Tryz.prog 44 [.c (.int .u32 w), .agg (insnL i)] H (fun v H' => v = .c (.int .u32 (putCbzS w i)) ∧ H' = H) := by
  refine Con.pure ?_ (by simp only [leArgs, leV, leV1, insnL, leSegs, leSeg, leC, and_self]) rfl H
  (refine con_of_run mixed (fn := Tryz.f44) (by kernel_rfl) (by kernel_rfl) C44_ok (rs := [.tmp 4]) (by kernel_rfl) (Nat.le_of_ble_eq_true (by kernel_rfl)) ?_; unfold C44; simp only [initT, Nat.reduceAdd])
  repeat' (first | refine run_seq ?_ | (refine run_region fun K hK => ?_; (try (simp (maxSteps := 10000000) only [insnL, C44r0, C44r1, rwp_nil, rwp_cons, aop, gpath, St.get, slotAt, sfx, eqP, segsOf, St.put, addBlk, getB, ld1, rowNeed, segAt, nsub, shed, addN, Seg.size, sizes, appL, argsOf, ptrsOf, Nat.reduceAdd])); (repeat (first | (refine And.intro ?_ ?_; · decide) | ((first | (refine call_t _ (con88 _ _ _ _ (by decide) (by decide) _) ?_; rintro v H' ⟨rfl, rfl⟩) | refine call_q _ (con88 _ _ _ _ (by decide) (by decide) _) ?_ | refine call_g _ (imp_of (con88 _ _ _ _ (by decide) (by decide) _)) ?_ | (refine call_t _ (con89 _ _ _ _) ?_; rintro v H' ⟨rfl, rfl⟩) | refine call_q _ (con89 _ _ _ _) ?_ | refine call_g _ (imp_of (con89 _ _ _ _)) ?_ | (refine call_t _ (con54 _ i _) ?_; rintro v H' ⟨rfl, rfl⟩) | refine call_q _ (con54 _ i _) ?_ | refine call_g _ (imp_of (con54 _ i _)) ?_ | (refine call_t _ (con93 i _) ?_; rintro v H' ⟨rfl, rfl⟩) | refine call_q _ (con93 i _) ?_ | refine call_g _ (imp_of (con93 i _)) ?_); simp (maxSteps := 10000000) only [rwp_nil, rwp_cons, rwpK_app, aop, gpath, St.get, slotAt, sfx, eqP, St.put, addBlk, getB, ld1, rowNeed, segAt, nsub, bin, isShift, shiftR, shed, addN, Seg.size, imp, appL, argsOf, ptrsOf, Nat.reduceAdd, Int.reduceToNat]))); with_reducible refine hK _ ?_; clear hK K) | refine run_ret ?_ | refine run_nil ?_)
  exact end_tmp1 rfl ⟨rfl, rfl⟩ rfl ⟨rfl, rfl⟩
def putTbzS (w : Int) (i : InsnS) : Int := layS (layS (layS (flagS (layS w i.rd 0 5) i.not_ 16777216) (shrS i.amount 5) 31 1) i.amount 19 5) (shrS i.imm 2) 5 14
theorem con46 (w : Int) (i : InsnS) (H : Heap) : Con Tryz.prog 46 [.c (.int .u32 w), .agg (insnL i)] H (fun v H' => v = .c (.int .u32 (putTbzS w i)) ∧ H' = H) := by
  refine Con.pure ?_ (by simp only [leArgs, leV, leV1, insnL, leSegs, leSeg, leC, and_self]) rfl H
  (refine con_of_run mixed (fn := Tryz.f46) (by kernel_rfl) (by kernel_rfl) C46_ok (rs := [.tmp 4]) (by kernel_rfl) (Nat.le_of_ble_eq_true (by kernel_rfl)) ?_; unfold C46; simp only [initT, Nat.reduceAdd])
  repeat' (first | refine run_seq ?_ | (refine run_region fun K hK => ?_; (try (simp (maxSteps := 10000000) only [insnL, C46r0, C46r1, rwp_nil, rwp_cons, aop, gpath, St.get, slotAt, sfx, eqP, segsOf, St.put, addBlk, getB, ld1, rowNeed, segAt, nsub, shed, addN, Seg.size, sizes, appL, argsOf, ptrsOf, Nat.reduceAdd])); (repeat (first | (refine And.intro ?_ ?_; · decide) | ((first | (refine call_t _ (con88 _ _ _ _ (by decide) (by decide) _) ?_; rintro v H' ⟨rfl, rfl⟩) | refine call_q _ (con88 _ _ _ _ (by decide) (by decide) _) ?_ | refine call_g _ (imp_of (con88 _ _ _ _ (by decide) (by decide) _)) ?_ | (refine call_t _ (con89 _ _ _ _) ?_; rintro v H' ⟨rfl, rfl⟩) | refine call_q _ (con89 _ _ _ _) ?_ | refine call_g _ (imp_of (con89 _ _ _ _)) ?_ | (refine call_t _ (con54 _ i _) ?_; rintro v H' ⟨rfl, rfl⟩) | refine call_q _ (con54 _ i _) ?_ | refine call_g _ (imp_of (con54 _ i _)) ?_ | (refine call_t _ (con93 i _) ?_; rintro v H' ⟨rfl, rfl⟩) | refine call_q _ (con93 i _) ?_ | refine call_g _ (imp_of (con93 i _)) ?_); simp (maxSteps := 10000000) only [rwp_nil, rwp_cons, rwpK_app, aop, gpath, St.get, slotAt, sfx, eqP, St.put, addBlk, getB, ld1, rowNeed, segAt, nsub, bin, isShift, shiftR, shed, addN, Seg.size, imp, appL, argsOf, ptrsOf, Nat.reduceAdd, Int.reduceToNat]))); with_reducible refine hK _ ?_; clear hK K) | refine run_ret ?_ | refine run_nil ?_)
  exact end_tmp1 rfl ⟨rfl, rfl⟩ rfl ⟨rfl, rfl⟩
def putBrS (w : Int) (i : InsnS) : Int := layS (layS w i.rn 5 5) i.sub 21 2
theorem con48 (w : Int) (i : InsnS) (H : Heap) : Con Tryz.prog 48 [.c (.int .u32 w), .agg (insnL i)] H (fun v H' => v = .c (.int .u32 (putBrS w i)) ∧ H' = H) := by
  refine Con.pure ?_ (by simp only [leArgs, leV, leV1, insnL, leSegs, leSeg, leC, and_self]) rfl H
  (refine con_of_run mixed (fn := Tryz.f48) (by kernel_rfl) (by kernel_rfl) C48_ok (rs := [.tmp 4]) (by kernel_rfl) (Nat.le_of_ble_eq_true (by kernel_rfl)) ?_; unfold C48; simp only [initT, Nat.reduceAdd])
  repeat' (first | refine run_seq ?_ | (refine run_region fun K hK => ?_; (try (simp (maxSteps := 10000000) only [insnL, C48r0, C48r1, rwp_nil, rwp_cons, aop, gpath, St.get, slotAt, sfx, eqP, segsOf, St.put, addBlk, getB, ld1, rowNeed, segAt, nsub, shed, addN, Seg.size, sizes, appL, argsOf, ptrsOf, Nat.reduceAdd])); (repeat (first | (refine And.intro ?_ ?_; · decide) | ((first | (refine call_t _ (con88 _ _ _ _ (by decide) (by decide) _) ?_; rintro v H' ⟨rfl, rfl⟩) | refine call_q _ (con88 _ _ _ _ (by decide) (by decide) _) ?_ | refine call_g _ (imp_of (con88 _ _ _ _ (by decide) (by decide) _)) ?_ | (refine call_t _ (con89 _ _ _ _) ?_; rintro v H' ⟨rfl, rfl⟩) | refine call_q _ (con89 _ _ _ _) ?_ | refine call_g _ (imp_of (con89 _ _ _ _)) ?_ | (refine call_t _ (con54 _ i _) ?_; rintro v H' ⟨rfl, rfl⟩) | refine call_q _ (con54 _ i _) ?_ | refine call_g _ (imp_of (con54 _ i _)) ?_ | (refine call_t _ (con93 i _) ?_; rintro v H' ⟨rfl, rfl⟩) | refine call_q _ (con93 i _) ?_ | refine call_g _ (imp_of (con93 i _)) ?_); simp (maxSteps := 10000000) only [rwp_nil, rwp_cons, rwpK_app, aop, gpath, St.get, slotAt, sfx, eqP, St.put, addBlk, getB, ld1, rowNeed, segAt, nsub, shed, addN, Seg.size, appL, argsOf, ptrsOf, Nat.reduceAdd]))); with_reducible refine hK _ ?_; clear hK K) | refine run_ret ?_ | refine run_nil ?_)
  exact end_tmp1 rfl ⟨rfl, rfl⟩ rfl ⟨rfl, rfl⟩
def putAccessS (w : Int) (i : InsnS) : Int := layS (regsS w i) (quoS i.imm 8) 10 12
theorem con50 (w : Int) (i : InsnS) (H : Heap) : Con Tryz.prog 50 [.c (.int .u32 w), .agg (insnL i)] H (fun v H' => v = .c (.int .u32 (putAccessS w i)) ∧ H' = H) := by
  refine Con.pure ?_ (by simp only [leArgs, leV, leV1, insnL, leSegs, leSeg, leC, and_self]) rfl H
  (refine con_of_run mixed (fn := Tryz.f50) (by kernel_rfl) (by kernel_rfl) C50_ok (rs := [.tmp 4]) (by kernel_rfl) (Nat.le_of_ble_eq_true (by kernel_rfl)) ?_; unfold C50; simp only [initT, Nat.reduceAdd])
  repeat' (first | refine run_seq ?_ | (refine run_region fun K hK => ?_; (try (simp (maxSteps := 10000000) only [insnL, C50r0, C50r1, rwp_nil, rwp_cons, aop, gpath, St.get, slotAt, sfx, eqP, segsOf, St.put, addBlk, getB, ldn, rowNeed, nsub, shed, Seg.size, sizes, appL, argsOf, ptrsOf, cut, takeS, dropS, Nat.reduceAdd])); (repeat (first | (refine And.intro ?_ ?_; · decide) | ((first | (refine call_t _ (con88 _ _ _ _ (by decide) (by decide) _) ?_; rintro v H' ⟨rfl, rfl⟩) | refine call_q _ (con88 _ _ _ _ (by decide) (by decide) _) ?_ | refine call_g _ (imp_of (con88 _ _ _ _ (by decide) (by decide) _)) ?_ | (refine call_t _ (con89 _ _ _ _) ?_; rintro v H' ⟨rfl, rfl⟩) | refine call_q _ (con89 _ _ _ _) ?_ | refine call_g _ (imp_of (con89 _ _ _ _)) ?_ | (refine call_t _ (con54 _ i _) ?_; rintro v H' ⟨rfl, rfl⟩) | refine call_q _ (con54 _ i _) ?_ | refine call_g _ (imp_of (con54 _ i _)) ?_ | (refine call_t _ (con93 i _) ?_; rintro v H' ⟨rfl, rfl⟩) | refine call_q _ (con93 i _) ?_ | refine call_g _ (imp_of (con93 i _)) ?_); simp (maxSteps := 10000000) only [ne_eq, rwp_nil, rwp_cons, rwpK_app, aop, gpath, St.get, slotAt, sfx, eqP, St.put, addBlk, getB, ld1, rowNeed, segAt, nsub, bin, isShift, sameK, arith, shed, addN, Seg.size, imp, appL, argsOf, ptrsOf, Nat.reduceAdd]))); with_reducible refine hK _ ?_; clear hK K) | refine run_ret ?_ | refine run_nil ?_)
  exact end_tmp1 rfl ⟨rfl, rfl⟩ rfl ⟨rfl, rfl⟩
def putAccessRegS (w : Int) (i : InsnS) : Int := layS (regsS w i) (quoS i.amount 3) 12 1
theorem con52 (w : Int) (i : InsnS) (H : Heap) : Con Tryz.prog 52 [.c (.int .u32 w), .agg (insnL i)] H (fun v H' => v = .c (.int .u32 (putAccessRegS w i)) ∧ H' = H) := by
  refine Con.pure ?_ (by simp only [leArgs, leV, leV1, insnL, leSegs, leSeg, leC, and_self]) rfl H
  (refine con_of_run mixed (fn := Tryz.f52) (by kernel_rfl) (by kernel_rfl) C52_ok (rs := [.tmp 4]) (by kernel_rfl) (Nat.le_of_ble_eq_true (by kernel_rfl)) ?_; unfold C52; simp only [initT, Nat.reduceAdd])
  repeat' (first | refine run_seq ?_ | (refine run_region fun K hK => ?_; (try (simp (maxSteps := 10000000) only [insnL, C52r0, C52r1, rwp_nil, rwp_cons, aop, gpath, St.get, slotAt, sfx, eqP, segsOf, St.put, addBlk, getB, ldn, rowNeed, nsub, shed, Seg.size, sizes, appL, argsOf, ptrsOf, cut, takeS, dropS, Nat.reduceAdd])); (repeat (first | (refine And.intro ?_ ?_; · decide) | ((first | (refine call_t _ (con88 _ _ _ _ (by decide) (by decide) _) ?_; rintro v H' ⟨rfl, rfl⟩) | refine call_q _ (con88 _ _ _ _ (by decide) (by decide) _) ?_ | refine call_g _ (imp_of (con88 _ _ _ _ (by decide) (by decide) _)) ?_ | (refine call_t _ (con89 _ _ _ _) ?_; rintro v H' ⟨rfl, rfl⟩) | refine call_q _ (con89 _ _ _ _) ?_ | refine call_g _ (imp_of (con89 _ _ _ _)) ?_ | (refine call_t _ (con54 _ i _) ?_; rintro v H' ⟨rfl, rfl⟩) | refine call_q _ (con54 _ i _) ?_ | refine call_g _ (imp_of (con54 _ i _)) ?_ | (refine call_t _ (con93 i _) ?_; rintro v H' ⟨rfl, rfl⟩) | refine call_q _ (con93 i _) ?_ | refine call_g _ (imp_of (con93 i _)) ?_); simp (maxSteps := 10000000) only [ne_eq, rwp_nil, rwp_cons, rwpK_app, aop, gpath, St.get, slotAt, sfx, eqP, St.put, addBlk, getB, ld1, rowNeed, segAt, nsub, bin, isShift, sameK, arith, shed, addN, Seg.size, imp, appL, argsOf, ptrsOf, Nat.reduceAdd]))); with_reducible refine hK _ ?_; clear hK K) | refine run_ret ?_ | refine run_nil ?_)
  exact end_tmp1 rfl ⟨rfl, rfl⟩ rfl ⟨rfl, rfl⟩
def putExclusiveS (w : Int) (i : InsnS) : Int := layS (regsS w i) i.sub 15 1
theorem con56 (w : Int) (i : InsnS) (H : Heap) : Con Tryz.prog 56 [.c (.int .u32 w), .agg (insnL i)] H (fun v H' => v = .c (.int .u32 (putExclusiveS w i)) ∧ H' = H) := by
  refine Con.pure ?_ (by simp only [leArgs, leV, leV1, insnL, leSegs, leSeg, leC, and_self]) rfl H
  (refine con_of_run mixed (fn := Tryz.f56) (by kernel_rfl) (by kernel_rfl) C56_ok (rs := [.tmp 4]) (by kernel_rfl) (Nat.le_of_ble_eq_true (by kernel_rfl)) ?_; unfold C56; simp only [initT, Nat.reduceAdd])
  repeat' (first | refine run_seq ?_ | (refine run_region fun K hK => ?_; (try (simp (maxSteps := 10000000) only [insnL, C56r0, C56r1, rwp_nil, rwp_cons, aop, gpath, St.get, slotAt, sfx, eqP, segsOf, St.put, addBlk, getB, ldn, rowNeed, nsub, shed, Seg.size, sizes, appL, argsOf, ptrsOf, cut, takeS, dropS, Nat.reduceAdd])); (repeat (first | (refine And.intro ?_ ?_; · decide) | ((first | (refine call_t _ (con88 _ _ _ _ (by decide) (by decide) _) ?_; rintro v H' ⟨rfl, rfl⟩) | refine call_q _ (con88 _ _ _ _ (by decide) (by decide) _) ?_ | refine call_g _ (imp_of (con88 _ _ _ _ (by decide) (by decide) _)) ?_ | (refine call_t _ (con89 _ _ _ _) ?_; rintro v H' ⟨rfl, rfl⟩) | refine call_q _ (con89 _ _ _ _) ?_ | refine call_g _ (imp_of (con89 _ _ _ _)) ?_ | (refine call_t _ (con54 _ i _) ?_; rintro v H' ⟨rfl, rfl⟩) | refine call_q _ (con54 _ i _) ?_ | refine call_g _ (imp_of (con54 _ i _)) ?_ | (refine call_t _ (con93 i _) ?_; rintro v H' ⟨rfl, rfl⟩) | refine call_q _ (con93 i _) ?_ | refine call_g _ (imp_of (con93 i _)) ?_); simp (maxSteps := 10000000) only [rwp_nil, rwp_cons, rwpK_app, aop, gpath, St.get, slotAt, sfx, eqP, St.put, addBlk, getB, ld1, rowNeed, segAt, nsub, shed, addN, Seg.size, appL, argsOf, ptrsOf, Nat.reduceAdd]))); with_reducible refine hK _ ?_; clear hK K) | refine run_ret ?_ | refine run_nil ?_)
  exact end_tmp1 rfl ⟨rfl, rfl⟩ rfl ⟨rfl, rfl⟩
def putSystemS (w : Int) (i : InsnS) : Int := layS (layS w i.rd 0 5) i.sys 5 15
theorem con62 (w : Int) (i : InsnS) (H : Heap) : Con Tryz.prog 62 [.c (.int .u32 w), .agg (insnL i)] H (fun v H' => v = .c (.int .u32 (putSystemS w i)) ∧ H' = H) := by
  refine Con.pure ?_ (by simp only [leArgs, leV, leV1, insnL, leSegs, leSeg, leC, and_self]) rfl H
  (refine con_of_run mixed (fn := Tryz.f62) (by kernel_rfl) (by kernel_rfl) C62_ok (rs := [.tmp 4]) (by kernel_rfl) (Nat.le_of_ble_eq_true (by kernel_rfl)) ?_; unfold C62; simp only [initT, Nat.reduceAdd])
  repeat' (first | refine run_seq ?_ | (refine run_region fun K hK => ?_; (try (simp (maxSteps := 10000000) only [insnL, C62r0, C62r1, rwp_nil, rwp_cons, aop, gpath, St.get, slotAt, sfx, eqP, segsOf, St.put, addBlk, getB, ld1, rowNeed, segAt, nsub, shed, addN, Seg.size, sizes, appL, argsOf, ptrsOf, Nat.reduceAdd])); (repeat (first | (refine And.intro ?_ ?_; · decide) | ((first | (refine call_t _ (con88 _ _ _ _ (by decide) (by decide) _) ?_; rintro v H' ⟨rfl, rfl⟩) | refine call_q _ (con88 _ _ _ _ (by decide) (by decide) _) ?_ | refine call_g _ (imp_of (con88 _ _ _ _ (by decide) (by decide) _)) ?_ | (refine call_t _ (con89 _ _ _ _) ?_; rintro v H' ⟨rfl, rfl⟩) | refine call_q _ (con89 _ _ _ _) ?_ | refine call_g _ (imp_of (con89 _ _ _ _)) ?_ | (refine call_t _ (con54 _ i _) ?_; rintro v H' ⟨rfl, rfl⟩) | refine call_q _ (con54 _ i _) ?_ | refine call_g _ (imp_of (con54 _ i _)) ?_ | (refine call_t _ (con93 i _) ?_; rintro v H' ⟨rfl, rfl⟩) | refine call_q _ (con93 i _) ?_ | refine call_g _ (imp_of (con93 i _)) ?_); simp (maxSteps := 10000000) only [rwp_nil, rwp_cons, rwpK_app, aop, gpath, St.get, slotAt, sfx, eqP, St.put, addBlk, getB, ld1, rowNeed, segAt, nsub, shed, addN, Seg.size, appL, argsOf, ptrsOf, Nat.reduceAdd]))); with_reducible refine hK _ ?_; clear hK K) | refine run_ret ?_ | refine run_nil ?_)
  exact end_tmp1 rfl ⟨rfl, rfl⟩ rfl ⟨rfl, rfl⟩
def putAdrS (w : Int) (i : InsnS) : Int := let v := if i.sub = 1 then quoS i.imm 4096 else i.imm; layS (layS (layS (layS w i.rd 0 5) i.sub 31 1) v 29 2) (shrS v 2) 5 19
theorem con38 (w : Int) (i : InsnS) (H : Heap) : Con Tryz.prog 38 [.c (.int .u32 w), .agg (insnL i)] H (fun v H' => v = .c (.int .u32 (putAdrS w i)) ∧ H' = H) := by
  refine Con.pure ?_ (by simp only [leArgs, leV, leV1, insnL, leSegs, leSeg, leC, and_self]) rfl H
  (refine con_of_run mixed (fn := Tryz.f38) (by kernel_rfl) (by kernel_rfl) C38_ok (rs := [.tmp 4]) (by kernel_rfl) (Nat.le_of_ble_eq_true (by kernel_rfl)) ?_; unfold C38; simp only [initT, Nat.reduceAdd])
  repeat' (first | refine run_seq ?_ | refine run_skip ?_ | (refine run_region fun K hK => ?_; (try (simp (maxSteps := 10000000) only [insnL, ne_eq, C38r0, C38r1, C38r2, C38r3, C38r4, rwp_nil, rwp_cons, aop, gpath, St.get, slotAt, sfx, eqP, segsOf, St.put, addBlk, getB, ld1, rowNeed, segAt, nsub, bin, isShift, sameK, arith, shed, addN, Seg.size, sizes, imp, appL, argsOf, ptrsOf, Nat.reduceAdd])); (repeat (first | (refine And.intro ?_ ?_; · decide) | ((first | (refine call_t _ (con88 _ _ _ _ (by decide) (by decide) _) ?_; rintro v H' ⟨rfl, rfl⟩) | refine call_q _ (con88 _ _ _ _ (by decide) (by decide) _) ?_ | refine call_g _ (imp_of (con88 _ _ _ _ (by decide) (by decide) _)) ?_); simp (maxSteps := 10000000) only [rwp_nil, rwp_cons, rwpK_app, aop, gpath, St.get, slotAt, sfx, eqP, St.put, addBlk, getB, ld1, rowNeed, segAt, nsub, bin, isShift, shiftR, shed, addN, Seg.size, imp, appL, argsOf, ptrsOf, Nat.reduceAdd, Int.reduceToNat]))); with_reducible refine hK _ ?_; clear hK K) | (refine run_cond rfl (fun hc => ?_) (fun hc => ?_) <;> try (simp only [*, Bool.true_eq_false, Bool.false_eq_true, Bool.not_true, Bool.not_false, Bool.true_or, Bool.or_true, Bool.false_or, Bool.or_false, Bool.false_and, Bool.and_false, bne_self_eq_false, beq_self_eq_true] at hc; done)) | refine run_ret ?_ | refine run_nil ?_)
  · have h : i.sub = 1 := by simpa using hc
    exact end_tmp1 rfl ⟨rfl, rfl⟩ rfl ⟨by simp only [putAdrS, h, if_true]; rfl, rfl⟩
  · have h : ¬ i.sub = 1 := by simpa using hc
    exact end_tmp1 rfl ⟨rfl, rfl⟩ rfl ⟨by simp only [putAdrS, h, if_false]; rfl, rfl⟩
def addImmS (w : Int) : InsnS := { insnS w 1 with rm := 0, imm := bitsS w 10 12, amount := mulS 12 (bitsS w 22 1), flags := hasS w 536870912, minus := hasS w 1073741824 }
theorem con20 (w : Int) (H : Heap) : Con Tryz.prog 20 [.c (.int .u32 w)] H (fun v H' => v = .agg (insnL (addImmS w)) ∧ H' = H) := by
  refine Con.insn0 ?_ (by simp only [leArgs, leV, leV1, leC, and_self]) H
  (refine con_of_run mixed (fn := Tryz.f20) (by kernel_rfl) (by kernel_rfl) C20_ok (rs := [.cn 16 2]) (by kernel_rfl) (Nat.le_of_ble_eq_true (by kernel_rfl)) ?_; unfold C20; simp only [initT])
  repeat' (first | refine run_seq ?_ | (refine run_region fun K hK => ?_; (try (simp (maxSteps := 10000000) only [C20r0, C20r1, C20r2, C20r3, C20r4, rwp_nil, rwp_cons, aop, gpath, St.get, slotAt, sfx, eqP, St.put, addBlk, getB, setB, ldn, stn, setRow, rowNeed, nsub, shed, Nat.beq, Seg.size, sizes, appL, argsOf, ptrsOf, cut, takeS, dropS, putS, exOk, Nat.reduceAdd, List.append_nil, List.nil_append])); (repeat (first | (refine And.intro ?_ ?_; · decide) | ((first | (refine call_t _ (con91 _ _ _ (by decide) (by decide) _) ?_; rintro v H' ⟨rfl, rfl⟩) | refine call_q _ (con91 _ _ _ (by decide) (by decide) _) ?_ | refine call_g _ (imp_of (con91 _ _ _ (by decide) (by decide) _)) ?_ | (refine call_t _ (con95 _ _ _ (by decide) (by decide) _) ?_; rintro v H' ⟨rfl, rfl⟩) | refine call_q _ (con95 _ _ _ (by decide) (by decide) _) ?_ | refine call_g _ (imp_of (con95 _ _ _ (by decide) (by decide) _)) ?_ | (refine call_t _ (con92 _ _ _) ?_; rintro v H' ⟨rfl, rfl⟩) | refine call_q _ (con92 _ _ _) ?_ | refine call_g _ (imp_of (con92 _ _ _)) ?_ | (refine call_t _ (con90 _ _ _) ?_; rintro v H' ⟨rfl, rfl⟩) | refine call_q _ (con90 _ _ _) ?_ | refine call_g _ (imp_of (con90 _ _ _)) ?_); simp (maxSteps := 10000000) only [insnL, rwp_nil, rwp_cons, rwpK_app, aop, gpath, St.get, slotAt, sfx, eqP, St.put, addBlk, getB, setB, st1, stn, setRow, rowNeed, segAt, nsub, bin, isShift, sameK, arith, shed, addN, Nat.beq, Seg.size, sizes, appL, argsOf, ptrsOf, takeS, dropS, putS, exOk, Nat.reduceAdd, List.append_nil, List.nil_append, List.cons_append]))); with_reducible refine hK _ ?_; clear hK K) | refine run_ret ?_ | refine run_nil ?_)
  exact end_insn0 (addImmS w) rfl rfl ⟨rfl, rfl⟩
def addRegS (w : Int) : InsnS := { insnS w 2 with shift := bitsS w 22 2, amount := bitsS w 10 6, flags := hasS w 536870912, minus := hasS w 1073741824 }
theorem con22 (w : Int) (H : Heap) : Con Tryz.prog 22 [.c (.int .u32 w)] H (fun v H' => v = .agg (insnL (addRegS w)) ∧ H' = H) := by
  refine Con.insn0 ?_ (by simp only [leArgs, leV, leV1, leC, and_self]) H
  (refine con_of_run mixed (fn := Tryz.f22) (by kernel_rfl) (by kernel_rfl) C22_ok (rs := [.cn 16 2]) (by kernel_rfl) (Nat.le_of_ble_eq_true (by kernel_rfl)) ?_; unfold C22; simp only [initT])
  repeat' (first | refine run_seq ?_ | (refine run_region fun K hK => ?_; (try (simp (maxSteps := 10000000) only [C22r0, C22r1, C22r2, C22r3, C22r4, rwp_nil, rwp_cons, aop, gpath, St.get, slotAt, sfx, eqP, St.put, addBlk, getB, setB, ldn, stn, setRow, rowNeed, nsub, shed, Nat.beq, Seg.size, sizes, appL, argsOf, ptrsOf, cut, takeS, dropS, putS, exOk, Nat.reduceAdd, List.append_nil, List.nil_append])); (repeat (first | (refine And.intro ?_ ?_; · decide) | ((first | (refine call_t _ (con91 _ _ _ (by decide) (by decide) _) ?_; rintro v H' ⟨rfl, rfl⟩) | refine call_q _ (con91 _ _ _ (by decide) (by decide) _) ?_ | refine call_g _ (imp_of (con91 _ _ _ (by decide) (by decide) _)) ?_ | (refine call_t _ (con95 _ _ _ (by decide) (by decide) _) ?_; rintro v H' ⟨rfl, rfl⟩) | refine call_q _ (con95 _ _ _ (by decide) (by decide) _) ?_ | refine call_g _ (imp_of (con95 _ _ _ (by decide) (by decide) _)) ?_ | (refine call_t _ (con92 _ _ _) ?_; rintro v H' ⟨rfl, rfl⟩) | refine call_q _ (con92 _ _ _) ?_ | refine call_g _ (imp_of (con92 _ _ _)) ?_ | (refine call_t _ (con90 _ _ _) ?_; rintro v H' ⟨rfl, rfl⟩) | refine call_q _ (con90 _ _ _) ?_ | refine call_g _ (imp_of (con90 _ _ _)) ?_); simp (maxSteps := 10000000) only [insnL, rwp_nil, rwp_cons, rwpK_app, aop, gpath, St.get, slotAt, sfx, eqP, St.put, addBlk, getB, setB, st1, stn, setRow, rowNeed, segAt, nsub, shed, addN, Nat.beq, Seg.size, sizes, appL, argsOf, ptrsOf, takeS, dropS, putS, exOk, Nat.reduceAdd, List.append_nil, List.nil_append, List.cons_append]))); with_reducible refine hK _ ?_; clear hK K) | refine run_ret ?_ | refine run_nil ?_)
  exact end_insn0 (addRegS w) rfl rfl ⟨rfl, rfl⟩
def logRegS (w : Int) : InsnS := { unlogS (insnS w 3) (bitsS w 29 2) with shift := bitsS w 22 2, amount := bitsS w 10 6, not_ := bitsS w 21 1 == 1 }
theorem con24 (w : Int) (H : Heap) : Con Tryz.prog 24 [.c (.int .u32 w)] H (fun v H' => v = .agg (insnL (logRegS w)) ∧ H' = H) := by
  refine Con.insn0 ?_ (by simp only [leArgs, leV, leV1, leC, and_self]) H
  (refine con_of_run mixed (fn := Tryz.f24) (by kernel_rfl) (by kernel_rfl) C24_ok (rs := [.cn 16 2]) (by kernel_rfl) (Nat.le_of_ble_eq_true (by kernel_rfl)) ?_; unfold C24; simp only [initT])
  repeat' (first | refine run_seq ?_ | (refine run_region fun K hK => ?_; (try (simp (maxSteps := 10000000) only [C24r0, C24r1, C24r2, C24r3, rwp_nil, rwp_cons, aop, gpath, St.get, slotAt, sfx, eqP, St.put, addBlk, getB, setB, ldn, stn, setRow, rowNeed, nsub, shed, Nat.beq, Seg.size, sizes, appL, argsOf, ptrsOf, cut, takeS, dropS, putS, exOk, Nat.reduceAdd, List.append_nil, List.nil_append])); (repeat (first | (refine And.intro ?_ ?_; · decide) | ((first | (refine call_t _ (con91 _ _ _ (by decide) (by decide) _) ?_; rintro v H' ⟨rfl, rfl⟩) | refine call_q _ (con91 _ _ _ (by decide) (by decide) _) ?_ | refine call_g _ (imp_of (con91 _ _ _ (by decide) (by decide) _)) ?_ | (refine call_t _ (con95 _ _ _ (by decide) (by decide) _) ?_; rintro v H' ⟨rfl, rfl⟩) | refine call_q _ (con95 _ _ _ (by decide) (by decide) _) ?_ | refine call_g _ (imp_of (con95 _ _ _ (by decide) (by decide) _)) ?_ | (refine call_t _ (con92 _ _ _) ?_; rintro v H' ⟨rfl, rfl⟩) | refine call_q _ (con92 _ _ _) ?_ | refine call_g _ (imp_of (con92 _ _ _)) ?_ | (refine call_t _ (con90 _ _ _) ?_; rintro v H' ⟨rfl, rfl⟩) | refine call_q _ (con90 _ _ _) ?_ | refine call_g _ (imp_of (con90 _ _ _)) ?_ | (refine call_t _ (con94 (insnS w 3) (bitsS w 29 2) _) ?_; rintro v H' ⟨rfl, rfl⟩) | refine call_q _ (con94 (insnS w 3) (bitsS w 29 2) _) ?_ | refine call_g _ (imp_of (con94 (insnS w 3) (bitsS w 29 2) _)) ?_); simp (maxSteps := 10000000) only [insnL, rwp_nil, rwp_cons, rwpK_app, aop, gpath, St.get, slotAt, sfx, eqP, St.put, addBlk, getB, setB, st1, stn, setRow, rowNeed, segAt, nsub, bin, isShift, sameK, arith, shed, addN, Nat.beq, Seg.size, sizes, appL, argsOf, ptrsOf, takeS, dropS, putS, exOk, Nat.reduceAdd, List.append_nil, List.nil_append, List.cons_append]))); with_reducible refine hK _ ?_; clear hK K) | refine run_ret ?_ | refine run_nil ?_)
  exact end_insn0 (logRegS w) rfl rfl ⟨rfl, rfl⟩
def logImmS (w : Int) : InsnS := { unlogS (insnS w 4) (bitsS w 29 2) with rm := 0, amount := bitsS w 22 1, imm := bitsS w 16 6, imm2 := bitsS w 10 6 }
theorem con26 (w : Int) (H : Heap) : Con Tryz.prog 26 [.c (.int .u32 w)] H (fun v H' => v = .agg (insnL (logImmS w)) ∧ H' = H) := by
  refine Con.insn0 ?_ (by simp only [leArgs, leV, leV1, leC, and_self]) H
  (refine con_of_run mixed (fn := Tryz.f26) (by kernel_rfl) (by kernel_rfl) C26_ok (rs := [.cn 16 2]) (by kernel_rfl) (Nat.le_of_ble_eq_true (by kernel_rfl)) ?_; unfold C26; simp only [initT])
  repeat' (first | refine run_seq ?_ | (refine run_region fun K hK => ?_; (try (simp (maxSteps := 10000000) only [C26r0, C26r1, C26r2, C26r3, rwp_nil, rwp_cons, aop, gpath, St.get, slotAt, sfx, eqP, St.put, addBlk, getB, setB, ldn, stn, setRow, rowNeed, nsub, shed, Nat.beq, Seg.size, sizes, appL, argsOf, ptrsOf, cut, takeS, dropS, putS, exOk, Nat.reduceAdd, List.append_nil, List.nil_append])); (repeat (first | (refine And.intro ?_ ?_; · decide) | ((first | (refine call_t _ (con91 _ _ _ (by decide) (by decide) _) ?_; rintro v H' ⟨rfl, rfl⟩) | refine call_q _ (con91 _ _ _ (by decide) (by decide) _) ?_ | refine call_g _ (imp_of (con91 _ _ _ (by decide) (by decide) _)) ?_ | (refine call_t _ (con95 _ _ _ (by decide) (by decide) _) ?_; rintro v H' ⟨rfl, rfl⟩) | refine call_q _ (con95 _ _ _ (by decide) (by decide) _) ?_ | refine call_g _ (imp_of (con95 _ _ _ (by decide) (by decide) _)) ?_ | (refine call_t _ (con92 _ _ _) ?_; rintro v H' ⟨rfl, rfl⟩) | refine call_q _ (con92 _ _ _) ?_ | refine call_g _ (imp_of (con92 _ _ _)) ?_ | (refine call_t _ (con90 _ _ _) ?_; rintro v H' ⟨rfl, rfl⟩) | refine call_q _ (con90 _ _ _) ?_ | refine call_g _ (imp_of (con90 _ _ _)) ?_ | (refine call_t _ (con94 (insnS w 4) (bitsS w 29 2) _) ?_; rintro v H' ⟨rfl, rfl⟩) | refine call_q _ (con94 (insnS w 4) (bitsS w 29 2) _) ?_ | refine call_g _ (imp_of (con94 (insnS w 4) (bitsS w 29 2) _)) ?_); simp (maxSteps := 10000000) only [insnL, rwp_nil, rwp_cons, rwpK_app, aop, gpath, St.get, slotAt, sfx, eqP, St.put, addBlk, getB, setB, st1, stn, setRow, rowNeed, segAt, nsub, shed, addN, Nat.beq, Seg.size, sizes, appL, argsOf, ptrsOf, takeS, dropS, putS, exOk, Nat.reduceAdd, List.append_nil, List.nil_append, List.cons_append]))); with_reducible refine hK _ ?_; clear hK K) | refine run_ret ?_ | refine run_nil ?_)
  exact end_insn0 (logImmS w) rfl rfl ⟨rfl, rfl⟩
def movWideS (w : Int) : InsnS := { nilI with op := 5, rd := bitsS w 0 5, sub := bitsS w 29 2, imm := bitsS w 5 16, amount := mulS 16 (bitsS w 21 2) }
theorem con28 (w : Int) (H : Heap) : Con Tryz.prog 28 [.c (.int .u32 w)] H (fun v H' => v = .agg (insnL (movWideS w)) ∧ H' = H) := by
  refine Con.insn0 ?_ (by simp only [leArgs, leV, leV1, leC, and_self]) H
  (refine con_of_run mixed (fn := Tryz.f28) (by kernel_rfl) (by kernel_rfl) C28_ok (rs := [.cn 16 2]) (by kernel_rfl) (Nat.le_of_ble_eq_true (by kernel_rfl)) ?_; unfold C28; simp only [initT])
  repeat' (first | refine run_seq ?_ | (refine run_region fun K hK => ?_; (try (simp (maxSteps := 10000000) only [C28r0, C28r1, rwp_nil, rwp_cons, aop, gpath, St.get, slotAt, sfx, eqP, St.put, addBlk, shed, Seg.size, sizes, appL, argsOf, ptrsOf, Nat.reduceAdd])); (repeat (first | (refine And.intro ?_ ?_; · decide) | ((first | (refine call_t _ (con91 _ _ _ (by decide) (by decide) _) ?_; rintro v H' ⟨rfl, rfl⟩) | refine call_q _ (con91 _ _ _ (by decide) (by decide) _) ?_ | refine call_g _ (imp_of (con91 _ _ _ (by decide) (by decide) _)) ?_ | (refine call_t _ (con95 _ _ _ (by decide) (by decide) _) ?_; rintro v H' ⟨rfl, rfl⟩) | refine call_q _ (con95 _ _ _ (by decide) (by decide) _) ?_ | refine call_g _ (imp_of (con95 _ _ _ (by decide) (by decide) _)) ?_ | (refine call_t _ (con92 _ _ _) ?_; rintro v H' ⟨rfl, rfl⟩) | refine call_q _ (con92 _ _ _) ?_ | refine call_g _ (imp_of (con92 _ _ _)) ?_ | (refine call_t _ (con90 _ _ _) ?_; rintro v H' ⟨rfl, rfl⟩) | refine call_q _ (con90 _ _ _) ?_ | refine call_g _ (imp_of (con90 _ _ _)) ?_); simp (maxSteps := 10000000) only [rwp_nil, rwp_cons, rwpK_app, aop, gpath, St.get, slotAt, sfx, eqP, segsOf, St.put, addBlk, getB, setB, stn, setRow, rowNeed, nsub, bin, isShift, sameK, arith, shed, Nat.beq, Seg.size, sizes, appL, argsOf, ptrsOf, takeS, dropS, putS, partsOf, fillS, exOk, Nat.reduceAdd, List.append_nil, List.nil_append, List.cons_append]))); with_reducible refine hK _ ?_; clear hK K) | refine run_ret ?_ | refine run_nil ?_)
  exact end_insn0 (movWideS w) rfl rfl ⟨rfl, rfl⟩
def bitfieldS (w : Int) : InsnS := { nilI with op := 6, rd := bitsS w 0 5, rn := bitsS w 5 5, sub := bitsS w 29 2, imm := bitsS w 16 6, imm2 := bitsS w 10 6 }
theorem con30 (w : Int) (H : Heap) : Con Tryz.prog 30 [.c (.int .u32 w)] H (fun v H' => v = .agg (insnL (bitfieldS w)) ∧ H' = H) := by
  refine Con.insn0 ?_ (by simp only [leArgs, leV, leV1, leC, and_self]) H
  (refine con_of_run mixed (fn := Tryz.f30) (by kernel_rfl) (by kernel_rfl) C30_ok (rs := [.cn 16 2]) (by kernel_rfl) (Nat.le_of_ble_eq_true (by kernel_rfl)) ?_; unfold C30; simp only [initT])
  repeat' (first | refine run_seq ?_ | (refine run_region fun K hK => ?_; (try (simp (maxSteps := 10000000) only [C30r0, C30r1, rwp_nil, rwp_cons, aop, gpath, St.get, slotAt, sfx, eqP, St.put, addBlk, shed, Seg.size, sizes, appL, argsOf, ptrsOf, Nat.reduceAdd])); (repeat (first | (refine And.intro ?_ ?_; · decide) | ((first | (refine call_t _ (con91 _ _ _ (by decide) (by decide) _) ?_; rintro v H' ⟨rfl, rfl⟩) | refine call_q _ (con91 _ _ _ (by decide) (by decide) _) ?_ | refine call_g _ (imp_of (con91 _ _ _ (by decide) (by decide) _)) ?_ | (refine call_t _ (con95 _ _ _ (by decide) (by decide) _) ?_; rintro v H' ⟨rfl, rfl⟩) | refine call_q _ (con95 _ _ _ (by decide) (by decide) _) ?_ | refine call_g _ (imp_of (con95 _ _ _ (by decide) (by decide) _)) ?_ | (refine call_t _ (con92 _ _ _) ?_; rintro v H' ⟨rfl, rfl⟩) | refine call_q _ (con92 _ _ _) ?_ | refine call_g _ (imp_of (con92 _ _ _)) ?_ | (refine call_t _ (con90 _ _ _) ?_; rintro v H' ⟨rfl, rfl⟩) | refine call_q _ (con90 _ _ _) ?_ | refine call_g _ (imp_of (con90 _ _ _)) ?_); simp (maxSteps := 10000000) only [rwp_nil, rwp_cons, rwpK_app, aop, gpath, St.get, slotAt, sfx, eqP, segsOf, St.put, addBlk, getB, setB, stn, setRow, rowNeed, nsub, shed, Nat.beq, Seg.size, sizes, appL, argsOf, ptrsOf, takeS, dropS, putS, partsOf, fillS, exOk, Nat.reduceAdd, List.append_nil, List.nil_append, List.cons_append]))); with_reducible refine hK _ ?_; clear hK K) | refine run_ret ?_ | refine run_nil ?_)
  exact end_insn0 (bitfieldS w) rfl rfl ⟨rfl, rfl⟩
def shiftRegS (w : Int) : InsnS := { insnS w 7 with sub := bitsS w 10 2 }
theorem con32 (w : Int) (H : Heap) : Con Tryz.prog 32 [.c (.int .u32 w)] H (fun v H' => v = .agg (insnL (shiftRegS w)) ∧ H' = H) := by
  refine Con.insn0 ?_ (by simp only [leArgs, leV, leV1, leC, and_self]) H
  (refine con_of_run mixed (fn := Tryz.f32) (by kernel_rfl) (by kernel_rfl) C32_ok (rs := [.cn 16 2]) (by kernel_rfl) (Nat.le_of_ble_eq_true (by kernel_rfl)) ?_; unfold C32; simp only [initT])
  repeat' (first | refine run_seq ?_ | (refine run_region fun K hK => ?_; (try (simp (maxSteps := 10000000) only [C32r0, C32r1, C32r2, C32r3, rwp_nil, rwp_cons, aop, gpath, St.get, slotAt, sfx, eqP, St.put, addBlk, getB, setB, ldn, stn, setRow, rowNeed, nsub, shed, Nat.beq, Seg.size, sizes, appL, argsOf, ptrsOf, cut, takeS, dropS, putS, exOk, Nat.reduceAdd, List.append_nil, List.nil_append])); (repeat (first | (refine And.intro ?_ ?_; · decide) | ((first | (refine call_t _ (con91 _ _ _ (by decide) (by decide) _) ?_; rintro v H' ⟨rfl, rfl⟩) | refine call_q _ (con91 _ _ _ (by decide) (by decide) _) ?_ | refine call_g _ (imp_of (con91 _ _ _ (by decide) (by decide) _)) ?_ | (refine call_t _ (con95 _ _ _ (by decide) (by decide) _) ?_; rintro v H' ⟨rfl, rfl⟩) | refine call_q _ (con95 _ _ _ (by decide) (by decide) _) ?_ | refine call_g _ (imp_of (con95 _ _ _ (by decide) (by decide) _)) ?_ | (refine call_t _ (con92 _ _ _) ?_; rintro v H' ⟨rfl, rfl⟩) | refine call_q _ (con92 _ _ _) ?_ | refine call_g _ (imp_of (con92 _ _ _)) ?_ | (refine call_t _ (con90 _ _ _) ?_; rintro v H' ⟨rfl, rfl⟩) | refine call_q _ (con90 _ _ _) ?_ | refine call_g _ (imp_of (con90 _ _ _)) ?_); simp (maxSteps := 10000000) only [insnL, rwp_nil, rwp_cons, rwpK_app, aop, gpath, St.get, slotAt, sfx, eqP, St.put, addBlk, getB, setB, st1, stn, setRow, rowNeed, segAt, nsub, shed, addN, Nat.beq, Seg.size, sizes, takeS, dropS, putS, exOk, Nat.reduceAdd, List.append_nil, List.nil_append, List.cons_append]))); with_reducible refine hK _ ?_; clear hK K) | refine run_ret ?_ | refine run_nil ?_)
  exact end_insn0 (shiftRegS w) rfl rfl ⟨rfl, rfl⟩
def mulIS (w : Int) : InsnS := { insnS w 8 with ra := bitsS w 10 5, minus := bitsS w 15 1 == 1 }
theorem con34 (w : Int) (H : Heap) : Con Tryz.prog 34 [.c (.int .u32 w)] H (fun v H' => v = .agg (insnL (mulIS w)) ∧ H' = H) := by
  refine Con.insn0 ?_ (by simp only [leArgs, leV, leV1, leC, and_self]) H
  (refine con_of_run mixed (fn := Tryz.f34) (by kernel_rfl) (by kernel_rfl) C34_ok (rs := [.cn 16 2]) (by kernel_rfl) (Nat.le_of_ble_eq_true (by kernel_rfl)) ?_; unfold C34; simp only [initT])
  repeat' (first | refine run_seq ?_ | (refine run_region fun K hK => ?_; (try (simp (maxSteps := 10000000) only [C34r0, C34r1, C34r2, C34r3, rwp_nil, rwp_cons, aop, gpath, St.get, slotAt, sfx, eqP, St.put, addBlk, getB, setB, ldn, stn, setRow, rowNeed, nsub, shed, Nat.beq, Seg.size, sizes, appL, argsOf, ptrsOf, cut, takeS, dropS, putS, exOk, Nat.reduceAdd, List.append_nil, List.nil_append])); (repeat (first | (refine And.intro ?_ ?_; · decide) | ((first | (refine call_t _ (con91 _ _ _ (by decide) (by decide) _) ?_; rintro v H' ⟨rfl, rfl⟩) | refine call_q _ (con91 _ _ _ (by decide) (by decide) _) ?_ | refine call_g _ (imp_of (con91 _ _ _ (by decide) (by decide) _)) ?_ | (refine call_t _ (con95 _ _ _ (by decide) (by decide) _) ?_; rintro v H' ⟨rfl, rfl⟩) | refine call_q _ (con95 _ _ _ (by decide) (by decide) _) ?_ | refine call_g _ (imp_of (con95 _ _ _ (by decide) (by decide) _)) ?_ | (refine call_t _ (con92 _ _ _) ?_; rintro v H' ⟨rfl, rfl⟩) | refine call_q _ (con92 _ _ _) ?_ | refine call_g _ (imp_of (con92 _ _ _)) ?_ | (refine call_t _ (con90 _ _ _) ?_; rintro v H' ⟨rfl, rfl⟩) | refine call_q _ (con90 _ _ _) ?_ | refine call_g _ (imp_of (con90 _ _ _)) ?_); simp (maxSteps := 10000000) only [insnL, rwp_nil, rwp_cons, rwpK_app, aop, gpath, St.get, slotAt, sfx, eqP, St.put, addBlk, getB, setB, st1, stn, setRow, rowNeed, segAt, nsub, bin, isShift, sameK, arith, shed, addN, Nat.beq, Seg.size, sizes, appL, argsOf, ptrsOf, takeS, dropS, putS, exOk, Nat.reduceAdd, List.append_nil, List.nil_append, List.cons_append]))); with_reducible refine hK _ ?_; clear hK K) | refine run_ret ?_ | refine run_nil ?_)
  exact end_insn0 (mulIS w) rfl rfl ⟨rfl, rfl⟩
def divIS (w : Int) : InsnS := { insnS w 9 with sub := bitsS w 10 1 }
theorem con35 (w : Int) (H : Heap) : Con Tryz.prog 35 [.c (.int .u32 w)] H (fun v H' => v = .agg (insnL (divIS w)) ∧ H' = H) := by
  refine Con.insn0 ?_ (by simp only [leArgs, leV, leV1, leC, and_self]) H
  (refine con_of_run mixed (fn := Tryz.f35) (by kernel_rfl) (by kernel_rfl) C35_ok (rs := [.cn 16 2]) (by kernel_rfl) (Nat.le_of_ble_eq_true (by kernel_rfl)) ?_; unfold C35; simp only [initT])
  repeat' (first | refine run_seq ?_ | (refine run_region fun K hK => ?_; (try (simp (maxSteps := 10000000) only [C35r0, C35r1, C35r2, C35r3, rwp_nil, rwp_cons, aop, gpath, St.get, slotAt, sfx, eqP, St.put, addBlk, getB, setB, ldn, stn, setRow, rowNeed, nsub, shed, Nat.beq, Seg.size, sizes, appL, argsOf, ptrsOf, cut, takeS, dropS, putS, exOk, Nat.reduceAdd, List.append_nil, List.nil_append])); (repeat (first | (refine And.intro ?_ ?_; · decide) | ((first | (refine call_t _ (con91 _ _ _ (by decide) (by decide) _) ?_; rintro v H' ⟨rfl, rfl⟩) | refine call_q _ (con91 _ _ _ (by decide) (by decide) _) ?_ | refine call_g _ (imp_of (con91 _ _ _ (by decide) (by decide) _)) ?_ | (refine call_t _ (con95 _ _ _ (by decide) (by decide) _) ?_; rintro v H' ⟨rfl, rfl⟩) | refine call_q _ (con95 _ _ _ (by decide) (by decide) _) ?_ | refine call_g _ (imp_of (con95 _ _ _ (by decide) (by decide) _)) ?_ | (refine call_t _ (con92 _ _ _) ?_; rintro v H' ⟨rfl, rfl⟩) | refine call_q _ (con92 _ _ _) ?_ | refine call_g _ (imp_of (con92 _ _ _)) ?_ | (refine call_t _ (con90 _ _ _) ?_; rintro v H' ⟨rfl, rfl⟩) | refine call_q _ (con90 _ _ _) ?_ | refine call_g _ (imp_of (con90 _ _ _)) ?_); simp (maxSteps := 10000000) only [insnL, rwp_nil, rwp_cons, rwpK_app, aop, gpath, St.get, slotAt, sfx, eqP, St.put, addBlk, getB, setB, st1, stn, setRow, rowNeed, segAt, nsub, shed, addN, Nat.beq, Seg.size, sizes, takeS, dropS, putS, exOk, Nat.reduceAdd, List.append_nil, List.nil_append, List.cons_append]))); with_reducible refine hK _ ?_; clear hK K) | refine run_ret ?_ | refine run_nil ?_)
  exact end_insn0 (divIS w) rfl rfl ⟨rfl, rfl⟩
def selS (w : Int) : InsnS := { insnS w 10 with sub := addS (mulS 2 (bitsS w 30 1)) (bitsS w 10 1), cond := bitsS w 12 4 }
theorem con37 (w : Int) (H : Heap) : Con Tryz.prog 37 [.c (.int .u32 w)] H (fun v H' => v = .agg (insnL (selS w)) ∧ H' = H) := by
  refine Con.insn0 ?_ (by simp only [leArgs, leV, leV1, leC, and_self]) H
  (refine con_of_run mixed (fn := Tryz.f37) (by kernel_rfl) (by kernel_rfl) C37_ok (rs := [.cn 16 2]) (by kernel_rfl) (Nat.le_of_ble_eq_true (by kernel_rfl)) ?_; unfold C37; simp only [initT])
  repeat' (first | refine run_seq ?_ | (refine run_region fun K hK => ?_; (try (simp (maxSteps := 10000000) only [C37r0, C37r1, C37r2, C37r3, rwp_nil, rwp_cons, aop, gpath, St.get, slotAt, sfx, eqP, St.put, addBlk, getB, setB, ldn, stn, setRow, rowNeed, nsub, shed, Nat.beq, Seg.size, sizes, appL, argsOf, ptrsOf, cut, takeS, dropS, putS, exOk, Nat.reduceAdd, List.append_nil, List.nil_append])); (repeat (first | (refine And.intro ?_ ?_; · decide) | ((first | (refine call_t _ (con91 _ _ _ (by decide) (by decide) _) ?_; rintro v H' ⟨rfl, rfl⟩) | refine call_q _ (con91 _ _ _ (by decide) (by decide) _) ?_ | refine call_g _ (imp_of (con91 _ _ _ (by decide) (by decide) _)) ?_ | (refine call_t _ (con95 _ _ _ (by decide) (by decide) _) ?_; rintro v H' ⟨rfl, rfl⟩) | refine call_q _ (con95 _ _ _ (by decide) (by decide) _) ?_ | refine call_g _ (imp_of (con95 _ _ _ (by decide) (by decide) _)) ?_ | (refine call_t _ (con92 _ _ _) ?_; rintro v H' ⟨rfl, rfl⟩) | refine call_q _ (con92 _ _ _) ?_ | refine call_g _ (imp_of (con92 _ _ _)) ?_ | (refine call_t _ (con90 _ _ _) ?_; rintro v H' ⟨rfl, rfl⟩) | refine call_q _ (con90 _ _ _) ?_ | refine call_g _ (imp_of (con90 _ _ _)) ?_); simp (maxSteps := 10000000) only [insnL, rwp_nil, rwp_cons, rwpK_app, aop, gpath, St.get, slotAt, sfx, eqP, St.put, addBlk, getB, setB, st1, stn, setRow, rowNeed, segAt, nsub, bin, isShift, sameK, arith, shed, addN, Nat.beq, Seg.size, sizes, appL, argsOf, ptrsOf, takeS, dropS, putS, exOk, Nat.reduceAdd, List.append_nil, List.nil_append, List.cons_append]))); with_reducible refine hK _ ?_; clear hK K) | refine run_ret ?_ | refine run_nil ?_)
  exact end_insn0 (selS w) rfl rfl ⟨rfl, rfl⟩
def bS (w : Int) : InsnS := { nilI with op := 12, link := bitsS w 31 1 == 1, imm := mulS 4 (signS w 0 26) }
theorem con41 (w : Int) (H : Heap) : Con Tryz.prog 41 [.c (.int .u32 w)] H (fun v H' => v = .agg (insnL (bS w)) ∧ H' = H) := by
  refine Con.insn0 ?_ (by simp only [leArgs, leV, leV1, leC, and_self]) H
  (refine con_of_run mixed (fn := Tryz.f41) (by kernel_rfl) (by kernel_rfl) C41_ok (rs := [.cn 16 2]) (by kernel_rfl) (Nat.le_of_ble_eq_true (by kernel_rfl)) ?_; unfold C41; simp only [initT])
  repeat' (first | refine run_seq ?_ | (refine run_region fun K hK => ?_; (try (simp (maxSteps := 10000000) only [C41r0, C41r1, rwp_nil, rwp_cons, aop, gpath, St.get, slotAt, sfx, eqP, St.put, addBlk, shed, Seg.size, sizes, appL, argsOf, ptrsOf, Nat.reduceAdd])); (repeat (first | (refine And.intro ?_ ?_; · decide) | ((first | (refine call_t _ (con91 _ _ _ (by decide) (by decide) _) ?_; rintro v H' ⟨rfl, rfl⟩) | refine call_q _ (con91 _ _ _ (by decide) (by decide) _) ?_ | refine call_g _ (imp_of (con91 _ _ _ (by decide) (by decide) _)) ?_ | (refine call_t _ (con95 _ _ _ (by decide) (by decide) _) ?_; rintro v H' ⟨rfl, rfl⟩) | refine call_q _ (con95 _ _ _ (by decide) (by decide) _) ?_ | refine call_g _ (imp_of (con95 _ _ _ (by decide) (by decide) _)) ?_ | (refine call_t _ (con92 _ _ _) ?_; rintro v H' ⟨rfl, rfl⟩) | refine call_q _ (con92 _ _ _) ?_ | refine call_g _ (imp_of (con92 _ _ _)) ?_ | (refine call_t _ (con90 _ _ _) ?_; rintro v H' ⟨rfl, rfl⟩) | refine call_q _ (con90 _ _ _) ?_ | refine call_g _ (imp_of (con90 _ _ _)) ?_); simp (maxSteps := 10000000) only [rwp_nil, rwp_cons, rwpK_app, aop, gpath, St.get, slotAt, sfx, eqP, segsOf, St.put, addBlk, getB, setB, stn, setRow, rowNeed, nsub, bin, isShift, sameK, arith, shed, Nat.beq, Seg.size, sizes, appL, argsOf, ptrsOf, takeS, dropS, putS, partsOf, fillS, exOk, Nat.reduceAdd, List.append_nil, List.nil_append, List.cons_append]))); with_reducible refine hK _ ?_; clear hK K) | refine run_ret ?_ | refine run_nil ?_)
  exact end_insn0 (bS w) rfl rfl ⟨rfl, rfl⟩
def bCondS (w : Int) : InsnS := { nilI with op := 13, cond := bitsS w 0 4, imm := mulS 4 (signS w 5 19) }
theorem con43 (w : Int) (H : Heap) : Con Tryz.prog 43 [.c (.int .u32 w)] H (fun v H' => v = .agg (insnL (bCondS w)) ∧ H' = H) := by
  refine Con.insn0 ?_ (by simp only [leArgs, leV, leV1, leC, and_self]) H
  (refine con_of_run mixed (fn := Tryz.f43) (by kernel_rfl) (by kernel_rfl) C43_ok (rs := [.cn 16 2]) (by kernel_rfl) (Nat.le_of_ble_eq_true (by kernel_rfl)) ?_; unfold C43; simp only [initT])
  repeat' (first | refine run_seq ?_ | (refine run_region fun K hK => ?_; (try (simp (maxSteps := 10000000) only [C43r0, C43r1, rwp_nil, rwp_cons, aop, gpath, St.get, slotAt, sfx, eqP, St.put, addBlk, shed, Seg.size, sizes, appL, argsOf, ptrsOf, Nat.reduceAdd])); (repeat (first | (refine And.intro ?_ ?_; · decide) | ((first | (refine call_t _ (con91 _ _ _ (by decide) (by decide) _) ?_; rintro v H' ⟨rfl, rfl⟩) | refine call_q _ (con91 _ _ _ (by decide) (by decide) _) ?_ | refine call_g _ (imp_of (con91 _ _ _ (by decide) (by decide) _)) ?_ | (refine call_t _ (con95 _ _ _ (by decide) (by decide) _) ?_; rintro v H' ⟨rfl, rfl⟩) | refine call_q _ (con95 _ _ _ (by decide) (by decide) _) ?_ | refine call_g _ (imp_of (con95 _ _ _ (by decide) (by decide) _)) ?_ | (refine call_t _ (con92 _ _ _) ?_; rintro v H' ⟨rfl, rfl⟩) | refine call_q _ (con92 _ _ _) ?_ | refine call_g _ (imp_of (con92 _ _ _)) ?_ | (refine call_t _ (con90 _ _ _) ?_; rintro v H' ⟨rfl, rfl⟩) | refine call_q _ (con90 _ _ _) ?_ | refine call_g _ (imp_of (con90 _ _ _)) ?_); simp (maxSteps := 10000000) only [rwp_nil, rwp_cons, rwpK_app, aop, gpath, St.get, slotAt, sfx, eqP, segsOf, St.put, addBlk, getB, setB, stn, setRow, rowNeed, nsub, bin, isShift, sameK, arith, shed, Nat.beq, Seg.size, sizes, appL, argsOf, ptrsOf, takeS, dropS, putS, partsOf, fillS, exOk, Nat.reduceAdd, List.append_nil, List.nil_append, List.cons_append]))); with_reducible refine hK _ ?_; clear hK K) | refine run_ret ?_ | refine run_nil ?_)
  exact end_insn0 (bCondS w) rfl rfl ⟨rfl, rfl⟩
def cbzS (w : Int) : InsnS := { nilI with op := 14, rd := bitsS w 0 5, not_ := hasS w 16777216, imm := mulS 4 (signS w 5 19) }
theorem con45 (w : Int) (H : Heap) : Con Tryz.prog 45 [.c (.int .u32 w)] H (fun v H' => v = .agg (insnL (cbzS w)) ∧ H' = H) := by
  refine Con.insn0 ?_ (by simp only [leArgs, leV, leV1, leC, and_self]) H
  (refine con_of_run mixed (fn := Tryz.f45) (by kernel_rfl) (by kernel_rfl) C45_ok (rs := [.cn 16 2]) (by kernel_rfl) (Nat.le_of_ble_eq_true (by kernel_rfl)) ?_; unfold C45; simp only [initT])
  repeat' (first | refine run_seq ?_ | (refine run_region fun K hK => ?_; (try (simp (maxSteps := 10000000) only [C45r0, C45r1, rwp_nil, rwp_cons, aop, gpath, St.get, slotAt, sfx, eqP, St.put, addBlk, shed, Seg.size, sizes, appL, argsOf, ptrsOf, Nat.reduceAdd])); (repeat (first | (refine And.intro ?_ ?_; · decide) | ((first | (refine call_t _ (con91 _ _ _ (by decide) (by decide) _) ?_; rintro v H' ⟨rfl, rfl⟩) | refine call_q _ (con91 _ _ _ (by decide) (by decide) _) ?_ | refine call_g _ (imp_of (con91 _ _ _ (by decide) (by decide) _)) ?_ | (refine call_t _ (con95 _ _ _ (by decide) (by decide) _) ?_; rintro v H' ⟨rfl, rfl⟩) | refine call_q _ (con95 _ _ _ (by decide) (by decide) _) ?_ | refine call_g _ (imp_of (con95 _ _ _ (by decide) (by decide) _)) ?_ | (refine call_t _ (con92 _ _ _) ?_; rintro v H' ⟨rfl, rfl⟩) | refine call_q _ (con92 _ _ _) ?_ | refine call_g _ (imp_of (con92 _ _ _)) ?_ | (refine call_t _ (con90 _ _ _) ?_; rintro v H' ⟨rfl, rfl⟩) | refine call_q _ (con90 _ _ _) ?_ | refine call_g _ (imp_of (con90 _ _ _)) ?_); simp (maxSteps := 10000000) only [rwp_nil, rwp_cons, rwpK_app, aop, gpath, St.get, slotAt, sfx, eqP, segsOf, St.put, addBlk, getB, setB, stn, setRow, rowNeed, nsub, bin, isShift, sameK, arith, shed, Nat.beq, Seg.size, sizes, appL, argsOf, ptrsOf, takeS, dropS, putS, partsOf, fillS, exOk, Nat.reduceAdd, List.append_nil, List.nil_append, List.cons_append]))); with_reducible refine hK _ ?_; clear hK K) | refine run_ret ?_ | refine run_nil ?_)
  exact end_insn0 (cbzS w) rfl rfl ⟨rfl, rfl⟩
def tbzS (w : Int) : InsnS := { nilI with op := 15, rd := bitsS w 0 5, not_ := hasS w 16777216, amount := orS (shlS (bitsS w 31 1) 5) (bitsS w 19 5), imm := mulS 4 (signS w 5 14) }
theorem con47 (w : Int) (H : Heap) : Con Tryz.prog 47 [.c (.int .u32 w)] H (fun v H' => v = .agg (insnL (tbzS w)) ∧ H' = H) := by
  refine Con.insn0 ?_ (by simp only [leArgs, leV, leV1, leC, and_self]) H
  (refine con_of_run mixed (fn := Tryz.f47) (by kernel_rfl) (by kernel_rfl) C47_ok (rs := [.cn 16 2]) (by kernel_rfl) (Nat.le_of_ble_eq_true (by kernel_rfl)) ?_; unfold C47; simp only [initT])
  repeat' (first | refine run_seq ?_ | (refine run_region fun K hK => ?_; (try (simp (maxSteps := 10000000) only [C47r0, C47r1, rwp_nil, rwp_cons, aop, gpath, St.get, slotAt, sfx, eqP, St.put, addBlk, shed, Seg.size, sizes, appL, argsOf, ptrsOf, Nat.reduceAdd])); (repeat (first | (refine And.intro ?_ ?_; · decide) | ((first | (refine call_t _ (con91 _ _ _ (by decide) (by decide) _) ?_; rintro v H' ⟨rfl, rfl⟩) | refine call_q _ (con91 _ _ _ (by decide) (by decide) _) ?_ | refine call_g _ (imp_of (con91 _ _ _ (by decide) (by decide) _)) ?_ | (refine call_t _ (con95 _ _ _ (by decide) (by decide) _) ?_; rintro v H' ⟨rfl, rfl⟩) | refine call_q _ (con95 _ _ _ (by decide) (by decide) _) ?_ | refine call_g _ (imp_of (con95 _ _ _ (by decide) (by decide) _)) ?_ | (refine call_t _ (con92 _ _ _) ?_; rintro v H' ⟨rfl, rfl⟩) | refine call_q _ (con92 _ _ _) ?_ | refine call_g _ (imp_of (con92 _ _ _)) ?_ | (refine call_t _ (con90 _ _ _) ?_; rintro v H' ⟨rfl, rfl⟩) | refine call_q _ (con90 _ _ _) ?_ | refine call_g _ (imp_of (con90 _ _ _)) ?_); simp (maxSteps := 10000000) only [rwp_nil, rwp_cons, rwpK_app, aop, gpath, St.get, slotAt, sfx, eqP, segsOf, St.put, addBlk, getB, setB, stn, setRow, rowNeed, nsub, bin, isShift, sameK, arith, shiftR, shed, Nat.beq, Seg.size, sizes, imp, appL, argsOf, ptrsOf, takeS, dropS, putS, partsOf, fillS, exOk, Nat.reduceAdd, Int.reduceToNat, List.append_nil, List.nil_append, List.cons_append]))); with_reducible refine hK _ ?_; clear hK K) | refine run_ret ?_ | refine run_nil ?_)
  exact end_insn0 (tbzS w) rfl rfl ⟨rfl, rfl⟩
def brS (w : Int) : InsnS := { nilI with op := 16, rn := bitsS w 5 5, sub := bitsS w 21 2 }
theorem con49 (w : Int) (H : Heap) : Con Tryz.prog 49 [.c (.int .u32 w)] H (fun v H' => v = .agg (insnL (brS w)) ∧ H' = H) := by
  refine Con.insn0 ?_ (by simp only [leArgs, leV, leV1, leC, and_self]) H
  (refine con_of_run mixed (fn := Tryz.f49) (by kernel_rfl) (by kernel_rfl) C49_ok (rs := [.cn 16 2]) (by kernel_rfl) (Nat.le_of_ble_eq_true (by kernel_rfl)) ?_; unfold C49; simp only [initT])
  repeat' (first | refine run_seq ?_ | (refine run_region fun K hK => ?_; (try (simp (maxSteps := 10000000) only [C49r0, C49r1, rwp_nil, rwp_cons, aop, gpath, St.get, slotAt, sfx, eqP, St.put, addBlk, shed, Seg.size, sizes, appL, argsOf, ptrsOf, Nat.reduceAdd])); (repeat (first | (refine And.intro ?_ ?_; · decide) | ((first | (refine call_t _ (con91 _ _ _ (by decide) (by decide) _) ?_; rintro v H' ⟨rfl, rfl⟩) | refine call_q _ (con91 _ _ _ (by decide) (by decide) _) ?_ | refine call_g _ (imp_of (con91 _ _ _ (by decide) (by decide) _)) ?_ | (refine call_t _ (con95 _ _ _ (by decide) (by decide) _) ?_; rintro v H' ⟨rfl, rfl⟩) | refine call_q _ (con95 _ _ _ (by decide) (by decide) _) ?_ | refine call_g _ (imp_of (con95 _ _ _ (by decide) (by decide) _)) ?_ | (refine call_t _ (con92 _ _ _) ?_; rintro v H' ⟨rfl, rfl⟩) | refine call_q _ (con92 _ _ _) ?_ | refine call_g _ (imp_of (con92 _ _ _)) ?_ | (refine call_t _ (con90 _ _ _) ?_; rintro v H' ⟨rfl, rfl⟩) | refine call_q _ (con90 _ _ _) ?_ | refine call_g _ (imp_of (con90 _ _ _)) ?_); simp (maxSteps := 10000000) only [rwp_nil, rwp_cons, rwpK_app, aop, gpath, St.get, slotAt, sfx, eqP, segsOf, St.put, addBlk, getB, setB, stn, setRow, rowNeed, nsub, shed, Nat.beq, Seg.size, sizes, appL, argsOf, ptrsOf, takeS, dropS, putS, partsOf, fillS, exOk, Nat.reduceAdd, List.append_nil, List.nil_append, List.cons_append]))); with_reducible refine hK _ ?_; clear hK K) | refine run_ret ?_ | refine run_nil ?_)
  exact end_insn0 (brS w) rfl rfl ⟨rfl, rfl⟩
def adrV (w : Int) : Int := orS (shlS (signS w 5 19) 2) (bitsS w 29 2)
def adrS (w : Int) : InsnS := { nilI with op := 11, rd := bitsS w 0 5, sub := bitsS w 31 1, imm := if bitsS w 31 1 = 1 then mulS (adrV w) 4096 else adrV w }
theorem con39 (w : Int) (H : Heap) : Con Tryz.prog 39 [.c (.int .u32 w)] H (fun v H' => v = .agg (insnL (adrS w)) ∧ H' = H) := by
  refine Con.insn0 ?_ (by simp only [leArgs, leV, leV1, leC, and_self]) H
  (refine con_of_run mixed (fn := Tryz.f39) (by kernel_rfl) (by kernel_rfl) C39_ok (rs := [.cn 16 2]) (by kernel_rfl) (Nat.le_of_ble_eq_true (by kernel_rfl)) ?_; unfold C39; simp only [initT])
  generalize hR : (fun (v : AV) (H' : Heap) => v = AV.agg (insnL (adrS w)) ∧ H' = ⟨1, [(0, insnB (adrS w))]⟩) = R
  repeat' (first | refine run_seq ?_ | refine run_skip ?_ | (refine run_region fun K hK => ?_; (try (simp (maxSteps := 10000000) only [C39r0, C39r1, C39r2, C39r3, C39r4, rwp_nil, rwp_cons, aop, gpath, St.get, slotAt, sfx, eqP, St.put, addBlk, getB, setB, ld1, ldn, st1, stn, setRow, rowNeed, segAt, nsub, bin, isShift, sameK, arith, shed, addN, Nat.beq, Seg.size, sizes, appL, argsOf, ptrsOf, cut, takeS, dropS, putS, exOk, Nat.reduceAdd, List.append_nil, List.nil_append, List.cons_append])); (repeat (first | (refine And.intro ?_ ?_; · decide) | ((first | (refine call_t _ (con91 _ _ _ (by decide) (by decide) _) ?_; rintro v H' ⟨rfl, rfl⟩) | refine call_q _ (con91 _ _ _ (by decide) (by decide) _) ?_ | refine call_g _ (imp_of (con91 _ _ _ (by decide) (by decide) _)) ?_ | (refine call_t _ (con95 _ _ _ (by decide) (by decide) _) ?_; rintro v H' ⟨rfl, rfl⟩) | refine call_q _ (con95 _ _ _ (by decide) (by decide) _) ?_ | refine call_g _ (imp_of (con95 _ _ _ (by decide) (by decide) _)) ?_); simp (maxSteps := 10000000) only [rwp_nil, rwp_cons, rwpK_app, aop, gpath, St.get, slotAt, sfx, eqP, segsOf, St.put, addBlk, getB, setB, stn, setRow, rowNeed, nsub, bin, isShift, sameK, arith, shiftR, shed, Nat.beq, Seg.size, sizes, imp, appL, argsOf, ptrsOf, takeS, dropS, putS, partsOf, fillS, exOk, Nat.reduceAdd, Int.reduceToNat, List.append_nil, List.nil_append, List.cons_append]))); with_reducible refine hK _ ?_; clear hK K) | (refine run_cond rfl (fun hc => ?_) (fun hc => ?_) <;> try (simp only [*, Bool.true_eq_false, Bool.false_eq_true, Bool.not_true, Bool.not_false, Bool.true_or, Bool.or_true, Bool.false_or, Bool.or_false, Bool.false_and, Bool.and_false, bne_self_eq_false, beq_self_eq_true] at hc; done)) | refine run_ret ?_ | refine run_nil ?_)
  · have h : bitsS w 31 1 = 1 := by simpa using hc
    subst hR
    refine end_insn0 { nilI with op := 11, rd := bitsS w 0 5, sub := bitsS w 31 1, imm := mulS (adrV w) 4096 } rfl rfl ?_
    have e : adrS w = { nilI with op := 11, rd := bitsS w 0 5, sub := bitsS w 31 1, imm := mulS (adrV w) 4096 } := by simp only [adrS, h, if_true]
    rw [e]
    exact ⟨rfl, rfl⟩
  · have h : ¬ bitsS w 31 1 = 1 := by simpa using hc
    subst hR
    refine end_insn0 { nilI with op := 11, rd := bitsS w 0 5, sub := bitsS w 31 1, imm := adrV w } rfl rfl ?_
    have e : adrS w = { nilI with op := 11, rd := bitsS w 0 5, sub := bitsS w 31 1, imm := adrV w } := by simp only [adrS, h, if_false]
    rw [e]
    exact ⟨rfl, rfl⟩
end Go.Proofs.YteikpddilabppaaGreatR

namespace Go.AM
open Go.WideShapes Go.ChangeShapes Go.RowKit
set_option linter.unusedVariables false
set_option linter.unusedSimpArgs false

inductive CK where
  | bool
  | int (k : IntKind)
  | slice (e : TypeId)

def okK (P : Program) (w : World) (T : TypeId → List Value → Prop) : CK → Value → Prop
  | .bool, x => ∃ b, x = .bool b
  | .int k, x => ∃ n, x = .int k n ∧ (Lit.int k n).wf = true
  | .slice e, x => x = .slice none 0 0 ∨ ∃ a len cap, x = .slice (some a) len cap ∧ len ≤ cap ∧ cap ≤ maxLen ∧ ∀ i, i < len → ∃ cs, w.cells? 0 (a.add (i * P.cellsOf e)) (P.cellsOf e) = some cs ∧ T e cs

def kindsF (g : TypeId → Option (List CK)) : List Field → Option (List CK)
  | [] => some []
  | f :: fs => match g f.type, kindsF g fs with
    | some a, some b => some (a ++ b)
    | _, _ => none
def repK : Nat → List CK → List CK
  | 0, _ => []
  | n + 1, l => l ++ repK n l
def kindsT (P : Program) : Nat → TypeId → Option (List CK)
  | 0, _ => none
  | d + 1, t =>
    match P.underlying t with
    | some .bool => some [.bool]
    | some (.int k) => some [.int k]
    | some (.slice e) => some [.slice e]
    | some (.struct fs) => if P.consecB fs.toList 0 (P.cellsOf t) = true then kindsF (kindsT P d) fs.toList else none
    | some (.array n e) => if P.cellsOf t = n * P.cellsOf e then (match kindsT P d e with | some l => some (repK n l) | none => none) else none
    | _ => none

section
variable {P : Program} {w : World} {T : TypeId → List Value → Prop}

theorem kindsF_ok {g : TypeId → Option (List CK)} {T' : TypeId → List Value → Prop} (IH : ∀ t K cs, g t = some K → T' t cs → F2 (okK P w T) K cs) (cs : List Value) :
    ∀ (fs : List Field) (off : Nat) (K : List CK), P.consecB fs off cs.length = true → kindsF g fs = some K → (∀ (i : Nat) (f : Field), fs[i]? = some f → T' f.type ((cs.drop f.offset).take (P.cellsOf f.type))) → F2 (okK P w T) K (cs.drop off)
  | [], off, K, hc, hK, _ => by
    simp only [Program.consecB, beq_iff_eq] at hc
    simp only [kindsF, Option.some.injEq] at hK
    subst hK
    have h0 : cs.drop off = [] := List.drop_eq_nil_iff.2 (by omega)
    rw [h0]
    exact .nil
  | f :: fs, off, K, hc, hK, hT => by
    simp only [Program.consecB, Bool.and_eq_true, beq_iff_eq] at hc
    obtain ⟨hoff, hc⟩ := hc
    simp only [kindsF] at hK
    cases ha : g f.type with
    | none => simp [ha] at hK
    | some a =>
      cases hb : kindsF g fs with
      | none => simp [ha, hb] at hK
      | some b =>
        simp only [ha, hb, Option.some.injEq] at hK
        subst hK
        have h1 := IH _ _ _ ha (hT 0 f rfl)
        have h2 := kindsF_ok IH cs fs (off + P.cellsOf f.type) b hc hb (fun i f' hf => hT (i + 1) f' hf)
        have h3 := h1.append h2
        rw [hoff, take_drop_step] at h3
        exact h3

theorem repK_ok {l : List CK} (c : Nat) (cs : List Value) :
    ∀ (n s : Nat), cs.length = (s + n) * c → (∀ i, s ≤ i → i < s + n → F2 (okK P w T) l ((cs.drop (i * c)).take c)) → F2 (okK P w T) (repK n l) (cs.drop (s * c))
  | 0, s, hl, _ => by
    have h0 : cs.drop (s * c) = [] := List.drop_eq_nil_iff.2 (by simp at hl; omega)
    rw [h0]
    exact .nil
  | n + 1, s, hl, h => by
    have h1 := h s (Nat.le_refl _) (by omega)
    have h2 := repK_ok c cs n (s + 1) (by rw [hl]; congr 1; omega) (fun i hi hj => h i (by omega) (by omega))
    have h3 := h1.append h2
    rw [Nat.add_mul, Nat.one_mul, take_drop_step] at h3
    exact h3
end

section
variable {H : Type} {enc : TypeId × Value → H} {P : Program} {w : World} {spare : Nat → Bool} {held : Bool}

def Tr (enc : TypeId × Value → H) (P : Program) (w : World) (spare : Nat → Bool) (held : Bool) : TypeId → List Value → Prop := fun t cs => ∃ m y, DataW.trod enc P w 0 spare held m t cs = some y

theorem kinds_ok : ∀ (d : Nat) (t : TypeId) (K : List CK) (cs : List Value), kindsT P d t = some K → Tr enc P w spare held t cs → F2 (okK P w (Tr enc P w spare held)) K cs
  | 0, _, _, _, hK, _ => by simp [kindsT] at hK
  | d + 1, t, K, cs, hK, ⟨m, y, h⟩ => by
    unfold kindsT at hK
    cases ht : P.underlying t with
    | none => simp [ht] at hK
    | some desc =>
      simp only [ht] at hK
      cases desc
      case bool =>
        simp only [Option.some.injEq] at hK
        subst hK
        obtain ⟨b, rfl, _⟩ := DataW.trod_bool ht h
        exact .cons ⟨b, rfl⟩ .nil
      case int k =>
        simp only [Option.some.injEq] at hK
        subst hK
        obtain ⟨n, rfl, _, hw⟩ := DataW.trod_int ht h
        exact .cons ⟨n, rfl, hw⟩ .nil
      case slice e =>
        simp only [Option.some.injEq] at hK
        subst hK
        rcases DataW.trod_slice ht h with ⟨rfl, _⟩ | ⟨a, len, cap, elems, rest, n, _, rfl, _, _, hl, hc, hel, hi, _, _⟩
        · exact .cons (.inl rfl) .nil
        · refine .cons (.inr ⟨a, len, cap, rfl, hl, hc, fun i hlt => ?_⟩) .nil
          have h1 := hi i hlt
          obtain ⟨z, hz⟩ : ∃ z, elems[i]? = some z := ⟨_, List.getElem?_eq_getElem (by omega)⟩
          rw [hz, Option.bind_eq_some_iff] at h1
          obtain ⟨cs, hcs, hd⟩ := h1
          exact ⟨cs, hcs, n, z, hd⟩
      case struct fs =>
        simp only at hK
        split at hK
        · rename_i hcons
          obtain ⟨xs, n, _, _, hl, hxl, hf⟩ := DataW.trod_struct ht h
          rw [← hl] at hcons
          have h2 := kindsF_ok (T := Tr enc P w spare held) (T' := Tr enc P w spare held) (fun t K cs a b => kinds_ok d t K cs a b) cs fs.toList 0 K hcons hK (fun i f hfi => by
            have hfi' : fs[i]? = some f := by simpa using hfi
            have hlt : i < fs.size := by
              rcases Nat.lt_or_ge i fs.size with h | h
              · exact h
              · rw [Array.getElem?_eq_none h] at hfi'; cases hfi'
            exact ⟨n, xs[i]'(by omega), (hf i f hfi').trans (List.getElem?_eq_getElem (by omega))⟩)
          simpa using h2
        · cases hK
      case array n e =>
        simp only at hK
        split at hK
        · rename_i hcn
          cases hl : kindsT P d e with
          | none => simp [hl] at hK
          | some l =>
            simp only [hl, Option.some.injEq] at hK
            subst hK
            obtain ⟨xs, m', _, _, hlen, hxl, hf⟩ := DataW.trod_array ht h
            have h2 := repK_ok (P := P) (w := w) (T := Tr enc P w spare held) (l := l) (P.cellsOf e) cs n 0 (by rw [hlen, hcn]; simp) (fun i _ hi =>
              kinds_ok d e l _ hl ⟨m', xs[i]'(by omega), (hf i (by omega)).trans (List.getElem?_eq_getElem (by omega))⟩)
            simpa using h2
        · cases hK
      all_goals simp at hK
end

def boolAt (cs : List Value) (i : Nat) : Bool := match cs[i]? with | some (.bool b) => b | _ => false
def intAt (cs : List Value) (i : Nat) : Int := match cs[i]? with | some (.int _ n) => n | _ => 0
def lenV : Value → Nat
  | .slice _ n _ => n
  | _ => 0
def lenAt (cs : List Value) (i : Nat) : Nat := match cs[i]? with | some x => lenV x | none => 0
def gen (id : Nat) (cs : List Value) : List CK → Nat → List CV
  | [], _ => []
  | .bool :: K, o => .bool (boolAt cs o) :: gen id cs K (o + 1)
  | .int k :: K, o => .int k (intAt cs o) :: gen id cs K (o + 1)
  | .slice _ :: K, o => .slice ⟨id, 0, 0, 0⟩ false (lenAt cs o) :: gen id cs K (o + 1)

theorem drop_head {cs : List Value} {o : Nat} {x : Value} {r : List Value} (h : cs.drop o = x :: r) : cs[o]? = some x ∧ cs.drop (o + 1) = r := by
  constructor
  · have := congrArg (fun l => l[0]?) h
    simpa using this
  · have := congrArg List.tail h
    simpa using this

def noSl : List CK → Bool
  | [] => true
  | .slice _ :: _ => false
  | _ :: K => noSl K
theorem noSl_rel {P : Program} {w : World} {T : TypeId → List Value → Prop} {φ : Emb} {id : Nat} {cs : List Value} :
    ∀ (K : List CK) (o : Nat), noSl K = true → F2 (okK P w T) K (cs.drop o) → F2 (rel φ) (gen id cs K o) (cs.drop o)
  | [], o, _, h => by rw [h.nil_left]; exact .nil
  | k :: K, o, hn, h => by
    obtain ⟨x, r, e, hx, hr⟩ := h.cons_left
    obtain ⟨h0, h1⟩ := drop_head e
    rw [← h1] at hr
    cases k with
    | bool =>
      have h2 := noSl_rel (φ := φ) (id := id) K (o + 1) hn hr
      rw [h1] at h2; rw [e]
      obtain ⟨b, rfl⟩ := hx; exact .cons (by simp [boolAt, h0, rel]) h2
    | int k =>
      have h2 := noSl_rel (φ := φ) (id := id) K (o + 1) hn hr
      rw [h1] at h2; rw [e]
      obtain ⟨n, rfl, _⟩ := hx; exact .cons (by simp [intAt, h0, rel]) h2
    | slice t => cases hn

theorem int_wf {P : Program} {w : World} {T : TypeId → List Value → Prop} {K : List CK} {cs : List Value} (h : F2 (okK P w T) K cs) {i : Nat} {k : IntKind} (hk : K[i]? = some (.int k)) : (Lit.int k (intAt cs i)).wf = true := by
  obtain ⟨x, hx, n, rfl, hw⟩ := h.get hk
  simp only [intAt, hx]
  exact hw

theorem Fr.below {φ ψ : Emb} {H K : Heap} {w v : World} (h : Fr φ H w ψ K v) (hno : ∀ i B, getB H.blks i = some B → B.wr = false) : Below w.heap.size w v :=
  ⟨h.os, h.tape, h.output, h.size, fun k hk => h.old k hk (fun i B p h1 h2 _ => by rw [hno i B h1] at h2; cases h2)⟩

section
variable {H : Type} {enc : TypeId × Value → H} {P : Program}
theorem post_of_old {f : Func} {s : ChangeSpec} {apart fresh handsOn again : Bool} {W W' : World} {args : Array Value} {v : Value} {ds gs : List (DataW H)} {before pa pv : List MemPlace}
    (hW : DataW.Whole enc P f.params.toList s.vars apart W args.toList ds gs before)
    (hres : ∀ (b : Nat) (sp : Nat → Bool) (hd : Bool), DataW.TrodAll enc P W' b sp hd f.resultTypes.toList (v.resultList f.resultTypes.size) (s.fn H (ds ++ gs)).results [])
    (hargs : ∀ sp : Nat → Bool, (∀ p ∈ before, sp p.block = true) → DataW.TrodAll enc P W' 0 sp true f.params.toList args.toList (s.fn H (ds ++ gs)).args pa)
    (hvars : ∀ sp : Nat → Bool, (∀ p ∈ before, sp p.block = true) → DataW.TrodVars enc P W' sp s.vars (s.fn H (ds ++ gs)).vars pv)
    (hps : before = pa ++ pv) (hb : Below W.heap.size W W')
    (hok : ∀ (j : Nat) (t : TypeId) (r : Value), f.resultTypes[j]? = some t → (v.resultList f.resultTypes.size)[j]? = some r → Value.okWide P W' .any 0 t r) :
    s.post enc P f apart fresh handsOn again W args v W' := by
  have hlt : ∀ p ∈ before, p.block < W.heap.size := fun p hp => hW.lt p hp
  have hold : ∀ p ∈ before, (fun b => decide (b < W.heap.size)) p.block = true := fun p hp => by simpa using hlt p hp
  refine ⟨ds, gs, before, [], pa, pv, hW, hres _ _ _, hargs _ hold, hvars _ hold, World.keptBut_mono (fun p hp => ⟨hp, ?_⟩) (hb.frame (· ∈ before)), fun _ => ?_⟩
  · rw [hps, List.mem_append] at hp
    exact Or.inr hp
  · obtain ⟨_, _, _, _, _, hz, hn⟩ := hW
    refine ⟨hok, _, _, ([] ++ pa) ++ pv, ⟨[] ++ pa, pv, trodAll_append (hargs _ (fun _ _ => rfl)) (hres _ _ _), hvars _ (fun _ _ => rfl), rfl, ?_, ?_⟩, ?_⟩
    · intro b off hp
      have hin : MemPlace.cell b off ∈ before := by rw [hps]; simpa using hp
      rw [hb.frozen (hlt _ hin)]
      exact hz b off hin
    · intro ha
      have := hn ha
      rw [hps] at this
      simpa using this
    · intro p hp _
      rw [hps]
      simpa using hp
end
end Go.AM

namespace Go.Proofs.YteikpddilabppaaGreatR
open Go.AM Go.ChangeShapes Go.WideShapes Go.ChangeAt Go.RowKit
set_option maxRecDepth 100000
set_option linter.unusedVariables false
theorem ownZ : ownKnob Tryz.prog.godebug = none := by kernel_rfl
theorem laidZ : laidOutB Tryz.prog = true := by kernel_rfl
def kInsn : List CK := [.int .i64, .int .i64, .int .i64, .int .i64, .int .i64, .int .i64, .int .i64, .int .i64, .int .i64, .int .i64, .int .i64, .int .i64, .bool, .bool, .bool, .bool]
theorem kInsn_ok : kindsT Tryz.prog 5 23 = some kInsn := by kernel_rfl
def insnOf (cs : List Value) : InsnS := ⟨intAt cs 0, intAt cs 1, intAt cs 2, intAt cs 3, intAt cs 4, intAt cs 5, intAt cs 6, intAt cs 7, intAt cs 8, intAt cs 9, intAt cs 10, intAt cs 11, boolAt cs 12, boolAt cs 13, boolAt cs 14, boolAt cs 15⟩
theorem insn_gen (cs : List Value) : flat (insnL (insnOf cs)) = gen 0 cs kInsn 0 := rfl
theorem i64_wf {n : Int} (h : (Lit.int .i64 n).wf = true) : -9223372036854775808 ≤ n ∧ n < 9223372036854775808 := by
  simp only [Lit.wf, Bool.and_eq_true, decide_eq_true_eq] at h
  have h1 : -9223372036854775808 ≤ n := h.1
  have h2 : n ≤ 9223372036854775807 := h.2
  omega
def allI (x : InsnS) : Prop := ∀ n, n ∈ [x.op, x.sub, x.rd, x.rn, x.rm, x.ra, x.imm, x.imm2, x.amount, x.shift, x.cond, x.sys] → -9223372036854775808 ≤ n ∧ n < 9223372036854775808
theorem insn_arg {H : Type} {enc : TypeId × Value → H} {W : World} {v : Value} {d : DataW H} {p : List MemPlace} {φ : Emb} (o : Value.okWide Tryz.prog W .any 0 23 v) (h : DataW.Trod enc Tryz.prog W 0 (fun _ => true) true 23 v d p) : ∃ x : InsnS, relA φ (.agg (insnL x)) v ∧ allI x := by
  obtain ⟨cs, rfl, _⟩ := okWide_struct Tryz.underlying23 o
  obtain ⟨f, h⟩ := h
  have q := kinds_ok (spare := fun _ => true) (held := true) 5 23 kInsn cs.toList kInsn_ok ⟨f, _, h⟩
  refine ⟨insnOf cs.toList, ⟨cs, rfl, ?_⟩, ?_⟩
  · rw [insn_gen]
    have := noSl_rel (φ := φ) (id := 0) kInsn 0 rfl (by simpa using q)
    simpa using this
  · intro n hn
    simp only [insnOf, List.mem_cons, List.not_mem_nil, or_false] at hn
    rcases hn with rfl | rfl | rfl | rfl | rfl | rfl | rfl | rfl | rfl | rfl | rfl | rfl
    · exact i64_wf (int_wf q (i := 0) (k := .i64) rfl)
    · exact i64_wf (int_wf q (i := 1) (k := .i64) rfl)
    · exact i64_wf (int_wf q (i := 2) (k := .i64) rfl)
    · exact i64_wf (int_wf q (i := 3) (k := .i64) rfl)
    · exact i64_wf (int_wf q (i := 4) (k := .i64) rfl)
    · exact i64_wf (int_wf q (i := 5) (k := .i64) rfl)
    · exact i64_wf (int_wf q (i := 6) (k := .i64) rfl)
    · exact i64_wf (int_wf q (i := 7) (k := .i64) rfl)
    · exact i64_wf (int_wf q (i := 8) (k := .i64) rfl)
    · exact i64_wf (int_wf q (i := 9) (k := .i64) rfl)
    · exact i64_wf (int_wf q (i := 10) (k := .i64) rfl)
    · exact i64_wf (int_wf q (i := 11) (k := .i64) rfl)
def noE : Emb := fun _ => none
theorem no_heap (W : World) : HRel noE ⟨0, []⟩ W :=
  ⟨fun i B p h => (by cases h), fun i j B C p q h => (by cases h), fun _ _ => rfl, fun i p h => (by cases h)⟩
def zeros : List CK → List Value
  | [] => []
  | .bool :: K => .bool false :: zeros K
  | .int k :: K => .int k 0 :: zeros K
  | .slice _ :: K => .slice none 0 0 :: zeros K
end Go.Proofs.YteikpddilabppaaGreatR

namespace Go.Proofs.YteikpddilabppaaGreatR
open Go.AM
set_option maxRecDepth 100000
set_option linter.unusedSimpArgs false
set_option linter.unusedVariables false
theorem dropB_none {l : List Nat} {H0 : List (Nat × Blk)} (h : ∀ k, goneB l H0 k = false) (X : List (Nat × Blk)) : dropB l H0 X = X := by
  induction X with
  | nil => rfl
  | cons x r ih => simp [dropB, h, ih]
theorem ro_gen {f : FuncId} {args args' : List AV} {H0 : Heap} {V : AV} (h : Con Tryz.prog f args H0 (fun v H' => v = V ∧ H' = H0)) (l : List Nat) (n : Nat) (X : List (Nat × Blk)) (hl : H0.next = l.length) (hd : diff l) (hlt : allLt l n) (hkl : keysLt X n) (hb : leBlks l X H0.blks) (ha : leArgs l args' args) (hV : mapV (gId l n) V = V)
    (hgone : ∀ k, goneB l H0.blks k = false) (hnew : newB (gId l n) l H0.blks [] H0.blks = []) (hnx : gId l n H0.next = n) : Con Tryz.prog f args' ⟨n, X⟩ (fun v H' => v = V ∧ H' = ⟨n, X⟩) := by
  refine (h.frame (H := ⟨n, X⟩) l hl hd hlt hkl hb ha).weaken ?_
  rintro v H' ⟨v0, H0', ⟨rfl, rfl⟩, rfl, rfl⟩
  refine ⟨hV, ?_⟩
  simp only [framed, dropB_none hgone, hnew, hnx, appB]
def boxW (v : Int) : Blk := ⟨1, none, fun _ => [.c (.int .i64 v)], 3, true⟩
def boxH1 (a : Int) : Heap := ⟨1, [(0, boxI a)]⟩
def boxH2 (a b : Int) : Heap := ⟨2, [(0, boxI a), (1, boxI b)]⟩
def boxH4 (a b c d : Int) : Heap := ⟨4, [(0, boxI a), (1, boxI b), (2, boxI c), (3, boxI d)]⟩
theorem idt1 : ∀ i, i < 1 → nthO [0] i = some i := by
  intro i h; match i, h with
  | 0, _ => rfl
theorem idt2 : ∀ i, i < 2 → nthO [0, 1] i = some i := by
  intro i h; match i, h with
  | 0, _ => rfl
  | 1, _ => rfl
theorem idt4 : ∀ i, i < 4 → nthO [0, 1, 2, 3] i = some i := by
  intro i h; match i, h with
  | 0, _ => rfl
  | 1, _ => rfl
  | 2, _ => rfl
  | 3, _ => rfl
theorem idu1 (b : Nat) : ∀ i, i < 1 → nthO [0, b] i = some i := by
  intro i h; match i, h with
  | 0, _ => rfl
theorem idu2 (b : Nat) : ∀ i, i < 2 → nthO [0, 1, b] i = some i := by
  intro i h; match i, h with
  | 0, _ => rfl
  | 1, _ => rfl
theorem idu4 (b : Nat) : ∀ i, i < 4 → nthO [0, 1, 2, 3, b] i = some i := by
  intro i h; match i, h with
  | 0, _ => rfl
  | 1, _ => rfl
  | 2, _ => rfl
  | 3, _ => rfl
def accI (op w : Int) : InsnS := { nilI with op := op, rd := bitsS w 0 5, rn := bitsS w 5 5, imm := mulS 8 (bitsS w 10 12) }
theorem con96 (op w : Int)  : Con Tryz.prog 96 [.c (.int .u32 w), .c (.ptr ⟨0, 0, 0, 0⟩)] (boxH1 op) (fun v H' => v = .agg (insnL (accI op w)) ∧ H' = boxH1 op) := by
  refine Con.forget (R := fun v H' => v = .agg (insnL (accI op w)) ∧ H' = ⟨2, (1, insnB (accI op w)) :: [(0, boxI op)]⟩) ?_ ?_
  rotate_left
  · rintro v H' ⟨rfl, rfl⟩
    exact ⟨.agg (insnL (accI op w)), boxH1 op, [0], idt1, by simp only [diff, notIn, and_self], rfl, ⟨box_le _ _, trivial⟩, insn_leV _, rfl, rfl⟩
  (refine con_of_run mixed (fn := Tryz.f96) (by kernel_rfl) (by kernel_rfl) C96_ok (rs := [.cn 16 3]) (by kernel_rfl) (Nat.le_of_ble_eq_true (by kernel_rfl)) ?_; unfold C96; simp only [initT, Nat.reduceAdd])
  simp only [boxH1, boxI]
  repeat' (first | refine run_seq ?_ | (refine run_region fun K hK => ?_; (try (simp (maxSteps := 10000000) only [C96r0, C96r1, rwp_nil, rwp_cons, aop, gpath, St.get, slotAt, sfx, eqP, St.put, addBlk, getB, ld1, rowNeed, segAt, shed, Seg.size, sizes, appL, argsOf, ptrsOf, Nat.reduceAdd])); (repeat (first | (refine And.intro ?_ ?_; · decide) | ((first | (refine call_t _ (con91 _ _ _ (by first | assumption | decide) (by first | assumption | decide) _) ?_; rintro v H' ⟨rfl, rfl⟩) | refine call_q _ (con91 _ _ _ (by first | assumption | decide) (by first | assumption | decide) _) ?_ | refine call_g _ (imp_of (con91 _ _ _ (by first | assumption | decide) (by first | assumption | decide) _)) ?_ | (refine call_t _ (con90 _ _ _) ?_; rintro v H' ⟨rfl, rfl⟩) | refine call_q _ (con90 _ _ _) ?_ | refine call_g _ (imp_of (con90 _ _ _)) ?_); simp (maxSteps := 10000000) only [rwp_nil, rwp_cons, rwpK_app, aop, gpath, St.get, slotAt, sfx, eqP, segsOf, St.put, addBlk, getB, setB, stn, setRow, rowNeed, nsub, bin, isShift, sameK, arith, shed, Nat.beq, Seg.size, sizes, appL, argsOf, ptrsOf, takeS, dropS, putS, partsOf, fillS, exOk, Nat.reduceAdd, List.append_nil, List.nil_append, List.cons_append]))); with_reducible refine hK _ ?_; clear hK K) | refine run_ret ?_ | refine run_nil ?_)
  exact end_insn (b0 := [(0, boxI op)]) (accI op w) [0] rfl idt1 (by simp only [diff, notIn, Nat.beq, and_self, List.cons_append, List.nil_append]) rfl rfl ⟨box_le _ _, trivial⟩ rfl (idu1 _) ⟨rfl, rfl⟩
def accRegI (op w : Int) : InsnS := { insnS w op with amount := mulS 3 (bitsS w 12 1) }
theorem con97 (op w : Int)  : Con Tryz.prog 97 [.c (.int .u32 w), .c (.ptr ⟨0, 0, 0, 0⟩)] (boxH1 op) (fun v H' => v = .agg (insnL (accRegI op w)) ∧ H' = boxH1 op) := by
  refine Con.forget (R := fun v H' => v = .agg (insnL (accRegI op w)) ∧ H' = ⟨2, (1, insnB (accRegI op w)) :: [(0, boxI op)]⟩) ?_ ?_
  rotate_left
  · rintro v H' ⟨rfl, rfl⟩
    exact ⟨.agg (insnL (accRegI op w)), boxH1 op, [0], idt1, by simp only [diff, notIn, and_self], rfl, ⟨box_le _ _, trivial⟩, insn_leV _, rfl, rfl⟩
  (refine con_of_run mixed (fn := Tryz.f97) (by kernel_rfl) (by kernel_rfl) C97_ok (rs := [.cn 16 3]) (by kernel_rfl) (Nat.le_of_ble_eq_true (by kernel_rfl)) ?_; unfold C97; simp only [initT, Nat.reduceAdd])
  simp only [boxH1, boxI]
  repeat' (first | refine run_seq ?_ | (refine run_region fun K hK => ?_; (try (simp (maxSteps := 10000000) only [C97r0, C97r1, C97r2, C97r3, rwp_nil, rwp_cons, aop, gpath, St.get, slotAt, sfx, eqP, St.put, addBlk, getB, setB, ld1, ldn, stn, setRow, rowNeed, segAt, nsub, shed, Nat.beq, Seg.size, sizes, appL, argsOf, ptrsOf, cut, takeS, dropS, putS, exOk, Nat.reduceAdd, List.append_nil, List.nil_append])); (repeat (first | (refine And.intro ?_ ?_; · decide) | ((first | (refine call_t _ (con91 _ _ _ (by first | assumption | decide) (by first | assumption | decide) _) ?_; rintro v H' ⟨rfl, rfl⟩) | refine call_q _ (con91 _ _ _ (by first | assumption | decide) (by first | assumption | decide) _) ?_ | refine call_g _ (imp_of (con91 _ _ _ (by first | assumption | decide) (by first | assumption | decide) _)) ?_ | (refine call_t _ (con90 _ _ _) ?_; rintro v H' ⟨rfl, rfl⟩) | refine call_q _ (con90 _ _ _) ?_ | refine call_g _ (imp_of (con90 _ _ _)) ?_); simp (maxSteps := 10000000) only [insnL, rwp_nil, rwp_cons, rwpK_app, aop, gpath, St.get, slotAt, sfx, eqP, St.put, addBlk, getB, setB, st1, stn, setRow, rowNeed, segAt, nsub, bin, isShift, sameK, arith, shed, addN, Nat.beq, Seg.size, sizes, takeS, dropS, putS, exOk, Nat.reduceAdd, List.append_nil, List.nil_append, List.cons_append]))); with_reducible refine hK _ ?_; clear hK K) | refine run_ret ?_ | refine run_nil ?_)
  exact end_insn (b0 := [(0, boxI op)]) (accRegI op w) [0] rfl idt1 (by simp only [diff, notIn, Nat.beq, and_self, List.cons_append, List.nil_append]) rfl rfl ⟨box_le _ _, trivial⟩ rfl (idu1 _) ⟨rfl, rfl⟩
def twoI (op sub w : Int) : InsnS := { nilI with op := op, sub := sub, rd := bitsS w 0 5, rn := bitsS w 5 5 }
theorem con98 (op sub w : Int)  : Con Tryz.prog 98 [.c (.int .u32 w), .c (.ptr ⟨0, 0, 0, 0⟩), .c (.ptr ⟨1, 0, 0, 0⟩)] (boxH2 op sub) (fun v H' => v = .agg (insnL (twoI op sub w)) ∧ H' = boxH2 op sub) := by
  refine Con.forget (R := fun v H' => v = .agg (insnL (twoI op sub w)) ∧ H' = ⟨3, (2, insnB (twoI op sub w)) :: [(0, boxI op), (1, boxI sub)]⟩) ?_ ?_
  rotate_left
  · rintro v H' ⟨rfl, rfl⟩
    exact ⟨.agg (insnL (twoI op sub w)), boxH2 op sub, [0, 1], idt2, by simp only [diff, notIn, Nat.beq, and_self], rfl, ⟨box_le _ _, box_le _ _, trivial⟩, insn_leV _, rfl, rfl⟩
  (refine con_of_run mixed (fn := Tryz.f98) (by kernel_rfl) (by kernel_rfl) C98_ok (rs := [.cn 16 4]) (by kernel_rfl) (Nat.le_of_ble_eq_true (by kernel_rfl)) ?_; unfold C98; simp only [initT, Nat.reduceAdd])
  simp only [boxH2, boxI]
  repeat' (first | refine run_seq ?_ | (refine run_region fun K hK => ?_; (try (simp (maxSteps := 10000000) only [C98r0, C98r1, rwp_nil, rwp_cons, aop, gpath, St.get, slotAt, sfx, eqP, St.put, addBlk, getB, ld1, rowNeed, segAt, shed, Seg.size, sizes, appL, argsOf, ptrsOf, Nat.reduceAdd])); (repeat (first | (refine And.intro ?_ ?_; · decide) | ((first | (refine call_t _ (con91 _ _ _ (by first | assumption | decide) (by first | assumption | decide) _) ?_; rintro v H' ⟨rfl, rfl⟩) | refine call_q _ (con91 _ _ _ (by first | assumption | decide) (by first | assumption | decide) _) ?_ | refine call_g _ (imp_of (con91 _ _ _ (by first | assumption | decide) (by first | assumption | decide) _)) ?_ | (refine call_t _ (con90 _ _ _) ?_; rintro v H' ⟨rfl, rfl⟩) | refine call_q _ (con90 _ _ _) ?_ | refine call_g _ (imp_of (con90 _ _ _)) ?_); simp (maxSteps := 10000000) only [rwp_nil, rwp_cons, rwpK_app, aop, gpath, St.get, slotAt, sfx, eqP, segsOf, St.put, addBlk, getB, setB, stn, setRow, rowNeed, nsub, shed, Nat.beq, Seg.size, sizes, appL, argsOf, ptrsOf, takeS, dropS, putS, partsOf, fillS, exOk, Nat.reduceAdd, List.append_nil, List.nil_append, List.cons_append]))); with_reducible refine hK _ ?_; clear hK K) | refine run_ret ?_ | refine run_nil ?_)
  exact end_insn (b0 := [(0, boxI op), (1, boxI sub)]) (twoI op sub w) [0, 1] rfl idt2 (by simp only [diff, notIn, Nat.beq, and_self, List.cons_append, List.nil_append]) rfl rfl ⟨box_le _ _, box_le _ _, trivial⟩ rfl (idu2 _) ⟨rfl, rfl⟩
def plainI (op w : Int) : InsnS := { nilI with op := op }
theorem con100 (op w : Int)  : Con Tryz.prog 100 [.c (.int .u32 w), .c (.ptr ⟨0, 0, 0, 0⟩)] (boxH1 op) (fun v H' => v = .agg (insnL (plainI op w)) ∧ H' = boxH1 op) := by
  refine Con.forget (R := fun v H' => v = .agg (insnL (plainI op w)) ∧ H' = ⟨2, (1, insnB (plainI op w)) :: [(0, boxI op)]⟩) ?_ ?_
  rotate_left
  · rintro v H' ⟨rfl, rfl⟩
    exact ⟨.agg (insnL (plainI op w)), boxH1 op, [0], idt1, by simp only [diff, notIn, and_self], rfl, ⟨box_le _ _, trivial⟩, insn_leV _, rfl, rfl⟩
  (refine con_of_run mixed (fn := Tryz.f100) (by kernel_rfl) (by kernel_rfl) C100_ok (rs := [.cn 16 3]) (by kernel_rfl) (Nat.le_of_ble_eq_true (by kernel_rfl)) ?_; unfold C100; simp only [initT, Nat.reduceAdd])
  simp only [boxH1, boxI]
  repeat' (first | refine run_seq ?_ | (refine run_region fun K hK => ?_; (try (simp (maxSteps := 10000000) only [C100r0, C100r1, rwp_nil, rwp_cons, aop, gpath, St.get, slotAt, sfx, eqP, segsOf, St.put, addBlk, getB, setB, ld1, stn, setRow, rowNeed, segAt, nsub, shed, Nat.beq, Seg.size, sizes, takeS, dropS, putS, partsOf, fillS, exOk, Nat.reduceAdd, List.append_nil, List.nil_append, List.cons_append])); (repeat (first | (refine And.intro ?_ ?_; · decide) | ((first | (refine call_t _ (con91 _ _ _ (by first | assumption | decide) (by first | assumption | decide) _) ?_; rintro v H' ⟨rfl, rfl⟩) | refine call_q _ (con91 _ _ _ (by first | assumption | decide) (by first | assumption | decide) _) ?_ | refine call_g _ (imp_of (con91 _ _ _ (by first | assumption | decide) (by first | assumption | decide) _)) ?_ | (refine call_t _ (con90 _ _ _) ?_; rintro v H' ⟨rfl, rfl⟩) | refine call_q _ (con90 _ _ _) ?_ | refine call_g _ (imp_of (con90 _ _ _)) ?_); simp (maxSteps := 10000000) only [insnL, C100r0, C100r1, rwp_nil, rwp_cons, rwpK_app, aop, gpath, St.get, slotAt, sfx, eqP, segsOf, St.put, addBlk, getB, setB, delB, ld1, ldn, st1, stn, setRow, rowNeed, segAt, nsub, bin, un, eqB, isShift, sameK, arith, shiftR, getsl, selB_or, selB_and, beqb, shed, addN, Nat.beq, Seg.size, sizes, imp, needP, andN, appL, argsOf, ptrsOf, aasOf, cut, takeS, dropS, putS, partsOf, fillS, fieldOf, nthA, negIf, nilq, nilB, eqS, eqF, eqS1, andP, kin, slcS, strOk, plusA, bndHi, leN, optG, roH, roL, initT, exOk, exAll, wrAddr, Nat.reduceAdd, Nat.reduceSub, Nat.reduceMul, Int.reduceToNat, List.append_nil, List.nil_append, List.cons_append, eqT, idxT, cat, cpy, ite_int, ite_bool, ite_seg, ite_segs, ite_nil, ite_twice, Int.toNat_natCast, app, addBs, tob]))); with_reducible refine hK _ ?_; clear hK K) | refine run_ret ?_ | refine run_nil ?_)
  exact end_insn (b0 := [(0, boxI op)]) (plainI op w) [0] rfl idt1 (by simp only [diff, notIn, Nat.beq, and_self, List.cons_append, List.nil_append]) rfl rfl ⟨box_le _ _, trivial⟩ rfl (idu1 _) ⟨rfl, rfl⟩
def targetI (op w : Int) : InsnS := { nilI with op := op, rd := bitsS w 0 5 }
theorem con103 (op w : Int)  : Con Tryz.prog 103 [.c (.int .u32 w), .c (.ptr ⟨0, 0, 0, 0⟩)] (boxH1 op) (fun v H' => v = .agg (insnL (targetI op w)) ∧ H' = boxH1 op) := by
  refine Con.forget (R := fun v H' => v = .agg (insnL (targetI op w)) ∧ H' = ⟨2, (1, insnB (targetI op w)) :: [(0, boxI op)]⟩) ?_ ?_
  rotate_left
  · rintro v H' ⟨rfl, rfl⟩
    exact ⟨.agg (insnL (targetI op w)), boxH1 op, [0], idt1, by simp only [diff, notIn, and_self], rfl, ⟨box_le _ _, trivial⟩, insn_leV _, rfl, rfl⟩
  (refine con_of_run mixed (fn := Tryz.f103) (by kernel_rfl) (by kernel_rfl) C103_ok (rs := [.cn 16 3]) (by kernel_rfl) (Nat.le_of_ble_eq_true (by kernel_rfl)) ?_; unfold C103; simp only [initT, Nat.reduceAdd])
  simp only [boxH1, boxI]
  repeat' (first | refine run_seq ?_ | (refine run_region fun K hK => ?_; (try (simp (maxSteps := 10000000) only [C103r0, C103r1, rwp_nil, rwp_cons, aop, gpath, St.get, slotAt, sfx, eqP, St.put, addBlk, getB, ld1, rowNeed, segAt, shed, Seg.size, sizes, appL, argsOf, ptrsOf, Nat.reduceAdd])); (repeat (first | (refine And.intro ?_ ?_; · decide) | ((first | (refine call_t _ (con91 _ _ _ (by first | assumption | decide) (by first | assumption | decide) _) ?_; rintro v H' ⟨rfl, rfl⟩) | refine call_q _ (con91 _ _ _ (by first | assumption | decide) (by first | assumption | decide) _) ?_ | refine call_g _ (imp_of (con91 _ _ _ (by first | assumption | decide) (by first | assumption | decide) _)) ?_ | (refine call_t _ (con90 _ _ _) ?_; rintro v H' ⟨rfl, rfl⟩) | refine call_q _ (con90 _ _ _) ?_ | refine call_g _ (imp_of (con90 _ _ _)) ?_); simp (maxSteps := 10000000) only [rwp_nil, rwp_cons, rwpK_app, aop, gpath, St.get, slotAt, sfx, eqP, segsOf, St.put, addBlk, getB, setB, stn, setRow, rowNeed, nsub, shed, Nat.beq, Seg.size, sizes, takeS, dropS, putS, partsOf, fillS, exOk, Nat.reduceAdd, List.append_nil, List.nil_append, List.cons_append]))); with_reducible refine hK _ ?_; clear hK K) | refine run_ret ?_ | refine run_nil ?_)
  exact end_insn (b0 := [(0, boxI op)]) (targetI op w) [0] rfl idt1 (by simp only [diff, notIn, Nat.beq, and_self, List.cons_append, List.nil_append]) rfl rfl ⟨box_le _ _, trivial⟩ rfl (idu1 _) ⟨rfl, rfl⟩
def systemI (op w : Int) : InsnS := { nilI with op := op, rd := bitsS w 0 5, sys := bitsS w 5 15 }
theorem con104 (op w : Int)  : Con Tryz.prog 104 [.c (.int .u32 w), .c (.ptr ⟨0, 0, 0, 0⟩)] (boxH1 op) (fun v H' => v = .agg (insnL (systemI op w)) ∧ H' = boxH1 op) := by
  refine Con.forget (R := fun v H' => v = .agg (insnL (systemI op w)) ∧ H' = ⟨2, (1, insnB (systemI op w)) :: [(0, boxI op)]⟩) ?_ ?_
  rotate_left
  · rintro v H' ⟨rfl, rfl⟩
    exact ⟨.agg (insnL (systemI op w)), boxH1 op, [0], idt1, by simp only [diff, notIn, and_self], rfl, ⟨box_le _ _, trivial⟩, insn_leV _, rfl, rfl⟩
  (refine con_of_run mixed (fn := Tryz.f104) (by kernel_rfl) (by kernel_rfl) C104_ok (rs := [.cn 16 3]) (by kernel_rfl) (Nat.le_of_ble_eq_true (by kernel_rfl)) ?_; unfold C104; simp only [initT, Nat.reduceAdd])
  simp only [boxH1, boxI]
  repeat' (first | refine run_seq ?_ | (refine run_region fun K hK => ?_; (try (simp (maxSteps := 10000000) only [C104r0, C104r1, rwp_nil, rwp_cons, aop, gpath, St.get, slotAt, sfx, eqP, St.put, addBlk, getB, ld1, rowNeed, segAt, shed, Seg.size, sizes, appL, argsOf, ptrsOf, Nat.reduceAdd])); (repeat (first | (refine And.intro ?_ ?_; · decide) | ((first | (refine call_t _ (con91 _ _ _ (by first | assumption | decide) (by first | assumption | decide) _) ?_; rintro v H' ⟨rfl, rfl⟩) | refine call_q _ (con91 _ _ _ (by first | assumption | decide) (by first | assumption | decide) _) ?_ | refine call_g _ (imp_of (con91 _ _ _ (by first | assumption | decide) (by first | assumption | decide) _)) ?_ | (refine call_t _ (con90 _ _ _) ?_; rintro v H' ⟨rfl, rfl⟩) | refine call_q _ (con90 _ _ _) ?_ | refine call_g _ (imp_of (con90 _ _ _)) ?_); simp (maxSteps := 10000000) only [rwp_nil, rwp_cons, rwpK_app, aop, gpath, St.get, slotAt, sfx, eqP, segsOf, St.put, addBlk, getB, setB, stn, setRow, rowNeed, nsub, shed, Nat.beq, Seg.size, sizes, appL, argsOf, ptrsOf, takeS, dropS, putS, partsOf, fillS, exOk, Nat.reduceAdd, List.append_nil, List.nil_append, List.cons_append]))); with_reducible refine hK _ ?_; clear hK K) | refine run_ret ?_ | refine run_nil ?_)
  exact end_insn (b0 := [(0, boxI op)]) (systemI op w) [0] rfl idt1 (by simp only [diff, notIn, Nat.beq, and_self, List.cons_append, List.nil_append]) rfl rfl ⟨box_le _ _, trivial⟩ rfl (idu1 _) ⟨rfl, rfl⟩
def numberI (op sub at_ many w : Int) : InsnS := { nilI with op := op, sub := sub, imm := bitsS w at_ many }
theorem con102 (op sub at_ many w : Int) (h1 : 0 ≤ at_) (h2 : 0 ≤ many) : Con Tryz.prog 102 [.c (.int .u32 w), .c (.ptr ⟨0, 0, 0, 0⟩), .c (.ptr ⟨1, 0, 0, 0⟩), .c (.ptr ⟨2, 0, 0, 0⟩), .c (.ptr ⟨3, 0, 0, 0⟩)] (boxH4 op sub at_ many) (fun v H' => v = .agg (insnL (numberI op sub at_ many w)) ∧ H' = boxH4 op sub at_ many) := by
  refine Con.forget (R := fun v H' => v = .agg (insnL (numberI op sub at_ many w)) ∧ H' = ⟨5, (4, insnB (numberI op sub at_ many w)) :: [(0, boxI op), (1, boxI sub), (2, boxI at_), (3, boxI many)]⟩) ?_ ?_
  rotate_left
  · rintro v H' ⟨rfl, rfl⟩
    exact ⟨.agg (insnL (numberI op sub at_ many w)), boxH4 op sub at_ many, [0, 1, 2, 3], idt4, by simp only [diff, notIn, Nat.beq, and_self], rfl, ⟨box_le _ _, box_le _ _, box_le _ _, box_le _ _, trivial⟩, insn_leV _, rfl, rfl⟩
  (refine con_of_run mixed (fn := Tryz.f102) (by kernel_rfl) (by kernel_rfl) C102_ok (rs := [.cn 16 6]) (by kernel_rfl) (Nat.le_of_ble_eq_true (by kernel_rfl)) ?_; unfold C102; simp only [initT, Nat.reduceAdd])
  simp only [boxH4, boxI]
  repeat' (first | refine run_seq ?_ | (refine run_region fun K hK => ?_; (try (simp (maxSteps := 10000000) only [C102r0, C102r1, rwp_nil, rwp_cons, aop, gpath, St.get, slotAt, sfx, eqP, St.put, addBlk, getB, ld1, rowNeed, segAt, shed, Seg.size, sizes, appL, argsOf, ptrsOf, Nat.reduceAdd])); (repeat (first | (refine And.intro ?_ ?_; · decide) | ((first | (refine call_t _ (con91 _ _ _ (by first | assumption | decide) (by first | assumption | decide) _) ?_; rintro v H' ⟨rfl, rfl⟩) | refine call_q _ (con91 _ _ _ (by first | assumption | decide) (by first | assumption | decide) _) ?_ | refine call_g _ (imp_of (con91 _ _ _ (by first | assumption | decide) (by first | assumption | decide) _)) ?_ | (refine call_t _ (con90 _ _ _) ?_; rintro v H' ⟨rfl, rfl⟩) | refine call_q _ (con90 _ _ _) ?_ | refine call_g _ (imp_of (con90 _ _ _)) ?_); simp (maxSteps := 10000000) only [rwp_nil, rwp_cons, rwpK_app, aop, gpath, St.get, slotAt, sfx, eqP, segsOf, St.put, addBlk, getB, setB, stn, setRow, rowNeed, nsub, shed, Nat.beq, Seg.size, sizes, takeS, dropS, putS, partsOf, fillS, exOk, Nat.reduceAdd, List.append_nil, List.nil_append, List.cons_append]))); with_reducible refine hK _ ?_; clear hK K) | refine run_ret ?_ | refine run_nil ?_)
  exact end_insn (b0 := [(0, boxI op), (1, boxI sub), (2, boxI at_), (3, boxI many)]) (numberI op sub at_ many w) [0, 1, 2, 3] rfl idt4 (by simp only [diff, notIn, Nat.beq, and_self, List.cons_append, List.nil_append]) rfl rfl ⟨box_le _ _, box_le _ _, box_le _ _, box_le _ _, trivial⟩ rfl (idu4 _) ⟨rfl, rfl⟩
def exclI (op w : Int) : InsnS := { insnS w op with sub := bitsS w 15 1, rm := if op = 23 then 0 else (insnS w op).rm }
theorem con99 (op w : Int) : Con Tryz.prog 99 [.c (.int .u32 w), .c (.ptr ⟨0, 0, 0, 0⟩)] (boxH1 op) (fun v H' => v = .agg (insnL (exclI op w)) ∧ H' = boxH1 op) := by
  refine Con.forget (R := fun v H' => v = .agg (insnL (exclI op w)) ∧ H' = ⟨2, (1, insnB (exclI op w)) :: [(0, boxI op)]⟩) ?_ ?_
  rotate_left
  · rintro v H' ⟨rfl, rfl⟩
    exact ⟨.agg (insnL (exclI op w)), boxH1 op, [0], idt1, by simp only [diff, notIn, and_self], rfl, ⟨box_le _ _, trivial⟩, insn_leV _, rfl, rfl⟩
  (refine con_of_run mixed (fn := Tryz.f99) (by kernel_rfl) (by kernel_rfl) C99_ok (rs := [.cn 16 3]) (by kernel_rfl) (Nat.le_of_ble_eq_true (by kernel_rfl)) ?_; unfold C99; simp only [initT, Nat.reduceAdd])
  generalize hR : (fun (v : AV) (H' : Heap) => v = AV.agg (insnL (exclI op w)) ∧ H' = ⟨2, (1, insnB (exclI op w)) :: [(0, boxI op)]⟩) = R
  simp only [boxH1, boxI]
  repeat' (first | refine run_seq ?_ | refine run_skip ?_ | (refine run_region fun K hK => ?_; (try (simp (maxSteps := 10000000) only [C99r0, C99r1, C99r2, C99r3, C99r4, C99r5, rwp_nil, rwp_cons, aop, gpath, St.get, slotAt, sfx, eqP, St.put, addBlk, getB, setB, ld1, ldn, st1, stn, setRow, rowNeed, segAt, nsub, bin, isShift, sameK, arith, shed, addN, Nat.beq, Seg.size, sizes, appL, argsOf, ptrsOf, cut, takeS, dropS, putS, exOk, Nat.reduceAdd, List.append_nil, List.nil_append, List.cons_append])); (repeat (first | (refine And.intro ?_ ?_; · decide) | ((first | (refine call_t _ (con91 _ _ _ (by decide) (by decide) _) ?_; rintro v H' ⟨rfl, rfl⟩) | refine call_q _ (con91 _ _ _ (by decide) (by decide) _) ?_ | refine call_g _ (imp_of (con91 _ _ _ (by decide) (by decide) _)) ?_ | (refine call_t _ (con90 _ _ _) ?_; rintro v H' ⟨rfl, rfl⟩) | refine call_q _ (con90 _ _ _) ?_ | refine call_g _ (imp_of (con90 _ _ _)) ?_); simp (maxSteps := 10000000) only [insnL, rwp_nil, rwp_cons, rwpK_app, aop, gpath, St.get, slotAt, sfx, eqP, St.put, addBlk, getB, setB, st1, stn, setRow, rowNeed, segAt, nsub, shed, addN, Nat.beq, Seg.size, sizes, takeS, dropS, putS, exOk, Nat.reduceAdd, List.append_nil, List.nil_append, List.cons_append]))); with_reducible refine hK _ ?_; clear hK K) | (refine run_cond rfl (fun hc => ?_) (fun hc => ?_) <;> try (simp only [*, Bool.true_eq_false, Bool.false_eq_true, Bool.not_true, Bool.not_false, Bool.true_or, Bool.or_true, Bool.false_or, Bool.or_false, Bool.false_and, Bool.and_false, bne_self_eq_false, beq_self_eq_true] at hc; done)) | refine run_ret ?_ | refine run_nil ?_)
  · have h : op = 23 := by simpa using hc
    subst hR
    refine end_insn (b0 := [(0, boxI op)]) { insnS w op with sub := bitsS w 15 1, rm := 0 } [0] rfl idt1 (by simp only [diff, notIn, Nat.beq, and_self, List.cons_append, List.nil_append]) rfl rfl ⟨box_le _ _, trivial⟩ rfl (idu1 _) ?_
    have e : exclI op w = { insnS w op with sub := bitsS w 15 1, rm := 0 } := by simp only [exclI, h, if_true]
    rw [e]
    exact ⟨rfl, rfl⟩
  · have h : ¬ op = 23 := by simpa using hc
    subst hR
    refine end_insn (b0 := [(0, boxI op)]) { insnS w op with sub := bitsS w 15 1 } [0] rfl idt1 (by simp only [diff, notIn, Nat.beq, and_self, List.cons_append, List.nil_append]) rfl rfl ⟨box_le _ _, trivial⟩ rfl (idu1 _) ?_
    have e : exclI op w = { insnS w op with sub := bitsS w 15 1 } := by simp only [exclI, h, if_false]
    rw [e]
    exact ⟨rfl, rfl⟩
theorem con101 (at_ many w : Int) (i : InsnS) (h1 : 0 ≤ at_) (h2 : 0 ≤ many) : Con Tryz.prog 101 [.c (.int .u32 w), .agg (insnL i), .c (.ptr ⟨0, 0, 0, 0⟩), .c (.ptr ⟨1, 0, 0, 0⟩)] (boxH2 at_ many) (fun v H' => v = .c (.int .u32 (layS w i.imm at_ many)) ∧ H' = boxH2 at_ many) := by
  (refine con_of_run mixed (fn := Tryz.f101) (by kernel_rfl) (by kernel_rfl) C101_ok (rs := [.tmp 6]) (by kernel_rfl) (Nat.le_of_ble_eq_true (by kernel_rfl)) ?_; unfold C101; simp only [initT, Nat.reduceAdd])
  generalize hR : (fun (v : AV) (H' : Heap) => v = AV.c (.int .u32 (layS w i.imm at_ many)) ∧ H' = boxH2 at_ many) = R
  simp only [boxH2, boxI]
  repeat' (first | refine run_seq ?_ | (refine run_region fun K hK => ?_; (try (simp (maxSteps := 10000000) only [insnL, C101r0, C101r1, rwp_nil, rwp_cons, aop, gpath, St.get, slotAt, sfx, eqP, segsOf, St.put, addBlk, getB, ld1, rowNeed, segAt, nsub, shed, addN, Seg.size, sizes, appL, argsOf, ptrsOf, Nat.reduceAdd])); (repeat (first | (refine And.intro ?_ ?_; · decide) | ((first | (refine call_t _ (con88 _ _ _ _ (by assumption) (by assumption) _) ?_; rintro v H' ⟨rfl, rfl⟩) | refine call_q _ (con88 _ _ _ _ (by assumption) (by assumption) _) ?_ | refine call_g _ (imp_of (con88 _ _ _ _ (by assumption) (by assumption) _)) ?_); simp (maxSteps := 10000000) only [rwp_nil, rwp_cons, rwpK_app, aop, gpath, St.get, slotAt, sfx, eqP, St.put, addBlk, shed]))); with_reducible refine hK _ ?_; clear hK K) | refine run_ret ?_ | refine run_nil ?_)
  subst hR
  refine end_of ⟨[⟨6, [], .c (.int .u32 (layS w i.imm at_ many))⟩], boxH2 at_ many⟩ (LeS.intro [0, 1] idt2 (by simp only [diff, notIn, Nat.beq, and_self]) rfl ⟨⟨rfl, rfl⟩, trivial⟩ ⟨box_le _ _, box_le _ _, trivial⟩) ⟨rfl, rfl⟩
theorem con51 (a : Int) (n : Nat) (X : List (Nat × Blk)) (hkl : keysLt X n) : Con Tryz.prog 51 [.c (.int .i64 a)] ⟨n, X⟩ (fun v H' => v = .c (.fn 96 [] [⟨n, 0, 0, 0⟩]) ∧ H' = ⟨n + 1, (n, boxW a) :: X⟩) := by
  have h0 : Con Tryz.prog 51 [.c (.int .i64 a)] ⟨0, []⟩ (fun v H' => v = .c (.fn 96 [] [⟨0, 0, 0, 0⟩]) ∧ H' = ⟨1, [(0, boxW a)]⟩) := by
    (refine con_of_run mixed (fn := Tryz.f51) (by kernel_rfl) (by kernel_rfl) C51_ok (rs := [.tmp 2]) (by kernel_rfl) (Nat.le_of_ble_eq_true (by kernel_rfl)) ?_; unfold C51; simp only [initT])
    repeat' (first | refine run_seq ?_ | (refine run_region fun K hK => ?_; (try (simp (maxSteps := 10000000) only [C51r0, C51r1, rwp_nil, rwp_cons, aop, gpath, St.get, slotAt, sfx, eqP, segsOf, St.put, addBlk, shed, Seg.size, sizes, aasOf, Nat.reduceAdd])); (repeat (first | (refine And.intro ?_ ?_; · first | trivial | assumption | omega))); with_reducible refine hK _ ?_; clear hK K) | refine run_ret ?_ | refine run_nil ?_)
    refine end_of ⟨[⟨2, [], .c (.fn 96 [] [⟨0, 0, 0, 0⟩])⟩], ⟨1, [(0, boxW a)]⟩⟩ (LeS.intro [0] (fun i h => absurd h (Nat.not_lt_zero i)) (by simp only [diff, notIn, and_self]) rfl ?_ ?_) ⟨rfl, rfl⟩
    · simp only [slotsLe, slotAt, leV, leV1, leC, leAL, leA, nthO, and_self]
    · simp only [leBlks, nthO, getB]
      refine ⟨⟨rfl, rfl, id, Nat.le_refl _, fun _ _ => by simp only [boxW, leSegs, leSeg, leC, and_self]⟩, trivial⟩
  refine (h0.frame (H := ⟨n, X⟩) [] rfl trivial trivial hkl trivial (by simp only [leArgs, leV, leV1, leC, and_self])).weaken ?_
  rintro v H' ⟨v0, H0', ⟨rfl, rfl⟩, rfl, rfl⟩
  refine ⟨rfl, ?_⟩
  simp only [framed, dropB_none (l := []) (H0 := []) (fun _ => rfl)]
  rfl
theorem con53 (a : Int) (n : Nat) (X : List (Nat × Blk)) (hkl : keysLt X n) : Con Tryz.prog 53 [.c (.int .i64 a)] ⟨n, X⟩ (fun v H' => v = .c (.fn 97 [] [⟨n, 0, 0, 0⟩]) ∧ H' = ⟨n + 1, (n, boxW a) :: X⟩) := by
  have h0 : Con Tryz.prog 53 [.c (.int .i64 a)] ⟨0, []⟩ (fun v H' => v = .c (.fn 97 [] [⟨0, 0, 0, 0⟩]) ∧ H' = ⟨1, [(0, boxW a)]⟩) := by
    (refine con_of_run mixed (fn := Tryz.f53) (by kernel_rfl) (by kernel_rfl) C53_ok (rs := [.tmp 2]) (by kernel_rfl) (Nat.le_of_ble_eq_true (by kernel_rfl)) ?_; unfold C53; simp only [initT])
    repeat' (first | refine run_seq ?_ | (refine run_region fun K hK => ?_; (try (simp (maxSteps := 10000000) only [C53r0, C53r1, rwp_nil, rwp_cons, aop, gpath, St.get, slotAt, sfx, eqP, segsOf, St.put, addBlk, shed, Seg.size, sizes, aasOf, Nat.reduceAdd])); (repeat (first | (refine And.intro ?_ ?_; · first | trivial | assumption | omega))); with_reducible refine hK _ ?_; clear hK K) | refine run_ret ?_ | refine run_nil ?_)
    refine end_of ⟨[⟨2, [], .c (.fn 97 [] [⟨0, 0, 0, 0⟩])⟩], ⟨1, [(0, boxW a)]⟩⟩ (LeS.intro [0] (fun i h => absurd h (Nat.not_lt_zero i)) (by simp only [diff, notIn, and_self]) rfl ?_ ?_) ⟨rfl, rfl⟩
    · simp only [slotsLe, slotAt, leV, leV1, leC, leAL, leA, nthO, and_self]
    · simp only [leBlks, nthO, getB]
      refine ⟨⟨rfl, rfl, id, Nat.le_refl _, fun _ _ => by simp only [boxW, leSegs, leSeg, leC, and_self]⟩, trivial⟩
  refine (h0.frame (H := ⟨n, X⟩) [] rfl trivial trivial hkl trivial (by simp only [leArgs, leV, leV1, leC, and_self])).weaken ?_
  rintro v H' ⟨v0, H0', ⟨rfl, rfl⟩, rfl, rfl⟩
  refine ⟨rfl, ?_⟩
  simp only [framed, dropB_none (l := []) (H0 := []) (fun _ => rfl)]
  rfl
theorem con55 (a b : Int) (n : Nat) (X : List (Nat × Blk)) (hkl : keysLt X n) : Con Tryz.prog 55 [.c (.int .i64 a), .c (.int .i64 b)] ⟨n, X⟩ (fun v H' => v = .c (.fn 98 [] [⟨n, 0, 0, 0⟩, ⟨n + 1, 0, 0, 0⟩]) ∧ H' = ⟨n + 2, (n + 1, boxW b) :: (n, boxW a) :: X⟩) := by
  have h0 : Con Tryz.prog 55 [.c (.int .i64 a), .c (.int .i64 b)] ⟨0, []⟩ (fun v H' => v = .c (.fn 98 [] [⟨0, 0, 0, 0⟩, ⟨1, 0, 0, 0⟩]) ∧ H' = ⟨2, [(1, boxW b), (0, boxW a)]⟩) := by
    (refine con_of_run mixed (fn := Tryz.f55) (by kernel_rfl) (by kernel_rfl) C55_ok (rs := [.tmp 4]) (by kernel_rfl) (Nat.le_of_ble_eq_true (by kernel_rfl)) ?_; unfold C55; simp only [initT, Nat.reduceAdd])
    repeat' (first | refine run_seq ?_ | (refine run_region fun K hK => ?_; (try (simp (maxSteps := 10000000) only [C55r0, C55r1, rwp_nil, rwp_cons, aop, gpath, St.get, slotAt, sfx, eqP, segsOf, St.put, addBlk, shed, Seg.size, sizes, aasOf, Nat.reduceAdd])); (repeat (first | (refine And.intro ?_ ?_; · first | trivial | assumption | omega))); with_reducible refine hK _ ?_; clear hK K) | refine run_ret ?_ | refine run_nil ?_)
    refine end_of ⟨[⟨4, [], .c (.fn 98 [] [⟨0, 0, 0, 0⟩, ⟨1, 0, 0, 0⟩])⟩], ⟨2, [(1, boxW b), (0, boxW a)]⟩⟩ (LeS.intro [0, 1] (fun i h => absurd h (Nat.not_lt_zero i)) (by simp only [diff, notIn, Nat.beq, and_self]) rfl ?_ ?_) ⟨rfl, rfl⟩
    · simp only [slotsLe, slotAt, leV, leV1, leC, leAL, leA, nthO, and_self]
    · simp only [leBlks, nthO, getB]
      refine ⟨⟨rfl, rfl, id, Nat.le_refl _, fun _ _ => by simp only [boxW, leSegs, leSeg, leC, and_self]⟩, ⟨rfl, rfl, id, Nat.le_refl _, fun _ _ => by simp only [boxW, leSegs, leSeg, leC, and_self]⟩, trivial⟩
  refine (h0.frame (H := ⟨n, X⟩) [] rfl trivial trivial hkl trivial (by simp only [leArgs, leV, leV1, leC, and_self])).weaken ?_
  rintro v H' ⟨v0, H0', ⟨rfl, rfl⟩, rfl, rfl⟩
  refine ⟨rfl, ?_⟩
  simp only [framed, dropB_none (l := []) (H0 := []) (fun _ => rfl)]
  rfl
theorem con57 (a : Int) (n : Nat) (X : List (Nat × Blk)) (hkl : keysLt X n) : Con Tryz.prog 57 [.c (.int .i64 a)] ⟨n, X⟩ (fun v H' => v = .c (.fn 99 [] [⟨n, 0, 0, 0⟩]) ∧ H' = ⟨n + 1, (n, boxW a) :: X⟩) := by
  have h0 : Con Tryz.prog 57 [.c (.int .i64 a)] ⟨0, []⟩ (fun v H' => v = .c (.fn 99 [] [⟨0, 0, 0, 0⟩]) ∧ H' = ⟨1, [(0, boxW a)]⟩) := by
    (refine con_of_run mixed (fn := Tryz.f57) (by kernel_rfl) (by kernel_rfl) C57_ok (rs := [.tmp 2]) (by kernel_rfl) (Nat.le_of_ble_eq_true (by kernel_rfl)) ?_; unfold C57; simp only [initT])
    repeat' (first | refine run_seq ?_ | (refine run_region fun K hK => ?_; (try (simp (maxSteps := 10000000) only [C57r0, C57r1, rwp_nil, rwp_cons, aop, gpath, St.get, slotAt, sfx, eqP, segsOf, St.put, addBlk, shed, Seg.size, sizes, aasOf, Nat.reduceAdd])); (repeat (first | (refine And.intro ?_ ?_; · first | trivial | assumption | omega))); with_reducible refine hK _ ?_; clear hK K) | refine run_ret ?_ | refine run_nil ?_)
    refine end_of ⟨[⟨2, [], .c (.fn 99 [] [⟨0, 0, 0, 0⟩])⟩], ⟨1, [(0, boxW a)]⟩⟩ (LeS.intro [0] (fun i h => absurd h (Nat.not_lt_zero i)) (by simp only [diff, notIn, and_self]) rfl ?_ ?_) ⟨rfl, rfl⟩
    · simp only [slotsLe, slotAt, leV, leV1, leC, leAL, leA, nthO, and_self]
    · simp only [leBlks, nthO, getB]
      refine ⟨⟨rfl, rfl, id, Nat.le_refl _, fun _ _ => by simp only [boxW, leSegs, leSeg, leC, and_self]⟩, trivial⟩
  refine (h0.frame (H := ⟨n, X⟩) [] rfl trivial trivial hkl trivial (by simp only [leArgs, leV, leV1, leC, and_self])).weaken ?_
  rintro v H' ⟨v0, H0', ⟨rfl, rfl⟩, rfl, rfl⟩
  refine ⟨rfl, ?_⟩
  simp only [framed, dropB_none (l := []) (H0 := []) (fun _ => rfl)]
  rfl
theorem con58 (a : Int) (n : Nat) (X : List (Nat × Blk)) (hkl : keysLt X n) : Con Tryz.prog 58 [.c (.int .i64 a)] ⟨n, X⟩ (fun v H' => v = .c (.fn 100 [] [⟨n, 0, 0, 0⟩]) ∧ H' = ⟨n + 1, (n, boxW a) :: X⟩) := by
  have h0 : Con Tryz.prog 58 [.c (.int .i64 a)] ⟨0, []⟩ (fun v H' => v = .c (.fn 100 [] [⟨0, 0, 0, 0⟩]) ∧ H' = ⟨1, [(0, boxW a)]⟩) := by
    (refine con_of_run mixed (fn := Tryz.f58) (by kernel_rfl) (by kernel_rfl) C58_ok (rs := [.tmp 2]) (by kernel_rfl) (Nat.le_of_ble_eq_true (by kernel_rfl)) ?_; unfold C58; simp only [initT])
    repeat' (first | refine run_seq ?_ | (refine run_region fun K hK => ?_; (try (simp (maxSteps := 10000000) only [C58r0, C58r1, rwp_nil, rwp_cons, aop, gpath, St.get, slotAt, sfx, eqP, segsOf, St.put, addBlk, shed, Seg.size, sizes, aasOf, Nat.reduceAdd])); (repeat (first | (refine And.intro ?_ ?_; · first | trivial | assumption | omega))); with_reducible refine hK _ ?_; clear hK K) | refine run_ret ?_ | refine run_nil ?_)
    refine end_of ⟨[⟨2, [], .c (.fn 100 [] [⟨0, 0, 0, 0⟩])⟩], ⟨1, [(0, boxW a)]⟩⟩ (LeS.intro [0] (fun i h => absurd h (Nat.not_lt_zero i)) (by simp only [diff, notIn, and_self]) rfl ?_ ?_) ⟨rfl, rfl⟩
    · simp only [slotsLe, slotAt, leV, leV1, leC, leAL, leA, nthO, and_self]
    · simp only [leBlks, nthO, getB]
      refine ⟨⟨rfl, rfl, id, Nat.le_refl _, fun _ _ => by simp only [boxW, leSegs, leSeg, leC, and_self]⟩, trivial⟩
  refine (h0.frame (H := ⟨n, X⟩) [] rfl trivial trivial hkl trivial (by simp only [leArgs, leV, leV1, leC, and_self])).weaken ?_
  rintro v H' ⟨v0, H0', ⟨rfl, rfl⟩, rfl, rfl⟩
  refine ⟨rfl, ?_⟩
  simp only [framed, dropB_none (l := []) (H0 := []) (fun _ => rfl)]
  rfl
theorem con59 (a b : Int) (n : Nat) (X : List (Nat × Blk)) (hkl : keysLt X n) : Con Tryz.prog 59 [.c (.int .i64 a), .c (.int .i64 b)] ⟨n, X⟩ (fun v H' => v = .c (.fn 101 [] [⟨n, 0, 0, 0⟩, ⟨n + 1, 0, 0, 0⟩]) ∧ H' = ⟨n + 2, (n + 1, boxW b) :: (n, boxW a) :: X⟩) := by
  have h0 : Con Tryz.prog 59 [.c (.int .i64 a), .c (.int .i64 b)] ⟨0, []⟩ (fun v H' => v = .c (.fn 101 [] [⟨0, 0, 0, 0⟩, ⟨1, 0, 0, 0⟩]) ∧ H' = ⟨2, [(1, boxW b), (0, boxW a)]⟩) := by
    (refine con_of_run mixed (fn := Tryz.f59) (by kernel_rfl) (by kernel_rfl) C59_ok (rs := [.tmp 4]) (by kernel_rfl) (Nat.le_of_ble_eq_true (by kernel_rfl)) ?_; unfold C59; simp only [initT, Nat.reduceAdd])
    repeat' (first | refine run_seq ?_ | (refine run_region fun K hK => ?_; (try (simp (maxSteps := 10000000) only [C59r0, C59r1, rwp_nil, rwp_cons, aop, gpath, St.get, slotAt, sfx, eqP, segsOf, St.put, addBlk, shed, Seg.size, sizes, aasOf, Nat.reduceAdd])); (repeat (first | (refine And.intro ?_ ?_; · first | trivial | assumption | omega))); with_reducible refine hK _ ?_; clear hK K) | refine run_ret ?_ | refine run_nil ?_)
    refine end_of ⟨[⟨4, [], .c (.fn 101 [] [⟨0, 0, 0, 0⟩, ⟨1, 0, 0, 0⟩])⟩], ⟨2, [(1, boxW b), (0, boxW a)]⟩⟩ (LeS.intro [0, 1] (fun i h => absurd h (Nat.not_lt_zero i)) (by simp only [diff, notIn, Nat.beq, and_self]) rfl ?_ ?_) ⟨rfl, rfl⟩
    · simp only [slotsLe, slotAt, leV, leV1, leC, leAL, leA, nthO, and_self]
    · simp only [leBlks, nthO, getB]
      refine ⟨⟨rfl, rfl, id, Nat.le_refl _, fun _ _ => by simp only [boxW, leSegs, leSeg, leC, and_self]⟩, ⟨rfl, rfl, id, Nat.le_refl _, fun _ _ => by simp only [boxW, leSegs, leSeg, leC, and_self]⟩, trivial⟩
  refine (h0.frame (H := ⟨n, X⟩) [] rfl trivial trivial hkl trivial (by simp only [leArgs, leV, leV1, leC, and_self])).weaken ?_
  rintro v H' ⟨v0, H0', ⟨rfl, rfl⟩, rfl, rfl⟩
  refine ⟨rfl, ?_⟩
  simp only [framed, dropB_none (l := []) (H0 := []) (fun _ => rfl)]
  rfl
theorem con60 (a b c d : Int) (n : Nat) (X : List (Nat × Blk)) (hkl : keysLt X n) : Con Tryz.prog 60 [.c (.int .i64 a), .c (.int .i64 b), .c (.int .i64 c), .c (.int .i64 d)] ⟨n, X⟩ (fun v H' => v = .c (.fn 102 [] [⟨n, 0, 0, 0⟩, ⟨n + 1, 0, 0, 0⟩, ⟨n + 2, 0, 0, 0⟩, ⟨n + 3, 0, 0, 0⟩]) ∧ H' = ⟨n + 4, (n + 3, boxW d) :: (n + 2, boxW c) :: (n + 1, boxW b) :: (n, boxW a) :: X⟩) := by
  have h0 : Con Tryz.prog 60 [.c (.int .i64 a), .c (.int .i64 b), .c (.int .i64 c), .c (.int .i64 d)] ⟨0, []⟩ (fun v H' => v = .c (.fn 102 [] [⟨0, 0, 0, 0⟩, ⟨1, 0, 0, 0⟩, ⟨2, 0, 0, 0⟩, ⟨3, 0, 0, 0⟩]) ∧ H' = ⟨4, [(3, boxW d), (2, boxW c), (1, boxW b), (0, boxW a)]⟩) := by
    (refine con_of_run mixed (fn := Tryz.f60) (by kernel_rfl) (by kernel_rfl) C60_ok (rs := [.tmp 8]) (by kernel_rfl) (Nat.le_of_ble_eq_true (by kernel_rfl)) ?_; unfold C60; simp only [initT, Nat.reduceAdd])
    repeat' (first | refine run_seq ?_ | (refine run_region fun K hK => ?_; (try (simp (maxSteps := 10000000) only [C60r0, C60r1, rwp_nil, rwp_cons, aop, gpath, St.get, slotAt, sfx, eqP, segsOf, St.put, addBlk, shed, Seg.size, sizes, aasOf, Nat.reduceAdd])); (repeat (first | (refine And.intro ?_ ?_; · first | trivial | assumption | omega))); with_reducible refine hK _ ?_; clear hK K) | refine run_ret ?_ | refine run_nil ?_)
    refine end_of ⟨[⟨8, [], .c (.fn 102 [] [⟨0, 0, 0, 0⟩, ⟨1, 0, 0, 0⟩, ⟨2, 0, 0, 0⟩, ⟨3, 0, 0, 0⟩])⟩], ⟨4, [(3, boxW d), (2, boxW c), (1, boxW b), (0, boxW a)]⟩⟩ (LeS.intro [0, 1, 2, 3] (fun i h => absurd h (Nat.not_lt_zero i)) (by simp only [diff, notIn, Nat.beq, and_self]) rfl ?_ ?_) ⟨rfl, rfl⟩
    · simp only [slotsLe, slotAt, leV, leV1, leC, leAL, leA, nthO, and_self]
    · simp only [leBlks, nthO, getB]
      refine ⟨⟨rfl, rfl, id, Nat.le_refl _, fun _ _ => by simp only [boxW, leSegs, leSeg, leC, and_self]⟩, ⟨rfl, rfl, id, Nat.le_refl _, fun _ _ => by simp only [boxW, leSegs, leSeg, leC, and_self]⟩, ⟨rfl, rfl, id, Nat.le_refl _, fun _ _ => by simp only [boxW, leSegs, leSeg, leC, and_self]⟩, ⟨rfl, rfl, id, Nat.le_refl _, fun _ _ => by simp only [boxW, leSegs, leSeg, leC, and_self]⟩, trivial⟩
  refine (h0.frame (H := ⟨n, X⟩) [] rfl trivial trivial hkl trivial (by simp only [leArgs, leV, leV1, leC, and_self])).weaken ?_
  rintro v H' ⟨v0, H0', ⟨rfl, rfl⟩, rfl, rfl⟩
  refine ⟨rfl, ?_⟩
  simp only [framed, dropB_none (l := []) (H0 := []) (fun _ => rfl)]
  rfl
theorem con61 (a : Int) (n : Nat) (X : List (Nat × Blk)) (hkl : keysLt X n) : Con Tryz.prog 61 [.c (.int .i64 a)] ⟨n, X⟩ (fun v H' => v = .c (.fn 103 [] [⟨n, 0, 0, 0⟩]) ∧ H' = ⟨n + 1, (n, boxW a) :: X⟩) := by
  have h0 : Con Tryz.prog 61 [.c (.int .i64 a)] ⟨0, []⟩ (fun v H' => v = .c (.fn 103 [] [⟨0, 0, 0, 0⟩]) ∧ H' = ⟨1, [(0, boxW a)]⟩) := by
    (refine con_of_run mixed (fn := Tryz.f61) (by kernel_rfl) (by kernel_rfl) C61_ok (rs := [.tmp 2]) (by kernel_rfl) (Nat.le_of_ble_eq_true (by kernel_rfl)) ?_; unfold C61; simp only [initT])
    repeat' (first | refine run_seq ?_ | (refine run_region fun K hK => ?_; (try (simp (maxSteps := 10000000) only [C61r0, C61r1, rwp_nil, rwp_cons, aop, gpath, St.get, slotAt, sfx, eqP, segsOf, St.put, addBlk, shed, Seg.size, sizes, aasOf, Nat.reduceAdd])); (repeat (first | (refine And.intro ?_ ?_; · first | trivial | assumption | omega))); with_reducible refine hK _ ?_; clear hK K) | refine run_ret ?_ | refine run_nil ?_)
    refine end_of ⟨[⟨2, [], .c (.fn 103 [] [⟨0, 0, 0, 0⟩])⟩], ⟨1, [(0, boxW a)]⟩⟩ (LeS.intro [0] (fun i h => absurd h (Nat.not_lt_zero i)) (by simp only [diff, notIn, and_self]) rfl ?_ ?_) ⟨rfl, rfl⟩
    · simp only [slotsLe, slotAt, leV, leV1, leC, leAL, leA, nthO, and_self]
    · simp only [leBlks, nthO, getB]
      refine ⟨⟨rfl, rfl, id, Nat.le_refl _, fun _ _ => by simp only [boxW, leSegs, leSeg, leC, and_self]⟩, trivial⟩
  refine (h0.frame (H := ⟨n, X⟩) [] rfl trivial trivial hkl trivial (by simp only [leArgs, leV, leV1, leC, and_self])).weaken ?_
  rintro v H' ⟨v0, H0', ⟨rfl, rfl⟩, rfl, rfl⟩
  refine ⟨rfl, ?_⟩
  simp only [framed, dropB_none (l := []) (H0 := []) (fun _ => rfl)]
  rfl
theorem con63 (a : Int) (n : Nat) (X : List (Nat × Blk)) (hkl : keysLt X n) : Con Tryz.prog 63 [.c (.int .i64 a)] ⟨n, X⟩ (fun v H' => v = .c (.fn 104 [] [⟨n, 0, 0, 0⟩]) ∧ H' = ⟨n + 1, (n, boxW a) :: X⟩) := by
  have h0 : Con Tryz.prog 63 [.c (.int .i64 a)] ⟨0, []⟩ (fun v H' => v = .c (.fn 104 [] [⟨0, 0, 0, 0⟩]) ∧ H' = ⟨1, [(0, boxW a)]⟩) := by
    (refine con_of_run mixed (fn := Tryz.f63) (by kernel_rfl) (by kernel_rfl) C63_ok (rs := [.tmp 2]) (by kernel_rfl) (Nat.le_of_ble_eq_true (by kernel_rfl)) ?_; unfold C63; simp only [initT])
    repeat' (first | refine run_seq ?_ | (refine run_region fun K hK => ?_; (try (simp (maxSteps := 10000000) only [C63r0, C63r1, rwp_nil, rwp_cons, aop, gpath, St.get, slotAt, sfx, eqP, segsOf, St.put, addBlk, shed, Seg.size, sizes, aasOf, Nat.reduceAdd])); (repeat (first | (refine And.intro ?_ ?_; · first | trivial | assumption | omega))); with_reducible refine hK _ ?_; clear hK K) | refine run_ret ?_ | refine run_nil ?_)
    refine end_of ⟨[⟨2, [], .c (.fn 104 [] [⟨0, 0, 0, 0⟩])⟩], ⟨1, [(0, boxW a)]⟩⟩ (LeS.intro [0] (fun i h => absurd h (Nat.not_lt_zero i)) (by simp only [diff, notIn, and_self]) rfl ?_ ?_) ⟨rfl, rfl⟩
    · simp only [slotsLe, slotAt, leV, leV1, leC, leAL, leA, nthO, and_self]
    · simp only [leBlks, nthO, getB]
      refine ⟨⟨rfl, rfl, id, Nat.le_refl _, fun _ _ => by simp only [boxW, leSegs, leSeg, leC, and_self]⟩, trivial⟩
  refine (h0.frame (H := ⟨n, X⟩) [] rfl trivial trivial hkl trivial (by simp only [leArgs, leV, leV1, leC, and_self])).weaken ?_
  rintro v H' ⟨v0, H0', ⟨rfl, rfl⟩, rfl, rfl⟩
  refine ⟨rfl, ?_⟩
  simp only [framed, dropB_none (l := []) (H0 := []) (fun _ => rfl)]
  rfl
end Go.Proofs.YteikpddilabppaaGreatR

namespace Go.Proofs.YteikpddilabppaaGreatR
open Go.AM
set_option maxRecDepth 100000
set_option linter.unusedSimpArgs false
set_option linter.unusedVariables false
def fOp : Nat → Int
  | 0 => 1
  | 1 => 2
  | 2 => 3
  | 3 => 4
  | 4 => 5
  | 5 => 6
  | 6 => 7
  | 7 => 8
  | 8 => 9
  | 9 => 10
  | 10 => 11
  | 11 => 12
  | 12 => 13
  | 13 => 14
  | 14 => 15
  | 15 => 16
  | 16 => 17
  | 17 => 18
  | 18 => 19
  | 19 => 20
  | 20 => 21
  | 21 => 21
  | 22 => 22
  | 23 => 23
  | 24 => 24
  | 25 => 25
  | 26 => 26
  | 27 => 26
  | 28 => 27
  | 29 => 28
  | 30 => 30
  | 31 => 29
  | 32 => 31
  | 33 => 32
  | 34 => 33
  | 35 => 33
  | 36 => 34
  | 37 => 35
  | 38 => 36
  | 39 => 37
  | _ => 0
def fSub : Nat → Int
  | 0 => (-1)
  | 1 => (-1)
  | 2 => (-1)
  | 3 => (-1)
  | 4 => (-1)
  | 5 => (-1)
  | 6 => (-1)
  | 7 => (-1)
  | 8 => (-1)
  | 9 => (-1)
  | 10 => (-1)
  | 11 => (-1)
  | 12 => (-1)
  | 13 => (-1)
  | 14 => (-1)
  | 15 => (-1)
  | 16 => (-1)
  | 17 => (-1)
  | 18 => (-1)
  | 19 => (-1)
  | 20 => 0
  | 21 => 1
  | 22 => (-1)
  | 23 => (-1)
  | 24 => (-1)
  | 25 => (-1)
  | 26 => 0
  | 27 => 1
  | 28 => (-1)
  | 29 => (-1)
  | 30 => (-1)
  | 31 => (-1)
  | 32 => (-1)
  | 33 => (-1)
  | 34 => 0
  | 35 => 1
  | 36 => (-1)
  | 37 => (-1)
  | 38 => (-1)
  | 39 => (-1)
  | _ => 0
def fMask : Nat → Int
  | 0 => 2675965952
  | 1 => 2669674496
  | 2 => 2667577344
  | 3 => 2675965952
  | 4 => 2675965952
  | 5 => 2680160256
  | 6 => 4292931584
  | 7 => 4292870144
  | 8 => 4292933632
  | 9 => 3219130368
  | 10 => 520093696
  | 11 => 2080374784
  | 12 => 4278190096
  | 13 => 4261412864
  | 14 => 2113929216
  | 15 => 4288674847
  | 16 => 4290772992
  | 17 => 4290772992
  | 18 => 4292930560
  | 19 => 4292930560
  | 20 => 4294966272
  | 21 => 4294966272
  | 22 => 4294966272
  | 23 => 4294933504
  | 24 => 4292901888
  | 25 => 4294967295
  | 26 => 4294966527
  | 27 => 4294966527
  | 28 => 4294967295
  | 29 => 4294967264
  | 30 => 4294967264
  | 31 => 4294967295
  | 32 => 4293918720
  | 33 => 4293918720
  | 34 => 4294963455
  | 35 => 4294963455
  | 36 => 4292870175
  | 37 => 4292870175
  | 38 => 4294967295
  | 39 => 4294967071
  | _ => 0
def fBase : Nat → Int
  | 0 => 2432696320
  | 1 => 2332033024
  | 2 => 2315255808
  | 3 => 2449473536
  | 4 => 2457862144
  | 5 => 2470445056
  | 6 => 2596282368
  | 7 => 2600468480
  | 8 => 2596276224
  | 9 => 2592079872
  | 10 => 268435456
  | 11 => 335544320
  | 12 => 1409286144
  | 13 => 3019898880
  | 14 => 905969664
  | 15 => 3592355840
  | 16 => 4181721088
  | 17 => 4177526784
  | 18 => 4167067648
  | 19 => 4162873344
  | 20 => 3370122240
  | 21 => 4173316096
  | 22 => 3365927936
  | 23 => 3361700864
  | 24 => 3355474944
  | 25 => 3573759839
  | 26 => 3573759167
  | 27 => 3573759135
  | 28 => 3573759967
  | 29 => 3574297888
  | 30 => 3574299424
  | 31 => 3574101279
  | 32 => 3576692736
  | 33 => 3574595584
  | 34 => 3573760223
  | 35 => 3573760255
  | 36 => 3556769793
  | 37 => 3558866944
  | 38 => 3600745440
  | 39 => 3573751839
  | _ => 0
def fPut : Nat → Nat
  | 0 => 19
  | 1 => 21
  | 2 => 23
  | 3 => 25
  | 4 => 27
  | 5 => 29
  | 6 => 31
  | 7 => 33
  | 8 => 31
  | 9 => 36
  | 10 => 38
  | 11 => 40
  | 12 => 42
  | 13 => 44
  | 14 => 46
  | 15 => 48
  | 16 => 50
  | 17 => 50
  | 18 => 52
  | 19 => 52
  | 20 => 54
  | 21 => 54
  | 22 => 54
  | 23 => 56
  | 24 => 56
  | 25 => 54
  | 26 => 101
  | 27 => 101
  | 28 => 54
  | 29 => 54
  | 30 => 54
  | 31 => 54
  | 32 => 62
  | 33 => 62
  | 34 => 101
  | 35 => 101
  | 36 => 101
  | 37 => 101
  | 38 => 54
  | 39 => 101
  | _ => 0
def fPutC : Nat → List AA
  | 26 => [⟨13, 0, 0, 0⟩, ⟨14, 0, 0, 0⟩]
  | 27 => [⟨19, 0, 0, 0⟩, ⟨20, 0, 0, 0⟩]
  | 34 => [⟨31, 0, 0, 0⟩, ⟨32, 0, 0, 0⟩]
  | 35 => [⟨37, 0, 0, 0⟩, ⟨38, 0, 0, 0⟩]
  | 36 => [⟨43, 0, 0, 0⟩, ⟨44, 0, 0, 0⟩]
  | 37 => [⟨49, 0, 0, 0⟩, ⟨50, 0, 0, 0⟩]
  | 39 => [⟨56, 0, 0, 0⟩, ⟨57, 0, 0, 0⟩]
  | _ => []
def fTake : Nat → Nat
  | 0 => 20
  | 1 => 22
  | 2 => 24
  | 3 => 26
  | 4 => 28
  | 5 => 30
  | 6 => 32
  | 7 => 34
  | 8 => 35
  | 9 => 37
  | 10 => 39
  | 11 => 41
  | 12 => 43
  | 13 => 45
  | 14 => 47
  | 15 => 49
  | 16 => 96
  | 17 => 96
  | 18 => 97
  | 19 => 97
  | 20 => 98
  | 21 => 98
  | 22 => 98
  | 23 => 99
  | 24 => 99
  | 25 => 100
  | 26 => 102
  | 27 => 102
  | 28 => 100
  | 29 => 103
  | 30 => 103
  | 31 => 100
  | 32 => 104
  | 33 => 104
  | 34 => 102
  | 35 => 102
  | 36 => 102
  | 37 => 102
  | 38 => 100
  | 39 => 102
  | _ => 0
def fTakeC : Nat → List AA
  | 16 => [⟨0, 0, 0, 0⟩]
  | 17 => [⟨1, 0, 0, 0⟩]
  | 18 => [⟨2, 0, 0, 0⟩]
  | 19 => [⟨3, 0, 0, 0⟩]
  | 20 => [⟨4, 0, 0, 0⟩, ⟨5, 0, 0, 0⟩]
  | 21 => [⟨6, 0, 0, 0⟩, ⟨7, 0, 0, 0⟩]
  | 22 => [⟨8, 0, 0, 0⟩, ⟨9, 0, 0, 0⟩]
  | 23 => [⟨10, 0, 0, 0⟩]
  | 24 => [⟨11, 0, 0, 0⟩]
  | 25 => [⟨12, 0, 0, 0⟩]
  | 26 => [⟨15, 0, 0, 0⟩, ⟨16, 0, 0, 0⟩, ⟨17, 0, 0, 0⟩, ⟨18, 0, 0, 0⟩]
  | 27 => [⟨21, 0, 0, 0⟩, ⟨22, 0, 0, 0⟩, ⟨23, 0, 0, 0⟩, ⟨24, 0, 0, 0⟩]
  | 28 => [⟨25, 0, 0, 0⟩]
  | 29 => [⟨26, 0, 0, 0⟩]
  | 30 => [⟨27, 0, 0, 0⟩]
  | 31 => [⟨28, 0, 0, 0⟩]
  | 32 => [⟨29, 0, 0, 0⟩]
  | 33 => [⟨30, 0, 0, 0⟩]
  | 34 => [⟨33, 0, 0, 0⟩, ⟨34, 0, 0, 0⟩, ⟨35, 0, 0, 0⟩, ⟨36, 0, 0, 0⟩]
  | 35 => [⟨39, 0, 0, 0⟩, ⟨40, 0, 0, 0⟩, ⟨41, 0, 0, 0⟩, ⟨42, 0, 0, 0⟩]
  | 36 => [⟨45, 0, 0, 0⟩, ⟨46, 0, 0, 0⟩, ⟨47, 0, 0, 0⟩, ⟨48, 0, 0, 0⟩]
  | 37 => [⟨51, 0, 0, 0⟩, ⟨52, 0, 0, 0⟩, ⟨53, 0, 0, 0⟩, ⟨54, 0, 0, 0⟩]
  | 38 => [⟨55, 0, 0, 0⟩]
  | 39 => [⟨58, 0, 0, 0⟩, ⟨59, 0, 0, 0⟩, ⟨60, 0, 0, 0⟩, ⟨61, 0, 0, 0⟩]
  | _ => []
def boxV : Nat → Int
  | 0 => 17
  | 1 => 18
  | 2 => 19
  | 3 => 20
  | 4 => 21
  | 5 => 0
  | 6 => 21
  | 7 => 1
  | 8 => 22
  | 9 => 0
  | 10 => 23
  | 11 => 24
  | 12 => 25
  | 13 => 8
  | 14 => 2
  | 15 => 26
  | 16 => 0
  | 17 => 8
  | 18 => 2
  | 19 => 8
  | 20 => 2
  | 21 => 26
  | 22 => 1
  | 23 => 8
  | 24 => 2
  | 25 => 27
  | 26 => 28
  | 27 => 30
  | 28 => 29
  | 29 => 31
  | 30 => 32
  | 31 => 8
  | 32 => 4
  | 33 => 33
  | 34 => 0
  | 35 => 8
  | 36 => 4
  | 37 => 8
  | 38 => 4
  | 39 => 33
  | 40 => 1
  | 41 => 8
  | 42 => 4
  | 43 => 5
  | 44 => 16
  | 45 => 34
  | 46 => 0
  | 47 => 5
  | 48 => 16
  | 49 => 5
  | 50 => 16
  | 51 => 35
  | 52 => 0
  | 53 => 5
  | 54 => 16
  | 55 => 36
  | 56 => 5
  | 57 => 3
  | 58 => 37
  | 59 => 0
  | 60 => 5
  | 61 => 3
  | _ => 0
def formRow (i : Nat) : List Seg := [.c (.int .i64 (fOp i)), .c (.int .i64 (fSub i)), .c (.int .u32 (fMask i)), .c (.int .u32 (fBase i)), .c (.fn (fPut i) [] (fPutC i)), .c (.fn (fTake i) [] (fTakeC i))]
def formBk (w : Bool) : Blk := ⟨6, some 40, formRow, 42, w⟩
def formsW : List (Nat × Blk) := (62, formBk true) :: [(61, boxW (boxV 61)), (60, boxW (boxV 60)), (59, boxW (boxV 59)), (58, boxW (boxV 58)), (57, boxW (boxV 57)), (56, boxW (boxV 56)), (55, boxW (boxV 55)), (54, boxW (boxV 54)), (53, boxW (boxV 53)), (52, boxW (boxV 52)), (51, boxW (boxV 51)), (50, boxW (boxV 50)), (49, boxW (boxV 49)), (48, boxW (boxV 48)), (47, boxW (boxV 47)), (46, boxW (boxV 46)), (45, boxW (boxV 45)), (44, boxW (boxV 44)), (43, boxW (boxV 43)), (42, boxW (boxV 42)), (41, boxW (boxV 41)), (40, boxW (boxV 40)), (39, boxW (boxV 39)), (38, boxW (boxV 38)), (37, boxW (boxV 37)), (36, boxW (boxV 36)), (35, boxW (boxV 35)), (34, boxW (boxV 34)), (33, boxW (boxV 33)), (32, boxW (boxV 32)), (31, boxW (boxV 31)), (30, boxW (boxV 30)), (29, boxW (boxV 29)), (28, boxW (boxV 28)), (27, boxW (boxV 27)), (26, boxW (boxV 26)), (25, boxW (boxV 25)), (24, boxW (boxV 24)), (23, boxW (boxV 23)), (22, boxW (boxV 22)), (21, boxW (boxV 21)), (20, boxW (boxV 20)), (19, boxW (boxV 19)), (18, boxW (boxV 18)), (17, boxW (boxV 17)), (16, boxW (boxV 16)), (15, boxW (boxV 15)), (14, boxW (boxV 14)), (13, boxW (boxV 13)), (12, boxW (boxV 12)), (11, boxW (boxV 11)), (10, boxW (boxV 10)), (9, boxW (boxV 9)), (8, boxW (boxV 8)), (7, boxW (boxV 7)), (6, boxW (boxV 6)), (5, boxW (boxV 5)), (4, boxW (boxV 4)), (3, boxW (boxV 3)), (2, boxW (boxV 2)), (1, boxW (boxV 1)), (0, boxW (boxV 0))]
def formsL : List Seg := [.c (.int .i64 1), .c (.int .i64 (-1)), .c (.int .u32 2675965952), .c (.int .u32 2432696320), .c (.fn 19 [] []), .c (.fn 20 [] []), .c (.int .i64 2), .c (.int .i64 (-1)), .c (.int .u32 2669674496), .c (.int .u32 2332033024), .c (.fn 21 [] []), .c (.fn 22 [] []), .c (.int .i64 3), .c (.int .i64 (-1)), .c (.int .u32 2667577344), .c (.int .u32 2315255808), .c (.fn 23 [] []), .c (.fn 24 [] []), .c (.int .i64 4), .c (.int .i64 (-1)), .c (.int .u32 2675965952), .c (.int .u32 2449473536), .c (.fn 25 [] []), .c (.fn 26 [] []), .c (.int .i64 5), .c (.int .i64 (-1)), .c (.int .u32 2675965952), .c (.int .u32 2457862144), .c (.fn 27 [] []), .c (.fn 28 [] []), .c (.int .i64 6), .c (.int .i64 (-1)), .c (.int .u32 2680160256), .c (.int .u32 2470445056), .c (.fn 29 [] []), .c (.fn 30 [] []), .c (.int .i64 7), .c (.int .i64 (-1)), .c (.int .u32 4292931584), .c (.int .u32 2596282368), .c (.fn 31 [] []), .c (.fn 32 [] []), .c (.int .i64 8), .c (.int .i64 (-1)), .c (.int .u32 4292870144), .c (.int .u32 2600468480), .c (.fn 33 [] []), .c (.fn 34 [] []), .c (.int .i64 9), .c (.int .i64 (-1)), .c (.int .u32 4292933632), .c (.int .u32 2596276224), .c (.fn 31 [] []), .c (.fn 35 [] []), .c (.int .i64 10), .c (.int .i64 (-1)), .c (.int .u32 3219130368), .c (.int .u32 2592079872), .c (.fn 36 [] []), .c (.fn 37 [] []), .c (.int .i64 11), .c (.int .i64 (-1)), .c (.int .u32 520093696), .c (.int .u32 268435456), .c (.fn 38 [] []), .c (.fn 39 [] []), .c (.int .i64 12), .c (.int .i64 (-1)), .c (.int .u32 2080374784), .c (.int .u32 335544320), .c (.fn 40 [] []), .c (.fn 41 [] []), .c (.int .i64 13), .c (.int .i64 (-1)), .c (.int .u32 4278190096), .c (.int .u32 1409286144), .c (.fn 42 [] []), .c (.fn 43 [] []), .c (.int .i64 14), .c (.int .i64 (-1)), .c (.int .u32 4261412864), .c (.int .u32 3019898880), .c (.fn 44 [] []), .c (.fn 45 [] []), .c (.int .i64 15), .c (.int .i64 (-1)), .c (.int .u32 2113929216), .c (.int .u32 905969664), .c (.fn 46 [] []), .c (.fn 47 [] []), .c (.int .i64 16), .c (.int .i64 (-1)), .c (.int .u32 4288674847), .c (.int .u32 3592355840), .c (.fn 48 [] []), .c (.fn 49 [] []), .c (.int .i64 17), .c (.int .i64 (-1)), .c (.int .u32 4290772992), .c (.int .u32 4181721088), .c (.fn 50 [] []), .c (.fn 96 [] [⟨0, 0, 0, 0⟩]), .c (.int .i64 18), .c (.int .i64 (-1)), .c (.int .u32 4290772992), .c (.int .u32 4177526784), .c (.fn 50 [] []), .c (.fn 96 [] [⟨1, 0, 0, 0⟩]), .c (.int .i64 19), .c (.int .i64 (-1)), .c (.int .u32 4292930560), .c (.int .u32 4167067648), .c (.fn 52 [] []), .c (.fn 97 [] [⟨2, 0, 0, 0⟩]), .c (.int .i64 20), .c (.int .i64 (-1)), .c (.int .u32 4292930560), .c (.int .u32 4162873344), .c (.fn 52 [] []), .c (.fn 97 [] [⟨3, 0, 0, 0⟩]), .c (.int .i64 21), .c (.int .i64 0), .c (.int .u32 4294966272), .c (.int .u32 3370122240), .c (.fn 54 [] []), .c (.fn 98 [] [⟨4, 0, 0, 0⟩, ⟨5, 0, 0, 0⟩]), .c (.int .i64 21), .c (.int .i64 1), .c (.int .u32 4294966272), .c (.int .u32 4173316096), .c (.fn 54 [] []), .c (.fn 98 [] [⟨6, 0, 0, 0⟩, ⟨7, 0, 0, 0⟩]), .c (.int .i64 22), .c (.int .i64 (-1)), .c (.int .u32 4294966272), .c (.int .u32 3365927936), .c (.fn 54 [] []), .c (.fn 98 [] [⟨8, 0, 0, 0⟩, ⟨9, 0, 0, 0⟩]), .c (.int .i64 23), .c (.int .i64 (-1)), .c (.int .u32 4294933504), .c (.int .u32 3361700864), .c (.fn 56 [] []), .c (.fn 99 [] [⟨10, 0, 0, 0⟩]), .c (.int .i64 24), .c (.int .i64 (-1)), .c (.int .u32 4292901888), .c (.int .u32 3355474944), .c (.fn 56 [] []), .c (.fn 99 [] [⟨11, 0, 0, 0⟩]), .c (.int .i64 25), .c (.int .i64 (-1)), .c (.int .u32 4294967295), .c (.int .u32 3573759839), .c (.fn 54 [] []), .c (.fn 100 [] [⟨12, 0, 0, 0⟩]), .c (.int .i64 26), .c (.int .i64 0), .c (.int .u32 4294966527), .c (.int .u32 3573759167), .c (.fn 101 [] [⟨13, 0, 0, 0⟩, ⟨14, 0, 0, 0⟩]), .c (.fn 102 [] [⟨15, 0, 0, 0⟩, ⟨16, 0, 0, 0⟩, ⟨17, 0, 0, 0⟩, ⟨18, 0, 0, 0⟩]), .c (.int .i64 26), .c (.int .i64 1), .c (.int .u32 4294966527), .c (.int .u32 3573759135), .c (.fn 101 [] [⟨19, 0, 0, 0⟩, ⟨20, 0, 0, 0⟩]), .c (.fn 102 [] [⟨21, 0, 0, 0⟩, ⟨22, 0, 0, 0⟩, ⟨23, 0, 0, 0⟩, ⟨24, 0, 0, 0⟩]), .c (.int .i64 27), .c (.int .i64 (-1)), .c (.int .u32 4294967295), .c (.int .u32 3573759967), .c (.fn 54 [] []), .c (.fn 100 [] [⟨25, 0, 0, 0⟩]), .c (.int .i64 28), .c (.int .i64 (-1)), .c (.int .u32 4294967264), .c (.int .u32 3574297888), .c (.fn 54 [] []), .c (.fn 103 [] [⟨26, 0, 0, 0⟩]), .c (.int .i64 30), .c (.int .i64 (-1)), .c (.int .u32 4294967264), .c (.int .u32 3574299424), .c (.fn 54 [] []), .c (.fn 103 [] [⟨27, 0, 0, 0⟩]), .c (.int .i64 29), .c (.int .i64 (-1)), .c (.int .u32 4294967295), .c (.int .u32 3574101279), .c (.fn 54 [] []), .c (.fn 100 [] [⟨28, 0, 0, 0⟩]), .c (.int .i64 31), .c (.int .i64 (-1)), .c (.int .u32 4293918720), .c (.int .u32 3576692736), .c (.fn 62 [] []), .c (.fn 104 [] [⟨29, 0, 0, 0⟩]), .c (.int .i64 32), .c (.int .i64 (-1)), .c (.int .u32 4293918720), .c (.int .u32 3574595584), .c (.fn 62 [] []), .c (.fn 104 [] [⟨30, 0, 0, 0⟩]), .c (.int .i64 33), .c (.int .i64 0), .c (.int .u32 4294963455), .c (.int .u32 3573760223), .c (.fn 101 [] [⟨31, 0, 0, 0⟩, ⟨32, 0, 0, 0⟩]), .c (.fn 102 [] [⟨33, 0, 0, 0⟩, ⟨34, 0, 0, 0⟩, ⟨35, 0, 0, 0⟩, ⟨36, 0, 0, 0⟩]), .c (.int .i64 33), .c (.int .i64 1), .c (.int .u32 4294963455), .c (.int .u32 3573760255), .c (.fn 101 [] [⟨37, 0, 0, 0⟩, ⟨38, 0, 0, 0⟩]), .c (.fn 102 [] [⟨39, 0, 0, 0⟩, ⟨40, 0, 0, 0⟩, ⟨41, 0, 0, 0⟩, ⟨42, 0, 0, 0⟩]), .c (.int .i64 34), .c (.int .i64 (-1)), .c (.int .u32 4292870175), .c (.int .u32 3556769793), .c (.fn 101 [] [⟨43, 0, 0, 0⟩, ⟨44, 0, 0, 0⟩]), .c (.fn 102 [] [⟨45, 0, 0, 0⟩, ⟨46, 0, 0, 0⟩, ⟨47, 0, 0, 0⟩, ⟨48, 0, 0, 0⟩]), .c (.int .i64 35), .c (.int .i64 (-1)), .c (.int .u32 4292870175), .c (.int .u32 3558866944), .c (.fn 101 [] [⟨49, 0, 0, 0⟩, ⟨50, 0, 0, 0⟩]), .c (.fn 102 [] [⟨51, 0, 0, 0⟩, ⟨52, 0, 0, 0⟩, ⟨53, 0, 0, 0⟩, ⟨54, 0, 0, 0⟩]), .c (.int .i64 36), .c (.int .i64 (-1)), .c (.int .u32 4294967295), .c (.int .u32 3600745440), .c (.fn 54 [] []), .c (.fn 100 [] [⟨55, 0, 0, 0⟩]), .c (.int .i64 37), .c (.int .i64 (-1)), .c (.int .u32 4294967071), .c (.int .u32 3573751839), .c (.fn 101 [] [⟨56, 0, 0, 0⟩, ⟨57, 0, 0, 0⟩]), .c (.fn 102 [] [⟨58, 0, 0, 0⟩, ⟨59, 0, 0, 0⟩, ⟨60, 0, 0, 0⟩, ⟨61, 0, 0, 0⟩])]
theorem form_rows : ∀ i, i < 40 → cutD formsL (i * 6) 6 = formRow i
  | 0, _ => rfl
  | 1, _ => rfl
  | 2, _ => rfl
  | 3, _ => rfl
  | 4, _ => rfl
  | 5, _ => rfl
  | 6, _ => rfl
  | 7, _ => rfl
  | 8, _ => rfl
  | 9, _ => rfl
  | 10, _ => rfl
  | 11, _ => rfl
  | 12, _ => rfl
  | 13, _ => rfl
  | 14, _ => rfl
  | 15, _ => rfl
  | 16, _ => rfl
  | 17, _ => rfl
  | 18, _ => rfl
  | 19, _ => rfl
  | 20, _ => rfl
  | 21, _ => rfl
  | 22, _ => rfl
  | 23, _ => rfl
  | 24, _ => rfl
  | 25, _ => rfl
  | 26, _ => rfl
  | 27, _ => rfl
  | 28, _ => rfl
  | 29, _ => rfl
  | 30, _ => rfl
  | 31, _ => rfl
  | 32, _ => rfl
  | 33, _ => rfl
  | 34, _ => rfl
  | 35, _ => rfl
  | 36, _ => rfl
  | 37, _ => rfl
  | 38, _ => rfl
  | 39, _ => rfl
  | n + 40, h => absurd h (by omega)
def ids63 : List Nat := [0, 1, 2, 3, 4, 5, 6, 7, 8, 9, 10, 11, 12, 13, 14, 15, 16, 17, 18, 19, 20, 21, 22, 23, 24, 25, 26, 27, 28, 29, 30, 31, 32, 33, 34, 35, 36, 37, 38, 39, 40, 41, 42, 43, 44, 45, 46, 47, 48, 49, 50, 51, 52, 53, 54, 55, 56, 57, 58, 59, 60, 61, 62]
theorem diff63 : diff ids63 := by simp only [ids63, diff, notIn, Nat.beq, and_self]
theorem ids63_fin : ∀ i : Fin 63, nthO ids63 i.val = some i.val := by decide
theorem ids63_at (i : Nat) (h : i < 63) : nthO ids63 i = some i := ids63_fin ⟨i, h⟩
theorem leAL_refl {l : List Nat} : ∀ {x : List AA}, (∀ a ∈ x, nthO l a.id = some a.id) → leAL l x x
  | [], _ => trivial
  | a :: r, h => ⟨⟨h a (by simp), rfl, rfl, rfl⟩, leAL_refl fun b hb => h b (List.mem_cons_of_mem _ hb)⟩
theorem form_ids : ∀ i : Fin 40, ((fPutC i.val).all fun a => decide (a.id < 62)) = true ∧ ((fTakeC i.val).all fun a => decide (a.id < 62)) = true := by decide
theorem form_leSegs (i : Nat) (h : i < 40) : leSegs ids63 (formRow i) (formRow i) := by
  obtain ⟨h1, h2⟩ := form_ids ⟨i, h⟩
  have q1 : leAL ids63 (fPutC i) (fPutC i) := leAL_refl fun a ha => ids63_at _ (by have := of_decide_eq_true (List.all_eq_true.1 h1 a ha); omega)
  have q2 : leAL ids63 (fTakeC i) (fTakeC i) := leAL_refl fun a ha => ids63_at _ (by have := of_decide_eq_true (List.all_eq_true.1 h2 a ha); omega)
  exact ⟨⟨rfl, rfl⟩, ⟨rfl, rfl⟩, ⟨rfl, rfl⟩, ⟨rfl, rfl⟩, ⟨rfl, trivial, q1⟩, ⟨rfl, trivial, q2⟩, trivial⟩
theorem box_leW {l : List Nat} (u v : Int) (w : Bool) (hw : w = false ∨ w = true) (h : u = v) : leB l (boxW u) ⟨1, none, fun _ => [.c (.int .i64 v)], 3, w⟩ := by
  subst h
  exact ⟨rfl, rfl, fun _ => rfl, Nat.le_refl _, fun _ _ => ⟨⟨rfl, rfl⟩, trivial⟩⟩
set_option maxHeartbeats 8000000 in
theorem con12 : Con Tryz.prog 12 [] ⟨0, []⟩ (fun v H' => v = .c (.slice ⟨62, 0, 0, 0⟩ false 40) ∧ H' = ⟨63, formsW⟩) := by
  (refine con_of_run mixed (fn := Tryz.f12) (by kernel_rfl) (by kernel_rfl) C12_ok (rs := [.tmp 0]) (by kernel_rfl) (Nat.le_of_ble_eq_true (by kernel_rfl)) ?_; unfold C12; simp only [initT])
  generalize hR : (fun (v : AV) (H' : Heap) => v = AV.c (.slice ⟨62, 0, 0, 0⟩ false 40) ∧ H' = ⟨63, formsW⟩) = R
  repeat' (first | refine run_seq ?_ | refine run_skip ?_ | (refine run_region fun K hK => ?_; (try (simp (maxSteps := 10000000) only [C12r0, C12r1, rwp_nil, rwp_cons, aop, gpath, St.get, segsOf, St.put, addBlk, nsub, shed, Nat.beq, Seg.size, sizes, appL, argsOf, ptrsOf, takeS, dropS, putS, partsOf, fillS, Nat.reduceAdd, List.append_nil, List.nil_append, List.cons_append])); (repeat (first | (refine And.intro ?_ ?_; · decide) | ((first | (refine call_t _ (con51 _ _ _ (by simp [keysLt])) ?_; rintro v H' ⟨rfl, rfl⟩) | refine call_q _ (con51 _ _ _ (by simp [keysLt])) ?_ | refine call_g _ (imp_of (con51 _ _ _ (by simp [keysLt]))) ?_ | (refine call_t _ (con53 _ _ _ (by simp [keysLt])) ?_; rintro v H' ⟨rfl, rfl⟩) | refine call_q _ (con53 _ _ _ (by simp [keysLt])) ?_ | refine call_g _ (imp_of (con53 _ _ _ (by simp [keysLt]))) ?_ | (refine call_t _ (con55 _ _ _ _ (by simp [keysLt])) ?_; rintro v H' ⟨rfl, rfl⟩) | refine call_q _ (con55 _ _ _ _ (by simp [keysLt])) ?_ | refine call_g _ (imp_of (con55 _ _ _ _ (by simp [keysLt]))) ?_ | (refine call_t _ (con57 _ _ _ (by simp [keysLt])) ?_; rintro v H' ⟨rfl, rfl⟩) | refine call_q _ (con57 _ _ _ (by simp [keysLt])) ?_ | refine call_g _ (imp_of (con57 _ _ _ (by simp [keysLt]))) ?_ | (refine call_t _ (con58 _ _ _ (by simp [keysLt])) ?_; rintro v H' ⟨rfl, rfl⟩) | refine call_q _ (con58 _ _ _ (by simp [keysLt])) ?_ | refine call_g _ (imp_of (con58 _ _ _ (by simp [keysLt]))) ?_ | (refine call_t _ (con59 _ _ _ _ (by simp [keysLt])) ?_; rintro v H' ⟨rfl, rfl⟩) | refine call_q _ (con59 _ _ _ _ (by simp [keysLt])) ?_ | refine call_g _ (imp_of (con59 _ _ _ _ (by simp [keysLt]))) ?_ | (refine call_t _ (con60 _ _ _ _ _ _ (by simp [keysLt])) ?_; rintro v H' ⟨rfl, rfl⟩) | refine call_q _ (con60 _ _ _ _ _ _ (by simp [keysLt])) ?_ | refine call_g _ (imp_of (con60 _ _ _ _ _ _ (by simp [keysLt]))) ?_ | (refine call_t _ (con61 _ _ _ (by simp [keysLt])) ?_; rintro v H' ⟨rfl, rfl⟩) | refine call_q _ (con61 _ _ _ (by simp [keysLt])) ?_ | refine call_g _ (imp_of (con61 _ _ _ (by simp [keysLt]))) ?_ | (refine call_t _ (con63 _ _ _ (by simp [keysLt])) ?_; rintro v H' ⟨rfl, rfl⟩) | refine call_q _ (con63 _ _ _ (by simp [keysLt])) ?_ | refine call_g _ (imp_of (con63 _ _ _ (by simp [keysLt]))) ?_); simp (maxSteps := 10000000) only [repl, rowsFit, rowFn, cutD, rwp_nil, rwp_cons, rwpK_app, aop, gpath, St.get, slotAt, sfx, eqP, segsOf, St.put, addBlk, nsub, shed, Nat.beq, Seg.size, sizes, appL, argsOf, ptrsOf, cut, takeS, dropS, putS, partsOf, fillS, Nat.reduceAdd, List.append_nil, List.nil_append, List.cons_append]))); with_reducible refine hK _ ?_; clear hK K) | (refine run_cond rfl (fun hc => ?_) (fun hc => ?_) <;> try (simp only [*, Bool.true_eq_false, Bool.false_eq_true, Bool.not_true, Bool.not_false, Bool.true_or, Bool.or_true, Bool.false_or, Bool.or_false, Bool.false_and, Bool.and_false, bne_self_eq_false, beq_self_eq_true] at hc; done)) | refine run_block ?_ | refine run_ret ?_ | refine run_nil ?_ | refine run_exit ?_ | refine blk_normal ?_ | refine blk_ret ?_ | refine blk_here ?_ | refine blk_there rfl ?_ | refine loop_exit ?_ | refine loop_ret ?_ | refine un_exit ?_ | refine un_ret ?_ | refine unE_exit ?_ | refine unE_ret ?_ | refine un_normal ?_)
  subst hR
  refine end_of ⟨[⟨0, [], .c (.slice ⟨62, 0, 0, 0⟩ false 40)⟩], ⟨63, formsW⟩⟩ ?_ ⟨rfl, rfl⟩
  refine LeS.intro ids63 (fun i h => absurd h (Nat.not_lt_zero i)) diff63 rfl ⟨⟨⟨rfl, rfl, rfl, rfl⟩, rfl, rfl⟩, trivial⟩ ?_
  unfold formsW
  simp only [leBlks, ids63, nthO, getB]
  refine ⟨⟨rfl, rfl, id, Nat.le_refl _, fun i hi => ?_⟩, ?_⟩
  · have e := form_rows i hi
    have q := form_leSegs i hi
    show leSegs ids63 (cutD formsL (i * 6) 6) (formRow i)
    rw [e]
    exact q
  · repeat' (first | exact trivial | refine And.intro (box_leW _ _ _ (.inr rfl) rfl) ?_)
end Go.Proofs.YteikpddilabppaaGreatR

namespace Go.Proofs.YteikpddilabppaaGreatR
open Go.AM
set_option maxRecDepth 100000
set_option linter.unusedSimpArgs false
set_option linter.unusedVariables false
theorem call_gn {Con' : ConT} {f : FuncId} {args : List AV} {s : St} {e : Nat × Bool × Bool} {π : Path} {dst : Option Nat} {tl : Bool} {k : St → (St → Prop) → Prop} {Q : St → Prop} (v : AV) (N : List Blk) (hN : allW N = true) (h : imp (e :: π) (Con' f args (roH s.heap) fun v' H' => v' = v ∧ H' = addBs (roH s.heap) N)) (hk : k (St.put ⟨s.tmps, addBs s.heap N⟩ dst (e :: π) v) Q) : callW Con' f args s (e :: π) dst tl k Q := by
  cases tl
  · exact ⟨v, N, hN, h, hk⟩
  · exact .inl ⟨v, N, hN, h, hk⟩
def withinS (n of least most : Int) : Bool := (decide (n ≥ least) && decide (n ≤ most)) && (n.tmod of == 0)
theorem con70 (n of least most : Int) (ho : of ≠ 0) (H : Heap) : Con Tryz.prog 70 [.c (.int .i64 n), .c (.int .i64 of), .c (.int .i64 least), .c (.int .i64 most)] H (fun v H' => v = .c (.bool (withinS n of least most)) ∧ H' = H) := by
  refine Con.pure ?_ (by simp only [leArgs, leV, leV1, leC, and_self]) rfl H
  (refine con_of_run mixed (fn := Tryz.f70) (by kernel_rfl) (by kernel_rfl) C70_ok (rs := [.tmp 8]) (by kernel_rfl) (Nat.le_of_ble_eq_true (by kernel_rfl)) ?_; unfold C70; simp only [initT, Nat.reduceAdd])
  repeat' (first | refine run_seq ?_ | (refine run_region fun K hK => ?_; (try (simp (maxSteps := 10000000) only [ne_eq, C70r0, C70r1, rwp_nil, rwp_cons, aop, gpath, St.get, slotAt, sfx, eqP, St.put, addBlk, bin, isShift, sameK, arith, getsl, selB_and, beqb, shed, imp])); (repeat (first | (refine And.intro ?_ ?_; · (intros; assumption)))); with_reducible refine hK _ ?_; clear hK K) | refine run_ret ?_ | refine run_nil ?_)
  exact end_tmp1 rfl rfl rfl ⟨rfl, rfl⟩
def logicOk (i : InsnS) : Bool := withinS i.sub 1 0 2 && (!i.flags || (i.sub == 0))
theorem con73 (i : InsnS) (H : Heap) : Con Tryz.prog 73 [.agg (insnL i)] H (fun v H' => v = .c (.bool (logicOk i)) ∧ H' = H) := by
  refine Con.pure ?_ (by simp only [leArgs, leV, leV1, insnL, leSegs, leSeg, leC, and_self]) rfl H
  (refine con_of_run mixed (fn := Tryz.f73) (by kernel_rfl) (by kernel_rfl) C73_ok (rs := [.tmp 2]) (by kernel_rfl) (Nat.le_of_ble_eq_true (by kernel_rfl)) ?_; unfold C73; simp only [initT])
  repeat' (first | refine run_seq ?_ | (refine run_region fun K hK => ?_; (try (simp (maxSteps := 10000000) only [insnL, C73r0, C73r1, rwp_nil, rwp_cons, aop, gpath, St.get, slotAt, sfx, eqP, segsOf, St.put, addBlk, getB, ld1, rowNeed, segAt, nsub, shed, addN, Seg.size, sizes, appL, argsOf, ptrsOf, Nat.reduceAdd])); (repeat (first | (refine And.intro ?_ ?_; · decide) | ((first | (refine call_t _ (con70 _ _ _ _ (by decide) _) ?_; rintro v H' ⟨rfl, rfl⟩) | refine call_q _ (con70 _ _ _ _ (by decide) _) ?_ | refine call_g _ (imp_of (con70 _ _ _ _ (by decide) _)) ?_); simp (maxSteps := 10000000) only [rwp_nil, rwp_cons, rwpK_app, aop, gpath, St.get, slotAt, sfx, eqP, St.put, addBlk, getB, ld1, rowNeed, segAt, nsub, bin, un, isShift, sameK, arith, getsl, selB_or, selB_and, beqb, shed, addN, Seg.size, Nat.reduceAdd]))); with_reducible refine hK _ ?_; clear hK K) | refine run_ret ?_ | refine run_nil ?_)
  exact end_tmp1 rfl rfl rfl ⟨rfl, rfl⟩
def addImmOk (i : InsnS) : Bool := withinS i.imm 1 0 4095 && withinS i.amount 12 0 12
theorem con69 (i : InsnS) (H : Heap) : Con Tryz.prog 69 [.agg (insnL i)] H (fun v H' => v = .c (.bool (addImmOk i)) ∧ H' = H) := by
  refine Con.pure ?_ (by simp only [leArgs, leV, leV1, insnL, leSegs, leSeg, leC, and_self]) rfl H
  (refine con_of_run mixed (fn := Tryz.f69) (by kernel_rfl) (by kernel_rfl) C69_ok (rs := [.tmp 2]) (by kernel_rfl) (Nat.le_of_ble_eq_true (by kernel_rfl)) ?_; unfold C69; simp only [initT])
  repeat' (first | refine run_seq ?_ | (refine run_region fun K hK => ?_; (try (simp (maxSteps := 10000000) only [insnL, C69r0, C69r1, rwp_nil, rwp_cons, aop, gpath, St.get, slotAt, sfx, eqP, segsOf, St.put, addBlk, getB, ld1, rowNeed, segAt, nsub, shed, addN, Seg.size, sizes, appL, argsOf, ptrsOf, Nat.reduceAdd])); (repeat (first | (refine And.intro ?_ ?_; · decide) | ((first | (refine call_t _ (con70 _ _ _ _ (by decide) _) ?_; rintro v H' ⟨rfl, rfl⟩) | refine call_q _ (con70 _ _ _ _ (by decide) _) ?_ | refine call_g _ (imp_of (con70 _ _ _ _ (by decide) _)) ?_); simp (maxSteps := 10000000) only [rwp_nil, rwp_cons, rwpK_app, aop, gpath, St.get, slotAt, sfx, eqP, St.put, addBlk, getB, ld1, rowNeed, segAt, nsub, getsl, selB_and, beqb, shed, addN, Seg.size, appL, argsOf, ptrsOf, Nat.reduceAdd]))); with_reducible refine hK _ ?_; clear hK K) | refine run_ret ?_ | refine run_nil ?_)
  exact end_tmp1 rfl rfl rfl ⟨rfl, rfl⟩
def addRegOk (i : InsnS) : Bool := withinS i.shift 1 0 2 && withinS i.amount 1 0 63
theorem con71 (i : InsnS) (H : Heap) : Con Tryz.prog 71 [.agg (insnL i)] H (fun v H' => v = .c (.bool (addRegOk i)) ∧ H' = H) := by
  refine Con.pure ?_ (by simp only [leArgs, leV, leV1, insnL, leSegs, leSeg, leC, and_self]) rfl H
  (refine con_of_run mixed (fn := Tryz.f71) (by kernel_rfl) (by kernel_rfl) C71_ok (rs := [.tmp 2]) (by kernel_rfl) (Nat.le_of_ble_eq_true (by kernel_rfl)) ?_; unfold C71; simp only [initT])
  repeat' (first | refine run_seq ?_ | (refine run_region fun K hK => ?_; (try (simp (maxSteps := 10000000) only [insnL, C71r0, C71r1, rwp_nil, rwp_cons, aop, gpath, St.get, slotAt, sfx, eqP, segsOf, St.put, addBlk, getB, ld1, rowNeed, segAt, nsub, shed, addN, Seg.size, sizes, appL, argsOf, ptrsOf, Nat.reduceAdd])); (repeat (first | (refine And.intro ?_ ?_; · decide) | ((first | (refine call_t _ (con70 _ _ _ _ (by decide) _) ?_; rintro v H' ⟨rfl, rfl⟩) | refine call_q _ (con70 _ _ _ _ (by decide) _) ?_ | refine call_g _ (imp_of (con70 _ _ _ _ (by decide) _)) ?_); simp (maxSteps := 10000000) only [rwp_nil, rwp_cons, rwpK_app, aop, gpath, St.get, slotAt, sfx, eqP, St.put, addBlk, getB, ld1, rowNeed, segAt, nsub, getsl, selB_and, beqb, shed, addN, Seg.size, appL, argsOf, ptrsOf, Nat.reduceAdd]))); with_reducible refine hK _ ?_; clear hK K) | refine run_ret ?_ | refine run_nil ?_)
  exact end_tmp1 rfl rfl rfl ⟨rfl, rfl⟩
def logRegOk (i : InsnS) : Bool := (logicOk i && withinS i.shift 1 0 3) && withinS i.amount 1 0 63
theorem con72 (i : InsnS) (H : Heap) : Con Tryz.prog 72 [.agg (insnL i)] H (fun v H' => v = .c (.bool (logRegOk i)) ∧ H' = H) := by
  refine Con.pure ?_ (by simp only [leArgs, leV, leV1, insnL, leSegs, leSeg, leC, and_self]) rfl H
  (refine con_of_run mixed (fn := Tryz.f72) (by kernel_rfl) (by kernel_rfl) C72_ok (rs := [.tmp 2]) (by kernel_rfl) (Nat.le_of_ble_eq_true (by kernel_rfl)) ?_; unfold C72; simp only [initT])
  repeat' (first | refine run_seq ?_ | (refine run_region fun K hK => ?_; (try (simp (maxSteps := 10000000) only [insnL, C72r0, C72r1, rwp_nil, rwp_cons, aop, gpath, St.get, slotAt, sfx, eqP, segsOf, St.put, addBlk, getB, ldn, rowNeed, nsub, shed, Seg.size, sizes, appL, argsOf, ptrsOf, cut, takeS, dropS, Nat.reduceAdd])); (repeat (first | (refine And.intro ?_ ?_; · decide) | ((first | (refine call_t _ (con70 _ _ _ _ (by decide) _) ?_; rintro v H' ⟨rfl, rfl⟩) | refine call_q _ (con70 _ _ _ _ (by decide) _) ?_ | refine call_g _ (imp_of (con70 _ _ _ _ (by decide) _)) ?_ | (refine call_t _ (con73 i _) ?_; rintro v H' ⟨rfl, rfl⟩) | refine call_q _ (con73 i _) ?_ | refine call_g _ (imp_of (con73 i _)) ?_); simp (maxSteps := 10000000) only [rwp_nil, rwp_cons, rwpK_app, aop, gpath, St.get, slotAt, sfx, eqP, St.put, addBlk, getB, ld1, rowNeed, segAt, nsub, getsl, selB_and, beqb, shed, addN, Seg.size, appL, argsOf, ptrsOf, Nat.reduceAdd]))); with_reducible refine hK _ ?_; clear hK K) | refine run_ret ?_ | refine run_nil ?_)
  exact end_tmp1 rfl rfl rfl ⟨rfl, rfl⟩
def movWideOk (i : InsnS) : Bool := ((withinS i.sub 1 0 3 && (i.sub != 1)) && withinS i.imm 1 0 65535) && withinS i.amount 16 0 48
theorem con76 (i : InsnS) (H : Heap) : Con Tryz.prog 76 [.agg (insnL i)] H (fun v H' => v = .c (.bool (movWideOk i)) ∧ H' = H) := by
  refine Con.pure ?_ (by simp only [leArgs, leV, leV1, insnL, leSegs, leSeg, leC, and_self]) rfl H
  (refine con_of_run mixed (fn := Tryz.f76) (by kernel_rfl) (by kernel_rfl) C76_ok (rs := [.tmp 2]) (by kernel_rfl) (Nat.le_of_ble_eq_true (by kernel_rfl)) ?_; unfold C76; simp only [initT])
  repeat' (first | refine run_seq ?_ | (refine run_region fun K hK => ?_; (try (simp (maxSteps := 10000000) only [insnL, C76r0, C76r1, rwp_nil, rwp_cons, aop, gpath, St.get, slotAt, sfx, eqP, segsOf, St.put, addBlk, getB, ld1, rowNeed, segAt, nsub, shed, addN, Seg.size, sizes, appL, argsOf, ptrsOf, Nat.reduceAdd])); (repeat (first | (refine And.intro ?_ ?_; · decide) | ((first | (refine call_t _ (con70 _ _ _ _ (by decide) _) ?_; rintro v H' ⟨rfl, rfl⟩) | refine call_q _ (con70 _ _ _ _ (by decide) _) ?_ | refine call_g _ (imp_of (con70 _ _ _ _ (by decide) _)) ?_); simp (maxSteps := 10000000) only [rwp_nil, rwp_cons, rwpK_app, aop, gpath, St.get, slotAt, sfx, eqP, St.put, addBlk, getB, ld1, rowNeed, segAt, nsub, bin, isShift, sameK, arith, getsl, selB_and, beqb, shed, addN, Seg.size, appL, argsOf, ptrsOf, Nat.reduceAdd]))); with_reducible refine hK _ ?_; clear hK K) | refine run_ret ?_ | refine run_nil ?_)
  exact end_tmp1 rfl rfl rfl ⟨rfl, rfl⟩
def bitfieldOk (i : InsnS) : Bool := (withinS i.sub 2 0 2 && withinS i.imm 1 0 63) && withinS i.imm2 1 0 63
theorem con77 (i : InsnS) (H : Heap) : Con Tryz.prog 77 [.agg (insnL i)] H (fun v H' => v = .c (.bool (bitfieldOk i)) ∧ H' = H) := by
  refine Con.pure ?_ (by simp only [leArgs, leV, leV1, insnL, leSegs, leSeg, leC, and_self]) rfl H
  (refine con_of_run mixed (fn := Tryz.f77) (by kernel_rfl) (by kernel_rfl) C77_ok (rs := [.tmp 2]) (by kernel_rfl) (Nat.le_of_ble_eq_true (by kernel_rfl)) ?_; unfold C77; simp only [initT])
  repeat' (first | refine run_seq ?_ | (refine run_region fun K hK => ?_; (try (simp (maxSteps := 10000000) only [insnL, C77r0, C77r1, rwp_nil, rwp_cons, aop, gpath, St.get, slotAt, sfx, eqP, segsOf, St.put, addBlk, getB, ld1, rowNeed, segAt, nsub, shed, addN, Seg.size, sizes, appL, argsOf, ptrsOf, Nat.reduceAdd])); (repeat (first | (refine And.intro ?_ ?_; · decide) | ((first | (refine call_t _ (con70 _ _ _ _ (by decide) _) ?_; rintro v H' ⟨rfl, rfl⟩) | refine call_q _ (con70 _ _ _ _ (by decide) _) ?_ | refine call_g _ (imp_of (con70 _ _ _ _ (by decide) _)) ?_); simp (maxSteps := 10000000) only [rwp_nil, rwp_cons, rwpK_app, aop, gpath, St.get, slotAt, sfx, eqP, St.put, addBlk, getB, ld1, rowNeed, segAt, nsub, getsl, selB_and, beqb, shed, addN, Seg.size, appL, argsOf, ptrsOf, Nat.reduceAdd]))); with_reducible refine hK _ ?_; clear hK K) | refine run_ret ?_ | refine run_nil ?_)
  exact end_tmp1 rfl rfl rfl ⟨rfl, rfl⟩
def noneOk (i : InsnS) : Bool := true
theorem con79 (i : InsnS) (H : Heap) : Con Tryz.prog 79 [.agg (insnL i)] H (fun v H' => v = .c (.bool (noneOk i)) ∧ H' = H) := by
  refine Con.pure ?_ (by simp only [leArgs, leV, leV1, insnL, leSegs, leSeg, leC, and_self]) rfl H
  (refine con_of_run mixed (fn := Tryz.f79) (by kernel_rfl) (by kernel_rfl) C79_ok (rs := [.tmp 2]) (by kernel_rfl) (Nat.le_of_ble_eq_true (by kernel_rfl)) ?_; unfold C79; simp only [initT])
  repeat' (first | refine run_seq ?_ | (refine run_region fun K hK => ?_; (try (simp (maxSteps := 10000000) only [insnL, C79r0, C79r1, rwp_nil, rwp_cons, aop, gpath, St.get, slotAt, sfx, eqP, segsOf, St.put, addBlk, shed, Seg.size, sizes, Nat.reduceAdd])); (repeat (first | (refine And.intro ?_ ?_; · decide) | ((first | (refine call_t _ (con70 _ _ _ _ (by decide) _) ?_; rintro v H' ⟨rfl, rfl⟩) | refine call_q _ (con70 _ _ _ _ (by decide) _) ?_ | refine call_g _ (imp_of (con70 _ _ _ _ (by decide) _)) ?_); simp (maxSteps := 10000000) only [insnL, C79r0, C79r1, rwp_nil, rwp_cons, rwpK_app, aop, gpath, St.get, slotAt, sfx, eqP, segsOf, St.put, addBlk, getB, setB, delB, ld1, ldn, st1, stn, setRow, rowNeed, segAt, nsub, bin, un, eqB, isShift, sameK, arith, shiftR, getsl, selB_or, selB_and, beqb, shed, addN, Nat.beq, Seg.size, sizes, imp, needP, andN, appL, argsOf, ptrsOf, aasOf, cut, takeS, dropS, putS, partsOf, fillS, fieldOf, nthA, negIf, nilq, nilB, eqS, eqF, eqS1, andP, kin, slcS, strOk, plusA, bndHi, leN, optG, roH, roL, initT, exOk, exAll, wrAddr, Nat.reduceAdd, Nat.reduceSub, Nat.reduceMul, Int.reduceToNat, List.append_nil, List.nil_append, List.cons_append, eqT, idxT, cat, cpy, ite_int, ite_bool, ite_seg, ite_segs, ite_nil, ite_twice, Int.toNat_natCast, app, addBs, tob]))); with_reducible refine hK _ ?_; clear hK K) | refine run_ret ?_ | refine run_nil ?_)
  exact end_tmp1 rfl rfl rfl ⟨rfl, rfl⟩
def selOk (i : InsnS) : Bool := withinS i.sub 1 0 3 && withinS i.cond 1 0 15
theorem con80 (i : InsnS) (H : Heap) : Con Tryz.prog 80 [.agg (insnL i)] H (fun v H' => v = .c (.bool (selOk i)) ∧ H' = H) := by
  refine Con.pure ?_ (by simp only [leArgs, leV, leV1, insnL, leSegs, leSeg, leC, and_self]) rfl H
  (refine con_of_run mixed (fn := Tryz.f80) (by kernel_rfl) (by kernel_rfl) C80_ok (rs := [.tmp 2]) (by kernel_rfl) (Nat.le_of_ble_eq_true (by kernel_rfl)) ?_; unfold C80; simp only [initT])
  repeat' (first | refine run_seq ?_ | (refine run_region fun K hK => ?_; (try (simp (maxSteps := 10000000) only [insnL, C80r0, C80r1, rwp_nil, rwp_cons, aop, gpath, St.get, slotAt, sfx, eqP, segsOf, St.put, addBlk, getB, ld1, rowNeed, segAt, nsub, shed, addN, Seg.size, sizes, appL, argsOf, ptrsOf, Nat.reduceAdd])); (repeat (first | (refine And.intro ?_ ?_; · decide) | ((first | (refine call_t _ (con70 _ _ _ _ (by decide) _) ?_; rintro v H' ⟨rfl, rfl⟩) | refine call_q _ (con70 _ _ _ _ (by decide) _) ?_ | refine call_g _ (imp_of (con70 _ _ _ _ (by decide) _)) ?_); simp (maxSteps := 10000000) only [rwp_nil, rwp_cons, rwpK_app, aop, gpath, St.get, slotAt, sfx, eqP, St.put, addBlk, getB, ld1, rowNeed, segAt, nsub, getsl, selB_and, beqb, shed, addN, Seg.size, appL, argsOf, ptrsOf, Nat.reduceAdd]))); with_reducible refine hK _ ?_; clear hK K) | refine run_ret ?_ | refine run_nil ?_)
  exact end_tmp1 rfl rfl rfl ⟨rfl, rfl⟩
def adrOk (i : InsnS) : Bool := ((i.sub == 0) && withinS i.imm 1 (-1048576) 1048575) || ((i.sub == 1) && withinS i.imm 4096 (-4294967296) 4294963200)
theorem con81 (i : InsnS) (H : Heap) : Con Tryz.prog 81 [.agg (insnL i)] H (fun v H' => v = .c (.bool (adrOk i)) ∧ H' = H) := by
  refine Con.pure ?_ (by simp only [leArgs, leV, leV1, insnL, leSegs, leSeg, leC, and_self]) rfl H
  (refine con_of_run mixed (fn := Tryz.f81) (by kernel_rfl) (by kernel_rfl) C81_ok (rs := [.tmp 2]) (by kernel_rfl) (Nat.le_of_ble_eq_true (by kernel_rfl)) ?_; unfold C81; simp only [initT])
  repeat' (first | refine run_seq ?_ | (refine run_region fun K hK => ?_; (try (simp (maxSteps := 10000000) only [insnL, C81r0, C81r1, rwp_nil, rwp_cons, aop, gpath, St.get, slotAt, sfx, eqP, segsOf, St.put, addBlk, getB, ld1, rowNeed, segAt, nsub, bin, isShift, sameK, arith, beqb, shed, addN, Seg.size, sizes, appL, argsOf, ptrsOf, Nat.reduceAdd])); (repeat (first | (refine And.intro ?_ ?_; · decide) | ((first | (refine call_t _ (con70 _ _ _ _ (by decide) _) ?_; rintro v H' ⟨rfl, rfl⟩) | refine call_q _ (con70 _ _ _ _ (by decide) _) ?_ | refine call_g _ (imp_of (con70 _ _ _ _ (by decide) _)) ?_); simp (maxSteps := 10000000) only [rwp_nil, rwp_cons, rwpK_app, aop, gpath, St.get, slotAt, sfx, eqP, St.put, addBlk, getB, ld1, rowNeed, segAt, nsub, bin, isShift, sameK, arith, getsl, selB_or, selB_and, beqb, shed, addN, Seg.size, appL, argsOf, ptrsOf, Nat.reduceAdd]))); with_reducible refine hK _ ?_; clear hK K) | refine run_ret ?_ | refine run_nil ?_)
  exact end_tmp1 rfl rfl rfl ⟨rfl, rfl⟩
def ldrOk (i : InsnS) : Bool := withinS i.imm 8 0 32760
theorem con85 (i : InsnS) (H : Heap) : Con Tryz.prog 85 [.agg (insnL i)] H (fun v H' => v = .c (.bool (ldrOk i)) ∧ H' = H) := by
  refine Con.pure ?_ (by simp only [leArgs, leV, leV1, insnL, leSegs, leSeg, leC, and_self]) rfl H
  (refine con_of_run mixed (fn := Tryz.f85) (by kernel_rfl) (by kernel_rfl) C85_ok (rs := [.tmp 2]) (by kernel_rfl) (Nat.le_of_ble_eq_true (by kernel_rfl)) ?_; unfold C85; simp only [initT])
  repeat' (first | refine run_seq ?_ | (refine run_region fun K hK => ?_; (try (simp (maxSteps := 10000000) only [insnL, C85r0, C85r1, rwp_nil, rwp_cons, aop, gpath, St.get, slotAt, sfx, eqP, segsOf, St.put, addBlk, getB, ld1, rowNeed, segAt, nsub, shed, addN, Seg.size, sizes, appL, argsOf, ptrsOf, Nat.reduceAdd])); (repeat (first | (refine And.intro ?_ ?_; · decide) | ((first | (refine call_t _ (con70 _ _ _ _ (by decide) _) ?_; rintro v H' ⟨rfl, rfl⟩) | refine call_q _ (con70 _ _ _ _ (by decide) _) ?_ | refine call_g _ (imp_of (con70 _ _ _ _ (by decide) _)) ?_); simp (maxSteps := 10000000) only [rwp_nil, rwp_cons, rwpK_app, aop, gpath, St.get, slotAt, sfx, eqP, St.put, addBlk, shed]))); with_reducible refine hK _ ?_; clear hK K) | refine run_ret ?_ | refine run_nil ?_)
  exact end_tmp1 rfl rfl rfl ⟨rfl, rfl⟩
def ldrRegOk (i : InsnS) : Bool := withinS i.amount 3 0 3
theorem con86 (i : InsnS) (H : Heap) : Con Tryz.prog 86 [.agg (insnL i)] H (fun v H' => v = .c (.bool (ldrRegOk i)) ∧ H' = H) := by
  refine Con.pure ?_ (by simp only [leArgs, leV, leV1, insnL, leSegs, leSeg, leC, and_self]) rfl H
  (refine con_of_run mixed (fn := Tryz.f86) (by kernel_rfl) (by kernel_rfl) C86_ok (rs := [.tmp 2]) (by kernel_rfl) (Nat.le_of_ble_eq_true (by kernel_rfl)) ?_; unfold C86; simp only [initT])
  repeat' (first | refine run_seq ?_ | (refine run_region fun K hK => ?_; (try (simp (maxSteps := 10000000) only [insnL, C86r0, C86r1, rwp_nil, rwp_cons, aop, gpath, St.get, slotAt, sfx, eqP, segsOf, St.put, addBlk, getB, ld1, rowNeed, segAt, nsub, shed, addN, Seg.size, sizes, appL, argsOf, ptrsOf, Nat.reduceAdd])); (repeat (first | (refine And.intro ?_ ?_; · decide) | ((first | (refine call_t _ (con70 _ _ _ _ (by decide) _) ?_; rintro v H' ⟨rfl, rfl⟩) | refine call_q _ (con70 _ _ _ _ (by decide) _) ?_ | refine call_g _ (imp_of (con70 _ _ _ _ (by decide) _)) ?_); simp (maxSteps := 10000000) only [rwp_nil, rwp_cons, rwpK_app, aop, gpath, St.get, slotAt, sfx, eqP, St.put, addBlk, shed]))); with_reducible refine hK _ ?_; clear hK K) | refine run_ret ?_ | refine run_nil ?_)
  exact end_tmp1 rfl rfl rfl ⟨rfl, rfl⟩
def dmbOk (i : InsnS) : Bool := withinS i.sub 1 0 1 && withinS i.imm 1 1 3
theorem con114 (i : InsnS) (H : Heap) : Con Tryz.prog 114 [.agg (insnL i)] H (fun v H' => v = .c (.bool (dmbOk i)) ∧ H' = H) := by
  refine Con.pure ?_ (by simp only [leArgs, leV, leV1, insnL, leSegs, leSeg, leC, and_self]) rfl H
  (refine con_of_run mixed (fn := Tryz.f114) (by kernel_rfl) (by kernel_rfl) C114_ok (rs := [.tmp 2]) (by kernel_rfl) (Nat.le_of_ble_eq_true (by kernel_rfl)) ?_; unfold C114; simp only [initT])
  repeat' (first | refine run_seq ?_ | (refine run_region fun K hK => ?_; (try (simp (maxSteps := 10000000) only [insnL, C114r0, C114r1, rwp_nil, rwp_cons, aop, gpath, St.get, slotAt, sfx, eqP, segsOf, St.put, addBlk, getB, ld1, rowNeed, segAt, nsub, shed, addN, Seg.size, sizes, appL, argsOf, ptrsOf, Nat.reduceAdd])); (repeat (first | (refine And.intro ?_ ?_; · decide) | ((first | (refine call_t _ (con70 _ _ _ _ (by decide) _) ?_; rintro v H' ⟨rfl, rfl⟩) | refine call_q _ (con70 _ _ _ _ (by decide) _) ?_ | refine call_g _ (imp_of (con70 _ _ _ _ (by decide) _)) ?_); simp (maxSteps := 10000000) only [rwp_nil, rwp_cons, rwpK_app, aop, gpath, St.get, slotAt, sfx, eqP, St.put, addBlk, getB, ld1, rowNeed, segAt, nsub, getsl, selB_and, beqb, shed, addN, Seg.size, appL, argsOf, ptrsOf, Nat.reduceAdd]))); with_reducible refine hK _ ?_; clear hK K) | refine run_ret ?_ | refine run_nil ?_)
  exact end_tmp1 rfl rfl rfl ⟨rfl, rfl⟩
def msrMaskOk (i : InsnS) : Bool := withinS i.sub 1 0 1 && withinS i.imm 1 0 15
theorem con117 (i : InsnS) (H : Heap) : Con Tryz.prog 117 [.agg (insnL i)] H (fun v H' => v = .c (.bool (msrMaskOk i)) ∧ H' = H) := by
  refine Con.pure ?_ (by simp only [leArgs, leV, leV1, insnL, leSegs, leSeg, leC, and_self]) rfl H
  (refine con_of_run mixed (fn := Tryz.f117) (by kernel_rfl) (by kernel_rfl) C117_ok (rs := [.tmp 2]) (by kernel_rfl) (Nat.le_of_ble_eq_true (by kernel_rfl)) ?_; unfold C117; simp only [initT])
  repeat' (first | refine run_seq ?_ | (refine run_region fun K hK => ?_; (try (simp (maxSteps := 10000000) only [insnL, C117r0, C117r1, rwp_nil, rwp_cons, aop, gpath, St.get, slotAt, sfx, eqP, segsOf, St.put, addBlk, getB, ld1, rowNeed, segAt, nsub, shed, addN, Seg.size, sizes, appL, argsOf, ptrsOf, Nat.reduceAdd])); (repeat (first | (refine And.intro ?_ ?_; · decide) | ((first | (refine call_t _ (con70 _ _ _ _ (by decide) _) ?_; rintro v H' ⟨rfl, rfl⟩) | refine call_q _ (con70 _ _ _ _ (by decide) _) ?_ | refine call_g _ (imp_of (con70 _ _ _ _ (by decide) _)) ?_); simp (maxSteps := 10000000) only [rwp_nil, rwp_cons, rwpK_app, aop, gpath, St.get, slotAt, sfx, eqP, St.put, addBlk, getB, ld1, rowNeed, segAt, nsub, getsl, selB_and, beqb, shed, addN, Seg.size, appL, argsOf, ptrsOf, Nat.reduceAdd]))); with_reducible refine hK _ ?_; clear hK K) | refine run_ret ?_ | refine run_nil ?_)
  exact end_tmp1 rfl rfl rfl ⟨rfl, rfl⟩
def svcOk (i : InsnS) : Bool := withinS i.imm 1 0 65535
theorem con118 (i : InsnS) (H : Heap) : Con Tryz.prog 118 [.agg (insnL i)] H (fun v H' => v = .c (.bool (svcOk i)) ∧ H' = H) := by
  refine Con.pure ?_ (by simp only [leArgs, leV, leV1, insnL, leSegs, leSeg, leC, and_self]) rfl H
  (refine con_of_run mixed (fn := Tryz.f118) (by kernel_rfl) (by kernel_rfl) C118_ok (rs := [.tmp 2]) (by kernel_rfl) (Nat.le_of_ble_eq_true (by kernel_rfl)) ?_; unfold C118; simp only [initT])
  repeat' (first | refine run_seq ?_ | (refine run_region fun K hK => ?_; (try (simp (maxSteps := 10000000) only [insnL, C118r0, C118r1, rwp_nil, rwp_cons, aop, gpath, St.get, slotAt, sfx, eqP, segsOf, St.put, addBlk, getB, ld1, rowNeed, segAt, nsub, shed, addN, Seg.size, sizes, appL, argsOf, ptrsOf, Nat.reduceAdd])); (repeat (first | (refine And.intro ?_ ?_; · decide) | ((first | (refine call_t _ (con70 _ _ _ _ (by decide) _) ?_; rintro v H' ⟨rfl, rfl⟩) | refine call_q _ (con70 _ _ _ _ (by decide) _) ?_ | refine call_g _ (imp_of (con70 _ _ _ _ (by decide) _)) ?_); simp (maxSteps := 10000000) only [rwp_nil, rwp_cons, rwpK_app, aop, gpath, St.get, slotAt, sfx, eqP, St.put, addBlk, shed]))); with_reducible refine hK _ ?_; clear hK K) | refine run_ret ?_ | refine run_nil ?_)
  exact end_tmp1 rfl rfl rfl ⟨rfl, rfl⟩
def hintOk (i : InsnS) : Bool := withinS i.imm 1 0 5
theorem con119 (i : InsnS) (H : Heap) : Con Tryz.prog 119 [.agg (insnL i)] H (fun v H' => v = .c (.bool (hintOk i)) ∧ H' = H) := by
  refine Con.pure ?_ (by simp only [leArgs, leV, leV1, insnL, leSegs, leSeg, leC, and_self]) rfl H
  (refine con_of_run mixed (fn := Tryz.f119) (by kernel_rfl) (by kernel_rfl) C119_ok (rs := [.tmp 2]) (by kernel_rfl) (Nat.le_of_ble_eq_true (by kernel_rfl)) ?_; unfold C119; simp only [initT])
  repeat' (first | refine run_seq ?_ | (refine run_region fun K hK => ?_; (try (simp (maxSteps := 10000000) only [insnL, C119r0, C119r1, rwp_nil, rwp_cons, aop, gpath, St.get, slotAt, sfx, eqP, segsOf, St.put, addBlk, getB, ld1, rowNeed, segAt, nsub, shed, addN, Seg.size, sizes, appL, argsOf, ptrsOf, Nat.reduceAdd])); (repeat (first | (refine And.intro ?_ ?_; · decide) | ((first | (refine call_t _ (con70 _ _ _ _ (by decide) _) ?_; rintro v H' ⟨rfl, rfl⟩) | refine call_q _ (con70 _ _ _ _ (by decide) _) ?_ | refine call_g _ (imp_of (con70 _ _ _ _ (by decide) _)) ?_); simp (maxSteps := 10000000) only [rwp_nil, rwp_cons, rwpK_app, aop, gpath, St.get, slotAt, sfx, eqP, St.put, addBlk, shed]))); with_reducible refine hK _ ?_; clear hK K) | refine run_ret ?_ | refine run_nil ?_)
  exact end_tmp1 rfl rfl rfl ⟨rfl, rfl⟩
theorem con82 (a : Int) (n : Nat) (X : List (Nat × Blk)) (hkl : keysLt X n) : Con Tryz.prog 82 [.c (.int .i64 a)] ⟨n, X⟩ (fun v H' => v = .c (.fn 113 [] [⟨n, 0, 0, 0⟩]) ∧ H' = addBs ⟨n, X⟩ [boxW a]) := by
  have h0 : Con Tryz.prog 82 [.c (.int .i64 a)] ⟨0, []⟩ (fun v H' => v = .c (.fn 113 [] [⟨0, 0, 0, 0⟩]) ∧ H' = ⟨1, [(0, boxW a)]⟩) := by
    (refine con_of_run mixed (fn := Tryz.f82) (by kernel_rfl) (by kernel_rfl) C82_ok (rs := [.tmp 2]) (by kernel_rfl) (Nat.le_of_ble_eq_true (by kernel_rfl)) ?_; unfold C82; simp only [initT])
    repeat' (first | refine run_seq ?_ | (refine run_region fun K hK => ?_; (try (simp (maxSteps := 10000000) only [C82r0, C82r1, rwp_nil, rwp_cons, aop, gpath, St.get, slotAt, sfx, eqP, segsOf, St.put, addBlk, shed, Seg.size, sizes, aasOf, Nat.reduceAdd])); (repeat (first | (refine And.intro ?_ ?_; · first | trivial | assumption | omega))); with_reducible refine hK _ ?_; clear hK K) | refine run_ret ?_ | refine run_nil ?_)
    refine end_of ⟨[⟨2, [], .c (.fn 113 [] [⟨0, 0, 0, 0⟩])⟩], ⟨1, [(0, boxW a)]⟩⟩ (LeS.intro [0] (fun i h => absurd h (Nat.not_lt_zero i)) (by simp only [diff, notIn, and_self]) rfl ?_ ?_) ⟨rfl, rfl⟩
    · simp only [slotsLe, slotAt, leV, leV1, leC, leAL, leA, nthO, and_self]
    · simp only [leBlks, nthO, getB]
      exact ⟨⟨rfl, rfl, id, Nat.le_refl _, fun _ _ => by simp only [boxW, leSegs, leSeg, leC, and_self]⟩, trivial⟩
  refine (h0.frame (H := ⟨n, X⟩) [] rfl trivial trivial hkl trivial (by simp only [leArgs, leV, leV1, leC, and_self])).weaken ?_
  rintro v H' ⟨v0, H0', ⟨rfl, rfl⟩, rfl, rfl⟩
  refine ⟨rfl, ?_⟩
  simp only [framed, dropB_none (l := []) (H0 := []) (fun _ => rfl)]
  rfl
def farS (b : Int) (i : InsnS) : Bool := withinS i.imm 4 (IntKind.i64.wrap (-1 * 2 ^ min b.toNat IntKind.i64.bits)) (IntKind.i64.wrap (IntKind.i64.wrap (1 * 2 ^ min b.toNat IntKind.i64.bits) - 4))
theorem con113 (b : Int) (i : InsnS) (hb : 0 ≤ b) : Con Tryz.prog 113 [.agg (insnL i), .c (.ptr ⟨0, 0, 0, 0⟩)] (boxH1 b) (fun v H' => v = .c (.bool (farS b i)) ∧ H' = boxH1 b) := by
  (refine con_of_run mixed (fn := Tryz.f113) (by kernel_rfl) (by kernel_rfl) C113_ok (rs := [.tmp 3]) (by kernel_rfl) (Nat.le_of_ble_eq_true (by kernel_rfl)) ?_; unfold C113; simp only [initT, Nat.reduceAdd])
  generalize hR : (fun (v : AV) (H' : Heap) => v = AV.c (.bool (farS b i)) ∧ H' = boxH1 b) = R
  simp only [boxH1, boxI]
  repeat' (first | refine run_seq ?_ | (refine run_region fun K hK => ?_; (try (simp (maxSteps := 10000000) only [insnL, C113r0, C113r1, rwp_nil, rwp_cons, aop, gpath, St.get, slotAt, sfx, eqP, segsOf, St.put, addBlk, getB, ld1, rowNeed, segAt, nsub, bin, isShift, sameK, arith, shiftR, shed, addN, Seg.size, sizes, imp, appL, argsOf, ptrsOf, Nat.reduceAdd])); (repeat (first | (refine And.intro ?_ ?_; · assumption) | ((first | (refine call_t _ (con70 _ _ _ _ (by decide) _) ?_; rintro v H' ⟨rfl, rfl⟩) | refine call_q _ (con70 _ _ _ _ (by decide) _) ?_ | refine call_g _ (imp_of (con70 _ _ _ _ (by decide) _)) ?_); simp (maxSteps := 10000000) only [rwp_nil, rwp_cons, rwpK_app, aop, gpath, St.get, slotAt, sfx, eqP, St.put, addBlk, shed]))); with_reducible refine hK _ ?_; clear hK K) | refine run_ret ?_ | refine run_nil ?_)
  subst hR
  exact end_of ⟨[⟨3, [], .c (.bool (farS b i))⟩], boxH1 b⟩ (LeS.intro [0] idt1 (by simp only [diff, notIn, and_self]) rfl ⟨rfl, trivial⟩ ⟨box_le _ _, trivial⟩) ⟨rfl, rfl⟩
theorem con113_at (b : Int) (i : InsnS) (hb : 0 ≤ b) (j n : Nat) (X : List (Nat × Blk)) (w : Bool) (hj : getB X j = some ⟨1, none, fun _ => [.c (.int .i64 b)], 3, w⟩) (hlt : j < n) (hkl : keysLt X n) : Con Tryz.prog 113 [.agg (insnL i), .c (.ptr ⟨j, 0, 0, 0⟩)] ⟨n, X⟩ (fun v H' => v = .c (.bool (farS b i)) ∧ H' = ⟨n, X⟩) :=
  ro_gen (con113 b i hb) [j] n X rfl ⟨trivial, trivial⟩ ⟨hlt, trivial⟩ hkl (by simp only [boxH1, leBlks, nthO, hj]; exact ⟨box_le b w, trivial⟩) (by simp only [leArgs, leV, leV1, insnL, leSegs, leSeg, leC, leA, nthO, and_self]) rfl (fun _ => rfl) rfl rfl
def bCondOk (i : InsnS) : Bool := withinS i.cond 1 0 15 && farS 20 i
theorem con83 (i : InsnS) (H : Heap) : Con Tryz.prog 83 [.agg (insnL i)] H (fun v H' => v = .c (.bool (bCondOk i)) ∧ H' = H) := by
  refine Con.pure ?_ (by simp only [leArgs, leV, leV1, insnL, leSegs, leSeg, leC, and_self]) rfl H
  (refine con_of_run mixed (fn := Tryz.f83) (by kernel_rfl) (by kernel_rfl) C83_ok (rs := [.tmp 2]) (by kernel_rfl) (Nat.le_of_ble_eq_true (by kernel_rfl)) ?_; unfold C83; simp only [initT])
  repeat' (first | refine run_seq ?_ | (refine run_region fun K hK => ?_; (try (simp (maxSteps := 10000000) only [insnL, C83r0, rwp_nil, rwp_cons, aop, gpath, St.get, slotAt, sfx, eqP, segsOf, St.put, addBlk, shed, Seg.size, sizes, Nat.reduceAdd])); (repeat (first | (refine And.intro ?_ ?_; · decide))); with_reducible refine hK _ ?_; clear hK K) | refine run_ret ?_ | refine run_nil ?_)
  refine run_region fun K hK => ?_
  simp (maxSteps := 10000000) only [C83r1, rwp_cons, aop, gpath, St.get, slotAt, sfx, eqP, St.put, addBlk, getB, ld1, rowNeed, segAt, nsub, addN, Seg.size, appL, argsOf, ptrsOf, Nat.reduceAdd]
  refine call_t _ (con70 _ _ _ _ (by decide) _) ?_
  rintro v H' ⟨rfl, rfl⟩
  simp (maxSteps := 10000000) only [rwp_cons, rwpK_app, aop, gpath, St.get, slotAt, sfx, eqP, St.put, addBlk, appL, argsOf, ptrsOf]
  refine call_gn _ [boxW 20] rfl (imp_of (con82 20 _ _ (by simp [roL, keysLt]))) ?_
  simp (maxSteps := 10000000) only [rwp_cons, rwpK_app, aop, gpath, St.get, slotAt, sfx, eqP, St.put, addBlk, getB, ldn, rowNeed, nsub, beqb, Seg.size, appL, argsOf, ptrsOf, cut, takeS, dropS, Nat.reduceAdd, addBs]
  refine call_g _ (imp_of (con113_at 20 i (by decide) 1 2 _ false rfl (by decide) (by simp [roL, keysLt, boxW]))) ?_
  simp (maxSteps := 10000000) only [rwp_nil, rwp_cons, rwpK_app, aop, gpath, St.get, slotAt, sfx, eqP, St.put, addBlk, getsl, selB_and, beqb, shed]
  refine hK _ ?_
  clear hK K
  repeat' (first | refine run_seq ?_ | (refine run_region fun K hK => ?_; (try (simp (maxSteps := 10000000) only [insnL, C83r0, C83r1, rwp_nil, rwp_cons, rwpK_app, aop, gpath, St.get, slotAt, sfx, eqP, segsOf, St.put, addBlk, getB, setB, delB, ld1, ldn, st1, stn, setRow, rowNeed, segAt, nsub, bin, un, eqB, isShift, sameK, arith, shiftR, getsl, selB_or, selB_and, beqb, shed, addN, Nat.beq, Seg.size, sizes, imp, needP, andN, appL, argsOf, ptrsOf, aasOf, cut, takeS, dropS, putS, partsOf, fillS, fieldOf, nthA, negIf, nilq, nilB, eqS, eqF, eqS1, andP, kin, slcS, strOk, plusA, bndHi, leN, optG, roH, roL, initT, exOk, exAll, wrAddr, Nat.reduceAdd, Nat.reduceSub, Nat.reduceMul, Int.reduceToNat, List.append_nil, List.nil_append, List.cons_append, eqT, idxT, cat, cpy, ite_int, ite_bool, ite_seg, ite_segs, ite_nil, ite_twice, Int.toNat_natCast, app, addBs, tob])); (repeat (first | (refine And.intro ?_ ?_; · first | trivial | assumption | omega))); with_reducible refine hK _ ?_; clear hK K) | refine run_ret ?_ | refine run_nil ?_)
  exact end_tmp1 rfl rfl rfl ⟨rfl, rfl⟩
def tbzOk (i : InsnS) : Bool := withinS i.amount 1 0 63 && farS 15 i
theorem con84 (i : InsnS) (H : Heap) : Con Tryz.prog 84 [.agg (insnL i)] H (fun v H' => v = .c (.bool (tbzOk i)) ∧ H' = H) := by
  refine Con.pure ?_ (by simp only [leArgs, leV, leV1, insnL, leSegs, leSeg, leC, and_self]) rfl H
  (refine con_of_run mixed (fn := Tryz.f84) (by kernel_rfl) (by kernel_rfl) C84_ok (rs := [.tmp 2]) (by kernel_rfl) (Nat.le_of_ble_eq_true (by kernel_rfl)) ?_; unfold C84; simp only [initT])
  repeat' (first | refine run_seq ?_ | (refine run_region fun K hK => ?_; (try (simp (maxSteps := 10000000) only [insnL, C84r0, rwp_nil, rwp_cons, aop, gpath, St.get, slotAt, sfx, eqP, segsOf, St.put, addBlk, shed, Seg.size, sizes, Nat.reduceAdd])); (repeat (first | (refine And.intro ?_ ?_; · decide))); with_reducible refine hK _ ?_; clear hK K) | refine run_ret ?_ | refine run_nil ?_)
  refine run_region fun K hK => ?_
  simp (maxSteps := 10000000) only [C84r1, rwp_cons, aop, gpath, St.get, slotAt, sfx, eqP, St.put, addBlk, getB, ld1, rowNeed, segAt, nsub, addN, Seg.size, appL, argsOf, ptrsOf, Nat.reduceAdd]
  refine call_t _ (con70 _ _ _ _ (by decide) _) ?_
  rintro v H' ⟨rfl, rfl⟩
  simp (maxSteps := 10000000) only [rwp_cons, rwpK_app, aop, gpath, St.get, slotAt, sfx, eqP, St.put, addBlk, appL, argsOf, ptrsOf]
  refine call_gn _ [boxW 15] rfl (imp_of (con82 15 _ _ (by simp [roL, keysLt]))) ?_
  simp (maxSteps := 10000000) only [rwp_cons, rwpK_app, aop, gpath, St.get, slotAt, sfx, eqP, St.put, addBlk, getB, ldn, rowNeed, nsub, beqb, Seg.size, appL, argsOf, ptrsOf, cut, takeS, dropS, Nat.reduceAdd, addBs]
  refine call_g _ (imp_of (con113_at 15 i (by decide) 1 2 _ false rfl (by decide) (by simp [roL, keysLt, boxW]))) ?_
  simp (maxSteps := 10000000) only [rwp_nil, rwp_cons, rwpK_app, aop, gpath, St.get, slotAt, sfx, eqP, St.put, addBlk, getsl, selB_and, beqb, shed]
  refine hK _ ?_
  clear hK K
  repeat' (first | refine run_seq ?_ | (refine run_region fun K hK => ?_; (try (simp (maxSteps := 10000000) only [insnL, C84r0, C84r1, rwp_nil, rwp_cons, rwpK_app, aop, gpath, St.get, slotAt, sfx, eqP, segsOf, St.put, addBlk, getB, setB, delB, ld1, ldn, st1, stn, setRow, rowNeed, segAt, nsub, bin, un, eqB, isShift, sameK, arith, shiftR, getsl, selB_or, selB_and, beqb, shed, addN, Nat.beq, Seg.size, sizes, imp, needP, andN, appL, argsOf, ptrsOf, aasOf, cut, takeS, dropS, putS, partsOf, fillS, fieldOf, nthA, negIf, nilq, nilB, eqS, eqF, eqS1, andP, kin, slcS, strOk, plusA, bndHi, leN, optG, roH, roL, initT, exOk, exAll, wrAddr, Nat.reduceAdd, Nat.reduceSub, Nat.reduceMul, Int.reduceToNat, List.append_nil, List.nil_append, List.cons_append, eqT, idxT, cat, cpy, ite_int, ite_bool, ite_seg, ite_segs, ite_nil, ite_twice, Int.toNat_natCast, app, addBs, tob])); (repeat (first | (refine And.intro ?_ ?_; · first | trivial | assumption | omega))); with_reducible refine hK _ ?_; clear hK K) | refine run_ret ?_ | refine run_nil ?_)
  exact end_tmp1 rfl rfl rfl ⟨rfl, rfl⟩
def intsB (n : Nat) (f : Nat → Int) : Blk := ⟨1, some n, fun i => [.c (.int .i64 (f i))], 3, false⟩
theorem ints_le {l : List Nat} (n : Nat) (f : Nat → Int) (w : Bool) : leB l ⟨1, some n, fun i => [.c (.int .i64 (f i))], 3, w⟩ (intsB n f) := ⟨rfl, rfl, fun h => (by cases h), Nat.le_refl _, fun _ _ => ⟨⟨rfl, rfl⟩, trivial⟩⟩
def idxL (f : Nat → Int) (v : Int) : Nat → Nat → Int
  | 0, _ => -1
  | n + 1, i => if v = f i then i else idxL f v n (i + 1)
def idxSt (n : Nat) (f : Nat → Int) (v : Int) (i : Nat) : St := ⟨[⟨8, [], .c (.int .i64 i)⟩, ⟨7, [], .c (.int .i64 n)⟩, ⟨0, [], .c (.slice ⟨0, 0, 0, 0⟩ false n)⟩, ⟨1, [], .c (.int .i64 v)⟩], ⟨1, [(0, intsB n f)]⟩⟩
theorem end_ints {l : List Slot} {H : Heap} {R : Post} {t : Nat} {v : AV} (n : Nat) (f : Nat → Int) (hv : slotAt l t = some ⟨t, [], v⟩) (h0 : getB H.blks 0 = some (intsB n f)) (hid : leV [0] v v) (hn : noTup v = true) (hR : R v ⟨1, [(0, intsB n f)]⟩) : endQ (LeS 1) [.tmp t] R .ret ⟨l, H⟩ := by
  refine end_of ⟨[⟨t, [], v⟩], ⟨1, [(0, intsB n f)]⟩⟩ (LeS.intro [0] idt1 (by simp only [diff, notIn, and_self]) rfl (slotsOf hv hid trivial) (by simp only [leBlks, nthO, h0]; exact ⟨ints_le n f _, trivial⟩)) ?_
  have hg : St.get ⟨[⟨t, [], v⟩], ⟨1, [(0, intsB n f)]⟩⟩ [] (.t t) = v := by simp [St.get, slotAt, Nat.beq_refl, sfx, eqP]
  simp only [endF, resL, resA, hg, hn, resV]
  exact hR
theorem con122 (n : Nat) (f : Nat → Int) (v : Int) (hn : n < 1000) : Con Tryz.prog 122 [.c (.slice ⟨0, 0, 0, 0⟩ false n), .c (.int .i64 v)] ⟨1, [(0, intsB n f)]⟩ (fun r H' => r = .c (.int .i64 (idxL f v n 0)) ∧ H' = ⟨1, [(0, intsB n f)]⟩) := by
  (refine con_of_run mixed (fn := Tryz.f122) (by kernel_rfl) (by kernel_rfl) C122_ok (rs := [.tmp 4]) (by kernel_rfl) (Nat.le_of_ble_eq_true (by kernel_rfl)) ?_; unfold C122; simp only [initT, Nat.reduceAdd])
  generalize hT : idxL f v n 0 = T
  simp only [intsB]
  repeat' (first | refine run_seq ?_ | refine run_skip ?_ | (refine run_region fun K hK => ?_; (try (simp (maxSteps := 10000000) only [C122r0, rwp_nil, rwp_cons, aop, gpath, St.get, St.put, addBlk, shed])); (repeat (first | (refine And.intro ?_ ?_; · decide))); with_reducible refine hK _ ?_; clear hK K) | (refine run_cond rfl (fun hc => ?_) (fun hc => ?_) <;> try (simp only [*, Bool.true_eq_false, Bool.false_eq_true, Bool.not_true, Bool.not_false, Bool.true_or, Bool.or_true, Bool.false_or, Bool.or_false, Bool.false_and, Bool.and_false, bne_self_eq_false, beq_self_eq_true] at hc; done)) | refine run_block ?_ | refine run_ret ?_ | refine run_nil ?_ | refine run_exit ?_ | refine blk_normal ?_ | refine blk_ret ?_ | refine blk_here ?_ | refine blk_there rfl ?_ | refine loop_exit ?_ | refine loop_ret ?_ | refine un_exit ?_ | refine un_ret ?_ | refine unE_exit ?_ | refine unE_ret ?_ | refine un_normal ?_)
  (refine run_regionL fun K hK => ?_; (try (simp (maxSteps := 10000000) only [C122r1, rwp_nil, rwp_cons, aop, gpath, St.get, slotAt, sfx, eqP, St.put, addBlk, shed])); (repeat (refine And.intro ?_ ?_; · first | trivial | assumption | omega)); refine hK _ (idxSt n f v 0) ((LeS.intro [0] idt1 (by simp only [diff, notIn, and_self]) rfl (by simp only [idxSt, slotsLe, slotAt, leV, leV1, leC, leA, nthO, and_self, Int.natCast_zero]) ⟨ints_le n f _, trivial⟩)) ?_; clear hK K)
  refine run_block ?_
  refine run_loop (fun k st => ∃ i : Nat, st = idxSt n f v i ∧ k = n - i ∧ i ≤ n ∧ idxL f v (n - i) i = T) n ⟨0, rfl, rfl, Nat.zero_le _, hT⟩ ?_
  rintro k st ⟨i, rfl, hk, hi, hT⟩
  simp only [idxSt, intsB]
  repeat' (first | refine run_seq ?_ | refine run_skip ?_ | (refine run_region fun K hK => ?_; (try (simp (maxSteps := 10000000) only [C122r2, C122r3, C122r4, C122r5, C122r6, C122r7, rwp_nil, rwp_cons, aop, gpath, St.get, slotAt, sfx, eqP, St.put, addBlk, getB, ld1, rowNeed, segAt, bin, isShift, sameK, arith, shed, addN, Nat.beq, imp, strOk, plusA, Int.toNat_natCast])); (repeat (first | (refine And.intro ?_ ?_; · (first | omega | (simp only [decide_eq_true_eq] at hc; omega))))); with_reducible refine hK _ ?_; clear hK K) | (refine run_cond rfl (fun hc => ?_) (fun hc => ?_) <;> try (simp only [*, Bool.true_eq_false, Bool.false_eq_true, Bool.not_true, Bool.not_false, Bool.true_or, Bool.or_true, Bool.false_or, Bool.or_false, Bool.false_and, Bool.and_false, bne_self_eq_false, beq_self_eq_true] at hc; done)) | refine run_block ?_ | refine run_ret ?_ | refine run_nil ?_ | refine run_exit ?_ | refine blk_normal ?_ | refine blk_ret ?_ | refine blk_here ?_ | refine blk_there rfl ?_ | refine loop_exit ?_ | refine loop_ret ?_ | refine un_exit ?_ | refine un_ret ?_ | refine unE_exit ?_ | refine unE_ret ?_ | refine un_normal ?_)
  · have hlt : i < n := by simpa using ‹decide ((i : Int) < (n : Int)) = true›
    obtain ⟨m, hm⟩ : ∃ m, n - i = m + 1 := ⟨n - i - 1, by omega⟩
    have e : v = f i := by simpa using hc
    rw [hm] at hT
    unfold idxL at hT
    rw [if_pos e] at hT
    refine end_ints n f rfl rfl ⟨rfl, rfl⟩ rfl ⟨by rw [hT], rfl⟩
  · have hlt : i < n := by simpa using ‹decide ((i : Int) < (n : Int)) = true›
    obtain ⟨m, hm⟩ : ∃ m, n - i = m + 1 := ⟨n - i - 1, by omega⟩
    have e : ¬ v = f i := by simpa using hc
    rw [hm] at hT
    unfold idxL at hT
    rw [if_neg e] at hT
    have hw : IntKind.i64.wrap ((i : Int) + 1) = ((i + 1 : Nat) : Int) := by rw [IntKind.wrap_i64]; omega
    rw [hw]
    exact loop_normal (n - (i + 1)) (idxSt n f v (i + 1)) (by omega) (LeS.intro [0] idt1 (by simp only [diff, notIn, and_self]) rfl (by simp only [idxSt, slotsLe, slotAt, leV, leV1, leC, leA, nthO, and_self]) ⟨ints_le n f _, trivial⟩) ⟨i + 1, rfl, rfl, hlt, by rw [show n - (i + 1) = m by omega]; exact hT⟩
  · have hge : ¬ i < n := by simpa using hc
    have h0 : n - i = 0 := by omega
    rw [h0] at hT
    exact end_ints n f rfl rfl ⟨rfl, rfl⟩ rfl ⟨by rw [← hT]; rfl, rfl⟩
def inL (f : Nat → Int) (n : Nat) (v : Int) : Bool := decide (idxL f v n 0 ≥ 0)
theorem con112 (n : Nat) (f : Nat → Int) (v : Int) (hn : n < 1000) : Con Tryz.prog 112 [.c (.slice ⟨0, 0, 0, 0⟩ false n), .c (.int .i64 v)] ⟨1, [(0, intsB n f)]⟩ (fun r H' => r = .c (.bool (inL f n v)) ∧ H' = ⟨1, [(0, intsB n f)]⟩) := by
  (refine con_of_run mixed (fn := Tryz.f112) (by kernel_rfl) (by kernel_rfl) C112_ok (rs := [.tmp 4]) (by kernel_rfl) (Nat.le_of_ble_eq_true (by kernel_rfl)) ?_; unfold C112; simp only [initT, Nat.reduceAdd])
  repeat' (first | refine run_seq ?_ | (refine run_region fun K hK => ?_; (try (simp (maxSteps := 10000000) only [C112r0, C112r1, rwp_nil, rwp_cons, aop, gpath, St.get, slotAt, sfx, eqP, St.put, addBlk, shed, appL, argsOf, ptrsOf])); (repeat (first | (refine And.intro ?_ ?_; · decide) | ((first | (refine call_t _ (con122 n f v hn) ?_; rintro v H' ⟨rfl, rfl⟩) | refine call_q _ (con122 n f v hn) ?_ | refine call_g _ (imp_of (con122 n f v hn)) ?_); simp (maxSteps := 10000000) only [rwp_nil, rwp_cons, rwpK_app, aop, gpath, St.get, slotAt, sfx, eqP, St.put, addBlk, bin, isShift, sameK, arith, shed]))); with_reducible refine hK _ ?_; clear hK K) | refine run_ret ?_ | refine run_nil ?_)
  exact end_ints n f rfl rfl rfl rfl ⟨rfl, rfl⟩
theorem con112_at (m : Nat) (f : Nat → Int) (v : Int) (hm : m < 1000) (j n : Nat) (X : List (Nat × Blk)) (w : Bool) (hj : getB X j = some ⟨1, some m, fun i => [.c (.int .i64 (f i))], 3, w⟩) (hlt : j < n) (hkl : keysLt X n) : Con Tryz.prog 112 [.c (.slice ⟨j, 0, 0, 0⟩ false m), .c (.int .i64 v)] ⟨n, X⟩ (fun r H' => r = .c (.bool (inL f m v)) ∧ H' = ⟨n, X⟩) :=
  ro_gen (con112 m f v hm) [j] n X rfl ⟨trivial, trivial⟩ ⟨hlt, trivial⟩ hkl (by simp only [leBlks, nthO, hj]; exact ⟨ints_le m f w, trivial⟩) (by simp only [leArgs, leV, leV1, leC, leA, nthO, and_self]) rfl (fun _ => rfl) rfl rfl
def slB (a n : Nat) (w : Bool) : Blk := ⟨1, none, fun _ => [.c (.slice ⟨a, 0, 0, 0⟩ false n)], 52, w⟩
theorem con111 (n : Nat) (f : Nat → Int) (i : InsnS) (hn : n < 1000) : Con Tryz.prog 111 [.agg (insnL i), .c (.ptr ⟨1, 0, 0, 0⟩)] ⟨2, [(1, slB 0 n false), (0, intsB n f)]⟩ (fun v H' => v = .c (.bool (inL f n i.sub)) ∧ H' = ⟨2, [(1, slB 0 n false), (0, intsB n f)]⟩) := by
  (refine con_of_run mixed (fn := Tryz.f111) (by kernel_rfl) (by kernel_rfl) C111_ok (rs := [.tmp 3]) (by kernel_rfl) (Nat.le_of_ble_eq_true (by kernel_rfl)) ?_; unfold C111; simp only [initT, Nat.reduceAdd])
  generalize hR : (fun (v : AV) (H' : Heap) => v = AV.c (.bool (inL f n i.sub)) ∧ H' = ⟨2, [(1, slB 0 n false), (0, intsB n f)]⟩) = R
  simp only [slB]
  repeat' (first | refine run_seq ?_ | (refine run_region fun K hK => ?_; (try (simp (maxSteps := 10000000) only [insnL, C111r0, C111r1, rwp_nil, rwp_cons, aop, gpath, St.get, slotAt, sfx, eqP, segsOf, St.put, addBlk, getB, ld1, rowNeed, segAt, nsub, shed, addN, Seg.size, sizes, appL, argsOf, ptrsOf, Nat.reduceAdd])); (repeat (first | (refine And.intro ?_ ?_; · decide) | ((first | (refine call_t _ (con112_at n f _ hn 0 _ _ false rfl (by decide) (by simp [keysLt])) ?_; rintro v H' ⟨rfl, rfl⟩) | refine call_q _ (con112_at n f _ hn 0 _ _ false rfl (by decide) (by simp [roL, keysLt, boxW])) ?_ | refine call_g _ (imp_of (con112_at n f _ hn 0 _ _ false rfl (by decide) (by simp [roL, keysLt, boxW]))) ?_); simp (maxSteps := 10000000) only [rwp_nil, rwp_cons, rwpK_app, aop, gpath, St.get, slotAt, sfx, eqP, St.put, addBlk, shed]))); with_reducible refine hK _ ?_; clear hK K) | refine run_ret ?_ | refine run_nil ?_)
  subst hR
  refine end_of ⟨[⟨3, [], .c (.bool (inL f n i.sub))⟩], ⟨2, [(1, slB 0 n false), (0, intsB n f)]⟩⟩ (LeS.intro [0, 1] idt2 (by simp only [diff, notIn, Nat.beq, and_self]) rfl ⟨rfl, trivial⟩ ⟨⟨rfl, rfl, id, Nat.le_refl _, fun _ _ => ⟨⟨⟨rfl, rfl, rfl, rfl⟩, rfl, rfl⟩, trivial⟩⟩, ints_le n f _, trivial⟩) ⟨rfl, rfl⟩
def sysL : Nat → Int
  | 0 => 17920
  | 1 => 16897
  | 2 => 16896
  | 3 => 17040
  | 4 => 17152
  | 5 => 16904
  | 6 => 16389
  | 7 => 16914
  | 8 => 23057
  | 9 => 23056
  | 10 => 24194
  | 11 => 18016
  | 12 => 18017
  | 13 => 16944
  | 14 => 18013
  | 15 => 24322
  | 16 => 24345
  | 17 => 24346
  | _ => 0
theorem sys_rows : ∀ i, i < 18 → cutD [.c (.int .i64 17920), .c (.int .i64 16897), .c (.int .i64 16896), .c (.int .i64 17040), .c (.int .i64 17152), .c (.int .i64 16904), .c (.int .i64 16389), .c (.int .i64 16914), .c (.int .i64 23057), .c (.int .i64 23056), .c (.int .i64 24194), .c (.int .i64 18016), .c (.int .i64 18017), .c (.int .i64 16944), .c (.int .i64 18013), .c (.int .i64 24322), .c (.int .i64 24345), .c (.int .i64 24346)] (i * 1) 1 = [.c (.int .i64 (sysL i))]
  | 0, _ => rfl
  | 1, _ => rfl
  | 2, _ => rfl
  | 3, _ => rfl
  | 4, _ => rfl
  | 5, _ => rfl
  | 6, _ => rfl
  | 7, _ => rfl
  | 8, _ => rfl
  | 9, _ => rfl
  | 10, _ => rfl
  | 11, _ => rfl
  | 12, _ => rfl
  | 13, _ => rfl
  | 14, _ => rfl
  | 15, _ => rfl
  | 16, _ => rfl
  | 17, _ => rfl
  | n + 18, h => absurd h (by omega)
theorem con116 (n : Nat) (X : List (Nat × Blk)) (hkl : keysLt X n) : Con Tryz.prog 116 [] ⟨n, X⟩ (fun v H' => v = .c (.slice ⟨n, 0, 0, 0⟩ false 18) ∧ H' = addBs ⟨n, X⟩ [⟨1, some 18, fun i => [.c (.int .i64 (sysL i))], 3, true⟩]) := by
  have h0 : Con Tryz.prog 116 [] ⟨0, []⟩ (fun v H' => v = .c (.slice ⟨0, 0, 0, 0⟩ false 18) ∧ H' = ⟨1, [(0, ⟨1, some 18, fun i => [.c (.int .i64 (sysL i))], 3, true⟩)]⟩) := by
    (refine con_of_run mixed (fn := Tryz.f116) (by kernel_rfl) (by kernel_rfl) C116_ok (rs := [.tmp 0]) (by kernel_rfl) (Nat.le_of_ble_eq_true (by kernel_rfl)) ?_; unfold C116; simp only [initT])
    repeat' (first | refine run_seq ?_ | (refine run_region fun K hK => ?_; (try (simp (maxSteps := 10000000) only [repl, rowsFit, rowFn, cutD, C116r0, C116r1, rwp_nil, rwp_cons, aop, gpath, St.get, slotAt, sfx, eqP, segsOf, St.put, addBlk, nsub, shed, Nat.beq, Seg.size, sizes, cut, takeS, dropS, putS, partsOf, fillS, Nat.reduceAdd, List.append_nil, List.nil_append, List.cons_append])); (repeat (first | (refine And.intro ?_ ?_; · first | trivial | assumption | omega))); with_reducible refine hK _ ?_; clear hK K) | refine run_ret ?_ | refine run_nil ?_)
    refine end_of ⟨[⟨0, [], .c (.slice ⟨0, 0, 0, 0⟩ false 18)⟩], ⟨1, [(0, ⟨1, some 18, fun i => [.c (.int .i64 (sysL i))], 3, true⟩)]⟩⟩ (LeS.intro [0] (fun i h => absurd h (Nat.not_lt_zero i)) (by simp only [diff, notIn, and_self]) rfl ⟨⟨⟨rfl, rfl, rfl, rfl⟩, rfl, rfl⟩, trivial⟩ ⟨⟨rfl, rfl, id, Nat.le_refl _, fun i hi => ?_⟩, trivial⟩) ⟨rfl, rfl⟩
    have e := sys_rows i hi
    show leSegs _ (cutD _ (i * 1) 1) [.c (.int .i64 (sysL i))]
    rw [e]
    exact ⟨⟨rfl, rfl⟩, trivial⟩
  refine (h0.frame (H := ⟨n, X⟩) (args := []) [] rfl trivial trivial hkl trivial (by simp only [leArgs])).weaken ?_
  rintro v H' ⟨v0, H0', ⟨rfl, rfl⟩, rfl, rfl⟩
  refine ⟨rfl, ?_⟩
  simp only [framed, dropB_none (l := []) (H0 := []) (fun _ => rfl)]
  rfl
def sysOk (i : InsnS) : Bool := inL sysL 18 i.sys
theorem con115 (i : InsnS) (H : Heap) : Con Tryz.prog 115 [.agg (insnL i)] H (fun v H' => v = .c (.bool (sysOk i)) ∧ H' = H) := by
  refine Con.pure ?_ (by simp only [leArgs, leV, leV1, insnL, leSegs, leSeg, leC, and_self]) rfl H
  (refine con_of_run mixed (fn := Tryz.f115) (by kernel_rfl) (by kernel_rfl) C115_ok (rs := [.tmp 2]) (by kernel_rfl) (Nat.le_of_ble_eq_true (by kernel_rfl)) ?_; unfold C115; simp only [initT])
  repeat' (first | refine run_seq ?_ | (refine run_region fun K hK => ?_; (try (simp (maxSteps := 10000000) only [insnL, C115r0, rwp_nil, rwp_cons, aop, gpath, St.get, slotAt, sfx, eqP, segsOf, St.put, addBlk, shed, Seg.size, sizes, Nat.reduceAdd])); (repeat (first | (refine And.intro ?_ ?_; · decide))); with_reducible refine hK _ ?_; clear hK K) | refine run_ret ?_ | refine run_nil ?_)
  refine run_region fun K hK => ?_
  simp (maxSteps := 10000000) only [C115r1, rwp_cons, aop, gpath, St.get, appL, argsOf, ptrsOf]
  refine call_n _ [⟨1, some 18, fun i => [.c (.int .i64 (sysL i))], 3, true⟩] rfl (con116 _ _ (by simp [roL, keysLt])) ?_
  simp (maxSteps := 10000000) only [rwp_cons, rwpK_app, aop, gpath, St.get, slotAt, sfx, eqP, St.put, addBlk, getB, ld1, rowNeed, segAt, nsub, addN, Seg.size, appL, argsOf, ptrsOf, Nat.reduceAdd, addBs]
  refine call_t _ (con112_at 18 sysL _ (by decide) 1 _ _ true rfl (by decide) (by simp [keysLt])) ?_
  rintro v H' ⟨rfl, rfl⟩
  simp (maxSteps := 10000000) only [rwp_nil, rwp_cons, rwpK_app, aop, gpath, St.get, slotAt, sfx, eqP, St.put, addBlk, shed]
  refine hK _ ?_
  clear hK K
  repeat' (first | refine run_seq ?_ | (refine run_region fun K hK => ?_; (try (simp (maxSteps := 10000000) only [insnL, C115r0, C115r1, rwp_nil, rwp_cons, rwpK_app, aop, gpath, St.get, slotAt, sfx, eqP, segsOf, St.put, addBlk, getB, setB, delB, ld1, ldn, st1, stn, setRow, rowNeed, segAt, nsub, bin, un, eqB, isShift, sameK, arith, shiftR, getsl, selB_or, selB_and, beqb, shed, addN, Nat.beq, Seg.size, sizes, imp, needP, andN, appL, argsOf, ptrsOf, aasOf, cut, takeS, dropS, putS, partsOf, fillS, fieldOf, nthA, negIf, nilq, nilB, eqS, eqF, eqS1, andP, kin, slcS, strOk, plusA, bndHi, leN, optG, roH, roL, initT, exOk, exAll, wrAddr, Nat.reduceAdd, Nat.reduceSub, Nat.reduceMul, Int.reduceToNat, List.append_nil, List.nil_append, List.cons_append, eqT, idxT, cat, cpy, ite_int, ite_bool, ite_seg, ite_segs, ite_nil, ite_twice, Int.toNat_natCast, app, addBs, tob])); (repeat (first | (refine And.intro ?_ ?_; · first | trivial | assumption | omega))); with_reducible refine hK _ ?_; clear hK K) | refine run_ret ?_ | refine run_nil ?_)
  exact end_tmp1 rfl rfl rfl ⟨rfl, rfl⟩
end Go.Proofs.YteikpddilabppaaGreatR

namespace Go.Proofs.YteikpddilabppaaGreatR
open Go.AM
set_option maxRecDepth 100000
set_option linter.unusedSimpArgs false
set_option linter.unusedVariables false
def tabT : ByteArray := ⟨#[0, 1, 2, 2, 3, 3, 3, 3, 4, 4, 4, 4, 4, 4, 4, 4, 5, 5, 5, 5, 5, 5, 5, 5, 5, 5, 5, 5, 5, 5, 5, 5, 6, 6, 6, 6, 6, 6, 6, 6, 6, 6, 6, 6, 6, 6, 6, 6, 6, 6, 6, 6, 6, 6, 6, 6, 6, 6, 6, 6, 6, 6, 6, 6, 7, 7, 7, 7, 7, 7, 7, 7, 7, 7, 7, 7, 7, 7, 7, 7, 7, 7, 7, 7, 7, 7, 7, 7, 7, 7, 7, 7, 7, 7, 7, 7, 7, 7, 7, 7, 7, 7, 7, 7, 7, 7, 7, 7, 7, 7, 7, 7, 7, 7, 7, 7, 7, 7, 7, 7, 7, 7, 7, 7, 7, 7, 7, 7, 8, 8, 8, 8, 8, 8, 8, 8, 8, 8, 8, 8, 8, 8, 8, 8, 8, 8, 8, 8, 8, 8, 8, 8, 8, 8, 8, 8, 8, 8, 8, 8, 8, 8, 8, 8, 8, 8, 8, 8, 8, 8, 8, 8, 8, 8, 8, 8, 8, 8, 8, 8, 8, 8, 8, 8, 8, 8, 8, 8, 8, 8, 8, 8, 8, 8, 8, 8, 8, 8, 8, 8, 8, 8, 8, 8, 8, 8, 8, 8, 8, 8, 8, 8, 8, 8, 8, 8, 8, 8, 8, 8, 8, 8, 8, 8, 8, 8, 8, 8, 8, 8, 8, 8, 8, 8, 8, 8, 8, 8, 8, 8, 8, 8, 8, 8, 8, 8, 8, 8, 8, 8, 8, 8, 8, 8, 8, 8]⟩
theorem tab_size : ((ByteArray.size ⟨#[0, 1, 2, 2, 3, 3, 3, 3, 4, 4, 4, 4, 4, 4, 4, 4, 5, 5, 5, 5, 5, 5, 5, 5, 5, 5, 5, 5, 5, 5, 5, 5, 6, 6, 6, 6, 6, 6, 6, 6, 6, 6, 6, 6, 6, 6, 6, 6, 6, 6, 6, 6, 6, 6, 6, 6, 6, 6, 6, 6, 6, 6, 6, 6, 7, 7, 7, 7, 7, 7, 7, 7, 7, 7, 7, 7, 7, 7, 7, 7, 7, 7, 7, 7, 7, 7, 7, 7, 7, 7, 7, 7, 7, 7, 7, 7, 7, 7, 7, 7, 7, 7, 7, 7, 7, 7, 7, 7, 7, 7, 7, 7, 7, 7, 7, 7, 7, 7, 7, 7, 7, 7, 7, 7, 7, 7, 7, 7, 8, 8, 8, 8, 8, 8, 8, 8, 8, 8, 8, 8, 8, 8, 8, 8, 8, 8, 8, 8, 8, 8, 8, 8, 8, 8, 8, 8, 8, 8, 8, 8, 8, 8, 8, 8, 8, 8, 8, 8, 8, 8, 8, 8, 8, 8, 8, 8, 8, 8, 8, 8, 8, 8, 8, 8, 8, 8, 8, 8, 8, 8, 8, 8, 8, 8, 8, 8, 8, 8, 8, 8, 8, 8, 8, 8, 8, 8, 8, 8, 8, 8, 8, 8, 8, 8, 8, 8, 8, 8, 8, 8, 8, 8, 8, 8, 8, 8, 8, 8, 8, 8, 8, 8, 8, 8, 8, 8, 8, 8, 8, 8, 8, 8, 8, 8, 8, 8, 8, 8, 8, 8, 8, 8, 8, 8, 8, 8]⟩ : Nat) : Int) = 256 := by decide +kernel
def lenS (x : Int) : Int := IntKind.i64.wrap (0 + IntKind.i64.wrap (byteAt tabT (IntKind.u8.wrap x).toNat))
theorem con121 (x : Int) (h0 : 0 ≤ x) (h1 : x < 256) (H : Heap) : Con Tryz.prog 121 [.c (.int .u64 x)] H (fun v H' => v = .c (.int .i64 (lenS x)) ∧ H' = H) := by
  refine Con.pure ?_ (by simp only [leArgs, leV, leV1, leC, and_self]) rfl H
  (refine con_of_run mixed (fn := Tryz.f121) (by kernel_rfl) (by kernel_rfl) C121_ok (rs := [.tmp 2]) (by kernel_rfl) (Nat.le_of_ble_eq_true (by kernel_rfl)) ?_; unfold C121; simp only [initT])
  have c1 : decide (x ≥ 4294967296) = false := by simp; omega
  have c2 : decide (x ≥ 65536) = false := by simp; omega
  have c3 : decide (x ≥ 256) = false := by simp; omega
  have hb : 0 ≤ IntKind.u8.wrap x ∧ IntKind.u8.wrap x < 256 := by rw [IntKind.wrap_u8]; omega
  repeat' (first | refine run_seq ?_ | refine run_skip ?_ | (refine run_region fun K hK => ?_; (try (simp (maxSteps := 10000000) only [c1, c2, c3, tab_size, C121r0, C121r1, C121r4, C121r7, C121r10, rwp_nil, rwp_cons, aop, gpath, St.get, slotAt, sfx, eqP, St.put, addBlk, bin, isShift, sameK, arith, shed, imp, idxT])); (repeat (first | (refine And.intro ?_ ?_; · assumption))); with_reducible refine hK _ ?_; clear hK K) | (refine run_cond rfl (fun hc => ?_) (fun hc => ?_) <;> try (simp only [*, Bool.false_eq_true] at hc; done)) | refine run_ret ?_ | refine run_nil ?_)
  exact end_tmp1 rfl ⟨rfl, rfl⟩ rfl ⟨rfl, rfl⟩
theorem con109 (x : Int) (h0 : 0 ≤ x) (h1 : x < 256) (H : Heap) : Con Tryz.prog 109 [.c (.int .u64 x)] H (fun v H' => v = .c (.int .i64 (lenS x)) ∧ H' = H) := by
  refine Con.pure ?_ (by simp only [leArgs, leV, leV1, leC, and_self]) rfl H
  (refine con_of_run mixed (fn := Tryz.f109) (by kernel_rfl) (by kernel_rfl) C109_ok (rs := [.tmp 2]) (by kernel_rfl) (Nat.le_of_ble_eq_true (by kernel_rfl)) ?_; unfold C109; simp only [initT])
  repeat' (first | refine run_seq ?_ | refine run_skip ?_ | (refine run_region fun K hK => ?_; (try (simp (maxSteps := 10000000) only [C109r0, C109r2, rwp_nil, rwp_cons, aop, gpath, St.get, slotAt, sfx, eqP, St.put, addBlk, shed, appL, argsOf, ptrsOf])); (repeat (first | (refine And.intro ?_ ?_; · assumption) | ((first | (refine call_t _ (con121 x h0 h1 _) ?_; rintro v H' ⟨rfl, rfl⟩) | refine call_q _ (con121 x h0 h1 _) ?_ | refine call_g _ (imp_of (con121 x h0 h1 _)) ?_); simp (maxSteps := 10000000) only [rwp_nil, rwp_cons, rwpK_app, aop, gpath, St.get, slotAt, sfx, eqP, St.put, addBlk, shed]))); with_reducible refine hK _ ?_; clear hK K) | (refine run_cond rfl (fun hc => ?_) (fun hc => ?_) <;> try (simp only [*, Bool.false_eq_true] at hc; done)) | refine run_ret ?_ | refine run_nil ?_)
  exact end_tmp1 rfl ⟨rfl, rfl⟩ rfl ⟨rfl, rfl⟩
def rorBad (v by_ many : Int) : Bool := (decide (many < 1) || decide (many > 64)) || decide (by_ < 0)
def rorOver (v many : Int) : Bool := decide (many < 64) && (v.fdiv (2 ^ min many.toNat IntKind.u64.bits) != 0)
def rorE (v by_ many : Int) : Int := if rorBad v by_ many = true then 1 else if rorOver v many = true then 2 else 0
theorem con110 (v by_ many : Int) (hby : by_ ≤ 9223372036854775807) : ∃ x : Int, Con Tryz.prog 110 [.c (.int .u64 v), .c (.int .i64 by_), .c (.int .i64 many)] ⟨0, []⟩ (fun r H' => r = .tup [.c (.int .u64 x), .c (.int .i64 (rorE v by_ many))] ∧ H' = ⟨0, []⟩) := by
  by_cases hb : rorBad v by_ many = true
  · refine ⟨0, ?_⟩
    have hb0 : ((decide (many < 1) || decide (many > 64)) || decide (by_ < 0)) = true := hb
    (refine con_of_run mixed (fn := Tryz.f110) (by kernel_rfl) (by kernel_rfl) C110_ok (rs := [.tmp 6, .tmp 7]) (by kernel_rfl) (Nat.le_of_ble_eq_true (by kernel_rfl)) ?_; unfold C110; simp only [initT, Nat.reduceAdd])
    repeat' (first | refine run_seq ?_ | refine run_skip ?_ | (refine run_region fun K hK => ?_; (try (simp (maxSteps := 10000000) only [hb0, C110r0, C110r1, C110r2, rwp_nil, rwp_cons, aop, gpath, St.get, slotAt, sfx, eqP, St.put, addBlk, bin, isShift, sameK, arith, getsl, selB_or, beqb, shed])); (repeat (first | (refine And.intro ?_ ?_; · first | trivial | assumption | omega))); with_reducible refine hK _ ?_; clear hK K) | (refine run_cond rfl (fun hc => ?_) (fun hc => ?_) <;> try (simp only [*, Bool.true_eq_false] at hc; done)) | refine run_ret ?_ | refine run_nil ?_)
    exact end_tmp2 rfl rfl rfl ⟨rfl, rfl⟩ ⟨rfl, rfl⟩ rfl rfl ⟨by simp only [rorE, hb, if_true], rfl⟩
  · have hb1 : rorBad v by_ many = false := by simpa using hb
    have hb0 : ((decide (many < 1) || decide (many > 64)) || decide (by_ < 0)) = false := hb1
    have hb' := hb1
    simp only [rorBad, Bool.or_eq_false_iff, decide_eq_false_iff_not] at hb'
    by_cases ho : rorOver v many = true
    · refine ⟨0, ?_⟩
      have ho0 : (decide (many < 64) && (v.fdiv (2 ^ min many.toNat IntKind.u64.bits) != 0)) = true := ho
      (refine con_of_run mixed (fn := Tryz.f110) (by kernel_rfl) (by kernel_rfl) C110_ok (rs := [.tmp 6, .tmp 7]) (by kernel_rfl) (Nat.le_of_ble_eq_true (by kernel_rfl)) ?_; unfold C110; simp only [initT, Nat.reduceAdd])
      repeat' (first | refine run_seq ?_ | refine run_skip ?_ | (refine run_region fun K hK => ?_; (try (simp (maxSteps := 10000000) only [hb0, ho0, C110r0, C110r1, C110r3, C110r4, rwp_nil, rwp_cons, aop, gpath, St.get, slotAt, sfx, eqP, St.put, addBlk, bin, isShift, sameK, arith, shiftR, getsl, selB_or, selB_and, beqb, shed, imp])); (repeat (first | (refine And.intro ?_ ?_; · (intros; omega)))); with_reducible refine hK _ ?_; clear hK K) | (refine run_cond rfl (fun hc => ?_) (fun hc => ?_) <;> try (simp only [*, Bool.true_eq_false, Bool.false_eq_true] at hc; done)) | refine run_ret ?_ | refine run_nil ?_)
      exact end_tmp2 rfl rfl rfl ⟨rfl, rfl⟩ ⟨rfl, rfl⟩ rfl rfl ⟨by simp only [rorE, hb1, ho, if_true, Bool.false_eq_true, if_false], rfl⟩
    · have ho1 : rorOver v many = false := by simpa using ho
      have ho0 : (decide (many < 64) && (v.fdiv (2 ^ min many.toNat IntKind.u64.bits) != 0)) = false := ho1
      have hm : many ≠ 0 := by omega
      have ht : 0 ≤ by_.tmod many ∧ by_.tmod many < many := ⟨Int.tmod_nonneg _ (by omega), Int.tmod_lt_of_pos _ (by omega)⟩
      have hw1 : 0 ≤ IntKind.i64.wrap (64 - many) := by rw [IntKind.wrap_i64]; omega
      have hw2 : 0 ≤ IntKind.i64.wrap (many - by_.tmod many) := by rw [IntKind.wrap_i64]; omega
      apply Exists.intro
      (refine con_of_run mixed (fn := Tryz.f110) (by kernel_rfl) (by kernel_rfl) C110_ok (rs := [.tmp 6, .tmp 7]) (by kernel_rfl) (Nat.le_of_ble_eq_true (by kernel_rfl)) ?_; unfold C110; simp only [initT, Nat.reduceAdd])
      repeat' (first | refine run_seq ?_ | refine run_skip ?_ | (refine run_region fun K hK => ?_; (try (simp (maxSteps := 10000000) only [hb0, ho0, C110r0, C110r1, C110r3, C110r5, C110r6, C110r7, rwp_nil, rwp_cons, aop, gpath, St.get, slotAt, sfx, eqP, St.put, addBlk, bin, isShift, sameK, arith, shiftR, getsl, selB_or, selB_and, beqb, shed, imp])); (repeat (first | (refine And.intro ?_ ?_; · (first | assumption | exact ht.1 | (intros; omega))))); with_reducible refine hK _ ?_; clear hK K) | (refine run_cond rfl (fun hc => ?_) (fun hc => ?_) <;> try (simp only [*, Bool.false_eq_true] at hc; done)) | refine run_ret ?_ | refine run_nil ?_)
      exact end_tmp2 rfl rfl rfl ⟨rfl, rfl⟩ ⟨rfl, rfl⟩ rfl rfl ⟨by simp only [rorE, hb1, ho1, Bool.false_eq_true, if_false]; rfl, rfl⟩
end Go.Proofs.YteikpddilabppaaGreatR

namespace Go.Proofs.YteikpddilabppaaGreatR
open Go.AM
set_option maxRecDepth 100000
theorem bits64 : IntKind.i64.bits = 64 := rfl
theorem or_le {x y : BitVec 64} (h : x ||| y = y) : x.toNat ≤ y.toNat := by
  have e : x = x &&& y := by
    have h2 : x = x &&& (x ||| y) := by
      apply BitVec.eq_of_getLsbD_eq
      intro i _
      simp only [BitVec.getLsbD_and, BitVec.getLsbD_or]
      cases x.getLsbD i <;> rfl
    rw [h] at h2
    exact h2
  rw [e, BitVec.toNat_and]
  exact Nat.and_le_right
theorem ofInt_wrap (x : Int) : BitVec.ofInt 64 (IntKind.i64.wrap x) = BitVec.ofInt 64 x := by
  apply BitVec.eq_of_toInt_eq
  rw [BitVec.toInt_ofInt, BitVec.toInt_ofInt, IntKind.wrap_i64]
  simp only [Int.bmod_def]
  omega
theorem orS_le {n b : Int} (hb : 0 ≤ b) (hb' : b < 64) (h : (orS n b != b) = false) : (BitVec.ofInt 64 n).toNat ≤ b.toNat := by
  have h1 : orS n b = b := by simpa using h
  have h2 : BitVec.ofInt 64 n ||| BitVec.ofInt 64 b = BitVec.ofInt 64 b := by
    have h3 := congrArg (BitVec.ofInt 64) h1
    simp only [orS] at h3
    rw [ofInt_wrap, BitVec.ofInt_natCast] at h3
    simp only [bits64] at h3
    rw [BitVec.ofNat_toNat, BitVec.setWidth_eq] at h3
    exact h3
  have h4 := or_le h2
  have h5 : (BitVec.ofInt 64 b).toNat = b.toNat := by
    rw [BitVec.toNat_ofInt]
    omega
  omega
def keyV (n s : Int) : Int := IntKind.i64.wrap (BitVec.ofInt IntKind.i64.bits (IntKind.i64.wrap (n * 2 ^ min 6 IntKind.i64.bits)) ||| BitVec.ofInt IntKind.i64.bits (IntKind.i64.wrap (BitVec.ofInt IntKind.i64.bits (IntKind.i64.wrap (BitVec.ofInt IntKind.i64.bits (if IntKind.i64.signed = true then -1 else IntKind.i64.max) ^^^ BitVec.ofInt IntKind.i64.bits s).toNat) &&& BitVec.ofInt IntKind.i64.bits 63).toNat)).toNat
theorem ofInt_nat (n : Int) : BitVec.ofInt 64 n = BitVec.ofInt 64 ((BitVec.ofInt 64 n).toNat : Int) := by
  rw [BitVec.ofInt_natCast, BitVec.ofNat_toNat, BitVec.setWidth_eq]
theorem keyV_nat (n s : Int) : keyV n s = keyV (BitVec.ofInt 64 n).toNat (BitVec.ofInt 64 s).toNat := by
  unfold keyV
  simp only [bits64]
  rw [ofInt_wrap, ofInt_wrap ((((BitVec.ofInt 64 n).toNat : Nat) : Int) * 2 ^ min 6 64), BitVec.ofInt_mul, BitVec.ofInt_mul, ← ofInt_nat, ← ofInt_nat]
theorem key_dec : ∀ a : Fin 2, ∀ b : Fin 64, 0 ≤ keyV (a.val : Int) (b.val : Int) ∧ keyV (a.val : Int) (b.val : Int) < 128 := by decide +kernel
def sizeV (k : Int) : Int := IntKind.i64.wrap (1 * 2 ^ min (IntKind.i64.wrap (lenS k - 1)).toNat IntKind.i64.bits)
theorem size_dec : ∀ k : Fin 128, 2 ≤ k.val → 0 ≤ IntKind.i64.wrap (lenS (k.val : Int) - 1) ∧ 1 ≤ sizeV (k.val : Int) ∧ 0 ≤ IntKind.i64.wrap (sizeV (k.val : Int) - 1) ∧ IntKind.i64.wrap (sizeV (k.val : Int) - 1) < 64 := by decide +kernel
end Go.Proofs.YteikpddilabppaaGreatR

namespace Go.Proofs.YteikpddilabppaaGreatR
open Go.AM
set_option maxRecDepth 100000
set_option linter.unusedSimpArgs false
set_option linter.unusedVariables false
theorem key_rng {n r s : Int} (h : (((orS n 1 != 1) || (orS r 63 != 63)) || (orS s 63 != 63)) = false) : 0 ≤ keyV n s ∧ keyV n s < 128 := by
  simp only [Bool.or_eq_false_iff] at h
  have h1 := orS_le (by decide) (by decide) h.1.1
  have h2 := orS_le (by decide) (by decide) h.2
  rw [keyV_nat]
  exact key_dec ⟨(BitVec.ofInt 64 n).toNat, by omega⟩ ⟨(BitVec.ofInt 64 s).toNat, by omega⟩
theorem and_rng (x : BitVec 64) (y : Int) (h0 : 0 ≤ y) (h1 : y < 64) : 0 ≤ IntKind.i64.wrap (x &&& BitVec.ofInt 64 y).toNat ∧ IntKind.i64.wrap (x &&& BitVec.ofInt 64 y).toNat < 64 := by
  have e : (x &&& BitVec.ofInt 64 y).toNat ≤ y.toNat := by
    rw [BitVec.toNat_and]
    refine Nat.le_trans Nat.and_le_right ?_
    rw [BitVec.toNat_ofInt, show ((2 ^ 64 : Nat) : Int) = 18446744073709551616 from rfl, Int.emod_eq_of_lt h0 (by omega)]
    exact Nat.le_refl _
  generalize (x &&& BitVec.ofInt 64 y).toNat = t at e
  have ht : t < 64 := by omega
  rw [IntKind.wrap_i64]
  omega
def dblM : Nat → Int → Int → Int
  | 0, one, _ => one
  | f + 1, one, w => if w < 64 then dblM f (IntKind.u64.wrap (BitVec.ofInt IntKind.u64.bits one ||| BitVec.ofInt IntKind.u64.bits (IntKind.u64.wrap (one * 2 ^ min w.toNat IntKind.u64.bits))).toNat) (IntKind.i64.wrap (w * 2)) else one
theorem con75a (n r s : Int) (hb0 : selB (selB (IntKind.i64.wrap (BitVec.ofInt IntKind.i64.bits n ||| BitVec.ofInt IntKind.i64.bits 1).toNat != 1) true (IntKind.i64.wrap (BitVec.ofInt IntKind.i64.bits r ||| BitVec.ofInt IntKind.i64.bits 63).toNat != 63)) true (IntKind.i64.wrap (BitVec.ofInt IntKind.i64.bits s ||| BitVec.ofInt IntKind.i64.bits 63).toNat != 63) = true) : Con Tryz.prog 75 [.c (.int .i64 n), .c (.int .i64 r), .c (.int .i64 s)] ⟨0, []⟩ (fun v H' => v = .tup [.c (.int .u64 0), .c (.int .i64 1)] ∧ H' = ⟨0, []⟩) := by
  (refine con_of_run mixed (fn := Tryz.f75) (by kernel_rfl) (by kernel_rfl) C75_ok (rs := [.tmp 6, .tmp 7]) (by kernel_rfl) (Nat.le_of_ble_eq_true (by kernel_rfl)) ?_; unfold C75; simp only [initT, Nat.reduceAdd])
  repeat' (first | refine run_seq ?_ | refine run_skip ?_ | (refine run_region fun K hK => ?_; (try (simp (maxSteps := 10000000) only [hb0, C75r0, C75r1, C75r2, rwp_nil, rwp_cons, aop, gpath, St.get, slotAt, sfx, eqP, St.put, addBlk, bin, isShift, sameK, arith, getsl, beqb, shed])); (repeat (first | (refine And.intro ?_ ?_; · (first | assumption | (intros; omega))))); with_reducible refine hK _ ?_; clear hK K) | (refine run_cond rfl (fun hc => ?_) (fun hc => ?_) <;> try (simp only [*, Bool.true_eq_false] at hc; done)) | refine run_block ?_ | refine run_ret ?_ | refine run_nil ?_ | refine run_exit ?_ | refine blk_normal ?_ | refine blk_ret ?_ | refine blk_here ?_ | refine blk_there rfl ?_ | refine loop_exit ?_ | refine loop_ret ?_ | refine un_exit ?_ | refine un_ret ?_ | refine unE_exit ?_ | refine unE_ret ?_ | refine un_normal ?_)
  exact end_tmp2 rfl rfl rfl ⟨rfl, rfl⟩ ⟨rfl, rfl⟩ rfl rfl ⟨rfl, rfl⟩
theorem con75b (n r s k : Int) (hb0 : selB (selB (IntKind.i64.wrap (BitVec.ofInt IntKind.i64.bits n ||| BitVec.ofInt IntKind.i64.bits 1).toNat != 1) true (IntKind.i64.wrap (BitVec.ofInt IntKind.i64.bits r ||| BitVec.ofInt IntKind.i64.bits 63).toNat != 63)) true (IntKind.i64.wrap (BitVec.ofInt IntKind.i64.bits s ||| BitVec.ofInt IntKind.i64.bits 63).toNat != 63) = false) (hke : k = keyV n s) (hq : decide (k < 2) = true) : Con Tryz.prog 75 [.c (.int .i64 n), .c (.int .i64 r), .c (.int .i64 s)] ⟨0, []⟩ (fun v H' => v = .tup [.c (.int .u64 0), .c (.int .i64 2)] ∧ H' = ⟨0, []⟩) := by
  (refine con_of_run mixed (fn := Tryz.f75) (by kernel_rfl) (by kernel_rfl) C75_ok (rs := [.tmp 6, .tmp 7]) (by kernel_rfl) (Nat.le_of_ble_eq_true (by kernel_rfl)) ?_; unfold C75; simp only [initT, Nat.reduceAdd])
  repeat' (first | refine run_seq ?_ | refine run_skip ?_ | (refine run_region fun K hK => ?_; (try (simp (maxSteps := 10000000) only [hb0, C75r0, C75r1, rwp_nil, rwp_cons, aop, gpath, St.get, slotAt, sfx, eqP, St.put, addBlk, bin, isShift, sameK, arith, getsl, beqb, shed])); (repeat (first | (refine And.intro ?_ ?_; · (first | assumption | (intros; omega))))); with_reducible refine hK _ ?_; clear hK K) | (refine run_cond rfl (fun hc => ?_) (fun hc => ?_) <;> try (simp only [*, Bool.false_eq_true] at hc; done)) | refine run_block ?_ | refine run_ret ?_ | refine run_nil ?_ | refine run_exit ?_ | refine blk_normal ?_ | refine blk_ret ?_ | refine blk_here ?_ | refine blk_there rfl ?_ | refine loop_exit ?_ | refine loop_ret ?_ | refine un_exit ?_ | refine un_ret ?_ | refine unE_exit ?_ | refine unE_ret ?_ | refine un_normal ?_)
  (refine run_regionL fun K hK => ?_; (try (simp (maxSteps := 10000000) only [C75r3, rwp_nil, rwp_cons, aop, gpath, St.get, slotAt, sfx, eqP, St.put, addBlk, bin, un, isShift, sameK, arith, shiftR, selB_or, shed, imp, Int.reduceToNat])); (repeat (refine And.intro ?_ ?_; · first | trivial | assumption | omega)); refine hK _ (⟨[⟨8, [], .c (.int .i64 k)⟩, ⟨0, [], .c (.int .i64 n)⟩, ⟨1, [], .c (.int .i64 r)⟩, ⟨2, [], .c (.int .i64 s)⟩], ⟨0, []⟩⟩) ((LeS.intro [] (fun i h => absurd h (Nat.not_lt_zero i)) trivial rfl (by simp only [slotsLe, slotAt, leV, leV1, leC, and_self, true_and, and_true]; exact hke.symm) trivial)) ?_; clear hK K)
  repeat' (first | refine run_seq ?_ | refine run_skip ?_ | (refine run_region fun K hK => ?_; (try (simp (maxSteps := 10000000) only [hq, C75r4, C75r5, rwp_nil, rwp_cons, aop, gpath, St.get, slotAt, sfx, eqP, St.put, addBlk, bin, isShift, sameK, arith, shed])); (repeat (first | (refine And.intro ?_ ?_; · (first | assumption | (intros; omega))))); with_reducible refine hK _ ?_; clear hK K) | (refine run_cond rfl (fun hc => ?_) (fun hc => ?_) <;> try (simp only [*, Bool.true_eq_false] at hc; done)) | refine run_block ?_ | refine run_ret ?_ | refine run_nil ?_ | refine run_exit ?_ | refine blk_normal ?_ | refine blk_ret ?_ | refine blk_here ?_ | refine blk_there rfl ?_ | refine loop_exit ?_ | refine loop_ret ?_ | refine un_exit ?_ | refine un_ret ?_ | refine unE_exit ?_ | refine unE_ret ?_ | refine un_normal ?_)
  exact end_tmp2 rfl rfl rfl ⟨rfl, rfl⟩ ⟨rfl, rfl⟩ rfl rfl ⟨rfl, rfl⟩
theorem con75c (n r s k : Int) (hb0 : selB (selB (IntKind.i64.wrap (BitVec.ofInt IntKind.i64.bits n ||| BitVec.ofInt IntKind.i64.bits 1).toNat != 1) true (IntKind.i64.wrap (BitVec.ofInt IntKind.i64.bits r ||| BitVec.ofInt IntKind.i64.bits 63).toNat != 63)) true (IntKind.i64.wrap (BitVec.ofInt IntKind.i64.bits s ||| BitVec.ofInt IntKind.i64.bits 63).toNat != 63) = false) (hke : k = keyV n s) (hk : 0 ≤ k ∧ k < 128) (hq : decide (k < 2) = false) (hkw : IntKind.u64.wrap k = k) (hsz : 0 ≤ IntKind.i64.wrap (lenS k - 1)) (ht : (IntKind.i64.wrap (BitVec.ofInt IntKind.i64.bits s &&& BitVec.ofInt IntKind.i64.bits (IntKind.i64.wrap (IntKind.i64.wrap (1 * 2 ^ min (IntKind.i64.wrap (lenS k - 1)).toNat IntKind.i64.bits) - 1))).toNat == IntKind.i64.wrap (IntKind.i64.wrap (1 * 2 ^ min (IntKind.i64.wrap (lenS k - 1)).toNat IntKind.i64.bits) - 1)) = true) : Con Tryz.prog 75 [.c (.int .i64 n), .c (.int .i64 r), .c (.int .i64 s)] ⟨0, []⟩ (fun v H' => v = .tup [.c (.int .u64 0), .c (.int .i64 2)] ∧ H' = ⟨0, []⟩) := by
  (refine con_of_run mixed (fn := Tryz.f75) (by kernel_rfl) (by kernel_rfl) C75_ok (rs := [.tmp 6, .tmp 7]) (by kernel_rfl) (Nat.le_of_ble_eq_true (by kernel_rfl)) ?_; unfold C75; simp only [initT, Nat.reduceAdd])
  repeat' (first | refine run_seq ?_ | refine run_skip ?_ | (refine run_region fun K hK => ?_; (try (simp (maxSteps := 10000000) only [hb0, C75r0, C75r1, rwp_nil, rwp_cons, aop, gpath, St.get, slotAt, sfx, eqP, St.put, addBlk, bin, isShift, sameK, arith, getsl, beqb, shed])); (repeat (first | (refine And.intro ?_ ?_; · (first | assumption | (intros; omega))))); with_reducible refine hK _ ?_; clear hK K) | (refine run_cond rfl (fun hc => ?_) (fun hc => ?_) <;> try (simp only [*, Bool.false_eq_true] at hc; done)) | refine run_block ?_ | refine run_ret ?_ | refine run_nil ?_ | refine run_exit ?_ | refine blk_normal ?_ | refine blk_ret ?_ | refine blk_here ?_ | refine blk_there rfl ?_ | refine loop_exit ?_ | refine loop_ret ?_ | refine un_exit ?_ | refine un_ret ?_ | refine unE_exit ?_ | refine unE_ret ?_ | refine un_normal ?_)
  (refine run_regionL fun K hK => ?_; (try (simp (maxSteps := 10000000) only [C75r3, rwp_nil, rwp_cons, aop, gpath, St.get, slotAt, sfx, eqP, St.put, addBlk, bin, un, isShift, sameK, arith, shiftR, selB_or, shed, imp, Int.reduceToNat])); (repeat (refine And.intro ?_ ?_; · first | trivial | assumption | omega)); refine hK _ (⟨[⟨8, [], .c (.int .i64 k)⟩, ⟨0, [], .c (.int .i64 n)⟩, ⟨1, [], .c (.int .i64 r)⟩, ⟨2, [], .c (.int .i64 s)⟩], ⟨0, []⟩⟩) ((LeS.intro [] (fun i h => absurd h (Nat.not_lt_zero i)) trivial rfl (by simp only [slotsLe, slotAt, leV, leV1, leC, and_self, true_and, and_true]; exact hke.symm) trivial)) ?_; clear hK K)
  repeat' (first | refine run_seq ?_ | refine run_skip ?_ | (refine run_region fun K hK => ?_; (try (simp (maxSteps := 10000000) only [hq, hkw, ht, C75r4, C75r6, C75r7, C75r8, C75r9, rwp_nil, rwp_cons, aop, gpath, St.get, slotAt, sfx, eqP, St.put, addBlk, bin, isShift, sameK, arith, shed, appL, argsOf, ptrsOf])); (repeat (first | (refine And.intro ?_ ?_; · (first | exact hsz | assumption | (intros; omega))) | ((first | (refine call_t _ (con109 k (by omega) (by omega) _) ?_; rintro v H' ⟨rfl, rfl⟩) | refine call_q _ (con109 k (by omega) (by omega) _) ?_ | refine call_g _ (imp_of (con109 k (by omega) (by omega) _)) ?_); simp (maxSteps := 10000000) only [rwp_nil, rwp_cons, rwpK_app, aop, gpath, St.get, slotAt, sfx, eqP, St.put, addBlk, bin, isShift, sameK, arith, shiftR, shed, imp]))); with_reducible refine hK _ ?_; clear hK K) | (refine run_cond rfl (fun hc => ?_) (fun hc => ?_) <;> try (simp only [*, Bool.true_eq_false, Bool.false_eq_true] at hc; done)) | refine run_block ?_ | refine run_ret ?_ | refine run_nil ?_ | refine run_exit ?_ | refine blk_normal ?_ | refine blk_ret ?_ | refine blk_here ?_ | refine blk_there rfl ?_ | refine loop_exit ?_ | refine loop_ret ?_ | refine un_exit ?_ | refine un_ret ?_ | refine unE_exit ?_ | refine unE_ret ?_ | refine un_normal ?_)
  exact end_tmp2 rfl rfl rfl ⟨rfl, rfl⟩ ⟨rfl, rfl⟩ rfl rfl ⟨rfl, rfl⟩
def dblSt (one e w : Int) : St := ⟨[⟨13, [], .c (.int .i64 w)⟩, ⟨11, [], .c (.int .u64 one)⟩, ⟨12, [], .c (.int .i64 e)⟩], ⟨0, []⟩⟩
theorem con75d (n r s k x : Int) (hb0 : selB (selB (IntKind.i64.wrap (BitVec.ofInt IntKind.i64.bits n ||| BitVec.ofInt IntKind.i64.bits 1).toNat != 1) true (IntKind.i64.wrap (BitVec.ofInt IntKind.i64.bits r ||| BitVec.ofInt IntKind.i64.bits 63).toNat != 63)) true (IntKind.i64.wrap (BitVec.ofInt IntKind.i64.bits s ||| BitVec.ofInt IntKind.i64.bits 63).toNat != 63) = false) (hke : k = keyV n s) (hk : 0 ≤ k ∧ k < 128) (hq : decide (k < 2) = false) (hkw : IntKind.u64.wrap k = k) (hsz : 0 ≤ IntKind.i64.wrap (lenS k - 1)) (hs1 : 1 ≤ sizeV k) (htp : 0 ≤ IntKind.i64.wrap (BitVec.ofInt IntKind.i64.bits s &&& BitVec.ofInt IntKind.i64.bits (IntKind.i64.wrap (IntKind.i64.wrap (1 * 2 ^ min (IntKind.i64.wrap (lenS k - 1)).toNat IntKind.i64.bits) - 1))).toNat) (ht : (IntKind.i64.wrap (BitVec.ofInt IntKind.i64.bits s &&& BitVec.ofInt IntKind.i64.bits (IntKind.i64.wrap (IntKind.i64.wrap (1 * 2 ^ min (IntKind.i64.wrap (lenS k - 1)).toNat IntKind.i64.bits) - 1))).toNat == IntKind.i64.wrap (IntKind.i64.wrap (1 * 2 ^ min (IntKind.i64.wrap (lenS k - 1)).toNat IntKind.i64.bits) - 1)) = false)
    (h110 : Con Tryz.prog 110 [.c (.int .u64 (IntKind.u64.wrap (IntKind.u64.wrap (2 * 2 ^ min (IntKind.i64.wrap (BitVec.ofInt IntKind.i64.bits s &&& BitVec.ofInt IntKind.i64.bits (IntKind.i64.wrap (IntKind.i64.wrap (1 * 2 ^ min (IntKind.i64.wrap (lenS k - 1)).toNat IntKind.i64.bits) - 1))).toNat).toNat IntKind.u64.bits) - 1))), .c (.int .i64 (IntKind.i64.wrap (BitVec.ofInt IntKind.i64.bits r &&& BitVec.ofInt IntKind.i64.bits (IntKind.i64.wrap (IntKind.i64.wrap (1 * 2 ^ min (IntKind.i64.wrap (lenS k - 1)).toNat IntKind.i64.bits) - 1))).toNat)), .c (.int .i64 (IntKind.i64.wrap (1 * 2 ^ min (IntKind.i64.wrap (lenS k - 1)).toNat IntKind.i64.bits)))] ⟨0, []⟩ (fun v H' => v = .tup [.c (.int .u64 x), .c (.int .i64 (rorE (IntKind.u64.wrap (IntKind.u64.wrap (2 * 2 ^ min (IntKind.i64.wrap (BitVec.ofInt IntKind.i64.bits s &&& BitVec.ofInt IntKind.i64.bits (IntKind.i64.wrap (IntKind.i64.wrap (1 * 2 ^ min (IntKind.i64.wrap (lenS k - 1)).toNat IntKind.i64.bits) - 1))).toNat).toNat IntKind.u64.bits) - 1)) (IntKind.i64.wrap (BitVec.ofInt IntKind.i64.bits r &&& BitVec.ofInt IntKind.i64.bits (IntKind.i64.wrap (IntKind.i64.wrap (1 * 2 ^ min (IntKind.i64.wrap (lenS k - 1)).toNat IntKind.i64.bits) - 1))).toNat) (IntKind.i64.wrap (1 * 2 ^ min (IntKind.i64.wrap (lenS k - 1)).toNat IntKind.i64.bits))))] ∧ H' = ⟨0, []⟩)) :
    Con Tryz.prog 75 [.c (.int .i64 n), .c (.int .i64 r), .c (.int .i64 s)] ⟨0, []⟩ (fun v H' => v = .tup [.c (.int .u64 (dblM 64 x (sizeV k))), .c (.int .i64 (rorE (IntKind.u64.wrap (IntKind.u64.wrap (2 * 2 ^ min (IntKind.i64.wrap (BitVec.ofInt IntKind.i64.bits s &&& BitVec.ofInt IntKind.i64.bits (IntKind.i64.wrap (IntKind.i64.wrap (1 * 2 ^ min (IntKind.i64.wrap (lenS k - 1)).toNat IntKind.i64.bits) - 1))).toNat).toNat IntKind.u64.bits) - 1)) (IntKind.i64.wrap (BitVec.ofInt IntKind.i64.bits r &&& BitVec.ofInt IntKind.i64.bits (IntKind.i64.wrap (IntKind.i64.wrap (1 * 2 ^ min (IntKind.i64.wrap (lenS k - 1)).toNat IntKind.i64.bits) - 1))).toNat) (IntKind.i64.wrap (1 * 2 ^ min (IntKind.i64.wrap (lenS k - 1)).toNat IntKind.i64.bits))))] ∧ H' = ⟨0, []⟩) := by
  (refine con_of_run mixed (fn := Tryz.f75) (by kernel_rfl) (by kernel_rfl) C75_ok (rs := [.tmp 6, .tmp 7]) (by kernel_rfl) (Nat.le_of_ble_eq_true (by kernel_rfl)) ?_; unfold C75; simp only [initT, Nat.reduceAdd])
  repeat' (first | refine run_seq ?_ | refine run_skip ?_ | (refine run_region fun K hK => ?_; (try (simp (maxSteps := 10000000) only [hb0, C75r0, C75r1, rwp_nil, rwp_cons, aop, gpath, St.get, slotAt, sfx, eqP, St.put, addBlk, bin, isShift, sameK, arith, getsl, beqb, shed])); (repeat (first | (refine And.intro ?_ ?_; · (first | assumption | (intros; omega))))); with_reducible refine hK _ ?_; clear hK K) | (refine run_cond rfl (fun hc => ?_) (fun hc => ?_) <;> try (simp only [*, Bool.false_eq_true] at hc; done)) | refine run_block ?_ | refine run_ret ?_ | refine run_nil ?_ | refine run_exit ?_ | refine blk_normal ?_ | refine blk_ret ?_ | refine blk_here ?_ | refine blk_there rfl ?_ | refine loop_exit ?_ | refine loop_ret ?_ | refine un_exit ?_ | refine un_ret ?_ | refine unE_exit ?_ | refine unE_ret ?_ | refine un_normal ?_)
  (refine run_regionL fun K hK => ?_; (try (simp (maxSteps := 10000000) only [C75r3, rwp_nil, rwp_cons, aop, gpath, St.get, slotAt, sfx, eqP, St.put, addBlk, bin, un, isShift, sameK, arith, shiftR, selB_or, shed, imp, Int.reduceToNat])); (repeat (refine And.intro ?_ ?_; · first | trivial | assumption | omega)); refine hK _ (⟨[⟨8, [], .c (.int .i64 k)⟩, ⟨0, [], .c (.int .i64 n)⟩, ⟨1, [], .c (.int .i64 r)⟩, ⟨2, [], .c (.int .i64 s)⟩], ⟨0, []⟩⟩) ((LeS.intro [] (fun i h => absurd h (Nat.not_lt_zero i)) trivial rfl (by simp only [slotsLe, slotAt, leV, leV1, leC, and_self, true_and, and_true]; exact hke.symm) trivial)) ?_; clear hK K)
  repeat' (first | refine run_seq ?_ | refine run_skip ?_ | (refine run_region fun K hK => ?_; (try (simp (maxSteps := 10000000) only [hq, hkw, ht, C75r4, C75r6, C75r7, C75r8, C75r10, rwp_nil, rwp_cons, aop, gpath, St.get, slotAt, sfx, eqP, St.put, addBlk, bin, isShift, sameK, arith, shiftR, shed, imp, appL, argsOf, ptrsOf])); (repeat (first | (refine And.intro ?_ ?_; · (first | exact hsz | exact htp | assumption | (intros; omega))) | ((first | (refine call_t _ (con109 k (by omega) (by omega) _) ?_; rintro v H' ⟨rfl, rfl⟩) | refine call_q _ (con109 k (by omega) (by omega) _) ?_ | refine call_g _ (imp_of (con109 k (by omega) (by omega) _)) ?_ | (refine call_t _ (h110) ?_; rintro v H' ⟨rfl, rfl⟩) | refine call_q _ (h110) ?_ | refine call_g _ (imp_of (h110)) ?_); simp (maxSteps := 10000000) only [rwp_nil, rwp_cons, rwpK_app, aop, gpath, St.get, slotAt, sfx, eqP, St.put, addBlk, bin, isShift, sameK, arith, shiftR, shed, imp, nthA]))); with_reducible refine hK _ ?_; clear hK K) | (refine run_cond rfl (fun hc => ?_) (fun hc => ?_) <;> try (simp only [*, Bool.false_eq_true] at hc; done)) | refine run_block ?_ | refine run_ret ?_ | refine run_nil ?_ | refine run_exit ?_ | refine blk_normal ?_ | refine blk_ret ?_ | refine blk_here ?_ | refine blk_there rfl ?_ | refine loop_exit ?_ | refine loop_ret ?_ | refine un_exit ?_ | refine un_ret ?_ | refine unE_exit ?_ | refine unE_ret ?_ | refine un_normal ?_)
  generalize hE : rorE (IntKind.u64.wrap (IntKind.u64.wrap (2 * 2 ^ min (IntKind.i64.wrap (BitVec.ofInt IntKind.i64.bits s &&& BitVec.ofInt IntKind.i64.bits (IntKind.i64.wrap (IntKind.i64.wrap (1 * 2 ^ min (IntKind.i64.wrap (lenS k - 1)).toNat IntKind.i64.bits) - 1))).toNat).toNat IntKind.u64.bits) - 1)) (IntKind.i64.wrap (BitVec.ofInt IntKind.i64.bits r &&& BitVec.ofInt IntKind.i64.bits (IntKind.i64.wrap (IntKind.i64.wrap (1 * 2 ^ min (IntKind.i64.wrap (lenS k - 1)).toNat IntKind.i64.bits) - 1))).toNat) (IntKind.i64.wrap (1 * 2 ^ min (IntKind.i64.wrap (lenS k - 1)).toNat IntKind.i64.bits)) = E
  (refine run_regionL fun K hK => ?_; (try (simp (maxSteps := 10000000) only [C75r11, rwp_nil, rwp_cons, aop, gpath, St.get, slotAt, sfx, eqP, St.put, addBlk, shed])); (repeat (refine And.intro ?_ ?_; · first | trivial | assumption | omega)); refine hK _ (dblSt x E (sizeV k)) ((LeS.intro [] (fun i h => absurd h (Nat.not_lt_zero i)) trivial rfl (by simp only [dblSt, slotsLe, slotAt, leV, leV1, leC, and_self, sizeV]) trivial)) ?_; clear hK K)
  generalize hX : dblM 64 x (sizeV k) = X
  refine run_block ?_
  refine run_loop (fun m st => ∃ one w : Int, st = dblSt one E w ∧ dblM m one w = X ∧ 1 ≤ w ∧ 64 - w ≤ m) 64 ⟨_, _, rfl, hX, hs1, by omega⟩ ?_
  rintro m st ⟨one, w, rfl, hT, hw, hm⟩
  simp only [dblSt]
  have hw0 : 0 ≤ w := by omega
  repeat' (first | refine run_seq ?_ | refine run_skip ?_ | (refine run_region fun K hK => ?_; (try (simp (maxSteps := 10000000) only [C75r12, C75r13, C75r14, C75r15, rwp_nil, rwp_cons, aop, gpath, St.get, slotAt, sfx, eqP, St.put, addBlk, bin, isShift, sameK, arith, shiftR, shed, imp])); (repeat (first | (refine And.intro ?_ ?_; · (first | assumption | (intros; omega))))); with_reducible refine hK _ ?_; clear hK K) | (refine run_cond rfl (fun hc => ?_) (fun hc => ?_) <;> try (simp only [*, Bool.true_eq_false, Bool.false_eq_true, Bool.not_true, Bool.not_false, Bool.true_or, Bool.or_true, Bool.false_or, Bool.or_false, Bool.false_and, Bool.and_false, bne_self_eq_false, beq_self_eq_true] at hc; done)) | refine run_block ?_ | refine run_ret ?_ | refine run_nil ?_ | refine run_exit ?_ | refine blk_normal ?_ | refine blk_ret ?_ | refine blk_here ?_ | refine blk_there rfl ?_ | refine loop_exit ?_ | refine loop_ret ?_ | refine un_exit ?_ | refine un_ret ?_ | refine unE_exit ?_ | refine unE_ret ?_ | refine un_normal ?_)
  · have hlt : w < 64 := by simpa using ‹decide (w < 64) = true›
    obtain ⟨m', hm'⟩ : ∃ m', m = m' + 1 := ⟨m - 1, by omega⟩
    subst hm'
    have hw2 : IntKind.i64.wrap (w * 2) = w * 2 := by rw [IntKind.wrap_i64]; omega
    unfold dblM at hT
    rw [if_pos hlt] at hT
    exact loop_normal m' (dblSt _ E (IntKind.i64.wrap (w * 2))) (Nat.lt_succ_self _) (LeS.intro [] (fun i h => absurd h (Nat.not_lt_zero i)) trivial rfl (by simp only [dblSt, slotsLe, slotAt, leV, leV1, leC, and_self]) trivial) ⟨_, _, rfl, hT, by rw [hw2]; omega, by rw [hw2]; omega⟩
  · have hge : ¬ w < 64 := by simpa using ‹decide (w < 64) = false›
    have hT' : one = X := by
      cases m with
      | zero => exact hT
      | succ m => unfold dblM at hT; rw [if_neg hge] at hT; exact hT
    exact end_tmp2 rfl rfl rfl ⟨rfl, rfl⟩ ⟨rfl, rfl⟩ rfl rfl ⟨by rw [hT'], rfl⟩
def maskB (n r s : Int) : Bool := ((orS n 1 != 1) || (orS r 63 != 63)) || (orS s 63 != 63)
def maskT (s k : Int) : Bool := (IntKind.i64.wrap (BitVec.ofInt IntKind.i64.bits s &&& BitVec.ofInt IntKind.i64.bits (IntKind.i64.wrap (IntKind.i64.wrap (1 * 2 ^ min (IntKind.i64.wrap (lenS k - 1)).toNat IntKind.i64.bits) - 1))).toNat == IntKind.i64.wrap (IntKind.i64.wrap (1 * 2 ^ min (IntKind.i64.wrap (lenS k - 1)).toNat IntKind.i64.bits) - 1))
def maskG (n r s : Int) : Prop := maskB n r s = false ∧ ¬ keyV n s < 2 ∧ maskT s (keyV n s) = false
theorem size_le : ∀ k : Fin 128, 2 ≤ k.val → sizeV (k.val : Int) ≤ 64 := by decide +kernel
theorem over_dec : ∀ k : Fin 128, ∀ t : Fin 64, 2 ≤ k.val → (t.val : Int) < sizeV (k.val : Int) - 1 → rorOver (IntKind.u64.wrap (IntKind.u64.wrap (2 * 2 ^ min (t.val : Int).toNat IntKind.u64.bits) - 1)) (sizeV (k.val : Int)) = false := by decide +kernel
theorem and_le (x : BitVec 64) (y : Int) (h0 : 0 ≤ y) (h1 : y < 64) : IntKind.i64.wrap (x &&& BitVec.ofInt 64 y).toNat ≤ y := by
  have e : (x &&& BitVec.ofInt 64 y).toNat ≤ y.toNat := by
    rw [BitVec.toNat_and]
    refine Nat.le_trans Nat.and_le_right ?_
    rw [BitVec.toNat_ofInt, show ((2 ^ 64 : Nat) : Int) = 18446744073709551616 from rfl, Int.emod_eq_of_lt h0 (by omega)]
    exact Nat.le_refl _
  generalize (x &&& BitVec.ofInt 64 y).toNat = t at e
  rw [IntKind.wrap_i64]
  omega
theorem rorE_zero (k t b : Int) (hk : 2 ≤ k) (hk' : k < 128) (ht : 0 ≤ t) (ht' : t < sizeV k - 1) (h1 : 1 ≤ sizeV k) (hb : 0 ≤ b) : rorE (IntKind.u64.wrap (IntKind.u64.wrap (2 * 2 ^ min t.toNat IntKind.u64.bits) - 1)) b (sizeV k) = 0 := by
  have hl := size_le ⟨k.toNat, by omega⟩ (by show 2 ≤ k.toNat; omega)
  simp only [show ((k.toNat : Nat) : Int) = k by omega] at hl
  have ho := over_dec ⟨k.toNat, by omega⟩ ⟨t.toNat, by omega⟩ (by show 2 ≤ k.toNat; omega)
  simp only [show ((k.toNat : Nat) : Int) = k by omega, show ((t.toNat : Nat) : Int) = t by omega] at ho
  unfold rorE
  have hB : rorBad (IntKind.u64.wrap (IntKind.u64.wrap (2 * 2 ^ min t.toNat IntKind.u64.bits) - 1)) b (sizeV k) = false := by
    unfold rorBad
    simp only [Bool.or_eq_false_iff, decide_eq_false_iff_not]
    omega
  rw [hB, ho ht']
  rfl
theorem con75 (n r s : Int) : ∃ e x : Int, (e = 0 ↔ maskG n r s) ∧ Con Tryz.prog 75 [.c (.int .i64 n), .c (.int .i64 r), .c (.int .i64 s)] ⟨0, []⟩ (fun v H' => v = .tup [.c (.int .u64 x), .c (.int .i64 e)] ∧ H' = ⟨0, []⟩) := by
  cases hb : (((orS n 1 != 1) || (orS r 63 != 63)) || (orS s 63 != 63))
  · have hb0 : selB (selB (orS n 1 != 1) true (orS r 63 != 63)) true (orS s 63 != 63) = false := by rw [selB_or, selB_or]; exact hb
    have hk := key_rng hb
    obtain ⟨k, hke⟩ : ∃ k, k = keyV n s := ⟨_, rfl⟩
    rw [← hke] at hk
    cases hq : decide (k < 2)
    · have hkw : IntKind.u64.wrap k = k := by rw [IntKind.wrap_u64]; omega
      have hkn : ((k.toNat : Nat) : Int) = k := by omega
      have hsz := size_dec ⟨k.toNat, by omega⟩ (by simp only [decide_eq_false_iff_not] at hq; show 2 ≤ k.toNat; omega)
      simp only [hkn] at hsz
      have htp := and_rng (BitVec.ofInt 64 s) (IntKind.i64.wrap (sizeV k - 1)) hsz.2.2.1 hsz.2.2.2
      have hrp := and_rng (BitVec.ofInt 64 r) (IntKind.i64.wrap (sizeV k - 1)) hsz.2.2.1 hsz.2.2.2
      cases ht : (IntKind.i64.wrap (BitVec.ofInt IntKind.i64.bits s &&& BitVec.ofInt IntKind.i64.bits (IntKind.i64.wrap (IntKind.i64.wrap (1 * 2 ^ min (IntKind.i64.wrap (lenS k - 1)).toNat IntKind.i64.bits) - 1))).toNat == IntKind.i64.wrap (IntKind.i64.wrap (1 * 2 ^ min (IntKind.i64.wrap (lenS k - 1)).toNat IntKind.i64.bits) - 1))
      · obtain ⟨x, h110⟩ := con110 (IntKind.u64.wrap (IntKind.u64.wrap (2 * 2 ^ min (IntKind.i64.wrap (BitVec.ofInt IntKind.i64.bits s &&& BitVec.ofInt IntKind.i64.bits (IntKind.i64.wrap (IntKind.i64.wrap (1 * 2 ^ min (IntKind.i64.wrap (lenS k - 1)).toNat IntKind.i64.bits) - 1))).toNat).toNat IntKind.u64.bits) - 1)) (IntKind.i64.wrap (BitVec.ofInt IntKind.i64.bits r &&& BitVec.ofInt IntKind.i64.bits (IntKind.i64.wrap (IntKind.i64.wrap (1 * 2 ^ min (IntKind.i64.wrap (lenS k - 1)).toNat IntKind.i64.bits) - 1))).toNat) (sizeV k) (Int.le_trans (Int.le_of_lt hrp.2) (by decide))
        have htl : IntKind.i64.wrap (BitVec.ofInt IntKind.i64.bits s &&& BitVec.ofInt IntKind.i64.bits (IntKind.i64.wrap (sizeV k - 1))).toNat < sizeV k - 1 := by
          have h1 := and_le (BitVec.ofInt 64 s) (IntKind.i64.wrap (sizeV k - 1)) hsz.2.2.1 hsz.2.2.2
          have h2 : ¬ IntKind.i64.wrap (BitVec.ofInt 64 s &&& BitVec.ofInt 64 (IntKind.i64.wrap (sizeV k - 1))).toNat = IntKind.i64.wrap (sizeV k - 1) := by
            have h3 := ht
            rw [beq_eq_false_iff_ne] at h3
            exact h3
          have h4 : IntKind.i64.wrap (sizeV k - 1) ≤ sizeV k - 1 := by
            have h5 := size_le ⟨k.toNat, by omega⟩ (by have := of_decide_eq_false hq; show 2 ≤ k.toNat; omega)
            simp only [hkn] at h5
            have h6 := hsz.2.1
            rw [IntKind.wrap_i64]
            omega
          exact Int.lt_of_lt_of_le (Int.lt_iff_le_and_ne.2 ⟨h1, h2⟩) h4
        exact ⟨_, _, ⟨fun _ => ⟨hb, by rw [← hke]; exact of_decide_eq_false hq, by rw [← hke]; exact ht⟩, fun _ => rorE_zero k _ _ (by have := of_decide_eq_false hq; omega) hk.2 htp.1 htl hsz.2.1 hrp.1⟩, con75d n r s k x hb0 hke hk hq hkw hsz.1 hsz.2.1 htp.1 ht h110⟩
      · exact ⟨_, _, ⟨fun h => absurd h (by decide), fun h => by have h2 := h.2.2; rw [← hke] at h2; exact absurd (ht.symm.trans h2) (by decide)⟩, con75c n r s k hb0 hke hk hq hkw hsz.1 ht⟩
    · exact ⟨_, _, ⟨fun h => absurd h (by decide), fun h => by have h2 := h.2.1; rw [← hke] at h2; exact absurd (of_decide_eq_true hq) h2⟩, con75b n r s k hb0 hke hq⟩
  · exact ⟨_, _, ⟨fun h => absurd h (by decide), fun h => absurd (hb.symm.trans h.1) (by decide)⟩, con75a n r s (by rw [selB_or, selB_or]; exact hb)⟩
noncomputable def maskE (n r s : Int) : Int := Classical.choose (con75 n r s)
theorem con75_e (n r s : Int) : ∃ x : Int, Con Tryz.prog 75 [.c (.int .i64 n), .c (.int .i64 r), .c (.int .i64 s)] ⟨0, []⟩ (fun v H' => v = .tup [.c (.int .u64 x), .c (.int .i64 (maskE n r s))] ∧ H' = ⟨0, []⟩) := by
  obtain ⟨x, h⟩ := Classical.choose_spec (con75 n r s)
  exact ⟨x, h.2⟩
theorem maskE_iff (n r s : Int) : maskE n r s = 0 ↔ maskG n r s := by
  obtain ⟨x, h'⟩ := Classical.choose_spec (con75 n r s)
  exact h'.1
theorem maskE_ok {n r s : Int} (h : maskE n r s = 0) : (((orS n 1 != 1) || (orS r 63 != 63)) || (orS s 63 != 63)) = false := ((maskE_iff n r s).1 h).1
noncomputable def logImmOk (i : InsnS) : Bool := logicOk i && (maskE i.amount i.imm i.imm2 == 0)
theorem con74 (i : InsnS) (H : Heap) : Con Tryz.prog 74 [.agg (insnL i)] H (fun v H' => v = .c (.bool (logImmOk i)) ∧ H' = H) := by
  obtain ⟨x, h0⟩ := con75_e i.amount i.imm i.imm2
  have h : ∀ H, Con Tryz.prog 75 [.c (.int .i64 i.amount), .c (.int .i64 i.imm), .c (.int .i64 i.imm2)] H (fun v H' => v = .tup [.c (.int .u64 x), .c (.int .i64 (maskE i.amount i.imm i.imm2))] ∧ H' = H) := fun H => by
    refine Con.pure (Con.forget h0 ?_) (by simp only [leArgs, leV, leV1, leC, and_self]) rfl H
    rintro v H' ⟨rfl, rfl⟩
    exact ⟨_, ⟨0, []⟩, [], fun i h => absurd h (Nat.not_lt_zero i), trivial, rfl, trivial, by simp only [leV, leV1, leC, leVL, and_self], rfl, rfl⟩
  refine Con.pure ?_ (by simp only [leArgs, leV, leV1, insnL, leSegs, leSeg, leC, and_self]) rfl H
  (refine con_of_run mixed (fn := Tryz.f74) (by kernel_rfl) (by kernel_rfl) C74_ok (rs := [.tmp 2]) (by kernel_rfl) (Nat.le_of_ble_eq_true (by kernel_rfl)) ?_; unfold C74; simp only [initT])
  repeat' (first | refine run_seq ?_ | (refine run_region fun K hK => ?_; (try (simp (maxSteps := 10000000) only [insnL, C74r0, C74r1, C74r2, rwp_nil, rwp_cons, aop, gpath, St.get, slotAt, sfx, eqP, segsOf, St.put, addBlk, getB, ld1, ldn, rowNeed, segAt, nsub, shed, addN, Seg.size, sizes, appL, argsOf, ptrsOf, cut, takeS, dropS, Nat.reduceAdd])); (repeat (first | (refine And.intro ?_ ?_; · decide) | ((first | (refine call_t _ (con73 i _) ?_; rintro v H' ⟨rfl, rfl⟩) | refine call_q _ (con73 i _) ?_ | refine call_g _ (imp_of (con73 i _)) ?_ | (refine call_t _ (h _) ?_; rintro v H' ⟨rfl, rfl⟩) | refine call_q _ (h _) ?_ | refine call_g _ (imp_of (h _)) ?_); simp (maxSteps := 10000000) only [rwp_nil, rwp_cons, rwpK_app, aop, gpath, St.get, slotAt, sfx, eqP, St.put, addBlk, bin, isShift, sameK, arith, getsl, selB_and, beqb, shed, nthA]))); with_reducible refine hK _ ?_; clear hK K) | refine run_ret ?_ | refine run_nil ?_)
  exact end_tmp1 rfl rfl rfl ⟨rfl, rfl⟩
end Go.Proofs.YteikpddilabppaaGreatR

