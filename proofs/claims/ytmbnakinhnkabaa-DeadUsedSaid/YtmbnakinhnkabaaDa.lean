/- ir: what each kind is. -/
import Derived.Test.YtmbnakinhnkabaaCode19
import Derived.Test.YtmbnakinhnkabaaAm22
namespace Go.Proofs.Ytmbnakinhnkabaa
open Go.AM
set_option maxRecDepth 100000
set_option linter.unusedSimpArgs false
set_option linter.unusedVariables false
theorem mixed : Try.prog.follows .mixedOrders = true := by kernel_rfl
theorem dropB_none {l : List Nat} {H0 : List (Nat × Blk)} (h : ∀ k, goneB l H0 k = false) (X : List (Nat × Blk)) : dropB l H0 X = X := by
  induction X with
  | nil => rfl
  | cons x r ih => simp [dropB, h, ih]
/-- A call that only reads what is named to it, where more is named. -/
theorem ro_gen {f : FuncId} {args args' : List AV} {H0 : Heap} {V : AV} (h : Con Try.prog f args H0 (fun v H' => v = V ∧ H' = H0)) (l : List Nat) (n : Nat) (X : List (Nat × Blk)) (hl : H0.next = l.length) (hd : diff l) (hlt : allLt l n) (hkl : keysLt X n) (hb : leBlks l X H0.blks) (ha : leArgs l args' args) (hV : mapV (gId l n) V = V)
    (hgone : ∀ k, goneB l H0.blks k = false) (hnew : newB (gId l n) l H0.blks [] H0.blks = []) (hnx : gId l n H0.next = n) : Con Try.prog f args' ⟨n, X⟩ (fun v H' => v = V ∧ H' = ⟨n, X⟩) := by
  refine (h.frame (H := ⟨n, X⟩) l hl hd hlt hkl hb ha).weaken ?_
  rintro v H' ⟨v0, H0', ⟨rfl, rfl⟩, rfl, rfl⟩
  refine ⟨hV, ?_⟩
  simp only [framed, dropB_none hgone, hnew, hnx, appB]
theorem idt1 : ∀ i, i < 1 → nthO [0] i = some i := by
  intro i h; match i, h with
  | 0, _ => rfl
theorem idt2 : ∀ i, i < 2 → nthO [0, 1] i = some i := by
  intro i h; match i, h with
  | 0, _ => rfl
  | 1, _ => rfl
structure OpS where
  kind : Int
  r : Int
  a : Int
  b : Int
  order : Int
  imm : Int
def opL (o : OpS) : List Seg := [.c (.int .i64 o.kind), .c (.int .i64 o.r), .c (.int .i64 o.a), .c (.int .i64 o.b), .c (.int .i64 o.order), .c (.int .u64 o.imm)]
def boxW (v : Int) : Blk := ⟨1, none, fun _ => [.c (.int .i64 v)], 3, true⟩
def kindL (w : ByteArray) (r i o : Bool) (u : Int) (d e a : Bool) (f : CV) : List Seg := [.c (.str w), .c (.bool r), .c (.bool i), .c (.bool o), .c (.int .i64 u), .c (.bool d), .c (.bool e), .c (.bool a), .c f]
def kindB (L : List Seg) : Blk := ⟨9, none, fun _ => L, 79, true⟩
def kindV (L : List Seg) (b : Bool) : AV := .tup [.agg L, .c (.bool b)]
theorem con66 (o : OpS) (H : Heap) : Con Try.prog 66 [.agg (opL o)] H (fun v H' => v = .c (.bool (true)) ∧ H' = H) := by
  refine Con.pure ?_ (by simp only [leArgs, leV, leV1, opL, leSegs, leSeg, leC, and_self]) rfl H
  (refine con_of_run mixed (fn := Try.f66) (by kernel_rfl) (by kernel_rfl) C66_ok (rs := [.tmp 2]) (by kernel_rfl) (Nat.le_of_ble_eq_true (by kernel_rfl)) ?_; unfold C66; simp only [initT, Nat.reduceAdd])
  repeat' (first
    | refine run_seq ?_
    | (refine run_region fun K hK => ?_; (try (simp (maxSteps := 10000000) only [opL, C66r0, C66r1, rwp_nil, rwp_cons, rwpK_app, aop, gpath, St.get, slotAt, sfx, eqP, segsOf, St.put, addBlk, getB, setB, delB, ld1, ldn, st1, stn, setRow, rowNeed, segAt, nsub, bin, un, eqB, isShift, sameK, arith, shiftR, getsl, selB_or, selB_and, beqb, shed, addN, Nat.beq, Seg.size, sizes, imp, needP, andN, appL, argsOf, ptrsOf, aasOf, cut, takeS, dropS, putS, partsOf, fillS, fieldOf, nthA, negIf, nilq, nilB, eqS, eqF, eqS1, andP, kin, slcS, strOk, plusA, bndHi, leN, optG, roH, roL, initT, exOk, exAll, wrAddr, Nat.reduceAdd, Nat.reduceSub, Nat.reduceMul, Int.reduceToNat, List.append_nil, List.nil_append, List.cons_append, eqT, idxT, cat, cpy, ite_int, ite_bool, ite_seg, ite_segs, ite_nil, ite_twice, Int.toNat_natCast, app, addBs, tob])); (repeat (first | (refine And.intro ?_ ?_; · (first | decide | trivial | assumption | (intros; first | decide | trivial))))); with_reducible refine hK _ ?_; clear hK K)
    | refine run_ret ?_
    | refine run_nil ?_)
  exact end_tmp1 rfl rfl rfl ⟨rfl, rfl⟩
theorem con68 (o : OpS) (H : Heap) : Con Try.prog 68 [.agg (opL o)] H (fun v H' => v = .c (.bool (decide (o.r ≥ 1) && decide (o.r ≤ 15))) ∧ H' = H) := by
  refine Con.pure ?_ (by simp only [leArgs, leV, leV1, opL, leSegs, leSeg, leC, and_self]) rfl H
  (refine con_of_run mixed (fn := Try.f68) (by kernel_rfl) (by kernel_rfl) C68_ok (rs := [.tmp 2]) (by kernel_rfl) (Nat.le_of_ble_eq_true (by kernel_rfl)) ?_; unfold C68; simp only [initT, Nat.reduceAdd])
  repeat' (first
    | refine run_seq ?_
    | (refine run_region fun K hK => ?_; (try (simp (maxSteps := 10000000) only [opL, C68r0, C68r1, rwp_nil, rwp_cons, rwpK_app, aop, gpath, St.get, slotAt, sfx, eqP, segsOf, St.put, addBlk, getB, setB, delB, ld1, ldn, st1, stn, setRow, rowNeed, segAt, nsub, bin, un, eqB, isShift, sameK, arith, shiftR, getsl, selB_or, selB_and, beqb, shed, addN, Nat.beq, Seg.size, sizes, imp, needP, andN, appL, argsOf, ptrsOf, aasOf, cut, takeS, dropS, putS, partsOf, fillS, fieldOf, nthA, negIf, nilq, nilB, eqS, eqF, eqS1, andP, kin, slcS, strOk, plusA, bndHi, leN, optG, roH, roL, initT, exOk, exAll, wrAddr, Nat.reduceAdd, Nat.reduceSub, Nat.reduceMul, Int.reduceToNat, List.append_nil, List.nil_append, List.cons_append, eqT, idxT, cat, cpy, ite_int, ite_bool, ite_seg, ite_segs, ite_nil, ite_twice, Int.toNat_natCast, app, addBs, tob])); (repeat (first | (refine And.intro ?_ ?_; · (first | decide | trivial | assumption | (intros; first | decide | trivial))))); with_reducible refine hK _ ?_; clear hK K)
    | refine run_ret ?_
    | refine run_nil ?_)
  exact end_tmp1 rfl rfl rfl ⟨rfl, rfl⟩
theorem con70 (o : OpS) (H : Heap) : Con Try.prog 70 [.agg (opL o)] H (fun v H' => v = .c (.bool (((o.r == 13) || (o.r == 10)) || (o.r == 15))) ∧ H' = H) := by
  refine Con.pure ?_ (by simp only [leArgs, leV, leV1, opL, leSegs, leSeg, leC, and_self]) rfl H
  (refine con_of_run mixed (fn := Try.f70) (by kernel_rfl) (by kernel_rfl) C70_ok (rs := [.tmp 2]) (by kernel_rfl) (Nat.le_of_ble_eq_true (by kernel_rfl)) ?_; unfold C70; simp only [initT, Nat.reduceAdd])
  repeat' (first
    | refine run_seq ?_
    | (refine run_region fun K hK => ?_; (try (simp (maxSteps := 10000000) only [opL, C70r0, C70r1, rwp_nil, rwp_cons, rwpK_app, aop, gpath, St.get, slotAt, sfx, eqP, segsOf, St.put, addBlk, getB, setB, delB, ld1, ldn, st1, stn, setRow, rowNeed, segAt, nsub, bin, un, eqB, isShift, sameK, arith, shiftR, getsl, selB_or, selB_and, beqb, shed, addN, Nat.beq, Seg.size, sizes, imp, needP, andN, appL, argsOf, ptrsOf, aasOf, cut, takeS, dropS, putS, partsOf, fillS, fieldOf, nthA, negIf, nilq, nilB, eqS, eqF, eqS1, andP, kin, slcS, strOk, plusA, bndHi, leN, optG, roH, roL, initT, exOk, exAll, wrAddr, Nat.reduceAdd, Nat.reduceSub, Nat.reduceMul, Int.reduceToNat, List.append_nil, List.nil_append, List.cons_append, eqT, idxT, cat, cpy, ite_int, ite_bool, ite_seg, ite_segs, ite_nil, ite_twice, Int.toNat_natCast, app, addBs, tob])); (repeat (first | (refine And.intro ?_ ?_; · (first | decide | trivial | assumption | (intros; first | decide | trivial))))); with_reducible refine hK _ ?_; clear hK K)
    | refine run_ret ?_
    | refine run_nil ?_)
  exact end_tmp1 rfl rfl rfl ⟨rfl, rfl⟩
theorem con71 (o : OpS) (H : Heap) : Con Try.prog 71 [.agg (opL o)] H (fun v H' => v = .c (.bool (IntKind.u64.wrap (BitVec.ofInt IntKind.u64.bits o.imm &&& BitVec.ofInt IntKind.u64.bits 3).toNat == 0)) ∧ H' = H) := by
  refine Con.pure ?_ (by simp only [leArgs, leV, leV1, opL, leSegs, leSeg, leC, and_self]) rfl H
  (refine con_of_run mixed (fn := Try.f71) (by kernel_rfl) (by kernel_rfl) C71_ok (rs := [.tmp 2]) (by kernel_rfl) (Nat.le_of_ble_eq_true (by kernel_rfl)) ?_; unfold C71; simp only [initT, Nat.reduceAdd])
  repeat' (first
    | refine run_seq ?_
    | (refine run_region fun K hK => ?_; (try (simp (maxSteps := 10000000) only [opL, C71r0, C71r1, rwp_nil, rwp_cons, rwpK_app, aop, gpath, St.get, slotAt, sfx, eqP, segsOf, St.put, addBlk, getB, setB, delB, ld1, ldn, st1, stn, setRow, rowNeed, segAt, nsub, bin, un, eqB, isShift, sameK, arith, shiftR, getsl, selB_or, selB_and, beqb, shed, addN, Nat.beq, Seg.size, sizes, imp, needP, andN, appL, argsOf, ptrsOf, aasOf, cut, takeS, dropS, putS, partsOf, fillS, fieldOf, nthA, negIf, nilq, nilB, eqS, eqF, eqS1, andP, kin, slcS, strOk, plusA, bndHi, leN, optG, roH, roL, initT, exOk, exAll, wrAddr, Nat.reduceAdd, Nat.reduceSub, Nat.reduceMul, Int.reduceToNat, List.append_nil, List.nil_append, List.cons_append, eqT, idxT, cat, cpy, ite_int, ite_bool, ite_seg, ite_segs, ite_nil, ite_twice, Int.toNat_natCast, app, addBs, tob])); (repeat (first | (refine And.intro ?_ ?_; · (first | decide | trivial | assumption | (intros; first | decide | trivial))))); with_reducible refine hK _ ?_; clear hK K)
    | refine run_ret ?_
    | refine run_nil ?_)
  exact end_tmp1 rfl rfl rfl ⟨rfl, rfl⟩
theorem con72 (o : OpS) (H : Heap) : Con Try.prog 72 [.agg (opL o)] H (fun v H' => v = .c (.bool (o.imm.fdiv (2 ^ min 32 IntKind.u64.bits) == 0)) ∧ H' = H) := by
  refine Con.pure ?_ (by simp only [leArgs, leV, leV1, opL, leSegs, leSeg, leC, and_self]) rfl H
  (refine con_of_run mixed (fn := Try.f72) (by kernel_rfl) (by kernel_rfl) C72_ok (rs := [.tmp 2]) (by kernel_rfl) (Nat.le_of_ble_eq_true (by kernel_rfl)) ?_; unfold C72; simp only [initT, Nat.reduceAdd])
  repeat' (first
    | refine run_seq ?_
    | (refine run_region fun K hK => ?_; (try (simp (maxSteps := 10000000) only [opL, C72r0, C72r1, rwp_nil, rwp_cons, rwpK_app, aop, gpath, St.get, slotAt, sfx, eqP, segsOf, St.put, addBlk, getB, setB, delB, ld1, ldn, st1, stn, setRow, rowNeed, segAt, nsub, bin, un, eqB, isShift, sameK, arith, shiftR, getsl, selB_or, selB_and, beqb, shed, addN, Nat.beq, Seg.size, sizes, imp, needP, andN, appL, argsOf, ptrsOf, aasOf, cut, takeS, dropS, putS, partsOf, fillS, fieldOf, nthA, negIf, nilq, nilB, eqS, eqF, eqS1, andP, kin, slcS, strOk, plusA, bndHi, leN, optG, roH, roL, initT, exOk, exAll, wrAddr, Nat.reduceAdd, Nat.reduceSub, Nat.reduceMul, Int.reduceToNat, List.append_nil, List.nil_append, List.cons_append, eqT, idxT, cat, cpy, ite_int, ite_bool, ite_seg, ite_segs, ite_nil, ite_twice, Int.toNat_natCast, app, addBs, tob])); (repeat (first | (refine And.intro ?_ ?_; · (first | decide | trivial | assumption | (intros; first | decide | trivial))))); with_reducible refine hK _ ?_; clear hK K)
    | refine run_ret ?_
    | refine run_nil ?_)
  exact end_tmp1 rfl rfl rfl ⟨rfl, rfl⟩
theorem con67 (a : Int) (n : Nat) (X : List (Nat × Blk)) (hkl : keysLt X n) : Con Try.prog 67 [.c (.int .i64 a)] ⟨n, X⟩ (fun v H' => v = .c (.fn 98 [] [⟨n, 0, 0, 0⟩]) ∧ H' = addBs ⟨n, X⟩ [boxW a]) := by
  have h0 : Con Try.prog 67 [.c (.int .i64 a)] ⟨0, []⟩ (fun v H' => v = .c (.fn 98 [] [⟨0, 0, 0, 0⟩]) ∧ H' = ⟨1, [(0, boxW a)]⟩) := by
    (refine con_of_run mixed (fn := Try.f67) (by kernel_rfl) (by kernel_rfl) C67_ok (rs := [.tmp 2]) (by kernel_rfl) (Nat.le_of_ble_eq_true (by kernel_rfl)) ?_; unfold C67; simp only [initT, Nat.reduceAdd])
    repeat' (first
    | refine run_seq ?_
    | (refine run_region fun K hK => ?_; (try (simp (maxSteps := 10000000) only [C67r0, C67r1, rwp_nil, rwp_cons, rwpK_app, aop, gpath, St.get, slotAt, sfx, eqP, segsOf, St.put, addBlk, getB, setB, delB, ld1, ldn, st1, stn, setRow, rowNeed, segAt, nsub, bin, un, eqB, isShift, sameK, arith, shiftR, getsl, selB_or, selB_and, beqb, shed, addN, Nat.beq, Seg.size, sizes, imp, needP, andN, appL, argsOf, ptrsOf, aasOf, cut, takeS, dropS, putS, partsOf, fillS, fieldOf, nthA, negIf, nilq, nilB, eqS, eqF, eqS1, andP, kin, slcS, strOk, plusA, bndHi, leN, optG, roH, roL, initT, exOk, exAll, wrAddr, Nat.reduceAdd, Nat.reduceSub, Nat.reduceMul, Int.reduceToNat, List.append_nil, List.nil_append, List.cons_append, eqT, idxT, cat, cpy, ite_int, ite_bool, ite_seg, ite_segs, ite_nil, ite_twice, Int.toNat_natCast, app, addBs, tob])); (repeat (first | (refine And.intro ?_ ?_; · first | trivial | assumption | omega))); with_reducible refine hK _ ?_; clear hK K)
    | refine run_ret ?_
    | refine run_nil ?_)
    refine end_of ⟨[⟨2, [], .c (.fn 98 [] [⟨0, 0, 0, 0⟩])⟩], ⟨1, [(0, boxW a)]⟩⟩ (LeS.intro [0] (fun i h => absurd h (Nat.not_lt_zero i)) (by simp only [diff, notIn, Nat.beq, and_self]) rfl ?_ ?_) ⟨rfl, rfl⟩
    · simp only [slotsLe, slotAt, Nat.beq, leV, leV1, leC, leAL, leA, nthO, and_self]
    · simp only [leBlks, nthO, getB, Nat.beq]
      exact ⟨⟨rfl, rfl, id, Nat.le_refl _, fun _ _ => by simp only [boxW, leSegs, leSeg, leC, and_self]⟩, trivial⟩
  refine (h0.frame (H := ⟨n, X⟩) [] rfl trivial trivial hkl trivial (by simp only [leArgs, leV, leV1, leC, and_self])).weaken ?_
  rintro v H' ⟨v0, H0', ⟨rfl, rfl⟩, rfl, rfl⟩
  refine ⟨rfl, ?_⟩
  simp only [framed, dropB_none (l := []) (H0 := []) (fun _ => rfl)]
  rfl
theorem end_kind {l : List Slot} {H : Heap} {R : Post} {n : Nat} (w : ByteArray) (r i o : Bool) (u : Int) (d e a : Bool) (g : FuncId) (ok : Bool) (hsl : slotAt l 2 = some ⟨2, [], .c (.ptr ⟨n, 0, 0, 0⟩)⟩) (hok : slotAt l 3 = some ⟨3, [], .c (.bool ok)⟩) (hb : getB H.blks n = some (kindB (kindL w r i o u d e a (.fn g [] []))))
    (hR : R (kindV (kindL w r i o u d e a (.fn g [] [])) ok) ⟨1, [(0, kindB (kindL w r i o u d e a (.fn g [] [])))]⟩) : endQ (LeS 0) [.cn 9 2, .tmp 3] R .ret ⟨l, H⟩ := by
  refine end_of ⟨[⟨2, [], .c (.ptr ⟨0, 0, 0, 0⟩)⟩, ⟨3, [], .c (.bool ok)⟩], ⟨1, [(0, kindB (kindL w r i o u d e a (.fn g [] [])))]⟩⟩ (LeS.intro [n] (fun i h => absurd h (Nat.not_lt_zero i)) (by simp only [diff, notIn, and_self]) rfl (by simp only [slotsLe, hsl, hok, leV, leV1, leC, leA, nthO, and_self]) ?_) ?_
  · simp only [leBlks, nthO, hb]
    exact ⟨⟨rfl, rfl, id, Nat.le_refl _, fun _ _ => by simp only [kindB, kindL, leSegs, leSeg, leC, leAL, and_self]⟩, trivial⟩
  · simp only [endF, resL, resA, St.get, slotAt, Nat.beq, sfx, eqP, ldn, getB, kindB, kindL, rowNeed, cut, dropS, takeS, Seg.size, nsub, noTup, resV]
    exact hR
theorem forget_kind (w : ByteArray) (r i o : Bool) (u : Int) (d e a : Bool) (g : FuncId) (ok : Bool) {n : FuncId} {args : List AV} (h : Con Try.prog n args ⟨0, []⟩ fun v H' => v = kindV (kindL w r i o u d e a (.fn g [] [])) ok ∧ H' = ⟨1, [(0, kindB (kindL w r i o u d e a (.fn g [] [])))]⟩) (ha : leArgs [] args args) (H : Heap) : Con Try.prog n args H fun v H' => v = kindV (kindL w r i o u d e a (.fn g [] [])) ok ∧ H' = H := by
  refine Con.pure (Con.forget h ?_) ha rfl H
  rintro v H' ⟨rfl, rfl⟩
  exact ⟨_, ⟨0, []⟩, [], fun i h => absurd h (Nat.not_lt_zero i), trivial, rfl, trivial, by simp only [kindV, kindL, leV, leV1, leVL, leC, leSegs, leSeg, leAL, and_self], rfl, rfl⟩
set_option maxHeartbeats 8000000 in
theorem kind_P (k : Int) (w : ByteArray) (r i o : Bool) (u : Int) (d e a : Bool) (g : FuncId) (hk : (k = 1 ∧ w = ⟨#[99, 111, 110, 115, 116]⟩ ∧ r = false ∧ i = true ∧ o = false ∧ u = 0 ∧ d = true ∧ e = false ∧ a = false ∧ g = 66) ∨ (k = 4 ∧ w = ⟨#[103, 101, 116, 115, 112]⟩ ∧ r = false ∧ i = false ∧ o = false ∧ u = 0 ∧ d = true ∧ e = false ∧ a = false ∧ g = 66) ∨ (k = 5 ∧ w = ⟨#[115, 101, 116, 115, 112]⟩ ∧ r = false ∧ i = false ∧ o = false ∧ u = 1 ∧ d = false ∧ e = false ∧ a = false ∧ g = 66) ∨ (k = 8 ∧ w = ⟨#[97, 108, 117]⟩ ∧ r = true ∧ i = false ∧ o = false ∧ u = 2 ∧ d = true ∧ e = false ∧ a = false ∧ g = 68) ∨ (k = 13 ∧ w = ⟨#[102, 101, 110, 99, 101]⟩ ∧ r = true ∧ i = false ∧ o = false ∧ u = 0 ∧ d = false ∧ e = false ∧ a = false ∧ g = 70) ∨ (k = 14 ∧ w = ⟨#[97, 116]⟩ ∧ r = false ∧ i = true ∧ o = false ∧ u = 0 ∧ d = false ∧ e = false ∧ a = false ∧ g = 71) ∨ (k = 15 ∧ w = ⟨#[101, 120, 105, 116, 105, 102]⟩ ∧ r = false ∧ i = true ∧ o = false ∧ u = 1 ∧ d = false ∧ e = false ∧ a = false ∧ g = 66) ∨ (k = 16 ∧ w = ⟨#[101, 120, 105, 116]⟩ ∧ r = false ∧ i = true ∧ o = false ∧ u = 0 ∧ d = false ∧ e = true ∧ a = false ∧ g = 66) ∨ (k = 17 ∧ w = ⟨#[101, 120, 105, 116, 116, 111]⟩ ∧ r = false ∧ i = false ∧ o = false ∧ u = 1 ∧ d = false ∧ e = true ∧ a = false ∧ g = 66) ∨ (k = 18 ∧ w = ⟨#[103, 117, 101, 115, 116]⟩ ∧ r = false ∧ i = true ∧ o = false ∧ u = 0 ∧ d = false ∧ e = true ∧ a = false ∧ g = 72)) (H : Heap) : Con Try.prog 46 [.c (.int .i64 k)] H (fun v H' => v = kindV (kindL w r i o u d e a (.fn g [] [])) true ∧ H' = H) := by
  refine forget_kind _ _ _ _ _ _ _ _ _ _ ?_ (by simp only [leArgs, leV, leV1, leC, and_self]) H
  rcases hk with ⟨rfl, rfl, rfl, rfl, rfl, rfl, rfl, rfl, rfl, rfl⟩ | ⟨rfl, rfl, rfl, rfl, rfl, rfl, rfl, rfl, rfl, rfl⟩ | ⟨rfl, rfl, rfl, rfl, rfl, rfl, rfl, rfl, rfl, rfl⟩ | ⟨rfl, rfl, rfl, rfl, rfl, rfl, rfl, rfl, rfl, rfl⟩ | ⟨rfl, rfl, rfl, rfl, rfl, rfl, rfl, rfl, rfl, rfl⟩ | ⟨rfl, rfl, rfl, rfl, rfl, rfl, rfl, rfl, rfl, rfl⟩ | ⟨rfl, rfl, rfl, rfl, rfl, rfl, rfl, rfl, rfl, rfl⟩ | ⟨rfl, rfl, rfl, rfl, rfl, rfl, rfl, rfl, rfl, rfl⟩ | ⟨rfl, rfl, rfl, rfl, rfl, rfl, rfl, rfl, rfl, rfl⟩ | ⟨rfl, rfl, rfl, rfl, rfl, rfl, rfl, rfl, rfl, rfl⟩
  all_goals
    (refine con_of_run mixed (fn := Try.f46) (by kernel_rfl) (by kernel_rfl) C46_ok (rs := [.cn 9 2, .tmp 3]) (by kernel_rfl) (Nat.le_of_ble_eq_true (by kernel_rfl)) ?_; unfold C46; simp only [initT, Nat.reduceAdd])
    repeat' (first
    | refine run_seq ?_
    | refine run_skip ?_
    | (refine run_region fun K hK => ?_; (try (simp (maxSteps := 10000000) only [Int.reduceBEq, partsOf, fillS, C46r0, C46r1, C46r2, C46r3, C46r4, C46r5, C46r6, C46r7, C46r8, C46r9, C46r10, C46r11, C46r12, C46r13, C46r14, C46r15, C46r16, C46r17, C46r18, C46r19, C46r20, C46r21, C46r22, C46r23, C46r24, C46r25, C46r26, C46r27, C46r28, C46r29, C46r30, C46r31, C46r32, C46r33, C46r34, C46r35, C46r36, C46r37, C46r38, rwp_nil, rwp_cons, rwpK_app, aop, gpath, St.get, slotAt, sfx, eqP, segsOf, St.put, addBlk, getB, setB, delB, ld1, ldn, st1, stn, setRow, rowNeed, segAt, nsub, bin, un, eqB, isShift, sameK, arith, shiftR, getsl, selB_or, selB_and, beqb, shed, addN, Nat.beq, Seg.size, sizes, imp, needP, andN, appL, argsOf, ptrsOf, aasOf, cut, takeS, dropS, putS, partsOf, fillS, fieldOf, nthA, negIf, nilq, nilB, eqS, eqF, eqS1, andP, kin, slcS, strOk, plusA, bndHi, leN, optG, roH, roL, initT, exOk, exAll, wrAddr, Nat.reduceAdd, Nat.reduceSub, Nat.reduceMul, Int.reduceToNat, List.append_nil, List.nil_append, List.cons_append, eqT, idxT, cat, cpy, ite_int, ite_bool, ite_seg, ite_segs, ite_nil, ite_twice, Int.toNat_natCast, app, addBs, tob])); (repeat (first | (refine And.intro ?_ ?_; · first | trivial | assumption | omega))); with_reducible refine hK _ ?_; clear hK K)
    | (refine run_cond rfl (fun hc => ?_) (fun hc => ?_) <;> try (simp only [*, Bool.true_eq_false, Bool.false_eq_true, Bool.not_true, Bool.not_false, Bool.true_or, Bool.or_true, Bool.false_or, Bool.or_false, Bool.false_and, Bool.and_false, bne_self_eq_false, beq_self_eq_true] at hc; done))
    | refine run_block ?_
    | refine run_ret ?_
    | refine run_nil ?_
    | refine blk_normal ?_
    | refine blk_ret ?_
    | refine blk_here ?_
    | refine blk_there rfl ?_)
    exact end_kind _ _ _ _ _ _ _ _ _ true rfl rfl rfl ⟨rfl, rfl⟩
end Go.Proofs.Ytmbnakinhnkabaa
