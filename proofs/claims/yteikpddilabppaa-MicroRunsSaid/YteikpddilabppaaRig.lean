/- lower: when micro-code is right. -/
import Derived.Test.YteikpddilabppaaMic
import Derived.Test.YteikpddilabppaaAm22
import Derived.Laws.BitsLemmas
import Derived.Laws.Bits64
namespace Go.Proofs.Yteikpddilabppaa
open Go.AM
set_option maxRecDepth 100000
set_option linter.unusedSimpArgs false
set_option linter.unusedVariables false
def fieldT : Nat → Int
  | 1 => 34
  | 2 => 6
  | 3 => 98
  | 4 => 164
  | 5 => 3
  | 6 => 5
  | 7 => 2
  | 8 => 4
  | 9 => 3
  | 10 => 5
  | 11 => 15
  | 12 => 22
  | 13 => 28
  | 14 => 22
  | 15 => 30
  | 16 => 0
  | 17 => 1
  | 18 => 32
  | 19 => 36
  | 20 => 32
  | 21 => 4
  | 22 => 32
  | _ => 0
def wordT : Nat → ByteArray
  | 1 => ⟨#[99, 111, 110, 115, 116]⟩
  | 2 => ⟨#[109, 111, 118, 101]⟩
  | 3 => ⟨#[102, 105, 108, 108]⟩
  | 4 => ⟨#[115, 112, 105, 108, 108]⟩
  | 5 => ⟨#[103, 101, 116, 120]⟩
  | 6 => ⟨#[115, 101, 116, 120]⟩
  | 7 => ⟨#[103, 101, 116, 115, 112]⟩
  | 8 => ⟨#[115, 101, 116, 115, 112]⟩
  | 9 => ⟨#[103, 101, 116, 102]⟩
  | 10 => ⟨#[115, 101, 116, 102]⟩
  | 11 => ⟨#[97, 108, 117]⟩
  | 12 => ⟨#[108, 111, 97, 100]⟩
  | 13 => ⟨#[115, 116, 111, 114, 101]⟩
  | 14 => ⟨#[108, 111, 97, 100, 101, 120]⟩
  | 15 => ⟨#[115, 116, 111, 114, 101, 101, 120]⟩
  | 16 => ⟨#[102, 101, 110, 99, 101]⟩
  | 17 => ⟨#[110, 111, 116, 101]⟩
  | 18 => ⟨#[97, 116]⟩
  | 19 => ⟨#[101, 120, 105, 116, 105, 102]⟩
  | 20 => ⟨#[101, 120, 105, 116]⟩
  | 21 => ⟨#[101, 120, 105, 116, 116, 111]⟩
  | 22 => ⟨#[103, 117, 101, 115, 116]⟩
  | _ => ⟨#[]⟩
def shapeB : Blk := ⟨2, some 23, fun i => [.c (.str (wordT i)), .c (.int .i64 (fieldT i))], 75, true⟩
set_option maxHeartbeats 4000000 in
theorem con25 : Con Try.prog 25 [] ⟨0, []⟩ (fun v H' => v = .c (.slice ⟨0, 0, 0, 0⟩ false 23) ∧ H' = ⟨1, [(0, shapeB)]⟩) := by
  (refine con_of_run mixed (fn := Try.f25) (by kernel_rfl) (by kernel_rfl) C25_ok (rs := [.tmp 0]) (by kernel_rfl) (Nat.le_of_ble_eq_true (by kernel_rfl)) ?_; unfold C25; simp only [initT, Nat.reduceAdd])
  repeat' (first
    | refine run_seq ?_
    | refine run_skip ?_
    | (refine run_region fun K hK => ?_; (try (simp (maxSteps := 10000000) only [repl, List.append_eq, rowsFit, C25r0, C25r1, rwp_nil, rwp_cons, rwpK_app, aop, gpath, St.get, slotAt, sfx, eqP, segsOf, St.put, addBlk, getB, setB, delB, ld1, ldn, st1, stn, setRow, rowNeed, segAt, nsub, bin, un, eqB, isShift, sameK, arith, shiftR, getsl, selB_or, selB_and, beqb, shed, addN, Nat.beq, Seg.size, sizes, imp, needP, andN, appL, argsOf, ptrsOf, aasOf, cut, takeS, dropS, putS, partsOf, fillS, fieldOf, nthA, negIf, nilq, nilB, eqS, eqF, eqS1, andP, kin, slcS, strOk, plusA, bndHi, leN, optG, roH, roL, initT, exOk, exAll, wrAddr, Nat.reduceAdd, Nat.reduceSub, Nat.reduceMul, Int.reduceToNat, List.append_nil, List.nil_append, List.cons_append, eqT, idxT, cat, cpy, ite_int, ite_bool, ite_seg, ite_segs, ite_nil, ite_twice, Int.toNat_natCast, app, addBs])); (repeat (first | (refine And.intro ?_ ?_; · first | trivial | assumption | omega))); with_reducible refine hK _ ?_; clear hK K)
    | (refine run_cond rfl (fun hc => ?_) (fun hc => ?_) <;> try (simp only [*, Bool.true_eq_false, Bool.false_eq_true, Bool.not_true, Bool.not_false, Bool.true_or, Bool.or_true, Bool.false_or, Bool.or_false, Bool.false_and, Bool.and_false, bne_self_eq_false, beq_self_eq_true] at hc; done))
    | refine run_block ?_
    | refine run_ret ?_
    | refine run_nil ?_
    | refine run_exit ?_
    | refine blk_normal ?_
    | refine blk_ret ?_
    | refine blk_here ?_
    | refine blk_there rfl ?_
    | refine loop_exit ?_
    | refine loop_ret ?_
    | refine un_exit ?_
    | refine un_ret ?_
    | refine unE_exit ?_
    | refine unE_ret ?_
    | refine un_normal ?_)
  refine end_of ⟨[⟨0, [], .c (.slice ⟨0, 0, 0, 0⟩ false 23)⟩], ⟨1, [(0, shapeB)]⟩⟩ ?_ ⟨rfl, rfl⟩
  refine LeS.intro [0] (fun i h => absurd h (Nat.not_lt_zero i)) (by simp only [diff, notIn, and_self]) rfl ⟨⟨⟨rfl, rfl, rfl, rfl⟩, rfl, rfl⟩, trivial⟩ ?_
  refine ⟨⟨rfl, rfl, id, Nat.le_refl _, fun i hi => ?_⟩, trivial⟩
  match i, hi with
  | 0, _ => exact ⟨rfl, ⟨rfl, rfl⟩, trivial⟩
  | 1, _ => exact ⟨rfl, ⟨rfl, rfl⟩, trivial⟩
  | 2, _ => exact ⟨rfl, ⟨rfl, rfl⟩, trivial⟩
  | 3, _ => exact ⟨rfl, ⟨rfl, rfl⟩, trivial⟩
  | 4, _ => exact ⟨rfl, ⟨rfl, rfl⟩, trivial⟩
  | 5, _ => exact ⟨rfl, ⟨rfl, rfl⟩, trivial⟩
  | 6, _ => exact ⟨rfl, ⟨rfl, rfl⟩, trivial⟩
  | 7, _ => exact ⟨rfl, ⟨rfl, rfl⟩, trivial⟩
  | 8, _ => exact ⟨rfl, ⟨rfl, rfl⟩, trivial⟩
  | 9, _ => exact ⟨rfl, ⟨rfl, rfl⟩, trivial⟩
  | 10, _ => exact ⟨rfl, ⟨rfl, rfl⟩, trivial⟩
  | 11, _ => exact ⟨rfl, ⟨rfl, rfl⟩, trivial⟩
  | 12, _ => exact ⟨rfl, ⟨rfl, rfl⟩, trivial⟩
  | 13, _ => exact ⟨rfl, ⟨rfl, rfl⟩, trivial⟩
  | 14, _ => exact ⟨rfl, ⟨rfl, rfl⟩, trivial⟩
  | 15, _ => exact ⟨rfl, ⟨rfl, rfl⟩, trivial⟩
  | 16, _ => exact ⟨rfl, ⟨rfl, rfl⟩, trivial⟩
  | 17, _ => exact ⟨rfl, ⟨rfl, rfl⟩, trivial⟩
  | 18, _ => exact ⟨rfl, ⟨rfl, rfl⟩, trivial⟩
  | 19, _ => exact ⟨rfl, ⟨rfl, rfl⟩, trivial⟩
  | 20, _ => exact ⟨rfl, ⟨rfl, rfl⟩, trivial⟩
  | 21, _ => exact ⟨rfl, ⟨rfl, rfl⟩, trivial⟩
  | 22, _ => exact ⟨rfl, ⟨rfl, rfl⟩, trivial⟩
  | n + 23, h => exact absurd h (by simp only [shapeB, Blk.n, Option.getD]; omega)
structure CodeS where
  pc : Int
  words : Int
  el : Int
  slots : Int
  nops : Nat
  ops : Nat → MicroS
def codeL (c : CodeS) : List Seg := [.c (.int .u64 c.pc), .c (.int .i64 c.words), .c (.int .i64 c.el), .c (.int .i64 c.slots), .c (.slice ⟨0, 0, 0, 0⟩ false c.nops)]
def opsBk (c : CodeS) (wr : Bool) : Blk := ⟨7, some c.nops, fun i => microL (c.ops i), 34, wr⟩
def btw (n lo hi : Int) : Bool := decide (n ≥ lo) && decide (n ≤ hi)
def andI (a b : Int) : Int := IntKind.i64.wrap (BitVec.ofInt IntKind.i64.bits a &&& BitVec.ofInt IntKind.i64.bits b).toNat
/-- A field that a kind has not must be 0. -/
def absent (f flag x : Int) : Bool := (andI f flag == 0) && (x != 0)
def opA (c : CodeS) (i : Int) (m : MicroS) : Bool := (!btw m.kind 1 22 || !(((m.kind == 20) || (m.kind == 21) || (m.kind == 22)) == (i == IntKind.i64.wrap ((c.nops : Int) - 1)))) || !fitsS m c.slots
/-- A host register that is none, or not set. -/
def regBad (f flag x : Int) (set : Nat → Bool) : Bool := (absent f flag x || !btw x 0 7) || ((andI f flag != 0) && (flag != 2) && !(set x.toNat))
def opB (m : MicroS) (f : Int) (set slot : Nat → Bool) : Bool :=
  absent f 1 m.r || absent f 16 m.order || ((andI f 32 == 0) && (m.imm != 0)) || regBad f 4 m.a set || regBad f 8 m.b set || regBad f 2 m.d set || ((andI f 64 != 0) && !(slot m.imm.toNat))
def setN (set : Nat → Bool) (f : Int) (m : MicroS) : Nat → Bool := if (andI f 2 != 0) = true then fun j => if j = m.d.toNat then true else set j else set
def slotN (slot : Nat → Bool) (f : Int) (m : MicroS) : Nat → Bool := if (andI f 128 != 0) = true then fun j => if j = m.imm.toNat then true else slot j else slot
def rightL (c : CodeS) : Nat → Nat → (Nat → Bool) → (Nat → Bool) → Bool
  | 0, _, _, _ => true
  | n + 1, i, set, slot =>
    let m := c.ops i
    let f := fieldT m.kind.toNat
    !(opA c i m || opB m f set slot) && rightL c n (i + 1) (setN set f m) (slotN slot f m)
def preBad (c : CodeS) : Bool := ((c.pc.tmod 4 != 0) || !btw c.words 1 16 || !btw c.el 0 1 || !btw c.slots 0 512 || !btw c.nops 1 4096)
def rightS (c : CodeS) : Bool := !(preBad c) && !(((c.ops 0).kind != 18) || ((c.ops 0).imm != c.pc)) && rightL c c.nops 0 (fun _ => false) (fun _ => false)
def rigSt (c : CodeS) (wr : Bool) (i : Nat) (set slot : Nat → Bool) : St :=
  ⟨[⟨65, [], .c (.int .i64 i)⟩, ⟨64, [], .c (.int .i64 c.nops)⟩, ⟨63, [], .c (.slice ⟨0, 0, 0, 0⟩ false c.nops)⟩, ⟨5, [], .c (.slice ⟨4, 0, 0, 0⟩ false c.slots.toNat)⟩, ⟨4, [], .c (.ptr ⟨3, 0, 0, 0⟩)⟩, ⟨3, [], .c (.slice ⟨2, 0, 0, 0⟩ false 23)⟩, ⟨2, [], .c (.bool false)⟩, ⟨1, [], .c (.ptr ⟨1, 0, 0, 0⟩)⟩],
   ⟨5, [(4, ⟨1, some c.slots.toNat, fun j => [.c (.bool (slot j))], 4, true⟩), (3, ⟨8, none, fun _ => [.a 8 (fun j => .bool (set j))], 71, true⟩), (2, shapeB), (1, ⟨5, none, fun _ => codeL c, 25, true⟩), (0, opsBk c wr)]⟩⟩
theorem end_rig {l : List Slot} {H : Heap} {R : Post} (c : CodeS) (wr b : Bool) (h0 : getB H.blks 0 = some (opsBk c wr)) (h2 : slotAt l 2 = some ⟨2, [], .c (.bool b)⟩) (hR : R (.c (.bool b)) ⟨1, [(0, opsBk c wr)]⟩) : endQ (LeS 1) [.tmp 2] R .ret ⟨l, H⟩ := by
  refine end_of ⟨[⟨2, [], .c (.bool b)⟩], ⟨1, [(0, opsBk c wr)]⟩⟩ ?_ hR
  refine LeS.intro [0] (fun i h => ?_) (by simp only [diff, notIn, and_self]) rfl (slotsOf h2 rfl trivial) ?_
  · match i, h with
    | 0, _ => rfl
  · simp only [leBlks, nthO, h0]
    exact ⟨⟨rfl, rfl, id, Nat.le_refl _, fun i _ => by simp only [opsBk, microL, leSegs, leSeg, leC, and_self]⟩, trivial⟩
theorem pre_facts {c : CodeS} (h : preBad c = false) : 1 ≤ c.words ∧ c.words ≤ 16 ∧ 0 ≤ c.el ∧ c.el ≤ 1 ∧ 0 ≤ c.slots ∧ c.slots ≤ 512 ∧ 1 ≤ c.nops ∧ c.nops ≤ 4096 := by
  simp [preBad, btw] at h
  omega
theorem opA_facts {c : CodeS} {i : Int} {m : MicroS} (h : opA c i m = false) : 1 ≤ m.kind ∧ m.kind ≤ 22 := by
  simp [opA, btw] at h
  omega
theorem cast2 : ((2 : Nat) : Int) = 2 := rfl
theorem cast3 : ((3 : Nat) : Int) = 3 := rfl
theorem wr01 : IntKind.i64.wrap (0 + 1) = 1 := by rw [IntKind.wrap_i64]; decide
theorem wr12 : IntKind.i64.wrap (1 + 1) = 2 := by rw [IntKind.wrap_i64]; decide
theorem wr23 : IntKind.i64.wrap (2 + 1) = 3 := by rw [IntKind.wrap_i64]; decide
theorem con25_at (n : Nat) (X : List (Nat × Blk)) (hX : keysLt X n) : Con Try.prog 25 [] ⟨n, X⟩ (fun v H' => v = .c (.slice ⟨n, 0, 0, 0⟩ false 23) ∧ H' = ⟨n + 1, (n, shapeB) :: X⟩) := by
  have hd : dropB [] [] X = X := by
    clear hX
    induction X with
    | nil => rfl
    | cons x r ih => simp [dropB, goneB, ih]
  refine (con25.frame (args := []) (H := ⟨n, X⟩) [] rfl trivial trivial hX trivial trivial).weaken ?_
  rintro v H' ⟨v0, H0', ⟨rfl, rfl⟩, rfl, rfl⟩
  refine ⟨rfl, ?_⟩
  simp only [framed, hd]
  rfl
theorem le_rig {l : List Slot} {H : Heap} (c : CodeS) (wr : Bool) (i : Nat) (set slot : Nat → Bool) (b4 : getB H.blks 4 = some ⟨1, some c.slots.toNat, fun j => [.c (.bool (slot j))], 4, true⟩) (b3 : getB H.blks 3 = some ⟨8, none, fun _ => [.a 8 (fun j => .bool (set j))], 71, true⟩) (b2 : getB H.blks 2 = some shapeB) (b1 : getB H.blks 1 = some ⟨5, none, fun _ => codeL c, 25, true⟩) (b0 : getB H.blks 0 = some (opsBk c wr))
    (h65 : slotAt l 65 = some ⟨65, [], .c (.int .i64 i)⟩) (h64 : slotAt l 64 = some ⟨64, [], .c (.int .i64 c.nops)⟩) (h63 : slotAt l 63 = some ⟨63, [], .c (.slice ⟨0, 0, 0, 0⟩ false c.nops)⟩) (h5 : slotAt l 5 = some ⟨5, [], .c (.slice ⟨4, 0, 0, 0⟩ false c.slots.toNat)⟩)
    (h4 : slotAt l 4 = some ⟨4, [], .c (.ptr ⟨3, 0, 0, 0⟩)⟩) (h3 : slotAt l 3 = some ⟨3, [], .c (.slice ⟨2, 0, 0, 0⟩ false 23)⟩) (h2 : slotAt l 2 = some ⟨2, [], .c (.bool false)⟩) (h1 : slotAt l 1 = some ⟨1, [], .c (.ptr ⟨1, 0, 0, 0⟩)⟩) : LeS 1 ⟨l, H⟩ (rigSt c wr i set slot) := by
  refine LeS.intro [0, 1, 2, 3, 4] (fun i h => ?_) (by simp only [diff, notIn, Nat.beq, and_self]) rfl ?_ ?_
  · match i, h with
    | 0, _ => rfl
  · simp only [rigSt, slotsLe, h65, h64, h63, h5, h4, h3, h2, h1, leV, leV1, leC, leA, nthO, and_self]
  · simp only [rigSt, b4, b3, b2, b1, b0, leBlks, nthO]
    refine ⟨?_, ?_, ?_, ?_, ?_, trivial⟩
    all_goals refine ⟨rfl, rfl, id, Nat.le_refl _, fun i _ => ?_⟩
    all_goals simp only [shapeB, codeL, opsBk, microL, leSegs, leSeg, leC, leA, nthO, and_self, implies_true]
theorem flag64 {k : Int} (h1 : 1 ≤ k) (h2 : k ≤ 22) (h : (andI (fieldT k.toNat) 64 != 0) = true) : k = 3 := by
  rcases (by omega : k = 1 ∨ k = 2 ∨ k = 3 ∨ k = 4 ∨ k = 5 ∨ k = 6 ∨ k = 7 ∨ k = 8 ∨ k = 9 ∨ k = 10 ∨ k = 11 ∨ k = 12 ∨ k = 13 ∨ k = 14 ∨ k = 15 ∨ k = 16 ∨ k = 17 ∨ k = 18 ∨ k = 19 ∨ k = 20 ∨ k = 21 ∨ k = 22) with rfl | rfl | rfl | rfl | rfl | rfl | rfl | rfl | rfl | rfl | rfl | rfl | rfl | rfl | rfl | rfl | rfl | rfl | rfl | rfl | rfl | rfl <;> first | rfl | (exfalso; revert h; decide)
theorem flag128 {k : Int} (h1 : 1 ≤ k) (h2 : k ≤ 22) (h : (andI (fieldT k.toNat) 128 != 0) = true) : k = 4 := by
  rcases (by omega : k = 1 ∨ k = 2 ∨ k = 3 ∨ k = 4 ∨ k = 5 ∨ k = 6 ∨ k = 7 ∨ k = 8 ∨ k = 9 ∨ k = 10 ∨ k = 11 ∨ k = 12 ∨ k = 13 ∨ k = 14 ∨ k = 15 ∨ k = 16 ∨ k = 17 ∨ k = 18 ∨ k = 19 ∨ k = 20 ∨ k = 21 ∨ k = 22) with rfl | rfl | rfl | rfl | rfl | rfl | rfl | rfl | rfl | rfl | rfl | rfl | rfl | rfl | rfl | rfl | rfl | rfl | rfl | rfl | rfl | rfl <;> first | rfl | (exfalso; revert h; decide)
theorem rightL_A {c : CodeS} {n i : Nat} {set slot : Nat → Bool} (h : opA c i (c.ops i) = true) (hn : 0 < n) : rightL c n i set slot = false := by
  cases n with
  | zero => omega
  | succ n => simp only [rightL, h, Bool.true_or, Bool.not_true, Bool.false_and]
theorem rightL_B {c : CodeS} {n i : Nat} {set slot : Nat → Bool} (h : opB (c.ops i) (fieldT (c.ops i).kind.toNat) set slot = true) (hn : 0 < n) : rightL c n i set slot = false := by
  cases n with
  | zero => omega
  | succ n => simp only [rightL, h, Bool.or_true, Bool.not_true, Bool.false_and]
theorem rightL_step {c : CodeS} {n i : Nat} {set slot : Nat → Bool} (h1 : opA c i (c.ops i) = false) (h2 : opB (c.ops i) (fieldT (c.ops i).kind.toNat) set slot = false) : rightL c (n + 1) i set slot = rightL c n (i + 1) (setN set (fieldT (c.ops i).kind.toNat) (c.ops i)) (slotN slot (fieldT (c.ops i).kind.toNat) (c.ops i)) := by
  simp only [rightL, h1, h2, Bool.or_self, Bool.not_false, Bool.true_and]
theorem opA_slot {c : CodeS} {i : Int} {m : MicroS} (h : opA c i m = false) (hs : 0 ≤ c.slots ∧ c.slots ≤ 512) (hk : m.kind = 3 ∨ m.kind = 4) : m.imm < c.slots := by
  have hf : fitsS m c.slots = true := by
    simp only [opA, Bool.or_eq_false_iff, Bool.not_eq_false'] at h
    exact h.2
  have e : IntKind.u64.wrap c.slots = c.slots := by rw [IntKind.wrap_u64]; omega
  have : decide (m.imm < IntKind.u64.wrap c.slots) = true := by
    rcases hk with hk | hk <;> simpa [fitsS, hk] using hf
  rw [e] at this
  simpa using this
set_option maxHeartbeats 4000000 in
theorem con17 (c : CodeS) (wr : Bool) (himm : ∀ i, i < c.nops → 0 ≤ (c.ops i).imm) : Con Try.prog 17 [.agg (codeL c)] ⟨1, [(0, opsBk c wr)]⟩ (fun v H' => v = .c (.bool (rightS c)) ∧ H' = ⟨1, [(0, opsBk c wr)]⟩) := by
  (refine con_of_run mixed (fn := Try.f17) (by kernel_rfl) (by kernel_rfl) C17_ok (rs := [.tmp 2]) (by kernel_rfl) (Nat.le_of_ble_eq_true (by kernel_rfl)) ?_; unfold C17; simp only [initT, Nat.reduceAdd])
  generalize hR : (fun (v : AV) (H' : Heap) => v = AV.c (CV.bool (rightS c)) ∧ H' = ⟨1, [(0, opsBk c wr)]⟩) = R
  simp only [codeL, opsBk]
  repeat' (first
    | refine run_seq ?_
    | refine run_skip ?_
    | (refine run_region fun K hK => ?_; (try (simp (maxSteps := 10000000) only [microL, C17r0, C17r1, C17r2, C17r3, C17r4, C17r5, C17r6, C17r7, C17r8, C17r9, C17r10, C17r11, C17r12, C17r13, C17r14, C17r15, C17r16, C17r17, C17r18, C17r19, C17r20, C17r21, C17r22, C17r23, C17r24, C17r25, C17r26, C17r27, C17r28, C17r29, C17r30, C17r31, C17r32, C17r33, C17r34, C17r35, C17r36, C17r37, C17r38, rwp_nil, rwp_cons, rwpK_app, aop, gpath, St.get, slotAt, sfx, eqP, segsOf, St.put, addBlk, getB, setB, delB, ld1, ldn, st1, stn, setRow, rowNeed, segAt, nsub, bin, un, eqB, isShift, sameK, arith, shiftR, getsl, selB_or, selB_and, beqb, shed, addN, Nat.beq, Seg.size, sizes, imp, needP, andN, appL, argsOf, ptrsOf, aasOf, cut, takeS, dropS, putS, partsOf, fillS, fieldOf, nthA, negIf, nilq, nilB, eqS, eqF, eqS1, andP, kin, slcS, strOk, plusA, bndHi, leN, optG, roH, roL, initT, exOk, exAll, wrAddr, Nat.reduceAdd, Nat.reduceSub, Nat.reduceMul, Int.reduceToNat, List.append_nil, List.nil_append, List.cons_append, eqT, idxT, cat, cpy, ite_int, ite_bool, ite_seg, ite_segs, ite_nil, ite_twice, Int.toNat_natCast, app, addBs])); (repeat (first | (refine And.intro ?_ ?_; · omega) | ((first | (refine call_t _ (con24 _ _ _ _) ?_; rintro v H' ⟨rfl, rfl⟩) | refine call_q _ (con24 _ _ _ _) ?_ | refine call_g _ (imp_of (con24 _ _ _ _)) ?_ | (refine call_t _ (con26 _ _) ?_; rintro v H' ⟨rfl, rfl⟩) | refine call_q _ (con26 _ _) ?_ | refine call_g _ (imp_of (con26 _ _)) ?_ | (refine call_t _ (con27 _ _ _) ?_; rintro v H' ⟨rfl, rfl⟩) | refine call_q _ (con27 _ _ _) ?_ | refine call_g _ (imp_of (con27 _ _ _)) ?_); simp (maxSteps := 10000000) only [microL, C17r0, C17r1, C17r2, C17r3, C17r4, C17r5, C17r6, C17r7, C17r8, C17r9, C17r10, C17r11, C17r12, C17r13, C17r14, C17r15, C17r16, C17r17, C17r18, C17r19, C17r20, C17r21, C17r22, C17r23, C17r24, C17r25, C17r26, C17r27, C17r28, C17r29, C17r30, C17r31, C17r32, C17r33, C17r34, C17r35, C17r36, C17r37, C17r38, rwp_nil, rwp_cons, rwpK_app, aop, gpath, St.get, slotAt, sfx, eqP, segsOf, St.put, addBlk, getB, setB, delB, ld1, ldn, st1, stn, setRow, rowNeed, segAt, nsub, bin, un, eqB, isShift, sameK, arith, shiftR, getsl, selB_or, selB_and, beqb, shed, addN, Nat.beq, Seg.size, sizes, imp, needP, andN, appL, argsOf, ptrsOf, aasOf, cut, takeS, dropS, putS, partsOf, fillS, fieldOf, nthA, negIf, nilq, nilB, eqS, eqF, eqS1, andP, kin, slcS, strOk, plusA, bndHi, leN, optG, roH, roL, initT, exOk, exAll, wrAddr, Nat.reduceAdd, Nat.reduceSub, Nat.reduceMul, Int.reduceToNat, List.append_nil, List.nil_append, List.cons_append, eqT, idxT, cat, cpy, ite_int, ite_bool, ite_seg, ite_segs, ite_nil, ite_twice, Int.toNat_natCast, app, addBs]))); with_reducible refine hK _ ?_; clear hK K)
    | (refine run_cond rfl (fun hc => ?_) (fun hc => ?_) <;> try (simp only [*, Bool.true_eq_false, Bool.false_eq_true, Bool.not_true, Bool.not_false, Bool.true_or, Bool.or_true, Bool.false_or, Bool.or_false, Bool.false_and, Bool.and_false, bne_self_eq_false, beq_self_eq_true] at hc; done))
    | refine run_block ?_
    | refine run_ret ?_
    | refine run_nil ?_
    | refine run_exit ?_
    | refine blk_normal ?_
    | refine blk_ret ?_
    | refine blk_here ?_
    | refine blk_there rfl ?_
    | refine loop_exit ?_
    | refine loop_ret ?_
    | refine un_exit ?_
    | refine un_ret ?_
    | refine unE_exit ?_
    | refine unE_ret ?_
    | refine un_normal ?_)
  · subst hR
    exact end_rig c wr false rfl rfl ⟨by simp only [rightS, preBad, btw, hc, Bool.not_true, Bool.false_and], rfl⟩
  · have hp : preBad c = false := hc
    have hpf := pre_facts hp
    clear hc
    repeat' (first
    | refine run_seq ?_
    | refine run_skip ?_
    | (refine run_region fun K hK => ?_; (try (simp (maxSteps := 10000000) only [microL, C17r0, C17r1, C17r2, C17r3, C17r4, C17r5, C17r6, C17r7, C17r9, C17r10, C17r11, C17r12, C17r13, C17r14, C17r15, C17r16, C17r17, C17r18, C17r19, C17r20, C17r21, C17r22, C17r23, C17r24, C17r25, C17r26, C17r27, C17r28, C17r29, C17r30, C17r31, C17r32, C17r33, C17r34, C17r35, C17r36, C17r37, C17r38, rwp_nil, rwp_cons, rwpK_app, aop, gpath, St.get, slotAt, sfx, eqP, segsOf, St.put, addBlk, getB, setB, delB, ld1, ldn, st1, stn, setRow, rowNeed, segAt, nsub, bin, un, eqB, isShift, sameK, arith, shiftR, getsl, selB_or, selB_and, beqb, shed, addN, Nat.beq, Seg.size, sizes, imp, needP, andN, appL, argsOf, ptrsOf, aasOf, cut, takeS, dropS, putS, partsOf, fillS, fieldOf, nthA, negIf, nilq, nilB, eqS, eqF, eqS1, andP, kin, slcS, strOk, plusA, bndHi, leN, optG, roH, roL, initT, exOk, exAll, wrAddr, Nat.reduceAdd, Nat.reduceSub, Nat.reduceMul, Int.reduceToNat, List.append_nil, List.nil_append, List.cons_append, eqT, idxT, cat, cpy, ite_int, ite_bool, ite_seg, ite_segs, ite_nil, ite_twice, Int.toNat_natCast, app, addBs])); (repeat (first | (refine And.intro ?_ ?_; · omega) | ((first | (refine call_t _ (con25_at _ _ (by simp [keysLt])) ?_; rintro v H' ⟨rfl, rfl⟩) | refine call_q _ (con25_at _ _ (by simp [keysLt])) ?_ | refine call_g _ (imp_of (con25_at _ _ (by simp [keysLt]))) ?_); simp (maxSteps := 10000000) only [microL, C17r0, C17r1, C17r2, C17r3, C17r4, C17r5, C17r6, C17r7, C17r9, C17r10, C17r11, C17r12, C17r13, C17r14, C17r15, C17r16, C17r17, C17r18, C17r19, C17r20, C17r21, C17r22, C17r23, C17r24, C17r25, C17r26, C17r27, C17r28, C17r29, C17r30, C17r31, C17r32, C17r33, C17r34, C17r35, C17r36, C17r37, C17r38, rwp_nil, rwp_cons, rwpK_app, aop, gpath, St.get, slotAt, sfx, eqP, segsOf, St.put, addBlk, getB, setB, delB, ld1, ldn, st1, stn, setRow, rowNeed, segAt, nsub, bin, un, eqB, isShift, sameK, arith, shiftR, getsl, selB_or, selB_and, beqb, shed, addN, Nat.beq, Seg.size, sizes, imp, needP, andN, appL, argsOf, ptrsOf, aasOf, cut, takeS, dropS, putS, partsOf, fillS, fieldOf, nthA, negIf, nilq, nilB, eqS, eqF, eqS1, andP, kin, slcS, strOk, plusA, bndHi, leN, optG, roH, roL, initT, exOk, exAll, wrAddr, Nat.reduceAdd, Nat.reduceSub, Nat.reduceMul, Int.reduceToNat, List.append_nil, List.nil_append, List.cons_append, eqT, idxT, cat, cpy, ite_int, ite_bool, ite_seg, ite_segs, ite_nil, ite_twice, Int.toNat_natCast, app, addBs]))); with_reducible refine hK _ ?_; clear hK K)
    | (refine run_cond rfl (fun hc => ?_) (fun hc => ?_) <;> try (simp only [*, Bool.true_eq_false, Bool.false_eq_true, Bool.not_true, Bool.not_false, Bool.true_or, Bool.or_true, Bool.false_or, Bool.or_false, Bool.false_and, Bool.and_false, bne_self_eq_false, beq_self_eq_true] at hc; done))
    | refine run_block ?_
    | refine run_ret ?_
    | refine run_nil ?_
    | refine run_exit ?_
    | refine blk_normal ?_
    | refine blk_ret ?_
    | refine blk_here ?_
    | refine blk_there rfl ?_
    | refine loop_exit ?_
    | refine loop_ret ?_
    | refine un_exit ?_
    | refine un_ret ?_
    | refine unE_exit ?_
    | refine unE_ret ?_
    | refine un_normal ?_)
    · subst hR
      exact end_rig c wr false rfl rfl ⟨by simp only [rightS, hp, hc, Bool.not_true, Bool.not_false, Bool.true_and, Bool.false_and], rfl⟩
    · have hk0 := hc
      clear hc
      repeat' (first
    | refine run_seq ?_
    | refine run_skip ?_
    | (refine run_region fun K hK => ?_; (try (simp (maxSteps := 10000000) only [microL, C17r0, C17r1, C17r2, C17r3, C17r4, C17r5, C17r6, C17r7, C17r9, C17r10, C17r11, C17r12, C17r13, C17r14, C17r15, C17r16, C17r17, C17r18, C17r19, C17r20, C17r21, C17r22, C17r23, C17r24, C17r25, C17r26, C17r27, C17r28, C17r29, C17r30, C17r31, C17r32, C17r33, C17r34, C17r35, C17r36, C17r37, C17r38, rwp_nil, rwp_cons, rwpK_app, aop, gpath, St.get, slotAt, sfx, eqP, segsOf, St.put, addBlk, getB, setB, delB, ld1, ldn, st1, stn, setRow, rowNeed, segAt, nsub, bin, un, eqB, isShift, sameK, arith, shiftR, getsl, selB_or, selB_and, beqb, shed, addN, Nat.beq, Seg.size, sizes, imp, needP, andN, appL, argsOf, ptrsOf, aasOf, cut, takeS, dropS, putS, partsOf, fillS, fieldOf, nthA, negIf, nilq, nilB, eqS, eqF, eqS1, andP, kin, slcS, strOk, plusA, bndHi, leN, optG, roH, roL, initT, exOk, exAll, wrAddr, Nat.reduceAdd, Nat.reduceSub, Nat.reduceMul, Int.reduceToNat, List.append_nil, List.nil_append, List.cons_append, eqT, idxT, cat, cpy, ite_int, ite_bool, ite_seg, ite_segs, ite_nil, ite_twice, Int.toNat_natCast, app, addBs])); (repeat (first | (refine And.intro ?_ ?_; · omega) | ((first | (refine call_t _ (con25_at _ _ (by simp [keysLt])) ?_; rintro v H' ⟨rfl, rfl⟩) | refine call_q _ (con25_at _ _ (by simp [keysLt])) ?_ | refine call_g _ (imp_of (con25_at _ _ (by simp [keysLt]))) ?_); simp (maxSteps := 10000000) only [microL, C17r0, C17r1, C17r2, C17r3, C17r4, C17r5, C17r6, C17r7, C17r9, C17r10, C17r11, C17r12, C17r13, C17r14, C17r15, C17r16, C17r17, C17r18, C17r19, C17r20, C17r21, C17r22, C17r23, C17r24, C17r25, C17r26, C17r27, C17r28, C17r29, C17r30, C17r31, C17r32, C17r33, C17r34, C17r35, C17r36, C17r37, C17r38, rwp_nil, rwp_cons, rwpK_app, aop, gpath, St.get, slotAt, sfx, eqP, segsOf, St.put, addBlk, getB, setB, delB, ld1, ldn, st1, stn, setRow, rowNeed, segAt, nsub, bin, un, eqB, isShift, sameK, arith, shiftR, getsl, selB_or, selB_and, beqb, shed, addN, Nat.beq, Seg.size, sizes, imp, needP, andN, appL, argsOf, ptrsOf, aasOf, cut, takeS, dropS, putS, partsOf, fillS, fieldOf, nthA, negIf, nilq, nilB, eqS, eqF, eqS1, andP, kin, slcS, strOk, plusA, bndHi, leN, optG, roH, roL, initT, exOk, exAll, wrAddr, Nat.reduceAdd, Nat.reduceSub, Nat.reduceMul, Int.reduceToNat, List.append_nil, List.nil_append, List.cons_append, eqT, idxT, cat, cpy, ite_int, ite_bool, ite_seg, ite_segs, ite_nil, ite_twice, Int.toNat_natCast, app, addBs]))); with_reducible refine hK _ ?_; clear hK K)
    | (refine run_cond rfl (fun hc => ?_) (fun hc => ?_) <;> try (simp only [*, Bool.true_eq_false, Bool.false_eq_true, Bool.not_true, Bool.not_false, Bool.true_or, Bool.or_true, Bool.false_or, Bool.or_false, Bool.false_and, Bool.and_false, bne_self_eq_false, beq_self_eq_true] at hc; done))
    | refine run_block ?_
    | refine run_ret ?_
    | refine run_nil ?_
    | refine run_exit ?_
    | refine blk_normal ?_
    | refine blk_ret ?_
    | refine blk_here ?_
    | refine blk_there rfl ?_
    | refine loop_exit ?_
    | refine loop_ret ?_
    | refine un_exit ?_
    | refine un_ret ?_
    | refine unE_exit ?_
    | refine unE_ret ?_
    | refine un_normal ?_)
      (refine run_regionL fun K hK => ?_; (try (simp (maxSteps := 10000000) only [microL, C17r0, C17r1, C17r2, C17r3, C17r4, C17r5, C17r6, C17r7, C17r8, C17r9, C17r10, C17r11, C17r12, C17r13, C17r14, C17r15, C17r16, C17r17, C17r18, C17r19, C17r20, C17r21, C17r22, C17r23, C17r24, C17r25, C17r26, C17r27, C17r28, C17r29, C17r30, C17r31, C17r32, C17r33, C17r34, C17r35, C17r36, C17r37, C17r38, rwp_nil, rwp_cons, rwpK_app, aop, gpath, St.get, slotAt, sfx, eqP, segsOf, St.put, addBlk, getB, setB, delB, ld1, ldn, st1, stn, setRow, rowNeed, segAt, nsub, bin, un, eqB, isShift, sameK, arith, shiftR, getsl, selB_or, selB_and, beqb, shed, addN, Nat.beq, Seg.size, sizes, imp, needP, andN, appL, argsOf, ptrsOf, aasOf, cut, takeS, dropS, putS, partsOf, fillS, fieldOf, nthA, negIf, nilq, nilB, eqS, eqF, eqS1, andP, kin, slcS, strOk, plusA, bndHi, leN, optG, roH, roL, initT, exOk, exAll, wrAddr, Nat.reduceAdd, Nat.reduceSub, Nat.reduceMul, Int.reduceToNat, List.append_nil, List.nil_append, List.cons_append, eqT, idxT, cat, cpy, ite_int, ite_bool, ite_seg, ite_segs, ite_nil, ite_twice, Int.toNat_natCast, app, addBs])); (repeat (refine And.intro ?_ ?_; · omega)); refine hK _ (rigSt c wr 0 (fun _ => false) (fun _ => false)) (le_rig c wr 0 _ _ rfl rfl rfl rfl rfl rfl rfl rfl rfl rfl rfl rfl rfl) ?_; clear hK K)
      repeat' (first
    | refine run_seq ?_
    | refine run_skip ?_
    | (refine run_region fun K hK => ?_; (try (simp (maxSteps := 10000000) only [microL, C17r0, C17r1, C17r2, C17r3, C17r4, C17r5, C17r6, C17r7, C17r9, C17r10, C17r11, C17r12, C17r13, C17r14, C17r15, C17r16, C17r17, C17r18, C17r19, C17r20, C17r21, C17r22, C17r23, C17r24, C17r25, C17r26, C17r27, C17r28, C17r29, C17r30, C17r31, C17r32, C17r33, C17r34, C17r35, C17r36, C17r37, C17r38, rwp_nil, rwp_cons, rwpK_app, aop, gpath, St.get, slotAt, sfx, eqP, segsOf, St.put, addBlk, getB, setB, delB, ld1, ldn, st1, stn, setRow, rowNeed, segAt, nsub, bin, un, eqB, isShift, sameK, arith, shiftR, getsl, selB_or, selB_and, beqb, shed, addN, Nat.beq, Seg.size, sizes, imp, needP, andN, appL, argsOf, ptrsOf, aasOf, cut, takeS, dropS, putS, partsOf, fillS, fieldOf, nthA, negIf, nilq, nilB, eqS, eqF, eqS1, andP, kin, slcS, strOk, plusA, bndHi, leN, optG, roH, roL, initT, exOk, exAll, wrAddr, Nat.reduceAdd, Nat.reduceSub, Nat.reduceMul, Int.reduceToNat, List.append_nil, List.nil_append, List.cons_append, eqT, idxT, cat, cpy, ite_int, ite_bool, ite_seg, ite_segs, ite_nil, ite_twice, Int.toNat_natCast, app, addBs])); (repeat (first | (refine And.intro ?_ ?_; · omega) | ((first | (refine call_t _ (con25_at _ _ (by simp [keysLt])) ?_; rintro v H' ⟨rfl, rfl⟩) | refine call_q _ (con25_at _ _ (by simp [keysLt])) ?_ | refine call_g _ (imp_of (con25_at _ _ (by simp [keysLt]))) ?_); simp (maxSteps := 10000000) only [microL, C17r0, C17r1, C17r2, C17r3, C17r4, C17r5, C17r6, C17r7, C17r9, C17r10, C17r11, C17r12, C17r13, C17r14, C17r15, C17r16, C17r17, C17r18, C17r19, C17r20, C17r21, C17r22, C17r23, C17r24, C17r25, C17r26, C17r27, C17r28, C17r29, C17r30, C17r31, C17r32, C17r33, C17r34, C17r35, C17r36, C17r37, C17r38, rwp_nil, rwp_cons, rwpK_app, aop, gpath, St.get, slotAt, sfx, eqP, segsOf, St.put, addBlk, getB, setB, delB, ld1, ldn, st1, stn, setRow, rowNeed, segAt, nsub, bin, un, eqB, isShift, sameK, arith, shiftR, getsl, selB_or, selB_and, beqb, shed, addN, Nat.beq, Seg.size, sizes, imp, needP, andN, appL, argsOf, ptrsOf, aasOf, cut, takeS, dropS, putS, partsOf, fillS, fieldOf, nthA, negIf, nilq, nilB, eqS, eqF, eqS1, andP, kin, slcS, strOk, plusA, bndHi, leN, optG, roH, roL, initT, exOk, exAll, wrAddr, Nat.reduceAdd, Nat.reduceSub, Nat.reduceMul, Int.reduceToNat, List.append_nil, List.nil_append, List.cons_append, eqT, idxT, cat, cpy, ite_int, ite_bool, ite_seg, ite_segs, ite_nil, ite_twice, Int.toNat_natCast, app, addBs]))); with_reducible refine hK _ ?_; clear hK K)
    | (refine run_cond rfl (fun hc => ?_) (fun hc => ?_) <;> try (simp only [*, Bool.true_eq_false, Bool.false_eq_true, Bool.not_true, Bool.not_false, Bool.true_or, Bool.or_true, Bool.false_or, Bool.or_false, Bool.false_and, Bool.and_false, bne_self_eq_false, beq_self_eq_true] at hc; done))
    | refine run_block ?_
    | refine run_ret ?_
    | refine run_nil ?_
    | refine run_exit ?_
    | refine blk_normal ?_
    | refine blk_ret ?_
    | refine blk_here ?_
    | refine blk_there rfl ?_
    | refine loop_exit ?_
    | refine loop_ret ?_
    | refine un_exit ?_
    | refine un_ret ?_
    | refine unE_exit ?_
    | refine unE_ret ?_
    | refine un_normal ?_)
      generalize hT : rightL c c.nops 0 (fun _ => false) (fun _ => false) = T
      have hRT : rightS c = T := by simp only [rightS, hp, hk0, hT, Bool.not_false, Bool.true_and]
      refine run_loop (fun n st => ∃ i set slot, st = rigSt c wr i set slot ∧ n = c.nops - i ∧ i ≤ c.nops ∧ rightL c n i set slot = T) c.nops ⟨0, _, _, rfl, by omega, by omega, hT⟩ ?_
      rintro n st ⟨i, set, slot, rfl, hn, hi, hT⟩
      clear hp
      simp only [rigSt, codeL, opsBk]
      repeat' (first
    | refine run_seq ?_
    | refine run_skip ?_
    | (refine run_region fun K hK => ?_; (try (simp (maxSteps := 10000000) only [microL, hRT, C17r0, C17r1, C17r2, C17r3, C17r4, C17r5, C17r6, C17r7, C17r8, C17r9, C17r10, C17r11, C17r12, C17r13, C17r14, C17r15, C17r16, C17r17, C17r18, C17r19, C17r20, C17r21, C17r22, C17r23, C17r24, C17r25, C17r26, C17r27, C17r28, C17r29, C17r30, C17r31, C17r32, C17r33, C17r34, C17r35, C17r36, C17r37, C17r38, rwp_nil, rwp_cons, rwpK_app, aop, gpath, St.get, slotAt, sfx, eqP, segsOf, St.put, addBlk, getB, setB, delB, ld1, ldn, st1, stn, setRow, rowNeed, segAt, nsub, bin, un, eqB, isShift, sameK, arith, shiftR, getsl, selB_or, selB_and, beqb, shed, addN, Nat.beq, Seg.size, sizes, imp, needP, andN, appL, argsOf, ptrsOf, aasOf, cut, takeS, dropS, putS, partsOf, fillS, fieldOf, nthA, negIf, nilq, nilB, eqS, eqF, eqS1, andP, kin, slcS, strOk, plusA, bndHi, leN, optG, roH, roL, initT, exOk, exAll, wrAddr, Nat.reduceAdd, Nat.reduceSub, Nat.reduceMul, Int.reduceToNat, List.append_nil, List.nil_append, List.cons_append, eqT, idxT, cat, cpy, ite_int, ite_bool, ite_seg, ite_segs, ite_nil, ite_twice, Int.toNat_natCast, app, addBs])); (repeat (first | (refine And.intro ?_ ?_; · (simp only [decide_eq_true_eq] at hc; omega)) | ((first | (refine call_t _ (con24 _ _ _ _) ?_; rintro v H' ⟨rfl, rfl⟩) | refine call_q _ (con24 _ _ _ _) ?_ | refine call_g _ (imp_of (con24 _ _ _ _)) ?_ | (refine call_t _ (con26 _ _) ?_; rintro v H' ⟨rfl, rfl⟩) | refine call_q _ (con26 _ _) ?_ | refine call_g _ (imp_of (con26 _ _)) ?_ | (refine call_t _ (con27 _ _ _) ?_; rintro v H' ⟨rfl, rfl⟩) | refine call_q _ (con27 _ _ _) ?_ | refine call_g _ (imp_of (con27 _ _ _)) ?_); simp (maxSteps := 10000000) only [microL, hRT, C17r0, C17r1, C17r2, C17r3, C17r4, C17r5, C17r6, C17r7, C17r8, C17r9, C17r10, C17r11, C17r12, C17r13, C17r14, C17r15, C17r16, C17r17, C17r18, C17r19, C17r20, C17r21, C17r22, C17r23, C17r24, C17r25, C17r26, C17r27, C17r28, C17r29, C17r30, C17r31, C17r32, C17r33, C17r34, C17r35, C17r36, C17r37, C17r38, rwp_nil, rwp_cons, rwpK_app, aop, gpath, St.get, slotAt, sfx, eqP, segsOf, St.put, addBlk, getB, setB, delB, ld1, ldn, st1, stn, setRow, rowNeed, segAt, nsub, bin, un, eqB, isShift, sameK, arith, shiftR, getsl, selB_or, selB_and, beqb, shed, addN, Nat.beq, Seg.size, sizes, imp, needP, andN, appL, argsOf, ptrsOf, aasOf, cut, takeS, dropS, putS, partsOf, fillS, fieldOf, nthA, negIf, nilq, nilB, eqS, eqF, eqS1, andP, kin, slcS, strOk, plusA, bndHi, leN, optG, roH, roL, initT, exOk, exAll, wrAddr, Nat.reduceAdd, Nat.reduceSub, Nat.reduceMul, Int.reduceToNat, List.append_nil, List.nil_append, List.cons_append, eqT, idxT, cat, cpy, ite_int, ite_bool, ite_seg, ite_segs, ite_nil, ite_twice, Int.toNat_natCast, app, addBs]))); with_reducible refine hK _ ?_; clear hK K)
    | (refine run_cond rfl (fun hc => ?_) (fun hc => ?_) <;> try (simp only [*, Bool.true_eq_false, Bool.false_eq_true, Bool.not_true, Bool.not_false, Bool.true_or, Bool.or_true, Bool.false_or, Bool.or_false, Bool.false_and, Bool.and_false, bne_self_eq_false, beq_self_eq_true] at hc; done))
    | refine run_block ?_
    | refine run_ret ?_
    | refine run_nil ?_
    | refine run_exit ?_
    | refine blk_normal ?_
    | refine blk_ret ?_
    | refine blk_here ?_
    | refine blk_there rfl ?_
    | refine loop_exit ?_
    | refine loop_ret ?_
    | refine un_exit ?_
    | refine un_ret ?_
    | refine unE_exit ?_
    | refine unE_ret ?_
    | refine un_normal ?_)
      · have hA : opA c i (c.ops i) = true := hc
        subst hR
        have hf := rightL_A (set := set) (slot := slot) hA (n := n) (by simp at *; omega)
        exact end_rig c wr false rfl rfl ⟨by rw [hRT, ← hT, hf], rfl⟩
      · have hA : opA c i (c.ops i) = false := hc
        have hkind := opA_facts hA
        have hin : i < c.nops := by simp at *; omega
        have himm := himm i hin
        have hslot := opA_slot hA ⟨by omega, by omega⟩
        have h64 := flag64 hkind.1 hkind.2
        have h128 := flag128 hkind.1 hkind.2
        clear hc
        generalize hm : c.ops i = m at *
        repeat' (first
    | refine run_seq ?_
    | refine run_skip ?_
    | (refine run_region fun K hK => ?_; (try (simp (maxSteps := 10000000) only [microL, shapeB, rowsFit, rowFn, cutD, repl, cast2, cast3, wr01, wr12, wr23, Int.reduceLT, decide_true, decide_false, C17r0, C17r1, C17r2, C17r3, C17r4, C17r5, C17r6, C17r7, C17r8, C17r9, C17r10, C17r11, C17r12, C17r13, C17r14, C17r15, C17r16, C17r17, C17r18, C17r19, C17r20, C17r21, C17r22, C17r23, C17r24, C17r25, C17r26, C17r27, C17r28, C17r29, C17r30, C17r31, C17r32, C17r33, C17r34, C17r35, C17r36, C17r37, C17r38, rwp_nil, rwp_cons, rwpK_app, aop, gpath, St.get, slotAt, sfx, eqP, segsOf, St.put, addBlk, getB, setB, delB, ld1, ldn, st1, stn, setRow, rowNeed, segAt, nsub, bin, un, eqB, isShift, sameK, arith, shiftR, getsl, selB_or, selB_and, beqb, shed, addN, Nat.beq, Seg.size, sizes, imp, needP, andN, appL, argsOf, ptrsOf, aasOf, cut, takeS, dropS, putS, partsOf, fillS, fieldOf, nthA, negIf, nilq, nilB, eqS, eqF, eqS1, andP, kin, slcS, strOk, plusA, bndHi, leN, optG, roH, roL, initT, exOk, exAll, wrAddr, Nat.reduceAdd, Nat.reduceSub, Nat.reduceMul, Int.reduceToNat, List.append_nil, List.nil_append, List.cons_append, eqT, idxT, cat, cpy, ite_int, ite_bool, ite_seg, ite_segs, ite_nil, ite_twice, Int.toNat_natCast, app, addBs])); (repeat (first | (refine And.intro ?_ ?_; · omega) | ((first | (refine call_t _ (con24 _ _ _ _) ?_; rintro v H' ⟨rfl, rfl⟩) | refine call_q _ (con24 _ _ _ _) ?_ | refine call_g _ (imp_of (con24 _ _ _ _)) ?_ | (refine call_t _ (con26 _ _) ?_; rintro v H' ⟨rfl, rfl⟩) | refine call_q _ (con26 _ _) ?_ | refine call_g _ (imp_of (con26 _ _)) ?_ | (refine call_t _ (con27 _ _ _) ?_; rintro v H' ⟨rfl, rfl⟩) | refine call_q _ (con27 _ _ _) ?_ | refine call_g _ (imp_of (con27 _ _ _)) ?_); simp (maxSteps := 10000000) only [microL, shapeB, rowsFit, rowFn, cutD, repl, cast2, cast3, wr01, wr12, wr23, Int.reduceLT, decide_true, decide_false, C17r0, C17r1, C17r2, C17r3, C17r4, C17r5, C17r6, C17r7, C17r8, C17r9, C17r10, C17r11, C17r12, C17r13, C17r14, C17r15, C17r16, C17r17, C17r18, C17r19, C17r20, C17r21, C17r22, C17r23, C17r24, C17r25, C17r26, C17r27, C17r28, C17r29, C17r30, C17r31, C17r32, C17r33, C17r34, C17r35, C17r36, C17r37, C17r38, rwp_nil, rwp_cons, rwpK_app, aop, gpath, St.get, slotAt, sfx, eqP, segsOf, St.put, addBlk, getB, setB, delB, ld1, ldn, st1, stn, setRow, rowNeed, segAt, nsub, bin, un, eqB, isShift, sameK, arith, shiftR, getsl, selB_or, selB_and, beqb, shed, addN, Nat.beq, Seg.size, sizes, imp, needP, andN, appL, argsOf, ptrsOf, aasOf, cut, takeS, dropS, putS, partsOf, fillS, fieldOf, nthA, negIf, nilq, nilB, eqS, eqF, eqS1, andP, kin, slcS, strOk, plusA, bndHi, leN, optG, roH, roL, initT, exOk, exAll, wrAddr, Nat.reduceAdd, Nat.reduceSub, Nat.reduceMul, Int.reduceToNat, List.append_nil, List.nil_append, List.cons_append, eqT, idxT, cat, cpy, ite_int, ite_bool, ite_seg, ite_segs, ite_nil, ite_twice, Int.toNat_natCast, app, addBs]))); with_reducible refine hK _ ?_; clear hK K)
    | (refine run_cond rfl (fun hc => ?_) (fun hc => ?_) <;> try (simp only [*, Bool.true_eq_false, Bool.false_eq_true, Bool.not_true, Bool.not_false, Bool.true_or, Bool.or_true, Bool.false_or, Bool.or_false, Bool.false_and, Bool.and_false, bne_self_eq_false, beq_self_eq_true] at hc; done))
    | refine run_block ?_
    | refine run_ret ?_
    | refine run_nil ?_
    | refine run_exit ?_
    | refine blk_normal ?_
    | refine blk_ret ?_
    | refine blk_here ?_
    | refine blk_there rfl ?_
    | refine loop_exit ?_
    | refine loop_ret ?_
    | refine un_exit ?_
    | refine un_ret ?_
    | refine unE_exit ?_
    | refine unE_ret ?_
    | refine un_normal ?_)
        refine run_rounds 2 ?_
        repeat' (first
    | refine run_seq ?_
    | refine run_skip ?_
    | (refine run_region fun K hK => ?_; (try (simp (maxSteps := 10000000) only [microL, shapeB, rowsFit, rowFn, cutD, repl, cast2, cast3, wr01, wr12, wr23, Int.reduceLT, decide_true, decide_false, C17r0, C17r1, C17r2, C17r3, C17r4, C17r5, C17r6, C17r7, C17r8, C17r9, C17r10, C17r11, C17r12, C17r13, C17r14, C17r15, C17r16, C17r17, C17r18, C17r19, C17r20, C17r21, C17r22, C17r23, C17r24, C17r25, C17r26, C17r27, C17r28, C17r29, C17r30, C17r31, C17r32, C17r33, C17r34, C17r35, C17r36, C17r37, C17r38, rwp_nil, rwp_cons, rwpK_app, aop, gpath, St.get, slotAt, sfx, eqP, segsOf, St.put, addBlk, getB, setB, delB, ld1, ldn, st1, stn, setRow, rowNeed, segAt, nsub, bin, un, eqB, isShift, sameK, arith, shiftR, getsl, selB_or, selB_and, beqb, shed, addN, Nat.beq, Seg.size, sizes, imp, needP, andN, appL, argsOf, ptrsOf, aasOf, cut, takeS, dropS, putS, partsOf, fillS, fieldOf, nthA, negIf, nilq, nilB, eqS, eqF, eqS1, andP, kin, slcS, strOk, plusA, bndHi, leN, optG, roH, roL, initT, exOk, exAll, wrAddr, Nat.reduceAdd, Nat.reduceSub, Nat.reduceMul, Int.reduceToNat, List.append_nil, List.nil_append, List.cons_append, eqT, idxT, cat, cpy, ite_int, ite_bool, ite_seg, ite_segs, ite_nil, ite_twice, Int.toNat_natCast, app, addBs])); (repeat (first | (refine And.intro ?_ ?_; · (first | omega | decide)) | ((first | (refine call_t _ (con24 _ _ _ _) ?_; rintro v H' ⟨rfl, rfl⟩) | refine call_q _ (con24 _ _ _ _) ?_ | refine call_g _ (imp_of (con24 _ _ _ _)) ?_ | (refine call_t _ (con26 _ _) ?_; rintro v H' ⟨rfl, rfl⟩) | refine call_q _ (con26 _ _) ?_ | refine call_g _ (imp_of (con26 _ _)) ?_ | (refine call_t _ (con27 _ _ _) ?_; rintro v H' ⟨rfl, rfl⟩) | refine call_q _ (con27 _ _ _) ?_ | refine call_g _ (imp_of (con27 _ _ _)) ?_); simp (maxSteps := 10000000) only [microL, shapeB, rowsFit, rowFn, cutD, repl, cast2, cast3, wr01, wr12, wr23, Int.reduceLT, decide_true, decide_false, C17r0, C17r1, C17r2, C17r3, C17r4, C17r5, C17r6, C17r7, C17r8, C17r9, C17r10, C17r11, C17r12, C17r13, C17r14, C17r15, C17r16, C17r17, C17r18, C17r19, C17r20, C17r21, C17r22, C17r23, C17r24, C17r25, C17r26, C17r27, C17r28, C17r29, C17r30, C17r31, C17r32, C17r33, C17r34, C17r35, C17r36, C17r37, C17r38, rwp_nil, rwp_cons, rwpK_app, aop, gpath, St.get, slotAt, sfx, eqP, segsOf, St.put, addBlk, getB, setB, delB, ld1, ldn, st1, stn, setRow, rowNeed, segAt, nsub, bin, un, eqB, isShift, sameK, arith, shiftR, getsl, selB_or, selB_and, beqb, shed, addN, Nat.beq, Seg.size, sizes, imp, needP, andN, appL, argsOf, ptrsOf, aasOf, cut, takeS, dropS, putS, partsOf, fillS, fieldOf, nthA, negIf, nilq, nilB, eqS, eqF, eqS1, andP, kin, slcS, strOk, plusA, bndHi, leN, optG, roH, roL, initT, exOk, exAll, wrAddr, Nat.reduceAdd, Nat.reduceSub, Nat.reduceMul, Int.reduceToNat, List.append_nil, List.nil_append, List.cons_append, eqT, idxT, cat, cpy, ite_int, ite_bool, ite_seg, ite_segs, ite_nil, ite_twice, Int.toNat_natCast, app, addBs]))); with_reducible refine hK _ ?_; clear hK K)
    | (refine run_cond rfl (fun hc => ?_) (fun hc => ?_) <;> try (simp only [*, Bool.true_eq_false, Bool.false_eq_true, Bool.not_true, Bool.not_false, Bool.true_or, Bool.or_true, Bool.false_or, Bool.or_false, Bool.false_and, Bool.and_false, bne_self_eq_false, beq_self_eq_true] at hc; done))
    | refine run_block ?_
    | refine run_ret ?_
    | refine run_nil ?_
    | refine run_exit ?_
    | refine blk_normal ?_
    | refine blk_ret ?_
    | refine blk_here ?_
    | refine blk_there rfl ?_
    | refine loop_exit ?_
    | refine loop_ret ?_
    | refine un_exit ?_
    | refine un_ret ?_
    | refine unE_exit ?_
    | refine unE_ret ?_
    | refine un_normal ?_)
        all_goals try (
          have hB : opB m (fieldT m.kind.toNat) set slot = true := by
            simp only [opB, absent, regBad, btw, andI, hc, Bool.true_or, Bool.or_true]
          subst hm hR
          have hf := rightL_B hB (n := n) (by omega)
          exact end_rig c wr false rfl rfl ⟨by rw [hRT, ← hT, hf], rfl⟩)
        refine run_rounds 3 ?_
        repeat' (first
    | refine run_seq ?_
    | refine run_skip ?_
    | (refine run_region fun K hK => ?_; (try (simp (maxSteps := 10000000) only [microL, shapeB, rowsFit, rowFn, cutD, repl, cast2, cast3, wr01, wr12, wr23, Int.reduceLT, decide_true, decide_false, C17r0, C17r1, C17r2, C17r3, C17r4, C17r5, C17r6, C17r7, C17r8, C17r9, C17r10, C17r11, C17r12, C17r13, C17r14, C17r15, C17r16, C17r17, C17r18, C17r19, C17r20, C17r21, C17r22, C17r23, C17r24, C17r25, C17r26, C17r27, C17r28, C17r29, C17r30, C17r31, C17r32, C17r33, C17r34, C17r35, C17r36, C17r37, C17r38, rwp_nil, rwp_cons, rwpK_app, aop, gpath, St.get, slotAt, sfx, eqP, segsOf, St.put, addBlk, getB, setB, delB, ld1, ldn, st1, stn, setRow, rowNeed, segAt, nsub, bin, un, eqB, isShift, sameK, arith, shiftR, getsl, selB_or, selB_and, beqb, shed, addN, Nat.beq, Seg.size, sizes, imp, needP, andN, appL, argsOf, ptrsOf, aasOf, cut, takeS, dropS, putS, partsOf, fillS, fieldOf, nthA, negIf, nilq, nilB, eqS, eqF, eqS1, andP, kin, slcS, strOk, plusA, bndHi, leN, optG, roH, roL, initT, exOk, exAll, wrAddr, Nat.reduceAdd, Nat.reduceSub, Nat.reduceMul, Int.reduceToNat, List.append_nil, List.nil_append, List.cons_append, eqT, idxT, cat, cpy, ite_int, ite_bool, ite_seg, ite_segs, ite_nil, ite_twice, Int.toNat_natCast, app, addBs])); (repeat (first | (refine And.intro ?_ ?_; · (first | omega | decide | (intros; simp at hc; omega) | (intros; simp at *; omega))) | ((first | (refine call_t _ (con24 _ _ _ _) ?_; rintro v H' ⟨rfl, rfl⟩) | refine call_q _ (con24 _ _ _ _) ?_ | refine call_g _ (imp_of (con24 _ _ _ _)) ?_ | (refine call_t _ (con26 _ _) ?_; rintro v H' ⟨rfl, rfl⟩) | refine call_q _ (con26 _ _) ?_ | refine call_g _ (imp_of (con26 _ _)) ?_ | (refine call_t _ (con27 _ _ _) ?_; rintro v H' ⟨rfl, rfl⟩) | refine call_q _ (con27 _ _ _) ?_ | refine call_g _ (imp_of (con27 _ _ _)) ?_); simp (maxSteps := 10000000) only [microL, shapeB, rowsFit, rowFn, cutD, repl, cast2, cast3, wr01, wr12, wr23, Int.reduceLT, decide_true, decide_false, C17r0, C17r1, C17r2, C17r3, C17r4, C17r5, C17r6, C17r7, C17r8, C17r9, C17r10, C17r11, C17r12, C17r13, C17r14, C17r15, C17r16, C17r17, C17r18, C17r19, C17r20, C17r21, C17r22, C17r23, C17r24, C17r25, C17r26, C17r27, C17r28, C17r29, C17r30, C17r31, C17r32, C17r33, C17r34, C17r35, C17r36, C17r37, C17r38, rwp_nil, rwp_cons, rwpK_app, aop, gpath, St.get, slotAt, sfx, eqP, segsOf, St.put, addBlk, getB, setB, delB, ld1, ldn, st1, stn, setRow, rowNeed, segAt, nsub, bin, un, eqB, isShift, sameK, arith, shiftR, getsl, selB_or, selB_and, beqb, shed, addN, Nat.beq, Seg.size, sizes, imp, needP, andN, appL, argsOf, ptrsOf, aasOf, cut, takeS, dropS, putS, partsOf, fillS, fieldOf, nthA, negIf, nilq, nilB, eqS, eqF, eqS1, andP, kin, slcS, strOk, plusA, bndHi, leN, optG, roH, roL, initT, exOk, exAll, wrAddr, Nat.reduceAdd, Nat.reduceSub, Nat.reduceMul, Int.reduceToNat, List.append_nil, List.nil_append, List.cons_append, eqT, idxT, cat, cpy, ite_int, ite_bool, ite_seg, ite_segs, ite_nil, ite_twice, Int.toNat_natCast, app, addBs]))); with_reducible refine hK _ ?_; clear hK K)
    | (refine run_cond rfl (fun hc => ?_) (fun hc => ?_) <;> try (simp only [*, Bool.true_eq_false, Bool.false_eq_true, Bool.not_true, Bool.not_false, Bool.true_or, Bool.or_true, Bool.false_or, Bool.or_false, Bool.false_and, Bool.and_false, bne_self_eq_false, beq_self_eq_true] at hc; done))
    | refine run_block ?_
    | refine run_ret ?_
    | refine run_nil ?_
    | refine run_exit ?_
    | refine blk_normal ?_
    | refine blk_ret ?_
    | refine blk_here ?_
    | refine blk_there rfl ?_
    | refine loop_exit ?_
    | refine loop_ret ?_
    | refine un_exit ?_
    | refine un_ret ?_
    | refine unE_exit ?_
    | refine unE_ret ?_
    | refine un_normal ?_)
        all_goals try (
          have hB : opB m (fieldT m.kind.toNat) set slot = true := by
            simp only [opB, absent, regBad, btw, andI, hc, Bool.true_or, Bool.or_true]
          subst hm hR
          have hf := rightL_B hB (n := n) (by omega)
          exact end_rig c wr false rfl rfl ⟨by rw [hRT, ← hT, hf], rfl⟩)
        have hd : 0 ≤ m.d ∧ m.d ≤ 7 := by
          have := ‹(!(decide (m.d ≥ 0) && decide (m.d ≤ 7))) = false›
          simp at this
          omega
        simp only [andI] at h64 h128
        repeat' (first
    | refine run_seq ?_
    | refine run_skip ?_
    | (refine run_region fun K hK => ?_; (try (simp (maxSteps := 10000000) only [microL, shapeB, rowsFit, rowFn, cutD, repl, cast2, cast3, wr01, wr12, wr23, Int.reduceLT, decide_true, decide_false, C17r0, C17r1, C17r2, C17r3, C17r4, C17r5, C17r6, C17r7, C17r8, C17r9, C17r10, C17r11, C17r12, C17r13, C17r14, C17r15, C17r16, C17r17, C17r18, C17r19, C17r20, C17r21, C17r22, C17r23, C17r24, C17r25, C17r26, C17r27, C17r28, C17r29, C17r30, C17r31, C17r32, C17r33, C17r34, C17r35, C17r36, C17r37, C17r38, rwp_nil, rwp_cons, rwpK_app, aop, gpath, St.get, slotAt, sfx, eqP, segsOf, St.put, addBlk, getB, setB, delB, ld1, ldn, st1, stn, setRow, rowNeed, segAt, nsub, bin, un, eqB, isShift, sameK, arith, shiftR, getsl, selB_or, selB_and, beqb, shed, addN, Nat.beq, Seg.size, sizes, imp, needP, andN, appL, argsOf, ptrsOf, aasOf, cut, takeS, dropS, putS, partsOf, fillS, fieldOf, nthA, negIf, nilq, nilB, eqS, eqF, eqS1, andP, kin, slcS, strOk, plusA, bndHi, leN, optG, roH, roL, initT, exOk, exAll, wrAddr, Nat.reduceAdd, Nat.reduceSub, Nat.reduceMul, Int.reduceToNat, List.append_nil, List.nil_append, List.cons_append, eqT, idxT, cat, cpy, ite_int, ite_bool, ite_seg, ite_segs, ite_nil, ite_twice, Int.toNat_natCast, app, addBs])); (repeat (first | (refine And.intro ?_ ?_; · (first | (intro hx; have := hslot (.inl (h64 hx)); omega) | (have := hslot (.inr (h128 hc)); omega) | omega)) | ((first | (refine call_t _ (con24 _ _ _ _) ?_; rintro v H' ⟨rfl, rfl⟩) | refine call_q _ (con24 _ _ _ _) ?_ | refine call_g _ (imp_of (con24 _ _ _ _)) ?_); simp (maxSteps := 10000000) only [microL, shapeB, rowsFit, rowFn, cutD, repl, cast2, cast3, wr01, wr12, wr23, Int.reduceLT, decide_true, decide_false, C17r0, C17r1, C17r2, C17r3, C17r4, C17r5, C17r6, C17r7, C17r8, C17r9, C17r10, C17r11, C17r12, C17r13, C17r14, C17r15, C17r16, C17r17, C17r18, C17r19, C17r20, C17r21, C17r22, C17r23, C17r24, C17r25, C17r26, C17r27, C17r28, C17r29, C17r30, C17r31, C17r32, C17r33, C17r34, C17r35, C17r36, C17r37, C17r38, rwp_nil, rwp_cons, rwpK_app, aop, gpath, St.get, slotAt, sfx, eqP, segsOf, St.put, addBlk, getB, setB, delB, ld1, ldn, st1, stn, setRow, rowNeed, segAt, nsub, bin, un, eqB, isShift, sameK, arith, shiftR, getsl, selB_or, selB_and, beqb, shed, addN, Nat.beq, Seg.size, sizes, imp, needP, andN, appL, argsOf, ptrsOf, aasOf, cut, takeS, dropS, putS, partsOf, fillS, fieldOf, nthA, negIf, nilq, nilB, eqS, eqF, eqS1, andP, kin, slcS, strOk, plusA, bndHi, leN, optG, roH, roL, initT, exOk, exAll, wrAddr, Nat.reduceAdd, Nat.reduceSub, Nat.reduceMul, Int.reduceToNat, List.append_nil, List.nil_append, List.cons_append, eqT, idxT, cat, cpy, ite_int, ite_bool, ite_seg, ite_segs, ite_nil, ite_twice, Int.toNat_natCast, app, addBs]))); with_reducible refine hK _ ?_; clear hK K)
    | (refine run_cond rfl (fun hc => ?_) (fun hc => ?_) <;> try (simp only [*, Bool.true_eq_false, Bool.false_eq_true, Bool.not_true, Bool.not_false, Bool.true_or, Bool.or_true, Bool.false_or, Bool.or_false, Bool.false_and, Bool.and_false, bne_self_eq_false, beq_self_eq_true] at hc; done))
    | refine run_block ?_
    | refine run_ret ?_
    | refine run_nil ?_
    | refine run_exit ?_
    | refine blk_normal ?_
    | refine blk_ret ?_
    | refine blk_here ?_
    | refine blk_there rfl ?_
    | refine loop_exit ?_
    | refine loop_ret ?_
    | refine un_exit ?_
    | refine un_ret ?_
    | refine unE_exit ?_
    | refine unE_ret ?_
    | refine un_normal ?_)
        · have hB : opB m (fieldT m.kind.toNat) set slot = true := by
            simp only [opB, absent, regBad, btw, andI, hc, Bool.true_or, Bool.or_true]
          subst hm hR
          have hf := rightL_B hB (n := n) (by omega)
          exact end_rig c wr false rfl rfl ⟨by rw [hRT, ← hT, hf], rfl⟩
        all_goals
          have hB : opB m (fieldT m.kind.toNat) set slot = false := by
            (simp only [opB, absent, regBad, btw, andI, *, Bool.or_self]) <;> simp
          rename_i hc128
          have hw : IntKind.i64.wrap ((i : Int) + 1) = ((i + 1 : Nat) : Int) := by rw [IntKind.wrap_i64]; omega
          refine loop_normal (n - 1) (rigSt c wr (i + 1) (setN set (fieldT m.kind.toNat) m) (slotN slot (fieldT m.kind.toNat) m)) (by omega) (le_rig c wr (i + 1) _ _ ?_ ?_ rfl rfl rfl ?_ rfl rfl rfl rfl rfl rfl rfl) ⟨i + 1, _, _, rfl, by omega, by omega, ?_⟩
          · simp only [slotN, andI, hc128, if_true, if_false, Bool.false_eq_true, reduceIte]; rfl
          · simp only [setN, andI, hc, if_true, if_false, Bool.false_eq_true, reduceIte]; rfl
          · rw [← hw]; rfl
          · subst hm
            have := rightL_step (n := n - 1) (set := set) (slot := slot) hA hB
            rw [← this, ← hT]
            congr 1
            omega
      · have hni : n = 0 := by simp at hc; omega
        subst hni hR
        exact end_rig c wr true rfl rfl ⟨by rw [hRT, ← hT]; rfl, rfl⟩
end Go.Proofs.Yteikpddilabppaa
