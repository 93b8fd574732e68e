/- code: the laws' arguments opened: an Insn's cells are its numbers. -/
import Derived.Test.YteikpddilabppaaGreatRWa
import Derived.Test.YteikpddilabppaaGreatRAm23
import Derived.ProofKit
namespace Go.Proofs.YteikpddilabppaaGreatR
open Go.AM Go.ChangeShapes Go.WideShapes Go.ChangeAt Go.RowKit
set_option maxRecDepth 100000
set_option linter.unusedVariables false
theorem ownZ : ownKnob Tryz.prog.godebug = none := by kernel_rfl
theorem laidZ : laidOutB Tryz.prog = true := by kernel_rfl
def kInsn : List CK := [.int .i64, .int .i64, .int .i64, .int .i64, .int .i64, .int .i64, .int .i64, .int .i64, .int .i64, .int .i64, .int .i64, .int .i64, .bool, .bool, .bool, .bool]
theorem kInsn_ok : kindsT Tryz.prog 5 23 = some kInsn := by kernel_rfl
def insnOf (cs : List Value) : InsnS := ⟨intAt cs 0, intAt cs 1, intAt cs 2, intAt cs 3, intAt cs 4, intAt cs 5, intAt cs 6, intAt cs 7, intAt cs 8, intAt cs 9, intAt cs 10, intAt cs 11, boolAt cs 12, boolAt cs 13, boolAt cs 14, boolAt cs 15⟩
theorem insn_gen (cs : List Value) : flat (insnL (insnOf cs)) = gen 0 cs kInsn 0 := rfl
theorem i64_wf {n : Int} (h : (Lit.int .i64 n).wf = true) : -9223372036854775808 ≤ n ∧ n < 9223372036854775808 := by
  simp only [Lit.wf, Bool.and_eq_true, decide_eq_true_eq] at h
  have h1 : -9223372036854775808 ≤ n := h.1
  have h2 : n ≤ 9223372036854775807 := h.2
  omega
theorem u32_wf {n : Int} (h : (Lit.int .u32 n).wf = true) : 0 ≤ n ∧ n < 4294967296 := by
  simp only [Lit.wf, Bool.and_eq_true, decide_eq_true_eq] at h
  have h1 : 0 ≤ n := h.1
  have h2 : n ≤ 4294967295 := h.2
  omega
/-- All integers of an Insn are in range. -/
def allI (x : InsnS) : Prop := ∀ n, n ∈ [x.op, x.sub, x.rd, x.rn, x.rm, x.ra, x.imm, x.imm2, x.amount, x.shift, x.cond, x.sys] → -9223372036854775808 ≤ n ∧ n < 9223372036854775808
theorem insn_arg {H : Type} {enc : TypeId × Value → H} {W : World} {v : Value} {d : DataW H} {p : List MemPlace} {φ : Emb} (o : Value.okWide Tryz.prog W .any 0 23 v) (h : DataW.Trod enc Tryz.prog W 0 (fun _ => true) true 23 v d p) : ∃ x : InsnS, relA φ (.agg (insnL x)) v ∧ allI x := by
  obtain ⟨cs, rfl, _⟩ := okWide_struct Tryz.underlying23 o
  obtain ⟨f, h⟩ := h
  have q := kinds_ok (spare := fun _ => true) (held := true) 5 23 kInsn cs.toList kInsn_ok ⟨f, _, h⟩
  refine ⟨insnOf cs.toList, ⟨cs, rfl, ?_⟩, ?_⟩
  · rw [insn_gen]
    have := noSl_rel (φ := φ) (id := 0) kInsn 0 rfl (by simpa using q)
    simpa using this
  · intro n hn
    simp only [insnOf, List.mem_cons, List.not_mem_nil, or_false] at hn
    rcases hn with rfl | rfl | rfl | rfl | rfl | rfl | rfl | rfl | rfl | rfl | rfl | rfl
    · exact i64_wf (int_wf q (i := 0) (k := .i64) rfl)
    · exact i64_wf (int_wf q (i := 1) (k := .i64) rfl)
    · exact i64_wf (int_wf q (i := 2) (k := .i64) rfl)
    · exact i64_wf (int_wf q (i := 3) (k := .i64) rfl)
    · exact i64_wf (int_wf q (i := 4) (k := .i64) rfl)
    · exact i64_wf (int_wf q (i := 5) (k := .i64) rfl)
    · exact i64_wf (int_wf q (i := 6) (k := .i64) rfl)
    · exact i64_wf (int_wf q (i := 7) (k := .i64) rfl)
    · exact i64_wf (int_wf q (i := 8) (k := .i64) rfl)
    · exact i64_wf (int_wf q (i := 9) (k := .i64) rfl)
    · exact i64_wf (int_wf q (i := 10) (k := .i64) rfl)
    · exact i64_wf (int_wf q (i := 11) (k := .i64) rfl)
theorem int_arg {H : Type} {enc : TypeId × Value → H} {W : World} {v : Value} {d : DataW H} {p : List MemPlace} {φ : Emb} (o : Value.okWide Tryz.prog W .any 0 3 v) (h : DataW.Trod enc Tryz.prog W 0 (fun _ => true) true 3 v d p) : ∃ n : Int, relA φ (.c (.int .i64 n)) v ∧ -9223372036854775808 ≤ n ∧ n < 9223372036854775808 := by
  obtain ⟨n, rfl⟩ := okWide_int Tryz.underlying3 o
  obtain ⟨f, h⟩ := h
  have q := kinds_ok (spare := fun _ => true) (held := true) 5 3 [.int .i64] [.int .i64 n] (by kernel_rfl) ⟨f, _, h⟩
  exact ⟨n, rfl, i64_wf (int_wf q (i := 0) (k := .i64) rfl)⟩
theorem u32_arg {H : Type} {enc : TypeId × Value → H} {W : World} {v : Value} {d : DataW H} {p : List MemPlace} {φ : Emb} (o : Value.okWide Tryz.prog W .any 0 25 v) (h : DataW.Trod enc Tryz.prog W 0 (fun _ => true) true 25 v d p) : ∃ n : Int, relA φ (.c (.int .u32 n)) v ∧ 0 ≤ n ∧ n < 4294967296 := by
  obtain ⟨n, rfl⟩ := okWide_int Tryz.underlying25 o
  obtain ⟨f, h⟩ := h
  have q := kinds_ok (spare := fun _ => true) (held := true) 5 25 [.int .u32] [.int .u32 n] (by kernel_rfl) ⟨f, _, h⟩
  exact ⟨n, rfl, u32_wf (int_wf q (i := 0) (k := .u32) rfl)⟩
def noE : Emb := fun _ => none
theorem no_heap (W : World) : HRel noE ⟨0, []⟩ W :=
  ⟨fun i B p h => (by cases h), fun i j B C p q h => (by cases h), fun _ _ => rfl, fun i p h => (by cases h)⟩
def zeros : List CK → List Value
  | [] => []
  | .bool :: K => .bool false :: zeros K
  | .int k :: K => .int k 0 :: zeros K
  | .slice _ :: K => .slice none 0 0 :: zeros K
end Go.Proofs.YteikpddilabppaaGreatR
