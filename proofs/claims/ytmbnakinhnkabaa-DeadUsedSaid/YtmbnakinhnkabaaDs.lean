/- dead: a block as an argument. -/
import Derived.Test.YtmbnakinhnkabaaRows
import Derived.Test.YtmbnakinhnkabaaDr
import Derived.Test.YtmbnakinhnkabaaAm23
import Derived.ProofKit
namespace Go.Proofs.Ytmbnakinhnkabaa
open Go.AM Go.ChangeShapes Go.WideShapes Go.ChangeAt Go.RowKit
set_option maxRecDepth 100000
set_option linter.unusedSimpArgs false
set_option linter.unusedVariables false
theorem own19 : ownKnob Try.prog.godebug = none := by kernel_rfl
theorem laidOut19 : laidOutB Try.prog = true := by kernel_rfl
def kBlk : List CK := [.int .u64, .int .i64, .int .i64, .slice 39]
def kOp : List CK := [.int .i64, .int .i64, .int .i64, .int .i64, .int .i64, .int .u64]
theorem kBlk_ok : kindsT Try.prog 5 25 = some kBlk := by kernel_rfl
theorem kOp_ok : kindsT Try.prog 5 39 = some kOp := by kernel_rfl
theorem cells39 : Try.prog.cellsOf 39 = 6 := by kernel_rfl
def opOf (cs : List Value) : OpS := ⟨intAt cs 0, intAt cs 1, intAt cs 2, intAt cs 3, intAt cs 4, intAt cs 5⟩
def blkOf (w : World) (cs : List Value) : BlkS := ⟨intAt cs 0, intAt cs 1, intAt cs 2, lenAt cs 3, fun i => opOf (rowsOf w (valAt cs 3) 6 i)⟩
theorem op_gen (cs : List Value) : flat (opL (opOf cs)) = gen 0 cs kOp 0 := rfl
theorem blk_gen (w : World) (cs : List Value) : flat (blkL (blkOf w cs) 0) = gen 0 cs kBlk 0 := rfl
/-- An operation's numbers are in range. -/
structure OpWf (o : OpS) : Prop where
  kind : -9223372036854775808 ≤ o.kind ∧ o.kind ≤ 9223372036854775807
  r : -9223372036854775808 ≤ o.r ∧ o.r ≤ 9223372036854775807
  a : -9223372036854775808 ≤ o.a ∧ o.a ≤ 9223372036854775807
  b : -9223372036854775808 ≤ o.b ∧ o.b ≤ 9223372036854775807
  order : -9223372036854775808 ≤ o.order ∧ o.order ≤ 9223372036854775807
  imm : 0 ≤ o.imm ∧ o.imm ≤ 18446744073709551615
structure BlkWf (b : BlkS) : Prop where
  pc : 0 ≤ b.pc ∧ b.pc ≤ 18446744073709551615
  words : -9223372036854775808 ≤ b.words ∧ b.words ≤ 9223372036854775807
  el : -9223372036854775808 ≤ b.el ∧ b.el ≤ 9223372036854775807
  ops : ∀ i, i < b.n → OpWf (b.f i)
theorem wf_i64 {n : Int} (h : (Lit.int .i64 n).wf = true) : -9223372036854775808 ≤ n ∧ n ≤ 9223372036854775807 := by
  simp only [Lit.wf, Bool.and_eq_true, decide_eq_true_eq] at h
  exact ⟨h.1, h.2⟩
theorem wf_u64 {n : Int} (h : (Lit.int .u64 n).wf = true) : 0 ≤ n ∧ n ≤ 18446744073709551615 := by
  simp only [Lit.wf, Bool.and_eq_true, decide_eq_true_eq] at h
  exact ⟨h.1, h.2⟩
/-- What is known of an argument that is a Block; its operations stand in block 'id'. -/
theorem blk_arg {H : Type} {enc : TypeId × Value → H} {W : World} {v0 : Value} {d0 : DataW H} {p0 : List MemPlace}
    (o0 : Value.okWide Try.prog W .any 0 25 v0) (h0 : DataW.Trod enc Try.prog W 0 (fun _ => true) true 25 v0 d0 p0) :
    ∃ (b : BlkS) (q : Option AM.Place), BlkWf b ∧ (∀ φ : Emb, φ 0 = q → relA φ (.agg (blkL b 0)) v0) ∧ (∀ (φ : Emb) (p : AM.Place), q = some p → BRel φ (opsB b.n b.f) p W) ∧ ∀ p : AM.Place, q = some p → p.blk < W.heap.size := by
  obtain ⟨cs0, rfl, _⟩ := okWide_struct Try.underlying25 o0
  obtain ⟨f0, h0⟩ := h0
  have q0 := kinds_ok (spare := fun _ => true) (held := true) 5 25 kBlk cs0.toList kBlk_ok ⟨f0, _, h0⟩
  obtain ⟨x0, hx0, k0⟩ := q0.get (i := 3) (a := .slice 39) rfl
  have hv0 : valAt cs0.toList 3 = x0 := by simp only [valAt, hx0]
  have hl0 : lenAt cs0.toList 3 = lenV x0 := by simp only [lenAt, hx0]
  have s0 : ∀ a len cap, x0 = .slice (some a) len cap → a.spot = none ∧ a.block < W.heap.size := fun a len cap e => spot_agg Try.underlying25 o0 (i := 3) (by rw [← e]; exact hx0)
  refine ⟨blkOf W cs0.toList, placeOf x0 6, ⟨?_, ?_, ?_, fun i hi => ?_⟩, fun φ hφ => ⟨cs0, rfl, ?_⟩, fun φ p hp => ?_, fun p hp => place_lt (fun a len cap e => (s0 a len cap e).2) hp⟩
  · exact wf_u64 (int_wf q0 (i := 0) (k := .u64) rfl)
  · exact wf_i64 (int_wf q0 (i := 1) (k := .i64) rfl)
  · exact wf_i64 (int_wf q0 (i := 2) (k := .i64) rfl)
  · have hi' : i < lenV x0 := by rw [← hl0]; exact hi
    show OpWf (opOf (rowsOf W (valAt cs0.toList 3) 6 i))
    rw [hv0]
    rcases k0 with rfl | ⟨a, len, cap, rfl, _, _, hrow⟩
    · exact absurd hi' (Nat.not_lt_zero _)
    · obtain ⟨cs, hcs, hT⟩ := hrow i hi'
      rw [cells39] at hcs
      have hr : rowsOf W (.slice (some a) len cap) 6 i = cs := by simp only [rowsOf, hcs]
      rw [hr]
      have hk := kinds_ok 5 39 kOp cs kOp_ok hT
      exact ⟨wf_i64 (int_wf hk (i := 0) (k := .i64) rfl), wf_i64 (int_wf hk (i := 1) (k := .i64) rfl), wf_i64 (int_wf hk (i := 2) (k := .i64) rfl), wf_i64 (int_wf hk (i := 3) (k := .i64) rfl), wf_i64 (int_wf hk (i := 4) (k := .i64) rfl), wf_u64 (int_wf hk (i := 5) (k := .u64) rfl)⟩
  · rw [blk_gen]
    refine gen_rel (φ := φ) (T := Tr enc Try.prog W (fun _ => true) true) ?_ kBlk 0 (by simpa using q0)
    intro j e x hj hx
    refine rel_slice hx (fun a len cap e => ?_) (str := 6) ?_
    · subst e
      exact (spot_agg Try.underlying25 o0 hj).1
    · obtain ⟨ck, hck, hck'⟩ : ∃ ck, kBlk[j]? = some ck ∧ okK Try.prog W (Tr enc Try.prog W (fun _ => true) true) ck x := by
        have hlt : j < kBlk.length := by
          rw [q0.length]
          rcases Nat.lt_or_ge j cs0.toList.length with h | h
          · exact h
          · rw [List.getElem?_eq_none h] at hj; cases hj
        obtain ⟨y, hy, hyk⟩ := q0.get (List.getElem?_eq_getElem hlt)
        rw [hj] at hy
        cases hy
        exact ⟨_, List.getElem?_eq_getElem hlt, hyk⟩
      have isS : ∃ r n c, x = .slice r n c := by
        rcases hx with rfl | ⟨a, len, cap, rfl, _⟩ <;> exact ⟨_, _, _, rfl⟩
      obtain ⟨r, n, c, rfl⟩ := isS
      match j, hck with
      | 0, hck => cases hck; obtain ⟨_, e, _⟩ := hck'; cases e
      | 1, hck => cases hck; obtain ⟨_, e, _⟩ := hck'; cases e
      | 2, hck => cases hck; obtain ⟨_, e, _⟩ := hck'; cases e
      | 3, hck =>
        rw [hj] at hx0
        cases hx0
        exact hφ
      | j + 4, hck => cases hck
  · exact brel_slice (φ := φ) (id := 0) k0 (fun a len cap e => (s0 a len cap e).1) cells39 (fun cs hT => kinds_ok 5 39 kOp cs kOp_ok hT) rfl (fun i => by rw [← hv0]; exact op_gen _) hl0 hp
/-- One block of operations, read only. -/
theorem one_heap {W : World} {b : BlkS} {q : Option AM.Place} (h1 : ∀ (φ : Emb) (p : AM.Place), q = some p → BRel φ (opsB b.n b.f) p W) (h2 : ∀ p : AM.Place, q = some p → p.blk < W.heap.size) : HRel (fun i => if i = 0 then q else none) ⟨1, [(0, opsB b.n b.f)]⟩ W := by
  refine ⟨?_, ?_, ?_, ?_⟩
  · intro i B p hB hp
    match i, hB with
    | 0, hB => cases hB; exact h1 _ p hp
    | i + 1, hB => cases hB
  · intro i j B C p q hB hC _ _ _ hw
    match i, hB with
    | 0, hB => cases hB; cases hw
    | i + 1, hB => cases hB
  · intro i hi
    have hi' : 1 ≤ i := hi
    show (if i = 0 then _ else none) = none
    rw [if_neg (by omega)]
  · intro i p hp
    match i, hp with
    | 0, hp => exact h2 p hp
    | i + 1, hp => cases hp
def zeros : List CK → List Value
  | [] => []
  | .bool :: K => .bool false :: zeros K
  | .int k :: K => .int k 0 :: zeros K
  | .slice _ :: K => .slice none 0 0 :: zeros K
end Go.Proofs.Ytmbnakinhnkabaa
