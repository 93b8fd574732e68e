/- MicroEnds: for every Code, Core and list of answers, understudylaw22.MicroEnds answers true and its arguments read behind the call as before; no condition. -/
import Derived.Test.YteikpddilabppaaRows
import Derived.Test.YteikpddilabppaaEnd
import Derived.Test.YteikpddilabppaaAm23
import Derived.ProofKit
namespace Go.Proofs.Yteikpddilabppaa
open Go.AM Go.ChangeShapes Go.WideShapes Go.ChangeAt Go.RowKit
set_option maxRecDepth 100000
set_option linter.unusedSimpArgs false
set_option linter.unusedVariables false
theorem own22 : ownKnob Try.prog.godebug = none := by kernel_rfl
theorem laidOut22 : laidOutB Try.prog = true := by kernel_rfl

def kCode : List CK := [.int .u64, .int .i64, .int .i64, .int .i64, .slice 34]
def kMicro : List CK := [.int .i64, .int .i64, .int .i64, .int .i64, .int .i64, .int .i64, .int .u64]
def kGot : List CK := [.int .u64, .bool, .int .i64]
def kCore : List CK := [.int .u64, .int .u64, .int .u64, .int .u64, .int .u64, .int .u64, .int .u64, .int .u64, .int .u64, .int .u64, .int .u64, .int .u64, .int .u64, .int .u64, .int .u64, .int .u64, .int .u64, .int .u64, .int .u64, .int .u64, .int .u64, .int .u64, .int .u64, .int .u64, .int .u64, .int .u64, .int .u64, .int .u64, .int .u64, .int .u64, .int .u64, .int .u64, .int .u64, .int .u64,
  .bool, .bool, .bool, .bool, .int .i64, .bool, .int .u64, .int .u64, .int .u64, .int .u64, .int .u64, .int .u64, .int .i64, .int .i64, .bool]
theorem kCode_ok : kindsT Try.prog 5 25 = some kCode := by kernel_rfl
theorem kMicro_ok : kindsT Try.prog 5 34 = some kMicro := by kernel_rfl
theorem kGot_ok : kindsT Try.prog 5 57 = some kGot := by kernel_rfl
theorem kCore_ok : kindsT Try.prog 5 29 = some kCore := by kernel_rfl
theorem cells34 : Try.prog.cellsOf 34 = 7 := by kernel_rfl
theorem cells57 : Try.prog.cellsOf 57 = 3 := by kernel_rfl

def microOf (cs : List Value) : MicroS := ⟨intAt cs 0, intAt cs 1, intAt cs 2, intAt cs 3, intAt cs 4, intAt cs 5, intAt cs 6⟩
def gotOf (cs : List Value) : GotS := ⟨intAt cs 0, boolAt cs 1, intAt cs 2⟩
def coreOf (cs : List Value) : CoreS := ⟨fun i => intAt cs i, fun i => intAt cs (31 + i), intAt cs 33, boolAt cs 34, boolAt cs 35, boolAt cs 36, boolAt cs 37, intAt cs 38, boolAt cs 39, intAt cs 40, intAt cs 41, intAt cs 42, intAt cs 43, intAt cs 44, intAt cs 45, intAt cs 46, intAt cs 47, boolAt cs 48⟩
def codeOf (w : World) (cs : List Value) : CodeS := ⟨intAt cs 0, intAt cs 1, intAt cs 2, intAt cs 3, lenAt cs 4, fun i => microOf (rowsOf w (valAt cs 4) 7 i)⟩
theorem micro_gen (cs : List Value) : flat (microL (microOf cs)) = gen 0 cs kMicro 0 := rfl
theorem got_gen (cs : List Value) : flat (gotL (gotOf cs)) = gen 0 cs kGot 0 := rfl
theorem core_gen (cs : List Value) : flat (coreL (coreOf cs)) = gen 0 cs kCore 0 := rfl
theorem code_gen (w : World) (cs : List Value) : flat (codeLa 0 (codeOf w cs)) = gen 0 cs kCode 0 := rfl

/-- What is known of three arguments that are a Code, a Core and a slice of answers. -/
theorem three {H : Type} {enc : TypeId × Value → H} {W : World} {v0 v1 v2 : Value} {d0 d1 d2 : DataW H} {p0 p1 p2 : List MemPlace}
    (o0 : Value.okWide Try.prog W .any 0 25 v0) (o1 : Value.okWide Try.prog W .any 0 29 v1) (o2 : Value.okWide Try.prog W .any 0 30 v2)
    (h0 : DataW.Trod enc Try.prog W 0 (fun _ => true) true 25 v0 d0 p0) (h1 : DataW.Trod enc Try.prog W 0 (fun _ => true) true 29 v1 d1 p1) (h2 : DataW.Trod enc Try.prog W 0 (fun _ => true) true 30 v2 d2 p2) :
    ∃ φ c k ng gs, (∀ i, i < c.nops → 0 ≤ (c.ops i).imm) ∧ F2 (relA φ) [.agg (codeLa 0 c), .agg (coreL k), .c (.slice ⟨1, 0, 0, 0⟩ false ng)] [v0, v1, v2] ∧ HRel φ ⟨2, [(1, gotsBk ng gs), (0, opsBk c false)]⟩ W := by
  obtain ⟨cs0, rfl, _⟩ := okWide_struct Try.underlying25 o0
  obtain ⟨cs1, rfl, _⟩ := okWide_struct Try.underlying29 o1
  obtain ⟨r2, n2, c2, rfl⟩ := okWide_slice Try.underlying30 o2
  obtain ⟨f0, h0⟩ := h0
  obtain ⟨f1, h1⟩ := h1
  obtain ⟨f2, h2⟩ := h2
  have q0 := kinds_ok (spare := fun _ => true) (held := true) 5 25 kCode cs0.toList kCode_ok ⟨f0, _, h0⟩
  have q1 := kinds_ok (spare := fun _ => true) (held := true) 5 29 kCore cs1.toList kCore_ok ⟨f1, _, h1⟩
  have q2 := kinds_ok (enc := enc) (w := W) (spare := fun _ => true) (held := true) 5 30 [.slice 57] [.slice r2 n2 c2] (by kernel_rfl) ⟨f2, _, h2⟩
  obtain ⟨_, _, e2, x2, _⟩ := q2.cons_left
  cases e2
  obtain ⟨x0, hx0, k0⟩ := q0.get (i := 4) (a := .slice 34) rfl
  have hv0 : valAt cs0.toList 4 = x0 := by simp only [valAt, hx0]
  have hl0 : lenAt cs0.toList 4 = lenV x0 := by simp only [lenAt, hx0]
  have s0 : ∀ a len cap, x0 = .slice (some a) len cap → a.spot = none ∧ a.block < W.heap.size := fun a len cap e => spot_agg Try.underlying25 o0 (i := 4) (by rw [← e]; exact hx0)
  have s2 : ∀ a len cap, Value.slice r2 n2 c2 = .slice (some a) len cap → a.spot = none ∧ a.block < W.heap.size := fun a len cap e => by
    rw [e] at o2
    exact spot_slice Try.underlying30 o2
  let φ : Emb := fun i => if i = 0 then placeOf x0 7 else if i = 1 then placeOf (.slice r2 n2 c2) 3 else none
  refine ⟨φ, codeOf W cs0.toList, coreOf cs1.toList, n2, fun i => gotOf (rowsOf W (.slice r2 n2 c2) 3 i), ?_, ?_, ?_⟩
  · intro i hi
    have hi' : i < lenV x0 := by rw [← hl0]; exact hi
    show 0 ≤ intAt (rowsOf W (valAt cs0.toList 4) 7 i) 6
    rw [hv0]
    rcases k0 with rfl | ⟨a, len, cap, rfl, _, _, hrow⟩
    · exact absurd hi' (Nat.not_lt_zero _)
    · obtain ⟨cs, hcs, hT⟩ := hrow i hi'
      rw [cells34] at hcs
      have hr : rowsOf W (.slice (some a) len cap) 7 i = cs := by simp only [rowsOf, hcs]
      rw [hr]
      have := int_wf (kinds_ok 5 34 kMicro cs kMicro_ok hT) (i := 6) (k := .u64) rfl
      simp only [Lit.wf, Bool.and_eq_true, decide_eq_true_eq] at this
      exact this.1
  · refine .cons ⟨cs0, rfl, ?_⟩ (.cons ⟨cs1, rfl, ?_⟩ (.cons ?_ .nil))
    · rw [code_gen]
      refine gen_rel (φ := φ) (T := Tr enc Try.prog W (fun _ => true) true) ?_ kCode 0 (by simpa using q0)
      intro j e x hj hx
      refine rel_slice hx (fun a len cap e => ?_) (str := 7) ?_
      · subst e
        exact (spot_agg Try.underlying25 o0 hj).1
      · -- the only slice is the fifth cell
        obtain ⟨ck, hck, hck'⟩ : ∃ ck, kCode[j]? = some ck ∧ okK Try.prog W (Tr enc Try.prog W (fun _ => true) true) ck x := by
          have hlt : j < kCode.length := by
            rw [q0.length]
            rcases Nat.lt_or_ge j cs0.toList.length with h | h
            · exact h
            · rw [List.getElem?_eq_none h] at hj; cases hj
          obtain ⟨y, hy, hyk⟩ := q0.get (List.getElem?_eq_getElem hlt)
          rw [hj] at hy
          cases hy
          exact ⟨_, List.getElem?_eq_getElem hlt, hyk⟩
        have isS : ∃ r n c, x = .slice r n c := by
          rcases hx with rfl | ⟨a, len, cap, rfl, _⟩ <;> exact ⟨_, _, _, rfl⟩
        obtain ⟨r, n, c, rfl⟩ := isS
        match j, hck with
        | 0, hck => cases hck; obtain ⟨_, e, _⟩ := hck'; cases e
        | 1, hck => cases hck; obtain ⟨_, e, _⟩ := hck'; cases e
        | 2, hck => cases hck; obtain ⟨_, e, _⟩ := hck'; cases e
        | 3, hck => cases hck; obtain ⟨_, e, _⟩ := hck'; cases e
        | 4, hck =>
          rw [hj] at hx0
          cases hx0
          rfl
        | j + 5, hck => cases hck
    · rw [core_gen]
      have := noSl_rel (φ := φ) (id := 0) kCore 0 rfl (by simpa using q1)
      simpa using this
    · exact rel_slice (φ := φ) (id := 1) (str := 3) x2 (fun a len cap e => (s2 a len cap e).1) rfl
  · have hb0 : ∀ p, φ 0 = some p → BRel φ (opsBk (codeOf W cs0.toList) false) p W := fun p hp =>
      brel_slice (φ := φ) (id := 0) k0 (fun a len cap e => (s0 a len cap e).1) cells34 (fun cs hT => kinds_ok 5 34 kMicro cs kMicro_ok hT) rfl (fun i => by rw [← hv0]; exact micro_gen _) hl0 hp
    have hb1 : ∀ p, φ 1 = some p → BRel φ (gotsBk n2 (fun i => gotOf (rowsOf W (.slice r2 n2 c2) 3 i))) p W := fun p hp =>
      brel_slice (φ := φ) (id := 0) x2 (fun a len cap e => (s2 a len cap e).1) cells57 (fun cs hT => kinds_ok 5 57 kGot cs kGot_ok hT) rfl (fun i => got_gen _) rfl hp
    refine ⟨?_, ?_, ?_, ?_⟩
    · intro i B p hB hp
      match i, hB with
      | 0, hB => cases hB; exact hb0 p hp
      | 1, hB => cases hB; exact hb1 p hp
      | i + 2, hB => cases hB
    · intro i j B C p q hB hC _ _ _ hw
      match i, hB with
      | 0, hB => cases hB; cases hw
      | 1, hB => cases hB; cases hw
      | i + 2, hB => cases hB
    · intro i hi
      have hi' : 2 ≤ i := hi
      show (if i = 0 then _ else if i = 1 then _ else none) = none
      rw [if_neg (by omega), if_neg (by omega)]
    · intro i p hp
      match i, hp with
      | 0, hp => exact place_lt (fun a len cap e => (s0 a len cap e).2) hp
      | 1, hp => exact place_lt (fun a len cap e => (s2 a len cap e).2) hp
      | i + 2, hp => cases hp

def zeros : List CK → List Value
  | [] => []
  | .bool :: K => .bool false :: zeros K
  | .int k :: K => .int k 0 :: zeros K
  | .slice _ :: K => .slice none 0 0 :: zeros K

theorem microEnds_lifted (os : Os) (started : os.Started) (H : Type) (enc : TypeId × Value → H) :
    ReturnsInHanded {} Try.checked os 4 .any (Rows.microEndsSpec.pre6 enc Try.prog Try.f4 Rows.microEndsRow.domain false) (Rows.microEndsSpec.post enc Try.prog Try.f4 false true false false) := by
  refine returnsInHanded_of_change (C := Try.checked) own22 started (by kernel_rfl) Try.func4
    (ChangeSpec.witness6 (enc := enc) (C := Try.checked) false ⟨#[], #[.agg (zeros kCode).toArray, .agg (zeros kCore).toArray, .slice none 0 0], []⟩ 8 (by kernel_rfl) (by kernel_rfl) (by kernel_rfl) (by kernel_rfl)) ?_
  intro W base args ds gs before hval0 hW hcnd _
  have hval : ∀ (j : Nat) t v, Try.f4.params[j]? = some t → args[j]? = some v → Value.okWide Try.prog W .any base t v := hval0
  have hW' := hW
  obtain ⟨p, q, hA0, hV, rfl, hfz, hnd⟩ := hW
  have hA : DataW.TrodAll enc Try.prog W 0 (fun _ => true) true Try.f4.params.toList args.toList ds p := hA0
  rw [Try.params4] at hA hval
  obtain ⟨v0, v1, v2, d0, d1, d2, p0, p1, p2, rfl, rfl, rfl, h0, h1, h2⟩ := trodAll_three hA
  obtain ⟨rfl, rfl⟩ := trodVars_none hV
  obtain ⟨φ, c, k, ng, gs, himm, hrel, hH⟩ := three (hval 0 25 v0 rfl rfl) (hval 1 29 v1 rfl rfl) (hval 2 30 v2 rfl rfl) h0 h1 h2
  refine ((con4 c k ng gs himm).2 φ W #[v0, v1, v2] hrel hH).mono fun e W' ⟨φ', v, x, H', he, ⟨hv, hH'⟩, hx, _, hfr⟩ => ?_
  subst he; subst hv
  cases hx
  have hb : Below W.heap.size W W' := hfr.below (fun i B hB => by
    match i, hB with
    | 0, hB => cases hB; rfl
    | 1, hB => cases hB; rfl
    | i + 2, hB => cases hB)
  have hlt : ∀ x ∈ (p0 ++ p1 ++ p2), x.block < W.heap.size := fun x hx => hW'.lt x (by simpa using hx)
  refine ⟨_, rfl, post_of_old (pa := p0 ++ (p1 ++ p2)) (pv := []) hW' (fun _ _ _ => trodAll_mk1 (shut_bool Try.underlying4 true)) (fun sp hsp => ?_) (fun _ _ => rfl) (by simp) hb (ok_one (by kernel_rfl) rfl (okWide_bool_mk Try.underlying4 true))⟩
  show DataW.TrodAll enc Try.prog W' 0 sp true Try.f4.params.toList [v0, v1, v2] [d0, d1, d2] (p0 ++ (p1 ++ p2))
  rw [Try.params4]
  exact trodAll_mk3
    (WideElems.Trod_stays laidOut22 (by kernel_rfl) (of_decide_eq_true (by kernel_rfl)) h0 (fun x hx => hb.same (hlt x (by simp [hx]))) (fun x hx => hsp x (by simp [hx])))
    (WideElems.Trod_stays laidOut22 (by kernel_rfl) (of_decide_eq_true (by kernel_rfl)) h1 (fun x hx => hb.same (hlt x (by simp [hx]))) (fun x hx => hsp x (by simp [hx])))
    (WideElems.Trod_stays laidOut22 (by kernel_rfl) (of_decide_eq_true (by kernel_rfl)) h2 (fun x hx => hb.same (hlt x (by simp [hx]))) (fun x hx => hsp x (by simp [hx])))

theorem microEnds_holds : Rows.MicroEndsSaid :=
  OpenClaim.holds_of_wide 4 Try.f4 rfl rfl rfl rfl rfl rfl rfl ⟨rfl, rfl, rfl, rfl, rfl⟩ rfl rfl rfl rfl rfl (by kernel_rfl) Try.func4 (by kernel_rfl)
    (of_decide_eq_true (by kernel_rfl)) (by unfold Func.isWrapper; first | (rw [if_pos (by decide +kernel)]; kernel_rfl) | (rw [if_neg (by decide +kernel)]; exact ⟨rfl, rfl⟩))
    (fun os started H enc _ => microEnds_lifted os started H enc)
#print axioms microEnds_holds
end Go.Proofs.Yteikpddilabppaa
