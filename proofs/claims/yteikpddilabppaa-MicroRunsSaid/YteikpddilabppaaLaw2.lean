/- MicroRuns: for every Code, Core, list of answers and list of bools, understudylaw22.MicroRuns answers true and its arguments read behind the call as before; no condition. -/
import Derived.Test.YteikpddilabppaaLaw
import Derived.Test.YteikpddilabppaaRgg
import Derived.SizedLaws
namespace Go.Proofs.Yteikpddilabppaa
open Go.AM Go.ChangeShapes Go.WideShapes Go.ChangeAt Go.RowKit
set_option maxRecDepth 100000
set_option linter.unusedSimpArgs false
set_option linter.unusedVariables false
theorem cells4 : Try.prog.cellsOf 4 = 1 := by kernel_rfl
theorem size34 : Try.prog.bytesOf 34 = 56 := by kernel_rfl
theorem U_wf {n : Int} (h : (Lit.int .u64 n).wf = true) : U n := by
  simp only [Lit.wf, Bool.and_eq_true, decide_eq_true_eq] at h
  exact ⟨h.1, by have h2 : n ≤ 18446744073709551615 := h.2
                 omega⟩
theorem kCore_fin : ∀ i : Fin 34, (match kCore[i.val]? with | some (.int .u64) => true | _ => false) = true := by decide +kernel
theorem kCore_u64 (i : Nat) (h : i < 34) : kCore[i]? = some (.int .u64) := by
  have := kCore_fin ⟨i, h⟩
  revert this
  simp only
  split
  · intro _; assumption
  · intro h; cases h
/-- A Code's operations take less than 2 ^ 47 bytes. -/
theorem code_size {H : Type} {enc : TypeId × Value → H} {W : World} {cs : Array Value} {d : DataW H} {p : List MemPlace} {ts : List TypeId} {ds : List (DataW H)} (hwt : (DataW.weightsEach Try.prog (25 :: ts) (d :: ds)).all (· ≤ reachBytes) = true)
    (h : DataW.Trod enc Try.prog W 0 (fun _ => true) true 25 (.agg cs) d p) : lenAt cs.toList 4 * 56 ≤ 140737488351232 := by
  obtain ⟨f, h⟩ := h
  obtain ⟨xs, n, _, hx, hl, hxl, hf⟩ := DataW.trod_struct Try.underlying25 h
  have hxl5 : xs.length = 5 := hxl
  have h4 := hf 4 _ rfl
  have hx4 : xs[4]? = some (xs[4]'(by omega)) := List.getElem?_eq_getElem (by omega)
  have hd : d = .agg (xs.map (·.1)) := congrArg (·.1) hx
  have hc5 : cs.toList.length = 5 := by
    have : Try.prog.cellsOf 25 = 5 := by kernel_rfl
    have h5 := hl
    rw [this] at h5
    simpa [Value.cells] using h5
  have hcs : cs.toList[4]? = some (cs.toList[4]'(by omega)) := List.getElem?_eq_getElem (by omega)
  have htake : ((cs.toList.drop 4).take 1) = [cs.toList[4]'(by omega)] := by
    rw [List.drop_eq_getElem_cons (by omega)]
    rfl
  have hcell : Try.prog.cellsOf 23 = 1 := by kernel_rfl
  have h4' : DataW.trod enc Try.prog W 0 (fun _ => true) true n 23 [cs.toList[4]'(by omega)] = some (xs[4]'(by omega)) := by
    rw [← hx4, ← h4, ← htake]
    show _ = DataW.trod enc Try.prog W 0 (fun _ => true) true n 23 ((cs.toList.drop 4).take (Try.prog.cellsOf 23))
    rw [hcell]
  have hlen : lenAt cs.toList 4 = lenV (cs.toList[4]'(by omega)) := by simp only [lenAt, hcs]
  rw [hlen]
  rcases DataW.trod_slice Try.underlying23 h4' with ⟨e, _⟩ | ⟨a, len, cap, elems, rest, m, _, e, ex, _, _, _, hel, _⟩
  · rw [List.cons.inj e |>.1]; show 0 * 56 ≤ _; omega
  · rw [List.cons.inj e |>.1]
    show len * 56 ≤ _
    have hm : (elems.map (·.1)).length + (rest.map (·.1)).length * 1 = elems.length + rest.length := by simp
    have hw : ((elems.map (·.1)).length + (rest.map (·.1)).length) * Try.prog.bytesOf 34 ∈ DataW.weightsEach Try.prog (25 :: ts) (d :: ds) := by
      refine DataW.weights_mem_each (j := 0) rfl rfl _ ?_
      rw [hd]
      simp only [DataW.weights, Try.underlying25]
      refine DataW.weights_mem_each (j := 4) (t := 23) (d := (xs[4]'(by omega)).1) rfl (by rw [List.getElem?_map, hx4]; rfl) _ ?_
      rw [ex]
      simp only [DataW.weights, Try.underlying23, List.mem_cons, true_or]
    have := of_decide_eq_true (List.all_eq_true.1 hwt _ hw)
    rw [size34, List.length_map, List.length_map] at this
    simp only [reachBytes] at this
    omega
/-- What is known of four arguments that are a Code, a Core, a slice of answers and one of bools. -/
theorem four {H : Type} {enc : TypeId × Value → H} {W : World} {v0 v1 v2 v3 : Value} {d0 d1 d2 d3 : DataW H} {p0 p1 p2 p3 : List MemPlace}
    (o0 : Value.okWide Try.prog W .any 0 25 v0) (o1 : Value.okWide Try.prog W .any 0 29 v1) (o2 : Value.okWide Try.prog W .any 0 30 v2) (o3 : Value.okWide Try.prog W .any 0 31 v3)
    (h0 : DataW.Trod enc Try.prog W 0 (fun _ => true) true 25 v0 d0 p0) (h1 : DataW.Trod enc Try.prog W 0 (fun _ => true) true 29 v1 d1 p1) (h2 : DataW.Trod enc Try.prog W 0 (fun _ => true) true 30 v2 d2 p2) (h3 : DataW.Trod enc Try.prog W 0 (fun _ => true) true 31 v3 d3 p3) {ts : List TypeId} {ds : List (DataW H)} (hwt : (DataW.weightsEach Try.prog (25 :: ts) (d0 :: ds)).all (· ≤ reachBytes) = true) :
    ∃ φ c k ng gs nt tw, c.nops * 56 ≤ 140737488351232 ∧ (∀ i, i < c.nops → U (c.ops i).imm) ∧ (∀ i, i < 31 → U (k.x i)) ∧ (∀ i, i < 2 → U (k.sp i)) ∧ (∀ i, i < ng → U (gs i).value) ∧ F2 (relA φ) [.agg (codeLa 0 c), .agg (coreL k), .c (.slice ⟨1, 0, 0, 0⟩ false ng), .c (.slice ⟨2, 0, 0, 0⟩ false nt)] [v0, v1, v2, v3] ∧ HRel φ (argH c ng gs nt tw) W := by
  obtain ⟨cs0, rfl, _⟩ := okWide_struct Try.underlying25 o0
  obtain ⟨cs1, rfl, _⟩ := okWide_struct Try.underlying29 o1
  obtain ⟨r2, n2, c2, rfl⟩ := okWide_slice Try.underlying30 o2
  obtain ⟨r3, n3, c3, rfl⟩ := okWide_slice Try.underlying31 o3
  have hsize := code_size hwt h0
  obtain ⟨f3, h3⟩ := h3
  obtain ⟨f0, h0⟩ := h0
  obtain ⟨f1, h1⟩ := h1
  obtain ⟨f2, h2⟩ := h2
  have q0 := kinds_ok (spare := fun _ => true) (held := true) 5 25 kCode cs0.toList kCode_ok ⟨f0, _, h0⟩
  have q1 := kinds_ok (spare := fun _ => true) (held := true) 5 29 kCore cs1.toList kCore_ok ⟨f1, _, h1⟩
  have q2 := kinds_ok (enc := enc) (w := W) (spare := fun _ => true) (held := true) 5 30 [.slice 57] [.slice r2 n2 c2] (by kernel_rfl) ⟨f2, _, h2⟩
  obtain ⟨_, _, e2, x2, _⟩ := q2.cons_left
  cases e2
  have q3 := kinds_ok (enc := enc) (w := W) (spare := fun _ => true) (held := true) 5 31 [.slice 4] [.slice r3 n3 c3] (by kernel_rfl) ⟨f3, _, h3⟩
  obtain ⟨_, _, e3, x3, _⟩ := q3.cons_left
  cases e3
  obtain ⟨x0, hx0, k0⟩ := q0.get (i := 4) (a := .slice 34) rfl
  have hv0 : valAt cs0.toList 4 = x0 := by simp only [valAt, hx0]
  have hl0 : lenAt cs0.toList 4 = lenV x0 := by simp only [lenAt, hx0]
  have s0 : ∀ a len cap, x0 = .slice (some a) len cap → a.spot = none ∧ a.block < W.heap.size := fun a len cap e => spot_agg Try.underlying25 o0 (i := 4) (by rw [← e]; exact hx0)
  have s2 : ∀ a len cap, Value.slice r2 n2 c2 = .slice (some a) len cap → a.spot = none ∧ a.block < W.heap.size := fun a len cap e => by
    rw [e] at o2
    exact spot_slice Try.underlying30 o2
  have s3 : ∀ a len cap, Value.slice r3 n3 c3 = .slice (some a) len cap → a.spot = none ∧ a.block < W.heap.size := fun a len cap e => by
    rw [e] at o3
    exact spot_slice Try.underlying31 o3
  let φ : Emb := fun i => if i = 0 then placeOf x0 7 else if i = 1 then placeOf (.slice r2 n2 c2) 3 else if i = 2 then placeOf (.slice r3 n3 c3) 1 else none
  refine ⟨φ, codeOf W cs0.toList, coreOf cs1.toList, n2, fun i => gotOf (rowsOf W (.slice r2 n2 c2) 3 i), n3, fun i => boolAt (rowsOf W (.slice r3 n3 c3) 1 i) 0, hsize, ?_, ?_, ?_, ?_, ?_, ?_⟩
  · intro i hi
    have hi' : i < lenV x0 := by rw [← hl0]; exact hi
    show U (intAt (rowsOf W (valAt cs0.toList 4) 7 i) 6)
    rw [hv0]
    rcases k0 with rfl | ⟨a, len, cap, rfl, _, _, hrow⟩
    · exact absurd hi' (Nat.not_lt_zero _)
    · obtain ⟨cs, hcs, hT⟩ := hrow i hi'
      rw [cells34] at hcs
      have hr : rowsOf W (.slice (some a) len cap) 7 i = cs := by simp only [rowsOf, hcs]
      rw [hr]
      exact U_wf (int_wf (kinds_ok 5 34 kMicro cs kMicro_ok hT) (i := 6) (k := .u64) rfl)
  · intro i hi
    exact U_wf (int_wf q1 (i := i) (k := .u64) (kCore_u64 i (by omega)))
  · intro i hi
    show U (intAt cs1.toList (31 + i))
    exact U_wf (int_wf q1 (i := 31 + i) (k := .u64) (kCore_u64 (31 + i) (by omega)))
  · intro i hi
    show U (intAt (rowsOf W (.slice r2 n2 c2) 3 i) 0)
    rcases x2 with e | ⟨a, len, cap, e, _, _, hrow⟩
    · cases e; exact absurd hi (Nat.not_lt_zero _)
    · cases e
      obtain ⟨cs, hcs, hT⟩ := hrow i hi
      rw [cells57] at hcs
      have hr : rowsOf W (.slice (some a) n2 c2) 3 i = cs := by simp only [rowsOf, hcs]
      rw [hr]
      exact U_wf (int_wf (kinds_ok 5 57 kGot cs kGot_ok hT) (i := 0) (k := .u64) rfl)
  · refine .cons ⟨cs0, rfl, ?_⟩ (.cons ⟨cs1, rfl, ?_⟩ (.cons ?_ (.cons ?_ .nil)))
    · rw [code_gen]
      refine gen_rel (φ := φ) (T := Tr enc Try.prog W (fun _ => true) true) ?_ kCode 0 (by simpa using q0)
      intro j e x hj hx
      refine rel_slice hx (fun a len cap e => ?_) (str := 7) ?_
      · subst e
        exact (spot_agg Try.underlying25 o0 hj).1
      · -- the only slice is the fifth cell
        obtain ⟨ck, hck, hck'⟩ : ∃ ck, kCode[j]? = some ck ∧ okK Try.prog W (Tr enc Try.prog W (fun _ => true) true) ck x := by
          have hlt : j < kCode.length := by
            rw [q0.length]
            rcases Nat.lt_or_ge j cs0.toList.length with h | h
            · exact h
            · rw [List.getElem?_eq_none h] at hj; cases hj
          obtain ⟨y, hy, hyk⟩ := q0.get (List.getElem?_eq_getElem hlt)
          rw [hj] at hy
          cases hy
          exact ⟨_, List.getElem?_eq_getElem hlt, hyk⟩
        have isS : ∃ r n c, x = .slice r n c := by
          rcases hx with rfl | ⟨a, len, cap, rfl, _⟩ <;> exact ⟨_, _, _, rfl⟩
        obtain ⟨r, n, c, rfl⟩ := isS
        match j, hck with
        | 0, hck => cases hck; obtain ⟨_, e, _⟩ := hck'; cases e
        | 1, hck => cases hck; obtain ⟨_, e, _⟩ := hck'; cases e
        | 2, hck => cases hck; obtain ⟨_, e, _⟩ := hck'; cases e
        | 3, hck => cases hck; obtain ⟨_, e, _⟩ := hck'; cases e
        | 4, hck =>
          rw [hj] at hx0
          cases hx0
          rfl
        | j + 5, hck => cases hck
    · rw [core_gen]
      have := noSl_rel (φ := φ) (id := 0) kCore 0 rfl (by simpa using q1)
      simpa using this
    · exact rel_slice (φ := φ) (id := 1) (str := 3) x2 (fun a len cap e => (s2 a len cap e).1) rfl
    · exact rel_slice (φ := φ) (id := 2) (str := 1) x3 (fun a len cap e => (s3 a len cap e).1) rfl
  · have hb0 : ∀ p, φ 0 = some p → BRel φ (opsBk (codeOf W cs0.toList) false) p W := fun p hp =>
      brel_slice (φ := φ) (id := 0) k0 (fun a len cap e => (s0 a len cap e).1) cells34 (fun cs hT => kinds_ok 5 34 kMicro cs kMicro_ok hT) rfl (fun i => by rw [← hv0]; exact micro_gen _) hl0 hp
    have hb1 : ∀ p, φ 1 = some p → BRel φ (gotsBk n2 (fun i => gotOf (rowsOf W (.slice r2 n2 c2) 3 i))) p W := fun p hp =>
      brel_slice (φ := φ) (id := 0) x2 (fun a len cap e => (s2 a len cap e).1) cells57 (fun cs hT => kinds_ok 5 57 kGot cs kGot_ok hT) rfl (fun i => got_gen _) rfl hp
    have hb2 : ∀ p, φ 2 = some p → BRel φ (twB n3 (fun i => boolAt (rowsOf W (.slice r3 n3 c3) 1 i) 0)) p W := fun p hp =>
      brel_slice (φ := φ) (id := 0) x3 (fun a len cap e => (s3 a len cap e).1) cells4 (fun cs hT => kinds_ok 5 4 [.bool] cs (by kernel_rfl) hT) rfl (fun i => rfl) rfl hp
    refine ⟨?_, ?_, ?_, ?_⟩
    · intro i B p hB hp
      match i, hB with
      | 0, hB => cases hB; exact hb0 p hp
      | 1, hB => cases hB; exact hb1 p hp
      | 2, hB => cases hB; exact hb2 p hp
      | i + 3, hB => cases hB
    · intro i j B C p q hB hC _ _ _ hw
      match i, hB with
      | 0, hB => cases hB; cases hw
      | 1, hB => cases hB; cases hw
      | 2, hB => cases hB; cases hw
      | i + 3, hB => cases hB
    · intro i hi
      have hi' : 3 ≤ i := hi
      show (if i = 0 then _ else if i = 1 then _ else if i = 2 then _ else none) = none
      rw [if_neg (by omega), if_neg (by omega), if_neg (by omega)]
    · intro i p hp
      match i, hp with
      | 0, hp => exact place_lt (fun a len cap e => (s0 a len cap e).2) hp
      | 1, hp => exact place_lt (fun a len cap e => (s2 a len cap e).2) hp
      | 2, hp => exact place_lt (fun a len cap e => (s3 a len cap e).2) hp
      | i + 3, hp => cases hp


theorem microRuns_lifted (os : Os) (started : os.Started) (H : Type) (enc : TypeId × Value → H) :
    ReturnsInHanded {} Try.checked os 3 .any (Rows.microRunsSpec.pre6 enc Try.prog Try.f3 Rows.microRunsRow.domain false) (Rows.microRunsSpec.post enc Try.prog Try.f3 false true false false) := by
  refine returnsInHanded_of_change_sized (C := Try.checked) own22 started (by kernel_rfl) Try.func3
    (ChangeSpec.witness6 (enc := enc) (C := Try.checked) false ⟨#[], #[.agg (zeros kCode).toArray, .agg (zeros kCore).toArray, .slice none 0 0, .slice none 0 0], []⟩ 8 (by kernel_rfl) (by kernel_rfl) (by kernel_rfl) (by kernel_rfl)) ?_
  intro W base args ds gs before hval0 hW hcnd hsz0 _
  have hval : ∀ (j : Nat) t v, Try.f3.params[j]? = some t → args[j]? = some v → Value.okWide Try.prog W .any base t v := hval0
  have hsz : (DataW.weightsEach Try.prog (Try.f3.params.toList ++ Rows.microRunsSpec.plain.varTypes Try.prog) (ds ++ gs)).all (· ≤ reachBytes) = true := hsz0
  have hW' := hW
  obtain ⟨p, q, hA0, hV, rfl, hfz, hnd⟩ := hW
  have hA : DataW.TrodAll enc Try.prog W 0 (fun _ => true) true Try.f3.params.toList args.toList ds p := hA0
  rw [Try.params3] at hA hval hsz
  obtain ⟨v0, v1, v2, v3, d0, d1, d2, d3, p0, p1, p2, p3, rfl, rfl, rfl, h0, h1, h2, h3⟩ := trodAll_four hA
  obtain ⟨rfl, rfl⟩ := trodVars_none hV
  obtain ⟨φ, c, k, ng, gs, nt, tw, hsize, himm, hx, hsp, hgv, hrel, hH⟩ := four (hval 0 25 v0 rfl rfl) (hval 1 29 v1 rfl rfl) (hval 2 30 v2 rfl rfl) (hval 3 31 v3 rfl rfl) h0 h1 h2 h3 (ts := _) (ds := _) hsz
  refine ((con3 c k ng gs nt tw hsize himm hx hsp hgv).2 φ W #[v0, v1, v2, v3] hrel hH).mono fun e W' ⟨φ', v, x, H', he, ⟨hv, hH'⟩, hx, _, hfr⟩ => ?_
  subst he; subst hv
  cases hx
  have hb : Below W.heap.size W W' := hfr.below (fun i B hB => by
    match i, hB with
    | 0, hB => cases hB; rfl
    | 1, hB => cases hB; rfl
    | 2, hB => cases hB; rfl
    | i + 3, hB => cases hB)
  have hlt : ∀ x ∈ (p0 ++ p1 ++ p2 ++ p3), x.block < W.heap.size := fun x hx => hW'.lt x (by simpa using hx)
  refine ⟨_, rfl, post_of_old (pa := p0 ++ (p1 ++ (p2 ++ p3))) (pv := []) hW' (fun _ _ _ => trodAll_mk1 (shut_bool Try.underlying4 true)) (fun sp hsp => ?_) (fun _ _ => rfl) (by simp) hb (ok_one (by kernel_rfl) rfl (okWide_bool_mk Try.underlying4 true))⟩
  show DataW.TrodAll enc Try.prog W' 0 sp true Try.f3.params.toList [v0, v1, v2, v3] [d0, d1, d2, d3] (p0 ++ (p1 ++ (p2 ++ p3)))
  rw [Try.params3]
  exact trodAll_mk4
    (WideElems.Trod_stays laidOut22 (by kernel_rfl) (of_decide_eq_true (by kernel_rfl)) h0 (fun x hx => hb.same (hlt x (by simp [hx]))) (fun x hx => hsp x (by simp [hx])))
    (WideElems.Trod_stays laidOut22 (by kernel_rfl) (of_decide_eq_true (by kernel_rfl)) h1 (fun x hx => hb.same (hlt x (by simp [hx]))) (fun x hx => hsp x (by simp [hx])))
    (WideElems.Trod_stays laidOut22 (by kernel_rfl) (of_decide_eq_true (by kernel_rfl)) h2 (fun x hx => hb.same (hlt x (by simp [hx]))) (fun x hx => hsp x (by simp [hx])))
    (WideElems.Trod_stays laidOut22 (by kernel_rfl) (of_decide_eq_true (by kernel_rfl)) h3 (fun x hx => hb.same (hlt x (by simp [hx]))) (fun x hx => hsp x (by simp [hx])))

theorem microRuns_holds : Rows.MicroRunsSaid :=
  OpenClaim.holds_of_wide 3 Try.f3 rfl rfl rfl rfl rfl rfl rfl ⟨rfl, rfl, rfl, rfl, rfl⟩ rfl rfl rfl rfl rfl (by kernel_rfl) Try.func3 (by kernel_rfl)
    (of_decide_eq_true (by kernel_rfl)) (by unfold Func.isWrapper; first | (rw [if_pos (by decide +kernel)]; kernel_rfl) | (rw [if_neg (by decide +kernel)]; exact ⟨rfl, rfl⟩))
    (fun os started H enc _ => microRuns_lifted os started H enc)
#print axioms microRuns_holds
end Go.Proofs.Yteikpddilabppaa
