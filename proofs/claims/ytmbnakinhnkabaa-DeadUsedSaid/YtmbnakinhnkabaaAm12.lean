/- AM: a region whose order is the text's. -/
import Derived.Test.YtmbnakinhnkabaaAm11
namespace Go.AM
set_option linter.unusedVariables false
set_option linter.unusedSectionVars false
set_option linter.unusedSimpArgs false
variable {P : Program} {φ : Emb} {w : World}

/-- The contract of a call: what comes of it, whatever the world around the named heap. -/
def Con (P : Program) : ConT := fun f args H R => Enters P f ∧ ∀ φ w (xs : Array Value), F2 (relA φ) args xs.toList → HRel φ H w →
  Calls P f xs w fun e w' => ∃ φ' v x H', e = .returned x ∧ R v H' ∧ relA φ' v x ∧ HRel φ' H' w' ∧ Fr φ H w φ' H' w'

variable {F : Fence} [Wide F]
/-- One operation, inside a fence that lets everything in. -/
def stp (F : Fence) (P : Program) (ops : Array Oper) (Q : Exit → Act → World → Prop) (o : Oper) (K : Act → World → Prop) (a : Act) (w : World) : Prop :=
  if Region.wanted o (yielded ops a.tmps) then o.wpIn F 0 P a w K Q else K (a.put o.dst undef) w

theorem wpList_stp {ops : Array Oper} {Q : Exit → Act → World → Prop} {o : Oper} {r : List Oper} {a : Act} (h : stp F P ops Q o (wpListIn F 0 P ops Q r) a w) : wpListIn F 0 P ops Q (o :: r) a w := by
  unfold stp at h
  simp only [wpListIn]
  split
  · rename_i hw; rwa [if_pos hw] at h
  · rename_i hw; rw [if_neg hw] at h; exact ⟨fun f _ => Wide.fn f, h⟩
theorem wpOp_stp {ops : Array Oper} {Q : Exit → Act → World → Prop} {o : Oper} {i : Nat} (hi : ops[i]? = some o) {K : Act → World → Prop} {a : Act} (h : stp F P ops Q o K a w) : wpOpIn F 0 P ops Q i K a w := by
  unfold wpOpIn
  unfold stp at h
  simp only [hi]
  split
  · rename_i hw; rwa [if_pos hw] at h
  · rename_i hw; rw [if_neg hw] at h; exact ⟨fun f _ => Wide.fn f, h⟩
theorem strip_nodefer {op : Op} {ao : AOp} (hs : stripOp P op = some ao) : ∀ c, op ≠ .defer c := by
  intro c e
  subst e
  simp [stripOp] at hs
/-- What an operation comes to is what it comes to outside of rounds. -/
theorem wp_op {o : Oper} {ao : AOp} (hs : stripOp P o.op = some ao) {a : Act} {K : Act → World → Prop} {Q : Exit → Act → World → Prop} (h : o.uponIn F 0 P a K Q ((execOp a.eval o).run P w)) : o.wpIn F 0 P a w K Q := by
  refine ⟨fun f _ => Wide.fn f, ?_⟩
  rw [Oper.semAt_eq F.round a.eval o (strip_nodefer hs)]
  exact h
theorem up_value {o : Oper} {a : Act} {K : Act → World → Prop} {Q : Exit → Act → World → Prop} {x : Value} {w' : World} {r : Result Next} (e : r = .ok (.value x) w') (h : K (a.put o.dst x) w') : o.uponIn F 0 P a K Q r := by rw [e]; exact h
theorem up_skip {o : Oper} {a : Act} {K : Act → World → Prop} {Q : Exit → Act → World → Prop} {w' : World} {r : Result Next} (e : r = .ok .skip w') (h : K (a.put o.dst undef) w') : o.uponIn F 0 P a K Q r := by rw [e]; exact h
theorem up_enter {o : Oper} {a : Act} {K : Act → World → Prop} {Q : Exit → Act → World → Prop} {f : FuncId} {args : Array Value} {w' : World} {r : Result Next} (e : r = .ok (.enter f args) w')
    (h : Calls P f args w' fun e w'' => ∃ x, e = .returned x ∧ K (a.put o.dst x) w'') : o.uponIn F 0 P a K Q r := by
  rw [e, Oper.uponIn_enter]
  refine ⟨fun hd => (by rw [Wide.depth] at hd; cases hd), Wide.calls.2 (h.mono ?_)⟩
  rintro e w'' ⟨x, rfl, hk⟩
  exact hk

def NewB (c : Prop) (φ φ' : Emb) (n : Nat) (w w' : World) : Option Blk → Prop
  | none => φ' = φ ∧ w' = w
  | some B => (c ∧ ∃ cs cap, φ' = φ.ins n ⟨w.heap.size, 0, B.str, cap⟩ ∧ w' = w.alloc (.cells cs B.elem) ∧ BRel φ' B ⟨w.heap.size, 0, B.str, cap⟩ w') ∨ (¬ c ∧ φ' = φ ∧ w' = w)

theorem step_p {N : Nat} {ops : Array Oper} {Q : Exit → Act → World → Prop} {o : Oper} {ao : AOper} (hc : Corr P N ops o ao) {E l : List Slot} {H : Heap} {a : Act} (hS : SOkE φ E l a) (hH : HRel φ H w) {π : Path} (hg : gpath ⟨l, H⟩ ao.guard = some π)
    {need : Option Prop} {v : AV} {B : Option Blk} (ha : aop ⟨l, H⟩ π ao.op = .p need v B) (hn : imp π (needP need)) {KK : Act → World → Prop}
    (k : ∀ φ' x w', NewB (conds π) φ φ' H.next w w' B → (conds π → relA φ' v x) → (¬ conds π → x = undef) → KK (a.put o.dst x) w') : stp F P ops Q o KK a w := by
  have hno : ao.op ≠ .other := fun e => by rw [e] at ha; simp [aop_other] at ha
  have hw := wanted_iff hc hno hS hg
  obtain ⟨hπ, _, _⟩ := gpath_ok hS hg
  unfold stp
  by_cases hcd : conds π
  · rw [if_pos (hw.2 hcd)]
    have hy := op_p (hc.op.resolve_right hno) (gets_of (H := H) hS hπ hcd) hH.blk (hH.fresh _ (Nat.le_refl _)) ha (imp_apply hn hcd)
    refine wp_op (hc.op.resolve_right hno) ?_
    cases B with
    | none =>
      obtain ⟨x, h1, h2⟩ := hy
      exact up_value h1 (k φ x w ⟨rfl, rfl⟩ (fun _ => h2) (fun h => absurd hcd h))
    | some B =>
      obtain ⟨x, cs, cap, h1, h2, h3⟩ := hy
      exact up_value h1 (k _ x _ (.inl ⟨hcd, cs, cap, rfl, rfl, h3⟩) (fun _ => h2) (fun h => absurd hcd h))
  · rw [if_neg (fun e => hcd (hw.1 e))]
    exact k φ undef w (by cases B <;> first | exact ⟨rfl, rfl⟩ | exact .inr ⟨hcd, rfl, rfl⟩) (fun h => absurd h hcd) (fun _ => rfl)

theorem NewB.hrel {c : Prop} {φ' : Emb} {H : Heap} {w' : World} {B : Option Blk} (h : NewB c φ φ' H.next w w' B) (hH : HRel φ H w) : HRel φ' (addBlk H B) w' ∧ Fr φ H w φ' (addBlk H B) w' := by
  have hf := hH.fresh _ (Nat.le_refl _)
  cases B with
  | none => obtain ⟨rfl, rfl⟩ := h; exact ⟨hH, Fr.refl _ _ _⟩
  | some B =>
    rcases h with ⟨_, cs, cap, rfl, rfl, hb⟩ | ⟨_, rfl, rfl⟩
    · refine HRel.renew (w' := w.alloc (.cells cs B.elem)) hH (p := ⟨w.heap.size, 0, B.str, cap⟩) (fun _ _ h => h) rfl rfl rfl ?_ hb ?_ (og := none) (fun g hg => by cases hg) (.inl (Nat.le_refl _)) (fun b hb' _ => heap_alloc_lt w _ hb')
      · simp
      · simp
    · exact hH.grown rfl rfl rfl (Nat.le_refl _) (fun _ _ => rfl) (by simp [addBlk]) fun j D hj hne => by
        have : j ≠ H.next := fun e => hne (by rw [e]; exact hf)
        simpa [addBlk, getB_cons_ne this] using hj

theorem step_t0 {N : Nat} {ops : Array Oper} {Q : Exit → Act → World → Prop} {o : Oper} {ao : AOper} (hc : Corr P N ops o ao) {E l : List Slot} {H : Heap} {a : Act} (hS : SOkE φ E l a) (hH : HRel φ H w) (hg : gpath ⟨l, H⟩ ao.guard = some [])
    {need : Option Prop} {v : AV} {H' : Heap} (ha : aop ⟨l, H⟩ [] ao.op = .t need v H') (hn : needP need) {KK : Act → World → Prop}
    (k : ∀ φ' x w', HRel φ' H' w' → Fr φ H w φ' H' w' → relA φ' v x → KK (a.put o.dst x) w') : stp F P ops Q o KK a w := by
  have hno : ao.op ≠ .other := fun e => by rw [e] at ha; simp [aop_other] at ha
  have hw := wanted_iff hc hno hS hg
  unfold stp
  rw [if_pos (hw.2 trivial)]
  obtain ⟨φ', w', h1, h2, h3⟩ := op_t (hc.op.resolve_right hno) (gets_of (H := H) hS (π := []) trivial trivial) hH ha hn
  refine wp_op (hc.op.resolve_right hno) ?_
  rcases h1 with ⟨x, h1, hr⟩ | ⟨h1, rfl⟩
  · exact up_value h1 (k φ' x w' h2 h3 hr)
  · exact up_skip h1 (k φ' undef w' h2 h3 trivial)

theorem step_call {N : Nat} {ops : Array Oper} {Q : Exit → Act → World → Prop} {o : Oper} {ao : AOper} (hc : Corr P N ops o ao) {E l : List Slot} {H : Heap} {a : Act} (hS : SOkE φ E l a) (hH : HRel φ H w) {π : Path} (hg : gpath ⟨l, H⟩ ao.guard = some π)
    {f : FuncId} {args : List AV} (ha : aop ⟨l, H⟩ π ao.op = .call f args) {R : Post} (hcon : imp π (Con P f args H R)) {KK : Act → World → Prop}
    (k : ∀ φ' v x w' H', conds π → R v H' → HRel φ' H' w' → Fr φ H w φ' H' w' → relA φ' v x → KK (a.put o.dst x) w') (k' : ¬ conds π → KK (a.put o.dst undef) w) : stp F P ops Q o KK a w := by
  have hno : ao.op ≠ .other := fun e => by rw [e] at ha; simp [aop_other] at ha
  have hw := wanted_iff hc hno hS hg
  obtain ⟨hπ, _, _⟩ := gpath_ok hS hg
  unfold stp
  by_cases hcd : conds π
  · rw [if_pos (hw.2 hcd)]
    obtain ⟨hent, hcalls⟩ := imp_apply hcon hcd
    obtain ⟨xs, h1, h2⟩ := op_call (hc.op.resolve_right hno) (gets_of (H := H) hS hπ hcd) ha hent
    refine wp_op (hc.op.resolve_right hno) (up_enter (h1 w) ?_)
    refine (hcalls φ w xs h2 hH).mono fun e w' ⟨φ', v, x, H', he, hR, hv, hh, hfr⟩ => ?_
    exact ⟨x, he, k φ' v x w' H' hcd hR hh hfr hv⟩
  · rw [if_neg (fun e => hcd (hw.1 e))]
    exact k' hcd

/-- Nothing but new blocks. -/
structure Grow (w w' : World) : Prop where
  os : w'.os = w.os
  tape : w'.tape = w.tape
  output : w'.output = w.output
  size : w.heap.size ≤ w'.heap.size
  block : ∀ b, b < w.heap.size → w'.heap[b]? = w.heap[b]?

theorem getB_roL : ∀ (l : List (Nat × Blk)) (i : Nat), getB (roL l) i = (getB l i).map fun B => ⟨B.str, B.sz, B.row, B.elem, false⟩
  | [], _ => rfl
  | (j, ⟨s, n, r, e, b⟩) :: l, i => by
    simp only [roL, getB]
    cases Nat.beq j i with
    | true => rfl
    | false => exact getB_roL l i

theorem HRel.ro {H : Heap} (h : HRel φ H w) : HRel φ (roH H) w where
  blk := fun i B p hB hp => by
    simp only [roH, getB_roL, Option.map_eq_some_iff] at hB
    obtain ⟨C, hC, rfl⟩ := hB
    have hb := h.blk i C p hC hp
    exact ⟨hb.str, hb.rows, fun e => by cases e⟩
  inj := fun i j B C p q hB hC hp hq hne hw => by
    simp only [roH, getB_roL, Option.map_eq_some_iff] at hB
    obtain ⟨D, _, rfl⟩ := hB
    cases hw
  fresh := h.fresh
  lt := h.lt

theorem addBs_next : ∀ (N : List Blk) (H : Heap), (addBs H N).next = H.next + N.length
  | [], H => rfl
  | B :: N, H => by simp only [addBs, addBs_next N, List.length_cons]; omega
theorem addBs_lo : ∀ (N : List Blk) (H : Heap) (id : Nat), id < H.next → getB (addBs H N).blks id = getB H.blks id
  | [], H, id, h => rfl
  | B :: N, H, id, h => by
    simp only [addBs]
    rw [addBs_lo N _ id (by simp; omega), getB_cons_ne (by omega)]
theorem addBs_hi : ∀ (N : List Blk) (H : Heap) (q : Nat), q < N.length → getB (addBs H N).blks (H.next + q) = N[q]?
  | [], H, q, h => by simp at h
  | B :: N, H, q, h => by
    simp only [addBs]
    cases q with
    | zero => rw [addBs_lo N _ _ (by simp)]; simp [getB, Nat.beq_refl]
    | succ q =>
      have := addBs_hi N ⟨H.next + 1, (H.next, B) :: H.blks⟩ q (by simpa using h)
      simp only at this
      rw [show H.next + (q + 1) = H.next + 1 + q by omega, this]
      simp
theorem addBs_new {N : List Blk} {H K : Heap} (hn : H.next = K.next) {id : Nat} (h1 : H.next ≤ id) (h2 : id < H.next + N.length) : getB (addBs H N).blks id = getB (addBs K N).blks id := by
  obtain ⟨q, rfl⟩ : ∃ q, id = H.next + q := ⟨id - H.next, by omega⟩
  rw [addBs_hi N H q (by omega), hn, addBs_hi N K q (by omega)]
theorem allW_get : ∀ {N : List Blk}, allW N = true → ∀ {q : Nat} {B : Blk}, N[q]? = some B → B.wr = true
  | [], _, q, B, h => by simp at h
  | C :: N, hw, q, B, h => by
    simp only [allW] at hw
    split at hw
    · rename_i hC
      cases q with
      | zero => simp at h; subst h; exact hC
      | succ q => exact allW_get hw (by simpa using h)
    · cases hw

/-- What a call leaves that writes nothing and makes some blocks. -/
structure Made (φ : Emb) (H : Heap) (w : World) (N : List Blk) (φ' : Emb) (w' : World) : Prop where
  gr : Grow w w'
  same : ∀ i, i < H.next → φ' i = φ i
  fresh : ∀ i, H.next + N.length ≤ i → φ' i = none
  new : ∀ i p, H.next ≤ i → φ' i = some p → w.heap.size ≤ p.blk ∧ p.blk < w'.heap.size ∧ ∃ B, getB (addBs H N).blks i = some B ∧ BRel φ' B p w'
  inj : ∀ i j p q, H.next ≤ i → H.next ≤ j → φ' i = some p → φ' j = some q → i ≠ j → p.blk ≠ q.blk
theorem made_of {H : Heap} {N : List Blk} {φ' : Emb} {w' : World} (hN : allW N = true) (h : HRel φ' (addBs (roH H) N) w') (hf : Fr φ (roH H) w φ' (addBs (roH H) N) w') : Made φ H w N φ' w' := by
  have hnx : (addBs (roH H) N).next = H.next + N.length := addBs_next N _
  have hnew : ∀ i p, H.next ≤ i → φ' i = some p → ∃ B, getB (addBs (roH H) N).blks i = some B ∧ getB (addBs H N).blks i = some B ∧ B.wr = true := fun i p hi hp => by
    have hlt : i < H.next + N.length := by
      rcases Nat.lt_or_ge i (H.next + N.length) with h' | h'
      · exact h'
      · rw [h.fresh i (by omega)] at hp; cases hp
    obtain ⟨q, rfl⟩ : ∃ q, i = H.next + q := ⟨i - H.next, by omega⟩
    have hq : q < N.length := by omega
    refine ⟨N[q], ?_, ?_, allW_get hN (List.getElem?_eq_getElem hq)⟩
    · exact (addBs_hi N (roH H) q hq).trans (List.getElem?_eq_getElem hq)
    · rw [addBs_hi N H q hq]; exact List.getElem?_eq_getElem hq
  refine ⟨⟨hf.os, hf.tape, hf.output, hf.size, fun b hb => hf.old b hb fun i B p hB hBw _ => ?_⟩, fun i hi => hf.same i hi, fun i hi => h.fresh i (by omega), fun i p hi hp => ?_, fun i j p q hi hj hp hq hne => ?_⟩
  · simp only [roH, getB_roL, Option.map_eq_some_iff] at hB
    obtain ⟨D, _, rfl⟩ := hB
    cases hBw
  · obtain ⟨B, h1, h2, h3⟩ := hnew i p hi hp
    refine ⟨?_, h.lt i p hp, B, h2, h.blk i B p h1 hp⟩
    rcases hf.own i B p h1 h3 hp with h' | ⟨j, C, q, g1, g2, _, _⟩
    · exact h'
    · simp only [roH, getB_roL, Option.map_eq_some_iff] at g1
      obtain ⟨D, _, rfl⟩ := g1
      cases g2
  · obtain ⟨B, h1, _, h3⟩ := hnew i p hi hp
    obtain ⟨C, k1, _, _⟩ := hnew j q hj hq
    exact h.inj i j B C p q h1 k1 hp hq hne h3

theorem step_quiet {N : Nat} {ops : Array Oper} {Q : Exit → Act → World → Prop} {o : Oper} {ao : AOper} (hc : Corr P N ops o ao) {E l : List Slot} {H : Heap} {a : Act} (hS : SOkE φ E l a) (hH : HRel φ H w) {π : Path} (hg : gpath ⟨l, H⟩ ao.guard = some π)
    {f : FuncId} {args : List AV} (ha : aop ⟨l, H⟩ π ao.op = .call f args) {v : AV} {M : List Blk} (hM : allW M = true) (hcon : imp π (Con P f args (roH H) (fun v' H' => v' = v ∧ H' = addBs (roH H) M))) {KK : Act → World → Prop}
    (k : ∀ φ' x w', conds π → Made φ H w M φ' w' → relA φ' v x → KK (a.put o.dst x) w') (k' : ¬ conds π → KK (a.put o.dst undef) w) : stp F P ops Q o KK a w := by
  have hno : ao.op ≠ .other := fun e => by rw [e] at ha; simp [aop_other] at ha
  have hw := wanted_iff hc hno hS hg
  obtain ⟨hπ, _, _⟩ := gpath_ok hS hg
  unfold stp
  by_cases hcd : conds π
  · rw [if_pos (hw.2 hcd)]
    obtain ⟨hent, hcalls⟩ := imp_apply hcon hcd
    obtain ⟨xs, h1, h2⟩ := op_call (hc.op.resolve_right hno) (gets_of (H := H) hS hπ hcd) ha hent
    refine wp_op (hc.op.resolve_right hno) (up_enter (h1 w) ?_)
    refine (hcalls φ w xs h2 hH.ro).mono fun e w' ⟨φ', v', x, H', he, hR, hv, hh, hfr⟩ => ?_
    obtain ⟨rfl, rfl⟩ := hR
    exact ⟨x, he, k φ' x w' hcd (made_of hM hh hfr) hv⟩
  · rw [if_neg (fun e => hcd (hw.1 e))]
    exact k' hcd

theorem BRel.keep {B : Blk} {p : Place} (h : BRel φ B p w) {w' : World} (hb : w'.heap[p.blk]? = w.heap[p.blk]?) : BRel φ B p w' :=
  ⟨h.str, fun i hi => let ⟨xs, a, b, c⟩ := h.rows i hi; ⟨xs, a, b, fun j x hx => by have := c j x hx; unfold World.cell? at this ⊢; rw [hb]; exact this⟩, fun hw => let ⟨e1, e2, e3, cs, e4, e5⟩ := h.own hw; ⟨e1, e2, e3, cs, by rw [hb]; exact e4, e5⟩⟩
theorem BRel.mono {B : Blk} {p : Place} (h : BRel φ B p w) {ψ : Emb} (hle : φ.le ψ) : BRel ψ B p w :=
  ⟨h.str, fun i hi => let ⟨xs, a, b, c⟩ := h.rows i hi; ⟨xs, a.mono fun _ _ => rel_mono hle, b, c⟩, h.own⟩

/-- Some blocks that are named are made. -/
theorem HRel.defs {H : Heap} (h : HRel φ H w) {w' : World} (hg : Grow w w') {φ2 : Emb} (hle : φ.le φ2)
    (hnew : ∀ i p, φ2 i = some p → φ i = some p ∨ (w.heap.size ≤ p.blk ∧ p.blk < w'.heap.size ∧ i < H.next ∧ ∀ B, getB H.blks i = some B → BRel φ2 B p w'))
    (hinj : ∀ i j p q, φ2 i = some p → φ2 j = some q → w.heap.size ≤ p.blk → w.heap.size ≤ q.blk → i ≠ j → p.blk ≠ q.blk) : HRel φ2 H w' where
  blk := fun i B p hB hp => by
    rcases hnew i p hp with h' | ⟨_, _, _, hb⟩
    · exact ((h.blk i B p hB h').mono hle).keep (hg.block _ (h.lt i p h'))
    · exact hb B hB
  inj := fun i j B C p q hB hC hp hq hne hw => by
    rcases hnew i p hp with h1 | ⟨h1, _, _, _⟩ <;> rcases hnew j q hq with h2 | ⟨h2, _, _, _⟩
    · exact h.inj i j B C p q hB hC h1 h2 hne hw
    · have := h.lt i p h1; omega
    · have := h.lt j q h2; omega
    · exact hinj i j p q hp hq h1 h2 hne
  fresh := fun i hi => by
    cases hp : φ2 i with
    | none => rfl
    | some p =>
      rcases hnew i p hp with h' | ⟨_, _, h', _⟩
      · rw [h.fresh i hi] at h'; cases h'
      · omega
  lt := fun i p hp => by
    rcases hnew i p hp with h' | ⟨_, h', _, _⟩
    · exact Nat.lt_of_lt_of_le (h.lt i p h') hg.size
    · exact h'
theorem Fr.defs {φ0 : Emb} {H0 H : Heap} {w0 : World} (hf : Fr φ0 H0 w0 φ H w) {w' : World} (hg : Grow w w') {φ2 : Emb} (hle : φ.le φ2) (hsame : ∀ i, i < H0.next → φ2 i = φ i)
    (hnew : ∀ i p, φ2 i = some p → φ i = some p ∨ w.heap.size ≤ p.blk) : Fr φ0 H0 w0 φ2 H w' where
  le := Emb.le_trans hf.le hle
  same := fun i hi => (hsame i hi).trans (hf.same i hi)
  nx := hf.nx
  size := Nat.le_trans hf.size hg.size
  os := hg.os.trans hf.os
  tape := hg.tape.trans hf.tape
  output := hg.output.trans hf.output
  old := fun b hb hno => by rw [hg.block b (Nat.lt_of_lt_of_le hb hf.size)]; exact hf.old b hb hno
  own := fun i B p hB hw hp => by
    rcases hnew i p hp with h' | h'
    · exact hf.own i B p hB hw h'
    · exact .inl (Nat.le_trans hf.size h')

theorem Made.hrel {H : Heap} {N : List Blk} {φ' : Emb} {w' : World} (h : Made φ H w N φ' w') (hH : HRel φ H w) : HRel φ' (addBs H N) w' ∧ Fr φ H w φ' (addBs H N) w' := by
  have hnx : (addBs H N).next = H.next + N.length := addBs_next N _
  obtain ⟨g1, g2⟩ := hH.grown (w' := w) rfl rfl rfl (Nat.le_refl _) (fun _ _ => rfl) (K := addBs H N) (by omega) fun j D hj hne => by
    have hlt : j < H.next := by
      rcases Nat.lt_or_ge j H.next with h' | h'
      · exact h'
      · exact absurd (hH.fresh j h') hne
    rwa [addBs_lo N H j hlt] at hj
  have hle : φ.le φ' := fun i p hp => by
    have hlt : i < H.next := by
      rcases Nat.lt_or_ge i H.next with h' | h'
      · exact h'
      · rw [hH.fresh i h'] at hp; cases hp
    rw [h.same i hlt]; exact hp
  have hcase : ∀ i p, φ' i = some p → φ i = some p ∨ H.next ≤ i := fun i p hp => by
    rcases Nat.lt_or_ge i H.next with h' | h'
    · rw [h.same i h'] at hp; exact .inl hp
    · exact .inr h'
  refine ⟨g1.defs h.gr hle (fun i p hp => ?_) (fun i j p q hp hq h1 h2 hne => ?_), g2.defs h.gr hle (fun i hi => h.same i hi) fun i p hp => (hcase i p hp).imp id fun hi => (h.new i p hi hp).1⟩
  · rcases hcase i p hp with h' | h'
    · exact .inl h'
    · obtain ⟨n1, n2, B, n3, n4⟩ := h.new i p h' hp
      refine .inr ⟨n1, n2, ?_, fun C hC => ?_⟩
      · rcases Nat.lt_or_ge i (H.next + N.length) with h2 | h2
        · omega
        · rw [h.fresh i h2] at hp; cases hp
      · rw [n3] at hC; cases hC; exact n4
  · rcases hcase i p hp with h' | h'
    · have := hH.lt i p h'; omega
    · rcases hcase j q hq with h'' | h''
      · have := hH.lt j q h''; omega
      · exact h.inj i j p q h' h'' hp hq hne

/-! ### Slots written -/
theorem pathOk_cons {l : List Slot} {d : Nat} {π : Path} {v : AV} {K : List Nat} (hd : d ∉ K) : ∀ {p : Path}, keysIn K p → pathOk l p → pathOk (⟨d, π, v⟩ :: l) p
  | [], _, _ => trivial
  | (e, w, b) :: r, hk, hp => by
    have he : e ≠ d := fun h => hd (h ▸ hk (e, w, b) (by simp))
    exact ⟨by rw [slotAt_cons_ne he]; exact hp.1, pathOk_cons hd (fun x hx => hk x (by simp [hx])) hp.2⟩

theorem keysIn_mono {K K' : List Nat} (h : ∀ x ∈ K, x ∈ K') {p : Path} (hp : keysIn K p) : keysIn K' p := fun e he => h _ (hp e he)

theorem getD_put_self {a : Act} {d : Nat} {x : Value} (h : d < a.tmps.size) : (a.put (some d) x).tmps.getD d undef = x := by
  simp [Act.put, h]
theorem getD_put_ne {a : Act} {d n : Nat} {x : Value} (h : n ≠ d) : (a.put (some d) x).tmps.getD n undef = a.tmps.getD n undef := by
  simp [Act.put, Array.getElem?_setIfInBounds_ne (Ne.symm h)]

theorem sok_put {φ' : Emb} (hle : φ.le φ') {l : List Slot} {a : Act} {K K' : List Nat} (hS : SOk φ l a K) (hKK : ∀ x ∈ K, x ∈ K') {N d : Nat} (hd : d < N) (hN : a.tmps.size = N) (hdK : d ∉ K') {π : Path} (hπ : pathOk l π) (hkπ : keysIn K' π) {v : AV} {x : Value}
    (h1 : conds π → relA φ' v x) (h2 : ¬ conds π → x = undef) : SOk φ' (⟨d, π, v⟩ :: l) (a.put (some d) x) K' := by
  intro n sl hs
  by_cases hn : n = d
  · subst hn
    rw [slotAt_cons_self] at hs
    cases hs
    refine ⟨rfl, fun hc => ?_, fun hc => ?_, pathOk_cons hdK hkπ hπ, hkπ⟩
    · rw [getD_put_self (by omega)]; exact h1 hc
    · rw [getD_put_self (by omega)]; exact h2 hc
  · rw [slotAt_cons_ne hn] at hs
    have hk := hS n sl hs
    refine ⟨hk.num, fun hc => ?_, fun hc => ?_, pathOk_cons hdK (keysIn_mono hKK hk.keys) hk.path, keysIn_mono hKK hk.keys⟩
    · rw [getD_put_ne hn]; exact relA_mono hle (hk.on hc)
    · rw [getD_put_ne hn]; exact hk.off hc

theorem sok_mono {φ' : Emb} (hle : φ.le φ') {l : List Slot} {a : Act} {K K' : List Nat} (hS : SOk φ l a K) (hKK : ∀ x ∈ K, x ∈ K') : SOk φ' l a K' := fun n sl hs =>
  let hk := hS n sl hs
  ⟨hk.num, fun hc => relA_mono hle (hk.on hc), hk.off, hk.path, keysIn_mono hKK hk.keys⟩

/-- The slots that a guard has asked, one more. -/
def addK (K : List Nat) : Option (Nat × Bool) → List Nat
  | none => K
  | some (d, _) => d :: K

theorem addK_sub (K : List Nat) (g : Option (Nat × Bool)) : ∀ x ∈ K, x ∈ addK K g := by
  intro x hx
  cases g with
  | none => exact hx
  | some g => exact List.mem_cons_of_mem _ hx

theorem gpath_keys {l : List Slot} {H : Heap} {a : Act} {K : List Nat} (hS : SOk φ l a K) {g : Option (Nat × Bool)} {π : Path} (h : gpath ⟨l, H⟩ g = some π) : keysIn (addK K g) π := by
  obtain ⟨_, h1, h2⟩ := gpath_ok hS.toE h
  cases g with
  | none => rw [h1 rfl]; intro e he; cases he
  | some g =>
    obtain ⟨d, w⟩ := g
    obtain ⟨p, b, hs, rfl⟩ := h2 d w rfl
    intro e he
    cases he with
    | head => exact List.mem_cons_self
    | tail _ he => exact List.mem_cons_of_mem _ ((hS d _ hs).keys e he)

theorem noDst_spec {d : Nat} : ∀ {l : List AOper}, noDst d l = true → ∀ o ∈ l, o.dst ≠ some d
  | [], _, o, ho => by cases ho
  | x :: r, h, o, ho => by
    simp only [noDst] at h
    cases hd : x.dst with
    | none =>
      rw [hd] at h
      cases ho with
      | head => rw [hd]; simp
      | tail _ ho => exact noDst_spec h o ho
    | some e =>
      rw [hd] at h
      simp only at h
      split at h
      · simp at h
      · rename_i hb
        have hne : e ≠ d := fun h => by rw [h, Nat.beq_refl] at hb; cases hb
        cases ho with
        | head => rw [hd]; simpa using hne
        | tail _ ho => exact noDst_spec h o ho

theorem okG_head {o : AOper} {r : List AOper} (h : okG (o :: r) = true) : okG r = true ∧ ∀ d w, o.guard = some (d, w) → ∀ x ∈ o :: r, x.dst ≠ some d := by
  simp only [okG] at h
  cases hg : o.guard with
  | none => rw [hg] at h; exact ⟨h, fun d w e => by cases e⟩
  | some g =>
    obtain ⟨d, w⟩ := g
    rw [hg] at h
    simp only [Bool.and_eq_true] at h
    exact ⟨h.2, fun d' w' e => by cases e; exact noDst_spec h.1⟩

theorem put_defers' (a : Act) (d : Option Nat) (x : Value) : (a.put d x).defers = a.defers := by cases d <;> rfl
theorem put_size (a : Act) (d : Option Nat) (x : Value) : (a.put d x).tmps.size = a.tmps.size := by cases d <;> simp [Act.put]

theorem Inv.put {φ₀ : Emb} {H₀ : Heap} {w₀ : World} {N : Env} {l : List Slot} {H : Heap} {a : Act} {K : List Nat} (h : Inv φ₀ H₀ w₀ N φ ⟨l, H⟩ a w K) {φ' : Emb} {H' : Heap} {w' : World} (hH : HRel φ' H' w') (hF : Fr φ H w φ' H' w') {g : Option (Nat × Bool)} {π : Path} (hg : gpath ⟨l, H⟩ g = some π)
    {d : Option Nat} (hd : ∀ e, d = some e → e < N.n ∧ e ∉ addK K g) {v : AV} {x : Value} (h1 : conds π → relA φ' v x) (h2 : ¬ conds π → x = undef) : Inv φ₀ H₀ w₀ N φ' (St.put ⟨l, H'⟩ d π v) (a.put d x) w' (addK K g) := by
  obtain ⟨hπ, _, _⟩ := gpath_ok h.sok.toE hg
  have ho : Oth w w' := .of h.heap hF
  cases d with
  | none => exact ⟨sok_mono hF.le h.sok (addK_sub K g), hH, h.fr.trans hF, h.defers.keep ho, h.size, h.oth.trans ho⟩
  | some d =>
    obtain ⟨q1, q2⟩ := hd d rfl
    exact ⟨sok_put hF.le h.sok (addK_sub K g) q1 h.size q2 hπ (gpath_keys h.sok hg) h1 h2, hH, h.fr.trans hF, (put_defers' a (some d) x).symm ▸ h.defers.keep ho, by rw [put_size]; exact h.size, h.oth.trans ho⟩

theorem imp_cd {π : Path} {p : Prop} (h : p) : imp π p := by
  induction π with
  | nil => exact h
  | cons e r ih => obtain ⟨_, _, _⟩ := e; exact fun _ => ih

/-- One operation in the order of the text. -/
theorem region_step {φ₀ : Emb} {H₀ : Heap} {w₀ : World} {N : Env} {ops : Array Oper} {Q : Exit → Act → World → Prop} {Qs : St → Prop} {o : Oper} {ao : AOper} {al : List AOper} (hc : Corr P N.n ops o ao) (hG : okG (ao :: al) = true) {KQ : Act → World → Prop}
    {φ : Emb} {s : St} {a : Act} {w : World} {K : List Nat} (hI : Inv φ₀ H₀ w₀ N φ s a w K) (hK : ∀ d ∈ K, ∀ x ∈ ao :: al, x.dst ≠ some d) (h : rwp (Con P) (ao :: al) s Qs)
    (ih : ∀ φ s a w K, Inv φ₀ H₀ w₀ N φ s a w K → (∀ d ∈ K, ∀ x ∈ al, x.dst ≠ some d) → rwp (Con P) al s Qs → KQ a w) : stp F P ops Q o KQ a w := by
  obtain ⟨hG', hGd⟩ := okG_head hG
  have hK' : ∀ d ∈ addK K ao.guard, ∀ x ∈ al, x.dst ≠ some d := by
    intro d hd x hx
    cases hg : ao.guard with
    | none => rw [hg] at hd; exact hK d hd x (List.mem_cons_of_mem _ hx)
    | some g =>
      obtain ⟨e, ww⟩ := g
      rw [hg] at hd
      cases hd with
      | head => exact hGd _ _ hg x (List.mem_cons_of_mem _ hx)
      | tail _ hd => exact hK d hd x (List.mem_cons_of_mem _ hx)
  have hdn : ao.op ≠ .other → ∀ e, o.dst = some e → e < N.n ∧ e ∉ addK K ao.guard := by
    intro hno e he
    refine ⟨(hc.lt.resolve_left hno) e he, fun hin => ?_⟩
    have he' : ao.dst = some e := hc.dst.trans he
    cases hg : ao.guard with
    | none => rw [hg] at hin; exact hK e hin ao (by simp) he'
    | some g =>
      obtain ⟨d, ww⟩ := g
      rw [hg] at hin
      cases hin with
      | head => exact hGd _ _ hg ao (by simp) he'
      | tail _ hin => exact hK e hin ao (by simp) he'
  obtain ⟨tl, H⟩ := s
  simp only [rwp] at h
  cases hg : gpath ⟨tl, H⟩ ao.guard with
  | none => rw [hg] at h; exact h.elim
  | some π =>
    rw [hg] at h
    simp only at h
    cases ha : aop ⟨tl, H⟩ π ao.op with
    | bad => rw [ha] at h; exact h.elim
    | p need v B =>
      have hno : ao.op ≠ .other := fun e => by rw [e] at ha; simp [aop_other] at ha
      rw [ha] at h
      have hh : imp π (needP need) ∧ rwp (Con P) al (St.put ⟨tl, addBlk H B⟩ ao.dst π v) Qs := by
        cases need with
        | none => exact ⟨by simp only [needP]; clear h ha hg; induction π with
            | nil => trivial
            | cons e r ih => intro _; exact ih, h⟩
        | some p => exact h
      refine step_p hc hI.sok.toE hI.heap hg ha hh.1 fun φ' x w' hnb h1 h2 => ?_
      obtain ⟨hH', hF'⟩ := hnb.hrel hI.heap
      exact ih φ' _ _ w' _ (by rw [hc.dst]; exact hI.put hH' hF' hg (hdn hno) h1 h2) hK' hh.2
    | t need v H' =>
      have hno : ao.op ≠ .other := fun e => by rw [e] at ha; simp [aop_other] at ha
      rw [ha] at h
      cases htl : ao.tl with
      | false => cases need <;> (rw [htl] at h; exact h.elim)
      | true =>
        cases π with
        | cons e r => cases need <;> (rw [htl] at h; exact h.elim)
        | nil =>
          have hh : needP need ∧ rwp (Con P) al (St.put ⟨tl, H'⟩ ao.dst [] v) Qs := by
            cases hx : exOk ⟨tl, H⟩ ao with
            | false => cases need <;> (rw [htl, hx] at h; exact h.elim)
            | true => cases need <;> (rw [htl, hx] at h; first | exact ⟨trivial, h⟩ | exact h)
          refine step_t0 hc hI.sok.toE hI.heap hg ha hh.1 fun φ' x w' hH' hF' hv => ?_
          exact ih φ' _ _ w' _ (by rw [hc.dst]; exact hI.put hH' hF' hg (hdn hno) (fun _ => hv) (fun h => absurd trivial h)) hK' hh.2
    | call f args =>
      have hno : ao.op ≠ .other := fun e => by rw [e] at ha; simp [aop_other] at ha
      rw [ha] at h
      simp only [callW] at h
      have quiet : (∃ v M, allW M = true ∧ imp π (Con P f args (roH H) (fun v' H' => v' = v ∧ H' = addBs (roH H) M)) ∧ rwp (Con P) al (St.put ⟨tl, addBs H M⟩ ao.dst π v) Qs) → stp F P ops Q o KQ a w := by
        rintro ⟨v, M, hM, hcon, hrest⟩
        refine step_quiet hc hI.sok.toE hI.heap hg ha hM hcon (fun φ' x w' hcd hmade hv => ?_) (fun hnc => ?_)
        · obtain ⟨hH', hF'⟩ := hmade.hrel hI.heap
          exact ih φ' _ _ w' _ (by rw [hc.dst]; exact hI.put hH' hF' hg (hdn hno) (fun _ => hv) (fun h => absurd hcd h)) hK' hrest
        · obtain ⟨hH', hF'⟩ := hI.heap.grown (w' := w) rfl rfl rfl (Nat.le_refl _) (fun _ _ => rfl) (K := addBs H M) (by rw [addBs_next]; show H.next ≤ _; omega) fun j D hj hne => by
            have hlt : j < H.next := by
              rcases Nat.lt_or_ge j H.next with h' | h'
              · exact h'
              · exact absurd (hI.heap.fresh j h') hne
            rwa [addBs_lo M H j hlt] at hj
          exact ih φ _ _ w _ (by rw [hc.dst]; exact hI.put hH' hF' hg (hdn hno) (fun h => absurd h hnc) (fun _ => rfl)) hK' hrest
      cases htl : ao.tl with
      | false => rw [htl] at h; exact quiet h
      | true =>
        cases π with
        | cons e r =>
          rw [htl] at h
          rcases h with h | ⟨hcd0, R, hcon, hrest⟩
          · exact quiet h
          · refine step_call hc hI.sok.toE hI.heap hg ha (R := R) (imp_cd hcon) (fun φ' v' x w' H' hcd hR hH' hF' hv => ?_) (fun hnc => absurd hcd0 hnc)
            exact ih φ' _ _ w' _ (by rw [hc.dst]; exact hI.put hH' hF' hg (hdn hno) (fun _ => hv) (fun h => absurd hcd0 h)) hK' (hrest v' H' hR)
        | nil =>
          rw [htl] at h
          obtain ⟨R, hcon, hrest⟩ := h
          refine step_call hc hI.sok.toE hI.heap hg ha (R := R) hcon (fun φ' v' x w' H' hcd hR hH' hF' hv => ?_) (fun hnc => absurd trivial hnc)
          exact ih φ' _ _ w' _ (by rw [hc.dst]; exact hI.put hH' hF' hg (hdn hno) (fun _ => hv) (fun h => absurd trivial h)) hK' (hrest v' H' hR)

theorem region_seq {φ₀ : Emb} {H₀ : Heap} {w₀ : World} {N : Env} {ops : Array Oper} {Q : Exit → Act → World → Prop} {Qs : St → Prop}
    (hQ : ∀ φ s a w K, Inv φ₀ H₀ w₀ N φ s a w K → Qs s → Q .normal a w) :
    ∀ (l : List Oper) (al : List AOper), F2 (Corr P N.n ops) l al → okG al = true → ∀ (φ : Emb) (s : St) (a : Act) (w : World) (K : List Nat), Inv φ₀ H₀ w₀ N φ s a w K → (∀ d ∈ K, ∀ o ∈ al, o.dst ≠ some d) → rwp (Con P) al s Qs → wpListIn F 0 P ops Q l a w
  | _, _, .nil, _, φ, s, a, w, K, hI, _, h => hQ φ s a w K hI h
  | _, _, .cons (a := o) (b := ao) (l := l) (m := al) hc hr, hG, φ, s, a, w, K, hI, hK, h =>
    wpList_stp (region_step hc hG hI hK h fun φ s a w K => region_seq hQ l al hr (okG_head hG).1 φ s a w K)

end Go.AM
