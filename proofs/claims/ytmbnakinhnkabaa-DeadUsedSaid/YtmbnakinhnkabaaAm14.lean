/- AM: a region that draws its order: the text's order tells what comes of all orders. -/
import Derived.Test.YtmbnakinhnkabaaAm13
namespace Go.AM
set_option linter.unusedVariables false
set_option linter.unusedSectionVars false
set_option linter.unusedSimpArgs false
variable {P : Program} {φ : Emb} {w : World}

/-- 'i' comes behind 'j', whatever the order: every set that holds what its members wait for, and what 'o' waits for, holds 'j'. -/
def Behind (ops : Array Oper) (o : Oper) (j : Nat) : Prop := ∀ L : Nat → Prop, (∀ i o j, L i → ops[i]? = some o → waits o j = true → L j) → (∀ j, waits o j = true → L j) → L j

/-! ### Operations that look at no heap, that turn it -/
theorem quiet_aop {l : List Slot} {H H' : Heap} {π : Path} {o : AOp} (h : quietOp o = true) : aop ⟨l, H⟩ π o = aop ⟨l, H'⟩ π o := by
  have hg : St.get ⟨l, H⟩ π = St.get ⟨l, H'⟩ π := by funext y; cases y <;> rfl
  have hs : ∀ cs y w, getsl ⟨l, H⟩ π cs y w = getsl ⟨l, H'⟩ π cs y w := by intro cs y w; cases y <;> rfl
  cases o <;> first | (simp [quietOp] at h; done) | (simp only [aop, hg, hs]; done) | rfl
theorem bin_shape (op : BinOp) (x y : AV) : (∃ n v, bin op x y = .p n v none) ∨ bin op x y = .bad := by
  unfold bin shiftR arith; (repeat' split) <;> first | exact .inr rfl | exact .inl ⟨_, _, rfl⟩
theorem quiet_shape {s : St} {π : Path} {o : AOp} (h : quietOp o = true) : (∃ n v, aop s π o = .p n v none) ∨ aop s π o = .bad := by
  cases o <;> first | (simp [quietOp] at h; done) | skip
  all_goals simp only [aop]
  case bin op x y => exact bin_shape _ _ _
  all_goals try (unfold eqB)
  all_goals try (unfold eqS)
  all_goals try (unfold nilq)
  all_goals try (unfold un)
  all_goals try (unfold fieldOf)
  all_goals try (unfold eqT)
  all_goals try (unfold idxT)
  all_goals try (unfold cat)
  all_goals ((repeat' split) <;> first | exact .inr rfl | exact .inl ⟨_, _, rfl⟩)
theorem chg_p {s : St} {π : Path} {o : AOp} (h : chgOp o = true) {need : Option Prop} {v : AV} {B : Option Blk} (ha : aop s π o = .p need v B) : B = none := by
  cases o <;> first | (simp [chgOp] at h; done) | skip
  all_goals simp only [aop] at ha
  case app => unfold app at ha; (repeat' split at ha) <;> first | cases ha; done | (cases ha; rfl)
  case st1 => unfold st1 at ha; (repeat' split at ha) <;> first | cases ha; done | (cases ha; rfl)
  case stn => unfold stn at ha; (repeat' split at ha) <;> first | cases ha; done | (cases ha; rfl)
theorem chg_call {s : St} {π : Path} {o : AOp} (h : chgOp o = true) {f : FuncId} {args : List AV} (ha : aop s π o = .call f args) : False := by
  cases o <;> first | (simp [chgOp] at h; done) | skip
  all_goals simp only [aop] at ha
  case app => unfold app at ha; (repeat' split at ha) <;> cases ha
  case st1 => unfold st1 at ha; (repeat' split at ha) <;> cases ha
  case stn => unfold stn at ha; (repeat' split at ha) <;> cases ha
theorem chg_next {s : St} {π : Path} {o : AOp} (h : chgOp o = true) {need : Option Prop} {v : AV} {H' : Heap} (ha : aop s π o = .t need v H') : s.heap.next ≤ H'.next := by
  cases o <;> first | (simp [chgOp] at h; done) | skip
  all_goals simp only [aop] at ha
  case app => unfold app at ha; (repeat' split at ha) <;> first | (cases ha; done) | (cases ha; exact Nat.le_succ _)
  case st1 => unfold st1 at ha; (repeat' split at ha) <;> first | (cases ha; done) | (cases ha; exact Nat.le_refl _)
  case stn => unfold stn at ha; (repeat' split at ha) <;> first | (cases ha; done) | (cases ha; exact Nat.le_refl _)
theorem chg_noquiet {o : AOp} (h : chgOp o = true) : quietOp o = false := by cases o <;> first | rfl | simp [chgOp] at h

/-- Which block an operation that turns the heap turns. -/
inductive Tgt where
  | all
  | one (Y : Nat)
  | no
def Tgt.off : Tgt → Nat → Prop
  | .all, _ => False
  | .one Y, X => Y ≠ X
  | .no, _ => True
def Tgt.phys (φ : Emb) : Tgt → Nat → Prop
  | .all, _ => False
  | .one Y, b => ∀ p, φ Y = some p → p.blk ≠ b
  | .no, _ => True
def tgtOf (s : St) (o : AOp) : Tgt :=
  match wrAddr s o with
  | some Y => .one Y
  | none => if appNil o = true then .no else .all

theorem st1_only {H : Heap} {a : AA} {x : CV} {need : Option Prop} {v : AV} {H' : Heap} (h : st1 H a x = .t need v H') : ∃ B H'', getB H.blks a.id = some B ∧ st1 ⟨H.next, [(a.id, B)]⟩ a x = .t need v H'' ∧ ∀ X, a.id ≠ X → getB H'.blks X = getB H.blks X := by
  have hx : ∃ B, getB H.blks a.id = some B := by
    cases hB : getB H.blks a.id with
    | none => unfold st1 at h; rw [hB] at h; simp at h
    | some B => exact ⟨B, rfl⟩
  obtain ⟨B, hB⟩ := hx
  refine ⟨B, ?_⟩
  unfold st1 at h ⊢
  simp only [hB, getB, Nat.beq_refl] at h ⊢
  (repeat' split at h) <;> first
    | (cases h; done)
    | (simp only [Res.t.injEq] at h
       obtain ⟨rfl, rfl, rfl⟩ := h
       simp only [*]
       exact ⟨_, trivial, rfl, fun X hX => getB_setB_ne (Ne.symm hX)⟩)
theorem stn_only {H : Heap} {n : Nat} {a : AA} {x : List Seg} {need : Option Prop} {v : AV} {H' : Heap} (h : stn H n a x = .t need v H') : ∃ B H'', getB H.blks a.id = some B ∧ stn ⟨H.next, [(a.id, B)]⟩ n a x = .t need v H'' ∧ ∀ X, a.id ≠ X → getB H'.blks X = getB H.blks X := by
  have hx : ∃ B, getB H.blks a.id = some B := by
    cases hB : getB H.blks a.id with
    | none => unfold stn at h; rw [hB] at h; simp at h
    | some B => exact ⟨B, rfl⟩
  obtain ⟨B, hB⟩ := hx
  refine ⟨B, ?_⟩
  unfold stn at h ⊢
  simp only [hB, getB, Nat.beq_refl] at h ⊢
  (repeat' split at h) <;> first
    | (cases h; done)
    | (simp only [Res.t.injEq] at h
       obtain ⟨rfl, rfl, rfl⟩ := h
       simp only [*]
       exact ⟨_, trivial, rfl, fun X hX => getB_setB_ne (Ne.symm hX)⟩)

theorem HRel.only {H : Heap} (h : HRel φ H w) {Y : Nat} {B C : Blk} (hB : getB H.blks Y = some B) (hC : C.str = B.str ∧ C.sz = B.sz ∧ C.row = B.row ∧ C.elem = B.elem ∧ (C.wr = true → B.wr = true)) : HRel φ ⟨H.next, [(Y, C)]⟩ w where
  blk := fun i D p hD hp => by
    by_cases hi : i = Y
    · subst hi
      rw [getB_cons_self] at hD
      cases hD
      have hb := h.blk i B p hB hp
      obtain ⟨h1, h2, h3, h4, h5⟩ := hC
      have hn : C.n = B.n := by unfold Blk.n; rw [h2]
      exact ⟨by rw [h1]; exact hb.str, fun r hr => by rw [h3, h1]; exact hb.rows r (by omega), fun hw => by rw [h4, hn]; exact hb.own (h5 hw)⟩
    · rw [getB_cons_ne hi] at hD; simp [getB] at hD
  inj := fun i j D E p q hD hE hp hq hne hw => by
    by_cases hi : i = Y
    · by_cases hj : j = Y
      · exact absurd (hi.trans hj.symm) hne
      · rw [getB_cons_ne hj] at hE; simp [getB] at hE
    · rw [getB_cons_ne hi] at hD; simp [getB] at hD
  fresh := h.fresh
  lt := h.lt

/-- What an operation turns, among the blocks that are named. -/
theorem tgt_names {s : St} {o : AOp} {need : Option Prop} {v : AV} {H' : Heap} (h : aop s [] o = .t need v H') {X : Nat} (hX : (tgtOf s o).off X) (hlt : X < s.heap.next) : getB H'.blks X = getB s.heap.blks X := by
  cases o with
  | st1 a x =>
    simp only [aop] at h
    split at h
    · rename_i p v' e1 e2
      obtain ⟨B, H'', _, _, g⟩ := st1_only h
      refine g X ?_
      simpa [tgtOf, wrAddr, e1, Tgt.off] using hX
    · cases h
  | stn n a x =>
    simp only [aop] at h
    split at h
    · rename_i p v' e1 e2
      obtain ⟨B, H'', _, _, g⟩ := stn_only h
      refine g X ?_
      simpa [tgtOf, wrAddr, e1, Tgt.off] using hX
    · cases h
  | app k b t x y =>
    cases hx : appNil (.app k b t x y) with
    | false => simp [tgtOf, wrAddr, hx, Tgt.off] at hX
    | true =>
      have ex : x = .k (.c .nils) := by
        unfold appNil at hx
        split at hx
        · rename_i e; cases e; rfl
        · cases hx
      subst ex
      simp only [aop] at h
      unfold app at h
      (repeat' split at h) <;> first | (cases h; done) | (cases h; exact getB_cons_ne (by omega)) | (simp_all [St.get]; done)
  | _ => simp [tgtOf, wrAddr, appNil, Tgt.off] at hX

/-- .. and in memory. -/
theorem tgt_phys {o : Oper} {ao : AOp} (hs : stripOp P o.op = some ao) {s : St} {a : Act} (hg : ∀ H, Gets φ ⟨s.tmps, H⟩ [] a) (hH : HRel φ s.heap w)
    {need : Option Prop} {v : AV} {H' : Heap} (h : aop s [] ao = .t need v H') (hn : needP need) {w' : World} (hw : (∃ x, (execOp a.eval o).run P w = .ok (.value x) w') ∨ (execOp a.eval o).run P w = .ok .skip w')
    {b : Nat} (hb : b < w.heap.size) (ht : (tgtOf s ao).phys φ b) : w'.heap[b]? = w.heap[b]? := by
  have fin : ∀ (Hr Hr' : Heap), HRel φ Hr w → aop ⟨s.tmps, Hr⟩ [] ao = .t need v Hr' → (∀ i B p, getB Hr.blks i = some B → B.wr = true → φ i = some p → p.blk ≠ b) → w'.heap[b]? = w.heap[b]? := by
    intro Hr Hr' h1 h2 h3
    obtain ⟨φ', w'', g1, g2, g3⟩ := op_t hs (s := ⟨s.tmps, Hr⟩) (hg Hr) h1 h2 hn
    have e : w'' = w' := by
      rcases g1 with ⟨x, g1, _⟩ | ⟨g1, _⟩ <;> rcases hw with ⟨y, hw⟩ | hw <;> (rw [g1] at hw; cases hw <;> rfl)
    rw [← e]
    exact g3.old b hb h3
  have hget : ∀ H y, St.get ⟨s.tmps, H⟩ [] y = s.get [] y := fun H y => by cases y <;> rfl
  have one : ∀ Y B, getB s.heap.blks Y = some B → (∀ p, φ Y = some p → p.blk ≠ b) → ∀ i D p, getB [(Y, B)] i = some D → D.wr = true → φ i = some p → p.blk ≠ b := fun Y B _ hY i D p hD _ hp => by
    by_cases hi : i = Y
    · subst hi; exact hY p hp
    · rw [getB_cons_ne hi] at hD; simp [getB] at hD
  cases ao with
  | st1 y x =>
    simp only [aop] at h
    split at h
    · rename_i p v' e1 e2
      obtain ⟨B, H'', k1, k2, g⟩ := st1_only h
      refine fin ⟨s.heap.next, [(p.id, B)]⟩ H'' (hH.only k1 ⟨rfl, rfl, rfl, rfl, id⟩) (by simp only [aop, hget, e1, e2]; exact k2) (one p.id B k1 (by simpa [tgtOf, wrAddr, e1, Tgt.phys] using ht))
    · cases h
  | stn n y x =>
    simp only [aop] at h
    split at h
    · rename_i p v' e1 e2
      obtain ⟨B, H'', k1, k2, g⟩ := stn_only h
      refine fin ⟨s.heap.next, [(p.id, B)]⟩ H'' (hH.only k1 ⟨rfl, rfl, rfl, rfl, id⟩) (by simp only [aop, hget, e1, e2]; exact k2) (one p.id B k1 (by simpa [tgtOf, wrAddr, e1, Tgt.phys] using ht))
    · cases h
  | app k bt t x y =>
    cases hx : appNil (.app k bt t x y) with
    | false => simp [tgtOf, wrAddr, hx, Tgt.phys] at ht
    | true =>
      have ex : x = .k (.c .nils) := by
        unfold appNil at hx
        split at hx
        · rename_i e; cases e; rfl
        · cases hx
      subst ex
      have hnil : s.get [] (.k (.c .nils)) = .c .nils := rfl
      simp only [aop, hnil] at h
      cases hy : s.get [] y with
      | c cv =>
        rw [hy] at h
        cases cv with
        | slice c inner m =>
          cases inner with
          | true => unfold app at h; cases h
          | false =>
            cases hC : getB s.heap.blks c.id with
            | none => unfold app at h; simp only [hC] at h; cases h
            | some C =>
              unfold app at h
              simp only [hC] at h
              cases hsz : C.sz with
              | none => simp only [hsz] at h; cases h
              | some cc =>
                cases hst : Nat.beq C.str k with
                | false => simp only [hsz, hst] at h; cases h
                | true =>
                  simp only [hsz, hst] at h
                  cases h
                  refine fin ⟨s.heap.next, [(c.id, ⟨C.str, C.sz, C.row, C.elem, false⟩)]⟩ _ (hH.only hC ⟨rfl, rfl, rfl, rfl, fun h => by cases h⟩) (by simp only [aop, hget, hy, hnil]; unfold app; simp only [getB, Nat.beq_refl, hsz, hst]; rfl) (fun i D p hD hw _ => ?_)
                  by_cases hi : i = c.id
                  · subst hi; rw [getB_cons_self] at hD; cases hD; cases hw
                  · rw [getB_cons_ne hi] at hD; simp [getB] at hD
        | _ => unfold app at h; cases h
      | _ => rw [hy] at h; unfold app at h; cases h
  | _ => simp [tgtOf, wrAddr, appNil, Tgt.phys] at ht

theorem chg_noaddr {o : AOp} (h : chgOp o = true) : addrOf o = none := by cases o <;> first | rfl | simp [chgOp] at h
theorem addr_cases {o : AOp} {a : Nat} (h : addrOf o = some a) : o = .ld1 (.t a) ∨ ∃ n, o = .ldn n (.t a) := by
  cases o with
  | ld1 x => cases x <;> simp [addrOf] at h; subst h; exact .inl rfl
  | ldn n x => cases x <;> simp [addrOf] at h; subst h; exact .inr ⟨n, rfl⟩
  | _ => simp [addrOf] at h
theorem ld1_shape {H : Heap} {a : AA} {need : Option Prop} {v : AV} {B : Option Blk} (h : ld1 H a = .p need v B) : B = none ∧ ∃ C, getB H.blks a.id = some C ∧ ld1 ⟨H.next, [(a.id, C)]⟩ a = .p need v B := by
  cases hC : getB H.blks a.id with
  | none => unfold ld1 at h; rw [hC] at h; cases h
  | some C =>
    have e : ld1 ⟨H.next, [(a.id, C)]⟩ a = ld1 H a := by unfold ld1; simp only [getB, Nat.beq_refl, hC]
    refine ⟨?_, C, rfl, e.trans h⟩
    unfold ld1 at h
    (repeat' split at h) <;> first | (cases h; done) | (cases h; rfl)
theorem ldn_shape {H : Heap} {n : Nat} {a : AA} {need : Option Prop} {v : AV} {B : Option Blk} (h : ldn H n a = .p need v B) : B = none ∧ ∃ C, getB H.blks a.id = some C ∧ ldn ⟨H.next, [(a.id, C)]⟩ n a = .p need v B := by
  cases hC : getB H.blks a.id with
  | none => unfold ldn at h; rw [hC] at h; cases h
  | some C =>
    have e : ldn ⟨H.next, [(a.id, C)]⟩ n a = ldn H n a := by unfold ldn; simp only [getB, Nat.beq_refl, hC]
    refine ⟨?_, C, rfl, e.trans h⟩
    unfold ldn at h
    (repeat' split at h) <;> first | (cases h; done) | (cases h; rfl)
theorem load_p {o : AOp} (ho : addrOf o ≠ none) {s : St} {π : Path} {need : Option Prop} {v : AV} {B : Option Blk} (h : aop s π o = .p need v B) : B = none := by
  obtain ⟨a, ha⟩ := Option.ne_none_iff_exists'.1 ho
  rcases addr_cases ha with rfl | ⟨n, rfl⟩
  · simp only [aop] at h
    split at h
    · exact (ld1_shape h).1
    · cases h
  · simp only [aop] at h
    split at h
    · exact (ldn_shape h).1
    · cases h
theorem load_call {o : AOp} (ho : addrOf o ≠ none) {s : St} {π : Path} {f : FuncId} {args : List AV} (h : aop s π o = .call f args) : False := by
  obtain ⟨a, ha⟩ := Option.ne_none_iff_exists'.1 ho
  rcases addr_cases ha with rfl | ⟨n, rfl⟩
  · simp only [aop] at h
    split at h
    · unfold ld1 at h; (repeat' split at h) <;> cases h
    · cases h
  · simp only [aop] at h
    split at h
    · unfold ldn at h; (repeat' split at h) <;> cases h
    · cases h
theorem load_at {o : AOp} {a : Nat} (ha : addrOf o = some a) {s : St} {π : Path} {need : Option Prop} {v : AV} {B : Option Blk} (h : aop s π o = .p need v B) :
    ∃ n p q, slotAt s.tmps a = some ⟨n, p, .c (.ptr q)⟩ ∧ ∃ C, getB s.heap.blks q.id = some C := by
  have hs : ∀ q, s.get π (.t a) = .c (.ptr q) → ∃ n p, slotAt s.tmps a = some ⟨n, p, .c (.ptr q)⟩ := fun q hq => by
    simp only [St.get] at hq
    split at hq
    · rename_i n p v hsl
      split at hq
      · subst hq; exact ⟨n, p, hsl⟩
      · cases hq
    · cases hq
  rcases addr_cases ha with rfl | ⟨n, rfl⟩
  · simp only [aop] at h
    split at h
    · rename_i q hq
      obtain ⟨n, p, hsl⟩ := hs q hq
      obtain ⟨_, C, hC, _⟩ := ld1_shape h
      exact ⟨n, p, q, hsl, C, hC⟩
    · cases h
  · simp only [aop] at h
    split at h
    · rename_i q hq
      obtain ⟨n, p, hsl⟩ := hs q hq
      obtain ⟨_, C, hC, _⟩ := ldn_shape h
      exact ⟨n, p, q, hsl, C, hC⟩
    · cases h
theorem load_one {o : AOp} {a : Nat} (ha : addrOf o = some a) {l : List Slot} {π : Path} {n : Nat} {p : Path} {q : AA} (hsl : slotAt l a = some ⟨n, p, .c (.ptr q)⟩) {H : Heap} {C : Blk} (hC : getB H.blks q.id = some C) : aop ⟨l, ⟨H.next, [(q.id, C)]⟩⟩ π o = aop ⟨l, H⟩ π o := by
  have hg : ∀ K, St.get ⟨l, K⟩ π (.t a) = .c (.ptr q) ∨ St.get ⟨l, K⟩ π (.t a) = .bot := fun K => by
    simp only [St.get, hsl]
    split
    · exact .inl rfl
    · exact .inr rfl
  have he : ∀ K, St.get ⟨l, K⟩ π (.t a) = St.get ⟨l, H⟩ π (.t a) := fun K => rfl
  rcases addr_cases ha with rfl | ⟨n, rfl⟩
  · simp only [aop, he]
    rcases hg H with h | h
    · simp only [h]; unfold ld1; simp only [getB, Nat.beq_refl, hC]
    · simp only [h]
  · simp only [aop, he]
    rcases hg H with h | h
    · simp only [h]; unfold ldn; simp only [getB, Nat.beq_refl, hC]
    · simp only [h]
theorem addr_reads {o : AOp} {a : Nat} (h : addrOf o = some a) : a ∈ aSlots o := by
  rcases addr_cases h with rfl | ⟨n, rfl⟩ <;> simp [aSlots, oSl]
theorem tgt_nil {s : St} {o : AOp} (h : appNil o = true) {X : Nat} : (tgtOf s o).off X := by
  have hw : wrAddr s o = none := by cases o <;> first | rfl | simp [appNil] at h
  simp [tgtOf, hw, h, Tgt.off]
theorem exAll_spec {l : List Slot} {id : Nat} : ∀ {ex : List Nat}, exAll l id ex = true → ∀ {a : Nat}, a ∈ ex → ∀ {n p q}, slotAt l a = some ⟨n, p, .c (.ptr q)⟩ → id ≠ q.id
  | [], _, a, ha, _, _, _, _ => by cases ha
  | b :: r, h, a, ha, n, p, q, hs => by
    simp only [exAll] at h
    split at h
    · rename_i n' p' q' hs'
      split at h
      · cases h
      · rename_i hb
        cases ha with
        | head => rw [hs'] at hs; cases hs; intro e; rw [e, Nat.beq_refl] at hb; cases hb
        | tail _ ha => exact exAll_spec h ha hs
    · cases h
theorem tgt_exOk {s : St} {o : AOper} (hx : exOk s o = true) {a : Nat} (ha : a ∈ o.ex) {n : Nat} {p : Path} {q : AA} (hs : slotAt s.tmps a = some ⟨n, p, .c (.ptr q)⟩) : (tgtOf s o.op).off q.id := by
  unfold exOk at hx
  split at hx
  · rename_i e; rw [e] at ha; cases ha
  · rename_i b r e
    split at hx
    · rename_i id hw
      have := exAll_spec hx (by rw [← e]; exact ha) hs
      simp only [tgtOf, hw, Tgt.off]
      exact this
    · cases hx
theorem st_no_p {s : St} {π : Path} {o : AOp} (hc : stOp o = true) {need : Option Prop} {v : AV} {B : Option Blk} (h : aop s π o = .p need v B) : False := by
  cases o <;> first | (simp [stOp] at hc; done) | skip
  case st1 =>
    simp only [aop] at h
    split at h
    · unfold st1 at h; (repeat' split at h) <;> cases h
    · cases h
  case stn =>
    simp only [aop] at h
    split at h
    · unfold stn at h; (repeat' split at h) <;> cases h
    · cases h
theorem tgt_congr {l l' : List Slot} {H : Heap} {o : AOp} (h : ∀ t ∈ aSlots o, slotAt l t = slotAt l' t) : tgtOf ⟨l, H⟩ o = tgtOf ⟨l', H⟩ o := by
  have : wrAddr ⟨l, H⟩ o = wrAddr ⟨l', H⟩ o := by
    cases o <;> simp only [aSlots, List.mem_append] at h <;> simp only [wrAddr]
    case st1 a x => rw [get_congr (y := a) (fun t ht => h t (.inl ht))]
    case stn n a x => rw [get_congr (y := a) (fun t ht => h t (.inl ht))]
  simp only [tgtOf, this]

/-- One operation ahead of the tail, in the order of the text. -/
def StepQ (P : Program) (ao : AOper) (s : St) (π : Path) (v : AV) (H' : Heap) : Prop :=
  gpath s ao.guard = some π ∧ ((∃ need B, aop s π ao.op = .p need v B ∧ imp π (needP need) ∧ H' = addBlk s.heap B) ∨
    (∃ need, ao.tl = true ∧ π = [] ∧ aop s [] ao.op = .t need v H' ∧ needP need ∧ exOk s ao = true) ∨
    (∃ f args M, aop s π ao.op = .call f args ∧ H' = addBs s.heap M ∧ allW M = true ∧ imp π (Con P f args (roH s.heap) (fun v' H' => v' = v ∧ H' = addBs (roH s.heap) M))))

theorem st1_wr {H : Heap} {a : AA} {x : CV} {need : Option Prop} {v : AV} {H' : Heap} (h : st1 H a x = .t need v H') : ∃ B, getB H.blks a.id = some B ∧ B.wr = true := by
  unfold st1 at h
  cases hB : getB H.blks a.id with
  | none => rw [hB] at h; cases h
  | some B =>
    rw [hB] at h
    cases hw : B.wr with
    | false => simp only [hw] at h; cases h
    | true => exact ⟨B, rfl, hw⟩
theorem stn_wr {H : Heap} {n : Nat} {a : AA} {x : List Seg} {need : Option Prop} {v : AV} {H' : Heap} (h : stn H n a x = .t need v H') : ∃ B, getB H.blks a.id = some B ∧ B.wr = true := by
  unfold stn at h
  cases hB : getB H.blks a.id with
  | none => rw [hB] at h; simp at h
  | some B =>
    rw [hB] at h
    cases hw : B.wr with
    | false => simp only [hw] at h; cases h
    | true => exact ⟨B, rfl, hw⟩
theorem st_nop {s : St} {π : Path} {o : AOp} (hc : chgOp o = true) {need : Option Prop} {v : AV} {B : Option Blk} (h : aop s π o = .p need v B) : ∀ s', wrAddr s' o = none := by
  cases o <;> first | (simp [chgOp] at hc; done) | skip
  case st1 =>
    simp only [aop] at h
    split at h
    · unfold st1 at h; (repeat' split at h) <;> cases h
    · cases h
  case stn =>
    simp only [aop] at h
    split at h
    · unfold stn at h; (repeat' split at h) <;> cases h
    · cases h
  case app => intro s'; rfl
theorem tgt_wr {ao : AOper} {s : St} {π : Path} {v : AV} {H' : Heap} (hq : StepQ P ao s π v H') (ht : ao.tl = true) (hc : chgOp ao.op = true) {Y : Nat} (htg : tgtOf s ao.op = .one Y) : ∃ B, getB s.heap.blks Y = some B ∧ B.wr = true := by
  have hw : wrAddr s ao.op = some Y := by
    unfold tgtOf at htg
    split at htg
    · rename_i e; rw [e]; cases htg; rfl
    · split at htg <;> cases htg
  rcases hq.2 with ⟨_, _, e, _⟩ | ⟨_, _, _, e, _⟩ | ⟨_, _, _, e, _⟩
  · rw [st_nop hc e s] at hw; cases hw
  · generalize ao.op = o at *
    cases o <;> first | (simp [chgOp] at hc; done) | skip
    case st1 a x =>
      simp only [aop] at e
      simp only [wrAddr] at hw
      split at e
      · rename_i p cv e1 e2
        rw [e1] at hw
        cases hw
        exact st1_wr e
      · cases e
    case stn n a x =>
      simp only [aop] at e
      simp only [wrAddr] at hw
      split at e
      · rename_i p cv e1 e2
        rw [e1] at hw
        cases hw
        exact stn_wr e
      · cases e
    case app => simp [wrAddr] at hw
  · exact (chg_call hc e).elim

theorem imp_none (π : Path) : imp π (needP none) := by
  induction π with
  | nil => trivial
  | cons e r ih => intro _; exact ih

theorem trace {Qs : St → Prop} : ∀ (m : Nat) (al : List AOper) (s : St), (∀ i, i < m → ∃ ao, al[i]? = some ao ∧ (ao.tl = true → chgOp ao.op = true ∨ ao.op = .other)) → rwp (Con P) al s Qs →
    ∃ (S : Nat → St) (Pa : Nat → Path) (V : Nat → AV) (Hp : Nat → Heap), S 0 = s ∧
      (∀ i ao, i < m → al[i]? = some ao → StepQ P ao (S i) (Pa i) (V i) (Hp i) ∧ S (i + 1) = St.put ⟨(S i).tmps, Hp i⟩ ao.dst (Pa i) (V i)) ∧ rwp (Con P) (al.drop m) (S m) Qs
  | 0, al, s, _, h => ⟨fun _ => s, fun _ => [], fun _ => .bot, fun _ => s.heap, rfl, fun i ao hi => by omega, by simpa using h⟩
  | m + 1, [], s, hm, h => by obtain ⟨ao, h0, _⟩ := hm 0 (by omega); simp at h0
  | m + 1, ao :: al, s, hm, h => by
    have htl : ao.tl = true → chgOp ao.op = true ∨ ao.op = .other := by obtain ⟨x, h0, h1⟩ := hm 0 (by omega); simp at h0; subst h0; exact h1
    have hstep : ∃ π v H', StepQ P ao s π v H' ∧ rwp (Con P) al (St.put ⟨s.tmps, H'⟩ ao.dst π v) Qs := by
      simp only [rwp] at h
      cases hg : gpath s ao.guard with
      | none => rw [hg] at h; exact h.elim
      | some π =>
        rw [hg] at h
        simp only at h
        cases ha : aop s π ao.op with
        | bad => rw [ha] at h; exact h.elim
        | p need v B =>
          rw [ha] at h
          cases need with
          | none => exact ⟨π, v, _, ⟨hg, .inl ⟨none, B, ha, imp_none π, rfl⟩⟩, h⟩
          | some p => exact ⟨π, v, _, ⟨hg, .inl ⟨some p, B, ha, h.1, rfl⟩⟩, h.2⟩
        | t need v H' =>
          rw [ha] at h
          cases ht : ao.tl with
          | false => rw [ht] at h; cases need <;> exact h.elim
          | true =>
            cases π with
            | cons e r => cases need <;> (rw [ht] at h; exact h.elim)
            | nil =>
              cases hx : exOk s ao with
              | false => cases need <;> (rw [ht, hx] at h; exact h.elim)
              | true =>
                cases need with
                | none => rw [ht, hx] at h; exact ⟨[], v, H', ⟨hg, .inr (.inl ⟨none, ht, rfl, ha, trivial, hx⟩)⟩, h⟩
                | some p => rw [ht, hx] at h; exact ⟨[], v, H', ⟨hg, .inr (.inl ⟨some p, ht, rfl, ha, h.1, hx⟩)⟩, h.2⟩
        | call f args =>
          cases ht : ao.tl with
          | true =>
            rcases htl ht with h' | h'
            · exact (chg_call h' ha).elim
            · rw [h'] at ha; simp [aop_other] at ha
          | false =>
            rw [ha, ht] at h
            simp only [callW] at h
            obtain ⟨v, M, hM, hcon, hr⟩ := h
            exact ⟨π, v, _, ⟨hg, .inr (.inr ⟨f, args, M, ha, rfl, hM, hcon⟩)⟩, hr⟩
    obtain ⟨π, v, H', hq, hr⟩ := hstep
    obtain ⟨S, Pa, V, Hp, h0, hS, hrest⟩ := trace m al _ (fun i hi => by obtain ⟨x, h1, h2⟩ := hm (i + 1) (by omega); exact ⟨x, by simpa using h1, h2⟩) hr
    refine ⟨fun i => match i with | 0 => s | i + 1 => S i, fun i => match i with | 0 => π | i + 1 => Pa i, fun i => match i with | 0 => v | i + 1 => V i, fun i => match i with | 0 => H' | i + 1 => Hp i, rfl, fun i x hi hx => ?_, by simpa using hrest⟩
    cases i with
    | zero =>
      simp only [List.getElem?_cons_zero, Option.some.injEq] at hx
      subst hx
      exact ⟨hq, h0⟩
    | succ i => exact hS i x (by omega) (by simpa using hx)

/-- An embedding cut off. -/
def Emb.to (φ : Emb) (k : Nat) : Emb := fun i => if i < k then φ i else none
theorem Emb.to_le (φ : Emb) (k : Nat) : (φ.to k).le φ := fun i p h => by
  unfold Emb.to at h
  split at h
  · exact h
  · cases h
theorem Emb.to_mono (φ : Emb) {j k : Nat} (h : j ≤ k) : (φ.to j).le (φ.to k) := fun i p hi => by
  unfold Emb.to at *
  split at hi
  · rw [if_pos (by omega)]; exact hi
  · cases hi
theorem Emb.to_self {φ : Emb} {k : Nat} (h : ∀ i, k ≤ i → φ i = none) : φ.to k = φ := funext fun i => by
  unfold Emb.to
  split
  · rfl
  · rw [h i (by omega)]

/-- What is abstract of a list of slots alone. -/
def AOk (l : List Slot) (K : List Nat) : Prop := ∀ n sl, slotAt l n = some sl → pathOk l sl.path ∧ keysIn K sl.path
theorem SOk.aok {l : List Slot} {a : Act} {K : List Nat} (h : SOk φ l a K) : AOk l K := fun n sl hs => ⟨(h n sl hs).path, (h n sl hs).keys⟩
/-- A step that turns the heap, and what it leaves alone. -/
theorem step_t {F : Fence} [Wide F] {N : Nat} {ops : Array Oper} {Q : Exit → Act → World → Prop} {o : Oper} {ao : AOper} (hc : Corr P N ops o ao) {E l : List Slot} {H : Heap} {a : Act} (hS : SOkE φ E l a) (hH : HRel φ H w) (hg : gpath ⟨l, H⟩ ao.guard = some [])
    {need : Option Prop} {v : AV} {H' : Heap} (ha : aop ⟨l, H⟩ [] ao.op = .t need v H') (hn : needP need) {KK : Act → World → Prop}
    (k : ∀ φ' x w', HRel φ' H' w' → Fr φ H w φ' H' w' → relA φ' v x → (∀ b, b < w.heap.size → (tgtOf ⟨l, H⟩ ao.op).phys φ b → w'.heap[b]? = w.heap[b]?) → KK (a.put o.dst x) w') : stp F P ops Q o KK a w := by
  have hno : ao.op ≠ .other := fun e => by rw [e] at ha; simp [aop_other] at ha
  have hw := wanted_iff hc hno hS hg
  have hs := hc.op.resolve_right hno
  have hgets : ∀ K, Gets φ ⟨l, K⟩ [] a := fun K => gets_of (H := K) hS (π := []) trivial trivial
  unfold stp
  rw [if_pos (hw.2 trivial)]
  obtain ⟨φ', w', h1, h2, h3⟩ := op_t hs (hgets H) hH ha hn
  refine wp_op hs ?_
  rcases h1 with ⟨x, h1, hr⟩ | ⟨h1, rfl⟩
  · exact up_value h1 (k φ' x w' h2 h3 hr fun b hb ht => tgt_phys (s := ⟨l, H⟩) hs hgets hH ha hn (.inl ⟨x, h1⟩) hb ht)
  · exact up_skip h1 (k φ' undef w' h2 h3 trivial fun b hb ht => tgt_phys (s := ⟨l, H⟩) hs hgets hH ha hn (.inr h1) hb ht)

theorem aok_put {l : List Slot} {K K' : List Nat} (h : AOk l K) (hKK : ∀ x ∈ K, x ∈ K') {d : Nat} (hd : d ∉ K') {π : Path} (hπ : pathOk l π) (hk : keysIn K' π) {v : AV} : AOk (⟨d, π, v⟩ :: l) K' := by
  intro n sl hs
  by_cases hn : n = d
  · subst hn
    rw [slotAt_cons_self] at hs
    cases hs
    exact ⟨pathOk_cons hd hk hπ, hk⟩
  · rw [slotAt_cons_ne hn] at hs
    obtain ⟨h1, h2⟩ := h n sl hs
    exact ⟨pathOk_cons hd (keysIn_mono hKK h2) h1, keysIn_mono hKK h2⟩

theorem gpath_aok {l : List Slot} {H : Heap} {K : List Nat} (hA : AOk l K) {g : Option (Nat × Bool)} {π : Path} (h : gpath ⟨l, H⟩ g = some π) : pathOk l π ∧ keysIn (addK K g) π := by
  cases g with
  | none => simp only [gpath, Option.some.injEq] at h; subst h; exact ⟨trivial, fun e he => by cases he⟩
  | some g =>
    obtain ⟨d, w⟩ := g
    simp only [gpath] at h
    split at h
    · rename_i n p b hs
      simp only [Option.some.injEq] at h
      subst h
      have hn : n = d := slotAt_num _ _ _ hs
      subst hn
      obtain ⟨h1, h2⟩ := hA _ _ hs
      refine ⟨⟨hs, h1⟩, fun e he => ?_⟩
      cases he with
      | head => exact List.mem_cons_self
      | tail _ he => exact List.mem_cons_of_mem _ (h2 e he)
    · simp at h

/-- The slots that are read, the others forgotten. -/
def mask (R : List Nat) : List Slot → List Slot
  | [] => []
  | ⟨n, p, v⟩ :: r => (if R.contains n then ⟨n, p, v⟩ else ⟨n, [], .bot⟩) :: mask R r
theorem slotAt_mask_in {R : List Nat} {t : Nat} (h : R.contains t = true) : ∀ (l : List Slot), slotAt (mask R l) t = slotAt l t
  | [] => rfl
  | ⟨n, p, v⟩ :: r => by
    simp only [mask]
    by_cases hn : n = t
    · subst hn
      rw [if_pos h, slotAt_cons_self, slotAt_cons_self]
    · split
      · rw [slotAt_cons_ne (Ne.symm hn), slotAt_cons_ne (Ne.symm hn)]; exact slotAt_mask_in h r
      · rw [slotAt_cons_ne (Ne.symm hn), slotAt_cons_ne (Ne.symm hn)]; exact slotAt_mask_in h r
theorem slotAt_mask_out {R : List Nat} {t : Nat} (h : R.contains t = false) : ∀ (l : List Slot) (sl : Slot), slotAt (mask R l) t = some sl → sl = ⟨t, [], .bot⟩
  | [], sl, hs => by simp [mask, slotAt] at hs
  | ⟨n, p, v⟩ :: r, sl, hs => by
    simp only [mask] at hs
    by_cases hn : n = t
    · subst hn
      rw [h, if_neg (by simp), slotAt_cons_self] at hs
      cases hs
      rfl
    · split at hs
      · rw [slotAt_cons_ne (Ne.symm hn)] at hs; exact slotAt_mask_out h r sl hs
      · rw [slotAt_cons_ne (Ne.symm hn)] at hs; exact slotAt_mask_out h r sl hs

/-! ### The facts of the run in the text's order -/
structure Run (P : Program) (N : Nat) (ops : Array Oper) (al : List AOper) (m0 m : Nat) (S : Nat → St) (Pa : Nat → Path) (V : Nat → AV) (Hp : Nat → Heap) (KK : Nat → List Nat) : Prop where
  le : m ≤ ops.size
  lo : m0 ≤ m
  const : ∀ i, i ≤ m0 → S i = S 0
  corr : ∀ i, i < ops.size → ∃ o ao, ops[i]? = some o ∧ al[i]? = some ao ∧ Corr P N ops o ao
  step : ∀ i ao, m0 ≤ i → i < m → al[i]? = some ao → StepQ P ao (S i) (Pa i) (V i) (Hp i) ∧ S (i + 1) = St.put ⟨(S i).tmps, Hp i⟩ ao.dst (Pa i) (V i)
  chg : ∀ i ao, m0 ≤ i → i < m → al[i]? = some ao → ao.tl = true → chgOp ao.op = true
  mid : ∀ j aj oj, m0 ≤ j → j < m → al[j]? = some aj → ops[j]? = some oj → aj.tl = true → ∀ i ai oi, m0 ≤ i → i < m → al[i]? = some ai → ops[i]? = some oi → i ≠ j → quietOp ai.op = false → (j < i → Behind ops oi j ∨ ((addrOf ai.op).isSome = true ∧ appNil aj.op = true)) ∧ (i < j → Behind ops oj i ∨ ∃ a, addrOf ai.op = some a ∧ (appNil aj.op = true ∨ (stOp aj.op = true ∧ a ∈ aj.ex ∧ ∀ k ak, i ≤ k → k < m → al[k]? = some ak → ak.dst ≠ some a)))
  aok : ∀ i, m0 ≤ i → i ≤ m → AOk (S i).tmps (KK i)
  kk : ∀ i ao, m0 ≤ i → i < m → al[i]? = some ao → KK (i + 1) = addK (KK i) ao.guard
  no : ∀ i ao d, m0 ≤ i → i < m → al[i]? = some ao → ao.dst = some d → d ∉ KK (i + 1)
  draw : drawOk ops al = true

theorem addBlk_next (H : Heap) (B : Option Blk) : H.next ≤ (addBlk H B).next := by cases B <;> simp [addBlk]
theorem put_heap (s : St) (d : Option Nat) (π : Path) (v : AV) : (St.put s d π v).heap = s.heap := by cases d <;> rfl

section
variable {N : Nat} {ops : Array Oper} {al : List AOper} {m0 m : Nat} {S : Nat → St} {Pa : Nat → Path} {V : Nat → AV} {Hp : Nat → Heap} {KK : Nat → List Nat}

theorem Run.al_some (h : Run P N ops al m0 m S Pa V Hp KK) {i : Nat} (hi : i < m) : ∃ o ao, ops[i]? = some o ∧ al[i]? = some ao ∧ Corr P N ops o ao := h.corr i (Nat.lt_of_lt_of_le hi h.le)

theorem Run.heap_succ (h : Run P N ops al m0 m S Pa V Hp KK) {i : Nat} (h0 : m0 ≤ i) (hi : i < m) : (S (i + 1)).heap = Hp i := by
  obtain ⟨o, ao, _, ha, _⟩ := h.al_some hi
  rw [(h.step i ao h0 hi ha).2, put_heap]

theorem Run.same_lo (h : Run P N ops al m0 m S Pa V Hp KK) {i : Nat} (hi : ¬ m0 ≤ i) : S (i + 1) = S i := by
  rw [h.const i (by omega), h.const (i + 1) (by omega)]

theorem Run.next_succ (h : Run P N ops al m0 m S Pa V Hp KK) {i : Nat} (hi : i < m) : (S i).heap.next ≤ (S (i + 1)).heap.next := by
  obtain ⟨o, ao, _, ha, _⟩ := h.al_some hi
  by_cases h0 : m0 ≤ i
  rotate_left
  · rw [h.same_lo h0]; exact Nat.le_refl _
  rw [h.heap_succ h0 hi]
  rcases (h.step i ao h0 hi ha).1.2 with ⟨_, B, _, _, e⟩ | ⟨_, ht, hp, ht', _⟩ | ⟨_, _, M, _, e, _⟩
  · rw [e]; exact addBlk_next _ _
  · exact chg_next (h.chg i ao h0 hi ha ht) ht'
  · rw [e, addBs_next]; omega

theorem Run.next_mono (h : Run P N ops al m0 m S Pa V Hp KK) : ∀ {i j : Nat}, i ≤ j → j ≤ m → (S i).heap.next ≤ (S j).heap.next := by
  intro i j hij
  induction hij with
  | refl => intro _; exact Nat.le_refl _
  | step hij ih => intro hj; exact Nat.le_trans (ih (by omega)) (h.next_succ (by omega))

/-- No heap is turned from number i on, before number j. -/
def still (al : List AOper) (m0 i j : Nat) : Prop := ∀ t ao, m0 ≤ t → i ≤ t → t < j → al[t]? = some ao → ao.tl = false
/-- A block is left alone from number i on, before number j. -/
def stillAt (al : List AOper) (S : Nat → St) (m0 X i j : Nat) : Prop := ∀ t ao, m0 ≤ t → i ≤ t → t < j → al[t]? = some ao → ao.tl = true → (tgtOf (S t) ao.op).off X

theorem Run.getB_at (h : Run P N ops al m0 m S Pa V Hp KK) {X : Nat} : ∀ {i j : Nat}, i ≤ j → j ≤ m → stillAt al S m0 X i j → X < (S i).heap.next → getB (S j).heap.blks X = getB (S i).heap.blks X := by
  intro i j hij
  induction hij with
  | refl => intro _ _ _; rfl
  | step hij ih =>
    intro hj hst hid
    rename_i j
    have hij : i ≤ j := hij
    have hlt : X < (S j).heap.next := Nat.lt_of_lt_of_le hid (h.next_mono hij (by omega))
    have ih := ih (by omega) (fun t ao h0 h1 h2 => hst t ao h0 h1 (by omega)) hid
    obtain ⟨o, ao, _, ha, _⟩ := h.al_some (show j < m by omega)
    by_cases h0 : m0 ≤ j
    rotate_left
    · rw [h.same_lo h0]; exact ih
    rw [h.heap_succ h0 (show j < m by omega)]
    rcases (h.step j ao h0 (by omega) ha).1.2 with ⟨_, B, _, _, e⟩ | ⟨_, ht, hp, e, _⟩ | ⟨_, _, M, _, e, _⟩
    · rw [e]
      cases B with
      | none => exact ih
      | some B =>
        show getB (((S j).heap.next, B) :: (S j).heap.blks) X = _
        rw [getB_cons_ne (by omega)]
        exact ih
    · rw [tgt_names e (hst j ao h0 hij (by omega) ha ht) hlt]; exact ih
    · rw [e, addBs_lo M _ X hlt]; exact ih
theorem Run.getB_old (h : Run P N ops al m0 m S Pa V Hp KK) {i j : Nat} (hij : i ≤ j) (hj : j ≤ m) (hs : still al m0 i j) (id : Nat) (hid : id < (S i).heap.next) : getB (S j).heap.blks id = getB (S i).heap.blks id :=
  h.getB_at hij hj (fun t ao h0 h1 h2 h3 h4 => by rw [hs t ao h0 h1 h2 h3] at h4; cases h4) hid

theorem Run.slot_same (h : Run P N ops al m0 m S Pa V Hp KK) {t : Nat} : ∀ {i j : Nat}, i ≤ j → j ≤ m → (∀ k ak, m0 ≤ k → i ≤ k → k < j → al[k]? = some ak → ak.dst ≠ some t) → slotAt (S j).tmps t = slotAt (S i).tmps t := by
  intro i j hij
  induction hij with
  | refl => intro _ _; rfl
  | step hij ih =>
    intro hj hno
    rename_i j
    have hij : i ≤ j := hij
    have ih := ih (by omega) fun k ak h0 h1 h2 => hno k ak h0 h1 (by omega)
    obtain ⟨o, ao, _, ha, _⟩ := h.al_some (show j < m by omega)
    by_cases h0 : m0 ≤ j
    rotate_left
    · rw [h.same_lo h0]; exact ih
    rw [(h.step j ao h0 (by omega) ha).2]
    have hd := hno j ao h0 hij (by omega) ha
    cases hdd : ao.dst with
    | none => exact ih
    | some d =>
      show slotAt (⟨d, Pa j, V j⟩ :: (S j).tmps) t = _
      rw [slotAt_cons_ne (fun e => hd (by rw [hdd, e]))]
      exact ih
theorem Run.slot (h : Run P N ops al m0 m S Pa V Hp KK) : ∀ {i : Nat}, i ≤ m → ∀ t, (∃ j ao, m0 ≤ j ∧ j < i ∧ al[j]? = some ao ∧ ao.dst = some t ∧ slotAt (S i).tmps t = some ⟨t, Pa j, V j⟩) ∨ ((∀ j ao, m0 ≤ j → j < i → al[j]? = some ao → ao.dst ≠ some t) ∧ slotAt (S i).tmps t = slotAt (S 0).tmps t)
  | 0, _, t => .inr ⟨fun j ao h0 hj => by omega, rfl⟩
  | i + 1, hi, t => by
    obtain ⟨o, ao, _, ha, _⟩ := h.al_some (show i < m by omega)
    have ih := h.slot (show i ≤ m by omega) t
    by_cases h0 : m0 ≤ i
    rotate_left
    · rw [h.same_lo h0]
      rcases ih with ⟨j, x, h1, _⟩ | ⟨hno, hsl⟩
      · omega
      · exact .inr ⟨fun j x h1 h2 => by omega, hsl⟩
    have hs := (h.step i ao h0 (by omega) ha).2
    cases hd : ao.dst with
    | none =>
      rw [hd] at hs
      have e : (S (i + 1)).tmps = (S i).tmps := by rw [hs]; rfl
      rw [e]
      rcases ih with ⟨j, x, hj0, hj, hx, hxd, hsl⟩ | ⟨hno, hsl⟩
      · exact .inl ⟨j, x, hj0, by omega, hx, hxd, hsl⟩
      · refine .inr ⟨fun j x hj0 hj hx => ?_, hsl⟩
        by_cases hji : j = i
        · subst hji; rw [ha] at hx; cases hx; rw [hd]; simp
        · exact hno j x hj0 (by omega) hx
    | some d =>
      rw [hd] at hs
      have e : (S (i + 1)).tmps = ⟨d, Pa i, V i⟩ :: (S i).tmps := by rw [hs]; rfl
      rw [e]
      by_cases htd : t = d
      · subst htd
        exact .inl ⟨i, ao, h0, by omega, ha, hd, slotAt_cons_self _ _ _ _⟩
      · rw [slotAt_cons_ne htd]
        rcases ih with ⟨j, x, hj0, hj, hx, hxd, hsl⟩ | ⟨hno, hsl⟩
        · exact .inl ⟨j, x, hj0, by omega, hx, hxd, hsl⟩
        · refine .inr ⟨fun j x hj0 hj hx => ?_, hsl⟩
          by_cases hji : j = i
          · subst hji; rw [ha] at hx; cases hx; rw [hd]; simpa using Ne.symm htd
          · exact hno j x hj0 (by omega) hx
end

end Go.AM
