/- Parts of the proof of codeEncodes_holds, joined and cut by a program: Am14, Am15, Am16, Am17, Am18, Am19, Am20, Am21, Am22. No condition. -/
import Derived.Test.YteikpddilabppaaGreatRZea
import Derived.Deep.LoopGhost
namespace Go.AM
set_option linter.unusedVariables false
set_option linter.unusedSimpArgs false
variable {P : Program} {φ : Emb} {w : World}

def Behind (ops : Array Oper) (o : Oper) (j : Nat) : Prop := ∀ L : Nat → Prop, (∀ i o j, L i → ops[i]? = some o → waits o j = true → L j) → (∀ j, waits o j = true → L j) → L j

theorem quiet_aop {l : List Slot} {H H' : Heap} {π : Path} {o : AOp} (h : quietOp o = true) : aop ⟨l, H⟩ π o = aop ⟨l, H'⟩ π o := by
  have hg : St.get ⟨l, H⟩ π = St.get ⟨l, H'⟩ π := by funext y; cases y <;> rfl
  have hs : ∀ cs y w, getsl ⟨l, H⟩ π cs y w = getsl ⟨l, H'⟩ π cs y w := by intro cs y w; cases y <;> rfl
  cases o <;> first | (simp [quietOp] at h; done) | (simp only [aop, hg, hs]; done) | rfl
theorem bin_shape (op : BinOp) (x y : AV) : (∃ n v, bin op x y = .p n v none) ∨ bin op x y = .bad := by
  unfold bin shiftR arith; (repeat' split) <;> first | exact .inr rfl | exact .inl ⟨_, _, rfl⟩
theorem quiet_shape {s : St} {π : Path} {o : AOp} (h : quietOp o = true) : (∃ n v, aop s π o = .p n v none) ∨ aop s π o = .bad := by
  cases o <;> first | (simp [quietOp] at h; done) | skip
  all_goals simp only [aop]
  case bin op x y => exact bin_shape _ _ _
  all_goals try (unfold eqB)
  all_goals try (unfold eqS)
  all_goals try (unfold nilq)
  all_goals try (unfold un)
  all_goals try (unfold fieldOf)
  all_goals try (unfold eqT)
  all_goals try (unfold idxT)
  all_goals try (unfold cat)
  all_goals ((repeat' split) <;> first | exact .inr rfl | exact .inl ⟨_, _, rfl⟩)
theorem chg_p {s : St} {π : Path} {o : AOp} (h : chgOp o = true) {need : Option Prop} {v : AV} {B : Option Blk} (ha : aop s π o = .p need v B) : B = none := by
  cases o <;> first | (simp [chgOp] at h; done) | skip
  all_goals simp only [aop] at ha
  case app => unfold app at ha; (repeat' split at ha) <;> first | cases ha; done | (cases ha; rfl)
  case st1 => unfold st1 at ha; (repeat' split at ha) <;> first | cases ha; done | (cases ha; rfl)
  case stn => unfold stn at ha; (repeat' split at ha) <;> first | cases ha; done | (cases ha; rfl)
theorem chg_call {s : St} {π : Path} {o : AOp} (h : chgOp o = true) {f : FuncId} {args : List AV} (ha : aop s π o = .call f args) : False := by
  cases o <;> first | (simp [chgOp] at h; done) | skip
  all_goals simp only [aop] at ha
  case app => unfold app at ha; (repeat' split at ha) <;> cases ha
  case st1 => unfold st1 at ha; (repeat' split at ha) <;> cases ha
  case stn => unfold stn at ha; (repeat' split at ha) <;> cases ha
theorem chg_next {s : St} {π : Path} {o : AOp} (h : chgOp o = true) {need : Option Prop} {v : AV} {H' : Heap} (ha : aop s π o = .t need v H') : s.heap.next ≤ H'.next := by
  cases o <;> first | (simp [chgOp] at h; done) | skip
  all_goals simp only [aop] at ha
  case app => unfold app at ha; (repeat' split at ha) <;> first | (cases ha; done) | (cases ha; exact Nat.le_succ _)
  case st1 => unfold st1 at ha; (repeat' split at ha) <;> first | (cases ha; done) | (cases ha; exact Nat.le_refl _)
  case stn => unfold stn at ha; (repeat' split at ha) <;> first | (cases ha; done) | (cases ha; exact Nat.le_refl _)
theorem chg_noquiet {o : AOp} (h : chgOp o = true) : quietOp o = false := by cases o <;> first | rfl | simp [chgOp] at h

inductive Tgt where
  | all
  | one (Y : Nat)
  | no
def Tgt.off : Tgt → Nat → Prop
  | .all, _ => False
  | .one Y, X => Y ≠ X
  | .no, _ => True
def Tgt.phys (φ : Emb) : Tgt → Nat → Prop
  | .all, _ => False
  | .one Y, b => ∀ p, φ Y = some p → p.blk ≠ b
  | .no, _ => True
def tgtOf (s : St) (o : AOp) : Tgt :=
  match wrAddr s o with
  | some Y => .one Y
  | none => if appNil o = true then .no else .all

theorem st1_only {H : Heap} {a : AA} {x : CV} {need : Option Prop} {v : AV} {H' : Heap} (h : st1 H a x = .t need v H') : ∃ B H'', getB H.blks a.id = some B ∧ st1 ⟨H.next, [(a.id, B)]⟩ a x = .t need v H'' ∧ ∀ X, a.id ≠ X → getB H'.blks X = getB H.blks X := by
  have hx : ∃ B, getB H.blks a.id = some B := by
    cases hB : getB H.blks a.id with
    | none => unfold st1 at h; rw [hB] at h; simp at h
    | some B => exact ⟨B, rfl⟩
  obtain ⟨B, hB⟩ := hx
  refine ⟨B, ?_⟩
  unfold st1 at h ⊢
  simp only [hB, getB, Nat.beq_refl] at h ⊢
  (repeat' split at h) <;> first
    | (cases h; done)
    | (simp only [Res.t.injEq] at h
       obtain ⟨rfl, rfl, rfl⟩ := h
       simp only [*]
       exact ⟨_, trivial, rfl, fun X hX => getB_setB_ne (Ne.symm hX)⟩)
theorem stn_only {H : Heap} {n : Nat} {a : AA} {x : List Seg} {need : Option Prop} {v : AV} {H' : Heap} (h : stn H n a x = .t need v H') : ∃ B H'', getB H.blks a.id = some B ∧ stn ⟨H.next, [(a.id, B)]⟩ n a x = .t need v H'' ∧ ∀ X, a.id ≠ X → getB H'.blks X = getB H.blks X := by
  have hx : ∃ B, getB H.blks a.id = some B := by
    cases hB : getB H.blks a.id with
    | none => unfold stn at h; rw [hB] at h; simp at h
    | some B => exact ⟨B, rfl⟩
  obtain ⟨B, hB⟩ := hx
  refine ⟨B, ?_⟩
  unfold stn at h ⊢
  simp only [hB, getB, Nat.beq_refl] at h ⊢
  (repeat' split at h) <;> first
    | (cases h; done)
    | (simp only [Res.t.injEq] at h
       obtain ⟨rfl, rfl, rfl⟩ := h
       simp only [*]
       exact ⟨_, trivial, rfl, fun X hX => getB_setB_ne (Ne.symm hX)⟩)

theorem HRel.only {H : Heap} (h : HRel φ H w) {Y : Nat} {B C : Blk} (hB : getB H.blks Y = some B) (hC : C.str = B.str ∧ C.sz = B.sz ∧ C.row = B.row ∧ C.elem = B.elem ∧ (C.wr = true → B.wr = true)) : HRel φ ⟨H.next, [(Y, C)]⟩ w where
  blk := fun i D p hD hp => by
    by_cases hi : i = Y
    · subst hi
      rw [getB_cons_self] at hD
      cases hD
      have hb := h.blk i B p hB hp
      obtain ⟨h1, h2, h3, h4, h5⟩ := hC
      have hn : C.n = B.n := by unfold Blk.n; rw [h2]
      exact ⟨by rw [h1]; exact hb.str, fun r hr => by rw [h3, h1]; exact hb.rows r (by omega), fun hw => by rw [h4, hn]; exact hb.own (h5 hw)⟩
    · rw [getB_cons_ne hi] at hD; simp [getB] at hD
  inj := fun i j D E p q hD hE hp hq hne hw => by
    by_cases hi : i = Y
    · by_cases hj : j = Y
      · exact absurd (hi.trans hj.symm) hne
      · rw [getB_cons_ne hj] at hE; simp [getB] at hE
    · rw [getB_cons_ne hi] at hD; simp [getB] at hD
  fresh := h.fresh
  lt := h.lt

theorem tgt_names {s : St} {o : AOp} {need : Option Prop} {v : AV} {H' : Heap} (h : aop s [] o = .t need v H') {X : Nat} (hX : (tgtOf s o).off X) (hlt : X < s.heap.next) : getB H'.blks X = getB s.heap.blks X := by
  cases o with
  | st1 a x =>
    simp only [aop] at h
    split at h
    · rename_i p v' e1 e2
      obtain ⟨B, H'', _, _, g⟩ := st1_only h
      refine g X ?_
      simpa [tgtOf, wrAddr, e1, Tgt.off] using hX
    · cases h
  | stn n a x =>
    simp only [aop] at h
    split at h
    · rename_i p v' e1 e2
      obtain ⟨B, H'', _, _, g⟩ := stn_only h
      refine g X ?_
      simpa [tgtOf, wrAddr, e1, Tgt.off] using hX
    · cases h
  | app k b t x y =>
    cases hx : appNil (.app k b t x y) with
    | false => simp [tgtOf, wrAddr, hx, Tgt.off] at hX
    | true =>
      have ex : x = .k (.c .nils) := by
        unfold appNil at hx
        split at hx
        · rename_i e; cases e; rfl
        · cases hx
      subst ex
      simp only [aop] at h
      unfold app at h
      (repeat' split at h) <;> first | (cases h; done) | (cases h; exact getB_cons_ne (by omega)) | (simp_all [St.get]; done)
  | _ => simp [tgtOf, wrAddr, appNil, Tgt.off] at hX

theorem tgt_phys {o : Oper} {ao : AOp} (hs : stripOp P o.op = some ao) {s : St} {a : Act} (hg : ∀ H, Gets φ ⟨s.tmps, H⟩ [] a) (hH : HRel φ s.heap w)
    {need : Option Prop} {v : AV} {H' : Heap} (h : aop s [] ao = .t need v H') (hn : needP need) {w' : World} (hw : (∃ x, (execOp a.eval o).run P w = .ok (.value x) w') ∨ (execOp a.eval o).run P w = .ok .skip w')
    {b : Nat} (hb : b < w.heap.size) (ht : (tgtOf s ao).phys φ b) : w'.heap[b]? = w.heap[b]? := by
  have fin : ∀ (Hr Hr' : Heap), HRel φ Hr w → aop ⟨s.tmps, Hr⟩ [] ao = .t need v Hr' → (∀ i B p, getB Hr.blks i = some B → B.wr = true → φ i = some p → p.blk ≠ b) → w'.heap[b]? = w.heap[b]? := by
    intro Hr Hr' h1 h2 h3
    obtain ⟨φ', w'', g1, g2, g3⟩ := op_t hs (s := ⟨s.tmps, Hr⟩) (hg Hr) h1 h2 hn
    have e : w'' = w' := by
      rcases g1 with ⟨x, g1, _⟩ | ⟨g1, _⟩ <;> rcases hw with ⟨y, hw⟩ | hw <;> (rw [g1] at hw; cases hw <;> rfl)
    rw [← e]
    exact g3.old b hb h3
  have hget : ∀ H y, St.get ⟨s.tmps, H⟩ [] y = s.get [] y := fun H y => by cases y <;> rfl
  have one : ∀ Y B, getB s.heap.blks Y = some B → (∀ p, φ Y = some p → p.blk ≠ b) → ∀ i D p, getB [(Y, B)] i = some D → D.wr = true → φ i = some p → p.blk ≠ b := fun Y B _ hY i D p hD _ hp => by
    by_cases hi : i = Y
    · subst hi; exact hY p hp
    · rw [getB_cons_ne hi] at hD; simp [getB] at hD
  cases ao with
  | st1 y x =>
    simp only [aop] at h
    split at h
    · rename_i p v' e1 e2
      obtain ⟨B, H'', k1, k2, g⟩ := st1_only h
      refine fin ⟨s.heap.next, [(p.id, B)]⟩ H'' (hH.only k1 ⟨rfl, rfl, rfl, rfl, id⟩) (by simp only [aop, hget, e1, e2]; exact k2) (one p.id B k1 (by simpa [tgtOf, wrAddr, e1, Tgt.phys] using ht))
    · cases h
  | stn n y x =>
    simp only [aop] at h
    split at h
    · rename_i p v' e1 e2
      obtain ⟨B, H'', k1, k2, g⟩ := stn_only h
      refine fin ⟨s.heap.next, [(p.id, B)]⟩ H'' (hH.only k1 ⟨rfl, rfl, rfl, rfl, id⟩) (by simp only [aop, hget, e1, e2]; exact k2) (one p.id B k1 (by simpa [tgtOf, wrAddr, e1, Tgt.phys] using ht))
    · cases h
  | app k bt t x y =>
    cases hx : appNil (.app k bt t x y) with
    | false => simp [tgtOf, wrAddr, hx, Tgt.phys] at ht
    | true =>
      have ex : x = .k (.c .nils) := by
        unfold appNil at hx
        split at hx
        · rename_i e; cases e; rfl
        · cases hx
      subst ex
      have hnil : s.get [] (.k (.c .nils)) = .c .nils := rfl
      simp only [aop, hnil] at h
      cases hy : s.get [] y with
      | c cv =>
        rw [hy] at h
        cases cv with
        | slice c inner m =>
          cases inner with
          | true => unfold app at h; cases h
          | false =>
            cases hC : getB s.heap.blks c.id with
            | none => unfold app at h; simp only [hC] at h; cases h
            | some C =>
              unfold app at h
              simp only [hC] at h
              cases hsz : C.sz with
              | none => simp only [hsz] at h; cases h
              | some cc =>
                cases hst : Nat.beq C.str k with
                | false => simp only [hsz, hst] at h; cases h
                | true =>
                  simp only [hsz, hst] at h
                  cases h
                  refine fin ⟨s.heap.next, [(c.id, ⟨C.str, C.sz, C.row, C.elem, false⟩)]⟩ _ (hH.only hC ⟨rfl, rfl, rfl, rfl, fun h => by cases h⟩) (by simp only [aop, hget, hy, hnil]; unfold app; simp only [getB, Nat.beq_refl, hsz, hst]; rfl) (fun i D p hD hw _ => ?_)
                  by_cases hi : i = c.id
                  · subst hi; rw [getB_cons_self] at hD; cases hD; cases hw
                  · rw [getB_cons_ne hi] at hD; simp [getB] at hD
        | _ => unfold app at h; cases h
      | _ => rw [hy] at h; unfold app at h; cases h
  | _ => simp [tgtOf, wrAddr, appNil, Tgt.phys] at ht

theorem chg_noaddr {o : AOp} (h : chgOp o = true) : addrOf o = none := by cases o <;> first | rfl | simp [chgOp] at h
theorem addr_cases {o : AOp} {a : Nat} (h : addrOf o = some a) : o = .ld1 (.t a) ∨ ∃ n, o = .ldn n (.t a) := by
  cases o with
  | ld1 x => cases x <;> simp [addrOf] at h; subst h; exact .inl rfl
  | ldn n x => cases x <;> simp [addrOf] at h; subst h; exact .inr ⟨n, rfl⟩
  | _ => simp [addrOf] at h
theorem ld1_shape {H : Heap} {a : AA} {need : Option Prop} {v : AV} {B : Option Blk} (h : ld1 H a = .p need v B) : B = none ∧ ∃ C, getB H.blks a.id = some C ∧ ld1 ⟨H.next, [(a.id, C)]⟩ a = .p need v B := by
  cases hC : getB H.blks a.id with
  | none => unfold ld1 at h; rw [hC] at h; cases h
  | some C =>
    have e : ld1 ⟨H.next, [(a.id, C)]⟩ a = ld1 H a := by unfold ld1; simp only [getB, Nat.beq_refl, hC]
    refine ⟨?_, C, rfl, e.trans h⟩
    unfold ld1 at h
    (repeat' split at h) <;> first | (cases h; done) | (cases h; rfl)
theorem ldn_shape {H : Heap} {n : Nat} {a : AA} {need : Option Prop} {v : AV} {B : Option Blk} (h : ldn H n a = .p need v B) : B = none ∧ ∃ C, getB H.blks a.id = some C ∧ ldn ⟨H.next, [(a.id, C)]⟩ n a = .p need v B := by
  cases hC : getB H.blks a.id with
  | none => unfold ldn at h; rw [hC] at h; cases h
  | some C =>
    have e : ldn ⟨H.next, [(a.id, C)]⟩ n a = ldn H n a := by unfold ldn; simp only [getB, Nat.beq_refl, hC]
    refine ⟨?_, C, rfl, e.trans h⟩
    unfold ldn at h
    (repeat' split at h) <;> first | (cases h; done) | (cases h; rfl)
theorem load_p {o : AOp} (ho : addrOf o ≠ none) {s : St} {π : Path} {need : Option Prop} {v : AV} {B : Option Blk} (h : aop s π o = .p need v B) : B = none := by
  obtain ⟨a, ha⟩ := Option.ne_none_iff_exists'.1 ho
  rcases addr_cases ha with rfl | ⟨n, rfl⟩
  · simp only [aop] at h
    split at h
    · exact (ld1_shape h).1
    · cases h
  · simp only [aop] at h
    split at h
    · exact (ldn_shape h).1
    · cases h
theorem load_call {o : AOp} (ho : addrOf o ≠ none) {s : St} {π : Path} {f : FuncId} {args : List AV} (h : aop s π o = .call f args) : False := by
  obtain ⟨a, ha⟩ := Option.ne_none_iff_exists'.1 ho
  rcases addr_cases ha with rfl | ⟨n, rfl⟩
  · simp only [aop] at h
    split at h
    · unfold ld1 at h; (repeat' split at h) <;> cases h
    · cases h
  · simp only [aop] at h
    split at h
    · unfold ldn at h; (repeat' split at h) <;> cases h
    · cases h
theorem load_at {o : AOp} {a : Nat} (ha : addrOf o = some a) {s : St} {π : Path} {need : Option Prop} {v : AV} {B : Option Blk} (h : aop s π o = .p need v B) :
    ∃ n p q, slotAt s.tmps a = some ⟨n, p, .c (.ptr q)⟩ ∧ ∃ C, getB s.heap.blks q.id = some C := by
  have hs : ∀ q, s.get π (.t a) = .c (.ptr q) → ∃ n p, slotAt s.tmps a = some ⟨n, p, .c (.ptr q)⟩ := fun q hq => by
    simp only [St.get] at hq
    split at hq
    · rename_i n p v hsl
      split at hq
      · subst hq; exact ⟨n, p, hsl⟩
      · cases hq
    · cases hq
  rcases addr_cases ha with rfl | ⟨n, rfl⟩
  · simp only [aop] at h
    split at h
    · rename_i q hq
      obtain ⟨n, p, hsl⟩ := hs q hq
      obtain ⟨_, C, hC, _⟩ := ld1_shape h
      exact ⟨n, p, q, hsl, C, hC⟩
    · cases h
  · simp only [aop] at h
    split at h
    · rename_i q hq
      obtain ⟨n, p, hsl⟩ := hs q hq
      obtain ⟨_, C, hC, _⟩ := ldn_shape h
      exact ⟨n, p, q, hsl, C, hC⟩
    · cases h
theorem load_one {o : AOp} {a : Nat} (ha : addrOf o = some a) {l : List Slot} {π : Path} {n : Nat} {p : Path} {q : AA} (hsl : slotAt l a = some ⟨n, p, .c (.ptr q)⟩) {H : Heap} {C : Blk} (hC : getB H.blks q.id = some C) : aop ⟨l, ⟨H.next, [(q.id, C)]⟩⟩ π o = aop ⟨l, H⟩ π o := by
  have hg : ∀ K, St.get ⟨l, K⟩ π (.t a) = .c (.ptr q) ∨ St.get ⟨l, K⟩ π (.t a) = .bot := fun K => by
    simp only [St.get, hsl]
    split
    · exact .inl rfl
    · exact .inr rfl
  have he : ∀ K, St.get ⟨l, K⟩ π (.t a) = St.get ⟨l, H⟩ π (.t a) := fun K => rfl
  rcases addr_cases ha with rfl | ⟨n, rfl⟩
  · simp only [aop, he]
    rcases hg H with h | h
    · simp only [h]; unfold ld1; simp only [getB, Nat.beq_refl, hC]
    · simp only [h]
  · simp only [aop, he]
    rcases hg H with h | h
    · simp only [h]; unfold ldn; simp only [getB, Nat.beq_refl, hC]
    · simp only [h]
theorem addr_reads {o : AOp} {a : Nat} (h : addrOf o = some a) : a ∈ aSlots o := by
  rcases addr_cases h with rfl | ⟨n, rfl⟩ <;> simp [aSlots, oSl]
theorem tgt_nil {s : St} {o : AOp} (h : appNil o = true) {X : Nat} : (tgtOf s o).off X := by
  have hw : wrAddr s o = none := by cases o <;> first | rfl | simp [appNil] at h
  simp [tgtOf, hw, h, Tgt.off]
theorem exAll_spec {l : List Slot} {id : Nat} : ∀ {ex : List Nat}, exAll l id ex = true → ∀ {a : Nat}, a ∈ ex → ∀ {n p q}, slotAt l a = some ⟨n, p, .c (.ptr q)⟩ → id ≠ q.id
  | [], _, a, ha, _, _, _, _ => by cases ha
  | b :: r, h, a, ha, n, p, q, hs => by
    simp only [exAll] at h
    split at h
    · rename_i n' p' q' hs'
      split at h
      · cases h
      · rename_i hb
        cases ha with
        | head => rw [hs'] at hs; cases hs; intro e; rw [e, Nat.beq_refl] at hb; cases hb
        | tail _ ha => exact exAll_spec h ha hs
    · cases h
theorem tgt_exOk {s : St} {o : AOper} (hx : exOk s o = true) {a : Nat} (ha : a ∈ o.ex) {n : Nat} {p : Path} {q : AA} (hs : slotAt s.tmps a = some ⟨n, p, .c (.ptr q)⟩) : (tgtOf s o.op).off q.id := by
  unfold exOk at hx
  split at hx
  · rename_i e; rw [e] at ha; cases ha
  · rename_i b r e
    split at hx
    · rename_i id hw
      have := exAll_spec hx (by rw [← e]; exact ha) hs
      simp only [tgtOf, hw, Tgt.off]
      exact this
    · cases hx
theorem st_no_p {s : St} {π : Path} {o : AOp} (hc : stOp o = true) {need : Option Prop} {v : AV} {B : Option Blk} (h : aop s π o = .p need v B) : False := by
  cases o <;> first | (simp [stOp] at hc; done) | skip
  case st1 =>
    simp only [aop] at h
    split at h
    · unfold st1 at h; (repeat' split at h) <;> cases h
    · cases h
  case stn =>
    simp only [aop] at h
    split at h
    · unfold stn at h; (repeat' split at h) <;> cases h
    · cases h
theorem tgt_congr {l l' : List Slot} {H : Heap} {o : AOp} (h : ∀ t ∈ aSlots o, slotAt l t = slotAt l' t) : tgtOf ⟨l, H⟩ o = tgtOf ⟨l', H⟩ o := by
  have : wrAddr ⟨l, H⟩ o = wrAddr ⟨l', H⟩ o := by
    cases o <;> simp only [aSlots, List.mem_append] at h <;> simp only [wrAddr]
    case st1 a x => rw [get_congr (y := a) (fun t ht => h t (.inl ht))]
    case stn n a x => rw [get_congr (y := a) (fun t ht => h t (.inl ht))]
  simp only [tgtOf, this]

def StepQ (P : Program) (ao : AOper) (s : St) (π : Path) (v : AV) (H' : Heap) : Prop :=
  gpath s ao.guard = some π ∧ ((∃ need B, aop s π ao.op = .p need v B ∧ imp π (needP need) ∧ H' = addBlk s.heap B) ∨
    (∃ need, ao.tl = true ∧ π = [] ∧ aop s [] ao.op = .t need v H' ∧ needP need ∧ exOk s ao = true) ∨
    (∃ f args M, aop s π ao.op = .call f args ∧ H' = addBs s.heap M ∧ allW M = true ∧ imp π (Con P f args (roH s.heap) (fun v' H' => v' = v ∧ H' = addBs (roH s.heap) M))))

theorem st1_wr {H : Heap} {a : AA} {x : CV} {need : Option Prop} {v : AV} {H' : Heap} (h : st1 H a x = .t need v H') : ∃ B, getB H.blks a.id = some B ∧ B.wr = true := by
  unfold st1 at h
  cases hB : getB H.blks a.id with
  | none => rw [hB] at h; cases h
  | some B =>
    rw [hB] at h
    cases hw : B.wr with
    | false => simp only [hw] at h; cases h
    | true => exact ⟨B, rfl, hw⟩
theorem stn_wr {H : Heap} {n : Nat} {a : AA} {x : List Seg} {need : Option Prop} {v : AV} {H' : Heap} (h : stn H n a x = .t need v H') : ∃ B, getB H.blks a.id = some B ∧ B.wr = true := by
  unfold stn at h
  cases hB : getB H.blks a.id with
  | none => rw [hB] at h; simp at h
  | some B =>
    rw [hB] at h
    cases hw : B.wr with
    | false => simp only [hw] at h; cases h
    | true => exact ⟨B, rfl, hw⟩
theorem st_nop {s : St} {π : Path} {o : AOp} (hc : chgOp o = true) {need : Option Prop} {v : AV} {B : Option Blk} (h : aop s π o = .p need v B) : ∀ s', wrAddr s' o = none := by
  cases o <;> first | (simp [chgOp] at hc; done) | skip
  case st1 =>
    simp only [aop] at h
    split at h
    · unfold st1 at h; (repeat' split at h) <;> cases h
    · cases h
  case stn =>
    simp only [aop] at h
    split at h
    · unfold stn at h; (repeat' split at h) <;> cases h
    · cases h
  case app => intro s'; rfl
theorem tgt_wr {ao : AOper} {s : St} {π : Path} {v : AV} {H' : Heap} (hq : StepQ P ao s π v H') (ht : ao.tl = true) (hc : chgOp ao.op = true) {Y : Nat} (htg : tgtOf s ao.op = .one Y) : ∃ B, getB s.heap.blks Y = some B ∧ B.wr = true := by
  have hw : wrAddr s ao.op = some Y := by
    unfold tgtOf at htg
    split at htg
    · rename_i e; rw [e]; cases htg; rfl
    · split at htg <;> cases htg
  rcases hq.2 with ⟨_, _, e, _⟩ | ⟨_, _, _, e, _⟩ | ⟨_, _, _, e, _⟩
  · rw [st_nop hc e s] at hw; cases hw
  · generalize ao.op = o at *
    cases o <;> first | (simp [chgOp] at hc; done) | skip
    case st1 a x =>
      simp only [aop] at e
      simp only [wrAddr] at hw
      split at e
      · rename_i p cv e1 e2
        rw [e1] at hw
        cases hw
        exact st1_wr e
      · cases e
    case stn n a x =>
      simp only [aop] at e
      simp only [wrAddr] at hw
      split at e
      · rename_i p cv e1 e2
        rw [e1] at hw
        cases hw
        exact stn_wr e
      · cases e
    case app => simp [wrAddr] at hw
  · exact (chg_call hc e).elim

theorem imp_none (π : Path) : imp π (needP none) := by
  induction π with
  | nil => trivial
  | cons e r ih => intro _; exact ih

theorem trace {Qs : St → Prop} : ∀ (m : Nat) (al : List AOper) (s : St), (∀ i, i < m → ∃ ao, al[i]? = some ao ∧ (ao.tl = true → chgOp ao.op = true ∨ ao.op = .other)) → rwp (Con P) al s Qs →
    ∃ (S : Nat → St) (Pa : Nat → Path) (V : Nat → AV) (Hp : Nat → Heap), S 0 = s ∧
      (∀ i ao, i < m → al[i]? = some ao → StepQ P ao (S i) (Pa i) (V i) (Hp i) ∧ S (i + 1) = St.put ⟨(S i).tmps, Hp i⟩ ao.dst (Pa i) (V i)) ∧ rwp (Con P) (al.drop m) (S m) Qs
  | 0, al, s, _, h => ⟨fun _ => s, fun _ => [], fun _ => .bot, fun _ => s.heap, rfl, fun i ao hi => by omega, by simpa using h⟩
  | m + 1, [], s, hm, h => by obtain ⟨ao, h0, _⟩ := hm 0 (by omega); simp at h0
  | m + 1, ao :: al, s, hm, h => by
    have htl : ao.tl = true → chgOp ao.op = true ∨ ao.op = .other := by obtain ⟨x, h0, h1⟩ := hm 0 (by omega); simp at h0; subst h0; exact h1
    have hstep : ∃ π v H', StepQ P ao s π v H' ∧ rwp (Con P) al (St.put ⟨s.tmps, H'⟩ ao.dst π v) Qs := by
      simp only [rwp] at h
      cases hg : gpath s ao.guard with
      | none => rw [hg] at h; exact h.elim
      | some π =>
        rw [hg] at h
        simp only at h
        cases ha : aop s π ao.op with
        | bad => rw [ha] at h; exact h.elim
        | p need v B =>
          rw [ha] at h
          cases need with
          | none => exact ⟨π, v, _, ⟨hg, .inl ⟨none, B, ha, imp_none π, rfl⟩⟩, h⟩
          | some p => exact ⟨π, v, _, ⟨hg, .inl ⟨some p, B, ha, h.1, rfl⟩⟩, h.2⟩
        | t need v H' =>
          rw [ha] at h
          cases ht : ao.tl with
          | false => rw [ht] at h; cases need <;> exact h.elim
          | true =>
            cases π with
            | cons e r => cases need <;> (rw [ht] at h; exact h.elim)
            | nil =>
              cases hx : exOk s ao with
              | false => cases need <;> (rw [ht, hx] at h; exact h.elim)
              | true =>
                cases need with
                | none => rw [ht, hx] at h; exact ⟨[], v, H', ⟨hg, .inr (.inl ⟨none, ht, rfl, ha, trivial, hx⟩)⟩, h⟩
                | some p => rw [ht, hx] at h; exact ⟨[], v, H', ⟨hg, .inr (.inl ⟨some p, ht, rfl, ha, h.1, hx⟩)⟩, h.2⟩
        | call f args =>
          cases ht : ao.tl with
          | true =>
            rcases htl ht with h' | h'
            · exact (chg_call h' ha).elim
            · rw [h'] at ha; simp [aop_other] at ha
          | false =>
            rw [ha, ht] at h
            simp only [callW] at h
            obtain ⟨v, M, hM, hcon, hr⟩ := h
            exact ⟨π, v, _, ⟨hg, .inr (.inr ⟨f, args, M, ha, rfl, hM, hcon⟩)⟩, hr⟩
    obtain ⟨π, v, H', hq, hr⟩ := hstep
    obtain ⟨S, Pa, V, Hp, h0, hS, hrest⟩ := trace m al _ (fun i hi => by obtain ⟨x, h1, h2⟩ := hm (i + 1) (by omega); exact ⟨x, by simpa using h1, h2⟩) hr
    refine ⟨fun i => match i with | 0 => s | i + 1 => S i, fun i => match i with | 0 => π | i + 1 => Pa i, fun i => match i with | 0 => v | i + 1 => V i, fun i => match i with | 0 => H' | i + 1 => Hp i, rfl, fun i x hi hx => ?_, by simpa using hrest⟩
    cases i with
    | zero =>
      simp only [List.getElem?_cons_zero, Option.some.injEq] at hx
      subst hx
      exact ⟨hq, h0⟩
    | succ i => exact hS i x (by omega) (by simpa using hx)

def Emb.to (φ : Emb) (k : Nat) : Emb := fun i => if i < k then φ i else none
theorem Emb.to_le (φ : Emb) (k : Nat) : (φ.to k).le φ := fun i p h => by
  unfold Emb.to at h
  split at h
  · exact h
  · cases h
theorem Emb.to_mono (φ : Emb) {j k : Nat} (h : j ≤ k) : (φ.to j).le (φ.to k) := fun i p hi => by
  unfold Emb.to at *
  split at hi
  · rw [if_pos (by omega)]; exact hi
  · cases hi
theorem Emb.to_self {φ : Emb} {k : Nat} (h : ∀ i, k ≤ i → φ i = none) : φ.to k = φ := funext fun i => by
  unfold Emb.to
  split
  · rfl
  · rw [h i (by omega)]

def AOk (l : List Slot) (K : List Nat) : Prop := ∀ n sl, slotAt l n = some sl → pathOk l sl.path ∧ keysIn K sl.path
theorem SOk.aok {l : List Slot} {a : Act} {K : List Nat} (h : SOk φ l a K) : AOk l K := fun n sl hs => ⟨(h n sl hs).path, (h n sl hs).keys⟩
theorem step_t {N : Nat} {ops : Array Oper} {Q : Exit → Act → World → Prop} {o : Oper} {ao : AOper} (hc : Corr P N ops o ao) {E l : List Slot} {H : Heap} {a : Act} (hS : SOkE φ E l a) (hH : HRel φ H w) (hg : gpath ⟨l, H⟩ ao.guard = some [])
    {need : Option Prop} {v : AV} {H' : Heap} (ha : aop ⟨l, H⟩ [] ao.op = .t need v H') (hn : needP need) {KK : Act → World → Prop}
    (k : ∀ φ' x w', HRel φ' H' w' → Fr φ H w φ' H' w' → relA φ' v x → (∀ b, b < w.heap.size → (tgtOf ⟨l, H⟩ ao.op).phys φ b → w'.heap[b]? = w.heap[b]?) → KK (a.put o.dst x) w') : stp P ops Q o KK a w := by
  have hno : ao.op ≠ .other := fun e => by rw [e] at ha; simp [aop_other] at ha
  have hw := wanted_iff hc hno hS hg
  have hs := hc.op.resolve_right hno
  have hgets : ∀ K, Gets φ ⟨l, K⟩ [] a := fun K => gets_of (H := K) hS (π := []) trivial trivial
  unfold stp
  rw [if_pos (hw.2 trivial)]
  refine .inl ?_
  obtain ⟨φ', w', h1, h2, h3⟩ := op_t hs (hgets H) hH ha hn
  unfold Oper.wp
  rcases h1 with ⟨x, h1, hr⟩ | ⟨h1, rfl⟩
  · rw [h1]; exact k φ' x w' h2 h3 hr fun b hb ht => tgt_phys (s := ⟨l, H⟩) hs hgets hH ha hn (.inl ⟨x, h1⟩) hb ht
  · rw [h1]; exact k φ' undef w' h2 h3 trivial fun b hb ht => tgt_phys (s := ⟨l, H⟩) hs hgets hH ha hn (.inr h1) hb ht

theorem aok_put {l : List Slot} {K K' : List Nat} (h : AOk l K) (hKK : ∀ x ∈ K, x ∈ K') {d : Nat} (hd : d ∉ K') {π : Path} (hπ : pathOk l π) (hk : keysIn K' π) {v : AV} : AOk (⟨d, π, v⟩ :: l) K' := by
  intro n sl hs
  by_cases hn : n = d
  · subst hn
    rw [slotAt_cons_self] at hs
    cases hs
    exact ⟨pathOk_cons hd hk hπ, hk⟩
  · rw [slotAt_cons_ne hn] at hs
    obtain ⟨h1, h2⟩ := h n sl hs
    exact ⟨pathOk_cons hd (keysIn_mono hKK h2) h1, keysIn_mono hKK h2⟩

theorem gpath_aok {l : List Slot} {H : Heap} {K : List Nat} (hA : AOk l K) {g : Option (Nat × Bool)} {π : Path} (h : gpath ⟨l, H⟩ g = some π) : pathOk l π ∧ keysIn (addK K g) π := by
  cases g with
  | none => simp only [gpath, Option.some.injEq] at h; subst h; exact ⟨trivial, fun e he => by cases he⟩
  | some g =>
    obtain ⟨d, w⟩ := g
    simp only [gpath] at h
    split at h
    · rename_i n p b hs
      simp only [Option.some.injEq] at h
      subst h
      have hn : n = d := slotAt_num _ _ _ hs
      subst hn
      obtain ⟨h1, h2⟩ := hA _ _ hs
      refine ⟨⟨hs, h1⟩, fun e he => ?_⟩
      cases he with
      | head => exact List.mem_cons_self
      | tail _ he => exact List.mem_cons_of_mem _ (h2 e he)
    · simp at h

def mask (R : List Nat) : List Slot → List Slot
  | [] => []
  | ⟨n, p, v⟩ :: r => (if R.contains n then ⟨n, p, v⟩ else ⟨n, [], .bot⟩) :: mask R r
theorem slotAt_mask_in {R : List Nat} {t : Nat} (h : R.contains t = true) : ∀ (l : List Slot), slotAt (mask R l) t = slotAt l t
  | [] => rfl
  | ⟨n, p, v⟩ :: r => by
    simp only [mask]
    by_cases hn : n = t
    · subst hn
      rw [if_pos h, slotAt_cons_self, slotAt_cons_self]
    · split
      · rw [slotAt_cons_ne (Ne.symm hn), slotAt_cons_ne (Ne.symm hn)]; exact slotAt_mask_in h r
      · rw [slotAt_cons_ne (Ne.symm hn), slotAt_cons_ne (Ne.symm hn)]; exact slotAt_mask_in h r
theorem slotAt_mask_out {R : List Nat} {t : Nat} (h : R.contains t = false) : ∀ (l : List Slot) (sl : Slot), slotAt (mask R l) t = some sl → sl = ⟨t, [], .bot⟩
  | [], sl, hs => by simp [mask, slotAt] at hs
  | ⟨n, p, v⟩ :: r, sl, hs => by
    simp only [mask] at hs
    by_cases hn : n = t
    · subst hn
      rw [h, if_neg (by simp), slotAt_cons_self] at hs
      cases hs
      rfl
    · split at hs
      · rw [slotAt_cons_ne (Ne.symm hn)] at hs; exact slotAt_mask_out h r sl hs
      · rw [slotAt_cons_ne (Ne.symm hn)] at hs; exact slotAt_mask_out h r sl hs

structure Run (P : Program) (N : Nat) (ops : Array Oper) (al : List AOper) (m0 m : Nat) (S : Nat → St) (Pa : Nat → Path) (V : Nat → AV) (Hp : Nat → Heap) (KK : Nat → List Nat) : Prop where
  le : m ≤ ops.size
  lo : m0 ≤ m
  const : ∀ i, i ≤ m0 → S i = S 0
  corr : ∀ i, i < ops.size → ∃ o ao, ops[i]? = some o ∧ al[i]? = some ao ∧ Corr P N ops o ao
  step : ∀ i ao, m0 ≤ i → i < m → al[i]? = some ao → StepQ P ao (S i) (Pa i) (V i) (Hp i) ∧ S (i + 1) = St.put ⟨(S i).tmps, Hp i⟩ ao.dst (Pa i) (V i)
  chg : ∀ i ao, m0 ≤ i → i < m → al[i]? = some ao → ao.tl = true → chgOp ao.op = true
  mid : ∀ j aj oj, m0 ≤ j → j < m → al[j]? = some aj → ops[j]? = some oj → aj.tl = true → ∀ i ai oi, m0 ≤ i → i < m → al[i]? = some ai → ops[i]? = some oi → i ≠ j → quietOp ai.op = false → (j < i → Behind ops oi j ∨ ((addrOf ai.op).isSome = true ∧ appNil aj.op = true)) ∧ (i < j → Behind ops oj i ∨ ∃ a, addrOf ai.op = some a ∧ (appNil aj.op = true ∨ (stOp aj.op = true ∧ a ∈ aj.ex ∧ ∀ k ak, i ≤ k → k < m → al[k]? = some ak → ak.dst ≠ some a)))
  aok : ∀ i, m0 ≤ i → i ≤ m → AOk (S i).tmps (KK i)
  kk : ∀ i ao, m0 ≤ i → i < m → al[i]? = some ao → KK (i + 1) = addK (KK i) ao.guard
  no : ∀ i ao d, m0 ≤ i → i < m → al[i]? = some ao → ao.dst = some d → d ∉ KK (i + 1)
  draw : drawOk ops al = true

theorem addBlk_next (H : Heap) (B : Option Blk) : H.next ≤ (addBlk H B).next := by cases B <;> simp [addBlk]
theorem put_heap (s : St) (d : Option Nat) (π : Path) (v : AV) : (St.put s d π v).heap = s.heap := by cases d <;> rfl

section
variable {N : Nat} {ops : Array Oper} {al : List AOper} {m0 m : Nat} {S : Nat → St} {Pa : Nat → Path} {V : Nat → AV} {Hp : Nat → Heap} {KK : Nat → List Nat}

theorem Run.al_some (h : Run P N ops al m0 m S Pa V Hp KK) {i : Nat} (hi : i < m) : ∃ o ao, ops[i]? = some o ∧ al[i]? = some ao ∧ Corr P N ops o ao := h.corr i (Nat.lt_of_lt_of_le hi h.le)

theorem Run.heap_succ (h : Run P N ops al m0 m S Pa V Hp KK) {i : Nat} (h0 : m0 ≤ i) (hi : i < m) : (S (i + 1)).heap = Hp i := by
  obtain ⟨o, ao, _, ha, _⟩ := h.al_some hi
  rw [(h.step i ao h0 hi ha).2, put_heap]

theorem Run.same_lo (h : Run P N ops al m0 m S Pa V Hp KK) {i : Nat} (hi : ¬ m0 ≤ i) : S (i + 1) = S i := by
  rw [h.const i (by omega), h.const (i + 1) (by omega)]

theorem Run.next_succ (h : Run P N ops al m0 m S Pa V Hp KK) {i : Nat} (hi : i < m) : (S i).heap.next ≤ (S (i + 1)).heap.next := by
  obtain ⟨o, ao, _, ha, _⟩ := h.al_some hi
  by_cases h0 : m0 ≤ i
  rotate_left
  · rw [h.same_lo h0]; exact Nat.le_refl _
  rw [h.heap_succ h0 hi]
  rcases (h.step i ao h0 hi ha).1.2 with ⟨_, B, _, _, e⟩ | ⟨_, ht, hp, ht', _⟩ | ⟨_, _, M, _, e, _⟩
  · rw [e]; exact addBlk_next _ _
  · exact chg_next (h.chg i ao h0 hi ha ht) ht'
  · rw [e, addBs_next]; omega

theorem Run.next_mono (h : Run P N ops al m0 m S Pa V Hp KK) : ∀ {i j : Nat}, i ≤ j → j ≤ m → (S i).heap.next ≤ (S j).heap.next := by
  intro i j hij
  induction hij with
  | refl => intro _; exact Nat.le_refl _
  | step hij ih => intro hj; exact Nat.le_trans (ih (by omega)) (h.next_succ (by omega))

def still (al : List AOper) (m0 i j : Nat) : Prop := ∀ t ao, m0 ≤ t → i ≤ t → t < j → al[t]? = some ao → ao.tl = false
def stillAt (al : List AOper) (S : Nat → St) (m0 X i j : Nat) : Prop := ∀ t ao, m0 ≤ t → i ≤ t → t < j → al[t]? = some ao → ao.tl = true → (tgtOf (S t) ao.op).off X

theorem Run.getB_at (h : Run P N ops al m0 m S Pa V Hp KK) {X : Nat} : ∀ {i j : Nat}, i ≤ j → j ≤ m → stillAt al S m0 X i j → X < (S i).heap.next → getB (S j).heap.blks X = getB (S i).heap.blks X := by
  intro i j hij
  induction hij with
  | refl => intro _ _ _; rfl
  | step hij ih =>
    intro hj hst hid
    rename_i j
    have hij : i ≤ j := hij
    have hlt : X < (S j).heap.next := Nat.lt_of_lt_of_le hid (h.next_mono hij (by omega))
    have ih := ih (by omega) (fun t ao h0 h1 h2 => hst t ao h0 h1 (by omega)) hid
    obtain ⟨o, ao, _, ha, _⟩ := h.al_some (show j < m by omega)
    by_cases h0 : m0 ≤ j
    rotate_left
    · rw [h.same_lo h0]; exact ih
    rw [h.heap_succ h0 (show j < m by omega)]
    rcases (h.step j ao h0 (by omega) ha).1.2 with ⟨_, B, _, _, e⟩ | ⟨_, ht, hp, e, _⟩ | ⟨_, _, M, _, e, _⟩
    · rw [e]
      cases B with
      | none => exact ih
      | some B =>
        show getB (((S j).heap.next, B) :: (S j).heap.blks) X = _
        rw [getB_cons_ne (by omega)]
        exact ih
    · rw [tgt_names e (hst j ao h0 hij (by omega) ha ht) hlt]; exact ih
    · rw [e, addBs_lo M _ X hlt]; exact ih
theorem Run.getB_old (h : Run P N ops al m0 m S Pa V Hp KK) {i j : Nat} (hij : i ≤ j) (hj : j ≤ m) (hs : still al m0 i j) (id : Nat) (hid : id < (S i).heap.next) : getB (S j).heap.blks id = getB (S i).heap.blks id :=
  h.getB_at hij hj (fun t ao h0 h1 h2 h3 h4 => by rw [hs t ao h0 h1 h2 h3] at h4; cases h4) hid

theorem Run.slot_same (h : Run P N ops al m0 m S Pa V Hp KK) {t : Nat} : ∀ {i j : Nat}, i ≤ j → j ≤ m → (∀ k ak, m0 ≤ k → i ≤ k → k < j → al[k]? = some ak → ak.dst ≠ some t) → slotAt (S j).tmps t = slotAt (S i).tmps t := by
  intro i j hij
  induction hij with
  | refl => intro _ _; rfl
  | step hij ih =>
    intro hj hno
    rename_i j
    have hij : i ≤ j := hij
    have ih := ih (by omega) fun k ak h0 h1 h2 => hno k ak h0 h1 (by omega)
    obtain ⟨o, ao, _, ha, _⟩ := h.al_some (show j < m by omega)
    by_cases h0 : m0 ≤ j
    rotate_left
    · rw [h.same_lo h0]; exact ih
    rw [(h.step j ao h0 (by omega) ha).2]
    have hd := hno j ao h0 hij (by omega) ha
    cases hdd : ao.dst with
    | none => exact ih
    | some d =>
      show slotAt (⟨d, Pa j, V j⟩ :: (S j).tmps) t = _
      rw [slotAt_cons_ne (fun e => hd (by rw [hdd, e]))]
      exact ih
theorem Run.slot (h : Run P N ops al m0 m S Pa V Hp KK) : ∀ {i : Nat}, i ≤ m → ∀ t, (∃ j ao, m0 ≤ j ∧ j < i ∧ al[j]? = some ao ∧ ao.dst = some t ∧ slotAt (S i).tmps t = some ⟨t, Pa j, V j⟩) ∨ ((∀ j ao, m0 ≤ j → j < i → al[j]? = some ao → ao.dst ≠ some t) ∧ slotAt (S i).tmps t = slotAt (S 0).tmps t)
  | 0, _, t => .inr ⟨fun j ao h0 hj => by omega, rfl⟩
  | i + 1, hi, t => by
    obtain ⟨o, ao, _, ha, _⟩ := h.al_some (show i < m by omega)
    have ih := h.slot (show i ≤ m by omega) t
    by_cases h0 : m0 ≤ i
    rotate_left
    · rw [h.same_lo h0]
      rcases ih with ⟨j, x, h1, _⟩ | ⟨hno, hsl⟩
      · omega
      · exact .inr ⟨fun j x h1 h2 => by omega, hsl⟩
    have hs := (h.step i ao h0 (by omega) ha).2
    cases hd : ao.dst with
    | none =>
      rw [hd] at hs
      have e : (S (i + 1)).tmps = (S i).tmps := by rw [hs]; rfl
      rw [e]
      rcases ih with ⟨j, x, hj0, hj, hx, hxd, hsl⟩ | ⟨hno, hsl⟩
      · exact .inl ⟨j, x, hj0, by omega, hx, hxd, hsl⟩
      · refine .inr ⟨fun j x hj0 hj hx => ?_, hsl⟩
        by_cases hji : j = i
        · subst hji; rw [ha] at hx; cases hx; rw [hd]; simp
        · exact hno j x hj0 (by omega) hx
    | some d =>
      rw [hd] at hs
      have e : (S (i + 1)).tmps = ⟨d, Pa i, V i⟩ :: (S i).tmps := by rw [hs]; rfl
      rw [e]
      by_cases htd : t = d
      · subst htd
        exact .inl ⟨i, ao, h0, by omega, ha, hd, slotAt_cons_self _ _ _ _⟩
      · rw [slotAt_cons_ne htd]
        rcases ih with ⟨j, x, hj0, hj, hx, hxd, hsl⟩ | ⟨hno, hsl⟩
        · exact .inl ⟨j, x, hj0, by omega, hx, hxd, hsl⟩
        · refine .inr ⟨fun j x hj0 hj hx => ?_, hsl⟩
          by_cases hji : j = i
          · subst hji; rw [ha] at hx; cases hx; rw [hd]; simpa using Ne.symm htd
          · exact hno j x hj0 (by omega) hx
end

end Go.AM

namespace Go.AM
set_option linter.unusedVariables false
set_option linter.unusedSimpArgs false
variable {P : Program} {φ : Emb} {w : World}

theorem draw_spec {ops : Array Oper} {al : List AOper} (h : drawOk ops al = true) {i : Nat} {o : Oper} {ao : AOper} (ho : ops[i]? = some o) (ha : al[i]? = some ao) :
    (∀ e ∈ o.after, Region.binds .any e = true → e.on < i) ∧ ∀ j x d, j ≠ i → ops[j]? = some x → x.dst = some d → o.dst ≠ some d ∧ (d ∈ readsA ao → (j < i → waits o j = true) ∧ (i < j → waits x i = true)) := by
  have hi : i < ops.size := (Array.getElem?_eq_some_iff.1 ho).1
  unfold drawOk at h
  have h1 := List.all_eq_true.1 h i (List.mem_range.2 hi)
  simp only [ho, ha, Bool.and_eq_true, List.all_eq_true, List.mem_range, Bool.or_eq_true, Bool.not_eq_true', decide_eq_true_eq, beq_iff_eq] at h1
  obtain ⟨g1, g2⟩ := h1
  refine ⟨fun e he hb => ?_, fun j x d hne hx hd => ?_⟩
  · have := g1 e (by simpa using he)
    rcases this with h | h
    · rw [hb] at h; cases h
    · exact h
  · have hj : j < ops.size := (Array.getElem?_eq_some_iff.1 hx).1
    have := (g2 j hj).resolve_left (Ne.symm hne)
    simp only [hx, hd, Bool.and_eq_true, Bool.or_eq_true, Bool.not_eq_true', bne_iff_ne, ne_eq] at this
    refine ⟨this.1, fun hmem => ?_⟩
    have h3 := this.2.resolve_left (by simpa using hmem)
    constructor
    · intro hlt; simpa [hlt] using h3
    · intro hlt; simpa [Nat.not_lt.2 (Nat.le_of_lt hlt)] using h3

theorem ready_waits {ops : Array Oper} {listed : Array Bool} {i : Nat} {o : Oper} (h : i ∈ Region.ready .any ops listed) (ho : ops[i]? = some o) : listed.getD i true = false ∧ ∀ j, waits o j = true → listed.getD j false = true := by
  obtain ⟨h0, o', ho', hall⟩ := mem_ready.1 h
  rw [ho] at ho'
  cases ho'
  refine ⟨h0, fun j hj => ?_⟩
  unfold waits at hj
  obtain ⟨e, he, hb⟩ := List.any_eq_true.1 hj
  simp only [Bool.and_eq_true, beq_iff_eq] at hb
  have := hall e (by simpa using he) hb.1
  rwa [hb.2] at this

def unl (listed : Array Bool) : Nat → Nat
  | 0 => 0
  | k + 1 => unl listed k + (if listed.getD k false = true then 0 else 1)
theorem unl_set {listed : Array Bool} {i : Nat} (hi : listed.getD i false = false) (hs : i < listed.size) : ∀ {k : Nat}, (i < k → unl (listed.setIfInBounds i true) k + 1 = unl listed k) ∧ (k ≤ i → unl (listed.setIfInBounds i true) k = unl listed k)
  | 0 => ⟨fun h => by omega, fun _ => rfl⟩
  | k + 1 => by
    obtain ⟨h1, h2⟩ := unl_set hi hs (k := k)
    refine ⟨fun h => ?_, fun h => ?_⟩
    · simp only [unl]
      by_cases hk : k = i
      · subst hk
        rw [h2 (Nat.le_refl _), hi]
        simp [hs]
      · rw [getD_set_ne false (Ne.symm hk)]
        have := h1 (by omega)
        omega
    · simp only [unl]
      rw [getD_set_ne false (by omega), h2 (by omega)]
theorem unl_zero {listed : Array Bool} : ∀ {k : Nat}, unl listed k = 0 → ∀ i, i < k → listed.getD i false = true
  | k + 1, h, i, hi => by
    simp only [unl] at h
    by_cases hk : i = k
    · subst hk
      split at h
      · assumption
      · omega
    · exact unl_zero (k := k) (by omega) i (by omega)

theorem getD_set_self {listed : Array Bool} {i : Nat} (h : i < listed.size) (d : Bool) : (listed.setIfInBounds i true).getD i d = true := by simp [h]

section
variable {N : Nat} {ops : Array Oper} {al : List AOper} {m0 m : Nat} {S : Nat → St} {Pa : Nat → Path} {V : Nat → AV} {Hp : Nat → Heap} {KK : Nat → List Nat}

def Stg (al : List AOper) (m0 m : Nat) (listed : Array Bool) (k : Nat) : Prop := ∀ j ao, m0 ≤ j → j < m → al[j]? = some ao → ao.tl = true → (listed.getD j false = true ↔ j < k)

def OffD (al : List AOper) (S : Nat → St) (m0 m : Nat) (listed : Array Bool) (k X : Nat) : Prop := ∀ j ao, m0 ≤ j → j < m → al[j]? = some ao → ao.tl = true → ¬ (listed.getD j false = true ↔ j < k) → (tgtOf (S j) ao.op).off X

structure Jn (ops : Array Oper) (al : List AOper) (m0 m N : Nat) (S : Nat → St) (Pa : Nat → Path) (V : Nat → AV) (φs : Emb) (a0 : Act) (ws : World) (listed : Array Bool) (φ : Emb) (a : Act) (w : World) : Prop where
  sz : listed.size = ops.size
  lt : ∀ i, listed.getD i false = true → i < m
  base : ∀ i, i < m0 → listed.getD i false = true
  down : ∀ i o j, listed.getD i false = true → ops[i]? = some o → waits o j = true → listed.getD j false = true
  hr : ∀ k, k ≤ m → Stg al m0 m listed k → HRel (φ.to (S k).heap.next) (S k).heap w ∧ Fr φs (S 0).heap ws (φ.to (S k).heap.next) (S k).heap w
  hb : ∀ k X B p, k ≤ m → getB (S k).heap.blks X = some B → OffD al S m0 m listed k X → (φ.to (S k).heap.next) X = some p → BRel (φ.to (S k).heap.next) B p w
  bl : ∀ id p, φ id = some p → p.blk < w.heap.size
  fresh : ∀ i, (S m).heap.next ≤ i → φ i = none
  un : ∀ i, i < m → listed.getD i false = false → ∀ id, (S i).heap.next ≤ id → id < (S (i + 1)).heap.next → φ id = none
  on : ∀ i ao d, m0 ≤ i → i < m → listed.getD i false = true → al[i]? = some ao → ao.dst = some d → (conds (Pa i) → relA (φ.to (S (i + 1)).heap.next) (V i) (a.tmps.getD d undef)) ∧ (¬ conds (Pa i) → a.tmps.getD d undef = undef)
  off : ∀ t, (∀ i ao, m0 ≤ i → i < m → listed.getD i false = true → al[i]? = some ao → ao.dst ≠ some t) → a.tmps.getD t undef = a0.tmps.getD t undef
  old : ∀ id, id < (S 0).heap.next → φ id = φs id
  defers : a.defers = []
  size : a.tmps.size = N

theorem Grow.refl (w : World) : Grow w w := ⟨rfl, rfl, rfl, Nat.le_refl _, fun _ _ => rfl⟩
theorem Grow.alloc (w : World) (o : Obj) : Grow w (w.alloc o) := ⟨rfl, rfl, rfl, by simp, fun b hb => heap_alloc_lt w o hb⟩

theorem HRel.define {H : Heap} (h : HRel φ H w) {w' : World} (hg : Grow w w') {n : Nat} {p : Place} (hn : φ n = none) (hlt : n < H.next) {B : Blk} (hB : getB H.blks n = some B) (hb : BRel (φ.ins n p) B p w') (hp : w.heap.size ≤ p.blk) (hp' : p.blk < w'.heap.size) : HRel (φ.ins n p) H w' := by
  obtain ⟨h', _⟩ := h.grown hg.os hg.tape hg.output hg.size hg.block (K := H) (Nat.le_refl _) (fun _ _ h _ => h)
  have hle := Emb.le_ins (p := p) hn
  have hold : ∀ j q, (φ.ins n p) j = some q → j ≠ n → φ j = some q := fun j q hq hj => by simpa [Emb.ins, hj] using hq
  have hself : ∀ q, (φ.ins n p) n = some q → q = p := fun q hq => by rw [Emb.ins_self] at hq; cases hq; rfl
  refine ⟨fun j D q hj hq => ?_, fun j k D E q r hj hk hq hr hne hDw => ?_, fun j hj => ?_, fun j q hq => ?_⟩
  · by_cases e : j = n
    · subst e
      rw [hB] at hj
      cases hj
      rw [hself q hq]
      exact hb
    · have hb' := h'.blk j D q hj (hold j q hq e)
      exact ⟨hb'.str, fun i hi => let ⟨xs, h1, h2, h3⟩ := hb'.rows i hi; ⟨xs, h1.mono fun _ _ => rel_mono hle, h2, h3⟩, hb'.own⟩
  · by_cases e : j = n
    · subst e
      rw [hself q hq]
      have := h.lt k r (hold k r hr (Ne.symm hne))
      omega
    · by_cases e2 : k = n
      · subst e2
        rw [hself r hr]
        have := h.lt j q (hold j q hq e)
        omega
      · exact h'.inj j k D E q r hj hk (hold j q hq e) (hold k r hr e2) hne hDw
  · simp only [Emb.ins]
    rw [if_neg (by omega)]
    exact h.fresh j hj
  · by_cases e : j = n
    · subst e; rw [hself q hq]; exact hp'
    · exact h'.lt j q (hold j q hq e)

theorem ins_to {n k : Nat} {p : Place} : (φ.ins n p).to k = if n < k then (φ.to k).ins n p else φ.to k := by
  funext i
  unfold Emb.to Emb.ins
  by_cases h1 : n < k
  · rw [if_pos h1]
    by_cases h2 : i = n
    · subst h2; simp [h1]
    · simp [h2]
  · rw [if_neg h1]
    by_cases h2 : i = n
    · subst h2; simp [h1]
    · simp [h2]

theorem HRel.empty {n : Nat} (h1 : ∀ i, n ≤ i → φ i = none) (h2 : ∀ i p, φ i = some p → p.blk < w.heap.size) : HRel φ ⟨n, []⟩ w :=
  ⟨fun i B p hB => by simp [getB] at hB, fun i j B C p q hB => by simp [getB] at hB, h1, h2⟩

theorem jn_step (hR : Run P N ops al m0 m S Pa V Hp KK) {φs : Emb} {a0 : Act} {ws : World} (hs0 : SOk φs (S 0).tmps a0 (KK 0)) (hf0 : ∀ i, (S 0).heap.next ≤ i → φs i = none) {listed : Array Bool} {a : Act}
    (hJ : Jn ops al m0 m N S Pa V φs a0 ws listed φ a w) {i : Nat} (hi : i < m) (hrd : i ∈ Region.ready .any ops listed) {Q : Exit → Act → World → Prop} {KQ : Act → World → Prop}
    (k : ∀ φ' a' w', Jn ops al m0 m N S Pa V φs a0 ws (listed.setIfInBounds i true) φ' a' w' → KQ a' w') : wpOp P ops Q i KQ a w := by
  obtain ⟨o, ao, ho, ha, hc⟩ := hR.al_some hi
  obtain ⟨hun, hdeps⟩ := ready_waits hrd ho
  have hiz : i < listed.size := by rw [hJ.sz]; exact Nat.lt_of_lt_of_le hi hR.le
  have hunf : listed.getD i false = false := by
    simp only [Array.getD_eq_getD_getElem?, Array.getElem?_eq_getElem hiz, Option.getD_some] at hun ⊢
    exact hun
  have hi0 : m0 ≤ i := by
    rcases Nat.lt_or_ge i m0 with h | h
    · rw [hJ.base i h] at hunf; cases hunf
    · exact h
  obtain ⟨hq, hSn⟩ := hR.step i ao hi0 hi ha
  obtain ⟨hdr1, hdr2⟩ := draw_spec hR.draw ho ha
  -- the masked list, under the ids that were known by then
  have hnm := hR.next_mono (i := 0) (j := i) (Nat.zero_le _) (Nat.le_of_lt hi)
  have hnm1 : ∀ j, j < i → (S (j + 1)).heap.next ≤ (S i).heap.next := fun j hj => hR.next_mono (by omega) (by omega)
  have hlesφ : φs.le (φ.to (S i).heap.next) := fun id p hp => by
    have hlt : id < (S 0).heap.next := by
      rcases Nat.lt_or_ge id (S 0).heap.next with h | h
      · exact h
      · rw [hf0 id h] at hp; cases hp
    unfold Emb.to
    rw [if_pos (by omega), hJ.old id hlt]
    exact hp
  have hsok : SOkE (φ.to (S i).heap.next) (S i).tmps (mask (readsA ao) (S i).tmps) a := by
    intro t sl hsl
    cases hR' : (readsA ao).contains t with
    | false =>
      have := slotAt_mask_out hR' _ _ hsl
      subst this
      exact ⟨rfl, fun _ => trivial, .inl rfl, trivial, .inl rfl⟩
    | true =>
      rw [slotAt_mask_in hR'] at hsl
      have hmem : t ∈ readsA ao := by simpa using hR'
      obtain ⟨hp1, hp2⟩ := hR.aok i hi0 (Nat.le_of_lt hi) t sl hsl
      refine ⟨slotAt_num _ _ _ hsl, ?_, ?_, hp1, .inr hsl⟩ <;>
        (rcases hR.slot (Nat.le_of_lt hi) t with ⟨j, x, hj0, hj, hx, hxd, hs'⟩ | ⟨hno, hs'⟩)
      · rw [hs'] at hsl
        cases hsl
        obtain ⟨ox, ax, hox, hax, hcx⟩ := hR.al_some (show j < m by omega)
        rw [hx] at hax
        cases hax
        have hw := ((hdr2 j ox t (by omega) hox (by rw [← hcx.dst]; exact hxd)).2 hmem).1 hj
        intro hcd
        exact relA_mono (Emb.to_mono φ (hnm1 j hj)) ((hJ.on j x t hj0 (by omega) (hdeps j hw) hx hxd).1 hcd)
      · intro hcd
        rw [hs'] at hsl
        have hk := hs0 t sl hsl
        rw [hJ.off t ?_]
        · exact relA_mono hlesφ (hk.on hcd)
        · intro j x hj0 hj hlj hx hxd
          by_cases hji : j < i
          · exact hno j x hj0 hji hx hxd
          · have hne : j ≠ i := fun e => by subst e; rw [hunf] at hlj; cases hlj
            obtain ⟨ox, ax, hox, hax, hcx⟩ := hR.al_some hj
            rw [hx] at hax
            cases hax
            have hw := ((hdr2 j ox t hne hox (by rw [← hcx.dst]; exact hxd)).2 hmem).2 (by omega)
            have := hJ.down j ox i hlj hox hw
            rw [hunf] at this
            cases this
      · rw [hs'] at hsl
        cases hsl
        obtain ⟨ox, ax, hox, hax, hcx⟩ := hR.al_some (show j < m by omega)
        rw [hx] at hax
        cases hax
        have hw := ((hdr2 j ox t (by omega) hox (by rw [← hcx.dst]; exact hxd)).2 hmem).1 hj
        exact .inr fun hcd => (hJ.on j x t hj0 (by omega) (hdeps j hw) hx hxd).2 hcd
      · refine .inr fun hcd => ?_
        rw [hs'] at hsl
        have hk := hs0 t sl hsl
        rw [hJ.off t ?_]
        · exact hk.off hcd
        · intro j x hj0 hj hlj hx hxd
          by_cases hji : j < i
          · exact hno j x hj0 hji hx hxd
          · have hne : j ≠ i := fun e => by subst e; rw [hunf] at hlj; cases hlj
            obtain ⟨ox, ax, hox, hax, hcx⟩ := hR.al_some hj
            rw [hx] at hax
            cases hax
            have hw := ((hdr2 j ox t hne hox (by rw [← hcx.dst]; exact hxd)).2 hmem).2 (by omega)
            have := hJ.down j ox i hlj hox hw
            rw [hunf] at this
            cases this
  have hgm : ∀ H, gpath ⟨mask (readsA ao) (S i).tmps, H⟩ ao.guard = some (Pa i) := by
    intro H
    rw [← hq.1]
    cases hg : ao.guard with
    | none => rfl
    | some g =>
      obtain ⟨d, ww⟩ := g
      simp only [gpath]
      rw [slotAt_mask_in (by simp [readsA, hg])]
  have ham : aop ⟨mask (readsA ao) (S i).tmps, (S i).heap⟩ (Pa i) ao.op = aop (S i) (Pa i) ao.op :=
    aop_congr fun t ht => slotAt_mask_in (by simp only [List.contains_eq_mem, decide_eq_true_eq, readsA, List.mem_append]; exact .inr ht) _
  have hno : ao.op ≠ .other := fun h => by
    rcases hq.2 with ⟨_, _, e, _⟩ | ⟨_, _, _, e, _⟩ | ⟨_, _, _, e, _⟩ <;> (rw [h] at e; simp [aop_other] at e)
  -- how far the heap is turned
  have hstg : quietOp ao.op = false → addrOf ao.op = none → Stg al m0 m listed i := fun hnq hna j aj hj0 hj haj ht => by
    obtain ⟨oj, aj', hoj, haj', _⟩ := hR.al_some hj
    rw [haj] at haj'
    cases haj'
    by_cases hji : j = i
    · subst hji
      rw [hunf]
      constructor
      · intro h; cases h
      · intro h; omega
    · obtain ⟨g1, g2⟩ := hR.mid j aj oj hj0 hj haj hoj ht i ao o hi0 hi ha ho (Ne.symm hji) hnq
      have g1 := fun h => (g1 h).resolve_right fun h => by rw [hna] at h; simp at h
      have g2 := fun h => (g2 h).resolve_right fun ⟨a, h, _⟩ => by rw [hna] at h; cases h
      constructor
      · intro hl
        rcases Nat.lt_or_gt_of_ne hji with h | h
        · exact h
        · have := g2 h (fun x => listed.getD x false = true) (fun i o j => hJ.down i o j) (fun x hx => hJ.down j oj x hl hoj hx)
          rw [hunf] at this
          cases this
      · intro h
        exact g1 h (fun x => listed.getD x false = true) (fun i o j => hJ.down i o j) hdeps
  have hls : ∀ j, (listed.setIfInBounds i true).getD j false = true → j = i ∨ listed.getD j false = true := fun j hj => by
    by_cases e : j = i
    · exact .inl e
    · rw [getD_set_ne false (Ne.symm e)] at hj; exact .inr hj
  -- how the facts go on
  have next : ∀ φ' x w', φ.le φ' → (∀ k, k ≤ m → Stg al m0 m (listed.setIfInBounds i true) k → HRel (φ'.to (S k).heap.next) (S k).heap w' ∧ Fr φs (S 0).heap ws (φ'.to (S k).heap.next) (S k).heap w') →
      (∀ k X B p, k ≤ m → getB (S k).heap.blks X = some B → OffD al S m0 m (listed.setIfInBounds i true) k X → (φ'.to (S k).heap.next) X = some p → BRel (φ'.to (S k).heap.next) B p w') →
      (∀ id p, φ' id = some p → p.blk < w'.heap.size) → (∀ id, (S m).heap.next ≤ id → φ' id = none) → (∀ j, j < m → j ≠ i → listed.getD j false = false → ∀ id, (S j).heap.next ≤ id → id < (S (j + 1)).heap.next → φ' id = none) → (∀ id, id < (S 0).heap.next → φ' id = φs id) →
      (conds (Pa i) → relA (φ'.to (S (i + 1)).heap.next) (V i) x) → (¬ conds (Pa i) → x = undef) → Jn ops al m0 m N S Pa V φs a0 ws (listed.setIfInBounds i true) φ' (a.put o.dst x) w' := by
    intro φ' x w' hle hh hhb hbl hfr hun' hold h1 h2
    have hle_to : ∀ k, (φ.to k).le (φ'.to k) := fun k id p hp => by
      unfold Emb.to at *
      split at hp
      · rw [if_pos (by assumption)]; exact hle _ _ hp
      · cases hp
    refine ⟨by simp [hJ.sz], fun j hj => ?_, fun j hj => getD_set_true (hJ.base j hj), fun j oj l hj hoj hw => ?_, hh, hhb, hbl, hfr, fun j hj hlj => ?_, fun j x' d hj0 hj hlj hx' hd => ?_, fun t ht => ?_, hold, by rw [put_defers']; exact hJ.defers, by rw [put_size]; exact hJ.size⟩
    · rcases hls j hj with rfl | h
      · exact hi
      · exact hJ.lt j h
    · refine getD_set_true ?_
      rcases hls j hj with rfl | h
      · rw [ho] at hoj; cases hoj; exact hdeps l hw
      · exact hJ.down j oj l h hoj hw
    · have hji : j ≠ i := fun e => by subst e; rw [getD_set_self hiz] at hlj; cases hlj
      rw [getD_set_ne false (Ne.symm hji)] at hlj
      exact hun' j hj hji hlj
    · by_cases hji : j = i
      · subst hji
        rw [ha] at hx'
        cases hx'
        have hod : o.dst = some d := by rw [← hc.dst]; exact hd
        have hdN : d < a.tmps.size := by
          rw [hJ.size]
          exact hc.lt.resolve_left hno d hod
        rw [hod, getD_put_self hdN]
        exact ⟨h1, h2⟩
      · obtain ⟨oj, ax, hoj, hax, hcx⟩ := hR.al_some hj
        rw [hx'] at hax
        cases hax
        have hlj' := (hls j hlj).resolve_left hji
        obtain ⟨g1, g2⟩ := hJ.on j x' d hj0 hj hlj' hx' hd
        have hne : o.dst ≠ some d := (hdr2 j oj d hji hoj (by rw [← hcx.dst]; exact hd)).1
        have e : (a.put o.dst x).tmps.getD d undef = a.tmps.getD d undef := by
          cases hod : o.dst with
          | none => rfl
          | some e => rw [getD_put_ne]; intro h; subst h; exact hne hod
        rw [e]
        exact ⟨fun hcd => relA_mono (hle_to _) (g1 hcd), g2⟩
    · have hne : o.dst ≠ some t := by rw [← hc.dst]; exact ht i ao hi0 hi (getD_set_self hiz _) ha
      have e : (a.put o.dst x).tmps.getD t undef = a.tmps.getD t undef := by
        cases hod : o.dst with
        | none => rfl
        | some e => rw [getD_put_ne]; intro h; subst h; exact hne hod
      rw [e]
      exact hJ.off t fun j x' hj0 hj hlj hx' => ht j x' hj0 hj (getD_set_true hlj) hx'
  have hto_fresh : ∀ n i, n ≤ i → (φ.to n) i = none := fun n i h => by unfold Emb.to; rw [if_neg (by omega)]
  have hto_bl : ∀ n i p, (φ.to n) i = some p → p.blk < w.heap.size := fun n i p h => hJ.bl i p (Emb.to_le φ n i p h)
  have hto_fresh' : ∀ (ψ : Emb) n i, n ≤ i → (ψ.to n) i = none := fun ψ n i h => by unfold Emb.to; rw [if_neg (by omega)]
  refine wpOp_stp ho ?_
  cases htl : ao.tl with
  | true =>
    have hchg := hR.chg i ao hi0 hi ha htl
    have hnq := chg_noquiet hchg
    have hna := chg_noaddr hchg
    have hst := hstg hnq hna
    obtain ⟨hHi, hFi⟩ := hJ.hr i (Nat.le_of_lt hi) hst
    -- what stands behind has not been
    have hbeh : ∀ j aj, j < m → al[j]? = some aj → j ≠ i → quietOp aj.op = false → addrOf aj.op = none → (listed.getD j false = true ↔ j < i) := fun j aj hj haj hji hq' hna' => by
      by_cases hj0 : m0 ≤ j
      rotate_left
      · exact ⟨fun _ => by omega, fun _ => hJ.base j (by omega)⟩
      obtain ⟨oj, aj', hoj, haj', _⟩ := hR.al_some hj
      rw [haj] at haj'
      cases haj'
      obtain ⟨g1, g2⟩ := hR.mid i ao o hi0 hi ha ho htl j aj oj hj0 hj haj hoj hji hq'
      have g1 := fun h => (g1 h).resolve_right fun h => by rw [hna'] at h; simp at h
      have g2 := fun h => (g2 h).resolve_right fun ⟨a, h, _⟩ => by rw [hna'] at h; cases h
      constructor
      · intro hl
        rcases Nat.lt_or_gt_of_ne hji with h | h
        · exact h
        · have := g1 h (fun x => listed.getD x false = true) (fun i o j => hJ.down i o j) (fun x hx => hJ.down j oj x hl hoj hx)
          rw [hunf] at this
          cases this
      · intro h
        exact g2 h (fun x => listed.getD x false = true) (fun i o j => hJ.down i o j) hdeps
    have hqn : ∀ j aj, j < m → al[j]? = some aj → quietOp aj.op = true ∨ addrOf aj.op ≠ none → (S (j + 1)).heap.next = (S j).heap.next := fun j aj hj haj hq' => by
      by_cases hj0 : m0 ≤ j
      rotate_left
      · rw [hR.same_lo hj0]
      rw [hR.heap_succ hj0 hj]
      rcases (hR.step j aj hj0 hj haj).1.2 with ⟨_, B, e, _, e'⟩ | ⟨_, ht, _⟩ | ⟨_, _, M, e, _⟩
      · rcases hq' with hq' | hq'
        · rcases quiet_shape (s := S j) (π := Pa j) hq' with ⟨n, v, h⟩ | h
          · rw [h] at e; cases e; rw [e']; rfl
          · rw [h] at e; cases e
        · rw [load_p hq' e] at e'; rw [e']; rfl
      · rcases hq' with hq' | hq'
        · rw [chg_noquiet (hR.chg j aj hj0 hj haj ht)] at hq'; cases hq'
        · exact absurd (chg_noaddr (hR.chg j aj hj0 hj haj ht)) hq'
      · exfalso
        rcases hq' with hq' | hq'
        · rcases quiet_shape (s := S j) (π := Pa j) hq' with ⟨n, v, h⟩ | h <;> (rw [h] at e; cases e)
        · exact load_call hq' e
    have hfloat : ∀ aj : AOper, (quietOp aj.op = true ∨ addrOf aj.op ≠ none) ∨ (quietOp aj.op = false ∧ addrOf aj.op = none) := fun aj => by
      cases quietOp aj.op <;> cases addrOf aj.op <;> simp
    have hnone : ∀ id, (S i).heap.next ≤ id → φ id = none := fun id hid => by
      rcases Nat.lt_or_ge id (S m).heap.next with h | h
      · have : ∀ k, i ≤ k → k ≤ m → id < (S k).heap.next → φ id = none := by
          intro k hk
          induction hk with
          | refl => intro _ h; omega
          | step hk ih =>
            rename_i k
            intro hkm h
            have hk : i ≤ k := hk
            rcases Nat.lt_or_ge id (S k).heap.next with h' | h'
            · exact ih (by omega) h'
            · obtain ⟨ok, ak, hok, hak, _⟩ := hR.al_some (show k < m by omega)
              refine hJ.un k (by omega) ?_ id h' h
              by_cases hki : k = i
              · subst hki; exact hunf
              · rcases hfloat ak with hq' | ⟨hq', hna'⟩
                · have h : id < (S (k + 1)).heap.next := h
                  rw [hqn k ak (by omega) hak hq'] at h
                  omega
                · cases hl : listed.getD k false with
                  | false => rfl
                  | true => have := (hbeh k ak (by omega) hak hki hq' hna').1 hl; omega
        exact this m (Nat.le_of_lt hi) (Nat.le_refl _) h
      · exact hJ.fresh id h
    have hto : φ.to (S i).heap.next = φ := Emb.to_self hnone
    rw [hto] at hHi hFi
    -- behind it
    have fin : ∀ φ' x w', HRel φ' (S (i + 1)).heap w' → Fr φ (S i).heap w φ' (S (i + 1)).heap w' → (∀ b, b < w.heap.size → (tgtOf (S i) ao.op).phys φ b → w'.heap[b]? = w.heap[b]?) → (conds (Pa i) → relA φ' (V i) x) → (¬ conds (Pa i) → x = undef) → KQ (a.put o.dst x) w' := fun φ' x w' hH' hF' hph h1 h2 => by
      have hto' : ∀ k, i + 1 ≤ k → k ≤ m → φ'.to (S k).heap.next = φ' := fun k h1 h2 => Emb.to_self fun id hid => hH'.fresh id (Nat.le_trans (hR.next_mono h1 h2) hid)
      have hne_i : ∀ t, (listed.setIfInBounds i true).getD t false = true → t ≠ i → listed.getD t false = true := fun t ht hti => (hls t ht).resolve_left hti
      refine k φ' _ _ (next φ' x w' hF'.le (fun k hk hsk => ?_) (fun k X B p hk hB hoff hp => ?_) hH'.lt (fun id hid => hH'.fresh id (Nat.le_trans (hR.next_mono (by omega) (Nat.le_refl _)) hid)) (fun j hj hji hlj id h1 h2 => ?_) (fun id hid => ?_) (fun hcd => by rw [hto' (i + 1) (Nat.le_refl _) (by omega)]; exact h1 hcd) h2)
      · have hik : i < k := (hsk i ao hi0 hi ha htl).1 (getD_set_self hiz _)
        have hstill : still al m0 (i + 1) k := fun t at' h0 h1 h2 hat => by
          cases ht : at'.tl with
          | false => rfl
          | true =>
            have := (hsk t at' h0 (by omega) hat ht).2 h2
            have hlt := hne_i t this (by omega)
            have := (hst t at' h0 (by omega) hat ht).1 hlt
            omega
        rw [hto' k hik hk]
        obtain ⟨g1, g2⟩ := hH'.grown (w' := w') rfl rfl rfl (Nat.le_refl _) (fun _ _ => rfl) (K := (S k).heap) (hR.next_mono hik hk) fun j D hj hne => by
          have hlt : j < (S (i + 1)).heap.next := by
            rcases Nat.lt_or_ge j (S (i + 1)).heap.next with h | h
            · exact h
            · exact absurd (hH'.fresh j h) hne
          rw [hR.getB_old hik hk hstill j hlt] at hj
          exact hj
        exact ⟨g1, (hFi.trans hF').trans g2⟩
      · rcases Nat.lt_or_ge i k with hik | hki
        · rw [hto' k hik hk] at hp ⊢
          have hlt : X < (S (i + 1)).heap.next := by
            rcases Nat.lt_or_ge X (S (i + 1)).heap.next with h | h
            · exact h
            · rw [hH'.fresh X h] at hp; cases hp
          rw [hR.getB_at hik hk (fun t at' h0 h1 h2 hat ht => hoff t at' h0 (by omega) hat ht fun he => by
            have h3 := hne_i t (he.2 h2) (by omega)
            have := (hst t at' h0 (by omega) hat ht).1 h3
            omega) hlt] at hB
          exact hH'.blk X B p hB hp
        · have hpk : φ' X = some p ∧ X < (S k).heap.next := by
            unfold Emb.to at hp
            split at hp
            · exact ⟨hp, by assumption⟩
            · cases hp
          have hnk := hR.next_mono hki (Nat.le_of_lt hi)
          have hpX : φ X = some p := by rw [← hF'.same X (by omega)]; exact hpk.1
          have hle_to : (φ.to (S k).heap.next).le (φ'.to (S k).heap.next) := fun id q hq' => by
            unfold Emb.to at *
            split at hq'
            · rw [if_pos (by assumption)]; exact hF'.le _ _ hq'
            · cases hq'
          have hoffi : (tgtOf (S i) ao.op).off X := hoff i ao hi0 hi ha htl fun he => by
            have := he.1 (getD_set_self hiz _)
            omega
          have hBi : getB (S i).heap.blks X = some B := by
            rw [hR.getB_at hki (Nat.le_of_lt hi) (fun t at' h0 h1 h2 hat ht => hoff t at' h0 (by omega) hat ht fun he => by
              have h3 := getD_set_true (i := i) ((hst t at' h0 (by omega) hat ht).2 h2)
              have := he.1 h3
              omega) hpk.2]
            exact hB
          have hold := hJ.hb k X B p hk hB (fun t at' h0 h1 h2 h3 h4 => hoff t at' h0 h1 h2 h3 fun he => by
            by_cases hti : t = i
            · subst hti; exact h4 ⟨fun h => (by rw [hunf] at h; cases h), fun h => (by omega)⟩
            · rw [getD_set_ne false (Ne.symm hti)] at he; exact h4 he) (by unfold Emb.to; rw [if_pos hpk.2]; exact hpX)
          refine (hold.mono hle_to).keep (hph p.blk (hJ.bl X p hpX) ?_)
          generalize htg : tgtOf (S i) ao.op = τ at hoffi
          cases τ with
          | all => exact hoffi.elim
          | no => trivial
          | one Y =>
            intro q hq' e
            obtain ⟨BY, hBY, hwr⟩ := tgt_wr (hR.step i ao hi0 hi ha).1 htl hchg htg
            exact hHi.inj Y X BY B q p hBY hBi hq' hpX hoffi hwr e
      · obtain ⟨oj, aj, hoj, haj, _⟩ := hR.al_some hj
        rcases hfloat aj with hq' | ⟨hq', hna'⟩
        · rw [hqn j aj hj haj hq'] at h2; omega
        · rcases Nat.lt_or_gt_of_ne hji with h | h
          · rw [(hbeh j aj hj haj hji hq' hna').2 h] at hlj; cases hlj
          · exact hH'.fresh id (Nat.le_trans (hR.next_mono h (Nat.le_of_lt hj)) h1)
      · rw [hF'.same id (by omega)]; exact hJ.old id hid
    rw [hto] at hsok
    rcases hq.2 with ⟨need, B, e, hn, e'⟩ | ⟨need, _, hπ, e, hn, hx⟩ | ⟨f, args, _, e, _⟩
    · have hB := chg_p hchg e
      subst hB
      refine step_p hc hsok hHi (hgm _) (by rw [ham]; exact e) hn fun φ' x w' hnb h1 h2 => ?_
      obtain ⟨rfl, rfl⟩ := hnb
      have eh : (S (i + 1)).heap = (S i).heap := by rw [hR.heap_succ hi0 hi, e']; rfl
      exact fin _ x _ (by rw [eh]; exact hHi) (by rw [eh]; exact Fr.refl _ _ _) (fun _ _ _ => rfl) h1 h2
    · have hgm' := hgm (S i).heap
      rw [hπ] at hgm' ham
      refine step_t hc hsok hHi hgm' (by rw [ham]; exact e) hn fun φ' x w' hH' hF' hv hph => ?_
      rw [← hR.heap_succ hi0 hi] at hH' hF'
      have etg : tgtOf ⟨mask (readsA ao) (S i).tmps, (S i).heap⟩ ao.op = tgtOf (S i) ao.op := tgt_congr fun t ht => slotAt_mask_in (by simp only [List.contains_eq_mem, decide_eq_true_eq, readsA, List.mem_append]; exact .inr ht) _
      exact fin φ' x w' hH' hF' (fun b h1 h2 => hph b h1 (by rw [etg]; exact h2)) (fun _ => hv) (fun h => absurd (by rw [hπ]; trivial) h)
    · exact (chg_call hchg e).elim
  | false =>
    -- the heap is as far turned as it was
    have hst' : ∀ k, Stg al m0 m (listed.setIfInBounds i true) k → Stg al m0 m listed k := fun k hk j aj hj0 hj haj ht => by
      have hji : j ≠ i := fun e => by subst e; rw [ha] at haj; cases haj; rw [htl] at ht; cases ht
      have := hk j aj hj0 hj haj ht
      rwa [getD_set_ne false (Ne.symm hji)] at this
    have hoff' : ∀ k X, OffD al S m0 m (listed.setIfInBounds i true) k X → OffD al S m0 m listed k X := fun k X hk j aj hj0 hj haj ht hd => by
      have hji : j ≠ i := fun e => by subst e; rw [ha] at haj; cases haj; rw [htl] at ht; cases ht
      refine hk j aj hj0 hj haj ht ?_
      rwa [getD_set_ne false (Ne.symm hji)]
    -- nothing is made
    have same : ∀ x w', Grow w w' → (conds (Pa i) → relA (φ.to (S (i + 1)).heap.next) (V i) x) → (¬ conds (Pa i) → x = undef) → KQ (a.put o.dst x) w' := fun x w' hgr h1 h2 =>
      k φ _ _ (next φ x w' φ.le_refl (fun k hk hsk => by
          obtain ⟨g1, g2⟩ := hJ.hr k hk (hst' k hsk)
          obtain ⟨q1, q2⟩ := g1.grown hgr.os hgr.tape hgr.output hgr.size hgr.block (K := (S k).heap) (Nat.le_refl _) (fun _ _ h _ => h)
          exact ⟨q1, g2.trans q2⟩)
        (fun k X B p hk hB hoff hp => (hJ.hb k X B p hk hB (hoff' k X hoff) hp).keep (hgr.block _ (hJ.bl X p (Emb.to_le φ _ _ _ hp))))
        (fun id p hp => Nat.lt_of_lt_of_le (hJ.bl id p hp) hgr.size) hJ.fresh (fun j hj _ hlj => hJ.un j hj hlj) hJ.old h1 h2)
    have hnomore : (S i).heap.next ≤ (S (i + 1)).heap.next := hR.next_succ hi
    cases hqt : quietOp ao.op with
    | true =>
      rcases hq.2 with ⟨need, B, e, hn, e'⟩ | ⟨_, ht, _⟩ | ⟨f, args, _, e, _⟩
      · have hB : B = none := by
          rcases quiet_shape (s := S i) (π := Pa i) hqt with ⟨n, v, h⟩ | h
          · rw [h] at e; cases e; rfl
          · rw [h] at e; cases e
        subst hB
        refine step_p hc hsok (HRel.empty (hto_fresh (S i).heap.next) (hto_bl _)) (hgm _) (by rw [quiet_aop hqt (H' := (S i).heap), ham]; exact e) hn fun φ' x w' hnb h1 h2 => ?_
        obtain ⟨rfl, rfl⟩ := hnb
        exact same x _ (Grow.refl _) (fun hcd => relA_mono (Emb.to_mono φ hnomore) (h1 hcd)) h2
      · rw [htl] at ht; cases ht
      · rcases quiet_shape (s := S i) (π := Pa i) hqt with ⟨n, v, h⟩ | h <;> (rw [h] at e; cases e)
    | false =>
     cases hla : addrOf ao.op with
     | some ad =>
      -- a load: its block is as the text's order has it
      rcases hq.2 with ⟨need, B, e, hn, e'⟩ | ⟨_, ht, _⟩ | ⟨f, args, _, e, _⟩
      · obtain ⟨n, p, q, hsl, Bq, hBq⟩ := load_at hla e
        have hBn := load_p (by rw [hla]; simp) e
        subst hBn
        have hoffq : OffD al S m0 m listed i q.id := fun j aj hj0 hj haj ht hd => by
          obtain ⟨oj, aj', hoj, haj', _⟩ := hR.al_some hj
          rw [haj] at haj'
          cases haj'
          have hji : j ≠ i := fun e => by subst e; rw [ha] at haj; cases haj; rw [htl] at ht; cases ht
          obtain ⟨g1, g2⟩ := hR.mid j aj oj hj0 hj haj hoj ht i ao o hi0 hi ha ho (Ne.symm hji) hqt
          obtain ⟨hqj, _⟩ := hR.step j aj hj0 hj haj
          rcases Nat.lt_or_gt_of_ne hji with h | h
          · rcases g1 h with g | ⟨_, g⟩
            · exfalso
              exact hd ⟨fun _ => h, fun _ => g (fun x => listed.getD x false = true) (fun i o j => hJ.down i o j) hdeps⟩
            · exact tgt_nil g
          · rcases g2 h with g | ⟨ad', g, g'⟩
            · exfalso
              refine hd ⟨fun hl => ?_, fun h' => by omega⟩
              have := g (fun x => listed.getD x false = true) (fun i o j => hJ.down i o j) (fun x hx => hJ.down j oj x hl hoj hx)
              rw [hunf] at this
              cases this
            · rw [hla] at g
              cases g
              rcases g' with g' | ⟨gs, g', gw⟩
              · exact tgt_nil g'
              · have hsj : slotAt (S j).tmps ad = some ⟨n, p, .c (.ptr q)⟩ := by
                  rw [hR.slot_same (Nat.le_of_lt h) (Nat.le_of_lt hj) fun k ak _ h1 h2 hak => gw k ak h1 (by omega) hak]
                  exact hsl
                rcases hqj.2 with ⟨_, _, e2, _⟩ | ⟨_, _, _, _, _, hx⟩ | ⟨_, _, _, e2, _⟩
                · exact (st_no_p gs e2).elim
                · exact tgt_exOk hx g' hsj
                · exact (chg_call (hR.chg j aj hj0 hj haj ht) e2).elim
        have hH1 : HRel (φ.to (S i).heap.next) ⟨(S i).heap.next, [(q.id, Bq)]⟩ w := by
          refine ⟨fun j D p hD hp => ?_, fun j k D E p r hD hE hp hr hne hw => ?_, hto_fresh _, hto_bl _⟩
          · by_cases hj : j = q.id
            · subst hj
              rw [getB_cons_self] at hD
              cases hD
              exact hJ.hb i q.id Bq p (Nat.le_of_lt hi) hBq hoffq hp
            · rw [getB_cons_ne hj] at hD; simp [getB] at hD
          · by_cases hj : j = q.id
            · by_cases hk : k = q.id
              · exact absurd (hj.trans hk.symm) hne
              · rw [getB_cons_ne hk] at hE; simp [getB] at hE
            · rw [getB_cons_ne hj] at hD; simp [getB] at hD
        have hsl' : slotAt (mask (readsA ao) (S i).tmps) ad = some ⟨n, p, .c (.ptr q)⟩ := by
          rw [slotAt_mask_in]
          · exact hsl
          · simp only [List.contains_eq_mem, decide_eq_true_eq, readsA, List.mem_append]; exact .inr (addr_reads hla)
        refine step_p hc hsok hH1 (hgm _) (by rw [load_one hla hsl' hBq, ham]; exact e) hn fun φ' x w' hnb h1 h2 => ?_
        obtain ⟨rfl, rfl⟩ := hnb
        exact same x _ (Grow.refl _) (fun hcd => relA_mono (Emb.to_mono φ hnomore) (h1 hcd)) h2
      · rw [htl] at ht; cases ht
      · exact (load_call (by rw [hla]; simp) e).elim
     | none =>
      have hst := hstg hqt hla
      obtain ⟨hHi, hFi⟩ := hJ.hr i (Nat.le_of_lt hi) hst
      rcases hq.2 with ⟨need, B, e, hn, e'⟩ | ⟨_, ht, _⟩ | ⟨f, args, M, e, e', hM, hcon⟩
      · refine step_p hc hsok hHi (hgm _) (by rw [ham]; exact e) hn fun φ' x w' hnb h1 h2 => ?_
        cases hB : B with
        | none =>
          rw [hB] at hnb
          obtain ⟨rfl, rfl⟩ := hnb
          exact same x _ (Grow.refl _) (fun hcd => relA_mono (Emb.to_mono φ hnomore) (h1 hcd)) h2
        | some B =>
          rw [hB] at hnb
          have hHp : (S (i + 1)).heap = addBlk (S i).heap (some B) := by rw [hR.heap_succ hi0 hi, e', hB]
          have hnx : (S (i + 1)).heap.next = (S i).heap.next + 1 := by rw [hHp]; rfl
          rcases hnb with ⟨hcd, cs, cap, rfl, rfl, hb⟩ | ⟨hcd, rfl, rfl⟩
          · have hphi : φ (S i).heap.next = none := hJ.un i hi hunf _ (Nat.le_refl _) (by omega)
            let p : Place := ⟨w.heap.size, 0, B.str, cap⟩
            have hnm2 : (S (i + 1)).heap.next ≤ (S m).heap.next := hR.next_mono (by omega) (Nat.le_refl _)
            have hto1 : (φ.ins (S i).heap.next p).to (S (i + 1)).heap.next = (φ.to (S i).heap.next).ins (S i).heap.next p := by
              rw [ins_to, if_pos (by omega), hnx]
              funext id
              unfold Emb.ins Emb.to
              by_cases h : id = (S i).heap.next
              · simp [h]
              · by_cases h2 : id < (S i).heap.next
                · simp [h, h2, Nat.lt_succ_of_lt h2]
                · simp [h, h2, show ¬ id < (S i).heap.next + 1 by omega]
            refine k (φ.ins (S i).heap.next p) _ _ (next (φ.ins (S i).heap.next p) x _ (Emb.le_ins hphi) (fun kk hkk hsk => ?_) (fun kk X B' p' hkk hB' hoff hp' => ?_) (fun id q hq' => ?_) (fun id hid => ?_) (fun j hj hji hlj id g1 g2 => ?_) (fun id hid => ?_) (fun hcd => by rw [hto1]; exact h1 hcd) h2)
            · have hsk := hst' kk hsk
              obtain ⟨g1, g2⟩ := hJ.hr kk hkk hsk
              have hgrow := Grow.alloc w (.cells cs B.elem)
              obtain ⟨q1, q2⟩ := g1.grown hgrow.os hgrow.tape hgrow.output hgrow.size hgrow.block (K := (S kk).heap) (Nat.le_refl _) (fun _ _ h _ => h)
              rw [ins_to]
              by_cases hk : (S i).heap.next < (S kk).heap.next
              · rw [if_pos hk]
                have hik : i + 1 ≤ kk := by
                  rcases Nat.lt_or_ge i kk with h | h
                  · exact h
                  · have := hR.next_mono h (Nat.le_of_lt hi); omega
                have hstill : still al m0 (i + 1) kk := fun t at' h0 h1 h2 hat => by
                  cases ht : at'.tl with
                  | false => rfl
                  | true =>
                    have h3 := (hsk t at' h0 (by omega) hat ht).2 h2
                    have := (hst t at' h0 (by omega) hat ht).1 h3
                    omega
                have hgB : getB (S kk).heap.blks (S i).heap.next = some B := by
                  rw [hR.getB_old hik hkk hstill _ (by omega), hHp]
                  exact getB_cons_self _ _ _
                have hphik : (φ.to (S kk).heap.next) (S i).heap.next = none := by unfold Emb.to; rw [if_pos hk]; exact hphi
                have hbk : BRel ((φ.to (S kk).heap.next).ins (S i).heap.next p) B p (w.alloc (.cells cs B.elem)) := by
                  have hle : ((φ.to (S i).heap.next).ins (S i).heap.next p).le ((φ.to (S kk).heap.next).ins (S i).heap.next p) := fun id q hq' => by
                    unfold Emb.ins at *
                    split at hq'
                    · rw [if_pos (by assumption)]; exact hq'
                    · rw [if_neg (by assumption)]; exact Emb.to_mono φ (by omega) _ _ hq'
                  exact ⟨hb.str, fun r hr => let ⟨xs, g1, g2, g3⟩ := hb.rows r hr; ⟨xs, g1.mono fun _ _ => rel_mono hle, g2, g3⟩, hb.own⟩
                have hdef := g1.define hgrow hphik hk hgB hbk (Nat.le_refl _) (by simp only [World.size_alloc]; exact Nat.lt_succ_self _)
                refine ⟨hdef, ?_⟩
                have hf := g2.trans q2
                refine ⟨Emb.le_trans hf.le (Emb.le_ins hphik), fun id hid => ?_, hf.nx, hf.size, hf.os, hf.tape, hf.output, hf.old, fun id D q hD hw hq' => ?_⟩
                · have : id ≠ (S i).heap.next := by omega
                  simp only [Emb.ins, if_neg this]
                  exact hf.same id hid
                · by_cases hid : id = (S i).heap.next
                  · subst hid
                    rw [Emb.ins_self] at hq'
                    cases hq'
                    exact .inl g2.size
                  · simp only [Emb.ins, if_neg hid] at hq'
                    exact hf.own id D q hD hw hq'
              · rw [if_neg hk]
                exact ⟨q1, g2.trans q2⟩
            · have hoff := hoff' kk X hoff
              by_cases hX : X = (S i).heap.next
              · subst hX
                have hk : (S i).heap.next < (S kk).heap.next := by
                  rcases Nat.lt_or_ge (S i).heap.next (S kk).heap.next with h | h
                  · exact h
                  · rw [hto_fresh' _ _ _ h] at hp'; cases hp'
                have hik : i + 1 ≤ kk := by
                  rcases Nat.lt_or_ge i kk with h | h
                  · exact h
                  · have := hR.next_mono h (Nat.le_of_lt hi); omega
                have hgB : getB (S kk).heap.blks (S i).heap.next = some B := by
                  rw [hR.getB_at hik hkk (fun t at' h0 g1 g2 hat ht => hoff t at' h0 (by omega) hat ht fun he => by
                    have h3 := he.2 g2
                    have := (hst t at' h0 (by omega) hat ht).1 h3
                    omega) (by omega), hHp]
                  exact getB_cons_self _ _ _
                rw [hgB] at hB'
                cases hB'
                have hpp : p' = p := by
                  unfold Emb.to at hp'
                  rw [if_pos hk, Emb.ins_self] at hp'
                  cases hp'; rfl
                subst hpp
                refine hb.mono fun id q hq' => ?_
                rw [← hto1] at hq'
                exact Emb.to_mono _ (hR.next_mono hik hkk) _ _ hq'
              · have hp2 : (φ.to (S kk).heap.next) X = some p' := by
                  unfold Emb.to at hp' ⊢
                  split at hp'
                  · rw [if_pos (by assumption)]
                    simpa [Emb.ins, hX] using hp'
                  · cases hp'
                have hlt := hJ.bl X p' (Emb.to_le φ _ _ _ hp2)
                refine ((hJ.hb kk X B' p' hkk hB' hoff hp2).mono fun id q hq' => ?_).keep (heap_alloc_lt w _ hlt)
                unfold Emb.to at hq' ⊢
                split at hq'
                · rw [if_pos (by assumption)]; exact Emb.le_ins hphi _ _ hq'
                · cases hq'
            · by_cases h : id = (S i).heap.next
              · subst h; rw [Emb.ins_self] at hq'; cases hq'; simp only [World.size_alloc]; exact Nat.lt_succ_self _
              · simp only [Emb.ins, if_neg h] at hq'
                exact Nat.lt_of_lt_of_le (hJ.bl id q hq') (by simp)
            · simp only [Emb.ins]; rw [if_neg (by omega)]; exact hJ.fresh id hid
            · have hne : id ≠ (S i).heap.next := by
                intro e
                rcases Nat.lt_or_gt_of_ne hji with h | h
                · have := hR.next_mono (i := j + 1) (j := i) (by omega) (by omega)
                  omega
                · have := hR.next_mono (i := i + 1) (j := j) (by omega) (by omega)
                  omega
              simp only [Emb.ins, if_neg hne]
              exact hJ.un j hj hlj id g1 g2
            · simp only [Emb.ins]; rw [if_neg (by omega)]; exact hJ.old id hid
          · exact same x _ (Grow.refl _) (fun h => absurd h hcd) h2
      · rw [htl] at ht; cases ht
      · have hHp : (S (i + 1)).heap = addBs (S i).heap M := by rw [hR.heap_succ hi0 hi, e']
        have hnx : (S (i + 1)).heap.next = (S i).heap.next + M.length := by rw [hHp, addBs_next]
        refine step_quiet hc hsok hHi (hgm _) (by rw [ham]; exact e) hM hcon (fun ψ x w' hcd hmd hv => ?_) (fun hnc => same undef w (Grow.refl _) (fun h => absurd h hnc) (fun _ => rfl))
        have hgr := hmd.gr
        let φ2 : Emb := fun id => if (S i).heap.next ≤ id ∧ id < (S (i + 1)).heap.next then ψ id else φ id
        have h2new : ∀ id, (S i).heap.next ≤ id → id < (S (i + 1)).heap.next → φ2 id = ψ id := fun id h1 h2 => if_pos ⟨h1, h2⟩
        have h2old : ∀ id, ¬ ((S i).heap.next ≤ id ∧ id < (S (i + 1)).heap.next) → φ2 id = φ id := fun id h => if_neg h
        have hun' : ∀ id, (S i).heap.next ≤ id → id < (S (i + 1)).heap.next → φ id = none := hJ.un i hi hunf
        have hle2 : φ.le φ2 := fun id p hp => by
          by_cases h : (S i).heap.next ≤ id ∧ id < (S (i + 1)).heap.next
          · rw [hun' id h.1 h.2] at hp; cases hp
          · rw [h2old id h]; exact hp
        have hψ2 : ψ.le φ2 := fun id p hp => by
          rcases Nat.lt_or_ge id (S i).heap.next with h | h
          · rw [h2old id (by omega)]
            rw [hmd.same id h] at hp
            exact Emb.to_le _ _ _ _ hp
          · have hlt : id < (S (i + 1)).heap.next := by
              rcases Nat.lt_or_ge id (S (i + 1)).heap.next with h' | h'
              · exact h'
              · rw [hmd.fresh id (by omega)] at hp; cases hp
            rw [h2new id h hlt]; exact hp
        have hψto : ∀ kk, (S (i + 1)).heap.next ≤ (S kk).heap.next → ψ.le (φ2.to (S kk).heap.next) := fun kk hk id p hp => by
          have hlt : id < (S (i + 1)).heap.next := by
            rcases Nat.lt_or_ge id (S (i + 1)).heap.next with h' | h'
            · exact h'
            · rw [hmd.fresh id (by omega)] at hp; cases hp
          unfold Emb.to
          rw [if_pos (by omega)]
          exact hψ2 id p hp
        have hle_to : ∀ kk, (φ.to (S kk).heap.next).le (φ2.to (S kk).heap.next) := fun kk id q hq' => by
          unfold Emb.to at *
          split at hq'
          · rw [if_pos (by assumption)]; exact hle2 _ _ hq'
          · cases hq'
        have hcase : ∀ kk id p, (φ2.to (S kk).heap.next) id = some p → (φ.to (S kk).heap.next) id = some p ∨ ((S i).heap.next ≤ id ∧ id < (S (i + 1)).heap.next ∧ ψ id = some p ∧ id < (S kk).heap.next) := fun kk id p hp => by
          unfold Emb.to at hp ⊢
          split at hp
          · rename_i hk
            rw [if_pos hk]
            by_cases h : (S i).heap.next ≤ id ∧ id < (S (i + 1)).heap.next
            · rw [h2new id h.1 h.2] at hp; exact .inr ⟨h.1, h.2, hp, hk⟩
            · rw [h2old id h] at hp; exact .inl hp
          · cases hp
        have hik : ∀ kk id, kk ≤ m → (S i).heap.next ≤ id → id < (S kk).heap.next → i + 1 ≤ kk := fun kk id hkk h1 h2 => by
          rcases Nat.lt_or_ge i kk with h | h
          · exact h
          · have := hR.next_mono h (Nat.le_of_lt hi); omega
        have hblk : ∀ kk id p B, kk ≤ m → (S i).heap.next ≤ id → id < (S (i + 1)).heap.next → ψ id = some p → id < (S kk).heap.next → OffD al S m0 m listed kk id → getB (S kk).heap.blks id = some B → BRel (φ2.to (S kk).heap.next) B p w' := fun kk id p B hkk h1 h2 hp h3 hoff hB => by
          have hk := hik kk id hkk h1 h3
          rw [hR.getB_at hk hkk (fun t at' h0 g1 g2 hat ht => hoff t at' h0 (by omega) hat ht fun he => by
            have h3 := he.2 g2
            have := (hst t at' h0 (by omega) hat ht).1 h3
            omega) h2, hHp] at hB
          obtain ⟨_, _, C, hC, hb⟩ := hmd.new id p h1 hp
          rw [hC] at hB
          cases hB
          exact hb.mono (hψto kk (hR.next_mono hk hkk))
        refine k φ2 _ _ (next φ2 x w' hle2 (fun kk hkk hsk => ?_) (fun kk X B' p' hkk hB' hoff hp' => ?_) (fun id p hp => ?_) (fun id hid => ?_) (fun j hj hji hlj id g1 g2 => ?_) (fun id hid => ?_) (fun hcd => relA_mono (hψto (i + 1) (Nat.le_refl _)) hv) (fun h => absurd hcd h))
        · have hsk := hst' kk hsk
          obtain ⟨g1, g2⟩ := hJ.hr kk hkk hsk
          have hoff : ∀ X, OffD al S m0 m listed kk X := fun X j aj hj0 hj haj ht hd => absurd (hsk j aj hj0 hj haj ht) hd
          refine ⟨g1.defs hgr (hle_to kk) (fun id p hp => ?_) (fun id id' p q hp hq h1 h2 hne => ?_), g2.defs hgr (hle_to kk) (fun id hid => ?_) (fun id p hp => ?_)⟩
          · rcases hcase kk id p hp with h | ⟨h1, h2, h3, h4⟩
            · exact .inl h
            · obtain ⟨n1, n2, _⟩ := hmd.new id p h1 h3
              exact .inr ⟨n1, n2, h4, fun B hB => hblk kk id p B hkk h1 h2 h3 h4 (hoff id) hB⟩
          · rcases hcase kk id p hp with h | ⟨k1, k2, k3, k4⟩
            · have := hto_bl _ _ _ h; omega
            · rcases hcase kk id' q hq with h | ⟨l1, l2, l3, l4⟩
              · have := hto_bl _ _ _ h; omega
              · exact hmd.inj id id' p q k1 l1 k3 l3 hne
          · have : ¬ ((S i).heap.next ≤ id ∧ id < (S (i + 1)).heap.next) := by omega
            unfold Emb.to
            split
            · exact h2old id this
            · rfl
          · rcases hcase kk id p hp with h | ⟨h1, h2, h3, h4⟩
            · exact .inl h
            · exact .inr (hmd.new id p h1 h3).1
        · have hoff := hoff' kk X hoff
          rcases hcase kk X p' hp' with h | ⟨h1, h2, h3, h4⟩
          · exact ((hJ.hb kk X B' p' hkk hB' hoff h).mono (hle_to kk)).keep (hgr.block _ (hto_bl _ _ _ h))
          · exact hblk kk X p' B' hkk h1 h2 h3 h4 hoff hB'
        · by_cases h : (S i).heap.next ≤ id ∧ id < (S (i + 1)).heap.next
          · rw [h2new id h.1 h.2] at hp; exact (hmd.new id p h.1 hp).2.1
          · rw [h2old id h] at hp; exact Nat.lt_of_lt_of_le (hJ.bl id p hp) hgr.size
        · have := hR.next_mono (i := i + 1) (j := m) (by omega) (Nat.le_refl _)
          rw [h2old id (by omega)]; exact hJ.fresh id hid
        · have hne : ¬ ((S i).heap.next ≤ id ∧ id < (S (i + 1)).heap.next) := by
            rintro ⟨q1, q2⟩
            rcases Nat.lt_or_gt_of_ne hji with h | h
            · have := hR.next_mono (i := j + 1) (j := i) (by omega) (by omega)
              omega
            · have := hR.next_mono (i := i + 1) (j := j) (by omega) (by omega)
              omega
          rw [h2old id hne]
          exact hJ.un j hj hlj id g1 g2
        · rw [h2old id (by omega)]; exact hJ.old id hid
end

end Go.AM

namespace Go.AM
set_option linter.unusedVariables false
set_option linter.unusedSimpArgs false
variable {P : Program} {φ : Emb} {w : World}

theorem maskE_ok {ops : Array Oper} {o : Oper} {ms : List Nat} (hms : ∀ k o, ops[k]? = some o → ∀ j, (ms.getD k 0).testBit j = true → Behind ops o j) (hin : ∀ k, ms.length ≤ k → ms.getD k 0 = 0) (hops : ∀ k, k < ms.length → ∃ o, ops[k]? = some o) :
    ∀ (es : List Edge) (acc : Nat), (∀ e ∈ es, e ∈ o.after.toList) → (∀ j, acc.testBit j = true → Behind ops o j) → ∀ j, (maskE ms es acc).testBit j = true → Behind ops o j
  | [], acc, _, ha, j, hj => ha j hj
  | e :: r, acc, he, ha, j, hj => by
    simp only [maskE] at hj
    refine maskE_ok hms hin hops r _ (fun x hx => he x (by simp [hx])) (fun i hi => ?_) j hj
    split at hi
    · rename_i hb
      have hwe : waits o e.on = true := by
        unfold waits
        exact List.any_eq_true.2 ⟨e, he e (by simp), by simp [hb]⟩
      simp only [Nat.testBit_or, Bool.or_eq_true] at hi
      rcases hi with (hi | hi) | hi
      · exact ha i hi
      · have : i = e.on := by
          rw [Nat.one_shiftLeft, Nat.testBit_two_pow] at hi
          have := of_decide_eq_true hi
          omega
        subst this
        exact fun L _ hL => hL _ hwe
      · by_cases hlt : e.on < ms.length
        · obtain ⟨x, hx⟩ := hops _ hlt
          intro L hc hL
          exact hms _ x hx i hi L hc fun j' hj' => hc _ x j' (hL _ hwe) hx hj'
        · rw [hin _ (by omega)] at hi
          simp at hi
    · exact ha i hi

theorem masks_ok {ops : Array Oper} : ∀ (l : List Oper) (ms : List Nat), ops.toList.drop ms.length = l → ms.length ≤ ops.size → (∀ k o, ops[k]? = some o → ∀ j, (ms.getD k 0).testBit j = true → Behind ops o j) → ∀ k o, ops[k]? = some o → ∀ j, ((masks l ms).getD k 0).testBit j = true → Behind ops o j
  | [], ms, _, _, h => h
  | o :: r, ms, hd, hle, h => by
    simp only [masks]
    have hlt : ms.length < ops.size := by
      have : (ops.toList.drop ms.length).length ≠ 0 := by rw [hd]; simp
      simp at this
      omega
    have ho : ops[ms.length]? = some o := by
      have : (ops.toList.drop ms.length)[0]? = some o := by rw [hd]; rfl
      simpa using this
    have hin : ∀ k, ms.length ≤ k → ms.getD k 0 = 0 := fun k hk => by simp [List.getD_eq_getElem?_getD, List.getElem?_eq_none hk]
    refine masks_ok r _ ?_ (by simp; omega) fun k x hx j hj => ?_
    · rw [List.length_append, ← List.drop_drop, hd]; rfl
    · rcases Nat.lt_trichotomy k ms.length with hk | hk | hk
      · refine h k x hx j ?_
        simpa [List.getD_eq_getElem?_getD, List.getElem?_append_left hk] using hj
      · subst hk
        rw [ho] at hx
        cases hx
        refine maskE_ok h hin (fun k hk => ⟨_, Array.getElem?_eq_getElem (show k < ops.size by omega)⟩) o.after.toList 0 (fun _ h => h) (fun j hj => by simp at hj) j ?_
        simpa [List.getD_eq_getElem?_getD] using hj
      · have : (ms ++ [maskE ms o.after.toList 0]).getD k 0 = 0 := by
          rw [List.getD_eq_getElem?_getD, List.getElem?_eq_none (by simp; omega)]; rfl
        rw [this] at hj
        simp at hj

section
variable {N : Nat} {ops : Array Oper} {al : List AOper} {m0 m : Nat} {S : Nat → St} {Pa : Nat → Path} {V : Nat → AV} {Hp : Nat → Heap} {KK : Nat → List Nat}

theorem draw_any (hR : Run P N ops al m0 m S Pa V Hp KK) (hT : ∀ i o, m ≤ i → ops[i]? = some o → ∀ j, j < m → Behind ops o j) {φs : Emb} {a0 : Act} {ws : World} (hs0 : SOk φs (S 0).tmps a0 (KK 0)) (hf0 : ∀ i, (S 0).heap.next ≤ i → φs i = none) {Q : Exit → Act → World → Prop}
    (hend : ∀ φ a w listed, Jn ops al m0 m N S Pa V φs a0 ws listed φ a w → (∀ i, i < m → listed.getD i false = true) → wpAny P .any ops Q (ops.size - m) listed a w) :
    ∀ (r : Nat) (φ : Emb) (listed : Array Bool) (a : Act) (w : World), Jn ops al m0 m N S Pa V φs a0 ws listed φ a w → unl listed m = r → wpAny P .any ops Q ((ops.size - m) + r) listed a w
  | 0, φ, listed, a, w, hJ, hr => hend φ a w listed hJ fun i hi => unl_zero hr i hi
  | r + 1, φ, listed, a, w, hJ, hr => by
    have hex : ∃ i, i < m ∧ listed.getD i false = false ∧ ∀ j, j < i → listed.getD j false = true := by
      have : ∀ k, unl listed k ≠ 0 → ∃ i, i < k ∧ listed.getD i false = false ∧ ∀ j, j < i → listed.getD j false = true := by
        intro k
        induction k with
        | zero => intro h; simp [unl] at h
        | succ k ih =>
          intro h
          by_cases hk : unl listed k = 0
          · refine ⟨k, by omega, ?_, fun j hj => unl_zero hk j hj⟩
            simp only [unl, hk] at h
            cases hl : listed.getD k false with
            | false => rfl
            | true => rw [hl] at h; simp at h
          · obtain ⟨i, h1, h2⟩ := ih hk
            exact ⟨i, by omega, h2⟩
      exact this m (by omega)
    have hunt : ∀ i, i < ops.size → listed.getD i false = false → listed.getD i true = false := fun i hi h => by
      have hiz : i < listed.size := by rw [hJ.sz]; exact hi
      simp only [Array.getD_eq_getD_getElem?, Array.getElem?_eq_getElem hiz, Option.getD_some] at h ⊢
      exact h
    obtain ⟨i0, hi0, hu0, hall0⟩ := hex
    have hrd0 : i0 ∈ Region.ready .any ops listed := by
      obtain ⟨o, ao, ho, ha, _⟩ := hR.al_some hi0
      refine mem_ready.2 ⟨hunt i0 (Nat.lt_of_lt_of_le hi0 hR.le) hu0, o, ho, fun e he hb => hall0 _ ((draw_spec hR.draw ho ha).1 e he hb)⟩
    refine ⟨fun h => (by rw [h] at hrd0; cases hrd0), fun i hi => ?_⟩
    rcases Nat.lt_or_ge i m with him | him
    · refine jn_step hR hs0 hf0 hJ him hi fun φ' a' w' hJ' => ?_
      obtain ⟨o, ao, ho, ha, _⟩ := hR.al_some him
      obtain ⟨hun, _⟩ := ready_waits hi ho
      have hiz : i < listed.size := by rw [hJ.sz]; exact Nat.lt_of_lt_of_le him hR.le
      have hunf : listed.getD i false = false := by
        simp only [Array.getD_eq_getD_getElem?, Array.getElem?_eq_getElem hiz, Option.getD_some] at hun ⊢
        exact hun
      have := (unl_set hunf hiz (k := m)).1 him
      exact draw_any hR hT hs0 hf0 hend r φ' _ a' w' hJ' (by omega)
    · exfalso
      obtain ⟨_, o, ho, _⟩ := mem_ready.1 hi
      obtain ⟨_, hdeps⟩ := ready_waits hi ho
      have := hT i o him ho i0 (by omega) (fun j => listed.getD j false = true) (fun i o j => hJ.down i o j) hdeps
      rw [hu0] at this
      cases this
end

theorem none_left {ops : Array Oper} {Q : Exit → Act → World → Prop} {listed : Array Bool} {a : Act} {w : World} (hsz : listed.size = ops.size) (hl : ∀ i, i < ops.size → (listed.getD i false = true ↔ i < ops.size)) (h : Q .normal a w) : wpAny P .any ops Q 0 listed a w := by
  refine ⟨?_, h⟩
  cases hrd : Region.ready .any ops listed with
  | nil => rfl
  | cons i l =>
    exfalso
    have hi : i ∈ Region.ready .any ops listed := by rw [hrd]; simp
    obtain ⟨h0, o, ho, _⟩ := mem_ready.1 hi
    have hio : i < ops.size := (Array.getElem?_eq_some_iff.1 ho).1
    have := (hl i hio).2 hio
    simp only [Array.getD_eq_getD_getElem?, Array.getElem?_eq_getElem (show i < listed.size by omega), Option.getD_some] at h0 this
    rw [this] at h0
    cases h0
theorem one_step {ops : Array Oper} {Q : Exit → Act → World → Prop} {k : Nat} (hT : ∀ i o, k < i → ops[i]? = some o → Behind ops o k) (hlt : ∀ i o, ops[i]? = some o → ∀ e ∈ o.after, Region.binds .any e = true → e.on < i)
    {r : Nat} {listed : Array Bool} {a : Act} {w : World} {o : Oper} (hok : ops[k]? = some o) (hsz : listed.size = ops.size) (hl : ∀ i, i < ops.size → (listed.getD i false = true ↔ i < k)) (h : stp P ops Q o (wpAny P .any ops Q r (listed.setIfInBounds k true)) a w) : wpAny P .any ops Q (r + 1) listed a w := by
  have hko : k < ops.size := (Array.getElem?_eq_some_iff.1 hok).1
  have hunt : ∀ i, i < ops.size → ¬ i < k → listed.getD i true = false := fun i hi h => by
    have h2 : listed.getD i false = false := by
      cases hc : listed.getD i false with
      | false => rfl
      | true => exact absurd ((hl i hi).1 hc) h
    simp only [Array.getD_eq_getD_getElem?, Array.getElem?_eq_getElem (show i < listed.size by omega), Option.getD_some] at h2 ⊢
    exact h2
  have hkr : k ∈ Region.ready .any ops listed := mem_ready.2 ⟨hunt k hko (by omega), _, hok, fun e he hb => by
    have := hlt k _ hok e he hb
    exact (hl e.on (by omega)).2 this⟩
  refine ⟨fun h0 => (by rw [h0] at hkr; cases hkr), fun i hi => ?_⟩
  obtain ⟨_, o', ho, _⟩ := mem_ready.1 hi
  obtain ⟨hun, hdeps⟩ := ready_waits hi ho
  have hio : i < ops.size := (Array.getElem?_eq_some_iff.1 ho).1
  have hik : i = k := by
    rcases Nat.lt_trichotomy i k with h | h | h
    · have := (hl i hio).2 h
      simp only [Array.getD_eq_getD_getElem?, Array.getElem?_eq_getElem (show i < listed.size by omega), Option.getD_some] at hun this
      rw [this] at hun
      cases hun
    · exact h
    · have := hT i o' h ho (fun j => listed.getD j false = true) (fun i' o' j' hi' ho' hw' => by
        have hio' : i' < ops.size := (Array.getElem?_eq_some_iff.1 ho').1
        have hi'k := (hl i' hio').1 hi'
        unfold waits at hw'
        obtain ⟨e, he, hb⟩ := List.any_eq_true.1 hw'
        simp only [Bool.and_eq_true, beq_iff_eq] at hb
        have := hlt i' o' ho' e (by simpa using he) hb.1
        rw [hb.2] at this
        exact (hl j' (by omega)).2 (by omega)) hdeps
      have := (hl k hko).1 this
      omega
  subst hik
  exact wpOp_stp hok h

theorem F2.get_pair {α β : Type} {R : α → β → Prop} {l : List α} {m : List β} (h : F2 R l m) {i : Nat} (hi : i < l.length) : ∃ a b, l[i]? = some a ∧ m[i]? = some b ∧ R a b := by
  obtain ⟨b, hb, hr⟩ := h.get (List.getElem?_eq_getElem hi)
  exact ⟨_, b, List.getElem?_eq_getElem hi, hb, hr⟩

theorem okG_drop : ∀ {l : List AOper} (k : Nat), okG l = true → okG (l.drop k) = true
  | l, 0, h => by simpa using h
  | [], k + 1, h => by simpa using h
  | o :: r, k + 1, h => by simpa using okG_drop k (okG_head h).1

def keysTo (K : List Nat) (al : List AOper) : Nat → List Nat
  | 0 => K
  | i + 1 => match al[i]? with | some ao => addK (keysTo K al i) ao.guard | none => keysTo K al i

theorem okG_at : ∀ {al : List AOper} {i : Nat} {ao : AOper} {d : Nat} {w : Bool}, okG al = true → al[i]? = some ao → ao.guard = some (d, w) → ∀ j x, i ≤ j → al[j]? = some x → x.dst ≠ some d
  | [], i, ao, d, w, h, ha, hg, j, x, hij, hx => by simp at ha
  | o :: r, 0, ao, d, w, h, ha, hg, j, x, hij, hx => by
    simp only [List.getElem?_cons_zero, Option.some.injEq] at ha
    subst ha
    exact (okG_head h).2 d w hg x (List.mem_of_getElem? hx)
  | o :: r, i + 1, ao, d, w, h, ha, hg, j, x, hij, hx => by
    cases j with
    | zero => omega
    | succ j => exact okG_at (okG_head h).1 (by simpa using ha) hg j x (by omega) (by simpa using hx)

theorem keysTo_no {K : List Nat} {al : List AOper} (hG : okG al = true) (hK : ∀ d ∈ K, ∀ o ∈ al, o.dst ≠ some d) : ∀ (i : Nat), ∀ d ∈ keysTo K al i, ∀ j x, i ≤ j + 1 → al[j]? = some x → x.dst ≠ some d
  | 0, d, hd, j, x, _, hx => hK d hd x (List.mem_of_getElem? hx)
  | i + 1, d, hd, j, x, hij, hx => by
    simp only [keysTo] at hd
    cases ha : al[i]? with
    | none => rw [ha] at hd; exact keysTo_no hG hK i d hd j x (by omega) hx
    | some ao =>
      rw [ha] at hd
      cases hg : ao.guard with
      | none => simp only [hg, addK] at hd; exact keysTo_no hG hK i d hd j x (by omega) hx
      | some g =>
        obtain ⟨e, ww⟩ := g
        simp only [hg, addK, List.mem_cons] at hd
        rcases hd with rfl | hd
        · exact okG_at hG ha hg j x (by omega) hx
        · exact keysTo_no hG hK i d hd j x (by omega) hx

theorem next_cut (p : Nat → Bool) (n : Nat) : ∀ (d k : Nat), k + 1 + d = n → p n = true → ∃ m, k < m ∧ m ≤ n ∧ p m = true ∧ ∀ i, k < i → i < m → p i = false
  | 0, k, h, hn => ⟨n, by omega, Nat.le_refl _, hn, fun i h1 h2 => by omega⟩
  | d + 1, k, h, hn => by
    cases hp : p (k + 1) with
    | true => exact ⟨k + 1, by omega, by omega, hp, fun i h1 h2 => by omega⟩
    | false =>
      obtain ⟨m, h1, h2, h3, h4⟩ := next_cut p n d (k + 1) (by omega) hn
      refine ⟨m, by omega, h2, h3, fun i h5 h6 => ?_⟩
      by_cases hi : i = k + 1
      · rw [hi]; exact hp
      · exact h4 i (by omega) h6
theorem draw_from {φ₀ : Emb} {H₀ : Heap} {w₀ : World} {N : Nat} {ops : Array Oper} {al : List AOper} {Q : Exit → Act → World → Prop} {Qs : St → Prop}
    (hQ : ∀ φ s a w K, Inv φ₀ H₀ w₀ N φ s a w K → Qs s → Q .normal a w) (hc : F2 (Corr P N ops) ops.toList al) (hG : okG al = true) (hD : drawOk ops al = true)
    (htl : ∀ i ao, al[i]? = some ao → ao.tl = (soloAt ops i || midAt P ops i) ∧ ∀ o, ops[i]? = some o → ao.ex = if (soloAt ops i || !midAt P ops i || appNil (stripD P o)) = true then [] else exAt P ops i) :
    ∀ (n k : Nat) (listed : Array Bool) (φ : Emb) (s : St) (a : Act) (w : World) (K : List Nat), n = ops.size - k → k ≤ ops.size → cutAt ops k = true → listed.size = ops.size → (∀ i, i < ops.size → (listed.getD i false = true ↔ i < k)) → Inv φ₀ H₀ w₀ N φ s a w K → (∀ d ∈ K, ∀ o ∈ al.drop k, o.dst ≠ some d) → rwp (Con P) (al.drop k) s Qs → wpAny P .any ops Q n listed a w := by
  have hlen : al.length = ops.size := by rw [← hc.length]; simp
  have hpair : ∀ i, i < ops.size → ∃ o ao, ops[i]? = some o ∧ al[i]? = some ao ∧ Corr P N ops o ao := fun i hi => by
    obtain ⟨o, ao, h1, h2, h3⟩ := hc.get_pair (i := i) (by simpa using hi)
    exact ⟨o, ao, by simpa using h1, h2, h3⟩
  have hmk := masks_ok (ops := ops) ops.toList [] (by simp) (by simp) (fun k o _ j hj => by simp at hj)
  have hcut : ∀ m, cutAt ops m = true → ∀ k o, m ≤ k → ops[k]? = some o → ∀ j, j < m → Behind ops o j := fun m hm k o hk ho j hj => by
    have hko : k < ops.size := (Array.getElem?_eq_some_iff.1 ho).1
    have := List.all_eq_true.1 hm k (List.mem_range.2 hko)
    simp only [Bool.or_eq_true, decide_eq_true_eq, List.all_eq_true, List.mem_range] at this
    exact hmk k o ho j ((this.resolve_left (by omega)) j hj)
  have hlt : ∀ i o, ops[i]? = some o → ∀ e ∈ o.after, Region.binds .any e = true → e.on < i := fun i o ho e he hb => by
    obtain ⟨o', ao, ho', ha, _⟩ := hpair i (Array.getElem?_eq_some_iff.1 ho).1
    exact (draw_spec hD ho ha).1 e he hb
  intro n
  induction n using Nat.strongRecOn with
  | _ n IH =>
  intro k listed φ s a w K hn hk hck hsz hl hI hK h
  rcases Nat.eq_or_lt_of_le hk with hke | hko
  · subst hke
    have e0 : n = 0 := by omega
    subst e0
    have hd : al.drop ops.size = [] := List.drop_of_length_le (by omega)
    rw [hd] at h
    exact none_left hsz hl (hQ φ s a w K hI h)
  -- the next cut
  obtain ⟨m, hkm, hms, hcm, hnc⟩ : ∃ m, k < m ∧ m ≤ ops.size ∧ cutAt ops m = true ∧ ∀ i, k < i → i < m → cutAt ops i = false := by
    have hend : cutAt ops ops.size = true := by
      unfold cutAt
      simp only [List.all_eq_true, List.mem_range, Bool.or_eq_true, decide_eq_true_eq]
      intro i hi
      exact .inl hi
    exact next_cut _ ops.size (ops.size - (k + 1)) k (by omega) hend
  rcases Nat.eq_or_lt_of_le (show k + 1 ≤ m from hkm) with hm1 | hm1
  · -- one operation
    subst hm1
    obtain ⟨o, ao, ho, ha, hco⟩ := hpair k hko
    obtain ⟨r, rfl⟩ : ∃ r, n = r + 1 := ⟨n - 1, by omega⟩
    have hdr : al.drop k = ao :: al.drop (k + 1) := by
      have hkl : k < al.length := by omega
      rw [List.drop_eq_getElem_cons hkl]
      rw [List.getElem?_eq_getElem hkl] at ha
      cases ha
      rfl
    rw [hdr] at h hK
    refine one_step (fun i o hi ho => hcut _ hcm i o hi ho k (Nat.lt_succ_self k)) hlt ho hsz hl ?_
    have hGd := okG_drop k hG
    rw [hdr] at hGd
    refine region_step hco hGd hI hK h fun φ' s' a' w' K' hI' hK' h' => ?_
    exact IH r (by omega) (k + 1) _ φ' s' a' w' K' (by omega) hko hcm (by simp [hsz]) (fun j hj => by
      by_cases hji : j = k
      · subst hji; simp [show j < listed.size by omega]
      · rw [getD_set_ne false (Ne.symm hji), hl j hj]; omega) hI' hK' h'
  -- some operations, in any order
  have hns : ∀ i, k ≤ i → i < m → soloAt ops i = false := fun i h1 h2 => by
    unfold soloAt
    rcases Nat.eq_or_lt_of_le h1 with h | h
    · subst h
      rw [hnc (k + 1) (by omega) hm1, Bool.and_false]
    · rw [hnc i h h2, Bool.false_and]
  have hmid : ∀ i ao, k ≤ i → i < m → al[i]? = some ao → ao.tl = true → midAt P ops i = true := fun i ao h0 hi ha ht => by
    rw [(htl i ao ha).1, hns i h0 hi, Bool.false_or] at ht
    exact ht
  have hm2 : ∀ i, k ≤ i → i < m → ∃ ao, al[i]? = some ao ∧ (ao.tl = true → chgOp ao.op = true ∨ ao.op = .other) := fun i h0 hi => by
    obtain ⟨o, ao, ho, ha, hco⟩ := hpair i (by omega)
    refine ⟨ao, ha, fun ht => ?_⟩
    have hmi := hmid i ao h0 hi ha ht
    unfold midAt at hmi
    simp only [ho, Bool.and_eq_true, stripD] at hmi
    rcases hco.op with h' | h'
    · rw [h'] at hmi; exact .inl hmi.1
    · exact .inr h'
  have hdget : ∀ i, k ≤ i → (al.drop k)[i - k]? = al[i]? := fun i h0 => by rw [List.getElem?_drop]; congr 1; omega
  obtain ⟨S', Pa', V', Hp', hS0', hstep', hrest'⟩ := trace (m - k) (al.drop k) s (fun i hi => by
    obtain ⟨ao, h1, h2⟩ := hm2 (k + i) (by omega) (by omega)
    exact ⟨ao, by rw [List.getElem?_drop]; exact h1, h2⟩) h
  let S : Nat → St := fun i => S' (i - k)
  let Pa : Nat → Path := fun i => Pa' (i - k)
  let V : Nat → AV := fun i => V' (i - k)
  let Hp : Nat → Heap := fun i => Hp' (i - k)
  let KK : Nat → List Nat := fun i => keysTo K (al.drop k) (i - k)
  have hSk : ∀ i, i ≤ k → S i = s := fun i hi => by show S' (i - k) = s; rw [show i - k = 0 by omega, hS0']
  have hS0 : S 0 = s := hSk 0 (Nat.zero_le _)
  have hstep : ∀ i ao, k ≤ i → i < m → al[i]? = some ao → StepQ P ao (S i) (Pa i) (V i) (Hp i) ∧ S (i + 1) = St.put ⟨(S i).tmps, Hp i⟩ ao.dst (Pa i) (V i) := fun i ao h0 hi ha => by
    have := hstep' (i - k) ao (by omega) (by rw [hdget i h0]; exact ha)
    refine ⟨this.1, ?_⟩
    show S' (i + 1 - k) = _
    rw [show i + 1 - k = (i - k) + 1 by omega]
    exact this.2
  have hnot : ∀ i ao, k ≤ i → i < m → al[i]? = some ao → ao.op ≠ .other := fun i ao h0 hi ha h => by
    rcases (hstep i ao h0 hi ha).1.2 with ⟨_, _, e, _⟩ | ⟨_, _, _, e, _⟩ | ⟨_, _, _, e, _⟩ <;> (rw [h] at e; simp [aop_other] at e)
  have hsd : ∀ i ao o, k ≤ i → i < m → al[i]? = some ao → ops[i]? = some o → stripD P o = ao.op := fun i ao o h0 hi ha ho => by
    obtain ⟨o', ao', ho', ha', hco⟩ := hpair i (by omega)
    rw [ho] at ho'; cases ho'
    rw [ha] at ha'; cases ha'
    unfold stripD
    rw [hco.op.resolve_right (hnot i ao h0 hi ha)]
    rfl
  have hmid2 : ∀ j aj oj, k ≤ j → j < m → al[j]? = some aj → ops[j]? = some oj → aj.tl = true → ∀ i ai oi, k ≤ i → i < m → al[i]? = some ai → ops[i]? = some oi → i ≠ j → quietOp ai.op = false → (j < i → Behind ops oi j ∨ ((addrOf ai.op).isSome = true ∧ appNil aj.op = true)) ∧ (i < j → Behind ops oj i ∨ ∃ a, addrOf ai.op = some a ∧ (appNil aj.op = true ∨ (stOp aj.op = true ∧ a ∈ aj.ex ∧ ∀ k ak, i ≤ k → k < m → al[k]? = some ak → ak.dst ≠ some a))) := fun j aj oj hj0 hj haj hoj ht i ai oi hi0 hi hai hoi hij hnq => by
    have hmi := hmid j aj hj0 hj haj ht
    have hmi0 := hmi
    unfold midAt at hmi
    simp only [hoj, Bool.and_eq_true, List.all_eq_true, List.mem_range, Bool.or_eq_true, beq_iff_eq] at hmi
    have hio : i < ops.size := (Array.getElem?_eq_some_iff.1 hoi).1
    have hx := hmi.2 i hio
    rw [hoi] at hx
    simp only [Bool.or_eq_true, hsd i ai oi hi0 hi hai hoi, hsd j aj oj hj0 hj haj hoj, hnq, Bool.false_eq_true, false_or] at hx
    rcases hx with hx | hx | hx
    · exact absurd hx hij
    · constructor
      · intro h
        rw [if_neg (by omega)] at hx
        exact .inl (hmk i oi hoi j hx)
      · intro h
        rw [if_pos h] at hx
        exact .inl (hmk j oj hoj i hx)
    · cases had : addrOf ai.op with
      | none => rw [had] at hx; cases hx
      | some a =>
        rw [had] at hx
        simp only [Bool.or_eq_true, Bool.and_eq_true, decide_eq_true_eq, List.all_eq_true, List.mem_range] at hx
        rcases hx with hx | ⟨⟨hst, hlt⟩, hx⟩
        · exact ⟨fun _ => .inr ⟨rfl, hx⟩, fun _ => .inr ⟨a, rfl, .inl hx⟩⟩
        · refine ⟨fun h => by omega, fun _ => ?_⟩
          cases hbit : ((masks ops.toList []).getD j 0).testBit i with
          | true => exact .inl (hmk j oj hoj i hbit)
          | false =>
            refine .inr ⟨a, rfl, .inr ⟨hst, ?_, fun k' ak hk' hkm' hak => ?_⟩⟩
            · have hna : appNil aj.op = false := by
                cases h : aj.op <;> first | rfl | (rw [h] at hst; simp [stOp] at hst)
              rw [(htl j aj haj).2 oj hoj, if_neg (by rw [hns j hj0 hj, hmi0, hsd j aj oj hj0 hj haj hoj, hna]; simp)]
              unfold exAt
              simp only [List.mem_filterMap, List.mem_range]
              refine ⟨i, hlt, ?_⟩
              rw [hoi]
              simp only [hbit, Bool.false_eq_true, if_false, hsd i ai oi hi0 hi hai hoi]
              exact had
            · obtain ⟨ok, ak', hok, hak', hco⟩ := hpair k' (by omega)
              rw [hak] at hak'; cases hak'
              have := (hx k' (by omega)).resolve_left (by omega)
              rw [hok] at this
              simp only [bne_iff_ne, ne_eq] at this
              rw [hco.dst]
              exact this
  have hchg : ∀ i ao, k ≤ i → i < m → al[i]? = some ao → ao.tl = true → chgOp ao.op = true := fun i ao h0 hi ha ht => by
    obtain ⟨x, hx, h'⟩ := hm2 i h0 hi
    rw [ha] at hx; cases hx
    exact (h' ht).resolve_right (hnot i ao h0 hi ha)
  have hkk : ∀ i ao, k ≤ i → al[i]? = some ao → KK (i + 1) = addK (KK i) ao.guard := fun i ao h0 ha => by
    show keysTo K (al.drop k) (i + 1 - k) = addK (keysTo K (al.drop k) (i - k)) ao.guard
    rw [show i + 1 - k = (i - k) + 1 by omega]
    simp only [keysTo, hdget i h0, ha]
  have hno : ∀ i ao d, k ≤ i → al[i]? = some ao → ao.dst = some d → d ∉ KK (i + 1) := fun i ao d h0 ha hd hin => by
    refine keysTo_no (okG_drop k hG) hK (i - k + 1) d ?_ (i - k) ao (Nat.le_refl _) (by rw [hdget i h0]; exact ha) hd
    rw [show i - k + 1 = i + 1 - k by omega]
    exact hin
  have haok : ∀ d, k + d ≤ m → AOk (S (k + d)).tmps (KK (k + d)) := by
    intro d
    induction d with
    | zero =>
      intro _
      have e1 : KK (k + 0) = K := by show keysTo K (al.drop k) (k + 0 - k) = K; rw [show k + 0 - k = 0 by omega]; rfl
      rw [e1, hSk (k + 0) (by omega)]
      exact hI.sok.aok
    | succ d ih =>
      intro hd
      obtain ⟨ao, ha, _⟩ := hm2 (k + d) (by omega) (by omega)
      obtain ⟨hq, hs⟩ := hstep (k + d) ao (by omega) (by omega) ha
      have hA := ih (by omega)
      obtain ⟨g1, g2⟩ := gpath_aok (H := (S (k + d)).heap) hA hq.1
      rw [show k + (d + 1) = k + d + 1 by omega, hs, hkk (k + d) ao (by omega) ha]
      cases hd' : ao.dst with
      | none => exact fun n sl hsl => ⟨(hA n sl hsl).1, keysIn_mono (addK_sub _ _) (hA n sl hsl).2⟩
      | some e => exact aok_put hA (addK_sub _ _) (by rw [← hkk (k + d) ao (by omega) ha]; exact hno (k + d) ao e (by omega) ha hd') g1 g2
  have haok' : ∀ i, k ≤ i → i ≤ m → AOk (S i).tmps (KK i) := fun i h0 hi => by
    have := haok (i - k) (by omega)
    rwa [show k + (i - k) = i by omega] at this
  have hR : Run P N ops al k m S Pa V Hp KK := ⟨hms, Nat.le_of_lt hkm, fun i hi => by rw [hSk i hi, hS0], hpair, hstep, hchg, hmid2, haok', fun i ao h0 _ ha => hkk i ao h0 ha, fun i ao d h0 _ ha hd => hno i ao d h0 ha hd, hD⟩
  have hlisted : ∀ i, listed.getD i false = true → i < k := fun i hi => by
    have : i < ops.size := by
      rcases Nat.lt_or_ge i ops.size with h | h
      · exact h
      · simp only [Array.getD_eq_getD_getElem?, Array.getElem?_eq_none (show listed.size ≤ i by omega), Option.getD_none] at hi
        cases hi
    exact (hl i this).1 hi
  have hfs : ∀ i, (S 0).heap.next ≤ i → φ i = none := by rw [hS0]; exact hI.heap.fresh
  have g0 : HRel φ (S 0).heap w := by rw [hS0]; exact hI.heap
  have hstart : Jn ops al k m N S Pa V φ a w listed φ a w := by
    refine ⟨hsz, fun i hi => Nat.lt_trans (hlisted i hi) hkm, fun i hi => (hl i (by omega)).2 hi, fun i o j hi ho hw' => ?_, fun q hq hsk => ?_, fun q X B p hq hB hoff hp => ?_, fun id p hp => hI.heap.lt id p hp, fun i hi => hfs i (Nat.le_trans (hR.next_mono (Nat.zero_le _) (Nat.le_refl _)) hi), fun i hi _ id hid _ => hfs id (Nat.le_trans (hR.next_mono (Nat.zero_le _) (Nat.le_of_lt hi)) hid), fun i ao d h0 hi hl' => (by have := hlisted i hl'; omega), fun t _ => rfl, fun _ _ => rfl, hI.defers, hI.size⟩
    · have hik := hlisted i hi
      unfold waits at hw'
      obtain ⟨e, he, hb⟩ := List.any_eq_true.1 hw'
      simp only [Bool.and_eq_true, beq_iff_eq] at hb
      have := hlt i o ho e (by simpa using he) hb.1
      rw [hb.2] at this
      exact (hl j (by omega)).2 (by omega)
    all_goals have hto : φ.to (S q).heap.next = φ := Emb.to_self fun i hi => hfs i (Nat.le_trans (hR.next_mono (Nat.zero_le _) hq) hi)
    rotate_left
    · rw [hto] at hp ⊢
      have hlt' : X < (S 0).heap.next := by
        rcases Nat.lt_or_ge X (S 0).heap.next with h | h
        · exact h
        · rw [hfs X h] at hp; cases hp
      rw [hR.getB_at (Nat.zero_le _) hq (fun t ao h0 _ h2 ha ht => hoff t ao h0 (by omega) ha ht fun he => by have := hlisted t (he.2 h2); omega) hlt'] at hB
      exact g0.blk X B p hB hp
    have hstill : still al k 0 q := fun t ao h0 _ h2 ha => by
      cases ht : ao.tl with
      | false => rfl
      | true => have := hlisted t ((hsk t ao h0 (by omega) ha ht).2 h2); omega
    rw [hto]
    refine g0.grown rfl rfl rfl (Nat.le_refl _) (fun _ _ => rfl) (K := (S q).heap) (hR.next_mono (Nat.zero_le _) hq) fun j D hj hne => ?_
    have hlt' : j < (S 0).heap.next := by
      rcases Nat.lt_or_ge j (S 0).heap.next with h | h
      · exact h
      · exact absurd (hfs j h) hne
    rw [hR.getB_old (Nat.zero_le _) hq hstill j hlt'] at hj
    exact hj
  have hunl : ∀ d, k + d ≤ ops.size → unl listed (k + d) = d := by
    intro d
    induction d with
    | zero =>
      intro _
      have : ∀ i, i ≤ k → unl listed i = 0 := by
        intro i
        induction i with
        | zero => intro _; rfl
        | succ i ih =>
          intro hi
          simp only [unl, ih (by omega)]
          rw [(hl i (by omega)).2 (by omega)]
          rfl
      exact this _ (Nat.le_refl _)
    | succ d ih =>
      intro hd
      rw [show k + (d + 1) = k + d + 1 by omega]
      simp only [unl, ih (by omega)]
      have : listed.getD (k + d) false = false := by
        cases hx : listed.getD (k + d) false with
        | false => rfl
        | true => have := hlisted _ hx; omega
      rw [this]
      simp
  suffices hh : wpAny P .any ops Q ((ops.size - m) + (m - k)) listed a w by
    have e : ops.size - m + (m - k) = n := by omega
    rw [e] at hh
    exact hh
  refine draw_any hR (hcut m hcm) (by rw [hS0]; have e1 : KK 0 = K := (by show keysTo K (al.drop k) (0 - k) = K; rw [show 0 - k = 0 by omega]; rfl); rw [e1]; exact hI.sok) hfs (Q := Q) (fun φ' a' w' listed' hJ hall => ?_) (m - k) φ _ a _ hstart (by have := hunl (m - k) (by omega); rwa [show k + (m - k) = m by omega] at this)
  have hφm : φ'.to (S m).heap.next = φ' := Emb.to_self hJ.fresh
  obtain ⟨hHm, hFm⟩ := hJ.hr m (Nat.le_refl _) fun j ao _ hj _ _ => ⟨fun _ => hj, fun _ => hall j hj⟩
  rw [hφm] at hHm hFm
  rw [hS0] at hFm
  have hSm : SOk φ' (S m).tmps a' (KK m) := by
    intro t sl hsl
    obtain ⟨g1, g2⟩ := haok' m (Nat.le_of_lt hkm) (Nat.le_refl _) t sl hsl
    rcases hR.slot (Nat.le_refl m) t with ⟨j, x, hj0, hj, hx, hxd, hs'⟩ | ⟨hno', hs'⟩
    · rw [hs'] at hsl
      cases hsl
      obtain ⟨q1, q2⟩ := hJ.on j x t hj0 hj (hall j hj) hx hxd
      exact ⟨rfl, fun hcd => relA_mono (Emb.to_le _ _) (q1 hcd), q2, g1, g2⟩
    · rw [hs', hS0] at hsl
      have hk' := hI.sok t sl hsl
      have e := hJ.off t fun i ao h0 hi _ ha => hno' i ao h0 hi ha
      refine ⟨hk'.num, fun hcd => ?_, fun hcd => ?_, g1, g2⟩
      · rw [e]; exact relA_mono hFm.le (hk'.on hcd)
      · rw [e]; exact hk'.off hcd
  refine IH (ops.size - m) (by omega) m listed' φ' (S m) a' w' (KK m) rfl hms hcm hJ.sz (fun i hi => ⟨hJ.lt i, hall i⟩) ⟨hSm, hHm, hI.fr.trans hFm, hJ.defers, hJ.size⟩ (fun d hd x hx => ?_) ?_
  · obtain ⟨j, hj⟩ := List.mem_iff_getElem?.1 hx
    rw [List.getElem?_drop] at hj
    exact keysTo_no (okG_drop k hG) hK (m - k) d hd (m - k + j) x (by omega) (by rw [List.getElem?_drop, show k + (m - k + j) = m + j by omega]; exact hj)
  · have e : al.drop m = (al.drop k).drop (m - k) := by rw [List.drop_drop]; congr 1; omega
    rw [e]
    exact hrest'

theorem region_draw {φ₀ : Emb} {H₀ : Heap} {w₀ : World} {N : Nat} {id : Nat} {ops : Array Oper} {al : List AOper} {Q : Exit → Act → World → Prop} {Qs : St → Prop} (hm : P.follows .mixedOrders = true)
    (hQ : ∀ φ s a w K, Inv φ₀ H₀ w₀ N φ s a w K → Qs s → Q .normal a w) (hc : F2 (Corr P N ops) ops.toList al) (hG : okG al = true) (hD : drawOk ops al = true)
    (htl : ∀ i ao, al[i]? = some ao → ao.tl = (soloAt ops i || midAt P ops i) ∧ ∀ o, ops[i]? = some o → ao.ex = if (soloAt ops i || !midAt P ops i || appNil (stripD P o)) = true then [] else exAt P ops i) {s : St} {a : Act} {K : List Nat} (hI : Inv φ₀ H₀ w₀ N φ s a w K) (hK : ∀ d ∈ K, ∀ o ∈ al, o.dst ≠ some d) (h : rwp (Con P) al s Qs) : (Code.region id ops true).wp P Q a w := by
  refine wp_region_any hm ?_
  have hfalse : ∀ k, (Array.replicate ops.size false).getD k false = false := fun k => by
    simp only [Array.getD_eq_getD_getElem?, Array.getElem?_replicate]
    split <;> rfl
  obtain ⟨q1, q2⟩ := hI.heap.grown (w' := ({ w with drawn := w.drawn + 1 } : World)) rfl rfl rfl (Nat.le_refl _) (fun _ _ => rfl) (K := s.heap) (Nat.le_refl _) (fun _ _ h _ => h)
  refine draw_from hQ hc hG hD htl ops.size 0 _ φ s a _ K (by omega) (Nat.zero_le _) ?_ (by simp) (fun i _ => ⟨fun h => (by rw [hfalse] at h; cases h), fun h => by omega⟩) ⟨hI.sok, q1, hI.fr.trans q2, hI.defers, hI.size⟩ (by simpa using hK) (by simpa using h)
  unfold cutAt
  simp only [List.all_eq_true, List.mem_range, Bool.or_eq_true]
  intro i _
  exact .inr fun j hj => by omega

end Go.AM

namespace Go.AM
set_option linter.unusedVariables false
set_option linter.unusedSimpArgs false
variable {P : Program} {φ : Emb} {w : World}

def LeS (n : Nat) : LeT := fun s s' => ∀ φ₀ H₀ w₀ N φ a w, H₀.next ≤ n → (∀ i, H₀.next ≤ i → φ₀ i = none) → Inv φ₀ H₀ w₀ N φ s a w [] → ∃ φ', Inv φ₀ H₀ w₀ N φ' s' a w []

theorem slotAt_shed : ∀ (l : List Slot) (n : Nat) (sl : Slot), slotAt (shed l) n = some sl → sl.path = [] ∧ (sl.v = .bot ∨ slotAt l n = some sl)
  | [], n, sl, h => by simp [shed, slotAt] at h
  | ⟨k, [], v⟩ :: r, n, sl, h => by
    simp only [shed] at h
    by_cases hn : n = k
    · subst hn; rw [slotAt_cons_self] at h; cases h; exact ⟨rfl, .inr (slotAt_cons_self _ _ _ _)⟩
    · rw [slotAt_cons_ne hn] at h ⊢; exact slotAt_shed r n sl h
  | ⟨k, e :: p, v⟩ :: r, n, sl, h => by
    simp only [shed] at h
    by_cases hn : n = k
    · subst hn; rw [slotAt_cons_self] at h; cases h; exact ⟨rfl, .inl rfl⟩
    · rw [slotAt_cons_ne hn] at h ⊢; exact slotAt_shed r n sl h

theorem Inv.shed {φ₀ : Emb} {H₀ : Heap} {w₀ : World} {N : Nat} {s : St} {a : Act} {K : List Nat} (h : Inv φ₀ H₀ w₀ N φ s a w K) : Inv φ₀ H₀ w₀ N φ ⟨shed s.tmps, s.heap⟩ a w [] := by
  refine ⟨fun n sl hs => ?_, h.heap, h.fr, h.defers, h.size⟩
  obtain ⟨h1, h2⟩ := slotAt_shed _ _ _ hs
  obtain ⟨k, p, v⟩ := sl
  simp only at h1
  subst h1
  have hn : k = n := slotAt_num _ _ _ hs
  refine ⟨hn, fun hc => ?_, fun hc => absurd trivial hc, trivial, fun e he => by cases he⟩
  rcases h2 with h2 | h2
  · simp only at h2; subst h2; trivial
  · exact (h.sok n _ h2).on hc

def exOf : AEx → Exit
  | .normal => .normal
  | .exit id => .exit id
  | .ret => .ret

def Real (φ₀ : Emb) (H₀ : Heap) (w₀ : World) (N : Nat) (Q : AEx → St → Prop) : Exit → Act → World → Prop := fun e a w => ∃ ae φ s, exOf ae = e ∧ Q ae s ∧ Inv φ₀ H₀ w₀ N φ s a w []

theorem corr_all (N : Nat) (ops : Array Oper) (draw : Bool) : F2 (Corr P N ops) ops.toList (ops.toList.zipIdx.map fun (o, i) => stripOper P N ops draw i o) := by
  have : ∀ (l : List Oper) (k : Nat), F2 (Corr P N ops) l ((l.zipIdx k).map fun (o, i) => stripOper P N ops draw i o) := by
    intro l
    induction l with
    | nil => intro k; exact .nil
    | cons o r ih => intro k; exact .cons (corr_strip P N ops draw k o) (ih (k + 1))
  exact this _ 0

set_option maxHeartbeats 1000000 in
theorem awp_sound (hm : P.follows .mixedOrders = true) {φ₀ : Emb} {H₀ : Heap} {w₀ : World} {N n0 : Nat} (hn0 : H₀.next ≤ n0) (hf0 : ∀ i, H₀.next ≤ i → φ₀ i = none) (c : Code) : ∀ (s : St) (Q : AEx → St → Prop), awp (Con P) (LeS n0) (strip P N c) s Q →
    ∀ (φ : Emb) (a : Act) (w : World), Inv φ₀ H₀ w₀ N φ s a w [] → c.wp P (Real φ₀ H₀ w₀ N Q) a w := by
  induction c with
  | skip => intro s Q h φ a w hI; exact wp_skip ⟨.normal, φ, s, rfl, h, hI⟩
  | ret => intro s Q h φ a w hI; exact wp_ret ⟨.ret, φ, s, rfl, h, hI⟩
  | exit id => intro s Q h φ a w hI; exact wp_exit ⟨.exit id, φ, s, rfl, h, hI⟩
  | region id ops draw =>
    intro s Q h φ a w hI
    simp only [strip] at h
    split at h
    · rename_i hchk
      simp only [Bool.and_eq_true, Bool.or_eq_true, Bool.not_eq_true'] at hchk
      simp only [awp] at h
      have hQ : ∀ φ s a w K, Inv φ₀ H₀ w₀ N φ s a w K → (∃ s'', LeS n0 ⟨shed s.tmps, s.heap⟩ s'' ∧ Q .normal s'') → Real φ₀ H₀ w₀ N Q .normal a w := fun φ s a w K hI ⟨s'', hle, hq⟩ => by
        obtain ⟨φ', hI'⟩ := hle φ₀ H₀ w₀ N φ a w hn0 hf0 hI.shed
        exact ⟨.normal, φ', _, rfl, hq, hI'⟩
      cases draw with
      | false => exact wp_region_list (region_seq hQ _ _ (corr_all N ops false) hchk.1 φ s a w [] hI (fun d hd => by cases hd) h)
      | true =>
        refine region_draw hm hQ (corr_all N ops true) hchk.1 (hchk.2.resolve_left (by simp)) (fun i ao ha => ?_) hI (fun d hd => by cases hd) h
        simp only [List.getElem?_map, Option.map_eq_some_iff] at ha
        obtain ⟨⟨o, j⟩, hoj, rfl⟩ := ha
        rw [List.getElem?_zipIdx, Option.map_eq_some_iff] at hoj
        obtain ⟨o', h', e⟩ := hoj
        simp only [Prod.mk.injEq, Nat.zero_add] at e
        obtain ⟨rfl, rfl⟩ := e
        refine ⟨by simp [stripOper], fun o ho => ?_⟩
        have e : o' = o := by simp only [Array.getElem?_toList] at h'; rw [ho] at h'; cases h'; rfl
        subst e
        simp [stripOper]
    · exact h.elim
  | seq x y ihx ihy =>
    intro s Q h φ a w hI
    simp only [strip, awp] at h
    refine wp_seq (wp_mono (ihx s _ h φ a w hI) fun e a' w' hq => ?_)
    obtain ⟨ae, φ', s', rfl, hq, hI'⟩ := hq
    cases ae with
    | normal => exact ihy s' Q hq φ' a' w' hI'
    | exit id => exact ⟨.exit id, φ', s', rfl, hq, hI'⟩
    | ret => exact ⟨.ret, φ', s', rfl, hq, hI'⟩
  | cond c x y ihx ihy =>
    intro s Q h φ a w hI
    simp only [strip] at h
    split at h
    · rename_i co hco
      simp only [awp] at h
      have hg := (gets_of (H := s.heap) hI.sok.toE (π := []) trivial trivial).get c co hco
      split at h
      · rename_i b hb
        rw [hb] at hg
        have hev : a.eval c = .bool b := hg
        cases b with
        | true => exact wp_cond_true hev (ihx s Q h φ a w hI)
        | false => exact wp_cond_false hev (ihy s Q h φ a w hI)
      · exact h.elim
    · exact h.elim
  | block id b ih =>
    intro s Q h φ a w hI
    simp only [strip, awp] at h
    refine wp_block (wp_mono (ih s _ h φ a w hI) fun e a' w' hq => ?_)
    obtain ⟨ae, φ', s', rfl, hq, hI'⟩ := hq
    cases ae with
    | normal => exact ⟨.normal, φ', s', rfl, hq, hI'⟩
    | exit j =>
      simp only [exOf, Exit.inBlock]
      simp only at hq
      split at hq
      · rename_i hb
        rw [if_pos (Nat.eq_of_beq_eq_true hb)]
        exact ⟨.normal, φ', s', rfl, hq, hI'⟩
      · rename_i hb
        rw [if_neg (fun e => by rw [e, Nat.beq_refl] at hb; cases hb)]
        exact ⟨.exit j, φ', s', rfl, hq, hI'⟩
    | ret => exact ⟨.ret, φ', s', rfl, hq, hI'⟩
  | loop b ih =>
    intro s Q h φ a w hI
    simp only [strip, awp] at h
    obtain ⟨I, n, hI0, hround⟩ := h
    refine wp_loop_ghost (fun n a w => ∃ φ s, I n s ∧ Inv φ₀ H₀ w₀ N φ s a w []) n ⟨φ, s, hI0, hI⟩ fun n a w hh => ?_
    obtain ⟨φ, s, hIn, hI⟩ := hh
    refine wp_mono (ih s _ (hround n s hIn) φ a w hI) fun e a' w' hq => ?_
    obtain ⟨ae, φ', s', rfl, hq, hI'⟩ := hq
    cases ae with
    | normal =>
      obtain ⟨n', s'', hlt, hle, hI''⟩ := hq
      obtain ⟨φ'', hI3⟩ := hle φ₀ H₀ w₀ N φ' a' w' hn0 hf0 hI'
      exact ⟨n', hlt, φ'', s'', hI'', hI3⟩
    | exit id => exact ⟨.exit id, φ', s', rfl, hq, hI'⟩
    | ret => exact ⟨.ret, φ', s', rfl, hq, hI'⟩
  | rangeFunc f ps x y => intro s Q h; exact h.elim
  | scope b => intro s Q h; exact h.elim
  | label l => intro s Q h; exact h.elim
  | goto l => intro s Q h; exact h.elim
  | refuse y => intro s Q h; exact h.elim

theorem initT_slot : ∀ (args : List AV) (xs : List Value) (k : Nat) (n : Nat) (sl : Slot), F2 (relA φ) args xs → slotAt (initT args k) n = some sl → sl.path = [] ∧ k ≤ n ∧ ∃ x, xs[n - k]? = some x ∧ relA φ sl.v x
  | [], xs, k, n, sl, h, hs => by simp [initT, slotAt] at hs
  | v :: r, xs, k, n, sl, h, hs => by
    obtain ⟨x, m, rfl, hx, hr⟩ := h.cons_left
    simp only [initT] at hs
    by_cases hn : n = k
    · subst hn
      rw [slotAt_cons_self] at hs
      cases hs
      exact ⟨rfl, Nat.le_refl _, x, by simp, hx⟩
    · rw [slotAt_cons_ne hn] at hs
      obtain ⟨h1, h2, y, hy, hyr⟩ := initT_slot r m (k + 1) n sl hr hs
      refine ⟨h1, by omega, y, ?_, hyr⟩
      rw [show n - k = (n - (k + 1)) + 1 by omega]
      simpa using hy

theorem resA_ok {φ₀ : Emb} {H₀ : Heap} {w₀ : World} {N : Nat} {s : St} {a : Act} (hI : Inv φ₀ H₀ w₀ N φ s a w []) : ∀ (l : List ResultVar) (rs : List ARes) (vs : List AV), stripRes P l = some rs → resL s rs = some vs →
    ∃ xs : List Value, (l.mapM (fun r => match r with
      | ResultVar.tmp t => (pure (a.tmps.getD t undef) : Sem Value)
      | ResultVar.cell ad t => do loadVar t (← asAddr (a.tmps.getD ad undef)))).run P w = .ok xs w ∧ F2 (rel1 φ) vs xs
  | [], rs, vs, h1, h2 => by
    simp only [stripRes, Option.some.injEq] at h1
    subst h1
    simp only [resL, Option.some.injEq] at h2
    subst h2
    exact ⟨[], by simp [go_sem], .nil⟩
  | r :: l, rs, vs, h1, h2 => by
    have hget : ∀ t, relA φ (s.get [] (.t t)) (a.tmps.getD t undef) := fun t => (gets_of (H := s.heap) hI.sok.toE (π := []) trivial trivial).cs t
    have key : ∀ (ar : ARes) (rs' : List ARes), rs = ar :: rs' → stripRes P l = some rs' → (∀ v, resA s ar = some v → ∃ x, ((match r with
        | ResultVar.tmp t => (pure (a.tmps.getD t undef) : Sem Value)
        | ResultVar.cell ad t => do loadVar t (← asAddr (a.tmps.getD ad undef))) : Sem Value).run P w = .ok x w ∧ relA φ v x) →
        ∃ xs : List Value, ((r :: l).mapM (fun r => match r with
          | ResultVar.tmp t => (pure (a.tmps.getD t undef) : Sem Value)
          | ResultVar.cell ad t => do loadVar t (← asAddr (a.tmps.getD ad undef)))).run P w = .ok xs w ∧ F2 (rel1 φ) vs xs := by
      intro ar rs' e1 e2 hv
      subst e1
      simp only [resL] at h2
      split at h2
      · rename_i v hva
        split at h2
        · rename_i hnt
          split at h2
          · rename_i t ht
            simp only [Option.some.injEq] at h2
            subst h2
            obtain ⟨x, hx, hr⟩ := hv v hva
            obtain ⟨xs, hxs, hF⟩ := resA_ok hI l rs' t e2 ht
            refine ⟨x :: xs, ?_, .cons ?_ hF⟩
            · simp only [List.mapM_cons, Sem.run_bind, hx, Result.andThen_ok, hxs, Sem.run_pure]
            · cases v <;> first | exact hr | simp [noTup] at hnt
          · simp at h2
        · simp at h2
      · simp at h2
    cases r with
    | tmp t =>
      simp only [stripRes, Option.map_eq_some_iff] at h1
      obtain ⟨rs', h1, rfl⟩ := h1
      refine key _ rs' rfl h1 fun v hv => ?_
      simp only [resA, Option.some.injEq] at hv
      subst hv
      exact ⟨_, rfl, hget t⟩
    | cell ad t =>
      simp only [stripRes] at h1
      split at h1
      · rename_i _ l' ht hl
        simp only [Option.some.injEq] at h1
        refine key _ l' h1.symm hl fun v hv => ?_
        simp only [resA] at hv
        split at hv
        · rename_i p hp
          split at hv
          · rename_i v' hld
            simp only [Option.some.injEq] at hv
            subst hv
            have hg := hget ad
            rw [hp] at hg
            obtain ⟨pl, hpl, hev⟩ := hg
            obtain ⟨_, y, hy, hr⟩ := ld1_ok hI.heap.blk hld trivial hpl
            exact ⟨y, by simp only [hev, asAddr, Sem.run_bind, Sem.run_pure, Result.andThen_ok, loadVar, run_isAgg ht, Bool.false_eq_true, if_false, run_load, hy], hr⟩
          · simp at hv
        · simp at hv
      · rename_i n l' ht hsz hl
        simp only [Option.some.injEq] at h1
        refine key _ l' h1.symm hl fun v hv => ?_
        simp only [resA] at hv
        split at hv
        · rename_i p hp
          split at hv
          · rename_i v' hld
            simp only [Option.some.injEq] at hv
            subst hv
            have hg := hget ad
            rw [hp] at hg
            obtain ⟨pl, hpl, hev⟩ := hg
            obtain ⟨_, xs, hlx, hcx, l2, rfl, hF⟩ := ldn_ok hI.heap.blk hld trivial hpl
            subst hlx
            exact ⟨.agg xs.toArray, by simp only [hev, asAddr, Sem.run_bind, Sem.run_pure, Result.andThen_ok, loadVar, run_isAgg ht, if_true, run_sizeOf hsz, run_loadCells_list w _ xs hcx], xs.toArray, rfl, hF⟩
          · simp at hv
        · simp at hv
      · simp at h1

theorem run_results {fn : Func} {φ₀ : Emb} {H₀ : Heap} {w₀ : World} {N : Nat} {s : St} {a : Act} (hI : Inv φ₀ H₀ w₀ N φ s a w []) {rs : List ARes} {vs : List AV} (h1 : stripRes P fn.results.toList = some rs) (h2 : resL s rs = some vs) :
    ∃ x, (results fn a.tmps).run P w = .ok x w ∧ relA φ (resV vs) x := by
  obtain ⟨xs, hx, hF⟩ := resA_ok hI _ _ _ h1 h2
  have hm : (fn.results.mapM (fun r => match r with
      | ResultVar.tmp t => (pure (a.tmps.getD t undef) : Sem Value)
      | ResultVar.cell ad t => do loadVar t (← asAddr (a.tmps.getD ad undef)))).run P w = .ok xs.toArray w := by
    rw [Array.mapM_eq_mapM_toList]
    simp only [Sem.run_map, hx, Result.andThen_ok]
  refine ⟨if h : xs.toArray.size = 1 then xs.toArray[0] else .tuple xs.toArray, ?_, ?_⟩
  · unfold results
    simp only [Sem.run_bind]
    refine (congrArg (fun r => Result.andThen r _) hm).trans ?_
    rfl
  · cases hF with
    | nil => exact ⟨#[], rfl, .nil⟩
    | cons h hr => cases hr with
      | nil => exact relA_of_rel1 h
      | cons g1 g2 => exact ⟨_, rfl, .cons h (.cons g1 g2)⟩

theorem con_of_awp (hm : P.follows .mixedOrders = true) {f : FuncId} {fn : Func} (hf : P.funcs[f]? = some fn) (hname : (fn.name == "runtime.NumGoroutine") = false) {ac : ACode} (hc : stripF P fn = some ac) {rs : List ARes} (hrs : stripRes P fn.results.toList = some rs)
    {args : List AV} (hargs : args.length ≤ fn.ntmps) {H : Heap} {R : Post} (h : awp (Con P) (LeS H.next) ac ⟨initT args 0, H⟩ (endQ (LeS H.next) rs R)) : Con P f args H R := by
  unfold stripF at hc
  cases hb : fn.body with
  | none => simp [hb] at hc
  | some c =>
    simp only [hb, Option.some.injEq] at hc
    subst hc
    refine ⟨⟨fn, hf, hname, by simp [hb]⟩, fun φ w xs hF hH => ?_⟩
    have hxl : xs.size = args.length := by rw [hF.length]; simp
    refine calls_of_wp hf hb ?_
    have hI : Inv φ H w fn.ntmps φ ⟨initT args 0, H⟩ { tmps := xs ++ Array.replicate (fn.ntmps - xs.size) undef, defers := [] } w [] := by
      refine ⟨fun n sl hs => ?_, hH, Fr.refl _ _ _, rfl, by simp; omega⟩
      obtain ⟨k, p, v⟩ := sl
      have hk : k = n := slotAt_num _ _ _ hs
      obtain ⟨h1, _, x, hx, hr⟩ := initT_slot args xs.toList 0 n _ hF hs
      simp only at h1
      subst h1
      refine ⟨hk, fun _ => ?_, fun hcd => absurd trivial hcd, trivial, fun e he => by cases he⟩
      have hx' : xs[n]? = some x := by simpa using hx
      have hlt : n < xs.size := (Array.getElem?_eq_some_iff.1 hx').1
      have : (xs ++ Array.replicate (fn.ntmps - xs.size) undef).getD n undef = x := by
        rw [Array.getD_eq_getD_getElem?, Array.getElem?_append_left hlt, hx']
        rfl
      rw [this]
      exact hr
    refine wp_mono (awp_sound hm (Nat.le_refl _) hH.fresh c _ _ h φ _ w hI) fun e a w' hq => ?_
    obtain ⟨ae, φ', s', rfl, hq, hI'⟩ := hq
    have fin : (∃ s2, LeS H.next s' s2 ∧ endF rs R s2) → a.defers = [] ∧ ∃ v, (results fn a.tmps).run P w' = .ok v w' ∧ (∃ φ' v' x H', Ending.returned v = .returned x ∧ R v' H' ∧ relA φ' v' x ∧ HRel φ' H' w' ∧ Fr φ H w φ' H' w') := by
      rintro ⟨s2, hle, he⟩
      obtain ⟨φ2, hI2⟩ := hle φ H w fn.ntmps φ' a w' (Nat.le_refl _) hH.fresh hI'
      unfold endF at he
      split at he
      · rename_i vs hvs
        obtain ⟨x, hx, hr⟩ := run_results hI2 hrs hvs
        exact ⟨hI2.defers, x, hx, φ2, _, x, s2.heap, rfl, he, hr, hI2.heap, hI2.fr⟩
      · exact he.elim
    cases ae with
    | normal => exact fin ((endQ_of (e := .normal) nofun).1 hq)
    | ret => exact fin ((endQ_of (e := .ret) nofun).1 hq)
    | exit id => exact (endQ_exit hq).elim

end Go.AM

namespace Go.AM
set_option linter.unusedVariables false
set_option linter.unusedSimpArgs false
variable {P : Program} {φ : Emb} {w : World}

def nthO : List Nat → Nat → Option Nat
  | [], _ => none
  | j :: _, 0 => some j
  | _ :: r, i + 1 => nthO r i
def ren (φ : Emb) (l : List Nat) : Emb := fun i => match nthO l i with | some j => φ j | none => none

def leA (l : List Nat) (a a' : AA) : Prop := nthO l a'.id = some a.id ∧ a.idx = a'.idx ∧ a.off = a'.off ∧ a.sub = a'.sub
def leAL (l : List Nat) : List AA → List AA → Prop
  | [], [] => True
  | a :: r, a' :: r' => leA l a a' ∧ leAL l r r'
  | _, _ => False
def leC (l : List Nat) : CV → CV → Prop
  | .ptr a, .ptr a' => leA l a a'
  | .slice a i n, .slice a' i' n' => leA l a a' ∧ i = i' ∧ n = n'
  | .nils, .slice _ _ n' => n' = 0
  | .map i, .map i' => nthO l i' = some i
  | .fn f a b, .fn f' a' b' => f = f' ∧ leAL l a a' ∧ leAL l b b'
  | .bool b, .bool b' => b = b'
  | .int k n, .int k' n' => k = k' ∧ n = n'
  | .str s, .str s' => s = s'
  | .nilp, .nilp => True
  | .nils, .nils => True
  | .nilm, .nilm => True
  | .nilfn, .nilfn => True
  | .nilif, .nilif => True
  | .iface t k n, .iface t' k' n' => t = t' ∧ k = k' ∧ n = n'
  | _, _ => False
def leSeg (l : List Nat) : Seg → Seg → Prop
  | .c v, .c v' => leC l v v'
  | .a n f, .a n' f' => n = n' ∧ ∀ i, i < n → leC l (f i) (f' i)
  | _, _ => False
def leSegs (l : List Nat) : List Seg → List Seg → Prop
  | [], [] => True
  | s :: r, s' :: r' => leSeg l s s' ∧ leSegs l r r'
  | _, _ => False
def leV1 (l : List Nat) : AV → AV → Prop
  | _, .bot => True
  | .c v, .c v' => leC l v v'
  | .agg s, .agg s' => leSegs l s s'
  | _, _ => False
def leVL (l : List Nat) : List AV → List AV → Prop
  | [], [] => True
  | v :: r, v' :: r' => leV1 l v v' ∧ leVL l r r'
  | _, _ => False
def leV (l : List Nat) : AV → AV → Prop
  | .tup a, .tup a' => leVL l a a'
  | v, v' => leV1 l v v'

theorem ren_of {l : List Nat} {i j : Nat} (h : nthO l i = some j) : ren φ l i = φ j := by unfold ren; rw [h]

theorem leA_rel {l : List Nat} {a a' : AA} (h : leA l a a') {x : Value} (r : relP φ a x) : relP (ren φ l) a' x := by
  obtain ⟨p, hp, rfl⟩ := r
  obtain ⟨h1, h2, h3, h4⟩ := h
  exact ⟨p, by rw [ren_of h1]; exact hp, by unfold Place.at; rw [h2, h3, h4]⟩
theorem leAL_rel {l : List Nat} : ∀ {a a' : List AA} (h : leAL l a a') {xs : List Value} (r : F2 (relP φ) a xs), F2 (relP (ren φ l)) a' xs
  | [], [], _, _, .nil => .nil
  | _ :: _, _ :: _, h, _, .cons h1 h2 => .cons (leA_rel h.1 h1) (leAL_rel h.2 h2)

theorem leC_rel {l : List Nat} {v v' : CV} (h : leC l v v') {x : Value} (r : rel φ v x) : rel (ren φ l) v' x := by
  cases v <;> cases v' <;> first | exact h.elim | skip
  case ptr.ptr => exact leA_rel h r
  case slice.slice a i n a' i' n' =>
    obtain ⟨h1, rfl, rfl⟩ := h
    obtain ⟨r, cap, e, hl, k⟩ := r
    obtain ⟨h1, h2, h3, h4⟩ := h1
    refine ⟨r, cap, e, hl, k.imp (fun k => ⟨k.1, k.2.1, by rw [← h2]; exact k.2.2⟩) fun ⟨p, hp, e, k⟩ => ⟨p, by rw [ren_of h1]; exact hp, by rw [e]; unfold Place.at; rw [h2, h3, h4], by rw [← h2, ← h3, ← h4]; exact k⟩⟩
  case nils.slice a' i' n' =>
    cases h
    exact ⟨none, 0, r, Nat.le_refl _, .inl ⟨rfl, rfl, .inl rfl⟩⟩
  case map.map => obtain ⟨p, hp, k⟩ := r; exact ⟨p, by rw [ren_of h]; exact hp, k⟩
  case fn.fn =>
    obtain ⟨rfl, h1, h2⟩ := h
    obtain ⟨l', m, e, k1, k2⟩ := r
    exact ⟨l', m, e, leAL_rel h1 k1, leAL_rel h2 k2⟩
  case bool.bool => cases h; exact r
  case int.int => obtain ⟨rfl, rfl⟩ := h; exact r
  case str.str => cases h; exact r
  case iface.iface => obtain ⟨rfl, rfl, rfl⟩ := h; exact r
  all_goals exact r

theorem F2_map {α β γ : Type} {R : β → γ → Prop} (f : α → β) : ∀ (l : List α) (m : List γ), F2 R (l.map f) m ↔ F2 (fun a c => R (f a) c) l m
  | [], m => ⟨fun h => by cases h; exact .nil, fun h => by cases h; exact .nil⟩
  | a :: l, m => ⟨fun h => by cases h with | cons h1 h2 => exact .cons h1 ((F2_map f l _).1 h2), fun h => by cases h with | cons h1 h2 => exact .cons h1 ((F2_map f l _).2 h2)⟩
theorem F2.mono' {α β : Type} {R S : α → β → Prop} {l : List α} {m : List β} (h : F2 R l m) (hRS : ∀ a ∈ l, ∀ b, R a b → S a b) : F2 S l m := by
  induction h with
  | nil => exact .nil
  | cons h _ ih => exact .cons (hRS _ (by simp) _ h) (ih fun a ha => hRS a (by simp [ha]))

theorem leSeg_rel {l : List Nat} {s s' : Seg} (h : leSeg l s s') {xs : List Value} (r : F2 (rel φ) s.flat xs) : F2 (rel (ren φ l)) s'.flat xs := by
  cases s <;> cases s' <;> first | exact h.elim | skip
  case c.c => cases r with | cons h1 h2 => cases h2; exact .cons (leC_rel h h1) .nil
  case a.a n f n' f' =>
    obtain ⟨rfl, h⟩ := h
    simp only [Seg.flat] at r ⊢
    rw [F2_map] at r ⊢
    exact r.mono' fun i hi x hx => leC_rel (h i (by simpa using hi)) hx
theorem leSegs_rel {l : List Nat} : ∀ {s s' : List Seg} (h : leSegs l s s') {xs : List Value} (r : F2 (rel φ) (flat s) xs), F2 (rel (ren φ l)) (flat s') xs
  | [], [], _, _, .nil => .nil
  | [], _ :: _, h, _, _ => h.elim
  | _ :: _, [], h, _, _ => h.elim
  | s :: r, s' :: r', h, xs, hx => by
    obtain ⟨a, b, rfl, k1, k2⟩ := F2.split (l := s.flat) (m := flat r) hx
    exact (leSeg_rel h.1 k1).append (leSegs_rel h.2 k2)

theorem leV1_rel1 {l : List Nat} {v v' : AV} (h : leV1 l v v') {x : Value} (r : rel1 φ v x) : rel1 (ren φ l) v' x := by
  cases v' with
  | bot => trivial
  | c v' => cases v <;> first | exact h.elim | exact leC_rel h r
  | agg s' => cases v <;> first | exact h.elim | exact (let ⟨cs, e, k⟩ := r; ⟨cs, e, leSegs_rel h k⟩)
  | tup => cases v <;> exact h.elim
theorem leVL_rel {l : List Nat} : ∀ {v v' : List AV} (h : leVL l v v') {xs : List Value} (r : F2 (rel1 φ) v xs), F2 (rel1 (ren φ l)) v' xs
  | [], [], _, _, .nil => .nil
  | _ :: _, _ :: _, h, _, .cons h1 h2 => .cons (leV1_rel1 h.1 h1) (leVL_rel h.2 h2)
theorem leV_rel {l : List Nat} {v v' : AV} (h : leV l v v') {x : Value} (r : relA φ v x) : relA (ren φ l) v' x := by
  cases v with
  | tup a =>
    cases v' with
    | tup a' => obtain ⟨xs, e, k⟩ := r; exact ⟨xs, e, leVL_rel h k⟩
    | bot => trivial
    | _ => exact h.elim
  | bot => cases v' <;> first | exact h.elim | trivial
  | c v => cases v' <;> first | exact h.elim | exact leC_rel h r | trivial
  | agg v => cases v' <;> first | exact h.elim | exact (let ⟨cs, e, k⟩ := r; ⟨cs, e, leSegs_rel h k⟩) | trivial

def leB (l : List Nat) (B B' : Blk) : Prop := B'.str = B.str ∧ B'.elem = B.elem ∧ (B'.wr = true → B.wr = true) ∧ B'.n ≤ B.n ∧ ∀ i, i < B'.n → leSegs l (B.row i) (B'.row i)
theorem leB_rel {l : List Nat} {B B' : Blk} (h : leB l B B') {p : Place} (r : BRel φ B p w) : BRel (ren φ l) B' p w := by
  obtain ⟨h1, h2, h3, h4, h5⟩ := h
  refine ⟨r.str.trans h1.symm, fun i hi => ?_, fun hw => ?_⟩
  · obtain ⟨xs, k1, k2, k3⟩ := r.rows i (by omega)
    exact ⟨xs, leSegs_rel (h5 i hi) k1, k2.trans h1.symm, k3⟩
  · obtain ⟨e1, e2, e3, cs, e4, e5⟩ := r.own (h3 hw)
    exact ⟨e1, by omega, e3, cs, by rw [h2]; exact e4, e5⟩

def leBlks (l : List Nat) (H : List (Nat × Blk)) : List (Nat × Blk) → Prop
  | [] => True
  | (i, B') :: r => (match nthO l i with | none => True | some j => match getB H j with | none => False | some B => leB l B B') ∧ leBlks l H r
theorem leBlks_get {l : List Nat} {H : List (Nat × Blk)} : ∀ {H' : List (Nat × Blk)}, leBlks l H H' → ∀ {i B'}, getB H' i = some B' → ∀ {j}, nthO l i = some j → ∃ B, getB H j = some B ∧ leB l B B'
  | [], _, i, B', h, _, _ => by simp [getB] at h
  | (k, C) :: r, hl, i, B', h, j, hj => by
    simp only [leBlks] at hl
    simp only [getB] at h
    cases hb : Nat.beq k i with
    | false => rw [hb] at h; exact leBlks_get hl.2 h hj
    | true =>
      rw [hb] at h
      cases h
      have := Nat.eq_of_beq_eq_true hb
      subst this
      have h1 := hl.1
      rw [hj] at h1
      simp only at h1
      cases hg : getB H j with
      | none => rw [hg] at h1; exact h1.elim
      | some B => rw [hg] at h1; exact ⟨B, rfl, h1⟩

def notIn (i : Nat) : List Nat → Prop
  | [] => True
  | j :: r => Nat.beq i j = false ∧ notIn i r
def diff : List Nat → Prop
  | [] => True
  | j :: r => notIn j r ∧ diff r
theorem notIn_ne {i : Nat} : ∀ {l : List Nat}, notIn i l → ∀ {k j}, nthO l k = some j → i ≠ j
  | [], _, _, _, h => by simp [nthO] at h
  | x :: r, hn, 0, j, h => by simp only [nthO, Option.some.injEq] at h; subst h; intro e; subst e; simp [notIn] at hn
  | x :: r, hn, k + 1, j, h => notIn_ne hn.2 (by simpa [nthO] using h)
theorem diff_ne : ∀ {l : List Nat}, diff l → ∀ {i k a b}, nthO l i = some a → nthO l k = some b → i ≠ k → a ≠ b
  | [], _, _, _, _, _, h, _, _ => by simp [nthO] at h
  | x :: r, hd, 0, 0, a, b, h, k, hne => absurd rfl hne
  | x :: r, hd, 0, k + 1, a, b, h, hk, hne => by
    simp only [nthO, Option.some.injEq] at h
    subst h
    exact notIn_ne hd.1 (by simpa [nthO] using hk)
  | x :: r, hd, i + 1, 0, a, b, h, hk, hne => by
    simp only [nthO, Option.some.injEq] at hk
    subst hk
    exact (notIn_ne hd.1 (by simpa [nthO] using h)).symm
  | x :: r, hd, i + 1, k + 1, a, b, h, hk, hne => diff_ne hd.2 (by simpa [nthO] using h) (by simpa [nthO] using hk) (by omega)

theorem nthO_lt : ∀ {l : List Nat} {i j : Nat}, nthO l i = some j → i < l.length
  | [], _, _, h => by simp [nthO] at h
  | _ :: _, 0, _, _ => by simp
  | _ :: r, i + 1, j, h => by have := nthO_lt (l := r) (by simpa [nthO] using h); simp; omega
theorem nthO_get : ∀ {l : List Nat} {i : Nat}, i < l.length → ∃ j, nthO l i = some j
  | [], _, h => by simp at h
  | j :: _, 0, _ => ⟨j, rfl⟩
  | _ :: r, i + 1, h => by obtain ⟨j, hj⟩ := nthO_get (l := r) (i := i) (by simpa using h); exact ⟨j, by simpa [nthO] using hj⟩

theorem ren_some {l : List Nat} {i : Nat} {p : Place} (h : ren φ l i = some p) : ∃ j, nthO l i = some j ∧ φ j = some p := by
  unfold ren at h
  cases hl : nthO l i with
  | none => simp [hl] at h
  | some j => exact ⟨j, rfl, by simpa [hl] using h⟩

theorem HRel.ren {H H' : Heap} (h : HRel φ H w) {l : List Nat} (hd : diff l) (hn : H'.next = l.length) (hb : leBlks l H.blks H'.blks) : HRel (ren φ l) H' w where
  blk := fun i B p hB hp => by
    obtain ⟨j, hj, hp⟩ := ren_some hp
    obtain ⟨C, hC, hle⟩ := leBlks_get hb hB hj
    exact leB_rel hle (h.blk j C p hC hp)
  inj := fun i k B C p q hB hC hp hq hne hw => by
    obtain ⟨j, hj, hp⟩ := ren_some hp
    obtain ⟨m, hm, hq⟩ := ren_some hq
    obtain ⟨B', hB', hle⟩ := leBlks_get hb hB hj
    obtain ⟨C', hC', hle'⟩ := leBlks_get hb hC hm
    exact h.inj j m B' C' p q hB' hC' hp hq (diff_ne hd hj hm hne) (hle.2.2.1 hw)
  fresh := fun i hi => by
    unfold AM.ren
    cases hl : nthO l i with
    | none => rfl
    | some j => have := nthO_lt hl; omega
  lt := fun i p hp => by
    obtain ⟨j, hj, hp⟩ := ren_some hp
    exact h.lt j p hp

def slotsLe (l : List Nat) (s : List Slot) : List Slot → Prop
  | [] => True
  | ⟨n, [], v'⟩ :: r => (match v' with
    | .bot => True
    | v' => match slotAt s n with
      | some ⟨_, [], v⟩ => leV l v v'
      | _ => False) ∧ slotsLe l s r
  | ⟨_, _ :: _, _⟩ :: _ => False
theorem slotsLe_get {l : List Nat} {s : List Slot} : ∀ {s' : List Slot}, slotsLe l s s' → ∀ {n sl}, slotAt s' n = some sl → sl.n = n ∧ sl.path = [] ∧ (sl.v = .bot ∨ ∃ k v, slotAt s n = some ⟨k, [], v⟩ ∧ leV l v sl.v)
  | [], _, n, sl, h => by simp [slotAt] at h
  | ⟨k, [], v'⟩ :: r, hl, n, sl, h => by
    simp only [slotsLe] at hl
    by_cases hn : n = k
    · subst hn
      rw [slotAt_cons_self] at h
      cases h
      refine ⟨rfl, rfl, ?_⟩
      have h1 := hl.1
      cases v' with
      | bot => exact .inl rfl
      | _ =>
        refine .inr ?_
        simp only at h1
        split at h1
        · rename_i hs; exact ⟨_, _, hs, h1⟩
        · exact h1.elim
    · rw [slotAt_cons_ne hn] at h
      exact slotsLe_get hl.2 h
  | ⟨k, e :: p, v'⟩ :: r, hl, n, sl, h => hl.elim

def idTo (l : List Nat) (n : Nat) : Prop := ∀ i, i < n → nthO l i = some i

theorem LeS.intro {n : Nat} {s s' : St} (l : List Nat) (hi : idTo l n) (hd : diff l) (hn : s'.heap.next = l.length) (hs : slotsLe l s.tmps s'.tmps) (hb : leBlks l s.heap.blks s'.heap.blks) : LeS n s s' := by
  intro φ₀ H₀ w₀ N φ a w h0 hf0 hI
  have hlen : n ≤ l.length := by
    cases n with
    | zero => omega
    | succ m => have := nthO_lt (hi m (by omega)); omega
  have hsm : ∀ i, i < n → ren φ l i = φ i := fun i h => ren_of (hi i h)
  have hH := hI.heap.ren hd hn hb
  refine ⟨ren φ l, ⟨fun n sl hsl => ?_, hH, ?_, hI.defers, hI.size⟩⟩
  · obtain ⟨h1, h2, h3⟩ := slotsLe_get hs hsl
    obtain ⟨k, p, v⟩ := sl
    simp only at h1 h2 h3
    subst h1 h2
    refine ⟨rfl, fun _ => ?_, fun hc => absurd trivial hc, trivial, fun e he => by cases he⟩
    rcases h3 with h3 | ⟨k', v', hs', hle⟩
    · subst h3; trivial
    · exact leV_rel hle ((hI.sok k _ hs').on trivial)
  · have hf := hI.fr
    refine ⟨fun i p hp => ?_, fun i hi' => ?_, by omega, hf.size, hf.os, hf.tape, hf.output, hf.old, fun i B p hB hw hp => ?_⟩
    · by_cases hlt : i < n
      · rw [hsm i hlt]; exact hf.le i p hp
      · rw [hf0 i (by omega)] at hp; cases hp
    · rw [hsm i (by omega)]; exact hf.same i hi'
    · obtain ⟨j, hj, hp⟩ := ren_some hp
      obtain ⟨C, hC, hle⟩ := leBlks_get hb hB hj
      exact hf.own j C p hC (hle.2.2.1 hw) hp

end Go.AM

namespace Go.AM
set_option linter.unusedVariables false
set_option linter.unusedSimpArgs false
variable {P : Program} {φ : Emb} {w : World}

def gId : List Nat → Nat → Nat → Nat
  | [], n, 0 => n
  | [], n, i + 1 => n + (i + 1)
  | j :: _, _, 0 => j
  | _ :: r, n, i + 1 => gId r n i

def mapA (g : Nat → Nat) (a : AA) : AA := ⟨g a.id, a.idx, a.off, a.sub⟩
def mapAL (g : Nat → Nat) : List AA → List AA
  | [] => []
  | a :: r => mapA g a :: mapAL g r
def mapC (g : Nat → Nat) : CV → CV
  | .ptr a => .ptr (mapA g a)
  | .slice a i n => .slice (mapA g a) i n
  | .map i => .map (g i)
  | .fn f a b => .fn f (mapAL g a) (mapAL g b)
  | .bool b => .bool b
  | .int k n => .int k n
  | .str s => .str s
  | .nilp => .nilp
  | .nils => .nils
  | .nilm => .nilm
  | .nilfn => .nilfn
  | .nilif => .nilif
  | .iface t k n => .iface t k n
def mapSeg (g : Nat → Nat) : Seg → Seg
  | .c v => .c (mapC g v)
  | .a n f => .a n (fun i => mapC g (f i))
def mapSegs (g : Nat → Nat) : List Seg → List Seg
  | [] => []
  | s :: r => mapSeg g s :: mapSegs g r
def mapV1 (g : Nat → Nat) : AV → AV
  | .bot => .bot
  | .c v => .c (mapC g v)
  | .agg l => .agg (mapSegs g l)
  | .tup _ => .bot
def mapVL (g : Nat → Nat) : List AV → List AV
  | [] => []
  | v :: r => mapV1 g v :: mapVL g r
def mapV (g : Nat → Nat) : AV → AV
  | .bot => .bot
  | .c v => .c (mapC g v)
  | .agg l => .agg (mapSegs g l)
  | .tup l => .tup (mapVL g l)
def mapB (g : Nat → Nat) (B : Blk) : Blk := ⟨B.str, B.sz, fun i => mapSegs g (B.row i), B.elem, B.wr⟩

def GOk (g : Nat → Nat) (φ ψ : Emb) : Prop := ∀ i p, φ i = some p → ψ (g i) = some p

theorem mapA_rel {g : Nat → Nat} {ψ : Emb} (hg : GOk g φ ψ) {a : AA} {x : Value} (r : relP φ a x) : relP ψ (mapA g a) x := by
  obtain ⟨p, hp, rfl⟩ := r
  exact ⟨p, hg _ _ hp, rfl⟩
theorem mapAL_rel {g : Nat → Nat} {ψ : Emb} (hg : GOk g φ ψ) : ∀ {a : List AA} {xs : List Value}, F2 (relP φ) a xs → F2 (relP ψ) (mapAL g a) xs
  | [], _, .nil => .nil
  | _ :: _, _, .cons h1 h2 => .cons (mapA_rel hg h1) (mapAL_rel hg h2)
theorem mapC_rel {g : Nat → Nat} {ψ : Emb} (hg : GOk g φ ψ) {v : CV} {x : Value} (r : rel φ v x) : rel ψ (mapC g v) x := by
  cases v with
  | ptr a => exact mapA_rel hg r
  | slice a i n =>
    obtain ⟨r, cap, e, hl, k⟩ := r
    exact ⟨r, cap, e, hl, k.imp id fun ⟨p, hp, e, k⟩ => ⟨p, hg _ _ hp, e, k⟩⟩
  | map i => obtain ⟨p, hp, k⟩ := r; exact ⟨p, hg _ _ hp, k⟩
  | fn f a b =>
    obtain ⟨l', m, e, k1, k2⟩ := r
    exact ⟨l', m, e, mapAL_rel hg k1, mapAL_rel hg k2⟩
  | _ => exact r
theorem mapSeg_flat (g : Nat → Nat) (s : Seg) : (mapSeg g s).flat = s.flat.map (mapC g) := by
  cases s <;> simp [mapSeg, Seg.flat]
theorem mapSegs_flat (g : Nat → Nat) : ∀ l, flat (mapSegs g l) = (flat l).map (mapC g)
  | [] => rfl
  | s :: r => by simp [mapSegs, flat, mapSeg_flat, mapSegs_flat g r]
theorem mapSegs_rel {g : Nat → Nat} {ψ : Emb} (hg : GOk g φ ψ) {l : List Seg} {xs : List Value} (r : F2 (rel φ) (flat l) xs) : F2 (rel ψ) (flat (mapSegs g l)) xs := by
  rw [mapSegs_flat, F2_map]
  exact r.mono fun _ _ => mapC_rel hg
theorem mapV1_rel {g : Nat → Nat} {ψ : Emb} (hg : GOk g φ ψ) {v : AV} {x : Value} (r : rel1 φ v x) : rel1 ψ (mapV1 g v) x := by
  cases v with
  | bot => trivial
  | c v => exact mapC_rel hg r
  | agg l => obtain ⟨cs, e, k⟩ := r; exact ⟨cs, e, mapSegs_rel hg k⟩
  | tup => exact r.elim
theorem mapVL_rel {g : Nat → Nat} {ψ : Emb} (hg : GOk g φ ψ) : ∀ {v : List AV} {xs : List Value}, F2 (rel1 φ) v xs → F2 (rel1 ψ) (mapVL g v) xs
  | [], _, .nil => .nil
  | _ :: _, _, .cons h1 h2 => .cons (mapV1_rel hg h1) (mapVL_rel hg h2)
theorem mapV_rel {g : Nat → Nat} {ψ : Emb} (hg : GOk g φ ψ) {v : AV} {x : Value} (r : relA φ v x) : relA ψ (mapV g v) x := by
  cases v with
  | bot => trivial
  | c v => exact mapC_rel hg r
  | agg l => obtain ⟨cs, e, k⟩ := r; exact ⟨cs, e, mapSegs_rel hg k⟩
  | tup l => obtain ⟨xs, e, k⟩ := r; exact ⟨xs, e, mapVL_rel hg k⟩
theorem mapB_rel {g : Nat → Nat} {ψ : Emb} (hg : GOk g φ ψ) {B : Blk} {p : Place} (r : BRel φ B p w) : BRel ψ (mapB g B) p w :=
  ⟨r.str, fun i hi => let ⟨xs, k1, k2, k3⟩ := r.rows i hi; ⟨xs, mapSegs_rel hg k1, k2, k3⟩, fun h => r.own h⟩

def memN (i : Nat) : List Nat → Bool
  | [] => false
  | j :: r => match Nat.beq i j with | true => true | false => memN i r
theorem memN_iff {i : Nat} : ∀ {l : List Nat}, memN i l = true ↔ i ∈ l
  | [] => by simp [memN]
  | j :: r => by
    simp only [memN, List.mem_cons]
    cases hb : Nat.beq i j with
    | true => simp [Nat.eq_of_beq_eq_true hb]
    | false =>
      have : i ≠ j := fun e => by subst e; rw [Nat.beq_refl] at hb; cases hb
      simp [this, memN_iff (l := r)]

def keepB (l : List Nat) (H0 : List (Nat × Blk)) (i : Nat) (B : Blk) : Bool :=
  match B.wr with
  | false => false
  | true => match nthO l i with
    | none => true
    | some _ => match getB H0 i with
      | some C => C.wr
      | none => false
def newB (g : Nat → Nat) (l : List Nat) (H0 : List (Nat × Blk)) : List Nat → List (Nat × Blk) → List (Nat × Blk)
  | _, [] => []
  | seen, (i, B) :: r => match memN i seen with
    | true => newB g l H0 seen r
    | false => (match keepB l H0 i B with
      | true => (g i, mapB g B) :: newB g l H0 (i :: seen) r
      | false => newB g l H0 (i :: seen) r)
def goneB (l : List Nat) : List (Nat × Blk) → Nat → Bool
  | [], _ => false
  | (i, C) :: r, k => match C.wr with
    | false => goneB l r k
    | true => match nthO l i with
      | some j => (match Nat.beq j k with | true => true | false => goneB l r k)
      | none => goneB l r k
def dropB (l : List Nat) (H0 : List (Nat × Blk)) : List (Nat × Blk) → List (Nat × Blk)
  | [] => []
  | (k, B) :: r => match goneB l H0 k with
    | true => dropB l H0 r
    | false => (k, B) :: dropB l H0 r
def appB : List (Nat × Blk) → List (Nat × Blk) → List (Nat × Blk)
  | [], b => b
  | x :: a, b => x :: appB a b
def framed (H0 H : Heap) (l : List Nat) (H0' : Heap) : Heap :=
  ⟨gId l H.next H0'.next, appB (newB (gId l H.next) l H0.blks [] H0'.blks) (dropB l H0.blks H.blks)⟩

theorem newB_get {g : Nat → Nat} {l : List Nat} {H0 : List (Nat × Blk)} : ∀ {L : List (Nat × Blk)} {seen : List Nat} {k : Nat} {B' : Blk}, getB (newB g l H0 seen L) k = some B' → ∃ i B, i ∉ seen ∧ getB L i = some B ∧ k = g i ∧ B' = mapB g B ∧ keepB l H0 i B = true
  | [], _, _, _, h => by simp [newB, getB] at h
  | (i, B) :: r, seen, k, B', h => by
    simp only [newB] at h
    cases hm : memN i seen with
    | true =>
      rw [hm] at h
      obtain ⟨i', C, h1, h2, h3⟩ := newB_get h
      have : i' ≠ i := fun e => h1 (by rw [e]; exact memN_iff.1 hm)
      exact ⟨i', C, h1, by rw [getB_cons_ne this]; exact h2, h3⟩
    | false =>
      have hns : i ∉ seen := fun e => by rw [memN_iff.2 e] at hm; cases hm
      rw [hm] at h
      simp only at h
      have hrec : getB (newB g l H0 (i :: seen) r) k = some B' → ∃ i' C, i' ∉ seen ∧ getB ((i, B) :: r) i' = some C ∧ k = g i' ∧ B' = mapB g C ∧ keepB l H0 i' C = true := fun h => by
        obtain ⟨i', C, h1, h2, h3⟩ := newB_get h
        simp only [List.mem_cons, not_or] at h1
        exact ⟨i', C, h1.2, by rw [getB_cons_ne h1.1]; exact h2, h3⟩
      cases hk : keepB l H0 i B with
      | false => rw [hk] at h; exact hrec h
      | true =>
        rw [hk] at h
        simp only at h
        by_cases hki : k = g i
        · subst hki
          rw [getB_cons_self] at h
          cases h
          exact ⟨i, B, hns, getB_cons_self _ _ _, rfl, rfl, hk⟩
        · rw [getB_cons_ne hki] at h
          exact hrec h

theorem dropB_get {l : List Nat} {H0 : List (Nat × Blk)} : ∀ {L : List (Nat × Blk)} {k : Nat} {B : Blk}, getB (dropB l H0 L) k = some B → getB L k = some B ∧ goneB l H0 k = false
  | [], _, _, h => by simp [dropB, getB] at h
  | (j, C) :: r, k, B, h => by
    simp only [dropB] at h
    cases hg : goneB l H0 j with
    | true =>
      rw [hg] at h
      obtain ⟨h1, h2⟩ := dropB_get h
      have : k ≠ j := fun e => by rw [e, hg] at h2; cases h2
      exact ⟨by rw [getB_cons_ne this]; exact h1, h2⟩
    | false =>
      rw [hg] at h
      simp only at h
      by_cases hk : k = j
      · subst hk
        rw [getB_cons_self] at h ⊢
        exact ⟨h, hg⟩
      · rw [getB_cons_ne hk] at h ⊢
        exact dropB_get h

theorem goneB_no {l : List Nat} : ∀ {H0 : List (Nat × Blk)} {k : Nat}, goneB l H0 k = false → ∀ {i C j}, getB H0 i = some C → C.wr = true → nthO l i = some j → j ≠ k
  | [], _, _, _, _, _, h, _, _ => by simp [getB] at h
  | (m, D) :: r, k, hg, i, C, j, h, hw, hj => by
    by_cases hi : i = m
    · subst hi
      rw [getB_cons_self] at h
      cases h
      simp only [goneB, hw, hj] at hg
      intro e
      subst e
      rw [Nat.beq_refl] at hg
      cases hg
    · rw [getB_cons_ne hi] at h
      refine goneB_no (l := l) (H0 := r) ?_ h hw hj
      simp only [goneB] at hg
      split at hg
      · exact hg
      · split at hg
        · split at hg
          · cases hg
          · exact hg
        · exact hg

theorem getB_appB {a b : List (Nat × Blk)} {k : Nat} {B : Blk} (h : getB (appB a b) k = some B) : getB a k = some B ∨ (getB a k = none ∧ getB b k = some B) := by
  induction a with
  | nil => exact .inr ⟨rfl, h⟩
  | cons x r ih =>
    obtain ⟨i, C⟩ := x
    simp only [appB] at h
    by_cases hk : k = i
    · subst hk; rw [getB_cons_self] at h ⊢; exact .inl h
    · rw [getB_cons_ne hk] at h ⊢; exact ih h

def leArgs (l : List Nat) : List AV → List AV → Prop
  | [], [] => True
  | v :: r, v' :: r' => leV l v v' ∧ leArgs l r r'
  | _, _ => False
theorem leArgs_rel {l : List Nat} : ∀ {v v' : List AV} (h : leArgs l v v') {xs : List Value} (r : F2 (relA φ) v xs), F2 (relA (ren φ l)) v' xs
  | [], [], _, _, .nil => .nil
  | _ :: _, _ :: _, h, _, .cons h1 h2 => .cons (leV_rel h.1 h1) (leArgs_rel h.2 h2)

def allLt (l : List Nat) (n : Nat) : Prop := match l with
  | [] => True
  | j :: r => j < n ∧ allLt r n
theorem allLt_get : ∀ {l : List Nat} {n : Nat}, allLt l n → ∀ {i j}, nthO l i = some j → j < n
  | [], _, _, _, _, h => by simp [nthO] at h
  | _ :: _, _, h, 0, _, hj => by simp only [nthO, Option.some.injEq] at hj; subst hj; exact h.1
  | _ :: r, _, h, i + 1, _, hj => allLt_get h.2 (by simpa [nthO] using hj)
def keysLt (l : List (Nat × Blk)) (n : Nat) : Prop := match l with
  | [] => True
  | (j, _) :: r => j < n ∧ keysLt r n
theorem keysLt_get : ∀ {l : List (Nat × Blk)} {n : Nat}, keysLt l n → ∀ {i B}, getB l i = some B → i < n
  | [], _, _, _, _, h => by simp [getB] at h
  | (j, C) :: r, n, h, i, B, hB => by
    by_cases hi : i = j
    · subst hi; exact h.1
    · rw [getB_cons_ne hi] at hB; exact keysLt_get h.2 hB

theorem gId_lo {n : Nat} : ∀ {l : List Nat} {i j : Nat}, nthO l i = some j → gId l n i = j
  | [], _, _, h => by simp [nthO] at h
  | _ :: _, 0, _, h => by simp only [nthO, Option.some.injEq] at h; subst h; rfl
  | _ :: r, i + 1, j, h => by simp only [gId]; exact gId_lo (by simpa [nthO] using h)
theorem gId_hi {n : Nat} : ∀ {l : List Nat} {i : Nat}, l.length ≤ i → gId l n i = n + (i - l.length)
  | [], 0, _ => rfl
  | [], i + 1, _ => rfl
  | _ :: r, 0, h => by simp at h
  | _ :: r, i + 1, h => by simp only [gId]; rw [gId_hi (by simpa using h)]; simp

set_option maxHeartbeats 1000000 in
theorem Con.frame {f : FuncId} {args0 args : List AV} {H0 H : Heap} {R0 : Post} (h : Con P f args0 H0 R0) (l : List Nat) (hl : H0.next = l.length) (hd : diff l) (hlt : allLt l H.next) (hkl : keysLt H.blks H.next) (hb : leBlks l H.blks H0.blks) (ha : leArgs l args args0) :
    Con P f args H (fun v H' => ∃ v0 H0', R0 v0 H0' ∧ v = mapV (gId l H.next) v0 ∧ H' = framed H0 H l H0') := by
  refine ⟨h.1, fun φ w xs hF hH => ?_⟩
  refine (h.2 (AM.ren φ l) w xs (leArgs_rel ha hF) (hH.ren hd hl hb)).mono fun e w' ⟨φ0', v0, x, H0', he, hR, hv, hh, hfr⟩ => ?_
  subst he
  let ψ : Emb := fun k => if k < H.next then φ k else φ0' (l.length + (k - H.next))
  have hnx := hfr.nx
  have hψlo : ∀ k, k < H.next → ψ k = φ k := fun k hk => if_pos hk
  have hψhi : ∀ k, ¬ k < H.next → ψ k = φ0' (l.length + (k - H.next)) := fun k hk => if_neg hk
  have hle : φ.le ψ := fun i p hp => by
    by_cases hi : i < H.next
    · rw [hψlo i hi]; exact hp
    · rw [hH.fresh i (by omega)] at hp; cases hp
  have hgl : ∀ i, ψ (gId l H.next i) = φ0' i := fun i => by
    by_cases hi : i < l.length
    · obtain ⟨j, hj⟩ := nthO_get hi
      rw [gId_lo hj, hψlo j (allLt_get hlt hj), hfr.same i (by omega), ren_of hj]
    · rw [gId_hi (by omega), hψhi _ (by omega), show l.length + (H.next + (i - l.length) - H.next) = i by omega]
  have hg : GOk (gId l H.next) φ0' ψ := fun i p hp => by rw [hgl]; exact hp
  have hw0 : ∀ i C q, getB H0.blks i = some C → C.wr = true → AM.ren φ l i = some q → ∃ j D, nthO l i = some j ∧ φ j = some q ∧ getB H.blks j = some D ∧ D.wr = true := fun i C q hC hw hq => by
    obtain ⟨j, hj, hq⟩ := ren_some hq
    obtain ⟨D, hD, hle⟩ := leBlks_get hb hC hj
    exact ⟨j, D, hj, hq, hD, hle.2.2.1 hw⟩
  have hold : ∀ k B p, getB H.blks k = some B → goneB l H0.blks k = false → φ k = some p → w'.heap[p.blk]? = w.heap[p.blk]? := fun k B p hB hgn hp => by
    refine hfr.old _ (hH.lt k p hp) fun i C q hC hw hq => ?_
    obtain ⟨j, D, hj, hq, hD, hDw⟩ := hw0 i C q hC hw hq
    exact hH.inj j k D B q p hD hB hq hp (goneB_no hgn hC hw hj) hDw
  have hcase : ∀ k B p, getB (framed H0 H l H0').blks k = some B → ψ k = some p → (∃ i B0, getB H0'.blks i = some B0 ∧ φ0' i = some p ∧ k = gId l H.next i ∧ B = mapB (gId l H.next) B0 ∧ B0.wr = true) ∨ (getB H.blks k = some B ∧ goneB l H0.blks k = false ∧ φ k = some p) := fun k B p hB hp => by
    rcases getB_appB hB with hB | ⟨_, hB⟩
    · obtain ⟨i, B0, _, h2, h3, h4, h5⟩ := newB_get hB
      refine .inl ⟨i, B0, h2, by rw [← hgl, ← h3]; exact hp, h3, h4, ?_⟩
      unfold keepB at h5
      cases hw : B0.wr with
      | true => rfl
      | false => rw [hw] at h5; cases h5
    · obtain ⟨h1, h2⟩ := dropB_get hB
      exact .inr ⟨h1, h2, by rw [← hψlo k (keysLt_get hkl h1)]; exact hp⟩
  have hapart : ∀ i B0 p k C q, getB H0'.blks i = some B0 → φ0' i = some p → B0.wr = true → getB H.blks k = some C → goneB l H0.blks k = false → φ k = some q → p.blk ≠ q.blk := fun i B0 p k C q h1 h2 h3 g1 g2 g3 => by
    rcases hfr.own i B0 p h1 h3 h2 with hw | ⟨j, D, r, k1, k2, k3, k4⟩
    · have := hH.lt k q g3; omega
    · obtain ⟨m, E, hm, hr, hE, hEw⟩ := hw0 j D r k1 k2 k3
      rw [← k4]
      exact hH.inj m k E C r q hE g1 hr g3 (goneB_no g2 k1 k2 hm) hEw
  have hnext : (framed H0 H l H0').next = H.next + (H0'.next - l.length) := by
    simp only [framed]
    exact gId_hi (by omega)
  refine ⟨ψ, mapV (gId l H.next) v0, x, framed H0 H l H0', rfl, ⟨v0, H0', hR, rfl, rfl⟩, mapV_rel hg hv, ⟨fun k B p hB hp => ?_, fun k m B C p q hB hC hp hq hne hw => ?_, fun k hk => ?_, fun k p hp => ?_⟩, ⟨hle, fun i hi => hψlo i hi, by omega, hfr.size, hfr.os, hfr.tape, hfr.output, fun b hb' hno => ?_, fun k B p hB hw hp => ?_⟩⟩
  · rcases hcase k B p hB hp with ⟨i, B0, h1, h2, h3, rfl, h5⟩ | ⟨h1, h2, h3⟩
    · exact mapB_rel hg (hh.blk i B0 p h1 h2)
    · have hbk := hH.blk k B p h1 h3
      have ho := hold k B p h1 h2 h3
      refine ⟨hbk.str, fun i hi => ?_, fun hw => ?_⟩
      · obtain ⟨xs, k1, k2, k3⟩ := hbk.rows i hi
        refine ⟨xs, k1.mono fun _ _ => rel_mono hle, k2, fun j x hx => ?_⟩
        have := k3 j x hx
        unfold World.cell? at this ⊢
        rw [ho]
        exact this
      · obtain ⟨e1, e2, e3, cs, e4, e5⟩ := hbk.own hw
        exact ⟨e1, e2, e3, cs, by rw [ho]; exact e4, e5⟩
  · rcases hcase k B p hB hp with ⟨i, B0, h1, h2, h3, _, h5⟩ | ⟨h1, h2, h3⟩ <;> rcases hcase m C q hC hq with ⟨i', B0', g1, g2, g3, _, g5⟩ | ⟨g1, g2, g3⟩
    · exact hh.inj i i' B0 B0' p q h1 g1 h2 g2 (fun e => hne (by rw [h3, g3, e])) h5
    · exact hapart i B0 p m C q h1 h2 h5 g1 g2 g3
    · exact (hapart i' B0' q k B p g1 g2 g5 h1 h2 h3).symm
    · exact hH.inj k m B C p q h1 g1 h3 g3 hne hw
  · rw [hnext] at hk
    rw [hψhi k (by omega)]
    exact hh.fresh _ (by omega)
  · by_cases hk : k < H.next
    · rw [hψlo k hk] at hp
      exact Nat.lt_of_lt_of_le (hH.lt k p hp) hfr.size
    · rw [hψhi k hk] at hp
      exact hh.lt _ p hp
  · refine hfr.old b hb' fun i C q hC hw hq => ?_
    obtain ⟨j, D, _, hq, hD, hDw⟩ := hw0 i C q hC hw hq
    exact hno j D q hD hDw hq
  · rcases hcase k B p hB hp with ⟨i, B0, h1, h2, h3, _, h5⟩ | ⟨h1, h2, h3⟩
    · rcases hfr.own i B0 p h1 h5 h2 with hw' | ⟨j, D, r, k1, k2, k3, k4⟩
      · exact .inl hw'
      · obtain ⟨m, E, _, hr, hE, hEw⟩ := hw0 j D r k1 k2 k3
        exact .inr ⟨m, E, r, hE, hEw, hr, k4⟩
    · exact .inr ⟨k, B, p, h1, hw, h3, rfl⟩

theorem Con.weaken {f : FuncId} {args : List AV} {H : Heap} {R R' : Post} (h : Con P f args H R) (hR : ∀ v H', R v H' → R' v H') : Con P f args H R' :=
  ⟨h.1, fun φ w xs hF hH => (h.2 φ w xs hF hH).mono fun e w' ⟨φ', v, x, H', he, hr, k⟩ => ⟨φ', v, x, H', he, hR v H' hr, k⟩⟩

end Go.AM

namespace Go.AM
set_option linter.unusedVariables false
set_option linter.unusedSimpArgs false
variable {P : Program} {Con' : ConT} {Le : LeT}

def runA (Con : ConT) (Le : LeT) : List ACode → St → (AEx → St → Prop) → Prop
  | [], s, Q => Q .normal s
  | a :: k, s, Q => awp Con Le a s fun e s' => match e with
    | .normal => runA Con Le k s' Q
    | .exit id => Q (.exit id) s'
    | .ret => Q .ret s'

theorem run_start {a : ACode} {s : St} {Q : AEx → St → Prop} (h : runA Con' Le [a] s Q) : awp Con' Le a s Q := by
  have e : Q = fun e s' => match e with
    | .normal => runA Con' Le [] s' Q
    | .exit id => Q (.exit id) s'
    | .ret => Q .ret s' := by
    funext e s'; cases e <;> simp [runA]
  rw [e]
  simpa only [runA] using h
theorem run_nil {s : St} {Q : AEx → St → Prop} (h : Q .normal s) : runA Con' Le [] s Q := by simpa only [runA] using h
theorem run_seq {a b : ACode} {k : List ACode} {s : St} {Q : AEx → St → Prop} (h : runA Con' Le (a :: b :: k) s Q) : runA Con' Le (.seq a b :: k) s Q := by
  simp only [runA, awp] at h ⊢
  have e : (fun (e : AEx) (s' : St) => (match e with
      | .normal => awp Con' Le b s' fun e s' => match e with
        | .normal => runA Con' Le k s' Q
        | .exit id => Q (.exit id) s'
        | .ret => Q .ret s'
      | .exit id => Q (.exit id) s'
      | .ret => Q .ret s' : Prop)) = fun (e : AEx) (s' : St) => match e with
      | .normal => awp Con' Le b s' fun e s' => match e with
        | .normal => runA Con' Le k s' Q
        | .exit id => Q (.exit id) s'
        | .ret => Q .ret s'
      | .exit id => (match AEx.exit id with
        | .normal => runA Con' Le k s' Q
        | .exit id => Q (.exit id) s'
        | .ret => Q .ret s')
      | .ret => (match AEx.ret with
        | .normal => runA Con' Le k s' Q
        | .exit id => Q (.exit id) s'
        | .ret => Q .ret s') := by
    funext e s'; cases e <;> rfl
  exact e ▸ h
theorem run_skip {k : List ACode} {s : St} {Q : AEx → St → Prop} (h : runA Con' Le k s Q) : runA Con' Le (.skip :: k) s Q := by simpa only [runA, awp] using h
theorem run_ret {k : List ACode} {s : St} {Q : AEx → St → Prop} (h : Q .ret s) : runA Con' Le (.ret :: k) s Q := by simpa only [runA, awp] using h
theorem run_exit {i : Nat} {k : List ACode} {s : St} {Q : AEx → St → Prop} (h : Q (.exit i) s) : runA Con' Le (.exit i :: k) s Q := by simpa only [runA, awp] using h
theorem LeS.refl (n : Nat) (s : St) : LeS n s s := fun φ₀ H₀ w₀ N φ a w _ _ h => ⟨φ, h⟩
theorem run_regionL {ops : List AOper} {k : List ACode} {s : St} {Q : AEx → St → Prop} (h : ∀ K : St → Prop, (∀ s' s'', Le s' s'' → runA Con' Le k s'' Q → K s') → rwp Con' ops s fun s' => K ⟨shed s'.tmps, s'.heap⟩) : runA Con' Le (.region ops :: k) s Q := by
  simp only [runA, awp]
  exact h (fun s' => ∃ s'', Le s' s'' ∧ runA Con' Le k s'' Q) fun _ s'' hl h => ⟨s'', hl, h⟩
theorem run_region {m : Nat} {ops : List AOper} {k : List ACode} {s : St} {Q : AEx → St → Prop} (h : ∀ K : St → Prop, (∀ s', runA Con' (LeS m) k s' Q → K s') → rwp Con' ops s fun s' => K ⟨shed s'.tmps, s'.heap⟩) : runA Con' (LeS m) (.region ops :: k) s Q :=
  run_regionL fun K hK => h K fun s' => hK s' s' (LeS.refl m s')
theorem run_cond {c : Opd} {v : Bool} {t e : ACode} {k : List ACode} {s : St} {Q : AEx → St → Prop} (hc : s.get [] c = .c (.bool v)) (h1 : v = true → runA Con' Le (t :: k) s Q) (h2 : v = false → runA Con' Le (e :: k) s Q) : runA Con' Le (.cond c t e :: k) s Q := by
  simp only [runA, awp, hc] at h1 h2 ⊢
  cases v with
  | true => exact h1 rfl
  | false => exact h2 rfl
def blkQ (Con : ConT) (Le : LeT) (id : Nat) (k : List ACode) (Q : AEx → St → Prop) : AEx → St → Prop := fun e s => match e with
  | .normal => runA Con Le k s Q
  | .exit j => (match Nat.beq j id with | true => runA Con Le k s Q | false => Q (.exit j) s)
  | .ret => Q .ret s
theorem run_block {id : Nat} {a : ACode} {k : List ACode} {s : St} {Q : AEx → St → Prop} (h : runA Con' Le [a] s (blkQ Con' Le id k Q)) : runA Con' Le (.block id a :: k) s Q := by
  have h := run_start' h
  simp only [runA, awp]
  refine (congrArg (awp Con' Le a s) ?_).mp h
  funext e s'
  cases e with
  | normal => rfl
  | ret => rfl
  | exit j => simp only [blkQ]; cases Nat.beq j id <;> rfl
where run_start' {a : ACode} {s : St} {Q : AEx → St → Prop} (h : runA Con' Le [a] s Q) : awp Con' Le a s Q := run_start h
theorem blk_normal {id : Nat} {k : List ACode} {s : St} {Q : AEx → St → Prop} (h : runA Con' Le k s Q) : blkQ Con' Le id k Q .normal s := h
theorem blk_ret {id : Nat} {k : List ACode} {s : St} {Q : AEx → St → Prop} (h : Q .ret s) : blkQ Con' Le id k Q .ret s := h
theorem blk_here {id : Nat} {k : List ACode} {s : St} {Q : AEx → St → Prop} (h : runA Con' Le k s Q) : blkQ Con' Le id k Q (.exit id) s := by
  unfold blkQ
  simp only [Nat.beq_refl]
  exact h
theorem blk_there {id j : Nat} {k : List ACode} {s : St} {Q : AEx → St → Prop} (hj : Nat.beq j id = false) (h : Q (.exit j) s) : blkQ Con' Le id k Q (.exit j) s := by
  unfold blkQ
  simp only [hj]
  exact h
def loopQ (Le : LeT) (I : Nat → St → Prop) (n : Nat) (Q : AEx → St → Prop) : AEx → St → Prop := fun e s => match e with
  | .normal => ∃ n' s'', n' < n ∧ Le s s'' ∧ I n' s''
  | .exit id => Q (.exit id) s
  | .ret => Q .ret s
theorem run_loop {a : ACode} {k : List ACode} {s : St} {Q : AEx → St → Prop} (I : Nat → St → Prop) (n : Nat) (h0 : I n s) (h : ∀ n s, I n s → runA Con' Le [a] s (loopQ Le I n Q)) : runA Con' Le (.loop a :: k) s Q := by
  simp only [runA, awp]
  refine ⟨I, n, h0, fun n s hI => ?_⟩
  refine (congrArg (awp Con' Le a s) ?_).mp (run_start (h n s hI))
  funext e s'
  cases e <;> rfl
theorem loop_normal {I : Nat → St → Prop} {n : Nat} {Q : AEx → St → Prop} {s : St} (n' : Nat) (s'' : St) (hn : n' < n) (hle : Le s s'') (hI : I n' s'') : loopQ Le I n Q .normal s := ⟨n', s'', hn, hle, hI⟩
theorem loop_exit {I : Nat → St → Prop} {n id : Nat} {Q : AEx → St → Prop} {s : St} (h : Q (.exit id) s) : loopQ Le I n Q (.exit id) s := h
theorem loop_ret {I : Nat → St → Prop} {n : Nat} {Q : AEx → St → Prop} {s : St} (h : Q .ret s) : loopQ Le I n Q .ret s := h

theorem end_of {rs : List ARes} {R : Post} {s : St} (s' : St) (hle : Le s s') (h : endF rs R s') : endQ Le rs R .ret s := (endQ_of (e := .ret) nofun).2 ⟨s', hle, h⟩
theorem call_t {f : FuncId} {args : List AV} {s : St} {dst : Option Nat} {k : St → (St → Prop) → Prop} {Q : St → Prop} (R : Post) (h : Con' f args s.heap R) (hk : ∀ v H, R v H → k (St.put ⟨s.tmps, H⟩ dst [] v) Q) : callW Con' f args s [] dst true k Q := ⟨R, h, hk⟩
theorem call_n {f : FuncId} {args : List AV} {s : St} {π : Path} {dst : Option Nat} {k : St → (St → Prop) → Prop} {Q : St → Prop} (v : AV) (N : List Blk) (hN : allW N = true) (h : imp π (Con' f args (roH s.heap) fun v' H' => v' = v ∧ H' = addBs (roH s.heap) N)) (hk : k (St.put ⟨s.tmps, addBs s.heap N⟩ dst π v) Q) : callW Con' f args s π dst false k Q := by
  cases π <;> exact ⟨v, N, hN, h, hk⟩
theorem call_q {f : FuncId} {args : List AV} {s : St} {π : Path} {dst : Option Nat} {k : St → (St → Prop) → Prop} {Q : St → Prop} (v : AV) (h : imp π (Con' f args (roH s.heap) fun v' H' => v' = v ∧ H' = roH s.heap)) (hk : k (St.put s dst π v) Q) : callW Con' f args s π dst false k Q :=
  call_n v [] rfl h hk
theorem call_g {f : FuncId} {args : List AV} {s : St} {e : Nat × Bool × Bool} {π : Path} {dst : Option Nat} {tl : Bool} {k : St → (St → Prop) → Prop} {Q : St → Prop} (v : AV) (h : imp (e :: π) (Con' f args (roH s.heap) fun v' H' => v' = v ∧ H' = roH s.heap)) (hk : k (St.put s dst (e :: π) v) Q) : callW Con' f args s (e :: π) dst tl k Q := by
  cases tl
  · exact ⟨v, [], rfl, h, hk⟩
  · exact .inl ⟨v, [], rfl, h, hk⟩
theorem Con.pure {f : FuncId} {args : List AV} {X : AV} (h : Con P f args ⟨0, []⟩ fun v H' => v = X ∧ H' = ⟨0, []⟩) (ha : leArgs [] args args) (hX : mapV (fun i => i) X = X) (H : Heap) : Con P f args H fun v H' => v = X ∧ H' = H := by
  refine ⟨h.1, fun φ w xs hF hH => ?_⟩
  have h0 : HRel (ren φ []) ⟨0, []⟩ w := ⟨fun i B p hB => by simp [getB] at hB, fun i j B C p q hB => by simp [getB] at hB, fun i _ => rfl, fun i p hp => by simp [ren, nthO] at hp⟩
  refine (h.2 (ren φ []) w xs (leArgs_rel ha hF) h0).mono fun e w' ⟨φ0', v0, x, H0', he, ⟨hv0, hH0⟩, hv, hh, hfr⟩ => ?_
  subst hv0; subst hH0; subst he
  have hold : ∀ b, b < w.heap.size → w'.heap[b]? = w.heap[b]? := fun b hb => hfr.old b hb fun i B p hB => by simp [getB] at hB
  obtain ⟨g1, g2⟩ := hH.grown hfr.os hfr.tape hfr.output hfr.size hold (K := H) (Nat.le_refl _) (fun _ _ h _ => h)
  refine ⟨φ, v0, x, H, rfl, ⟨rfl, rfl⟩, ?_, g1, g2⟩
  rw [← hX]
  exact mapV_rel (fun i p hp => by rw [hh.fresh i (Nat.zero_le _)] at hp; cases hp) hv

def rwpK (Con : ConT) (r : List AOper) (s : St) (Q : St → Prop) : Prop := rwp Con r s Q
theorem rwpK_app {r : List AOper} {s : St} {Q : St → Prop} : rwpK Con' r s Q = rwp Con' r s Q := rfl
theorem rwp_nil {s : St} {Q : St → Prop} : rwp Con' [] s Q = Q s := rfl
theorem rwp_cons {o : AOper} {r : List AOper} {s : St} {Q : St → Prop} : rwp Con' (o :: r) s Q = (match gpath s o.guard with
    | none => False
    | some π => match aop s π o.op with
      | .p none v B => rwp Con' r (St.put ⟨s.tmps, addBlk s.heap B⟩ o.dst π v) Q
      | .p (some p) v B => imp π p ∧ rwp Con' r (St.put ⟨s.tmps, addBlk s.heap B⟩ o.dst π v) Q
      | .t none v H => (match o.tl, π, exOk s o with
        | true, [], true => rwp Con' r (St.put ⟨s.tmps, H⟩ o.dst [] v) Q
        | _, _, _ => False)
      | .t (some p) v H => (match o.tl, π, exOk s o with
        | true, [], true => p ∧ rwp Con' r (St.put ⟨s.tmps, H⟩ o.dst [] v) Q
        | _, _, _ => False)
      | .call f args => callW Con' f args s π o.dst o.tl (rwpK Con' r) Q
      | .bad => False) := rfl
theorem slotsOf {l : List Nat} {tmps : List Slot} {t : Nat} {v : AV} (hv : slotAt tmps t = some ⟨t, [], v⟩) (hid : leV l v v) {r : List Slot} (h : slotsLe l tmps r) : slotsLe l tmps (⟨t, [], v⟩ :: r) := by
  cases v with
  | bot => exact ⟨trivial, h⟩
  | _ => simp only [slotsLe, hv]; exact ⟨hid, h⟩
theorem end_tmp1 {t : Nat} {v : AV} {R : Post} {tmps : List Slot} {H : Heap} (hv : slotAt tmps t = some ⟨t, [], v⟩) (hid : leV [] v v) (hn : noTup v = true) (hR : R v ⟨0, []⟩) : endQ (LeS 0) [.tmp t] R .ret ⟨tmps, H⟩ := by
  refine end_of ⟨[⟨t, [], v⟩], ⟨0, []⟩⟩ (LeS.intro [] (fun i h => absurd h (Nat.not_lt_zero i)) trivial rfl (slotsOf hv hid trivial) trivial) ?_
  have hg : St.get ⟨[⟨t, [], v⟩], ⟨0, []⟩⟩ [] (.t t) = v := by simp [St.get, slotAt, Nat.beq_refl, sfx, eqP]
  simp only [endF, resL, resA, hg, hn, resV]
  exact hR
theorem end_tmp2 {t u : Nat} {v x : AV} {R : Post} {tmps : List Slot} {H : Heap} (hne : Nat.beq t u = false) (hv : slotAt tmps t = some ⟨t, [], v⟩) (hx : slotAt tmps u = some ⟨u, [], x⟩) (hid : leV [] v v) (hidx : leV [] x x) (hn : noTup v = true) (hnx : noTup x = true) (hR : R (.tup [v, x]) ⟨0, []⟩) : endQ (LeS 0) [.tmp t, .tmp u] R .ret ⟨tmps, H⟩ := by
  refine end_of ⟨[⟨t, [], v⟩, ⟨u, [], x⟩], ⟨0, []⟩⟩ (LeS.intro [] (fun i h => absurd h (Nat.not_lt_zero i)) trivial rfl (slotsOf hv hid (slotsOf hx hidx trivial)) trivial) ?_
  have hg : St.get ⟨[⟨t, [], v⟩, ⟨u, [], x⟩], ⟨0, []⟩⟩ [] (.t t) = v := by simp [St.get, slotAt, Nat.beq_refl, sfx, eqP]
  have hg2 : St.get ⟨[⟨t, [], v⟩, ⟨u, [], x⟩], ⟨0, []⟩⟩ [] (.t u) = x := by simp [St.get, slotAt, Nat.beq_refl, sfx, eqP, hne]
  simp only [endF, resL, resA, hg, hg2, hn, hnx, resV]
  exact hR

attribute [irreducible] runA blkQ loopQ

end Go.AM

namespace Go.AM
set_option linter.unusedVariables false
set_option linter.unusedSimpArgs false
variable {P : Program} {φ : Emb} {w : World}

theorem Con.forget {f : FuncId} {args : List AV} {H : Heap} {R R' : Post} (h : Con P f args H R)
    (hR : ∀ v H', R v H' → ∃ v' H'' l, idTo l H.next ∧ diff l ∧ H''.next = l.length ∧ leBlks l H'.blks H''.blks ∧ leV l v v' ∧ R' v' H'') : Con P f args H R' := by
  refine ⟨h.1, fun φ w xs hF hH => (h.2 φ w xs hF hH).mono fun e w' ⟨φ', v, x, H', he, hr, hv, hh, hf⟩ => ?_⟩
  obtain ⟨v', H'', l, hi, hd, hn, hb, hl, hr'⟩ := hR v H' hr
  have hlen : H.next ≤ l.length := by
    cases hx : H.next with
    | zero => omega
    | succ m => have := nthO_lt (hi m (by omega)); omega
  have hsm : ∀ i, i < H.next → ren φ' l i = φ' i := fun i h => ren_of (hi i h)
  refine ⟨ren φ' l, v', x, H'', he, hr', leV_rel hl hv, hh.ren hd hn hb, fun i p hp => ?_, fun i hi' => ?_, by omega, hf.size, hf.os, hf.tape, hf.output, hf.old, fun i B p hB hw hp => ?_⟩
  · by_cases hlt : i < H.next
    · rw [hsm i hlt]; exact hf.le i p hp
    · rw [hH.fresh i (by omega)] at hp; cases hp
  · rw [hsm i hi']; exact hf.same i hi'
  · obtain ⟨j, hj, hp⟩ := ren_some hp
    obtain ⟨C, hC, hle⟩ := leBlks_get hb hB hj
    exact hf.own j C p hC (hle.2.2.1 hw) hp

theorem ite_int (p : Prop) [Decidable p] (k : IntKind) (a b : Int) : (if p then CV.int k a else CV.int k b) = CV.int k (if p then a else b) := by split <;> rfl
theorem ite_seg (p : Prop) [Decidable p] (a b : CV) : (if p then Seg.c a else Seg.c b) = Seg.c (if p then a else b) := by split <;> rfl
theorem ite_segs (p : Prop) [Decidable p] (a b : Seg) (l m : List Seg) : (if p then a :: l else b :: m) = (if p then a else b) :: (if p then l else m) := by split <;> rfl
theorem ite_nil (p : Prop) [Decidable p] : (if p then ([] : List Seg) else []) = [] := by split <;> rfl
theorem ite_twice {α : Type} (p : Prop) [Decidable p] (a b c : α) : (if p then a else if p then b else c) = (if p then a else c) := by split <;> rfl
theorem ite_bool (p : Prop) [Decidable p] (a b : Bool) : (if p then CV.bool a else CV.bool b) = CV.bool (if p then a else b) := by split <;> rfl

theorem con_of_run (hm : P.follows .mixedOrders = true) {f : FuncId} {fn : Func} (hf : P.funcs[f]? = some fn) (hname : (fn.name == "runtime.NumGoroutine") = false) {ac : ACode} (hc : stripF P fn = some ac) {rs : List ARes} (hrs : stripRes P fn.results.toList = some rs)
    {args : List AV} (hargs : args.length ≤ fn.ntmps) {H : Heap} {R : Post} (h : runA (Con P) (LeS H.next) [ac] ⟨initT args 0, H⟩ (endQ (LeS H.next) rs R)) : Con P f args H R :=
  con_of_awp hm hf hname hc hrs hargs (run_start h)

end Go.AM

namespace Go.AM
set_option linter.unusedVariables false
set_option linter.unusedSimpArgs false
variable {P : Program} {Con' : ConT} {Le : LeT}

def unQ (Con : ConT) (Le : LeT) (a : ACode) : Nat → (AEx → St → Prop) → AEx → St → Prop
  | 0, Q => fun e s => match e with
    | .normal => False
    | .exit id => Q (.exit id) s
    | .ret => Q .ret s
  | n + 1, Q => fun e s => match e with
    | .normal => runA Con Le [a] s (unQ Con Le a n Q)
    | .exit id => Q (.exit id) s
    | .ret => Q .ret s

theorem un_normal {a : ACode} {n : Nat} {Q : AEx → St → Prop} {s : St} (h : runA Con' Le [a] s (unQ Con' Le a n Q)) : unQ Con' Le a (n + 1) Q .normal s := h
theorem un_exit {a : ACode} {n i : Nat} {Q : AEx → St → Prop} {s : St} (h : Q (.exit i) s) : unQ Con' Le a n Q (.exit i) s := by cases n <;> exact h
theorem un_ret {a : ACode} {n : Nat} {Q : AEx → St → Prop} {s : St} (h : Q .ret s) : unQ Con' Le a n Q .ret s := by cases n <;> exact h
def unE (Q : AEx → St → Prop) : AEx → St → Prop := fun e s => match e with
  | .normal => False
  | .exit id => Q (.exit id) s
  | .ret => Q .ret s
theorem unE_exit {i : Nat} {Q : AEx → St → Prop} {s : St} (h : Q (.exit i) s) : unE Q (.exit i) s := h
theorem unE_ret {Q : AEx → St → Prop} {s : St} (h : Q .ret s) : unE Q .ret s := h
theorem imp_of {π : Path} {p : Prop} (h : p) : imp π p := by
  induction π with
  | nil => exact h
  | cons e r ih => intro _; exact ih
attribute [irreducible] unQ unE

end Go.AM

