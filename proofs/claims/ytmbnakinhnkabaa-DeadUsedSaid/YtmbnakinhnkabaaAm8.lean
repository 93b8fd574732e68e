/- AM: stores. -/
import Derived.Test.YtmbnakinhnkabaaAm7
namespace Go.AM
set_option linter.unusedVariables false
set_option linter.unusedSimpArgs false
variable {P : Program} {φ : Emb} {w : World}

theorem getB_setB_self {l : List (Nat × Blk)} {i : Nat} {B C : Blk} (h : getB l i = some B) : getB (setB l i C) i = some C := by
  induction l with
  | nil => simp [getB] at h
  | cons p r ih =>
    obtain ⟨j, D⟩ := p
    simp only [getB, setB] at h ⊢
    cases hb : Nat.beq j i with
    | true => simp [getB, hb]
    | false => simp only [hb] at h ⊢; simp only [getB, hb]; exact ih h
theorem getB_setB_ne {l : List (Nat × Blk)} {i j : Nat} {C : Blk} (h : j ≠ i) : getB (setB l i C) j = getB l j := by
  induction l with
  | nil => rfl
  | cons p r ih =>
    obtain ⟨k, D⟩ := p
    simp only [setB]
    cases hb : Nat.beq k i with
    | true =>
      have := Nat.eq_of_beq_eq_true hb
      subst this
      simp only [getB]
      have : Nat.beq k j = false := by
        cases hk : Nat.beq k j with
        | false => rfl
        | true => exact absurd (Nat.eq_of_beq_eq_true hk).symm h
      simp [this]
    | false => simp only [getB, ih]

/-- A block of ours is turned, all else stays. -/
theorem HRel.update {H : Heap} (h : HRel φ H w) {i : Nat} {B C : Blk} {p : Place} (hB : getB H.blks i = some B) (hw : B.wr = true) (hp : φ i = some p) (hC : C.wr = true) {w' : World}
    (hsz : w'.heap.size = w.heap.size) (ho : w'.os = w.os) (ht : w'.tape = w.tape) (hu : w'.output = w.output) (hother : ∀ b, b ≠ p.blk → w'.heap[b]? = w.heap[b]?) (hnew : BRel φ C p w') :
    HRel φ ⟨H.next, setB H.blks i C⟩ w' ∧ Fr φ H w φ ⟨H.next, setB H.blks i C⟩ w' := by
  have hcell : ∀ a : Addr, a.block ≠ p.blk → w'.cell? a = w.cell? a := fun a ha => by unfold World.cell?; rw [hother _ ha]
  have hget : ∀ j D, getB (setB H.blks i C) j = some D → j ≠ i → getB H.blks j = some D := fun j D hj hne => by rwa [getB_setB_ne hne] at hj
  refine ⟨⟨fun j D q hj hq => ?_, fun j k D E q r hj hk hq hr hne hDw => ?_, h.fresh, fun j q hq => by rw [hsz]; exact h.lt j q hq⟩, ?_⟩
  · by_cases hji : j = i
    · subst hji
      rw [getB_setB_self hB] at hj
      cases hj
      rw [hp] at hq
      cases hq
      exact hnew
    · have hj' := hget j D hj hji
      have hb := h.blk j D q hj' hq
      have hne : q.blk ≠ p.blk := fun e => h.inj i j B D p q hB hj' hp hq (Ne.symm hji) hw e.symm
      refine ⟨hb.str, fun i' hi' => ?_, fun hw' => ?_⟩
      · obtain ⟨xs, h1, h2, h3⟩ := hb.rows i' hi'
        exact ⟨xs, h1, h2, fun j' x hx => by rw [hcell _ hne]; exact h3 _ _ hx⟩
      · obtain ⟨e1, e2, e5, cs, e3, e4⟩ := hb.own hw'
        exact ⟨e1, e2, e5, cs, by rw [hother _ hne]; exact e3, e4⟩
  · by_cases hji : j = i
    · subst hji
      rw [hp] at hq
      cases hq
      have hk' := hget k E hk (Ne.symm hne)
      exact h.inj j k B E p r hB hk' hp hr hne hw
    · have hj' := hget j D hj hji
      by_cases hki : k = i
      · subst hki
        rw [hp] at hr
        cases hr
        exact h.inj j k D B q p hj' hB hq hp hne hDw
      · exact h.inj j k D E q r hj' (hget k E hk hki) hq hr hne hDw
  · refine ⟨φ.le_refl, fun _ _ => rfl, Nat.le_refl _, Nat.le_of_eq hsz.symm, ho, ht, hu, fun b hb hno => hother b fun e => hno i B p hB hw hp e.symm, fun j D q hj hDw hq => .inr ?_⟩
    by_cases hji : j = i
    · subst hji
      rw [hp] at hq
      cases hq
      exact ⟨j, B, p, hB, hw, hp, rfl⟩
    · exact ⟨j, D, q, hget j D hj hji, hDw, hq, rfl⟩

theorem splice_get {α : Type} (l vs : List α) (o k : Nat) (h : o + vs.length ≤ l.length) :
    (l.take o ++ vs ++ l.drop (o + vs.length))[k]? = if k < o then l[k]? else if k < o + vs.length then vs[k - o]? else l[k]? := by
  split
  · rename_i hk
    rw [List.append_assoc, List.getElem?_append_left (by simp; omega), List.getElem?_take_of_lt hk]
  · rename_i hk
    split
    · rename_i hk2
      rw [List.append_assoc, List.getElem?_append_right (by simp; omega)]
      simp only [List.length_take]
      rw [Nat.min_eq_left (by omega), List.getElem?_append_left (by omega)]
    · rename_i hk2
      rw [List.getElem?_append_right (by simp; omega), List.getElem?_drop]
      simp only [List.length_append, List.length_take]
      rw [Nat.min_eq_left (by omega)]
      congr 1
      omega

/-- Some cells of a row are written anew. -/
theorem store_row {H : Heap} (h : HRel φ H w) {i : Nat} {B : Blk} {p : Place} (hB : getB H.blks i = some B) (hw : B.wr = true) (hp : φ i = some p) {ix o : Nat} (hix : ix < B.n) {vs : List Value} {l' : List Seg}
    (hone : ∀ v ∈ vs, v.oneCell' = true) (hle : o + vs.length ≤ B.str)
    (hl : ∀ xs, F2 (rel φ) (flat (B.row ix)) xs → F2 (rel φ) (flat l') (xs.take o ++ vs ++ xs.drop (o + vs.length))) :
    ∃ w', (storeCells ⟨p.blk, p.base + p.str * ix + o, none⟩ vs).run P w = .ok () w' ∧ HRel φ ⟨H.next, setB H.blks i (setRow B ix l')⟩ w' ∧ Fr φ H w φ ⟨H.next, setB H.blks i (setRow B ix l')⟩ w' := by
  have hb := h.blk i B p hB hp
  obtain ⟨e1, e2, e5, cs, e3, e4⟩ := hb.own hw
  have hstr := hb.str
  have hrow : p.str * ix + B.str ≤ cs.size := by
    rw [e4, ← hstr, ← Nat.mul_succ]
    exact Nat.mul_le_mul_left _ (by omega)
  have hst := run_storeCells_at P p.blk (p.base + p.str * ix + o) B.elem vs 0 cs w e3 (by omega) hone
  refine ⟨_, hst, ?_⟩
  simp only [Nat.add_zero, e1, Nat.zero_add]
  let cs' : Array Value := (cs.toList.take (p.str * ix + o) ++ vs ++ cs.toList.drop (p.str * ix + o + vs.length)).toArray
  have hcs' : ∀ k, cs'[k]? = if k < p.str * ix + o then cs[k]? else if k < p.str * ix + o + vs.length then vs[k - (p.str * ix + o)]? else cs[k]? := fun k => by
    have := splice_get cs.toList vs (p.str * ix + o) k (by simp; omega)
    simpa [cs'] using this
  have hcsz : cs'.size = cs.size := by simp [cs']; omega
  have hheap : (w.setRow p.blk cs').heap[p.blk]? = some (.cells cs' B.elem (0, 0)) := setRow_heap w p.blk cs cs' B.elem (0, 0) e3
  have hcell : ∀ k, (w.setRow p.blk cs').cell? ⟨p.blk, k, none⟩ = cs'[k]? := fun k => by unfold World.cell?; rw [hheap]; simp
  have hcell0 : ∀ k, w.cell? ⟨p.blk, k, none⟩ = cs[k]? := fun k => by unfold World.cell?; rw [e3]; simp
  have hn' : (setRow B ix l').n = B.n := by unfold setRow; cases hs : B.sz <;> simp [Blk.n, hs]
  have hstr' : (setRow B ix l').str = B.str := by unfold setRow; cases hs : B.sz <;> rfl
  have helem' : (setRow B ix l').elem = B.elem := by unfold setRow; cases hs : B.sz <;> rfl
  have hwr' : (setRow B ix l').wr = true := by unfold setRow; cases hs : B.sz <;> exact hw
  have hrow' : ∀ j, j < B.n → (setRow B ix l').row j = if j = ix then l' else B.row j := fun j hj => by
    unfold setRow
    cases hs : B.sz with
    | none =>
      have : j = ix := by simp [Blk.n, hs] at hj hix; omega
      simp [this]
    | some n => rfl
  refine h.update hB hw hp hwr' (setRow_size _ _ _) rfl rfl rfl (fun b hne => setRow_other _ _ _ _ hne) ⟨by rw [hstr', hstr], fun j hj => ?_, fun _ => ⟨e1, by rw [hn']; exact e2, e5, cs', by rw [helem']; exact hheap, by rw [hcsz, e4]⟩⟩
  rw [hn'] at hj
  obtain ⟨xs, h1, h2, h3⟩ := hb.rows j hj
  have h3' : ∀ j' x, xs[j']? = some x → cs[p.str * j + j']? = some x := fun j' x hx => by
    have := h3 j' x hx
    rw [hcell0, e1, Nat.zero_add] at this
    exact this
  rw [hrow' j hj]
  by_cases hji : j = ix
  · subst hji
    rw [if_pos rfl]
    refine ⟨_, hl xs h1, by simp only [List.length_append, List.length_take, List.length_drop]; rw [hstr']; omega, fun j' x hx => ?_⟩
    rw [hcell, e1, Nat.zero_add, hcs']
    rw [splice_get xs vs o j' (by omega)] at hx
    by_cases c1 : j' < o
    · rw [if_pos c1] at hx
      rw [if_pos (by omega)]
      exact h3' _ _ hx
    · rw [if_neg c1] at hx
      rw [if_neg (by omega)]
      by_cases c2 : j' < o + vs.length
      · rw [if_pos c2] at hx
        rw [if_pos (by omega), show p.str * j + j' - (p.str * j + o) = j' - o by omega]
        exact hx
      · rw [if_neg c2] at hx
        rw [if_neg (by omega)]
        exact h3' _ _ hx
  · rw [if_neg hji]
    refine ⟨xs, h1, by rw [hstr']; exact h2, fun j' x hx => ?_⟩
    rw [hcell, e1, Nat.zero_add, hcs']
    have hj' : j' < B.str := by rw [← h2]; exact (List.getElem?_eq_some_iff.1 hx).1
    rcases Nat.lt_or_gt_of_ne hji with c | c
    · have : p.str * j + p.str ≤ p.str * ix := by rw [← Nat.mul_succ]; exact Nat.mul_le_mul_left _ c
      rw [if_pos (by omega)]
      exact h3' _ _ hx
    · have : p.str * ix + p.str ≤ p.str * j := by rw [← Nat.mul_succ]; exact Nat.mul_le_mul_left _ c
      rw [if_neg (by omega), if_neg (by omega)]
      exact h3' _ _ hx

/-- What an operation that turns the heap leaves. -/
def Trn (P : Program) (φ : Emb) (H : Heap) (m : Sem Next) (w : World) (v : AV) (H' : Heap) : Prop :=
  ∃ φ' w', ((∃ x, m.run P w = .ok (.value x) w' ∧ relA φ' v x) ∨ (m.run P w = .ok .skip w' ∧ v = .bot)) ∧ HRel φ' H' w' ∧ Fr φ H w φ' H' w'

theorem F2_oneCell {l : List CV} {vs : List Value} (h : F2 (rel φ) l vs) : ∀ v ∈ vs, v.oneCell' = true := by
  induction h with
  | nil => intro v hv; cases hv
  | cons hr _ ih => intro v hv; cases hv with
    | head => exact rel_oneCell hr
    | tail _ hv => exact ih v hv

theorem run_storeAt {t : TypeId} {n : Nat} (hs : sizeT P t = some n) {x : Value} (hx : x.cells.size = n) {a : Addr} {w' : World} (h : (storeCells a x.cells.toList).run P w = .ok () w') :
    (Instr.storeAt t (.pointer (some a)) x).run P w = .ok () w' := by
  simp only [Instr.storeAt, Instr.sureAddr, Sem.run_bind, Sem.run_pure, Result.andThen_ok, storeVar, run_sizeOf hs]
  rw [if_neg (by simp [hx])]
  exact h

theorem stn_ok {H : Heap} (h : HRel φ H w) {t : TypeId} {m : Nat} (hs : sizeT P t = some m) {a : AA} {l : List Seg} {need : Option Prop} {v : AV} {H' : Heap} (hst : stn H m a l = .t need v H') (hn : needP need)
    {x y : Value} (hx : relP φ a x) (hy : relA φ (.agg l) y) : v = .bot ∧ ∃ w', (Instr.storeAt t x y).run P w = .ok () w' ∧ HRel φ H' w' ∧ Fr φ H w φ H' w' := by
  obtain ⟨p, hp, rfl⟩ := hx
  obtain ⟨cs, rfl, hF⟩ := hy
  unfold stn at hst
  split at hst
  · simp at hst
  · rename_i B hB
    split at hst
    · simp at hst
    · rename_i hw
      split at hst
      · simp at hst
      · rename_i nd hr
        split at hst
        · simp at hst
        · rename_i hz
          split at hst
          · simp at hst
          · rename_i hm
            split at hst
            · rename_i l' hl'
              simp only [Res.t.injEq] at hst
              obtain ⟨rfl, rfl, rfl⟩ := hst
              refine ⟨rfl, ?_⟩
              have hsub := Nat.eq_of_beq_eq_true hz
              have hm' := Nat.eq_of_beq_eq_true hm
              have hix := rowNeed_lt hr hn
              obtain ⟨e1, e2⟩ := putS_flat hl'
              have hlen : cs.toList.length = sizes l := by rw [← hF.length, flat_length]
              obtain ⟨xs, h1, h2, _⟩ := (h.blk _ _ _ hB hp).rows _ hix
              obtain ⟨w', hrun, hH, hFr⟩ := store_row (P := P) h hB hw hp hix (o := a.off) (vs := cs.toList) (l' := l') (F2_oneCell hF) (by rw [hlen, ← h2, ← h1.length]; exact e2) fun xs hxs => by
                rw [e1, hlen]
                exact ((hxs.take _).append hF).append (hxs.drop _)
              refine ⟨w', run_storeAt hs (by simp [Value.cells]; rw [← hm', ← hlen]; simp) ?_, hH, hFr⟩
              have : p.at a = ⟨p.blk, p.base + p.str * a.idx + a.off, none⟩ := by simp [Place.at, hsub]
              rw [this]
              exact hrun
            · simp at hst

theorem set_splice {α : Type} (l : List α) (o : Nat) (x : α) (h : o < l.length) : l.set o x = l.take o ++ [x] ++ l.drop (o + 1) := by
  rw [List.set_eq_take_append_cons_drop, if_pos h]; simp

theorem st1_flat {B : Blk} {a : AA} {x : CV} {need : Option Prop} {v : AV} {H H' : Heap} (hst : st1 H a x = .t need v H') (hn : needP need) (hB : getB H.blks a.id = some B) :
    v = .bot ∧ B.wr = true ∧ a.idx < B.n ∧ ∃ l', H' = ⟨H.next, setB H.blks a.id (setRow B a.idx l')⟩ ∧ flat l' = (flat (B.row a.idx)).set (a.off + a.sub) x ∧ a.off + a.sub < (flat (B.row a.idx)).length := by
  unfold st1 at hst
  simp only [hB] at hst
  split at hst
  · simp at hst
  · rename_i hw
    split at hst
    · simp at hst
    · rename_i nd hr
      split at hst
      · rename_i cv hsg
        split at hst
        · rename_i hz
          split at hst
          · rename_i l' hl'
            simp only [Res.t.injEq] at hst
            obtain ⟨rfl, rfl, rfl⟩ := hst
            have hsub := Nat.eq_of_beq_eq_true hz
            obtain ⟨e1, e2⟩ := putS_flat hl'
            simp only [flat, Seg.flat, List.append_nil, sizes, Seg.size] at e1 e2
            refine ⟨rfl, hw, rowNeed_lt hr hn, l', rfl, ?_, by omega⟩
            rw [e1, set_splice _ _ _ (by omega)]
            simp only [hsub, Nat.add_zero]
          · simp at hst
        · simp at hst
      · rename_i n f hsg
        split at hst
        · rename_i l' hl'
          simp only [Res.t.injEq] at hst
          obtain ⟨rfl, rfl, rfl⟩ := hst
          have hlt : a.sub < n := andN_right hn
          obtain ⟨e1, e2⟩ := putS_flat hl'
          simp only [flat, Seg.flat, List.append_nil, sizes, Seg.size, Nat.add_zero] at e1 e2
          refine ⟨rfl, hw, rowNeed_lt hr (andN_left hn), l', rfl, ?_, by omega⟩
          rw [e1]
          have hg : ∀ j, j < n → (flat (B.row a.idx))[a.off + j]? = some (f j) := fun j hj => by
            rw [segAt_flat _ _ _ hsg j (by simpa [Seg.size] using hj)]
            simp [Seg.flat, hj]
          refine List.ext_getElem? fun k => ?_
          have hk := splice_get (flat (B.row a.idx)) ((List.range n).map fun j => if j = a.sub then x else f j) a.off k (by simpa using e2)
          simp only [List.length_map, List.length_range] at hk
          rw [hk, List.getElem?_set]
          by_cases c1 : k < a.off
          · rw [if_pos c1, if_neg (by omega)]
          · rw [if_neg c1]
            by_cases c2 : k < a.off + n
            · rw [if_pos c2]
              have hkn : k - a.off < n := by omega
              simp only [List.getElem?_map, List.getElem?_range hkn, Option.map_some]
              by_cases c3 : k = a.off + a.sub
              · rw [if_pos c3.symm, if_pos (by omega), if_pos (by omega)]
              · rw [if_neg (Ne.symm c3), if_neg (by omega)]
                have := hg (k - a.off) hkn
                rw [show a.off + (k - a.off) = k by omega] at this
                exact this.symm
            · rw [if_neg c2, if_neg (by omega)]
        · simp at hst
      · simp at hst

theorem st1_ok {H : Heap} (h : HRel φ H w) {t : TypeId} (hs : sizeT P t = some 1) {a : AA} {c : CV} {need : Option Prop} {v : AV} {H' : Heap} (hst : st1 H a c = .t need v H') (hn : needP need)
    {x y : Value} (hx : relP φ a x) (hy : rel φ c y) : v = .bot ∧ ∃ w', (Instr.storeAt t x y).run P w = .ok () w' ∧ HRel φ H' w' ∧ Fr φ H w φ H' w' := by
  obtain ⟨p, hp, rfl⟩ := hx
  cases hB : getB H.blks a.id with
  | none => simp [st1, hB] at hst
  | some B =>
    obtain ⟨rfl, hw, hix, l', rfl, e1, e2⟩ := st1_flat hst hn hB
    refine ⟨rfl, ?_⟩
    obtain ⟨xs, h1, h2, _⟩ := (h.blk _ _ _ hB hp).rows _ hix
    obtain ⟨w', hrun, hH, hFr⟩ := store_row (P := P) h hB hw hp hix (o := a.off + a.sub) (vs := [y]) (l' := l') (by simp [rel_oneCell hy]) (by simp; rw [← h2, ← h1.length]; omega) fun xs hxs => by
      have hlt : a.off + a.sub < xs.length := by rw [← hxs.length]; exact e2
      rw [e1, set_splice _ _ _ e2]
      simp only [List.length_singleton]
      exact ((hxs.take _).append (.cons hy .nil)).append (hxs.drop _)
    refine ⟨w', run_storeAt hs (by simp [rel_cells hy]) ?_, hH, hFr⟩
    rw [rel_cells hy]
    have : p.at a = ⟨p.blk, p.base + p.str * a.idx + (a.off + a.sub), none⟩ := by simp [Place.at, Nat.add_assoc]
    rw [this]
    exact hrun

end Go.AM
