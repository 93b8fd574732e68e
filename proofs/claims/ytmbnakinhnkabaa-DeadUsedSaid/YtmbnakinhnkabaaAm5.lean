/- AM: one operation that does not turn the heap: whatever the abstract machine says of it holds of the model's run. -/
import Derived.Test.YtmbnakinhnkabaaAm4
import Derived.Laws.Tables
namespace Go.AM
set_option linter.unusedVariables false
set_option linter.unusedSimpArgs false
variable {P : Program} {φ : Emb} {H : Heap} {w : World}

/-- The run of an operation yields what 'v' says; a block is made where 'B' says so. -/
def Yld (P : Program) (φ : Emb) (n : Nat) (m : Sem Value) (w : World) (v : AV) : Option Blk → Prop
  | none => ∃ x, m.run P w = .ok x w ∧ relA φ v x
  | some B => ∃ x cs c, m.run P w = .ok x (w.alloc (.cells cs B.elem)) ∧ relA (φ.ins n ⟨w.heap.size, 0, B.str, c⟩) v x ∧ BRel (φ.ins n ⟨w.heap.size, 0, B.str, c⟩) B ⟨w.heap.size, 0, B.str, c⟩ (w.alloc (.cells cs B.elem))

theorem relP_ins (φ : Emb) (n : Nat) (p : Place) : relP (φ.ins n p) ⟨n, 0, 0, 0⟩ (.pointer (some ⟨p.blk, p.base, none⟩)) :=
  ⟨p, φ.ins_self n p, by simp [Place.at]⟩

theorem yld_box {n : Nat} (hf : φ n = none) {t : TypeId} {l : List Seg} {x : Value} (h : F2 (rel φ) (flat l) x.cells.toList) :
    Yld P φ n (Instr.box t x) w (.c (.ptr ⟨n, 0, 0, 0⟩)) (some ⟨sizes l, none, fun _ => l, t, true⟩) := by
  refine ⟨.pointer (some ⟨w.heap.size, 0, none⟩), x.cells, 1, ?_, relP_ins _ _ _, brel_box (h.mono fun _ _ => rel_mono (Emb.le_ins hf))⟩
  simp [Instr.box, newVar, newRow, go_sem]

theorem yld_alloc {n : Nat} (hf : φ n = none) {t : TypeId} {l : List Seg} (h : zeroOf P t = some l) :
    Yld P φ n (Instr.alloc t true (.tuple #[])) w (.c (.ptr ⟨n, 0, 0, 0⟩)) (some ⟨sizes l, none, fun _ => l, t, true⟩) := by
  obtain ⟨i, z, hi, hz, hF⟩ := zeroOf_rel φ h
  refine ⟨.pointer (some ⟨w.heap.size, 0, none⟩), z.cells, 1, ?_, relP_ins _ _ _, brel_box (hF.mono fun _ _ => rel_mono (Emb.le_ins hf))⟩
  simp [Instr.alloc, newVar, newRow, go_sem, run_zeroValue hi hz]

/-! ### Parts -/
theorem fill_parts {place : Nat → Option (Nat × Nat)} {g : Opd → AV} {ρ : Operand → Value} (hg : ∀ x y, opd x = some y → relA φ (g y) (ρ x)) :
    ∀ (ps : List (Nat × Operand)) (qs : List (Nat × Nat × Opd)) (ls : List (Nat × Nat × List Seg)) (l l' : List Seg) (cells : Array Value),
      partsT place ps = some qs → partsOf g qs = some ls → F2 (rel φ) (flat l) cells.toList → fillS l ls = some l' →
      ∃ cells', Instr.fill place cells (ps.map fun (i, x) => (i, ρ x)) = some cells' ∧ F2 (rel φ) (flat l') cells'.toList
  | [], qs, ls, l, l', cells, h1, h2, hF, h3 => by
    simp only [partsT, Option.some.injEq] at h1
    subst h1
    simp only [partsOf, Option.some.injEq] at h2
    subst h2
    simp only [fillS, Option.some.injEq] at h3
    subst h3
    exact ⟨cells, rfl, hF⟩
  | (i, x) :: r, qs, ls, l, l', cells, h1, h2, hF, h3 => by
    simp only [partsT] at h1
    split at h1
    · rename_i o n y rest hp hy hr
      simp only [Option.some.injEq] at h1
      subst h1
      simp only [partsOf] at h2
      split at h2
      · rename_i m hm
        split at h2
        · rename_i t ht
          simp only [Option.some.injEq] at h2
          subst h2
          simp only [fillS] at h3
          split at h3
          · rename_i hb
            have hsz := Nat.eq_of_beq_eq_true hb
            subst hsz
            split at h3
            · rename_i l1 hl1
              have hx := segsOf_cells hm (hg x y hy)
              obtain ⟨c1, hc1, hF1⟩ := fill_step (rest := r.map fun (i, x) => (i, ρ x)) (i := i) hF hx hp hl1
              obtain ⟨c2, hc2, hF2⟩ := fill_parts hg r rest t l1 l' c1 hr ht hF1 h3
              exact ⟨c2, by simp only [List.map_cons]; rw [hc1, hc2], hF2⟩
            · simp at h3
          · simp at h3
        · simp at h2
      · simp at h2
    · simp at h1

theorem partsT_congr {place place' : Nat → Option (Nat × Nat)} (h : ∀ i, place i = place' i) (ps : List (Nat × Operand)) : partsT place ps = partsT place' ps := by
  have : place = place' := funext h
  rw [this]

theorem yld_build {t : TypeId} {ps : Array (Nat × Operand)} {z l : List Seg} {qs : List (Nat × Nat × Opd)} {ls : List (Nat × Nat × List Seg)} {g : Opd → AV} {ρ : Operand → Value}
    (hg : ∀ x y, opd x = some y → relA φ (g y) (ρ x)) (hs : stripOp P (.build t ps) = some (.build z qs)) (hq : partsOf g qs = some ls) (hl : fillS z ls = some l) :
    ∃ x, (Instr.build t (ps.map fun (i, x) => (i, ρ x))).run P w = .ok x w ∧ relA φ (.agg l) x := by
  simp only [stripOp] at hs
  split at hs
  · rename_i fs hu
    split at hs
    · rename_i z' places hz hp
      simp only [Option.map_eq_some_iff, AOp.build.injEq] at hs
      obtain ⟨qs', hqs, rfl, rfl⟩ := hs
      obtain ⟨i, zv, hi, hzv, hF⟩ := zeroOf_rel φ hz
      obtain ⟨cells, hc, hF'⟩ := fill_parts hg _ _ _ _ _ _ hqs hq hF hl
      refine ⟨.agg cells, run_build w t _ cells ?_, cells, rfl, hF'⟩
      unfold placesT at hp
      simp only [Program.built, hi, hu, hzv, hp]
      rw [← hc]
      simp
    · simp at hs
  · rename_i n e hu
    split at hs
    · rename_i z' k hz hk
      simp only [Option.map_eq_some_iff, AOp.build.injEq] at hs
      obtain ⟨qs', hqs, rfl, rfl⟩ := hs
      obtain ⟨i, zv, hi, hzv, hF⟩ := zeroOf_rel φ hz
      obtain ⟨cells, hc, hF'⟩ := fill_parts hg _ _ _ _ _ _ hqs hq hF hl
      refine ⟨.agg cells, run_build w t _ cells ?_, cells, rfl, hF'⟩
      unfold sizeT at hk
      simp only [Option.map_eq_some_iff] at hk
      obtain ⟨ie, hie, rfl⟩ := hk
      simp only [Program.built, hi, hu, hzv, hie]
      rw [← hc]
      simp
    · simp at hs
  · simp at hs

/-! ### A slice literal -/
theorem F2.of_get {α β : Type} {R : α → β → Prop} : ∀ {l : List α} {m : List β}, l.length = m.length → (∀ (i : Nat) (a : α) (b : β), l[i]? = some a → m[i]? = some b → R a b) → F2 R l m
  | [], [], _, _ => .nil
  | [], _ :: _, h, _ => by simp at h
  | _ :: _, [], h, _ => by simp at h
  | a :: l, b :: m, h, k => .cons (k 0 a b rfl rfl) (F2.of_get (by simpa using h) fun i x y hx hy => k (i + 1) x y (by simpa using hx) (by simpa using hy))

theorem F2.get' {α β : Type} {R : α → β → Prop} {l : List α} {m : List β} (h : F2 R l m) {i : Nat} {a : α} {b : β} (ha : l[i]? = some a) (hb : m[i]? = some b) : R a b := by
  obtain ⟨b', hb', r⟩ := h.get ha
  rw [hb] at hb'
  cases hb'
  exact r

theorem repl_flat_length (n : Nat) (z : List Seg) : (flat (repl n z)).length = n * sizes z := by
  induction n with
  | zero => simp [repl, flat]
  | succ n ih => simp [repl, flat_append, ih, flat_length, Nat.add_mul, Nat.add_comm]
theorem repl_flat_get (n : Nat) (z : List Seg) : ∀ i, i < n * sizes z → (flat (repl n z))[i]? = (flat z)[i % sizes z]? := by
  induction n with
  | zero => intro i h; omega
  | succ n ih =>
    intro i h
    simp only [repl, flat_append]
    by_cases hi : i < sizes z
    · rw [List.getElem?_append_left (by rw [flat_length]; exact hi), Nat.mod_eq_of_lt hi]
    · rw [List.getElem?_append_right (by rw [flat_length]; omega), flat_length, ih _ (by rw [Nat.add_mul, Nat.one_mul] at h; omega)]
      rw [Nat.mod_eq_sub_mod (a := i) (by omega)]

theorem F2_repl {n k : Nat} {z : List Seg} {zs : Array Value} (h : F2 (rel φ) (flat z) zs.toList) (hk : sizes z = k) (hk0 : k ≠ 0) :
    F2 (rel φ) (flat (repl n z)) ((Array.range (n * k)).map (zs[· % zs.size]!)).toList := by
  have hz : zs.size = k := by rw [← hk, ← flat_length, h.length]; simp
  refine F2.of_get (by simp [repl_flat_length, hk]) fun i a b ha hb => ?_
  have hi : i < n * k := by
    have := (List.getElem?_eq_some_iff.1 ha).1
    rw [repl_flat_length, hk] at this
    exact this
  rw [repl_flat_get _ _ _ (by rw [hk]; exact hi), hk] at ha
  simp only [Array.toList_map, Array.toList_range, List.getElem?_map, List.getElem?_range hi, Option.map_some, Option.some.injEq] at hb
  refine h.get' ha ?_
  subst hb
  have hm : i % k < zs.size := by rw [hz]; exact Nat.mod_lt _ (by omega)
  simp [hz, Array.getElem!_eq_getD, Array.getD_eq_getD_getElem?, Array.getElem?_eq_getElem hm]

theorem rowsFit_lt {l : List Seg} {k : Nat} : ∀ {n : Nat}, rowsFit l k n = true → ∀ i, i < n → ∃ x, cut l (i * k) k = some x
  | 0, _, i, h => by omega
  | n + 1, hf, i, h => by
    simp only [rowsFit] at hf
    split at hf
    · rename_i x hx
      by_cases he : i = n
      · subst he; exact ⟨x, hx⟩
      · exact rowsFit_lt hf i (by omega)
    · simp at hf

theorem rowFn_flat {l : List Seg} {k n : Nat} (hf : rowsFit l k n = true) (hl : sizes l = n * k) {i : Nat} (hi : i < n) : flat (rowFn l k n i) = ((flat l).drop (i * k)).take k ∧ sizes (rowFn l k n i) = k := by
  obtain ⟨x, hx⟩ := rowsFit_lt hf i hi
  unfold rowFn
  split
  · have : i = 0 := by omega
    subst this
    simp only [Nat.one_mul] at hl
    simp only [Nat.zero_mul, List.drop_zero]
    rw [List.take_of_length_le (by rw [flat_length, hl]; exact Nat.le_refl _)]
    exact ⟨rfl, hl⟩
  · simp only [cutD, hx]
    exact cut_flat hx

theorem fillS_sizes : ∀ (ls : List (Nat × Nat × List Seg)) (l l' : List Seg), fillS l ls = some l' → sizes l' = sizes l
  | [], l, l', h => by simp [fillS] at h; rw [h]
  | (o, n, x) :: r, l, l', h => by
    simp only [fillS] at h
    split at h
    · split at h
      · rename_i l1 h1
        rw [fillS_sizes r l1 l' h]
        obtain ⟨e, hle⟩ := putS_flat h1
        have := congrArg List.length e
        simp only [List.length_append, List.length_take, List.length_drop, flat_length] at this
        rw [flat_length] at hle
        omega
      · simp at h
    · simp at h

theorem repl_sizes (n : Nat) (z : List Seg) : sizes (repl n z) = n * sizes z := by rw [← flat_length, repl_flat_length]

theorem yld_bslice {t : TypeId} {m : Nat} {ps : Array (Nat × Operand)} {e k n id : Nat} {z l : List Seg} {qs : List (Nat × Nat × Opd)} {ls : List (Nat × Nat × List Seg)} {g : Opd → AV} {ρ : Operand → Value}
    (hf : φ id = none) (hg : ∀ x y, opd x = some y → relA φ (g y) (ρ x)) (hs : stripOp P (.buildSlice t m ps) = some (.bslice e k z n qs)) (hq : partsOf g qs = some ls) (hl : fillS (repl n z) ls = some l) (hr : rowsFit l k n = true) :
    Yld P φ id (Instr.buildSlice t m (ps.map fun (i, x) => (i, ρ x))) w (.c (.slice ⟨id, 0, 0, 0⟩ false n)) (some ⟨k, some n, rowFn l k n, e, true⟩) := by
  simp only [stripOp] at hs
  split at hs
  · rename_i e' hu
    split at hs
    · rename_i z' k' hz hk
      split at hs
      · rename_i hc
        obtain ⟨h24, hk0, hzk⟩ := hc
        simp only [Option.map_eq_some_iff, AOp.bslice.injEq] at hs
        obtain ⟨qs', hqs, rfl, rfl, rfl, rfl, rfl⟩ := hs
        obtain ⟨i, zv, hi, hzv, hF⟩ := zeroOf_rel φ hz
        obtain ⟨cells, hcc, hF'⟩ := fill_parts hg _ _ _ _ _ _ hqs hq (F2_repl (n := m) hF hzk hk0) hl
        have hsz : sizes l = m * k' := by rw [fillS_sizes _ _ _ hl, repl_sizes, hzk]
        have hcs : cells.size = m * k' := by rw [← hsz, ← flat_length, hF'.length]; simp
        have hmk : ¬ m * k' > 2 ^ 24 := by omega
        refine ⟨.slice (some ⟨w.heap.size, 0, none⟩) m m, cells, m, ?_, ?_, ?_⟩
        · have hcc' : Instr.fill (fun i => some (i * k', k')) ((Array.range (m * k')).map (zv.cells[· % zv.cells.size]!)) (ps.map fun (i, x) => (i, ρ x)).toList = some cells := by rw [← hcc]; simp
          by_cases hm0 : m = 0
          · subst hm0
            have hr0 : ∀ (zs : Array Value), (Array.range (0 * k')).map (zs[· % zs.size]!) = #[] := fun zs => by simp
            rw [hr0] at hcc'
            simp only [Instr.buildSlice, Sem.run_bind, run_underlying' hu, Result.andThen_ok, run_sizeOf hk, if_neg hmk, Sem.run_pure, if_pos (Nat.zero_mul k')]
            rw [hr0, hcc']
            simp [newRow, go_sem]
          · have hmk0 : m * k' ≠ 0 := Nat.mul_ne_zero hm0 hk0
            simp only [Instr.buildSlice, Sem.run_bind, run_underlying' hu, Result.andThen_ok, run_sizeOf hk, if_neg hmk, Sem.run_pure, if_neg hmk0, run_zeroValue hi hzv]
            rw [hcc']
            simp [newRow, go_sem]
        · exact ⟨_, m, rfl, Nat.le_refl _, .inr ⟨_, φ.ins_self _ _, by simp [Place.at], fun _ => ⟨rfl, rfl, by simp⟩⟩⟩
        · refine brel_new (B := ⟨k', some m, rowFn l k' m, e', true⟩) (by simp [Blk.n]) (by have : m * 1 ≤ m * k' := Nat.mul_le_mul_left _ (by omega); omega) (by simp [hcs, Nat.mul_comm]) fun i hi => ?_
          have hi' : i < m := by simpa [Blk.n] using hi
          obtain ⟨e1, e2⟩ := rowFn_flat hr hsz hi'
          refine ⟨(cells.toList.drop (i * k')).take k', ?_, ?_, fun j x hx => ?_⟩
          · show F2 _ (flat (rowFn l k' m i)) _
            rw [e1]
            exact (((hF'.mono fun _ _ => rel_mono (Emb.le_ins hf)).drop _).take _)
          · have : i * k' + k' ≤ m * k' := by rw [← Nat.succ_mul]; exact Nat.mul_le_mul_right _ hi'
            simp [hcs]; omega
          · rw [List.getElem?_take] at hx
            split at hx
            · rw [List.getElem?_drop] at hx
              simpa [Nat.mul_comm] using hx
            · simp at hx
      · simp at hs
    · simp at hs
  · simp at hs

end Go.AM
