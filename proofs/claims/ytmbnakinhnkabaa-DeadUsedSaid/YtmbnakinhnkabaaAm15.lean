/- AM: a region that draws its order: every order comes to the same. -/
import Derived.Test.YtmbnakinhnkabaaAm14
namespace Go.AM
set_option linter.unusedVariables false
set_option linter.unusedSectionVars false
set_option linter.unusedSimpArgs false
variable {P : Program} {φ : Emb} {w : World}

theorem draw_spec {ops : Array Oper} {al : List AOper} (h : drawOk ops al = true) {i : Nat} {o : Oper} {ao : AOper} (ho : ops[i]? = some o) (ha : al[i]? = some ao) :
    (∀ e ∈ o.after, Region.binds .any e = true → e.on < i) ∧ ∀ j x d, j ≠ i → ops[j]? = some x → x.dst = some d → o.dst ≠ some d ∧ (d ∈ readsA ao → (j < i → waits o j = true) ∧ (i < j → waits x i = true)) := by
  have hi : i < ops.size := (Array.getElem?_eq_some_iff.1 ho).1
  unfold drawOk at h
  have h1 := List.all_eq_true.1 h i (List.mem_range.2 hi)
  simp only [ho, ha, Bool.and_eq_true, List.all_eq_true, List.mem_range, Bool.or_eq_true, Bool.not_eq_true', decide_eq_true_eq, beq_iff_eq] at h1
  obtain ⟨g1, g2⟩ := h1
  refine ⟨fun e he hb => ?_, fun j x d hne hx hd => ?_⟩
  · have := g1 e (by simpa using he)
    rcases this with h | h
    · rw [hb] at h; cases h
    · exact h
  · have hj : j < ops.size := (Array.getElem?_eq_some_iff.1 hx).1
    have := (g2 j hj).resolve_left (Ne.symm hne)
    simp only [hx, hd, Bool.and_eq_true, Bool.or_eq_true, Bool.not_eq_true', bne_iff_ne, ne_eq] at this
    refine ⟨this.1, fun hmem => ?_⟩
    have h3 := this.2.resolve_left (by simpa using hmem)
    constructor
    · intro hlt; simpa [hlt] using h3
    · intro hlt; simpa [Nat.not_lt.2 (Nat.le_of_lt hlt)] using h3

theorem ready_waits {ops : Array Oper} {listed : Array Bool} {i : Nat} {o : Oper} (h : i ∈ Region.ready .any ops listed) (ho : ops[i]? = some o) : listed.getD i true = false ∧ ∀ j, waits o j = true → listed.getD j false = true := by
  obtain ⟨h0, o', ho', hall⟩ := mem_ready.1 h
  rw [ho] at ho'
  cases ho'
  refine ⟨h0, fun j hj => ?_⟩
  unfold waits at hj
  obtain ⟨e, he, hb⟩ := List.any_eq_true.1 hj
  simp only [Bool.and_eq_true, beq_iff_eq] at hb
  have := hall e (by simpa using he) hb.1
  rwa [hb.2] at this

def unl (listed : Array Bool) : Nat → Nat
  | 0 => 0
  | k + 1 => unl listed k + (if listed.getD k false = true then 0 else 1)
theorem unl_set {listed : Array Bool} {i : Nat} (hi : listed.getD i false = false) (hs : i < listed.size) : ∀ {k : Nat}, (i < k → unl (listed.setIfInBounds i true) k + 1 = unl listed k) ∧ (k ≤ i → unl (listed.setIfInBounds i true) k = unl listed k)
  | 0 => ⟨fun h => by omega, fun _ => rfl⟩
  | k + 1 => by
    obtain ⟨h1, h2⟩ := unl_set hi hs (k := k)
    refine ⟨fun h => ?_, fun h => ?_⟩
    · simp only [unl]
      by_cases hk : k = i
      · subst hk
        rw [h2 (Nat.le_refl _), hi]
        simp [hs]
      · rw [getD_set_ne false (Ne.symm hk)]
        have := h1 (by omega)
        omega
    · simp only [unl]
      rw [getD_set_ne false (by omega), h2 (by omega)]
theorem unl_zero {listed : Array Bool} : ∀ {k : Nat}, unl listed k = 0 → ∀ i, i < k → listed.getD i false = true
  | k + 1, h, i, hi => by
    simp only [unl] at h
    by_cases hk : i = k
    · subst hk
      split at h
      · assumption
      · omega
    · exact unl_zero (k := k) (by omega) i (by omega)

theorem getD_set_self {listed : Array Bool} {i : Nat} (h : i < listed.size) (d : Bool) : (listed.setIfInBounds i true).getD i d = true := by simp [h]

section
variable {N : Nat} {ops : Array Oper} {al : List AOper} {m0 m : Nat} {S : Nat → St} {Pa : Nat → Path} {V : Nat → AV} {Hp : Nat → Heap} {KK : Nat → List Nat}

/-- The heap is turned as far as number k tells. -/
def Stg (al : List AOper) (m0 m : Nat) (listed : Array Bool) (k : Nat) : Prop := ∀ j ao, m0 ≤ j → j < m → al[j]? = some ao → ao.tl = true → (listed.getD j false = true ↔ j < k)

/-- What was turned out of the text's order, as number k sees it, is elsewhere. -/
def OffD (al : List AOper) (S : Nat → St) (m0 m : Nat) (listed : Array Bool) (k X : Nat) : Prop := ∀ j ao, m0 ≤ j → j < m → al[j]? = some ao → ao.tl = true → ¬ (listed.getD j false = true ↔ j < k) → (tgtOf (S j) ao.op).off X

/-- Some operations have been carried out, in whatever order. -/
structure Jn (ops : Array Oper) (al : List AOper) (m0 m N : Nat) (S : Nat → St) (Pa : Nat → Path) (V : Nat → AV) (φs : Emb) (a0 : Act) (ws : World) (listed : Array Bool) (φ : Emb) (a : Act) (w : World) : Prop where
  sz : listed.size = ops.size
  lt : ∀ i, listed.getD i false = true → i < m
  base : ∀ i, i < m0 → listed.getD i false = true
  down : ∀ i o j, listed.getD i false = true → ops[i]? = some o → waits o j = true → listed.getD j false = true
  hr : ∀ k, k ≤ m → Stg al m0 m listed k → HRel (φ.to (S k).heap.next) (S k).heap w ∧ Fr φs (S 0).heap ws (φ.to (S k).heap.next) (S k).heap w
  hb : ∀ k X B p, k ≤ m → getB (S k).heap.blks X = some B → OffD al S m0 m listed k X → (φ.to (S k).heap.next) X = some p → BRel (φ.to (S k).heap.next) B p w
  bl : ∀ id p, φ id = some p → p.blk < w.heap.size
  fresh : ∀ i, (S m).heap.next ≤ i → φ i = none
  un : ∀ i, i < m → listed.getD i false = false → ∀ id, (S i).heap.next ≤ id → id < (S (i + 1)).heap.next → φ id = none
  on : ∀ i ao d, m0 ≤ i → i < m → listed.getD i false = true → al[i]? = some ao → ao.dst = some d → (conds (Pa i) → relA (φ.to (S (i + 1)).heap.next) (V i) (a.tmps.getD d undef)) ∧ (¬ conds (Pa i) → a.tmps.getD d undef = undef)
  off : ∀ t, (∀ i ao, m0 ≤ i → i < m → listed.getD i false = true → al[i]? = some ao → ao.dst ≠ some t) → a.tmps.getD t undef = a0.tmps.getD t undef
  old : ∀ id, id < (S 0).heap.next → φ id = φs id
  defers : a.defers = a0.defers
  size : a.tmps.size = N

theorem Grow.refl (w : World) : Grow w w := ⟨rfl, rfl, rfl, Nat.le_refl _, fun _ _ => rfl⟩
theorem Grow.trans {u v w : World} (h : Grow u v) (k : Grow v w) : Grow u w :=
  ⟨k.os.trans h.os, k.tape.trans h.tape, k.output.trans h.output, Nat.le_trans h.size k.size, fun b hb => (k.block b (Nat.lt_of_lt_of_le hb h.size)).trans (h.block b hb)⟩
theorem Grow.alloc (w : World) (o : Obj) : Grow w (w.alloc o) := ⟨rfl, rfl, rfl, by simp, fun b hb => heap_alloc_lt w o hb⟩

/-- A block that was named is made. -/
theorem HRel.define {H : Heap} (h : HRel φ H w) {w' : World} (hg : Grow w w') {n : Nat} {p : Place} (hn : φ n = none) (hlt : n < H.next) {B : Blk} (hB : getB H.blks n = some B) (hb : BRel (φ.ins n p) B p w') (hp : w.heap.size ≤ p.blk) (hp' : p.blk < w'.heap.size) : HRel (φ.ins n p) H w' := by
  obtain ⟨h', _⟩ := h.grown hg.os hg.tape hg.output hg.size hg.block (K := H) (Nat.le_refl _) (fun _ _ h _ => h)
  have hle := Emb.le_ins (p := p) hn
  have hold : ∀ j q, (φ.ins n p) j = some q → j ≠ n → φ j = some q := fun j q hq hj => by simpa [Emb.ins, hj] using hq
  have hself : ∀ q, (φ.ins n p) n = some q → q = p := fun q hq => by rw [Emb.ins_self] at hq; cases hq; rfl
  refine ⟨fun j D q hj hq => ?_, fun j k D E q r hj hk hq hr hne hDw => ?_, fun j hj => ?_, fun j q hq => ?_⟩
  · by_cases e : j = n
    · subst e
      rw [hB] at hj
      cases hj
      rw [hself q hq]
      exact hb
    · have hb' := h'.blk j D q hj (hold j q hq e)
      exact ⟨hb'.str, fun i hi => let ⟨xs, h1, h2, h3⟩ := hb'.rows i hi; ⟨xs, h1.mono fun _ _ => rel_mono hle, h2, h3⟩, hb'.own⟩
  · by_cases e : j = n
    · subst e
      rw [hself q hq]
      have := h.lt k r (hold k r hr (Ne.symm hne))
      omega
    · by_cases e2 : k = n
      · subst e2
        rw [hself r hr]
        have := h.lt j q (hold j q hq e)
        omega
      · exact h'.inj j k D E q r hj hk (hold j q hq e) (hold k r hr e2) hne hDw
  · simp only [Emb.ins]
    rw [if_neg (by omega)]
    exact h.fresh j hj
  · by_cases e : j = n
    · subst e; rw [hself q hq]; exact hp'
    · exact h'.lt j q (hold j q hq e)

theorem ins_to {n k : Nat} {p : Place} : (φ.ins n p).to k = if n < k then (φ.to k).ins n p else φ.to k := by
  funext i
  unfold Emb.to Emb.ins
  by_cases h1 : n < k
  · rw [if_pos h1]
    by_cases h2 : i = n
    · subst h2; simp [h1]
    · simp [h2]
  · rw [if_neg h1]
    by_cases h2 : i = n
    · subst h2; simp [h1]
    · simp [h2]

theorem HRel.empty {n : Nat} (h1 : ∀ i, n ≤ i → φ i = none) (h2 : ∀ i p, φ i = some p → p.blk < w.heap.size) : HRel φ ⟨n, []⟩ w :=
  ⟨fun i B p hB => by simp [getB] at hB, fun i j B C p q hB => by simp [getB] at hB, h1, h2⟩

variable {F : Fence} [Wide F]
theorem jn_step (hR : Run P N ops al m0 m S Pa V Hp KK) {φs : Emb} {a0 : Act} {ws : World} (hs0 : SOk φs (S 0).tmps a0 (KK 0)) (hf0 : ∀ i, (S 0).heap.next ≤ i → φs i = none) {listed : Array Bool} {a : Act}
    (hJ : Jn ops al m0 m N S Pa V φs a0 ws listed φ a w) {i : Nat} (hi : i < m) (hrd : i ∈ Region.ready .any ops listed) {Q : Exit → Act → World → Prop} {KQ : Act → World → Prop}
    (k : ∀ φ' a' w', Jn ops al m0 m N S Pa V φs a0 ws (listed.setIfInBounds i true) φ' a' w' → KQ a' w') : wpOpIn F 0 P ops Q i KQ a w := by
  obtain ⟨o, ao, ho, ha, hc⟩ := hR.al_some hi
  obtain ⟨hun, hdeps⟩ := ready_waits hrd ho
  have hiz : i < listed.size := by rw [hJ.sz]; exact Nat.lt_of_lt_of_le hi hR.le
  have hunf : listed.getD i false = false := by
    simp only [Array.getD_eq_getD_getElem?, Array.getElem?_eq_getElem hiz, Option.getD_some] at hun ⊢
    exact hun
  have hi0 : m0 ≤ i := by
    rcases Nat.lt_or_ge i m0 with h | h
    · rw [hJ.base i h] at hunf; cases hunf
    · exact h
  obtain ⟨hq, hSn⟩ := hR.step i ao hi0 hi ha
  obtain ⟨hdr1, hdr2⟩ := draw_spec hR.draw ho ha
  -- the masked list, under the ids that were known by then
  have hnm := hR.next_mono (i := 0) (j := i) (Nat.zero_le _) (Nat.le_of_lt hi)
  have hnm1 : ∀ j, j < i → (S (j + 1)).heap.next ≤ (S i).heap.next := fun j hj => hR.next_mono (by omega) (by omega)
  have hlesφ : φs.le (φ.to (S i).heap.next) := fun id p hp => by
    have hlt : id < (S 0).heap.next := by
      rcases Nat.lt_or_ge id (S 0).heap.next with h | h
      · exact h
      · rw [hf0 id h] at hp; cases hp
    unfold Emb.to
    rw [if_pos (by omega), hJ.old id hlt]
    exact hp
  have hsok : SOkE (φ.to (S i).heap.next) (S i).tmps (mask (readsA ao) (S i).tmps) a := by
    intro t sl hsl
    cases hR' : (readsA ao).contains t with
    | false =>
      have := slotAt_mask_out hR' _ _ hsl
      subst this
      exact ⟨rfl, fun _ => trivial, .inl rfl, trivial, .inl rfl⟩
    | true =>
      rw [slotAt_mask_in hR'] at hsl
      have hmem : t ∈ readsA ao := by simpa using hR'
      obtain ⟨hp1, hp2⟩ := hR.aok i hi0 (Nat.le_of_lt hi) t sl hsl
      refine ⟨slotAt_num _ _ _ hsl, ?_, ?_, hp1, .inr hsl⟩ <;>
        (rcases hR.slot (Nat.le_of_lt hi) t with ⟨j, x, hj0, hj, hx, hxd, hs'⟩ | ⟨hno, hs'⟩)
      · rw [hs'] at hsl
        cases hsl
        obtain ⟨ox, ax, hox, hax, hcx⟩ := hR.al_some (show j < m by omega)
        rw [hx] at hax
        cases hax
        have hw := ((hdr2 j ox t (by omega) hox (by rw [← hcx.dst]; exact hxd)).2 hmem).1 hj
        intro hcd
        exact relA_mono (Emb.to_mono φ (hnm1 j hj)) ((hJ.on j x t hj0 (by omega) (hdeps j hw) hx hxd).1 hcd)
      · intro hcd
        rw [hs'] at hsl
        have hk := hs0 t sl hsl
        rw [hJ.off t ?_]
        · exact relA_mono hlesφ (hk.on hcd)
        · intro j x hj0 hj hlj hx hxd
          by_cases hji : j < i
          · exact hno j x hj0 hji hx hxd
          · have hne : j ≠ i := fun e => by subst e; rw [hunf] at hlj; cases hlj
            obtain ⟨ox, ax, hox, hax, hcx⟩ := hR.al_some hj
            rw [hx] at hax
            cases hax
            have hw := ((hdr2 j ox t hne hox (by rw [← hcx.dst]; exact hxd)).2 hmem).2 (by omega)
            have := hJ.down j ox i hlj hox hw
            rw [hunf] at this
            cases this
      · rw [hs'] at hsl
        cases hsl
        obtain ⟨ox, ax, hox, hax, hcx⟩ := hR.al_some (show j < m by omega)
        rw [hx] at hax
        cases hax
        have hw := ((hdr2 j ox t (by omega) hox (by rw [← hcx.dst]; exact hxd)).2 hmem).1 hj
        exact .inr fun hcd => (hJ.on j x t hj0 (by omega) (hdeps j hw) hx hxd).2 hcd
      · refine .inr fun hcd => ?_
        rw [hs'] at hsl
        have hk := hs0 t sl hsl
        rw [hJ.off t ?_]
        · exact hk.off hcd
        · intro j x hj0 hj hlj hx hxd
          by_cases hji : j < i
          · exact hno j x hj0 hji hx hxd
          · have hne : j ≠ i := fun e => by subst e; rw [hunf] at hlj; cases hlj
            obtain ⟨ox, ax, hox, hax, hcx⟩ := hR.al_some hj
            rw [hx] at hax
            cases hax
            have hw := ((hdr2 j ox t hne hox (by rw [← hcx.dst]; exact hxd)).2 hmem).2 (by omega)
            have := hJ.down j ox i hlj hox hw
            rw [hunf] at this
            cases this
  have hgm : ∀ H, gpath ⟨mask (readsA ao) (S i).tmps, H⟩ ao.guard = some (Pa i) := by
    intro H
    rw [← hq.1]
    cases hg : ao.guard with
    | none => rfl
    | some g =>
      obtain ⟨d, ww⟩ := g
      simp only [gpath]
      rw [slotAt_mask_in (by simp [readsA, hg])]
  have ham : aop ⟨mask (readsA ao) (S i).tmps, (S i).heap⟩ (Pa i) ao.op = aop (S i) (Pa i) ao.op :=
    aop_congr fun t ht => slotAt_mask_in (by simp only [List.contains_eq_mem, decide_eq_true_eq, readsA, List.mem_append]; exact .inr ht) _
  have hno : ao.op ≠ .other := fun h => by
    rcases hq.2 with ⟨_, _, e, _⟩ | ⟨_, _, _, e, _⟩ | ⟨_, _, _, e, _⟩ <;> (rw [h] at e; simp [aop_other] at e)
  -- how far the heap is turned
  have hstg : quietOp ao.op = false → addrOf ao.op = none → Stg al m0 m listed i := fun hnq hna j aj hj0 hj haj ht => by
    obtain ⟨oj, aj', hoj, haj', _⟩ := hR.al_some hj
    rw [haj] at haj'
    cases haj'
    by_cases hji : j = i
    · subst hji
      rw [hunf]
      constructor
      · intro h; cases h
      · intro h; omega
    · obtain ⟨g1, g2⟩ := hR.mid j aj oj hj0 hj haj hoj ht i ao o hi0 hi ha ho (Ne.symm hji) hnq
      have g1 := fun h => (g1 h).resolve_right fun h => by rw [hna] at h; simp at h
      have g2 := fun h => (g2 h).resolve_right fun ⟨a, h, _⟩ => by rw [hna] at h; cases h
      constructor
      · intro hl
        rcases Nat.lt_or_gt_of_ne hji with h | h
        · exact h
        · have := g2 h (fun x => listed.getD x false = true) (fun i o j => hJ.down i o j) (fun x hx => hJ.down j oj x hl hoj hx)
          rw [hunf] at this
          cases this
      · intro h
        exact g1 h (fun x => listed.getD x false = true) (fun i o j => hJ.down i o j) hdeps
  have hls : ∀ j, (listed.setIfInBounds i true).getD j false = true → j = i ∨ listed.getD j false = true := fun j hj => by
    by_cases e : j = i
    · exact .inl e
    · rw [getD_set_ne false (Ne.symm e)] at hj; exact .inr hj
  -- how the facts go on
  have next : ∀ φ' x w', φ.le φ' → (∀ k, k ≤ m → Stg al m0 m (listed.setIfInBounds i true) k → HRel (φ'.to (S k).heap.next) (S k).heap w' ∧ Fr φs (S 0).heap ws (φ'.to (S k).heap.next) (S k).heap w') →
      (∀ k X B p, k ≤ m → getB (S k).heap.blks X = some B → OffD al S m0 m (listed.setIfInBounds i true) k X → (φ'.to (S k).heap.next) X = some p → BRel (φ'.to (S k).heap.next) B p w') →
      (∀ id p, φ' id = some p → p.blk < w'.heap.size) → (∀ id, (S m).heap.next ≤ id → φ' id = none) → (∀ j, j < m → j ≠ i → listed.getD j false = false → ∀ id, (S j).heap.next ≤ id → id < (S (j + 1)).heap.next → φ' id = none) → (∀ id, id < (S 0).heap.next → φ' id = φs id) →
      (conds (Pa i) → relA (φ'.to (S (i + 1)).heap.next) (V i) x) → (¬ conds (Pa i) → x = undef) → Jn ops al m0 m N S Pa V φs a0 ws (listed.setIfInBounds i true) φ' (a.put o.dst x) w' := by
    intro φ' x w' hle hh hhb hbl hfr hun' hold h1 h2
    have hle_to : ∀ k, (φ.to k).le (φ'.to k) := fun k id p hp => by
      unfold Emb.to at *
      split at hp
      · rw [if_pos (by assumption)]; exact hle _ _ hp
      · cases hp
    refine ⟨by simp [hJ.sz], fun j hj => ?_, fun j hj => getD_set_true (hJ.base j hj), fun j oj l hj hoj hw => ?_, hh, hhb, hbl, hfr, fun j hj hlj => ?_, fun j x' d hj0 hj hlj hx' hd => ?_, fun t ht => ?_, hold, by rw [put_defers']; exact hJ.defers, by rw [put_size]; exact hJ.size⟩
    · rcases hls j hj with rfl | h
      · exact hi
      · exact hJ.lt j h
    · refine getD_set_true ?_
      rcases hls j hj with rfl | h
      · rw [ho] at hoj; cases hoj; exact hdeps l hw
      · exact hJ.down j oj l h hoj hw
    · have hji : j ≠ i := fun e => by subst e; rw [getD_set_self hiz] at hlj; cases hlj
      rw [getD_set_ne false (Ne.symm hji)] at hlj
      exact hun' j hj hji hlj
    · by_cases hji : j = i
      · subst hji
        rw [ha] at hx'
        cases hx'
        have hod : o.dst = some d := by rw [← hc.dst]; exact hd
        have hdN : d < a.tmps.size := by
          rw [hJ.size]
          exact hc.lt.resolve_left hno d hod
        rw [hod, getD_put_self hdN]
        exact ⟨h1, h2⟩
      · obtain ⟨oj, ax, hoj, hax, hcx⟩ := hR.al_some hj
        rw [hx'] at hax
        cases hax
        have hlj' := (hls j hlj).resolve_left hji
        obtain ⟨g1, g2⟩ := hJ.on j x' d hj0 hj hlj' hx' hd
        have hne : o.dst ≠ some d := (hdr2 j oj d hji hoj (by rw [← hcx.dst]; exact hd)).1
        have e : (a.put o.dst x).tmps.getD d undef = a.tmps.getD d undef := by
          cases hod : o.dst with
          | none => rfl
          | some e => rw [getD_put_ne]; intro h; subst h; exact hne hod
        rw [e]
        exact ⟨fun hcd => relA_mono (hle_to _) (g1 hcd), g2⟩
    · have hne : o.dst ≠ some t := by rw [← hc.dst]; exact ht i ao hi0 hi (getD_set_self hiz _) ha
      have e : (a.put o.dst x).tmps.getD t undef = a.tmps.getD t undef := by
        cases hod : o.dst with
        | none => rfl
        | some e => rw [getD_put_ne]; intro h; subst h; exact hne hod
      rw [e]
      exact hJ.off t fun j x' hj0 hj hlj hx' => ht j x' hj0 hj (getD_set_true hlj) hx'
  have hto_fresh : ∀ n i, n ≤ i → (φ.to n) i = none := fun n i h => by unfold Emb.to; rw [if_neg (by omega)]
  have hto_bl : ∀ n i p, (φ.to n) i = some p → p.blk < w.heap.size := fun n i p h => hJ.bl i p (Emb.to_le φ n i p h)
  have hto_fresh' : ∀ (ψ : Emb) n i, n ≤ i → (ψ.to n) i = none := fun ψ n i h => by unfold Emb.to; rw [if_neg (by omega)]
  refine wpOp_stp ho ?_
  cases htl : ao.tl with
  | true =>
    have hchg := hR.chg i ao hi0 hi ha htl
    have hnq := chg_noquiet hchg
    have hna := chg_noaddr hchg
    have hst := hstg hnq hna
    obtain ⟨hHi, hFi⟩ := hJ.hr i (Nat.le_of_lt hi) hst
    -- what stands behind has not been
    have hbeh : ∀ j aj, j < m → al[j]? = some aj → j ≠ i → quietOp aj.op = false → addrOf aj.op = none → (listed.getD j false = true ↔ j < i) := fun j aj hj haj hji hq' hna' => by
      by_cases hj0 : m0 ≤ j
      rotate_left
      · exact ⟨fun _ => by omega, fun _ => hJ.base j (by omega)⟩
      obtain ⟨oj, aj', hoj, haj', _⟩ := hR.al_some hj
      rw [haj] at haj'
      cases haj'
      obtain ⟨g1, g2⟩ := hR.mid i ao o hi0 hi ha ho htl j aj oj hj0 hj haj hoj hji hq'
      have g1 := fun h => (g1 h).resolve_right fun h => by rw [hna'] at h; simp at h
      have g2 := fun h => (g2 h).resolve_right fun ⟨a, h, _⟩ => by rw [hna'] at h; cases h
      constructor
      · intro hl
        rcases Nat.lt_or_gt_of_ne hji with h | h
        · exact h
        · have := g1 h (fun x => listed.getD x false = true) (fun i o j => hJ.down i o j) (fun x hx => hJ.down j oj x hl hoj hx)
          rw [hunf] at this
          cases this
      · intro h
        exact g2 h (fun x => listed.getD x false = true) (fun i o j => hJ.down i o j) hdeps
    have hqn : ∀ j aj, j < m → al[j]? = some aj → quietOp aj.op = true ∨ addrOf aj.op ≠ none → (S (j + 1)).heap.next = (S j).heap.next := fun j aj hj haj hq' => by
      by_cases hj0 : m0 ≤ j
      rotate_left
      · rw [hR.same_lo hj0]
      rw [hR.heap_succ hj0 hj]
      rcases (hR.step j aj hj0 hj haj).1.2 with ⟨_, B, e, _, e'⟩ | ⟨_, ht, _⟩ | ⟨_, _, M, e, _⟩
      · rcases hq' with hq' | hq'
        · rcases quiet_shape (s := S j) (π := Pa j) hq' with ⟨n, v, h⟩ | h
          · rw [h] at e; cases e; rw [e']; rfl
          · rw [h] at e; cases e
        · rw [load_p hq' e] at e'; rw [e']; rfl
      · rcases hq' with hq' | hq'
        · rw [chg_noquiet (hR.chg j aj hj0 hj haj ht)] at hq'; cases hq'
        · exact absurd (chg_noaddr (hR.chg j aj hj0 hj haj ht)) hq'
      · exfalso
        rcases hq' with hq' | hq'
        · rcases quiet_shape (s := S j) (π := Pa j) hq' with ⟨n, v, h⟩ | h <;> (rw [h] at e; cases e)
        · exact load_call hq' e
    have hfloat : ∀ aj : AOper, (quietOp aj.op = true ∨ addrOf aj.op ≠ none) ∨ (quietOp aj.op = false ∧ addrOf aj.op = none) := fun aj => by
      cases quietOp aj.op <;> cases addrOf aj.op <;> simp
    have hnone : ∀ id, (S i).heap.next ≤ id → φ id = none := fun id hid => by
      rcases Nat.lt_or_ge id (S m).heap.next with h | h
      · have : ∀ k, i ≤ k → k ≤ m → id < (S k).heap.next → φ id = none := by
          intro k hk
          induction hk with
          | refl => intro _ h; omega
          | step hk ih =>
            rename_i k
            intro hkm h
            have hk : i ≤ k := hk
            rcases Nat.lt_or_ge id (S k).heap.next with h' | h'
            · exact ih (by omega) h'
            · obtain ⟨ok, ak, hok, hak, _⟩ := hR.al_some (show k < m by omega)
              refine hJ.un k (by omega) ?_ id h' h
              by_cases hki : k = i
              · subst hki; exact hunf
              · rcases hfloat ak with hq' | ⟨hq', hna'⟩
                · have h : id < (S (k + 1)).heap.next := h
                  rw [hqn k ak (by omega) hak hq'] at h
                  omega
                · cases hl : listed.getD k false with
                  | false => rfl
                  | true => have := (hbeh k ak (by omega) hak hki hq' hna').1 hl; omega
        exact this m (Nat.le_of_lt hi) (Nat.le_refl _) h
      · exact hJ.fresh id h
    have hto : φ.to (S i).heap.next = φ := Emb.to_self hnone
    rw [hto] at hHi hFi
    -- behind it
    have fin : ∀ φ' x w', HRel φ' (S (i + 1)).heap w' → Fr φ (S i).heap w φ' (S (i + 1)).heap w' → (∀ b, b < w.heap.size → (tgtOf (S i) ao.op).phys φ b → w'.heap[b]? = w.heap[b]?) → (conds (Pa i) → relA φ' (V i) x) → (¬ conds (Pa i) → x = undef) → KQ (a.put o.dst x) w' := fun φ' x w' hH' hF' hph h1 h2 => by
      have hto' : ∀ k, i + 1 ≤ k → k ≤ m → φ'.to (S k).heap.next = φ' := fun k h1 h2 => Emb.to_self fun id hid => hH'.fresh id (Nat.le_trans (hR.next_mono h1 h2) hid)
      have hne_i : ∀ t, (listed.setIfInBounds i true).getD t false = true → t ≠ i → listed.getD t false = true := fun t ht hti => (hls t ht).resolve_left hti
      refine k φ' _ _ (next φ' x w' hF'.le (fun k hk hsk => ?_) (fun k X B p hk hB hoff hp => ?_) hH'.lt (fun id hid => hH'.fresh id (Nat.le_trans (hR.next_mono (by omega) (Nat.le_refl _)) hid)) (fun j hj hji hlj id h1 h2 => ?_) (fun id hid => ?_) (fun hcd => by rw [hto' (i + 1) (Nat.le_refl _) (by omega)]; exact h1 hcd) h2)
      · have hik : i < k := (hsk i ao hi0 hi ha htl).1 (getD_set_self hiz _)
        have hstill : still al m0 (i + 1) k := fun t at' h0 h1 h2 hat => by
          cases ht : at'.tl with
          | false => rfl
          | true =>
            have := (hsk t at' h0 (by omega) hat ht).2 h2
            have hlt := hne_i t this (by omega)
            have := (hst t at' h0 (by omega) hat ht).1 hlt
            omega
        rw [hto' k hik hk]
        obtain ⟨g1, g2⟩ := hH'.grown (w' := w') rfl rfl rfl (Nat.le_refl _) (fun _ _ => rfl) (K := (S k).heap) (hR.next_mono hik hk) fun j D hj hne => by
          have hlt : j < (S (i + 1)).heap.next := by
            rcases Nat.lt_or_ge j (S (i + 1)).heap.next with h | h
            · exact h
            · exact absurd (hH'.fresh j h) hne
          rw [hR.getB_old hik hk hstill j hlt] at hj
          exact hj
        exact ⟨g1, (hFi.trans hF').trans g2⟩
      · rcases Nat.lt_or_ge i k with hik | hki
        · rw [hto' k hik hk] at hp ⊢
          have hlt : X < (S (i + 1)).heap.next := by
            rcases Nat.lt_or_ge X (S (i + 1)).heap.next with h | h
            · exact h
            · rw [hH'.fresh X h] at hp; cases hp
          rw [hR.getB_at hik hk (fun t at' h0 h1 h2 hat ht => hoff t at' h0 (by omega) hat ht fun he => by
            have h3 := hne_i t (he.2 h2) (by omega)
            have := (hst t at' h0 (by omega) hat ht).1 h3
            omega) hlt] at hB
          exact hH'.blk X B p hB hp
        · have hpk : φ' X = some p ∧ X < (S k).heap.next := by
            unfold Emb.to at hp
            split at hp
            · exact ⟨hp, by assumption⟩
            · cases hp
          have hnk := hR.next_mono hki (Nat.le_of_lt hi)
          have hpX : φ X = some p := by rw [← hF'.same X (by omega)]; exact hpk.1
          have hle_to : (φ.to (S k).heap.next).le (φ'.to (S k).heap.next) := fun id q hq' => by
            unfold Emb.to at *
            split at hq'
            · rw [if_pos (by assumption)]; exact hF'.le _ _ hq'
            · cases hq'
          have hoffi : (tgtOf (S i) ao.op).off X := hoff i ao hi0 hi ha htl fun he => by
            have := he.1 (getD_set_self hiz _)
            omega
          have hBi : getB (S i).heap.blks X = some B := by
            rw [hR.getB_at hki (Nat.le_of_lt hi) (fun t at' h0 h1 h2 hat ht => hoff t at' h0 (by omega) hat ht fun he => by
              have h3 := getD_set_true (i := i) ((hst t at' h0 (by omega) hat ht).2 h2)
              have := he.1 h3
              omega) hpk.2]
            exact hB
          have hold := hJ.hb k X B p hk hB (fun t at' h0 h1 h2 h3 h4 => hoff t at' h0 h1 h2 h3 fun he => by
            by_cases hti : t = i
            · subst hti; exact h4 ⟨fun h => (by rw [hunf] at h; cases h), fun h => (by omega)⟩
            · rw [getD_set_ne false (Ne.symm hti)] at he; exact h4 he) (by unfold Emb.to; rw [if_pos hpk.2]; exact hpX)
          refine (hold.mono hle_to).keep (hph p.blk (hJ.bl X p hpX) ?_)
          generalize htg : tgtOf (S i) ao.op = τ at hoffi
          cases τ with
          | all => exact hoffi.elim
          | no => trivial
          | one Y =>
            intro q hq' e
            obtain ⟨BY, hBY, hwr⟩ := tgt_wr (hR.step i ao hi0 hi ha).1 htl hchg htg
            exact hHi.inj Y X BY B q p hBY hBi hq' hpX hoffi hwr e
      · obtain ⟨oj, aj, hoj, haj, _⟩ := hR.al_some hj
        rcases hfloat aj with hq' | ⟨hq', hna'⟩
        · rw [hqn j aj hj haj hq'] at h2; omega
        · rcases Nat.lt_or_gt_of_ne hji with h | h
          · rw [(hbeh j aj hj haj hji hq' hna').2 h] at hlj; cases hlj
          · exact hH'.fresh id (Nat.le_trans (hR.next_mono h (Nat.le_of_lt hj)) h1)
      · rw [hF'.same id (by omega)]; exact hJ.old id hid
    rw [hto] at hsok
    rcases hq.2 with ⟨need, B, e, hn, e'⟩ | ⟨need, _, hπ, e, hn, hx⟩ | ⟨f, args, _, e, _⟩
    · have hB := chg_p hchg e
      subst hB
      refine step_p hc hsok hHi (hgm _) (by rw [ham]; exact e) hn fun φ' x w' hnb h1 h2 => ?_
      obtain ⟨rfl, rfl⟩ := hnb
      have eh : (S (i + 1)).heap = (S i).heap := by rw [hR.heap_succ hi0 hi, e']; rfl
      exact fin _ x _ (by rw [eh]; exact hHi) (by rw [eh]; exact Fr.refl _ _ _) (fun _ _ _ => rfl) h1 h2
    · have hgm' := hgm (S i).heap
      rw [hπ] at hgm' ham
      refine step_t hc hsok hHi hgm' (by rw [ham]; exact e) hn fun φ' x w' hH' hF' hv hph => ?_
      rw [← hR.heap_succ hi0 hi] at hH' hF'
      have etg : tgtOf ⟨mask (readsA ao) (S i).tmps, (S i).heap⟩ ao.op = tgtOf (S i) ao.op := tgt_congr fun t ht => slotAt_mask_in (by simp only [List.contains_eq_mem, decide_eq_true_eq, readsA, List.mem_append]; exact .inr ht) _
      exact fin φ' x w' hH' hF' (fun b h1 h2 => hph b h1 (by rw [etg]; exact h2)) (fun _ => hv) (fun h => absurd (by rw [hπ]; trivial) h)
    · exact (chg_call hchg e).elim
  | false =>
    -- the heap is as far turned as it was
    have hst' : ∀ k, Stg al m0 m (listed.setIfInBounds i true) k → Stg al m0 m listed k := fun k hk j aj hj0 hj haj ht => by
      have hji : j ≠ i := fun e => by subst e; rw [ha] at haj; cases haj; rw [htl] at ht; cases ht
      have := hk j aj hj0 hj haj ht
      rwa [getD_set_ne false (Ne.symm hji)] at this
    have hoff' : ∀ k X, OffD al S m0 m (listed.setIfInBounds i true) k X → OffD al S m0 m listed k X := fun k X hk j aj hj0 hj haj ht hd => by
      have hji : j ≠ i := fun e => by subst e; rw [ha] at haj; cases haj; rw [htl] at ht; cases ht
      refine hk j aj hj0 hj haj ht ?_
      rwa [getD_set_ne false (Ne.symm hji)]
    -- nothing is made
    have same : ∀ x w', Grow w w' → (conds (Pa i) → relA (φ.to (S (i + 1)).heap.next) (V i) x) → (¬ conds (Pa i) → x = undef) → KQ (a.put o.dst x) w' := fun x w' hgr h1 h2 =>
      k φ _ _ (next φ x w' φ.le_refl (fun k hk hsk => by
          obtain ⟨g1, g2⟩ := hJ.hr k hk (hst' k hsk)
          obtain ⟨q1, q2⟩ := g1.grown hgr.os hgr.tape hgr.output hgr.size hgr.block (K := (S k).heap) (Nat.le_refl _) (fun _ _ h _ => h)
          exact ⟨q1, g2.trans q2⟩)
        (fun k X B p hk hB hoff hp => (hJ.hb k X B p hk hB (hoff' k X hoff) hp).keep (hgr.block _ (hJ.bl X p (Emb.to_le φ _ _ _ hp))))
        (fun id p hp => Nat.lt_of_lt_of_le (hJ.bl id p hp) hgr.size) hJ.fresh (fun j hj _ hlj => hJ.un j hj hlj) hJ.old h1 h2)
    have hnomore : (S i).heap.next ≤ (S (i + 1)).heap.next := hR.next_succ hi
    cases hqt : quietOp ao.op with
    | true =>
      rcases hq.2 with ⟨need, B, e, hn, e'⟩ | ⟨_, ht, _⟩ | ⟨f, args, _, e, _⟩
      · have hB : B = none := by
          rcases quiet_shape (s := S i) (π := Pa i) hqt with ⟨n, v, h⟩ | h
          · rw [h] at e; cases e; rfl
          · rw [h] at e; cases e
        subst hB
        refine step_p hc hsok (HRel.empty (hto_fresh (S i).heap.next) (hto_bl _)) (hgm _) (by rw [quiet_aop hqt (H' := (S i).heap), ham]; exact e) hn fun φ' x w' hnb h1 h2 => ?_
        obtain ⟨rfl, rfl⟩ := hnb
        exact same x _ (Grow.refl _) (fun hcd => relA_mono (Emb.to_mono φ hnomore) (h1 hcd)) h2
      · rw [htl] at ht; cases ht
      · rcases quiet_shape (s := S i) (π := Pa i) hqt with ⟨n, v, h⟩ | h <;> (rw [h] at e; cases e)
    | false =>
     cases hla : addrOf ao.op with
     | some ad =>
      -- a load: its block is as the text's order has it
      rcases hq.2 with ⟨need, B, e, hn, e'⟩ | ⟨_, ht, _⟩ | ⟨f, args, _, e, _⟩
      · obtain ⟨n, p, q, hsl, Bq, hBq⟩ := load_at hla e
        have hBn := load_p (by rw [hla]; simp) e
        subst hBn
        have hoffq : OffD al S m0 m listed i q.id := fun j aj hj0 hj haj ht hd => by
          obtain ⟨oj, aj', hoj, haj', _⟩ := hR.al_some hj
          rw [haj] at haj'
          cases haj'
          have hji : j ≠ i := fun e => by subst e; rw [ha] at haj; cases haj; rw [htl] at ht; cases ht
          obtain ⟨g1, g2⟩ := hR.mid j aj oj hj0 hj haj hoj ht i ao o hi0 hi ha ho (Ne.symm hji) hqt
          obtain ⟨hqj, _⟩ := hR.step j aj hj0 hj haj
          rcases Nat.lt_or_gt_of_ne hji with h | h
          · rcases g1 h with g | ⟨_, g⟩
            · exfalso
              exact hd ⟨fun _ => h, fun _ => g (fun x => listed.getD x false = true) (fun i o j => hJ.down i o j) hdeps⟩
            · exact tgt_nil g
          · rcases g2 h with g | ⟨ad', g, g'⟩
            · exfalso
              refine hd ⟨fun hl => ?_, fun h' => by omega⟩
              have := g (fun x => listed.getD x false = true) (fun i o j => hJ.down i o j) (fun x hx => hJ.down j oj x hl hoj hx)
              rw [hunf] at this
              cases this
            · rw [hla] at g
              cases g
              rcases g' with g' | ⟨gs, g', gw⟩
              · exact tgt_nil g'
              · have hsj : slotAt (S j).tmps ad = some ⟨n, p, .c (.ptr q)⟩ := by
                  rw [hR.slot_same (Nat.le_of_lt h) (Nat.le_of_lt hj) fun k ak _ h1 h2 hak => gw k ak h1 (by omega) hak]
                  exact hsl
                rcases hqj.2 with ⟨_, _, e2, _⟩ | ⟨_, _, _, _, _, hx⟩ | ⟨_, _, _, e2, _⟩
                · exact (st_no_p gs e2).elim
                · exact tgt_exOk hx g' hsj
                · exact (chg_call (hR.chg j aj hj0 hj haj ht) e2).elim
        have hH1 : HRel (φ.to (S i).heap.next) ⟨(S i).heap.next, [(q.id, Bq)]⟩ w := by
          refine ⟨fun j D p hD hp => ?_, fun j k D E p r hD hE hp hr hne hw => ?_, hto_fresh _, hto_bl _⟩
          · by_cases hj : j = q.id
            · subst hj
              rw [getB_cons_self] at hD
              cases hD
              exact hJ.hb i q.id Bq p (Nat.le_of_lt hi) hBq hoffq hp
            · rw [getB_cons_ne hj] at hD; simp [getB] at hD
          · by_cases hj : j = q.id
            · by_cases hk : k = q.id
              · exact absurd (hj.trans hk.symm) hne
              · rw [getB_cons_ne hk] at hE; simp [getB] at hE
            · rw [getB_cons_ne hj] at hD; simp [getB] at hD
        have hsl' : slotAt (mask (readsA ao) (S i).tmps) ad = some ⟨n, p, .c (.ptr q)⟩ := by
          rw [slotAt_mask_in]
          · exact hsl
          · simp only [List.contains_eq_mem, decide_eq_true_eq, readsA, List.mem_append]; exact .inr (addr_reads hla)
        refine step_p hc hsok hH1 (hgm _) (by rw [load_one hla hsl' hBq, ham]; exact e) hn fun φ' x w' hnb h1 h2 => ?_
        obtain ⟨rfl, rfl⟩ := hnb
        exact same x _ (Grow.refl _) (fun hcd => relA_mono (Emb.to_mono φ hnomore) (h1 hcd)) h2
      · rw [htl] at ht; cases ht
      · exact (load_call (by rw [hla]; simp) e).elim
     | none =>
      have hst := hstg hqt hla
      obtain ⟨hHi, hFi⟩ := hJ.hr i (Nat.le_of_lt hi) hst
      rcases hq.2 with ⟨need, B, e, hn, e'⟩ | ⟨_, ht, _⟩ | ⟨f, args, M, e, e', hM, hcon⟩
      · refine step_p hc hsok hHi (hgm _) (by rw [ham]; exact e) hn fun φ' x w' hnb h1 h2 => ?_
        cases hB : B with
        | none =>
          rw [hB] at hnb
          obtain ⟨rfl, rfl⟩ := hnb
          exact same x _ (Grow.refl _) (fun hcd => relA_mono (Emb.to_mono φ hnomore) (h1 hcd)) h2
        | some B =>
          rw [hB] at hnb
          have hHp : (S (i + 1)).heap = addBlk (S i).heap (some B) := by rw [hR.heap_succ hi0 hi, e', hB]
          have hnx : (S (i + 1)).heap.next = (S i).heap.next + 1 := by rw [hHp]; rfl
          rcases hnb with ⟨hcd, cs, cap, rfl, rfl, hb⟩ | ⟨hcd, rfl, rfl⟩
          · have hphi : φ (S i).heap.next = none := hJ.un i hi hunf _ (Nat.le_refl _) (by omega)
            let p : Place := ⟨w.heap.size, 0, B.str, cap⟩
            have hnm2 : (S (i + 1)).heap.next ≤ (S m).heap.next := hR.next_mono (by omega) (Nat.le_refl _)
            have hto1 : (φ.ins (S i).heap.next p).to (S (i + 1)).heap.next = (φ.to (S i).heap.next).ins (S i).heap.next p := by
              rw [ins_to, if_pos (by omega), hnx]
              funext id
              unfold Emb.ins Emb.to
              by_cases h : id = (S i).heap.next
              · simp [h]
              · by_cases h2 : id < (S i).heap.next
                · simp [h, h2, Nat.lt_succ_of_lt h2]
                · simp [h, h2, show ¬ id < (S i).heap.next + 1 by omega]
            refine k (φ.ins (S i).heap.next p) _ _ (next (φ.ins (S i).heap.next p) x _ (Emb.le_ins hphi) (fun kk hkk hsk => ?_) (fun kk X B' p' hkk hB' hoff hp' => ?_) (fun id q hq' => ?_) (fun id hid => ?_) (fun j hj hji hlj id g1 g2 => ?_) (fun id hid => ?_) (fun hcd => by rw [hto1]; exact h1 hcd) h2)
            · have hsk := hst' kk hsk
              obtain ⟨g1, g2⟩ := hJ.hr kk hkk hsk
              have hgrow := Grow.alloc w (.cells cs B.elem)
              obtain ⟨q1, q2⟩ := g1.grown hgrow.os hgrow.tape hgrow.output hgrow.size hgrow.block (K := (S kk).heap) (Nat.le_refl _) (fun _ _ h _ => h)
              rw [ins_to]
              by_cases hk : (S i).heap.next < (S kk).heap.next
              · rw [if_pos hk]
                have hik : i + 1 ≤ kk := by
                  rcases Nat.lt_or_ge i kk with h | h
                  · exact h
                  · have := hR.next_mono h (Nat.le_of_lt hi); omega
                have hstill : still al m0 (i + 1) kk := fun t at' h0 h1 h2 hat => by
                  cases ht : at'.tl with
                  | false => rfl
                  | true =>
                    have h3 := (hsk t at' h0 (by omega) hat ht).2 h2
                    have := (hst t at' h0 (by omega) hat ht).1 h3
                    omega
                have hgB : getB (S kk).heap.blks (S i).heap.next = some B := by
                  rw [hR.getB_old hik hkk hstill _ (by omega), hHp]
                  exact getB_cons_self _ _ _
                have hphik : (φ.to (S kk).heap.next) (S i).heap.next = none := by unfold Emb.to; rw [if_pos hk]; exact hphi
                have hbk : BRel ((φ.to (S kk).heap.next).ins (S i).heap.next p) B p (w.alloc (.cells cs B.elem)) := by
                  have hle : ((φ.to (S i).heap.next).ins (S i).heap.next p).le ((φ.to (S kk).heap.next).ins (S i).heap.next p) := fun id q hq' => by
                    unfold Emb.ins at *
                    split at hq'
                    · rw [if_pos (by assumption)]; exact hq'
                    · rw [if_neg (by assumption)]; exact Emb.to_mono φ (by omega) _ _ hq'
                  exact ⟨hb.str, fun r hr => let ⟨xs, g1, g2, g3⟩ := hb.rows r hr; ⟨xs, g1.mono fun _ _ => rel_mono hle, g2, g3⟩, hb.own⟩
                have hdef := g1.define hgrow hphik hk hgB hbk (Nat.le_refl _) (by simp only [World.size_alloc]; exact Nat.lt_succ_self _)
                refine ⟨hdef, ?_⟩
                have hf := g2.trans q2
                refine ⟨Emb.le_trans hf.le (Emb.le_ins hphik), fun id hid => ?_, hf.nx, hf.size, hf.os, hf.tape, hf.output, hf.old, fun id D q hD hw hq' => ?_⟩
                · have : id ≠ (S i).heap.next := by omega
                  simp only [Emb.ins, if_neg this]
                  exact hf.same id hid
                · by_cases hid : id = (S i).heap.next
                  · subst hid
                    rw [Emb.ins_self] at hq'
                    cases hq'
                    exact .inl g2.size
                  · simp only [Emb.ins, if_neg hid] at hq'
                    exact hf.own id D q hD hw hq'
              · rw [if_neg hk]
                exact ⟨q1, g2.trans q2⟩
            · have hoff := hoff' kk X hoff
              by_cases hX : X = (S i).heap.next
              · subst hX
                have hk : (S i).heap.next < (S kk).heap.next := by
                  rcases Nat.lt_or_ge (S i).heap.next (S kk).heap.next with h | h
                  · exact h
                  · rw [hto_fresh' _ _ _ h] at hp'; cases hp'
                have hik : i + 1 ≤ kk := by
                  rcases Nat.lt_or_ge i kk with h | h
                  · exact h
                  · have := hR.next_mono h (Nat.le_of_lt hi); omega
                have hgB : getB (S kk).heap.blks (S i).heap.next = some B := by
                  rw [hR.getB_at hik hkk (fun t at' h0 g1 g2 hat ht => hoff t at' h0 (by omega) hat ht fun he => by
                    have h3 := he.2 g2
                    have := (hst t at' h0 (by omega) hat ht).1 h3
                    omega) (by omega), hHp]
                  exact getB_cons_self _ _ _
                rw [hgB] at hB'
                cases hB'
                have hpp : p' = p := by
                  unfold Emb.to at hp'
                  rw [if_pos hk, Emb.ins_self] at hp'
                  cases hp'; rfl
                subst hpp
                refine hb.mono fun id q hq' => ?_
                rw [← hto1] at hq'
                exact Emb.to_mono _ (hR.next_mono hik hkk) _ _ hq'
              · have hp2 : (φ.to (S kk).heap.next) X = some p' := by
                  unfold Emb.to at hp' ⊢
                  split at hp'
                  · rw [if_pos (by assumption)]
                    simpa [Emb.ins, hX] using hp'
                  · cases hp'
                have hlt := hJ.bl X p' (Emb.to_le φ _ _ _ hp2)
                refine ((hJ.hb kk X B' p' hkk hB' hoff hp2).mono fun id q hq' => ?_).keep (heap_alloc_lt w _ hlt)
                unfold Emb.to at hq' ⊢
                split at hq'
                · rw [if_pos (by assumption)]; exact Emb.le_ins hphi _ _ hq'
                · cases hq'
            · by_cases h : id = (S i).heap.next
              · subst h; rw [Emb.ins_self] at hq'; cases hq'; simp only [World.size_alloc]; exact Nat.lt_succ_self _
              · simp only [Emb.ins, if_neg h] at hq'
                exact Nat.lt_of_lt_of_le (hJ.bl id q hq') (by simp)
            · simp only [Emb.ins]; rw [if_neg (by omega)]; exact hJ.fresh id hid
            · have hne : id ≠ (S i).heap.next := by
                intro e
                rcases Nat.lt_or_gt_of_ne hji with h | h
                · have := hR.next_mono (i := j + 1) (j := i) (by omega) (by omega)
                  omega
                · have := hR.next_mono (i := i + 1) (j := j) (by omega) (by omega)
                  omega
              simp only [Emb.ins, if_neg hne]
              exact hJ.un j hj hlj id g1 g2
            · simp only [Emb.ins]; rw [if_neg (by omega)]; exact hJ.old id hid
          · exact same x _ (Grow.refl _) (fun h => absurd h hcd) h2
      · rw [htl] at ht; cases ht
      · have hHp : (S (i + 1)).heap = addBs (S i).heap M := by rw [hR.heap_succ hi0 hi, e']
        have hnx : (S (i + 1)).heap.next = (S i).heap.next + M.length := by rw [hHp, addBs_next]
        refine step_quiet hc hsok hHi (hgm _) (by rw [ham]; exact e) hM hcon (fun ψ x w' hcd hmd hv => ?_) (fun hnc => same undef w (Grow.refl _) (fun h => absurd h hnc) (fun _ => rfl))
        have hgr := hmd.gr
        let φ2 : Emb := fun id => if (S i).heap.next ≤ id ∧ id < (S (i + 1)).heap.next then ψ id else φ id
        have h2new : ∀ id, (S i).heap.next ≤ id → id < (S (i + 1)).heap.next → φ2 id = ψ id := fun id h1 h2 => if_pos ⟨h1, h2⟩
        have h2old : ∀ id, ¬ ((S i).heap.next ≤ id ∧ id < (S (i + 1)).heap.next) → φ2 id = φ id := fun id h => if_neg h
        have hun' : ∀ id, (S i).heap.next ≤ id → id < (S (i + 1)).heap.next → φ id = none := hJ.un i hi hunf
        have hle2 : φ.le φ2 := fun id p hp => by
          by_cases h : (S i).heap.next ≤ id ∧ id < (S (i + 1)).heap.next
          · rw [hun' id h.1 h.2] at hp; cases hp
          · rw [h2old id h]; exact hp
        have hψ2 : ψ.le φ2 := fun id p hp => by
          rcases Nat.lt_or_ge id (S i).heap.next with h | h
          · rw [h2old id (by omega)]
            rw [hmd.same id h] at hp
            exact Emb.to_le _ _ _ _ hp
          · have hlt : id < (S (i + 1)).heap.next := by
              rcases Nat.lt_or_ge id (S (i + 1)).heap.next with h' | h'
              · exact h'
              · rw [hmd.fresh id (by omega)] at hp; cases hp
            rw [h2new id h hlt]; exact hp
        have hψto : ∀ kk, (S (i + 1)).heap.next ≤ (S kk).heap.next → ψ.le (φ2.to (S kk).heap.next) := fun kk hk id p hp => by
          have hlt : id < (S (i + 1)).heap.next := by
            rcases Nat.lt_or_ge id (S (i + 1)).heap.next with h' | h'
            · exact h'
            · rw [hmd.fresh id (by omega)] at hp; cases hp
          unfold Emb.to
          rw [if_pos (by omega)]
          exact hψ2 id p hp
        have hle_to : ∀ kk, (φ.to (S kk).heap.next).le (φ2.to (S kk).heap.next) := fun kk id q hq' => by
          unfold Emb.to at *
          split at hq'
          · rw [if_pos (by assumption)]; exact hle2 _ _ hq'
          · cases hq'
        have hcase : ∀ kk id p, (φ2.to (S kk).heap.next) id = some p → (φ.to (S kk).heap.next) id = some p ∨ ((S i).heap.next ≤ id ∧ id < (S (i + 1)).heap.next ∧ ψ id = some p ∧ id < (S kk).heap.next) := fun kk id p hp => by
          unfold Emb.to at hp ⊢
          split at hp
          · rename_i hk
            rw [if_pos hk]
            by_cases h : (S i).heap.next ≤ id ∧ id < (S (i + 1)).heap.next
            · rw [h2new id h.1 h.2] at hp; exact .inr ⟨h.1, h.2, hp, hk⟩
            · rw [h2old id h] at hp; exact .inl hp
          · cases hp
        have hik : ∀ kk id, kk ≤ m → (S i).heap.next ≤ id → id < (S kk).heap.next → i + 1 ≤ kk := fun kk id hkk h1 h2 => by
          rcases Nat.lt_or_ge i kk with h | h
          · exact h
          · have := hR.next_mono h (Nat.le_of_lt hi); omega
        have hblk : ∀ kk id p B, kk ≤ m → (S i).heap.next ≤ id → id < (S (i + 1)).heap.next → ψ id = some p → id < (S kk).heap.next → OffD al S m0 m listed kk id → getB (S kk).heap.blks id = some B → BRel (φ2.to (S kk).heap.next) B p w' := fun kk id p B hkk h1 h2 hp h3 hoff hB => by
          have hk := hik kk id hkk h1 h3
          rw [hR.getB_at hk hkk (fun t at' h0 g1 g2 hat ht => hoff t at' h0 (by omega) hat ht fun he => by
            have h3 := he.2 g2
            have := (hst t at' h0 (by omega) hat ht).1 h3
            omega) h2, hHp] at hB
          obtain ⟨_, _, C, hC, hb⟩ := hmd.new id p h1 hp
          rw [hC] at hB
          cases hB
          exact hb.mono (hψto kk (hR.next_mono hk hkk))
        refine k φ2 _ _ (next φ2 x w' hle2 (fun kk hkk hsk => ?_) (fun kk X B' p' hkk hB' hoff hp' => ?_) (fun id p hp => ?_) (fun id hid => ?_) (fun j hj hji hlj id g1 g2 => ?_) (fun id hid => ?_) (fun hcd => relA_mono (hψto (i + 1) (Nat.le_refl _)) hv) (fun h => absurd hcd h))
        · have hsk := hst' kk hsk
          obtain ⟨g1, g2⟩ := hJ.hr kk hkk hsk
          have hoff : ∀ X, OffD al S m0 m listed kk X := fun X j aj hj0 hj haj ht hd => absurd (hsk j aj hj0 hj haj ht) hd
          refine ⟨g1.defs hgr (hle_to kk) (fun id p hp => ?_) (fun id id' p q hp hq h1 h2 hne => ?_), g2.defs hgr (hle_to kk) (fun id hid => ?_) (fun id p hp => ?_)⟩
          · rcases hcase kk id p hp with h | ⟨h1, h2, h3, h4⟩
            · exact .inl h
            · obtain ⟨n1, n2, _⟩ := hmd.new id p h1 h3
              exact .inr ⟨n1, n2, h4, fun B hB => hblk kk id p B hkk h1 h2 h3 h4 (hoff id) hB⟩
          · rcases hcase kk id p hp with h | ⟨k1, k2, k3, k4⟩
            · have := hto_bl _ _ _ h; omega
            · rcases hcase kk id' q hq with h | ⟨l1, l2, l3, l4⟩
              · have := hto_bl _ _ _ h; omega
              · exact hmd.inj id id' p q k1 l1 k3 l3 hne
          · have : ¬ ((S i).heap.next ≤ id ∧ id < (S (i + 1)).heap.next) := by omega
            unfold Emb.to
            split
            · exact h2old id this
            · rfl
          · rcases hcase kk id p hp with h | ⟨h1, h2, h3, h4⟩
            · exact .inl h
            · exact .inr (hmd.new id p h1 h3).1
        · have hoff := hoff' kk X hoff
          rcases hcase kk X p' hp' with h | ⟨h1, h2, h3, h4⟩
          · exact ((hJ.hb kk X B' p' hkk hB' hoff h).mono (hle_to kk)).keep (hgr.block _ (hto_bl _ _ _ h))
          · exact hblk kk X p' B' hkk h1 h2 h3 h4 hoff hB'
        · by_cases h : (S i).heap.next ≤ id ∧ id < (S (i + 1)).heap.next
          · rw [h2new id h.1 h.2] at hp; exact (hmd.new id p h.1 hp).2.1
          · rw [h2old id h] at hp; exact Nat.lt_of_lt_of_le (hJ.bl id p hp) hgr.size
        · have := hR.next_mono (i := i + 1) (j := m) (by omega) (Nat.le_refl _)
          rw [h2old id (by omega)]; exact hJ.fresh id hid
        · have hne : ¬ ((S i).heap.next ≤ id ∧ id < (S (i + 1)).heap.next) := by
            rintro ⟨q1, q2⟩
            rcases Nat.lt_or_gt_of_ne hji with h | h
            · have := hR.next_mono (i := j + 1) (j := i) (by omega) (by omega)
              omega
            · have := hR.next_mono (i := i + 1) (j := j) (by omega) (by omega)
              omega
          rw [h2old id hne]
          exact hJ.un j hj hlj id g1 g2
        · rw [h2old id (by omega)]; exact hJ.old id hid
end

end Go.AM
