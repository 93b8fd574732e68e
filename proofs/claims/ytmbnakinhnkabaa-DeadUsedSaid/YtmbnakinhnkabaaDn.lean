/- dead: what is seen, and a block without the rest: plain laws. -/
import Derived.Test.YtmbnakinhnkabaaDm
namespace Go.Proofs.Ytmbnakinhnkabaa
open Go.AM
set_option maxRecDepth 100000
set_option linter.unusedSimpArgs false
set_option linter.unusedVariables false
/-- The first n values of what is seen do not hang on what stood behind. -/
theorem upd_same {g g' : Nat → Bool} {n k : Nat} {v v' : Bool} (h : ∀ i, i < n → g i = g' i) (hv : v = v') : ∀ i, i < n → upd g k v i = upd g' k v' i := fun i hi => by
  unfold upd; rw [h i hi, hv]
theorem mark1_same {f : Nat → OpS} {g g' : Nat → Bool} {n k : Nat} (hk : k < n) (h : ∀ i, i < n → g i = g' i) : ∀ i, i < n → mark1 f n k g i = mark1 f n k g' i := by
  unfold mark1
  exact upd_same h (by rw [h k hk])
theorem markU_same {o : OpS} {g g' : Nat → Bool} {n : Nat} (h : ∀ i, i < n → g i = g' i) : ∀ u i, i < n → markU o g u i = markU o g' u i
  | 0 => h
  | u + 1 => upd_same (markU_same h u) rfl
theorem markStep_same {f : Nat → OpS} {g g' : Nat → Bool} {n k : Nat} (hk : k < n) (h : ∀ i, i < n → g i = g' i) : ∀ i, i < n → markStep f n k g i = markStep f n k g' i := fun i hi => by
  unfold markStep
  rw [mark1_same hk h k hk]
  split
  · exact markU_same (mark1_same hk h) _ i hi
  · exact mark1_same hk h i hi
theorem markN_same {f : Nat → OpS} {g g' : Nat → Bool} {n : Nat} : ∀ {j : Nat}, j ≤ n → ∀ i, i < n → markN f n g j i = markN f n g' j i
  | 0, _, i, hi => by simp only [markN, hi, if_true]
  | j + 1, hj, i, hi => markStep_same (by omega) (markN_same (j := j) (by omega)) i hi
/-- Which operations are seen. -/
def seenS (b : BlkS) : Nat → Bool := markN b.f b.n (fun _ => false) b.n
theorem seenS_of (b : BlkS) (g : Nat → Bool) {i : Nat} (hi : i < b.n) : markN b.f b.n g b.n i = seenS b i := markN_same (Nat.le_refl _) i hi

/-! ### How the marks go on -/
theorem upd_ge {g : Nat → Bool} {k : Nat} {i : Nat} (h : g i = true) : upd g k true i = true := by unfold upd; split <;> simp [h]
theorem markU_ge {o : OpS} {g : Nat → Bool} {i : Nat} (h : g i = true) : ∀ u, markU o g u i = true
  | 0 => h
  | u + 1 => upd_ge (markU_ge h u)
theorem markU_at {o : OpS} {g : Nat → Bool} : ∀ {u j : Nat}, j < u → markU o g u (useF o j).toNat = true
  | u + 1, j, h => by
    by_cases e : j = u
    · subst e; simp only [markU, upd, if_true]
    · exact upd_ge (markU_at (u := u) (by omega))
theorem markU_no {o : OpS} {g : Nat → Bool} {i : Nat} : ∀ {u : Nat}, (∀ j, j < u → (useF o j).toNat ≠ i) → markU o g u i = g i
  | 0, _ => rfl
  | u + 1, h => by
    simp only [markU, upd]
    rw [if_neg (fun e => h u (by omega) e.symm), markU_no (u := u) fun j hj => h j (by omega)]
theorem mark1_ne {f : Nat → OpS} {n k i : Nat} {g : Nat → Bool} (h : i ≠ k) : mark1 f n k g i = g i := by unfold mark1 upd; rw [if_neg h]
/-- Behind the place that is looked at nothing changes. -/
theorem step_hi {f : Nat → OpS} {n k i : Nat} {g : Nat → Bool} (hU : ∀ j, j < usesS (f k).kind → (useF (f k) j).toNat < k) (h : k < i) : markStep f n k g i = g i := by
  unfold markStep
  split
  · rw [markU_no fun j hj => by have := hU j hj; omega, mark1_ne (by omega)]
  · exact mark1_ne (by omega)
theorem step_ge {f : Nat → OpS} {n k i : Nat} {g : Nat → Bool} (hne : i ≠ k) (h : g i = true) : markStep f n k g i = true := by
  unfold markStep
  split
  · exact markU_ge (by rw [mark1_ne hne]; exact h) _
  · rw [mark1_ne hne]; exact h
theorem step_self {f : Nat → OpS} {n k : Nat} {g : Nat → Bool} (hU : ∀ j, j < usesS (f k).kind → (useF (f k) j).toNat < k) : markStep f n k g k = mark1 f n k g k := by
  unfold markStep
  split
  · rw [markU_no fun j hj => by have := hU j hj; omega]
  · rfl
theorem step_use {f : Nat → OpS} {n k : Nat} {g : Nat → Bool} (hs : mark1 f n k g k = true) {j : Nat} (hj : j < usesS (f k).kind) : markStep f n k g (useF (f k) j).toNat = true := by
  unfold markStep
  rw [if_pos hs]
  exact markU_at hj
section
variable {f : Nat → OpS} {n : Nat} {g : Nat → Bool}
/-- What came of a place when it was looked at stays. -/
theorem markN_stays (hU : ∀ k, k < n → ∀ j, j < usesS (f k).kind → (useF (f k) j).toNat < k) {k : Nat} : ∀ (j : Nat), n - 1 - k < j → j ≤ n → k < n → markN f n g j k = markN f n g (n - 1 - k + 1) k
  | j + 1, h1, h2, hk => by
    by_cases e : j = n - 1 - k
    · rw [e]
    · have hlt : n - 1 - j < k := by omega
      show markStep f n (n - 1 - j) (markN f n g j) k = _
      rw [step_hi (hU _ (by omega)) hlt]
      exact markN_stays hU j (by omega) (by omega) hk
/-- Marked once, marked to the end, if it is not looked at in between. -/
theorem markN_ge {i : Nat} : ∀ {j j' : Nat}, j ≤ j' → j' ≤ n - 1 - i → markN f n g j i = true → markN f n g j' i = true
  | j, 0, h1, h2, h => by
    have e : j = 0 := by omega
    subst e; exact h
  | j, j' + 1, h1, h2, h => by
    by_cases e : j = j' + 1
    · subst e; exact h
    · show markStep f n (n - 1 - j') (markN f n g j') i = true
      exact step_ge (by omega) (markN_ge (j' := j') (by omega) (by omega) h)
end
/-- What is set when a place is looked at. -/
theorem seen_at {b : BlkS} (hr : rightS b = true) {k : Nat} (hk : k < b.n) : seenS b k = mark1 b.f b.n k (markN b.f b.n (fun _ => false) (b.n - 1 - k)) k := by
  have hU : ∀ k, k < b.n → ∀ j, j < usesS (b.f k).kind → (useF (b.f k) j).toNat < k := fun k hk j hj => by
    obtain ⟨h1, h2, _⟩ := right_use hr hk hj
    omega
  unfold seenS
  rw [markN_stays hU b.n (by omega) (Nat.le_refl _) hk]
  show markStep b.f b.n (b.n - 1 - (b.n - 1 - k)) _ k = _
  rw [show b.n - 1 - (b.n - 1 - k) = k by omega]
  exact step_self (hU k hk)
/-- What a seen one uses is seen. -/
theorem seen_use {b : BlkS} (hr : rightS b = true) {k : Nat} (hk : k < b.n) (hs : seenS b k = true) {j : Nat} (hj : j < usesS (b.f k).kind) : seenS b (useF (b.f k) j).toNat = true := by
  obtain ⟨h1, h2, hd⟩ := right_use hr hk hj
  have hU : ∀ k, k < b.n → ∀ j, j < usesS (b.f k).kind → (useF (b.f k) j).toNat < k := fun k hk j hj => by
    obtain ⟨h1, h2, _⟩ := right_use hr hk hj
    omega
  obtain ⟨i, hi⟩ : ∃ i, (useF (b.f k) j).toNat = i := ⟨_, rfl⟩
  rw [hi] at hd ⊢
  have hik : i < k := by omega
  rw [seen_at hr hk] at hs
  have h3 : markN b.f b.n (fun _ => false) (b.n - 1 - k + 1) i = true := by
    show markStep b.f b.n (b.n - 1 - (b.n - 1 - k)) _ i = true
    rw [show b.n - 1 - (b.n - 1 - k) = k by omega, ← hi]
    exact step_use hs hj
  rw [seen_at hr (by omega)]
  have h4 := markN_ge (n := b.n) (f := b.f) (j' := b.n - 1 - i) (by omega) (Nat.le_refl _) h3
  have hk4 : ((b.f i).kind == 14) = false ∧ (((b.f i).kind == 3) || ((b.f i).kind == 5) || ((b.f i).kind == 7)) = false := by
    unfold defS at hd
    simp only [Bool.or_eq_true, beq_iff_eq] at hd
    rcases hd with ((((((hd | hd) | hd) | hd) | hd) | hd) | hd) | hd <;> rw [hd] <;> decide
  unfold mark1 upd
  rw [if_pos rfl, hk4.1, hk4.2, h4]
  simp
/-- The first one is seen. -/
theorem seen_first {b : BlkS} (hr : rightS b = true) : seenS b 0 = true := by
  have hn := right_n hr
  have hk : ((b.f 0).kind == 14) = true := by
    unfold rightS head2 at hr
    simp only [Bool.and_eq_true, Bool.not_eq_true', Bool.or_eq_false_iff, bne_eq_false_iff_eq] at hr
    simpa using hr.1.2.1
  rw [seen_at hr (by omega)]
  unfold mark1 upd
  rw [if_pos rfl, hk]
  simp
/-- The last one is seen. -/
theorem seen_leaves {b : BlkS} (hr : rightS b = true) {k : Nat} (hk : k < b.n) (hl : leaveS (b.f k).kind = true) : seenS b k = true := by
  rw [seen_at hr hk]
  have hk4 : ((b.f k).kind == 14) = false ∧ (((b.f k).kind == 3) || ((b.f k).kind == 5) || ((b.f k).kind == 7)) = false := by
    unfold leaveS accS endS at hl
    simp only [Bool.or_eq_true, beq_iff_eq] at hl
    rcases hl with ((((hl | hl) | hl) | hl) | ((hl | hl) | hl)) | hl <;> rw [hl] <;> decide
  unfold mark1 upd
  rw [if_pos rfl, hk4.1, hk4.2, hl]
  simp
theorem seen_last {b : BlkS} (hr : rightS b = true) : seenS b (b.n - 1) = true := by
  have hn := right_n hr
  refine seen_leaves hr (by omega) ?_
  have := (opsOk_at (right_ops hr) (k := b.n - 1) (by omega)).2
  unfold leaveS
  rw [this, decide_eq_true (by omega)]
  simp

/-! ### Without the rest -/
def cnt (g : Nat → Bool) : Nat → Nat
  | 0 => 0
  | k + 1 => cnt g k + (if g k = true then 1 else 0)
def renS (g : Nat → Bool) (o : OpS) : OpS := ⟨o.kind, o.r, if 0 < usesS o.kind then (cnt g o.a.toNat : Int) else o.a, if 1 < usesS o.kind then (cnt g o.b.toNat : Int) else o.b, o.order, o.imm⟩
def newF (f : Nat → OpS) (g : Nat → Bool) : Nat → Nat → OpS
  | 0 => f
  | k + 1 => if g k = true then (fun j => if j < cnt g k then newF f g k j else renS g (f k)) else newF f g k
def withS (b : BlkS) : BlkS := ⟨b.pc, b.words, b.el, cnt (seenS b) b.n, newF b.f (seenS b) b.n⟩
/-- Are they all seen? -/
def allS (b : BlkS) : Bool := !decide (idxF (seenS b) false b.n 0 ≥ 0)
def blkIt : Nat → BlkS → BlkS
  | 0, b => b
  | t + 1, b => if allS b = true then b else blkIt t (withS b)
def blockS (b : BlkS) : BlkS := blkIt b.n b
theorem cnt_le (g : Nat → Bool) : ∀ k, cnt g k ≤ k
  | 0 => Nat.le_refl _
  | k + 1 => by have := cnt_le g k; simp only [cnt]; split <;> omega
theorem cnt_mono (g : Nat → Bool) {j : Nat} : ∀ {k : Nat}, j ≤ k → cnt g j ≤ cnt g k
  | 0, h => by have : j = 0 := by omega
               subst this; exact Nat.le_refl _
  | k + 1, h => by
    by_cases e : j = k + 1
    · subst e; exact Nat.le_refl _
    · have := cnt_mono g (j := j) (k := k) (by omega)
      simp only [cnt]; omega
theorem cnt_lt (g : Nat → Bool) {j k : Nat} (h : j < k) (hg : g j = true) : cnt g j < cnt g k := by
  have := cnt_mono g (show j + 1 ≤ k from h)
  simp only [cnt, hg, if_true] at this
  omega
theorem cnt_same {g g' : Nat → Bool} {n : Nat} (h : ∀ i, i < n → g i = g' i) : ∀ {k : Nat}, k ≤ n → cnt g k = cnt g' k
  | 0, _ => rfl
  | k + 1, hk => by simp only [cnt]; rw [cnt_same h (by omega), h k (by omega)]
/-- One that is kept stands where so many stand ahead of it. -/
theorem newF_at {f : Nat → OpS} {g : Nat → Bool} : ∀ {m k : Nat}, k < m → g k = true → newF f g m (cnt g k) = renS g (f k)
  | m + 1, k, h, hg => by
    simp only [newF]
    by_cases e : k = m
    · subst e
      rw [if_pos hg]
      simp only [Nat.lt_irrefl, if_false]
    · have hlt : k < m := by omega
      split
      · simp only []
        rw [if_pos (cnt_lt g hlt hg)]
        exact newF_at hlt hg
      · exact newF_at hlt hg
/-- Each place of what is left is one that is kept. -/
theorem cnt_inv {g : Nat → Bool} : ∀ {m j : Nat}, j < cnt g m → ∃ k, k < m ∧ g k = true ∧ cnt g k = j
  | m + 1, j, h => by
    simp only [cnt] at h
    by_cases hg : g m = true
    · rw [if_pos hg] at h
      by_cases e : j = cnt g m
      · exact ⟨m, by omega, hg, e.symm⟩
      · obtain ⟨k, h1, h2, h3⟩ := cnt_inv (g := g) (m := m) (j := j) (by omega)
        exact ⟨k, by omega, h2, h3⟩
    · rw [if_neg hg] at h
      obtain ⟨k, h1, h2, h3⟩ := cnt_inv (g := g) (m := m) (j := j) (by omega)
      exact ⟨k, by omega, h2, h3⟩
theorem ren_uses {g : Nat → Bool} {o : OpS} {i : Nat} (hi : i < usesS o.kind) : useF (renS g o) i = (cnt g (useF o i).toNat : Int) := by
  unfold renS
  match i, hi with
  | 0, h => simp only [useF, h, if_true]
  | i + 1, h => simp only [useF]; rw [if_pos (by omega)]
theorem idxF_none {g : Nat → Bool} {v : Bool} : ∀ {c j : Nat}, ¬ idxF g v c j ≥ 0 → ∀ i, j ≤ i → i < j + c → g i ≠ v
  | 0, j, _, i, h1, h2 => by omega
  | c + 1, j, h, i, h1, h2 => by
    simp only [idxF] at h
    split at h
    · omega
    · rename_i hne
      by_cases e : i = j
      · subst e; intro hv; rw [hv] at hne; simp at hne
      · exact idxF_none (c := c) (j := j + 1) h i (by omega) (by omega)
theorem idxF_some {g : Nat → Bool} {v : Bool} : ∀ {c j : Nat}, idxF g v c j ≥ 0 → ∃ i, j ≤ i ∧ i < j + c ∧ g i = v
  | 0, j, h => by simp [idxF] at h
  | c + 1, j, h => by
    simp only [idxF] at h
    split at h
    · rename_i he
      exact ⟨j, Nat.le_refl _, by omega, by simpa using (beq_iff_eq.1 he).symm⟩
    · obtain ⟨i, h1, h2, h3⟩ := idxF_some (c := c) (j := j + 1) h
      exact ⟨i, by omega, by omega, h3⟩
theorem allS_iff (b : BlkS) : allS b = true ↔ ∀ i, i < b.n → seenS b i = true := by
  unfold allS
  constructor
  · intro h i hi
    have := idxF_none (g := seenS b) (v := false) (c := b.n) (j := 0) (by simpa using h) i (by omega) (by omega)
    simpa using this
  · intro h
    have : ¬ idxF (seenS b) false b.n 0 ≥ 0 := fun hh => by
      obtain ⟨i, _, h2, h3⟩ := idxF_some hh
      rw [h i (by omega)] at h3
      cases h3
    simp [this]
theorem cnt_all {g : Nat → Bool} : ∀ {n : Nat}, cnt g n = n → ∀ i, i < n → g i = true
  | n + 1, h, i, hi => by
    simp only [cnt] at h
    have h1 := cnt_le g n
    split at h
    · by_cases e : i = n
      · subst e; assumption
      · exact cnt_all (n := n) (by omega) i (by omega)
    · omega
theorem with_lt {b : BlkS} (h : allS b = false) : (withS b).n < b.n := by
  have h1 := cnt_le (seenS b) b.n
  rcases Nat.lt_or_ge (cnt (seenS b) b.n) b.n with h2 | h2
  · exact h2
  · have : allS b = true := (allS_iff b).2 (cnt_all (by omega))
    rw [this] at h; cases h
theorem ren_field {g : Nat → Bool} {o : OpS} : fieldBad (renS g o) = fieldBad o := by
  have e1 : rightF (renS g o) = rightF o := rfl
  unfold fieldBad
  rw [e1]
  simp only [renS]
  by_cases h1 : usesS o.kind < 1
  · have h2 : usesS o.kind = 0 := by omega
    simp [h2]
  · by_cases h2 : usesS o.kind < 2
    · have h3 : usesS o.kind = 1 := by omega
      simp [h3]
    · simp [h1, h2]
theorem usesOk_all {o : OpS} {m : Nat} {f : Nat → OpS} : ∀ {u : Nat}, (∀ i, i < u → useOk f m (useF o i) = true) → usesOk o m f u = true
  | 0, _ => rfl
  | u + 1, h => by
    simp only [usesOk]
    rw [usesOk_all (u := u) fun i hi => h i (by omega), h u (by omega)]
    rfl
theorem opsOk_all {b : BlkS} : ∀ {n : Nat}, (∀ k, k < n → ropS (b.f k) k b.f = true ∧ endS (b.f k).kind = decide ((k : Int) = (b.n : Int) - 1)) → opsOk b n = true
  | 0, _ => rfl
  | n + 1, h => by
    simp only [opsOk]
    obtain ⟨h1, h2⟩ := h n (by omega)
    rw [opsOk_all (n := n) fun k hk => h k (by omega), h1, h2]
    simp
/-- What is left is right. -/
theorem right_with {b : BlkS} (hr : rightS b = true) : rightS (withS b) = true := by
  have hn := right_n hr
  obtain ⟨g, hg⟩ : ∃ g, seenS b = g := ⟨_, rfl⟩
  have hf0 : g 0 = true := by rw [← hg]; exact seen_first hr
  have hlast : g (b.n - 1) = true := by rw [← hg]; exact seen_last hr
  have hu : ∀ k, k < b.n → g k = true → ∀ j, j < usesS (b.f k).kind → g (useF (b.f k) j).toNat = true := fun k hk hs j hj => by rw [← hg] at hs ⊢; exact seen_use hr hk hs hj
  have hcn : cnt g b.n = cnt g (b.n - 1) + 1 := by
    obtain ⟨m, hm⟩ : ∃ m, b.n = m + 1 := ⟨b.n - 1, by omega⟩
    rw [hm] at hlast ⊢
    simp only [Nat.add_sub_cancel] at hlast ⊢
    simp only [cnt, hlast, if_true]
  have hle := cnt_le g b.n
  have h00 : newF b.f g b.n 0 = renS g (b.f 0) := newF_at (m := b.n) (k := 0) (by omega) hf0
  have hb := hr
  unfold rightS at hb
  simp only [Bool.and_eq_true, Bool.not_eq_true'] at hb
  obtain ⟨⟨hb1, hb2⟩, hb3⟩ := hb
  unfold rightS
  simp only [Bool.and_eq_true, Bool.not_eq_true']
  refine ⟨⟨?_, ?_⟩, ?_⟩
  · unfold head1 at hb1 ⊢
    simp only [withS, hg, Bool.or_eq_false_iff, decide_eq_false_iff_not] at hb1 ⊢
    refine ⟨⟨hb1.1.1, ?_⟩, ?_⟩ <;> omega
  · unfold head2 at hb2 ⊢
    simp only [withS, hg, h00]
    exact hb2
  · refine opsOk_all fun j hj => ?_
    have hj' : j < cnt g b.n := by rw [← hg]; exact hj
    obtain ⟨k, hk, hgk, rfl⟩ := cnt_inv hj'
    obtain ⟨ho, he⟩ := opsOk_at hb3 hk
    have hfk : (withS b).f (cnt g k) = renS g (b.f k) := by show newF b.f (seenS b) b.n (cnt g k) = _; rw [hg]; exact newF_at hk hgk
    rw [hfk]
    constructor
    · unfold ropS at ho ⊢
      simp only [Bool.and_eq_true, Bool.not_eq_true'] at ho ⊢
      rw [ren_field]
      refine ⟨ho.1, usesOk_all fun i hi => ?_⟩
      have hi' : i < usesS (b.f k).kind := hi
      obtain ⟨u1, u2, u3⟩ := right_use hr hk hi'
      have hui := hu k hk hgk i hi'
      have hlt : (useF (b.f k) i).toNat < k := by omega
      rw [ren_uses hi']
      unfold useOk
      simp only [Bool.and_eq_true, decide_eq_true_eq]
      refine ⟨⟨by omega, ?_⟩, ?_⟩
      · have := cnt_lt g hlt hui; omega
      · rw [Int.toNat_natCast]
        have : (withS b).f (cnt g (useF (b.f k) i).toNat) = renS g (b.f (useF (b.f k) i).toNat) := by show newF b.f (seenS b) b.n _ = _; rw [hg]; exact newF_at (by omega) hui
        rw [this]
        exact u3
    · show endS (b.f k).kind = _
      rw [he]
      have hw : ((withS b).n : Int) = (cnt g b.n : Int) := by show ((cnt (seenS b) b.n : Nat) : Int) = _; rw [hg]
      rw [hw, hcn]
      refine decide_eq_decide.2 ⟨fun h => ?_, fun h => ?_⟩
      · have : k = b.n - 1 := by omega
        rw [this]; omega
      · rcases Nat.lt_or_ge k (b.n - 1) with hlt | hge
        · have := cnt_lt g hlt hgk; omega
        · omega
end Go.Proofs.Ytmbnakinhnkabaa
