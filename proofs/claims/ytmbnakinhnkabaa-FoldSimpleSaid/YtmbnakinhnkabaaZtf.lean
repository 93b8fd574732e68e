/- FoldSimple: for every Block, understudylaw18.FoldSimple answers true and its argument reads behind the call as before; no condition. -/
import Derived.Test.YtmbnakinhnkabaaZte
namespace Go.Proofs.Ytmbnakinhnkabaa
open Go.AM
set_option maxRecDepth 100000
set_option linter.unusedSimpArgs false
set_option linter.unusedVariables false
def certF (o : OpS) : Bool := (o.kind == 6 || (o.kind == 1 && decide (o.imm < 2))) || (o.kind == 8 && decide (o.r ≥ 13))
def cntF (f : Nat → OpS) (k : Int) : Nat → Nat
  | 0 => 0
  | t + 1 => if ((f t).kind == k) = true then cntF f k t + 1 else cntF f k t
def hitF (o x : OpS) : Bool :=
  if (o.kind == 2) = true then (x.kind == 3 || x.kind == 2) && x.r == o.r else
  if (o.kind == 4) = true then x.kind == 5 || x.kind == 4 else
  if (o.kind == 6) = true then (x.kind == 7 || x.kind == 6) && x.r == o.r else false
def lastN (f : Nat → OpS) (o : OpS) : Nat → Int
  | 0 => -1
  | t + 1 => if hitF o (f t) = true then (t : Int) else lastN f o t
def simpF (f : Nat → OpS) (k : Nat) : Bool :=
  if (f k).kind = 8 then ((f (f k).a.toNat).kind != 1) || ((f (f k).b.toNat).kind != 1) else
  if (f k).kind = 15 then (f (f k).a.toNat).kind != 1 else
  if (f k).kind = 2 ∨ (f k).kind = 4 then decide (lastN f (f k) k < 0) else
  if (f k).kind = 6 then decide (lastN f (f k) k < 0) || ((f (lastN f (f k) k).toNat).kind == 7 && !certF (f (f (lastN f (f k) k).toNat).a.toNat)) else true
theorem cntF_le (f : Nat → OpS) (k : Int) : ∀ n, cntF f k n ≤ n
  | 0 => Nat.le_refl _
  | t + 1 => by
    have := cntF_le f k t
    simp only [cntF]
    split <;> omega
theorem cntF_mono (f : Nat → OpS) (k : Int) {n m : Nat} (h : n ≤ m) : cntF f k n ≤ cntF f k m := by
  induction m with
  | zero => rw [Nat.le_zero.1 h]; exact Nat.le_refl _
  | succ m ih =>
    by_cases e : n = m + 1
    · rw [e]; exact Nat.le_refl _
    · have := ih (by omega)
      simp only [cntF]
      split <;> omega
theorem cntF_congr {f g : Nat → OpS} {k : Int} : ∀ {n : Nat}, (∀ i, i < n → f i = g i) → cntF f k n = cntF g k n
  | 0, _ => rfl
  | n + 1, h => by simp only [cntF]; rw [cntF_congr fun i hi => h i (by omega), h n (by omega)]
theorem after_cnt {s : PS} (h : PsR s) (hlt : s.na < s.b.n) {k : Int} (hk : 9 ≤ k ∧ k ≤ 15) (hc : cntF s.f k s.m ≤ cntF s.b.f k s.na) : cntF (afterP s).f k (afterP s).m ≤ cntF (afterP s).b.f k (afterP s).na := by
  have hb := after_b h.ok hlt
  have hna := after_na h.ok hlt
  have hkd : (reO s (s.b.f s.na)).kind = (s.b.f s.na).kind := rfl
  rw [hb, hna]
  show cntF (nextP s).s.f k (nextP s).s.m ≤ cntF s.b.f k (s.na + 1)
  rcases out_kinds (r := nextP s) (show KnO s (reO s (s.b.f s.na)) (nextP s) from one_out s _) with ⟨x, hl, hx⟩ | ⟨hg, _⟩
  · rw [hl.m]
    have e : cntF (nextP s).s.f k s.m = cntF s.f k s.m := cntF_congr fun i hi => by rw [hl.f, if_pos hi]
    have e2 : (nextP s).s.f s.m = x := by rw [hl.f, if_neg (Nat.lt_irrefl _)]
    simp only [cntF, e, e2]
    rcases hx with rfl | ⟨_, n, rfl⟩ | ⟨_, rfl, _⟩
    · rw [hkd]
      split <;> omega
    · rw [if_neg (by simp [constO]; omega)]
      split <;> omega
    · rw [if_neg (by simp [exitO]; omega)]
      split <;> omega
  · rw [hg.m, hg.f]
    simp only [cntF]
    split <;> omega
theorem stepN_cnt {k : Int} (hk : 9 ≤ k ∧ k ≤ 15) : ∀ (t : Nat) {s : PS}, PsR s → cntF s.f k s.m ≤ cntF s.b.f k s.na → cntF (stepN t s).f k (stepN t s).m ≤ cntF (stepN t s).b.f k (stepN t s).na
  | 0, s, _, hc => hc
  | t + 1, s, h, hc => by
    simp only [stepN]
    split
    · rename_i hlt
      have h1 := after_cnt h hlt hk hc
      split
      · exact h1
      · exact stepN_cnt hk t (after_r h hlt) h1
    · exact hc
theorem foldB_cnt {b : BlkS} (hr : rightS b = true) {k : Int} (hk : 9 ≤ k ∧ k ≤ 15) : cntF (foldB b).f k (foldB b).n ≤ cntF b.f k b.n := by
  obtain ⟨h1, _, _, h4⟩ := step_fin hr
  have hna := h1.ok.na
  have hc := stepN_cnt hk b.n (ps0_r hr) (Nat.le_refl 0)
  change cntF (stepS b).f k (stepS b).m ≤ cntF (stepS b).b.f k (stepS b).na at hc
  rw [h4] at hc hna
  exact Nat.le_trans hc (cntF_mono _ _ hna)
theorem foldF_n : ∀ {N : Nat} {b : BlkS}, wt b.f b.n ≤ N → rightS b = true → (foldF b).n ≤ b.n ∧ (foldF b).pc = b.pc ∧ (foldF b).words = b.words ∧ (foldF b).el = b.el ∧ ∀ k : Int, 9 ≤ k ∧ k ≤ 15 → cntF (foldF b).f k (foldF b).n ≤ cntF b.f k b.n
  | 0, b, hw, hr => by
    have h1 := wt_mono b.f (show 1 ≤ b.n from (right_n hr).1)
    simp only [wt] at h1
    have := wOp_pos (b.f 0)
    omega
  | N + 1, b, hw, hr => by
    have hn := fold_n hr
    rw [foldF_step hr]
    split
    · rename_i hc
      have := fold_lt hr hc
      obtain ⟨g1, g2, g3, g4, g5⟩ := foldF_n (N := N) (b := foldB b) (by omega) (fold_right hr)
      exact ⟨by omega, g2, g3, g4, fun k hk => Nat.le_trans (g5 k hk) (foldB_cnt hr hk)⟩
    · exact ⟨hn.2, rfl, rfl, rfl, fun k hk => foldB_cnt hr hk⟩
def valAt (f : Nat → OpS) (k r : Int) : Nat → Option Int
  | 0 => none
  | t + 1 => if placeOk (f t) = true ∧ placeK (f t) = k ∧ placeR (f t) = r then (if placeSet (f t) = true then (if ((k != 2) || truthF (f (f t).a.toNat)) = true then some (f t).a else none) else some (t : Int)) else valAt f k r t
theorem hit_iff {o x : OpS} (h : o.kind = 2 ∨ o.kind = 4 ∨ o.kind = 6) : hitF o x = true ↔ placeOk x = true ∧ placeK x = placeK o ∧ placeR x = placeR o := by
  rcases h with h | h | h
  all_goals
    by_cases h2 : x.kind = 2
    · simp [hitF, placeOk, placeK, placeR, h, h2]
    by_cases h3 : x.kind = 3
    · simp [hitF, placeOk, placeK, placeR, h, h3]
    by_cases h4 : x.kind = 4
    · simp [hitF, placeOk, placeK, placeR, h, h4]
    by_cases h5 : x.kind = 5
    · simp [hitF, placeOk, placeK, placeR, h, h5]
    by_cases h6 : x.kind = 6
    · simp [hitF, placeOk, placeK, placeR, h, h6]
    by_cases h7 : x.kind = 7
    · simp [hitF, placeOk, placeK, placeR, h, h7]
    simp [hitF, placeOk, placeK, placeR, h, h2, h3, h4, h5, h6, h7]
theorem last_val {f : Nat → OpS} {o : OpS} (h : o.kind = 2 ∨ o.kind = 4 ∨ o.kind = 6) : ∀ t : Nat, lastN f o t < 0 ∨ (∃ v, valAt f (placeK o) (placeR o) t = some v) ∨ (o.kind = 6 ∧ ∃ i : Nat, lastN f o t = i ∧ i < t ∧ (f i).kind = 7 ∧ truthF (f (f i).a.toNat) = false)
  | 0 => .inl (by simp [lastN])
  | t + 1 => by
    simp only [lastN, valAt]
    by_cases hh : hitF o (f t) = true
    · have hp := (hit_iff h).1 hh
      rw [if_pos hh, if_pos hp]
      by_cases hs : placeSet (f t) = true
      · rw [if_pos hs]
        by_cases hc : ((placeK o != 2) || truthF (f (f t).a.toNat)) = true
        · rw [if_pos hc]; exact .inr (.inl ⟨_, rfl⟩)
        · simp only [Bool.not_eq_true, Bool.or_eq_false_iff, bne_eq_false_iff_eq] at hc
          have h6 : o.kind = 6 := by
            rcases h with h | h | h
            · have := hc.1; simp [placeK, h] at this
            · have := hc.1; simp [placeK, h] at this
            · exact h
          have h7 : (f t).kind = 7 := by
            have hk := hp.2.1.trans hc.1
            unfold placeSet at hs
            simp only [Bool.or_eq_true, beq_iff_eq] at hs
            rcases hs with (hs | hs) | hs
            · simp [placeK, hs] at hk
            · simp [placeK, hs] at hk
            · exact hs
          exact .inr (.inr ⟨h6, t, rfl, Nat.lt_succ_self t, h7, hc.2⟩)
      · rw [if_neg hs]; exact .inr (.inl ⟨_, rfl⟩)
    · rw [if_neg hh, if_neg (fun hp => hh ((hit_iff h).2 hp))]
      rcases last_val h t with g | g | ⟨g1, i, g2, g3, g4⟩
      · exact .inl g
      · exact .inr (.inl g)
      · exact .inr (.inr ⟨g1, i, g2, by omega, g4⟩)
theorem cert_truth {o : OpS} {m : Nat} {f : Nat → OpS} (h : ropS o m f = true) : certF o = truthF o := by
  have hb := (rop_iff.1 h).1
  unfold fieldBad at hb
  simp only [Bool.or_eq_false_iff, Bool.not_eq_false'] at hb
  have hr := hb.1.1.1.1.1
  unfold certF truthF
  by_cases h1 : o.kind = 1
  · simp [h1]
  by_cases h6 : o.kind = 6
  · simp [h6]
  by_cases h8 : o.kind = 8
  · simp only [rightF, h8, Bool.and_eq_true, decide_eq_true_eq] at hr
    have hr : 1 ≤ o.r ∧ o.r ≤ 15 := by simpa using hr
    simp only [h8]
    have : decide (o.r ≥ 13) = (o.r == 13 || o.r == 14 || o.r == 15) := by
      rw [Bool.eq_iff_iff]
      simp only [decide_eq_true_eq, Bool.or_eq_true, beq_iff_eq]
      omega
    rw [this]
    simp
  · simp [h1, h6, h8]
structure Simp (s : PS) : Prop where
  d : KnD s
  kn : ∀ k r v, Has s k r v ↔ valAt s.b.f k r s.na = some v
  ok : ∀ k, k < s.na → simpF s.b.f k = true
theorem simp_get {f : Nat → OpS} {t : Nat} (hrop : ∀ i, i < t → ropS (f i) i f = true) (h : (f t).kind = 2 ∨ (f t).kind = 4 ∨ (f t).kind = 6) (hn : ∀ v, valAt f (placeK (f t)) (placeR (f t)) t ≠ some v) : simpF f t = true := by
  have hl := last_val (f := f) h t
  unfold simpF
  rcases h with h | h | h
  · rw [if_neg (by omega), if_neg (by omega), if_pos (.inl h), decide_eq_true_eq]
    rcases hl with hl | ⟨v, hl⟩ | ⟨hl, _⟩
    · exact hl
    · exact (hn v hl).elim
    · omega
  · rw [if_neg (by omega), if_neg (by omega), if_pos (.inr h), decide_eq_true_eq]
    rcases hl with hl | ⟨v, hl⟩ | ⟨hl, _⟩
    · exact hl
    · exact (hn v hl).elim
    · omega
  · rw [if_neg (by omega), if_neg (by omega), if_neg (by omega), if_pos h]
    rcases hl with hl | ⟨v, hl⟩ | ⟨_, i, hl, hi, h7, ht⟩
    · rw [decide_eq_true hl, Bool.true_or]
    · exact (hn v hl).elim
    · rw [hl, Int.toNat_natCast, h7]
      have hu := (rop_iff.1 (hrop i hi)).2 0 (by rw [h7]; decide)
      have e : useF (f i) 0 = (f i).a := rfl
      rw [e] at hu
      rw [cert_truth (hrop (f i).a.toNat (by omega)), ht]
      simp
theorem after_wt {s : PS} (h : PsR s) (hlt : s.na < s.b.n) : wt (afterP s).f (afterP s).m ≤ wt s.f s.m + wOp (s.b.f s.na) := by
  have hwo : wOp (reO s (s.b.f s.na)) = wOp (s.b.f s.na) := rfl
  show wt (nextP s).s.f (nextP s).s.m ≤ _
  rw [← hwo]
  rcases out_kinds (r := nextP s) (show KnO s (reO s (s.b.f s.na)) (nextP s) from one_out s _) with ⟨x, hl, hx⟩ | ⟨hg, _⟩
  · rw [hl.m]
    have e : wt (nextP s).s.f s.m = wt s.f s.m := wt_congr fun i hi => by rw [hl.f, if_pos hi]
    have e2 : (nextP s).s.f s.m = x := by rw [hl.f, if_neg (Nat.lt_irrefl _)]
    simp only [wt, e, e2]
    rcases hx with rfl | ⟨_, n, rfl⟩ | ⟨_, rfl, _⟩
    · exact Nat.le_refl _
    · have : wOp (constO n) = 1 := by simp [wOp, constO]
      have := wOp_pos (reO s (s.b.f s.na))
      omega
    · have : wOp (exitO (reO s (s.b.f s.na)).imm) = 1 := by simp [wOp, exitO]
      have := wOp_pos (reO s (s.b.f s.na))
      omega
  · rw [hg.m, hg.f]; exact Nat.le_add_right _ _
theorem one_simp {s : PS} {o : OpS} (hs : Simp s) (hr : rightS s.b = true) (hlt : s.na < s.b.n) (ho : s.b.f s.na = o) (hm : s.m = s.na) (hf : ∀ k, k < s.m → s.f k = s.b.f k) (hm1 : (oneP s o).s.m = s.m + 1) (hf1 : (oneP s o).s.f s.m = o) :
    (∀ k r v, Has (oneP s o).s k r v ↔ valAt s.b.f k r (s.na + 1) = some v) ∧ simpF s.b.f s.na = true := by
  have hrop : ∀ i, i < s.na → ropS (s.b.f i) i s.b.f = true := fun i hi => (opsOk_at (right_ops hr) (show i < s.b.n by omega)).1
  have hu : ∀ i, i < usesS o.kind → 0 ≤ useF o i ∧ useF o i < s.na := fun i hi => by
    have := right_use hr hlt (i := i) (by rw [ho]; exact hi)
    rw [ho] at this
    exact ⟨this.1, this.2.1⟩
  simp only [valAt, ho]
  unfold oneP at hm1 hf1 ⊢
  by_cases h1 : placeOk o = true
  · rw [if_pos h1] at hm1 hf1 ⊢
    by_cases h2 : placeSet o = true
    · rw [if_pos h2] at hm1 hf1 ⊢
      have ha := hu 0 (usesS_set h1 h2)
      have e0 : useF o 0 = o.a := rfl
      rw [e0] at ha
      have hfa : s.f o.a.toNat = s.b.f o.a.toNat := hf _ (by omega)
      refine ⟨fun k r v => ?_, ?_⟩
      · show Has (knSet s o (placeK o) (placeR o)) k r v ↔ _
        rw [set_has hs.d, hfa]
        by_cases e : k = placeK o ∧ r = placeR o
        · obtain ⟨rfl, rfl⟩ := e
          rw [if_pos ⟨rfl, rfl⟩, if_pos ⟨h1, rfl, rfl⟩, if_pos h2]
          by_cases hc : ((placeK o != 2) || truthF (s.b.f o.a.toNat)) = true
          · rw [if_pos hc]
            exact ⟨fun h => by rw [h.2], fun h => ⟨hc, (Option.some.inj h).symm⟩⟩
          · rw [if_neg hc]
            exact ⟨fun h => absurd h.1 hc, fun h => by cases h⟩
        · rw [if_neg e, if_neg (fun h => e ⟨h.2.1.symm, h.2.2.symm⟩)]
          exact hs.kn k r v
      · unfold placeSet at h2
        simp only [Bool.or_eq_true, beq_iff_eq] at h2
        unfold simpF
        rw [ho]
        rw [if_neg (by omega), if_neg (by omega), if_neg (by omega), if_neg (by omega)]
    · rw [if_neg h2] at hm1 hf1 ⊢
      by_cases h3 : knFind s (placeK o) (placeR o) < s.kn
      · rw [if_pos h3] at hm1
        exact absurd hm1 (by show ¬ s.m = s.m + 1; omega)
      · rw [if_neg h3] at hm1 hf1 ⊢
        refine ⟨fun k r v => ?_, ?_⟩
        · show Has (knPut (layS s o) (placeK o) (placeR o) s.m) k r v ↔ _
          rw [put_has (s := layS s o) hs.d]
          by_cases e : k = placeK o ∧ r = placeR o
          · obtain ⟨rfl, rfl⟩ := e
            rw [if_pos ⟨h1, rfl, rfl⟩, if_neg h2, hm]
            exact ⟨fun h => h.elim (fun h => by rw [h.2.2]) (fun h => absurd ⟨rfl, rfl⟩ h.1), fun h => .inl ⟨rfl, rfl, (Option.some.inj h).symm⟩⟩
          · rw [if_neg (fun h => e ⟨h.2.1.symm, h.2.2.symm⟩)]
            have := hs.kn k r v
            exact ⟨fun h => h.elim (fun h => absurd ⟨h.1, h.2.1⟩ e) (fun h => this.1 h.2), fun h => .inr ⟨e, this.2 h⟩⟩
        · refine simp_get hrop (by rw [ho]; exact place_get h1 h2) fun v hv => h3 (find_lt.2 ⟨v, ?_⟩)
          rw [ho] at hv
          exact (hs.kn _ _ _).2 hv
  · rw [if_neg h1] at hm1 hf1 ⊢
    have hk : ∀ k r v, Has s k r v ↔ (if placeOk o = true ∧ placeK o = k ∧ placeR o = r then (if placeSet o = true then (if ((k != 2) || truthF (s.b.f o.a.toNat)) = true then some o.a else none) else some (s.na : Int)) else valAt s.b.f k r s.na) = some v := fun k r v => by
      rw [if_neg (fun h => h1 h.1)]
      exact hs.kn k r v
    have hno : ¬ (o.kind = 2 ∨ o.kind = 4) ∧ ¬ o.kind = 6 := by
      unfold placeOk at h1
      simp only [Bool.or_eq_true, beq_iff_eq] at h1
      omega
    have hC : ∀ i, i < usesS o.kind → isC s (useF o i) = ((s.b.f (useF o i).toNat).kind == 1) := fun i hi => by
      have := hu i hi
      unfold isC
      rw [hf _ (by omega)]
    unfold simpF
    rw [ho]
    by_cases h8 : o.kind = 8
    · rw [if_pos h8] at hm1 hf1 ⊢
      by_cases hc : (isC s o.a && isC s o.b) = true
      · rw [if_pos hc] at hf1
        have : (layO s (constO (reckS o.r (s.f o.a.toNat).imm (s.f o.b.toNat).imm).1)).s.f s.m = constO (reckS o.r (s.f o.a.toNat).imm (s.f o.b.toNat).imm).1 := if_neg (Nat.lt_irrefl _)
        rw [this] at hf1
        rw [← hf1] at h8
        exact absurd h8 (by show ¬ (1 : Int) = 8; decide)
      · rw [if_neg hc]
        refine ⟨hk, ?_⟩
        rw [if_pos h8]
        have c0 := hC 0 (by rw [h8]; decide)
        have c1 := hC 1 (by rw [h8]; decide)
        have e0 : useF o 0 = o.a := rfl
        have e1 : useF o 1 = o.b := rfl
        rw [e0] at c0
        rw [e1] at c1
        rw [c0, c1] at hc
        revert hc
        show ¬ ((s.b.f o.a.toNat).kind == 1 && (s.b.f o.b.toNat).kind == 1) = true → (!((s.b.f o.a.toNat).kind == 1) || !((s.b.f o.b.toNat).kind == 1)) = true
        cases (s.b.f o.a.toNat).kind == 1 <;> cases (s.b.f o.b.toNat).kind == 1 <;> simp
    · rw [if_neg h8] at hm1 hf1 ⊢
      by_cases h15 : o.kind = 15
      · rw [if_pos h15] at hm1 hf1 ⊢
        by_cases hc : isC s o.a = true
        · rw [if_pos hc] at hm1 hf1
          by_cases hz : (s.f o.a.toNat).imm = 0
          · rw [if_pos hz] at hm1
            exact absurd hm1 (by show ¬ s.m = s.m + 1; omega)
          · rw [if_neg hz] at hf1
            have : (layS s (exitO o.imm)).f s.m = exitO o.imm := if_neg (Nat.lt_irrefl _)
            have hf1 : (layS s (exitO o.imm)).f s.m = o := hf1
            rw [this] at hf1
            rw [← hf1] at h15
            exact absurd h15 (by show ¬ (16 : Int) = 15; decide)
        · rw [if_neg hc]
          refine ⟨hk, ?_⟩
          rw [if_neg h8, if_pos h15]
          have c0 := hC 0 (by rw [h15]; decide)
          have e0 : useF o 0 = o.a := rfl
          rw [e0] at c0
          rw [c0] at hc
          revert hc
          show ¬ ((s.b.f o.a.toNat).kind == 1) = true → (!((s.b.f o.a.toNat).kind == 1)) = true
          cases (s.b.f o.a.toNat).kind == 1 <;> simp
      · rw [if_neg h15]
        refine ⟨hk, ?_⟩
        rw [if_neg h8, if_neg h15, if_neg hno.1, if_neg hno.2]
theorem after_simp {s : PS} (h : PsR s) (hs : wt s.f s.m = wt s.b.f s.na → Simp s) (hlt : s.na < s.b.n) (hw : wt (afterP s).f (afterP s).m = wt (afterP s).b.f (afterP s).na) : Simp (afterP s) := by
  have hr1 := after_r h hlt
  have hb := after_b h.ok hlt
  have hna := after_na h.ok hlt
  obtain ⟨a1, a2, a3⟩ := hr1.e hw
  have hwt := after_wt h hlt
  have hw0 := h.w
  rw [hw, hb, hna] at hwt
  simp only [wt] at hwt
  have heq : wt s.f s.m = wt s.b.f s.na := by omega
  obtain ⟨g1, g2, g3⟩ := h.e heq
  have hs := hs heq
  have hre := reO_id h.ok.r hlt g2
  have e : nextP s = oneP s (s.b.f s.na) := by unfold nextP; rw [hre]
  have hm1 : (oneP s (s.b.f s.na)).s.m = s.m + 1 := by
    rw [← e]
    show (afterP s).m = _
    omega
  have hf1 : (oneP s (s.b.f s.na)).s.f s.m = s.b.f s.na := by
    rw [← e]
    have := a3 s.m (by omega)
    rw [hb] at this
    rw [g1] at this ⊢
    exact this
  obtain ⟨k1, k2⟩ := one_simp hs h.ok.r hlt rfl g1 g3 hm1 hf1
  refine ⟨after_d hs.d, fun k r v => ?_, fun k hk => ?_⟩
  · rw [hb, hna, ← k1 k r v, ← e]
    exact Iff.rfl
  · rw [hna] at hk
    rw [hb]
    by_cases e2 : k = s.na
    · rw [e2]; exact k2
    · exact hs.ok k (by omega)
theorem stepN_simp : ∀ (t : Nat) {s : PS}, PsR s → (wt s.f s.m = wt s.b.f s.na → Simp s) → wt (stepN t s).f (stepN t s).m = wt (stepN t s).b.f (stepN t s).na → Simp (stepN t s)
  | 0, s, _, hs, hw => hs hw
  | t + 1, s, h, hs, hw => by
    simp only [stepN] at hw ⊢
    split at hw
    · rename_i hlt
      rw [if_pos hlt]
      split at hw
      · rename_i he
        rw [if_pos he]
        exact after_simp h hs hlt hw
      · rename_i he
        rw [if_neg he]
        exact stepN_simp t (after_r h hlt) (after_simp h hs hlt) hw
    · rename_i hlt
      rw [if_neg hlt]
      exact hs hw
theorem ps0_simp (b : BlkS) : Simp (ps0 b) := by
  refine ⟨fun i j hi => absurd hi (Nat.not_lt_zero i), fun k r v => ⟨?_, fun h => ?_⟩, fun k hk => absurd hk (Nat.not_lt_zero k)⟩
  · rintro ⟨j, hj, _⟩; exact absurd hj (Nat.not_lt_zero j)
  · cases h
theorem fix_simp {b : BlkS} (hr : rightS b = true) (hc : chgS b = false) {k : Nat} (hk : k < b.n) : simpF b.f k = true := by
  obtain ⟨h1, _, _, h6⟩ := step_fin hr
  have he : eqOps (stepS b).m b.n (stepS b).f b.f = true := by unfold chgS at hc; simpa using hc
  obtain ⟨e1, e2⟩ := eqOps_iff.1 he
  have hna := h1.ok.na
  have hm := h1.ok.m
  rw [h6] at hna
  have hn : (stepS b).na = b.n := by omega
  have hw : wt (stepS b).f (stepS b).m = wt (stepS b).b.f (stepS b).na := by
    rw [h6, hn, e1]
    exact wt_congr fun i hi => e2 i (by omega)
  have := (stepN_simp b.n (ps0_r hr) (fun _ => ps0_simp b) hw).ok k (by show k < (stepS b).na; omega)
  change simpF (stepS b).b.f k = true at this
  rw [h6] at this
  exact this
end Go.Proofs.Ytmbnakinhnkabaa

namespace Go.Proofs.Ytmbnakinhnkabaa
open Go.AM
set_option maxRecDepth 100000
set_option linter.unusedSimpArgs false
set_option linter.unusedVariables false
theorem end_int {l : List Slot} {H : Heap} (b : BlkS) (x y : Int) (hsl : slotAt l 4 = some ⟨4, [], .c (.int .i64 x)⟩) (hb : getB H.blks 0 = some (opsB b.n b.f)) (hx : x = y) : endQ (LeS 1) [.tmp 4] (fun v H' => v = .c (.int .i64 y) ∧ H' = ⟨1, [(0, opsB b.n b.f)]⟩) .ret ⟨l, H⟩ := by
  subst hx
  refine end_of ⟨[⟨4, [], .c (.int .i64 x)⟩], ⟨1, [(0, opsB b.n b.f)]⟩⟩ (LeS.intro [0] idt1 (by simp only [diff, notIn, Nat.beq, and_self]) rfl (by simp only [slotsLe, hsl, leV, leV1, leC, and_self]) ?_) ?_
  · simp only [leBlks, nthO, hb]
    exact ⟨ops_le b.n b.f false, trivial⟩
  · simp only [endF, resL, resA, St.get, slotAt, Nat.beq, sfx, eqP, noTup, resV]
    exact ⟨by first | rfl | trivial, by first | rfl | trivial⟩
theorem con51 (o : OpS) (H : Heap) : Con Try.prog 51 [.agg (opL o)] H (fun v H' => v = .c (.bool (certF o)) ∧ H' = H) := by
  refine Con.pure ?_ (by simp only [leArgs, leV, leV1, opL, leSegs, leSeg, leC, and_self]) rfl H
  (refine con_of_run mixed (fn := Try.f51) (by kernel_rfl) (by kernel_rfl) C51_ok (rs := [.tmp 2]) (by kernel_rfl) (Nat.le_of_ble_eq_true (by kernel_rfl)) ?_; unfold C51; simp only [initT, Nat.reduceAdd])
  repeat' (first | refine run_seq ?_ | (refine run_region fun K hK => ?_; (try (simp (maxSteps := 10000000) only [opL, partsOf, fillS, C51r0, C51r1, rwp_nil, rwp_cons, rwpK_app, aop, gpath, St.get, slotAt, sfx, eqP, segsOf, St.put, addBlk, getB, setB, delB, ld1, ldn, st1, stn, setRow, rowNeed, segAt, nsub, bin, un, eqB, isShift, sameK, arith, shiftR, getsl, selB_or, selB_and, beqb, shed, addN, Nat.beq, Seg.size, sizes, imp, needP, andN, appL, argsOf, ptrsOf, aasOf, cut, takeS, dropS, putS, partsOf, fillS, fieldOf, nthA, negIf, nilq, nilB, eqS, eqF, eqS1, andP, kin, slcS, strOk, plusA, bndHi, leN, optG, roH, roL, initT, exOk, exAll, wrAddr, Nat.reduceAdd, Nat.reduceSub, Nat.reduceMul, Int.reduceToNat, List.append_nil, List.nil_append, List.cons_append, mapR, mapR1, keyL, keyOk, keyP, colsPut, colsDel, zcols, eqT, idxT, cat, cpy, ite_int, ite_bool, ite_seg, ite_segs, ite_nil, ite_twice, Int.toNat_natCast, app, addBs, tob])); (repeat (first | (refine And.intro ?_ ?_; · (first | trivial | assumption | omega | exact ⟨by omega, by omega⟩ | (intros; first | trivial | assumption | omega | (simp only [decide_eq_true_eq] at *; omega)))))); with_reducible refine hK _ ?_; clear hK K) | refine run_ret ?_ | refine run_nil ?_)
  all_goals exact end_tmp1 rfl rfl rfl ⟨by first | rfl | (simp only [certF]; rfl), rfl⟩
def manSt (b : BlkS) (k : Int) (i : Nat) : St := ⟨[⟨6, [], .c (.int .i64 i)⟩, ⟨5, [], .c (.int .i64 (cntF b.f k i))⟩, ⟨2, [], .c (.ptr ⟨1, 0, 0, 0⟩)⟩, ⟨1, [], .c (.int .i64 k)⟩], ⟨2, [(1, blkB b 0), (0, opsB b.n b.f)]⟩⟩
theorem con30 (b : BlkS) (k : Int) (hn : b.n ≤ 1000) : Con Try.prog 30 [.agg (blkL b 0), .c (.int .i64 k)] ⟨1, [(0, opsB b.n b.f)]⟩ (fun v H' => v = .c (.int .i64 (cntF b.f k b.n)) ∧ H' = ⟨1, [(0, opsB b.n b.f)]⟩) := by
  (refine con_of_run mixed (fn := Try.f30) (by kernel_rfl) (by kernel_rfl) C30_ok (rs := [.tmp 4]) (by kernel_rfl) (Nat.le_of_ble_eq_true (by kernel_rfl)) ?_; unfold C30; simp only [initT, Nat.reduceAdd])
  repeat' (first | refine run_seq ?_ | refine run_skip ?_ | (refine run_region fun K hK => ?_; (try (simp (maxSteps := 10000000) only [opL, blkL, blkB, opsB, partsOf, fillS, C30r0, C30r1, C30r3, C30r4, C30r5, C30r6, C30r7, rwp_nil, rwp_cons, rwpK_app, aop, gpath, St.get, slotAt, sfx, eqP, segsOf, St.put, addBlk, getB, setB, delB, ld1, ldn, st1, stn, setRow, rowNeed, segAt, nsub, bin, un, eqB, isShift, sameK, arith, shiftR, getsl, selB_or, selB_and, beqb, shed, addN, Nat.beq, Seg.size, sizes, imp, needP, andN, appL, argsOf, ptrsOf, aasOf, cut, takeS, dropS, putS, partsOf, fillS, fieldOf, nthA, negIf, nilq, nilB, eqS, eqF, eqS1, andP, kin, slcS, strOk, plusA, bndHi, leN, optG, roH, roL, initT, exOk, exAll, wrAddr, Nat.reduceAdd, Nat.reduceSub, Nat.reduceMul, Int.reduceToNat, List.append_nil, List.nil_append, List.cons_append, mapR, mapR1, keyL, keyOk, keyP, colsPut, colsDel, zcols, eqT, idxT, cat, cpy, ite_int, ite_bool, ite_seg, ite_segs, ite_nil, ite_twice, Int.toNat_natCast, app, addBs, tob])); (repeat (first | (refine And.intro ?_ ?_; · (first | trivial | assumption | omega | exact ⟨by omega, by omega⟩ | (intros; first | trivial | assumption | omega | (simp only [decide_eq_true_eq] at *; omega)))))); with_reducible refine hK _ ?_; clear hK K) | (refine run_cond rfl (fun hc => ?_) (fun hc => ?_) <;> try (simp only [*, Bool.true_eq_false, Bool.false_eq_true, Bool.not_true, Bool.not_false, Bool.true_or, Bool.or_true, Bool.false_or, Bool.or_false, Bool.false_and, Bool.and_false, bne_self_eq_false, beq_self_eq_true] at hc; done)) | refine run_block ?_ | refine run_ret ?_ | refine run_nil ?_ | refine run_exit ?_ | refine blk_normal ?_ | refine blk_ret ?_ | refine blk_here ?_ | refine blk_there rfl ?_ | refine loop_exit ?_ | refine loop_ret ?_ | refine un_exit ?_ | refine un_ret ?_ | refine unE_exit ?_ | refine unE_ret ?_ | refine un_normal ?_)
  (refine run_regionL fun K hK => ?_; (try (simp (maxSteps := 10000000) only [opL, blkL, blkB, opsB, C30r0, C30r1, C30r2, C30r3, C30r4, C30r5, C30r6, C30r7, rwp_nil, rwp_cons, rwpK_app, aop, gpath, St.get, slotAt, sfx, eqP, segsOf, St.put, addBlk, getB, setB, delB, ld1, ldn, st1, stn, setRow, rowNeed, segAt, nsub, bin, un, eqB, isShift, sameK, arith, shiftR, getsl, selB_or, selB_and, beqb, shed, addN, Nat.beq, Seg.size, sizes, imp, needP, andN, appL, argsOf, ptrsOf, aasOf, cut, takeS, dropS, putS, partsOf, fillS, fieldOf, nthA, negIf, nilq, nilB, eqS, eqF, eqS1, andP, kin, slcS, strOk, plusA, bndHi, leN, optG, roH, roL, initT, exOk, exAll, wrAddr, Nat.reduceAdd, Nat.reduceSub, Nat.reduceMul, Int.reduceToNat, List.append_nil, List.nil_append, List.cons_append, mapR, mapR1, keyL, keyOk, keyP, colsPut, colsDel, zcols, eqT, idxT, cat, cpy, ite_int, ite_bool, ite_seg, ite_segs, ite_nil, ite_twice, Int.toNat_natCast, app, addBs, tob])); (repeat (first | (refine And.intro ?_ ?_; · first | trivial | assumption | omega))); refine hK _ (manSt b k 0) (LeS.intro [0, 1] (fun i h => idt1' i h) (by simp only [diff, notIn, Nat.beq, and_self]) rfl (by simp only [manSt, cntF, slotsLe, slotAt, Nat.beq, leV, leV1, leC, leA, nthO, Int.natCast_zero, Int.ofNat_zero, and_self]) ⟨blk_le b rfl, ops_le b.n b.f false, trivial⟩) ?_; clear hK K)
  refine run_block ?_
  refine run_loop (fun t st => ∃ i, i ≤ b.n ∧ t = b.n - i ∧ st = manSt b k i) b.n ⟨0, Nat.zero_le _, rfl, rfl⟩ ?_
  rintro t st ⟨i, hi, rfl, rfl⟩
  have hcl := cntF_le b.f k i
  unfold manSt
  have hw : IntKind.i64.wrap ((i : Int) + 1) = ((i + 1 : Nat) : Int) := by rw [IntKind.wrap_i64]; omega
  have hw' : IntKind.i64.wrap ((cntF b.f k i : Int) + 1) = ((cntF b.f k i + 1 : Nat) : Int) := by rw [IntKind.wrap_i64]; omega
  repeat' (first | refine run_seq ?_ | refine run_skip ?_ | (refine run_region fun K hK => ?_; (try (simp (maxSteps := 10000000) only [opL, blkB, blkL, opsB, Int.toNat_natCast, hw, hw', C30r0, C30r1, C30r2, C30r3, C30r4, C30r5, C30r6, C30r7, rwp_nil, rwp_cons, rwpK_app, aop, gpath, St.get, slotAt, sfx, eqP, segsOf, St.put, addBlk, getB, setB, delB, ld1, ldn, st1, stn, setRow, rowNeed, segAt, nsub, bin, un, eqB, isShift, sameK, arith, shiftR, getsl, selB_or, selB_and, beqb, shed, addN, Nat.beq, Seg.size, sizes, imp, needP, andN, appL, argsOf, ptrsOf, aasOf, cut, takeS, dropS, putS, partsOf, fillS, fieldOf, nthA, negIf, nilq, nilB, eqS, eqF, eqS1, andP, kin, slcS, strOk, plusA, bndHi, leN, optG, roH, roL, initT, exOk, exAll, wrAddr, Nat.reduceAdd, Nat.reduceSub, Nat.reduceMul, Int.reduceToNat, List.append_nil, List.nil_append, List.cons_append, mapR, mapR1, keyL, keyOk, keyP, colsPut, colsDel, zcols, eqT, idxT, cat, cpy, ite_int, ite_bool, ite_seg, ite_segs, ite_nil, ite_twice, Int.toNat_natCast, app, addBs, tob])); (repeat (first | (refine And.intro ?_ ?_; · (first | trivial | assumption | omega | exact ⟨by omega, by omega⟩ | (intros; first | trivial | assumption | omega | (simp only [decide_eq_true_eq] at *; omega)))))); with_reducible refine hK _ ?_; clear hK K) | (refine run_cond rfl (fun hc => ?_) (fun hc => ?_) <;> try (simp only [*, Bool.true_eq_false, Bool.false_eq_true, Bool.not_true, Bool.not_false, Bool.true_or, Bool.or_true, Bool.false_or, Bool.or_false, Bool.false_and, Bool.and_false, bne_self_eq_false, beq_self_eq_true] at hc; done)) | refine run_block ?_ | refine run_ret ?_ | refine run_nil ?_ | refine run_exit ?_ | refine blk_normal ?_ | refine blk_ret ?_ | refine blk_here ?_ | refine blk_there rfl ?_ | refine loop_exit ?_ | refine loop_ret ?_ | refine un_exit ?_ | refine un_ret ?_ | refine unE_exit ?_ | refine unE_ret ?_ | refine un_normal ?_)
  · rename_i hlt
    have hlt : i < b.n := by simp only [decide_eq_true_eq] at hlt; omega
    refine loop_normal (b.n - (i + 1)) (manSt b k (i + 1)) (by omega) (LeS.intro [0, 1] (fun i h => idt1' i h) (by simp only [diff, notIn, Nat.beq, and_self]) rfl (by simp only [manSt, cntF, hc, if_true, hw, hw', slotsLe, slotAt, Nat.beq, leV, leV1, leC, leA, nthO, Int.natCast_zero, Int.ofNat_zero, and_self]) ⟨blk_le b rfl, ops_le b.n b.f false, trivial⟩) ⟨i + 1, hlt, rfl, rfl⟩
  · rename_i hlt
    have hlt : i < b.n := by simp only [decide_eq_true_eq] at hlt; omega
    refine loop_normal (b.n - (i + 1)) (manSt b k (i + 1)) (by omega) (LeS.intro [0, 1] (fun i h => idt1' i h) (by simp only [diff, notIn, Nat.beq, and_self]) rfl (by simp only [manSt, cntF, hc, if_false, Bool.false_eq_true, hw, hw', slotsLe, slotAt, Nat.beq, leV, leV1, leC, leA, nthO, Int.natCast_zero, Int.ofNat_zero, and_self]) ⟨blk_le b rfl, ops_le b.n b.f false, trivial⟩) ⟨i + 1, hlt, rfl, rfl⟩
  · have e : i = b.n := by simp only [decide_eq_false_iff_not] at hc; omega
    subst e
    exact end_int b _ _ rfl rfl rfl
def lasSt (b : BlkS) (o : OpS) (t : Nat) : St := ⟨[⟨6, [], .c (.int .i64 ((t : Int) - 1))⟩, ⟨5, [], .c (.ptr ⟨2, 0, 0, 0⟩)⟩, ⟨2, [], .c (.ptr ⟨1, 0, 0, 0⟩)⟩], ⟨3, [(2, opB' o), (1, blkB b 0), (0, opsB b.n b.f)]⟩⟩
theorem op_le' {l : List Nat} (o : OpS) : leB l ⟨6, none, fun _ => opL o, 39, true⟩ (opB' o) := ⟨rfl, rfl, id, Nat.le_refl _, fun _ _ => by simp only [opB', opL, leSegs, leSeg, leC, and_self]⟩
set_option maxHeartbeats 4000000 in
theorem con50 (b : BlkS) (k : Nat) (hk : k < b.n) (hn : b.n ≤ 1000) : Con Try.prog 50 [.agg (blkL b 0), .c (.int .i64 k)] ⟨1, [(0, opsB b.n b.f)]⟩ (fun v H' => v = .c (.int .i64 (lastN b.f (b.f k) k)) ∧ H' = ⟨1, [(0, opsB b.n b.f)]⟩) := by
  (refine con_of_run mixed (fn := Try.f50) (by kernel_rfl) (by kernel_rfl) C50_ok (rs := [.tmp 4]) (by kernel_rfl) (Nat.le_of_ble_eq_true (by kernel_rfl)) ?_; unfold C50; simp only [initT, Nat.reduceAdd])
  have hw : IntKind.i64.wrap ((k : Int) - 1) = (k : Int) - 1 := by rw [IntKind.wrap_i64]; omega
  repeat' (first | refine run_seq ?_ | refine run_skip ?_ | (refine run_region fun K hK => ?_; (try (simp (maxSteps := 10000000) only [opL, blkL, blkB, opsB, partsOf, fillS, Int.toNat_natCast, hw, C50r0, C50r1, C50r3, C50r4, C50r5, C50r6, C50r7, C50r8, C50r9, C50r10, C50r11, C50r12, C50r13, C50r14, C50r15, C50r16, rwp_nil, rwp_cons, rwpK_app, aop, gpath, St.get, slotAt, sfx, eqP, segsOf, St.put, addBlk, getB, setB, delB, ld1, ldn, st1, stn, setRow, rowNeed, segAt, nsub, bin, un, eqB, isShift, sameK, arith, shiftR, getsl, selB_or, selB_and, beqb, shed, addN, Nat.beq, Seg.size, sizes, imp, needP, andN, appL, argsOf, ptrsOf, aasOf, cut, takeS, dropS, putS, partsOf, fillS, fieldOf, nthA, negIf, nilq, nilB, eqS, eqF, eqS1, andP, kin, slcS, strOk, plusA, bndHi, leN, optG, roH, roL, initT, exOk, exAll, wrAddr, Nat.reduceAdd, Nat.reduceSub, Nat.reduceMul, Int.reduceToNat, List.append_nil, List.nil_append, List.cons_append, mapR, mapR1, keyL, keyOk, keyP, colsPut, colsDel, zcols, eqT, idxT, cat, cpy, ite_int, ite_bool, ite_seg, ite_segs, ite_nil, ite_twice, Int.toNat_natCast, app, addBs, tob])); (repeat (first | (refine And.intro ?_ ?_; · (first | trivial | assumption | omega | exact ⟨by omega, by omega⟩ | (intros; first | trivial | assumption | omega | (simp only [decide_eq_true_eq] at *; omega)))))); with_reducible refine hK _ ?_; clear hK K) | (refine run_cond rfl (fun hc => ?_) (fun hc => ?_) <;> try (simp only [*, Bool.true_eq_false, Bool.false_eq_true, Bool.not_true, Bool.not_false, Bool.true_or, Bool.or_true, Bool.false_or, Bool.or_false, Bool.false_and, Bool.and_false, bne_self_eq_false, beq_self_eq_true] at hc; done)) | refine run_block ?_ | refine run_ret ?_ | refine run_nil ?_ | refine run_exit ?_ | refine blk_normal ?_ | refine blk_ret ?_ | refine blk_here ?_ | refine blk_there rfl ?_ | refine loop_exit ?_ | refine loop_ret ?_ | refine un_exit ?_ | refine un_ret ?_ | refine unE_exit ?_ | refine unE_ret ?_ | refine un_normal ?_)
  generalize hT : lastN b.f (b.f k) k = T
  generalize ho : b.f k = o at hT
  (refine run_regionL fun K hK => ?_; (try (simp (maxSteps := 10000000) only [opL, blkL, blkB, opsB, hw, C50r0, C50r1, C50r2, C50r3, C50r4, C50r5, C50r6, C50r7, C50r8, C50r9, C50r10, C50r11, C50r12, C50r13, C50r14, C50r15, C50r16, rwp_nil, rwp_cons, rwpK_app, aop, gpath, St.get, slotAt, sfx, eqP, segsOf, St.put, addBlk, getB, setB, delB, ld1, ldn, st1, stn, setRow, rowNeed, segAt, nsub, bin, un, eqB, isShift, sameK, arith, shiftR, getsl, selB_or, selB_and, beqb, shed, addN, Nat.beq, Seg.size, sizes, imp, needP, andN, appL, argsOf, ptrsOf, aasOf, cut, takeS, dropS, putS, partsOf, fillS, fieldOf, nthA, negIf, nilq, nilB, eqS, eqF, eqS1, andP, kin, slcS, strOk, plusA, bndHi, leN, optG, roH, roL, initT, exOk, exAll, wrAddr, Nat.reduceAdd, Nat.reduceSub, Nat.reduceMul, Int.reduceToNat, List.append_nil, List.nil_append, List.cons_append, mapR, mapR1, keyL, keyOk, keyP, colsPut, colsDel, zcols, eqT, idxT, cat, cpy, ite_int, ite_bool, ite_seg, ite_segs, ite_nil, ite_twice, Int.toNat_natCast, app, addBs, tob])); (repeat (first | (refine And.intro ?_ ?_; · first | trivial | assumption | omega))); refine hK _ (lasSt b o k) (LeS.intro [0, 1, 2] (fun i h => idtF i h) (by simp only [diff, notIn, Nat.beq, and_self]) rfl (by simp only [lasSt, hw, slotsLe, slotAt, Nat.beq, leV, leV1, leC, leA, nthO, Int.natCast_zero, Int.ofNat_zero, and_self]) ⟨op_le' o, blk_le b rfl, ops_le b.n b.f false, trivial⟩) ?_; clear hK K)
  refine run_block ?_
  refine run_loop (fun t st => t ≤ k ∧ lastN b.f o t = T ∧ st = lasSt b o t) k ⟨Nat.le_refl _, hT, rfl⟩ ?_
  rintro t st ⟨ht, hT, rfl⟩
  unfold lasSt
  match t, ht, hT with
  | 0, ht, hT =>
    have h0 : ((0 : Nat) : Int) - 1 = -1 := rfl
    have hge : decide ((-1 : Int) ≥ 0) = false := rfl
    simp only [h0]
    repeat' (first | refine run_seq ?_ | refine run_skip ?_ | (refine run_region fun K hK => ?_; (try (simp (maxSteps := 10000000) only [opL, blkB, blkL, opsB, opB', hge, C50r0, C50r1, C50r2, C50r3, C50r4, C50r5, C50r6, C50r7, C50r8, C50r9, C50r10, C50r11, C50r12, C50r13, C50r14, C50r15, C50r16, rwp_nil, rwp_cons, rwpK_app, aop, gpath, St.get, slotAt, sfx, eqP, segsOf, St.put, addBlk, getB, setB, delB, ld1, ldn, st1, stn, setRow, rowNeed, segAt, nsub, bin, un, eqB, isShift, sameK, arith, shiftR, getsl, selB_or, selB_and, beqb, shed, addN, Nat.beq, Seg.size, sizes, imp, needP, andN, appL, argsOf, ptrsOf, aasOf, cut, takeS, dropS, putS, partsOf, fillS, fieldOf, nthA, negIf, nilq, nilB, eqS, eqF, eqS1, andP, kin, slcS, strOk, plusA, bndHi, leN, optG, roH, roL, initT, exOk, exAll, wrAddr, Nat.reduceAdd, Nat.reduceSub, Nat.reduceMul, Int.reduceToNat, List.append_nil, List.nil_append, List.cons_append, mapR, mapR1, keyL, keyOk, keyP, colsPut, colsDel, zcols, eqT, idxT, cat, cpy, ite_int, ite_bool, ite_seg, ite_segs, ite_nil, ite_twice, Int.toNat_natCast, app, addBs, tob])); (repeat (first | (refine And.intro ?_ ?_; · (first | trivial | assumption | omega | exact ⟨by omega, by omega⟩ | (intros; first | trivial | assumption | omega | (simp only [decide_eq_true_eq] at *; omega)))))); with_reducible refine hK _ ?_; clear hK K) | (refine run_cond rfl (fun hc => ?_) (fun hc => ?_) <;> try (simp only [*, Bool.true_eq_false, Bool.false_eq_true, Bool.not_true, Bool.not_false, Bool.true_or, Bool.or_true, Bool.false_or, Bool.or_false, Bool.false_and, Bool.and_false, bne_self_eq_false, beq_self_eq_true] at hc; done)) | refine run_block ?_ | refine run_ret ?_ | refine run_nil ?_ | refine run_exit ?_ | refine blk_normal ?_ | refine blk_ret ?_ | refine blk_here ?_ | refine blk_there rfl ?_ | refine loop_exit ?_ | refine loop_ret ?_ | refine un_exit ?_ | refine un_ret ?_ | refine unE_exit ?_ | refine unE_ret ?_ | refine un_normal ?_)
    exact end_int b _ _ rfl rfl hT
  | t + 1, ht, hT =>
    have hwt : ((t + 1 : Nat) : Int) - 1 = (t : Int) := by omega
    have hws : IntKind.i64.wrap ((t : Int) - 1) = (t : Int) - 1 := by rw [IntKind.wrap_i64]; omega
    simp only [hwt]
    have hge : decide ((t : Int) ≥ 0) = true := by simp
    simp only [lastN] at hT
    repeat' (first | refine run_seq ?_ | refine run_skip ?_ | (refine run_region fun K hK => ?_; (try (simp (maxSteps := 10000000) only [opL, blkB, blkL, opsB, opB', partsOf, fillS, Int.toNat_natCast, hge, hws, C50r0, C50r1, C50r2, C50r3, C50r4, C50r5, C50r6, C50r7, C50r8, C50r9, C50r10, C50r11, C50r12, C50r13, C50r14, C50r15, C50r16, rwp_nil, rwp_cons, rwpK_app, aop, gpath, St.get, slotAt, sfx, eqP, segsOf, St.put, addBlk, getB, setB, delB, ld1, ldn, st1, stn, setRow, rowNeed, segAt, nsub, bin, un, eqB, isShift, sameK, arith, shiftR, getsl, selB_or, selB_and, beqb, shed, addN, Nat.beq, Seg.size, sizes, imp, needP, andN, appL, argsOf, ptrsOf, aasOf, cut, takeS, dropS, putS, partsOf, fillS, fieldOf, nthA, negIf, nilq, nilB, eqS, eqF, eqS1, andP, kin, slcS, strOk, plusA, bndHi, leN, optG, roH, roL, initT, exOk, exAll, wrAddr, Nat.reduceAdd, Nat.reduceSub, Nat.reduceMul, Int.reduceToNat, List.append_nil, List.nil_append, List.cons_append, mapR, mapR1, keyL, keyOk, keyP, colsPut, colsDel, zcols, eqT, idxT, cat, cpy, ite_int, ite_bool, ite_seg, ite_segs, ite_nil, ite_twice, Int.toNat_natCast, app, addBs, tob])); (repeat (first | (refine And.intro ?_ ?_; · (first | trivial | assumption | omega | exact ⟨by omega, by omega⟩ | (intros; first | trivial | assumption | omega | (simp only [decide_eq_true_eq] at *; omega)))))); with_reducible refine hK _ ?_; clear hK K) | (refine run_cond rfl (fun hc => ?_) (fun hc => ?_) <;> try (simp only [*, Bool.true_eq_false, Bool.false_eq_true, Bool.not_true, Bool.not_false, Bool.true_or, Bool.or_true, Bool.false_or, Bool.or_false, Bool.false_and, Bool.and_false, bne_self_eq_false, beq_self_eq_true] at hc; done)) | refine run_block ?_ | refine run_ret ?_ | refine run_nil ?_ | refine run_exit ?_ | refine blk_normal ?_ | refine blk_ret ?_ | refine blk_here ?_ | refine blk_there rfl ?_ | refine loop_exit ?_ | refine loop_ret ?_ | refine un_exit ?_ | refine un_ret ?_ | refine unE_exit ?_ | refine unE_ret ?_ | refine un_normal ?_)
    all_goals first
      | (have hh : hitF o (b.f t) = true := by
          clear hT
          simp only [hitF, *, if_true, Bool.false_eq_true, if_false]
         rw [if_pos hh] at hT
         exact end_int b _ _ rfl rfl hT)
      | (have hh : hitF o (b.f t) = false := by
          clear hT
          simp only [hitF, *, if_true, Bool.false_eq_true, if_false]
         rw [hh, if_neg Bool.false_ne_true] at hT
         exact loop_normal t (lasSt b o t) (Nat.lt_succ_self t) (LeS.intro [0, 1, 2] (fun i h => idtF i h) (by simp only [diff, notIn, Nat.beq, and_self]) rfl (by simp only [lasSt, hws, slotsLe, slotAt, Nat.beq, leV, leV1, leC, leA, nthO, Int.natCast_zero, Int.ofNat_zero, and_self]) ⟨op_le' o, blk_le b rfl, ops_le b.n b.f false, trivial⟩) ⟨by omega, hT, rfl⟩)
theorem con50_at (b : BlkS) (k : Nat) (hk : k < b.n) (hn : b.n ≤ 1000) (n : Nat) (X : List (Nat × Blk)) (w : Bool) (h0 : getB X 0 = some ⟨6, some b.n, fun i => opL (b.f i), 39, w⟩) (hlt : 0 < n) (hkl : keysLt X n) : Con Try.prog 50 [.agg (blkL b 0), .c (.int .i64 k)] ⟨n, X⟩ (fun v H' => v = .c (.int .i64 (lastN b.f (b.f k) k)) ∧ H' = ⟨n, X⟩) :=
  ro_gen (con50 b k hk hn) [0] n X rfl ⟨trivial, trivial⟩ ⟨hlt, trivial⟩ hkl (by simp only [leBlks, nthO, h0]; exact ⟨ops_le b.n b.f w, trivial⟩) (by simp only [leArgs, leV, leV1, blkL, leSegs, leSeg, leC, leA, nthO, and_self]) rfl (fun _ => rfl) rfl rfl
end Go.Proofs.Ytmbnakinhnkabaa

namespace Go.Proofs.Ytmbnakinhnkabaa
open Go.AM
set_option maxRecDepth 100000
set_option linter.unusedSimpArgs false
set_option linter.unusedVariables false
theorem q8_8 : (((8 : Int) == 8)) = true := rfl
theorem q8_15 : (((8 : Int) == 15)) = false := rfl
theorem q8_2 : (((8 : Int) == 2)) = false := rfl
theorem q8_4 : (((8 : Int) == 4)) = false := rfl
theorem q8_6 : (((8 : Int) == 6)) = false := rfl
theorem q15_8 : (((15 : Int) == 8)) = false := rfl
theorem q15_15 : (((15 : Int) == 15)) = true := rfl
theorem q15_2 : (((15 : Int) == 2)) = false := rfl
theorem q15_4 : (((15 : Int) == 4)) = false := rfl
theorem q15_6 : (((15 : Int) == 6)) = false := rfl
theorem q2_8 : (((2 : Int) == 8)) = false := rfl
theorem q2_15 : (((2 : Int) == 15)) = false := rfl
theorem q2_2 : (((2 : Int) == 2)) = true := rfl
theorem q2_4 : (((2 : Int) == 4)) = false := rfl
theorem q2_6 : (((2 : Int) == 6)) = false := rfl
theorem q4_8 : (((4 : Int) == 8)) = false := rfl
theorem q4_15 : (((4 : Int) == 15)) = false := rfl
theorem q4_2 : (((4 : Int) == 2)) = false := rfl
theorem q4_4 : (((4 : Int) == 4)) = true := rfl
theorem q4_6 : (((4 : Int) == 6)) = false := rfl
theorem q6_8 : (((6 : Int) == 8)) = false := rfl
theorem q6_15 : (((6 : Int) == 15)) = false := rfl
theorem q6_2 : (((6 : Int) == 2)) = false := rfl
theorem q6_4 : (((6 : Int) == 4)) = false := rfl
theorem q6_6 : (((6 : Int) == 6)) = true := rfl
theorem lastN_lt (f : Nat → OpS) (o : OpS) : ∀ t : Nat, lastN f o t < t
  | 0 => by simp [lastN]
  | t + 1 => by
    have := lastN_lt f o t
    simp only [lastN]
    split <;> omega
theorem simp_oth {f : Nat → OpS} {k : Nat} (h8 : ¬ (f k).kind = 8) (h15 : ¬ (f k).kind = 15) (h2 : ¬ (f k).kind = 2) (h4 : ¬ (f k).kind = 4) (h6 : ¬ (f k).kind = 6) : simpF f k = true := by
  unfold simpF
  rw [if_neg h8, if_neg h15, if_neg (by omega), if_neg h6]
set_option maxHeartbeats 4000000 in
theorem con29 (b : BlkS) (k : Nat) (hr : rightS b = true) (hk : k < b.n) : Con Try.prog 29 [.agg (blkL b 0), .c (.int .i64 k)] ⟨1, [(0, opsB b.n b.f)]⟩ (fun v H' => v = .c (.bool (simpF b.f k)) ∧ H' = ⟨1, [(0, opsB b.n b.f)]⟩) := by
  have hn := right_n hr
  have hu := fun i (hi : i < usesS (b.f k).kind) => right_use hr hk hi
  have e0 : useF (b.f k) 0 = (b.f k).a := rfl
  have e1 : useF (b.f k) 1 = (b.f k).b := rfl
  by_cases h8 : (b.f k).kind = 8
  · have ha := hu 0 (by rw [h8]; decide)
    have hb := hu 1 (by rw [h8]; decide)
    rw [e0] at ha
    rw [e1] at hb
    have hT : (((b.f (b.f k).a.toNat).kind != 1) || ((b.f (b.f k).b.toNat).kind != 1)) = simpF b.f k := by unfold simpF; rw [if_pos h8]
    generalize simpF b.f k = T at hT ⊢
    (refine con_of_run mixed (fn := Try.f29) (by kernel_rfl) (by kernel_rfl) C29_ok (rs := [.tmp 4]) (by kernel_rfl) (Nat.le_of_ble_eq_true (by kernel_rfl)) ?_; unfold C29; simp only [initT, Nat.reduceAdd])
    repeat' (first | refine run_seq ?_ | refine run_skip ?_ | (refine run_region fun K hK => ?_; (try (simp (maxSteps := 10000000) only [opL, blkL, blkB, opsB, partsOf, fillS, Int.toNat_natCast, h8, q8_8, q8_15, q8_2, q8_4, q8_6, C29r0, C29r1, C29r2, C29r3, C29r4, C29r5, C29r6, C29r7, C29r8, C29r9, C29r10, C29r11, C29r12, C29r13, rwp_nil, rwp_cons, rwpK_app, aop, gpath, St.get, slotAt, sfx, eqP, segsOf, St.put, addBlk, getB, setB, delB, ld1, ldn, st1, stn, setRow, rowNeed, segAt, nsub, bin, un, eqB, isShift, sameK, arith, shiftR, getsl, selB_or, selB_and, beqb, shed, addN, Nat.beq, Seg.size, sizes, imp, needP, andN, appL, argsOf, ptrsOf, aasOf, cut, takeS, dropS, putS, partsOf, fillS, fieldOf, nthA, negIf, nilq, nilB, eqS, eqF, eqS1, andP, kin, slcS, strOk, plusA, bndHi, leN, optG, roH, roL, initT, exOk, exAll, wrAddr, Nat.reduceAdd, Nat.reduceSub, Nat.reduceMul, Int.reduceToNat, List.append_nil, List.nil_append, List.cons_append, mapR, mapR1, keyL, keyOk, keyP, colsPut, colsDel, zcols, eqT, idxT, cat, cpy, ite_int, ite_bool, ite_seg, ite_segs, ite_nil, ite_twice, Int.toNat_natCast, app, addBs, tob])); (repeat (first | (refine And.intro ?_ ?_; · (first | trivial | assumption | omega | exact ⟨by omega, by omega⟩ | (intros; first | trivial | assumption | omega | decide))))); with_reducible refine hK _ ?_; clear hK K) | (refine run_cond rfl (fun hc => ?_) (fun hc => ?_) <;> try (simp only [*, Bool.true_eq_false, Bool.false_eq_true, Bool.not_true, Bool.not_false, Bool.true_or, Bool.or_true, Bool.false_or, Bool.or_false, Bool.false_and, Bool.and_false, bne_self_eq_false, beq_self_eq_true] at hc; done)) | refine run_block ?_ | refine run_ret ?_ | refine run_nil ?_ | refine blk_normal ?_ | refine blk_ret ?_ | refine blk_here ?_ | refine blk_there rfl ?_)
    exact end_ops T (by rw [← hT]; rfl) rfl ⟨rfl, rfl⟩
  by_cases h15 : (b.f k).kind = 15
  · have ha := hu 0 (by rw [h15]; decide)
    rw [e0] at ha
    have hT : ((b.f (b.f k).a.toNat).kind != 1) = simpF b.f k := by unfold simpF; rw [if_neg h8, if_pos h15]
    generalize simpF b.f k = T at hT ⊢
    (refine con_of_run mixed (fn := Try.f29) (by kernel_rfl) (by kernel_rfl) C29_ok (rs := [.tmp 4]) (by kernel_rfl) (Nat.le_of_ble_eq_true (by kernel_rfl)) ?_; unfold C29; simp only [initT, Nat.reduceAdd])
    repeat' (first | refine run_seq ?_ | refine run_skip ?_ | (refine run_region fun K hK => ?_; (try (simp (maxSteps := 10000000) only [opL, blkL, blkB, opsB, partsOf, fillS, Int.toNat_natCast, h15, q15_8, q15_15, q15_2, q15_4, q15_6, C29r0, C29r1, C29r2, C29r3, C29r4, C29r5, C29r6, C29r7, C29r8, C29r9, C29r10, C29r11, C29r12, C29r13, rwp_nil, rwp_cons, rwpK_app, aop, gpath, St.get, slotAt, sfx, eqP, segsOf, St.put, addBlk, getB, setB, delB, ld1, ldn, st1, stn, setRow, rowNeed, segAt, nsub, bin, un, eqB, isShift, sameK, arith, shiftR, getsl, selB_or, selB_and, beqb, shed, addN, Nat.beq, Seg.size, sizes, imp, needP, andN, appL, argsOf, ptrsOf, aasOf, cut, takeS, dropS, putS, partsOf, fillS, fieldOf, nthA, negIf, nilq, nilB, eqS, eqF, eqS1, andP, kin, slcS, strOk, plusA, bndHi, leN, optG, roH, roL, initT, exOk, exAll, wrAddr, Nat.reduceAdd, Nat.reduceSub, Nat.reduceMul, Int.reduceToNat, List.append_nil, List.nil_append, List.cons_append, mapR, mapR1, keyL, keyOk, keyP, colsPut, colsDel, zcols, eqT, idxT, cat, cpy, ite_int, ite_bool, ite_seg, ite_segs, ite_nil, ite_twice, Int.toNat_natCast, app, addBs, tob])); (repeat (first | (refine And.intro ?_ ?_; · (first | trivial | assumption | omega | exact ⟨by omega, by omega⟩ | (intros; first | trivial | assumption | omega | decide))))); with_reducible refine hK _ ?_; clear hK K) | (refine run_cond rfl (fun hc => ?_) (fun hc => ?_) <;> try (simp only [*, Bool.true_eq_false, Bool.false_eq_true, Bool.not_true, Bool.not_false, Bool.true_or, Bool.or_true, Bool.false_or, Bool.or_false, Bool.false_and, Bool.and_false, bne_self_eq_false, beq_self_eq_true] at hc; done)) | refine run_block ?_ | refine run_ret ?_ | refine run_nil ?_ | refine blk_normal ?_ | refine blk_ret ?_ | refine blk_here ?_ | refine blk_there rfl ?_)
    exact end_ops T (by rw [← hT]; rfl) rfl ⟨rfl, rfl⟩
  by_cases h2 : (b.f k).kind = 2
  · have hT : decide (lastN b.f (b.f k) k < 0) = simpF b.f k := by unfold simpF; rw [if_neg h8, if_neg h15, if_pos (.inl h2)]
    generalize simpF b.f k = T at hT ⊢
    (refine con_of_run mixed (fn := Try.f29) (by kernel_rfl) (by kernel_rfl) C29_ok (rs := [.tmp 4]) (by kernel_rfl) (Nat.le_of_ble_eq_true (by kernel_rfl)) ?_; unfold C29; simp only [initT, Nat.reduceAdd])
    repeat' (first | refine run_seq ?_ | refine run_skip ?_ | (refine run_region fun K hK => ?_; (try (simp (maxSteps := 10000000) only [opL, blkL, blkB, opsB, partsOf, fillS, Int.toNat_natCast, h2, q2_8, q2_15, q2_2, q2_4, q2_6, C29r0, C29r1, C29r2, C29r3, C29r4, C29r5, C29r6, C29r7, C29r8, C29r9, C29r10, C29r11, C29r12, C29r13, rwp_nil, rwp_cons, rwpK_app, aop, gpath, St.get, slotAt, sfx, eqP, segsOf, St.put, addBlk, getB, setB, delB, ld1, ldn, st1, stn, setRow, rowNeed, segAt, nsub, bin, un, eqB, isShift, sameK, arith, shiftR, getsl, selB_or, selB_and, beqb, shed, addN, Nat.beq, Seg.size, sizes, imp, needP, andN, appL, argsOf, ptrsOf, aasOf, cut, takeS, dropS, putS, partsOf, fillS, fieldOf, nthA, negIf, nilq, nilB, eqS, eqF, eqS1, andP, kin, slcS, strOk, plusA, bndHi, leN, optG, roH, roL, initT, exOk, exAll, wrAddr, Nat.reduceAdd, Nat.reduceSub, Nat.reduceMul, Int.reduceToNat, List.append_nil, List.nil_append, List.cons_append, mapR, mapR1, keyL, keyOk, keyP, colsPut, colsDel, zcols, eqT, idxT, cat, cpy, ite_int, ite_bool, ite_seg, ite_segs, ite_nil, ite_twice, Int.toNat_natCast, app, addBs, tob])); (repeat (first | (refine And.intro ?_ ?_; · (first | trivial | assumption | omega | exact ⟨by omega, by omega⟩ | (intros; first | trivial | assumption | omega | decide))) | ((first | (refine call_t _ (con50_at b k hk (by omega) _ _ _ rfl (Nat.le_of_ble_eq_true rfl) (by simp [keysLt])) ?_; rintro v H' ⟨rfl, rfl⟩) | refine call_q _ (con50_at b k hk (by omega) _ _ _ rfl (Nat.le_of_ble_eq_true rfl) (by simp [keysLt])) ?_ | refine call_g _ (imp_of (con50_at b k hk (by omega) _ _ _ rfl (Nat.le_of_ble_eq_true rfl) (by simp [keysLt]))) ?_); simp (maxSteps := 10000000) only [opL, blkL, blkB, opsB, partsOf, fillS, Int.toNat_natCast, h2, q2_8, q2_15, q2_2, q2_4, q2_6, C29r0, C29r1, C29r2, C29r3, C29r4, C29r5, C29r6, C29r7, C29r8, C29r9, C29r10, C29r11, C29r12, C29r13, rwp_nil, rwp_cons, rwpK_app, aop, gpath, St.get, slotAt, sfx, eqP, segsOf, St.put, addBlk, getB, setB, delB, ld1, ldn, st1, stn, setRow, rowNeed, segAt, nsub, bin, un, eqB, isShift, sameK, arith, shiftR, getsl, selB_or, selB_and, beqb, shed, addN, Nat.beq, Seg.size, sizes, imp, needP, andN, appL, argsOf, ptrsOf, aasOf, cut, takeS, dropS, putS, partsOf, fillS, fieldOf, nthA, negIf, nilq, nilB, eqS, eqF, eqS1, andP, kin, slcS, strOk, plusA, bndHi, leN, optG, roH, roL, initT, exOk, exAll, wrAddr, Nat.reduceAdd, Nat.reduceSub, Nat.reduceMul, Int.reduceToNat, List.append_nil, List.nil_append, List.cons_append, mapR, mapR1, keyL, keyOk, keyP, colsPut, colsDel, zcols, eqT, idxT, cat, cpy, ite_int, ite_bool, ite_seg, ite_segs, ite_nil, ite_twice, Int.toNat_natCast, app, addBs, tob]))); with_reducible refine hK _ ?_; clear hK K) | (refine run_cond rfl (fun hc => ?_) (fun hc => ?_) <;> try (simp only [*, Bool.true_eq_false, Bool.false_eq_true, Bool.not_true, Bool.not_false, Bool.true_or, Bool.or_true, Bool.false_or, Bool.or_false, Bool.false_and, Bool.and_false, bne_self_eq_false, beq_self_eq_true] at hc; done)) | refine run_block ?_ | refine run_ret ?_ | refine run_nil ?_ | refine blk_normal ?_ | refine blk_ret ?_ | refine blk_here ?_ | refine blk_there rfl ?_)
    exact end_ops T (by rw [← hT]; rfl) rfl ⟨rfl, rfl⟩
  by_cases h4 : (b.f k).kind = 4
  · have hT : decide (lastN b.f (b.f k) k < 0) = simpF b.f k := by unfold simpF; rw [if_neg h8, if_neg h15, if_pos (.inr h4)]
    generalize simpF b.f k = T at hT ⊢
    (refine con_of_run mixed (fn := Try.f29) (by kernel_rfl) (by kernel_rfl) C29_ok (rs := [.tmp 4]) (by kernel_rfl) (Nat.le_of_ble_eq_true (by kernel_rfl)) ?_; unfold C29; simp only [initT, Nat.reduceAdd])
    repeat' (first | refine run_seq ?_ | refine run_skip ?_ | (refine run_region fun K hK => ?_; (try (simp (maxSteps := 10000000) only [opL, blkL, blkB, opsB, partsOf, fillS, Int.toNat_natCast, h4, q4_8, q4_15, q4_2, q4_4, q4_6, C29r0, C29r1, C29r2, C29r3, C29r4, C29r5, C29r6, C29r7, C29r8, C29r9, C29r10, C29r11, C29r12, C29r13, rwp_nil, rwp_cons, rwpK_app, aop, gpath, St.get, slotAt, sfx, eqP, segsOf, St.put, addBlk, getB, setB, delB, ld1, ldn, st1, stn, setRow, rowNeed, segAt, nsub, bin, un, eqB, isShift, sameK, arith, shiftR, getsl, selB_or, selB_and, beqb, shed, addN, Nat.beq, Seg.size, sizes, imp, needP, andN, appL, argsOf, ptrsOf, aasOf, cut, takeS, dropS, putS, partsOf, fillS, fieldOf, nthA, negIf, nilq, nilB, eqS, eqF, eqS1, andP, kin, slcS, strOk, plusA, bndHi, leN, optG, roH, roL, initT, exOk, exAll, wrAddr, Nat.reduceAdd, Nat.reduceSub, Nat.reduceMul, Int.reduceToNat, List.append_nil, List.nil_append, List.cons_append, mapR, mapR1, keyL, keyOk, keyP, colsPut, colsDel, zcols, eqT, idxT, cat, cpy, ite_int, ite_bool, ite_seg, ite_segs, ite_nil, ite_twice, Int.toNat_natCast, app, addBs, tob])); (repeat (first | (refine And.intro ?_ ?_; · (first | trivial | assumption | omega | exact ⟨by omega, by omega⟩ | (intros; first | trivial | assumption | omega | decide))) | ((first | (refine call_t _ (con50_at b k hk (by omega) _ _ _ rfl (Nat.le_of_ble_eq_true rfl) (by simp [keysLt])) ?_; rintro v H' ⟨rfl, rfl⟩) | refine call_q _ (con50_at b k hk (by omega) _ _ _ rfl (Nat.le_of_ble_eq_true rfl) (by simp [keysLt])) ?_ | refine call_g _ (imp_of (con50_at b k hk (by omega) _ _ _ rfl (Nat.le_of_ble_eq_true rfl) (by simp [keysLt]))) ?_); simp (maxSteps := 10000000) only [opL, blkL, blkB, opsB, partsOf, fillS, Int.toNat_natCast, h4, q4_8, q4_15, q4_2, q4_4, q4_6, C29r0, C29r1, C29r2, C29r3, C29r4, C29r5, C29r6, C29r7, C29r8, C29r9, C29r10, C29r11, C29r12, C29r13, rwp_nil, rwp_cons, rwpK_app, aop, gpath, St.get, slotAt, sfx, eqP, segsOf, St.put, addBlk, getB, setB, delB, ld1, ldn, st1, stn, setRow, rowNeed, segAt, nsub, bin, un, eqB, isShift, sameK, arith, shiftR, getsl, selB_or, selB_and, beqb, shed, addN, Nat.beq, Seg.size, sizes, imp, needP, andN, appL, argsOf, ptrsOf, aasOf, cut, takeS, dropS, putS, partsOf, fillS, fieldOf, nthA, negIf, nilq, nilB, eqS, eqF, eqS1, andP, kin, slcS, strOk, plusA, bndHi, leN, optG, roH, roL, initT, exOk, exAll, wrAddr, Nat.reduceAdd, Nat.reduceSub, Nat.reduceMul, Int.reduceToNat, List.append_nil, List.nil_append, List.cons_append, mapR, mapR1, keyL, keyOk, keyP, colsPut, colsDel, zcols, eqT, idxT, cat, cpy, ite_int, ite_bool, ite_seg, ite_segs, ite_nil, ite_twice, Int.toNat_natCast, app, addBs, tob]))); with_reducible refine hK _ ?_; clear hK K) | (refine run_cond rfl (fun hc => ?_) (fun hc => ?_) <;> try (simp only [*, Bool.true_eq_false, Bool.false_eq_true, Bool.not_true, Bool.not_false, Bool.true_or, Bool.or_true, Bool.false_or, Bool.or_false, Bool.false_and, Bool.and_false, bne_self_eq_false, beq_self_eq_true] at hc; done)) | refine run_block ?_ | refine run_ret ?_ | refine run_nil ?_ | refine blk_normal ?_ | refine blk_ret ?_ | refine blk_here ?_ | refine blk_there rfl ?_)
    exact end_ops T (by rw [← hT]; rfl) rfl ⟨rfl, rfl⟩
  by_cases h6 : (b.f k).kind = 6
  · have hT : (decide (lastN b.f (b.f k) k < 0) || ((b.f (lastN b.f (b.f k) k).toNat).kind == 7 && !certF (b.f (b.f (lastN b.f (b.f k) k).toNat).a.toNat))) = simpF b.f k := by unfold simpF; rw [if_neg h8, if_neg h15, if_neg (by omega), if_pos h6]
    generalize simpF b.f k = T at hT ⊢
    have hl := lastN_lt b.f (b.f k) k
    (refine con_of_run mixed (fn := Try.f29) (by kernel_rfl) (by kernel_rfl) C29_ok (rs := [.tmp 4]) (by kernel_rfl) (Nat.le_of_ble_eq_true (by kernel_rfl)) ?_; unfold C29; simp only [initT, Nat.reduceAdd])
    repeat' (first | refine run_seq ?_ | refine run_skip ?_ | (refine run_region fun K hK => ?_; (try (simp (maxSteps := 10000000) only [opL, blkL, blkB, opsB, partsOf, fillS, Int.toNat_natCast, h6, q6_8, q6_15, q6_2, q6_4, q6_6, C29r0, C29r1, C29r2, C29r3, C29r4, C29r5, C29r6, C29r7, C29r8, C29r9, C29r10, C29r11, C29r13, rwp_nil, rwp_cons, rwpK_app, aop, gpath, St.get, slotAt, sfx, eqP, segsOf, St.put, addBlk, getB, setB, delB, ld1, ldn, st1, stn, setRow, rowNeed, segAt, nsub, bin, un, eqB, isShift, sameK, arith, shiftR, getsl, selB_or, selB_and, beqb, shed, addN, Nat.beq, Seg.size, sizes, imp, needP, andN, appL, argsOf, ptrsOf, aasOf, cut, takeS, dropS, putS, partsOf, fillS, fieldOf, nthA, negIf, nilq, nilB, eqS, eqF, eqS1, andP, kin, slcS, strOk, plusA, bndHi, leN, optG, roH, roL, initT, exOk, exAll, wrAddr, Nat.reduceAdd, Nat.reduceSub, Nat.reduceMul, Int.reduceToNat, List.append_nil, List.nil_append, List.cons_append, mapR, mapR1, keyL, keyOk, keyP, colsPut, colsDel, zcols, eqT, idxT, cat, cpy, ite_int, ite_bool, ite_seg, ite_segs, ite_nil, ite_twice, Int.toNat_natCast, app, addBs, tob])); (repeat (first | (refine And.intro ?_ ?_; · (first | trivial | assumption | omega | exact ⟨by omega, by omega⟩ | (intros; first | trivial | assumption | omega | decide))) | ((first | (refine call_t _ (con50_at b k hk (by omega) _ _ _ rfl (Nat.le_of_ble_eq_true rfl) (by simp [keysLt])) ?_; rintro v H' ⟨rfl, rfl⟩) | refine call_q _ (con50_at b k hk (by omega) _ _ _ rfl (Nat.le_of_ble_eq_true rfl) (by simp [keysLt])) ?_ | refine call_g _ (imp_of (con50_at b k hk (by omega) _ _ _ rfl (Nat.le_of_ble_eq_true rfl) (by simp [keysLt]))) ?_ | (refine call_t _ (con51 _ _) ?_; rintro v H' ⟨rfl, rfl⟩) | refine call_q _ (con51 _ _) ?_ | refine call_g _ (imp_of (con51 _ _)) ?_); simp (maxSteps := 10000000) only [opL, blkL, blkB, opsB, partsOf, fillS, Int.toNat_natCast, h6, q6_8, q6_15, q6_2, q6_4, q6_6, C29r0, C29r1, C29r2, C29r3, C29r4, C29r5, C29r6, C29r7, C29r8, C29r9, C29r10, C29r11, C29r13, rwp_nil, rwp_cons, rwpK_app, aop, gpath, St.get, slotAt, sfx, eqP, segsOf, St.put, addBlk, getB, setB, delB, ld1, ldn, st1, stn, setRow, rowNeed, segAt, nsub, bin, un, eqB, isShift, sameK, arith, shiftR, getsl, selB_or, selB_and, beqb, shed, addN, Nat.beq, Seg.size, sizes, imp, needP, andN, appL, argsOf, ptrsOf, aasOf, cut, takeS, dropS, putS, partsOf, fillS, fieldOf, nthA, negIf, nilq, nilB, eqS, eqF, eqS1, andP, kin, slcS, strOk, plusA, bndHi, leN, optG, roH, roL, initT, exOk, exAll, wrAddr, Nat.reduceAdd, Nat.reduceSub, Nat.reduceMul, Int.reduceToNat, List.append_nil, List.nil_append, List.cons_append, mapR, mapR1, keyL, keyOk, keyP, colsPut, colsDel, zcols, eqT, idxT, cat, cpy, ite_int, ite_bool, ite_seg, ite_segs, ite_nil, ite_twice, Int.toNat_natCast, app, addBs, tob]))); with_reducible refine hK _ ?_; clear hK K) | (refine run_cond rfl (fun hc => ?_) (fun hc => ?_) <;> try (simp only [*, Bool.true_eq_false, Bool.false_eq_true, Bool.not_true, Bool.not_false, Bool.true_or, Bool.or_true, Bool.false_or, Bool.or_false, Bool.false_and, Bool.and_false, bne_self_eq_false, beq_self_eq_true] at hc; done)) | refine run_block ?_ | refine run_ret ?_ | refine run_nil ?_ | refine blk_normal ?_ | refine blk_ret ?_ | refine blk_here ?_ | refine blk_there rfl ?_)
    generalize lastN b.f (b.f k) k = L at hT hl ⊢
    have n1 : decide (L < 0) = false → 0 ≤ L ∧ L < b.n := fun h => by rw [decide_eq_false_iff_not] at h; omega
    have n2 : decide (L < 0) = false → L.toNat < b.n := fun h => by rw [decide_eq_false_iff_not] at h; omega
    have n3 : ((b.f L.toNat).kind == 7) = true → decide (L < 0) = false → 0 ≤ L ∧ L < b.n := fun _ => n1
    have n4 : ((b.f L.toNat).kind == 7) = true → decide (L < 0) = false → L.toNat < b.n := fun _ => n2
    have n5 : ((b.f L.toNat).kind == 7) = true → decide (L < 0) = false → 0 ≤ (b.f L.toNat).a ∧ (b.f L.toNat).a < b.n := fun h7 h => by
      have h7 : (b.f L.toNat).kind = 7 := by simpa using h7
      have h1 := n1 h
      have := right_use hr (k := L.toNat) (by omega) (i := 0) (by rw [h7]; decide)
      have e : useF (b.f L.toNat) 0 = (b.f L.toNat).a := rfl
      rw [e] at this
      omega
    have n6 : ((b.f L.toNat).kind == 7) = true → decide (L < 0) = false → (b.f L.toNat).a.toNat < b.n := fun h7 h => by have := n5 h7 h; omega
    repeat' (first | refine run_seq ?_ | refine run_skip ?_ | (refine run_region fun K hK => ?_; (try (simp (maxSteps := 10000000) only [opL, blkL, blkB, opsB, partsOf, fillS, Int.toNat_natCast, h6, q6_8, q6_15, q6_2, q6_4, q6_6, C29r0, C29r1, C29r2, C29r3, C29r4, C29r5, C29r6, C29r7, C29r8, C29r9, C29r10, C29r11, C29r12, C29r13, rwp_nil, rwp_cons, rwpK_app, aop, gpath, St.get, slotAt, sfx, eqP, segsOf, St.put, addBlk, getB, setB, delB, ld1, ldn, st1, stn, setRow, rowNeed, segAt, nsub, bin, un, eqB, isShift, sameK, arith, shiftR, getsl, selB_or, selB_and, beqb, shed, addN, Nat.beq, Seg.size, sizes, imp, needP, andN, appL, argsOf, ptrsOf, aasOf, cut, takeS, dropS, putS, partsOf, fillS, fieldOf, nthA, negIf, nilq, nilB, eqS, eqF, eqS1, andP, kin, slcS, strOk, plusA, bndHi, leN, optG, roH, roL, initT, exOk, exAll, wrAddr, Nat.reduceAdd, Nat.reduceSub, Nat.reduceMul, Int.reduceToNat, List.append_nil, List.nil_append, List.cons_append, mapR, mapR1, keyL, keyOk, keyP, colsPut, colsDel, zcols, eqT, idxT, cat, cpy, ite_int, ite_bool, ite_seg, ite_segs, ite_nil, ite_twice, Int.toNat_natCast, app, addBs, tob])); (repeat (first | (refine And.intro ?_ ?_; · (first | trivial | assumption | omega | exact ⟨by omega, by omega⟩ | (intros; first | trivial | assumption | omega | decide))) | ((first | (refine call_t _ (con51 _ _) ?_; rintro v H' ⟨rfl, rfl⟩) | refine call_q _ (con51 _ _) ?_ | refine call_g _ (imp_of (con51 _ _)) ?_); simp (maxSteps := 10000000) only [opL, blkL, blkB, opsB, partsOf, fillS, Int.toNat_natCast, h6, q6_8, q6_15, q6_2, q6_4, q6_6, C29r0, C29r1, C29r2, C29r3, C29r4, C29r5, C29r6, C29r7, C29r8, C29r9, C29r10, C29r11, C29r12, C29r13, rwp_nil, rwp_cons, rwpK_app, aop, gpath, St.get, slotAt, sfx, eqP, segsOf, St.put, addBlk, getB, setB, delB, ld1, ldn, st1, stn, setRow, rowNeed, segAt, nsub, bin, un, eqB, isShift, sameK, arith, shiftR, getsl, selB_or, selB_and, beqb, shed, addN, Nat.beq, Seg.size, sizes, imp, needP, andN, appL, argsOf, ptrsOf, aasOf, cut, takeS, dropS, putS, partsOf, fillS, fieldOf, nthA, negIf, nilq, nilB, eqS, eqF, eqS1, andP, kin, slcS, strOk, plusA, bndHi, leN, optG, roH, roL, initT, exOk, exAll, wrAddr, Nat.reduceAdd, Nat.reduceSub, Nat.reduceMul, Int.reduceToNat, List.append_nil, List.nil_append, List.cons_append, mapR, mapR1, keyL, keyOk, keyP, colsPut, colsDel, zcols, eqT, idxT, cat, cpy, ite_int, ite_bool, ite_seg, ite_segs, ite_nil, ite_twice, Int.toNat_natCast, app, addBs, tob]))); with_reducible refine hK _ ?_; clear hK K) | (refine run_cond rfl (fun hc => ?_) (fun hc => ?_) <;> try (simp only [*, Bool.true_eq_false, Bool.false_eq_true, Bool.not_true, Bool.not_false, Bool.true_or, Bool.or_true, Bool.false_or, Bool.or_false, Bool.false_and, Bool.and_false, bne_self_eq_false, beq_self_eq_true] at hc; done)) | refine run_block ?_ | refine run_ret ?_ | refine run_nil ?_ | refine blk_normal ?_ | refine blk_ret ?_ | refine blk_here ?_ | refine blk_there rfl ?_)
    exact end_ops T (by rw [← hT]; rfl) rfl ⟨rfl, rfl⟩
  · rw [simp_oth h8 h15 h2 h4 h6]
    have g8 : ((b.f k).kind == 8) = false := by simp [h8]
    have g15 : ((b.f k).kind == 15) = false := by simp [h15]
    have g2 : ((b.f k).kind == 2) = false := by simp [h2]
    have g4 : ((b.f k).kind == 4) = false := by simp [h4]
    have g6 : ((b.f k).kind == 6) = false := by simp [h6]
    (refine con_of_run mixed (fn := Try.f29) (by kernel_rfl) (by kernel_rfl) C29_ok (rs := [.tmp 4]) (by kernel_rfl) (Nat.le_of_ble_eq_true (by kernel_rfl)) ?_; unfold C29; simp only [initT, Nat.reduceAdd])
    repeat' (first | refine run_seq ?_ | refine run_skip ?_ | (refine run_region fun K hK => ?_; (try (simp (maxSteps := 10000000) only [opL, blkL, blkB, opsB, partsOf, fillS, Int.toNat_natCast, g8, g15, g2, g4, g6, C29r0, C29r1, C29r2, C29r3, C29r4, C29r5, C29r6, C29r7, C29r8, C29r9, C29r10, C29r11, C29r12, C29r13, rwp_nil, rwp_cons, rwpK_app, aop, gpath, St.get, slotAt, sfx, eqP, segsOf, St.put, addBlk, getB, setB, delB, ld1, ldn, st1, stn, setRow, rowNeed, segAt, nsub, bin, un, eqB, isShift, sameK, arith, shiftR, getsl, selB_or, selB_and, beqb, shed, addN, Nat.beq, Seg.size, sizes, imp, needP, andN, appL, argsOf, ptrsOf, aasOf, cut, takeS, dropS, putS, partsOf, fillS, fieldOf, nthA, negIf, nilq, nilB, eqS, eqF, eqS1, andP, kin, slcS, strOk, plusA, bndHi, leN, optG, roH, roL, initT, exOk, exAll, wrAddr, Nat.reduceAdd, Nat.reduceSub, Nat.reduceMul, Int.reduceToNat, List.append_nil, List.nil_append, List.cons_append, mapR, mapR1, keyL, keyOk, keyP, colsPut, colsDel, zcols, eqT, idxT, cat, cpy, ite_int, ite_bool, ite_seg, ite_segs, ite_nil, ite_twice, Int.toNat_natCast, app, addBs, tob])); (repeat (first | (refine And.intro ?_ ?_; · (first | trivial | assumption | omega | exact ⟨by omega, by omega⟩ | (intros; first | trivial | assumption | omega | decide))))); with_reducible refine hK _ ?_; clear hK K) | (refine run_cond rfl (fun hc => ?_) (fun hc => ?_) <;> try (simp only [*, Bool.true_eq_false, Bool.false_eq_true, Bool.not_true, Bool.not_false, Bool.true_or, Bool.or_true, Bool.false_or, Bool.or_false, Bool.false_and, Bool.and_false, bne_self_eq_false, beq_self_eq_true] at hc; done)) | refine run_block ?_ | refine run_ret ?_ | refine run_nil ?_ | refine blk_normal ?_ | refine blk_ret ?_ | refine blk_here ?_ | refine blk_there rfl ?_)
    exact end_ops true rfl rfl ⟨rfl, rfl⟩
end Go.Proofs.Ytmbnakinhnkabaa

namespace Go.Proofs.Ytmbnakinhnkabaa
open Go.AM
set_option maxRecDepth 100000
set_option linter.unusedSimpArgs false
set_option linter.unusedVariables false
def U64 (x : Int) : Prop := 0 ≤ x ∧ x ≤ 18446744073709551615
theorem u64_wrap (x : Int) : U64 (IntKind.u64.wrap x) := by
  rw [IntKind.wrap_u64]
  unfold U64
  omega
theorem u64_truth (b : Bool) : U64 (truthS b) := by cases b <;> (unfold U64 truthS; decide)
theorem u64_fdiv {a : Int} (h : U64 a) (n : Nat) : U64 (a.fdiv (2 ^ n)) := by
  obtain ⟨h1, h2⟩ := h
  have hp : (0 : Int) ≤ 2 ^ n := Int.pow_nonneg (by decide)
  rw [Int.fdiv_eq_ediv_of_nonneg _ hp]
  have g1 := Int.ediv_nonneg h1 hp
  have g2 := Int.ediv_le_self (2 ^ n) h1
  exact ⟨g1, by omega⟩
theorem u64_zero : U64 0 := by unfold U64; decide
theorem ite_P18 {α : Type} {P : α → Prop} {c : Prop} [Decidable c] {a b : α} (h1 : P a) (h2 : P b) : P (if c then a else b) := by split <;> assumption
theorem reckS_u {k a b : Int} (ha : U64 a) : U64 (reckS k a b).1 := by
  unfold reckS
  iterate 15 (refine ite_P18 (P := fun r : Int × Int => U64 r.1) ?_ ?_; rotate_left)
  all_goals first | exact u64_wrap _ | exact u64_truth _ | exact u64_fdiv ha _ | exact u64_zero | skip
  · unfold f58
    split
    · exact u64_zero
    · exact u64_wrap _
  · unfold f59
    split
    · exact u64_zero
    · split <;> exact u64_wrap _
theorem con29_at (b : BlkS) (k : Nat) (hr : rightS b = true) (hk : k < b.n) (i n : Nat) (X : List (Nat × Blk)) (w : Bool) (h0 : getB X i = some ⟨6, some b.n, fun i => opL (b.f i), 39, w⟩) (hlt : i < n) (hkl : keysLt X n) : Con Try.prog 29 [.agg (blkL b i), .c (.int .i64 k)] ⟨n, X⟩ (fun v H' => v = .c (.bool (simpF b.f k)) ∧ H' = ⟨n, X⟩) :=
  ro_gen (con29 b k hr hk) [i] n X rfl ⟨trivial, trivial⟩ ⟨hlt, trivial⟩ hkl (by simp only [leBlks, nthO, h0]; exact ⟨ops_le b.n b.f w, trivial⟩) (by simp only [leArgs, leV, leV1, blkL, leSegs, leSeg, leC, leA, nthO, and_self]) rfl (fun _ => rfl) rfl rfl
theorem con30_at (b : BlkS) (k : Int) (hn : b.n ≤ 1000) (i n : Nat) (X : List (Nat × Blk)) (w : Bool) (h0 : getB X i = some ⟨6, some b.n, fun i => opL (b.f i), 39, w⟩) (hlt : i < n) (hkl : keysLt X n) : Con Try.prog 30 [.agg (blkL b i), .c (.int .i64 k)] ⟨n, X⟩ (fun v H' => v = .c (.int .i64 (cntF b.f k b.n)) ∧ H' = ⟨n, X⟩) :=
  ro_gen (con30 b k hn) [i] n X rfl ⟨trivial, trivial⟩ ⟨hlt, trivial⟩ hkl (by simp only [leBlks, nthO, h0]; exact ⟨ops_le b.n b.f w, trivial⟩) (by simp only [leArgs, leV, leV1, blkL, leSegs, leSeg, leC, leA, nthO, and_self]) rfl (fun _ => rfl) rfl rfl
theorem wf_of {o x : OpS} {m : Nat} {f : Nat → OpS} (ho : OpWf o) (hk : x.kind = o.kind) (hr : x.r = o.r) (hor : x.order = o.order) (hi : x.imm = o.imm) (h : ropS x m f = true) (hm : m ≤ 1000) : OpWf x := by
  obtain ⟨h1, h2⟩ := rop_iff.1 h
  unfold fieldBad at h1
  simp only [Bool.or_eq_false_iff, Bool.and_eq_false_iff, decide_eq_false_iff_not, bne_eq_false_iff_eq] at h1
  have ea : useF x 0 = x.a := rfl
  have eb : useF x 1 = x.b := rfl
  refine ⟨by rw [hk]; exact ho.kind, by rw [hr]; exact ho.r, ?_, ?_, by rw [hor]; exact ho.order, by rw [hi]; exact ho.imm⟩
  · rcases h1.1.2 with g | g
    · have := h2 0 (by omega)
      rw [ea] at this
      omega
    · omega
  · rcases h1.2 with g | g
    · have := h2 1 (by omega)
      rw [eb] at this
      omega
    · omega
theorem one_wf {s : PS} {o : OpS} (hf : ∀ k, k < s.m → OpWf (s.f k)) (ho : OpWf o) (ha : usesS o.kind ≥ 1 → 0 ≤ o.a ∧ o.a < s.m) : ∀ k, k < (oneP s o).s.m → OpWf ((oneP s o).s.f k) := by
  have wc : ∀ n, U64 n → OpWf (constO n) := fun n h => ⟨by simp [constO], by simp [constO], by simp [constO], by simp [constO], by simp [constO], h⟩
  have we : OpWf (exitO o.imm) := ⟨by simp [exitO], by simp [exitO], by simp [exitO], by simp [exitO], by simp [exitO], ho.imm⟩
  have lay : ∀ (t : PS) (x : OpS), t.m = s.m → t.f = s.f → OpWf x → ∀ k, k < (layS t x).m → OpWf ((layS t x).f k) := fun t x e1 e2 hx k hk => by
    have hk : k < t.m + 1 := hk
    show OpWf (if k < t.m then t.f k else x)
    split
    · rename_i h; rw [e2]; exact hf k (by omega)
    · exact hx
  unfold oneP
  split
  · rename_i h1
    split
    · exact lay _ _ (knSet_m _ _ _ _) (knSet_at _ _ _ _).2.2 ho
    · split
      · exact hf
      · exact lay s o rfl rfl ho
  · split
    · rename_i h8
      split
      · have := ha (by rw [h8]; decide)
        exact lay s _ rfl rfl (wc _ (reckS_u (hf o.a.toNat (by omega)).imm))
      · exact lay s o rfl rfl ho
    · split
      · split
        · split
          · exact hf
          · exact lay s _ rfl rfl we
        · exact lay s o rfl rfl ho
      · exact lay s o rfl rfl ho
theorem after_wf {s : PS} (h : PsR s) (hlt : s.na < s.b.n) (hb : ∀ k, k < s.b.n → OpWf (s.b.f k)) (hf : ∀ k, k < s.m → OpWf (s.f k)) : ∀ k, k < (afterP s).m → OpWf ((afterP s).f k) := by
  have hn := right_n h.ok.r
  have hm := h.ok.m
  have hrop := reO_rop h hlt
  exact one_wf hf (wf_of (hb _ hlt) rfl rfl rfl rfl hrop (by omega)) fun hu => by
    have := (rop_iff.1 hrop).2 0 hu
    exact ⟨this.1, this.2.1⟩
theorem stepN_wf : ∀ (t : Nat) {s : PS}, PsR s → (∀ k, k < s.b.n → OpWf (s.b.f k)) → (∀ k, k < s.m → OpWf (s.f k)) → ∀ k, k < (stepN t s).m → OpWf ((stepN t s).f k)
  | 0, s, _, _, hf => hf
  | t + 1, s, h, hb, hf => by
    simp only [stepN]
    split
    · rename_i hlt
      have h1 := after_wf h hlt hb hf
      split
      · exact h1
      · exact stepN_wf t (after_r h hlt) (by rw [after_b h.ok hlt]; exact hb) h1
    · exact hf
theorem foldB_wf {b : BlkS} (hr : rightS b = true) (hw : BlkWf b) : BlkWf (foldB b) :=
  ⟨hw.pc, hw.words, hw.el, stepN_wf b.n (ps0_r hr) hw.ops fun k hk => absurd hk (Nat.not_lt_zero k)⟩
theorem foldF_wf : ∀ {N : Nat} {b : BlkS}, wt b.f b.n ≤ N → rightS b = true → BlkWf b → BlkWf (foldF b)
  | 0, b, hw, hr, _ => by
    have h1 := wt_mono b.f (show 1 ≤ b.n from (right_n hr).1)
    simp only [wt] at h1
    have := wOp_pos (b.f 0)
    omega
  | N + 1, b, hw, hr, hb => by
    rw [foldF_step hr]
    split
    · rename_i hc
      have := fold_lt hr hc
      exact foldF_wf (N := N) (by omega) (fold_right hr) (foldB_wf hr hb)
    · exact foldB_wf hr hb
end Go.Proofs.Ytmbnakinhnkabaa

namespace Go.Proofs.Ytmbnakinhnkabaa
open Go.AM
set_option maxRecDepth 100000
set_option linter.unusedSimpArgs false
set_option linter.unusedVariables false
end Go.Proofs.Ytmbnakinhnkabaa

namespace Go.Proofs.Ytmbnakinhnkabaa
open Go.AM
set_option maxRecDepth 100000
set_option linter.unusedSimpArgs false
set_option linter.unusedVariables false
def fsSt (a b : BlkS) (t : Nat) (k : Nat) : St := ⟨[⟨t, [], .c (.int .i64 k)⟩, ⟨4, [], .c (.ptr ⟨3, 0, 0, 0⟩)⟩, ⟨3, [], .c (.bool true)⟩, ⟨1, [], .c (.ptr ⟨1, 0, 0, 0⟩)⟩], ⟨4, [(3, blkB a 2), (2, opsW a.n a.f), (1, blkB b 0), (0, opsB b.n b.f)]⟩⟩
set_option maxHeartbeats 8000000 in
theorem con7 (b : BlkS) (hw : BlkWf b) : Con Try.prog 7 [.agg (blkL b 0)] ⟨1, [(0, opsB b.n b.f)]⟩ (fun v H' => v = .c (.bool true) ∧ H' = ⟨1, [(0, opsB b.n b.f)]⟩) := by
  cases hr : rightS b with
  | false =>
    have hret : ∀ n, retFold b n = .tup [.agg zBlkL, .c (.int .i64 4)] := fun n => by simp [retFold, hr]
    have hnew : newFold b = [] := by simp [newFold, hr]
    have q4 : ((4 : Int) != 0) = true := rfl
    (refine con_of_run mixed (fn := Try.f7) (by kernel_rfl) (by kernel_rfl) C7_ok (rs := [.tmp 2]) (by kernel_rfl) (Nat.le_of_ble_eq_true (by kernel_rfl)) ?_; unfold C7; simp only [initT, Nat.reduceAdd])
    repeat' (first | refine run_seq ?_ | refine run_skip ?_ | (refine run_region fun K hK => ?_; (try (simp (maxSteps := 10000000) only [opL, blkL, blkB, opsB, zBlkL, partsOf, fillS, hret, hnew, q4, Bool.not_true, C7r0, C7r1, C7r2, C7r3, C7r4, C7r5, C7r6, C7r7, C7r8, C7r9, C7r10, C7r11, C7r12, C7r13, C7r14, C7r15, C7r16, C7r17, C7r18, C7r19, C7r20, C7r21, C7r22, C7r23, C7r24, C7r25, rwp_nil, rwp_cons, rwpK_app, aop, gpath, St.get, slotAt, sfx, eqP, segsOf, St.put, addBlk, getB, setB, delB, ld1, ldn, st1, stn, setRow, rowNeed, segAt, nsub, bin, un, eqB, isShift, sameK, arith, shiftR, getsl, selB_or, selB_and, beqb, shed, addN, Nat.beq, Seg.size, sizes, imp, needP, andN, appL, argsOf, ptrsOf, aasOf, cut, takeS, dropS, putS, partsOf, fillS, fieldOf, nthA, negIf, nilq, nilB, eqS, eqF, eqS1, andP, kin, slcS, strOk, plusA, bndHi, leN, optG, roH, roL, initT, exOk, exAll, wrAddr, Nat.reduceAdd, Nat.reduceSub, Nat.reduceMul, Int.reduceToNat, List.append_nil, List.nil_append, List.cons_append, mapR, mapR1, keyL, keyOk, keyP, colsPut, colsDel, zcols, eqT, idxT, cat, cpy, ite_int, ite_bool, ite_seg, ite_segs, ite_nil, ite_twice, Int.toNat_natCast, app, addBs, tob])); (repeat (first | (refine And.intro ?_ ?_; · (first | trivial | assumption | omega | exact ⟨by omega, by omega⟩ | (intros; first | trivial | assumption | omega | decide))) | ((first | (refine call_t _ (con23 _) ?_; rintro v H' ⟨rfl, rfl⟩) | refine call_q _ (con23 _) ?_ | refine call_g _ (imp_of (con23 _)) ?_ | (refine call_t _ (con25_at b _ _ _ _ rfl (Nat.le_of_ble_eq_true rfl) (by simp [roL, keysLt])) ?_; rintro v H' ⟨rfl, rfl⟩) | refine call_q _ (con25_at b _ _ _ _ rfl (Nat.le_of_ble_eq_true rfl) (by simp [roL, keysLt])) ?_ | refine call_g _ (imp_of (con25_at b _ _ _ _ rfl (Nat.le_of_ble_eq_true rfl) (by simp [roL, keysLt]))) ?_); simp (maxSteps := 10000000) only [opL, blkL, blkB, opsB, zBlkL, partsOf, fillS, hret, hnew, q4, Bool.not_true, C7r0, C7r1, C7r2, C7r3, C7r4, C7r5, C7r6, C7r7, C7r8, C7r9, C7r10, C7r11, C7r12, C7r13, C7r14, C7r15, C7r16, C7r17, C7r18, C7r19, C7r20, C7r21, C7r22, C7r23, C7r24, C7r25, rwp_nil, rwp_cons, rwpK_app, aop, gpath, St.get, slotAt, sfx, eqP, segsOf, St.put, addBlk, getB, setB, delB, ld1, ldn, st1, stn, setRow, rowNeed, segAt, nsub, bin, un, eqB, isShift, sameK, arith, shiftR, getsl, selB_or, selB_and, beqb, shed, addN, Nat.beq, Seg.size, sizes, imp, needP, andN, appL, argsOf, ptrsOf, aasOf, cut, takeS, dropS, putS, partsOf, fillS, fieldOf, nthA, negIf, nilq, nilB, eqS, eqF, eqS1, andP, kin, slcS, strOk, plusA, bndHi, leN, optG, roH, roL, initT, exOk, exAll, wrAddr, Nat.reduceAdd, Nat.reduceSub, Nat.reduceMul, Int.reduceToNat, List.append_nil, List.nil_append, List.cons_append, mapR, mapR1, keyL, keyOk, keyP, colsPut, colsDel, zcols, eqT, idxT, cat, cpy, ite_int, ite_bool, ite_seg, ite_segs, ite_nil, ite_twice, Int.toNat_natCast, app, addBs, tob]))); with_reducible refine hK _ ?_; clear hK K) | (refine run_cond rfl (fun hc => ?_) (fun hc => ?_) <;> try (simp only [*, Bool.true_eq_false, Bool.false_eq_true, Bool.not_true, Bool.not_false, Bool.true_or, Bool.or_true, Bool.false_or, Bool.or_false, Bool.false_and, Bool.and_false, bne_self_eq_false, beq_self_eq_true] at hc; done)) | refine run_block ?_ | refine run_ret ?_ | refine run_nil ?_ | refine run_exit ?_ | refine blk_normal ?_ | refine blk_ret ?_ | refine blk_here ?_ | refine blk_there rfl ?_ | refine loop_exit ?_ | refine loop_ret ?_ | refine un_exit ?_ | refine un_ret ?_ | refine unE_exit ?_ | refine unE_ret ?_ | refine un_normal ?_)
    exact end_ops true rfl rfl ⟨rfl, rfl⟩
  | true =>
    have hret : ∀ n, retFold b n = .tup [.agg (blkL (foldF b) n), .c (.int .i64 0)] := fun n => by simp [retFold, hr]
    have hnew : newFold b = [opsW (foldF b).n (foldF b).f] := by simp [newFold, hr]
    obtain ⟨ra, ca, fa, ffa⟩ := foldF_same hr
    obtain ⟨gn, gpc, gw, gel, gcnt⟩ := foldF_n (Nat.le_refl _) hr
    have hwa := foldF_wf (Nat.le_refl _) hr hw
    generalize foldF b = a at *
    have q0 : ((0 : Int) != 0) = false := rfl
    have hgt : decide ((a.n : Int) > (b.n : Int)) = false := by rw [decide_eq_false_iff_not]; omega
    have hbn := right_n hr
    (refine con_of_run mixed (fn := Try.f7) (by kernel_rfl) (by kernel_rfl) C7_ok (rs := [.tmp 2]) (by kernel_rfl) (Nat.le_of_ble_eq_true (by kernel_rfl)) ?_; unfold C7; simp only [initT, Nat.reduceAdd])
    repeat' (first | refine run_seq ?_ | refine run_skip ?_ | (refine run_region fun K hK => ?_; (try (simp (maxSteps := 10000000) only [opL, blkL, blkB, opsB, opsW, partsOf, fillS, hret, hnew, ra, q0, hgt, Bool.not_true, Bool.or_self, C7r0, C7r1, C7r2, C7r3, C7r4, C7r5, C7r6, C7r7, C7r8, C7r9, C7r11, C7r12, C7r13, C7r14, C7r15, C7r16, C7r17, C7r18, C7r19, C7r20, C7r21, C7r22, C7r23, C7r24, C7r25, rwp_nil, rwp_cons, rwpK_app, aop, gpath, St.get, slotAt, sfx, eqP, segsOf, St.put, addBlk, getB, setB, delB, ld1, ldn, st1, stn, setRow, rowNeed, segAt, nsub, bin, un, eqB, isShift, sameK, arith, shiftR, getsl, selB_or, selB_and, beqb, shed, addN, Nat.beq, Seg.size, sizes, imp, needP, andN, appL, argsOf, ptrsOf, aasOf, cut, takeS, dropS, putS, partsOf, fillS, fieldOf, nthA, negIf, nilq, nilB, eqS, eqF, eqS1, andP, kin, slcS, strOk, plusA, bndHi, leN, optG, roH, roL, initT, exOk, exAll, wrAddr, Nat.reduceAdd, Nat.reduceSub, Nat.reduceMul, Int.reduceToNat, List.append_nil, List.nil_append, List.cons_append, mapR, mapR1, keyL, keyOk, keyP, colsPut, colsDel, zcols, eqT, idxT, cat, cpy, ite_int, ite_bool, ite_seg, ite_segs, ite_nil, ite_twice, Int.toNat_natCast, app, addBs, tob])); (repeat (first | (refine And.intro ?_ ?_; · (first | trivial | assumption | omega | exact ⟨by omega, by omega⟩ | (intros; first | trivial | assumption | omega | decide))) | ((first | (refine call_t _ (con23 _) ?_; rintro v H' ⟨rfl, rfl⟩) | refine call_q _ (con23 _) ?_ | refine call_g _ (imp_of (con23 _)) ?_ | (refine call_t _ (con25_at b _ _ _ _ rfl (Nat.le_of_ble_eq_true rfl) (by simp [roL, keysLt])) ?_; rintro v H' ⟨rfl, rfl⟩) | refine call_q _ (con25_at b _ _ _ _ rfl (Nat.le_of_ble_eq_true rfl) (by simp [roL, keysLt])) ?_ | refine call_g _ (imp_of (con25_at b _ _ _ _ rfl (Nat.le_of_ble_eq_true rfl) (by simp [roL, keysLt]))) ?_ | (refine call_t _ (con11_at a hwa _ _ _ _ rfl (Nat.le_of_ble_eq_true rfl) (by simp [roL, keysLt])) ?_; rintro v H' ⟨rfl, rfl⟩) | refine call_q _ (con11_at a hwa _ _ _ _ rfl (Nat.le_of_ble_eq_true rfl) (by simp [roL, keysLt])) ?_ | refine call_g _ (imp_of (con11_at a hwa _ _ _ _ rfl (Nat.le_of_ble_eq_true rfl) (by simp [roL, keysLt]))) ?_); simp (maxSteps := 10000000) only [opL, blkL, blkB, opsB, opsW, partsOf, fillS, hret, hnew, ra, q0, hgt, Bool.not_true, Bool.or_self, C7r0, C7r1, C7r2, C7r3, C7r4, C7r5, C7r6, C7r7, C7r8, C7r9, C7r11, C7r12, C7r13, C7r14, C7r15, C7r16, C7r17, C7r18, C7r19, C7r20, C7r21, C7r22, C7r23, C7r24, C7r25, rwp_nil, rwp_cons, rwpK_app, aop, gpath, St.get, slotAt, sfx, eqP, segsOf, St.put, addBlk, getB, setB, delB, ld1, ldn, st1, stn, setRow, rowNeed, segAt, nsub, bin, un, eqB, isShift, sameK, arith, shiftR, getsl, selB_or, selB_and, beqb, shed, addN, Nat.beq, Seg.size, sizes, imp, needP, andN, appL, argsOf, ptrsOf, aasOf, cut, takeS, dropS, putS, partsOf, fillS, fieldOf, nthA, negIf, nilq, nilB, eqS, eqF, eqS1, andP, kin, slcS, strOk, plusA, bndHi, leN, optG, roH, roL, initT, exOk, exAll, wrAddr, Nat.reduceAdd, Nat.reduceSub, Nat.reduceMul, Int.reduceToNat, List.append_nil, List.nil_append, List.cons_append, mapR, mapR1, keyL, keyOk, keyP, colsPut, colsDel, zcols, eqT, idxT, cat, cpy, ite_int, ite_bool, ite_seg, ite_segs, ite_nil, ite_twice, Int.toNat_natCast, app, addBs, tob]))); with_reducible refine hK _ ?_; clear hK K) | (refine run_cond rfl (fun hc => ?_) (fun hc => ?_) <;> try (simp only [*, Bool.true_eq_false, Bool.false_eq_true, Bool.not_true, Bool.not_false, Bool.true_or, Bool.or_true, Bool.false_or, Bool.or_false, Bool.false_and, Bool.and_false, bne_self_eq_false, beq_self_eq_true] at hc; done)) | refine run_block ?_ | refine run_ret ?_ | refine run_nil ?_ | refine run_exit ?_ | refine blk_normal ?_ | refine blk_ret ?_ | refine blk_here ?_ | refine blk_there rfl ?_ | refine loop_exit ?_ | refine loop_ret ?_ | refine un_exit ?_ | refine un_ret ?_ | refine unE_exit ?_ | refine unE_ret ?_ | refine un_normal ?_)
    (refine run_regionL fun K hK => ?_; (try (simp (maxSteps := 10000000) only [opL, blkL, blkB, opsB, opsW, C7r0, C7r1, C7r2, C7r3, C7r4, C7r5, C7r6, C7r7, C7r8, C7r9, C7r10, C7r11, C7r12, C7r13, C7r14, C7r15, C7r16, C7r17, C7r18, C7r19, C7r20, C7r21, C7r22, C7r23, C7r24, C7r25, rwp_nil, rwp_cons, rwpK_app, aop, gpath, St.get, slotAt, sfx, eqP, segsOf, St.put, addBlk, getB, setB, delB, ld1, ldn, st1, stn, setRow, rowNeed, segAt, nsub, bin, un, eqB, isShift, sameK, arith, shiftR, getsl, selB_or, selB_and, beqb, shed, addN, Nat.beq, Seg.size, sizes, imp, needP, andN, appL, argsOf, ptrsOf, aasOf, cut, takeS, dropS, putS, partsOf, fillS, fieldOf, nthA, negIf, nilq, nilB, eqS, eqF, eqS1, andP, kin, slcS, strOk, plusA, bndHi, leN, optG, roH, roL, initT, exOk, exAll, wrAddr, Nat.reduceAdd, Nat.reduceSub, Nat.reduceMul, Int.reduceToNat, List.append_nil, List.nil_append, List.cons_append, mapR, mapR1, keyL, keyOk, keyP, colsPut, colsDel, zcols, eqT, idxT, cat, cpy, ite_int, ite_bool, ite_seg, ite_segs, ite_nil, ite_twice, Int.toNat_natCast, app, addBs, tob])); (repeat (first | (refine And.intro ?_ ?_; · first | trivial | assumption | omega))); refine hK _ (fsSt a b 7 0) (LeS.intro [0, 1, 2, 3] (fun i h => idtF i h) (by simp only [diff, notIn, Nat.beq, and_self]) rfl (by simp only [fsSt, slotsLe, slotAt, Nat.beq, leV, leV1, leC, leA, nthO, Int.natCast_zero, Int.ofNat_zero, and_self]) ⟨blk_le' a 2 2 rfl, opsw_le _ _ _ (fun _ _ => rfl), blk_le' b 0 0 rfl, ops_le b.n b.f false, trivial⟩) ?_; clear hK K)
    refine run_block ?_
    refine run_loop (fun t st => ∃ k, k ≤ a.n ∧ t = a.n - k ∧ st = fsSt a b 7 k) a.n ⟨0, Nat.zero_le _, rfl, rfl⟩ ?_
    rintro t st ⟨k, hk, rfl, rfl⟩
    have han := right_n ra
    by_cases hlt : k < a.n
    · have hd : decide ((k : Int) < (a.n : Int)) = true := by rw [decide_eq_true_eq]; omega
      have hwk : IntKind.i64.wrap ((k : Int) + 1) = ((k + 1 : Nat) : Int) := by rw [IntKind.wrap_i64]; omega
      have hsk := fix_simp ra ca hlt
      unfold fsSt
      repeat' (first | refine run_seq ?_ | refine run_skip ?_ | (refine run_region fun K hK => ?_; (try (simp (maxSteps := 10000000) only [opL, blkL, blkB, opsB, opsW, partsOf, fillS, hd, hsk, hwk, Bool.not_true, C7r0, C7r1, C7r2, C7r3, C7r4, C7r5, C7r6, C7r7, C7r8, C7r9, C7r10, C7r11, C7r12, C7r13, C7r14, C7r15, C7r16, C7r17, C7r18, C7r19, C7r20, C7r21, C7r22, C7r23, C7r24, C7r25, rwp_nil, rwp_cons, rwpK_app, aop, gpath, St.get, slotAt, sfx, eqP, segsOf, St.put, addBlk, getB, setB, delB, ld1, ldn, st1, stn, setRow, rowNeed, segAt, nsub, bin, un, eqB, isShift, sameK, arith, shiftR, getsl, selB_or, selB_and, beqb, shed, addN, Nat.beq, Seg.size, sizes, imp, needP, andN, appL, argsOf, ptrsOf, aasOf, cut, takeS, dropS, putS, partsOf, fillS, fieldOf, nthA, negIf, nilq, nilB, eqS, eqF, eqS1, andP, kin, slcS, strOk, plusA, bndHi, leN, optG, roH, roL, initT, exOk, exAll, wrAddr, Nat.reduceAdd, Nat.reduceSub, Nat.reduceMul, Int.reduceToNat, List.append_nil, List.nil_append, List.cons_append, mapR, mapR1, keyL, keyOk, keyP, colsPut, colsDel, zcols, eqT, idxT, cat, cpy, ite_int, ite_bool, ite_seg, ite_segs, ite_nil, ite_twice, Int.toNat_natCast, app, addBs, tob])); (repeat (first | (refine And.intro ?_ ?_; · (first | trivial | assumption | omega | exact ⟨by omega, by omega⟩ | (intros; first | trivial | assumption | omega | decide))) | ((first | (refine call_t _ (con29_at a k ra hlt _ _ _ _ rfl (Nat.le_of_ble_eq_true rfl) (by simp [roL, keysLt])) ?_; rintro v H' ⟨rfl, rfl⟩) | refine call_q _ (con29_at a k ra hlt _ _ _ _ rfl (Nat.le_of_ble_eq_true rfl) (by simp [roL, keysLt])) ?_ | refine call_g _ (imp_of (con29_at a k ra hlt _ _ _ _ rfl (Nat.le_of_ble_eq_true rfl) (by simp [roL, keysLt]))) ?_); simp (maxSteps := 10000000) only [opL, blkL, blkB, opsB, opsW, partsOf, fillS, hd, hsk, hwk, Bool.not_true, C7r0, C7r1, C7r2, C7r3, C7r4, C7r5, C7r6, C7r7, C7r8, C7r9, C7r10, C7r11, C7r12, C7r13, C7r14, C7r15, C7r16, C7r17, C7r18, C7r19, C7r20, C7r21, C7r22, C7r23, C7r24, C7r25, rwp_nil, rwp_cons, rwpK_app, aop, gpath, St.get, slotAt, sfx, eqP, segsOf, St.put, addBlk, getB, setB, delB, ld1, ldn, st1, stn, setRow, rowNeed, segAt, nsub, bin, un, eqB, isShift, sameK, arith, shiftR, getsl, selB_or, selB_and, beqb, shed, addN, Nat.beq, Seg.size, sizes, imp, needP, andN, appL, argsOf, ptrsOf, aasOf, cut, takeS, dropS, putS, partsOf, fillS, fieldOf, nthA, negIf, nilq, nilB, eqS, eqF, eqS1, andP, kin, slcS, strOk, plusA, bndHi, leN, optG, roH, roL, initT, exOk, exAll, wrAddr, Nat.reduceAdd, Nat.reduceSub, Nat.reduceMul, Int.reduceToNat, List.append_nil, List.nil_append, List.cons_append, mapR, mapR1, keyL, keyOk, keyP, colsPut, colsDel, zcols, eqT, idxT, cat, cpy, ite_int, ite_bool, ite_seg, ite_segs, ite_nil, ite_twice, Int.toNat_natCast, app, addBs, tob]))); with_reducible refine hK _ ?_; clear hK K) | (refine run_cond rfl (fun hc => ?_) (fun hc => ?_) <;> try (simp only [*, Bool.true_eq_false, Bool.false_eq_true, Bool.not_true, Bool.not_false, Bool.true_or, Bool.or_true, Bool.false_or, Bool.or_false, Bool.false_and, Bool.and_false, bne_self_eq_false, beq_self_eq_true] at hc; done)) | refine run_block ?_ | refine run_ret ?_ | refine run_nil ?_ | refine run_exit ?_ | refine blk_normal ?_ | refine blk_ret ?_ | refine blk_here ?_ | refine blk_there rfl ?_ | refine loop_exit ?_ | refine loop_ret ?_ | refine un_exit ?_ | refine un_ret ?_ | refine unE_exit ?_ | refine unE_ret ?_ | refine un_normal ?_)
      exact loop_normal (a.n - (k + 1)) (fsSt a b 7 (k + 1)) (by omega) (LeS.intro [0, 1, 2, 3] (fun i h => idtF i h) (by simp only [diff, notIn, Nat.beq, and_self]) rfl (by simp only [fsSt, hwk, slotsLe, slotAt, Nat.beq, leV, leV1, leC, leA, nthO, Int.natCast_zero, Int.ofNat_zero, and_self]) ⟨blk_le' a 2 2 rfl, opsw_le _ _ _ (fun _ _ => rfl), blk_le' b 0 0 rfl, ops_le b.n b.f false, trivial⟩) ⟨k + 1, hlt, rfl, rfl⟩
    have hd : decide ((k : Int) < (a.n : Int)) = false := by rw [decide_eq_false_iff_not]; omega
    unfold fsSt
    repeat' (first | refine run_seq ?_ | refine run_skip ?_ | (refine run_region fun K hK => ?_; (try (simp (maxSteps := 10000000) only [opL, blkL, blkB, opsB, opsW, partsOf, fillS, hd, C7r0, C7r1, C7r2, C7r3, C7r4, C7r5, C7r6, C7r7, C7r8, C7r9, C7r10, C7r11, C7r12, C7r13, C7r14, C7r15, C7r17, C7r18, C7r19, C7r20, C7r21, C7r22, C7r23, C7r24, C7r25, rwp_nil, rwp_cons, rwpK_app, aop, gpath, St.get, slotAt, sfx, eqP, segsOf, St.put, addBlk, getB, setB, delB, ld1, ldn, st1, stn, setRow, rowNeed, segAt, nsub, bin, un, eqB, isShift, sameK, arith, shiftR, getsl, selB_or, selB_and, beqb, shed, addN, Nat.beq, Seg.size, sizes, imp, needP, andN, appL, argsOf, ptrsOf, aasOf, cut, takeS, dropS, putS, partsOf, fillS, fieldOf, nthA, negIf, nilq, nilB, eqS, eqF, eqS1, andP, kin, slcS, strOk, plusA, bndHi, leN, optG, roH, roL, initT, exOk, exAll, wrAddr, Nat.reduceAdd, Nat.reduceSub, Nat.reduceMul, Int.reduceToNat, List.append_nil, List.nil_append, List.cons_append, mapR, mapR1, keyL, keyOk, keyP, colsPut, colsDel, zcols, eqT, idxT, cat, cpy, ite_int, ite_bool, ite_seg, ite_segs, ite_nil, ite_twice, Int.toNat_natCast, app, addBs, tob])); (repeat (first | (refine And.intro ?_ ?_; · (first | trivial | assumption | omega | exact ⟨by omega, by omega⟩ | (intros; first | trivial | assumption | omega | decide))))); with_reducible refine hK _ ?_; clear hK K) | (refine run_cond rfl (fun hc => ?_) (fun hc => ?_) <;> try (simp only [*, Bool.true_eq_false, Bool.false_eq_true, Bool.not_true, Bool.not_false, Bool.true_or, Bool.or_true, Bool.false_or, Bool.or_false, Bool.false_and, Bool.and_false, bne_self_eq_false, beq_self_eq_true] at hc; done)) | refine run_block ?_ | refine run_ret ?_ | refine run_nil ?_ | refine run_exit ?_ | refine blk_normal ?_ | refine blk_ret ?_ | refine blk_here ?_ | refine blk_there rfl ?_ | refine loop_exit ?_ | refine loop_ret ?_ | refine un_exit ?_ | refine un_ret ?_ | refine unE_exit ?_ | refine unE_ret ?_ | refine un_normal ?_)
    have c9 : ((9 : Nat) : Int) = 9 := rfl
    (refine run_regionL fun K hK => ?_; (try (simp (maxSteps := 10000000) only [opL, blkL, blkB, opsB, opsW, C7r0, C7r1, C7r2, C7r3, C7r4, C7r5, C7r6, C7r7, C7r8, C7r9, C7r10, C7r11, C7r12, C7r13, C7r14, C7r15, C7r16, C7r17, C7r18, C7r19, C7r20, C7r21, C7r22, C7r23, C7r24, C7r25, rwp_nil, rwp_cons, rwpK_app, aop, gpath, St.get, slotAt, sfx, eqP, segsOf, St.put, addBlk, getB, setB, delB, ld1, ldn, st1, stn, setRow, rowNeed, segAt, nsub, bin, un, eqB, isShift, sameK, arith, shiftR, getsl, selB_or, selB_and, beqb, shed, addN, Nat.beq, Seg.size, sizes, imp, needP, andN, appL, argsOf, ptrsOf, aasOf, cut, takeS, dropS, putS, partsOf, fillS, fieldOf, nthA, negIf, nilq, nilB, eqS, eqF, eqS1, andP, kin, slcS, strOk, plusA, bndHi, leN, optG, roH, roL, initT, exOk, exAll, wrAddr, Nat.reduceAdd, Nat.reduceSub, Nat.reduceMul, Int.reduceToNat, List.append_nil, List.nil_append, List.cons_append, mapR, mapR1, keyL, keyOk, keyP, colsPut, colsDel, zcols, eqT, idxT, cat, cpy, ite_int, ite_bool, ite_seg, ite_segs, ite_nil, ite_twice, Int.toNat_natCast, app, addBs, tob])); (repeat (first | (refine And.intro ?_ ?_; · first | trivial | assumption | omega))); refine hK _ (fsSt a b 9 9) (LeS.intro [0, 1, 2, 3] (fun i h => idtF i h) (by simp only [diff, notIn, Nat.beq, and_self]) rfl (by simp only [fsSt, c9, slotsLe, slotAt, Nat.beq, leV, leV1, leC, leA, nthO, Int.natCast_zero, Int.ofNat_zero, and_self]) ⟨blk_le' a 2 2 rfl, opsw_le _ _ _ (fun _ _ => rfl), blk_le' b 0 0 rfl, ops_le b.n b.f false, trivial⟩) ?_; clear hK K)
    clear hd hlt hk
    refine run_block ?_
    refine run_loop (fun t st => ∃ k, 9 ≤ k ∧ k ≤ 16 ∧ t = 16 - k ∧ st = fsSt a b 9 k) 7 ⟨9, by omega, by omega, rfl, rfl⟩ ?_
    rintro t st ⟨k, hk0, hk, rfl, rfl⟩
    by_cases hlt : k ≤ 15
    · have hd : decide ((k : Int) ≤ 15) = true := by rw [decide_eq_true_eq]; omega
      have hwk : IntKind.i64.wrap ((k : Int) + 1) = ((k + 1 : Nat) : Int) := by rw [IntKind.wrap_i64]; omega
      have hcn : decide ((cntF a.f (k : Int) a.n : Int) > (cntF b.f (k : Int) b.n : Int)) = false := by
        have := gcnt (k : Int) ⟨by omega, by omega⟩
        rw [decide_eq_false_iff_not]; omega
      unfold fsSt
      repeat' (first | refine run_seq ?_ | refine run_skip ?_ | (refine run_region fun K hK => ?_; (try (simp (maxSteps := 10000000) only [opL, blkL, blkB, opsB, opsW, partsOf, fillS, hd, hcn, hwk, Bool.not_true, C7r0, C7r1, C7r2, C7r3, C7r4, C7r5, C7r6, C7r7, C7r8, C7r9, C7r10, C7r11, C7r12, C7r13, C7r14, C7r15, C7r16, C7r17, C7r18, C7r19, C7r20, C7r21, C7r22, C7r23, C7r24, C7r25, rwp_nil, rwp_cons, rwpK_app, aop, gpath, St.get, slotAt, sfx, eqP, segsOf, St.put, addBlk, getB, setB, delB, ld1, ldn, st1, stn, setRow, rowNeed, segAt, nsub, bin, un, eqB, isShift, sameK, arith, shiftR, getsl, selB_or, selB_and, beqb, shed, addN, Nat.beq, Seg.size, sizes, imp, needP, andN, appL, argsOf, ptrsOf, aasOf, cut, takeS, dropS, putS, partsOf, fillS, fieldOf, nthA, negIf, nilq, nilB, eqS, eqF, eqS1, andP, kin, slcS, strOk, plusA, bndHi, leN, optG, roH, roL, initT, exOk, exAll, wrAddr, Nat.reduceAdd, Nat.reduceSub, Nat.reduceMul, Int.reduceToNat, List.append_nil, List.nil_append, List.cons_append, mapR, mapR1, keyL, keyOk, keyP, colsPut, colsDel, zcols, eqT, idxT, cat, cpy, ite_int, ite_bool, ite_seg, ite_segs, ite_nil, ite_twice, Int.toNat_natCast, app, addBs, tob])); (repeat (first | (refine And.intro ?_ ?_; · (first | trivial | assumption | omega | exact ⟨by omega, by omega⟩ | (intros; first | trivial | assumption | omega | decide))) | ((first | (refine call_t _ (con30_at a k (by omega) _ _ _ _ rfl (Nat.le_of_ble_eq_true rfl) (by simp [roL, keysLt])) ?_; rintro v H' ⟨rfl, rfl⟩) | refine call_q _ (con30_at a k (by omega) _ _ _ _ rfl (Nat.le_of_ble_eq_true rfl) (by simp [roL, keysLt])) ?_ | refine call_g _ (imp_of (con30_at a k (by omega) _ _ _ _ rfl (Nat.le_of_ble_eq_true rfl) (by simp [roL, keysLt]))) ?_ | (refine call_t _ (con30_at b k (by omega) _ _ _ _ rfl (Nat.le_of_ble_eq_true rfl) (by simp [roL, keysLt])) ?_; rintro v H' ⟨rfl, rfl⟩) | refine call_q _ (con30_at b k (by omega) _ _ _ _ rfl (Nat.le_of_ble_eq_true rfl) (by simp [roL, keysLt])) ?_ | refine call_g _ (imp_of (con30_at b k (by omega) _ _ _ _ rfl (Nat.le_of_ble_eq_true rfl) (by simp [roL, keysLt]))) ?_); simp (maxSteps := 10000000) only [opL, blkL, blkB, opsB, opsW, partsOf, fillS, hd, hcn, hwk, Bool.not_true, C7r0, C7r1, C7r2, C7r3, C7r4, C7r5, C7r6, C7r7, C7r8, C7r9, C7r10, C7r11, C7r12, C7r13, C7r14, C7r15, C7r16, C7r17, C7r18, C7r19, C7r20, C7r21, C7r22, C7r23, C7r24, C7r25, rwp_nil, rwp_cons, rwpK_app, aop, gpath, St.get, slotAt, sfx, eqP, segsOf, St.put, addBlk, getB, setB, delB, ld1, ldn, st1, stn, setRow, rowNeed, segAt, nsub, bin, un, eqB, isShift, sameK, arith, shiftR, getsl, selB_or, selB_and, beqb, shed, addN, Nat.beq, Seg.size, sizes, imp, needP, andN, appL, argsOf, ptrsOf, aasOf, cut, takeS, dropS, putS, partsOf, fillS, fieldOf, nthA, negIf, nilq, nilB, eqS, eqF, eqS1, andP, kin, slcS, strOk, plusA, bndHi, leN, optG, roH, roL, initT, exOk, exAll, wrAddr, Nat.reduceAdd, Nat.reduceSub, Nat.reduceMul, Int.reduceToNat, List.append_nil, List.nil_append, List.cons_append, mapR, mapR1, keyL, keyOk, keyP, colsPut, colsDel, zcols, eqT, idxT, cat, cpy, ite_int, ite_bool, ite_seg, ite_segs, ite_nil, ite_twice, Int.toNat_natCast, app, addBs, tob]))); with_reducible refine hK _ ?_; clear hK K) | (refine run_cond rfl (fun hc => ?_) (fun hc => ?_) <;> try (simp only [*, Bool.true_eq_false, Bool.false_eq_true, Bool.not_true, Bool.not_false, Bool.true_or, Bool.or_true, Bool.false_or, Bool.or_false, Bool.false_and, Bool.and_false, bne_self_eq_false, beq_self_eq_true] at hc; done)) | refine run_block ?_ | refine run_ret ?_ | refine run_nil ?_ | refine run_exit ?_ | refine blk_normal ?_ | refine blk_ret ?_ | refine blk_here ?_ | refine blk_there rfl ?_ | refine loop_exit ?_ | refine loop_ret ?_ | refine un_exit ?_ | refine un_ret ?_ | refine unE_exit ?_ | refine unE_ret ?_ | refine un_normal ?_)
      exact loop_normal (16 - (k + 1)) (fsSt a b 9 (k + 1)) (by omega) (LeS.intro [0, 1, 2, 3] (fun i h => idtF i h) (by simp only [diff, notIn, Nat.beq, and_self]) rfl (by simp only [fsSt, hwk, slotsLe, slotAt, Nat.beq, leV, leV1, leC, leA, nthO, Int.natCast_zero, Int.ofNat_zero, and_self]) ⟨blk_le' a 2 2 rfl, opsw_le _ _ _ (fun _ _ => rfl), blk_le' b 0 0 rfl, ops_le b.n b.f false, trivial⟩) ⟨k + 1, by omega, by omega, rfl, rfl⟩
    have hd : decide ((k : Int) ≤ 15) = false := by rw [decide_eq_false_iff_not]; omega
    have hretA : ∀ n, retFold a n = .tup [.agg (blkL a n), .c (.int .i64 0)] := fun n => by simp [retFold, ra, ffa]
    have hnewA : newFold a = [opsW a.n a.f] := by simp [newFold, ra, ffa]
    have hretS : ∀ n, retStep a n = .tup [.agg (blkL a n), .c (.bool false), .c (.int .i64 0)] := fun n => by simp [retStep, ra, fa, ca]
    have hnewS : newStep a = [opsW a.n a.f] := by
      have e : newStep a = [opsW (foldB a).n (foldB a).f] := by unfold newStep; rw [if_pos ra]; rfl
      rw [e, fa]
    unfold fsSt
    repeat' (first | refine run_seq ?_ | refine run_skip ?_ | (refine run_region fun K hK => ?_; (try (simp (maxSteps := 10000000) only [opL, blkL, blkB, opsB, opsW, partsOf, fillS, hd, hretA, hnewA, hretS, hnewS, C7r0, C7r1, C7r2, C7r3, C7r4, C7r5, C7r6, C7r7, C7r8, C7r9, C7r10, C7r11, C7r12, C7r13, C7r14, C7r15, C7r16, C7r17, C7r18, C7r19, C7r20, C7r21, C7r22, C7r23, C7r24, C7r25, rwp_nil, rwp_cons, rwpK_app, aop, gpath, St.get, slotAt, sfx, eqP, segsOf, St.put, addBlk, getB, setB, delB, ld1, ldn, st1, stn, setRow, rowNeed, segAt, nsub, bin, un, eqB, isShift, sameK, arith, shiftR, getsl, selB_or, selB_and, beqb, shed, addN, Nat.beq, Seg.size, sizes, imp, needP, andN, appL, argsOf, ptrsOf, aasOf, cut, takeS, dropS, putS, partsOf, fillS, fieldOf, nthA, negIf, nilq, nilB, eqS, eqF, eqS1, andP, kin, slcS, strOk, plusA, bndHi, leN, optG, roH, roL, initT, exOk, exAll, wrAddr, Nat.reduceAdd, Nat.reduceSub, Nat.reduceMul, Int.reduceToNat, List.append_nil, List.nil_append, List.cons_append, mapR, mapR1, keyL, keyOk, keyP, colsPut, colsDel, zcols, eqT, idxT, cat, cpy, ite_int, ite_bool, ite_seg, ite_segs, ite_nil, ite_twice, Int.toNat_natCast, app, addBs, tob])); (repeat (first | (refine And.intro ?_ ?_; · (first | trivial | assumption | omega | exact ⟨by omega, by omega⟩ | (intros; first | trivial | assumption | omega | decide))) | ((first | (refine call_t _ (con25_at a _ _ _ _ rfl (Nat.le_of_ble_eq_true rfl) (by simp [roL, keysLt])) ?_; rintro v H' ⟨rfl, rfl⟩) | refine call_q _ (con25_at a _ _ _ _ rfl (Nat.le_of_ble_eq_true rfl) (by simp [roL, keysLt])) ?_ | refine call_g _ (imp_of (con25_at a _ _ _ _ rfl (Nat.le_of_ble_eq_true rfl) (by simp [roL, keysLt]))) ?_ | (refine call_t _ (con26_at a _ _ _ _ rfl (Nat.le_of_ble_eq_true rfl) (by simp [roL, keysLt])) ?_; rintro v H' ⟨rfl, rfl⟩) | refine call_q _ (con26_at a _ _ _ _ rfl (Nat.le_of_ble_eq_true rfl) (by simp [roL, keysLt])) ?_ | refine call_g _ (imp_of (con26_at a _ _ _ _ rfl (Nat.le_of_ble_eq_true rfl) (by simp [roL, keysLt]))) ?_ | (refine call_t _ (con14_at a a.f (fun _ _ => rfl) (by omega) _ _ _ _ _ _ rfl rfl rfl (Nat.le_of_ble_eq_true rfl) (Nat.le_of_ble_eq_true rfl) (by simp [keysLt])) ?_; rintro v H' ⟨rfl, rfl⟩) | refine call_q _ (con14_at a a.f (fun _ _ => rfl) (by omega) _ _ _ _ _ _ rfl rfl rfl (Nat.le_of_ble_eq_true rfl) (Nat.le_of_ble_eq_true rfl) (by simp [keysLt])) ?_ | refine call_g _ (imp_of (con14_at a a.f (fun _ _ => rfl) (by omega) _ _ _ _ _ _ rfl rfl rfl (Nat.le_of_ble_eq_true rfl) (Nat.le_of_ble_eq_true rfl) (by simp [keysLt]))) ?_); simp (maxSteps := 10000000) only [opL, blkL, blkB, opsB, opsW, partsOf, fillS, hd, hretA, hnewA, hretS, hnewS, C7r0, C7r1, C7r2, C7r3, C7r4, C7r5, C7r6, C7r7, C7r8, C7r9, C7r10, C7r11, C7r12, C7r13, C7r14, C7r15, C7r16, C7r17, C7r18, C7r19, C7r20, C7r21, C7r22, C7r23, C7r24, C7r25, rwp_nil, rwp_cons, rwpK_app, aop, gpath, St.get, slotAt, sfx, eqP, segsOf, St.put, addBlk, getB, setB, delB, ld1, ldn, st1, stn, setRow, rowNeed, segAt, nsub, bin, un, eqB, isShift, sameK, arith, shiftR, getsl, selB_or, selB_and, beqb, shed, addN, Nat.beq, Seg.size, sizes, imp, needP, andN, appL, argsOf, ptrsOf, aasOf, cut, takeS, dropS, putS, partsOf, fillS, fieldOf, nthA, negIf, nilq, nilB, eqS, eqF, eqS1, andP, kin, slcS, strOk, plusA, bndHi, leN, optG, roH, roL, initT, exOk, exAll, wrAddr, Nat.reduceAdd, Nat.reduceSub, Nat.reduceMul, Int.reduceToNat, List.append_nil, List.nil_append, List.cons_append, mapR, mapR1, keyL, keyOk, keyP, colsPut, colsDel, zcols, eqT, idxT, cat, cpy, ite_int, ite_bool, ite_seg, ite_segs, ite_nil, ite_twice, Int.toNat_natCast, app, addBs, tob]))); with_reducible refine hK _ ?_; clear hK K) | (refine run_cond rfl (fun hc => ?_) (fun hc => ?_) <;> try (simp only [*, Bool.true_eq_false, Bool.false_eq_true, Bool.not_true, Bool.not_false, Bool.true_or, Bool.or_true, Bool.false_or, Bool.or_false, Bool.false_and, Bool.and_false, bne_self_eq_false, beq_self_eq_true] at hc; done)) | refine run_block ?_ | refine run_ret ?_ | refine run_nil ?_ | refine run_exit ?_ | refine blk_normal ?_ | refine blk_ret ?_ | refine blk_here ?_ | refine blk_there rfl ?_ | refine loop_exit ?_ | refine loop_ret ?_ | refine un_exit ?_ | refine un_ret ?_ | refine unE_exit ?_ | refine unE_ret ?_ | refine un_normal ?_)
    exact end_ops true rfl rfl ⟨rfl, rfl⟩
end Go.Proofs.Ytmbnakinhnkabaa

namespace Go.Proofs.Ytmbnakinhnkabaa
open Go.AM Go.ChangeShapes Go.WideShapes Go.ChangeAt Go.RowKit
set_option maxRecDepth 100000
set_option linter.unusedSimpArgs false
set_option linter.unusedVariables false
theorem foldSimple_lifted (os : Os) (started : os.Started) (H : Type) (enc : TypeId × Value → H) :
    ReturnsInHanded {} Try.checked os 7 .any (Rows.foldSimpleSpec.pre6 enc Try.prog Try.f7 Rows.foldSimpleRow.domain false) (Rows.foldSimpleSpec.post enc Try.prog Try.f7 false true false false) := by
  refine returnsInHanded_of_change (C := Try.checked) own19 started (by kernel_rfl) Try.func7
    (ChangeSpec.witness6 (enc := enc) (C := Try.checked) false ⟨#[], #[.agg (zeros kBlk).toArray], []⟩ 8 (by kernel_rfl) (by kernel_rfl) (by kernel_rfl) (by kernel_rfl)) ?_
  intro W base args ds gs before hval0 hW hcnd _
  have hval : ∀ (j : Nat) t v, Try.f7.params[j]? = some t → args[j]? = some v → Value.okWide Try.prog W .any base t v := hval0
  have hW' := hW
  obtain ⟨p, q, hA0, hV, rfl, hfz, hnd⟩ := hW
  have hA : DataW.TrodAll enc Try.prog W 0 (fun _ => true) true Try.f7.params.toList args.toList ds p := hA0
  rw [Try.params7] at hA hval
  obtain ⟨v0, d0, rfl, rfl, h0⟩ := trodAll_one hA
  obtain ⟨rfl, rfl⟩ := trodVars_none hV
  obtain ⟨b, q, hwf, hrel, hbr, hlt0⟩ := blk_arg (hval 0 25 v0 rfl rfl) h0
  refine ((con7 b hwf).2 (fun i => if i = 0 then q else none) W #[v0] (.cons (hrel _ rfl) .nil) (one_heap hbr hlt0)).mono fun e W' ⟨φ', v, x, H', he, ⟨hv, hH'⟩, hx, _, hfr⟩ => ?_
  subst he; subst hv
  cases hx
  have hb : Below W.heap.size W W' := hfr.below (fun i B hB => by
    match i, hB with
    | 0, hB => cases hB; rfl
    | i + 1, hB => cases hB)
  have hlt : ∀ x ∈ p, x.block < W.heap.size := fun x hx => hW'.lt x (by simpa using hx)
  refine ⟨_, rfl, post_of_old (pa := p) (pv := []) hW' (fun _ _ _ => trodAll_mk1 (shut_bool Try.underlying4 true)) (fun sp hsp => ?_) (fun _ _ => rfl) (by simp) hb (ok_one (by kernel_rfl) rfl (okWide_bool_mk Try.underlying4 true))⟩
  show DataW.TrodAll enc Try.prog W' 0 sp true Try.f7.params.toList [v0] [d0] p
  rw [Try.params7]
  exact trodAll_mk1 (WideElems.Trod_stays laidOut19 (by kernel_rfl) (of_decide_eq_true (by kernel_rfl)) h0 (fun x hx => hb.same (hlt x hx)) (fun x hx => hsp x (by simpa using hx)))
theorem foldSimple_holds : Rows.FoldSimpleSaid :=
  OpenClaim.holds_of_wide 7 Try.f7 rfl rfl rfl rfl rfl rfl rfl ⟨rfl, rfl, rfl, rfl, rfl⟩ rfl rfl rfl rfl rfl (by kernel_rfl) Try.func7 (by kernel_rfl)
    (of_decide_eq_true (by kernel_rfl)) (by unfold Func.isWrapper; first | (rw [if_pos (by decide +kernel)]; kernel_rfl) | (rw [if_neg (by decide +kernel)]; exact ⟨rfl, rfl⟩))
    (fun os started H enc _ => foldSimple_lifted os started H enc)
#print axioms foldSimple_holds
end Go.Proofs.Ytmbnakinhnkabaa

