/- AM: append. -/
import Derived.Test.YtmbnakinhnkabaaAm8
import Derived.Laws.AppendOwn
import Derived.Maps.AppendAt
import Derived.Lib.ConvBytes
namespace Go.AM
set_option linter.unusedVariables false
set_option linter.unusedSimpArgs false
variable {P : Program} {φ : Emb} {w : World}

theorem getB_delB_self (l : List (Nat × Blk)) (i : Nat) : getB (delB l i) i = none := by
  induction l with
  | nil => rfl
  | cons p r ih =>
    obtain ⟨j, D⟩ := p
    simp only [delB]
    cases hb : Nat.beq j i with
    | true => exact ih
    | false => simp only [getB, hb]; exact ih
theorem getB_delB_ne {l : List (Nat × Blk)} {i j : Nat} (h : j ≠ i) : getB (delB l i) j = getB l j := by
  induction l with
  | nil => rfl
  | cons p r ih =>
    obtain ⟨k, D⟩ := p
    simp only [delB]
    cases hb : Nat.beq k i with
    | true =>
      have := Nat.eq_of_beq_eq_true hb
      subst this
      have : Nat.beq k j = false := by
        cases hk : Nat.beq k j with
        | false => rfl
        | true => exact absurd (Nat.eq_of_beq_eq_true hk).symm h
      simp only [getB, this]
      exact ih
    | false => simp only [getB, ih]
theorem getB_cons_self (l : List (Nat × Blk)) (i : Nat) (B : Blk) : getB ((i, B) :: l) i = some B := by simp [getB, Nat.beq_refl]
theorem getB_cons_ne {l : List (Nat × Blk)} {i j : Nat} {B : Blk} (h : j ≠ i) : getB ((i, B) :: l) j = getB l j := by
  have : Nat.beq i j = false := by
    cases hk : Nat.beq i j with
    | false => rfl
    | true => exact absurd (Nat.eq_of_beq_eq_true hk).symm h
  simp [getB, this]

/-- The cells of some rows of a block, in memory. -/
theorem rows_cells {B : Blk} {p : Place} (hb : BRel φ B p w) (i m : Nat) (him : i + m ≤ B.n) :
    ∃ news : List Value, news.length = m * B.str ∧ (∀ j u, news[j]? = some u → w.cell? ⟨p.blk, p.base + p.str * i + j, none⟩ = some u) ∧
      (∀ j, j < m → F2 (rel φ) (flat (B.row (i + j))) ((news.drop (j * B.str)).take B.str)) := by
  induction m with
  | zero => exact ⟨[], by simp, by simp, fun j hj => by omega⟩
  | succ m ih =>
    obtain ⟨news, h1, h2, h3⟩ := ih (by omega)
    obtain ⟨xs, g1, g2, g3⟩ := hb.rows (i + m) (by omega)
    have hs := hb.str
    refine ⟨news ++ xs, by simp [h1, g2, Nat.succ_mul], fun j u hu => ?_, fun j hj => ?_⟩
    · by_cases hj : j < news.length
      · rw [List.getElem?_append_left hj] at hu
        exact h2 j u hu
      · rw [List.getElem?_append_right (by omega)] at hu
        have := g3 _ _ hu
        have e : p.base + p.str * (i + m) + (j - news.length) = p.base + p.str * i + j := by
          rw [Nat.mul_add, hs, h1, Nat.mul_comm B.str m]
          rw [h1] at hj
          omega
        rw [e] at this
        exact this
    · by_cases hjm : j = m
      · subst hjm
        rw [← h1, List.drop_left, List.take_of_length_le (by omega)]
        exact g1
      · have hlt : j < m := by omega
        have hle : j * B.str + B.str ≤ news.length := by rw [h1, ← Nat.succ_mul]; exact Nat.mul_le_mul_right _ hlt
        rw [List.drop_append_of_le_length (by omega), List.take_append_of_le_length (by simp; omega)]
        exact h3 j hlt

theorem F2_oneAll {B : Blk} {news : List Value} {i m : Nat} (hl : news.length = m * B.str) (h : ∀ j, j < m → F2 (rel φ) (flat (B.row (i + j))) ((news.drop (j * B.str)).take B.str)) : ∀ u ∈ news, u.oneCell' = true := by
  intro u hu
  obtain ⟨k, hk, rfl⟩ := List.mem_iff_getElem.1 hu
  have hs0 : 0 < B.str := by
    rcases Nat.eq_zero_or_pos B.str with h0 | h0
    · rw [h0, Nat.mul_zero] at hl; omega
    · exact h0
  have hj : k / B.str < m := (Nat.div_lt_iff_lt_mul hs0).2 (by omega)
  refine F2_oneCell (h _ hj) _ ?_
  refine List.mem_iff_getElem?.2 ⟨k % B.str, ?_⟩
  rw [List.getElem?_take_of_lt (Nat.mod_lt _ hs0), List.getElem?_drop]
  have : k / B.str * B.str + k % B.str = k := by rw [Nat.mul_comm]; exact Nat.div_add_mod k B.str
  rw [this, List.getElem?_eq_getElem hk]

/-- A row of our own in memory is a block of rows. -/
theorem brel_owned {str n cap g : Nat} {cur : Array Value} {L : List Value} {e : TypeId} {row : Nat → List Seg} (hg : w.heap[g]? = some (.cells cur e (0, 0))) (hn : n ≤ cap) (hc : cap ≤ 9223372036854775807) (hsz : cur.size = cap * str)
    (hL : cur.toList.take (n * str) = L) (hrows : ∀ j, j < n → F2 (rel φ) (flat (row j)) ((L.drop (j * str)).take str)) :
    BRel φ ⟨str, some n, row, e, true⟩ ⟨g, 0, str, cap⟩ w where
  str := rfl
  rows := fun i hi => by
    have hi' : i < n := by simpa [Blk.n] using hi
    refine ⟨_, hrows i hi', ?_, fun j x hx => ?_⟩
    · have h1 : i * str + str ≤ n * str := by rw [← Nat.succ_mul]; exact Nat.mul_le_mul_right _ hi'
      have h2 : n * str ≤ cap * str := Nat.mul_le_mul_right _ hn
      subst hL
      simp only [List.length_take, List.length_drop, Array.length_toList, hsz]
      rw [Nat.min_eq_left (a := n * str) (by omega)]
      omega
    · rw [List.getElem?_take] at hx
      split at hx
      · rw [List.getElem?_drop, ← hL, List.getElem?_take] at hx
        split at hx
        · unfold World.cell?
          simp only [hg]
          simpa [Nat.mul_comm] using hx
        · simp at hx
      · simp at hx
  own := fun _ => ⟨rfl, by simpa [Blk.n] using hn, hc, cur, hg, by simp [hsz, Nat.mul_comm]⟩

/-- A new id for a row of our own, which takes the place of another one (or of none). -/
theorem HRel.renew {H : Heap} (h : HRel φ H w) {blks : List (Nat × Blk)} (hsub : ∀ j D, getB blks j = some D → getB H.blks j = some D) {B : Blk} {w' : World} (ho : w'.os = w.os) (ht : w'.tape = w.tape) (hu : w'.output = w.output) (hsz : w.heap.size ≤ w'.heap.size)
    {p : Place} (hnew : BRel (φ.ins H.next p) B p w') (hp : p.blk < w'.heap.size)
    {og : Option Nat} (hog : ∀ g, og = some g → ∃ j C q, getB H.blks j = some C ∧ C.wr = true ∧ φ j = some q ∧ q.blk = g ∧ getB blks j = none)
    (hown' : w.heap.size ≤ p.blk ∨ og = some p.blk)
    (hother' : ∀ b, b < w.heap.size → some b ≠ og → w'.heap[b]? = w.heap[b]?) :
    HRel (φ.ins H.next p) ⟨H.next + 1, (H.next, B) :: blks⟩ w' ∧ Fr φ H w (φ.ins H.next p) ⟨H.next + 1, (H.next, B) :: blks⟩ w' := by
  have hf : φ H.next = none := h.fresh _ (Nat.le_refl _)
  have hle := Emb.le_ins (p := p) hf
  have hold : ∀ j q, (φ.ins H.next p) j = some q → j ≠ H.next → φ j = some q := fun j q hq hj => by simpa [Emb.ins, hj] using hq
  have hnx : ∀ q, (φ.ins H.next p) H.next = some q → q = p := fun q hq => by rw [Emb.ins_self] at hq; cases hq; rfl
  have hown : w.heap.size ≤ p.blk ∨ ∃ j C q, getB H.blks j = some C ∧ C.wr = true ∧ φ j = some q ∧ q.blk = p.blk ∧ getB blks j = none := hown'.imp id fun e => hog _ e
  have hapart2 : ∀ j D q, getB blks j = some D → φ j = some q → some q.blk ≠ og := by
    intro j D q hj hq e
    obtain ⟨i, C, r, h1, h2, h3, h4, h5⟩ := hog _ e.symm
    have hij : i ≠ j := fun e => by subst e; rw [h5] at hj; cases hj
    exact h.inj i j C D r q h1 (hsub j D hj) h3 hq hij h2 h4
  have hapart : ∀ j D q, getB blks j = some D → φ j = some q → q.blk ≠ p.blk := by
    intro j D q hj hq e
    rcases hown with hw | ⟨i, C, r, h1, h2, h3, h4, h5⟩
    · have := h.lt j q hq; omega
    · have hij : i ≠ j := fun e => by subst e; rw [h5] at hj; cases hj
      exact h.inj i j C D r q h1 (hsub j D hj) h3 hq hij h2 (h4.trans e.symm)
  have hget : ∀ j D, getB ((H.next, B) :: blks) j = some D → j ≠ H.next → getB blks j = some D := fun j D hj hne => by rwa [getB_cons_ne hne] at hj
  have hself : ∀ D, getB ((H.next, B) :: blks) H.next = some D → D = B := fun D hD => by rw [getB_cons_self] at hD; cases hD; rfl
  have hcell : ∀ a : Addr, a.block < w.heap.size → some a.block ≠ og → w'.cell? a = w.cell? a := fun a h1 h2 => by unfold World.cell?; rw [hother' _ h1 h2]
  refine ⟨⟨fun j D q hj hq => ?_, fun j k D E q r hj hk hq hr hne hDw => ?_, fun j hj => ?_, fun j q hq => ?_⟩, ?_⟩
  · by_cases e : j = H.next
    · subst e
      rw [hself D hj, hnx q hq]
      exact hnew
    · have hj' := hget j D hj e
      have hq' := hold j q hq e
      have hb := h.blk j D q (hsub j D hj') hq'
      have hne := hapart2 j D q hj' hq'
      have hlt := h.lt j q hq'
      refine ⟨hb.str, fun i' hi' => ?_, fun hw' => ?_⟩
      · obtain ⟨xs, h1, h2, h3⟩ := hb.rows i' hi'
        exact ⟨xs, h1.mono fun _ _ => rel_mono hle, h2, fun j' x hx => by rw [hcell _ hlt hne]; exact h3 _ _ hx⟩
      · obtain ⟨e1, e2, e5, cs, e3, e4⟩ := hb.own hw'
        exact ⟨e1, e2, e5, cs, by rw [hother' _ hlt hne]; exact e3, e4⟩
  · by_cases e : j = H.next
    · subst e
      rw [hnx q hq]
      have hk' := hget k E hk (Ne.symm hne)
      exact (hapart k E r hk' (hold k r hr (Ne.symm hne))).symm
    · have hj' := hget j D hj e
      have hq' := hold j q hq e
      by_cases e2 : k = H.next
      · subst e2
        rw [hnx r hr]
        exact hapart j D q hj' hq'
      · exact h.inj j k D E q r (hsub j D hj') (hsub k E (hget k E hk e2)) hq' (hold k r hr e2) hne hDw
  · have : j ≠ H.next := by intro e; subst e; simp at hj; omega
    simp only [Emb.ins, if_neg this]
    exact h.fresh j (by simp at hj; omega)
  · by_cases e : j = H.next
    · subst e; rw [hnx q hq]; exact hp
    · exact Nat.lt_of_lt_of_le (h.lt j q (hold j q hq e)) hsz
  · refine ⟨hle, fun i hi => by simp [Emb.ins, Nat.ne_of_lt hi], Nat.le_succ _, hsz, ho, ht, hu, fun b hb hno => hother' b hb fun e => ?_, fun j D q hj hDw hq => ?_⟩
    · obtain ⟨i, C, r, h1, h2, h3, h4, _⟩ := hog b e.symm
      exact hno i C r h1 h2 h3 h4
    · by_cases e : j = H.next
      · subst e
        rw [hnx q hq]
        rcases hown with hw | ⟨i, C, r, h1, h2, h3, h4, _⟩
        · exact .inl hw
        · exact .inr ⟨i, C, r, h1, h2, h3, h4⟩
      · exact .inr ⟨j, D, q, hsub j D (hget j D hj e), hDw, hold j q hq e, rfl⟩

/-- Nothing but new blocks: what was said still holds; a block may be named that is not there. -/
theorem HRel.grown {H : Heap} (h : HRel φ H w) {w' : World} (ho : w'.os = w.os) (ht : w'.tape = w.tape) (hu : w'.output = w.output) (hsz : w.heap.size ≤ w'.heap.size)
    (hold : ∀ b, b < w.heap.size → w'.heap[b]? = w.heap[b]?) {K : Heap} (hn : H.next ≤ K.next) (hK : ∀ j D, getB K.blks j = some D → φ j ≠ none → getB H.blks j = some D) : HRel φ K w' ∧ Fr φ H w φ K w' := by
  have hcell : ∀ a : Addr, a.block < w.heap.size → w'.cell? a = w.cell? a := fun a h1 => by unfold World.cell?; rw [hold _ h1]
  have hget : ∀ j D q, getB K.blks j = some D → φ j = some q → getB H.blks j = some D := fun j D q hj hq => hK j D hj (by rw [hq]; simp)
  refine ⟨⟨fun j D q hj hq => ?_, fun j k D E q r hj hk hq hr hne hDw => h.inj j k D E q r (hget _ _ _ hj hq) (hget _ _ _ hk hr) hq hr hne hDw, fun j hj => h.fresh j (Nat.le_trans hn hj), fun j q hq => Nat.lt_of_lt_of_le (h.lt j q hq) hsz⟩, ?_⟩
  · have hb := h.blk j D q (hget _ _ _ hj hq) hq
    have hlt := h.lt j q hq
    refine ⟨hb.str, fun i' hi' => ?_, fun hw' => ?_⟩
    · obtain ⟨xs, h1, h2, h3⟩ := hb.rows i' hi'
      exact ⟨xs, h1, h2, fun j' x hx => by rw [hcell _ hlt]; exact h3 _ _ hx⟩
    · obtain ⟨e1, e2, e5, cs, e3, e4⟩ := hb.own hw'
      exact ⟨e1, e2, e5, cs, by rw [hold _ hlt]; exact e3, e4⟩
  · exact ⟨φ.le_refl, fun _ _ => rfl, hn, hsz, ho, ht, hu, fun b hb _ => hold b hb, fun j D q hj hDw hq => .inr ⟨j, D, q, hget _ _ _ hj hq, hDw, hq, rfl⟩⟩

/-- As 'Trn', of a value. -/
def TrnV (P : Program) (φ : Emb) (H : Heap) (m : Sem Value) (w : World) (v : AV) (H' : Heap) : Prop :=
  ∃ φ' x w', m.run P w = .ok x w' ∧ relA φ' v x ∧ HRel φ' H' w' ∧ Fr φ H w φ' H' w'

/-- The real slice 'xv' of 'n' elements, the rows 'xs' of which are ours; what comes behind them is 'news'. -/
theorem append_core {H : Heap} (h : HRel φ H w) {t ty e : TypeId} {i : TypeInfo} {z : Value} {str bytes : Nat} (ht : P.underlying t = some (.slice e)) (hi : P.info? e = some i) (hz : i.zero = some z)
    (hsize : i.size = str) (hby : i.bytes = bytes) (hzs : z.cells.size = str) (hs0 : 0 < str) (hb0 : 0 < bytes)
    {xv : Value} {n : Nat} {xs : List Value} (hown : w.ownsRow 0 e str xv n xs) {a : Addr} {m c : Nat} {news : List Value} (hl : news.length = m * str) (hnews : ∀ j u, news[j]? = some u → w.cell? (a.add j) = some u) (h1 : ∀ u ∈ news, u.oneCell' = true)
    (hbytes : (n + m) * bytes ≤ 140737488355328) {blks : List (Nat × Blk)} (hsub : ∀ j D, getB blks j = some D → getB H.blks j = some D)
    (hold : ∀ g, xv.ownBlock = some g → ∃ j C q, getB H.blks j = some C ∧ C.wr = true ∧ φ j = some q ∧ q.blk = g ∧ getB blks j = none)
    {row : Nat → List Seg} (hrows : ∀ j, j < n + m → F2 (rel φ) (flat (row j)) (((xs ++ news).drop (j * str)).take str)) :
    TrnV P φ H (Builtin.append_ #[t, t] ty #[xv, .slice (some a) m c]) w (.c (.slice ⟨H.next, 0, 0, 0⟩ false (n + m))) ⟨H.next + 1, (H.next, ⟨str, some (n + m), row, e, true⟩) :: blks⟩ := by
  have hnm : n + m ≤ 140737488355328 := by
    have : (n + m) * 1 ≤ (n + m) * bytes := Nat.mul_le_mul_left _ hb0
    omega
  obtain ⟨v', w', hrun, hown', hg, hnil, hat⟩ := run_append_own_at (P := P) w 0 t ty e i z str bytes ht hi hz hsize hby hzs hs0 xv n xs hown a m c news hl hnews h1 (by simp [maxLen]; omega) hbytes (Nat.zero_le _)
  have hf : φ H.next = none := h.fresh _ (Nat.le_refl _)
  rcases hown'.2 with ⟨rfl, h0⟩ | ⟨g, cap, cur, rfl, _, hgg, hnc, hcm, hcs, htake⟩
  · -- nothing came, and nothing was there: nil
    have hx : xv = .slice none 0 0 := (hnil.1 rfl).1
    subst hx
    have hnb : ∀ b, b < w.heap.size → w'.heap[b]? = w.heap[b]? := fun b hb => hg.block b hb (by simp [Value.ownBlock])
    refine ⟨φ, _, w', hrun, ⟨none, 0, by rw [h0], by omega, .inl ⟨by omega, rfl, .inl rfl⟩⟩, ?_⟩
    exact h.grown hg.os hg.tape hg.output hg.size hnb (by simp) fun j D hj hn => by
      have : j ≠ H.next := fun e => hn (by rw [e]; exact hf)
      exact hsub j D (by rwa [getB_cons_ne this] at hj)
  · have hgl : g < w'.heap.size := (Array.getElem?_eq_some_iff.1 hgg).1
    refine ⟨φ.ins H.next ⟨g, 0, str, cap⟩, _, w', hrun, ⟨_, cap, rfl, hnc, .inr ⟨_, φ.ins_self _ _, by simp [Place.at], fun _ => ⟨rfl, rfl, by simp⟩⟩⟩, ?_⟩
    refine h.renew hsub hg.os hg.tape hg.output hg.size (brel_owned hgg hnc (by simpa [maxLen] using hcm) hcs htake fun j hj => (hrows j hj).mono fun _ _ => rel_mono (Emb.le_ins hf)) hgl (og := xv.ownBlock) hold ?_ fun b hb hne => hg.block b hb hne
    rcases hat with hat | hat
    · exact .inr (by rw [← hat]; rfl)
    · exact .inl (by simp [Value.ownBlock] at hat; simp [hat])

theorem add_mk (g o j : Nat) : (⟨g, o, none⟩ : Addr).add j = ⟨g, o + j, none⟩ := by unfold Addr.add; split <;> simp_all

theorem drop_take_left {α : Type} {xs news : List α} {n str j : Nat} (hl : xs.length = n * str) (hj : j < n) : ((xs ++ news).drop (j * str)).take str = (xs.drop (j * str)).take str := by
  have : j * str + str ≤ xs.length := by rw [hl, ← Nat.succ_mul]; exact Nat.mul_le_mul_right _ hj
  rw [List.drop_append_of_le_length (by omega), List.take_append_of_le_length (by simp; omega)]
theorem drop_take_right {α : Type} {xs news : List α} {n str j : Nat} (hl : xs.length = n * str) (hj : n ≤ j) : ((xs ++ news).drop (j * str)).take str = (news.drop ((j - n) * str)).take str := by
  have : n * str ≤ j * str := Nat.mul_le_mul_right _ hj
  rw [List.drop_append, List.drop_of_length_le (by omega), List.nil_append, hl, Nat.sub_mul]

theorem app_ok {H : Heap} (h : HRel φ H w) {t ty e : TypeId} {k b : Nat} {z : List Seg} (ht : P.underlying t = some (.slice e)) (hk : sizeT P e = some k) (hb : bytesT P e = some b) (hz : zeroOf P e = some z) (hk0 : k ≠ 0) (hb0 : b ≠ 0) (hzk : sizes z = k)
    {x y : AV} {xv yv : Value} (hx : relA φ x xv) (hy : relA φ y yv) {need : Option Prop} {v : AV} {H' : Heap} (ha : app H b e k x y = .t need v H') (hn : needP need) :
    TrnV P φ H (Builtin.append_ #[t, t] ty #[xv, yv]) w v H' := by
  obtain ⟨i, zv, hi, hzv, hF⟩ := zeroOf_rel φ hz
  have hk' : i.size = k := by unfold sizeT at hk; rw [hi] at hk; simpa using hk
  have hb' : i.bytes = b := by unfold bytesT at hb; rw [hi] at hb; simpa using hb
  have hzs : zv.cells.size = k := by rw [← hzk, ← flat_length, hF.length]; simp
  unfold app at ha
  split at ha
  · rename_i bb m
    split at ha
    · simp at ha
    · rename_i C hC
      split at ha
      · rename_i c hsz hst
        have hCstr := Nat.eq_of_beq_eq_true hst
        have hCn : C.n = c := by simp [Blk.n, hsz]
        obtain ⟨r, cap, rfl, hmc, hc⟩ := hy
        split at ha
        · -- onto nil
          simp only [Res.t.injEq] at ha
          obtain ⟨rfl, rfl, rfl⟩ := ha
          obtain ⟨hn1, hn2⟩ := hn
          have hxv : xv = .slice none 0 0 := hx
          subst hxv
          rcases hc with ⟨rfl, rfl, hr⟩ | ⟨p, hp, rfl, hpl⟩
          · -- of nothing
            refine ⟨φ, .slice none 0 0, w, ?_, ⟨none, 0, rfl, Nat.le_refl _, .inl ⟨rfl, rfl, .inl rfl⟩⟩, ?_⟩
            · cases r <;> simp [Builtin.append_, run_underlying' ht, run_sizeOf hk, Builtin.lenOf, Builtin.firstCells, Sem.run_bind, Result.andThen_ok, Sem.run_pure, loadCells, loadCellsFrom]
            · exact h.grown rfl rfl rfl (Nat.le_refl _) (fun _ _ => rfl) (by simp) fun j D hj hne => by
                have : j ≠ H.next := fun e => hne (by rw [e]; exact h.fresh _ (Nat.le_refl _))
                rwa [getB_cons_ne this] at hj
          · have hCb := h.blk _ _ _ hC hp
            obtain ⟨news, g1, g2, g3⟩ := rows_cells hCb bb.idx m (by omega)
            rw [hCstr] at g1 g3
            have := append_core (P := P) (ty := ty) h ht hi hzv hk' hb' hzs (by omega) (by omega) (World.ownsRow_nil w 0 e k) (a := p.at bb) (m := m) (c := cap) g1
              (fun j u hu => by obtain ⟨o1, o2, _⟩ := hpl rfl; have := g2 j u hu; simpa [Place.at, add_mk, o1, o2] using this) (F2_oneAll (by rw [hCstr]; exact g1) (by rw [hCstr]; exact g3)) (by simpa using hn2) (blks := H.blks) (fun _ _ h => h)
              (fun g hg => by simp [Value.ownBlock] at hg) (row := fun j => C.row (addN bb.idx j)) (fun j hj => by rw [addN_eq]; simpa using g3 j (by omega))
            simpa using this
        · rename_i aa n
          split at ha
          · simp at ha
          · rename_i B hB
            split at ha
            · rename_i kk hwr hBsz hz0 hne hBstr hBel
              simp only [Res.t.injEq] at ha
              obtain ⟨rfl, rfl, rfl⟩ := ha
              obtain ⟨hnk, hn1, hn2⟩ := hn
              have hidx := Nat.eq_of_beq_eq_true hz0
              have hBs := Nat.eq_of_beq_eq_true hBstr
              have hBe := Nat.eq_of_beq_eq_true hBel
              have hBn : B.n = n := by simp [Blk.n, hBsz, hnk]
              obtain ⟨r1, cap1, rfl, hnc1, hc1⟩ := hx
              have hsub : ∀ j D, getB (delB H.blks aa.id) j = some D → getB H.blks j = some D := fun j D hj => by
                have : j ≠ aa.id := fun e => by subst e; rw [getB_delB_self] at hj; cases hj
                rwa [getB_delB_ne this] at hj
              -- what was there
              have hxs : ∃ xs, w.ownsRow 0 e k (.slice r1 n cap1) n xs ∧ (∀ j, j < n → F2 (rel φ) (flat (B.row j)) ((xs.drop (j * k)).take k)) ∧
                  (∀ g, (Value.slice r1 n cap1).ownBlock = some g → ∃ j D q, getB H.blks j = some D ∧ D.wr = true ∧ φ j = some q ∧ q.blk = g ∧ getB (delB H.blks aa.id) j = none) := by
                rcases hc1 with ⟨rfl, rfl, hr⟩ | ⟨p, hp, rfl, hpl⟩
                · have : r1 = none := by rcases hr with h | h | h <;> first | exact h | exact absurd hidx h | cases h
                  subst this
                  exact ⟨[], World.ownsRow_nil w 0 e k, fun j hj => by omega, fun g hg => by simp [Value.ownBlock] at hg⟩
                · have hBb := h.blk _ _ _ hB hp
                  obtain ⟨o1, o2, o3⟩ := hpl rfl
                  obtain ⟨q1, q2, q5, cs, q3, q4⟩ := hBb.own hwr
                  obtain ⟨old, f1, f2, f3⟩ := rows_cells hBb 0 n (by omega)
                  have hps := hBb.str
                  have hat : p.at aa = ⟨p.blk, 0, none⟩ := by simp [Place.at, hidx, o1, o2, q1]
                  have hcap : cap1 = p.cap := by omega
                  have hcsz : cs.size = p.cap * k := by rw [q4, hps, hBs, Nat.mul_comm]
                  have hnk' : n * k ≤ p.cap * k := Nat.mul_le_mul_right _ (by omega)
                  have hold : cs.toList.take (n * k) = old := by
                    refine List.ext_getElem? fun j => ?_
                    rw [List.getElem?_take]
                    split
                    · rename_i hj
                      have hjl : j < old.length := by rw [f1, hBs]; exact hj
                      have := f2 j old[j] (List.getElem?_eq_getElem hjl)
                      unfold World.cell? at this
                      simp only [q3, q1, Nat.mul_zero, Nat.zero_add, Option.isSome_none, Bool.false_eq_true, if_false] at this
                      rw [List.getElem?_eq_getElem hjl]
                      simpa using this
                    · rename_i hj
                      rw [List.getElem?_eq_none (by rw [f1, hBs]; omega)]
                  refine ⟨old, ⟨by rw [f1, hBs], .inr ⟨p.blk, cap1, cs, by rw [hat], Nat.zero_le _, by rw [q3, hBe], by omega, by simp [maxLen]; omega, by rw [hcsz, hcap], hold⟩⟩, fun j hj => ?_, fun g hg => ?_⟩
                  · have := f3 j hj
                    rwa [hBs, Nat.zero_add] at this
                  · refine ⟨aa.id, B, p, hB, hwr, hp, ?_, getB_delB_self _ _⟩
                    simpa [Value.ownBlock, hat] using hg
              obtain ⟨xs, w1, w2, w3⟩ := hxs
              have hxl : xs.length = n * k := w1.1
              rcases hc with ⟨rfl, rfl, hr⟩ | ⟨p, hp, rfl, hpl⟩
              · -- of nothing
                have hrun : (Builtin.append_ #[t, t] ty #[.slice r1 n cap1, .slice r 0 0]).run P w = .ok (.slice r1 n cap1) w := by
                  cases r <;> cases r1 <;> simp [Builtin.append_, run_underlying' ht, run_sizeOf hk, Builtin.lenOf, Builtin.firstCells, Sem.run_bind, Result.andThen_ok, Sem.run_pure, loadCells, loadCellsFrom, hnc1, storeCells]
                have hf : φ H.next = none := h.fresh _ (Nat.le_refl _)
                rcases hc1 with ⟨rfl, rfl, hr1⟩ | ⟨p, hp, rfl, hpl⟩
                · have : r1 = none := by rcases hr1 with h | h | h <;> first | exact h | exact absurd hidx h | cases h
                  subst this
                  refine ⟨φ, _, w, hrun, ⟨none, 0, rfl, Nat.le_refl _, .inl ⟨rfl, rfl, .inl rfl⟩⟩, ?_⟩
                  exact h.grown rfl rfl rfl (Nat.le_refl _) (fun _ _ => rfl) (by simp) fun j D hj hne => by
                    have : j ≠ H.next := fun e => hne (by rw [e]; exact hf)
                    exact hsub j D (by rwa [getB_cons_ne this] at hj)
                · have hBb := h.blk _ _ _ hB hp
                  obtain ⟨o1, o2, o3⟩ := hpl rfl
                  obtain ⟨q1, q2, q5, cs, q3, q4⟩ := hBb.own hwr
                  refine ⟨φ.ins H.next p, _, w, hrun, ⟨_, cap1, rfl, hnc1, .inr ⟨p, φ.ins_self _ _, by simp [Place.at, hidx, o1, o2], fun _ => ⟨rfl, rfl, by simp; omega⟩⟩⟩, ?_⟩
                  refine h.renew hsub rfl rfl rfl (Nat.le_refl _) ⟨by rw [hBb.str, hBs], fun j hj => ?_, fun _ => ⟨q1, by simp [Blk.n]; omega, q5, cs, by rw [q3, hBe], q4⟩⟩ (h.lt _ _ hp) (og := some p.blk) (fun g hg => by cases hg; exact ⟨aa.id, B, p, hB, hwr, hp, rfl, getB_delB_self _ _⟩) (.inr rfl) fun _ _ _ => rfl
                  have hj' : j < n := by simpa [Blk.n] using hj
                  obtain ⟨xs', f1, f2, f3⟩ := hBb.rows j (by omega)
                  refine ⟨xs', ?_, by rw [f2, hBs], f3⟩
                  show F2 _ (flat (rowsApp B n C bb.idx j)) _
                  unfold rowsApp
                  rw [if_pos hj']
                  exact f1.mono fun _ _ => rel_mono (Emb.le_ins hf)
              · have hCb := h.blk _ _ _ hC hp
                obtain ⟨news, g1, g2, g3⟩ := rows_cells hCb bb.idx m (by omega)
                rw [hCstr] at g1 g3
                exact append_core (P := P) (ty := ty) h ht hi hzv hk' hb' hzs (by omega) (by omega) w1 (a := p.at bb) (m := m) (c := cap) g1
                  (fun j u hu => by obtain ⟨o1, o2, _⟩ := hpl rfl; have := g2 j u hu; simpa [Place.at, add_mk, o1, o2] using this) (F2_oneAll (by rw [hCstr]; exact g1) (by rw [hCstr]; exact g3)) hn2 hsub w3 (fun j hj => by
                    unfold rowsApp
                    by_cases hjn : j < n
                    · rw [if_pos hjn, drop_take_left hxl hjn]
                      exact w2 j hjn
                    · rw [if_neg hjn, drop_take_right hxl (by omega), addN_eq]
                      exact g3 (j - n) (by omega))
            · simp at ha
        · simp at ha
      · simp at ha
  · repeat' (split at ha)
    all_goals simp at ha
  · simp at ha


/-! ### A string's bytes -/
theorem tob_ok {H : Heap} (h : HRel φ H w) {src dst e : TypeId} (hs : P.underlying src = some .string) (hd : P.underlying dst = some (.slice e)) (he : P.underlying e = some (.int .u8))
    {x : AV} {xv : Value} (hx : relA φ x xv) {need : Option Prop} {v : AV} {H' : Heap} (ht : tob H e x = .t need v H') : TrnV P φ H (convert src dst xv) w v H' := by
  unfold tob at ht
  split at ht
  · rename_i b
    simp only [Res.t.injEq] at ht
    obtain ⟨rfl, rfl, rfl⟩ := ht
    have hxv : xv = .string b := hx
    subst hxv
    have hge := grownCap_ge w b.size 0 e
    have hnew := Lib.bytesWorld_at_new w e b
    have hcsz : (Lib.bytesCells w e b).size = grownCap w b.size 0 e := by
      have : b.data.size = b.size := rfl
      simp [Lib.bytesCells, this]
      omega
    refine ⟨φ.ins H.next ⟨w.heap.size, 0, 1, grownCap w b.size 0 e⟩, _, _, Lib.run_convert_string_bytes w src dst e b hs hd he, ⟨_, _, rfl, hge, .inr ⟨_, φ.ins_self _ _, rfl, fun _ => ⟨rfl, rfl, by simp⟩⟩⟩, ?_⟩
    refine h.renew (blks := H.blks) (fun _ _ h => h) (w' := Lib.bytesWorld w e b) rfl rfl rfl (by rw [Lib.bytesWorld_size]; omega) ?_ (by rw [Lib.bytesWorld_size]; exact Nat.lt_succ_self _) (og := none) (fun g hg => by cases hg) (.inl (Nat.le_refl _)) fun j hj _ => Lib.bytesWorld_at_old w e b j hj
    refine ⟨rfl, fun i hi => ?_, fun hw => by cases hw⟩
    have hi' : i < b.size := hi
    refine ⟨[.int .u8 (byteAt b i)], .cons rfl .nil, rfl, fun j x hx => ?_⟩
    cases j with
    | succ j => simp at hx
    | zero =>
      simp only [List.getElem?_cons_zero, Option.some.injEq] at hx
      subst hx
      have := Lib.bytesWorld_cell w e b i hi'
      have e1 : byteAt b i = ((b.data.toList.getD i 0).toNat : Int) := by
        have hlt : i < b.data.size := hi'
        have e2 : b[i]? = some (b.data[i]'hlt) := by
          rw [getElem?_pos b i hi']
          rfl
        unfold byteAt
        rw [e2]
        simp only [List.getD, Array.getElem?_toList, Array.getElem?_eq_getElem hlt, Option.getD_some]
      rw [e1]
      simpa using this
  · cases ht

/-! ### copy -/
theorem setB_self : ∀ {l : List (Nat × Blk)} {i : Nat} {B : Blk}, getB l i = some B → setB l i B = l
  | [], _, _, h => by simp [getB] at h
  | (k, C) :: r, i, B, h => by
    simp only [getB] at h
    simp only [setB]
    cases hk : Nat.beq k i with
    | true =>
      simp only [hk, Option.some.injEq] at h
      subst h
      rfl
    | false =>
      simp only [hk] at h
      simp only [setB_self h]

theorem run_copy_any {t u ty e : TypeId} {k n m c c' : Nat} (ht : P.underlying t = some (.slice e)) (hk : sizeT P e = some k) {d a : Addr} {news : List Value} (hl : news.length = Nat.min m n * k)
    (hsrc : ∀ j v, news[j]? = some v → w.cell? (a.add j) = some v) {w' : World} (hst : (storeCells d news).run P w = .ok () w') :
    (Builtin.copy_ #[t, u] ty #[.slice (some d) n c, .slice (some a) m c']).run P w = .ok (.int .i64 ((Nat.min m n : Nat) : Int)) w' := by
  have hl' := run_loadCells_list (P := P) w a news hsrc
  rw [hl] at hl'
  simp [Builtin.copy_, run_underlying' ht, run_sizeOf hk, Builtin.lenOf, Builtin.firstCells, Sem.run_bind, Result.andThen_ok, Sem.run_pure, hl', hst, goInt]

theorem run_copy_zero {t u ty e : TypeId} {k n m c c' : Nat} (ht : P.underlying t = some (.slice e)) (hk : sizeT P e = some k) {d a : Option Addr} (h0 : Nat.min m n = 0) :
    (Builtin.copy_ #[t, u] ty #[.slice d n c, .slice a m c']).run P w = .ok (.int .i64 0) w := by
  have hl : ∀ (x : Addr), (loadCells x 0).run P w = .ok #[] w := fun x => by simpa using run_loadCells_list (P := P) w x [] (by simp)
  cases d <;> cases a <;> simp [Builtin.copy_, run_underlying' ht, run_sizeOf hk, Builtin.lenOf, Builtin.firstCells, Sem.run_bind, Result.andThen_ok, Sem.run_pure, h0, hl, storeCells, goInt]

theorem cpy_ok {H : Heap} (h : HRel φ H w) {t u ty e : TypeId} {k : Nat} (ht : P.underlying t = some (.slice e)) (hk : sizeT P e = some k)
    {x y : AV} {xv yv : Value} (hx : relA φ x xv) (hy : relA φ y yv) {need : Option Prop} {v : AV} {H' : Heap} (hc : cpy H k x y = .t need v H') (hn : needP need) :
    TrnV P φ H (Builtin.copy_ #[t, u] ty #[xv, yv]) w v H' := by
  unfold cpy at hc
  split at hc
  · rename_i a n b m
    split at hc
    · rename_i B C hB hC
      split at hc
      · rename_i p q hw hsz hsz' hst hst'
        have hBstr := Nat.eq_of_beq_eq_true hst
        have hCstr := Nat.eq_of_beq_eq_true hst'
        have hBn : B.n = p := by simp [Blk.n, hsz]
        have hCn : C.n = q := by simp [Blk.n, hsz']
        simp only [Res.t.injEq] at hc
        obtain ⟨rfl, rfl, rfl⟩ := hc
        obtain ⟨hn1, hn2⟩ := hn
        obtain ⟨r, cap, rfl, hnc, hcx⟩ := hx
        obtain ⟨r', cap', rfl, hmc, hcy⟩ := hy
        have zero : Nat.min m n = 0 → TrnV P φ H (Builtin.copy_ #[t, u] ty #[.slice r n cap, .slice r' m cap']) w (.c (.int .i64 ((min m n : Nat) : Int))) ⟨H.next, setB H.blks a.id ⟨B.str, some p, rowsCpy B a.idx C b.idx (min m n), B.elem, true⟩⟩ := by
          intro h0
          have h0' : min m n = 0 := h0
          have hrow : rowsCpy B a.idx C b.idx 0 = B.row := by
            funext z
            unfold rowsCpy
            rw [if_neg (by rw [addN_eq]; omega)]
          have hBB : (⟨B.str, some p, B.row, B.elem, true⟩ : Blk) = B := by
            cases B
            simp only at hsz hw
            subst hsz; subst hw
            rfl
          rw [h0', hrow, hBB, setB_self hB]
          exact ⟨φ, _, w, run_copy_zero ht hk h0, rfl, h, Fr.refl _ _ _⟩
        rcases hcx with ⟨rfl, _, _⟩ | ⟨px, hpx, rfl, hplx⟩
        · exact zero (Nat.min_eq_right (Nat.zero_le _))
        rcases hcy with ⟨rfl, _, _⟩ | ⟨py, hpy, rfl, hply⟩
        · exact zero (Nat.min_eq_left (Nat.zero_le _))
        obtain ⟨ox, sx, _⟩ := hplx rfl
        obtain ⟨oy, sy, _⟩ := hply rfl
        have hCb := h.blk _ _ _ hC hpy
        have hb := h.blk _ _ _ hB hpx
        have hstr := hb.str
        obtain ⟨e1, e2, e5, cs, e3, e4⟩ := hb.own hw
        obtain ⟨news, g1, g2, g3⟩ := rows_cells hCb b.idx (min m n) (by omega)
        have hone := F2_oneAll g1 g3
        rw [hCstr] at g1 g3
        have hmn : Nat.min m n = min m n := rfl
        have hfit : px.str * a.idx + news.length ≤ cs.size := by
          rw [e4, g1, hstr, hBstr, Nat.mul_comm (min m n) k, ← Nat.mul_add]
          exact Nat.mul_le_mul_left _ (by omega)
        have hst := run_storeCells_at P px.blk (px.base + px.str * a.idx) B.elem news 0 cs w e3 (by omega) hone
        have hat : px.at a = ⟨px.blk, px.base + px.str * a.idx, none⟩ := by simp [Place.at, ox, sx]
        have hat' : py.at b = ⟨py.blk, py.base + py.str * b.idx, none⟩ := by simp [Place.at, oy, sy]
        have hrun := run_copy_any (P := P) (u := u) (ty := ty) (n := n) (m := m) (c := cap) (c' := cap') (d := px.at a) (a := py.at b) ht hk (by rw [g1, hmn]) (fun j v hv => by rw [hat', add_mk]; exact g2 j v hv) (by rw [hat]; exact hst)
        simp only [Nat.add_zero, e1, Nat.zero_add] at hrun
        let cs' : Array Value := (cs.toList.take (px.str * a.idx) ++ news ++ cs.toList.drop (px.str * a.idx + news.length)).toArray
        have hcs' : ∀ z, cs'[z]? = if z < px.str * a.idx then cs[z]? else if z < px.str * a.idx + news.length then news[z - px.str * a.idx]? else cs[z]? := fun z => by
          have := splice_get cs.toList news (px.str * a.idx) z (by simp; omega)
          simpa [cs'] using this
        have hcsz : cs'.size = cs.size := by simp [cs']; omega
        have hheap : (w.setRow px.blk cs').heap[px.blk]? = some (.cells cs' B.elem (0, 0)) := setRow_heap w px.blk cs cs' B.elem (0, 0) e3
        have hcell : ∀ z, (w.setRow px.blk cs').cell? ⟨px.blk, z, none⟩ = cs'[z]? := fun z => by unfold World.cell?; rw [hheap]; simp
        have hcell0 : ∀ z, w.cell? ⟨px.blk, z, none⟩ = cs[z]? := fun z => by unfold World.cell?; rw [e3]; simp
        refine ⟨φ, _, _, hrun, rfl, ?_⟩
        refine h.update hB hw hpx rfl (setRow_size _ _ _) rfl rfl rfl (fun b' hne => setRow_other _ _ _ _ hne) ⟨hstr, fun j hj => ?_, fun _ => ⟨e1, by rw [← hBn] at *; exact e2, e5, cs', hheap, by rw [hcsz, e4]⟩⟩
        have hj' : j < p := hj
        show ∃ xs, F2 (rel φ) (flat (rowsCpy B a.idx C b.idx (min m n) j)) xs ∧ xs.length = B.str ∧ _
        unfold rowsCpy
        rw [addN_eq]
        have hkpos : ∀ d : Nat, k * (a.idx + d) = k * a.idx + k * d := fun d => Nat.mul_add _ _ _
        by_cases hin : a.idx ≤ j ∧ j < a.idx + min m n
        · rw [if_pos hin, addN_eq]
          obtain ⟨d, rfl⟩ : ∃ d, j = a.idx + d := ⟨j - a.idx, by omega⟩
          have hd : d < min m n := by omega
          rw [Nat.add_sub_cancel_left]
          have hle : d * k + k ≤ news.length := by rw [g1, ← Nat.succ_mul]; exact Nat.mul_le_mul_right _ hd
          refine ⟨_, g3 d hd, by rw [hBstr]; simp; omega, fun j' z hz => ?_⟩
          have hjk : j' < k := by
            rw [List.getElem?_take] at hz
            split at hz
            · assumption
            · cases hz
          rw [List.getElem?_take_of_lt hjk, List.getElem?_drop] at hz
          rw [e1, Nat.zero_add, hcell, hcs', hstr, hBstr, hkpos, Nat.mul_comm k d]
          rw [if_neg (by omega), if_pos (by omega)]
          rw [← hz]
          congr 1
          omega
        · rw [if_neg hin]
          obtain ⟨xs, h1, h2, h3⟩ := hb.rows j (by omega)
          refine ⟨xs, h1, h2, fun j' z hz => ?_⟩
          have hjk : j' < k := by rw [← hBstr, ← h2]; exact (List.getElem?_eq_some_iff.1 hz).1
          have h4 := h3 j' z hz
          rw [e1, Nat.zero_add, hcell0] at h4
          rw [e1, Nat.zero_add, hcell, hcs']
          rw [hstr, hBstr] at h4 ⊢
          rcases Nat.lt_or_ge j a.idx with hlt | hge
          · have : k * j + k ≤ k * a.idx := by rw [← Nat.mul_succ]; exact Nat.mul_le_mul_left _ hlt
            rw [if_pos (by omega)]
            exact h4
          · have hge' : a.idx + min m n ≤ j := by omega
            have : k * (a.idx + min m n) ≤ k * j := Nat.mul_le_mul_left _ hge'
            rw [Nat.mul_add] at this
            rw [Nat.mul_comm (min m n) k] at g1
            rw [if_neg (by omega), if_neg (by omega)]
            exact h4
      · simp at hc
    · simp at hc
  · simp at hc


theorem run_clear_any {t ty e : TypeId} {i : TypeInfo} {zv : Value} {n c : Nat} (ht : P.underlying t = some (.slice e)) (hi : P.info? e = some i) (hz : i.zero = some zv) {d : Addr} {w' : World}
    (hst : (storeCells d (Builtin.zeroCells zv.cells (n + 1)).toList).run P w = .ok () w') : (Builtin.clear_ #[t] ty #[.slice (some d) (n + 1) c]).run P w = .ok (.tuple #[]) w' := by
  simp [Builtin.clear_, run_underlying' ht, run_zeroValue hi hz, Sem.run_bind, Result.andThen_ok, Sem.run_pure, hst]
theorem run_clear_zero {t ty e : TypeId} {c : Nat} (ht : P.underlying t = some (.slice e)) {d : Option Addr} : (Builtin.clear_ #[t] ty #[.slice d 0 c]).run P w = .ok (.tuple #[]) w := by
  cases d <;> simp [Builtin.clear_, run_underlying' ht, Sem.run_bind, Result.andThen_ok, Sem.run_pure]

theorem clr_ok {H : Heap} (h : HRel φ H w) {t ty e : TypeId} {k : Nat} {z : List Seg} (ht : P.underlying t = some (.slice e)) (hz : zeroOf P e = some z) (hk0 : k ≠ 0) (hzk : sizes z = k)
    {x : AV} {xv : Value} (hx : relA φ x xv) {need : Option Prop} {v : AV} {H' : Heap} (hc : clr H k z x = .t need v H') (hn : needP need) :
    TrnV P φ H (Builtin.clear_ #[t] ty #[xv]) w v H' := by
  obtain ⟨i, zv, hi, hzv, hF⟩ := zeroOf_rel φ hz
  have hzs : zv.cells.size = k := by rw [← hzk, ← flat_length, hF.length]; simp
  unfold clr at hc
  split at hc
  · rename_i a n
    split at hc
    · rename_i B hB
      split at hc
      · rename_i p hw hsz hst
        have hBstr := Nat.eq_of_beq_eq_true hst
        have hBn : B.n = p := by simp [Blk.n, hsz]
        simp only [Res.t.injEq] at hc
        obtain ⟨rfl, rfl, rfl⟩ := hc
        have hn1 : a.idx + n ≤ p := hn
        obtain ⟨r, cap, rfl, hnc, hcx⟩ := hx
        cases n with
        | zero =>
          have hrow : rowsClr B a.idx 0 z = B.row := by
            funext y
            unfold rowsClr
            rw [if_neg (by rw [addN_eq]; omega)]
          have hBB : (⟨B.str, some p, B.row, B.elem, true⟩ : Blk) = B := by
            cases B
            simp only at hsz hw
            subst hsz; subst hw
            rfl
          rw [hrow, hBB, setB_self hB]
          exact ⟨φ, _, w, run_clear_zero ht, ⟨#[], rfl, .nil⟩, h, Fr.refl _ _ _⟩
        | succ n =>
        rcases hcx with ⟨h0, _⟩ | ⟨px, hpx, rfl, hplx⟩
        · cases h0
        obtain ⟨ox, sx, _⟩ := hplx rfl
        have hb := h.blk _ _ _ hB hpx
        have hstr := hb.str
        obtain ⟨e1, e2, e5, cs, e3, e4⟩ := hb.own hw
        obtain ⟨news, hnews⟩ : ∃ news, (Builtin.zeroCells zv.cells (n + 1)).toList = news := ⟨_, rfl⟩
        have g1 : news.length = (n + 1) * k := by rw [← hnews]; simp [Builtin.zeroCells, hzs]
        have hget : ∀ d, d < n + 1 → ∀ j y, zv.cells.toList[j]? = some y → news[k * d + j]? = some y := fun d hd j y hy => by
          have := repl_row hF hzk (cells := Builtin.zeroCells zv.cells (n + 1)) (m := n + 1) (by simp [Builtin.zeroCells, hzs]) hd j y hy
          rw [← hnews]; simpa using this
        have hrowz : ∀ d, d < n + 1 → (news.drop (d * k)).take k = zv.cells.toList := fun d hd => by
          have hle : d * k + k ≤ news.length := by rw [g1, ← Nat.succ_mul]; exact Nat.mul_le_mul_right _ hd
          refine List.ext_getElem? fun j => ?_
          rcases Nat.lt_or_ge j k with hj | hj
          · rw [List.getElem?_take_of_lt hj, List.getElem?_drop]
            have hjz : j < zv.cells.toList.length := by simp [hzs, hj]
            rw [List.getElem?_eq_getElem hjz, Nat.mul_comm d k]
            exact hget d hd j _ (List.getElem?_eq_getElem hjz)
          · rw [List.getElem?_eq_none (by simp; omega), List.getElem?_eq_none (by simp [hzs, hj])]
        have hone : ∀ u ∈ news, u.oneCell' = true := by
          refine F2_oneAll (φ := φ) (B := ⟨k, some (n + 1), fun _ => z, e, true⟩) (i := 0) (m := n + 1) g1 (fun d hd => ?_)
          show F2 _ (flat z) ((news.drop (d * k)).take k)
          rw [hrowz d hd]
          exact hF
        have hfit : px.str * a.idx + news.length ≤ cs.size := by
          rw [e4, g1, hstr, hBstr, Nat.mul_comm (n + 1) k, ← Nat.mul_add]
          exact Nat.mul_le_mul_left _ (by omega)
        have hst := run_storeCells_at P px.blk (px.base + px.str * a.idx) B.elem news 0 cs w e3 (by omega) hone
        have hat : px.at a = ⟨px.blk, px.base + px.str * a.idx, none⟩ := by simp [Place.at, ox, sx]
        have hrun := run_clear_any (P := P) (ty := ty) (n := n) (c := cap) (d := px.at a) ht hi hzv (w := w) (by rw [hnews, hat]; exact hst)
        simp only [Nat.add_zero, e1, Nat.zero_add] at hrun
        let cs' : Array Value := (cs.toList.take (px.str * a.idx) ++ news ++ cs.toList.drop (px.str * a.idx + news.length)).toArray
        have hcs' : ∀ z, cs'[z]? = if z < px.str * a.idx then cs[z]? else if z < px.str * a.idx + news.length then news[z - px.str * a.idx]? else cs[z]? := fun z => by
          have := splice_get cs.toList news (px.str * a.idx) z (by simp; omega)
          simpa [cs'] using this
        have hcsz : cs'.size = cs.size := by simp [cs']; omega
        have hheap : (w.setRow px.blk cs').heap[px.blk]? = some (.cells cs' B.elem (0, 0)) := setRow_heap w px.blk cs cs' B.elem (0, 0) e3
        have hcell : ∀ z, (w.setRow px.blk cs').cell? ⟨px.blk, z, none⟩ = cs'[z]? := fun z => by unfold World.cell?; rw [hheap]; simp
        have hcell0 : ∀ z, w.cell? ⟨px.blk, z, none⟩ = cs[z]? := fun z => by unfold World.cell?; rw [e3]; simp
        refine ⟨φ, _, _, hrun, ⟨#[], rfl, .nil⟩, ?_⟩
        refine h.update hB hw hpx rfl (setRow_size _ _ _) rfl rfl rfl (fun b' hne => setRow_other _ _ _ _ hne) ⟨hstr, fun j hj => ?_, fun _ => ⟨e1, by rw [← hBn] at *; exact e2, e5, cs', hheap, by rw [hcsz, e4]⟩⟩
        have hj' : j < p := hj
        show ∃ xs, F2 (rel φ) (flat (rowsClr B a.idx (n + 1) z j)) xs ∧ xs.length = B.str ∧ _
        unfold rowsClr
        rw [addN_eq]
        have hkpos : ∀ d : Nat, k * (a.idx + d) = k * a.idx + k * d := fun d => Nat.mul_add _ _ _
        by_cases hin : a.idx ≤ j ∧ j < a.idx + (n + 1)
        · rw [if_pos hin]
          obtain ⟨d, rfl⟩ : ∃ d, j = a.idx + d := ⟨j - a.idx, by omega⟩
          have hd : d < n + 1 := by omega
          refine ⟨_, hF, by rw [hBstr]; simp [hzs], fun j' y hy => ?_⟩
          have hjk : j' < k := by rw [← hzs]; simpa using (List.getElem?_eq_some_iff.1 hy).1
          have hle : k * d + k ≤ news.length := by rw [g1, Nat.mul_comm (n + 1) k, ← Nat.mul_succ]; exact Nat.mul_le_mul_left _ hd
          rw [e1, Nat.zero_add, hcell, hcs', hstr, hBstr, hkpos]
          rw [if_neg (by omega), if_pos (by omega)]
          rw [← hget d hd j' y hy]
          congr 1
          omega
        · rw [if_neg hin]
          obtain ⟨xs, h1, h2, h3⟩ := hb.rows j (by omega)
          refine ⟨xs, h1, h2, fun j' y hy => ?_⟩
          have hjk : j' < k := by rw [← hBstr, ← h2]; exact (List.getElem?_eq_some_iff.1 hy).1
          have h4 := h3 j' y hy
          rw [e1, Nat.zero_add, hcell0] at h4
          rw [e1, Nat.zero_add, hcell, hcs']
          rw [hstr, hBstr] at h4 ⊢
          rcases Nat.lt_or_ge j a.idx with hlt | hge
          · have : k * j + k ≤ k * a.idx := by rw [← Nat.mul_succ]; exact Nat.mul_le_mul_left _ hlt
            rw [if_pos (by omega)]
            exact h4
          · have hge' : a.idx + (n + 1) ≤ j := by omega
            have : k * (a.idx + (n + 1)) ≤ k * j := Nat.mul_le_mul_left _ hge'
            rw [Nat.mul_add] at this
            rw [Nat.mul_comm (n + 1) k] at g1
            rw [if_neg (by omega), if_neg (by omega)]
            exact h4
      · simp at hc
    · simp at hc
  · simp at hc

end Go.AM
