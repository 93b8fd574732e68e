/- Parts of the proof of foldDoes_holds, joined and cut by a program: Am9, AmM, Am10, Am11, Am12, Am13, Am14, Am15, Am16. No condition. -/
import Derived.Test.YtmbnakinhnkabaaZga
import Derived.Laws.AppendOwn
import Derived.Maps.AppendAt
import Derived.Lib.ConvBytes
import Derived.MapKept
import Derived.WideKeyRuns
namespace Go.AM
set_option linter.unusedVariables false
set_option linter.unusedSimpArgs false
variable {P : Program} {φ : Emb} {w : World}

theorem getB_delB_self (l : List (Nat × Blk)) (i : Nat) : getB (delB l i) i = none := by
  induction l with
  | nil => rfl
  | cons p r ih =>
    obtain ⟨j, D⟩ := p
    simp only [delB]
    cases hb : Nat.beq j i with
    | true => exact ih
    | false => simp only [getB, hb]; exact ih
theorem getB_delB_ne {l : List (Nat × Blk)} {i j : Nat} (h : j ≠ i) : getB (delB l i) j = getB l j := by
  induction l with
  | nil => rfl
  | cons p r ih =>
    obtain ⟨k, D⟩ := p
    simp only [delB]
    cases hb : Nat.beq k i with
    | true =>
      have := Nat.eq_of_beq_eq_true hb
      subst this
      have : Nat.beq k j = false := by
        cases hk : Nat.beq k j with
        | false => rfl
        | true => exact absurd (Nat.eq_of_beq_eq_true hk).symm h
      simp only [getB, this]
      exact ih
    | false => simp only [getB, ih]
theorem getB_cons_self (l : List (Nat × Blk)) (i : Nat) (B : Blk) : getB ((i, B) :: l) i = some B := by simp [getB, Nat.beq_refl]
theorem getB_cons_ne {l : List (Nat × Blk)} {i j : Nat} {B : Blk} (h : j ≠ i) : getB ((i, B) :: l) j = getB l j := by
  have : Nat.beq i j = false := by
    cases hk : Nat.beq i j with
    | false => rfl
    | true => exact absurd (Nat.eq_of_beq_eq_true hk).symm h
  simp [getB, this]

theorem rows_cells {B : Blk} {p : Place} (hb : BRel φ B p w) (i m : Nat) (him : i + m ≤ B.n) :
    ∃ news : List Value, news.length = m * B.str ∧ (∀ j u, news[j]? = some u → w.cell? ⟨p.blk, p.base + p.str * i + j, none⟩ = some u) ∧
      (∀ j, j < m → F2 (rel φ) (flat (B.row (i + j))) ((news.drop (j * B.str)).take B.str)) := by
  induction m with
  | zero => exact ⟨[], by simp, by simp, fun j hj => by omega⟩
  | succ m ih =>
    obtain ⟨news, h1, h2, h3⟩ := ih (by omega)
    obtain ⟨xs, g1, g2, g3⟩ := hb.rows (i + m) (by omega)
    have hs := hb.str
    refine ⟨news ++ xs, by simp [h1, g2, Nat.succ_mul], fun j u hu => ?_, fun j hj => ?_⟩
    · by_cases hj : j < news.length
      · rw [List.getElem?_append_left hj] at hu
        exact h2 j u hu
      · rw [List.getElem?_append_right (by omega)] at hu
        have := g3 _ _ hu
        have e : p.base + p.str * (i + m) + (j - news.length) = p.base + p.str * i + j := by
          rw [Nat.mul_add, hs, h1, Nat.mul_comm B.str m]
          rw [h1] at hj
          omega
        rw [e] at this
        exact this
    · by_cases hjm : j = m
      · subst hjm
        rw [← h1, List.drop_left, List.take_of_length_le (by omega)]
        exact g1
      · have hlt : j < m := by omega
        have hle : j * B.str + B.str ≤ news.length := by rw [h1, ← Nat.succ_mul]; exact Nat.mul_le_mul_right _ hlt
        rw [List.drop_append_of_le_length (by omega), List.take_append_of_le_length (by simp; omega)]
        exact h3 j hlt

theorem F2_oneAll {B : Blk} {news : List Value} {i m : Nat} (hl : news.length = m * B.str) (h : ∀ j, j < m → F2 (rel φ) (flat (B.row (i + j))) ((news.drop (j * B.str)).take B.str)) : ∀ u ∈ news, u.oneCell' = true := by
  intro u hu
  obtain ⟨k, hk, rfl⟩ := List.mem_iff_getElem.1 hu
  have hs0 : 0 < B.str := by
    rcases Nat.eq_zero_or_pos B.str with h0 | h0
    · rw [h0, Nat.mul_zero] at hl; omega
    · exact h0
  have hj : k / B.str < m := (Nat.div_lt_iff_lt_mul hs0).2 (by omega)
  refine F2_oneCell (h _ hj) _ ?_
  refine List.mem_iff_getElem?.2 ⟨k % B.str, ?_⟩
  rw [List.getElem?_take_of_lt (Nat.mod_lt _ hs0), List.getElem?_drop]
  have : k / B.str * B.str + k % B.str = k := by rw [Nat.mul_comm]; exact Nat.div_add_mod k B.str
  rw [this, List.getElem?_eq_getElem hk]

theorem brel_owned {str n cap g : Nat} (hs0 : 0 < str) {cur : Array Value} {L : List Value} {e : TypeId} {row : Nat → List Seg} (hg : w.heap[g]? = some (.cells cur e (0, 0))) (hn : n ≤ cap) (hc : cap ≤ 9223372036854775807) (hsz : cur.size = cap * str)
    (hL : cur.toList.take (n * str) = L) (hrows : ∀ j, j < n → F2 (rel φ) (flat (row j)) ((L.drop (j * str)).take str)) :
    BRel φ ⟨str, some n, row, e, true⟩ ⟨g, 0, str, cap⟩ w where
  str := rfl
  rows := fun i hi => by
    have hi' : i < n := by simpa [Blk.n] using hi
    refine ⟨_, hrows i hi', ?_, fun j x hx => ?_⟩
    · have h1 : i * str + str ≤ n * str := by rw [← Nat.succ_mul]; exact Nat.mul_le_mul_right _ hi'
      have h2 : n * str ≤ cap * str := Nat.mul_le_mul_right _ hn
      subst hL
      simp only [List.length_take, List.length_drop, Array.length_toList, hsz]
      rw [Nat.min_eq_left (a := n * str) (by omega)]
      omega
    · rw [List.getElem?_take] at hx
      split at hx
      · rw [List.getElem?_drop, ← hL, List.getElem?_take] at hx
        split at hx
        · unfold World.cell?
          simp only [hg]
          simpa [Nat.mul_comm] using hx
        · simp at hx
      · simp at hx
  own := fun _ => own_cells ⟨rfl, by simpa [Blk.n] using hn, hc, cur, hg, by simp [hsz, Nat.mul_comm]⟩ (.inr (by show str ≠ 0; omega))

theorem HRel.renew {H : Heap} (h : HRel φ H w) {blks : List (Nat × Blk)} (hsub : ∀ j D, getB blks j = some D → getB H.blks j = some D) {B : Blk} {w' : World} (ho : w'.os = w.os) (ht : w'.tape = w.tape) (hu : w'.output = w.output) (hsz : w.heap.size ≤ w'.heap.size)
    {p : Place} (hnew : BRel (φ.ins H.next p) B p w') (hp : p.blk < w'.heap.size)
    {og : Option Nat} (hog : ∀ g, og = some g → ∃ j C q, getB H.blks j = some C ∧ C.wr = true ∧ φ j = some q ∧ q.blk = g ∧ getB blks j = none)
    (hown' : w.heap.size ≤ p.blk ∨ og = some p.blk)
    (hother' : ∀ b, b < w.heap.size → some b ≠ og → w'.heap[b]? = w.heap[b]?) :
    HRel (φ.ins H.next p) ⟨H.next + 1, (H.next, B) :: blks⟩ w' ∧ Fr φ H w (φ.ins H.next p) ⟨H.next + 1, (H.next, B) :: blks⟩ w' := by
  have hf : φ H.next = none := h.fresh _ (Nat.le_refl _)
  have hle := Emb.le_ins (p := p) hf
  have hold : ∀ j q, (φ.ins H.next p) j = some q → j ≠ H.next → φ j = some q := fun j q hq hj => by simpa [Emb.ins, hj] using hq
  have hnx : ∀ q, (φ.ins H.next p) H.next = some q → q = p := fun q hq => by rw [Emb.ins_self] at hq; cases hq; rfl
  have hown : w.heap.size ≤ p.blk ∨ ∃ j C q, getB H.blks j = some C ∧ C.wr = true ∧ φ j = some q ∧ q.blk = p.blk ∧ getB blks j = none := hown'.imp id fun e => hog _ e
  have hapart2 : ∀ j D q, getB blks j = some D → φ j = some q → some q.blk ≠ og := by
    intro j D q hj hq e
    obtain ⟨i, C, r, h1, h2, h3, h4, h5⟩ := hog _ e.symm
    have hij : i ≠ j := fun e => by subst e; rw [h5] at hj; cases hj
    exact h.inj i j C D r q h1 (hsub j D hj) h3 hq hij h2 h4
  have hapart : ∀ j D q, getB blks j = some D → φ j = some q → q.blk ≠ p.blk := by
    intro j D q hj hq e
    rcases hown with hw | ⟨i, C, r, h1, h2, h3, h4, h5⟩
    · have := h.lt j q hq; omega
    · have hij : i ≠ j := fun e => by subst e; rw [h5] at hj; cases hj
      exact h.inj i j C D r q h1 (hsub j D hj) h3 hq hij h2 (h4.trans e.symm)
  have hget : ∀ j D, getB ((H.next, B) :: blks) j = some D → j ≠ H.next → getB blks j = some D := fun j D hj hne => by rwa [getB_cons_ne hne] at hj
  have hself : ∀ D, getB ((H.next, B) :: blks) H.next = some D → D = B := fun D hD => by rw [getB_cons_self] at hD; cases hD; rfl
  have hcell : ∀ a : Addr, a.block < w.heap.size → some a.block ≠ og → w'.cell? a = w.cell? a := fun a h1 h2 => by unfold World.cell?; rw [hother' _ h1 h2]
  refine ⟨⟨fun j D q hj hq => ?_, fun j k D E q r hj hk hq hr hne hDw => ?_, fun j hj => ?_, fun j q hq => ?_⟩, ?_⟩
  · by_cases e : j = H.next
    · subst e
      rw [hself D hj, hnx q hq]
      exact hnew
    · have hj' := hget j D hj e
      have hq' := hold j q hq e
      have hb := h.blk j D q (hsub j D hj') hq'
      have hne := hapart2 j D q hj' hq'
      have hlt := h.lt j q hq'
      refine ⟨hb.str, fun i' hi' => ?_, fun hw' => ?_⟩
      · obtain ⟨xs, h1, h2, h3⟩ := hb.rows i' hi'
        exact ⟨xs, h1.mono fun _ _ => rel_mono hle, h2, fun j' x hx => by rw [hcell _ hlt hne]; exact h3 _ _ hx⟩
      · exact own_mono hle (own_keep (hother' _ hlt hne) (hb.own hw'))
  · by_cases e : j = H.next
    · subst e
      rw [hnx q hq]
      have hk' := hget k E hk (Ne.symm hne)
      exact (hapart k E r hk' (hold k r hr (Ne.symm hne))).symm
    · have hj' := hget j D hj e
      have hq' := hold j q hq e
      by_cases e2 : k = H.next
      · subst e2
        rw [hnx r hr]
        exact hapart j D q hj' hq'
      · exact h.inj j k D E q r (hsub j D hj') (hsub k E (hget k E hk e2)) hq' (hold k r hr e2) hne hDw
  · have : j ≠ H.next := by intro e; subst e; simp at hj; omega
    simp only [Emb.ins, if_neg this]
    exact h.fresh j (by simp at hj; omega)
  · by_cases e : j = H.next
    · subst e; rw [hnx q hq]; exact hp
    · exact Nat.lt_of_lt_of_le (h.lt j q (hold j q hq e)) hsz
  · refine ⟨hle, fun i hi => by simp [Emb.ins, Nat.ne_of_lt hi], Nat.le_succ _, hsz, ho, ht, hu, fun b hb hno => hother' b hb fun e => ?_, fun j D q hj hDw hq => ?_⟩
    · obtain ⟨i, C, r, h1, h2, h3, h4, _⟩ := hog b e.symm
      exact hno i C r h1 h2 h3 h4
    · by_cases e : j = H.next
      · subst e
        rw [hnx q hq]
        rcases hown with hw | ⟨i, C, r, h1, h2, h3, h4, _⟩
        · exact .inl hw
        · exact .inr ⟨i, C, r, h1, h2, h3, h4⟩
      · exact .inr ⟨j, D, q, hsub j D (hget j D hj e), hDw, hold j q hq e, rfl⟩

theorem HRel.grown {H : Heap} (h : HRel φ H w) {w' : World} (ho : w'.os = w.os) (ht : w'.tape = w.tape) (hu : w'.output = w.output) (hsz : w.heap.size ≤ w'.heap.size)
    (hold : ∀ b, b < w.heap.size → w'.heap[b]? = w.heap[b]?) {K : Heap} (hn : H.next ≤ K.next) (hK : ∀ j D, getB K.blks j = some D → φ j ≠ none → getB H.blks j = some D) : HRel φ K w' ∧ Fr φ H w φ K w' := by
  have hcell : ∀ a : Addr, a.block < w.heap.size → w'.cell? a = w.cell? a := fun a h1 => by unfold World.cell?; rw [hold _ h1]
  have hget : ∀ j D q, getB K.blks j = some D → φ j = some q → getB H.blks j = some D := fun j D q hj hq => hK j D hj (by rw [hq]; simp)
  refine ⟨⟨fun j D q hj hq => ?_, fun j k D E q r hj hk hq hr hne hDw => h.inj j k D E q r (hget _ _ _ hj hq) (hget _ _ _ hk hr) hq hr hne hDw, fun j hj => h.fresh j (Nat.le_trans hn hj), fun j q hq => Nat.lt_of_lt_of_le (h.lt j q hq) hsz⟩, ?_⟩
  · have hb := h.blk j D q (hget _ _ _ hj hq) hq
    have hlt := h.lt j q hq
    refine ⟨hb.str, fun i' hi' => ?_, fun hw' => ?_⟩
    · obtain ⟨xs, h1, h2, h3⟩ := hb.rows i' hi'
      exact ⟨xs, h1, h2, fun j' x hx => by rw [hcell _ hlt]; exact h3 _ _ hx⟩
    · exact own_keep (hold _ hlt) (hb.own hw')
  · exact ⟨φ.le_refl, fun _ _ => rfl, hn, hsz, ho, ht, hu, fun b hb _ => hold b hb, fun j D q hj hDw hq => .inr ⟨j, D, q, hget _ _ _ hj hq, hDw, hq, rfl⟩⟩

def TrnV (P : Program) (φ : Emb) (H : Heap) (m : Sem Value) (w : World) (v : AV) (H' : Heap) : Prop :=
  ∃ φ' x w', m.run P w = .ok x w' ∧ relA φ' v x ∧ HRel φ' H' w' ∧ Fr φ H w φ' H' w'

theorem append_core {H : Heap} (h : HRel φ H w) {t ty e : TypeId} {i : TypeInfo} {z : Value} {str bytes : Nat} (ht : P.underlying t = some (.slice e)) (hi : P.info? e = some i) (hz : i.zero = some z)
    (hsize : i.size = str) (hby : i.bytes = bytes) (hzs : z.cells.size = str) (hs0 : 0 < str) (hb0 : 0 < bytes)
    {xv : Value} {n : Nat} {xs : List Value} (hown : w.ownsRow 0 e str xv n xs) {a : Addr} {m c : Nat} {news : List Value} (hl : news.length = m * str) (hnews : ∀ j u, news[j]? = some u → w.cell? (a.add j) = some u) (h1 : ∀ u ∈ news, u.oneCell' = true)
    (hbytes : (n + m) * bytes ≤ 140737488355328) {blks : List (Nat × Blk)} (hsub : ∀ j D, getB blks j = some D → getB H.blks j = some D)
    (hold : ∀ g, xv.ownBlock = some g → ∃ j C q, getB H.blks j = some C ∧ C.wr = true ∧ φ j = some q ∧ q.blk = g ∧ getB blks j = none)
    {row : Nat → List Seg} (hrows : ∀ j, j < n + m → F2 (rel φ) (flat (row j)) (((xs ++ news).drop (j * str)).take str)) :
    TrnV P φ H (Builtin.append_ #[t, t] ty #[xv, .slice (some a) m c]) w (.c (.slice ⟨H.next, 0, 0, 0⟩ false (n + m))) ⟨H.next + 1, (H.next, ⟨str, some (n + m), row, e, true⟩) :: blks⟩ := by
  have hnm : n + m ≤ 140737488355328 := by
    have : (n + m) * 1 ≤ (n + m) * bytes := Nat.mul_le_mul_left _ hb0
    omega
  obtain ⟨v', w', hrun, hown', hg, hnil, hat⟩ := run_append_own_at (P := P) w 0 t ty e i z str bytes ht hi hz hsize hby hzs hs0 xv n xs hown a m c news hl hnews h1 (by simp [maxLen]; omega) hbytes (Nat.zero_le _)
  have hf : φ H.next = none := h.fresh _ (Nat.le_refl _)
  rcases hown'.2 with ⟨rfl, h0⟩ | ⟨g, cap, cur, rfl, _, hgg, hnc, hcm, hcs, htake⟩
  · -- nothing came, and nothing was there: nil
    have hx : xv = .slice none 0 0 := (hnil.1 rfl).1
    subst hx
    have hnb : ∀ b, b < w.heap.size → w'.heap[b]? = w.heap[b]? := fun b hb => hg.block b hb (by simp [Value.ownBlock])
    refine ⟨φ, _, w', hrun, ⟨none, 0, by rw [h0], by omega, .inl ⟨by omega, rfl, .inl rfl⟩⟩, ?_⟩
    exact h.grown hg.os hg.tape hg.output hg.size hnb (by simp) fun j D hj hn => by
      have : j ≠ H.next := fun e => hn (by rw [e]; exact hf)
      exact hsub j D (by rwa [getB_cons_ne this] at hj)
  · have hgl : g < w'.heap.size := (Array.getElem?_eq_some_iff.1 hgg).1
    refine ⟨φ.ins H.next ⟨g, 0, str, cap⟩, _, w', hrun, ⟨_, cap, rfl, hnc, .inr ⟨_, φ.ins_self _ _, by simp [Place.at], fun _ => ⟨rfl, rfl, by simp⟩⟩⟩, ?_⟩
    refine h.renew hsub hg.os hg.tape hg.output hg.size (brel_owned hs0 hgg hnc (by simpa [maxLen] using hcm) hcs htake fun j hj => (hrows j hj).mono fun _ _ => rel_mono (Emb.le_ins hf)) hgl (og := xv.ownBlock) hold ?_ fun b hb hne => hg.block b hb hne
    rcases hat with hat | hat
    · exact .inr (by rw [← hat]; rfl)
    · exact .inl (by simp [Value.ownBlock] at hat; simp [hat])

theorem add_mk (g o j : Nat) : (⟨g, o, none⟩ : Addr).add j = ⟨g, o + j, none⟩ := by unfold Addr.add; split <;> simp_all

theorem drop_take_left {α : Type} {xs news : List α} {n str j : Nat} (hl : xs.length = n * str) (hj : j < n) : ((xs ++ news).drop (j * str)).take str = (xs.drop (j * str)).take str := by
  have : j * str + str ≤ xs.length := by rw [hl, ← Nat.succ_mul]; exact Nat.mul_le_mul_right _ hj
  rw [List.drop_append_of_le_length (by omega), List.take_append_of_le_length (by simp; omega)]
theorem drop_take_right {α : Type} {xs news : List α} {n str j : Nat} (hl : xs.length = n * str) (hj : n ≤ j) : ((xs ++ news).drop (j * str)).take str = (news.drop ((j - n) * str)).take str := by
  have : n * str ≤ j * str := Nat.mul_le_mul_right _ hj
  rw [List.drop_append, List.drop_of_length_le (by omega), List.nil_append, hl, Nat.sub_mul]

theorem app_ok {H : Heap} (h : HRel φ H w) {t ty e : TypeId} {k b : Nat} {z : List Seg} (ht : P.underlying t = some (.slice e)) (hk : sizeT P e = some k) (hb : bytesT P e = some b) (hz : zeroOf P e = some z) (hk0 : k ≠ 0) (hb0 : b ≠ 0) (hzk : sizes z = k)
    {x y : AV} {xv yv : Value} (hx : relA φ x xv) (hy : relA φ y yv) {need : Option Prop} {v : AV} {H' : Heap} (ha : app H b e k x y = .t need v H') (hn : needP need) :
    TrnV P φ H (Builtin.append_ #[t, t] ty #[xv, yv]) w v H' := by
  obtain ⟨i, zv, hi, hzv, hF⟩ := zeroOf_rel φ hz
  have hk' : i.size = k := by unfold sizeT at hk; rw [hi] at hk; simpa using hk
  have hb' : i.bytes = b := by unfold bytesT at hb; rw [hi] at hb; simpa using hb
  have hzs : zv.cells.size = k := by rw [← hzk, ← flat_length, hF.length]; simp
  unfold app at ha
  split at ha
  · rename_i bb m
    split at ha
    · simp at ha
    · rename_i C hC
      split at ha
      · rename_i c hsz hst
        have hCstr := Nat.eq_of_beq_eq_true hst
        have hCn : C.n = c := by simp [Blk.n, hsz]
        obtain ⟨r, cap, rfl, hmc, hc⟩ := hy
        split at ha
        · -- onto nil
          simp only [Res.t.injEq] at ha
          obtain ⟨rfl, rfl, rfl⟩ := ha
          obtain ⟨hn1, hn2⟩ := hn
          have hxv : xv = .slice none 0 0 := hx
          subst hxv
          rcases hc with ⟨rfl, rfl, hr⟩ | ⟨p, hp, rfl, hpl⟩
          · -- of nothing
            refine ⟨φ, .slice none 0 0, w, ?_, ⟨none, 0, rfl, Nat.le_refl _, .inl ⟨rfl, rfl, .inl rfl⟩⟩, ?_⟩
            · cases r <;> simp [Builtin.append_, run_underlying' ht, run_sizeOf hk, Builtin.lenOf, Builtin.firstCells, Sem.run_bind, Result.andThen_ok, Sem.run_pure, loadCells, loadCellsFrom]
            · exact h.grown rfl rfl rfl (Nat.le_refl _) (fun _ _ => rfl) (by simp) fun j D hj hne => by
                have : j ≠ H.next := fun e => hne (by rw [e]; exact h.fresh _ (Nat.le_refl _))
                rwa [getB_cons_ne this] at hj
          · have hCb := h.blk _ _ _ hC hp
            obtain ⟨news, g1, g2, g3⟩ := rows_cells hCb bb.idx m (by omega)
            rw [hCstr] at g1 g3
            have := append_core (P := P) (ty := ty) h ht hi hzv hk' hb' hzs (by omega) (by omega) (World.ownsRow_nil w 0 e k) (a := p.at bb) (m := m) (c := cap) g1
              (fun j u hu => by obtain ⟨o1, o2, _⟩ := hpl rfl; have := g2 j u hu; simpa [Place.at, add_mk, o1, o2] using this) (F2_oneAll (by rw [hCstr]; exact g1) (by rw [hCstr]; exact g3)) (by simpa using hn2) (blks := H.blks) (fun _ _ h => h)
              (fun g hg => by simp [Value.ownBlock] at hg) (row := fun j => C.row (addN bb.idx j)) (fun j hj => by rw [addN_eq]; simpa using g3 j (by omega))
            simpa using this
        · rename_i aa n
          split at ha
          · simp at ha
          · rename_i B hB
            split at ha
            · rename_i kk hwr hBsz hz0 hne hBstr hBel
              simp only [Res.t.injEq] at ha
              obtain ⟨rfl, rfl, rfl⟩ := ha
              obtain ⟨hnk, hn1, hn2⟩ := hn
              have hidx := Nat.eq_of_beq_eq_true hz0
              have hBs := Nat.eq_of_beq_eq_true hBstr
              have hBe := Nat.eq_of_beq_eq_true hBel
              have hBn : B.n = n := by simp [Blk.n, hBsz, hnk]
              obtain ⟨r1, cap1, rfl, hnc1, hc1⟩ := hx
              have hsub : ∀ j D, getB (delB H.blks aa.id) j = some D → getB H.blks j = some D := fun j D hj => by
                have : j ≠ aa.id := fun e => by subst e; rw [getB_delB_self] at hj; cases hj
                rwa [getB_delB_ne this] at hj
              -- what was there
              have hxs : ∃ xs, w.ownsRow 0 e k (.slice r1 n cap1) n xs ∧ (∀ j, j < n → F2 (rel φ) (flat (B.row j)) ((xs.drop (j * k)).take k)) ∧
                  (∀ g, (Value.slice r1 n cap1).ownBlock = some g → ∃ j D q, getB H.blks j = some D ∧ D.wr = true ∧ φ j = some q ∧ q.blk = g ∧ getB (delB H.blks aa.id) j = none) := by
                rcases hc1 with ⟨rfl, rfl, hr⟩ | ⟨p, hp, rfl, hpl⟩
                · have : r1 = none := by rcases hr with h | h | h <;> first | exact h | exact absurd hidx h | cases h
                  subst this
                  exact ⟨[], World.ownsRow_nil w 0 e k, fun j hj => by omega, fun g hg => by simp [Value.ownBlock] at hg⟩
                · have hBb := h.blk _ _ _ hB hp
                  obtain ⟨o1, o2, o3⟩ := hpl rfl
                  obtain ⟨q1, q2, q5, cs, q3, q4⟩ := hBb.cells hwr (.inr (by omega))
                  obtain ⟨old, f1, f2, f3⟩ := rows_cells hBb 0 n (by omega)
                  have hps := hBb.str
                  have hat : p.at aa = ⟨p.blk, 0, none⟩ := by simp [Place.at, hidx, o1, o2, q1]
                  have hcap : cap1 = p.cap := by omega
                  have hcsz : cs.size = p.cap * k := by rw [q4, hps, hBs, Nat.mul_comm]
                  have hnk' : n * k ≤ p.cap * k := Nat.mul_le_mul_right _ (by omega)
                  have hold : cs.toList.take (n * k) = old := by
                    refine List.ext_getElem? fun j => ?_
                    rw [List.getElem?_take]
                    split
                    · rename_i hj
                      have hjl : j < old.length := by rw [f1, hBs]; exact hj
                      have := f2 j old[j] (List.getElem?_eq_getElem hjl)
                      unfold World.cell? at this
                      simp only [q3, q1, Nat.mul_zero, Nat.zero_add, Option.isSome_none, Bool.false_eq_true, if_false] at this
                      rw [List.getElem?_eq_getElem hjl]
                      simpa using this
                    · rename_i hj
                      rw [List.getElem?_eq_none (by rw [f1, hBs]; omega)]
                  refine ⟨old, ⟨by rw [f1, hBs], .inr ⟨p.blk, cap1, cs, by rw [hat], Nat.zero_le _, by rw [q3, hBe], by omega, by simp [maxLen]; omega, by rw [hcsz, hcap], hold⟩⟩, fun j hj => ?_, fun g hg => ?_⟩
                  · have := f3 j hj
                    rwa [hBs, Nat.zero_add] at this
                  · refine ⟨aa.id, B, p, hB, hwr, hp, ?_, getB_delB_self _ _⟩
                    simpa [Value.ownBlock, hat] using hg
              obtain ⟨xs, w1, w2, w3⟩ := hxs
              have hxl : xs.length = n * k := w1.1
              rcases hc with ⟨rfl, rfl, hr⟩ | ⟨p, hp, rfl, hpl⟩
              · -- of nothing
                have hrun : (Builtin.append_ #[t, t] ty #[.slice r1 n cap1, .slice r 0 0]).run P w = .ok (.slice r1 n cap1) w := by
                  cases r <;> cases r1 <;> simp [Builtin.append_, run_underlying' ht, run_sizeOf hk, Builtin.lenOf, Builtin.firstCells, Sem.run_bind, Result.andThen_ok, Sem.run_pure, loadCells, loadCellsFrom, hnc1, storeCells]
                have hf : φ H.next = none := h.fresh _ (Nat.le_refl _)
                rcases hc1 with ⟨rfl, rfl, hr1⟩ | ⟨p, hp, rfl, hpl⟩
                · have : r1 = none := by rcases hr1 with h | h | h <;> first | exact h | exact absurd hidx h | cases h
                  subst this
                  refine ⟨φ, _, w, hrun, ⟨none, 0, rfl, Nat.le_refl _, .inl ⟨rfl, rfl, .inl rfl⟩⟩, ?_⟩
                  exact h.grown rfl rfl rfl (Nat.le_refl _) (fun _ _ => rfl) (by simp) fun j D hj hne => by
                    have : j ≠ H.next := fun e => hne (by rw [e]; exact hf)
                    exact hsub j D (by rwa [getB_cons_ne this] at hj)
                · have hBb := h.blk _ _ _ hB hp
                  obtain ⟨o1, o2, o3⟩ := hpl rfl
                  obtain ⟨q1, q2, q5, cs, q3, q4⟩ := hBb.cells hwr (.inr (by omega))
                  refine ⟨φ.ins H.next p, _, w, hrun, ⟨_, cap1, rfl, hnc1, .inr ⟨p, φ.ins_self _ _, by simp [Place.at, hidx, o1, o2], fun _ => ⟨rfl, rfl, by simp; omega⟩⟩⟩, ?_⟩
                  refine h.renew hsub rfl rfl rfl (Nat.le_refl _) ⟨by rw [hBb.str, hBs], fun j hj => ?_, fun _ => own_cells ⟨q1, by simp [Blk.n]; omega, q5, cs, by rw [q3, hBe], q4⟩ (.inr (by show k ≠ 0; omega))⟩ (h.lt _ _ hp) (og := some p.blk) (fun g hg => by cases hg; exact ⟨aa.id, B, p, hB, hwr, hp, rfl, getB_delB_self _ _⟩) (.inr rfl) fun _ _ _ => rfl
                  have hj' : j < n := by simpa [Blk.n] using hj
                  obtain ⟨xs', f1, f2, f3⟩ := hBb.rows j (by omega)
                  refine ⟨xs', ?_, by rw [f2, hBs], f3⟩
                  show F2 _ (flat (rowsApp B n C bb.idx j)) _
                  unfold rowsApp
                  rw [if_pos hj']
                  exact f1.mono fun _ _ => rel_mono (Emb.le_ins hf)
              · have hCb := h.blk _ _ _ hC hp
                obtain ⟨news, g1, g2, g3⟩ := rows_cells hCb bb.idx m (by omega)
                rw [hCstr] at g1 g3
                exact append_core (P := P) (ty := ty) h ht hi hzv hk' hb' hzs (by omega) (by omega) w1 (a := p.at bb) (m := m) (c := cap) g1
                  (fun j u hu => by obtain ⟨o1, o2, _⟩ := hpl rfl; have := g2 j u hu; simpa [Place.at, add_mk, o1, o2] using this) (F2_oneAll (by rw [hCstr]; exact g1) (by rw [hCstr]; exact g3)) hn2 hsub w3 (fun j hj => by
                    unfold rowsApp
                    by_cases hjn : j < n
                    · rw [if_pos hjn, drop_take_left hxl hjn]
                      exact w2 j hjn
                    · rw [if_neg hjn, drop_take_right hxl (by omega), addN_eq]
                      exact g3 (j - n) (by omega))
            · simp at ha
        · simp at ha
      · simp at ha
  · repeat' (split at ha)
    all_goals simp at ha
  · simp at ha


theorem tob_ok {H : Heap} (h : HRel φ H w) {src dst e : TypeId} (hs : P.underlying src = some .string) (hd : P.underlying dst = some (.slice e)) (he : P.underlying e = some (.int .u8))
    {x : AV} {xv : Value} (hx : relA φ x xv) {need : Option Prop} {v : AV} {H' : Heap} (ht : tob H e x = .t need v H') : TrnV P φ H (convert src dst xv) w v H' := by
  unfold tob at ht
  split at ht
  · rename_i b
    simp only [Res.t.injEq] at ht
    obtain ⟨rfl, rfl, rfl⟩ := ht
    have hxv : xv = .string b := hx
    subst hxv
    have hge := grownCap_ge w b.size 0 e
    have hnew := Lib.bytesWorld_at_new w e b
    have hcsz : (Lib.bytesCells w e b).size = grownCap w b.size 0 e := by
      have : b.data.size = b.size := rfl
      simp [Lib.bytesCells, this]
      omega
    refine ⟨φ.ins H.next ⟨w.heap.size, 0, 1, grownCap w b.size 0 e⟩, _, _, Lib.run_convert_string_bytes w src dst e b hs hd he, ⟨_, _, rfl, hge, .inr ⟨_, φ.ins_self _ _, rfl, fun _ => ⟨rfl, rfl, by simp⟩⟩⟩, ?_⟩
    refine h.renew (blks := H.blks) (fun _ _ h => h) (w' := Lib.bytesWorld w e b) rfl rfl rfl (by rw [Lib.bytesWorld_size]; omega) ?_ (by rw [Lib.bytesWorld_size]; exact Nat.lt_succ_self _) (og := none) (fun g hg => by cases hg) (.inl (Nat.le_refl _)) fun j hj _ => Lib.bytesWorld_at_old w e b j hj
    refine ⟨rfl, fun i hi => ?_, fun hw => by cases hw⟩
    have hi' : i < b.size := hi
    refine ⟨[.int .u8 (byteAt b i)], .cons rfl .nil, rfl, fun j x hx => ?_⟩
    cases j with
    | succ j => simp at hx
    | zero =>
      simp only [List.getElem?_cons_zero, Option.some.injEq] at hx
      subst hx
      have := Lib.bytesWorld_cell w e b i hi'
      have e1 : byteAt b i = ((b.data.toList.getD i 0).toNat : Int) := by
        have hlt : i < b.data.size := hi'
        have e2 : b[i]? = some (b.data[i]'hlt) := by
          rw [getElem?_pos b i hi']
          rfl
        unfold byteAt
        rw [e2]
        simp only [List.getD, Array.getElem?_toList, Array.getElem?_eq_getElem hlt, Option.getD_some]
      rw [e1]
      simpa using this
  · cases ht

theorem setB_self : ∀ {l : List (Nat × Blk)} {i : Nat} {B : Blk}, getB l i = some B → setB l i B = l
  | [], _, _, h => by simp [getB] at h
  | (k, C) :: r, i, B, h => by
    simp only [getB] at h
    simp only [setB]
    cases hk : Nat.beq k i with
    | true =>
      simp only [hk, Option.some.injEq] at h
      subst h
      rfl
    | false =>
      simp only [hk] at h
      simp only [setB_self h]

theorem run_copy_any {t u ty e : TypeId} {k n m c c' : Nat} (ht : P.underlying t = some (.slice e)) (hk : sizeT P e = some k) {d a : Addr} {news : List Value} (hl : news.length = Nat.min m n * k)
    (hsrc : ∀ j v, news[j]? = some v → w.cell? (a.add j) = some v) {w' : World} (hst : (storeCells d news).run P w = .ok () w') :
    (Builtin.copy_ #[t, u] ty #[.slice (some d) n c, .slice (some a) m c']).run P w = .ok (.int .i64 ((Nat.min m n : Nat) : Int)) w' := by
  have hl' := run_loadCells_list (P := P) w a news hsrc
  rw [hl] at hl'
  simp [Builtin.copy_, run_underlying' ht, run_sizeOf hk, Builtin.lenOf, Builtin.firstCells, Sem.run_bind, Result.andThen_ok, Sem.run_pure, hl', hst, goInt]

theorem run_copy_zero {t u ty e : TypeId} {k n m c c' : Nat} (ht : P.underlying t = some (.slice e)) (hk : sizeT P e = some k) {d a : Option Addr} (h0 : Nat.min m n = 0) :
    (Builtin.copy_ #[t, u] ty #[.slice d n c, .slice a m c']).run P w = .ok (.int .i64 0) w := by
  have hl : ∀ (x : Addr), (loadCells x 0).run P w = .ok #[] w := fun x => by simpa using run_loadCells_list (P := P) w x [] (by simp)
  cases d <;> cases a <;> simp [Builtin.copy_, run_underlying' ht, run_sizeOf hk, Builtin.lenOf, Builtin.firstCells, Sem.run_bind, Result.andThen_ok, Sem.run_pure, h0, hl, storeCells, goInt]

theorem cpy_ok {H : Heap} (h : HRel φ H w) {t u ty e : TypeId} {k : Nat} (ht : P.underlying t = some (.slice e)) (hk : sizeT P e = some k)
    {x y : AV} {xv yv : Value} (hx : relA φ x xv) (hy : relA φ y yv) {need : Option Prop} {v : AV} {H' : Heap} (hc : cpy H k x y = .t need v H') (hn : needP need) :
    TrnV P φ H (Builtin.copy_ #[t, u] ty #[xv, yv]) w v H' := by
  unfold cpy at hc
  split at hc
  · rename_i a n b m
    split at hc
    · rename_i B C hB hC
      split at hc
      · rename_i p q hw hsz hsz' hst hst'
        have hBstr := Nat.eq_of_beq_eq_true hst
        have hCstr := Nat.eq_of_beq_eq_true hst'
        have hBn : B.n = p := by simp [Blk.n, hsz]
        have hCn : C.n = q := by simp [Blk.n, hsz']
        simp only [Res.t.injEq] at hc
        obtain ⟨rfl, rfl, rfl⟩ := hc
        obtain ⟨hn1, hn2⟩ := hn
        obtain ⟨r, cap, rfl, hnc, hcx⟩ := hx
        obtain ⟨r', cap', rfl, hmc, hcy⟩ := hy
        have zero : Nat.min m n = 0 → TrnV P φ H (Builtin.copy_ #[t, u] ty #[.slice r n cap, .slice r' m cap']) w (.c (.int .i64 ((min m n : Nat) : Int))) ⟨H.next, setB H.blks a.id ⟨B.str, some p, rowsCpy B a.idx C b.idx (min m n), B.elem, true⟩⟩ := by
          intro h0
          have h0' : min m n = 0 := h0
          have hrow : rowsCpy B a.idx C b.idx 0 = B.row := by
            funext z
            unfold rowsCpy
            rw [if_neg (by rw [addN_eq]; omega)]
          have hBB : (⟨B.str, some p, B.row, B.elem, true⟩ : Blk) = B := by
            cases B
            simp only at hsz hw
            subst hsz; subst hw
            rfl
          rw [h0', hrow, hBB, setB_self hB]
          exact ⟨φ, _, w, run_copy_zero ht hk h0, rfl, h, Fr.refl _ _ _⟩
        rcases hcx with ⟨rfl, _, _⟩ | ⟨px, hpx, rfl, hplx⟩
        · exact zero (Nat.min_eq_right (Nat.zero_le _))
        rcases hcy with ⟨rfl, _, _⟩ | ⟨py, hpy, rfl, hply⟩
        · exact zero (Nat.min_eq_left (Nat.zero_le _))
        obtain ⟨ox, sx, _⟩ := hplx rfl
        obtain ⟨oy, sy, _⟩ := hply rfl
        have hCb := h.blk _ _ _ hC hpy
        have hb := h.blk _ _ _ hB hpx
        have hstr := hb.str
        rcases Nat.eq_zero_or_pos (min m n) with h0 | hpos
        · exact zero h0
        obtain ⟨e1, e2, e5, cs, e3, e4⟩ := hb.cells hw (.inl (by omega))
        obtain ⟨news, g1, g2, g3⟩ := rows_cells hCb b.idx (min m n) (by omega)
        have hone := F2_oneAll g1 g3
        rw [hCstr] at g1 g3
        have hmn : Nat.min m n = min m n := rfl
        have hfit : px.str * a.idx + news.length ≤ cs.size := by
          rw [e4, g1, hstr, hBstr, Nat.mul_comm (min m n) k, ← Nat.mul_add]
          exact Nat.mul_le_mul_left _ (by omega)
        have hst := run_storeCells_at P px.blk (px.base + px.str * a.idx) B.elem news 0 cs w e3 (by omega) hone
        have hat : px.at a = ⟨px.blk, px.base + px.str * a.idx, none⟩ := by simp [Place.at, ox, sx]
        have hat' : py.at b = ⟨py.blk, py.base + py.str * b.idx, none⟩ := by simp [Place.at, oy, sy]
        have hrun := run_copy_any (P := P) (u := u) (ty := ty) (n := n) (m := m) (c := cap) (c' := cap') (d := px.at a) (a := py.at b) ht hk (by rw [g1, hmn]) (fun j v hv => by rw [hat', add_mk]; exact g2 j v hv) (by rw [hat]; exact hst)
        simp only [Nat.add_zero, e1, Nat.zero_add] at hrun
        let cs' : Array Value := (cs.toList.take (px.str * a.idx) ++ news ++ cs.toList.drop (px.str * a.idx + news.length)).toArray
        have hcs' : ∀ z, cs'[z]? = if z < px.str * a.idx then cs[z]? else if z < px.str * a.idx + news.length then news[z - px.str * a.idx]? else cs[z]? := fun z => by
          have := splice_get cs.toList news (px.str * a.idx) z (by simp; omega)
          simpa [cs'] using this
        have hcsz : cs'.size = cs.size := by simp [cs']; omega
        have hheap : (w.setRow px.blk cs').heap[px.blk]? = some (.cells cs' B.elem (0, 0)) := setRow_heap w px.blk cs cs' B.elem (0, 0) e3
        have hcell : ∀ z, (w.setRow px.blk cs').cell? ⟨px.blk, z, none⟩ = cs'[z]? := fun z => by unfold World.cell?; rw [hheap]; simp
        have hcell0 : ∀ z, w.cell? ⟨px.blk, z, none⟩ = cs[z]? := fun z => by unfold World.cell?; rw [e3]; simp
        refine ⟨φ, _, _, hrun, rfl, ?_⟩
        refine h.update hB hw hpx rfl (setRow_size _ _ _) rfl rfl rfl (fun b' hne => setRow_other _ _ _ _ hne) ⟨hstr, fun j hj => ?_, fun _ => own_cells ⟨e1, by rw [← hBn] at *; exact e2, e5, cs', hheap, by rw [hcsz, e4]⟩ (.inl (by show 0 < p; omega))⟩
        have hj' : j < p := hj
        show ∃ xs, F2 (rel φ) (flat (rowsCpy B a.idx C b.idx (min m n) j)) xs ∧ xs.length = B.str ∧ _
        unfold rowsCpy
        rw [addN_eq]
        have hkpos : ∀ d : Nat, k * (a.idx + d) = k * a.idx + k * d := fun d => Nat.mul_add _ _ _
        by_cases hin : a.idx ≤ j ∧ j < a.idx + min m n
        · rw [if_pos hin, addN_eq]
          obtain ⟨d, rfl⟩ : ∃ d, j = a.idx + d := ⟨j - a.idx, by omega⟩
          have hd : d < min m n := by omega
          rw [Nat.add_sub_cancel_left]
          have hle : d * k + k ≤ news.length := by rw [g1, ← Nat.succ_mul]; exact Nat.mul_le_mul_right _ hd
          refine ⟨_, g3 d hd, by rw [hBstr]; simp; omega, fun j' z hz => ?_⟩
          have hjk : j' < k := by
            rw [List.getElem?_take] at hz
            split at hz
            · assumption
            · cases hz
          rw [List.getElem?_take_of_lt hjk, List.getElem?_drop] at hz
          rw [e1, Nat.zero_add, hcell, hcs', hstr, hBstr, hkpos, Nat.mul_comm k d]
          rw [if_neg (by omega), if_pos (by omega)]
          rw [← hz]
          congr 1
          omega
        · rw [if_neg hin]
          obtain ⟨xs, h1, h2, h3⟩ := hb.rows j (by omega)
          refine ⟨xs, h1, h2, fun j' z hz => ?_⟩
          have hjk : j' < k := by rw [← hBstr, ← h2]; exact (List.getElem?_eq_some_iff.1 hz).1
          have h4 := h3 j' z hz
          rw [e1, Nat.zero_add, hcell0] at h4
          rw [e1, Nat.zero_add, hcell, hcs']
          rw [hstr, hBstr] at h4 ⊢
          rcases Nat.lt_or_ge j a.idx with hlt | hge
          · have : k * j + k ≤ k * a.idx := by rw [← Nat.mul_succ]; exact Nat.mul_le_mul_left _ hlt
            rw [if_pos (by omega)]
            exact h4
          · have hge' : a.idx + min m n ≤ j := by omega
            have : k * (a.idx + min m n) ≤ k * j := Nat.mul_le_mul_left _ hge'
            rw [Nat.mul_add] at this
            rw [Nat.mul_comm (min m n) k] at g1
            rw [if_neg (by omega), if_neg (by omega)]
            exact h4
      · simp at hc
    · simp at hc
  · simp at hc


theorem run_clear_any {t ty e : TypeId} {i : TypeInfo} {zv : Value} {n c : Nat} (ht : P.underlying t = some (.slice e)) (hi : P.info? e = some i) (hz : i.zero = some zv) {d : Addr} {w' : World}
    (hst : (storeCells d (Builtin.zeroCells zv.cells (n + 1)).toList).run P w = .ok () w') : (Builtin.clear_ #[t] ty #[.slice (some d) (n + 1) c]).run P w = .ok (.tuple #[]) w' := by
  simp [Builtin.clear_, run_underlying' ht, run_zeroValue hi hz, Sem.run_bind, Result.andThen_ok, Sem.run_pure, hst]
theorem run_clear_zero {t ty e : TypeId} {c : Nat} (ht : P.underlying t = some (.slice e)) {d : Option Addr} : (Builtin.clear_ #[t] ty #[.slice d 0 c]).run P w = .ok (.tuple #[]) w := by
  cases d <;> simp [Builtin.clear_, run_underlying' ht, Sem.run_bind, Result.andThen_ok, Sem.run_pure]

theorem clr_ok {H : Heap} (h : HRel φ H w) {t ty e : TypeId} {k : Nat} {z : List Seg} (ht : P.underlying t = some (.slice e)) (hz : zeroOf P e = some z) (hk0 : k ≠ 0) (hzk : sizes z = k)
    {x : AV} {xv : Value} (hx : relA φ x xv) {need : Option Prop} {v : AV} {H' : Heap} (hc : clr H k z x = .t need v H') (hn : needP need) :
    TrnV P φ H (Builtin.clear_ #[t] ty #[xv]) w v H' := by
  obtain ⟨i, zv, hi, hzv, hF⟩ := zeroOf_rel φ hz
  have hzs : zv.cells.size = k := by rw [← hzk, ← flat_length, hF.length]; simp
  unfold clr at hc
  split at hc
  · rename_i a n
    split at hc
    · rename_i B hB
      split at hc
      · rename_i p hw hsz hst
        have hBstr := Nat.eq_of_beq_eq_true hst
        have hBn : B.n = p := by simp [Blk.n, hsz]
        simp only [Res.t.injEq] at hc
        obtain ⟨rfl, rfl, rfl⟩ := hc
        have hn1 : a.idx + n ≤ p := hn
        obtain ⟨r, cap, rfl, hnc, hcx⟩ := hx
        cases n with
        | zero =>
          have hrow : rowsClr B a.idx 0 z = B.row := by
            funext y
            unfold rowsClr
            rw [if_neg (by rw [addN_eq]; omega)]
          have hBB : (⟨B.str, some p, B.row, B.elem, true⟩ : Blk) = B := by
            cases B
            simp only at hsz hw
            subst hsz; subst hw
            rfl
          rw [hrow, hBB, setB_self hB]
          exact ⟨φ, _, w, run_clear_zero ht, ⟨#[], rfl, .nil⟩, h, Fr.refl _ _ _⟩
        | succ n =>
        rcases hcx with ⟨h0, _⟩ | ⟨px, hpx, rfl, hplx⟩
        · cases h0
        obtain ⟨ox, sx, _⟩ := hplx rfl
        have hb := h.blk _ _ _ hB hpx
        have hstr := hb.str
        obtain ⟨e1, e2, e5, cs, e3, e4⟩ := hb.cells hw (.inl (by omega))
        obtain ⟨news, hnews⟩ : ∃ news, (Builtin.zeroCells zv.cells (n + 1)).toList = news := ⟨_, rfl⟩
        have g1 : news.length = (n + 1) * k := by rw [← hnews]; simp [Builtin.zeroCells, hzs]
        have hget : ∀ d, d < n + 1 → ∀ j y, zv.cells.toList[j]? = some y → news[k * d + j]? = some y := fun d hd j y hy => by
          have := repl_row hF hzk (cells := Builtin.zeroCells zv.cells (n + 1)) (m := n + 1) (by simp [Builtin.zeroCells, hzs]) hd j y hy
          rw [← hnews]; simpa using this
        have hrowz : ∀ d, d < n + 1 → (news.drop (d * k)).take k = zv.cells.toList := fun d hd => by
          have hle : d * k + k ≤ news.length := by rw [g1, ← Nat.succ_mul]; exact Nat.mul_le_mul_right _ hd
          refine List.ext_getElem? fun j => ?_
          rcases Nat.lt_or_ge j k with hj | hj
          · rw [List.getElem?_take_of_lt hj, List.getElem?_drop]
            have hjz : j < zv.cells.toList.length := by simp [hzs, hj]
            rw [List.getElem?_eq_getElem hjz, Nat.mul_comm d k]
            exact hget d hd j _ (List.getElem?_eq_getElem hjz)
          · rw [List.getElem?_eq_none (by simp; omega), List.getElem?_eq_none (by simp [hzs, hj])]
        have hone : ∀ u ∈ news, u.oneCell' = true := by
          refine F2_oneAll (φ := φ) (B := ⟨k, some (n + 1), fun _ => z, e, true⟩) (i := 0) (m := n + 1) g1 (fun d hd => ?_)
          show F2 _ (flat z) ((news.drop (d * k)).take k)
          rw [hrowz d hd]
          exact hF
        have hfit : px.str * a.idx + news.length ≤ cs.size := by
          rw [e4, g1, hstr, hBstr, Nat.mul_comm (n + 1) k, ← Nat.mul_add]
          exact Nat.mul_le_mul_left _ (by omega)
        have hst := run_storeCells_at P px.blk (px.base + px.str * a.idx) B.elem news 0 cs w e3 (by omega) hone
        have hat : px.at a = ⟨px.blk, px.base + px.str * a.idx, none⟩ := by simp [Place.at, ox, sx]
        have hrun := run_clear_any (P := P) (ty := ty) (n := n) (c := cap) (d := px.at a) ht hi hzv (w := w) (by rw [hnews, hat]; exact hst)
        simp only [Nat.add_zero, e1, Nat.zero_add] at hrun
        let cs' : Array Value := (cs.toList.take (px.str * a.idx) ++ news ++ cs.toList.drop (px.str * a.idx + news.length)).toArray
        have hcs' : ∀ z, cs'[z]? = if z < px.str * a.idx then cs[z]? else if z < px.str * a.idx + news.length then news[z - px.str * a.idx]? else cs[z]? := fun z => by
          have := splice_get cs.toList news (px.str * a.idx) z (by simp; omega)
          simpa [cs'] using this
        have hcsz : cs'.size = cs.size := by simp [cs']; omega
        have hheap : (w.setRow px.blk cs').heap[px.blk]? = some (.cells cs' B.elem (0, 0)) := setRow_heap w px.blk cs cs' B.elem (0, 0) e3
        have hcell : ∀ z, (w.setRow px.blk cs').cell? ⟨px.blk, z, none⟩ = cs'[z]? := fun z => by unfold World.cell?; rw [hheap]; simp
        have hcell0 : ∀ z, w.cell? ⟨px.blk, z, none⟩ = cs[z]? := fun z => by unfold World.cell?; rw [e3]; simp
        refine ⟨φ, _, _, hrun, ⟨#[], rfl, .nil⟩, ?_⟩
        refine h.update hB hw hpx rfl (setRow_size _ _ _) rfl rfl rfl (fun b' hne => setRow_other _ _ _ _ hne) ⟨hstr, fun j hj => ?_, fun _ => own_cells ⟨e1, by rw [← hBn] at *; exact e2, e5, cs', hheap, by rw [hcsz, e4]⟩ (.inl (by show 0 < p; omega))⟩
        have hj' : j < p := hj
        show ∃ xs, F2 (rel φ) (flat (rowsClr B a.idx (n + 1) z j)) xs ∧ xs.length = B.str ∧ _
        unfold rowsClr
        rw [addN_eq]
        have hkpos : ∀ d : Nat, k * (a.idx + d) = k * a.idx + k * d := fun d => Nat.mul_add _ _ _
        by_cases hin : a.idx ≤ j ∧ j < a.idx + (n + 1)
        · rw [if_pos hin]
          obtain ⟨d, rfl⟩ : ∃ d, j = a.idx + d := ⟨j - a.idx, by omega⟩
          have hd : d < n + 1 := by omega
          refine ⟨_, hF, by rw [hBstr]; simp [hzs], fun j' y hy => ?_⟩
          have hjk : j' < k := by rw [← hzs]; simpa using (List.getElem?_eq_some_iff.1 hy).1
          have hle : k * d + k ≤ news.length := by rw [g1, Nat.mul_comm (n + 1) k, ← Nat.mul_succ]; exact Nat.mul_le_mul_left _ hd
          rw [e1, Nat.zero_add, hcell, hcs', hstr, hBstr, hkpos]
          rw [if_neg (by omega), if_pos (by omega)]
          rw [← hget d hd j' y hy]
          congr 1
          omega
        · rw [if_neg hin]
          obtain ⟨xs, h1, h2, h3⟩ := hb.rows j (by omega)
          refine ⟨xs, h1, h2, fun j' y hy => ?_⟩
          have hjk : j' < k := by rw [← hBstr, ← h2]; exact (List.getElem?_eq_some_iff.1 hy).1
          have h4 := h3 j' y hy
          rw [e1, Nat.zero_add, hcell0] at h4
          rw [e1, Nat.zero_add, hcell, hcs']
          rw [hstr, hBstr] at h4 ⊢
          rcases Nat.lt_or_ge j a.idx with hlt | hge
          · have : k * j + k ≤ k * a.idx := by rw [← Nat.mul_succ]; exact Nat.mul_le_mul_left _ hlt
            rw [if_pos (by omega)]
            exact h4
          · have hge' : a.idx + (n + 1) ≤ j := by omega
            have : k * (a.idx + (n + 1)) ≤ k * j := Nat.mul_le_mul_left _ hge'
            rw [Nat.mul_add] at this
            rw [Nat.mul_comm (n + 1) k] at g1
            rw [if_neg (by omega), if_neg (by omega)]
            exact h4
      · simp at hc
    · simp at hc
  · simp at hc

end Go.AM

namespace Go.AM
set_option linter.unusedVariables false
set_option linter.unusedSimpArgs false
variable {P : Program} {φ : Emb} {w : World}

theorem findI_le (p : Nat → Bool) : ∀ n, findI p n ≤ n
  | 0 => Nat.le_refl _
  | n + 1 => by
    have := findI_le p n
    simp only [findI]
    split
    · omega
    · split <;> omega
theorem findI_lt {p : Nat → Bool} : ∀ {n : Nat}, findI p n < n → p (findI p n) = true
  | 0, h => by simp [findI] at h
  | n + 1, h => by
    simp only [findI] at h ⊢
    split
    · rename_i h1; exact findI_lt h1
    · rename_i h1
      rw [if_neg h1] at h
      split
      · assumption
      · rename_i h2; rw [if_neg h2] at h; omega
theorem findI_no {p : Nat → Bool} : ∀ {n i : Nat}, i < findI p n → p i = false
  | 0, i, h => by simp [findI] at h
  | n + 1, i, h => by
    have hle := findI_le p n
    simp only [findI] at h
    split at h
    · exact findI_no (n := n) h
    · rename_i h1
      have he : findI p n = n := by omega
      split at h
      · exact findI_no (n := n) (by omega)
      · rename_i h2
        rcases Nat.lt_or_ge i n with hi | hi
        · exact findI_no (n := n) (by omega)
        · have : i = n := by omega
          subst this
          simpa using h2
theorem kin_eq {b : Bool} {a c : CV} (hk : kin b a c) (he : eqCb a c = true) : a = c := by
  cases b <;> cases a <;> cases c <;> simp only [kin] at hk
  · simp only [eqCb, beq_iff_eq] at he; rw [he]
  · simp only [eqCb, beq_iff_eq] at he; rw [sameK_eq hk, he]
theorem kin_val {b : Bool} {a c : CV} (hk : kin b a c) {x y : Value} (hx : rel φ a x) (hy : rel φ c y) (he : eqCb a c = true) : x = y := by
  have := kin_eq hk he
  subst this
  cases b <;> cases a <;> simp only [kin] at hk
  · exact (hx : x = _).trans (hy : y = _).symm
  · exact (hx : x = _).trans (hy : y = _).symm
theorem keyOk_cons {b : Bool} {ks : List Bool} {l : List Seg} (h : keyOk (b :: ks) l = true) : ∃ v r, l = .c v :: r ∧ keyOk ks r = true := by
  cases b <;> (cases l with
    | nil => simp [keyOk] at h
    | cons s r => cases s with
      | a n f => simp [keyOk] at h
      | c v => cases v <;> simp [keyOk] at h; exact ⟨_, r, rfl, h⟩)
theorem keyP_cons {b : Bool} {ks : List Bool} {v : CV} {r K : List Seg} {N : Nat} (h : keyP (b :: ks) (.c v :: r) K N) : ∃ n f K', K = .a n f :: K' ∧ (∀ i, i < N → kin b v (f i)) ∧ keyP ks r K' N := by
  cases K with
  | nil => exact h.elim
  | cons s K =>
    cases s with
    | c v => exact h.elim
    | a n f => exact ⟨n, f, K, rfl, h.1, h.2⟩
theorem drop_cons {α : Type} {l r : List α} {o : Nat} {x : α} (h : l.drop o = x :: r) : l[o]? = some x ∧ l.drop (o + 1) = r := by
  constructor
  · have := congrArg (fun l => l[0]?) h
    simpa using this
  · have := congrArg List.tail h
    simpa using this
theorem key_fields {K : List Seg} : ∀ (fs : List Field) (o : Nat) (ks : List Bool) (l K : List Seg) (N i : Nat) (xs ys : Array Value), flatK P fs o = some (ks.map FK.one) → keyOk ks l = true → keyP ks l K N → i < N →
    F2 (rel φ) (flat l) (xs.toList.drop o) → F2 (rel φ) (K.map (cellAt i)) (ys.toList.drop o) → (Op.eqFields 9999 xs ys fs).run P w = .ok (keyEq l K i) w ∧ (keyEq l K i = true → xs.toList.drop o = ys.toList.drop o)
  | [], o, ks, l, K, N, i, xs, ys, hf, ho, hp, hi, hx, hy => by
    simp only [flatK, Option.some.injEq] at hf
    cases ks with
    | cons b ks => simp at hf
    | nil =>
      cases l with
      | cons s r => simp [keyOk] at ho
      | nil =>
        cases K with
        | cons s r => exact hp.elim
        | nil =>
          refine ⟨by simp [Op.eqFields, keyEq], fun _ => ?_⟩
          rw [F2.nil_left hx, F2.nil_left hy]
  | f :: fs, o, ks, l, K, N, i, xs, ys, hf, ho, hp, hi, hx, hy => by
    simp only [flatK] at hf
    split at hf
    · rename_i hname
      obtain ⟨hname, hoff⟩ := hname
      have one : ∀ b, scal P f.type b → (flatK P fs (o + 1)).map (FK.one b :: ·) = some (ks.map FK.one) →
          (Op.eqFields 9999 xs ys (f :: fs)).run P w = .ok (keyEq l K i) w ∧ (keyEq l K i = true → xs.toList.drop o = ys.toList.drop o) := by
        intro b hb hk
        simp only [Option.map_eq_some_iff] at hk
        obtain ⟨ks', hk', he⟩ := hk
        cases ks with
        | nil => simp at he
        | cons b' ks =>
          simp only [List.map_cons, List.cons.injEq, FK.one.injEq] at he
          obtain ⟨rfl, rfl⟩ := he
          obtain ⟨v, r, rfl, ho'⟩ := keyOk_cons ho
          obtain ⟨n, g, K', rfl, hkin, hp'⟩ := keyP_cons hp
          obtain ⟨x, xr, hxe, hx1, hx2⟩ := F2.cons_left (l := flat r) hx
          obtain ⟨y, yr, hye, hy1, hy2⟩ := F2.cons_left (a := g i) (l := K'.map (cellAt i)) hy
          obtain ⟨gx, dx⟩ := drop_cons hxe
          obtain ⟨gy, dy⟩ := drop_cons hye
          have gx : xs[o]? = some x := by simpa using gx
          have gy : ys[o]? = some y := by simpa using gy
          obtain ⟨ih1, ih2⟩ := key_fields (K := K') fs (o + 1) ks r K' N i xs ys hk' ho' hp' hi (by rw [dx]; exact hx2) (by rw [dy]; exact hy2)
          constructor
          · simp only [Op.eqFields, hname, ne_eq, not_false_eq_true, if_true, hoff, Sem.run_bind, run_part_scal hb gx, run_part_scal hb gy, Result.andThen_ok, (run_eq_scal (w := w) hb hx1 hy1 9998).2 (hkin i hi), keyEq]
            cases eqCb v (g i) with
            | false => simp
            | true => simpa using ih1
          · intro h
            simp only [keyEq, Bool.and_eq_true] at h
            rw [hxe, hye, kin_val (hkin i hi) hx1 hy1 h.1, ← dx, ← dy, ih2 h.2]
      split at hf
      · rename_i hu; exact one false hu hf
      · rename_i q hu; exact one true ⟨q, hu⟩ hf
      · exfalso
        split at hf
        · split at hf
          · simp only [Option.map_eq_some_iff] at hf
            obtain ⟨_, _, he⟩ := hf
            cases ks <;> simp at he
          · simp only [Option.map_eq_some_iff] at hf
            obtain ⟨_, _, he⟩ := hf
            cases ks <;> simp at he
          · simp at hf
        · simp at hf
      · simp at hf
    · simp at hf
theorem onesK_map : ∀ {ks : List FK} {l : List Bool}, onesK ks = some l → ks = l.map FK.one
  | [], l, h => by simp only [onesK, Option.some.injEq] at h; subst h; rfl
  | .one b :: r, l, h => by
    simp only [onesK, Option.map_eq_some_iff] at h
    obtain ⟨m, hm, rfl⟩ := h
    rw [onesK_map hm]
    rfl
  | .arr _ _ :: _, l, h => by simp [onesK] at h

def KeyT (P : Program) (k : TypeId) (ks : List Bool) : Prop :=
  (∃ q, P.underlying k = some (.int q) ∧ ks = [true]) ∨ ∃ fs, P.underlying k = some (.struct fs) ∧ flatK P fs.toList 0 = some (ks.map FK.one) ∧ 2 ≤ ks.length ∧ P.stoodInHeld k = false
theorem keyT_of {k : TypeId} {ks : List Bool} (h : keyKs P k = some ks) : KeyT P k ks := by
  unfold keyKs at h
  split at h
  · rename_i q hu
    simp only [Option.some.injEq] at h
    exact .inl ⟨q, hu, h.symm⟩
  · rename_i fs hu
    split at h
    · rename_i fk hfk
      split at h
      · rename_i l hl
        split at h
        · rename_i hc
          simp only [Option.some.injEq] at h
          subst h
          exact .inr ⟨fs, hu, by rw [hfk, onesK_map hl], hc.1, hc.2⟩
        · simp at h
      · simp at h
    · simp at h
  · simp at h

theorem keyP_len : ∀ {ks : List Bool} {l K : List Seg} {N : Nat}, keyP ks l K N → K.length = ks.length
  | [], [], [], _, _ => rfl
  | [], [], _ :: _, _, h => h.elim
  | [], _ :: _, _, _, h => h.elim
  | b :: ks, [], _, _, h => h.elim
  | b :: ks, .a _ _ :: _, _, _, h => h.elim
  | b :: ks, .c v :: r, K, N, h => by
    obtain ⟨n, f, K', rfl, _, hp⟩ := keyP_cons h
    simp [keyP_len hp]
theorem keyAV_two {l : List CV} (h : 2 ≤ l.length) : keyAV l = .agg (l.map Seg.c) := by
  match l, h with
  | _ :: _ :: _, _ => rfl
theorem flat_c : ∀ l : List CV, flat (l.map Seg.c) = l
  | [] => rfl
  | a :: l => by simp [flat, Seg.flat, flat_c l]

theorem key_eq {k : TypeId} {ks : List Bool} (hk : KeyT P k ks) {y : AV} {yv : Value} {l : List Seg} (hl : keyL ks y = some l) (hy : relA φ y yv) (ho : keyOk ks l = true) {K : List Seg} {N i : Nat} (hp : keyP ks l K N) (hi : i < N) {kv : Value} (hkv : relA φ (keyAV (K.map (cellAt i))) kv) :
    (Op.equal k yv kv).run P w = .ok (keyEq l K i) w ∧ (keyEq l K i = true → yv = kv) := by
  rcases hk with ⟨q, hu, rfl⟩ | ⟨fs, hu, hf, h2, hst⟩
  · obtain ⟨v, r, rfl, ho'⟩ := keyOk_cons ho
    obtain ⟨n, f, K', rfl, hkin, hp'⟩ := keyP_cons hp
    cases r with
    | cons s r => exact hp'.elim
    | nil =>
      cases K' with
      | cons s r => exact hp'.elim
      | nil =>
        cases y <;> simp only [keyL, reduceCtorEq, Option.some.injEq, List.cons.injEq, Seg.c.injEq, and_true] at hl
        rename_i c0
        subst hl
        have h1 : rel φ c0 yv := hy
        have h3 : rel φ (f i) kv := hkv
        refine ⟨?_, fun h => ?_⟩
        · have := (run_eq_scal (P := P) (w := w) (t := k) (b := true) ⟨q, hu⟩ h1 h3 9999).2 (hkin i hi)
          simp only [keyEq, Bool.and_true]
          exact this
        · simp only [keyEq, Bool.and_true] at h
          exact kin_val (hkin i hi) h1 h3 h
  · have hlen := keyP_len hp
    have hl2 : y = .agg l := by
      match ks, y, h2, hl with
      | _ :: _ :: _, .agg m, _, hl => simp only [keyL, Option.some.injEq] at hl; rw [hl]
    subst hl2
    obtain ⟨xs, rfl, hx⟩ := hy
    rw [keyAV_two (by simp [hlen]; exact h2)] at hkv
    obtain ⟨ys, rfl, hyy⟩ := hkv
    rw [flat_c] at hyy
    have hfs : P.fieldsOf k = fs := by simp [Program.fieldsOf, hu]
    obtain ⟨g1, g2⟩ := key_fields (P := P) (w := w) (K := K) fs.toList 0 ks l K N i xs ys hf ho hp hi (by simpa using hx) (by simpa using hyy)
    refine ⟨?_, fun h => ?_⟩
    · show (Op.equalIn 10000 k _ _).run P w = _
      rw [run_equalIn_struct w 9999 k xs ys (by rw [hfs]; exact hu) hst, hfs]
      exact g1
    · have := g2 h
      simp only [List.drop_zero] at this
      rw [show xs = ys from Array.toList_inj.1 this]

theorem asking {k : TypeId} {yv : Value} {f : Nat → Bool} : ∀ (es : List MapEntry) (o : Nat), (∀ i e, es[i]? = some e → (Op.equal k yv e.key).run P w = .ok (f (o + i)) w) →
    (∃ i e, es[i]? = some e ∧ f (o + i) = true ∧ (∀ j, j < i → f (o + j) = false) ∧ (Instr.findAsking k yv es o).run P w = .ok (some (o + i, e.val)) w) ∨ ((∀ i, i < es.length → f (o + i) = false) ∧ (Instr.findAsking k yv es o).run P w = .ok none w)
  | [], o, h => .inr ⟨fun i hi => absurd hi (Nat.not_lt_zero i), by simp [Instr.findAsking]⟩
  | e :: es, o, h => by
    have h0 := h 0 e rfl
    cases hf : f (o + 0) with
    | true =>
      refine .inl ⟨0, e, rfl, hf, fun j hj => absurd hj (Nat.not_lt_zero j), ?_⟩
      rw [hf] at h0
      simp [Instr.findAsking, Sem.run_bind, h0]
    | false =>
      rw [hf] at h0
      have hrun : (Instr.findAsking k yv (e :: es) o).run P w = (Instr.findAsking k yv es (o + 1)).run P w := by simp [Instr.findAsking, Sem.run_bind, h0]
      rw [hrun]
      rcases asking es (o + 1) (fun i e' he => by rw [Nat.add_assoc, Nat.add_comm 1 i]; exact h (i + 1) e' he) with ⟨i, e', h1, h2, h3, h4⟩ | ⟨h1, h2⟩
      · refine .inl ⟨i + 1, e', h1, by rw [← h2]; congr 1; omega, fun j hj => ?_, by rw [h4]; congr 3; omega⟩
        cases j with
        | zero => exact hf
        | succ j => rw [← h3 j (by omega)]; congr 1; omega
      · refine .inr ⟨fun i hi => ?_, h2⟩
        cases i with
        | zero => exact hf
        | succ i =>
          simp only [List.length_cons] at hi
          rw [← h1 i (by omega)]; congr 1; omega

theorem findNow_int {q : IntKind} {yv : Value} {f : Nat → Bool} : ∀ (es : List MapEntry) (o : Nat), (∀ i e, es[i]? = some e → Instr.sameNow (.int q) yv e.key = some (f (o + i))) →
    (∃ i e, es[i]? = some e ∧ f (o + i) = true ∧ (∀ j, j < i → f (o + j) = false) ∧ Instr.findNow (.int q) yv es o = some (some (o + i, e.val))) ∨ ((∀ i, i < es.length → f (o + i) = false) ∧ Instr.findNow (.int q) yv es o = some none)
  | [], o, h => .inr ⟨fun i hi => absurd hi (Nat.not_lt_zero i), rfl⟩
  | e :: es, o, h => by
    have h0 := h 0 e rfl
    cases hf : f (o + 0) with
    | true =>
      refine .inl ⟨0, e, rfl, hf, fun j hj => absurd hj (Nat.not_lt_zero j), ?_⟩
      rw [hf] at h0
      simp [Instr.findNow, h0]
    | false =>
      rw [hf] at h0
      have hrun : Instr.findNow (.int q) yv (e :: es) o = Instr.findNow (.int q) yv es (o + 1) := by simp [Instr.findNow, h0]
      rw [hrun]
      rcases findNow_int es (o + 1) (fun i e' he => by rw [Nat.add_assoc, Nat.add_comm 1 i]; exact h (i + 1) e' he) with ⟨i, e', h1, h2, h3, h4⟩ | ⟨h1, h2⟩
      · refine .inl ⟨i + 1, e', h1, by rw [← h2]; congr 1; omega, fun j hj => ?_, by rw [h4]; congr 3; omega⟩
        cases j with
        | zero => exact hf
        | succ j => rw [← h3 j (by omega)]; congr 1; omega
      · refine .inr ⟨fun i hi => ?_, h2⟩
        cases i with
        | zero => exact hf
        | succ i =>
          simp only [List.length_cons] at hi
          rw [← h1 i (by omega)]; congr 1; omega

theorem find_ok {k : TypeId} {ks : List Bool} (hk : KeyT P k ks) {y : AV} {yv : Value} {l : List Seg} (hl : keyL ks y = some l) (hy : relA φ y yv) (ho : keyOk ks l = true) {K : List Seg} {v : Nat → CV} {es : Array MapEntry} (hE : MapE φ v K es) (hp : keyP ks l K es.size) :
    (findI (keyEq l K) es.size < es.size ∧ ∃ e, es[findI (keyEq l K) es.size]? = some e ∧ yv = e.key ∧ (Instr.findKey k yv es.toList).run P w = .ok (some (findI (keyEq l K) es.size, e.val)) w) ∨
    (findI (keyEq l K) es.size = es.size ∧ (Instr.findKey k yv es.toList).run P w = .ok none w) := by
  have hat : ∀ i e, es.toList[i]? = some e → i < es.size ∧ relA φ (keyAV (K.map (cellAt i))) e.key := fun i e he => by
    have he' : es[i]? = some e := by simpa using he
    exact ⟨(Array.getElem?_eq_some_iff.1 he').1, (hE i e he').2⟩
  have hfin : (∃ i e, es.toList[i]? = some e ∧ keyEq l K (0 + i) = true ∧ (∀ j, j < i → keyEq l K (0 + j) = false) ∧ (Instr.findKey k yv es.toList).run P w = .ok (some (0 + i, e.val)) w) ∨ ((∀ i, i < es.toList.length → keyEq l K (0 + i) = false) ∧ (Instr.findKey k yv es.toList).run P w = .ok none w) := by
    rcases id hk with ⟨q, hu, rfl⟩ | ⟨fs, hu, _, _, _⟩
    · have hnow : ∀ i e, es.toList[i]? = some e → Instr.sameNow (.int q) yv e.key = some (keyEq l K (0 + i)) := fun i e he => by
        obtain ⟨hi, hr⟩ := hat i e he
        obtain ⟨v, r, rfl, ho'⟩ := keyOk_cons ho
        obtain ⟨n, f, K', rfl, hkin, hp'⟩ := keyP_cons hp
        cases r with
        | cons s r => exact hp'.elim
        | nil =>
          cases K' with
          | cons s r => exact hp'.elim
          | nil =>
            cases y <;> simp only [keyL, reduceCtorEq, Option.some.injEq, List.cons.injEq, Seg.c.injEq, and_true] at hl
            rename_i c0
            subst hl
            have h1 : rel φ c0 yv := hy
            have h3 : rel φ (f i) e.key := hr
            have hki := hkin i hi
            rw [Nat.zero_add]
            show _ = some (eqCb c0 (f i) && true)
            revert h3 hki
            generalize f i = c
            intro h3 hki
            cases c0 <;> cases c <;> simp only [kin] at hki
            have e1 : yv = _ := h1
            have e2 : e.key = _ := h3
            rw [e1, e2]
            simp only [Instr.sameNow, sameK_eq hki, if_true, eqCb, Bool.and_true]
      have hrun : ∀ r, Instr.findNow (.int q) yv es.toList 0 = some r → (Instr.findKey k yv es.toList).run P w = .ok r w := fun r hr => by
        simp [Instr.findKey, Sem.run_bind, run_underlying hu, hr]
      rcases findNow_int es.toList 0 hnow with ⟨i, e, h1, h2, h3, h4⟩ | ⟨h1, h2⟩
      · exact .inl ⟨i, e, h1, h2, h3, hrun _ h4⟩
      · exact .inr ⟨h1, hrun _ h2⟩
    · rw [run_findKey_eq w (by rw [hu]) yv es.toList]
      exact asking es.toList 0 fun i e he => by
        obtain ⟨hi, hr⟩ := hat i e he
        rw [Nat.zero_add]
        exact (key_eq hk hl hy ho hp hi hr).1
  rcases hfin with ⟨i, e, h1, h2, h3, h4⟩ | ⟨h1, h2⟩
  · obtain ⟨hi, hr⟩ := hat i e h1
    rw [Nat.zero_add] at h2 h4
    have he : findI (keyEq l K) es.size = i := by
      rcases Nat.lt_trichotomy (findI (keyEq l K) es.size) i with h | h | h
      · have := findI_lt (p := keyEq l K) (n := es.size) (by omega)
        have h5 := h3 _ h
        rw [Nat.zero_add, this] at h5
        cases h5
      · exact h
      · rw [findI_no h] at h2; cases h2
    rw [he]
    exact .inl ⟨hi, e, by simpa using h1, (key_eq (P := P) (w := w) hk hl hy ho hp hi hr).2 h2, h4⟩
  · refine .inr ⟨?_, h2⟩
    rcases Nat.lt_or_ge (findI (keyEq l K) es.size) es.size with h | h
    · have := findI_lt h
      have h5 := h1 _ (by simpa using h)
      rw [Nat.zero_add, this] at h5
      cases h5
    · exact Nat.le_antisymm (findI_le _ _) h

theorem mapKs_some {t : TypeId} {ks : List Bool} {z : CV} (h : mapKs P t = some (ks, z)) : ∃ k e, P.underlying t = some (.map k e) ∧ KeyT P k ks ∧ ∃ i zv, P.info? e = some i ∧ i.zero = some zv ∧ cvOf zv = some z := by
  unfold mapKs at h
  split at h
  · rename_i k e hu
    split at h
    · rename_i ks' z' h1 h2
      simp only [Option.some.injEq, Prod.mk.injEq] at h
      obtain ⟨rfl, rfl⟩ := h
      refine ⟨k, e, hu, keyT_of h1, ?_⟩
      unfold zero1 at h2
      split at h2
      · rename_i i hi
        split at h2
        · rename_i zv hzv
          exact ⟨i, zv, hi, hzv, h2⟩
        · simp at h2
      · simp at h2
    · simp at h
  · simp at h
theorem run_check_scal {t : TypeId} {b : Bool} (h : scal P t b) (em : Bool) (n : Nat) (x : Value) : (Instr.checkKey em (n + 1) t x).run P w = .ok () w := by
  cases b with
  | true => obtain ⟨q, hq⟩ := h; cases x <;> simp [Instr.checkKey, run_underlying hq]
  | false => have hq : P.underlying t = some .bool := h; cases x <;> simp [Instr.checkKey, run_underlying hq]
theorem check_list {em : Bool} {xs : Array Value} {body : Field → PUnit → Sem (ForInStep PUnit)} (hbody : ∀ f : Field, f.name ≠ "_" → body f PUnit.unit = (do
      let a ← part f.type xs f.offset
      Instr.checkKey em 9999 f.type a
      pure (ForInStep.yield PUnit.unit))) : ∀ (fl : List Field) (o : Nat) (ks : List Bool) (l : List Seg), keyOk ks l = true → flatK P fl o = some (ks.map FK.one) → F2 (rel φ) (flat l) (xs.toList.drop o) →
    (forIn fl PUnit.unit body).run P w = .ok PUnit.unit w
  | [], o, ks, l, ho, hf, hx => by simp
  | f :: fl, o, ks, l, ho, hf, hx => by
    simp only [flatK] at hf
    split at hf
    · rename_i hname
      obtain ⟨hname, hoff⟩ := hname
      have one : ∀ b, scal P f.type b → (flatK P fl (o + 1)).map (FK.one b :: ·) = some (ks.map FK.one) → (forIn (f :: fl) PUnit.unit body).run P w = .ok PUnit.unit w := by
        intro b hb hk
        simp only [Option.map_eq_some_iff] at hk
        obtain ⟨ks', hk', he⟩ := hk
        cases ks with
        | nil => simp at he
        | cons b' ks =>
          simp only [List.map_cons, List.cons.injEq, FK.one.injEq] at he
          obtain ⟨rfl, rfl⟩ := he
          obtain ⟨v, r, rfl, ho'⟩ := keyOk_cons ho
          obtain ⟨x, xr, hxe, hx1, hx2⟩ := F2.cons_left (l := flat r) hx
          obtain ⟨gx, dx⟩ := drop_cons hxe
          have gx : xs[o]? = some x := by simpa using gx
          have hck : (Instr.checkKey em 9999 f.type x).run P w = .ok () w := run_check_scal hb em 9998 x
          simp only [List.forIn_cons, Sem.run_bind, hbody f hname, hoff, run_part_scal hb gx, Result.andThen_ok, hck, Sem.run_pure]
          exact check_list hbody fl (o + 1) ks r ho' hk' (by rw [dx]; exact hx2)
      split at hf
      · rename_i hu; exact one false hu hf
      · rename_i q hu; exact one true ⟨q, hu⟩ hf
      · exfalso
        split at hf
        · split at hf
          · simp only [Option.map_eq_some_iff] at hf
            obtain ⟨_, _, he⟩ := hf
            cases ks <;> simp at he
          · simp only [Option.map_eq_some_iff] at hf
            obtain ⟨_, _, he⟩ := hf
            cases ks <;> simp at he
          · simp at hf
        · simp at hf
      · simp at hf
    · simp at hf
theorem run_check {k : TypeId} {ks : List Bool} (hk : KeyT P k ks) {y : AV} {yv : Value} {l : List Seg} (hl : keyL ks y = some l) (hy : relA φ y yv) (ho : keyOk ks l = true) (em : Bool) : (Instr.checkKey em 10000 k yv).run P w = .ok () w := by
  rcases hk with ⟨q, hu, rfl⟩ | ⟨fs, hu, hf, h2, hst⟩
  · exact run_check_scal (b := true) ⟨q, hu⟩ em 9999 yv
  · have hl2 : y = .agg l := by
      match ks, y, h2, hl with
      | _ :: _ :: _, .agg m, _, hl => simp only [keyL, Option.some.injEq] at hl; rw [hl]
    subst hl2
    obtain ⟨xs, rfl, hx⟩ := hy
    show (Instr.checkKey em (9999 + 1) k (.agg xs)).run P w = _
    rw [Instr.checkKey]
    simp only [Sem.run_bind, run_underlying hu, Result.andThen_ok]
    rw [← Array.forIn_toList]
    have := check_list (P := P) (w := w) (em := em) (xs := xs) (body := fun f _ => if f.name ≠ "_" then do
        let a ← part f.type xs f.offset
        Instr.checkKey em 9999 f.type a
        pure (ForInStep.yield PUnit.unit)
      else pure (ForInStep.yield PUnit.unit)) (fun f hf => if_pos hf) fs.toList 0 ks l ho hf (by simpa using hx)
    simp only [this, Result.andThen_ok, Sem.run_pure]

theorem sameBits_scal {b : Bool} {a : CV} (h : kin b a a) {x : Value} (hx : rel φ a x) (n : Nat) : Instr.sameBits (n + 1) x x = true := by
  cases b <;> cases a <;> simp only [kin] at h
  · have e : x = _ := hx
    subst e; simp [Instr.sameBits]
  · have e : x = _ := hx
    subst e; simp [Instr.sameBits]
theorem keyOk_kin : ∀ {ks : List Bool} {l : List Seg}, keyOk ks l = true → ∀ {xs : List Value}, F2 (rel φ) (flat l) xs → ∀ x ∈ xs, Instr.sameBits 9999 x x = true
  | [], [], _, _, .nil, x, hx => by cases hx
  | [], _ :: _, h, _, _, _, _ => by simp [keyOk] at h
  | b :: ks, l, h, xs, hF, x, hx => by
    have h0 := h
    obtain ⟨v, r, rfl, ho⟩ := keyOk_cons h
    obtain ⟨y, yr, rfl, h1, h2⟩ := F2.cons_left (l := flat r) hF
    cases hx with
    | head => exact sameBits_scal (b := b) (by cases b <;> cases v <;> simp [keyOk] at h0 <;> simp [kin, sameK]; rename_i k n; cases k <;> rfl) h1 9998
    | tail _ hx => exact keyOk_kin ho h2 x hx
theorem run_stays {ks : List Bool} {y : AV} {yv : Value} {l : List Seg} (hl : keyL ks y = some l) (hy : relA φ y yv) (ho : keyOk ks l = true) : (Instr.keyThatStays yv yv).run P w = .ok yv w := by
  have hs : Instr.sameBits 10000 yv yv = true := by
    match ks, y, hl with
    | [b], .c v, hl =>
      simp only [keyL, Option.some.injEq] at hl
      subst hl
      have h1 : rel φ v yv := hy
      exact sameBits_scal (b := b) (by cases b <;> cases v <;> simp [keyOk] at ho <;> simp [kin, sameK]; rename_i k n; cases k <;> rfl) h1 9999
    | _ :: _ :: _, .agg m, hl =>
      simp only [keyL, Option.some.injEq] at hl
      subst hl
      obtain ⟨xs, rfl, hx⟩ := hy
      show Instr.sameBits (9999 + 1) (.agg xs) (.agg xs) = true
      simp only [Instr.sameBits, beq_self_eq_true, Bool.true_and, List.all_eq_true]
      intro p hp
      obtain ⟨i, hi, e⟩ := List.getElem_of_mem hp
      rw [List.getElem_zip] at e
      rw [← e]
      exact keyOk_kin ho hx _ (List.getElem_mem _)
  simp [Instr.keyThatStays, hs]

theorem map_open {H : Heap} (h : HRel φ H w) {id : Nat} {B : Blk} (hB : getB H.blks id = some B) (hstr : B.str = 0) (hsz : B.sz = some 0) (hw : B.wr = true) {xv : Value} (hx : relA φ (.c (.map id)) xv) :
    ∃ p, φ id = some p ∧ xv = .map (some p.blk) ∧ MapB φ B p w := by
  obtain ⟨p, hp, rfl⟩ := hx
  refine ⟨p, hp, rfl, ?_⟩
  rcases (h.blk id B p hB hp).own hw with h' | h'
  · exact absurd ⟨hstr, hsz⟩ h'.2
  · exact h'

theorem HRel.putMap {H : Heap} (h : HRel φ H w) {id : Nat} {B : Blk} {p : Place} (hB : getB H.blks id = some B) (hw : B.wr = true) (hp : φ id = some p) {es es' : Array MapEntry} {c c' : Nat} (hes : w.heap[p.blk]? = some (.map es c))
    {v : Nat → CV} {K : List Seg} {N : Nat} {e : TypeId} (hb : B.str = 0) (hK : ∀ s ∈ K, ∃ f, s = Seg.a N f) (hN : es'.size = N) (hE : MapE φ v K es') {row : Nat → List Seg} (hrow : row 0 = .a N v :: K) :
    HRel φ ⟨H.next, setB H.blks id ⟨0, some 0, row, e, true⟩⟩ { w with heap := w.heap.setIfInBounds p.blk (.map es' c') } ∧ Fr φ H w φ ⟨H.next, setB H.blks id ⟨0, some 0, row, e, true⟩⟩ { w with heap := w.heap.setIfInBounds p.blk (.map es' c') } := by
  have hlt : p.blk < w.heap.size := (Array.getElem?_eq_some_iff.1 hes).1
  refine h.update hB hw hp rfl (by simp) rfl rfl rfl (fun b hne => by simp [Array.getElem?_setIfInBounds, Ne.symm hne]) ⟨(h.blk id B p hB hp).str.trans hb, fun i hi => absurd hi (Nat.not_lt_zero i), fun _ => .inr ⟨rfl, rfl, N, v, K, es', c', hrow, hK, ?_, hN, hE⟩⟩
  simp [Array.getElem?_setIfInBounds, hlt]

theorem mapR_open {k : MK} {ks : List Bool} {z : CV} {H : Heap} {x y u : AV} {need : Option Prop} {v : AV} {H' : Heap} (hk : k ≠ .make) (h : mapR k ks z H x y u = .t need v H') :
    ∃ id B l N f K, x = .c (.map id) ∧ getB H.blks id = some B ∧ keyL ks y = some l ∧ B.str = 0 ∧ B.sz = some 0 ∧ B.wr = true ∧ B.row 0 = .a N f :: K ∧ keyOk ks l = true ∧ mapR1 k ks z H id B N f K l u (findI (keyEq l K) N) = .t need v H' := by
  unfold mapR at h
  split at h
  · exact absurd rfl hk
  · split at h
    · rename_i id
      split at h
      · rename_i B l h1 h2
        split at h
        · rename_i N f K g1 g2 g3 g4 g5
          exact ⟨id, B, l, N, f, K, rfl, h1, h2, Nat.eq_of_beq_eq_true g1, g2, g3, g4, g5, h⟩
        · simp at h
      · simp at h
    · simp at h

theorem zcols_all : ∀ ks : List Bool, ∀ s ∈ zcols ks, ∃ f, s = Seg.a 0 f
  | [], s, h => by cases h
  | true :: ks, s, h => by
    cases h with
    | head => exact ⟨_, rfl⟩
    | tail _ h => exact zcols_all ks s h
  | false :: ks, s, h => by
    cases h with
    | head => exact ⟨_, rfl⟩
    | tail _ h => exact zcols_all ks s h
theorem make_ok {H : Heap} (h : HRel φ H w) {t : TypeId} {ks : List Bool} {z : CV} {x y u : AV} {need : Option Prop} {v : AV} {H' : Heap} (hr : mapR .make ks z H x y u = .t need v H') : TrnV P φ H (Instr.makeMap t none) w v H' := by
  simp only [mapR, Res.t.injEq] at hr
  obtain ⟨rfl, rfl, rfl⟩ := hr
  have hrun : (Instr.makeMap t none).run P w = .ok (.map (some w.heap.size)) (w.alloc (.map #[] 0)) := by
    simp [Instr.makeMap, go_sem]
  refine ⟨φ.ins H.next ⟨w.heap.size, 0, 0, 0⟩, _, _, hrun, ⟨_, φ.ins_self _ _, rfl⟩, ?_⟩
  refine h.renew (B := ⟨0, some 0, fun _ => .a 0 (fun _ => z) :: zcols ks, 0, true⟩) (p := ⟨w.heap.size, 0, 0, 0⟩) (w' := w.alloc (.map #[] 0)) (blks := H.blks) (fun _ _ h => h) rfl rfl rfl (by simp) ⟨rfl, fun i hi => absurd hi (Nat.not_lt_zero i), fun _ => .inr ⟨rfl, rfl, 0, _, zcols ks, #[], 0, rfl, zcols_all ks, heap_alloc_self _ _, rfl, fun i e he => by simp at he⟩⟩ (by simp) (og := none) (fun g hg => by cases hg) (.inl (Nat.le_refl _)) fun j hj _ => heap_alloc_lt w _ hj

theorem colsPut_all {n j : Nat} : ∀ {l K : List Seg}, ∀ s ∈ colsPut l K n j, ∃ f, s = Seg.a n f
  | [], _, s, h => by simp [colsPut] at h
  | .a _ _ :: _, _, s, h => by simp [colsPut] at h
  | .c _ :: _, [], s, h => by simp [colsPut] at h
  | .c _ :: _, .c _ :: _, s, h => by simp [colsPut] at h
  | .c _ :: l, .a _ f :: K, s, h => by
    simp only [colsPut, List.mem_cons] at h
    rcases h with rfl | h
    · exact ⟨_, rfl⟩
    · exact colsPut_all s h
theorem colsPut_at {n j i : Nat} : ∀ {ks : List Bool} {l K : List Seg} {N : Nat}, keyP ks l K N → (colsPut l K n j).map (cellAt i) = if i = j then l.map (cellAt i) else K.map (cellAt i)
  | [], [], [], _, _ => by simp [colsPut]
  | [], [], _ :: _, _, h => h.elim
  | [], _ :: _, _, _, h => h.elim
  | b :: ks, [], _, _, h => h.elim
  | b :: ks, .a _ _ :: _, _, _, h => h.elim
  | b :: ks, .c v :: r, K, N, h => by
    obtain ⟨n', f, K', rfl, _, hp⟩ := keyP_cons h
    have ih := colsPut_at (n := n) (j := j) (i := i) hp
    simp only [colsPut, List.map_cons, ih]
    by_cases hij : i = j
    · simp [hij, cellAt]
    · simp [hij, cellAt]
theorem colsDel_all {n j : Nat} : ∀ {K : List Seg}, ∀ s ∈ colsDel K n j, ∃ f, s = Seg.a n f
  | [], s, h => by simp [colsDel] at h
  | .c _ :: _, s, h => by simp [colsDel] at h
  | .a _ f :: K, s, h => by
    simp only [colsDel, List.mem_cons] at h
    rcases h with rfl | h
    · exact ⟨_, rfl⟩
    · exact colsDel_all s h
theorem colsDel_at {n j i N : Nat} : ∀ {K : List Seg}, (∀ s ∈ K, ∃ f, s = Seg.a N f) → (colsDel K n j).map (cellAt i) = if i < j then K.map (cellAt i) else K.map (cellAt (i + 1))
  | [], _ => by simp [colsDel]
  | s :: K, h => by
    obtain ⟨f, rfl⟩ := h s (by simp)
    have ih := colsDel_at (n := n) (j := j) (i := i) (K := K) fun t ht => h t (by simp [ht])
    simp only [colsDel, List.map_cons, ih]
    by_cases hij : i < j
    · simp [hij, cellAt]
    · simp [hij, cellAt]
theorem key_cells : ∀ {ks : List Bool} {l : List Seg}, keyOk ks l = true → ∀ i, (l.map (cellAt i)).map Seg.c = l
  | [], [], _, _ => rfl
  | [], _ :: _, h, _ => by simp [keyOk] at h
  | b :: ks, l, h, i => by
    obtain ⟨v, r, rfl, ho⟩ := keyOk_cons h
    simp [cellAt, key_cells ho i]
theorem key_self {ks : List Bool} {y : AV} {yv : Value} {l : List Seg} (hl : keyL ks y = some l) (hy : relA φ y yv) (ho : keyOk ks l = true) (i : Nat) : relA φ (keyAV (l.map (cellAt i))) yv := by
  match ks, y, hl with
  | [b], .c v, hl =>
    simp only [keyL, Option.some.injEq] at hl
    subst hl
    exact hy
  | b :: c :: ks, .agg m, hl =>
    simp only [keyL, Option.some.injEq] at hl
    subst hl
    have h0 := key_cells ho i
    obtain ⟨v, r, rfl, ho1⟩ := keyOk_cons ho
    obtain ⟨v', r', rfl, ho2⟩ := keyOk_cons ho1
    rw [keyAV_two (by simp), h0]
    exact hy

theorem map_found {H : Heap} (h : HRel φ H w) {t : TypeId} {ks : List Bool} {z : CV} (hm : mapKs P t = some (ks, z)) {k e : TypeId} (hk : KeyT P k ks) {x y : AV} {xv yv : Value} (hx : relA φ x xv) (hy : relA φ y yv)
    {id : Nat} {B : Blk} {l : List Seg} {N : Nat} {f : Nat → CV} {K : List Seg} (ex : x = .c (.map id)) (hB : getB H.blks id = some B) (hl : keyL ks y = some l) (hstr : B.str = 0) (hsz : B.sz = some 0) (hw : B.wr = true) (hrow : B.row 0 = .a N f :: K) (ho : keyOk ks l = true) (hp : keyP ks l K N) :
    ∃ p es c, φ id = some p ∧ xv = .map (some p.blk) ∧ w.heap[p.blk]? = some (.map es c) ∧ es.size = N ∧ MapE φ f K es ∧ (∀ s ∈ K, ∃ f, s = Seg.a N f) ∧
      ((findI (keyEq l K) N < N ∧ ∃ e, es[findI (keyEq l K) N]? = some e ∧ yv = e.key ∧ (Instr.findKey k yv es.toList).run P w = .ok (some (findI (keyEq l K) N, e.val)) w) ∨ (findI (keyEq l K) N = N ∧ (Instr.findKey k yv es.toList).run P w = .ok none w)) := by
  subst ex
  obtain ⟨p, hφ, rfl, _, _, N', f', K', es, c, h1, h2, h3, h4, h5⟩ := map_open h hB hstr hsz hw hx
  rw [hrow] at h1
  cases h1
  subst h4
  exact ⟨p, es, c, hφ, rfl, h3, rfl, h5, h2, find_ok hk hl hy ho h5 hp⟩

theorem look_ok {H : Heap} (h : HRel φ H w) {t : TypeId} {ks : List Bool} {z : CV} (hm : mapKs P t = some (ks, z)) {x y u : AV} {xv yv : Value} (hx : relA φ x xv) (hy : relA φ y yv) {ok : Bool}
    {need : Option Prop} {v : AV} {H' : Heap} (hr : mapR (if ok then .look else .look1) ks z H x y u = .t need v H') (hn : needP need) : TrnV P φ H (Instr.lookup t xv yv ok) w v H' := by
  obtain ⟨k, e, hu, hk, i, zv, hi, hzv, hcv⟩ := mapKs_some hm
  have hzr : rel φ z zv := cvOf_rel φ hcv
  obtain ⟨id, B, l, N, f, K, ex, hB, hl, hstr, hsz, hw, hrow, ho, hr1⟩ := mapR_open (by cases ok <;> simp) hr
  have hp : keyP ks l K N := by
    cases ok <;> simp only [mapR1, if_true, if_false, Bool.false_eq_true, Res.t.injEq] at hr1 <;> (rw [← hr1.1] at hn; exact hn)
  obtain ⟨p, es, c, hφ, rfl, h3, h4, h5, h2, hfind⟩ := map_found (P := P) h hm hk hx hy (e := e) ex hB hl hstr hsz hw hrow ho hp
  have hrun : ∀ r ok', (match (generalizing := false) r with | some (j, vv) => ((vv, true) : Value × Bool) | none => (zv, false)) = ok' → (Instr.findKey k yv es.toList).run P w = .ok r w → (Instr.lookup t (.map (some p.blk)) yv ok).run P w = .ok (if ok then .tuple #[ok'.1, .bool ok'.2] else ok'.1) w := by
    intro r ok' e1 e2
    subst e1
    cases r with
    | none => simp [Instr.lookup, Sem.run_bind, run_underlying' hu, MapKept.run_getObj_map h3, run_check hk hl hy ho, e2, run_zeroValue hi hzv]
    | some q => simp [Instr.lookup, Sem.run_bind, run_underlying' hu, MapKept.run_getObj_map h3, run_check hk hl hy ho, e2]
  rcases hfind with ⟨hlt, en, hen, hkey, hfk⟩ | ⟨heq, hfk⟩
  · have hv := (h5 _ _ hen).1
    refine ⟨φ, _, w, hrun _ _ rfl hfk, ?_⟩
    cases ok
    · simp only [mapR1, if_false, Bool.false_eq_true, Res.t.injEq, if_pos hlt] at hr1
      obtain ⟨_, rfl, rfl⟩ := hr1
      exact ⟨hv, h, Fr.refl _ _ _⟩
    · simp only [mapR1, if_true, Res.t.injEq, if_pos hlt, decide_eq_true hlt] at hr1
      obtain ⟨_, rfl, rfl⟩ := hr1
      exact ⟨⟨_, rfl, .cons hv (.cons rfl .nil)⟩, h, Fr.refl _ _ _⟩
  · have hnl : ¬ findI (keyEq l K) N < N := by omega
    refine ⟨φ, _, w, hrun _ _ rfl hfk, ?_⟩
    cases ok
    · simp only [mapR1, if_false, Bool.false_eq_true, Res.t.injEq, if_neg hnl] at hr1
      obtain ⟨_, rfl, rfl⟩ := hr1
      exact ⟨hzr, h, Fr.refl _ _ _⟩
    · simp only [mapR1, if_true, Res.t.injEq, if_neg hnl, decide_eq_false hnl] at hr1
      obtain ⟨_, rfl, rfl⟩ := hr1
      exact ⟨⟨_, rfl, .cons hzr (.cons rfl .nil)⟩, h, Fr.refl _ _ _⟩

theorem put_ok {H : Heap} (h : HRel φ H w) {t : TypeId} {ks : List Bool} {z : CV} (hm : mapKs P t = some (ks, z)) {x y u : AV} {xv yv uv : Value} (hx : relA φ x xv) (hy : relA φ y yv) (hu' : relA φ u uv)
    {need : Option Prop} {v : AV} {H' : Heap} (hr : mapR .put ks z H x y u = .t need v H') (hn : needP need) : v = .bot ∧ ∃ w', (Instr.mapUpdate t xv yv uv).run P w = .ok () w' ∧ HRel φ H' w' ∧ Fr φ H w φ H' w' := by
  obtain ⟨k, e, hu, hk, _⟩ := mapKs_some hm
  obtain ⟨id, B, l, N, f, K, ex, hB, hl, hstr, hsz, hw, hrow, ho, hr1⟩ := mapR_open (by simp) hr
  simp only [mapR1] at hr1
  split at hr1
  · rename_i c0
    simp only [Res.t.injEq] at hr1
    obtain ⟨rfl, rfl, rfl⟩ := hr1
    have hp : keyP ks l K N := hn
    have hc : rel φ c0 uv := hu'
    obtain ⟨p, es, c, hφ, rfl, h3, h4, h5, h2, hfind⟩ := map_found (P := P) h hm hk hx hy (e := e) ex hB hl hstr hsz hw hrow ho hp
    refine ⟨rfl, ?_⟩
    rcases hfind with ⟨hlt, en, hen, hkey, hfk⟩ | ⟨heq, hfk⟩
    · generalize hj : findI (keyEq l K) N = j at *
      refine ⟨_, ?_, h.putMap hB hw hφ h3 (es' := es.modify j fun e => { e with key := yv, val := uv }) (c' := c) hstr colsPut_all (by simp [h4]; omega) (fun i e' he' => ?_) rfl⟩
      · simp [Instr.mapUpdate, run_underlying' hu, MapKept.run_getObj_map h3, run_check hk hl hy ho, hfk, hen, ← hkey, run_stays hl hy ho, MapKept.run_setObj_map _ h3, Result.andThen]
      · rw [colsPut_at hp]
        rw [Array.getElem?_modify] at he'
        by_cases hij : i = j
        · subst hij
          simp only [if_true, hen, Option.map_some, Option.some.injEq] at he'
          subst he'
          simp only [if_true]
          exact ⟨hc, key_self hl hy ho i⟩
        · rw [if_neg (Ne.symm hij)] at he'
          simp only [if_neg hij]
          exact h5 i e' he'
    · generalize hj : findI (keyEq l K) N = j at *
      refine ⟨_, ?_, h.putMap hB hw hφ h3 (es' := es.push { key := yv, val := uv, born := c }) (c' := c + 1) hstr colsPut_all (by simp [h4]; omega) (fun i e' he' => ?_) rfl⟩
      · simp [Instr.mapUpdate, run_underlying' hu, MapKept.run_getObj_map h3, run_check hk hl hy ho, hfk, MapKept.run_setObj_map _ h3, Result.andThen]
      · rw [colsPut_at hp]
        rw [Array.getElem?_push] at he'
        by_cases hij : i = j
        · rw [if_pos (by omega)] at he'
          cases he'
          simp only [if_pos hij]
          exact ⟨hc, key_self hl hy ho i⟩
        · rw [if_neg (by omega)] at he'
          simp only [if_neg hij]
          exact h5 i e' he'
  · simp at hr1

theorem del_ok {H : Heap} (h : HRel φ H w) {t t' ty : TypeId} {ks : List Bool} {z : CV} (hm : mapKs P t = some (ks, z)) {x y u : AV} {xv yv : Value} (hx : relA φ x xv) (hy : relA φ y yv)
    {need : Option Prop} {v : AV} {H' : Heap} (hr : mapR .del ks z H x y u = .t need v H') (hn : needP need) : TrnV P φ H (Builtin.delete_ #[t, t'] ty #[xv, yv]) w v H' := by
  obtain ⟨k, e, hu, hk, _⟩ := mapKs_some hm
  obtain ⟨id, B, l, N, f, K, ex, hB, hl, hstr, hsz, hw, hrow, ho, hr1⟩ := mapR_open (by simp) hr
  simp only [mapR1, Res.t.injEq] at hr1
  obtain ⟨rfl, rfl, rfl⟩ := hr1
  have hp : keyP ks l K N := hn
  obtain ⟨p, es, c, hφ, rfl, h3, h4, h5, h2, hfind⟩ := map_found (P := P) h hm hk hx hy (e := e) ex hB hl hstr hsz hw hrow ho hp
  rcases hfind with ⟨hlt, en, hen, hkey, hfk⟩ | ⟨heq, hfk⟩
  · generalize hj : findI (keyEq l K) N = j at *
    have hjs : j < es.size := by omega
    have hsub : (es.eraseIdxIfInBounds j).toList = es.toList.eraseIdx j := by
      unfold Array.eraseIdxIfInBounds
      rw [dif_pos hjs]
      simp
    have hget : ∀ i : Nat, (es.eraseIdxIfInBounds j)[i]? = if i < j then es[i]? else es[i + 1]? := fun i => by
      have : (es.eraseIdxIfInBounds j).toList[i]? = if i < j then es.toList[i]? else es.toList[i + 1]? := by rw [hsub, List.getElem?_eraseIdx]
      rw [← Array.getElem?_toList, this, Array.getElem?_toList, Array.getElem?_toList]
    refine ⟨φ, .tuple #[], _, ?_, ⟨#[], rfl, .nil⟩, h.putMap hB hw hφ h3 (es' := es.eraseIdxIfInBounds j) (c' := c) hstr colsDel_all ?_ (fun i e' he' => ?_) rfl⟩
    · simp [Builtin.delete_, run_underlying' hu, MapKept.run_getObj_map h3, run_check hk hl hy ho, hfk, MapKept.run_setObj_map _ h3, Result.andThen]
    · rw [if_pos hlt, ← Array.length_toList, hsub, List.length_eraseIdx, if_pos (by simpa using hjs), Array.length_toList, h4]
    · rw [colsDel_at h2]
      rw [hget] at he'
      by_cases hij : i < j
      · rw [if_pos hij] at he'
        simp only [if_pos hij]
        exact h5 i e' he'
      · rw [if_neg hij] at he'
        simp only [if_neg hij]
        exact h5 (i + 1) e' he'
  · generalize hj : findI (keyEq l K) N = j at *
    refine ⟨φ, .tuple #[], _, ?_, ⟨#[], rfl, .nil⟩, h.putMap hB hw hφ h3 (es' := es) (c' := c) hstr colsDel_all ?_ (fun i e' he' => ?_) rfl⟩
    · simp [Builtin.delete_, run_underlying' hu, MapKept.run_getObj_map h3, run_check hk hl hy ho, hfk, MapKept.run_setObj_map _ h3, Result.andThen]
    · rw [if_neg (by omega), h4]
    · rw [colsDel_at h2]
      have hi : i < es.size := (Array.getElem?_eq_some_iff.1 he').1
      have hij : i < j := by omega
      simp only [if_pos hij]
      exact h5 i e' he'
end Go.AM

namespace Go.AM
set_option linter.unusedVariables false
set_option linter.unusedSimpArgs false
variable {P : Program} {φ : Emb} {w : World}

theorem TrnV.next {H : Heap} {m : Sem Value} {v : AV} {H' : Heap} (h : TrnV P φ H m w v H') : Trn P φ H (do pure (Next.value (← m))) w v H' := by
  obtain ⟨φ', x, w', h1, h2, h3, h4⟩ := h
  exact ⟨φ', w', .inl ⟨x, by simp [Sem.run_bind, h1, go_sem], h2⟩, h3, h4⟩

theorem ld1_no_t {H : Heap} {a : AA} {need : Option Prop} {v : AV} {H' : Heap} (h : ld1 H a = .t need v H') : False := by
  unfold ld1 at h
  repeat' (split at h)
  all_goals simp at h
theorem ldn_no_t {H : Heap} {m : Nat} {a : AA} {need : Option Prop} {v : AV} {H' : Heap} (h : ldn H m a = .t need v H') : False := by
  unfold ldn at h
  repeat' (split at h)
  all_goals simp at h
theorem bin_no_t {op : BinOp} {x y : AV} {need : Option Prop} {v : AV} {H' : Heap} (h : bin op x y = .t need v H') : False := by
  unfold bin at h
  split at h
  · split at h
    · unfold shiftR at h; split at h <;> simp at h
    · split at h
      · unfold arith at h; split at h <;> simp at h
      · simp at h
  · simp at h
theorem eqB_no_t {neg : Bool} {x y : AV} {need : Option Prop} {v : AV} {H' : Heap} (h : eqB neg x y = .t need v H') : False := by
  unfold eqB at h
  repeat' (split at h)
  all_goals simp at h
theorem eqS_no_t {neg : Bool} {ks : List FK} {x y : AV} {need : Option Prop} {v : AV} {H' : Heap} (h : eqS neg ks x y = .t need v H') : False := by
  unfold eqS at h
  repeat' (split at h)
  all_goals simp at h
theorem nilq_no_t {kd : NK} {neg : Bool} {x y : AV} {need : Option Prop} {v : AV} {H' : Heap} (h : nilq kd neg x y = .t need v H') : False := by
  unfold nilq at h
  repeat' (split at h)
  all_goals simp at h
theorem un_no_t {op : UnOp} {x : AV} {need : Option Prop} {v : AV} {H' : Heap} (h : un op x = .t need v H') : False := by
  unfold un at h
  split at h <;> simp at h
theorem slcS_no_t {H : Heap} {k : Nat} {x : AV} {lo hi : Option AV} {need : Option Prop} {v : AV} {H' : Heap} (h : slcS H k x lo hi = .t need v H') : False := by
  unfold slcS at h
  repeat' (split at h)
  all_goals simp at h
theorem fieldOf_no_t {x : AV} {o : Nat} {n : Option Nat} {need : Option Prop} {v : AV} {H' : Heap} (h : fieldOf x o n = .t need v H') : False := by
  unfold fieldOf at h
  repeat' (split at h)
  all_goals simp at h

set_option maxHeartbeats 1000000 in
theorem eqT_no_t {neg : Bool} {x y : AV} {need : Option Prop} {v : AV} {H' : Heap} (h : eqT neg x y = .t need v H') : False := by
  unfold eqT at h; split at h <;> simp at h
theorem idxT_no_t {x y : AV} {need : Option Prop} {v : AV} {H' : Heap} (h : idxT x y = .t need v H') : False := by
  unfold idxT at h; split at h <;> simp at h
theorem cat_no_t {x y : AV} {need : Option Prop} {v : AV} {H' : Heap} (h : cat x y = .t need v H') : False := by
  unfold cat at h; split at h <;> simp at h
set_option maxHeartbeats 2000000 in
theorem op_t {o : Oper} {ao : AOp} (hs : stripOp P o.op = some ao) {s : St} {π : Path} {a : Act} (hg : Gets φ s π a) (hH : HRel φ s.heap w)
    {need : Option Prop} {v : AV} {H' : Heap} (h : aop s π ao = .t need v H') (hn : needP need) : Trn P φ s.heap (execOp a.eval o) w v H' := by
  obtain ⟨dst, op, type, pos, after, guard⟩ := o
  simp only at hs
  cases ao <;> simp only [aop] at h
  case ld1 x => split at h; exact (ld1_no_t h).elim; simp at h
  case ldn n x => split at h; exact (ldn_no_t h).elim; simp at h
  case bin op' x y => exact (bin_no_t h).elim
  case eqB n x y => exact (eqB_no_t h).elim
  case eqS n ks x y => exact (eqS_no_t h).elim
  case nilq kd n x y => exact (nilq_no_t h).elim
  case un op' x => exact (un_no_t h).elim
  case slc k x lo hi => exact (slcS_no_t h).elim
  case fld x o' n => exact (fieldOf_no_t h).elim
  case eqT n x y => exact (eqT_no_t h).elim
  case idxT x y => exact (idxT_no_t h).elim
  case cat x y => exact (cat_no_t h).elim
  case tob t x =>
    cases op <;> simp only [stripOp, Option.map_eq_some_iff, reduceCtorEq, and_false, exists_false] at hs
    case convert src dt x' =>
      split at hs
      · simp at hs
      · rename_i e y hu1 hu2 hy
        split at hs
        · rename_i he
          simp only [Option.some.injEq, AOp.tob.injEq] at hs
          obtain ⟨rfl, rfl⟩ := hs
          have := (tob_ok (P := P) hH hu1 hu2 he (hg.get x' y hy) h).next
          obtain ⟨φ', w', h1, h2, h3⟩ := this
          exact ⟨φ', w', h1, h2, h3⟩
        · simp at hs
      · simp at hs
    all_goals (exfalso; revert hs; (repeat' split) <;> simp_all)
  case cpy k x y =>
    cases op <;> simp only [stripOp, Option.map_eq_some_iff, reduceCtorEq, and_false, exists_false] at hs
    case call c =>
      obtain ⟨callee, args, ts⟩ := c
      cases callee with
      | invoke r m => simp [stripOp] at hs
      | value f => simp only [stripOp] at hs; split at hs <;> simp at hs
      | builtin bi =>
        cases bi <;> try (simp [stripOp] at hs; done)
        case delete =>
          simp only [stripOp] at hs
          split at hs
          · split at hs <;> simp at hs
          · simp at hs
        case copy =>
          simp only [stripOp] at hs
          split at hs
          · rename_i x0 y0 t u hargs hts
            split at hs
            · rename_i e' x' y' hu1 hx hy
              simp only [Option.map_eq_some_iff, AOp.cpy.injEq] at hs
              obtain ⟨k', hk, rfl, rfl, rfl⟩ := hs
              have ha : args.map a.eval = #[a.eval x0, a.eval y0] := by
                have : args = #[x0, y0] := by rw [← hargs]
                subst this
                simp only [List.map_toArray, List.map_cons, List.map_nil]
              have ht : ts = #[t, u] := by rw [← hts]
              obtain ⟨cs, hcs⟩ := run_builtin (P := P) (ρ := a.eval) (o := ⟨dst, .call ⟨.builtin .copy, args, ts⟩, type, pos, after, guard⟩) rfl
              have := (cpy_ok (P := P) (u := u) (ty := type) hH hu1 hk (hg.get x0 x' hx) (hg.get y0 y' hy) h hn).next
              obtain ⟨φ', w', h1, h2, h3⟩ := this
              refine ⟨φ', w', ?_, h2, h3⟩
              rw [hcs, ha, ht]
              exact h1
            · simp at hs
          · simp at hs
        case clear =>
          simp only [stripOp] at hs
          split at hs
          · split at hs
            · split at hs
              · split at hs <;> simp at hs
              · simp at hs
            · simp at hs
          · simp at hs
        case append =>
          simp only [stripOp] at hs
          split at hs
          · split at hs
            · split at hs
              · split at hs <;> simp at hs
              · simp at hs
            · simp at hs
          · simp at hs
        case len =>
          simp only [stripOp] at hs
          split at hs
          · split at hs <;> simp at hs
          · simp at hs
    all_goals (exfalso; revert hs; (repeat' split) <;> simp_all)
  case clr k z x =>
    cases op <;> simp only [stripOp, Option.map_eq_some_iff, reduceCtorEq, and_false, exists_false] at hs
    case call c =>
      obtain ⟨callee, args, ts⟩ := c
      cases callee with
      | invoke r m => simp [stripOp] at hs
      | value f => simp only [stripOp] at hs; split at hs <;> simp at hs
      | builtin bi =>
        cases bi <;> try (simp [stripOp] at hs; done)
        case delete =>
          simp only [stripOp] at hs
          split at hs
          · split at hs <;> simp at hs
          · simp at hs
        case clear =>
          simp only [stripOp] at hs
          split at hs
          · rename_i x0 t hargs hts
            split at hs
            · rename_i e' x' hu1 hx
              split at hs
              · rename_i z' k' hz' hk'
                split at hs
                · rename_i hcc
                  simp only [Option.some.injEq, AOp.clr.injEq] at hs
                  obtain ⟨rfl, rfl, rfl⟩ := hs
                  have ha : args.map a.eval = #[a.eval x0] := by
                    have : args = #[x0] := by rw [← hargs]
                    subst this
                    simp only [List.map_toArray, List.map_cons, List.map_nil]
                  have ht : ts = #[t] := by rw [← hts]
                  obtain ⟨cs, hcs⟩ := run_builtin (P := P) (ρ := a.eval) (o := ⟨dst, .call ⟨.builtin .clear, args, ts⟩, type, pos, after, guard⟩) rfl
                  have := (clr_ok (P := P) (ty := type) hH hu1 hz' hcc.1 hcc.2 (hg.get x0 x' hx) h hn).next
                  obtain ⟨φ', w', h1, h2, h3⟩ := this
                  refine ⟨φ', w', ?_, h2, h3⟩
                  rw [hcs, ha, ht]
                  exact h1
                · simp at hs
              · simp at hs
            · simp at hs
          · simp at hs
        case copy =>
          simp only [stripOp] at hs
          split at hs
          · split at hs <;> simp at hs
          · simp at hs
        case append =>
          simp only [stripOp] at hs
          split at hs
          · split at hs
            · split at hs
              · split at hs <;> simp at hs
              · simp at hs
            · simp at hs
          · simp at hs
        case len =>
          simp only [stripOp] at hs
          split at hs
          · split at hs <;> simp at hs
          · simp at hs
    all_goals (exfalso; revert hs; (repeat' split) <;> simp_all)
  case mp k ks z x y u =>
    cases op <;> simp only [stripOp, Option.map_eq_some_iff, reduceCtorEq, and_false, exists_false] at hs
    case makeMap t r =>
      cases r with
      | some q => simp [stripOp] at hs
      | none =>
        simp only [Option.map_eq_some_iff] at hs
        obtain ⟨⟨ks', z'⟩, hm, he⟩ := hs
        simp only [AOp.mp.injEq] at he
        obtain ⟨rfl, rfl, rfl, _⟩ := he
        obtain ⟨φ', w', h1, h2, h3⟩ := (make_ok (P := P) hH (t := t) h).next
        exact ⟨φ', w', h1, h2, h3⟩
    case lookup t x' y' ok =>
      split at hs
      · rename_i ks' z' x0 y0 hm hx hy
        simp only [Option.some.injEq, AOp.mp.injEq] at hs
        obtain ⟨rfl, rfl, rfl, rfl, rfl, rfl⟩ := hs
        obtain ⟨φ', w', h1, h2, h3⟩ := (look_ok (P := P) hH hm (hg.get x' x0 hx) (hg.get y' y0 hy) h hn).next
        exact ⟨φ', w', h1, h2, h3⟩
      · simp at hs
    case mapUpdate t m k' v' =>
      split at hs
      · rename_i ks' z' x0 y0 u0 hm hx hy hv
        simp only [Option.some.injEq, AOp.mp.injEq] at hs
        obtain ⟨rfl, rfl, rfl, rfl, rfl, rfl⟩ := hs
        obtain ⟨rfl, w', hr, h1, h2⟩ := put_ok (P := P) hH hm (hg.get m x0 hx) (hg.get k' y0 hy) (hg.get v' u0 hv) h hn
        exact ⟨φ, w', .inr ⟨by simp only [execOp, Sem.run_bind, hr, Result.andThen_ok, Sem.run_pure], rfl⟩, h1, h2⟩
      · simp at hs
    case call c =>
      obtain ⟨callee, args, ts⟩ := c
      cases callee with
      | invoke r m => simp [stripOp] at hs
      | value f => simp only [stripOp] at hs; split at hs <;> simp at hs
      | builtin bi =>
        cases bi <;> try (simp [stripOp] at hs; done)
        case delete =>
          simp only [stripOp] at hs
          split at hs
          · rename_i x0 y0 t t' hargs hts
            split at hs
            · rename_i ks' z' x1 y1 hm hx hy
              simp only [Option.some.injEq, AOp.mp.injEq] at hs
              obtain ⟨rfl, rfl, rfl, rfl, rfl, rfl⟩ := hs
              have ha : args.map a.eval = #[a.eval x0, a.eval y0] := by
                have : args = #[x0, y0] := by rw [← hargs]
                subst this
                simp only [List.map_toArray, List.map_cons, List.map_nil]
              have ht : ts = #[t, t'] := by rw [← hts]
              obtain ⟨cs, hcs⟩ := run_builtin (P := P) (ρ := a.eval) (o := ⟨dst, .call ⟨.builtin .delete, args, ts⟩, type, pos, after, guard⟩) rfl
              obtain ⟨φ', w', h1, h2, h3⟩ := (del_ok (P := P) (ty := type) (t' := t') hH hm (hg.get x0 x1 hx) (hg.get y0 y1 hy) h hn).next
              refine ⟨φ', w', ?_, h2, h3⟩
              rw [hcs, ha, ht]
              exact h1
            · simp at hs
          · simp at hs
        all_goals (exfalso; simp only [stripOp] at hs; revert hs; (repeat' split) <;> simp)
    all_goals (exfalso; revert hs; (repeat' split) <;> simp_all)
  case st1 x y =>
    cases op <;> simp only [stripOp, Option.map_eq_some_iff, reduceCtorEq, and_false, exists_false] at hs
    case store t a' v' =>
      split at hs
      · rename_i x' y' ht hsz hx hy
        simp only [Option.some.injEq, AOp.st1.injEq] at hs
        obtain ⟨rfl, rfl⟩ := hs
        split at h
        · rename_i p c e1 e2
          have g1 := hg.get a' x' hx
          have g2 := hg.get v' y' hy
          rw [e1] at g1
          rw [e2] at g2
          obtain ⟨rfl, w', hr, h1, h2⟩ := st1_ok (P := P) hH hsz h hn g1 g2
          exact ⟨φ, w', .inr ⟨by simp only [execOp, Sem.run_bind, hr, Result.andThen_ok, Sem.run_pure], rfl⟩, h1, h2⟩
        · simp at h
      · simp at hs
      · simp at hs
    all_goals (exfalso; revert hs; (repeat' split) <;> simp_all)
  case stn n x y =>
    cases op <;> simp only [stripOp, Option.map_eq_some_iff, reduceCtorEq, and_false, exists_false] at hs
    case store t a' v' =>
      split at hs
      · simp at hs
      · rename_i n' x' y' ht hsz hx hy
        simp only [Option.some.injEq, AOp.stn.injEq] at hs
        obtain ⟨rfl, rfl, rfl⟩ := hs
        split at h
        · rename_i p c e1 e2
          have g1 := hg.get a' x' hx
          have g2 := hg.get v' y' hy
          rw [e1] at g1
          rw [e2] at g2
          obtain ⟨rfl, w', hr, h1, h2⟩ := stn_ok (P := P) hH hsz h hn g1 g2
          exact ⟨φ, w', .inr ⟨by simp only [execOp, Sem.run_bind, hr, Result.andThen_ok, Sem.run_pure], rfl⟩, h1, h2⟩
        · simp at h
      · simp at hs
    all_goals (exfalso; revert hs; (repeat' split) <;> simp_all)
  case app k b e x y =>
    cases op <;> simp only [stripOp, Option.map_eq_some_iff, reduceCtorEq, and_false, exists_false] at hs
    case call c =>
      obtain ⟨callee, args, ts⟩ := c
      cases callee with
      | invoke r m => simp [stripOp] at hs
      | value f => simp only [stripOp] at hs; split at hs <;> simp at hs
      | builtin bi =>
        cases bi <;> try (simp [stripOp] at hs; done)
        case delete =>
          simp only [stripOp] at hs
          split at hs
          · split at hs <;> simp at hs
          · simp at hs
        case clear =>
          simp only [stripOp] at hs
          split at hs
          · split at hs
            · split at hs
              · split at hs <;> simp at hs
              · simp at hs
            · simp at hs
          · simp at hs
        case copy =>
          simp only [stripOp] at hs
          split at hs
          · split at hs <;> simp at hs
          · simp at hs
        case append =>
          simp only [stripOp] at hs
          split at hs
          · rename_i x0 y0 t u hargs hts
            split at hs
            · rename_i e' x' y' hu1 hx hy
              split at hs
              · rename_i k' b' z hk hb hz
                split at hs
                · rename_i hc
                  obtain ⟨rfl, hk0, hb0, hzk⟩ := hc
                  simp only [Option.some.injEq, AOp.app.injEq] at hs
                  obtain ⟨rfl, rfl, rfl, rfl, rfl⟩ := hs
                  have ha : args.map a.eval = #[a.eval x0, a.eval y0] := by
                    have : args = #[x0, y0] := by rw [← hargs]
                    subst this
                    simp only [List.map_toArray, List.map_cons, List.map_nil]
                  have ht : ts = #[t, t] := by rw [← hts]
                  obtain ⟨cs, hcs⟩ := run_builtin (P := P) (ρ := a.eval) (o := ⟨dst, .call ⟨.builtin .append, args, ts⟩, type, pos, after, guard⟩) rfl
                  have := (app_ok (P := P) (ty := type) hH hu1 hk hb hz hk0 hb0 hzk (hg.get x0 x' hx) (hg.get y0 y' hy) h hn).next
                  obtain ⟨φ', w', h1, h2, h3⟩ := this
                  refine ⟨φ', w', ?_, h2, h3⟩
                  rw [hcs, ha, ht]
                  exact h1
                · simp at hs
              · simp at hs
            · simp at hs
          · simp at hs
        case len =>
          simp only [stripOp] at hs
          split at hs
          · split at hs <;> simp at hs
          · simp at hs
    all_goals (exfalso; revert hs; (repeat' split) <;> simp_all)
  all_goals (exfalso; revert h; (repeat' split) <;> simp)

theorem argsOf_rel {g : Opd → AV} {ρ : Operand → Value} (hg : ∀ x y, opd x = some y → relA φ (g y) (ρ x)) : ∀ (l : List Operand) (m : List Opd), opds l = some m → F2 (relA φ) (argsOf g m) (l.map ρ)
  | [], m, h => by simp only [opds, Option.some.injEq] at h; subst h; exact .nil
  | x :: r, m, h => by
    simp only [opds] at h
    split at h
    · rename_i y l hy hl
      simp only [Option.some.injEq] at h
      subst h
      exact .cons (hg x y hy) (argsOf_rel hg r l hl)
    · simp at h

theorem appL_eq (a b : List AV) : appL a b = a ++ b := by induction a <;> simp [appL, *]
theorem ptrsOf_rel {l : List AA} {m : List Value} (h : F2 (relP φ) l m) : F2 (relA φ) (ptrsOf l) m := by
  induction h with
  | nil => exact .nil
  | cons h _ ih => exact .cons h ih

def Enters (P : Program) (f : FuncId) : Prop := ∃ fn, P.funcs[f]? = some fn ∧ (fn.name == "runtime.NumGoroutine") = false ∧ fn.body.isNone = false

theorem op_call {o : Oper} {ao : AOp} (hs : stripOp P o.op = some ao) {s : St} {π : Path} {a : Act} (hg : Gets φ s π a) {f : FuncId} {args : List AV} (h : aop s π ao = .call f args) (hf : Enters P f) :
    ∃ xs, (∀ w, (execOp a.eval o).run P w = .ok (.enter f xs) w) ∧ F2 (relA φ) args xs.toList := by
  obtain ⟨dst, op, type, pos, after, guard⟩ := o
  simp only at hs
  cases ao <;> simp only [aop] at h
  case call fo aq =>
    split at h
    · rename_i g l m e
      simp only [Res.call.injEq] at h
      obtain ⟨rfl, rfl⟩ := h
      cases op <;> simp only [stripOp, Option.map_eq_some_iff, reduceCtorEq, and_false, exists_false] at hs
      case call c =>
        obtain ⟨callee, args, ts⟩ := c
        cases callee with
        | invoke r m => simp [stripOp] at hs
        | builtin bi =>
          exfalso
          cases bi <;> try (simp [stripOp] at hs; done)
          all_goals (simp only [stripOp] at hs; revert hs; (repeat' split) <;> simp)
        | value fv =>
          simp only [stripOp] at hs
          split at hs
          · rename_i f' as' hf' has
            simp only [Option.some.injEq, AOp.call.injEq] at hs
            obtain ⟨rfl, rfl⟩ := hs
            have hv := hg.get fv f' hf'
            rw [e] at hv
            obtain ⟨l', m', hev, hl, hm⟩ := hv
            obtain ⟨fn, q1, q2, q3⟩ := hf
            refine ⟨l' ++ args.map a.eval ++ m', fun w => ?_, ?_⟩
            · simp only [execOp, resolve, hev, Deferred.ofValue, Sem.run_bind, Sem.run_pure, Result.andThen_ok, invoke, callFunc, run_program, q1, q2, q3, Bool.false_eq_true, if_false]
            · rw [appL_eq, appL_eq]
              simp only [Array.toList_append, Array.toList_map, List.append_assoc]
              exact (ptrsOf_rel hl).append ((argsOf_rel hg.get _ _ has).append (ptrsOf_rel hm))
          · simp at hs
      all_goals (exfalso; revert hs; (repeat' split) <;> simp_all)
    · simp at h
    · simp at h
  all_goals (exfalso; revert h)
  all_goals first
    | (unfold ld1; (repeat' split) <;> simp; done)
    | (unfold ldn; (repeat' split) <;> simp; done)
    | ((repeat' split) <;> simp; done)
    | (unfold bin shiftR arith; (repeat' split) <;> simp; done)
    | (unfold eqB; (repeat' split) <;> simp; done)
    | (unfold eqS; (repeat' split) <;> simp; done)
    | (unfold nilq; (repeat' split) <;> simp; done)
    | (unfold un; (repeat' split) <;> simp; done)
    | (unfold slcS; (repeat' split) <;> simp; done)
    | (unfold fieldOf; (repeat' split) <;> simp; done)
    | (unfold st1; (repeat' split) <;> simp; done)
    | (unfold stn; (repeat' split) <;> simp; done)
    | (unfold app; (repeat' split) <;> simp; done)
    | (unfold eqT; (repeat' split) <;> simp; done)
    | (unfold idxT; (repeat' split) <;> simp; done)
    | (unfold cat; (repeat' split) <;> simp; done)
    | (unfold cpy; (repeat' split) <;> simp; done)
    | (unfold tob; (repeat' split) <;> simp; done)
    | (unfold clr; (repeat' split) <;> simp; done)
    | (unfold mapR mapR1; (repeat' split) <;> simp; done)

end Go.AM

namespace Go.AM
set_option linter.unusedVariables false
set_option linter.unusedSimpArgs false
variable {P : Program} {φ : Emb} {w : World}

theorem slotAt_num : ∀ (l : List Slot) (n : Nat) (sl : Slot), slotAt l n = some sl → sl.n = n
  | [], n, sl, h => by simp [slotAt] at h
  | ⟨k, p, v⟩ :: r, n, sl, h => by
    simp only [slotAt] at h
    split at h
    · rename_i hb
      simp only [Option.some.injEq] at h
      subst h
      exact Nat.eq_of_beq_eq_true hb
    · exact slotAt_num r n sl h

theorem slotAt_cons_self (l : List Slot) (n : Nat) (p : Path) (v : AV) : slotAt (⟨n, p, v⟩ :: l) n = some ⟨n, p, v⟩ := by simp [slotAt, Nat.beq_refl]
theorem slotAt_cons_ne {l : List Slot} {n m : Nat} {p : Path} {v : AV} (h : m ≠ n) : slotAt (⟨n, p, v⟩ :: l) m = slotAt l m := by
  have : Nat.beq n m = false := by
    cases hk : Nat.beq n m with
    | false => rfl
    | true => exact absurd (Nat.eq_of_beq_eq_true hk).symm h
  simp [slotAt, this]

theorem beqb_eq {a b : Bool} (h : beqb a b = true) : a = b := by cases a <;> cases b <;> first | rfl | cases h

theorem eqP_eq {l : List Slot} : ∀ {p q : Path}, pathOk l p → pathOk l q → eqP p q = true → p = q
  | [], [], _, _, _ => rfl
  | [], _ :: _, _, _, h => by simp [eqP] at h
  | _ :: _, [], _, _, h => by simp [eqP] at h
  | (d, w, b) :: p, (d', w', b') :: q, hp, hq, h => by
    simp only [eqP] at h
    split at h
    · rename_i h1
      split at h
      · rename_i h2
        have e1 := Nat.eq_of_beq_eq_true h1
        have e2 := beqb_eq h2
        subst e1
        subst e2
        have := hp.1.symm.trans hq.1
        simp only [Option.some.injEq, Slot.mk.injEq, AV.c.injEq, CV.bool.injEq] at this
        rw [this.2.1, this.2.2]
      · simp at h
    · simp at h

theorem sfx_conds {l : List Slot} {p : Path} (hp : pathOk l p) : ∀ {π : Path}, pathOk l π → conds π → sfx p π = true → conds p
  | [], hπ, hc, h => by
    simp only [sfx] at h
    rw [eqP_eq hp hπ h]
    exact hc
  | (d, w, b) :: r, hπ, hc, h => by
    simp only [sfx] at h
    split at h
    · rename_i he
      rw [eqP_eq hp hπ he]
      exact hc
    · exact sfx_conds hp hπ.2 hc.2 h

structure SlotOkE (φ : Emb) (a : Act) (E : List Slot) (n : Nat) (sl : Slot) : Prop where
  num : sl.n = n
  on : conds sl.path → relA φ sl.v (a.tmps.getD n undef)
  off : sl.v = .bot ∨ (¬ conds sl.path → a.tmps.getD n undef = undef)
  path : pathOk E sl.path
  same : sl.v = .bot ∨ slotAt E n = some sl
def SOkE (φ : Emb) (E l : List Slot) (a : Act) : Prop := ∀ n sl, slotAt l n = some sl → SlotOkE φ a E n sl
theorem SOk.toE {l : List Slot} {a : Act} {K : List Nat} (h : SOk φ l a K) : SOkE φ l l a := fun n sl hs =>
  let k := h n sl hs
  ⟨k.num, k.on, .inr k.off, k.path, .inr hs⟩

theorem gets_of {E l : List Slot} {H : Heap} {a : Act} (hS : SOkE φ E l a) {π : Path} (hπ : pathOk E π) (hc : conds π) : Gets φ ⟨l, H⟩ π a where
  get := fun x y h => by
    cases x with
    | tmp t =>
      simp only [opd, Option.some.injEq] at h
      subst h
      simp only [St.get]
      cases hs : slotAt l t with
      | none => trivial
      | some sl =>
        obtain ⟨n, p, v⟩ := sl
        simp only
        split
        · rename_i hx
          have hk := hS t _ hs
          exact hk.on (sfx_conds hk.path hπ hc hx)
        · trivial
    | const v =>
      obtain ⟨u, rfl, hu⟩ := opd_const φ h
      exact hu
    | global g => simp [opd] at h
    | func f =>
      obtain ⟨u, rfl, hu⟩ := opd_func φ h
      exact hu
  cs := fun cs => by
    simp only [St.get]
    cases hs : slotAt l cs with
    | none => trivial
    | some sl =>
      obtain ⟨n, p, v⟩ := sl
      simp only
      split
      · rename_i hx
        have hk := hS cs _ hs
        exact hk.on (sfx_conds hk.path hπ hc hx)
      · trivial
  sel := fun cs x y want c h hcs hcw => by
    cases x with
    | tmp t =>
      simp only [opd, Option.some.injEq] at h
      subst h
      simp only [getsl]
      cases hs : slotAt l t with
      | none => trivial
      | some sl =>
        obtain ⟨n, p, v⟩ := sl
        have hk := hS t _ hs
        simp only
        split
        · rename_i hx
          exact hk.on (sfx_conds hk.path hπ hc hx)
        · split
          · rename_i j w b q
            split
            · rename_i hj
              split
              · rename_i hw
                split
                · rename_i hx
                  have ej := Nat.eq_of_beq_eq_true hj
                  have ew := beqb_eq hw
                  subst ej
                  subst ew
                  have hpo := hk.path
                  refine hk.on ⟨?_, sfx_conds hpo.2 hπ hc hx⟩
                  simp only [St.get] at hcs
                  split at hcs
                  · rename_i m p' v' hs'
                    split at hcs
                    · subst hcs
                      have := (hS _ _ hs').same.resolve_left (by simp)
                      rw [hpo.1] at this
                      simp only [Option.some.injEq, Slot.mk.injEq, AV.c.injEq, CV.bool.injEq] at this
                      rw [this.2.2, hcw]
                    · simp at hcs
                  · simp at hcs
                · trivial
              · trivial
            · trivial
          · trivial
    | const v =>
      obtain ⟨u, rfl, hu⟩ := opd_const φ h
      exact hu
    | global g => simp [opd] at h
    | func f =>
      obtain ⟨u, rfl, hu⟩ := opd_func φ h
      exact hu

theorem gpath_ok {E l : List Slot} {H : Heap} {a : Act} (hS : SOkE φ E l a) {g : Option (Nat × Bool)} {π : Path} (h : gpath ⟨l, H⟩ g = some π) :
    pathOk E π ∧ (g = none → π = []) ∧ (∀ d w, g = some (d, w) → ∃ p b, slotAt l d = some ⟨d, p, .c (.bool b)⟩ ∧ π = (d, w, b) :: p) := by
  cases g with
  | none => simp only [gpath, Option.some.injEq] at h; subst h; exact ⟨trivial, fun _ => rfl, fun d w e => by cases e⟩
  | some g =>
    obtain ⟨d, w⟩ := g
    simp only [gpath] at h
    split at h
    · rename_i n p b hs
      simp only [Option.some.injEq] at h
      subst h
      have hk := hS d _ hs
      have hn : n = d := hk.num
      subst hn
      exact ⟨⟨hk.same.resolve_left (by simp), hk.path⟩, fun e => (by cases e), fun d' w' e => by cases e; exact ⟨p, b, hs, rfl⟩⟩
    · simp at h

structure Corr (P : Program) (N : Nat) (ops : Array Oper) (o : Oper) (ao : AOper) : Prop where
  dst : ao.dst = o.dst
  op : stripOp P o.op = some ao.op ∨ ao.op = .other
  lt : ao.op = .other ∨ ∀ d, o.dst = some d → d < N
  guard : (o.guard = none ∧ ao.guard = none) ∨ ao.op = .other ∨ ∃ j w d, o.guard = some (j, w) ∧ dstOf ops j = some d ∧ ao.guard = some (d, w)

theorem corr_strip (P : Program) (N : Nat) (ops : Array Oper) (draw : Bool) (i : Nat) (o : Oper) : Corr P N ops o (stripOper P N ops draw i o) := by
  have hop : ∀ c : Bool, (if c = true then (stripOp P o.op).getD .other else .other) = AOp.other ∨ c = true ∧ stripOp P o.op = some (if c = true then (stripOp P o.op).getD .other else .other) := by
    intro c
    cases c with
    | false => exact .inl rfl
    | true => cases h : stripOp P o.op <;> simp
  generalize hc : (o.dst.all (· < N) && (match o.guard with | none => true | some (j, _) => (dstOf ops j).isSome)) = c at *
  have e : (stripOper P N ops draw i o).op = if c = true then (stripOp P o.op).getD .other else .other := by rw [← hc]; rfl
  have hk := hop c
  rw [← e] at hk
  refine ⟨rfl, hk.symm.imp (fun h => h.2) id, ?_, ?_⟩
  · rcases hk with h | ⟨rfl, _⟩
    · exact .inl h
    · simp only [Bool.and_eq_true, Option.all_eq_true, decide_eq_true_eq] at hc
      exact .inr fun d hd => hc.1 d (by simp [hd])
  · rcases hk with h | ⟨rfl, _⟩
    · exact .inr (.inl h)
    · have hg : (stripOper P N ops draw i o).guard = match o.guard with | none => none | some (j, w) => (dstOf ops j).map fun d => (d, w) := rfl
      rw [hg]
      cases hgo : o.guard with
      | none => exact .inl ⟨rfl, rfl⟩
      | some g =>
        obtain ⟨j, w⟩ := g
        rw [hgo] at hc
        simp only [Bool.and_eq_true] at hc
        obtain ⟨d, hd⟩ := Option.isSome_iff_exists.1 hc.2
        exact .inr (.inr ⟨j, w, d, rfl, hd, by simp [hd]⟩)

theorem aop_other {s : St} {π : Path} : aop s π .other = .bad := rfl

theorem wanted_iff {N : Nat} {ops : Array Oper} {o : Oper} {ao : AOper} (hc : Corr P N ops o ao) (hno : ao.op ≠ .other) {E l : List Slot} {H : Heap} {a : Act} (hS : SOkE φ E l a) {π : Path} (h : gpath ⟨l, H⟩ ao.guard = some π) :
    (Region.wanted o (yielded ops a.tmps) = true ↔ conds π) := by
  obtain ⟨hπ, h1, h2⟩ := gpath_ok hS h
  rcases hc.guard with ⟨e1, e2⟩ | e | ⟨j, w, d, e1, e2, e3⟩
  · rw [h1 e2]
    simp [Region.wanted, e1, conds]
  · exact absurd e hno
  · obtain ⟨p, b, hs, rfl⟩ := h2 d w e3
    have hk := hS d _ hs
    have hy : yielded ops a.tmps j = match a.tmps[d]? with | some (.bool b) => some b | _ => none := by
      unfold yielded
      unfold dstOf at e2
      rw [e2]
      simp only [Option.bind_some]
      cases a.tmps[d]? <;> rfl
    simp only [Region.wanted, e1, hy, conds]
    by_cases hcp : conds p
    · have := hk.on hcp
      have hv : a.tmps.getD d undef = .bool b := this
      have hsome : a.tmps[d]? = some (.bool b) := by
        rw [Array.getD_eq_getD_getElem?] at hv
        cases ht : a.tmps[d]? with
        | none => rw [ht] at hv; simp [undef] at hv
        | some x => rw [ht] at hv; simp at hv; rw [hv]
      rw [hsome]
      cases b <;> cases w <;> simp [hcp]
    · have hv := hk.off.resolve_left (by simp) hcp
      have hn : ∀ b', a.tmps[d]? ≠ some (.bool b') := fun b' e => by
        rw [Array.getD_eq_getD_getElem?, e] at hv
        simp [undef] at hv
      constructor
      · intro hh
        exfalso
        cases ht : a.tmps[d]? with
        | none => rw [ht] at hh; simp at hh
        | some x => cases x <;> first | exact hn _ ht | (rw [ht] at hh; simp at hh)
      · intro hh; exact absurd hh.2 hcp

theorem imp_apply : ∀ {π : Path} {p : Prop}, imp π p → conds π → p
  | [], p, h, _ => h
  | (_, _, _) :: r, p, h, hc => imp_apply (h hc.1) hc.2

end Go.AM

namespace Go.AM
set_option linter.unusedVariables false
set_option linter.unusedSectionVars false
set_option linter.unusedSimpArgs false
variable {P : Program} {φ : Emb} {w : World}

def Con (P : Program) : ConT := fun f args H R => Enters P f ∧ ∀ φ w (xs : Array Value), F2 (relA φ) args xs.toList → HRel φ H w →
  Calls P f xs w fun e w' => ∃ φ' v x H', e = .returned x ∧ R v H' ∧ relA φ' v x ∧ HRel φ' H' w' ∧ Fr φ H w φ' H' w'

variable {F : Fence} [Wide F]
def stp (F : Fence) (P : Program) (ops : Array Oper) (Q : Exit → Act → World → Prop) (o : Oper) (K : Act → World → Prop) (a : Act) (w : World) : Prop :=
  if Region.wanted o (yielded ops a.tmps) then o.wpIn F 0 P a w K Q else K (a.put o.dst undef) w

theorem wpList_stp {ops : Array Oper} {Q : Exit → Act → World → Prop} {o : Oper} {r : List Oper} {a : Act} (h : stp F P ops Q o (wpListIn F 0 P ops Q r) a w) : wpListIn F 0 P ops Q (o :: r) a w := by
  unfold stp at h
  simp only [wpListIn]
  split
  · rename_i hw; rwa [if_pos hw] at h
  · rename_i hw; rw [if_neg hw] at h; exact ⟨fun f _ => Wide.fn f, h⟩
theorem wpOp_stp {ops : Array Oper} {Q : Exit → Act → World → Prop} {o : Oper} {i : Nat} (hi : ops[i]? = some o) {K : Act → World → Prop} {a : Act} (h : stp F P ops Q o K a w) : wpOpIn F 0 P ops Q i K a w := by
  unfold wpOpIn
  unfold stp at h
  simp only [hi]
  split
  · rename_i hw; rwa [if_pos hw] at h
  · rename_i hw; rw [if_neg hw] at h; exact ⟨fun f _ => Wide.fn f, h⟩
theorem strip_nodefer {op : Op} {ao : AOp} (hs : stripOp P op = some ao) : ∀ c, op ≠ .defer c := by
  intro c e
  subst e
  simp [stripOp] at hs
theorem wp_op {o : Oper} {ao : AOp} (hs : stripOp P o.op = some ao) {a : Act} {K : Act → World → Prop} {Q : Exit → Act → World → Prop} (h : o.uponIn F 0 P a K Q ((execOp a.eval o).run P w)) : o.wpIn F 0 P a w K Q := by
  refine ⟨fun f _ => Wide.fn f, ?_⟩
  rw [Oper.semAt_eq F.round a.eval o (strip_nodefer hs)]
  exact h
theorem up_value {o : Oper} {a : Act} {K : Act → World → Prop} {Q : Exit → Act → World → Prop} {x : Value} {w' : World} {r : Result Next} (e : r = .ok (.value x) w') (h : K (a.put o.dst x) w') : o.uponIn F 0 P a K Q r := by rw [e]; exact h
theorem up_skip {o : Oper} {a : Act} {K : Act → World → Prop} {Q : Exit → Act → World → Prop} {w' : World} {r : Result Next} (e : r = .ok .skip w') (h : K (a.put o.dst undef) w') : o.uponIn F 0 P a K Q r := by rw [e]; exact h
theorem up_enter {o : Oper} {a : Act} {K : Act → World → Prop} {Q : Exit → Act → World → Prop} {f : FuncId} {args : Array Value} {w' : World} {r : Result Next} (e : r = .ok (.enter f args) w')
    (h : Calls P f args w' fun e w'' => ∃ x, e = .returned x ∧ K (a.put o.dst x) w'') : o.uponIn F 0 P a K Q r := by
  rw [e, Oper.uponIn_enter]
  refine ⟨fun hd => (by rw [Wide.depth] at hd; cases hd), Wide.calls.2 (h.mono ?_)⟩
  rintro e w'' ⟨x, rfl, hk⟩
  exact hk

def NewB (c : Prop) (φ φ' : Emb) (n : Nat) (w w' : World) : Option Blk → Prop
  | none => φ' = φ ∧ w' = w
  | some B => (c ∧ ∃ cs cap, φ' = φ.ins n ⟨w.heap.size, 0, B.str, cap⟩ ∧ w' = w.alloc (.cells cs B.elem) ∧ BRel φ' B ⟨w.heap.size, 0, B.str, cap⟩ w') ∨ (¬ c ∧ φ' = φ ∧ w' = w)

theorem step_p {N : Nat} {ops : Array Oper} {Q : Exit → Act → World → Prop} {o : Oper} {ao : AOper} (hc : Corr P N ops o ao) {E l : List Slot} {H : Heap} {a : Act} (hS : SOkE φ E l a) (hH : HRel φ H w) {π : Path} (hg : gpath ⟨l, H⟩ ao.guard = some π)
    {need : Option Prop} {v : AV} {B : Option Blk} (ha : aop ⟨l, H⟩ π ao.op = .p need v B) (hn : imp π (needP need)) {KK : Act → World → Prop}
    (k : ∀ φ' x w', NewB (conds π) φ φ' H.next w w' B → (conds π → relA φ' v x) → (¬ conds π → x = undef) → KK (a.put o.dst x) w') : stp F P ops Q o KK a w := by
  have hno : ao.op ≠ .other := fun e => by rw [e] at ha; simp [aop_other] at ha
  have hw := wanted_iff hc hno hS hg
  obtain ⟨hπ, _, _⟩ := gpath_ok hS hg
  unfold stp
  by_cases hcd : conds π
  · rw [if_pos (hw.2 hcd)]
    have hy := op_p (hc.op.resolve_right hno) (gets_of (H := H) hS hπ hcd) hH.blk (hH.fresh _ (Nat.le_refl _)) ha (imp_apply hn hcd)
    refine wp_op (hc.op.resolve_right hno) ?_
    cases B with
    | none =>
      obtain ⟨x, h1, h2⟩ := hy
      exact up_value h1 (k φ x w ⟨rfl, rfl⟩ (fun _ => h2) (fun h => absurd hcd h))
    | some B =>
      obtain ⟨x, cs, cap, h1, h2, h3⟩ := hy
      exact up_value h1 (k _ x _ (.inl ⟨hcd, cs, cap, rfl, rfl, h3⟩) (fun _ => h2) (fun h => absurd hcd h))
  · rw [if_neg (fun e => hcd (hw.1 e))]
    exact k φ undef w (by cases B <;> first | exact ⟨rfl, rfl⟩ | exact .inr ⟨hcd, rfl, rfl⟩) (fun h => absurd h hcd) (fun _ => rfl)

theorem NewB.hrel {c : Prop} {φ' : Emb} {H : Heap} {w' : World} {B : Option Blk} (h : NewB c φ φ' H.next w w' B) (hH : HRel φ H w) : HRel φ' (addBlk H B) w' ∧ Fr φ H w φ' (addBlk H B) w' := by
  have hf := hH.fresh _ (Nat.le_refl _)
  cases B with
  | none => obtain ⟨rfl, rfl⟩ := h; exact ⟨hH, Fr.refl _ _ _⟩
  | some B =>
    rcases h with ⟨_, cs, cap, rfl, rfl, hb⟩ | ⟨_, rfl, rfl⟩
    · refine HRel.renew (w' := w.alloc (.cells cs B.elem)) hH (p := ⟨w.heap.size, 0, B.str, cap⟩) (fun _ _ h => h) rfl rfl rfl ?_ hb ?_ (og := none) (fun g hg => by cases hg) (.inl (Nat.le_refl _)) (fun b hb' _ => heap_alloc_lt w _ hb')
      · simp
      · simp
    · exact hH.grown rfl rfl rfl (Nat.le_refl _) (fun _ _ => rfl) (by simp [addBlk]) fun j D hj hne => by
        have : j ≠ H.next := fun e => hne (by rw [e]; exact hf)
        simpa [addBlk, getB_cons_ne this] using hj

theorem step_t0 {N : Nat} {ops : Array Oper} {Q : Exit → Act → World → Prop} {o : Oper} {ao : AOper} (hc : Corr P N ops o ao) {E l : List Slot} {H : Heap} {a : Act} (hS : SOkE φ E l a) (hH : HRel φ H w) (hg : gpath ⟨l, H⟩ ao.guard = some [])
    {need : Option Prop} {v : AV} {H' : Heap} (ha : aop ⟨l, H⟩ [] ao.op = .t need v H') (hn : needP need) {KK : Act → World → Prop}
    (k : ∀ φ' x w', HRel φ' H' w' → Fr φ H w φ' H' w' → relA φ' v x → KK (a.put o.dst x) w') : stp F P ops Q o KK a w := by
  have hno : ao.op ≠ .other := fun e => by rw [e] at ha; simp [aop_other] at ha
  have hw := wanted_iff hc hno hS hg
  unfold stp
  rw [if_pos (hw.2 trivial)]
  obtain ⟨φ', w', h1, h2, h3⟩ := op_t (hc.op.resolve_right hno) (gets_of (H := H) hS (π := []) trivial trivial) hH ha hn
  refine wp_op (hc.op.resolve_right hno) ?_
  rcases h1 with ⟨x, h1, hr⟩ | ⟨h1, rfl⟩
  · exact up_value h1 (k φ' x w' h2 h3 hr)
  · exact up_skip h1 (k φ' undef w' h2 h3 trivial)

theorem step_call {N : Nat} {ops : Array Oper} {Q : Exit → Act → World → Prop} {o : Oper} {ao : AOper} (hc : Corr P N ops o ao) {E l : List Slot} {H : Heap} {a : Act} (hS : SOkE φ E l a) (hH : HRel φ H w) {π : Path} (hg : gpath ⟨l, H⟩ ao.guard = some π)
    {f : FuncId} {args : List AV} (ha : aop ⟨l, H⟩ π ao.op = .call f args) {R : Post} (hcon : imp π (Con P f args H R)) {KK : Act → World → Prop}
    (k : ∀ φ' v x w' H', conds π → R v H' → HRel φ' H' w' → Fr φ H w φ' H' w' → relA φ' v x → KK (a.put o.dst x) w') (k' : ¬ conds π → KK (a.put o.dst undef) w) : stp F P ops Q o KK a w := by
  have hno : ao.op ≠ .other := fun e => by rw [e] at ha; simp [aop_other] at ha
  have hw := wanted_iff hc hno hS hg
  obtain ⟨hπ, _, _⟩ := gpath_ok hS hg
  unfold stp
  by_cases hcd : conds π
  · rw [if_pos (hw.2 hcd)]
    obtain ⟨hent, hcalls⟩ := imp_apply hcon hcd
    obtain ⟨xs, h1, h2⟩ := op_call (hc.op.resolve_right hno) (gets_of (H := H) hS hπ hcd) ha hent
    refine wp_op (hc.op.resolve_right hno) (up_enter (h1 w) ?_)
    refine (hcalls φ w xs h2 hH).mono fun e w' ⟨φ', v, x, H', he, hR, hv, hh, hfr⟩ => ?_
    exact ⟨x, he, k φ' v x w' H' hcd hR hh hfr hv⟩
  · rw [if_neg (fun e => hcd (hw.1 e))]
    exact k' hcd

structure Grow (w w' : World) : Prop where
  os : w'.os = w.os
  tape : w'.tape = w.tape
  output : w'.output = w.output
  size : w.heap.size ≤ w'.heap.size
  block : ∀ b, b < w.heap.size → w'.heap[b]? = w.heap[b]?

theorem getB_roL : ∀ (l : List (Nat × Blk)) (i : Nat), getB (roL l) i = (getB l i).map fun B => ⟨B.str, B.sz, B.row, B.elem, false⟩
  | [], _ => rfl
  | (j, ⟨s, n, r, e, b⟩) :: l, i => by
    simp only [roL, getB]
    cases Nat.beq j i with
    | true => rfl
    | false => exact getB_roL l i

theorem HRel.ro {H : Heap} (h : HRel φ H w) : HRel φ (roH H) w where
  blk := fun i B p hB hp => by
    simp only [roH, getB_roL, Option.map_eq_some_iff] at hB
    obtain ⟨C, hC, rfl⟩ := hB
    have hb := h.blk i C p hC hp
    exact ⟨hb.str, hb.rows, fun e => by cases e⟩
  inj := fun i j B C p q hB hC hp hq hne hw => by
    simp only [roH, getB_roL, Option.map_eq_some_iff] at hB
    obtain ⟨D, _, rfl⟩ := hB
    cases hw
  fresh := h.fresh
  lt := h.lt

theorem addBs_next : ∀ (N : List Blk) (H : Heap), (addBs H N).next = H.next + N.length
  | [], H => rfl
  | B :: N, H => by simp only [addBs, addBs_next N, List.length_cons]; omega
theorem addBs_lo : ∀ (N : List Blk) (H : Heap) (id : Nat), id < H.next → getB (addBs H N).blks id = getB H.blks id
  | [], H, id, h => rfl
  | B :: N, H, id, h => by
    simp only [addBs]
    rw [addBs_lo N _ id (by simp; omega), getB_cons_ne (by omega)]
theorem addBs_hi : ∀ (N : List Blk) (H : Heap) (q : Nat), q < N.length → getB (addBs H N).blks (H.next + q) = N[q]?
  | [], H, q, h => by simp at h
  | B :: N, H, q, h => by
    simp only [addBs]
    cases q with
    | zero => rw [addBs_lo N _ _ (by simp)]; simp [getB, Nat.beq_refl]
    | succ q =>
      have := addBs_hi N ⟨H.next + 1, (H.next, B) :: H.blks⟩ q (by simpa using h)
      simp only at this
      rw [show H.next + (q + 1) = H.next + 1 + q by omega, this]
      simp
theorem allW_get : ∀ {N : List Blk}, allW N = true → ∀ {q : Nat} {B : Blk}, N[q]? = some B → B.wr = true
  | [], _, q, B, h => by simp at h
  | C :: N, hw, q, B, h => by
    simp only [allW] at hw
    split at hw
    · rename_i hC
      cases q with
      | zero => simp at h; subst h; exact hC
      | succ q => exact allW_get hw (by simpa using h)
    · cases hw

structure Made (φ : Emb) (H : Heap) (w : World) (N : List Blk) (φ' : Emb) (w' : World) : Prop where
  gr : Grow w w'
  same : ∀ i, i < H.next → φ' i = φ i
  fresh : ∀ i, H.next + N.length ≤ i → φ' i = none
  new : ∀ i p, H.next ≤ i → φ' i = some p → w.heap.size ≤ p.blk ∧ p.blk < w'.heap.size ∧ ∃ B, getB (addBs H N).blks i = some B ∧ BRel φ' B p w'
  inj : ∀ i j p q, H.next ≤ i → H.next ≤ j → φ' i = some p → φ' j = some q → i ≠ j → p.blk ≠ q.blk
theorem made_of {H : Heap} {N : List Blk} {φ' : Emb} {w' : World} (hN : allW N = true) (h : HRel φ' (addBs (roH H) N) w') (hf : Fr φ (roH H) w φ' (addBs (roH H) N) w') : Made φ H w N φ' w' := by
  have hnx : (addBs (roH H) N).next = H.next + N.length := addBs_next N _
  have hnew : ∀ i p, H.next ≤ i → φ' i = some p → ∃ B, getB (addBs (roH H) N).blks i = some B ∧ getB (addBs H N).blks i = some B ∧ B.wr = true := fun i p hi hp => by
    have hlt : i < H.next + N.length := by
      rcases Nat.lt_or_ge i (H.next + N.length) with h' | h'
      · exact h'
      · rw [h.fresh i (by omega)] at hp; cases hp
    obtain ⟨q, rfl⟩ : ∃ q, i = H.next + q := ⟨i - H.next, by omega⟩
    have hq : q < N.length := by omega
    refine ⟨N[q], ?_, ?_, allW_get hN (List.getElem?_eq_getElem hq)⟩
    · exact (addBs_hi N (roH H) q hq).trans (List.getElem?_eq_getElem hq)
    · rw [addBs_hi N H q hq]; exact List.getElem?_eq_getElem hq
  refine ⟨⟨hf.os, hf.tape, hf.output, hf.size, fun b hb => hf.old b hb fun i B p hB hBw _ => ?_⟩, fun i hi => hf.same i hi, fun i hi => h.fresh i (by omega), fun i p hi hp => ?_, fun i j p q hi hj hp hq hne => ?_⟩
  · simp only [roH, getB_roL, Option.map_eq_some_iff] at hB
    obtain ⟨D, _, rfl⟩ := hB
    cases hBw
  · obtain ⟨B, h1, h2, h3⟩ := hnew i p hi hp
    refine ⟨?_, h.lt i p hp, B, h2, h.blk i B p h1 hp⟩
    rcases hf.own i B p h1 h3 hp with h' | ⟨j, C, q, g1, g2, _, _⟩
    · exact h'
    · simp only [roH, getB_roL, Option.map_eq_some_iff] at g1
      obtain ⟨D, _, rfl⟩ := g1
      cases g2
  · obtain ⟨B, h1, _, h3⟩ := hnew i p hi hp
    obtain ⟨C, k1, _, _⟩ := hnew j q hj hq
    exact h.inj i j B C p q h1 k1 hp hq hne h3

theorem step_quiet {N : Nat} {ops : Array Oper} {Q : Exit → Act → World → Prop} {o : Oper} {ao : AOper} (hc : Corr P N ops o ao) {E l : List Slot} {H : Heap} {a : Act} (hS : SOkE φ E l a) (hH : HRel φ H w) {π : Path} (hg : gpath ⟨l, H⟩ ao.guard = some π)
    {f : FuncId} {args : List AV} (ha : aop ⟨l, H⟩ π ao.op = .call f args) {v : AV} {M : List Blk} (hM : allW M = true) (hcon : imp π (Con P f args (roH H) (fun v' H' => v' = v ∧ H' = addBs (roH H) M))) {KK : Act → World → Prop}
    (k : ∀ φ' x w', conds π → Made φ H w M φ' w' → relA φ' v x → KK (a.put o.dst x) w') (k' : ¬ conds π → KK (a.put o.dst undef) w) : stp F P ops Q o KK a w := by
  have hno : ao.op ≠ .other := fun e => by rw [e] at ha; simp [aop_other] at ha
  have hw := wanted_iff hc hno hS hg
  obtain ⟨hπ, _, _⟩ := gpath_ok hS hg
  unfold stp
  by_cases hcd : conds π
  · rw [if_pos (hw.2 hcd)]
    obtain ⟨hent, hcalls⟩ := imp_apply hcon hcd
    obtain ⟨xs, h1, h2⟩ := op_call (hc.op.resolve_right hno) (gets_of (H := H) hS hπ hcd) ha hent
    refine wp_op (hc.op.resolve_right hno) (up_enter (h1 w) ?_)
    refine (hcalls φ w xs h2 hH.ro).mono fun e w' ⟨φ', v', x, H', he, hR, hv, hh, hfr⟩ => ?_
    obtain ⟨rfl, rfl⟩ := hR
    exact ⟨x, he, k φ' x w' hcd (made_of hM hh hfr) hv⟩
  · rw [if_neg (fun e => hcd (hw.1 e))]
    exact k' hcd

theorem BRel.keep {B : Blk} {p : Place} (h : BRel φ B p w) {w' : World} (hb : w'.heap[p.blk]? = w.heap[p.blk]?) : BRel φ B p w' :=
  ⟨h.str, fun i hi => let ⟨xs, a, b, c⟩ := h.rows i hi; ⟨xs, a, b, fun j x hx => by have := c j x hx; unfold World.cell? at this ⊢; rw [hb]; exact this⟩, fun hw => own_keep hb (h.own hw)⟩
theorem BRel.mono {B : Blk} {p : Place} (h : BRel φ B p w) {ψ : Emb} (hle : φ.le ψ) : BRel ψ B p w :=
  ⟨h.str, fun i hi => let ⟨xs, a, b, c⟩ := h.rows i hi; ⟨xs, a.mono fun _ _ => rel_mono hle, b, c⟩, fun hw => own_mono hle (h.own hw)⟩

theorem HRel.defs {H : Heap} (h : HRel φ H w) {w' : World} (hg : Grow w w') {φ2 : Emb} (hle : φ.le φ2)
    (hnew : ∀ i p, φ2 i = some p → φ i = some p ∨ (w.heap.size ≤ p.blk ∧ p.blk < w'.heap.size ∧ i < H.next ∧ ∀ B, getB H.blks i = some B → BRel φ2 B p w'))
    (hinj : ∀ i j p q, φ2 i = some p → φ2 j = some q → w.heap.size ≤ p.blk → w.heap.size ≤ q.blk → i ≠ j → p.blk ≠ q.blk) : HRel φ2 H w' where
  blk := fun i B p hB hp => by
    rcases hnew i p hp with h' | ⟨_, _, _, hb⟩
    · exact ((h.blk i B p hB h').mono hle).keep (hg.block _ (h.lt i p h'))
    · exact hb B hB
  inj := fun i j B C p q hB hC hp hq hne hw => by
    rcases hnew i p hp with h1 | ⟨h1, _, _, _⟩ <;> rcases hnew j q hq with h2 | ⟨h2, _, _, _⟩
    · exact h.inj i j B C p q hB hC h1 h2 hne hw
    · have := h.lt i p h1; omega
    · have := h.lt j q h2; omega
    · exact hinj i j p q hp hq h1 h2 hne
  fresh := fun i hi => by
    cases hp : φ2 i with
    | none => rfl
    | some p =>
      rcases hnew i p hp with h' | ⟨_, _, h', _⟩
      · rw [h.fresh i hi] at h'; cases h'
      · omega
  lt := fun i p hp => by
    rcases hnew i p hp with h' | ⟨_, h', _, _⟩
    · exact Nat.lt_of_lt_of_le (h.lt i p h') hg.size
    · exact h'
theorem Fr.defs {φ0 : Emb} {H0 H : Heap} {w0 : World} (hf : Fr φ0 H0 w0 φ H w) {w' : World} (hg : Grow w w') {φ2 : Emb} (hle : φ.le φ2) (hsame : ∀ i, i < H0.next → φ2 i = φ i)
    (hnew : ∀ i p, φ2 i = some p → φ i = some p ∨ w.heap.size ≤ p.blk) : Fr φ0 H0 w0 φ2 H w' where
  le := Emb.le_trans hf.le hle
  same := fun i hi => (hsame i hi).trans (hf.same i hi)
  nx := hf.nx
  size := Nat.le_trans hf.size hg.size
  os := hg.os.trans hf.os
  tape := hg.tape.trans hf.tape
  output := hg.output.trans hf.output
  old := fun b hb hno => by rw [hg.block b (Nat.lt_of_lt_of_le hb hf.size)]; exact hf.old b hb hno
  own := fun i B p hB hw hp => by
    rcases hnew i p hp with h' | h'
    · exact hf.own i B p hB hw h'
    · exact .inl (Nat.le_trans hf.size h')

theorem Made.hrel {H : Heap} {N : List Blk} {φ' : Emb} {w' : World} (h : Made φ H w N φ' w') (hH : HRel φ H w) : HRel φ' (addBs H N) w' ∧ Fr φ H w φ' (addBs H N) w' := by
  have hnx : (addBs H N).next = H.next + N.length := addBs_next N _
  obtain ⟨g1, g2⟩ := hH.grown (w' := w) rfl rfl rfl (Nat.le_refl _) (fun _ _ => rfl) (K := addBs H N) (by omega) fun j D hj hne => by
    have hlt : j < H.next := by
      rcases Nat.lt_or_ge j H.next with h' | h'
      · exact h'
      · exact absurd (hH.fresh j h') hne
    rwa [addBs_lo N H j hlt] at hj
  have hle : φ.le φ' := fun i p hp => by
    have hlt : i < H.next := by
      rcases Nat.lt_or_ge i H.next with h' | h'
      · exact h'
      · rw [hH.fresh i h'] at hp; cases hp
    rw [h.same i hlt]; exact hp
  have hcase : ∀ i p, φ' i = some p → φ i = some p ∨ H.next ≤ i := fun i p hp => by
    rcases Nat.lt_or_ge i H.next with h' | h'
    · rw [h.same i h'] at hp; exact .inl hp
    · exact .inr h'
  refine ⟨g1.defs h.gr hle (fun i p hp => ?_) (fun i j p q hp hq h1 h2 hne => ?_), g2.defs h.gr hle (fun i hi => h.same i hi) fun i p hp => (hcase i p hp).imp id fun hi => (h.new i p hi hp).1⟩
  · rcases hcase i p hp with h' | h'
    · exact .inl h'
    · obtain ⟨n1, n2, B, n3, n4⟩ := h.new i p h' hp
      refine .inr ⟨n1, n2, ?_, fun C hC => ?_⟩
      · rcases Nat.lt_or_ge i (H.next + N.length) with h2 | h2
        · omega
        · rw [h.fresh i h2] at hp; cases hp
      · rw [n3] at hC; cases hC; exact n4
  · rcases hcase i p hp with h' | h'
    · have := hH.lt i p h'; omega
    · rcases hcase j q hq with h'' | h''
      · have := hH.lt j q h''; omega
      · exact h.inj i j p q h' h'' hp hq hne

theorem pathOk_cons {l : List Slot} {d : Nat} {π : Path} {v : AV} {K : List Nat} (hd : d ∉ K) : ∀ {p : Path}, keysIn K p → pathOk l p → pathOk (⟨d, π, v⟩ :: l) p
  | [], _, _ => trivial
  | (e, w, b) :: r, hk, hp => by
    have he : e ≠ d := fun h => hd (h ▸ hk (e, w, b) (by simp))
    exact ⟨by rw [slotAt_cons_ne he]; exact hp.1, pathOk_cons hd (fun x hx => hk x (by simp [hx])) hp.2⟩

theorem keysIn_mono {K K' : List Nat} (h : ∀ x ∈ K, x ∈ K') {p : Path} (hp : keysIn K p) : keysIn K' p := fun e he => h _ (hp e he)

theorem getD_put_self {a : Act} {d : Nat} {x : Value} (h : d < a.tmps.size) : (a.put (some d) x).tmps.getD d undef = x := by
  simp [Act.put, h]
theorem getD_put_ne {a : Act} {d n : Nat} {x : Value} (h : n ≠ d) : (a.put (some d) x).tmps.getD n undef = a.tmps.getD n undef := by
  simp [Act.put, Array.getElem?_setIfInBounds_ne (Ne.symm h)]

theorem sok_put {φ' : Emb} (hle : φ.le φ') {l : List Slot} {a : Act} {K K' : List Nat} (hS : SOk φ l a K) (hKK : ∀ x ∈ K, x ∈ K') {N d : Nat} (hd : d < N) (hN : a.tmps.size = N) (hdK : d ∉ K') {π : Path} (hπ : pathOk l π) (hkπ : keysIn K' π) {v : AV} {x : Value}
    (h1 : conds π → relA φ' v x) (h2 : ¬ conds π → x = undef) : SOk φ' (⟨d, π, v⟩ :: l) (a.put (some d) x) K' := by
  intro n sl hs
  by_cases hn : n = d
  · subst hn
    rw [slotAt_cons_self] at hs
    cases hs
    refine ⟨rfl, fun hc => ?_, fun hc => ?_, pathOk_cons hdK hkπ hπ, hkπ⟩
    · rw [getD_put_self (by omega)]; exact h1 hc
    · rw [getD_put_self (by omega)]; exact h2 hc
  · rw [slotAt_cons_ne hn] at hs
    have hk := hS n sl hs
    refine ⟨hk.num, fun hc => ?_, fun hc => ?_, pathOk_cons hdK (keysIn_mono hKK hk.keys) hk.path, keysIn_mono hKK hk.keys⟩
    · rw [getD_put_ne hn]; exact relA_mono hle (hk.on hc)
    · rw [getD_put_ne hn]; exact hk.off hc

theorem sok_mono {φ' : Emb} (hle : φ.le φ') {l : List Slot} {a : Act} {K K' : List Nat} (hS : SOk φ l a K) (hKK : ∀ x ∈ K, x ∈ K') : SOk φ' l a K' := fun n sl hs =>
  let hk := hS n sl hs
  ⟨hk.num, fun hc => relA_mono hle (hk.on hc), hk.off, hk.path, keysIn_mono hKK hk.keys⟩

def addK (K : List Nat) : Option (Nat × Bool) → List Nat
  | none => K
  | some (d, _) => d :: K

theorem addK_sub (K : List Nat) (g : Option (Nat × Bool)) : ∀ x ∈ K, x ∈ addK K g := by
  intro x hx
  cases g with
  | none => exact hx
  | some g => exact List.mem_cons_of_mem _ hx

theorem gpath_keys {l : List Slot} {H : Heap} {a : Act} {K : List Nat} (hS : SOk φ l a K) {g : Option (Nat × Bool)} {π : Path} (h : gpath ⟨l, H⟩ g = some π) : keysIn (addK K g) π := by
  obtain ⟨_, h1, h2⟩ := gpath_ok hS.toE h
  cases g with
  | none => rw [h1 rfl]; intro e he; cases he
  | some g =>
    obtain ⟨d, w⟩ := g
    obtain ⟨p, b, hs, rfl⟩ := h2 d w rfl
    intro e he
    cases he with
    | head => exact List.mem_cons_self
    | tail _ he => exact List.mem_cons_of_mem _ ((hS d _ hs).keys e he)

theorem noDst_spec {d : Nat} : ∀ {l : List AOper}, noDst d l = true → ∀ o ∈ l, o.dst ≠ some d
  | [], _, o, ho => by cases ho
  | x :: r, h, o, ho => by
    simp only [noDst] at h
    cases hd : x.dst with
    | none =>
      rw [hd] at h
      cases ho with
      | head => rw [hd]; simp
      | tail _ ho => exact noDst_spec h o ho
    | some e =>
      rw [hd] at h
      simp only at h
      split at h
      · simp at h
      · rename_i hb
        have hne : e ≠ d := fun h => by rw [h, Nat.beq_refl] at hb; cases hb
        cases ho with
        | head => rw [hd]; simpa using hne
        | tail _ ho => exact noDst_spec h o ho

theorem okG_head {o : AOper} {r : List AOper} (h : okG (o :: r) = true) : okG r = true ∧ ∀ d w, o.guard = some (d, w) → ∀ x ∈ o :: r, x.dst ≠ some d := by
  simp only [okG] at h
  cases hg : o.guard with
  | none => rw [hg] at h; exact ⟨h, fun d w e => by cases e⟩
  | some g =>
    obtain ⟨d, w⟩ := g
    rw [hg] at h
    simp only [Bool.and_eq_true] at h
    exact ⟨h.2, fun d' w' e => by cases e; exact noDst_spec h.1⟩

theorem put_defers' (a : Act) (d : Option Nat) (x : Value) : (a.put d x).defers = a.defers := by cases d <;> rfl
theorem put_size (a : Act) (d : Option Nat) (x : Value) : (a.put d x).tmps.size = a.tmps.size := by cases d <;> simp [Act.put]

theorem Inv.put {φ₀ : Emb} {H₀ : Heap} {w₀ : World} {N : Env} {l : List Slot} {H : Heap} {a : Act} {K : List Nat} (h : Inv φ₀ H₀ w₀ N φ ⟨l, H⟩ a w K) {φ' : Emb} {H' : Heap} {w' : World} (hH : HRel φ' H' w') (hF : Fr φ H w φ' H' w') {g : Option (Nat × Bool)} {π : Path} (hg : gpath ⟨l, H⟩ g = some π)
    {d : Option Nat} (hd : ∀ e, d = some e → e < N.n ∧ e ∉ addK K g) {v : AV} {x : Value} (h1 : conds π → relA φ' v x) (h2 : ¬ conds π → x = undef) : Inv φ₀ H₀ w₀ N φ' (St.put ⟨l, H'⟩ d π v) (a.put d x) w' (addK K g) := by
  obtain ⟨hπ, _, _⟩ := gpath_ok h.sok.toE hg
  have ho : Oth w w' := .of h.heap hF
  cases d with
  | none => exact ⟨sok_mono hF.le h.sok (addK_sub K g), hH, h.fr.trans hF, h.defers.keep ho, h.size, h.oth.trans ho⟩
  | some d =>
    obtain ⟨q1, q2⟩ := hd d rfl
    exact ⟨sok_put hF.le h.sok (addK_sub K g) q1 h.size q2 hπ (gpath_keys h.sok hg) h1 h2, hH, h.fr.trans hF, (put_defers' a (some d) x).symm ▸ h.defers.keep ho, by rw [put_size]; exact h.size, h.oth.trans ho⟩

theorem imp_cd {π : Path} {p : Prop} (h : p) : imp π p := by
  induction π with
  | nil => exact h
  | cons e r ih => obtain ⟨_, _, _⟩ := e; exact fun _ => ih

theorem region_step {φ₀ : Emb} {H₀ : Heap} {w₀ : World} {N : Env} {ops : Array Oper} {Q : Exit → Act → World → Prop} {Qs : St → Prop} {o : Oper} {ao : AOper} {al : List AOper} (hc : Corr P N.n ops o ao) (hG : okG (ao :: al) = true) {KQ : Act → World → Prop}
    {φ : Emb} {s : St} {a : Act} {w : World} {K : List Nat} (hI : Inv φ₀ H₀ w₀ N φ s a w K) (hK : ∀ d ∈ K, ∀ x ∈ ao :: al, x.dst ≠ some d) (h : rwp (Con P) (ao :: al) s Qs)
    (ih : ∀ φ s a w K, Inv φ₀ H₀ w₀ N φ s a w K → (∀ d ∈ K, ∀ x ∈ al, x.dst ≠ some d) → rwp (Con P) al s Qs → KQ a w) : stp F P ops Q o KQ a w := by
  obtain ⟨hG', hGd⟩ := okG_head hG
  have hK' : ∀ d ∈ addK K ao.guard, ∀ x ∈ al, x.dst ≠ some d := by
    intro d hd x hx
    cases hg : ao.guard with
    | none => rw [hg] at hd; exact hK d hd x (List.mem_cons_of_mem _ hx)
    | some g =>
      obtain ⟨e, ww⟩ := g
      rw [hg] at hd
      cases hd with
      | head => exact hGd _ _ hg x (List.mem_cons_of_mem _ hx)
      | tail _ hd => exact hK d hd x (List.mem_cons_of_mem _ hx)
  have hdn : ao.op ≠ .other → ∀ e, o.dst = some e → e < N.n ∧ e ∉ addK K ao.guard := by
    intro hno e he
    refine ⟨(hc.lt.resolve_left hno) e he, fun hin => ?_⟩
    have he' : ao.dst = some e := hc.dst.trans he
    cases hg : ao.guard with
    | none => rw [hg] at hin; exact hK e hin ao (by simp) he'
    | some g =>
      obtain ⟨d, ww⟩ := g
      rw [hg] at hin
      cases hin with
      | head => exact hGd _ _ hg ao (by simp) he'
      | tail _ hin => exact hK e hin ao (by simp) he'
  obtain ⟨tl, H⟩ := s
  simp only [rwp] at h
  cases hg : gpath ⟨tl, H⟩ ao.guard with
  | none => rw [hg] at h; exact h.elim
  | some π =>
    rw [hg] at h
    simp only at h
    cases ha : aop ⟨tl, H⟩ π ao.op with
    | bad => rw [ha] at h; exact h.elim
    | p need v B =>
      have hno : ao.op ≠ .other := fun e => by rw [e] at ha; simp [aop_other] at ha
      rw [ha] at h
      have hh : imp π (needP need) ∧ rwp (Con P) al (St.put ⟨tl, addBlk H B⟩ ao.dst π v) Qs := by
        cases need with
        | none => exact ⟨by simp only [needP]; clear h ha hg; induction π with
            | nil => trivial
            | cons e r ih => intro _; exact ih, h⟩
        | some p => exact h
      refine step_p hc hI.sok.toE hI.heap hg ha hh.1 fun φ' x w' hnb h1 h2 => ?_
      obtain ⟨hH', hF'⟩ := hnb.hrel hI.heap
      exact ih φ' _ _ w' _ (by rw [hc.dst]; exact hI.put hH' hF' hg (hdn hno) h1 h2) hK' hh.2
    | t need v H' =>
      have hno : ao.op ≠ .other := fun e => by rw [e] at ha; simp [aop_other] at ha
      rw [ha] at h
      cases htl : ao.tl with
      | false => cases need <;> (rw [htl] at h; exact h.elim)
      | true =>
        cases π with
        | cons e r => cases need <;> (rw [htl] at h; exact h.elim)
        | nil =>
          have hh : needP need ∧ rwp (Con P) al (St.put ⟨tl, H'⟩ ao.dst [] v) Qs := by
            cases hx : exOk ⟨tl, H⟩ ao with
            | false => cases need <;> (rw [htl, hx] at h; exact h.elim)
            | true => cases need <;> (rw [htl, hx] at h; first | exact ⟨trivial, h⟩ | exact h)
          refine step_t0 hc hI.sok.toE hI.heap hg ha hh.1 fun φ' x w' hH' hF' hv => ?_
          exact ih φ' _ _ w' _ (by rw [hc.dst]; exact hI.put hH' hF' hg (hdn hno) (fun _ => hv) (fun h => absurd trivial h)) hK' hh.2
    | call f args =>
      have hno : ao.op ≠ .other := fun e => by rw [e] at ha; simp [aop_other] at ha
      rw [ha] at h
      simp only [callW] at h
      have quiet : (∃ v M, allW M = true ∧ imp π (Con P f args (roH H) (fun v' H' => v' = v ∧ H' = addBs (roH H) M)) ∧ rwp (Con P) al (St.put ⟨tl, addBs H M⟩ ao.dst π v) Qs) → stp F P ops Q o KQ a w := by
        rintro ⟨v, M, hM, hcon, hrest⟩
        refine step_quiet hc hI.sok.toE hI.heap hg ha hM hcon (fun φ' x w' hcd hmade hv => ?_) (fun hnc => ?_)
        · obtain ⟨hH', hF'⟩ := hmade.hrel hI.heap
          exact ih φ' _ _ w' _ (by rw [hc.dst]; exact hI.put hH' hF' hg (hdn hno) (fun _ => hv) (fun h => absurd hcd h)) hK' hrest
        · obtain ⟨hH', hF'⟩ := hI.heap.grown (w' := w) rfl rfl rfl (Nat.le_refl _) (fun _ _ => rfl) (K := addBs H M) (by rw [addBs_next]; show H.next ≤ _; omega) fun j D hj hne => by
            have hlt : j < H.next := by
              rcases Nat.lt_or_ge j H.next with h' | h'
              · exact h'
              · exact absurd (hI.heap.fresh j h') hne
            rwa [addBs_lo M H j hlt] at hj
          exact ih φ _ _ w _ (by rw [hc.dst]; exact hI.put hH' hF' hg (hdn hno) (fun h => absurd h hnc) (fun _ => rfl)) hK' hrest
      cases htl : ao.tl with
      | false => rw [htl] at h; exact quiet h
      | true =>
        cases π with
        | cons e r =>
          rw [htl] at h
          rcases h with h | ⟨hcd0, R, hcon, hrest⟩
          · exact quiet h
          · refine step_call hc hI.sok.toE hI.heap hg ha (R := R) (imp_cd hcon) (fun φ' v' x w' H' hcd hR hH' hF' hv => ?_) (fun hnc => absurd hcd0 hnc)
            exact ih φ' _ _ w' _ (by rw [hc.dst]; exact hI.put hH' hF' hg (hdn hno) (fun _ => hv) (fun h => absurd hcd0 h)) hK' (hrest v' H' hR)
        | nil =>
          rw [htl] at h
          obtain ⟨R, hcon, hrest⟩ := h
          refine step_call hc hI.sok.toE hI.heap hg ha (R := R) hcon (fun φ' v' x w' H' hcd hR hH' hF' hv => ?_) (fun hnc => absurd trivial hnc)
          exact ih φ' _ _ w' _ (by rw [hc.dst]; exact hI.put hH' hF' hg (hdn hno) (fun _ => hv) (fun h => absurd trivial h)) hK' (hrest v' H' hR)

theorem region_seq {φ₀ : Emb} {H₀ : Heap} {w₀ : World} {N : Env} {ops : Array Oper} {Q : Exit → Act → World → Prop} {Qs : St → Prop}
    (hQ : ∀ φ s a w K, Inv φ₀ H₀ w₀ N φ s a w K → Qs s → Q .normal a w) :
    ∀ (l : List Oper) (al : List AOper), F2 (Corr P N.n ops) l al → okG al = true → ∀ (φ : Emb) (s : St) (a : Act) (w : World) (K : List Nat), Inv φ₀ H₀ w₀ N φ s a w K → (∀ d ∈ K, ∀ o ∈ al, o.dst ≠ some d) → rwp (Con P) al s Qs → wpListIn F 0 P ops Q l a w
  | _, _, .nil, _, φ, s, a, w, K, hI, _, h => hQ φ s a w K hI h
  | _, _, .cons (a := o) (b := ao) (l := l) (m := al) hc hr, hG, φ, s, a, w, K, hI, hK, h =>
    wpList_stp (region_step hc hG hI hK h fun φ s a w K => region_seq hQ l al hr (okG_head hG).1 φ s a w K)

end Go.AM

namespace Go.AM
set_option linter.unusedVariables false
set_option linter.unusedSimpArgs false
variable {P : Program} {φ : Emb} {w : World}

theorem get_congr {l l' : List Slot} {H : Heap} {π : Path} {y : Opd} (h : ∀ t ∈ oSl y, slotAt l t = slotAt l' t) : St.get ⟨l, H⟩ π y = St.get ⟨l', H⟩ π y := by
  cases y with
  | t n => simp only [St.get, h n (by simp [oSl])]
  | k v => rfl
theorem getsl_congr {l l' : List Slot} {H : Heap} {π : Path} {cs : Nat} {want : Bool} {y : Opd} (h : ∀ t ∈ oSl y, slotAt l t = slotAt l' t) : getsl ⟨l, H⟩ π cs y want = getsl ⟨l', H⟩ π cs y want := by
  cases y with
  | t n => simp only [getsl, h n (by simp [oSl])]
  | k v => rfl
theorem partsOf_congr {l l' : List Slot} {H : Heap} {π : Path} : ∀ {ps : List (Nat × Nat × Opd)}, (∀ t ∈ oSlP ps, slotAt l t = slotAt l' t) → partsOf (St.get ⟨l, H⟩ π) ps = partsOf (St.get ⟨l', H⟩ π) ps
  | [], _ => rfl
  | (o, n, x) :: r, h => by
    simp only [oSlP, List.mem_append] at h
    simp only [partsOf, get_congr (H := H) (π := π) (fun t ht => h t (.inl ht)), partsOf_congr (H := H) (π := π) (fun t ht => h t (.inr ht))]
theorem aasOf_congr {l l' : List Slot} {H : Heap} {π : Path} : ∀ {ps : List Opd}, (∀ t ∈ oSlL ps, slotAt l t = slotAt l' t) → aasOf (St.get ⟨l, H⟩ π) ps = aasOf (St.get ⟨l', H⟩ π) ps
  | [], _ => rfl
  | x :: r, h => by
    simp only [oSlL, List.mem_append] at h
    simp only [aasOf, get_congr (H := H) (π := π) (fun t ht => h t (.inl ht)), aasOf_congr (H := H) (π := π) (fun t ht => h t (.inr ht))]
theorem argsOf_congr {l l' : List Slot} {H : Heap} {π : Path} : ∀ {ps : List Opd}, (∀ t ∈ oSlL ps, slotAt l t = slotAt l' t) → argsOf (St.get ⟨l, H⟩ π) ps = argsOf (St.get ⟨l', H⟩ π) ps
  | [], _ => rfl
  | x :: r, h => by
    simp only [oSlL, List.mem_append] at h
    simp only [argsOf, get_congr (H := H) (π := π) (fun t ht => h t (.inl ht)), argsOf_congr (H := H) (π := π) (fun t ht => h t (.inr ht))]
theorem optG_congr {l l' : List Slot} {H : Heap} {π : Path} {x : Option Opd} (h : ∀ t ∈ oSlO x, slotAt l t = slotAt l' t) : optG (St.get ⟨l, H⟩ π) x = optG (St.get ⟨l', H⟩ π) x := by
  cases x with
  | none => rfl
  | some x => simp only [optG, get_congr (H := H) (π := π) h]

theorem aop_congr {l l' : List Slot} {H : Heap} {π : Path} {o : AOp} (h : ∀ t ∈ aSlots o, slotAt l t = slotAt l' t) : aop ⟨l, H⟩ π o = aop ⟨l', H⟩ π o := by
  cases o <;> simp only [aSlots, List.mem_append, List.mem_cons] at h <;> simp only [aop]
  case mv x => rw [get_congr h]
  case pick cs a b => rw [get_congr (y := .t cs) (fun t ht => h t (.inl (by simpa [oSl] using ht))), getsl_congr (y := a) (fun t ht => h t (.inr (.inl ht))), getsl_congr (y := b) (fun t ht => h t (.inr (.inr ht)))]
  case box t x => rw [get_congr h]
  case build z ps => rw [partsOf_congr h]
  case bslice t k z n ps => rw [partsOf_congr h]
  case ld1 a => rw [get_congr h]
  case ldn n a => rw [get_congr h]
  case st1 a x => rw [get_congr (y := a) (fun t ht => h t (.inl ht)), get_congr (y := x) (fun t ht => h t (.inr ht))]
  case stn n a x => rw [get_congr (y := a) (fun t ht => h t (.inl ht)), get_congr (y := x) (fun t ht => h t (.inr ht))]
  case nilchk x => rw [get_congr h]
  case bin op a x => rw [get_congr (y := a) (fun t ht => h t (.inl ht)), get_congr (y := x) (fun t ht => h t (.inr ht))]
  case eqB op a x => rw [get_congr (y := a) (fun t ht => h t (.inl ht)), get_congr (y := x) (fun t ht => h t (.inr ht))]
  case eqT op a x => rw [get_congr (y := a) (fun t ht => h t (.inl ht)), get_congr (y := x) (fun t ht => h t (.inr ht))]
  case cat a x => rw [get_congr (y := a) (fun t ht => h t (.inl ht)), get_congr (y := x) (fun t ht => h t (.inr ht))]
  case tob t x => rw [get_congr (y := x) (fun t ht => h t ht)]
  case clr k z x => rw [get_congr (y := x) (fun t ht => h t ht)]
  case mp k ks z x y u => rw [get_congr (y := x) (fun t ht => h t (.inl ht)), get_congr (y := y) (fun t ht => h t (.inr (.inl ht))), get_congr (y := u) (fun t ht => h t (.inr (.inr ht)))]
  case cpy k a x => rw [get_congr (y := a) (fun t ht => h t (.inl ht)), get_congr (y := x) (fun t ht => h t (.inr ht))]
  case idxT a x => rw [get_congr (y := a) (fun t ht => h t (.inl ht)), get_congr (y := x) (fun t ht => h t (.inr ht))]
  case eqS op ks a x => rw [get_congr (y := a) (fun t ht => h t (.inl ht)), get_congr (y := x) (fun t ht => h t (.inr ht))]
  case nilq kd op a x => rw [get_congr (y := a) (fun t ht => h t (.inl ht)), get_congr (y := x) (fun t ht => h t (.inr ht))]
  case un op x => rw [get_congr h]
  case conv k x => rw [get_congr h]
  case mkfn f a b => rw [aasOf_congr (ps := a) (fun t ht => h t (.inl ht)), aasOf_congr (ps := b) (fun t ht => h t (.inr ht))]
  case mkslice t s b z a x => rw [get_congr (y := a) (fun t ht => h t (.inl ht)), get_congr (y := x) (fun t ht => h t (.inr ht))]
  case slc k x lo hi => rw [get_congr (y := x) (fun t ht => h t (.inl ht)), optG_congr (x := lo) (fun t ht => h t (.inr (.inl ht))), optG_congr (x := hi) (fun t ht => h t (.inr (.inr ht)))]
  case slcA k x lo hi => rw [get_congr (y := x) (fun t ht => h t (.inl ht)), optG_congr (x := lo) (fun t ht => h t (.inr (.inl ht))), optG_congr (x := hi) (fun t ht => h t (.inr (.inr ht)))]
  case faddr x o => rw [get_congr h]
  case fld x o n => rw [get_congr h]
  case iaddr k a x => rw [get_congr (y := a) (fun t ht => h t (.inl ht)), get_congr (y := x) (fun t ht => h t (.inr ht))]
  case iaddrA k a x => rw [get_congr (y := a) (fun t ht => h t (.inl ht)), get_congr (y := x) (fun t ht => h t (.inr ht))]
  case ext x i => rw [get_congr h]
  case call f aq => rw [get_congr (y := f) (fun t ht => h t (.inl ht)), argsOf_congr (ps := aq) (fun t ht => h t (.inr ht))]
  case len b x => rw [get_congr h]
  case app k b t a x => rw [get_congr (y := a) (fun t ht => h t (.inl ht)), get_congr (y := x) (fun t ht => h t (.inr ht))]

end Go.AM

namespace Go.AM
set_option linter.unusedVariables false
set_option linter.unusedSectionVars false
set_option linter.unusedSimpArgs false
variable {P : Program} {φ : Emb} {w : World}

def Behind (ops : Array Oper) (o : Oper) (j : Nat) : Prop := ∀ L : Nat → Prop, (∀ i o j, L i → ops[i]? = some o → waits o j = true → L j) → (∀ j, waits o j = true → L j) → L j

theorem quiet_aop {l : List Slot} {H H' : Heap} {π : Path} {o : AOp} (h : quietOp o = true) : aop ⟨l, H⟩ π o = aop ⟨l, H'⟩ π o := by
  have hg : St.get ⟨l, H⟩ π = St.get ⟨l, H'⟩ π := by funext y; cases y <;> rfl
  have hs : ∀ cs y w, getsl ⟨l, H⟩ π cs y w = getsl ⟨l, H'⟩ π cs y w := by intro cs y w; cases y <;> rfl
  cases o <;> first | (simp [quietOp] at h; done) | (simp only [aop, hg, hs]; done) | rfl
theorem bin_shape (op : BinOp) (x y : AV) : (∃ n v, bin op x y = .p n v none) ∨ bin op x y = .bad := by
  unfold bin shiftR arith; (repeat' split) <;> first | exact .inr rfl | exact .inl ⟨_, _, rfl⟩
theorem quiet_shape {s : St} {π : Path} {o : AOp} (h : quietOp o = true) : (∃ n v, aop s π o = .p n v none) ∨ aop s π o = .bad := by
  cases o <;> first | (simp [quietOp] at h; done) | skip
  all_goals simp only [aop]
  case bin op x y => exact bin_shape _ _ _
  all_goals try (unfold eqB)
  all_goals try (unfold eqS)
  all_goals try (unfold nilq)
  all_goals try (unfold un)
  all_goals try (unfold fieldOf)
  all_goals try (unfold eqT)
  all_goals try (unfold idxT)
  all_goals try (unfold cat)
  all_goals ((repeat' split) <;> first | exact .inr rfl | exact .inl ⟨_, _, rfl⟩)
theorem chg_p {s : St} {π : Path} {o : AOp} (h : chgOp o = true) {need : Option Prop} {v : AV} {B : Option Blk} (ha : aop s π o = .p need v B) : B = none := by
  cases o <;> first | (simp [chgOp] at h; done) | skip
  all_goals simp only [aop] at ha
  case app => unfold app at ha; (repeat' split at ha) <;> first | cases ha; done | (cases ha; rfl)
  case st1 => unfold st1 at ha; (repeat' split at ha) <;> first | cases ha; done | (cases ha; rfl)
  case stn => unfold stn at ha; (repeat' split at ha) <;> first | cases ha; done | (cases ha; rfl)
theorem chg_call {s : St} {π : Path} {o : AOp} (h : chgOp o = true) {f : FuncId} {args : List AV} (ha : aop s π o = .call f args) : False := by
  cases o <;> first | (simp [chgOp] at h; done) | skip
  all_goals simp only [aop] at ha
  case app => unfold app at ha; (repeat' split at ha) <;> cases ha
  case st1 => unfold st1 at ha; (repeat' split at ha) <;> cases ha
  case stn => unfold stn at ha; (repeat' split at ha) <;> cases ha
theorem chg_next {s : St} {π : Path} {o : AOp} (h : chgOp o = true) {need : Option Prop} {v : AV} {H' : Heap} (ha : aop s π o = .t need v H') : s.heap.next ≤ H'.next := by
  cases o <;> first | (simp [chgOp] at h; done) | skip
  all_goals simp only [aop] at ha
  case app => unfold app at ha; (repeat' split at ha) <;> first | (cases ha; done) | (cases ha; exact Nat.le_succ _)
  case st1 => unfold st1 at ha; (repeat' split at ha) <;> first | (cases ha; done) | (cases ha; exact Nat.le_refl _)
  case stn => unfold stn at ha; (repeat' split at ha) <;> first | (cases ha; done) | (cases ha; exact Nat.le_refl _)
theorem chg_noquiet {o : AOp} (h : chgOp o = true) : quietOp o = false := by cases o <;> first | rfl | simp [chgOp] at h

inductive Tgt where
  | all
  | one (Y : Nat)
  | no
def Tgt.off : Tgt → Nat → Prop
  | .all, _ => False
  | .one Y, X => Y ≠ X
  | .no, _ => True
def Tgt.phys (φ : Emb) : Tgt → Nat → Prop
  | .all, _ => False
  | .one Y, b => ∀ p, φ Y = some p → p.blk ≠ b
  | .no, _ => True
def tgtOf (s : St) (o : AOp) : Tgt :=
  match wrAddr s o with
  | some Y => .one Y
  | none => if appNil o = true then .no else .all

theorem st1_only {H : Heap} {a : AA} {x : CV} {need : Option Prop} {v : AV} {H' : Heap} (h : st1 H a x = .t need v H') : ∃ B H'', getB H.blks a.id = some B ∧ st1 ⟨H.next, [(a.id, B)]⟩ a x = .t need v H'' ∧ ∀ X, a.id ≠ X → getB H'.blks X = getB H.blks X := by
  have hx : ∃ B, getB H.blks a.id = some B := by
    cases hB : getB H.blks a.id with
    | none => unfold st1 at h; rw [hB] at h; simp at h
    | some B => exact ⟨B, rfl⟩
  obtain ⟨B, hB⟩ := hx
  refine ⟨B, ?_⟩
  unfold st1 at h ⊢
  simp only [hB, getB, Nat.beq_refl] at h ⊢
  (repeat' split at h) <;> first
    | (cases h; done)
    | (simp only [Res.t.injEq] at h
       obtain ⟨rfl, rfl, rfl⟩ := h
       simp only [*]
       exact ⟨_, trivial, rfl, fun X hX => getB_setB_ne (Ne.symm hX)⟩)
theorem stn_only {H : Heap} {n : Nat} {a : AA} {x : List Seg} {need : Option Prop} {v : AV} {H' : Heap} (h : stn H n a x = .t need v H') : ∃ B H'', getB H.blks a.id = some B ∧ stn ⟨H.next, [(a.id, B)]⟩ n a x = .t need v H'' ∧ ∀ X, a.id ≠ X → getB H'.blks X = getB H.blks X := by
  have hx : ∃ B, getB H.blks a.id = some B := by
    cases hB : getB H.blks a.id with
    | none => unfold stn at h; rw [hB] at h; simp at h
    | some B => exact ⟨B, rfl⟩
  obtain ⟨B, hB⟩ := hx
  refine ⟨B, ?_⟩
  unfold stn at h ⊢
  simp only [hB, getB, Nat.beq_refl] at h ⊢
  (repeat' split at h) <;> first
    | (cases h; done)
    | (simp only [Res.t.injEq] at h
       obtain ⟨rfl, rfl, rfl⟩ := h
       simp only [*]
       exact ⟨_, trivial, rfl, fun X hX => getB_setB_ne (Ne.symm hX)⟩)

theorem HRel.only {H : Heap} (h : HRel φ H w) {Y : Nat} {B C : Blk} (hB : getB H.blks Y = some B) (hC : C.str = B.str ∧ C.sz = B.sz ∧ C.row = B.row ∧ C.elem = B.elem ∧ (C.wr = true → B.wr = true)) : HRel φ ⟨H.next, [(Y, C)]⟩ w where
  blk := fun i D p hD hp => by
    by_cases hi : i = Y
    · subst hi
      rw [getB_cons_self] at hD
      cases hD
      have hb := h.blk i B p hB hp
      obtain ⟨h1, h2, h3, h4, h5⟩ := hC
      have hn : C.n = B.n := by unfold Blk.n; rw [h2]
      exact ⟨by rw [h1]; exact hb.str, fun r hr => by rw [h3, h1]; exact hb.rows r (by omega), fun hw => by
        rcases hb.own (h5 hw) with h | h
        · exact .inl ⟨⟨h.1.1, by rw [hn]; exact h.1.2.1, h.1.2.2.1, by rw [h4]; exact h.1.2.2.2⟩, fun hm => h.2 ⟨h1 ▸ hm.1, h2 ▸ hm.2⟩⟩
        · exact .inr ⟨by rw [h1]; exact h.1, by rw [h2]; exact h.2.1, by rw [h3]; exact h.2.2⟩⟩
    · rw [getB_cons_ne hi] at hD; simp [getB] at hD
  inj := fun i j D E p q hD hE hp hq hne hw => by
    by_cases hi : i = Y
    · by_cases hj : j = Y
      · exact absurd (hi.trans hj.symm) hne
      · rw [getB_cons_ne hj] at hE; simp [getB] at hE
    · rw [getB_cons_ne hi] at hD; simp [getB] at hD
  fresh := h.fresh
  lt := h.lt

theorem tgt_names {s : St} {o : AOp} {need : Option Prop} {v : AV} {H' : Heap} (h : aop s [] o = .t need v H') {X : Nat} (hX : (tgtOf s o).off X) (hlt : X < s.heap.next) : getB H'.blks X = getB s.heap.blks X := by
  cases o with
  | st1 a x =>
    simp only [aop] at h
    split at h
    · rename_i p v' e1 e2
      obtain ⟨B, H'', _, _, g⟩ := st1_only h
      refine g X ?_
      simpa [tgtOf, wrAddr, e1, Tgt.off] using hX
    · cases h
  | stn n a x =>
    simp only [aop] at h
    split at h
    · rename_i p v' e1 e2
      obtain ⟨B, H'', _, _, g⟩ := stn_only h
      refine g X ?_
      simpa [tgtOf, wrAddr, e1, Tgt.off] using hX
    · cases h
  | app k b t x y =>
    cases hx : appNil (.app k b t x y) with
    | false => simp [tgtOf, wrAddr, hx, Tgt.off] at hX
    | true =>
      have ex : x = .k (.c .nils) := by
        unfold appNil at hx
        split at hx
        · rename_i e; cases e; rfl
        · cases hx
      subst ex
      simp only [aop] at h
      unfold app at h
      (repeat' split at h) <;> first | (cases h; done) | (cases h; exact getB_cons_ne (by omega)) | (simp_all [St.get]; done)
  | _ => simp [tgtOf, wrAddr, appNil, Tgt.off] at hX

theorem tgt_phys {o : Oper} {ao : AOp} (hs : stripOp P o.op = some ao) {s : St} {a : Act} (hg : ∀ H, Gets φ ⟨s.tmps, H⟩ [] a) (hH : HRel φ s.heap w)
    {need : Option Prop} {v : AV} {H' : Heap} (h : aop s [] ao = .t need v H') (hn : needP need) {w' : World} (hw : (∃ x, (execOp a.eval o).run P w = .ok (.value x) w') ∨ (execOp a.eval o).run P w = .ok .skip w')
    {b : Nat} (hb : b < w.heap.size) (ht : (tgtOf s ao).phys φ b) : w'.heap[b]? = w.heap[b]? := by
  have fin : ∀ (Hr Hr' : Heap), HRel φ Hr w → aop ⟨s.tmps, Hr⟩ [] ao = .t need v Hr' → (∀ i B p, getB Hr.blks i = some B → B.wr = true → φ i = some p → p.blk ≠ b) → w'.heap[b]? = w.heap[b]? := by
    intro Hr Hr' h1 h2 h3
    obtain ⟨φ', w'', g1, g2, g3⟩ := op_t hs (s := ⟨s.tmps, Hr⟩) (hg Hr) h1 h2 hn
    have e : w'' = w' := by
      rcases g1 with ⟨x, g1, _⟩ | ⟨g1, _⟩ <;> rcases hw with ⟨y, hw⟩ | hw <;> (rw [g1] at hw; cases hw <;> rfl)
    rw [← e]
    exact g3.old b hb h3
  have hget : ∀ H y, St.get ⟨s.tmps, H⟩ [] y = s.get [] y := fun H y => by cases y <;> rfl
  have one : ∀ Y B, getB s.heap.blks Y = some B → (∀ p, φ Y = some p → p.blk ≠ b) → ∀ i D p, getB [(Y, B)] i = some D → D.wr = true → φ i = some p → p.blk ≠ b := fun Y B _ hY i D p hD _ hp => by
    by_cases hi : i = Y
    · subst hi; exact hY p hp
    · rw [getB_cons_ne hi] at hD; simp [getB] at hD
  cases ao with
  | st1 y x =>
    simp only [aop] at h
    split at h
    · rename_i p v' e1 e2
      obtain ⟨B, H'', k1, k2, g⟩ := st1_only h
      refine fin ⟨s.heap.next, [(p.id, B)]⟩ H'' (hH.only k1 ⟨rfl, rfl, rfl, rfl, id⟩) (by simp only [aop, hget, e1, e2]; exact k2) (one p.id B k1 (by simpa [tgtOf, wrAddr, e1, Tgt.phys] using ht))
    · cases h
  | stn n y x =>
    simp only [aop] at h
    split at h
    · rename_i p v' e1 e2
      obtain ⟨B, H'', k1, k2, g⟩ := stn_only h
      refine fin ⟨s.heap.next, [(p.id, B)]⟩ H'' (hH.only k1 ⟨rfl, rfl, rfl, rfl, id⟩) (by simp only [aop, hget, e1, e2]; exact k2) (one p.id B k1 (by simpa [tgtOf, wrAddr, e1, Tgt.phys] using ht))
    · cases h
  | app k bt t x y =>
    cases hx : appNil (.app k bt t x y) with
    | false => simp [tgtOf, wrAddr, hx, Tgt.phys] at ht
    | true =>
      have ex : x = .k (.c .nils) := by
        unfold appNil at hx
        split at hx
        · rename_i e; cases e; rfl
        · cases hx
      subst ex
      have hnil : s.get [] (.k (.c .nils)) = .c .nils := rfl
      simp only [aop, hnil] at h
      cases hy : s.get [] y with
      | c cv =>
        rw [hy] at h
        cases cv with
        | slice c inner m =>
          cases inner with
          | true => unfold app at h; cases h
          | false =>
            cases hC : getB s.heap.blks c.id with
            | none => unfold app at h; simp only [hC] at h; cases h
            | some C =>
              unfold app at h
              simp only [hC] at h
              cases hsz : C.sz with
              | none => simp only [hsz] at h; cases h
              | some cc =>
                cases hst : Nat.beq C.str k with
                | false => simp only [hsz, hst] at h; cases h
                | true =>
                  simp only [hsz, hst] at h
                  cases h
                  refine fin ⟨s.heap.next, [(c.id, ⟨C.str, C.sz, C.row, C.elem, false⟩)]⟩ _ (hH.only hC ⟨rfl, rfl, rfl, rfl, fun h => by cases h⟩) (by simp only [aop, hget, hy, hnil]; unfold app; simp only [getB, Nat.beq_refl, hsz, hst]; rfl) (fun i D p hD hw _ => ?_)
                  by_cases hi : i = c.id
                  · subst hi; rw [getB_cons_self] at hD; cases hD; cases hw
                  · rw [getB_cons_ne hi] at hD; simp [getB] at hD
        | _ => unfold app at h; cases h
      | _ => rw [hy] at h; unfold app at h; cases h
  | _ => simp [tgtOf, wrAddr, appNil, Tgt.phys] at ht

theorem chg_noaddr {o : AOp} (h : chgOp o = true) : addrOf o = none := by cases o <;> first | rfl | simp [chgOp] at h
theorem addr_cases {o : AOp} {a : Nat} (h : addrOf o = some a) : o = .ld1 (.t a) ∨ ∃ n, o = .ldn n (.t a) := by
  cases o with
  | ld1 x => cases x <;> simp [addrOf] at h; subst h; exact .inl rfl
  | ldn n x => cases x <;> simp [addrOf] at h; subst h; exact .inr ⟨n, rfl⟩
  | _ => simp [addrOf] at h
theorem ld1_shape {H : Heap} {a : AA} {need : Option Prop} {v : AV} {B : Option Blk} (h : ld1 H a = .p need v B) : B = none ∧ ∃ C, getB H.blks a.id = some C ∧ ld1 ⟨H.next, [(a.id, C)]⟩ a = .p need v B := by
  cases hC : getB H.blks a.id with
  | none => unfold ld1 at h; rw [hC] at h; cases h
  | some C =>
    have e : ld1 ⟨H.next, [(a.id, C)]⟩ a = ld1 H a := by unfold ld1; simp only [getB, Nat.beq_refl, hC]
    refine ⟨?_, C, rfl, e.trans h⟩
    unfold ld1 at h
    (repeat' split at h) <;> first | (cases h; done) | (cases h; rfl)
theorem ldn_shape {H : Heap} {n : Nat} {a : AA} {need : Option Prop} {v : AV} {B : Option Blk} (h : ldn H n a = .p need v B) : B = none ∧ ∃ C, getB H.blks a.id = some C ∧ ldn ⟨H.next, [(a.id, C)]⟩ n a = .p need v B := by
  cases hC : getB H.blks a.id with
  | none => unfold ldn at h; rw [hC] at h; cases h
  | some C =>
    have e : ldn ⟨H.next, [(a.id, C)]⟩ n a = ldn H n a := by unfold ldn; simp only [getB, Nat.beq_refl, hC]
    refine ⟨?_, C, rfl, e.trans h⟩
    unfold ldn at h
    (repeat' split at h) <;> first | (cases h; done) | (cases h; rfl)
theorem load_p {o : AOp} (ho : addrOf o ≠ none) {s : St} {π : Path} {need : Option Prop} {v : AV} {B : Option Blk} (h : aop s π o = .p need v B) : B = none := by
  obtain ⟨a, ha⟩ := Option.ne_none_iff_exists'.1 ho
  rcases addr_cases ha with rfl | ⟨n, rfl⟩
  · simp only [aop] at h
    split at h
    · exact (ld1_shape h).1
    · cases h
  · simp only [aop] at h
    split at h
    · exact (ldn_shape h).1
    · cases h
theorem load_call {o : AOp} (ho : addrOf o ≠ none) {s : St} {π : Path} {f : FuncId} {args : List AV} (h : aop s π o = .call f args) : False := by
  obtain ⟨a, ha⟩ := Option.ne_none_iff_exists'.1 ho
  rcases addr_cases ha with rfl | ⟨n, rfl⟩
  · simp only [aop] at h
    split at h
    · unfold ld1 at h; (repeat' split at h) <;> cases h
    · cases h
  · simp only [aop] at h
    split at h
    · unfold ldn at h; (repeat' split at h) <;> cases h
    · cases h
theorem load_at {o : AOp} {a : Nat} (ha : addrOf o = some a) {s : St} {π : Path} {need : Option Prop} {v : AV} {B : Option Blk} (h : aop s π o = .p need v B) :
    ∃ n p q, slotAt s.tmps a = some ⟨n, p, .c (.ptr q)⟩ ∧ ∃ C, getB s.heap.blks q.id = some C := by
  have hs : ∀ q, s.get π (.t a) = .c (.ptr q) → ∃ n p, slotAt s.tmps a = some ⟨n, p, .c (.ptr q)⟩ := fun q hq => by
    simp only [St.get] at hq
    split at hq
    · rename_i n p v hsl
      split at hq
      · subst hq; exact ⟨n, p, hsl⟩
      · cases hq
    · cases hq
  rcases addr_cases ha with rfl | ⟨n, rfl⟩
  · simp only [aop] at h
    split at h
    · rename_i q hq
      obtain ⟨n, p, hsl⟩ := hs q hq
      obtain ⟨_, C, hC, _⟩ := ld1_shape h
      exact ⟨n, p, q, hsl, C, hC⟩
    · cases h
  · simp only [aop] at h
    split at h
    · rename_i q hq
      obtain ⟨n, p, hsl⟩ := hs q hq
      obtain ⟨_, C, hC, _⟩ := ldn_shape h
      exact ⟨n, p, q, hsl, C, hC⟩
    · cases h
theorem load_one {o : AOp} {a : Nat} (ha : addrOf o = some a) {l : List Slot} {π : Path} {n : Nat} {p : Path} {q : AA} (hsl : slotAt l a = some ⟨n, p, .c (.ptr q)⟩) {H : Heap} {C : Blk} (hC : getB H.blks q.id = some C) : aop ⟨l, ⟨H.next, [(q.id, C)]⟩⟩ π o = aop ⟨l, H⟩ π o := by
  have hg : ∀ K, St.get ⟨l, K⟩ π (.t a) = .c (.ptr q) ∨ St.get ⟨l, K⟩ π (.t a) = .bot := fun K => by
    simp only [St.get, hsl]
    split
    · exact .inl rfl
    · exact .inr rfl
  have he : ∀ K, St.get ⟨l, K⟩ π (.t a) = St.get ⟨l, H⟩ π (.t a) := fun K => rfl
  rcases addr_cases ha with rfl | ⟨n, rfl⟩
  · simp only [aop, he]
    rcases hg H with h | h
    · simp only [h]; unfold ld1; simp only [getB, Nat.beq_refl, hC]
    · simp only [h]
  · simp only [aop, he]
    rcases hg H with h | h
    · simp only [h]; unfold ldn; simp only [getB, Nat.beq_refl, hC]
    · simp only [h]
theorem addr_reads {o : AOp} {a : Nat} (h : addrOf o = some a) : a ∈ aSlots o := by
  rcases addr_cases h with rfl | ⟨n, rfl⟩ <;> simp [aSlots, oSl]
theorem tgt_nil {s : St} {o : AOp} (h : appNil o = true) {X : Nat} : (tgtOf s o).off X := by
  have hw : wrAddr s o = none := by cases o <;> first | rfl | simp [appNil] at h
  simp [tgtOf, hw, h, Tgt.off]
theorem exAll_spec {l : List Slot} {id : Nat} : ∀ {ex : List Nat}, exAll l id ex = true → ∀ {a : Nat}, a ∈ ex → ∀ {n p q}, slotAt l a = some ⟨n, p, .c (.ptr q)⟩ → id ≠ q.id
  | [], _, a, ha, _, _, _, _ => by cases ha
  | b :: r, h, a, ha, n, p, q, hs => by
    simp only [exAll] at h
    split at h
    · rename_i n' p' q' hs'
      split at h
      · cases h
      · rename_i hb
        cases ha with
        | head => rw [hs'] at hs; cases hs; intro e; rw [e, Nat.beq_refl] at hb; cases hb
        | tail _ ha => exact exAll_spec h ha hs
    · cases h
theorem tgt_exOk {s : St} {o : AOper} (hx : exOk s o = true) {a : Nat} (ha : a ∈ o.ex) {n : Nat} {p : Path} {q : AA} (hs : slotAt s.tmps a = some ⟨n, p, .c (.ptr q)⟩) : (tgtOf s o.op).off q.id := by
  unfold exOk at hx
  split at hx
  · rename_i e; rw [e] at ha; cases ha
  · rename_i b r e
    split at hx
    · rename_i id hw
      have := exAll_spec hx (by rw [← e]; exact ha) hs
      simp only [tgtOf, hw, Tgt.off]
      exact this
    · cases hx
theorem st_no_p {s : St} {π : Path} {o : AOp} (hc : stOp o = true) {need : Option Prop} {v : AV} {B : Option Blk} (h : aop s π o = .p need v B) : False := by
  cases o <;> first | (simp [stOp] at hc; done) | skip
  case st1 =>
    simp only [aop] at h
    split at h
    · unfold st1 at h; (repeat' split at h) <;> cases h
    · cases h
  case stn =>
    simp only [aop] at h
    split at h
    · unfold stn at h; (repeat' split at h) <;> cases h
    · cases h
theorem tgt_congr {l l' : List Slot} {H : Heap} {o : AOp} (h : ∀ t ∈ aSlots o, slotAt l t = slotAt l' t) : tgtOf ⟨l, H⟩ o = tgtOf ⟨l', H⟩ o := by
  have : wrAddr ⟨l, H⟩ o = wrAddr ⟨l', H⟩ o := by
    cases o <;> simp only [aSlots, List.mem_append] at h <;> simp only [wrAddr]
    case st1 a x => rw [get_congr (y := a) (fun t ht => h t (.inl ht))]
    case stn n a x => rw [get_congr (y := a) (fun t ht => h t (.inl ht))]
  simp only [tgtOf, this]

def StepQ (P : Program) (ao : AOper) (s : St) (π : Path) (v : AV) (H' : Heap) : Prop :=
  gpath s ao.guard = some π ∧ ((∃ need B, aop s π ao.op = .p need v B ∧ imp π (needP need) ∧ H' = addBlk s.heap B) ∨
    (∃ need, ao.tl = true ∧ π = [] ∧ aop s [] ao.op = .t need v H' ∧ needP need ∧ exOk s ao = true) ∨
    (∃ f args M, aop s π ao.op = .call f args ∧ H' = addBs s.heap M ∧ allW M = true ∧ imp π (Con P f args (roH s.heap) (fun v' H' => v' = v ∧ H' = addBs (roH s.heap) M))))

theorem st1_wr {H : Heap} {a : AA} {x : CV} {need : Option Prop} {v : AV} {H' : Heap} (h : st1 H a x = .t need v H') : ∃ B, getB H.blks a.id = some B ∧ B.wr = true := by
  unfold st1 at h
  cases hB : getB H.blks a.id with
  | none => rw [hB] at h; cases h
  | some B =>
    rw [hB] at h
    cases hw : B.wr with
    | false => simp only [hw] at h; cases h
    | true => exact ⟨B, rfl, hw⟩
theorem stn_wr {H : Heap} {n : Nat} {a : AA} {x : List Seg} {need : Option Prop} {v : AV} {H' : Heap} (h : stn H n a x = .t need v H') : ∃ B, getB H.blks a.id = some B ∧ B.wr = true := by
  unfold stn at h
  cases hB : getB H.blks a.id with
  | none => rw [hB] at h; simp at h
  | some B =>
    rw [hB] at h
    cases hw : B.wr with
    | false => simp only [hw] at h; cases h
    | true => exact ⟨B, rfl, hw⟩
theorem st_nop {s : St} {π : Path} {o : AOp} (hc : chgOp o = true) {need : Option Prop} {v : AV} {B : Option Blk} (h : aop s π o = .p need v B) : ∀ s', wrAddr s' o = none := by
  cases o <;> first | (simp [chgOp] at hc; done) | skip
  case st1 =>
    simp only [aop] at h
    split at h
    · unfold st1 at h; (repeat' split at h) <;> cases h
    · cases h
  case stn =>
    simp only [aop] at h
    split at h
    · unfold stn at h; (repeat' split at h) <;> cases h
    · cases h
  case app => intro s'; rfl
theorem tgt_wr {ao : AOper} {s : St} {π : Path} {v : AV} {H' : Heap} (hq : StepQ P ao s π v H') (ht : ao.tl = true) (hc : chgOp ao.op = true) {Y : Nat} (htg : tgtOf s ao.op = .one Y) : ∃ B, getB s.heap.blks Y = some B ∧ B.wr = true := by
  have hw : wrAddr s ao.op = some Y := by
    unfold tgtOf at htg
    split at htg
    · rename_i e; rw [e]; cases htg; rfl
    · split at htg <;> cases htg
  rcases hq.2 with ⟨_, _, e, _⟩ | ⟨_, _, _, e, _⟩ | ⟨_, _, _, e, _⟩
  · rw [st_nop hc e s] at hw; cases hw
  · generalize ao.op = o at *
    cases o <;> first | (simp [chgOp] at hc; done) | skip
    case st1 a x =>
      simp only [aop] at e
      simp only [wrAddr] at hw
      split at e
      · rename_i p cv e1 e2
        rw [e1] at hw
        cases hw
        exact st1_wr e
      · cases e
    case stn n a x =>
      simp only [aop] at e
      simp only [wrAddr] at hw
      split at e
      · rename_i p cv e1 e2
        rw [e1] at hw
        cases hw
        exact stn_wr e
      · cases e
    case app => simp [wrAddr] at hw
  · exact (chg_call hc e).elim

theorem imp_none (π : Path) : imp π (needP none) := by
  induction π with
  | nil => trivial
  | cons e r ih => intro _; exact ih

theorem trace {Qs : St → Prop} : ∀ (m : Nat) (al : List AOper) (s : St), (∀ i, i < m → ∃ ao, al[i]? = some ao ∧ (ao.tl = true → chgOp ao.op = true ∨ ao.op = .other)) → rwp (Con P) al s Qs →
    ∃ (S : Nat → St) (Pa : Nat → Path) (V : Nat → AV) (Hp : Nat → Heap), S 0 = s ∧
      (∀ i ao, i < m → al[i]? = some ao → StepQ P ao (S i) (Pa i) (V i) (Hp i) ∧ S (i + 1) = St.put ⟨(S i).tmps, Hp i⟩ ao.dst (Pa i) (V i)) ∧ rwp (Con P) (al.drop m) (S m) Qs
  | 0, al, s, _, h => ⟨fun _ => s, fun _ => [], fun _ => .bot, fun _ => s.heap, rfl, fun i ao hi => by omega, by simpa using h⟩
  | m + 1, [], s, hm, h => by obtain ⟨ao, h0, _⟩ := hm 0 (by omega); simp at h0
  | m + 1, ao :: al, s, hm, h => by
    have htl : ao.tl = true → chgOp ao.op = true ∨ ao.op = .other := by obtain ⟨x, h0, h1⟩ := hm 0 (by omega); simp at h0; subst h0; exact h1
    have hstep : ∃ π v H', StepQ P ao s π v H' ∧ rwp (Con P) al (St.put ⟨s.tmps, H'⟩ ao.dst π v) Qs := by
      simp only [rwp] at h
      cases hg : gpath s ao.guard with
      | none => rw [hg] at h; exact h.elim
      | some π =>
        rw [hg] at h
        simp only at h
        cases ha : aop s π ao.op with
        | bad => rw [ha] at h; exact h.elim
        | p need v B =>
          rw [ha] at h
          cases need with
          | none => exact ⟨π, v, _, ⟨hg, .inl ⟨none, B, ha, imp_none π, rfl⟩⟩, h⟩
          | some p => exact ⟨π, v, _, ⟨hg, .inl ⟨some p, B, ha, h.1, rfl⟩⟩, h.2⟩
        | t need v H' =>
          rw [ha] at h
          cases ht : ao.tl with
          | false => rw [ht] at h; cases need <;> exact h.elim
          | true =>
            cases π with
            | cons e r => cases need <;> (rw [ht] at h; exact h.elim)
            | nil =>
              cases hx : exOk s ao with
              | false => cases need <;> (rw [ht, hx] at h; exact h.elim)
              | true =>
                cases need with
                | none => rw [ht, hx] at h; exact ⟨[], v, H', ⟨hg, .inr (.inl ⟨none, ht, rfl, ha, trivial, hx⟩)⟩, h⟩
                | some p => rw [ht, hx] at h; exact ⟨[], v, H', ⟨hg, .inr (.inl ⟨some p, ht, rfl, ha, h.1, hx⟩)⟩, h.2⟩
        | call f args =>
          cases ht : ao.tl with
          | true =>
            rcases htl ht with h' | h'
            · exact (chg_call h' ha).elim
            · rw [h'] at ha; simp [aop_other] at ha
          | false =>
            rw [ha, ht] at h
            simp only [callW] at h
            obtain ⟨v, M, hM, hcon, hr⟩ := h
            exact ⟨π, v, _, ⟨hg, .inr (.inr ⟨f, args, M, ha, rfl, hM, hcon⟩)⟩, hr⟩
    obtain ⟨π, v, H', hq, hr⟩ := hstep
    obtain ⟨S, Pa, V, Hp, h0, hS, hrest⟩ := trace m al _ (fun i hi => by obtain ⟨x, h1, h2⟩ := hm (i + 1) (by omega); exact ⟨x, by simpa using h1, h2⟩) hr
    refine ⟨fun i => match i with | 0 => s | i + 1 => S i, fun i => match i with | 0 => π | i + 1 => Pa i, fun i => match i with | 0 => v | i + 1 => V i, fun i => match i with | 0 => H' | i + 1 => Hp i, rfl, fun i x hi hx => ?_, by simpa using hrest⟩
    cases i with
    | zero =>
      simp only [List.getElem?_cons_zero, Option.some.injEq] at hx
      subst hx
      exact ⟨hq, h0⟩
    | succ i => exact hS i x (by omega) (by simpa using hx)

def Emb.to (φ : Emb) (k : Nat) : Emb := fun i => if i < k then φ i else none
theorem Emb.to_le (φ : Emb) (k : Nat) : (φ.to k).le φ := fun i p h => by
  unfold Emb.to at h
  split at h
  · exact h
  · cases h
theorem Emb.to_mono (φ : Emb) {j k : Nat} (h : j ≤ k) : (φ.to j).le (φ.to k) := fun i p hi => by
  unfold Emb.to at *
  split at hi
  · rw [if_pos (by omega)]; exact hi
  · cases hi
theorem Emb.to_self {φ : Emb} {k : Nat} (h : ∀ i, k ≤ i → φ i = none) : φ.to k = φ := funext fun i => by
  unfold Emb.to
  split
  · rfl
  · rw [h i (by omega)]

def AOk (l : List Slot) (K : List Nat) : Prop := ∀ n sl, slotAt l n = some sl → pathOk l sl.path ∧ keysIn K sl.path
theorem SOk.aok {l : List Slot} {a : Act} {K : List Nat} (h : SOk φ l a K) : AOk l K := fun n sl hs => ⟨(h n sl hs).path, (h n sl hs).keys⟩
theorem step_t {F : Fence} [Wide F] {N : Nat} {ops : Array Oper} {Q : Exit → Act → World → Prop} {o : Oper} {ao : AOper} (hc : Corr P N ops o ao) {E l : List Slot} {H : Heap} {a : Act} (hS : SOkE φ E l a) (hH : HRel φ H w) (hg : gpath ⟨l, H⟩ ao.guard = some [])
    {need : Option Prop} {v : AV} {H' : Heap} (ha : aop ⟨l, H⟩ [] ao.op = .t need v H') (hn : needP need) {KK : Act → World → Prop}
    (k : ∀ φ' x w', HRel φ' H' w' → Fr φ H w φ' H' w' → relA φ' v x → (∀ b, b < w.heap.size → (tgtOf ⟨l, H⟩ ao.op).phys φ b → w'.heap[b]? = w.heap[b]?) → KK (a.put o.dst x) w') : stp F P ops Q o KK a w := by
  have hno : ao.op ≠ .other := fun e => by rw [e] at ha; simp [aop_other] at ha
  have hw := wanted_iff hc hno hS hg
  have hs := hc.op.resolve_right hno
  have hgets : ∀ K, Gets φ ⟨l, K⟩ [] a := fun K => gets_of (H := K) hS (π := []) trivial trivial
  unfold stp
  rw [if_pos (hw.2 trivial)]
  obtain ⟨φ', w', h1, h2, h3⟩ := op_t hs (hgets H) hH ha hn
  refine wp_op hs ?_
  rcases h1 with ⟨x, h1, hr⟩ | ⟨h1, rfl⟩
  · exact up_value h1 (k φ' x w' h2 h3 hr fun b hb ht => tgt_phys (s := ⟨l, H⟩) hs hgets hH ha hn (.inl ⟨x, h1⟩) hb ht)
  · exact up_skip h1 (k φ' undef w' h2 h3 trivial fun b hb ht => tgt_phys (s := ⟨l, H⟩) hs hgets hH ha hn (.inr h1) hb ht)

theorem aok_put {l : List Slot} {K K' : List Nat} (h : AOk l K) (hKK : ∀ x ∈ K, x ∈ K') {d : Nat} (hd : d ∉ K') {π : Path} (hπ : pathOk l π) (hk : keysIn K' π) {v : AV} : AOk (⟨d, π, v⟩ :: l) K' := by
  intro n sl hs
  by_cases hn : n = d
  · subst hn
    rw [slotAt_cons_self] at hs
    cases hs
    exact ⟨pathOk_cons hd hk hπ, hk⟩
  · rw [slotAt_cons_ne hn] at hs
    obtain ⟨h1, h2⟩ := h n sl hs
    exact ⟨pathOk_cons hd (keysIn_mono hKK h2) h1, keysIn_mono hKK h2⟩

theorem gpath_aok {l : List Slot} {H : Heap} {K : List Nat} (hA : AOk l K) {g : Option (Nat × Bool)} {π : Path} (h : gpath ⟨l, H⟩ g = some π) : pathOk l π ∧ keysIn (addK K g) π := by
  cases g with
  | none => simp only [gpath, Option.some.injEq] at h; subst h; exact ⟨trivial, fun e he => by cases he⟩
  | some g =>
    obtain ⟨d, w⟩ := g
    simp only [gpath] at h
    split at h
    · rename_i n p b hs
      simp only [Option.some.injEq] at h
      subst h
      have hn : n = d := slotAt_num _ _ _ hs
      subst hn
      obtain ⟨h1, h2⟩ := hA _ _ hs
      refine ⟨⟨hs, h1⟩, fun e he => ?_⟩
      cases he with
      | head => exact List.mem_cons_self
      | tail _ he => exact List.mem_cons_of_mem _ (h2 e he)
    · simp at h

def mask (R : List Nat) : List Slot → List Slot
  | [] => []
  | ⟨n, p, v⟩ :: r => (if R.contains n then ⟨n, p, v⟩ else ⟨n, [], .bot⟩) :: mask R r
theorem slotAt_mask_in {R : List Nat} {t : Nat} (h : R.contains t = true) : ∀ (l : List Slot), slotAt (mask R l) t = slotAt l t
  | [] => rfl
  | ⟨n, p, v⟩ :: r => by
    simp only [mask]
    by_cases hn : n = t
    · subst hn
      rw [if_pos h, slotAt_cons_self, slotAt_cons_self]
    · split
      · rw [slotAt_cons_ne (Ne.symm hn), slotAt_cons_ne (Ne.symm hn)]; exact slotAt_mask_in h r
      · rw [slotAt_cons_ne (Ne.symm hn), slotAt_cons_ne (Ne.symm hn)]; exact slotAt_mask_in h r
theorem slotAt_mask_out {R : List Nat} {t : Nat} (h : R.contains t = false) : ∀ (l : List Slot) (sl : Slot), slotAt (mask R l) t = some sl → sl = ⟨t, [], .bot⟩
  | [], sl, hs => by simp [mask, slotAt] at hs
  | ⟨n, p, v⟩ :: r, sl, hs => by
    simp only [mask] at hs
    by_cases hn : n = t
    · subst hn
      rw [h, if_neg (by simp), slotAt_cons_self] at hs
      cases hs
      rfl
    · split at hs
      · rw [slotAt_cons_ne (Ne.symm hn)] at hs; exact slotAt_mask_out h r sl hs
      · rw [slotAt_cons_ne (Ne.symm hn)] at hs; exact slotAt_mask_out h r sl hs

structure Run (P : Program) (N : Nat) (ops : Array Oper) (al : List AOper) (m0 m : Nat) (S : Nat → St) (Pa : Nat → Path) (V : Nat → AV) (Hp : Nat → Heap) (KK : Nat → List Nat) : Prop where
  le : m ≤ ops.size
  lo : m0 ≤ m
  const : ∀ i, i ≤ m0 → S i = S 0
  corr : ∀ i, i < ops.size → ∃ o ao, ops[i]? = some o ∧ al[i]? = some ao ∧ Corr P N ops o ao
  step : ∀ i ao, m0 ≤ i → i < m → al[i]? = some ao → StepQ P ao (S i) (Pa i) (V i) (Hp i) ∧ S (i + 1) = St.put ⟨(S i).tmps, Hp i⟩ ao.dst (Pa i) (V i)
  chg : ∀ i ao, m0 ≤ i → i < m → al[i]? = some ao → ao.tl = true → chgOp ao.op = true
  mid : ∀ j aj oj, m0 ≤ j → j < m → al[j]? = some aj → ops[j]? = some oj → aj.tl = true → ∀ i ai oi, m0 ≤ i → i < m → al[i]? = some ai → ops[i]? = some oi → i ≠ j → quietOp ai.op = false → (j < i → Behind ops oi j ∨ ((addrOf ai.op).isSome = true ∧ appNil aj.op = true)) ∧ (i < j → Behind ops oj i ∨ ∃ a, addrOf ai.op = some a ∧ (appNil aj.op = true ∨ (stOp aj.op = true ∧ a ∈ aj.ex ∧ ∀ k ak, i ≤ k → k < m → al[k]? = some ak → ak.dst ≠ some a)))
  aok : ∀ i, m0 ≤ i → i ≤ m → AOk (S i).tmps (KK i)
  kk : ∀ i ao, m0 ≤ i → i < m → al[i]? = some ao → KK (i + 1) = addK (KK i) ao.guard
  no : ∀ i ao d, m0 ≤ i → i < m → al[i]? = some ao → ao.dst = some d → d ∉ KK (i + 1)
  draw : drawOk ops al = true

theorem addBlk_next (H : Heap) (B : Option Blk) : H.next ≤ (addBlk H B).next := by cases B <;> simp [addBlk]
theorem put_heap (s : St) (d : Option Nat) (π : Path) (v : AV) : (St.put s d π v).heap = s.heap := by cases d <;> rfl

section
variable {N : Nat} {ops : Array Oper} {al : List AOper} {m0 m : Nat} {S : Nat → St} {Pa : Nat → Path} {V : Nat → AV} {Hp : Nat → Heap} {KK : Nat → List Nat}

theorem Run.al_some (h : Run P N ops al m0 m S Pa V Hp KK) {i : Nat} (hi : i < m) : ∃ o ao, ops[i]? = some o ∧ al[i]? = some ao ∧ Corr P N ops o ao := h.corr i (Nat.lt_of_lt_of_le hi h.le)

theorem Run.heap_succ (h : Run P N ops al m0 m S Pa V Hp KK) {i : Nat} (h0 : m0 ≤ i) (hi : i < m) : (S (i + 1)).heap = Hp i := by
  obtain ⟨o, ao, _, ha, _⟩ := h.al_some hi
  rw [(h.step i ao h0 hi ha).2, put_heap]

theorem Run.same_lo (h : Run P N ops al m0 m S Pa V Hp KK) {i : Nat} (hi : ¬ m0 ≤ i) : S (i + 1) = S i := by
  rw [h.const i (by omega), h.const (i + 1) (by omega)]

theorem Run.next_succ (h : Run P N ops al m0 m S Pa V Hp KK) {i : Nat} (hi : i < m) : (S i).heap.next ≤ (S (i + 1)).heap.next := by
  obtain ⟨o, ao, _, ha, _⟩ := h.al_some hi
  by_cases h0 : m0 ≤ i
  rotate_left
  · rw [h.same_lo h0]; exact Nat.le_refl _
  rw [h.heap_succ h0 hi]
  rcases (h.step i ao h0 hi ha).1.2 with ⟨_, B, _, _, e⟩ | ⟨_, ht, hp, ht', _⟩ | ⟨_, _, M, _, e, _⟩
  · rw [e]; exact addBlk_next _ _
  · exact chg_next (h.chg i ao h0 hi ha ht) ht'
  · rw [e, addBs_next]; omega

theorem Run.next_mono (h : Run P N ops al m0 m S Pa V Hp KK) : ∀ {i j : Nat}, i ≤ j → j ≤ m → (S i).heap.next ≤ (S j).heap.next := by
  intro i j hij
  induction hij with
  | refl => intro _; exact Nat.le_refl _
  | step hij ih => intro hj; exact Nat.le_trans (ih (by omega)) (h.next_succ (by omega))

def still (al : List AOper) (m0 i j : Nat) : Prop := ∀ t ao, m0 ≤ t → i ≤ t → t < j → al[t]? = some ao → ao.tl = false
def stillAt (al : List AOper) (S : Nat → St) (m0 X i j : Nat) : Prop := ∀ t ao, m0 ≤ t → i ≤ t → t < j → al[t]? = some ao → ao.tl = true → (tgtOf (S t) ao.op).off X

theorem Run.getB_at (h : Run P N ops al m0 m S Pa V Hp KK) {X : Nat} : ∀ {i j : Nat}, i ≤ j → j ≤ m → stillAt al S m0 X i j → X < (S i).heap.next → getB (S j).heap.blks X = getB (S i).heap.blks X := by
  intro i j hij
  induction hij with
  | refl => intro _ _ _; rfl
  | step hij ih =>
    intro hj hst hid
    rename_i j
    have hij : i ≤ j := hij
    have hlt : X < (S j).heap.next := Nat.lt_of_lt_of_le hid (h.next_mono hij (by omega))
    have ih := ih (by omega) (fun t ao h0 h1 h2 => hst t ao h0 h1 (by omega)) hid
    obtain ⟨o, ao, _, ha, _⟩ := h.al_some (show j < m by omega)
    by_cases h0 : m0 ≤ j
    rotate_left
    · rw [h.same_lo h0]; exact ih
    rw [h.heap_succ h0 (show j < m by omega)]
    rcases (h.step j ao h0 (by omega) ha).1.2 with ⟨_, B, _, _, e⟩ | ⟨_, ht, hp, e, _⟩ | ⟨_, _, M, _, e, _⟩
    · rw [e]
      cases B with
      | none => exact ih
      | some B =>
        show getB (((S j).heap.next, B) :: (S j).heap.blks) X = _
        rw [getB_cons_ne (by omega)]
        exact ih
    · rw [tgt_names e (hst j ao h0 hij (by omega) ha ht) hlt]; exact ih
    · rw [e, addBs_lo M _ X hlt]; exact ih
theorem Run.getB_old (h : Run P N ops al m0 m S Pa V Hp KK) {i j : Nat} (hij : i ≤ j) (hj : j ≤ m) (hs : still al m0 i j) (id : Nat) (hid : id < (S i).heap.next) : getB (S j).heap.blks id = getB (S i).heap.blks id :=
  h.getB_at hij hj (fun t ao h0 h1 h2 h3 h4 => by rw [hs t ao h0 h1 h2 h3] at h4; cases h4) hid

theorem Run.slot_same (h : Run P N ops al m0 m S Pa V Hp KK) {t : Nat} : ∀ {i j : Nat}, i ≤ j → j ≤ m → (∀ k ak, m0 ≤ k → i ≤ k → k < j → al[k]? = some ak → ak.dst ≠ some t) → slotAt (S j).tmps t = slotAt (S i).tmps t := by
  intro i j hij
  induction hij with
  | refl => intro _ _; rfl
  | step hij ih =>
    intro hj hno
    rename_i j
    have hij : i ≤ j := hij
    have ih := ih (by omega) fun k ak h0 h1 h2 => hno k ak h0 h1 (by omega)
    obtain ⟨o, ao, _, ha, _⟩ := h.al_some (show j < m by omega)
    by_cases h0 : m0 ≤ j
    rotate_left
    · rw [h.same_lo h0]; exact ih
    rw [(h.step j ao h0 (by omega) ha).2]
    have hd := hno j ao h0 hij (by omega) ha
    cases hdd : ao.dst with
    | none => exact ih
    | some d =>
      show slotAt (⟨d, Pa j, V j⟩ :: (S j).tmps) t = _
      rw [slotAt_cons_ne (fun e => hd (by rw [hdd, e]))]
      exact ih
theorem Run.slot (h : Run P N ops al m0 m S Pa V Hp KK) : ∀ {i : Nat}, i ≤ m → ∀ t, (∃ j ao, m0 ≤ j ∧ j < i ∧ al[j]? = some ao ∧ ao.dst = some t ∧ slotAt (S i).tmps t = some ⟨t, Pa j, V j⟩) ∨ ((∀ j ao, m0 ≤ j → j < i → al[j]? = some ao → ao.dst ≠ some t) ∧ slotAt (S i).tmps t = slotAt (S 0).tmps t)
  | 0, _, t => .inr ⟨fun j ao h0 hj => by omega, rfl⟩
  | i + 1, hi, t => by
    obtain ⟨o, ao, _, ha, _⟩ := h.al_some (show i < m by omega)
    have ih := h.slot (show i ≤ m by omega) t
    by_cases h0 : m0 ≤ i
    rotate_left
    · rw [h.same_lo h0]
      rcases ih with ⟨j, x, h1, _⟩ | ⟨hno, hsl⟩
      · omega
      · exact .inr ⟨fun j x h1 h2 => by omega, hsl⟩
    have hs := (h.step i ao h0 (by omega) ha).2
    cases hd : ao.dst with
    | none =>
      rw [hd] at hs
      have e : (S (i + 1)).tmps = (S i).tmps := by rw [hs]; rfl
      rw [e]
      rcases ih with ⟨j, x, hj0, hj, hx, hxd, hsl⟩ | ⟨hno, hsl⟩
      · exact .inl ⟨j, x, hj0, by omega, hx, hxd, hsl⟩
      · refine .inr ⟨fun j x hj0 hj hx => ?_, hsl⟩
        by_cases hji : j = i
        · subst hji; rw [ha] at hx; cases hx; rw [hd]; simp
        · exact hno j x hj0 (by omega) hx
    | some d =>
      rw [hd] at hs
      have e : (S (i + 1)).tmps = ⟨d, Pa i, V i⟩ :: (S i).tmps := by rw [hs]; rfl
      rw [e]
      by_cases htd : t = d
      · subst htd
        exact .inl ⟨i, ao, h0, by omega, ha, hd, slotAt_cons_self _ _ _ _⟩
      · rw [slotAt_cons_ne htd]
        rcases ih with ⟨j, x, hj0, hj, hx, hxd, hsl⟩ | ⟨hno, hsl⟩
        · exact .inl ⟨j, x, hj0, by omega, hx, hxd, hsl⟩
        · refine .inr ⟨fun j x hj0 hj hx => ?_, hsl⟩
          by_cases hji : j = i
          · subst hji; rw [ha] at hx; cases hx; rw [hd]; simpa using Ne.symm htd
          · exact hno j x hj0 (by omega) hx
end

end Go.AM

namespace Go.AM
set_option linter.unusedVariables false
set_option linter.unusedSectionVars false
set_option linter.unusedSimpArgs false
variable {P : Program} {φ : Emb} {w : World}

theorem draw_spec {ops : Array Oper} {al : List AOper} (h : drawOk ops al = true) {i : Nat} {o : Oper} {ao : AOper} (ho : ops[i]? = some o) (ha : al[i]? = some ao) :
    (∀ e ∈ o.after, Region.binds .any e = true → e.on < i) ∧ ∀ j x d, j ≠ i → ops[j]? = some x → x.dst = some d → o.dst ≠ some d ∧ (d ∈ readsA ao → (j < i → waits o j = true) ∧ (i < j → waits x i = true)) := by
  have hi : i < ops.size := (Array.getElem?_eq_some_iff.1 ho).1
  unfold drawOk at h
  have h1 := List.all_eq_true.1 h i (List.mem_range.2 hi)
  simp only [ho, ha, Bool.and_eq_true, List.all_eq_true, List.mem_range, Bool.or_eq_true, Bool.not_eq_true', decide_eq_true_eq, beq_iff_eq] at h1
  obtain ⟨g1, g2⟩ := h1
  refine ⟨fun e he hb => ?_, fun j x d hne hx hd => ?_⟩
  · have := g1 e (by simpa using he)
    rcases this with h | h
    · rw [hb] at h; cases h
    · exact h
  · have hj : j < ops.size := (Array.getElem?_eq_some_iff.1 hx).1
    have := (g2 j hj).resolve_left (Ne.symm hne)
    simp only [hx, hd, Bool.and_eq_true, Bool.or_eq_true, Bool.not_eq_true', bne_iff_ne, ne_eq] at this
    refine ⟨this.1, fun hmem => ?_⟩
    have h3 := this.2.resolve_left (by simpa using hmem)
    constructor
    · intro hlt; simpa [hlt] using h3
    · intro hlt; simpa [Nat.not_lt.2 (Nat.le_of_lt hlt)] using h3

theorem ready_waits {ops : Array Oper} {listed : Array Bool} {i : Nat} {o : Oper} (h : i ∈ Region.ready .any ops listed) (ho : ops[i]? = some o) : listed.getD i true = false ∧ ∀ j, waits o j = true → listed.getD j false = true := by
  obtain ⟨h0, o', ho', hall⟩ := mem_ready.1 h
  rw [ho] at ho'
  cases ho'
  refine ⟨h0, fun j hj => ?_⟩
  unfold waits at hj
  obtain ⟨e, he, hb⟩ := List.any_eq_true.1 hj
  simp only [Bool.and_eq_true, beq_iff_eq] at hb
  have := hall e (by simpa using he) hb.1
  rwa [hb.2] at this

def unl (listed : Array Bool) : Nat → Nat
  | 0 => 0
  | k + 1 => unl listed k + (if listed.getD k false = true then 0 else 1)
theorem unl_set {listed : Array Bool} {i : Nat} (hi : listed.getD i false = false) (hs : i < listed.size) : ∀ {k : Nat}, (i < k → unl (listed.setIfInBounds i true) k + 1 = unl listed k) ∧ (k ≤ i → unl (listed.setIfInBounds i true) k = unl listed k)
  | 0 => ⟨fun h => by omega, fun _ => rfl⟩
  | k + 1 => by
    obtain ⟨h1, h2⟩ := unl_set hi hs (k := k)
    refine ⟨fun h => ?_, fun h => ?_⟩
    · simp only [unl]
      by_cases hk : k = i
      · subst hk
        rw [h2 (Nat.le_refl _), hi]
        simp [hs]
      · rw [getD_set_ne false (Ne.symm hk)]
        have := h1 (by omega)
        omega
    · simp only [unl]
      rw [getD_set_ne false (by omega), h2 (by omega)]
theorem unl_zero {listed : Array Bool} : ∀ {k : Nat}, unl listed k = 0 → ∀ i, i < k → listed.getD i false = true
  | k + 1, h, i, hi => by
    simp only [unl] at h
    by_cases hk : i = k
    · subst hk
      split at h
      · assumption
      · omega
    · exact unl_zero (k := k) (by omega) i (by omega)

theorem getD_set_self {listed : Array Bool} {i : Nat} (h : i < listed.size) (d : Bool) : (listed.setIfInBounds i true).getD i d = true := by simp [h]

section
variable {N : Nat} {ops : Array Oper} {al : List AOper} {m0 m : Nat} {S : Nat → St} {Pa : Nat → Path} {V : Nat → AV} {Hp : Nat → Heap} {KK : Nat → List Nat}

def Stg (al : List AOper) (m0 m : Nat) (listed : Array Bool) (k : Nat) : Prop := ∀ j ao, m0 ≤ j → j < m → al[j]? = some ao → ao.tl = true → (listed.getD j false = true ↔ j < k)

def OffD (al : List AOper) (S : Nat → St) (m0 m : Nat) (listed : Array Bool) (k X : Nat) : Prop := ∀ j ao, m0 ≤ j → j < m → al[j]? = some ao → ao.tl = true → ¬ (listed.getD j false = true ↔ j < k) → (tgtOf (S j) ao.op).off X

structure Jn (ops : Array Oper) (al : List AOper) (m0 m N : Nat) (S : Nat → St) (Pa : Nat → Path) (V : Nat → AV) (φs : Emb) (a0 : Act) (ws : World) (listed : Array Bool) (φ : Emb) (a : Act) (w : World) : Prop where
  sz : listed.size = ops.size
  lt : ∀ i, listed.getD i false = true → i < m
  base : ∀ i, i < m0 → listed.getD i false = true
  down : ∀ i o j, listed.getD i false = true → ops[i]? = some o → waits o j = true → listed.getD j false = true
  hr : ∀ k, k ≤ m → Stg al m0 m listed k → HRel (φ.to (S k).heap.next) (S k).heap w ∧ Fr φs (S 0).heap ws (φ.to (S k).heap.next) (S k).heap w
  hb : ∀ k X B p, k ≤ m → getB (S k).heap.blks X = some B → OffD al S m0 m listed k X → (φ.to (S k).heap.next) X = some p → BRel (φ.to (S k).heap.next) B p w
  bl : ∀ id p, φ id = some p → p.blk < w.heap.size
  fresh : ∀ i, (S m).heap.next ≤ i → φ i = none
  un : ∀ i, i < m → listed.getD i false = false → ∀ id, (S i).heap.next ≤ id → id < (S (i + 1)).heap.next → φ id = none
  on : ∀ i ao d, m0 ≤ i → i < m → listed.getD i false = true → al[i]? = some ao → ao.dst = some d → (conds (Pa i) → relA (φ.to (S (i + 1)).heap.next) (V i) (a.tmps.getD d undef)) ∧ (¬ conds (Pa i) → a.tmps.getD d undef = undef)
  off : ∀ t, (∀ i ao, m0 ≤ i → i < m → listed.getD i false = true → al[i]? = some ao → ao.dst ≠ some t) → a.tmps.getD t undef = a0.tmps.getD t undef
  old : ∀ id, id < (S 0).heap.next → φ id = φs id
  defers : a.defers = a0.defers
  size : a.tmps.size = N

theorem Grow.refl (w : World) : Grow w w := ⟨rfl, rfl, rfl, Nat.le_refl _, fun _ _ => rfl⟩
theorem Grow.alloc (w : World) (o : Obj) : Grow w (w.alloc o) := ⟨rfl, rfl, rfl, by simp, fun b hb => heap_alloc_lt w o hb⟩

theorem HRel.define {H : Heap} (h : HRel φ H w) {w' : World} (hg : Grow w w') {n : Nat} {p : Place} (hn : φ n = none) (hlt : n < H.next) {B : Blk} (hB : getB H.blks n = some B) (hb : BRel (φ.ins n p) B p w') (hp : w.heap.size ≤ p.blk) (hp' : p.blk < w'.heap.size) : HRel (φ.ins n p) H w' := by
  obtain ⟨h', _⟩ := h.grown hg.os hg.tape hg.output hg.size hg.block (K := H) (Nat.le_refl _) (fun _ _ h _ => h)
  have hle := Emb.le_ins (p := p) hn
  have hold : ∀ j q, (φ.ins n p) j = some q → j ≠ n → φ j = some q := fun j q hq hj => by simpa [Emb.ins, hj] using hq
  have hself : ∀ q, (φ.ins n p) n = some q → q = p := fun q hq => by rw [Emb.ins_self] at hq; cases hq; rfl
  refine ⟨fun j D q hj hq => ?_, fun j k D E q r hj hk hq hr hne hDw => ?_, fun j hj => ?_, fun j q hq => ?_⟩
  · by_cases e : j = n
    · subst e
      rw [hB] at hj
      cases hj
      rw [hself q hq]
      exact hb
    · have hb' := h'.blk j D q hj (hold j q hq e)
      exact ⟨hb'.str, fun i hi => let ⟨xs, h1, h2, h3⟩ := hb'.rows i hi; ⟨xs, h1.mono fun _ _ => rel_mono hle, h2, h3⟩, fun hw => own_mono hle (hb'.own hw)⟩
  · by_cases e : j = n
    · subst e
      rw [hself q hq]
      have := h.lt k r (hold k r hr (Ne.symm hne))
      omega
    · by_cases e2 : k = n
      · subst e2
        rw [hself r hr]
        have := h.lt j q (hold j q hq e)
        omega
      · exact h'.inj j k D E q r hj hk (hold j q hq e) (hold k r hr e2) hne hDw
  · simp only [Emb.ins]
    rw [if_neg (by omega)]
    exact h.fresh j hj
  · by_cases e : j = n
    · subst e; rw [hself q hq]; exact hp'
    · exact h'.lt j q (hold j q hq e)

theorem ins_to {n k : Nat} {p : Place} : (φ.ins n p).to k = if n < k then (φ.to k).ins n p else φ.to k := by
  funext i
  unfold Emb.to Emb.ins
  by_cases h1 : n < k
  · rw [if_pos h1]
    by_cases h2 : i = n
    · subst h2; simp [h1]
    · simp [h2]
  · rw [if_neg h1]
    by_cases h2 : i = n
    · subst h2; simp [h1]
    · simp [h2]

theorem HRel.empty {n : Nat} (h1 : ∀ i, n ≤ i → φ i = none) (h2 : ∀ i p, φ i = some p → p.blk < w.heap.size) : HRel φ ⟨n, []⟩ w :=
  ⟨fun i B p hB => by simp [getB] at hB, fun i j B C p q hB => by simp [getB] at hB, h1, h2⟩

variable {F : Fence} [Wide F]
theorem jn_step (hR : Run P N ops al m0 m S Pa V Hp KK) {φs : Emb} {a0 : Act} {ws : World} (hs0 : SOk φs (S 0).tmps a0 (KK 0)) (hf0 : ∀ i, (S 0).heap.next ≤ i → φs i = none) {listed : Array Bool} {a : Act}
    (hJ : Jn ops al m0 m N S Pa V φs a0 ws listed φ a w) {i : Nat} (hi : i < m) (hrd : i ∈ Region.ready .any ops listed) {Q : Exit → Act → World → Prop} {KQ : Act → World → Prop}
    (k : ∀ φ' a' w', Jn ops al m0 m N S Pa V φs a0 ws (listed.setIfInBounds i true) φ' a' w' → KQ a' w') : wpOpIn F 0 P ops Q i KQ a w := by
  obtain ⟨o, ao, ho, ha, hc⟩ := hR.al_some hi
  obtain ⟨hun, hdeps⟩ := ready_waits hrd ho
  have hiz : i < listed.size := by rw [hJ.sz]; exact Nat.lt_of_lt_of_le hi hR.le
  have hunf : listed.getD i false = false := by
    simp only [Array.getD_eq_getD_getElem?, Array.getElem?_eq_getElem hiz, Option.getD_some] at hun ⊢
    exact hun
  have hi0 : m0 ≤ i := by
    rcases Nat.lt_or_ge i m0 with h | h
    · rw [hJ.base i h] at hunf; cases hunf
    · exact h
  obtain ⟨hq, hSn⟩ := hR.step i ao hi0 hi ha
  obtain ⟨hdr1, hdr2⟩ := draw_spec hR.draw ho ha
  -- the masked list, under the ids that were known by then
  have hnm := hR.next_mono (i := 0) (j := i) (Nat.zero_le _) (Nat.le_of_lt hi)
  have hnm1 : ∀ j, j < i → (S (j + 1)).heap.next ≤ (S i).heap.next := fun j hj => hR.next_mono (by omega) (by omega)
  have hlesφ : φs.le (φ.to (S i).heap.next) := fun id p hp => by
    have hlt : id < (S 0).heap.next := by
      rcases Nat.lt_or_ge id (S 0).heap.next with h | h
      · exact h
      · rw [hf0 id h] at hp; cases hp
    unfold Emb.to
    rw [if_pos (by omega), hJ.old id hlt]
    exact hp
  have hsok : SOkE (φ.to (S i).heap.next) (S i).tmps (mask (readsA ao) (S i).tmps) a := by
    intro t sl hsl
    cases hR' : (readsA ao).contains t with
    | false =>
      have := slotAt_mask_out hR' _ _ hsl
      subst this
      exact ⟨rfl, fun _ => trivial, .inl rfl, trivial, .inl rfl⟩
    | true =>
      rw [slotAt_mask_in hR'] at hsl
      have hmem : t ∈ readsA ao := by simpa using hR'
      obtain ⟨hp1, hp2⟩ := hR.aok i hi0 (Nat.le_of_lt hi) t sl hsl
      refine ⟨slotAt_num _ _ _ hsl, ?_, ?_, hp1, .inr hsl⟩ <;>
        (rcases hR.slot (Nat.le_of_lt hi) t with ⟨j, x, hj0, hj, hx, hxd, hs'⟩ | ⟨hno, hs'⟩)
      · rw [hs'] at hsl
        cases hsl
        obtain ⟨ox, ax, hox, hax, hcx⟩ := hR.al_some (show j < m by omega)
        rw [hx] at hax
        cases hax
        have hw := ((hdr2 j ox t (by omega) hox (by rw [← hcx.dst]; exact hxd)).2 hmem).1 hj
        intro hcd
        exact relA_mono (Emb.to_mono φ (hnm1 j hj)) ((hJ.on j x t hj0 (by omega) (hdeps j hw) hx hxd).1 hcd)
      · intro hcd
        rw [hs'] at hsl
        have hk := hs0 t sl hsl
        rw [hJ.off t ?_]
        · exact relA_mono hlesφ (hk.on hcd)
        · intro j x hj0 hj hlj hx hxd
          by_cases hji : j < i
          · exact hno j x hj0 hji hx hxd
          · have hne : j ≠ i := fun e => by subst e; rw [hunf] at hlj; cases hlj
            obtain ⟨ox, ax, hox, hax, hcx⟩ := hR.al_some hj
            rw [hx] at hax
            cases hax
            have hw := ((hdr2 j ox t hne hox (by rw [← hcx.dst]; exact hxd)).2 hmem).2 (by omega)
            have := hJ.down j ox i hlj hox hw
            rw [hunf] at this
            cases this
      · rw [hs'] at hsl
        cases hsl
        obtain ⟨ox, ax, hox, hax, hcx⟩ := hR.al_some (show j < m by omega)
        rw [hx] at hax
        cases hax
        have hw := ((hdr2 j ox t (by omega) hox (by rw [← hcx.dst]; exact hxd)).2 hmem).1 hj
        exact .inr fun hcd => (hJ.on j x t hj0 (by omega) (hdeps j hw) hx hxd).2 hcd
      · refine .inr fun hcd => ?_
        rw [hs'] at hsl
        have hk := hs0 t sl hsl
        rw [hJ.off t ?_]
        · exact hk.off hcd
        · intro j x hj0 hj hlj hx hxd
          by_cases hji : j < i
          · exact hno j x hj0 hji hx hxd
          · have hne : j ≠ i := fun e => by subst e; rw [hunf] at hlj; cases hlj
            obtain ⟨ox, ax, hox, hax, hcx⟩ := hR.al_some hj
            rw [hx] at hax
            cases hax
            have hw := ((hdr2 j ox t hne hox (by rw [← hcx.dst]; exact hxd)).2 hmem).2 (by omega)
            have := hJ.down j ox i hlj hox hw
            rw [hunf] at this
            cases this
  have hgm : ∀ H, gpath ⟨mask (readsA ao) (S i).tmps, H⟩ ao.guard = some (Pa i) := by
    intro H
    rw [← hq.1]
    cases hg : ao.guard with
    | none => rfl
    | some g =>
      obtain ⟨d, ww⟩ := g
      simp only [gpath]
      rw [slotAt_mask_in (by simp [readsA, hg])]
  have ham : aop ⟨mask (readsA ao) (S i).tmps, (S i).heap⟩ (Pa i) ao.op = aop (S i) (Pa i) ao.op :=
    aop_congr fun t ht => slotAt_mask_in (by simp only [List.contains_eq_mem, decide_eq_true_eq, readsA, List.mem_append]; exact .inr ht) _
  have hno : ao.op ≠ .other := fun h => by
    rcases hq.2 with ⟨_, _, e, _⟩ | ⟨_, _, _, e, _⟩ | ⟨_, _, _, e, _⟩ <;> (rw [h] at e; simp [aop_other] at e)
  -- how far the heap is turned
  have hstg : quietOp ao.op = false → addrOf ao.op = none → Stg al m0 m listed i := fun hnq hna j aj hj0 hj haj ht => by
    obtain ⟨oj, aj', hoj, haj', _⟩ := hR.al_some hj
    rw [haj] at haj'
    cases haj'
    by_cases hji : j = i
    · subst hji
      rw [hunf]
      constructor
      · intro h; cases h
      · intro h; omega
    · obtain ⟨g1, g2⟩ := hR.mid j aj oj hj0 hj haj hoj ht i ao o hi0 hi ha ho (Ne.symm hji) hnq
      have g1 := fun h => (g1 h).resolve_right fun h => by rw [hna] at h; simp at h
      have g2 := fun h => (g2 h).resolve_right fun ⟨a, h, _⟩ => by rw [hna] at h; cases h
      constructor
      · intro hl
        rcases Nat.lt_or_gt_of_ne hji with h | h
        · exact h
        · have := g2 h (fun x => listed.getD x false = true) (fun i o j => hJ.down i o j) (fun x hx => hJ.down j oj x hl hoj hx)
          rw [hunf] at this
          cases this
      · intro h
        exact g1 h (fun x => listed.getD x false = true) (fun i o j => hJ.down i o j) hdeps
  have hls : ∀ j, (listed.setIfInBounds i true).getD j false = true → j = i ∨ listed.getD j false = true := fun j hj => by
    by_cases e : j = i
    · exact .inl e
    · rw [getD_set_ne false (Ne.symm e)] at hj; exact .inr hj
  -- how the facts go on
  have next : ∀ φ' x w', φ.le φ' → (∀ k, k ≤ m → Stg al m0 m (listed.setIfInBounds i true) k → HRel (φ'.to (S k).heap.next) (S k).heap w' ∧ Fr φs (S 0).heap ws (φ'.to (S k).heap.next) (S k).heap w') →
      (∀ k X B p, k ≤ m → getB (S k).heap.blks X = some B → OffD al S m0 m (listed.setIfInBounds i true) k X → (φ'.to (S k).heap.next) X = some p → BRel (φ'.to (S k).heap.next) B p w') →
      (∀ id p, φ' id = some p → p.blk < w'.heap.size) → (∀ id, (S m).heap.next ≤ id → φ' id = none) → (∀ j, j < m → j ≠ i → listed.getD j false = false → ∀ id, (S j).heap.next ≤ id → id < (S (j + 1)).heap.next → φ' id = none) → (∀ id, id < (S 0).heap.next → φ' id = φs id) →
      (conds (Pa i) → relA (φ'.to (S (i + 1)).heap.next) (V i) x) → (¬ conds (Pa i) → x = undef) → Jn ops al m0 m N S Pa V φs a0 ws (listed.setIfInBounds i true) φ' (a.put o.dst x) w' := by
    intro φ' x w' hle hh hhb hbl hfr hun' hold h1 h2
    have hle_to : ∀ k, (φ.to k).le (φ'.to k) := fun k id p hp => by
      unfold Emb.to at *
      split at hp
      · rw [if_pos (by assumption)]; exact hle _ _ hp
      · cases hp
    refine ⟨by simp [hJ.sz], fun j hj => ?_, fun j hj => getD_set_true (hJ.base j hj), fun j oj l hj hoj hw => ?_, hh, hhb, hbl, hfr, fun j hj hlj => ?_, fun j x' d hj0 hj hlj hx' hd => ?_, fun t ht => ?_, hold, by rw [put_defers']; exact hJ.defers, by rw [put_size]; exact hJ.size⟩
    · rcases hls j hj with rfl | h
      · exact hi
      · exact hJ.lt j h
    · refine getD_set_true ?_
      rcases hls j hj with rfl | h
      · rw [ho] at hoj; cases hoj; exact hdeps l hw
      · exact hJ.down j oj l h hoj hw
    · have hji : j ≠ i := fun e => by subst e; rw [getD_set_self hiz] at hlj; cases hlj
      rw [getD_set_ne false (Ne.symm hji)] at hlj
      exact hun' j hj hji hlj
    · by_cases hji : j = i
      · subst hji
        rw [ha] at hx'
        cases hx'
        have hod : o.dst = some d := by rw [← hc.dst]; exact hd
        have hdN : d < a.tmps.size := by
          rw [hJ.size]
          exact hc.lt.resolve_left hno d hod
        rw [hod, getD_put_self hdN]
        exact ⟨h1, h2⟩
      · obtain ⟨oj, ax, hoj, hax, hcx⟩ := hR.al_some hj
        rw [hx'] at hax
        cases hax
        have hlj' := (hls j hlj).resolve_left hji
        obtain ⟨g1, g2⟩ := hJ.on j x' d hj0 hj hlj' hx' hd
        have hne : o.dst ≠ some d := (hdr2 j oj d hji hoj (by rw [← hcx.dst]; exact hd)).1
        have e : (a.put o.dst x).tmps.getD d undef = a.tmps.getD d undef := by
          cases hod : o.dst with
          | none => rfl
          | some e => rw [getD_put_ne]; intro h; subst h; exact hne hod
        rw [e]
        exact ⟨fun hcd => relA_mono (hle_to _) (g1 hcd), g2⟩
    · have hne : o.dst ≠ some t := by rw [← hc.dst]; exact ht i ao hi0 hi (getD_set_self hiz _) ha
      have e : (a.put o.dst x).tmps.getD t undef = a.tmps.getD t undef := by
        cases hod : o.dst with
        | none => rfl
        | some e => rw [getD_put_ne]; intro h; subst h; exact hne hod
      rw [e]
      exact hJ.off t fun j x' hj0 hj hlj hx' => ht j x' hj0 hj (getD_set_true hlj) hx'
  have hto_fresh : ∀ n i, n ≤ i → (φ.to n) i = none := fun n i h => by unfold Emb.to; rw [if_neg (by omega)]
  have hto_bl : ∀ n i p, (φ.to n) i = some p → p.blk < w.heap.size := fun n i p h => hJ.bl i p (Emb.to_le φ n i p h)
  have hto_fresh' : ∀ (ψ : Emb) n i, n ≤ i → (ψ.to n) i = none := fun ψ n i h => by unfold Emb.to; rw [if_neg (by omega)]
  refine wpOp_stp ho ?_
  cases htl : ao.tl with
  | true =>
    have hchg := hR.chg i ao hi0 hi ha htl
    have hnq := chg_noquiet hchg
    have hna := chg_noaddr hchg
    have hst := hstg hnq hna
    obtain ⟨hHi, hFi⟩ := hJ.hr i (Nat.le_of_lt hi) hst
    -- what stands behind has not been
    have hbeh : ∀ j aj, j < m → al[j]? = some aj → j ≠ i → quietOp aj.op = false → addrOf aj.op = none → (listed.getD j false = true ↔ j < i) := fun j aj hj haj hji hq' hna' => by
      by_cases hj0 : m0 ≤ j
      rotate_left
      · exact ⟨fun _ => by omega, fun _ => hJ.base j (by omega)⟩
      obtain ⟨oj, aj', hoj, haj', _⟩ := hR.al_some hj
      rw [haj] at haj'
      cases haj'
      obtain ⟨g1, g2⟩ := hR.mid i ao o hi0 hi ha ho htl j aj oj hj0 hj haj hoj hji hq'
      have g1 := fun h => (g1 h).resolve_right fun h => by rw [hna'] at h; simp at h
      have g2 := fun h => (g2 h).resolve_right fun ⟨a, h, _⟩ => by rw [hna'] at h; cases h
      constructor
      · intro hl
        rcases Nat.lt_or_gt_of_ne hji with h | h
        · exact h
        · have := g1 h (fun x => listed.getD x false = true) (fun i o j => hJ.down i o j) (fun x hx => hJ.down j oj x hl hoj hx)
          rw [hunf] at this
          cases this
      · intro h
        exact g2 h (fun x => listed.getD x false = true) (fun i o j => hJ.down i o j) hdeps
    have hqn : ∀ j aj, j < m → al[j]? = some aj → quietOp aj.op = true ∨ addrOf aj.op ≠ none → (S (j + 1)).heap.next = (S j).heap.next := fun j aj hj haj hq' => by
      by_cases hj0 : m0 ≤ j
      rotate_left
      · rw [hR.same_lo hj0]
      rw [hR.heap_succ hj0 hj]
      rcases (hR.step j aj hj0 hj haj).1.2 with ⟨_, B, e, _, e'⟩ | ⟨_, ht, _⟩ | ⟨_, _, M, e, _⟩
      · rcases hq' with hq' | hq'
        · rcases quiet_shape (s := S j) (π := Pa j) hq' with ⟨n, v, h⟩ | h
          · rw [h] at e; cases e; rw [e']; rfl
          · rw [h] at e; cases e
        · rw [load_p hq' e] at e'; rw [e']; rfl
      · rcases hq' with hq' | hq'
        · rw [chg_noquiet (hR.chg j aj hj0 hj haj ht)] at hq'; cases hq'
        · exact absurd (chg_noaddr (hR.chg j aj hj0 hj haj ht)) hq'
      · exfalso
        rcases hq' with hq' | hq'
        · rcases quiet_shape (s := S j) (π := Pa j) hq' with ⟨n, v, h⟩ | h <;> (rw [h] at e; cases e)
        · exact load_call hq' e
    have hfloat : ∀ aj : AOper, (quietOp aj.op = true ∨ addrOf aj.op ≠ none) ∨ (quietOp aj.op = false ∧ addrOf aj.op = none) := fun aj => by
      cases quietOp aj.op <;> cases addrOf aj.op <;> simp
    have hnone : ∀ id, (S i).heap.next ≤ id → φ id = none := fun id hid => by
      rcases Nat.lt_or_ge id (S m).heap.next with h | h
      · have : ∀ k, i ≤ k → k ≤ m → id < (S k).heap.next → φ id = none := by
          intro k hk
          induction hk with
          | refl => intro _ h; omega
          | step hk ih =>
            rename_i k
            intro hkm h
            have hk : i ≤ k := hk
            rcases Nat.lt_or_ge id (S k).heap.next with h' | h'
            · exact ih (by omega) h'
            · obtain ⟨ok, ak, hok, hak, _⟩ := hR.al_some (show k < m by omega)
              refine hJ.un k (by omega) ?_ id h' h
              by_cases hki : k = i
              · subst hki; exact hunf
              · rcases hfloat ak with hq' | ⟨hq', hna'⟩
                · have h : id < (S (k + 1)).heap.next := h
                  rw [hqn k ak (by omega) hak hq'] at h
                  omega
                · cases hl : listed.getD k false with
                  | false => rfl
                  | true => have := (hbeh k ak (by omega) hak hki hq' hna').1 hl; omega
        exact this m (Nat.le_of_lt hi) (Nat.le_refl _) h
      · exact hJ.fresh id h
    have hto : φ.to (S i).heap.next = φ := Emb.to_self hnone
    rw [hto] at hHi hFi
    -- behind it
    have fin : ∀ φ' x w', HRel φ' (S (i + 1)).heap w' → Fr φ (S i).heap w φ' (S (i + 1)).heap w' → (∀ b, b < w.heap.size → (tgtOf (S i) ao.op).phys φ b → w'.heap[b]? = w.heap[b]?) → (conds (Pa i) → relA φ' (V i) x) → (¬ conds (Pa i) → x = undef) → KQ (a.put o.dst x) w' := fun φ' x w' hH' hF' hph h1 h2 => by
      have hto' : ∀ k, i + 1 ≤ k → k ≤ m → φ'.to (S k).heap.next = φ' := fun k h1 h2 => Emb.to_self fun id hid => hH'.fresh id (Nat.le_trans (hR.next_mono h1 h2) hid)
      have hne_i : ∀ t, (listed.setIfInBounds i true).getD t false = true → t ≠ i → listed.getD t false = true := fun t ht hti => (hls t ht).resolve_left hti
      refine k φ' _ _ (next φ' x w' hF'.le (fun k hk hsk => ?_) (fun k X B p hk hB hoff hp => ?_) hH'.lt (fun id hid => hH'.fresh id (Nat.le_trans (hR.next_mono (by omega) (Nat.le_refl _)) hid)) (fun j hj hji hlj id h1 h2 => ?_) (fun id hid => ?_) (fun hcd => by rw [hto' (i + 1) (Nat.le_refl _) (by omega)]; exact h1 hcd) h2)
      · have hik : i < k := (hsk i ao hi0 hi ha htl).1 (getD_set_self hiz _)
        have hstill : still al m0 (i + 1) k := fun t at' h0 h1 h2 hat => by
          cases ht : at'.tl with
          | false => rfl
          | true =>
            have := (hsk t at' h0 (by omega) hat ht).2 h2
            have hlt := hne_i t this (by omega)
            have := (hst t at' h0 (by omega) hat ht).1 hlt
            omega
        rw [hto' k hik hk]
        obtain ⟨g1, g2⟩ := hH'.grown (w' := w') rfl rfl rfl (Nat.le_refl _) (fun _ _ => rfl) (K := (S k).heap) (hR.next_mono hik hk) fun j D hj hne => by
          have hlt : j < (S (i + 1)).heap.next := by
            rcases Nat.lt_or_ge j (S (i + 1)).heap.next with h | h
            · exact h
            · exact absurd (hH'.fresh j h) hne
          rw [hR.getB_old hik hk hstill j hlt] at hj
          exact hj
        exact ⟨g1, (hFi.trans hF').trans g2⟩
      · rcases Nat.lt_or_ge i k with hik | hki
        · rw [hto' k hik hk] at hp ⊢
          have hlt : X < (S (i + 1)).heap.next := by
            rcases Nat.lt_or_ge X (S (i + 1)).heap.next with h | h
            · exact h
            · rw [hH'.fresh X h] at hp; cases hp
          rw [hR.getB_at hik hk (fun t at' h0 h1 h2 hat ht => hoff t at' h0 (by omega) hat ht fun he => by
            have h3 := hne_i t (he.2 h2) (by omega)
            have := (hst t at' h0 (by omega) hat ht).1 h3
            omega) hlt] at hB
          exact hH'.blk X B p hB hp
        · have hpk : φ' X = some p ∧ X < (S k).heap.next := by
            unfold Emb.to at hp
            split at hp
            · exact ⟨hp, by assumption⟩
            · cases hp
          have hnk := hR.next_mono hki (Nat.le_of_lt hi)
          have hpX : φ X = some p := by rw [← hF'.same X (by omega)]; exact hpk.1
          have hle_to : (φ.to (S k).heap.next).le (φ'.to (S k).heap.next) := fun id q hq' => by
            unfold Emb.to at *
            split at hq'
            · rw [if_pos (by assumption)]; exact hF'.le _ _ hq'
            · cases hq'
          have hoffi : (tgtOf (S i) ao.op).off X := hoff i ao hi0 hi ha htl fun he => by
            have := he.1 (getD_set_self hiz _)
            omega
          have hBi : getB (S i).heap.blks X = some B := by
            rw [hR.getB_at hki (Nat.le_of_lt hi) (fun t at' h0 h1 h2 hat ht => hoff t at' h0 (by omega) hat ht fun he => by
              have h3 := getD_set_true (i := i) ((hst t at' h0 (by omega) hat ht).2 h2)
              have := he.1 h3
              omega) hpk.2]
            exact hB
          have hold := hJ.hb k X B p hk hB (fun t at' h0 h1 h2 h3 h4 => hoff t at' h0 h1 h2 h3 fun he => by
            by_cases hti : t = i
            · subst hti; exact h4 ⟨fun h => (by rw [hunf] at h; cases h), fun h => (by omega)⟩
            · rw [getD_set_ne false (Ne.symm hti)] at he; exact h4 he) (by unfold Emb.to; rw [if_pos hpk.2]; exact hpX)
          refine (hold.mono hle_to).keep (hph p.blk (hJ.bl X p hpX) ?_)
          generalize htg : tgtOf (S i) ao.op = τ at hoffi
          cases τ with
          | all => exact hoffi.elim
          | no => trivial
          | one Y =>
            intro q hq' e
            obtain ⟨BY, hBY, hwr⟩ := tgt_wr (hR.step i ao hi0 hi ha).1 htl hchg htg
            exact hHi.inj Y X BY B q p hBY hBi hq' hpX hoffi hwr e
      · obtain ⟨oj, aj, hoj, haj, _⟩ := hR.al_some hj
        rcases hfloat aj with hq' | ⟨hq', hna'⟩
        · rw [hqn j aj hj haj hq'] at h2; omega
        · rcases Nat.lt_or_gt_of_ne hji with h | h
          · rw [(hbeh j aj hj haj hji hq' hna').2 h] at hlj; cases hlj
          · exact hH'.fresh id (Nat.le_trans (hR.next_mono h (Nat.le_of_lt hj)) h1)
      · rw [hF'.same id (by omega)]; exact hJ.old id hid
    rw [hto] at hsok
    rcases hq.2 with ⟨need, B, e, hn, e'⟩ | ⟨need, _, hπ, e, hn, hx⟩ | ⟨f, args, _, e, _⟩
    · have hB := chg_p hchg e
      subst hB
      refine step_p hc hsok hHi (hgm _) (by rw [ham]; exact e) hn fun φ' x w' hnb h1 h2 => ?_
      obtain ⟨rfl, rfl⟩ := hnb
      have eh : (S (i + 1)).heap = (S i).heap := by rw [hR.heap_succ hi0 hi, e']; rfl
      exact fin _ x _ (by rw [eh]; exact hHi) (by rw [eh]; exact Fr.refl _ _ _) (fun _ _ _ => rfl) h1 h2
    · have hgm' := hgm (S i).heap
      rw [hπ] at hgm' ham
      refine step_t hc hsok hHi hgm' (by rw [ham]; exact e) hn fun φ' x w' hH' hF' hv hph => ?_
      rw [← hR.heap_succ hi0 hi] at hH' hF'
      have etg : tgtOf ⟨mask (readsA ao) (S i).tmps, (S i).heap⟩ ao.op = tgtOf (S i) ao.op := tgt_congr fun t ht => slotAt_mask_in (by simp only [List.contains_eq_mem, decide_eq_true_eq, readsA, List.mem_append]; exact .inr ht) _
      exact fin φ' x w' hH' hF' (fun b h1 h2 => hph b h1 (by rw [etg]; exact h2)) (fun _ => hv) (fun h => absurd (by rw [hπ]; trivial) h)
    · exact (chg_call hchg e).elim
  | false =>
    -- the heap is as far turned as it was
    have hst' : ∀ k, Stg al m0 m (listed.setIfInBounds i true) k → Stg al m0 m listed k := fun k hk j aj hj0 hj haj ht => by
      have hji : j ≠ i := fun e => by subst e; rw [ha] at haj; cases haj; rw [htl] at ht; cases ht
      have := hk j aj hj0 hj haj ht
      rwa [getD_set_ne false (Ne.symm hji)] at this
    have hoff' : ∀ k X, OffD al S m0 m (listed.setIfInBounds i true) k X → OffD al S m0 m listed k X := fun k X hk j aj hj0 hj haj ht hd => by
      have hji : j ≠ i := fun e => by subst e; rw [ha] at haj; cases haj; rw [htl] at ht; cases ht
      refine hk j aj hj0 hj haj ht ?_
      rwa [getD_set_ne false (Ne.symm hji)]
    -- nothing is made
    have same : ∀ x w', Grow w w' → (conds (Pa i) → relA (φ.to (S (i + 1)).heap.next) (V i) x) → (¬ conds (Pa i) → x = undef) → KQ (a.put o.dst x) w' := fun x w' hgr h1 h2 =>
      k φ _ _ (next φ x w' φ.le_refl (fun k hk hsk => by
          obtain ⟨g1, g2⟩ := hJ.hr k hk (hst' k hsk)
          obtain ⟨q1, q2⟩ := g1.grown hgr.os hgr.tape hgr.output hgr.size hgr.block (K := (S k).heap) (Nat.le_refl _) (fun _ _ h _ => h)
          exact ⟨q1, g2.trans q2⟩)
        (fun k X B p hk hB hoff hp => (hJ.hb k X B p hk hB (hoff' k X hoff) hp).keep (hgr.block _ (hJ.bl X p (Emb.to_le φ _ _ _ hp))))
        (fun id p hp => Nat.lt_of_lt_of_le (hJ.bl id p hp) hgr.size) hJ.fresh (fun j hj _ hlj => hJ.un j hj hlj) hJ.old h1 h2)
    have hnomore : (S i).heap.next ≤ (S (i + 1)).heap.next := hR.next_succ hi
    cases hqt : quietOp ao.op with
    | true =>
      rcases hq.2 with ⟨need, B, e, hn, e'⟩ | ⟨_, ht, _⟩ | ⟨f, args, _, e, _⟩
      · have hB : B = none := by
          rcases quiet_shape (s := S i) (π := Pa i) hqt with ⟨n, v, h⟩ | h
          · rw [h] at e; cases e; rfl
          · rw [h] at e; cases e
        subst hB
        refine step_p hc hsok (HRel.empty (hto_fresh (S i).heap.next) (hto_bl _)) (hgm _) (by rw [quiet_aop hqt (H' := (S i).heap), ham]; exact e) hn fun φ' x w' hnb h1 h2 => ?_
        obtain ⟨rfl, rfl⟩ := hnb
        exact same x _ (Grow.refl _) (fun hcd => relA_mono (Emb.to_mono φ hnomore) (h1 hcd)) h2
      · rw [htl] at ht; cases ht
      · rcases quiet_shape (s := S i) (π := Pa i) hqt with ⟨n, v, h⟩ | h <;> (rw [h] at e; cases e)
    | false =>
     cases hla : addrOf ao.op with
     | some ad =>
      -- a load: its block is as the text's order has it
      rcases hq.2 with ⟨need, B, e, hn, e'⟩ | ⟨_, ht, _⟩ | ⟨f, args, _, e, _⟩
      · obtain ⟨n, p, q, hsl, Bq, hBq⟩ := load_at hla e
        have hBn := load_p (by rw [hla]; simp) e
        subst hBn
        have hoffq : OffD al S m0 m listed i q.id := fun j aj hj0 hj haj ht hd => by
          obtain ⟨oj, aj', hoj, haj', _⟩ := hR.al_some hj
          rw [haj] at haj'
          cases haj'
          have hji : j ≠ i := fun e => by subst e; rw [ha] at haj; cases haj; rw [htl] at ht; cases ht
          obtain ⟨g1, g2⟩ := hR.mid j aj oj hj0 hj haj hoj ht i ao o hi0 hi ha ho (Ne.symm hji) hqt
          obtain ⟨hqj, _⟩ := hR.step j aj hj0 hj haj
          rcases Nat.lt_or_gt_of_ne hji with h | h
          · rcases g1 h with g | ⟨_, g⟩
            · exfalso
              exact hd ⟨fun _ => h, fun _ => g (fun x => listed.getD x false = true) (fun i o j => hJ.down i o j) hdeps⟩
            · exact tgt_nil g
          · rcases g2 h with g | ⟨ad', g, g'⟩
            · exfalso
              refine hd ⟨fun hl => ?_, fun h' => by omega⟩
              have := g (fun x => listed.getD x false = true) (fun i o j => hJ.down i o j) (fun x hx => hJ.down j oj x hl hoj hx)
              rw [hunf] at this
              cases this
            · rw [hla] at g
              cases g
              rcases g' with g' | ⟨gs, g', gw⟩
              · exact tgt_nil g'
              · have hsj : slotAt (S j).tmps ad = some ⟨n, p, .c (.ptr q)⟩ := by
                  rw [hR.slot_same (Nat.le_of_lt h) (Nat.le_of_lt hj) fun k ak _ h1 h2 hak => gw k ak h1 (by omega) hak]
                  exact hsl
                rcases hqj.2 with ⟨_, _, e2, _⟩ | ⟨_, _, _, _, _, hx⟩ | ⟨_, _, _, e2, _⟩
                · exact (st_no_p gs e2).elim
                · exact tgt_exOk hx g' hsj
                · exact (chg_call (hR.chg j aj hj0 hj haj ht) e2).elim
        have hH1 : HRel (φ.to (S i).heap.next) ⟨(S i).heap.next, [(q.id, Bq)]⟩ w := by
          refine ⟨fun j D p hD hp => ?_, fun j k D E p r hD hE hp hr hne hw => ?_, hto_fresh _, hto_bl _⟩
          · by_cases hj : j = q.id
            · subst hj
              rw [getB_cons_self] at hD
              cases hD
              exact hJ.hb i q.id Bq p (Nat.le_of_lt hi) hBq hoffq hp
            · rw [getB_cons_ne hj] at hD; simp [getB] at hD
          · by_cases hj : j = q.id
            · by_cases hk : k = q.id
              · exact absurd (hj.trans hk.symm) hne
              · rw [getB_cons_ne hk] at hE; simp [getB] at hE
            · rw [getB_cons_ne hj] at hD; simp [getB] at hD
        have hsl' : slotAt (mask (readsA ao) (S i).tmps) ad = some ⟨n, p, .c (.ptr q)⟩ := by
          rw [slotAt_mask_in]
          · exact hsl
          · simp only [List.contains_eq_mem, decide_eq_true_eq, readsA, List.mem_append]; exact .inr (addr_reads hla)
        refine step_p hc hsok hH1 (hgm _) (by rw [load_one hla hsl' hBq, ham]; exact e) hn fun φ' x w' hnb h1 h2 => ?_
        obtain ⟨rfl, rfl⟩ := hnb
        exact same x _ (Grow.refl _) (fun hcd => relA_mono (Emb.to_mono φ hnomore) (h1 hcd)) h2
      · rw [htl] at ht; cases ht
      · exact (load_call (by rw [hla]; simp) e).elim
     | none =>
      have hst := hstg hqt hla
      obtain ⟨hHi, hFi⟩ := hJ.hr i (Nat.le_of_lt hi) hst
      rcases hq.2 with ⟨need, B, e, hn, e'⟩ | ⟨_, ht, _⟩ | ⟨f, args, M, e, e', hM, hcon⟩
      · refine step_p hc hsok hHi (hgm _) (by rw [ham]; exact e) hn fun φ' x w' hnb h1 h2 => ?_
        cases hB : B with
        | none =>
          rw [hB] at hnb
          obtain ⟨rfl, rfl⟩ := hnb
          exact same x _ (Grow.refl _) (fun hcd => relA_mono (Emb.to_mono φ hnomore) (h1 hcd)) h2
        | some B =>
          rw [hB] at hnb
          have hHp : (S (i + 1)).heap = addBlk (S i).heap (some B) := by rw [hR.heap_succ hi0 hi, e', hB]
          have hnx : (S (i + 1)).heap.next = (S i).heap.next + 1 := by rw [hHp]; rfl
          rcases hnb with ⟨hcd, cs, cap, rfl, rfl, hb⟩ | ⟨hcd, rfl, rfl⟩
          · have hphi : φ (S i).heap.next = none := hJ.un i hi hunf _ (Nat.le_refl _) (by omega)
            let p : Place := ⟨w.heap.size, 0, B.str, cap⟩
            have hnm2 : (S (i + 1)).heap.next ≤ (S m).heap.next := hR.next_mono (by omega) (Nat.le_refl _)
            have hto1 : (φ.ins (S i).heap.next p).to (S (i + 1)).heap.next = (φ.to (S i).heap.next).ins (S i).heap.next p := by
              rw [ins_to, if_pos (by omega), hnx]
              funext id
              unfold Emb.ins Emb.to
              by_cases h : id = (S i).heap.next
              · simp [h]
              · by_cases h2 : id < (S i).heap.next
                · simp [h, h2, Nat.lt_succ_of_lt h2]
                · simp [h, h2, show ¬ id < (S i).heap.next + 1 by omega]
            refine k (φ.ins (S i).heap.next p) _ _ (next (φ.ins (S i).heap.next p) x _ (Emb.le_ins hphi) (fun kk hkk hsk => ?_) (fun kk X B' p' hkk hB' hoff hp' => ?_) (fun id q hq' => ?_) (fun id hid => ?_) (fun j hj hji hlj id g1 g2 => ?_) (fun id hid => ?_) (fun hcd => by rw [hto1]; exact h1 hcd) h2)
            · have hsk := hst' kk hsk
              obtain ⟨g1, g2⟩ := hJ.hr kk hkk hsk
              have hgrow := Grow.alloc w (.cells cs B.elem)
              obtain ⟨q1, q2⟩ := g1.grown hgrow.os hgrow.tape hgrow.output hgrow.size hgrow.block (K := (S kk).heap) (Nat.le_refl _) (fun _ _ h _ => h)
              rw [ins_to]
              by_cases hk : (S i).heap.next < (S kk).heap.next
              · rw [if_pos hk]
                have hik : i + 1 ≤ kk := by
                  rcases Nat.lt_or_ge i kk with h | h
                  · exact h
                  · have := hR.next_mono h (Nat.le_of_lt hi); omega
                have hstill : still al m0 (i + 1) kk := fun t at' h0 h1 h2 hat => by
                  cases ht : at'.tl with
                  | false => rfl
                  | true =>
                    have h3 := (hsk t at' h0 (by omega) hat ht).2 h2
                    have := (hst t at' h0 (by omega) hat ht).1 h3
                    omega
                have hgB : getB (S kk).heap.blks (S i).heap.next = some B := by
                  rw [hR.getB_old hik hkk hstill _ (by omega), hHp]
                  exact getB_cons_self _ _ _
                have hphik : (φ.to (S kk).heap.next) (S i).heap.next = none := by unfold Emb.to; rw [if_pos hk]; exact hphi
                have hbk : BRel ((φ.to (S kk).heap.next).ins (S i).heap.next p) B p (w.alloc (.cells cs B.elem)) := by
                  have hle : ((φ.to (S i).heap.next).ins (S i).heap.next p).le ((φ.to (S kk).heap.next).ins (S i).heap.next p) := fun id q hq' => by
                    unfold Emb.ins at *
                    split at hq'
                    · rw [if_pos (by assumption)]; exact hq'
                    · rw [if_neg (by assumption)]; exact Emb.to_mono φ (by omega) _ _ hq'
                  exact ⟨hb.str, fun r hr => let ⟨xs, g1, g2, g3⟩ := hb.rows r hr; ⟨xs, g1.mono fun _ _ => rel_mono hle, g2, g3⟩, fun hw => own_mono hle (hb.own hw)⟩
                have hdef := g1.define hgrow hphik hk hgB hbk (Nat.le_refl _) (by simp only [World.size_alloc]; exact Nat.lt_succ_self _)
                refine ⟨hdef, ?_⟩
                have hf := g2.trans q2
                refine ⟨Emb.le_trans hf.le (Emb.le_ins hphik), fun id hid => ?_, hf.nx, hf.size, hf.os, hf.tape, hf.output, hf.old, fun id D q hD hw hq' => ?_⟩
                · have : id ≠ (S i).heap.next := by omega
                  simp only [Emb.ins, if_neg this]
                  exact hf.same id hid
                · by_cases hid : id = (S i).heap.next
                  · subst hid
                    rw [Emb.ins_self] at hq'
                    cases hq'
                    exact .inl g2.size
                  · simp only [Emb.ins, if_neg hid] at hq'
                    exact hf.own id D q hD hw hq'
              · rw [if_neg hk]
                exact ⟨q1, g2.trans q2⟩
            · have hoff := hoff' kk X hoff
              by_cases hX : X = (S i).heap.next
              · subst hX
                have hk : (S i).heap.next < (S kk).heap.next := by
                  rcases Nat.lt_or_ge (S i).heap.next (S kk).heap.next with h | h
                  · exact h
                  · rw [hto_fresh' _ _ _ h] at hp'; cases hp'
                have hik : i + 1 ≤ kk := by
                  rcases Nat.lt_or_ge i kk with h | h
                  · exact h
                  · have := hR.next_mono h (Nat.le_of_lt hi); omega
                have hgB : getB (S kk).heap.blks (S i).heap.next = some B := by
                  rw [hR.getB_at hik hkk (fun t at' h0 g1 g2 hat ht => hoff t at' h0 (by omega) hat ht fun he => by
                    have h3 := he.2 g2
                    have := (hst t at' h0 (by omega) hat ht).1 h3
                    omega) (by omega), hHp]
                  exact getB_cons_self _ _ _
                rw [hgB] at hB'
                cases hB'
                have hpp : p' = p := by
                  unfold Emb.to at hp'
                  rw [if_pos hk, Emb.ins_self] at hp'
                  cases hp'; rfl
                subst hpp
                refine hb.mono fun id q hq' => ?_
                rw [← hto1] at hq'
                exact Emb.to_mono _ (hR.next_mono hik hkk) _ _ hq'
              · have hp2 : (φ.to (S kk).heap.next) X = some p' := by
                  unfold Emb.to at hp' ⊢
                  split at hp'
                  · rw [if_pos (by assumption)]
                    simpa [Emb.ins, hX] using hp'
                  · cases hp'
                have hlt := hJ.bl X p' (Emb.to_le φ _ _ _ hp2)
                refine ((hJ.hb kk X B' p' hkk hB' hoff hp2).mono fun id q hq' => ?_).keep (heap_alloc_lt w _ hlt)
                unfold Emb.to at hq' ⊢
                split at hq'
                · rw [if_pos (by assumption)]; exact Emb.le_ins hphi _ _ hq'
                · cases hq'
            · by_cases h : id = (S i).heap.next
              · subst h; rw [Emb.ins_self] at hq'; cases hq'; simp only [World.size_alloc]; exact Nat.lt_succ_self _
              · simp only [Emb.ins, if_neg h] at hq'
                exact Nat.lt_of_lt_of_le (hJ.bl id q hq') (by simp)
            · simp only [Emb.ins]; rw [if_neg (by omega)]; exact hJ.fresh id hid
            · have hne : id ≠ (S i).heap.next := by
                intro e
                rcases Nat.lt_or_gt_of_ne hji with h | h
                · have := hR.next_mono (i := j + 1) (j := i) (by omega) (by omega)
                  omega
                · have := hR.next_mono (i := i + 1) (j := j) (by omega) (by omega)
                  omega
              simp only [Emb.ins, if_neg hne]
              exact hJ.un j hj hlj id g1 g2
            · simp only [Emb.ins]; rw [if_neg (by omega)]; exact hJ.old id hid
          · exact same x _ (Grow.refl _) (fun h => absurd h hcd) h2
      · rw [htl] at ht; cases ht
      · have hHp : (S (i + 1)).heap = addBs (S i).heap M := by rw [hR.heap_succ hi0 hi, e']
        have hnx : (S (i + 1)).heap.next = (S i).heap.next + M.length := by rw [hHp, addBs_next]
        refine step_quiet hc hsok hHi (hgm _) (by rw [ham]; exact e) hM hcon (fun ψ x w' hcd hmd hv => ?_) (fun hnc => same undef w (Grow.refl _) (fun h => absurd h hnc) (fun _ => rfl))
        have hgr := hmd.gr
        let φ2 : Emb := fun id => if (S i).heap.next ≤ id ∧ id < (S (i + 1)).heap.next then ψ id else φ id
        have h2new : ∀ id, (S i).heap.next ≤ id → id < (S (i + 1)).heap.next → φ2 id = ψ id := fun id h1 h2 => if_pos ⟨h1, h2⟩
        have h2old : ∀ id, ¬ ((S i).heap.next ≤ id ∧ id < (S (i + 1)).heap.next) → φ2 id = φ id := fun id h => if_neg h
        have hun' : ∀ id, (S i).heap.next ≤ id → id < (S (i + 1)).heap.next → φ id = none := hJ.un i hi hunf
        have hle2 : φ.le φ2 := fun id p hp => by
          by_cases h : (S i).heap.next ≤ id ∧ id < (S (i + 1)).heap.next
          · rw [hun' id h.1 h.2] at hp; cases hp
          · rw [h2old id h]; exact hp
        have hψ2 : ψ.le φ2 := fun id p hp => by
          rcases Nat.lt_or_ge id (S i).heap.next with h | h
          · rw [h2old id (by omega)]
            rw [hmd.same id h] at hp
            exact Emb.to_le _ _ _ _ hp
          · have hlt : id < (S (i + 1)).heap.next := by
              rcases Nat.lt_or_ge id (S (i + 1)).heap.next with h' | h'
              · exact h'
              · rw [hmd.fresh id (by omega)] at hp; cases hp
            rw [h2new id h hlt]; exact hp
        have hψto : ∀ kk, (S (i + 1)).heap.next ≤ (S kk).heap.next → ψ.le (φ2.to (S kk).heap.next) := fun kk hk id p hp => by
          have hlt : id < (S (i + 1)).heap.next := by
            rcases Nat.lt_or_ge id (S (i + 1)).heap.next with h' | h'
            · exact h'
            · rw [hmd.fresh id (by omega)] at hp; cases hp
          unfold Emb.to
          rw [if_pos (by omega)]
          exact hψ2 id p hp
        have hle_to : ∀ kk, (φ.to (S kk).heap.next).le (φ2.to (S kk).heap.next) := fun kk id q hq' => by
          unfold Emb.to at *
          split at hq'
          · rw [if_pos (by assumption)]; exact hle2 _ _ hq'
          · cases hq'
        have hcase : ∀ kk id p, (φ2.to (S kk).heap.next) id = some p → (φ.to (S kk).heap.next) id = some p ∨ ((S i).heap.next ≤ id ∧ id < (S (i + 1)).heap.next ∧ ψ id = some p ∧ id < (S kk).heap.next) := fun kk id p hp => by
          unfold Emb.to at hp ⊢
          split at hp
          · rename_i hk
            rw [if_pos hk]
            by_cases h : (S i).heap.next ≤ id ∧ id < (S (i + 1)).heap.next
            · rw [h2new id h.1 h.2] at hp; exact .inr ⟨h.1, h.2, hp, hk⟩
            · rw [h2old id h] at hp; exact .inl hp
          · cases hp
        have hik : ∀ kk id, kk ≤ m → (S i).heap.next ≤ id → id < (S kk).heap.next → i + 1 ≤ kk := fun kk id hkk h1 h2 => by
          rcases Nat.lt_or_ge i kk with h | h
          · exact h
          · have := hR.next_mono h (Nat.le_of_lt hi); omega
        have hblk : ∀ kk id p B, kk ≤ m → (S i).heap.next ≤ id → id < (S (i + 1)).heap.next → ψ id = some p → id < (S kk).heap.next → OffD al S m0 m listed kk id → getB (S kk).heap.blks id = some B → BRel (φ2.to (S kk).heap.next) B p w' := fun kk id p B hkk h1 h2 hp h3 hoff hB => by
          have hk := hik kk id hkk h1 h3
          rw [hR.getB_at hk hkk (fun t at' h0 g1 g2 hat ht => hoff t at' h0 (by omega) hat ht fun he => by
            have h3 := he.2 g2
            have := (hst t at' h0 (by omega) hat ht).1 h3
            omega) h2, hHp] at hB
          obtain ⟨_, _, C, hC, hb⟩ := hmd.new id p h1 hp
          rw [hC] at hB
          cases hB
          exact hb.mono (hψto kk (hR.next_mono hk hkk))
        refine k φ2 _ _ (next φ2 x w' hle2 (fun kk hkk hsk => ?_) (fun kk X B' p' hkk hB' hoff hp' => ?_) (fun id p hp => ?_) (fun id hid => ?_) (fun j hj hji hlj id g1 g2 => ?_) (fun id hid => ?_) (fun hcd => relA_mono (hψto (i + 1) (Nat.le_refl _)) hv) (fun h => absurd hcd h))
        · have hsk := hst' kk hsk
          obtain ⟨g1, g2⟩ := hJ.hr kk hkk hsk
          have hoff : ∀ X, OffD al S m0 m listed kk X := fun X j aj hj0 hj haj ht hd => absurd (hsk j aj hj0 hj haj ht) hd
          refine ⟨g1.defs hgr (hle_to kk) (fun id p hp => ?_) (fun id id' p q hp hq h1 h2 hne => ?_), g2.defs hgr (hle_to kk) (fun id hid => ?_) (fun id p hp => ?_)⟩
          · rcases hcase kk id p hp with h | ⟨h1, h2, h3, h4⟩
            · exact .inl h
            · obtain ⟨n1, n2, _⟩ := hmd.new id p h1 h3
              exact .inr ⟨n1, n2, h4, fun B hB => hblk kk id p B hkk h1 h2 h3 h4 (hoff id) hB⟩
          · rcases hcase kk id p hp with h | ⟨k1, k2, k3, k4⟩
            · have := hto_bl _ _ _ h; omega
            · rcases hcase kk id' q hq with h | ⟨l1, l2, l3, l4⟩
              · have := hto_bl _ _ _ h; omega
              · exact hmd.inj id id' p q k1 l1 k3 l3 hne
          · have : ¬ ((S i).heap.next ≤ id ∧ id < (S (i + 1)).heap.next) := by omega
            unfold Emb.to
            split
            · exact h2old id this
            · rfl
          · rcases hcase kk id p hp with h | ⟨h1, h2, h3, h4⟩
            · exact .inl h
            · exact .inr (hmd.new id p h1 h3).1
        · have hoff := hoff' kk X hoff
          rcases hcase kk X p' hp' with h | ⟨h1, h2, h3, h4⟩
          · exact ((hJ.hb kk X B' p' hkk hB' hoff h).mono (hle_to kk)).keep (hgr.block _ (hto_bl _ _ _ h))
          · exact hblk kk X p' B' hkk h1 h2 h3 h4 hoff hB'
        · by_cases h : (S i).heap.next ≤ id ∧ id < (S (i + 1)).heap.next
          · rw [h2new id h.1 h.2] at hp; exact (hmd.new id p h.1 hp).2.1
          · rw [h2old id h] at hp; exact Nat.lt_of_lt_of_le (hJ.bl id p hp) hgr.size
        · have := hR.next_mono (i := i + 1) (j := m) (by omega) (Nat.le_refl _)
          rw [h2old id (by omega)]; exact hJ.fresh id hid
        · have hne : ¬ ((S i).heap.next ≤ id ∧ id < (S (i + 1)).heap.next) := by
            rintro ⟨q1, q2⟩
            rcases Nat.lt_or_gt_of_ne hji with h | h
            · have := hR.next_mono (i := j + 1) (j := i) (by omega) (by omega)
              omega
            · have := hR.next_mono (i := i + 1) (j := j) (by omega) (by omega)
              omega
          rw [h2old id hne]
          exact hJ.un j hj hlj id g1 g2
        · rw [h2old id (by omega)]; exact hJ.old id hid
end

end Go.AM

namespace Go.AM
set_option linter.unusedVariables false
set_option linter.unusedSectionVars false
set_option linter.unusedSimpArgs false
variable {P : Program} {φ : Emb} {w : World}

theorem maskE_ok {ops : Array Oper} {o : Oper} {ms : List Nat} (hms : ∀ k o, ops[k]? = some o → ∀ j, (ms.getD k 0).testBit j = true → Behind ops o j) (hin : ∀ k, ms.length ≤ k → ms.getD k 0 = 0) (hops : ∀ k, k < ms.length → ∃ o, ops[k]? = some o) :
    ∀ (es : List Edge) (acc : Nat), (∀ e ∈ es, e ∈ o.after.toList) → (∀ j, acc.testBit j = true → Behind ops o j) → ∀ j, (maskE ms es acc).testBit j = true → Behind ops o j
  | [], acc, _, ha, j, hj => ha j hj
  | e :: r, acc, he, ha, j, hj => by
    simp only [maskE] at hj
    refine maskE_ok hms hin hops r _ (fun x hx => he x (by simp [hx])) (fun i hi => ?_) j hj
    split at hi
    · rename_i hb
      have hwe : waits o e.on = true := by
        unfold waits
        exact List.any_eq_true.2 ⟨e, he e (by simp), by simp [hb]⟩
      simp only [Nat.testBit_or, Bool.or_eq_true] at hi
      rcases hi with (hi | hi) | hi
      · exact ha i hi
      · have : i = e.on := by
          rw [Nat.one_shiftLeft, Nat.testBit_two_pow] at hi
          have := of_decide_eq_true hi
          omega
        subst this
        exact fun L _ hL => hL _ hwe
      · by_cases hlt : e.on < ms.length
        · obtain ⟨x, hx⟩ := hops _ hlt
          intro L hc hL
          exact hms _ x hx i hi L hc fun j' hj' => hc _ x j' (hL _ hwe) hx hj'
        · rw [hin _ (by omega)] at hi
          simp at hi
    · exact ha i hi

theorem masks_ok {ops : Array Oper} : ∀ (l : List Oper) (ms : List Nat), ops.toList.drop ms.length = l → ms.length ≤ ops.size → (∀ k o, ops[k]? = some o → ∀ j, (ms.getD k 0).testBit j = true → Behind ops o j) → ∀ k o, ops[k]? = some o → ∀ j, ((masks l ms).getD k 0).testBit j = true → Behind ops o j
  | [], ms, _, _, h => h
  | o :: r, ms, hd, hle, h => by
    simp only [masks]
    have hlt : ms.length < ops.size := by
      have : (ops.toList.drop ms.length).length ≠ 0 := by rw [hd]; simp
      simp at this
      omega
    have ho : ops[ms.length]? = some o := by
      have : (ops.toList.drop ms.length)[0]? = some o := by rw [hd]; rfl
      simpa using this
    have hin : ∀ k, ms.length ≤ k → ms.getD k 0 = 0 := fun k hk => by simp [List.getD_eq_getElem?_getD, List.getElem?_eq_none hk]
    refine masks_ok r _ ?_ (by simp; omega) fun k x hx j hj => ?_
    · rw [List.length_append, ← List.drop_drop, hd]; rfl
    · rcases Nat.lt_trichotomy k ms.length with hk | hk | hk
      · refine h k x hx j ?_
        simpa [List.getD_eq_getElem?_getD, List.getElem?_append_left hk] using hj
      · subst hk
        rw [ho] at hx
        cases hx
        refine maskE_ok h hin (fun k hk => ⟨_, Array.getElem?_eq_getElem (show k < ops.size by omega)⟩) o.after.toList 0 (fun _ h => h) (fun j hj => by simp at hj) j ?_
        simpa [List.getD_eq_getElem?_getD] using hj
      · have : (ms ++ [maskE ms o.after.toList 0]).getD k 0 = 0 := by
          rw [List.getD_eq_getElem?_getD, List.getElem?_eq_none (by simp; omega)]; rfl
        rw [this] at hj
        simp at hj

section
variable {N : Nat} {ops : Array Oper} {al : List AOper} {m0 m : Nat} {S : Nat → St} {Pa : Nat → Path} {V : Nat → AV} {Hp : Nat → Heap} {KK : Nat → List Nat}

variable {F : Fence} [Wide F]
theorem draw_any (hR : Run P N ops al m0 m S Pa V Hp KK) (hT : ∀ i o, m ≤ i → ops[i]? = some o → ∀ j, j < m → Behind ops o j) {φs : Emb} {a0 : Act} {ws : World} (hs0 : SOk φs (S 0).tmps a0 (KK 0)) (hf0 : ∀ i, (S 0).heap.next ≤ i → φs i = none) {Q : Exit → Act → World → Prop}
    (hend : ∀ φ a w listed, Jn ops al m0 m N S Pa V φs a0 ws listed φ a w → (∀ i, i < m → listed.getD i false = true) → wpAnyIn F 0 P .any ops Q (ops.size - m) listed a w) :
    ∀ (r : Nat) (φ : Emb) (listed : Array Bool) (a : Act) (w : World), Jn ops al m0 m N S Pa V φs a0 ws listed φ a w → unl listed m = r → wpAnyIn F 0 P .any ops Q ((ops.size - m) + r) listed a w
  | 0, φ, listed, a, w, hJ, hr => hend φ a w listed hJ fun i hi => unl_zero hr i hi
  | r + 1, φ, listed, a, w, hJ, hr => by
    have hex : ∃ i, i < m ∧ listed.getD i false = false ∧ ∀ j, j < i → listed.getD j false = true := by
      have : ∀ k, unl listed k ≠ 0 → ∃ i, i < k ∧ listed.getD i false = false ∧ ∀ j, j < i → listed.getD j false = true := by
        intro k
        induction k with
        | zero => intro h; simp [unl] at h
        | succ k ih =>
          intro h
          by_cases hk : unl listed k = 0
          · refine ⟨k, by omega, ?_, fun j hj => unl_zero hk j hj⟩
            simp only [unl, hk] at h
            cases hl : listed.getD k false with
            | false => rfl
            | true => rw [hl] at h; simp at h
          · obtain ⟨i, h1, h2⟩ := ih hk
            exact ⟨i, by omega, h2⟩
      exact this m (by omega)
    have hunt : ∀ i, i < ops.size → listed.getD i false = false → listed.getD i true = false := fun i hi h => by
      have hiz : i < listed.size := by rw [hJ.sz]; exact hi
      simp only [Array.getD_eq_getD_getElem?, Array.getElem?_eq_getElem hiz, Option.getD_some] at h ⊢
      exact h
    obtain ⟨i0, hi0, hu0, hall0⟩ := hex
    have hrd0 : i0 ∈ Region.ready .any ops listed := by
      obtain ⟨o, ao, ho, ha, _⟩ := hR.al_some hi0
      refine mem_ready.2 ⟨hunt i0 (Nat.lt_of_lt_of_le hi0 hR.le) hu0, o, ho, fun e he hb => hall0 _ ((draw_spec hR.draw ho ha).1 e he hb)⟩
    refine ⟨fun h => (by rw [h] at hrd0; cases hrd0), fun i hi => ?_⟩
    rcases Nat.lt_or_ge i m with him | him
    · refine jn_step hR hs0 hf0 hJ him hi fun φ' a' w' hJ' => ?_
      obtain ⟨o, ao, ho, ha, _⟩ := hR.al_some him
      obtain ⟨hun, _⟩ := ready_waits hi ho
      have hiz : i < listed.size := by rw [hJ.sz]; exact Nat.lt_of_lt_of_le him hR.le
      have hunf : listed.getD i false = false := by
        simp only [Array.getD_eq_getD_getElem?, Array.getElem?_eq_getElem hiz, Option.getD_some] at hun ⊢
        exact hun
      have := (unl_set hunf hiz (k := m)).1 him
      exact draw_any hR hT hs0 hf0 hend r φ' _ a' w' hJ' (by omega)
    · exfalso
      obtain ⟨_, o, ho, _⟩ := mem_ready.1 hi
      obtain ⟨_, hdeps⟩ := ready_waits hi ho
      have := hT i o him ho i0 (by omega) (fun j => listed.getD j false = true) (fun i o j => hJ.down i o j) hdeps
      rw [hu0] at this
      cases this
end

variable {F : Fence} [Wide F]
theorem none_left {ops : Array Oper} {Q : Exit → Act → World → Prop} {listed : Array Bool} {a : Act} {w : World} (hsz : listed.size = ops.size) (hl : ∀ i, i < ops.size → (listed.getD i false = true ↔ i < ops.size)) (h : Q .normal a w) : wpAnyIn F 0 P .any ops Q 0 listed a w := by
  refine ⟨?_, h⟩
  cases hrd : Region.ready .any ops listed with
  | nil => rfl
  | cons i l =>
    exfalso
    have hi : i ∈ Region.ready .any ops listed := by rw [hrd]; simp
    obtain ⟨h0, o, ho, _⟩ := mem_ready.1 hi
    have hio : i < ops.size := (Array.getElem?_eq_some_iff.1 ho).1
    have := (hl i hio).2 hio
    simp only [Array.getD_eq_getD_getElem?, Array.getElem?_eq_getElem (show i < listed.size by omega), Option.getD_some] at h0 this
    rw [this] at h0
    cases h0
theorem one_step {ops : Array Oper} {Q : Exit → Act → World → Prop} {k : Nat} (hT : ∀ i o, k < i → ops[i]? = some o → Behind ops o k) (hlt : ∀ i o, ops[i]? = some o → ∀ e ∈ o.after, Region.binds .any e = true → e.on < i)
    {r : Nat} {listed : Array Bool} {a : Act} {w : World} {o : Oper} (hok : ops[k]? = some o) (hsz : listed.size = ops.size) (hl : ∀ i, i < ops.size → (listed.getD i false = true ↔ i < k)) (h : stp F P ops Q o (wpAnyIn F 0 P .any ops Q r (listed.setIfInBounds k true)) a w) : wpAnyIn F 0 P .any ops Q (r + 1) listed a w := by
  have hko : k < ops.size := (Array.getElem?_eq_some_iff.1 hok).1
  have hunt : ∀ i, i < ops.size → ¬ i < k → listed.getD i true = false := fun i hi h => by
    have h2 : listed.getD i false = false := by
      cases hc : listed.getD i false with
      | false => rfl
      | true => exact absurd ((hl i hi).1 hc) h
    simp only [Array.getD_eq_getD_getElem?, Array.getElem?_eq_getElem (show i < listed.size by omega), Option.getD_some] at h2 ⊢
    exact h2
  have hkr : k ∈ Region.ready .any ops listed := mem_ready.2 ⟨hunt k hko (by omega), _, hok, fun e he hb => by
    have := hlt k _ hok e he hb
    exact (hl e.on (by omega)).2 this⟩
  refine ⟨fun h0 => (by rw [h0] at hkr; cases hkr), fun i hi => ?_⟩
  obtain ⟨_, o', ho, _⟩ := mem_ready.1 hi
  obtain ⟨hun, hdeps⟩ := ready_waits hi ho
  have hio : i < ops.size := (Array.getElem?_eq_some_iff.1 ho).1
  have hik : i = k := by
    rcases Nat.lt_trichotomy i k with h | h | h
    · have := (hl i hio).2 h
      simp only [Array.getD_eq_getD_getElem?, Array.getElem?_eq_getElem (show i < listed.size by omega), Option.getD_some] at hun this
      rw [this] at hun
      cases hun
    · exact h
    · have := hT i o' h ho (fun j => listed.getD j false = true) (fun i' o' j' hi' ho' hw' => by
        have hio' : i' < ops.size := (Array.getElem?_eq_some_iff.1 ho').1
        have hi'k := (hl i' hio').1 hi'
        unfold waits at hw'
        obtain ⟨e, he, hb⟩ := List.any_eq_true.1 hw'
        simp only [Bool.and_eq_true, beq_iff_eq] at hb
        have := hlt i' o' ho' e (by simpa using he) hb.1
        rw [hb.2] at this
        exact (hl j' (by omega)).2 (by omega)) hdeps
      have := (hl k hko).1 this
      omega
  subst hik
  exact wpOp_stp hok h

theorem F2.get_pair {α β : Type} {R : α → β → Prop} {l : List α} {m : List β} (h : F2 R l m) {i : Nat} (hi : i < l.length) : ∃ a b, l[i]? = some a ∧ m[i]? = some b ∧ R a b := by
  obtain ⟨b, hb, hr⟩ := h.get (List.getElem?_eq_getElem hi)
  exact ⟨_, b, List.getElem?_eq_getElem hi, hb, hr⟩

theorem okG_drop : ∀ {l : List AOper} (k : Nat), okG l = true → okG (l.drop k) = true
  | l, 0, h => by simpa using h
  | [], k + 1, h => by simpa using h
  | o :: r, k + 1, h => by simpa using okG_drop k (okG_head h).1

def keysTo (K : List Nat) (al : List AOper) : Nat → List Nat
  | 0 => K
  | i + 1 => match al[i]? with | some ao => addK (keysTo K al i) ao.guard | none => keysTo K al i

theorem okG_at : ∀ {al : List AOper} {i : Nat} {ao : AOper} {d : Nat} {w : Bool}, okG al = true → al[i]? = some ao → ao.guard = some (d, w) → ∀ j x, i ≤ j → al[j]? = some x → x.dst ≠ some d
  | [], i, ao, d, w, h, ha, hg, j, x, hij, hx => by simp at ha
  | o :: r, 0, ao, d, w, h, ha, hg, j, x, hij, hx => by
    simp only [List.getElem?_cons_zero, Option.some.injEq] at ha
    subst ha
    exact (okG_head h).2 d w hg x (List.mem_of_getElem? hx)
  | o :: r, i + 1, ao, d, w, h, ha, hg, j, x, hij, hx => by
    cases j with
    | zero => omega
    | succ j => exact okG_at (okG_head h).1 (by simpa using ha) hg j x (by omega) (by simpa using hx)

theorem keysTo_no {K : List Nat} {al : List AOper} (hG : okG al = true) (hK : ∀ d ∈ K, ∀ o ∈ al, o.dst ≠ some d) : ∀ (i : Nat), ∀ d ∈ keysTo K al i, ∀ j x, i ≤ j + 1 → al[j]? = some x → x.dst ≠ some d
  | 0, d, hd, j, x, _, hx => hK d hd x (List.mem_of_getElem? hx)
  | i + 1, d, hd, j, x, hij, hx => by
    simp only [keysTo] at hd
    cases ha : al[i]? with
    | none => rw [ha] at hd; exact keysTo_no hG hK i d hd j x (by omega) hx
    | some ao =>
      rw [ha] at hd
      cases hg : ao.guard with
      | none => simp only [hg, addK] at hd; exact keysTo_no hG hK i d hd j x (by omega) hx
      | some g =>
        obtain ⟨e, ww⟩ := g
        simp only [hg, addK, List.mem_cons] at hd
        rcases hd with rfl | hd
        · exact okG_at hG ha hg j x (by omega) hx
        · exact keysTo_no hG hK i d hd j x (by omega) hx

theorem next_cut (p : Nat → Bool) (n : Nat) : ∀ (d k : Nat), k + 1 + d = n → p n = true → ∃ m, k < m ∧ m ≤ n ∧ p m = true ∧ ∀ i, k < i → i < m → p i = false
  | 0, k, h, hn => ⟨n, by omega, Nat.le_refl _, hn, fun i h1 h2 => by omega⟩
  | d + 1, k, h, hn => by
    cases hp : p (k + 1) with
    | true => exact ⟨k + 1, by omega, by omega, hp, fun i h1 h2 => by omega⟩
    | false =>
      obtain ⟨m, h1, h2, h3, h4⟩ := next_cut p n d (k + 1) (by omega) hn
      refine ⟨m, by omega, h2, h3, fun i h5 h6 => ?_⟩
      by_cases hi : i = k + 1
      · rw [hi]; exact hp
      · exact h4 i (by omega) h6
theorem draw_from {φ₀ : Emb} {H₀ : Heap} {w₀ : World} {N : Env} {ops : Array Oper} {al : List AOper} {Q : Exit → Act → World → Prop} {Qs : St → Prop}
    (hQ : ∀ φ s a w K, Inv φ₀ H₀ w₀ N φ s a w K → Qs s → Q .normal a w) (hc : F2 (Corr P N.n ops) ops.toList al) (hG : okG al = true) (hD : drawOk ops al = true)
    (htl : ∀ i ao, al[i]? = some ao → ao.tl = (soloAt ops i || midAt P ops i) ∧ ∀ o, ops[i]? = some o → ao.ex = if (soloAt ops i || !midAt P ops i || appNil (stripD P o)) = true then [] else exAt P ops i) :
    ∀ (n k : Nat) (listed : Array Bool) (φ : Emb) (s : St) (a : Act) (w : World) (K : List Nat), n = ops.size - k → k ≤ ops.size → cutAt ops k = true → listed.size = ops.size → (∀ i, i < ops.size → (listed.getD i false = true ↔ i < k)) → Inv φ₀ H₀ w₀ N φ s a w K → (∀ d ∈ K, ∀ o ∈ al.drop k, o.dst ≠ some d) → rwp (Con P) (al.drop k) s Qs → wpAnyIn F 0 P .any ops Q n listed a w := by
  have hlen : al.length = ops.size := by rw [← hc.length]; simp
  have hpair : ∀ i, i < ops.size → ∃ o ao, ops[i]? = some o ∧ al[i]? = some ao ∧ Corr P N.n ops o ao := fun i hi => by
    obtain ⟨o, ao, h1, h2, h3⟩ := hc.get_pair (i := i) (by simpa using hi)
    exact ⟨o, ao, by simpa using h1, h2, h3⟩
  have hmk := masks_ok (ops := ops) ops.toList [] (by simp) (by simp) (fun k o _ j hj => by simp at hj)
  have hcut : ∀ m, cutAt ops m = true → ∀ k o, m ≤ k → ops[k]? = some o → ∀ j, j < m → Behind ops o j := fun m hm k o hk ho j hj => by
    have hko : k < ops.size := (Array.getElem?_eq_some_iff.1 ho).1
    have := List.all_eq_true.1 hm k (List.mem_range.2 hko)
    simp only [Bool.or_eq_true, decide_eq_true_eq, List.all_eq_true, List.mem_range] at this
    exact hmk k o ho j ((this.resolve_left (by omega)) j hj)
  have hlt : ∀ i o, ops[i]? = some o → ∀ e ∈ o.after, Region.binds .any e = true → e.on < i := fun i o ho e he hb => by
    obtain ⟨o', ao, ho', ha, _⟩ := hpair i (Array.getElem?_eq_some_iff.1 ho).1
    exact (draw_spec hD ho ha).1 e he hb
  intro n
  induction n using Nat.strongRecOn with
  | _ n IH =>
  intro k listed φ s a w K hn hk hck hsz hl hI hK h
  rcases Nat.eq_or_lt_of_le hk with hke | hko
  · subst hke
    have e0 : n = 0 := by omega
    subst e0
    have hd : al.drop ops.size = [] := List.drop_of_length_le (by omega)
    rw [hd] at h
    exact none_left hsz hl (hQ φ s a w K hI h)
  -- the next cut
  obtain ⟨m, hkm, hms, hcm, hnc⟩ : ∃ m, k < m ∧ m ≤ ops.size ∧ cutAt ops m = true ∧ ∀ i, k < i → i < m → cutAt ops i = false := by
    have hend : cutAt ops ops.size = true := by
      unfold cutAt
      simp only [List.all_eq_true, List.mem_range, Bool.or_eq_true, decide_eq_true_eq]
      intro i hi
      exact .inl hi
    exact next_cut _ ops.size (ops.size - (k + 1)) k (by omega) hend
  rcases Nat.eq_or_lt_of_le (show k + 1 ≤ m from hkm) with hm1 | hm1
  · -- one operation
    subst hm1
    obtain ⟨o, ao, ho, ha, hco⟩ := hpair k hko
    obtain ⟨r, rfl⟩ : ∃ r, n = r + 1 := ⟨n - 1, by omega⟩
    have hdr : al.drop k = ao :: al.drop (k + 1) := by
      have hkl : k < al.length := by omega
      rw [List.drop_eq_getElem_cons hkl]
      rw [List.getElem?_eq_getElem hkl] at ha
      cases ha
      rfl
    rw [hdr] at h hK
    refine one_step (fun i o hi ho => hcut _ hcm i o hi ho k (Nat.lt_succ_self k)) hlt ho hsz hl ?_
    have hGd := okG_drop k hG
    rw [hdr] at hGd
    refine region_step hco hGd hI hK h fun φ' s' a' w' K' hI' hK' h' => ?_
    exact IH r (by omega) (k + 1) _ φ' s' a' w' K' (by omega) hko hcm (by simp [hsz]) (fun j hj => by
      by_cases hji : j = k
      · subst hji; simp [show j < listed.size by omega]
      · rw [getD_set_ne false (Ne.symm hji), hl j hj]; omega) hI' hK' h'
  -- some operations, in any order
  have hns : ∀ i, k ≤ i → i < m → soloAt ops i = false := fun i h1 h2 => by
    unfold soloAt
    rcases Nat.eq_or_lt_of_le h1 with h | h
    · subst h
      rw [hnc (k + 1) (by omega) hm1, Bool.and_false]
    · rw [hnc i h h2, Bool.false_and]
  have hmid : ∀ i ao, k ≤ i → i < m → al[i]? = some ao → ao.tl = true → midAt P ops i = true := fun i ao h0 hi ha ht => by
    rw [(htl i ao ha).1, hns i h0 hi, Bool.false_or] at ht
    exact ht
  have hm2 : ∀ i, k ≤ i → i < m → ∃ ao, al[i]? = some ao ∧ (ao.tl = true → chgOp ao.op = true ∨ ao.op = .other) := fun i h0 hi => by
    obtain ⟨o, ao, ho, ha, hco⟩ := hpair i (by omega)
    refine ⟨ao, ha, fun ht => ?_⟩
    have hmi := hmid i ao h0 hi ha ht
    unfold midAt at hmi
    simp only [ho, Bool.and_eq_true, stripD] at hmi
    rcases hco.op with h' | h'
    · rw [h'] at hmi; exact .inl hmi.1
    · exact .inr h'
  have hdget : ∀ i, k ≤ i → (al.drop k)[i - k]? = al[i]? := fun i h0 => by rw [List.getElem?_drop]; congr 1; omega
  obtain ⟨S', Pa', V', Hp', hS0', hstep', hrest'⟩ := trace (m - k) (al.drop k) s (fun i hi => by
    obtain ⟨ao, h1, h2⟩ := hm2 (k + i) (by omega) (by omega)
    exact ⟨ao, by rw [List.getElem?_drop]; exact h1, h2⟩) h
  let S : Nat → St := fun i => S' (i - k)
  let Pa : Nat → Path := fun i => Pa' (i - k)
  let V : Nat → AV := fun i => V' (i - k)
  let Hp : Nat → Heap := fun i => Hp' (i - k)
  let KK : Nat → List Nat := fun i => keysTo K (al.drop k) (i - k)
  have hSk : ∀ i, i ≤ k → S i = s := fun i hi => by show S' (i - k) = s; rw [show i - k = 0 by omega, hS0']
  have hS0 : S 0 = s := hSk 0 (Nat.zero_le _)
  have hstep : ∀ i ao, k ≤ i → i < m → al[i]? = some ao → StepQ P ao (S i) (Pa i) (V i) (Hp i) ∧ S (i + 1) = St.put ⟨(S i).tmps, Hp i⟩ ao.dst (Pa i) (V i) := fun i ao h0 hi ha => by
    have := hstep' (i - k) ao (by omega) (by rw [hdget i h0]; exact ha)
    refine ⟨this.1, ?_⟩
    show S' (i + 1 - k) = _
    rw [show i + 1 - k = (i - k) + 1 by omega]
    exact this.2
  have hnot : ∀ i ao, k ≤ i → i < m → al[i]? = some ao → ao.op ≠ .other := fun i ao h0 hi ha h => by
    rcases (hstep i ao h0 hi ha).1.2 with ⟨_, _, e, _⟩ | ⟨_, _, _, e, _⟩ | ⟨_, _, _, e, _⟩ <;> (rw [h] at e; simp [aop_other] at e)
  have hsd : ∀ i ao o, k ≤ i → i < m → al[i]? = some ao → ops[i]? = some o → stripD P o = ao.op := fun i ao o h0 hi ha ho => by
    obtain ⟨o', ao', ho', ha', hco⟩ := hpair i (by omega)
    rw [ho] at ho'; cases ho'
    rw [ha] at ha'; cases ha'
    unfold stripD
    rw [hco.op.resolve_right (hnot i ao h0 hi ha)]
    rfl
  have hmid2 : ∀ j aj oj, k ≤ j → j < m → al[j]? = some aj → ops[j]? = some oj → aj.tl = true → ∀ i ai oi, k ≤ i → i < m → al[i]? = some ai → ops[i]? = some oi → i ≠ j → quietOp ai.op = false → (j < i → Behind ops oi j ∨ ((addrOf ai.op).isSome = true ∧ appNil aj.op = true)) ∧ (i < j → Behind ops oj i ∨ ∃ a, addrOf ai.op = some a ∧ (appNil aj.op = true ∨ (stOp aj.op = true ∧ a ∈ aj.ex ∧ ∀ k ak, i ≤ k → k < m → al[k]? = some ak → ak.dst ≠ some a))) := fun j aj oj hj0 hj haj hoj ht i ai oi hi0 hi hai hoi hij hnq => by
    have hmi := hmid j aj hj0 hj haj ht
    have hmi0 := hmi
    unfold midAt at hmi
    simp only [hoj, Bool.and_eq_true, List.all_eq_true, List.mem_range, Bool.or_eq_true, beq_iff_eq] at hmi
    have hio : i < ops.size := (Array.getElem?_eq_some_iff.1 hoi).1
    have hx := hmi.2 i hio
    rw [hoi] at hx
    simp only [Bool.or_eq_true, hsd i ai oi hi0 hi hai hoi, hsd j aj oj hj0 hj haj hoj, hnq, Bool.false_eq_true, false_or] at hx
    rcases hx with hx | hx | hx
    · exact absurd hx hij
    · constructor
      · intro h
        rw [if_neg (by omega)] at hx
        exact .inl (hmk i oi hoi j hx)
      · intro h
        rw [if_pos h] at hx
        exact .inl (hmk j oj hoj i hx)
    · cases had : addrOf ai.op with
      | none => rw [had] at hx; cases hx
      | some a =>
        rw [had] at hx
        simp only [Bool.or_eq_true, Bool.and_eq_true, decide_eq_true_eq, List.all_eq_true, List.mem_range] at hx
        rcases hx with hx | ⟨⟨hst, hlt⟩, hx⟩
        · exact ⟨fun _ => .inr ⟨rfl, hx⟩, fun _ => .inr ⟨a, rfl, .inl hx⟩⟩
        · refine ⟨fun h => by omega, fun _ => ?_⟩
          cases hbit : ((masks ops.toList []).getD j 0).testBit i with
          | true => exact .inl (hmk j oj hoj i hbit)
          | false =>
            refine .inr ⟨a, rfl, .inr ⟨hst, ?_, fun k' ak hk' hkm' hak => ?_⟩⟩
            · have hna : appNil aj.op = false := by
                cases h : aj.op <;> first | rfl | (rw [h] at hst; simp [stOp] at hst)
              rw [(htl j aj haj).2 oj hoj, if_neg (by rw [hns j hj0 hj, hmi0, hsd j aj oj hj0 hj haj hoj, hna]; simp)]
              unfold exAt
              simp only [List.mem_filterMap, List.mem_range]
              refine ⟨i, hlt, ?_⟩
              rw [hoi]
              simp only [hbit, Bool.false_eq_true, if_false, hsd i ai oi hi0 hi hai hoi]
              exact had
            · obtain ⟨ok, ak', hok, hak', hco⟩ := hpair k' (by omega)
              rw [hak] at hak'; cases hak'
              have := (hx k' (by omega)).resolve_left (by omega)
              rw [hok] at this
              simp only [bne_iff_ne, ne_eq] at this
              rw [hco.dst]
              exact this
  have hchg : ∀ i ao, k ≤ i → i < m → al[i]? = some ao → ao.tl = true → chgOp ao.op = true := fun i ao h0 hi ha ht => by
    obtain ⟨x, hx, h'⟩ := hm2 i h0 hi
    rw [ha] at hx; cases hx
    exact (h' ht).resolve_right (hnot i ao h0 hi ha)
  have hkk : ∀ i ao, k ≤ i → al[i]? = some ao → KK (i + 1) = addK (KK i) ao.guard := fun i ao h0 ha => by
    show keysTo K (al.drop k) (i + 1 - k) = addK (keysTo K (al.drop k) (i - k)) ao.guard
    rw [show i + 1 - k = (i - k) + 1 by omega]
    simp only [keysTo, hdget i h0, ha]
  have hno : ∀ i ao d, k ≤ i → al[i]? = some ao → ao.dst = some d → d ∉ KK (i + 1) := fun i ao d h0 ha hd hin => by
    refine keysTo_no (okG_drop k hG) hK (i - k + 1) d ?_ (i - k) ao (Nat.le_refl _) (by rw [hdget i h0]; exact ha) hd
    rw [show i - k + 1 = i + 1 - k by omega]
    exact hin
  have haok : ∀ d, k + d ≤ m → AOk (S (k + d)).tmps (KK (k + d)) := by
    intro d
    induction d with
    | zero =>
      intro _
      have e1 : KK (k + 0) = K := by show keysTo K (al.drop k) (k + 0 - k) = K; rw [show k + 0 - k = 0 by omega]; rfl
      rw [e1, hSk (k + 0) (by omega)]
      exact hI.sok.aok
    | succ d ih =>
      intro hd
      obtain ⟨ao, ha, _⟩ := hm2 (k + d) (by omega) (by omega)
      obtain ⟨hq, hs⟩ := hstep (k + d) ao (by omega) (by omega) ha
      have hA := ih (by omega)
      obtain ⟨g1, g2⟩ := gpath_aok (H := (S (k + d)).heap) hA hq.1
      rw [show k + (d + 1) = k + d + 1 by omega, hs, hkk (k + d) ao (by omega) ha]
      cases hd' : ao.dst with
      | none => exact fun n sl hsl => ⟨(hA n sl hsl).1, keysIn_mono (addK_sub _ _) (hA n sl hsl).2⟩
      | some e => exact aok_put hA (addK_sub _ _) (by rw [← hkk (k + d) ao (by omega) ha]; exact hno (k + d) ao e (by omega) ha hd') g1 g2
  have haok' : ∀ i, k ≤ i → i ≤ m → AOk (S i).tmps (KK i) := fun i h0 hi => by
    have := haok (i - k) (by omega)
    rwa [show k + (i - k) = i by omega] at this
  have hR : Run P N.n ops al k m S Pa V Hp KK := ⟨hms, Nat.le_of_lt hkm, fun i hi => by rw [hSk i hi, hS0], hpair, hstep, hchg, hmid2, haok', fun i ao h0 _ ha => hkk i ao h0 ha, fun i ao d h0 _ ha hd => hno i ao d h0 ha hd, hD⟩
  have hlisted : ∀ i, listed.getD i false = true → i < k := fun i hi => by
    have : i < ops.size := by
      rcases Nat.lt_or_ge i ops.size with h | h
      · exact h
      · simp only [Array.getD_eq_getD_getElem?, Array.getElem?_eq_none (show listed.size ≤ i by omega), Option.getD_none] at hi
        cases hi
    exact (hl i this).1 hi
  have hfs : ∀ i, (S 0).heap.next ≤ i → φ i = none := by rw [hS0]; exact hI.heap.fresh
  have g0 : HRel φ (S 0).heap w := by rw [hS0]; exact hI.heap
  have hstart : Jn ops al k m N.n S Pa V φ a w listed φ a w := by
    refine ⟨hsz, fun i hi => Nat.lt_trans (hlisted i hi) hkm, fun i hi => (hl i (by omega)).2 hi, fun i o j hi ho hw' => ?_, fun q hq hsk => ?_, fun q X B p hq hB hoff hp => ?_, fun id p hp => hI.heap.lt id p hp, fun i hi => hfs i (Nat.le_trans (hR.next_mono (Nat.zero_le _) (Nat.le_refl _)) hi), fun i hi _ id hid _ => hfs id (Nat.le_trans (hR.next_mono (Nat.zero_le _) (Nat.le_of_lt hi)) hid), fun i ao d h0 hi hl' => (by have := hlisted i hl'; omega), fun t _ => rfl, fun _ _ => rfl, rfl, hI.size⟩
    · have hik := hlisted i hi
      unfold waits at hw'
      obtain ⟨e, he, hb⟩ := List.any_eq_true.1 hw'
      simp only [Bool.and_eq_true, beq_iff_eq] at hb
      have := hlt i o ho e (by simpa using he) hb.1
      rw [hb.2] at this
      exact (hl j (by omega)).2 (by omega)
    all_goals have hto : φ.to (S q).heap.next = φ := Emb.to_self fun i hi => hfs i (Nat.le_trans (hR.next_mono (Nat.zero_le _) hq) hi)
    rotate_left
    · rw [hto] at hp ⊢
      have hlt' : X < (S 0).heap.next := by
        rcases Nat.lt_or_ge X (S 0).heap.next with h | h
        · exact h
        · rw [hfs X h] at hp; cases hp
      rw [hR.getB_at (Nat.zero_le _) hq (fun t ao h0 _ h2 ha ht => hoff t ao h0 (by omega) ha ht fun he => by have := hlisted t (he.2 h2); omega) hlt'] at hB
      exact g0.blk X B p hB hp
    have hstill : still al k 0 q := fun t ao h0 _ h2 ha => by
      cases ht : ao.tl with
      | false => rfl
      | true => have := hlisted t ((hsk t ao h0 (by omega) ha ht).2 h2); omega
    rw [hto]
    refine g0.grown rfl rfl rfl (Nat.le_refl _) (fun _ _ => rfl) (K := (S q).heap) (hR.next_mono (Nat.zero_le _) hq) fun j D hj hne => ?_
    have hlt' : j < (S 0).heap.next := by
      rcases Nat.lt_or_ge j (S 0).heap.next with h | h
      · exact h
      · exact absurd (hfs j h) hne
    rw [hR.getB_old (Nat.zero_le _) hq hstill j hlt'] at hj
    exact hj
  have hunl : ∀ d, k + d ≤ ops.size → unl listed (k + d) = d := by
    intro d
    induction d with
    | zero =>
      intro _
      have : ∀ i, i ≤ k → unl listed i = 0 := by
        intro i
        induction i with
        | zero => intro _; rfl
        | succ i ih =>
          intro hi
          simp only [unl, ih (by omega)]
          rw [(hl i (by omega)).2 (by omega)]
          rfl
      exact this _ (Nat.le_refl _)
    | succ d ih =>
      intro hd
      rw [show k + (d + 1) = k + d + 1 by omega]
      simp only [unl, ih (by omega)]
      have : listed.getD (k + d) false = false := by
        cases hx : listed.getD (k + d) false with
        | false => rfl
        | true => have := hlisted _ hx; omega
      rw [this]
      simp
  suffices hh : wpAnyIn F 0 P .any ops Q ((ops.size - m) + (m - k)) listed a w by
    have e : ops.size - m + (m - k) = n := by omega
    rw [e] at hh
    exact hh
  refine draw_any hR (hcut m hcm) (by rw [hS0]; have e1 : KK 0 = K := (by show keysTo K (al.drop k) (0 - k) = K; rw [show 0 - k = 0 by omega]; rfl); rw [e1]; exact hI.sok) hfs (Q := Q) (fun φ' a' w' listed' hJ hall => ?_) (m - k) φ _ a _ hstart (by have := hunl (m - k) (by omega); rwa [show k + (m - k) = m by omega] at this)
  have hφm : φ'.to (S m).heap.next = φ' := Emb.to_self hJ.fresh
  obtain ⟨hHm, hFm⟩ := hJ.hr m (Nat.le_refl _) fun j ao _ hj _ _ => ⟨fun _ => hj, fun _ => hall j hj⟩
  rw [hφm] at hHm hFm
  rw [hS0] at hFm
  have hSm : SOk φ' (S m).tmps a' (KK m) := by
    intro t sl hsl
    obtain ⟨g1, g2⟩ := haok' m (Nat.le_of_lt hkm) (Nat.le_refl _) t sl hsl
    rcases hR.slot (Nat.le_refl m) t with ⟨j, x, hj0, hj, hx, hxd, hs'⟩ | ⟨hno', hs'⟩
    · rw [hs'] at hsl
      cases hsl
      obtain ⟨q1, q2⟩ := hJ.on j x t hj0 hj (hall j hj) hx hxd
      exact ⟨rfl, fun hcd => relA_mono (Emb.to_le _ _) (q1 hcd), q2, g1, g2⟩
    · rw [hs', hS0] at hsl
      have hk' := hI.sok t sl hsl
      have e := hJ.off t fun i ao h0 hi _ ha => hno' i ao h0 hi ha
      refine ⟨hk'.num, fun hcd => ?_, fun hcd => ?_, g1, g2⟩
      · rw [e]; exact relA_mono hFm.le (hk'.on hcd)
      · rw [e]; exact hk'.off hcd
  refine IH (ops.size - m) (by omega) m listed' φ' (S m) a' w' (KK m) rfl hms hcm hJ.sz (fun i hi => ⟨hJ.lt i, hall i⟩) ⟨hSm, hHm, hI.fr.trans hFm, hJ.defers.symm ▸ hI.defers.keep (.of hI.heap hFm), hJ.size, hI.oth.trans (.of hI.heap hFm)⟩ (fun d hd x hx => ?_) ?_
  · obtain ⟨j, hj⟩ := List.mem_iff_getElem?.1 hx
    rw [List.getElem?_drop] at hj
    exact keysTo_no (okG_drop k hG) hK (m - k) d hd (m - k + j) x (by omega) (by rw [List.getElem?_drop, show k + (m - k + j) = m + j by omega]; exact hj)
  · have e : al.drop m = (al.drop k).drop (m - k) := by rw [List.drop_drop]; congr 1; omega
    rw [e]
    exact hrest'

theorem region_draw {φ₀ : Emb} {H₀ : Heap} {w₀ : World} {N : Env} {id : Nat} {ops : Array Oper} {al : List AOper} {Q : Exit → Act → World → Prop} {Qs : St → Prop} (hm : P.follows .mixedOrders = true)
    (hQ : ∀ φ s a w K, Inv φ₀ H₀ w₀ N φ s a w K → Qs s → Q .normal a w) (hc : F2 (Corr P N.n ops) ops.toList al) (hG : okG al = true) (hD : drawOk ops al = true)
    (htl : ∀ i ao, al[i]? = some ao → ao.tl = (soloAt ops i || midAt P ops i) ∧ ∀ o, ops[i]? = some o → ao.ex = if (soloAt ops i || !midAt P ops i || appNil (stripD P o)) = true then [] else exAt P ops i) {s : St} {a : Act} {K : List Nat} (hI : Inv φ₀ H₀ w₀ N φ s a w K) (hK : ∀ d ∈ K, ∀ o ∈ al, o.dst ≠ some d) (h : rwp (Con P) al s Qs) : (Code.region id ops true).wpIn F 0 P Q a w := by
  refine wpIn_region_any hm ?_
  have hfalse : ∀ k, (Array.replicate ops.size false).getD k false = false := fun k => by
    simp only [Array.getD_eq_getD_getElem?, Array.getElem?_replicate]
    split <;> rfl
  obtain ⟨q1, q2⟩ := hI.heap.grown (w' := ({ w with drawn := w.drawn + 1 } : World)) rfl rfl rfl (Nat.le_refl _) (fun _ _ => rfl) (K := s.heap) (Nat.le_refl _) (fun _ _ h _ => h)
  refine draw_from hQ hc hG hD htl ops.size 0 _ φ s a _ K (by omega) (Nat.zero_le _) ?_ (by simp) (fun i _ => ⟨fun h => (by rw [hfalse] at h; cases h), fun h => by omega⟩) ⟨hI.sok, q1, hI.fr.trans q2, hI.defers.keep (.of hI.heap q2), hI.size, hI.oth.trans (.of hI.heap q2)⟩ (by simpa using hK) (by simpa using h)
  unfold cutAt
  simp only [List.all_eq_true, List.mem_range, Bool.or_eq_true]
  intro i _
  exact .inr fun j hj => by omega

end Go.AM

