/- AM: what abstract values, heaps and states say of the model's. -/
import Derived.Test.YtmbnakinhnkabaaAm0
import Derived.Laws.CopyRow
import Derived.Laws.Cells
namespace Go.AM
set_option linter.unusedVariables false
set_option linter.unusedSimpArgs false

structure Place where
  blk : Nat
  base : Nat
  str : Nat
  cap : Nat

def Place.at (p : Place) (a : AA) : Addr := ⟨p.blk, p.base + p.str * a.idx + a.off + a.sub, none⟩
abbrev Emb := Nat → Option Place
def Emb.le (φ ψ : Emb) : Prop := ∀ i p, φ i = some p → ψ i = some p
theorem Emb.le_refl (φ : Emb) : φ.le φ := fun _ _ h => h
theorem Emb.le_trans {φ ψ χ : Emb} (h : φ.le ψ) (k : ψ.le χ) : φ.le χ := fun _ _ e => k _ _ (h _ _ e)

inductive F2 {α β : Type} (R : α → β → Prop) : List α → List β → Prop
  | nil : F2 R [] []
  | cons {a b l m} : R a b → F2 R l m → F2 R (a :: l) (b :: m)

theorem F2.length {α β : Type} {R : α → β → Prop} {l : List α} {m : List β} (h : F2 R l m) : l.length = m.length := by
  induction h <;> simp_all
theorem F2.mono {α β : Type} {R S : α → β → Prop} (hRS : ∀ a b, R a b → S a b) {l : List α} {m : List β} (h : F2 R l m) : F2 S l m := by
  induction h with
  | nil => exact .nil
  | cons h _ ih => exact .cons (hRS _ _ h) ih
theorem F2.append {α β : Type} {R : α → β → Prop} {l l' : List α} {m m' : List β} (h : F2 R l m) (h' : F2 R l' m') : F2 R (l ++ l') (m ++ m') := by
  induction h with
  | nil => exact h'
  | cons h _ ih => exact .cons h ih
theorem F2.get {α β : Type} {R : α → β → Prop} {l : List α} {m : List β} (h : F2 R l m) : ∀ {i : Nat} {a : α}, l[i]? = some a → ∃ b, m[i]? = some b ∧ R a b := by
  induction h with
  | nil => intro i a h; simp at h
  | cons hab _ ih =>
    intro i a h
    cases i with
    | zero => simp at h; subst h; exact ⟨_, rfl, hab⟩
    | succ i => exact ih (by simpa using h)
theorem F2.take {α β : Type} {R : α → β → Prop} {l : List α} {m : List β} (h : F2 R l m) : ∀ n, F2 R (l.take n) (m.take n) := by
  induction h with
  | nil => intro n; simp; exact .nil
  | cons hab _ ih => intro n; cases n with
    | zero => exact .nil
    | succ n => exact .cons hab (ih n)
theorem F2.drop {α β : Type} {R : α → β → Prop} {l : List α} {m : List β} (h : F2 R l m) : ∀ n, F2 R (l.drop n) (m.drop n) := by
  induction h with
  | nil => intro n; simp; exact .nil
  | cons hab hr ih => intro n; cases n with
    | zero => exact .cons hab hr
    | succ n => exact ih n
theorem F2.nil_left {α β : Type} {R : α → β → Prop} {m : List β} (h : F2 R [] m) : m = [] := by cases h; rfl
theorem F2.cons_left {α β : Type} {R : α → β → Prop} {a : α} {l : List α} {m : List β} (h : F2 R (a :: l) m) : ∃ b r, m = b :: r ∧ R a b ∧ F2 R l r := by
  cases h with | cons h h' => exact ⟨_, _, rfl, h, h'⟩

def relP (φ : Emb) (a : AA) (x : Value) : Prop := ∃ p, φ a.id = some p ∧ x = .pointer (some (p.at a))

def rel (φ : Emb) : CV → Value → Prop
  | .bool b, x => x = .bool b
  | .int k n, x => x = .int k n
  | .str s, x => x = .string s
  | .nilp, x => x = .pointer none
  | .ptr a, x => relP φ a x
  | .nils, x => x = .slice none 0 0
  | .slice a inner len, x => ∃ r cap, x = .slice r len cap ∧ len ≤ cap ∧
      ((len = 0 ∧ cap = 0 ∧ (r = none ∨ a.idx ≠ 0 ∨ inner = true)) ∨ ∃ p, φ a.id = some p ∧ r = some (p.at a) ∧ (inner = false → a.off = 0 ∧ a.sub = 0 ∧ a.idx + cap = p.cap))
  | .nilm, x => x = .map none
  | .map i, x => ∃ p, φ i = some p ∧ x = .map (some p.blk)
  | .fn f first caps, x => ∃ l m, x = .func (.func f) l m ∧ F2 (relP φ) first l.toList ∧ F2 (relP φ) caps m.toList
  | .nilfn, x => x = .nilFunc
  | .nilif, x => x = .nilIface
  | .iface t k n, x => x = .iface t (.int k n)

theorem relP_mono {φ ψ : Emb} (h : φ.le ψ) {a : AA} {x : Value} (r : relP φ a x) : relP ψ a x :=
  let ⟨p, hp, hx⟩ := r; ⟨p, h _ _ hp, hx⟩

theorem rel_mono {φ ψ : Emb} (h : φ.le ψ) {v : CV} {x : Value} (r : rel φ v x) : rel ψ v x := by
  cases v with
  | ptr a => exact relP_mono h r
  | slice a inner len =>
    obtain ⟨r, cap, e, hl, k⟩ := r
    exact ⟨r, cap, e, hl, k.imp id fun ⟨p, hp, k⟩ => ⟨p, h _ _ hp, k⟩⟩
  | map i => obtain ⟨p, hp, k⟩ := r; exact ⟨p, h _ _ hp, k⟩
  | fn f a b => obtain ⟨l, m, e, h1, h2⟩ := r; exact ⟨l, m, e, h1.mono fun _ _ => relP_mono h, h2.mono fun _ _ => relP_mono h⟩
  | _ => exact r

theorem rel_oneCell {φ : Emb} {v : CV} {x : Value} (r : rel φ v x) : x.oneCell' = true := by
  cases v with
  | ptr a => obtain ⟨_, _, rfl⟩ := r; rfl
  | slice => obtain ⟨_, _, rfl, _⟩ := r; rfl
  | map => obtain ⟨_, _, rfl⟩ := r; rfl
  | fn => obtain ⟨_, _, rfl, _⟩ := r; rfl
  | _ => cases r; rfl

theorem rel_cells {φ : Emb} {v : CV} {x : Value} (r : rel φ v x) : x.cells = #[x] := by
  cases v with
  | ptr a => obtain ⟨_, _, rfl⟩ := r; rfl
  | slice => obtain ⟨_, _, rfl, _⟩ := r; rfl
  | map => obtain ⟨_, _, rfl⟩ := r; rfl
  | fn => obtain ⟨_, _, rfl, _⟩ := r; rfl
  | _ => cases r; rfl

def rel1 (φ : Emb) : AV → Value → Prop
  | .bot, _ => True
  | .c v, x => rel φ v x
  | .agg l, x => ∃ cs, x = .agg cs ∧ F2 (rel φ) (flat l) cs.toList
  | .tup _, _ => False

def relA (φ : Emb) : AV → Value → Prop
  | .bot, _ => True
  | .c v, x => rel φ v x
  | .agg l, x => ∃ cs, x = .agg cs ∧ F2 (rel φ) (flat l) cs.toList
  | .tup l, x => ∃ xs, x = .tuple xs ∧ F2 (rel1 φ) l xs.toList

theorem relA_of_rel1 {φ : Emb} {v : AV} {x : Value} (h : rel1 φ v x) : relA φ v x := by
  cases v <;> first | exact h | exact h.elim

theorem rel1_mono {φ ψ : Emb} (h : φ.le ψ) {v : AV} {x : Value} (r : rel1 φ v x) : rel1 ψ v x := by
  cases v with
  | bot => trivial
  | c v => exact rel_mono h r
  | agg l => obtain ⟨cs, e, k⟩ := r; exact ⟨cs, e, k.mono fun _ _ => rel_mono h⟩
  | tup l => exact r

theorem relA_mono {φ ψ : Emb} (h : φ.le ψ) {v : AV} {x : Value} (r : relA φ v x) : relA ψ v x := by
  cases v with
  | bot => trivial
  | c v => exact rel_mono h r
  | agg l => obtain ⟨cs, e, k⟩ := r; exact ⟨cs, e, k.mono fun _ _ => rel_mono h⟩
  | tup l => obtain ⟨xs, e, k⟩ := r; exact ⟨xs, e, k.mono fun _ _ => rel1_mono h⟩

/-- The cells of what can be stored. -/
theorem segsOf_cells {φ : Emb} {v : AV} {x : Value} {l : List Seg} (hs : segsOf v = some l) (r : relA φ v x) : F2 (rel φ) (flat l) x.cells.toList := by
  cases v with
  | c v => simp only [segsOf, Option.some.injEq] at hs; subst hs; rw [rel_cells r]; exact .cons r .nil
  | agg m => simp only [segsOf, Option.some.injEq] at hs; subst hs; obtain ⟨cs, rfl, k⟩ := r; exact k
  | _ => simp [segsOf] at hs

theorem Seg.flat_length (s : Seg) : s.flat.length = s.size := by cases s <;> simp [Seg.flat, Seg.size]
theorem flat_length (l : List Seg) : (flat l).length = sizes l := by
  induction l with
  | nil => rfl
  | cons s r ih => simp [flat, sizes, Seg.flat_length, ih]
theorem flat_append (l m : List Seg) : flat (l ++ m) = flat l ++ flat m := by
  induction l with
  | nil => rfl
  | cons s r ih => simp [flat, ih]

theorem takeS_flat (l : List Seg) : ∀ (m : Nat) (l' : List Seg), takeS l m = some l' → flat l' = (flat l).take m ∧ sizes l' = m := by
  induction l with
  | nil => intro m l' h; cases m <;> simp [takeS] at h; subst h; simp [flat, sizes]
  | cons s r ih =>
    intro m l' h
    cases m with
    | zero => simp [takeS] at h; subst h; simp [flat, sizes]
    | succ m =>
      simp only [takeS] at h
      cases hn : nsub (m + 1) s.size with
      | none => simp [hn] at h
      | some m' =>
        simp only [hn] at h
        cases ht : takeS r m' with
        | none => simp [ht] at h
        | some t =>
          simp only [ht, Option.some.injEq] at h
          subst h
          have e := nsub_eq hn
          have k := ih m' t ht
          refine ⟨?_, by simp only [sizes]; rw [k.2]; omega⟩
          simp only [flat]
          rw [List.take_append, Seg.flat_length, k.1, List.take_of_length_le (l := s.flat) (by rw [Seg.flat_length]; omega), show m + 1 - s.size = m' by omega]

theorem dropS_flat (l : List Seg) : ∀ (m : Nat) (l' : List Seg), dropS l m = some l' → flat l' = (flat l).drop m ∧ m ≤ (flat l).length := by
  induction l with
  | nil => intro m l' h; cases m <;> simp [dropS] at h; subst h; simp [flat]
  | cons s r ih =>
    intro m l' h
    cases m with
    | zero => simp [dropS] at h; subst h; simp
    | succ m =>
      simp only [dropS] at h
      cases hn : nsub (m + 1) s.size with
      | none => simp [hn] at h
      | some m' =>
        simp only [hn] at h
        have e := nsub_eq hn
        have k := ih m' l' h
        refine ⟨?_, by simp only [flat, List.length_append, Seg.flat_length]; omega⟩
        simp only [flat]
        rw [List.drop_append, Seg.flat_length, k.1, List.drop_of_length_le (l := s.flat) (by rw [Seg.flat_length]; omega), show m + 1 - s.size = m' by omega, List.nil_append]

theorem cut_flat {l l' : List Seg} {o m : Nat} (h : cut l o m = some l') : flat l' = ((flat l).drop o).take m ∧ sizes l' = m := by
  unfold cut at h
  cases hd : dropS l o with
  | none => simp [hd] at h
  | some r =>
    simp only [hd] at h
    have k := takeS_flat r m l' h
    rw [(dropS_flat l o r hd).1] at k
    exact k

theorem putS_flat {l l' x : List Seg} {o : Nat} (h : putS l o x = some l') : flat l' = (flat l).take o ++ flat x ++ (flat l).drop (o + sizes x) ∧ o + sizes x ≤ (flat l).length := by
  unfold putS at h
  cases ht : takeS l o with
  | none => simp [ht] at h
  | some a =>
    cases hd : dropS l (o + sizes x) with
    | none => simp [ht, hd] at h
    | some b =>
      simp only [ht, hd, Option.some.injEq] at h
      subst h
      rw [flat_append, flat_append, (takeS_flat l o a ht).1, (dropS_flat l _ b hd).1]
      exact ⟨by simp, (dropS_flat l _ b hd).2⟩

theorem segAt_flat (l : List Seg) : ∀ (o : Nat) (s : Seg), segAt l o = some s → ∀ j, j < s.size → (flat l)[o + j]? = s.flat[j]? := by
  induction l with
  | nil => intro o s h; simp [segAt] at h
  | cons t r ih =>
    intro o s h j hj
    cases o with
    | zero =>
      simp only [segAt, Option.some.injEq] at h
      subst h
      simp only [flat, Nat.zero_add]
      rw [List.getElem?_append_left (by rw [Seg.flat_length]; exact hj)]
    | succ o =>
      simp only [segAt] at h
      cases hn : nsub (o + 1) t.size with
      | none => simp [hn] at h
      | some o' =>
        simp only [hn] at h
        have e := nsub_eq hn
        have k := ih o' s h j hj
        simp only [flat]
        rw [List.getElem?_append_right (by rw [Seg.flat_length]; omega), Seg.flat_length, show o + 1 + j - t.size = o' + j by omega, k]

/-! ### Heaps -/
structure BRel (φ : Emb) (B : Blk) (p : Place) (w : World) : Prop where
  str : p.str = B.str
  rows : ∀ i, i < B.n → ∃ xs, F2 (rel φ) (flat (B.row i)) xs ∧ xs.length = B.str ∧ ∀ j x, xs[j]? = some x → w.cell? ⟨p.blk, p.base + p.str * i + j, none⟩ = some x
  own : B.wr = true → p.base = 0 ∧ B.n ≤ p.cap ∧ p.cap ≤ 9223372036854775807 ∧ ∃ cs, w.heap[p.blk]? = some (.cells cs B.elem (0, 0)) ∧ cs.size = p.str * p.cap

structure HRel (φ : Emb) (H : Heap) (w : World) : Prop where
  blk : ∀ i B p, getB H.blks i = some B → φ i = some p → BRel φ B p w
  inj : ∀ i j B C p q, getB H.blks i = some B → getB H.blks j = some C → φ i = some p → φ j = some q → i ≠ j → B.wr = true → p.blk ≠ q.blk
  fresh : ∀ i, H.next ≤ i → φ i = none
  lt : ∀ i p, φ i = some p → p.blk < w.heap.size

/-- From one heap and world to the next: what was not ours to write is as it was. -/
structure Fr (φ : Emb) (H : Heap) (w : World) (ψ : Emb) (K : Heap) (v : World) : Prop where
  le : φ.le ψ
  same : ∀ i, i < H.next → ψ i = φ i
  nx : H.next ≤ K.next
  size : w.heap.size ≤ v.heap.size
  os : v.os = w.os
  tape : v.tape = w.tape
  output : v.output = w.output
  old : ∀ b, b < w.heap.size → (∀ i B p, getB H.blks i = some B → B.wr = true → φ i = some p → p.blk ≠ b) → v.heap[b]? = w.heap[b]?
  own : ∀ i B p, getB K.blks i = some B → B.wr = true → ψ i = some p → w.heap.size ≤ p.blk ∨ ∃ j C q, getB H.blks j = some C ∧ C.wr = true ∧ φ j = some q ∧ q.blk = p.blk

theorem Fr.refl (φ : Emb) (H : Heap) (w : World) : Fr φ H w φ H w :=
  ⟨φ.le_refl, fun _ _ => rfl, Nat.le_refl _, Nat.le_refl _, rfl, rfl, rfl, fun _ _ _ => rfl, fun i B p h1 h2 h3 => .inr ⟨i, B, p, h1, h2, h3, rfl⟩⟩

theorem Fr.trans {φ ψ χ : Emb} {H K L : Heap} {w v u : World} (h : Fr φ H w ψ K v) (k : Fr ψ K v χ L u) : Fr φ H w χ L u where
  le := Emb.le_trans h.le k.le
  same := fun i hi => (k.same i (Nat.lt_of_lt_of_le hi h.nx)).trans (h.same i hi)
  nx := Nat.le_trans h.nx k.nx
  size := Nat.le_trans h.size k.size
  os := k.os.trans h.os
  tape := k.tape.trans h.tape
  output := k.output.trans h.output
  old := fun b hb hno => by
    rw [k.old b (Nat.lt_of_lt_of_le hb h.size) ?_, h.old b hb hno]
    intro i B p h1 h2 h3 e
    rcases h.own i B p h1 h2 h3 with hw | ⟨j, C, q, g1, g2, g3, g4⟩
    · omega
    · exact hno j C q g1 g2 g3 (g4.trans e)
  own := fun i B p h1 h2 h3 => by
    rcases k.own i B p h1 h2 h3 with hw | ⟨j, C, q, g1, g2, g3, g4⟩
    · exact .inl (Nat.le_trans h.size hw)
    · rw [← g4]; exact h.own j C q g1 g2 g3

/-! ### Cells -/
theorem BRel.cell {φ : Emb} {B : Blk} {p : Place} {w : World} (h : BRel φ B p w) {i : Nat} (hi : i < B.n) {o : Nat} {v : CV} (hv : (flat (B.row i))[o]? = some v) :
    ∃ x, w.cell? ⟨p.blk, p.base + p.str * i + o, none⟩ = some x ∧ rel φ v x := by
  obtain ⟨xs, h1, _, h3⟩ := h.rows i hi
  obtain ⟨x, hx, hr⟩ := h1.get hv
  exact ⟨x, h3 _ _ hx, hr⟩

theorem cell_block_lt {w : World} {a : Addr} {x : Value} (h : w.cell? a = some x) : a.block < w.heap.size := World.block_lt_of_cell? w a h

theorem rowNeed_lt {B : Blk} {i : Nat} {need : Option Prop} (h : rowNeed B i = some need) (hn : needP need) : i < B.n := by
  unfold rowNeed at h
  unfold Blk.n
  cases hs : B.sz with
  | none =>
    simp only [hs] at h
    cases hb : Nat.beq i 0 with
    | false => simp [hb] at h
    | true => have := Nat.eq_of_beq_eq_true hb; simp [this]
  | some n =>
    simp only [hs, Option.some.injEq] at h
    subst h
    exact hn

theorem andN_left {a b : Option Prop} (h : needP (andN a b)) : needP a := by
  cases a <;> cases b <;> simp_all [andN, needP]
theorem andN_right {a b : Option Prop} (h : needP (andN a b)) : needP b := by
  cases a <;> cases b <;> simp_all [andN, needP]

end Go.AM
