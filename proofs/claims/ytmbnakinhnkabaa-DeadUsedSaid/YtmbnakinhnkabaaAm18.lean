/- AM: states and heaps under other ids; the frame of a contract. -/
import Derived.Test.YtmbnakinhnkabaaAm17
namespace Go.AM
set_option linter.unusedVariables false
set_option linter.unusedSimpArgs false
variable {P : Program} {φ : Emb} {w : World}

def nthO : List Nat → Nat → Option Nat
  | [], _ => none
  | j :: _, 0 => some j
  | _ :: r, i + 1 => nthO r i
def ren (φ : Emb) (l : List Nat) : Emb := fun i => match nthO l i with | some j => φ j | none => none

def leA (l : List Nat) (a a' : AA) : Prop := nthO l a'.id = some a.id ∧ a.idx = a'.idx ∧ a.off = a'.off ∧ a.sub = a'.sub
def leAL (l : List Nat) : List AA → List AA → Prop
  | [], [] => True
  | a :: r, a' :: r' => leA l a a' ∧ leAL l r r'
  | _, _ => False
def leC (l : List Nat) : CV → CV → Prop
  | .ptr a, .ptr a' => leA l a a'
  | .slice a i n, .slice a' i' n' => leA l a a' ∧ i = i' ∧ n = n'
  | .nils, .slice _ _ n' => n' = 0
  | .map i, .map i' => nthO l i' = some i
  | .fn f a b, .fn f' a' b' => f = f' ∧ leAL l a a' ∧ leAL l b b'
  | .bool b, .bool b' => b = b'
  | .int k n, .int k' n' => k = k' ∧ n = n'
  | .str s, .str s' => s = s'
  | .nilp, .nilp => True
  | .nils, .nils => True
  | .nilm, .nilm => True
  | .nilfn, .nilfn => True
  | .nilif, .nilif => True
  | .iface t k n, .iface t' k' n' => t = t' ∧ k = k' ∧ n = n'
  | _, _ => False
def leSeg (l : List Nat) : Seg → Seg → Prop
  | .c v, .c v' => leC l v v'
  | .a n f, .a n' f' => n = n' ∧ ∀ i, i < n → leC l (f i) (f' i)
  | _, _ => False
def leSegs (l : List Nat) : List Seg → List Seg → Prop
  | [], [] => True
  | s :: r, s' :: r' => leSeg l s s' ∧ leSegs l r r'
  | _, _ => False
def leV1 (l : List Nat) : AV → AV → Prop
  | _, .bot => True
  | .c v, .c v' => leC l v v'
  | .agg s, .agg s' => leSegs l s s'
  | _, _ => False
def leVL (l : List Nat) : List AV → List AV → Prop
  | [], [] => True
  | v :: r, v' :: r' => leV1 l v v' ∧ leVL l r r'
  | _, _ => False
def leV (l : List Nat) : AV → AV → Prop
  | .tup a, .tup a' => leVL l a a'
  | v, v' => leV1 l v v'

theorem ren_of {l : List Nat} {i j : Nat} (h : nthO l i = some j) : ren φ l i = φ j := by unfold ren; rw [h]

theorem leA_rel {l : List Nat} {a a' : AA} (h : leA l a a') {x : Value} (r : relP φ a x) : relP (ren φ l) a' x := by
  obtain ⟨p, hp, rfl⟩ := r
  obtain ⟨h1, h2, h3, h4⟩ := h
  exact ⟨p, by rw [ren_of h1]; exact hp, by unfold Place.at; rw [h2, h3, h4]⟩
theorem leAL_rel {l : List Nat} : ∀ {a a' : List AA} (h : leAL l a a') {xs : List Value} (r : F2 (relP φ) a xs), F2 (relP (ren φ l)) a' xs
  | [], [], _, _, .nil => .nil
  | _ :: _, _ :: _, h, _, .cons h1 h2 => .cons (leA_rel h.1 h1) (leAL_rel h.2 h2)

theorem leC_rel {l : List Nat} {v v' : CV} (h : leC l v v') {x : Value} (r : rel φ v x) : rel (ren φ l) v' x := by
  cases v <;> cases v' <;> first | exact h.elim | skip
  case ptr.ptr => exact leA_rel h r
  case slice.slice a i n a' i' n' =>
    obtain ⟨h1, rfl, rfl⟩ := h
    obtain ⟨r, cap, e, hl, k⟩ := r
    obtain ⟨h1, h2, h3, h4⟩ := h1
    refine ⟨r, cap, e, hl, k.imp (fun k => ⟨k.1, k.2.1, by rw [← h2]; exact k.2.2⟩) fun ⟨p, hp, e, k⟩ => ⟨p, by rw [ren_of h1]; exact hp, by rw [e]; unfold Place.at; rw [h2, h3, h4], by rw [← h2, ← h3, ← h4]; exact k⟩⟩
  case nils.slice a' i' n' =>
    cases h
    exact ⟨none, 0, r, Nat.le_refl _, .inl ⟨rfl, rfl, .inl rfl⟩⟩
  case map.map => obtain ⟨p, hp, k⟩ := r; exact ⟨p, by rw [ren_of h]; exact hp, k⟩
  case fn.fn =>
    obtain ⟨rfl, h1, h2⟩ := h
    obtain ⟨l', m, e, k1, k2⟩ := r
    exact ⟨l', m, e, leAL_rel h1 k1, leAL_rel h2 k2⟩
  case bool.bool => cases h; exact r
  case int.int => obtain ⟨rfl, rfl⟩ := h; exact r
  case str.str => cases h; exact r
  case iface.iface => obtain ⟨rfl, rfl, rfl⟩ := h; exact r
  all_goals exact r

theorem F2_map {α β γ : Type} {R : β → γ → Prop} (f : α → β) : ∀ (l : List α) (m : List γ), F2 R (l.map f) m ↔ F2 (fun a c => R (f a) c) l m
  | [], m => ⟨fun h => by cases h; exact .nil, fun h => by cases h; exact .nil⟩
  | a :: l, m => ⟨fun h => by cases h with | cons h1 h2 => exact .cons h1 ((F2_map f l _).1 h2), fun h => by cases h with | cons h1 h2 => exact .cons h1 ((F2_map f l _).2 h2)⟩
theorem F2.mono' {α β : Type} {R S : α → β → Prop} {l : List α} {m : List β} (h : F2 R l m) (hRS : ∀ a ∈ l, ∀ b, R a b → S a b) : F2 S l m := by
  induction h with
  | nil => exact .nil
  | cons h _ ih => exact .cons (hRS _ (by simp) _ h) (ih fun a ha => hRS a (by simp [ha]))

theorem leSeg_rel {l : List Nat} {s s' : Seg} (h : leSeg l s s') {xs : List Value} (r : F2 (rel φ) s.flat xs) : F2 (rel (ren φ l)) s'.flat xs := by
  cases s <;> cases s' <;> first | exact h.elim | skip
  case c.c => cases r with | cons h1 h2 => cases h2; exact .cons (leC_rel h h1) .nil
  case a.a n f n' f' =>
    obtain ⟨rfl, h⟩ := h
    simp only [Seg.flat] at r ⊢
    rw [F2_map] at r ⊢
    exact r.mono' fun i hi x hx => leC_rel (h i (by simpa using hi)) hx
theorem leSeg_size {l : List Nat} {s s' : Seg} (h : leSeg l s s') : s.size = s'.size := by
  cases s <;> cases s' <;> first | exact h.elim | skip
  case c.c => rfl
  case a.a => exact h.1
theorem leSegs_rel {l : List Nat} : ∀ {s s' : List Seg} (h : leSegs l s s') {xs : List Value} (r : F2 (rel φ) (flat s) xs), F2 (rel (ren φ l)) (flat s') xs
  | [], [], _, _, .nil => .nil
  | [], _ :: _, h, _, _ => h.elim
  | _ :: _, [], h, _, _ => h.elim
  | s :: r, s' :: r', h, xs, hx => by
    obtain ⟨a, b, rfl, k1, k2⟩ := F2.split (l := s.flat) (m := flat r) hx
    exact (leSeg_rel h.1 k1).append (leSegs_rel h.2 k2)

theorem leV1_rel1 {l : List Nat} {v v' : AV} (h : leV1 l v v') {x : Value} (r : rel1 φ v x) : rel1 (ren φ l) v' x := by
  cases v' with
  | bot => trivial
  | c v' => cases v <;> first | exact h.elim | exact leC_rel h r
  | agg s' => cases v <;> first | exact h.elim | exact (let ⟨cs, e, k⟩ := r; ⟨cs, e, leSegs_rel h k⟩)
  | tup => cases v <;> exact h.elim
theorem leVL_rel {l : List Nat} : ∀ {v v' : List AV} (h : leVL l v v') {xs : List Value} (r : F2 (rel1 φ) v xs), F2 (rel1 (ren φ l)) v' xs
  | [], [], _, _, .nil => .nil
  | _ :: _, _ :: _, h, _, .cons h1 h2 => .cons (leV1_rel1 h.1 h1) (leVL_rel h.2 h2)
theorem leV_rel {l : List Nat} {v v' : AV} (h : leV l v v') {x : Value} (r : relA φ v x) : relA (ren φ l) v' x := by
  cases v with
  | tup a =>
    cases v' with
    | tup a' => obtain ⟨xs, e, k⟩ := r; exact ⟨xs, e, leVL_rel h k⟩
    | bot => trivial
    | _ => exact h.elim
  | bot => cases v' <;> first | exact h.elim | trivial
  | c v => cases v' <;> first | exact h.elim | exact leC_rel h r | trivial
  | agg v => cases v' <;> first | exact h.elim | exact (let ⟨cs, e, k⟩ := r; ⟨cs, e, leSegs_rel h k⟩) | trivial

def leB (l : List Nat) (B B' : Blk) : Prop := B'.str = B.str ∧ B'.elem = B.elem ∧ (B'.wr = true → B.wr = true) ∧ B'.n ≤ B.n ∧ ∀ i, i < B'.n → leSegs l (B.row i) (B'.row i)
theorem leB_rel {l : List Nat} {B B' : Blk} (h : leB l B B') {p : Place} (r : BRel φ B p w) : BRel (ren φ l) B' p w := by
  obtain ⟨h1, h2, h3, h4, h5⟩ := h
  refine ⟨r.str.trans h1.symm, fun i hi => ?_, fun hw => ?_⟩
  · obtain ⟨xs, k1, k2, k3⟩ := r.rows i (by omega)
    exact ⟨xs, leSegs_rel (h5 i hi) k1, k2.trans h1.symm, k3⟩
  · obtain ⟨e1, e2, e3, cs, e4, e5⟩ := r.own (h3 hw)
    exact ⟨e1, by omega, e3, cs, by rw [h2]; exact e4, e5⟩

def leBlks (l : List Nat) (H : List (Nat × Blk)) : List (Nat × Blk) → Prop
  | [] => True
  | (i, B') :: r => (match nthO l i with | none => True | some j => match getB H j with | none => False | some B => leB l B B') ∧ leBlks l H r
theorem leBlks_get {l : List Nat} {H : List (Nat × Blk)} : ∀ {H' : List (Nat × Blk)}, leBlks l H H' → ∀ {i B'}, getB H' i = some B' → ∀ {j}, nthO l i = some j → ∃ B, getB H j = some B ∧ leB l B B'
  | [], _, i, B', h, _, _ => by simp [getB] at h
  | (k, C) :: r, hl, i, B', h, j, hj => by
    simp only [leBlks] at hl
    simp only [getB] at h
    cases hb : Nat.beq k i with
    | false => rw [hb] at h; exact leBlks_get hl.2 h hj
    | true =>
      rw [hb] at h
      cases h
      have := Nat.eq_of_beq_eq_true hb
      subst this
      have h1 := hl.1
      rw [hj] at h1
      simp only at h1
      cases hg : getB H j with
      | none => rw [hg] at h1; exact h1.elim
      | some B => rw [hg] at h1; exact ⟨B, rfl, h1⟩

def notIn (i : Nat) : List Nat → Prop
  | [] => True
  | j :: r => Nat.beq i j = false ∧ notIn i r
def diff : List Nat → Prop
  | [] => True
  | j :: r => notIn j r ∧ diff r
theorem notIn_ne {i : Nat} : ∀ {l : List Nat}, notIn i l → ∀ {k j}, nthO l k = some j → i ≠ j
  | [], _, _, _, h => by simp [nthO] at h
  | x :: r, hn, 0, j, h => by simp only [nthO, Option.some.injEq] at h; subst h; intro e; subst e; simp [notIn] at hn
  | x :: r, hn, k + 1, j, h => notIn_ne hn.2 (by simpa [nthO] using h)
theorem diff_ne : ∀ {l : List Nat}, diff l → ∀ {i k a b}, nthO l i = some a → nthO l k = some b → i ≠ k → a ≠ b
  | [], _, _, _, _, _, h, _, _ => by simp [nthO] at h
  | x :: r, hd, 0, 0, a, b, h, k, hne => absurd rfl hne
  | x :: r, hd, 0, k + 1, a, b, h, hk, hne => by
    simp only [nthO, Option.some.injEq] at h
    subst h
    exact notIn_ne hd.1 (by simpa [nthO] using hk)
  | x :: r, hd, i + 1, 0, a, b, h, hk, hne => by
    simp only [nthO, Option.some.injEq] at hk
    subst hk
    exact (notIn_ne hd.1 (by simpa [nthO] using h)).symm
  | x :: r, hd, i + 1, k + 1, a, b, h, hk, hne => diff_ne hd.2 (by simpa [nthO] using h) (by simpa [nthO] using hk) (by omega)

theorem nthO_lt : ∀ {l : List Nat} {i j : Nat}, nthO l i = some j → i < l.length
  | [], _, _, h => by simp [nthO] at h
  | _ :: _, 0, _, _ => by simp
  | _ :: r, i + 1, j, h => by have := nthO_lt (l := r) (by simpa [nthO] using h); simp; omega
theorem nthO_get : ∀ {l : List Nat} {i : Nat}, i < l.length → ∃ j, nthO l i = some j
  | [], _, h => by simp at h
  | j :: _, 0, _ => ⟨j, rfl⟩
  | _ :: r, i + 1, h => by obtain ⟨j, hj⟩ := nthO_get (l := r) (i := i) (by simpa using h); exact ⟨j, by simpa [nthO] using hj⟩

theorem ren_some {l : List Nat} {i : Nat} {p : Place} (h : ren φ l i = some p) : ∃ j, nthO l i = some j ∧ φ j = some p := by
  unfold ren at h
  cases hl : nthO l i with
  | none => simp [hl] at h
  | some j => exact ⟨j, rfl, by simpa [hl] using h⟩

theorem HRel.ren {H H' : Heap} (h : HRel φ H w) {l : List Nat} (hd : diff l) (hn : H'.next = l.length) (hb : leBlks l H.blks H'.blks) : HRel (ren φ l) H' w where
  blk := fun i B p hB hp => by
    obtain ⟨j, hj, hp⟩ := ren_some hp
    obtain ⟨C, hC, hle⟩ := leBlks_get hb hB hj
    exact leB_rel hle (h.blk j C p hC hp)
  inj := fun i k B C p q hB hC hp hq hne hw => by
    obtain ⟨j, hj, hp⟩ := ren_some hp
    obtain ⟨m, hm, hq⟩ := ren_some hq
    obtain ⟨B', hB', hle⟩ := leBlks_get hb hB hj
    obtain ⟨C', hC', hle'⟩ := leBlks_get hb hC hm
    exact h.inj j m B' C' p q hB' hC' hp hq (diff_ne hd hj hm hne) (hle.2.2.1 hw)
  fresh := fun i hi => by
    unfold AM.ren
    cases hl : nthO l i with
    | none => rfl
    | some j => have := nthO_lt hl; omega
  lt := fun i p hp => by
    obtain ⟨j, hj, hp⟩ := ren_some hp
    exact h.lt j p hp

def slotsLe (l : List Nat) (s : List Slot) : List Slot → Prop
  | [] => True
  | ⟨n, [], v'⟩ :: r => (match v' with
    | .bot => True
    | v' => match slotAt s n with
      | some ⟨_, [], v⟩ => leV l v v'
      | _ => False) ∧ slotsLe l s r
  | ⟨_, _ :: _, _⟩ :: _ => False
theorem slotsLe_get {l : List Nat} {s : List Slot} : ∀ {s' : List Slot}, slotsLe l s s' → ∀ {n sl}, slotAt s' n = some sl → sl.n = n ∧ sl.path = [] ∧ (sl.v = .bot ∨ ∃ k v, slotAt s n = some ⟨k, [], v⟩ ∧ leV l v sl.v)
  | [], _, n, sl, h => by simp [slotAt] at h
  | ⟨k, [], v'⟩ :: r, hl, n, sl, h => by
    simp only [slotsLe] at hl
    by_cases hn : n = k
    · subst hn
      rw [slotAt_cons_self] at h
      cases h
      refine ⟨rfl, rfl, ?_⟩
      have h1 := hl.1
      cases v' with
      | bot => exact .inl rfl
      | _ =>
        refine .inr ?_
        simp only at h1
        split at h1
        · rename_i hs; exact ⟨_, _, hs, h1⟩
        · exact h1.elim
    · rw [slotAt_cons_ne hn] at h
      exact slotsLe_get hl.2 h
  | ⟨k, e :: p, v'⟩ :: r, hl, n, sl, h => hl.elim

def idTo (l : List Nat) (n : Nat) : Prop := ∀ i, i < n → nthO l i = some i

theorem LeS.intro {n : Nat} {s s' : St} (l : List Nat) (hi : idTo l n) (hd : diff l) (hn : s'.heap.next = l.length) (hs : slotsLe l s.tmps s'.tmps) (hb : leBlks l s.heap.blks s'.heap.blks) : LeS n s s' := by
  intro φ₀ H₀ w₀ N φ a w h0 hf0 hI
  have hlen : n ≤ l.length := by
    cases n with
    | zero => omega
    | succ m => have := nthO_lt (hi m (by omega)); omega
  have hsm : ∀ i, i < n → ren φ l i = φ i := fun i h => ren_of (hi i h)
  have hH := hI.heap.ren hd hn hb
  refine ⟨ren φ l, ⟨fun n sl hsl => ?_, hH, ?_, hI.defers, hI.size, hI.oth⟩⟩
  · obtain ⟨h1, h2, h3⟩ := slotsLe_get hs hsl
    obtain ⟨k, p, v⟩ := sl
    simp only at h1 h2 h3
    subst h1 h2
    refine ⟨rfl, fun _ => ?_, fun hc => absurd trivial hc, trivial, fun e he => by cases he⟩
    rcases h3 with h3 | ⟨k', v', hs', hle⟩
    · subst h3; trivial
    · exact leV_rel hle ((hI.sok k _ hs').on trivial)
  · have hf := hI.fr
    refine ⟨fun i p hp => ?_, fun i hi' => ?_, by omega, hf.size, hf.os, hf.tape, hf.output, hf.old, fun i B p hB hw hp => ?_⟩
    · by_cases hlt : i < n
      · rw [hsm i hlt]; exact hf.le i p hp
      · rw [hf0 i (by omega)] at hp; cases hp
    · rw [hsm i (by omega)]; exact hf.same i hi'
    · obtain ⟨j, hj, hp⟩ := ren_some hp
      obtain ⟨C, hC, hle⟩ := leBlks_get hb hB hj
      exact hf.own j C p hC (hle.2.2.1 hw) hp

end Go.AM
