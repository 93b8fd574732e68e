/- AM: a contract at a small heap, used at a large one. -/
import Derived.Test.YtmbnakinhnkabaaAm18
namespace Go.AM
set_option linter.unusedVariables false
set_option linter.unusedSimpArgs false
variable {P : Program} {φ : Emb} {w : World}

def gId : List Nat → Nat → Nat → Nat
  | [], n, 0 => n
  | [], n, i + 1 => n + (i + 1)
  | j :: _, _, 0 => j
  | _ :: r, n, i + 1 => gId r n i

def mapA (g : Nat → Nat) (a : AA) : AA := ⟨g a.id, a.idx, a.off, a.sub⟩
def mapAL (g : Nat → Nat) : List AA → List AA
  | [] => []
  | a :: r => mapA g a :: mapAL g r
def mapC (g : Nat → Nat) : CV → CV
  | .ptr a => .ptr (mapA g a)
  | .slice a i n => .slice (mapA g a) i n
  | .map i => .map (g i)
  | .fn f a b => .fn f (mapAL g a) (mapAL g b)
  | .bool b => .bool b
  | .int k n => .int k n
  | .str s => .str s
  | .nilp => .nilp
  | .nils => .nils
  | .nilm => .nilm
  | .nilfn => .nilfn
  | .nilif => .nilif
  | .iface t k n => .iface t k n
def mapSeg (g : Nat → Nat) : Seg → Seg
  | .c v => .c (mapC g v)
  | .a n f => .a n (fun i => mapC g (f i))
def mapSegs (g : Nat → Nat) : List Seg → List Seg
  | [] => []
  | s :: r => mapSeg g s :: mapSegs g r
def mapV1 (g : Nat → Nat) : AV → AV
  | .bot => .bot
  | .c v => .c (mapC g v)
  | .agg l => .agg (mapSegs g l)
  | .tup _ => .bot
def mapVL (g : Nat → Nat) : List AV → List AV
  | [] => []
  | v :: r => mapV1 g v :: mapVL g r
def mapV (g : Nat → Nat) : AV → AV
  | .bot => .bot
  | .c v => .c (mapC g v)
  | .agg l => .agg (mapSegs g l)
  | .tup l => .tup (mapVL g l)
def mapB (g : Nat → Nat) (B : Blk) : Blk := ⟨B.str, B.sz, fun i => mapSegs g (B.row i), B.elem, B.wr⟩

def GOk (g : Nat → Nat) (φ ψ : Emb) : Prop := ∀ i p, φ i = some p → ψ (g i) = some p

theorem mapA_rel {g : Nat → Nat} {ψ : Emb} (hg : GOk g φ ψ) {a : AA} {x : Value} (r : relP φ a x) : relP ψ (mapA g a) x := by
  obtain ⟨p, hp, rfl⟩ := r
  exact ⟨p, hg _ _ hp, rfl⟩
theorem mapAL_rel {g : Nat → Nat} {ψ : Emb} (hg : GOk g φ ψ) : ∀ {a : List AA} {xs : List Value}, F2 (relP φ) a xs → F2 (relP ψ) (mapAL g a) xs
  | [], _, .nil => .nil
  | _ :: _, _, .cons h1 h2 => .cons (mapA_rel hg h1) (mapAL_rel hg h2)
theorem mapC_rel {g : Nat → Nat} {ψ : Emb} (hg : GOk g φ ψ) {v : CV} {x : Value} (r : rel φ v x) : rel ψ (mapC g v) x := by
  cases v with
  | ptr a => exact mapA_rel hg r
  | slice a i n =>
    obtain ⟨r, cap, e, hl, k⟩ := r
    exact ⟨r, cap, e, hl, k.imp id fun ⟨p, hp, e, k⟩ => ⟨p, hg _ _ hp, e, k⟩⟩
  | map i => obtain ⟨p, hp, k⟩ := r; exact ⟨p, hg _ _ hp, k⟩
  | fn f a b =>
    obtain ⟨l', m, e, k1, k2⟩ := r
    exact ⟨l', m, e, mapAL_rel hg k1, mapAL_rel hg k2⟩
  | _ => exact r
theorem mapSeg_flat (g : Nat → Nat) (s : Seg) : (mapSeg g s).flat = s.flat.map (mapC g) := by
  cases s <;> simp [mapSeg, Seg.flat]
theorem mapSegs_flat (g : Nat → Nat) : ∀ l, flat (mapSegs g l) = (flat l).map (mapC g)
  | [] => rfl
  | s :: r => by simp [mapSegs, flat, mapSeg_flat, mapSegs_flat g r]
theorem mapSegs_rel {g : Nat → Nat} {ψ : Emb} (hg : GOk g φ ψ) {l : List Seg} {xs : List Value} (r : F2 (rel φ) (flat l) xs) : F2 (rel ψ) (flat (mapSegs g l)) xs := by
  rw [mapSegs_flat, F2_map]
  exact r.mono fun _ _ => mapC_rel hg
theorem mapV1_rel {g : Nat → Nat} {ψ : Emb} (hg : GOk g φ ψ) {v : AV} {x : Value} (r : rel1 φ v x) : rel1 ψ (mapV1 g v) x := by
  cases v with
  | bot => trivial
  | c v => exact mapC_rel hg r
  | agg l => obtain ⟨cs, e, k⟩ := r; exact ⟨cs, e, mapSegs_rel hg k⟩
  | tup => exact r.elim
theorem mapVL_rel {g : Nat → Nat} {ψ : Emb} (hg : GOk g φ ψ) : ∀ {v : List AV} {xs : List Value}, F2 (rel1 φ) v xs → F2 (rel1 ψ) (mapVL g v) xs
  | [], _, .nil => .nil
  | _ :: _, _, .cons h1 h2 => .cons (mapV1_rel hg h1) (mapVL_rel hg h2)
theorem mapV_rel {g : Nat → Nat} {ψ : Emb} (hg : GOk g φ ψ) {v : AV} {x : Value} (r : relA φ v x) : relA ψ (mapV g v) x := by
  cases v with
  | bot => trivial
  | c v => exact mapC_rel hg r
  | agg l => obtain ⟨cs, e, k⟩ := r; exact ⟨cs, e, mapSegs_rel hg k⟩
  | tup l => obtain ⟨xs, e, k⟩ := r; exact ⟨xs, e, mapVL_rel hg k⟩
theorem mapB_rel {g : Nat → Nat} {ψ : Emb} (hg : GOk g φ ψ) {B : Blk} {p : Place} (r : BRel φ B p w) : BRel ψ (mapB g B) p w :=
  ⟨r.str, fun i hi => let ⟨xs, k1, k2, k3⟩ := r.rows i hi; ⟨xs, mapSegs_rel hg k1, k2, k3⟩, fun h => r.own h⟩

def memN (i : Nat) : List Nat → Bool
  | [] => false
  | j :: r => match Nat.beq i j with | true => true | false => memN i r
theorem memN_iff {i : Nat} : ∀ {l : List Nat}, memN i l = true ↔ i ∈ l
  | [] => by simp [memN]
  | j :: r => by
    simp only [memN, List.mem_cons]
    cases hb : Nat.beq i j with
    | true => simp [Nat.eq_of_beq_eq_true hb]
    | false =>
      have : i ≠ j := fun e => by subst e; rw [Nat.beq_refl] at hb; cases hb
      simp [this, memN_iff (l := r)]

def keepB (l : List Nat) (H0 : List (Nat × Blk)) (i : Nat) (B : Blk) : Bool :=
  match B.wr with
  | false => false
  | true => match nthO l i with
    | none => true
    | some _ => match getB H0 i with
      | some C => C.wr
      | none => false
def newB (g : Nat → Nat) (l : List Nat) (H0 : List (Nat × Blk)) : List Nat → List (Nat × Blk) → List (Nat × Blk)
  | _, [] => []
  | seen, (i, B) :: r => match memN i seen with
    | true => newB g l H0 seen r
    | false => (match keepB l H0 i B with
      | true => (g i, mapB g B) :: newB g l H0 (i :: seen) r
      | false => newB g l H0 (i :: seen) r)
def goneB (l : List Nat) : List (Nat × Blk) → Nat → Bool
  | [], _ => false
  | (i, C) :: r, k => match C.wr with
    | false => goneB l r k
    | true => match nthO l i with
      | some j => (match Nat.beq j k with | true => true | false => goneB l r k)
      | none => goneB l r k
def dropB (l : List Nat) (H0 : List (Nat × Blk)) : List (Nat × Blk) → List (Nat × Blk)
  | [] => []
  | (k, B) :: r => match goneB l H0 k with
    | true => dropB l H0 r
    | false => (k, B) :: dropB l H0 r
def appB : List (Nat × Blk) → List (Nat × Blk) → List (Nat × Blk)
  | [], b => b
  | x :: a, b => x :: appB a b
def framed (H0 H : Heap) (l : List Nat) (H0' : Heap) : Heap :=
  ⟨gId l H.next H0'.next, appB (newB (gId l H.next) l H0.blks [] H0'.blks) (dropB l H0.blks H.blks)⟩

theorem newB_get {g : Nat → Nat} {l : List Nat} {H0 : List (Nat × Blk)} : ∀ {L : List (Nat × Blk)} {seen : List Nat} {k : Nat} {B' : Blk}, getB (newB g l H0 seen L) k = some B' → ∃ i B, i ∉ seen ∧ getB L i = some B ∧ k = g i ∧ B' = mapB g B ∧ keepB l H0 i B = true
  | [], _, _, _, h => by simp [newB, getB] at h
  | (i, B) :: r, seen, k, B', h => by
    simp only [newB] at h
    cases hm : memN i seen with
    | true =>
      rw [hm] at h
      obtain ⟨i', C, h1, h2, h3⟩ := newB_get h
      have : i' ≠ i := fun e => h1 (by rw [e]; exact memN_iff.1 hm)
      exact ⟨i', C, h1, by rw [getB_cons_ne this]; exact h2, h3⟩
    | false =>
      have hns : i ∉ seen := fun e => by rw [memN_iff.2 e] at hm; cases hm
      rw [hm] at h
      simp only at h
      have hrec : getB (newB g l H0 (i :: seen) r) k = some B' → ∃ i' C, i' ∉ seen ∧ getB ((i, B) :: r) i' = some C ∧ k = g i' ∧ B' = mapB g C ∧ keepB l H0 i' C = true := fun h => by
        obtain ⟨i', C, h1, h2, h3⟩ := newB_get h
        simp only [List.mem_cons, not_or] at h1
        exact ⟨i', C, h1.2, by rw [getB_cons_ne h1.1]; exact h2, h3⟩
      cases hk : keepB l H0 i B with
      | false => rw [hk] at h; exact hrec h
      | true =>
        rw [hk] at h
        simp only at h
        by_cases hki : k = g i
        · subst hki
          rw [getB_cons_self] at h
          cases h
          exact ⟨i, B, hns, getB_cons_self _ _ _, rfl, rfl, hk⟩
        · rw [getB_cons_ne hki] at h
          exact hrec h

theorem dropB_get {l : List Nat} {H0 : List (Nat × Blk)} : ∀ {L : List (Nat × Blk)} {k : Nat} {B : Blk}, getB (dropB l H0 L) k = some B → getB L k = some B ∧ goneB l H0 k = false
  | [], _, _, h => by simp [dropB, getB] at h
  | (j, C) :: r, k, B, h => by
    simp only [dropB] at h
    cases hg : goneB l H0 j with
    | true =>
      rw [hg] at h
      obtain ⟨h1, h2⟩ := dropB_get h
      have : k ≠ j := fun e => by rw [e, hg] at h2; cases h2
      exact ⟨by rw [getB_cons_ne this]; exact h1, h2⟩
    | false =>
      rw [hg] at h
      simp only at h
      by_cases hk : k = j
      · subst hk
        rw [getB_cons_self] at h ⊢
        exact ⟨h, hg⟩
      · rw [getB_cons_ne hk] at h ⊢
        exact dropB_get h

theorem goneB_no {l : List Nat} : ∀ {H0 : List (Nat × Blk)} {k : Nat}, goneB l H0 k = false → ∀ {i C j}, getB H0 i = some C → C.wr = true → nthO l i = some j → j ≠ k
  | [], _, _, _, _, _, h, _, _ => by simp [getB] at h
  | (m, D) :: r, k, hg, i, C, j, h, hw, hj => by
    by_cases hi : i = m
    · subst hi
      rw [getB_cons_self] at h
      cases h
      simp only [goneB, hw, hj] at hg
      intro e
      subst e
      rw [Nat.beq_refl] at hg
      cases hg
    · rw [getB_cons_ne hi] at h
      refine goneB_no (l := l) (H0 := r) ?_ h hw hj
      simp only [goneB] at hg
      split at hg
      · exact hg
      · split at hg
        · split at hg
          · cases hg
          · exact hg
        · exact hg

theorem getB_appB {a b : List (Nat × Blk)} {k : Nat} {B : Blk} (h : getB (appB a b) k = some B) : getB a k = some B ∨ (getB a k = none ∧ getB b k = some B) := by
  induction a with
  | nil => exact .inr ⟨rfl, h⟩
  | cons x r ih =>
    obtain ⟨i, C⟩ := x
    simp only [appB] at h
    by_cases hk : k = i
    · subst hk; rw [getB_cons_self] at h ⊢; exact .inl h
    · rw [getB_cons_ne hk] at h ⊢; exact ih h

def leArgs (l : List Nat) : List AV → List AV → Prop
  | [], [] => True
  | v :: r, v' :: r' => leV l v v' ∧ leArgs l r r'
  | _, _ => False
theorem leArgs_rel {l : List Nat} : ∀ {v v' : List AV} (h : leArgs l v v') {xs : List Value} (r : F2 (relA φ) v xs), F2 (relA (ren φ l)) v' xs
  | [], [], _, _, .nil => .nil
  | _ :: _, _ :: _, h, _, .cons h1 h2 => .cons (leV_rel h.1 h1) (leArgs_rel h.2 h2)

def allLt (l : List Nat) (n : Nat) : Prop := match l with
  | [] => True
  | j :: r => j < n ∧ allLt r n
theorem allLt_get : ∀ {l : List Nat} {n : Nat}, allLt l n → ∀ {i j}, nthO l i = some j → j < n
  | [], _, _, _, _, h => by simp [nthO] at h
  | _ :: _, _, h, 0, _, hj => by simp only [nthO, Option.some.injEq] at hj; subst hj; exact h.1
  | _ :: r, _, h, i + 1, _, hj => allLt_get h.2 (by simpa [nthO] using hj)
def keysLt (l : List (Nat × Blk)) (n : Nat) : Prop := match l with
  | [] => True
  | (j, _) :: r => j < n ∧ keysLt r n
theorem keysLt_get : ∀ {l : List (Nat × Blk)} {n : Nat}, keysLt l n → ∀ {i B}, getB l i = some B → i < n
  | [], _, _, _, _, h => by simp [getB] at h
  | (j, C) :: r, n, h, i, B, hB => by
    by_cases hi : i = j
    · subst hi; exact h.1
    · rw [getB_cons_ne hi] at hB; exact keysLt_get h.2 hB

theorem gId_lo {n : Nat} : ∀ {l : List Nat} {i j : Nat}, nthO l i = some j → gId l n i = j
  | [], _, _, h => by simp [nthO] at h
  | _ :: _, 0, _, h => by simp only [nthO, Option.some.injEq] at h; subst h; rfl
  | _ :: r, i + 1, j, h => by simp only [gId]; exact gId_lo (by simpa [nthO] using h)
theorem gId_hi {n : Nat} : ∀ {l : List Nat} {i : Nat}, l.length ≤ i → gId l n i = n + (i - l.length)
  | [], 0, _ => rfl
  | [], i + 1, _ => rfl
  | _ :: r, 0, h => by simp at h
  | _ :: r, i + 1, h => by simp only [gId]; rw [gId_hi (by simpa using h)]; simp

set_option maxHeartbeats 1000000 in
theorem Con.frame {f : FuncId} {args0 args : List AV} {H0 H : Heap} {R0 : Post} (h : Con P f args0 H0 R0) (l : List Nat) (hl : H0.next = l.length) (hd : diff l) (hlt : allLt l H.next) (hkl : keysLt H.blks H.next) (hb : leBlks l H.blks H0.blks) (ha : leArgs l args args0) :
    Con P f args H (fun v H' => ∃ v0 H0', R0 v0 H0' ∧ v = mapV (gId l H.next) v0 ∧ H' = framed H0 H l H0') := by
  refine ⟨h.1, fun φ w xs hF hH => ?_⟩
  refine (h.2 (AM.ren φ l) w xs (leArgs_rel ha hF) (hH.ren hd hl hb)).mono fun e w' ⟨φ0', v0, x, H0', he, hR, hv, hh, hfr⟩ => ?_
  subst he
  let ψ : Emb := fun k => if k < H.next then φ k else φ0' (l.length + (k - H.next))
  have hnx := hfr.nx
  have hψlo : ∀ k, k < H.next → ψ k = φ k := fun k hk => if_pos hk
  have hψhi : ∀ k, ¬ k < H.next → ψ k = φ0' (l.length + (k - H.next)) := fun k hk => if_neg hk
  have hle : φ.le ψ := fun i p hp => by
    by_cases hi : i < H.next
    · rw [hψlo i hi]; exact hp
    · rw [hH.fresh i (by omega)] at hp; cases hp
  have hgl : ∀ i, ψ (gId l H.next i) = φ0' i := fun i => by
    by_cases hi : i < l.length
    · obtain ⟨j, hj⟩ := nthO_get hi
      rw [gId_lo hj, hψlo j (allLt_get hlt hj), hfr.same i (by omega), ren_of hj]
    · rw [gId_hi (by omega), hψhi _ (by omega), show l.length + (H.next + (i - l.length) - H.next) = i by omega]
  have hg : GOk (gId l H.next) φ0' ψ := fun i p hp => by rw [hgl]; exact hp
  have hw0 : ∀ i C q, getB H0.blks i = some C → C.wr = true → AM.ren φ l i = some q → ∃ j D, nthO l i = some j ∧ φ j = some q ∧ getB H.blks j = some D ∧ D.wr = true := fun i C q hC hw hq => by
    obtain ⟨j, hj, hq⟩ := ren_some hq
    obtain ⟨D, hD, hle⟩ := leBlks_get hb hC hj
    exact ⟨j, D, hj, hq, hD, hle.2.2.1 hw⟩
  have hold : ∀ k B p, getB H.blks k = some B → goneB l H0.blks k = false → φ k = some p → w'.heap[p.blk]? = w.heap[p.blk]? := fun k B p hB hgn hp => by
    refine hfr.old _ (hH.lt k p hp) fun i C q hC hw hq => ?_
    obtain ⟨j, D, hj, hq, hD, hDw⟩ := hw0 i C q hC hw hq
    exact hH.inj j k D B q p hD hB hq hp (goneB_no hgn hC hw hj) hDw
  have hcase : ∀ k B p, getB (framed H0 H l H0').blks k = some B → ψ k = some p → (∃ i B0, getB H0'.blks i = some B0 ∧ φ0' i = some p ∧ k = gId l H.next i ∧ B = mapB (gId l H.next) B0 ∧ B0.wr = true) ∨ (getB H.blks k = some B ∧ goneB l H0.blks k = false ∧ φ k = some p) := fun k B p hB hp => by
    rcases getB_appB hB with hB | ⟨_, hB⟩
    · obtain ⟨i, B0, _, h2, h3, h4, h5⟩ := newB_get hB
      refine .inl ⟨i, B0, h2, by rw [← hgl, ← h3]; exact hp, h3, h4, ?_⟩
      unfold keepB at h5
      cases hw : B0.wr with
      | true => rfl
      | false => rw [hw] at h5; cases h5
    · obtain ⟨h1, h2⟩ := dropB_get hB
      exact .inr ⟨h1, h2, by rw [← hψlo k (keysLt_get hkl h1)]; exact hp⟩
  have hapart : ∀ i B0 p k C q, getB H0'.blks i = some B0 → φ0' i = some p → B0.wr = true → getB H.blks k = some C → goneB l H0.blks k = false → φ k = some q → p.blk ≠ q.blk := fun i B0 p k C q h1 h2 h3 g1 g2 g3 => by
    rcases hfr.own i B0 p h1 h3 h2 with hw | ⟨j, D, r, k1, k2, k3, k4⟩
    · have := hH.lt k q g3; omega
    · obtain ⟨m, E, hm, hr, hE, hEw⟩ := hw0 j D r k1 k2 k3
      rw [← k4]
      exact hH.inj m k E C r q hE g1 hr g3 (goneB_no g2 k1 k2 hm) hEw
  have hnext : (framed H0 H l H0').next = H.next + (H0'.next - l.length) := by
    simp only [framed]
    exact gId_hi (by omega)
  refine ⟨ψ, mapV (gId l H.next) v0, x, framed H0 H l H0', rfl, ⟨v0, H0', hR, rfl, rfl⟩, mapV_rel hg hv, ⟨fun k B p hB hp => ?_, fun k m B C p q hB hC hp hq hne hw => ?_, fun k hk => ?_, fun k p hp => ?_⟩, ⟨hle, fun i hi => hψlo i hi, by omega, hfr.size, hfr.os, hfr.tape, hfr.output, fun b hb' hno => ?_, fun k B p hB hw hp => ?_⟩⟩
  · rcases hcase k B p hB hp with ⟨i, B0, h1, h2, h3, rfl, h5⟩ | ⟨h1, h2, h3⟩
    · exact mapB_rel hg (hh.blk i B0 p h1 h2)
    · have hbk := hH.blk k B p h1 h3
      have ho := hold k B p h1 h2 h3
      refine ⟨hbk.str, fun i hi => ?_, fun hw => ?_⟩
      · obtain ⟨xs, k1, k2, k3⟩ := hbk.rows i hi
        refine ⟨xs, k1.mono fun _ _ => rel_mono hle, k2, fun j x hx => ?_⟩
        have := k3 j x hx
        unfold World.cell? at this ⊢
        rw [ho]
        exact this
      · obtain ⟨e1, e2, e3, cs, e4, e5⟩ := hbk.own hw
        exact ⟨e1, e2, e3, cs, by rw [ho]; exact e4, e5⟩
  · rcases hcase k B p hB hp with ⟨i, B0, h1, h2, h3, _, h5⟩ | ⟨h1, h2, h3⟩ <;> rcases hcase m C q hC hq with ⟨i', B0', g1, g2, g3, _, g5⟩ | ⟨g1, g2, g3⟩
    · exact hh.inj i i' B0 B0' p q h1 g1 h2 g2 (fun e => hne (by rw [h3, g3, e])) h5
    · exact hapart i B0 p m C q h1 h2 h5 g1 g2 g3
    · exact (hapart i' B0' q k B p g1 g2 g5 h1 h2 h3).symm
    · exact hH.inj k m B C p q h1 g1 h3 g3 hne hw
  · rw [hnext] at hk
    rw [hψhi k (by omega)]
    exact hh.fresh _ (by omega)
  · by_cases hk : k < H.next
    · rw [hψlo k hk] at hp
      exact Nat.lt_of_lt_of_le (hH.lt k p hp) hfr.size
    · rw [hψhi k hk] at hp
      exact hh.lt _ p hp
  · refine hfr.old b hb' fun i C q hC hw hq => ?_
    obtain ⟨j, D, _, hq, hD, hDw⟩ := hw0 i C q hC hw hq
    exact hno j D q hD hDw hq
  · rcases hcase k B p hB hp with ⟨i, B0, h1, h2, h3, _, h5⟩ | ⟨h1, h2, h3⟩
    · rcases hfr.own i B0 p h1 h5 h2 with hw' | ⟨j, D, r, k1, k2, k3, k4⟩
      · exact .inl hw'
      · obtain ⟨m, E, _, hr, hE, hEw⟩ := hw0 j D r k1 k2 k3
        exact .inr ⟨m, E, r, hE, hEw, hr, k4⟩
    · exact .inr ⟨k, B, p, h1, hw, h3, rfl⟩

theorem Con.weaken {f : FuncId} {args : List AV} {H : Heap} {R R' : Post} (h : Con P f args H R) (hR : ∀ v H', R v H' → R' v H') : Con P f args H R' :=
  ⟨h.1, fun φ w xs hF hH => (h.2 φ w xs hF hH).mono fun e w' ⟨φ', v, x, H', he, hr, k⟩ => ⟨φ', v, x, H', he, hR v H' hr, k⟩⟩

end Go.AM
