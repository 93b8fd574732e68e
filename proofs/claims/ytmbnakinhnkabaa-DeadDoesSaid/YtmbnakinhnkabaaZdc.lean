/- Parts of the proof of deadDoes_holds, joined and cut by a program: Am19, Am20, Am21, Am22, Da, Db, Dc, Dd, De, Df, Dg, Dh, Di, Dj, AmJ. No condition. -/
import Derived.Test.YtmbnakinhnkabaaZdb
namespace Go.AM
set_option linter.unusedVariables false
set_option linter.unusedSimpArgs false
variable {P : Program} {φ : Emb} {w : World}

def gId : List Nat → Nat → Nat → Nat
  | [], n, 0 => n
  | [], n, i + 1 => n + (i + 1)
  | j :: _, _, 0 => j
  | _ :: r, n, i + 1 => gId r n i

def mapA (g : Nat → Nat) (a : AA) : AA := ⟨g a.id, a.idx, a.off, a.sub⟩
def mapAL (g : Nat → Nat) : List AA → List AA
  | [] => []
  | a :: r => mapA g a :: mapAL g r
def mapC (g : Nat → Nat) : CV → CV
  | .ptr a => .ptr (mapA g a)
  | .slice a i n => .slice (mapA g a) i n
  | .map i => .map (g i)
  | .fn f a b => .fn f (mapAL g a) (mapAL g b)
  | .bool b => .bool b
  | .int k n => .int k n
  | .str s => .str s
  | .nilp => .nilp
  | .nils => .nils
  | .nilm => .nilm
  | .nilfn => .nilfn
  | .nilif => .nilif
  | .iface t k n => .iface t k n
def mapSeg (g : Nat → Nat) : Seg → Seg
  | .c v => .c (mapC g v)
  | .a n f => .a n (fun i => mapC g (f i))
def mapSegs (g : Nat → Nat) : List Seg → List Seg
  | [] => []
  | s :: r => mapSeg g s :: mapSegs g r
def mapV1 (g : Nat → Nat) : AV → AV
  | .bot => .bot
  | .c v => .c (mapC g v)
  | .agg l => .agg (mapSegs g l)
  | .tup _ => .bot
def mapVL (g : Nat → Nat) : List AV → List AV
  | [] => []
  | v :: r => mapV1 g v :: mapVL g r
def mapV (g : Nat → Nat) : AV → AV
  | .bot => .bot
  | .c v => .c (mapC g v)
  | .agg l => .agg (mapSegs g l)
  | .tup l => .tup (mapVL g l)
def mapB (g : Nat → Nat) (B : Blk) : Blk := ⟨B.str, B.sz, fun i => mapSegs g (B.row i), B.elem, B.wr⟩

def GOk (g : Nat → Nat) (φ ψ : Emb) : Prop := ∀ i p, φ i = some p → ψ (g i) = some p

theorem mapA_rel {g : Nat → Nat} {ψ : Emb} (hg : GOk g φ ψ) {a : AA} {x : Value} (r : relP φ a x) : relP ψ (mapA g a) x := by
  obtain ⟨p, hp, rfl⟩ := r
  exact ⟨p, hg _ _ hp, rfl⟩
theorem mapAL_rel {g : Nat → Nat} {ψ : Emb} (hg : GOk g φ ψ) : ∀ {a : List AA} {xs : List Value}, F2 (relP φ) a xs → F2 (relP ψ) (mapAL g a) xs
  | [], _, .nil => .nil
  | _ :: _, _, .cons h1 h2 => .cons (mapA_rel hg h1) (mapAL_rel hg h2)
theorem mapC_rel {g : Nat → Nat} {ψ : Emb} (hg : GOk g φ ψ) {v : CV} {x : Value} (r : rel φ v x) : rel ψ (mapC g v) x := by
  cases v with
  | ptr a => exact mapA_rel hg r
  | slice a i n =>
    obtain ⟨r, cap, e, hl, k⟩ := r
    exact ⟨r, cap, e, hl, k.imp id fun ⟨p, hp, e, k⟩ => ⟨p, hg _ _ hp, e, k⟩⟩
  | map i => obtain ⟨p, hp, k⟩ := r; exact ⟨p, hg _ _ hp, k⟩
  | fn f a b =>
    obtain ⟨l', m, e, k1, k2⟩ := r
    exact ⟨l', m, e, mapAL_rel hg k1, mapAL_rel hg k2⟩
  | _ => exact r
theorem mapSeg_flat (g : Nat → Nat) (s : Seg) : (mapSeg g s).flat = s.flat.map (mapC g) := by
  cases s <;> simp [mapSeg, Seg.flat]
theorem mapSegs_flat (g : Nat → Nat) : ∀ l, flat (mapSegs g l) = (flat l).map (mapC g)
  | [] => rfl
  | s :: r => by simp [mapSegs, flat, mapSeg_flat, mapSegs_flat g r]
theorem mapSegs_rel {g : Nat → Nat} {ψ : Emb} (hg : GOk g φ ψ) {l : List Seg} {xs : List Value} (r : F2 (rel φ) (flat l) xs) : F2 (rel ψ) (flat (mapSegs g l)) xs := by
  rw [mapSegs_flat, F2_map]
  exact r.mono fun _ _ => mapC_rel hg
theorem mapV1_rel {g : Nat → Nat} {ψ : Emb} (hg : GOk g φ ψ) {v : AV} {x : Value} (r : rel1 φ v x) : rel1 ψ (mapV1 g v) x := by
  cases v with
  | bot => trivial
  | c v => exact mapC_rel hg r
  | agg l => obtain ⟨cs, e, k⟩ := r; exact ⟨cs, e, mapSegs_rel hg k⟩
  | tup => exact r.elim
theorem mapVL_rel {g : Nat → Nat} {ψ : Emb} (hg : GOk g φ ψ) : ∀ {v : List AV} {xs : List Value}, F2 (rel1 φ) v xs → F2 (rel1 ψ) (mapVL g v) xs
  | [], _, .nil => .nil
  | _ :: _, _, .cons h1 h2 => .cons (mapV1_rel hg h1) (mapVL_rel hg h2)
theorem mapV_rel {g : Nat → Nat} {ψ : Emb} (hg : GOk g φ ψ) {v : AV} {x : Value} (r : relA φ v x) : relA ψ (mapV g v) x := by
  cases v with
  | bot => trivial
  | c v => exact mapC_rel hg r
  | agg l => obtain ⟨cs, e, k⟩ := r; exact ⟨cs, e, mapSegs_rel hg k⟩
  | tup l => obtain ⟨xs, e, k⟩ := r; exact ⟨xs, e, mapVL_rel hg k⟩
theorem mapB_rel {g : Nat → Nat} {ψ : Emb} (hg : GOk g φ ψ) {B : Blk} {p : Place} (r : BRel φ B p w) : BRel ψ (mapB g B) p w :=
  ⟨r.str, fun i hi => let ⟨xs, k1, k2, k3⟩ := r.rows i hi; ⟨xs, mapSegs_rel hg k1, k2, k3⟩, fun h => r.own h⟩

def memN (i : Nat) : List Nat → Bool
  | [] => false
  | j :: r => match Nat.beq i j with | true => true | false => memN i r
theorem memN_iff {i : Nat} : ∀ {l : List Nat}, memN i l = true ↔ i ∈ l
  | [] => by simp [memN]
  | j :: r => by
    simp only [memN, List.mem_cons]
    cases hb : Nat.beq i j with
    | true => simp [Nat.eq_of_beq_eq_true hb]
    | false =>
      have : i ≠ j := fun e => by subst e; rw [Nat.beq_refl] at hb; cases hb
      simp [this, memN_iff (l := r)]

def keepB (l : List Nat) (H0 : List (Nat × Blk)) (i : Nat) (B : Blk) : Bool :=
  match B.wr with
  | false => false
  | true => match nthO l i with
    | none => true
    | some _ => match getB H0 i with
      | some C => C.wr
      | none => false
def newB (g : Nat → Nat) (l : List Nat) (H0 : List (Nat × Blk)) : List Nat → List (Nat × Blk) → List (Nat × Blk)
  | _, [] => []
  | seen, (i, B) :: r => match memN i seen with
    | true => newB g l H0 seen r
    | false => (match keepB l H0 i B with
      | true => (g i, mapB g B) :: newB g l H0 (i :: seen) r
      | false => newB g l H0 (i :: seen) r)
def goneB (l : List Nat) : List (Nat × Blk) → Nat → Bool
  | [], _ => false
  | (i, C) :: r, k => match C.wr with
    | false => goneB l r k
    | true => match nthO l i with
      | some j => (match Nat.beq j k with | true => true | false => goneB l r k)
      | none => goneB l r k
def dropB (l : List Nat) (H0 : List (Nat × Blk)) : List (Nat × Blk) → List (Nat × Blk)
  | [] => []
  | (k, B) :: r => match goneB l H0 k with
    | true => dropB l H0 r
    | false => (k, B) :: dropB l H0 r
def appB : List (Nat × Blk) → List (Nat × Blk) → List (Nat × Blk)
  | [], b => b
  | x :: a, b => x :: appB a b
def framed (H0 H : Heap) (l : List Nat) (H0' : Heap) : Heap :=
  ⟨gId l H.next H0'.next, appB (newB (gId l H.next) l H0.blks [] H0'.blks) (dropB l H0.blks H.blks)⟩

theorem newB_get {g : Nat → Nat} {l : List Nat} {H0 : List (Nat × Blk)} : ∀ {L : List (Nat × Blk)} {seen : List Nat} {k : Nat} {B' : Blk}, getB (newB g l H0 seen L) k = some B' → ∃ i B, i ∉ seen ∧ getB L i = some B ∧ k = g i ∧ B' = mapB g B ∧ keepB l H0 i B = true
  | [], _, _, _, h => by simp [newB, getB] at h
  | (i, B) :: r, seen, k, B', h => by
    simp only [newB] at h
    cases hm : memN i seen with
    | true =>
      rw [hm] at h
      obtain ⟨i', C, h1, h2, h3⟩ := newB_get h
      have : i' ≠ i := fun e => h1 (by rw [e]; exact memN_iff.1 hm)
      exact ⟨i', C, h1, by rw [getB_cons_ne this]; exact h2, h3⟩
    | false =>
      have hns : i ∉ seen := fun e => by rw [memN_iff.2 e] at hm; cases hm
      rw [hm] at h
      simp only at h
      have hrec : getB (newB g l H0 (i :: seen) r) k = some B' → ∃ i' C, i' ∉ seen ∧ getB ((i, B) :: r) i' = some C ∧ k = g i' ∧ B' = mapB g C ∧ keepB l H0 i' C = true := fun h => by
        obtain ⟨i', C, h1, h2, h3⟩ := newB_get h
        simp only [List.mem_cons, not_or] at h1
        exact ⟨i', C, h1.2, by rw [getB_cons_ne h1.1]; exact h2, h3⟩
      cases hk : keepB l H0 i B with
      | false => rw [hk] at h; exact hrec h
      | true =>
        rw [hk] at h
        simp only at h
        by_cases hki : k = g i
        · subst hki
          rw [getB_cons_self] at h
          cases h
          exact ⟨i, B, hns, getB_cons_self _ _ _, rfl, rfl, hk⟩
        · rw [getB_cons_ne hki] at h
          exact hrec h

theorem dropB_get {l : List Nat} {H0 : List (Nat × Blk)} : ∀ {L : List (Nat × Blk)} {k : Nat} {B : Blk}, getB (dropB l H0 L) k = some B → getB L k = some B ∧ goneB l H0 k = false
  | [], _, _, h => by simp [dropB, getB] at h
  | (j, C) :: r, k, B, h => by
    simp only [dropB] at h
    cases hg : goneB l H0 j with
    | true =>
      rw [hg] at h
      obtain ⟨h1, h2⟩ := dropB_get h
      have : k ≠ j := fun e => by rw [e, hg] at h2; cases h2
      exact ⟨by rw [getB_cons_ne this]; exact h1, h2⟩
    | false =>
      rw [hg] at h
      simp only at h
      by_cases hk : k = j
      · subst hk
        rw [getB_cons_self] at h ⊢
        exact ⟨h, hg⟩
      · rw [getB_cons_ne hk] at h ⊢
        exact dropB_get h

theorem goneB_no {l : List Nat} : ∀ {H0 : List (Nat × Blk)} {k : Nat}, goneB l H0 k = false → ∀ {i C j}, getB H0 i = some C → C.wr = true → nthO l i = some j → j ≠ k
  | [], _, _, _, _, _, h, _, _ => by simp [getB] at h
  | (m, D) :: r, k, hg, i, C, j, h, hw, hj => by
    by_cases hi : i = m
    · subst hi
      rw [getB_cons_self] at h
      cases h
      simp only [goneB, hw, hj] at hg
      intro e
      subst e
      rw [Nat.beq_refl] at hg
      cases hg
    · rw [getB_cons_ne hi] at h
      refine goneB_no (l := l) (H0 := r) ?_ h hw hj
      simp only [goneB] at hg
      split at hg
      · exact hg
      · split at hg
        · split at hg
          · cases hg
          · exact hg
        · exact hg

theorem getB_appB {a b : List (Nat × Blk)} {k : Nat} {B : Blk} (h : getB (appB a b) k = some B) : getB a k = some B ∨ (getB a k = none ∧ getB b k = some B) := by
  induction a with
  | nil => exact .inr ⟨rfl, h⟩
  | cons x r ih =>
    obtain ⟨i, C⟩ := x
    simp only [appB] at h
    by_cases hk : k = i
    · subst hk; rw [getB_cons_self] at h ⊢; exact .inl h
    · rw [getB_cons_ne hk] at h ⊢; exact ih h

def leArgs (l : List Nat) : List AV → List AV → Prop
  | [], [] => True
  | v :: r, v' :: r' => leV l v v' ∧ leArgs l r r'
  | _, _ => False
theorem leArgs_rel {l : List Nat} : ∀ {v v' : List AV} (h : leArgs l v v') {xs : List Value} (r : F2 (relA φ) v xs), F2 (relA (ren φ l)) v' xs
  | [], [], _, _, .nil => .nil
  | _ :: _, _ :: _, h, _, .cons h1 h2 => .cons (leV_rel h.1 h1) (leArgs_rel h.2 h2)

def allLt (l : List Nat) (n : Nat) : Prop := match l with
  | [] => True
  | j :: r => j < n ∧ allLt r n
theorem allLt_get : ∀ {l : List Nat} {n : Nat}, allLt l n → ∀ {i j}, nthO l i = some j → j < n
  | [], _, _, _, _, h => by simp [nthO] at h
  | _ :: _, _, h, 0, _, hj => by simp only [nthO, Option.some.injEq] at hj; subst hj; exact h.1
  | _ :: r, _, h, i + 1, _, hj => allLt_get h.2 (by simpa [nthO] using hj)
def keysLt (l : List (Nat × Blk)) (n : Nat) : Prop := match l with
  | [] => True
  | (j, _) :: r => j < n ∧ keysLt r n
theorem keysLt_get : ∀ {l : List (Nat × Blk)} {n : Nat}, keysLt l n → ∀ {i B}, getB l i = some B → i < n
  | [], _, _, _, _, h => by simp [getB] at h
  | (j, C) :: r, n, h, i, B, hB => by
    by_cases hi : i = j
    · subst hi; exact h.1
    · rw [getB_cons_ne hi] at hB; exact keysLt_get h.2 hB

theorem gId_lo {n : Nat} : ∀ {l : List Nat} {i j : Nat}, nthO l i = some j → gId l n i = j
  | [], _, _, h => by simp [nthO] at h
  | _ :: _, 0, _, h => by simp only [nthO, Option.some.injEq] at h; subst h; rfl
  | _ :: r, i + 1, j, h => by simp only [gId]; exact gId_lo (by simpa [nthO] using h)
theorem gId_hi {n : Nat} : ∀ {l : List Nat} {i : Nat}, l.length ≤ i → gId l n i = n + (i - l.length)
  | [], 0, _ => rfl
  | [], i + 1, _ => rfl
  | _ :: r, 0, h => by simp at h
  | _ :: r, i + 1, h => by simp only [gId]; rw [gId_hi (by simpa using h)]; simp

set_option maxHeartbeats 1000000 in
theorem Con.frame {f : FuncId} {args0 args : List AV} {H0 H : Heap} {R0 : Post} (h : Con P f args0 H0 R0) (l : List Nat) (hl : H0.next = l.length) (hd : diff l) (hlt : allLt l H.next) (hkl : keysLt H.blks H.next) (hb : leBlks l H.blks H0.blks) (ha : leArgs l args args0) :
    Con P f args H (fun v H' => ∃ v0 H0', R0 v0 H0' ∧ v = mapV (gId l H.next) v0 ∧ H' = framed H0 H l H0') := by
  refine ⟨h.1, fun φ w xs hF hH => ?_⟩
  refine (h.2 (AM.ren φ l) w xs (leArgs_rel ha hF) (hH.ren hd hl hb)).mono fun e w' ⟨φ0', v0, x, H0', he, hR, hv, hh, hfr⟩ => ?_
  subst he
  let ψ : Emb := fun k => if k < H.next then φ k else φ0' (l.length + (k - H.next))
  have hnx := hfr.nx
  have hψlo : ∀ k, k < H.next → ψ k = φ k := fun k hk => if_pos hk
  have hψhi : ∀ k, ¬ k < H.next → ψ k = φ0' (l.length + (k - H.next)) := fun k hk => if_neg hk
  have hle : φ.le ψ := fun i p hp => by
    by_cases hi : i < H.next
    · rw [hψlo i hi]; exact hp
    · rw [hH.fresh i (by omega)] at hp; cases hp
  have hgl : ∀ i, ψ (gId l H.next i) = φ0' i := fun i => by
    by_cases hi : i < l.length
    · obtain ⟨j, hj⟩ := nthO_get hi
      rw [gId_lo hj, hψlo j (allLt_get hlt hj), hfr.same i (by omega), ren_of hj]
    · rw [gId_hi (by omega), hψhi _ (by omega), show l.length + (H.next + (i - l.length) - H.next) = i by omega]
  have hg : GOk (gId l H.next) φ0' ψ := fun i p hp => by rw [hgl]; exact hp
  have hw0 : ∀ i C q, getB H0.blks i = some C → C.wr = true → AM.ren φ l i = some q → ∃ j D, nthO l i = some j ∧ φ j = some q ∧ getB H.blks j = some D ∧ D.wr = true := fun i C q hC hw hq => by
    obtain ⟨j, hj, hq⟩ := ren_some hq
    obtain ⟨D, hD, hle⟩ := leBlks_get hb hC hj
    exact ⟨j, D, hj, hq, hD, hle.2.2.1 hw⟩
  have hold : ∀ k B p, getB H.blks k = some B → goneB l H0.blks k = false → φ k = some p → w'.heap[p.blk]? = w.heap[p.blk]? := fun k B p hB hgn hp => by
    refine hfr.old _ (hH.lt k p hp) fun i C q hC hw hq => ?_
    obtain ⟨j, D, hj, hq, hD, hDw⟩ := hw0 i C q hC hw hq
    exact hH.inj j k D B q p hD hB hq hp (goneB_no hgn hC hw hj) hDw
  have hcase : ∀ k B p, getB (framed H0 H l H0').blks k = some B → ψ k = some p → (∃ i B0, getB H0'.blks i = some B0 ∧ φ0' i = some p ∧ k = gId l H.next i ∧ B = mapB (gId l H.next) B0 ∧ B0.wr = true) ∨ (getB H.blks k = some B ∧ goneB l H0.blks k = false ∧ φ k = some p) := fun k B p hB hp => by
    rcases getB_appB hB with hB | ⟨_, hB⟩
    · obtain ⟨i, B0, _, h2, h3, h4, h5⟩ := newB_get hB
      refine .inl ⟨i, B0, h2, by rw [← hgl, ← h3]; exact hp, h3, h4, ?_⟩
      unfold keepB at h5
      cases hw : B0.wr with
      | true => rfl
      | false => rw [hw] at h5; cases h5
    · obtain ⟨h1, h2⟩ := dropB_get hB
      exact .inr ⟨h1, h2, by rw [← hψlo k (keysLt_get hkl h1)]; exact hp⟩
  have hapart : ∀ i B0 p k C q, getB H0'.blks i = some B0 → φ0' i = some p → B0.wr = true → getB H.blks k = some C → goneB l H0.blks k = false → φ k = some q → p.blk ≠ q.blk := fun i B0 p k C q h1 h2 h3 g1 g2 g3 => by
    rcases hfr.own i B0 p h1 h3 h2 with hw | ⟨j, D, r, k1, k2, k3, k4⟩
    · have := hH.lt k q g3; omega
    · obtain ⟨m, E, hm, hr, hE, hEw⟩ := hw0 j D r k1 k2 k3
      rw [← k4]
      exact hH.inj m k E C r q hE g1 hr g3 (goneB_no g2 k1 k2 hm) hEw
  have hnext : (framed H0 H l H0').next = H.next + (H0'.next - l.length) := by
    simp only [framed]
    exact gId_hi (by omega)
  refine ⟨ψ, mapV (gId l H.next) v0, x, framed H0 H l H0', rfl, ⟨v0, H0', hR, rfl, rfl⟩, mapV_rel hg hv, ⟨fun k B p hB hp => ?_, fun k m B C p q hB hC hp hq hne hw => ?_, fun k hk => ?_, fun k p hp => ?_⟩, ⟨hle, fun i hi => hψlo i hi, by omega, hfr.size, hfr.os, hfr.tape, hfr.output, fun b hb' hno => ?_, fun k B p hB hw hp => ?_⟩⟩
  · rcases hcase k B p hB hp with ⟨i, B0, h1, h2, h3, rfl, h5⟩ | ⟨h1, h2, h3⟩
    · exact mapB_rel hg (hh.blk i B0 p h1 h2)
    · have hbk := hH.blk k B p h1 h3
      have ho := hold k B p h1 h2 h3
      refine ⟨hbk.str, fun i hi => ?_, fun hw => ?_⟩
      · obtain ⟨xs, k1, k2, k3⟩ := hbk.rows i hi
        refine ⟨xs, k1.mono fun _ _ => rel_mono hle, k2, fun j x hx => ?_⟩
        have := k3 j x hx
        unfold World.cell? at this ⊢
        rw [ho]
        exact this
      · obtain ⟨e1, e2, e3, cs, e4, e5⟩ := hbk.own hw
        exact ⟨e1, e2, e3, cs, by rw [ho]; exact e4, e5⟩
  · rcases hcase k B p hB hp with ⟨i, B0, h1, h2, h3, _, h5⟩ | ⟨h1, h2, h3⟩ <;> rcases hcase m C q hC hq with ⟨i', B0', g1, g2, g3, _, g5⟩ | ⟨g1, g2, g3⟩
    · exact hh.inj i i' B0 B0' p q h1 g1 h2 g2 (fun e => hne (by rw [h3, g3, e])) h5
    · exact hapart i B0 p m C q h1 h2 h5 g1 g2 g3
    · exact (hapart i' B0' q k B p g1 g2 g5 h1 h2 h3).symm
    · exact hH.inj k m B C p q h1 g1 h3 g3 hne hw
  · rw [hnext] at hk
    rw [hψhi k (by omega)]
    exact hh.fresh _ (by omega)
  · by_cases hk : k < H.next
    · rw [hψlo k hk] at hp
      exact Nat.lt_of_lt_of_le (hH.lt k p hp) hfr.size
    · rw [hψhi k hk] at hp
      exact hh.lt _ p hp
  · refine hfr.old b hb' fun i C q hC hw hq => ?_
    obtain ⟨j, D, _, hq, hD, hDw⟩ := hw0 i C q hC hw hq
    exact hno j D q hD hDw hq
  · rcases hcase k B p hB hp with ⟨i, B0, h1, h2, h3, _, h5⟩ | ⟨h1, h2, h3⟩
    · rcases hfr.own i B0 p h1 h5 h2 with hw' | ⟨j, D, r, k1, k2, k3, k4⟩
      · exact .inl hw'
      · obtain ⟨m, E, _, hr, hE, hEw⟩ := hw0 j D r k1 k2 k3
        exact .inr ⟨m, E, r, hE, hEw, hr, k4⟩
    · exact .inr ⟨k, B, p, h1, hw, h3, rfl⟩

theorem Con.weaken {f : FuncId} {args : List AV} {H : Heap} {R R' : Post} (h : Con P f args H R) (hR : ∀ v H', R v H' → R' v H') : Con P f args H R' :=
  ⟨h.1, fun φ w xs hF hH => (h.2 φ w xs hF hH).mono fun e w' ⟨φ', v, x, H', he, hr, k⟩ => ⟨φ', v, x, H', he, hR v H' hr, k⟩⟩

end Go.AM

namespace Go.AM
set_option linter.unusedVariables false
set_option linter.unusedSimpArgs false
variable {P : Program} {Con' : ConT} {Le : LeT}

def runA (Con : ConT) (Le : LeT) : List ACode → St → (AEx → St → Prop) → Prop
  | [], s, Q => Q .normal s
  | a :: k, s, Q => awp Con Le a s fun e s' => match e with
    | .normal => runA Con Le k s' Q
    | .exit id => Q (.exit id) s'
    | .ret => Q .ret s'

theorem run_start {a : ACode} {s : St} {Q : AEx → St → Prop} (h : runA Con' Le [a] s Q) : awp Con' Le a s Q := by
  have e : Q = fun e s' => match e with
    | .normal => runA Con' Le [] s' Q
    | .exit id => Q (.exit id) s'
    | .ret => Q .ret s' := by
    funext e s'; cases e <;> simp [runA]
  rw [e]
  simpa only [runA] using h
theorem run_nil {s : St} {Q : AEx → St → Prop} (h : Q .normal s) : runA Con' Le [] s Q := by simpa only [runA] using h
theorem run_seq {a b : ACode} {k : List ACode} {s : St} {Q : AEx → St → Prop} (h : runA Con' Le (a :: b :: k) s Q) : runA Con' Le (.seq a b :: k) s Q := by
  simp only [runA, awp] at h ⊢
  have e : (fun (e : AEx) (s' : St) => (match e with
      | .normal => awp Con' Le b s' fun e s' => match e with
        | .normal => runA Con' Le k s' Q
        | .exit id => Q (.exit id) s'
        | .ret => Q .ret s'
      | .exit id => Q (.exit id) s'
      | .ret => Q .ret s' : Prop)) = fun (e : AEx) (s' : St) => match e with
      | .normal => awp Con' Le b s' fun e s' => match e with
        | .normal => runA Con' Le k s' Q
        | .exit id => Q (.exit id) s'
        | .ret => Q .ret s'
      | .exit id => (match AEx.exit id with
        | .normal => runA Con' Le k s' Q
        | .exit id => Q (.exit id) s'
        | .ret => Q .ret s')
      | .ret => (match AEx.ret with
        | .normal => runA Con' Le k s' Q
        | .exit id => Q (.exit id) s'
        | .ret => Q .ret s') := by
    funext e s'; cases e <;> rfl
  exact e ▸ h
theorem run_skip {k : List ACode} {s : St} {Q : AEx → St → Prop} (h : runA Con' Le k s Q) : runA Con' Le (.skip :: k) s Q := by simpa only [runA, awp] using h
theorem run_ret {k : List ACode} {s : St} {Q : AEx → St → Prop} (h : Q .ret s) : runA Con' Le (.ret :: k) s Q := by simpa only [runA, awp] using h
theorem run_exit {i : Nat} {k : List ACode} {s : St} {Q : AEx → St → Prop} (h : Q (.exit i) s) : runA Con' Le (.exit i :: k) s Q := by simpa only [runA, awp] using h
theorem LeS.refl (n : Nat) (s : St) : LeS n s s := fun φ₀ H₀ w₀ N φ a w _ _ h => ⟨φ, h⟩
theorem run_regionL {ops : List AOper} {k : List ACode} {s : St} {Q : AEx → St → Prop} (h : ∀ K : St → Prop, (∀ s' s'', Le s' s'' → runA Con' Le k s'' Q → K s') → rwp Con' ops s fun s' => K ⟨shed s'.tmps, s'.heap⟩) : runA Con' Le (.region ops :: k) s Q := by
  simp only [runA, awp]
  exact h (fun s' => ∃ s'', Le s' s'' ∧ runA Con' Le k s'' Q) fun _ s'' hl h => ⟨s'', hl, h⟩
theorem run_region {m : Nat} {ops : List AOper} {k : List ACode} {s : St} {Q : AEx → St → Prop} (h : ∀ K : St → Prop, (∀ s', runA Con' (LeS m) k s' Q → K s') → rwp Con' ops s fun s' => K ⟨shed s'.tmps, s'.heap⟩) : runA Con' (LeS m) (.region ops :: k) s Q :=
  run_regionL fun K hK => h K fun s' => hK s' s' (LeS.refl m s')
theorem run_cond {c : Opd} {v : Bool} {t e : ACode} {k : List ACode} {s : St} {Q : AEx → St → Prop} (hc : s.get [] c = .c (.bool v)) (h1 : v = true → runA Con' Le (t :: k) s Q) (h2 : v = false → runA Con' Le (e :: k) s Q) : runA Con' Le (.cond c t e :: k) s Q := by
  simp only [runA, awp, hc] at h1 h2 ⊢
  cases v with
  | true => exact h1 rfl
  | false => exact h2 rfl
def blkQ (Con : ConT) (Le : LeT) (id : Nat) (k : List ACode) (Q : AEx → St → Prop) : AEx → St → Prop := fun e s => match e with
  | .normal => runA Con Le k s Q
  | .exit j => (match Nat.beq j id with | true => runA Con Le k s Q | false => Q (.exit j) s)
  | .ret => Q .ret s
theorem run_block {id : Nat} {a : ACode} {k : List ACode} {s : St} {Q : AEx → St → Prop} (h : runA Con' Le [a] s (blkQ Con' Le id k Q)) : runA Con' Le (.block id a :: k) s Q := by
  have h := run_start' h
  simp only [runA, awp]
  refine (congrArg (awp Con' Le a s) ?_).mp h
  funext e s'
  cases e with
  | normal => rfl
  | ret => rfl
  | exit j => simp only [blkQ]; cases Nat.beq j id <;> rfl
where run_start' {a : ACode} {s : St} {Q : AEx → St → Prop} (h : runA Con' Le [a] s Q) : awp Con' Le a s Q := run_start h
theorem blk_normal {id : Nat} {k : List ACode} {s : St} {Q : AEx → St → Prop} (h : runA Con' Le k s Q) : blkQ Con' Le id k Q .normal s := h
theorem blk_ret {id : Nat} {k : List ACode} {s : St} {Q : AEx → St → Prop} (h : Q .ret s) : blkQ Con' Le id k Q .ret s := h
theorem blk_here {id : Nat} {k : List ACode} {s : St} {Q : AEx → St → Prop} (h : runA Con' Le k s Q) : blkQ Con' Le id k Q (.exit id) s := by
  unfold blkQ
  simp only [Nat.beq_refl]
  exact h
theorem blk_there {id j : Nat} {k : List ACode} {s : St} {Q : AEx → St → Prop} (hj : Nat.beq j id = false) (h : Q (.exit j) s) : blkQ Con' Le id k Q (.exit j) s := by
  unfold blkQ
  simp only [hj]
  exact h
def loopQ (Le : LeT) (I : Nat → St → Prop) (n : Nat) (Q : AEx → St → Prop) : AEx → St → Prop := fun e s => match e with
  | .normal => ∃ n' s'', n' < n ∧ Le s s'' ∧ I n' s''
  | .exit id => Q (.exit id) s
  | .ret => Q .ret s
theorem run_loop {a : ACode} {k : List ACode} {s : St} {Q : AEx → St → Prop} (I : Nat → St → Prop) (n : Nat) (h0 : I n s) (h : ∀ n s, I n s → runA Con' Le [a] s (loopQ Le I n Q)) : runA Con' Le (.loop a :: k) s Q := by
  simp only [runA, awp]
  refine ⟨I, n, h0, fun n s hI => ?_⟩
  refine (congrArg (awp Con' Le a s) ?_).mp (run_start (h n s hI))
  funext e s'
  cases e <;> rfl
theorem loop_normal {I : Nat → St → Prop} {n : Nat} {Q : AEx → St → Prop} {s : St} (n' : Nat) (s'' : St) (hn : n' < n) (hle : Le s s'') (hI : I n' s'') : loopQ Le I n Q .normal s := ⟨n', s'', hn, hle, hI⟩
theorem loop_exit {I : Nat → St → Prop} {n id : Nat} {Q : AEx → St → Prop} {s : St} (h : Q (.exit id) s) : loopQ Le I n Q (.exit id) s := h
theorem loop_ret {I : Nat → St → Prop} {n : Nat} {Q : AEx → St → Prop} {s : St} (h : Q .ret s) : loopQ Le I n Q .ret s := h

theorem end_of {rs : List ARes} {R : Post} {s : St} (s' : St) (hle : Le s s') (h : endF rs R s') : endQ Le rs R .ret s := (endQ_of (e := .ret) nofun).2 ⟨s', hle, h⟩
theorem end_of' {rs : List ARes} {R : Post} {s : St} (s' : St) (hle : Le s s') (h : endF rs R s') : endQ Le rs R .normal s := (endQ_of (e := .normal) nofun).2 ⟨s', hle, h⟩

theorem call_t {f : FuncId} {args : List AV} {s : St} {dst : Option Nat} {k : St → (St → Prop) → Prop} {Q : St → Prop} (R : Post) (h : Con' f args s.heap R) (hk : ∀ v H, R v H → k (St.put ⟨s.tmps, H⟩ dst [] v) Q) : callW Con' f args s [] dst true k Q := ⟨R, h, hk⟩
theorem call_n {f : FuncId} {args : List AV} {s : St} {π : Path} {dst : Option Nat} {k : St → (St → Prop) → Prop} {Q : St → Prop} (v : AV) (N : List Blk) (hN : allW N = true) (h : imp π (Con' f args (roH s.heap) fun v' H' => v' = v ∧ H' = addBs (roH s.heap) N)) (hk : k (St.put ⟨s.tmps, addBs s.heap N⟩ dst π v) Q) : callW Con' f args s π dst false k Q := by
  cases π <;> exact ⟨v, N, hN, h, hk⟩
theorem call_q {f : FuncId} {args : List AV} {s : St} {π : Path} {dst : Option Nat} {k : St → (St → Prop) → Prop} {Q : St → Prop} (v : AV) (h : imp π (Con' f args (roH s.heap) fun v' H' => v' = v ∧ H' = roH s.heap)) (hk : k (St.put s dst π v) Q) : callW Con' f args s π dst false k Q :=
  call_n v [] rfl h hk
theorem call_g {f : FuncId} {args : List AV} {s : St} {e : Nat × Bool × Bool} {π : Path} {dst : Option Nat} {tl : Bool} {k : St → (St → Prop) → Prop} {Q : St → Prop} (v : AV) (h : imp (e :: π) (Con' f args (roH s.heap) fun v' H' => v' = v ∧ H' = roH s.heap)) (hk : k (St.put s dst (e :: π) v) Q) : callW Con' f args s (e :: π) dst tl k Q := by
  cases tl
  · exact ⟨v, [], rfl, h, hk⟩
  · exact .inl ⟨v, [], rfl, h, hk⟩
theorem Con.pure {f : FuncId} {args : List AV} {X : AV} (h : Con P f args ⟨0, []⟩ fun v H' => v = X ∧ H' = ⟨0, []⟩) (ha : leArgs [] args args) (hX : mapV (fun i => i) X = X) (H : Heap) : Con P f args H fun v H' => v = X ∧ H' = H := by
  refine ⟨h.1, fun φ w xs hF hH => ?_⟩
  have h0 : HRel (ren φ []) ⟨0, []⟩ w := ⟨fun i B p hB => by simp [getB] at hB, fun i j B C p q hB => by simp [getB] at hB, fun i _ => rfl, fun i p hp => by simp [ren, nthO] at hp⟩
  refine (h.2 (ren φ []) w xs (leArgs_rel ha hF) h0).mono fun e w' ⟨φ0', v0, x, H0', he, ⟨hv0, hH0⟩, hv, hh, hfr⟩ => ?_
  subst hv0; subst hH0; subst he
  have hold : ∀ b, b < w.heap.size → w'.heap[b]? = w.heap[b]? := fun b hb => hfr.old b hb fun i B p hB => by simp [getB] at hB
  obtain ⟨g1, g2⟩ := hH.grown hfr.os hfr.tape hfr.output hfr.size hold (K := H) (Nat.le_refl _) (fun _ _ h _ => h)
  refine ⟨φ, v0, x, H, rfl, ⟨rfl, rfl⟩, ?_, g1, g2⟩
  rw [← hX]
  exact mapV_rel (fun i p hp => by rw [hh.fresh i (Nat.zero_le _)] at hp; cases hp) hv

def rwpK (Con : ConT) (r : List AOper) (s : St) (Q : St → Prop) : Prop := rwp Con r s Q
theorem rwpK_app {r : List AOper} {s : St} {Q : St → Prop} : rwpK Con' r s Q = rwp Con' r s Q := rfl
theorem rwp_nil {s : St} {Q : St → Prop} : rwp Con' [] s Q = Q s := rfl
theorem rwp_cons {o : AOper} {r : List AOper} {s : St} {Q : St → Prop} : rwp Con' (o :: r) s Q = (match gpath s o.guard with
    | none => False
    | some π => match aop s π o.op with
      | .p none v B => rwp Con' r (St.put ⟨s.tmps, addBlk s.heap B⟩ o.dst π v) Q
      | .p (some p) v B => imp π p ∧ rwp Con' r (St.put ⟨s.tmps, addBlk s.heap B⟩ o.dst π v) Q
      | .t none v H => (match o.tl, π, exOk s o with
        | true, [], true => rwp Con' r (St.put ⟨s.tmps, H⟩ o.dst [] v) Q
        | _, _, _ => False)
      | .t (some p) v H => (match o.tl, π, exOk s o with
        | true, [], true => p ∧ rwp Con' r (St.put ⟨s.tmps, H⟩ o.dst [] v) Q
        | _, _, _ => False)
      | .call f args => callW Con' f args s π o.dst o.tl (rwpK Con' r) Q
      | .bad => False) := rfl
theorem slotsOf {l : List Nat} {tmps : List Slot} {t : Nat} {v : AV} (hv : slotAt tmps t = some ⟨t, [], v⟩) (hid : leV l v v) {r : List Slot} (h : slotsLe l tmps r) : slotsLe l tmps (⟨t, [], v⟩ :: r) := by
  cases v with
  | bot => exact ⟨trivial, h⟩
  | _ => simp only [slotsLe, hv]; exact ⟨hid, h⟩
theorem end_tmp1 {t : Nat} {v : AV} {R : Post} {tmps : List Slot} {H : Heap} (hv : slotAt tmps t = some ⟨t, [], v⟩) (hid : leV [] v v) (hn : noTup v = true) (hR : R v ⟨0, []⟩) : endQ (LeS 0) [.tmp t] R .ret ⟨tmps, H⟩ := by
  refine end_of ⟨[⟨t, [], v⟩], ⟨0, []⟩⟩ (LeS.intro [] (fun i h => absurd h (Nat.not_lt_zero i)) trivial rfl (slotsOf hv hid trivial) trivial) ?_
  have hg : St.get ⟨[⟨t, [], v⟩], ⟨0, []⟩⟩ [] (.t t) = v := by simp [St.get, slotAt, Nat.beq_refl, sfx, eqP]
  simp only [endF, resL, resA, hg, hn, resV]
  exact hR
theorem end_tmp2 {t u : Nat} {v x : AV} {R : Post} {tmps : List Slot} {H : Heap} (hne : Nat.beq t u = false) (hv : slotAt tmps t = some ⟨t, [], v⟩) (hx : slotAt tmps u = some ⟨u, [], x⟩) (hid : leV [] v v) (hidx : leV [] x x) (hn : noTup v = true) (hnx : noTup x = true) (hR : R (.tup [v, x]) ⟨0, []⟩) : endQ (LeS 0) [.tmp t, .tmp u] R .ret ⟨tmps, H⟩ := by
  refine end_of ⟨[⟨t, [], v⟩, ⟨u, [], x⟩], ⟨0, []⟩⟩ (LeS.intro [] (fun i h => absurd h (Nat.not_lt_zero i)) trivial rfl (slotsOf hv hid (slotsOf hx hidx trivial)) trivial) ?_
  have hg : St.get ⟨[⟨t, [], v⟩, ⟨u, [], x⟩], ⟨0, []⟩⟩ [] (.t t) = v := by simp [St.get, slotAt, Nat.beq_refl, sfx, eqP]
  have hg2 : St.get ⟨[⟨t, [], v⟩, ⟨u, [], x⟩], ⟨0, []⟩⟩ [] (.t u) = x := by simp [St.get, slotAt, Nat.beq_refl, sfx, eqP, hne]
  simp only [endF, resL, resA, hg, hg2, hn, hnx, resV]
  exact hR

attribute [irreducible] runA blkQ loopQ

end Go.AM

namespace Go.AM
set_option linter.unusedVariables false
set_option linter.unusedSimpArgs false
variable {P : Program} {φ : Emb} {w : World}

def keysB : List (Nat × Blk) → List Nat
  | [] => []
  | (i, _) :: r => i :: keysB r
def allBe (n m : Nat) : List Nat → Bool
  | [] => true
  | i :: r => Nat.ble n i && Nat.blt i m && allBe n m r
def appX : List (Nat × Blk) → List (Nat × Blk) → List (Nat × Blk)
  | [], l => l
  | x :: r, l => x :: appX r l

theorem allBe_get {n m : Nat} : ∀ {l : List (Nat × Blk)}, allBe n m (keysB l) = true → ∀ {i B}, getB l i = some B → n ≤ i ∧ i < m
  | [], _, _, _, h => by simp [getB] at h
  | (j, C) :: r, h, i, B, hB => by
    simp only [keysB, allBe, Bool.and_eq_true] at h
    by_cases hi : i = j
    · subst hi
      exact ⟨Nat.le_of_ble_eq_true h.1.1, by have := h.1.2; unfold Nat.blt at this; exact Nat.le_of_ble_eq_true this⟩
    · rw [getB_cons_ne hi] at hB
      exact allBe_get h.2 hB
theorem getB_appX {X l : List (Nat × Blk)} {i : Nat} : getB (appX X l) i = match getB X i with | some B => some B | none => getB l i := by
  induction X with
  | nil => rfl
  | cons x r ih =>
    obtain ⟨j, C⟩ := x
    simp only [appX, getB]
    cases Nat.beq j i with
    | true => rfl
    | false => exact ih
theorem getB_keys : ∀ {l m : List (Nat × Blk)}, keysB l = keysB m → ∀ {i B}, getB l i = some B → ∃ C, getB m i = some C
  | [], [], _, _, _, h => by simp [getB] at h
  | [], _ :: _, h, _, _, _ => by simp [keysB] at h
  | _ :: _, [], h, _, _, _ => by simp [keysB] at h
  | (j, C) :: r, (k, D) :: t, h, i, B, hB => by
    simp only [keysB, List.cons.injEq] at h
    obtain ⟨rfl, h⟩ := h
    by_cases hi : i = j
    · subst hi; exact ⟨D, getB_cons_self _ _ _⟩
    · rw [getB_cons_ne hi] at hB ⊢; exact getB_keys h hB

theorem Con.frameN {f : FuncId} {args : List AV} {H0 : Heap} {R0 : Post} (h : Con P f args H0 R0) (l : List Nat) (hl : H0.next = l.length) (hid : idTo l l.length) (X : List (Nat × Blk)) (n : Nat)
    (hR : ∀ v H', R0 v H' → H'.next = H0.next ∧ keysB H'.blks = keysB H0.blks) (hX : allBe H0.next n (keysB X) = true) (h0 : allBe 0 H0.next (keysB H0.blks) = true) (hn : H0.next ≤ n) (hb : leBlks l (appX X H0.blks) H0.blks) (ha : leArgs l args args) :
    Con P f args ⟨n, appX X H0.blks⟩ (fun v H' => ∃ H0', R0 v H0' ∧ H' = ⟨n, appX X H0'.blks⟩) := by
  refine ⟨h.1, fun φ w xs hF hH => ?_⟩
  have hd : diff l := by
    have : ∀ (k : Nat) (l : List Nat), (∀ i, i < l.length → nthO l i = some (k + i)) → diff l := by
      intro k l
      induction l generalizing k with
      | nil => intro _; trivial
      | cons j r ih =>
        intro h
        have hj : j = k := by have := h 0 (by simp); simpa [nthO] using this
        have hr : ∀ i, i < r.length → nthO r i = some (k + 1 + i) := fun i hi => by
          have := h (i + 1) (by simpa using hi)
          simp only [nthO] at this
          rw [this]; congr 1; omega
        refine ⟨?_, ih (k + 1) hr⟩
        have : ∀ (m : Nat) (r : List Nat), (∀ i, i < r.length → nthO r i = some (m + i)) → j < m → notIn j r := by
          intro m r
          induction r generalizing m with
          | nil => intro _ _; trivial
          | cons x r ih =>
            intro h hm
            have hx : x = m := by have := h 0 (by simp); simpa [nthO] using this
            refine ⟨?_, ih (m + 1) (fun i hi => ?_) (by omega)⟩
            · cases hb : Nat.beq j x with
              | false => rfl
              | true => have := Nat.eq_of_beq_eq_true hb; omega
            · have := h (i + 1) (by simpa using hi)
              simp only [nthO] at this
              rw [this]; congr 1; omega
        exact this (k + 1) r hr (by omega)
    exact this 0 l (fun i hi => by rw [hid i hi]; simp)
  have hren : AM.ren φ l = φ.to H0.next := by
    funext i
    unfold Emb.to
    by_cases hi : i < H0.next
    · rw [if_pos hi, ren_of (hid i (by omega))]
    · rw [if_neg hi]
      unfold AM.ren
      cases hn : nthO l i with
      | none => rfl
      | some j => have := nthO_lt hn; omega
  have hH0 := hH.ren hd hl hb
  rw [hren] at hH0
  refine (h.2 (φ.to H0.next) w xs (by rw [← hren]; exact leArgs_rel ha hF) hH0).mono fun e w' ⟨φ0', v, x, H0', he, hr, hv, hh, hfr⟩ => ?_
  subst he
  obtain ⟨hn', hk'⟩ := hR v H0' hr
  have hφ0 : φ0' = φ.to H0.next := by
    funext i
    by_cases hi : i < H0.next
    · exact hfr.same i hi
    · rw [hh.fresh i (by omega)]; unfold Emb.to; rw [if_neg hi]
  subst hφ0
  have hle := Emb.to_le φ H0.next
  have hlo : ∀ i B, getB H0.blks i = some B → i < H0.next := fun i B hB => (allBe_get h0 hB).2
  have hXn : ∀ i, i < H0.next → getB X i = none := fun i hi => by
    cases hx : getB X i with
    | none => rfl
    | some B => have := (allBe_get hX hx).1; omega
  have hlo' : ∀ i B, getB H0'.blks i = some B → i < H0.next := fun i B hB => by obtain ⟨C, hC⟩ := getB_keys hk' hB; exact hlo i C hC
  have hget : ∀ i, i < H0.next → getB (appX X H0.blks) i = getB H0.blks i := fun i hi => by rw [getB_appX, hXn i hi]
  have hcase : ∀ i B, getB (appX X H0'.blks) i = some B → getB X i = some B ∨ (getB H0'.blks i = some B ∧ i < H0.next) := fun i B hB => by
    rw [getB_appX] at hB
    cases hx : getB X i with
    | some C => rw [hx] at hB; exact .inl hB
    | none => rw [hx] at hB; exact .inr ⟨hB, hlo' i B hB⟩
  have hXb : ∀ i B, getB X i = some B → getB (appX X H0.blks) i = some B := fun i B hB => by rw [getB_appX, hB]
  have htoX : ∀ i p, i < H0.next → φ i = some p → (φ.to H0.next) i = some p := fun i p hi hp => by unfold Emb.to; rw [if_pos hi]; exact hp
  -- a block of X and a writable one of the others lie apart
  have hapart : ∀ i B p j C q, getB X i = some B → φ i = some p → getB H0.blks j = some C → φ j = some q → C.wr = true → q.blk ≠ p.blk := fun i B p j C q h1 h2 h3 h4 h5 => by
    have hj := hlo j C h3
    have hi := (allBe_get hX h1).1
    exact hH.inj j i C B q p (by show getB (appX X H0.blks) j = _; rw [hget j hj]; exact h3) (hXb i B h1) h4 h2 (by omega) h5
  refine ⟨φ, v, x, ⟨n, appX X H0'.blks⟩, rfl, ⟨H0', hr, rfl⟩, relA_mono hle hv, ⟨fun i B p hB hp => ?_, fun i j B C p q hB hC hp hq hne hw => ?_, hH.fresh, fun i p hp => Nat.lt_of_lt_of_le (hH.lt i p hp) hfr.size⟩, ⟨φ.le_refl, fun _ _ => rfl, Nat.le_refl _, hfr.size, hfr.os, hfr.tape, hfr.output, fun b hb hno => ?_, fun i B p hB hw hp => ?_⟩⟩
  · rcases hcase i B hB with hx | ⟨hB, hi⟩
    · have hb0 := hH.blk i B p (hXb i B hx) hp
      refine hb0.keep (hfr.old p.blk (hH.lt i p hp) fun j C q h1 h2 h3 => hapart i B p j C q hx hp h1 (hle _ _ h3) h2)
    · exact (hh.blk i B p hB (htoX i p hi hp)).mono hle
  · rcases hcase i B hB with hx | ⟨hB, hi⟩ <;> rcases hcase j C hC with hy | ⟨hC, hj⟩
    · exact hH.inj i j B C p q (hXb i B hx) (hXb j C hy) hp hq hne hw
    · obtain ⟨D, hD⟩ := getB_keys hk' hC
      exact hH.inj i j B D p q (hXb i B hx) (by show getB (appX X H0.blks) j = _; rw [hget j hj]; exact hD) hp hq hne hw
    · rcases hfr.own i B p hB hw (htoX i p hi hp) with ho | ⟨k, D, r, g1, g2, g3, g4⟩
      · have := hH.lt j q hq; omega
      · rw [← g4]
        exact hapart j C q k D r hy hq g1 (hle _ _ g3) g2
    · exact hh.inj i j B C p q hB hC (htoX i p hi hp) (htoX j q hj hq) hne hw
  · refine hfr.old b hb fun j C q h1 h2 h3 => hno j C q (by show getB (appX X H0.blks) j = _; rw [hget j (hlo j C h1)]; exact h1) h2 (hle _ _ h3)
  · rcases hcase i B hB with hx | ⟨hB, hi⟩
    · exact .inr ⟨i, B, p, hXb i B hx, hw, hp, rfl⟩
    · rcases hfr.own i B p hB hw (htoX i p hi hp) with ho | ⟨k, D, r, g1, g2, g3, g4⟩
      · exact .inl ho
      · exact .inr ⟨k, D, r, by show getB (appX X H0.blks) k = _; rw [hget k (hlo k D g1)]; exact g1, g2, hle _ _ g3, g4⟩

theorem Con.forget {f : FuncId} {args : List AV} {H : Heap} {R R' : Post} (h : Con P f args H R)
    (hR : ∀ v H', R v H' → ∃ v' H'' l, idTo l H.next ∧ diff l ∧ H''.next = l.length ∧ leBlks l H'.blks H''.blks ∧ leV l v v' ∧ R' v' H'') : Con P f args H R' := by
  refine ⟨h.1, fun φ w xs hF hH => (h.2 φ w xs hF hH).mono fun e w' ⟨φ', v, x, H', he, hr, hv, hh, hf⟩ => ?_⟩
  obtain ⟨v', H'', l, hi, hd, hn, hb, hl, hr'⟩ := hR v H' hr
  have hlen : H.next ≤ l.length := by
    cases hx : H.next with
    | zero => omega
    | succ m => have := nthO_lt (hi m (by omega)); omega
  have hsm : ∀ i, i < H.next → ren φ' l i = φ' i := fun i h => ren_of (hi i h)
  refine ⟨ren φ' l, v', x, H'', he, hr', leV_rel hl hv, hh.ren hd hn hb, fun i p hp => ?_, fun i hi' => ?_, by omega, hf.size, hf.os, hf.tape, hf.output, hf.old, fun i B p hB hw hp => ?_⟩
  · by_cases hlt : i < H.next
    · rw [hsm i hlt]; exact hf.le i p hp
    · rw [hH.fresh i (by omega)] at hp; cases hp
  · rw [hsm i hi']; exact hf.same i hi'
  · obtain ⟨j, hj, hp⟩ := ren_some hp
    obtain ⟨C, hC, hle⟩ := leBlks_get hb hB hj
    exact hf.own j C p hC (hle.2.2.1 hw) hp

theorem ite_int (p : Prop) [Decidable p] (k : IntKind) (a b : Int) : (if p then CV.int k a else CV.int k b) = CV.int k (if p then a else b) := by split <;> rfl
theorem ite_seg (p : Prop) [Decidable p] (a b : CV) : (if p then Seg.c a else Seg.c b) = Seg.c (if p then a else b) := by split <;> rfl
theorem ite_segs (p : Prop) [Decidable p] (a b : Seg) (l m : List Seg) : (if p then a :: l else b :: m) = (if p then a else b) :: (if p then l else m) := by split <;> rfl
theorem ite_nil (p : Prop) [Decidable p] : (if p then ([] : List Seg) else []) = [] := by split <;> rfl
theorem ite_twice {α : Type} (p : Prop) [Decidable p] (a b c : α) : (if p then a else if p then b else c) = (if p then a else c) := by split <;> rfl
theorem ite_bool (p : Prop) [Decidable p] (a b : Bool) : (if p then CV.bool a else CV.bool b) = CV.bool (if p then a else b) := by split <;> rfl

theorem con_of_run (hm : P.follows .mixedOrders = true) {f : FuncId} {fn : Func} (hf : P.funcs[f]? = some fn) (hname : (fn.name == "runtime.NumGoroutine") = false) {ac : ACode} (hc : stripF P fn = some ac) {rs : List ARes} (hrs : stripRes P fn.results.toList = some rs)
    {args : List AV} (hargs : args.length ≤ fn.ntmps) {H : Heap} {R : Post} (h : runA (Con P) (LeS H.next) [ac] ⟨initT args 0, H⟩ (endQ (LeS H.next) rs R)) : Con P f args H R :=
  con_of_awp hm hf hname hc hrs hargs (run_start h)

end Go.AM

namespace Go.AM
set_option linter.unusedVariables false
set_option linter.unusedSimpArgs false
variable {P : Program} {Con' : ConT} {Le : LeT}

theorem callW_mono {f : FuncId} {args : List AV} {s : St} {π : Path} {dst : Option Nat} {tl : Bool} {k : St → (St → Prop) → Prop} {Q Q' : St → Prop} (hk : ∀ s, k s Q → k s Q') (h : callW Con' f args s π dst tl k Q) : callW Con' f args s π dst tl k Q' := by
  unfold callW at h ⊢
  split
  · obtain ⟨R, h1, h2⟩ := h
    exact ⟨R, h1, fun v H hv => hk _ (h2 v H hv)⟩
  · rcases h with ⟨v, N, h0, h1, h2⟩ | ⟨h0, R, h1, h2⟩
    · exact .inl ⟨v, N, h0, h1, hk _ h2⟩
    · exact .inr ⟨h0, R, h1, fun v H hv => hk _ (h2 v H hv)⟩
  · obtain ⟨v, N, h0, h1, h2⟩ := h
    exact ⟨v, N, h0, h1, hk _ h2⟩

theorem rwp_mono {Q Q' : St → Prop} (hQ : ∀ s, Q s → Q' s) : ∀ (l : List AOper) (s : St), rwp Con' l s Q → rwp Con' l s Q'
  | [], s, h => hQ s h
  | o :: r, s, h => by
    have ih := rwp_mono hQ r
    simp only [rwp] at h ⊢
    cases hg : gpath s o.guard with
    | none => rw [hg] at h; exact h.elim
    | some π =>
      rw [hg] at h
      simp only at h ⊢
      cases ha : aop s π o.op with
      | bad => rw [ha] at h; exact h.elim
      | p need v B =>
        rw [ha] at h
        cases need with
        | none => exact ih _ h
        | some p => exact ⟨h.1, ih _ h.2⟩
      | t need v H' =>
        rw [ha] at h
        cases need with
        | none =>
          simp only at h ⊢
          revert h
          split
          · exact ih _
          · exact id
        | some p =>
          simp only at h ⊢
          revert h
          split
          · exact fun h => ⟨h.1, ih _ h.2⟩
          · exact id
      | call f args =>
        rw [ha] at h
        exact callW_mono ih h

theorem awp_mono : ∀ (c : ACode) {Le : LeT} (s : St) {Q Q' : AEx → St → Prop}, (∀ e s, Q e s → Q' e s) → awp Con' Le c s Q → awp Con' Le c s Q'
  | .range it le g ps a b, Le, s, Q, Q', hQ, h => by
    simp only [awp] at h ⊢
    obtain ⟨gf, caps, K, N, x, I, h1, h2, h3, h4, h5, h6, h7⟩ := h
    refine ⟨gf, caps, K, N, x, I, h1, h2, h3, h4, h5, fun j H hj hI => awp_mono a _ (fun e s1 hq => ?_) (h6 j H hj hI), fun H hI => hQ _ _ (h7 H hI)⟩
    cases e with
    | normal =>
      refine awp_mono b _ (fun e s2 hq => ?_) hq
      cases e with
      | normal => exact hq
      | exit id => obtain ⟨s3, hl, hq⟩ := hq; exact ⟨s3, hl, hQ _ _ hq⟩
      | ret => obtain ⟨s3, hl, hq⟩ := hq; exact ⟨s3, hl, hQ _ _ hq⟩
    | exit id => exact hq
    | ret => exact hq
  | .skip, Le, s, Q, Q', hQ, h => hQ _ _ h
  | .region ops, Le, s, Q, Q', hQ, h => rwp_mono (fun s ⟨s'', hl, h⟩ => ⟨s'', hl, hQ _ _ h⟩) ops s h
  | .seq a b, Le, s, Q, Q', hQ, h => by
    simp only [awp] at h ⊢
    refine awp_mono a s (fun e s' h => ?_) h
    cases e with
    | normal => exact awp_mono b s' hQ h
    | exit id => exact hQ _ _ h
    | ret => exact hQ _ _ h
  | .cond c t e, Le, s, Q, Q', hQ, h => by
    simp only [awp] at h ⊢
    revert h
    split
    · rename_i b hb
      cases b with
      | true => exact awp_mono t s hQ
      | false => exact awp_mono e s hQ
    · exact id
  | .block id b, Le, s, Q, Q', hQ, h => by
    simp only [awp] at h ⊢
    refine awp_mono b s (fun e s' h => ?_) h
    cases e with
    | normal => exact hQ _ _ h
    | exit j =>
      simp only at h ⊢
      revert h
      split <;> exact hQ _ _
    | ret => exact hQ _ _ h
  | .loop b, Le, s, Q, Q', hQ, h => by
    simp only [awp] at h ⊢
    obtain ⟨I, n, h0, h1⟩ := h
    refine ⟨I, n, h0, fun n s hI => awp_mono b s (fun e s' h => ?_) (h1 n s hI)⟩
    cases e with
    | normal => exact h
    | exit id => exact hQ _ _ h
    | ret => exact hQ _ _ h
  | .exit id, Le, s, Q, Q', hQ, h => hQ _ _ h
  | .ret, Le, s, Q, Q', hQ, h => hQ _ _ h
  | .other, Le, s, Q, Q', hQ, h => h.elim


def unQ (Con : ConT) (Le : LeT) (a : ACode) : Nat → (AEx → St → Prop) → AEx → St → Prop
  | 0, Q => fun e s => match e with
    | .normal => False
    | .exit id => Q (.exit id) s
    | .ret => Q .ret s
  | n + 1, Q => fun e s => match e with
    | .normal => runA Con Le [a] s (unQ Con Le a n Q)
    | .exit id => Q (.exit id) s
    | .ret => Q .ret s

theorem run_awp {a : ACode} {s : St} {Q : AEx → St → Prop} (h : runA Con' Le [a] s Q) : awp Con' Le a s Q := by
  simp only [runA] at h
  refine awp_mono a s (fun e s' h => ?_) h
  cases e <;> exact h

theorem un_normal {a : ACode} {n : Nat} {Q : AEx → St → Prop} {s : St} (h : runA Con' Le [a] s (unQ Con' Le a n Q)) : unQ Con' Le a (n + 1) Q .normal s := h
theorem un_exit {a : ACode} {n i : Nat} {Q : AEx → St → Prop} {s : St} (h : Q (.exit i) s) : unQ Con' Le a n Q (.exit i) s := by cases n <;> exact h
theorem un_ret {a : ACode} {n : Nat} {Q : AEx → St → Prop} {s : St} (h : Q .ret s) : unQ Con' Le a n Q .ret s := by cases n <;> exact h
def unE (Q : AEx → St → Prop) : AEx → St → Prop := fun e s => match e with
  | .normal => False
  | .exit id => Q (.exit id) s
  | .ret => Q .ret s
theorem unE_exit {i : Nat} {Q : AEx → St → Prop} {s : St} (h : Q (.exit i) s) : unE Q (.exit i) s := h
theorem unE_ret {Q : AEx → St → Prop} {s : St} (h : Q .ret s) : unE Q .ret s := h
theorem imp_of {π : Path} {p : Prop} (h : p) : imp π p := by
  induction π with
  | nil => exact h
  | cons e r ih => intro _; exact ih
attribute [irreducible] unQ unE


def asgQ (Con : ConT) (Le : LeT) (b : ACode) (Q : AEx → St → Prop) : AEx → St → Prop := fun e s => match e with
  | .normal => runA Con Le [b] s Q
  | _ => False
def rngK (Le : LeT) (l : List Slot) (I : Heap → Prop) (Q : AEx → St → Prop) : AEx → St → Prop := rngQ Le l I Q
theorem run_range {it : IterT} {le : Nat → LeT} {g : Opd} {ps : List Nat} {a b : ACode} {k : List ACode} {s : St} {Q : AEx → St → Prop} (gf : FuncId) (caps : List AA) (K : Heap) (N : Nat) (x : Nat → List AV) (I : Nat → Heap → Prop)
    (hg : s.get [] g = .c (.fn gf [] caps)) (hit : it gf caps K N x) (hlen : ∀ j, (x j).length = ps.length) (h0 : I 0 s.heap) (hsub : ∀ j H, I j H → subH K H s.heap.next)
    (hr : ∀ j H, j < N → I j H → runA Con' (le s.heap.next) [a] ⟨putL ps (x j) s.tmps, H⟩ (asgQ Con' (le s.heap.next) b (rngK (le s.heap.next) s.tmps (I (j + 1)) Q)))
    (hend : ∀ H, I N H → runA Con' Le k ⟨s.tmps, H⟩ Q) : runA Con' Le (.range it le g ps a b :: k) s Q := by
  simp only [runA, awp]
  refine ⟨gf, caps, K, N, x, I, hg, hit, hlen, h0, hsub, fun j H hj hI => ?_, fun H hI => hend H hI⟩
  refine awp_mono a _ (fun e s1 hq => ?_) (run_awp (hr j H hj hI))
  cases e with
  | exit id => exact hq.elim
  | ret => exact hq.elim
  | normal =>
    refine awp_mono b _ (fun e s2 hq => ?_) (run_awp hq)
    cases e <;> exact hq
theorem asg_normal {Le : LeT} {b : ACode} {Q : AEx → St → Prop} {s : St} (h : runA Con' Le [b] s Q) : asgQ Con' Le b Q .normal s := h
theorem rng_normal {Le : LeT} {l : List Slot} {I : Heap → Prop} {Q : AEx → St → Prop} {s : St} (s' : St) (hle : Le s s') (h : I s'.heap) : rngK Le l I Q .normal s := ⟨s', hle, h⟩
attribute [irreducible] asgQ rngK

end Go.AM

namespace Go.Proofs.Ytmbnakinhnkabaa
open Go.AM
set_option maxRecDepth 100000
set_option linter.unusedSimpArgs false
set_option linter.unusedVariables false
theorem mixed : Try.prog.follows .mixedOrders = true := by kernel_rfl
theorem dropB_none {l : List Nat} {H0 : List (Nat × Blk)} (h : ∀ k, goneB l H0 k = false) (X : List (Nat × Blk)) : dropB l H0 X = X := by
  induction X with
  | nil => rfl
  | cons x r ih => simp [dropB, h, ih]
theorem ro_gen {f : FuncId} {args args' : List AV} {H0 : Heap} {V : AV} (h : Con Try.prog f args H0 (fun v H' => v = V ∧ H' = H0)) (l : List Nat) (n : Nat) (X : List (Nat × Blk)) (hl : H0.next = l.length) (hd : diff l) (hlt : allLt l n) (hkl : keysLt X n) (hb : leBlks l X H0.blks) (ha : leArgs l args' args) (hV : mapV (gId l n) V = V)
    (hgone : ∀ k, goneB l H0.blks k = false) (hnew : newB (gId l n) l H0.blks [] H0.blks = []) (hnx : gId l n H0.next = n) : Con Try.prog f args' ⟨n, X⟩ (fun v H' => v = V ∧ H' = ⟨n, X⟩) := by
  refine (h.frame (H := ⟨n, X⟩) l hl hd hlt hkl hb ha).weaken ?_
  rintro v H' ⟨v0, H0', ⟨rfl, rfl⟩, rfl, rfl⟩
  refine ⟨hV, ?_⟩
  simp only [framed, dropB_none hgone, hnew, hnx, appB]
theorem idt1 : ∀ i, i < 1 → nthO [0] i = some i := by
  intro i h; match i, h with
  | 0, _ => rfl
theorem idt2 : ∀ i, i < 2 → nthO [0, 1] i = some i := by
  intro i h; match i, h with
  | 0, _ => rfl
  | 1, _ => rfl
structure OpS where
  kind : Int
  r : Int
  a : Int
  b : Int
  order : Int
  imm : Int
def opL (o : OpS) : List Seg := [.c (.int .i64 o.kind), .c (.int .i64 o.r), .c (.int .i64 o.a), .c (.int .i64 o.b), .c (.int .i64 o.order), .c (.int .u64 o.imm)]
def boxW (v : Int) : Blk := ⟨1, none, fun _ => [.c (.int .i64 v)], 3, true⟩
def kindL (w : ByteArray) (r i o : Bool) (u : Int) (d e a : Bool) (f : CV) : List Seg := [.c (.str w), .c (.bool r), .c (.bool i), .c (.bool o), .c (.int .i64 u), .c (.bool d), .c (.bool e), .c (.bool a), .c f]
def kindB (L : List Seg) : Blk := ⟨9, none, fun _ => L, 79, true⟩
def kindV (L : List Seg) (b : Bool) : AV := .tup [.agg L, .c (.bool b)]
theorem con66 (o : OpS) (H : Heap) : Con Try.prog 66 [.agg (opL o)] H (fun v H' => v = .c (.bool (true)) ∧ H' = H) := by
  refine Con.pure ?_ (by simp only [leArgs, leV, leV1, opL, leSegs, leSeg, leC, and_self]) rfl H
  (refine con_of_run mixed (fn := Try.f66) (by kernel_rfl) (by kernel_rfl) C66_ok (rs := [.tmp 2]) (by kernel_rfl) (Nat.le_of_ble_eq_true (by kernel_rfl)) ?_; unfold C66; simp only [initT, Nat.reduceAdd])
  repeat' (first | refine run_seq ?_ | (refine run_region fun K hK => ?_; (try (simp (maxSteps := 10000000) only [opL, C66r0, C66r1, rwp_nil, rwp_cons, rwpK_app, aop, gpath, St.get, slotAt, sfx, eqP, segsOf, St.put, addBlk, getB, setB, delB, ld1, ldn, st1, stn, setRow, rowNeed, segAt, nsub, bin, un, eqB, isShift, sameK, arith, shiftR, getsl, selB_or, selB_and, beqb, shed, addN, Nat.beq, Seg.size, sizes, imp, needP, andN, appL, argsOf, ptrsOf, aasOf, cut, takeS, dropS, putS, partsOf, fillS, fieldOf, nthA, negIf, nilq, nilB, eqS, eqF, eqS1, andP, kin, slcS, strOk, plusA, bndHi, leN, optG, roH, roL, initT, exOk, exAll, wrAddr, Nat.reduceAdd, Nat.reduceSub, Nat.reduceMul, Int.reduceToNat, List.append_nil, List.nil_append, List.cons_append, eqT, idxT, cat, cpy, ite_int, ite_bool, ite_seg, ite_segs, ite_nil, ite_twice, Int.toNat_natCast, app, addBs, tob])); (repeat (first | (refine And.intro ?_ ?_; · (first | decide | trivial | assumption | (intros; first | decide | trivial))))); with_reducible refine hK _ ?_; clear hK K) | refine run_ret ?_ | refine run_nil ?_)
  exact end_tmp1 rfl rfl rfl ⟨rfl, rfl⟩
theorem con68 (o : OpS) (H : Heap) : Con Try.prog 68 [.agg (opL o)] H (fun v H' => v = .c (.bool (decide (o.r ≥ 1) && decide (o.r ≤ 15))) ∧ H' = H) := by
  refine Con.pure ?_ (by simp only [leArgs, leV, leV1, opL, leSegs, leSeg, leC, and_self]) rfl H
  (refine con_of_run mixed (fn := Try.f68) (by kernel_rfl) (by kernel_rfl) C68_ok (rs := [.tmp 2]) (by kernel_rfl) (Nat.le_of_ble_eq_true (by kernel_rfl)) ?_; unfold C68; simp only [initT, Nat.reduceAdd])
  repeat' (first | refine run_seq ?_ | (refine run_region fun K hK => ?_; (try (simp (maxSteps := 10000000) only [opL, C68r0, C68r1, rwp_nil, rwp_cons, rwpK_app, aop, gpath, St.get, slotAt, sfx, eqP, segsOf, St.put, addBlk, getB, setB, delB, ld1, ldn, st1, stn, setRow, rowNeed, segAt, nsub, bin, un, eqB, isShift, sameK, arith, shiftR, getsl, selB_or, selB_and, beqb, shed, addN, Nat.beq, Seg.size, sizes, imp, needP, andN, appL, argsOf, ptrsOf, aasOf, cut, takeS, dropS, putS, partsOf, fillS, fieldOf, nthA, negIf, nilq, nilB, eqS, eqF, eqS1, andP, kin, slcS, strOk, plusA, bndHi, leN, optG, roH, roL, initT, exOk, exAll, wrAddr, Nat.reduceAdd, Nat.reduceSub, Nat.reduceMul, Int.reduceToNat, List.append_nil, List.nil_append, List.cons_append, eqT, idxT, cat, cpy, ite_int, ite_bool, ite_seg, ite_segs, ite_nil, ite_twice, Int.toNat_natCast, app, addBs, tob])); (repeat (first | (refine And.intro ?_ ?_; · (first | decide | trivial | assumption | (intros; first | decide | trivial))))); with_reducible refine hK _ ?_; clear hK K) | refine run_ret ?_ | refine run_nil ?_)
  exact end_tmp1 rfl rfl rfl ⟨rfl, rfl⟩
theorem con70 (o : OpS) (H : Heap) : Con Try.prog 70 [.agg (opL o)] H (fun v H' => v = .c (.bool (((o.r == 13) || (o.r == 10)) || (o.r == 15))) ∧ H' = H) := by
  refine Con.pure ?_ (by simp only [leArgs, leV, leV1, opL, leSegs, leSeg, leC, and_self]) rfl H
  (refine con_of_run mixed (fn := Try.f70) (by kernel_rfl) (by kernel_rfl) C70_ok (rs := [.tmp 2]) (by kernel_rfl) (Nat.le_of_ble_eq_true (by kernel_rfl)) ?_; unfold C70; simp only [initT, Nat.reduceAdd])
  repeat' (first | refine run_seq ?_ | (refine run_region fun K hK => ?_; (try (simp (maxSteps := 10000000) only [opL, C70r0, C70r1, rwp_nil, rwp_cons, rwpK_app, aop, gpath, St.get, slotAt, sfx, eqP, segsOf, St.put, addBlk, getB, setB, delB, ld1, ldn, st1, stn, setRow, rowNeed, segAt, nsub, bin, un, eqB, isShift, sameK, arith, shiftR, getsl, selB_or, selB_and, beqb, shed, addN, Nat.beq, Seg.size, sizes, imp, needP, andN, appL, argsOf, ptrsOf, aasOf, cut, takeS, dropS, putS, partsOf, fillS, fieldOf, nthA, negIf, nilq, nilB, eqS, eqF, eqS1, andP, kin, slcS, strOk, plusA, bndHi, leN, optG, roH, roL, initT, exOk, exAll, wrAddr, Nat.reduceAdd, Nat.reduceSub, Nat.reduceMul, Int.reduceToNat, List.append_nil, List.nil_append, List.cons_append, eqT, idxT, cat, cpy, ite_int, ite_bool, ite_seg, ite_segs, ite_nil, ite_twice, Int.toNat_natCast, app, addBs, tob])); (repeat (first | (refine And.intro ?_ ?_; · (first | decide | trivial | assumption | (intros; first | decide | trivial))))); with_reducible refine hK _ ?_; clear hK K) | refine run_ret ?_ | refine run_nil ?_)
  exact end_tmp1 rfl rfl rfl ⟨rfl, rfl⟩
theorem con71 (o : OpS) (H : Heap) : Con Try.prog 71 [.agg (opL o)] H (fun v H' => v = .c (.bool (IntKind.u64.wrap (BitVec.ofInt IntKind.u64.bits o.imm &&& BitVec.ofInt IntKind.u64.bits 3).toNat == 0)) ∧ H' = H) := by
  refine Con.pure ?_ (by simp only [leArgs, leV, leV1, opL, leSegs, leSeg, leC, and_self]) rfl H
  (refine con_of_run mixed (fn := Try.f71) (by kernel_rfl) (by kernel_rfl) C71_ok (rs := [.tmp 2]) (by kernel_rfl) (Nat.le_of_ble_eq_true (by kernel_rfl)) ?_; unfold C71; simp only [initT, Nat.reduceAdd])
  repeat' (first | refine run_seq ?_ | (refine run_region fun K hK => ?_; (try (simp (maxSteps := 10000000) only [opL, C71r0, C71r1, rwp_nil, rwp_cons, rwpK_app, aop, gpath, St.get, slotAt, sfx, eqP, segsOf, St.put, addBlk, getB, setB, delB, ld1, ldn, st1, stn, setRow, rowNeed, segAt, nsub, bin, un, eqB, isShift, sameK, arith, shiftR, getsl, selB_or, selB_and, beqb, shed, addN, Nat.beq, Seg.size, sizes, imp, needP, andN, appL, argsOf, ptrsOf, aasOf, cut, takeS, dropS, putS, partsOf, fillS, fieldOf, nthA, negIf, nilq, nilB, eqS, eqF, eqS1, andP, kin, slcS, strOk, plusA, bndHi, leN, optG, roH, roL, initT, exOk, exAll, wrAddr, Nat.reduceAdd, Nat.reduceSub, Nat.reduceMul, Int.reduceToNat, List.append_nil, List.nil_append, List.cons_append, eqT, idxT, cat, cpy, ite_int, ite_bool, ite_seg, ite_segs, ite_nil, ite_twice, Int.toNat_natCast, app, addBs, tob])); (repeat (first | (refine And.intro ?_ ?_; · (first | decide | trivial | assumption | (intros; first | decide | trivial))))); with_reducible refine hK _ ?_; clear hK K) | refine run_ret ?_ | refine run_nil ?_)
  exact end_tmp1 rfl rfl rfl ⟨rfl, rfl⟩
theorem con72 (o : OpS) (H : Heap) : Con Try.prog 72 [.agg (opL o)] H (fun v H' => v = .c (.bool (o.imm.fdiv (2 ^ min 32 IntKind.u64.bits) == 0)) ∧ H' = H) := by
  refine Con.pure ?_ (by simp only [leArgs, leV, leV1, opL, leSegs, leSeg, leC, and_self]) rfl H
  (refine con_of_run mixed (fn := Try.f72) (by kernel_rfl) (by kernel_rfl) C72_ok (rs := [.tmp 2]) (by kernel_rfl) (Nat.le_of_ble_eq_true (by kernel_rfl)) ?_; unfold C72; simp only [initT, Nat.reduceAdd])
  repeat' (first | refine run_seq ?_ | (refine run_region fun K hK => ?_; (try (simp (maxSteps := 10000000) only [opL, C72r0, C72r1, rwp_nil, rwp_cons, rwpK_app, aop, gpath, St.get, slotAt, sfx, eqP, segsOf, St.put, addBlk, getB, setB, delB, ld1, ldn, st1, stn, setRow, rowNeed, segAt, nsub, bin, un, eqB, isShift, sameK, arith, shiftR, getsl, selB_or, selB_and, beqb, shed, addN, Nat.beq, Seg.size, sizes, imp, needP, andN, appL, argsOf, ptrsOf, aasOf, cut, takeS, dropS, putS, partsOf, fillS, fieldOf, nthA, negIf, nilq, nilB, eqS, eqF, eqS1, andP, kin, slcS, strOk, plusA, bndHi, leN, optG, roH, roL, initT, exOk, exAll, wrAddr, Nat.reduceAdd, Nat.reduceSub, Nat.reduceMul, Int.reduceToNat, List.append_nil, List.nil_append, List.cons_append, eqT, idxT, cat, cpy, ite_int, ite_bool, ite_seg, ite_segs, ite_nil, ite_twice, Int.toNat_natCast, app, addBs, tob])); (repeat (first | (refine And.intro ?_ ?_; · (first | decide | trivial | assumption | (intros; first | decide | trivial))))); with_reducible refine hK _ ?_; clear hK K) | refine run_ret ?_ | refine run_nil ?_)
  exact end_tmp1 rfl rfl rfl ⟨rfl, rfl⟩
theorem con67 (a : Int) (n : Nat) (X : List (Nat × Blk)) (hkl : keysLt X n) : Con Try.prog 67 [.c (.int .i64 a)] ⟨n, X⟩ (fun v H' => v = .c (.fn 98 [] [⟨n, 0, 0, 0⟩]) ∧ H' = addBs ⟨n, X⟩ [boxW a]) := by
  have h0 : Con Try.prog 67 [.c (.int .i64 a)] ⟨0, []⟩ (fun v H' => v = .c (.fn 98 [] [⟨0, 0, 0, 0⟩]) ∧ H' = ⟨1, [(0, boxW a)]⟩) := by
    (refine con_of_run mixed (fn := Try.f67) (by kernel_rfl) (by kernel_rfl) C67_ok (rs := [.tmp 2]) (by kernel_rfl) (Nat.le_of_ble_eq_true (by kernel_rfl)) ?_; unfold C67; simp only [initT, Nat.reduceAdd])
    repeat' (first | refine run_seq ?_ | (refine run_region fun K hK => ?_; (try (simp (maxSteps := 10000000) only [C67r0, C67r1, rwp_nil, rwp_cons, rwpK_app, aop, gpath, St.get, slotAt, sfx, eqP, segsOf, St.put, addBlk, getB, setB, delB, ld1, ldn, st1, stn, setRow, rowNeed, segAt, nsub, bin, un, eqB, isShift, sameK, arith, shiftR, getsl, selB_or, selB_and, beqb, shed, addN, Nat.beq, Seg.size, sizes, imp, needP, andN, appL, argsOf, ptrsOf, aasOf, cut, takeS, dropS, putS, partsOf, fillS, fieldOf, nthA, negIf, nilq, nilB, eqS, eqF, eqS1, andP, kin, slcS, strOk, plusA, bndHi, leN, optG, roH, roL, initT, exOk, exAll, wrAddr, Nat.reduceAdd, Nat.reduceSub, Nat.reduceMul, Int.reduceToNat, List.append_nil, List.nil_append, List.cons_append, eqT, idxT, cat, cpy, ite_int, ite_bool, ite_seg, ite_segs, ite_nil, ite_twice, Int.toNat_natCast, app, addBs, tob])); (repeat (first | (refine And.intro ?_ ?_; · first | trivial | assumption | omega))); with_reducible refine hK _ ?_; clear hK K) | refine run_ret ?_ | refine run_nil ?_)
    refine end_of ⟨[⟨2, [], .c (.fn 98 [] [⟨0, 0, 0, 0⟩])⟩], ⟨1, [(0, boxW a)]⟩⟩ (LeS.intro [0] (fun i h => absurd h (Nat.not_lt_zero i)) (by simp only [diff, notIn, Nat.beq, and_self]) rfl ?_ ?_) ⟨rfl, rfl⟩
    · simp only [slotsLe, slotAt, Nat.beq, leV, leV1, leC, leAL, leA, nthO, and_self]
    · simp only [leBlks, nthO, getB, Nat.beq]
      exact ⟨⟨rfl, rfl, id, Nat.le_refl _, fun _ _ => by simp only [boxW, leSegs, leSeg, leC, and_self]⟩, trivial⟩
  refine (h0.frame (H := ⟨n, X⟩) [] rfl trivial trivial hkl trivial (by simp only [leArgs, leV, leV1, leC, and_self])).weaken ?_
  rintro v H' ⟨v0, H0', ⟨rfl, rfl⟩, rfl, rfl⟩
  refine ⟨rfl, ?_⟩
  simp only [framed, dropB_none (l := []) (H0 := []) (fun _ => rfl)]
  rfl
theorem end_kind {l : List Slot} {H : Heap} {R : Post} {n : Nat} (w : ByteArray) (r i o : Bool) (u : Int) (d e a : Bool) (g : FuncId) (ok : Bool) (hsl : slotAt l 2 = some ⟨2, [], .c (.ptr ⟨n, 0, 0, 0⟩)⟩) (hok : slotAt l 3 = some ⟨3, [], .c (.bool ok)⟩) (hb : getB H.blks n = some (kindB (kindL w r i o u d e a (.fn g [] []))))
    (hR : R (kindV (kindL w r i o u d e a (.fn g [] [])) ok) ⟨1, [(0, kindB (kindL w r i o u d e a (.fn g [] [])))]⟩) : endQ (LeS 0) [.cn 9 2, .tmp 3] R .ret ⟨l, H⟩ := by
  refine end_of ⟨[⟨2, [], .c (.ptr ⟨0, 0, 0, 0⟩)⟩, ⟨3, [], .c (.bool ok)⟩], ⟨1, [(0, kindB (kindL w r i o u d e a (.fn g [] [])))]⟩⟩ (LeS.intro [n] (fun i h => absurd h (Nat.not_lt_zero i)) (by simp only [diff, notIn, and_self]) rfl (by simp only [slotsLe, hsl, hok, leV, leV1, leC, leA, nthO, and_self]) ?_) ?_
  · simp only [leBlks, nthO, hb]
    exact ⟨⟨rfl, rfl, id, Nat.le_refl _, fun _ _ => by simp only [kindB, kindL, leSegs, leSeg, leC, leAL, and_self]⟩, trivial⟩
  · simp only [endF, resL, resA, St.get, slotAt, Nat.beq, sfx, eqP, ldn, getB, kindB, kindL, rowNeed, cut, dropS, takeS, Seg.size, nsub, noTup, resV]
    exact hR
theorem forget_kind (w : ByteArray) (r i o : Bool) (u : Int) (d e a : Bool) (g : FuncId) (ok : Bool) {n : FuncId} {args : List AV} (h : Con Try.prog n args ⟨0, []⟩ fun v H' => v = kindV (kindL w r i o u d e a (.fn g [] [])) ok ∧ H' = ⟨1, [(0, kindB (kindL w r i o u d e a (.fn g [] [])))]⟩) (ha : leArgs [] args args) (H : Heap) : Con Try.prog n args H fun v H' => v = kindV (kindL w r i o u d e a (.fn g [] [])) ok ∧ H' = H := by
  refine Con.pure (Con.forget h ?_) ha rfl H
  rintro v H' ⟨rfl, rfl⟩
  exact ⟨_, ⟨0, []⟩, [], fun i h => absurd h (Nat.not_lt_zero i), trivial, rfl, trivial, by simp only [kindV, kindL, leV, leV1, leVL, leC, leSegs, leSeg, leAL, and_self], rfl, rfl⟩
set_option maxHeartbeats 8000000 in
theorem kind_P (k : Int) (w : ByteArray) (r i o : Bool) (u : Int) (d e a : Bool) (g : FuncId) (hk : (k = 1 ∧ w = ⟨#[99, 111, 110, 115, 116]⟩ ∧ r = false ∧ i = true ∧ o = false ∧ u = 0 ∧ d = true ∧ e = false ∧ a = false ∧ g = 66) ∨ (k = 4 ∧ w = ⟨#[103, 101, 116, 115, 112]⟩ ∧ r = false ∧ i = false ∧ o = false ∧ u = 0 ∧ d = true ∧ e = false ∧ a = false ∧ g = 66) ∨ (k = 5 ∧ w = ⟨#[115, 101, 116, 115, 112]⟩ ∧ r = false ∧ i = false ∧ o = false ∧ u = 1 ∧ d = false ∧ e = false ∧ a = false ∧ g = 66) ∨ (k = 8 ∧ w = ⟨#[97, 108, 117]⟩ ∧ r = true ∧ i = false ∧ o = false ∧ u = 2 ∧ d = true ∧ e = false ∧ a = false ∧ g = 68) ∨ (k = 13 ∧ w = ⟨#[102, 101, 110, 99, 101]⟩ ∧ r = true ∧ i = false ∧ o = false ∧ u = 0 ∧ d = false ∧ e = false ∧ a = false ∧ g = 70) ∨ (k = 14 ∧ w = ⟨#[97, 116]⟩ ∧ r = false ∧ i = true ∧ o = false ∧ u = 0 ∧ d = false ∧ e = false ∧ a = false ∧ g = 71) ∨ (k = 15 ∧ w = ⟨#[101, 120, 105, 116, 105, 102]⟩ ∧ r = false ∧ i = true ∧ o = false ∧ u = 1 ∧ d = false ∧ e = false ∧ a = false ∧ g = 66) ∨ (k = 16 ∧ w = ⟨#[101, 120, 105, 116]⟩ ∧ r = false ∧ i = true ∧ o = false ∧ u = 0 ∧ d = false ∧ e = true ∧ a = false ∧ g = 66) ∨ (k = 17 ∧ w = ⟨#[101, 120, 105, 116, 116, 111]⟩ ∧ r = false ∧ i = false ∧ o = false ∧ u = 1 ∧ d = false ∧ e = true ∧ a = false ∧ g = 66) ∨ (k = 18 ∧ w = ⟨#[103, 117, 101, 115, 116]⟩ ∧ r = false ∧ i = true ∧ o = false ∧ u = 0 ∧ d = false ∧ e = true ∧ a = false ∧ g = 72)) (H : Heap) : Con Try.prog 46 [.c (.int .i64 k)] H (fun v H' => v = kindV (kindL w r i o u d e a (.fn g [] [])) true ∧ H' = H) := by
  refine forget_kind _ _ _ _ _ _ _ _ _ _ ?_ (by simp only [leArgs, leV, leV1, leC, and_self]) H
  rcases hk with ⟨rfl, rfl, rfl, rfl, rfl, rfl, rfl, rfl, rfl, rfl⟩ | ⟨rfl, rfl, rfl, rfl, rfl, rfl, rfl, rfl, rfl, rfl⟩ | ⟨rfl, rfl, rfl, rfl, rfl, rfl, rfl, rfl, rfl, rfl⟩ | ⟨rfl, rfl, rfl, rfl, rfl, rfl, rfl, rfl, rfl, rfl⟩ | ⟨rfl, rfl, rfl, rfl, rfl, rfl, rfl, rfl, rfl, rfl⟩ | ⟨rfl, rfl, rfl, rfl, rfl, rfl, rfl, rfl, rfl, rfl⟩ | ⟨rfl, rfl, rfl, rfl, rfl, rfl, rfl, rfl, rfl, rfl⟩ | ⟨rfl, rfl, rfl, rfl, rfl, rfl, rfl, rfl, rfl, rfl⟩ | ⟨rfl, rfl, rfl, rfl, rfl, rfl, rfl, rfl, rfl, rfl⟩ | ⟨rfl, rfl, rfl, rfl, rfl, rfl, rfl, rfl, rfl, rfl⟩
  all_goals
    (refine con_of_run mixed (fn := Try.f46) (by kernel_rfl) (by kernel_rfl) C46_ok (rs := [.cn 9 2, .tmp 3]) (by kernel_rfl) (Nat.le_of_ble_eq_true (by kernel_rfl)) ?_; unfold C46; simp only [initT, Nat.reduceAdd])
    repeat' (first | refine run_seq ?_ | refine run_skip ?_ | (refine run_region fun K hK => ?_; (try (simp (maxSteps := 10000000) only [Int.reduceBEq, partsOf, fillS, C46r0, C46r1, C46r2, C46r3, C46r4, C46r5, C46r6, C46r7, C46r8, C46r9, C46r10, C46r11, C46r12, C46r13, C46r14, C46r15, C46r16, C46r17, C46r18, C46r19, C46r20, C46r21, C46r22, C46r23, C46r24, C46r25, C46r26, C46r27, C46r28, C46r29, C46r30, C46r31, C46r32, C46r33, C46r34, C46r35, C46r36, C46r37, C46r38, rwp_nil, rwp_cons, rwpK_app, aop, gpath, St.get, slotAt, sfx, eqP, segsOf, St.put, addBlk, getB, setB, delB, ld1, ldn, st1, stn, setRow, rowNeed, segAt, nsub, bin, un, eqB, isShift, sameK, arith, shiftR, getsl, selB_or, selB_and, beqb, shed, addN, Nat.beq, Seg.size, sizes, imp, needP, andN, appL, argsOf, ptrsOf, aasOf, cut, takeS, dropS, putS, partsOf, fillS, fieldOf, nthA, negIf, nilq, nilB, eqS, eqF, eqS1, andP, kin, slcS, strOk, plusA, bndHi, leN, optG, roH, roL, initT, exOk, exAll, wrAddr, Nat.reduceAdd, Nat.reduceSub, Nat.reduceMul, Int.reduceToNat, List.append_nil, List.nil_append, List.cons_append, eqT, idxT, cat, cpy, ite_int, ite_bool, ite_seg, ite_segs, ite_nil, ite_twice, Int.toNat_natCast, app, addBs, tob])); (repeat (first | (refine And.intro ?_ ?_; · first | trivial | assumption | omega))); with_reducible refine hK _ ?_; clear hK K) | (refine run_cond rfl (fun hc => ?_) (fun hc => ?_) <;> try (simp only [*, Bool.true_eq_false, Bool.false_eq_true, Bool.not_true, Bool.not_false, Bool.true_or, Bool.or_true, Bool.false_or, Bool.or_false, Bool.false_and, Bool.and_false, bne_self_eq_false, beq_self_eq_true] at hc; done)) | refine run_block ?_ | refine run_ret ?_ | refine run_nil ?_ | refine blk_normal ?_ | refine blk_ret ?_ | refine blk_here ?_ | refine blk_there rfl ?_)
    exact end_kind _ _ _ _ _ _ _ _ _ true rfl rfl rfl ⟨rfl, rfl⟩
end Go.Proofs.Ytmbnakinhnkabaa

namespace Go.Proofs.Ytmbnakinhnkabaa
open Go.AM
set_option maxRecDepth 100000
set_option linter.unusedSimpArgs false
set_option linter.unusedVariables false
def opB (o : OpS) : Blk := ⟨6, none, fun _ => opL o, 39, true⟩
theorem op_le {l : List Nat} (o : OpS) : leB l (opB o) (opB o) := ⟨rfl, rfl, id, Nat.le_refl _, fun _ _ => by simp only [opB, opL, leSegs, leSeg, leC, and_self]⟩
def boxR (v : Int) : Blk := ⟨1, none, fun _ => [.c (.int .i64 v)], 3, false⟩
theorem box_le {l : List Nat} (v : Int) (w : Bool) : leB l ⟨1, none, fun _ => [.c (.int .i64 v)], 3, w⟩ (boxR v) := ⟨rfl, rfl, fun h => (by cases h), Nat.le_refl _, fun _ _ => ⟨⟨rfl, rfl⟩, trivial⟩⟩
def upS (a : Int) (o : OpS) : Bool := decide (o.r ≥ 0) && decide (o.r ≤ a)
theorem con98 (a : Int) (o : OpS) : Con Try.prog 98 [.agg (opL o), .c (.ptr ⟨0, 0, 0, 0⟩)] ⟨1, [(0, boxR a)]⟩ (fun v H' => v = .c (.bool (upS a o)) ∧ H' = ⟨1, [(0, boxR a)]⟩) := by
  (refine con_of_run mixed (fn := Try.f98) (by kernel_rfl) (by kernel_rfl) C98_ok (rs := [.tmp 3]) (by kernel_rfl) (Nat.le_of_ble_eq_true (by kernel_rfl)) ?_; unfold C98; simp only [initT, Nat.reduceAdd])
  generalize hR : (fun (v : AV) (H' : Heap) => v = AV.c (.bool (upS a o)) ∧ H' = ⟨1, [(0, boxR a)]⟩) = R
  simp only [boxR]
  repeat' (first | refine run_seq ?_ | (refine run_region fun K hK => ?_; (try (simp (maxSteps := 10000000) only [opL, C98r0, C98r1, rwp_nil, rwp_cons, rwpK_app, aop, gpath, St.get, slotAt, sfx, eqP, segsOf, St.put, addBlk, getB, setB, delB, ld1, ldn, st1, stn, setRow, rowNeed, segAt, nsub, bin, un, eqB, isShift, sameK, arith, shiftR, getsl, selB_or, selB_and, beqb, shed, addN, Nat.beq, Seg.size, sizes, imp, needP, andN, appL, argsOf, ptrsOf, aasOf, cut, takeS, dropS, putS, partsOf, fillS, fieldOf, nthA, negIf, nilq, nilB, eqS, eqF, eqS1, andP, kin, slcS, strOk, plusA, bndHi, leN, optG, roH, roL, initT, exOk, exAll, wrAddr, Nat.reduceAdd, Nat.reduceSub, Nat.reduceMul, Int.reduceToNat, List.append_nil, List.nil_append, List.cons_append, eqT, idxT, cat, cpy, ite_int, ite_bool, ite_seg, ite_segs, ite_nil, ite_twice, Int.toNat_natCast, app, addBs, tob])); (repeat (first | (refine And.intro ?_ ?_; · (first | decide | trivial | (intros; first | decide | trivial))))); with_reducible refine hK _ ?_; clear hK K) | refine run_ret ?_ | refine run_nil ?_)
  subst hR
  exact end_of ⟨[⟨3, [], .c (.bool (upS a o))⟩], ⟨1, [(0, boxR a)]⟩⟩ (LeS.intro [0] idt1 (by simp only [diff, notIn, Nat.beq, and_self]) rfl ⟨rfl, trivial⟩ ⟨box_le _ _, trivial⟩) ⟨rfl, rfl⟩
theorem con98_at (a : Int) (o : OpS) (j n : Nat) (X : List (Nat × Blk)) (w : Bool) (hj : getB X j = some ⟨1, none, fun _ => [.c (.int .i64 a)], 3, w⟩) (hlt : j < n) (hkl : keysLt X n) : Con Try.prog 98 [.agg (opL o), .c (.ptr ⟨j, 0, 0, 0⟩)] ⟨n, X⟩ (fun v H' => v = .c (.bool (upS a o)) ∧ H' = ⟨n, X⟩) :=
  ro_gen (con98 a o) [j] n X rfl ⟨trivial, trivial⟩ ⟨hlt, trivial⟩ hkl (by simp only [leBlks, nthO, hj]; exact ⟨box_le a w, trivial⟩) (by simp only [leArgs, leV, leV1, opL, leSegs, leSeg, leC, leA, nthO, and_self]) rfl (fun _ => rfl) rfl rfl
def intsB (n : Nat) (f : Nat → Int) : Blk := ⟨1, some n, fun i => [.c (.int .i64 (f i))], 3, false⟩
theorem ints_le {l : List Nat} (n : Nat) (f : Nat → Int) (w : Bool) : leB l ⟨1, some n, fun i => [.c (.int .i64 (f i))], 3, w⟩ (intsB n f) := ⟨rfl, rfl, fun h => (by cases h), Nat.le_refl _, fun _ _ => ⟨⟨rfl, rfl⟩, trivial⟩⟩
def slB (a n : Nat) (w : Bool) : Blk := ⟨1, none, fun _ => [.c (.slice ⟨a, 0, 0, 0⟩ false n)], 59, w⟩
theorem sl_le {l : List Nat} (a n : Nat) (ha : nthO l a = some a) : leB l (slB a n false) (slB a n false) := ⟨rfl, rfl, id, Nat.le_refl _, fun _ _ => by simp only [slB, leSegs, leSeg, leC, leA, ha, and_self]⟩
def inB (f : Nat → Int) (v : Int) : Nat → Nat → Bool
  | 0, _ => false
  | m + 1, k => (v == f k) || inB f v m (k + 1)
def ordSt (n : Nat) (f : Nat → Int) (o : OpS) (k : Nat) : St := ⟨[⟨8, [], .c (.int .i64 k)⟩, ⟨7, [], .c (.int .i64 n)⟩, ⟨6, [], .c (.slice ⟨0, 0, 0, 0⟩ false n)⟩, ⟨2, [], .c (.ptr ⟨2, 0, 0, 0⟩)⟩], ⟨3, [(2, opB o), (1, slB 0 n false), (0, intsB n f)]⟩⟩
theorem con99 (n : Nat) (f : Nat → Int) (o : OpS) (hn : n < 1000) : Con Try.prog 99 [.agg (opL o), .c (.ptr ⟨1, 0, 0, 0⟩)] ⟨2, [(1, slB 0 n false), (0, intsB n f)]⟩ (fun v H' => v = .c (.bool (inB f o.order n 0)) ∧ H' = ⟨2, [(1, slB 0 n false), (0, intsB n f)]⟩) := by
  (refine con_of_run mixed (fn := Try.f99) (by kernel_rfl) (by kernel_rfl) C99_ok (rs := [.tmp 3]) (by kernel_rfl) (Nat.le_of_ble_eq_true (by kernel_rfl)) ?_; unfold C99; simp only [initT, Nat.reduceAdd])
  generalize hT : inB f o.order n 0 = T
  generalize hR : (fun (v : AV) (H' : Heap) => v = AV.c (.bool T) ∧ H' = ⟨2, [(1, slB 0 n false), (0, intsB n f)]⟩) = R
  have hend : ∀ (l : List Slot) (X : List (Nat × Blk)), slotAt l 3 = some ⟨3, [], .c (.bool T)⟩ → getB X 0 = some (intsB n f) → getB X 1 = some (slB 0 n false) → endQ (LeS 2) [.tmp 3] R .ret ⟨l, ⟨3, X⟩⟩ := by
    intro l X h3 h0 h1
    subst hR
    exact end_of ⟨[⟨3, [], .c (.bool T)⟩], ⟨2, [(1, slB 0 n false), (0, intsB n f)]⟩⟩ (LeS.intro [0, 1] idt2 (by simp only [diff, notIn, Nat.beq, and_self]) rfl (by simp only [slotsLe, h3, leV, leV1, leC, and_self]) (by simp only [leBlks, nthO, h0, h1]; exact ⟨sl_le 0 n rfl, ints_le n f _, trivial⟩)) ⟨rfl, rfl⟩
  simp only [slB]
  repeat' (first | refine run_seq ?_ | refine run_skip ?_ | (refine run_region fun K hK => ?_; (try (simp (maxSteps := 10000000) only [opL, C99r0, C99r2, C99r3, C99r4, C99r5, C99r6, C99r7, rwp_nil, rwp_cons, rwpK_app, aop, gpath, St.get, slotAt, sfx, eqP, segsOf, St.put, addBlk, getB, setB, delB, ld1, ldn, st1, stn, setRow, rowNeed, segAt, nsub, bin, un, eqB, isShift, sameK, arith, shiftR, getsl, selB_or, selB_and, beqb, shed, addN, Nat.beq, Seg.size, sizes, imp, needP, andN, appL, argsOf, ptrsOf, aasOf, cut, takeS, dropS, putS, partsOf, fillS, fieldOf, nthA, negIf, nilq, nilB, eqS, eqF, eqS1, andP, kin, slcS, strOk, plusA, bndHi, leN, optG, roH, roL, initT, exOk, exAll, wrAddr, Nat.reduceAdd, Nat.reduceSub, Nat.reduceMul, Int.reduceToNat, List.append_nil, List.nil_append, List.cons_append, eqT, idxT, cat, cpy, ite_int, ite_bool, ite_seg, ite_segs, ite_nil, ite_twice, Int.toNat_natCast, app, addBs, tob])); (repeat (first | (refine And.intro ?_ ?_; · decide))); with_reducible refine hK _ ?_; clear hK K) | (refine run_cond rfl (fun hc => ?_) (fun hc => ?_) <;> try (simp only [*, Bool.true_eq_false, Bool.false_eq_true, Bool.not_true, Bool.not_false, Bool.true_or, Bool.or_true, Bool.false_or, Bool.or_false, Bool.false_and, Bool.and_false, bne_self_eq_false, beq_self_eq_true] at hc; done)) | refine run_block ?_ | refine run_ret ?_ | refine run_nil ?_ | refine run_exit ?_ | refine blk_normal ?_ | refine blk_ret ?_ | refine blk_here ?_ | refine blk_there rfl ?_ | refine loop_exit ?_ | refine loop_ret ?_ | refine un_exit ?_ | refine un_ret ?_ | refine unE_exit ?_ | refine unE_ret ?_ | refine un_normal ?_)
  (refine run_regionL fun K hK => ?_; (try (simp (maxSteps := 10000000) only [opL, C99r0, C99r1, C99r2, C99r3, C99r4, C99r5, C99r6, C99r7, rwp_nil, rwp_cons, rwpK_app, aop, gpath, St.get, slotAt, sfx, eqP, segsOf, St.put, addBlk, getB, setB, delB, ld1, ldn, st1, stn, setRow, rowNeed, segAt, nsub, bin, un, eqB, isShift, sameK, arith, shiftR, getsl, selB_or, selB_and, beqb, shed, addN, Nat.beq, Seg.size, sizes, imp, needP, andN, appL, argsOf, ptrsOf, aasOf, cut, takeS, dropS, putS, partsOf, fillS, fieldOf, nthA, negIf, nilq, nilB, eqS, eqF, eqS1, andP, kin, slcS, strOk, plusA, bndHi, leN, optG, roH, roL, initT, exOk, exAll, wrAddr, Nat.reduceAdd, Nat.reduceSub, Nat.reduceMul, Int.reduceToNat, List.append_nil, List.nil_append, List.cons_append, eqT, idxT, cat, cpy, ite_int, ite_bool, ite_seg, ite_segs, ite_nil, ite_twice, Int.toNat_natCast, app, addBs, tob])); (repeat (first | (refine And.intro ?_ ?_; · first | trivial | assumption | omega))); refine hK _ (ordSt n f o 0) ((LeS.intro [0, 1, 2] (fun i h => by match i, h with | 0, _ => rfl | 1, _ => rfl) (by simp only [diff, notIn, Nat.beq, and_self]) rfl (by simp only [ordSt, slotsLe, slotAt, Nat.beq, leV, leV1, leC, leA, nthO, and_self, Int.natCast_zero]) ⟨op_le o, sl_le 0 n rfl, ints_le n f _, trivial⟩)) ?_; clear hK K)
  refine run_block ?_
  refine run_loop (fun q st => ∃ k : Nat, st = ordSt n f o k ∧ q = n - k ∧ k ≤ n ∧ inB f o.order (n - k) k = T) n ⟨0, rfl, rfl, Nat.zero_le _, hT⟩ ?_
  clear hT
  rintro q st ⟨k, rfl, hq, hk, hT⟩
  simp only [ordSt, opB, intsB]
  repeat' (first | refine run_seq ?_ | refine run_skip ?_ | (refine run_region fun K hK => ?_; (try (simp (maxSteps := 10000000) only [opL, C99r0, C99r1, C99r2, C99r3, C99r4, C99r5, C99r6, C99r7, rwp_nil, rwp_cons, rwpK_app, aop, gpath, St.get, slotAt, sfx, eqP, segsOf, St.put, addBlk, getB, setB, delB, ld1, ldn, st1, stn, setRow, rowNeed, segAt, nsub, bin, un, eqB, isShift, sameK, arith, shiftR, getsl, selB_or, selB_and, beqb, shed, addN, Nat.beq, Seg.size, sizes, imp, needP, andN, appL, argsOf, ptrsOf, aasOf, cut, takeS, dropS, putS, partsOf, fillS, fieldOf, nthA, negIf, nilq, nilB, eqS, eqF, eqS1, andP, kin, slcS, strOk, plusA, bndHi, leN, optG, roH, roL, initT, exOk, exAll, wrAddr, Nat.reduceAdd, Nat.reduceSub, Nat.reduceMul, Int.reduceToNat, List.append_nil, List.nil_append, List.cons_append, eqT, idxT, cat, cpy, ite_int, ite_bool, ite_seg, ite_segs, ite_nil, ite_twice, Int.toNat_natCast, app, addBs, tob])); (repeat (first | (refine And.intro ?_ ?_; · (first | decide | omega | (simp only [decide_eq_true_eq] at hc; omega))))); with_reducible refine hK _ ?_; clear hK K) | (refine run_cond rfl (fun hc => ?_) (fun hc => ?_) <;> try (simp only [*, Bool.true_eq_false, Bool.false_eq_true, Bool.not_true, Bool.not_false, Bool.true_or, Bool.or_true, Bool.false_or, Bool.or_false, Bool.false_and, Bool.and_false, bne_self_eq_false, beq_self_eq_true] at hc; done)) | refine run_block ?_ | refine run_ret ?_ | refine run_nil ?_ | refine run_exit ?_ | refine blk_normal ?_ | refine blk_ret ?_ | refine blk_here ?_ | refine blk_there rfl ?_ | refine loop_exit ?_ | refine loop_ret ?_ | refine un_exit ?_ | refine un_ret ?_ | refine unE_exit ?_ | refine unE_ret ?_ | refine un_normal ?_)
  · have hlt : k < n := by simpa using ‹decide ((k : Int) < (n : Int)) = true›
    obtain ⟨m, hm⟩ : ∃ m, n - k = m + 1 := ⟨n - k - 1, by omega⟩
    have hb : (o.order == f k) = true := by assumption
    rw [hm] at hT
    unfold inB at hT
    rw [hb, Bool.true_or] at hT
    exact hend _ _ (by rw [← hT]; rfl) rfl rfl
  · have hlt : k < n := by simpa using ‹decide ((k : Int) < (n : Int)) = true›
    obtain ⟨m, hm⟩ : ∃ m, n - k = m + 1 := ⟨n - k - 1, by omega⟩
    have hw : IntKind.i64.wrap ((k : Int) + 1) = ((k + 1 : Nat) : Int) := by rw [IntKind.wrap_i64]; omega
    have hb : (o.order == f k) = false := by assumption
    rw [hm] at hT
    unfold inB at hT
    rw [hb, Bool.false_or] at hT
    rw [hw]
    exact loop_normal m (ordSt n f o (k + 1)) (by omega) (LeS.intro [0, 1, 2] (fun i h => by match i, h with | 0, _ => rfl | 1, _ => rfl) (by simp only [diff, notIn, Nat.beq, and_self]) rfl (by simp only [ordSt, slotsLe, slotAt, Nat.beq, leV, leV1, leC, leA, nthO, and_self]) ⟨op_le o, sl_le 0 n rfl, ints_le n f _, trivial⟩) ⟨k + 1, rfl, by omega, by omega, by rw [show n - (k + 1) = m by omega]; exact hT⟩
  · have hge : ¬ k < n := by simpa using ‹decide ((k : Int) < (n : Int)) = false›
    have h0 : n - k = 0 := by omega
    rw [h0] at hT
    have e : false = T := hT
    exact hend _ _ (by rw [← e]; rfl) rfl rfl
end Go.Proofs.Ytmbnakinhnkabaa

namespace Go.Proofs.Ytmbnakinhnkabaa
open Go.AM
set_option maxRecDepth 100000
set_option linter.unusedSimpArgs false
set_option linter.unusedVariables false
theorem con69 (m j n : Nat) (X : List (Nat × Blk)) (hj : j < n) (hkl : keysLt X n) : Con Try.prog 69 [.c (.slice ⟨j, 0, 0, 0⟩ false m)] ⟨n, X⟩ (fun v H' => v = .c (.fn 99 [] [⟨n, 0, 0, 0⟩]) ∧ H' = addBs ⟨n, X⟩ [slB j m true]) := by
  have h0 : Con Try.prog 69 [.c (.slice ⟨0, 0, 0, 0⟩ false m)] ⟨1, []⟩ (fun v H' => v = .c (.fn 99 [] [⟨1, 0, 0, 0⟩]) ∧ H' = ⟨2, [(1, slB 0 m true)]⟩) := by
    (refine con_of_run mixed (fn := Try.f69) (by kernel_rfl) (by kernel_rfl) C69_ok (rs := [.tmp 2]) (by kernel_rfl) (Nat.le_of_ble_eq_true (by kernel_rfl)) ?_; unfold C69; simp only [initT, Nat.reduceAdd])
    repeat' (first | refine run_seq ?_ | (refine run_region fun K hK => ?_; (try (simp (maxSteps := 10000000) only [C69r0, C69r1, rwp_nil, rwp_cons, rwpK_app, aop, gpath, St.get, slotAt, sfx, eqP, segsOf, St.put, addBlk, getB, setB, delB, ld1, ldn, st1, stn, setRow, rowNeed, segAt, nsub, bin, un, eqB, isShift, sameK, arith, shiftR, getsl, selB_or, selB_and, beqb, shed, addN, Nat.beq, Seg.size, sizes, imp, needP, andN, appL, argsOf, ptrsOf, aasOf, cut, takeS, dropS, putS, partsOf, fillS, fieldOf, nthA, negIf, nilq, nilB, eqS, eqF, eqS1, andP, kin, slcS, strOk, plusA, bndHi, leN, optG, roH, roL, initT, exOk, exAll, wrAddr, Nat.reduceAdd, Nat.reduceSub, Nat.reduceMul, Int.reduceToNat, List.append_nil, List.nil_append, List.cons_append, eqT, idxT, cat, cpy, ite_int, ite_bool, ite_seg, ite_segs, ite_nil, ite_twice, Int.toNat_natCast, app, addBs, tob])); (repeat (first | (refine And.intro ?_ ?_; · first | trivial | assumption | omega))); with_reducible refine hK _ ?_; clear hK K) | refine run_ret ?_ | refine run_nil ?_)
    refine end_of ⟨[⟨2, [], .c (.fn 99 [] [⟨1, 0, 0, 0⟩])⟩], ⟨2, [(1, slB 0 m true)]⟩⟩ (LeS.intro [0, 1] (fun i h => by match i, h with | 0, _ => rfl) (by simp only [diff, notIn, Nat.beq, and_self]) rfl ?_ ?_) ⟨rfl, rfl⟩
    · simp only [slotsLe, slotAt, Nat.beq, leV, leV1, leC, leAL, leA, nthO, and_self]
    · simp only [leBlks, nthO, getB, Nat.beq]
      exact ⟨⟨rfl, rfl, id, Nat.le_refl _, fun _ _ => by simp only [slB, leSegs, leSeg, leC, leA, nthO, and_self]⟩, trivial⟩
  refine (h0.frame (H := ⟨n, X⟩) [j] rfl ⟨trivial, trivial⟩ ⟨hj, trivial⟩ hkl trivial (by simp only [leArgs, leV, leV1, leC, leA, nthO, and_self])).weaken ?_
  rintro v H' ⟨v0, H0', ⟨rfl, rfl⟩, rfl, rfl⟩
  refine ⟨rfl, ?_⟩
  simp only [framed, dropB_none (l := [j]) (H0 := []) (fun _ => rfl)]
  rfl
theorem end_kindQ {l : List Slot} {H : Heap} {R : Post} (w : ByteArray) (r i o : Bool) (u : Int) (d e a : Bool) (t : Int) (ok : Bool) (hsl : slotAt l 2 = some ⟨2, [], .c (.ptr ⟨0, 0, 0, 0⟩)⟩) (hok : slotAt l 3 = some ⟨3, [], .c (.bool ok)⟩) (hb : getB H.blks 0 = some (kindB (kindL w r i o u d e a (.fn 98 [] [⟨1, 0, 0, 0⟩])))) (hx : getB H.blks 1 = some (boxW t))
    (hR : R (kindV (kindL w r i o u d e a (.fn 98 [] [⟨0, 0, 0, 0⟩])) ok) ⟨2, [(1, kindB (kindL w r i o u d e a (.fn 98 [] [⟨0, 0, 0, 0⟩]))), (0, boxW t)]⟩) : endQ (LeS 0) [.cn 9 2, .tmp 3] R .ret ⟨l, H⟩ := by
  refine end_of ⟨[⟨2, [], .c (.ptr ⟨1, 0, 0, 0⟩)⟩, ⟨3, [], .c (.bool ok)⟩], ⟨2, [(1, kindB (kindL w r i o u d e a (.fn 98 [] [⟨0, 0, 0, 0⟩]))), (0, boxW t)]⟩⟩ (LeS.intro [1, 0] (fun i h => absurd h (Nat.not_lt_zero i)) (by simp only [diff, notIn, Nat.beq, and_self]) rfl (by simp only [slotsLe, hsl, hok, leV, leV1, leC, leA, nthO, and_self]) ?_) ?_
  · simp only [leBlks, nthO, hb, hx]
    exact ⟨⟨rfl, rfl, id, Nat.le_refl _, fun _ _ => by simp only [kindB, kindL, leSegs, leSeg, leC, leAL, leA, nthO, and_self]⟩, ⟨rfl, rfl, id, Nat.le_refl _, fun _ _ => by simp only [boxW, leSegs, leSeg, leC, and_self]⟩, trivial⟩
  · simp only [endF, resL, resA, St.get, slotAt, Nat.beq, sfx, eqP, ldn, getB, kindB, kindL, rowNeed, cut, dropS, takeS, Seg.size, nsub, noTup, resV]
    exact hR
theorem frame_kindQ (w : ByteArray) (r i o : Bool) (u : Int) (d e a : Bool) (t : Int) (ok : Bool) {m : FuncId} {args : List AV} (h : Con Try.prog m args ⟨0, []⟩ fun v H' => v = kindV (kindL w r i o u d e a (.fn 98 [] [⟨0, 0, 0, 0⟩])) ok ∧ H' = ⟨2, [(1, kindB (kindL w r i o u d e a (.fn 98 [] [⟨0, 0, 0, 0⟩]))), (0, boxW t)]⟩) (ha : leArgs [] args args) (n : Nat) (X : List (Nat × Blk)) (hkl : keysLt X n) : Con Try.prog m args ⟨n, X⟩ fun v H' => v = kindV (kindL w r i o u d e a (.fn 98 [] [⟨n, 0, 0, 0⟩])) ok ∧ H' = addBs ⟨n, X⟩ [boxW t] := by
  have h1 : Con Try.prog m args ⟨0, []⟩ fun v H' => v = kindV (kindL w r i o u d e a (.fn 98 [] [⟨0, 0, 0, 0⟩])) ok ∧ H' = ⟨1, [(0, boxW t)]⟩ := by
    refine Con.forget h ?_
    rintro v H' ⟨rfl, rfl⟩
    exact ⟨_, ⟨1, [(0, boxW t)]⟩, [0], fun i h => absurd h (Nat.not_lt_zero i), ⟨trivial, trivial⟩, rfl, ⟨⟨rfl, rfl, id, Nat.le_refl _, fun _ _ => by simp only [boxW, leSegs, leSeg, leC, and_self]⟩, trivial⟩, by simp only [kindV, kindL, leV, leV1, leVL, leC, leSegs, leSeg, leAL, leA, nthO, and_self], rfl, rfl⟩
  refine (h1.frame (H := ⟨n, X⟩) [] rfl trivial trivial hkl trivial ha).weaken ?_
  rintro v H' ⟨v0, H0', ⟨rfl, rfl⟩, rfl, rfl⟩
  refine ⟨rfl, ?_⟩
  simp only [framed, dropB_none (l := []) (H0 := []) (fun _ => rfl)]
  rfl
set_option maxHeartbeats 8000000 in
theorem kind_Q (k : Int) (w : ByteArray) (r i o : Bool) (u : Int) (d e a : Bool) (t : Int) (hk : (k = 2 ∧ w = ⟨#[103, 101, 116, 120]⟩ ∧ r = true ∧ i = false ∧ o = false ∧ u = 0 ∧ d = true ∧ e = false ∧ a = false ∧ t = 30) ∨ (k = 3 ∧ w = ⟨#[115, 101, 116, 120]⟩ ∧ r = true ∧ i = false ∧ o = false ∧ u = 1 ∧ d = false ∧ e = false ∧ a = false ∧ t = 30) ∨ (k = 6 ∧ w = ⟨#[103, 101, 116, 102]⟩ ∧ r = true ∧ i = false ∧ o = false ∧ u = 0 ∧ d = true ∧ e = false ∧ a = false ∧ t = 3) ∨ (k = 7 ∧ w = ⟨#[115, 101, 116, 102]⟩ ∧ r = true ∧ i = false ∧ o = false ∧ u = 1 ∧ d = false ∧ e = false ∧ a = false ∧ t = 3)) (n : Nat) (X : List (Nat × Blk)) (hkl : keysLt X n) : Con Try.prog 46 [.c (.int .i64 k)] ⟨n, X⟩ (fun v H' => v = kindV (kindL w r i o u d e a (.fn 98 [] [⟨n, 0, 0, 0⟩])) true ∧ H' = addBs ⟨n, X⟩ [boxW t]) := by
  refine frame_kindQ _ _ _ _ _ _ _ _ _ _ ?_ (by simp only [leArgs, leV, leV1, leC, and_self]) n X hkl
  rcases hk with ⟨rfl, rfl, rfl, rfl, rfl, rfl, rfl, rfl, rfl, rfl⟩ | ⟨rfl, rfl, rfl, rfl, rfl, rfl, rfl, rfl, rfl, rfl⟩ | ⟨rfl, rfl, rfl, rfl, rfl, rfl, rfl, rfl, rfl, rfl⟩ | ⟨rfl, rfl, rfl, rfl, rfl, rfl, rfl, rfl, rfl, rfl⟩
  all_goals
    (refine con_of_run mixed (fn := Try.f46) (by kernel_rfl) (by kernel_rfl) C46_ok (rs := [.cn 9 2, .tmp 3]) (by kernel_rfl) (Nat.le_of_ble_eq_true (by kernel_rfl)) ?_; unfold C46; simp only [initT, Nat.reduceAdd])
    repeat' (first | refine run_seq ?_ | refine run_skip ?_ | (refine run_region fun K hK => ?_; (try (simp (maxSteps := 10000000) only [Int.reduceBEq, partsOf, fillS, C46r0, C46r1, C46r2, C46r3, C46r4, C46r5, C46r6, C46r7, C46r8, C46r9, C46r10, C46r11, C46r12, C46r13, C46r14, C46r15, C46r16, C46r17, C46r18, C46r19, C46r20, C46r21, C46r22, C46r23, C46r24, C46r25, C46r26, C46r27, C46r28, C46r29, C46r30, C46r31, C46r32, C46r33, C46r34, C46r35, C46r36, C46r37, C46r38, rwp_nil, rwp_cons, rwpK_app, aop, gpath, St.get, slotAt, sfx, eqP, segsOf, St.put, addBlk, getB, setB, delB, ld1, ldn, st1, stn, setRow, rowNeed, segAt, nsub, bin, un, eqB, isShift, sameK, arith, shiftR, getsl, selB_or, selB_and, beqb, shed, addN, Nat.beq, Seg.size, sizes, imp, needP, andN, appL, argsOf, ptrsOf, aasOf, cut, takeS, dropS, putS, partsOf, fillS, fieldOf, nthA, negIf, nilq, nilB, eqS, eqF, eqS1, andP, kin, slcS, strOk, plusA, bndHi, leN, optG, roH, roL, initT, exOk, exAll, wrAddr, Nat.reduceAdd, Nat.reduceSub, Nat.reduceMul, Int.reduceToNat, List.append_nil, List.nil_append, List.cons_append, eqT, idxT, cat, cpy, ite_int, ite_bool, ite_seg, ite_segs, ite_nil, ite_twice, Int.toNat_natCast, app, addBs, tob])); (repeat (first | (refine And.intro ?_ ?_; · first | trivial | assumption | omega) | ((first | (refine call_t _ (con67 _ _ _ (by simp [roL, keysLt, boxW])) ?_; rintro v H' ⟨rfl, rfl⟩) | refine call_q _ (con67 _ _ _ (by simp [roL, keysLt, boxW])) ?_ | refine call_g _ (imp_of (con67 _ _ _ (by simp [roL, keysLt, boxW]))) ?_); simp (maxSteps := 10000000) only [Int.reduceBEq, partsOf, fillS, C46r0, C46r1, C46r2, C46r3, C46r4, C46r5, C46r6, C46r7, C46r8, C46r9, C46r10, C46r11, C46r12, C46r13, C46r14, C46r15, C46r16, C46r17, C46r18, C46r19, C46r20, C46r21, C46r22, C46r23, C46r24, C46r25, C46r26, C46r27, C46r28, C46r29, C46r30, C46r31, C46r32, C46r33, C46r34, C46r35, C46r36, C46r37, C46r38, rwp_nil, rwp_cons, rwpK_app, aop, gpath, St.get, slotAt, sfx, eqP, segsOf, St.put, addBlk, getB, setB, delB, ld1, ldn, st1, stn, setRow, rowNeed, segAt, nsub, bin, un, eqB, isShift, sameK, arith, shiftR, getsl, selB_or, selB_and, beqb, shed, addN, Nat.beq, Seg.size, sizes, imp, needP, andN, appL, argsOf, ptrsOf, aasOf, cut, takeS, dropS, putS, partsOf, fillS, fieldOf, nthA, negIf, nilq, nilB, eqS, eqF, eqS1, andP, kin, slcS, strOk, plusA, bndHi, leN, optG, roH, roL, initT, exOk, exAll, wrAddr, Nat.reduceAdd, Nat.reduceSub, Nat.reduceMul, Int.reduceToNat, List.append_nil, List.nil_append, List.cons_append, eqT, idxT, cat, cpy, ite_int, ite_bool, ite_seg, ite_segs, ite_nil, ite_twice, Int.toNat_natCast, app, addBs, tob]))); with_reducible refine hK _ ?_; clear hK K) | (refine run_cond rfl (fun hc => ?_) (fun hc => ?_) <;> try (simp only [*, Bool.true_eq_false, Bool.false_eq_true, Bool.not_true, Bool.not_false, Bool.true_or, Bool.or_true, Bool.false_or, Bool.or_false, Bool.false_and, Bool.and_false, bne_self_eq_false, beq_self_eq_true] at hc; done)) | refine run_block ?_ | refine run_ret ?_ | refine run_nil ?_ | refine blk_normal ?_ | refine blk_ret ?_ | refine blk_here ?_ | refine blk_there rfl ?_)
    exact end_kindQ _ _ _ _ _ _ _ _ _ true rfl rfl rfl rfl ⟨rfl, rfl⟩
def ordF (f1 f2 : Int) : Nat → Int
  | 0 => 0
  | 1 => f1
  | _ => f2
def intsW (m : Nat) (f : Nat → Int) : Blk := ⟨1, some m, fun i => [.c (.int .i64 (f i))], 3, true⟩
theorem rows2 (f1 f2 : Int) (i : Nat) (hi : i < 2) : cutD [Seg.c (.int .i64 0), Seg.c (.int .i64 f1)] (i * 1) 1 = [Seg.c (.int .i64 (ordF f1 f2 i))] := by
  match i, hi with
  | 0, _ => rfl
  | 1, _ => rfl
theorem rows3 (f1 f2 : Int) (i : Nat) (hi : i < 3) : cutD [Seg.c (.int .i64 0), Seg.c (.int .i64 f1), Seg.c (.int .i64 f2)] (i * 1) 1 = [Seg.c (.int .i64 (ordF f1 f2 i))] := by
  match i, hi with
  | 0, _ => rfl
  | 1, _ => rfl
  | 2, _ => rfl
theorem end_kindS {l : List Slot} {H : Heap} {R : Post} (w : ByteArray) (r i o : Bool) (u : Int) (d e a : Bool) (m : Nat) (f : Nat → Int) (row : Nat → List Seg) (ok : Bool) (hsl : slotAt l 2 = some ⟨2, [], .c (.ptr ⟨0, 0, 0, 0⟩)⟩) (hok : slotAt l 3 = some ⟨3, [], .c (.bool ok)⟩) (hb : getB H.blks 0 = some (kindB (kindL w r i o u d e a (.fn 99 [] [⟨2, 0, 0, 0⟩])))) (hx : getB H.blks 1 = some ⟨1, some m, row, 3, true⟩) (hy : getB H.blks 2 = some (slB 1 m true)) (hrow : ∀ i, i < m → row i = [.c (.int .i64 (f i))])
    (hR : R (kindV (kindL w r i o u d e a (.fn 99 [] [⟨1, 0, 0, 0⟩])) ok) ⟨3, [(2, kindB (kindL w r i o u d e a (.fn 99 [] [⟨1, 0, 0, 0⟩]))), (1, slB 0 m true), (0, intsW m f)]⟩) : endQ (LeS 0) [.cn 9 2, .tmp 3] R .ret ⟨l, H⟩ := by
  refine end_of ⟨[⟨2, [], .c (.ptr ⟨2, 0, 0, 0⟩)⟩, ⟨3, [], .c (.bool ok)⟩], ⟨3, [(2, kindB (kindL w r i o u d e a (.fn 99 [] [⟨1, 0, 0, 0⟩]))), (1, slB 0 m true), (0, intsW m f)]⟩⟩ (LeS.intro [1, 2, 0] (fun i h => absurd h (Nat.not_lt_zero i)) (by simp only [diff, notIn, Nat.beq, and_self]) rfl (by simp only [slotsLe, hsl, hok, leV, leV1, leC, leA, nthO, and_self]) ?_) ?_
  · simp only [leBlks, nthO, hb, hx, hy]
    exact ⟨⟨rfl, rfl, id, Nat.le_refl _, fun _ _ => by simp only [kindB, kindL, leSegs, leSeg, leC, leAL, leA, nthO, and_self]⟩, ⟨rfl, rfl, id, Nat.le_refl _, fun _ _ => by simp only [slB, leSegs, leSeg, leC, leA, nthO, and_self]⟩, ⟨rfl, rfl, id, Nat.le_refl _, fun i hi => by show leSegs _ (row i) _; rw [hrow i hi]; simp only [intsW, leSegs, leSeg, leC, and_self]⟩, trivial⟩
  · simp only [endF, resL, resA, St.get, slotAt, Nat.beq, sfx, eqP, ldn, getB, kindB, kindL, rowNeed, cut, dropS, takeS, Seg.size, nsub, noTup, resV]
    exact hR
theorem frame_kindS (w : ByteArray) (r i o : Bool) (u : Int) (d e a : Bool) (c : Nat) (f : Nat → Int) (ok : Bool) {m : FuncId} {args : List AV} (h : Con Try.prog m args ⟨0, []⟩ fun v H' => v = kindV (kindL w r i o u d e a (.fn 99 [] [⟨1, 0, 0, 0⟩])) ok ∧ H' = ⟨3, [(2, kindB (kindL w r i o u d e a (.fn 99 [] [⟨1, 0, 0, 0⟩]))), (1, slB 0 c true), (0, intsW c f)]⟩) (ha : leArgs [] args args) (n : Nat) (X : List (Nat × Blk)) (hkl : keysLt X n) : Con Try.prog m args ⟨n, X⟩ fun v H' => v = kindV (kindL w r i o u d e a (.fn 99 [] [⟨n + 1, 0, 0, 0⟩])) ok ∧ H' = addBs ⟨n, X⟩ [intsW c f, slB n c true] := by
  have h1 : Con Try.prog m args ⟨0, []⟩ fun v H' => v = kindV (kindL w r i o u d e a (.fn 99 [] [⟨1, 0, 0, 0⟩])) ok ∧ H' = ⟨2, [(1, slB 0 c true), (0, intsW c f)]⟩ := by
    refine Con.forget h ?_
    rintro v H' ⟨rfl, rfl⟩
    exact ⟨_, ⟨2, [(1, slB 0 c true), (0, intsW c f)]⟩, [0, 1], fun i h => absurd h (Nat.not_lt_zero i), by simp only [diff, notIn, Nat.beq, and_self], rfl, ⟨⟨rfl, rfl, id, Nat.le_refl _, fun _ _ => by simp only [slB, leSegs, leSeg, leC, leA, nthO, and_self]⟩, ⟨rfl, rfl, id, Nat.le_refl _, fun _ _ => by simp only [intsW, leSegs, leSeg, leC, and_self]⟩, trivial⟩, by simp only [kindV, kindL, leV, leV1, leVL, leC, leSegs, leSeg, leAL, leA, nthO, and_self], rfl, rfl⟩
  refine (h1.frame (H := ⟨n, X⟩) [] rfl trivial trivial hkl trivial ha).weaken ?_
  rintro v H' ⟨v0, H0', ⟨rfl, rfl⟩, rfl, rfl⟩
  refine ⟨rfl, ?_⟩
  simp only [framed, dropB_none (l := []) (H0 := []) (fun _ => rfl)]
  rfl
set_option maxHeartbeats 8000000 in
theorem kind_S (k : Int) (w : ByteArray) (r i o : Bool) (u : Int) (d e a : Bool) (c : Nat) (f1 f2 : Int) (hk : (k = 9 ∧ w = ⟨#[108, 111, 97, 100]⟩ ∧ r = false ∧ i = false ∧ o = true ∧ u = 1 ∧ d = true ∧ e = false ∧ a = true ∧ c = 3 ∧ f1 = 1 ∧ f2 = 2) ∨ (k = 10 ∧ w = ⟨#[115, 116, 111, 114, 101]⟩ ∧ r = false ∧ i = false ∧ o = true ∧ u = 2 ∧ d = false ∧ e = false ∧ a = true ∧ c = 2 ∧ f1 = 4 ∧ f2 = 0) ∨ (k = 11 ∧ w = ⟨#[108, 111, 97, 100, 101, 120]⟩ ∧ r = false ∧ i = false ∧ o = true ∧ u = 1 ∧ d = true ∧ e = false ∧ a = true ∧ c = 2 ∧ f1 = 2 ∧ f2 = 0) ∨ (k = 12 ∧ w = ⟨#[115, 116, 111, 114, 101, 101, 120]⟩ ∧ r = false ∧ i = false ∧ o = true ∧ u = 2 ∧ d = true ∧ e = false ∧ a = true ∧ c = 2 ∧ f1 = 4 ∧ f2 = 0)) (n : Nat) (X : List (Nat × Blk)) (hkl : keysLt X n) : Con Try.prog 46 [.c (.int .i64 k)] ⟨n, X⟩ (fun v H' => v = kindV (kindL w r i o u d e a (.fn 99 [] [⟨n + 1, 0, 0, 0⟩])) true ∧ H' = addBs ⟨n, X⟩ [intsW c (ordF f1 f2), slB n c true]) := by
  refine frame_kindS _ _ _ _ _ _ _ _ _ _ _ ?_ (by simp only [leArgs, leV, leV1, leC, and_self]) n X hkl
  rcases hk with ⟨rfl, rfl, rfl, rfl, rfl, rfl, rfl, rfl, rfl, rfl, rfl, rfl⟩ | ⟨rfl, rfl, rfl, rfl, rfl, rfl, rfl, rfl, rfl, rfl, rfl, rfl⟩ | ⟨rfl, rfl, rfl, rfl, rfl, rfl, rfl, rfl, rfl, rfl, rfl, rfl⟩ | ⟨rfl, rfl, rfl, rfl, rfl, rfl, rfl, rfl, rfl, rfl, rfl, rfl⟩
  all_goals
    (refine con_of_run mixed (fn := Try.f46) (by kernel_rfl) (by kernel_rfl) C46_ok (rs := [.cn 9 2, .tmp 3]) (by kernel_rfl) (Nat.le_of_ble_eq_true (by kernel_rfl)) ?_; unfold C46; simp only [initT, Nat.reduceAdd])
    repeat' (first | refine run_seq ?_ | refine run_skip ?_ | (refine run_region fun K hK => ?_; (try (simp (maxSteps := 10000000) only [Int.reduceBEq, partsOf, fillS, repl, rowsFit, rowFn, cutD, C46r0, C46r1, C46r2, C46r3, C46r4, C46r5, C46r6, C46r7, C46r8, C46r9, C46r10, C46r11, C46r12, C46r13, C46r14, C46r15, C46r16, C46r17, C46r18, C46r19, C46r20, C46r21, C46r22, C46r23, C46r24, C46r25, C46r26, C46r27, C46r28, C46r29, C46r30, C46r31, C46r32, C46r33, C46r34, C46r35, C46r36, C46r37, C46r38, rwp_nil, rwp_cons, rwpK_app, aop, gpath, St.get, slotAt, sfx, eqP, segsOf, St.put, addBlk, getB, setB, delB, ld1, ldn, st1, stn, setRow, rowNeed, segAt, nsub, bin, un, eqB, isShift, sameK, arith, shiftR, getsl, selB_or, selB_and, beqb, shed, addN, Nat.beq, Seg.size, sizes, imp, needP, andN, appL, argsOf, ptrsOf, aasOf, cut, takeS, dropS, putS, partsOf, fillS, fieldOf, nthA, negIf, nilq, nilB, eqS, eqF, eqS1, andP, kin, slcS, strOk, plusA, bndHi, leN, optG, roH, roL, initT, exOk, exAll, wrAddr, Nat.reduceAdd, Nat.reduceSub, Nat.reduceMul, Int.reduceToNat, List.append_nil, List.nil_append, List.cons_append, eqT, idxT, cat, cpy, ite_int, ite_bool, ite_seg, ite_segs, ite_nil, ite_twice, Int.toNat_natCast, app, addBs, tob])); (repeat (first | (refine And.intro ?_ ?_; · first | trivial | assumption | omega) | ((first | (refine call_t _ (con69 _ 1 _ _ (by decide) (by simp [roL, keysLt, boxW])) ?_; rintro v H' ⟨rfl, rfl⟩) | refine call_q _ (con69 _ 1 _ _ (by decide) (by simp [roL, keysLt, boxW])) ?_ | refine call_g _ (imp_of (con69 _ 1 _ _ (by decide) (by simp [roL, keysLt, boxW]))) ?_); simp (maxSteps := 10000000) only [Int.reduceBEq, partsOf, fillS, repl, rowsFit, rowFn, cutD, C46r0, C46r1, C46r2, C46r3, C46r4, C46r5, C46r6, C46r7, C46r8, C46r9, C46r10, C46r11, C46r12, C46r13, C46r14, C46r15, C46r16, C46r17, C46r18, C46r19, C46r20, C46r21, C46r22, C46r23, C46r24, C46r25, C46r26, C46r27, C46r28, C46r29, C46r30, C46r31, C46r32, C46r33, C46r34, C46r35, C46r36, C46r37, C46r38, rwp_nil, rwp_cons, rwpK_app, aop, gpath, St.get, slotAt, sfx, eqP, segsOf, St.put, addBlk, getB, setB, delB, ld1, ldn, st1, stn, setRow, rowNeed, segAt, nsub, bin, un, eqB, isShift, sameK, arith, shiftR, getsl, selB_or, selB_and, beqb, shed, addN, Nat.beq, Seg.size, sizes, imp, needP, andN, appL, argsOf, ptrsOf, aasOf, cut, takeS, dropS, putS, partsOf, fillS, fieldOf, nthA, negIf, nilq, nilB, eqS, eqF, eqS1, andP, kin, slcS, strOk, plusA, bndHi, leN, optG, roH, roL, initT, exOk, exAll, wrAddr, Nat.reduceAdd, Nat.reduceSub, Nat.reduceMul, Int.reduceToNat, List.append_nil, List.nil_append, List.cons_append, eqT, idxT, cat, cpy, ite_int, ite_bool, ite_seg, ite_segs, ite_nil, ite_twice, Int.toNat_natCast, app, addBs, tob]))); with_reducible refine hK _ ?_; clear hK K) | (refine run_cond rfl (fun hc => ?_) (fun hc => ?_) <;> try (simp only [*, Bool.true_eq_false, Bool.false_eq_true, Bool.not_true, Bool.not_false, Bool.true_or, Bool.or_true, Bool.false_or, Bool.or_false, Bool.false_and, Bool.and_false, bne_self_eq_false, beq_self_eq_true] at hc; done)) | refine run_block ?_ | refine run_ret ?_ | refine run_nil ?_ | refine blk_normal ?_ | refine blk_ret ?_ | refine blk_here ?_ | refine blk_there rfl ?_)
    first | exact end_kindS _ _ _ _ _ _ _ _ 2 _ _ true rfl rfl rfl rfl rfl (rows2 _ _) ⟨rfl, rfl⟩ | exact end_kindS _ _ _ _ _ _ _ _ 3 _ _ true rfl rfl rfl rfl rfl (rows3 _ _) ⟨rfl, rfl⟩
def noKind (k : Int) : Prop := (k == 1) = false ∧ (k == 2) = false ∧ (k == 3) = false ∧ (k == 4) = false ∧ (k == 5) = false ∧ (k == 6) = false ∧ (k == 7) = false ∧ (k == 8) = false ∧ (k == 9) = false ∧ (k == 10) = false ∧ (k == 11) = false ∧ (k == 12) = false ∧ (k == 13) = false ∧ (k == 14) = false ∧ (k == 15) = false ∧ (k == 16) = false ∧ (k == 17) = false ∧ (k == 18) = false
theorem forget_noKind {n : FuncId} {args : List AV} (h : Con Try.prog n args ⟨0, []⟩ fun v H' => v = kindV (kindL ⟨#[]⟩ false false false 0 false false false .nilfn) false ∧ H' = ⟨1, [(0, kindB (kindL ⟨#[]⟩ false false false 0 false false false .nilfn))]⟩) (ha : leArgs [] args args) (H : Heap) : Con Try.prog n args H fun v H' => v = kindV (kindL ⟨#[]⟩ false false false 0 false false false .nilfn) false ∧ H' = H := by
  refine Con.pure (Con.forget h ?_) ha rfl H
  rintro v H' ⟨rfl, rfl⟩
  exact ⟨_, ⟨0, []⟩, [], fun i h => absurd h (Nat.not_lt_zero i), trivial, rfl, trivial, by simp only [kindV, kindL, leV, leV1, leVL, leC, leSegs, leSeg, leAL, and_self], rfl, rfl⟩
theorem end_noKind {l : List Slot} {H : Heap} {R : Post} {n : Nat} (hsl : slotAt l 2 = some ⟨2, [], .c (.ptr ⟨n, 0, 0, 0⟩)⟩) (hok : slotAt l 3 = some ⟨3, [], .c (.bool false)⟩) (hb : getB H.blks n = some (kindB (kindL ⟨#[]⟩ false false false 0 false false false .nilfn)))
    (hR : R (kindV (kindL ⟨#[]⟩ false false false 0 false false false .nilfn) false) ⟨1, [(0, kindB (kindL ⟨#[]⟩ false false false 0 false false false .nilfn))]⟩) : endQ (LeS 0) [.cn 9 2, .tmp 3] R .ret ⟨l, H⟩ := by
  refine end_of ⟨[⟨2, [], .c (.ptr ⟨0, 0, 0, 0⟩)⟩, ⟨3, [], .c (.bool false)⟩], ⟨1, [(0, kindB (kindL ⟨#[]⟩ false false false 0 false false false .nilfn))]⟩⟩ (LeS.intro [n] (fun i h => absurd h (Nat.not_lt_zero i)) (by simp only [diff, notIn, and_self]) rfl (by simp only [slotsLe, hsl, hok, leV, leV1, leC, leA, nthO, and_self]) ?_) ?_
  · simp only [leBlks, nthO, hb]
    exact ⟨⟨rfl, rfl, id, Nat.le_refl _, fun _ _ => by simp only [kindB, kindL, leSegs, leSeg, leC, leAL, and_self]⟩, trivial⟩
  · simp only [endF, resL, resA, St.get, slotAt, Nat.beq, sfx, eqP, ldn, getB, kindB, kindL, rowNeed, cut, dropS, takeS, Seg.size, nsub, noTup, resV]
    exact hR
theorem kind_no (k : Int) (h : noKind k) (H : Heap) : Con Try.prog 46 [.c (.int .i64 k)] H (fun v H' => v = kindV (kindL ⟨#[]⟩ false false false 0 false false false .nilfn) false ∧ H' = H) := by
  refine forget_noKind ?_ (by simp only [leArgs, leV, leV1, leC, and_self]) H
  unfold noKind at h
  (refine con_of_run mixed (fn := Try.f46) (by kernel_rfl) (by kernel_rfl) C46_ok (rs := [.cn 9 2, .tmp 3]) (by kernel_rfl) (Nat.le_of_ble_eq_true (by kernel_rfl)) ?_; unfold C46; simp only [initT, Nat.reduceAdd])
  repeat' (first | refine run_seq ?_ | refine run_skip ?_ | (refine run_region fun K hK => ?_; (try (simp (maxSteps := 10000000) only [h, partsOf, fillS, C46r0, C46r1, C46r2, C46r3, C46r4, C46r5, C46r6, C46r7, C46r8, C46r9, C46r10, C46r11, C46r12, C46r13, C46r14, C46r15, C46r16, C46r17, C46r18, C46r19, C46r20, C46r21, C46r22, C46r23, C46r24, C46r25, C46r26, C46r27, C46r28, C46r29, C46r30, C46r31, C46r32, C46r33, C46r34, C46r35, C46r36, C46r37, C46r38, rwp_nil, rwp_cons, rwpK_app, aop, gpath, St.get, slotAt, sfx, eqP, segsOf, St.put, addBlk, getB, setB, delB, ld1, ldn, st1, stn, setRow, rowNeed, segAt, nsub, bin, un, eqB, isShift, sameK, arith, shiftR, getsl, selB_or, selB_and, beqb, shed, addN, Nat.beq, Seg.size, sizes, imp, needP, andN, appL, argsOf, ptrsOf, aasOf, cut, takeS, dropS, putS, partsOf, fillS, fieldOf, nthA, negIf, nilq, nilB, eqS, eqF, eqS1, andP, kin, slcS, strOk, plusA, bndHi, leN, optG, roH, roL, initT, exOk, exAll, wrAddr, Nat.reduceAdd, Nat.reduceSub, Nat.reduceMul, Int.reduceToNat, List.append_nil, List.nil_append, List.cons_append, eqT, idxT, cat, cpy, ite_int, ite_bool, ite_seg, ite_segs, ite_nil, ite_twice, Int.toNat_natCast, app, addBs, tob])); (repeat (first | (refine And.intro ?_ ?_; · first | trivial | assumption | omega))); with_reducible refine hK _ ?_; clear hK K) | (refine run_cond rfl (fun hc => ?_) (fun hc => ?_) <;> try (simp only [*, Bool.true_eq_false, Bool.false_eq_true, Bool.not_true, Bool.not_false, Bool.true_or, Bool.or_true, Bool.false_or, Bool.or_false, Bool.false_and, Bool.and_false, bne_self_eq_false, beq_self_eq_true] at hc; done)) | refine run_block ?_ | refine run_ret ?_ | refine run_nil ?_ | refine blk_normal ?_ | refine blk_ret ?_ | refine blk_here ?_ | refine blk_there rfl ?_)
  exact end_noKind rfl rfl rfl ⟨rfl, rfl⟩
end Go.Proofs.Ytmbnakinhnkabaa

namespace Go.Proofs.Ytmbnakinhnkabaa
open Go.AM
set_option maxRecDepth 100000
set_option linter.unusedSimpArgs false
set_option linter.unusedVariables false
theorem kind_1 (H : Heap) : Con Try.prog 46 [.c (.int .i64 1)] H (fun v H' => v = kindV (kindL ⟨#[99, 111, 110, 115, 116]⟩ false true false 0 true false false (.fn 66 [] [])) true ∧ H' = H) := kind_P _ _ _ _ _ _ _ _ _ _ (by simp) H
theorem kind_2 (n : Nat) (X : List (Nat × Blk)) (hkl : keysLt X n) : Con Try.prog 46 [.c (.int .i64 2)] ⟨n, X⟩ (fun v H' => v = kindV (kindL ⟨#[103, 101, 116, 120]⟩ true false false 0 true false false (.fn 98 [] [⟨n, 0, 0, 0⟩])) true ∧ H' = addBs ⟨n, X⟩ [boxW 30]) := kind_Q _ _ _ _ _ _ _ _ _ _ (by simp) n X hkl
theorem kind_3 (n : Nat) (X : List (Nat × Blk)) (hkl : keysLt X n) : Con Try.prog 46 [.c (.int .i64 3)] ⟨n, X⟩ (fun v H' => v = kindV (kindL ⟨#[115, 101, 116, 120]⟩ true false false 1 false false false (.fn 98 [] [⟨n, 0, 0, 0⟩])) true ∧ H' = addBs ⟨n, X⟩ [boxW 30]) := kind_Q _ _ _ _ _ _ _ _ _ _ (by simp) n X hkl
theorem kind_4 (H : Heap) : Con Try.prog 46 [.c (.int .i64 4)] H (fun v H' => v = kindV (kindL ⟨#[103, 101, 116, 115, 112]⟩ false false false 0 true false false (.fn 66 [] [])) true ∧ H' = H) := kind_P _ _ _ _ _ _ _ _ _ _ (by simp) H
theorem kind_5 (H : Heap) : Con Try.prog 46 [.c (.int .i64 5)] H (fun v H' => v = kindV (kindL ⟨#[115, 101, 116, 115, 112]⟩ false false false 1 false false false (.fn 66 [] [])) true ∧ H' = H) := kind_P _ _ _ _ _ _ _ _ _ _ (by simp) H
theorem kind_6 (n : Nat) (X : List (Nat × Blk)) (hkl : keysLt X n) : Con Try.prog 46 [.c (.int .i64 6)] ⟨n, X⟩ (fun v H' => v = kindV (kindL ⟨#[103, 101, 116, 102]⟩ true false false 0 true false false (.fn 98 [] [⟨n, 0, 0, 0⟩])) true ∧ H' = addBs ⟨n, X⟩ [boxW 3]) := kind_Q _ _ _ _ _ _ _ _ _ _ (by simp) n X hkl
theorem kind_7 (n : Nat) (X : List (Nat × Blk)) (hkl : keysLt X n) : Con Try.prog 46 [.c (.int .i64 7)] ⟨n, X⟩ (fun v H' => v = kindV (kindL ⟨#[115, 101, 116, 102]⟩ true false false 1 false false false (.fn 98 [] [⟨n, 0, 0, 0⟩])) true ∧ H' = addBs ⟨n, X⟩ [boxW 3]) := kind_Q _ _ _ _ _ _ _ _ _ _ (by simp) n X hkl
theorem kind_8 (H : Heap) : Con Try.prog 46 [.c (.int .i64 8)] H (fun v H' => v = kindV (kindL ⟨#[97, 108, 117]⟩ true false false 2 true false false (.fn 68 [] [])) true ∧ H' = H) := kind_P _ _ _ _ _ _ _ _ _ _ (by simp) H
theorem kind_9 (n : Nat) (X : List (Nat × Blk)) (hkl : keysLt X n) : Con Try.prog 46 [.c (.int .i64 9)] ⟨n, X⟩ (fun v H' => v = kindV (kindL ⟨#[108, 111, 97, 100]⟩ false false true 1 true false true (.fn 99 [] [⟨n + 1, 0, 0, 0⟩])) true ∧ H' = addBs ⟨n, X⟩ [intsW 3 (ordF 1 2), slB n 3 true]) := kind_S _ _ _ _ _ _ _ _ _ _ _ _ (by simp) n X hkl
theorem kind_10 (n : Nat) (X : List (Nat × Blk)) (hkl : keysLt X n) : Con Try.prog 46 [.c (.int .i64 10)] ⟨n, X⟩ (fun v H' => v = kindV (kindL ⟨#[115, 116, 111, 114, 101]⟩ false false true 2 false false true (.fn 99 [] [⟨n + 1, 0, 0, 0⟩])) true ∧ H' = addBs ⟨n, X⟩ [intsW 2 (ordF 4 0), slB n 2 true]) := kind_S _ _ _ _ _ _ _ _ _ _ _ _ (by simp) n X hkl
theorem kind_11 (n : Nat) (X : List (Nat × Blk)) (hkl : keysLt X n) : Con Try.prog 46 [.c (.int .i64 11)] ⟨n, X⟩ (fun v H' => v = kindV (kindL ⟨#[108, 111, 97, 100, 101, 120]⟩ false false true 1 true false true (.fn 99 [] [⟨n + 1, 0, 0, 0⟩])) true ∧ H' = addBs ⟨n, X⟩ [intsW 2 (ordF 2 0), slB n 2 true]) := kind_S _ _ _ _ _ _ _ _ _ _ _ _ (by simp) n X hkl
theorem kind_12 (n : Nat) (X : List (Nat × Blk)) (hkl : keysLt X n) : Con Try.prog 46 [.c (.int .i64 12)] ⟨n, X⟩ (fun v H' => v = kindV (kindL ⟨#[115, 116, 111, 114, 101, 101, 120]⟩ false false true 2 true false true (.fn 99 [] [⟨n + 1, 0, 0, 0⟩])) true ∧ H' = addBs ⟨n, X⟩ [intsW 2 (ordF 4 0), slB n 2 true]) := kind_S _ _ _ _ _ _ _ _ _ _ _ _ (by simp) n X hkl
theorem kind_13 (H : Heap) : Con Try.prog 46 [.c (.int .i64 13)] H (fun v H' => v = kindV (kindL ⟨#[102, 101, 110, 99, 101]⟩ true false false 0 false false false (.fn 70 [] [])) true ∧ H' = H) := kind_P _ _ _ _ _ _ _ _ _ _ (by simp) H
theorem kind_14 (H : Heap) : Con Try.prog 46 [.c (.int .i64 14)] H (fun v H' => v = kindV (kindL ⟨#[97, 116]⟩ false true false 0 false false false (.fn 71 [] [])) true ∧ H' = H) := kind_P _ _ _ _ _ _ _ _ _ _ (by simp) H
theorem kind_15 (H : Heap) : Con Try.prog 46 [.c (.int .i64 15)] H (fun v H' => v = kindV (kindL ⟨#[101, 120, 105, 116, 105, 102]⟩ false true false 1 false false false (.fn 66 [] [])) true ∧ H' = H) := kind_P _ _ _ _ _ _ _ _ _ _ (by simp) H
theorem kind_16 (H : Heap) : Con Try.prog 46 [.c (.int .i64 16)] H (fun v H' => v = kindV (kindL ⟨#[101, 120, 105, 116]⟩ false true false 0 false true false (.fn 66 [] [])) true ∧ H' = H) := kind_P _ _ _ _ _ _ _ _ _ _ (by simp) H
theorem kind_17 (H : Heap) : Con Try.prog 46 [.c (.int .i64 17)] H (fun v H' => v = kindV (kindL ⟨#[101, 120, 105, 116, 116, 111]⟩ false false false 1 false true false (.fn 66 [] [])) true ∧ H' = H) := kind_P _ _ _ _ _ _ _ _ _ _ (by simp) H
theorem kind_18 (H : Heap) : Con Try.prog 46 [.c (.int .i64 18)] H (fun v H' => v = kindV (kindL ⟨#[103, 117, 101, 115, 116]⟩ false true false 0 false true false (.fn 72 [] [])) true ∧ H' = H) := kind_P _ _ _ _ _ _ _ _ _ _ (by simp) H
def defS (k : Int) : Bool := (k == 1) || (k == 2) || (k == 4) || (k == 6) || (k == 8) || (k == 9) || (k == 11) || (k == 12)
def accS (k : Int) : Bool := (k == 9) || (k == 10) || (k == 11) || (k == 12)
def endS (k : Int) : Bool := (k == 16) || (k == 17) || (k == 18)
def leaveS (k : Int) : Bool := (accS k || endS k) || (k == 15)
def usesS (k : Int) : Nat := if k = 8 ∨ k = 10 ∨ k = 12 then 2 else if k = 3 ∨ k = 5 ∨ k = 7 ∨ k = 9 ∨ k = 11 ∨ k = 15 ∨ k = 17 then 1 else 0
set_option maxHeartbeats 8000000 in
theorem con57_k (o : OpS) (k : Int) (V : Bool) (ho : o.kind = k) (hk : (k = 1 ∧ V = true) ∨ (k = 2 ∧ V = true) ∨ (k = 3 ∧ V = false) ∨ (k = 4 ∧ V = true) ∨ (k = 5 ∧ V = false) ∨ (k = 6 ∧ V = true) ∨ (k = 7 ∧ V = false) ∨ (k = 8 ∧ V = true) ∨ (k = 9 ∧ V = true) ∨ (k = 10 ∧ V = false) ∨ (k = 11 ∧ V = true) ∨ (k = 12 ∧ V = true) ∨ (k = 13 ∧ V = false) ∨ (k = 14 ∧ V = false) ∨ (k = 15 ∧ V = false) ∨ (k = 16 ∧ V = false) ∨ (k = 17 ∧ V = false) ∨ (k = 18 ∧ V = false)) (H : Heap) : Con Try.prog 57 [.agg (opL o)] H (fun v H' => v = .c (.bool V) ∧ H' = H) := by
  refine Con.pure ?_ (by simp only [leArgs, leV, leV1, opL, leSegs, leSeg, leC, and_self]) rfl H
  rcases hk with ⟨rfl, rfl⟩ | ⟨rfl, rfl⟩ | ⟨rfl, rfl⟩ | ⟨rfl, rfl⟩ | ⟨rfl, rfl⟩ | ⟨rfl, rfl⟩ | ⟨rfl, rfl⟩ | ⟨rfl, rfl⟩ | ⟨rfl, rfl⟩ | ⟨rfl, rfl⟩ | ⟨rfl, rfl⟩ | ⟨rfl, rfl⟩ | ⟨rfl, rfl⟩ | ⟨rfl, rfl⟩ | ⟨rfl, rfl⟩ | ⟨rfl, rfl⟩ | ⟨rfl, rfl⟩ | ⟨rfl, rfl⟩
  all_goals
    (refine con_of_run mixed (fn := Try.f57) (by kernel_rfl) (by kernel_rfl) C57_ok (rs := [.tmp 2]) (by kernel_rfl) (Nat.le_of_ble_eq_true (by kernel_rfl)) ?_; unfold C57; simp only [initT, Nat.reduceAdd])
    repeat' (first | refine run_seq ?_ | (refine run_region fun K hK => ?_; (try (simp (maxSteps := 10000000) only [opL, ho, kindV, kindL, boxW, intsW, slB, C57r0, C57r1, C57r2, rwp_nil, rwp_cons, rwpK_app, aop, gpath, St.get, slotAt, sfx, eqP, segsOf, St.put, addBlk, getB, setB, delB, ld1, ldn, st1, stn, setRow, rowNeed, segAt, nsub, bin, un, eqB, isShift, sameK, arith, shiftR, getsl, selB_or, selB_and, beqb, shed, addN, Nat.beq, Seg.size, sizes, imp, needP, andN, appL, argsOf, ptrsOf, aasOf, cut, takeS, dropS, putS, partsOf, fillS, fieldOf, nthA, negIf, nilq, nilB, eqS, eqF, eqS1, andP, kin, slcS, strOk, plusA, bndHi, leN, optG, roH, roL, initT, exOk, exAll, wrAddr, Nat.reduceAdd, Nat.reduceSub, Nat.reduceMul, Int.reduceToNat, List.append_nil, List.nil_append, List.cons_append, eqT, idxT, cat, cpy, ite_int, ite_bool, ite_seg, ite_segs, ite_nil, ite_twice, Int.toNat_natCast, app, addBs, tob])); (repeat (first | (refine And.intro ?_ ?_; · (first | decide | trivial | assumption | (intros; first | decide | trivial))) | ((first | (refine call_t _ (kind_1 _) ?_; rintro v H' ⟨rfl, rfl⟩) | refine call_q _ (kind_1 _) ?_ | refine call_g _ (imp_of (kind_1 _)) ?_ | (refine call_t _ (kind_2 _ _ (by simp [roL, keysLt, boxW])) ?_; rintro v H' ⟨rfl, rfl⟩) | refine call_q _ (kind_2 _ _ (by simp [roL, keysLt, boxW])) ?_ | refine call_g _ (imp_of (kind_2 _ _ (by simp [roL, keysLt, boxW]))) ?_ | (refine call_t _ (kind_3 _ _ (by simp [roL, keysLt, boxW])) ?_; rintro v H' ⟨rfl, rfl⟩) | refine call_q _ (kind_3 _ _ (by simp [roL, keysLt, boxW])) ?_ | refine call_g _ (imp_of (kind_3 _ _ (by simp [roL, keysLt, boxW]))) ?_ | (refine call_t _ (kind_4 _) ?_; rintro v H' ⟨rfl, rfl⟩) | refine call_q _ (kind_4 _) ?_ | refine call_g _ (imp_of (kind_4 _)) ?_ | (refine call_t _ (kind_5 _) ?_; rintro v H' ⟨rfl, rfl⟩) | refine call_q _ (kind_5 _) ?_ | refine call_g _ (imp_of (kind_5 _)) ?_ | (refine call_t _ (kind_6 _ _ (by simp [roL, keysLt, boxW])) ?_; rintro v H' ⟨rfl, rfl⟩) | refine call_q _ (kind_6 _ _ (by simp [roL, keysLt, boxW])) ?_ | refine call_g _ (imp_of (kind_6 _ _ (by simp [roL, keysLt, boxW]))) ?_ | (refine call_t _ (kind_7 _ _ (by simp [roL, keysLt, boxW])) ?_; rintro v H' ⟨rfl, rfl⟩) | refine call_q _ (kind_7 _ _ (by simp [roL, keysLt, boxW])) ?_ | refine call_g _ (imp_of (kind_7 _ _ (by simp [roL, keysLt, boxW]))) ?_ | (refine call_t _ (kind_8 _) ?_; rintro v H' ⟨rfl, rfl⟩) | refine call_q _ (kind_8 _) ?_ | refine call_g _ (imp_of (kind_8 _)) ?_ | (refine call_t _ (kind_9 _ _ (by simp [roL, keysLt, boxW])) ?_; rintro v H' ⟨rfl, rfl⟩) | refine call_q _ (kind_9 _ _ (by simp [roL, keysLt, boxW])) ?_ | refine call_g _ (imp_of (kind_9 _ _ (by simp [roL, keysLt, boxW]))) ?_ | (refine call_t _ (kind_10 _ _ (by simp [roL, keysLt, boxW])) ?_; rintro v H' ⟨rfl, rfl⟩) | refine call_q _ (kind_10 _ _ (by simp [roL, keysLt, boxW])) ?_ | refine call_g _ (imp_of (kind_10 _ _ (by simp [roL, keysLt, boxW]))) ?_ | (refine call_t _ (kind_11 _ _ (by simp [roL, keysLt, boxW])) ?_; rintro v H' ⟨rfl, rfl⟩) | refine call_q _ (kind_11 _ _ (by simp [roL, keysLt, boxW])) ?_ | refine call_g _ (imp_of (kind_11 _ _ (by simp [roL, keysLt, boxW]))) ?_ | (refine call_t _ (kind_12 _ _ (by simp [roL, keysLt, boxW])) ?_; rintro v H' ⟨rfl, rfl⟩) | refine call_q _ (kind_12 _ _ (by simp [roL, keysLt, boxW])) ?_ | refine call_g _ (imp_of (kind_12 _ _ (by simp [roL, keysLt, boxW]))) ?_ | (refine call_t _ (kind_13 _) ?_; rintro v H' ⟨rfl, rfl⟩) | refine call_q _ (kind_13 _) ?_ | refine call_g _ (imp_of (kind_13 _)) ?_ | (refine call_t _ (kind_14 _) ?_; rintro v H' ⟨rfl, rfl⟩) | refine call_q _ (kind_14 _) ?_ | refine call_g _ (imp_of (kind_14 _)) ?_ | (refine call_t _ (kind_15 _) ?_; rintro v H' ⟨rfl, rfl⟩) | refine call_q _ (kind_15 _) ?_ | refine call_g _ (imp_of (kind_15 _)) ?_ | (refine call_t _ (kind_16 _) ?_; rintro v H' ⟨rfl, rfl⟩) | refine call_q _ (kind_16 _) ?_ | refine call_g _ (imp_of (kind_16 _)) ?_ | (refine call_t _ (kind_17 _) ?_; rintro v H' ⟨rfl, rfl⟩) | refine call_q _ (kind_17 _) ?_ | refine call_g _ (imp_of (kind_17 _)) ?_ | (refine call_t _ (kind_18 _) ?_; rintro v H' ⟨rfl, rfl⟩) | refine call_q _ (kind_18 _) ?_ | refine call_g _ (imp_of (kind_18 _)) ?_); simp (maxSteps := 10000000) only [opL, ho, kindV, kindL, boxW, intsW, slB, C57r0, C57r1, C57r2, rwp_nil, rwp_cons, rwpK_app, aop, gpath, St.get, slotAt, sfx, eqP, segsOf, St.put, addBlk, getB, setB, delB, ld1, ldn, st1, stn, setRow, rowNeed, segAt, nsub, bin, un, eqB, isShift, sameK, arith, shiftR, getsl, selB_or, selB_and, beqb, shed, addN, Nat.beq, Seg.size, sizes, imp, needP, andN, appL, argsOf, ptrsOf, aasOf, cut, takeS, dropS, putS, partsOf, fillS, fieldOf, nthA, negIf, nilq, nilB, eqS, eqF, eqS1, andP, kin, slcS, strOk, plusA, bndHi, leN, optG, roH, roL, initT, exOk, exAll, wrAddr, Nat.reduceAdd, Nat.reduceSub, Nat.reduceMul, Int.reduceToNat, List.append_nil, List.nil_append, List.cons_append, eqT, idxT, cat, cpy, ite_int, ite_bool, ite_seg, ite_segs, ite_nil, ite_twice, Int.toNat_natCast, app, addBs, tob]))); with_reducible refine hK _ ?_; clear hK K) | refine run_ret ?_ | refine run_nil ?_)
    exact end_tmp1 rfl rfl rfl ⟨rfl, rfl⟩
theorem con57_no (o : OpS) (h : noKind o.kind) (H : Heap) : Con Try.prog 57 [.agg (opL o)] H (fun v H' => v = .c (.bool false) ∧ H' = H) := by
  refine Con.pure ?_ (by simp only [leArgs, leV, leV1, opL, leSegs, leSeg, leC, and_self]) rfl H
  have h' := h
  unfold noKind at h'
  (refine con_of_run mixed (fn := Try.f57) (by kernel_rfl) (by kernel_rfl) C57_ok (rs := [.tmp 2]) (by kernel_rfl) (Nat.le_of_ble_eq_true (by kernel_rfl)) ?_; unfold C57; simp only [initT, Nat.reduceAdd])
  repeat' (first | refine run_seq ?_ | (refine run_region fun K hK => ?_; (try (simp (maxSteps := 10000000) only [opL, h', kindV, kindL, C57r0, C57r1, C57r2, rwp_nil, rwp_cons, rwpK_app, aop, gpath, St.get, slotAt, sfx, eqP, segsOf, St.put, addBlk, getB, setB, delB, ld1, ldn, st1, stn, setRow, rowNeed, segAt, nsub, bin, un, eqB, isShift, sameK, arith, shiftR, getsl, selB_or, selB_and, beqb, shed, addN, Nat.beq, Seg.size, sizes, imp, needP, andN, appL, argsOf, ptrsOf, aasOf, cut, takeS, dropS, putS, partsOf, fillS, fieldOf, nthA, negIf, nilq, nilB, eqS, eqF, eqS1, andP, kin, slcS, strOk, plusA, bndHi, leN, optG, roH, roL, initT, exOk, exAll, wrAddr, Nat.reduceAdd, Nat.reduceSub, Nat.reduceMul, Int.reduceToNat, List.append_nil, List.nil_append, List.cons_append, eqT, idxT, cat, cpy, ite_int, ite_bool, ite_seg, ite_segs, ite_nil, ite_twice, Int.toNat_natCast, app, addBs, tob])); (repeat (first | (refine And.intro ?_ ?_; · (first | decide | trivial | assumption | (intros; first | decide | trivial))) | ((first | (refine call_t _ (kind_no _ h _) ?_; rintro v H' ⟨rfl, rfl⟩) | refine call_q _ (kind_no _ h _) ?_ | refine call_g _ (imp_of (kind_no _ h _)) ?_); simp (maxSteps := 10000000) only [opL, h', kindV, kindL, C57r0, C57r1, C57r2, rwp_nil, rwp_cons, rwpK_app, aop, gpath, St.get, slotAt, sfx, eqP, segsOf, St.put, addBlk, getB, setB, delB, ld1, ldn, st1, stn, setRow, rowNeed, segAt, nsub, bin, un, eqB, isShift, sameK, arith, shiftR, getsl, selB_or, selB_and, beqb, shed, addN, Nat.beq, Seg.size, sizes, imp, needP, andN, appL, argsOf, ptrsOf, aasOf, cut, takeS, dropS, putS, partsOf, fillS, fieldOf, nthA, negIf, nilq, nilB, eqS, eqF, eqS1, andP, kin, slcS, strOk, plusA, bndHi, leN, optG, roH, roL, initT, exOk, exAll, wrAddr, Nat.reduceAdd, Nat.reduceSub, Nat.reduceMul, Int.reduceToNat, List.append_nil, List.nil_append, List.cons_append, eqT, idxT, cat, cpy, ite_int, ite_bool, ite_seg, ite_segs, ite_nil, ite_twice, Int.toNat_natCast, app, addBs, tob]))); with_reducible refine hK _ ?_; clear hK K) | refine run_ret ?_ | refine run_nil ?_)
  exact end_tmp1 rfl rfl rfl ⟨rfl, rfl⟩
theorem con57 (o : OpS) (H : Heap) : Con Try.prog 57 [.agg (opL o)] H (fun v H' => v = .c (.bool (defS o.kind)) ∧ H' = H) := by
  by_cases h1 : o.kind = 1
  · have e : defS o.kind = true := by rw [h1]; decide
    rw [e]
    exact con57_k o _ _ h1 (by simp) H
  by_cases h2 : o.kind = 2
  · have e : defS o.kind = true := by rw [h2]; decide
    rw [e]
    exact con57_k o _ _ h2 (by simp) H
  by_cases h3 : o.kind = 3
  · have e : defS o.kind = false := by rw [h3]; decide
    rw [e]
    exact con57_k o _ _ h3 (by simp) H
  by_cases h4 : o.kind = 4
  · have e : defS o.kind = true := by rw [h4]; decide
    rw [e]
    exact con57_k o _ _ h4 (by simp) H
  by_cases h5 : o.kind = 5
  · have e : defS o.kind = false := by rw [h5]; decide
    rw [e]
    exact con57_k o _ _ h5 (by simp) H
  by_cases h6 : o.kind = 6
  · have e : defS o.kind = true := by rw [h6]; decide
    rw [e]
    exact con57_k o _ _ h6 (by simp) H
  by_cases h7 : o.kind = 7
  · have e : defS o.kind = false := by rw [h7]; decide
    rw [e]
    exact con57_k o _ _ h7 (by simp) H
  by_cases h8 : o.kind = 8
  · have e : defS o.kind = true := by rw [h8]; decide
    rw [e]
    exact con57_k o _ _ h8 (by simp) H
  by_cases h9 : o.kind = 9
  · have e : defS o.kind = true := by rw [h9]; decide
    rw [e]
    exact con57_k o _ _ h9 (by simp) H
  by_cases h10 : o.kind = 10
  · have e : defS o.kind = false := by rw [h10]; decide
    rw [e]
    exact con57_k o _ _ h10 (by simp) H
  by_cases h11 : o.kind = 11
  · have e : defS o.kind = true := by rw [h11]; decide
    rw [e]
    exact con57_k o _ _ h11 (by simp) H
  by_cases h12 : o.kind = 12
  · have e : defS o.kind = true := by rw [h12]; decide
    rw [e]
    exact con57_k o _ _ h12 (by simp) H
  by_cases h13 : o.kind = 13
  · have e : defS o.kind = false := by rw [h13]; decide
    rw [e]
    exact con57_k o _ _ h13 (by simp) H
  by_cases h14 : o.kind = 14
  · have e : defS o.kind = false := by rw [h14]; decide
    rw [e]
    exact con57_k o _ _ h14 (by simp) H
  by_cases h15 : o.kind = 15
  · have e : defS o.kind = false := by rw [h15]; decide
    rw [e]
    exact con57_k o _ _ h15 (by simp) H
  by_cases h16 : o.kind = 16
  · have e : defS o.kind = false := by rw [h16]; decide
    rw [e]
    exact con57_k o _ _ h16 (by simp) H
  by_cases h17 : o.kind = 17
  · have e : defS o.kind = false := by rw [h17]; decide
    rw [e]
    exact con57_k o _ _ h17 (by simp) H
  by_cases h18 : o.kind = 18
  · have e : defS o.kind = false := by rw [h18]; decide
    rw [e]
    exact con57_k o _ _ h18 (by simp) H
  have h : noKind o.kind := by simp only [noKind, beq_eq_false_iff_ne, ne_eq]; exact ⟨h1, h2, h3, h4, h5, h6, h7, h8, h9, h10, h11, h12, h13, h14, h15, h16, h17, h18⟩
  have e : defS o.kind = false := by
    unfold noKind at h
    simp [defS, h]
  rw [e]
  exact con57_no o h H
set_option maxHeartbeats 8000000 in
theorem con22_k (o : OpS) (k : Int) (V : Bool) (ho : o.kind = k) (hk : (k = 1 ∧ V = false) ∨ (k = 2 ∧ V = false) ∨ (k = 3 ∧ V = false) ∨ (k = 4 ∧ V = false) ∨ (k = 5 ∧ V = false) ∨ (k = 6 ∧ V = false) ∨ (k = 7 ∧ V = false) ∨ (k = 8 ∧ V = false) ∨ (k = 9 ∧ V = true) ∨ (k = 10 ∧ V = true) ∨ (k = 11 ∧ V = true) ∨ (k = 12 ∧ V = true) ∨ (k = 13 ∧ V = false) ∨ (k = 14 ∧ V = false) ∨ (k = 15 ∧ V = true) ∨ (k = 16 ∧ V = true) ∨ (k = 17 ∧ V = true) ∨ (k = 18 ∧ V = true)) (H : Heap) : Con Try.prog 22 [.agg (opL o)] H (fun v H' => v = .c (.bool V) ∧ H' = H) := by
  refine Con.pure ?_ (by simp only [leArgs, leV, leV1, opL, leSegs, leSeg, leC, and_self]) rfl H
  rcases hk with ⟨rfl, rfl⟩ | ⟨rfl, rfl⟩ | ⟨rfl, rfl⟩ | ⟨rfl, rfl⟩ | ⟨rfl, rfl⟩ | ⟨rfl, rfl⟩ | ⟨rfl, rfl⟩ | ⟨rfl, rfl⟩ | ⟨rfl, rfl⟩ | ⟨rfl, rfl⟩ | ⟨rfl, rfl⟩ | ⟨rfl, rfl⟩ | ⟨rfl, rfl⟩ | ⟨rfl, rfl⟩ | ⟨rfl, rfl⟩ | ⟨rfl, rfl⟩ | ⟨rfl, rfl⟩ | ⟨rfl, rfl⟩
  all_goals
    (refine con_of_run mixed (fn := Try.f22) (by kernel_rfl) (by kernel_rfl) C22_ok (rs := [.tmp 2]) (by kernel_rfl) (Nat.le_of_ble_eq_true (by kernel_rfl)) ?_; unfold C22; simp only [initT, Nat.reduceAdd])
    repeat' (first | refine run_seq ?_ | (refine run_region fun K hK => ?_; (try (simp (maxSteps := 10000000) only [opL, ho, kindV, kindL, boxW, intsW, slB, C22r0, C22r1, C22r2, rwp_nil, rwp_cons, rwpK_app, aop, gpath, St.get, slotAt, sfx, eqP, segsOf, St.put, addBlk, getB, setB, delB, ld1, ldn, st1, stn, setRow, rowNeed, segAt, nsub, bin, un, eqB, isShift, sameK, arith, shiftR, getsl, selB_or, selB_and, beqb, shed, addN, Nat.beq, Seg.size, sizes, imp, needP, andN, appL, argsOf, ptrsOf, aasOf, cut, takeS, dropS, putS, partsOf, fillS, fieldOf, nthA, negIf, nilq, nilB, eqS, eqF, eqS1, andP, kin, slcS, strOk, plusA, bndHi, leN, optG, roH, roL, initT, exOk, exAll, wrAddr, Nat.reduceAdd, Nat.reduceSub, Nat.reduceMul, Int.reduceToNat, List.append_nil, List.nil_append, List.cons_append, eqT, idxT, cat, cpy, ite_int, ite_bool, ite_seg, ite_segs, ite_nil, ite_twice, Int.toNat_natCast, app, addBs, tob])); (repeat (first | (refine And.intro ?_ ?_; · (first | decide | trivial | assumption | (intros; first | decide | trivial))) | ((first | (refine call_t _ (kind_1 _) ?_; rintro v H' ⟨rfl, rfl⟩) | refine call_q _ (kind_1 _) ?_ | refine call_g _ (imp_of (kind_1 _)) ?_ | (refine call_t _ (kind_2 _ _ (by simp [roL, keysLt, boxW])) ?_; rintro v H' ⟨rfl, rfl⟩) | refine call_q _ (kind_2 _ _ (by simp [roL, keysLt, boxW])) ?_ | refine call_g _ (imp_of (kind_2 _ _ (by simp [roL, keysLt, boxW]))) ?_ | (refine call_t _ (kind_3 _ _ (by simp [roL, keysLt, boxW])) ?_; rintro v H' ⟨rfl, rfl⟩) | refine call_q _ (kind_3 _ _ (by simp [roL, keysLt, boxW])) ?_ | refine call_g _ (imp_of (kind_3 _ _ (by simp [roL, keysLt, boxW]))) ?_ | (refine call_t _ (kind_4 _) ?_; rintro v H' ⟨rfl, rfl⟩) | refine call_q _ (kind_4 _) ?_ | refine call_g _ (imp_of (kind_4 _)) ?_ | (refine call_t _ (kind_5 _) ?_; rintro v H' ⟨rfl, rfl⟩) | refine call_q _ (kind_5 _) ?_ | refine call_g _ (imp_of (kind_5 _)) ?_ | (refine call_t _ (kind_6 _ _ (by simp [roL, keysLt, boxW])) ?_; rintro v H' ⟨rfl, rfl⟩) | refine call_q _ (kind_6 _ _ (by simp [roL, keysLt, boxW])) ?_ | refine call_g _ (imp_of (kind_6 _ _ (by simp [roL, keysLt, boxW]))) ?_ | (refine call_t _ (kind_7 _ _ (by simp [roL, keysLt, boxW])) ?_; rintro v H' ⟨rfl, rfl⟩) | refine call_q _ (kind_7 _ _ (by simp [roL, keysLt, boxW])) ?_ | refine call_g _ (imp_of (kind_7 _ _ (by simp [roL, keysLt, boxW]))) ?_ | (refine call_t _ (kind_8 _) ?_; rintro v H' ⟨rfl, rfl⟩) | refine call_q _ (kind_8 _) ?_ | refine call_g _ (imp_of (kind_8 _)) ?_ | (refine call_t _ (kind_9 _ _ (by simp [roL, keysLt, boxW])) ?_; rintro v H' ⟨rfl, rfl⟩) | refine call_q _ (kind_9 _ _ (by simp [roL, keysLt, boxW])) ?_ | refine call_g _ (imp_of (kind_9 _ _ (by simp [roL, keysLt, boxW]))) ?_ | (refine call_t _ (kind_10 _ _ (by simp [roL, keysLt, boxW])) ?_; rintro v H' ⟨rfl, rfl⟩) | refine call_q _ (kind_10 _ _ (by simp [roL, keysLt, boxW])) ?_ | refine call_g _ (imp_of (kind_10 _ _ (by simp [roL, keysLt, boxW]))) ?_ | (refine call_t _ (kind_11 _ _ (by simp [roL, keysLt, boxW])) ?_; rintro v H' ⟨rfl, rfl⟩) | refine call_q _ (kind_11 _ _ (by simp [roL, keysLt, boxW])) ?_ | refine call_g _ (imp_of (kind_11 _ _ (by simp [roL, keysLt, boxW]))) ?_ | (refine call_t _ (kind_12 _ _ (by simp [roL, keysLt, boxW])) ?_; rintro v H' ⟨rfl, rfl⟩) | refine call_q _ (kind_12 _ _ (by simp [roL, keysLt, boxW])) ?_ | refine call_g _ (imp_of (kind_12 _ _ (by simp [roL, keysLt, boxW]))) ?_ | (refine call_t _ (kind_13 _) ?_; rintro v H' ⟨rfl, rfl⟩) | refine call_q _ (kind_13 _) ?_ | refine call_g _ (imp_of (kind_13 _)) ?_ | (refine call_t _ (kind_14 _) ?_; rintro v H' ⟨rfl, rfl⟩) | refine call_q _ (kind_14 _) ?_ | refine call_g _ (imp_of (kind_14 _)) ?_ | (refine call_t _ (kind_15 _) ?_; rintro v H' ⟨rfl, rfl⟩) | refine call_q _ (kind_15 _) ?_ | refine call_g _ (imp_of (kind_15 _)) ?_ | (refine call_t _ (kind_16 _) ?_; rintro v H' ⟨rfl, rfl⟩) | refine call_q _ (kind_16 _) ?_ | refine call_g _ (imp_of (kind_16 _)) ?_ | (refine call_t _ (kind_17 _) ?_; rintro v H' ⟨rfl, rfl⟩) | refine call_q _ (kind_17 _) ?_ | refine call_g _ (imp_of (kind_17 _)) ?_ | (refine call_t _ (kind_18 _) ?_; rintro v H' ⟨rfl, rfl⟩) | refine call_q _ (kind_18 _) ?_ | refine call_g _ (imp_of (kind_18 _)) ?_); simp (maxSteps := 10000000) only [opL, ho, kindV, kindL, boxW, intsW, slB, C22r0, C22r1, C22r2, rwp_nil, rwp_cons, rwpK_app, aop, gpath, St.get, slotAt, sfx, eqP, segsOf, St.put, addBlk, getB, setB, delB, ld1, ldn, st1, stn, setRow, rowNeed, segAt, nsub, bin, un, eqB, isShift, sameK, arith, shiftR, getsl, selB_or, selB_and, beqb, shed, addN, Nat.beq, Seg.size, sizes, imp, needP, andN, appL, argsOf, ptrsOf, aasOf, cut, takeS, dropS, putS, partsOf, fillS, fieldOf, nthA, negIf, nilq, nilB, eqS, eqF, eqS1, andP, kin, slcS, strOk, plusA, bndHi, leN, optG, roH, roL, initT, exOk, exAll, wrAddr, Nat.reduceAdd, Nat.reduceSub, Nat.reduceMul, Int.reduceToNat, List.append_nil, List.nil_append, List.cons_append, eqT, idxT, cat, cpy, ite_int, ite_bool, ite_seg, ite_segs, ite_nil, ite_twice, Int.toNat_natCast, app, addBs, tob]))); with_reducible refine hK _ ?_; clear hK K) | refine run_ret ?_ | refine run_nil ?_)
    exact end_tmp1 rfl rfl rfl ⟨rfl, rfl⟩
theorem con22_no (o : OpS) (h : noKind o.kind) (H : Heap) : Con Try.prog 22 [.agg (opL o)] H (fun v H' => v = .c (.bool false) ∧ H' = H) := by
  refine Con.pure ?_ (by simp only [leArgs, leV, leV1, opL, leSegs, leSeg, leC, and_self]) rfl H
  have h' := h
  unfold noKind at h'
  (refine con_of_run mixed (fn := Try.f22) (by kernel_rfl) (by kernel_rfl) C22_ok (rs := [.tmp 2]) (by kernel_rfl) (Nat.le_of_ble_eq_true (by kernel_rfl)) ?_; unfold C22; simp only [initT, Nat.reduceAdd])
  repeat' (first | refine run_seq ?_ | (refine run_region fun K hK => ?_; (try (simp (maxSteps := 10000000) only [opL, h', kindV, kindL, C22r0, C22r1, C22r2, rwp_nil, rwp_cons, rwpK_app, aop, gpath, St.get, slotAt, sfx, eqP, segsOf, St.put, addBlk, getB, setB, delB, ld1, ldn, st1, stn, setRow, rowNeed, segAt, nsub, bin, un, eqB, isShift, sameK, arith, shiftR, getsl, selB_or, selB_and, beqb, shed, addN, Nat.beq, Seg.size, sizes, imp, needP, andN, appL, argsOf, ptrsOf, aasOf, cut, takeS, dropS, putS, partsOf, fillS, fieldOf, nthA, negIf, nilq, nilB, eqS, eqF, eqS1, andP, kin, slcS, strOk, plusA, bndHi, leN, optG, roH, roL, initT, exOk, exAll, wrAddr, Nat.reduceAdd, Nat.reduceSub, Nat.reduceMul, Int.reduceToNat, List.append_nil, List.nil_append, List.cons_append, eqT, idxT, cat, cpy, ite_int, ite_bool, ite_seg, ite_segs, ite_nil, ite_twice, Int.toNat_natCast, app, addBs, tob])); (repeat (first | (refine And.intro ?_ ?_; · (first | decide | trivial | assumption | (intros; first | decide | trivial))) | ((first | (refine call_t _ (kind_no _ h _) ?_; rintro v H' ⟨rfl, rfl⟩) | refine call_q _ (kind_no _ h _) ?_ | refine call_g _ (imp_of (kind_no _ h _)) ?_); simp (maxSteps := 10000000) only [opL, h', kindV, kindL, C22r0, C22r1, C22r2, rwp_nil, rwp_cons, rwpK_app, aop, gpath, St.get, slotAt, sfx, eqP, segsOf, St.put, addBlk, getB, setB, delB, ld1, ldn, st1, stn, setRow, rowNeed, segAt, nsub, bin, un, eqB, isShift, sameK, arith, shiftR, getsl, selB_or, selB_and, beqb, shed, addN, Nat.beq, Seg.size, sizes, imp, needP, andN, appL, argsOf, ptrsOf, aasOf, cut, takeS, dropS, putS, partsOf, fillS, fieldOf, nthA, negIf, nilq, nilB, eqS, eqF, eqS1, andP, kin, slcS, strOk, plusA, bndHi, leN, optG, roH, roL, initT, exOk, exAll, wrAddr, Nat.reduceAdd, Nat.reduceSub, Nat.reduceMul, Int.reduceToNat, List.append_nil, List.nil_append, List.cons_append, eqT, idxT, cat, cpy, ite_int, ite_bool, ite_seg, ite_segs, ite_nil, ite_twice, Int.toNat_natCast, app, addBs, tob]))); with_reducible refine hK _ ?_; clear hK K) | refine run_ret ?_ | refine run_nil ?_)
  exact end_tmp1 rfl rfl rfl ⟨rfl, rfl⟩
theorem con22 (o : OpS) (H : Heap) : Con Try.prog 22 [.agg (opL o)] H (fun v H' => v = .c (.bool (leaveS o.kind)) ∧ H' = H) := by
  by_cases h1 : o.kind = 1
  · have e : leaveS o.kind = false := by rw [h1]; decide
    rw [e]
    exact con22_k o _ _ h1 (by simp) H
  by_cases h2 : o.kind = 2
  · have e : leaveS o.kind = false := by rw [h2]; decide
    rw [e]
    exact con22_k o _ _ h2 (by simp) H
  by_cases h3 : o.kind = 3
  · have e : leaveS o.kind = false := by rw [h3]; decide
    rw [e]
    exact con22_k o _ _ h3 (by simp) H
  by_cases h4 : o.kind = 4
  · have e : leaveS o.kind = false := by rw [h4]; decide
    rw [e]
    exact con22_k o _ _ h4 (by simp) H
  by_cases h5 : o.kind = 5
  · have e : leaveS o.kind = false := by rw [h5]; decide
    rw [e]
    exact con22_k o _ _ h5 (by simp) H
  by_cases h6 : o.kind = 6
  · have e : leaveS o.kind = false := by rw [h6]; decide
    rw [e]
    exact con22_k o _ _ h6 (by simp) H
  by_cases h7 : o.kind = 7
  · have e : leaveS o.kind = false := by rw [h7]; decide
    rw [e]
    exact con22_k o _ _ h7 (by simp) H
  by_cases h8 : o.kind = 8
  · have e : leaveS o.kind = false := by rw [h8]; decide
    rw [e]
    exact con22_k o _ _ h8 (by simp) H
  by_cases h9 : o.kind = 9
  · have e : leaveS o.kind = true := by rw [h9]; decide
    rw [e]
    exact con22_k o _ _ h9 (by simp) H
  by_cases h10 : o.kind = 10
  · have e : leaveS o.kind = true := by rw [h10]; decide
    rw [e]
    exact con22_k o _ _ h10 (by simp) H
  by_cases h11 : o.kind = 11
  · have e : leaveS o.kind = true := by rw [h11]; decide
    rw [e]
    exact con22_k o _ _ h11 (by simp) H
  by_cases h12 : o.kind = 12
  · have e : leaveS o.kind = true := by rw [h12]; decide
    rw [e]
    exact con22_k o _ _ h12 (by simp) H
  by_cases h13 : o.kind = 13
  · have e : leaveS o.kind = false := by rw [h13]; decide
    rw [e]
    exact con22_k o _ _ h13 (by simp) H
  by_cases h14 : o.kind = 14
  · have e : leaveS o.kind = false := by rw [h14]; decide
    rw [e]
    exact con22_k o _ _ h14 (by simp) H
  by_cases h15 : o.kind = 15
  · have e : leaveS o.kind = true := by rw [h15]; decide
    rw [e]
    exact con22_k o _ _ h15 (by simp) H
  by_cases h16 : o.kind = 16
  · have e : leaveS o.kind = true := by rw [h16]; decide
    rw [e]
    exact con22_k o _ _ h16 (by simp) H
  by_cases h17 : o.kind = 17
  · have e : leaveS o.kind = true := by rw [h17]; decide
    rw [e]
    exact con22_k o _ _ h17 (by simp) H
  by_cases h18 : o.kind = 18
  · have e : leaveS o.kind = true := by rw [h18]; decide
    rw [e]
    exact con22_k o _ _ h18 (by simp) H
  have h : noKind o.kind := by simp only [noKind, beq_eq_false_iff_ne, ne_eq]; exact ⟨h1, h2, h3, h4, h5, h6, h7, h8, h9, h10, h11, h12, h13, h14, h15, h16, h17, h18⟩
  have e : leaveS o.kind = false := by
    unfold noKind at h
    simp [leaveS, accS, endS, h]
  rw [e]
  exact con22_no o h H
end Go.Proofs.Ytmbnakinhnkabaa

namespace Go.Proofs.Ytmbnakinhnkabaa
open Go.AM
set_option maxRecDepth 100000
set_option linter.unusedSimpArgs false
set_option linter.unusedVariables false
def useF (o : OpS) : Nat → Int
  | 0 => o.a
  | _ => o.b
def usesBk (o : OpS) (u : Nat) : Blk := ⟨1, some u, fun j => [.c (.int .i64 (useF o j))], 3, true⟩
theorem end_uses {l : List Slot} {H : Heap} {R : Post} {b : Nat} {row : Nat → List Seg} (o : OpS) (u : Nat) (hu : u ≤ 2) (hsl : slotAt l 2 = some ⟨2, [], .c (.slice ⟨b, 0, 0, 0⟩ false u)⟩) (hb : getB H.blks b = some ⟨1, some u, row, 3, true⟩) (h0 : row 0 = [.c (.int .i64 o.a)]) (h1 : row 1 = [.c (.int .i64 o.b)]) (hR : R (.c (.slice ⟨0, 0, 0, 0⟩ false u)) ⟨1, [(0, usesBk o u)]⟩) : endQ (LeS 0) [.tmp 2] R .ret ⟨l, H⟩ := by
  refine end_of ⟨[⟨2, [], .c (.slice ⟨0, 0, 0, 0⟩ false u)⟩], ⟨1, [(0, usesBk o u)]⟩⟩ (LeS.intro [b] (fun i h => absurd h (Nat.not_lt_zero i)) (by simp only [diff, notIn, and_self]) rfl (by simp only [slotsLe, hsl, leV, leV1, leC, leA, nthO, and_self]) ?_) hR
  simp only [leBlks, nthO, hb]
  refine ⟨⟨rfl, rfl, id, Nat.le_refl _, fun j hj => ?_⟩, trivial⟩
  show leSegs _ (row j) [.c (.int .i64 (useF o j))]
  match j, Nat.lt_of_lt_of_le hj hu with
  | 0, _ => rw [h0]; exact ⟨⟨rfl, rfl⟩, trivial⟩
  | 1, _ => rw [h1]; exact ⟨⟨rfl, rfl⟩, trivial⟩
theorem frame_uses (o : OpS) (u : Nat) {m : FuncId} {args : List AV} (h : Con Try.prog m args ⟨0, []⟩ fun v H' => v = .c (.slice ⟨0, 0, 0, 0⟩ false u) ∧ H' = ⟨1, [(0, usesBk o u)]⟩) (ha : leArgs [] args args) (n : Nat) (X : List (Nat × Blk)) (hkl : keysLt X n) : Con Try.prog m args ⟨n, X⟩ fun v H' => v = .c (.slice ⟨n, 0, 0, 0⟩ false u) ∧ H' = addBs ⟨n, X⟩ [usesBk o u] := by
  refine (h.frame (H := ⟨n, X⟩) [] rfl trivial trivial hkl trivial ha).weaken ?_
  rintro v H' ⟨v0, H0', ⟨rfl, rfl⟩, rfl, rfl⟩
  refine ⟨rfl, ?_⟩
  simp only [framed, dropB_none (l := []) (H0 := []) (fun _ => rfl)]
  rfl
set_option maxHeartbeats 8000000 in
theorem con21_k (o : OpS) (k : Int) (u : Nat) (ho : o.kind = k) (hk : (k = 1 ∧ u = 0) ∨ (k = 2 ∧ u = 0) ∨ (k = 3 ∧ u = 1) ∨ (k = 4 ∧ u = 0) ∨ (k = 5 ∧ u = 1) ∨ (k = 6 ∧ u = 0) ∨ (k = 7 ∧ u = 1) ∨ (k = 8 ∧ u = 2) ∨ (k = 9 ∧ u = 1) ∨ (k = 10 ∧ u = 2) ∨ (k = 11 ∧ u = 1) ∨ (k = 12 ∧ u = 2) ∨ (k = 13 ∧ u = 0) ∨ (k = 14 ∧ u = 0) ∨ (k = 15 ∧ u = 1) ∨ (k = 16 ∧ u = 0) ∨ (k = 17 ∧ u = 1) ∨ (k = 18 ∧ u = 0)) (n : Nat) (X : List (Nat × Blk)) (hkl : keysLt X n) : Con Try.prog 21 [.agg (opL o)] ⟨n, X⟩ (fun v H' => v = .c (.slice ⟨n, 0, 0, 0⟩ false u) ∧ H' = addBs ⟨n, X⟩ [usesBk o u]) := by
  refine frame_uses o u ?_ (by simp only [leArgs, leV, leV1, opL, leSegs, leSeg, leC, and_self]) n X hkl
  rcases hk with ⟨rfl, rfl⟩ | ⟨rfl, rfl⟩ | ⟨rfl, rfl⟩ | ⟨rfl, rfl⟩ | ⟨rfl, rfl⟩ | ⟨rfl, rfl⟩ | ⟨rfl, rfl⟩ | ⟨rfl, rfl⟩ | ⟨rfl, rfl⟩ | ⟨rfl, rfl⟩ | ⟨rfl, rfl⟩ | ⟨rfl, rfl⟩ | ⟨rfl, rfl⟩ | ⟨rfl, rfl⟩ | ⟨rfl, rfl⟩ | ⟨rfl, rfl⟩ | ⟨rfl, rfl⟩ | ⟨rfl, rfl⟩
  all_goals
    (refine con_of_run mixed (fn := Try.f21) (by kernel_rfl) (by kernel_rfl) C21_ok (rs := [.tmp 2]) (by kernel_rfl) (Nat.le_of_ble_eq_true (by kernel_rfl)) ?_; unfold C21; simp only [initT, Nat.reduceAdd])
    repeat' (first | refine run_seq ?_ | (refine run_region fun K hK => ?_; (try (simp (maxSteps := 10000000) only [opL, ho, kindV, kindL, boxW, intsW, slB, repl, rowsFit, rowFn, cutD, C21r0, C21r1, C21r2, rwp_nil, rwp_cons, rwpK_app, aop, gpath, St.get, slotAt, sfx, eqP, segsOf, St.put, addBlk, getB, setB, delB, ld1, ldn, st1, stn, setRow, rowNeed, segAt, nsub, bin, un, eqB, isShift, sameK, arith, shiftR, getsl, selB_or, selB_and, beqb, shed, addN, Nat.beq, Seg.size, sizes, imp, needP, andN, appL, argsOf, ptrsOf, aasOf, cut, takeS, dropS, putS, partsOf, fillS, fieldOf, nthA, negIf, nilq, nilB, eqS, eqF, eqS1, andP, kin, slcS, strOk, plusA, bndHi, leN, optG, roH, roL, initT, exOk, exAll, wrAddr, Nat.reduceAdd, Nat.reduceSub, Nat.reduceMul, Int.reduceToNat, List.append_nil, List.nil_append, List.cons_append, eqT, idxT, cat, cpy, ite_int, ite_bool, ite_seg, ite_segs, ite_nil, ite_twice, Int.toNat_natCast, app, addBs, tob])); (repeat (first | (refine And.intro ?_ ?_; · (first | decide | trivial | assumption | (intros; first | decide | trivial))) | ((first | (refine call_t _ (kind_1 _) ?_; rintro v H' ⟨rfl, rfl⟩) | refine call_q _ (kind_1 _) ?_ | refine call_g _ (imp_of (kind_1 _)) ?_ | (refine call_t _ (kind_2 _ _ (by simp [roL, keysLt, boxW])) ?_; rintro v H' ⟨rfl, rfl⟩) | refine call_q _ (kind_2 _ _ (by simp [roL, keysLt, boxW])) ?_ | refine call_g _ (imp_of (kind_2 _ _ (by simp [roL, keysLt, boxW]))) ?_ | (refine call_t _ (kind_3 _ _ (by simp [roL, keysLt, boxW])) ?_; rintro v H' ⟨rfl, rfl⟩) | refine call_q _ (kind_3 _ _ (by simp [roL, keysLt, boxW])) ?_ | refine call_g _ (imp_of (kind_3 _ _ (by simp [roL, keysLt, boxW]))) ?_ | (refine call_t _ (kind_4 _) ?_; rintro v H' ⟨rfl, rfl⟩) | refine call_q _ (kind_4 _) ?_ | refine call_g _ (imp_of (kind_4 _)) ?_ | (refine call_t _ (kind_5 _) ?_; rintro v H' ⟨rfl, rfl⟩) | refine call_q _ (kind_5 _) ?_ | refine call_g _ (imp_of (kind_5 _)) ?_ | (refine call_t _ (kind_6 _ _ (by simp [roL, keysLt, boxW])) ?_; rintro v H' ⟨rfl, rfl⟩) | refine call_q _ (kind_6 _ _ (by simp [roL, keysLt, boxW])) ?_ | refine call_g _ (imp_of (kind_6 _ _ (by simp [roL, keysLt, boxW]))) ?_ | (refine call_t _ (kind_7 _ _ (by simp [roL, keysLt, boxW])) ?_; rintro v H' ⟨rfl, rfl⟩) | refine call_q _ (kind_7 _ _ (by simp [roL, keysLt, boxW])) ?_ | refine call_g _ (imp_of (kind_7 _ _ (by simp [roL, keysLt, boxW]))) ?_ | (refine call_t _ (kind_8 _) ?_; rintro v H' ⟨rfl, rfl⟩) | refine call_q _ (kind_8 _) ?_ | refine call_g _ (imp_of (kind_8 _)) ?_ | (refine call_t _ (kind_9 _ _ (by simp [roL, keysLt, boxW])) ?_; rintro v H' ⟨rfl, rfl⟩) | refine call_q _ (kind_9 _ _ (by simp [roL, keysLt, boxW])) ?_ | refine call_g _ (imp_of (kind_9 _ _ (by simp [roL, keysLt, boxW]))) ?_ | (refine call_t _ (kind_10 _ _ (by simp [roL, keysLt, boxW])) ?_; rintro v H' ⟨rfl, rfl⟩) | refine call_q _ (kind_10 _ _ (by simp [roL, keysLt, boxW])) ?_ | refine call_g _ (imp_of (kind_10 _ _ (by simp [roL, keysLt, boxW]))) ?_ | (refine call_t _ (kind_11 _ _ (by simp [roL, keysLt, boxW])) ?_; rintro v H' ⟨rfl, rfl⟩) | refine call_q _ (kind_11 _ _ (by simp [roL, keysLt, boxW])) ?_ | refine call_g _ (imp_of (kind_11 _ _ (by simp [roL, keysLt, boxW]))) ?_ | (refine call_t _ (kind_12 _ _ (by simp [roL, keysLt, boxW])) ?_; rintro v H' ⟨rfl, rfl⟩) | refine call_q _ (kind_12 _ _ (by simp [roL, keysLt, boxW])) ?_ | refine call_g _ (imp_of (kind_12 _ _ (by simp [roL, keysLt, boxW]))) ?_ | (refine call_t _ (kind_13 _) ?_; rintro v H' ⟨rfl, rfl⟩) | refine call_q _ (kind_13 _) ?_ | refine call_g _ (imp_of (kind_13 _)) ?_ | (refine call_t _ (kind_14 _) ?_; rintro v H' ⟨rfl, rfl⟩) | refine call_q _ (kind_14 _) ?_ | refine call_g _ (imp_of (kind_14 _)) ?_ | (refine call_t _ (kind_15 _) ?_; rintro v H' ⟨rfl, rfl⟩) | refine call_q _ (kind_15 _) ?_ | refine call_g _ (imp_of (kind_15 _)) ?_ | (refine call_t _ (kind_16 _) ?_; rintro v H' ⟨rfl, rfl⟩) | refine call_q _ (kind_16 _) ?_ | refine call_g _ (imp_of (kind_16 _)) ?_ | (refine call_t _ (kind_17 _) ?_; rintro v H' ⟨rfl, rfl⟩) | refine call_q _ (kind_17 _) ?_ | refine call_g _ (imp_of (kind_17 _)) ?_ | (refine call_t _ (kind_18 _) ?_; rintro v H' ⟨rfl, rfl⟩) | refine call_q _ (kind_18 _) ?_ | refine call_g _ (imp_of (kind_18 _)) ?_); simp (maxSteps := 10000000) only [opL, ho, kindV, kindL, boxW, intsW, slB, repl, rowsFit, rowFn, cutD, C21r0, C21r1, C21r2, rwp_nil, rwp_cons, rwpK_app, aop, gpath, St.get, slotAt, sfx, eqP, segsOf, St.put, addBlk, getB, setB, delB, ld1, ldn, st1, stn, setRow, rowNeed, segAt, nsub, bin, un, eqB, isShift, sameK, arith, shiftR, getsl, selB_or, selB_and, beqb, shed, addN, Nat.beq, Seg.size, sizes, imp, needP, andN, appL, argsOf, ptrsOf, aasOf, cut, takeS, dropS, putS, partsOf, fillS, fieldOf, nthA, negIf, nilq, nilB, eqS, eqF, eqS1, andP, kin, slcS, strOk, plusA, bndHi, leN, optG, roH, roL, initT, exOk, exAll, wrAddr, Nat.reduceAdd, Nat.reduceSub, Nat.reduceMul, Int.reduceToNat, List.append_nil, List.nil_append, List.cons_append, eqT, idxT, cat, cpy, ite_int, ite_bool, ite_seg, ite_segs, ite_nil, ite_twice, Int.toNat_natCast, app, addBs, tob]))); with_reducible refine hK _ ?_; clear hK K) | refine run_ret ?_ | refine run_nil ?_)
    exact end_uses o _ (by decide) rfl rfl rfl rfl ⟨rfl, rfl⟩
theorem con21_no (o : OpS) (h : noKind o.kind) (n : Nat) (X : List (Nat × Blk)) (hkl : keysLt X n) : Con Try.prog 21 [.agg (opL o)] ⟨n, X⟩ (fun v H' => v = .c (.slice ⟨n, 0, 0, 0⟩ false 0) ∧ H' = addBs ⟨n, X⟩ [usesBk o 0]) := by
  refine frame_uses o 0 ?_ (by simp only [leArgs, leV, leV1, opL, leSegs, leSeg, leC, and_self]) n X hkl
  have h' := h
  unfold noKind at h'
  (refine con_of_run mixed (fn := Try.f21) (by kernel_rfl) (by kernel_rfl) C21_ok (rs := [.tmp 2]) (by kernel_rfl) (Nat.le_of_ble_eq_true (by kernel_rfl)) ?_; unfold C21; simp only [initT, Nat.reduceAdd])
  repeat' (first | refine run_seq ?_ | (refine run_region fun K hK => ?_; (try (simp (maxSteps := 10000000) only [opL, h', kindV, kindL, repl, rowsFit, rowFn, cutD, C21r0, C21r1, C21r2, rwp_nil, rwp_cons, rwpK_app, aop, gpath, St.get, slotAt, sfx, eqP, segsOf, St.put, addBlk, getB, setB, delB, ld1, ldn, st1, stn, setRow, rowNeed, segAt, nsub, bin, un, eqB, isShift, sameK, arith, shiftR, getsl, selB_or, selB_and, beqb, shed, addN, Nat.beq, Seg.size, sizes, imp, needP, andN, appL, argsOf, ptrsOf, aasOf, cut, takeS, dropS, putS, partsOf, fillS, fieldOf, nthA, negIf, nilq, nilB, eqS, eqF, eqS1, andP, kin, slcS, strOk, plusA, bndHi, leN, optG, roH, roL, initT, exOk, exAll, wrAddr, Nat.reduceAdd, Nat.reduceSub, Nat.reduceMul, Int.reduceToNat, List.append_nil, List.nil_append, List.cons_append, eqT, idxT, cat, cpy, ite_int, ite_bool, ite_seg, ite_segs, ite_nil, ite_twice, Int.toNat_natCast, app, addBs, tob])); (repeat (first | (refine And.intro ?_ ?_; · (first | decide | trivial | assumption | (intros; first | decide | trivial))) | ((first | (refine call_t _ (kind_no _ h _) ?_; rintro v H' ⟨rfl, rfl⟩) | refine call_q _ (kind_no _ h _) ?_ | refine call_g _ (imp_of (kind_no _ h _)) ?_); simp (maxSteps := 10000000) only [opL, h', kindV, kindL, repl, rowsFit, rowFn, cutD, C21r0, C21r1, C21r2, rwp_nil, rwp_cons, rwpK_app, aop, gpath, St.get, slotAt, sfx, eqP, segsOf, St.put, addBlk, getB, setB, delB, ld1, ldn, st1, stn, setRow, rowNeed, segAt, nsub, bin, un, eqB, isShift, sameK, arith, shiftR, getsl, selB_or, selB_and, beqb, shed, addN, Nat.beq, Seg.size, sizes, imp, needP, andN, appL, argsOf, ptrsOf, aasOf, cut, takeS, dropS, putS, partsOf, fillS, fieldOf, nthA, negIf, nilq, nilB, eqS, eqF, eqS1, andP, kin, slcS, strOk, plusA, bndHi, leN, optG, roH, roL, initT, exOk, exAll, wrAddr, Nat.reduceAdd, Nat.reduceSub, Nat.reduceMul, Int.reduceToNat, List.append_nil, List.nil_append, List.cons_append, eqT, idxT, cat, cpy, ite_int, ite_bool, ite_seg, ite_segs, ite_nil, ite_twice, Int.toNat_natCast, app, addBs, tob]))); with_reducible refine hK _ ?_; clear hK K) | refine run_ret ?_ | refine run_nil ?_)
  exact end_uses o _ (by decide) rfl rfl rfl rfl ⟨rfl, rfl⟩
theorem con21 (o : OpS) (n : Nat) (X : List (Nat × Blk)) (hkl : keysLt X n) : Con Try.prog 21 [.agg (opL o)] ⟨n, X⟩ (fun v H' => v = .c (.slice ⟨n, 0, 0, 0⟩ false (usesS o.kind)) ∧ H' = addBs ⟨n, X⟩ [usesBk o (usesS o.kind)]) := by
  by_cases h1 : o.kind = 1
  · have e : usesS o.kind = 0 := by rw [h1]; decide
    rw [e]
    exact con21_k o _ _ h1 (by simp) n X hkl
  by_cases h2 : o.kind = 2
  · have e : usesS o.kind = 0 := by rw [h2]; decide
    rw [e]
    exact con21_k o _ _ h2 (by simp) n X hkl
  by_cases h3 : o.kind = 3
  · have e : usesS o.kind = 1 := by rw [h3]; decide
    rw [e]
    exact con21_k o _ _ h3 (by simp) n X hkl
  by_cases h4 : o.kind = 4
  · have e : usesS o.kind = 0 := by rw [h4]; decide
    rw [e]
    exact con21_k o _ _ h4 (by simp) n X hkl
  by_cases h5 : o.kind = 5
  · have e : usesS o.kind = 1 := by rw [h5]; decide
    rw [e]
    exact con21_k o _ _ h5 (by simp) n X hkl
  by_cases h6 : o.kind = 6
  · have e : usesS o.kind = 0 := by rw [h6]; decide
    rw [e]
    exact con21_k o _ _ h6 (by simp) n X hkl
  by_cases h7 : o.kind = 7
  · have e : usesS o.kind = 1 := by rw [h7]; decide
    rw [e]
    exact con21_k o _ _ h7 (by simp) n X hkl
  by_cases h8 : o.kind = 8
  · have e : usesS o.kind = 2 := by rw [h8]; decide
    rw [e]
    exact con21_k o _ _ h8 (by simp) n X hkl
  by_cases h9 : o.kind = 9
  · have e : usesS o.kind = 1 := by rw [h9]; decide
    rw [e]
    exact con21_k o _ _ h9 (by simp) n X hkl
  by_cases h10 : o.kind = 10
  · have e : usesS o.kind = 2 := by rw [h10]; decide
    rw [e]
    exact con21_k o _ _ h10 (by simp) n X hkl
  by_cases h11 : o.kind = 11
  · have e : usesS o.kind = 1 := by rw [h11]; decide
    rw [e]
    exact con21_k o _ _ h11 (by simp) n X hkl
  by_cases h12 : o.kind = 12
  · have e : usesS o.kind = 2 := by rw [h12]; decide
    rw [e]
    exact con21_k o _ _ h12 (by simp) n X hkl
  by_cases h13 : o.kind = 13
  · have e : usesS o.kind = 0 := by rw [h13]; decide
    rw [e]
    exact con21_k o _ _ h13 (by simp) n X hkl
  by_cases h14 : o.kind = 14
  · have e : usesS o.kind = 0 := by rw [h14]; decide
    rw [e]
    exact con21_k o _ _ h14 (by simp) n X hkl
  by_cases h15 : o.kind = 15
  · have e : usesS o.kind = 1 := by rw [h15]; decide
    rw [e]
    exact con21_k o _ _ h15 (by simp) n X hkl
  by_cases h16 : o.kind = 16
  · have e : usesS o.kind = 0 := by rw [h16]; decide
    rw [e]
    exact con21_k o _ _ h16 (by simp) n X hkl
  by_cases h17 : o.kind = 17
  · have e : usesS o.kind = 1 := by rw [h17]; decide
    rw [e]
    exact con21_k o _ _ h17 (by simp) n X hkl
  by_cases h18 : o.kind = 18
  · have e : usesS o.kind = 0 := by rw [h18]; decide
    rw [e]
    exact con21_k o _ _ h18 (by simp) n X hkl
  have h : noKind o.kind := by simp only [noKind, beq_eq_false_iff_ne, ne_eq]; exact ⟨h1, h2, h3, h4, h5, h6, h7, h8, h9, h10, h11, h12, h13, h14, h15, h16, h17, h18⟩
  have e : usesS o.kind = 0 := by
    unfold usesS
    rw [if_neg (by omega), if_neg (by omega)]
  rw [e]
  exact con21_no o h n X hkl
end Go.Proofs.Ytmbnakinhnkabaa

namespace Go.Proofs.Ytmbnakinhnkabaa
open Go.AM
set_option maxRecDepth 100000
set_option linter.unusedSimpArgs false
set_option linter.unusedVariables false
def opsB (n : Nat) (f : Nat → OpS) : Blk := ⟨6, some n, fun i => opL (f i), 39, false⟩
theorem ops_le {l : List Nat} (n : Nat) (f : Nat → OpS) (w : Bool) : leB l ⟨6, some n, fun i => opL (f i), 39, w⟩ (opsB n f) := ⟨rfl, rfl, fun h => (by cases h), Nat.le_refl _, fun _ _ => by simp only [opsB, opL, leSegs, leSeg, leC, and_self]⟩
theorem con99_at (m : Nat) (f : Nat → Int) (o : OpS) (hm : m < 1000) (a b n : Nat) (X : List (Nat × Blk)) (w1 w2 : Bool) (hab : Nat.beq a b = false) (ha : getB X a = some ⟨1, some m, fun i => [.c (.int .i64 (f i))], 3, w1⟩) (hb : getB X b = some ⟨1, none, fun _ => [.c (.slice ⟨a, 0, 0, 0⟩ false m)], 59, w2⟩) (hla : a < n) (hlb : b < n) (hkl : keysLt X n) : Con Try.prog 99 [.agg (opL o), .c (.ptr ⟨b, 0, 0, 0⟩)] ⟨n, X⟩ (fun v H' => v = .c (.bool (inB f o.order m 0)) ∧ H' = ⟨n, X⟩) :=
  ro_gen (con99 m f o hm) [a, b] n X rfl (by simp only [diff, notIn, hab, and_self]) ⟨hla, hlb, trivial⟩ hkl (by
    simp only [leBlks, nthO, ha, hb]
    exact ⟨⟨rfl, rfl, fun h => (by cases h), Nat.le_refl _, fun _ _ => ⟨⟨⟨rfl, rfl, rfl, rfl⟩, rfl, rfl⟩, trivial⟩⟩, ints_le m f w1, trivial⟩) (by simp only [leArgs, leV, leV1, opL, leSegs, leSeg, leC, leA, nthO, and_self]) rfl (fun _ => rfl) rfl rfl
theorem kindo_1 (o : OpS) (ho : o.kind = 1) (H : Heap) : Con Try.prog 46 [.c (.int .i64 o.kind)] H (fun v H' => v = kindV (kindL ⟨#[99, 111, 110, 115, 116]⟩ false true false 0 true false false (.fn 66 [] [])) true ∧ H' = H) := by rw [ho]; exact kind_1 H
theorem kindo_2 (o : OpS) (ho : o.kind = 2) (n : Nat) (X : List (Nat × Blk)) (hkl : keysLt X n) : Con Try.prog 46 [.c (.int .i64 o.kind)] ⟨n, X⟩ (fun v H' => v = kindV (kindL ⟨#[103, 101, 116, 120]⟩ true false false 0 true false false (.fn 98 [] [⟨n, 0, 0, 0⟩])) true ∧ H' = addBs ⟨n, X⟩ [boxW 30]) := by rw [ho]; exact kind_2 n X hkl
theorem kindo_3 (o : OpS) (ho : o.kind = 3) (n : Nat) (X : List (Nat × Blk)) (hkl : keysLt X n) : Con Try.prog 46 [.c (.int .i64 o.kind)] ⟨n, X⟩ (fun v H' => v = kindV (kindL ⟨#[115, 101, 116, 120]⟩ true false false 1 false false false (.fn 98 [] [⟨n, 0, 0, 0⟩])) true ∧ H' = addBs ⟨n, X⟩ [boxW 30]) := by rw [ho]; exact kind_3 n X hkl
theorem kindo_4 (o : OpS) (ho : o.kind = 4) (H : Heap) : Con Try.prog 46 [.c (.int .i64 o.kind)] H (fun v H' => v = kindV (kindL ⟨#[103, 101, 116, 115, 112]⟩ false false false 0 true false false (.fn 66 [] [])) true ∧ H' = H) := by rw [ho]; exact kind_4 H
theorem kindo_5 (o : OpS) (ho : o.kind = 5) (H : Heap) : Con Try.prog 46 [.c (.int .i64 o.kind)] H (fun v H' => v = kindV (kindL ⟨#[115, 101, 116, 115, 112]⟩ false false false 1 false false false (.fn 66 [] [])) true ∧ H' = H) := by rw [ho]; exact kind_5 H
theorem kindo_6 (o : OpS) (ho : o.kind = 6) (n : Nat) (X : List (Nat × Blk)) (hkl : keysLt X n) : Con Try.prog 46 [.c (.int .i64 o.kind)] ⟨n, X⟩ (fun v H' => v = kindV (kindL ⟨#[103, 101, 116, 102]⟩ true false false 0 true false false (.fn 98 [] [⟨n, 0, 0, 0⟩])) true ∧ H' = addBs ⟨n, X⟩ [boxW 3]) := by rw [ho]; exact kind_6 n X hkl
theorem kindo_7 (o : OpS) (ho : o.kind = 7) (n : Nat) (X : List (Nat × Blk)) (hkl : keysLt X n) : Con Try.prog 46 [.c (.int .i64 o.kind)] ⟨n, X⟩ (fun v H' => v = kindV (kindL ⟨#[115, 101, 116, 102]⟩ true false false 1 false false false (.fn 98 [] [⟨n, 0, 0, 0⟩])) true ∧ H' = addBs ⟨n, X⟩ [boxW 3]) := by rw [ho]; exact kind_7 n X hkl
theorem kindo_8 (o : OpS) (ho : o.kind = 8) (H : Heap) : Con Try.prog 46 [.c (.int .i64 o.kind)] H (fun v H' => v = kindV (kindL ⟨#[97, 108, 117]⟩ true false false 2 true false false (.fn 68 [] [])) true ∧ H' = H) := by rw [ho]; exact kind_8 H
theorem kindo_9 (o : OpS) (ho : o.kind = 9) (n : Nat) (X : List (Nat × Blk)) (hkl : keysLt X n) : Con Try.prog 46 [.c (.int .i64 o.kind)] ⟨n, X⟩ (fun v H' => v = kindV (kindL ⟨#[108, 111, 97, 100]⟩ false false true 1 true false true (.fn 99 [] [⟨n + 1, 0, 0, 0⟩])) true ∧ H' = addBs ⟨n, X⟩ [intsW 3 (ordF 1 2), slB n 3 true]) := by rw [ho]; exact kind_9 n X hkl
theorem kindo_10 (o : OpS) (ho : o.kind = 10) (n : Nat) (X : List (Nat × Blk)) (hkl : keysLt X n) : Con Try.prog 46 [.c (.int .i64 o.kind)] ⟨n, X⟩ (fun v H' => v = kindV (kindL ⟨#[115, 116, 111, 114, 101]⟩ false false true 2 false false true (.fn 99 [] [⟨n + 1, 0, 0, 0⟩])) true ∧ H' = addBs ⟨n, X⟩ [intsW 2 (ordF 4 0), slB n 2 true]) := by rw [ho]; exact kind_10 n X hkl
theorem kindo_11 (o : OpS) (ho : o.kind = 11) (n : Nat) (X : List (Nat × Blk)) (hkl : keysLt X n) : Con Try.prog 46 [.c (.int .i64 o.kind)] ⟨n, X⟩ (fun v H' => v = kindV (kindL ⟨#[108, 111, 97, 100, 101, 120]⟩ false false true 1 true false true (.fn 99 [] [⟨n + 1, 0, 0, 0⟩])) true ∧ H' = addBs ⟨n, X⟩ [intsW 2 (ordF 2 0), slB n 2 true]) := by rw [ho]; exact kind_11 n X hkl
theorem kindo_12 (o : OpS) (ho : o.kind = 12) (n : Nat) (X : List (Nat × Blk)) (hkl : keysLt X n) : Con Try.prog 46 [.c (.int .i64 o.kind)] ⟨n, X⟩ (fun v H' => v = kindV (kindL ⟨#[115, 116, 111, 114, 101, 101, 120]⟩ false false true 2 true false true (.fn 99 [] [⟨n + 1, 0, 0, 0⟩])) true ∧ H' = addBs ⟨n, X⟩ [intsW 2 (ordF 4 0), slB n 2 true]) := by rw [ho]; exact kind_12 n X hkl
theorem kindo_13 (o : OpS) (ho : o.kind = 13) (H : Heap) : Con Try.prog 46 [.c (.int .i64 o.kind)] H (fun v H' => v = kindV (kindL ⟨#[102, 101, 110, 99, 101]⟩ true false false 0 false false false (.fn 70 [] [])) true ∧ H' = H) := by rw [ho]; exact kind_13 H
theorem kindo_14 (o : OpS) (ho : o.kind = 14) (H : Heap) : Con Try.prog 46 [.c (.int .i64 o.kind)] H (fun v H' => v = kindV (kindL ⟨#[97, 116]⟩ false true false 0 false false false (.fn 71 [] [])) true ∧ H' = H) := by rw [ho]; exact kind_14 H
theorem kindo_15 (o : OpS) (ho : o.kind = 15) (H : Heap) : Con Try.prog 46 [.c (.int .i64 o.kind)] H (fun v H' => v = kindV (kindL ⟨#[101, 120, 105, 116, 105, 102]⟩ false true false 1 false false false (.fn 66 [] [])) true ∧ H' = H) := by rw [ho]; exact kind_15 H
theorem kindo_16 (o : OpS) (ho : o.kind = 16) (H : Heap) : Con Try.prog 46 [.c (.int .i64 o.kind)] H (fun v H' => v = kindV (kindL ⟨#[101, 120, 105, 116]⟩ false true false 0 false true false (.fn 66 [] [])) true ∧ H' = H) := by rw [ho]; exact kind_16 H
theorem kindo_17 (o : OpS) (ho : o.kind = 17) (H : Heap) : Con Try.prog 46 [.c (.int .i64 o.kind)] H (fun v H' => v = kindV (kindL ⟨#[101, 120, 105, 116, 116, 111]⟩ false false false 1 false true false (.fn 66 [] [])) true ∧ H' = H) := by rw [ho]; exact kind_17 H
theorem kindo_18 (o : OpS) (ho : o.kind = 18) (H : Heap) : Con Try.prog 46 [.c (.int .i64 o.kind)] H (fun v H' => v = kindV (kindL ⟨#[103, 117, 101, 115, 116]⟩ false true false 0 false true false (.fn 72 [] [])) true ∧ H' = H) := by rw [ho]; exact kind_18 H
def hasR (k : Int) : Bool := (k == 2) || (k == 3) || (k == 6) || (k == 7) || (k == 8) || (k == 13)
def hasImm (k : Int) : Bool := (k == 1) || (k == 14) || (k == 15) || (k == 16) || (k == 18)
def hasOrd (k : Int) : Bool := (k == 9) || (k == 10) || (k == 11) || (k == 12)
def rightF (o : OpS) : Bool := if o.kind = 1 then (true) else if o.kind = 2 then (upS 30 o) else if o.kind = 3 then (upS 30 o) else if o.kind = 4 then (true) else if o.kind = 5 then (true) else if o.kind = 6 then (upS 3 o) else if o.kind = 7 then (upS 3 o) else if o.kind = 8 then (decide (o.r ≥ 1) && decide (o.r ≤ 15)) else if o.kind = 9 then (inB (ordF 1 2) o.order 3 0) else if o.kind = 10 then (inB (ordF 4 0) o.order 2 0) else if o.kind = 11 then (inB (ordF 2 0) o.order 2 0) else if o.kind = 12 then (inB (ordF 4 0) o.order 2 0) else if o.kind = 13 then (((o.r == 13) || (o.r == 10)) || (o.r == 15)) else if o.kind = 14 then (IntKind.u64.wrap (BitVec.ofInt IntKind.u64.bits o.imm &&& BitVec.ofInt IntKind.u64.bits 3).toNat == 0) else if o.kind = 15 then (true) else if o.kind = 16 then (true) else if o.kind = 17 then (true) else if o.kind = 18 then (o.imm.fdiv (2 ^ min 32 IntKind.u64.bits) == 0) else false
def fieldBad (o : OpS) : Bool := (((((!rightF o) || (!hasR o.kind && (o.r != 0))) || (!hasImm o.kind && (o.imm != 0))) || (!hasOrd o.kind && (o.order != 0))) || (decide (usesS o.kind < 1) && (o.a != 0))) || (decide (usesS o.kind < 2) && (o.b != 0))
end Go.Proofs.Ytmbnakinhnkabaa

namespace Go.Proofs.Ytmbnakinhnkabaa
open Go.AM
set_option maxRecDepth 100000
set_option linter.unusedSimpArgs false
set_option linter.unusedVariables false
theorem idt1' {j : Nat} : ∀ i, i < 1 → nthO [0, j] i = some i := by
  intro i h; match i, h with
  | 0, _ => rfl
def opB' (o : OpS) : Blk := ⟨6, none, fun _ => opL o, 39, true⟩
theorem end_ops {l : List Slot} {H : Heap} {R : Post} {t N : Nat} {f : Nat → OpS} (b : Bool) (hsl : slotAt l t = some ⟨t, [], .c (.bool b)⟩) (hb : getB H.blks 0 = some (opsB N f)) (hR : R (.c (.bool b)) ⟨1, [(0, opsB N f)]⟩) : endQ (LeS 1) [.tmp t] R .ret ⟨l, H⟩ := by
  refine end_of ⟨[⟨t, [], .c (.bool b)⟩], ⟨1, [(0, opsB N f)]⟩⟩ (LeS.intro [0] idt1 (by simp only [diff, notIn, and_self]) rfl (by simp only [slotsLe, hsl, leV, leV1, leC, and_self]) ?_) ?_
  · simp only [leBlks, nthO, hb]
    exact ⟨ops_le N f false, trivial⟩
  · simp only [endF, resL, resA, St.get, slotAt, Nat.beq_refl, sfx, eqP, noTup, resV]
    exact hR
def useOk (f : Nat → OpS) (m : Nat) (v : Int) : Bool := decide (0 ≤ v) && decide (v < (m : Int)) && defS (f v.toNat).kind
def usesOk (o : OpS) (m : Nat) (f : Nat → OpS) : Nat → Bool
  | 0 => true
  | j + 1 => usesOk o m f j && useOk f m (useF o j)
theorem useOk_eq (f : Nat → OpS) (m : Nat) (v : Int) : useOk f m v = !(decide (v < 0) || decide (v ≥ (m : Int)) || !defS (f v.toNat).kind) := by
  unfold useOk
  have e1 : decide (v < 0) = !decide (0 ≤ v) := by by_cases h : 0 ≤ v <;> simp [h]; omega
  have e2 : decide (v ≥ (m : Int)) = !decide (v < (m : Int)) := by by_cases h : v < (m : Int) <;> simp [h]; omega
  rw [e1, e2]
  cases decide (0 ≤ v) <;> cases decide (v < (m : Int)) <;> cases defS (f v.toNat).kind <;> rfl
theorem usesOk_no {o : OpS} {m : Nat} {f : Nat → OpS} : ∀ {u j : Nat}, j < u → useOk f m (useF o j) = false → usesOk o m f u = false
  | u + 1, j, h, hb => by
    simp only [usesOk]
    by_cases hj : j = u
    · rw [← hj, hb, Bool.and_false]
    · rw [usesOk_no (u := u) (by omega) hb, Bool.false_and]
def ropTail : List ACode := [.seq (.seq (.region C54r4)
  (.block 0
   (.loop
    (.seq (.region C54r5)
    (.seq (.cond (.t 78)
     (.skip)
     (.exit 0))
    (.seq (.block 1
     (.seq (.region C54r6)
     (.seq (.region C54r7)
     (.cond (.t 96)
      (.seq (.region C54r8)
      (.ret))
      (.skip)))))
    (.region C54r9)))))))
  (.seq (.region C54r10)
  (.ret))]
def ropSt (o : OpS) (N m : Nat) (f : Nat → OpS) (u j : Nat) : St := ⟨[⟨77, [], .c (.int .i64 j)⟩, ⟨76, [], .c (.int .i64 u)⟩, ⟨75, [], .c (.slice ⟨1, 0, 0, 0⟩ false u)⟩, ⟨1, [], .c (.slice ⟨0, 0, 0, 0⟩ false m)⟩], ⟨2, [(1, usesBk o u), (0, opsB N f)]⟩⟩
theorem rop_tail (c : Bool) (o : OpS) (N m : Nat) (f : Nat → OpS) (hm : m ≤ N) (hN : N ≤ 140737488355328) {R : Post} (hR : R (.c (.bool (usesOk o m f (usesS o.kind)))) ⟨1, [(0, opsB N f)]⟩) :
    runA (Con Try.prog) (LeS 1) ropTail ⟨[⟨73, [], .c (.bool c)⟩, ⟨2, [], .c (.ptr ⟨1, 0, 0, 0⟩)⟩, ⟨1, [], .c (.slice ⟨0, 0, 0, 0⟩ false m)⟩], ⟨2, [(1, opB' o), (0, opsB N f)]⟩⟩ (endQ (LeS 1) [.tmp 4] R) := by
  unfold ropTail
  have hu : usesS o.kind ≤ 2 := by unfold usesS; (repeat' split) <;> omega
  obtain ⟨u, hu'⟩ : ∃ u, usesS o.kind = u := ⟨_, rfl⟩
  rw [hu'] at hu hR
  refine run_seq (run_seq ?_)
  (refine run_regionL fun K hK => ?_; (try (simp (maxSteps := 10000000) only [opL, opB', opsB, hu', C54r0, C54r1, C54r2, C54r3, C54r4, C54r5, C54r6, C54r7, C54r8, C54r9, C54r10, rwp_nil, rwp_cons, rwpK_app, aop, gpath, St.get, slotAt, sfx, eqP, segsOf, St.put, addBlk, getB, setB, delB, ld1, ldn, st1, stn, setRow, rowNeed, segAt, nsub, bin, un, eqB, isShift, sameK, arith, shiftR, getsl, selB_or, selB_and, beqb, shed, addN, Nat.beq, Seg.size, sizes, imp, needP, andN, appL, argsOf, ptrsOf, aasOf, cut, takeS, dropS, putS, partsOf, fillS, fieldOf, nthA, negIf, nilq, nilB, eqS, eqF, eqS1, andP, kin, slcS, strOk, plusA, bndHi, leN, optG, roH, roL, initT, exOk, exAll, wrAddr, Nat.reduceAdd, Nat.reduceSub, Nat.reduceMul, Int.reduceToNat, List.append_nil, List.nil_append, List.cons_append, eqT, idxT, cat, cpy, ite_int, ite_bool, ite_seg, ite_segs, ite_nil, ite_twice, Int.toNat_natCast, app, addBs, tob])); (repeat (first | (refine And.intro ?_ ?_; · (refine ⟨by omega, by omega⟩)) | ((first | (refine call_t _ (con21 o _ _ (by simp [roL, keysLt, opB', opsB, usesBk])) ?_; rintro v H' ⟨rfl, rfl⟩) | (refine call_q _ (con21 o _ _ (by simp [roL, keysLt, opB', opsB, usesBk])) ?_) | (refine call_g _ (imp_of (con21 o _ _ (by simp [roL, keysLt, opB', opsB, usesBk]))) ?_)); (try simp (maxSteps := 10000000) only [opL, opB', opsB, hu', C54r0, C54r1, C54r2, C54r3, C54r4, C54r5, C54r6, C54r7, C54r8, C54r9, C54r10, rwp_nil, rwp_cons, rwpK_app, aop, gpath, St.get, slotAt, sfx, eqP, segsOf, St.put, addBlk, getB, setB, delB, ld1, ldn, st1, stn, setRow, rowNeed, segAt, nsub, bin, un, eqB, isShift, sameK, arith, shiftR, getsl, selB_or, selB_and, beqb, shed, addN, Nat.beq, Seg.size, sizes, imp, needP, andN, appL, argsOf, ptrsOf, aasOf, cut, takeS, dropS, putS, partsOf, fillS, fieldOf, nthA, negIf, nilq, nilB, eqS, eqF, eqS1, andP, kin, slcS, strOk, plusA, bndHi, leN, optG, roH, roL, initT, exOk, exAll, wrAddr, Nat.reduceAdd, Nat.reduceSub, Nat.reduceMul, Int.reduceToNat, List.append_nil, List.nil_append, List.cons_append, eqT, idxT, cat, cpy, ite_int, ite_bool, ite_seg, ite_segs, ite_nil, ite_twice, Int.toNat_natCast, app, addBs, tob])))); refine hK _ (ropSt o N m f u 0) (LeS.intro [0, 2] idt1' (by simp only [diff, notIn, Nat.beq, and_self]) rfl (by simp only [ropSt, slotsLe, slotAt, Nat.beq, leV, leV1, leC, leA, nthO, Int.natCast_zero, Int.ofNat_zero, and_self]) ⟨⟨rfl, rfl, id, Nat.le_refl _, fun _ _ => ⟨⟨rfl, rfl⟩, trivial⟩⟩, ops_le N f false, trivial⟩) ?_; clear hK K)
  refine run_block ?_
  refine run_loop (fun n s => ∃ j, n = u - j ∧ j ≤ u ∧ usesOk o m f j = true ∧ s = ropSt o N m f u j) u ⟨0, rfl, Nat.zero_le _, rfl, rfl⟩ ?_
  rintro n s ⟨j, rfl, hj, hok, rfl⟩
  unfold ropSt
  repeat' (first | refine run_seq ?_ | refine run_skip ?_ | (refine run_region fun K hK => ?_; (try (simp (maxSteps := 10000000) only [opL, usesBk, opsB, C54r0, C54r1, C54r2, C54r3, C54r4, C54r5, C54r6, C54r7, C54r8, C54r9, C54r10, rwp_nil, rwp_cons, rwpK_app, aop, gpath, St.get, slotAt, sfx, eqP, segsOf, St.put, addBlk, getB, setB, delB, ld1, ldn, st1, stn, setRow, rowNeed, segAt, nsub, bin, un, eqB, isShift, sameK, arith, shiftR, getsl, selB_or, selB_and, beqb, shed, addN, Nat.beq, Seg.size, sizes, imp, needP, andN, appL, argsOf, ptrsOf, aasOf, cut, takeS, dropS, putS, partsOf, fillS, fieldOf, nthA, negIf, nilq, nilB, eqS, eqF, eqS1, andP, kin, slcS, strOk, plusA, bndHi, leN, optG, roH, roL, initT, exOk, exAll, wrAddr, Nat.reduceAdd, Nat.reduceSub, Nat.reduceMul, Int.reduceToNat, List.append_nil, List.nil_append, List.cons_append, eqT, idxT, cat, cpy, ite_int, ite_bool, ite_seg, ite_segs, ite_nil, ite_twice, Int.toNat_natCast, app, addBs, tob])); (repeat (first | (refine And.intro ?_ ?_; · (first | trivial | assumption | (intros; simp only [Bool.or_eq_false_iff, decide_eq_false_iff_not, decide_eq_true_eq] at *; omega))) | ((first | (refine call_t _ (con57 (f _) _) ?_; rintro v H' ⟨rfl, rfl⟩) | refine call_q _ (con57 (f _) _) ?_ | refine call_g _ (imp_of (con57 (f _) _)) ?_); simp (maxSteps := 10000000) only [opL, usesBk, opsB, C54r0, C54r1, C54r2, C54r3, C54r4, C54r5, C54r6, C54r7, C54r8, C54r9, C54r10, rwp_nil, rwp_cons, rwpK_app, aop, gpath, St.get, slotAt, sfx, eqP, segsOf, St.put, addBlk, getB, setB, delB, ld1, ldn, st1, stn, setRow, rowNeed, segAt, nsub, bin, un, eqB, isShift, sameK, arith, shiftR, getsl, selB_or, selB_and, beqb, shed, addN, Nat.beq, Seg.size, sizes, imp, needP, andN, appL, argsOf, ptrsOf, aasOf, cut, takeS, dropS, putS, partsOf, fillS, fieldOf, nthA, negIf, nilq, nilB, eqS, eqF, eqS1, andP, kin, slcS, strOk, plusA, bndHi, leN, optG, roH, roL, initT, exOk, exAll, wrAddr, Nat.reduceAdd, Nat.reduceSub, Nat.reduceMul, Int.reduceToNat, List.append_nil, List.nil_append, List.cons_append, eqT, idxT, cat, cpy, ite_int, ite_bool, ite_seg, ite_segs, ite_nil, ite_twice, Int.toNat_natCast, app, addBs, tob]))); with_reducible refine hK _ ?_; clear hK K) | (refine run_cond rfl (fun hc => ?_) (fun hc => ?_) <;> try (simp only [*, Bool.true_eq_false, Bool.false_eq_true, Bool.not_true, Bool.not_false, Bool.true_or, Bool.or_true, Bool.false_or, Bool.or_false, Bool.false_and, Bool.and_false, bne_self_eq_false, beq_self_eq_true] at hc; done)) | refine run_block ?_ | refine run_ret ?_ | refine run_nil ?_ | refine run_exit ?_ | refine blk_normal ?_ | refine blk_ret ?_ | refine blk_here ?_ | refine blk_there rfl ?_ | refine loop_exit ?_ | refine loop_ret ?_ | refine un_exit ?_ | refine un_ret ?_ | refine unE_exit ?_ | refine unE_ret ?_ | refine un_normal ?_)
  · rename_i hc0
    have h1 : usesOk o m f u = false := usesOk_no (j := j) (by simp only [decide_eq_true_eq] at hc0; omega) (by rw [useOk_eq, hc]; rfl)
    exact end_ops false rfl rfl (by rw [← h1]; exact hR)
  · rename_i hc0
    have h1 : j < u := by simp only [decide_eq_true_eq] at hc0; omega
    have hw : IntKind.i64.wrap ((j : Int) + 1) = ((j + 1 : Nat) : Int) := by rw [IntKind.wrap_i64]; omega
    refine loop_normal (u - (j + 1)) (ropSt o N m f u (j + 1)) (by omega) (LeS.intro [0, 1] idt1' (by simp only [diff, notIn, Nat.beq, and_self]) rfl (by simp only [ropSt, slotsLe, slotAt, Nat.beq, leV, leV1, leC, leA, nthO, hw, and_self]) ⟨⟨rfl, rfl, id, Nat.le_refl _, fun _ _ => ⟨⟨rfl, rfl⟩, trivial⟩⟩, ops_le N f false, trivial⟩) ⟨j + 1, rfl, h1, ?_, rfl⟩
    simp only [usesOk, hok, useOk_eq, hc, Bool.not_false, Bool.and_self]
  · have h1 : j = u := by simp only [decide_eq_false_iff_not] at hc; omega
    exact end_ops true rfl rfl (by rw [← hok, h1]; exact hR)
end Go.Proofs.Ytmbnakinhnkabaa

namespace Go.Proofs.Ytmbnakinhnkabaa
open Go.AM
set_option maxRecDepth 100000
set_option linter.unusedSimpArgs false
set_option linter.unusedVariables false
def badE (rv r i od : Bool) (u : Int) (o : OpS) : Bool := (((((!true || !rv) || (!r && (o.r != 0))) || (!i && (o.imm != 0))) || (!od && (o.order != 0))) || (decide (u < 1) && (o.a != 0))) || (decide (u < 2) && (o.b != 0))
theorem no_true {p : Prop} (h : true = false) : p := by cases h
theorem opk_le {l : List Nat} (o : OpS) : leB l ⟨6, none, fun _ => opL o, 39, true⟩ (opB' o) := ⟨rfl, rfl, id, Nat.le_refl _, fun _ _ => by simp only [opB', opL, leSegs, leSeg, leC, and_self]⟩
set_option maxHeartbeats 8000000 in
theorem rop_P (o : OpS) (N m : Nat) (f : Nat → OpS) (hm : m ≤ N) (hN : N ≤ 140737488355328) (w : ByteArray) (r i od : Bool) (u : Int) (d e a : Bool) (g : FuncId) (rv : Bool) (h46 : ∀ H, Con Try.prog 46 [.c (.int .i64 o.kind)] H (fun v H' => v = kindV (kindL w r i od u d e a (.fn g [] [])) true ∧ H' = H)) (hg : ∀ H, Con Try.prog g [.agg (opL o)] H (fun v H' => v = .c (.bool rv) ∧ H' = H)) : Con Try.prog 54 [.agg (opL o), .c (.slice ⟨0, 0, 0, 0⟩ false m)] ⟨1, [(0, opsB N f)]⟩ (fun v H' => v = .c (.bool (!badE rv r i od u o && usesOk o m f (usesS o.kind))) ∧ H' = ⟨1, [(0, opsB N f)]⟩) := by
  (refine con_of_run mixed (fn := Try.f54) (by kernel_rfl) (by kernel_rfl) C54_ok (rs := [.tmp 4]) (by kernel_rfl) (Nat.le_of_ble_eq_true (by kernel_rfl)) ?_; unfold C54; simp only [initT, Nat.reduceAdd])
  repeat' (first | refine run_seq ?_ | refine run_skip ?_ | (refine run_region fun K hK => ?_; (try (simp (maxSteps := 10000000) only [opL, kindV, kindL, boxW, intsW, slB, C54r0, C54r1, C54r3, C54r5, C54r6, C54r7, C54r8, C54r9, C54r10, rwp_nil, rwp_cons, rwpK_app, aop, gpath, St.get, slotAt, sfx, eqP, segsOf, St.put, addBlk, getB, setB, delB, ld1, ldn, st1, stn, setRow, rowNeed, segAt, nsub, bin, un, eqB, isShift, sameK, arith, shiftR, getsl, selB_or, selB_and, beqb, shed, addN, Nat.beq, Seg.size, sizes, imp, needP, andN, appL, argsOf, ptrsOf, aasOf, cut, takeS, dropS, putS, partsOf, fillS, fieldOf, nthA, negIf, nilq, nilB, eqS, eqF, eqS1, andP, kin, slcS, strOk, plusA, bndHi, leN, optG, roH, roL, initT, exOk, exAll, wrAddr, Nat.reduceAdd, Nat.reduceSub, Nat.reduceMul, Int.reduceToNat, List.append_nil, List.nil_append, List.cons_append, eqT, idxT, cat, cpy, ite_int, ite_bool, ite_seg, ite_segs, ite_nil, ite_twice, Int.toNat_natCast, app, addBs, tob])); (repeat (first | (refine And.intro ?_ ?_; · (first | decide | trivial | assumption | (intros; first | decide | trivial))) | ((first | (refine call_t _ (h46 _) ?_; rintro v H' ⟨rfl, rfl⟩) | refine call_q _ (h46 _) ?_ | refine call_g _ (imp_of (h46 _)) ?_); simp (maxSteps := 10000000) only [opL, kindV, kindL, boxW, intsW, slB, C54r0, C54r1, C54r3, C54r5, C54r6, C54r7, C54r8, C54r9, C54r10, rwp_nil, rwp_cons, rwpK_app, aop, gpath, St.get, slotAt, sfx, eqP, segsOf, St.put, addBlk, getB, setB, delB, ld1, ldn, st1, stn, setRow, rowNeed, segAt, nsub, bin, un, eqB, isShift, sameK, arith, shiftR, getsl, selB_or, selB_and, beqb, shed, addN, Nat.beq, Seg.size, sizes, imp, needP, andN, appL, argsOf, ptrsOf, aasOf, cut, takeS, dropS, putS, partsOf, fillS, fieldOf, nthA, negIf, nilq, nilB, eqS, eqF, eqS1, andP, kin, slcS, strOk, plusA, bndHi, leN, optG, roH, roL, initT, exOk, exAll, wrAddr, Nat.reduceAdd, Nat.reduceSub, Nat.reduceMul, Int.reduceToNat, List.append_nil, List.nil_append, List.cons_append, eqT, idxT, cat, cpy, ite_int, ite_bool, ite_seg, ite_segs, ite_nil, ite_twice, Int.toNat_natCast, app, addBs, tob]))); with_reducible refine hK _ ?_; clear hK K) | (refine run_cond rfl (fun hc => ?_) (fun hc => ?_) <;> try (simp only [*, Bool.true_eq_false, Bool.false_eq_true, Bool.not_true, Bool.not_false, Bool.true_or, Bool.or_true, Bool.false_or, Bool.or_false, Bool.false_and, Bool.and_false, bne_self_eq_false, beq_self_eq_true] at hc; done)) | refine run_block ?_ | refine run_ret ?_ | refine run_nil ?_ | refine run_exit ?_ | refine blk_normal ?_ | refine blk_ret ?_ | refine blk_here ?_ | refine blk_there rfl ?_ | refine loop_exit ?_ | refine loop_ret ?_ | refine un_exit ?_ | refine un_ret ?_ | refine unE_exit ?_ | refine unE_ret ?_ | refine un_normal ?_)
  (refine run_regionL fun K hK => ?_; simp only [C54r2]; (repeat' (first | (refine And.intro ?_ ?_; · (first | decide | trivial | assumption | (intros; first | decide | trivial))) | (rw [rwp_cons]; (try simp (maxSteps := 10000000) only [opL, rwp_nil, rwpK_app, aop, gpath, St.get, slotAt, sfx, eqP, segsOf, St.put, addBlk, getB, setB, delB, ld1, ldn, st1, stn, setRow, rowNeed, segAt, nsub, bin, un, eqB, isShift, sameK, arith, shiftR, getsl, selB_or, selB_and, beqb, shed, addN, Nat.beq, Seg.size, sizes, imp, needP, andN, appL, argsOf, ptrsOf, aasOf, cut, takeS, dropS, putS, partsOf, fillS, fieldOf, nthA, negIf, nilq, nilB, eqS, eqF, eqS1, andP, kin, slcS, strOk, plusA, bndHi, leN, optG, roH, roL, initT, exOk, exAll, wrAddr, Nat.reduceAdd, Nat.reduceSub, Nat.reduceMul, Int.reduceToNat, List.append_nil, List.nil_append, List.cons_append, eqT, idxT, cat, cpy, ite_int, ite_bool, ite_seg, ite_segs, ite_nil, ite_twice, Int.toNat_natCast, app, addBs, tob])) | ((first | (refine call_g _ (imp_of (hg _)) ?_)) <;> (try simp (maxSteps := 10000000) only [opL, rwp_nil, rwpK_app, aop, gpath, St.get, slotAt, sfx, eqP, segsOf, St.put, addBlk, getB, setB, delB, ld1, ldn, st1, stn, setRow, rowNeed, segAt, nsub, bin, un, eqB, isShift, sameK, arith, shiftR, getsl, selB_or, selB_and, beqb, shed, addN, Nat.beq, Seg.size, sizes, imp, needP, andN, appL, argsOf, ptrsOf, aasOf, cut, takeS, dropS, putS, partsOf, fillS, fieldOf, nthA, negIf, nilq, nilB, eqS, eqF, eqS1, andP, kin, slcS, strOk, plusA, bndHi, leN, optG, roH, roL, initT, exOk, exAll, wrAddr, Nat.reduceAdd, Nat.reduceSub, Nat.reduceMul, Int.reduceToNat, List.append_nil, List.nil_append, List.cons_append, eqT, idxT, cat, cpy, ite_int, ite_bool, ite_seg, ite_segs, ite_nil, ite_twice, Int.toNat_natCast, app, addBs, tob])))); all_goals ((try simp only [rwp_nil, shed]); (with_reducible refine hK _ (⟨[⟨73, [], .c (.bool (badE rv r i od u o))⟩, ⟨2, [], .c (.ptr ⟨1, 0, 0, 0⟩)⟩, ⟨1, [], .c (.slice ⟨0, 0, 0, 0⟩ false m)⟩], ⟨2, [(1, opB' o), (0, opsB N f)]⟩⟩) ?hle ?_); (case hle => exact (LeS.intro [0, 1] (fun i h => idt1' i h) (by simp only [diff, notIn, Nat.beq, and_self]) rfl (by simp only [badE, slotsLe, slotAt, Nat.beq, leV, leV1, leC, leA, nthO, and_self]) ⟨opk_le o, ops_le N f false, trivial⟩)); clear hK K))
  refine run_cond rfl (fun hc => ?_) (fun hc => ?_)
  · repeat' (first | refine run_seq ?_ | refine run_skip ?_ | (refine run_region fun K hK => ?_; (try (simp (maxSteps := 10000000) only [C54r0, C54r1, C54r2, C54r3, C54r4, C54r5, C54r6, C54r7, C54r8, C54r9, C54r10, rwp_nil, rwp_cons, rwpK_app, aop, gpath, St.get, slotAt, sfx, eqP, segsOf, St.put, addBlk, getB, setB, delB, ld1, ldn, st1, stn, setRow, rowNeed, segAt, nsub, bin, un, eqB, isShift, sameK, arith, shiftR, getsl, selB_or, selB_and, beqb, shed, addN, Nat.beq, Seg.size, sizes, imp, needP, andN, appL, argsOf, ptrsOf, aasOf, cut, takeS, dropS, putS, partsOf, fillS, fieldOf, nthA, negIf, nilq, nilB, eqS, eqF, eqS1, andP, kin, slcS, strOk, plusA, bndHi, leN, optG, roH, roL, initT, exOk, exAll, wrAddr, Nat.reduceAdd, Nat.reduceSub, Nat.reduceMul, Int.reduceToNat, List.append_nil, List.nil_append, List.cons_append, eqT, idxT, cat, cpy, ite_int, ite_bool, ite_seg, ite_segs, ite_nil, ite_twice, Int.toNat_natCast, app, addBs, tob])); (repeat (first | (refine And.intro ?_ ?_; · first | trivial | assumption | omega))); with_reducible refine hK _ ?_; clear hK K) | (refine run_cond rfl (fun hc => ?_) (fun hc => ?_) <;> try (simp only [*, Bool.true_eq_false, Bool.false_eq_true, Bool.not_true, Bool.not_false, Bool.true_or, Bool.or_true, Bool.false_or, Bool.or_false, Bool.false_and, Bool.and_false, bne_self_eq_false, beq_self_eq_true] at hc; done)) | refine run_block ?_ | refine run_ret ?_ | refine run_nil ?_ | refine run_exit ?_ | refine blk_normal ?_ | refine blk_ret ?_ | refine blk_here ?_ | refine blk_there rfl ?_ | refine loop_exit ?_ | refine loop_ret ?_ | refine un_exit ?_ | refine un_ret ?_ | refine unE_exit ?_ | refine unE_ret ?_ | refine un_normal ?_)
    exact end_ops false rfl rfl ⟨by rw [hc]; rfl, rfl⟩
  · refine run_skip ?_
    exact rop_tail _ o N m f hm hN ⟨by rw [hc]; rfl, rfl⟩
set_option maxHeartbeats 8000000 in
theorem rop_Q (o : OpS) (N m : Nat) (f : Nat → OpS) (hm : m ≤ N) (hN : N ≤ 140737488355328) (w : ByteArray) (r i od : Bool) (u : Int) (d e a : Bool) (t : Int) (h46 : ∀ n X, keysLt X n → Con Try.prog 46 [.c (.int .i64 o.kind)] ⟨n, X⟩ (fun v H' => v = kindV (kindL w r i od u d e a (.fn 98 [] [⟨n, 0, 0, 0⟩])) true ∧ H' = addBs ⟨n, X⟩ [boxW t])) : Con Try.prog 54 [.agg (opL o), .c (.slice ⟨0, 0, 0, 0⟩ false m)] ⟨1, [(0, opsB N f)]⟩ (fun v H' => v = .c (.bool (!badE (upS t o) r i od u o && usesOk o m f (usesS o.kind))) ∧ H' = ⟨1, [(0, opsB N f)]⟩) := by
  (refine con_of_run mixed (fn := Try.f54) (by kernel_rfl) (by kernel_rfl) C54_ok (rs := [.tmp 4]) (by kernel_rfl) (Nat.le_of_ble_eq_true (by kernel_rfl)) ?_; unfold C54; simp only [initT, Nat.reduceAdd])
  repeat' (first | refine run_seq ?_ | refine run_skip ?_ | (refine run_region fun K hK => ?_; (try (simp (maxSteps := 10000000) only [opL, kindV, kindL, boxW, intsW, slB, C54r0, C54r1, C54r3, C54r5, C54r6, C54r7, C54r8, C54r9, C54r10, rwp_nil, rwp_cons, rwpK_app, aop, gpath, St.get, slotAt, sfx, eqP, segsOf, St.put, addBlk, getB, setB, delB, ld1, ldn, st1, stn, setRow, rowNeed, segAt, nsub, bin, un, eqB, isShift, sameK, arith, shiftR, getsl, selB_or, selB_and, beqb, shed, addN, Nat.beq, Seg.size, sizes, imp, needP, andN, appL, argsOf, ptrsOf, aasOf, cut, takeS, dropS, putS, partsOf, fillS, fieldOf, nthA, negIf, nilq, nilB, eqS, eqF, eqS1, andP, kin, slcS, strOk, plusA, bndHi, leN, optG, roH, roL, initT, exOk, exAll, wrAddr, Nat.reduceAdd, Nat.reduceSub, Nat.reduceMul, Int.reduceToNat, List.append_nil, List.nil_append, List.cons_append, eqT, idxT, cat, cpy, ite_int, ite_bool, ite_seg, ite_segs, ite_nil, ite_twice, Int.toNat_natCast, app, addBs, tob])); (repeat (first | (refine And.intro ?_ ?_; · (first | decide | trivial | assumption | (intros; first | decide | trivial))) | ((first | (refine call_t _ (h46 _ _ (by simp [roL, keysLt, boxW, intsW, slB, opB', opsB])) ?_; rintro v H' ⟨rfl, rfl⟩) | refine call_q _ (h46 _ _ (by simp [roL, keysLt, boxW, intsW, slB, opB', opsB])) ?_ | refine call_g _ (imp_of (h46 _ _ (by simp [roL, keysLt, boxW, intsW, slB, opB', opsB]))) ?_); simp (maxSteps := 10000000) only [opL, kindV, kindL, boxW, intsW, slB, C54r0, C54r1, C54r3, C54r5, C54r6, C54r7, C54r8, C54r9, C54r10, rwp_nil, rwp_cons, rwpK_app, aop, gpath, St.get, slotAt, sfx, eqP, segsOf, St.put, addBlk, getB, setB, delB, ld1, ldn, st1, stn, setRow, rowNeed, segAt, nsub, bin, un, eqB, isShift, sameK, arith, shiftR, getsl, selB_or, selB_and, beqb, shed, addN, Nat.beq, Seg.size, sizes, imp, needP, andN, appL, argsOf, ptrsOf, aasOf, cut, takeS, dropS, putS, partsOf, fillS, fieldOf, nthA, negIf, nilq, nilB, eqS, eqF, eqS1, andP, kin, slcS, strOk, plusA, bndHi, leN, optG, roH, roL, initT, exOk, exAll, wrAddr, Nat.reduceAdd, Nat.reduceSub, Nat.reduceMul, Int.reduceToNat, List.append_nil, List.nil_append, List.cons_append, eqT, idxT, cat, cpy, ite_int, ite_bool, ite_seg, ite_segs, ite_nil, ite_twice, Int.toNat_natCast, app, addBs, tob]))); with_reducible refine hK _ ?_; clear hK K) | (refine run_cond rfl (fun hc => ?_) (fun hc => ?_) <;> try (simp only [*, Bool.true_eq_false, Bool.false_eq_true, Bool.not_true, Bool.not_false, Bool.true_or, Bool.or_true, Bool.false_or, Bool.or_false, Bool.false_and, Bool.and_false, bne_self_eq_false, beq_self_eq_true] at hc; done)) | refine run_block ?_ | refine run_ret ?_ | refine run_nil ?_ | refine run_exit ?_ | refine blk_normal ?_ | refine blk_ret ?_ | refine blk_here ?_ | refine blk_there rfl ?_ | refine loop_exit ?_ | refine loop_ret ?_ | refine un_exit ?_ | refine un_ret ?_ | refine unE_exit ?_ | refine unE_ret ?_ | refine un_normal ?_)
  (refine run_regionL fun K hK => ?_; simp only [C54r2]; (repeat' (first | (refine And.intro ?_ ?_; · (first | decide | trivial | assumption | (intros; first | decide | trivial))) | (rw [rwp_cons]; (try simp (maxSteps := 10000000) only [opL, rwp_nil, rwpK_app, aop, gpath, St.get, slotAt, sfx, eqP, segsOf, St.put, addBlk, getB, setB, delB, ld1, ldn, st1, stn, setRow, rowNeed, segAt, nsub, bin, un, eqB, isShift, sameK, arith, shiftR, getsl, selB_or, selB_and, beqb, shed, addN, Nat.beq, Seg.size, sizes, imp, needP, andN, appL, argsOf, ptrsOf, aasOf, cut, takeS, dropS, putS, partsOf, fillS, fieldOf, nthA, negIf, nilq, nilB, eqS, eqF, eqS1, andP, kin, slcS, strOk, plusA, bndHi, leN, optG, roH, roL, initT, exOk, exAll, wrAddr, Nat.reduceAdd, Nat.reduceSub, Nat.reduceMul, Int.reduceToNat, List.append_nil, List.nil_append, List.cons_append, eqT, idxT, cat, cpy, ite_int, ite_bool, ite_seg, ite_segs, ite_nil, ite_twice, Int.toNat_natCast, app, addBs, tob])) | ((first | (refine call_g _ (imp_of (con98_at t o _ _ _ _ rfl (Nat.le_of_ble_eq_true rfl) (by simp [roL, keysLt, boxW, intsW, slB, opB', opsB]))) ?_)) <;> (try simp (maxSteps := 10000000) only [opL, rwp_nil, rwpK_app, aop, gpath, St.get, slotAt, sfx, eqP, segsOf, St.put, addBlk, getB, setB, delB, ld1, ldn, st1, stn, setRow, rowNeed, segAt, nsub, bin, un, eqB, isShift, sameK, arith, shiftR, getsl, selB_or, selB_and, beqb, shed, addN, Nat.beq, Seg.size, sizes, imp, needP, andN, appL, argsOf, ptrsOf, aasOf, cut, takeS, dropS, putS, partsOf, fillS, fieldOf, nthA, negIf, nilq, nilB, eqS, eqF, eqS1, andP, kin, slcS, strOk, plusA, bndHi, leN, optG, roH, roL, initT, exOk, exAll, wrAddr, Nat.reduceAdd, Nat.reduceSub, Nat.reduceMul, Int.reduceToNat, List.append_nil, List.nil_append, List.cons_append, eqT, idxT, cat, cpy, ite_int, ite_bool, ite_seg, ite_segs, ite_nil, ite_twice, Int.toNat_natCast, app, addBs, tob])))); all_goals ((try simp only [rwp_nil, shed]); (with_reducible refine hK _ (⟨[⟨73, [], .c (.bool (badE (upS t o) r i od u o))⟩, ⟨2, [], .c (.ptr ⟨1, 0, 0, 0⟩)⟩, ⟨1, [], .c (.slice ⟨0, 0, 0, 0⟩ false m)⟩], ⟨2, [(1, opB' o), (0, opsB N f)]⟩⟩) ?hle ?_); (case hle => exact (LeS.intro [0, 1] (fun i h => idt1' i h) (by simp only [diff, notIn, Nat.beq, and_self]) rfl (by simp only [badE, slotsLe, slotAt, Nat.beq, leV, leV1, leC, leA, nthO, and_self]) ⟨opk_le o, ops_le N f false, trivial⟩)); clear hK K))
  refine run_cond rfl (fun hc => ?_) (fun hc => ?_)
  · repeat' (first | refine run_seq ?_ | refine run_skip ?_ | (refine run_region fun K hK => ?_; (try (simp (maxSteps := 10000000) only [C54r0, C54r1, C54r2, C54r3, C54r4, C54r5, C54r6, C54r7, C54r8, C54r9, C54r10, rwp_nil, rwp_cons, rwpK_app, aop, gpath, St.get, slotAt, sfx, eqP, segsOf, St.put, addBlk, getB, setB, delB, ld1, ldn, st1, stn, setRow, rowNeed, segAt, nsub, bin, un, eqB, isShift, sameK, arith, shiftR, getsl, selB_or, selB_and, beqb, shed, addN, Nat.beq, Seg.size, sizes, imp, needP, andN, appL, argsOf, ptrsOf, aasOf, cut, takeS, dropS, putS, partsOf, fillS, fieldOf, nthA, negIf, nilq, nilB, eqS, eqF, eqS1, andP, kin, slcS, strOk, plusA, bndHi, leN, optG, roH, roL, initT, exOk, exAll, wrAddr, Nat.reduceAdd, Nat.reduceSub, Nat.reduceMul, Int.reduceToNat, List.append_nil, List.nil_append, List.cons_append, eqT, idxT, cat, cpy, ite_int, ite_bool, ite_seg, ite_segs, ite_nil, ite_twice, Int.toNat_natCast, app, addBs, tob])); (repeat (first | (refine And.intro ?_ ?_; · first | trivial | assumption | omega))); with_reducible refine hK _ ?_; clear hK K) | (refine run_cond rfl (fun hc => ?_) (fun hc => ?_) <;> try (simp only [*, Bool.true_eq_false, Bool.false_eq_true, Bool.not_true, Bool.not_false, Bool.true_or, Bool.or_true, Bool.false_or, Bool.or_false, Bool.false_and, Bool.and_false, bne_self_eq_false, beq_self_eq_true] at hc; done)) | refine run_block ?_ | refine run_ret ?_ | refine run_nil ?_ | refine run_exit ?_ | refine blk_normal ?_ | refine blk_ret ?_ | refine blk_here ?_ | refine blk_there rfl ?_ | refine loop_exit ?_ | refine loop_ret ?_ | refine un_exit ?_ | refine un_ret ?_ | refine unE_exit ?_ | refine unE_ret ?_ | refine un_normal ?_)
    exact end_ops false rfl rfl ⟨by rw [hc]; rfl, rfl⟩
  · refine run_skip ?_
    exact rop_tail _ o N m f hm hN ⟨by rw [hc]; rfl, rfl⟩
set_option maxHeartbeats 8000000 in
theorem rop_S (o : OpS) (N m : Nat) (f : Nat → OpS) (hm : m ≤ N) (hN : N ≤ 140737488355328) (w : ByteArray) (r i od : Bool) (u : Int) (d e a : Bool) (c : Nat) (g1 g2 : Int) (hc : c < 1000) (h46 : ∀ n X, keysLt X n → Con Try.prog 46 [.c (.int .i64 o.kind)] ⟨n, X⟩ (fun v H' => v = kindV (kindL w r i od u d e a (.fn 99 [] [⟨n + 1, 0, 0, 0⟩])) true ∧ H' = addBs ⟨n, X⟩ [intsW c (ordF g1 g2), slB n c true])) : Con Try.prog 54 [.agg (opL o), .c (.slice ⟨0, 0, 0, 0⟩ false m)] ⟨1, [(0, opsB N f)]⟩ (fun v H' => v = .c (.bool (!badE (inB (ordF g1 g2) o.order c 0) r i od u o && usesOk o m f (usesS o.kind))) ∧ H' = ⟨1, [(0, opsB N f)]⟩) := by
  (refine con_of_run mixed (fn := Try.f54) (by kernel_rfl) (by kernel_rfl) C54_ok (rs := [.tmp 4]) (by kernel_rfl) (Nat.le_of_ble_eq_true (by kernel_rfl)) ?_; unfold C54; simp only [initT, Nat.reduceAdd])
  repeat' (first | refine run_seq ?_ | refine run_skip ?_ | (refine run_region fun K hK => ?_; (try (simp (maxSteps := 10000000) only [opL, kindV, kindL, boxW, intsW, slB, C54r0, C54r1, C54r3, C54r5, C54r6, C54r7, C54r8, C54r9, C54r10, rwp_nil, rwp_cons, rwpK_app, aop, gpath, St.get, slotAt, sfx, eqP, segsOf, St.put, addBlk, getB, setB, delB, ld1, ldn, st1, stn, setRow, rowNeed, segAt, nsub, bin, un, eqB, isShift, sameK, arith, shiftR, getsl, selB_or, selB_and, beqb, shed, addN, Nat.beq, Seg.size, sizes, imp, needP, andN, appL, argsOf, ptrsOf, aasOf, cut, takeS, dropS, putS, partsOf, fillS, fieldOf, nthA, negIf, nilq, nilB, eqS, eqF, eqS1, andP, kin, slcS, strOk, plusA, bndHi, leN, optG, roH, roL, initT, exOk, exAll, wrAddr, Nat.reduceAdd, Nat.reduceSub, Nat.reduceMul, Int.reduceToNat, List.append_nil, List.nil_append, List.cons_append, eqT, idxT, cat, cpy, ite_int, ite_bool, ite_seg, ite_segs, ite_nil, ite_twice, Int.toNat_natCast, app, addBs, tob])); (repeat (first | (refine And.intro ?_ ?_; · (first | decide | trivial | assumption | (intros; first | decide | trivial))) | ((first | (refine call_t _ (h46 _ _ (by simp [roL, keysLt, boxW, intsW, slB, opB', opsB])) ?_; rintro v H' ⟨rfl, rfl⟩) | refine call_q _ (h46 _ _ (by simp [roL, keysLt, boxW, intsW, slB, opB', opsB])) ?_ | refine call_g _ (imp_of (h46 _ _ (by simp [roL, keysLt, boxW, intsW, slB, opB', opsB]))) ?_); simp (maxSteps := 10000000) only [opL, kindV, kindL, boxW, intsW, slB, C54r0, C54r1, C54r3, C54r5, C54r6, C54r7, C54r8, C54r9, C54r10, rwp_nil, rwp_cons, rwpK_app, aop, gpath, St.get, slotAt, sfx, eqP, segsOf, St.put, addBlk, getB, setB, delB, ld1, ldn, st1, stn, setRow, rowNeed, segAt, nsub, bin, un, eqB, isShift, sameK, arith, shiftR, getsl, selB_or, selB_and, beqb, shed, addN, Nat.beq, Seg.size, sizes, imp, needP, andN, appL, argsOf, ptrsOf, aasOf, cut, takeS, dropS, putS, partsOf, fillS, fieldOf, nthA, negIf, nilq, nilB, eqS, eqF, eqS1, andP, kin, slcS, strOk, plusA, bndHi, leN, optG, roH, roL, initT, exOk, exAll, wrAddr, Nat.reduceAdd, Nat.reduceSub, Nat.reduceMul, Int.reduceToNat, List.append_nil, List.nil_append, List.cons_append, eqT, idxT, cat, cpy, ite_int, ite_bool, ite_seg, ite_segs, ite_nil, ite_twice, Int.toNat_natCast, app, addBs, tob]))); with_reducible refine hK _ ?_; clear hK K) | (refine run_cond rfl (fun hc => ?_) (fun hc => ?_) <;> try (simp only [*, Bool.true_eq_false, Bool.false_eq_true, Bool.not_true, Bool.not_false, Bool.true_or, Bool.or_true, Bool.false_or, Bool.or_false, Bool.false_and, Bool.and_false, bne_self_eq_false, beq_self_eq_true] at hc; done)) | refine run_block ?_ | refine run_ret ?_ | refine run_nil ?_ | refine run_exit ?_ | refine blk_normal ?_ | refine blk_ret ?_ | refine blk_here ?_ | refine blk_there rfl ?_ | refine loop_exit ?_ | refine loop_ret ?_ | refine un_exit ?_ | refine un_ret ?_ | refine unE_exit ?_ | refine unE_ret ?_ | refine un_normal ?_)
  (refine run_regionL fun K hK => ?_; simp only [C54r2]; (repeat' (first | (refine And.intro ?_ ?_; · (first | decide | trivial | assumption | (intros; first | decide | trivial))) | (rw [rwp_cons]; (try simp (maxSteps := 10000000) only [opL, rwp_nil, rwpK_app, aop, gpath, St.get, slotAt, sfx, eqP, segsOf, St.put, addBlk, getB, setB, delB, ld1, ldn, st1, stn, setRow, rowNeed, segAt, nsub, bin, un, eqB, isShift, sameK, arith, shiftR, getsl, selB_or, selB_and, beqb, shed, addN, Nat.beq, Seg.size, sizes, imp, needP, andN, appL, argsOf, ptrsOf, aasOf, cut, takeS, dropS, putS, partsOf, fillS, fieldOf, nthA, negIf, nilq, nilB, eqS, eqF, eqS1, andP, kin, slcS, strOk, plusA, bndHi, leN, optG, roH, roL, initT, exOk, exAll, wrAddr, Nat.reduceAdd, Nat.reduceSub, Nat.reduceMul, Int.reduceToNat, List.append_nil, List.nil_append, List.cons_append, eqT, idxT, cat, cpy, ite_int, ite_bool, ite_seg, ite_segs, ite_nil, ite_twice, Int.toNat_natCast, app, addBs, tob])) | ((first | (refine call_g _ (imp_of (con99_at c (ordF g1 g2) o hc 2 3 _ _ _ _ rfl rfl rfl (Nat.le_of_ble_eq_true rfl) (Nat.le_of_ble_eq_true rfl) (by simp [roL, keysLt, boxW, intsW, slB, opB', opsB]))) ?_)) <;> (try simp (maxSteps := 10000000) only [opL, rwp_nil, rwpK_app, aop, gpath, St.get, slotAt, sfx, eqP, segsOf, St.put, addBlk, getB, setB, delB, ld1, ldn, st1, stn, setRow, rowNeed, segAt, nsub, bin, un, eqB, isShift, sameK, arith, shiftR, getsl, selB_or, selB_and, beqb, shed, addN, Nat.beq, Seg.size, sizes, imp, needP, andN, appL, argsOf, ptrsOf, aasOf, cut, takeS, dropS, putS, partsOf, fillS, fieldOf, nthA, negIf, nilq, nilB, eqS, eqF, eqS1, andP, kin, slcS, strOk, plusA, bndHi, leN, optG, roH, roL, initT, exOk, exAll, wrAddr, Nat.reduceAdd, Nat.reduceSub, Nat.reduceMul, Int.reduceToNat, List.append_nil, List.nil_append, List.cons_append, eqT, idxT, cat, cpy, ite_int, ite_bool, ite_seg, ite_segs, ite_nil, ite_twice, Int.toNat_natCast, app, addBs, tob])))); all_goals ((try simp only [rwp_nil, shed]); (with_reducible refine hK _ (⟨[⟨73, [], .c (.bool (badE (inB (ordF g1 g2) o.order c 0) r i od u o))⟩, ⟨2, [], .c (.ptr ⟨1, 0, 0, 0⟩)⟩, ⟨1, [], .c (.slice ⟨0, 0, 0, 0⟩ false m)⟩], ⟨2, [(1, opB' o), (0, opsB N f)]⟩⟩) ?hle ?_); (case hle => exact (LeS.intro [0, 1] (fun i h => idt1' i h) (by simp only [diff, notIn, Nat.beq, and_self]) rfl (by simp only [badE, slotsLe, slotAt, Nat.beq, leV, leV1, leC, leA, nthO, and_self]) ⟨opk_le o, ops_le N f false, trivial⟩)); clear hK K))
  refine run_cond rfl (fun hc => ?_) (fun hc => ?_)
  · repeat' (first | refine run_seq ?_ | refine run_skip ?_ | (refine run_region fun K hK => ?_; (try (simp (maxSteps := 10000000) only [C54r0, C54r1, C54r2, C54r3, C54r4, C54r5, C54r6, C54r7, C54r8, C54r9, C54r10, rwp_nil, rwp_cons, rwpK_app, aop, gpath, St.get, slotAt, sfx, eqP, segsOf, St.put, addBlk, getB, setB, delB, ld1, ldn, st1, stn, setRow, rowNeed, segAt, nsub, bin, un, eqB, isShift, sameK, arith, shiftR, getsl, selB_or, selB_and, beqb, shed, addN, Nat.beq, Seg.size, sizes, imp, needP, andN, appL, argsOf, ptrsOf, aasOf, cut, takeS, dropS, putS, partsOf, fillS, fieldOf, nthA, negIf, nilq, nilB, eqS, eqF, eqS1, andP, kin, slcS, strOk, plusA, bndHi, leN, optG, roH, roL, initT, exOk, exAll, wrAddr, Nat.reduceAdd, Nat.reduceSub, Nat.reduceMul, Int.reduceToNat, List.append_nil, List.nil_append, List.cons_append, eqT, idxT, cat, cpy, ite_int, ite_bool, ite_seg, ite_segs, ite_nil, ite_twice, Int.toNat_natCast, app, addBs, tob])); (repeat (first | (refine And.intro ?_ ?_; · first | trivial | assumption | omega))); with_reducible refine hK _ ?_; clear hK K) | (refine run_cond rfl (fun hc => ?_) (fun hc => ?_) <;> try (simp only [*, Bool.true_eq_false, Bool.false_eq_true, Bool.not_true, Bool.not_false, Bool.true_or, Bool.or_true, Bool.false_or, Bool.or_false, Bool.false_and, Bool.and_false, bne_self_eq_false, beq_self_eq_true] at hc; done)) | refine run_block ?_ | refine run_ret ?_ | refine run_nil ?_ | refine run_exit ?_ | refine blk_normal ?_ | refine blk_ret ?_ | refine blk_here ?_ | refine blk_there rfl ?_ | refine loop_exit ?_ | refine loop_ret ?_ | refine un_exit ?_ | refine un_ret ?_ | refine unE_exit ?_ | refine unE_ret ?_ | refine un_normal ?_)
    exact end_ops false rfl rfl ⟨by rw [hc]; rfl, rfl⟩
  · refine run_skip ?_
    exact rop_tail _ o N m f hm hN ⟨by rw [hc]; rfl, rfl⟩
def badN (o : OpS) : Bool := (((((!false || !false) || (!false && (o.r != 0))) || (!false && (o.imm != 0))) || (!false && (o.order != 0))) || (decide ((0 : Int) < 1) && (o.a != 0))) || (decide ((0 : Int) < 2) && (o.b != 0))
set_option maxHeartbeats 8000000 in
theorem rop_no (o : OpS) (N m : Nat) (f : Nat → OpS) (hm : m ≤ N) (hN : N ≤ 140737488355328) (h : noKind o.kind) : Con Try.prog 54 [.agg (opL o), .c (.slice ⟨0, 0, 0, 0⟩ false m)] ⟨1, [(0, opsB N f)]⟩ (fun v H' => v = .c (.bool (false)) ∧ H' = ⟨1, [(0, opsB N f)]⟩) := by
  (refine con_of_run mixed (fn := Try.f54) (by kernel_rfl) (by kernel_rfl) C54_ok (rs := [.tmp 4]) (by kernel_rfl) (Nat.le_of_ble_eq_true (by kernel_rfl)) ?_; unfold C54; simp only [initT, Nat.reduceAdd])
  repeat' (first | refine run_seq ?_ | refine run_skip ?_ | (refine run_region fun K hK => ?_; (try (simp (maxSteps := 10000000) only [opL, kindV, kindL, boxW, intsW, slB, C54r0, C54r1, C54r3, C54r5, C54r6, C54r7, C54r8, C54r9, C54r10, rwp_nil, rwp_cons, rwpK_app, aop, gpath, St.get, slotAt, sfx, eqP, segsOf, St.put, addBlk, getB, setB, delB, ld1, ldn, st1, stn, setRow, rowNeed, segAt, nsub, bin, un, eqB, isShift, sameK, arith, shiftR, getsl, selB_or, selB_and, beqb, shed, addN, Nat.beq, Seg.size, sizes, imp, needP, andN, appL, argsOf, ptrsOf, aasOf, cut, takeS, dropS, putS, partsOf, fillS, fieldOf, nthA, negIf, nilq, nilB, eqS, eqF, eqS1, andP, kin, slcS, strOk, plusA, bndHi, leN, optG, roH, roL, initT, exOk, exAll, wrAddr, Nat.reduceAdd, Nat.reduceSub, Nat.reduceMul, Int.reduceToNat, List.append_nil, List.nil_append, List.cons_append, eqT, idxT, cat, cpy, ite_int, ite_bool, ite_seg, ite_segs, ite_nil, ite_twice, Int.toNat_natCast, app, addBs, tob])); (repeat (first | (refine And.intro ?_ ?_; · (first | decide | trivial | assumption | (intros; first | decide | trivial | exact no_true (by assumption)))) | ((first | (refine call_t _ (kind_no _ h _) ?_; rintro v H' ⟨rfl, rfl⟩) | refine call_q _ (kind_no _ h _) ?_ | refine call_g _ (imp_of (kind_no _ h _)) ?_); simp (maxSteps := 10000000) only [opL, kindV, kindL, boxW, intsW, slB, C54r0, C54r1, C54r3, C54r5, C54r6, C54r7, C54r8, C54r9, C54r10, rwp_nil, rwp_cons, rwpK_app, aop, gpath, St.get, slotAt, sfx, eqP, segsOf, St.put, addBlk, getB, setB, delB, ld1, ldn, st1, stn, setRow, rowNeed, segAt, nsub, bin, un, eqB, isShift, sameK, arith, shiftR, getsl, selB_or, selB_and, beqb, shed, addN, Nat.beq, Seg.size, sizes, imp, needP, andN, appL, argsOf, ptrsOf, aasOf, cut, takeS, dropS, putS, partsOf, fillS, fieldOf, nthA, negIf, nilq, nilB, eqS, eqF, eqS1, andP, kin, slcS, strOk, plusA, bndHi, leN, optG, roH, roL, initT, exOk, exAll, wrAddr, Nat.reduceAdd, Nat.reduceSub, Nat.reduceMul, Int.reduceToNat, List.append_nil, List.nil_append, List.cons_append, eqT, idxT, cat, cpy, ite_int, ite_bool, ite_seg, ite_segs, ite_nil, ite_twice, Int.toNat_natCast, app, addBs, tob]))); with_reducible refine hK _ ?_; clear hK K) | (refine run_cond rfl (fun hc => ?_) (fun hc => ?_) <;> try (simp only [*, Bool.true_eq_false, Bool.false_eq_true, Bool.not_true, Bool.not_false, Bool.true_or, Bool.or_true, Bool.false_or, Bool.or_false, Bool.false_and, Bool.and_false, bne_self_eq_false, beq_self_eq_true] at hc; done)) | refine run_block ?_ | refine run_ret ?_ | refine run_nil ?_ | refine run_exit ?_ | refine blk_normal ?_ | refine blk_ret ?_ | refine blk_here ?_ | refine blk_there rfl ?_ | refine loop_exit ?_ | refine loop_ret ?_ | refine un_exit ?_ | refine un_ret ?_ | refine unE_exit ?_ | refine unE_ret ?_ | refine un_normal ?_)
  (refine run_regionL fun K hK => ?_; simp only [C54r2]; (repeat' (first | (refine And.intro ?_ ?_; · (first | decide | trivial | assumption | (intros; first | decide | trivial | exact no_true (by assumption)))) | (rw [rwp_cons]; (try simp (maxSteps := 10000000) only [opL, rwp_nil, rwpK_app, aop, gpath, St.get, slotAt, sfx, eqP, segsOf, St.put, addBlk, getB, setB, delB, ld1, ldn, st1, stn, setRow, rowNeed, segAt, nsub, bin, un, eqB, isShift, sameK, arith, shiftR, getsl, selB_or, selB_and, beqb, shed, addN, Nat.beq, Seg.size, sizes, imp, needP, andN, appL, argsOf, ptrsOf, aasOf, cut, takeS, dropS, putS, partsOf, fillS, fieldOf, nthA, negIf, nilq, nilB, eqS, eqF, eqS1, andP, kin, slcS, strOk, plusA, bndHi, leN, optG, roH, roL, initT, exOk, exAll, wrAddr, Nat.reduceAdd, Nat.reduceSub, Nat.reduceMul, Int.reduceToNat, List.append_nil, List.nil_append, List.cons_append, eqT, idxT, cat, cpy, ite_int, ite_bool, ite_seg, ite_segs, ite_nil, ite_twice, Int.toNat_natCast, app, addBs, tob])) | ((first | (refine call_g _ (imp_of (kind_no _ h _)) ?_)) <;> (try simp (maxSteps := 10000000) only [opL, rwp_nil, rwpK_app, aop, gpath, St.get, slotAt, sfx, eqP, segsOf, St.put, addBlk, getB, setB, delB, ld1, ldn, st1, stn, setRow, rowNeed, segAt, nsub, bin, un, eqB, isShift, sameK, arith, shiftR, getsl, selB_or, selB_and, beqb, shed, addN, Nat.beq, Seg.size, sizes, imp, needP, andN, appL, argsOf, ptrsOf, aasOf, cut, takeS, dropS, putS, partsOf, fillS, fieldOf, nthA, negIf, nilq, nilB, eqS, eqF, eqS1, andP, kin, slcS, strOk, plusA, bndHi, leN, optG, roH, roL, initT, exOk, exAll, wrAddr, Nat.reduceAdd, Nat.reduceSub, Nat.reduceMul, Int.reduceToNat, List.append_nil, List.nil_append, List.cons_append, eqT, idxT, cat, cpy, ite_int, ite_bool, ite_seg, ite_segs, ite_nil, ite_twice, Int.toNat_natCast, app, addBs, tob])))); all_goals ((try simp only [rwp_nil, shed]); (with_reducible refine hK _ (⟨[⟨73, [], .c (.bool (badN o))⟩, ⟨2, [], .c (.ptr ⟨1, 0, 0, 0⟩)⟩, ⟨1, [], .c (.slice ⟨0, 0, 0, 0⟩ false m)⟩], ⟨2, [(1, opB' o), (0, opsB N f)]⟩⟩) ?hle ?_); (case hle => exact (LeS.intro [0, 1] (fun i h => idt1' i h) (by simp only [diff, notIn, Nat.beq, and_self]) rfl (by simp only [badN, slotsLe, slotAt, Nat.beq, leV, leV1, leC, leA, nthO, and_self]) ⟨opk_le o, ops_le N f false, trivial⟩)); clear hK K))
  refine run_cond rfl (fun hc => ?_) (fun hc => ?_)
  · repeat' (first | refine run_seq ?_ | refine run_skip ?_ | (refine run_region fun K hK => ?_; (try (simp (maxSteps := 10000000) only [C54r0, C54r1, C54r2, C54r3, C54r4, C54r5, C54r6, C54r7, C54r8, C54r9, C54r10, rwp_nil, rwp_cons, rwpK_app, aop, gpath, St.get, slotAt, sfx, eqP, segsOf, St.put, addBlk, getB, setB, delB, ld1, ldn, st1, stn, setRow, rowNeed, segAt, nsub, bin, un, eqB, isShift, sameK, arith, shiftR, getsl, selB_or, selB_and, beqb, shed, addN, Nat.beq, Seg.size, sizes, imp, needP, andN, appL, argsOf, ptrsOf, aasOf, cut, takeS, dropS, putS, partsOf, fillS, fieldOf, nthA, negIf, nilq, nilB, eqS, eqF, eqS1, andP, kin, slcS, strOk, plusA, bndHi, leN, optG, roH, roL, initT, exOk, exAll, wrAddr, Nat.reduceAdd, Nat.reduceSub, Nat.reduceMul, Int.reduceToNat, List.append_nil, List.nil_append, List.cons_append, eqT, idxT, cat, cpy, ite_int, ite_bool, ite_seg, ite_segs, ite_nil, ite_twice, Int.toNat_natCast, app, addBs, tob])); (repeat (first | (refine And.intro ?_ ?_; · first | trivial | assumption | omega))); with_reducible refine hK _ ?_; clear hK K) | (refine run_cond rfl (fun hc => ?_) (fun hc => ?_) <;> try (simp only [*, Bool.true_eq_false, Bool.false_eq_true, Bool.not_true, Bool.not_false, Bool.true_or, Bool.or_true, Bool.false_or, Bool.or_false, Bool.false_and, Bool.and_false, bne_self_eq_false, beq_self_eq_true] at hc; done)) | refine run_block ?_ | refine run_ret ?_ | refine run_nil ?_ | refine run_exit ?_ | refine blk_normal ?_ | refine blk_ret ?_ | refine blk_here ?_ | refine blk_there rfl ?_ | refine loop_exit ?_ | refine loop_ret ?_ | refine un_exit ?_ | refine un_ret ?_ | refine unE_exit ?_ | refine unE_ret ?_ | refine un_normal ?_)
    exact end_ops false rfl rfl ⟨rfl, rfl⟩
  · simp [badN] at hc
def ropS (o : OpS) (m : Nat) (f : Nat → OpS) : Bool := !fieldBad o && usesOk o m f (usesS o.kind)
theorem badE_field (o : OpS) (rv r i od : Bool) (u : Nat) (h1 : rightF o = rv) (h2 : hasR o.kind = r) (h3 : hasImm o.kind = i) (h4 : hasOrd o.kind = od) (h5 : usesS o.kind = u) : badE rv r i od (u : Int) o = fieldBad o := by
  unfold badE fieldBad
  rw [h1, h2, h3, h4, h5]
  have e1 : decide ((u : Int) < 1) = decide (u < 1) := decide_eq_decide.2 (by omega)
  have e2 : decide ((u : Int) < 2) = decide (u < 2) := decide_eq_decide.2 (by omega)
  rw [e1, e2, Bool.not_true, Bool.false_or]
theorem rightF_1 (o : OpS) (h : o.kind = 1) : rightF o = (true) := by simp [rightF, h]
theorem rightF_2 (o : OpS) (h : o.kind = 2) : rightF o = (upS 30 o) := by simp [rightF, h]
theorem rightF_3 (o : OpS) (h : o.kind = 3) : rightF o = (upS 30 o) := by simp [rightF, h]
theorem rightF_4 (o : OpS) (h : o.kind = 4) : rightF o = (true) := by simp [rightF, h]
theorem rightF_5 (o : OpS) (h : o.kind = 5) : rightF o = (true) := by simp [rightF, h]
theorem rightF_6 (o : OpS) (h : o.kind = 6) : rightF o = (upS 3 o) := by simp [rightF, h]
theorem rightF_7 (o : OpS) (h : o.kind = 7) : rightF o = (upS 3 o) := by simp [rightF, h]
theorem rightF_8 (o : OpS) (h : o.kind = 8) : rightF o = (decide (o.r ≥ 1) && decide (o.r ≤ 15)) := by simp [rightF, h]
theorem rightF_9 (o : OpS) (h : o.kind = 9) : rightF o = (inB (ordF 1 2) o.order 3 0) := by simp [rightF, h]
theorem rightF_10 (o : OpS) (h : o.kind = 10) : rightF o = (inB (ordF 4 0) o.order 2 0) := by simp [rightF, h]
theorem rightF_11 (o : OpS) (h : o.kind = 11) : rightF o = (inB (ordF 2 0) o.order 2 0) := by simp [rightF, h]
theorem rightF_12 (o : OpS) (h : o.kind = 12) : rightF o = (inB (ordF 4 0) o.order 2 0) := by simp [rightF, h]
theorem rightF_13 (o : OpS) (h : o.kind = 13) : rightF o = (((o.r == 13) || (o.r == 10)) || (o.r == 15)) := by simp [rightF, h]
theorem rightF_14 (o : OpS) (h : o.kind = 14) : rightF o = (IntKind.u64.wrap (BitVec.ofInt IntKind.u64.bits o.imm &&& BitVec.ofInt IntKind.u64.bits 3).toNat == 0) := by simp [rightF, h]
theorem rightF_15 (o : OpS) (h : o.kind = 15) : rightF o = (true) := by simp [rightF, h]
theorem rightF_16 (o : OpS) (h : o.kind = 16) : rightF o = (true) := by simp [rightF, h]
theorem rightF_17 (o : OpS) (h : o.kind = 17) : rightF o = (true) := by simp [rightF, h]
theorem rightF_18 (o : OpS) (h : o.kind = 18) : rightF o = (o.imm.fdiv (2 ^ min 32 IntKind.u64.bits) == 0) := by simp [rightF, h]
theorem con54 (o : OpS) (N m : Nat) (f : Nat → OpS) (hm : m ≤ N) (hN : N ≤ 140737488355328) : Con Try.prog 54 [.agg (opL o), .c (.slice ⟨0, 0, 0, 0⟩ false m)] ⟨1, [(0, opsB N f)]⟩ (fun v H' => v = .c (.bool (ropS o m f)) ∧ H' = ⟨1, [(0, opsB N f)]⟩) := by
  by_cases h1 : o.kind = 1
  · have e := badE_field o _ false true false 0 rfl (by rw [h1]; decide) (by rw [h1]; decide) (by rw [h1]; decide) (by rw [h1]; decide)
    unfold ropS
    rw [← e]
    have hr : rightF o = _ := rightF_1 o h1
    rw [hr]
    exact rop_P o N m f hm hN ⟨#[99, 111, 110, 115, 116]⟩ false true false 0 true false false 66 _ (kindo_1 o h1) (con66 o)
  by_cases h2 : o.kind = 2
  · have e := badE_field o _ true false false 0 rfl (by rw [h2]; decide) (by rw [h2]; decide) (by rw [h2]; decide) (by rw [h2]; decide)
    unfold ropS
    rw [← e]
    have hr : rightF o = _ := rightF_2 o h2
    rw [hr]
    exact rop_Q o N m f hm hN ⟨#[103, 101, 116, 120]⟩ true false false 0 true false false 30 (kindo_2 o h2)
  by_cases h3 : o.kind = 3
  · have e := badE_field o _ true false false 1 rfl (by rw [h3]; decide) (by rw [h3]; decide) (by rw [h3]; decide) (by rw [h3]; decide)
    unfold ropS
    rw [← e]
    have hr : rightF o = _ := rightF_3 o h3
    rw [hr]
    exact rop_Q o N m f hm hN ⟨#[115, 101, 116, 120]⟩ true false false 1 false false false 30 (kindo_3 o h3)
  by_cases h4 : o.kind = 4
  · have e := badE_field o _ false false false 0 rfl (by rw [h4]; decide) (by rw [h4]; decide) (by rw [h4]; decide) (by rw [h4]; decide)
    unfold ropS
    rw [← e]
    have hr : rightF o = _ := rightF_4 o h4
    rw [hr]
    exact rop_P o N m f hm hN ⟨#[103, 101, 116, 115, 112]⟩ false false false 0 true false false 66 _ (kindo_4 o h4) (con66 o)
  by_cases h5 : o.kind = 5
  · have e := badE_field o _ false false false 1 rfl (by rw [h5]; decide) (by rw [h5]; decide) (by rw [h5]; decide) (by rw [h5]; decide)
    unfold ropS
    rw [← e]
    have hr : rightF o = _ := rightF_5 o h5
    rw [hr]
    exact rop_P o N m f hm hN ⟨#[115, 101, 116, 115, 112]⟩ false false false 1 false false false 66 _ (kindo_5 o h5) (con66 o)
  by_cases h6 : o.kind = 6
  · have e := badE_field o _ true false false 0 rfl (by rw [h6]; decide) (by rw [h6]; decide) (by rw [h6]; decide) (by rw [h6]; decide)
    unfold ropS
    rw [← e]
    have hr : rightF o = _ := rightF_6 o h6
    rw [hr]
    exact rop_Q o N m f hm hN ⟨#[103, 101, 116, 102]⟩ true false false 0 true false false 3 (kindo_6 o h6)
  by_cases h7 : o.kind = 7
  · have e := badE_field o _ true false false 1 rfl (by rw [h7]; decide) (by rw [h7]; decide) (by rw [h7]; decide) (by rw [h7]; decide)
    unfold ropS
    rw [← e]
    have hr : rightF o = _ := rightF_7 o h7
    rw [hr]
    exact rop_Q o N m f hm hN ⟨#[115, 101, 116, 102]⟩ true false false 1 false false false 3 (kindo_7 o h7)
  by_cases h8 : o.kind = 8
  · have e := badE_field o _ true false false 2 rfl (by rw [h8]; decide) (by rw [h8]; decide) (by rw [h8]; decide) (by rw [h8]; decide)
    unfold ropS
    rw [← e]
    have hr : rightF o = _ := rightF_8 o h8
    rw [hr]
    exact rop_P o N m f hm hN ⟨#[97, 108, 117]⟩ true false false 2 true false false 68 _ (kindo_8 o h8) (con68 o)
  by_cases h9 : o.kind = 9
  · have e := badE_field o _ false false true 1 rfl (by rw [h9]; decide) (by rw [h9]; decide) (by rw [h9]; decide) (by rw [h9]; decide)
    unfold ropS
    rw [← e]
    have hr : rightF o = _ := rightF_9 o h9
    rw [hr]
    exact rop_S o N m f hm hN ⟨#[108, 111, 97, 100]⟩ false false true 1 true false true 3 1 2 (by decide) (kindo_9 o h9)
  by_cases h10 : o.kind = 10
  · have e := badE_field o _ false false true 2 rfl (by rw [h10]; decide) (by rw [h10]; decide) (by rw [h10]; decide) (by rw [h10]; decide)
    unfold ropS
    rw [← e]
    have hr : rightF o = _ := rightF_10 o h10
    rw [hr]
    exact rop_S o N m f hm hN ⟨#[115, 116, 111, 114, 101]⟩ false false true 2 false false true 2 4 0 (by decide) (kindo_10 o h10)
  by_cases h11 : o.kind = 11
  · have e := badE_field o _ false false true 1 rfl (by rw [h11]; decide) (by rw [h11]; decide) (by rw [h11]; decide) (by rw [h11]; decide)
    unfold ropS
    rw [← e]
    have hr : rightF o = _ := rightF_11 o h11
    rw [hr]
    exact rop_S o N m f hm hN ⟨#[108, 111, 97, 100, 101, 120]⟩ false false true 1 true false true 2 2 0 (by decide) (kindo_11 o h11)
  by_cases h12 : o.kind = 12
  · have e := badE_field o _ false false true 2 rfl (by rw [h12]; decide) (by rw [h12]; decide) (by rw [h12]; decide) (by rw [h12]; decide)
    unfold ropS
    rw [← e]
    have hr : rightF o = _ := rightF_12 o h12
    rw [hr]
    exact rop_S o N m f hm hN ⟨#[115, 116, 111, 114, 101, 101, 120]⟩ false false true 2 true false true 2 4 0 (by decide) (kindo_12 o h12)
  by_cases h13 : o.kind = 13
  · have e := badE_field o _ true false false 0 rfl (by rw [h13]; decide) (by rw [h13]; decide) (by rw [h13]; decide) (by rw [h13]; decide)
    unfold ropS
    rw [← e]
    have hr : rightF o = _ := rightF_13 o h13
    rw [hr]
    exact rop_P o N m f hm hN ⟨#[102, 101, 110, 99, 101]⟩ true false false 0 false false false 70 _ (kindo_13 o h13) (con70 o)
  by_cases h14 : o.kind = 14
  · have e := badE_field o _ false true false 0 rfl (by rw [h14]; decide) (by rw [h14]; decide) (by rw [h14]; decide) (by rw [h14]; decide)
    unfold ropS
    rw [← e]
    have hr : rightF o = _ := rightF_14 o h14
    rw [hr]
    exact rop_P o N m f hm hN ⟨#[97, 116]⟩ false true false 0 false false false 71 _ (kindo_14 o h14) (con71 o)
  by_cases h15 : o.kind = 15
  · have e := badE_field o _ false true false 1 rfl (by rw [h15]; decide) (by rw [h15]; decide) (by rw [h15]; decide) (by rw [h15]; decide)
    unfold ropS
    rw [← e]
    have hr : rightF o = _ := rightF_15 o h15
    rw [hr]
    exact rop_P o N m f hm hN ⟨#[101, 120, 105, 116, 105, 102]⟩ false true false 1 false false false 66 _ (kindo_15 o h15) (con66 o)
  by_cases h16 : o.kind = 16
  · have e := badE_field o _ false true false 0 rfl (by rw [h16]; decide) (by rw [h16]; decide) (by rw [h16]; decide) (by rw [h16]; decide)
    unfold ropS
    rw [← e]
    have hr : rightF o = _ := rightF_16 o h16
    rw [hr]
    exact rop_P o N m f hm hN ⟨#[101, 120, 105, 116]⟩ false true false 0 false true false 66 _ (kindo_16 o h16) (con66 o)
  by_cases h17 : o.kind = 17
  · have e := badE_field o _ false false false 1 rfl (by rw [h17]; decide) (by rw [h17]; decide) (by rw [h17]; decide) (by rw [h17]; decide)
    unfold ropS
    rw [← e]
    have hr : rightF o = _ := rightF_17 o h17
    rw [hr]
    exact rop_P o N m f hm hN ⟨#[101, 120, 105, 116, 116, 111]⟩ false false false 1 false true false 66 _ (kindo_17 o h17) (con66 o)
  by_cases h18 : o.kind = 18
  · have e := badE_field o _ false true false 0 rfl (by rw [h18]; decide) (by rw [h18]; decide) (by rw [h18]; decide) (by rw [h18]; decide)
    unfold ropS
    rw [← e]
    have hr : rightF o = _ := rightF_18 o h18
    rw [hr]
    exact rop_P o N m f hm hN ⟨#[103, 117, 101, 115, 116]⟩ false true false 0 false true false 72 _ (kindo_18 o h18) (con72 o)
  have hno : noKind o.kind := by simp [noKind, *]
  have e : ropS o m f = false := by simp [ropS, fieldBad, rightF, *]
  rw [e]
  exact rop_no o N m f hm hN hno
end Go.Proofs.Ytmbnakinhnkabaa

namespace Go.Proofs.Ytmbnakinhnkabaa
open Go.AM
set_option maxRecDepth 100000
set_option linter.unusedSimpArgs false
set_option linter.unusedVariables false
def KindR (k : Int) (H : Heap) : Post := fun v H' =>
  (∃ w r i od a g, v = kindV (kindL w r i od (usesS k) (defS k) (endS k) a (.fn g [] [])) true ∧ H' = H) ∨
  (∃ w r i od a t, v = kindV (kindL w r i od (usesS k) (defS k) (endS k) a (.fn 98 [] [⟨H.next, 0, 0, 0⟩])) true ∧ H' = addBs H [boxW t]) ∨
  (∃ w r i od a c g, v = kindV (kindL w r i od (usesS k) (defS k) (endS k) a (.fn 99 [] [⟨H.next + 1, 0, 0, 0⟩])) true ∧ H' = addBs H [intsW c g, slB H.next c true]) ∨
  (v = kindV (kindL ⟨#[]⟩ false false false (usesS k) (defS k) (endS k) false .nilfn) false ∧ H' = H)
theorem kind_R (k : Int) (n : Nat) (X : List (Nat × Blk)) (hkl : keysLt X n) : Con Try.prog 46 [.c (.int .i64 k)] ⟨n, X⟩ (KindR k ⟨n, X⟩) := by
  by_cases h1 : k = 1
  · subst h1
    exact (kind_1 _).weaken (by rintro v H' ⟨rfl, rfl⟩; exact (.inl ⟨_, _, _, _, _, _, rfl, rfl⟩))
  by_cases h2 : k = 2
  · subst h2
    exact (kind_2 n X hkl).weaken (by rintro v H' ⟨rfl, rfl⟩; exact .inr (.inl ⟨_, _, _, _, _, _, rfl, rfl⟩))
  by_cases h3 : k = 3
  · subst h3
    exact (kind_3 n X hkl).weaken (by rintro v H' ⟨rfl, rfl⟩; exact .inr (.inl ⟨_, _, _, _, _, _, rfl, rfl⟩))
  by_cases h4 : k = 4
  · subst h4
    exact (kind_4 _).weaken (by rintro v H' ⟨rfl, rfl⟩; exact (.inl ⟨_, _, _, _, _, _, rfl, rfl⟩))
  by_cases h5 : k = 5
  · subst h5
    exact (kind_5 _).weaken (by rintro v H' ⟨rfl, rfl⟩; exact (.inl ⟨_, _, _, _, _, _, rfl, rfl⟩))
  by_cases h6 : k = 6
  · subst h6
    exact (kind_6 n X hkl).weaken (by rintro v H' ⟨rfl, rfl⟩; exact .inr (.inl ⟨_, _, _, _, _, _, rfl, rfl⟩))
  by_cases h7 : k = 7
  · subst h7
    exact (kind_7 n X hkl).weaken (by rintro v H' ⟨rfl, rfl⟩; exact .inr (.inl ⟨_, _, _, _, _, _, rfl, rfl⟩))
  by_cases h8 : k = 8
  · subst h8
    exact (kind_8 _).weaken (by rintro v H' ⟨rfl, rfl⟩; exact (.inl ⟨_, _, _, _, _, _, rfl, rfl⟩))
  by_cases h9 : k = 9
  · subst h9
    exact (kind_9 n X hkl).weaken (by rintro v H' ⟨rfl, rfl⟩; exact .inr (.inr (.inl ⟨_, _, _, _, _, _, _, rfl, rfl⟩)))
  by_cases h10 : k = 10
  · subst h10
    exact (kind_10 n X hkl).weaken (by rintro v H' ⟨rfl, rfl⟩; exact .inr (.inr (.inl ⟨_, _, _, _, _, _, _, rfl, rfl⟩)))
  by_cases h11 : k = 11
  · subst h11
    exact (kind_11 n X hkl).weaken (by rintro v H' ⟨rfl, rfl⟩; exact .inr (.inr (.inl ⟨_, _, _, _, _, _, _, rfl, rfl⟩)))
  by_cases h12 : k = 12
  · subst h12
    exact (kind_12 n X hkl).weaken (by rintro v H' ⟨rfl, rfl⟩; exact .inr (.inr (.inl ⟨_, _, _, _, _, _, _, rfl, rfl⟩)))
  by_cases h13 : k = 13
  · subst h13
    exact (kind_13 _).weaken (by rintro v H' ⟨rfl, rfl⟩; exact (.inl ⟨_, _, _, _, _, _, rfl, rfl⟩))
  by_cases h14 : k = 14
  · subst h14
    exact (kind_14 _).weaken (by rintro v H' ⟨rfl, rfl⟩; exact (.inl ⟨_, _, _, _, _, _, rfl, rfl⟩))
  by_cases h15 : k = 15
  · subst h15
    exact (kind_15 _).weaken (by rintro v H' ⟨rfl, rfl⟩; exact (.inl ⟨_, _, _, _, _, _, rfl, rfl⟩))
  by_cases h16 : k = 16
  · subst h16
    exact (kind_16 _).weaken (by rintro v H' ⟨rfl, rfl⟩; exact (.inl ⟨_, _, _, _, _, _, rfl, rfl⟩))
  by_cases h17 : k = 17
  · subst h17
    exact (kind_17 _).weaken (by rintro v H' ⟨rfl, rfl⟩; exact (.inl ⟨_, _, _, _, _, _, rfl, rfl⟩))
  by_cases h18 : k = 18
  · subst h18
    exact (kind_18 _).weaken (by rintro v H' ⟨rfl, rfl⟩; exact (.inl ⟨_, _, _, _, _, _, rfl, rfl⟩))
  have hno : noKind k := by simp [noKind, *]
  refine (kind_no k hno _).weaken ?_
  rintro v H' ⟨rfl, rfl⟩
  refine .inr (.inr (.inr ⟨?_, rfl⟩))
  have e1 : usesS k = 0 := by simp [usesS, *]
  have e2 : defS k = false := by simp [defS, *]
  have e3 : endS k = false := by simp [endS, *]
  rw [e1, e2, e3]
  rfl
end Go.Proofs.Ytmbnakinhnkabaa

namespace Go.Proofs.Ytmbnakinhnkabaa
open Go.AM
set_option maxRecDepth 100000
set_option linter.unusedSimpArgs false
set_option linter.unusedVariables false
structure BlkS where
  pc : Int
  words : Int
  el : Int
  n : Nat
  f : Nat → OpS
def blkL (b : BlkS) (i : Nat) : List Seg := [.c (.int .u64 b.pc), .c (.int .i64 b.words), .c (.int .i64 b.el), .c (.slice ⟨i, 0, 0, 0⟩ false b.n)]
def blkB (b : BlkS) (i : Nat) : Blk := ⟨4, none, fun _ => blkL b i, 25, true⟩
def head1 (b : BlkS) : Bool := ((((((IntKind.u64.wrap (BitVec.ofInt IntKind.u64.bits b.pc &&& BitVec.ofInt IntKind.u64.bits 3).toNat != 0) || decide (b.words < 1)) || decide (b.words > 16)) || decide (b.el < 0)) || decide (b.el > 1)) || decide ((b.n : Int) < 1)) || decide ((b.n : Int) > 512)
def head2 (b : BlkS) : Bool := ((b.f 0).kind != 14) || ((b.f 0).imm != b.pc)
def opsOk (b : BlkS) : Nat → Bool
  | 0 => true
  | j + 1 => opsOk b j && (ropS (b.f j) j b.f && (endS (b.f j).kind == decide ((j : Int) = (b.n : Int) - 1)))
def rightS (b : BlkS) : Bool := !head1 b && !head2 b && opsOk b b.n
theorem opsOk_no {b : BlkS} : ∀ {n j : Nat}, j < n → (ropS (b.f j) j b.f && (endS (b.f j).kind == decide ((j : Int) = (b.n : Int) - 1))) = false → opsOk b n = false
  | n + 1, j, h, hb => by
    simp only [opsOk]
    by_cases hj : j = n
    · rw [← hj, hb, Bool.and_false]
    · rw [opsOk_no (n := n) (by omega) hb, Bool.false_and]
theorem con54_at (o : OpS) (N m : Nat) (f : Nat → OpS) (hm : m ≤ N) (hN : N ≤ 140737488355328) (n : Nat) (X : List (Nat × Blk)) (w : Bool) (h0 : getB X 0 = some ⟨6, some N, fun i => opL (f i), 39, w⟩) (hlt : 0 < n) (hkl : keysLt X n) : Con Try.prog 54 [.agg (opL o), .c (.slice ⟨0, 0, 0, 0⟩ false m)] ⟨n, X⟩ (fun v H' => v = .c (.bool (ropS o m f)) ∧ H' = ⟨n, X⟩) :=
  ro_gen (con54 o N m f hm hN) [0] n X rfl ⟨trivial, trivial⟩ ⟨hlt, trivial⟩ hkl (by simp only [leBlks, nthO, h0]; exact ⟨ops_le N f w, trivial⟩) (by simp only [leArgs, leV, leV1, opL, leSegs, leSeg, leC, leA, nthO, and_self]) rfl (fun _ => rfl) rfl rfl
theorem blk_le {l : List Nat} (b : BlkS) (h : nthO l 0 = some 0) : leB l ⟨4, none, fun _ => blkL b 0, 25, true⟩ (blkB b 0) := ⟨rfl, rfl, id, Nat.le_refl _, fun _ _ => by simp only [blkB, blkL, leSegs, leSeg, leC, leA, h, and_self]⟩
def rgtSt (b : BlkS) (j : Nat) : St := ⟨[⟨62, [], .c (.int .i64 j)⟩, ⟨61, [], .c (.int .i64 b.n)⟩, ⟨60, [], .c (.slice ⟨0, 0, 0, 0⟩ false b.n)⟩, ⟨3, [], .c (.int .i64 b.n)⟩, ⟨1, [], .c (.ptr ⟨1, 0, 0, 0⟩)⟩], ⟨2, [(1, blkB b 0), (0, opsB b.n b.f)]⟩⟩
def rgtC (b : BlkS) (j : Nat) : Bool := !ropS (b.f j) j b.f || !(endS (b.f j).kind == ((j : Int) == IntKind.i64.wrap ((b.n : Int) - 1)))
def rgtS2 (b : BlkS) (j : Nat) (c : Bool) : St := ⟨⟨88, [], .c (.bool c)⟩ :: (rgtSt b j).tmps, (rgtSt b j).heap⟩
def rgtMid : ACode := .seq (.region C37r8)
     (.seq (.region C37r9)
     (.seq (.region C37r10)
     (.cond (.t 88)
      (.seq (.region C37r11)
      (.ret))
      (.skip))))
set_option maxHeartbeats 8000000 in
theorem rgt_mid (c0 : Bool) (b : BlkS) (j : Nat) (hj : j < b.n) (hn : b.n ≤ 512) {Q : AEx → St → Prop} (h : runA (Con Try.prog) (LeS 1) [.cond (.t 88) (.seq (.region C37r11) .ret) .skip] (rgtS2 b j (rgtC b j)) Q) : runA (Con Try.prog) (LeS 1) [rgtMid] ⟨⟨63, [], .c (.bool c0)⟩ :: (rgtSt b j).tmps, (rgtSt b j).heap⟩ Q := by
  unfold rgtMid rgtSt
  refine run_seq ?_
  (refine run_region fun K hK => ?_; simp only [C37r8]; (repeat' (first | (refine And.intro ?_ ?_; · (first | trivial | assumption | omega | exact ⟨by omega, by omega⟩)) | (rw [rwp_cons]; (try simp (maxSteps := 10000000) only [opL, blkB, blkL, opsB, rwp_nil, rwpK_app, aop, gpath, St.get, slotAt, sfx, eqP, segsOf, St.put, addBlk, getB, setB, delB, ld1, ldn, st1, stn, setRow, rowNeed, segAt, nsub, bin, un, eqB, isShift, sameK, arith, shiftR, getsl, selB_or, selB_and, beqb, shed, addN, Nat.beq, Seg.size, sizes, imp, needP, andN, appL, argsOf, ptrsOf, aasOf, cut, takeS, dropS, putS, partsOf, fillS, fieldOf, nthA, negIf, nilq, nilB, eqS, eqF, eqS1, andP, kin, slcS, strOk, plusA, bndHi, leN, optG, roH, roL, initT, exOk, exAll, wrAddr, Nat.reduceAdd, Nat.reduceSub, Nat.reduceMul, Int.reduceToNat, List.append_nil, List.nil_append, List.cons_append, eqT, idxT, cat, cpy, ite_int, ite_bool, ite_seg, ite_segs, ite_nil, ite_twice, Int.toNat_natCast, app, addBs, tob])))); all_goals ((try simp only [rwp_nil, shed]); with_reducible refine hK _ ?_; clear hK K))
  refine run_seq ?_
  (refine run_region fun K hK => ?_; simp only [C37r9]; (repeat' (first | (refine And.intro ?_ ?_; · (first | trivial | assumption | omega)) | (rw [rwp_cons]; (try simp (maxSteps := 10000000) only [opL, kindV, kindL, boxW, intsW, slB, rwp_nil, rwpK_app, aop, gpath, St.get, slotAt, sfx, eqP, segsOf, St.put, addBlk, getB, setB, delB, ld1, ldn, st1, stn, setRow, rowNeed, segAt, nsub, bin, un, eqB, isShift, sameK, arith, shiftR, getsl, selB_or, selB_and, beqb, shed, addN, Nat.beq, Seg.size, sizes, imp, needP, andN, appL, argsOf, ptrsOf, aasOf, cut, takeS, dropS, putS, partsOf, fillS, fieldOf, nthA, negIf, nilq, nilB, eqS, eqF, eqS1, andP, kin, slcS, strOk, plusA, bndHi, leN, optG, roH, roL, initT, exOk, exAll, wrAddr, Nat.reduceAdd, Nat.reduceSub, Nat.reduceMul, Int.reduceToNat, List.append_nil, List.nil_append, List.cons_append, eqT, idxT, cat, cpy, ite_int, ite_bool, ite_seg, ite_segs, ite_nil, ite_twice, Int.toNat_natCast, app, addBs, tob])) | ((first | (refine call_t _ (kind_R _ _ _ (by simp [keysLt])) ?_; rintro v H' (⟨w, r, i, od, a, g, rfl, rfl⟩ | ⟨w, r, i, od, a, t, rfl, rfl⟩ | ⟨w, r, i, od, a, c, g, rfl, rfl⟩ | ⟨rfl, rfl⟩))) <;> (try simp (maxSteps := 10000000) only [opL, kindV, kindL, boxW, intsW, slB, rwp_nil, rwpK_app, aop, gpath, St.get, slotAt, sfx, eqP, segsOf, St.put, addBlk, getB, setB, delB, ld1, ldn, st1, stn, setRow, rowNeed, segAt, nsub, bin, un, eqB, isShift, sameK, arith, shiftR, getsl, selB_or, selB_and, beqb, shed, addN, Nat.beq, Seg.size, sizes, imp, needP, andN, appL, argsOf, ptrsOf, aasOf, cut, takeS, dropS, putS, partsOf, fillS, fieldOf, nthA, negIf, nilq, nilB, eqS, eqF, eqS1, andP, kin, slcS, strOk, plusA, bndHi, leN, optG, roH, roL, initT, exOk, exAll, wrAddr, Nat.reduceAdd, Nat.reduceSub, Nat.reduceMul, Int.reduceToNat, List.append_nil, List.nil_append, List.cons_append, eqT, idxT, cat, cpy, ite_int, ite_bool, ite_seg, ite_segs, ite_nil, ite_twice, Int.toNat_natCast, app, addBs, tob])))); all_goals ((try simp only [rwp_nil, shed]); with_reducible refine hK _ ?_; clear hK K))
  all_goals refine run_seq ?_
  all_goals
    (refine run_regionL fun K hK => ?_; simp only [C37r10]; (repeat' (first | (refine And.intro ?_ ?_; · (first | trivial | assumption | omega | (intros; first | trivial | omega))) | (rw [rwp_cons]; (try simp (maxSteps := 10000000) only [opL, kindV, kindL, boxW, intsW, slB, blkB, blkL, rwp_nil, rwpK_app, aop, gpath, St.get, slotAt, sfx, eqP, segsOf, St.put, addBlk, getB, setB, delB, ld1, ldn, st1, stn, setRow, rowNeed, segAt, nsub, bin, un, eqB, isShift, sameK, arith, shiftR, getsl, selB_or, selB_and, beqb, shed, addN, Nat.beq, Seg.size, sizes, imp, needP, andN, appL, argsOf, ptrsOf, aasOf, cut, takeS, dropS, putS, partsOf, fillS, fieldOf, nthA, negIf, nilq, nilB, eqS, eqF, eqS1, andP, kin, slcS, strOk, plusA, bndHi, leN, optG, roH, roL, initT, exOk, exAll, wrAddr, Nat.reduceAdd, Nat.reduceSub, Nat.reduceMul, Int.reduceToNat, List.append_nil, List.nil_append, List.cons_append, eqT, idxT, cat, cpy, ite_int, ite_bool, ite_seg, ite_segs, ite_nil, ite_twice, Int.toNat_natCast, app, addBs, tob])) | ((first | (refine call_t _ (con54_at (b.f j) b.n j b.f (Nat.le_of_lt hj) (by omega) _ _ _ rfl (Nat.le_of_ble_eq_true rfl) (by simp [roL, keysLt])) ?_; rintro v H' ⟨rfl, rfl⟩) | (refine call_q _ (con54_at (b.f j) b.n j b.f (Nat.le_of_lt hj) (by omega) _ _ _ rfl (Nat.le_of_ble_eq_true rfl) (by simp [roL, keysLt])) ?_) | (refine call_g _ (imp_of (con54_at (b.f j) b.n j b.f (Nat.le_of_lt hj) (by omega) _ _ _ rfl (Nat.le_of_ble_eq_true rfl) (by simp [roL, keysLt]))) ?_)) <;> (try simp (maxSteps := 10000000) only [opL, kindV, kindL, boxW, intsW, slB, blkB, blkL, rwp_nil, rwpK_app, aop, gpath, St.get, slotAt, sfx, eqP, segsOf, St.put, addBlk, getB, setB, delB, ld1, ldn, st1, stn, setRow, rowNeed, segAt, nsub, bin, un, eqB, isShift, sameK, arith, shiftR, getsl, selB_or, selB_and, beqb, shed, addN, Nat.beq, Seg.size, sizes, imp, needP, andN, appL, argsOf, ptrsOf, aasOf, cut, takeS, dropS, putS, partsOf, fillS, fieldOf, nthA, negIf, nilq, nilB, eqS, eqF, eqS1, andP, kin, slcS, strOk, plusA, bndHi, leN, optG, roH, roL, initT, exOk, exAll, wrAddr, Nat.reduceAdd, Nat.reduceSub, Nat.reduceMul, Int.reduceToNat, List.append_nil, List.nil_append, List.cons_append, eqT, idxT, cat, cpy, ite_int, ite_bool, ite_seg, ite_segs, ite_nil, ite_twice, Int.toNat_natCast, app, addBs, tob])))); all_goals ((try simp only [rwp_nil, shed]); (with_reducible refine hK _ (rgtS2 b j (rgtC b j)) ?hle ?_); (case hle => exact (LeS.intro [0, 1] (fun i h => idt1' i h) (by simp only [diff, notIn, Nat.beq, and_self]) rfl (by simp only [rgtS2, rgtC, rgtSt, slotsLe, slotAt, Nat.beq, leV, leV1, leC, leA, nthO, and_self]) ⟨blk_le b rfl, ops_le b.n b.f false, trivial⟩)); clear hK K))
    exact h
theorem con37 (b : BlkS) : Con Try.prog 37 [.agg (blkL b 0)] ⟨1, [(0, opsB b.n b.f)]⟩ (fun v H' => v = .c (.bool (rightS b)) ∧ H' = ⟨1, [(0, opsB b.n b.f)]⟩) := by
  (refine con_of_run mixed (fn := Try.f37) (by kernel_rfl) (by kernel_rfl) C37_ok (rs := [.tmp 2]) (by kernel_rfl) (Nat.le_of_ble_eq_true (by kernel_rfl)) ?_; unfold C37; simp only [initT, Nat.reduceAdd])
  repeat' (first | refine run_seq ?_ | refine run_skip ?_ | (refine run_region fun K hK => ?_; (try (simp (maxSteps := 10000000) only [opL, blkL, blkB, opsB, C37r0, C37r1, C37r2, C37r3, C37r4, C37r5, C37r7, C37r11, C37r12, C37r13, rwp_nil, rwp_cons, rwpK_app, aop, gpath, St.get, slotAt, sfx, eqP, segsOf, St.put, addBlk, getB, setB, delB, ld1, ldn, st1, stn, setRow, rowNeed, segAt, nsub, bin, un, eqB, isShift, sameK, arith, shiftR, getsl, selB_or, selB_and, beqb, shed, addN, Nat.beq, Seg.size, sizes, imp, needP, andN, appL, argsOf, ptrsOf, aasOf, cut, takeS, dropS, putS, partsOf, fillS, fieldOf, nthA, negIf, nilq, nilB, eqS, eqF, eqS1, andP, kin, slcS, strOk, plusA, bndHi, leN, optG, roH, roL, initT, exOk, exAll, wrAddr, Nat.reduceAdd, Nat.reduceSub, Nat.reduceMul, Int.reduceToNat, List.append_nil, List.nil_append, List.cons_append, eqT, idxT, cat, cpy, ite_int, ite_bool, ite_seg, ite_segs, ite_nil, ite_twice, Int.toNat_natCast, app, addBs, tob])); (repeat (first | (refine And.intro ?_ ?_; · (first | trivial | assumption | (intros; simp only [Bool.or_eq_false_iff, decide_eq_false_iff_not, decide_eq_true_eq] at *; omega))))); with_reducible refine hK _ ?_; clear hK K) | (refine run_cond rfl (fun hc => ?_) (fun hc => ?_) <;> try (simp only [*, Bool.true_eq_false, Bool.false_eq_true, Bool.not_true, Bool.not_false, Bool.true_or, Bool.or_true, Bool.false_or, Bool.or_false, Bool.false_and, Bool.and_false, bne_self_eq_false, beq_self_eq_true] at hc; done)) | refine run_block ?_ | refine run_ret ?_ | refine run_nil ?_ | refine run_exit ?_ | refine blk_normal ?_ | refine blk_ret ?_ | refine blk_here ?_ | refine blk_there rfl ?_ | refine loop_exit ?_ | refine loop_ret ?_ | refine un_exit ?_ | refine un_ret ?_ | refine unE_exit ?_ | refine unE_ret ?_ | refine un_normal ?_)
  · have e : rightS b = false := by unfold rightS; rw [show head1 b = true from hc]; rfl
    rw [e]
    exact end_ops false rfl rfl ⟨rfl, rfl⟩
  · have e : rightS b = false := by unfold rightS; rw [show head2 b = true from hc, Bool.not_true, Bool.and_false]; rfl
    rw [e]
    exact end_ops false rfl rfl ⟨rfl, rfl⟩
  rename_i hc1
  have hc2 := hc
  have h1 : head1 b = false := hc1
  have h2 : head2 b = false := hc2
  have hn : 1 ≤ b.n ∧ b.n ≤ 512 := by
    unfold head1 at h1
    simp only [Bool.or_eq_false_iff, decide_eq_false_iff_not] at h1
    omega
  clear hc1 hc2 hc
  (refine run_regionL fun K hK => ?_; (try (simp (maxSteps := 10000000) only [opL, blkL, blkB, opsB, C37r0, C37r1, C37r2, C37r3, C37r4, C37r5, C37r6, C37r7, C37r8, C37r9, C37r10, C37r11, C37r12, C37r13, rwp_nil, rwp_cons, rwpK_app, aop, gpath, St.get, slotAt, sfx, eqP, segsOf, St.put, addBlk, getB, setB, delB, ld1, ldn, st1, stn, setRow, rowNeed, segAt, nsub, bin, un, eqB, isShift, sameK, arith, shiftR, getsl, selB_or, selB_and, beqb, shed, addN, Nat.beq, Seg.size, sizes, imp, needP, andN, appL, argsOf, ptrsOf, aasOf, cut, takeS, dropS, putS, partsOf, fillS, fieldOf, nthA, negIf, nilq, nilB, eqS, eqF, eqS1, andP, kin, slcS, strOk, plusA, bndHi, leN, optG, roH, roL, initT, exOk, exAll, wrAddr, Nat.reduceAdd, Nat.reduceSub, Nat.reduceMul, Int.reduceToNat, List.append_nil, List.nil_append, List.cons_append, eqT, idxT, cat, cpy, ite_int, ite_bool, ite_seg, ite_segs, ite_nil, ite_twice, Int.toNat_natCast, app, addBs, tob])); (repeat (first | (refine And.intro ?_ ?_; · first | trivial | assumption | omega))); refine hK _ (rgtSt b 0) (LeS.intro [0, 1] (fun i h => idt1' i h) (by simp only [diff, notIn, Nat.beq, and_self]) rfl (by simp only [rgtSt, slotsLe, slotAt, Nat.beq, leV, leV1, leC, leA, nthO, Int.natCast_zero, Int.ofNat_zero, and_self]) ⟨blk_le b rfl, ops_le b.n b.f false, trivial⟩) ?_; clear hK K)
  refine run_block ?_
  refine run_loop (fun n s => ∃ j, n = b.n - j ∧ j ≤ b.n ∧ opsOk b j = true ∧ s = rgtSt b j) b.n ⟨0, rfl, Nat.zero_le _, rfl, rfl⟩ ?_
  rintro n s ⟨j, rfl, hj, hok, rfl⟩
  refine run_seq ?_
  unfold rgtSt
  (refine run_regionL fun K hK => ?_; (try (simp (maxSteps := 10000000) only [opL, C37r0, C37r1, C37r2, C37r3, C37r4, C37r5, C37r6, C37r7, C37r8, C37r9, C37r10, C37r11, C37r12, C37r13, rwp_nil, rwp_cons, rwpK_app, aop, gpath, St.get, slotAt, sfx, eqP, segsOf, St.put, addBlk, getB, setB, delB, ld1, ldn, st1, stn, setRow, rowNeed, segAt, nsub, bin, un, eqB, isShift, sameK, arith, shiftR, getsl, selB_or, selB_and, beqb, shed, addN, Nat.beq, Seg.size, sizes, imp, needP, andN, appL, argsOf, ptrsOf, aasOf, cut, takeS, dropS, putS, partsOf, fillS, fieldOf, nthA, negIf, nilq, nilB, eqS, eqF, eqS1, andP, kin, slcS, strOk, plusA, bndHi, leN, optG, roH, roL, initT, exOk, exAll, wrAddr, Nat.reduceAdd, Nat.reduceSub, Nat.reduceMul, Int.reduceToNat, List.append_nil, List.nil_append, List.cons_append, eqT, idxT, cat, cpy, ite_int, ite_bool, ite_seg, ite_segs, ite_nil, ite_twice, Int.toNat_natCast, app, addBs, tob])); (repeat (first | (refine And.intro ?_ ?_; · first | trivial | assumption | omega))); refine hK _ (⟨⟨63, [], .c (.bool (decide ((j : Int) < (b.n : Int))))⟩ :: (rgtSt b j).tmps, (rgtSt b j).heap⟩) (LeS.intro [0, 1] (fun i h => idt1' i h) (by simp only [diff, notIn, Nat.beq, and_self]) rfl (by simp only [rgtSt, slotsLe, slotAt, Nat.beq, leV, leV1, leC, leA, nthO, and_self]) ⟨blk_le b rfl, ops_le b.n b.f false, trivial⟩) ?_; clear hK K)
  refine run_seq (run_cond rfl (fun hc => ?_) (fun hc => ?_))
  · have hlt : j < b.n := by simp only [decide_eq_true_eq] at hc; omega
    have hw1 : IntKind.i64.wrap ((b.n : Int) - 1) = (b.n : Int) - 1 := by rw [IntKind.wrap_i64]; omega
    have hw : IntKind.i64.wrap ((j : Int) + 1) = ((j + 1 : Nat) : Int) := by rw [IntKind.wrap_i64]; omega
    refine run_skip (run_seq (run_block ?_))
    refine rgt_mid _ b j hlt hn.2 (run_cond rfl (fun hc' => ?_) (fun hc' => ?_))
    · unfold rgtS2 rgtSt
      repeat' (first | refine run_seq ?_ | refine run_skip ?_ | (refine run_region fun K hK => ?_; (try (simp (maxSteps := 10000000) only [opL, rgtSt, C37r0, C37r1, C37r2, C37r3, C37r4, C37r5, C37r6, C37r7, C37r11, C37r13, rwp_nil, rwp_cons, rwpK_app, aop, gpath, St.get, slotAt, sfx, eqP, segsOf, St.put, addBlk, getB, setB, delB, ld1, ldn, st1, stn, setRow, rowNeed, segAt, nsub, bin, un, eqB, isShift, sameK, arith, shiftR, getsl, selB_or, selB_and, beqb, shed, addN, Nat.beq, Seg.size, sizes, imp, needP, andN, appL, argsOf, ptrsOf, aasOf, cut, takeS, dropS, putS, partsOf, fillS, fieldOf, nthA, negIf, nilq, nilB, eqS, eqF, eqS1, andP, kin, slcS, strOk, plusA, bndHi, leN, optG, roH, roL, initT, exOk, exAll, wrAddr, Nat.reduceAdd, Nat.reduceSub, Nat.reduceMul, Int.reduceToNat, List.append_nil, List.nil_append, List.cons_append, eqT, idxT, cat, cpy, ite_int, ite_bool, ite_seg, ite_segs, ite_nil, ite_twice, Int.toNat_natCast, app, addBs, tob])); (repeat (first | (refine And.intro ?_ ?_; · ))); with_reducible refine hK _ ?_; clear hK K) | (refine run_cond rfl (fun hc => ?_) (fun hc => ?_) <;> try (simp only [*, Bool.true_eq_false, Bool.false_eq_true, Bool.not_true, Bool.not_false, Bool.true_or, Bool.or_true, Bool.false_or, Bool.or_false, Bool.false_and, Bool.and_false, bne_self_eq_false, beq_self_eq_true] at hc; done)) | refine run_block ?_ | refine run_ret ?_ | refine run_nil ?_ | refine run_exit ?_ | refine blk_normal ?_ | refine blk_ret ?_ | refine blk_here ?_ | refine blk_there rfl ?_ | refine loop_exit ?_ | refine loop_ret ?_ | refine un_exit ?_ | refine un_ret ?_ | refine unE_exit ?_ | refine unE_ret ?_ | refine un_normal ?_)
      have e : rightS b = false := by
        unfold rightS
        rw [opsOk_no hlt, Bool.and_false]
        unfold rgtC at hc'
        rw [hw1] at hc'
        rw [show ((j : Int) == (b.n : Int) - 1) = decide ((j : Int) = (b.n : Int) - 1) from rfl] at hc'
        rw [← Bool.not_and, Bool.not_eq_true'] at hc'
        exact hc'
      rw [e]
      exact end_ops false rfl rfl ⟨rfl, rfl⟩
    · unfold rgtS2 rgtSt
      repeat' (first | refine run_seq ?_ | refine run_skip ?_ | (refine run_region fun K hK => ?_; (try (simp (maxSteps := 10000000) only [opL, rgtSt, hw, C37r0, C37r1, C37r2, C37r3, C37r4, C37r5, C37r6, C37r7, C37r11, C37r12, C37r13, rwp_nil, rwp_cons, rwpK_app, aop, gpath, St.get, slotAt, sfx, eqP, segsOf, St.put, addBlk, getB, setB, delB, ld1, ldn, st1, stn, setRow, rowNeed, segAt, nsub, bin, un, eqB, isShift, sameK, arith, shiftR, getsl, selB_or, selB_and, beqb, shed, addN, Nat.beq, Seg.size, sizes, imp, needP, andN, appL, argsOf, ptrsOf, aasOf, cut, takeS, dropS, putS, partsOf, fillS, fieldOf, nthA, negIf, nilq, nilB, eqS, eqF, eqS1, andP, kin, slcS, strOk, plusA, bndHi, leN, optG, roH, roL, initT, exOk, exAll, wrAddr, Nat.reduceAdd, Nat.reduceSub, Nat.reduceMul, Int.reduceToNat, List.append_nil, List.nil_append, List.cons_append, eqT, idxT, cat, cpy, ite_int, ite_bool, ite_seg, ite_segs, ite_nil, ite_twice, Int.toNat_natCast, app, addBs, tob])); (repeat (first | (refine And.intro ?_ ?_; · ))); with_reducible refine hK _ ?_; clear hK K) | (refine run_cond rfl (fun hc => ?_) (fun hc => ?_) <;> try (simp only [*, Bool.true_eq_false, Bool.false_eq_true, Bool.not_true, Bool.not_false, Bool.true_or, Bool.or_true, Bool.false_or, Bool.or_false, Bool.false_and, Bool.and_false, bne_self_eq_false, beq_self_eq_true] at hc; done)) | refine run_block ?_ | refine run_ret ?_ | refine run_nil ?_ | refine run_exit ?_ | refine blk_normal ?_ | refine blk_ret ?_ | refine blk_here ?_ | refine blk_there rfl ?_ | refine loop_exit ?_ | refine loop_ret ?_ | refine un_exit ?_ | refine un_ret ?_ | refine unE_exit ?_ | refine unE_ret ?_ | refine un_normal ?_)
      refine loop_normal (b.n - (j + 1)) (rgtSt b (j + 1)) (by omega) (LeS.intro [0, 1] (fun i h => idt1' i h) (by simp only [diff, notIn, Nat.beq, and_self]) rfl (by simp only [rgtSt, slotsLe, slotAt, Nat.beq, leV, leV1, leC, leA, nthO, and_self]) ⟨blk_le b rfl, ops_le b.n b.f false, trivial⟩) ⟨j + 1, rfl, hlt, ?_, rfl⟩
      unfold rgtC at hc'
      rw [hw1] at hc'
      rw [show ((j : Int) == (b.n : Int) - 1) = decide ((j : Int) = (b.n : Int) - 1) from rfl] at hc'
      rw [← Bool.not_and, Bool.not_eq_false'] at hc'
      unfold opsOk
      rw [hok, hc']
      rfl
  · have e : j = b.n := by simp only [decide_eq_false_iff_not] at hc; omega
    have e2 : rightS b = true := by unfold rightS; rw [h1, h2, ← e, hok]; rfl
    unfold rgtSt
    repeat' (first | refine run_seq ?_ | refine run_skip ?_ | (refine run_region fun K hK => ?_; (try (simp (maxSteps := 10000000) only [opL, C37r0, C37r1, C37r2, C37r3, C37r4, C37r5, C37r6, C37r7, C37r11, C37r13, rwp_nil, rwp_cons, rwpK_app, aop, gpath, St.get, slotAt, sfx, eqP, segsOf, St.put, addBlk, getB, setB, delB, ld1, ldn, st1, stn, setRow, rowNeed, segAt, nsub, bin, un, eqB, isShift, sameK, arith, shiftR, getsl, selB_or, selB_and, beqb, shed, addN, Nat.beq, Seg.size, sizes, imp, needP, andN, appL, argsOf, ptrsOf, aasOf, cut, takeS, dropS, putS, partsOf, fillS, fieldOf, nthA, negIf, nilq, nilB, eqS, eqF, eqS1, andP, kin, slcS, strOk, plusA, bndHi, leN, optG, roH, roL, initT, exOk, exAll, wrAddr, Nat.reduceAdd, Nat.reduceSub, Nat.reduceMul, Int.reduceToNat, List.append_nil, List.nil_append, List.cons_append, eqT, idxT, cat, cpy, ite_int, ite_bool, ite_seg, ite_segs, ite_nil, ite_twice, Int.toNat_natCast, app, addBs, tob])); (repeat (first | (refine And.intro ?_ ?_; · ))); with_reducible refine hK _ ?_; clear hK K) | (refine run_cond rfl (fun hc => ?_) (fun hc => ?_) <;> try (simp only [*, Bool.true_eq_false, Bool.false_eq_true, Bool.not_true, Bool.not_false, Bool.true_or, Bool.or_true, Bool.false_or, Bool.or_false, Bool.false_and, Bool.and_false, bne_self_eq_false, beq_self_eq_true] at hc; done)) | refine run_block ?_ | refine run_ret ?_ | refine run_nil ?_ | refine run_exit ?_ | refine blk_normal ?_ | refine blk_ret ?_ | refine blk_here ?_ | refine blk_there rfl ?_ | refine loop_exit ?_ | refine loop_ret ?_ | refine un_exit ?_ | refine un_ret ?_ | refine unE_exit ?_ | refine unE_ret ?_ | refine un_normal ?_)
    rw [e2]
    exact end_ops true rfl rfl ⟨rfl, rfl⟩
end Go.Proofs.Ytmbnakinhnkabaa

namespace Go.AM
set_option linter.unusedVariables false
set_option linter.unusedSimpArgs false
set_option linter.unusedSectionVars false
variable {P : Program} {φ : Emb} {w : World}

def vw (P : Program) (o : Oper) : Option Nat × Option (Nat × Bool) × Option AOp := (o.dst, o.guard, stripOp P o.op)

theorem opd_tmp {x : Operand} {n : Nat} (h : opd x = some (.t n)) : x = .tmp n := by
  cases x with
  | tmp t => simp only [opd, Option.some.injEq, Opd.t.injEq] at h; rw [h]
  | const v => obtain ⟨u, e, _⟩ := opd_const (fun _ => none) h; cases e
  | func f => obtain ⟨u, e, _⟩ := opd_func (fun _ => none) h; cases e
  | global g => simp [opd] at h

theorem mv_inv {o : Oper} {n : Nat} (h : stripOp P o.op = some (.mv (.t n))) (a : Act) (w : World) : (execOp a.eval o).run P w = .ok (.value (a.tmps.getD n undef)) w := by
  obtain ⟨dst, op, type, pos, after, guard⟩ := o
  simp only at h
  cases op <;> simp only [stripOp, Option.map_eq_some_iff, reduceCtorEq, and_false, exists_false] at h
  case move x =>
    obtain ⟨y, hy, e⟩ := h
    cases e
    rw [opd_tmp hy]
    rfl
  case assign x =>
    obtain ⟨y, hy, e⟩ := h
    cases e
    rw [opd_tmp hy]
    rfl
  case call c =>
    exfalso
    obtain ⟨callee, args, ts⟩ := c
    cases callee with
    | invoke r m => simp [stripOp] at h
    | value f => simp only [stripOp] at h; split at h <;> simp at h
    | builtin bi =>
      cases bi <;> try (simp [stripOp] at h; done)
      all_goals (simp only [stripOp] at h; revert h; (repeat' split) <;> simp_all)
  all_goals (exfalso; revert h; (repeat' split) <;> simp_all)

theorem yield_inv {o : Oper} {c : Nat} {aq : List Opd} (h : stripOp P o.op = some (.call (.t c) aq)) {a : Act} {l : Nat} (hc : a.tmps.getD c undef = .func (.yield l) #[] #[]) {ψ : Emb} {s : St} (hg : Gets ψ s [] a) :
    ∃ vs : Array Value, F2 (relA ψ) (argsOf (s.get []) aq) vs.toList ∧ ∀ w, (execOp a.eval o).run P w = (Instr.yield l vs).run P w := by
  obtain ⟨dst, op, type, pos, after, guard⟩ := o
  simp only at h
  cases op <;> simp only [stripOp, Option.map_eq_some_iff, reduceCtorEq, and_false, exists_false] at h
  case call cc =>
    obtain ⟨callee, args, ts⟩ := cc
    cases callee with
    | invoke r m => simp [stripOp] at h
    | builtin bi =>
      exfalso
      cases bi <;> try (simp [stripOp] at h; done)
      all_goals (simp only [stripOp] at h; revert h; (repeat' split) <;> simp)
    | value fv =>
      simp only [stripOp] at h
      split at h
      · rename_i f' as' hf' has
        simp only [Option.some.injEq, AOp.call.injEq] at h
        obtain ⟨rfl, rfl⟩ := h
        have hev : a.eval fv = .func (.yield l) #[] #[] := by rw [opd_tmp hf']; exact hc
        refine ⟨args.map a.eval, ?_, fun w => ?_⟩
        · have := argsOf_rel hg.get _ _ has
          simpa using this
        · simp only [execOp, resolve, hev, Deferred.ofValue, Sem.run_bind, Sem.run_pure, Result.andThen_ok, invoke]
          simp
      · simp at h
  all_goals (exfalso; revert h; (repeat' split) <;> simp_all)

variable {F : Fence} [Wide F]
theorem one_read {ops : Array Oper} {o : Oper} {r : List Oper} {d : Nat} {ao : AOp} (hv : vw P o = (some d, none, some ao)) {ψ : Emb} {l : List Slot} {a : Act} (hS : SOk ψ l a []) {H : Heap} (hR : Reads ψ H w) (hf : ψ H.next = none)
    {need : Option Prop} {v : AV} (ha : aop ⟨l, H⟩ [] ao = .p need v none) (hn : needP need) (hd : d < a.tmps.size) {Q : Exit → Act → World → Prop}
    (k : ∀ x, SOk ψ (⟨d, [], v⟩ :: l) (a.put (some d) x) [] → relA ψ v x → wpListIn F 0 P ops Q r (a.put (some d) x) w) : wpListIn F 0 P ops Q (o :: r) a w := by
  simp only [vw, Prod.mk.injEq] at hv
  obtain ⟨h1, h2, h3⟩ := hv
  simp only [wpListIn]
  rw [if_pos (by simp [Region.wanted, h2])]
  refine wp_op h3 ?_
  obtain ⟨x, hx, hr⟩ := op_p h3 (gets_of (H := H) hS.toE (π := []) trivial trivial) hR hf ha hn
  rw [hx, Oper.uponIn_value, h1]
  exact k x (sok_put ψ.le_refl hS (fun _ h => h) hd rfl (by simp) (π := []) trivial (fun e he => by cases he) (fun _ => hr) (fun hc => absurd trivial hc)) hr
theorem one_mv {ops : Array Oper} {o : Oper} {r : List Oper} {d n : Nat} (hv : vw P o = (some d, none, some (.mv (.t n)))) {ψ : Emb} {l : List Slot} {a : Act} (hS : SOk ψ l a []) (hd : d < a.tmps.size) {Q : Exit → Act → World → Prop}
    (k : SOk ψ (⟨d, [], .bot⟩ :: l) (a.put (some d) (a.tmps.getD n undef)) [] → wpListIn F 0 P ops Q r (a.put (some d) (a.tmps.getD n undef)) w) : wpListIn F 0 P ops Q (o :: r) a w := by
  simp only [vw, Prod.mk.injEq] at hv
  obtain ⟨h1, h2, h3⟩ := hv
  simp only [wpListIn]
  rw [if_pos (by simp [Region.wanted, h2])]
  refine wp_op h3 ?_
  rw [mv_inv h3, Oper.uponIn_value, h1]
  exact k (sok_put ψ.le_refl hS (fun _ h => h) hd rfl (by simp) (π := []) trivial (fun e he => by cases he) (fun _ => trivial) (fun hc => absurd trivial hc))


theorem sok_sub {ψ : Emb} {l l' : List Slot} {a : Act} (hS : SOk ψ l a []) (h : ∀ n sl, slotAt l' n = some sl → slotAt l n = some sl ∧ sl.path = []) : SOk ψ l' a [] := fun n sl hs => by
  obtain ⟨h1, h2⟩ := h n sl hs
  have := hS n sl h1
  exact ⟨this.num, this.on, this.off, by rw [h2]; trivial, this.keys⟩

def bkL (i : Nat) (k : Int) : List Slot := [⟨3, [], .c (.int .i64 k)⟩, ⟨1, [], .c (.ptr ⟨i, 0, 0, 0⟩)⟩]
theorem bk_sub {ψ : Emb} {i : Nat} {k : Int} {l : List Slot} {a : Act} (hS : SOk ψ l a []) (h3 : slotAt l 3 = some ⟨3, [], .c (.int .i64 k)⟩) (h1 : slotAt l 1 = some ⟨1, [], .c (.ptr ⟨i, 0, 0, 0⟩)⟩) : SOk ψ (bkL i k) a [] :=
  sok_sub hS fun n sl hs => by
    unfold bkL at hs
    by_cases hn : n = 3
    · subst hn; rw [slotAt_cons_self] at hs; cases hs; exact ⟨h3, rfl⟩
    · rw [slotAt_cons_ne hn] at hs
      by_cases hn : n = 1
      · subst hn; rw [slotAt_cons_self] at hs; cases hs; exact ⟨h1, rfl⟩
      · rw [slotAt_cons_ne hn] at hs; cases hs

section
variable {ops : Array Oper} {Q : Exit → Act → World → Prop} {K : Heap} {i j b M nx : Nat} {need : Option Prop} {ψ : Emb} {a : Act} {W : World}
theorem wr1 (n : Int) (h0 : 0 ≤ n) (h1 : n ≤ 140737488355328) : IntKind.i64.wrap (n - 1) = n - 1 := by rw [IntKind.wrap_i64]; omega
theorem bk_l4 {l : List Oper} {v : List (Option Nat × Option (Nat × Bool) × Option AOp)} (h : l.map (vw P) = v) : l.length = v.length := by rw [← h]; simp
theorem len_2 {α : Type} {l : List α} (h : l.length = 2) : ∃ o1 o2, l = [o1, o2] := by
  match l, h with
  | [o1, o2], _ => exact ⟨o1, o2, rfl⟩
theorem len_3 {α : Type} {l : List α} (h : l.length = 3) : ∃ o1 o2 o3, l = [o1, o2, o3] := by
  match l, h with
  | [o1, o2, o3], _ => exact ⟨o1, o2, o3, rfl⟩
theorem len_4 {α : Type} {l : List α} (h : l.length = 4) : ∃ o1 o2 o3 o4, l = [o1, o2, o3, o4] := by
  match l, h with
  | [o1, o2, o3, o4], _ => exact ⟨o1, o2, o3, o4, rfl⟩
theorem len_8 {α : Type} {l : List α} (h : l.length = 8) : ∃ o1 o2 o3 o4 o5 o6 o7 o8, l = [o1, o2, o3, o4, o5, o6, o7, o8] := by
  match l, h with
  | [o1, o2, o3, o4, o5, o6, o7, o8], _ => exact ⟨o1, o2, o3, o4, o5, o6, o7, o8, rfl⟩
theorem bk_head {r : List Oper} (h0 : r.map (vw P) = [(some 4, none, some (.ld1 (.t 1))), (some 5, none, some (.len false (.t 4))), (some 6, none, some (.bin .sub (.t 5) (.k (.c (.int .i64 1))))), (some 3, none, some (.mv (.t 6)))])
    (hM : M ≤ 140737488355328) (hbox : ld1 ⟨nx, K.blks⟩ ⟨i, 0, 0, 0⟩ = .p need (.c (.slice ⟨j, b, 0, 0⟩ false M)) none) (hneed : needP need) (hr : Reads ψ ⟨nx, K.blks⟩ W) (hf : ψ nx = none)
    (hS : SOk ψ [⟨1, [], .c (.ptr ⟨i, 0, 0, 0⟩)⟩] a []) (hsz : a.tmps.size = 19)
    (k : ∀ a', SOk ψ (bkL i ((M : Int) - 1)) a' [] → a'.tmps.getD 0 undef = a.tmps.getD 0 undef → a'.tmps.size = 19 → a'.defers = a.defers → Q .normal a' W) : wpListIn F 0 P ops Q r a W := by
  have hl := bk_l4 h0
  simp only [List.length_cons, List.length_nil, Nat.zero_add, Nat.reduceAdd] at hl
  obtain ⟨o1, o2, o3, o4, rfl⟩ := len_4 hl
  · skip
    simp only [List.map_cons, List.map_nil, List.cons.injEq, and_true] at h0
    obtain ⟨v1, v2, v3, v4⟩ := h0
    refine one_read v1 hS hr hf (v := .c (.slice ⟨j, b, 0, 0⟩ false M)) (need := need) hbox hneed (by omega) fun x1 hS1 _ => ?_
    refine one_read v2 hS1 hr hf (v := .c (.int .i64 (M : Int))) (need := none) rfl trivial (by rw [put_size]; omega) fun x2 hS2 _ => ?_
    refine one_read v3 hS2 hr hf (v := .c (.int .i64 ((M : Int) - 1))) (need := none) ?_ trivial (by simp only [put_size]; omega) fun x3 hS3 _ => ?_
    · simp only [aop, St.get, slotAt, Nat.beq, sfx, eqP, bin, isShift, sameK, arith, wr1 M (by omega) (by omega)]
    refine one_read v4 hS3 hr hf (v := .c (.int .i64 ((M : Int) - 1))) (need := none) rfl trivial (by simp only [put_size]; omega) fun x4 hS4 _ => ?_
    refine k _ (bk_sub hS4 rfl rfl) ?_ (by simp only [put_size]; exact hsz) (by simp only [put_defers'])
    rw [getD_put_ne (by decide), getD_put_ne (by decide), getD_put_ne (by decide), getD_put_ne (by decide)]
theorem bk_cond {r : List Oper} {n : Int} (h1 : r.map (vw P) = [(some 7, none, some (.mv (.t 3))), (some 8, none, some (.bin .geq (.t 7) (.k (.c (.int .i64 0)))))])
    (hr : Reads ψ ⟨nx, K.blks⟩ W) (hf : ψ nx = none) (hS : SOk ψ (bkL i n) a []) (hsz : a.tmps.size = 19)
    (k : ∀ a', SOk ψ (bkL i n) a' [] → a'.eval (.tmp 8) = .bool (decide (n ≥ 0)) → a'.tmps.getD 0 undef = a.tmps.getD 0 undef → a'.tmps.size = 19 → a'.defers = a.defers → Q .normal a' W) : wpListIn F 0 P ops Q r a W := by
  have hl := bk_l4 h1
  simp only [List.length_cons, List.length_nil, Nat.zero_add, Nat.reduceAdd] at hl
  obtain ⟨o1, o2, rfl⟩ := len_2 hl
  · skip
    simp only [List.map_cons, List.map_nil, List.cons.injEq, and_true] at h1
    obtain ⟨v1, v2⟩ := h1
    refine one_read v1 hS hr hf (v := .c (.int .i64 n)) (need := none) rfl trivial (by omega) fun x1 hS1 _ => ?_
    refine one_read v2 hS1 hr hf (v := .c (.bool (decide (n ≥ 0)))) (need := none) rfl trivial (by rw [put_size]; omega) fun x2 hS2 hx2 => ?_
    refine k _ (bk_sub hS2 rfl rfl) ?_ ?_ (by simp only [put_size]; exact hsz) (by simp only [put_defers'])
    · show ((a.put (some 7) x1).put (some 8) x2).tmps.getD 8 undef = _
      rw [getD_put_self (by rw [put_size]; omega)]
      exact hx2
    · rw [getD_put_ne (by decide), getD_put_ne (by decide)]
theorem bk_next {r : List Oper} {m : Nat} (h2 : r.map (vw P) = [(some 9, none, some (.mv (.t 3))), (some 10, none, some (.bin .sub (.t 9) (.k (.c (.int .i64 1))))), (some 3, none, some (.mv (.t 10)))]) (hm : (m : Int) ≤ 140737488355328)
    (hr : Reads ψ ⟨nx, K.blks⟩ W) (hf : ψ nx = none) (hS : SOk ψ (bkL i m) a []) (hsz : a.tmps.size = 19)
    (k : ∀ a', SOk ψ (bkL i ((m : Int) - 1)) a' [] → a'.tmps.getD 0 undef = a.tmps.getD 0 undef → a'.tmps.size = 19 → a'.defers = a.defers → Q .normal a' W) : wpListIn F 0 P ops Q r a W := by
  have hl := bk_l4 h2
  simp only [List.length_cons, List.length_nil, Nat.zero_add, Nat.reduceAdd] at hl
  obtain ⟨o1, o2, o3, rfl⟩ := len_3 hl
  · skip
    simp only [List.map_cons, List.map_nil, List.cons.injEq, and_true] at h2
    obtain ⟨v1, v2, v3⟩ := h2
    refine one_read v1 hS hr hf (v := .c (.int .i64 m)) (need := none) rfl trivial (by omega) fun x1 hS1 _ => ?_
    refine one_read v2 hS1 hr hf (v := .c (.int .i64 ((m : Int) - 1))) (need := none) ?_ trivial (by simp only [put_size]; omega) fun x3 hS3 _ => ?_
    · simp only [aop, St.get, slotAt, Nat.beq, sfx, eqP, bin, isShift, sameK, arith, wr1 m (by omega) (by omega)]
    refine one_read v3 hS3 hr hf (v := .c (.int .i64 ((m : Int) - 1))) (need := none) rfl trivial (by simp only [put_size]; omega) fun x4 hS4 _ => ?_
    refine k _ (bk_sub hS4 rfl rfl) ?_ (by simp only [put_size]; exact hsz) (by simp only [put_defers'])
    rw [getD_put_ne (by decide), getD_put_ne (by decide), getD_put_ne (by decide)]
theorem bk_not {l : List Slot} {bb : Bool} {o : Oper} (hv : vw P o = (some 18, none, some (.un .not (.t 17)))) (hr : Reads ψ ⟨nx, K.blks⟩ W) (hf : ψ nx = none) (hS : SOk ψ (⟨17, [], .c (.bool bb)⟩ :: l) a []) (hsz : a.tmps.size = 19)
    (k : ∀ a', SOk ψ (⟨18, [], .c (.bool (!bb))⟩ :: ⟨17, [], .c (.bool bb)⟩ :: l) a' [] → a'.eval (.tmp 18) = .bool (!bb) → a'.tmps.getD 0 undef = a.tmps.getD 0 undef → a'.tmps.size = 19 → a'.defers = a.defers → Q .normal a' W) : wpListIn F 0 P ops Q [o] a W := by
  refine one_read hv hS hr hf (v := .c (.bool (!bb))) (need := none) rfl trivial (by omega) fun x1 hS1 hx => ?_
  refine k _ hS1 ?_ ?_ (by simp only [put_size]; exact hsz) (by simp only [put_defers'])
  · show (a.put (some 18) x1).tmps.getD 18 undef = _
    rw [getD_put_self (by omega)]
    exact hx
  · rw [getD_put_ne (by decide)]
theorem bk_re {ψ' : Emb} {k : Int} {y0 : Value} (hS : SOk ψ (bkL i k) a []) (h1 : φ.le ψ) (h2 : φ.le ψ') (hy : relP φ ⟨i, 0, 0, 0⟩ y0) : SOk ψ' (bkL i k) a [] := by
  intro n sl hs
  have hk := hS n sl hs
  refine ⟨hk.num, fun hc => ?_, hk.off, hk.path, hk.keys⟩
  have h := hk.on hc
  unfold bkL at hs
  by_cases hn : n = 3
  · subst hn; rw [slotAt_cons_self] at hs; cases hs; exact h
  · rw [slotAt_cons_ne hn] at hs
    by_cases hn : n = 1
    · subst hn
      rw [slotAt_cons_self] at hs
      cases hs
      obtain ⟨p, hp, e⟩ := h
      obtain ⟨q, hq, _⟩ := hy
      have := h1 i q hq
      rw [hp] at this
      cases this
      exact ⟨p, h2 i p hq, e⟩
    · rw [slotAt_cons_ne hn] at hs; cases hs
theorem bk_call {k : Nat} {el : AOp} {r : List Oper} {m lo : Nat} {E : Nat → AV}
    (h3 : r.map (vw P) = [(some 11, none, some (.mv (.t 0))), (some 12, none, some (.mv (.t 3))), (some 13, none, some (.ld1 (.t 1))), (some 14, none, some (.mv (.t 3))), (some 15, none, some (.iaddr k (.t 13) (.t 14))), (some 16, none, some el),
      (some 17, none, some (.call (.t 11) [.t 12, .t 16])), (some 18, none, some (.un .not (.t 17)))])
    (hmM : m < M) (hbox : ld1 ⟨nx, K.blks⟩ ⟨i, 0, 0, 0⟩ = .p need (.c (.slice ⟨j, b, 0, 0⟩ false M)) none) (hneed : needP need) (hstr : strOk ⟨nx, K.blks⟩ k ⟨j, b, 0, 0⟩ false = true)
    (hel : ∀ l, slotAt l 15 = some ⟨15, [], .c (.ptr ⟨j, addN b m, 0, 0⟩)⟩ → ∃ nd, needP nd ∧ aop ⟨l, ⟨nx, K.blks⟩⟩ [] el = .p nd (E m) none)
    (hr : Reads ψ ⟨nx, K.blks⟩ W) (hf : ψ nx = none) (hS : SOk ψ (bkL i m) a []) (hsz : a.tmps.size = 19) (hY : a.tmps.getD 0 undef = .func (.yield lo) #[] #[])
    (kk : ∀ a' (o7 o8 : Oper) vs, SOk ψ (bkL i m) a' [] → F2 (relA ψ) [.c (.int .i64 (m : Int)), E m] vs.toList → o7.dst = some 17 → vw P o8 = (some 18, none, some (.un .not (.t 17))) → a'.tmps.getD 0 undef = a.tmps.getD 0 undef → a'.tmps.size = 19 → a'.defers = a.defers →
      o7.uponIn F 0 P a' (wpListIn F 0 P ops Q [o8]) Q ((Instr.yield lo vs).run P W)) : wpListIn F 0 P ops Q r a W := by
  have hl := bk_l4 h3
  simp only [List.length_cons, List.length_nil, Nat.zero_add, Nat.reduceAdd] at hl
  obtain ⟨o1, o2, o3, o4, o5, o6, o7, o8, rfl⟩ := len_8 hl
  · skip
    simp only [List.map_cons, List.map_nil, List.cons.injEq, and_true] at h3
    obtain ⟨v1, v2, v3, v4, v5, v6, v7, v8⟩ := h3
    unfold bkL at hS
    refine one_mv v1 hS (by omega) fun hS3 => ?_
    rw [hY] at hS3 ⊢
    refine one_read v2 hS3 hr hf (v := .c (.int .i64 (m : Int))) (need := none) rfl trivial (by rw [put_size]; omega) fun x2 hS4 _ => ?_
    refine one_read v3 hS4 hr hf (v := .c (.slice ⟨j, b, 0, 0⟩ false M)) (need := need) hbox hneed (by simp only [put_size]; omega) fun x3 hS5 _ => ?_
    refine one_read v4 hS5 hr hf (v := .c (.int .i64 (m : Int))) (need := none) rfl trivial (by simp only [put_size]; omega) fun x4 hS6 _ => ?_
    refine one_read v5 hS6 hr hf (v := .c (.ptr ⟨j, addN b m, 0, 0⟩)) (need := some (0 ≤ (m : Int) ∧ (m : Int) < (M : Int))) ?_ (show _ ∧ _ by omega) (by simp only [put_size]; omega) fun x5 hS7 _ => ?_
    · simp only [aop, St.get, slotAt, Nat.beq, sfx, eqP, hstr, plusA, Int.toNat_natCast]
    obtain ⟨nd, hnd, hea⟩ := hel _ (slotAt_cons_self _ 15 [] _)
    refine one_read v6 hS7 hr hf hea hnd (by simp only [put_size]; omega) fun x6 hS8 _ => ?_
    have hY8 : ((((((a.put (some 11) (.func (.yield lo) #[] #[])).put (some 12) x2).put (some 13) x3).put (some 14) x4).put (some 15) x5).put (some 16) x6).tmps.getD 11 undef = .func (.yield lo) #[] #[] := by
      rw [getD_put_ne (by decide), getD_put_ne (by decide), getD_put_ne (by decide), getD_put_ne (by decide), getD_put_ne (by decide)]
      exact getD_put_self (by omega)
    have hS9 := bk_sub (i := i) (k := (m : Int)) hS8 rfl rfl
    simp only [vw, Prod.mk.injEq] at v7
    obtain ⟨w1, w2, w3⟩ := v7
    simp only [wpListIn]
    rw [if_pos (by simp [Region.wanted, w2])]
    refine wp_op w3 ?_
    obtain ⟨vs, hvs, hrun⟩ := yield_inv w3 hY8 (gets_of (H := ⟨nx, K.blks⟩) hS8.toE (π := []) trivial trivial)
    rw [hrun W]
    refine kk _ o7 o8 vs hS9 hvs w1 v8 ?_ (by simp only [put_size]; exact hsz) (by simp only [put_defers'])
    rw [getD_put_ne (by decide), getD_put_ne (by decide), getD_put_ne (by decide), getD_put_ne (by decide), getD_put_ne (by decide), getD_put_ne (by decide)]
end

theorem iter_back {gf : FuncId} {fn : Func} (hf : P.funcs[gf]? = some fn) (hname : (fn.name == "runtime.NumGoroutine") = false) {i0 i1 i2 i3 b0 b1 : Nat} {r0 r1 r2 r3 : Array Oper}
    (hb : fn.body = some (.seq (.region i0 r0 false) (.block b0 (.loop (.seq (.seq (.region i1 r1 false) (.cond (.tmp 8) .skip (.exit b0))) (.seq (.block b1 (.seq (.region i3 r3 false) (.cond (.tmp 18) .ret .skip))) (.region i2 r2 false)))))))
    (hres : fn.results = #[]) (hnt : fn.ntmps = 19) {k : Nat} {el : AOp}
    (h0 : r0.toList.map (vw P) = [(some 4, none, some (.ld1 (.t 1))), (some 5, none, some (.len false (.t 4))), (some 6, none, some (.bin .sub (.t 5) (.k (.c (.int .i64 1))))), (some 3, none, some (.mv (.t 6)))])
    (h1 : r1.toList.map (vw P) = [(some 7, none, some (.mv (.t 3))), (some 8, none, some (.bin .geq (.t 7) (.k (.c (.int .i64 0)))))])
    (h2 : r2.toList.map (vw P) = [(some 9, none, some (.mv (.t 3))), (some 10, none, some (.bin .sub (.t 9) (.k (.c (.int .i64 1))))), (some 3, none, some (.mv (.t 10)))])
    (h3 : r3.toList.map (vw P) = [(some 11, none, some (.mv (.t 0))), (some 12, none, some (.mv (.t 3))), (some 13, none, some (.ld1 (.t 1))), (some 14, none, some (.mv (.t 3))), (some 15, none, some (.iaddr k (.t 13) (.t 14))), (some 16, none, some el),
      (some 17, none, some (.call (.t 11) [.t 12, .t 16])), (some 18, none, some (.un .not (.t 17)))])
    {K : Heap} {i j b M : Nat} {need : Option Prop} (hM : M ≤ 140737488355328) (hbox : ∀ n, ld1 ⟨n, K.blks⟩ ⟨i, 0, 0, 0⟩ = .p need (.c (.slice ⟨j, b, 0, 0⟩ false M)) none) (hneed : needP need) (hstr : ∀ n, strOk ⟨n, K.blks⟩ k ⟨j, b, 0, 0⟩ false = true)
    {E : Nat → AV} (hel : ∀ l n m, m < M → slotAt l 15 = some ⟨15, [], .c (.ptr ⟨j, addN b m, 0, 0⟩)⟩ → ∃ nd, needP nd ∧ aop ⟨l, ⟨n, K.blks⟩⟩ [] el = .p nd (E m) none) :
    IterC P gf [⟨i, 0, 0, 0⟩] K M (fun t => [.c (.int .i64 ((M : Int) - 1 - t)), E (M - 1 - t)]) := by
  intro φ w lb lo hlb
  obtain ⟨y0, lr, hlb', hx0, hlr⟩ := hlb.cons_left
  have := hlr.nil_left
  subst this
  have hlb2 : lb = #[y0] := by cases lb with | mk l => simp only at hlb'; rw [hlb']
  subst hlb2
  refine ⟨⟨fn, hf, hname, by simp [hb]⟩, fun J Jx hJ hround ψ0 hJ0 => ?_⟩
  refine callsIn_of_wp hf hb trivial ?_
  -- what the loop keeps
  let I : Nat → Act → World → Prop := fun n a W => ∃ ψ, n ≤ M ∧ J (M - n) ψ W ∧ SOk ψ (bkL i ((n : Int) - 1)) a [] ∧ a.tmps.getD 0 undef = .func (.yield lo) #[] #[] ∧ a.tmps.size = 19 ∧ a.defers = []
  let Q : Exit → Act → World → Prop := fun e a W => (e = .normal ∨ e = .ret) ∧ a.defers = [] ∧ ((∃ ψ, J M ψ W) ∨ Jx W)
  have reads : ∀ {jj ψ W}, J jj ψ W → ∃ n, Reads ψ ⟨n, K.blks⟩ W ∧ ψ n = none := fun {jj ψ W} hj => by
    obtain ⟨_, ⟨n, hn⟩, hr⟩ := hJ jj ψ W hj
    refine ⟨n, fun i B p hB hp => ?_, hn⟩
    obtain ⟨g1, g2⟩ := hr i B hB
    exact g2 p (by rw [← g1]; exact hp)
  have start : ∀ a0 : Act, SOk ψ0 [⟨1, [], .c (.ptr ⟨i, 0, 0, 0⟩)⟩] a0 [] → a0.tmps.getD 0 undef = .func (.yield lo) #[] #[] → a0.tmps.size = 19 → a0.defers = [] →
      (Code.seq (.region i0 r0 false) (.block b0 (.loop (.seq (.seq (.region i1 r1 false) (.cond (.tmp 8) .skip (.exit b0))) (.seq (.block b1 (.seq (.region i3 r3 false) (.cond (.tmp 18) .ret .skip))) (.region i2 r2 false)))))).wpIn Fence.wide 0 P Q a0 w := by
    intro a0 hS0 hY0 hsz0 hd0
    obtain ⟨n0, hr0, hf0⟩ := reads hJ0
    refine wpIn_seq (wpIn_region_list (bk_head h0 hM (hbox n0) hneed hr0 hf0 hS0 hsz0 fun a1 hS1 hY1 hsz1 hd1 => ?_))
    refine wpIn_block ?_
    refine wpIn_loop_ghost' I M ⟨ψ0, Nat.le_refl _, by rw [Nat.sub_self]; exact hJ0, hS1, hY1.trans hY0, hsz1, hd1.trans hd0⟩ ?_
    clear hS0 hS1 hd0 hY0 hsz0 hf0 hr0 hd1 hY1 hsz1
    rintro n a W ⟨ψ, hn, hj, hS, hYa, hsz, hd⟩
    obtain ⟨nx, hr, hfr⟩ := reads hj
    refine wpIn_seq (wpIn_seq (wpIn_region_list (bk_cond h1 hr hfr hS hsz fun a2 hS2 hev hY2 hsz2 hd2 => ?_)))
    by_cases hn0 : n = 0
    · refine wpIn_cond_false (by rw [hev]; simp [hn0]) (wpIn_exit ?_)
      show Exit.inBlock b0 Q (.exit b0) _ _
      simp only [Exit.inBlock, if_true]
      exact ⟨.inl rfl, hd2.trans hd, .inl ⟨ψ, by rw [hn0, Nat.sub_zero] at hj; exact hj⟩⟩
    obtain ⟨m, rfl⟩ : ∃ m, n = m + 1 := ⟨n - 1, by omega⟩
    have hm1 : ((m + 1 : Nat) : Int) - 1 = (m : Int) := by omega
    rw [hm1] at hS2 hev
    refine wpIn_cond_true (by rw [hev]; simp) (wpIn_skip ?_)
    refine wpIn_seq (wpIn_block (wpIn_seq (wpIn_region_list (bk_call (m := m) h3 (by omega) (hbox nx) hneed (hstr nx) (fun l => hel l nx m (by omega)) hr hfr hS2 hsz2 (hY2.trans hYa) fun a3 o7 o8 vs hS3 hvs h7 h8 hY3 hsz3 hd3 => ?_))))
    have hidx : M - 1 - (M - (m + 1)) = m := by omega
    obtain ⟨fn', tm, as', bd, hy, hRd⟩ := hround (M - (m + 1)) ψ W (by omega) hj vs (by
      show F2 (relA ψ) [.c (.int .i64 ((M : Int) - 1 - ((M - (m + 1) : Nat) : Int))), E (M - 1 - (M - (m + 1)))] vs.toList
      rw [hidx, show ((M : Int) - 1 - ((M - (m + 1) : Nat) : Int)) = (m : Int) by omega]
      exact hvs)
    rw [hy, Oper.uponIn_round]
    refine ⟨fun hd => (by cases hd), hRd.mono fun e W' hq => ?_⟩
    rcases hq with ⟨rfl, ψ', hj'⟩ | ⟨rfl, hjx⟩
    · -- go on
      show wpListIn Fence.wide 0 P r3 _ [o8] (a3.put o7.dst (.bool true)) W'
      rw [h7]
      have hS4 := sok_put (x := .bool true) (v := .c (.bool true)) (d := 17) (N := 19) ψ'.le_refl (bk_re hS3 (hJ _ _ _ hj).1 (hJ _ _ _ hj').1 hx0) (fun _ h => h) (by decide) hsz3 (by simp) (π := []) trivial (fun e he => by cases he) (fun _ => rfl) (fun hc => absurd trivial hc)
      obtain ⟨nx', hr', hfr'⟩ := reads hj'
      refine bk_not h8 hr' hfr' hS4 (by rw [put_size]; exact hsz3) fun a5 hS5 hev5 hY5 hsz5 hd5 => ?_
      have hS6 := bk_sub (i := i) (k := (m : Int)) hS5 rfl rfl
      refine wpIn_cond_false (by rw [hev5]; rfl) (wpIn_skip ?_)
      refine wpIn_region_list (bk_next h2 (by omega) hr' hfr' hS6 hsz5 fun a6 hS6 hY6 hsz6 hd6 => ?_)
      refine ⟨m, by omega, ψ', by omega, by rw [show M - m = M - (m + 1) + 1 by omega]; exact hj', hS6, ?_, hsz6, ?_⟩
      · rw [hY6, hY5, getD_put_ne (by decide), hY3, hY2, hYa]
      · rw [hd6, hd5, put_defers', hd3, hd2, hd]
    · show wpListIn Fence.wide 0 P r3 _ [o8] (a3.put o7.dst (.bool false)) W'
      rw [h7]
      have hS4 : SOk (fun _ => none) (⟨17, [], .c (.bool false)⟩ :: []) (a3.put (some 17) (.bool false)) [] := sok_put (Emb.le_refl _) (fun n sl hs => by cases hs) (fun _ h => h) (N := 19) (by decide) hsz3 (by simp) (π := []) trivial (fun e he => by cases he) (fun _ => rfl) (fun hc => absurd trivial hc)
      refine bk_not (K := ⟨0, []⟩) (nx := 0) h8 (fun i B p hB => by simp [getB] at hB) rfl hS4 (by rw [put_size]; exact hsz3) fun a5 hS5 hev5 hY5 hsz5 hd5 => ?_
      refine wpIn_cond_true (by rw [hev5]; rfl) (wpIn_ret ?_)
      exact ⟨.inr rfl, by rw [hd5, put_defers', hd3, hd2, hd], .inr hjx⟩
  refine wpIn_mono (start _ ?_ ?_ ?_ rfl) fun e a W hq => ?_
  · intro n sl hs
    by_cases hn : n = 1
    · subst hn
      rw [slotAt_cons_self] at hs
      cases hs
      refine ⟨rfl, fun _ => ?_, fun hc => absurd trivial hc, trivial, fun e he => by cases he⟩
      have hx : (((#[(.func (.yield lo) #[] #[] : Value)] ++ #[y0]) ++ Array.replicate (fn.ntmps - (#[(.func (.yield lo) #[] #[] : Value)] ++ #[y0]).size) undef)).getD 1 undef = y0 := by simp [hnt]
      rw [hx]
      exact relP_mono (hJ 0 ψ0 w hJ0).1 hx0
    · rw [slotAt_cons_ne hn] at hs; cases hs
  · simp [hnt]
  · simp [hnt]
  · obtain ⟨he, hd, hq⟩ := hq
    have fin : a.defers = [] ∧ ∃ v, (results fn a.tmps).run P W = .ok v W ∧ ((∃ v', Ending.returned v = .returned v') ∧ ((∃ ψ', J M ψ' W) ∨ Jx W)) := by
      refine ⟨hd, .tuple #[], ?_, ⟨_, rfl⟩, hq⟩
      unfold results
      rw [hres]
      simp [go_sem]
    rcases he with rfl | rfl <;> exact fin

end Go.AM

