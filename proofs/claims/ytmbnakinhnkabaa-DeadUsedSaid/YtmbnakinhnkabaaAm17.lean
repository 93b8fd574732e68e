/- AM: code and functions. -/
import Derived.Test.YtmbnakinhnkabaaAm16
import Derived.Deep.LoopGhost
namespace Go.AM
set_option linter.unusedVariables false
set_option linter.unusedSectionVars false
set_option linter.unusedSimpArgs false
variable {P : Program} {φ : Emb} {w : World}

theorem slotAt_shed : ∀ (l : List Slot) (n : Nat) (sl : Slot), slotAt (shed l) n = some sl → sl.path = [] ∧ (sl.v = .bot ∨ slotAt l n = some sl)
  | [], n, sl, h => by simp [shed, slotAt] at h
  | ⟨k, [], v⟩ :: r, n, sl, h => by
    simp only [shed] at h
    by_cases hn : n = k
    · subst hn; rw [slotAt_cons_self] at h; cases h; exact ⟨rfl, .inr (slotAt_cons_self _ _ _ _)⟩
    · rw [slotAt_cons_ne hn] at h ⊢; exact slotAt_shed r n sl h
  | ⟨k, e :: p, v⟩ :: r, n, sl, h => by
    simp only [shed] at h
    by_cases hn : n = k
    · subst hn; rw [slotAt_cons_self] at h; cases h; exact ⟨rfl, .inl rfl⟩
    · rw [slotAt_cons_ne hn] at h ⊢; exact slotAt_shed r n sl h

theorem Inv.shed {φ₀ : Emb} {H₀ : Heap} {w₀ : World} {N : Env} {s : St} {a : Act} {K : List Nat} (h : Inv φ₀ H₀ w₀ N φ s a w K) : Inv φ₀ H₀ w₀ N φ ⟨shed s.tmps, s.heap⟩ a w [] := by
  refine ⟨fun n sl hs => ?_, h.heap, h.fr, h.defers, h.size, h.oth⟩
  obtain ⟨h1, h2⟩ := slotAt_shed _ _ _ hs
  obtain ⟨k, p, v⟩ := sl
  simp only at h1
  subst h1
  have hn : k = n := slotAt_num _ _ _ hs
  refine ⟨hn, fun hc => ?_, fun hc => absurd trivial hc, trivial, fun e he => by cases he⟩
  rcases h2 with h2 | h2
  · simp only at h2; subst h2; trivial
  · exact (h.sok n _ h2).on hc

def exOf : AEx → Exit
  | .normal => .normal
  | .exit id => .exit id
  | .ret => .ret

/-- What the abstract end says of the model's. -/
def Real (φ₀ : Emb) (H₀ : Heap) (w₀ : World) (N : Env) (Q : AEx → St → Prop) : Exit → Act → World → Prop := fun e a w => ∃ ae φ s, exOf ae = e ∧ Q ae s ∧ Inv φ₀ H₀ w₀ N φ s a w []

theorem corr_all (N : Nat) (ops : Array Oper) (draw : Bool) : F2 (Corr P N ops) ops.toList (ops.toList.zipIdx.map fun (o, i) => stripOper P N ops draw i o) := by
  have : ∀ (l : List Oper) (k : Nat), F2 (Corr P N ops) l ((l.zipIdx k).map fun (o, i) => stripOper P N ops draw i o) := by
    intro l
    induction l with
    | nil => intro k; exact .nil
    | cons o r ih => intro k; exact .cons (corr_strip P N ops draw k o) (ih (k + 1))
  exact this _ 0

/-! ### Objects that are no cells -/
def noCells (o : Obj) : Prop := ∀ cs t x, o ≠ .cells cs t x
theorem cell_noCells {W : World} {L : Nat} {o : Obj} (hL : W.heap[L]? = some o) (ho : noCells o) {a : Addr} (ha : a.block = L) : W.cell? a = none := by
  unfold World.cell?
  rw [ha, hL]
  cases o <;> first | rfl | exact absurd rfl (ho _ _ _)
theorem BRel.putObj {B : Blk} {p : Place} (h : BRel φ B p w) {L : Nat} {o : Obj} (hL : w.heap[L]? = some o) (ho : noCells o) (o' : Obj) : BRel φ B p (w.putObj L o') := by
  refine ⟨h.str, fun i hi => ?_, fun hw => ?_⟩
  · obtain ⟨xs, a, b, c⟩ := h.rows i hi
    refine ⟨xs, a, b, fun j x hx => ?_⟩
    have hc := c j x hx
    by_cases hp : p.blk = L
    · rw [cell_noCells hL ho hp] at hc; cases hc
    · unfold World.cell? at hc ⊢
      rw [World.putObj_heap_other hp]
      exact hc
  · obtain ⟨e1, e2, e3, cs, e4, e5⟩ := h.own hw
    refine ⟨e1, e2, e3, cs, ?_, e5⟩
    have hp : p.blk ≠ L := fun e => by rw [e, hL] at e4; cases e4; exact ho _ _ _ rfl
    rw [World.putObj_heap_other hp]
    exact e4
theorem HRel.putObj {H : Heap} (h : HRel φ H w) {L : Nat} {o : Obj} (hL : w.heap[L]? = some o) (ho : noCells o) (o' : Obj) : HRel φ H (w.putObj L o') :=
  ⟨fun i B p hB hp => (h.blk i B p hB hp).putObj hL ho o', h.inj, h.fresh, fun i p hp => by rw [World.putObj_size]; exact h.lt i p hp⟩
theorem Fr.putObj {φ₀ : Emb} {H₀ H : Heap} {w₀ : World} (h : Fr φ₀ H₀ w₀ φ H w) {L : Nat} (hL : w₀.heap.size ≤ L) (o' : Obj) : Fr φ₀ H₀ w₀ φ H (w.putObj L o') :=
  ⟨h.le, h.same, h.nx, by rw [World.putObj_size]; exact h.size, h.os, h.tape, h.output, fun b hb hno => by rw [World.putObj_heap_other (by omega)]; exact h.old b hb hno, h.own⟩
theorem Marks.putObj {n : Nat} {L : Nat} : ∀ {l : List Deferred}, Marks n w l → (∀ D, (∃ d ∈ l, d.target = .collected D) → D ≠ L) → ∀ o', Marks n (w.putObj L o') l
  | [], _, _, _ => trivial
  | d :: r, ⟨⟨D, e, hn, hD, hne⟩, hr⟩, hL, o' =>
    ⟨⟨D, e, hn, by rw [World.putObj_heap_other (hL D ⟨d, by simp, by rw [e]⟩)]; exact hD, hne⟩, hr.putObj (fun D h => hL D (by obtain ⟨d, h1, h2⟩ := h; exact ⟨d, List.mem_cons_of_mem _ h1, h2⟩)) o'⟩
theorem Marks.get {n : Nat} : ∀ {l : List Deferred}, Marks n w l → ∀ {D}, (∃ d ∈ l, d.target = .collected D) → n ≤ D ∧ w.heap[D]? = some (.deferred (some []))
  | [], _, D, h => by obtain ⟨d, h, _⟩ := h; cases h
  | d :: r, ⟨⟨D, e, hn, hD, hne⟩, hr⟩, D', h => by
    obtain ⟨d', h1, h2⟩ := h
    cases h1 with
    | head => rw [e] at h2; cases h2; exact ⟨hn, hD⟩
    | tail _ h1 => exact hr.get ⟨d', h1, h2⟩

theorem wpIn_loop_ghost' {F : Fence} {n : Nat} {Q : Exit → Act → World → Prop} {a : Act} {c : Code} (I : Nat → Act → World → Prop) (n₀ : Nat) (h₀ : I n₀ a w)
    (round : ∀ k a w, I k a w → c.wpIn F n P (Exit.then (fun a' w' => ∃ n', n' < k ∧ I n' a' w') Q) a w) : (Code.loop c).wpIn F n P Q a w := by
  refine wpIn_loop (fun a w => ∃ n, I n a w) (fun a w => leastOf (fun n => I n a w)) ⟨n₀, h₀⟩ fun a w hI => ?_
  refine wpIn_mono (round _ a w (leastOf_spec hI).1) fun e a' w' hq => ?_
  cases e with
  | normal =>
    obtain ⟨n', hlt, hI'⟩ := hq
    exact show (∃ n, I n a' w') ∧ leastOf (fun n => I n a' w') < leastOf (fun n => I n a w) from ⟨⟨n', hI'⟩, Nat.lt_of_le_of_lt ((leastOf_spec ⟨n', hI'⟩).2 n' hI') hlt⟩
  | exit id => exact hq
  | goto l => exact hq
  | ret => exact hq
  | panic ch => exact hq
  | outgrown => exact hq

/-- The parameters of a round. -/
theorem putL_sok {a : Act} {N : Nat} (hsz : a.tmps.size = N) : ∀ (ps : List Nat) (xs : List AV) (vs : List Value) (l : List Slot) (tm : Array Value), xs.length = ps.length → F2 (relA φ) xs vs → ps.all (· < N) = true → tm.size = N → SOk φ l ⟨tm, []⟩ [] →
    SOk φ (putL ps xs l) ⟨(ps.zip vs).foldl (fun t (p, v) => t.setIfInBounds p v) tm, []⟩ [] ∧ ((ps.zip vs).foldl (fun t (p, v) => t.setIfInBounds p v) tm).size = N
  | [], [], _, l, tm, _, .nil, _, ht, h => ⟨h, ht⟩
  | p :: ps, x :: xs, _, l, tm, hl, .cons (b := v) (m := vs) hx hr, hp, ht, h => by
    simp only [List.all_cons, Bool.and_eq_true, decide_eq_true_eq] at hp
    simp only [putL, List.zip_cons_cons, List.foldl_cons]
    refine putL_sok hsz ps xs vs _ _ (by simpa using hl) hr hp.2 (by simpa using ht) ?_
    have := sok_put (a := ⟨tm, []⟩) (φ.le_refl) h (fun _ h => h) hp.1 ht (by simp) (π := []) (v := x) (x := v) trivial (fun e he => by cases he) (fun _ => hx) (fun hc => absurd trivial hc)
    exact this

theorem noRange_seq {a b : Code} {F : Fence} (h : F.round = none ∨ noRange (.seq a b) = true) : (F.round = none ∨ noRange a = true) ∧ (F.round = none ∨ noRange b = true) := by
  rcases h with h | h
  · exact ⟨.inl h, .inl h⟩
  · simp only [noRange, Bool.and_eq_true] at h; exact ⟨.inr h.1, .inr h.2⟩

set_option maxHeartbeats 2000000 in
theorem awp_sound (hm : P.follows .mixedOrders = true) (c : Code) : ∀ {F : Fence} [Wide F] (hro : F.round = none ∨ noRange c = true) {φ₀ : Emb} {H₀ : Heap} {w₀ : World} {N : Env} {n0 : Nat} (hn0 : H₀.next ≤ n0) (hf0 : ∀ i, H₀.next ≤ i → φ₀ i = none) (s : St) (Q : AEx → St → Prop), awp (Con P) (LeS n0) (strip P N.n c) s Q →
    ∀ (φ : Emb) (a : Act) (w : World), Inv φ₀ H₀ w₀ N φ s a w [] → c.wpIn F 0 P (Real φ₀ H₀ w₀ N Q) a w := by
  induction c with
  | skip => intro F _ _ φ₀ H₀ w₀ N n0 hn0 hf0 s Q h φ a w hI; exact wpIn_skip ⟨.normal, φ, s, rfl, h, hI⟩
  | ret => intro F _ _ φ₀ H₀ w₀ N n0 hn0 hf0 s Q h φ a w hI; exact wpIn_ret ⟨.ret, φ, s, rfl, h, hI⟩
  | exit id => intro F _ _ φ₀ H₀ w₀ N n0 hn0 hf0 s Q h φ a w hI; exact wpIn_exit ⟨.exit id, φ, s, rfl, h, hI⟩
  | region id ops draw =>
    intro F _ _ φ₀ H₀ w₀ N n0 hn0 hf0 s Q h φ a w hI
    simp only [strip] at h
    split at h
    · rename_i hchk
      simp only [Bool.and_eq_true, Bool.or_eq_true, Bool.not_eq_true'] at hchk
      simp only [awp] at h
      have hQ : ∀ φ s a w K, Inv φ₀ H₀ w₀ N φ s a w K → (∃ s'', LeS n0 ⟨shed s.tmps, s.heap⟩ s'' ∧ Q .normal s'') → Real φ₀ H₀ w₀ N Q .normal a w := fun φ s a w K hI ⟨s'', hle, hq⟩ => by
        obtain ⟨φ', hI'⟩ := hle φ₀ H₀ w₀ N φ a w hn0 hf0 hI.shed
        exact ⟨.normal, φ', _, rfl, hq, hI'⟩
      cases draw with
      | false => exact wpIn_region_list (region_seq hQ _ _ (corr_all N.n ops false) hchk.1 φ s a w [] hI (fun d hd => by cases hd) h)
      | true =>
        refine region_draw hm hQ (corr_all N.n ops true) hchk.1 (hchk.2.resolve_left (by simp)) (fun i ao ha => ?_) hI (fun d hd => by cases hd) h
        simp only [List.getElem?_map, Option.map_eq_some_iff] at ha
        obtain ⟨⟨o, j⟩, hoj, rfl⟩ := ha
        rw [List.getElem?_zipIdx, Option.map_eq_some_iff] at hoj
        obtain ⟨o', h', e⟩ := hoj
        simp only [Prod.mk.injEq, Nat.zero_add] at e
        obtain ⟨rfl, rfl⟩ := e
        refine ⟨by simp [stripOper], fun o ho => ?_⟩
        have e : o' = o := by simp only [Array.getElem?_toList] at h'; rw [ho] at h'; cases h'; rfl
        subst e
        simp [stripOper]
    · exact h.elim
  | seq x y ihx ihy =>
    intro F _ hro φ₀ H₀ w₀ N n0 hn0 hf0 s Q h φ a w hI
    simp only [strip, awp] at h
    refine wpIn_seq (wpIn_mono (ihx (noRange_seq hro).1 hn0 hf0 s _ h φ a w hI) fun e a' w' hq => ?_)
    obtain ⟨ae, φ', s', rfl, hq, hI'⟩ := hq
    cases ae with
    | normal => exact ihy (noRange_seq hro).2 hn0 hf0 s' Q hq φ' a' w' hI'
    | exit id => exact ⟨.exit id, φ', s', rfl, hq, hI'⟩
    | ret => exact ⟨.ret, φ', s', rfl, hq, hI'⟩
  | cond c x y ihx ihy =>
    intro F _ hro φ₀ H₀ w₀ N n0 hn0 hf0 s Q h φ a w hI
    have hro' : (F.round = none ∨ noRange x = true) ∧ (F.round = none ∨ noRange y = true) := noRange_seq hro
    simp only [strip] at h
    split at h
    · rename_i co hco
      simp only [awp] at h
      have hg := (gets_of (H := s.heap) hI.sok.toE (π := []) trivial trivial).get c co hco
      split at h
      · rename_i b hb
        rw [hb] at hg
        have hev : a.eval c = .bool b := hg
        cases b with
        | true => exact wpIn_cond_true hev (ihx hro'.1 hn0 hf0 s Q h φ a w hI)
        | false => exact wpIn_cond_false hev (ihy hro'.2 hn0 hf0 s Q h φ a w hI)
      · exact h.elim
    · exact h.elim
  | block id b ih =>
    intro F _ hro φ₀ H₀ w₀ N n0 hn0 hf0 s Q h φ a w hI
    simp only [strip, awp] at h
    refine wpIn_block (wpIn_mono (ih hro hn0 hf0 s _ h φ a w hI) fun e a' w' hq => ?_)
    obtain ⟨ae, φ', s', rfl, hq, hI'⟩ := hq
    cases ae with
    | normal => exact ⟨.normal, φ', s', rfl, hq, hI'⟩
    | exit j =>
      simp only [exOf, Exit.inBlock]
      simp only at hq
      split at hq
      · rename_i hb
        rw [if_pos (Nat.eq_of_beq_eq_true hb)]
        exact ⟨.normal, φ', s', rfl, hq, hI'⟩
      · rename_i hb
        rw [if_neg (fun e => by rw [e, Nat.beq_refl] at hb; cases hb)]
        exact ⟨.exit j, φ', s', rfl, hq, hI'⟩
    | ret => exact ⟨.ret, φ', s', rfl, hq, hI'⟩
  | loop b ih =>
    intro F _ hro φ₀ H₀ w₀ N n0 hn0 hf0 s Q h φ a w hI
    simp only [strip, awp] at h
    obtain ⟨I, n, hI0, hround⟩ := h
    refine wpIn_loop_ghost' (fun n a w => ∃ φ s, I n s ∧ Inv φ₀ H₀ w₀ N φ s a w []) n ⟨φ, s, hI0, hI⟩ fun n a w hh => ?_
    obtain ⟨φ, s, hIn, hI⟩ := hh
    refine wpIn_mono (ih hro hn0 hf0 s _ (hround n s hIn) φ a w hI) fun e a' w' hq => ?_
    obtain ⟨ae, φ', s', rfl, hq, hI'⟩ := hq
    cases ae with
    | normal =>
      obtain ⟨n', s'', hlt, hle, hI''⟩ := hq
      obtain ⟨φ'', hI3⟩ := hle φ₀ H₀ w₀ N φ' a' w' hn0 hf0 hI'
      exact ⟨n', hlt, φ'', s'', hI'', hI3⟩
    | exit id => exact ⟨.exit id, φ', s', rfl, hq, hI'⟩
    | ret => exact ⟨.ret, φ', s', rfl, hq, hI'⟩
  | rangeFunc g ps x y ihx ihy =>
    intro F _ hro φ₀ H₀ w₀ N n0 hn0 hf0 s Q h φ a w hI
    have hro : F.round = none := hro.resolve_right (by simp [noRange])
    simp only [strip] at h
    split at h
    rotate_left
    · exact h.elim
    rename_i g' hg'
    split at h
    rotate_left
    · exact h.elim
    rename_i hck
    simp only [Bool.and_eq_true] at hck
    obtain ⟨hps, hnx, hny⟩ := hck
    simp only [awp] at h
    obtain ⟨gf, caps, K, M, X, I, hgv, hit, hlen, hI0, hsub, hrnd, hend⟩ := h
    have hgr := (gets_of (H := s.heap) hI.sok.toE (π := []) trivial trivial).get g g' hg'
    have hgv' : St.get ⟨s.tmps, s.heap⟩ [] g' = .c (.fn gf [] caps) := hgv
    rw [hgv'] at hgr
    obtain ⟨l', lb, hev, hl', hlb⟩ := hgr
    have hl0 : l' = #[] := by cases l' with | mk l' => cases hl'; rfl
    subst hl0
    refine wpIn_rangeFunc fun fn hfn => ?_
    rw [hro]
    obtain ⟨rec, hrec⟩ : ∃ rec : LoopState → Option Code → Loop, rec = fun st pe => { state := st, pending := pe, fn, tmps := a.tmps, params := ps, assign := x, body := y, defers := w.heap.size } := ⟨_, rfl⟩
    obtain ⟨W1, hW1⟩ : ∃ W1, (w.alloc (.deferred (some []))).alloc (.loop (rec .ready none)) = W1 := ⟨_, rfl⟩
    obtain ⟨L, hL⟩ : ∃ L, w.heap.size + 1 = L := ⟨_, rfl⟩
    have hL1 : W1.heap[L]? = some (.loop (rec .ready none)) := by
      rw [← hW1, ← hL]; have := World.alloc_heap_new (w.alloc (.deferred (some []))) (.loop (rec .ready none)); rwa [World.size_alloc] at this
    have hK1 : W1.heap[w.heap.size]? = some (.deferred (some [])) := by
      rw [← hW1]; exact (heap_alloc_lt _ _ (by simp)).trans (World.alloc_heap_new w _)
    have hlp : ∀ r, noCells (.loop r) := fun r _ _ _ e => by cases e
    have hdf : ∀ r, noCells (.deferred r) := fun r _ _ _ e => by cases e
    obtain ⟨hent, hseq⟩ := hit φ W1 lb L hlb
    obtain ⟨fn', q1, q2, q3⟩ := hent
    refine ⟨L, [{ target := .collected w.heap.size, args := #[] }], W1, { target := .fn (.func gf) lb, args := #[.func (.yield L) #[] #[]] }, W1, gf,
      #[.func (.yield L) #[] #[]] ++ lb, W1, ?_, ?_, fun f' _ => Wide.fn f', ?_, fun hd => (by rw [Wide.depth] at hd; cases hd), ?_⟩
    · rw [← hW1, hrec, ← hL]; exact run_enterLoop_outer _ _ _ _ _
    · simp only [resolve, hev]
      simp [go_sem]
    · simp only [invoke, Sem.run_bind, Sem.run_pure, Result.andThen_ok, callFunc, run_program, q1, q2, q3, Bool.false_eq_true, if_false]
    refine (Wide.calls.2 (Wide.calls.1 (hseq
      (fun j ψ W => ∃ H, I j H ∧ HRel ψ H W ∧ Fr φ s.heap w ψ H W ∧ W.heap[L]? = some (.loop (rec .ready none)) ∧ W.heap[w.heap.size]? = some (.deferred (some [])))
      (fun W => ∃ ae ψ H c, ((ae = .ret ∧ c = .ret) ∨ ∃ id, ae = .exit id ∧ c = .exit id) ∧ Q ae ⟨s.tmps, H⟩ ∧ HRel ψ H W ∧ Fr φ s.heap w ψ H W ∧ W.heap[L]? = some (.loop (rec .done (some c))) ∧ W.heap[w.heap.size]? = some (.deferred (some [])))
      ?_ ?_ φ ?_))).mono ?_
    · rintro j ψ W ⟨H, hIj, hH, hF, _⟩
      refine ⟨hF.le, ⟨H.next, hH.fresh _ (Nat.le_refl _)⟩, fun i B hB => ?_⟩
      obtain ⟨hlt, hwr, C, hC, c1, c2, c3, c4⟩ := hsub j H hIj i B hB
      refine ⟨hF.same i hlt, fun p hp => ?_⟩
      have hb := hH.blk i C p hC (hF.le i p hp)
      have hn : B.n = C.n := by unfold Blk.n; rw [c2]
      exact ⟨by rw [c1]; exact hb.str, fun i' hi' => by rw [c4, c1]; exact hb.rows i' (by rw [← hn]; exact hi'), fun e => by rw [hwr] at e; cases e⟩
    · -- a round
      rintro j ψ W hj ⟨H, hIj, hH, hF, hl, hk⟩ vs hvs
      have hvl : vs.size = ps.size := by
        have := hvs.length
        rw [hlen j] at this
        simpa using this.symm
      have hy := run_yield (P := P) (args := vs) hl (by rw [hrec]; exact hvl)
      rw [hrec] at hy
      refine ⟨fn, _, x, y, hy, roundIn_of_wpIn trivial ?_⟩
      have hsok := putL_sok (a := a) hI.size ps.toList (X j) vs.toList s.tmps a.tmps (hlen j) hvs hps hI.size (fun n sl hs => by
        have := hI.sok n sl hs
        exact ⟨this.num, fun hc => relA_mono hF.le (this.on hc), this.off, this.path, this.keys⟩)
      have hfold : ((ps.zip vs).foldl (fun t (p, v) => t.setIfInBounds p v) a.tmps) = ((ps.toList.zip vs.toList).foldl (fun t (p, v) => t.setIfInBounds p v) a.tmps) := by
        rw [← Array.foldl_toList, Array.toList_zip]
      have hInv : Inv φ s.heap w ⟨N.n, W⟩ ψ ⟨putL ps.toList (X j) s.tmps, H⟩ { tmps := (ps.zip vs).foldl (fun t (p, v) => t.setIfInBounds p v) a.tmps, defers := [] } W [] := by
        rw [hfold]
        exact ⟨hsok.1, hH, hF, trivial, hsok.2, Oth.refl _⟩
      refine wpIn_mono (ihx (F := Fence.wide.inRound L) (.inr hnx) (N := ⟨N.n, W⟩) (Nat.le_refl _) hI.heap.fresh _ _ (hrnd j H hj hIj) ψ _ W hInv) fun e a1 W2 hq => ?_
      obtain ⟨ae, φ1, s1, rfl, hq, hI1⟩ := hq
      cases ae with
      | exit id => exact hq.elim
      | ret => exact hq.elim
      | normal =>
      have hl2 : W2.heap[L]? = some (.loop (rec .ready none)) := hI1.oth.same _ _ hl (hlp _)
      have hk2 : W2.heap[w.heap.size]? = some (.deferred (some [])) := hI1.oth.same _ _ hk (hdf _)
      refine ⟨_, run_beginRound hl2 (by rw [hrec]), ?_⟩
      obtain ⟨W3, hW3⟩ : ∃ W3, W2.putObj L (.loop { rec .ready none with state := .busy }) = W3 := ⟨_, rfl⟩
      rw [hW3]
      have hl3 : W3.heap[L]? = some (.loop { rec .ready none with state := .busy }) := by rw [← hW3]; exact World.putObj_heap_same (Array.getElem?_eq_some_iff.1 hl2).1
      have hk3 : W3.heap[w.heap.size]? = some (.deferred (some [])) := by rw [← hW3, World.putObj_heap_other (by omega)]; exact hk2
      have hI3 : Inv φ s.heap w ⟨N.n, W3⟩ φ1 s1 a1 W3 [] := by
        rw [← hW3]
        exact ⟨hI1.sok, hI1.heap.putObj hl2 (hlp _) _, hI1.fr.putObj (by omega) _, hI1.defers.putObj (fun D hD e => by
          have := (hI1.defers.get hD).2
          rw [e, hl2] at this
          cases this) _, hI1.size, Oth.refl _⟩
      refine wpIn_mono (ihy (F := Fence.wide.inRound L) (.inr hny) (N := ⟨N.n, W3⟩) (Nat.le_refl _) hI.heap.fresh _ _ hq φ1 _ W3 hI3) fun e a4 W4 hq => ?_
      obtain ⟨ae, φ4, s4, rfl, hq, hI4⟩ := hq
      have hl4 : W4.heap[L]? = some (.loop { rec .ready none with state := .busy }) := hI4.oth.same _ _ hl3 (hlp _)
      have hk4 : W4.heap[w.heap.size]? = some (.deferred (some [])) := hI4.oth.same _ _ hk3 (hdf _)
      have fin : ∀ (jump : Option Code) (s5 : St), LeS s.heap.next s4 s5 → ∃ ψ, (Instr.endRound L jump).run P W4 = .ok (.bool jump.isNone) (W4.putObj L (.loop (rec (if jump.isNone then .ready else .done) jump))) ∧
          HRel ψ s5.heap (W4.putObj L (.loop (rec (if jump.isNone then .ready else .done) jump))) ∧ Fr φ s.heap w ψ s5.heap (W4.putObj L (.loop (rec (if jump.isNone then .ready else .done) jump))) ∧
          (W4.putObj L (.loop (rec (if jump.isNone then .ready else .done) jump))).heap[L]? = some (.loop (rec (if jump.isNone then .ready else .done) jump)) ∧
          (W4.putObj L (.loop (rec (if jump.isNone then .ready else .done) jump))).heap[w.heap.size]? = some (.deferred (some [])) := fun jump s5 hle => by
        obtain ⟨ψ, hI5⟩ := hle φ s.heap w _ φ4 a4 W4 (Nat.le_refl _) hI.heap.fresh hI4
        have hr := run_endRound (P := P) jump hl4
        rw [hrec] at hr
        refine ⟨ψ, by rw [hrec]; exact hr, hI5.heap.putObj hl4 (hlp _) _, hI5.fr.putObj (by omega) _, World.putObj_heap_same (Array.getElem?_eq_some_iff.1 hl4).1, ?_⟩
        rw [World.putObj_heap_other (by omega)]
        exact hk4
      cases ae with
      | normal =>
        obtain ⟨s5, hle, hI5⟩ := hq
        obtain ⟨ψ, hr, g1, g2, g3, g4⟩ := fin none s5 hle
        exact ⟨_, _, hr, .inl ⟨rfl, ψ, s5.heap, hI5, g1, g2, g3, g4⟩⟩
      | ret =>
        obtain ⟨s5, hle, hq⟩ := hq
        obtain ⟨ψ, hr, g1, g2, g3, g4⟩ := fin (some .ret) s5 hle
        exact ⟨_, _, hr, .inr ⟨rfl, .ret, ψ, s5.heap, .ret, .inl ⟨rfl, rfl⟩, hq, g1, g2, g3, g4⟩⟩
      | exit id =>
        obtain ⟨s5, hle, hq⟩ := hq
        obtain ⟨ψ, hr, g1, g2, g3, g4⟩ := fin (some (.exit id)) s5 hle
        exact ⟨_, _, hr, .inr ⟨rfl, .exit id, ψ, s5.heap, .exit id, .inr ⟨id, rfl, rfl⟩, hq, g1, g2, g3, g4⟩⟩
    · -- at the start
      obtain ⟨g1, g2⟩ := hI.heap.grown (w' := W1) (by rw [← hW1]; rfl) (by rw [← hW1]; rfl) (by rw [← hW1]; rfl) (by rw [← hW1]; simp; omega) (fun b hb => by
        rw [← hW1, heap_alloc_lt _ _ (by simp; omega), heap_alloc_lt _ _ hb]) (K := s.heap) (Nat.le_refl _) (fun _ _ h _ => h)
      exact ⟨s.heap, hI0, g1, g2, hL1, hK1⟩
    · -- behind it
      have done : ∀ ψ H W o, HRel ψ H W → Fr φ s.heap w ψ H W → W.heap[L]? = some (.loop o) → W.heap[w.heap.size]? = some (.deferred (some [])) → ∀ o', Inv φ₀ H₀ w₀ N ψ ⟨s.tmps, H⟩ { a with defers := [{ target := .collected w.heap.size, args := #[] }] ++ a.defers } (W.putObj L o') [] := fun ψ H W o hH hF hl hk o' => by
        have hF' := hF.putObj (show w.heap.size ≤ L by omega) o'
        have hO := Oth.of hI.heap hF'
        refine ⟨fun n sl hs => ?_, hH.putObj hl (hlp _) _, hI.fr.trans hF', ⟨⟨w.heap.size, rfl, hI.fr.size, by rw [World.putObj_heap_other (by omega)]; exact hk, fun e he ht => ?_⟩, hI.defers.keep hO⟩, hI.size, hI.oth.trans hO⟩
        · have := hI.sok n sl hs
          exact ⟨this.num, fun hc => relA_mono hF.le (this.on hc), this.off, this.path, this.keys⟩
        · have := (Array.getElem?_eq_some_iff.1 (hI.defers.get ⟨e, he, ht⟩).2).1
          omega
      rintro e W2 ⟨⟨v, rfl⟩, (⟨ψ, H, hIn, hH, hF, hl, hk⟩ | ⟨ae, ψ, H, c, hc, hq, hH, hF, hl, hk⟩)⟩
      · exact ⟨none, _, by have := run_endLoop (P := P) hl (by rw [hrec]; simp); rw [hrec] at this; exact this, .normal, ψ, _, rfl, hend H hIn, done ψ H W2 _ hH hF hl hk _⟩
      · refine ⟨some c, _, by have := run_endLoop (P := P) hl (by rw [hrec]; simp); rw [hrec] at this; exact this, ?_⟩
        have hd := done ψ H W2 _ hH hF hl hk
        rcases hc with ⟨rfl, rfl⟩ | ⟨id, rfl, rfl⟩
        · exact wpIn_ret ⟨.ret, ψ, _, rfl, hq, hd _⟩
        · exact wpIn_exit ⟨.exit id, ψ, _, rfl, hq, hd _⟩
  | scope b => intro F _ _ φ₀ H₀ w₀ N n0 hn0 hf0 s Q h; exact h.elim
  | label l => intro F _ _ φ₀ H₀ w₀ N n0 hn0 hf0 s Q h; exact h.elim
  | goto l => intro F _ _ φ₀ H₀ w₀ N n0 hn0 hf0 s Q h; exact h.elim
  | refuse y => intro F _ _ φ₀ H₀ w₀ N n0 hn0 hf0 s Q h; exact h.elim

/-! ### Functions -/
theorem initT_slot : ∀ (args : List AV) (xs : List Value) (k : Nat) (n : Nat) (sl : Slot), F2 (relA φ) args xs → slotAt (initT args k) n = some sl → sl.path = [] ∧ k ≤ n ∧ ∃ x, xs[n - k]? = some x ∧ relA φ sl.v x
  | [], xs, k, n, sl, h, hs => by simp [initT, slotAt] at hs
  | v :: r, xs, k, n, sl, h, hs => by
    obtain ⟨x, m, rfl, hx, hr⟩ := h.cons_left
    simp only [initT] at hs
    by_cases hn : n = k
    · subst hn
      rw [slotAt_cons_self] at hs
      cases hs
      exact ⟨rfl, Nat.le_refl _, x, by simp, hx⟩
    · rw [slotAt_cons_ne hn] at hs
      obtain ⟨h1, h2, y, hy, hyr⟩ := initT_slot r m (k + 1) n sl hr hs
      refine ⟨h1, by omega, y, ?_, hyr⟩
      rw [show n - k = (n - (k + 1)) + 1 by omega]
      simpa using hy

theorem resA_ok {φ₀ : Emb} {H₀ : Heap} {w₀ : World} {N : Env} {s : St} {a : Act} (hI : Inv φ₀ H₀ w₀ N φ s a w []) : ∀ (l : List ResultVar) (rs : List ARes) (vs : List AV), stripRes P l = some rs → resL s rs = some vs →
    ∃ xs : List Value, (l.mapM (fun r => match r with
      | ResultVar.tmp t => (pure (a.tmps.getD t undef) : Sem Value)
      | ResultVar.cell ad t => do loadVar t (← asAddr (a.tmps.getD ad undef)))).run P w = .ok xs w ∧ F2 (rel1 φ) vs xs
  | [], rs, vs, h1, h2 => by
    simp only [stripRes, Option.some.injEq] at h1
    subst h1
    simp only [resL, Option.some.injEq] at h2
    subst h2
    exact ⟨[], by simp [go_sem], .nil⟩
  | r :: l, rs, vs, h1, h2 => by
    have hget : ∀ t, relA φ (s.get [] (.t t)) (a.tmps.getD t undef) := fun t => (gets_of (H := s.heap) hI.sok.toE (π := []) trivial trivial).cs t
    have key : ∀ (ar : ARes) (rs' : List ARes), rs = ar :: rs' → stripRes P l = some rs' → (∀ v, resA s ar = some v → ∃ x, ((match r with
        | ResultVar.tmp t => (pure (a.tmps.getD t undef) : Sem Value)
        | ResultVar.cell ad t => do loadVar t (← asAddr (a.tmps.getD ad undef))) : Sem Value).run P w = .ok x w ∧ relA φ v x) →
        ∃ xs : List Value, ((r :: l).mapM (fun r => match r with
          | ResultVar.tmp t => (pure (a.tmps.getD t undef) : Sem Value)
          | ResultVar.cell ad t => do loadVar t (← asAddr (a.tmps.getD ad undef)))).run P w = .ok xs w ∧ F2 (rel1 φ) vs xs := by
      intro ar rs' e1 e2 hv
      subst e1
      simp only [resL] at h2
      split at h2
      · rename_i v hva
        split at h2
        · rename_i hnt
          split at h2
          · rename_i t ht
            simp only [Option.some.injEq] at h2
            subst h2
            obtain ⟨x, hx, hr⟩ := hv v hva
            obtain ⟨xs, hxs, hF⟩ := resA_ok hI l rs' t e2 ht
            refine ⟨x :: xs, ?_, .cons ?_ hF⟩
            · simp only [List.mapM_cons, Sem.run_bind, hx, Result.andThen_ok, hxs, Sem.run_pure]
            · cases v <;> first | exact hr | simp [noTup] at hnt
          · simp at h2
        · simp at h2
      · simp at h2
    cases r with
    | tmp t =>
      simp only [stripRes, Option.map_eq_some_iff] at h1
      obtain ⟨rs', h1, rfl⟩ := h1
      refine key _ rs' rfl h1 fun v hv => ?_
      simp only [resA, Option.some.injEq] at hv
      subst hv
      exact ⟨_, rfl, hget t⟩
    | cell ad t =>
      simp only [stripRes] at h1
      split at h1
      · rename_i _ l' ht hl
        simp only [Option.some.injEq] at h1
        refine key _ l' h1.symm hl fun v hv => ?_
        simp only [resA] at hv
        split at hv
        · rename_i p hp
          split at hv
          · rename_i v' hld
            simp only [Option.some.injEq] at hv
            subst hv
            have hg := hget ad
            rw [hp] at hg
            obtain ⟨pl, hpl, hev⟩ := hg
            obtain ⟨_, y, hy, hr⟩ := ld1_ok hI.heap.blk hld trivial hpl
            exact ⟨y, by simp only [hev, asAddr, Sem.run_bind, Sem.run_pure, Result.andThen_ok, loadVar, run_isAgg ht, Bool.false_eq_true, if_false, run_load, hy], hr⟩
          · simp at hv
        · simp at hv
      · rename_i n l' ht hsz hl
        simp only [Option.some.injEq] at h1
        refine key _ l' h1.symm hl fun v hv => ?_
        simp only [resA] at hv
        split at hv
        · rename_i p hp
          split at hv
          · rename_i v' hld
            simp only [Option.some.injEq] at hv
            subst hv
            have hg := hget ad
            rw [hp] at hg
            obtain ⟨pl, hpl, hev⟩ := hg
            obtain ⟨_, xs, hlx, hcx, l2, rfl, hF⟩ := ldn_ok hI.heap.blk hld trivial hpl
            subst hlx
            exact ⟨.agg xs.toArray, by simp only [hev, asAddr, Sem.run_bind, Sem.run_pure, Result.andThen_ok, loadVar, run_isAgg ht, if_true, run_sizeOf hsz, run_loadCells_list w _ xs hcx], xs.toArray, rfl, hF⟩
          · simp at hv
        · simp at hv
      · simp at h1

theorem run_results {fn : Func} {φ₀ : Emb} {H₀ : Heap} {w₀ : World} {N : Env} {s : St} {a : Act} (hI : Inv φ₀ H₀ w₀ N φ s a w []) {rs : List ARes} {vs : List AV} (h1 : stripRes P fn.results.toList = some rs) (h2 : resL s rs = some vs) :
    ∃ x, (results fn a.tmps).run P w = .ok x w ∧ relA φ (resV vs) x := by
  obtain ⟨xs, hx, hF⟩ := resA_ok hI _ _ _ h1 h2
  have hm : (fn.results.mapM (fun r => match r with
      | ResultVar.tmp t => (pure (a.tmps.getD t undef) : Sem Value)
      | ResultVar.cell ad t => do loadVar t (← asAddr (a.tmps.getD ad undef)))).run P w = .ok xs.toArray w := by
    rw [Array.mapM_eq_mapM_toList]
    simp only [Sem.run_map, hx, Result.andThen_ok]
  refine ⟨if h : xs.toArray.size = 1 then xs.toArray[0] else .tuple xs.toArray, ?_, ?_⟩
  · unfold results
    simp only [Sem.run_bind]
    refine (congrArg (fun r => Result.andThen r _) hm).trans ?_
    rfl
  · cases hF with
    | nil => exact ⟨#[], rfl, .nil⟩
    | cons h hr => cases hr with
      | nil => exact relA_of_rel1 h
      | cons g1 g2 => exact ⟨_, rfl, .cons h (.cons g1 g2)⟩

theorem SOk.toSame {l : List Slot} {a : Act} {K : List Nat} (h : SOk φ l a K) {d : List Deferred} : SOk φ l { a with defers := d } K := fun n sl hs =>
  let this := h n sl hs; ⟨this.num, this.on, this.off, this.path, this.keys⟩
/-- The marks are taken, one by one. -/
theorem leaves_marks {φ₀ : Emb} {H₀ H : Heap} {w₀ : World} {fn : Func} {tmps : Array Value} {R : Ending → World → Prop} : ∀ {l : List Deferred} {w : World}, Marks w₀.heap.size w l → HRel φ H w → Fr φ₀ H₀ w₀ φ H w →
    (∀ w', HRel φ H w' → Fr φ₀ H₀ w₀ φ H w' → ∃ v, (results fn tmps).run P w' = .ok v w' ∧ R (.returned v) w') → LeavesInM Fence.wide 0 P fn tmps R l .returning w
  | [], w, _, hH, hF, h => h w hH hF
  | d :: r, w, ⟨⟨D, e, hn, hD, hne⟩, hr⟩, hH, hF, h => by
    refine ⟨by simp, .inl ⟨D, _, by rw [e], run_takeDeferred hD, ?_⟩⟩
    have hnc : noCells (.deferred (some [])) := fun _ _ _ e => by cases e
    exact leaves_marks (hr.putObj (fun D' hD' e' => by
      obtain ⟨d', h1, h2⟩ := hD'
      exact hne d' h1 (by rw [h2, e'])) _) (hH.putObj hD hnc _) (hF.putObj hn _) h

theorem con_of_awp (hm : P.follows .mixedOrders = true) {f : FuncId} {fn : Func} (hf : P.funcs[f]? = some fn) (hname : (fn.name == "runtime.NumGoroutine") = false) {ac : ACode} (hc : stripF P fn = some ac) {rs : List ARes} (hrs : stripRes P fn.results.toList = some rs)
    {args : List AV} (hargs : args.length ≤ fn.ntmps) {H : Heap} {R : Post} (h : awp (Con P) (LeS H.next) ac ⟨initT args 0, H⟩ (endQ (LeS H.next) rs R)) : Con P f args H R := by
  unfold stripF at hc
  cases hb : fn.body with
  | none => simp [hb] at hc
  | some c =>
    simp only [hb, Option.some.injEq] at hc
    subst hc
    refine ⟨⟨fn, hf, hname, by simp [hb]⟩, fun φ w xs hF hH => ?_⟩
    have hxl : xs.size = args.length := by rw [hF.length]; simp
    refine Wide.calls.1 (callsIn_of_wp_marks (F := Fence.wide) (n := 0) hf hb trivial ?_)
    have hI : Inv φ H w ⟨fn.ntmps, w⟩ φ ⟨initT args 0, H⟩ { tmps := xs ++ Array.replicate (fn.ntmps - xs.size) undef, defers := [] } w [] := by
      refine ⟨fun n sl hs => ?_, hH, Fr.refl _ _ _, trivial, by simp; omega, Oth.refl _⟩
      obtain ⟨k, p, v⟩ := sl
      have hk : k = n := slotAt_num _ _ _ hs
      obtain ⟨h1, _, x, hx, hr⟩ := initT_slot args xs.toList 0 n _ hF hs
      simp only at h1
      subst h1
      refine ⟨hk, fun _ => ?_, fun hcd => absurd trivial hcd, trivial, fun e he => by cases he⟩
      have hx' : xs[n]? = some x := by simpa using hx
      have hlt : n < xs.size := (Array.getElem?_eq_some_iff.1 hx').1
      have : (xs ++ Array.replicate (fn.ntmps - xs.size) undef).getD n undef = x := by
        rw [Array.getD_eq_getD_getElem?, Array.getElem?_append_left hlt, hx']
        rfl
      rw [this]
      exact hr
    refine wpIn_mono (awp_sound hm c (.inl rfl) (N := ⟨fn.ntmps, w⟩) (Nat.le_refl _) hH.fresh _ _ h φ _ w hI) fun e a w' hq => ?_
    obtain ⟨ae, φ', s', rfl, hq, hI'⟩ := hq
    have fin : (∃ s2, LeS H.next s' s2 ∧ endF rs R s2) → LeavesInM Fence.wide 0 P fn a.tmps (fun e w' => ∃ φ' v x H', e = .returned x ∧ R v H' ∧ relA φ' v x ∧ HRel φ' H' w' ∧ Fr φ H w φ' H' w') a.defers .returning w' := by
      rintro ⟨s2, hle, he⟩
      obtain ⟨φ2, hI2⟩ := hle φ H w ⟨fn.ntmps, w⟩ φ' a w' (Nat.le_refl _) hH.fresh hI'
      unfold endF at he
      split at he
      · rename_i vs hvs
        refine leaves_marks hI2.defers hI2.heap hI2.fr fun w2 hH2 hF2 => ?_
        have hI3 : Inv φ H w ⟨fn.ntmps, w2⟩ φ2 s2 { a with defers := [] } w2 [] := ⟨hI2.sok.toSame, hH2, hF2, trivial, hI2.size, Oth.refl _⟩
        obtain ⟨x, hx, hr⟩ := run_results hI3 hrs hvs
        exact ⟨x, hx, φ2, _, x, s2.heap, rfl, he, hr, hH2, hF2⟩
      · exact he.elim
    cases ae with
    | normal => exact fin ((endQ_of (e := .normal) nofun).1 hq)
    | ret => exact fin ((endQ_of (e := .ret) nofun).1 hq)
    | exit id => exact (endQ_exit hq).elim

end Go.AM
