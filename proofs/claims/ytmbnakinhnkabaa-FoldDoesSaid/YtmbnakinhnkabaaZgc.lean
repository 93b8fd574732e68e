/- Parts of the proof of foldDoes_holds, joined and cut by a program: Am17, Am18, Am19, Am20, Am21, Am22, Da, Db, Dc, Dd, De, Df, Dg, Dh, Di, Dj, AmJ, Dk, Dl, Dm, Dn, Do, Dp, Dq, Dr, Am23, Ds, Dt. No condition. -/
import Derived.Test.YtmbnakinhnkabaaZgb
import Derived.Deep.LoopGhost
import Derived.DataOpen
import Derived.OpenShut
import Derived.Carry
import Derived.ChangeSame
import Derived.Test.YtmbnakinhnkabaaRows
import Derived.ProofKit
import Derived.SizedLaws
namespace Go.AM
set_option linter.unusedVariables false
set_option linter.unusedSectionVars false
set_option linter.unusedSimpArgs false
variable {P : Program} {φ : Emb} {w : World}

theorem slotAt_shed : ∀ (l : List Slot) (n : Nat) (sl : Slot), slotAt (shed l) n = some sl → sl.path = [] ∧ (sl.v = .bot ∨ slotAt l n = some sl)
  | [], n, sl, h => by simp [shed, slotAt] at h
  | ⟨k, [], v⟩ :: r, n, sl, h => by
    simp only [shed] at h
    by_cases hn : n = k
    · subst hn; rw [slotAt_cons_self] at h; cases h; exact ⟨rfl, .inr (slotAt_cons_self _ _ _ _)⟩
    · rw [slotAt_cons_ne hn] at h ⊢; exact slotAt_shed r n sl h
  | ⟨k, e :: p, v⟩ :: r, n, sl, h => by
    simp only [shed] at h
    by_cases hn : n = k
    · subst hn; rw [slotAt_cons_self] at h; cases h; exact ⟨rfl, .inl rfl⟩
    · rw [slotAt_cons_ne hn] at h ⊢; exact slotAt_shed r n sl h

theorem Inv.shed {φ₀ : Emb} {H₀ : Heap} {w₀ : World} {N : Env} {s : St} {a : Act} {K : List Nat} (h : Inv φ₀ H₀ w₀ N φ s a w K) : Inv φ₀ H₀ w₀ N φ ⟨shed s.tmps, s.heap⟩ a w [] := by
  refine ⟨fun n sl hs => ?_, h.heap, h.fr, h.defers, h.size, h.oth⟩
  obtain ⟨h1, h2⟩ := slotAt_shed _ _ _ hs
  obtain ⟨k, p, v⟩ := sl
  simp only at h1
  subst h1
  have hn : k = n := slotAt_num _ _ _ hs
  refine ⟨hn, fun hc => ?_, fun hc => absurd trivial hc, trivial, fun e he => by cases he⟩
  rcases h2 with h2 | h2
  · simp only at h2; subst h2; trivial
  · exact (h.sok n _ h2).on hc

def exOf : AEx → Exit
  | .normal => .normal
  | .exit id => .exit id
  | .ret => .ret

def Real (φ₀ : Emb) (H₀ : Heap) (w₀ : World) (N : Env) (Q : AEx → St → Prop) : Exit → Act → World → Prop := fun e a w => ∃ ae φ s, exOf ae = e ∧ Q ae s ∧ Inv φ₀ H₀ w₀ N φ s a w []

theorem corr_all (N : Nat) (ops : Array Oper) (draw : Bool) : F2 (Corr P N ops) ops.toList (ops.toList.zipIdx.map fun (o, i) => stripOper P N ops draw i o) := by
  have : ∀ (l : List Oper) (k : Nat), F2 (Corr P N ops) l ((l.zipIdx k).map fun (o, i) => stripOper P N ops draw i o) := by
    intro l
    induction l with
    | nil => intro k; exact .nil
    | cons o r ih => intro k; exact .cons (corr_strip P N ops draw k o) (ih (k + 1))
  exact this _ 0

theorem cell_noCells {W : World} {L : Nat} {o : Obj} (hL : W.heap[L]? = some o) (ho : noCells o) {a : Addr} (ha : a.block = L) : W.cell? a = none := by
  unfold World.cell?
  rw [ha, hL]
  cases o <;> first | rfl | exact absurd rfl (ho.1 _ _ _)
theorem BRel.putObj {B : Blk} {p : Place} (h : BRel φ B p w) {L : Nat} {o : Obj} (hL : w.heap[L]? = some o) (ho : noCells o) (o' : Obj) : BRel φ B p (w.putObj L o') := by
  refine ⟨h.str, fun i hi => ?_, fun hw => ?_⟩
  · obtain ⟨xs, a, b, c⟩ := h.rows i hi
    refine ⟨xs, a, b, fun j x hx => ?_⟩
    have hc := c j x hx
    by_cases hp : p.blk = L
    · rw [cell_noCells hL ho hp] at hc; cases hc
    · unfold World.cell? at hc ⊢
      rw [World.putObj_heap_other hp]
      exact hc
  · have hp : p.blk ≠ L := fun e => by
      rcases h.own hw with ⟨⟨_, _, _, cs, hcs, _⟩, _⟩ | ⟨_, _, _, _, _, es, c, _, _, hcs, _⟩
      · rw [e, hL] at hcs; cases hcs; exact ho.1 _ _ _ rfl
      · rw [e, hL] at hcs; cases hcs; exact ho.2 _ _ rfl
    exact own_keep (World.putObj_heap_other hp) (h.own hw)
theorem HRel.putObj {H : Heap} (h : HRel φ H w) {L : Nat} {o : Obj} (hL : w.heap[L]? = some o) (ho : noCells o) (o' : Obj) : HRel φ H (w.putObj L o') :=
  ⟨fun i B p hB hp => (h.blk i B p hB hp).putObj hL ho o', h.inj, h.fresh, fun i p hp => by rw [World.putObj_size]; exact h.lt i p hp⟩
theorem Fr.putObj {φ₀ : Emb} {H₀ H : Heap} {w₀ : World} (h : Fr φ₀ H₀ w₀ φ H w) {L : Nat} (hL : w₀.heap.size ≤ L) (o' : Obj) : Fr φ₀ H₀ w₀ φ H (w.putObj L o') :=
  ⟨h.le, h.same, h.nx, by rw [World.putObj_size]; exact h.size, h.os, h.tape, h.output, fun b hb hno => by rw [World.putObj_heap_other (by omega)]; exact h.old b hb hno, h.own⟩
theorem Marks.putObj {n : Nat} {L : Nat} : ∀ {l : List Deferred}, Marks n w l → (∀ D, (∃ d ∈ l, d.target = .collected D) → D ≠ L) → ∀ o', Marks n (w.putObj L o') l
  | [], _, _, _ => trivial
  | d :: r, ⟨⟨D, e, hn, hD, hne⟩, hr⟩, hL, o' =>
    ⟨⟨D, e, hn, by rw [World.putObj_heap_other (hL D ⟨d, by simp, by rw [e]⟩)]; exact hD, hne⟩, hr.putObj (fun D h => hL D (by obtain ⟨d, h1, h2⟩ := h; exact ⟨d, List.mem_cons_of_mem _ h1, h2⟩)) o'⟩
theorem Marks.get {n : Nat} : ∀ {l : List Deferred}, Marks n w l → ∀ {D}, (∃ d ∈ l, d.target = .collected D) → n ≤ D ∧ w.heap[D]? = some (.deferred (some []))
  | [], _, D, h => by obtain ⟨d, h, _⟩ := h; cases h
  | d :: r, ⟨⟨D, e, hn, hD, hne⟩, hr⟩, D', h => by
    obtain ⟨d', h1, h2⟩ := h
    cases h1 with
    | head => rw [e] at h2; cases h2; exact ⟨hn, hD⟩
    | tail _ h1 => exact hr.get ⟨d', h1, h2⟩

theorem wpIn_loop_ghost' {F : Fence} {n : Nat} {Q : Exit → Act → World → Prop} {a : Act} {c : Code} (I : Nat → Act → World → Prop) (n₀ : Nat) (h₀ : I n₀ a w)
    (round : ∀ k a w, I k a w → c.wpIn F n P (Exit.then (fun a' w' => ∃ n', n' < k ∧ I n' a' w') Q) a w) : (Code.loop c).wpIn F n P Q a w := by
  refine wpIn_loop (fun a w => ∃ n, I n a w) (fun a w => leastOf (fun n => I n a w)) ⟨n₀, h₀⟩ fun a w hI => ?_
  refine wpIn_mono (round _ a w (leastOf_spec hI).1) fun e a' w' hq => ?_
  cases e with
  | normal =>
    obtain ⟨n', hlt, hI'⟩ := hq
    exact show (∃ n, I n a' w') ∧ leastOf (fun n => I n a' w') < leastOf (fun n => I n a w) from ⟨⟨n', hI'⟩, Nat.lt_of_le_of_lt ((leastOf_spec ⟨n', hI'⟩).2 n' hI') hlt⟩
  | exit id => exact hq
  | goto l => exact hq
  | ret => exact hq
  | panic ch => exact hq
  | outgrown => exact hq

theorem putL_sok {a : Act} {N : Nat} (hsz : a.tmps.size = N) : ∀ (ps : List Nat) (xs : List AV) (vs : List Value) (l : List Slot) (tm : Array Value), xs.length = ps.length → F2 (relA φ) xs vs → ps.all (· < N) = true → tm.size = N → SOk φ l ⟨tm, []⟩ [] →
    SOk φ (putL ps xs l) ⟨(ps.zip vs).foldl (fun t (p, v) => t.setIfInBounds p v) tm, []⟩ [] ∧ ((ps.zip vs).foldl (fun t (p, v) => t.setIfInBounds p v) tm).size = N
  | [], [], _, l, tm, _, .nil, _, ht, h => ⟨h, ht⟩
  | p :: ps, x :: xs, _, l, tm, hl, .cons (b := v) (m := vs) hx hr, hp, ht, h => by
    simp only [List.all_cons, Bool.and_eq_true, decide_eq_true_eq] at hp
    simp only [putL, List.zip_cons_cons, List.foldl_cons]
    refine putL_sok hsz ps xs vs _ _ (by simpa using hl) hr hp.2 (by simpa using ht) ?_
    have := sok_put (a := ⟨tm, []⟩) (φ.le_refl) h (fun _ h => h) hp.1 ht (by simp) (π := []) (v := x) (x := v) trivial (fun e he => by cases he) (fun _ => hx) (fun hc => absurd trivial hc)
    exact this

theorem noRange_seq {a b : Code} {F : Fence} (h : F.round = none ∨ noRange (.seq a b) = true) : (F.round = none ∨ noRange a = true) ∧ (F.round = none ∨ noRange b = true) := by
  rcases h with h | h
  · exact ⟨.inl h, .inl h⟩
  · simp only [noRange, Bool.and_eq_true] at h; exact ⟨.inr h.1, .inr h.2⟩

set_option maxHeartbeats 2000000 in
theorem awp_sound (hm : P.follows .mixedOrders = true) (c : Code) : ∀ {F : Fence} [Wide F] (hro : F.round = none ∨ noRange c = true) {φ₀ : Emb} {H₀ : Heap} {w₀ : World} {N : Env} {n0 : Nat} (hn0 : H₀.next ≤ n0) (hf0 : ∀ i, H₀.next ≤ i → φ₀ i = none) (s : St) (Q : AEx → St → Prop), awp (Con P) (LeS n0) (strip P N.n c) s Q →
    ∀ (φ : Emb) (a : Act) (w : World), Inv φ₀ H₀ w₀ N φ s a w [] → c.wpIn F 0 P (Real φ₀ H₀ w₀ N Q) a w := by
  induction c with
  | skip => intro F _ _ φ₀ H₀ w₀ N n0 hn0 hf0 s Q h φ a w hI; exact wpIn_skip ⟨.normal, φ, s, rfl, h, hI⟩
  | ret => intro F _ _ φ₀ H₀ w₀ N n0 hn0 hf0 s Q h φ a w hI; exact wpIn_ret ⟨.ret, φ, s, rfl, h, hI⟩
  | exit id => intro F _ _ φ₀ H₀ w₀ N n0 hn0 hf0 s Q h φ a w hI; exact wpIn_exit ⟨.exit id, φ, s, rfl, h, hI⟩
  | region id ops draw =>
    intro F _ _ φ₀ H₀ w₀ N n0 hn0 hf0 s Q h φ a w hI
    simp only [strip] at h
    split at h
    · rename_i hchk
      simp only [Bool.and_eq_true, Bool.or_eq_true, Bool.not_eq_true'] at hchk
      simp only [awp] at h
      have hQ : ∀ φ s a w K, Inv φ₀ H₀ w₀ N φ s a w K → (∃ s'', LeS n0 ⟨shed s.tmps, s.heap⟩ s'' ∧ Q .normal s'') → Real φ₀ H₀ w₀ N Q .normal a w := fun φ s a w K hI ⟨s'', hle, hq⟩ => by
        obtain ⟨φ', hI'⟩ := hle φ₀ H₀ w₀ N φ a w hn0 hf0 hI.shed
        exact ⟨.normal, φ', _, rfl, hq, hI'⟩
      cases draw with
      | false => exact wpIn_region_list (region_seq hQ _ _ (corr_all N.n ops false) hchk.1 φ s a w [] hI (fun d hd => by cases hd) h)
      | true =>
        refine region_draw hm hQ (corr_all N.n ops true) hchk.1 (hchk.2.resolve_left (by simp)) (fun i ao ha => ?_) hI (fun d hd => by cases hd) h
        simp only [List.getElem?_map, Option.map_eq_some_iff] at ha
        obtain ⟨⟨o, j⟩, hoj, rfl⟩ := ha
        rw [List.getElem?_zipIdx, Option.map_eq_some_iff] at hoj
        obtain ⟨o', h', e⟩ := hoj
        simp only [Prod.mk.injEq, Nat.zero_add] at e
        obtain ⟨rfl, rfl⟩ := e
        refine ⟨by simp [stripOper], fun o ho => ?_⟩
        have e : o' = o := by simp only [Array.getElem?_toList] at h'; rw [ho] at h'; cases h'; rfl
        subst e
        simp [stripOper]
    · exact h.elim
  | seq x y ihx ihy =>
    intro F _ hro φ₀ H₀ w₀ N n0 hn0 hf0 s Q h φ a w hI
    simp only [strip, awp] at h
    refine wpIn_seq (wpIn_mono (ihx (noRange_seq hro).1 hn0 hf0 s _ h φ a w hI) fun e a' w' hq => ?_)
    obtain ⟨ae, φ', s', rfl, hq, hI'⟩ := hq
    cases ae with
    | normal => exact ihy (noRange_seq hro).2 hn0 hf0 s' Q hq φ' a' w' hI'
    | exit id => exact ⟨.exit id, φ', s', rfl, hq, hI'⟩
    | ret => exact ⟨.ret, φ', s', rfl, hq, hI'⟩
  | cond c x y ihx ihy =>
    intro F _ hro φ₀ H₀ w₀ N n0 hn0 hf0 s Q h φ a w hI
    have hro' : (F.round = none ∨ noRange x = true) ∧ (F.round = none ∨ noRange y = true) := noRange_seq hro
    simp only [strip] at h
    split at h
    · rename_i co hco
      simp only [awp] at h
      have hg := (gets_of (H := s.heap) hI.sok.toE (π := []) trivial trivial).get c co hco
      split at h
      · rename_i b hb
        rw [hb] at hg
        have hev : a.eval c = .bool b := hg
        cases b with
        | true => exact wpIn_cond_true hev (ihx hro'.1 hn0 hf0 s Q h φ a w hI)
        | false => exact wpIn_cond_false hev (ihy hro'.2 hn0 hf0 s Q h φ a w hI)
      · exact h.elim
    · exact h.elim
  | block id b ih =>
    intro F _ hro φ₀ H₀ w₀ N n0 hn0 hf0 s Q h φ a w hI
    simp only [strip, awp] at h
    refine wpIn_block (wpIn_mono (ih hro hn0 hf0 s _ h φ a w hI) fun e a' w' hq => ?_)
    obtain ⟨ae, φ', s', rfl, hq, hI'⟩ := hq
    cases ae with
    | normal => exact ⟨.normal, φ', s', rfl, hq, hI'⟩
    | exit j =>
      simp only [exOf, Exit.inBlock]
      simp only at hq
      split at hq
      · rename_i hb
        rw [if_pos (Nat.eq_of_beq_eq_true hb)]
        exact ⟨.normal, φ', s', rfl, hq, hI'⟩
      · rename_i hb
        rw [if_neg (fun e => by rw [e, Nat.beq_refl] at hb; cases hb)]
        exact ⟨.exit j, φ', s', rfl, hq, hI'⟩
    | ret => exact ⟨.ret, φ', s', rfl, hq, hI'⟩
  | loop b ih =>
    intro F _ hro φ₀ H₀ w₀ N n0 hn0 hf0 s Q h φ a w hI
    simp only [strip, awp] at h
    obtain ⟨I, n, hI0, hround⟩ := h
    refine wpIn_loop_ghost' (fun n a w => ∃ φ s, I n s ∧ Inv φ₀ H₀ w₀ N φ s a w []) n ⟨φ, s, hI0, hI⟩ fun n a w hh => ?_
    obtain ⟨φ, s, hIn, hI⟩ := hh
    refine wpIn_mono (ih hro hn0 hf0 s _ (hround n s hIn) φ a w hI) fun e a' w' hq => ?_
    obtain ⟨ae, φ', s', rfl, hq, hI'⟩ := hq
    cases ae with
    | normal =>
      obtain ⟨n', s'', hlt, hle, hI''⟩ := hq
      obtain ⟨φ'', hI3⟩ := hle φ₀ H₀ w₀ N φ' a' w' hn0 hf0 hI'
      exact ⟨n', hlt, φ'', s'', hI'', hI3⟩
    | exit id => exact ⟨.exit id, φ', s', rfl, hq, hI'⟩
    | ret => exact ⟨.ret, φ', s', rfl, hq, hI'⟩
  | rangeFunc g ps x y ihx ihy =>
    intro F _ hro φ₀ H₀ w₀ N n0 hn0 hf0 s Q h φ a w hI
    have hro : F.round = none := hro.resolve_right (by simp [noRange])
    simp only [strip] at h
    split at h
    rotate_left
    · exact h.elim
    rename_i g' hg'
    split at h
    rotate_left
    · exact h.elim
    rename_i hck
    simp only [Bool.and_eq_true] at hck
    obtain ⟨hps, hnx, hny⟩ := hck
    simp only [awp] at h
    obtain ⟨gf, caps, K, M, X, I, hgv, hit, hlen, hI0, hsub, hrnd, hend⟩ := h
    have hgr := (gets_of (H := s.heap) hI.sok.toE (π := []) trivial trivial).get g g' hg'
    have hgv' : St.get ⟨s.tmps, s.heap⟩ [] g' = .c (.fn gf [] caps) := hgv
    rw [hgv'] at hgr
    obtain ⟨l', lb, hev, hl', hlb⟩ := hgr
    have hl0 : l' = #[] := by cases l' with | mk l' => cases hl'; rfl
    subst hl0
    refine wpIn_rangeFunc fun fn hfn => ?_
    rw [hro]
    obtain ⟨rec, hrec⟩ : ∃ rec : LoopState → Option Code → Loop, rec = fun st pe => { state := st, pending := pe, fn, tmps := a.tmps, params := ps, assign := x, body := y, defers := w.heap.size } := ⟨_, rfl⟩
    obtain ⟨W1, hW1⟩ : ∃ W1, (w.alloc (.deferred (some []))).alloc (.loop (rec .ready none)) = W1 := ⟨_, rfl⟩
    obtain ⟨L, hL⟩ : ∃ L, w.heap.size + 1 = L := ⟨_, rfl⟩
    have hL1 : W1.heap[L]? = some (.loop (rec .ready none)) := by
      rw [← hW1, ← hL]; have := World.alloc_heap_new (w.alloc (.deferred (some []))) (.loop (rec .ready none)); rwa [World.size_alloc] at this
    have hK1 : W1.heap[w.heap.size]? = some (.deferred (some [])) := by
      rw [← hW1]; exact (heap_alloc_lt _ _ (by simp)).trans (World.alloc_heap_new w _)
    have hlp : ∀ r, noCells (.loop r) := fun r => ⟨fun _ _ _ e => (by cases e), fun _ _ e => (by cases e)⟩
    have hdf : ∀ r, noCells (.deferred r) := fun r => ⟨fun _ _ _ e => (by cases e), fun _ _ e => (by cases e)⟩
    obtain ⟨hent, hseq⟩ := hit φ W1 lb L hlb
    obtain ⟨fn', q1, q2, q3⟩ := hent
    refine ⟨L, [{ target := .collected w.heap.size, args := #[] }], W1, { target := .fn (.func gf) lb, args := #[.func (.yield L) #[] #[]] }, W1, gf,
      #[.func (.yield L) #[] #[]] ++ lb, W1, ?_, ?_, fun f' _ => Wide.fn f', ?_, fun hd => (by rw [Wide.depth] at hd; cases hd), ?_⟩
    · rw [← hW1, hrec, ← hL]; exact run_enterLoop_outer _ _ _ _ _
    · simp only [resolve, hev]
      simp [go_sem]
    · simp only [invoke, Sem.run_bind, Sem.run_pure, Result.andThen_ok, callFunc, run_program, q1, q2, q3, Bool.false_eq_true, if_false]
    refine (Wide.calls.2 (Wide.calls.1 (hseq
      (fun j ψ W => ∃ H, I j H ∧ HRel ψ H W ∧ Fr φ s.heap w ψ H W ∧ W.heap[L]? = some (.loop (rec .ready none)) ∧ W.heap[w.heap.size]? = some (.deferred (some [])))
      (fun W => ∃ ae ψ H c, ((ae = .ret ∧ c = .ret) ∨ ∃ id, ae = .exit id ∧ c = .exit id) ∧ Q ae ⟨s.tmps, H⟩ ∧ HRel ψ H W ∧ Fr φ s.heap w ψ H W ∧ W.heap[L]? = some (.loop (rec .done (some c))) ∧ W.heap[w.heap.size]? = some (.deferred (some [])))
      ?_ ?_ φ ?_))).mono ?_
    · rintro j ψ W ⟨H, hIj, hH, hF, _⟩
      refine ⟨hF.le, ⟨H.next, hH.fresh _ (Nat.le_refl _)⟩, fun i B hB => ?_⟩
      obtain ⟨hlt, hwr, C, hC, c1, c2, c3, c4⟩ := hsub j H hIj i B hB
      refine ⟨hF.same i hlt, fun p hp => ?_⟩
      have hb := hH.blk i C p hC (hF.le i p hp)
      have hn : B.n = C.n := by unfold Blk.n; rw [c2]
      exact ⟨by rw [c1]; exact hb.str, fun i' hi' => by rw [c4, c1]; exact hb.rows i' (by rw [← hn]; exact hi'), fun e => by rw [hwr] at e; cases e⟩
    · -- a round
      rintro j ψ W hj ⟨H, hIj, hH, hF, hl, hk⟩ vs hvs
      have hvl : vs.size = ps.size := by
        have := hvs.length
        rw [hlen j] at this
        simpa using this.symm
      have hy := run_yield (P := P) (args := vs) hl (by rw [hrec]; exact hvl)
      rw [hrec] at hy
      refine ⟨fn, _, x, y, hy, roundIn_of_wpIn trivial ?_⟩
      have hsok := putL_sok (a := a) hI.size ps.toList (X j) vs.toList s.tmps a.tmps (hlen j) hvs hps hI.size (fun n sl hs => by
        have := hI.sok n sl hs
        exact ⟨this.num, fun hc => relA_mono hF.le (this.on hc), this.off, this.path, this.keys⟩)
      have hfold : ((ps.zip vs).foldl (fun t (p, v) => t.setIfInBounds p v) a.tmps) = ((ps.toList.zip vs.toList).foldl (fun t (p, v) => t.setIfInBounds p v) a.tmps) := by
        rw [← Array.foldl_toList, Array.toList_zip]
      have hInv : Inv φ s.heap w ⟨N.n, W⟩ ψ ⟨putL ps.toList (X j) s.tmps, H⟩ { tmps := (ps.zip vs).foldl (fun t (p, v) => t.setIfInBounds p v) a.tmps, defers := [] } W [] := by
        rw [hfold]
        exact ⟨hsok.1, hH, hF, trivial, hsok.2, Oth.refl _⟩
      refine wpIn_mono (ihx (F := Fence.wide.inRound L) (.inr hnx) (N := ⟨N.n, W⟩) (Nat.le_refl _) hI.heap.fresh _ _ (hrnd j H hj hIj) ψ _ W hInv) fun e a1 W2 hq => ?_
      obtain ⟨ae, φ1, s1, rfl, hq, hI1⟩ := hq
      cases ae with
      | exit id => exact hq.elim
      | ret => exact hq.elim
      | normal =>
      have hl2 : W2.heap[L]? = some (.loop (rec .ready none)) := hI1.oth.same _ _ hl (hlp _)
      have hk2 : W2.heap[w.heap.size]? = some (.deferred (some [])) := hI1.oth.same _ _ hk (hdf _)
      refine ⟨_, run_beginRound hl2 (by rw [hrec]), ?_⟩
      obtain ⟨W3, hW3⟩ : ∃ W3, W2.putObj L (.loop { rec .ready none with state := .busy }) = W3 := ⟨_, rfl⟩
      rw [hW3]
      have hl3 : W3.heap[L]? = some (.loop { rec .ready none with state := .busy }) := by rw [← hW3]; exact World.putObj_heap_same (Array.getElem?_eq_some_iff.1 hl2).1
      have hk3 : W3.heap[w.heap.size]? = some (.deferred (some [])) := by rw [← hW3, World.putObj_heap_other (by omega)]; exact hk2
      have hI3 : Inv φ s.heap w ⟨N.n, W3⟩ φ1 s1 a1 W3 [] := by
        rw [← hW3]
        exact ⟨hI1.sok, hI1.heap.putObj hl2 (hlp _) _, hI1.fr.putObj (by omega) _, hI1.defers.putObj (fun D hD e => by
          have := (hI1.defers.get hD).2
          rw [e, hl2] at this
          cases this) _, hI1.size, Oth.refl _⟩
      refine wpIn_mono (ihy (F := Fence.wide.inRound L) (.inr hny) (N := ⟨N.n, W3⟩) (Nat.le_refl _) hI.heap.fresh _ _ hq φ1 _ W3 hI3) fun e a4 W4 hq => ?_
      obtain ⟨ae, φ4, s4, rfl, hq, hI4⟩ := hq
      have hl4 : W4.heap[L]? = some (.loop { rec .ready none with state := .busy }) := hI4.oth.same _ _ hl3 (hlp _)
      have hk4 : W4.heap[w.heap.size]? = some (.deferred (some [])) := hI4.oth.same _ _ hk3 (hdf _)
      have fin : ∀ (jump : Option Code) (s5 : St), LeS s.heap.next s4 s5 → ∃ ψ, (Instr.endRound L jump).run P W4 = .ok (.bool jump.isNone) (W4.putObj L (.loop (rec (if jump.isNone then .ready else .done) jump))) ∧
          HRel ψ s5.heap (W4.putObj L (.loop (rec (if jump.isNone then .ready else .done) jump))) ∧ Fr φ s.heap w ψ s5.heap (W4.putObj L (.loop (rec (if jump.isNone then .ready else .done) jump))) ∧
          (W4.putObj L (.loop (rec (if jump.isNone then .ready else .done) jump))).heap[L]? = some (.loop (rec (if jump.isNone then .ready else .done) jump)) ∧
          (W4.putObj L (.loop (rec (if jump.isNone then .ready else .done) jump))).heap[w.heap.size]? = some (.deferred (some [])) := fun jump s5 hle => by
        obtain ⟨ψ, hI5⟩ := hle φ s.heap w _ φ4 a4 W4 (Nat.le_refl _) hI.heap.fresh hI4
        have hr := run_endRound (P := P) jump hl4
        rw [hrec] at hr
        refine ⟨ψ, by rw [hrec]; exact hr, hI5.heap.putObj hl4 (hlp _) _, hI5.fr.putObj (by omega) _, World.putObj_heap_same (Array.getElem?_eq_some_iff.1 hl4).1, ?_⟩
        rw [World.putObj_heap_other (by omega)]
        exact hk4
      cases ae with
      | normal =>
        obtain ⟨s5, hle, hI5⟩ := hq
        obtain ⟨ψ, hr, g1, g2, g3, g4⟩ := fin none s5 hle
        exact ⟨_, _, hr, .inl ⟨rfl, ψ, s5.heap, hI5, g1, g2, g3, g4⟩⟩
      | ret =>
        obtain ⟨s5, hle, hq⟩ := hq
        obtain ⟨ψ, hr, g1, g2, g3, g4⟩ := fin (some .ret) s5 hle
        exact ⟨_, _, hr, .inr ⟨rfl, .ret, ψ, s5.heap, .ret, .inl ⟨rfl, rfl⟩, hq, g1, g2, g3, g4⟩⟩
      | exit id =>
        obtain ⟨s5, hle, hq⟩ := hq
        obtain ⟨ψ, hr, g1, g2, g3, g4⟩ := fin (some (.exit id)) s5 hle
        exact ⟨_, _, hr, .inr ⟨rfl, .exit id, ψ, s5.heap, .exit id, .inr ⟨id, rfl, rfl⟩, hq, g1, g2, g3, g4⟩⟩
    · -- at the start
      obtain ⟨g1, g2⟩ := hI.heap.grown (w' := W1) (by rw [← hW1]; rfl) (by rw [← hW1]; rfl) (by rw [← hW1]; rfl) (by rw [← hW1]; simp; omega) (fun b hb => by
        rw [← hW1, heap_alloc_lt _ _ (by simp; omega), heap_alloc_lt _ _ hb]) (K := s.heap) (Nat.le_refl _) (fun _ _ h _ => h)
      exact ⟨s.heap, hI0, g1, g2, hL1, hK1⟩
    · -- behind it
      have done : ∀ ψ H W o, HRel ψ H W → Fr φ s.heap w ψ H W → W.heap[L]? = some (.loop o) → W.heap[w.heap.size]? = some (.deferred (some [])) → ∀ o', Inv φ₀ H₀ w₀ N ψ ⟨s.tmps, H⟩ { a with defers := [{ target := .collected w.heap.size, args := #[] }] ++ a.defers } (W.putObj L o') [] := fun ψ H W o hH hF hl hk o' => by
        have hF' := hF.putObj (show w.heap.size ≤ L by omega) o'
        have hO := Oth.of hI.heap hF'
        refine ⟨fun n sl hs => ?_, hH.putObj hl (hlp _) _, hI.fr.trans hF', ⟨⟨w.heap.size, rfl, hI.fr.size, by rw [World.putObj_heap_other (by omega)]; exact hk, fun e he ht => ?_⟩, hI.defers.keep hO⟩, hI.size, hI.oth.trans hO⟩
        · have := hI.sok n sl hs
          exact ⟨this.num, fun hc => relA_mono hF.le (this.on hc), this.off, this.path, this.keys⟩
        · have := (Array.getElem?_eq_some_iff.1 (hI.defers.get ⟨e, he, ht⟩).2).1
          omega
      rintro e W2 ⟨⟨v, rfl⟩, (⟨ψ, H, hIn, hH, hF, hl, hk⟩ | ⟨ae, ψ, H, c, hc, hq, hH, hF, hl, hk⟩)⟩
      · exact ⟨none, _, by have := run_endLoop (P := P) hl (by rw [hrec]; simp); rw [hrec] at this; exact this, .normal, ψ, _, rfl, hend H hIn, done ψ H W2 _ hH hF hl hk _⟩
      · refine ⟨some c, _, by have := run_endLoop (P := P) hl (by rw [hrec]; simp); rw [hrec] at this; exact this, ?_⟩
        have hd := done ψ H W2 _ hH hF hl hk
        rcases hc with ⟨rfl, rfl⟩ | ⟨id, rfl, rfl⟩
        · exact wpIn_ret ⟨.ret, ψ, _, rfl, hq, hd _⟩
        · exact wpIn_exit ⟨.exit id, ψ, _, rfl, hq, hd _⟩
  | scope b => intro F _ _ φ₀ H₀ w₀ N n0 hn0 hf0 s Q h; exact h.elim
  | label l => intro F _ _ φ₀ H₀ w₀ N n0 hn0 hf0 s Q h; exact h.elim
  | goto l => intro F _ _ φ₀ H₀ w₀ N n0 hn0 hf0 s Q h; exact h.elim
  | refuse y => intro F _ _ φ₀ H₀ w₀ N n0 hn0 hf0 s Q h; exact h.elim

theorem initT_slot : ∀ (args : List AV) (xs : List Value) (k : Nat) (n : Nat) (sl : Slot), F2 (relA φ) args xs → slotAt (initT args k) n = some sl → sl.path = [] ∧ k ≤ n ∧ ∃ x, xs[n - k]? = some x ∧ relA φ sl.v x
  | [], xs, k, n, sl, h, hs => by simp [initT, slotAt] at hs
  | v :: r, xs, k, n, sl, h, hs => by
    obtain ⟨x, m, rfl, hx, hr⟩ := h.cons_left
    simp only [initT] at hs
    by_cases hn : n = k
    · subst hn
      rw [slotAt_cons_self] at hs
      cases hs
      exact ⟨rfl, Nat.le_refl _, x, by simp, hx⟩
    · rw [slotAt_cons_ne hn] at hs
      obtain ⟨h1, h2, y, hy, hyr⟩ := initT_slot r m (k + 1) n sl hr hs
      refine ⟨h1, by omega, y, ?_, hyr⟩
      rw [show n - k = (n - (k + 1)) + 1 by omega]
      simpa using hy

theorem resA_ok {φ₀ : Emb} {H₀ : Heap} {w₀ : World} {N : Env} {s : St} {a : Act} (hI : Inv φ₀ H₀ w₀ N φ s a w []) : ∀ (l : List ResultVar) (rs : List ARes) (vs : List AV), stripRes P l = some rs → resL s rs = some vs →
    ∃ xs : List Value, (l.mapM (fun r => match r with
      | ResultVar.tmp t => (pure (a.tmps.getD t undef) : Sem Value)
      | ResultVar.cell ad t => do loadVar t (← asAddr (a.tmps.getD ad undef)))).run P w = .ok xs w ∧ F2 (rel1 φ) vs xs
  | [], rs, vs, h1, h2 => by
    simp only [stripRes, Option.some.injEq] at h1
    subst h1
    simp only [resL, Option.some.injEq] at h2
    subst h2
    exact ⟨[], by simp [go_sem], .nil⟩
  | r :: l, rs, vs, h1, h2 => by
    have hget : ∀ t, relA φ (s.get [] (.t t)) (a.tmps.getD t undef) := fun t => (gets_of (H := s.heap) hI.sok.toE (π := []) trivial trivial).cs t
    have key : ∀ (ar : ARes) (rs' : List ARes), rs = ar :: rs' → stripRes P l = some rs' → (∀ v, resA s ar = some v → ∃ x, ((match r with
        | ResultVar.tmp t => (pure (a.tmps.getD t undef) : Sem Value)
        | ResultVar.cell ad t => do loadVar t (← asAddr (a.tmps.getD ad undef))) : Sem Value).run P w = .ok x w ∧ relA φ v x) →
        ∃ xs : List Value, ((r :: l).mapM (fun r => match r with
          | ResultVar.tmp t => (pure (a.tmps.getD t undef) : Sem Value)
          | ResultVar.cell ad t => do loadVar t (← asAddr (a.tmps.getD ad undef)))).run P w = .ok xs w ∧ F2 (rel1 φ) vs xs := by
      intro ar rs' e1 e2 hv
      subst e1
      simp only [resL] at h2
      split at h2
      · rename_i v hva
        split at h2
        · rename_i hnt
          split at h2
          · rename_i t ht
            simp only [Option.some.injEq] at h2
            subst h2
            obtain ⟨x, hx, hr⟩ := hv v hva
            obtain ⟨xs, hxs, hF⟩ := resA_ok hI l rs' t e2 ht
            refine ⟨x :: xs, ?_, .cons ?_ hF⟩
            · simp only [List.mapM_cons, Sem.run_bind, hx, Result.andThen_ok, hxs, Sem.run_pure]
            · cases v <;> first | exact hr | simp [noTup] at hnt
          · simp at h2
        · simp at h2
      · simp at h2
    cases r with
    | tmp t =>
      simp only [stripRes, Option.map_eq_some_iff] at h1
      obtain ⟨rs', h1, rfl⟩ := h1
      refine key _ rs' rfl h1 fun v hv => ?_
      simp only [resA, Option.some.injEq] at hv
      subst hv
      exact ⟨_, rfl, hget t⟩
    | cell ad t =>
      simp only [stripRes] at h1
      split at h1
      · rename_i _ l' ht hl
        simp only [Option.some.injEq] at h1
        refine key _ l' h1.symm hl fun v hv => ?_
        simp only [resA] at hv
        split at hv
        · rename_i p hp
          split at hv
          · rename_i v' hld
            simp only [Option.some.injEq] at hv
            subst hv
            have hg := hget ad
            rw [hp] at hg
            obtain ⟨pl, hpl, hev⟩ := hg
            obtain ⟨_, y, hy, hr⟩ := ld1_ok hI.heap.blk hld trivial hpl
            exact ⟨y, by simp only [hev, asAddr, Sem.run_bind, Sem.run_pure, Result.andThen_ok, loadVar, run_isAgg ht, Bool.false_eq_true, if_false, run_load, hy], hr⟩
          · simp at hv
        · simp at hv
      · rename_i n l' ht hsz hl
        simp only [Option.some.injEq] at h1
        refine key _ l' h1.symm hl fun v hv => ?_
        simp only [resA] at hv
        split at hv
        · rename_i p hp
          split at hv
          · rename_i v' hld
            simp only [Option.some.injEq] at hv
            subst hv
            have hg := hget ad
            rw [hp] at hg
            obtain ⟨pl, hpl, hev⟩ := hg
            obtain ⟨_, xs, hlx, hcx, l2, rfl, hF⟩ := ldn_ok hI.heap.blk hld trivial hpl
            subst hlx
            exact ⟨.agg xs.toArray, by simp only [hev, asAddr, Sem.run_bind, Sem.run_pure, Result.andThen_ok, loadVar, run_isAgg ht, if_true, run_sizeOf hsz, run_loadCells_list w _ xs hcx], xs.toArray, rfl, hF⟩
          · simp at hv
        · simp at hv
      · simp at h1

theorem run_results {fn : Func} {φ₀ : Emb} {H₀ : Heap} {w₀ : World} {N : Env} {s : St} {a : Act} (hI : Inv φ₀ H₀ w₀ N φ s a w []) {rs : List ARes} {vs : List AV} (h1 : stripRes P fn.results.toList = some rs) (h2 : resL s rs = some vs) :
    ∃ x, (results fn a.tmps).run P w = .ok x w ∧ relA φ (resV vs) x := by
  obtain ⟨xs, hx, hF⟩ := resA_ok hI _ _ _ h1 h2
  have hm : (fn.results.mapM (fun r => match r with
      | ResultVar.tmp t => (pure (a.tmps.getD t undef) : Sem Value)
      | ResultVar.cell ad t => do loadVar t (← asAddr (a.tmps.getD ad undef)))).run P w = .ok xs.toArray w := by
    rw [Array.mapM_eq_mapM_toList]
    simp only [Sem.run_map, hx, Result.andThen_ok]
  refine ⟨if h : xs.toArray.size = 1 then xs.toArray[0] else .tuple xs.toArray, ?_, ?_⟩
  · unfold results
    simp only [Sem.run_bind]
    refine (congrArg (fun r => Result.andThen r _) hm).trans ?_
    rfl
  · cases hF with
    | nil => exact ⟨#[], rfl, .nil⟩
    | cons h hr => cases hr with
      | nil => exact relA_of_rel1 h
      | cons g1 g2 => exact ⟨_, rfl, .cons h (.cons g1 g2)⟩

theorem SOk.toSame {l : List Slot} {a : Act} {K : List Nat} (h : SOk φ l a K) {d : List Deferred} : SOk φ l { a with defers := d } K := fun n sl hs =>
  let this := h n sl hs; ⟨this.num, this.on, this.off, this.path, this.keys⟩
theorem leaves_marks {φ₀ : Emb} {H₀ H : Heap} {w₀ : World} {fn : Func} {tmps : Array Value} {R : Ending → World → Prop} : ∀ {l : List Deferred} {w : World}, Marks w₀.heap.size w l → HRel φ H w → Fr φ₀ H₀ w₀ φ H w →
    (∀ w', HRel φ H w' → Fr φ₀ H₀ w₀ φ H w' → ∃ v, (results fn tmps).run P w' = .ok v w' ∧ R (.returned v) w') → LeavesInM Fence.wide 0 P fn tmps R l .returning w
  | [], w, _, hH, hF, h => h w hH hF
  | d :: r, w, ⟨⟨D, e, hn, hD, hne⟩, hr⟩, hH, hF, h => by
    refine ⟨by simp, .inl ⟨D, _, by rw [e], run_takeDeferred hD, ?_⟩⟩
    have hnc : noCells (.deferred (some [])) := ⟨fun _ _ _ e => (by cases e), fun _ _ e => (by cases e)⟩
    exact leaves_marks (hr.putObj (fun D' hD' e' => by
      obtain ⟨d', h1, h2⟩ := hD'
      exact hne d' h1 (by rw [h2, e'])) _) (hH.putObj hD hnc _) (hF.putObj hn _) h

theorem con_of_awp (hm : P.follows .mixedOrders = true) {f : FuncId} {fn : Func} (hf : P.funcs[f]? = some fn) (hname : (fn.name == "runtime.NumGoroutine") = false) {ac : ACode} (hc : stripF P fn = some ac) {rs : List ARes} (hrs : stripRes P fn.results.toList = some rs)
    {args : List AV} (hargs : args.length ≤ fn.ntmps) {H : Heap} {R : Post} (h : awp (Con P) (LeS H.next) ac ⟨initT args 0, H⟩ (endQ (LeS H.next) rs R)) : Con P f args H R := by
  unfold stripF at hc
  cases hb : fn.body with
  | none => simp [hb] at hc
  | some c =>
    simp only [hb, Option.some.injEq] at hc
    subst hc
    refine ⟨⟨fn, hf, hname, by simp [hb]⟩, fun φ w xs hF hH => ?_⟩
    have hxl : xs.size = args.length := by rw [hF.length]; simp
    refine Wide.calls.1 (callsIn_of_wp_marks (F := Fence.wide) (n := 0) hf hb trivial ?_)
    have hI : Inv φ H w ⟨fn.ntmps, w⟩ φ ⟨initT args 0, H⟩ { tmps := xs ++ Array.replicate (fn.ntmps - xs.size) undef, defers := [] } w [] := by
      refine ⟨fun n sl hs => ?_, hH, Fr.refl _ _ _, trivial, by simp; omega, Oth.refl _⟩
      obtain ⟨k, p, v⟩ := sl
      have hk : k = n := slotAt_num _ _ _ hs
      obtain ⟨h1, _, x, hx, hr⟩ := initT_slot args xs.toList 0 n _ hF hs
      simp only at h1
      subst h1
      refine ⟨hk, fun _ => ?_, fun hcd => absurd trivial hcd, trivial, fun e he => by cases he⟩
      have hx' : xs[n]? = some x := by simpa using hx
      have hlt : n < xs.size := (Array.getElem?_eq_some_iff.1 hx').1
      have : (xs ++ Array.replicate (fn.ntmps - xs.size) undef).getD n undef = x := by
        rw [Array.getD_eq_getD_getElem?, Array.getElem?_append_left hlt, hx']
        rfl
      rw [this]
      exact hr
    refine wpIn_mono (awp_sound hm c (.inl rfl) (N := ⟨fn.ntmps, w⟩) (Nat.le_refl _) hH.fresh _ _ h φ _ w hI) fun e a w' hq => ?_
    obtain ⟨ae, φ', s', rfl, hq, hI'⟩ := hq
    have fin : (∃ s2, LeS H.next s' s2 ∧ endF rs R s2) → LeavesInM Fence.wide 0 P fn a.tmps (fun e w' => ∃ φ' v x H', e = .returned x ∧ R v H' ∧ relA φ' v x ∧ HRel φ' H' w' ∧ Fr φ H w φ' H' w') a.defers .returning w' := by
      rintro ⟨s2, hle, he⟩
      obtain ⟨φ2, hI2⟩ := hle φ H w ⟨fn.ntmps, w⟩ φ' a w' (Nat.le_refl _) hH.fresh hI'
      unfold endF at he
      split at he
      · rename_i vs hvs
        refine leaves_marks hI2.defers hI2.heap hI2.fr fun w2 hH2 hF2 => ?_
        have hI3 : Inv φ H w ⟨fn.ntmps, w2⟩ φ2 s2 { a with defers := [] } w2 [] := ⟨hI2.sok.toSame, hH2, hF2, trivial, hI2.size, Oth.refl _⟩
        obtain ⟨x, hx, hr⟩ := run_results hI3 hrs hvs
        exact ⟨x, hx, φ2, _, x, s2.heap, rfl, he, hr, hH2, hF2⟩
      · exact he.elim
    cases ae with
    | normal => exact fin ((endQ_of (e := .normal) nofun).1 hq)
    | ret => exact fin ((endQ_of (e := .ret) nofun).1 hq)
    | exit id => exact (endQ_exit hq).elim

end Go.AM

namespace Go.AM
set_option linter.unusedVariables false
set_option linter.unusedSimpArgs false
variable {P : Program} {φ : Emb} {w : World}

def nthO : List Nat → Nat → Option Nat
  | [], _ => none
  | j :: _, 0 => some j
  | _ :: r, i + 1 => nthO r i
def ren (φ : Emb) (l : List Nat) : Emb := fun i => match nthO l i with | some j => φ j | none => none

def leA (l : List Nat) (a a' : AA) : Prop := nthO l a'.id = some a.id ∧ a.idx = a'.idx ∧ a.off = a'.off ∧ a.sub = a'.sub
def leAL (l : List Nat) : List AA → List AA → Prop
  | [], [] => True
  | a :: r, a' :: r' => leA l a a' ∧ leAL l r r'
  | _, _ => False
def leC (l : List Nat) : CV → CV → Prop
  | .ptr a, .ptr a' => leA l a a'
  | .slice a i n, .slice a' i' n' => leA l a a' ∧ i = i' ∧ n = n'
  | .nils, .slice _ _ n' => n' = 0
  | .slice a i n, .full a' n' t' => leA l a a' ∧ i = false ∧ n = n' ∧ t' = n ∧ 0 < n
  | .full a n t, .full a' n' t' => leA l a a' ∧ n = n' ∧ t = t'
  | .full a n _, .slice a' i' n' => leA l a a' ∧ i' = false ∧ n = n'
  | .map i, .map i' => nthO l i' = some i
  | .fn f a b, .fn f' a' b' => f = f' ∧ leAL l a a' ∧ leAL l b b'
  | .bool b, .bool b' => b = b'
  | .int k n, .int k' n' => k = k' ∧ n = n'
  | .str s, .str s' => s = s'
  | .nilp, .nilp => True
  | .nils, .nils => True
  | .nilm, .nilm => True
  | .nilfn, .nilfn => True
  | .nilif, .nilif => True
  | .iface t k n, .iface t' k' n' => t = t' ∧ k = k' ∧ n = n'
  | _, _ => False
def leSeg (l : List Nat) : Seg → Seg → Prop
  | .c v, .c v' => leC l v v'
  | .a n f, .a n' f' => n = n' ∧ ∀ i, i < n → leC l (f i) (f' i)
  | _, _ => False
def leSegs (l : List Nat) : List Seg → List Seg → Prop
  | [], [] => True
  | s :: r, s' :: r' => leSeg l s s' ∧ leSegs l r r'
  | _, _ => False
def leV1 (l : List Nat) : AV → AV → Prop
  | _, .bot => True
  | .c v, .c v' => leC l v v'
  | .agg s, .agg s' => leSegs l s s'
  | _, _ => False
def leVL (l : List Nat) : List AV → List AV → Prop
  | [], [] => True
  | v :: r, v' :: r' => leV1 l v v' ∧ leVL l r r'
  | _, _ => False
def leV (l : List Nat) : AV → AV → Prop
  | .tup a, .tup a' => leVL l a a'
  | v, v' => leV1 l v v'

theorem ren_of {l : List Nat} {i j : Nat} (h : nthO l i = some j) : ren φ l i = φ j := by unfold ren; rw [h]

theorem leA_rel {l : List Nat} {a a' : AA} (h : leA l a a') {x : Value} (r : relP φ a x) : relP (ren φ l) a' x := by
  obtain ⟨p, hp, rfl⟩ := r
  obtain ⟨h1, h2, h3, h4⟩ := h
  exact ⟨p, by rw [ren_of h1]; exact hp, by unfold Place.at; rw [h2, h3, h4]⟩
theorem leAL_rel {l : List Nat} : ∀ {a a' : List AA} (h : leAL l a a') {xs : List Value} (r : F2 (relP φ) a xs), F2 (relP (ren φ l)) a' xs
  | [], [], _, _, .nil => .nil
  | _ :: _, _ :: _, h, _, .cons h1 h2 => .cons (leA_rel h.1 h1) (leAL_rel h.2 h2)

theorem leC_rel {l : List Nat} {v v' : CV} (h : leC l v v') {x : Value} (r : rel φ v x) : rel (ren φ l) v' x := by
  cases v <;> cases v' <;> first | exact h.elim | skip
  case ptr.ptr => exact leA_rel h r
  case slice.slice a i n a' i' n' =>
    obtain ⟨h1, rfl, rfl⟩ := h
    obtain ⟨r, cap, e, hl, k⟩ := r
    obtain ⟨h1, h2, h3, h4⟩ := h1
    refine ⟨r, cap, e, hl, k.imp (fun k => ⟨k.1, k.2.1, by rw [← h2]; exact k.2.2⟩) fun ⟨p, hp, e, k⟩ => ⟨p, by rw [ren_of h1]; exact hp, by rw [e]; unfold Place.at; rw [h2, h3, h4], by rw [← h2, ← h3, ← h4]; exact k⟩⟩
  case nils.slice a' i' n' =>
    cases h
    exact ⟨none, 0, r, Nat.le_refl _, .inl ⟨rfl, rfl, .inl rfl⟩⟩
  case slice.full a i n a' n' t' =>
    obtain ⟨⟨h1, h2, h3, h4⟩, rfl, rfl, rfl, h0⟩ := h
    obtain ⟨r, cap, e, hl, k⟩ := r
    rcases k with ⟨k, _⟩ | ⟨p, hp, e2, k⟩
    · omega
    · obtain ⟨k1, k2, k3⟩ := k rfl
      exact ⟨p, cap, by rw [ren_of h1]; exact hp, by rw [e, e2]; unfold Place.at; rw [h2, h3, h4], Nat.le_refl _, hl, by rw [← h3]; exact k1, by rw [← h4]; exact k2, by rw [← h2]; exact k3⟩
  case full.full a n t a' n' t' =>
    obtain ⟨⟨h1, h2, h3, h4⟩, rfl, rfl⟩ := h
    obtain ⟨p, cap, hp, e, q1, q2, q3, q4, q5⟩ := r
    exact ⟨p, cap, by rw [ren_of h1]; exact hp, by rw [e]; unfold Place.at; rw [h2, h3, h4], q1, q2, by rw [← h3]; exact q3, by rw [← h4]; exact q4, by rw [← h2]; exact q5⟩
  case full.slice a n t a' i' n' =>
    obtain ⟨⟨h1, h2, h3, h4⟩, rfl, rfl⟩ := h
    obtain ⟨p, cap, hp, e, q1, q2, q3, q4, q5⟩ := r
    exact ⟨_, cap, e, by omega, .inr ⟨p, by rw [ren_of h1]; exact hp, by unfold Place.at; rw [h2, h3, h4], fun _ => ⟨by rw [← h3]; exact q3, by rw [← h4]; exact q4, by rw [← h2]; exact q5⟩⟩⟩
  case map.map => obtain ⟨p, hp, k⟩ := r; exact ⟨p, by rw [ren_of h]; exact hp, k⟩
  case fn.fn =>
    obtain ⟨rfl, h1, h2⟩ := h
    obtain ⟨l', m, e, k1, k2⟩ := r
    exact ⟨l', m, e, leAL_rel h1 k1, leAL_rel h2 k2⟩
  case bool.bool => cases h; exact r
  case int.int => obtain ⟨rfl, rfl⟩ := h; exact r
  case str.str => cases h; exact r
  case iface.iface => obtain ⟨rfl, rfl, rfl⟩ := h; exact r
  all_goals exact r

theorem F2_map {α β γ : Type} {R : β → γ → Prop} (f : α → β) : ∀ (l : List α) (m : List γ), F2 R (l.map f) m ↔ F2 (fun a c => R (f a) c) l m
  | [], m => ⟨fun h => by cases h; exact .nil, fun h => by cases h; exact .nil⟩
  | a :: l, m => ⟨fun h => by cases h with | cons h1 h2 => exact .cons h1 ((F2_map f l _).1 h2), fun h => by cases h with | cons h1 h2 => exact .cons h1 ((F2_map f l _).2 h2)⟩
theorem F2.mono' {α β : Type} {R S : α → β → Prop} {l : List α} {m : List β} (h : F2 R l m) (hRS : ∀ a ∈ l, ∀ b, R a b → S a b) : F2 S l m := by
  induction h with
  | nil => exact .nil
  | cons h _ ih => exact .cons (hRS _ (by simp) _ h) (ih fun a ha => hRS a (by simp [ha]))

theorem leSeg_rel {l : List Nat} {s s' : Seg} (h : leSeg l s s') {xs : List Value} (r : F2 (rel φ) s.flat xs) : F2 (rel (ren φ l)) s'.flat xs := by
  cases s <;> cases s' <;> first | exact h.elim | skip
  case c.c => cases r with | cons h1 h2 => cases h2; exact .cons (leC_rel h h1) .nil
  case a.a n f n' f' =>
    obtain ⟨rfl, h⟩ := h
    simp only [Seg.flat] at r ⊢
    rw [F2_map] at r ⊢
    exact r.mono' fun i hi x hx => leC_rel (h i (by simpa using hi)) hx
theorem leSegs_rel {l : List Nat} : ∀ {s s' : List Seg} (h : leSegs l s s') {xs : List Value} (r : F2 (rel φ) (flat s) xs), F2 (rel (ren φ l)) (flat s') xs
  | [], [], _, _, .nil => .nil
  | [], _ :: _, h, _, _ => h.elim
  | _ :: _, [], h, _, _ => h.elim
  | s :: r, s' :: r', h, xs, hx => by
    obtain ⟨a, b, rfl, k1, k2⟩ := F2.split (l := s.flat) (m := flat r) hx
    exact (leSeg_rel h.1 k1).append (leSegs_rel h.2 k2)

theorem leV1_rel1 {l : List Nat} {v v' : AV} (h : leV1 l v v') {x : Value} (r : rel1 φ v x) : rel1 (ren φ l) v' x := by
  cases v' with
  | bot => trivial
  | c v' => cases v <;> first | exact h.elim | exact leC_rel h r
  | agg s' => cases v <;> first | exact h.elim | exact (let ⟨cs, e, k⟩ := r; ⟨cs, e, leSegs_rel h k⟩)
  | tup => cases v <;> exact h.elim
theorem leVL_rel {l : List Nat} : ∀ {v v' : List AV} (h : leVL l v v') {xs : List Value} (r : F2 (rel1 φ) v xs), F2 (rel1 (ren φ l)) v' xs
  | [], [], _, _, .nil => .nil
  | _ :: _, _ :: _, h, _, .cons h1 h2 => .cons (leV1_rel1 h.1 h1) (leVL_rel h.2 h2)
theorem leV_rel {l : List Nat} {v v' : AV} (h : leV l v v') {x : Value} (r : relA φ v x) : relA (ren φ l) v' x := by
  cases v with
  | tup a =>
    cases v' with
    | tup a' => obtain ⟨xs, e, k⟩ := r; exact ⟨xs, e, leVL_rel h k⟩
    | bot => trivial
    | _ => exact h.elim
  | bot => cases v' <;> first | exact h.elim | trivial
  | c v => cases v' <;> first | exact h.elim | exact leC_rel h r | trivial
  | agg v => cases v' <;> first | exact h.elim | exact (let ⟨cs, e, k⟩ := r; ⟨cs, e, leSegs_rel h k⟩) | trivial

def leCs (l : List Nat) : List CV → List CV → Prop
  | [], [] => True
  | a :: r, b :: m => leC l a b ∧ leCs l r m
  | _, _ => False
theorem leKs_cols {l : List Nat} {N : Nat} : ∀ {K K' : List Seg}, leSegs l K K' → (∀ s ∈ K, ∃ f, s = Seg.a N f) → (∀ s ∈ K', ∃ f, s = Seg.a N f) ∧ ∀ i, i < N → leCs l (K.map (cellAt i)) (K'.map (cellAt i))
  | [], [], _, _ => ⟨fun s h => (by cases h), fun i _ => trivial⟩
  | [], _ :: _, h, _ => h.elim
  | _ :: _, [], h, _ => h.elim
  | s :: K, s' :: K', h, hK => by
    obtain ⟨f, rfl⟩ := hK s (by simp)
    obtain ⟨h1, h2⟩ := leKs_cols h.2 fun t ht => hK t (by simp [ht])
    cases s' with
    | c v => exact h.1.elim
    | a n g =>
      obtain ⟨rfl, hg⟩ := h.1
      refine ⟨fun t ht => ?_, fun i hi => ⟨hg i hi, h2 i hi⟩⟩
      cases ht with
      | head => exact ⟨g, rfl⟩
      | tail _ ht => exact h1 t ht
theorem leSegs_cols {l : List Nat} {N : Nat} {v : Nat → CV} {K L : List Seg} (h : leSegs l (.a N v :: K) L) (hK : ∀ s ∈ K, ∃ f, s = Seg.a N f) :
    ∃ N' v' K', L = .a N' v' :: K' ∧ (N = N' ∧ ∀ i, i < N → leC l (v i) (v' i)) ∧ (∀ s ∈ K', ∃ f, s = Seg.a N f) ∧ ∀ i, i < N → leCs l (K.map (cellAt i)) (K'.map (cellAt i)) := by
  cases L with
  | nil => exact h.elim
  | cons s L =>
    cases s with
    | c v => exact h.1.elim
    | a n g =>
      obtain ⟨rfl, hg⟩ := h.1
      exact ⟨_, g, L, rfl, ⟨rfl, hg⟩, leKs_cols h.2 hK⟩
theorem leCs_segs {l : List Nat} : ∀ {a b : List CV}, leCs l a b → leSegs l (a.map Seg.c) (b.map Seg.c)
  | [], [], _ => trivial
  | [], _ :: _, h => h.elim
  | _ :: _, [], h => h.elim
  | _ :: _, _ :: _, h => ⟨h.1, leCs_segs h.2⟩
theorem leKey_rel {l : List Nat} {a b : List CV} (h : leCs l a b) {x : Value} (r : relA φ (keyAV a) x) : relA (ren φ l) (keyAV b) x := by
  have hl : leV l (keyAV a) (keyAV b) := by
    match a, b, h with
    | [], [], _ => exact trivial
    | [], _ :: _, h => exact h.elim
    | _ :: _, [], h => exact h.elim
    | [_], [_], h => exact h.1
    | [_], _ :: _ :: _, h => exact h.2.elim
    | _ :: _ :: _, [_], h => exact h.2.elim
    | _ :: _ :: _, _ :: _ :: _, h => exact leCs_segs h
  exact leV_rel hl r
def leNn : Nat → Nat → Nat → Prop
  | 0, a, b => a = b
  | _ + 1, a, b => a ≤ b
theorem leNn_le {s a b : Nat} (h : leNn s a b) : a ≤ b := by
  cases s with
  | zero => exact Nat.le_of_eq h
  | succ s => exact h
theorem sz_zero {B : Blk} (h : B.n = 0) : B.sz = some 0 := by
  unfold Blk.n at h
  cases hs : B.sz with
  | none => rw [hs] at h; simp at h
  | some m => rw [hs] at h; simp at h; rw [h]
def leB (l : List Nat) (B B' : Blk) : Prop := B'.str = B.str ∧ B'.elem = B.elem ∧ (B'.wr = true → B.wr = true) ∧ leNn B'.str B'.n B.n ∧ ∀ i, (i < B'.n ∨ B'.str = 0) → leSegs l (B.row i) (B'.row i)
theorem leB_rel {l : List Nat} {B B' : Blk} (h : leB l B B') {p : Place} (r : BRel φ B p w) : BRel (ren φ l) B' p w := by
  obtain ⟨h1, h2, h3, h40, h5⟩ := h
  have h4 := leNn_le h40
  refine ⟨r.str.trans h1.symm, fun i hi => ?_, fun hw => ?_⟩
  · obtain ⟨xs, k1, k2, k3⟩ := r.rows i (by omega)
    exact ⟨xs, leSegs_rel (h5 i (.inl hi)) k1, k2.trans h1.symm, k3⟩
  · rcases r.own (h3 hw) with ⟨⟨e1, e2, e3, cs, e4, e5⟩, hnm⟩ | ⟨e1, e2, N, v, K, es, c, k1, k2, k3, k4, k5⟩
    · refine .inl ⟨⟨e1, by omega, e3, cs, by rw [h2]; exact e4, e5⟩, fun hm => ?_⟩
      refine hnm ⟨h1.symm.trans hm.1, sz_zero ?_⟩
      rw [hm.1] at h40
      have : B'.n = 0 := by simp [Blk.n, hm.2]
      exact (h40 : B'.n = B.n).symm.trans this
    · have hz : B.n = 0 := by simp [Blk.n, e2]
      have hsz : B'.sz = some 0 := sz_zero (by omega)
      have hle := h5 0 (.inr (h1.trans e1))
      rw [k1] at hle
      obtain ⟨N', v', K', e', g1, g2⟩ := leSegs_cols hle k2
      rw [e'] at hle
      obtain ⟨rfl, hv⟩ := g1
      exact .inr ⟨h1.trans e1, hsz, N, v', K', es, c, e', g2.1, k3, k4, fun i e he => ⟨leC_rel (hv i (by rw [← k4]; exact (Array.getElem?_eq_some_iff.1 he).1)) (k5 i e he).1, leKey_rel (g2.2 i (by rw [← k4]; exact (Array.getElem?_eq_some_iff.1 he).1)) (k5 i e he).2⟩⟩

def leBlks (l : List Nat) (H : List (Nat × Blk)) : List (Nat × Blk) → Prop
  | [] => True
  | (i, B') :: r => (match nthO l i with | none => True | some j => match getB H j with | none => False | some B => leB l B B') ∧ leBlks l H r
theorem leBlks_get {l : List Nat} {H : List (Nat × Blk)} : ∀ {H' : List (Nat × Blk)}, leBlks l H H' → ∀ {i B'}, getB H' i = some B' → ∀ {j}, nthO l i = some j → ∃ B, getB H j = some B ∧ leB l B B'
  | [], _, i, B', h, _, _ => by simp [getB] at h
  | (k, C) :: r, hl, i, B', h, j, hj => by
    simp only [leBlks] at hl
    simp only [getB] at h
    cases hb : Nat.beq k i with
    | false => rw [hb] at h; exact leBlks_get hl.2 h hj
    | true =>
      rw [hb] at h
      cases h
      have := Nat.eq_of_beq_eq_true hb
      subst this
      have h1 := hl.1
      rw [hj] at h1
      simp only at h1
      cases hg : getB H j with
      | none => rw [hg] at h1; exact h1.elim
      | some B => rw [hg] at h1; exact ⟨B, rfl, h1⟩

def notIn (i : Nat) : List Nat → Prop
  | [] => True
  | j :: r => Nat.beq i j = false ∧ notIn i r
def diff : List Nat → Prop
  | [] => True
  | j :: r => notIn j r ∧ diff r
theorem notIn_ne {i : Nat} : ∀ {l : List Nat}, notIn i l → ∀ {k j}, nthO l k = some j → i ≠ j
  | [], _, _, _, h => by simp [nthO] at h
  | x :: r, hn, 0, j, h => by simp only [nthO, Option.some.injEq] at h; subst h; intro e; subst e; simp [notIn] at hn
  | x :: r, hn, k + 1, j, h => notIn_ne hn.2 (by simpa [nthO] using h)
theorem diff_ne : ∀ {l : List Nat}, diff l → ∀ {i k a b}, nthO l i = some a → nthO l k = some b → i ≠ k → a ≠ b
  | [], _, _, _, _, _, h, _, _ => by simp [nthO] at h
  | x :: r, hd, 0, 0, a, b, h, k, hne => absurd rfl hne
  | x :: r, hd, 0, k + 1, a, b, h, hk, hne => by
    simp only [nthO, Option.some.injEq] at h
    subst h
    exact notIn_ne hd.1 (by simpa [nthO] using hk)
  | x :: r, hd, i + 1, 0, a, b, h, hk, hne => by
    simp only [nthO, Option.some.injEq] at hk
    subst hk
    exact (notIn_ne hd.1 (by simpa [nthO] using h)).symm
  | x :: r, hd, i + 1, k + 1, a, b, h, hk, hne => diff_ne hd.2 (by simpa [nthO] using h) (by simpa [nthO] using hk) (by omega)

theorem nthO_lt : ∀ {l : List Nat} {i j : Nat}, nthO l i = some j → i < l.length
  | [], _, _, h => by simp [nthO] at h
  | _ :: _, 0, _, _ => by simp
  | _ :: r, i + 1, j, h => by have := nthO_lt (l := r) (by simpa [nthO] using h); simp; omega
theorem nthO_get : ∀ {l : List Nat} {i : Nat}, i < l.length → ∃ j, nthO l i = some j
  | [], _, h => by simp at h
  | j :: _, 0, _ => ⟨j, rfl⟩
  | _ :: r, i + 1, h => by obtain ⟨j, hj⟩ := nthO_get (l := r) (i := i) (by simpa using h); exact ⟨j, by simpa [nthO] using hj⟩

theorem ren_some {l : List Nat} {i : Nat} {p : Place} (h : ren φ l i = some p) : ∃ j, nthO l i = some j ∧ φ j = some p := by
  unfold ren at h
  cases hl : nthO l i with
  | none => simp [hl] at h
  | some j => exact ⟨j, rfl, by simpa [hl] using h⟩

theorem HRel.renG {H H' : Heap} (h : HRel φ H w) {l : List Nat} (hd : diff l) (hn : l.length ≤ H'.next) (hb : leBlks l H.blks H'.blks) : HRel (ren φ l) H' w where
  blk := fun i B p hB hp => by
    obtain ⟨j, hj, hp⟩ := ren_some hp
    obtain ⟨C, hC, hle⟩ := leBlks_get hb hB hj
    exact leB_rel hle (h.blk j C p hC hp)
  inj := fun i k B C p q hB hC hp hq hne hw => by
    obtain ⟨j, hj, hp⟩ := ren_some hp
    obtain ⟨m, hm, hq⟩ := ren_some hq
    obtain ⟨B', hB', hle⟩ := leBlks_get hb hB hj
    obtain ⟨C', hC', hle'⟩ := leBlks_get hb hC hm
    exact h.inj j m B' C' p q hB' hC' hp hq (diff_ne hd hj hm hne) (hle.2.2.1 hw)
  fresh := fun i hi => by
    unfold AM.ren
    cases hl : nthO l i with
    | none => rfl
    | some j => have := nthO_lt hl; omega
  lt := fun i p hp => by
    obtain ⟨j, hj, hp⟩ := ren_some hp
    exact h.lt j p hp

theorem HRel.ren {H H' : Heap} (h : HRel φ H w) {l : List Nat} (hd : diff l) (hn : H'.next = l.length) (hb : leBlks l H.blks H'.blks) : HRel (ren φ l) H' w := h.renG hd (Nat.le_of_eq hn.symm) hb

def slotsLe (l : List Nat) (s : List Slot) : List Slot → Prop
  | [] => True
  | ⟨n, [], v'⟩ :: r => (match v' with
    | .bot => True
    | v' => match slotAt s n with
      | some ⟨_, [], v⟩ => leV l v v'
      | _ => False) ∧ slotsLe l s r
  | ⟨_, _ :: _, _⟩ :: _ => False
theorem slotsLe_get {l : List Nat} {s : List Slot} : ∀ {s' : List Slot}, slotsLe l s s' → ∀ {n sl}, slotAt s' n = some sl → sl.n = n ∧ sl.path = [] ∧ (sl.v = .bot ∨ ∃ k v, slotAt s n = some ⟨k, [], v⟩ ∧ leV l v sl.v)
  | [], _, n, sl, h => by simp [slotAt] at h
  | ⟨k, [], v'⟩ :: r, hl, n, sl, h => by
    simp only [slotsLe] at hl
    by_cases hn : n = k
    · subst hn
      rw [slotAt_cons_self] at h
      cases h
      refine ⟨rfl, rfl, ?_⟩
      have h1 := hl.1
      cases v' with
      | bot => exact .inl rfl
      | _ =>
        refine .inr ?_
        simp only at h1
        split at h1
        · rename_i hs; exact ⟨_, _, hs, h1⟩
        · exact h1.elim
    · rw [slotAt_cons_ne hn] at h
      exact slotsLe_get hl.2 h
  | ⟨k, e :: p, v'⟩ :: r, hl, n, sl, h => hl.elim

def idTo (l : List Nat) (n : Nat) : Prop := ∀ i, i < n → nthO l i = some i

theorem LeS.introG {n : Nat} {s s' : St} (l : List Nat) (hi : idTo l n) (hd : diff l) (hn : l.length ≤ s'.heap.next) (hs : slotsLe l s.tmps s'.tmps) (hb : leBlks l s.heap.blks s'.heap.blks) : LeS n s s' := by
  intro φ₀ H₀ w₀ N φ a w h0 hf0 hI
  have hlen : n ≤ l.length := by
    cases n with
    | zero => omega
    | succ m => have := nthO_lt (hi m (by omega)); omega
  have hsm : ∀ i, i < n → ren φ l i = φ i := fun i h => ren_of (hi i h)
  have hH := hI.heap.renG hd hn hb
  refine ⟨ren φ l, ⟨fun n sl hsl => ?_, hH, ?_, hI.defers, hI.size, hI.oth⟩⟩
  · obtain ⟨h1, h2, h3⟩ := slotsLe_get hs hsl
    obtain ⟨k, p, v⟩ := sl
    simp only at h1 h2 h3
    subst h1 h2
    refine ⟨rfl, fun _ => ?_, fun hc => absurd trivial hc, trivial, fun e he => by cases he⟩
    rcases h3 with h3 | ⟨k', v', hs', hle⟩
    · subst h3; trivial
    · exact leV_rel hle ((hI.sok k _ hs').on trivial)
  · have hf := hI.fr
    refine ⟨fun i p hp => ?_, fun i hi' => ?_, by omega, hf.size, hf.os, hf.tape, hf.output, hf.old, fun i B p hB hw hp => ?_⟩
    · by_cases hlt : i < n
      · rw [hsm i hlt]; exact hf.le i p hp
      · rw [hf0 i (by omega)] at hp; cases hp
    · rw [hsm i (by omega)]; exact hf.same i hi'
    · obtain ⟨j, hj, hp⟩ := ren_some hp
      obtain ⟨C, hC, hle⟩ := leBlks_get hb hB hj
      exact hf.own j C p hC (hle.2.2.1 hw) hp
theorem LeS.intro {n : Nat} {s s' : St} (l : List Nat) (hi : idTo l n) (hd : diff l) (hn : s'.heap.next = l.length) (hs : slotsLe l s.tmps s'.tmps) (hb : leBlks l s.heap.blks s'.heap.blks) : LeS n s s' := LeS.introG l hi hd (Nat.le_of_eq hn.symm) hs hb

end Go.AM

namespace Go.AM
set_option linter.unusedVariables false
set_option linter.unusedSimpArgs false
variable {P : Program} {φ : Emb} {w : World}

def gId : List Nat → Nat → Nat → Nat
  | [], n, 0 => n
  | [], n, i + 1 => n + (i + 1)
  | j :: _, _, 0 => j
  | _ :: r, n, i + 1 => gId r n i

def mapA (g : Nat → Nat) (a : AA) : AA := ⟨g a.id, a.idx, a.off, a.sub⟩
def mapAL (g : Nat → Nat) : List AA → List AA
  | [] => []
  | a :: r => mapA g a :: mapAL g r
def mapC (g : Nat → Nat) : CV → CV
  | .ptr a => .ptr (mapA g a)
  | .slice a i n => .slice (mapA g a) i n
  | .full a n t => .full (mapA g a) n t
  | .map i => .map (g i)
  | .fn f a b => .fn f (mapAL g a) (mapAL g b)
  | .bool b => .bool b
  | .int k n => .int k n
  | .str s => .str s
  | .nilp => .nilp
  | .nils => .nils
  | .nilm => .nilm
  | .nilfn => .nilfn
  | .nilif => .nilif
  | .iface t k n => .iface t k n
def mapSeg (g : Nat → Nat) : Seg → Seg
  | .c v => .c (mapC g v)
  | .a n f => .a n (fun i => mapC g (f i))
def mapSegs (g : Nat → Nat) : List Seg → List Seg
  | [] => []
  | s :: r => mapSeg g s :: mapSegs g r
def mapV1 (g : Nat → Nat) : AV → AV
  | .bot => .bot
  | .c v => .c (mapC g v)
  | .agg l => .agg (mapSegs g l)
  | .tup _ => .bot
def mapVL (g : Nat → Nat) : List AV → List AV
  | [] => []
  | v :: r => mapV1 g v :: mapVL g r
def mapV (g : Nat → Nat) : AV → AV
  | .bot => .bot
  | .c v => .c (mapC g v)
  | .agg l => .agg (mapSegs g l)
  | .tup l => .tup (mapVL g l)
def mapB (g : Nat → Nat) (B : Blk) : Blk := ⟨B.str, B.sz, fun i => mapSegs g (B.row i), B.elem, B.wr⟩

def GOk (g : Nat → Nat) (φ ψ : Emb) : Prop := ∀ i p, φ i = some p → ψ (g i) = some p

theorem mapA_rel {g : Nat → Nat} {ψ : Emb} (hg : GOk g φ ψ) {a : AA} {x : Value} (r : relP φ a x) : relP ψ (mapA g a) x := by
  obtain ⟨p, hp, rfl⟩ := r
  exact ⟨p, hg _ _ hp, rfl⟩
theorem mapAL_rel {g : Nat → Nat} {ψ : Emb} (hg : GOk g φ ψ) : ∀ {a : List AA} {xs : List Value}, F2 (relP φ) a xs → F2 (relP ψ) (mapAL g a) xs
  | [], _, .nil => .nil
  | _ :: _, _, .cons h1 h2 => .cons (mapA_rel hg h1) (mapAL_rel hg h2)
theorem mapC_rel {g : Nat → Nat} {ψ : Emb} (hg : GOk g φ ψ) {v : CV} {x : Value} (r : rel φ v x) : rel ψ (mapC g v) x := by
  cases v with
  | ptr a => exact mapA_rel hg r
  | slice a i n =>
    obtain ⟨r, cap, e, hl, k⟩ := r
    exact ⟨r, cap, e, hl, k.imp id fun ⟨p, hp, e, k⟩ => ⟨p, hg _ _ hp, e, k⟩⟩
  | full a n t => obtain ⟨p, cap, hp, k⟩ := r; exact ⟨p, cap, hg _ _ hp, k⟩
  | map i => obtain ⟨p, hp, k⟩ := r; exact ⟨p, hg _ _ hp, k⟩
  | fn f a b =>
    obtain ⟨l', m, e, k1, k2⟩ := r
    exact ⟨l', m, e, mapAL_rel hg k1, mapAL_rel hg k2⟩
  | _ => exact r
theorem mapSeg_flat (g : Nat → Nat) (s : Seg) : (mapSeg g s).flat = s.flat.map (mapC g) := by
  cases s <;> simp [mapSeg, Seg.flat]
theorem mapSegs_flat (g : Nat → Nat) : ∀ l, flat (mapSegs g l) = (flat l).map (mapC g)
  | [] => rfl
  | s :: r => by simp [mapSegs, flat, mapSeg_flat, mapSegs_flat g r]
theorem mapSegs_rel {g : Nat → Nat} {ψ : Emb} (hg : GOk g φ ψ) {l : List Seg} {xs : List Value} (r : F2 (rel φ) (flat l) xs) : F2 (rel ψ) (flat (mapSegs g l)) xs := by
  rw [mapSegs_flat, F2_map]
  exact r.mono fun _ _ => mapC_rel hg
theorem mapV1_rel {g : Nat → Nat} {ψ : Emb} (hg : GOk g φ ψ) {v : AV} {x : Value} (r : rel1 φ v x) : rel1 ψ (mapV1 g v) x := by
  cases v with
  | bot => trivial
  | c v => exact mapC_rel hg r
  | agg l => obtain ⟨cs, e, k⟩ := r; exact ⟨cs, e, mapSegs_rel hg k⟩
  | tup => exact r.elim
theorem mapVL_rel {g : Nat → Nat} {ψ : Emb} (hg : GOk g φ ψ) : ∀ {v : List AV} {xs : List Value}, F2 (rel1 φ) v xs → F2 (rel1 ψ) (mapVL g v) xs
  | [], _, .nil => .nil
  | _ :: _, _, .cons h1 h2 => .cons (mapV1_rel hg h1) (mapVL_rel hg h2)
theorem mapV_rel {g : Nat → Nat} {ψ : Emb} (hg : GOk g φ ψ) {v : AV} {x : Value} (r : relA φ v x) : relA ψ (mapV g v) x := by
  cases v with
  | bot => trivial
  | c v => exact mapC_rel hg r
  | agg l => obtain ⟨cs, e, k⟩ := r; exact ⟨cs, e, mapSegs_rel hg k⟩
  | tup l => obtain ⟨xs, e, k⟩ := r; exact ⟨xs, e, mapVL_rel hg k⟩
theorem mapKey (g : Nat → Nat) (i : Nat) : ∀ K : List Seg, (mapSegs g K).map (cellAt i) = (K.map (cellAt i)).map (mapC g)
  | [] => rfl
  | s :: r => by simp only [mapSegs, List.map_cons, mapKey g i r]; cases s <;> rfl
theorem mapKeyAV (g : Nat → Nat) : ∀ l : List CV, keyAV (l.map (mapC g)) = mapV g (keyAV l)
  | [] => rfl
  | [_] => rfl
  | a :: b :: l => by
    have : ∀ m : List CV, (m.map (mapC g)).map Seg.c = mapSegs g (m.map Seg.c) := fun m => by
      induction m with
      | nil => rfl
      | cons x r ih => simp only [List.map_cons, mapSegs, mapSeg, ih]
    exact congrArg AV.agg (this (a :: b :: l))
theorem mapMB_rel {g : Nat → Nat} {ψ : Emb} (hg : GOk g φ ψ) {B : Blk} {p : Place} (r : MapB φ B p w) : MapB ψ (mapB g B) p w := by
  obtain ⟨a, b, N, v, K, es, c, h1, h2, h3, h4, h5⟩ := r
  refine ⟨a, b, N, fun i => mapC g (v i), mapSegs g K, es, c, ?_, ?_, h3, h4, fun i e he => ⟨mapC_rel hg (h5 i e he).1, ?_⟩⟩
  · show mapSegs g (B.row 0) = _
    rw [h1]
    rfl
  · have : ∀ L : List Seg, (∀ s ∈ L, ∃ f, s = Seg.a N f) → ∀ s ∈ mapSegs g L, ∃ f, s = Seg.a N f := fun L => by
      induction L with
      | nil => intro _ s h; cases h
      | cons t L ih =>
        intro hL s hs
        obtain ⟨f, rfl⟩ := hL t (by simp)
        cases hs with
        | head => exact ⟨_, rfl⟩
        | tail _ hs => exact ih (fun s h => hL s (by simp [h])) s hs
    exact this K h2
  · rw [mapKey, mapKeyAV]
    exact mapV_rel hg (h5 i e he).2
theorem mapB_rel {g : Nat → Nat} {ψ : Emb} (hg : GOk g φ ψ) {B : Blk} {p : Place} (r : BRel φ B p w) : BRel ψ (mapB g B) p w :=
  ⟨r.str, fun i hi => let ⟨xs, k1, k2, k3⟩ := r.rows i hi; ⟨xs, mapSegs_rel hg k1, k2, k3⟩, fun h => (r.own h).imp (fun h => ⟨h.1, h.2⟩) (mapMB_rel hg)⟩

def memN (i : Nat) : List Nat → Bool
  | [] => false
  | j :: r => match Nat.beq i j with | true => true | false => memN i r
theorem memN_iff {i : Nat} : ∀ {l : List Nat}, memN i l = true ↔ i ∈ l
  | [] => by simp [memN]
  | j :: r => by
    simp only [memN, List.mem_cons]
    cases hb : Nat.beq i j with
    | true => simp [Nat.eq_of_beq_eq_true hb]
    | false =>
      have : i ≠ j := fun e => by subst e; rw [Nat.beq_refl] at hb; cases hb
      simp [this, memN_iff (l := r)]

def keepB (l : List Nat) (H0 : List (Nat × Blk)) (i : Nat) (B : Blk) : Bool :=
  match B.wr with
  | false => false
  | true => match nthO l i with
    | none => true
    | some _ => match getB H0 i with
      | some C => C.wr
      | none => false
def newB (g : Nat → Nat) (l : List Nat) (H0 : List (Nat × Blk)) : List Nat → List (Nat × Blk) → List (Nat × Blk)
  | _, [] => []
  | seen, (i, B) :: r => match memN i seen with
    | true => newB g l H0 seen r
    | false => (match keepB l H0 i B with
      | true => (g i, mapB g B) :: newB g l H0 (i :: seen) r
      | false => newB g l H0 (i :: seen) r)
def goneB (l : List Nat) : List (Nat × Blk) → Nat → Bool
  | [], _ => false
  | (i, C) :: r, k => match C.wr with
    | false => goneB l r k
    | true => match nthO l i with
      | some j => (match Nat.beq j k with | true => true | false => goneB l r k)
      | none => goneB l r k
def dropB (l : List Nat) (H0 : List (Nat × Blk)) : List (Nat × Blk) → List (Nat × Blk)
  | [] => []
  | (k, B) :: r => match goneB l H0 k with
    | true => dropB l H0 r
    | false => (k, B) :: dropB l H0 r
def appB : List (Nat × Blk) → List (Nat × Blk) → List (Nat × Blk)
  | [], b => b
  | x :: a, b => x :: appB a b
def framed (H0 H : Heap) (l : List Nat) (H0' : Heap) : Heap :=
  ⟨gId l H.next H0'.next, appB (newB (gId l H.next) l H0.blks [] H0'.blks) (dropB l H0.blks H.blks)⟩

theorem newB_get {g : Nat → Nat} {l : List Nat} {H0 : List (Nat × Blk)} : ∀ {L : List (Nat × Blk)} {seen : List Nat} {k : Nat} {B' : Blk}, getB (newB g l H0 seen L) k = some B' → ∃ i B, i ∉ seen ∧ getB L i = some B ∧ k = g i ∧ B' = mapB g B ∧ keepB l H0 i B = true
  | [], _, _, _, h => by simp [newB, getB] at h
  | (i, B) :: r, seen, k, B', h => by
    simp only [newB] at h
    cases hm : memN i seen with
    | true =>
      rw [hm] at h
      obtain ⟨i', C, h1, h2, h3⟩ := newB_get h
      have : i' ≠ i := fun e => h1 (by rw [e]; exact memN_iff.1 hm)
      exact ⟨i', C, h1, by rw [getB_cons_ne this]; exact h2, h3⟩
    | false =>
      have hns : i ∉ seen := fun e => by rw [memN_iff.2 e] at hm; cases hm
      rw [hm] at h
      simp only at h
      have hrec : getB (newB g l H0 (i :: seen) r) k = some B' → ∃ i' C, i' ∉ seen ∧ getB ((i, B) :: r) i' = some C ∧ k = g i' ∧ B' = mapB g C ∧ keepB l H0 i' C = true := fun h => by
        obtain ⟨i', C, h1, h2, h3⟩ := newB_get h
        simp only [List.mem_cons, not_or] at h1
        exact ⟨i', C, h1.2, by rw [getB_cons_ne h1.1]; exact h2, h3⟩
      cases hk : keepB l H0 i B with
      | false => rw [hk] at h; exact hrec h
      | true =>
        rw [hk] at h
        simp only at h
        by_cases hki : k = g i
        · subst hki
          rw [getB_cons_self] at h
          cases h
          exact ⟨i, B, hns, getB_cons_self _ _ _, rfl, rfl, hk⟩
        · rw [getB_cons_ne hki] at h
          exact hrec h

theorem dropB_get {l : List Nat} {H0 : List (Nat × Blk)} : ∀ {L : List (Nat × Blk)} {k : Nat} {B : Blk}, getB (dropB l H0 L) k = some B → getB L k = some B ∧ goneB l H0 k = false
  | [], _, _, h => by simp [dropB, getB] at h
  | (j, C) :: r, k, B, h => by
    simp only [dropB] at h
    cases hg : goneB l H0 j with
    | true =>
      rw [hg] at h
      obtain ⟨h1, h2⟩ := dropB_get h
      have : k ≠ j := fun e => by rw [e, hg] at h2; cases h2
      exact ⟨by rw [getB_cons_ne this]; exact h1, h2⟩
    | false =>
      rw [hg] at h
      simp only at h
      by_cases hk : k = j
      · subst hk
        rw [getB_cons_self] at h ⊢
        exact ⟨h, hg⟩
      · rw [getB_cons_ne hk] at h ⊢
        exact dropB_get h

theorem goneB_no {l : List Nat} : ∀ {H0 : List (Nat × Blk)} {k : Nat}, goneB l H0 k = false → ∀ {i C j}, getB H0 i = some C → C.wr = true → nthO l i = some j → j ≠ k
  | [], _, _, _, _, _, h, _, _ => by simp [getB] at h
  | (m, D) :: r, k, hg, i, C, j, h, hw, hj => by
    by_cases hi : i = m
    · subst hi
      rw [getB_cons_self] at h
      cases h
      simp only [goneB, hw, hj] at hg
      intro e
      subst e
      rw [Nat.beq_refl] at hg
      cases hg
    · rw [getB_cons_ne hi] at h
      refine goneB_no (l := l) (H0 := r) ?_ h hw hj
      simp only [goneB] at hg
      split at hg
      · exact hg
      · split at hg
        · split at hg
          · cases hg
          · exact hg
        · exact hg

theorem getB_appB {a b : List (Nat × Blk)} {k : Nat} {B : Blk} (h : getB (appB a b) k = some B) : getB a k = some B ∨ (getB a k = none ∧ getB b k = some B) := by
  induction a with
  | nil => exact .inr ⟨rfl, h⟩
  | cons x r ih =>
    obtain ⟨i, C⟩ := x
    simp only [appB] at h
    by_cases hk : k = i
    · subst hk; rw [getB_cons_self] at h ⊢; exact .inl h
    · rw [getB_cons_ne hk] at h ⊢; exact ih h

def leArgs (l : List Nat) : List AV → List AV → Prop
  | [], [] => True
  | v :: r, v' :: r' => leV l v v' ∧ leArgs l r r'
  | _, _ => False
theorem leArgs_rel {l : List Nat} : ∀ {v v' : List AV} (h : leArgs l v v') {xs : List Value} (r : F2 (relA φ) v xs), F2 (relA (ren φ l)) v' xs
  | [], [], _, _, .nil => .nil
  | _ :: _, _ :: _, h, _, .cons h1 h2 => .cons (leV_rel h.1 h1) (leArgs_rel h.2 h2)

def allLt (l : List Nat) (n : Nat) : Prop := match l with
  | [] => True
  | j :: r => j < n ∧ allLt r n
theorem allLt_get : ∀ {l : List Nat} {n : Nat}, allLt l n → ∀ {i j}, nthO l i = some j → j < n
  | [], _, _, _, _, h => by simp [nthO] at h
  | _ :: _, _, h, 0, _, hj => by simp only [nthO, Option.some.injEq] at hj; subst hj; exact h.1
  | _ :: r, _, h, i + 1, _, hj => allLt_get h.2 (by simpa [nthO] using hj)
def keysLt (l : List (Nat × Blk)) (n : Nat) : Prop := match l with
  | [] => True
  | (j, _) :: r => j < n ∧ keysLt r n
theorem keysLt_get : ∀ {l : List (Nat × Blk)} {n : Nat}, keysLt l n → ∀ {i B}, getB l i = some B → i < n
  | [], _, _, _, _, h => by simp [getB] at h
  | (j, C) :: r, n, h, i, B, hB => by
    by_cases hi : i = j
    · subst hi; exact h.1
    · rw [getB_cons_ne hi] at hB; exact keysLt_get h.2 hB

theorem gId_lo {n : Nat} : ∀ {l : List Nat} {i j : Nat}, nthO l i = some j → gId l n i = j
  | [], _, _, h => by simp [nthO] at h
  | _ :: _, 0, _, h => by simp only [nthO, Option.some.injEq] at h; subst h; rfl
  | _ :: r, i + 1, j, h => by simp only [gId]; exact gId_lo (by simpa [nthO] using h)
theorem gId_hi {n : Nat} : ∀ {l : List Nat} {i : Nat}, l.length ≤ i → gId l n i = n + (i - l.length)
  | [], 0, _ => rfl
  | [], i + 1, _ => rfl
  | _ :: r, 0, h => by simp at h
  | _ :: r, i + 1, h => by simp only [gId]; rw [gId_hi (by simpa using h)]; simp

set_option maxHeartbeats 1000000 in
theorem Con.frame {f : FuncId} {args0 args : List AV} {H0 H : Heap} {R0 : Post} (h : Con P f args0 H0 R0) (l : List Nat) (hl : H0.next = l.length) (hd : diff l) (hlt : allLt l H.next) (hkl : keysLt H.blks H.next) (hb : leBlks l H.blks H0.blks) (ha : leArgs l args args0) :
    Con P f args H (fun v H' => ∃ v0 H0', R0 v0 H0' ∧ v = mapV (gId l H.next) v0 ∧ H' = framed H0 H l H0') := by
  refine ⟨h.1, fun φ w xs hF hH => ?_⟩
  refine (h.2 (AM.ren φ l) w xs (leArgs_rel ha hF) (hH.ren hd hl hb)).mono fun e w' ⟨φ0', v0, x, H0', he, hR, hv, hh, hfr⟩ => ?_
  subst he
  let ψ : Emb := fun k => if k < H.next then φ k else φ0' (l.length + (k - H.next))
  have hnx := hfr.nx
  have hψlo : ∀ k, k < H.next → ψ k = φ k := fun k hk => if_pos hk
  have hψhi : ∀ k, ¬ k < H.next → ψ k = φ0' (l.length + (k - H.next)) := fun k hk => if_neg hk
  have hle : φ.le ψ := fun i p hp => by
    by_cases hi : i < H.next
    · rw [hψlo i hi]; exact hp
    · rw [hH.fresh i (by omega)] at hp; cases hp
  have hgl : ∀ i, ψ (gId l H.next i) = φ0' i := fun i => by
    by_cases hi : i < l.length
    · obtain ⟨j, hj⟩ := nthO_get hi
      rw [gId_lo hj, hψlo j (allLt_get hlt hj), hfr.same i (by omega), ren_of hj]
    · rw [gId_hi (by omega), hψhi _ (by omega), show l.length + (H.next + (i - l.length) - H.next) = i by omega]
  have hg : GOk (gId l H.next) φ0' ψ := fun i p hp => by rw [hgl]; exact hp
  have hw0 : ∀ i C q, getB H0.blks i = some C → C.wr = true → AM.ren φ l i = some q → ∃ j D, nthO l i = some j ∧ φ j = some q ∧ getB H.blks j = some D ∧ D.wr = true := fun i C q hC hw hq => by
    obtain ⟨j, hj, hq⟩ := ren_some hq
    obtain ⟨D, hD, hle⟩ := leBlks_get hb hC hj
    exact ⟨j, D, hj, hq, hD, hle.2.2.1 hw⟩
  have hold : ∀ k B p, getB H.blks k = some B → goneB l H0.blks k = false → φ k = some p → w'.heap[p.blk]? = w.heap[p.blk]? := fun k B p hB hgn hp => by
    refine hfr.old _ (hH.lt k p hp) fun i C q hC hw hq => ?_
    obtain ⟨j, D, hj, hq, hD, hDw⟩ := hw0 i C q hC hw hq
    exact hH.inj j k D B q p hD hB hq hp (goneB_no hgn hC hw hj) hDw
  have hcase : ∀ k B p, getB (framed H0 H l H0').blks k = some B → ψ k = some p → (∃ i B0, getB H0'.blks i = some B0 ∧ φ0' i = some p ∧ k = gId l H.next i ∧ B = mapB (gId l H.next) B0 ∧ B0.wr = true) ∨ (getB H.blks k = some B ∧ goneB l H0.blks k = false ∧ φ k = some p) := fun k B p hB hp => by
    rcases getB_appB hB with hB | ⟨_, hB⟩
    · obtain ⟨i, B0, _, h2, h3, h4, h5⟩ := newB_get hB
      refine .inl ⟨i, B0, h2, by rw [← hgl, ← h3]; exact hp, h3, h4, ?_⟩
      unfold keepB at h5
      cases hw : B0.wr with
      | true => rfl
      | false => rw [hw] at h5; cases h5
    · obtain ⟨h1, h2⟩ := dropB_get hB
      exact .inr ⟨h1, h2, by rw [← hψlo k (keysLt_get hkl h1)]; exact hp⟩
  have hapart : ∀ i B0 p k C q, getB H0'.blks i = some B0 → φ0' i = some p → B0.wr = true → getB H.blks k = some C → goneB l H0.blks k = false → φ k = some q → p.blk ≠ q.blk := fun i B0 p k C q h1 h2 h3 g1 g2 g3 => by
    rcases hfr.own i B0 p h1 h3 h2 with hw | ⟨j, D, r, k1, k2, k3, k4⟩
    · have := hH.lt k q g3; omega
    · obtain ⟨m, E, hm, hr, hE, hEw⟩ := hw0 j D r k1 k2 k3
      rw [← k4]
      exact hH.inj m k E C r q hE g1 hr g3 (goneB_no g2 k1 k2 hm) hEw
  have hnext : (framed H0 H l H0').next = H.next + (H0'.next - l.length) := by
    simp only [framed]
    exact gId_hi (by omega)
  refine ⟨ψ, mapV (gId l H.next) v0, x, framed H0 H l H0', rfl, ⟨v0, H0', hR, rfl, rfl⟩, mapV_rel hg hv, ⟨fun k B p hB hp => ?_, fun k m B C p q hB hC hp hq hne hw => ?_, fun k hk => ?_, fun k p hp => ?_⟩, ⟨hle, fun i hi => hψlo i hi, by omega, hfr.size, hfr.os, hfr.tape, hfr.output, fun b hb' hno => ?_, fun k B p hB hw hp => ?_⟩⟩
  · rcases hcase k B p hB hp with ⟨i, B0, h1, h2, h3, rfl, h5⟩ | ⟨h1, h2, h3⟩
    · exact mapB_rel hg (hh.blk i B0 p h1 h2)
    · have hbk := hH.blk k B p h1 h3
      have ho := hold k B p h1 h2 h3
      refine ⟨hbk.str, fun i hi => ?_, fun hw => ?_⟩
      · obtain ⟨xs, k1, k2, k3⟩ := hbk.rows i hi
        refine ⟨xs, k1.mono fun _ _ => rel_mono hle, k2, fun j x hx => ?_⟩
        have := k3 j x hx
        unfold World.cell? at this ⊢
        rw [ho]
        exact this
      · exact own_mono hle (own_keep ho (hbk.own hw))
  · rcases hcase k B p hB hp with ⟨i, B0, h1, h2, h3, _, h5⟩ | ⟨h1, h2, h3⟩ <;> rcases hcase m C q hC hq with ⟨i', B0', g1, g2, g3, _, g5⟩ | ⟨g1, g2, g3⟩
    · exact hh.inj i i' B0 B0' p q h1 g1 h2 g2 (fun e => hne (by rw [h3, g3, e])) h5
    · exact hapart i B0 p m C q h1 h2 h5 g1 g2 g3
    · exact (hapart i' B0' q k B p g1 g2 g5 h1 h2 h3).symm
    · exact hH.inj k m B C p q h1 g1 h3 g3 hne hw
  · rw [hnext] at hk
    rw [hψhi k (by omega)]
    exact hh.fresh _ (by omega)
  · by_cases hk : k < H.next
    · rw [hψlo k hk] at hp
      exact Nat.lt_of_lt_of_le (hH.lt k p hp) hfr.size
    · rw [hψhi k hk] at hp
      exact hh.lt _ p hp
  · refine hfr.old b hb' fun i C q hC hw hq => ?_
    obtain ⟨j, D, _, hq, hD, hDw⟩ := hw0 i C q hC hw hq
    exact hno j D q hD hDw hq
  · rcases hcase k B p hB hp with ⟨i, B0, h1, h2, h3, _, h5⟩ | ⟨h1, h2, h3⟩
    · rcases hfr.own i B0 p h1 h5 h2 with hw' | ⟨j, D, r, k1, k2, k3, k4⟩
      · exact .inl hw'
      · obtain ⟨m, E, _, hr, hE, hEw⟩ := hw0 j D r k1 k2 k3
        exact .inr ⟨m, E, r, hE, hEw, hr, k4⟩
    · exact .inr ⟨k, B, p, h1, hw, h3, rfl⟩

theorem Con.weaken {f : FuncId} {args : List AV} {H : Heap} {R R' : Post} (h : Con P f args H R) (hR : ∀ v H', R v H' → R' v H') : Con P f args H R' :=
  ⟨h.1, fun φ w xs hF hH => (h.2 φ w xs hF hH).mono fun e w' ⟨φ', v, x, H', he, hr, k⟩ => ⟨φ', v, x, H', he, hR v H' hr, k⟩⟩

end Go.AM

namespace Go.AM
set_option linter.unusedVariables false
set_option linter.unusedSimpArgs false
variable {P : Program} {Con' : ConT} {Le : LeT}

def runA (Con : ConT) (Le : LeT) : List ACode → St → (AEx → St → Prop) → Prop
  | [], s, Q => Q .normal s
  | a :: k, s, Q => awp Con Le a s fun e s' => match e with
    | .normal => runA Con Le k s' Q
    | .exit id => Q (.exit id) s'
    | .ret => Q .ret s'

theorem run_start {a : ACode} {s : St} {Q : AEx → St → Prop} (h : runA Con' Le [a] s Q) : awp Con' Le a s Q := by
  have e : Q = fun e s' => match e with
    | .normal => runA Con' Le [] s' Q
    | .exit id => Q (.exit id) s'
    | .ret => Q .ret s' := by
    funext e s'; cases e <;> simp [runA]
  rw [e]
  simpa only [runA] using h
theorem run_nil {s : St} {Q : AEx → St → Prop} (h : Q .normal s) : runA Con' Le [] s Q := by simpa only [runA] using h
theorem run_seq {a b : ACode} {k : List ACode} {s : St} {Q : AEx → St → Prop} (h : runA Con' Le (a :: b :: k) s Q) : runA Con' Le (.seq a b :: k) s Q := by
  simp only [runA, awp] at h ⊢
  have e : (fun (e : AEx) (s' : St) => (match e with
      | .normal => awp Con' Le b s' fun e s' => match e with
        | .normal => runA Con' Le k s' Q
        | .exit id => Q (.exit id) s'
        | .ret => Q .ret s'
      | .exit id => Q (.exit id) s'
      | .ret => Q .ret s' : Prop)) = fun (e : AEx) (s' : St) => match e with
      | .normal => awp Con' Le b s' fun e s' => match e with
        | .normal => runA Con' Le k s' Q
        | .exit id => Q (.exit id) s'
        | .ret => Q .ret s'
      | .exit id => (match AEx.exit id with
        | .normal => runA Con' Le k s' Q
        | .exit id => Q (.exit id) s'
        | .ret => Q .ret s')
      | .ret => (match AEx.ret with
        | .normal => runA Con' Le k s' Q
        | .exit id => Q (.exit id) s'
        | .ret => Q .ret s') := by
    funext e s'; cases e <;> rfl
  exact e ▸ h
theorem run_skip {k : List ACode} {s : St} {Q : AEx → St → Prop} (h : runA Con' Le k s Q) : runA Con' Le (.skip :: k) s Q := by simpa only [runA, awp] using h
theorem run_ret {k : List ACode} {s : St} {Q : AEx → St → Prop} (h : Q .ret s) : runA Con' Le (.ret :: k) s Q := by simpa only [runA, awp] using h
theorem run_exit {i : Nat} {k : List ACode} {s : St} {Q : AEx → St → Prop} (h : Q (.exit i) s) : runA Con' Le (.exit i :: k) s Q := by simpa only [runA, awp] using h
theorem LeS.refl (n : Nat) (s : St) : LeS n s s := fun φ₀ H₀ w₀ N φ a w _ _ h => ⟨φ, h⟩
theorem run_regionL {ops : List AOper} {k : List ACode} {s : St} {Q : AEx → St → Prop} (h : ∀ K : St → Prop, (∀ s' s'', Le s' s'' → runA Con' Le k s'' Q → K s') → rwp Con' ops s fun s' => K ⟨shed s'.tmps, s'.heap⟩) : runA Con' Le (.region ops :: k) s Q := by
  simp only [runA, awp]
  exact h (fun s' => ∃ s'', Le s' s'' ∧ runA Con' Le k s'' Q) fun _ s'' hl h => ⟨s'', hl, h⟩
theorem run_region {m : Nat} {ops : List AOper} {k : List ACode} {s : St} {Q : AEx → St → Prop} (h : ∀ K : St → Prop, (∀ s', runA Con' (LeS m) k s' Q → K s') → rwp Con' ops s fun s' => K ⟨shed s'.tmps, s'.heap⟩) : runA Con' (LeS m) (.region ops :: k) s Q :=
  run_regionL fun K hK => h K fun s' => hK s' s' (LeS.refl m s')
theorem run_cond {c : Opd} {v : Bool} {t e : ACode} {k : List ACode} {s : St} {Q : AEx → St → Prop} (hc : s.get [] c = .c (.bool v)) (h1 : v = true → runA Con' Le (t :: k) s Q) (h2 : v = false → runA Con' Le (e :: k) s Q) : runA Con' Le (.cond c t e :: k) s Q := by
  simp only [runA, awp, hc] at h1 h2 ⊢
  cases v with
  | true => exact h1 rfl
  | false => exact h2 rfl
def blkQ (Con : ConT) (Le : LeT) (id : Nat) (k : List ACode) (Q : AEx → St → Prop) : AEx → St → Prop := fun e s => match e with
  | .normal => runA Con Le k s Q
  | .exit j => (match Nat.beq j id with | true => runA Con Le k s Q | false => Q (.exit j) s)
  | .ret => Q .ret s
theorem run_block {id : Nat} {a : ACode} {k : List ACode} {s : St} {Q : AEx → St → Prop} (h : runA Con' Le [a] s (blkQ Con' Le id k Q)) : runA Con' Le (.block id a :: k) s Q := by
  have h := run_start' h
  simp only [runA, awp]
  refine (congrArg (awp Con' Le a s) ?_).mp h
  funext e s'
  cases e with
  | normal => rfl
  | ret => rfl
  | exit j => simp only [blkQ]; cases Nat.beq j id <;> rfl
where run_start' {a : ACode} {s : St} {Q : AEx → St → Prop} (h : runA Con' Le [a] s Q) : awp Con' Le a s Q := run_start h
theorem blk_normal {id : Nat} {k : List ACode} {s : St} {Q : AEx → St → Prop} (h : runA Con' Le k s Q) : blkQ Con' Le id k Q .normal s := h
theorem blk_ret {id : Nat} {k : List ACode} {s : St} {Q : AEx → St → Prop} (h : Q .ret s) : blkQ Con' Le id k Q .ret s := h
theorem blk_here {id : Nat} {k : List ACode} {s : St} {Q : AEx → St → Prop} (h : runA Con' Le k s Q) : blkQ Con' Le id k Q (.exit id) s := by
  unfold blkQ
  simp only [Nat.beq_refl]
  exact h
theorem blk_there {id j : Nat} {k : List ACode} {s : St} {Q : AEx → St → Prop} (hj : Nat.beq j id = false) (h : Q (.exit j) s) : blkQ Con' Le id k Q (.exit j) s := by
  unfold blkQ
  simp only [hj]
  exact h
def loopQ (Le : LeT) (I : Nat → St → Prop) (n : Nat) (Q : AEx → St → Prop) : AEx → St → Prop := fun e s => match e with
  | .normal => ∃ n' s'', n' < n ∧ Le s s'' ∧ I n' s''
  | .exit id => Q (.exit id) s
  | .ret => Q .ret s
theorem run_loop {a : ACode} {k : List ACode} {s : St} {Q : AEx → St → Prop} (I : Nat → St → Prop) (n : Nat) (h0 : I n s) (h : ∀ n s, I n s → runA Con' Le [a] s (loopQ Le I n Q)) : runA Con' Le (.loop a :: k) s Q := by
  simp only [runA, awp]
  refine ⟨I, n, h0, fun n s hI => ?_⟩
  refine (congrArg (awp Con' Le a s) ?_).mp (run_start (h n s hI))
  funext e s'
  cases e <;> rfl
theorem loop_normal {I : Nat → St → Prop} {n : Nat} {Q : AEx → St → Prop} {s : St} (n' : Nat) (s'' : St) (hn : n' < n) (hle : Le s s'') (hI : I n' s'') : loopQ Le I n Q .normal s := ⟨n', s'', hn, hle, hI⟩
theorem loop_exit {I : Nat → St → Prop} {n id : Nat} {Q : AEx → St → Prop} {s : St} (h : Q (.exit id) s) : loopQ Le I n Q (.exit id) s := h
theorem loop_ret {I : Nat → St → Prop} {n : Nat} {Q : AEx → St → Prop} {s : St} (h : Q .ret s) : loopQ Le I n Q .ret s := h

theorem end_of {rs : List ARes} {R : Post} {s : St} (s' : St) (hle : Le s s') (h : endF rs R s') : endQ Le rs R .ret s := (endQ_of (e := .ret) nofun).2 ⟨s', hle, h⟩
theorem end_of' {rs : List ARes} {R : Post} {s : St} (s' : St) (hle : Le s s') (h : endF rs R s') : endQ Le rs R .normal s := (endQ_of (e := .normal) nofun).2 ⟨s', hle, h⟩

theorem call_t {f : FuncId} {args : List AV} {s : St} {dst : Option Nat} {k : St → (St → Prop) → Prop} {Q : St → Prop} (R : Post) (h : Con' f args s.heap R) (hk : ∀ v H, R v H → k (St.put ⟨s.tmps, H⟩ dst [] v) Q) : callW Con' f args s [] dst true k Q := ⟨R, h, hk⟩
theorem call_n {f : FuncId} {args : List AV} {s : St} {π : Path} {dst : Option Nat} {k : St → (St → Prop) → Prop} {Q : St → Prop} (v : AV) (N : List Blk) (hN : allW N = true) (h : imp π (Con' f args (roH s.heap) fun v' H' => v' = v ∧ H' = addBs (roH s.heap) N)) (hk : k (St.put ⟨s.tmps, addBs s.heap N⟩ dst π v) Q) : callW Con' f args s π dst false k Q := by
  cases π <;> exact ⟨v, N, hN, h, hk⟩
theorem call_q {f : FuncId} {args : List AV} {s : St} {π : Path} {dst : Option Nat} {k : St → (St → Prop) → Prop} {Q : St → Prop} (v : AV) (h : imp π (Con' f args (roH s.heap) fun v' H' => v' = v ∧ H' = roH s.heap)) (hk : k (St.put s dst π v) Q) : callW Con' f args s π dst false k Q :=
  call_n v [] rfl h hk
theorem call_g {f : FuncId} {args : List AV} {s : St} {e : Nat × Bool × Bool} {π : Path} {dst : Option Nat} {tl : Bool} {k : St → (St → Prop) → Prop} {Q : St → Prop} (v : AV) (h : imp (e :: π) (Con' f args (roH s.heap) fun v' H' => v' = v ∧ H' = roH s.heap)) (hk : k (St.put s dst (e :: π) v) Q) : callW Con' f args s (e :: π) dst tl k Q := by
  cases tl
  · exact ⟨v, [], rfl, h, hk⟩
  · exact .inl ⟨v, [], rfl, h, hk⟩
theorem Con.pure {f : FuncId} {args : List AV} {X : AV} (h : Con P f args ⟨0, []⟩ fun v H' => v = X ∧ H' = ⟨0, []⟩) (ha : leArgs [] args args) (hX : mapV (fun i => i) X = X) (H : Heap) : Con P f args H fun v H' => v = X ∧ H' = H := by
  refine ⟨h.1, fun φ w xs hF hH => ?_⟩
  have h0 : HRel (ren φ []) ⟨0, []⟩ w := ⟨fun i B p hB => by simp [getB] at hB, fun i j B C p q hB => by simp [getB] at hB, fun i _ => rfl, fun i p hp => by simp [ren, nthO] at hp⟩
  refine (h.2 (ren φ []) w xs (leArgs_rel ha hF) h0).mono fun e w' ⟨φ0', v0, x, H0', he, ⟨hv0, hH0⟩, hv, hh, hfr⟩ => ?_
  subst hv0; subst hH0; subst he
  have hold : ∀ b, b < w.heap.size → w'.heap[b]? = w.heap[b]? := fun b hb => hfr.old b hb fun i B p hB => by simp [getB] at hB
  obtain ⟨g1, g2⟩ := hH.grown hfr.os hfr.tape hfr.output hfr.size hold (K := H) (Nat.le_refl _) (fun _ _ h _ => h)
  refine ⟨φ, v0, x, H, rfl, ⟨rfl, rfl⟩, ?_, g1, g2⟩
  rw [← hX]
  exact mapV_rel (fun i p hp => by rw [hh.fresh i (Nat.zero_le _)] at hp; cases hp) hv

def rwpK (Con : ConT) (r : List AOper) (s : St) (Q : St → Prop) : Prop := rwp Con r s Q
theorem rwpK_app {r : List AOper} {s : St} {Q : St → Prop} : rwpK Con' r s Q = rwp Con' r s Q := rfl
theorem rwp_nil {s : St} {Q : St → Prop} : rwp Con' [] s Q = Q s := rfl
theorem rwp_cons {o : AOper} {r : List AOper} {s : St} {Q : St → Prop} : rwp Con' (o :: r) s Q = (match gpath s o.guard with
    | none => False
    | some π => match aop s π o.op with
      | .p none v B => rwp Con' r (St.put ⟨s.tmps, addBlk s.heap B⟩ o.dst π v) Q
      | .p (some p) v B => imp π p ∧ rwp Con' r (St.put ⟨s.tmps, addBlk s.heap B⟩ o.dst π v) Q
      | .t none v H => (match o.tl, π, exOk s o with
        | true, [], true => rwp Con' r (St.put ⟨s.tmps, H⟩ o.dst [] v) Q
        | _, _, _ => False)
      | .t (some p) v H => (match o.tl, π, exOk s o with
        | true, [], true => p ∧ rwp Con' r (St.put ⟨s.tmps, H⟩ o.dst [] v) Q
        | _, _, _ => False)
      | .call f args => callW Con' f args s π o.dst o.tl (rwpK Con' r) Q
      | .bad => False) := rfl
theorem slotsOf {l : List Nat} {tmps : List Slot} {t : Nat} {v : AV} (hv : slotAt tmps t = some ⟨t, [], v⟩) (hid : leV l v v) {r : List Slot} (h : slotsLe l tmps r) : slotsLe l tmps (⟨t, [], v⟩ :: r) := by
  cases v with
  | bot => exact ⟨trivial, h⟩
  | _ => simp only [slotsLe, hv]; exact ⟨hid, h⟩
theorem end_tmp1 {t : Nat} {v : AV} {R : Post} {tmps : List Slot} {H : Heap} (hv : slotAt tmps t = some ⟨t, [], v⟩) (hid : leV [] v v) (hn : noTup v = true) (hR : R v ⟨0, []⟩) : endQ (LeS 0) [.tmp t] R .ret ⟨tmps, H⟩ := by
  refine end_of ⟨[⟨t, [], v⟩], ⟨0, []⟩⟩ (LeS.intro [] (fun i h => absurd h (Nat.not_lt_zero i)) trivial rfl (slotsOf hv hid trivial) trivial) ?_
  have hg : St.get ⟨[⟨t, [], v⟩], ⟨0, []⟩⟩ [] (.t t) = v := by simp [St.get, slotAt, Nat.beq_refl, sfx, eqP]
  simp only [endF, resL, resA, hg, hn, resV]
  exact hR
theorem end_tmp2 {t u : Nat} {v x : AV} {R : Post} {tmps : List Slot} {H : Heap} (hne : Nat.beq t u = false) (hv : slotAt tmps t = some ⟨t, [], v⟩) (hx : slotAt tmps u = some ⟨u, [], x⟩) (hid : leV [] v v) (hidx : leV [] x x) (hn : noTup v = true) (hnx : noTup x = true) (hR : R (.tup [v, x]) ⟨0, []⟩) : endQ (LeS 0) [.tmp t, .tmp u] R .ret ⟨tmps, H⟩ := by
  refine end_of ⟨[⟨t, [], v⟩, ⟨u, [], x⟩], ⟨0, []⟩⟩ (LeS.intro [] (fun i h => absurd h (Nat.not_lt_zero i)) trivial rfl (slotsOf hv hid (slotsOf hx hidx trivial)) trivial) ?_
  have hg : St.get ⟨[⟨t, [], v⟩, ⟨u, [], x⟩], ⟨0, []⟩⟩ [] (.t t) = v := by simp [St.get, slotAt, Nat.beq_refl, sfx, eqP]
  have hg2 : St.get ⟨[⟨t, [], v⟩, ⟨u, [], x⟩], ⟨0, []⟩⟩ [] (.t u) = x := by simp [St.get, slotAt, Nat.beq_refl, sfx, eqP, hne]
  simp only [endF, resL, resA, hg, hg2, hn, hnx, resV]
  exact hR

attribute [irreducible] runA blkQ loopQ

end Go.AM

namespace Go.AM
set_option linter.unusedVariables false
set_option linter.unusedSimpArgs false
variable {P : Program} {φ : Emb} {w : World}

def keysB : List (Nat × Blk) → List Nat
  | [] => []
  | (i, _) :: r => i :: keysB r
def allBe (n m : Nat) : List Nat → Bool
  | [] => true
  | i :: r => Nat.ble n i && Nat.blt i m && allBe n m r
def appX : List (Nat × Blk) → List (Nat × Blk) → List (Nat × Blk)
  | [], l => l
  | x :: r, l => x :: appX r l

theorem allBe_get {n m : Nat} : ∀ {l : List (Nat × Blk)}, allBe n m (keysB l) = true → ∀ {i B}, getB l i = some B → n ≤ i ∧ i < m
  | [], _, _, _, h => by simp [getB] at h
  | (j, C) :: r, h, i, B, hB => by
    simp only [keysB, allBe, Bool.and_eq_true] at h
    by_cases hi : i = j
    · subst hi
      exact ⟨Nat.le_of_ble_eq_true h.1.1, by have := h.1.2; unfold Nat.blt at this; exact Nat.le_of_ble_eq_true this⟩
    · rw [getB_cons_ne hi] at hB
      exact allBe_get h.2 hB
theorem getB_appX {X l : List (Nat × Blk)} {i : Nat} : getB (appX X l) i = match getB X i with | some B => some B | none => getB l i := by
  induction X with
  | nil => rfl
  | cons x r ih =>
    obtain ⟨j, C⟩ := x
    simp only [appX, getB]
    cases Nat.beq j i with
    | true => rfl
    | false => exact ih
theorem getB_keys : ∀ {l m : List (Nat × Blk)}, keysB l = keysB m → ∀ {i B}, getB l i = some B → ∃ C, getB m i = some C
  | [], [], _, _, _, h => by simp [getB] at h
  | [], _ :: _, h, _, _, _ => by simp [keysB] at h
  | _ :: _, [], h, _, _, _ => by simp [keysB] at h
  | (j, C) :: r, (k, D) :: t, h, i, B, hB => by
    simp only [keysB, List.cons.injEq] at h
    obtain ⟨rfl, h⟩ := h
    by_cases hi : i = j
    · subst hi; exact ⟨D, getB_cons_self _ _ _⟩
    · rw [getB_cons_ne hi] at hB ⊢; exact getB_keys h hB

theorem Con.frameN {f : FuncId} {args : List AV} {H0 : Heap} {R0 : Post} (h : Con P f args H0 R0) (l : List Nat) (hl : H0.next = l.length) (hid : idTo l l.length) (X : List (Nat × Blk)) (n : Nat)
    (hR : ∀ v H', R0 v H' → H'.next = H0.next ∧ keysB H'.blks = keysB H0.blks) (hX : allBe H0.next n (keysB X) = true) (h0 : allBe 0 H0.next (keysB H0.blks) = true) (hn : H0.next ≤ n) (hb : leBlks l (appX X H0.blks) H0.blks) (ha : leArgs l args args) :
    Con P f args ⟨n, appX X H0.blks⟩ (fun v H' => ∃ H0', R0 v H0' ∧ H' = ⟨n, appX X H0'.blks⟩) := by
  refine ⟨h.1, fun φ w xs hF hH => ?_⟩
  have hd : diff l := by
    have : ∀ (k : Nat) (l : List Nat), (∀ i, i < l.length → nthO l i = some (k + i)) → diff l := by
      intro k l
      induction l generalizing k with
      | nil => intro _; trivial
      | cons j r ih =>
        intro h
        have hj : j = k := by have := h 0 (by simp); simpa [nthO] using this
        have hr : ∀ i, i < r.length → nthO r i = some (k + 1 + i) := fun i hi => by
          have := h (i + 1) (by simpa using hi)
          simp only [nthO] at this
          rw [this]; congr 1; omega
        refine ⟨?_, ih (k + 1) hr⟩
        have : ∀ (m : Nat) (r : List Nat), (∀ i, i < r.length → nthO r i = some (m + i)) → j < m → notIn j r := by
          intro m r
          induction r generalizing m with
          | nil => intro _ _; trivial
          | cons x r ih =>
            intro h hm
            have hx : x = m := by have := h 0 (by simp); simpa [nthO] using this
            refine ⟨?_, ih (m + 1) (fun i hi => ?_) (by omega)⟩
            · cases hb : Nat.beq j x with
              | false => rfl
              | true => have := Nat.eq_of_beq_eq_true hb; omega
            · have := h (i + 1) (by simpa using hi)
              simp only [nthO] at this
              rw [this]; congr 1; omega
        exact this (k + 1) r hr (by omega)
    exact this 0 l (fun i hi => by rw [hid i hi]; simp)
  have hren : AM.ren φ l = φ.to H0.next := by
    funext i
    unfold Emb.to
    by_cases hi : i < H0.next
    · rw [if_pos hi, ren_of (hid i (by omega))]
    · rw [if_neg hi]
      unfold AM.ren
      cases hn : nthO l i with
      | none => rfl
      | some j => have := nthO_lt hn; omega
  have hH0 := hH.ren hd hl hb
  rw [hren] at hH0
  refine (h.2 (φ.to H0.next) w xs (by rw [← hren]; exact leArgs_rel ha hF) hH0).mono fun e w' ⟨φ0', v, x, H0', he, hr, hv, hh, hfr⟩ => ?_
  subst he
  obtain ⟨hn', hk'⟩ := hR v H0' hr
  have hφ0 : φ0' = φ.to H0.next := by
    funext i
    by_cases hi : i < H0.next
    · exact hfr.same i hi
    · rw [hh.fresh i (by omega)]; unfold Emb.to; rw [if_neg hi]
  subst hφ0
  have hle := Emb.to_le φ H0.next
  have hlo : ∀ i B, getB H0.blks i = some B → i < H0.next := fun i B hB => (allBe_get h0 hB).2
  have hXn : ∀ i, i < H0.next → getB X i = none := fun i hi => by
    cases hx : getB X i with
    | none => rfl
    | some B => have := (allBe_get hX hx).1; omega
  have hlo' : ∀ i B, getB H0'.blks i = some B → i < H0.next := fun i B hB => by obtain ⟨C, hC⟩ := getB_keys hk' hB; exact hlo i C hC
  have hget : ∀ i, i < H0.next → getB (appX X H0.blks) i = getB H0.blks i := fun i hi => by rw [getB_appX, hXn i hi]
  have hcase : ∀ i B, getB (appX X H0'.blks) i = some B → getB X i = some B ∨ (getB H0'.blks i = some B ∧ i < H0.next) := fun i B hB => by
    rw [getB_appX] at hB
    cases hx : getB X i with
    | some C => rw [hx] at hB; exact .inl hB
    | none => rw [hx] at hB; exact .inr ⟨hB, hlo' i B hB⟩
  have hXb : ∀ i B, getB X i = some B → getB (appX X H0.blks) i = some B := fun i B hB => by rw [getB_appX, hB]
  have htoX : ∀ i p, i < H0.next → φ i = some p → (φ.to H0.next) i = some p := fun i p hi hp => by unfold Emb.to; rw [if_pos hi]; exact hp
  -- a block of X and a writable one of the others lie apart
  have hapart : ∀ i B p j C q, getB X i = some B → φ i = some p → getB H0.blks j = some C → φ j = some q → C.wr = true → q.blk ≠ p.blk := fun i B p j C q h1 h2 h3 h4 h5 => by
    have hj := hlo j C h3
    have hi := (allBe_get hX h1).1
    exact hH.inj j i C B q p (by show getB (appX X H0.blks) j = _; rw [hget j hj]; exact h3) (hXb i B h1) h4 h2 (by omega) h5
  refine ⟨φ, v, x, ⟨n, appX X H0'.blks⟩, rfl, ⟨H0', hr, rfl⟩, relA_mono hle hv, ⟨fun i B p hB hp => ?_, fun i j B C p q hB hC hp hq hne hw => ?_, hH.fresh, fun i p hp => Nat.lt_of_lt_of_le (hH.lt i p hp) hfr.size⟩, ⟨φ.le_refl, fun _ _ => rfl, Nat.le_refl _, hfr.size, hfr.os, hfr.tape, hfr.output, fun b hb hno => ?_, fun i B p hB hw hp => ?_⟩⟩
  · rcases hcase i B hB with hx | ⟨hB, hi⟩
    · have hb0 := hH.blk i B p (hXb i B hx) hp
      refine hb0.keep (hfr.old p.blk (hH.lt i p hp) fun j C q h1 h2 h3 => hapart i B p j C q hx hp h1 (hle _ _ h3) h2)
    · exact (hh.blk i B p hB (htoX i p hi hp)).mono hle
  · rcases hcase i B hB with hx | ⟨hB, hi⟩ <;> rcases hcase j C hC with hy | ⟨hC, hj⟩
    · exact hH.inj i j B C p q (hXb i B hx) (hXb j C hy) hp hq hne hw
    · obtain ⟨D, hD⟩ := getB_keys hk' hC
      exact hH.inj i j B D p q (hXb i B hx) (by show getB (appX X H0.blks) j = _; rw [hget j hj]; exact hD) hp hq hne hw
    · rcases hfr.own i B p hB hw (htoX i p hi hp) with ho | ⟨k, D, r, g1, g2, g3, g4⟩
      · have := hH.lt j q hq; omega
      · rw [← g4]
        exact hapart j C q k D r hy hq g1 (hle _ _ g3) g2
    · exact hh.inj i j B C p q hB hC (htoX i p hi hp) (htoX j q hj hq) hne hw
  · refine hfr.old b hb fun j C q h1 h2 h3 => hno j C q (by show getB (appX X H0.blks) j = _; rw [hget j (hlo j C h1)]; exact h1) h2 (hle _ _ h3)
  · rcases hcase i B hB with hx | ⟨hB, hi⟩
    · exact .inr ⟨i, B, p, hXb i B hx, hw, hp, rfl⟩
    · rcases hfr.own i B p hB hw (htoX i p hi hp) with ho | ⟨k, D, r, g1, g2, g3, g4⟩
      · exact .inl ho
      · exact .inr ⟨k, D, r, by show getB (appX X H0.blks) k = _; rw [hget k (hlo k D g1)]; exact g1, g2, hle _ _ g3, g4⟩

theorem Con.forget {f : FuncId} {args : List AV} {H : Heap} {R R' : Post} (h : Con P f args H R)
    (hR : ∀ v H', R v H' → ∃ v' H'' l, idTo l H.next ∧ diff l ∧ H''.next = l.length ∧ leBlks l H'.blks H''.blks ∧ leV l v v' ∧ R' v' H'') : Con P f args H R' := by
  refine ⟨h.1, fun φ w xs hF hH => (h.2 φ w xs hF hH).mono fun e w' ⟨φ', v, x, H', he, hr, hv, hh, hf⟩ => ?_⟩
  obtain ⟨v', H'', l, hi, hd, hn, hb, hl, hr'⟩ := hR v H' hr
  have hlen : H.next ≤ l.length := by
    cases hx : H.next with
    | zero => omega
    | succ m => have := nthO_lt (hi m (by omega)); omega
  have hsm : ∀ i, i < H.next → ren φ' l i = φ' i := fun i h => ren_of (hi i h)
  refine ⟨ren φ' l, v', x, H'', he, hr', leV_rel hl hv, hh.ren hd hn hb, fun i p hp => ?_, fun i hi' => ?_, by omega, hf.size, hf.os, hf.tape, hf.output, hf.old, fun i B p hB hw hp => ?_⟩
  · by_cases hlt : i < H.next
    · rw [hsm i hlt]; exact hf.le i p hp
    · rw [hH.fresh i (by omega)] at hp; cases hp
  · rw [hsm i hi']; exact hf.same i hi'
  · obtain ⟨j, hj, hp⟩ := ren_some hp
    obtain ⟨C, hC, hle⟩ := leBlks_get hb hB hj
    exact hf.own j C p hC (hle.2.2.1 hw) hp

theorem ite_int (p : Prop) [Decidable p] (k : IntKind) (a b : Int) : (if p then CV.int k a else CV.int k b) = CV.int k (if p then a else b) := by split <;> rfl
theorem ite_seg (p : Prop) [Decidable p] (a b : CV) : (if p then Seg.c a else Seg.c b) = Seg.c (if p then a else b) := by split <;> rfl
theorem ite_segs (p : Prop) [Decidable p] (a b : Seg) (l m : List Seg) : (if p then a :: l else b :: m) = (if p then a else b) :: (if p then l else m) := by split <;> rfl
theorem ite_nil (p : Prop) [Decidable p] : (if p then ([] : List Seg) else []) = [] := by split <;> rfl
theorem ite_twice {α : Type} (p : Prop) [Decidable p] (a b c : α) : (if p then a else if p then b else c) = (if p then a else c) := by split <;> rfl
theorem ite_bool (p : Prop) [Decidable p] (a b : Bool) : (if p then CV.bool a else CV.bool b) = CV.bool (if p then a else b) := by split <;> rfl

theorem con_of_run (hm : P.follows .mixedOrders = true) {f : FuncId} {fn : Func} (hf : P.funcs[f]? = some fn) (hname : (fn.name == "runtime.NumGoroutine") = false) {ac : ACode} (hc : stripF P fn = some ac) {rs : List ARes} (hrs : stripRes P fn.results.toList = some rs)
    {args : List AV} (hargs : args.length ≤ fn.ntmps) {H : Heap} {R : Post} (h : runA (Con P) (LeS H.next) [ac] ⟨initT args 0, H⟩ (endQ (LeS H.next) rs R)) : Con P f args H R :=
  con_of_awp hm hf hname hc hrs hargs (run_start h)

end Go.AM

namespace Go.AM
set_option linter.unusedVariables false
set_option linter.unusedSimpArgs false
variable {P : Program} {Con' : ConT} {Le : LeT}

def unQ (Con : ConT) (Le : LeT) (a : ACode) : Nat → (AEx → St → Prop) → AEx → St → Prop
  | 0, Q => fun e s => match e with
    | .normal => False
    | .exit id => Q (.exit id) s
    | .ret => Q .ret s
  | n + 1, Q => fun e s => match e with
    | .normal => runA Con Le [a] s (unQ Con Le a n Q)
    | .exit id => Q (.exit id) s
    | .ret => Q .ret s

theorem un_normal {a : ACode} {n : Nat} {Q : AEx → St → Prop} {s : St} (h : runA Con' Le [a] s (unQ Con' Le a n Q)) : unQ Con' Le a (n + 1) Q .normal s := h
theorem un_exit {a : ACode} {n i : Nat} {Q : AEx → St → Prop} {s : St} (h : Q (.exit i) s) : unQ Con' Le a n Q (.exit i) s := by cases n <;> exact h
theorem un_ret {a : ACode} {n : Nat} {Q : AEx → St → Prop} {s : St} (h : Q .ret s) : unQ Con' Le a n Q .ret s := by cases n <;> exact h
def unE (Q : AEx → St → Prop) : AEx → St → Prop := fun e s => match e with
  | .normal => False
  | .exit id => Q (.exit id) s
  | .ret => Q .ret s
theorem unE_exit {i : Nat} {Q : AEx → St → Prop} {s : St} (h : Q (.exit i) s) : unE Q (.exit i) s := h
theorem unE_ret {Q : AEx → St → Prop} {s : St} (h : Q .ret s) : unE Q .ret s := h
theorem imp_of {π : Path} {p : Prop} (h : p) : imp π p := by
  induction π with
  | nil => exact h
  | cons e r ih => intro _; exact ih
attribute [irreducible] unQ unE


def asgQ (Con : ConT) (Le : LeT) (b : ACode) (Q : AEx → St → Prop) : AEx → St → Prop := fun e s => match e with
  | .normal => runA Con Le [b] s Q
  | _ => False
def rngK (Le : LeT) (l : List Slot) (I : Heap → Prop) (Q : AEx → St → Prop) : AEx → St → Prop := rngQ Le l I Q
attribute [irreducible] asgQ rngK

end Go.AM

namespace Go.Proofs.Ytmbnakinhnkabaa
open Go.AM
set_option maxRecDepth 100000
set_option linter.unusedSimpArgs false
set_option linter.unusedVariables false
theorem mixed : Try.prog.follows .mixedOrders = true := by kernel_rfl
theorem dropB_none {l : List Nat} {H0 : List (Nat × Blk)} (h : ∀ k, goneB l H0 k = false) (X : List (Nat × Blk)) : dropB l H0 X = X := by
  induction X with
  | nil => rfl
  | cons x r ih => simp [dropB, h, ih]
theorem ro_gen {f : FuncId} {args args' : List AV} {H0 : Heap} {V : AV} (h : Con Try.prog f args H0 (fun v H' => v = V ∧ H' = H0)) (l : List Nat) (n : Nat) (X : List (Nat × Blk)) (hl : H0.next = l.length) (hd : diff l) (hlt : allLt l n) (hkl : keysLt X n) (hb : leBlks l X H0.blks) (ha : leArgs l args' args) (hV : mapV (gId l n) V = V)
    (hgone : ∀ k, goneB l H0.blks k = false) (hnew : newB (gId l n) l H0.blks [] H0.blks = []) (hnx : gId l n H0.next = n) : Con Try.prog f args' ⟨n, X⟩ (fun v H' => v = V ∧ H' = ⟨n, X⟩) := by
  refine (h.frame (H := ⟨n, X⟩) l hl hd hlt hkl hb ha).weaken ?_
  rintro v H' ⟨v0, H0', ⟨rfl, rfl⟩, rfl, rfl⟩
  refine ⟨hV, ?_⟩
  simp only [framed, dropB_none hgone, hnew, hnx, appB]
theorem idt1 : ∀ i, i < 1 → nthO [0] i = some i := by
  intro i h; match i, h with
  | 0, _ => rfl
theorem idt2 : ∀ i, i < 2 → nthO [0, 1] i = some i := by
  intro i h; match i, h with
  | 0, _ => rfl
  | 1, _ => rfl
structure OpS where
  kind : Int
  r : Int
  a : Int
  b : Int
  order : Int
  imm : Int
def opL (o : OpS) : List Seg := [.c (.int .i64 o.kind), .c (.int .i64 o.r), .c (.int .i64 o.a), .c (.int .i64 o.b), .c (.int .i64 o.order), .c (.int .u64 o.imm)]
def boxW (v : Int) : Blk := ⟨1, none, fun _ => [.c (.int .i64 v)], 3, true⟩
def kindL (w : ByteArray) (r i o : Bool) (u : Int) (d e a : Bool) (f : CV) : List Seg := [.c (.str w), .c (.bool r), .c (.bool i), .c (.bool o), .c (.int .i64 u), .c (.bool d), .c (.bool e), .c (.bool a), .c f]
def kindB (L : List Seg) : Blk := ⟨9, none, fun _ => L, 79, true⟩
def kindV (L : List Seg) (b : Bool) : AV := .tup [.agg L, .c (.bool b)]
theorem con66 (o : OpS) (H : Heap) : Con Try.prog 66 [.agg (opL o)] H (fun v H' => v = .c (.bool (true)) ∧ H' = H) := by
  refine Con.pure ?_ (by simp only [leArgs, leV, leV1, opL, leSegs, leSeg, leC, and_self]) rfl H
  (refine con_of_run mixed (fn := Try.f66) (by kernel_rfl) (by kernel_rfl) C66_ok (rs := [.tmp 2]) (by kernel_rfl) (Nat.le_of_ble_eq_true (by kernel_rfl)) ?_; unfold C66; simp only [initT, Nat.reduceAdd])
  repeat' (first | refine run_seq ?_ | (refine run_region fun K hK => ?_; (try (simp (maxSteps := 10000000) only [opL, C66r0, C66r1, rwp_nil, rwp_cons, rwpK_app, aop, gpath, St.get, slotAt, sfx, eqP, segsOf, St.put, addBlk, getB, setB, delB, ld1, ldn, st1, stn, setRow, rowNeed, segAt, nsub, bin, un, eqB, isShift, sameK, arith, shiftR, getsl, selB_or, selB_and, beqb, shed, addN, Nat.beq, Seg.size, sizes, imp, needP, andN, appL, argsOf, ptrsOf, aasOf, cut, takeS, dropS, putS, partsOf, fillS, fieldOf, nthA, negIf, nilq, nilB, eqS, eqF, eqS1, andP, kin, slcS, strOk, plusA, bndHi, leN, optG, roH, roL, initT, exOk, exAll, wrAddr, Nat.reduceAdd, Nat.reduceSub, Nat.reduceMul, Int.reduceToNat, List.append_nil, List.nil_append, List.cons_append, mapR, mapR1, keyL, keyOk, keyP, colsPut, colsDel, zcols, eqT, idxT, cat, cpy, ite_int, ite_bool, ite_seg, ite_segs, ite_nil, ite_twice, Int.toNat_natCast, app, addBs, tob])); (repeat (first | (refine And.intro ?_ ?_; · (first | decide | trivial | assumption | (intros; first | decide | trivial))))); with_reducible refine hK _ ?_; clear hK K) | refine run_ret ?_ | refine run_nil ?_)
  exact end_tmp1 rfl rfl rfl ⟨rfl, rfl⟩
theorem con68 (o : OpS) (H : Heap) : Con Try.prog 68 [.agg (opL o)] H (fun v H' => v = .c (.bool (decide (o.r ≥ 1) && decide (o.r ≤ 15))) ∧ H' = H) := by
  refine Con.pure ?_ (by simp only [leArgs, leV, leV1, opL, leSegs, leSeg, leC, and_self]) rfl H
  (refine con_of_run mixed (fn := Try.f68) (by kernel_rfl) (by kernel_rfl) C68_ok (rs := [.tmp 2]) (by kernel_rfl) (Nat.le_of_ble_eq_true (by kernel_rfl)) ?_; unfold C68; simp only [initT, Nat.reduceAdd])
  repeat' (first | refine run_seq ?_ | (refine run_region fun K hK => ?_; (try (simp (maxSteps := 10000000) only [opL, C68r0, C68r1, rwp_nil, rwp_cons, rwpK_app, aop, gpath, St.get, slotAt, sfx, eqP, segsOf, St.put, addBlk, getB, setB, delB, ld1, ldn, st1, stn, setRow, rowNeed, segAt, nsub, bin, un, eqB, isShift, sameK, arith, shiftR, getsl, selB_or, selB_and, beqb, shed, addN, Nat.beq, Seg.size, sizes, imp, needP, andN, appL, argsOf, ptrsOf, aasOf, cut, takeS, dropS, putS, partsOf, fillS, fieldOf, nthA, negIf, nilq, nilB, eqS, eqF, eqS1, andP, kin, slcS, strOk, plusA, bndHi, leN, optG, roH, roL, initT, exOk, exAll, wrAddr, Nat.reduceAdd, Nat.reduceSub, Nat.reduceMul, Int.reduceToNat, List.append_nil, List.nil_append, List.cons_append, mapR, mapR1, keyL, keyOk, keyP, colsPut, colsDel, zcols, eqT, idxT, cat, cpy, ite_int, ite_bool, ite_seg, ite_segs, ite_nil, ite_twice, Int.toNat_natCast, app, addBs, tob])); (repeat (first | (refine And.intro ?_ ?_; · (first | decide | trivial | assumption | (intros; first | decide | trivial))))); with_reducible refine hK _ ?_; clear hK K) | refine run_ret ?_ | refine run_nil ?_)
  exact end_tmp1 rfl rfl rfl ⟨rfl, rfl⟩
theorem con70 (o : OpS) (H : Heap) : Con Try.prog 70 [.agg (opL o)] H (fun v H' => v = .c (.bool (((o.r == 13) || (o.r == 10)) || (o.r == 15))) ∧ H' = H) := by
  refine Con.pure ?_ (by simp only [leArgs, leV, leV1, opL, leSegs, leSeg, leC, and_self]) rfl H
  (refine con_of_run mixed (fn := Try.f70) (by kernel_rfl) (by kernel_rfl) C70_ok (rs := [.tmp 2]) (by kernel_rfl) (Nat.le_of_ble_eq_true (by kernel_rfl)) ?_; unfold C70; simp only [initT, Nat.reduceAdd])
  repeat' (first | refine run_seq ?_ | (refine run_region fun K hK => ?_; (try (simp (maxSteps := 10000000) only [opL, C70r0, C70r1, rwp_nil, rwp_cons, rwpK_app, aop, gpath, St.get, slotAt, sfx, eqP, segsOf, St.put, addBlk, getB, setB, delB, ld1, ldn, st1, stn, setRow, rowNeed, segAt, nsub, bin, un, eqB, isShift, sameK, arith, shiftR, getsl, selB_or, selB_and, beqb, shed, addN, Nat.beq, Seg.size, sizes, imp, needP, andN, appL, argsOf, ptrsOf, aasOf, cut, takeS, dropS, putS, partsOf, fillS, fieldOf, nthA, negIf, nilq, nilB, eqS, eqF, eqS1, andP, kin, slcS, strOk, plusA, bndHi, leN, optG, roH, roL, initT, exOk, exAll, wrAddr, Nat.reduceAdd, Nat.reduceSub, Nat.reduceMul, Int.reduceToNat, List.append_nil, List.nil_append, List.cons_append, mapR, mapR1, keyL, keyOk, keyP, colsPut, colsDel, zcols, eqT, idxT, cat, cpy, ite_int, ite_bool, ite_seg, ite_segs, ite_nil, ite_twice, Int.toNat_natCast, app, addBs, tob])); (repeat (first | (refine And.intro ?_ ?_; · (first | decide | trivial | assumption | (intros; first | decide | trivial))))); with_reducible refine hK _ ?_; clear hK K) | refine run_ret ?_ | refine run_nil ?_)
  exact end_tmp1 rfl rfl rfl ⟨rfl, rfl⟩
theorem con71 (o : OpS) (H : Heap) : Con Try.prog 71 [.agg (opL o)] H (fun v H' => v = .c (.bool (IntKind.u64.wrap (BitVec.ofInt IntKind.u64.bits o.imm &&& BitVec.ofInt IntKind.u64.bits 3).toNat == 0)) ∧ H' = H) := by
  refine Con.pure ?_ (by simp only [leArgs, leV, leV1, opL, leSegs, leSeg, leC, and_self]) rfl H
  (refine con_of_run mixed (fn := Try.f71) (by kernel_rfl) (by kernel_rfl) C71_ok (rs := [.tmp 2]) (by kernel_rfl) (Nat.le_of_ble_eq_true (by kernel_rfl)) ?_; unfold C71; simp only [initT, Nat.reduceAdd])
  repeat' (first | refine run_seq ?_ | (refine run_region fun K hK => ?_; (try (simp (maxSteps := 10000000) only [opL, C71r0, C71r1, rwp_nil, rwp_cons, rwpK_app, aop, gpath, St.get, slotAt, sfx, eqP, segsOf, St.put, addBlk, getB, setB, delB, ld1, ldn, st1, stn, setRow, rowNeed, segAt, nsub, bin, un, eqB, isShift, sameK, arith, shiftR, getsl, selB_or, selB_and, beqb, shed, addN, Nat.beq, Seg.size, sizes, imp, needP, andN, appL, argsOf, ptrsOf, aasOf, cut, takeS, dropS, putS, partsOf, fillS, fieldOf, nthA, negIf, nilq, nilB, eqS, eqF, eqS1, andP, kin, slcS, strOk, plusA, bndHi, leN, optG, roH, roL, initT, exOk, exAll, wrAddr, Nat.reduceAdd, Nat.reduceSub, Nat.reduceMul, Int.reduceToNat, List.append_nil, List.nil_append, List.cons_append, mapR, mapR1, keyL, keyOk, keyP, colsPut, colsDel, zcols, eqT, idxT, cat, cpy, ite_int, ite_bool, ite_seg, ite_segs, ite_nil, ite_twice, Int.toNat_natCast, app, addBs, tob])); (repeat (first | (refine And.intro ?_ ?_; · (first | decide | trivial | assumption | (intros; first | decide | trivial))))); with_reducible refine hK _ ?_; clear hK K) | refine run_ret ?_ | refine run_nil ?_)
  exact end_tmp1 rfl rfl rfl ⟨rfl, rfl⟩
theorem con72 (o : OpS) (H : Heap) : Con Try.prog 72 [.agg (opL o)] H (fun v H' => v = .c (.bool (o.imm.fdiv (2 ^ min 32 IntKind.u64.bits) == 0)) ∧ H' = H) := by
  refine Con.pure ?_ (by simp only [leArgs, leV, leV1, opL, leSegs, leSeg, leC, and_self]) rfl H
  (refine con_of_run mixed (fn := Try.f72) (by kernel_rfl) (by kernel_rfl) C72_ok (rs := [.tmp 2]) (by kernel_rfl) (Nat.le_of_ble_eq_true (by kernel_rfl)) ?_; unfold C72; simp only [initT, Nat.reduceAdd])
  repeat' (first | refine run_seq ?_ | (refine run_region fun K hK => ?_; (try (simp (maxSteps := 10000000) only [opL, C72r0, C72r1, rwp_nil, rwp_cons, rwpK_app, aop, gpath, St.get, slotAt, sfx, eqP, segsOf, St.put, addBlk, getB, setB, delB, ld1, ldn, st1, stn, setRow, rowNeed, segAt, nsub, bin, un, eqB, isShift, sameK, arith, shiftR, getsl, selB_or, selB_and, beqb, shed, addN, Nat.beq, Seg.size, sizes, imp, needP, andN, appL, argsOf, ptrsOf, aasOf, cut, takeS, dropS, putS, partsOf, fillS, fieldOf, nthA, negIf, nilq, nilB, eqS, eqF, eqS1, andP, kin, slcS, strOk, plusA, bndHi, leN, optG, roH, roL, initT, exOk, exAll, wrAddr, Nat.reduceAdd, Nat.reduceSub, Nat.reduceMul, Int.reduceToNat, List.append_nil, List.nil_append, List.cons_append, mapR, mapR1, keyL, keyOk, keyP, colsPut, colsDel, zcols, eqT, idxT, cat, cpy, ite_int, ite_bool, ite_seg, ite_segs, ite_nil, ite_twice, Int.toNat_natCast, app, addBs, tob])); (repeat (first | (refine And.intro ?_ ?_; · (first | decide | trivial | assumption | (intros; first | decide | trivial))))); with_reducible refine hK _ ?_; clear hK K) | refine run_ret ?_ | refine run_nil ?_)
  exact end_tmp1 rfl rfl rfl ⟨rfl, rfl⟩
theorem con67 (a : Int) (n : Nat) (X : List (Nat × Blk)) (hkl : keysLt X n) : Con Try.prog 67 [.c (.int .i64 a)] ⟨n, X⟩ (fun v H' => v = .c (.fn 98 [] [⟨n, 0, 0, 0⟩]) ∧ H' = addBs ⟨n, X⟩ [boxW a]) := by
  have h0 : Con Try.prog 67 [.c (.int .i64 a)] ⟨0, []⟩ (fun v H' => v = .c (.fn 98 [] [⟨0, 0, 0, 0⟩]) ∧ H' = ⟨1, [(0, boxW a)]⟩) := by
    (refine con_of_run mixed (fn := Try.f67) (by kernel_rfl) (by kernel_rfl) C67_ok (rs := [.tmp 2]) (by kernel_rfl) (Nat.le_of_ble_eq_true (by kernel_rfl)) ?_; unfold C67; simp only [initT, Nat.reduceAdd])
    repeat' (first | refine run_seq ?_ | (refine run_region fun K hK => ?_; (try (simp (maxSteps := 10000000) only [C67r0, C67r1, rwp_nil, rwp_cons, rwpK_app, aop, gpath, St.get, slotAt, sfx, eqP, segsOf, St.put, addBlk, getB, setB, delB, ld1, ldn, st1, stn, setRow, rowNeed, segAt, nsub, bin, un, eqB, isShift, sameK, arith, shiftR, getsl, selB_or, selB_and, beqb, shed, addN, Nat.beq, Seg.size, sizes, imp, needP, andN, appL, argsOf, ptrsOf, aasOf, cut, takeS, dropS, putS, partsOf, fillS, fieldOf, nthA, negIf, nilq, nilB, eqS, eqF, eqS1, andP, kin, slcS, strOk, plusA, bndHi, leN, optG, roH, roL, initT, exOk, exAll, wrAddr, Nat.reduceAdd, Nat.reduceSub, Nat.reduceMul, Int.reduceToNat, List.append_nil, List.nil_append, List.cons_append, mapR, mapR1, keyL, keyOk, keyP, colsPut, colsDel, zcols, eqT, idxT, cat, cpy, ite_int, ite_bool, ite_seg, ite_segs, ite_nil, ite_twice, Int.toNat_natCast, app, addBs, tob])); (repeat (first | (refine And.intro ?_ ?_; · first | trivial | assumption | omega))); with_reducible refine hK _ ?_; clear hK K) | refine run_ret ?_ | refine run_nil ?_)
    refine end_of ⟨[⟨2, [], .c (.fn 98 [] [⟨0, 0, 0, 0⟩])⟩], ⟨1, [(0, boxW a)]⟩⟩ (LeS.intro [0] (fun i h => absurd h (Nat.not_lt_zero i)) (by simp only [diff, notIn, Nat.beq, and_self]) rfl ?_ ?_) ⟨rfl, rfl⟩
    · simp only [slotsLe, slotAt, Nat.beq, leV, leV1, leC, leAL, leA, nthO, and_self]
    · simp only [leBlks, nthO, getB, Nat.beq]
      exact ⟨⟨rfl, rfl, id, Nat.le_refl _, fun _ _ => by simp only [boxW, leSegs, leSeg, leC, and_self]⟩, trivial⟩
  refine (h0.frame (H := ⟨n, X⟩) [] rfl trivial trivial hkl trivial (by simp only [leArgs, leV, leV1, leC, and_self])).weaken ?_
  rintro v H' ⟨v0, H0', ⟨rfl, rfl⟩, rfl, rfl⟩
  refine ⟨rfl, ?_⟩
  simp only [framed, dropB_none (l := []) (H0 := []) (fun _ => rfl)]
  rfl
theorem end_kind {l : List Slot} {H : Heap} {R : Post} {n : Nat} (w : ByteArray) (r i o : Bool) (u : Int) (d e a : Bool) (g : FuncId) (ok : Bool) (hsl : slotAt l 2 = some ⟨2, [], .c (.ptr ⟨n, 0, 0, 0⟩)⟩) (hok : slotAt l 3 = some ⟨3, [], .c (.bool ok)⟩) (hb : getB H.blks n = some (kindB (kindL w r i o u d e a (.fn g [] []))))
    (hR : R (kindV (kindL w r i o u d e a (.fn g [] [])) ok) ⟨1, [(0, kindB (kindL w r i o u d e a (.fn g [] [])))]⟩) : endQ (LeS 0) [.cn 9 2, .tmp 3] R .ret ⟨l, H⟩ := by
  refine end_of ⟨[⟨2, [], .c (.ptr ⟨0, 0, 0, 0⟩)⟩, ⟨3, [], .c (.bool ok)⟩], ⟨1, [(0, kindB (kindL w r i o u d e a (.fn g [] [])))]⟩⟩ (LeS.intro [n] (fun i h => absurd h (Nat.not_lt_zero i)) (by simp only [diff, notIn, and_self]) rfl (by simp only [slotsLe, hsl, hok, leV, leV1, leC, leA, nthO, and_self]) ?_) ?_
  · simp only [leBlks, nthO, hb]
    exact ⟨⟨rfl, rfl, id, Nat.le_refl _, fun _ _ => by simp only [kindB, kindL, leSegs, leSeg, leC, leAL, and_self]⟩, trivial⟩
  · simp only [endF, resL, resA, St.get, slotAt, Nat.beq, sfx, eqP, ldn, getB, kindB, kindL, rowNeed, cut, dropS, takeS, Seg.size, nsub, noTup, resV]
    exact hR
theorem forget_kind (w : ByteArray) (r i o : Bool) (u : Int) (d e a : Bool) (g : FuncId) (ok : Bool) {n : FuncId} {args : List AV} (h : Con Try.prog n args ⟨0, []⟩ fun v H' => v = kindV (kindL w r i o u d e a (.fn g [] [])) ok ∧ H' = ⟨1, [(0, kindB (kindL w r i o u d e a (.fn g [] [])))]⟩) (ha : leArgs [] args args) (H : Heap) : Con Try.prog n args H fun v H' => v = kindV (kindL w r i o u d e a (.fn g [] [])) ok ∧ H' = H := by
  refine Con.pure (Con.forget h ?_) ha rfl H
  rintro v H' ⟨rfl, rfl⟩
  exact ⟨_, ⟨0, []⟩, [], fun i h => absurd h (Nat.not_lt_zero i), trivial, rfl, trivial, by simp only [kindV, kindL, leV, leV1, leVL, leC, leSegs, leSeg, leAL, and_self], rfl, rfl⟩
set_option maxHeartbeats 8000000 in
theorem kind_P (k : Int) (w : ByteArray) (r i o : Bool) (u : Int) (d e a : Bool) (g : FuncId) (hk : (k = 1 ∧ w = ⟨#[99, 111, 110, 115, 116]⟩ ∧ r = false ∧ i = true ∧ o = false ∧ u = 0 ∧ d = true ∧ e = false ∧ a = false ∧ g = 66) ∨ (k = 4 ∧ w = ⟨#[103, 101, 116, 115, 112]⟩ ∧ r = false ∧ i = false ∧ o = false ∧ u = 0 ∧ d = true ∧ e = false ∧ a = false ∧ g = 66) ∨ (k = 5 ∧ w = ⟨#[115, 101, 116, 115, 112]⟩ ∧ r = false ∧ i = false ∧ o = false ∧ u = 1 ∧ d = false ∧ e = false ∧ a = false ∧ g = 66) ∨ (k = 8 ∧ w = ⟨#[97, 108, 117]⟩ ∧ r = true ∧ i = false ∧ o = false ∧ u = 2 ∧ d = true ∧ e = false ∧ a = false ∧ g = 68) ∨ (k = 13 ∧ w = ⟨#[102, 101, 110, 99, 101]⟩ ∧ r = true ∧ i = false ∧ o = false ∧ u = 0 ∧ d = false ∧ e = false ∧ a = false ∧ g = 70) ∨ (k = 14 ∧ w = ⟨#[97, 116]⟩ ∧ r = false ∧ i = true ∧ o = false ∧ u = 0 ∧ d = false ∧ e = false ∧ a = false ∧ g = 71) ∨ (k = 15 ∧ w = ⟨#[101, 120, 105, 116, 105, 102]⟩ ∧ r = false ∧ i = true ∧ o = false ∧ u = 1 ∧ d = false ∧ e = false ∧ a = false ∧ g = 66) ∨ (k = 16 ∧ w = ⟨#[101, 120, 105, 116]⟩ ∧ r = false ∧ i = true ∧ o = false ∧ u = 0 ∧ d = false ∧ e = true ∧ a = false ∧ g = 66) ∨ (k = 17 ∧ w = ⟨#[101, 120, 105, 116, 116, 111]⟩ ∧ r = false ∧ i = false ∧ o = false ∧ u = 1 ∧ d = false ∧ e = true ∧ a = false ∧ g = 66) ∨ (k = 18 ∧ w = ⟨#[103, 117, 101, 115, 116]⟩ ∧ r = false ∧ i = true ∧ o = false ∧ u = 0 ∧ d = false ∧ e = true ∧ a = false ∧ g = 72)) (H : Heap) : Con Try.prog 46 [.c (.int .i64 k)] H (fun v H' => v = kindV (kindL w r i o u d e a (.fn g [] [])) true ∧ H' = H) := by
  refine forget_kind _ _ _ _ _ _ _ _ _ _ ?_ (by simp only [leArgs, leV, leV1, leC, and_self]) H
  rcases hk with ⟨rfl, rfl, rfl, rfl, rfl, rfl, rfl, rfl, rfl, rfl⟩ | ⟨rfl, rfl, rfl, rfl, rfl, rfl, rfl, rfl, rfl, rfl⟩ | ⟨rfl, rfl, rfl, rfl, rfl, rfl, rfl, rfl, rfl, rfl⟩ | ⟨rfl, rfl, rfl, rfl, rfl, rfl, rfl, rfl, rfl, rfl⟩ | ⟨rfl, rfl, rfl, rfl, rfl, rfl, rfl, rfl, rfl, rfl⟩ | ⟨rfl, rfl, rfl, rfl, rfl, rfl, rfl, rfl, rfl, rfl⟩ | ⟨rfl, rfl, rfl, rfl, rfl, rfl, rfl, rfl, rfl, rfl⟩ | ⟨rfl, rfl, rfl, rfl, rfl, rfl, rfl, rfl, rfl, rfl⟩ | ⟨rfl, rfl, rfl, rfl, rfl, rfl, rfl, rfl, rfl, rfl⟩ | ⟨rfl, rfl, rfl, rfl, rfl, rfl, rfl, rfl, rfl, rfl⟩
  all_goals
    (refine con_of_run mixed (fn := Try.f46) (by kernel_rfl) (by kernel_rfl) C46_ok (rs := [.cn 9 2, .tmp 3]) (by kernel_rfl) (Nat.le_of_ble_eq_true (by kernel_rfl)) ?_; unfold C46; simp only [initT, Nat.reduceAdd])
    repeat' (first | refine run_seq ?_ | refine run_skip ?_ | (refine run_region fun K hK => ?_; (try (simp (maxSteps := 10000000) only [Int.reduceBEq, partsOf, fillS, C46r0, C46r1, C46r2, C46r3, C46r4, C46r5, C46r6, C46r7, C46r8, C46r9, C46r10, C46r11, C46r12, C46r13, C46r14, C46r15, C46r16, C46r17, C46r18, C46r19, C46r20, C46r21, C46r22, C46r23, C46r24, C46r25, C46r26, C46r27, C46r28, C46r29, C46r30, C46r31, C46r32, C46r33, C46r34, C46r35, C46r36, C46r37, C46r38, rwp_nil, rwp_cons, rwpK_app, aop, gpath, St.get, slotAt, sfx, eqP, segsOf, St.put, addBlk, getB, setB, delB, ld1, ldn, st1, stn, setRow, rowNeed, segAt, nsub, bin, un, eqB, isShift, sameK, arith, shiftR, getsl, selB_or, selB_and, beqb, shed, addN, Nat.beq, Seg.size, sizes, imp, needP, andN, appL, argsOf, ptrsOf, aasOf, cut, takeS, dropS, putS, partsOf, fillS, fieldOf, nthA, negIf, nilq, nilB, eqS, eqF, eqS1, andP, kin, slcS, strOk, plusA, bndHi, leN, optG, roH, roL, initT, exOk, exAll, wrAddr, Nat.reduceAdd, Nat.reduceSub, Nat.reduceMul, Int.reduceToNat, List.append_nil, List.nil_append, List.cons_append, mapR, mapR1, keyL, keyOk, keyP, colsPut, colsDel, zcols, eqT, idxT, cat, cpy, ite_int, ite_bool, ite_seg, ite_segs, ite_nil, ite_twice, Int.toNat_natCast, app, addBs, tob])); (repeat (first | (refine And.intro ?_ ?_; · first | trivial | assumption | omega))); with_reducible refine hK _ ?_; clear hK K) | (refine run_cond rfl (fun hc => ?_) (fun hc => ?_) <;> try (simp only [*, Bool.true_eq_false, Bool.false_eq_true, Bool.not_true, Bool.not_false, Bool.true_or, Bool.or_true, Bool.false_or, Bool.or_false, Bool.false_and, Bool.and_false, bne_self_eq_false, beq_self_eq_true] at hc; done)) | refine run_block ?_ | refine run_ret ?_ | refine run_nil ?_ | refine blk_normal ?_ | refine blk_ret ?_ | refine blk_here ?_ | refine blk_there rfl ?_)
    exact end_kind _ _ _ _ _ _ _ _ _ true rfl rfl rfl ⟨rfl, rfl⟩
end Go.Proofs.Ytmbnakinhnkabaa

namespace Go.Proofs.Ytmbnakinhnkabaa
open Go.AM
set_option maxRecDepth 100000
set_option linter.unusedSimpArgs false
set_option linter.unusedVariables false
def opB (o : OpS) : Blk := ⟨6, none, fun _ => opL o, 39, true⟩
theorem op_le {l : List Nat} (o : OpS) : leB l (opB o) (opB o) := ⟨rfl, rfl, id, Nat.le_refl _, fun _ _ => by simp only [opB, opL, leSegs, leSeg, leC, and_self]⟩
def boxR (v : Int) : Blk := ⟨1, none, fun _ => [.c (.int .i64 v)], 3, false⟩
theorem box_le {l : List Nat} (v : Int) (w : Bool) : leB l ⟨1, none, fun _ => [.c (.int .i64 v)], 3, w⟩ (boxR v) := ⟨rfl, rfl, fun h => (by cases h), Nat.le_refl _, fun _ _ => ⟨⟨rfl, rfl⟩, trivial⟩⟩
def upS (a : Int) (o : OpS) : Bool := decide (o.r ≥ 0) && decide (o.r ≤ a)
theorem con98 (a : Int) (o : OpS) : Con Try.prog 98 [.agg (opL o), .c (.ptr ⟨0, 0, 0, 0⟩)] ⟨1, [(0, boxR a)]⟩ (fun v H' => v = .c (.bool (upS a o)) ∧ H' = ⟨1, [(0, boxR a)]⟩) := by
  (refine con_of_run mixed (fn := Try.f98) (by kernel_rfl) (by kernel_rfl) C98_ok (rs := [.tmp 3]) (by kernel_rfl) (Nat.le_of_ble_eq_true (by kernel_rfl)) ?_; unfold C98; simp only [initT, Nat.reduceAdd])
  generalize hR : (fun (v : AV) (H' : Heap) => v = AV.c (.bool (upS a o)) ∧ H' = ⟨1, [(0, boxR a)]⟩) = R
  simp only [boxR]
  repeat' (first | refine run_seq ?_ | (refine run_region fun K hK => ?_; (try (simp (maxSteps := 10000000) only [opL, C98r0, C98r1, rwp_nil, rwp_cons, aop, gpath, St.get, slotAt, sfx, eqP, segsOf, St.put, addBlk, getB, ld1, rowNeed, segAt, nsub, bin, isShift, sameK, arith, getsl, selB_and, beqb, shed, addN, Seg.size, sizes, Nat.reduceAdd])); (repeat (first | (refine And.intro ?_ ?_; · (first | decide | trivial | (intros; first | decide | trivial))))); with_reducible refine hK _ ?_; clear hK K) | refine run_ret ?_ | refine run_nil ?_)
  subst hR
  exact end_of ⟨[⟨3, [], .c (.bool (upS a o))⟩], ⟨1, [(0, boxR a)]⟩⟩ (LeS.intro [0] idt1 (by simp only [diff, notIn, and_self]) rfl ⟨rfl, trivial⟩ ⟨box_le _ _, trivial⟩) ⟨rfl, rfl⟩
theorem con98_at (a : Int) (o : OpS) (j n : Nat) (X : List (Nat × Blk)) (w : Bool) (hj : getB X j = some ⟨1, none, fun _ => [.c (.int .i64 a)], 3, w⟩) (hlt : j < n) (hkl : keysLt X n) : Con Try.prog 98 [.agg (opL o), .c (.ptr ⟨j, 0, 0, 0⟩)] ⟨n, X⟩ (fun v H' => v = .c (.bool (upS a o)) ∧ H' = ⟨n, X⟩) :=
  ro_gen (con98 a o) [j] n X rfl ⟨trivial, trivial⟩ ⟨hlt, trivial⟩ hkl (by simp only [leBlks, nthO, hj]; exact ⟨box_le a w, trivial⟩) (by simp only [leArgs, leV, leV1, opL, leSegs, leSeg, leC, leA, nthO, and_self]) rfl (fun _ => rfl) rfl rfl
def intsB (n : Nat) (f : Nat → Int) : Blk := ⟨1, some n, fun i => [.c (.int .i64 (f i))], 3, false⟩
theorem ints_le {l : List Nat} (n : Nat) (f : Nat → Int) (w : Bool) : leB l ⟨1, some n, fun i => [.c (.int .i64 (f i))], 3, w⟩ (intsB n f) := ⟨rfl, rfl, fun h => (by cases h), Nat.le_refl _, fun _ _ => ⟨⟨rfl, rfl⟩, trivial⟩⟩
def slB (a n : Nat) (w : Bool) : Blk := ⟨1, none, fun _ => [.c (.slice ⟨a, 0, 0, 0⟩ false n)], 59, w⟩
theorem sl_le {l : List Nat} (a n : Nat) (ha : nthO l a = some a) : leB l (slB a n false) (slB a n false) := ⟨rfl, rfl, id, Nat.le_refl _, fun _ _ => by simp only [slB, leSegs, leSeg, leC, leA, ha, and_self]⟩
def inB (f : Nat → Int) (v : Int) : Nat → Nat → Bool
  | 0, _ => false
  | m + 1, k => (v == f k) || inB f v m (k + 1)
def ordSt (n : Nat) (f : Nat → Int) (o : OpS) (k : Nat) : St := ⟨[⟨8, [], .c (.int .i64 k)⟩, ⟨7, [], .c (.int .i64 n)⟩, ⟨6, [], .c (.slice ⟨0, 0, 0, 0⟩ false n)⟩, ⟨2, [], .c (.ptr ⟨2, 0, 0, 0⟩)⟩], ⟨3, [(2, opB o), (1, slB 0 n false), (0, intsB n f)]⟩⟩
theorem con99 (n : Nat) (f : Nat → Int) (o : OpS) (hn : n < 1000) : Con Try.prog 99 [.agg (opL o), .c (.ptr ⟨1, 0, 0, 0⟩)] ⟨2, [(1, slB 0 n false), (0, intsB n f)]⟩ (fun v H' => v = .c (.bool (inB f o.order n 0)) ∧ H' = ⟨2, [(1, slB 0 n false), (0, intsB n f)]⟩) := by
  (refine con_of_run mixed (fn := Try.f99) (by kernel_rfl) (by kernel_rfl) C99_ok (rs := [.tmp 3]) (by kernel_rfl) (Nat.le_of_ble_eq_true (by kernel_rfl)) ?_; unfold C99; simp only [initT, Nat.reduceAdd])
  generalize hT : inB f o.order n 0 = T
  generalize hR : (fun (v : AV) (H' : Heap) => v = AV.c (.bool T) ∧ H' = ⟨2, [(1, slB 0 n false), (0, intsB n f)]⟩) = R
  have hend : ∀ (l : List Slot) (X : List (Nat × Blk)), slotAt l 3 = some ⟨3, [], .c (.bool T)⟩ → getB X 0 = some (intsB n f) → getB X 1 = some (slB 0 n false) → endQ (LeS 2) [.tmp 3] R .ret ⟨l, ⟨3, X⟩⟩ := by
    intro l X h3 h0 h1
    subst hR
    exact end_of ⟨[⟨3, [], .c (.bool T)⟩], ⟨2, [(1, slB 0 n false), (0, intsB n f)]⟩⟩ (LeS.intro [0, 1] idt2 (by simp only [diff, notIn, Nat.beq, and_self]) rfl (by simp only [slotsLe, h3, leV, leV1, leC, and_self]) (by simp only [leBlks, nthO, h0, h1]; exact ⟨sl_le 0 n rfl, ints_le n f _, trivial⟩)) ⟨rfl, rfl⟩
  simp only [slB]
  repeat' (first | refine run_seq ?_ | refine run_skip ?_ | (refine run_region fun K hK => ?_; (try (simp (maxSteps := 10000000) only [opL, C99r0, rwp_nil, rwp_cons, aop, gpath, St.get, slotAt, sfx, eqP, segsOf, St.put, addBlk, shed, Seg.size, sizes, Nat.reduceAdd])); (repeat (first | (refine And.intro ?_ ?_; · decide))); with_reducible refine hK _ ?_; clear hK K) | (refine run_cond rfl (fun hc => ?_) (fun hc => ?_) <;> try (simp only [*, Bool.true_eq_false, Bool.false_eq_true, Bool.not_true, Bool.not_false, Bool.true_or, Bool.or_true, Bool.false_or, Bool.or_false, Bool.false_and, Bool.and_false, bne_self_eq_false, beq_self_eq_true] at hc; done)) | refine run_block ?_ | refine run_ret ?_ | refine run_nil ?_ | refine run_exit ?_ | refine blk_normal ?_ | refine blk_ret ?_ | refine blk_here ?_ | refine blk_there rfl ?_ | refine loop_exit ?_ | refine loop_ret ?_ | refine un_exit ?_ | refine un_ret ?_ | refine unE_exit ?_ | refine unE_ret ?_ | refine un_normal ?_)
  (refine run_regionL fun K hK => ?_; (try (simp (maxSteps := 10000000) only [C99r1, rwp_nil, rwp_cons, aop, gpath, St.get, slotAt, sfx, eqP, St.put, addBlk, getB, ld1, rowNeed, segAt, shed])); (repeat (first | (refine And.intro ?_ ?_; · first | trivial | assumption | omega))); refine hK _ (ordSt n f o 0) ((LeS.intro [0, 1, 2] (fun i h => by match i, h with | 0, _ => rfl | 1, _ => rfl) (by simp only [diff, notIn, Nat.beq, and_self]) rfl (by simp only [ordSt, slotsLe, slotAt, leV, leV1, leC, leA, nthO, and_self, Int.natCast_zero]) ⟨op_le o, sl_le 0 n rfl, ints_le n f _, trivial⟩)) ?_; clear hK K)
  refine run_block ?_
  refine run_loop (fun q st => ∃ k : Nat, st = ordSt n f o k ∧ q = n - k ∧ k ≤ n ∧ inB f o.order (n - k) k = T) n ⟨0, rfl, rfl, Nat.zero_le _, hT⟩ ?_
  clear hT
  rintro q st ⟨k, rfl, hq, hk, hT⟩
  simp only [ordSt, opB, intsB]
  repeat' (first | refine run_seq ?_ | refine run_skip ?_ | (refine run_region fun K hK => ?_; (try (simp (maxSteps := 10000000) only [opL, C99r2, C99r3, C99r4, C99r5, C99r6, C99r7, rwp_nil, rwp_cons, aop, gpath, St.get, slotAt, sfx, eqP, St.put, addBlk, getB, ld1, rowNeed, segAt, nsub, bin, isShift, sameK, arith, shed, addN, Nat.beq, Seg.size, imp, strOk, plusA, Nat.reduceAdd, Int.toNat_natCast])); (repeat (first | (refine And.intro ?_ ?_; · (first | decide | omega | (simp only [decide_eq_true_eq] at hc; omega))))); with_reducible refine hK _ ?_; clear hK K) | (refine run_cond rfl (fun hc => ?_) (fun hc => ?_) <;> try (simp only [*, Bool.true_eq_false, Bool.false_eq_true, Bool.not_true, Bool.not_false, Bool.true_or, Bool.or_true, Bool.false_or, Bool.or_false, Bool.false_and, Bool.and_false, bne_self_eq_false, beq_self_eq_true] at hc; done)) | refine run_block ?_ | refine run_ret ?_ | refine run_nil ?_ | refine run_exit ?_ | refine blk_normal ?_ | refine blk_ret ?_ | refine blk_here ?_ | refine blk_there rfl ?_ | refine loop_exit ?_ | refine loop_ret ?_ | refine un_exit ?_ | refine un_ret ?_ | refine unE_exit ?_ | refine unE_ret ?_ | refine un_normal ?_)
  · have hlt : k < n := by simpa using ‹decide ((k : Int) < (n : Int)) = true›
    obtain ⟨m, hm⟩ : ∃ m, n - k = m + 1 := ⟨n - k - 1, by omega⟩
    have hb : (o.order == f k) = true := by assumption
    rw [hm] at hT
    unfold inB at hT
    rw [hb, Bool.true_or] at hT
    exact hend _ _ (by rw [← hT]; rfl) rfl rfl
  · have hlt : k < n := by simpa using ‹decide ((k : Int) < (n : Int)) = true›
    obtain ⟨m, hm⟩ : ∃ m, n - k = m + 1 := ⟨n - k - 1, by omega⟩
    have hw : IntKind.i64.wrap ((k : Int) + 1) = ((k + 1 : Nat) : Int) := by rw [IntKind.wrap_i64]; omega
    have hb : (o.order == f k) = false := by assumption
    rw [hm] at hT
    unfold inB at hT
    rw [hb, Bool.false_or] at hT
    rw [hw]
    exact loop_normal m (ordSt n f o (k + 1)) (by omega) (LeS.intro [0, 1, 2] (fun i h => by match i, h with | 0, _ => rfl | 1, _ => rfl) (by simp only [diff, notIn, Nat.beq, and_self]) rfl (by simp only [ordSt, slotsLe, slotAt, leV, leV1, leC, leA, nthO, and_self]) ⟨op_le o, sl_le 0 n rfl, ints_le n f _, trivial⟩) ⟨k + 1, rfl, by omega, by omega, by rw [show n - (k + 1) = m by omega]; exact hT⟩
  · have hge : ¬ k < n := by simpa using ‹decide ((k : Int) < (n : Int)) = false›
    have h0 : n - k = 0 := by omega
    rw [h0] at hT
    have e : false = T := hT
    exact hend _ _ (by rw [← e]; rfl) rfl rfl
end Go.Proofs.Ytmbnakinhnkabaa

namespace Go.Proofs.Ytmbnakinhnkabaa
open Go.AM
set_option maxRecDepth 100000
set_option linter.unusedSimpArgs false
set_option linter.unusedVariables false
theorem con69 (m j n : Nat) (X : List (Nat × Blk)) (hj : j < n) (hkl : keysLt X n) : Con Try.prog 69 [.c (.slice ⟨j, 0, 0, 0⟩ false m)] ⟨n, X⟩ (fun v H' => v = .c (.fn 99 [] [⟨n, 0, 0, 0⟩]) ∧ H' = addBs ⟨n, X⟩ [slB j m true]) := by
  have h0 : Con Try.prog 69 [.c (.slice ⟨0, 0, 0, 0⟩ false m)] ⟨1, []⟩ (fun v H' => v = .c (.fn 99 [] [⟨1, 0, 0, 0⟩]) ∧ H' = ⟨2, [(1, slB 0 m true)]⟩) := by
    (refine con_of_run mixed (fn := Try.f69) (by kernel_rfl) (by kernel_rfl) C69_ok (rs := [.tmp 2]) (by kernel_rfl) (Nat.le_of_ble_eq_true (by kernel_rfl)) ?_; unfold C69; simp only [initT])
    repeat' (first | refine run_seq ?_ | (refine run_region fun K hK => ?_; (try (simp (maxSteps := 10000000) only [C69r0, C69r1, rwp_nil, rwp_cons, aop, gpath, St.get, slotAt, sfx, eqP, segsOf, St.put, addBlk, shed, Seg.size, sizes, aasOf, Nat.reduceAdd])); (repeat (first | (refine And.intro ?_ ?_; · first | trivial | assumption | omega))); with_reducible refine hK _ ?_; clear hK K) | refine run_ret ?_ | refine run_nil ?_)
    refine end_of ⟨[⟨2, [], .c (.fn 99 [] [⟨1, 0, 0, 0⟩])⟩], ⟨2, [(1, slB 0 m true)]⟩⟩ (LeS.intro [0, 1] (fun i h => by match i, h with | 0, _ => rfl) (by simp only [diff, notIn, Nat.beq, and_self]) rfl ?_ ?_) ⟨rfl, rfl⟩
    · simp only [slotsLe, slotAt, leV, leV1, leC, leAL, leA, nthO, and_self]
    · simp only [leBlks, nthO, getB]
      exact ⟨⟨rfl, rfl, id, Nat.le_refl _, fun _ _ => by simp only [slB, leSegs, leSeg, leC, leA, nthO, and_self]⟩, trivial⟩
  refine (h0.frame (H := ⟨n, X⟩) [j] rfl ⟨trivial, trivial⟩ ⟨hj, trivial⟩ hkl trivial (by simp only [leArgs, leV, leV1, leC, leA, nthO, and_self])).weaken ?_
  rintro v H' ⟨v0, H0', ⟨rfl, rfl⟩, rfl, rfl⟩
  refine ⟨rfl, ?_⟩
  simp only [framed, dropB_none (l := [j]) (H0 := []) (fun _ => rfl)]
  rfl
theorem end_kindQ {l : List Slot} {H : Heap} {R : Post} (w : ByteArray) (r i o : Bool) (u : Int) (d e a : Bool) (t : Int) (ok : Bool) (hsl : slotAt l 2 = some ⟨2, [], .c (.ptr ⟨0, 0, 0, 0⟩)⟩) (hok : slotAt l 3 = some ⟨3, [], .c (.bool ok)⟩) (hb : getB H.blks 0 = some (kindB (kindL w r i o u d e a (.fn 98 [] [⟨1, 0, 0, 0⟩])))) (hx : getB H.blks 1 = some (boxW t))
    (hR : R (kindV (kindL w r i o u d e a (.fn 98 [] [⟨0, 0, 0, 0⟩])) ok) ⟨2, [(1, kindB (kindL w r i o u d e a (.fn 98 [] [⟨0, 0, 0, 0⟩]))), (0, boxW t)]⟩) : endQ (LeS 0) [.cn 9 2, .tmp 3] R .ret ⟨l, H⟩ := by
  refine end_of ⟨[⟨2, [], .c (.ptr ⟨1, 0, 0, 0⟩)⟩, ⟨3, [], .c (.bool ok)⟩], ⟨2, [(1, kindB (kindL w r i o u d e a (.fn 98 [] [⟨0, 0, 0, 0⟩]))), (0, boxW t)]⟩⟩ (LeS.intro [1, 0] (fun i h => absurd h (Nat.not_lt_zero i)) (by simp only [diff, notIn, Nat.beq, and_self]) rfl (by simp only [slotsLe, hsl, hok, leV, leV1, leC, leA, nthO, and_self]) ?_) ?_
  · simp only [leBlks, nthO, hb, hx]
    exact ⟨⟨rfl, rfl, id, Nat.le_refl _, fun _ _ => by simp only [kindB, kindL, leSegs, leSeg, leC, leAL, leA, nthO, and_self]⟩, ⟨rfl, rfl, id, Nat.le_refl _, fun _ _ => by simp only [boxW, leSegs, leSeg, leC, and_self]⟩, trivial⟩
  · simp only [endF, resL, resA, St.get, slotAt, sfx, eqP, ldn, getB, kindB, kindL, rowNeed, cut, dropS, takeS, Seg.size, nsub, noTup, resV]
    exact hR
theorem frame_kindQ (w : ByteArray) (r i o : Bool) (u : Int) (d e a : Bool) (t : Int) (ok : Bool) {m : FuncId} {args : List AV} (h : Con Try.prog m args ⟨0, []⟩ fun v H' => v = kindV (kindL w r i o u d e a (.fn 98 [] [⟨0, 0, 0, 0⟩])) ok ∧ H' = ⟨2, [(1, kindB (kindL w r i o u d e a (.fn 98 [] [⟨0, 0, 0, 0⟩]))), (0, boxW t)]⟩) (ha : leArgs [] args args) (n : Nat) (X : List (Nat × Blk)) (hkl : keysLt X n) : Con Try.prog m args ⟨n, X⟩ fun v H' => v = kindV (kindL w r i o u d e a (.fn 98 [] [⟨n, 0, 0, 0⟩])) ok ∧ H' = addBs ⟨n, X⟩ [boxW t] := by
  have h1 : Con Try.prog m args ⟨0, []⟩ fun v H' => v = kindV (kindL w r i o u d e a (.fn 98 [] [⟨0, 0, 0, 0⟩])) ok ∧ H' = ⟨1, [(0, boxW t)]⟩ := by
    refine Con.forget h ?_
    rintro v H' ⟨rfl, rfl⟩
    exact ⟨_, ⟨1, [(0, boxW t)]⟩, [0], fun i h => absurd h (Nat.not_lt_zero i), ⟨trivial, trivial⟩, rfl, ⟨⟨rfl, rfl, id, Nat.le_refl _, fun _ _ => by simp only [boxW, leSegs, leSeg, leC, and_self]⟩, trivial⟩, by simp only [kindV, kindL, leV, leV1, leVL, leC, leSegs, leSeg, leAL, leA, nthO, and_self], rfl, rfl⟩
  refine (h1.frame (H := ⟨n, X⟩) [] rfl trivial trivial hkl trivial ha).weaken ?_
  rintro v H' ⟨v0, H0', ⟨rfl, rfl⟩, rfl, rfl⟩
  refine ⟨rfl, ?_⟩
  simp only [framed, dropB_none (l := []) (H0 := []) (fun _ => rfl)]
  rfl
set_option maxHeartbeats 8000000 in
theorem kind_Q (k : Int) (w : ByteArray) (r i o : Bool) (u : Int) (d e a : Bool) (t : Int) (hk : (k = 2 ∧ w = ⟨#[103, 101, 116, 120]⟩ ∧ r = true ∧ i = false ∧ o = false ∧ u = 0 ∧ d = true ∧ e = false ∧ a = false ∧ t = 30) ∨ (k = 3 ∧ w = ⟨#[115, 101, 116, 120]⟩ ∧ r = true ∧ i = false ∧ o = false ∧ u = 1 ∧ d = false ∧ e = false ∧ a = false ∧ t = 30) ∨ (k = 6 ∧ w = ⟨#[103, 101, 116, 102]⟩ ∧ r = true ∧ i = false ∧ o = false ∧ u = 0 ∧ d = true ∧ e = false ∧ a = false ∧ t = 3) ∨ (k = 7 ∧ w = ⟨#[115, 101, 116, 102]⟩ ∧ r = true ∧ i = false ∧ o = false ∧ u = 1 ∧ d = false ∧ e = false ∧ a = false ∧ t = 3)) (n : Nat) (X : List (Nat × Blk)) (hkl : keysLt X n) : Con Try.prog 46 [.c (.int .i64 k)] ⟨n, X⟩ (fun v H' => v = kindV (kindL w r i o u d e a (.fn 98 [] [⟨n, 0, 0, 0⟩])) true ∧ H' = addBs ⟨n, X⟩ [boxW t]) := by
  refine frame_kindQ _ _ _ _ _ _ _ _ _ _ ?_ (by simp only [leArgs, leV, leV1, leC, and_self]) n X hkl
  rcases hk with ⟨rfl, rfl, rfl, rfl, rfl, rfl, rfl, rfl, rfl, rfl⟩ | ⟨rfl, rfl, rfl, rfl, rfl, rfl, rfl, rfl, rfl, rfl⟩ | ⟨rfl, rfl, rfl, rfl, rfl, rfl, rfl, rfl, rfl, rfl⟩ | ⟨rfl, rfl, rfl, rfl, rfl, rfl, rfl, rfl, rfl, rfl⟩
  all_goals
    (refine con_of_run mixed (fn := Try.f46) (by kernel_rfl) (by kernel_rfl) C46_ok (rs := [.cn 9 2, .tmp 3]) (by kernel_rfl) (Nat.le_of_ble_eq_true (by kernel_rfl)) ?_; unfold C46; simp only [initT])
    repeat' (first | refine run_seq ?_ | refine run_skip ?_ | (refine run_region fun K hK => ?_; (try (simp (maxSteps := 10000000) only [Int.reduceBEq, C46r0, C46r1, C46r2, C46r4, C46r5, C46r6, C46r7, C46r8, C46r10, C46r12, C46r13, C46r14, C46r15, rwp_nil, rwp_cons, aop, gpath, St.get, slotAt, sfx, eqP, St.put, addBlk, bin, isShift, sameK, arith, shed, Seg.size, sizes, appL, argsOf, ptrsOf, Nat.reduceAdd])); (repeat (first | (refine And.intro ?_ ?_; · first | trivial | assumption | omega) | ((first | (refine call_t _ (con67 _ _ _ (by simp [keysLt])) ?_; rintro v H' ⟨rfl, rfl⟩) | refine call_q _ (con67 _ _ _ (by simp [roL, keysLt, boxW])) ?_ | refine call_g _ (imp_of (con67 _ _ _ (by simp [roL, keysLt, boxW]))) ?_); simp (maxSteps := 10000000) only [partsOf, fillS, rwp_nil, rwp_cons, rwpK_app, aop, gpath, St.get, slotAt, sfx, eqP, segsOf, St.put, addBlk, getB, setB, stn, setRow, rowNeed, nsub, shed, Nat.beq, Seg.size, sizes, takeS, dropS, putS, partsOf, fillS, exOk, Nat.reduceAdd, List.append_nil, List.nil_append, List.cons_append, addBs]))); with_reducible refine hK _ ?_; clear hK K) | (refine run_cond rfl (fun hc => ?_) (fun hc => ?_) <;> try (simp only [*, Bool.true_eq_false, Bool.false_eq_true] at hc; done)) | refine run_block ?_ | refine run_ret ?_ | refine run_nil ?_ | refine blk_normal ?_ | refine blk_ret ?_ | refine blk_here ?_ | refine blk_there rfl ?_)
    exact end_kindQ _ _ _ _ _ _ _ _ _ true rfl rfl rfl rfl ⟨rfl, rfl⟩
def ordF (f1 f2 : Int) : Nat → Int
  | 0 => 0
  | 1 => f1
  | _ => f2
def intsW (m : Nat) (f : Nat → Int) : Blk := ⟨1, some m, fun i => [.c (.int .i64 (f i))], 3, true⟩
theorem rows2 (f1 f2 : Int) (i : Nat) (hi : i < 2) : cutD [Seg.c (.int .i64 0), Seg.c (.int .i64 f1)] (i * 1) 1 = [Seg.c (.int .i64 (ordF f1 f2 i))] := by
  match i, hi with
  | 0, _ => rfl
  | 1, _ => rfl
theorem rows3 (f1 f2 : Int) (i : Nat) (hi : i < 3) : cutD [Seg.c (.int .i64 0), Seg.c (.int .i64 f1), Seg.c (.int .i64 f2)] (i * 1) 1 = [Seg.c (.int .i64 (ordF f1 f2 i))] := by
  match i, hi with
  | 0, _ => rfl
  | 1, _ => rfl
  | 2, _ => rfl
theorem end_kindS {l : List Slot} {H : Heap} {R : Post} (w : ByteArray) (r i o : Bool) (u : Int) (d e a : Bool) (m : Nat) (f : Nat → Int) (row : Nat → List Seg) (ok : Bool) (hsl : slotAt l 2 = some ⟨2, [], .c (.ptr ⟨0, 0, 0, 0⟩)⟩) (hok : slotAt l 3 = some ⟨3, [], .c (.bool ok)⟩) (hb : getB H.blks 0 = some (kindB (kindL w r i o u d e a (.fn 99 [] [⟨2, 0, 0, 0⟩])))) (hx : getB H.blks 1 = some ⟨1, some m, row, 3, true⟩) (hy : getB H.blks 2 = some (slB 1 m true)) (hrow : ∀ i, i < m → row i = [.c (.int .i64 (f i))])
    (hR : R (kindV (kindL w r i o u d e a (.fn 99 [] [⟨1, 0, 0, 0⟩])) ok) ⟨3, [(2, kindB (kindL w r i o u d e a (.fn 99 [] [⟨1, 0, 0, 0⟩]))), (1, slB 0 m true), (0, intsW m f)]⟩) : endQ (LeS 0) [.cn 9 2, .tmp 3] R .ret ⟨l, H⟩ := by
  refine end_of ⟨[⟨2, [], .c (.ptr ⟨2, 0, 0, 0⟩)⟩, ⟨3, [], .c (.bool ok)⟩], ⟨3, [(2, kindB (kindL w r i o u d e a (.fn 99 [] [⟨1, 0, 0, 0⟩]))), (1, slB 0 m true), (0, intsW m f)]⟩⟩ (LeS.intro [1, 2, 0] (fun i h => absurd h (Nat.not_lt_zero i)) (by simp only [diff, notIn, Nat.beq, and_self]) rfl (by simp only [slotsLe, hsl, hok, leV, leV1, leC, leA, nthO, and_self]) ?_) ?_
  · simp only [leBlks, nthO, hb, hx, hy]
    exact ⟨⟨rfl, rfl, id, Nat.le_refl _, fun _ _ => by simp only [kindB, kindL, leSegs, leSeg, leC, leAL, leA, nthO, and_self]⟩, ⟨rfl, rfl, id, Nat.le_refl _, fun _ _ => by simp only [slB, leSegs, leSeg, leC, leA, nthO, and_self]⟩, ⟨rfl, rfl, id, Nat.le_refl _, fun i hi => by have hi := hi.resolve_right (Nat.succ_ne_zero _); show leSegs _ (row i) _; rw [hrow i hi]; simp only [intsW, leSegs, leSeg, leC, and_self]⟩, trivial⟩
  · simp only [endF, resL, resA, St.get, slotAt, sfx, eqP, ldn, getB, kindB, kindL, rowNeed, cut, dropS, takeS, Seg.size, nsub, noTup, resV]
    exact hR
theorem frame_kindS (w : ByteArray) (r i o : Bool) (u : Int) (d e a : Bool) (c : Nat) (f : Nat → Int) (ok : Bool) {m : FuncId} {args : List AV} (h : Con Try.prog m args ⟨0, []⟩ fun v H' => v = kindV (kindL w r i o u d e a (.fn 99 [] [⟨1, 0, 0, 0⟩])) ok ∧ H' = ⟨3, [(2, kindB (kindL w r i o u d e a (.fn 99 [] [⟨1, 0, 0, 0⟩]))), (1, slB 0 c true), (0, intsW c f)]⟩) (ha : leArgs [] args args) (n : Nat) (X : List (Nat × Blk)) (hkl : keysLt X n) : Con Try.prog m args ⟨n, X⟩ fun v H' => v = kindV (kindL w r i o u d e a (.fn 99 [] [⟨n + 1, 0, 0, 0⟩])) ok ∧ H' = addBs ⟨n, X⟩ [intsW c f, slB n c true] := by
  have h1 : Con Try.prog m args ⟨0, []⟩ fun v H' => v = kindV (kindL w r i o u d e a (.fn 99 [] [⟨1, 0, 0, 0⟩])) ok ∧ H' = ⟨2, [(1, slB 0 c true), (0, intsW c f)]⟩ := by
    refine Con.forget h ?_
    rintro v H' ⟨rfl, rfl⟩
    exact ⟨_, ⟨2, [(1, slB 0 c true), (0, intsW c f)]⟩, [0, 1], fun i h => absurd h (Nat.not_lt_zero i), by simp only [diff, notIn, Nat.beq, and_self], rfl, ⟨⟨rfl, rfl, id, Nat.le_refl _, fun _ _ => by simp only [slB, leSegs, leSeg, leC, leA, nthO, and_self]⟩, ⟨rfl, rfl, id, Nat.le_refl _, fun _ _ => by simp only [intsW, leSegs, leSeg, leC, and_self]⟩, trivial⟩, by simp only [kindV, kindL, leV, leV1, leVL, leC, leSegs, leSeg, leAL, leA, nthO, and_self], rfl, rfl⟩
  refine (h1.frame (H := ⟨n, X⟩) [] rfl trivial trivial hkl trivial ha).weaken ?_
  rintro v H' ⟨v0, H0', ⟨rfl, rfl⟩, rfl, rfl⟩
  refine ⟨rfl, ?_⟩
  simp only [framed, dropB_none (l := []) (H0 := []) (fun _ => rfl)]
  rfl
set_option maxHeartbeats 8000000 in
theorem kind_S (k : Int) (w : ByteArray) (r i o : Bool) (u : Int) (d e a : Bool) (c : Nat) (f1 f2 : Int) (hk : (k = 9 ∧ w = ⟨#[108, 111, 97, 100]⟩ ∧ r = false ∧ i = false ∧ o = true ∧ u = 1 ∧ d = true ∧ e = false ∧ a = true ∧ c = 3 ∧ f1 = 1 ∧ f2 = 2) ∨ (k = 10 ∧ w = ⟨#[115, 116, 111, 114, 101]⟩ ∧ r = false ∧ i = false ∧ o = true ∧ u = 2 ∧ d = false ∧ e = false ∧ a = true ∧ c = 2 ∧ f1 = 4 ∧ f2 = 0) ∨ (k = 11 ∧ w = ⟨#[108, 111, 97, 100, 101, 120]⟩ ∧ r = false ∧ i = false ∧ o = true ∧ u = 1 ∧ d = true ∧ e = false ∧ a = true ∧ c = 2 ∧ f1 = 2 ∧ f2 = 0) ∨ (k = 12 ∧ w = ⟨#[115, 116, 111, 114, 101, 101, 120]⟩ ∧ r = false ∧ i = false ∧ o = true ∧ u = 2 ∧ d = true ∧ e = false ∧ a = true ∧ c = 2 ∧ f1 = 4 ∧ f2 = 0)) (n : Nat) (X : List (Nat × Blk)) (hkl : keysLt X n) : Con Try.prog 46 [.c (.int .i64 k)] ⟨n, X⟩ (fun v H' => v = kindV (kindL w r i o u d e a (.fn 99 [] [⟨n + 1, 0, 0, 0⟩])) true ∧ H' = addBs ⟨n, X⟩ [intsW c (ordF f1 f2), slB n c true]) := by
  refine frame_kindS _ _ _ _ _ _ _ _ _ _ _ ?_ (by simp only [leArgs, leV, leV1, leC, and_self]) n X hkl
  rcases hk with ⟨rfl, rfl, rfl, rfl, rfl, rfl, rfl, rfl, rfl, rfl, rfl, rfl⟩ | ⟨rfl, rfl, rfl, rfl, rfl, rfl, rfl, rfl, rfl, rfl, rfl, rfl⟩ | ⟨rfl, rfl, rfl, rfl, rfl, rfl, rfl, rfl, rfl, rfl, rfl, rfl⟩ | ⟨rfl, rfl, rfl, rfl, rfl, rfl, rfl, rfl, rfl, rfl, rfl, rfl⟩
  all_goals
    (refine con_of_run mixed (fn := Try.f46) (by kernel_rfl) (by kernel_rfl) C46_ok (rs := [.cn 9 2, .tmp 3]) (by kernel_rfl) (Nat.le_of_ble_eq_true (by kernel_rfl)) ?_; unfold C46; simp only [initT])
    repeat' (first | refine run_seq ?_ | refine run_skip ?_ | (refine run_region fun K hK => ?_; (try (simp (maxSteps := 10000000) only [Int.reduceBEq, partsOf, fillS, repl, rowsFit, rowFn, cutD, C46r0, C46r1, C46r2, C46r4, C46r6, C46r8, C46r10, C46r12, C46r14, C46r16, C46r18, C46r19, C46r20, C46r21, C46r22, C46r23, C46r24, C46r25, rwp_nil, rwp_cons, aop, gpath, St.get, slotAt, sfx, eqP, segsOf, St.put, addBlk, nsub, bin, isShift, sameK, arith, shed, Nat.beq, Seg.size, sizes, appL, argsOf, ptrsOf, cut, takeS, dropS, putS, partsOf, fillS, Nat.reduceAdd, List.append_nil, List.nil_append, List.cons_append])); (repeat (first | (refine And.intro ?_ ?_; · first | trivial | assumption | omega) | ((first | (refine call_t _ (con69 _ 1 _ _ (by decide) (by simp [keysLt])) ?_; rintro v H' ⟨rfl, rfl⟩) | refine call_q _ (con69 _ 1 _ _ (by decide) (by simp [roL, keysLt, boxW])) ?_ | refine call_g _ (imp_of (con69 _ 1 _ _ (by decide) (by simp [roL, keysLt, boxW]))) ?_); simp (maxSteps := 10000000) only [partsOf, fillS, rwp_nil, rwp_cons, rwpK_app, aop, gpath, St.get, slotAt, sfx, eqP, segsOf, St.put, addBlk, getB, setB, stn, setRow, rowNeed, nsub, shed, Nat.beq, Seg.size, sizes, takeS, dropS, putS, partsOf, fillS, exOk, Nat.reduceAdd, List.append_nil, List.nil_append, List.cons_append, addBs]))); with_reducible refine hK _ ?_; clear hK K) | (refine run_cond rfl (fun hc => ?_) (fun hc => ?_) <;> try (simp only [*, Bool.true_eq_false, Bool.false_eq_true] at hc; done)) | refine run_block ?_ | refine run_ret ?_ | refine run_nil ?_ | refine blk_normal ?_ | refine blk_ret ?_ | refine blk_here ?_ | refine blk_there rfl ?_)
    first | exact end_kindS _ _ _ _ _ _ _ _ 2 _ _ true rfl rfl rfl rfl rfl (rows2 _ _) ⟨rfl, rfl⟩ | exact end_kindS _ _ _ _ _ _ _ _ 3 _ _ true rfl rfl rfl rfl rfl (rows3 _ _) ⟨rfl, rfl⟩
def noKind (k : Int) : Prop := (k == 1) = false ∧ (k == 2) = false ∧ (k == 3) = false ∧ (k == 4) = false ∧ (k == 5) = false ∧ (k == 6) = false ∧ (k == 7) = false ∧ (k == 8) = false ∧ (k == 9) = false ∧ (k == 10) = false ∧ (k == 11) = false ∧ (k == 12) = false ∧ (k == 13) = false ∧ (k == 14) = false ∧ (k == 15) = false ∧ (k == 16) = false ∧ (k == 17) = false ∧ (k == 18) = false
theorem forget_noKind {n : FuncId} {args : List AV} (h : Con Try.prog n args ⟨0, []⟩ fun v H' => v = kindV (kindL ⟨#[]⟩ false false false 0 false false false .nilfn) false ∧ H' = ⟨1, [(0, kindB (kindL ⟨#[]⟩ false false false 0 false false false .nilfn))]⟩) (ha : leArgs [] args args) (H : Heap) : Con Try.prog n args H fun v H' => v = kindV (kindL ⟨#[]⟩ false false false 0 false false false .nilfn) false ∧ H' = H := by
  refine Con.pure (Con.forget h ?_) ha rfl H
  rintro v H' ⟨rfl, rfl⟩
  exact ⟨_, ⟨0, []⟩, [], fun i h => absurd h (Nat.not_lt_zero i), trivial, rfl, trivial, by simp only [kindV, kindL, leV, leV1, leVL, leC, leSegs, leSeg, and_self], rfl, rfl⟩
theorem end_noKind {l : List Slot} {H : Heap} {R : Post} {n : Nat} (hsl : slotAt l 2 = some ⟨2, [], .c (.ptr ⟨n, 0, 0, 0⟩)⟩) (hok : slotAt l 3 = some ⟨3, [], .c (.bool false)⟩) (hb : getB H.blks n = some (kindB (kindL ⟨#[]⟩ false false false 0 false false false .nilfn)))
    (hR : R (kindV (kindL ⟨#[]⟩ false false false 0 false false false .nilfn) false) ⟨1, [(0, kindB (kindL ⟨#[]⟩ false false false 0 false false false .nilfn))]⟩) : endQ (LeS 0) [.cn 9 2, .tmp 3] R .ret ⟨l, H⟩ := by
  refine end_of ⟨[⟨2, [], .c (.ptr ⟨0, 0, 0, 0⟩)⟩, ⟨3, [], .c (.bool false)⟩], ⟨1, [(0, kindB (kindL ⟨#[]⟩ false false false 0 false false false .nilfn))]⟩⟩ (LeS.intro [n] (fun i h => absurd h (Nat.not_lt_zero i)) (by simp only [diff, notIn, and_self]) rfl (by simp only [slotsLe, hsl, hok, leV, leV1, leC, leA, nthO, and_self]) ?_) ?_
  · simp only [leBlks, nthO, hb]
    exact ⟨⟨rfl, rfl, id, Nat.le_refl _, fun _ _ => by simp only [kindB, kindL, leSegs, leSeg, leC, and_self]⟩, trivial⟩
  · simp only [endF, resL, resA, St.get, slotAt, sfx, eqP, ldn, getB, kindB, kindL, rowNeed, cut, dropS, takeS, Seg.size, nsub, noTup, resV]
    exact hR
theorem kind_no (k : Int) (h : noKind k) (H : Heap) : Con Try.prog 46 [.c (.int .i64 k)] H (fun v H' => v = kindV (kindL ⟨#[]⟩ false false false 0 false false false .nilfn) false ∧ H' = H) := by
  refine forget_noKind ?_ (by simp only [leArgs, leV, leV1, leC, and_self]) H
  unfold noKind at h
  (refine con_of_run mixed (fn := Try.f46) (by kernel_rfl) (by kernel_rfl) C46_ok (rs := [.cn 9 2, .tmp 3]) (by kernel_rfl) (Nat.le_of_ble_eq_true (by kernel_rfl)) ?_; unfold C46; simp only [initT])
  repeat' (first | refine run_seq ?_ | refine run_skip ?_ | (refine run_region fun K hK => ?_; (try (simp (maxSteps := 10000000) only [h, partsOf, fillS, C46r0, C46r1, C46r2, C46r4, C46r6, C46r8, C46r10, C46r12, C46r14, C46r16, C46r18, C46r20, C46r22, C46r24, C46r26, C46r28, C46r30, C46r32, C46r34, C46r36, C46r38, rwp_nil, rwp_cons, aop, gpath, St.get, slotAt, sfx, eqP, St.put, addBlk, getB, setB, stn, setRow, rowNeed, nsub, bin, isShift, sameK, arith, shed, Nat.beq, Seg.size, sizes, takeS, dropS, putS, partsOf, fillS, exOk, Nat.reduceAdd, List.append_nil, List.nil_append])); (repeat (first | (refine And.intro ?_ ?_; · first | trivial | assumption | omega))); with_reducible refine hK _ ?_; clear hK K) | (refine run_cond rfl (fun hc => ?_) (fun hc => ?_) <;> try (simp only [*, Bool.false_eq_true] at hc; done)) | refine run_block ?_ | refine run_ret ?_ | refine run_nil ?_ | refine blk_normal ?_ | refine blk_ret ?_ | refine blk_here ?_ | refine blk_there rfl ?_)
  exact end_noKind rfl rfl rfl ⟨rfl, rfl⟩
end Go.Proofs.Ytmbnakinhnkabaa

namespace Go.Proofs.Ytmbnakinhnkabaa
open Go.AM
set_option maxRecDepth 100000
set_option linter.unusedSimpArgs false
set_option linter.unusedVariables false
theorem kind_1 (H : Heap) : Con Try.prog 46 [.c (.int .i64 1)] H (fun v H' => v = kindV (kindL ⟨#[99, 111, 110, 115, 116]⟩ false true false 0 true false false (.fn 66 [] [])) true ∧ H' = H) := kind_P _ _ _ _ _ _ _ _ _ _ (by simp) H
theorem kind_2 (n : Nat) (X : List (Nat × Blk)) (hkl : keysLt X n) : Con Try.prog 46 [.c (.int .i64 2)] ⟨n, X⟩ (fun v H' => v = kindV (kindL ⟨#[103, 101, 116, 120]⟩ true false false 0 true false false (.fn 98 [] [⟨n, 0, 0, 0⟩])) true ∧ H' = addBs ⟨n, X⟩ [boxW 30]) := kind_Q _ _ _ _ _ _ _ _ _ _ (by simp) n X hkl
theorem kind_3 (n : Nat) (X : List (Nat × Blk)) (hkl : keysLt X n) : Con Try.prog 46 [.c (.int .i64 3)] ⟨n, X⟩ (fun v H' => v = kindV (kindL ⟨#[115, 101, 116, 120]⟩ true false false 1 false false false (.fn 98 [] [⟨n, 0, 0, 0⟩])) true ∧ H' = addBs ⟨n, X⟩ [boxW 30]) := kind_Q _ _ _ _ _ _ _ _ _ _ (by simp) n X hkl
theorem kind_4 (H : Heap) : Con Try.prog 46 [.c (.int .i64 4)] H (fun v H' => v = kindV (kindL ⟨#[103, 101, 116, 115, 112]⟩ false false false 0 true false false (.fn 66 [] [])) true ∧ H' = H) := kind_P _ _ _ _ _ _ _ _ _ _ (by simp) H
theorem kind_5 (H : Heap) : Con Try.prog 46 [.c (.int .i64 5)] H (fun v H' => v = kindV (kindL ⟨#[115, 101, 116, 115, 112]⟩ false false false 1 false false false (.fn 66 [] [])) true ∧ H' = H) := kind_P _ _ _ _ _ _ _ _ _ _ (by simp) H
theorem kind_6 (n : Nat) (X : List (Nat × Blk)) (hkl : keysLt X n) : Con Try.prog 46 [.c (.int .i64 6)] ⟨n, X⟩ (fun v H' => v = kindV (kindL ⟨#[103, 101, 116, 102]⟩ true false false 0 true false false (.fn 98 [] [⟨n, 0, 0, 0⟩])) true ∧ H' = addBs ⟨n, X⟩ [boxW 3]) := kind_Q _ _ _ _ _ _ _ _ _ _ (by simp) n X hkl
theorem kind_7 (n : Nat) (X : List (Nat × Blk)) (hkl : keysLt X n) : Con Try.prog 46 [.c (.int .i64 7)] ⟨n, X⟩ (fun v H' => v = kindV (kindL ⟨#[115, 101, 116, 102]⟩ true false false 1 false false false (.fn 98 [] [⟨n, 0, 0, 0⟩])) true ∧ H' = addBs ⟨n, X⟩ [boxW 3]) := kind_Q _ _ _ _ _ _ _ _ _ _ (by simp) n X hkl
theorem kind_8 (H : Heap) : Con Try.prog 46 [.c (.int .i64 8)] H (fun v H' => v = kindV (kindL ⟨#[97, 108, 117]⟩ true false false 2 true false false (.fn 68 [] [])) true ∧ H' = H) := kind_P _ _ _ _ _ _ _ _ _ _ (by simp) H
theorem kind_9 (n : Nat) (X : List (Nat × Blk)) (hkl : keysLt X n) : Con Try.prog 46 [.c (.int .i64 9)] ⟨n, X⟩ (fun v H' => v = kindV (kindL ⟨#[108, 111, 97, 100]⟩ false false true 1 true false true (.fn 99 [] [⟨n + 1, 0, 0, 0⟩])) true ∧ H' = addBs ⟨n, X⟩ [intsW 3 (ordF 1 2), slB n 3 true]) := kind_S _ _ _ _ _ _ _ _ _ _ _ _ (by simp) n X hkl
theorem kind_10 (n : Nat) (X : List (Nat × Blk)) (hkl : keysLt X n) : Con Try.prog 46 [.c (.int .i64 10)] ⟨n, X⟩ (fun v H' => v = kindV (kindL ⟨#[115, 116, 111, 114, 101]⟩ false false true 2 false false true (.fn 99 [] [⟨n + 1, 0, 0, 0⟩])) true ∧ H' = addBs ⟨n, X⟩ [intsW 2 (ordF 4 0), slB n 2 true]) := kind_S _ _ _ _ _ _ _ _ _ _ _ _ (by simp) n X hkl
theorem kind_11 (n : Nat) (X : List (Nat × Blk)) (hkl : keysLt X n) : Con Try.prog 46 [.c (.int .i64 11)] ⟨n, X⟩ (fun v H' => v = kindV (kindL ⟨#[108, 111, 97, 100, 101, 120]⟩ false false true 1 true false true (.fn 99 [] [⟨n + 1, 0, 0, 0⟩])) true ∧ H' = addBs ⟨n, X⟩ [intsW 2 (ordF 2 0), slB n 2 true]) := kind_S _ _ _ _ _ _ _ _ _ _ _ _ (by simp) n X hkl
theorem kind_12 (n : Nat) (X : List (Nat × Blk)) (hkl : keysLt X n) : Con Try.prog 46 [.c (.int .i64 12)] ⟨n, X⟩ (fun v H' => v = kindV (kindL ⟨#[115, 116, 111, 114, 101, 101, 120]⟩ false false true 2 true false true (.fn 99 [] [⟨n + 1, 0, 0, 0⟩])) true ∧ H' = addBs ⟨n, X⟩ [intsW 2 (ordF 4 0), slB n 2 true]) := kind_S _ _ _ _ _ _ _ _ _ _ _ _ (by simp) n X hkl
theorem kind_13 (H : Heap) : Con Try.prog 46 [.c (.int .i64 13)] H (fun v H' => v = kindV (kindL ⟨#[102, 101, 110, 99, 101]⟩ true false false 0 false false false (.fn 70 [] [])) true ∧ H' = H) := kind_P _ _ _ _ _ _ _ _ _ _ (by simp) H
theorem kind_14 (H : Heap) : Con Try.prog 46 [.c (.int .i64 14)] H (fun v H' => v = kindV (kindL ⟨#[97, 116]⟩ false true false 0 false false false (.fn 71 [] [])) true ∧ H' = H) := kind_P _ _ _ _ _ _ _ _ _ _ (by simp) H
theorem kind_15 (H : Heap) : Con Try.prog 46 [.c (.int .i64 15)] H (fun v H' => v = kindV (kindL ⟨#[101, 120, 105, 116, 105, 102]⟩ false true false 1 false false false (.fn 66 [] [])) true ∧ H' = H) := kind_P _ _ _ _ _ _ _ _ _ _ (by simp) H
theorem kind_16 (H : Heap) : Con Try.prog 46 [.c (.int .i64 16)] H (fun v H' => v = kindV (kindL ⟨#[101, 120, 105, 116]⟩ false true false 0 false true false (.fn 66 [] [])) true ∧ H' = H) := kind_P _ _ _ _ _ _ _ _ _ _ (by simp) H
theorem kind_17 (H : Heap) : Con Try.prog 46 [.c (.int .i64 17)] H (fun v H' => v = kindV (kindL ⟨#[101, 120, 105, 116, 116, 111]⟩ false false false 1 false true false (.fn 66 [] [])) true ∧ H' = H) := kind_P _ _ _ _ _ _ _ _ _ _ (by simp) H
theorem kind_18 (H : Heap) : Con Try.prog 46 [.c (.int .i64 18)] H (fun v H' => v = kindV (kindL ⟨#[103, 117, 101, 115, 116]⟩ false true false 0 false true false (.fn 72 [] [])) true ∧ H' = H) := kind_P _ _ _ _ _ _ _ _ _ _ (by simp) H
def defS (k : Int) : Bool := (k == 1) || (k == 2) || (k == 4) || (k == 6) || (k == 8) || (k == 9) || (k == 11) || (k == 12)
def accS (k : Int) : Bool := (k == 9) || (k == 10) || (k == 11) || (k == 12)
def endS (k : Int) : Bool := (k == 16) || (k == 17) || (k == 18)
def usesS (k : Int) : Nat := if k = 8 ∨ k = 10 ∨ k = 12 then 2 else if k = 3 ∨ k = 5 ∨ k = 7 ∨ k = 9 ∨ k = 11 ∨ k = 15 ∨ k = 17 then 1 else 0
set_option maxHeartbeats 8000000 in
theorem con57_k (o : OpS) (k : Int) (V : Bool) (ho : o.kind = k) (hk : (k = 1 ∧ V = true) ∨ (k = 2 ∧ V = true) ∨ (k = 3 ∧ V = false) ∨ (k = 4 ∧ V = true) ∨ (k = 5 ∧ V = false) ∨ (k = 6 ∧ V = true) ∨ (k = 7 ∧ V = false) ∨ (k = 8 ∧ V = true) ∨ (k = 9 ∧ V = true) ∨ (k = 10 ∧ V = false) ∨ (k = 11 ∧ V = true) ∨ (k = 12 ∧ V = true) ∨ (k = 13 ∧ V = false) ∨ (k = 14 ∧ V = false) ∨ (k = 15 ∧ V = false) ∨ (k = 16 ∧ V = false) ∨ (k = 17 ∧ V = false) ∨ (k = 18 ∧ V = false)) (H : Heap) : Con Try.prog 57 [.agg (opL o)] H (fun v H' => v = .c (.bool V) ∧ H' = H) := by
  refine Con.pure ?_ (by simp only [leArgs, leV, leV1, opL, leSegs, leSeg, leC, and_self]) rfl H
  rcases hk with ⟨rfl, rfl⟩ | ⟨rfl, rfl⟩ | ⟨rfl, rfl⟩ | ⟨rfl, rfl⟩ | ⟨rfl, rfl⟩ | ⟨rfl, rfl⟩ | ⟨rfl, rfl⟩ | ⟨rfl, rfl⟩ | ⟨rfl, rfl⟩ | ⟨rfl, rfl⟩ | ⟨rfl, rfl⟩ | ⟨rfl, rfl⟩ | ⟨rfl, rfl⟩ | ⟨rfl, rfl⟩ | ⟨rfl, rfl⟩ | ⟨rfl, rfl⟩ | ⟨rfl, rfl⟩ | ⟨rfl, rfl⟩
  all_goals
    (refine con_of_run mixed (fn := Try.f57) (by kernel_rfl) (by kernel_rfl) C57_ok (rs := [.tmp 2]) (by kernel_rfl) (Nat.le_of_ble_eq_true (by kernel_rfl)) ?_; unfold C57; simp only [initT])
    repeat' (first | refine run_seq ?_ | (refine run_region fun K hK => ?_; (try (simp (maxSteps := 10000000) only [opL, ho, C57r0, C57r1, C57r2, rwp_nil, rwp_cons, aop, gpath, St.get, slotAt, sfx, eqP, segsOf, St.put, addBlk, getB, ld1, rowNeed, segAt, nsub, shed, addN, Seg.size, sizes, appL, argsOf, ptrsOf, Nat.reduceAdd])); (repeat (first | (refine And.intro ?_ ?_; · (first | decide | trivial | assumption | (intros; first | decide | trivial))) | ((first | (refine call_t _ (kind_1 _) ?_; rintro v H' ⟨rfl, rfl⟩) | refine call_q _ (kind_1 _) ?_ | refine call_g _ (imp_of (kind_1 _)) ?_ | (refine call_t _ (kind_2 _ _ (by simp [keysLt])) ?_; rintro v H' ⟨rfl, rfl⟩) | refine call_q _ (kind_2 _ _ (by simp [roL, keysLt, boxW])) ?_ | refine call_g _ (imp_of (kind_2 _ _ (by simp [roL, keysLt, boxW]))) ?_ | (refine call_t _ (kind_3 _ _ (by simp [keysLt])) ?_; rintro v H' ⟨rfl, rfl⟩) | refine call_q _ (kind_3 _ _ (by simp [roL, keysLt, boxW])) ?_ | refine call_g _ (imp_of (kind_3 _ _ (by simp [roL, keysLt, boxW]))) ?_ | (refine call_t _ (kind_4 _) ?_; rintro v H' ⟨rfl, rfl⟩) | refine call_q _ (kind_4 _) ?_ | refine call_g _ (imp_of (kind_4 _)) ?_ | (refine call_t _ (kind_5 _) ?_; rintro v H' ⟨rfl, rfl⟩) | refine call_q _ (kind_5 _) ?_ | refine call_g _ (imp_of (kind_5 _)) ?_ | (refine call_t _ (kind_6 _ _ (by simp [keysLt])) ?_; rintro v H' ⟨rfl, rfl⟩) | refine call_q _ (kind_6 _ _ (by simp [roL, keysLt, boxW])) ?_ | refine call_g _ (imp_of (kind_6 _ _ (by simp [roL, keysLt, boxW]))) ?_ | (refine call_t _ (kind_7 _ _ (by simp [keysLt])) ?_; rintro v H' ⟨rfl, rfl⟩) | refine call_q _ (kind_7 _ _ (by simp [roL, keysLt, boxW])) ?_ | refine call_g _ (imp_of (kind_7 _ _ (by simp [roL, keysLt, boxW]))) ?_ | (refine call_t _ (kind_8 _) ?_; rintro v H' ⟨rfl, rfl⟩) | refine call_q _ (kind_8 _) ?_ | refine call_g _ (imp_of (kind_8 _)) ?_ | (refine call_t _ (kind_9 _ _ (by simp [keysLt])) ?_; rintro v H' ⟨rfl, rfl⟩) | refine call_q _ (kind_9 _ _ (by simp [roL, keysLt, boxW])) ?_ | refine call_g _ (imp_of (kind_9 _ _ (by simp [roL, keysLt, boxW]))) ?_ | (refine call_t _ (kind_10 _ _ (by simp [keysLt])) ?_; rintro v H' ⟨rfl, rfl⟩) | refine call_q _ (kind_10 _ _ (by simp [roL, keysLt, boxW])) ?_ | refine call_g _ (imp_of (kind_10 _ _ (by simp [roL, keysLt, boxW]))) ?_ | (refine call_t _ (kind_11 _ _ (by simp [keysLt])) ?_; rintro v H' ⟨rfl, rfl⟩) | refine call_q _ (kind_11 _ _ (by simp [roL, keysLt, boxW])) ?_ | refine call_g _ (imp_of (kind_11 _ _ (by simp [roL, keysLt, boxW]))) ?_ | (refine call_t _ (kind_12 _ _ (by simp [keysLt])) ?_; rintro v H' ⟨rfl, rfl⟩) | refine call_q _ (kind_12 _ _ (by simp [roL, keysLt, boxW])) ?_ | refine call_g _ (imp_of (kind_12 _ _ (by simp [roL, keysLt, boxW]))) ?_ | (refine call_t _ (kind_13 _) ?_; rintro v H' ⟨rfl, rfl⟩) | refine call_q _ (kind_13 _) ?_ | refine call_g _ (imp_of (kind_13 _)) ?_ | (refine call_t _ (kind_14 _) ?_; rintro v H' ⟨rfl, rfl⟩) | refine call_q _ (kind_14 _) ?_ | refine call_g _ (imp_of (kind_14 _)) ?_ | (refine call_t _ (kind_15 _) ?_; rintro v H' ⟨rfl, rfl⟩) | refine call_q _ (kind_15 _) ?_ | refine call_g _ (imp_of (kind_15 _)) ?_ | (refine call_t _ (kind_16 _) ?_; rintro v H' ⟨rfl, rfl⟩) | refine call_q _ (kind_16 _) ?_ | refine call_g _ (imp_of (kind_16 _)) ?_ | (refine call_t _ (kind_17 _) ?_; rintro v H' ⟨rfl, rfl⟩) | refine call_q _ (kind_17 _) ?_ | refine call_g _ (imp_of (kind_17 _)) ?_ | (refine call_t _ (kind_18 _) ?_; rintro v H' ⟨rfl, rfl⟩) | refine call_q _ (kind_18 _) ?_ | refine call_g _ (imp_of (kind_18 _)) ?_); simp (maxSteps := 10000000) only [kindV, kindL, boxW, intsW, slB, rwp_nil, rwp_cons, rwpK_app, aop, gpath, St.get, slotAt, sfx, eqP, St.put, addBlk, getB, setB, stn, setRow, rowNeed, nsub, shed, Nat.beq, Seg.size, sizes, takeS, dropS, putS, nthA, exOk, Nat.reduceAdd, List.append_nil, List.nil_append, addBs]))); with_reducible refine hK _ ?_; clear hK K) | refine run_ret ?_ | refine run_nil ?_)
    exact end_tmp1 rfl rfl rfl ⟨rfl, rfl⟩
theorem con57_no (o : OpS) (h : noKind o.kind) (H : Heap) : Con Try.prog 57 [.agg (opL o)] H (fun v H' => v = .c (.bool false) ∧ H' = H) := by
  refine Con.pure ?_ (by simp only [leArgs, leV, leV1, opL, leSegs, leSeg, leC, and_self]) rfl H
  have h' := h
  unfold noKind at h'
  (refine con_of_run mixed (fn := Try.f57) (by kernel_rfl) (by kernel_rfl) C57_ok (rs := [.tmp 2]) (by kernel_rfl) (Nat.le_of_ble_eq_true (by kernel_rfl)) ?_; unfold C57; simp only [initT])
  repeat' (first | refine run_seq ?_ | (refine run_region fun K hK => ?_; (try (simp (maxSteps := 10000000) only [opL, C57r0, C57r1, C57r2, rwp_nil, rwp_cons, aop, gpath, St.get, slotAt, sfx, eqP, segsOf, St.put, addBlk, getB, ld1, rowNeed, segAt, nsub, shed, addN, Seg.size, sizes, appL, argsOf, ptrsOf, Nat.reduceAdd])); (repeat (first | (refine And.intro ?_ ?_; · (first | decide | trivial | assumption | (intros; first | decide | trivial))) | ((first | (refine call_t _ (kind_no _ h _) ?_; rintro v H' ⟨rfl, rfl⟩) | refine call_q _ (kind_no _ h _) ?_ | refine call_g _ (imp_of (kind_no _ h _)) ?_); simp (maxSteps := 10000000) only [kindV, kindL, rwp_nil, rwp_cons, rwpK_app, aop, gpath, St.get, slotAt, sfx, eqP, St.put, addBlk, getB, setB, stn, setRow, rowNeed, nsub, shed, Nat.beq, Seg.size, sizes, takeS, dropS, putS, nthA, exOk, Nat.reduceAdd, List.append_nil, List.nil_append]))); with_reducible refine hK _ ?_; clear hK K) | refine run_ret ?_ | refine run_nil ?_)
  exact end_tmp1 rfl rfl rfl ⟨rfl, rfl⟩
theorem con57 (o : OpS) (H : Heap) : Con Try.prog 57 [.agg (opL o)] H (fun v H' => v = .c (.bool (defS o.kind)) ∧ H' = H) := by
  by_cases h1 : o.kind = 1
  · have e : defS o.kind = true := by rw [h1]; decide
    rw [e]
    exact con57_k o _ _ h1 (by simp) H
  by_cases h2 : o.kind = 2
  · have e : defS o.kind = true := by rw [h2]; decide
    rw [e]
    exact con57_k o _ _ h2 (by simp) H
  by_cases h3 : o.kind = 3
  · have e : defS o.kind = false := by rw [h3]; decide
    rw [e]
    exact con57_k o _ _ h3 (by simp) H
  by_cases h4 : o.kind = 4
  · have e : defS o.kind = true := by rw [h4]; decide
    rw [e]
    exact con57_k o _ _ h4 (by simp) H
  by_cases h5 : o.kind = 5
  · have e : defS o.kind = false := by rw [h5]; decide
    rw [e]
    exact con57_k o _ _ h5 (by simp) H
  by_cases h6 : o.kind = 6
  · have e : defS o.kind = true := by rw [h6]; decide
    rw [e]
    exact con57_k o _ _ h6 (by simp) H
  by_cases h7 : o.kind = 7
  · have e : defS o.kind = false := by rw [h7]; decide
    rw [e]
    exact con57_k o _ _ h7 (by simp) H
  by_cases h8 : o.kind = 8
  · have e : defS o.kind = true := by rw [h8]; decide
    rw [e]
    exact con57_k o _ _ h8 (by simp) H
  by_cases h9 : o.kind = 9
  · have e : defS o.kind = true := by rw [h9]; decide
    rw [e]
    exact con57_k o _ _ h9 (by simp) H
  by_cases h10 : o.kind = 10
  · have e : defS o.kind = false := by rw [h10]; decide
    rw [e]
    exact con57_k o _ _ h10 (by simp) H
  by_cases h11 : o.kind = 11
  · have e : defS o.kind = true := by rw [h11]; decide
    rw [e]
    exact con57_k o _ _ h11 (by simp) H
  by_cases h12 : o.kind = 12
  · have e : defS o.kind = true := by rw [h12]; decide
    rw [e]
    exact con57_k o _ _ h12 (by simp) H
  by_cases h13 : o.kind = 13
  · have e : defS o.kind = false := by rw [h13]; decide
    rw [e]
    exact con57_k o _ _ h13 (by simp) H
  by_cases h14 : o.kind = 14
  · have e : defS o.kind = false := by rw [h14]; decide
    rw [e]
    exact con57_k o _ _ h14 (by simp) H
  by_cases h15 : o.kind = 15
  · have e : defS o.kind = false := by rw [h15]; decide
    rw [e]
    exact con57_k o _ _ h15 (by simp) H
  by_cases h16 : o.kind = 16
  · have e : defS o.kind = false := by rw [h16]; decide
    rw [e]
    exact con57_k o _ _ h16 (by simp) H
  by_cases h17 : o.kind = 17
  · have e : defS o.kind = false := by rw [h17]; decide
    rw [e]
    exact con57_k o _ _ h17 (by simp) H
  by_cases h18 : o.kind = 18
  · have e : defS o.kind = false := by rw [h18]; decide
    rw [e]
    exact con57_k o _ _ h18 (by simp) H
  have h : noKind o.kind := by simp only [noKind, beq_eq_false_iff_ne, ne_eq]; exact ⟨h1, h2, h3, h4, h5, h6, h7, h8, h9, h10, h11, h12, h13, h14, h15, h16, h17, h18⟩
  have e : defS o.kind = false := by
    unfold noKind at h
    simp [defS, h]
  rw [e]
  exact con57_no o h H
end Go.Proofs.Ytmbnakinhnkabaa

namespace Go.Proofs.Ytmbnakinhnkabaa
open Go.AM
set_option maxRecDepth 100000
set_option linter.unusedSimpArgs false
set_option linter.unusedVariables false
def useF (o : OpS) : Nat → Int
  | 0 => o.a
  | _ => o.b
def usesBk (o : OpS) (u : Nat) : Blk := ⟨1, some u, fun j => [.c (.int .i64 (useF o j))], 3, true⟩
theorem end_uses {l : List Slot} {H : Heap} {R : Post} {b : Nat} {row : Nat → List Seg} (o : OpS) (u : Nat) (hu : u ≤ 2) (hsl : slotAt l 2 = some ⟨2, [], .c (.slice ⟨b, 0, 0, 0⟩ false u)⟩) (hb : getB H.blks b = some ⟨1, some u, row, 3, true⟩) (h0 : row 0 = [.c (.int .i64 o.a)]) (h1 : row 1 = [.c (.int .i64 o.b)]) (hR : R (.c (.slice ⟨0, 0, 0, 0⟩ false u)) ⟨1, [(0, usesBk o u)]⟩) : endQ (LeS 0) [.tmp 2] R .ret ⟨l, H⟩ := by
  refine end_of ⟨[⟨2, [], .c (.slice ⟨0, 0, 0, 0⟩ false u)⟩], ⟨1, [(0, usesBk o u)]⟩⟩ (LeS.intro [b] (fun i h => absurd h (Nat.not_lt_zero i)) (by simp only [diff, notIn, and_self]) rfl (by simp only [slotsLe, hsl, leV, leV1, leC, leA, nthO, and_self]) ?_) hR
  simp only [leBlks, nthO, hb]
  refine ⟨⟨rfl, rfl, id, Nat.le_refl _, fun j hj => ?_⟩, trivial⟩
  show leSegs _ (row j) [.c (.int .i64 (useF o j))]
  match j, Nat.lt_of_lt_of_le (hj.resolve_right (Nat.succ_ne_zero _)) hu with
  | 0, _ => rw [h0]; exact ⟨⟨rfl, rfl⟩, trivial⟩
  | 1, _ => rw [h1]; exact ⟨⟨rfl, rfl⟩, trivial⟩
theorem frame_uses (o : OpS) (u : Nat) {m : FuncId} {args : List AV} (h : Con Try.prog m args ⟨0, []⟩ fun v H' => v = .c (.slice ⟨0, 0, 0, 0⟩ false u) ∧ H' = ⟨1, [(0, usesBk o u)]⟩) (ha : leArgs [] args args) (n : Nat) (X : List (Nat × Blk)) (hkl : keysLt X n) : Con Try.prog m args ⟨n, X⟩ fun v H' => v = .c (.slice ⟨n, 0, 0, 0⟩ false u) ∧ H' = addBs ⟨n, X⟩ [usesBk o u] := by
  refine (h.frame (H := ⟨n, X⟩) [] rfl trivial trivial hkl trivial ha).weaken ?_
  rintro v H' ⟨v0, H0', ⟨rfl, rfl⟩, rfl, rfl⟩
  refine ⟨rfl, ?_⟩
  simp only [framed, dropB_none (l := []) (H0 := []) (fun _ => rfl)]
  rfl
set_option maxHeartbeats 8000000 in
theorem con21_k (o : OpS) (k : Int) (u : Nat) (ho : o.kind = k) (hk : (k = 1 ∧ u = 0) ∨ (k = 2 ∧ u = 0) ∨ (k = 3 ∧ u = 1) ∨ (k = 4 ∧ u = 0) ∨ (k = 5 ∧ u = 1) ∨ (k = 6 ∧ u = 0) ∨ (k = 7 ∧ u = 1) ∨ (k = 8 ∧ u = 2) ∨ (k = 9 ∧ u = 1) ∨ (k = 10 ∧ u = 2) ∨ (k = 11 ∧ u = 1) ∨ (k = 12 ∧ u = 2) ∨ (k = 13 ∧ u = 0) ∨ (k = 14 ∧ u = 0) ∨ (k = 15 ∧ u = 1) ∨ (k = 16 ∧ u = 0) ∨ (k = 17 ∧ u = 1) ∨ (k = 18 ∧ u = 0)) (n : Nat) (X : List (Nat × Blk)) (hkl : keysLt X n) : Con Try.prog 21 [.agg (opL o)] ⟨n, X⟩ (fun v H' => v = .c (.slice ⟨n, 0, 0, 0⟩ false u) ∧ H' = addBs ⟨n, X⟩ [usesBk o u]) := by
  refine frame_uses o u ?_ (by simp only [leArgs, leV, leV1, opL, leSegs, leSeg, leC, and_self]) n X hkl
  rcases hk with ⟨rfl, rfl⟩ | ⟨rfl, rfl⟩ | ⟨rfl, rfl⟩ | ⟨rfl, rfl⟩ | ⟨rfl, rfl⟩ | ⟨rfl, rfl⟩ | ⟨rfl, rfl⟩ | ⟨rfl, rfl⟩ | ⟨rfl, rfl⟩ | ⟨rfl, rfl⟩ | ⟨rfl, rfl⟩ | ⟨rfl, rfl⟩ | ⟨rfl, rfl⟩ | ⟨rfl, rfl⟩ | ⟨rfl, rfl⟩ | ⟨rfl, rfl⟩ | ⟨rfl, rfl⟩ | ⟨rfl, rfl⟩
  all_goals
    (refine con_of_run mixed (fn := Try.f21) (by kernel_rfl) (by kernel_rfl) C21_ok (rs := [.tmp 2]) (by kernel_rfl) (Nat.le_of_ble_eq_true (by kernel_rfl)) ?_; unfold C21; simp only [initT])
    repeat' (first | refine run_seq ?_ | (refine run_region fun K hK => ?_; (try (simp (maxSteps := 10000000) only [opL, ho, repl, rowsFit, rowFn, cutD, C21r0, C21r1, C21r2, rwp_nil, rwp_cons, aop, gpath, St.get, slotAt, sfx, eqP, segsOf, St.put, addBlk, getB, ld1, rowNeed, segAt, nsub, shed, addN, Nat.beq, Seg.size, sizes, imp, andN, appL, argsOf, ptrsOf, cut, takeS, dropS, putS, partsOf, fillS, slcS, strOk, plusA, bndHi, leN, optG, exOk, Nat.reduceAdd, Nat.reduceSub, Nat.reduceMul, Int.reduceToNat, List.append_nil, List.nil_append, List.cons_append, app])); (repeat (first | (refine And.intro ?_ ?_; · (first | decide | trivial | assumption | (intros; first | decide | trivial))) | ((first | (refine call_t _ (kind_1 _) ?_; rintro v H' ⟨rfl, rfl⟩) | refine call_q _ (kind_1 _) ?_ | refine call_g _ (imp_of (kind_1 _)) ?_ | (refine call_t _ (kind_2 _ _ (by simp [keysLt])) ?_; rintro v H' ⟨rfl, rfl⟩) | refine call_q _ (kind_2 _ _ (by simp [roL, keysLt, boxW])) ?_ | refine call_g _ (imp_of (kind_2 _ _ (by simp [roL, keysLt, boxW]))) ?_ | (refine call_t _ (kind_3 _ _ (by simp [keysLt])) ?_; rintro v H' ⟨rfl, rfl⟩) | refine call_q _ (kind_3 _ _ (by simp [roL, keysLt, boxW])) ?_ | refine call_g _ (imp_of (kind_3 _ _ (by simp [roL, keysLt, boxW]))) ?_ | (refine call_t _ (kind_4 _) ?_; rintro v H' ⟨rfl, rfl⟩) | refine call_q _ (kind_4 _) ?_ | refine call_g _ (imp_of (kind_4 _)) ?_ | (refine call_t _ (kind_5 _) ?_; rintro v H' ⟨rfl, rfl⟩) | refine call_q _ (kind_5 _) ?_ | refine call_g _ (imp_of (kind_5 _)) ?_ | (refine call_t _ (kind_6 _ _ (by simp [keysLt])) ?_; rintro v H' ⟨rfl, rfl⟩) | refine call_q _ (kind_6 _ _ (by simp [roL, keysLt, boxW])) ?_ | refine call_g _ (imp_of (kind_6 _ _ (by simp [roL, keysLt, boxW]))) ?_ | (refine call_t _ (kind_7 _ _ (by simp [keysLt])) ?_; rintro v H' ⟨rfl, rfl⟩) | refine call_q _ (kind_7 _ _ (by simp [roL, keysLt, boxW])) ?_ | refine call_g _ (imp_of (kind_7 _ _ (by simp [roL, keysLt, boxW]))) ?_ | (refine call_t _ (kind_8 _) ?_; rintro v H' ⟨rfl, rfl⟩) | refine call_q _ (kind_8 _) ?_ | refine call_g _ (imp_of (kind_8 _)) ?_ | (refine call_t _ (kind_9 _ _ (by simp [keysLt])) ?_; rintro v H' ⟨rfl, rfl⟩) | refine call_q _ (kind_9 _ _ (by simp [roL, keysLt, boxW])) ?_ | refine call_g _ (imp_of (kind_9 _ _ (by simp [roL, keysLt, boxW]))) ?_ | (refine call_t _ (kind_10 _ _ (by simp [keysLt])) ?_; rintro v H' ⟨rfl, rfl⟩) | refine call_q _ (kind_10 _ _ (by simp [roL, keysLt, boxW])) ?_ | refine call_g _ (imp_of (kind_10 _ _ (by simp [roL, keysLt, boxW]))) ?_ | (refine call_t _ (kind_11 _ _ (by simp [keysLt])) ?_; rintro v H' ⟨rfl, rfl⟩) | refine call_q _ (kind_11 _ _ (by simp [roL, keysLt, boxW])) ?_ | refine call_g _ (imp_of (kind_11 _ _ (by simp [roL, keysLt, boxW]))) ?_ | (refine call_t _ (kind_12 _ _ (by simp [keysLt])) ?_; rintro v H' ⟨rfl, rfl⟩) | refine call_q _ (kind_12 _ _ (by simp [roL, keysLt, boxW])) ?_ | refine call_g _ (imp_of (kind_12 _ _ (by simp [roL, keysLt, boxW]))) ?_ | (refine call_t _ (kind_13 _) ?_; rintro v H' ⟨rfl, rfl⟩) | refine call_q _ (kind_13 _) ?_ | refine call_g _ (imp_of (kind_13 _)) ?_ | (refine call_t _ (kind_14 _) ?_; rintro v H' ⟨rfl, rfl⟩) | refine call_q _ (kind_14 _) ?_ | refine call_g _ (imp_of (kind_14 _)) ?_ | (refine call_t _ (kind_15 _) ?_; rintro v H' ⟨rfl, rfl⟩) | refine call_q _ (kind_15 _) ?_ | refine call_g _ (imp_of (kind_15 _)) ?_ | (refine call_t _ (kind_16 _) ?_; rintro v H' ⟨rfl, rfl⟩) | refine call_q _ (kind_16 _) ?_ | refine call_g _ (imp_of (kind_16 _)) ?_ | (refine call_t _ (kind_17 _) ?_; rintro v H' ⟨rfl, rfl⟩) | refine call_q _ (kind_17 _) ?_ | refine call_g _ (imp_of (kind_17 _)) ?_ | (refine call_t _ (kind_18 _) ?_; rintro v H' ⟨rfl, rfl⟩) | refine call_q _ (kind_18 _) ?_ | refine call_g _ (imp_of (kind_18 _)) ?_); simp (maxSteps := 10000000) only [kindV, kindL, boxW, intsW, slB, rwp_nil, rwp_cons, rwpK_app, aop, gpath, St.get, slotAt, sfx, eqP, St.put, addBlk, getB, setB, stn, setRow, rowNeed, nsub, shed, Nat.beq, Seg.size, sizes, takeS, dropS, putS, nthA, exOk, Nat.reduceAdd, List.append_nil, List.nil_append, addBs]))); with_reducible refine hK _ ?_; clear hK K) | refine run_ret ?_ | refine run_nil ?_)
    exact end_uses o _ (by decide) rfl rfl rfl rfl ⟨rfl, rfl⟩
theorem con21_no (o : OpS) (h : noKind o.kind) (n : Nat) (X : List (Nat × Blk)) (hkl : keysLt X n) : Con Try.prog 21 [.agg (opL o)] ⟨n, X⟩ (fun v H' => v = .c (.slice ⟨n, 0, 0, 0⟩ false 0) ∧ H' = addBs ⟨n, X⟩ [usesBk o 0]) := by
  refine frame_uses o 0 ?_ (by simp only [leArgs, leV, leV1, opL, leSegs, leSeg, leC, and_self]) n X hkl
  have h' := h
  unfold noKind at h'
  (refine con_of_run mixed (fn := Try.f21) (by kernel_rfl) (by kernel_rfl) C21_ok (rs := [.tmp 2]) (by kernel_rfl) (Nat.le_of_ble_eq_true (by kernel_rfl)) ?_; unfold C21; simp only [initT])
  repeat' (first | refine run_seq ?_ | (refine run_region fun K hK => ?_; (try (simp (maxSteps := 10000000) only [opL, repl, rowsFit, rowFn, cutD, C21r0, C21r1, C21r2, rwp_nil, rwp_cons, aop, gpath, St.get, slotAt, sfx, eqP, segsOf, St.put, addBlk, getB, ld1, rowNeed, segAt, nsub, shed, addN, Nat.beq, Seg.size, sizes, imp, andN, appL, argsOf, ptrsOf, cut, takeS, dropS, putS, partsOf, fillS, slcS, strOk, plusA, bndHi, leN, optG, exOk, Nat.reduceAdd, Nat.reduceSub, Nat.reduceMul, Int.reduceToNat, List.append_nil, List.nil_append, List.cons_append, app])); (repeat (first | (refine And.intro ?_ ?_; · (first | decide | trivial | assumption | (intros; first | decide | trivial))) | ((first | (refine call_t _ (kind_no _ h _) ?_; rintro v H' ⟨rfl, rfl⟩) | refine call_q _ (kind_no _ h _) ?_ | refine call_g _ (imp_of (kind_no _ h _)) ?_); simp (maxSteps := 10000000) only [kindV, kindL, rwp_nil, rwp_cons, rwpK_app, aop, gpath, St.get, slotAt, sfx, eqP, St.put, addBlk, getB, setB, stn, setRow, rowNeed, nsub, shed, Nat.beq, Seg.size, sizes, takeS, dropS, putS, nthA, exOk, Nat.reduceAdd, List.append_nil, List.nil_append]))); with_reducible refine hK _ ?_; clear hK K) | refine run_ret ?_ | refine run_nil ?_)
  exact end_uses o _ (by decide) rfl rfl rfl rfl ⟨rfl, rfl⟩
theorem con21 (o : OpS) (n : Nat) (X : List (Nat × Blk)) (hkl : keysLt X n) : Con Try.prog 21 [.agg (opL o)] ⟨n, X⟩ (fun v H' => v = .c (.slice ⟨n, 0, 0, 0⟩ false (usesS o.kind)) ∧ H' = addBs ⟨n, X⟩ [usesBk o (usesS o.kind)]) := by
  by_cases h1 : o.kind = 1
  · have e : usesS o.kind = 0 := by rw [h1]; decide
    rw [e]
    exact con21_k o _ _ h1 (by simp) n X hkl
  by_cases h2 : o.kind = 2
  · have e : usesS o.kind = 0 := by rw [h2]; decide
    rw [e]
    exact con21_k o _ _ h2 (by simp) n X hkl
  by_cases h3 : o.kind = 3
  · have e : usesS o.kind = 1 := by rw [h3]; decide
    rw [e]
    exact con21_k o _ _ h3 (by simp) n X hkl
  by_cases h4 : o.kind = 4
  · have e : usesS o.kind = 0 := by rw [h4]; decide
    rw [e]
    exact con21_k o _ _ h4 (by simp) n X hkl
  by_cases h5 : o.kind = 5
  · have e : usesS o.kind = 1 := by rw [h5]; decide
    rw [e]
    exact con21_k o _ _ h5 (by simp) n X hkl
  by_cases h6 : o.kind = 6
  · have e : usesS o.kind = 0 := by rw [h6]; decide
    rw [e]
    exact con21_k o _ _ h6 (by simp) n X hkl
  by_cases h7 : o.kind = 7
  · have e : usesS o.kind = 1 := by rw [h7]; decide
    rw [e]
    exact con21_k o _ _ h7 (by simp) n X hkl
  by_cases h8 : o.kind = 8
  · have e : usesS o.kind = 2 := by rw [h8]; decide
    rw [e]
    exact con21_k o _ _ h8 (by simp) n X hkl
  by_cases h9 : o.kind = 9
  · have e : usesS o.kind = 1 := by rw [h9]; decide
    rw [e]
    exact con21_k o _ _ h9 (by simp) n X hkl
  by_cases h10 : o.kind = 10
  · have e : usesS o.kind = 2 := by rw [h10]; decide
    rw [e]
    exact con21_k o _ _ h10 (by simp) n X hkl
  by_cases h11 : o.kind = 11
  · have e : usesS o.kind = 1 := by rw [h11]; decide
    rw [e]
    exact con21_k o _ _ h11 (by simp) n X hkl
  by_cases h12 : o.kind = 12
  · have e : usesS o.kind = 2 := by rw [h12]; decide
    rw [e]
    exact con21_k o _ _ h12 (by simp) n X hkl
  by_cases h13 : o.kind = 13
  · have e : usesS o.kind = 0 := by rw [h13]; decide
    rw [e]
    exact con21_k o _ _ h13 (by simp) n X hkl
  by_cases h14 : o.kind = 14
  · have e : usesS o.kind = 0 := by rw [h14]; decide
    rw [e]
    exact con21_k o _ _ h14 (by simp) n X hkl
  by_cases h15 : o.kind = 15
  · have e : usesS o.kind = 1 := by rw [h15]; decide
    rw [e]
    exact con21_k o _ _ h15 (by simp) n X hkl
  by_cases h16 : o.kind = 16
  · have e : usesS o.kind = 0 := by rw [h16]; decide
    rw [e]
    exact con21_k o _ _ h16 (by simp) n X hkl
  by_cases h17 : o.kind = 17
  · have e : usesS o.kind = 1 := by rw [h17]; decide
    rw [e]
    exact con21_k o _ _ h17 (by simp) n X hkl
  by_cases h18 : o.kind = 18
  · have e : usesS o.kind = 0 := by rw [h18]; decide
    rw [e]
    exact con21_k o _ _ h18 (by simp) n X hkl
  have h : noKind o.kind := by simp only [noKind, beq_eq_false_iff_ne, ne_eq]; exact ⟨h1, h2, h3, h4, h5, h6, h7, h8, h9, h10, h11, h12, h13, h14, h15, h16, h17, h18⟩
  have e : usesS o.kind = 0 := by
    unfold usesS
    rw [if_neg (by omega), if_neg (by omega)]
  rw [e]
  exact con21_no o h n X hkl
end Go.Proofs.Ytmbnakinhnkabaa

namespace Go.Proofs.Ytmbnakinhnkabaa
open Go.AM
set_option maxRecDepth 100000
set_option linter.unusedSimpArgs false
set_option linter.unusedVariables false
def opsB (n : Nat) (f : Nat → OpS) : Blk := ⟨6, some n, fun i => opL (f i), 39, false⟩
theorem ops_le {l : List Nat} (n : Nat) (f : Nat → OpS) (w : Bool) : leB l ⟨6, some n, fun i => opL (f i), 39, w⟩ (opsB n f) := ⟨rfl, rfl, fun h => (by cases h), Nat.le_refl _, fun _ _ => by simp only [opsB, opL, leSegs, leSeg, leC, and_self]⟩
theorem con99_at (m : Nat) (f : Nat → Int) (o : OpS) (hm : m < 1000) (a b n : Nat) (X : List (Nat × Blk)) (w1 w2 : Bool) (hab : Nat.beq a b = false) (ha : getB X a = some ⟨1, some m, fun i => [.c (.int .i64 (f i))], 3, w1⟩) (hb : getB X b = some ⟨1, none, fun _ => [.c (.slice ⟨a, 0, 0, 0⟩ false m)], 59, w2⟩) (hla : a < n) (hlb : b < n) (hkl : keysLt X n) : Con Try.prog 99 [.agg (opL o), .c (.ptr ⟨b, 0, 0, 0⟩)] ⟨n, X⟩ (fun v H' => v = .c (.bool (inB f o.order m 0)) ∧ H' = ⟨n, X⟩) :=
  ro_gen (con99 m f o hm) [a, b] n X rfl (by simp only [diff, notIn, hab, and_self]) ⟨hla, hlb, trivial⟩ hkl (by
    simp only [leBlks, nthO, ha, hb]
    exact ⟨⟨rfl, rfl, fun h => (by cases h), Nat.le_refl _, fun _ _ => ⟨⟨⟨rfl, rfl, rfl, rfl⟩, rfl, rfl⟩, trivial⟩⟩, ints_le m f w1, trivial⟩) (by simp only [leArgs, leV, leV1, opL, leSegs, leSeg, leC, leA, nthO, and_self]) rfl (fun _ => rfl) rfl rfl
theorem kindo_1 (o : OpS) (ho : o.kind = 1) (H : Heap) : Con Try.prog 46 [.c (.int .i64 o.kind)] H (fun v H' => v = kindV (kindL ⟨#[99, 111, 110, 115, 116]⟩ false true false 0 true false false (.fn 66 [] [])) true ∧ H' = H) := by rw [ho]; exact kind_1 H
theorem kindo_2 (o : OpS) (ho : o.kind = 2) (n : Nat) (X : List (Nat × Blk)) (hkl : keysLt X n) : Con Try.prog 46 [.c (.int .i64 o.kind)] ⟨n, X⟩ (fun v H' => v = kindV (kindL ⟨#[103, 101, 116, 120]⟩ true false false 0 true false false (.fn 98 [] [⟨n, 0, 0, 0⟩])) true ∧ H' = addBs ⟨n, X⟩ [boxW 30]) := by rw [ho]; exact kind_2 n X hkl
theorem kindo_3 (o : OpS) (ho : o.kind = 3) (n : Nat) (X : List (Nat × Blk)) (hkl : keysLt X n) : Con Try.prog 46 [.c (.int .i64 o.kind)] ⟨n, X⟩ (fun v H' => v = kindV (kindL ⟨#[115, 101, 116, 120]⟩ true false false 1 false false false (.fn 98 [] [⟨n, 0, 0, 0⟩])) true ∧ H' = addBs ⟨n, X⟩ [boxW 30]) := by rw [ho]; exact kind_3 n X hkl
theorem kindo_4 (o : OpS) (ho : o.kind = 4) (H : Heap) : Con Try.prog 46 [.c (.int .i64 o.kind)] H (fun v H' => v = kindV (kindL ⟨#[103, 101, 116, 115, 112]⟩ false false false 0 true false false (.fn 66 [] [])) true ∧ H' = H) := by rw [ho]; exact kind_4 H
theorem kindo_5 (o : OpS) (ho : o.kind = 5) (H : Heap) : Con Try.prog 46 [.c (.int .i64 o.kind)] H (fun v H' => v = kindV (kindL ⟨#[115, 101, 116, 115, 112]⟩ false false false 1 false false false (.fn 66 [] [])) true ∧ H' = H) := by rw [ho]; exact kind_5 H
theorem kindo_6 (o : OpS) (ho : o.kind = 6) (n : Nat) (X : List (Nat × Blk)) (hkl : keysLt X n) : Con Try.prog 46 [.c (.int .i64 o.kind)] ⟨n, X⟩ (fun v H' => v = kindV (kindL ⟨#[103, 101, 116, 102]⟩ true false false 0 true false false (.fn 98 [] [⟨n, 0, 0, 0⟩])) true ∧ H' = addBs ⟨n, X⟩ [boxW 3]) := by rw [ho]; exact kind_6 n X hkl
theorem kindo_7 (o : OpS) (ho : o.kind = 7) (n : Nat) (X : List (Nat × Blk)) (hkl : keysLt X n) : Con Try.prog 46 [.c (.int .i64 o.kind)] ⟨n, X⟩ (fun v H' => v = kindV (kindL ⟨#[115, 101, 116, 102]⟩ true false false 1 false false false (.fn 98 [] [⟨n, 0, 0, 0⟩])) true ∧ H' = addBs ⟨n, X⟩ [boxW 3]) := by rw [ho]; exact kind_7 n X hkl
theorem kindo_8 (o : OpS) (ho : o.kind = 8) (H : Heap) : Con Try.prog 46 [.c (.int .i64 o.kind)] H (fun v H' => v = kindV (kindL ⟨#[97, 108, 117]⟩ true false false 2 true false false (.fn 68 [] [])) true ∧ H' = H) := by rw [ho]; exact kind_8 H
theorem kindo_9 (o : OpS) (ho : o.kind = 9) (n : Nat) (X : List (Nat × Blk)) (hkl : keysLt X n) : Con Try.prog 46 [.c (.int .i64 o.kind)] ⟨n, X⟩ (fun v H' => v = kindV (kindL ⟨#[108, 111, 97, 100]⟩ false false true 1 true false true (.fn 99 [] [⟨n + 1, 0, 0, 0⟩])) true ∧ H' = addBs ⟨n, X⟩ [intsW 3 (ordF 1 2), slB n 3 true]) := by rw [ho]; exact kind_9 n X hkl
theorem kindo_10 (o : OpS) (ho : o.kind = 10) (n : Nat) (X : List (Nat × Blk)) (hkl : keysLt X n) : Con Try.prog 46 [.c (.int .i64 o.kind)] ⟨n, X⟩ (fun v H' => v = kindV (kindL ⟨#[115, 116, 111, 114, 101]⟩ false false true 2 false false true (.fn 99 [] [⟨n + 1, 0, 0, 0⟩])) true ∧ H' = addBs ⟨n, X⟩ [intsW 2 (ordF 4 0), slB n 2 true]) := by rw [ho]; exact kind_10 n X hkl
theorem kindo_11 (o : OpS) (ho : o.kind = 11) (n : Nat) (X : List (Nat × Blk)) (hkl : keysLt X n) : Con Try.prog 46 [.c (.int .i64 o.kind)] ⟨n, X⟩ (fun v H' => v = kindV (kindL ⟨#[108, 111, 97, 100, 101, 120]⟩ false false true 1 true false true (.fn 99 [] [⟨n + 1, 0, 0, 0⟩])) true ∧ H' = addBs ⟨n, X⟩ [intsW 2 (ordF 2 0), slB n 2 true]) := by rw [ho]; exact kind_11 n X hkl
theorem kindo_12 (o : OpS) (ho : o.kind = 12) (n : Nat) (X : List (Nat × Blk)) (hkl : keysLt X n) : Con Try.prog 46 [.c (.int .i64 o.kind)] ⟨n, X⟩ (fun v H' => v = kindV (kindL ⟨#[115, 116, 111, 114, 101, 101, 120]⟩ false false true 2 true false true (.fn 99 [] [⟨n + 1, 0, 0, 0⟩])) true ∧ H' = addBs ⟨n, X⟩ [intsW 2 (ordF 4 0), slB n 2 true]) := by rw [ho]; exact kind_12 n X hkl
theorem kindo_13 (o : OpS) (ho : o.kind = 13) (H : Heap) : Con Try.prog 46 [.c (.int .i64 o.kind)] H (fun v H' => v = kindV (kindL ⟨#[102, 101, 110, 99, 101]⟩ true false false 0 false false false (.fn 70 [] [])) true ∧ H' = H) := by rw [ho]; exact kind_13 H
theorem kindo_14 (o : OpS) (ho : o.kind = 14) (H : Heap) : Con Try.prog 46 [.c (.int .i64 o.kind)] H (fun v H' => v = kindV (kindL ⟨#[97, 116]⟩ false true false 0 false false false (.fn 71 [] [])) true ∧ H' = H) := by rw [ho]; exact kind_14 H
theorem kindo_15 (o : OpS) (ho : o.kind = 15) (H : Heap) : Con Try.prog 46 [.c (.int .i64 o.kind)] H (fun v H' => v = kindV (kindL ⟨#[101, 120, 105, 116, 105, 102]⟩ false true false 1 false false false (.fn 66 [] [])) true ∧ H' = H) := by rw [ho]; exact kind_15 H
theorem kindo_16 (o : OpS) (ho : o.kind = 16) (H : Heap) : Con Try.prog 46 [.c (.int .i64 o.kind)] H (fun v H' => v = kindV (kindL ⟨#[101, 120, 105, 116]⟩ false true false 0 false true false (.fn 66 [] [])) true ∧ H' = H) := by rw [ho]; exact kind_16 H
theorem kindo_17 (o : OpS) (ho : o.kind = 17) (H : Heap) : Con Try.prog 46 [.c (.int .i64 o.kind)] H (fun v H' => v = kindV (kindL ⟨#[101, 120, 105, 116, 116, 111]⟩ false false false 1 false true false (.fn 66 [] [])) true ∧ H' = H) := by rw [ho]; exact kind_17 H
theorem kindo_18 (o : OpS) (ho : o.kind = 18) (H : Heap) : Con Try.prog 46 [.c (.int .i64 o.kind)] H (fun v H' => v = kindV (kindL ⟨#[103, 117, 101, 115, 116]⟩ false true false 0 false true false (.fn 72 [] [])) true ∧ H' = H) := by rw [ho]; exact kind_18 H
def hasR (k : Int) : Bool := (k == 2) || (k == 3) || (k == 6) || (k == 7) || (k == 8) || (k == 13)
def hasImm (k : Int) : Bool := (k == 1) || (k == 14) || (k == 15) || (k == 16) || (k == 18)
def hasOrd (k : Int) : Bool := (k == 9) || (k == 10) || (k == 11) || (k == 12)
def rightF (o : OpS) : Bool := if o.kind = 1 then (true) else if o.kind = 2 then (upS 30 o) else if o.kind = 3 then (upS 30 o) else if o.kind = 4 then (true) else if o.kind = 5 then (true) else if o.kind = 6 then (upS 3 o) else if o.kind = 7 then (upS 3 o) else if o.kind = 8 then (decide (o.r ≥ 1) && decide (o.r ≤ 15)) else if o.kind = 9 then (inB (ordF 1 2) o.order 3 0) else if o.kind = 10 then (inB (ordF 4 0) o.order 2 0) else if o.kind = 11 then (inB (ordF 2 0) o.order 2 0) else if o.kind = 12 then (inB (ordF 4 0) o.order 2 0) else if o.kind = 13 then (((o.r == 13) || (o.r == 10)) || (o.r == 15)) else if o.kind = 14 then (IntKind.u64.wrap (BitVec.ofInt IntKind.u64.bits o.imm &&& BitVec.ofInt IntKind.u64.bits 3).toNat == 0) else if o.kind = 15 then (true) else if o.kind = 16 then (true) else if o.kind = 17 then (true) else if o.kind = 18 then (o.imm.fdiv (2 ^ min 32 IntKind.u64.bits) == 0) else false
def fieldBad (o : OpS) : Bool := (((((!rightF o) || (!hasR o.kind && (o.r != 0))) || (!hasImm o.kind && (o.imm != 0))) || (!hasOrd o.kind && (o.order != 0))) || (decide (usesS o.kind < 1) && (o.a != 0))) || (decide (usesS o.kind < 2) && (o.b != 0))
end Go.Proofs.Ytmbnakinhnkabaa

namespace Go.Proofs.Ytmbnakinhnkabaa
open Go.AM
set_option maxRecDepth 100000
set_option linter.unusedSimpArgs false
set_option linter.unusedVariables false
theorem idt1' {j : Nat} : ∀ i, i < 1 → nthO [0, j] i = some i := by
  intro i h; match i, h with
  | 0, _ => rfl
def opB' (o : OpS) : Blk := ⟨6, none, fun _ => opL o, 39, true⟩
theorem end_ops {l : List Slot} {H : Heap} {R : Post} {t N : Nat} {f : Nat → OpS} (b : Bool) (hsl : slotAt l t = some ⟨t, [], .c (.bool b)⟩) (hb : getB H.blks 0 = some (opsB N f)) (hR : R (.c (.bool b)) ⟨1, [(0, opsB N f)]⟩) : endQ (LeS 1) [.tmp t] R .ret ⟨l, H⟩ := by
  refine end_of ⟨[⟨t, [], .c (.bool b)⟩], ⟨1, [(0, opsB N f)]⟩⟩ (LeS.intro [0] idt1 (by simp only [diff, notIn, and_self]) rfl (by simp only [slotsLe, hsl, leV, leV1, leC, and_self]) ?_) ?_
  · simp only [leBlks, nthO, hb]
    exact ⟨ops_le N f false, trivial⟩
  · simp only [endF, resL, resA, St.get, slotAt, Nat.beq_refl, sfx, eqP, noTup, resV]
    exact hR
def useOk (f : Nat → OpS) (m : Nat) (v : Int) : Bool := decide (0 ≤ v) && decide (v < (m : Int)) && defS (f v.toNat).kind
def usesOk (o : OpS) (m : Nat) (f : Nat → OpS) : Nat → Bool
  | 0 => true
  | j + 1 => usesOk o m f j && useOk f m (useF o j)
theorem useOk_eq (f : Nat → OpS) (m : Nat) (v : Int) : useOk f m v = !(decide (v < 0) || decide (v ≥ (m : Int)) || !defS (f v.toNat).kind) := by
  unfold useOk
  have e1 : decide (v < 0) = !decide (0 ≤ v) := by by_cases h : 0 ≤ v <;> simp [h]; omega
  have e2 : decide (v ≥ (m : Int)) = !decide (v < (m : Int)) := by by_cases h : v < (m : Int) <;> simp [h]; omega
  rw [e1, e2]
  cases decide (0 ≤ v) <;> cases decide (v < (m : Int)) <;> cases defS (f v.toNat).kind <;> rfl
theorem usesOk_no {o : OpS} {m : Nat} {f : Nat → OpS} : ∀ {u j : Nat}, j < u → useOk f m (useF o j) = false → usesOk o m f u = false
  | u + 1, j, h, hb => by
    simp only [usesOk]
    by_cases hj : j = u
    · rw [← hj, hb, Bool.and_false]
    · rw [usesOk_no (u := u) (by omega) hb, Bool.false_and]
def ropTail : List ACode := [.seq (.seq (.region C54r4)
  (.block 0
   (.loop
    (.seq (.region C54r5)
    (.seq (.cond (.t 78)
     (.skip)
     (.exit 0))
    (.seq (.block 1
     (.seq (.region C54r6)
     (.seq (.region C54r7)
     (.cond (.t 96)
      (.seq (.region C54r8)
      (.ret))
      (.skip)))))
    (.region C54r9)))))))
  (.seq (.region C54r10)
  (.ret))]
def ropSt (o : OpS) (N m : Nat) (f : Nat → OpS) (u j : Nat) : St := ⟨[⟨77, [], .c (.int .i64 j)⟩, ⟨76, [], .c (.int .i64 u)⟩, ⟨75, [], .c (.slice ⟨1, 0, 0, 0⟩ false u)⟩, ⟨1, [], .c (.slice ⟨0, 0, 0, 0⟩ false m)⟩], ⟨2, [(1, usesBk o u), (0, opsB N f)]⟩⟩
theorem rop_tail (c : Bool) (o : OpS) (N m : Nat) (f : Nat → OpS) (hm : m ≤ N) (hN : N ≤ 140737488355328) {R : Post} (hR : R (.c (.bool (usesOk o m f (usesS o.kind)))) ⟨1, [(0, opsB N f)]⟩) :
    runA (Con Try.prog) (LeS 1) ropTail ⟨[⟨73, [], .c (.bool c)⟩, ⟨2, [], .c (.ptr ⟨1, 0, 0, 0⟩)⟩, ⟨1, [], .c (.slice ⟨0, 0, 0, 0⟩ false m)⟩], ⟨2, [(1, opB' o), (0, opsB N f)]⟩⟩ (endQ (LeS 1) [.tmp 4] R) := by
  unfold ropTail
  have hu : usesS o.kind ≤ 2 := by unfold usesS; (repeat' split) <;> omega
  obtain ⟨u, hu'⟩ : ∃ u, usesS o.kind = u := ⟨_, rfl⟩
  rw [hu'] at hu hR
  refine run_seq (run_seq ?_)
  (refine run_regionL fun K hK => ?_; (try (simp (maxSteps := 10000000) only [opL, opB', opsB, C54r4, rwp_cons, aop, gpath, St.get, slotAt, sfx, eqP, St.put, addBlk, getB, ldn, rowNeed, nsub, Seg.size, appL, argsOf, ptrsOf, cut, takeS, dropS, Nat.reduceAdd])); (repeat (first | (refine And.intro ?_ ?_; · (refine ⟨by omega, by omega⟩)) | ((first | (refine call_t _ (con21 o _ _ (by simp [keysLt])) ?_; rintro v H' ⟨rfl, rfl⟩) | (refine call_q _ (con21 o _ _ (by simp [roL, keysLt, opB', opsB, usesBk])) ?_) | (refine call_g _ (imp_of (con21 o _ _ (by simp [roL, keysLt, opB', opsB, usesBk]))) ?_)); (try simp (maxSteps := 10000000) only [hu', rwp_nil, rwp_cons, rwpK_app, aop, gpath, St.get, slotAt, sfx, eqP, St.put, addBlk, shed, Nat.reduceAdd, addBs])))); refine hK _ (ropSt o N m f u 0) (LeS.intro [0, 2] idt1' (by simp only [diff, notIn, Nat.beq, and_self]) rfl (by simp only [ropSt, slotsLe, slotAt, leV, leV1, leC, leA, nthO, Int.natCast_zero, and_self]) ⟨⟨rfl, rfl, id, Nat.le_refl _, fun _ _ => ⟨⟨rfl, rfl⟩, trivial⟩⟩, ops_le N f false, trivial⟩) ?_; clear hK K)
  refine run_block ?_
  refine run_loop (fun n s => ∃ j, n = u - j ∧ j ≤ u ∧ usesOk o m f j = true ∧ s = ropSt o N m f u j) u ⟨0, rfl, Nat.zero_le _, rfl, rfl⟩ ?_
  rintro n s ⟨j, rfl, hj, hok, rfl⟩
  unfold ropSt
  repeat' (first | refine run_seq ?_ | refine run_skip ?_ | (refine run_region fun K hK => ?_; (try (simp (maxSteps := 10000000) only [opL, usesBk, opsB, C54r5, C54r6, C54r7, C54r8, C54r9, C54r10, rwp_nil, rwp_cons, aop, gpath, St.get, slotAt, sfx, eqP, St.put, addBlk, getB, ld1, ldn, rowNeed, segAt, nsub, bin, isShift, sameK, arith, getsl, selB_or, beqb, shed, addN, Nat.beq, Seg.size, imp, appL, argsOf, ptrsOf, cut, takeS, dropS, strOk, plusA, Nat.reduceAdd, Int.toNat_natCast])); (repeat (first | (refine And.intro ?_ ?_; · (first | trivial | assumption | (intros; simp only [Bool.or_eq_false_iff, decide_eq_false_iff_not, decide_eq_true_eq] at *; omega))) | ((first | (refine call_t _ (con57 (f _) _) ?_; rintro v H' ⟨rfl, rfl⟩) | refine call_q _ (con57 (f _) _) ?_ | refine call_g _ (imp_of (con57 (f _) _)) ?_); simp (maxSteps := 10000000) only [rwp_nil, rwp_cons, rwpK_app, aop, gpath, St.get, slotAt, sfx, eqP, St.put, addBlk, un, getsl, selB_or, beqb, shed]))); with_reducible refine hK _ ?_; clear hK K) | (refine run_cond rfl (fun hc => ?_) (fun hc => ?_) <;> try (simp only [*, Bool.true_eq_false, Bool.false_eq_true, Bool.not_true, Bool.not_false, Bool.true_or, Bool.or_true, Bool.false_or, Bool.or_false, Bool.false_and, Bool.and_false, bne_self_eq_false, beq_self_eq_true] at hc; done)) | refine run_block ?_ | refine run_ret ?_ | refine run_nil ?_ | refine run_exit ?_ | refine blk_normal ?_ | refine blk_ret ?_ | refine blk_here ?_ | refine blk_there rfl ?_ | refine loop_exit ?_ | refine loop_ret ?_ | refine un_exit ?_ | refine un_ret ?_ | refine unE_exit ?_ | refine unE_ret ?_ | refine un_normal ?_)
  · rename_i hc0
    have h1 : usesOk o m f u = false := usesOk_no (j := j) (by simp only [decide_eq_true_eq] at hc0; omega) (by rw [useOk_eq, hc]; rfl)
    exact end_ops false rfl rfl (by rw [← h1]; exact hR)
  · rename_i hc0
    have h1 : j < u := by simp only [decide_eq_true_eq] at hc0; omega
    have hw : IntKind.i64.wrap ((j : Int) + 1) = ((j + 1 : Nat) : Int) := by rw [IntKind.wrap_i64]; omega
    refine loop_normal (u - (j + 1)) (ropSt o N m f u (j + 1)) (by omega) (LeS.intro [0, 1] idt1' (by simp only [diff, notIn, Nat.beq, and_self]) rfl (by simp only [ropSt, slotsLe, slotAt, leV, leV1, leC, leA, nthO, hw, and_self]) ⟨⟨rfl, rfl, id, Nat.le_refl _, fun _ _ => ⟨⟨rfl, rfl⟩, trivial⟩⟩, ops_le N f false, trivial⟩) ⟨j + 1, rfl, h1, ?_, rfl⟩
    simp only [usesOk, hok, useOk_eq, hc, Bool.not_false, Bool.and_self]
  · have h1 : j = u := by simp only [decide_eq_false_iff_not] at hc; omega
    exact end_ops true rfl rfl (by rw [← hok, h1]; exact hR)
end Go.Proofs.Ytmbnakinhnkabaa

namespace Go.Proofs.Ytmbnakinhnkabaa
open Go.AM
set_option maxRecDepth 100000
set_option linter.unusedSimpArgs false
set_option linter.unusedVariables false
def badE (rv r i od : Bool) (u : Int) (o : OpS) : Bool := (((((!true || !rv) || (!r && (o.r != 0))) || (!i && (o.imm != 0))) || (!od && (o.order != 0))) || (decide (u < 1) && (o.a != 0))) || (decide (u < 2) && (o.b != 0))
theorem no_true {p : Prop} (h : true = false) : p := by cases h
theorem opk_le {l : List Nat} (o : OpS) : leB l ⟨6, none, fun _ => opL o, 39, true⟩ (opB' o) := ⟨rfl, rfl, id, Nat.le_refl _, fun _ _ => by simp only [opB', opL, leSegs, leSeg, leC, and_self]⟩
set_option maxHeartbeats 8000000 in
theorem rop_P (o : OpS) (N m : Nat) (f : Nat → OpS) (hm : m ≤ N) (hN : N ≤ 140737488355328) (w : ByteArray) (r i od : Bool) (u : Int) (d e a : Bool) (g : FuncId) (rv : Bool) (h46 : ∀ H, Con Try.prog 46 [.c (.int .i64 o.kind)] H (fun v H' => v = kindV (kindL w r i od u d e a (.fn g [] [])) true ∧ H' = H)) (hg : ∀ H, Con Try.prog g [.agg (opL o)] H (fun v H' => v = .c (.bool rv) ∧ H' = H)) : Con Try.prog 54 [.agg (opL o), .c (.slice ⟨0, 0, 0, 0⟩ false m)] ⟨1, [(0, opsB N f)]⟩ (fun v H' => v = .c (.bool (!badE rv r i od u o && usesOk o m f (usesS o.kind))) ∧ H' = ⟨1, [(0, opsB N f)]⟩) := by
  (refine con_of_run mixed (fn := Try.f54) (by kernel_rfl) (by kernel_rfl) C54_ok (rs := [.tmp 4]) (by kernel_rfl) (Nat.le_of_ble_eq_true (by kernel_rfl)) ?_; unfold C54; simp only [initT, Nat.reduceAdd])
  repeat' (first | refine run_seq ?_ | refine run_skip ?_ | (refine run_region fun K hK => ?_; (try (simp (maxSteps := 10000000) only [opL, C54r0, C54r1, rwp_nil, rwp_cons, aop, gpath, St.get, slotAt, sfx, eqP, segsOf, St.put, addBlk, getB, ld1, rowNeed, segAt, shed, addN, Seg.size, sizes, appL, argsOf, ptrsOf, Nat.reduceAdd])); (repeat (first | (refine And.intro ?_ ?_; · (first | decide | trivial | assumption | (intros; first | decide | trivial))) | ((first | (refine call_t _ (h46 _) ?_; rintro v H' ⟨rfl, rfl⟩) | refine call_q _ (h46 _) ?_ | refine call_g _ (imp_of (h46 _)) ?_); simp (maxSteps := 10000000) only [kindV, kindL, rwp_nil, rwp_cons, rwpK_app, aop, gpath, St.get, slotAt, sfx, eqP, St.put, addBlk, getB, setB, stn, setRow, rowNeed, nsub, shed, Nat.beq, Seg.size, sizes, takeS, dropS, putS, nthA, exOk, Nat.reduceAdd, List.append_nil, List.nil_append]))); with_reducible refine hK _ ?_; clear hK K) | (refine run_cond rfl (fun hc => ?_) (fun hc => ?_) <;> try (simp only [*, Bool.true_eq_false, Bool.false_eq_true, Bool.not_true, Bool.not_false, Bool.true_or, Bool.or_true, Bool.false_or, Bool.or_false, Bool.false_and, Bool.and_false, bne_self_eq_false, beq_self_eq_true] at hc; done)) | refine run_block ?_ | refine run_ret ?_ | refine run_nil ?_ | refine run_exit ?_ | refine blk_normal ?_ | refine blk_ret ?_ | refine blk_here ?_ | refine blk_there rfl ?_ | refine loop_exit ?_ | refine loop_ret ?_ | refine un_exit ?_ | refine un_ret ?_ | refine unE_exit ?_ | refine unE_ret ?_ | refine un_normal ?_)
  (refine run_regionL fun K hK => ?_; simp only [C54r2]; (repeat' (first | (refine And.intro ?_ ?_; · (first | decide | trivial | assumption | (intros; first | decide | trivial))) | (rw [rwp_cons]; (try simp (maxSteps := 10000000) only [rwp_nil, aop, gpath, St.get, slotAt, sfx, eqP, St.put, addBlk, getB, ld1, ldn, rowNeed, segAt, nsub, bin, un, isShift, sameK, arith, getsl, selB_or, selB_and, beqb, shed, addN, Seg.size, appL, argsOf, ptrsOf, cut, takeS, dropS, Nat.reduceAdd])) | ((first | (refine call_g _ (imp_of (hg _)) ?_)) <;> (try simp (maxSteps := 10000000) only [rwpK_app, St.put])))); all_goals ((try simp only [rwp_nil, shed]); (with_reducible refine hK _ (⟨[⟨73, [], .c (.bool (badE rv r i od u o))⟩, ⟨2, [], .c (.ptr ⟨1, 0, 0, 0⟩)⟩, ⟨1, [], .c (.slice ⟨0, 0, 0, 0⟩ false m)⟩], ⟨2, [(1, opB' o), (0, opsB N f)]⟩⟩) ?hle ?_); (case hle => exact (LeS.intro [0, 1] (fun i h => idt1' i h) (by simp only [diff, notIn, Nat.beq, and_self]) rfl (by simp only [badE, slotsLe, slotAt, leV, leV1, leC, leA, nthO, and_self]) ⟨opk_le o, ops_le N f false, trivial⟩)); clear hK K))
  refine run_cond rfl (fun hc => ?_) (fun hc => ?_)
  · repeat' (first | refine run_seq ?_ | refine run_skip ?_ | (refine run_region fun K hK => ?_; (try (simp (maxSteps := 10000000) only [C54r3, rwp_nil, rwp_cons, aop, gpath, St.get, St.put, addBlk, shed])); (repeat (first | (refine And.intro ?_ ?_; · first | trivial | assumption | omega))); with_reducible refine hK _ ?_; clear hK K) | (refine run_cond rfl (fun hc => ?_) (fun hc => ?_) <;> try (simp only [*, Bool.true_eq_false, Bool.false_eq_true, Bool.not_true, Bool.not_false, Bool.true_or, Bool.or_true, Bool.false_or, Bool.or_false, Bool.false_and, Bool.and_false, bne_self_eq_false, beq_self_eq_true] at hc; done)) | refine run_block ?_ | refine run_ret ?_ | refine run_nil ?_ | refine run_exit ?_ | refine blk_normal ?_ | refine blk_ret ?_ | refine blk_here ?_ | refine blk_there rfl ?_ | refine loop_exit ?_ | refine loop_ret ?_ | refine un_exit ?_ | refine un_ret ?_ | refine unE_exit ?_ | refine unE_ret ?_ | refine un_normal ?_)
    exact end_ops false rfl rfl ⟨by rw [hc]; rfl, rfl⟩
  · refine run_skip ?_
    exact rop_tail _ o N m f hm hN ⟨by rw [hc]; rfl, rfl⟩
set_option maxHeartbeats 8000000 in
theorem rop_Q (o : OpS) (N m : Nat) (f : Nat → OpS) (hm : m ≤ N) (hN : N ≤ 140737488355328) (w : ByteArray) (r i od : Bool) (u : Int) (d e a : Bool) (t : Int) (h46 : ∀ n X, keysLt X n → Con Try.prog 46 [.c (.int .i64 o.kind)] ⟨n, X⟩ (fun v H' => v = kindV (kindL w r i od u d e a (.fn 98 [] [⟨n, 0, 0, 0⟩])) true ∧ H' = addBs ⟨n, X⟩ [boxW t])) : Con Try.prog 54 [.agg (opL o), .c (.slice ⟨0, 0, 0, 0⟩ false m)] ⟨1, [(0, opsB N f)]⟩ (fun v H' => v = .c (.bool (!badE (upS t o) r i od u o && usesOk o m f (usesS o.kind))) ∧ H' = ⟨1, [(0, opsB N f)]⟩) := by
  (refine con_of_run mixed (fn := Try.f54) (by kernel_rfl) (by kernel_rfl) C54_ok (rs := [.tmp 4]) (by kernel_rfl) (Nat.le_of_ble_eq_true (by kernel_rfl)) ?_; unfold C54; simp only [initT, Nat.reduceAdd])
  repeat' (first | refine run_seq ?_ | refine run_skip ?_ | (refine run_region fun K hK => ?_; (try (simp (maxSteps := 10000000) only [opL, C54r0, C54r1, rwp_nil, rwp_cons, aop, gpath, St.get, slotAt, sfx, eqP, segsOf, St.put, addBlk, getB, ld1, rowNeed, segAt, shed, addN, Seg.size, sizes, appL, argsOf, ptrsOf, Nat.reduceAdd])); (repeat (first | (refine And.intro ?_ ?_; · (first | decide | trivial | assumption | (intros; first | decide | trivial))) | ((first | (refine call_t _ (h46 _ _ (by simp [keysLt])) ?_; rintro v H' ⟨rfl, rfl⟩) | refine call_q _ (h46 _ _ (by simp [roL, keysLt, boxW, intsW, slB, opB', opsB])) ?_ | refine call_g _ (imp_of (h46 _ _ (by simp [roL, keysLt, boxW, intsW, slB, opB', opsB]))) ?_); simp (maxSteps := 10000000) only [kindV, kindL, boxW, rwp_nil, rwp_cons, rwpK_app, aop, gpath, St.get, slotAt, sfx, eqP, St.put, addBlk, getB, setB, stn, setRow, rowNeed, nsub, shed, Nat.beq, Seg.size, sizes, takeS, dropS, putS, nthA, exOk, Nat.reduceAdd, List.append_nil, List.nil_append, addBs]))); with_reducible refine hK _ ?_; clear hK K) | (refine run_cond rfl (fun hc => ?_) (fun hc => ?_) <;> try (simp only [*, Bool.true_eq_false, Bool.false_eq_true, Bool.not_true, Bool.not_false, Bool.true_or, Bool.or_true, Bool.false_or, Bool.or_false, Bool.false_and, Bool.and_false, bne_self_eq_false, beq_self_eq_true] at hc; done)) | refine run_block ?_ | refine run_ret ?_ | refine run_nil ?_ | refine run_exit ?_ | refine blk_normal ?_ | refine blk_ret ?_ | refine blk_here ?_ | refine blk_there rfl ?_ | refine loop_exit ?_ | refine loop_ret ?_ | refine un_exit ?_ | refine un_ret ?_ | refine unE_exit ?_ | refine unE_ret ?_ | refine un_normal ?_)
  (refine run_regionL fun K hK => ?_; simp only [C54r2]; (repeat' (first | (refine And.intro ?_ ?_; · (first | decide | trivial | assumption | (intros; first | decide | trivial))) | (rw [rwp_cons]; (try simp (maxSteps := 10000000) only [rwp_nil, aop, gpath, St.get, slotAt, sfx, eqP, St.put, addBlk, getB, ld1, ldn, rowNeed, segAt, nsub, bin, un, isShift, sameK, arith, getsl, selB_or, selB_and, beqb, shed, addN, Seg.size, appL, argsOf, ptrsOf, cut, takeS, dropS, Nat.reduceAdd])) | ((first | (refine call_g _ (imp_of (con98_at t o _ _ _ _ rfl (Nat.le_of_ble_eq_true rfl) (by simp [roL, keysLt, opsB]))) ?_)) <;> (try simp (maxSteps := 10000000) only [rwpK_app, St.put])))); all_goals ((try simp only [rwp_nil, shed]); (with_reducible refine hK _ (⟨[⟨73, [], .c (.bool (badE (upS t o) r i od u o))⟩, ⟨2, [], .c (.ptr ⟨1, 0, 0, 0⟩)⟩, ⟨1, [], .c (.slice ⟨0, 0, 0, 0⟩ false m)⟩], ⟨2, [(1, opB' o), (0, opsB N f)]⟩⟩) ?hle ?_); (case hle => exact (LeS.intro [0, 1] (fun i h => idt1' i h) (by simp only [diff, notIn, Nat.beq, and_self]) rfl (by simp only [badE, slotsLe, slotAt, leV, leV1, leC, leA, nthO, and_self]) ⟨opk_le o, ops_le N f false, trivial⟩)); clear hK K))
  refine run_cond rfl (fun hc => ?_) (fun hc => ?_)
  · repeat' (first | refine run_seq ?_ | refine run_skip ?_ | (refine run_region fun K hK => ?_; (try (simp (maxSteps := 10000000) only [C54r3, rwp_nil, rwp_cons, aop, gpath, St.get, St.put, addBlk, shed])); (repeat (first | (refine And.intro ?_ ?_; · first | trivial | assumption | omega))); with_reducible refine hK _ ?_; clear hK K) | (refine run_cond rfl (fun hc => ?_) (fun hc => ?_) <;> try (simp only [*, Bool.true_eq_false, Bool.false_eq_true, Bool.not_true, Bool.not_false, Bool.true_or, Bool.or_true, Bool.false_or, Bool.or_false, Bool.false_and, Bool.and_false, bne_self_eq_false, beq_self_eq_true] at hc; done)) | refine run_block ?_ | refine run_ret ?_ | refine run_nil ?_ | refine run_exit ?_ | refine blk_normal ?_ | refine blk_ret ?_ | refine blk_here ?_ | refine blk_there rfl ?_ | refine loop_exit ?_ | refine loop_ret ?_ | refine un_exit ?_ | refine un_ret ?_ | refine unE_exit ?_ | refine unE_ret ?_ | refine un_normal ?_)
    exact end_ops false rfl rfl ⟨by rw [hc]; rfl, rfl⟩
  · refine run_skip ?_
    exact rop_tail _ o N m f hm hN ⟨by rw [hc]; rfl, rfl⟩
set_option maxHeartbeats 8000000 in
theorem rop_S (o : OpS) (N m : Nat) (f : Nat → OpS) (hm : m ≤ N) (hN : N ≤ 140737488355328) (w : ByteArray) (r i od : Bool) (u : Int) (d e a : Bool) (c : Nat) (g1 g2 : Int) (hc : c < 1000) (h46 : ∀ n X, keysLt X n → Con Try.prog 46 [.c (.int .i64 o.kind)] ⟨n, X⟩ (fun v H' => v = kindV (kindL w r i od u d e a (.fn 99 [] [⟨n + 1, 0, 0, 0⟩])) true ∧ H' = addBs ⟨n, X⟩ [intsW c (ordF g1 g2), slB n c true])) : Con Try.prog 54 [.agg (opL o), .c (.slice ⟨0, 0, 0, 0⟩ false m)] ⟨1, [(0, opsB N f)]⟩ (fun v H' => v = .c (.bool (!badE (inB (ordF g1 g2) o.order c 0) r i od u o && usesOk o m f (usesS o.kind))) ∧ H' = ⟨1, [(0, opsB N f)]⟩) := by
  (refine con_of_run mixed (fn := Try.f54) (by kernel_rfl) (by kernel_rfl) C54_ok (rs := [.tmp 4]) (by kernel_rfl) (Nat.le_of_ble_eq_true (by kernel_rfl)) ?_; unfold C54; simp only [initT, Nat.reduceAdd])
  repeat' (first | refine run_seq ?_ | refine run_skip ?_ | (refine run_region fun K hK => ?_; (try (simp (maxSteps := 10000000) only [opL, C54r0, C54r1, rwp_nil, rwp_cons, aop, gpath, St.get, slotAt, sfx, eqP, segsOf, St.put, addBlk, getB, ld1, rowNeed, segAt, shed, addN, Seg.size, sizes, appL, argsOf, ptrsOf, Nat.reduceAdd])); (repeat (first | (refine And.intro ?_ ?_; · (first | decide | trivial | assumption | (intros; first | decide | trivial))) | ((first | (refine call_t _ (h46 _ _ (by simp [keysLt])) ?_; rintro v H' ⟨rfl, rfl⟩) | refine call_q _ (h46 _ _ (by simp [roL, keysLt, boxW, intsW, slB, opB', opsB])) ?_ | refine call_g _ (imp_of (h46 _ _ (by simp [roL, keysLt, boxW, intsW, slB, opB', opsB]))) ?_); simp (maxSteps := 10000000) only [kindV, kindL, intsW, slB, rwp_nil, rwp_cons, rwpK_app, aop, gpath, St.get, slotAt, sfx, eqP, St.put, addBlk, getB, setB, stn, setRow, rowNeed, nsub, shed, Nat.beq, Seg.size, sizes, takeS, dropS, putS, nthA, exOk, Nat.reduceAdd, List.append_nil, List.nil_append, addBs]))); with_reducible refine hK _ ?_; clear hK K) | (refine run_cond rfl (fun hc => ?_) (fun hc => ?_) <;> try (simp only [*, Bool.true_eq_false, Bool.false_eq_true, Bool.not_true, Bool.not_false, Bool.true_or, Bool.or_true, Bool.false_or, Bool.or_false, Bool.false_and, Bool.and_false, bne_self_eq_false, beq_self_eq_true] at hc; done)) | refine run_block ?_ | refine run_ret ?_ | refine run_nil ?_ | refine run_exit ?_ | refine blk_normal ?_ | refine blk_ret ?_ | refine blk_here ?_ | refine blk_there rfl ?_ | refine loop_exit ?_ | refine loop_ret ?_ | refine un_exit ?_ | refine un_ret ?_ | refine unE_exit ?_ | refine unE_ret ?_ | refine un_normal ?_)
  (refine run_regionL fun K hK => ?_; simp only [C54r2]; (repeat' (first | (refine And.intro ?_ ?_; · (first | decide | trivial | assumption | (intros; first | decide | trivial))) | (rw [rwp_cons]; (try simp (maxSteps := 10000000) only [rwp_nil, aop, gpath, St.get, slotAt, sfx, eqP, St.put, addBlk, getB, ld1, ldn, rowNeed, segAt, nsub, bin, un, isShift, sameK, arith, getsl, selB_or, selB_and, beqb, shed, addN, Seg.size, appL, argsOf, ptrsOf, cut, takeS, dropS, Nat.reduceAdd])) | ((first | (refine call_g _ (imp_of (con99_at c (ordF g1 g2) o hc 2 3 _ _ _ _ rfl rfl rfl (Nat.le_of_ble_eq_true rfl) (Nat.le_of_ble_eq_true rfl) (by simp [roL, keysLt, opsB]))) ?_)) <;> (try simp (maxSteps := 10000000) only [rwpK_app, St.put])))); all_goals ((try simp only [rwp_nil, shed]); (with_reducible refine hK _ (⟨[⟨73, [], .c (.bool (badE (inB (ordF g1 g2) o.order c 0) r i od u o))⟩, ⟨2, [], .c (.ptr ⟨1, 0, 0, 0⟩)⟩, ⟨1, [], .c (.slice ⟨0, 0, 0, 0⟩ false m)⟩], ⟨2, [(1, opB' o), (0, opsB N f)]⟩⟩) ?hle ?_); (case hle => exact (LeS.intro [0, 1] (fun i h => idt1' i h) (by simp only [diff, notIn, Nat.beq, and_self]) rfl (by simp only [badE, slotsLe, slotAt, leV, leV1, leC, leA, nthO, and_self]) ⟨opk_le o, ops_le N f false, trivial⟩)); clear hK K))
  refine run_cond rfl (fun hc => ?_) (fun hc => ?_)
  · repeat' (first | refine run_seq ?_ | refine run_skip ?_ | (refine run_region fun K hK => ?_; (try (simp (maxSteps := 10000000) only [C54r3, rwp_nil, rwp_cons, aop, gpath, St.get, St.put, addBlk, shed])); (repeat (first | (refine And.intro ?_ ?_; · first | trivial | assumption | omega))); with_reducible refine hK _ ?_; clear hK K) | (refine run_cond rfl (fun hc => ?_) (fun hc => ?_) <;> try (simp only [*, Bool.true_eq_false, Bool.false_eq_true, Bool.not_true, Bool.not_false, Bool.true_or, Bool.or_true, Bool.false_or, Bool.or_false, Bool.false_and, Bool.and_false, bne_self_eq_false, beq_self_eq_true] at hc; done)) | refine run_block ?_ | refine run_ret ?_ | refine run_nil ?_ | refine run_exit ?_ | refine blk_normal ?_ | refine blk_ret ?_ | refine blk_here ?_ | refine blk_there rfl ?_ | refine loop_exit ?_ | refine loop_ret ?_ | refine un_exit ?_ | refine un_ret ?_ | refine unE_exit ?_ | refine unE_ret ?_ | refine un_normal ?_)
    exact end_ops false rfl rfl ⟨by rw [hc]; rfl, rfl⟩
  · refine run_skip ?_
    exact rop_tail _ o N m f hm hN ⟨by rw [hc]; rfl, rfl⟩
def badN (o : OpS) : Bool := (((((!false || !false) || (!false && (o.r != 0))) || (!false && (o.imm != 0))) || (!false && (o.order != 0))) || (decide ((0 : Int) < 1) && (o.a != 0))) || (decide ((0 : Int) < 2) && (o.b != 0))
set_option maxHeartbeats 8000000 in
theorem rop_no (o : OpS) (N m : Nat) (f : Nat → OpS) (hm : m ≤ N) (hN : N ≤ 140737488355328) (h : noKind o.kind) : Con Try.prog 54 [.agg (opL o), .c (.slice ⟨0, 0, 0, 0⟩ false m)] ⟨1, [(0, opsB N f)]⟩ (fun v H' => v = .c (.bool (false)) ∧ H' = ⟨1, [(0, opsB N f)]⟩) := by
  (refine con_of_run mixed (fn := Try.f54) (by kernel_rfl) (by kernel_rfl) C54_ok (rs := [.tmp 4]) (by kernel_rfl) (Nat.le_of_ble_eq_true (by kernel_rfl)) ?_; unfold C54; simp only [initT, Nat.reduceAdd])
  repeat' (first | refine run_seq ?_ | refine run_skip ?_ | (refine run_region fun K hK => ?_; (try (simp (maxSteps := 10000000) only [opL, C54r0, C54r1, rwp_nil, rwp_cons, aop, gpath, St.get, slotAt, sfx, eqP, segsOf, St.put, addBlk, getB, ld1, rowNeed, segAt, shed, addN, Seg.size, sizes, appL, argsOf, ptrsOf, Nat.reduceAdd])); (repeat (first | (refine And.intro ?_ ?_; · (first | decide | trivial | assumption | (intros; first | decide | trivial | exact no_true (by assumption)))) | ((first | (refine call_t _ (kind_no _ h _) ?_; rintro v H' ⟨rfl, rfl⟩) | refine call_q _ (kind_no _ h _) ?_ | refine call_g _ (imp_of (kind_no _ h _)) ?_); simp (maxSteps := 10000000) only [kindV, kindL, rwp_nil, rwp_cons, rwpK_app, aop, gpath, St.get, slotAt, sfx, eqP, St.put, addBlk, getB, setB, stn, setRow, rowNeed, nsub, shed, Nat.beq, Seg.size, sizes, takeS, dropS, putS, nthA, exOk, Nat.reduceAdd, List.append_nil, List.nil_append]))); with_reducible refine hK _ ?_; clear hK K) | (refine run_cond rfl (fun hc => ?_) (fun hc => ?_) <;> try (simp only [*, Bool.true_eq_false, Bool.false_eq_true, Bool.not_true, Bool.not_false, Bool.true_or, Bool.or_true, Bool.false_or, Bool.or_false, Bool.false_and, Bool.and_false, bne_self_eq_false, beq_self_eq_true] at hc; done)) | refine run_block ?_ | refine run_ret ?_ | refine run_nil ?_ | refine run_exit ?_ | refine blk_normal ?_ | refine blk_ret ?_ | refine blk_here ?_ | refine blk_there rfl ?_ | refine loop_exit ?_ | refine loop_ret ?_ | refine un_exit ?_ | refine un_ret ?_ | refine unE_exit ?_ | refine unE_ret ?_ | refine un_normal ?_)
  (refine run_regionL fun K hK => ?_; simp only [C54r2]; (repeat' (first | (refine And.intro ?_ ?_; · (first | decide | trivial | assumption | (intros; first | decide | trivial | exact no_true (by assumption)))) | (rw [rwp_cons]; (try simp (maxSteps := 10000000) only [rwp_nil, aop, gpath, St.get, slotAt, sfx, eqP, St.put, addBlk, getB, ld1, ldn, rowNeed, segAt, nsub, bin, un, isShift, sameK, arith, getsl, selB_or, selB_and, beqb, shed, addN, Seg.size, imp, cut, takeS, dropS, Nat.reduceAdd])) | ((first | (refine call_g _ (imp_of (kind_no _ h _)) ?_)) <;> (try simp (maxSteps := 10000000) only [opL, rwp_nil, rwpK_app, aop, gpath, St.get, slotAt, sfx, eqP, segsOf, St.put, addBlk, getB, setB, delB, ld1, ldn, st1, stn, setRow, rowNeed, segAt, nsub, bin, un, eqB, isShift, sameK, arith, shiftR, getsl, selB_or, selB_and, beqb, shed, addN, Nat.beq, Seg.size, sizes, imp, needP, andN, appL, argsOf, ptrsOf, aasOf, cut, takeS, dropS, putS, partsOf, fillS, fieldOf, nthA, negIf, nilq, nilB, eqS, eqF, eqS1, andP, kin, slcS, strOk, plusA, bndHi, leN, optG, roH, roL, initT, exOk, exAll, wrAddr, Nat.reduceAdd, Nat.reduceSub, Nat.reduceMul, Int.reduceToNat, List.append_nil, List.nil_append, List.cons_append, mapR, mapR1, keyL, keyOk, keyP, colsPut, colsDel, zcols, eqT, idxT, cat, cpy, ite_int, ite_bool, ite_seg, ite_segs, ite_nil, ite_twice, Int.toNat_natCast, app, addBs, tob])))); all_goals ((try simp only [rwp_nil, shed]); (with_reducible refine hK _ (⟨[⟨73, [], .c (.bool (badN o))⟩, ⟨2, [], .c (.ptr ⟨1, 0, 0, 0⟩)⟩, ⟨1, [], .c (.slice ⟨0, 0, 0, 0⟩ false m)⟩], ⟨2, [(1, opB' o), (0, opsB N f)]⟩⟩) ?hle ?_); (case hle => exact (LeS.intro [0, 1] (fun i h => idt1' i h) (by simp only [diff, notIn, Nat.beq, and_self]) rfl (by simp only [badN, slotsLe, slotAt, leV, leV1, leC, leA, nthO, and_self]) ⟨opk_le o, ops_le N f false, trivial⟩)); clear hK K))
  refine run_cond rfl (fun hc => ?_) (fun hc => ?_)
  · repeat' (first | refine run_seq ?_ | refine run_skip ?_ | (refine run_region fun K hK => ?_; (try (simp (maxSteps := 10000000) only [C54r3, rwp_nil, rwp_cons, aop, gpath, St.get, St.put, addBlk, shed])); (repeat (first | (refine And.intro ?_ ?_; · first | trivial | assumption | omega))); with_reducible refine hK _ ?_; clear hK K) | (refine run_cond rfl (fun hc => ?_) (fun hc => ?_) <;> try (simp only [*, Bool.true_eq_false, Bool.false_eq_true, Bool.not_true, Bool.not_false, Bool.true_or, Bool.or_true, Bool.false_or, Bool.or_false, Bool.false_and, Bool.and_false, bne_self_eq_false, beq_self_eq_true] at hc; done)) | refine run_block ?_ | refine run_ret ?_ | refine run_nil ?_ | refine run_exit ?_ | refine blk_normal ?_ | refine blk_ret ?_ | refine blk_here ?_ | refine blk_there rfl ?_ | refine loop_exit ?_ | refine loop_ret ?_ | refine un_exit ?_ | refine un_ret ?_ | refine unE_exit ?_ | refine unE_ret ?_ | refine un_normal ?_)
    exact end_ops false rfl rfl ⟨rfl, rfl⟩
  · simp [badN] at hc
def ropS (o : OpS) (m : Nat) (f : Nat → OpS) : Bool := !fieldBad o && usesOk o m f (usesS o.kind)
theorem badE_field (o : OpS) (rv r i od : Bool) (u : Nat) (h1 : rightF o = rv) (h2 : hasR o.kind = r) (h3 : hasImm o.kind = i) (h4 : hasOrd o.kind = od) (h5 : usesS o.kind = u) : badE rv r i od (u : Int) o = fieldBad o := by
  unfold badE fieldBad
  rw [h1, h2, h3, h4, h5]
  have e1 : decide ((u : Int) < 1) = decide (u < 1) := decide_eq_decide.2 (by omega)
  have e2 : decide ((u : Int) < 2) = decide (u < 2) := decide_eq_decide.2 (by omega)
  rw [e1, e2, Bool.not_true, Bool.false_or]
theorem rightF_1 (o : OpS) (h : o.kind = 1) : rightF o = (true) := by simp [rightF, h]
theorem rightF_2 (o : OpS) (h : o.kind = 2) : rightF o = (upS 30 o) := by simp [rightF, h]
theorem rightF_3 (o : OpS) (h : o.kind = 3) : rightF o = (upS 30 o) := by simp [rightF, h]
theorem rightF_4 (o : OpS) (h : o.kind = 4) : rightF o = (true) := by simp [rightF, h]
theorem rightF_5 (o : OpS) (h : o.kind = 5) : rightF o = (true) := by simp [rightF, h]
theorem rightF_6 (o : OpS) (h : o.kind = 6) : rightF o = (upS 3 o) := by simp [rightF, h]
theorem rightF_7 (o : OpS) (h : o.kind = 7) : rightF o = (upS 3 o) := by simp [rightF, h]
theorem rightF_8 (o : OpS) (h : o.kind = 8) : rightF o = (decide (o.r ≥ 1) && decide (o.r ≤ 15)) := by simp [rightF, h]
theorem rightF_9 (o : OpS) (h : o.kind = 9) : rightF o = (inB (ordF 1 2) o.order 3 0) := by simp [rightF, h]
theorem rightF_10 (o : OpS) (h : o.kind = 10) : rightF o = (inB (ordF 4 0) o.order 2 0) := by simp [rightF, h]
theorem rightF_11 (o : OpS) (h : o.kind = 11) : rightF o = (inB (ordF 2 0) o.order 2 0) := by simp [rightF, h]
theorem rightF_12 (o : OpS) (h : o.kind = 12) : rightF o = (inB (ordF 4 0) o.order 2 0) := by simp [rightF, h]
theorem rightF_13 (o : OpS) (h : o.kind = 13) : rightF o = (((o.r == 13) || (o.r == 10)) || (o.r == 15)) := by simp [rightF, h]
theorem rightF_14 (o : OpS) (h : o.kind = 14) : rightF o = (IntKind.u64.wrap (BitVec.ofInt IntKind.u64.bits o.imm &&& BitVec.ofInt IntKind.u64.bits 3).toNat == 0) := by simp [rightF, h]
theorem rightF_15 (o : OpS) (h : o.kind = 15) : rightF o = (true) := by simp [rightF, h]
theorem rightF_16 (o : OpS) (h : o.kind = 16) : rightF o = (true) := by simp [rightF, h]
theorem rightF_17 (o : OpS) (h : o.kind = 17) : rightF o = (true) := by simp [rightF, h]
theorem rightF_18 (o : OpS) (h : o.kind = 18) : rightF o = (o.imm.fdiv (2 ^ min 32 IntKind.u64.bits) == 0) := by simp [rightF, h]
theorem con54 (o : OpS) (N m : Nat) (f : Nat → OpS) (hm : m ≤ N) (hN : N ≤ 140737488355328) : Con Try.prog 54 [.agg (opL o), .c (.slice ⟨0, 0, 0, 0⟩ false m)] ⟨1, [(0, opsB N f)]⟩ (fun v H' => v = .c (.bool (ropS o m f)) ∧ H' = ⟨1, [(0, opsB N f)]⟩) := by
  by_cases h1 : o.kind = 1
  · have e := badE_field o _ false true false 0 rfl (by rw [h1]; decide) (by rw [h1]; decide) (by rw [h1]; decide) (by rw [h1]; decide)
    unfold ropS
    rw [← e]
    have hr : rightF o = _ := rightF_1 o h1
    rw [hr]
    exact rop_P o N m f hm hN ⟨#[99, 111, 110, 115, 116]⟩ false true false 0 true false false 66 _ (kindo_1 o h1) (con66 o)
  by_cases h2 : o.kind = 2
  · have e := badE_field o _ true false false 0 rfl (by rw [h2]; decide) (by rw [h2]; decide) (by rw [h2]; decide) (by rw [h2]; decide)
    unfold ropS
    rw [← e]
    have hr : rightF o = _ := rightF_2 o h2
    rw [hr]
    exact rop_Q o N m f hm hN ⟨#[103, 101, 116, 120]⟩ true false false 0 true false false 30 (kindo_2 o h2)
  by_cases h3 : o.kind = 3
  · have e := badE_field o _ true false false 1 rfl (by rw [h3]; decide) (by rw [h3]; decide) (by rw [h3]; decide) (by rw [h3]; decide)
    unfold ropS
    rw [← e]
    have hr : rightF o = _ := rightF_3 o h3
    rw [hr]
    exact rop_Q o N m f hm hN ⟨#[115, 101, 116, 120]⟩ true false false 1 false false false 30 (kindo_3 o h3)
  by_cases h4 : o.kind = 4
  · have e := badE_field o _ false false false 0 rfl (by rw [h4]; decide) (by rw [h4]; decide) (by rw [h4]; decide) (by rw [h4]; decide)
    unfold ropS
    rw [← e]
    have hr : rightF o = _ := rightF_4 o h4
    rw [hr]
    exact rop_P o N m f hm hN ⟨#[103, 101, 116, 115, 112]⟩ false false false 0 true false false 66 _ (kindo_4 o h4) (con66 o)
  by_cases h5 : o.kind = 5
  · have e := badE_field o _ false false false 1 rfl (by rw [h5]; decide) (by rw [h5]; decide) (by rw [h5]; decide) (by rw [h5]; decide)
    unfold ropS
    rw [← e]
    have hr : rightF o = _ := rightF_5 o h5
    rw [hr]
    exact rop_P o N m f hm hN ⟨#[115, 101, 116, 115, 112]⟩ false false false 1 false false false 66 _ (kindo_5 o h5) (con66 o)
  by_cases h6 : o.kind = 6
  · have e := badE_field o _ true false false 0 rfl (by rw [h6]; decide) (by rw [h6]; decide) (by rw [h6]; decide) (by rw [h6]; decide)
    unfold ropS
    rw [← e]
    have hr : rightF o = _ := rightF_6 o h6
    rw [hr]
    exact rop_Q o N m f hm hN ⟨#[103, 101, 116, 102]⟩ true false false 0 true false false 3 (kindo_6 o h6)
  by_cases h7 : o.kind = 7
  · have e := badE_field o _ true false false 1 rfl (by rw [h7]; decide) (by rw [h7]; decide) (by rw [h7]; decide) (by rw [h7]; decide)
    unfold ropS
    rw [← e]
    have hr : rightF o = _ := rightF_7 o h7
    rw [hr]
    exact rop_Q o N m f hm hN ⟨#[115, 101, 116, 102]⟩ true false false 1 false false false 3 (kindo_7 o h7)
  by_cases h8 : o.kind = 8
  · have e := badE_field o _ true false false 2 rfl (by rw [h8]; decide) (by rw [h8]; decide) (by rw [h8]; decide) (by rw [h8]; decide)
    unfold ropS
    rw [← e]
    have hr : rightF o = _ := rightF_8 o h8
    rw [hr]
    exact rop_P o N m f hm hN ⟨#[97, 108, 117]⟩ true false false 2 true false false 68 _ (kindo_8 o h8) (con68 o)
  by_cases h9 : o.kind = 9
  · have e := badE_field o _ false false true 1 rfl (by rw [h9]; decide) (by rw [h9]; decide) (by rw [h9]; decide) (by rw [h9]; decide)
    unfold ropS
    rw [← e]
    have hr : rightF o = _ := rightF_9 o h9
    rw [hr]
    exact rop_S o N m f hm hN ⟨#[108, 111, 97, 100]⟩ false false true 1 true false true 3 1 2 (by decide) (kindo_9 o h9)
  by_cases h10 : o.kind = 10
  · have e := badE_field o _ false false true 2 rfl (by rw [h10]; decide) (by rw [h10]; decide) (by rw [h10]; decide) (by rw [h10]; decide)
    unfold ropS
    rw [← e]
    have hr : rightF o = _ := rightF_10 o h10
    rw [hr]
    exact rop_S o N m f hm hN ⟨#[115, 116, 111, 114, 101]⟩ false false true 2 false false true 2 4 0 (by decide) (kindo_10 o h10)
  by_cases h11 : o.kind = 11
  · have e := badE_field o _ false false true 1 rfl (by rw [h11]; decide) (by rw [h11]; decide) (by rw [h11]; decide) (by rw [h11]; decide)
    unfold ropS
    rw [← e]
    have hr : rightF o = _ := rightF_11 o h11
    rw [hr]
    exact rop_S o N m f hm hN ⟨#[108, 111, 97, 100, 101, 120]⟩ false false true 1 true false true 2 2 0 (by decide) (kindo_11 o h11)
  by_cases h12 : o.kind = 12
  · have e := badE_field o _ false false true 2 rfl (by rw [h12]; decide) (by rw [h12]; decide) (by rw [h12]; decide) (by rw [h12]; decide)
    unfold ropS
    rw [← e]
    have hr : rightF o = _ := rightF_12 o h12
    rw [hr]
    exact rop_S o N m f hm hN ⟨#[115, 116, 111, 114, 101, 101, 120]⟩ false false true 2 true false true 2 4 0 (by decide) (kindo_12 o h12)
  by_cases h13 : o.kind = 13
  · have e := badE_field o _ true false false 0 rfl (by rw [h13]; decide) (by rw [h13]; decide) (by rw [h13]; decide) (by rw [h13]; decide)
    unfold ropS
    rw [← e]
    have hr : rightF o = _ := rightF_13 o h13
    rw [hr]
    exact rop_P o N m f hm hN ⟨#[102, 101, 110, 99, 101]⟩ true false false 0 false false false 70 _ (kindo_13 o h13) (con70 o)
  by_cases h14 : o.kind = 14
  · have e := badE_field o _ false true false 0 rfl (by rw [h14]; decide) (by rw [h14]; decide) (by rw [h14]; decide) (by rw [h14]; decide)
    unfold ropS
    rw [← e]
    have hr : rightF o = _ := rightF_14 o h14
    rw [hr]
    exact rop_P o N m f hm hN ⟨#[97, 116]⟩ false true false 0 false false false 71 _ (kindo_14 o h14) (con71 o)
  by_cases h15 : o.kind = 15
  · have e := badE_field o _ false true false 1 rfl (by rw [h15]; decide) (by rw [h15]; decide) (by rw [h15]; decide) (by rw [h15]; decide)
    unfold ropS
    rw [← e]
    have hr : rightF o = _ := rightF_15 o h15
    rw [hr]
    exact rop_P o N m f hm hN ⟨#[101, 120, 105, 116, 105, 102]⟩ false true false 1 false false false 66 _ (kindo_15 o h15) (con66 o)
  by_cases h16 : o.kind = 16
  · have e := badE_field o _ false true false 0 rfl (by rw [h16]; decide) (by rw [h16]; decide) (by rw [h16]; decide) (by rw [h16]; decide)
    unfold ropS
    rw [← e]
    have hr : rightF o = _ := rightF_16 o h16
    rw [hr]
    exact rop_P o N m f hm hN ⟨#[101, 120, 105, 116]⟩ false true false 0 false true false 66 _ (kindo_16 o h16) (con66 o)
  by_cases h17 : o.kind = 17
  · have e := badE_field o _ false false false 1 rfl (by rw [h17]; decide) (by rw [h17]; decide) (by rw [h17]; decide) (by rw [h17]; decide)
    unfold ropS
    rw [← e]
    have hr : rightF o = _ := rightF_17 o h17
    rw [hr]
    exact rop_P o N m f hm hN ⟨#[101, 120, 105, 116, 116, 111]⟩ false false false 1 false true false 66 _ (kindo_17 o h17) (con66 o)
  by_cases h18 : o.kind = 18
  · have e := badE_field o _ false true false 0 rfl (by rw [h18]; decide) (by rw [h18]; decide) (by rw [h18]; decide) (by rw [h18]; decide)
    unfold ropS
    rw [← e]
    have hr : rightF o = _ := rightF_18 o h18
    rw [hr]
    exact rop_P o N m f hm hN ⟨#[103, 117, 101, 115, 116]⟩ false true false 0 false true false 72 _ (kindo_18 o h18) (con72 o)
  have hno : noKind o.kind := by simp [noKind, *]
  have e : ropS o m f = false := by simp [ropS, fieldBad, rightF, *]
  rw [e]
  exact rop_no o N m f hm hN hno
end Go.Proofs.Ytmbnakinhnkabaa

namespace Go.Proofs.Ytmbnakinhnkabaa
open Go.AM
set_option maxRecDepth 100000
set_option linter.unusedSimpArgs false
set_option linter.unusedVariables false
def KindR (k : Int) (H : Heap) : Post := fun v H' =>
  (∃ w r i od a g, v = kindV (kindL w r i od (usesS k) (defS k) (endS k) a (.fn g [] [])) true ∧ H' = H) ∨
  (∃ w r i od a t, v = kindV (kindL w r i od (usesS k) (defS k) (endS k) a (.fn 98 [] [⟨H.next, 0, 0, 0⟩])) true ∧ H' = addBs H [boxW t]) ∨
  (∃ w r i od a c g, v = kindV (kindL w r i od (usesS k) (defS k) (endS k) a (.fn 99 [] [⟨H.next + 1, 0, 0, 0⟩])) true ∧ H' = addBs H [intsW c g, slB H.next c true]) ∨
  (v = kindV (kindL ⟨#[]⟩ false false false (usesS k) (defS k) (endS k) false .nilfn) false ∧ H' = H)
theorem kind_R (k : Int) (n : Nat) (X : List (Nat × Blk)) (hkl : keysLt X n) : Con Try.prog 46 [.c (.int .i64 k)] ⟨n, X⟩ (KindR k ⟨n, X⟩) := by
  by_cases h1 : k = 1
  · subst h1
    exact (kind_1 _).weaken (by rintro v H' ⟨rfl, rfl⟩; exact (.inl ⟨_, _, _, _, _, _, rfl, rfl⟩))
  by_cases h2 : k = 2
  · subst h2
    exact (kind_2 n X hkl).weaken (by rintro v H' ⟨rfl, rfl⟩; exact .inr (.inl ⟨_, _, _, _, _, _, rfl, rfl⟩))
  by_cases h3 : k = 3
  · subst h3
    exact (kind_3 n X hkl).weaken (by rintro v H' ⟨rfl, rfl⟩; exact .inr (.inl ⟨_, _, _, _, _, _, rfl, rfl⟩))
  by_cases h4 : k = 4
  · subst h4
    exact (kind_4 _).weaken (by rintro v H' ⟨rfl, rfl⟩; exact (.inl ⟨_, _, _, _, _, _, rfl, rfl⟩))
  by_cases h5 : k = 5
  · subst h5
    exact (kind_5 _).weaken (by rintro v H' ⟨rfl, rfl⟩; exact (.inl ⟨_, _, _, _, _, _, rfl, rfl⟩))
  by_cases h6 : k = 6
  · subst h6
    exact (kind_6 n X hkl).weaken (by rintro v H' ⟨rfl, rfl⟩; exact .inr (.inl ⟨_, _, _, _, _, _, rfl, rfl⟩))
  by_cases h7 : k = 7
  · subst h7
    exact (kind_7 n X hkl).weaken (by rintro v H' ⟨rfl, rfl⟩; exact .inr (.inl ⟨_, _, _, _, _, _, rfl, rfl⟩))
  by_cases h8 : k = 8
  · subst h8
    exact (kind_8 _).weaken (by rintro v H' ⟨rfl, rfl⟩; exact (.inl ⟨_, _, _, _, _, _, rfl, rfl⟩))
  by_cases h9 : k = 9
  · subst h9
    exact (kind_9 n X hkl).weaken (by rintro v H' ⟨rfl, rfl⟩; exact .inr (.inr (.inl ⟨_, _, _, _, _, _, _, rfl, rfl⟩)))
  by_cases h10 : k = 10
  · subst h10
    exact (kind_10 n X hkl).weaken (by rintro v H' ⟨rfl, rfl⟩; exact .inr (.inr (.inl ⟨_, _, _, _, _, _, _, rfl, rfl⟩)))
  by_cases h11 : k = 11
  · subst h11
    exact (kind_11 n X hkl).weaken (by rintro v H' ⟨rfl, rfl⟩; exact .inr (.inr (.inl ⟨_, _, _, _, _, _, _, rfl, rfl⟩)))
  by_cases h12 : k = 12
  · subst h12
    exact (kind_12 n X hkl).weaken (by rintro v H' ⟨rfl, rfl⟩; exact .inr (.inr (.inl ⟨_, _, _, _, _, _, _, rfl, rfl⟩)))
  by_cases h13 : k = 13
  · subst h13
    exact (kind_13 _).weaken (by rintro v H' ⟨rfl, rfl⟩; exact (.inl ⟨_, _, _, _, _, _, rfl, rfl⟩))
  by_cases h14 : k = 14
  · subst h14
    exact (kind_14 _).weaken (by rintro v H' ⟨rfl, rfl⟩; exact (.inl ⟨_, _, _, _, _, _, rfl, rfl⟩))
  by_cases h15 : k = 15
  · subst h15
    exact (kind_15 _).weaken (by rintro v H' ⟨rfl, rfl⟩; exact (.inl ⟨_, _, _, _, _, _, rfl, rfl⟩))
  by_cases h16 : k = 16
  · subst h16
    exact (kind_16 _).weaken (by rintro v H' ⟨rfl, rfl⟩; exact (.inl ⟨_, _, _, _, _, _, rfl, rfl⟩))
  by_cases h17 : k = 17
  · subst h17
    exact (kind_17 _).weaken (by rintro v H' ⟨rfl, rfl⟩; exact (.inl ⟨_, _, _, _, _, _, rfl, rfl⟩))
  by_cases h18 : k = 18
  · subst h18
    exact (kind_18 _).weaken (by rintro v H' ⟨rfl, rfl⟩; exact (.inl ⟨_, _, _, _, _, _, rfl, rfl⟩))
  have hno : noKind k := by simp [noKind, *]
  refine (kind_no k hno _).weaken ?_
  rintro v H' ⟨rfl, rfl⟩
  refine .inr (.inr (.inr ⟨?_, rfl⟩))
  have e1 : usesS k = 0 := by simp [usesS, *]
  have e2 : defS k = false := by simp [defS, *]
  have e3 : endS k = false := by simp [endS, *]
  rw [e1, e2, e3]
  rfl
end Go.Proofs.Ytmbnakinhnkabaa

namespace Go.Proofs.Ytmbnakinhnkabaa
open Go.AM
set_option maxRecDepth 100000
set_option linter.unusedSimpArgs false
set_option linter.unusedVariables false
structure BlkS where
  pc : Int
  words : Int
  el : Int
  n : Nat
  f : Nat → OpS
def blkL (b : BlkS) (i : Nat) : List Seg := [.c (.int .u64 b.pc), .c (.int .i64 b.words), .c (.int .i64 b.el), .c (.slice ⟨i, 0, 0, 0⟩ false b.n)]
def blkB (b : BlkS) (i : Nat) : Blk := ⟨4, none, fun _ => blkL b i, 25, true⟩
def head1 (b : BlkS) : Bool := ((((((IntKind.u64.wrap (BitVec.ofInt IntKind.u64.bits b.pc &&& BitVec.ofInt IntKind.u64.bits 3).toNat != 0) || decide (b.words < 1)) || decide (b.words > 16)) || decide (b.el < 0)) || decide (b.el > 1)) || decide ((b.n : Int) < 1)) || decide ((b.n : Int) > 512)
def head2 (b : BlkS) : Bool := ((b.f 0).kind != 14) || ((b.f 0).imm != b.pc)
def opsOk (b : BlkS) : Nat → Bool
  | 0 => true
  | j + 1 => opsOk b j && (ropS (b.f j) j b.f && (endS (b.f j).kind == decide ((j : Int) = (b.n : Int) - 1)))
def rightS (b : BlkS) : Bool := !head1 b && !head2 b && opsOk b b.n
theorem opsOk_no {b : BlkS} : ∀ {n j : Nat}, j < n → (ropS (b.f j) j b.f && (endS (b.f j).kind == decide ((j : Int) = (b.n : Int) - 1))) = false → opsOk b n = false
  | n + 1, j, h, hb => by
    simp only [opsOk]
    by_cases hj : j = n
    · rw [← hj, hb, Bool.and_false]
    · rw [opsOk_no (n := n) (by omega) hb, Bool.false_and]
theorem con54_at (o : OpS) (N m : Nat) (f : Nat → OpS) (hm : m ≤ N) (hN : N ≤ 140737488355328) (n : Nat) (X : List (Nat × Blk)) (w : Bool) (h0 : getB X 0 = some ⟨6, some N, fun i => opL (f i), 39, w⟩) (hlt : 0 < n) (hkl : keysLt X n) : Con Try.prog 54 [.agg (opL o), .c (.slice ⟨0, 0, 0, 0⟩ false m)] ⟨n, X⟩ (fun v H' => v = .c (.bool (ropS o m f)) ∧ H' = ⟨n, X⟩) :=
  ro_gen (con54 o N m f hm hN) [0] n X rfl ⟨trivial, trivial⟩ ⟨hlt, trivial⟩ hkl (by simp only [leBlks, nthO, h0]; exact ⟨ops_le N f w, trivial⟩) (by simp only [leArgs, leV, leV1, opL, leSegs, leSeg, leC, leA, nthO, and_self]) rfl (fun _ => rfl) rfl rfl
theorem blk_le {l : List Nat} (b : BlkS) (h : nthO l 0 = some 0) : leB l ⟨4, none, fun _ => blkL b 0, 25, true⟩ (blkB b 0) := ⟨rfl, rfl, id, Nat.le_refl _, fun _ _ => by simp only [blkB, blkL, leSegs, leSeg, leC, leA, h, and_self]⟩
def rgtSt (b : BlkS) (j : Nat) : St := ⟨[⟨62, [], .c (.int .i64 j)⟩, ⟨61, [], .c (.int .i64 b.n)⟩, ⟨60, [], .c (.slice ⟨0, 0, 0, 0⟩ false b.n)⟩, ⟨3, [], .c (.int .i64 b.n)⟩, ⟨1, [], .c (.ptr ⟨1, 0, 0, 0⟩)⟩], ⟨2, [(1, blkB b 0), (0, opsB b.n b.f)]⟩⟩
def rgtC (b : BlkS) (j : Nat) : Bool := !ropS (b.f j) j b.f || !(endS (b.f j).kind == ((j : Int) == IntKind.i64.wrap ((b.n : Int) - 1)))
def rgtS2 (b : BlkS) (j : Nat) (c : Bool) : St := ⟨⟨88, [], .c (.bool c)⟩ :: (rgtSt b j).tmps, (rgtSt b j).heap⟩
def rgtMid : ACode := .seq (.region C37r8)
     (.seq (.region C37r9)
     (.seq (.region C37r10)
     (.cond (.t 88)
      (.seq (.region C37r11)
      (.ret))
      (.skip))))
set_option maxHeartbeats 8000000 in
theorem rgt_mid (c0 : Bool) (b : BlkS) (j : Nat) (hj : j < b.n) (hn : b.n ≤ 512) {Q : AEx → St → Prop} (h : runA (Con Try.prog) (LeS 1) [.cond (.t 88) (.seq (.region C37r11) .ret) .skip] (rgtS2 b j (rgtC b j)) Q) : runA (Con Try.prog) (LeS 1) [rgtMid] ⟨⟨63, [], .c (.bool c0)⟩ :: (rgtSt b j).tmps, (rgtSt b j).heap⟩ Q := by
  unfold rgtMid rgtSt
  refine run_seq ?_
  (refine run_region fun K hK => ?_; simp only [C37r8]; (repeat' (first | (refine And.intro ?_ ?_; · (first | trivial | assumption | omega | exact ⟨by omega, by omega⟩)) | (rw [rwp_cons]; (try simp (maxSteps := 10000000) only [opL, blkB, blkL, opsB, rwp_nil, aop, gpath, St.get, slotAt, sfx, eqP, St.put, addBlk, getB, setB, stn, setRow, rowNeed, nsub, shed, addN, Nat.beq, Seg.size, sizes, takeS, dropS, putS, plusA, exOk, Nat.reduceAdd, List.append_nil, List.nil_append, Int.toNat_natCast])))); all_goals ((try simp only [rwp_nil, shed]); with_reducible refine hK _ ?_; clear hK K))
  refine run_seq ?_
  (refine run_region fun K hK => ?_; simp only [C37r9]; (repeat' (first | (refine And.intro ?_ ?_; · (first | trivial | assumption | omega)) | (rw [rwp_cons]; (try simp (maxSteps := 10000000) only [rwp_nil, aop, gpath, St.get, slotAt, sfx, eqP, St.put, addBlk, getB, setB, ld1, stn, setRow, rowNeed, segAt, nsub, shed, addN, Nat.beq, Seg.size, sizes, appL, argsOf, ptrsOf, takeS, dropS, putS, nthA, exOk, Nat.reduceAdd, List.append_nil, List.nil_append])) | ((first | (refine call_t _ (kind_R _ _ _ (by simp [keysLt])) ?_; rintro v H' (⟨w, r, i, od, a, g, rfl, rfl⟩ | ⟨w, r, i, od, a, t, rfl, rfl⟩ | ⟨w, r, i, od, a, c, g, rfl, rfl⟩ | ⟨rfl, rfl⟩))) <;> (try simp (maxSteps := 10000000) only [kindV, kindL, boxW, intsW, slB, rwpK_app, St.put, Nat.reduceAdd, addBs])))); all_goals ((try simp only [rwp_nil, shed]); with_reducible refine hK _ ?_; clear hK K))
  all_goals refine run_seq ?_
  all_goals
    (refine run_regionL fun K hK => ?_; simp only [C37r10]; (repeat' (first | (refine And.intro ?_ ?_; · (first | trivial | assumption | omega | (intros; first | trivial | omega))) | (rw [rwp_cons]; (try simp (maxSteps := 10000000) only [rwp_nil, aop, gpath, St.get, slotAt, sfx, eqP, St.put, addBlk, getB, ld1, ldn, rowNeed, segAt, nsub, bin, un, eqB, isShift, sameK, arith, getsl, selB_or, beqb, shed, addN, Nat.beq, Seg.size, imp, andN, appL, argsOf, ptrsOf, cut, takeS, dropS, slcS, strOk, plusA, bndHi, leN, optG, Nat.reduceAdd, Int.toNat_natCast])) | ((first | (refine call_t _ (con54_at (b.f j) b.n j b.f (Nat.le_of_lt hj) (by omega) _ _ _ rfl (Nat.le_of_ble_eq_true rfl) (by simp [keysLt])) ?_; rintro v H' ⟨rfl, rfl⟩) | (refine call_q _ (con54_at (b.f j) b.n j b.f (Nat.le_of_lt hj) (by omega) _ _ _ rfl (Nat.le_of_ble_eq_true rfl) (by simp [roL, keysLt])) ?_) | (refine call_g _ (imp_of (con54_at (b.f j) b.n j b.f (Nat.le_of_lt hj) (by omega) _ _ _ rfl (Nat.le_of_ble_eq_true rfl) (by simp [roL, keysLt]))) ?_)) <;> (try simp (maxSteps := 10000000) only [rwpK_app, St.put])))); all_goals ((try simp only [rwp_nil, shed]); (with_reducible refine hK _ (rgtS2 b j (rgtC b j)) ?hle ?_); (case hle => exact (LeS.intro [0, 1] (fun i h => idt1' i h) (by simp only [diff, notIn, Nat.beq, and_self]) rfl (by simp only [rgtS2, rgtC, rgtSt, slotsLe, slotAt, leV, leV1, leC, leA, nthO, and_self]) ⟨blk_le b rfl, ops_le b.n b.f false, trivial⟩)); clear hK K))
    exact h
theorem con37 (b : BlkS) : Con Try.prog 37 [.agg (blkL b 0)] ⟨1, [(0, opsB b.n b.f)]⟩ (fun v H' => v = .c (.bool (rightS b)) ∧ H' = ⟨1, [(0, opsB b.n b.f)]⟩) := by
  (refine con_of_run mixed (fn := Try.f37) (by kernel_rfl) (by kernel_rfl) C37_ok (rs := [.tmp 2]) (by kernel_rfl) (Nat.le_of_ble_eq_true (by kernel_rfl)) ?_; unfold C37; simp only [initT])
  repeat' (first | refine run_seq ?_ | refine run_skip ?_ | (refine run_region fun K hK => ?_; (try (simp (maxSteps := 10000000) only [opL, blkL, opsB, C37r0, C37r1, C37r2, C37r3, C37r4, C37r5, rwp_nil, rwp_cons, aop, gpath, St.get, slotAt, sfx, eqP, segsOf, St.put, addBlk, getB, ld1, rowNeed, segAt, nsub, bin, isShift, sameK, arith, getsl, selB_or, beqb, shed, addN, Nat.beq, Seg.size, sizes, imp, strOk, plusA, Nat.reduceAdd, Int.reduceToNat])); (repeat (first | (refine And.intro ?_ ?_; · (first | trivial | assumption | (intros; simp only [Bool.or_eq_false_iff, decide_eq_false_iff_not] at *; omega))))); with_reducible refine hK _ ?_; clear hK K) | (refine run_cond rfl (fun hc => ?_) (fun hc => ?_) <;> try (simp only [*, Bool.true_eq_false, Bool.false_eq_true, Bool.not_true, Bool.not_false, Bool.true_or, Bool.or_true, Bool.false_or, Bool.or_false, Bool.false_and, Bool.and_false, bne_self_eq_false, beq_self_eq_true] at hc; done)) | refine run_block ?_ | refine run_ret ?_ | refine run_nil ?_ | refine run_exit ?_ | refine blk_normal ?_ | refine blk_ret ?_ | refine blk_here ?_ | refine blk_there rfl ?_ | refine loop_exit ?_ | refine loop_ret ?_ | refine un_exit ?_ | refine un_ret ?_ | refine unE_exit ?_ | refine unE_ret ?_ | refine un_normal ?_)
  · have e : rightS b = false := by unfold rightS; rw [show head1 b = true from hc]; rfl
    rw [e]
    exact end_ops false rfl rfl ⟨rfl, rfl⟩
  · have e : rightS b = false := by unfold rightS; rw [show head2 b = true from hc, Bool.not_true, Bool.and_false]; rfl
    rw [e]
    exact end_ops false rfl rfl ⟨rfl, rfl⟩
  rename_i hc1
  have hc2 := hc
  have h1 : head1 b = false := hc1
  have h2 : head2 b = false := hc2
  have hn : 1 ≤ b.n ∧ b.n ≤ 512 := by
    unfold head1 at h1
    simp only [Bool.or_eq_false_iff, decide_eq_false_iff_not] at h1
    omega
  clear hc1 hc2 hc
  (refine run_regionL fun K hK => ?_; (try (simp (maxSteps := 10000000) only [C37r6, rwp_nil, rwp_cons, aop, gpath, St.get, slotAt, sfx, eqP, St.put, addBlk, getB, ld1, rowNeed, segAt, nsub, shed, addN, Seg.size, Nat.reduceAdd])); (repeat (first | (refine And.intro ?_ ?_; · first | trivial | assumption | omega))); refine hK _ (rgtSt b 0) (LeS.intro [0, 1] (fun i h => idt1' i h) (by simp only [diff, notIn, Nat.beq, and_self]) rfl (by simp only [rgtSt, slotsLe, slotAt, leV, leV1, leC, leA, nthO, Int.natCast_zero, and_self]) ⟨blk_le b rfl, ops_le b.n b.f false, trivial⟩) ?_; clear hK K)
  refine run_block ?_
  refine run_loop (fun n s => ∃ j, n = b.n - j ∧ j ≤ b.n ∧ opsOk b j = true ∧ s = rgtSt b j) b.n ⟨0, rfl, Nat.zero_le _, rfl, rfl⟩ ?_
  rintro n s ⟨j, rfl, hj, hok, rfl⟩
  refine run_seq ?_
  unfold rgtSt
  (refine run_regionL fun K hK => ?_; (try (simp (maxSteps := 10000000) only [C37r7, rwp_nil, rwp_cons, aop, gpath, St.get, slotAt, sfx, eqP, St.put, addBlk, bin, isShift, sameK, arith, shed])); (repeat (first | (refine And.intro ?_ ?_; · first | trivial | assumption | omega))); refine hK _ (⟨⟨63, [], .c (.bool (decide ((j : Int) < (b.n : Int))))⟩ :: (rgtSt b j).tmps, (rgtSt b j).heap⟩) (LeS.intro [0, 1] (fun i h => idt1' i h) (by simp only [diff, notIn, Nat.beq, and_self]) rfl (by simp only [rgtSt, slotsLe, slotAt, leV, leV1, leC, leA, nthO, and_self]) ⟨blk_le b rfl, ops_le b.n b.f false, trivial⟩) ?_; clear hK K)
  refine run_seq (run_cond rfl (fun hc => ?_) (fun hc => ?_))
  · have hlt : j < b.n := by simp only [decide_eq_true_eq] at hc; omega
    have hw1 : IntKind.i64.wrap ((b.n : Int) - 1) = (b.n : Int) - 1 := by rw [IntKind.wrap_i64]; omega
    have hw : IntKind.i64.wrap ((j : Int) + 1) = ((j + 1 : Nat) : Int) := by rw [IntKind.wrap_i64]; omega
    refine run_skip (run_seq (run_block ?_))
    refine rgt_mid _ b j hlt hn.2 (run_cond rfl (fun hc' => ?_) (fun hc' => ?_))
    · unfold rgtS2 rgtSt
      repeat' (first | refine run_seq ?_ | refine run_skip ?_ | (refine run_region fun K hK => ?_; (try (simp (maxSteps := 10000000) only [C37r11, rwp_nil, rwp_cons, aop, gpath, St.get, St.put, addBlk, shed])); (repeat (first | (refine And.intro ?_ ?_; · ))); with_reducible refine hK _ ?_; clear hK K) | (refine run_cond rfl (fun hc => ?_) (fun hc => ?_) <;> try (simp only [*, Bool.true_eq_false, Bool.false_eq_true, Bool.not_true, Bool.not_false, Bool.true_or, Bool.or_true, Bool.false_or, Bool.or_false, Bool.false_and, Bool.and_false, bne_self_eq_false, beq_self_eq_true] at hc; done)) | refine run_block ?_ | refine run_ret ?_ | refine run_nil ?_ | refine run_exit ?_ | refine blk_normal ?_ | refine blk_ret ?_ | refine blk_here ?_ | refine blk_there rfl ?_ | refine loop_exit ?_ | refine loop_ret ?_ | refine un_exit ?_ | refine un_ret ?_ | refine unE_exit ?_ | refine unE_ret ?_ | refine un_normal ?_)
      have e : rightS b = false := by
        unfold rightS
        rw [opsOk_no hlt, Bool.and_false]
        unfold rgtC at hc'
        rw [hw1] at hc'
        rw [show ((j : Int) == (b.n : Int) - 1) = decide ((j : Int) = (b.n : Int) - 1) from rfl] at hc'
        rw [← Bool.not_and, Bool.not_eq_true'] at hc'
        exact hc'
      rw [e]
      exact end_ops false rfl rfl ⟨rfl, rfl⟩
    · unfold rgtS2 rgtSt
      repeat' (first | refine run_seq ?_ | refine run_skip ?_ | (refine run_region fun K hK => ?_; (try (simp (maxSteps := 10000000) only [hw, C37r12, rwp_nil, rwp_cons, aop, gpath, St.get, slotAt, sfx, eqP, St.put, addBlk, bin, isShift, sameK, arith, shed])); (repeat (first | (refine And.intro ?_ ?_; · ))); with_reducible refine hK _ ?_; clear hK K) | (refine run_cond rfl (fun hc => ?_) (fun hc => ?_) <;> try (simp only [*, Bool.true_eq_false, Bool.false_eq_true, Bool.not_true, Bool.not_false, Bool.true_or, Bool.or_true, Bool.false_or, Bool.or_false, Bool.false_and, Bool.and_false, bne_self_eq_false, beq_self_eq_true] at hc; done)) | refine run_block ?_ | refine run_ret ?_ | refine run_nil ?_ | refine run_exit ?_ | refine blk_normal ?_ | refine blk_ret ?_ | refine blk_here ?_ | refine blk_there rfl ?_ | refine loop_exit ?_ | refine loop_ret ?_ | refine un_exit ?_ | refine un_ret ?_ | refine unE_exit ?_ | refine unE_ret ?_ | refine un_normal ?_)
      refine loop_normal (b.n - (j + 1)) (rgtSt b (j + 1)) (by omega) (LeS.intro [0, 1] (fun i h => idt1' i h) (by simp only [diff, notIn, Nat.beq, and_self]) rfl (by simp only [rgtSt, slotsLe, slotAt, leV, leV1, leC, leA, nthO, and_self]) ⟨blk_le b rfl, ops_le b.n b.f false, trivial⟩) ⟨j + 1, rfl, hlt, ?_, rfl⟩
      unfold rgtC at hc'
      rw [hw1] at hc'
      rw [show ((j : Int) == (b.n : Int) - 1) = decide ((j : Int) = (b.n : Int) - 1) from rfl] at hc'
      rw [← Bool.not_and, Bool.not_eq_false'] at hc'
      unfold opsOk
      rw [hok, hc']
      rfl
  · have e : j = b.n := by simp only [decide_eq_false_iff_not] at hc; omega
    have e2 : rightS b = true := by unfold rightS; rw [h1, h2, ← e, hok]; rfl
    unfold rgtSt
    repeat' (first | refine run_seq ?_ | refine run_skip ?_ | (refine run_region fun K hK => ?_; (try (simp (maxSteps := 10000000) only [C37r13, rwp_nil, rwp_cons, aop, gpath, St.get, St.put, addBlk, shed])); (repeat (first | (refine And.intro ?_ ?_; · ))); with_reducible refine hK _ ?_; clear hK K) | (refine run_cond rfl (fun hc => ?_) (fun hc => ?_) <;> try (simp only [*, Bool.true_eq_false, Bool.false_eq_true, Bool.not_true, Bool.not_false, Bool.true_or, Bool.or_true, Bool.false_or, Bool.or_false, Bool.false_and, Bool.and_false, bne_self_eq_false, beq_self_eq_true] at hc; done)) | refine run_block ?_ | refine run_ret ?_ | refine run_nil ?_ | refine run_exit ?_ | refine blk_normal ?_ | refine blk_ret ?_ | refine blk_here ?_ | refine blk_there rfl ?_ | refine loop_exit ?_ | refine loop_ret ?_ | refine un_exit ?_ | refine un_ret ?_ | refine unE_exit ?_ | refine unE_ret ?_ | refine un_normal ?_)
    rw [e2]
    exact end_ops true rfl rfl ⟨rfl, rfl⟩
end Go.Proofs.Ytmbnakinhnkabaa

namespace Go.AM
set_option linter.unusedVariables false
set_option linter.unusedSimpArgs false
set_option linter.unusedSectionVars false
variable {P : Program} {φ : Emb} {w : World}

variable {F : Fence} [Wide F]
section
variable {ops : Array Oper} {Q : Exit → Act → World → Prop} {K : Heap} {i j b M nx : Nat} {need : Option Prop} {ψ : Emb} {a : Act} {W : World}
end

end Go.AM

namespace Go.Proofs.Ytmbnakinhnkabaa
open Go.AM
set_option maxRecDepth 100000
set_option linter.unusedSimpArgs false
set_option linter.unusedVariables false
def boolsB (n : Nat) (g : Nat → Bool) (w : Bool) : Blk := ⟨1, some n, fun i => [.c (.bool (g i))], 4, w⟩
end Go.Proofs.Ytmbnakinhnkabaa

namespace Go.Proofs.Ytmbnakinhnkabaa
open Go.AM
set_option maxRecDepth 100000
set_option linter.unusedSimpArgs false
set_option linter.unusedVariables false
end Go.Proofs.Ytmbnakinhnkabaa

namespace Go.Proofs.Ytmbnakinhnkabaa
open Go.AM
set_option maxRecDepth 100000
set_option linter.unusedSimpArgs false
set_option linter.unusedVariables false
theorem opsOk_at {b : BlkS} : ∀ {n : Nat}, opsOk b n = true → ∀ {k : Nat}, k < n → ropS (b.f k) k b.f = true ∧ endS (b.f k).kind = decide ((k : Int) = (b.n : Int) - 1)
  | n + 1, h, k, hk => by
    simp only [opsOk, Bool.and_eq_true, beq_iff_eq] at h
    by_cases e : k = n
    · subst e; exact h.2
    · exact opsOk_at h.1 (by omega)
theorem usesOk_at {o : OpS} {m : Nat} {f : Nat → OpS} : ∀ {u : Nat}, usesOk o m f u = true → ∀ {i : Nat}, i < u → 0 ≤ useF o i ∧ useF o i < m ∧ defS (f (useF o i).toNat).kind = true
  | u + 1, h, i, hi => by
    simp only [usesOk, Bool.and_eq_true] at h
    by_cases e : i = u
    · subst e
      have := h.2
      unfold useOk at this
      simp only [Bool.and_eq_true, decide_eq_true_eq] at this
      exact ⟨this.1.1, this.1.2, this.2⟩
    · exact usesOk_at h.1 (by omega)
theorem right_ops {b : BlkS} (h : rightS b = true) : opsOk b b.n = true := by
  unfold rightS at h
  simp only [Bool.and_eq_true] at h
  exact h.2
theorem right_use {b : BlkS} (h : rightS b = true) {k : Nat} (hk : k < b.n) {i : Nat} (hi : i < usesS (b.f k).kind) : 0 ≤ useF (b.f k) i ∧ useF (b.f k) i < k ∧ defS (b.f (useF (b.f k) i).toNat).kind = true := by
  have := (opsOk_at (right_ops h) hk).1
  unfold ropS at this
  simp only [Bool.and_eq_true] at this
  exact usesOk_at this.2 hi
theorem right_n {b : BlkS} (h : rightS b = true) : 1 ≤ b.n ∧ b.n ≤ 512 := by
  unfold rightS head1 at h
  simp only [Bool.and_eq_true, Bool.not_eq_true', Bool.or_eq_false_iff, decide_eq_false_iff_not] at h
  omega
theorem con37_at (b : BlkS) (i n : Nat) (X : List (Nat × Blk)) (w : Bool) (h0 : getB X i = some ⟨6, some b.n, fun i => opL (b.f i), 39, w⟩) (hlt : i < n) (hkl : keysLt X n) : Con Try.prog 37 [.agg (blkL b i)] ⟨n, X⟩ (fun v H' => v = .c (.bool (rightS b)) ∧ H' = ⟨n, X⟩) :=
  ro_gen (con37 b) [i] n X rfl ⟨trivial, trivial⟩ ⟨hlt, trivial⟩ hkl (by simp only [leBlks, nthO, h0]; exact ⟨ops_le b.n b.f w, trivial⟩) (by simp only [leArgs, leV, leV1, blkL, leSegs, leSeg, leC, leA, nthO, and_self]) rfl (fun _ => rfl) rfl rfl
def opsW (n : Nat) (f : Nat → OpS) : Blk := ⟨6, some n, fun i => opL (f i), 39, true⟩
theorem opsw_le {l : List Nat} (n : Nat) (f f' : Nat → OpS) (h : ∀ i, i < n → f i = f' i) : leB l ⟨6, some n, fun i => opL (f i), 39, true⟩ (opsW n f') := ⟨rfl, rfl, id, Nat.le_refl _, fun i hi => by have hi := hi.resolve_right (Nat.succ_ne_zero _); have e := h i hi; simp only [opsW, opL, e, leSegs, leSeg, leC, and_self]⟩
end Go.Proofs.Ytmbnakinhnkabaa

namespace Go.Proofs.Ytmbnakinhnkabaa
open Go.AM
set_option maxRecDepth 100000
set_option linter.unusedSimpArgs false
set_option linter.unusedVariables false
section
variable {f : Nat → OpS} {n : Nat} {g : Nat → Bool}
end
theorem opsOk_all {b : BlkS} : ∀ {n : Nat}, (∀ k, k < n → ropS (b.f k) k b.f = true ∧ endS (b.f k).kind = decide ((k : Int) = (b.n : Int) - 1)) → opsOk b n = true
  | 0, _ => rfl
  | n + 1, h => by
    simp only [opsOk]
    obtain ⟨h1, h2⟩ := h n (by omega)
    rw [opsOk_all (n := n) fun k hk => h k (by omega), h1, h2]
    simp
end Go.Proofs.Ytmbnakinhnkabaa

namespace Go.Proofs.Ytmbnakinhnkabaa
open Go.AM
set_option maxRecDepth 100000
set_option linter.unusedSimpArgs false
set_option linter.unusedVariables false
def zblk : Blk := ⟨4, none, fun _ => [.c (.int .u64 0), .c (.int .i64 0), .c (.int .i64 0), .c (.nils)], 25, true⟩
def hO (b0 b : BlkS) (M : Nat) (g : Nat → Bool) : List (Nat × Blk) := [(4, boolsB M g true), (3, opsW b.n b.f), (2, zblk), (1, blkB b 3), (0, opsB b0.n b0.f)]
theorem blk_le' {l : List Nat} (b : BlkS) (i j : Nat) (h : nthO l j = some i) : leB l ⟨4, none, fun _ => blkL b i, 25, true⟩ (blkB b j) := ⟨rfl, rfl, id, Nat.le_refl _, fun _ _ => by simp only [blkB, blkL, leSegs, leSeg, leC, leA, h, and_self]⟩
theorem z_le {l : List Nat} : leB l ⟨4, none, fun _ => [.c (.int .u64 0), .c (.int .i64 0), .c (.int .i64 0), .c (.nils)], 25, true⟩ zblk := ⟨rfl, rfl, id, Nat.le_refl _, fun _ _ => by simp only [zblk, leSegs, leSeg, leC, and_self]⟩
theorem idts {l : List Nat} : ∀ i, i < 1 → nthO (0 :: l) i = some i := by
  intro i h; match i, h with
  | 0, _ => rfl
def atB (n : Nat) (h : Nat → Int) : Blk := ⟨1, some n, fun i => [.c (.int .i64 (h i))], 3, true⟩
theorem at_le {l : List Nat} (n : Nat) (h h' : Nat → Int) (hh : ∀ i, i < n → h i = h' i) : leB l ⟨1, some n, fun i => [.c (.int .i64 (h i))], 3, true⟩ (atB n h') := ⟨rfl, rfl, id, Nat.le_refl _, fun i hi => ⟨⟨rfl, hh i (hi.resolve_right (Nat.succ_ne_zero _))⟩, trivial⟩⟩
end Go.Proofs.Ytmbnakinhnkabaa

namespace Go.Proofs.Ytmbnakinhnkabaa
open Go.AM
set_option maxRecDepth 100000
set_option linter.unusedSimpArgs false
set_option linter.unusedVariables false
theorem dropB_ro (i N n : Nat) (f : Nat → OpS) (X : List (Nat × Blk)) : dropB [i] [(0, opsB N f)] X = X := dropB_none (fun _ => rfl) X
def twF : Nat → OpS
  | 0 => ⟨14, 0, 0, 0, 0, 64⟩
  | 1 => ⟨1, 0, 0, 0, 0, 1⟩
  | 2 => ⟨3, 0, 1, 0, 0, 0⟩
  | 3 => ⟨1, 0, 0, 0, 0, 2⟩
  | 4 => ⟨3, 0, 3, 0, 0, 0⟩
  | _ => ⟨16, 0, 0, 0, 0, 68⟩
def tw : BlkS := ⟨64, 1, 1, 6, twF⟩
end Go.Proofs.Ytmbnakinhnkabaa

namespace Go.Proofs.Ytmbnakinhnkabaa
open Go.AM
set_option maxRecDepth 100000
set_option linter.unusedSimpArgs false
set_option linter.unusedVariables false
end Go.Proofs.Ytmbnakinhnkabaa

namespace Go.Proofs.Ytmbnakinhnkabaa
open Go.AM
set_option maxRecDepth 100000
set_option linter.unusedSimpArgs false
set_option linter.unusedVariables false
end Go.Proofs.Ytmbnakinhnkabaa

namespace Go.AM
open Go.WideShapes Go.ChangeShapes Go.RowKit
set_option linter.unusedVariables false
set_option linter.unusedSimpArgs false

inductive CK where
  | bool
  | int (k : IntKind)
  | slice (e : TypeId)

def okK (P : Program) (w : World) (T : TypeId → List Value → Prop) : CK → Value → Prop
  | .bool, x => ∃ b, x = .bool b
  | .int k, x => ∃ n, x = .int k n ∧ (Lit.int k n).wf = true
  | .slice e, x => x = .slice none 0 0 ∨ ∃ a len cap, x = .slice (some a) len cap ∧ len ≤ cap ∧ cap ≤ maxLen ∧ ∀ i, i < len → ∃ cs, w.cells? 0 (a.add (i * P.cellsOf e)) (P.cellsOf e) = some cs ∧ T e cs

def kindsF (g : TypeId → Option (List CK)) : List Field → Option (List CK)
  | [] => some []
  | f :: fs => match g f.type, kindsF g fs with
    | some a, some b => some (a ++ b)
    | _, _ => none
def repK : Nat → List CK → List CK
  | 0, _ => []
  | n + 1, l => l ++ repK n l
def kindsT (P : Program) : Nat → TypeId → Option (List CK)
  | 0, _ => none
  | d + 1, t =>
    match P.underlying t with
    | some .bool => some [.bool]
    | some (.int k) => some [.int k]
    | some (.slice e) => some [.slice e]
    | some (.struct fs) => if P.consecB fs.toList 0 (P.cellsOf t) = true then kindsF (kindsT P d) fs.toList else none
    | some (.array n e) => if P.cellsOf t = n * P.cellsOf e then (match kindsT P d e with | some l => some (repK n l) | none => none) else none
    | _ => none

section
variable {P : Program} {w : World} {T : TypeId → List Value → Prop}

theorem kindsF_ok {g : TypeId → Option (List CK)} {T' : TypeId → List Value → Prop} (IH : ∀ t K cs, g t = some K → T' t cs → F2 (okK P w T) K cs) (cs : List Value) :
    ∀ (fs : List Field) (off : Nat) (K : List CK), P.consecB fs off cs.length = true → kindsF g fs = some K → (∀ (i : Nat) (f : Field), fs[i]? = some f → T' f.type ((cs.drop f.offset).take (P.cellsOf f.type))) → F2 (okK P w T) K (cs.drop off)
  | [], off, K, hc, hK, _ => by
    simp only [Program.consecB, beq_iff_eq] at hc
    simp only [kindsF, Option.some.injEq] at hK
    subst hK
    have h0 : cs.drop off = [] := List.drop_eq_nil_iff.2 (by omega)
    rw [h0]
    exact .nil
  | f :: fs, off, K, hc, hK, hT => by
    simp only [Program.consecB, Bool.and_eq_true, beq_iff_eq] at hc
    obtain ⟨hoff, hc⟩ := hc
    simp only [kindsF] at hK
    cases ha : g f.type with
    | none => simp [ha] at hK
    | some a =>
      cases hb : kindsF g fs with
      | none => simp [ha, hb] at hK
      | some b =>
        simp only [ha, hb, Option.some.injEq] at hK
        subst hK
        have h1 := IH _ _ _ ha (hT 0 f rfl)
        have h2 := kindsF_ok IH cs fs (off + P.cellsOf f.type) b hc hb (fun i f' hf => hT (i + 1) f' hf)
        have h3 := h1.append h2
        rw [hoff, take_drop_step] at h3
        exact h3

theorem repK_ok {l : List CK} (c : Nat) (cs : List Value) :
    ∀ (n s : Nat), cs.length = (s + n) * c → (∀ i, s ≤ i → i < s + n → F2 (okK P w T) l ((cs.drop (i * c)).take c)) → F2 (okK P w T) (repK n l) (cs.drop (s * c))
  | 0, s, hl, _ => by
    have h0 : cs.drop (s * c) = [] := List.drop_eq_nil_iff.2 (by simp at hl; omega)
    rw [h0]
    exact .nil
  | n + 1, s, hl, h => by
    have h1 := h s (Nat.le_refl _) (by omega)
    have h2 := repK_ok c cs n (s + 1) (by rw [hl]; congr 1; omega) (fun i hi hj => h i (by omega) (by omega))
    have h3 := h1.append h2
    rw [Nat.add_mul, Nat.one_mul, take_drop_step] at h3
    exact h3
end

section
variable {H : Type} {enc : TypeId × Value → H} {P : Program} {w : World} {spare : Nat → Bool} {held : Bool}

def Tr (enc : TypeId × Value → H) (P : Program) (w : World) (spare : Nat → Bool) (held : Bool) : TypeId → List Value → Prop := fun t cs => ∃ m y, DataW.trod enc P w 0 spare held m t cs = some y

theorem kinds_ok : ∀ (d : Nat) (t : TypeId) (K : List CK) (cs : List Value), kindsT P d t = some K → Tr enc P w spare held t cs → F2 (okK P w (Tr enc P w spare held)) K cs
  | 0, _, _, _, hK, _ => by simp [kindsT] at hK
  | d + 1, t, K, cs, hK, ⟨m, y, h⟩ => by
    unfold kindsT at hK
    cases ht : P.underlying t with
    | none => simp [ht] at hK
    | some desc =>
      simp only [ht] at hK
      cases desc
      case bool =>
        simp only [Option.some.injEq] at hK
        subst hK
        obtain ⟨b, rfl, _⟩ := DataW.trod_bool ht h
        exact .cons ⟨b, rfl⟩ .nil
      case int k =>
        simp only [Option.some.injEq] at hK
        subst hK
        obtain ⟨n, rfl, _, hw⟩ := DataW.trod_int ht h
        exact .cons ⟨n, rfl, hw⟩ .nil
      case slice e =>
        simp only [Option.some.injEq] at hK
        subst hK
        rcases DataW.trod_slice ht h with ⟨rfl, _⟩ | ⟨a, len, cap, elems, rest, n, _, rfl, _, _, hl, hc, hel, hi, _, _⟩
        · exact .cons (.inl rfl) .nil
        · refine .cons (.inr ⟨a, len, cap, rfl, hl, hc, fun i hlt => ?_⟩) .nil
          have h1 := hi i hlt
          obtain ⟨z, hz⟩ : ∃ z, elems[i]? = some z := ⟨_, List.getElem?_eq_getElem (by omega)⟩
          rw [hz, Option.bind_eq_some_iff] at h1
          obtain ⟨cs, hcs, hd⟩ := h1
          exact ⟨cs, hcs, n, z, hd⟩
      case struct fs =>
        simp only at hK
        split at hK
        · rename_i hcons
          obtain ⟨xs, n, _, _, hl, hxl, hf⟩ := DataW.trod_struct ht h
          rw [← hl] at hcons
          have h2 := kindsF_ok (T := Tr enc P w spare held) (T' := Tr enc P w spare held) (fun t K cs a b => kinds_ok d t K cs a b) cs fs.toList 0 K hcons hK (fun i f hfi => by
            have hfi' : fs[i]? = some f := by simpa using hfi
            have hlt : i < fs.size := by
              rcases Nat.lt_or_ge i fs.size with h | h
              · exact h
              · rw [Array.getElem?_eq_none h] at hfi'; cases hfi'
            exact ⟨n, xs[i]'(by omega), (hf i f hfi').trans (List.getElem?_eq_getElem (by omega))⟩)
          simpa using h2
        · cases hK
      case array n e =>
        simp only at hK
        split at hK
        · rename_i hcn
          cases hl : kindsT P d e with
          | none => simp [hl] at hK
          | some l =>
            simp only [hl, Option.some.injEq] at hK
            subst hK
            obtain ⟨xs, m', _, _, hlen, hxl, hf⟩ := DataW.trod_array ht h
            have h2 := repK_ok (P := P) (w := w) (T := Tr enc P w spare held) (l := l) (P.cellsOf e) cs n 0 (by rw [hlen, hcn]; simp) (fun i _ hi =>
              kinds_ok d e l _ hl ⟨m', xs[i]'(by omega), (hf i (by omega)).trans (List.getElem?_eq_getElem (by omega))⟩)
            simpa using h2
        · cases hK
      all_goals simp at hK
end

def boolAt (cs : List Value) (i : Nat) : Bool := match cs[i]? with | some (.bool b) => b | _ => false
def intAt (cs : List Value) (i : Nat) : Int := match cs[i]? with | some (.int _ n) => n | _ => 0
def lenV : Value → Nat
  | .slice _ n _ => n
  | _ => 0
def lenAt (cs : List Value) (i : Nat) : Nat := match cs[i]? with | some x => lenV x | none => 0
def valAt (cs : List Value) (i : Nat) : Value := match cs[i]? with | some x => x | none => .nilFunc

def gen (id : Nat) (cs : List Value) : List CK → Nat → List CV
  | [], _ => []
  | .bool :: K, o => .bool (boolAt cs o) :: gen id cs K (o + 1)
  | .int k :: K, o => .int k (intAt cs o) :: gen id cs K (o + 1)
  | .slice _ :: K, o => .slice ⟨id, 0, 0, 0⟩ false (lenAt cs o) :: gen id cs K (o + 1)

theorem drop_head {cs : List Value} {o : Nat} {x : Value} {r : List Value} (h : cs.drop o = x :: r) : cs[o]? = some x ∧ cs.drop (o + 1) = r := by
  constructor
  · have := congrArg (fun l => l[0]?) h
    simpa using this
  · have := congrArg List.tail h
    simpa using this

theorem gen_rel {P : Program} {w : World} {T : TypeId → List Value → Prop} {φ : Emb} {id : Nat} {cs : List Value} (hs : ∀ (j : Nat) (e : TypeId) (x : Value), cs[j]? = some x → okK P w T (.slice e) x → rel φ (.slice ⟨id, 0, 0, 0⟩ false (lenV x)) x) :
    ∀ (K : List CK) (o : Nat), F2 (okK P w T) K (cs.drop o) → F2 (rel φ) (gen id cs K o) (cs.drop o)
  | [], o, h => by rw [h.nil_left]; exact .nil
  | k :: K, o, h => by
    obtain ⟨x, r, e, hx, hr⟩ := h.cons_left
    obtain ⟨h0, h1⟩ := drop_head e
    rw [← h1] at hr
    have h2 := gen_rel hs K (o + 1) hr
    rw [h1] at h2
    rw [e]
    cases k with
    | bool => obtain ⟨b, rfl⟩ := hx; exact .cons (by simp [boolAt, h0, rel]) h2
    | int k => obtain ⟨n, rfl, _⟩ := hx; exact .cons (by simp [intAt, h0, rel]) h2
    | slice t => exact .cons (by simp only [lenAt, h0]; exact hs o t x h0 hx) h2

def noSl : List CK → Bool
  | [] => true
  | .slice _ :: _ => false
  | _ :: K => noSl K
theorem noSl_rel {P : Program} {w : World} {T : TypeId → List Value → Prop} {φ : Emb} {id : Nat} {cs : List Value} :
    ∀ (K : List CK) (o : Nat), noSl K = true → F2 (okK P w T) K (cs.drop o) → F2 (rel φ) (gen id cs K o) (cs.drop o)
  | [], o, _, h => by rw [h.nil_left]; exact .nil
  | k :: K, o, hn, h => by
    obtain ⟨x, r, e, hx, hr⟩ := h.cons_left
    obtain ⟨h0, h1⟩ := drop_head e
    rw [← h1] at hr
    cases k with
    | bool =>
      have h2 := noSl_rel (φ := φ) (id := id) K (o + 1) hn hr
      rw [h1] at h2; rw [e]
      obtain ⟨b, rfl⟩ := hx; exact .cons (by simp [boolAt, h0, rel]) h2
    | int k =>
      have h2 := noSl_rel (φ := φ) (id := id) K (o + 1) hn hr
      rw [h1] at h2; rw [e]
      obtain ⟨n, rfl, _⟩ := hx; exact .cons (by simp [intAt, h0, rel]) h2
    | slice t => cases hn

theorem int_wf {P : Program} {w : World} {T : TypeId → List Value → Prop} {K : List CK} {cs : List Value} (h : F2 (okK P w T) K cs) {i : Nat} {k : IntKind} (hk : K[i]? = some (.int k)) : (Lit.int k (intAt cs i)).wf = true := by
  obtain ⟨x, hx, n, rfl, hw⟩ := h.get hk
  simp only [intAt, hx]
  exact hw

def placeOf (x : Value) (str : Nat) : Option Place := match x with | .slice (some a) _ cap => some ⟨a.block, a.off, str, cap⟩ | _ => none
def rowsOf (w : World) (x : Value) (c i : Nat) : List Value := match x with | .slice (some a) _ _ => (match w.cells? 0 (a.add (i * c)) c with | some cs => cs | none => []) | _ => []

theorem has_spot {P : Program} {w : World} {r : Reach} {b : Nat} {a : Addr} {e : TypeId} {n : Nat} (h : w.has P r b a e n) : a.spot = none ∧ a.block < w.heap.size := by
  obtain ⟨_, hs, row, cells, hsh, _⟩ := h
  refine ⟨hs, ?_⟩
  unfold World.shape? at hsh
  rcases Nat.lt_or_ge a.block w.heap.size with h | h
  · exact h
  · rw [Array.getElem?_eq_none h] at hsh
    cases hsh

theorem spot_cell {P : Program} {w : World} {r : Reach} {b : Nat} {u : TypeId} {a : Addr} {len cap : Nat} (h : Cell.okWide P w r b u (.slice (some a) len cap)) : a.spot = none ∧ a.block < w.heap.size := by
  unfold Cell.okWide at h
  cases hu : P.underlying u with
  | none => simp [hu, Cell.ok] at h
  | some desc =>
    cases desc <;> simp [hu, Cell.ok] at h
    exact has_spot h.2.2

theorem spot_agg {P : Program} {w : World} {r : Reach} {b : Nat} {t : TypeId} {fs : Array Field} {cs : Array Value} (ht : P.underlying t = some (.struct fs)) (h : Value.okWide P w r b t (.agg cs)) {i : Nat} {a : Addr} {len cap : Nat} (hi : cs.toList[i]? = some (.slice (some a) len cap)) :
    a.spot = none ∧ a.block < w.heap.size := by
  unfold Value.okWide at h
  simp only [ht] at h
  obtain ⟨cs', he, _, ts, _, _, hr⟩ := h
  cases he
  obtain ⟨u, _, hu⟩ := hr i _ (by simpa using hi)
  exact spot_cell hu

theorem spot_slice {P : Program} {w : World} {r : Reach} {b : Nat} {t e : TypeId} (ht : P.underlying t = some (.slice e)) {a : Addr} {len cap : Nat} (h : Value.okWide P w r b t (.slice (some a) len cap)) : a.spot = none ∧ a.block < w.heap.size := by
  unfold Value.okWide at h
  simp only [ht] at h
  exact spot_cell h

theorem rel_slice {P : Program} {w : World} {T : TypeId → List Value → Prop} {φ : Emb} {id str : Nat} {e : TypeId} {x : Value} (hx : okK P w T (.slice e) x) (hs : ∀ a len cap, x = .slice (some a) len cap → a.spot = none) (hφ : φ id = placeOf x str) :
    rel φ (.slice ⟨id, 0, 0, 0⟩ false (lenV x)) x := by
  rcases hx with rfl | ⟨a, len, cap, rfl, hl, hc, _⟩
  · exact ⟨none, 0, rfl, Nat.le_refl _, .inl ⟨rfl, rfl, .inl rfl⟩⟩
  · refine ⟨some a, cap, rfl, hl, .inr ⟨_, hφ, ?_, fun _ => ⟨rfl, rfl, by simp⟩⟩⟩
    have h1 := hs a len cap rfl
    cases a
    simp only at h1
    subst h1
    simp [Place.at]

theorem brel_slice {P : Program} {w : World} {T : TypeId → List Value → Prop} {φ : Emb} {id c n : Nat} {e te : TypeId} {x : Value} {K : List CK} {row : Nat → List Seg} {p : Place} (hx : okK P w T (.slice e) x) (hs : ∀ a len cap, x = .slice (some a) len cap → a.spot = none) (hc : P.cellsOf e = c)
    (hK : ∀ cs, T e cs → F2 (okK P w T) K cs) (hno : noSl K = true) (hrow : ∀ i, flat (row i) = gen id (rowsOf w x c i) K 0) (hn : n = lenV x) (hp : placeOf x c = some p) : BRel φ ⟨c, some n, row, te, false⟩ p w := by
  rcases hx with rfl | ⟨a, len, cap, rfl, hl, hcap, hi⟩
  · cases hp
  · have h1 := hs a len cap rfl
    obtain ⟨bk, off, sp⟩ := a
    simp only at h1
    subst h1
    simp only [placeOf, Option.some.injEq] at hp
    subst hp
    refine ⟨rfl, fun i hlt => ?_, fun h => by cases h⟩
    have hlt' : i < len := by subst hn; exact hlt
    obtain ⟨cs, hcs, hT⟩ := hi i hlt'
    rw [hc] at hcs
    obtain ⟨_, hlen, hcell⟩ := World.cells?_some hcs
    refine ⟨cs, ?_, hlen, fun j y hy => ?_⟩
    · rw [hrow i]
      have hr : rowsOf w (.slice (some ⟨bk, off, none⟩) len cap) c i = cs := by simp only [rowsOf, hcs]
      rw [hr]
      have := noSl_rel (φ := φ) (id := id) K 0 hno (by simpa using hK cs hT)
      simpa using this
    · have hj : j < c := by
        rcases Nat.lt_or_ge j cs.length with h | h
        · omega
        · rw [List.getElem?_eq_none h] at hy; cases hy
      have := hcell j hj
      rw [hy, add_plain, add_plain] at this
      rw [← this, Nat.mul_comm]

theorem place_lt {x : Value} {str : Nat} {w : World} {p : Place} (hs : ∀ a len cap, x = .slice (some a) len cap → a.block < w.heap.size) (hp : placeOf x str = some p) : p.blk < w.heap.size := by
  unfold placeOf at hp
  split at hp
  · cases hp; exact hs _ _ _ rfl
  · cases hp

theorem Fr.below {φ ψ : Emb} {H K : Heap} {w v : World} (h : Fr φ H w ψ K v) (hno : ∀ i B, getB H.blks i = some B → B.wr = false) : Below w.heap.size w v :=
  ⟨h.os, h.tape, h.output, h.size, fun k hk => h.old k hk (fun i B p h1 h2 _ => by rw [hno i B h1] at h2; cases h2)⟩

section
variable {H : Type} {enc : TypeId × Value → H} {P : Program}
theorem post_of_old {f : Func} {s : ChangeSpec} {apart fresh handsOn again : Bool} {W W' : World} {args : Array Value} {v : Value} {ds gs : List (DataW H)} {before pa pv : List MemPlace}
    (hW : DataW.Whole enc P f.params.toList s.vars apart W args.toList ds gs before)
    (hres : ∀ (b : Nat) (sp : Nat → Bool) (hd : Bool), DataW.TrodAll enc P W' b sp hd f.resultTypes.toList (v.resultList f.resultTypes.size) (s.fn H (ds ++ gs)).results [])
    (hargs : ∀ sp : Nat → Bool, (∀ p ∈ before, sp p.block = true) → DataW.TrodAll enc P W' 0 sp true f.params.toList args.toList (s.fn H (ds ++ gs)).args pa)
    (hvars : ∀ sp : Nat → Bool, (∀ p ∈ before, sp p.block = true) → DataW.TrodVars enc P W' sp s.vars (s.fn H (ds ++ gs)).vars pv)
    (hps : before = pa ++ pv) (hb : Below W.heap.size W W')
    (hok : ∀ (j : Nat) (t : TypeId) (r : Value), f.resultTypes[j]? = some t → (v.resultList f.resultTypes.size)[j]? = some r → Value.okWide P W' .any 0 t r) :
    s.post enc P f apart fresh handsOn again W args v W' := by
  have hlt : ∀ p ∈ before, p.block < W.heap.size := fun p hp => hW.lt p hp
  have hold : ∀ p ∈ before, (fun b => decide (b < W.heap.size)) p.block = true := fun p hp => by simpa using hlt p hp
  refine ⟨ds, gs, before, [], pa, pv, hW, hres _ _ _, hargs _ hold, hvars _ hold, World.keptBut_mono (fun p hp => ⟨hp, ?_⟩) (hb.frame (· ∈ before)), fun _ => ?_⟩
  · rw [hps, List.mem_append] at hp
    exact Or.inr hp
  · obtain ⟨_, _, _, _, _, hz, hn⟩ := hW
    refine ⟨hok, _, _, ([] ++ pa) ++ pv, ⟨[] ++ pa, pv, trodAll_append (hargs _ (fun _ _ => rfl)) (hres _ _ _), hvars _ (fun _ _ => rfl), rfl, ?_, ?_⟩, ?_⟩
    · intro b off hp
      have hin : MemPlace.cell b off ∈ before := by rw [hps]; simpa using hp
      rw [hb.frozen (hlt _ hin)]
      exact hz b off hin
    · intro ha
      have := hn ha
      rw [hps] at this
      simpa using this
    · intro p hp _
      rw [hps]
      simpa using hp
end
end Go.AM

namespace Go.Proofs.Ytmbnakinhnkabaa
open Go.AM Go.ChangeShapes Go.WideShapes Go.ChangeAt Go.RowKit
set_option maxRecDepth 100000
set_option linter.unusedSimpArgs false
set_option linter.unusedVariables false
theorem own19 : ownKnob Try.prog.godebug = none := by kernel_rfl
theorem laidOut19 : laidOutB Try.prog = true := by kernel_rfl
def kBlk : List CK := [.int .u64, .int .i64, .int .i64, .slice 39]
def kOp : List CK := [.int .i64, .int .i64, .int .i64, .int .i64, .int .i64, .int .u64]
theorem kBlk_ok : kindsT Try.prog 5 25 = some kBlk := by kernel_rfl
theorem kOp_ok : kindsT Try.prog 5 39 = some kOp := by kernel_rfl
theorem cells39 : Try.prog.cellsOf 39 = 6 := by kernel_rfl
def opOf (cs : List Value) : OpS := ⟨intAt cs 0, intAt cs 1, intAt cs 2, intAt cs 3, intAt cs 4, intAt cs 5⟩
def blkOf (w : World) (cs : List Value) : BlkS := ⟨intAt cs 0, intAt cs 1, intAt cs 2, lenAt cs 3, fun i => opOf (rowsOf w (valAt cs 3) 6 i)⟩
theorem op_gen (cs : List Value) : flat (opL (opOf cs)) = gen 0 cs kOp 0 := rfl
theorem blk_gen (w : World) (cs : List Value) : flat (blkL (blkOf w cs) 0) = gen 0 cs kBlk 0 := rfl
structure OpWf (o : OpS) : Prop where
  kind : -9223372036854775808 ≤ o.kind ∧ o.kind ≤ 9223372036854775807
  r : -9223372036854775808 ≤ o.r ∧ o.r ≤ 9223372036854775807
  a : -9223372036854775808 ≤ o.a ∧ o.a ≤ 9223372036854775807
  b : -9223372036854775808 ≤ o.b ∧ o.b ≤ 9223372036854775807
  order : -9223372036854775808 ≤ o.order ∧ o.order ≤ 9223372036854775807
  imm : 0 ≤ o.imm ∧ o.imm ≤ 18446744073709551615
structure BlkWf (b : BlkS) : Prop where
  pc : 0 ≤ b.pc ∧ b.pc ≤ 18446744073709551615
  words : -9223372036854775808 ≤ b.words ∧ b.words ≤ 9223372036854775807
  el : -9223372036854775808 ≤ b.el ∧ b.el ≤ 9223372036854775807
  ops : ∀ i, i < b.n → OpWf (b.f i)
theorem wf_i64 {n : Int} (h : (Lit.int .i64 n).wf = true) : -9223372036854775808 ≤ n ∧ n ≤ 9223372036854775807 := by
  simp only [Lit.wf, Bool.and_eq_true, decide_eq_true_eq] at h
  exact ⟨h.1, h.2⟩
theorem wf_u64 {n : Int} (h : (Lit.int .u64 n).wf = true) : 0 ≤ n ∧ n ≤ 18446744073709551615 := by
  simp only [Lit.wf, Bool.and_eq_true, decide_eq_true_eq] at h
  exact ⟨h.1, h.2⟩
theorem blk_arg2 {H : Type} {enc : TypeId × Value → H} {W : World} {v0 : Value} {d0 : DataW H} {p0 : List MemPlace}
    (o0 : Value.okWide Try.prog W .any 0 25 v0) (h0 : DataW.Trod enc Try.prog W 0 (fun _ => true) true 25 v0 d0 p0) :
    ∃ (b : BlkS) (q : Option AM.Place), BlkWf b ∧ (∀ φ : Emb, φ 0 = q → relA φ (.agg (blkL b 0)) v0) ∧ (∀ (φ : Emb) (p : AM.Place), q = some p → BRel φ (opsB b.n b.f) p W) ∧ (∀ p : AM.Place, q = some p → p.blk < W.heap.size) ∧ ∀ cs, v0 = .agg cs → b.n = lenAt cs.toList 3 := by
  obtain ⟨cs0, rfl, _⟩ := okWide_struct Try.underlying25 o0
  obtain ⟨f0, h0⟩ := h0
  have q0 := kinds_ok (spare := fun _ => true) (held := true) 5 25 kBlk cs0.toList kBlk_ok ⟨f0, _, h0⟩
  obtain ⟨x0, hx0, k0⟩ := q0.get (i := 3) (a := .slice 39) rfl
  have hv0 : valAt cs0.toList 3 = x0 := by simp only [valAt, hx0]
  have hl0 : lenAt cs0.toList 3 = lenV x0 := by simp only [lenAt, hx0]
  have s0 : ∀ a len cap, x0 = .slice (some a) len cap → a.spot = none ∧ a.block < W.heap.size := fun a len cap e => spot_agg Try.underlying25 o0 (i := 3) (by rw [← e]; exact hx0)
  refine ⟨blkOf W cs0.toList, placeOf x0 6, ⟨?_, ?_, ?_, fun i hi => ?_⟩, fun φ hφ => ⟨cs0, rfl, ?_⟩, fun φ p hp => ?_, fun p hp => place_lt (fun a len cap e => (s0 a len cap e).2) hp, fun cs e => by cases e; rfl⟩
  · exact wf_u64 (int_wf q0 (i := 0) (k := .u64) rfl)
  · exact wf_i64 (int_wf q0 (i := 1) (k := .i64) rfl)
  · exact wf_i64 (int_wf q0 (i := 2) (k := .i64) rfl)
  · have hi' : i < lenV x0 := by rw [← hl0]; exact hi
    show OpWf (opOf (rowsOf W (valAt cs0.toList 3) 6 i))
    rw [hv0]
    rcases k0 with rfl | ⟨a, len, cap, rfl, _, _, hrow⟩
    · exact absurd hi' (Nat.not_lt_zero _)
    · obtain ⟨cs, hcs, hT⟩ := hrow i hi'
      rw [cells39] at hcs
      have hr : rowsOf W (.slice (some a) len cap) 6 i = cs := by simp only [rowsOf, hcs]
      rw [hr]
      have hk := kinds_ok 5 39 kOp cs kOp_ok hT
      exact ⟨wf_i64 (int_wf hk (i := 0) (k := .i64) rfl), wf_i64 (int_wf hk (i := 1) (k := .i64) rfl), wf_i64 (int_wf hk (i := 2) (k := .i64) rfl), wf_i64 (int_wf hk (i := 3) (k := .i64) rfl), wf_i64 (int_wf hk (i := 4) (k := .i64) rfl), wf_u64 (int_wf hk (i := 5) (k := .u64) rfl)⟩
  · rw [blk_gen]
    refine gen_rel (φ := φ) (T := Tr enc Try.prog W (fun _ => true) true) ?_ kBlk 0 (by simpa using q0)
    intro j e x hj hx
    refine rel_slice hx (fun a len cap e => ?_) (str := 6) ?_
    · subst e
      exact (spot_agg Try.underlying25 o0 hj).1
    · obtain ⟨ck, hck, hck'⟩ : ∃ ck, kBlk[j]? = some ck ∧ okK Try.prog W (Tr enc Try.prog W (fun _ => true) true) ck x := by
        have hlt : j < kBlk.length := by
          rw [q0.length]
          rcases Nat.lt_or_ge j cs0.toList.length with h | h
          · exact h
          · rw [List.getElem?_eq_none h] at hj; cases hj
        obtain ⟨y, hy, hyk⟩ := q0.get (List.getElem?_eq_getElem hlt)
        rw [hj] at hy
        cases hy
        exact ⟨_, List.getElem?_eq_getElem hlt, hyk⟩
      have isS : ∃ r n c, x = .slice r n c := by
        rcases hx with rfl | ⟨a, len, cap, rfl, _⟩ <;> exact ⟨_, _, _, rfl⟩
      obtain ⟨r, n, c, rfl⟩ := isS
      match j, hck with
      | 0, hck => cases hck; obtain ⟨_, e, _⟩ := hck'; cases e
      | 1, hck => cases hck; obtain ⟨_, e, _⟩ := hck'; cases e
      | 2, hck => cases hck; obtain ⟨_, e, _⟩ := hck'; cases e
      | 3, hck =>
        rw [hj] at hx0
        cases hx0
        exact hφ
      | j + 4, hck => cases hck
  · exact brel_slice (φ := φ) (id := 0) k0 (fun a len cap e => (s0 a len cap e).1) cells39 (fun cs hT => kinds_ok 5 39 kOp cs kOp_ok hT) rfl (fun i => by rw [← hv0]; exact op_gen _) hl0 hp
def zeros : List CK → List Value
  | [] => []
  | .bool :: K => .bool false :: zeros K
  | .int k :: K => .int k 0 :: zeros K
  | .slice _ :: K => .slice none 0 0 :: zeros K
end Go.Proofs.Ytmbnakinhnkabaa

namespace Go.Proofs.Ytmbnakinhnkabaa
open Go.AM Go.ChangeShapes Go.WideShapes Go.ChangeAt Go.RowKit
set_option maxRecDepth 100000
set_option linter.unusedSimpArgs false
set_option linter.unusedVariables false
theorem size39 : Try.prog.bytesOf 39 = 48 := by kernel_rfl
theorem blk_size {H : Type} {enc : TypeId × Value → H} {W : World} {cs : Array Value} {d : DataW H} {p : List MemPlace} {ts : List TypeId} {ds : List (DataW H)} (hwt : (DataW.weightsEach Try.prog (25 :: ts) (d :: ds)).all (· ≤ reachBytes) = true)
    (h : DataW.Trod enc Try.prog W 0 (fun _ => true) true 25 (.agg cs) d p) : lenAt cs.toList 3 * 48 ≤ 140737488351232 := by
  obtain ⟨f, h⟩ := h
  obtain ⟨xs, n, _, hx, hl, hxl, hf⟩ := DataW.trod_struct Try.underlying25 h
  have hxl5 : xs.length = 4 := hxl
  have h4 := hf 3 _ rfl
  have hx4 : xs[3]? = some (xs[3]'(by omega)) := List.getElem?_eq_getElem (by omega)
  have hd : d = .agg (xs.map (·.1)) := congrArg (·.1) hx
  have hc5 : cs.toList.length = 4 := by
    have : Try.prog.cellsOf 25 = 4 := by kernel_rfl
    have h5 := hl
    rw [this] at h5
    simpa [Value.cells] using h5
  have hcs : cs.toList[3]? = some (cs.toList[3]'(by omega)) := List.getElem?_eq_getElem (by omega)
  have htake : ((cs.toList.drop 3).take 1) = [cs.toList[3]'(by omega)] := by
    rw [List.drop_eq_getElem_cons (by omega)]
    rfl
  have hcell : Try.prog.cellsOf 23 = 1 := by kernel_rfl
  have h4' : DataW.trod enc Try.prog W 0 (fun _ => true) true n 23 [cs.toList[3]'(by omega)] = some (xs[3]'(by omega)) := by
    rw [← hx4, ← h4, ← htake]
    show _ = DataW.trod enc Try.prog W 0 (fun _ => true) true n 23 ((cs.toList.drop 3).take (Try.prog.cellsOf 23))
    rw [hcell]
  have hlen : lenAt cs.toList 3 = lenV (cs.toList[3]'(by omega)) := by simp only [lenAt, hcs]
  rw [hlen]
  rcases DataW.trod_slice Try.underlying23 h4' with ⟨e, _⟩ | ⟨a, len, cap, elems, rest, m, _, e, ex, _, _, _, hel, _⟩
  · rw [List.cons.inj e |>.1]; show 0 * 48 ≤ _; omega
  · rw [List.cons.inj e |>.1]
    show len * 48 ≤ _
    have hm : (elems.map (·.1)).length + (rest.map (·.1)).length * 1 = elems.length + rest.length := by simp
    have hw : ((elems.map (·.1)).length + (rest.map (·.1)).length) * Try.prog.bytesOf 39 ∈ DataW.weightsEach Try.prog (25 :: ts) (d :: ds) := by
      refine DataW.weights_mem_each (j := 0) rfl rfl _ ?_
      rw [hd]
      simp only [DataW.weights, Try.underlying25]
      refine DataW.weights_mem_each (j := 3) (t := 23) (d := (xs[3]'(by omega)).1) rfl (by rw [List.getElem?_map, hx4]; rfl) _ ?_
      rw [ex]
      simp only [DataW.weights, Try.underlying23, List.mem_cons, true_or]
    have := of_decide_eq_true (List.all_eq_true.1 hwt _ hw)
    rw [size39, List.length_map, List.length_map] at this
    simp only [reachBytes] at this
    omega
end Go.Proofs.Ytmbnakinhnkabaa

