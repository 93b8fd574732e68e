/- AM: code and functions. -/
import Derived.Test.YteikpddilabppaaGreatRAm16
import Derived.Deep.LoopGhost
namespace Go.AM
set_option linter.unusedVariables false
set_option linter.unusedSimpArgs false
variable {P : Program} {φ : Emb} {w : World}

/-- The second state says no more than the first one; ids below n stay. -/
def LeS (n : Nat) : LeT := fun s s' => ∀ φ₀ H₀ w₀ N φ a w, H₀.next ≤ n → (∀ i, H₀.next ≤ i → φ₀ i = none) → Inv φ₀ H₀ w₀ N φ s a w [] → ∃ φ', Inv φ₀ H₀ w₀ N φ' s' a w []

theorem slotAt_shed : ∀ (l : List Slot) (n : Nat) (sl : Slot), slotAt (shed l) n = some sl → sl.path = [] ∧ (sl.v = .bot ∨ slotAt l n = some sl)
  | [], n, sl, h => by simp [shed, slotAt] at h
  | ⟨k, [], v⟩ :: r, n, sl, h => by
    simp only [shed] at h
    by_cases hn : n = k
    · subst hn; rw [slotAt_cons_self] at h; cases h; exact ⟨rfl, .inr (slotAt_cons_self _ _ _ _)⟩
    · rw [slotAt_cons_ne hn] at h ⊢; exact slotAt_shed r n sl h
  | ⟨k, e :: p, v⟩ :: r, n, sl, h => by
    simp only [shed] at h
    by_cases hn : n = k
    · subst hn; rw [slotAt_cons_self] at h; cases h; exact ⟨rfl, .inl rfl⟩
    · rw [slotAt_cons_ne hn] at h ⊢; exact slotAt_shed r n sl h

theorem Inv.shed {φ₀ : Emb} {H₀ : Heap} {w₀ : World} {N : Nat} {s : St} {a : Act} {K : List Nat} (h : Inv φ₀ H₀ w₀ N φ s a w K) : Inv φ₀ H₀ w₀ N φ ⟨shed s.tmps, s.heap⟩ a w [] := by
  refine ⟨fun n sl hs => ?_, h.heap, h.fr, h.defers, h.size⟩
  obtain ⟨h1, h2⟩ := slotAt_shed _ _ _ hs
  obtain ⟨k, p, v⟩ := sl
  simp only at h1
  subst h1
  have hn : k = n := slotAt_num _ _ _ hs
  refine ⟨hn, fun hc => ?_, fun hc => absurd trivial hc, trivial, fun e he => by cases he⟩
  rcases h2 with h2 | h2
  · simp only at h2; subst h2; trivial
  · exact (h.sok n _ h2).on hc

def exOf : AEx → Exit
  | .normal => .normal
  | .exit id => .exit id
  | .ret => .ret

/-- What the abstract end says of the model's. -/
def Real (φ₀ : Emb) (H₀ : Heap) (w₀ : World) (N : Nat) (Q : AEx → St → Prop) : Exit → Act → World → Prop := fun e a w => ∃ ae φ s, exOf ae = e ∧ Q ae s ∧ Inv φ₀ H₀ w₀ N φ s a w []

theorem corr_all (N : Nat) (ops : Array Oper) (draw : Bool) : F2 (Corr P N ops) ops.toList (ops.toList.zipIdx.map fun (o, i) => stripOper P N ops draw i o) := by
  have : ∀ (l : List Oper) (k : Nat), F2 (Corr P N ops) l ((l.zipIdx k).map fun (o, i) => stripOper P N ops draw i o) := by
    intro l
    induction l with
    | nil => intro k; exact .nil
    | cons o r ih => intro k; exact .cons (corr_strip P N ops draw k o) (ih (k + 1))
  exact this _ 0

set_option maxHeartbeats 1000000 in
theorem awp_sound (hm : P.follows .mixedOrders = true) {φ₀ : Emb} {H₀ : Heap} {w₀ : World} {N n0 : Nat} (hn0 : H₀.next ≤ n0) (hf0 : ∀ i, H₀.next ≤ i → φ₀ i = none) (c : Code) : ∀ (s : St) (Q : AEx → St → Prop), awp (Con P) (LeS n0) (strip P N c) s Q →
    ∀ (φ : Emb) (a : Act) (w : World), Inv φ₀ H₀ w₀ N φ s a w [] → c.wp P (Real φ₀ H₀ w₀ N Q) a w := by
  induction c with
  | skip => intro s Q h φ a w hI; exact wp_skip ⟨.normal, φ, s, rfl, h, hI⟩
  | ret => intro s Q h φ a w hI; exact wp_ret ⟨.ret, φ, s, rfl, h, hI⟩
  | exit id => intro s Q h φ a w hI; exact wp_exit ⟨.exit id, φ, s, rfl, h, hI⟩
  | region id ops draw =>
    intro s Q h φ a w hI
    simp only [strip] at h
    split at h
    · rename_i hchk
      simp only [Bool.and_eq_true, Bool.or_eq_true, Bool.not_eq_true'] at hchk
      simp only [awp] at h
      have hQ : ∀ φ s a w K, Inv φ₀ H₀ w₀ N φ s a w K → (∃ s'', LeS n0 ⟨shed s.tmps, s.heap⟩ s'' ∧ Q .normal s'') → Real φ₀ H₀ w₀ N Q .normal a w := fun φ s a w K hI ⟨s'', hle, hq⟩ => by
        obtain ⟨φ', hI'⟩ := hle φ₀ H₀ w₀ N φ a w hn0 hf0 hI.shed
        exact ⟨.normal, φ', _, rfl, hq, hI'⟩
      cases draw with
      | false => exact wp_region_list (region_seq hQ _ _ (corr_all N ops false) hchk.1 φ s a w [] hI (fun d hd => by cases hd) h)
      | true =>
        refine region_draw hm hQ (corr_all N ops true) hchk.1 (hchk.2.resolve_left (by simp)) (fun i ao ha => ?_) hI (fun d hd => by cases hd) h
        simp only [List.getElem?_map, Option.map_eq_some_iff] at ha
        obtain ⟨⟨o, j⟩, hoj, rfl⟩ := ha
        rw [List.getElem?_zipIdx, Option.map_eq_some_iff] at hoj
        obtain ⟨o', h', e⟩ := hoj
        simp only [Prod.mk.injEq, Nat.zero_add] at e
        obtain ⟨rfl, rfl⟩ := e
        refine ⟨by simp [stripOper], fun o ho => ?_⟩
        have e : o' = o := by simp only [Array.getElem?_toList] at h'; rw [ho] at h'; cases h'; rfl
        subst e
        simp [stripOper]
    · exact h.elim
  | seq x y ihx ihy =>
    intro s Q h φ a w hI
    simp only [strip, awp] at h
    refine wp_seq (wp_mono (ihx s _ h φ a w hI) fun e a' w' hq => ?_)
    obtain ⟨ae, φ', s', rfl, hq, hI'⟩ := hq
    cases ae with
    | normal => exact ihy s' Q hq φ' a' w' hI'
    | exit id => exact ⟨.exit id, φ', s', rfl, hq, hI'⟩
    | ret => exact ⟨.ret, φ', s', rfl, hq, hI'⟩
  | cond c x y ihx ihy =>
    intro s Q h φ a w hI
    simp only [strip] at h
    split at h
    · rename_i co hco
      simp only [awp] at h
      have hg := (gets_of (H := s.heap) hI.sok.toE (π := []) trivial trivial).get c co hco
      split at h
      · rename_i b hb
        rw [hb] at hg
        have hev : a.eval c = .bool b := hg
        cases b with
        | true => exact wp_cond_true hev (ihx s Q h φ a w hI)
        | false => exact wp_cond_false hev (ihy s Q h φ a w hI)
      · exact h.elim
    · exact h.elim
  | block id b ih =>
    intro s Q h φ a w hI
    simp only [strip, awp] at h
    refine wp_block (wp_mono (ih s _ h φ a w hI) fun e a' w' hq => ?_)
    obtain ⟨ae, φ', s', rfl, hq, hI'⟩ := hq
    cases ae with
    | normal => exact ⟨.normal, φ', s', rfl, hq, hI'⟩
    | exit j =>
      simp only [exOf, Exit.inBlock]
      simp only at hq
      split at hq
      · rename_i hb
        rw [if_pos (Nat.eq_of_beq_eq_true hb)]
        exact ⟨.normal, φ', s', rfl, hq, hI'⟩
      · rename_i hb
        rw [if_neg (fun e => by rw [e, Nat.beq_refl] at hb; cases hb)]
        exact ⟨.exit j, φ', s', rfl, hq, hI'⟩
    | ret => exact ⟨.ret, φ', s', rfl, hq, hI'⟩
  | loop b ih =>
    intro s Q h φ a w hI
    simp only [strip, awp] at h
    obtain ⟨I, n, hI0, hround⟩ := h
    refine wp_loop_ghost (fun n a w => ∃ φ s, I n s ∧ Inv φ₀ H₀ w₀ N φ s a w []) n ⟨φ, s, hI0, hI⟩ fun n a w hh => ?_
    obtain ⟨φ, s, hIn, hI⟩ := hh
    refine wp_mono (ih s _ (hround n s hIn) φ a w hI) fun e a' w' hq => ?_
    obtain ⟨ae, φ', s', rfl, hq, hI'⟩ := hq
    cases ae with
    | normal =>
      obtain ⟨n', s'', hlt, hle, hI''⟩ := hq
      obtain ⟨φ'', hI3⟩ := hle φ₀ H₀ w₀ N φ' a' w' hn0 hf0 hI'
      exact ⟨n', hlt, φ'', s'', hI'', hI3⟩
    | exit id => exact ⟨.exit id, φ', s', rfl, hq, hI'⟩
    | ret => exact ⟨.ret, φ', s', rfl, hq, hI'⟩
  | rangeFunc f ps x y => intro s Q h; exact h.elim
  | scope b => intro s Q h; exact h.elim
  | label l => intro s Q h; exact h.elim
  | goto l => intro s Q h; exact h.elim
  | refuse y => intro s Q h; exact h.elim

/-! ### Functions -/
theorem initT_slot : ∀ (args : List AV) (xs : List Value) (k : Nat) (n : Nat) (sl : Slot), F2 (relA φ) args xs → slotAt (initT args k) n = some sl → sl.path = [] ∧ k ≤ n ∧ ∃ x, xs[n - k]? = some x ∧ relA φ sl.v x
  | [], xs, k, n, sl, h, hs => by simp [initT, slotAt] at hs
  | v :: r, xs, k, n, sl, h, hs => by
    obtain ⟨x, m, rfl, hx, hr⟩ := h.cons_left
    simp only [initT] at hs
    by_cases hn : n = k
    · subst hn
      rw [slotAt_cons_self] at hs
      cases hs
      exact ⟨rfl, Nat.le_refl _, x, by simp, hx⟩
    · rw [slotAt_cons_ne hn] at hs
      obtain ⟨h1, h2, y, hy, hyr⟩ := initT_slot r m (k + 1) n sl hr hs
      refine ⟨h1, by omega, y, ?_, hyr⟩
      rw [show n - k = (n - (k + 1)) + 1 by omega]
      simpa using hy

theorem resA_ok {φ₀ : Emb} {H₀ : Heap} {w₀ : World} {N : Nat} {s : St} {a : Act} (hI : Inv φ₀ H₀ w₀ N φ s a w []) : ∀ (l : List ResultVar) (rs : List ARes) (vs : List AV), stripRes P l = some rs → resL s rs = some vs →
    ∃ xs : List Value, (l.mapM (fun r => match r with
      | ResultVar.tmp t => (pure (a.tmps.getD t undef) : Sem Value)
      | ResultVar.cell ad t => do loadVar t (← asAddr (a.tmps.getD ad undef)))).run P w = .ok xs w ∧ F2 (rel1 φ) vs xs
  | [], rs, vs, h1, h2 => by
    simp only [stripRes, Option.some.injEq] at h1
    subst h1
    simp only [resL, Option.some.injEq] at h2
    subst h2
    exact ⟨[], by simp [go_sem], .nil⟩
  | r :: l, rs, vs, h1, h2 => by
    have hget : ∀ t, relA φ (s.get [] (.t t)) (a.tmps.getD t undef) := fun t => (gets_of (H := s.heap) hI.sok.toE (π := []) trivial trivial).cs t
    have key : ∀ (ar : ARes) (rs' : List ARes), rs = ar :: rs' → stripRes P l = some rs' → (∀ v, resA s ar = some v → ∃ x, ((match r with
        | ResultVar.tmp t => (pure (a.tmps.getD t undef) : Sem Value)
        | ResultVar.cell ad t => do loadVar t (← asAddr (a.tmps.getD ad undef))) : Sem Value).run P w = .ok x w ∧ relA φ v x) →
        ∃ xs : List Value, ((r :: l).mapM (fun r => match r with
          | ResultVar.tmp t => (pure (a.tmps.getD t undef) : Sem Value)
          | ResultVar.cell ad t => do loadVar t (← asAddr (a.tmps.getD ad undef)))).run P w = .ok xs w ∧ F2 (rel1 φ) vs xs := by
      intro ar rs' e1 e2 hv
      subst e1
      simp only [resL] at h2
      split at h2
      · rename_i v hva
        split at h2
        · rename_i hnt
          split at h2
          · rename_i t ht
            simp only [Option.some.injEq] at h2
            subst h2
            obtain ⟨x, hx, hr⟩ := hv v hva
            obtain ⟨xs, hxs, hF⟩ := resA_ok hI l rs' t e2 ht
            refine ⟨x :: xs, ?_, .cons ?_ hF⟩
            · simp only [List.mapM_cons, Sem.run_bind, hx, Result.andThen_ok, hxs, Sem.run_pure]
            · cases v <;> first | exact hr | simp [noTup] at hnt
          · simp at h2
        · simp at h2
      · simp at h2
    cases r with
    | tmp t =>
      simp only [stripRes, Option.map_eq_some_iff] at h1
      obtain ⟨rs', h1, rfl⟩ := h1
      refine key _ rs' rfl h1 fun v hv => ?_
      simp only [resA, Option.some.injEq] at hv
      subst hv
      exact ⟨_, rfl, hget t⟩
    | cell ad t =>
      simp only [stripRes] at h1
      split at h1
      · rename_i _ l' ht hl
        simp only [Option.some.injEq] at h1
        refine key _ l' h1.symm hl fun v hv => ?_
        simp only [resA] at hv
        split at hv
        · rename_i p hp
          split at hv
          · rename_i v' hld
            simp only [Option.some.injEq] at hv
            subst hv
            have hg := hget ad
            rw [hp] at hg
            obtain ⟨pl, hpl, hev⟩ := hg
            obtain ⟨_, y, hy, hr⟩ := ld1_ok hI.heap.blk hld trivial hpl
            exact ⟨y, by simp only [hev, asAddr, Sem.run_bind, Sem.run_pure, Result.andThen_ok, loadVar, run_isAgg ht, Bool.false_eq_true, if_false, run_load, hy], hr⟩
          · simp at hv
        · simp at hv
      · rename_i n l' ht hsz hl
        simp only [Option.some.injEq] at h1
        refine key _ l' h1.symm hl fun v hv => ?_
        simp only [resA] at hv
        split at hv
        · rename_i p hp
          split at hv
          · rename_i v' hld
            simp only [Option.some.injEq] at hv
            subst hv
            have hg := hget ad
            rw [hp] at hg
            obtain ⟨pl, hpl, hev⟩ := hg
            obtain ⟨_, xs, hlx, hcx, l2, rfl, hF⟩ := ldn_ok hI.heap.blk hld trivial hpl
            subst hlx
            exact ⟨.agg xs.toArray, by simp only [hev, asAddr, Sem.run_bind, Sem.run_pure, Result.andThen_ok, loadVar, run_isAgg ht, if_true, run_sizeOf hsz, run_loadCells_list w _ xs hcx], xs.toArray, rfl, hF⟩
          · simp at hv
        · simp at hv
      · simp at h1

theorem run_results {fn : Func} {φ₀ : Emb} {H₀ : Heap} {w₀ : World} {N : Nat} {s : St} {a : Act} (hI : Inv φ₀ H₀ w₀ N φ s a w []) {rs : List ARes} {vs : List AV} (h1 : stripRes P fn.results.toList = some rs) (h2 : resL s rs = some vs) :
    ∃ x, (results fn a.tmps).run P w = .ok x w ∧ relA φ (resV vs) x := by
  obtain ⟨xs, hx, hF⟩ := resA_ok hI _ _ _ h1 h2
  have hm : (fn.results.mapM (fun r => match r with
      | ResultVar.tmp t => (pure (a.tmps.getD t undef) : Sem Value)
      | ResultVar.cell ad t => do loadVar t (← asAddr (a.tmps.getD ad undef)))).run P w = .ok xs.toArray w := by
    rw [Array.mapM_eq_mapM_toList]
    simp only [Sem.run_map, hx, Result.andThen_ok]
  refine ⟨if h : xs.toArray.size = 1 then xs.toArray[0] else .tuple xs.toArray, ?_, ?_⟩
  · unfold results
    simp only [Sem.run_bind]
    refine (congrArg (fun r => Result.andThen r _) hm).trans ?_
    rfl
  · cases hF with
    | nil => exact ⟨#[], rfl, .nil⟩
    | cons h hr => cases hr with
      | nil => exact relA_of_rel1 h
      | cons g1 g2 => exact ⟨_, rfl, .cons h (.cons g1 g2)⟩

theorem con_of_awp (hm : P.follows .mixedOrders = true) {f : FuncId} {fn : Func} (hf : P.funcs[f]? = some fn) (hname : (fn.name == "runtime.NumGoroutine") = false) {ac : ACode} (hc : stripF P fn = some ac) {rs : List ARes} (hrs : stripRes P fn.results.toList = some rs)
    {args : List AV} (hargs : args.length ≤ fn.ntmps) {H : Heap} {R : Post} (h : awp (Con P) (LeS H.next) ac ⟨initT args 0, H⟩ (endQ (LeS H.next) rs R)) : Con P f args H R := by
  unfold stripF at hc
  cases hb : fn.body with
  | none => simp [hb] at hc
  | some c =>
    simp only [hb, Option.some.injEq] at hc
    subst hc
    refine ⟨⟨fn, hf, hname, by simp [hb]⟩, fun φ w xs hF hH => ?_⟩
    have hxl : xs.size = args.length := by rw [hF.length]; simp
    refine calls_of_wp hf hb ?_
    have hI : Inv φ H w fn.ntmps φ ⟨initT args 0, H⟩ { tmps := xs ++ Array.replicate (fn.ntmps - xs.size) undef, defers := [] } w [] := by
      refine ⟨fun n sl hs => ?_, hH, Fr.refl _ _ _, rfl, by simp; omega⟩
      obtain ⟨k, p, v⟩ := sl
      have hk : k = n := slotAt_num _ _ _ hs
      obtain ⟨h1, _, x, hx, hr⟩ := initT_slot args xs.toList 0 n _ hF hs
      simp only at h1
      subst h1
      refine ⟨hk, fun _ => ?_, fun hcd => absurd trivial hcd, trivial, fun e he => by cases he⟩
      have hx' : xs[n]? = some x := by simpa using hx
      have hlt : n < xs.size := (Array.getElem?_eq_some_iff.1 hx').1
      have : (xs ++ Array.replicate (fn.ntmps - xs.size) undef).getD n undef = x := by
        rw [Array.getD_eq_getD_getElem?, Array.getElem?_append_left hlt, hx']
        rfl
      rw [this]
      exact hr
    refine wp_mono (awp_sound hm (Nat.le_refl _) hH.fresh c _ _ h φ _ w hI) fun e a w' hq => ?_
    obtain ⟨ae, φ', s', rfl, hq, hI'⟩ := hq
    have fin : (∃ s2, LeS H.next s' s2 ∧ endF rs R s2) → a.defers = [] ∧ ∃ v, (results fn a.tmps).run P w' = .ok v w' ∧ (∃ φ' v' x H', Ending.returned v = .returned x ∧ R v' H' ∧ relA φ' v' x ∧ HRel φ' H' w' ∧ Fr φ H w φ' H' w') := by
      rintro ⟨s2, hle, he⟩
      obtain ⟨φ2, hI2⟩ := hle φ H w fn.ntmps φ' a w' (Nat.le_refl _) hH.fresh hI'
      unfold endF at he
      split at he
      · rename_i vs hvs
        obtain ⟨x, hx, hr⟩ := run_results hI2 hrs hvs
        exact ⟨hI2.defers, x, hx, φ2, _, x, s2.heap, rfl, he, hr, hI2.heap, hI2.fr⟩
      · exact he.elim
    cases ae with
    | normal => exact fin ((endQ_of (e := .normal) nofun).1 hq)
    | ret => exact fin ((endQ_of (e := .ret) nofun).1 hq)
    | exit id => exact (endQ_exit hq).elim

end Go.AM
