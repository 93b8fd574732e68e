/- AM: the iterator of slices.Backward keeps its word. -/
import Derived.Test.YtmbnakinhnkabaaAm22
namespace Go.AM
set_option linter.unusedVariables false
set_option linter.unusedSimpArgs false
set_option linter.unusedSectionVars false
variable {P : Program} {φ : Emb} {w : World}

/-- An operation, as it is looked at: where its answer goes, its guard, what it is. -/
def vw (P : Program) (o : Oper) : Option Nat × Option (Nat × Bool) × Option AOp := (o.dst, o.guard, stripOp P o.op)

theorem opd_tmp {x : Operand} {n : Nat} (h : opd x = some (.t n)) : x = .tmp n := by
  cases x with
  | tmp t => simp only [opd, Option.some.injEq, Opd.t.injEq] at h; rw [h]
  | const v => obtain ⟨u, e, _⟩ := opd_const (fun _ => none) h; cases e
  | func f => obtain ⟨u, e, _⟩ := opd_func (fun _ => none) h; cases e
  | global g => simp [opd] at h

theorem mv_inv {o : Oper} {n : Nat} (h : stripOp P o.op = some (.mv (.t n))) (a : Act) (w : World) : (execOp a.eval o).run P w = .ok (.value (a.tmps.getD n undef)) w := by
  obtain ⟨dst, op, type, pos, after, guard⟩ := o
  simp only at h
  cases op <;> simp only [stripOp, Option.map_eq_some_iff, reduceCtorEq, and_false, exists_false] at h
  case move x =>
    obtain ⟨y, hy, e⟩ := h
    cases e
    rw [opd_tmp hy]
    rfl
  case assign x =>
    obtain ⟨y, hy, e⟩ := h
    cases e
    rw [opd_tmp hy]
    rfl
  case call c =>
    exfalso
    obtain ⟨callee, args, ts⟩ := c
    cases callee with
    | invoke r m => simp [stripOp] at h
    | value f => simp only [stripOp] at h; split at h <;> simp at h
    | builtin bi =>
      cases bi <;> try (simp [stripOp] at h; done)
      all_goals (simp only [stripOp] at h; revert h; (repeat' split) <;> simp_all)
  all_goals (exfalso; revert h; (repeat' split) <;> simp_all)

theorem yield_inv {o : Oper} {c : Nat} {as : List Opd} (h : stripOp P o.op = some (.call (.t c) as)) {a : Act} {l : Nat} (hc : a.tmps.getD c undef = .func (.yield l) #[] #[]) {ψ : Emb} {s : St} (hg : Gets ψ s [] a) :
    ∃ vs : Array Value, F2 (relA ψ) (argsOf (s.get []) as) vs.toList ∧ ∀ w, (execOp a.eval o).run P w = (Instr.yield l vs).run P w := by
  obtain ⟨dst, op, type, pos, after, guard⟩ := o
  simp only at h
  cases op <;> simp only [stripOp, Option.map_eq_some_iff, reduceCtorEq, and_false, exists_false] at h
  case call cc =>
    obtain ⟨callee, args, ts⟩ := cc
    cases callee with
    | invoke r m => simp [stripOp] at h
    | builtin bi =>
      exfalso
      cases bi <;> try (simp [stripOp] at h; done)
      all_goals (simp only [stripOp] at h; revert h; (repeat' split) <;> simp)
    | value fv =>
      simp only [stripOp] at h
      split at h
      · rename_i f' as' hf' has
        simp only [Option.some.injEq, AOp.call.injEq] at h
        obtain ⟨rfl, rfl⟩ := h
        have hev : a.eval fv = .func (.yield l) #[] #[] := by rw [opd_tmp hf']; exact hc
        refine ⟨args.map a.eval, ?_, fun w => ?_⟩
        · have := argsOf_rel hg.get _ _ has
          simpa using this
        · simp only [execOp, resolve, hev, Deferred.ofValue, Sem.run_bind, Sem.run_pure, Result.andThen_ok, invoke]
          simp
      · simp at h
  all_goals (exfalso; revert h; (repeat' split) <;> simp_all)

variable {F : Fence} [Wide F]
/-- One operation that only reads. -/
theorem one_read {ops : Array Oper} {o : Oper} {r : List Oper} {d : Nat} {ao : AOp} (hv : vw P o = (some d, none, some ao)) {ψ : Emb} {l : List Slot} {a : Act} (hS : SOk ψ l a []) {H : Heap} (hR : Reads ψ H w) (hf : ψ H.next = none)
    {need : Option Prop} {v : AV} (ha : aop ⟨l, H⟩ [] ao = .p need v none) (hn : needP need) (hd : d < a.tmps.size) {Q : Exit → Act → World → Prop}
    (k : ∀ x, SOk ψ (⟨d, [], v⟩ :: l) (a.put (some d) x) [] → relA ψ v x → wpListIn F 0 P ops Q r (a.put (some d) x) w) : wpListIn F 0 P ops Q (o :: r) a w := by
  simp only [vw, Prod.mk.injEq] at hv
  obtain ⟨h1, h2, h3⟩ := hv
  simp only [wpListIn]
  rw [if_pos (by simp [Region.wanted, h2])]
  refine wp_op h3 ?_
  obtain ⟨x, hx, hr⟩ := op_p h3 (gets_of (H := H) hS.toE (π := []) trivial trivial) hR hf ha hn
  rw [hx, Oper.uponIn_value, h1]
  exact k x (sok_put ψ.le_refl hS (fun _ h => h) hd rfl (by simp) (π := []) trivial (fun e he => by cases he) (fun _ => hr) (fun hc => absurd trivial hc)) hr
theorem one_mv {ops : Array Oper} {o : Oper} {r : List Oper} {d n : Nat} (hv : vw P o = (some d, none, some (.mv (.t n)))) {ψ : Emb} {l : List Slot} {a : Act} (hS : SOk ψ l a []) (hd : d < a.tmps.size) {Q : Exit → Act → World → Prop}
    (k : SOk ψ (⟨d, [], .bot⟩ :: l) (a.put (some d) (a.tmps.getD n undef)) [] → wpListIn F 0 P ops Q r (a.put (some d) (a.tmps.getD n undef)) w) : wpListIn F 0 P ops Q (o :: r) a w := by
  simp only [vw, Prod.mk.injEq] at hv
  obtain ⟨h1, h2, h3⟩ := hv
  simp only [wpListIn]
  rw [if_pos (by simp [Region.wanted, h2])]
  refine wp_op h3 ?_
  rw [mv_inv h3, Oper.uponIn_value, h1]
  exact k (sok_put ψ.le_refl hS (fun _ h => h) hd rfl (by simp) (π := []) trivial (fun e he => by cases he) (fun _ => trivial) (fun hc => absurd trivial hc))


/-- What is forgotten is forgotten. -/
theorem sok_sub {ψ : Emb} {l l' : List Slot} {a : Act} (hS : SOk ψ l a []) (h : ∀ n sl, slotAt l' n = some sl → slotAt l n = some sl ∧ sl.path = []) : SOk ψ l' a [] := fun n sl hs => by
  obtain ⟨h1, h2⟩ := h n sl hs
  have := hS n sl h1
  exact ⟨this.num, this.on, this.off, by rw [h2]; trivial, this.keys⟩

/-- The slots of the iterator between two rounds. -/
def bkL (i : Nat) (k : Int) : List Slot := [⟨3, [], .c (.int .i64 k)⟩, ⟨1, [], .c (.ptr ⟨i, 0, 0, 0⟩)⟩]
theorem bk_sub {ψ : Emb} {i : Nat} {k : Int} {l : List Slot} {a : Act} (hS : SOk ψ l a []) (h3 : slotAt l 3 = some ⟨3, [], .c (.int .i64 k)⟩) (h1 : slotAt l 1 = some ⟨1, [], .c (.ptr ⟨i, 0, 0, 0⟩)⟩) : SOk ψ (bkL i k) a [] :=
  sok_sub hS fun n sl hs => by
    unfold bkL at hs
    by_cases hn : n = 3
    · subst hn; rw [slotAt_cons_self] at hs; cases hs; exact ⟨h3, rfl⟩
    · rw [slotAt_cons_ne hn] at hs
      by_cases hn : n = 1
      · subst hn; rw [slotAt_cons_self] at hs; cases hs; exact ⟨h1, rfl⟩
      · rw [slotAt_cons_ne hn] at hs; cases hs

section
variable {ops : Array Oper} {Q : Exit → Act → World → Prop} {K : Heap} {i j b M nx : Nat} {need : Option Prop} {ψ : Emb} {a : Act} {W : World}
theorem wr1 (n : Int) (h0 : 0 ≤ n) (h1 : n ≤ 140737488355328) : IntKind.i64.wrap (n - 1) = n - 1 := by rw [IntKind.wrap_i64]; omega
theorem bk_l4 {l : List Oper} {v : List (Option Nat × Option (Nat × Bool) × Option AOp)} (h : l.map (vw P) = v) : l.length = v.length := by rw [← h]; simp
theorem len_2 {α : Type} {l : List α} (h : l.length = 2) : ∃ o1 o2, l = [o1, o2] := by
  match l, h with
  | [o1, o2], _ => exact ⟨o1, o2, rfl⟩
theorem len_3 {α : Type} {l : List α} (h : l.length = 3) : ∃ o1 o2 o3, l = [o1, o2, o3] := by
  match l, h with
  | [o1, o2, o3], _ => exact ⟨o1, o2, o3, rfl⟩
theorem len_4 {α : Type} {l : List α} (h : l.length = 4) : ∃ o1 o2 o3 o4, l = [o1, o2, o3, o4] := by
  match l, h with
  | [o1, o2, o3, o4], _ => exact ⟨o1, o2, o3, o4, rfl⟩
theorem len_8 {α : Type} {l : List α} (h : l.length = 8) : ∃ o1 o2 o3 o4 o5 o6 o7 o8, l = [o1, o2, o3, o4, o5, o6, o7, o8] := by
  match l, h with
  | [o1, o2, o3, o4, o5, o6, o7, o8], _ => exact ⟨o1, o2, o3, o4, o5, o6, o7, o8, rfl⟩
theorem bk_head {r : List Oper} (h0 : r.map (vw P) = [(some 4, none, some (.ld1 (.t 1))), (some 5, none, some (.len false (.t 4))), (some 6, none, some (.bin .sub (.t 5) (.k (.c (.int .i64 1))))), (some 3, none, some (.mv (.t 6)))])
    (hM : M ≤ 140737488355328) (hbox : ld1 ⟨nx, K.blks⟩ ⟨i, 0, 0, 0⟩ = .p need (.c (.slice ⟨j, b, 0, 0⟩ false M)) none) (hneed : needP need) (hr : Reads ψ ⟨nx, K.blks⟩ W) (hf : ψ nx = none)
    (hS : SOk ψ [⟨1, [], .c (.ptr ⟨i, 0, 0, 0⟩)⟩] a []) (hsz : a.tmps.size = 19)
    (k : ∀ a', SOk ψ (bkL i ((M : Int) - 1)) a' [] → a'.tmps.getD 0 undef = a.tmps.getD 0 undef → a'.tmps.size = 19 → a'.defers = a.defers → Q .normal a' W) : wpListIn F 0 P ops Q r a W := by
  have hl := bk_l4 h0
  simp only [List.length_cons, List.length_nil, Nat.zero_add, Nat.reduceAdd] at hl
  obtain ⟨o1, o2, o3, o4, rfl⟩ := len_4 hl
  · skip
    simp only [List.map_cons, List.map_nil, List.cons.injEq, and_true] at h0
    obtain ⟨v1, v2, v3, v4⟩ := h0
    refine one_read v1 hS hr hf (v := .c (.slice ⟨j, b, 0, 0⟩ false M)) (need := need) hbox hneed (by omega) fun x1 hS1 _ => ?_
    refine one_read v2 hS1 hr hf (v := .c (.int .i64 (M : Int))) (need := none) rfl trivial (by rw [put_size]; omega) fun x2 hS2 _ => ?_
    refine one_read v3 hS2 hr hf (v := .c (.int .i64 ((M : Int) - 1))) (need := none) ?_ trivial (by simp only [put_size]; omega) fun x3 hS3 _ => ?_
    · simp only [aop, St.get, slotAt, Nat.beq, sfx, eqP, bin, isShift, sameK, arith, wr1 M (by omega) (by omega)]
    refine one_read v4 hS3 hr hf (v := .c (.int .i64 ((M : Int) - 1))) (need := none) rfl trivial (by simp only [put_size]; omega) fun x4 hS4 _ => ?_
    refine k _ (bk_sub hS4 rfl rfl) ?_ (by simp only [put_size]; exact hsz) (by simp only [put_defers'])
    rw [getD_put_ne (by decide), getD_put_ne (by decide), getD_put_ne (by decide), getD_put_ne (by decide)]
theorem bk_cond {r : List Oper} {n : Int} (h1 : r.map (vw P) = [(some 7, none, some (.mv (.t 3))), (some 8, none, some (.bin .geq (.t 7) (.k (.c (.int .i64 0)))))])
    (hr : Reads ψ ⟨nx, K.blks⟩ W) (hf : ψ nx = none) (hS : SOk ψ (bkL i n) a []) (hsz : a.tmps.size = 19)
    (k : ∀ a', SOk ψ (bkL i n) a' [] → a'.eval (.tmp 8) = .bool (decide (n ≥ 0)) → a'.tmps.getD 0 undef = a.tmps.getD 0 undef → a'.tmps.size = 19 → a'.defers = a.defers → Q .normal a' W) : wpListIn F 0 P ops Q r a W := by
  have hl := bk_l4 h1
  simp only [List.length_cons, List.length_nil, Nat.zero_add, Nat.reduceAdd] at hl
  obtain ⟨o1, o2, rfl⟩ := len_2 hl
  · skip
    simp only [List.map_cons, List.map_nil, List.cons.injEq, and_true] at h1
    obtain ⟨v1, v2⟩ := h1
    refine one_read v1 hS hr hf (v := .c (.int .i64 n)) (need := none) rfl trivial (by omega) fun x1 hS1 _ => ?_
    refine one_read v2 hS1 hr hf (v := .c (.bool (decide (n ≥ 0)))) (need := none) rfl trivial (by rw [put_size]; omega) fun x2 hS2 hx2 => ?_
    refine k _ (bk_sub hS2 rfl rfl) ?_ ?_ (by simp only [put_size]; exact hsz) (by simp only [put_defers'])
    · show ((a.put (some 7) x1).put (some 8) x2).tmps.getD 8 undef = _
      rw [getD_put_self (by rw [put_size]; omega)]
      exact hx2
    · rw [getD_put_ne (by decide), getD_put_ne (by decide)]
theorem bk_next {r : List Oper} {m : Nat} (h2 : r.map (vw P) = [(some 9, none, some (.mv (.t 3))), (some 10, none, some (.bin .sub (.t 9) (.k (.c (.int .i64 1))))), (some 3, none, some (.mv (.t 10)))]) (hm : (m : Int) ≤ 140737488355328)
    (hr : Reads ψ ⟨nx, K.blks⟩ W) (hf : ψ nx = none) (hS : SOk ψ (bkL i m) a []) (hsz : a.tmps.size = 19)
    (k : ∀ a', SOk ψ (bkL i ((m : Int) - 1)) a' [] → a'.tmps.getD 0 undef = a.tmps.getD 0 undef → a'.tmps.size = 19 → a'.defers = a.defers → Q .normal a' W) : wpListIn F 0 P ops Q r a W := by
  have hl := bk_l4 h2
  simp only [List.length_cons, List.length_nil, Nat.zero_add, Nat.reduceAdd] at hl
  obtain ⟨o1, o2, o3, rfl⟩ := len_3 hl
  · skip
    simp only [List.map_cons, List.map_nil, List.cons.injEq, and_true] at h2
    obtain ⟨v1, v2, v3⟩ := h2
    refine one_read v1 hS hr hf (v := .c (.int .i64 m)) (need := none) rfl trivial (by omega) fun x1 hS1 _ => ?_
    refine one_read v2 hS1 hr hf (v := .c (.int .i64 ((m : Int) - 1))) (need := none) ?_ trivial (by simp only [put_size]; omega) fun x3 hS3 _ => ?_
    · simp only [aop, St.get, slotAt, Nat.beq, sfx, eqP, bin, isShift, sameK, arith, wr1 m (by omega) (by omega)]
    refine one_read v3 hS3 hr hf (v := .c (.int .i64 ((m : Int) - 1))) (need := none) rfl trivial (by simp only [put_size]; omega) fun x4 hS4 _ => ?_
    refine k _ (bk_sub hS4 rfl rfl) ?_ (by simp only [put_size]; exact hsz) (by simp only [put_defers'])
    rw [getD_put_ne (by decide), getD_put_ne (by decide), getD_put_ne (by decide)]
theorem bk_not {l : List Slot} {bb : Bool} {o : Oper} (hv : vw P o = (some 18, none, some (.un .not (.t 17)))) (hr : Reads ψ ⟨nx, K.blks⟩ W) (hf : ψ nx = none) (hS : SOk ψ (⟨17, [], .c (.bool bb)⟩ :: l) a []) (hsz : a.tmps.size = 19)
    (k : ∀ a', SOk ψ (⟨18, [], .c (.bool (!bb))⟩ :: ⟨17, [], .c (.bool bb)⟩ :: l) a' [] → a'.eval (.tmp 18) = .bool (!bb) → a'.tmps.getD 0 undef = a.tmps.getD 0 undef → a'.tmps.size = 19 → a'.defers = a.defers → Q .normal a' W) : wpListIn F 0 P ops Q [o] a W := by
  refine one_read hv hS hr hf (v := .c (.bool (!bb))) (need := none) rfl trivial (by omega) fun x1 hS1 hx => ?_
  refine k _ hS1 ?_ ?_ (by simp only [put_size]; exact hsz) (by simp only [put_defers'])
  · show (a.put (some 18) x1).tmps.getD 18 undef = _
    rw [getD_put_self (by omega)]
    exact hx
  · rw [getD_put_ne (by decide)]
theorem bk_re {ψ' : Emb} {k : Int} {y0 : Value} (hS : SOk ψ (bkL i k) a []) (h1 : φ.le ψ) (h2 : φ.le ψ') (hy : relP φ ⟨i, 0, 0, 0⟩ y0) : SOk ψ' (bkL i k) a [] := by
  intro n sl hs
  have hk := hS n sl hs
  refine ⟨hk.num, fun hc => ?_, hk.off, hk.path, hk.keys⟩
  have h := hk.on hc
  unfold bkL at hs
  by_cases hn : n = 3
  · subst hn; rw [slotAt_cons_self] at hs; cases hs; exact h
  · rw [slotAt_cons_ne hn] at hs
    by_cases hn : n = 1
    · subst hn
      rw [slotAt_cons_self] at hs
      cases hs
      obtain ⟨p, hp, e⟩ := h
      obtain ⟨q, hq, _⟩ := hy
      have := h1 i q hq
      rw [hp] at this
      cases this
      exact ⟨p, h2 i p hq, e⟩
    · rw [slotAt_cons_ne hn] at hs; cases hs
theorem bk_call {k : Nat} {el : AOp} {r : List Oper} {m lo : Nat} {E : Nat → AV}
    (h3 : r.map (vw P) = [(some 11, none, some (.mv (.t 0))), (some 12, none, some (.mv (.t 3))), (some 13, none, some (.ld1 (.t 1))), (some 14, none, some (.mv (.t 3))), (some 15, none, some (.iaddr k (.t 13) (.t 14))), (some 16, none, some el),
      (some 17, none, some (.call (.t 11) [.t 12, .t 16])), (some 18, none, some (.un .not (.t 17)))])
    (hmM : m < M) (hbox : ld1 ⟨nx, K.blks⟩ ⟨i, 0, 0, 0⟩ = .p need (.c (.slice ⟨j, b, 0, 0⟩ false M)) none) (hneed : needP need) (hstr : strOk ⟨nx, K.blks⟩ k ⟨j, b, 0, 0⟩ false = true)
    (hel : ∀ l, slotAt l 15 = some ⟨15, [], .c (.ptr ⟨j, addN b m, 0, 0⟩)⟩ → ∃ nd, needP nd ∧ aop ⟨l, ⟨nx, K.blks⟩⟩ [] el = .p nd (E m) none)
    (hr : Reads ψ ⟨nx, K.blks⟩ W) (hf : ψ nx = none) (hS : SOk ψ (bkL i m) a []) (hsz : a.tmps.size = 19) (hY : a.tmps.getD 0 undef = .func (.yield lo) #[] #[])
    (kk : ∀ a' (o7 o8 : Oper) vs, SOk ψ (bkL i m) a' [] → F2 (relA ψ) [.c (.int .i64 (m : Int)), E m] vs.toList → o7.dst = some 17 → vw P o8 = (some 18, none, some (.un .not (.t 17))) → a'.tmps.getD 0 undef = a.tmps.getD 0 undef → a'.tmps.size = 19 → a'.defers = a.defers →
      o7.uponIn F 0 P a' (wpListIn F 0 P ops Q [o8]) Q ((Instr.yield lo vs).run P W)) : wpListIn F 0 P ops Q r a W := by
  have hl := bk_l4 h3
  simp only [List.length_cons, List.length_nil, Nat.zero_add, Nat.reduceAdd] at hl
  obtain ⟨o1, o2, o3, o4, o5, o6, o7, o8, rfl⟩ := len_8 hl
  · skip
    simp only [List.map_cons, List.map_nil, List.cons.injEq, and_true] at h3
    obtain ⟨v1, v2, v3, v4, v5, v6, v7, v8⟩ := h3
    unfold bkL at hS
    refine one_mv v1 hS (by omega) fun hS3 => ?_
    rw [hY] at hS3 ⊢
    refine one_read v2 hS3 hr hf (v := .c (.int .i64 (m : Int))) (need := none) rfl trivial (by rw [put_size]; omega) fun x2 hS4 _ => ?_
    refine one_read v3 hS4 hr hf (v := .c (.slice ⟨j, b, 0, 0⟩ false M)) (need := need) hbox hneed (by simp only [put_size]; omega) fun x3 hS5 _ => ?_
    refine one_read v4 hS5 hr hf (v := .c (.int .i64 (m : Int))) (need := none) rfl trivial (by simp only [put_size]; omega) fun x4 hS6 _ => ?_
    refine one_read v5 hS6 hr hf (v := .c (.ptr ⟨j, addN b m, 0, 0⟩)) (need := some (0 ≤ (m : Int) ∧ (m : Int) < (M : Int))) ?_ (show _ ∧ _ by omega) (by simp only [put_size]; omega) fun x5 hS7 _ => ?_
    · simp only [aop, St.get, slotAt, Nat.beq, sfx, eqP, hstr, plusA, Int.toNat_natCast]
    obtain ⟨nd, hnd, hea⟩ := hel _ (slotAt_cons_self _ 15 [] _)
    refine one_read v6 hS7 hr hf hea hnd (by simp only [put_size]; omega) fun x6 hS8 _ => ?_
    have hY8 : ((((((a.put (some 11) (.func (.yield lo) #[] #[])).put (some 12) x2).put (some 13) x3).put (some 14) x4).put (some 15) x5).put (some 16) x6).tmps.getD 11 undef = .func (.yield lo) #[] #[] := by
      rw [getD_put_ne (by decide), getD_put_ne (by decide), getD_put_ne (by decide), getD_put_ne (by decide), getD_put_ne (by decide)]
      exact getD_put_self (by omega)
    have hS9 := bk_sub (i := i) (k := (m : Int)) hS8 rfl rfl
    simp only [vw, Prod.mk.injEq] at v7
    obtain ⟨w1, w2, w3⟩ := v7
    simp only [wpListIn]
    rw [if_pos (by simp [Region.wanted, w2])]
    refine wp_op w3 ?_
    obtain ⟨vs, hvs, hrun⟩ := yield_inv w3 hY8 (gets_of (H := ⟨nx, K.blks⟩) hS8.toE (π := []) trivial trivial)
    rw [hrun W]
    refine kk _ o7 o8 vs hS9 hvs w1 v8 ?_ (by simp only [put_size]; exact hsz) (by simp only [put_defers'])
    rw [getD_put_ne (by decide), getD_put_ne (by decide), getD_put_ne (by decide), getD_put_ne (by decide), getD_put_ne (by decide), getD_put_ne (by decide)]
end

/-- slices.Backward's own function: M elements of a slice, from behind; the slice's value stands in block i, its rows in block j. -/
theorem iter_back {gf : FuncId} {fn : Func} (hf : P.funcs[gf]? = some fn) (hname : (fn.name == "runtime.NumGoroutine") = false) {i0 i1 i2 i3 b0 b1 : Nat} {r0 r1 r2 r3 : Array Oper}
    (hb : fn.body = some (.seq (.region i0 r0 false) (.block b0 (.loop (.seq (.seq (.region i1 r1 false) (.cond (.tmp 8) .skip (.exit b0))) (.seq (.block b1 (.seq (.region i3 r3 false) (.cond (.tmp 18) .ret .skip))) (.region i2 r2 false)))))))
    (hres : fn.results = #[]) (hnt : fn.ntmps = 19) {k : Nat} {el : AOp}
    (h0 : r0.toList.map (vw P) = [(some 4, none, some (.ld1 (.t 1))), (some 5, none, some (.len false (.t 4))), (some 6, none, some (.bin .sub (.t 5) (.k (.c (.int .i64 1))))), (some 3, none, some (.mv (.t 6)))])
    (h1 : r1.toList.map (vw P) = [(some 7, none, some (.mv (.t 3))), (some 8, none, some (.bin .geq (.t 7) (.k (.c (.int .i64 0)))))])
    (h2 : r2.toList.map (vw P) = [(some 9, none, some (.mv (.t 3))), (some 10, none, some (.bin .sub (.t 9) (.k (.c (.int .i64 1))))), (some 3, none, some (.mv (.t 10)))])
    (h3 : r3.toList.map (vw P) = [(some 11, none, some (.mv (.t 0))), (some 12, none, some (.mv (.t 3))), (some 13, none, some (.ld1 (.t 1))), (some 14, none, some (.mv (.t 3))), (some 15, none, some (.iaddr k (.t 13) (.t 14))), (some 16, none, some el),
      (some 17, none, some (.call (.t 11) [.t 12, .t 16])), (some 18, none, some (.un .not (.t 17)))])
    {K : Heap} {i j b M : Nat} {need : Option Prop} (hM : M ≤ 140737488355328) (hbox : ∀ n, ld1 ⟨n, K.blks⟩ ⟨i, 0, 0, 0⟩ = .p need (.c (.slice ⟨j, b, 0, 0⟩ false M)) none) (hneed : needP need) (hstr : ∀ n, strOk ⟨n, K.blks⟩ k ⟨j, b, 0, 0⟩ false = true)
    {E : Nat → AV} (hel : ∀ l n m, m < M → slotAt l 15 = some ⟨15, [], .c (.ptr ⟨j, addN b m, 0, 0⟩)⟩ → ∃ nd, needP nd ∧ aop ⟨l, ⟨n, K.blks⟩⟩ [] el = .p nd (E m) none) :
    IterC P gf [⟨i, 0, 0, 0⟩] K M (fun t => [.c (.int .i64 ((M : Int) - 1 - t)), E (M - 1 - t)]) := by
  intro φ w lb lo hlb
  obtain ⟨y0, lr, hlb', hx0, hlr⟩ := hlb.cons_left
  have := hlr.nil_left
  subst this
  have hlb2 : lb = #[y0] := by cases lb with | mk l => simp only at hlb'; rw [hlb']
  subst hlb2
  refine ⟨⟨fn, hf, hname, by simp [hb]⟩, fun J Jx hJ hround ψ0 hJ0 => ?_⟩
  refine callsIn_of_wp hf hb trivial ?_
  -- what the loop keeps
  let I : Nat → Act → World → Prop := fun n a W => ∃ ψ, n ≤ M ∧ J (M - n) ψ W ∧ SOk ψ (bkL i ((n : Int) - 1)) a [] ∧ a.tmps.getD 0 undef = .func (.yield lo) #[] #[] ∧ a.tmps.size = 19 ∧ a.defers = []
  let Q : Exit → Act → World → Prop := fun e a W => (e = .normal ∨ e = .ret) ∧ a.defers = [] ∧ ((∃ ψ, J M ψ W) ∨ Jx W)
  have reads : ∀ {jj ψ W}, J jj ψ W → ∃ n, Reads ψ ⟨n, K.blks⟩ W ∧ ψ n = none := fun {jj ψ W} hj => by
    obtain ⟨_, ⟨n, hn⟩, hr⟩ := hJ jj ψ W hj
    refine ⟨n, fun i B p hB hp => ?_, hn⟩
    obtain ⟨g1, g2⟩ := hr i B hB
    exact g2 p (by rw [← g1]; exact hp)
  have start : ∀ a0 : Act, SOk ψ0 [⟨1, [], .c (.ptr ⟨i, 0, 0, 0⟩)⟩] a0 [] → a0.tmps.getD 0 undef = .func (.yield lo) #[] #[] → a0.tmps.size = 19 → a0.defers = [] →
      (Code.seq (.region i0 r0 false) (.block b0 (.loop (.seq (.seq (.region i1 r1 false) (.cond (.tmp 8) .skip (.exit b0))) (.seq (.block b1 (.seq (.region i3 r3 false) (.cond (.tmp 18) .ret .skip))) (.region i2 r2 false)))))).wpIn Fence.wide 0 P Q a0 w := by
    intro a0 hS0 hY0 hsz0 hd0
    obtain ⟨n0, hr0, hf0⟩ := reads hJ0
    refine wpIn_seq (wpIn_region_list (bk_head h0 hM (hbox n0) hneed hr0 hf0 hS0 hsz0 fun a1 hS1 hY1 hsz1 hd1 => ?_))
    refine wpIn_block ?_
    refine wpIn_loop_ghost' I M ⟨ψ0, Nat.le_refl _, by rw [Nat.sub_self]; exact hJ0, hS1, hY1.trans hY0, hsz1, hd1.trans hd0⟩ ?_
    clear hS0 hS1 hd0 hY0 hsz0 hf0 hr0 hd1 hY1 hsz1
    rintro n a W ⟨ψ, hn, hj, hS, hYa, hsz, hd⟩
    obtain ⟨nx, hr, hfr⟩ := reads hj
    refine wpIn_seq (wpIn_seq (wpIn_region_list (bk_cond h1 hr hfr hS hsz fun a2 hS2 hev hY2 hsz2 hd2 => ?_)))
    by_cases hn0 : n = 0
    · refine wpIn_cond_false (by rw [hev]; simp [hn0]) (wpIn_exit ?_)
      show Exit.inBlock b0 Q (.exit b0) _ _
      simp only [Exit.inBlock, if_true]
      exact ⟨.inl rfl, hd2.trans hd, .inl ⟨ψ, by rw [hn0, Nat.sub_zero] at hj; exact hj⟩⟩
    obtain ⟨m, rfl⟩ : ∃ m, n = m + 1 := ⟨n - 1, by omega⟩
    have hm1 : ((m + 1 : Nat) : Int) - 1 = (m : Int) := by omega
    rw [hm1] at hS2 hev
    refine wpIn_cond_true (by rw [hev]; simp) (wpIn_skip ?_)
    refine wpIn_seq (wpIn_block (wpIn_seq (wpIn_region_list (bk_call (m := m) h3 (by omega) (hbox nx) hneed (hstr nx) (fun l => hel l nx m (by omega)) hr hfr hS2 hsz2 (hY2.trans hYa) fun a3 o7 o8 vs hS3 hvs h7 h8 hY3 hsz3 hd3 => ?_))))
    have hidx : M - 1 - (M - (m + 1)) = m := by omega
    obtain ⟨fn', tm, as', bd, hy, hRd⟩ := hround (M - (m + 1)) ψ W (by omega) hj vs (by
      show F2 (relA ψ) [.c (.int .i64 ((M : Int) - 1 - ((M - (m + 1) : Nat) : Int))), E (M - 1 - (M - (m + 1)))] vs.toList
      rw [hidx, show ((M : Int) - 1 - ((M - (m + 1) : Nat) : Int)) = (m : Int) by omega]
      exact hvs)
    rw [hy, Oper.uponIn_round]
    refine ⟨fun hd => (by cases hd), hRd.mono fun e W' hq => ?_⟩
    rcases hq with ⟨rfl, ψ', hj'⟩ | ⟨rfl, hjx⟩
    · -- go on
      show wpListIn Fence.wide 0 P r3 _ [o8] (a3.put o7.dst (.bool true)) W'
      rw [h7]
      have hS4 := sok_put (x := .bool true) (v := .c (.bool true)) (d := 17) (N := 19) ψ'.le_refl (bk_re hS3 (hJ _ _ _ hj).1 (hJ _ _ _ hj').1 hx0) (fun _ h => h) (by decide) hsz3 (by simp) (π := []) trivial (fun e he => by cases he) (fun _ => rfl) (fun hc => absurd trivial hc)
      obtain ⟨nx', hr', hfr'⟩ := reads hj'
      refine bk_not h8 hr' hfr' hS4 (by rw [put_size]; exact hsz3) fun a5 hS5 hev5 hY5 hsz5 hd5 => ?_
      have hS6 := bk_sub (i := i) (k := (m : Int)) hS5 rfl rfl
      refine wpIn_cond_false (by rw [hev5]; rfl) (wpIn_skip ?_)
      refine wpIn_region_list (bk_next h2 (by omega) hr' hfr' hS6 hsz5 fun a6 hS6 hY6 hsz6 hd6 => ?_)
      refine ⟨m, by omega, ψ', by omega, by rw [show M - m = M - (m + 1) + 1 by omega]; exact hj', hS6, ?_, hsz6, ?_⟩
      · rw [hY6, hY5, getD_put_ne (by decide), hY3, hY2, hYa]
      · rw [hd6, hd5, put_defers', hd3, hd2, hd]
    · show wpListIn Fence.wide 0 P r3 _ [o8] (a3.put o7.dst (.bool false)) W'
      rw [h7]
      have hS4 : SOk (fun _ => none) (⟨17, [], .c (.bool false)⟩ :: []) (a3.put (some 17) (.bool false)) [] := sok_put (Emb.le_refl _) (fun n sl hs => by cases hs) (fun _ h => h) (N := 19) (by decide) hsz3 (by simp) (π := []) trivial (fun e he => by cases he) (fun _ => rfl) (fun hc => absurd trivial hc)
      refine bk_not (K := ⟨0, []⟩) (nx := 0) h8 (fun i B p hB => by simp [getB] at hB) rfl hS4 (by rw [put_size]; exact hsz3) fun a5 hS5 hev5 hY5 hsz5 hd5 => ?_
      refine wpIn_cond_true (by rw [hev5]; rfl) (wpIn_ret ?_)
      exact ⟨.inr rfl, by rw [hd5, put_defers', hd3, hd2, hd], .inr hjx⟩
  refine wpIn_mono (start _ ?_ ?_ ?_ rfl) fun e a W hq => ?_
  · intro n sl hs
    by_cases hn : n = 1
    · subst hn
      rw [slotAt_cons_self] at hs
      cases hs
      refine ⟨rfl, fun _ => ?_, fun hc => absurd trivial hc, trivial, fun e he => by cases he⟩
      have hx : (((#[(.func (.yield lo) #[] #[] : Value)] ++ #[y0]) ++ Array.replicate (fn.ntmps - (#[(.func (.yield lo) #[] #[] : Value)] ++ #[y0]).size) undef)).getD 1 undef = y0 := by simp [hnt]
      rw [hx]
      exact relP_mono (hJ 0 ψ0 w hJ0).1 hx0
    · rw [slotAt_cons_ne hn] at hs; cases hs
  · simp [hnt]
  · simp [hnt]
  · obtain ⟨he, hd, hq⟩ := hq
    have fin : a.defers = [] ∧ ∃ v, (results fn a.tmps).run P W = .ok v W ∧ ((∃ v', Ending.returned v = .returned v') ∧ ((∃ ψ', J M ψ' W) ∨ Jx W)) := by
      refine ⟨hd, .tuple #[], ?_, ⟨_, rfl⟩, hq⟩
      unfold results
      rw [hres]
      simp [go_sem]
    rcases he with rfl | rfl <;> exact fin

end Go.AM
