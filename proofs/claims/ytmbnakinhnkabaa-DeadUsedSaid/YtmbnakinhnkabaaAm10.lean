/- AM: operations that turn the heap, and calls. -/
import Derived.Test.YtmbnakinhnkabaaAm9
namespace Go.AM
set_option linter.unusedVariables false
set_option linter.unusedSimpArgs false
variable {P : Program} {φ : Emb} {w : World}

theorem TrnV.next {H : Heap} {m : Sem Value} {v : AV} {H' : Heap} (h : TrnV P φ H m w v H') : Trn P φ H (do pure (Next.value (← m))) w v H' := by
  obtain ⟨φ', x, w', h1, h2, h3, h4⟩ := h
  exact ⟨φ', w', .inl ⟨x, by simp [Sem.run_bind, h1, go_sem], h2⟩, h3, h4⟩

theorem ld1_no_t {H : Heap} {a : AA} {need : Option Prop} {v : AV} {H' : Heap} (h : ld1 H a = .t need v H') : False := by
  unfold ld1 at h
  repeat' (split at h)
  all_goals simp at h
theorem ldn_no_t {H : Heap} {m : Nat} {a : AA} {need : Option Prop} {v : AV} {H' : Heap} (h : ldn H m a = .t need v H') : False := by
  unfold ldn at h
  repeat' (split at h)
  all_goals simp at h
theorem bin_no_t {op : BinOp} {x y : AV} {need : Option Prop} {v : AV} {H' : Heap} (h : bin op x y = .t need v H') : False := by
  unfold bin at h
  split at h
  · split at h
    · unfold shiftR at h; split at h <;> simp at h
    · split at h
      · unfold arith at h; split at h <;> simp at h
      · simp at h
  · simp at h
theorem eqB_no_t {neg : Bool} {x y : AV} {need : Option Prop} {v : AV} {H' : Heap} (h : eqB neg x y = .t need v H') : False := by
  unfold eqB at h
  repeat' (split at h)
  all_goals simp at h
theorem eqS_no_t {neg : Bool} {ks : List FK} {x y : AV} {need : Option Prop} {v : AV} {H' : Heap} (h : eqS neg ks x y = .t need v H') : False := by
  unfold eqS at h
  repeat' (split at h)
  all_goals simp at h
theorem nilq_no_t {kd : NK} {neg : Bool} {x y : AV} {need : Option Prop} {v : AV} {H' : Heap} (h : nilq kd neg x y = .t need v H') : False := by
  unfold nilq at h
  repeat' (split at h)
  all_goals simp at h
theorem un_no_t {op : UnOp} {x : AV} {need : Option Prop} {v : AV} {H' : Heap} (h : un op x = .t need v H') : False := by
  unfold un at h
  split at h <;> simp at h
theorem slcS_no_t {H : Heap} {k : Nat} {x : AV} {lo hi : Option AV} {need : Option Prop} {v : AV} {H' : Heap} (h : slcS H k x lo hi = .t need v H') : False := by
  unfold slcS at h
  repeat' (split at h)
  all_goals simp at h
theorem fieldOf_no_t {x : AV} {o : Nat} {n : Option Nat} {need : Option Prop} {v : AV} {H' : Heap} (h : fieldOf x o n = .t need v H') : False := by
  unfold fieldOf at h
  repeat' (split at h)
  all_goals simp at h

set_option maxHeartbeats 1000000 in
theorem eqT_no_t {neg : Bool} {x y : AV} {need : Option Prop} {v : AV} {H' : Heap} (h : eqT neg x y = .t need v H') : False := by
  unfold eqT at h; split at h <;> simp at h
theorem idxT_no_t {x y : AV} {need : Option Prop} {v : AV} {H' : Heap} (h : idxT x y = .t need v H') : False := by
  unfold idxT at h; split at h <;> simp at h
theorem cat_no_t {x y : AV} {need : Option Prop} {v : AV} {H' : Heap} (h : cat x y = .t need v H') : False := by
  unfold cat at h; split at h <;> simp at h
set_option maxHeartbeats 2000000 in
theorem op_t {o : Oper} {ao : AOp} (hs : stripOp P o.op = some ao) {s : St} {π : Path} {a : Act} (hg : Gets φ s π a) (hH : HRel φ s.heap w)
    {need : Option Prop} {v : AV} {H' : Heap} (h : aop s π ao = .t need v H') (hn : needP need) : Trn P φ s.heap (execOp a.eval o) w v H' := by
  obtain ⟨dst, op, type, pos, after, guard⟩ := o
  simp only at hs
  cases ao <;> simp only [aop] at h
  case ld1 x => split at h; exact (ld1_no_t h).elim; simp at h
  case ldn n x => split at h; exact (ldn_no_t h).elim; simp at h
  case bin op' x y => exact (bin_no_t h).elim
  case eqB n x y => exact (eqB_no_t h).elim
  case eqS n ks x y => exact (eqS_no_t h).elim
  case nilq kd n x y => exact (nilq_no_t h).elim
  case un op' x => exact (un_no_t h).elim
  case slc k x lo hi => exact (slcS_no_t h).elim
  case fld x o' n => exact (fieldOf_no_t h).elim
  case eqT n x y => exact (eqT_no_t h).elim
  case idxT x y => exact (idxT_no_t h).elim
  case cat x y => exact (cat_no_t h).elim
  case tob t x =>
    cases op <;> simp only [stripOp, Option.map_eq_some_iff, reduceCtorEq, and_false, exists_false] at hs
    case convert src dt x' =>
      split at hs
      · simp at hs
      · rename_i e y hu1 hu2 hy
        split at hs
        · rename_i he
          simp only [Option.some.injEq, AOp.tob.injEq] at hs
          obtain ⟨rfl, rfl⟩ := hs
          have := (tob_ok (P := P) hH hu1 hu2 he (hg.get x' y hy) h).next
          obtain ⟨φ', w', h1, h2, h3⟩ := this
          exact ⟨φ', w', h1, h2, h3⟩
        · simp at hs
      · simp at hs
    all_goals (exfalso; revert hs; (repeat' split) <;> simp_all)
  case cpy k x y =>
    cases op <;> simp only [stripOp, Option.map_eq_some_iff, reduceCtorEq, and_false, exists_false] at hs
    case call c =>
      obtain ⟨callee, args, ts⟩ := c
      cases callee with
      | invoke r m => simp [stripOp] at hs
      | value f => simp only [stripOp] at hs; split at hs <;> simp at hs
      | builtin bi =>
        cases bi <;> try (simp [stripOp] at hs; done)
        case copy =>
          simp only [stripOp] at hs
          split at hs
          · rename_i x0 y0 t u hargs hts
            split at hs
            · rename_i e' x' y' hu1 hx hy
              simp only [Option.map_eq_some_iff, AOp.cpy.injEq] at hs
              obtain ⟨k', hk, rfl, rfl, rfl⟩ := hs
              have ha : args.map a.eval = #[a.eval x0, a.eval y0] := by
                have : args = #[x0, y0] := by rw [← hargs]
                subst this
                simp only [List.map_toArray, List.map_cons, List.map_nil]
              have ht : ts = #[t, u] := by rw [← hts]
              obtain ⟨cs, hcs⟩ := run_builtin (P := P) (ρ := a.eval) (o := ⟨dst, .call ⟨.builtin .copy, args, ts⟩, type, pos, after, guard⟩) rfl
              have := (cpy_ok (P := P) (u := u) (ty := type) hH hu1 hk (hg.get x0 x' hx) (hg.get y0 y' hy) h hn).next
              obtain ⟨φ', w', h1, h2, h3⟩ := this
              refine ⟨φ', w', ?_, h2, h3⟩
              rw [hcs, ha, ht]
              exact h1
            · simp at hs
          · simp at hs
        case clear =>
          simp only [stripOp] at hs
          split at hs
          · split at hs
            · split at hs
              · split at hs <;> simp at hs
              · simp at hs
            · simp at hs
          · simp at hs
        case append =>
          simp only [stripOp] at hs
          split at hs
          · split at hs
            · split at hs
              · split at hs <;> simp at hs
              · simp at hs
            · simp at hs
          · simp at hs
        case len =>
          simp only [stripOp] at hs
          split at hs
          · split at hs <;> simp at hs
          · simp at hs
    all_goals (exfalso; revert hs; (repeat' split) <;> simp_all)
  case clr k z x =>
    cases op <;> simp only [stripOp, Option.map_eq_some_iff, reduceCtorEq, and_false, exists_false] at hs
    case call c =>
      obtain ⟨callee, args, ts⟩ := c
      cases callee with
      | invoke r m => simp [stripOp] at hs
      | value f => simp only [stripOp] at hs; split at hs <;> simp at hs
      | builtin bi =>
        cases bi <;> try (simp [stripOp] at hs; done)
        case clear =>
          simp only [stripOp] at hs
          split at hs
          · rename_i x0 t hargs hts
            split at hs
            · rename_i e' x' hu1 hx
              split at hs
              · rename_i z' k' hz' hk'
                split at hs
                · rename_i hcc
                  simp only [Option.some.injEq, AOp.clr.injEq] at hs
                  obtain ⟨rfl, rfl, rfl⟩ := hs
                  have ha : args.map a.eval = #[a.eval x0] := by
                    have : args = #[x0] := by rw [← hargs]
                    subst this
                    simp only [List.map_toArray, List.map_cons, List.map_nil]
                  have ht : ts = #[t] := by rw [← hts]
                  obtain ⟨cs, hcs⟩ := run_builtin (P := P) (ρ := a.eval) (o := ⟨dst, .call ⟨.builtin .clear, args, ts⟩, type, pos, after, guard⟩) rfl
                  have := (clr_ok (P := P) (ty := type) hH hu1 hz' hcc.1 hcc.2 (hg.get x0 x' hx) h hn).next
                  obtain ⟨φ', w', h1, h2, h3⟩ := this
                  refine ⟨φ', w', ?_, h2, h3⟩
                  rw [hcs, ha, ht]
                  exact h1
                · simp at hs
              · simp at hs
            · simp at hs
          · simp at hs
        case copy =>
          simp only [stripOp] at hs
          split at hs
          · split at hs <;> simp at hs
          · simp at hs
        case append =>
          simp only [stripOp] at hs
          split at hs
          · split at hs
            · split at hs
              · split at hs <;> simp at hs
              · simp at hs
            · simp at hs
          · simp at hs
        case len =>
          simp only [stripOp] at hs
          split at hs
          · split at hs <;> simp at hs
          · simp at hs
    all_goals (exfalso; revert hs; (repeat' split) <;> simp_all)
  case st1 x y =>
    cases op <;> simp only [stripOp, Option.map_eq_some_iff, reduceCtorEq, and_false, exists_false] at hs
    case store t a' v' =>
      split at hs
      · rename_i x' y' ht hsz hx hy
        simp only [Option.some.injEq, AOp.st1.injEq] at hs
        obtain ⟨rfl, rfl⟩ := hs
        split at h
        · rename_i p c e1 e2
          have g1 := hg.get a' x' hx
          have g2 := hg.get v' y' hy
          rw [e1] at g1
          rw [e2] at g2
          obtain ⟨rfl, w', hr, h1, h2⟩ := st1_ok (P := P) hH hsz h hn g1 g2
          exact ⟨φ, w', .inr ⟨by simp only [execOp, Sem.run_bind, hr, Result.andThen_ok, Sem.run_pure], rfl⟩, h1, h2⟩
        · simp at h
      · simp at hs
      · simp at hs
    all_goals (exfalso; revert hs; (repeat' split) <;> simp_all)
  case stn n x y =>
    cases op <;> simp only [stripOp, Option.map_eq_some_iff, reduceCtorEq, and_false, exists_false] at hs
    case store t a' v' =>
      split at hs
      · simp at hs
      · rename_i n' x' y' ht hsz hx hy
        simp only [Option.some.injEq, AOp.stn.injEq] at hs
        obtain ⟨rfl, rfl, rfl⟩ := hs
        split at h
        · rename_i p c e1 e2
          have g1 := hg.get a' x' hx
          have g2 := hg.get v' y' hy
          rw [e1] at g1
          rw [e2] at g2
          obtain ⟨rfl, w', hr, h1, h2⟩ := stn_ok (P := P) hH hsz h hn g1 g2
          exact ⟨φ, w', .inr ⟨by simp only [execOp, Sem.run_bind, hr, Result.andThen_ok, Sem.run_pure], rfl⟩, h1, h2⟩
        · simp at h
      · simp at hs
    all_goals (exfalso; revert hs; (repeat' split) <;> simp_all)
  case app k b e x y =>
    cases op <;> simp only [stripOp, Option.map_eq_some_iff, reduceCtorEq, and_false, exists_false] at hs
    case call c =>
      obtain ⟨callee, args, ts⟩ := c
      cases callee with
      | invoke r m => simp [stripOp] at hs
      | value f => simp only [stripOp] at hs; split at hs <;> simp at hs
      | builtin bi =>
        cases bi <;> try (simp [stripOp] at hs; done)
        case clear =>
          simp only [stripOp] at hs
          split at hs
          · split at hs
            · split at hs
              · split at hs <;> simp at hs
              · simp at hs
            · simp at hs
          · simp at hs
        case copy =>
          simp only [stripOp] at hs
          split at hs
          · split at hs <;> simp at hs
          · simp at hs
        case append =>
          simp only [stripOp] at hs
          split at hs
          · rename_i x0 y0 t u hargs hts
            split at hs
            · rename_i e' x' y' hu1 hx hy
              split at hs
              · rename_i k' b' z hk hb hz
                split at hs
                · rename_i hc
                  obtain ⟨rfl, hk0, hb0, hzk⟩ := hc
                  simp only [Option.some.injEq, AOp.app.injEq] at hs
                  obtain ⟨rfl, rfl, rfl, rfl, rfl⟩ := hs
                  have ha : args.map a.eval = #[a.eval x0, a.eval y0] := by
                    have : args = #[x0, y0] := by rw [← hargs]
                    subst this
                    simp only [List.map_toArray, List.map_cons, List.map_nil]
                  have ht : ts = #[t, t] := by rw [← hts]
                  obtain ⟨cs, hcs⟩ := run_builtin (P := P) (ρ := a.eval) (o := ⟨dst, .call ⟨.builtin .append, args, ts⟩, type, pos, after, guard⟩) rfl
                  have := (app_ok (P := P) (ty := type) hH hu1 hk hb hz hk0 hb0 hzk (hg.get x0 x' hx) (hg.get y0 y' hy) h hn).next
                  obtain ⟨φ', w', h1, h2, h3⟩ := this
                  refine ⟨φ', w', ?_, h2, h3⟩
                  rw [hcs, ha, ht]
                  exact h1
                · simp at hs
              · simp at hs
            · simp at hs
          · simp at hs
        case len =>
          simp only [stripOp] at hs
          split at hs
          · split at hs <;> simp at hs
          · simp at hs
    all_goals (exfalso; revert hs; (repeat' split) <;> simp_all)
  all_goals (exfalso; revert h; (repeat' split) <;> simp)

theorem argsOf_rel {g : Opd → AV} {ρ : Operand → Value} (hg : ∀ x y, opd x = some y → relA φ (g y) (ρ x)) : ∀ (l : List Operand) (m : List Opd), opds l = some m → F2 (relA φ) (argsOf g m) (l.map ρ)
  | [], m, h => by simp only [opds, Option.some.injEq] at h; subst h; exact .nil
  | x :: r, m, h => by
    simp only [opds] at h
    split at h
    · rename_i y l hy hl
      simp only [Option.some.injEq] at h
      subst h
      exact .cons (hg x y hy) (argsOf_rel hg r l hl)
    · simp at h

theorem appL_eq (a b : List AV) : appL a b = a ++ b := by induction a <;> simp [appL, *]
theorem ptrsOf_rel {l : List AA} {m : List Value} (h : F2 (relP φ) l m) : F2 (relA φ) (ptrsOf l) m := by
  induction h with
  | nil => exact .nil
  | cons h _ ih => exact .cons h ih

/-- A function with a body of its own. -/
def Enters (P : Program) (f : FuncId) : Prop := ∃ fn, P.funcs[f]? = some fn ∧ (fn.name == "runtime.NumGoroutine") = false ∧ fn.body.isNone = false

theorem op_call {o : Oper} {ao : AOp} (hs : stripOp P o.op = some ao) {s : St} {π : Path} {a : Act} (hg : Gets φ s π a) {f : FuncId} {args : List AV} (h : aop s π ao = .call f args) (hf : Enters P f) :
    ∃ xs, (∀ w, (execOp a.eval o).run P w = .ok (.enter f xs) w) ∧ F2 (relA φ) args xs.toList := by
  obtain ⟨dst, op, type, pos, after, guard⟩ := o
  simp only at hs
  cases ao <;> simp only [aop] at h
  case call fo as =>
    split at h
    · rename_i g l m e
      simp only [Res.call.injEq] at h
      obtain ⟨rfl, rfl⟩ := h
      cases op <;> simp only [stripOp, Option.map_eq_some_iff, reduceCtorEq, and_false, exists_false] at hs
      case call c =>
        obtain ⟨callee, args, ts⟩ := c
        cases callee with
        | invoke r m => simp [stripOp] at hs
        | builtin bi =>
          exfalso
          cases bi <;> try (simp [stripOp] at hs; done)
          all_goals (simp only [stripOp] at hs; revert hs; (repeat' split) <;> simp)
        | value fv =>
          simp only [stripOp] at hs
          split at hs
          · rename_i f' as' hf' has
            simp only [Option.some.injEq, AOp.call.injEq] at hs
            obtain ⟨rfl, rfl⟩ := hs
            have hv := hg.get fv f' hf'
            rw [e] at hv
            obtain ⟨l', m', hev, hl, hm⟩ := hv
            obtain ⟨fn, q1, q2, q3⟩ := hf
            refine ⟨l' ++ args.map a.eval ++ m', fun w => ?_, ?_⟩
            · simp only [execOp, resolve, hev, Deferred.ofValue, Sem.run_bind, Sem.run_pure, Result.andThen_ok, invoke, callFunc, run_program, q1, q2, q3, Bool.false_eq_true, if_false]
            · rw [appL_eq, appL_eq]
              simp only [Array.toList_append, Array.toList_map, List.append_assoc]
              exact (ptrsOf_rel hl).append ((argsOf_rel hg.get _ _ has).append (ptrsOf_rel hm))
          · simp at hs
      all_goals (exfalso; revert hs; (repeat' split) <;> simp_all)
    · simp at h
    · simp at h
  all_goals (exfalso; revert h)
  all_goals first
    | (unfold ld1; (repeat' split) <;> simp; done)
    | (unfold ldn; (repeat' split) <;> simp; done)
    | ((repeat' split) <;> simp; done)
    | (unfold bin shiftR arith; (repeat' split) <;> simp; done)
    | (unfold eqB; (repeat' split) <;> simp; done)
    | (unfold eqS; (repeat' split) <;> simp; done)
    | (unfold nilq; (repeat' split) <;> simp; done)
    | (unfold un; (repeat' split) <;> simp; done)
    | (unfold slcS; (repeat' split) <;> simp; done)
    | (unfold fieldOf; (repeat' split) <;> simp; done)
    | (unfold st1; (repeat' split) <;> simp; done)
    | (unfold stn; (repeat' split) <;> simp; done)
    | (unfold app; (repeat' split) <;> simp; done)
    | (unfold eqT; (repeat' split) <;> simp; done)
    | (unfold idxT; (repeat' split) <;> simp; done)
    | (unfold cat; (repeat' split) <;> simp; done)
    | (unfold cpy; (repeat' split) <;> simp; done)
    | (unfold tob; (repeat' split) <;> simp; done)
    | (unfold clr; (repeat' split) <;> simp; done)

end Go.AM
