/- AM: one operation: what the abstract machine says of it holds of the model's run. -/
import Derived.Test.YtmbnakinhnkabaaAm1
import Derived.Test.YtmbnakinhnkabaaAmS
namespace Go.AM
set_option linter.unusedVariables false
set_option linter.unusedSimpArgs false
variable {P : Program}

def Emb.ins (φ : Emb) (n : Nat) (p : Place) : Emb := fun i => if i = n then some p else φ i
theorem Emb.le_ins {φ : Emb} {n : Nat} {p : Place} (h : φ n = none) : φ.le (φ.ins n p) := fun i q hq => by
  unfold Emb.ins
  split
  · rename_i e; subst e; rw [h] at hq; cases hq
  · exact hq
theorem Emb.ins_self (φ : Emb) (n : Nat) (p : Place) : φ.ins n p n = some p := by simp [Emb.ins]

/-- What the operands of an operation under the guards π hold. -/
structure Gets (φ : Emb) (s : St) (π : Path) (a : Act) : Prop where
  get : ∀ x y, opd x = some y → relA φ (s.get π y) (a.eval x)
  sel : ∀ cs x y want c, opd x = some y → s.get π (.t cs) = .c (.bool c) → c = want → relA φ (getsl s π cs y want) (a.eval x)
  cs : ∀ cs, relA φ (s.get π (.t cs)) (a.tmps.getD cs undef)

abbrev Reads (φ : Emb) (H : Heap) (w : World) : Prop := ∀ i B p, getB H.blks i = some B → φ i = some p → BRel φ B p w

theorem cvOf_rel (φ : Emb) {v : Value} {c : CV} (h : cvOf v = some c) : rel φ c v := by
  unfold cvOf at h
  split at h
  case h_9 f a b =>
    split at h
    · rename_i h1 h2
      simp only [Option.some.injEq] at h
      subst h
      exact ⟨a, b, rfl, by rw [h1]; exact .nil, by rw [h2]; exact .nil⟩
    · simp at h
  all_goals (simp only [Option.some.injEq, reduceCtorEq] at h)
  all_goals (subst h; rfl)

theorem cvsOf_rel (φ : Emb) : ∀ (l : List Value) (m : List CV), cvsOf l = some m → F2 (rel φ) m l
  | [], m, h => by simp [cvsOf] at h; subst h; exact .nil
  | v :: r, m, h => by
    simp only [cvsOf] at h
    cases h1 : cvOf v with
    | none => simp [h1] at h
    | some c =>
      cases h2 : cvsOf r with
      | none => simp [h1, h2] at h
      | some l =>
        simp only [h1, h2, Option.some.injEq] at h
        subst h
        exact .cons (cvOf_rel φ h1) (cvsOf_rel φ r l h2)

theorem flat_map_c (l : List CV) : flat (l.map Seg.c) = l := by
  induction l with
  | nil => rfl
  | cons v r ih => simp [flat, Seg.flat, ih]

/-- Constants. -/
theorem opd_const (φ : Emb) {v : Value} {y : Opd} (h : opd (.const v) = some y) : ∃ u, y = .k u ∧ relA φ u v := by
  unfold opd at h
  split at h
  · simp at *
  · rename_i cs heq
    simp only [Operand.const.injEq] at heq
    subst heq
    cases hc : cvsOf cs.toList with
    | none => simp [hc] at h
    | some l =>
      simp only [hc, Option.map_some, Option.some.injEq] at h
      exact ⟨_, h.symm, cs, rfl, by rw [flat_map_c]; exact cvsOf_rel φ _ _ hc⟩
  · rename_i v' _ heq
    simp only [Operand.const.injEq] at heq
    subst heq
    cases hc : cvOf v with
    | none => simp [hc] at h
    | some c =>
      simp only [hc, Option.map_some, Option.some.injEq] at h
      exact ⟨_, h.symm, cvOf_rel φ hc⟩
  · simp at *
  · simp at *

theorem opd_func (φ : Emb) {f : FuncId} {y : Opd} (h : opd (.func f) = some y) : ∃ u, y = .k u ∧ relA φ u (.func (.func f) #[] #[]) := by
  simp only [opd, Option.some.injEq] at h
  exact ⟨_, h.symm, ⟨#[], #[], rfl, .nil, .nil⟩⟩

/-! ### Zero values -/
theorem zeroOf_rel (φ : Emb) {t : TypeId} {l : List Seg} (h : zeroOf P t = some l) :
    ∃ i z, P.info? t = some i ∧ i.zero = some z ∧ F2 (rel φ) (flat l) z.cells.toList := by
  unfold zeroOf at h
  split at h
  · rename_i i hi
    split at h
    · rename_i z hz
      split at h
      · rename_i sh cs _ hc
        split at h
        · rename_i l' _
          split at h
          · rename_i he
            simp only [Option.some.injEq] at h
            subst h
            exact ⟨i, z, hi, hz, by rw [eqL_eq he]; exact cvsOf_rel φ _ _ hc⟩
          · simp at h
        · simp at h
      · simp at h
    · simp at h
  · simp at h

theorem run_zeroValue {t : TypeId} {i : TypeInfo} {z : Value} (hi : P.info? t = some i) (hz : i.zero = some z) (w : World) : (zeroValue t).run P w = .ok z w := by
  simp [zeroValue, typeInfo, hi, hz, go_sem]
theorem run_underlying' {t : TypeId} {d : TypeDesc} (h : P.underlying t = some d) (w : World) : (underlying t).run P w = .ok d w := by
  simp [underlying, h, go_sem]
theorem run_sizeOf {t : TypeId} {n : Nat} (h : sizeT P t = some n) (w : World) : (sizeOf t).run P w = .ok n w := by
  unfold sizeT at h
  simp only [Option.map_eq_some_iff] at h
  obtain ⟨i, hi, rfl⟩ := h
  simp [sizeOf, typeInfo, hi, go_sem]
theorem run_isAgg {t : TypeId} {b : Bool} (h : aggT P t = some b) (w : World) : (isAgg t).run P w = .ok b w := by
  unfold aggT at h
  unfold isAgg
  split at h <;> simp only [Option.some.injEq, reduceCtorEq] at h <;> subst h <;> rename_i hu
  · simp [go_sem, run_underlying' hu]
  · simp [go_sem, run_underlying' hu]
  · rename_i d _ _
    cases d <;> simp_all [go_sem, run_underlying' hu]

end Go.AM
