/- AM: what holds of less holds of more; loops of a known number of rounds. -/
import Derived.Test.YteikpddilabppaaGreatRAm21
namespace Go.AM
set_option linter.unusedVariables false
set_option linter.unusedSimpArgs false
variable {P : Program} {Con' : ConT} {Le : LeT}

theorem callW_mono {f : FuncId} {args : List AV} {s : St} {π : Path} {dst : Option Nat} {tl : Bool} {k : St → (St → Prop) → Prop} {Q Q' : St → Prop} (hk : ∀ s, k s Q → k s Q') (h : callW Con' f args s π dst tl k Q) : callW Con' f args s π dst tl k Q' := by
  unfold callW at h ⊢
  split
  · obtain ⟨R, h1, h2⟩ := h
    exact ⟨R, h1, fun v H hv => hk _ (h2 v H hv)⟩
  · rcases h with ⟨v, N, h0, h1, h2⟩ | ⟨h0, R, h1, h2⟩
    · exact .inl ⟨v, N, h0, h1, hk _ h2⟩
    · exact .inr ⟨h0, R, h1, fun v H hv => hk _ (h2 v H hv)⟩
  · obtain ⟨v, N, h0, h1, h2⟩ := h
    exact ⟨v, N, h0, h1, hk _ h2⟩

theorem rwp_mono {Q Q' : St → Prop} (hQ : ∀ s, Q s → Q' s) : ∀ (l : List AOper) (s : St), rwp Con' l s Q → rwp Con' l s Q'
  | [], s, h => hQ s h
  | o :: r, s, h => by
    have ih := rwp_mono hQ r
    simp only [rwp] at h ⊢
    cases hg : gpath s o.guard with
    | none => rw [hg] at h; exact h.elim
    | some π =>
      rw [hg] at h
      simp only at h ⊢
      cases ha : aop s π o.op with
      | bad => rw [ha] at h; exact h.elim
      | p need v B =>
        rw [ha] at h
        cases need with
        | none => exact ih _ h
        | some p => exact ⟨h.1, ih _ h.2⟩
      | t need v H' =>
        rw [ha] at h
        cases need with
        | none =>
          simp only at h ⊢
          revert h
          split
          · exact ih _
          · exact id
        | some p =>
          simp only at h ⊢
          revert h
          split
          · exact fun h => ⟨h.1, ih _ h.2⟩
          · exact id
      | call f args =>
        rw [ha] at h
        exact callW_mono ih h

theorem awp_mono : ∀ (c : ACode) (s : St) {Q Q' : AEx → St → Prop}, (∀ e s, Q e s → Q' e s) → awp Con' Le c s Q → awp Con' Le c s Q'
  | .skip, s, Q, Q', hQ, h => hQ _ _ h
  | .region ops, s, Q, Q', hQ, h => rwp_mono (fun s ⟨s'', hl, h⟩ => ⟨s'', hl, hQ _ _ h⟩) ops s h
  | .seq a b, s, Q, Q', hQ, h => by
    simp only [awp] at h ⊢
    refine awp_mono a s (fun e s' h => ?_) h
    cases e with
    | normal => exact awp_mono b s' hQ h
    | exit id => exact hQ _ _ h
    | ret => exact hQ _ _ h
  | .cond c t e, s, Q, Q', hQ, h => by
    simp only [awp] at h ⊢
    revert h
    split
    · rename_i b hb
      cases b with
      | true => exact awp_mono t s hQ
      | false => exact awp_mono e s hQ
    · exact id
  | .block id b, s, Q, Q', hQ, h => by
    simp only [awp] at h ⊢
    refine awp_mono b s (fun e s' h => ?_) h
    cases e with
    | normal => exact hQ _ _ h
    | exit j =>
      simp only at h ⊢
      revert h
      split <;> exact hQ _ _
    | ret => exact hQ _ _ h
  | .loop b, s, Q, Q', hQ, h => by
    simp only [awp] at h ⊢
    obtain ⟨I, n, h0, h1⟩ := h
    refine ⟨I, n, h0, fun n s hI => awp_mono b s (fun e s' h => ?_) (h1 n s hI)⟩
    cases e with
    | normal => exact h
    | exit id => exact hQ _ _ h
    | ret => exact hQ _ _ h
  | .exit id, s, Q, Q', hQ, h => hQ _ _ h
  | .ret, s, Q, Q', hQ, h => hQ _ _ h
  | .other, s, Q, Q', hQ, h => h.elim


/-- Rounds of a loop, one behind the other; behind the last one nothing may go on. -/
def unQ (Con : ConT) (Le : LeT) (a : ACode) : Nat → (AEx → St → Prop) → AEx → St → Prop
  | 0, Q => fun e s => match e with
    | .normal => False
    | .exit id => Q (.exit id) s
    | .ret => Q .ret s
  | n + 1, Q => fun e s => match e with
    | .normal => runA Con Le [a] s (unQ Con Le a n Q)
    | .exit id => Q (.exit id) s
    | .ret => Q .ret s

theorem run_awp {a : ACode} {s : St} {Q : AEx → St → Prop} (h : runA Con' Le [a] s Q) : awp Con' Le a s Q := by
  simp only [runA] at h
  refine awp_mono a s (fun e s' h => ?_) h
  cases e <;> exact h

theorem run_of_awp {a : ACode} {s : St} {Q : AEx → St → Prop} (h : awp Con' Le a s Q) : runA Con' Le [a] s Q := by
  simp only [runA]
  refine awp_mono a s (fun e s' h => ?_) h
  cases e <;> exact h

theorem run_unroll (hrefl : ∀ s, Le s s) {a : ACode} {k : List ACode} {s : St} {Q : AEx → St → Prop} (n : Nat)
    (h : runA Con' Le [a] s (unQ Con' Le a n (fun e s => match e with
      | .normal => False
      | .exit id => Q (.exit id) s
      | .ret => Q .ret s))) : runA Con' Le (.loop a :: k) s Q := by
  refine run_loop (fun m s => runA Con' Le [a] s (unQ Con' Le a m (fun e s => match e with
      | .normal => False
      | .exit id => Q (.exit id) s
      | .ret => Q .ret s))) n h fun m s hI => ?_
  have hI := run_awp hI
  have : awp Con' Le a s (loopQ Le (fun m s => runA Con' Le [a] s (unQ Con' Le a m (fun e s => match e with
      | .normal => False
      | .exit id => Q (.exit id) s
      | .ret => Q .ret s))) m Q) := by
    refine awp_mono a s (fun e s' h => ?_) hI
    cases m with
    | zero =>
      cases e with
      | normal => exact h.elim
      | exit id => exact loop_exit h
      | ret => exact loop_ret h
    | succ m =>
      cases e with
      | normal => exact loop_normal m s' (Nat.lt_succ_self m) (hrefl s') h
      | exit id => exact loop_exit h
      | ret => exact loop_ret h
  exact run_of_awp this
/-- The same, step by step. -/
theorem un_normal {a : ACode} {n : Nat} {Q : AEx → St → Prop} {s : St} (h : runA Con' Le [a] s (unQ Con' Le a n Q)) : unQ Con' Le a (n + 1) Q .normal s := h
theorem un_exit {a : ACode} {n i : Nat} {Q : AEx → St → Prop} {s : St} (h : Q (.exit i) s) : unQ Con' Le a n Q (.exit i) s := by cases n <;> exact h
theorem un_ret {a : ACode} {n : Nat} {Q : AEx → St → Prop} {s : St} (h : Q .ret s) : unQ Con' Le a n Q .ret s := by cases n <;> exact h
/-- Behind the rounds that were told. -/
def unE (Q : AEx → St → Prop) : AEx → St → Prop := fun e s => match e with
  | .normal => False
  | .exit id => Q (.exit id) s
  | .ret => Q .ret s
theorem unE_exit {i : Nat} {Q : AEx → St → Prop} {s : St} (h : Q (.exit i) s) : unE Q (.exit i) s := h
theorem unE_ret {Q : AEx → St → Prop} {s : St} (h : Q .ret s) : unE Q .ret s := h
theorem run_rounds {m : Nat} {a : ACode} {k : List ACode} {s : St} {Q : AEx → St → Prop} (n : Nat) (h : runA Con' (LeS m) [a] s (unQ Con' (LeS m) a n (unE Q))) : runA Con' (LeS m) (.loop a :: k) s Q :=
  run_unroll (LeS.refl m) n h
theorem imp_of {π : Path} {p : Prop} (h : p) : imp π p := by
  induction π with
  | nil => exact h
  | cons e r ih => intro _; exact ih
attribute [irreducible] unQ unE

end Go.AM
