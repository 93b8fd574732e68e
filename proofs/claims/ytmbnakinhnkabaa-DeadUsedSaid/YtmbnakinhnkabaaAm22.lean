/- AM: what holds of less holds of more; loops of a known number of rounds. -/
import Derived.Test.YtmbnakinhnkabaaAm21
namespace Go.AM
set_option linter.unusedVariables false
set_option linter.unusedSimpArgs false
variable {P : Program} {Con' : ConT} {Le : LeT}

theorem callW_mono {f : FuncId} {args : List AV} {s : St} {π : Path} {dst : Option Nat} {tl : Bool} {k : St → (St → Prop) → Prop} {Q Q' : St → Prop} (hk : ∀ s, k s Q → k s Q') (h : callW Con' f args s π dst tl k Q) : callW Con' f args s π dst tl k Q' := by
  unfold callW at h ⊢
  split
  · obtain ⟨R, h1, h2⟩ := h
    exact ⟨R, h1, fun v H hv => hk _ (h2 v H hv)⟩
  · rcases h with ⟨v, N, h0, h1, h2⟩ | ⟨h0, R, h1, h2⟩
    · exact .inl ⟨v, N, h0, h1, hk _ h2⟩
    · exact .inr ⟨h0, R, h1, fun v H hv => hk _ (h2 v H hv)⟩
  · obtain ⟨v, N, h0, h1, h2⟩ := h
    exact ⟨v, N, h0, h1, hk _ h2⟩

theorem rwp_mono {Q Q' : St → Prop} (hQ : ∀ s, Q s → Q' s) : ∀ (l : List AOper) (s : St), rwp Con' l s Q → rwp Con' l s Q'
  | [], s, h => hQ s h
  | o :: r, s, h => by
    have ih := rwp_mono hQ r
    simp only [rwp] at h ⊢
    cases hg : gpath s o.guard with
    | none => rw [hg] at h; exact h.elim
    | some π =>
      rw [hg] at h
      simp only at h ⊢
      cases ha : aop s π o.op with
      | bad => rw [ha] at h; exact h.elim
      | p need v B =>
        rw [ha] at h
        cases need with
        | none => exact ih _ h
        | some p => exact ⟨h.1, ih _ h.2⟩
      | t need v H' =>
        rw [ha] at h
        cases need with
        | none =>
          simp only at h ⊢
          revert h
          split
          · exact ih _
          · exact id
        | some p =>
          simp only at h ⊢
          revert h
          split
          · exact fun h => ⟨h.1, ih _ h.2⟩
          · exact id
      | call f args =>
        rw [ha] at h
        exact callW_mono ih h

theorem awp_mono : ∀ (c : ACode) {Le : LeT} (s : St) {Q Q' : AEx → St → Prop}, (∀ e s, Q e s → Q' e s) → awp Con' Le c s Q → awp Con' Le c s Q'
  | .range it le g ps a b, Le, s, Q, Q', hQ, h => by
    simp only [awp] at h ⊢
    obtain ⟨gf, caps, K, N, x, I, h1, h2, h3, h4, h5, h6, h7⟩ := h
    refine ⟨gf, caps, K, N, x, I, h1, h2, h3, h4, h5, fun j H hj hI => awp_mono a _ (fun e s1 hq => ?_) (h6 j H hj hI), fun H hI => hQ _ _ (h7 H hI)⟩
    cases e with
    | normal =>
      refine awp_mono b _ (fun e s2 hq => ?_) hq
      cases e with
      | normal => exact hq
      | exit id => obtain ⟨s3, hl, hq⟩ := hq; exact ⟨s3, hl, hQ _ _ hq⟩
      | ret => obtain ⟨s3, hl, hq⟩ := hq; exact ⟨s3, hl, hQ _ _ hq⟩
    | exit id => exact hq
    | ret => exact hq
  | .skip, Le, s, Q, Q', hQ, h => hQ _ _ h
  | .region ops, Le, s, Q, Q', hQ, h => rwp_mono (fun s ⟨s'', hl, h⟩ => ⟨s'', hl, hQ _ _ h⟩) ops s h
  | .seq a b, Le, s, Q, Q', hQ, h => by
    simp only [awp] at h ⊢
    refine awp_mono a s (fun e s' h => ?_) h
    cases e with
    | normal => exact awp_mono b s' hQ h
    | exit id => exact hQ _ _ h
    | ret => exact hQ _ _ h
  | .cond c t e, Le, s, Q, Q', hQ, h => by
    simp only [awp] at h ⊢
    revert h
    split
    · rename_i b hb
      cases b with
      | true => exact awp_mono t s hQ
      | false => exact awp_mono e s hQ
    · exact id
  | .block id b, Le, s, Q, Q', hQ, h => by
    simp only [awp] at h ⊢
    refine awp_mono b s (fun e s' h => ?_) h
    cases e with
    | normal => exact hQ _ _ h
    | exit j =>
      simp only at h ⊢
      revert h
      split <;> exact hQ _ _
    | ret => exact hQ _ _ h
  | .loop b, Le, s, Q, Q', hQ, h => by
    simp only [awp] at h ⊢
    obtain ⟨I, n, h0, h1⟩ := h
    refine ⟨I, n, h0, fun n s hI => awp_mono b s (fun e s' h => ?_) (h1 n s hI)⟩
    cases e with
    | normal => exact h
    | exit id => exact hQ _ _ h
    | ret => exact hQ _ _ h
  | .exit id, Le, s, Q, Q', hQ, h => hQ _ _ h
  | .ret, Le, s, Q, Q', hQ, h => hQ _ _ h
  | .other, Le, s, Q, Q', hQ, h => h.elim


/-- Rounds of a loop, one behind the other; behind the last one nothing may go on. -/
def unQ (Con : ConT) (Le : LeT) (a : ACode) : Nat → (AEx → St → Prop) → AEx → St → Prop
  | 0, Q => fun e s => match e with
    | .normal => False
    | .exit id => Q (.exit id) s
    | .ret => Q .ret s
  | n + 1, Q => fun e s => match e with
    | .normal => runA Con Le [a] s (unQ Con Le a n Q)
    | .exit id => Q (.exit id) s
    | .ret => Q .ret s

theorem run_awp {a : ACode} {s : St} {Q : AEx → St → Prop} (h : runA Con' Le [a] s Q) : awp Con' Le a s Q := by
  simp only [runA] at h
  refine awp_mono a s (fun e s' h => ?_) h
  cases e <;> exact h

theorem run_of_awp {a : ACode} {s : St} {Q : AEx → St → Prop} (h : awp Con' Le a s Q) : runA Con' Le [a] s Q := by
  simp only [runA]
  refine awp_mono a s (fun e s' h => ?_) h
  cases e <;> exact h

theorem run_unroll (hrefl : ∀ s, Le s s) {a : ACode} {k : List ACode} {s : St} {Q : AEx → St → Prop} (n : Nat)
    (h : runA Con' Le [a] s (unQ Con' Le a n (fun e s => match e with
      | .normal => False
      | .exit id => Q (.exit id) s
      | .ret => Q .ret s))) : runA Con' Le (.loop a :: k) s Q := by
  refine run_loop (fun m s => runA Con' Le [a] s (unQ Con' Le a m (fun e s => match e with
      | .normal => False
      | .exit id => Q (.exit id) s
      | .ret => Q .ret s))) n h fun m s hI => ?_
  have hI := run_awp hI
  have : awp Con' Le a s (loopQ Le (fun m s => runA Con' Le [a] s (unQ Con' Le a m (fun e s => match e with
      | .normal => False
      | .exit id => Q (.exit id) s
      | .ret => Q .ret s))) m Q) := by
    refine awp_mono a s (fun e s' h => ?_) hI
    cases m with
    | zero =>
      cases e with
      | normal => exact h.elim
      | exit id => exact loop_exit h
      | ret => exact loop_ret h
    | succ m =>
      cases e with
      | normal => exact loop_normal m s' (Nat.lt_succ_self m) (hrefl s') h
      | exit id => exact loop_exit h
      | ret => exact loop_ret h
  exact run_of_awp this
/-- The same, step by step. -/
theorem un_normal {a : ACode} {n : Nat} {Q : AEx → St → Prop} {s : St} (h : runA Con' Le [a] s (unQ Con' Le a n Q)) : unQ Con' Le a (n + 1) Q .normal s := h
theorem un_exit {a : ACode} {n i : Nat} {Q : AEx → St → Prop} {s : St} (h : Q (.exit i) s) : unQ Con' Le a n Q (.exit i) s := by cases n <;> exact h
theorem un_ret {a : ACode} {n : Nat} {Q : AEx → St → Prop} {s : St} (h : Q .ret s) : unQ Con' Le a n Q .ret s := by cases n <;> exact h
/-- Behind the rounds that were told. -/
def unE (Q : AEx → St → Prop) : AEx → St → Prop := fun e s => match e with
  | .normal => False
  | .exit id => Q (.exit id) s
  | .ret => Q .ret s
theorem unE_exit {i : Nat} {Q : AEx → St → Prop} {s : St} (h : Q (.exit i) s) : unE Q (.exit i) s := h
theorem unE_ret {Q : AEx → St → Prop} {s : St} (h : Q .ret s) : unE Q .ret s := h
theorem run_rounds {m : Nat} {a : ACode} {k : List ACode} {s : St} {Q : AEx → St → Prop} (n : Nat) (h : runA Con' (LeS m) [a] s (unQ Con' (LeS m) a n (unE Q))) : runA Con' (LeS m) (.loop a :: k) s Q :=
  run_unroll (LeS.refl m) n h
theorem imp_of {π : Path} {p : Prop} (h : p) : imp π p := by
  induction π with
  | nil => exact h
  | cons e r ih => intro _; exact ih
attribute [irreducible] unQ unE


/-- Behind the assignment at the head of a round. -/
def asgQ (Con : ConT) (Le : LeT) (b : ACode) (Q : AEx → St → Prop) : AEx → St → Prop := fun e s => match e with
  | .normal => runA Con Le [b] s Q
  | _ => False
/-- Behind a round. -/
def rngK (Le : LeT) (l : List Slot) (I : Heap → Prop) (Q : AEx → St → Prop) : AEx → St → Prop := rngQ Le l I Q
/-- A range over a function. -/
theorem run_range {it : IterT} {le : Nat → LeT} {g : Opd} {ps : List Nat} {a b : ACode} {k : List ACode} {s : St} {Q : AEx → St → Prop} (gf : FuncId) (caps : List AA) (K : Heap) (N : Nat) (x : Nat → List AV) (I : Nat → Heap → Prop)
    (hg : s.get [] g = .c (.fn gf [] caps)) (hit : it gf caps K N x) (hlen : ∀ j, (x j).length = ps.length) (h0 : I 0 s.heap) (hsub : ∀ j H, I j H → subH K H s.heap.next)
    (hr : ∀ j H, j < N → I j H → runA Con' (le s.heap.next) [a] ⟨putL ps (x j) s.tmps, H⟩ (asgQ Con' (le s.heap.next) b (rngK (le s.heap.next) s.tmps (I (j + 1)) Q)))
    (hend : ∀ H, I N H → runA Con' Le k ⟨s.tmps, H⟩ Q) : runA Con' Le (.range it le g ps a b :: k) s Q := by
  simp only [runA, awp]
  refine ⟨gf, caps, K, N, x, I, hg, hit, hlen, h0, hsub, fun j H hj hI => ?_, fun H hI => hend H hI⟩
  refine awp_mono a _ (fun e s1 hq => ?_) (run_awp (hr j H hj hI))
  cases e with
  | exit id => exact hq.elim
  | ret => exact hq.elim
  | normal =>
    refine awp_mono b _ (fun e s2 hq => ?_) (run_awp hq)
    cases e <;> exact hq
theorem asg_normal {Le : LeT} {b : ACode} {Q : AEx → St → Prop} {s : St} (h : runA Con' Le [b] s Q) : asgQ Con' Le b Q .normal s := h
theorem rng_normal {Le : LeT} {l : List Slot} {I : Heap → Prop} {Q : AEx → St → Prop} {s : St} (s' : St) (hle : Le s s') (h : I s'.heap) : rngK Le l I Q .normal s := ⟨s', hle, h⟩
theorem rng_ret {Le : LeT} {l : List Slot} {I : Heap → Prop} {Q : AEx → St → Prop} {s : St} (s' : St) (hle : Le s s') (h : Q .ret ⟨l, s'.heap⟩) : rngK Le l I Q .ret s := ⟨s', hle, h⟩
theorem rng_exit {Le : LeT} {l : List Slot} {I : Heap → Prop} {Q : AEx → St → Prop} {s : St} {id : Nat} (s' : St) (hle : Le s s') (h : Q (.exit id) ⟨l, s'.heap⟩) : rngK Le l I Q (.exit id) s := ⟨s', hle, h⟩
attribute [irreducible] asgQ rngK

end Go.AM
