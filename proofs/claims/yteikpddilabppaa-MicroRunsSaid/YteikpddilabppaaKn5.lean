/- micro: the chapter's example is so. -/
import Derived.Test.YteikpddilabppaaRea
namespace Go.Proofs.Yteikpddilabppaa
open Go.AM
set_option maxRecDepth 100000
set_option linter.unusedSimpArgs false
set_option linter.unusedVariables false
theorem con16_n (n : Nat) (X : List (Nat × Blk)) (hX : keysLt X n) : Con Try.prog 16 [] ⟨n, X⟩ (fun v H' => v = .agg (codeLa n exC) ∧ H' = addBs ⟨n, X⟩ [opsBk exC true]) := by
  have hd : dropB [] [] X = X := by
    clear hX
    induction X with
    | nil => rfl
    | cons x r ih => simp [dropB, goneB, ih]
  refine (con16.frame (args := []) (H := ⟨n, X⟩) [] rfl trivial trivial hX trivial trivial).weaken ?_
  rintro v H' ⟨v0, H0', ⟨rfl, rfl⟩, rfl, rfl⟩
  refine ⟨rfl, ?_⟩
  simp only [framed, hd]
  rfl
theorem con6_n (c : CodeS) (k : CoreS) (himm : ∀ i, i < c.nops → 0 ≤ (c.ops i).imm) (he : newErr c k = 0) (a n : Nat) (X : List (Nat × Blk)) (wr : Bool) (ha : getB X a = some (opsBk c wr)) (hlt : a < n) (hkl : keysLt X n) :
    Con Try.prog 6 [.agg (codeLa a c), .agg (coreL k)] ⟨n, X⟩ (fun v H' => v = .tup [.c (.ptr ⟨n, 0, 0, 0⟩), .c (.int .i64 0)] ∧ H' = addBs ⟨n, X⟩ [runBa n (n + 1) (n + 2) (newS c k), opsB (newS c k), slotB (newS c k)]) := by
  refine Con.perm (con6_at c k himm a n X wr ha hlt hkl) ?_
  intro v H' h
  rw [if_pos he] at h
  obtain ⟨rfl, rfl⟩ := h
  refine ⟨_, ?_, ?_, rfl, rfl⟩
  · rfl
  · intro q
    simp only [addBs]
    by_cases q1 : q = n
    · subst q1
      rw [getB_cons_ne (by omega), getB_cons_ne (by omega), getB_cons_self, getB_cons_self]
    · by_cases q2 : q = n + 1
      · subst q2
        rw [getB_cons_ne (by omega), getB_cons_self, getB_cons_ne (by omega), getB_cons_self]
      · by_cases q3 : q = n + 1 + 1
        · subst q3
          rw [getB_cons_self, getB_cons_ne (by omega), getB_cons_ne (by omega), getB_cons_self]
        · rw [getB_cons_ne q3, getB_cons_ne q2, getB_cons_ne q1, getB_cons_ne q1, getB_cons_ne q2, getB_cons_ne (by omega)]
def exK (v : Int) : CoreS := ⟨fun i => if i = 1 then v else 0, fun _ => 0, 64, false, false, false, false, 1, false, 0, 0, 0, 0, 0, 0, 0, 0, false⟩
def s0 : RunS := newS exC (exK 8)
def s1 : RunS := nextR s0
def s2 : RunS := nextR s1
def s3 : RunS := tookS s2 ⟨5, false, 0⟩
def s4 : RunS := nextR s3
def t0 : RunS := newS exC (exK 9)
def t1 : RunS := nextR t0
theorem ex_imm : ∀ i, i < exC.nops → 0 ≤ (exC.ops i).imm := by
  intro i hi
  match i, hi with
  | 0, _ => decide
  | 1, _ => decide
  | 2, _ => decide
  | 3, _ => decide
  | 4, _ => decide
  | n + 5, h => exact absurd h (by simp only [exC]; omega)
theorem ex_right : rightS exC = true := by kernel_rfl
theorem ex_err (v : Int) : newErr exC (exK v) = 0 := by
  have : coreBad exC (exK v) = false := rfl
  simp only [newErr, ex_right, this, if_false, Bool.true_eq_false, Bool.false_eq_true]
theorem good0 : GoodS s0 := new_good ex_right ex_imm
theorem good1 : GoodS s1 := (nextR_good good0).1
theorem good2 : GoodS s2 := (nextR_good good1).1
theorem wait2 : isN s2.waits = false := by kernel_rfl
theorem good3 : GoodS s3 := (took_good good2 wait2 _).1
theorem good4 : GoodS s4 := (nextR_good good3).1
theorem wait4 : s4.waits = .none := by kernel_rfl
theorem goodt : GoodS t0 := new_good ex_right ex_imm
attribute [irreducible] s0 s1 s2 s3 s4 t0 t1
theorem s0_def : newS exC (exK 8) = s0 := by unfold s0; rfl
theorem t0_def : newS exC (exK 9) = t0 := by unfold t0; rfl
theorem s1_def : nextR s0 = s1 := by unfold s1; rfl
theorem s2_def : nextR s1 = s2 := by unfold s2; rfl
theorem s3_def : tookS s2 ⟨5, false, 0⟩ = s3 := by unfold s3; rfl
theorem s4_def : nextR s3 = s4 := by unfold s4; rfl
theorem t1_def : nextR t0 = t1 := by unfold t1; rfl
end Go.Proofs.Yteikpddilabppaa
