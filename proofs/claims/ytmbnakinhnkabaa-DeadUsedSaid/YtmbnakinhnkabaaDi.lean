/- ir: kindOf as a relation. -/
import Derived.Test.YtmbnakinhnkabaaDh
namespace Go.Proofs.Ytmbnakinhnkabaa
open Go.AM
set_option maxRecDepth 100000
set_option linter.unusedSimpArgs false
set_option linter.unusedVariables false
/-- What kindOf answers: the kind's fields; its function may hold blocks of its own. -/
def KindR (k : Int) (H : Heap) : Post := fun v H' =>
  (∃ w r i od a g, v = kindV (kindL w r i od (usesS k) (defS k) (endS k) a (.fn g [] [])) true ∧ H' = H) ∨
  (∃ w r i od a t, v = kindV (kindL w r i od (usesS k) (defS k) (endS k) a (.fn 98 [] [⟨H.next, 0, 0, 0⟩])) true ∧ H' = addBs H [boxW t]) ∨
  (∃ w r i od a c g, v = kindV (kindL w r i od (usesS k) (defS k) (endS k) a (.fn 99 [] [⟨H.next + 1, 0, 0, 0⟩])) true ∧ H' = addBs H [intsW c g, slB H.next c true]) ∨
  (v = kindV (kindL ⟨#[]⟩ false false false (usesS k) (defS k) (endS k) false .nilfn) false ∧ H' = H)
theorem kind_R (k : Int) (n : Nat) (X : List (Nat × Blk)) (hkl : keysLt X n) : Con Try.prog 46 [.c (.int .i64 k)] ⟨n, X⟩ (KindR k ⟨n, X⟩) := by
  by_cases h1 : k = 1
  · subst h1
    exact (kind_1 _).weaken (by rintro v H' ⟨rfl, rfl⟩; exact (.inl ⟨_, _, _, _, _, _, rfl, rfl⟩))
  by_cases h2 : k = 2
  · subst h2
    exact (kind_2 n X hkl).weaken (by rintro v H' ⟨rfl, rfl⟩; exact .inr (.inl ⟨_, _, _, _, _, _, rfl, rfl⟩))
  by_cases h3 : k = 3
  · subst h3
    exact (kind_3 n X hkl).weaken (by rintro v H' ⟨rfl, rfl⟩; exact .inr (.inl ⟨_, _, _, _, _, _, rfl, rfl⟩))
  by_cases h4 : k = 4
  · subst h4
    exact (kind_4 _).weaken (by rintro v H' ⟨rfl, rfl⟩; exact (.inl ⟨_, _, _, _, _, _, rfl, rfl⟩))
  by_cases h5 : k = 5
  · subst h5
    exact (kind_5 _).weaken (by rintro v H' ⟨rfl, rfl⟩; exact (.inl ⟨_, _, _, _, _, _, rfl, rfl⟩))
  by_cases h6 : k = 6
  · subst h6
    exact (kind_6 n X hkl).weaken (by rintro v H' ⟨rfl, rfl⟩; exact .inr (.inl ⟨_, _, _, _, _, _, rfl, rfl⟩))
  by_cases h7 : k = 7
  · subst h7
    exact (kind_7 n X hkl).weaken (by rintro v H' ⟨rfl, rfl⟩; exact .inr (.inl ⟨_, _, _, _, _, _, rfl, rfl⟩))
  by_cases h8 : k = 8
  · subst h8
    exact (kind_8 _).weaken (by rintro v H' ⟨rfl, rfl⟩; exact (.inl ⟨_, _, _, _, _, _, rfl, rfl⟩))
  by_cases h9 : k = 9
  · subst h9
    exact (kind_9 n X hkl).weaken (by rintro v H' ⟨rfl, rfl⟩; exact .inr (.inr (.inl ⟨_, _, _, _, _, _, _, rfl, rfl⟩)))
  by_cases h10 : k = 10
  · subst h10
    exact (kind_10 n X hkl).weaken (by rintro v H' ⟨rfl, rfl⟩; exact .inr (.inr (.inl ⟨_, _, _, _, _, _, _, rfl, rfl⟩)))
  by_cases h11 : k = 11
  · subst h11
    exact (kind_11 n X hkl).weaken (by rintro v H' ⟨rfl, rfl⟩; exact .inr (.inr (.inl ⟨_, _, _, _, _, _, _, rfl, rfl⟩)))
  by_cases h12 : k = 12
  · subst h12
    exact (kind_12 n X hkl).weaken (by rintro v H' ⟨rfl, rfl⟩; exact .inr (.inr (.inl ⟨_, _, _, _, _, _, _, rfl, rfl⟩)))
  by_cases h13 : k = 13
  · subst h13
    exact (kind_13 _).weaken (by rintro v H' ⟨rfl, rfl⟩; exact (.inl ⟨_, _, _, _, _, _, rfl, rfl⟩))
  by_cases h14 : k = 14
  · subst h14
    exact (kind_14 _).weaken (by rintro v H' ⟨rfl, rfl⟩; exact (.inl ⟨_, _, _, _, _, _, rfl, rfl⟩))
  by_cases h15 : k = 15
  · subst h15
    exact (kind_15 _).weaken (by rintro v H' ⟨rfl, rfl⟩; exact (.inl ⟨_, _, _, _, _, _, rfl, rfl⟩))
  by_cases h16 : k = 16
  · subst h16
    exact (kind_16 _).weaken (by rintro v H' ⟨rfl, rfl⟩; exact (.inl ⟨_, _, _, _, _, _, rfl, rfl⟩))
  by_cases h17 : k = 17
  · subst h17
    exact (kind_17 _).weaken (by rintro v H' ⟨rfl, rfl⟩; exact (.inl ⟨_, _, _, _, _, _, rfl, rfl⟩))
  by_cases h18 : k = 18
  · subst h18
    exact (kind_18 _).weaken (by rintro v H' ⟨rfl, rfl⟩; exact (.inl ⟨_, _, _, _, _, _, rfl, rfl⟩))
  have hno : noKind k := by simp [noKind, *]
  refine (kind_no k hno _).weaken ?_
  rintro v H' ⟨rfl, rfl⟩
  refine .inr (.inr (.inr ⟨?_, rfl⟩))
  have e1 : usesS k = 0 := by simp [usesS, *]
  have e2 : defS k = false := by simp [defS, *]
  have e3 : endS k = false := by simp [endS, *]
  rw [e1, e2, e3]
  rfl
end Go.Proofs.Ytmbnakinhnkabaa
