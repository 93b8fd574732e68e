/- micro: what is told to be right runs well. -/
import Derived.Test.YteikpddilabppaaNew
namespace Go.Proofs.Yteikpddilabppaa
open Go.AM
set_option maxRecDepth 100000
set_option linter.unusedSimpArgs false
set_option linter.unusedVariables false
theorem rightL_all {c : CodeS} : ∀ (n i : Nat) (set slot : Nat → Bool), rightL c n i set slot = true → ∀ j, i ≤ j → j < i + n → opA c j (c.ops j) = false ∧ ∃ set slot, opB (c.ops j) (fieldT (c.ops j).kind.toNat) set slot = false
  | 0, i, set, slot, h, j, h1, h2 => by omega
  | n + 1, i, set, slot, h, j, h1, h2 => by
    simp only [rightL, Bool.and_eq_true, Bool.not_eq_true', Bool.or_eq_false_iff] at h
    by_cases hj : j = i
    · subst hj; exact ⟨h.1.1, set, slot, h.1.2⟩
    · exact rightL_all n (i + 1) _ _ h.2 j (by omega) (by omega)
theorem op_ok {c : CodeS} {i : Nat} {m : MicroS} {set slot : Nat → Bool} (hp : preBad c = false) (hA : opA c i m = false) (hB : opB m (fieldT m.kind.toNat) set slot = false) (hi : i < c.nops) (himm : 0 ≤ m.imm) : OpOk c.slots.toNat c.nops i m := by
  have hpf := pre_facts hp
  have hk := opA_facts hA
  have hf : fitsS m c.slots = true := by
    simp only [opA, Bool.or_eq_false_iff, Bool.not_eq_false'] at hA
    exact hA.2
  have hs := opA_slot hA ⟨hpf.2.2.2.2.1, hpf.2.2.2.2.2.1⟩
  have hlv : ((m.kind == 20) || (m.kind == 21) || (m.kind == 22)) = ((i : Int) == IntKind.i64.wrap ((c.nops : Int) - 1)) := by
    simp only [opA, Bool.or_eq_false_iff, Bool.not_eq_false'] at hA
    simpa using hA.1.2
  have hw : IntKind.i64.wrap ((c.nops : Int) - 1) = (c.nops : Int) - 1 := by rw [IntKind.wrap_i64]; omega
  rw [hw] at hlv
  simp [opB, regBad, btw] at hB
  refine ⟨hk.1, hk.2, by omega, by omega, by omega, by omega, by omega, by omega, himm, fun h => by have := hs h; omega, fun h => ?_, fun h => ?_, ?_⟩
  · simp only [fitsS, h, if_true] at hf
    simpa using hf
  · have h5 : ¬ (m.kind = 5 ∨ m.kind = 6) := by omega
    simp only [fitsS, h, h5, if_true, if_false] at hf
    simpa using hf
  · constructor
    · intro h
      have : ((m.kind == 20) || (m.kind == 21) || (m.kind == 22)) = true := by simpa [or_assoc] using h
      rw [this] at hlv
      have := (beq_iff_eq).1 hlv.symm
      omega
    · intro h
      have : ((i : Int) == (c.nops : Int) - 1) = true := by rw [beq_iff_eq]; omega
      rw [this] at hlv
      simpa [or_assoc] using hlv
theorem new_good {c : CodeS} {k : CoreS} (h : rightS c = true) (himm : ∀ i, i < c.nops → 0 ≤ (c.ops i).imm) : GoodS (newS c k) := by
  have hp := rightS_pre h
  have hpf := pre_facts hp
  have hr : rightL c c.nops 0 (fun _ => false) (fun _ => false) = true := by
    simp only [rightS, Bool.and_eq_true] at h
    exact h.2
  refine ⟨fun i hi => ?_, hpf.2.2.2.2.2.2.1, ?_, Int.le_refl _, fun _ => rfl, fun _ => ?_, Int.le_refl _, ?_, fun h => (by cases h), ⟨hpf.2.2.1, hpf.2.2.2.1⟩, fun h => (by cases h), fun h => (by cases h), fun h => (by cases h)⟩
  · obtain ⟨hA, set, slot, hB⟩ := rightL_all _ _ _ _ hr i (by omega) (by simpa [newS] using hi)
    exact op_ok hp hA hB hi (himm i hi)
  · show c.nops ≤ 1000000; omega
  · show (0 : Int) < c.nops; omega
  · show (0 : Int) ≤ c.nops; omega
end Go.Proofs.Yteikpddilabppaa
