/- both of chapter 21's answers on which micro-code is right are one. -/
import Derived.Test.YteikpddilabppaaRfc
namespace Go.Proofs.Yteikpddilabppaa
open Go.AM
set_option maxRecDepth 100000
set_option linter.unusedSimpArgs false
set_option linter.unusedVariables false
def hasF (k f : Int) : Bool := andI (fieldT k.toNat) f != 0
def tabOk (k : Int) : Bool :=
  !(eqTb (refW k).1 ⟨#[]⟩) && (hasS (refW k).2 82 == hasF k 1) && (hasS (refW k).2 68 == hasF k 2) && (hasS (refW k).2 65 == hasF k 4) && (hasS (refW k).2 66 == hasF k 8) && (hasS (refW k).2 79 == hasF k 16) && (hasS (refW k).2 73 == hasF k 32) && ((k == 3) == hasF k 64) && ((k == 4) == hasF k 128)
theorem tab_fin : ∀ n : Fin 23, 1 ≤ n.val → tabOk (n.val : Int) = true := by decide +kernel
theorem tab {k : Int} (h1 : 1 ≤ k) (h2 : k ≤ 22) : tabOk k = true := by
  have := tab_fin ⟨k.toNat, by omega⟩ (by show 1 ≤ k.toNat; omega)
  rwa [show ((k.toNat : Nat) : Int) = k by omega] at this
theorem tab_out {k : Int} (h : ¬ (1 ≤ k ∧ k ≤ 22)) : eqTb (refW k).1 ⟨#[]⟩ = true := by
  unfold refW
  (repeat rw [if_neg (by omega)])
  rfl
theorem opR_eq (c : CodeS) (hs : 0 ≤ c.slots) (i : Int) (m : MicroS) (set slot : Nat → Bool) : opR c i m set slot = (opA c i m || opB m (fieldT m.kind.toNat) set slot) := by
  have hsl : ((c.slots.toNat : Nat) : Int) = c.slots := by omega
  by_cases hk : 1 ≤ m.kind ∧ m.kind ≤ 22
  · have ht := tab hk.1 hk.2
    simp only [tabOk, Bool.and_eq_true, beq_iff_eq, Bool.not_eq_true'] at ht
    obtain ⟨⟨⟨⟨⟨⟨⟨⟨t0, t1⟩, t2⟩, t3⟩, t4⟩, t5⟩, t6⟩, t7⟩, t8⟩ := ht
    have e3 : (m.kind != 3) = !hasF m.kind 64 := by rw [← t7]; rfl
    have hb : btw m.kind 1 22 = true := by simp [btw, hk]
    have z : ∀ f, (andI (fieldT m.kind.toNat) f == 0) = !hasF m.kind f := fun f => by simp [hasF, bne]
    have z' : ∀ f, (andI (fieldT m.kind.toNat) f != 0) = hasF m.kind f := fun f => rfl
    simp only [opR, rightR, rightW, bad1, bad2, opA, opB, absent, regBad, t0, t1, t2, t3, t4, t5, t6, e3, hb, hsl, lastK, z, z']
    have c42 : ((4 : Int) != 2) = true := by decide
    have c82 : ((8 : Int) != 2) = true := by decide
    have c22 : ((2 : Int) != 2) = false := by decide
    simp only [c42, c82, c22, Bool.and_true, Bool.and_false, Bool.or_false, Bool.false_and, Bool.false_or, Bool.not_true]
    generalize hasF m.kind 1 = f1
    generalize hasF m.kind 2 = f2
    generalize hasF m.kind 4 = f4
    generalize hasF m.kind 8 = f8
    generalize hasF m.kind 16 = f16
    generalize hasF m.kind 32 = f32
    generalize hasF m.kind 64 = f64
    generalize (m.r != 0) = q1
    generalize (m.d != 0) = q2
    generalize (m.a != 0) = q3
    generalize (m.b != 0) = q4
    generalize (m.order != 0) = q5
    generalize (m.imm != 0) = q6
    generalize btw m.d 0 7 = b1
    generalize btw m.a 0 7 = b2
    generalize btw m.b 0 7 = b3
    generalize set m.a.toNat = s1
    generalize set m.b.toNat = s2
    generalize slot m.imm.toNat = s3
    generalize fitsS m c.slots = ft
    generalize ((m.kind == 20 || m.kind == 21 || m.kind == 22) == (i == IntKind.i64.wrap ((c.nops : Int) - 1))) = la
    simp only [Bool.not_and, Bool.not_or, Bool.not_not]
    ac_rfl
  · have h1 := tab_out hk
    have h2 : btw m.kind 1 22 = false := by
      simp only [btw, Bool.and_eq_false_iff, decide_eq_false_iff_not]
      omega
    simp only [opR, rightR, rightW, bad1, opA, h1, h2, Bool.true_or, Bool.not_true, Bool.false_and, Bool.not_false]
theorem set_eq (m : MicroS) (set slot : Nat → Bool) (hk : 1 ≤ m.kind ∧ m.kind ≤ 22) : setR set m = setN set (fieldT m.kind.toNat) m ∧ slotR slot m = slotN slot (fieldT m.kind.toNat) m := by
  have ht := tab hk.1 hk.2
  simp only [tabOk, Bool.and_eq_true, beq_iff_eq, Bool.not_eq_true'] at ht
  obtain ⟨⟨⟨⟨⟨⟨⟨⟨t0, t1⟩, t2⟩, t3⟩, t4⟩, t5⟩, t6⟩, t7⟩, t8⟩ := ht
  refine ⟨?_, ?_⟩
  · simp only [setR, setN, t2, hasF]
  · simp only [slotR, slotN, t8, hasF]
theorem refL_eq (c : CodeS) (hs : 0 ≤ c.slots) : ∀ (n i : Nat) (set slot : Nat → Bool), refL c n i set slot = rightL c n i set slot
  | 0, _, _, _ => rfl
  | n + 1, i, set, slot => by
    simp only [refL, rightL, opR_eq c hs]
    cases hb : (opA c i (c.ops i) || opB (c.ops i) (fieldT (c.ops i).kind.toNat) set slot) with
    | true => rfl
    | false =>
      have hA : opA c i (c.ops i) = false := by
        simp only [Bool.or_eq_false_iff] at hb
        exact hb.1
      obtain ⟨e1, e2⟩ := set_eq (c.ops i) set slot (opA_facts hA)
      simp only [Bool.false_eq_true, if_false, Bool.not_false, Bool.true_and, e1, e2]
      exact refL_eq c hs n (i + 1) _ _
theorem refRight_eq (c : CodeS) : refRight c = rightS c := by
  cases hp : preBad c with
  | true => simp only [refRight, refPre, rightS, hp, Bool.true_or, Bool.not_true, Bool.false_and]
  | false =>
    have hs := pre_facts hp
    simp only [refRight, refPre, rightS, hp, Bool.false_or, Bool.not_false, Bool.true_and, refL_eq c hs.2.2.2.2.1]
end Go.Proofs.Yteikpddilabppaa
