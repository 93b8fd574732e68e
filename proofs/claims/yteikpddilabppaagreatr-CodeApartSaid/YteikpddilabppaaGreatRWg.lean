/- bits: the numbers of masks. -/
import Derived.Test.YteikpddilabppaaGreatRWe
namespace Go.Proofs.YteikpddilabppaaGreatR
open Go.AM
set_option maxRecDepth 100000
theorem bits64 : IntKind.i64.bits = 64 := rfl
theorem or_le {x y : BitVec 64} (h : x ||| y = y) : x.toNat ≤ y.toNat := by
  have e : x = x &&& y := by
    have h2 : x = x &&& (x ||| y) := by
      apply BitVec.eq_of_getLsbD_eq
      intro i _
      simp only [BitVec.getLsbD_and, BitVec.getLsbD_or]
      cases x.getLsbD i <;> rfl
    rw [h] at h2
    exact h2
  rw [e, BitVec.toNat_and]
  exact Nat.and_le_right
theorem ofInt_wrap (x : Int) : BitVec.ofInt 64 (IntKind.i64.wrap x) = BitVec.ofInt 64 x := by
  apply BitVec.eq_of_toInt_eq
  rw [BitVec.toInt_ofInt, BitVec.toInt_ofInt, IntKind.wrap_i64]
  simp only [Int.bmod_def]
  omega
theorem orS_le {n b : Int} (hb : 0 ≤ b) (hb' : b < 64) (h : (orS n b != b) = false) : (BitVec.ofInt 64 n).toNat ≤ b.toNat := by
  have h1 : orS n b = b := by simpa using h
  have h2 : BitVec.ofInt 64 n ||| BitVec.ofInt 64 b = BitVec.ofInt 64 b := by
    have h3 := congrArg (BitVec.ofInt 64) h1
    simp only [orS] at h3
    rw [ofInt_wrap, BitVec.ofInt_natCast] at h3
    simp only [bits64] at h3
    rw [BitVec.ofNat_toNat, BitVec.setWidth_eq] at h3
    exact h3
  have h4 := or_le h2
  have h5 : (BitVec.ofInt 64 b).toNat = b.toNat := by
    rw [BitVec.toNat_ofInt]
    omega
  omega
def keyV (n s : Int) : Int := IntKind.i64.wrap (BitVec.ofInt IntKind.i64.bits (IntKind.i64.wrap (n * 2 ^ min 6 IntKind.i64.bits)) ||| BitVec.ofInt IntKind.i64.bits (IntKind.i64.wrap (BitVec.ofInt IntKind.i64.bits (IntKind.i64.wrap (BitVec.ofInt IntKind.i64.bits (if IntKind.i64.signed = true then -1 else IntKind.i64.max) ^^^ BitVec.ofInt IntKind.i64.bits s).toNat) &&& BitVec.ofInt IntKind.i64.bits 63).toNat)).toNat
theorem ofInt_nat (n : Int) : BitVec.ofInt 64 n = BitVec.ofInt 64 ((BitVec.ofInt 64 n).toNat : Int) := by
  rw [BitVec.ofInt_natCast, BitVec.ofNat_toNat, BitVec.setWidth_eq]
theorem keyV_nat (n s : Int) : keyV n s = keyV (BitVec.ofInt 64 n).toNat (BitVec.ofInt 64 s).toNat := by
  unfold keyV
  simp only [bits64]
  rw [ofInt_wrap, ofInt_wrap ((((BitVec.ofInt 64 n).toNat : Nat) : Int) * 2 ^ min 6 64), BitVec.ofInt_mul, BitVec.ofInt_mul, ← ofInt_nat, ← ofInt_nat]
theorem key_dec : ∀ a : Fin 2, ∀ b : Fin 64, 0 ≤ keyV (a.val : Int) (b.val : Int) ∧ keyV (a.val : Int) (b.val : Int) < 128 := by decide +kernel
def sizeV (k : Int) : Int := IntKind.i64.wrap (1 * 2 ^ min (IntKind.i64.wrap (lenS k - 1)).toNat IntKind.i64.bits)
theorem size_dec : ∀ k : Fin 128, 2 ≤ k.val → 0 ≤ IntKind.i64.wrap (lenS (k.val : Int) - 1) ∧ 1 ≤ sizeV (k.val : Int) ∧ 0 ≤ IntKind.i64.wrap (sizeV (k.val : Int) - 1) ∧ IntKind.i64.wrap (sizeV (k.val : Int) - 1) < 64 := by decide +kernel
end Go.Proofs.YteikpddilabppaaGreatR
