/- words: fields as quotients and remainders. -/
import Derived.Test.YteikpddilabppaaGreatRWa
import Derived.Laws.Bits64
namespace Go.Proofs.YteikpddilabppaaGreatR
open Go.AM
set_option linter.unusedVariables false
theorem or_mid {w x at_ many : Nat} (hx : x < 2 ^ many) (h0 : w / 2 ^ at_ % 2 ^ many = 0) : w ||| x * 2 ^ at_ = w + x * 2 ^ at_ := by
  have hlo : w % 2 ^ at_ < 2 ^ at_ := Nat.mod_lt _ (Nat.two_pow_pos _)
  have hw : w = (w / 2 ^ at_) <<< at_ ||| w % 2 ^ at_ := by
    rw [← Nat.shiftLeft_add_eq_or_of_lt hlo, Nat.shiftLeft_eq, Nat.mul_comm]
    exact (Nat.div_add_mod w (2 ^ at_)).symm
  have hq : w / 2 ^ at_ = (w / 2 ^ at_ / 2 ^ many) <<< many := by
    rw [Nat.shiftLeft_eq]
    have := Nat.div_add_mod (w / 2 ^ at_) (2 ^ many)
    rw [h0, Nat.add_zero, Nat.mul_comm] at this
    exact this.symm
  have hqx : w / 2 ^ at_ ||| x = w / 2 ^ at_ + x := by
    rw [hq, ← Nat.shiftLeft_add_eq_or_of_lt hx]
  have e : w ||| x * 2 ^ at_ = (w / 2 ^ at_ ||| x) <<< at_ ||| w % 2 ^ at_ := by
    rw [Nat.shiftLeft_or_distrib, ← Nat.shiftLeft_eq]
    conv => lhs; rw [hw]
    rw [Nat.or_assoc, Nat.or_assoc, Nat.or_comm (w % 2 ^ at_)]
  rw [e, ← Nat.shiftLeft_add_eq_or_of_lt hlo, hqx, Nat.shiftLeft_eq, Nat.add_mul]
  have := Nat.div_add_mod w (2 ^ at_)
  rw [Nat.mul_comm] at this
  omega
theorem u32_of {n : Nat} (h : n < 4294967296) : IntKind.u32.wrap (n : Int) = n := by rw [IntKind.wrap_u32]; omega
theorem bv32 {n : Nat} (h : n < 4294967296) : (BitVec.ofInt 32 (n : Int)).toNat = n := by
  rw [BitVec.ofInt_natCast, BitVec.toNat_ofNat]
  exact Nat.mod_eq_of_lt h
theorem pow32 {k : Nat} (h : k < 32) : 2 ^ k < 4294967296 := by
  have := Nat.pow_lt_pow_right (a := 2) (by decide) h
  exact this
theorem layS_nat (W at_ many : Nat) (n : Int) (hW : W < 4294967296) (hm : many < 32) (ha : at_ + many ≤ 32) (h0 : W / 2 ^ at_ % 2 ^ many = 0) : layS (W : Int) n (at_ : Int) (many : Int) = (W : Int) + ((n % 4294967296).toNat % 2 ^ many * 2 ^ at_ : Nat) := by
  unfold layS
  have hP := pow32 hm
  have hP1 : 0 < 2 ^ many := Nat.two_pow_pos _
  have e1 : IntKind.u32.wrap (IntKind.u32.wrap (1 * 2 ^ min ((many : Int)).toNat IntKind.u32.bits) - 1) = ((2 ^ many - 1 : Nat) : Int) := by
    have e0 : (1 * 2 ^ min ((many : Int)).toNat IntKind.u32.bits : Int) = ((2 ^ many : Nat) : Int) := by
      rw [Int.toNat_natCast, show min many IntKind.u32.bits = many from Nat.min_eq_left (Nat.le_of_lt hm)]
      simp
    rw [e0, u32_of hP, ← u32_of (n := 2 ^ many - 1) (by omega)]
    congr 1
    omega
  have e2 : IntKind.u32.wrap n = ((n % 4294967296).toNat : Int) := by rw [IntKind.wrap_u32]; omega
  have hN : (n % 4294967296).toNat < 4294967296 := by omega
  generalize (n % 4294967296).toNat = N at e2 hN ⊢
  rw [e1, e2]
  have e3 : (BitVec.ofInt IntKind.u32.bits (N : Int) &&& BitVec.ofInt IntKind.u32.bits ((2 ^ many - 1 : Nat) : Int)).toNat = N % 2 ^ many := by
    rw [BitVec.toNat_and]
    show (BitVec.ofInt 32 (N : Int)).toNat &&& (BitVec.ofInt 32 ((2 ^ many - 1 : Nat) : Int)).toNat = _
    rw [bv32 hN, bv32 (by omega), Nat.and_two_pow_sub_one_eq_mod]
  rw [e3]
  have hx : N % 2 ^ many < 2 ^ many := Nat.mod_lt _ hP1
  have hxP : N % 2 ^ many * 2 ^ at_ < 4294967296 := by
    have h1 : N % 2 ^ many * 2 ^ at_ < 2 ^ many * 2 ^ at_ := Nat.mul_lt_mul_of_pos_right hx (Nat.two_pow_pos _)
    have h2 : 2 ^ many * 2 ^ at_ ≤ 2 ^ 32 := by
      rw [← Nat.pow_add]
      exact Nat.pow_le_pow_right (by decide) (by omega)
    exact Nat.lt_of_lt_of_le h1 h2
  generalize N % 2 ^ many = x at hx hxP
  rw [u32_of (n := x) (by omega)]
  have e4 : ((x : Int) * 2 ^ min ((at_ : Int)).toNat IntKind.u32.bits) = ((x * 2 ^ at_ : Nat) : Int) := by
    rw [Int.toNat_natCast, show min at_ IntKind.u32.bits = at_ from Nat.min_eq_left (by show at_ ≤ 32; omega)]
    simp
  rw [e4, u32_of hxP, BitVec.toNat_or]
  show IntKind.u32.wrap (((BitVec.ofInt 32 (W : Int)).toNat ||| (BitVec.ofInt 32 ((x * 2 ^ at_ : Nat) : Int)).toNat : Nat) : Int) = _
  rw [bv32 hW, bv32 hxP]
  have hor : W ||| x * 2 ^ at_ < 4294967296 := Nat.or_lt_two_pow (n := 32) hW hxP
  rw [u32_of hor, or_mid hx h0]
  simp
theorem bitsS_nat (W at_ many : Nat) (hW : W < 4294967296) (hm : many < 32) (ha : at_ < 32) : bitsS (W : Int) (at_ : Int) (many : Int) = ((W / 2 ^ at_ % 2 ^ many : Nat) : Int) := by
  unfold bitsS
  have hP := pow32 hm
  have hP1 : 0 < 2 ^ many := Nat.two_pow_pos _
  have e1 : IntKind.u32.wrap (IntKind.u32.wrap (1 * 2 ^ min ((many : Int)).toNat IntKind.u32.bits) - 1) = ((2 ^ many - 1 : Nat) : Int) := by
    have e0 : (1 * 2 ^ min ((many : Int)).toNat IntKind.u32.bits : Int) = ((2 ^ many : Nat) : Int) := by
      rw [Int.toNat_natCast, show min many IntKind.u32.bits = many from Nat.min_eq_left (Nat.le_of_lt hm)]
      simp
    rw [e0, u32_of hP, ← u32_of (n := 2 ^ many - 1) (by omega)]
    congr 1
    omega
  have e2 : ((W : Int)).fdiv (2 ^ min ((at_ : Int)).toNat IntKind.u32.bits) = ((W / 2 ^ at_ : Nat) : Int) := by
    rw [Int.toNat_natCast, show min at_ IntKind.u32.bits = at_ from Nat.min_eq_left (Nat.le_of_lt ha)]
    rw [Int.fdiv_eq_ediv_of_nonneg _ (Int.le_of_lt (Int.pow_pos (by decide)))]
    simp
  have hq : W / 2 ^ at_ < 4294967296 := Nat.lt_of_le_of_lt (Nat.div_le_self _ _) hW
  rw [e1, e2, BitVec.toNat_and]
  show IntKind.i64.wrap (IntKind.u32.wrap (((BitVec.ofInt 32 ((W / 2 ^ at_ : Nat) : Int)).toNat &&& (BitVec.ofInt 32 ((2 ^ many - 1 : Nat) : Int)).toNat : Nat) : Int)) = _
  rw [bv32 hq, bv32 (by omega), Nat.and_two_pow_sub_one_eq_mod]
  have hx : W / 2 ^ at_ % 2 ^ many < 4294967296 := Nat.lt_of_le_of_lt (Nat.mod_le _ _) hq
  generalize W / 2 ^ at_ % 2 ^ many = x at hx
  rw [u32_of hx, IntKind.wrap_i64]
  omega
theorem and_shift (w a lo : Nat) : w &&& a <<< lo = (w / 2 ^ lo &&& a) <<< lo := by
  apply Nat.eq_of_testBit_eq
  intro i
  simp only [Nat.testBit_and, Nat.testBit_shiftLeft, Nat.testBit_div_two_pow]
  by_cases h : lo ≤ i
  · simp [h, show i - lo + lo = i by omega]
  · simp [h]
theorem and_pow (w k : Nat) : w &&& 2 ^ k = w / 2 ^ k % 2 * 2 ^ k := by
  have e : 2 ^ k = 1 <<< k := by rw [Nat.shiftLeft_eq, Nat.one_mul]
  conv => lhs; rw [e]
  rw [and_shift, Nat.and_one_is_mod, Nat.shiftLeft_eq]
theorem hasS_nat (W k : Nat) (hW : W < 4294967296) (hk : k < 32) : hasS (W : Int) ((2 ^ k : Nat) : Int) = decide (W / 2 ^ k % 2 = 1) := by
  unfold hasS
  show (IntKind.u32.wrap (((BitVec.ofInt 32 (W : Int)) &&& (BitVec.ofInt 32 ((2 ^ k : Nat) : Int))).toNat : Int) == _) = _
  rw [BitVec.toNat_and, bv32 hW, bv32 (pow32 hk), and_pow]
  have hp := pow32 hk
  have hp0 : 0 < 2 ^ k := Nat.two_pow_pos _
  by_cases h : W / 2 ^ k % 2 = 1
  · simp only [h, decide_true, Nat.one_mul]
    rw [u32_of hp]
    simp
  · have h0 : W / 2 ^ k % 2 = 0 := by omega
    simp only [h0, Nat.zero_mul]
    rw [u32_of (n := 0) (by decide)]
    simp only [Nat.zero_ne_one, decide_false, beq_eq_false_iff_ne, ne_eq]
    omega
theorem flagS_nat (W k : Nat) (b : Bool) (hW : W < 4294967296) (hk : k < 32) (h0 : W / 2 ^ k % 2 = 0) : flagS (W : Int) b ((2 ^ k : Nat) : Int) = ((W + (match b with | true => 1 | false => 0) * 2 ^ k : Nat) : Int) := by
  cases b with
  | false => simp [flagS]
  | true =>
    show IntKind.u32.wrap (((BitVec.ofInt 32 (W : Int)) ||| (BitVec.ofInt 32 ((2 ^ k : Nat) : Int))).toNat : Int) = _
    rw [BitVec.toNat_or, bv32 hW, bv32 (pow32 hk)]
    have e := or_mid (w := W) (x := 1) (at_ := k) (many := 1) (by decide) (by simpa using h0)
    have hor : W ||| 2 ^ k < 4294967296 := Nat.or_lt_two_pow (n := 32) hW (pow32 hk)
    rw [u32_of hor]
    rw [Nat.one_mul] at e
    rw [e]
    simp
/-! ### Masks of some ranges of bits, the highest first -/
def maskN : List (Nat × Nat) → Nat
  | [] => 0
  | (lo, len) :: r => (2 ^ len - 1) <<< lo + maskN r
def maskOk : List (Nat × Nat) → Prop
  | [] => True
  | (lo, _) :: r => maskN r < 2 ^ lo ∧ maskOk r
def fieldN (w : Nat) : List (Nat × Nat) → Nat
  | [] => 0
  | (lo, len) :: r => w / 2 ^ lo % 2 ^ len * 2 ^ lo + fieldN w r
theorem and_mask (w : Nat) : ∀ {L : List (Nat × Nat)}, maskOk L → w &&& maskN L = fieldN w L
  | [], _ => by simp [maskN, fieldN]
  | (lo, len) :: r, h => by
    have ih := and_mask w (L := r) h.2
    have h1 : w &&& maskN r < 2 ^ lo := Nat.lt_of_le_of_lt Nat.and_le_right h.1
    simp only [maskN, fieldN]
    rw [Nat.shiftLeft_add_eq_or_of_lt h.1, Nat.and_or_distrib_left, and_shift, ← Nat.shiftLeft_add_eq_or_of_lt h1, Nat.and_two_pow_sub_one_eq_mod, ih, Nat.shiftLeft_eq]
end Go.Proofs.YteikpddilabppaaGreatR
