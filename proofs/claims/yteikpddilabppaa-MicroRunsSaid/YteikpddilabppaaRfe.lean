/- both of chapter 5's reckonings are one. -/
import Derived.Test.YteikpddilabppaaRfa
namespace Go.Proofs.Yteikpddilabppaa
open Go.AM
set_option maxRecDepth 100000
set_option linter.unusedSimpArgs false
set_option linter.unusedVariables false
theorem ofInt_nat (a : Nat) (h : a < 18446744073709551616) : (BitVec.ofInt IntKind.u64.bits (a : Int)).toNat = a := by
  show (BitVec.ofInt 64 (a : Int)).toNat = a
  rw [BitVec.ofInt_natCast, BitVec.toNat_ofNat]
  exact Nat.mod_eq_of_lt (by omega)
theorem U_nat {x : Int} (h : U x) : ∃ n : Nat, x = n ∧ n < 18446744073709551616 := ⟨x.toNat, by obtain ⟨h0, h1⟩ := h; omega, by obtain ⟨h0, h1⟩ := h; omega⟩
theorem b63_eq (b : Nat) (h : b < 18446744073709551616) : b63 (b : Int) = ((b % 64 : Nat) : Int) := by
  unfold b63
  rw [BitVec.toNat_and, ofInt_nat b h, show (63 : Int) = ((63 : Nat) : Int) from rfl, ofInt_nat 63 (by omega)]
  have : b &&& 63 = b % 64 := Nat.and_two_pow_sub_one_eq_mod b 6
  rw [this, uwrap]
  omega
theorem by64_eq (b : Nat) (h : b < 18446744073709551616) : by64 (b : Int) = ((b % 64 : Nat) : Int) := by
  unfold by64
  rw [IntKind.wrap_i64, Int.tmod_eq_emod_of_nonneg (by omega)]
  omega
theorem minb (n : Nat) (h : n < 64) : min ((n : Int)).toNat IntKind.u64.bits = n := by
  rw [Int.toNat_natCast]
  exact Nat.min_eq_left (by show n ≤ 64; omega)
theorem minb' (n : Nat) (h : n < 64) : min ((n : Int)).toNat IntKind.i64.bits = n := by
  rw [Int.toNat_natCast]
  exact Nat.min_eq_left (by show n ≤ 64; omega)
theorem dbl_eq : ∀ (n : Nat) (a : Int), 0 ≤ a → a < 18446744073709551616 → dblS n a = (a * 2 ^ n) % 18446744073709551616
  | 0, a, h0, h1 => by simp only [dblS, Int.pow_zero, Int.mul_one]; exact (Int.emod_eq_of_lt h0 h1).symm
  | n + 1, a, h0, h1 => by
    simp only [dblS, uwrap]
    rw [dbl_eq n _ (by omega) (by omega), Int.mul_emod, Int.emod_emod, ← Int.mul_emod, show (a + a) * 2 ^ n = a * 2 ^ (n + 1) by rw [Int.pow_succ, ← Int.two_mul, Int.mul_comm 2 a, Int.mul_assoc, Int.mul_comm 2 (2 ^ n)]]
theorem eq9 (a b : Nat) (ha : a < 18446744073709551616) (hb : b < 18446744073709551616) : dblS (by64 (b : Int)).toNat (a : Int) = f60 a b := by
  rw [by64_eq b hb, Int.toNat_natCast, dbl_eq _ _ (by omega) (by omega)]
  unfold f60
  rw [b63_eq b hb, minb _ (Nat.mod_lt _ (by omega)), uwrap]
theorem turn0 (a : Nat) (ha : a < 18446744073709551616) : turn1 (a : Int) 0 = ((a / 2 : Nat) : Int) := by
  unfold turn1 topS
  simp only [uwrap]
  rw [if_neg (by decide), Int.tdiv_eq_ediv_of_nonneg (by omega)]
  omega
theorem turnS0 : ∀ (n a : Nat), a < 18446744073709551616 → turnS n (a : Int) 0 = ((a / 2 ^ n : Nat) : Int)
  | 0, a, _ => by simp [turnS]
  | n + 1, a, h => by
    simp only [turnS]
    rw [turn0 a h, turnS0 n (a / 2) (by omega), Nat.div_div_eq_div_mul, Nat.pow_succ, Nat.mul_comm]
theorem eq10 (a b : Nat) (ha : a < 18446744073709551616) (hb : b < 18446744073709551616) : turnS (by64 (b : Int)).toNat (a : Int) 0 = f61 a b := by
  rw [by64_eq b hb, Int.toNat_natCast, turnS0 _ _ ha]
  unfold f61
  rw [b63_eq b hb, minb _ (Nat.mod_lt _ (by omega)), Int.fdiv_eq_ediv_of_nonneg _ (by exact Int.pow_nonneg (by decide))]
  simp
theorem sh63_eq (a : Nat) (h : a < 18446744073709551616) : sh63 (a : Int) = ((a / 9223372036854775808 : Nat) : Int) := by
  unfold sh63
  rw [Int.fdiv_eq_ediv_of_nonneg _ (by decide)]
  simp
theorem turn1' (x : Int) (h0 : -9223372036854775808 ≤ x) (h1 : x < 0) : turn1 (x + 18446744073709551616) 1 = x / 2 + 18446744073709551616 := by
  unfold turn1 topS
  simp only [uwrap]
  rw [if_neg (by decide), Int.tdiv_eq_ediv_of_nonneg (by omega)]
  omega
theorem turnS1 : ∀ (n : Nat) (x : Int), -9223372036854775808 ≤ x → x < 0 → turnS n (x + 18446744073709551616) 1 = x / 2 ^ n + 18446744073709551616
  | 0, x, _, _ => by simp [turnS]
  | n + 1, x, h0, h1 => by
    simp only [turnS]
    rw [turn1' x h0 h1, turnS1 n (x / 2) (by omega) (by omega), Int.ediv_ediv_of_nonneg (by decide), Int.pow_succ, Int.mul_comm 2]
theorem eq11 (a b : Nat) (ha : a < 18446744073709551616) (hb : b < 18446744073709551616) : turnS (by64 (b : Int)).toNat (a : Int) (IntKind.i64.wrap (sh63 a)) = f62 a b := by
  rw [by64_eq b hb, Int.toNat_natCast, sh63_eq a ha]
  unfold f62
  rw [b63_eq b hb, minb' _ (Nat.mod_lt _ (by omega)), Int.fdiv_eq_ediv_of_nonneg _ (by exact Int.pow_nonneg (by decide))]
  generalize b % 64 = n
  by_cases h : a < 9223372036854775808
  · have e : a / 9223372036854775808 = 0 := by omega
    rw [e, IntKind.wrap_i64, IntKind.wrap_i64]
    rw [show (((0 : Nat) : Int) + 9223372036854775808) % 18446744073709551616 - 9223372036854775808 = 0 by decide]
    rw [turnS0 n a ha, show ((a : Int) + 9223372036854775808) % 18446744073709551616 - 9223372036854775808 = a by omega, uwrap]
    have : a / 2 ^ n ≤ a := Nat.div_le_self _ _
    have e2 : (a : Int) / 2 ^ n = ((a / 2 ^ n : Nat) : Int) := by simp
    rw [e2]
    clear e2
    generalize a / 2 ^ n = q at *
    omega
  · have e : a / 9223372036854775808 = 1 := by omega
    rw [e, IntKind.wrap_i64, IntKind.wrap_i64]
    rw [show (((1 : Nat) : Int) + 9223372036854775808) % 18446744073709551616 - 9223372036854775808 = 1 by decide]
    obtain ⟨x, hx⟩ : ∃ x : Int, x = (a : Int) - 18446744073709551616 := ⟨_, rfl⟩
    rw [show ((a : Int) + 9223372036854775808) % 18446744073709551616 - 9223372036854775808 = x by omega, show (a : Int) = x + 18446744073709551616 by omega, turnS1 n x (by omega) (by omega), uwrap]
    have hp : (0 : Int) < 2 ^ n := Int.pow_pos (by decide)
    have h1 : x / 2 ^ n < 0 := Int.ediv_neg_of_neg_of_pos (by omega) hp
    have h2 : x ≤ x / 2 ^ n := by
      have h3 : x * 2 ^ n ≤ x := by
        have : (1 : Int) ≤ 2 ^ n := hp
        have := Int.mul_le_mul_of_nonpos_left (a := x) (by omega) this
        omega
      exact (Int.le_ediv_iff_mul_le hp).2 h3
    omega
theorem xor63 (a : Nat) (h : a < 18446744073709551616) : a ^^^ 9223372036854775808 = (a + 9223372036854775808) % 18446744073709551616 := by
  apply Nat.eq_of_testBit_eq
  intro i
  rw [Nat.testBit_xor, show (9223372036854775808 : Nat) = 2 ^ 63 from rfl, Nat.testBit_two_pow, show (18446744073709551616 : Nat) = 2 ^ 64 from rfl, Nat.testBit_mod_two_pow, Nat.add_comm]
  by_cases h1 : i < 63
  · rw [Nat.testBit_two_pow_add_gt h1]
    have : ¬ 63 = i := by omega
    simp [this, show i < 64 by omega]
  · by_cases h2 : i = 63
    · subst h2
      rw [Nat.testBit_two_pow_add_eq]
      simp
    · have h3 : ¬ i < 64 := by omega
      have h4 : ¬ 63 = i := by omega
      have h5 : a.testBit i = false := Nat.testBit_lt_two_pow (Nat.lt_of_lt_of_le h (by
        have : 2 ^ 64 ≤ 2 ^ i := Nat.pow_le_pow_right (by decide) (by omega)
        exact this))
      simp [h3, h4, h5]
theorem below_eq (a b : Nat) (ha : a < 18446744073709551616) (hb : b < 18446744073709551616) : belowS (a : Int) b = decide (IntKind.i64.wrap (a : Int) < IntKind.i64.wrap b) := by
  unfold belowS
  rw [BitVec.toNat_xor, BitVec.toNat_xor, ofInt_nat a ha, ofInt_nat b hb, show (9223372036854775808 : Int) = ((9223372036854775808 : Nat) : Int) from rfl, ofInt_nat 9223372036854775808 (by omega), xor63 a ha, xor63 b hb]
  simp only [uwrap, IntKind.wrap_i64]
  rw [decide_eq_decide]
  omega
theorem turn2 (a : Nat) (ha : a < 18446744073709551616) : turn1 (a : Int) 2 = ((a / 2 + a % 2 * 9223372036854775808 : Nat) : Int) := by
  unfold turn1 topS
  simp only [uwrap]
  rw [if_pos trivial, Int.tdiv_eq_ediv_of_nonneg (by omega), Int.tmod_eq_emod_of_nonneg (by omega)]
  omega
theorem p63 (n : Nat) (h : n ≤ 63) : 9223372036854775808 = 2 ^ n * 2 ^ (63 - n) := by
  rw [← Nat.pow_add, show n + (63 - n) = 63 by omega]
theorem rot_step (K n a : Nat) (hn : n ≤ 62) (e : K = 2 ^ n * 2 ^ (63 - n)) : (a / 2 + a % 2 * K) / 2 ^ n + (a / 2 + a % 2 * K) % 2 ^ n * 2 ^ (64 - n) = a / 2 ^ (n + 1) + a % 2 ^ (n + 1) * 2 ^ (64 - (n + 1)) := by
  have hp : 0 < 2 ^ n := Nat.pow_pos (by decide)
  have d1 : (a / 2 + a % 2 * K) / 2 ^ n = a / 2 / 2 ^ n + a % 2 * 2 ^ (63 - n) := by
    rw [e, show a % 2 * (2 ^ n * 2 ^ (63 - n)) = 2 ^ n * (a % 2 * 2 ^ (63 - n)) by rw [Nat.mul_left_comm], Nat.add_mul_div_left _ _ hp]
  have d2 : (a / 2 + a % 2 * K) % 2 ^ n = a / 2 % 2 ^ n := by
    rw [e, show a % 2 * (2 ^ n * 2 ^ (63 - n)) = 2 ^ n * (a % 2 * 2 ^ (63 - n)) by rw [Nat.mul_left_comm], Nat.add_mul_mod_self_left]
  have d3 : a % 2 ^ (n + 1) = a % 2 + 2 * (a / 2 % 2 ^ n) := by rw [Nat.pow_succ, Nat.mul_comm, Nat.mod_mul]
  have d4 : 2 ^ (64 - n) = 2 * 2 ^ (63 - n) := by rw [show 64 - n = (63 - n) + 1 by omega, Nat.pow_succ, Nat.mul_comm]
  have d5 : a / 2 ^ (n + 1) = a / 2 / 2 ^ n := by rw [Nat.div_div_eq_div_mul, Nat.pow_succ, Nat.mul_comm (2 ^ n)]
  rw [d1, d2, d3, d4, d5, show 64 - (n + 1) = 63 - n by omega, Nat.add_mul, Nat.mul_assoc, Nat.mul_left_comm (a / 2 % 2 ^ n) 2, Nat.add_assoc]
theorem turnS_succ (n : Nat) (a f : Int) : turnS (n + 1) a f = turnS n (turn1 a f) f := by simp only [turnS]
theorem turn_gen (K M : Nat) (hstep : ∀ a : Nat, a < M → turn1 (a : Int) 2 = ((a / 2 + a % 2 * K : Nat) : Int)) (hK : ∀ n, n ≤ 63 → K = 2 ^ n * 2 ^ (63 - n)) (hM : ∀ a, a < M → a / 2 + a % 2 * K < M) (L : Nat → Nat) (hL : ∀ n, L n = 2 ^ (64 - n)) (n : Nat) :
    ∀ a : Nat, n ≤ 63 → a < M → turnS n (a : Int) 2 = ((a / 2 ^ n + a % 2 ^ n * L n : Nat) : Int) := by
  induction n with
  | zero =>
    intro a _ _
    have : a / 2 ^ 0 + a % 2 ^ 0 * L 0 = a := by rw [Nat.pow_zero, Nat.div_one, Nat.mod_one, Nat.zero_mul, Nat.add_zero]
    rw [this]
    rfl
  | succ n ih =>
    intro a hn h
    have h2 : n ≤ 62 := Nat.le_of_succ_le_succ hn
    have h3 : n ≤ 63 := Nat.le_of_succ_le hn
    have h4 := ih _ h3 (hM a h)
    have hs := rot_step K n a h2 (hK n h3)
    rw [← hL n, ← hL (n + 1)] at hs
    exact (turnS_succ n a 2).trans ((congrArg (fun x => turnS n x 2) (hstep a h)).trans (h4.trans (congrArg (fun z : Nat => (z : Int)) hs)))
theorem turnS2 (n a : Nat) (hn : n ≤ 63) (h : a < 18446744073709551616) : turnS n (a : Int) 2 = ((a / 2 ^ n + a % 2 ^ n * 2 ^ (64 - n) : Nat) : Int) :=
  turn_gen 9223372036854775808 18446744073709551616 turn2 p63 (fun a h => by omega) (fun n => 2 ^ (64 - n)) (fun _ => rfl) n a hn h
theorem ror_gen (M a n k : Nat) (hM : M = 2 ^ n * 2 ^ k) (ha : a < M) : (a * 2 ^ k) % M ||| a / 2 ^ n = a / 2 ^ n + a % 2 ^ n * 2 ^ k := by
  have h1 : a * 2 ^ k % M = a % 2 ^ n * 2 ^ k := by rw [hM, Nat.mul_mod_mul_right]
  have h2 : a / 2 ^ n < 2 ^ k := Nat.div_lt_of_lt_mul (by rw [← hM]; exact ha)
  rw [h1, Nat.mul_comm (a % 2 ^ n), ← Nat.two_pow_add_eq_or_of_lt h2, Nat.add_comm]
theorem wrap_nat (x : Nat) : IntKind.u64.wrap (x : Int) = ((x % 18446744073709551616 : Nat) : Int) := by
  rw [uwrap]; omega
theorem rot_gen (a s : Nat) (ha : a < 18446744073709551616) (hs : s ≤ 64) (c : Int) (hc : b63 (IntKind.u64.wrap c) = ((64 - s : Nat) : Int)) (h0 : 1 ≤ s) : rotS a c = ((a / 2 ^ s + a % 2 ^ s * 2 ^ (64 - s) : Nat) : Int) := by
  unfold rotS
  rw [hc]
  have e1 : min (((64 - s : Nat) : Int)).toNat IntKind.u64.bits = 64 - s := by
    rw [Int.toNat_natCast]; exact Nat.min_eq_left (by show 64 - s ≤ 64; omega)
  have e2 : IntKind.u64.wrap (64 - ((64 - s : Nat) : Int)) = ((s : Nat) : Int) := by rw [uwrap]; omega
  have e3 : min ((s : Int)).toNat IntKind.u64.bits = s := by
    rw [Int.toNat_natCast]; exact Nat.min_eq_left (by show s ≤ 64; omega)
  rw [e1, e2, e3]
  have e4 : (a : Int) * 2 ^ (64 - s) = ((a * 2 ^ (64 - s) : Nat) : Int) := by
    rw [Int.natCast_mul, Int.natCast_pow]; rfl
  have e5 : (a : Int).fdiv (2 ^ s) = ((a / 2 ^ s : Nat) : Int) := by
    rw [Int.fdiv_eq_ediv_of_nonneg _ (by exact Int.pow_nonneg (by decide))]; simp
  rw [e4, e5]
  have e6 : (18446744073709551616 : Nat) = 2 ^ s * 2 ^ (64 - s) := by
    rw [← Nat.pow_add, show s + (64 - s) = 64 by omega]
  have e7 : a / 2 ^ s < 18446744073709551616 := Nat.lt_of_le_of_lt (Nat.div_le_self _ _) ha
  rw [wrap_nat (a * 2 ^ (64 - s)), BitVec.toNat_or, ofInt_nat _ (Nat.mod_lt _ (by omega)), ofInt_nat _ e7, ror_gen _ a s (64 - s) e6 ha, wrap_nat]
  have e8 : a / 2 ^ s + a % 2 ^ s * 2 ^ (64 - s) < 18446744073709551616 := by
    have h1 : a / 2 ^ s < 2 ^ (64 - s) := Nat.div_lt_of_lt_mul (by rw [← e6]; exact ha)
    have h2 : a % 2 ^ s + 1 ≤ 2 ^ s := Nat.mod_lt _ (Nat.pow_pos (by decide))
    have h3 : (a % 2 ^ s + 1) * 2 ^ (64 - s) ≤ 2 ^ s * 2 ^ (64 - s) := Nat.mul_le_mul_right _ h2
    rw [← e6, Nat.add_mul, Nat.one_mul] at h3
    clear e6 e4 e5 e1 e3
    generalize a / 2 ^ s = p at *
    generalize a % 2 ^ s * 2 ^ (64 - s) = q at *
    generalize 2 ^ (64 - s) = r at *
    omega
  rw [Nat.mod_eq_of_lt e8]
theorem eq12 (a b : Nat) (ha : a < 18446744073709551616) (hb : b < 18446744073709551616) : turnS (by64 (b : Int)).toNat (a : Int) 2 = f63 a b := by
  have hlt : b % 64 < 64 := Nat.mod_lt _ (by omega)
  rw [by64_eq b hb, Int.toNat_natCast]
  unfold f63
  rw [b63_eq b hb]
  generalize b % 64 = n at *
  have e1 : IntKind.i64.wrap ((n : Nat) : Int) = n := by rw [IntKind.wrap_i64]; omega
  have e2 : IntKind.i64.wrap (0 - (n : Int)) = 0 - (n : Int) := by rw [IntKind.wrap_i64]; omega
  rw [e1, e2]
  by_cases h0 : n = 0
  · subst h0
    have hc : b63 (IntKind.u64.wrap (0 - ((0 : Nat) : Int))) = ((64 - 64 : Nat) : Int) := by decide
    rw [rot_gen a 64 ha (by omega) _ hc (by omega)]
    have d1 : a / 2 ^ 64 = 0 := Nat.div_eq_of_lt ha
    have d2 : a % 2 ^ 64 = a := Nat.mod_eq_of_lt ha
    rw [d1, d2, Nat.sub_self, Nat.pow_zero, Nat.mul_one, Nat.zero_add]
    rfl
  · have hu : IntKind.u64.wrap (0 - (n : Int)) = ((18446744073709551616 - n : Nat) : Int) := by rw [uwrap]; omega
    have hc : b63 (IntKind.u64.wrap (0 - (n : Int))) = ((64 - n : Nat) : Int) := by
      rw [hu, b63_eq _ (by omega)]
      congr 1
      omega
    rw [rot_gen a n ha (by omega) _ hc (by omega), turnS2 n a (by omega) ha]
theorem divX_lo (a : Nat) (h : a < 9223372036854775808) : divX (a : Int) = a ∧ sh63 (a : Int) = 0 ∧ IntKind.i64.wrap (a : Int) = a := by
  have e : sh63 (a : Int) = 0 := by rw [sh63_eq a (by omega)]; omega
  refine ⟨?_, e, by rw [IntKind.wrap_i64]; omega⟩
  unfold divX
  rw [e, if_neg (by decide)]
theorem divX_hi (a : Nat) (h : 9223372036854775808 ≤ a) (h2 : a < 18446744073709551616) : divX (a : Int) = ((18446744073709551616 - a : Nat) : Int) ∧ sh63 (a : Int) = 1 ∧ IntKind.i64.wrap (a : Int) = -((18446744073709551616 - a : Nat) : Int) := by
  have e : sh63 (a : Int) = 1 := by rw [sh63_eq a h2]; omega
  refine ⟨?_, e, by rw [IntKind.wrap_i64]; omega⟩
  unfold divX
  rw [e, if_pos rfl, uwrap]
  omega
theorem div_facts (x y : Nat) (hy : 1 ≤ y) : ∃ q : Nat, (x : Int).tdiv (y : Int) = q ∧ q ≤ x ∧ (y = 1 → q = x) ∧ (2 ≤ y → 2 * q ≤ x) := by
  refine ⟨x / y, rfl, Nat.div_le_self _ _, fun h => by rw [h, Nat.div_one], fun h => ?_⟩
  have h1 : x / y ≤ x / 2 := Nat.div_le_div_left h (by omega)
  omega
theorem i64_lo (q : Nat) (h : q < 9223372036854775808) : IntKind.i64.wrap (q : Int) = q := by rw [IntKind.wrap_i64]; omega
theorem i64_neg (q : Nat) (h : q ≤ 9223372036854775808) : IntKind.i64.wrap (-(q : Int)) = -(q : Int) := by rw [IntKind.wrap_i64]; omega
theorem u64_neg (q : Nat) : IntKind.u64.wrap (0 - IntKind.u64.wrap (q : Int)) = IntKind.u64.wrap (-(q : Int)) := by rw [uwrap, uwrap, uwrap]; omega
theorem u64_neg' (q : Nat) : IntKind.u64.wrap (0 - (q : Int)) = IntKind.u64.wrap (-(q : Int)) := by rw [Int.zero_sub]
theorem u64_comp (a : Nat) (h : a < 18446744073709551616) : IntKind.u64.wrap (0 - (a : Int)) = IntKind.u64.wrap ((18446744073709551616 - a : Nat) : Int) := by rw [uwrap, uwrap]; omega
theorem ne_0 (b : Nat) (h : 0 < b) : ¬ (b : Int) = 0 := by omega
theorem ne_m1 (b : Nat) : ¬ (b : Int) = -1 := by omega
theorem neg_ne0 (b : Nat) (h : 0 < b) : ¬ -(b : Int) = 0 := by omega
theorem neg_m1 (b : Nat) (h : b = 1) : -(b : Int) = -1 := by omega
theorem neg_nm1 (b : Nat) (h : ¬ b = 1) : ¬ -(b : Int) = -1 := by omega
theorem half (x y q : Nat) (h : q ≤ x) (hx : x ≤ 9223372036854775808) (h4 : 2 ≤ y → 2 * q ≤ x) (hy : 0 < y) (h3 : ¬ y = 1) : q < 9223372036854775808 := by omega
theorem eq8 (a b : Nat) (ha : a < 18446744073709551616) (hb : b < 18446744073709551616) : divS (a : Int) b = f59 a b := by
  unfold divS divQ f59
  by_cases hb0 : b = 0
  · subst hb0
    rw [if_pos (by decide), if_pos (by decide)]
  have hbi : ¬ (b : Int) = 0 := ne_0 b (Nat.pos_of_ne_zero hb0)
  rw [if_neg hbi]
  have hc : 0 < 18446744073709551616 - b := Nat.sub_pos_of_lt hb
  by_cases h1 : a < 9223372036854775808 <;> by_cases h2 : b < 9223372036854775808
  · obtain ⟨p1, p2, p3⟩ := divX_lo a h1
    obtain ⟨q1, q2, q3⟩ := divX_lo b h2
    obtain ⟨q, e1, e2, e3, e4⟩ := div_facts a b (Nat.pos_of_ne_zero hb0)
    rw [p1, p2, p3, q1, q2, q3, if_pos rfl, if_neg hbi, if_neg (ne_m1 b), e1, i64_lo q (Nat.lt_of_le_of_lt e2 h1)]
  · obtain ⟨p1, p2, p3⟩ := divX_lo a h1
    obtain ⟨q1, q2, q3⟩ := divX_hi b (Nat.le_of_not_lt h2) hb
    obtain ⟨q, e1, e2, e3, e4⟩ := div_facts a (18446744073709551616 - b) hc
    rw [p1, p2, p3, q1, q2, q3, if_neg (by decide), if_neg (neg_ne0 _ hc), Int.tdiv_neg, e1, u64_neg]
    by_cases h3 : 18446744073709551616 - b = 1
    · rw [if_pos (neg_m1 _ h3), u64_neg', e3 h3]
    · rw [if_neg (neg_nm1 _ h3), i64_neg q (Nat.le_trans e2 (Nat.le_of_lt h1))]
  · have hd : 18446744073709551616 - a ≤ 9223372036854775808 := by clear hbi hc h2 hb; omega
    obtain ⟨p1, p2, p3⟩ := divX_hi a (Nat.le_of_not_lt h1) ha
    obtain ⟨q1, q2, q3⟩ := divX_lo b h2
    obtain ⟨q, e1, e2, e3, e4⟩ := div_facts (18446744073709551616 - a) b (Nat.pos_of_ne_zero hb0)
    rw [p1, p2, p3, q1, q2, q3, if_neg (by decide), if_neg hbi, if_neg (ne_m1 b), Int.neg_tdiv, e1, u64_neg, i64_neg q (Nat.le_trans e2 hd)]
  · have hd : 18446744073709551616 - a ≤ 9223372036854775808 := by clear hbi hc h2 hb; omega
    obtain ⟨p1, p2, p3⟩ := divX_hi a (Nat.le_of_not_lt h1) ha
    obtain ⟨q1, q2, q3⟩ := divX_hi b (Nat.le_of_not_lt h2) hb
    obtain ⟨q, e1, e2, e3, e4⟩ := div_facts (18446744073709551616 - a) (18446744073709551616 - b) hc
    rw [p1, p2, p3, q1, q2, q3, if_pos rfl, if_neg (neg_ne0 _ hc), Int.tdiv_neg, Int.neg_tdiv, Int.neg_neg, e1]
    by_cases h3 : 18446744073709551616 - b = 1
    · rw [if_pos (neg_m1 _ h3), u64_comp a ha, e3 h3]
    · rw [if_neg (neg_nm1 _ h3), i64_lo q (half _ _ q e2 hd e4 hc h3)]
/-- Both reckonings are one. -/
theorem refR_eq (k a b : Int) (ha : U a) (hb : U b) : refR k a b = ((reckS k a b).1, (reckS k a b).2 == 0) := by
  obtain ⟨x, rfl, hx⟩ := U_nat ha
  obtain ⟨y, rfl, hy⟩ := U_nat hb
  show _ = (fun q : Int × Int => (q.1, q.2 == 0)) (reckS k x y)
  unfold refR reckS
  rw [eq8 x y hx hy, eq9 x y hx hy, eq10 x y hx hy, eq11 x y hx hy, eq12 x y hx hy, below_eq x y hx hy]
  have h0 : ((0 : Int) == 0) = true := rfl
  have h1 : ((1 : Int) == 0) = false := rfl
  simp only [apply_ite (fun q : Int × Int => (q.1, q.2 == 0)), h0, h1]
  rfl
end Go.Proofs.Yteikpddilabppaa
