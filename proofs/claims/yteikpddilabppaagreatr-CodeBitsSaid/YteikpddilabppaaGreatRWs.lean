/- words: forms as functions of their numbers. -/
import Derived.Test.YteikpddilabppaaGreatRWr
namespace Go.Proofs.YteikpddilabppaaGreatR
open Go.AM
set_option maxRecDepth 100000
set_option linter.unusedVariables false
theorem mask_at {W M B : Nat} (L : List (Nat × Nat)) (hL : maskN L = M) (ho : maskOk L) (hW : W < 4294967296) (h : andU (W : Int) (M : Int) = (B : Int)) (hM : M < 4294967296) : fieldN W L = B := by
  have e : andU (W : Int) (M : Int) = ((W &&& M : Nat) : Int) := by
    unfold andU
    show IntKind.u32.wrap ((((BitVec.ofInt 32 (W : Int)) &&& (BitVec.ofInt 32 (M : Int))).toNat : Nat) : Int) = _
    rw [BitVec.toNat_and, bv32 hW, bv32 hM, u32_of (Nat.lt_of_le_of_lt Nat.and_le_left hW)]
  rw [e, ← hL, and_mask W ho] at h
  exact Int.ofNat.inj h
theorem mask_to {W M B : Nat} (L : List (Nat × Nat)) (hL : maskN L = M) (ho : maskOk L) (hW : W < 4294967296) (hM : M < 4294967296) (h : fieldN W L = B) : andU (W : Int) (M : Int) = (B : Int) := by
  have e : andU (W : Int) (M : Int) = ((W &&& M : Nat) : Int) := by
    unfold andU
    show IntKind.u32.wrap ((((BitVec.ofInt 32 (W : Int)) &&& (BitVec.ofInt 32 (M : Int))).toNat : Nat) : Int) = _
    rw [BitVec.toNat_and, bv32 hW, bv32 hM, u32_of (Nat.lt_of_le_of_lt Nat.and_le_left hW)]
  rw [e, ← hL, and_mask W ho, h]
theorem div_step (W Q P Q' : Nat) (h : Q * P = Q') : W / Q = P * (W / Q') + W / Q % P := by
  rw [← h, ← Nat.div_div_eq_div_mul]
  exact (Nat.div_add_mod _ _).symm
theorem field_one {w lo len Q P : Nat} (hQ : 2 ^ lo = Q) (hP : 2 ^ len = P) : fieldN w [(lo, len)] = w / Q % P * Q := by
  subst hQ hP
  exact Nat.add_zero _
theorem field_step {w lo len Q P s : Nat} {r : List (Nat × Nat)} (hQ : 2 ^ lo = Q) (hP : 2 ^ len = P) (hr : fieldN w r = s) : fieldN w ((lo, len) :: r) = w / Q % P * Q + s := by
  subst hQ hP hr
  rfl
theorem field_oc {w lo len Q P c u : Nat} (hQ : 2 ^ lo = Q) (hP : 2 ^ len = P) (hd : w / Q % P = c) (e : c * Q = u) : fieldN w [(lo, len)] = u := by
  rw [field_one hQ hP, hd, e]
theorem field_sc {w lo len Q P c s u : Nat} {r : List (Nat × Nat)} (hQ : 2 ^ lo = Q) (hP : 2 ^ len = P) (hd : w / Q % P = c) (hr : fieldN w r = s) (e : c * Q + s = u) : fieldN w ((lo, len) :: r) = u := by
  rw [field_step hQ hP hr, hd, e]
theorem digit {S a Q P : Nat} (lo hi Q' : Nat) (hQ : Q * P = Q') (hh : S = lo + a * Q + hi * Q' ∧ lo < Q ∧ a < P) : S / Q % P = a := by
  obtain ⟨h, hl, ha⟩ := hh
  subst h hQ
  have e : lo + a * Q + hi * (Q * P) = lo + Q * (a + P * hi) := by
    rw [Nat.mul_add, Nat.mul_comm a Q, Nat.mul_comm hi (Q * P), Nat.mul_assoc, Nat.add_assoc]
  rw [e, Nat.add_mul_div_left _ _ (by omega), Nat.div_eq_of_lt hl, Nat.zero_add, Nat.add_mul_mod_self_left, Nat.mod_eq_of_lt ha]
theorem nat_mod {c P : Nat} (h : c < P) (hP : P ≤ 4294967296) : (((c : Nat) : Int) % 4294967296).toNat % P = c := by
  have e : ((c : Int) % 4294967296).toNat = c := by omega
  rw [e]
  exact Nat.mod_eq_of_lt h
theorem stp {Vi n : Int} {V x : Nat} (ai mi : Int) (at_ many P Q : Nat) (hc : ai = (at_ : Int) ∧ mi = (many : Int) ∧ 2 ^ many = P ∧ 2 ^ at_ = Q ∧ many < 32 ∧ at_ + many ≤ 32) (hVi : Vi = (V : Int)) (hx : (n % 4294967296).toNat % P = x) (h : V < 4294967296 ∧ V / Q % P = 0) : layS Vi n ai mi = ((V + x * Q : Nat) : Int) :=
  layS_step hVi hc.1 hc.2.1 hc.2.2.1 hc.2.2.2.1 hc.2.2.2.2.1 hc.2.2.2.2.2 h.1 hx h.2
theorem stf {Vi : Int} {b : Bool} {V x : Nat} (qi : Int) (k Q : Nat) (hc : qi = (Q : Int) ∧ 2 ^ k = Q ∧ k < 32) (hVi : Vi = (V : Int)) (hb : bN b = x) (h : V < 4294967296 ∧ V / Q % 2 = 0) : flagS Vi b qi = ((V + x * Q : Nat) : Int) := by
  rw [← hb]
  exact flagS_step hVi hc.1 hc.2.1 hc.2.2 h.1 h.2
theorem bof {W : Nat} (ai mi : Int) (at_ many P Q : Nat) (hc : ai = (at_ : Int) ∧ mi = (many : Int) ∧ 2 ^ many = P ∧ 2 ^ at_ = Q ∧ many < 32 ∧ at_ < 32) (hW : W < 4294967296) : bitsS (W : Int) ai mi = ((W / Q % P : Nat) : Int) :=
  bitsS_of rfl hc.1 hc.2.1 hc.2.2.1 hc.2.2.2.1 hc.2.2.2.2.1 hc.2.2.2.2.2 hW
theorem hof {W : Nat} (qi : Int) (k Q : Nat) (hc : qi = (Q : Int) ∧ 2 ^ k = Q ∧ k < 32) (hW : W < 4294967296) : hasS (W : Int) qi = decide (W / Q % 2 = 1) :=
  hasS_of rfl hc.1 hc.2.1 hc.2.2 hW
theorem bN_dec {a : Nat} (h : a < 2) : bN (decide (a = 1)) = a := by
  rcases (show a = 0 ∨ a = 1 by omega) with rfl | rfl <;> rfl
theorem bN_eq1 {a : Nat} (h : a < 2) : bN ((a : Int) == 1) = a := by
  rcases (show a = 0 ∨ a = 1 by omega) with rfl | rfl <;> rfl
theorem lay_sub1 (V : Int) (a : Nat) (h : a < 2) : layS V (a : Int) 10 2 = layS V (a : Int) 10 1 := by
  rcases (show a = 0 ∨ a = 1 by omega) with rfl | rfl <;> rfl
theorem logic_of {x : InsnS} {a : Nat} (hs : x.sub = if (a : Int) = 3 then 0 else (a : Int)) (hf : x.flags = ((a : Int) == 3)) (h : a < 4) : (logicS x % 4294967296).toNat % 4 = a := by
  unfold logicS
  rw [hs, hf]
  rcases (show a = 0 ∨ a = 1 ∨ a = 2 ∨ a = 3 by omega) with rfl | rfl | rfl | rfl <;> rfl
theorem shr_nat (n : Int) (k : Nat) (P : Int) (hP : (2 : Int) ^ min k IntKind.i64.bits = P) (h : 0 < P) : shrS n k = n / P := by
  unfold shrS
  rw [hP, Int.fdiv_eq_ediv_of_nonneg _ (Int.le_of_lt h)]
theorem sel_a {a b : Nat} (h : a < 2) (h' : b < 2) : (shrS ((2 * a + b : Nat) : Int) 1 % 4294967296).toNat % 2 = a := by
  rw [shr_nat _ 1 2 rfl (by decide)]
  omega
theorem sel_b {a b : Nat} (h : a < 2) (h' : b < 2) : (((2 * a + b : Nat) : Int) % 4294967296).toNat % 2 = b := by omega
theorem tb_a {a b : Nat} (h : a < 2) (h' : b < 32) : (shrS ((32 * a + b : Nat) : Int) 5 % 4294967296).toNat % 2 = a := by
  rw [shr_nat _ 5 32 rfl (by decide)]
  omega
theorem tb_b {a b : Nat} (h : a < 2) (h' : b < 32) : (((32 * a + b : Nat) : Int) % 4294967296).toNat % 32 = b := by omega
def sg (H P a : Nat) : Int := if a < H then (a : Int) else (a : Int) - (P : Int)
def sxS (H P a : Nat) : Int := 4 * sg H P a
def adrP (lo hi : Nat) : Int := 4 * sg 262144 524288 hi + (lo : Int)
def adrX (s lo hi : Nat) : Int := if s = 1 then 4096 * adrP lo hi else adrP lo hi
theorem mul2 (c : Nat) (h : c < 1000000) : mulS 2 (c : Int) = ((2 * c : Nat) : Int) := by
  unfold mulS
  rw [IntKind.wrap_i64]
  omega
theorem quo2 (c : Nat) (h : c < 1000000) : quoS ((2 * c : Nat) : Int) 2 = (c : Int) := by
  unfold quoS
  rw [Int.tdiv_eq_ediv_of_nonneg (Int.natCast_nonneg _), IntKind.wrap_i64]
  omega
theorem mul3 (c : Nat) (h : c < 1000000) : mulS 3 (c : Int) = ((3 * c : Nat) : Int) := by
  unfold mulS
  rw [IntKind.wrap_i64]
  omega
theorem quo3 (c : Nat) (h : c < 1000000) : quoS ((3 * c : Nat) : Int) 3 = (c : Int) := by
  unfold quoS
  rw [Int.tdiv_eq_ediv_of_nonneg (Int.natCast_nonneg _), IntKind.wrap_i64]
  omega
theorem mul8 (c : Nat) (h : c < 1000000) : mulS 8 (c : Int) = ((8 * c : Nat) : Int) := by
  unfold mulS
  rw [IntKind.wrap_i64]
  omega
theorem quo8 (c : Nat) (h : c < 1000000) : quoS ((8 * c : Nat) : Int) 8 = (c : Int) := by
  unfold quoS
  rw [Int.tdiv_eq_ediv_of_nonneg (Int.natCast_nonneg _), IntKind.wrap_i64]
  omega
theorem mul12 (c : Nat) (h : c < 1000000) : mulS 12 (c : Int) = ((12 * c : Nat) : Int) := by
  unfold mulS
  rw [IntKind.wrap_i64]
  omega
theorem quo12 (c : Nat) (h : c < 1000000) : quoS ((12 * c : Nat) : Int) 12 = (c : Int) := by
  unfold quoS
  rw [Int.tdiv_eq_ediv_of_nonneg (Int.natCast_nonneg _), IntKind.wrap_i64]
  omega
theorem mul16 (c : Nat) (h : c < 1000000) : mulS 16 (c : Int) = ((16 * c : Nat) : Int) := by
  unfold mulS
  rw [IntKind.wrap_i64]
  omega
theorem quo16 (c : Nat) (h : c < 1000000) : quoS ((16 * c : Nat) : Int) 16 = (c : Int) := by
  unfold quoS
  rw [Int.tdiv_eq_ediv_of_nonneg (Int.natCast_nonneg _), IntKind.wrap_i64]
  omega
theorem sx_put26 {a : Nat} (h : a < 67108864) : (shrS (sxS 33554432 67108864 a) 2 % 4294967296).toNat % 67108864 = a := by
  rw [shr_nat _ 2 4 rfl (by decide)]
  unfold sxS sg
  split <;> omega
theorem sx_put19 {a : Nat} (h : a < 524288) : (shrS (sxS 262144 524288 a) 2 % 4294967296).toNat % 524288 = a := by
  rw [shr_nat _ 2 4 rfl (by decide)]
  unfold sxS sg
  split <;> omega
theorem sx_put14 {a : Nat} (h : a < 16384) : (shrS (sxS 8192 16384 a) 2 % 4294967296).toNat % 16384 = a := by
  rw [shr_nat _ 2 4 rfl (by decide)]
  unfold sxS sg
  split <;> omega
theorem sg_of0_26 {W : Nat} (hW : W < 4294967296) : signS (W : Int) 0 26 = sg 33554432 67108864 (W / 1 % 67108864) := by
  unfold signS
  have e1 : (2 : Int) ^ min (IntKind.i64.wrap (IntKind.i64.wrap (32 - 0) - 26)).toNat IntKind.u32.bits = 64 := by decide +kernel
  have e2 : (2 : Int) ^ min (IntKind.i64.wrap (32 - 26)).toNat IntKind.i32.bits = 64 := by decide +kernel
  rw [e1, e2, Int.fdiv_eq_ediv_of_nonneg _ (by decide), IntKind.wrap_u32, IntKind.wrap_i32, IntKind.wrap_i64]
  unfold sg
  split <;> omega
theorem sign_of0_26 {W : Nat} (hW : W < 4294967296) : mulS 4 (signS (W : Int) 0 26) = sxS 33554432 67108864 (W / 1 % 67108864) := by
  rw [sg_of0_26 hW]
  have : W / 1 % 67108864 < 67108864 := Nat.mod_lt _ (by decide)
  unfold mulS sxS
  rw [IntKind.wrap_i64]
  unfold sg
  split <;> omega
theorem sg_of5_19 {W : Nat} (hW : W < 4294967296) : signS (W : Int) 5 19 = sg 262144 524288 (W / 32 % 524288) := by
  unfold signS
  have e1 : (2 : Int) ^ min (IntKind.i64.wrap (IntKind.i64.wrap (32 - 5) - 19)).toNat IntKind.u32.bits = 256 := by decide +kernel
  have e2 : (2 : Int) ^ min (IntKind.i64.wrap (32 - 19)).toNat IntKind.i32.bits = 8192 := by decide +kernel
  rw [e1, e2, Int.fdiv_eq_ediv_of_nonneg _ (by decide), IntKind.wrap_u32, IntKind.wrap_i32, IntKind.wrap_i64]
  unfold sg
  split <;> omega
theorem sign_of5_19 {W : Nat} (hW : W < 4294967296) : mulS 4 (signS (W : Int) 5 19) = sxS 262144 524288 (W / 32 % 524288) := by
  rw [sg_of5_19 hW]
  have : W / 32 % 524288 < 524288 := Nat.mod_lt _ (by decide)
  unfold mulS sxS
  rw [IntKind.wrap_i64]
  unfold sg
  split <;> omega
theorem sg_of5_14 {W : Nat} (hW : W < 4294967296) : signS (W : Int) 5 14 = sg 8192 16384 (W / 32 % 16384) := by
  unfold signS
  have e1 : (2 : Int) ^ min (IntKind.i64.wrap (IntKind.i64.wrap (32 - 5) - 14)).toNat IntKind.u32.bits = 8192 := by decide +kernel
  have e2 : (2 : Int) ^ min (IntKind.i64.wrap (32 - 14)).toNat IntKind.i32.bits = 262144 := by decide +kernel
  rw [e1, e2, Int.fdiv_eq_ediv_of_nonneg _ (by decide), IntKind.wrap_u32, IntKind.wrap_i32, IntKind.wrap_i64]
  unfold sg
  split <;> omega
theorem sign_of5_14 {W : Nat} (hW : W < 4294967296) : mulS 4 (signS (W : Int) 5 14) = sxS 8192 16384 (W / 32 % 16384) := by
  rw [sg_of5_14 hW]
  have : W / 32 % 16384 < 16384 := Nat.mod_lt _ (by decide)
  unfold mulS sxS
  rw [IntKind.wrap_i64]
  unfold sg
  split <;> omega
theorem or_low (k : Nat) (s : Int) (lo P : Nat) (hP : 2 ^ k = P) (hk : k ≤ 5) (h1 : -4294967296 ≤ s) (h2 : s < 4294967296) (hlo : lo < P) : orS ((P : Int) * s) (lo : Int) = (P : Int) * s + (lo : Int) := by
  unfold orS
  have e1 : (BitVec.ofInt 64 (lo : Int)).toNat = lo := by
    rw [BitVec.ofInt_natCast, BitVec.toNat_ofNat]
    have : P ≤ 32 := by rw [← hP]; exact Nat.pow_le_pow_right (by decide) hk
    exact Nat.mod_eq_of_lt (by omega)
  have e2 : (BitVec.ofInt 64 ((P : Int) * s)).toNat = (((P : Int) * s) % 18446744073709551616).toNat := by
    rw [BitVec.toNat_ofInt]
    rfl
  show IntKind.i64.wrap ((((BitVec.ofInt 64 ((P : Int) * s)) ||| (BitVec.ofInt 64 (lo : Int))).toNat : Nat) : Int) = _
  rw [BitVec.toNat_or, e1, e2]
  have h5 : k = 0 ∨ k = 1 ∨ k = 2 ∨ k = 3 ∨ k = 4 ∨ k = 5 := by omega
  have e3 := fun (N : Nat) (h : N / 2 ^ 0 % 2 ^ k = 0) => or_mid (w := N) (x := lo) (at_ := 0) (many := k) (by rw [hP]; exact hlo) h
  have e4 : (((P : Int) * s) % 18446744073709551616).toNat ||| lo = (((P : Int) * s) % 18446744073709551616).toNat + lo := by
    have h6 := e3 ((((P : Int) * s) % 18446744073709551616).toNat) (by
      rw [hP, Nat.pow_zero, Nat.div_one]
      rcases h5 with rfl | rfl | rfl | rfl | rfl | rfl <;> subst hP <;> omega)
    rw [Nat.pow_zero, Nat.mul_one] at h6
    exact h6
  rw [e4, IntKind.wrap_i64]
  rcases h5 with rfl | rfl | rfl | rfl | rfl | rfl <;> subst hP <;> omega
theorem sel_of {a b : Nat} (h : a < 2) (h' : b < 2) : addS (mulS 2 (a : Int)) (b : Int) = ((2 * a + b : Nat) : Int) := by
  rw [mul2 a (by omega)]
  unfold addS
  rw [IntKind.wrap_i64]
  omega
theorem tb_of {a b : Nat} (h : a < 2) (h' : b < 32) : orS (shlS (a : Int) 5) (b : Int) = ((32 * a + b : Nat) : Int) := by
  have e : shlS (a : Int) 5 = ((32 : Nat) : Int) * (a : Int) := by
    unfold shlS
    rw [show (2 : Int) ^ min 5 IntKind.i64.bits = 32 from rfl, IntKind.wrap_i64]
    omega
  rw [e, or_low 5 (a : Int) b 32 rfl (by decide) (by omega) (by omega) h']
  omega
theorem adrP_of {W : Nat} (hW : W < 4294967296) : adrV (W : Int) = adrP (W / 536870912 % 4) (W / 32 % 524288) := by
  unfold adrV adrP
  rw [sg_of5_19 hW, bitsS_of (Wi := (W : Int)) (ai := 29) (mi := 2) (at_ := 29) (many := 2) (P := 4) (Q := 536870912) rfl rfl rfl rfl rfl (by decide) (by decide) hW]
  have hs : -262144 ≤ sg 262144 524288 (W / 32 % 524288) ∧ sg 262144 524288 (W / 32 % 524288) < 262144 := by
    have : W / 32 % 524288 < 524288 := Nat.mod_lt _ (by decide)
    unfold sg
    split <;> omega
  generalize sg 262144 524288 (W / 32 % 524288) = s at hs ⊢
  have e : shlS s 2 = ((4 : Nat) : Int) * s := by
    unfold shlS
    rw [show (2 : Int) ^ min 2 IntKind.i64.bits = 4 from rfl, IntKind.wrap_i64]
    omega
  rw [e, or_low 2 s _ 4 rfl (by decide) (by omega) (by omega) (Nat.mod_lt _ (by decide))]
  omega
theorem adrP_rng {lo hi : Nat} (h : lo < 4) (h' : hi < 524288) : -1048576 ≤ adrP lo hi ∧ adrP lo hi < 1048576 := by
  unfold adrP sg
  split <;> omega
theorem adr_v {s lo hi : Nat} (hs : s < 2) (h : lo < 4) (h' : hi < 524288) : (if (s : Int) = 1 then quoS (adrX s lo hi) 4096 else adrX s lo hi) = adrP lo hi := by
  have hr := adrP_rng h h'
  unfold adrX
  by_cases h1 : s = 1
  · rw [if_pos (by omega), if_pos h1]
    unfold quoS
    rw [Int.mul_tdiv_cancel_left _ (by decide), IntKind.wrap_i64]
    omega
  · rw [if_neg (by omega), if_neg h1]
theorem adr_lo {s lo hi : Nat} (hs : s < 2) (h : lo < 4) (h' : hi < 524288) : ((if (s : Int) = 1 then quoS (adrX s lo hi) 4096 else adrX s lo hi) % 4294967296).toNat % 4 = lo := by
  rw [adr_v hs h h']
  unfold adrP sg
  split <;> omega
theorem adr_hi {s lo hi : Nat} (hs : s < 2) (h : lo < 4) (h' : hi < 524288) : (shrS (if (s : Int) = 1 then quoS (adrX s lo hi) 4096 else adrX s lo hi) 2 % 4294967296).toNat % 524288 = hi := by
  rw [adr_v hs h h', shr_nat _ 2 4 rfl (by decide)]
  unfold adrP sg
  split <;> omega
theorem adr_of {W : Nat} (hW : W < 4294967296) : (if bitsS (W : Int) 31 1 = 1 then mulS (adrV (W : Int)) 4096 else adrV (W : Int)) = adrX (W / 2147483648 % 2) (W / 536870912 % 4) (W / 32 % 524288) := by
  rw [adrP_of hW, bitsS_of (Wi := (W : Int)) (ai := 31) (mi := 1) (at_ := 31) (many := 1) (P := 2) (Q := 2147483648) rfl rfl rfl rfl rfl (by decide) (by decide) hW]
  have hr := adrP_rng (lo := W / 536870912 % 4) (hi := W / 32 % 524288) (Nat.mod_lt _ (by decide)) (Nat.mod_lt _ (by decide))
  unfold adrX
  by_cases h1 : W / 2147483648 % 2 = 1
  · rw [if_pos (by omega), if_pos h1]
    unfold mulS
    rw [IntKind.wrap_i64]
    omega
  · rw [if_neg (by omega), if_neg h1]
def X_0 (a0 a1 a2 a3 a4 a5 : Nat) : InsnS := ⟨1, 0, ((a0 : Nat) : Int), ((a1 : Nat) : Int), 0, 0, ((a2 : Nat) : Int), 0, ((12 * (a3) : Nat) : Int), 0, 0, 0, decide (a4 = 1), decide (a5 = 1), false, false⟩
theorem put_0 (a0 a1 a2 a3 a4 a5 : Nat) (l0 : a0 < 32) (l1 : a1 < 32) (l2 : a2 < 4096) (l3 : a3 < 2) (l4 : a4 < 2) (l5 : a5 < 2) : putI 0 (fBase 0) (X_0 a0 a1 a2 a3 a4 a5) = ((2432696320 + a0 * 1 + a1 * 32 + a2 * 1024 + a3 * 4194304 + a4 * 536870912 + a5 * 1073741824 : Nat) : Int) := by
  have s1 := stp 0 5 0 5 32 1 (by decide) (Vi := fBase 0) (V := 2432696320) rfl (nat_mod l0 (by decide)) (by omega)
  have s2 := stp 5 5 5 5 32 32 (by decide) s1 (nat_mod l1 (by decide)) (by omega)
  have s3 := layS_zero (n := 0) (ai := 16) (mi := 5) s2 (by omega) rfl
  have s4 := stp 10 12 10 12 4096 1024 (by decide) s3 (nat_mod l2 (by decide)) (by omega)
  have h5 : (quoS ((12 * a3 : Nat) : Int) 12 % 4294967296).toNat % 2 = a3 := by rw [quo12 a3 (by omega)]; exact nat_mod l3 (by decide)
  have s5 := stp 22 1 22 1 2 4194304 (by decide) s4 h5 (by omega)
  have s6 := stf (b := decide (a4 = 1)) 536870912 29 536870912 (by decide) s5 (bN_dec l4) (by omega)
  have s7 := stf (b := decide (a5 = 1)) 1073741824 30 1073741824 (by decide) s6 (bN_dec l5) (by omega)
  exact s7
theorem take_0 {W : Nat} (hW : W < 4294967296) : takeI 0 (W : Int) = X_0 (W / 1 % 32) (W / 32 % 32) (W / 1024 % 4096) (W / 4194304 % 2) (W / 536870912 % 2) (W / 1073741824 % 2) := by
  have e0 : bitsS (W : Int) 0 5 = ((W / 1 % 32 : Nat) : Int) := bof 0 5 0 5 32 1 (by decide) hW
  have e1 : bitsS (W : Int) 5 5 = ((W / 32 % 32 : Nat) : Int) := bof 5 5 5 5 32 32 (by decide) hW
  have e2 : bitsS (W : Int) 10 12 = ((W / 1024 % 4096 : Nat) : Int) := bof 10 12 10 12 4096 1024 (by decide) hW
  have e3 : mulS 12 (bitsS (W : Int) 22 1) = ((12 * (W / 4194304 % 2) : Nat) : Int) := by
    rw [bof 22 1 22 1 2 4194304 (by decide) hW]
    exact mul12 _ (Nat.lt_trans (Nat.mod_lt _ (by decide)) (by decide))
  have e4 : hasS (W : Int) 536870912 = decide (W / 536870912 % 2 = 1) := hof 536870912 29 536870912 (by decide) hW
  have e5 : hasS (W : Int) 1073741824 = decide (W / 1073741824 % 2 = 1) := hof 1073741824 30 1073741824 (by decide) hW
  show (⟨1, 0, bitsS (W : Int) 0 5, bitsS (W : Int) 5 5, 0, 0, bitsS (W : Int) 10 12, 0, mulS 12 (bitsS (W : Int) 22 1), 0, 0, 0, hasS (W : Int) 536870912, hasS (W : Int) 1073741824, false, false⟩ : InsnS) = _
  rw [e0, e1, e2, e3, e4, e5]
  rfl
theorem fin_0 {W : Nat} (hW : W < 4294967296) (hm : W / 2147483648 % 2 * 2147483648 + W / 8388608 % 64 * 8388608 = 2432696320) : 2432696320 + W / 1 % 32 * 1 + W / 32 % 32 * 32 + W / 1024 % 4096 * 1024 + W / 4194304 % 2 * 4194304 + W / 536870912 % 2 * 536870912 + W / 1073741824 % 2 * 1073741824 = W := by
  have d0 := div_step W 1 32 32 rfl
  have d1 := div_step W 32 32 1024 rfl
  have d2 := div_step W 1024 4096 4194304 rfl
  have d3 := div_step W 4194304 2 8388608 rfl
  have d4 := div_step W 8388608 64 536870912 rfl
  have d5 := div_step W 536870912 2 1073741824 rfl
  have d6 := div_step W 1073741824 2 2147483648 rfl
  have d7 := div_step W 2147483648 2 4294967296 rfl
  have d99 : W / 4294967296 = 0 := Nat.div_eq_of_lt hW
  have d98 : W / 1 = W := Nat.div_one W
  generalize W / 1 % 32 = y0, W / 32 % 32 = y1, W / 1024 % 4096 = y2, W / 4194304 % 2 = y3, W / 8388608 % 64 = y4, W / 536870912 % 2 = y5, W / 1073741824 % 2 = y6, W / 2147483648 % 2 = y7 at *
  generalize W / 32 = q1, W / 1024 = q2, W / 4194304 = q3, W / 8388608 = q4, W / 536870912 = q5, W / 1073741824 = q6, W / 2147483648 = q7 at *
  generalize W / 4294967296 = q99 at *
  generalize W / 1 = q98 at *
  omega
theorem back1_0 {W : Nat} (hW : W < 4294967296) (h : andU (W : Int) (fMask 0) = fBase 0) : putI 0 (fBase 0) (takeI 0 W) = (W : Int) := by
  have hm := mask_at (M := 2675965952) (B := 2432696320) [(31, 1), (23, 6)] (by decide +kernel) (by simp only [maskOk, maskN]; decide) hW h (by decide)
  rw [field_step (Q := 2147483648) (P := 2) rfl rfl (field_one (Q := 8388608) (P := 64) rfl rfl)] at hm
  rw [take_0 hW, put_0 _ _ _ _ _ _ (Nat.mod_lt _ (by decide)) (Nat.mod_lt _ (by decide)) (Nat.mod_lt _ (by decide)) (Nat.mod_lt _ (by decide)) (Nat.mod_lt _ (by decide)) (Nat.mod_lt _ (by decide)), fin_0 hW hm]
theorem word_0 (a0 a1 a2 a3 a4 a5 : Nat) (l0 : a0 < 32) (l1 : a1 < 32) (l2 : a2 < 4096) (l3 : a3 < 2) (l4 : a4 < 2) (l5 : a5 < 2) (S : Nat) (hS : S = 2432696320 + a0 * 1 + a1 * 32 + a2 * 1024 + a3 * 4194304 + a4 * 536870912 + a5 * 1073741824) : S < 4294967296 ∧ S / 1 % 32 = a0 ∧ S / 32 % 32 = a1 ∧ S / 1024 % 4096 = a2 ∧ S / 4194304 % 2 = a3 ∧ S / 536870912 % 2 = a4 ∧ S / 1073741824 % 2 = a5 ∧ andU (S : Int) (fMask 0) = fBase 0 := by
  have hlt : S < 4294967296 := by omega
  exact ⟨hlt, digit (0) (a1 + a2 * 32 + a3 * 131072 + 34 * 262144 + a4 * 16777216 + a5 * 33554432 + 1 * 67108864) 32 rfl (by omega), digit (a0) (a2 + a3 * 4096 + 34 * 8192 + a4 * 524288 + a5 * 1048576 + 1 * 2097152) 1024 rfl (by omega), digit (a0 + a1 * 32) (a3 + 34 * 2 + a4 * 128 + a5 * 256 + 1 * 512) 4194304 rfl (by omega), digit (a0 + a1 * 32 + a2 * 1024) (34 + a4 * 64 + a5 * 128 + 1 * 256) 8388608 rfl (by omega), digit (a0 + a1 * 32 + a2 * 1024 + a3 * 4194304 + 34 * 8388608) (a5 + 1 * 2) 1073741824 rfl (by omega), digit (a0 + a1 * 32 + a2 * 1024 + a3 * 4194304 + 34 * 8388608 + a4 * 536870912) (1) 2147483648 rfl (by omega), mask_to (M := 2675965952) (B := 2432696320) [(31, 1), (23, 6)] (by decide +kernel) (by simp only [maskOk, maskN]; decide) hlt (by decide) (field_sc (Q := 2147483648) (P := 2) (c := 1) (s := 285212672) rfl rfl (digit (a0 + a1 * 32 + a2 * 1024 + a3 * 4194304 + 34 * 8388608 + a4 * 536870912 + a5 * 1073741824) (0) 4294967296 rfl (by omega)) (field_oc (Q := 8388608) (P := 64) (c := 34) rfl rfl (digit (a0 + a1 * 32 + a2 * 1024 + a3 * 4194304) (a4 + a5 * 2 + 1 * 4) 536870912 rfl (by omega)) (by omega)) (by omega))⟩
theorem again_0 (a0 a1 a2 a3 a4 a5 : Nat) (l0 : a0 < 32) (l1 : a1 < 32) (l2 : a2 < 4096) (l3 : a3 < 2) (l4 : a4 < 2) (l5 : a5 < 2) : takeI 0 (putI 0 (fBase 0) (X_0 a0 a1 a2 a3 a4 a5)) = (X_0 a0 a1 a2 a3 a4 a5) ∧ andU (putI 0 (fBase 0) (X_0 a0 a1 a2 a3 a4 a5)) (fMask 0) = fBase 0 ∧ ∃ W : Nat, W < 4294967296 ∧ putI 0 (fBase 0) (X_0 a0 a1 a2 a3 a4 a5) = (W : Int) := by
  obtain ⟨S, hS⟩ : ∃ S, S = 2432696320 + a0 * 1 + a1 * 32 + a2 * 1024 + a3 * 4194304 + a4 * 536870912 + a5 * 1073741824 := ⟨_, rfl⟩
  have h := word_0 a0 a1 a2 a3 a4 a5 l0 l1 l2 l3 l4 l5 S hS
  rw [put_0 a0 a1 a2 a3 a4 a5 l0 l1 l2 l3 l4 l5, ← hS]
  refine ⟨?_, h.2.2.2.2.2.2.2, S, h.1, rfl⟩
  rw [take_0 h.1, h.2.1, h.2.2.1, h.2.2.2.1, h.2.2.2.2.1, h.2.2.2.2.2.1, h.2.2.2.2.2.2.1]
def X_1 (a0 a1 a2 a3 a4 a5 a6 : Nat) : InsnS := ⟨2, 0, ((a0 : Nat) : Int), ((a1 : Nat) : Int), ((a2 : Nat) : Int), 0, 0, 0, ((a3 : Nat) : Int), ((a4 : Nat) : Int), 0, 0, decide (a5 = 1), decide (a6 = 1), false, false⟩
theorem put_1 (a0 a1 a2 a3 a4 a5 a6 : Nat) (l0 : a0 < 32) (l1 : a1 < 32) (l2 : a2 < 32) (l3 : a3 < 64) (l4 : a4 < 4) (l5 : a5 < 2) (l6 : a6 < 2) : putI 1 (fBase 1) (X_1 a0 a1 a2 a3 a4 a5 a6) = ((2332033024 + a0 * 1 + a1 * 32 + a2 * 65536 + a3 * 1024 + a4 * 4194304 + a5 * 536870912 + a6 * 1073741824 : Nat) : Int) := by
  have s1 := stp 0 5 0 5 32 1 (by decide) (Vi := fBase 1) (V := 2332033024) rfl (nat_mod l0 (by decide)) (by omega)
  have s2 := stp 5 5 5 5 32 32 (by decide) s1 (nat_mod l1 (by decide)) (by omega)
  have s3 := stp 16 5 16 5 32 65536 (by decide) s2 (nat_mod l2 (by decide)) (by omega)
  have s4 := stp 10 6 10 6 64 1024 (by decide) s3 (nat_mod l3 (by decide)) (by omega)
  have s5 := stp 22 2 22 2 4 4194304 (by decide) s4 (nat_mod l4 (by decide)) (by omega)
  have s6 := stf (b := decide (a5 = 1)) 536870912 29 536870912 (by decide) s5 (bN_dec l5) (by omega)
  have s7 := stf (b := decide (a6 = 1)) 1073741824 30 1073741824 (by decide) s6 (bN_dec l6) (by omega)
  exact s7
theorem take_1 {W : Nat} (hW : W < 4294967296) : takeI 1 (W : Int) = X_1 (W / 1 % 32) (W / 32 % 32) (W / 65536 % 32) (W / 1024 % 64) (W / 4194304 % 4) (W / 536870912 % 2) (W / 1073741824 % 2) := by
  have e0 : bitsS (W : Int) 0 5 = ((W / 1 % 32 : Nat) : Int) := bof 0 5 0 5 32 1 (by decide) hW
  have e1 : bitsS (W : Int) 5 5 = ((W / 32 % 32 : Nat) : Int) := bof 5 5 5 5 32 32 (by decide) hW
  have e2 : bitsS (W : Int) 16 5 = ((W / 65536 % 32 : Nat) : Int) := bof 16 5 16 5 32 65536 (by decide) hW
  have e3 : bitsS (W : Int) 10 6 = ((W / 1024 % 64 : Nat) : Int) := bof 10 6 10 6 64 1024 (by decide) hW
  have e4 : bitsS (W : Int) 22 2 = ((W / 4194304 % 4 : Nat) : Int) := bof 22 2 22 2 4 4194304 (by decide) hW
  have e5 : hasS (W : Int) 536870912 = decide (W / 536870912 % 2 = 1) := hof 536870912 29 536870912 (by decide) hW
  have e6 : hasS (W : Int) 1073741824 = decide (W / 1073741824 % 2 = 1) := hof 1073741824 30 1073741824 (by decide) hW
  show (⟨2, 0, bitsS (W : Int) 0 5, bitsS (W : Int) 5 5, bitsS (W : Int) 16 5, 0, 0, 0, bitsS (W : Int) 10 6, bitsS (W : Int) 22 2, 0, 0, hasS (W : Int) 536870912, hasS (W : Int) 1073741824, false, false⟩ : InsnS) = _
  rw [e0, e1, e2, e3, e4, e5, e6]
  rfl
theorem fin_1 {W : Nat} (hW : W < 4294967296) (hm : W / 2147483648 % 2 * 2147483648 + (W / 16777216 % 32 * 16777216 + W / 2097152 % 2 * 2097152) = 2332033024) : 2332033024 + W / 1 % 32 * 1 + W / 32 % 32 * 32 + W / 65536 % 32 * 65536 + W / 1024 % 64 * 1024 + W / 4194304 % 4 * 4194304 + W / 536870912 % 2 * 536870912 + W / 1073741824 % 2 * 1073741824 = W := by
  have d0 := div_step W 1 32 32 rfl
  have d1 := div_step W 32 32 1024 rfl
  have d2 := div_step W 1024 64 65536 rfl
  have d3 := div_step W 65536 32 2097152 rfl
  have d4 := div_step W 2097152 2 4194304 rfl
  have d5 := div_step W 4194304 4 16777216 rfl
  have d6 := div_step W 16777216 32 536870912 rfl
  have d7 := div_step W 536870912 2 1073741824 rfl
  have d8 := div_step W 1073741824 2 2147483648 rfl
  have d9 := div_step W 2147483648 2 4294967296 rfl
  have d99 : W / 4294967296 = 0 := Nat.div_eq_of_lt hW
  have d98 : W / 1 = W := Nat.div_one W
  generalize W / 1 % 32 = y0, W / 32 % 32 = y1, W / 1024 % 64 = y2, W / 65536 % 32 = y3, W / 2097152 % 2 = y4, W / 4194304 % 4 = y5, W / 16777216 % 32 = y6, W / 536870912 % 2 = y7, W / 1073741824 % 2 = y8, W / 2147483648 % 2 = y9 at *
  generalize W / 32 = q1, W / 1024 = q2, W / 65536 = q3, W / 2097152 = q4, W / 4194304 = q5, W / 16777216 = q6, W / 536870912 = q7, W / 1073741824 = q8, W / 2147483648 = q9 at *
  generalize W / 4294967296 = q99 at *
  generalize W / 1 = q98 at *
  omega
theorem back1_1 {W : Nat} (hW : W < 4294967296) (h : andU (W : Int) (fMask 1) = fBase 1) : putI 1 (fBase 1) (takeI 1 W) = (W : Int) := by
  have hm := mask_at (M := 2669674496) (B := 2332033024) [(31, 1), (24, 5), (21, 1)] (by decide +kernel) (by simp only [maskOk, maskN]; decide) hW h (by decide)
  rw [field_step (Q := 2147483648) (P := 2) rfl rfl (field_step (Q := 16777216) (P := 32) rfl rfl (field_one (Q := 2097152) (P := 2) rfl rfl))] at hm
  rw [take_1 hW, put_1 _ _ _ _ _ _ _ (Nat.mod_lt _ (by decide)) (Nat.mod_lt _ (by decide)) (Nat.mod_lt _ (by decide)) (Nat.mod_lt _ (by decide)) (Nat.mod_lt _ (by decide)) (Nat.mod_lt _ (by decide)) (Nat.mod_lt _ (by decide)), fin_1 hW hm]
theorem word_1 (a0 a1 a2 a3 a4 a5 a6 : Nat) (l0 : a0 < 32) (l1 : a1 < 32) (l2 : a2 < 32) (l3 : a3 < 64) (l4 : a4 < 4) (l5 : a5 < 2) (l6 : a6 < 2) (S : Nat) (hS : S = 2332033024 + a0 * 1 + a1 * 32 + a2 * 65536 + a3 * 1024 + a4 * 4194304 + a5 * 536870912 + a6 * 1073741824) : S < 4294967296 ∧ S / 1 % 32 = a0 ∧ S / 32 % 32 = a1 ∧ S / 65536 % 32 = a2 ∧ S / 1024 % 64 = a3 ∧ S / 4194304 % 4 = a4 ∧ S / 536870912 % 2 = a5 ∧ S / 1073741824 % 2 = a6 ∧ andU (S : Int) (fMask 1) = fBase 1 := by
  have hlt : S < 4294967296 := by omega
  exact ⟨hlt, digit (0) (a1 + a3 * 32 + a2 * 2048 + a4 * 131072 + 11 * 524288 + a5 * 16777216 + a6 * 33554432 + 1 * 67108864) 32 rfl (by omega), digit (a0) (a3 + a2 * 64 + a4 * 4096 + 11 * 16384 + a5 * 524288 + a6 * 1048576 + 1 * 2097152) 1024 rfl (by omega), digit (a0 + a1 * 32 + a3 * 1024) (a4 * 2 + 11 * 8 + a5 * 256 + a6 * 512 + 1 * 1024) 2097152 rfl (by omega), digit (a0 + a1 * 32) (a2 + a4 * 64 + 11 * 256 + a5 * 8192 + a6 * 16384 + 1 * 32768) 65536 rfl (by omega), digit (a0 + a1 * 32 + a3 * 1024 + a2 * 65536) (11 + a5 * 32 + a6 * 64 + 1 * 128) 16777216 rfl (by omega), digit (a0 + a1 * 32 + a3 * 1024 + a2 * 65536 + a4 * 4194304 + 11 * 16777216) (a6 + 1 * 2) 1073741824 rfl (by omega), digit (a0 + a1 * 32 + a3 * 1024 + a2 * 65536 + a4 * 4194304 + 11 * 16777216 + a5 * 536870912) (1) 2147483648 rfl (by omega), mask_to (M := 2669674496) (B := 2332033024) [(31, 1), (24, 5), (21, 1)] (by decide +kernel) (by simp only [maskOk, maskN]; decide) hlt (by decide) (field_sc (Q := 2147483648) (P := 2) (c := 1) (s := 184549376) rfl rfl (digit (a0 + a1 * 32 + a3 * 1024 + a2 * 65536 + a4 * 4194304 + 11 * 16777216 + a5 * 536870912 + a6 * 1073741824) (0) 4294967296 rfl (by omega)) (field_sc (Q := 16777216) (P := 32) (c := 11) (s := 0) rfl rfl (digit (a0 + a1 * 32 + a3 * 1024 + a2 * 65536 + a4 * 4194304) (a5 + a6 * 2 + 1 * 4) 536870912 rfl (by omega)) (field_oc (Q := 2097152) (P := 2) (c := 0) rfl rfl (digit (a0 + a1 * 32 + a3 * 1024 + a2 * 65536) (a4 + 11 * 4 + a5 * 128 + a6 * 256 + 1 * 512) 4194304 rfl (by omega)) (Nat.zero_mul _)) (by omega)) (by omega))⟩
theorem again_1 (a0 a1 a2 a3 a4 a5 a6 : Nat) (l0 : a0 < 32) (l1 : a1 < 32) (l2 : a2 < 32) (l3 : a3 < 64) (l4 : a4 < 4) (l5 : a5 < 2) (l6 : a6 < 2) : takeI 1 (putI 1 (fBase 1) (X_1 a0 a1 a2 a3 a4 a5 a6)) = (X_1 a0 a1 a2 a3 a4 a5 a6) ∧ andU (putI 1 (fBase 1) (X_1 a0 a1 a2 a3 a4 a5 a6)) (fMask 1) = fBase 1 ∧ ∃ W : Nat, W < 4294967296 ∧ putI 1 (fBase 1) (X_1 a0 a1 a2 a3 a4 a5 a6) = (W : Int) := by
  obtain ⟨S, hS⟩ : ∃ S, S = 2332033024 + a0 * 1 + a1 * 32 + a2 * 65536 + a3 * 1024 + a4 * 4194304 + a5 * 536870912 + a6 * 1073741824 := ⟨_, rfl⟩
  have h := word_1 a0 a1 a2 a3 a4 a5 a6 l0 l1 l2 l3 l4 l5 l6 S hS
  rw [put_1 a0 a1 a2 a3 a4 a5 a6 l0 l1 l2 l3 l4 l5 l6, ← hS]
  refine ⟨?_, h.2.2.2.2.2.2.2.2, S, h.1, rfl⟩
  rw [take_1 h.1, h.2.1, h.2.2.1, h.2.2.2.1, h.2.2.2.2.1, h.2.2.2.2.2.1, h.2.2.2.2.2.2.1, h.2.2.2.2.2.2.2.1]
def X_2 (a0 a1 a2 a3 a4 a5 a6 : Nat) : InsnS := ⟨3, (if ((a3 : Nat) : Int) = 3 then 0 else ((a3 : Nat) : Int)), ((a0 : Nat) : Int), ((a1 : Nat) : Int), ((a2 : Nat) : Int), 0, 0, 0, ((a4 : Nat) : Int), ((a5 : Nat) : Int), 0, 0, (((a3 : Nat) : Int) == 3), false, (((a6 : Nat) : Int) == 1), false⟩
theorem put_2 (a0 a1 a2 a3 a4 a5 a6 : Nat) (l0 : a0 < 32) (l1 : a1 < 32) (l2 : a2 < 32) (l3 : a3 < 4) (l4 : a4 < 64) (l5 : a5 < 4) (l6 : a6 < 2) : putI 2 (fBase 2) (X_2 a0 a1 a2 a3 a4 a5 a6) = ((2315255808 + a0 * 1 + a1 * 32 + a2 * 65536 + a3 * 536870912 + a4 * 1024 + a5 * 4194304 + a6 * 2097152 : Nat) : Int) := by
  have s1 := stp 0 5 0 5 32 1 (by decide) (Vi := fBase 2) (V := 2315255808) rfl (nat_mod l0 (by decide)) (by omega)
  have s2 := stp 5 5 5 5 32 32 (by decide) s1 (nat_mod l1 (by decide)) (by omega)
  have s3 := stp 16 5 16 5 32 65536 (by decide) s2 (nat_mod l2 (by decide)) (by omega)
  have h4 : (logicS (X_2 a0 a1 a2 a3 a4 a5 a6) % 4294967296).toNat % 4 = a3 := logic_of rfl rfl l3
  have s4 := stp 29 2 29 2 4 536870912 (by decide) s3 h4 (by omega)
  have s5 := stp 10 6 10 6 64 1024 (by decide) s4 (nat_mod l4 (by decide)) (by omega)
  have s6 := stp 22 2 22 2 4 4194304 (by decide) s5 (nat_mod l5 (by decide)) (by omega)
  have s7 := stf (b := (((a6 : Nat) : Int) == 1)) 2097152 21 2097152 (by decide) s6 (bN_eq1 l6) (by omega)
  exact s7
theorem take_2 {W : Nat} (hW : W < 4294967296) : takeI 2 (W : Int) = X_2 (W / 1 % 32) (W / 32 % 32) (W / 65536 % 32) (W / 536870912 % 4) (W / 1024 % 64) (W / 4194304 % 4) (W / 2097152 % 2) := by
  have e0 : bitsS (W : Int) 0 5 = ((W / 1 % 32 : Nat) : Int) := bof 0 5 0 5 32 1 (by decide) hW
  have e1 : bitsS (W : Int) 5 5 = ((W / 32 % 32 : Nat) : Int) := bof 5 5 5 5 32 32 (by decide) hW
  have e2 : bitsS (W : Int) 16 5 = ((W / 65536 % 32 : Nat) : Int) := bof 16 5 16 5 32 65536 (by decide) hW
  have e3 : bitsS (W : Int) 29 2 = ((W / 536870912 % 4 : Nat) : Int) := bof 29 2 29 2 4 536870912 (by decide) hW
  have e4 : bitsS (W : Int) 10 6 = ((W / 1024 % 64 : Nat) : Int) := bof 10 6 10 6 64 1024 (by decide) hW
  have e5 : bitsS (W : Int) 22 2 = ((W / 4194304 % 4 : Nat) : Int) := bof 22 2 22 2 4 4194304 (by decide) hW
  have e6 : bitsS (W : Int) 21 1 = ((W / 2097152 % 2 : Nat) : Int) := bof 21 1 21 1 2 2097152 (by decide) hW
  show (⟨3, (if bitsS (W : Int) 29 2 = 3 then 0 else bitsS (W : Int) 29 2), bitsS (W : Int) 0 5, bitsS (W : Int) 5 5, bitsS (W : Int) 16 5, 0, 0, 0, bitsS (W : Int) 10 6, bitsS (W : Int) 22 2, 0, 0, (bitsS (W : Int) 29 2 == 3), false, (bitsS (W : Int) 21 1 == 1), false⟩ : InsnS) = _
  rw [e0, e1, e2, e3, e4, e5, e6]
  rfl
theorem fin_2 {W : Nat} (hW : W < 4294967296) (hm : W / 2147483648 % 2 * 2147483648 + W / 16777216 % 32 * 16777216 = 2315255808) : 2315255808 + W / 1 % 32 * 1 + W / 32 % 32 * 32 + W / 65536 % 32 * 65536 + W / 536870912 % 4 * 536870912 + W / 1024 % 64 * 1024 + W / 4194304 % 4 * 4194304 + W / 2097152 % 2 * 2097152 = W := by
  have d0 := div_step W 1 32 32 rfl
  have d1 := div_step W 32 32 1024 rfl
  have d2 := div_step W 1024 64 65536 rfl
  have d3 := div_step W 65536 32 2097152 rfl
  have d4 := div_step W 2097152 2 4194304 rfl
  have d5 := div_step W 4194304 4 16777216 rfl
  have d6 := div_step W 16777216 32 536870912 rfl
  have d7 := div_step W 536870912 4 2147483648 rfl
  have d8 := div_step W 2147483648 2 4294967296 rfl
  have d99 : W / 4294967296 = 0 := Nat.div_eq_of_lt hW
  have d98 : W / 1 = W := Nat.div_one W
  generalize W / 1 % 32 = y0, W / 32 % 32 = y1, W / 1024 % 64 = y2, W / 65536 % 32 = y3, W / 2097152 % 2 = y4, W / 4194304 % 4 = y5, W / 16777216 % 32 = y6, W / 536870912 % 4 = y7, W / 2147483648 % 2 = y8 at *
  generalize W / 32 = q1, W / 1024 = q2, W / 65536 = q3, W / 2097152 = q4, W / 4194304 = q5, W / 16777216 = q6, W / 536870912 = q7, W / 2147483648 = q8 at *
  generalize W / 4294967296 = q99 at *
  generalize W / 1 = q98 at *
  omega
theorem back1_2 {W : Nat} (hW : W < 4294967296) (h : andU (W : Int) (fMask 2) = fBase 2) : putI 2 (fBase 2) (takeI 2 W) = (W : Int) := by
  have hm := mask_at (M := 2667577344) (B := 2315255808) [(31, 1), (24, 5)] (by decide +kernel) (by simp only [maskOk, maskN]; decide) hW h (by decide)
  rw [field_step (Q := 2147483648) (P := 2) rfl rfl (field_one (Q := 16777216) (P := 32) rfl rfl)] at hm
  rw [take_2 hW, put_2 _ _ _ _ _ _ _ (Nat.mod_lt _ (by decide)) (Nat.mod_lt _ (by decide)) (Nat.mod_lt _ (by decide)) (Nat.mod_lt _ (by decide)) (Nat.mod_lt _ (by decide)) (Nat.mod_lt _ (by decide)) (Nat.mod_lt _ (by decide)), fin_2 hW hm]
theorem word_2 (a0 a1 a2 a3 a4 a5 a6 : Nat) (l0 : a0 < 32) (l1 : a1 < 32) (l2 : a2 < 32) (l3 : a3 < 4) (l4 : a4 < 64) (l5 : a5 < 4) (l6 : a6 < 2) (S : Nat) (hS : S = 2315255808 + a0 * 1 + a1 * 32 + a2 * 65536 + a3 * 536870912 + a4 * 1024 + a5 * 4194304 + a6 * 2097152) : S < 4294967296 ∧ S / 1 % 32 = a0 ∧ S / 32 % 32 = a1 ∧ S / 65536 % 32 = a2 ∧ S / 536870912 % 4 = a3 ∧ S / 1024 % 64 = a4 ∧ S / 4194304 % 4 = a5 ∧ S / 2097152 % 2 = a6 ∧ andU (S : Int) (fMask 2) = fBase 2 := by
  have hlt : S < 4294967296 := by omega
  exact ⟨hlt, digit (0) (a1 + a4 * 32 + a2 * 2048 + a6 * 65536 + a5 * 131072 + 10 * 524288 + a3 * 16777216 + 1 * 67108864) 32 rfl (by omega), digit (a0) (a4 + a2 * 64 + a6 * 2048 + a5 * 4096 + 10 * 16384 + a3 * 524288 + 1 * 2097152) 1024 rfl (by omega), digit (a0 + a1 * 32 + a4 * 1024) (a6 + a5 * 2 + 10 * 8 + a3 * 256 + 1 * 1024) 2097152 rfl (by omega), digit (a0 + a1 * 32 + a4 * 1024 + a2 * 65536 + a6 * 2097152 + a5 * 4194304 + 10 * 16777216) (1) 2147483648 rfl (by omega), digit (a0 + a1 * 32) (a2 + a6 * 32 + a5 * 64 + 10 * 256 + a3 * 8192 + 1 * 32768) 65536 rfl (by omega), digit (a0 + a1 * 32 + a4 * 1024 + a2 * 65536 + a6 * 2097152) (10 + a3 * 32 + 1 * 128) 16777216 rfl (by omega), digit (a0 + a1 * 32 + a4 * 1024 + a2 * 65536) (a5 + 10 * 4 + a3 * 128 + 1 * 512) 4194304 rfl (by omega), mask_to (M := 2667577344) (B := 2315255808) [(31, 1), (24, 5)] (by decide +kernel) (by simp only [maskOk, maskN]; decide) hlt (by decide) (field_sc (Q := 2147483648) (P := 2) (c := 1) (s := 167772160) rfl rfl (digit (a0 + a1 * 32 + a4 * 1024 + a2 * 65536 + a6 * 2097152 + a5 * 4194304 + 10 * 16777216 + a3 * 536870912) (0) 4294967296 rfl (by omega)) (field_oc (Q := 16777216) (P := 32) (c := 10) rfl rfl (digit (a0 + a1 * 32 + a4 * 1024 + a2 * 65536 + a6 * 2097152 + a5 * 4194304) (a3 + 1 * 4) 536870912 rfl (by omega)) (by omega)) (by omega))⟩
theorem again_2 (a0 a1 a2 a3 a4 a5 a6 : Nat) (l0 : a0 < 32) (l1 : a1 < 32) (l2 : a2 < 32) (l3 : a3 < 4) (l4 : a4 < 64) (l5 : a5 < 4) (l6 : a6 < 2) : takeI 2 (putI 2 (fBase 2) (X_2 a0 a1 a2 a3 a4 a5 a6)) = (X_2 a0 a1 a2 a3 a4 a5 a6) ∧ andU (putI 2 (fBase 2) (X_2 a0 a1 a2 a3 a4 a5 a6)) (fMask 2) = fBase 2 ∧ ∃ W : Nat, W < 4294967296 ∧ putI 2 (fBase 2) (X_2 a0 a1 a2 a3 a4 a5 a6) = (W : Int) := by
  obtain ⟨S, hS⟩ : ∃ S, S = 2315255808 + a0 * 1 + a1 * 32 + a2 * 65536 + a3 * 536870912 + a4 * 1024 + a5 * 4194304 + a6 * 2097152 := ⟨_, rfl⟩
  have h := word_2 a0 a1 a2 a3 a4 a5 a6 l0 l1 l2 l3 l4 l5 l6 S hS
  rw [put_2 a0 a1 a2 a3 a4 a5 a6 l0 l1 l2 l3 l4 l5 l6, ← hS]
  refine ⟨?_, h.2.2.2.2.2.2.2.2, S, h.1, rfl⟩
  rw [take_2 h.1, h.2.1, h.2.2.1, h.2.2.2.1, h.2.2.2.2.1, h.2.2.2.2.2.1, h.2.2.2.2.2.2.1, h.2.2.2.2.2.2.2.1]
def X_3 (a0 a1 a2 a3 a4 a5 : Nat) : InsnS := ⟨4, (if ((a2 : Nat) : Int) = 3 then 0 else ((a2 : Nat) : Int)), ((a0 : Nat) : Int), ((a1 : Nat) : Int), 0, 0, ((a4 : Nat) : Int), ((a5 : Nat) : Int), ((a3 : Nat) : Int), 0, 0, 0, (((a2 : Nat) : Int) == 3), false, false, false⟩
theorem put_3 (a0 a1 a2 a3 a4 a5 : Nat) (l0 : a0 < 32) (l1 : a1 < 32) (l2 : a2 < 4) (l3 : a3 < 2) (l4 : a4 < 64) (l5 : a5 < 64) : putI 3 (fBase 3) (X_3 a0 a1 a2 a3 a4 a5) = ((2449473536 + a0 * 1 + a1 * 32 + a2 * 536870912 + a3 * 4194304 + a4 * 65536 + a5 * 1024 : Nat) : Int) := by
  have s1 := stp 0 5 0 5 32 1 (by decide) (Vi := fBase 3) (V := 2449473536) rfl (nat_mod l0 (by decide)) (by omega)
  have s2 := stp 5 5 5 5 32 32 (by decide) s1 (nat_mod l1 (by decide)) (by omega)
  have s3 := layS_zero (n := 0) (ai := 16) (mi := 5) s2 (by omega) rfl
  have h4 : (logicS (X_3 a0 a1 a2 a3 a4 a5) % 4294967296).toNat % 4 = a2 := logic_of rfl rfl l2
  have s4 := stp 29 2 29 2 4 536870912 (by decide) s3 h4 (by omega)
  have s5 := stp 22 1 22 1 2 4194304 (by decide) s4 (nat_mod l3 (by decide)) (by omega)
  have s6 := stp 16 6 16 6 64 65536 (by decide) s5 (nat_mod l4 (by decide)) (by omega)
  have s7 := stp 10 6 10 6 64 1024 (by decide) s6 (nat_mod l5 (by decide)) (by omega)
  exact s7
theorem take_3 {W : Nat} (hW : W < 4294967296) : takeI 3 (W : Int) = X_3 (W / 1 % 32) (W / 32 % 32) (W / 536870912 % 4) (W / 4194304 % 2) (W / 65536 % 64) (W / 1024 % 64) := by
  have e0 : bitsS (W : Int) 0 5 = ((W / 1 % 32 : Nat) : Int) := bof 0 5 0 5 32 1 (by decide) hW
  have e1 : bitsS (W : Int) 5 5 = ((W / 32 % 32 : Nat) : Int) := bof 5 5 5 5 32 32 (by decide) hW
  have e2 : bitsS (W : Int) 29 2 = ((W / 536870912 % 4 : Nat) : Int) := bof 29 2 29 2 4 536870912 (by decide) hW
  have e3 : bitsS (W : Int) 22 1 = ((W / 4194304 % 2 : Nat) : Int) := bof 22 1 22 1 2 4194304 (by decide) hW
  have e4 : bitsS (W : Int) 16 6 = ((W / 65536 % 64 : Nat) : Int) := bof 16 6 16 6 64 65536 (by decide) hW
  have e5 : bitsS (W : Int) 10 6 = ((W / 1024 % 64 : Nat) : Int) := bof 10 6 10 6 64 1024 (by decide) hW
  show (⟨4, (if bitsS (W : Int) 29 2 = 3 then 0 else bitsS (W : Int) 29 2), bitsS (W : Int) 0 5, bitsS (W : Int) 5 5, 0, 0, bitsS (W : Int) 16 6, bitsS (W : Int) 10 6, bitsS (W : Int) 22 1, 0, 0, 0, (bitsS (W : Int) 29 2 == 3), false, false, false⟩ : InsnS) = _
  rw [e0, e1, e2, e3, e4, e5]
  rfl
theorem fin_3 {W : Nat} (hW : W < 4294967296) (hm : W / 2147483648 % 2 * 2147483648 + W / 8388608 % 64 * 8388608 = 2449473536) : 2449473536 + W / 1 % 32 * 1 + W / 32 % 32 * 32 + W / 536870912 % 4 * 536870912 + W / 4194304 % 2 * 4194304 + W / 65536 % 64 * 65536 + W / 1024 % 64 * 1024 = W := by
  have d0 := div_step W 1 32 32 rfl
  have d1 := div_step W 32 32 1024 rfl
  have d2 := div_step W 1024 64 65536 rfl
  have d3 := div_step W 65536 64 4194304 rfl
  have d4 := div_step W 4194304 2 8388608 rfl
  have d5 := div_step W 8388608 64 536870912 rfl
  have d6 := div_step W 536870912 4 2147483648 rfl
  have d7 := div_step W 2147483648 2 4294967296 rfl
  have d99 : W / 4294967296 = 0 := Nat.div_eq_of_lt hW
  have d98 : W / 1 = W := Nat.div_one W
  generalize W / 1 % 32 = y0, W / 32 % 32 = y1, W / 1024 % 64 = y2, W / 65536 % 64 = y3, W / 4194304 % 2 = y4, W / 8388608 % 64 = y5, W / 536870912 % 4 = y6, W / 2147483648 % 2 = y7 at *
  generalize W / 32 = q1, W / 1024 = q2, W / 65536 = q3, W / 4194304 = q4, W / 8388608 = q5, W / 536870912 = q6, W / 2147483648 = q7 at *
  generalize W / 4294967296 = q99 at *
  generalize W / 1 = q98 at *
  omega
theorem back1_3 {W : Nat} (hW : W < 4294967296) (h : andU (W : Int) (fMask 3) = fBase 3) : putI 3 (fBase 3) (takeI 3 W) = (W : Int) := by
  have hm := mask_at (M := 2675965952) (B := 2449473536) [(31, 1), (23, 6)] (by decide +kernel) (by simp only [maskOk, maskN]; decide) hW h (by decide)
  rw [field_step (Q := 2147483648) (P := 2) rfl rfl (field_one (Q := 8388608) (P := 64) rfl rfl)] at hm
  rw [take_3 hW, put_3 _ _ _ _ _ _ (Nat.mod_lt _ (by decide)) (Nat.mod_lt _ (by decide)) (Nat.mod_lt _ (by decide)) (Nat.mod_lt _ (by decide)) (Nat.mod_lt _ (by decide)) (Nat.mod_lt _ (by decide)), fin_3 hW hm]
theorem word_3 (a0 a1 a2 a3 a4 a5 : Nat) (l0 : a0 < 32) (l1 : a1 < 32) (l2 : a2 < 4) (l3 : a3 < 2) (l4 : a4 < 64) (l5 : a5 < 64) (S : Nat) (hS : S = 2449473536 + a0 * 1 + a1 * 32 + a2 * 536870912 + a3 * 4194304 + a4 * 65536 + a5 * 1024) : S < 4294967296 ∧ S / 1 % 32 = a0 ∧ S / 32 % 32 = a1 ∧ S / 536870912 % 4 = a2 ∧ S / 4194304 % 2 = a3 ∧ S / 65536 % 64 = a4 ∧ S / 1024 % 64 = a5 ∧ andU (S : Int) (fMask 3) = fBase 3 := by
  have hlt : S < 4294967296 := by omega
  exact ⟨hlt, digit (0) (a1 + a5 * 32 + a4 * 2048 + a3 * 131072 + 36 * 262144 + a2 * 16777216 + 1 * 67108864) 32 rfl (by omega), digit (a0) (a5 + a4 * 64 + a3 * 4096 + 36 * 8192 + a2 * 524288 + 1 * 2097152) 1024 rfl (by omega), digit (a0 + a1 * 32 + a5 * 1024 + a4 * 65536 + a3 * 4194304 + 36 * 8388608) (1) 2147483648 rfl (by omega), digit (a0 + a1 * 32 + a5 * 1024 + a4 * 65536) (36 + a2 * 64 + 1 * 256) 8388608 rfl (by omega), digit (a0 + a1 * 32 + a5 * 1024) (a3 + 36 * 2 + a2 * 128 + 1 * 512) 4194304 rfl (by omega), digit (a0 + a1 * 32) (a4 + a3 * 64 + 36 * 128 + a2 * 8192 + 1 * 32768) 65536 rfl (by omega), mask_to (M := 2675965952) (B := 2449473536) [(31, 1), (23, 6)] (by decide +kernel) (by simp only [maskOk, maskN]; decide) hlt (by decide) (field_sc (Q := 2147483648) (P := 2) (c := 1) (s := 301989888) rfl rfl (digit (a0 + a1 * 32 + a5 * 1024 + a4 * 65536 + a3 * 4194304 + 36 * 8388608 + a2 * 536870912) (0) 4294967296 rfl (by omega)) (field_oc (Q := 8388608) (P := 64) (c := 36) rfl rfl (digit (a0 + a1 * 32 + a5 * 1024 + a4 * 65536 + a3 * 4194304) (a2 + 1 * 4) 536870912 rfl (by omega)) (by omega)) (by omega))⟩
theorem again_3 (a0 a1 a2 a3 a4 a5 : Nat) (l0 : a0 < 32) (l1 : a1 < 32) (l2 : a2 < 4) (l3 : a3 < 2) (l4 : a4 < 64) (l5 : a5 < 64) : takeI 3 (putI 3 (fBase 3) (X_3 a0 a1 a2 a3 a4 a5)) = (X_3 a0 a1 a2 a3 a4 a5) ∧ andU (putI 3 (fBase 3) (X_3 a0 a1 a2 a3 a4 a5)) (fMask 3) = fBase 3 ∧ ∃ W : Nat, W < 4294967296 ∧ putI 3 (fBase 3) (X_3 a0 a1 a2 a3 a4 a5) = (W : Int) := by
  obtain ⟨S, hS⟩ : ∃ S, S = 2449473536 + a0 * 1 + a1 * 32 + a2 * 536870912 + a3 * 4194304 + a4 * 65536 + a5 * 1024 := ⟨_, rfl⟩
  have h := word_3 a0 a1 a2 a3 a4 a5 l0 l1 l2 l3 l4 l5 S hS
  rw [put_3 a0 a1 a2 a3 a4 a5 l0 l1 l2 l3 l4 l5, ← hS]
  refine ⟨?_, h.2.2.2.2.2.2.2, S, h.1, rfl⟩
  rw [take_3 h.1, h.2.1, h.2.2.1, h.2.2.2.1, h.2.2.2.2.1, h.2.2.2.2.2.1, h.2.2.2.2.2.2.1]
def X_4 (a0 a1 a2 a3 : Nat) : InsnS := ⟨5, ((a1 : Nat) : Int), ((a0 : Nat) : Int), 0, 0, 0, ((a2 : Nat) : Int), 0, ((16 * (a3) : Nat) : Int), 0, 0, 0, false, false, false, false⟩
theorem put_4 (a0 a1 a2 a3 : Nat) (l0 : a0 < 32) (l1 : a1 < 4) (l2 : a2 < 65536) (l3 : a3 < 4) : putI 4 (fBase 4) (X_4 a0 a1 a2 a3) = ((2457862144 + a0 * 1 + a1 * 536870912 + a2 * 32 + a3 * 2097152 : Nat) : Int) := by
  have s1 := stp 0 5 0 5 32 1 (by decide) (Vi := fBase 4) (V := 2457862144) rfl (nat_mod l0 (by decide)) (by omega)
  have s2 := stp 29 2 29 2 4 536870912 (by decide) s1 (nat_mod l1 (by decide)) (by omega)
  have s3 := stp 5 16 5 16 65536 32 (by decide) s2 (nat_mod l2 (by decide)) (by omega)
  have h4 : (quoS ((16 * a3 : Nat) : Int) 16 % 4294967296).toNat % 4 = a3 := by rw [quo16 a3 (by omega)]; exact nat_mod l3 (by decide)
  have s4 := stp 21 2 21 2 4 2097152 (by decide) s3 h4 (by omega)
  exact s4
theorem take_4 {W : Nat} (hW : W < 4294967296) : takeI 4 (W : Int) = X_4 (W / 1 % 32) (W / 536870912 % 4) (W / 32 % 65536) (W / 2097152 % 4) := by
  have e0 : bitsS (W : Int) 0 5 = ((W / 1 % 32 : Nat) : Int) := bof 0 5 0 5 32 1 (by decide) hW
  have e1 : bitsS (W : Int) 29 2 = ((W / 536870912 % 4 : Nat) : Int) := bof 29 2 29 2 4 536870912 (by decide) hW
  have e2 : bitsS (W : Int) 5 16 = ((W / 32 % 65536 : Nat) : Int) := bof 5 16 5 16 65536 32 (by decide) hW
  have e3 : mulS 16 (bitsS (W : Int) 21 2) = ((16 * (W / 2097152 % 4) : Nat) : Int) := by
    rw [bof 21 2 21 2 4 2097152 (by decide) hW]
    exact mul16 _ (Nat.lt_trans (Nat.mod_lt _ (by decide)) (by decide))
  show (⟨5, bitsS (W : Int) 29 2, bitsS (W : Int) 0 5, 0, 0, 0, bitsS (W : Int) 5 16, 0, mulS 16 (bitsS (W : Int) 21 2), 0, 0, 0, false, false, false, false⟩ : InsnS) = _
  rw [e0, e1, e2, e3]
  rfl
theorem fin_4 {W : Nat} (hW : W < 4294967296) (hm : W / 2147483648 % 2 * 2147483648 + W / 8388608 % 64 * 8388608 = 2457862144) : 2457862144 + W / 1 % 32 * 1 + W / 536870912 % 4 * 536870912 + W / 32 % 65536 * 32 + W / 2097152 % 4 * 2097152 = W := by
  have d0 := div_step W 1 32 32 rfl
  have d1 := div_step W 32 65536 2097152 rfl
  have d2 := div_step W 2097152 4 8388608 rfl
  have d3 := div_step W 8388608 64 536870912 rfl
  have d4 := div_step W 536870912 4 2147483648 rfl
  have d5 := div_step W 2147483648 2 4294967296 rfl
  have d99 : W / 4294967296 = 0 := Nat.div_eq_of_lt hW
  have d98 : W / 1 = W := Nat.div_one W
  generalize W / 1 % 32 = y0, W / 32 % 65536 = y1, W / 2097152 % 4 = y2, W / 8388608 % 64 = y3, W / 536870912 % 4 = y4, W / 2147483648 % 2 = y5 at *
  generalize W / 32 = q1, W / 2097152 = q2, W / 8388608 = q3, W / 536870912 = q4, W / 2147483648 = q5 at *
  generalize W / 4294967296 = q99 at *
  generalize W / 1 = q98 at *
  omega
theorem back1_4 {W : Nat} (hW : W < 4294967296) (h : andU (W : Int) (fMask 4) = fBase 4) : putI 4 (fBase 4) (takeI 4 W) = (W : Int) := by
  have hm := mask_at (M := 2675965952) (B := 2457862144) [(31, 1), (23, 6)] (by decide +kernel) (by simp only [maskOk, maskN]; decide) hW h (by decide)
  rw [field_step (Q := 2147483648) (P := 2) rfl rfl (field_one (Q := 8388608) (P := 64) rfl rfl)] at hm
  rw [take_4 hW, put_4 _ _ _ _ (Nat.mod_lt _ (by decide)) (Nat.mod_lt _ (by decide)) (Nat.mod_lt _ (by decide)) (Nat.mod_lt _ (by decide)), fin_4 hW hm]
theorem word_4 (a0 a1 a2 a3 : Nat) (l0 : a0 < 32) (l1 : a1 < 4) (l2 : a2 < 65536) (l3 : a3 < 4) (S : Nat) (hS : S = 2457862144 + a0 * 1 + a1 * 536870912 + a2 * 32 + a3 * 2097152) : S < 4294967296 ∧ S / 1 % 32 = a0 ∧ S / 536870912 % 4 = a1 ∧ S / 32 % 65536 = a2 ∧ S / 2097152 % 4 = a3 ∧ andU (S : Int) (fMask 4) = fBase 4 := by
  have hlt : S < 4294967296 := by omega
  exact ⟨hlt, digit (0) (a2 + a3 * 65536 + 37 * 262144 + a1 * 16777216 + 1 * 67108864) 32 rfl (by omega), digit (a0 + a2 * 32 + a3 * 2097152 + 37 * 8388608) (1) 2147483648 rfl (by omega), digit (a0) (a3 + 37 * 4 + a1 * 256 + 1 * 1024) 2097152 rfl (by omega), digit (a0 + a2 * 32) (37 + a1 * 64 + 1 * 256) 8388608 rfl (by omega), mask_to (M := 2675965952) (B := 2457862144) [(31, 1), (23, 6)] (by decide +kernel) (by simp only [maskOk, maskN]; decide) hlt (by decide) (field_sc (Q := 2147483648) (P := 2) (c := 1) (s := 310378496) rfl rfl (digit (a0 + a2 * 32 + a3 * 2097152 + 37 * 8388608 + a1 * 536870912) (0) 4294967296 rfl (by omega)) (field_oc (Q := 8388608) (P := 64) (c := 37) rfl rfl (digit (a0 + a2 * 32 + a3 * 2097152) (a1 + 1 * 4) 536870912 rfl (by omega)) (by omega)) (by omega))⟩
theorem again_4 (a0 a1 a2 a3 : Nat) (l0 : a0 < 32) (l1 : a1 < 4) (l2 : a2 < 65536) (l3 : a3 < 4) : takeI 4 (putI 4 (fBase 4) (X_4 a0 a1 a2 a3)) = (X_4 a0 a1 a2 a3) ∧ andU (putI 4 (fBase 4) (X_4 a0 a1 a2 a3)) (fMask 4) = fBase 4 ∧ ∃ W : Nat, W < 4294967296 ∧ putI 4 (fBase 4) (X_4 a0 a1 a2 a3) = (W : Int) := by
  obtain ⟨S, hS⟩ : ∃ S, S = 2457862144 + a0 * 1 + a1 * 536870912 + a2 * 32 + a3 * 2097152 := ⟨_, rfl⟩
  have h := word_4 a0 a1 a2 a3 l0 l1 l2 l3 S hS
  rw [put_4 a0 a1 a2 a3 l0 l1 l2 l3, ← hS]
  refine ⟨?_, h.2.2.2.2.2, S, h.1, rfl⟩
  rw [take_4 h.1, h.2.1, h.2.2.1, h.2.2.2.1, h.2.2.2.2.1]
def X_5 (a0 a1 a2 a3 a4 : Nat) : InsnS := ⟨6, ((a2 : Nat) : Int), ((a0 : Nat) : Int), ((a1 : Nat) : Int), 0, 0, ((a3 : Nat) : Int), ((a4 : Nat) : Int), 0, 0, 0, 0, false, false, false, false⟩
theorem put_5 (a0 a1 a2 a3 a4 : Nat) (l0 : a0 < 32) (l1 : a1 < 32) (l2 : a2 < 4) (l3 : a3 < 64) (l4 : a4 < 64) : putI 5 (fBase 5) (X_5 a0 a1 a2 a3 a4) = ((2470445056 + a0 * 1 + a1 * 32 + a2 * 536870912 + a3 * 65536 + a4 * 1024 : Nat) : Int) := by
  have s1 := stp 0 5 0 5 32 1 (by decide) (Vi := fBase 5) (V := 2470445056) rfl (nat_mod l0 (by decide)) (by omega)
  have s2 := stp 5 5 5 5 32 32 (by decide) s1 (nat_mod l1 (by decide)) (by omega)
  have s3 := layS_zero (n := 0) (ai := 16) (mi := 5) s2 (by omega) rfl
  have s4 := stp 29 2 29 2 4 536870912 (by decide) s3 (nat_mod l2 (by decide)) (by omega)
  have s5 := stp 16 6 16 6 64 65536 (by decide) s4 (nat_mod l3 (by decide)) (by omega)
  have s6 := stp 10 6 10 6 64 1024 (by decide) s5 (nat_mod l4 (by decide)) (by omega)
  exact s6
theorem take_5 {W : Nat} (hW : W < 4294967296) : takeI 5 (W : Int) = X_5 (W / 1 % 32) (W / 32 % 32) (W / 536870912 % 4) (W / 65536 % 64) (W / 1024 % 64) := by
  have e0 : bitsS (W : Int) 0 5 = ((W / 1 % 32 : Nat) : Int) := bof 0 5 0 5 32 1 (by decide) hW
  have e1 : bitsS (W : Int) 5 5 = ((W / 32 % 32 : Nat) : Int) := bof 5 5 5 5 32 32 (by decide) hW
  have e2 : bitsS (W : Int) 29 2 = ((W / 536870912 % 4 : Nat) : Int) := bof 29 2 29 2 4 536870912 (by decide) hW
  have e3 : bitsS (W : Int) 16 6 = ((W / 65536 % 64 : Nat) : Int) := bof 16 6 16 6 64 65536 (by decide) hW
  have e4 : bitsS (W : Int) 10 6 = ((W / 1024 % 64 : Nat) : Int) := bof 10 6 10 6 64 1024 (by decide) hW
  show (⟨6, bitsS (W : Int) 29 2, bitsS (W : Int) 0 5, bitsS (W : Int) 5 5, 0, 0, bitsS (W : Int) 16 6, bitsS (W : Int) 10 6, 0, 0, 0, 0, false, false, false, false⟩ : InsnS) = _
  rw [e0, e1, e2, e3, e4]
  rfl
theorem fin_5 {W : Nat} (hW : W < 4294967296) (hm : W / 2147483648 % 2 * 2147483648 + W / 4194304 % 128 * 4194304 = 2470445056) : 2470445056 + W / 1 % 32 * 1 + W / 32 % 32 * 32 + W / 536870912 % 4 * 536870912 + W / 65536 % 64 * 65536 + W / 1024 % 64 * 1024 = W := by
  have d0 := div_step W 1 32 32 rfl
  have d1 := div_step W 32 32 1024 rfl
  have d2 := div_step W 1024 64 65536 rfl
  have d3 := div_step W 65536 64 4194304 rfl
  have d4 := div_step W 4194304 128 536870912 rfl
  have d5 := div_step W 536870912 4 2147483648 rfl
  have d6 := div_step W 2147483648 2 4294967296 rfl
  have d99 : W / 4294967296 = 0 := Nat.div_eq_of_lt hW
  have d98 : W / 1 = W := Nat.div_one W
  generalize W / 1 % 32 = y0, W / 32 % 32 = y1, W / 1024 % 64 = y2, W / 65536 % 64 = y3, W / 4194304 % 128 = y4, W / 536870912 % 4 = y5, W / 2147483648 % 2 = y6 at *
  generalize W / 32 = q1, W / 1024 = q2, W / 65536 = q3, W / 4194304 = q4, W / 536870912 = q5, W / 2147483648 = q6 at *
  generalize W / 4294967296 = q99 at *
  generalize W / 1 = q98 at *
  omega
theorem back1_5 {W : Nat} (hW : W < 4294967296) (h : andU (W : Int) (fMask 5) = fBase 5) : putI 5 (fBase 5) (takeI 5 W) = (W : Int) := by
  have hm := mask_at (M := 2680160256) (B := 2470445056) [(31, 1), (22, 7)] (by decide +kernel) (by simp only [maskOk, maskN]; decide) hW h (by decide)
  rw [field_step (Q := 2147483648) (P := 2) rfl rfl (field_one (Q := 4194304) (P := 128) rfl rfl)] at hm
  rw [take_5 hW, put_5 _ _ _ _ _ (Nat.mod_lt _ (by decide)) (Nat.mod_lt _ (by decide)) (Nat.mod_lt _ (by decide)) (Nat.mod_lt _ (by decide)) (Nat.mod_lt _ (by decide)), fin_5 hW hm]
theorem word_5 (a0 a1 a2 a3 a4 : Nat) (l0 : a0 < 32) (l1 : a1 < 32) (l2 : a2 < 4) (l3 : a3 < 64) (l4 : a4 < 64) (S : Nat) (hS : S = 2470445056 + a0 * 1 + a1 * 32 + a2 * 536870912 + a3 * 65536 + a4 * 1024) : S < 4294967296 ∧ S / 1 % 32 = a0 ∧ S / 32 % 32 = a1 ∧ S / 536870912 % 4 = a2 ∧ S / 65536 % 64 = a3 ∧ S / 1024 % 64 = a4 ∧ andU (S : Int) (fMask 5) = fBase 5 := by
  have hlt : S < 4294967296 := by omega
  exact ⟨hlt, digit (0) (a1 + a4 * 32 + a3 * 2048 + 77 * 131072 + a2 * 16777216 + 1 * 67108864) 32 rfl (by omega), digit (a0) (a4 + a3 * 64 + 77 * 4096 + a2 * 524288 + 1 * 2097152) 1024 rfl (by omega), digit (a0 + a1 * 32 + a4 * 1024 + a3 * 65536 + 77 * 4194304) (1) 2147483648 rfl (by omega), digit (a0 + a1 * 32 + a4 * 1024) (77 + a2 * 128 + 1 * 512) 4194304 rfl (by omega), digit (a0 + a1 * 32) (a3 + 77 * 64 + a2 * 8192 + 1 * 32768) 65536 rfl (by omega), mask_to (M := 2680160256) (B := 2470445056) [(31, 1), (22, 7)] (by decide +kernel) (by simp only [maskOk, maskN]; decide) hlt (by decide) (field_sc (Q := 2147483648) (P := 2) (c := 1) (s := 322961408) rfl rfl (digit (a0 + a1 * 32 + a4 * 1024 + a3 * 65536 + 77 * 4194304 + a2 * 536870912) (0) 4294967296 rfl (by omega)) (field_oc (Q := 4194304) (P := 128) (c := 77) rfl rfl (digit (a0 + a1 * 32 + a4 * 1024 + a3 * 65536) (a2 + 1 * 4) 536870912 rfl (by omega)) (by omega)) (by omega))⟩
theorem again_5 (a0 a1 a2 a3 a4 : Nat) (l0 : a0 < 32) (l1 : a1 < 32) (l2 : a2 < 4) (l3 : a3 < 64) (l4 : a4 < 64) : takeI 5 (putI 5 (fBase 5) (X_5 a0 a1 a2 a3 a4)) = (X_5 a0 a1 a2 a3 a4) ∧ andU (putI 5 (fBase 5) (X_5 a0 a1 a2 a3 a4)) (fMask 5) = fBase 5 ∧ ∃ W : Nat, W < 4294967296 ∧ putI 5 (fBase 5) (X_5 a0 a1 a2 a3 a4) = (W : Int) := by
  obtain ⟨S, hS⟩ : ∃ S, S = 2470445056 + a0 * 1 + a1 * 32 + a2 * 536870912 + a3 * 65536 + a4 * 1024 := ⟨_, rfl⟩
  have h := word_5 a0 a1 a2 a3 a4 l0 l1 l2 l3 l4 S hS
  rw [put_5 a0 a1 a2 a3 a4 l0 l1 l2 l3 l4, ← hS]
  refine ⟨?_, h.2.2.2.2.2.2, S, h.1, rfl⟩
  rw [take_5 h.1, h.2.1, h.2.2.1, h.2.2.2.1, h.2.2.2.2.1, h.2.2.2.2.2.1]
def X_6 (a0 a1 a2 a3 : Nat) : InsnS := ⟨7, ((a3 : Nat) : Int), ((a0 : Nat) : Int), ((a1 : Nat) : Int), ((a2 : Nat) : Int), 0, 0, 0, 0, 0, 0, 0, false, false, false, false⟩
theorem put_6 (a0 a1 a2 a3 : Nat) (l0 : a0 < 32) (l1 : a1 < 32) (l2 : a2 < 32) (l3 : a3 < 4) : putI 6 (fBase 6) (X_6 a0 a1 a2 a3) = ((2596282368 + a0 * 1 + a1 * 32 + a2 * 65536 + a3 * 1024 : Nat) : Int) := by
  have s1 := stp 0 5 0 5 32 1 (by decide) (Vi := fBase 6) (V := 2596282368) rfl (nat_mod l0 (by decide)) (by omega)
  have s2 := stp 5 5 5 5 32 32 (by decide) s1 (nat_mod l1 (by decide)) (by omega)
  have s3 := stp 16 5 16 5 32 65536 (by decide) s2 (nat_mod l2 (by decide)) (by omega)
  have s4 := stp 10 2 10 2 4 1024 (by decide) s3 (nat_mod l3 (by decide)) (by omega)
  exact s4
theorem take_6 {W : Nat} (hW : W < 4294967296) : takeI 6 (W : Int) = X_6 (W / 1 % 32) (W / 32 % 32) (W / 65536 % 32) (W / 1024 % 4) := by
  have e0 : bitsS (W : Int) 0 5 = ((W / 1 % 32 : Nat) : Int) := bof 0 5 0 5 32 1 (by decide) hW
  have e1 : bitsS (W : Int) 5 5 = ((W / 32 % 32 : Nat) : Int) := bof 5 5 5 5 32 32 (by decide) hW
  have e2 : bitsS (W : Int) 16 5 = ((W / 65536 % 32 : Nat) : Int) := bof 16 5 16 5 32 65536 (by decide) hW
  have e3 : bitsS (W : Int) 10 2 = ((W / 1024 % 4 : Nat) : Int) := bof 10 2 10 2 4 1024 (by decide) hW
  show (⟨7, bitsS (W : Int) 10 2, bitsS (W : Int) 0 5, bitsS (W : Int) 5 5, bitsS (W : Int) 16 5, 0, 0, 0, 0, 0, 0, 0, false, false, false, false⟩ : InsnS) = _
  rw [e0, e1, e2, e3]
  rfl
theorem fin_6 {W : Nat} (hW : W < 4294967296) (hm : W / 2097152 % 2048 * 2097152 + W / 4096 % 16 * 4096 = 2596282368) : 2596282368 + W / 1 % 32 * 1 + W / 32 % 32 * 32 + W / 65536 % 32 * 65536 + W / 1024 % 4 * 1024 = W := by
  have d0 := div_step W 1 32 32 rfl
  have d1 := div_step W 32 32 1024 rfl
  have d2 := div_step W 1024 4 4096 rfl
  have d3 := div_step W 4096 16 65536 rfl
  have d4 := div_step W 65536 32 2097152 rfl
  have d5 := div_step W 2097152 2048 4294967296 rfl
  have d99 : W / 4294967296 = 0 := Nat.div_eq_of_lt hW
  have d98 : W / 1 = W := Nat.div_one W
  generalize W / 1 % 32 = y0, W / 32 % 32 = y1, W / 1024 % 4 = y2, W / 4096 % 16 = y3, W / 65536 % 32 = y4, W / 2097152 % 2048 = y5 at *
  generalize W / 32 = q1, W / 1024 = q2, W / 4096 = q3, W / 65536 = q4, W / 2097152 = q5 at *
  generalize W / 4294967296 = q99 at *
  generalize W / 1 = q98 at *
  omega
theorem back1_6 {W : Nat} (hW : W < 4294967296) (h : andU (W : Int) (fMask 6) = fBase 6) : putI 6 (fBase 6) (takeI 6 W) = (W : Int) := by
  have hm := mask_at (M := 4292931584) (B := 2596282368) [(21, 11), (12, 4)] (by decide +kernel) (by simp only [maskOk, maskN]; decide) hW h (by decide)
  rw [field_step (Q := 2097152) (P := 2048) rfl rfl (field_one (Q := 4096) (P := 16) rfl rfl)] at hm
  rw [take_6 hW, put_6 _ _ _ _ (Nat.mod_lt _ (by decide)) (Nat.mod_lt _ (by decide)) (Nat.mod_lt _ (by decide)) (Nat.mod_lt _ (by decide)), fin_6 hW hm]
theorem word_6 (a0 a1 a2 a3 : Nat) (l0 : a0 < 32) (l1 : a1 < 32) (l2 : a2 < 32) (l3 : a3 < 4) (S : Nat) (hS : S = 2596282368 + a0 * 1 + a1 * 32 + a2 * 65536 + a3 * 1024) : S < 4294967296 ∧ S / 1 % 32 = a0 ∧ S / 32 % 32 = a1 ∧ S / 65536 % 32 = a2 ∧ S / 1024 % 4 = a3 ∧ andU (S : Int) (fMask 6) = fBase 6 := by
  have hlt : S < 4294967296 := by omega
  exact ⟨hlt, digit (0) (a1 + a3 * 32 + 2 * 128 + a2 * 2048 + 1238 * 65536) 32 rfl (by omega), digit (a0) (a3 + 2 * 4 + a2 * 64 + 1238 * 2048) 1024 rfl (by omega), digit (a0 + a1 * 32 + a3 * 1024 + 2 * 4096) (1238) 2097152 rfl (by omega), digit (a0 + a1 * 32) (2 + a2 * 16 + 1238 * 512) 4096 rfl (by omega), mask_to (M := 4292931584) (B := 2596282368) [(21, 11), (12, 4)] (by decide +kernel) (by simp only [maskOk, maskN]; decide) hlt (by decide) (field_sc (Q := 2097152) (P := 2048) (c := 1238) (s := 8192) rfl rfl (digit (a0 + a1 * 32 + a3 * 1024 + 2 * 4096 + a2 * 65536) (0) 4294967296 rfl (by omega)) (field_oc (Q := 4096) (P := 16) (c := 2) rfl rfl (digit (a0 + a1 * 32 + a3 * 1024) (a2 + 1238 * 32) 65536 rfl (by omega)) (by omega)) (by omega))⟩
theorem again_6 (a0 a1 a2 a3 : Nat) (l0 : a0 < 32) (l1 : a1 < 32) (l2 : a2 < 32) (l3 : a3 < 4) : takeI 6 (putI 6 (fBase 6) (X_6 a0 a1 a2 a3)) = (X_6 a0 a1 a2 a3) ∧ andU (putI 6 (fBase 6) (X_6 a0 a1 a2 a3)) (fMask 6) = fBase 6 ∧ ∃ W : Nat, W < 4294967296 ∧ putI 6 (fBase 6) (X_6 a0 a1 a2 a3) = (W : Int) := by
  obtain ⟨S, hS⟩ : ∃ S, S = 2596282368 + a0 * 1 + a1 * 32 + a2 * 65536 + a3 * 1024 := ⟨_, rfl⟩
  have h := word_6 a0 a1 a2 a3 l0 l1 l2 l3 S hS
  rw [put_6 a0 a1 a2 a3 l0 l1 l2 l3, ← hS]
  refine ⟨?_, h.2.2.2.2.2, S, h.1, rfl⟩
  rw [take_6 h.1, h.2.1, h.2.2.1, h.2.2.2.1, h.2.2.2.2.1]
def X_7 (a0 a1 a2 a3 a4 : Nat) : InsnS := ⟨8, 0, ((a0 : Nat) : Int), ((a1 : Nat) : Int), ((a2 : Nat) : Int), ((a3 : Nat) : Int), 0, 0, 0, 0, 0, 0, false, (((a4 : Nat) : Int) == 1), false, false⟩
theorem put_7 (a0 a1 a2 a3 a4 : Nat) (l0 : a0 < 32) (l1 : a1 < 32) (l2 : a2 < 32) (l3 : a3 < 32) (l4 : a4 < 2) : putI 7 (fBase 7) (X_7 a0 a1 a2 a3 a4) = ((2600468480 + a0 * 1 + a1 * 32 + a2 * 65536 + a3 * 1024 + a4 * 32768 : Nat) : Int) := by
  have s1 := stp 0 5 0 5 32 1 (by decide) (Vi := fBase 7) (V := 2600468480) rfl (nat_mod l0 (by decide)) (by omega)
  have s2 := stp 5 5 5 5 32 32 (by decide) s1 (nat_mod l1 (by decide)) (by omega)
  have s3 := stp 16 5 16 5 32 65536 (by decide) s2 (nat_mod l2 (by decide)) (by omega)
  have s4 := stp 10 5 10 5 32 1024 (by decide) s3 (nat_mod l3 (by decide)) (by omega)
  have s5 := stf (b := (((a4 : Nat) : Int) == 1)) 32768 15 32768 (by decide) s4 (bN_eq1 l4) (by omega)
  exact s5
theorem take_7 {W : Nat} (hW : W < 4294967296) : takeI 7 (W : Int) = X_7 (W / 1 % 32) (W / 32 % 32) (W / 65536 % 32) (W / 1024 % 32) (W / 32768 % 2) := by
  have e0 : bitsS (W : Int) 0 5 = ((W / 1 % 32 : Nat) : Int) := bof 0 5 0 5 32 1 (by decide) hW
  have e1 : bitsS (W : Int) 5 5 = ((W / 32 % 32 : Nat) : Int) := bof 5 5 5 5 32 32 (by decide) hW
  have e2 : bitsS (W : Int) 16 5 = ((W / 65536 % 32 : Nat) : Int) := bof 16 5 16 5 32 65536 (by decide) hW
  have e3 : bitsS (W : Int) 10 5 = ((W / 1024 % 32 : Nat) : Int) := bof 10 5 10 5 32 1024 (by decide) hW
  have e4 : bitsS (W : Int) 15 1 = ((W / 32768 % 2 : Nat) : Int) := bof 15 1 15 1 2 32768 (by decide) hW
  show (⟨8, 0, bitsS (W : Int) 0 5, bitsS (W : Int) 5 5, bitsS (W : Int) 16 5, bitsS (W : Int) 10 5, 0, 0, 0, 0, 0, 0, false, (bitsS (W : Int) 15 1 == 1), false, false⟩ : InsnS) = _
  rw [e0, e1, e2, e3, e4]
  rfl
theorem fin_7 {W : Nat} (hW : W < 4294967296) (hm : W / 2097152 % 2048 * 2097152 = 2600468480) : 2600468480 + W / 1 % 32 * 1 + W / 32 % 32 * 32 + W / 65536 % 32 * 65536 + W / 1024 % 32 * 1024 + W / 32768 % 2 * 32768 = W := by
  have d0 := div_step W 1 32 32 rfl
  have d1 := div_step W 32 32 1024 rfl
  have d2 := div_step W 1024 32 32768 rfl
  have d3 := div_step W 32768 2 65536 rfl
  have d4 := div_step W 65536 32 2097152 rfl
  have d5 := div_step W 2097152 2048 4294967296 rfl
  have d99 : W / 4294967296 = 0 := Nat.div_eq_of_lt hW
  have d98 : W / 1 = W := Nat.div_one W
  generalize W / 1 % 32 = y0, W / 32 % 32 = y1, W / 1024 % 32 = y2, W / 32768 % 2 = y3, W / 65536 % 32 = y4, W / 2097152 % 2048 = y5 at *
  generalize W / 32 = q1, W / 1024 = q2, W / 32768 = q3, W / 65536 = q4, W / 2097152 = q5 at *
  generalize W / 4294967296 = q99 at *
  generalize W / 1 = q98 at *
  omega
theorem back1_7 {W : Nat} (hW : W < 4294967296) (h : andU (W : Int) (fMask 7) = fBase 7) : putI 7 (fBase 7) (takeI 7 W) = (W : Int) := by
  have hm := mask_at (M := 4292870144) (B := 2600468480) [(21, 11)] (by decide +kernel) (by simp only [maskOk, maskN]; decide) hW h (by decide)
  rw [field_one (Q := 2097152) (P := 2048) rfl rfl] at hm
  rw [take_7 hW, put_7 _ _ _ _ _ (Nat.mod_lt _ (by decide)) (Nat.mod_lt _ (by decide)) (Nat.mod_lt _ (by decide)) (Nat.mod_lt _ (by decide)) (Nat.mod_lt _ (by decide)), fin_7 hW hm]
theorem word_7 (a0 a1 a2 a3 a4 : Nat) (l0 : a0 < 32) (l1 : a1 < 32) (l2 : a2 < 32) (l3 : a3 < 32) (l4 : a4 < 2) (S : Nat) (hS : S = 2600468480 + a0 * 1 + a1 * 32 + a2 * 65536 + a3 * 1024 + a4 * 32768) : S < 4294967296 ∧ S / 1 % 32 = a0 ∧ S / 32 % 32 = a1 ∧ S / 65536 % 32 = a2 ∧ S / 1024 % 32 = a3 ∧ S / 32768 % 2 = a4 ∧ andU (S : Int) (fMask 7) = fBase 7 := by
  have hlt : S < 4294967296 := by omega
  exact ⟨hlt, digit (0) (a1 + a3 * 32 + a4 * 1024 + a2 * 2048 + 1240 * 65536) 32 rfl (by omega), digit (a0) (a3 + a4 * 32 + a2 * 64 + 1240 * 2048) 1024 rfl (by omega), digit (a0 + a1 * 32 + a3 * 1024 + a4 * 32768) (1240) 2097152 rfl (by omega), digit (a0 + a1 * 32) (a4 + a2 * 2 + 1240 * 64) 32768 rfl (by omega), digit (a0 + a1 * 32 + a3 * 1024) (a2 + 1240 * 32) 65536 rfl (by omega), mask_to (M := 4292870144) (B := 2600468480) [(21, 11)] (by decide +kernel) (by simp only [maskOk, maskN]; decide) hlt (by decide) (field_oc (Q := 2097152) (P := 2048) (c := 1240) rfl rfl (digit (a0 + a1 * 32 + a3 * 1024 + a4 * 32768 + a2 * 65536) (0) 4294967296 rfl (by omega)) (by omega))⟩
theorem again_7 (a0 a1 a2 a3 a4 : Nat) (l0 : a0 < 32) (l1 : a1 < 32) (l2 : a2 < 32) (l3 : a3 < 32) (l4 : a4 < 2) : takeI 7 (putI 7 (fBase 7) (X_7 a0 a1 a2 a3 a4)) = (X_7 a0 a1 a2 a3 a4) ∧ andU (putI 7 (fBase 7) (X_7 a0 a1 a2 a3 a4)) (fMask 7) = fBase 7 ∧ ∃ W : Nat, W < 4294967296 ∧ putI 7 (fBase 7) (X_7 a0 a1 a2 a3 a4) = (W : Int) := by
  obtain ⟨S, hS⟩ : ∃ S, S = 2600468480 + a0 * 1 + a1 * 32 + a2 * 65536 + a3 * 1024 + a4 * 32768 := ⟨_, rfl⟩
  have h := word_7 a0 a1 a2 a3 a4 l0 l1 l2 l3 l4 S hS
  rw [put_7 a0 a1 a2 a3 a4 l0 l1 l2 l3 l4, ← hS]
  refine ⟨?_, h.2.2.2.2.2.2, S, h.1, rfl⟩
  rw [take_7 h.1, h.2.1, h.2.2.1, h.2.2.2.1, h.2.2.2.2.1, h.2.2.2.2.2.1]
def X_8 (a0 a1 a2 a3 : Nat) : InsnS := ⟨9, ((a3 : Nat) : Int), ((a0 : Nat) : Int), ((a1 : Nat) : Int), ((a2 : Nat) : Int), 0, 0, 0, 0, 0, 0, 0, false, false, false, false⟩
theorem put_8 (a0 a1 a2 a3 : Nat) (l0 : a0 < 32) (l1 : a1 < 32) (l2 : a2 < 32) (l3 : a3 < 2) : putI 8 (fBase 8) (X_8 a0 a1 a2 a3) = ((2596276224 + a0 * 1 + a1 * 32 + a2 * 65536 + a3 * 1024 : Nat) : Int) := by
  have s1 := stp 0 5 0 5 32 1 (by decide) (Vi := fBase 8) (V := 2596276224) rfl (nat_mod l0 (by decide)) (by omega)
  have s2 := stp 5 5 5 5 32 32 (by decide) s1 (nat_mod l1 (by decide)) (by omega)
  have s3 := stp 16 5 16 5 32 65536 (by decide) s2 (nat_mod l2 (by decide)) (by omega)
  have s4 := layS_step (n := ((a3 : Nat) : Int)) (ai := 10) (mi := 1) (V := 2596276224 + a0 * 1 + a1 * 32 + a2 * 65536) (at_ := 10) (many := 1) (P := 2) (Q := 1024) s3 rfl rfl rfl rfl (by decide) (by decide) (by omega) (nat_mod l3 (by decide)) (by omega)
  rw [← lay_sub1 _ _ l3] at s4
  exact s4
theorem take_8 {W : Nat} (hW : W < 4294967296) : takeI 8 (W : Int) = X_8 (W / 1 % 32) (W / 32 % 32) (W / 65536 % 32) (W / 1024 % 2) := by
  have e0 : bitsS (W : Int) 0 5 = ((W / 1 % 32 : Nat) : Int) := bof 0 5 0 5 32 1 (by decide) hW
  have e1 : bitsS (W : Int) 5 5 = ((W / 32 % 32 : Nat) : Int) := bof 5 5 5 5 32 32 (by decide) hW
  have e2 : bitsS (W : Int) 16 5 = ((W / 65536 % 32 : Nat) : Int) := bof 16 5 16 5 32 65536 (by decide) hW
  have e3 : bitsS (W : Int) 10 1 = ((W / 1024 % 2 : Nat) : Int) := bof 10 1 10 1 2 1024 (by decide) hW
  show (⟨9, bitsS (W : Int) 10 1, bitsS (W : Int) 0 5, bitsS (W : Int) 5 5, bitsS (W : Int) 16 5, 0, 0, 0, 0, 0, 0, 0, false, false, false, false⟩ : InsnS) = _
  rw [e0, e1, e2, e3]
  rfl
theorem fin_8 {W : Nat} (hW : W < 4294967296) (hm : W / 2097152 % 2048 * 2097152 + W / 2048 % 32 * 2048 = 2596276224) : 2596276224 + W / 1 % 32 * 1 + W / 32 % 32 * 32 + W / 65536 % 32 * 65536 + W / 1024 % 2 * 1024 = W := by
  have d0 := div_step W 1 32 32 rfl
  have d1 := div_step W 32 32 1024 rfl
  have d2 := div_step W 1024 2 2048 rfl
  have d3 := div_step W 2048 32 65536 rfl
  have d4 := div_step W 65536 32 2097152 rfl
  have d5 := div_step W 2097152 2048 4294967296 rfl
  have d99 : W / 4294967296 = 0 := Nat.div_eq_of_lt hW
  have d98 : W / 1 = W := Nat.div_one W
  generalize W / 1 % 32 = y0, W / 32 % 32 = y1, W / 1024 % 2 = y2, W / 2048 % 32 = y3, W / 65536 % 32 = y4, W / 2097152 % 2048 = y5 at *
  generalize W / 32 = q1, W / 1024 = q2, W / 2048 = q3, W / 65536 = q4, W / 2097152 = q5 at *
  generalize W / 4294967296 = q99 at *
  generalize W / 1 = q98 at *
  omega
theorem back1_8 {W : Nat} (hW : W < 4294967296) (h : andU (W : Int) (fMask 8) = fBase 8) : putI 8 (fBase 8) (takeI 8 W) = (W : Int) := by
  have hm := mask_at (M := 4292933632) (B := 2596276224) [(21, 11), (11, 5)] (by decide +kernel) (by simp only [maskOk, maskN]; decide) hW h (by decide)
  rw [field_step (Q := 2097152) (P := 2048) rfl rfl (field_one (Q := 2048) (P := 32) rfl rfl)] at hm
  rw [take_8 hW, put_8 _ _ _ _ (Nat.mod_lt _ (by decide)) (Nat.mod_lt _ (by decide)) (Nat.mod_lt _ (by decide)) (Nat.mod_lt _ (by decide)), fin_8 hW hm]
theorem word_8 (a0 a1 a2 a3 : Nat) (l0 : a0 < 32) (l1 : a1 < 32) (l2 : a2 < 32) (l3 : a3 < 2) (S : Nat) (hS : S = 2596276224 + a0 * 1 + a1 * 32 + a2 * 65536 + a3 * 1024) : S < 4294967296 ∧ S / 1 % 32 = a0 ∧ S / 32 % 32 = a1 ∧ S / 65536 % 32 = a2 ∧ S / 1024 % 2 = a3 ∧ andU (S : Int) (fMask 8) = fBase 8 := by
  have hlt : S < 4294967296 := by omega
  exact ⟨hlt, digit (0) (a1 + a3 * 32 + 1 * 64 + a2 * 2048 + 1238 * 65536) 32 rfl (by omega), digit (a0) (a3 + 1 * 2 + a2 * 64 + 1238 * 2048) 1024 rfl (by omega), digit (a0 + a1 * 32 + a3 * 1024 + 1 * 2048) (1238) 2097152 rfl (by omega), digit (a0 + a1 * 32) (1 + a2 * 32 + 1238 * 1024) 2048 rfl (by omega), mask_to (M := 4292933632) (B := 2596276224) [(21, 11), (11, 5)] (by decide +kernel) (by simp only [maskOk, maskN]; decide) hlt (by decide) (field_sc (Q := 2097152) (P := 2048) (c := 1238) (s := 2048) rfl rfl (digit (a0 + a1 * 32 + a3 * 1024 + 1 * 2048 + a2 * 65536) (0) 4294967296 rfl (by omega)) (field_oc (Q := 2048) (P := 32) (c := 1) rfl rfl (digit (a0 + a1 * 32 + a3 * 1024) (a2 + 1238 * 32) 65536 rfl (by omega)) (by omega)) (by omega))⟩
theorem again_8 (a0 a1 a2 a3 : Nat) (l0 : a0 < 32) (l1 : a1 < 32) (l2 : a2 < 32) (l3 : a3 < 2) : takeI 8 (putI 8 (fBase 8) (X_8 a0 a1 a2 a3)) = (X_8 a0 a1 a2 a3) ∧ andU (putI 8 (fBase 8) (X_8 a0 a1 a2 a3)) (fMask 8) = fBase 8 ∧ ∃ W : Nat, W < 4294967296 ∧ putI 8 (fBase 8) (X_8 a0 a1 a2 a3) = (W : Int) := by
  obtain ⟨S, hS⟩ : ∃ S, S = 2596276224 + a0 * 1 + a1 * 32 + a2 * 65536 + a3 * 1024 := ⟨_, rfl⟩
  have h := word_8 a0 a1 a2 a3 l0 l1 l2 l3 S hS
  rw [put_8 a0 a1 a2 a3 l0 l1 l2 l3, ← hS]
  refine ⟨?_, h.2.2.2.2.2, S, h.1, rfl⟩
  rw [take_8 h.1, h.2.1, h.2.2.1, h.2.2.2.1, h.2.2.2.2.1]
def X_9 (a0 a1 a2 a3 a4 a5 : Nat) : InsnS := ⟨10, ((2 * (a3) + a4 : Nat) : Int), ((a0 : Nat) : Int), ((a1 : Nat) : Int), ((a2 : Nat) : Int), 0, 0, 0, 0, 0, ((a5 : Nat) : Int), 0, false, false, false, false⟩
theorem put_9 (a0 a1 a2 a3 a4 a5 : Nat) (l0 : a0 < 32) (l1 : a1 < 32) (l2 : a2 < 32) (l3 : a3 < 2) (l4 : a4 < 2) (l5 : a5 < 16) : putI 9 (fBase 9) (X_9 a0 a1 a2 a3 a4 a5) = ((2592079872 + a0 * 1 + a1 * 32 + a2 * 65536 + a3 * 1073741824 + a4 * 1024 + a5 * 4096 : Nat) : Int) := by
  have s1 := stp 0 5 0 5 32 1 (by decide) (Vi := fBase 9) (V := 2592079872) rfl (nat_mod l0 (by decide)) (by omega)
  have s2 := stp 5 5 5 5 32 32 (by decide) s1 (nat_mod l1 (by decide)) (by omega)
  have s3 := stp 16 5 16 5 32 65536 (by decide) s2 (nat_mod l2 (by decide)) (by omega)
  have h4 : (shrS ((2 * a3 + a4 : Nat) : Int) 1 % 4294967296).toNat % 2 = a3 := sel_a l3 l4
  have s4 := stp 30 1 30 1 2 1073741824 (by decide) s3 h4 (by omega)
  have h5 : (((2 * a3 + a4 : Nat) : Int) % 4294967296).toNat % 2 = a4 := sel_b l3 l4
  have s5 := stp 10 1 10 1 2 1024 (by decide) s4 h5 (by omega)
  have s6 := stp 12 4 12 4 16 4096 (by decide) s5 (nat_mod l5 (by decide)) (by omega)
  exact s6
theorem take_9 {W : Nat} (hW : W < 4294967296) : takeI 9 (W : Int) = X_9 (W / 1 % 32) (W / 32 % 32) (W / 65536 % 32) (W / 1073741824 % 2) (W / 1024 % 2) (W / 4096 % 16) := by
  have e0 : bitsS (W : Int) 0 5 = ((W / 1 % 32 : Nat) : Int) := bof 0 5 0 5 32 1 (by decide) hW
  have e1 : bitsS (W : Int) 5 5 = ((W / 32 % 32 : Nat) : Int) := bof 5 5 5 5 32 32 (by decide) hW
  have e2 : bitsS (W : Int) 16 5 = ((W / 65536 % 32 : Nat) : Int) := bof 16 5 16 5 32 65536 (by decide) hW
  have e3 : addS (mulS 2 (bitsS (W : Int) 30 1)) (bitsS (W : Int) 10 1) = ((2 * (W / 1073741824 % 2) + W / 1024 % 2 : Nat) : Int) := by
    rw [bof 30 1 30 1 2 1073741824 (by decide) hW, bof 10 1 10 1 2 1024 (by decide) hW]
    exact sel_of (Nat.mod_lt _ (by decide)) (Nat.mod_lt _ (by decide))
  have e4 : bitsS (W : Int) 12 4 = ((W / 4096 % 16 : Nat) : Int) := bof 12 4 12 4 16 4096 (by decide) hW
  show (⟨10, addS (mulS 2 (bitsS (W : Int) 30 1)) (bitsS (W : Int) 10 1), bitsS (W : Int) 0 5, bitsS (W : Int) 5 5, bitsS (W : Int) 16 5, 0, 0, 0, 0, 0, bitsS (W : Int) 12 4, 0, false, false, false, false⟩ : InsnS) = _
  rw [e0, e1, e2, e3, e4]
  rfl
theorem fin_9 {W : Nat} (hW : W < 4294967296) (hm : W / 2147483648 % 2 * 2147483648 + (W / 2097152 % 512 * 2097152 + W / 2048 % 2 * 2048) = 2592079872) : 2592079872 + W / 1 % 32 * 1 + W / 32 % 32 * 32 + W / 65536 % 32 * 65536 + W / 1073741824 % 2 * 1073741824 + W / 1024 % 2 * 1024 + W / 4096 % 16 * 4096 = W := by
  have d0 := div_step W 1 32 32 rfl
  have d1 := div_step W 32 32 1024 rfl
  have d2 := div_step W 1024 2 2048 rfl
  have d3 := div_step W 2048 2 4096 rfl
  have d4 := div_step W 4096 16 65536 rfl
  have d5 := div_step W 65536 32 2097152 rfl
  have d6 := div_step W 2097152 512 1073741824 rfl
  have d7 := div_step W 1073741824 2 2147483648 rfl
  have d8 := div_step W 2147483648 2 4294967296 rfl
  have d99 : W / 4294967296 = 0 := Nat.div_eq_of_lt hW
  have d98 : W / 1 = W := Nat.div_one W
  generalize W / 1 % 32 = y0, W / 32 % 32 = y1, W / 1024 % 2 = y2, W / 2048 % 2 = y3, W / 4096 % 16 = y4, W / 65536 % 32 = y5, W / 2097152 % 512 = y6, W / 1073741824 % 2 = y7, W / 2147483648 % 2 = y8 at *
  generalize W / 32 = q1, W / 1024 = q2, W / 2048 = q3, W / 4096 = q4, W / 65536 = q5, W / 2097152 = q6, W / 1073741824 = q7, W / 2147483648 = q8 at *
  generalize W / 4294967296 = q99 at *
  generalize W / 1 = q98 at *
  omega
theorem back1_9 {W : Nat} (hW : W < 4294967296) (h : andU (W : Int) (fMask 9) = fBase 9) : putI 9 (fBase 9) (takeI 9 W) = (W : Int) := by
  have hm := mask_at (M := 3219130368) (B := 2592079872) [(31, 1), (21, 9), (11, 1)] (by decide +kernel) (by simp only [maskOk, maskN]; decide) hW h (by decide)
  rw [field_step (Q := 2147483648) (P := 2) rfl rfl (field_step (Q := 2097152) (P := 512) rfl rfl (field_one (Q := 2048) (P := 2) rfl rfl))] at hm
  rw [take_9 hW, put_9 _ _ _ _ _ _ (Nat.mod_lt _ (by decide)) (Nat.mod_lt _ (by decide)) (Nat.mod_lt _ (by decide)) (Nat.mod_lt _ (by decide)) (Nat.mod_lt _ (by decide)) (Nat.mod_lt _ (by decide)), fin_9 hW hm]
theorem word_9 (a0 a1 a2 a3 a4 a5 : Nat) (l0 : a0 < 32) (l1 : a1 < 32) (l2 : a2 < 32) (l3 : a3 < 2) (l4 : a4 < 2) (l5 : a5 < 16) (S : Nat) (hS : S = 2592079872 + a0 * 1 + a1 * 32 + a2 * 65536 + a3 * 1073741824 + a4 * 1024 + a5 * 4096) : S < 4294967296 ∧ S / 1 % 32 = a0 ∧ S / 32 % 32 = a1 ∧ S / 65536 % 32 = a2 ∧ S / 1073741824 % 2 = a3 ∧ S / 1024 % 2 = a4 ∧ S / 4096 % 16 = a5 ∧ andU (S : Int) (fMask 9) = fBase 9 := by
  have hlt : S < 4294967296 := by omega
  exact ⟨hlt, digit (0) (a1 + a4 * 32 + a5 * 128 + a2 * 2048 + 212 * 65536 + a3 * 33554432 + 1 * 67108864) 32 rfl (by omega), digit (a0) (a4 + a5 * 4 + a2 * 64 + 212 * 2048 + a3 * 1048576 + 1 * 2097152) 1024 rfl (by omega), digit (a0 + a1 * 32 + a4 * 1024 + a5 * 4096) (212 + a3 * 512 + 1 * 1024) 2097152 rfl (by omega), digit (a0 + a1 * 32 + a4 * 1024 + a5 * 4096 + a2 * 65536 + 212 * 2097152) (1) 2147483648 rfl (by omega), digit (a0 + a1 * 32) (a5 * 2 + a2 * 32 + 212 * 1024 + a3 * 524288 + 1 * 1048576) 2048 rfl (by omega), digit (a0 + a1 * 32 + a4 * 1024) (a2 + 212 * 32 + a3 * 16384 + 1 * 32768) 65536 rfl (by omega), mask_to (M := 3219130368) (B := 2592079872) [(31, 1), (21, 9), (11, 1)] (by decide +kernel) (by simp only [maskOk, maskN]; decide) hlt (by decide) (field_sc (Q := 2147483648) (P := 2) (c := 1) (s := 444596224) rfl rfl (digit (a0 + a1 * 32 + a4 * 1024 + a5 * 4096 + a2 * 65536 + 212 * 2097152 + a3 * 1073741824) (0) 4294967296 rfl (by omega)) (field_sc (Q := 2097152) (P := 512) (c := 212) (s := 0) rfl rfl (digit (a0 + a1 * 32 + a4 * 1024 + a5 * 4096 + a2 * 65536) (a3 + 1 * 2) 1073741824 rfl (by omega)) (field_oc (Q := 2048) (P := 2) (c := 0) rfl rfl (digit (a0 + a1 * 32 + a4 * 1024) (a5 + a2 * 16 + 212 * 512 + a3 * 262144 + 1 * 524288) 4096 rfl (by omega)) (Nat.zero_mul _)) (by omega)) (by omega))⟩
theorem again_9 (a0 a1 a2 a3 a4 a5 : Nat) (l0 : a0 < 32) (l1 : a1 < 32) (l2 : a2 < 32) (l3 : a3 < 2) (l4 : a4 < 2) (l5 : a5 < 16) : takeI 9 (putI 9 (fBase 9) (X_9 a0 a1 a2 a3 a4 a5)) = (X_9 a0 a1 a2 a3 a4 a5) ∧ andU (putI 9 (fBase 9) (X_9 a0 a1 a2 a3 a4 a5)) (fMask 9) = fBase 9 ∧ ∃ W : Nat, W < 4294967296 ∧ putI 9 (fBase 9) (X_9 a0 a1 a2 a3 a4 a5) = (W : Int) := by
  obtain ⟨S, hS⟩ : ∃ S, S = 2592079872 + a0 * 1 + a1 * 32 + a2 * 65536 + a3 * 1073741824 + a4 * 1024 + a5 * 4096 := ⟨_, rfl⟩
  have h := word_9 a0 a1 a2 a3 a4 a5 l0 l1 l2 l3 l4 l5 S hS
  rw [put_9 a0 a1 a2 a3 a4 a5 l0 l1 l2 l3 l4 l5, ← hS]
  refine ⟨?_, h.2.2.2.2.2.2.2, S, h.1, rfl⟩
  rw [take_9 h.1, h.2.1, h.2.2.1, h.2.2.2.1, h.2.2.2.2.1, h.2.2.2.2.2.1, h.2.2.2.2.2.2.1]
def X_10 (a0 a1 a2 a3 : Nat) : InsnS := ⟨11, ((a1 : Nat) : Int), ((a0 : Nat) : Int), 0, 0, 0, adrX (a1) (a2) (a3), 0, 0, 0, 0, 0, false, false, false, false⟩
theorem put_10 (a0 a1 a2 a3 : Nat) (l0 : a0 < 32) (l1 : a1 < 2) (l2 : a2 < 4) (l3 : a3 < 524288) : putI 10 (fBase 10) (X_10 a0 a1 a2 a3) = ((268435456 + a0 * 1 + a1 * 2147483648 + a2 * 536870912 + a3 * 32 : Nat) : Int) := by
  have s1 := stp 0 5 0 5 32 1 (by decide) (Vi := fBase 10) (V := 268435456) rfl (nat_mod l0 (by decide)) (by omega)
  have s2 := stp 31 1 31 1 2 2147483648 (by decide) s1 (nat_mod l1 (by decide)) (by omega)
  have h3 : ((if ((a1 : Nat) : Int) = 1 then quoS (adrX a1 a2 a3) 4096 else adrX a1 a2 a3) % 4294967296).toNat % 4 = a2 := adr_lo l1 l2 l3
  have s3 := stp 29 2 29 2 4 536870912 (by decide) s2 h3 (by omega)
  have h4 : (shrS (if ((a1 : Nat) : Int) = 1 then quoS (adrX a1 a2 a3) 4096 else adrX a1 a2 a3) 2 % 4294967296).toNat % 524288 = a3 := adr_hi l1 l2 l3
  have s4 := stp 5 19 5 19 524288 32 (by decide) s3 h4 (by omega)
  exact s4
theorem take_10 {W : Nat} (hW : W < 4294967296) : takeI 10 (W : Int) = X_10 (W / 1 % 32) (W / 2147483648 % 2) (W / 536870912 % 4) (W / 32 % 524288) := by
  have e0 : (if bitsS (W : Int) 31 1 = 1 then mulS (adrV (W : Int)) 4096 else adrV (W : Int)) = adrX (W / 2147483648 % 2) (W / 536870912 % 4) (W / 32 % 524288) := adr_of hW
  have e1 : bitsS (W : Int) 0 5 = ((W / 1 % 32 : Nat) : Int) := bof 0 5 0 5 32 1 (by decide) hW
  have e2 : bitsS (W : Int) 31 1 = ((W / 2147483648 % 2 : Nat) : Int) := bof 31 1 31 1 2 2147483648 (by decide) hW
  show (⟨11, bitsS (W : Int) 31 1, bitsS (W : Int) 0 5, 0, 0, 0, (if bitsS (W : Int) 31 1 = 1 then mulS (adrV (W : Int)) 4096 else adrV (W : Int)), 0, 0, 0, 0, 0, false, false, false, false⟩ : InsnS) = _
  rw [e0, e1, e2]
  rfl
theorem fin_10 {W : Nat} (hW : W < 4294967296) (hm : W / 16777216 % 32 * 16777216 = 268435456) : 268435456 + W / 1 % 32 * 1 + W / 2147483648 % 2 * 2147483648 + W / 536870912 % 4 * 536870912 + W / 32 % 524288 * 32 = W := by
  have d0 := div_step W 1 32 32 rfl
  have d1 := div_step W 32 524288 16777216 rfl
  have d2 := div_step W 16777216 32 536870912 rfl
  have d3 := div_step W 536870912 4 2147483648 rfl
  have d4 := div_step W 2147483648 2 4294967296 rfl
  have d99 : W / 4294967296 = 0 := Nat.div_eq_of_lt hW
  have d98 : W / 1 = W := Nat.div_one W
  generalize W / 1 % 32 = y0, W / 32 % 524288 = y1, W / 16777216 % 32 = y2, W / 536870912 % 4 = y3, W / 2147483648 % 2 = y4 at *
  generalize W / 32 = q1, W / 16777216 = q2, W / 536870912 = q3, W / 2147483648 = q4 at *
  generalize W / 4294967296 = q99 at *
  generalize W / 1 = q98 at *
  omega
theorem back1_10 {W : Nat} (hW : W < 4294967296) (h : andU (W : Int) (fMask 10) = fBase 10) : putI 10 (fBase 10) (takeI 10 W) = (W : Int) := by
  have hm := mask_at (M := 520093696) (B := 268435456) [(24, 5)] (by decide +kernel) (by simp only [maskOk, maskN]; decide) hW h (by decide)
  rw [field_one (Q := 16777216) (P := 32) rfl rfl] at hm
  rw [take_10 hW, put_10 _ _ _ _ (Nat.mod_lt _ (by decide)) (Nat.mod_lt _ (by decide)) (Nat.mod_lt _ (by decide)) (Nat.mod_lt _ (by decide)), fin_10 hW hm]
theorem word_10 (a0 a1 a2 a3 : Nat) (l0 : a0 < 32) (l1 : a1 < 2) (l2 : a2 < 4) (l3 : a3 < 524288) (S : Nat) (hS : S = 268435456 + a0 * 1 + a1 * 2147483648 + a2 * 536870912 + a3 * 32) : S < 4294967296 ∧ S / 1 % 32 = a0 ∧ S / 2147483648 % 2 = a1 ∧ S / 536870912 % 4 = a2 ∧ S / 32 % 524288 = a3 ∧ andU (S : Int) (fMask 10) = fBase 10 := by
  have hlt : S < 4294967296 := by omega
  exact ⟨hlt, digit (0) (a3 + 16 * 524288 + a2 * 16777216 + a1 * 67108864) 32 rfl (by omega), digit (a0 + a3 * 32 + 16 * 16777216 + a2 * 536870912) (0) 4294967296 rfl (by omega), digit (a0 + a3 * 32 + 16 * 16777216) (a1) 2147483648 rfl (by omega), digit (a0) (16 + a2 * 32 + a1 * 128) 16777216 rfl (by omega), mask_to (M := 520093696) (B := 268435456) [(24, 5)] (by decide +kernel) (by simp only [maskOk, maskN]; decide) hlt (by decide) (field_oc (Q := 16777216) (P := 32) (c := 16) rfl rfl (digit (a0 + a3 * 32) (a2 + a1 * 4) 536870912 rfl (by omega)) (by omega))⟩
theorem again_10 (a0 a1 a2 a3 : Nat) (l0 : a0 < 32) (l1 : a1 < 2) (l2 : a2 < 4) (l3 : a3 < 524288) : takeI 10 (putI 10 (fBase 10) (X_10 a0 a1 a2 a3)) = (X_10 a0 a1 a2 a3) ∧ andU (putI 10 (fBase 10) (X_10 a0 a1 a2 a3)) (fMask 10) = fBase 10 ∧ ∃ W : Nat, W < 4294967296 ∧ putI 10 (fBase 10) (X_10 a0 a1 a2 a3) = (W : Int) := by
  obtain ⟨S, hS⟩ : ∃ S, S = 268435456 + a0 * 1 + a1 * 2147483648 + a2 * 536870912 + a3 * 32 := ⟨_, rfl⟩
  have h := word_10 a0 a1 a2 a3 l0 l1 l2 l3 S hS
  rw [put_10 a0 a1 a2 a3 l0 l1 l2 l3, ← hS]
  refine ⟨?_, h.2.2.2.2.2, S, h.1, rfl⟩
  rw [take_10 h.1, h.2.1, h.2.2.1, h.2.2.2.1, h.2.2.2.2.1]
def X_11 (a0 a1 : Nat) : InsnS := ⟨12, 0, 0, 0, 0, 0, sxS 33554432 67108864 (a1), 0, 0, 0, 0, 0, false, false, false, (((a0 : Nat) : Int) == 1)⟩
theorem put_11 (a0 a1 : Nat) (l0 : a0 < 2) (l1 : a1 < 67108864) : putI 11 (fBase 11) (X_11 a0 a1) = ((335544320 + a0 * 2147483648 + a1 * 1 : Nat) : Int) := by
  have s1 := stf (b := (((a0 : Nat) : Int) == 1)) 2147483648 31 2147483648 (by decide) (Vi := fBase 11) (V := 335544320) rfl (bN_eq1 l0) (by omega)
  have h2 : (shrS (sxS 33554432 67108864 a1) 2 % 4294967296).toNat % 67108864 = a1 := sx_put26 l1
  have s2 := stp 0 26 0 26 67108864 1 (by decide) s1 h2 (by omega)
  exact s2
theorem take_11 {W : Nat} (hW : W < 4294967296) : takeI 11 (W : Int) = X_11 (W / 2147483648 % 2) (W / 1 % 67108864) := by
  have e0 : bitsS (W : Int) 31 1 = ((W / 2147483648 % 2 : Nat) : Int) := bof 31 1 31 1 2 2147483648 (by decide) hW
  have e1 : mulS 4 (signS (W : Int) 0 26) = sxS 33554432 67108864 (W / 1 % 67108864) := sign_of0_26 hW
  show (⟨12, 0, 0, 0, 0, 0, mulS 4 (signS (W : Int) 0 26), 0, 0, 0, 0, 0, false, false, false, (bitsS (W : Int) 31 1 == 1)⟩ : InsnS) = _
  rw [e0, e1]
  rfl
theorem fin_11 {W : Nat} (hW : W < 4294967296) (hm : W / 67108864 % 32 * 67108864 = 335544320) : 335544320 + W / 2147483648 % 2 * 2147483648 + W / 1 % 67108864 * 1 = W := by
  have d0 := div_step W 1 67108864 67108864 rfl
  have d1 := div_step W 67108864 32 2147483648 rfl
  have d2 := div_step W 2147483648 2 4294967296 rfl
  have d99 : W / 4294967296 = 0 := Nat.div_eq_of_lt hW
  have d98 : W / 1 = W := Nat.div_one W
  generalize W / 1 % 67108864 = y0, W / 67108864 % 32 = y1, W / 2147483648 % 2 = y2 at *
  generalize W / 67108864 = q1, W / 2147483648 = q2 at *
  generalize W / 4294967296 = q99 at *
  generalize W / 1 = q98 at *
  omega
theorem back1_11 {W : Nat} (hW : W < 4294967296) (h : andU (W : Int) (fMask 11) = fBase 11) : putI 11 (fBase 11) (takeI 11 W) = (W : Int) := by
  have hm := mask_at (M := 2080374784) (B := 335544320) [(26, 5)] (by decide +kernel) (by simp only [maskOk, maskN]; decide) hW h (by decide)
  rw [field_one (Q := 67108864) (P := 32) rfl rfl] at hm
  rw [take_11 hW, put_11 _ _ (Nat.mod_lt _ (by decide)) (Nat.mod_lt _ (by decide)), fin_11 hW hm]
theorem word_11 (a0 a1 : Nat) (l0 : a0 < 2) (l1 : a1 < 67108864) (S : Nat) (hS : S = 335544320 + a0 * 2147483648 + a1 * 1) : S < 4294967296 ∧ S / 2147483648 % 2 = a0 ∧ S / 1 % 67108864 = a1 ∧ andU (S : Int) (fMask 11) = fBase 11 := by
  have hlt : S < 4294967296 := by omega
  exact ⟨hlt, digit (a1 + 5 * 67108864) (0) 4294967296 rfl (by omega), digit (0) (5 + a0 * 32) 67108864 rfl (by omega), mask_to (M := 2080374784) (B := 335544320) [(26, 5)] (by decide +kernel) (by simp only [maskOk, maskN]; decide) hlt (by decide) (field_oc (Q := 67108864) (P := 32) (c := 5) rfl rfl (digit (a1) (a0) 2147483648 rfl (by omega)) (by omega))⟩
theorem again_11 (a0 a1 : Nat) (l0 : a0 < 2) (l1 : a1 < 67108864) : takeI 11 (putI 11 (fBase 11) (X_11 a0 a1)) = (X_11 a0 a1) ∧ andU (putI 11 (fBase 11) (X_11 a0 a1)) (fMask 11) = fBase 11 ∧ ∃ W : Nat, W < 4294967296 ∧ putI 11 (fBase 11) (X_11 a0 a1) = (W : Int) := by
  obtain ⟨S, hS⟩ : ∃ S, S = 335544320 + a0 * 2147483648 + a1 * 1 := ⟨_, rfl⟩
  have h := word_11 a0 a1 l0 l1 S hS
  rw [put_11 a0 a1 l0 l1, ← hS]
  refine ⟨?_, h.2.2.2, S, h.1, rfl⟩
  rw [take_11 h.1, h.2.1, h.2.2.1]
def X_12 (a0 a1 : Nat) : InsnS := ⟨13, 0, 0, 0, 0, 0, sxS 262144 524288 (a1), 0, 0, 0, ((a0 : Nat) : Int), 0, false, false, false, false⟩
theorem put_12 (a0 a1 : Nat) (l0 : a0 < 16) (l1 : a1 < 524288) : putI 12 (fBase 12) (X_12 a0 a1) = ((1409286144 + a0 * 1 + a1 * 32 : Nat) : Int) := by
  have s1 := stp 0 4 0 4 16 1 (by decide) (Vi := fBase 12) (V := 1409286144) rfl (nat_mod l0 (by decide)) (by omega)
  have h2 : (shrS (sxS 262144 524288 a1) 2 % 4294967296).toNat % 524288 = a1 := sx_put19 l1
  have s2 := stp 5 19 5 19 524288 32 (by decide) s1 h2 (by omega)
  exact s2
theorem take_12 {W : Nat} (hW : W < 4294967296) : takeI 12 (W : Int) = X_12 (W / 1 % 16) (W / 32 % 524288) := by
  have e0 : bitsS (W : Int) 0 4 = ((W / 1 % 16 : Nat) : Int) := bof 0 4 0 4 16 1 (by decide) hW
  have e1 : mulS 4 (signS (W : Int) 5 19) = sxS 262144 524288 (W / 32 % 524288) := sign_of5_19 hW
  show (⟨13, 0, 0, 0, 0, 0, mulS 4 (signS (W : Int) 5 19), 0, 0, 0, bitsS (W : Int) 0 4, 0, false, false, false, false⟩ : InsnS) = _
  rw [e0, e1]
  rfl
theorem fin_12 {W : Nat} (hW : W < 4294967296) (hm : W / 16777216 % 256 * 16777216 + W / 16 % 2 * 16 = 1409286144) : 1409286144 + W / 1 % 16 * 1 + W / 32 % 524288 * 32 = W := by
  have d0 := div_step W 1 16 16 rfl
  have d1 := div_step W 16 2 32 rfl
  have d2 := div_step W 32 524288 16777216 rfl
  have d3 := div_step W 16777216 256 4294967296 rfl
  have d99 : W / 4294967296 = 0 := Nat.div_eq_of_lt hW
  have d98 : W / 1 = W := Nat.div_one W
  generalize W / 1 % 16 = y0, W / 16 % 2 = y1, W / 32 % 524288 = y2, W / 16777216 % 256 = y3 at *
  generalize W / 16 = q1, W / 32 = q2, W / 16777216 = q3 at *
  generalize W / 4294967296 = q99 at *
  generalize W / 1 = q98 at *
  omega
theorem back1_12 {W : Nat} (hW : W < 4294967296) (h : andU (W : Int) (fMask 12) = fBase 12) : putI 12 (fBase 12) (takeI 12 W) = (W : Int) := by
  have hm := mask_at (M := 4278190096) (B := 1409286144) [(24, 8), (4, 1)] (by decide +kernel) (by simp only [maskOk, maskN]; decide) hW h (by decide)
  rw [field_step (Q := 16777216) (P := 256) rfl rfl (field_one (Q := 16) (P := 2) rfl rfl)] at hm
  rw [take_12 hW, put_12 _ _ (Nat.mod_lt _ (by decide)) (Nat.mod_lt _ (by decide)), fin_12 hW hm]
theorem word_12 (a0 a1 : Nat) (l0 : a0 < 16) (l1 : a1 < 524288) (S : Nat) (hS : S = 1409286144 + a0 * 1 + a1 * 32) : S < 4294967296 ∧ S / 1 % 16 = a0 ∧ S / 32 % 524288 = a1 ∧ andU (S : Int) (fMask 12) = fBase 12 := by
  have hlt : S < 4294967296 := by omega
  exact ⟨hlt, digit (0) (a1 * 2 + 84 * 1048576) 16 rfl (by omega), digit (a0) (84) 16777216 rfl (by omega), mask_to (M := 4278190096) (B := 1409286144) [(24, 8), (4, 1)] (by decide +kernel) (by simp only [maskOk, maskN]; decide) hlt (by decide) (field_sc (Q := 16777216) (P := 256) (c := 84) (s := 0) rfl rfl (digit (a0 + a1 * 32) (0) 4294967296 rfl (by omega)) (field_oc (Q := 16) (P := 2) (c := 0) rfl rfl (digit (a0) (a1 + 84 * 524288) 32 rfl (by omega)) (Nat.zero_mul _)) (by omega))⟩
theorem again_12 (a0 a1 : Nat) (l0 : a0 < 16) (l1 : a1 < 524288) : takeI 12 (putI 12 (fBase 12) (X_12 a0 a1)) = (X_12 a0 a1) ∧ andU (putI 12 (fBase 12) (X_12 a0 a1)) (fMask 12) = fBase 12 ∧ ∃ W : Nat, W < 4294967296 ∧ putI 12 (fBase 12) (X_12 a0 a1) = (W : Int) := by
  obtain ⟨S, hS⟩ : ∃ S, S = 1409286144 + a0 * 1 + a1 * 32 := ⟨_, rfl⟩
  have h := word_12 a0 a1 l0 l1 S hS
  rw [put_12 a0 a1 l0 l1, ← hS]
  refine ⟨?_, h.2.2.2, S, h.1, rfl⟩
  rw [take_12 h.1, h.2.1, h.2.2.1]
def X_13 (a0 a1 a2 : Nat) : InsnS := ⟨14, 0, ((a0 : Nat) : Int), 0, 0, 0, sxS 262144 524288 (a2), 0, 0, 0, 0, 0, false, false, decide (a1 = 1), false⟩
theorem put_13 (a0 a1 a2 : Nat) (l0 : a0 < 32) (l1 : a1 < 2) (l2 : a2 < 524288) : putI 13 (fBase 13) (X_13 a0 a1 a2) = ((3019898880 + a0 * 1 + a1 * 16777216 + a2 * 32 : Nat) : Int) := by
  have s1 := stp 0 5 0 5 32 1 (by decide) (Vi := fBase 13) (V := 3019898880) rfl (nat_mod l0 (by decide)) (by omega)
  have s2 := stf (b := decide (a1 = 1)) 16777216 24 16777216 (by decide) s1 (bN_dec l1) (by omega)
  have h3 : (shrS (sxS 262144 524288 a2) 2 % 4294967296).toNat % 524288 = a2 := sx_put19 l2
  have s3 := stp 5 19 5 19 524288 32 (by decide) s2 h3 (by omega)
  exact s3
theorem take_13 {W : Nat} (hW : W < 4294967296) : takeI 13 (W : Int) = X_13 (W / 1 % 32) (W / 16777216 % 2) (W / 32 % 524288) := by
  have e0 : bitsS (W : Int) 0 5 = ((W / 1 % 32 : Nat) : Int) := bof 0 5 0 5 32 1 (by decide) hW
  have e1 : hasS (W : Int) 16777216 = decide (W / 16777216 % 2 = 1) := hof 16777216 24 16777216 (by decide) hW
  have e2 : mulS 4 (signS (W : Int) 5 19) = sxS 262144 524288 (W / 32 % 524288) := sign_of5_19 hW
  show (⟨14, 0, bitsS (W : Int) 0 5, 0, 0, 0, mulS 4 (signS (W : Int) 5 19), 0, 0, 0, 0, 0, false, false, hasS (W : Int) 16777216, false⟩ : InsnS) = _
  rw [e0, e1, e2]
  rfl
theorem fin_13 {W : Nat} (hW : W < 4294967296) (hm : W / 33554432 % 128 * 33554432 = 3019898880) : 3019898880 + W / 1 % 32 * 1 + W / 16777216 % 2 * 16777216 + W / 32 % 524288 * 32 = W := by
  have d0 := div_step W 1 32 32 rfl
  have d1 := div_step W 32 524288 16777216 rfl
  have d2 := div_step W 16777216 2 33554432 rfl
  have d3 := div_step W 33554432 128 4294967296 rfl
  have d99 : W / 4294967296 = 0 := Nat.div_eq_of_lt hW
  have d98 : W / 1 = W := Nat.div_one W
  generalize W / 1 % 32 = y0, W / 32 % 524288 = y1, W / 16777216 % 2 = y2, W / 33554432 % 128 = y3 at *
  generalize W / 32 = q1, W / 16777216 = q2, W / 33554432 = q3 at *
  generalize W / 4294967296 = q99 at *
  generalize W / 1 = q98 at *
  omega
theorem back1_13 {W : Nat} (hW : W < 4294967296) (h : andU (W : Int) (fMask 13) = fBase 13) : putI 13 (fBase 13) (takeI 13 W) = (W : Int) := by
  have hm := mask_at (M := 4261412864) (B := 3019898880) [(25, 7)] (by decide +kernel) (by simp only [maskOk, maskN]; decide) hW h (by decide)
  rw [field_one (Q := 33554432) (P := 128) rfl rfl] at hm
  rw [take_13 hW, put_13 _ _ _ (Nat.mod_lt _ (by decide)) (Nat.mod_lt _ (by decide)) (Nat.mod_lt _ (by decide)), fin_13 hW hm]
theorem word_13 (a0 a1 a2 : Nat) (l0 : a0 < 32) (l1 : a1 < 2) (l2 : a2 < 524288) (S : Nat) (hS : S = 3019898880 + a0 * 1 + a1 * 16777216 + a2 * 32) : S < 4294967296 ∧ S / 1 % 32 = a0 ∧ S / 16777216 % 2 = a1 ∧ S / 32 % 524288 = a2 ∧ andU (S : Int) (fMask 13) = fBase 13 := by
  have hlt : S < 4294967296 := by omega
  exact ⟨hlt, digit (0) (a2 + a1 * 524288 + 90 * 1048576) 32 rfl (by omega), digit (a0 + a2 * 32) (90) 33554432 rfl (by omega), digit (a0) (a1 + 90 * 2) 16777216 rfl (by omega), mask_to (M := 4261412864) (B := 3019898880) [(25, 7)] (by decide +kernel) (by simp only [maskOk, maskN]; decide) hlt (by decide) (field_oc (Q := 33554432) (P := 128) (c := 90) rfl rfl (digit (a0 + a2 * 32 + a1 * 16777216) (0) 4294967296 rfl (by omega)) (by omega))⟩
theorem again_13 (a0 a1 a2 : Nat) (l0 : a0 < 32) (l1 : a1 < 2) (l2 : a2 < 524288) : takeI 13 (putI 13 (fBase 13) (X_13 a0 a1 a2)) = (X_13 a0 a1 a2) ∧ andU (putI 13 (fBase 13) (X_13 a0 a1 a2)) (fMask 13) = fBase 13 ∧ ∃ W : Nat, W < 4294967296 ∧ putI 13 (fBase 13) (X_13 a0 a1 a2) = (W : Int) := by
  obtain ⟨S, hS⟩ : ∃ S, S = 3019898880 + a0 * 1 + a1 * 16777216 + a2 * 32 := ⟨_, rfl⟩
  have h := word_13 a0 a1 a2 l0 l1 l2 S hS
  rw [put_13 a0 a1 a2 l0 l1 l2, ← hS]
  refine ⟨?_, h.2.2.2.2, S, h.1, rfl⟩
  rw [take_13 h.1, h.2.1, h.2.2.1, h.2.2.2.1]
def X_14 (a0 a1 a2 a3 a4 : Nat) : InsnS := ⟨15, 0, ((a0 : Nat) : Int), 0, 0, 0, sxS 8192 16384 (a4), 0, ((32 * (a2) + a3 : Nat) : Int), 0, 0, 0, false, false, decide (a1 = 1), false⟩
theorem put_14 (a0 a1 a2 a3 a4 : Nat) (l0 : a0 < 32) (l1 : a1 < 2) (l2 : a2 < 2) (l3 : a3 < 32) (l4 : a4 < 16384) : putI 14 (fBase 14) (X_14 a0 a1 a2 a3 a4) = ((905969664 + a0 * 1 + a1 * 16777216 + a2 * 2147483648 + a3 * 524288 + a4 * 32 : Nat) : Int) := by
  have s1 := stp 0 5 0 5 32 1 (by decide) (Vi := fBase 14) (V := 905969664) rfl (nat_mod l0 (by decide)) (by omega)
  have s2 := stf (b := decide (a1 = 1)) 16777216 24 16777216 (by decide) s1 (bN_dec l1) (by omega)
  have h3 : (shrS ((32 * a2 + a3 : Nat) : Int) 5 % 4294967296).toNat % 2 = a2 := tb_a l2 l3
  have s3 := stp 31 1 31 1 2 2147483648 (by decide) s2 h3 (by omega)
  have h4 : (((32 * a2 + a3 : Nat) : Int) % 4294967296).toNat % 32 = a3 := tb_b l2 l3
  have s4 := stp 19 5 19 5 32 524288 (by decide) s3 h4 (by omega)
  have h5 : (shrS (sxS 8192 16384 a4) 2 % 4294967296).toNat % 16384 = a4 := sx_put14 l4
  have s5 := stp 5 14 5 14 16384 32 (by decide) s4 h5 (by omega)
  exact s5
theorem take_14 {W : Nat} (hW : W < 4294967296) : takeI 14 (W : Int) = X_14 (W / 1 % 32) (W / 16777216 % 2) (W / 2147483648 % 2) (W / 524288 % 32) (W / 32 % 16384) := by
  have e0 : bitsS (W : Int) 0 5 = ((W / 1 % 32 : Nat) : Int) := bof 0 5 0 5 32 1 (by decide) hW
  have e1 : hasS (W : Int) 16777216 = decide (W / 16777216 % 2 = 1) := hof 16777216 24 16777216 (by decide) hW
  have e2 : orS (shlS (bitsS (W : Int) 31 1) 5) (bitsS (W : Int) 19 5) = ((32 * (W / 2147483648 % 2) + W / 524288 % 32 : Nat) : Int) := by
    rw [bof 31 1 31 1 2 2147483648 (by decide) hW, bof 19 5 19 5 32 524288 (by decide) hW]
    exact tb_of (Nat.mod_lt _ (by decide)) (Nat.mod_lt _ (by decide))
  have e3 : mulS 4 (signS (W : Int) 5 14) = sxS 8192 16384 (W / 32 % 16384) := sign_of5_14 hW
  show (⟨15, 0, bitsS (W : Int) 0 5, 0, 0, 0, mulS 4 (signS (W : Int) 5 14), 0, orS (shlS (bitsS (W : Int) 31 1) 5) (bitsS (W : Int) 19 5), 0, 0, 0, false, false, hasS (W : Int) 16777216, false⟩ : InsnS) = _
  rw [e0, e1, e2, e3]
  rfl
theorem fin_14 {W : Nat} (hW : W < 4294967296) (hm : W / 33554432 % 64 * 33554432 = 905969664) : 905969664 + W / 1 % 32 * 1 + W / 16777216 % 2 * 16777216 + W / 2147483648 % 2 * 2147483648 + W / 524288 % 32 * 524288 + W / 32 % 16384 * 32 = W := by
  have d0 := div_step W 1 32 32 rfl
  have d1 := div_step W 32 16384 524288 rfl
  have d2 := div_step W 524288 32 16777216 rfl
  have d3 := div_step W 16777216 2 33554432 rfl
  have d4 := div_step W 33554432 64 2147483648 rfl
  have d5 := div_step W 2147483648 2 4294967296 rfl
  have d99 : W / 4294967296 = 0 := Nat.div_eq_of_lt hW
  have d98 : W / 1 = W := Nat.div_one W
  generalize W / 1 % 32 = y0, W / 32 % 16384 = y1, W / 524288 % 32 = y2, W / 16777216 % 2 = y3, W / 33554432 % 64 = y4, W / 2147483648 % 2 = y5 at *
  generalize W / 32 = q1, W / 524288 = q2, W / 16777216 = q3, W / 33554432 = q4, W / 2147483648 = q5 at *
  generalize W / 4294967296 = q99 at *
  generalize W / 1 = q98 at *
  omega
theorem back1_14 {W : Nat} (hW : W < 4294967296) (h : andU (W : Int) (fMask 14) = fBase 14) : putI 14 (fBase 14) (takeI 14 W) = (W : Int) := by
  have hm := mask_at (M := 2113929216) (B := 905969664) [(25, 6)] (by decide +kernel) (by simp only [maskOk, maskN]; decide) hW h (by decide)
  rw [field_one (Q := 33554432) (P := 64) rfl rfl] at hm
  rw [take_14 hW, put_14 _ _ _ _ _ (Nat.mod_lt _ (by decide)) (Nat.mod_lt _ (by decide)) (Nat.mod_lt _ (by decide)) (Nat.mod_lt _ (by decide)) (Nat.mod_lt _ (by decide)), fin_14 hW hm]
theorem word_14 (a0 a1 a2 a3 a4 : Nat) (l0 : a0 < 32) (l1 : a1 < 2) (l2 : a2 < 2) (l3 : a3 < 32) (l4 : a4 < 16384) (S : Nat) (hS : S = 905969664 + a0 * 1 + a1 * 16777216 + a2 * 2147483648 + a3 * 524288 + a4 * 32) : S < 4294967296 ∧ S / 1 % 32 = a0 ∧ S / 16777216 % 2 = a1 ∧ S / 2147483648 % 2 = a2 ∧ S / 524288 % 32 = a3 ∧ S / 32 % 16384 = a4 ∧ andU (S : Int) (fMask 14) = fBase 14 := by
  have hlt : S < 4294967296 := by omega
  exact ⟨hlt, digit (0) (a4 + a3 * 16384 + a1 * 524288 + 27 * 1048576 + a2 * 67108864) 32 rfl (by omega), digit (a0 + a4 * 32 + a3 * 524288) (27 + a2 * 64) 33554432 rfl (by omega), digit (a0 + a4 * 32 + a3 * 524288 + a1 * 16777216 + 27 * 33554432) (0) 4294967296 rfl (by omega), digit (a0 + a4 * 32) (a1 + 27 * 2 + a2 * 128) 16777216 rfl (by omega), digit (a0) (a3 + a1 * 32 + 27 * 64 + a2 * 4096) 524288 rfl (by omega), mask_to (M := 2113929216) (B := 905969664) [(25, 6)] (by decide +kernel) (by simp only [maskOk, maskN]; decide) hlt (by decide) (field_oc (Q := 33554432) (P := 64) (c := 27) rfl rfl (digit (a0 + a4 * 32 + a3 * 524288 + a1 * 16777216) (a2) 2147483648 rfl (by omega)) (by omega))⟩
theorem again_14 (a0 a1 a2 a3 a4 : Nat) (l0 : a0 < 32) (l1 : a1 < 2) (l2 : a2 < 2) (l3 : a3 < 32) (l4 : a4 < 16384) : takeI 14 (putI 14 (fBase 14) (X_14 a0 a1 a2 a3 a4)) = (X_14 a0 a1 a2 a3 a4) ∧ andU (putI 14 (fBase 14) (X_14 a0 a1 a2 a3 a4)) (fMask 14) = fBase 14 ∧ ∃ W : Nat, W < 4294967296 ∧ putI 14 (fBase 14) (X_14 a0 a1 a2 a3 a4) = (W : Int) := by
  obtain ⟨S, hS⟩ : ∃ S, S = 905969664 + a0 * 1 + a1 * 16777216 + a2 * 2147483648 + a3 * 524288 + a4 * 32 := ⟨_, rfl⟩
  have h := word_14 a0 a1 a2 a3 a4 l0 l1 l2 l3 l4 S hS
  rw [put_14 a0 a1 a2 a3 a4 l0 l1 l2 l3 l4, ← hS]
  refine ⟨?_, h.2.2.2.2.2.2, S, h.1, rfl⟩
  rw [take_14 h.1, h.2.1, h.2.2.1, h.2.2.2.1, h.2.2.2.2.1, h.2.2.2.2.2.1]
def X_15 (a0 a1 : Nat) : InsnS := ⟨16, ((a1 : Nat) : Int), 0, ((a0 : Nat) : Int), 0, 0, 0, 0, 0, 0, 0, 0, false, false, false, false⟩
theorem put_15 (a0 a1 : Nat) (l0 : a0 < 32) (l1 : a1 < 4) : putI 15 (fBase 15) (X_15 a0 a1) = ((3592355840 + a0 * 32 + a1 * 2097152 : Nat) : Int) := by
  have s1 := stp 5 5 5 5 32 32 (by decide) (Vi := fBase 15) (V := 3592355840) rfl (nat_mod l0 (by decide)) (by omega)
  have s2 := stp 21 2 21 2 4 2097152 (by decide) s1 (nat_mod l1 (by decide)) (by omega)
  exact s2
theorem take_15 {W : Nat} (hW : W < 4294967296) : takeI 15 (W : Int) = X_15 (W / 32 % 32) (W / 2097152 % 4) := by
  have e0 : bitsS (W : Int) 5 5 = ((W / 32 % 32 : Nat) : Int) := bof 5 5 5 5 32 32 (by decide) hW
  have e1 : bitsS (W : Int) 21 2 = ((W / 2097152 % 4 : Nat) : Int) := bof 21 2 21 2 4 2097152 (by decide) hW
  show (⟨16, bitsS (W : Int) 21 2, 0, bitsS (W : Int) 5 5, 0, 0, 0, 0, 0, 0, 0, 0, false, false, false, false⟩ : InsnS) = _
  rw [e0, e1]
  rfl
theorem fin_15 {W : Nat} (hW : W < 4294967296) (hm : W / 8388608 % 512 * 8388608 + (W / 1024 % 2048 * 1024 + W / 1 % 32 * 1) = 3592355840) : 3592355840 + W / 32 % 32 * 32 + W / 2097152 % 4 * 2097152 = W := by
  have d0 := div_step W 1 32 32 rfl
  have d1 := div_step W 32 32 1024 rfl
  have d2 := div_step W 1024 2048 2097152 rfl
  have d3 := div_step W 2097152 4 8388608 rfl
  have d4 := div_step W 8388608 512 4294967296 rfl
  have d99 : W / 4294967296 = 0 := Nat.div_eq_of_lt hW
  have d98 : W / 1 = W := Nat.div_one W
  generalize W / 1 % 32 = y0, W / 32 % 32 = y1, W / 1024 % 2048 = y2, W / 2097152 % 4 = y3, W / 8388608 % 512 = y4 at *
  generalize W / 32 = q1, W / 1024 = q2, W / 2097152 = q3, W / 8388608 = q4 at *
  generalize W / 4294967296 = q99 at *
  generalize W / 1 = q98 at *
  omega
theorem back1_15 {W : Nat} (hW : W < 4294967296) (h : andU (W : Int) (fMask 15) = fBase 15) : putI 15 (fBase 15) (takeI 15 W) = (W : Int) := by
  have hm := mask_at (M := 4288674847) (B := 3592355840) [(23, 9), (10, 11), (0, 5)] (by decide +kernel) (by simp only [maskOk, maskN]; decide) hW h (by decide)
  rw [field_step (Q := 8388608) (P := 512) rfl rfl (field_step (Q := 1024) (P := 2048) rfl rfl (field_one (Q := 1) (P := 32) rfl rfl))] at hm
  rw [take_15 hW, put_15 _ _ (Nat.mod_lt _ (by decide)) (Nat.mod_lt _ (by decide)), fin_15 hW hm]
theorem word_15 (a0 a1 : Nat) (l0 : a0 < 32) (l1 : a1 < 4) (S : Nat) (hS : S = 3592355840 + a0 * 32 + a1 * 2097152) : S < 4294967296 ∧ S / 32 % 32 = a0 ∧ S / 2097152 % 4 = a1 ∧ andU (S : Int) (fMask 15) = fBase 15 := by
  have hlt : S < 4294967296 := by omega
  exact ⟨hlt, digit (0) (1984 + a1 * 2048 + 428 * 8192) 1024 rfl (by omega), digit (a0 * 32 + 1984 * 1024) (428) 8388608 rfl (by omega), mask_to (M := 4288674847) (B := 3592355840) [(23, 9), (10, 11), (0, 5)] (by decide +kernel) (by simp only [maskOk, maskN]; decide) hlt (by decide) (field_sc (Q := 8388608) (P := 512) (c := 428) (s := 2031616) rfl rfl (digit (a0 * 32 + 1984 * 1024 + a1 * 2097152) (0) 4294967296 rfl (by omega)) (field_sc (Q := 1024) (P := 2048) (c := 1984) (s := 0) rfl rfl (digit (a0 * 32) (a1 + 428 * 4) 2097152 rfl (by omega)) (field_oc (Q := 1) (P := 32) (c := 0) rfl rfl (digit (0) (a0 + 1984 * 32 + a1 * 65536 + 428 * 262144) 32 rfl (by omega)) (Nat.zero_mul _)) (by omega)) (by omega))⟩
theorem again_15 (a0 a1 : Nat) (l0 : a0 < 32) (l1 : a1 < 4) : takeI 15 (putI 15 (fBase 15) (X_15 a0 a1)) = (X_15 a0 a1) ∧ andU (putI 15 (fBase 15) (X_15 a0 a1)) (fMask 15) = fBase 15 ∧ ∃ W : Nat, W < 4294967296 ∧ putI 15 (fBase 15) (X_15 a0 a1) = (W : Int) := by
  obtain ⟨S, hS⟩ : ∃ S, S = 3592355840 + a0 * 32 + a1 * 2097152 := ⟨_, rfl⟩
  have h := word_15 a0 a1 l0 l1 S hS
  rw [put_15 a0 a1 l0 l1, ← hS]
  refine ⟨?_, h.2.2.2, S, h.1, rfl⟩
  rw [take_15 h.1, h.2.1, h.2.2.1]
def X_16 (a0 a1 a2 : Nat) : InsnS := ⟨17, 0, ((a0 : Nat) : Int), ((a1 : Nat) : Int), 0, 0, ((8 * (a2) : Nat) : Int), 0, 0, 0, 0, 0, false, false, false, false⟩
theorem put_16 (a0 a1 a2 : Nat) (l0 : a0 < 32) (l1 : a1 < 32) (l2 : a2 < 4096) : putI 16 (fBase 16) (X_16 a0 a1 a2) = ((4181721088 + a0 * 1 + a1 * 32 + a2 * 1024 : Nat) : Int) := by
  have s1 := stp 0 5 0 5 32 1 (by decide) (Vi := fBase 16) (V := 4181721088) rfl (nat_mod l0 (by decide)) (by omega)
  have s2 := stp 5 5 5 5 32 32 (by decide) s1 (nat_mod l1 (by decide)) (by omega)
  have s3 := layS_zero (n := 0) (ai := 16) (mi := 5) s2 (by omega) rfl
  have h4 : (quoS ((8 * a2 : Nat) : Int) 8 % 4294967296).toNat % 4096 = a2 := by rw [quo8 a2 (by omega)]; exact nat_mod l2 (by decide)
  have s4 := stp 10 12 10 12 4096 1024 (by decide) s3 h4 (by omega)
  exact s4
theorem take_16 {W : Nat} (hW : W < 4294967296) : takeI 16 (W : Int) = X_16 (W / 1 % 32) (W / 32 % 32) (W / 1024 % 4096) := by
  have e0 : bitsS (W : Int) 0 5 = ((W / 1 % 32 : Nat) : Int) := bof 0 5 0 5 32 1 (by decide) hW
  have e1 : bitsS (W : Int) 5 5 = ((W / 32 % 32 : Nat) : Int) := bof 5 5 5 5 32 32 (by decide) hW
  have e2 : mulS 8 (bitsS (W : Int) 10 12) = ((8 * (W / 1024 % 4096) : Nat) : Int) := by
    rw [bof 10 12 10 12 4096 1024 (by decide) hW]
    exact mul8 _ (Nat.lt_trans (Nat.mod_lt _ (by decide)) (by decide))
  show (⟨17, 0, bitsS (W : Int) 0 5, bitsS (W : Int) 5 5, 0, 0, mulS 8 (bitsS (W : Int) 10 12), 0, 0, 0, 0, 0, false, false, false, false⟩ : InsnS) = _
  rw [e0, e1, e2]
  rfl
theorem fin_16 {W : Nat} (hW : W < 4294967296) (hm : W / 4194304 % 1024 * 4194304 = 4181721088) : 4181721088 + W / 1 % 32 * 1 + W / 32 % 32 * 32 + W / 1024 % 4096 * 1024 = W := by
  have d0 := div_step W 1 32 32 rfl
  have d1 := div_step W 32 32 1024 rfl
  have d2 := div_step W 1024 4096 4194304 rfl
  have d3 := div_step W 4194304 1024 4294967296 rfl
  have d99 : W / 4294967296 = 0 := Nat.div_eq_of_lt hW
  have d98 : W / 1 = W := Nat.div_one W
  generalize W / 1 % 32 = y0, W / 32 % 32 = y1, W / 1024 % 4096 = y2, W / 4194304 % 1024 = y3 at *
  generalize W / 32 = q1, W / 1024 = q2, W / 4194304 = q3 at *
  generalize W / 4294967296 = q99 at *
  generalize W / 1 = q98 at *
  omega
theorem back1_16 {W : Nat} (hW : W < 4294967296) (h : andU (W : Int) (fMask 16) = fBase 16) : putI 16 (fBase 16) (takeI 16 W) = (W : Int) := by
  have hm := mask_at (M := 4290772992) (B := 4181721088) [(22, 10)] (by decide +kernel) (by simp only [maskOk, maskN]; decide) hW h (by decide)
  rw [field_one (Q := 4194304) (P := 1024) rfl rfl] at hm
  rw [take_16 hW, put_16 _ _ _ (Nat.mod_lt _ (by decide)) (Nat.mod_lt _ (by decide)) (Nat.mod_lt _ (by decide)), fin_16 hW hm]
theorem word_16 (a0 a1 a2 : Nat) (l0 : a0 < 32) (l1 : a1 < 32) (l2 : a2 < 4096) (S : Nat) (hS : S = 4181721088 + a0 * 1 + a1 * 32 + a2 * 1024) : S < 4294967296 ∧ S / 1 % 32 = a0 ∧ S / 32 % 32 = a1 ∧ S / 1024 % 4096 = a2 ∧ andU (S : Int) (fMask 16) = fBase 16 := by
  have hlt : S < 4294967296 := by omega
  exact ⟨hlt, digit (0) (a1 + a2 * 32 + 997 * 131072) 32 rfl (by omega), digit (a0) (a2 + 997 * 4096) 1024 rfl (by omega), digit (a0 + a1 * 32) (997) 4194304 rfl (by omega), mask_to (M := 4290772992) (B := 4181721088) [(22, 10)] (by decide +kernel) (by simp only [maskOk, maskN]; decide) hlt (by decide) (field_oc (Q := 4194304) (P := 1024) (c := 997) rfl rfl (digit (a0 + a1 * 32 + a2 * 1024) (0) 4294967296 rfl (by omega)) (by omega))⟩
theorem again_16 (a0 a1 a2 : Nat) (l0 : a0 < 32) (l1 : a1 < 32) (l2 : a2 < 4096) : takeI 16 (putI 16 (fBase 16) (X_16 a0 a1 a2)) = (X_16 a0 a1 a2) ∧ andU (putI 16 (fBase 16) (X_16 a0 a1 a2)) (fMask 16) = fBase 16 ∧ ∃ W : Nat, W < 4294967296 ∧ putI 16 (fBase 16) (X_16 a0 a1 a2) = (W : Int) := by
  obtain ⟨S, hS⟩ : ∃ S, S = 4181721088 + a0 * 1 + a1 * 32 + a2 * 1024 := ⟨_, rfl⟩
  have h := word_16 a0 a1 a2 l0 l1 l2 S hS
  rw [put_16 a0 a1 a2 l0 l1 l2, ← hS]
  refine ⟨?_, h.2.2.2.2, S, h.1, rfl⟩
  rw [take_16 h.1, h.2.1, h.2.2.1, h.2.2.2.1]
def X_17 (a0 a1 a2 : Nat) : InsnS := ⟨18, 0, ((a0 : Nat) : Int), ((a1 : Nat) : Int), 0, 0, ((8 * (a2) : Nat) : Int), 0, 0, 0, 0, 0, false, false, false, false⟩
theorem put_17 (a0 a1 a2 : Nat) (l0 : a0 < 32) (l1 : a1 < 32) (l2 : a2 < 4096) : putI 17 (fBase 17) (X_17 a0 a1 a2) = ((4177526784 + a0 * 1 + a1 * 32 + a2 * 1024 : Nat) : Int) := by
  have s1 := stp 0 5 0 5 32 1 (by decide) (Vi := fBase 17) (V := 4177526784) rfl (nat_mod l0 (by decide)) (by omega)
  have s2 := stp 5 5 5 5 32 32 (by decide) s1 (nat_mod l1 (by decide)) (by omega)
  have s3 := layS_zero (n := 0) (ai := 16) (mi := 5) s2 (by omega) rfl
  have h4 : (quoS ((8 * a2 : Nat) : Int) 8 % 4294967296).toNat % 4096 = a2 := by rw [quo8 a2 (by omega)]; exact nat_mod l2 (by decide)
  have s4 := stp 10 12 10 12 4096 1024 (by decide) s3 h4 (by omega)
  exact s4
theorem take_17 {W : Nat} (hW : W < 4294967296) : takeI 17 (W : Int) = X_17 (W / 1 % 32) (W / 32 % 32) (W / 1024 % 4096) := by
  have e0 : bitsS (W : Int) 0 5 = ((W / 1 % 32 : Nat) : Int) := bof 0 5 0 5 32 1 (by decide) hW
  have e1 : bitsS (W : Int) 5 5 = ((W / 32 % 32 : Nat) : Int) := bof 5 5 5 5 32 32 (by decide) hW
  have e2 : mulS 8 (bitsS (W : Int) 10 12) = ((8 * (W / 1024 % 4096) : Nat) : Int) := by
    rw [bof 10 12 10 12 4096 1024 (by decide) hW]
    exact mul8 _ (Nat.lt_trans (Nat.mod_lt _ (by decide)) (by decide))
  show (⟨18, 0, bitsS (W : Int) 0 5, bitsS (W : Int) 5 5, 0, 0, mulS 8 (bitsS (W : Int) 10 12), 0, 0, 0, 0, 0, false, false, false, false⟩ : InsnS) = _
  rw [e0, e1, e2]
  rfl
theorem fin_17 {W : Nat} (hW : W < 4294967296) (hm : W / 4194304 % 1024 * 4194304 = 4177526784) : 4177526784 + W / 1 % 32 * 1 + W / 32 % 32 * 32 + W / 1024 % 4096 * 1024 = W := by
  have d0 := div_step W 1 32 32 rfl
  have d1 := div_step W 32 32 1024 rfl
  have d2 := div_step W 1024 4096 4194304 rfl
  have d3 := div_step W 4194304 1024 4294967296 rfl
  have d99 : W / 4294967296 = 0 := Nat.div_eq_of_lt hW
  have d98 : W / 1 = W := Nat.div_one W
  generalize W / 1 % 32 = y0, W / 32 % 32 = y1, W / 1024 % 4096 = y2, W / 4194304 % 1024 = y3 at *
  generalize W / 32 = q1, W / 1024 = q2, W / 4194304 = q3 at *
  generalize W / 4294967296 = q99 at *
  generalize W / 1 = q98 at *
  omega
theorem back1_17 {W : Nat} (hW : W < 4294967296) (h : andU (W : Int) (fMask 17) = fBase 17) : putI 17 (fBase 17) (takeI 17 W) = (W : Int) := by
  have hm := mask_at (M := 4290772992) (B := 4177526784) [(22, 10)] (by decide +kernel) (by simp only [maskOk, maskN]; decide) hW h (by decide)
  rw [field_one (Q := 4194304) (P := 1024) rfl rfl] at hm
  rw [take_17 hW, put_17 _ _ _ (Nat.mod_lt _ (by decide)) (Nat.mod_lt _ (by decide)) (Nat.mod_lt _ (by decide)), fin_17 hW hm]
theorem word_17 (a0 a1 a2 : Nat) (l0 : a0 < 32) (l1 : a1 < 32) (l2 : a2 < 4096) (S : Nat) (hS : S = 4177526784 + a0 * 1 + a1 * 32 + a2 * 1024) : S < 4294967296 ∧ S / 1 % 32 = a0 ∧ S / 32 % 32 = a1 ∧ S / 1024 % 4096 = a2 ∧ andU (S : Int) (fMask 17) = fBase 17 := by
  have hlt : S < 4294967296 := by omega
  exact ⟨hlt, digit (0) (a1 + a2 * 32 + 996 * 131072) 32 rfl (by omega), digit (a0) (a2 + 996 * 4096) 1024 rfl (by omega), digit (a0 + a1 * 32) (996) 4194304 rfl (by omega), mask_to (M := 4290772992) (B := 4177526784) [(22, 10)] (by decide +kernel) (by simp only [maskOk, maskN]; decide) hlt (by decide) (field_oc (Q := 4194304) (P := 1024) (c := 996) rfl rfl (digit (a0 + a1 * 32 + a2 * 1024) (0) 4294967296 rfl (by omega)) (by omega))⟩
theorem again_17 (a0 a1 a2 : Nat) (l0 : a0 < 32) (l1 : a1 < 32) (l2 : a2 < 4096) : takeI 17 (putI 17 (fBase 17) (X_17 a0 a1 a2)) = (X_17 a0 a1 a2) ∧ andU (putI 17 (fBase 17) (X_17 a0 a1 a2)) (fMask 17) = fBase 17 ∧ ∃ W : Nat, W < 4294967296 ∧ putI 17 (fBase 17) (X_17 a0 a1 a2) = (W : Int) := by
  obtain ⟨S, hS⟩ : ∃ S, S = 4177526784 + a0 * 1 + a1 * 32 + a2 * 1024 := ⟨_, rfl⟩
  have h := word_17 a0 a1 a2 l0 l1 l2 S hS
  rw [put_17 a0 a1 a2 l0 l1 l2, ← hS]
  refine ⟨?_, h.2.2.2.2, S, h.1, rfl⟩
  rw [take_17 h.1, h.2.1, h.2.2.1, h.2.2.2.1]
def X_18 (a0 a1 a2 a3 : Nat) : InsnS := ⟨19, 0, ((a0 : Nat) : Int), ((a1 : Nat) : Int), ((a2 : Nat) : Int), 0, 0, 0, ((3 * (a3) : Nat) : Int), 0, 0, 0, false, false, false, false⟩
theorem put_18 (a0 a1 a2 a3 : Nat) (l0 : a0 < 32) (l1 : a1 < 32) (l2 : a2 < 32) (l3 : a3 < 2) : putI 18 (fBase 18) (X_18 a0 a1 a2 a3) = ((4167067648 + a0 * 1 + a1 * 32 + a2 * 65536 + a3 * 4096 : Nat) : Int) := by
  have s1 := stp 0 5 0 5 32 1 (by decide) (Vi := fBase 18) (V := 4167067648) rfl (nat_mod l0 (by decide)) (by omega)
  have s2 := stp 5 5 5 5 32 32 (by decide) s1 (nat_mod l1 (by decide)) (by omega)
  have s3 := stp 16 5 16 5 32 65536 (by decide) s2 (nat_mod l2 (by decide)) (by omega)
  have h4 : (quoS ((3 * a3 : Nat) : Int) 3 % 4294967296).toNat % 2 = a3 := by rw [quo3 a3 (by omega)]; exact nat_mod l3 (by decide)
  have s4 := stp 12 1 12 1 2 4096 (by decide) s3 h4 (by omega)
  exact s4
theorem take_18 {W : Nat} (hW : W < 4294967296) : takeI 18 (W : Int) = X_18 (W / 1 % 32) (W / 32 % 32) (W / 65536 % 32) (W / 4096 % 2) := by
  have e0 : bitsS (W : Int) 0 5 = ((W / 1 % 32 : Nat) : Int) := bof 0 5 0 5 32 1 (by decide) hW
  have e1 : bitsS (W : Int) 5 5 = ((W / 32 % 32 : Nat) : Int) := bof 5 5 5 5 32 32 (by decide) hW
  have e2 : bitsS (W : Int) 16 5 = ((W / 65536 % 32 : Nat) : Int) := bof 16 5 16 5 32 65536 (by decide) hW
  have e3 : mulS 3 (bitsS (W : Int) 12 1) = ((3 * (W / 4096 % 2) : Nat) : Int) := by
    rw [bof 12 1 12 1 2 4096 (by decide) hW]
    exact mul3 _ (Nat.lt_trans (Nat.mod_lt _ (by decide)) (by decide))
  show (⟨19, 0, bitsS (W : Int) 0 5, bitsS (W : Int) 5 5, bitsS (W : Int) 16 5, 0, 0, 0, mulS 3 (bitsS (W : Int) 12 1), 0, 0, 0, false, false, false, false⟩ : InsnS) = _
  rw [e0, e1, e2, e3]
  rfl
theorem fin_18 {W : Nat} (hW : W < 4294967296) (hm : W / 2097152 % 2048 * 2097152 + (W / 8192 % 8 * 8192 + W / 1024 % 4 * 1024) = 4167067648) : 4167067648 + W / 1 % 32 * 1 + W / 32 % 32 * 32 + W / 65536 % 32 * 65536 + W / 4096 % 2 * 4096 = W := by
  have d0 := div_step W 1 32 32 rfl
  have d1 := div_step W 32 32 1024 rfl
  have d2 := div_step W 1024 4 4096 rfl
  have d3 := div_step W 4096 2 8192 rfl
  have d4 := div_step W 8192 8 65536 rfl
  have d5 := div_step W 65536 32 2097152 rfl
  have d6 := div_step W 2097152 2048 4294967296 rfl
  have d99 : W / 4294967296 = 0 := Nat.div_eq_of_lt hW
  have d98 : W / 1 = W := Nat.div_one W
  generalize W / 1 % 32 = y0, W / 32 % 32 = y1, W / 1024 % 4 = y2, W / 4096 % 2 = y3, W / 8192 % 8 = y4, W / 65536 % 32 = y5, W / 2097152 % 2048 = y6 at *
  generalize W / 32 = q1, W / 1024 = q2, W / 4096 = q3, W / 8192 = q4, W / 65536 = q5, W / 2097152 = q6 at *
  generalize W / 4294967296 = q99 at *
  generalize W / 1 = q98 at *
  omega
theorem back1_18 {W : Nat} (hW : W < 4294967296) (h : andU (W : Int) (fMask 18) = fBase 18) : putI 18 (fBase 18) (takeI 18 W) = (W : Int) := by
  have hm := mask_at (M := 4292930560) (B := 4167067648) [(21, 11), (13, 3), (10, 2)] (by decide +kernel) (by simp only [maskOk, maskN]; decide) hW h (by decide)
  rw [field_step (Q := 2097152) (P := 2048) rfl rfl (field_step (Q := 8192) (P := 8) rfl rfl (field_one (Q := 1024) (P := 4) rfl rfl))] at hm
  rw [take_18 hW, put_18 _ _ _ _ (Nat.mod_lt _ (by decide)) (Nat.mod_lt _ (by decide)) (Nat.mod_lt _ (by decide)) (Nat.mod_lt _ (by decide)), fin_18 hW hm]
theorem word_18 (a0 a1 a2 a3 : Nat) (l0 : a0 < 32) (l1 : a1 < 32) (l2 : a2 < 32) (l3 : a3 < 2) (S : Nat) (hS : S = 4167067648 + a0 * 1 + a1 * 32 + a2 * 65536 + a3 * 4096) : S < 4294967296 ∧ S / 1 % 32 = a0 ∧ S / 32 % 32 = a1 ∧ S / 65536 % 32 = a2 ∧ S / 4096 % 2 = a3 ∧ andU (S : Int) (fMask 18) = fBase 18 := by
  have hlt : S < 4294967296 := by omega
  exact ⟨hlt, digit (0) (a1 + 2 * 32 + a3 * 128 + 3 * 256 + a2 * 2048 + 1987 * 65536) 32 rfl (by omega), digit (a0) (2 + a3 * 4 + 3 * 8 + a2 * 64 + 1987 * 2048) 1024 rfl (by omega), digit (a0 + a1 * 32 + 2 * 1024 + a3 * 4096 + 3 * 8192) (1987) 2097152 rfl (by omega), digit (a0 + a1 * 32 + 2 * 1024) (3 + a2 * 8 + 1987 * 256) 8192 rfl (by omega), mask_to (M := 4292930560) (B := 4167067648) [(21, 11), (13, 3), (10, 2)] (by decide +kernel) (by simp only [maskOk, maskN]; decide) hlt (by decide) (field_sc (Q := 2097152) (P := 2048) (c := 1987) (s := 26624) rfl rfl (digit (a0 + a1 * 32 + 2 * 1024 + a3 * 4096 + 3 * 8192 + a2 * 65536) (0) 4294967296 rfl (by omega)) (field_sc (Q := 8192) (P := 8) (c := 3) (s := 2048) rfl rfl (digit (a0 + a1 * 32 + 2 * 1024 + a3 * 4096) (a2 + 1987 * 32) 65536 rfl (by omega)) (field_oc (Q := 1024) (P := 4) (c := 2) rfl rfl (digit (a0 + a1 * 32) (a3 + 3 * 2 + a2 * 16 + 1987 * 512) 4096 rfl (by omega)) (by omega)) (by omega)) (by omega))⟩
theorem again_18 (a0 a1 a2 a3 : Nat) (l0 : a0 < 32) (l1 : a1 < 32) (l2 : a2 < 32) (l3 : a3 < 2) : takeI 18 (putI 18 (fBase 18) (X_18 a0 a1 a2 a3)) = (X_18 a0 a1 a2 a3) ∧ andU (putI 18 (fBase 18) (X_18 a0 a1 a2 a3)) (fMask 18) = fBase 18 ∧ ∃ W : Nat, W < 4294967296 ∧ putI 18 (fBase 18) (X_18 a0 a1 a2 a3) = (W : Int) := by
  obtain ⟨S, hS⟩ : ∃ S, S = 4167067648 + a0 * 1 + a1 * 32 + a2 * 65536 + a3 * 4096 := ⟨_, rfl⟩
  have h := word_18 a0 a1 a2 a3 l0 l1 l2 l3 S hS
  rw [put_18 a0 a1 a2 a3 l0 l1 l2 l3, ← hS]
  refine ⟨?_, h.2.2.2.2.2, S, h.1, rfl⟩
  rw [take_18 h.1, h.2.1, h.2.2.1, h.2.2.2.1, h.2.2.2.2.1]
def X_19 (a0 a1 a2 a3 : Nat) : InsnS := ⟨20, 0, ((a0 : Nat) : Int), ((a1 : Nat) : Int), ((a2 : Nat) : Int), 0, 0, 0, ((3 * (a3) : Nat) : Int), 0, 0, 0, false, false, false, false⟩
theorem put_19 (a0 a1 a2 a3 : Nat) (l0 : a0 < 32) (l1 : a1 < 32) (l2 : a2 < 32) (l3 : a3 < 2) : putI 19 (fBase 19) (X_19 a0 a1 a2 a3) = ((4162873344 + a0 * 1 + a1 * 32 + a2 * 65536 + a3 * 4096 : Nat) : Int) := by
  have s1 := stp 0 5 0 5 32 1 (by decide) (Vi := fBase 19) (V := 4162873344) rfl (nat_mod l0 (by decide)) (by omega)
  have s2 := stp 5 5 5 5 32 32 (by decide) s1 (nat_mod l1 (by decide)) (by omega)
  have s3 := stp 16 5 16 5 32 65536 (by decide) s2 (nat_mod l2 (by decide)) (by omega)
  have h4 : (quoS ((3 * a3 : Nat) : Int) 3 % 4294967296).toNat % 2 = a3 := by rw [quo3 a3 (by omega)]; exact nat_mod l3 (by decide)
  have s4 := stp 12 1 12 1 2 4096 (by decide) s3 h4 (by omega)
  exact s4
theorem take_19 {W : Nat} (hW : W < 4294967296) : takeI 19 (W : Int) = X_19 (W / 1 % 32) (W / 32 % 32) (W / 65536 % 32) (W / 4096 % 2) := by
  have e0 : bitsS (W : Int) 0 5 = ((W / 1 % 32 : Nat) : Int) := bof 0 5 0 5 32 1 (by decide) hW
  have e1 : bitsS (W : Int) 5 5 = ((W / 32 % 32 : Nat) : Int) := bof 5 5 5 5 32 32 (by decide) hW
  have e2 : bitsS (W : Int) 16 5 = ((W / 65536 % 32 : Nat) : Int) := bof 16 5 16 5 32 65536 (by decide) hW
  have e3 : mulS 3 (bitsS (W : Int) 12 1) = ((3 * (W / 4096 % 2) : Nat) : Int) := by
    rw [bof 12 1 12 1 2 4096 (by decide) hW]
    exact mul3 _ (Nat.lt_trans (Nat.mod_lt _ (by decide)) (by decide))
  show (⟨20, 0, bitsS (W : Int) 0 5, bitsS (W : Int) 5 5, bitsS (W : Int) 16 5, 0, 0, 0, mulS 3 (bitsS (W : Int) 12 1), 0, 0, 0, false, false, false, false⟩ : InsnS) = _
  rw [e0, e1, e2, e3]
  rfl
theorem fin_19 {W : Nat} (hW : W < 4294967296) (hm : W / 2097152 % 2048 * 2097152 + (W / 8192 % 8 * 8192 + W / 1024 % 4 * 1024) = 4162873344) : 4162873344 + W / 1 % 32 * 1 + W / 32 % 32 * 32 + W / 65536 % 32 * 65536 + W / 4096 % 2 * 4096 = W := by
  have d0 := div_step W 1 32 32 rfl
  have d1 := div_step W 32 32 1024 rfl
  have d2 := div_step W 1024 4 4096 rfl
  have d3 := div_step W 4096 2 8192 rfl
  have d4 := div_step W 8192 8 65536 rfl
  have d5 := div_step W 65536 32 2097152 rfl
  have d6 := div_step W 2097152 2048 4294967296 rfl
  have d99 : W / 4294967296 = 0 := Nat.div_eq_of_lt hW
  have d98 : W / 1 = W := Nat.div_one W
  generalize W / 1 % 32 = y0, W / 32 % 32 = y1, W / 1024 % 4 = y2, W / 4096 % 2 = y3, W / 8192 % 8 = y4, W / 65536 % 32 = y5, W / 2097152 % 2048 = y6 at *
  generalize W / 32 = q1, W / 1024 = q2, W / 4096 = q3, W / 8192 = q4, W / 65536 = q5, W / 2097152 = q6 at *
  generalize W / 4294967296 = q99 at *
  generalize W / 1 = q98 at *
  omega
theorem back1_19 {W : Nat} (hW : W < 4294967296) (h : andU (W : Int) (fMask 19) = fBase 19) : putI 19 (fBase 19) (takeI 19 W) = (W : Int) := by
  have hm := mask_at (M := 4292930560) (B := 4162873344) [(21, 11), (13, 3), (10, 2)] (by decide +kernel) (by simp only [maskOk, maskN]; decide) hW h (by decide)
  rw [field_step (Q := 2097152) (P := 2048) rfl rfl (field_step (Q := 8192) (P := 8) rfl rfl (field_one (Q := 1024) (P := 4) rfl rfl))] at hm
  rw [take_19 hW, put_19 _ _ _ _ (Nat.mod_lt _ (by decide)) (Nat.mod_lt _ (by decide)) (Nat.mod_lt _ (by decide)) (Nat.mod_lt _ (by decide)), fin_19 hW hm]
theorem word_19 (a0 a1 a2 a3 : Nat) (l0 : a0 < 32) (l1 : a1 < 32) (l2 : a2 < 32) (l3 : a3 < 2) (S : Nat) (hS : S = 4162873344 + a0 * 1 + a1 * 32 + a2 * 65536 + a3 * 4096) : S < 4294967296 ∧ S / 1 % 32 = a0 ∧ S / 32 % 32 = a1 ∧ S / 65536 % 32 = a2 ∧ S / 4096 % 2 = a3 ∧ andU (S : Int) (fMask 19) = fBase 19 := by
  have hlt : S < 4294967296 := by omega
  exact ⟨hlt, digit (0) (a1 + 2 * 32 + a3 * 128 + 3 * 256 + a2 * 2048 + 1985 * 65536) 32 rfl (by omega), digit (a0) (2 + a3 * 4 + 3 * 8 + a2 * 64 + 1985 * 2048) 1024 rfl (by omega), digit (a0 + a1 * 32 + 2 * 1024 + a3 * 4096 + 3 * 8192) (1985) 2097152 rfl (by omega), digit (a0 + a1 * 32 + 2 * 1024) (3 + a2 * 8 + 1985 * 256) 8192 rfl (by omega), mask_to (M := 4292930560) (B := 4162873344) [(21, 11), (13, 3), (10, 2)] (by decide +kernel) (by simp only [maskOk, maskN]; decide) hlt (by decide) (field_sc (Q := 2097152) (P := 2048) (c := 1985) (s := 26624) rfl rfl (digit (a0 + a1 * 32 + 2 * 1024 + a3 * 4096 + 3 * 8192 + a2 * 65536) (0) 4294967296 rfl (by omega)) (field_sc (Q := 8192) (P := 8) (c := 3) (s := 2048) rfl rfl (digit (a0 + a1 * 32 + 2 * 1024 + a3 * 4096) (a2 + 1985 * 32) 65536 rfl (by omega)) (field_oc (Q := 1024) (P := 4) (c := 2) rfl rfl (digit (a0 + a1 * 32) (a3 + 3 * 2 + a2 * 16 + 1985 * 512) 4096 rfl (by omega)) (by omega)) (by omega)) (by omega))⟩
theorem again_19 (a0 a1 a2 a3 : Nat) (l0 : a0 < 32) (l1 : a1 < 32) (l2 : a2 < 32) (l3 : a3 < 2) : takeI 19 (putI 19 (fBase 19) (X_19 a0 a1 a2 a3)) = (X_19 a0 a1 a2 a3) ∧ andU (putI 19 (fBase 19) (X_19 a0 a1 a2 a3)) (fMask 19) = fBase 19 ∧ ∃ W : Nat, W < 4294967296 ∧ putI 19 (fBase 19) (X_19 a0 a1 a2 a3) = (W : Int) := by
  obtain ⟨S, hS⟩ : ∃ S, S = 4162873344 + a0 * 1 + a1 * 32 + a2 * 65536 + a3 * 4096 := ⟨_, rfl⟩
  have h := word_19 a0 a1 a2 a3 l0 l1 l2 l3 S hS
  rw [put_19 a0 a1 a2 a3 l0 l1 l2 l3, ← hS]
  refine ⟨?_, h.2.2.2.2.2, S, h.1, rfl⟩
  rw [take_19 h.1, h.2.1, h.2.2.1, h.2.2.2.1, h.2.2.2.2.1]
def X_20 (a0 a1 : Nat) : InsnS := ⟨21, 0, ((a0 : Nat) : Int), ((a1 : Nat) : Int), 0, 0, 0, 0, 0, 0, 0, 0, false, false, false, false⟩
theorem put_20 (a0 a1 : Nat) (l0 : a0 < 32) (l1 : a1 < 32) : putI 20 (fBase 20) (X_20 a0 a1) = ((3370122240 + a0 * 1 + a1 * 32 : Nat) : Int) := by
  have s1 := stp 0 5 0 5 32 1 (by decide) (Vi := fBase 20) (V := 3370122240) rfl (nat_mod l0 (by decide)) (by omega)
  have s2 := stp 5 5 5 5 32 32 (by decide) s1 (nat_mod l1 (by decide)) (by omega)
  have s3 := layS_zero (n := 0) (ai := 16) (mi := 5) s2 (by omega) rfl
  exact s3
theorem take_20 {W : Nat} (hW : W < 4294967296) : takeI 20 (W : Int) = X_20 (W / 1 % 32) (W / 32 % 32) := by
  have e0 : bitsS (W : Int) 0 5 = ((W / 1 % 32 : Nat) : Int) := bof 0 5 0 5 32 1 (by decide) hW
  have e1 : bitsS (W : Int) 5 5 = ((W / 32 % 32 : Nat) : Int) := bof 5 5 5 5 32 32 (by decide) hW
  show (⟨21, 0, bitsS (W : Int) 0 5, bitsS (W : Int) 5 5, 0, 0, 0, 0, 0, 0, 0, 0, false, false, false, false⟩ : InsnS) = _
  rw [e0, e1]
  rfl
theorem fin_20 {W : Nat} (hW : W < 4294967296) (hm : W / 1024 % 4194304 * 1024 = 3370122240) : 3370122240 + W / 1 % 32 * 1 + W / 32 % 32 * 32 = W := by
  have d0 := div_step W 1 32 32 rfl
  have d1 := div_step W 32 32 1024 rfl
  have d2 := div_step W 1024 4194304 4294967296 rfl
  have d99 : W / 4294967296 = 0 := Nat.div_eq_of_lt hW
  have d98 : W / 1 = W := Nat.div_one W
  generalize W / 1 % 32 = y0, W / 32 % 32 = y1, W / 1024 % 4194304 = y2 at *
  generalize W / 32 = q1, W / 1024 = q2 at *
  generalize W / 4294967296 = q99 at *
  generalize W / 1 = q98 at *
  omega
theorem back1_20 {W : Nat} (hW : W < 4294967296) (h : andU (W : Int) (fMask 20) = fBase 20) : putI 20 (fBase 20) (takeI 20 W) = (W : Int) := by
  have hm := mask_at (M := 4294966272) (B := 3370122240) [(10, 22)] (by decide +kernel) (by simp only [maskOk, maskN]; decide) hW h (by decide)
  rw [field_one (Q := 1024) (P := 4194304) rfl rfl] at hm
  rw [take_20 hW, put_20 _ _ (Nat.mod_lt _ (by decide)) (Nat.mod_lt _ (by decide)), fin_20 hW hm]
theorem word_20 (a0 a1 : Nat) (l0 : a0 < 32) (l1 : a1 < 32) (S : Nat) (hS : S = 3370122240 + a0 * 1 + a1 * 32) : S < 4294967296 ∧ S / 1 % 32 = a0 ∧ S / 32 % 32 = a1 ∧ andU (S : Int) (fMask 20) = fBase 20 := by
  have hlt : S < 4294967296 := by omega
  exact ⟨hlt, digit (0) (a1 + 3291135 * 32) 32 rfl (by omega), digit (a0) (3291135) 1024 rfl (by omega), mask_to (M := 4294966272) (B := 3370122240) [(10, 22)] (by decide +kernel) (by simp only [maskOk, maskN]; decide) hlt (by decide) (field_oc (Q := 1024) (P := 4194304) (c := 3291135) rfl rfl (digit (a0 + a1 * 32) (0) 4294967296 rfl (by omega)) (by omega))⟩
theorem again_20 (a0 a1 : Nat) (l0 : a0 < 32) (l1 : a1 < 32) : takeI 20 (putI 20 (fBase 20) (X_20 a0 a1)) = (X_20 a0 a1) ∧ andU (putI 20 (fBase 20) (X_20 a0 a1)) (fMask 20) = fBase 20 ∧ ∃ W : Nat, W < 4294967296 ∧ putI 20 (fBase 20) (X_20 a0 a1) = (W : Int) := by
  obtain ⟨S, hS⟩ : ∃ S, S = 3370122240 + a0 * 1 + a1 * 32 := ⟨_, rfl⟩
  have h := word_20 a0 a1 l0 l1 S hS
  rw [put_20 a0 a1 l0 l1, ← hS]
  refine ⟨?_, h.2.2.2, S, h.1, rfl⟩
  rw [take_20 h.1, h.2.1, h.2.2.1]
def X_21 (a0 a1 : Nat) : InsnS := ⟨21, 1, ((a0 : Nat) : Int), ((a1 : Nat) : Int), 0, 0, 0, 0, 0, 0, 0, 0, false, false, false, false⟩
theorem put_21 (a0 a1 : Nat) (l0 : a0 < 32) (l1 : a1 < 32) : putI 21 (fBase 21) (X_21 a0 a1) = ((4173316096 + a0 * 1 + a1 * 32 : Nat) : Int) := by
  have s1 := stp 0 5 0 5 32 1 (by decide) (Vi := fBase 21) (V := 4173316096) rfl (nat_mod l0 (by decide)) (by omega)
  have s2 := stp 5 5 5 5 32 32 (by decide) s1 (nat_mod l1 (by decide)) (by omega)
  have s3 := layS_zero (n := 0) (ai := 16) (mi := 5) s2 (by omega) rfl
  exact s3
theorem take_21 {W : Nat} (hW : W < 4294967296) : takeI 21 (W : Int) = X_21 (W / 1 % 32) (W / 32 % 32) := by
  have e0 : bitsS (W : Int) 0 5 = ((W / 1 % 32 : Nat) : Int) := bof 0 5 0 5 32 1 (by decide) hW
  have e1 : bitsS (W : Int) 5 5 = ((W / 32 % 32 : Nat) : Int) := bof 5 5 5 5 32 32 (by decide) hW
  show (⟨21, 1, bitsS (W : Int) 0 5, bitsS (W : Int) 5 5, 0, 0, 0, 0, 0, 0, 0, 0, false, false, false, false⟩ : InsnS) = _
  rw [e0, e1]
  rfl
theorem fin_21 {W : Nat} (hW : W < 4294967296) (hm : W / 1024 % 4194304 * 1024 = 4173316096) : 4173316096 + W / 1 % 32 * 1 + W / 32 % 32 * 32 = W := by
  have d0 := div_step W 1 32 32 rfl
  have d1 := div_step W 32 32 1024 rfl
  have d2 := div_step W 1024 4194304 4294967296 rfl
  have d99 : W / 4294967296 = 0 := Nat.div_eq_of_lt hW
  have d98 : W / 1 = W := Nat.div_one W
  generalize W / 1 % 32 = y0, W / 32 % 32 = y1, W / 1024 % 4194304 = y2 at *
  generalize W / 32 = q1, W / 1024 = q2 at *
  generalize W / 4294967296 = q99 at *
  generalize W / 1 = q98 at *
  omega
theorem back1_21 {W : Nat} (hW : W < 4294967296) (h : andU (W : Int) (fMask 21) = fBase 21) : putI 21 (fBase 21) (takeI 21 W) = (W : Int) := by
  have hm := mask_at (M := 4294966272) (B := 4173316096) [(10, 22)] (by decide +kernel) (by simp only [maskOk, maskN]; decide) hW h (by decide)
  rw [field_one (Q := 1024) (P := 4194304) rfl rfl] at hm
  rw [take_21 hW, put_21 _ _ (Nat.mod_lt _ (by decide)) (Nat.mod_lt _ (by decide)), fin_21 hW hm]
theorem word_21 (a0 a1 : Nat) (l0 : a0 < 32) (l1 : a1 < 32) (S : Nat) (hS : S = 4173316096 + a0 * 1 + a1 * 32) : S < 4294967296 ∧ S / 1 % 32 = a0 ∧ S / 32 % 32 = a1 ∧ andU (S : Int) (fMask 21) = fBase 21 := by
  have hlt : S < 4294967296 := by omega
  exact ⟨hlt, digit (0) (a1 + 4075504 * 32) 32 rfl (by omega), digit (a0) (4075504) 1024 rfl (by omega), mask_to (M := 4294966272) (B := 4173316096) [(10, 22)] (by decide +kernel) (by simp only [maskOk, maskN]; decide) hlt (by decide) (field_oc (Q := 1024) (P := 4194304) (c := 4075504) rfl rfl (digit (a0 + a1 * 32) (0) 4294967296 rfl (by omega)) (by omega))⟩
theorem again_21 (a0 a1 : Nat) (l0 : a0 < 32) (l1 : a1 < 32) : takeI 21 (putI 21 (fBase 21) (X_21 a0 a1)) = (X_21 a0 a1) ∧ andU (putI 21 (fBase 21) (X_21 a0 a1)) (fMask 21) = fBase 21 ∧ ∃ W : Nat, W < 4294967296 ∧ putI 21 (fBase 21) (X_21 a0 a1) = (W : Int) := by
  obtain ⟨S, hS⟩ : ∃ S, S = 4173316096 + a0 * 1 + a1 * 32 := ⟨_, rfl⟩
  have h := word_21 a0 a1 l0 l1 S hS
  rw [put_21 a0 a1 l0 l1, ← hS]
  refine ⟨?_, h.2.2.2, S, h.1, rfl⟩
  rw [take_21 h.1, h.2.1, h.2.2.1]
def X_22 (a0 a1 : Nat) : InsnS := ⟨22, 0, ((a0 : Nat) : Int), ((a1 : Nat) : Int), 0, 0, 0, 0, 0, 0, 0, 0, false, false, false, false⟩
theorem put_22 (a0 a1 : Nat) (l0 : a0 < 32) (l1 : a1 < 32) : putI 22 (fBase 22) (X_22 a0 a1) = ((3365927936 + a0 * 1 + a1 * 32 : Nat) : Int) := by
  have s1 := stp 0 5 0 5 32 1 (by decide) (Vi := fBase 22) (V := 3365927936) rfl (nat_mod l0 (by decide)) (by omega)
  have s2 := stp 5 5 5 5 32 32 (by decide) s1 (nat_mod l1 (by decide)) (by omega)
  have s3 := layS_zero (n := 0) (ai := 16) (mi := 5) s2 (by omega) rfl
  exact s3
theorem take_22 {W : Nat} (hW : W < 4294967296) : takeI 22 (W : Int) = X_22 (W / 1 % 32) (W / 32 % 32) := by
  have e0 : bitsS (W : Int) 0 5 = ((W / 1 % 32 : Nat) : Int) := bof 0 5 0 5 32 1 (by decide) hW
  have e1 : bitsS (W : Int) 5 5 = ((W / 32 % 32 : Nat) : Int) := bof 5 5 5 5 32 32 (by decide) hW
  show (⟨22, 0, bitsS (W : Int) 0 5, bitsS (W : Int) 5 5, 0, 0, 0, 0, 0, 0, 0, 0, false, false, false, false⟩ : InsnS) = _
  rw [e0, e1]
  rfl
theorem fin_22 {W : Nat} (hW : W < 4294967296) (hm : W / 1024 % 4194304 * 1024 = 3365927936) : 3365927936 + W / 1 % 32 * 1 + W / 32 % 32 * 32 = W := by
  have d0 := div_step W 1 32 32 rfl
  have d1 := div_step W 32 32 1024 rfl
  have d2 := div_step W 1024 4194304 4294967296 rfl
  have d99 : W / 4294967296 = 0 := Nat.div_eq_of_lt hW
  have d98 : W / 1 = W := Nat.div_one W
  generalize W / 1 % 32 = y0, W / 32 % 32 = y1, W / 1024 % 4194304 = y2 at *
  generalize W / 32 = q1, W / 1024 = q2 at *
  generalize W / 4294967296 = q99 at *
  generalize W / 1 = q98 at *
  omega
theorem back1_22 {W : Nat} (hW : W < 4294967296) (h : andU (W : Int) (fMask 22) = fBase 22) : putI 22 (fBase 22) (takeI 22 W) = (W : Int) := by
  have hm := mask_at (M := 4294966272) (B := 3365927936) [(10, 22)] (by decide +kernel) (by simp only [maskOk, maskN]; decide) hW h (by decide)
  rw [field_one (Q := 1024) (P := 4194304) rfl rfl] at hm
  rw [take_22 hW, put_22 _ _ (Nat.mod_lt _ (by decide)) (Nat.mod_lt _ (by decide)), fin_22 hW hm]
theorem word_22 (a0 a1 : Nat) (l0 : a0 < 32) (l1 : a1 < 32) (S : Nat) (hS : S = 3365927936 + a0 * 1 + a1 * 32) : S < 4294967296 ∧ S / 1 % 32 = a0 ∧ S / 32 % 32 = a1 ∧ andU (S : Int) (fMask 22) = fBase 22 := by
  have hlt : S < 4294967296 := by omega
  exact ⟨hlt, digit (0) (a1 + 3287039 * 32) 32 rfl (by omega), digit (a0) (3287039) 1024 rfl (by omega), mask_to (M := 4294966272) (B := 3365927936) [(10, 22)] (by decide +kernel) (by simp only [maskOk, maskN]; decide) hlt (by decide) (field_oc (Q := 1024) (P := 4194304) (c := 3287039) rfl rfl (digit (a0 + a1 * 32) (0) 4294967296 rfl (by omega)) (by omega))⟩
theorem again_22 (a0 a1 : Nat) (l0 : a0 < 32) (l1 : a1 < 32) : takeI 22 (putI 22 (fBase 22) (X_22 a0 a1)) = (X_22 a0 a1) ∧ andU (putI 22 (fBase 22) (X_22 a0 a1)) (fMask 22) = fBase 22 ∧ ∃ W : Nat, W < 4294967296 ∧ putI 22 (fBase 22) (X_22 a0 a1) = (W : Int) := by
  obtain ⟨S, hS⟩ : ∃ S, S = 3365927936 + a0 * 1 + a1 * 32 := ⟨_, rfl⟩
  have h := word_22 a0 a1 l0 l1 S hS
  rw [put_22 a0 a1 l0 l1, ← hS]
  refine ⟨?_, h.2.2.2, S, h.1, rfl⟩
  rw [take_22 h.1, h.2.1, h.2.2.1]
def X_23 (a0 a1 a2 : Nat) : InsnS := ⟨23, ((a2 : Nat) : Int), ((a0 : Nat) : Int), ((a1 : Nat) : Int), 0, 0, 0, 0, 0, 0, 0, 0, false, false, false, false⟩
theorem put_23 (a0 a1 a2 : Nat) (l0 : a0 < 32) (l1 : a1 < 32) (l2 : a2 < 2) : putI 23 (fBase 23) (X_23 a0 a1 a2) = ((3361700864 + a0 * 1 + a1 * 32 + a2 * 32768 : Nat) : Int) := by
  have s1 := stp 0 5 0 5 32 1 (by decide) (Vi := fBase 23) (V := 3361700864) rfl (nat_mod l0 (by decide)) (by omega)
  have s2 := stp 5 5 5 5 32 32 (by decide) s1 (nat_mod l1 (by decide)) (by omega)
  have s3 := layS_zero (n := 0) (ai := 16) (mi := 5) s2 (by omega) rfl
  have s4 := stp 15 1 15 1 2 32768 (by decide) s3 (nat_mod l2 (by decide)) (by omega)
  exact s4
theorem take_23 {W : Nat} (hW : W < 4294967296) : takeI 23 (W : Int) = X_23 (W / 1 % 32) (W / 32 % 32) (W / 32768 % 2) := by
  have e0 : bitsS (W : Int) 0 5 = ((W / 1 % 32 : Nat) : Int) := bof 0 5 0 5 32 1 (by decide) hW
  have e1 : bitsS (W : Int) 5 5 = ((W / 32 % 32 : Nat) : Int) := bof 5 5 5 5 32 32 (by decide) hW
  have e2 : bitsS (W : Int) 15 1 = ((W / 32768 % 2 : Nat) : Int) := bof 15 1 15 1 2 32768 (by decide) hW
  show (⟨23, bitsS (W : Int) 15 1, bitsS (W : Int) 0 5, bitsS (W : Int) 5 5, 0, 0, 0, 0, 0, 0, 0, 0, false, false, false, false⟩ : InsnS) = _
  rw [e0, e1, e2]
  rfl
theorem fin_23 {W : Nat} (hW : W < 4294967296) (hm : W / 65536 % 65536 * 65536 + W / 1024 % 32 * 1024 = 3361700864) : 3361700864 + W / 1 % 32 * 1 + W / 32 % 32 * 32 + W / 32768 % 2 * 32768 = W := by
  have d0 := div_step W 1 32 32 rfl
  have d1 := div_step W 32 32 1024 rfl
  have d2 := div_step W 1024 32 32768 rfl
  have d3 := div_step W 32768 2 65536 rfl
  have d4 := div_step W 65536 65536 4294967296 rfl
  have d99 : W / 4294967296 = 0 := Nat.div_eq_of_lt hW
  have d98 : W / 1 = W := Nat.div_one W
  generalize W / 1 % 32 = y0, W / 32 % 32 = y1, W / 1024 % 32 = y2, W / 32768 % 2 = y3, W / 65536 % 65536 = y4 at *
  generalize W / 32 = q1, W / 1024 = q2, W / 32768 = q3, W / 65536 = q4 at *
  generalize W / 4294967296 = q99 at *
  generalize W / 1 = q98 at *
  omega
theorem back1_23 {W : Nat} (hW : W < 4294967296) (h : andU (W : Int) (fMask 23) = fBase 23) : putI 23 (fBase 23) (takeI 23 W) = (W : Int) := by
  have hm := mask_at (M := 4294933504) (B := 3361700864) [(16, 16), (10, 5)] (by decide +kernel) (by simp only [maskOk, maskN]; decide) hW h (by decide)
  rw [field_step (Q := 65536) (P := 65536) rfl rfl (field_one (Q := 1024) (P := 32) rfl rfl)] at hm
  rw [take_23 hW, put_23 _ _ _ (Nat.mod_lt _ (by decide)) (Nat.mod_lt _ (by decide)) (Nat.mod_lt _ (by decide)), fin_23 hW hm]
theorem word_23 (a0 a1 a2 : Nat) (l0 : a0 < 32) (l1 : a1 < 32) (l2 : a2 < 2) (S : Nat) (hS : S = 3361700864 + a0 * 1 + a1 * 32 + a2 * 32768) : S < 4294967296 ∧ S / 1 % 32 = a0 ∧ S / 32 % 32 = a1 ∧ S / 32768 % 2 = a2 ∧ andU (S : Int) (fMask 23) = fBase 23 := by
  have hlt : S < 4294967296 := by omega
  exact ⟨hlt, digit (0) (a1 + 31 * 32 + a2 * 1024 + 51295 * 2048) 32 rfl (by omega), digit (a0) (31 + a2 * 32 + 51295 * 64) 1024 rfl (by omega), digit (a0 + a1 * 32 + 31 * 1024) (51295) 65536 rfl (by omega), mask_to (M := 4294933504) (B := 3361700864) [(16, 16), (10, 5)] (by decide +kernel) (by simp only [maskOk, maskN]; decide) hlt (by decide) (field_sc (Q := 65536) (P := 65536) (c := 51295) (s := 31744) rfl rfl (digit (a0 + a1 * 32 + 31 * 1024 + a2 * 32768) (0) 4294967296 rfl (by omega)) (field_oc (Q := 1024) (P := 32) (c := 31) rfl rfl (digit (a0 + a1 * 32) (a2 + 51295 * 2) 32768 rfl (by omega)) (by omega)) (by omega))⟩
theorem again_23 (a0 a1 a2 : Nat) (l0 : a0 < 32) (l1 : a1 < 32) (l2 : a2 < 2) : takeI 23 (putI 23 (fBase 23) (X_23 a0 a1 a2)) = (X_23 a0 a1 a2) ∧ andU (putI 23 (fBase 23) (X_23 a0 a1 a2)) (fMask 23) = fBase 23 ∧ ∃ W : Nat, W < 4294967296 ∧ putI 23 (fBase 23) (X_23 a0 a1 a2) = (W : Int) := by
  obtain ⟨S, hS⟩ : ∃ S, S = 3361700864 + a0 * 1 + a1 * 32 + a2 * 32768 := ⟨_, rfl⟩
  have h := word_23 a0 a1 a2 l0 l1 l2 S hS
  rw [put_23 a0 a1 a2 l0 l1 l2, ← hS]
  refine ⟨?_, h.2.2.2.2, S, h.1, rfl⟩
  rw [take_23 h.1, h.2.1, h.2.2.1, h.2.2.2.1]
def X_24 (a0 a1 a2 a3 : Nat) : InsnS := ⟨24, ((a3 : Nat) : Int), ((a0 : Nat) : Int), ((a1 : Nat) : Int), ((a2 : Nat) : Int), 0, 0, 0, 0, 0, 0, 0, false, false, false, false⟩
theorem put_24 (a0 a1 a2 a3 : Nat) (l0 : a0 < 32) (l1 : a1 < 32) (l2 : a2 < 32) (l3 : a3 < 2) : putI 24 (fBase 24) (X_24 a0 a1 a2 a3) = ((3355474944 + a0 * 1 + a1 * 32 + a2 * 65536 + a3 * 32768 : Nat) : Int) := by
  have s1 := stp 0 5 0 5 32 1 (by decide) (Vi := fBase 24) (V := 3355474944) rfl (nat_mod l0 (by decide)) (by omega)
  have s2 := stp 5 5 5 5 32 32 (by decide) s1 (nat_mod l1 (by decide)) (by omega)
  have s3 := stp 16 5 16 5 32 65536 (by decide) s2 (nat_mod l2 (by decide)) (by omega)
  have s4 := stp 15 1 15 1 2 32768 (by decide) s3 (nat_mod l3 (by decide)) (by omega)
  exact s4
theorem take_24 {W : Nat} (hW : W < 4294967296) : takeI 24 (W : Int) = X_24 (W / 1 % 32) (W / 32 % 32) (W / 65536 % 32) (W / 32768 % 2) := by
  have e0 : bitsS (W : Int) 0 5 = ((W / 1 % 32 : Nat) : Int) := bof 0 5 0 5 32 1 (by decide) hW
  have e1 : bitsS (W : Int) 5 5 = ((W / 32 % 32 : Nat) : Int) := bof 5 5 5 5 32 32 (by decide) hW
  have e2 : bitsS (W : Int) 16 5 = ((W / 65536 % 32 : Nat) : Int) := bof 16 5 16 5 32 65536 (by decide) hW
  have e3 : bitsS (W : Int) 15 1 = ((W / 32768 % 2 : Nat) : Int) := bof 15 1 15 1 2 32768 (by decide) hW
  show (⟨24, bitsS (W : Int) 15 1, bitsS (W : Int) 0 5, bitsS (W : Int) 5 5, bitsS (W : Int) 16 5, 0, 0, 0, 0, 0, 0, 0, false, false, false, false⟩ : InsnS) = _
  rw [e0, e1, e2, e3]
  rfl
theorem fin_24 {W : Nat} (hW : W < 4294967296) (hm : W / 2097152 % 2048 * 2097152 + W / 1024 % 32 * 1024 = 3355474944) : 3355474944 + W / 1 % 32 * 1 + W / 32 % 32 * 32 + W / 65536 % 32 * 65536 + W / 32768 % 2 * 32768 = W := by
  have d0 := div_step W 1 32 32 rfl
  have d1 := div_step W 32 32 1024 rfl
  have d2 := div_step W 1024 32 32768 rfl
  have d3 := div_step W 32768 2 65536 rfl
  have d4 := div_step W 65536 32 2097152 rfl
  have d5 := div_step W 2097152 2048 4294967296 rfl
  have d99 : W / 4294967296 = 0 := Nat.div_eq_of_lt hW
  have d98 : W / 1 = W := Nat.div_one W
  generalize W / 1 % 32 = y0, W / 32 % 32 = y1, W / 1024 % 32 = y2, W / 32768 % 2 = y3, W / 65536 % 32 = y4, W / 2097152 % 2048 = y5 at *
  generalize W / 32 = q1, W / 1024 = q2, W / 32768 = q3, W / 65536 = q4, W / 2097152 = q5 at *
  generalize W / 4294967296 = q99 at *
  generalize W / 1 = q98 at *
  omega
theorem back1_24 {W : Nat} (hW : W < 4294967296) (h : andU (W : Int) (fMask 24) = fBase 24) : putI 24 (fBase 24) (takeI 24 W) = (W : Int) := by
  have hm := mask_at (M := 4292901888) (B := 3355474944) [(21, 11), (10, 5)] (by decide +kernel) (by simp only [maskOk, maskN]; decide) hW h (by decide)
  rw [field_step (Q := 2097152) (P := 2048) rfl rfl (field_one (Q := 1024) (P := 32) rfl rfl)] at hm
  rw [take_24 hW, put_24 _ _ _ _ (Nat.mod_lt _ (by decide)) (Nat.mod_lt _ (by decide)) (Nat.mod_lt _ (by decide)) (Nat.mod_lt _ (by decide)), fin_24 hW hm]
theorem word_24 (a0 a1 a2 a3 : Nat) (l0 : a0 < 32) (l1 : a1 < 32) (l2 : a2 < 32) (l3 : a3 < 2) (S : Nat) (hS : S = 3355474944 + a0 * 1 + a1 * 32 + a2 * 65536 + a3 * 32768) : S < 4294967296 ∧ S / 1 % 32 = a0 ∧ S / 32 % 32 = a1 ∧ S / 65536 % 32 = a2 ∧ S / 32768 % 2 = a3 ∧ andU (S : Int) (fMask 24) = fBase 24 := by
  have hlt : S < 4294967296 := by omega
  exact ⟨hlt, digit (0) (a1 + 31 * 32 + a3 * 1024 + a2 * 2048 + 1600 * 65536) 32 rfl (by omega), digit (a0) (31 + a3 * 32 + a2 * 64 + 1600 * 2048) 1024 rfl (by omega), digit (a0 + a1 * 32 + 31 * 1024 + a3 * 32768) (1600) 2097152 rfl (by omega), digit (a0 + a1 * 32 + 31 * 1024) (a2 + 1600 * 32) 65536 rfl (by omega), mask_to (M := 4292901888) (B := 3355474944) [(21, 11), (10, 5)] (by decide +kernel) (by simp only [maskOk, maskN]; decide) hlt (by decide) (field_sc (Q := 2097152) (P := 2048) (c := 1600) (s := 31744) rfl rfl (digit (a0 + a1 * 32 + 31 * 1024 + a3 * 32768 + a2 * 65536) (0) 4294967296 rfl (by omega)) (field_oc (Q := 1024) (P := 32) (c := 31) rfl rfl (digit (a0 + a1 * 32) (a3 + a2 * 2 + 1600 * 64) 32768 rfl (by omega)) (by omega)) (by omega))⟩
theorem again_24 (a0 a1 a2 a3 : Nat) (l0 : a0 < 32) (l1 : a1 < 32) (l2 : a2 < 32) (l3 : a3 < 2) : takeI 24 (putI 24 (fBase 24) (X_24 a0 a1 a2 a3)) = (X_24 a0 a1 a2 a3) ∧ andU (putI 24 (fBase 24) (X_24 a0 a1 a2 a3)) (fMask 24) = fBase 24 ∧ ∃ W : Nat, W < 4294967296 ∧ putI 24 (fBase 24) (X_24 a0 a1 a2 a3) = (W : Int) := by
  obtain ⟨S, hS⟩ : ∃ S, S = 3355474944 + a0 * 1 + a1 * 32 + a2 * 65536 + a3 * 32768 := ⟨_, rfl⟩
  have h := word_24 a0 a1 a2 a3 l0 l1 l2 l3 S hS
  rw [put_24 a0 a1 a2 a3 l0 l1 l2 l3, ← hS]
  refine ⟨?_, h.2.2.2.2.2, S, h.1, rfl⟩
  rw [take_24 h.1, h.2.1, h.2.2.1, h.2.2.2.1, h.2.2.2.2.1]
def X_25 : InsnS := ⟨25, 0, 0, 0, 0, 0, 0, 0, 0, 0, 0, 0, false, false, false, false⟩
theorem put_25 : putI 25 (fBase 25) (X_25) = ((3573759839 : Nat) : Int) := by
  have s1 := layS_zero (n := 0) (ai := 0) (mi := 5) (Vi := fBase 25) (V := 3573759839) rfl (by omega) rfl
  have s2 := layS_zero (n := 0) (ai := 5) (mi := 5) s1 (by omega) rfl
  have s3 := layS_zero (n := 0) (ai := 16) (mi := 5) s2 (by omega) rfl
  exact s3
theorem take_25 {W : Nat} (hW : W < 4294967296) : takeI 25 (W : Int) = X_25 := by
  show (⟨25, 0, 0, 0, 0, 0, 0, 0, 0, 0, 0, 0, false, false, false, false⟩ : InsnS) = _
  rfl
theorem fin_25 {W : Nat} (hW : W < 4294967296) (hm : W / 1 % 4294967296 * 1 = 3573759839) : 3573759839 = W := by
  have d0 := div_step W 1 4294967296 4294967296 rfl
  have d99 : W / 4294967296 = 0 := Nat.div_eq_of_lt hW
  have d98 : W / 1 = W := Nat.div_one W
  generalize W / 1 % 4294967296 = y0 at *
  generalize W / 4294967296 = q99 at *
  generalize W / 1 = q98 at *
  omega
theorem back1_25 {W : Nat} (hW : W < 4294967296) (h : andU (W : Int) (fMask 25) = fBase 25) : putI 25 (fBase 25) (takeI 25 W) = (W : Int) := by
  have hm := mask_at (M := 4294967295) (B := 3573759839) [(0, 32)] (by decide +kernel) (by simp only [maskOk, maskN]; decide) hW h (by decide)
  rw [field_one (Q := 1) (P := 4294967296) rfl rfl] at hm
  rw [take_25 hW, put_25, fin_25 hW hm]
theorem word_25 (S : Nat) (hS : S = 3573759839) : S < 4294967296 ∧ andU (S : Int) (fMask 25) = fBase 25 := by
  have hlt : S < 4294967296 := by omega
  exact ⟨hlt, mask_to (M := 4294967295) (B := 3573759839) [(0, 32)] (by decide +kernel) (by simp only [maskOk, maskN]; decide) hlt (by decide) (field_oc (Q := 1) (P := 4294967296) (c := 3573759839) rfl rfl (digit (0) (0) 4294967296 rfl (by omega)) (by omega))⟩
theorem again_25 : takeI 25 (putI 25 (fBase 25) (X_25)) = (X_25) ∧ andU (putI 25 (fBase 25) (X_25)) (fMask 25) = fBase 25 ∧ ∃ W : Nat, W < 4294967296 ∧ putI 25 (fBase 25) (X_25) = (W : Int) := by
  obtain ⟨S, hS⟩ : ∃ S, S = 3573759839 := ⟨_, rfl⟩
  have h := word_25 S hS
  rw [put_25, ← hS]
  refine ⟨?_, h.2, S, h.1, rfl⟩
  rw [take_25 h.1]
def X_26 (a0 : Nat) : InsnS := ⟨26, 0, 0, 0, 0, 0, ((a0 : Nat) : Int), 0, 0, 0, 0, 0, false, false, false, false⟩
theorem put_26 (a0 : Nat) (l0 : a0 < 4) : putI 26 (fBase 26) (X_26 a0) = ((3573759167 + a0 * 256 : Nat) : Int) := by
  have s1 := stp 8 2 8 2 4 256 (by decide) (Vi := fBase 26) (V := 3573759167) rfl (nat_mod l0 (by decide)) (by omega)
  exact s1
theorem take_26 {W : Nat} (hW : W < 4294967296) : takeI 26 (W : Int) = X_26 (W / 256 % 4) := by
  have e0 : bitsS (W : Int) 8 2 = ((W / 256 % 4 : Nat) : Int) := bof 8 2 8 2 4 256 (by decide) hW
  show (⟨26, 0, 0, 0, 0, 0, bitsS (W : Int) 8 2, 0, 0, 0, 0, 0, false, false, false, false⟩ : InsnS) = _
  rw [e0]
  rfl
theorem fin_26 {W : Nat} (hW : W < 4294967296) (hm : W / 1024 % 4194304 * 1024 + W / 1 % 256 * 1 = 3573759167) : 3573759167 + W / 256 % 4 * 256 = W := by
  have d0 := div_step W 1 256 256 rfl
  have d1 := div_step W 256 4 1024 rfl
  have d2 := div_step W 1024 4194304 4294967296 rfl
  have d99 : W / 4294967296 = 0 := Nat.div_eq_of_lt hW
  have d98 : W / 1 = W := Nat.div_one W
  generalize W / 1 % 256 = y0, W / 256 % 4 = y1, W / 1024 % 4194304 = y2 at *
  generalize W / 256 = q1, W / 1024 = q2 at *
  generalize W / 4294967296 = q99 at *
  generalize W / 1 = q98 at *
  omega
theorem back1_26 {W : Nat} (hW : W < 4294967296) (h : andU (W : Int) (fMask 26) = fBase 26) : putI 26 (fBase 26) (takeI 26 W) = (W : Int) := by
  have hm := mask_at (M := 4294966527) (B := 3573759167) [(10, 22), (0, 8)] (by decide +kernel) (by simp only [maskOk, maskN]; decide) hW h (by decide)
  rw [field_step (Q := 1024) (P := 4194304) rfl rfl (field_one (Q := 1) (P := 256) rfl rfl)] at hm
  rw [take_26 hW, put_26 _ (Nat.mod_lt _ (by decide)), fin_26 hW hm]
theorem word_26 (a0 : Nat) (l0 : a0 < 4) (S : Nat) (hS : S = 3573759167 + a0 * 256) : S < 4294967296 ∧ S / 256 % 4 = a0 ∧ andU (S : Int) (fMask 26) = fBase 26 := by
  have hlt : S < 4294967296 := by omega
  exact ⟨hlt, digit (191) (3489999) 1024 rfl (by omega), mask_to (M := 4294966527) (B := 3573759167) [(10, 22), (0, 8)] (by decide +kernel) (by simp only [maskOk, maskN]; decide) hlt (by decide) (field_sc (Q := 1024) (P := 4194304) (c := 3489999) (s := 191) rfl rfl (digit (191 + a0 * 256) (0) 4294967296 rfl (by omega)) (field_oc (Q := 1) (P := 256) (c := 191) rfl rfl (digit (0) (a0 + 3489999 * 4) 256 rfl (by omega)) (by omega)) (by omega))⟩
theorem again_26 (a0 : Nat) (l0 : a0 < 4) : takeI 26 (putI 26 (fBase 26) (X_26 a0)) = (X_26 a0) ∧ andU (putI 26 (fBase 26) (X_26 a0)) (fMask 26) = fBase 26 ∧ ∃ W : Nat, W < 4294967296 ∧ putI 26 (fBase 26) (X_26 a0) = (W : Int) := by
  obtain ⟨S, hS⟩ : ∃ S, S = 3573759167 + a0 * 256 := ⟨_, rfl⟩
  have h := word_26 a0 l0 S hS
  rw [put_26 a0 l0, ← hS]
  refine ⟨?_, h.2.2, S, h.1, rfl⟩
  rw [take_26 h.1, h.2.1]
def X_27 (a0 : Nat) : InsnS := ⟨26, 1, 0, 0, 0, 0, ((a0 : Nat) : Int), 0, 0, 0, 0, 0, false, false, false, false⟩
theorem put_27 (a0 : Nat) (l0 : a0 < 4) : putI 27 (fBase 27) (X_27 a0) = ((3573759135 + a0 * 256 : Nat) : Int) := by
  have s1 := stp 8 2 8 2 4 256 (by decide) (Vi := fBase 27) (V := 3573759135) rfl (nat_mod l0 (by decide)) (by omega)
  exact s1
theorem take_27 {W : Nat} (hW : W < 4294967296) : takeI 27 (W : Int) = X_27 (W / 256 % 4) := by
  have e0 : bitsS (W : Int) 8 2 = ((W / 256 % 4 : Nat) : Int) := bof 8 2 8 2 4 256 (by decide) hW
  show (⟨26, 1, 0, 0, 0, 0, bitsS (W : Int) 8 2, 0, 0, 0, 0, 0, false, false, false, false⟩ : InsnS) = _
  rw [e0]
  rfl
theorem fin_27 {W : Nat} (hW : W < 4294967296) (hm : W / 1024 % 4194304 * 1024 + W / 1 % 256 * 1 = 3573759135) : 3573759135 + W / 256 % 4 * 256 = W := by
  have d0 := div_step W 1 256 256 rfl
  have d1 := div_step W 256 4 1024 rfl
  have d2 := div_step W 1024 4194304 4294967296 rfl
  have d99 : W / 4294967296 = 0 := Nat.div_eq_of_lt hW
  have d98 : W / 1 = W := Nat.div_one W
  generalize W / 1 % 256 = y0, W / 256 % 4 = y1, W / 1024 % 4194304 = y2 at *
  generalize W / 256 = q1, W / 1024 = q2 at *
  generalize W / 4294967296 = q99 at *
  generalize W / 1 = q98 at *
  omega
theorem back1_27 {W : Nat} (hW : W < 4294967296) (h : andU (W : Int) (fMask 27) = fBase 27) : putI 27 (fBase 27) (takeI 27 W) = (W : Int) := by
  have hm := mask_at (M := 4294966527) (B := 3573759135) [(10, 22), (0, 8)] (by decide +kernel) (by simp only [maskOk, maskN]; decide) hW h (by decide)
  rw [field_step (Q := 1024) (P := 4194304) rfl rfl (field_one (Q := 1) (P := 256) rfl rfl)] at hm
  rw [take_27 hW, put_27 _ (Nat.mod_lt _ (by decide)), fin_27 hW hm]
theorem word_27 (a0 : Nat) (l0 : a0 < 4) (S : Nat) (hS : S = 3573759135 + a0 * 256) : S < 4294967296 ∧ S / 256 % 4 = a0 ∧ andU (S : Int) (fMask 27) = fBase 27 := by
  have hlt : S < 4294967296 := by omega
  exact ⟨hlt, digit (159) (3489999) 1024 rfl (by omega), mask_to (M := 4294966527) (B := 3573759135) [(10, 22), (0, 8)] (by decide +kernel) (by simp only [maskOk, maskN]; decide) hlt (by decide) (field_sc (Q := 1024) (P := 4194304) (c := 3489999) (s := 159) rfl rfl (digit (159 + a0 * 256) (0) 4294967296 rfl (by omega)) (field_oc (Q := 1) (P := 256) (c := 159) rfl rfl (digit (0) (a0 + 3489999 * 4) 256 rfl (by omega)) (by omega)) (by omega))⟩
theorem again_27 (a0 : Nat) (l0 : a0 < 4) : takeI 27 (putI 27 (fBase 27) (X_27 a0)) = (X_27 a0) ∧ andU (putI 27 (fBase 27) (X_27 a0)) (fMask 27) = fBase 27 ∧ ∃ W : Nat, W < 4294967296 ∧ putI 27 (fBase 27) (X_27 a0) = (W : Int) := by
  obtain ⟨S, hS⟩ : ∃ S, S = 3573759135 + a0 * 256 := ⟨_, rfl⟩
  have h := word_27 a0 l0 S hS
  rw [put_27 a0 l0, ← hS]
  refine ⟨?_, h.2.2, S, h.1, rfl⟩
  rw [take_27 h.1, h.2.1]
def X_28 : InsnS := ⟨27, 0, 0, 0, 0, 0, 0, 0, 0, 0, 0, 0, false, false, false, false⟩
theorem put_28 : putI 28 (fBase 28) (X_28) = ((3573759967 : Nat) : Int) := by
  have s1 := layS_zero (n := 0) (ai := 0) (mi := 5) (Vi := fBase 28) (V := 3573759967) rfl (by omega) rfl
  have s2 := layS_zero (n := 0) (ai := 5) (mi := 5) s1 (by omega) rfl
  have s3 := layS_zero (n := 0) (ai := 16) (mi := 5) s2 (by omega) rfl
  exact s3
theorem take_28 {W : Nat} (hW : W < 4294967296) : takeI 28 (W : Int) = X_28 := by
  show (⟨27, 0, 0, 0, 0, 0, 0, 0, 0, 0, 0, 0, false, false, false, false⟩ : InsnS) = _
  rfl
theorem fin_28 {W : Nat} (hW : W < 4294967296) (hm : W / 1 % 4294967296 * 1 = 3573759967) : 3573759967 = W := by
  have d0 := div_step W 1 4294967296 4294967296 rfl
  have d99 : W / 4294967296 = 0 := Nat.div_eq_of_lt hW
  have d98 : W / 1 = W := Nat.div_one W
  generalize W / 1 % 4294967296 = y0 at *
  generalize W / 4294967296 = q99 at *
  generalize W / 1 = q98 at *
  omega
theorem back1_28 {W : Nat} (hW : W < 4294967296) (h : andU (W : Int) (fMask 28) = fBase 28) : putI 28 (fBase 28) (takeI 28 W) = (W : Int) := by
  have hm := mask_at (M := 4294967295) (B := 3573759967) [(0, 32)] (by decide +kernel) (by simp only [maskOk, maskN]; decide) hW h (by decide)
  rw [field_one (Q := 1) (P := 4294967296) rfl rfl] at hm
  rw [take_28 hW, put_28, fin_28 hW hm]
theorem word_28 (S : Nat) (hS : S = 3573759967) : S < 4294967296 ∧ andU (S : Int) (fMask 28) = fBase 28 := by
  have hlt : S < 4294967296 := by omega
  exact ⟨hlt, mask_to (M := 4294967295) (B := 3573759967) [(0, 32)] (by decide +kernel) (by simp only [maskOk, maskN]; decide) hlt (by decide) (field_oc (Q := 1) (P := 4294967296) (c := 3573759967) rfl rfl (digit (0) (0) 4294967296 rfl (by omega)) (by omega))⟩
theorem again_28 : takeI 28 (putI 28 (fBase 28) (X_28)) = (X_28) ∧ andU (putI 28 (fBase 28) (X_28)) (fMask 28) = fBase 28 ∧ ∃ W : Nat, W < 4294967296 ∧ putI 28 (fBase 28) (X_28) = (W : Int) := by
  obtain ⟨S, hS⟩ : ∃ S, S = 3573759967 := ⟨_, rfl⟩
  have h := word_28 S hS
  rw [put_28, ← hS]
  refine ⟨?_, h.2, S, h.1, rfl⟩
  rw [take_28 h.1]
def X_29 (a0 : Nat) : InsnS := ⟨28, 0, ((a0 : Nat) : Int), 0, 0, 0, 0, 0, 0, 0, 0, 0, false, false, false, false⟩
theorem put_29 (a0 : Nat) (l0 : a0 < 32) : putI 29 (fBase 29) (X_29 a0) = ((3574297888 + a0 * 1 : Nat) : Int) := by
  have s1 := stp 0 5 0 5 32 1 (by decide) (Vi := fBase 29) (V := 3574297888) rfl (nat_mod l0 (by decide)) (by omega)
  have s2 := layS_zero (n := 0) (ai := 5) (mi := 5) s1 (by omega) rfl
  have s3 := layS_zero (n := 0) (ai := 16) (mi := 5) s2 (by omega) rfl
  exact s3
theorem take_29 {W : Nat} (hW : W < 4294967296) : takeI 29 (W : Int) = X_29 (W / 1 % 32) := by
  have e0 : bitsS (W : Int) 0 5 = ((W / 1 % 32 : Nat) : Int) := bof 0 5 0 5 32 1 (by decide) hW
  show (⟨28, 0, bitsS (W : Int) 0 5, 0, 0, 0, 0, 0, 0, 0, 0, 0, false, false, false, false⟩ : InsnS) = _
  rw [e0]
  rfl
theorem fin_29 {W : Nat} (hW : W < 4294967296) (hm : W / 32 % 134217728 * 32 = 3574297888) : 3574297888 + W / 1 % 32 * 1 = W := by
  have d0 := div_step W 1 32 32 rfl
  have d1 := div_step W 32 134217728 4294967296 rfl
  have d99 : W / 4294967296 = 0 := Nat.div_eq_of_lt hW
  have d98 : W / 1 = W := Nat.div_one W
  generalize W / 1 % 32 = y0, W / 32 % 134217728 = y1 at *
  generalize W / 32 = q1 at *
  generalize W / 4294967296 = q99 at *
  generalize W / 1 = q98 at *
  omega
theorem back1_29 {W : Nat} (hW : W < 4294967296) (h : andU (W : Int) (fMask 29) = fBase 29) : putI 29 (fBase 29) (takeI 29 W) = (W : Int) := by
  have hm := mask_at (M := 4294967264) (B := 3574297888) [(5, 27)] (by decide +kernel) (by simp only [maskOk, maskN]; decide) hW h (by decide)
  rw [field_one (Q := 32) (P := 134217728) rfl rfl] at hm
  rw [take_29 hW, put_29 _ (Nat.mod_lt _ (by decide)), fin_29 hW hm]
theorem word_29 (a0 : Nat) (l0 : a0 < 32) (S : Nat) (hS : S = 3574297888 + a0 * 1) : S < 4294967296 ∧ S / 1 % 32 = a0 ∧ andU (S : Int) (fMask 29) = fBase 29 := by
  have hlt : S < 4294967296 := by omega
  exact ⟨hlt, digit (0) (111696809) 32 rfl (by omega), mask_to (M := 4294967264) (B := 3574297888) [(5, 27)] (by decide +kernel) (by simp only [maskOk, maskN]; decide) hlt (by decide) (field_oc (Q := 32) (P := 134217728) (c := 111696809) rfl rfl (digit (a0) (0) 4294967296 rfl (by omega)) (by omega))⟩
theorem again_29 (a0 : Nat) (l0 : a0 < 32) : takeI 29 (putI 29 (fBase 29) (X_29 a0)) = (X_29 a0) ∧ andU (putI 29 (fBase 29) (X_29 a0)) (fMask 29) = fBase 29 ∧ ∃ W : Nat, W < 4294967296 ∧ putI 29 (fBase 29) (X_29 a0) = (W : Int) := by
  obtain ⟨S, hS⟩ : ∃ S, S = 3574297888 + a0 * 1 := ⟨_, rfl⟩
  have h := word_29 a0 l0 S hS
  rw [put_29 a0 l0, ← hS]
  refine ⟨?_, h.2.2, S, h.1, rfl⟩
  rw [take_29 h.1, h.2.1]
def X_30 (a0 : Nat) : InsnS := ⟨30, 0, ((a0 : Nat) : Int), 0, 0, 0, 0, 0, 0, 0, 0, 0, false, false, false, false⟩
theorem put_30 (a0 : Nat) (l0 : a0 < 32) : putI 30 (fBase 30) (X_30 a0) = ((3574299424 + a0 * 1 : Nat) : Int) := by
  have s1 := stp 0 5 0 5 32 1 (by decide) (Vi := fBase 30) (V := 3574299424) rfl (nat_mod l0 (by decide)) (by omega)
  have s2 := layS_zero (n := 0) (ai := 5) (mi := 5) s1 (by omega) rfl
  have s3 := layS_zero (n := 0) (ai := 16) (mi := 5) s2 (by omega) rfl
  exact s3
theorem take_30 {W : Nat} (hW : W < 4294967296) : takeI 30 (W : Int) = X_30 (W / 1 % 32) := by
  have e0 : bitsS (W : Int) 0 5 = ((W / 1 % 32 : Nat) : Int) := bof 0 5 0 5 32 1 (by decide) hW
  show (⟨30, 0, bitsS (W : Int) 0 5, 0, 0, 0, 0, 0, 0, 0, 0, 0, false, false, false, false⟩ : InsnS) = _
  rw [e0]
  rfl
theorem fin_30 {W : Nat} (hW : W < 4294967296) (hm : W / 32 % 134217728 * 32 = 3574299424) : 3574299424 + W / 1 % 32 * 1 = W := by
  have d0 := div_step W 1 32 32 rfl
  have d1 := div_step W 32 134217728 4294967296 rfl
  have d99 : W / 4294967296 = 0 := Nat.div_eq_of_lt hW
  have d98 : W / 1 = W := Nat.div_one W
  generalize W / 1 % 32 = y0, W / 32 % 134217728 = y1 at *
  generalize W / 32 = q1 at *
  generalize W / 4294967296 = q99 at *
  generalize W / 1 = q98 at *
  omega
theorem back1_30 {W : Nat} (hW : W < 4294967296) (h : andU (W : Int) (fMask 30) = fBase 30) : putI 30 (fBase 30) (takeI 30 W) = (W : Int) := by
  have hm := mask_at (M := 4294967264) (B := 3574299424) [(5, 27)] (by decide +kernel) (by simp only [maskOk, maskN]; decide) hW h (by decide)
  rw [field_one (Q := 32) (P := 134217728) rfl rfl] at hm
  rw [take_30 hW, put_30 _ (Nat.mod_lt _ (by decide)), fin_30 hW hm]
theorem word_30 (a0 : Nat) (l0 : a0 < 32) (S : Nat) (hS : S = 3574299424 + a0 * 1) : S < 4294967296 ∧ S / 1 % 32 = a0 ∧ andU (S : Int) (fMask 30) = fBase 30 := by
  have hlt : S < 4294967296 := by omega
  exact ⟨hlt, digit (0) (111696857) 32 rfl (by omega), mask_to (M := 4294967264) (B := 3574299424) [(5, 27)] (by decide +kernel) (by simp only [maskOk, maskN]; decide) hlt (by decide) (field_oc (Q := 32) (P := 134217728) (c := 111696857) rfl rfl (digit (a0) (0) 4294967296 rfl (by omega)) (by omega))⟩
theorem again_30 (a0 : Nat) (l0 : a0 < 32) : takeI 30 (putI 30 (fBase 30) (X_30 a0)) = (X_30 a0) ∧ andU (putI 30 (fBase 30) (X_30 a0)) (fMask 30) = fBase 30 ∧ ∃ W : Nat, W < 4294967296 ∧ putI 30 (fBase 30) (X_30 a0) = (W : Int) := by
  obtain ⟨S, hS⟩ : ∃ S, S = 3574299424 + a0 * 1 := ⟨_, rfl⟩
  have h := word_30 a0 l0 S hS
  rw [put_30 a0 l0, ← hS]
  refine ⟨?_, h.2.2, S, h.1, rfl⟩
  rw [take_30 h.1, h.2.1]
def X_31 : InsnS := ⟨29, 0, 0, 0, 0, 0, 0, 0, 0, 0, 0, 0, false, false, false, false⟩
theorem put_31 : putI 31 (fBase 31) (X_31) = ((3574101279 : Nat) : Int) := by
  have s1 := layS_zero (n := 0) (ai := 0) (mi := 5) (Vi := fBase 31) (V := 3574101279) rfl (by omega) rfl
  have s2 := layS_zero (n := 0) (ai := 5) (mi := 5) s1 (by omega) rfl
  have s3 := layS_zero (n := 0) (ai := 16) (mi := 5) s2 (by omega) rfl
  exact s3
theorem take_31 {W : Nat} (hW : W < 4294967296) : takeI 31 (W : Int) = X_31 := by
  show (⟨29, 0, 0, 0, 0, 0, 0, 0, 0, 0, 0, 0, false, false, false, false⟩ : InsnS) = _
  rfl
theorem fin_31 {W : Nat} (hW : W < 4294967296) (hm : W / 1 % 4294967296 * 1 = 3574101279) : 3574101279 = W := by
  have d0 := div_step W 1 4294967296 4294967296 rfl
  have d99 : W / 4294967296 = 0 := Nat.div_eq_of_lt hW
  have d98 : W / 1 = W := Nat.div_one W
  generalize W / 1 % 4294967296 = y0 at *
  generalize W / 4294967296 = q99 at *
  generalize W / 1 = q98 at *
  omega
theorem back1_31 {W : Nat} (hW : W < 4294967296) (h : andU (W : Int) (fMask 31) = fBase 31) : putI 31 (fBase 31) (takeI 31 W) = (W : Int) := by
  have hm := mask_at (M := 4294967295) (B := 3574101279) [(0, 32)] (by decide +kernel) (by simp only [maskOk, maskN]; decide) hW h (by decide)
  rw [field_one (Q := 1) (P := 4294967296) rfl rfl] at hm
  rw [take_31 hW, put_31, fin_31 hW hm]
theorem word_31 (S : Nat) (hS : S = 3574101279) : S < 4294967296 ∧ andU (S : Int) (fMask 31) = fBase 31 := by
  have hlt : S < 4294967296 := by omega
  exact ⟨hlt, mask_to (M := 4294967295) (B := 3574101279) [(0, 32)] (by decide +kernel) (by simp only [maskOk, maskN]; decide) hlt (by decide) (field_oc (Q := 1) (P := 4294967296) (c := 3574101279) rfl rfl (digit (0) (0) 4294967296 rfl (by omega)) (by omega))⟩
theorem again_31 : takeI 31 (putI 31 (fBase 31) (X_31)) = (X_31) ∧ andU (putI 31 (fBase 31) (X_31)) (fMask 31) = fBase 31 ∧ ∃ W : Nat, W < 4294967296 ∧ putI 31 (fBase 31) (X_31) = (W : Int) := by
  obtain ⟨S, hS⟩ : ∃ S, S = 3574101279 := ⟨_, rfl⟩
  have h := word_31 S hS
  rw [put_31, ← hS]
  refine ⟨?_, h.2, S, h.1, rfl⟩
  rw [take_31 h.1]
def X_32 (a0 a1 : Nat) : InsnS := ⟨31, 0, ((a0 : Nat) : Int), 0, 0, 0, 0, 0, 0, 0, 0, ((a1 : Nat) : Int), false, false, false, false⟩
theorem put_32 (a0 a1 : Nat) (l0 : a0 < 32) (l1 : a1 < 32768) : putI 32 (fBase 32) (X_32 a0 a1) = ((3576692736 + a0 * 1 + a1 * 32 : Nat) : Int) := by
  have s1 := stp 0 5 0 5 32 1 (by decide) (Vi := fBase 32) (V := 3576692736) rfl (nat_mod l0 (by decide)) (by omega)
  have s2 := stp 5 15 5 15 32768 32 (by decide) s1 (nat_mod l1 (by decide)) (by omega)
  exact s2
theorem take_32 {W : Nat} (hW : W < 4294967296) : takeI 32 (W : Int) = X_32 (W / 1 % 32) (W / 32 % 32768) := by
  have e0 : bitsS (W : Int) 0 5 = ((W / 1 % 32 : Nat) : Int) := bof 0 5 0 5 32 1 (by decide) hW
  have e1 : bitsS (W : Int) 5 15 = ((W / 32 % 32768 : Nat) : Int) := bof 5 15 5 15 32768 32 (by decide) hW
  show (⟨31, 0, bitsS (W : Int) 0 5, 0, 0, 0, 0, 0, 0, 0, 0, bitsS (W : Int) 5 15, false, false, false, false⟩ : InsnS) = _
  rw [e0, e1]
  rfl
theorem fin_32 {W : Nat} (hW : W < 4294967296) (hm : W / 1048576 % 4096 * 1048576 = 3576692736) : 3576692736 + W / 1 % 32 * 1 + W / 32 % 32768 * 32 = W := by
  have d0 := div_step W 1 32 32 rfl
  have d1 := div_step W 32 32768 1048576 rfl
  have d2 := div_step W 1048576 4096 4294967296 rfl
  have d99 : W / 4294967296 = 0 := Nat.div_eq_of_lt hW
  have d98 : W / 1 = W := Nat.div_one W
  generalize W / 1 % 32 = y0, W / 32 % 32768 = y1, W / 1048576 % 4096 = y2 at *
  generalize W / 32 = q1, W / 1048576 = q2 at *
  generalize W / 4294967296 = q99 at *
  generalize W / 1 = q98 at *
  omega
theorem back1_32 {W : Nat} (hW : W < 4294967296) (h : andU (W : Int) (fMask 32) = fBase 32) : putI 32 (fBase 32) (takeI 32 W) = (W : Int) := by
  have hm := mask_at (M := 4293918720) (B := 3576692736) [(20, 12)] (by decide +kernel) (by simp only [maskOk, maskN]; decide) hW h (by decide)
  rw [field_one (Q := 1048576) (P := 4096) rfl rfl] at hm
  rw [take_32 hW, put_32 _ _ (Nat.mod_lt _ (by decide)) (Nat.mod_lt _ (by decide)), fin_32 hW hm]
theorem word_32 (a0 a1 : Nat) (l0 : a0 < 32) (l1 : a1 < 32768) (S : Nat) (hS : S = 3576692736 + a0 * 1 + a1 * 32) : S < 4294967296 ∧ S / 1 % 32 = a0 ∧ S / 32 % 32768 = a1 ∧ andU (S : Int) (fMask 32) = fBase 32 := by
  have hlt : S < 4294967296 := by omega
  exact ⟨hlt, digit (0) (a1 + 3411 * 32768) 32 rfl (by omega), digit (a0) (3411) 1048576 rfl (by omega), mask_to (M := 4293918720) (B := 3576692736) [(20, 12)] (by decide +kernel) (by simp only [maskOk, maskN]; decide) hlt (by decide) (field_oc (Q := 1048576) (P := 4096) (c := 3411) rfl rfl (digit (a0 + a1 * 32) (0) 4294967296 rfl (by omega)) (by omega))⟩
theorem again_32 (a0 a1 : Nat) (l0 : a0 < 32) (l1 : a1 < 32768) : takeI 32 (putI 32 (fBase 32) (X_32 a0 a1)) = (X_32 a0 a1) ∧ andU (putI 32 (fBase 32) (X_32 a0 a1)) (fMask 32) = fBase 32 ∧ ∃ W : Nat, W < 4294967296 ∧ putI 32 (fBase 32) (X_32 a0 a1) = (W : Int) := by
  obtain ⟨S, hS⟩ : ∃ S, S = 3576692736 + a0 * 1 + a1 * 32 := ⟨_, rfl⟩
  have h := word_32 a0 a1 l0 l1 S hS
  rw [put_32 a0 a1 l0 l1, ← hS]
  refine ⟨?_, h.2.2.2, S, h.1, rfl⟩
  rw [take_32 h.1, h.2.1, h.2.2.1]
def X_33 (a0 a1 : Nat) : InsnS := ⟨32, 0, ((a0 : Nat) : Int), 0, 0, 0, 0, 0, 0, 0, 0, ((a1 : Nat) : Int), false, false, false, false⟩
theorem put_33 (a0 a1 : Nat) (l0 : a0 < 32) (l1 : a1 < 32768) : putI 33 (fBase 33) (X_33 a0 a1) = ((3574595584 + a0 * 1 + a1 * 32 : Nat) : Int) := by
  have s1 := stp 0 5 0 5 32 1 (by decide) (Vi := fBase 33) (V := 3574595584) rfl (nat_mod l0 (by decide)) (by omega)
  have s2 := stp 5 15 5 15 32768 32 (by decide) s1 (nat_mod l1 (by decide)) (by omega)
  exact s2
theorem take_33 {W : Nat} (hW : W < 4294967296) : takeI 33 (W : Int) = X_33 (W / 1 % 32) (W / 32 % 32768) := by
  have e0 : bitsS (W : Int) 0 5 = ((W / 1 % 32 : Nat) : Int) := bof 0 5 0 5 32 1 (by decide) hW
  have e1 : bitsS (W : Int) 5 15 = ((W / 32 % 32768 : Nat) : Int) := bof 5 15 5 15 32768 32 (by decide) hW
  show (⟨32, 0, bitsS (W : Int) 0 5, 0, 0, 0, 0, 0, 0, 0, 0, bitsS (W : Int) 5 15, false, false, false, false⟩ : InsnS) = _
  rw [e0, e1]
  rfl
theorem fin_33 {W : Nat} (hW : W < 4294967296) (hm : W / 1048576 % 4096 * 1048576 = 3574595584) : 3574595584 + W / 1 % 32 * 1 + W / 32 % 32768 * 32 = W := by
  have d0 := div_step W 1 32 32 rfl
  have d1 := div_step W 32 32768 1048576 rfl
  have d2 := div_step W 1048576 4096 4294967296 rfl
  have d99 : W / 4294967296 = 0 := Nat.div_eq_of_lt hW
  have d98 : W / 1 = W := Nat.div_one W
  generalize W / 1 % 32 = y0, W / 32 % 32768 = y1, W / 1048576 % 4096 = y2 at *
  generalize W / 32 = q1, W / 1048576 = q2 at *
  generalize W / 4294967296 = q99 at *
  generalize W / 1 = q98 at *
  omega
theorem back1_33 {W : Nat} (hW : W < 4294967296) (h : andU (W : Int) (fMask 33) = fBase 33) : putI 33 (fBase 33) (takeI 33 W) = (W : Int) := by
  have hm := mask_at (M := 4293918720) (B := 3574595584) [(20, 12)] (by decide +kernel) (by simp only [maskOk, maskN]; decide) hW h (by decide)
  rw [field_one (Q := 1048576) (P := 4096) rfl rfl] at hm
  rw [take_33 hW, put_33 _ _ (Nat.mod_lt _ (by decide)) (Nat.mod_lt _ (by decide)), fin_33 hW hm]
theorem word_33 (a0 a1 : Nat) (l0 : a0 < 32) (l1 : a1 < 32768) (S : Nat) (hS : S = 3574595584 + a0 * 1 + a1 * 32) : S < 4294967296 ∧ S / 1 % 32 = a0 ∧ S / 32 % 32768 = a1 ∧ andU (S : Int) (fMask 33) = fBase 33 := by
  have hlt : S < 4294967296 := by omega
  exact ⟨hlt, digit (0) (a1 + 3409 * 32768) 32 rfl (by omega), digit (a0) (3409) 1048576 rfl (by omega), mask_to (M := 4293918720) (B := 3574595584) [(20, 12)] (by decide +kernel) (by simp only [maskOk, maskN]; decide) hlt (by decide) (field_oc (Q := 1048576) (P := 4096) (c := 3409) rfl rfl (digit (a0 + a1 * 32) (0) 4294967296 rfl (by omega)) (by omega))⟩
theorem again_33 (a0 a1 : Nat) (l0 : a0 < 32) (l1 : a1 < 32768) : takeI 33 (putI 33 (fBase 33) (X_33 a0 a1)) = (X_33 a0 a1) ∧ andU (putI 33 (fBase 33) (X_33 a0 a1)) (fMask 33) = fBase 33 ∧ ∃ W : Nat, W < 4294967296 ∧ putI 33 (fBase 33) (X_33 a0 a1) = (W : Int) := by
  obtain ⟨S, hS⟩ : ∃ S, S = 3574595584 + a0 * 1 + a1 * 32 := ⟨_, rfl⟩
  have h := word_33 a0 a1 l0 l1 S hS
  rw [put_33 a0 a1 l0 l1, ← hS]
  refine ⟨?_, h.2.2.2, S, h.1, rfl⟩
  rw [take_33 h.1, h.2.1, h.2.2.1]
def X_34 (a0 : Nat) : InsnS := ⟨33, 0, 0, 0, 0, 0, ((a0 : Nat) : Int), 0, 0, 0, 0, 0, false, false, false, false⟩
theorem put_34 (a0 : Nat) (l0 : a0 < 16) : putI 34 (fBase 34) (X_34 a0) = ((3573760223 + a0 * 256 : Nat) : Int) := by
  have s1 := stp 8 4 8 4 16 256 (by decide) (Vi := fBase 34) (V := 3573760223) rfl (nat_mod l0 (by decide)) (by omega)
  exact s1
theorem take_34 {W : Nat} (hW : W < 4294967296) : takeI 34 (W : Int) = X_34 (W / 256 % 16) := by
  have e0 : bitsS (W : Int) 8 4 = ((W / 256 % 16 : Nat) : Int) := bof 8 4 8 4 16 256 (by decide) hW
  show (⟨33, 0, 0, 0, 0, 0, bitsS (W : Int) 8 4, 0, 0, 0, 0, 0, false, false, false, false⟩ : InsnS) = _
  rw [e0]
  rfl
theorem fin_34 {W : Nat} (hW : W < 4294967296) (hm : W / 4096 % 1048576 * 4096 + W / 1 % 256 * 1 = 3573760223) : 3573760223 + W / 256 % 16 * 256 = W := by
  have d0 := div_step W 1 256 256 rfl
  have d1 := div_step W 256 16 4096 rfl
  have d2 := div_step W 4096 1048576 4294967296 rfl
  have d99 : W / 4294967296 = 0 := Nat.div_eq_of_lt hW
  have d98 : W / 1 = W := Nat.div_one W
  generalize W / 1 % 256 = y0, W / 256 % 16 = y1, W / 4096 % 1048576 = y2 at *
  generalize W / 256 = q1, W / 4096 = q2 at *
  generalize W / 4294967296 = q99 at *
  generalize W / 1 = q98 at *
  omega
theorem back1_34 {W : Nat} (hW : W < 4294967296) (h : andU (W : Int) (fMask 34) = fBase 34) : putI 34 (fBase 34) (takeI 34 W) = (W : Int) := by
  have hm := mask_at (M := 4294963455) (B := 3573760223) [(12, 20), (0, 8)] (by decide +kernel) (by simp only [maskOk, maskN]; decide) hW h (by decide)
  rw [field_step (Q := 4096) (P := 1048576) rfl rfl (field_one (Q := 1) (P := 256) rfl rfl)] at hm
  rw [take_34 hW, put_34 _ (Nat.mod_lt _ (by decide)), fin_34 hW hm]
theorem word_34 (a0 : Nat) (l0 : a0 < 16) (S : Nat) (hS : S = 3573760223 + a0 * 256) : S < 4294967296 ∧ S / 256 % 16 = a0 ∧ andU (S : Int) (fMask 34) = fBase 34 := by
  have hlt : S < 4294967296 := by omega
  exact ⟨hlt, digit (223) (872500) 4096 rfl (by omega), mask_to (M := 4294963455) (B := 3573760223) [(12, 20), (0, 8)] (by decide +kernel) (by simp only [maskOk, maskN]; decide) hlt (by decide) (field_sc (Q := 4096) (P := 1048576) (c := 872500) (s := 223) rfl rfl (digit (223 + a0 * 256) (0) 4294967296 rfl (by omega)) (field_oc (Q := 1) (P := 256) (c := 223) rfl rfl (digit (0) (a0 + 872500 * 16) 256 rfl (by omega)) (by omega)) (by omega))⟩
theorem again_34 (a0 : Nat) (l0 : a0 < 16) : takeI 34 (putI 34 (fBase 34) (X_34 a0)) = (X_34 a0) ∧ andU (putI 34 (fBase 34) (X_34 a0)) (fMask 34) = fBase 34 ∧ ∃ W : Nat, W < 4294967296 ∧ putI 34 (fBase 34) (X_34 a0) = (W : Int) := by
  obtain ⟨S, hS⟩ : ∃ S, S = 3573760223 + a0 * 256 := ⟨_, rfl⟩
  have h := word_34 a0 l0 S hS
  rw [put_34 a0 l0, ← hS]
  refine ⟨?_, h.2.2, S, h.1, rfl⟩
  rw [take_34 h.1, h.2.1]
def X_35 (a0 : Nat) : InsnS := ⟨33, 1, 0, 0, 0, 0, ((a0 : Nat) : Int), 0, 0, 0, 0, 0, false, false, false, false⟩
theorem put_35 (a0 : Nat) (l0 : a0 < 16) : putI 35 (fBase 35) (X_35 a0) = ((3573760255 + a0 * 256 : Nat) : Int) := by
  have s1 := stp 8 4 8 4 16 256 (by decide) (Vi := fBase 35) (V := 3573760255) rfl (nat_mod l0 (by decide)) (by omega)
  exact s1
theorem take_35 {W : Nat} (hW : W < 4294967296) : takeI 35 (W : Int) = X_35 (W / 256 % 16) := by
  have e0 : bitsS (W : Int) 8 4 = ((W / 256 % 16 : Nat) : Int) := bof 8 4 8 4 16 256 (by decide) hW
  show (⟨33, 1, 0, 0, 0, 0, bitsS (W : Int) 8 4, 0, 0, 0, 0, 0, false, false, false, false⟩ : InsnS) = _
  rw [e0]
  rfl
theorem fin_35 {W : Nat} (hW : W < 4294967296) (hm : W / 4096 % 1048576 * 4096 + W / 1 % 256 * 1 = 3573760255) : 3573760255 + W / 256 % 16 * 256 = W := by
  have d0 := div_step W 1 256 256 rfl
  have d1 := div_step W 256 16 4096 rfl
  have d2 := div_step W 4096 1048576 4294967296 rfl
  have d99 : W / 4294967296 = 0 := Nat.div_eq_of_lt hW
  have d98 : W / 1 = W := Nat.div_one W
  generalize W / 1 % 256 = y0, W / 256 % 16 = y1, W / 4096 % 1048576 = y2 at *
  generalize W / 256 = q1, W / 4096 = q2 at *
  generalize W / 4294967296 = q99 at *
  generalize W / 1 = q98 at *
  omega
theorem back1_35 {W : Nat} (hW : W < 4294967296) (h : andU (W : Int) (fMask 35) = fBase 35) : putI 35 (fBase 35) (takeI 35 W) = (W : Int) := by
  have hm := mask_at (M := 4294963455) (B := 3573760255) [(12, 20), (0, 8)] (by decide +kernel) (by simp only [maskOk, maskN]; decide) hW h (by decide)
  rw [field_step (Q := 4096) (P := 1048576) rfl rfl (field_one (Q := 1) (P := 256) rfl rfl)] at hm
  rw [take_35 hW, put_35 _ (Nat.mod_lt _ (by decide)), fin_35 hW hm]
theorem word_35 (a0 : Nat) (l0 : a0 < 16) (S : Nat) (hS : S = 3573760255 + a0 * 256) : S < 4294967296 ∧ S / 256 % 16 = a0 ∧ andU (S : Int) (fMask 35) = fBase 35 := by
  have hlt : S < 4294967296 := by omega
  exact ⟨hlt, digit (255) (872500) 4096 rfl (by omega), mask_to (M := 4294963455) (B := 3573760255) [(12, 20), (0, 8)] (by decide +kernel) (by simp only [maskOk, maskN]; decide) hlt (by decide) (field_sc (Q := 4096) (P := 1048576) (c := 872500) (s := 255) rfl rfl (digit (255 + a0 * 256) (0) 4294967296 rfl (by omega)) (field_oc (Q := 1) (P := 256) (c := 255) rfl rfl (digit (0) (a0 + 872500 * 16) 256 rfl (by omega)) (by omega)) (by omega))⟩
theorem again_35 (a0 : Nat) (l0 : a0 < 16) : takeI 35 (putI 35 (fBase 35) (X_35 a0)) = (X_35 a0) ∧ andU (putI 35 (fBase 35) (X_35 a0)) (fMask 35) = fBase 35 ∧ ∃ W : Nat, W < 4294967296 ∧ putI 35 (fBase 35) (X_35 a0) = (W : Int) := by
  obtain ⟨S, hS⟩ : ∃ S, S = 3573760255 + a0 * 256 := ⟨_, rfl⟩
  have h := word_35 a0 l0 S hS
  rw [put_35 a0 l0, ← hS]
  refine ⟨?_, h.2.2, S, h.1, rfl⟩
  rw [take_35 h.1, h.2.1]
def X_36 (a0 : Nat) : InsnS := ⟨34, 0, 0, 0, 0, 0, ((a0 : Nat) : Int), 0, 0, 0, 0, 0, false, false, false, false⟩
theorem put_36 (a0 : Nat) (l0 : a0 < 65536) : putI 36 (fBase 36) (X_36 a0) = ((3556769793 + a0 * 32 : Nat) : Int) := by
  have s1 := stp 5 16 5 16 65536 32 (by decide) (Vi := fBase 36) (V := 3556769793) rfl (nat_mod l0 (by decide)) (by omega)
  exact s1
theorem take_36 {W : Nat} (hW : W < 4294967296) : takeI 36 (W : Int) = X_36 (W / 32 % 65536) := by
  have e0 : bitsS (W : Int) 5 16 = ((W / 32 % 65536 : Nat) : Int) := bof 5 16 5 16 65536 32 (by decide) hW
  show (⟨34, 0, 0, 0, 0, 0, bitsS (W : Int) 5 16, 0, 0, 0, 0, 0, false, false, false, false⟩ : InsnS) = _
  rw [e0]
  rfl
theorem fin_36 {W : Nat} (hW : W < 4294967296) (hm : W / 2097152 % 2048 * 2097152 + W / 1 % 32 * 1 = 3556769793) : 3556769793 + W / 32 % 65536 * 32 = W := by
  have d0 := div_step W 1 32 32 rfl
  have d1 := div_step W 32 65536 2097152 rfl
  have d2 := div_step W 2097152 2048 4294967296 rfl
  have d99 : W / 4294967296 = 0 := Nat.div_eq_of_lt hW
  have d98 : W / 1 = W := Nat.div_one W
  generalize W / 1 % 32 = y0, W / 32 % 65536 = y1, W / 2097152 % 2048 = y2 at *
  generalize W / 32 = q1, W / 2097152 = q2 at *
  generalize W / 4294967296 = q99 at *
  generalize W / 1 = q98 at *
  omega
theorem back1_36 {W : Nat} (hW : W < 4294967296) (h : andU (W : Int) (fMask 36) = fBase 36) : putI 36 (fBase 36) (takeI 36 W) = (W : Int) := by
  have hm := mask_at (M := 4292870175) (B := 3556769793) [(21, 11), (0, 5)] (by decide +kernel) (by simp only [maskOk, maskN]; decide) hW h (by decide)
  rw [field_step (Q := 2097152) (P := 2048) rfl rfl (field_one (Q := 1) (P := 32) rfl rfl)] at hm
  rw [take_36 hW, put_36 _ (Nat.mod_lt _ (by decide)), fin_36 hW hm]
theorem word_36 (a0 : Nat) (l0 : a0 < 65536) (S : Nat) (hS : S = 3556769793 + a0 * 32) : S < 4294967296 ∧ S / 32 % 65536 = a0 ∧ andU (S : Int) (fMask 36) = fBase 36 := by
  have hlt : S < 4294967296 := by omega
  exact ⟨hlt, digit (1) (1696) 2097152 rfl (by omega), mask_to (M := 4292870175) (B := 3556769793) [(21, 11), (0, 5)] (by decide +kernel) (by simp only [maskOk, maskN]; decide) hlt (by decide) (field_sc (Q := 2097152) (P := 2048) (c := 1696) (s := 1) rfl rfl (digit (1 + a0 * 32) (0) 4294967296 rfl (by omega)) (field_oc (Q := 1) (P := 32) (c := 1) rfl rfl (digit (0) (a0 + 1696 * 65536) 32 rfl (by omega)) (by omega)) (by omega))⟩
theorem again_36 (a0 : Nat) (l0 : a0 < 65536) : takeI 36 (putI 36 (fBase 36) (X_36 a0)) = (X_36 a0) ∧ andU (putI 36 (fBase 36) (X_36 a0)) (fMask 36) = fBase 36 ∧ ∃ W : Nat, W < 4294967296 ∧ putI 36 (fBase 36) (X_36 a0) = (W : Int) := by
  obtain ⟨S, hS⟩ : ∃ S, S = 3556769793 + a0 * 32 := ⟨_, rfl⟩
  have h := word_36 a0 l0 S hS
  rw [put_36 a0 l0, ← hS]
  refine ⟨?_, h.2.2, S, h.1, rfl⟩
  rw [take_36 h.1, h.2.1]
def X_37 (a0 : Nat) : InsnS := ⟨35, 0, 0, 0, 0, 0, ((a0 : Nat) : Int), 0, 0, 0, 0, 0, false, false, false, false⟩
theorem put_37 (a0 : Nat) (l0 : a0 < 65536) : putI 37 (fBase 37) (X_37 a0) = ((3558866944 + a0 * 32 : Nat) : Int) := by
  have s1 := stp 5 16 5 16 65536 32 (by decide) (Vi := fBase 37) (V := 3558866944) rfl (nat_mod l0 (by decide)) (by omega)
  exact s1
theorem take_37 {W : Nat} (hW : W < 4294967296) : takeI 37 (W : Int) = X_37 (W / 32 % 65536) := by
  have e0 : bitsS (W : Int) 5 16 = ((W / 32 % 65536 : Nat) : Int) := bof 5 16 5 16 65536 32 (by decide) hW
  show (⟨35, 0, 0, 0, 0, 0, bitsS (W : Int) 5 16, 0, 0, 0, 0, 0, false, false, false, false⟩ : InsnS) = _
  rw [e0]
  rfl
theorem fin_37 {W : Nat} (hW : W < 4294967296) (hm : W / 2097152 % 2048 * 2097152 + W / 1 % 32 * 1 = 3558866944) : 3558866944 + W / 32 % 65536 * 32 = W := by
  have d0 := div_step W 1 32 32 rfl
  have d1 := div_step W 32 65536 2097152 rfl
  have d2 := div_step W 2097152 2048 4294967296 rfl
  have d99 : W / 4294967296 = 0 := Nat.div_eq_of_lt hW
  have d98 : W / 1 = W := Nat.div_one W
  generalize W / 1 % 32 = y0, W / 32 % 65536 = y1, W / 2097152 % 2048 = y2 at *
  generalize W / 32 = q1, W / 2097152 = q2 at *
  generalize W / 4294967296 = q99 at *
  generalize W / 1 = q98 at *
  omega
theorem back1_37 {W : Nat} (hW : W < 4294967296) (h : andU (W : Int) (fMask 37) = fBase 37) : putI 37 (fBase 37) (takeI 37 W) = (W : Int) := by
  have hm := mask_at (M := 4292870175) (B := 3558866944) [(21, 11), (0, 5)] (by decide +kernel) (by simp only [maskOk, maskN]; decide) hW h (by decide)
  rw [field_step (Q := 2097152) (P := 2048) rfl rfl (field_one (Q := 1) (P := 32) rfl rfl)] at hm
  rw [take_37 hW, put_37 _ (Nat.mod_lt _ (by decide)), fin_37 hW hm]
theorem word_37 (a0 : Nat) (l0 : a0 < 65536) (S : Nat) (hS : S = 3558866944 + a0 * 32) : S < 4294967296 ∧ S / 32 % 65536 = a0 ∧ andU (S : Int) (fMask 37) = fBase 37 := by
  have hlt : S < 4294967296 := by omega
  exact ⟨hlt, digit (0) (1697) 2097152 rfl (by omega), mask_to (M := 4292870175) (B := 3558866944) [(21, 11), (0, 5)] (by decide +kernel) (by simp only [maskOk, maskN]; decide) hlt (by decide) (field_sc (Q := 2097152) (P := 2048) (c := 1697) (s := 0) rfl rfl (digit (a0 * 32) (0) 4294967296 rfl (by omega)) (field_oc (Q := 1) (P := 32) (c := 0) rfl rfl (digit (0) (a0 + 1697 * 65536) 32 rfl (by omega)) (Nat.zero_mul _)) (by omega))⟩
theorem again_37 (a0 : Nat) (l0 : a0 < 65536) : takeI 37 (putI 37 (fBase 37) (X_37 a0)) = (X_37 a0) ∧ andU (putI 37 (fBase 37) (X_37 a0)) (fMask 37) = fBase 37 ∧ ∃ W : Nat, W < 4294967296 ∧ putI 37 (fBase 37) (X_37 a0) = (W : Int) := by
  obtain ⟨S, hS⟩ : ∃ S, S = 3558866944 + a0 * 32 := ⟨_, rfl⟩
  have h := word_37 a0 l0 S hS
  rw [put_37 a0 l0, ← hS]
  refine ⟨?_, h.2.2, S, h.1, rfl⟩
  rw [take_37 h.1, h.2.1]
def X_38 : InsnS := ⟨36, 0, 0, 0, 0, 0, 0, 0, 0, 0, 0, 0, false, false, false, false⟩
theorem put_38 : putI 38 (fBase 38) (X_38) = ((3600745440 : Nat) : Int) := by
  have s1 := layS_zero (n := 0) (ai := 0) (mi := 5) (Vi := fBase 38) (V := 3600745440) rfl (by omega) rfl
  have s2 := layS_zero (n := 0) (ai := 5) (mi := 5) s1 (by omega) rfl
  have s3 := layS_zero (n := 0) (ai := 16) (mi := 5) s2 (by omega) rfl
  exact s3
theorem take_38 {W : Nat} (hW : W < 4294967296) : takeI 38 (W : Int) = X_38 := by
  show (⟨36, 0, 0, 0, 0, 0, 0, 0, 0, 0, 0, 0, false, false, false, false⟩ : InsnS) = _
  rfl
theorem fin_38 {W : Nat} (hW : W < 4294967296) (hm : W / 1 % 4294967296 * 1 = 3600745440) : 3600745440 = W := by
  have d0 := div_step W 1 4294967296 4294967296 rfl
  have d99 : W / 4294967296 = 0 := Nat.div_eq_of_lt hW
  have d98 : W / 1 = W := Nat.div_one W
  generalize W / 1 % 4294967296 = y0 at *
  generalize W / 4294967296 = q99 at *
  generalize W / 1 = q98 at *
  omega
theorem back1_38 {W : Nat} (hW : W < 4294967296) (h : andU (W : Int) (fMask 38) = fBase 38) : putI 38 (fBase 38) (takeI 38 W) = (W : Int) := by
  have hm := mask_at (M := 4294967295) (B := 3600745440) [(0, 32)] (by decide +kernel) (by simp only [maskOk, maskN]; decide) hW h (by decide)
  rw [field_one (Q := 1) (P := 4294967296) rfl rfl] at hm
  rw [take_38 hW, put_38, fin_38 hW hm]
theorem word_38 (S : Nat) (hS : S = 3600745440) : S < 4294967296 ∧ andU (S : Int) (fMask 38) = fBase 38 := by
  have hlt : S < 4294967296 := by omega
  exact ⟨hlt, mask_to (M := 4294967295) (B := 3600745440) [(0, 32)] (by decide +kernel) (by simp only [maskOk, maskN]; decide) hlt (by decide) (field_oc (Q := 1) (P := 4294967296) (c := 3600745440) rfl rfl (digit (0) (0) 4294967296 rfl (by omega)) (by omega))⟩
theorem again_38 : takeI 38 (putI 38 (fBase 38) (X_38)) = (X_38) ∧ andU (putI 38 (fBase 38) (X_38)) (fMask 38) = fBase 38 ∧ ∃ W : Nat, W < 4294967296 ∧ putI 38 (fBase 38) (X_38) = (W : Int) := by
  obtain ⟨S, hS⟩ : ∃ S, S = 3600745440 := ⟨_, rfl⟩
  have h := word_38 S hS
  rw [put_38, ← hS]
  refine ⟨?_, h.2, S, h.1, rfl⟩
  rw [take_38 h.1]
def X_39 (a0 : Nat) : InsnS := ⟨37, 0, 0, 0, 0, 0, ((a0 : Nat) : Int), 0, 0, 0, 0, 0, false, false, false, false⟩
theorem put_39 (a0 : Nat) (l0 : a0 < 8) : putI 39 (fBase 39) (X_39 a0) = ((3573751839 + a0 * 32 : Nat) : Int) := by
  have s1 := stp 5 3 5 3 8 32 (by decide) (Vi := fBase 39) (V := 3573751839) rfl (nat_mod l0 (by decide)) (by omega)
  exact s1
theorem take_39 {W : Nat} (hW : W < 4294967296) : takeI 39 (W : Int) = X_39 (W / 32 % 8) := by
  have e0 : bitsS (W : Int) 5 3 = ((W / 32 % 8 : Nat) : Int) := bof 5 3 5 3 8 32 (by decide) hW
  show (⟨37, 0, 0, 0, 0, 0, bitsS (W : Int) 5 3, 0, 0, 0, 0, 0, false, false, false, false⟩ : InsnS) = _
  rw [e0]
  rfl
theorem fin_39 {W : Nat} (hW : W < 4294967296) (hm : W / 256 % 16777216 * 256 + W / 1 % 32 * 1 = 3573751839) : 3573751839 + W / 32 % 8 * 32 = W := by
  have d0 := div_step W 1 32 32 rfl
  have d1 := div_step W 32 8 256 rfl
  have d2 := div_step W 256 16777216 4294967296 rfl
  have d99 : W / 4294967296 = 0 := Nat.div_eq_of_lt hW
  have d98 : W / 1 = W := Nat.div_one W
  generalize W / 1 % 32 = y0, W / 32 % 8 = y1, W / 256 % 16777216 = y2 at *
  generalize W / 32 = q1, W / 256 = q2 at *
  generalize W / 4294967296 = q99 at *
  generalize W / 1 = q98 at *
  omega
theorem back1_39 {W : Nat} (hW : W < 4294967296) (h : andU (W : Int) (fMask 39) = fBase 39) : putI 39 (fBase 39) (takeI 39 W) = (W : Int) := by
  have hm := mask_at (M := 4294967071) (B := 3573751839) [(8, 24), (0, 5)] (by decide +kernel) (by simp only [maskOk, maskN]; decide) hW h (by decide)
  rw [field_step (Q := 256) (P := 16777216) rfl rfl (field_one (Q := 1) (P := 32) rfl rfl)] at hm
  rw [take_39 hW, put_39 _ (Nat.mod_lt _ (by decide)), fin_39 hW hm]
theorem word_39 (a0 : Nat) (l0 : a0 < 8) (S : Nat) (hS : S = 3573751839 + a0 * 32) : S < 4294967296 ∧ S / 32 % 8 = a0 ∧ andU (S : Int) (fMask 39) = fBase 39 := by
  have hlt : S < 4294967296 := by omega
  exact ⟨hlt, digit (31) (13959968) 256 rfl (by omega), mask_to (M := 4294967071) (B := 3573751839) [(8, 24), (0, 5)] (by decide +kernel) (by simp only [maskOk, maskN]; decide) hlt (by decide) (field_sc (Q := 256) (P := 16777216) (c := 13959968) (s := 31) rfl rfl (digit (31 + a0 * 32) (0) 4294967296 rfl (by omega)) (field_oc (Q := 1) (P := 32) (c := 31) rfl rfl (digit (0) (a0 + 13959968 * 8) 32 rfl (by omega)) (by omega)) (by omega))⟩
theorem again_39 (a0 : Nat) (l0 : a0 < 8) : takeI 39 (putI 39 (fBase 39) (X_39 a0)) = (X_39 a0) ∧ andU (putI 39 (fBase 39) (X_39 a0)) (fMask 39) = fBase 39 ∧ ∃ W : Nat, W < 4294967296 ∧ putI 39 (fBase 39) (X_39 a0) = (W : Int) := by
  obtain ⟨S, hS⟩ : ∃ S, S = 3573751839 + a0 * 32 := ⟨_, rfl⟩
  have h := word_39 a0 l0 S hS
  rw [put_39 a0 l0, ← hS]
  refine ⟨?_, h.2.2, S, h.1, rfl⟩
  rw [take_39 h.1, h.2.1]
end Go.Proofs.YteikpddilabppaaGreatR
