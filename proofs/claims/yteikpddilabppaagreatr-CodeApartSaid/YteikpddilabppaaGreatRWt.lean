/- words: right instructions are forms of numbers. -/
import Derived.Test.YteikpddilabppaaGreatRWs
namespace Go.Proofs.YteikpddilabppaaGreatR
open Go.AM
set_option maxRecDepth 100000
set_option linter.unusedVariables false
set_option linter.unusedSimpArgs false
theorem regs_rng {x : InsnS} (h : regsOk x 4 0 = true) : (0 ≤ x.rd ∧ x.rd ≤ 31) ∧ (0 ≤ x.rn ∧ x.rn ≤ 31) ∧ (0 ≤ x.rm ∧ x.rm ≤ 31) ∧ (0 ≤ x.ra ∧ x.ra ≤ 31) := by
  have e : regsOk x 4 0 = (!badR x.rd && (!badR x.rn && (!badR x.rm && (!badR x.ra && true)))) := rfl
  rw [e] at h
  simp only [badR, Bool.and_eq_true, Bool.not_eq_true', Bool.or_eq_false_iff, decide_eq_false_iff_not] at h
  omega
theorem right_split {x : InsnS} {f : ByteArray} {ok : Bool} (h : rightB x f ok = true) : onlyS x f = x ∧ ((0 ≤ x.rd ∧ x.rd ≤ 31) ∧ (0 ≤ x.rn ∧ x.rn ≤ 31) ∧ (0 ≤ x.rm ∧ x.rm ≤ 31) ∧ (0 ≤ x.ra ∧ x.ra ≤ 31)) ∧ ok = true := by
  unfold rightB at h
  simp only [Bool.and_eq_true] at h
  exact ⟨(eqI_iff _ _).1 h.1, regs_rng h.2.1, h.2.2⟩
theorem u_of {n : Int} {P : Nat} (h : 0 ≤ n ∧ n < (P : Int)) : ∃ a : Nat, n = (a : Int) ∧ a < P := ⟨n.toNat, by omega, by omega⟩
theorem reg_of {n : Int} (h : 0 ≤ n ∧ n ≤ 31) : ∃ a : Nat, n = (a : Int) ∧ a < 32 := ⟨n.toNat, by omega, by omega⟩
theorem within_rng {n o a b : Int} (h : withinS n o a b = true) : a ≤ n ∧ n ≤ b := by
  unfold withinS at h
  simp only [Bool.and_eq_true, decide_eq_true_eq, beq_iff_eq, ge_iff_le] at h
  exact h.1
theorem within_dvd {n o a b : Int} (h : withinS n o a b = true) : o ∣ n := by
  unfold withinS at h
  simp only [Bool.and_eq_true, decide_eq_true_eq, beq_iff_eq, ge_iff_le] at h
  exact Int.dvd_of_tmod_eq_zero h.2
theorem within_u {n o a b : Int} {P : Nat} (h : withinS n o a b = true) (ha : 0 ≤ a) (hb : b < (P : Int)) : ∃ a : Nat, n = (a : Int) ∧ a < P := by
  have := within_rng h
  exact u_of (by omega)
theorem has_of' (b : Bool) : ∃ a : Nat, b = decide (a = 1) ∧ a < 2 := by
  cases b
  · exact ⟨0, rfl, by decide⟩
  · exact ⟨1, rfl, by decide⟩
theorem eq1_of (b : Bool) : ∃ a : Nat, b = ((a : Int) == 1) ∧ a < 2 := by
  cases b
  · exact ⟨0, rfl, by decide⟩
  · exact ⟨1, rfl, by decide⟩
theorem idx_some {f : Nat → Int} {v : Int} : ∀ (n i : Nat), idxL f v n i ≥ 0 → ∃ k, i ≤ k ∧ k < i + n ∧ v = f k
  | 0, i, h => absurd h (by show ¬ ((-1 : Int) ≥ 0); decide)
  | n + 1, i, h => by
    unfold idxL at h
    by_cases e : v = f i
    · exact ⟨i, Nat.le_refl _, by omega, e⟩
    · rw [if_neg e] at h
      obtain ⟨k, h1, h2, h3⟩ := idx_some n (i + 1) h
      exact ⟨k, by omega, by omega, h3⟩
theorem inL_id {n : Nat} {v : Int} {P : Nat} (h : inL (fun i => (i : Int)) n v = true) (hP : n ≤ P) : ∃ a : Nat, v = (a : Int) ∧ a < P := by
  obtain ⟨k, _, h2, h3⟩ := idx_some n 0 (of_decide_eq_true h)
  exact ⟨k, h3, by omega⟩
theorem sys_dec : ∀ k : Fin 18, 0 ≤ sysL k.val ∧ sysL k.val < ((32768 : Nat) : Int) := by decide +kernel
theorem sys_of {x : InsnS} (h : sysOk x = true) : ∃ a : Nat, x.sys = (a : Int) ∧ a < 32768 := by
  obtain ⟨k, _, h2, h3⟩ := idx_some 18 0 (of_decide_eq_true (show decide (idxL sysL x.sys 18 0 ≥ 0) = true from h))
  rw [h3]
  exact u_of (sys_dec ⟨k, by omega⟩)
theorem logic_ex {x : InsnS} (h : logicOk x = true) : ∃ a : Nat, (x.sub = (if (a : Int) = 3 then 0 else (a : Int)) ∧ x.flags = ((a : Int) == 3)) ∧ a < 4 := by
  unfold logicOk at h
  simp only [Bool.and_eq_true, Bool.or_eq_true, beq_iff_eq, Bool.not_eq_true'] at h
  have hr := within_rng h.1
  cases hf : x.flags with
  | true =>
    rcases h.2 with e | e
    · rw [hf] at e; cases e
    · exact ⟨3, ⟨e, rfl⟩, by decide⟩
  | false =>
    refine ⟨x.sub.toNat, ⟨?_, ?_⟩, by omega⟩
    · rw [if_neg (by omega)]; omega
    · symm
      rw [beq_eq_false_iff_ne]
      omega
theorem far_ex {x : InsnS} {b : Int} {H P : Nat} (h : farS b x = true) (hb : IntKind.i64.wrap (-1 * 2 ^ min b.toNat IntKind.i64.bits) = -(4 * (H : Int))) (hb' : IntKind.i64.wrap (IntKind.i64.wrap (1 * 2 ^ min b.toNat IntKind.i64.bits) - 4) = 4 * (H : Int) - 4) (hP : P = 2 * H) : ∃ a : Nat, x.imm = sxS H P a ∧ a < P := by
  unfold farS at h
  rw [hb, hb'] at h
  have h1 := within_rng h
  obtain ⟨q, hq⟩ := within_dvd h
  subst hP
  by_cases h0 : 0 ≤ q
  · refine ⟨q.toNat, ?_, by omega⟩
    unfold sxS sg
    rw [if_pos (by omega)]
    omega
  · refine ⟨(q + 2 * (H : Int)).toNat, ?_, by omega⟩
    unfold sxS sg
    rw [if_neg (by omega)]
    omega
theorem adrP_ex {v : Int} (h : -1048576 ≤ v) (h' : v < 1048576) : ∃ lo hi : Nat, v = adrP lo hi ∧ lo < 4 ∧ hi < 524288 := by
  by_cases h0 : 0 ≤ v
  · refine ⟨(v % 4).toNat, (v / 4).toNat, ?_, by omega, by omega⟩
    unfold adrP sg
    rw [if_pos (by omega)]
    omega
  · refine ⟨(v % 4).toNat, (v / 4 + 524288).toNat, ?_, by omega, by omega⟩
    unfold adrP sg
    rw [if_neg (by omega)]
    omega
theorem adr_ex {x : InsnS} (h : adrOk x = true) : ∃ s lo hi : Nat, (x.sub = (s : Int) ∧ x.imm = adrX s lo hi) ∧ s < 2 ∧ lo < 4 ∧ hi < 524288 := by
  unfold adrOk at h
  simp only [Bool.and_eq_true, Bool.or_eq_true, beq_iff_eq] at h
  rcases h with ⟨h1, h2⟩ | ⟨h1, h2⟩
  · have := within_rng h2
    obtain ⟨lo, hi, e, hl, hh⟩ := adrP_ex (v := x.imm) (by omega) (by omega)
    exact ⟨0, lo, hi, ⟨h1, e⟩, by decide, hl, hh⟩
  · have := within_rng h2
    obtain ⟨q, hq⟩ := within_dvd h2
    obtain ⟨lo, hi, e, hl, hh⟩ := adrP_ex (v := q) (by omega) (by omega)
    exact ⟨1, lo, hi, ⟨h1, by rw [hq, e]; rfl⟩, by decide, hl, hh⟩
theorem sel_ex {n : Int} (h : withinS n 1 0 3 = true) : ∃ a b : Nat, n = ((2 * a + b : Nat) : Int) ∧ a < 2 ∧ b < 2 := by
  have := within_rng h
  exact ⟨n.toNat / 2, n.toNat % 2, by omega, by omega, by omega⟩
theorem tb_ex {n : Int} (h : withinS n 1 0 63 = true) : ∃ a b : Nat, n = ((32 * a + b : Nat) : Int) ∧ a < 2 ∧ b < 32 := by
  have := within_rng h
  exact ⟨n.toNat / 32, n.toNat % 32, by omega, by omega, by omega⟩
theorem orS_rng {n b : Int} (hb : 0 ≤ b) (hb' : b < 64) (h0 : -9223372036854775808 ≤ n) (h1 : n < 9223372036854775808) (h : (orS n b != b) = false) : 0 ≤ n ∧ n ≤ b := by
  have h2 := orS_le hb hb' h
  rw [BitVec.toNat_ofInt] at h2
  have h3 : ((n % ((2 : Nat) ^ 64 : Nat) : Int)).toNat ≤ b.toNat := h2
  have e : (((2 : Nat) ^ 64 : Nat) : Int) = 18446744073709551616 := by decide
  rw [e] at h3
  omega
theorem mask_rng {x : InsnS} (hr : rngI x) (h : (maskE x.amount x.imm x.imm2 == 0) = true) : (0 ≤ x.amount ∧ x.amount ≤ 1) ∧ (0 ≤ x.imm ∧ x.imm ≤ 63) ∧ (0 ≤ x.imm2 ∧ x.imm2 ≤ 63) := by
  have h1 := maskE_ok (by simpa using h)
  simp only [Bool.or_eq_false_iff] at h1
  exact ⟨orS_rng (by decide) (by decide) hr.1.1 hr.1.2 h1.1.1, orS_rng (by decide) (by decide) hr.2.1.1 hr.2.1.2 h1.1.2, orS_rng (by decide) (by decide) hr.2.2.1 hr.2.2.2 h1.2⟩
theorem within_m3 {n a b : Int} {P : Nat} (h : withinS n 3 a b = true) (ha : 0 ≤ a) (hb : b < 3 * (P : Int)) : ∃ a : Nat, n = ((3 * a : Nat) : Int) ∧ a < P := by
  have h1 := within_rng h
  obtain ⟨q, hq⟩ := within_dvd h
  exact ⟨q.toNat, by omega, by omega⟩
theorem within_m8 {n a b : Int} {P : Nat} (h : withinS n 8 a b = true) (ha : 0 ≤ a) (hb : b < 8 * (P : Int)) : ∃ a : Nat, n = ((8 * a : Nat) : Int) ∧ a < P := by
  have h1 := within_rng h
  obtain ⟨q, hq⟩ := within_dvd h
  exact ⟨q.toNat, by omega, by omega⟩
theorem within_m12 {n a b : Int} {P : Nat} (h : withinS n 12 a b = true) (ha : 0 ≤ a) (hb : b < 12 * (P : Int)) : ∃ a : Nat, n = ((12 * a : Nat) : Int) ∧ a < P := by
  have h1 := within_rng h
  obtain ⟨q, hq⟩ := within_dvd h
  exact ⟨q.toNat, by omega, by omega⟩
theorem within_m16 {n a b : Int} {P : Nat} (h : withinS n 16 a b = true) (ha : 0 ≤ a) (hb : b < 16 * (P : Int)) : ∃ a : Nat, n = ((16 * a : Nat) : Int) ∧ a < P := by
  have h1 := within_rng h
  obtain ⟨q, hq⟩ := within_dvd h
  exact ⟨q.toNat, by omega, by omega⟩
theorem only_0 (x : InsnS) : onlyS x ⟨#[100, 110, 105, 107, 70, 77]⟩ = ⟨x.op, 0, x.rd, x.rn, 0, 0, x.imm, 0, x.amount, 0, 0, 0, x.flags, x.minus, false, false⟩ := by kernel_rfl
theorem only_1 (x : InsnS) : onlyS x ⟨#[100, 110, 109, 116, 107, 70, 77]⟩ = ⟨x.op, 0, x.rd, x.rn, x.rm, 0, 0, 0, x.amount, x.shift, 0, 0, x.flags, x.minus, false, false⟩ := by kernel_rfl
theorem only_2 (x : InsnS) : onlyS x ⟨#[100, 110, 109, 115, 116, 107, 70, 78]⟩ = ⟨x.op, x.sub, x.rd, x.rn, x.rm, 0, 0, 0, x.amount, x.shift, 0, 0, x.flags, false, x.not_, false⟩ := by kernel_rfl
theorem only_3 (x : InsnS) : onlyS x ⟨#[100, 110, 115, 107, 105, 106, 70]⟩ = ⟨x.op, x.sub, x.rd, x.rn, 0, 0, x.imm, x.imm2, x.amount, 0, 0, 0, x.flags, false, false, false⟩ := by kernel_rfl
theorem only_4 (x : InsnS) : onlyS x ⟨#[100, 115, 105, 107]⟩ = ⟨x.op, x.sub, x.rd, 0, 0, 0, x.imm, 0, x.amount, 0, 0, 0, false, false, false, false⟩ := by kernel_rfl
theorem only_5 (x : InsnS) : onlyS x ⟨#[100, 110, 115, 105, 106]⟩ = ⟨x.op, x.sub, x.rd, x.rn, 0, 0, x.imm, x.imm2, 0, 0, 0, 0, false, false, false, false⟩ := by kernel_rfl
theorem only_6 (x : InsnS) : onlyS x ⟨#[100, 110, 109, 115]⟩ = ⟨x.op, x.sub, x.rd, x.rn, x.rm, 0, 0, 0, 0, 0, 0, 0, false, false, false, false⟩ := by kernel_rfl
theorem only_7 (x : InsnS) : onlyS x ⟨#[100, 110, 109, 97, 77]⟩ = ⟨x.op, 0, x.rd, x.rn, x.rm, x.ra, 0, 0, 0, 0, 0, 0, false, x.minus, false, false⟩ := by kernel_rfl
theorem only_8 (x : InsnS) : onlyS x ⟨#[100, 110, 109, 115, 99]⟩ = ⟨x.op, x.sub, x.rd, x.rn, x.rm, 0, 0, 0, 0, 0, x.cond, 0, false, false, false, false⟩ := by kernel_rfl
theorem only_9 (x : InsnS) : onlyS x ⟨#[100, 115, 105]⟩ = ⟨x.op, x.sub, x.rd, 0, 0, 0, x.imm, 0, 0, 0, 0, 0, false, false, false, false⟩ := by kernel_rfl
theorem only_10 (x : InsnS) : onlyS x ⟨#[105, 76]⟩ = ⟨x.op, 0, 0, 0, 0, 0, x.imm, 0, 0, 0, 0, 0, false, false, false, x.link⟩ := by kernel_rfl
theorem only_11 (x : InsnS) : onlyS x ⟨#[99, 105]⟩ = ⟨x.op, 0, 0, 0, 0, 0, x.imm, 0, 0, 0, x.cond, 0, false, false, false, false⟩ := by kernel_rfl
theorem only_12 (x : InsnS) : onlyS x ⟨#[100, 105, 78]⟩ = ⟨x.op, 0, x.rd, 0, 0, 0, x.imm, 0, 0, 0, 0, 0, false, false, x.not_, false⟩ := by kernel_rfl
theorem only_13 (x : InsnS) : onlyS x ⟨#[100, 105, 107, 78]⟩ = ⟨x.op, 0, x.rd, 0, 0, 0, x.imm, 0, x.amount, 0, 0, 0, false, false, x.not_, false⟩ := by kernel_rfl
theorem only_14 (x : InsnS) : onlyS x ⟨#[110, 115]⟩ = ⟨x.op, x.sub, 0, x.rn, 0, 0, 0, 0, 0, 0, 0, 0, false, false, false, false⟩ := by kernel_rfl
theorem only_15 (x : InsnS) : onlyS x ⟨#[100, 110, 105]⟩ = ⟨x.op, 0, x.rd, x.rn, 0, 0, x.imm, 0, 0, 0, 0, 0, false, false, false, false⟩ := by kernel_rfl
theorem only_16 (x : InsnS) : onlyS x ⟨#[100, 110, 109, 107]⟩ = ⟨x.op, 0, x.rd, x.rn, x.rm, 0, 0, 0, x.amount, 0, 0, 0, false, false, false, false⟩ := by kernel_rfl
theorem only_17 (x : InsnS) : onlyS x ⟨#[100, 110, 115]⟩ = ⟨x.op, x.sub, x.rd, x.rn, 0, 0, 0, 0, 0, 0, 0, 0, false, false, false, false⟩ := by kernel_rfl
theorem only_18 (x : InsnS) : onlyS x ⟨#[100, 110]⟩ = ⟨x.op, 0, x.rd, x.rn, 0, 0, 0, 0, 0, 0, 0, 0, false, false, false, false⟩ := by kernel_rfl
theorem only_19 (x : InsnS) : onlyS x ⟨#[]⟩ = ⟨x.op, 0, 0, 0, 0, 0, 0, 0, 0, 0, 0, 0, false, false, false, false⟩ := by kernel_rfl
theorem only_20 (x : InsnS) : onlyS x ⟨#[115, 105]⟩ = ⟨x.op, x.sub, 0, 0, 0, 0, x.imm, 0, 0, 0, 0, 0, false, false, false, false⟩ := by kernel_rfl
theorem only_21 (x : InsnS) : onlyS x ⟨#[100]⟩ = ⟨x.op, 0, x.rd, 0, 0, 0, 0, 0, 0, 0, 0, 0, false, false, false, false⟩ := by kernel_rfl
theorem only_22 (x : InsnS) : onlyS x ⟨#[100, 121]⟩ = ⟨x.op, 0, x.rd, 0, 0, 0, 0, 0, 0, 0, 0, x.sys, false, false, false, false⟩ := by kernel_rfl
theorem only_23 (x : InsnS) : onlyS x ⟨#[105]⟩ = ⟨x.op, 0, 0, 0, 0, 0, x.imm, 0, 0, 0, 0, 0, false, false, false, false⟩ := by kernel_rfl
theorem right_0 {x : InsnS} (hr : rngI x) (h : rightI x = true) (ho : x.op = 1) : ∃ a0 a1 a2 a3 a4 a5 : Nat, a0 < 32 ∧ a1 < 32 ∧ a2 < 4096 ∧ a3 < 2 ∧ a4 < 2 ∧ a5 < 2 ∧ x = X_0 a0 a1 a2 a3 a4 a5 := by
  rw [rightI_1 ho] at h
  obtain ⟨h1, ⟨hrd, hrn, hrm, hra⟩, hok⟩ := right_split h
  rw [only_0] at h1
  simp only [addImmOk, Bool.and_eq_true] at hok
  obtain ⟨o1, o2⟩ := hok
  obtain ⟨a0, e0, l0⟩ := (reg_of hrd : ∃ a : Nat, x.rd = (a : Int) ∧ a < 32)
  obtain ⟨a1, e1, l1⟩ := (reg_of hrn : ∃ a : Nat, x.rn = (a : Int) ∧ a < 32)
  obtain ⟨a2, e2, l2⟩ := (within_u o1 (by decide) (by decide) : ∃ a : Nat, x.imm = (a : Int) ∧ a < 4096)
  obtain ⟨a3, e3, l3⟩ := (within_m12 o2 (by decide) (by decide) : ∃ a : Nat, x.amount = ((12 * a : Nat) : Int) ∧ a < 2)
  obtain ⟨a4, e4, l4⟩ := has_of' x.flags
  obtain ⟨a5, e5, l5⟩ := has_of' x.minus
  exact ⟨a0, a1, a2, a3, a4, a5, l0, l1, l2, l3, l4, l5, h1.symm.trans (by rw [ho, e0, e1, e2, e3, e4, e5]; rfl)⟩
theorem form2_0 {x : InsnS} (hr : rngI x) (h : rightI x = true) (ho : x.op = 1) : takeI 0 (putI 0 (fBase 0) x) = x ∧ andU (putI 0 (fBase 0) x) (fMask 0) = fBase 0 ∧ ∃ W : Nat, W < 4294967296 ∧ putI 0 (fBase 0) x = (W : Int) := by
  obtain ⟨a0, a1, a2, a3, a4, a5, l0, l1, l2, l3, l4, l5, rfl⟩ := right_0 hr h ho
  exact again_0 a0 a1 a2 a3 a4 a5 l0 l1 l2 l3 l4 l5
theorem right_1 {x : InsnS} (hr : rngI x) (h : rightI x = true) (ho : x.op = 2) : ∃ a0 a1 a2 a3 a4 a5 a6 : Nat, a0 < 32 ∧ a1 < 32 ∧ a2 < 32 ∧ a3 < 64 ∧ a4 < 4 ∧ a5 < 2 ∧ a6 < 2 ∧ x = X_1 a0 a1 a2 a3 a4 a5 a6 := by
  rw [rightI_2 ho] at h
  obtain ⟨h1, ⟨hrd, hrn, hrm, hra⟩, hok⟩ := right_split h
  rw [only_1] at h1
  simp only [addRegOk, Bool.and_eq_true] at hok
  obtain ⟨o1, o2⟩ := hok
  obtain ⟨a0, e0, l0⟩ := (reg_of hrd : ∃ a : Nat, x.rd = (a : Int) ∧ a < 32)
  obtain ⟨a1, e1, l1⟩ := (reg_of hrn : ∃ a : Nat, x.rn = (a : Int) ∧ a < 32)
  obtain ⟨a2, e2, l2⟩ := (reg_of hrm : ∃ a : Nat, x.rm = (a : Int) ∧ a < 32)
  obtain ⟨a3, e3, l3⟩ := (within_u o2 (by decide) (by decide) : ∃ a : Nat, x.amount = (a : Int) ∧ a < 64)
  obtain ⟨a4, e4, l4⟩ := (within_u o1 (by decide) (by decide) : ∃ a : Nat, x.shift = (a : Int) ∧ a < 4)
  obtain ⟨a5, e5, l5⟩ := has_of' x.flags
  obtain ⟨a6, e6, l6⟩ := has_of' x.minus
  exact ⟨a0, a1, a2, a3, a4, a5, a6, l0, l1, l2, l3, l4, l5, l6, h1.symm.trans (by rw [ho, e0, e1, e2, e3, e4, e5, e6]; rfl)⟩
theorem form2_1 {x : InsnS} (hr : rngI x) (h : rightI x = true) (ho : x.op = 2) : takeI 1 (putI 1 (fBase 1) x) = x ∧ andU (putI 1 (fBase 1) x) (fMask 1) = fBase 1 ∧ ∃ W : Nat, W < 4294967296 ∧ putI 1 (fBase 1) x = (W : Int) := by
  obtain ⟨a0, a1, a2, a3, a4, a5, a6, l0, l1, l2, l3, l4, l5, l6, rfl⟩ := right_1 hr h ho
  exact again_1 a0 a1 a2 a3 a4 a5 a6 l0 l1 l2 l3 l4 l5 l6
theorem right_2 {x : InsnS} (hr : rngI x) (h : rightI x = true) (ho : x.op = 3) : ∃ a0 a1 a2 a3 a4 a5 a6 : Nat, a0 < 32 ∧ a1 < 32 ∧ a2 < 32 ∧ a3 < 4 ∧ a4 < 64 ∧ a5 < 4 ∧ a6 < 2 ∧ x = X_2 a0 a1 a2 a3 a4 a5 a6 := by
  rw [rightI_3 ho] at h
  obtain ⟨h1, ⟨hrd, hrn, hrm, hra⟩, hok⟩ := right_split h
  rw [only_2] at h1
  simp only [logRegOk, Bool.and_eq_true] at hok
  obtain ⟨⟨o1, o2⟩, o3⟩ := hok
  obtain ⟨a0, e0, l0⟩ := (reg_of hrd : ∃ a : Nat, x.rd = (a : Int) ∧ a < 32)
  obtain ⟨a1, e1, l1⟩ := (reg_of hrn : ∃ a : Nat, x.rn = (a : Int) ∧ a < 32)
  obtain ⟨a2, e2, l2⟩ := (reg_of hrm : ∃ a : Nat, x.rm = (a : Int) ∧ a < 32)
  obtain ⟨a3, ⟨e3, e3b⟩, l3⟩ := logic_ex o1
  obtain ⟨a4, e4, l4⟩ := (within_u o3 (by decide) (by decide) : ∃ a : Nat, x.amount = (a : Int) ∧ a < 64)
  obtain ⟨a5, e5, l5⟩ := (within_u o2 (by decide) (by decide) : ∃ a : Nat, x.shift = (a : Int) ∧ a < 4)
  obtain ⟨a6, e6, l6⟩ := eq1_of x.not_
  exact ⟨a0, a1, a2, a3, a4, a5, a6, l0, l1, l2, l3, l4, l5, l6, h1.symm.trans (by rw [ho, e0, e1, e2, e3, e3b, e4, e5, e6]; rfl)⟩
theorem form2_2 {x : InsnS} (hr : rngI x) (h : rightI x = true) (ho : x.op = 3) : takeI 2 (putI 2 (fBase 2) x) = x ∧ andU (putI 2 (fBase 2) x) (fMask 2) = fBase 2 ∧ ∃ W : Nat, W < 4294967296 ∧ putI 2 (fBase 2) x = (W : Int) := by
  obtain ⟨a0, a1, a2, a3, a4, a5, a6, l0, l1, l2, l3, l4, l5, l6, rfl⟩ := right_2 hr h ho
  exact again_2 a0 a1 a2 a3 a4 a5 a6 l0 l1 l2 l3 l4 l5 l6
theorem right_3 {x : InsnS} (hr : rngI x) (h : rightI x = true) (ho : x.op = 4) : ∃ a0 a1 a2 a3 a4 a5 : Nat, a0 < 32 ∧ a1 < 32 ∧ a2 < 4 ∧ a3 < 2 ∧ a4 < 64 ∧ a5 < 64 ∧ x = X_3 a0 a1 a2 a3 a4 a5 := by
  rw [rightI_4 ho] at h
  obtain ⟨h1, ⟨hrd, hrn, hrm, hra⟩, hok⟩ := right_split h
  rw [only_3] at h1
  simp only [logImmOk, Bool.and_eq_true] at hok
  obtain ⟨o1, o2⟩ := hok
  obtain ⟨a0, e0, l0⟩ := (reg_of hrd : ∃ a : Nat, x.rd = (a : Int) ∧ a < 32)
  obtain ⟨a1, e1, l1⟩ := (reg_of hrn : ∃ a : Nat, x.rn = (a : Int) ∧ a < 32)
  obtain ⟨a2, ⟨e2, e2b⟩, l2⟩ := logic_ex o1
  obtain ⟨a3, e3, l3⟩ := (u_of (by have := mask_rng hr o2; omega) : ∃ a : Nat, x.amount = (a : Int) ∧ a < 2)
  obtain ⟨a4, e4, l4⟩ := (u_of (by have := mask_rng hr o2; omega) : ∃ a : Nat, x.imm = (a : Int) ∧ a < 64)
  obtain ⟨a5, e5, l5⟩ := (u_of (by have := mask_rng hr o2; omega) : ∃ a : Nat, x.imm2 = (a : Int) ∧ a < 64)
  exact ⟨a0, a1, a2, a3, a4, a5, l0, l1, l2, l3, l4, l5, h1.symm.trans (by rw [ho, e0, e1, e2, e2b, e3, e4, e5]; rfl)⟩
theorem form2_3 {x : InsnS} (hr : rngI x) (h : rightI x = true) (ho : x.op = 4) : takeI 3 (putI 3 (fBase 3) x) = x ∧ andU (putI 3 (fBase 3) x) (fMask 3) = fBase 3 ∧ ∃ W : Nat, W < 4294967296 ∧ putI 3 (fBase 3) x = (W : Int) := by
  obtain ⟨a0, a1, a2, a3, a4, a5, l0, l1, l2, l3, l4, l5, rfl⟩ := right_3 hr h ho
  exact again_3 a0 a1 a2 a3 a4 a5 l0 l1 l2 l3 l4 l5
theorem right_4 {x : InsnS} (hr : rngI x) (h : rightI x = true) (ho : x.op = 5) : ∃ a0 a1 a2 a3 : Nat, a0 < 32 ∧ a1 < 4 ∧ a2 < 65536 ∧ a3 < 4 ∧ x = X_4 a0 a1 a2 a3 := by
  rw [rightI_5 ho] at h
  obtain ⟨h1, ⟨hrd, hrn, hrm, hra⟩, hok⟩ := right_split h
  rw [only_4] at h1
  simp only [movWideOk, Bool.and_eq_true] at hok
  obtain ⟨⟨⟨o1, o2⟩, o3⟩, o4⟩ := hok
  obtain ⟨a0, e0, l0⟩ := (reg_of hrd : ∃ a : Nat, x.rd = (a : Int) ∧ a < 32)
  obtain ⟨a1, e1, l1⟩ := (within_u o1 (by decide) (by decide) : ∃ a : Nat, x.sub = (a : Int) ∧ a < 4)
  obtain ⟨a2, e2, l2⟩ := (within_u o3 (by decide) (by decide) : ∃ a : Nat, x.imm = (a : Int) ∧ a < 65536)
  obtain ⟨a3, e3, l3⟩ := (within_m16 o4 (by decide) (by decide) : ∃ a : Nat, x.amount = ((16 * a : Nat) : Int) ∧ a < 4)
  exact ⟨a0, a1, a2, a3, l0, l1, l2, l3, h1.symm.trans (by rw [ho, e0, e1, e2, e3]; rfl)⟩
theorem form2_4 {x : InsnS} (hr : rngI x) (h : rightI x = true) (ho : x.op = 5) : takeI 4 (putI 4 (fBase 4) x) = x ∧ andU (putI 4 (fBase 4) x) (fMask 4) = fBase 4 ∧ ∃ W : Nat, W < 4294967296 ∧ putI 4 (fBase 4) x = (W : Int) := by
  obtain ⟨a0, a1, a2, a3, l0, l1, l2, l3, rfl⟩ := right_4 hr h ho
  exact again_4 a0 a1 a2 a3 l0 l1 l2 l3
theorem right_5 {x : InsnS} (hr : rngI x) (h : rightI x = true) (ho : x.op = 6) : ∃ a0 a1 a2 a3 a4 : Nat, a0 < 32 ∧ a1 < 32 ∧ a2 < 4 ∧ a3 < 64 ∧ a4 < 64 ∧ x = X_5 a0 a1 a2 a3 a4 := by
  rw [rightI_6 ho] at h
  obtain ⟨h1, ⟨hrd, hrn, hrm, hra⟩, hok⟩ := right_split h
  rw [only_5] at h1
  simp only [bitfieldOk, Bool.and_eq_true] at hok
  obtain ⟨⟨o1, o2⟩, o3⟩ := hok
  obtain ⟨a0, e0, l0⟩ := (reg_of hrd : ∃ a : Nat, x.rd = (a : Int) ∧ a < 32)
  obtain ⟨a1, e1, l1⟩ := (reg_of hrn : ∃ a : Nat, x.rn = (a : Int) ∧ a < 32)
  obtain ⟨a2, e2, l2⟩ := (within_u o1 (by decide) (by decide) : ∃ a : Nat, x.sub = (a : Int) ∧ a < 4)
  obtain ⟨a3, e3, l3⟩ := (within_u o2 (by decide) (by decide) : ∃ a : Nat, x.imm = (a : Int) ∧ a < 64)
  obtain ⟨a4, e4, l4⟩ := (within_u o3 (by decide) (by decide) : ∃ a : Nat, x.imm2 = (a : Int) ∧ a < 64)
  exact ⟨a0, a1, a2, a3, a4, l0, l1, l2, l3, l4, h1.symm.trans (by rw [ho, e0, e1, e2, e3, e4]; rfl)⟩
theorem form2_5 {x : InsnS} (hr : rngI x) (h : rightI x = true) (ho : x.op = 6) : takeI 5 (putI 5 (fBase 5) x) = x ∧ andU (putI 5 (fBase 5) x) (fMask 5) = fBase 5 ∧ ∃ W : Nat, W < 4294967296 ∧ putI 5 (fBase 5) x = (W : Int) := by
  obtain ⟨a0, a1, a2, a3, a4, l0, l1, l2, l3, l4, rfl⟩ := right_5 hr h ho
  exact again_5 a0 a1 a2 a3 a4 l0 l1 l2 l3 l4
theorem right_6 {x : InsnS} (hr : rngI x) (h : rightI x = true) (ho : x.op = 7) : ∃ a0 a1 a2 a3 : Nat, a0 < 32 ∧ a1 < 32 ∧ a2 < 32 ∧ a3 < 4 ∧ x = X_6 a0 a1 a2 a3 := by
  rw [rightI_7 ho] at h
  obtain ⟨h1, ⟨hrd, hrn, hrm, hra⟩, hok⟩ := right_split h
  rw [only_6] at h1
  have o1 := hok
  obtain ⟨a0, e0, l0⟩ := (reg_of hrd : ∃ a : Nat, x.rd = (a : Int) ∧ a < 32)
  obtain ⟨a1, e1, l1⟩ := (reg_of hrn : ∃ a : Nat, x.rn = (a : Int) ∧ a < 32)
  obtain ⟨a2, e2, l2⟩ := (reg_of hrm : ∃ a : Nat, x.rm = (a : Int) ∧ a < 32)
  obtain ⟨a3, e3, l3⟩ := (inL_id o1 (by decide) : ∃ a : Nat, x.sub = (a : Int) ∧ a < 4)
  exact ⟨a0, a1, a2, a3, l0, l1, l2, l3, h1.symm.trans (by rw [ho, e0, e1, e2, e3]; rfl)⟩
theorem form2_6 {x : InsnS} (hr : rngI x) (h : rightI x = true) (ho : x.op = 7) : takeI 6 (putI 6 (fBase 6) x) = x ∧ andU (putI 6 (fBase 6) x) (fMask 6) = fBase 6 ∧ ∃ W : Nat, W < 4294967296 ∧ putI 6 (fBase 6) x = (W : Int) := by
  obtain ⟨a0, a1, a2, a3, l0, l1, l2, l3, rfl⟩ := right_6 hr h ho
  exact again_6 a0 a1 a2 a3 l0 l1 l2 l3
theorem right_7 {x : InsnS} (hr : rngI x) (h : rightI x = true) (ho : x.op = 8) : ∃ a0 a1 a2 a3 a4 : Nat, a0 < 32 ∧ a1 < 32 ∧ a2 < 32 ∧ a3 < 32 ∧ a4 < 2 ∧ x = X_7 a0 a1 a2 a3 a4 := by
  rw [rightI_8 ho] at h
  obtain ⟨h1, ⟨hrd, hrn, hrm, hra⟩, hok⟩ := right_split h
  rw [only_7] at h1
  have o1 := hok
  obtain ⟨a0, e0, l0⟩ := (reg_of hrd : ∃ a : Nat, x.rd = (a : Int) ∧ a < 32)
  obtain ⟨a1, e1, l1⟩ := (reg_of hrn : ∃ a : Nat, x.rn = (a : Int) ∧ a < 32)
  obtain ⟨a2, e2, l2⟩ := (reg_of hrm : ∃ a : Nat, x.rm = (a : Int) ∧ a < 32)
  obtain ⟨a3, e3, l3⟩ := (reg_of hra : ∃ a : Nat, x.ra = (a : Int) ∧ a < 32)
  obtain ⟨a4, e4, l4⟩ := eq1_of x.minus
  exact ⟨a0, a1, a2, a3, a4, l0, l1, l2, l3, l4, h1.symm.trans (by rw [ho, e0, e1, e2, e3, e4]; rfl)⟩
theorem form2_7 {x : InsnS} (hr : rngI x) (h : rightI x = true) (ho : x.op = 8) : takeI 7 (putI 7 (fBase 7) x) = x ∧ andU (putI 7 (fBase 7) x) (fMask 7) = fBase 7 ∧ ∃ W : Nat, W < 4294967296 ∧ putI 7 (fBase 7) x = (W : Int) := by
  obtain ⟨a0, a1, a2, a3, a4, l0, l1, l2, l3, l4, rfl⟩ := right_7 hr h ho
  exact again_7 a0 a1 a2 a3 a4 l0 l1 l2 l3 l4
theorem right_8 {x : InsnS} (hr : rngI x) (h : rightI x = true) (ho : x.op = 9) : ∃ a0 a1 a2 a3 : Nat, a0 < 32 ∧ a1 < 32 ∧ a2 < 32 ∧ a3 < 2 ∧ x = X_8 a0 a1 a2 a3 := by
  rw [rightI_9 ho] at h
  obtain ⟨h1, ⟨hrd, hrn, hrm, hra⟩, hok⟩ := right_split h
  rw [only_6] at h1
  have o1 := hok
  obtain ⟨a0, e0, l0⟩ := (reg_of hrd : ∃ a : Nat, x.rd = (a : Int) ∧ a < 32)
  obtain ⟨a1, e1, l1⟩ := (reg_of hrn : ∃ a : Nat, x.rn = (a : Int) ∧ a < 32)
  obtain ⟨a2, e2, l2⟩ := (reg_of hrm : ∃ a : Nat, x.rm = (a : Int) ∧ a < 32)
  obtain ⟨a3, e3, l3⟩ := (inL_id o1 (by decide) : ∃ a : Nat, x.sub = (a : Int) ∧ a < 2)
  exact ⟨a0, a1, a2, a3, l0, l1, l2, l3, h1.symm.trans (by rw [ho, e0, e1, e2, e3]; rfl)⟩
theorem form2_8 {x : InsnS} (hr : rngI x) (h : rightI x = true) (ho : x.op = 9) : takeI 8 (putI 8 (fBase 8) x) = x ∧ andU (putI 8 (fBase 8) x) (fMask 8) = fBase 8 ∧ ∃ W : Nat, W < 4294967296 ∧ putI 8 (fBase 8) x = (W : Int) := by
  obtain ⟨a0, a1, a2, a3, l0, l1, l2, l3, rfl⟩ := right_8 hr h ho
  exact again_8 a0 a1 a2 a3 l0 l1 l2 l3
theorem right_9 {x : InsnS} (hr : rngI x) (h : rightI x = true) (ho : x.op = 10) : ∃ a0 a1 a2 a3 a4 a5 : Nat, a0 < 32 ∧ a1 < 32 ∧ a2 < 32 ∧ a3 < 2 ∧ a4 < 2 ∧ a5 < 16 ∧ x = X_9 a0 a1 a2 a3 a4 a5 := by
  rw [rightI_10 ho] at h
  obtain ⟨h1, ⟨hrd, hrn, hrm, hra⟩, hok⟩ := right_split h
  rw [only_8] at h1
  simp only [selOk, Bool.and_eq_true] at hok
  obtain ⟨o1, o2⟩ := hok
  obtain ⟨a0, e0, l0⟩ := (reg_of hrd : ∃ a : Nat, x.rd = (a : Int) ∧ a < 32)
  obtain ⟨a1, e1, l1⟩ := (reg_of hrn : ∃ a : Nat, x.rn = (a : Int) ∧ a < 32)
  obtain ⟨a2, e2, l2⟩ := (reg_of hrm : ∃ a : Nat, x.rm = (a : Int) ∧ a < 32)
  obtain ⟨a3, a4, e3, l3, l4⟩ := sel_ex o1
  obtain ⟨a5, e5, l5⟩ := (within_u o2 (by decide) (by decide) : ∃ a : Nat, x.cond = (a : Int) ∧ a < 16)
  exact ⟨a0, a1, a2, a3, a4, a5, l0, l1, l2, l3, l4, l5, h1.symm.trans (by rw [ho, e0, e1, e2, e3, e5]; rfl)⟩
theorem form2_9 {x : InsnS} (hr : rngI x) (h : rightI x = true) (ho : x.op = 10) : takeI 9 (putI 9 (fBase 9) x) = x ∧ andU (putI 9 (fBase 9) x) (fMask 9) = fBase 9 ∧ ∃ W : Nat, W < 4294967296 ∧ putI 9 (fBase 9) x = (W : Int) := by
  obtain ⟨a0, a1, a2, a3, a4, a5, l0, l1, l2, l3, l4, l5, rfl⟩ := right_9 hr h ho
  exact again_9 a0 a1 a2 a3 a4 a5 l0 l1 l2 l3 l4 l5
theorem right_10 {x : InsnS} (hr : rngI x) (h : rightI x = true) (ho : x.op = 11) : ∃ a0 a1 a2 a3 : Nat, a0 < 32 ∧ a1 < 2 ∧ a2 < 4 ∧ a3 < 524288 ∧ x = X_10 a0 a1 a2 a3 := by
  rw [rightI_11 ho] at h
  obtain ⟨h1, ⟨hrd, hrn, hrm, hra⟩, hok⟩ := right_split h
  rw [only_9] at h1
  have o1 := hok
  obtain ⟨a0, e0, l0⟩ := (reg_of hrd : ∃ a : Nat, x.rd = (a : Int) ∧ a < 32)
  obtain ⟨a1, a2, a3, ⟨e1, e2⟩, l1, l2, l3⟩ := adr_ex o1
  exact ⟨a0, a1, a2, a3, l0, l1, l2, l3, h1.symm.trans (by rw [ho, e0, e1, e2]; rfl)⟩
theorem form2_10 {x : InsnS} (hr : rngI x) (h : rightI x = true) (ho : x.op = 11) : takeI 10 (putI 10 (fBase 10) x) = x ∧ andU (putI 10 (fBase 10) x) (fMask 10) = fBase 10 ∧ ∃ W : Nat, W < 4294967296 ∧ putI 10 (fBase 10) x = (W : Int) := by
  obtain ⟨a0, a1, a2, a3, l0, l1, l2, l3, rfl⟩ := right_10 hr h ho
  exact again_10 a0 a1 a2 a3 l0 l1 l2 l3
theorem right_11 {x : InsnS} (hr : rngI x) (h : rightI x = true) (ho : x.op = 12) : ∃ a0 a1 : Nat, a0 < 2 ∧ a1 < 67108864 ∧ x = X_11 a0 a1 := by
  rw [rightI_12 ho] at h
  obtain ⟨h1, ⟨hrd, hrn, hrm, hra⟩, hok⟩ := right_split h
  rw [only_10] at h1
  have o1 := hok
  obtain ⟨a0, e0, l0⟩ := eq1_of x.link
  obtain ⟨a1, e1, l1⟩ := (far_ex (H := 33554432) o1 (by decide +kernel) (by decide +kernel) rfl : ∃ a : Nat, x.imm = sxS 33554432 67108864 a ∧ a < 67108864)
  exact ⟨a0, a1, l0, l1, h1.symm.trans (by rw [ho, e0, e1]; rfl)⟩
theorem form2_11 {x : InsnS} (hr : rngI x) (h : rightI x = true) (ho : x.op = 12) : takeI 11 (putI 11 (fBase 11) x) = x ∧ andU (putI 11 (fBase 11) x) (fMask 11) = fBase 11 ∧ ∃ W : Nat, W < 4294967296 ∧ putI 11 (fBase 11) x = (W : Int) := by
  obtain ⟨a0, a1, l0, l1, rfl⟩ := right_11 hr h ho
  exact again_11 a0 a1 l0 l1
theorem right_12 {x : InsnS} (hr : rngI x) (h : rightI x = true) (ho : x.op = 13) : ∃ a0 a1 : Nat, a0 < 16 ∧ a1 < 524288 ∧ x = X_12 a0 a1 := by
  rw [rightI_13 ho] at h
  obtain ⟨h1, ⟨hrd, hrn, hrm, hra⟩, hok⟩ := right_split h
  rw [only_11] at h1
  simp only [bCondOk, Bool.and_eq_true] at hok
  obtain ⟨o1, o2⟩ := hok
  obtain ⟨a0, e0, l0⟩ := (within_u o1 (by decide) (by decide) : ∃ a : Nat, x.cond = (a : Int) ∧ a < 16)
  obtain ⟨a1, e1, l1⟩ := (far_ex (H := 262144) o2 (by decide +kernel) (by decide +kernel) rfl : ∃ a : Nat, x.imm = sxS 262144 524288 a ∧ a < 524288)
  exact ⟨a0, a1, l0, l1, h1.symm.trans (by rw [ho, e0, e1]; rfl)⟩
theorem form2_12 {x : InsnS} (hr : rngI x) (h : rightI x = true) (ho : x.op = 13) : takeI 12 (putI 12 (fBase 12) x) = x ∧ andU (putI 12 (fBase 12) x) (fMask 12) = fBase 12 ∧ ∃ W : Nat, W < 4294967296 ∧ putI 12 (fBase 12) x = (W : Int) := by
  obtain ⟨a0, a1, l0, l1, rfl⟩ := right_12 hr h ho
  exact again_12 a0 a1 l0 l1
theorem right_13 {x : InsnS} (hr : rngI x) (h : rightI x = true) (ho : x.op = 14) : ∃ a0 a1 a2 : Nat, a0 < 32 ∧ a1 < 2 ∧ a2 < 524288 ∧ x = X_13 a0 a1 a2 := by
  rw [rightI_14 ho] at h
  obtain ⟨h1, ⟨hrd, hrn, hrm, hra⟩, hok⟩ := right_split h
  rw [only_12] at h1
  have o1 := hok
  obtain ⟨a0, e0, l0⟩ := (reg_of hrd : ∃ a : Nat, x.rd = (a : Int) ∧ a < 32)
  obtain ⟨a1, e1, l1⟩ := has_of' x.not_
  obtain ⟨a2, e2, l2⟩ := (far_ex (H := 262144) o1 (by decide +kernel) (by decide +kernel) rfl : ∃ a : Nat, x.imm = sxS 262144 524288 a ∧ a < 524288)
  exact ⟨a0, a1, a2, l0, l1, l2, h1.symm.trans (by rw [ho, e0, e1, e2]; rfl)⟩
theorem form2_13 {x : InsnS} (hr : rngI x) (h : rightI x = true) (ho : x.op = 14) : takeI 13 (putI 13 (fBase 13) x) = x ∧ andU (putI 13 (fBase 13) x) (fMask 13) = fBase 13 ∧ ∃ W : Nat, W < 4294967296 ∧ putI 13 (fBase 13) x = (W : Int) := by
  obtain ⟨a0, a1, a2, l0, l1, l2, rfl⟩ := right_13 hr h ho
  exact again_13 a0 a1 a2 l0 l1 l2
theorem right_14 {x : InsnS} (hr : rngI x) (h : rightI x = true) (ho : x.op = 15) : ∃ a0 a1 a2 a3 a4 : Nat, a0 < 32 ∧ a1 < 2 ∧ a2 < 2 ∧ a3 < 32 ∧ a4 < 16384 ∧ x = X_14 a0 a1 a2 a3 a4 := by
  rw [rightI_15 ho] at h
  obtain ⟨h1, ⟨hrd, hrn, hrm, hra⟩, hok⟩ := right_split h
  rw [only_13] at h1
  simp only [tbzOk, Bool.and_eq_true] at hok
  obtain ⟨o1, o2⟩ := hok
  obtain ⟨a0, e0, l0⟩ := (reg_of hrd : ∃ a : Nat, x.rd = (a : Int) ∧ a < 32)
  obtain ⟨a1, e1, l1⟩ := has_of' x.not_
  obtain ⟨a2, a3, e2, l2, l3⟩ := tb_ex o1
  obtain ⟨a4, e4, l4⟩ := (far_ex (H := 8192) o2 (by decide +kernel) (by decide +kernel) rfl : ∃ a : Nat, x.imm = sxS 8192 16384 a ∧ a < 16384)
  exact ⟨a0, a1, a2, a3, a4, l0, l1, l2, l3, l4, h1.symm.trans (by rw [ho, e0, e1, e2, e4]; rfl)⟩
theorem form2_14 {x : InsnS} (hr : rngI x) (h : rightI x = true) (ho : x.op = 15) : takeI 14 (putI 14 (fBase 14) x) = x ∧ andU (putI 14 (fBase 14) x) (fMask 14) = fBase 14 ∧ ∃ W : Nat, W < 4294967296 ∧ putI 14 (fBase 14) x = (W : Int) := by
  obtain ⟨a0, a1, a2, a3, a4, l0, l1, l2, l3, l4, rfl⟩ := right_14 hr h ho
  exact again_14 a0 a1 a2 a3 a4 l0 l1 l2 l3 l4
theorem right_15 {x : InsnS} (hr : rngI x) (h : rightI x = true) (ho : x.op = 16) : ∃ a0 a1 : Nat, a0 < 32 ∧ a1 < 4 ∧ x = X_15 a0 a1 := by
  rw [rightI_16 ho] at h
  obtain ⟨h1, ⟨hrd, hrn, hrm, hra⟩, hok⟩ := right_split h
  rw [only_14] at h1
  have o1 := hok
  obtain ⟨a0, e0, l0⟩ := (reg_of hrn : ∃ a : Nat, x.rn = (a : Int) ∧ a < 32)
  obtain ⟨a1, e1, l1⟩ := (inL_id o1 (by decide) : ∃ a : Nat, x.sub = (a : Int) ∧ a < 4)
  exact ⟨a0, a1, l0, l1, h1.symm.trans (by rw [ho, e0, e1]; rfl)⟩
theorem form2_15 {x : InsnS} (hr : rngI x) (h : rightI x = true) (ho : x.op = 16) : takeI 15 (putI 15 (fBase 15) x) = x ∧ andU (putI 15 (fBase 15) x) (fMask 15) = fBase 15 ∧ ∃ W : Nat, W < 4294967296 ∧ putI 15 (fBase 15) x = (W : Int) := by
  obtain ⟨a0, a1, l0, l1, rfl⟩ := right_15 hr h ho
  exact again_15 a0 a1 l0 l1
theorem right_16 {x : InsnS} (hr : rngI x) (h : rightI x = true) (ho : x.op = 17) : ∃ a0 a1 a2 : Nat, a0 < 32 ∧ a1 < 32 ∧ a2 < 4096 ∧ x = X_16 a0 a1 a2 := by
  rw [rightI_17 ho] at h
  obtain ⟨h1, ⟨hrd, hrn, hrm, hra⟩, hok⟩ := right_split h
  rw [only_15] at h1
  simp only [ldrOk, Bool.and_eq_true] at hok
  have o1 := hok
  obtain ⟨a0, e0, l0⟩ := (reg_of hrd : ∃ a : Nat, x.rd = (a : Int) ∧ a < 32)
  obtain ⟨a1, e1, l1⟩ := (reg_of hrn : ∃ a : Nat, x.rn = (a : Int) ∧ a < 32)
  obtain ⟨a2, e2, l2⟩ := (within_m8 o1 (by decide) (by decide) : ∃ a : Nat, x.imm = ((8 * a : Nat) : Int) ∧ a < 4096)
  exact ⟨a0, a1, a2, l0, l1, l2, h1.symm.trans (by rw [ho, e0, e1, e2]; rfl)⟩
theorem form2_16 {x : InsnS} (hr : rngI x) (h : rightI x = true) (ho : x.op = 17) : takeI 16 (putI 16 (fBase 16) x) = x ∧ andU (putI 16 (fBase 16) x) (fMask 16) = fBase 16 ∧ ∃ W : Nat, W < 4294967296 ∧ putI 16 (fBase 16) x = (W : Int) := by
  obtain ⟨a0, a1, a2, l0, l1, l2, rfl⟩ := right_16 hr h ho
  exact again_16 a0 a1 a2 l0 l1 l2
theorem right_17 {x : InsnS} (hr : rngI x) (h : rightI x = true) (ho : x.op = 18) : ∃ a0 a1 a2 : Nat, a0 < 32 ∧ a1 < 32 ∧ a2 < 4096 ∧ x = X_17 a0 a1 a2 := by
  rw [rightI_18 ho] at h
  obtain ⟨h1, ⟨hrd, hrn, hrm, hra⟩, hok⟩ := right_split h
  rw [only_15] at h1
  simp only [ldrOk, Bool.and_eq_true] at hok
  have o1 := hok
  obtain ⟨a0, e0, l0⟩ := (reg_of hrd : ∃ a : Nat, x.rd = (a : Int) ∧ a < 32)
  obtain ⟨a1, e1, l1⟩ := (reg_of hrn : ∃ a : Nat, x.rn = (a : Int) ∧ a < 32)
  obtain ⟨a2, e2, l2⟩ := (within_m8 o1 (by decide) (by decide) : ∃ a : Nat, x.imm = ((8 * a : Nat) : Int) ∧ a < 4096)
  exact ⟨a0, a1, a2, l0, l1, l2, h1.symm.trans (by rw [ho, e0, e1, e2]; rfl)⟩
theorem form2_17 {x : InsnS} (hr : rngI x) (h : rightI x = true) (ho : x.op = 18) : takeI 17 (putI 17 (fBase 17) x) = x ∧ andU (putI 17 (fBase 17) x) (fMask 17) = fBase 17 ∧ ∃ W : Nat, W < 4294967296 ∧ putI 17 (fBase 17) x = (W : Int) := by
  obtain ⟨a0, a1, a2, l0, l1, l2, rfl⟩ := right_17 hr h ho
  exact again_17 a0 a1 a2 l0 l1 l2
theorem right_18 {x : InsnS} (hr : rngI x) (h : rightI x = true) (ho : x.op = 19) : ∃ a0 a1 a2 a3 : Nat, a0 < 32 ∧ a1 < 32 ∧ a2 < 32 ∧ a3 < 2 ∧ x = X_18 a0 a1 a2 a3 := by
  rw [rightI_19 ho] at h
  obtain ⟨h1, ⟨hrd, hrn, hrm, hra⟩, hok⟩ := right_split h
  rw [only_16] at h1
  simp only [ldrRegOk, Bool.and_eq_true] at hok
  have o1 := hok
  obtain ⟨a0, e0, l0⟩ := (reg_of hrd : ∃ a : Nat, x.rd = (a : Int) ∧ a < 32)
  obtain ⟨a1, e1, l1⟩ := (reg_of hrn : ∃ a : Nat, x.rn = (a : Int) ∧ a < 32)
  obtain ⟨a2, e2, l2⟩ := (reg_of hrm : ∃ a : Nat, x.rm = (a : Int) ∧ a < 32)
  obtain ⟨a3, e3, l3⟩ := (within_m3 o1 (by decide) (by decide) : ∃ a : Nat, x.amount = ((3 * a : Nat) : Int) ∧ a < 2)
  exact ⟨a0, a1, a2, a3, l0, l1, l2, l3, h1.symm.trans (by rw [ho, e0, e1, e2, e3]; rfl)⟩
theorem form2_18 {x : InsnS} (hr : rngI x) (h : rightI x = true) (ho : x.op = 19) : takeI 18 (putI 18 (fBase 18) x) = x ∧ andU (putI 18 (fBase 18) x) (fMask 18) = fBase 18 ∧ ∃ W : Nat, W < 4294967296 ∧ putI 18 (fBase 18) x = (W : Int) := by
  obtain ⟨a0, a1, a2, a3, l0, l1, l2, l3, rfl⟩ := right_18 hr h ho
  exact again_18 a0 a1 a2 a3 l0 l1 l2 l3
theorem right_19 {x : InsnS} (hr : rngI x) (h : rightI x = true) (ho : x.op = 20) : ∃ a0 a1 a2 a3 : Nat, a0 < 32 ∧ a1 < 32 ∧ a2 < 32 ∧ a3 < 2 ∧ x = X_19 a0 a1 a2 a3 := by
  rw [rightI_20 ho] at h
  obtain ⟨h1, ⟨hrd, hrn, hrm, hra⟩, hok⟩ := right_split h
  rw [only_16] at h1
  simp only [ldrRegOk, Bool.and_eq_true] at hok
  have o1 := hok
  obtain ⟨a0, e0, l0⟩ := (reg_of hrd : ∃ a : Nat, x.rd = (a : Int) ∧ a < 32)
  obtain ⟨a1, e1, l1⟩ := (reg_of hrn : ∃ a : Nat, x.rn = (a : Int) ∧ a < 32)
  obtain ⟨a2, e2, l2⟩ := (reg_of hrm : ∃ a : Nat, x.rm = (a : Int) ∧ a < 32)
  obtain ⟨a3, e3, l3⟩ := (within_m3 o1 (by decide) (by decide) : ∃ a : Nat, x.amount = ((3 * a : Nat) : Int) ∧ a < 2)
  exact ⟨a0, a1, a2, a3, l0, l1, l2, l3, h1.symm.trans (by rw [ho, e0, e1, e2, e3]; rfl)⟩
theorem form2_19 {x : InsnS} (hr : rngI x) (h : rightI x = true) (ho : x.op = 20) : takeI 19 (putI 19 (fBase 19) x) = x ∧ andU (putI 19 (fBase 19) x) (fMask 19) = fBase 19 ∧ ∃ W : Nat, W < 4294967296 ∧ putI 19 (fBase 19) x = (W : Int) := by
  obtain ⟨a0, a1, a2, a3, l0, l1, l2, l3, rfl⟩ := right_19 hr h ho
  exact again_19 a0 a1 a2 a3 l0 l1 l2 l3
theorem right_20 {x : InsnS} (hr : rngI x) (h : rightI x = true) (ho : x.op = 21) (hs : x.sub = 0) : ∃ a0 a1 : Nat, a0 < 32 ∧ a1 < 32 ∧ x = X_20 a0 a1 := by
  rw [rightI_21 ho] at h
  obtain ⟨h1, ⟨hrd, hrn, hrm, hra⟩, hok⟩ := right_split h
  rw [only_17] at h1
  have o1 := hok
  obtain ⟨a0, e0, l0⟩ := (reg_of hrd : ∃ a : Nat, x.rd = (a : Int) ∧ a < 32)
  obtain ⟨a1, e1, l1⟩ := (reg_of hrn : ∃ a : Nat, x.rn = (a : Int) ∧ a < 32)
  exact ⟨a0, a1, l0, l1, h1.symm.trans (by rw [ho, e0, e1, hs]; rfl)⟩
theorem form2_20 {x : InsnS} (hr : rngI x) (h : rightI x = true) (ho : x.op = 21) (hs : x.sub = 0) : takeI 20 (putI 20 (fBase 20) x) = x ∧ andU (putI 20 (fBase 20) x) (fMask 20) = fBase 20 ∧ ∃ W : Nat, W < 4294967296 ∧ putI 20 (fBase 20) x = (W : Int) := by
  obtain ⟨a0, a1, l0, l1, rfl⟩ := right_20 hr h ho hs
  exact again_20 a0 a1 l0 l1
theorem right_21 {x : InsnS} (hr : rngI x) (h : rightI x = true) (ho : x.op = 21) (hs : x.sub = 1) : ∃ a0 a1 : Nat, a0 < 32 ∧ a1 < 32 ∧ x = X_21 a0 a1 := by
  rw [rightI_21 ho] at h
  obtain ⟨h1, ⟨hrd, hrn, hrm, hra⟩, hok⟩ := right_split h
  rw [only_17] at h1
  have o1 := hok
  obtain ⟨a0, e0, l0⟩ := (reg_of hrd : ∃ a : Nat, x.rd = (a : Int) ∧ a < 32)
  obtain ⟨a1, e1, l1⟩ := (reg_of hrn : ∃ a : Nat, x.rn = (a : Int) ∧ a < 32)
  exact ⟨a0, a1, l0, l1, h1.symm.trans (by rw [ho, e0, e1, hs]; rfl)⟩
theorem form2_21 {x : InsnS} (hr : rngI x) (h : rightI x = true) (ho : x.op = 21) (hs : x.sub = 1) : takeI 21 (putI 21 (fBase 21) x) = x ∧ andU (putI 21 (fBase 21) x) (fMask 21) = fBase 21 ∧ ∃ W : Nat, W < 4294967296 ∧ putI 21 (fBase 21) x = (W : Int) := by
  obtain ⟨a0, a1, l0, l1, rfl⟩ := right_21 hr h ho hs
  exact again_21 a0 a1 l0 l1
theorem right_22 {x : InsnS} (hr : rngI x) (h : rightI x = true) (ho : x.op = 22) : ∃ a0 a1 : Nat, a0 < 32 ∧ a1 < 32 ∧ x = X_22 a0 a1 := by
  rw [rightI_22 ho] at h
  obtain ⟨h1, ⟨hrd, hrn, hrm, hra⟩, hok⟩ := right_split h
  rw [only_18] at h1
  have o1 := hok
  obtain ⟨a0, e0, l0⟩ := (reg_of hrd : ∃ a : Nat, x.rd = (a : Int) ∧ a < 32)
  obtain ⟨a1, e1, l1⟩ := (reg_of hrn : ∃ a : Nat, x.rn = (a : Int) ∧ a < 32)
  exact ⟨a0, a1, l0, l1, h1.symm.trans (by rw [ho, e0, e1]; rfl)⟩
theorem form2_22 {x : InsnS} (hr : rngI x) (h : rightI x = true) (ho : x.op = 22) : takeI 22 (putI 22 (fBase 22) x) = x ∧ andU (putI 22 (fBase 22) x) (fMask 22) = fBase 22 ∧ ∃ W : Nat, W < 4294967296 ∧ putI 22 (fBase 22) x = (W : Int) := by
  obtain ⟨a0, a1, l0, l1, rfl⟩ := right_22 hr h ho
  exact again_22 a0 a1 l0 l1
theorem right_23 {x : InsnS} (hr : rngI x) (h : rightI x = true) (ho : x.op = 23) : ∃ a0 a1 a2 : Nat, a0 < 32 ∧ a1 < 32 ∧ a2 < 2 ∧ x = X_23 a0 a1 a2 := by
  rw [rightI_23 ho] at h
  obtain ⟨h1, ⟨hrd, hrn, hrm, hra⟩, hok⟩ := right_split h
  rw [only_17] at h1
  have o1 := hok
  obtain ⟨a0, e0, l0⟩ := (reg_of hrd : ∃ a : Nat, x.rd = (a : Int) ∧ a < 32)
  obtain ⟨a1, e1, l1⟩ := (reg_of hrn : ∃ a : Nat, x.rn = (a : Int) ∧ a < 32)
  obtain ⟨a2, e2, l2⟩ := (inL_id o1 (by decide) : ∃ a : Nat, x.sub = (a : Int) ∧ a < 2)
  exact ⟨a0, a1, a2, l0, l1, l2, h1.symm.trans (by rw [ho, e0, e1, e2]; rfl)⟩
theorem form2_23 {x : InsnS} (hr : rngI x) (h : rightI x = true) (ho : x.op = 23) : takeI 23 (putI 23 (fBase 23) x) = x ∧ andU (putI 23 (fBase 23) x) (fMask 23) = fBase 23 ∧ ∃ W : Nat, W < 4294967296 ∧ putI 23 (fBase 23) x = (W : Int) := by
  obtain ⟨a0, a1, a2, l0, l1, l2, rfl⟩ := right_23 hr h ho
  exact again_23 a0 a1 a2 l0 l1 l2
theorem right_24 {x : InsnS} (hr : rngI x) (h : rightI x = true) (ho : x.op = 24) : ∃ a0 a1 a2 a3 : Nat, a0 < 32 ∧ a1 < 32 ∧ a2 < 32 ∧ a3 < 2 ∧ x = X_24 a0 a1 a2 a3 := by
  rw [rightI_24 ho] at h
  obtain ⟨h1, ⟨hrd, hrn, hrm, hra⟩, hok⟩ := right_split h
  rw [only_6] at h1
  have o1 := hok
  obtain ⟨a0, e0, l0⟩ := (reg_of hrd : ∃ a : Nat, x.rd = (a : Int) ∧ a < 32)
  obtain ⟨a1, e1, l1⟩ := (reg_of hrn : ∃ a : Nat, x.rn = (a : Int) ∧ a < 32)
  obtain ⟨a2, e2, l2⟩ := (reg_of hrm : ∃ a : Nat, x.rm = (a : Int) ∧ a < 32)
  obtain ⟨a3, e3, l3⟩ := (inL_id o1 (by decide) : ∃ a : Nat, x.sub = (a : Int) ∧ a < 2)
  exact ⟨a0, a1, a2, a3, l0, l1, l2, l3, h1.symm.trans (by rw [ho, e0, e1, e2, e3]; rfl)⟩
theorem form2_24 {x : InsnS} (hr : rngI x) (h : rightI x = true) (ho : x.op = 24) : takeI 24 (putI 24 (fBase 24) x) = x ∧ andU (putI 24 (fBase 24) x) (fMask 24) = fBase 24 ∧ ∃ W : Nat, W < 4294967296 ∧ putI 24 (fBase 24) x = (W : Int) := by
  obtain ⟨a0, a1, a2, a3, l0, l1, l2, l3, rfl⟩ := right_24 hr h ho
  exact again_24 a0 a1 a2 a3 l0 l1 l2 l3
theorem right_25 {x : InsnS} (hr : rngI x) (h : rightI x = true) (ho : x.op = 25) : x = X_25 := by
  rw [rightI_25 ho] at h
  obtain ⟨h1, ⟨hrd, hrn, hrm, hra⟩, hok⟩ := right_split h
  rw [only_19] at h1
  have o1 := hok
  exact h1.symm.trans (by rw [ho]; rfl)
theorem form2_25 {x : InsnS} (hr : rngI x) (h : rightI x = true) (ho : x.op = 25) : takeI 25 (putI 25 (fBase 25) x) = x ∧ andU (putI 25 (fBase 25) x) (fMask 25) = fBase 25 ∧ ∃ W : Nat, W < 4294967296 ∧ putI 25 (fBase 25) x = (W : Int) := by
  obtain rfl := right_25 hr h ho
  exact again_25
theorem right_26 {x : InsnS} (hr : rngI x) (h : rightI x = true) (ho : x.op = 26) (hs : x.sub = 0) : ∃ a0 : Nat, a0 < 4 ∧ x = X_26 a0 := by
  rw [rightI_26 ho] at h
  obtain ⟨h1, ⟨hrd, hrn, hrm, hra⟩, hok⟩ := right_split h
  rw [only_20] at h1
  simp only [dmbOk, Bool.and_eq_true] at hok
  obtain ⟨o1, o2⟩ := hok
  obtain ⟨a0, e0, l0⟩ := (within_u o2 (by decide) (by decide) : ∃ a : Nat, x.imm = (a : Int) ∧ a < 4)
  exact ⟨a0, l0, h1.symm.trans (by rw [ho, e0, hs]; rfl)⟩
theorem form2_26 {x : InsnS} (hr : rngI x) (h : rightI x = true) (ho : x.op = 26) (hs : x.sub = 0) : takeI 26 (putI 26 (fBase 26) x) = x ∧ andU (putI 26 (fBase 26) x) (fMask 26) = fBase 26 ∧ ∃ W : Nat, W < 4294967296 ∧ putI 26 (fBase 26) x = (W : Int) := by
  obtain ⟨a0, l0, rfl⟩ := right_26 hr h ho hs
  exact again_26 a0 l0
theorem right_27 {x : InsnS} (hr : rngI x) (h : rightI x = true) (ho : x.op = 26) (hs : x.sub = 1) : ∃ a0 : Nat, a0 < 4 ∧ x = X_27 a0 := by
  rw [rightI_26 ho] at h
  obtain ⟨h1, ⟨hrd, hrn, hrm, hra⟩, hok⟩ := right_split h
  rw [only_20] at h1
  simp only [dmbOk, Bool.and_eq_true] at hok
  obtain ⟨o1, o2⟩ := hok
  obtain ⟨a0, e0, l0⟩ := (within_u o2 (by decide) (by decide) : ∃ a : Nat, x.imm = (a : Int) ∧ a < 4)
  exact ⟨a0, l0, h1.symm.trans (by rw [ho, e0, hs]; rfl)⟩
theorem form2_27 {x : InsnS} (hr : rngI x) (h : rightI x = true) (ho : x.op = 26) (hs : x.sub = 1) : takeI 27 (putI 27 (fBase 27) x) = x ∧ andU (putI 27 (fBase 27) x) (fMask 27) = fBase 27 ∧ ∃ W : Nat, W < 4294967296 ∧ putI 27 (fBase 27) x = (W : Int) := by
  obtain ⟨a0, l0, rfl⟩ := right_27 hr h ho hs
  exact again_27 a0 l0
theorem right_28 {x : InsnS} (hr : rngI x) (h : rightI x = true) (ho : x.op = 27) : x = X_28 := by
  rw [rightI_27 ho] at h
  obtain ⟨h1, ⟨hrd, hrn, hrm, hra⟩, hok⟩ := right_split h
  rw [only_19] at h1
  have o1 := hok
  exact h1.symm.trans (by rw [ho]; rfl)
theorem form2_28 {x : InsnS} (hr : rngI x) (h : rightI x = true) (ho : x.op = 27) : takeI 28 (putI 28 (fBase 28) x) = x ∧ andU (putI 28 (fBase 28) x) (fMask 28) = fBase 28 ∧ ∃ W : Nat, W < 4294967296 ∧ putI 28 (fBase 28) x = (W : Int) := by
  obtain rfl := right_28 hr h ho
  exact again_28
theorem right_29 {x : InsnS} (hr : rngI x) (h : rightI x = true) (ho : x.op = 28) : ∃ a0 : Nat, a0 < 32 ∧ x = X_29 a0 := by
  rw [rightI_28 ho] at h
  obtain ⟨h1, ⟨hrd, hrn, hrm, hra⟩, hok⟩ := right_split h
  rw [only_21] at h1
  have o1 := hok
  obtain ⟨a0, e0, l0⟩ := (reg_of hrd : ∃ a : Nat, x.rd = (a : Int) ∧ a < 32)
  exact ⟨a0, l0, h1.symm.trans (by rw [ho, e0]; rfl)⟩
theorem form2_29 {x : InsnS} (hr : rngI x) (h : rightI x = true) (ho : x.op = 28) : takeI 29 (putI 29 (fBase 29) x) = x ∧ andU (putI 29 (fBase 29) x) (fMask 29) = fBase 29 ∧ ∃ W : Nat, W < 4294967296 ∧ putI 29 (fBase 29) x = (W : Int) := by
  obtain ⟨a0, l0, rfl⟩ := right_29 hr h ho
  exact again_29 a0 l0
theorem right_30 {x : InsnS} (hr : rngI x) (h : rightI x = true) (ho : x.op = 30) : ∃ a0 : Nat, a0 < 32 ∧ x = X_30 a0 := by
  rw [rightI_30 ho] at h
  obtain ⟨h1, ⟨hrd, hrn, hrm, hra⟩, hok⟩ := right_split h
  rw [only_21] at h1
  have o1 := hok
  obtain ⟨a0, e0, l0⟩ := (reg_of hrd : ∃ a : Nat, x.rd = (a : Int) ∧ a < 32)
  exact ⟨a0, l0, h1.symm.trans (by rw [ho, e0]; rfl)⟩
theorem form2_30 {x : InsnS} (hr : rngI x) (h : rightI x = true) (ho : x.op = 30) : takeI 30 (putI 30 (fBase 30) x) = x ∧ andU (putI 30 (fBase 30) x) (fMask 30) = fBase 30 ∧ ∃ W : Nat, W < 4294967296 ∧ putI 30 (fBase 30) x = (W : Int) := by
  obtain ⟨a0, l0, rfl⟩ := right_30 hr h ho
  exact again_30 a0 l0
theorem right_31 {x : InsnS} (hr : rngI x) (h : rightI x = true) (ho : x.op = 29) : x = X_31 := by
  rw [rightI_29 ho] at h
  obtain ⟨h1, ⟨hrd, hrn, hrm, hra⟩, hok⟩ := right_split h
  rw [only_19] at h1
  have o1 := hok
  exact h1.symm.trans (by rw [ho]; rfl)
theorem form2_31 {x : InsnS} (hr : rngI x) (h : rightI x = true) (ho : x.op = 29) : takeI 31 (putI 31 (fBase 31) x) = x ∧ andU (putI 31 (fBase 31) x) (fMask 31) = fBase 31 ∧ ∃ W : Nat, W < 4294967296 ∧ putI 31 (fBase 31) x = (W : Int) := by
  obtain rfl := right_31 hr h ho
  exact again_31
theorem right_32 {x : InsnS} (hr : rngI x) (h : rightI x = true) (ho : x.op = 31) : ∃ a0 a1 : Nat, a0 < 32 ∧ a1 < 32768 ∧ x = X_32 a0 a1 := by
  rw [rightI_31 ho] at h
  obtain ⟨h1, ⟨hrd, hrn, hrm, hra⟩, hok⟩ := right_split h
  rw [only_22] at h1
  have o1 := hok
  obtain ⟨a0, e0, l0⟩ := (reg_of hrd : ∃ a : Nat, x.rd = (a : Int) ∧ a < 32)
  obtain ⟨a1, e1, l1⟩ := (sys_of o1 : ∃ a : Nat, x.sys = (a : Int) ∧ a < 32768)
  exact ⟨a0, a1, l0, l1, h1.symm.trans (by rw [ho, e0, e1]; rfl)⟩
theorem form2_32 {x : InsnS} (hr : rngI x) (h : rightI x = true) (ho : x.op = 31) : takeI 32 (putI 32 (fBase 32) x) = x ∧ andU (putI 32 (fBase 32) x) (fMask 32) = fBase 32 ∧ ∃ W : Nat, W < 4294967296 ∧ putI 32 (fBase 32) x = (W : Int) := by
  obtain ⟨a0, a1, l0, l1, rfl⟩ := right_32 hr h ho
  exact again_32 a0 a1 l0 l1
theorem right_33 {x : InsnS} (hr : rngI x) (h : rightI x = true) (ho : x.op = 32) : ∃ a0 a1 : Nat, a0 < 32 ∧ a1 < 32768 ∧ x = X_33 a0 a1 := by
  rw [rightI_32 ho] at h
  obtain ⟨h1, ⟨hrd, hrn, hrm, hra⟩, hok⟩ := right_split h
  rw [only_22] at h1
  have o1 := hok
  obtain ⟨a0, e0, l0⟩ := (reg_of hrd : ∃ a : Nat, x.rd = (a : Int) ∧ a < 32)
  obtain ⟨a1, e1, l1⟩ := (sys_of o1 : ∃ a : Nat, x.sys = (a : Int) ∧ a < 32768)
  exact ⟨a0, a1, l0, l1, h1.symm.trans (by rw [ho, e0, e1]; rfl)⟩
theorem form2_33 {x : InsnS} (hr : rngI x) (h : rightI x = true) (ho : x.op = 32) : takeI 33 (putI 33 (fBase 33) x) = x ∧ andU (putI 33 (fBase 33) x) (fMask 33) = fBase 33 ∧ ∃ W : Nat, W < 4294967296 ∧ putI 33 (fBase 33) x = (W : Int) := by
  obtain ⟨a0, a1, l0, l1, rfl⟩ := right_33 hr h ho
  exact again_33 a0 a1 l0 l1
theorem right_34 {x : InsnS} (hr : rngI x) (h : rightI x = true) (ho : x.op = 33) (hs : x.sub = 0) : ∃ a0 : Nat, a0 < 16 ∧ x = X_34 a0 := by
  rw [rightI_33 ho] at h
  obtain ⟨h1, ⟨hrd, hrn, hrm, hra⟩, hok⟩ := right_split h
  rw [only_20] at h1
  simp only [msrMaskOk, Bool.and_eq_true] at hok
  obtain ⟨o1, o2⟩ := hok
  obtain ⟨a0, e0, l0⟩ := (within_u o2 (by decide) (by decide) : ∃ a : Nat, x.imm = (a : Int) ∧ a < 16)
  exact ⟨a0, l0, h1.symm.trans (by rw [ho, e0, hs]; rfl)⟩
theorem form2_34 {x : InsnS} (hr : rngI x) (h : rightI x = true) (ho : x.op = 33) (hs : x.sub = 0) : takeI 34 (putI 34 (fBase 34) x) = x ∧ andU (putI 34 (fBase 34) x) (fMask 34) = fBase 34 ∧ ∃ W : Nat, W < 4294967296 ∧ putI 34 (fBase 34) x = (W : Int) := by
  obtain ⟨a0, l0, rfl⟩ := right_34 hr h ho hs
  exact again_34 a0 l0
theorem right_35 {x : InsnS} (hr : rngI x) (h : rightI x = true) (ho : x.op = 33) (hs : x.sub = 1) : ∃ a0 : Nat, a0 < 16 ∧ x = X_35 a0 := by
  rw [rightI_33 ho] at h
  obtain ⟨h1, ⟨hrd, hrn, hrm, hra⟩, hok⟩ := right_split h
  rw [only_20] at h1
  simp only [msrMaskOk, Bool.and_eq_true] at hok
  obtain ⟨o1, o2⟩ := hok
  obtain ⟨a0, e0, l0⟩ := (within_u o2 (by decide) (by decide) : ∃ a : Nat, x.imm = (a : Int) ∧ a < 16)
  exact ⟨a0, l0, h1.symm.trans (by rw [ho, e0, hs]; rfl)⟩
theorem form2_35 {x : InsnS} (hr : rngI x) (h : rightI x = true) (ho : x.op = 33) (hs : x.sub = 1) : takeI 35 (putI 35 (fBase 35) x) = x ∧ andU (putI 35 (fBase 35) x) (fMask 35) = fBase 35 ∧ ∃ W : Nat, W < 4294967296 ∧ putI 35 (fBase 35) x = (W : Int) := by
  obtain ⟨a0, l0, rfl⟩ := right_35 hr h ho hs
  exact again_35 a0 l0
theorem right_36 {x : InsnS} (hr : rngI x) (h : rightI x = true) (ho : x.op = 34) : ∃ a0 : Nat, a0 < 65536 ∧ x = X_36 a0 := by
  rw [rightI_34 ho] at h
  obtain ⟨h1, ⟨hrd, hrn, hrm, hra⟩, hok⟩ := right_split h
  rw [only_23] at h1
  simp only [svcOk, Bool.and_eq_true] at hok
  have o1 := hok
  obtain ⟨a0, e0, l0⟩ := (within_u o1 (by decide) (by decide) : ∃ a : Nat, x.imm = (a : Int) ∧ a < 65536)
  exact ⟨a0, l0, h1.symm.trans (by rw [ho, e0]; rfl)⟩
theorem form2_36 {x : InsnS} (hr : rngI x) (h : rightI x = true) (ho : x.op = 34) : takeI 36 (putI 36 (fBase 36) x) = x ∧ andU (putI 36 (fBase 36) x) (fMask 36) = fBase 36 ∧ ∃ W : Nat, W < 4294967296 ∧ putI 36 (fBase 36) x = (W : Int) := by
  obtain ⟨a0, l0, rfl⟩ := right_36 hr h ho
  exact again_36 a0 l0
theorem right_37 {x : InsnS} (hr : rngI x) (h : rightI x = true) (ho : x.op = 35) : ∃ a0 : Nat, a0 < 65536 ∧ x = X_37 a0 := by
  rw [rightI_35 ho] at h
  obtain ⟨h1, ⟨hrd, hrn, hrm, hra⟩, hok⟩ := right_split h
  rw [only_23] at h1
  simp only [svcOk, Bool.and_eq_true] at hok
  have o1 := hok
  obtain ⟨a0, e0, l0⟩ := (within_u o1 (by decide) (by decide) : ∃ a : Nat, x.imm = (a : Int) ∧ a < 65536)
  exact ⟨a0, l0, h1.symm.trans (by rw [ho, e0]; rfl)⟩
theorem form2_37 {x : InsnS} (hr : rngI x) (h : rightI x = true) (ho : x.op = 35) : takeI 37 (putI 37 (fBase 37) x) = x ∧ andU (putI 37 (fBase 37) x) (fMask 37) = fBase 37 ∧ ∃ W : Nat, W < 4294967296 ∧ putI 37 (fBase 37) x = (W : Int) := by
  obtain ⟨a0, l0, rfl⟩ := right_37 hr h ho
  exact again_37 a0 l0
theorem right_38 {x : InsnS} (hr : rngI x) (h : rightI x = true) (ho : x.op = 36) : x = X_38 := by
  rw [rightI_36 ho] at h
  obtain ⟨h1, ⟨hrd, hrn, hrm, hra⟩, hok⟩ := right_split h
  rw [only_19] at h1
  have o1 := hok
  exact h1.symm.trans (by rw [ho]; rfl)
theorem form2_38 {x : InsnS} (hr : rngI x) (h : rightI x = true) (ho : x.op = 36) : takeI 38 (putI 38 (fBase 38) x) = x ∧ andU (putI 38 (fBase 38) x) (fMask 38) = fBase 38 ∧ ∃ W : Nat, W < 4294967296 ∧ putI 38 (fBase 38) x = (W : Int) := by
  obtain rfl := right_38 hr h ho
  exact again_38
theorem right_39 {x : InsnS} (hr : rngI x) (h : rightI x = true) (ho : x.op = 37) : ∃ a0 : Nat, a0 < 8 ∧ x = X_39 a0 := by
  rw [rightI_37 ho] at h
  obtain ⟨h1, ⟨hrd, hrn, hrm, hra⟩, hok⟩ := right_split h
  rw [only_23] at h1
  simp only [hintOk, Bool.and_eq_true] at hok
  have o1 := hok
  obtain ⟨a0, e0, l0⟩ := (within_u o1 (by decide) (by decide) : ∃ a : Nat, x.imm = (a : Int) ∧ a < 8)
  exact ⟨a0, l0, h1.symm.trans (by rw [ho, e0]; rfl)⟩
theorem form2_39 {x : InsnS} (hr : rngI x) (h : rightI x = true) (ho : x.op = 37) : takeI 39 (putI 39 (fBase 39) x) = x ∧ andU (putI 39 (fBase 39) x) (fMask 39) = fBase 39 ∧ ∃ W : Nat, W < 4294967296 ∧ putI 39 (fBase 39) x = (W : Int) := by
  obtain ⟨a0, l0, rfl⟩ := right_39 hr h ho
  exact again_39 a0 l0
end Go.Proofs.YteikpddilabppaaGreatR
