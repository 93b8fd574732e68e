/- CodeEncodes: for every Insn, understudylaw03.CodeEncodes answers true and its arguments read behind the call as before; no condition. -/
import Derived.Test.YteikpddilabppaaGreatRZef
import Derived.Test.YteikpddilabppaaGreatRRows
namespace Go.Proofs.YteikpddilabppaaGreatR
open Go.AM
set_option maxRecDepth 100000
theorem regs_rng {x : InsnS} (h : regsOk x 4 0 = true) : (0 ≤ x.rd ∧ x.rd ≤ 31) ∧ (0 ≤ x.rn ∧ x.rn ≤ 31) ∧ (0 ≤ x.rm ∧ x.rm ≤ 31) ∧ (0 ≤ x.ra ∧ x.ra ≤ 31) := by
  have e : regsOk x 4 0 = (!badR x.rd && (!badR x.rn && (!badR x.rm && (!badR x.ra && true)))) := rfl
  rw [e] at h
  simp only [badR, Bool.and_eq_true, Bool.not_eq_true', Bool.or_eq_false_iff, decide_eq_false_iff_not] at h
  omega
theorem right_split {x : InsnS} {f : ByteArray} {ok : Bool} (h : rightB x f ok = true) : onlyS x f = x ∧ ((0 ≤ x.rd ∧ x.rd ≤ 31) ∧ (0 ≤ x.rn ∧ x.rn ≤ 31) ∧ (0 ≤ x.rm ∧ x.rm ≤ 31) ∧ (0 ≤ x.ra ∧ x.ra ≤ 31)) ∧ ok = true := by
  unfold rightB at h
  simp only [Bool.and_eq_true] at h
  exact ⟨(eqI_iff _ _).1 h.1, regs_rng h.2.1, h.2.2⟩
theorem u_of {n : Int} {P : Nat} (h : 0 ≤ n ∧ n < (P : Int)) : ∃ a : Nat, n = (a : Int) ∧ a < P := ⟨n.toNat, by omega, by omega⟩
theorem reg_of {n : Int} (h : 0 ≤ n ∧ n ≤ 31) : ∃ a : Nat, n = (a : Int) ∧ a < 32 := ⟨n.toNat, by omega, by omega⟩
theorem within_rng {n o a b : Int} (h : withinS n o a b = true) : a ≤ n ∧ n ≤ b := by
  unfold withinS at h
  simp only [Bool.and_eq_true, decide_eq_true_eq, beq_iff_eq, ge_iff_le] at h
  exact h.1
theorem within_dvd {n o a b : Int} (h : withinS n o a b = true) : o ∣ n := by
  unfold withinS at h
  simp only [Bool.and_eq_true, decide_eq_true_eq, beq_iff_eq, ge_iff_le] at h
  exact Int.dvd_of_tmod_eq_zero h.2
theorem within_u {n o a b : Int} {P : Nat} (h : withinS n o a b = true) (ha : 0 ≤ a) (hb : b < (P : Int)) : ∃ a : Nat, n = (a : Int) ∧ a < P := by
  have := within_rng h
  exact u_of (by omega)
theorem has_of' (b : Bool) : ∃ a : Nat, b = decide (a = 1) ∧ a < 2 := by
  cases b
  · exact ⟨0, rfl, by decide⟩
  · exact ⟨1, rfl, by decide⟩
theorem eq1_of (b : Bool) : ∃ a : Nat, b = ((a : Int) == 1) ∧ a < 2 := by
  cases b
  · exact ⟨0, rfl, by decide⟩
  · exact ⟨1, rfl, by decide⟩
theorem idx_some {f : Nat → Int} {v : Int} : ∀ (n i : Nat), idxL f v n i ≥ 0 → ∃ k, i ≤ k ∧ k < i + n ∧ v = f k
  | 0, i, h => absurd h (by show ¬ ((-1 : Int) ≥ 0); decide)
  | n + 1, i, h => by
    unfold idxL at h
    by_cases e : v = f i
    · exact ⟨i, Nat.le_refl _, by omega, e⟩
    · rw [if_neg e] at h
      obtain ⟨k, h1, h2, h3⟩ := idx_some n (i + 1) h
      exact ⟨k, by omega, by omega, h3⟩
theorem inL_id {n : Nat} {v : Int} {P : Nat} (h : inL (fun i => (i : Int)) n v = true) (hP : n ≤ P) : ∃ a : Nat, v = (a : Int) ∧ a < P := by
  obtain ⟨k, _, h2, h3⟩ := idx_some n 0 (of_decide_eq_true h)
  exact ⟨k, h3, by omega⟩
theorem sys_dec : ∀ k : Fin 18, 0 ≤ sysL k.val ∧ sysL k.val < ((32768 : Nat) : Int) := by decide +kernel
theorem sys_of {x : InsnS} (h : sysOk x = true) : ∃ a : Nat, x.sys = (a : Int) ∧ a < 32768 := by
  obtain ⟨k, _, h2, h3⟩ := idx_some 18 0 (of_decide_eq_true (show decide (idxL sysL x.sys 18 0 ≥ 0) = true from h))
  rw [h3]
  exact u_of (sys_dec ⟨k, by omega⟩)
theorem logic_ex {x : InsnS} (h : logicOk x = true) : ∃ a : Nat, (x.sub = (if (a : Int) = 3 then 0 else (a : Int)) ∧ x.flags = ((a : Int) == 3)) ∧ a < 4 := by
  unfold logicOk at h
  simp only [Bool.and_eq_true, Bool.or_eq_true, beq_iff_eq, Bool.not_eq_true'] at h
  have hr := within_rng h.1
  cases hf : x.flags with
  | true =>
    rcases h.2 with e | e
    · rw [hf] at e; cases e
    · exact ⟨3, ⟨e, rfl⟩, by decide⟩
  | false =>
    refine ⟨x.sub.toNat, ⟨?_, ?_⟩, by omega⟩
    · rw [if_neg (by omega)]; omega
    · symm
      rw [beq_eq_false_iff_ne]
      omega
theorem far_ex {x : InsnS} {b : Int} {H P : Nat} (h : farS b x = true) (hb : IntKind.i64.wrap (-1 * 2 ^ min b.toNat IntKind.i64.bits) = -(4 * (H : Int))) (hb' : IntKind.i64.wrap (IntKind.i64.wrap (1 * 2 ^ min b.toNat IntKind.i64.bits) - 4) = 4 * (H : Int) - 4) (hP : P = 2 * H) : ∃ a : Nat, x.imm = sxS H P a ∧ a < P := by
  unfold farS at h
  rw [hb, hb'] at h
  have h1 := within_rng h
  obtain ⟨q, hq⟩ := within_dvd h
  subst hP
  by_cases h0 : 0 ≤ q
  · refine ⟨q.toNat, ?_, by omega⟩
    unfold sxS sg
    rw [if_pos (by omega)]
    omega
  · refine ⟨(q + 2 * (H : Int)).toNat, ?_, by omega⟩
    unfold sxS sg
    rw [if_neg (by omega)]
    omega
theorem adrP_ex {v : Int} (h : -1048576 ≤ v) (h' : v < 1048576) : ∃ lo hi : Nat, v = adrP lo hi ∧ lo < 4 ∧ hi < 524288 := by
  by_cases h0 : 0 ≤ v
  · refine ⟨(v % 4).toNat, (v / 4).toNat, ?_, by omega, by omega⟩
    unfold adrP sg
    rw [if_pos (by omega)]
    omega
  · refine ⟨(v % 4).toNat, (v / 4 + 524288).toNat, ?_, by omega, by omega⟩
    unfold adrP sg
    rw [if_neg (by omega)]
    omega
theorem adr_ex {x : InsnS} (h : adrOk x = true) : ∃ s lo hi : Nat, (x.sub = (s : Int) ∧ x.imm = adrX s lo hi) ∧ s < 2 ∧ lo < 4 ∧ hi < 524288 := by
  unfold adrOk at h
  simp only [Bool.and_eq_true, Bool.or_eq_true, beq_iff_eq] at h
  rcases h with ⟨h1, h2⟩ | ⟨h1, h2⟩
  · have := within_rng h2
    obtain ⟨lo, hi, e, hl, hh⟩ := adrP_ex (v := x.imm) (by omega) (by omega)
    exact ⟨0, lo, hi, ⟨h1, e⟩, by decide, hl, hh⟩
  · have := within_rng h2
    obtain ⟨q, hq⟩ := within_dvd h2
    obtain ⟨lo, hi, e, hl, hh⟩ := adrP_ex (v := q) (by omega) (by omega)
    exact ⟨1, lo, hi, ⟨h1, by rw [hq, e]; rfl⟩, by decide, hl, hh⟩
theorem sel_ex {n : Int} (h : withinS n 1 0 3 = true) : ∃ a b : Nat, n = ((2 * a + b : Nat) : Int) ∧ a < 2 ∧ b < 2 := by
  have := within_rng h
  exact ⟨n.toNat / 2, n.toNat % 2, by omega, by omega, by omega⟩
theorem tb_ex {n : Int} (h : withinS n 1 0 63 = true) : ∃ a b : Nat, n = ((32 * a + b : Nat) : Int) ∧ a < 2 ∧ b < 32 := by
  have := within_rng h
  exact ⟨n.toNat / 32, n.toNat % 32, by omega, by omega, by omega⟩
theorem orS_rng {n b : Int} (hb : 0 ≤ b) (hb' : b < 64) (h0 : -9223372036854775808 ≤ n) (h1 : n < 9223372036854775808) (h : (orS n b != b) = false) : 0 ≤ n ∧ n ≤ b := by
  have h2 := orS_le hb hb' h
  rw [BitVec.toNat_ofInt] at h2
  have h3 : ((n % ((2 : Nat) ^ 64 : Nat) : Int)).toNat ≤ b.toNat := h2
  have e : (((2 : Nat) ^ 64 : Nat) : Int) = 18446744073709551616 := by decide
  rw [e] at h3
  omega
theorem mask_rng {x : InsnS} (hr : rngI x) (h : (maskE x.amount x.imm x.imm2 == 0) = true) : (0 ≤ x.amount ∧ x.amount ≤ 1) ∧ (0 ≤ x.imm ∧ x.imm ≤ 63) ∧ (0 ≤ x.imm2 ∧ x.imm2 ≤ 63) := by
  have h1 := maskE_ok (by simpa using h)
  simp only [Bool.or_eq_false_iff] at h1
  exact ⟨orS_rng (by decide) (by decide) hr.1.1 hr.1.2 h1.1.1, orS_rng (by decide) (by decide) hr.2.1.1 hr.2.1.2 h1.1.2, orS_rng (by decide) (by decide) hr.2.2.1 hr.2.2.2 h1.2⟩
theorem within_m3 {n a b : Int} {P : Nat} (h : withinS n 3 a b = true) (ha : 0 ≤ a) (hb : b < 3 * (P : Int)) : ∃ a : Nat, n = ((3 * a : Nat) : Int) ∧ a < P := by
  have h1 := within_rng h
  obtain ⟨q, hq⟩ := within_dvd h
  exact ⟨q.toNat, by omega, by omega⟩
theorem within_m8 {n a b : Int} {P : Nat} (h : withinS n 8 a b = true) (ha : 0 ≤ a) (hb : b < 8 * (P : Int)) : ∃ a : Nat, n = ((8 * a : Nat) : Int) ∧ a < P := by
  have h1 := within_rng h
  obtain ⟨q, hq⟩ := within_dvd h
  exact ⟨q.toNat, by omega, by omega⟩
theorem within_m12 {n a b : Int} {P : Nat} (h : withinS n 12 a b = true) (ha : 0 ≤ a) (hb : b < 12 * (P : Int)) : ∃ a : Nat, n = ((12 * a : Nat) : Int) ∧ a < P := by
  have h1 := within_rng h
  obtain ⟨q, hq⟩ := within_dvd h
  exact ⟨q.toNat, by omega, by omega⟩
theorem within_m16 {n a b : Int} {P : Nat} (h : withinS n 16 a b = true) (ha : 0 ≤ a) (hb : b < 16 * (P : Int)) : ∃ a : Nat, n = ((16 * a : Nat) : Int) ∧ a < P := by
  have h1 := within_rng h
  obtain ⟨q, hq⟩ := within_dvd h
  exact ⟨q.toNat, by omega, by omega⟩
theorem only_0 (x : InsnS) : onlyS x ⟨#[100, 110, 105, 107, 70, 77]⟩ = ⟨x.op, 0, x.rd, x.rn, 0, 0, x.imm, 0, x.amount, 0, 0, 0, x.flags, x.minus, false, false⟩ := by kernel_rfl
theorem only_1 (x : InsnS) : onlyS x ⟨#[100, 110, 109, 116, 107, 70, 77]⟩ = ⟨x.op, 0, x.rd, x.rn, x.rm, 0, 0, 0, x.amount, x.shift, 0, 0, x.flags, x.minus, false, false⟩ := by kernel_rfl
theorem only_2 (x : InsnS) : onlyS x ⟨#[100, 110, 109, 115, 116, 107, 70, 78]⟩ = ⟨x.op, x.sub, x.rd, x.rn, x.rm, 0, 0, 0, x.amount, x.shift, 0, 0, x.flags, false, x.not_, false⟩ := by kernel_rfl
theorem only_3 (x : InsnS) : onlyS x ⟨#[100, 110, 115, 107, 105, 106, 70]⟩ = ⟨x.op, x.sub, x.rd, x.rn, 0, 0, x.imm, x.imm2, x.amount, 0, 0, 0, x.flags, false, false, false⟩ := by kernel_rfl
theorem only_4 (x : InsnS) : onlyS x ⟨#[100, 115, 105, 107]⟩ = ⟨x.op, x.sub, x.rd, 0, 0, 0, x.imm, 0, x.amount, 0, 0, 0, false, false, false, false⟩ := by kernel_rfl
theorem only_5 (x : InsnS) : onlyS x ⟨#[100, 110, 115, 105, 106]⟩ = ⟨x.op, x.sub, x.rd, x.rn, 0, 0, x.imm, x.imm2, 0, 0, 0, 0, false, false, false, false⟩ := by kernel_rfl
theorem only_6 (x : InsnS) : onlyS x ⟨#[100, 110, 109, 115]⟩ = ⟨x.op, x.sub, x.rd, x.rn, x.rm, 0, 0, 0, 0, 0, 0, 0, false, false, false, false⟩ := by kernel_rfl
theorem only_7 (x : InsnS) : onlyS x ⟨#[100, 110, 109, 97, 77]⟩ = ⟨x.op, 0, x.rd, x.rn, x.rm, x.ra, 0, 0, 0, 0, 0, 0, false, x.minus, false, false⟩ := by kernel_rfl
theorem only_8 (x : InsnS) : onlyS x ⟨#[100, 110, 109, 115, 99]⟩ = ⟨x.op, x.sub, x.rd, x.rn, x.rm, 0, 0, 0, 0, 0, x.cond, 0, false, false, false, false⟩ := by kernel_rfl
theorem only_9 (x : InsnS) : onlyS x ⟨#[100, 115, 105]⟩ = ⟨x.op, x.sub, x.rd, 0, 0, 0, x.imm, 0, 0, 0, 0, 0, false, false, false, false⟩ := by kernel_rfl
theorem only_10 (x : InsnS) : onlyS x ⟨#[105, 76]⟩ = ⟨x.op, 0, 0, 0, 0, 0, x.imm, 0, 0, 0, 0, 0, false, false, false, x.link⟩ := by kernel_rfl
theorem only_11 (x : InsnS) : onlyS x ⟨#[99, 105]⟩ = ⟨x.op, 0, 0, 0, 0, 0, x.imm, 0, 0, 0, x.cond, 0, false, false, false, false⟩ := by kernel_rfl
theorem only_12 (x : InsnS) : onlyS x ⟨#[100, 105, 78]⟩ = ⟨x.op, 0, x.rd, 0, 0, 0, x.imm, 0, 0, 0, 0, 0, false, false, x.not_, false⟩ := by kernel_rfl
theorem only_13 (x : InsnS) : onlyS x ⟨#[100, 105, 107, 78]⟩ = ⟨x.op, 0, x.rd, 0, 0, 0, x.imm, 0, x.amount, 0, 0, 0, false, false, x.not_, false⟩ := by kernel_rfl
theorem only_14 (x : InsnS) : onlyS x ⟨#[110, 115]⟩ = ⟨x.op, x.sub, 0, x.rn, 0, 0, 0, 0, 0, 0, 0, 0, false, false, false, false⟩ := by kernel_rfl
theorem only_15 (x : InsnS) : onlyS x ⟨#[100, 110, 105]⟩ = ⟨x.op, 0, x.rd, x.rn, 0, 0, x.imm, 0, 0, 0, 0, 0, false, false, false, false⟩ := by kernel_rfl
theorem only_16 (x : InsnS) : onlyS x ⟨#[100, 110, 109, 107]⟩ = ⟨x.op, 0, x.rd, x.rn, x.rm, 0, 0, 0, x.amount, 0, 0, 0, false, false, false, false⟩ := by kernel_rfl
theorem only_17 (x : InsnS) : onlyS x ⟨#[100, 110, 115]⟩ = ⟨x.op, x.sub, x.rd, x.rn, 0, 0, 0, 0, 0, 0, 0, 0, false, false, false, false⟩ := by kernel_rfl
theorem only_18 (x : InsnS) : onlyS x ⟨#[100, 110]⟩ = ⟨x.op, 0, x.rd, x.rn, 0, 0, 0, 0, 0, 0, 0, 0, false, false, false, false⟩ := by kernel_rfl
theorem only_19 (x : InsnS) : onlyS x ⟨#[]⟩ = ⟨x.op, 0, 0, 0, 0, 0, 0, 0, 0, 0, 0, 0, false, false, false, false⟩ := by kernel_rfl
theorem only_20 (x : InsnS) : onlyS x ⟨#[115, 105]⟩ = ⟨x.op, x.sub, 0, 0, 0, 0, x.imm, 0, 0, 0, 0, 0, false, false, false, false⟩ := by kernel_rfl
theorem only_21 (x : InsnS) : onlyS x ⟨#[100]⟩ = ⟨x.op, 0, x.rd, 0, 0, 0, 0, 0, 0, 0, 0, 0, false, false, false, false⟩ := by kernel_rfl
theorem only_22 (x : InsnS) : onlyS x ⟨#[100, 121]⟩ = ⟨x.op, 0, x.rd, 0, 0, 0, 0, 0, 0, 0, 0, x.sys, false, false, false, false⟩ := by kernel_rfl
theorem only_23 (x : InsnS) : onlyS x ⟨#[105]⟩ = ⟨x.op, 0, 0, 0, 0, 0, x.imm, 0, 0, 0, 0, 0, false, false, false, false⟩ := by kernel_rfl
theorem right_0 {x : InsnS} (hr : rngI x) (h : rightI x = true) (ho : x.op = 1) : ∃ a0 a1 a2 a3 a4 a5 : Nat, a0 < 32 ∧ a1 < 32 ∧ a2 < 4096 ∧ a3 < 2 ∧ a4 < 2 ∧ a5 < 2 ∧ x = X_0 a0 a1 a2 a3 a4 a5 := by
  rw [rightI_1 ho] at h
  obtain ⟨h1, ⟨hrd, hrn, hrm, hra⟩, hok⟩ := right_split h
  rw [only_0] at h1
  simp only [addImmOk, Bool.and_eq_true] at hok
  obtain ⟨o1, o2⟩ := hok
  obtain ⟨a0, e0, l0⟩ := (reg_of hrd : ∃ a : Nat, x.rd = (a : Int) ∧ a < 32)
  obtain ⟨a1, e1, l1⟩ := (reg_of hrn : ∃ a : Nat, x.rn = (a : Int) ∧ a < 32)
  obtain ⟨a2, e2, l2⟩ := (within_u o1 (by decide) (by decide) : ∃ a : Nat, x.imm = (a : Int) ∧ a < 4096)
  obtain ⟨a3, e3, l3⟩ := (within_m12 o2 (by decide) (by decide) : ∃ a : Nat, x.amount = ((12 * a : Nat) : Int) ∧ a < 2)
  obtain ⟨a4, e4, l4⟩ := has_of' x.flags
  obtain ⟨a5, e5, l5⟩ := has_of' x.minus
  exact ⟨a0, a1, a2, a3, a4, a5, l0, l1, l2, l3, l4, l5, h1.symm.trans (by rw [ho, e0, e1, e2, e3, e4, e5]; rfl)⟩
theorem right_1 {x : InsnS} (hr : rngI x) (h : rightI x = true) (ho : x.op = 2) : ∃ a0 a1 a2 a3 a4 a5 a6 : Nat, a0 < 32 ∧ a1 < 32 ∧ a2 < 32 ∧ a3 < 64 ∧ a4 < 4 ∧ a5 < 2 ∧ a6 < 2 ∧ x = X_1 a0 a1 a2 a3 a4 a5 a6 := by
  rw [rightI_2 ho] at h
  obtain ⟨h1, ⟨hrd, hrn, hrm, hra⟩, hok⟩ := right_split h
  rw [only_1] at h1
  simp only [addRegOk, Bool.and_eq_true] at hok
  obtain ⟨o1, o2⟩ := hok
  obtain ⟨a0, e0, l0⟩ := (reg_of hrd : ∃ a : Nat, x.rd = (a : Int) ∧ a < 32)
  obtain ⟨a1, e1, l1⟩ := (reg_of hrn : ∃ a : Nat, x.rn = (a : Int) ∧ a < 32)
  obtain ⟨a2, e2, l2⟩ := (reg_of hrm : ∃ a : Nat, x.rm = (a : Int) ∧ a < 32)
  obtain ⟨a3, e3, l3⟩ := (within_u o2 (by decide) (by decide) : ∃ a : Nat, x.amount = (a : Int) ∧ a < 64)
  obtain ⟨a4, e4, l4⟩ := (within_u o1 (by decide) (by decide) : ∃ a : Nat, x.shift = (a : Int) ∧ a < 4)
  obtain ⟨a5, e5, l5⟩ := has_of' x.flags
  obtain ⟨a6, e6, l6⟩ := has_of' x.minus
  exact ⟨a0, a1, a2, a3, a4, a5, a6, l0, l1, l2, l3, l4, l5, l6, h1.symm.trans (by rw [ho, e0, e1, e2, e3, e4, e5, e6]; rfl)⟩
theorem right_2 {x : InsnS} (hr : rngI x) (h : rightI x = true) (ho : x.op = 3) : ∃ a0 a1 a2 a3 a4 a5 a6 : Nat, a0 < 32 ∧ a1 < 32 ∧ a2 < 32 ∧ a3 < 4 ∧ a4 < 64 ∧ a5 < 4 ∧ a6 < 2 ∧ x = X_2 a0 a1 a2 a3 a4 a5 a6 := by
  rw [rightI_3 ho] at h
  obtain ⟨h1, ⟨hrd, hrn, hrm, hra⟩, hok⟩ := right_split h
  rw [only_2] at h1
  simp only [logRegOk, Bool.and_eq_true] at hok
  obtain ⟨⟨o1, o2⟩, o3⟩ := hok
  obtain ⟨a0, e0, l0⟩ := (reg_of hrd : ∃ a : Nat, x.rd = (a : Int) ∧ a < 32)
  obtain ⟨a1, e1, l1⟩ := (reg_of hrn : ∃ a : Nat, x.rn = (a : Int) ∧ a < 32)
  obtain ⟨a2, e2, l2⟩ := (reg_of hrm : ∃ a : Nat, x.rm = (a : Int) ∧ a < 32)
  obtain ⟨a3, ⟨e3, e3b⟩, l3⟩ := logic_ex o1
  obtain ⟨a4, e4, l4⟩ := (within_u o3 (by decide) (by decide) : ∃ a : Nat, x.amount = (a : Int) ∧ a < 64)
  obtain ⟨a5, e5, l5⟩ := (within_u o2 (by decide) (by decide) : ∃ a : Nat, x.shift = (a : Int) ∧ a < 4)
  obtain ⟨a6, e6, l6⟩ := eq1_of x.not_
  exact ⟨a0, a1, a2, a3, a4, a5, a6, l0, l1, l2, l3, l4, l5, l6, h1.symm.trans (by rw [ho, e0, e1, e2, e3, e3b, e4, e5, e6]; rfl)⟩
theorem right_3 {x : InsnS} (hr : rngI x) (h : rightI x = true) (ho : x.op = 4) : ∃ a0 a1 a2 a3 a4 a5 : Nat, a0 < 32 ∧ a1 < 32 ∧ a2 < 4 ∧ a3 < 2 ∧ a4 < 64 ∧ a5 < 64 ∧ x = X_3 a0 a1 a2 a3 a4 a5 := by
  rw [rightI_4 ho] at h
  obtain ⟨h1, ⟨hrd, hrn, hrm, hra⟩, hok⟩ := right_split h
  rw [only_3] at h1
  simp only [logImmOk, Bool.and_eq_true] at hok
  obtain ⟨o1, o2⟩ := hok
  obtain ⟨a0, e0, l0⟩ := (reg_of hrd : ∃ a : Nat, x.rd = (a : Int) ∧ a < 32)
  obtain ⟨a1, e1, l1⟩ := (reg_of hrn : ∃ a : Nat, x.rn = (a : Int) ∧ a < 32)
  obtain ⟨a2, ⟨e2, e2b⟩, l2⟩ := logic_ex o1
  obtain ⟨a3, e3, l3⟩ := (u_of (by have := mask_rng hr o2; omega) : ∃ a : Nat, x.amount = (a : Int) ∧ a < 2)
  obtain ⟨a4, e4, l4⟩ := (u_of (by have := mask_rng hr o2; omega) : ∃ a : Nat, x.imm = (a : Int) ∧ a < 64)
  obtain ⟨a5, e5, l5⟩ := (u_of (by have := mask_rng hr o2; omega) : ∃ a : Nat, x.imm2 = (a : Int) ∧ a < 64)
  exact ⟨a0, a1, a2, a3, a4, a5, l0, l1, l2, l3, l4, l5, h1.symm.trans (by rw [ho, e0, e1, e2, e2b, e3, e4, e5]; rfl)⟩
theorem right_4 {x : InsnS} (hr : rngI x) (h : rightI x = true) (ho : x.op = 5) : ∃ a0 a1 a2 a3 : Nat, a0 < 32 ∧ a1 < 4 ∧ a2 < 65536 ∧ a3 < 4 ∧ x = X_4 a0 a1 a2 a3 := by
  rw [rightI_5 ho] at h
  obtain ⟨h1, ⟨hrd, hrn, hrm, hra⟩, hok⟩ := right_split h
  rw [only_4] at h1
  simp only [movWideOk, Bool.and_eq_true] at hok
  obtain ⟨⟨⟨o1, o2⟩, o3⟩, o4⟩ := hok
  obtain ⟨a0, e0, l0⟩ := (reg_of hrd : ∃ a : Nat, x.rd = (a : Int) ∧ a < 32)
  obtain ⟨a1, e1, l1⟩ := (within_u o1 (by decide) (by decide) : ∃ a : Nat, x.sub = (a : Int) ∧ a < 4)
  obtain ⟨a2, e2, l2⟩ := (within_u o3 (by decide) (by decide) : ∃ a : Nat, x.imm = (a : Int) ∧ a < 65536)
  obtain ⟨a3, e3, l3⟩ := (within_m16 o4 (by decide) (by decide) : ∃ a : Nat, x.amount = ((16 * a : Nat) : Int) ∧ a < 4)
  exact ⟨a0, a1, a2, a3, l0, l1, l2, l3, h1.symm.trans (by rw [ho, e0, e1, e2, e3]; rfl)⟩
theorem right_5 {x : InsnS} (hr : rngI x) (h : rightI x = true) (ho : x.op = 6) : ∃ a0 a1 a2 a3 a4 : Nat, a0 < 32 ∧ a1 < 32 ∧ a2 < 4 ∧ a3 < 64 ∧ a4 < 64 ∧ x = X_5 a0 a1 a2 a3 a4 := by
  rw [rightI_6 ho] at h
  obtain ⟨h1, ⟨hrd, hrn, hrm, hra⟩, hok⟩ := right_split h
  rw [only_5] at h1
  simp only [bitfieldOk, Bool.and_eq_true] at hok
  obtain ⟨⟨o1, o2⟩, o3⟩ := hok
  obtain ⟨a0, e0, l0⟩ := (reg_of hrd : ∃ a : Nat, x.rd = (a : Int) ∧ a < 32)
  obtain ⟨a1, e1, l1⟩ := (reg_of hrn : ∃ a : Nat, x.rn = (a : Int) ∧ a < 32)
  obtain ⟨a2, e2, l2⟩ := (within_u o1 (by decide) (by decide) : ∃ a : Nat, x.sub = (a : Int) ∧ a < 4)
  obtain ⟨a3, e3, l3⟩ := (within_u o2 (by decide) (by decide) : ∃ a : Nat, x.imm = (a : Int) ∧ a < 64)
  obtain ⟨a4, e4, l4⟩ := (within_u o3 (by decide) (by decide) : ∃ a : Nat, x.imm2 = (a : Int) ∧ a < 64)
  exact ⟨a0, a1, a2, a3, a4, l0, l1, l2, l3, l4, h1.symm.trans (by rw [ho, e0, e1, e2, e3, e4]; rfl)⟩
theorem right_6 {x : InsnS} (hr : rngI x) (h : rightI x = true) (ho : x.op = 7) : ∃ a0 a1 a2 a3 : Nat, a0 < 32 ∧ a1 < 32 ∧ a2 < 32 ∧ a3 < 4 ∧ x = X_6 a0 a1 a2 a3 := by
  rw [rightI_7 ho] at h
  obtain ⟨h1, ⟨hrd, hrn, hrm, hra⟩, hok⟩ := right_split h
  rw [only_6] at h1
  have o1 := hok
  obtain ⟨a0, e0, l0⟩ := (reg_of hrd : ∃ a : Nat, x.rd = (a : Int) ∧ a < 32)
  obtain ⟨a1, e1, l1⟩ := (reg_of hrn : ∃ a : Nat, x.rn = (a : Int) ∧ a < 32)
  obtain ⟨a2, e2, l2⟩ := (reg_of hrm : ∃ a : Nat, x.rm = (a : Int) ∧ a < 32)
  obtain ⟨a3, e3, l3⟩ := (inL_id o1 (by decide) : ∃ a : Nat, x.sub = (a : Int) ∧ a < 4)
  exact ⟨a0, a1, a2, a3, l0, l1, l2, l3, h1.symm.trans (by rw [ho, e0, e1, e2, e3]; rfl)⟩
theorem right_7 {x : InsnS} (hr : rngI x) (h : rightI x = true) (ho : x.op = 8) : ∃ a0 a1 a2 a3 a4 : Nat, a0 < 32 ∧ a1 < 32 ∧ a2 < 32 ∧ a3 < 32 ∧ a4 < 2 ∧ x = X_7 a0 a1 a2 a3 a4 := by
  rw [rightI_8 ho] at h
  obtain ⟨h1, ⟨hrd, hrn, hrm, hra⟩, hok⟩ := right_split h
  rw [only_7] at h1
  have o1 := hok
  obtain ⟨a0, e0, l0⟩ := (reg_of hrd : ∃ a : Nat, x.rd = (a : Int) ∧ a < 32)
  obtain ⟨a1, e1, l1⟩ := (reg_of hrn : ∃ a : Nat, x.rn = (a : Int) ∧ a < 32)
  obtain ⟨a2, e2, l2⟩ := (reg_of hrm : ∃ a : Nat, x.rm = (a : Int) ∧ a < 32)
  obtain ⟨a3, e3, l3⟩ := (reg_of hra : ∃ a : Nat, x.ra = (a : Int) ∧ a < 32)
  obtain ⟨a4, e4, l4⟩ := eq1_of x.minus
  exact ⟨a0, a1, a2, a3, a4, l0, l1, l2, l3, l4, h1.symm.trans (by rw [ho, e0, e1, e2, e3, e4]; rfl)⟩
theorem right_8 {x : InsnS} (hr : rngI x) (h : rightI x = true) (ho : x.op = 9) : ∃ a0 a1 a2 a3 : Nat, a0 < 32 ∧ a1 < 32 ∧ a2 < 32 ∧ a3 < 2 ∧ x = X_8 a0 a1 a2 a3 := by
  rw [rightI_9 ho] at h
  obtain ⟨h1, ⟨hrd, hrn, hrm, hra⟩, hok⟩ := right_split h
  rw [only_6] at h1
  have o1 := hok
  obtain ⟨a0, e0, l0⟩ := (reg_of hrd : ∃ a : Nat, x.rd = (a : Int) ∧ a < 32)
  obtain ⟨a1, e1, l1⟩ := (reg_of hrn : ∃ a : Nat, x.rn = (a : Int) ∧ a < 32)
  obtain ⟨a2, e2, l2⟩ := (reg_of hrm : ∃ a : Nat, x.rm = (a : Int) ∧ a < 32)
  obtain ⟨a3, e3, l3⟩ := (inL_id o1 (by decide) : ∃ a : Nat, x.sub = (a : Int) ∧ a < 2)
  exact ⟨a0, a1, a2, a3, l0, l1, l2, l3, h1.symm.trans (by rw [ho, e0, e1, e2, e3]; rfl)⟩
theorem right_9 {x : InsnS} (hr : rngI x) (h : rightI x = true) (ho : x.op = 10) : ∃ a0 a1 a2 a3 a4 a5 : Nat, a0 < 32 ∧ a1 < 32 ∧ a2 < 32 ∧ a3 < 2 ∧ a4 < 2 ∧ a5 < 16 ∧ x = X_9 a0 a1 a2 a3 a4 a5 := by
  rw [rightI_10 ho] at h
  obtain ⟨h1, ⟨hrd, hrn, hrm, hra⟩, hok⟩ := right_split h
  rw [only_8] at h1
  simp only [selOk, Bool.and_eq_true] at hok
  obtain ⟨o1, o2⟩ := hok
  obtain ⟨a0, e0, l0⟩ := (reg_of hrd : ∃ a : Nat, x.rd = (a : Int) ∧ a < 32)
  obtain ⟨a1, e1, l1⟩ := (reg_of hrn : ∃ a : Nat, x.rn = (a : Int) ∧ a < 32)
  obtain ⟨a2, e2, l2⟩ := (reg_of hrm : ∃ a : Nat, x.rm = (a : Int) ∧ a < 32)
  obtain ⟨a3, a4, e3, l3, l4⟩ := sel_ex o1
  obtain ⟨a5, e5, l5⟩ := (within_u o2 (by decide) (by decide) : ∃ a : Nat, x.cond = (a : Int) ∧ a < 16)
  exact ⟨a0, a1, a2, a3, a4, a5, l0, l1, l2, l3, l4, l5, h1.symm.trans (by rw [ho, e0, e1, e2, e3, e5]; rfl)⟩
theorem right_10 {x : InsnS} (hr : rngI x) (h : rightI x = true) (ho : x.op = 11) : ∃ a0 a1 a2 a3 : Nat, a0 < 32 ∧ a1 < 2 ∧ a2 < 4 ∧ a3 < 524288 ∧ x = X_10 a0 a1 a2 a3 := by
  rw [rightI_11 ho] at h
  obtain ⟨h1, ⟨hrd, hrn, hrm, hra⟩, hok⟩ := right_split h
  rw [only_9] at h1
  have o1 := hok
  obtain ⟨a0, e0, l0⟩ := (reg_of hrd : ∃ a : Nat, x.rd = (a : Int) ∧ a < 32)
  obtain ⟨a1, a2, a3, ⟨e1, e2⟩, l1, l2, l3⟩ := adr_ex o1
  exact ⟨a0, a1, a2, a3, l0, l1, l2, l3, h1.symm.trans (by rw [ho, e0, e1, e2]; rfl)⟩
theorem right_11 {x : InsnS} (hr : rngI x) (h : rightI x = true) (ho : x.op = 12) : ∃ a0 a1 : Nat, a0 < 2 ∧ a1 < 67108864 ∧ x = X_11 a0 a1 := by
  rw [rightI_12 ho] at h
  obtain ⟨h1, ⟨hrd, hrn, hrm, hra⟩, hok⟩ := right_split h
  rw [only_10] at h1
  have o1 := hok
  obtain ⟨a0, e0, l0⟩ := eq1_of x.link
  obtain ⟨a1, e1, l1⟩ := (far_ex (H := 33554432) o1 (by decide +kernel) (by decide +kernel) rfl : ∃ a : Nat, x.imm = sxS 33554432 67108864 a ∧ a < 67108864)
  exact ⟨a0, a1, l0, l1, h1.symm.trans (by rw [ho, e0, e1]; rfl)⟩
theorem right_12 {x : InsnS} (hr : rngI x) (h : rightI x = true) (ho : x.op = 13) : ∃ a0 a1 : Nat, a0 < 16 ∧ a1 < 524288 ∧ x = X_12 a0 a1 := by
  rw [rightI_13 ho] at h
  obtain ⟨h1, ⟨hrd, hrn, hrm, hra⟩, hok⟩ := right_split h
  rw [only_11] at h1
  simp only [bCondOk, Bool.and_eq_true] at hok
  obtain ⟨o1, o2⟩ := hok
  obtain ⟨a0, e0, l0⟩ := (within_u o1 (by decide) (by decide) : ∃ a : Nat, x.cond = (a : Int) ∧ a < 16)
  obtain ⟨a1, e1, l1⟩ := (far_ex (H := 262144) o2 (by decide +kernel) (by decide +kernel) rfl : ∃ a : Nat, x.imm = sxS 262144 524288 a ∧ a < 524288)
  exact ⟨a0, a1, l0, l1, h1.symm.trans (by rw [ho, e0, e1]; rfl)⟩
theorem right_13 {x : InsnS} (hr : rngI x) (h : rightI x = true) (ho : x.op = 14) : ∃ a0 a1 a2 : Nat, a0 < 32 ∧ a1 < 2 ∧ a2 < 524288 ∧ x = X_13 a0 a1 a2 := by
  rw [rightI_14 ho] at h
  obtain ⟨h1, ⟨hrd, hrn, hrm, hra⟩, hok⟩ := right_split h
  rw [only_12] at h1
  have o1 := hok
  obtain ⟨a0, e0, l0⟩ := (reg_of hrd : ∃ a : Nat, x.rd = (a : Int) ∧ a < 32)
  obtain ⟨a1, e1, l1⟩ := has_of' x.not_
  obtain ⟨a2, e2, l2⟩ := (far_ex (H := 262144) o1 (by decide +kernel) (by decide +kernel) rfl : ∃ a : Nat, x.imm = sxS 262144 524288 a ∧ a < 524288)
  exact ⟨a0, a1, a2, l0, l1, l2, h1.symm.trans (by rw [ho, e0, e1, e2]; rfl)⟩
theorem right_14 {x : InsnS} (hr : rngI x) (h : rightI x = true) (ho : x.op = 15) : ∃ a0 a1 a2 a3 a4 : Nat, a0 < 32 ∧ a1 < 2 ∧ a2 < 2 ∧ a3 < 32 ∧ a4 < 16384 ∧ x = X_14 a0 a1 a2 a3 a4 := by
  rw [rightI_15 ho] at h
  obtain ⟨h1, ⟨hrd, hrn, hrm, hra⟩, hok⟩ := right_split h
  rw [only_13] at h1
  simp only [tbzOk, Bool.and_eq_true] at hok
  obtain ⟨o1, o2⟩ := hok
  obtain ⟨a0, e0, l0⟩ := (reg_of hrd : ∃ a : Nat, x.rd = (a : Int) ∧ a < 32)
  obtain ⟨a1, e1, l1⟩ := has_of' x.not_
  obtain ⟨a2, a3, e2, l2, l3⟩ := tb_ex o1
  obtain ⟨a4, e4, l4⟩ := (far_ex (H := 8192) o2 (by decide +kernel) (by decide +kernel) rfl : ∃ a : Nat, x.imm = sxS 8192 16384 a ∧ a < 16384)
  exact ⟨a0, a1, a2, a3, a4, l0, l1, l2, l3, l4, h1.symm.trans (by rw [ho, e0, e1, e2, e4]; rfl)⟩
theorem right_15 {x : InsnS} (hr : rngI x) (h : rightI x = true) (ho : x.op = 16) : ∃ a0 a1 : Nat, a0 < 32 ∧ a1 < 4 ∧ x = X_15 a0 a1 := by
  rw [rightI_16 ho] at h
  obtain ⟨h1, ⟨hrd, hrn, hrm, hra⟩, hok⟩ := right_split h
  rw [only_14] at h1
  have o1 := hok
  obtain ⟨a0, e0, l0⟩ := (reg_of hrn : ∃ a : Nat, x.rn = (a : Int) ∧ a < 32)
  obtain ⟨a1, e1, l1⟩ := (inL_id o1 (by decide) : ∃ a : Nat, x.sub = (a : Int) ∧ a < 4)
  exact ⟨a0, a1, l0, l1, h1.symm.trans (by rw [ho, e0, e1]; rfl)⟩
theorem right_16 {x : InsnS} (hr : rngI x) (h : rightI x = true) (ho : x.op = 17) : ∃ a0 a1 a2 : Nat, a0 < 32 ∧ a1 < 32 ∧ a2 < 4096 ∧ x = X_16 a0 a1 a2 := by
  rw [rightI_17 ho] at h
  obtain ⟨h1, ⟨hrd, hrn, hrm, hra⟩, hok⟩ := right_split h
  rw [only_15] at h1
  simp only [ldrOk, Bool.and_eq_true] at hok
  have o1 := hok
  obtain ⟨a0, e0, l0⟩ := (reg_of hrd : ∃ a : Nat, x.rd = (a : Int) ∧ a < 32)
  obtain ⟨a1, e1, l1⟩ := (reg_of hrn : ∃ a : Nat, x.rn = (a : Int) ∧ a < 32)
  obtain ⟨a2, e2, l2⟩ := (within_m8 o1 (by decide) (by decide) : ∃ a : Nat, x.imm = ((8 * a : Nat) : Int) ∧ a < 4096)
  exact ⟨a0, a1, a2, l0, l1, l2, h1.symm.trans (by rw [ho, e0, e1, e2]; rfl)⟩
theorem right_17 {x : InsnS} (hr : rngI x) (h : rightI x = true) (ho : x.op = 18) : ∃ a0 a1 a2 : Nat, a0 < 32 ∧ a1 < 32 ∧ a2 < 4096 ∧ x = X_17 a0 a1 a2 := by
  rw [rightI_18 ho] at h
  obtain ⟨h1, ⟨hrd, hrn, hrm, hra⟩, hok⟩ := right_split h
  rw [only_15] at h1
  simp only [ldrOk, Bool.and_eq_true] at hok
  have o1 := hok
  obtain ⟨a0, e0, l0⟩ := (reg_of hrd : ∃ a : Nat, x.rd = (a : Int) ∧ a < 32)
  obtain ⟨a1, e1, l1⟩ := (reg_of hrn : ∃ a : Nat, x.rn = (a : Int) ∧ a < 32)
  obtain ⟨a2, e2, l2⟩ := (within_m8 o1 (by decide) (by decide) : ∃ a : Nat, x.imm = ((8 * a : Nat) : Int) ∧ a < 4096)
  exact ⟨a0, a1, a2, l0, l1, l2, h1.symm.trans (by rw [ho, e0, e1, e2]; rfl)⟩
theorem right_18 {x : InsnS} (hr : rngI x) (h : rightI x = true) (ho : x.op = 19) : ∃ a0 a1 a2 a3 : Nat, a0 < 32 ∧ a1 < 32 ∧ a2 < 32 ∧ a3 < 2 ∧ x = X_18 a0 a1 a2 a3 := by
  rw [rightI_19 ho] at h
  obtain ⟨h1, ⟨hrd, hrn, hrm, hra⟩, hok⟩ := right_split h
  rw [only_16] at h1
  simp only [ldrRegOk, Bool.and_eq_true] at hok
  have o1 := hok
  obtain ⟨a0, e0, l0⟩ := (reg_of hrd : ∃ a : Nat, x.rd = (a : Int) ∧ a < 32)
  obtain ⟨a1, e1, l1⟩ := (reg_of hrn : ∃ a : Nat, x.rn = (a : Int) ∧ a < 32)
  obtain ⟨a2, e2, l2⟩ := (reg_of hrm : ∃ a : Nat, x.rm = (a : Int) ∧ a < 32)
  obtain ⟨a3, e3, l3⟩ := (within_m3 o1 (by decide) (by decide) : ∃ a : Nat, x.amount = ((3 * a : Nat) : Int) ∧ a < 2)
  exact ⟨a0, a1, a2, a3, l0, l1, l2, l3, h1.symm.trans (by rw [ho, e0, e1, e2, e3]; rfl)⟩
theorem right_19 {x : InsnS} (hr : rngI x) (h : rightI x = true) (ho : x.op = 20) : ∃ a0 a1 a2 a3 : Nat, a0 < 32 ∧ a1 < 32 ∧ a2 < 32 ∧ a3 < 2 ∧ x = X_19 a0 a1 a2 a3 := by
  rw [rightI_20 ho] at h
  obtain ⟨h1, ⟨hrd, hrn, hrm, hra⟩, hok⟩ := right_split h
  rw [only_16] at h1
  simp only [ldrRegOk, Bool.and_eq_true] at hok
  have o1 := hok
  obtain ⟨a0, e0, l0⟩ := (reg_of hrd : ∃ a : Nat, x.rd = (a : Int) ∧ a < 32)
  obtain ⟨a1, e1, l1⟩ := (reg_of hrn : ∃ a : Nat, x.rn = (a : Int) ∧ a < 32)
  obtain ⟨a2, e2, l2⟩ := (reg_of hrm : ∃ a : Nat, x.rm = (a : Int) ∧ a < 32)
  obtain ⟨a3, e3, l3⟩ := (within_m3 o1 (by decide) (by decide) : ∃ a : Nat, x.amount = ((3 * a : Nat) : Int) ∧ a < 2)
  exact ⟨a0, a1, a2, a3, l0, l1, l2, l3, h1.symm.trans (by rw [ho, e0, e1, e2, e3]; rfl)⟩
theorem right_20 {x : InsnS} (hr : rngI x) (h : rightI x = true) (ho : x.op = 21) (hs : x.sub = 0) : ∃ a0 a1 : Nat, a0 < 32 ∧ a1 < 32 ∧ x = X_20 a0 a1 := by
  rw [rightI_21 ho] at h
  obtain ⟨h1, ⟨hrd, hrn, hrm, hra⟩, hok⟩ := right_split h
  rw [only_17] at h1
  have o1 := hok
  obtain ⟨a0, e0, l0⟩ := (reg_of hrd : ∃ a : Nat, x.rd = (a : Int) ∧ a < 32)
  obtain ⟨a1, e1, l1⟩ := (reg_of hrn : ∃ a : Nat, x.rn = (a : Int) ∧ a < 32)
  exact ⟨a0, a1, l0, l1, h1.symm.trans (by rw [ho, e0, e1, hs]; rfl)⟩
theorem right_21 {x : InsnS} (hr : rngI x) (h : rightI x = true) (ho : x.op = 21) (hs : x.sub = 1) : ∃ a0 a1 : Nat, a0 < 32 ∧ a1 < 32 ∧ x = X_21 a0 a1 := by
  rw [rightI_21 ho] at h
  obtain ⟨h1, ⟨hrd, hrn, hrm, hra⟩, hok⟩ := right_split h
  rw [only_17] at h1
  have o1 := hok
  obtain ⟨a0, e0, l0⟩ := (reg_of hrd : ∃ a : Nat, x.rd = (a : Int) ∧ a < 32)
  obtain ⟨a1, e1, l1⟩ := (reg_of hrn : ∃ a : Nat, x.rn = (a : Int) ∧ a < 32)
  exact ⟨a0, a1, l0, l1, h1.symm.trans (by rw [ho, e0, e1, hs]; rfl)⟩
theorem right_22 {x : InsnS} (hr : rngI x) (h : rightI x = true) (ho : x.op = 22) : ∃ a0 a1 : Nat, a0 < 32 ∧ a1 < 32 ∧ x = X_22 a0 a1 := by
  rw [rightI_22 ho] at h
  obtain ⟨h1, ⟨hrd, hrn, hrm, hra⟩, hok⟩ := right_split h
  rw [only_18] at h1
  have o1 := hok
  obtain ⟨a0, e0, l0⟩ := (reg_of hrd : ∃ a : Nat, x.rd = (a : Int) ∧ a < 32)
  obtain ⟨a1, e1, l1⟩ := (reg_of hrn : ∃ a : Nat, x.rn = (a : Int) ∧ a < 32)
  exact ⟨a0, a1, l0, l1, h1.symm.trans (by rw [ho, e0, e1]; rfl)⟩
theorem right_23 {x : InsnS} (hr : rngI x) (h : rightI x = true) (ho : x.op = 23) : ∃ a0 a1 a2 : Nat, a0 < 32 ∧ a1 < 32 ∧ a2 < 2 ∧ x = X_23 a0 a1 a2 := by
  rw [rightI_23 ho] at h
  obtain ⟨h1, ⟨hrd, hrn, hrm, hra⟩, hok⟩ := right_split h
  rw [only_17] at h1
  have o1 := hok
  obtain ⟨a0, e0, l0⟩ := (reg_of hrd : ∃ a : Nat, x.rd = (a : Int) ∧ a < 32)
  obtain ⟨a1, e1, l1⟩ := (reg_of hrn : ∃ a : Nat, x.rn = (a : Int) ∧ a < 32)
  obtain ⟨a2, e2, l2⟩ := (inL_id o1 (by decide) : ∃ a : Nat, x.sub = (a : Int) ∧ a < 2)
  exact ⟨a0, a1, a2, l0, l1, l2, h1.symm.trans (by rw [ho, e0, e1, e2]; rfl)⟩
theorem right_24 {x : InsnS} (hr : rngI x) (h : rightI x = true) (ho : x.op = 24) : ∃ a0 a1 a2 a3 : Nat, a0 < 32 ∧ a1 < 32 ∧ a2 < 32 ∧ a3 < 2 ∧ x = X_24 a0 a1 a2 a3 := by
  rw [rightI_24 ho] at h
  obtain ⟨h1, ⟨hrd, hrn, hrm, hra⟩, hok⟩ := right_split h
  rw [only_6] at h1
  have o1 := hok
  obtain ⟨a0, e0, l0⟩ := (reg_of hrd : ∃ a : Nat, x.rd = (a : Int) ∧ a < 32)
  obtain ⟨a1, e1, l1⟩ := (reg_of hrn : ∃ a : Nat, x.rn = (a : Int) ∧ a < 32)
  obtain ⟨a2, e2, l2⟩ := (reg_of hrm : ∃ a : Nat, x.rm = (a : Int) ∧ a < 32)
  obtain ⟨a3, e3, l3⟩ := (inL_id o1 (by decide) : ∃ a : Nat, x.sub = (a : Int) ∧ a < 2)
  exact ⟨a0, a1, a2, a3, l0, l1, l2, l3, h1.symm.trans (by rw [ho, e0, e1, e2, e3]; rfl)⟩
theorem right_25 {x : InsnS} (hr : rngI x) (h : rightI x = true) (ho : x.op = 25) : x = X_25 := by
  rw [rightI_25 ho] at h
  obtain ⟨h1, ⟨hrd, hrn, hrm, hra⟩, hok⟩ := right_split h
  rw [only_19] at h1
  have o1 := hok
  exact h1.symm.trans (by rw [ho]; rfl)
theorem right_26 {x : InsnS} (hr : rngI x) (h : rightI x = true) (ho : x.op = 26) (hs : x.sub = 0) : ∃ a0 : Nat, a0 < 4 ∧ x = X_26 a0 := by
  rw [rightI_26 ho] at h
  obtain ⟨h1, ⟨hrd, hrn, hrm, hra⟩, hok⟩ := right_split h
  rw [only_20] at h1
  simp only [dmbOk, Bool.and_eq_true] at hok
  obtain ⟨o1, o2⟩ := hok
  obtain ⟨a0, e0, l0⟩ := (within_u o2 (by decide) (by decide) : ∃ a : Nat, x.imm = (a : Int) ∧ a < 4)
  exact ⟨a0, l0, h1.symm.trans (by rw [ho, e0, hs]; rfl)⟩
theorem right_27 {x : InsnS} (hr : rngI x) (h : rightI x = true) (ho : x.op = 26) (hs : x.sub = 1) : ∃ a0 : Nat, a0 < 4 ∧ x = X_27 a0 := by
  rw [rightI_26 ho] at h
  obtain ⟨h1, ⟨hrd, hrn, hrm, hra⟩, hok⟩ := right_split h
  rw [only_20] at h1
  simp only [dmbOk, Bool.and_eq_true] at hok
  obtain ⟨o1, o2⟩ := hok
  obtain ⟨a0, e0, l0⟩ := (within_u o2 (by decide) (by decide) : ∃ a : Nat, x.imm = (a : Int) ∧ a < 4)
  exact ⟨a0, l0, h1.symm.trans (by rw [ho, e0, hs]; rfl)⟩
theorem right_28 {x : InsnS} (hr : rngI x) (h : rightI x = true) (ho : x.op = 27) : x = X_28 := by
  rw [rightI_27 ho] at h
  obtain ⟨h1, ⟨hrd, hrn, hrm, hra⟩, hok⟩ := right_split h
  rw [only_19] at h1
  have o1 := hok
  exact h1.symm.trans (by rw [ho]; rfl)
theorem right_29 {x : InsnS} (hr : rngI x) (h : rightI x = true) (ho : x.op = 28) : ∃ a0 : Nat, a0 < 32 ∧ x = X_29 a0 := by
  rw [rightI_28 ho] at h
  obtain ⟨h1, ⟨hrd, hrn, hrm, hra⟩, hok⟩ := right_split h
  rw [only_21] at h1
  have o1 := hok
  obtain ⟨a0, e0, l0⟩ := (reg_of hrd : ∃ a : Nat, x.rd = (a : Int) ∧ a < 32)
  exact ⟨a0, l0, h1.symm.trans (by rw [ho, e0]; rfl)⟩
theorem right_30 {x : InsnS} (hr : rngI x) (h : rightI x = true) (ho : x.op = 30) : ∃ a0 : Nat, a0 < 32 ∧ x = X_30 a0 := by
  rw [rightI_30 ho] at h
  obtain ⟨h1, ⟨hrd, hrn, hrm, hra⟩, hok⟩ := right_split h
  rw [only_21] at h1
  have o1 := hok
  obtain ⟨a0, e0, l0⟩ := (reg_of hrd : ∃ a : Nat, x.rd = (a : Int) ∧ a < 32)
  exact ⟨a0, l0, h1.symm.trans (by rw [ho, e0]; rfl)⟩
theorem right_31 {x : InsnS} (hr : rngI x) (h : rightI x = true) (ho : x.op = 29) : x = X_31 := by
  rw [rightI_29 ho] at h
  obtain ⟨h1, ⟨hrd, hrn, hrm, hra⟩, hok⟩ := right_split h
  rw [only_19] at h1
  have o1 := hok
  exact h1.symm.trans (by rw [ho]; rfl)
theorem right_32 {x : InsnS} (hr : rngI x) (h : rightI x = true) (ho : x.op = 31) : ∃ a0 a1 : Nat, a0 < 32 ∧ a1 < 32768 ∧ x = X_32 a0 a1 := by
  rw [rightI_31 ho] at h
  obtain ⟨h1, ⟨hrd, hrn, hrm, hra⟩, hok⟩ := right_split h
  rw [only_22] at h1
  have o1 := hok
  obtain ⟨a0, e0, l0⟩ := (reg_of hrd : ∃ a : Nat, x.rd = (a : Int) ∧ a < 32)
  obtain ⟨a1, e1, l1⟩ := (sys_of o1 : ∃ a : Nat, x.sys = (a : Int) ∧ a < 32768)
  exact ⟨a0, a1, l0, l1, h1.symm.trans (by rw [ho, e0, e1]; rfl)⟩
theorem right_33 {x : InsnS} (hr : rngI x) (h : rightI x = true) (ho : x.op = 32) : ∃ a0 a1 : Nat, a0 < 32 ∧ a1 < 32768 ∧ x = X_33 a0 a1 := by
  rw [rightI_32 ho] at h
  obtain ⟨h1, ⟨hrd, hrn, hrm, hra⟩, hok⟩ := right_split h
  rw [only_22] at h1
  have o1 := hok
  obtain ⟨a0, e0, l0⟩ := (reg_of hrd : ∃ a : Nat, x.rd = (a : Int) ∧ a < 32)
  obtain ⟨a1, e1, l1⟩ := (sys_of o1 : ∃ a : Nat, x.sys = (a : Int) ∧ a < 32768)
  exact ⟨a0, a1, l0, l1, h1.symm.trans (by rw [ho, e0, e1]; rfl)⟩
theorem right_34 {x : InsnS} (hr : rngI x) (h : rightI x = true) (ho : x.op = 33) (hs : x.sub = 0) : ∃ a0 : Nat, a0 < 16 ∧ x = X_34 a0 := by
  rw [rightI_33 ho] at h
  obtain ⟨h1, ⟨hrd, hrn, hrm, hra⟩, hok⟩ := right_split h
  rw [only_20] at h1
  simp only [msrMaskOk, Bool.and_eq_true] at hok
  obtain ⟨o1, o2⟩ := hok
  obtain ⟨a0, e0, l0⟩ := (within_u o2 (by decide) (by decide) : ∃ a : Nat, x.imm = (a : Int) ∧ a < 16)
  exact ⟨a0, l0, h1.symm.trans (by rw [ho, e0, hs]; rfl)⟩
theorem right_35 {x : InsnS} (hr : rngI x) (h : rightI x = true) (ho : x.op = 33) (hs : x.sub = 1) : ∃ a0 : Nat, a0 < 16 ∧ x = X_35 a0 := by
  rw [rightI_33 ho] at h
  obtain ⟨h1, ⟨hrd, hrn, hrm, hra⟩, hok⟩ := right_split h
  rw [only_20] at h1
  simp only [msrMaskOk, Bool.and_eq_true] at hok
  obtain ⟨o1, o2⟩ := hok
  obtain ⟨a0, e0, l0⟩ := (within_u o2 (by decide) (by decide) : ∃ a : Nat, x.imm = (a : Int) ∧ a < 16)
  exact ⟨a0, l0, h1.symm.trans (by rw [ho, e0, hs]; rfl)⟩
theorem right_36 {x : InsnS} (hr : rngI x) (h : rightI x = true) (ho : x.op = 34) : ∃ a0 : Nat, a0 < 65536 ∧ x = X_36 a0 := by
  rw [rightI_34 ho] at h
  obtain ⟨h1, ⟨hrd, hrn, hrm, hra⟩, hok⟩ := right_split h
  rw [only_23] at h1
  simp only [svcOk, Bool.and_eq_true] at hok
  have o1 := hok
  obtain ⟨a0, e0, l0⟩ := (within_u o1 (by decide) (by decide) : ∃ a : Nat, x.imm = (a : Int) ∧ a < 65536)
  exact ⟨a0, l0, h1.symm.trans (by rw [ho, e0]; rfl)⟩
theorem right_37 {x : InsnS} (hr : rngI x) (h : rightI x = true) (ho : x.op = 35) : ∃ a0 : Nat, a0 < 65536 ∧ x = X_37 a0 := by
  rw [rightI_35 ho] at h
  obtain ⟨h1, ⟨hrd, hrn, hrm, hra⟩, hok⟩ := right_split h
  rw [only_23] at h1
  simp only [svcOk, Bool.and_eq_true] at hok
  have o1 := hok
  obtain ⟨a0, e0, l0⟩ := (within_u o1 (by decide) (by decide) : ∃ a : Nat, x.imm = (a : Int) ∧ a < 65536)
  exact ⟨a0, l0, h1.symm.trans (by rw [ho, e0]; rfl)⟩
theorem right_38 {x : InsnS} (hr : rngI x) (h : rightI x = true) (ho : x.op = 36) : x = X_38 := by
  rw [rightI_36 ho] at h
  obtain ⟨h1, ⟨hrd, hrn, hrm, hra⟩, hok⟩ := right_split h
  rw [only_19] at h1
  have o1 := hok
  exact h1.symm.trans (by rw [ho]; rfl)
theorem right_39 {x : InsnS} (hr : rngI x) (h : rightI x = true) (ho : x.op = 37) : ∃ a0 : Nat, a0 < 8 ∧ x = X_39 a0 := by
  rw [rightI_37 ho] at h
  obtain ⟨h1, ⟨hrd, hrn, hrm, hra⟩, hok⟩ := right_split h
  rw [only_23] at h1
  simp only [hintOk, Bool.and_eq_true] at hok
  have o1 := hok
  obtain ⟨a0, e0, l0⟩ := (within_u o1 (by decide) (by decide) : ∃ a : Nat, x.imm = (a : Int) ∧ a < 8)
  exact ⟨a0, l0, h1.symm.trans (by rw [ho, e0]; rfl)⟩
end Go.Proofs.YteikpddilabppaaGreatR

namespace Go.Proofs.YteikpddilabppaaGreatR
open Go.AM
set_option maxRecDepth 100000
theorem one1 : ∀ a : Fin 2, (orS (a.val : Int) 1 != 1) = false := by decide +kernel
theorem one63 : ∀ a : Fin 64, (orS (a.val : Int) 63 != 63) = false := by decide +kernel
theorem mask_dec : ∀ a : Fin 2, ∀ b : Fin 64, (¬ keyV (a.val : Int) (b.val : Int) < 2 ∧ maskT (b.val : Int) (keyV (a.val : Int) (b.val : Int)) = false) ↔ (¬ mSize (a.val : Int) (b.val : Int) < 2 ∧ ¬ (b.val : Int).tmod (mSize (a.val : Int) (b.val : Int)) = mSize (a.val : Int) (b.val : Int) - 1) := by decide +kernel
theorem mask_ref {x : InsnS} (hr : rngI x) : (maskE x.amount x.imm x.imm2 == 0) = (refE x.amount x.imm x.imm2 == 0) := by
  rw [Bool.eq_iff_iff, beq_iff_eq, beq_iff_eq, maskE_iff]
  by_cases hb : mBad x.amount x.imm x.imm2 = true
  · have e : refE x.amount x.imm x.imm2 = 1 := by unfold refE; rw [if_pos hb]
    rw [e]
    constructor
    · intro h
      have h2 := mask_rng hr (by rw [beq_iff_eq, maskE_iff]; exact h)
      unfold mBad at hb
      simp only [Bool.or_eq_true, decide_eq_true_eq] at hb
      omega
    · intro h; cases h
  · have e : refE x.amount x.imm x.imm2 = if mSize x.amount x.imm2 < 2 then 2 else if x.imm2.tmod (mSize x.amount x.imm2) = mSize x.amount x.imm2 - 1 then 2 else 0 := by
      conv => lhs; unfold refE
      rw [if_neg hb]
    rw [e]
    have hb' : mBad x.amount x.imm x.imm2 = false := by simpa using hb
    unfold mBad at hb'
    simp only [Bool.or_eq_false_iff, decide_eq_false_iff_not] at hb'
    obtain ⟨n, hn⟩ : ∃ n : Nat, x.amount = n := ⟨x.amount.toNat, by omega⟩
    obtain ⟨r, hrr⟩ : ∃ n : Nat, x.imm = n := ⟨x.imm.toNat, by omega⟩
    obtain ⟨t, ht⟩ : ∃ n : Nat, x.imm2 = n := ⟨x.imm2.toNat, by omega⟩
    have b1 : n < 2 := by omega
    have b2 : r < 64 := by omega
    have b3 : t < 64 := by omega
    rw [hn, hrr, ht]
    have d := mask_dec ⟨n, b1⟩ ⟨t, b3⟩
    have o1 := one1 ⟨n, b1⟩
    have o2 := one63 ⟨r, b2⟩
    have o3 := one63 ⟨t, b3⟩
    simp only at d o1 o2 o3
    have hB : maskB (n : Int) (r : Int) (t : Int) = false := by
      unfold maskB
      rw [o1, o2, o3]
      rfl
    constructor
    · intro h
      have h2 := d.1 h.2
      rw [if_neg h2.1, if_neg h2.2]
    · intro h
      refine ⟨hB, d.2 ⟨fun h1 => ?_, fun h1 => ?_⟩⟩
      · rw [if_pos h1] at h; cases h
      · by_cases h2 : mSize (n : Int) (t : Int) < 2
        · rw [if_pos h2] at h; cases h
        · rw [if_neg h2, if_pos h1] at h; cases h
theorem in_within (n a b : Int) : inS n a b = withinS n 1 a b := by
  unfold inS withinS
  rw [Int.tmod_one]
  simp
theorem step_within (n o a b : Int) : stepS n o a b = withinS n o a b := by
  unfold stepS withinS
  rw [Bool.and_assoc, Bool.and_comm]
theorem tmod0 (n d : Int) : n.tmod d = 0 ↔ d ∣ n := ⟨Int.dvd_of_tmod_eq_zero, Int.tmod_eq_zero_of_dvd⟩
theorem am12 (n : Int) : ((n == 0) || (n == 12)) = withinS n 12 0 12 := by
  rw [Bool.eq_iff_iff]
  unfold withinS
  simp only [Bool.or_eq_true, Bool.and_eq_true, beq_iff_eq, decide_eq_true_eq, ge_iff_le, tmod0]
  omega
theorem am3 (n : Int) : ((n == 0) || (n == 3)) = withinS n 3 0 3 := by
  rw [Bool.eq_iff_iff]
  unfold withinS
  simp only [Bool.or_eq_true, Bool.and_eq_true, beq_iff_eq, decide_eq_true_eq, ge_iff_le, tmod0]
  omega
theorem am2 (n : Int) : ((n == 0) || (n == 2)) = withinS n 2 0 2 := by
  rw [Bool.eq_iff_iff]
  unfold withinS
  simp only [Bool.or_eq_true, Bool.and_eq_true, beq_iff_eq, decide_eq_true_eq, ge_iff_le, tmod0]
  omega
theorem am023 (n : Int) : (((n == 0) || (n == 2)) || (n == 3)) = (withinS n 1 0 3 && (n != 1)) := by
  rw [Bool.eq_iff_iff]
  unfold withinS
  simp only [Bool.or_eq_true, Bool.and_eq_true, beq_iff_eq, decide_eq_true_eq, ge_iff_le, tmod0, bne_iff_ne, ne_eq]
  omega
theorem in_id (c : Nat) (m n : Int) (hm : m = (c : Int) - 1) : inS n 0 m = inL (fun i => (i : Int)) c n := by
  rw [Bool.eq_iff_iff]
  unfold inS
  simp only [Bool.and_eq_true, decide_eq_true_eq, ge_iff_le]
  constructor
  · intro h
    have key : ∀ (m i : Nat), (i : Int) ≤ n → n < (i : Int) + m → idxL (fun i => (i : Int)) n m i ≥ 0 := by
      intro m
      induction m with
      | zero => intro i h1 h2; omega
      | succ m ih =>
        intro i h1 h2
        unfold idxL
        by_cases e : n = (i : Int)
        · rw [if_pos e]; omega
        · rw [if_neg e]; exact ih (i + 1) (by omega) (by omega)
    exact decide_eq_true (key c 0 (by omega) (by omega))
  · intro h
    obtain ⟨a, e, l⟩ := inL_id (P := c) h (Nat.le_refl _)
    omega
theorem ok_1 (x : InsnS) : (inS x.imm 0 4095 && ((x.amount == 0) || (x.amount == 12))) = (addImmOk x) := by
  rw [in_within, am12]
  kernel_rfl
theorem ok_2 (x : InsnS) : (inS x.shift 0 2 && inS x.amount 0 63) = (addRegOk x) := by
  rw [in_within, in_within]
  kernel_rfl
theorem ok_3 (x : InsnS) : (((inS x.sub 0 2 && (!x.flags || (x.sub == 0))) && inS x.shift 0 3) && inS x.amount 0 63) = (logRegOk x) := by
  rw [in_within, in_within, in_within]
  kernel_rfl
theorem ok_4 (x : InsnS) (hr : rngI x) : ((inS x.sub 0 2 && (!x.flags || (x.sub == 0))) && (refE x.amount x.imm x.imm2 == 0)) = (logImmOk x) := by
  rw [in_within, ← mask_ref hr]
  kernel_rfl
theorem ok_5 (x : InsnS) : (((((x.sub == 0) || (x.sub == 2)) || (x.sub == 3)) && inS x.imm 0 65535) && stepS x.amount 16 0 48) = (movWideOk x) := by
  rw [am023, in_within, step_within]
  kernel_rfl
theorem ok_6 (x : InsnS) : ((((x.sub == 0) || (x.sub == 2)) && inS x.imm 0 63) && inS x.imm2 0 63) = (bitfieldOk x) := by
  rw [am2, in_within, in_within]
  kernel_rfl
theorem ok_7 (x : InsnS) : (inS x.sub 0 3) = (inL (fun i => (i : Int)) 4 x.sub) := by
  exact in_id 4 3 x.sub rfl
theorem ok_8 (x : InsnS) : (true) = (noneOk x) := by
  kernel_rfl
theorem ok_9 (x : InsnS) : (inS x.sub 0 1) = (inL (fun i => (i : Int)) 2 x.sub) := by
  exact in_id 2 1 x.sub rfl
theorem ok_10 (x : InsnS) : (inS x.sub 0 3 && inS x.cond 0 15) = (selOk x) := by
  rw [in_within, in_within]
  kernel_rfl
theorem ok_11 (x : InsnS) : (((x.sub == 0) && inS x.imm (-1048576) 1048575) || ((x.sub == 1) && stepS x.imm 4096 (-4294967296) 4294963200)) = (adrOk x) := by
  rw [in_within, step_within]
  kernel_rfl
theorem ok_12 (x : InsnS) : (stepS x.imm 4 (-134217728) 134217724) = (farS 27 x) := by
  rw [step_within]
  kernel_rfl
theorem ok_13 (x : InsnS) : (inS x.cond 0 15 && stepS x.imm 4 (-1048576) 1048572) = (bCondOk x) := by
  rw [in_within, step_within]
  kernel_rfl
theorem ok_14 (x : InsnS) : (stepS x.imm 4 (-1048576) 1048572) = (farS 20 x) := by
  rw [step_within]
  kernel_rfl
theorem ok_15 (x : InsnS) : (inS x.amount 0 63 && stepS x.imm 4 (-32768) 32764) = (tbzOk x) := by
  rw [in_within, step_within]
  kernel_rfl
theorem ok_16 (x : InsnS) : (inS x.sub 0 2) = (inL (fun i => (i : Int)) 3 x.sub) := by
  exact in_id 3 2 x.sub rfl
theorem ok_17 (x : InsnS) : (stepS x.imm 8 0 32760) = (ldrOk x) := by
  rw [step_within]
  kernel_rfl
theorem ok_18 (x : InsnS) : (stepS x.imm 8 0 32760) = (ldrOk x) := by
  rw [step_within]
  kernel_rfl
theorem ok_19 (x : InsnS) : ((x.amount == 0) || (x.amount == 3)) = (ldrRegOk x) := by
  rw [am3]
  kernel_rfl
theorem ok_20 (x : InsnS) : ((x.amount == 0) || (x.amount == 3)) = (ldrRegOk x) := by
  rw [am3]
  kernel_rfl
theorem ok_21 (x : InsnS) : (inS x.sub 0 1) = (inL (fun i => (i : Int)) 2 x.sub) := by
  exact in_id 2 1 x.sub rfl
theorem ok_22 (x : InsnS) : (true) = (noneOk x) := by
  kernel_rfl
theorem ok_23 (x : InsnS) : (inS x.sub 0 1) = (inL (fun i => (i : Int)) 2 x.sub) := by
  exact in_id 2 1 x.sub rfl
theorem ok_24 (x : InsnS) : (inS x.sub 0 1) = (inL (fun i => (i : Int)) 2 x.sub) := by
  exact in_id 2 1 x.sub rfl
theorem ok_25 (x : InsnS) : (true) = (noneOk x) := by
  kernel_rfl
theorem ok_26 (x : InsnS) : (inS x.sub 0 1 && inS x.imm 1 3) = (dmbOk x) := by
  rw [in_within, in_within]
  kernel_rfl
theorem ok_27 (x : InsnS) : (true) = (noneOk x) := by
  kernel_rfl
theorem ok_28 (x : InsnS) : (true) = (noneOk x) := by
  kernel_rfl
theorem ok_29 (x : InsnS) : (true) = (noneOk x) := by
  kernel_rfl
theorem ok_30 (x : InsnS) : (true) = (noneOk x) := by
  kernel_rfl
theorem ok_31 (x : InsnS) : (inL sysL 18 x.sys) = (sysOk x) := by
  kernel_rfl
theorem ok_32 (x : InsnS) : (inL sysL 18 x.sys) = (sysOk x) := by
  kernel_rfl
theorem ok_33 (x : InsnS) : (inS x.sub 0 1 && inS x.imm 0 15) = (msrMaskOk x) := by
  rw [in_within, in_within]
  kernel_rfl
theorem ok_34 (x : InsnS) : (inS x.imm 0 65535) = (svcOk x) := by
  rw [in_within]
  kernel_rfl
theorem ok_35 (x : InsnS) : (inS x.imm 0 65535) = (svcOk x) := by
  rw [in_within]
  kernel_rfl
theorem ok_36 (x : InsnS) : (true) = (noneOk x) := by
  kernel_rfl
theorem ok_37 (x : InsnS) : (inS x.imm 0 5) = (hintOk x) := by
  rw [in_within]
  kernel_rfl
theorem clear_0 (x : InsnS) : clearB x ⟨#[100, 110, 105, 107, 70, 77]⟩ = (eqI (onlyS x ⟨#[100, 110, 105, 107, 70, 77]⟩) x && regsOk x 4 0) := by
  have e : clearB x ⟨#[100, 110, 105, 107, 70, 77]⟩ = ((!badR x.rd && (!badR x.rn && (!((x.rm != 0) || false) && (!((x.ra != 0) || false) && (!((x.imm2 != 0) || false) && (!((x.shift != 0) || false) && (!((x.sub != 0) || false) && (!((x.cond != 0) || false) && (!((x.sys != 0) || false) && true))))))))) && (!x.not_ && (!x.link && true))) := by kernel_rfl
  have e2 : regsOk x 4 0 = (!badR x.rd && (!badR x.rn && (!badR x.rm && (!badR x.ra && true)))) := rfl
  rw [e, only_0, e2, Bool.eq_iff_iff]
  unfold eqI badR
  simp only [Bool.and_eq_true, Bool.not_eq_true', Bool.or_false, Bool.or_eq_false_iff, bne_eq_false_iff_eq, beq_iff_eq, decide_eq_false_iff_not, and_true, true_and]
  constructor
  · intro h
    refine ⟨?_, ?_⟩
    · repeat' (first | apply And.intro)
      all_goals first | omega | (simp only [h])
    · omega
  · intro h
    repeat' (first | apply And.intro)
    all_goals first | omega | (refine Bool.eq_false_iff.2 (fun hb => ?_); rw [hb] at h; simp at h)
theorem clear_1 (x : InsnS) : clearB x ⟨#[100, 110, 109, 116, 107, 70, 77]⟩ = (eqI (onlyS x ⟨#[100, 110, 109, 116, 107, 70, 77]⟩) x && regsOk x 4 0) := by
  have e : clearB x ⟨#[100, 110, 109, 116, 107, 70, 77]⟩ = ((!badR x.rd && (!badR x.rn && (!badR x.rm && (!((x.ra != 0) || false) && (!((x.imm != 0) || false) && (!((x.imm2 != 0) || false) && (!((x.sub != 0) || false) && (!((x.cond != 0) || false) && (!((x.sys != 0) || false) && true))))))))) && (!x.not_ && (!x.link && true))) := by kernel_rfl
  have e2 : regsOk x 4 0 = (!badR x.rd && (!badR x.rn && (!badR x.rm && (!badR x.ra && true)))) := rfl
  rw [e, only_1, e2, Bool.eq_iff_iff]
  unfold eqI badR
  simp only [Bool.and_eq_true, Bool.not_eq_true', Bool.or_false, Bool.or_eq_false_iff, bne_eq_false_iff_eq, beq_iff_eq, decide_eq_false_iff_not, and_true, true_and]
  constructor
  · intro h
    refine ⟨?_, ?_⟩
    · repeat' (first | apply And.intro)
      all_goals first | omega | (simp only [h])
    · omega
  · intro h
    repeat' (first | apply And.intro)
    all_goals first | omega | (refine Bool.eq_false_iff.2 (fun hb => ?_); rw [hb] at h; simp at h)
theorem clear_2 (x : InsnS) : clearB x ⟨#[100, 110, 109, 115, 116, 107, 70, 78]⟩ = (eqI (onlyS x ⟨#[100, 110, 109, 115, 116, 107, 70, 78]⟩) x && regsOk x 4 0) := by
  have e : clearB x ⟨#[100, 110, 109, 115, 116, 107, 70, 78]⟩ = ((!badR x.rd && (!badR x.rn && (!badR x.rm && (!((x.ra != 0) || false) && (!((x.imm != 0) || false) && (!((x.imm2 != 0) || false) && (!((x.cond != 0) || false) && (!((x.sys != 0) || false) && true)))))))) && (!x.minus && (!x.link && true))) := by kernel_rfl
  have e2 : regsOk x 4 0 = (!badR x.rd && (!badR x.rn && (!badR x.rm && (!badR x.ra && true)))) := rfl
  rw [e, only_2, e2, Bool.eq_iff_iff]
  unfold eqI badR
  simp only [Bool.and_eq_true, Bool.not_eq_true', Bool.or_false, Bool.or_eq_false_iff, bne_eq_false_iff_eq, beq_iff_eq, decide_eq_false_iff_not, and_true, true_and]
  constructor
  · intro h
    refine ⟨?_, ?_⟩
    · repeat' (first | apply And.intro)
      all_goals first | omega | (simp only [h])
    · omega
  · intro h
    repeat' (first | apply And.intro)
    all_goals first | omega | (refine Bool.eq_false_iff.2 (fun hb => ?_); rw [hb] at h; simp at h)
theorem clear_3 (x : InsnS) : clearB x ⟨#[100, 110, 115, 107, 105, 106, 70]⟩ = (eqI (onlyS x ⟨#[100, 110, 115, 107, 105, 106, 70]⟩) x && regsOk x 4 0) := by
  have e : clearB x ⟨#[100, 110, 115, 107, 105, 106, 70]⟩ = ((!badR x.rd && (!badR x.rn && (!((x.rm != 0) || false) && (!((x.ra != 0) || false) && (!((x.shift != 0) || false) && (!((x.cond != 0) || false) && (!((x.sys != 0) || false) && true))))))) && (!x.minus && (!x.not_ && (!x.link && true)))) := by kernel_rfl
  have e2 : regsOk x 4 0 = (!badR x.rd && (!badR x.rn && (!badR x.rm && (!badR x.ra && true)))) := rfl
  rw [e, only_3, e2, Bool.eq_iff_iff]
  unfold eqI badR
  simp only [Bool.and_eq_true, Bool.not_eq_true', Bool.or_false, Bool.or_eq_false_iff, bne_eq_false_iff_eq, beq_iff_eq, decide_eq_false_iff_not, and_true, true_and]
  constructor
  · intro h
    refine ⟨?_, ?_⟩
    · repeat' (first | apply And.intro)
      all_goals first | omega | (simp only [h])
    · omega
  · intro h
    repeat' (first | apply And.intro)
    all_goals first | omega | (refine Bool.eq_false_iff.2 (fun hb => ?_); rw [hb] at h; simp at h)
theorem clear_4 (x : InsnS) : clearB x ⟨#[100, 115, 105, 107]⟩ = (eqI (onlyS x ⟨#[100, 115, 105, 107]⟩) x && regsOk x 4 0) := by
  have e : clearB x ⟨#[100, 115, 105, 107]⟩ = ((!badR x.rd && (!((x.rn != 0) || false) && (!((x.rm != 0) || false) && (!((x.ra != 0) || false) && (!((x.imm2 != 0) || false) && (!((x.shift != 0) || false) && (!((x.cond != 0) || false) && (!((x.sys != 0) || false) && true)))))))) && (!x.flags && (!x.minus && (!x.not_ && (!x.link && true))))) := by kernel_rfl
  have e2 : regsOk x 4 0 = (!badR x.rd && (!badR x.rn && (!badR x.rm && (!badR x.ra && true)))) := rfl
  rw [e, only_4, e2, Bool.eq_iff_iff]
  unfold eqI badR
  simp only [Bool.and_eq_true, Bool.not_eq_true', Bool.or_false, Bool.or_eq_false_iff, bne_eq_false_iff_eq, beq_iff_eq, decide_eq_false_iff_not, and_true, true_and]
  constructor
  · intro h
    refine ⟨?_, ?_⟩
    · repeat' (first | apply And.intro)
      all_goals first | omega | (simp only [h])
    · omega
  · intro h
    repeat' (first | apply And.intro)
    all_goals first | omega | (refine Bool.eq_false_iff.2 (fun hb => ?_); rw [hb] at h; simp at h)
theorem clear_5 (x : InsnS) : clearB x ⟨#[100, 110, 115, 105, 106]⟩ = (eqI (onlyS x ⟨#[100, 110, 115, 105, 106]⟩) x && regsOk x 4 0) := by
  have e : clearB x ⟨#[100, 110, 115, 105, 106]⟩ = ((!badR x.rd && (!badR x.rn && (!((x.rm != 0) || false) && (!((x.ra != 0) || false) && (!((x.amount != 0) || false) && (!((x.shift != 0) || false) && (!((x.cond != 0) || false) && (!((x.sys != 0) || false) && true)))))))) && (!x.flags && (!x.minus && (!x.not_ && (!x.link && true))))) := by kernel_rfl
  have e2 : regsOk x 4 0 = (!badR x.rd && (!badR x.rn && (!badR x.rm && (!badR x.ra && true)))) := rfl
  rw [e, only_5, e2, Bool.eq_iff_iff]
  unfold eqI badR
  simp only [Bool.and_eq_true, Bool.not_eq_true', Bool.or_false, Bool.or_eq_false_iff, bne_eq_false_iff_eq, beq_iff_eq, decide_eq_false_iff_not, and_true, true_and]
  constructor
  · intro h
    refine ⟨?_, ?_⟩
    · repeat' (first | apply And.intro)
      all_goals first | omega | (simp only [h])
    · omega
  · intro h
    repeat' (first | apply And.intro)
    all_goals first | omega | (refine Bool.eq_false_iff.2 (fun hb => ?_); rw [hb] at h; simp at h)
theorem clear_6 (x : InsnS) : clearB x ⟨#[100, 110, 109, 115]⟩ = (eqI (onlyS x ⟨#[100, 110, 109, 115]⟩) x && regsOk x 4 0) := by
  have e : clearB x ⟨#[100, 110, 109, 115]⟩ = ((!badR x.rd && (!badR x.rn && (!badR x.rm && (!((x.ra != 0) || false) && (!((x.imm != 0) || false) && (!((x.imm2 != 0) || false) && (!((x.amount != 0) || false) && (!((x.shift != 0) || false) && (!((x.cond != 0) || false) && (!((x.sys != 0) || false) && true)))))))))) && (!x.flags && (!x.minus && (!x.not_ && (!x.link && true))))) := by kernel_rfl
  have e2 : regsOk x 4 0 = (!badR x.rd && (!badR x.rn && (!badR x.rm && (!badR x.ra && true)))) := rfl
  rw [e, only_6, e2, Bool.eq_iff_iff]
  unfold eqI badR
  simp only [Bool.and_eq_true, Bool.not_eq_true', Bool.or_false, Bool.or_eq_false_iff, bne_eq_false_iff_eq, beq_iff_eq, decide_eq_false_iff_not, and_true, true_and]
  constructor
  · intro h
    refine ⟨?_, ?_⟩
    · repeat' (first | apply And.intro)
      all_goals first | omega | (simp only [h])
    · omega
  · intro h
    repeat' (first | apply And.intro)
    all_goals first | omega | (refine Bool.eq_false_iff.2 (fun hb => ?_); rw [hb] at h; simp at h)
theorem clear_7 (x : InsnS) : clearB x ⟨#[100, 110, 109, 97, 77]⟩ = (eqI (onlyS x ⟨#[100, 110, 109, 97, 77]⟩) x && regsOk x 4 0) := by
  have e : clearB x ⟨#[100, 110, 109, 97, 77]⟩ = ((!badR x.rd && (!badR x.rn && (!badR x.rm && (!badR x.ra && (!((x.imm != 0) || false) && (!((x.imm2 != 0) || false) && (!((x.amount != 0) || false) && (!((x.shift != 0) || false) && (!((x.sub != 0) || false) && (!((x.cond != 0) || false) && (!((x.sys != 0) || false) && true))))))))))) && (!x.flags && (!x.not_ && (!x.link && true)))) := by kernel_rfl
  have e2 : regsOk x 4 0 = (!badR x.rd && (!badR x.rn && (!badR x.rm && (!badR x.ra && true)))) := rfl
  rw [e, only_7, e2, Bool.eq_iff_iff]
  unfold eqI badR
  simp only [Bool.and_eq_true, Bool.not_eq_true', Bool.or_false, Bool.or_eq_false_iff, bne_eq_false_iff_eq, beq_iff_eq, decide_eq_false_iff_not, and_true, true_and]
  constructor
  · intro h
    refine ⟨?_, ?_⟩
    · repeat' (first | apply And.intro)
      all_goals first | omega | (simp only [h])
    · omega
  · intro h
    repeat' (first | apply And.intro)
    all_goals first | omega | (refine Bool.eq_false_iff.2 (fun hb => ?_); rw [hb] at h; simp at h)
theorem clear_8 (x : InsnS) : clearB x ⟨#[100, 110, 109, 115, 99]⟩ = (eqI (onlyS x ⟨#[100, 110, 109, 115, 99]⟩) x && regsOk x 4 0) := by
  have e : clearB x ⟨#[100, 110, 109, 115, 99]⟩ = ((!badR x.rd && (!badR x.rn && (!badR x.rm && (!((x.ra != 0) || false) && (!((x.imm != 0) || false) && (!((x.imm2 != 0) || false) && (!((x.amount != 0) || false) && (!((x.shift != 0) || false) && (!((x.sys != 0) || false) && true))))))))) && (!x.flags && (!x.minus && (!x.not_ && (!x.link && true))))) := by kernel_rfl
  have e2 : regsOk x 4 0 = (!badR x.rd && (!badR x.rn && (!badR x.rm && (!badR x.ra && true)))) := rfl
  rw [e, only_8, e2, Bool.eq_iff_iff]
  unfold eqI badR
  simp only [Bool.and_eq_true, Bool.not_eq_true', Bool.or_false, Bool.or_eq_false_iff, bne_eq_false_iff_eq, beq_iff_eq, decide_eq_false_iff_not, and_true, true_and]
  constructor
  · intro h
    refine ⟨?_, ?_⟩
    · repeat' (first | apply And.intro)
      all_goals first | omega | (simp only [h])
    · omega
  · intro h
    repeat' (first | apply And.intro)
    all_goals first | omega | (refine Bool.eq_false_iff.2 (fun hb => ?_); rw [hb] at h; simp at h)
theorem clear_9 (x : InsnS) : clearB x ⟨#[100, 115, 105]⟩ = (eqI (onlyS x ⟨#[100, 115, 105]⟩) x && regsOk x 4 0) := by
  have e : clearB x ⟨#[100, 115, 105]⟩ = ((!badR x.rd && (!((x.rn != 0) || false) && (!((x.rm != 0) || false) && (!((x.ra != 0) || false) && (!((x.imm2 != 0) || false) && (!((x.amount != 0) || false) && (!((x.shift != 0) || false) && (!((x.cond != 0) || false) && (!((x.sys != 0) || false) && true))))))))) && (!x.flags && (!x.minus && (!x.not_ && (!x.link && true))))) := by kernel_rfl
  have e2 : regsOk x 4 0 = (!badR x.rd && (!badR x.rn && (!badR x.rm && (!badR x.ra && true)))) := rfl
  rw [e, only_9, e2, Bool.eq_iff_iff]
  unfold eqI badR
  simp only [Bool.and_eq_true, Bool.not_eq_true', Bool.or_false, Bool.or_eq_false_iff, bne_eq_false_iff_eq, beq_iff_eq, decide_eq_false_iff_not, and_true, true_and]
  constructor
  · intro h
    refine ⟨?_, ?_⟩
    · repeat' (first | apply And.intro)
      all_goals first | omega | (simp only [h])
    · omega
  · intro h
    repeat' (first | apply And.intro)
    all_goals first | omega | (refine Bool.eq_false_iff.2 (fun hb => ?_); rw [hb] at h; simp at h)
theorem clear_10 (x : InsnS) : clearB x ⟨#[105, 76]⟩ = (eqI (onlyS x ⟨#[105, 76]⟩) x && regsOk x 4 0) := by
  have e : clearB x ⟨#[105, 76]⟩ = ((!((x.rd != 0) || false) && (!((x.rn != 0) || false) && (!((x.rm != 0) || false) && (!((x.ra != 0) || false) && (!((x.imm2 != 0) || false) && (!((x.amount != 0) || false) && (!((x.shift != 0) || false) && (!((x.sub != 0) || false) && (!((x.cond != 0) || false) && (!((x.sys != 0) || false) && true)))))))))) && (!x.flags && (!x.minus && (!x.not_ && true)))) := by kernel_rfl
  have e2 : regsOk x 4 0 = (!badR x.rd && (!badR x.rn && (!badR x.rm && (!badR x.ra && true)))) := rfl
  rw [e, only_10, e2, Bool.eq_iff_iff]
  unfold eqI badR
  simp only [Bool.and_eq_true, Bool.not_eq_true', Bool.or_false, Bool.or_eq_false_iff, bne_eq_false_iff_eq, beq_iff_eq, decide_eq_false_iff_not, and_true, true_and]
  constructor
  · intro h
    refine ⟨?_, ?_⟩
    · repeat' (first | apply And.intro)
      all_goals first | omega | (simp only [h])
    · omega
  · intro h
    repeat' (first | apply And.intro)
    all_goals first | omega | (refine Bool.eq_false_iff.2 (fun hb => ?_); rw [hb] at h; simp at h)
theorem clear_11 (x : InsnS) : clearB x ⟨#[99, 105]⟩ = (eqI (onlyS x ⟨#[99, 105]⟩) x && regsOk x 4 0) := by
  have e : clearB x ⟨#[99, 105]⟩ = ((!((x.rd != 0) || false) && (!((x.rn != 0) || false) && (!((x.rm != 0) || false) && (!((x.ra != 0) || false) && (!((x.imm2 != 0) || false) && (!((x.amount != 0) || false) && (!((x.shift != 0) || false) && (!((x.sub != 0) || false) && (!((x.sys != 0) || false) && true))))))))) && (!x.flags && (!x.minus && (!x.not_ && (!x.link && true))))) := by kernel_rfl
  have e2 : regsOk x 4 0 = (!badR x.rd && (!badR x.rn && (!badR x.rm && (!badR x.ra && true)))) := rfl
  rw [e, only_11, e2, Bool.eq_iff_iff]
  unfold eqI badR
  simp only [Bool.and_eq_true, Bool.not_eq_true', Bool.or_false, Bool.or_eq_false_iff, bne_eq_false_iff_eq, beq_iff_eq, decide_eq_false_iff_not, and_true, true_and]
  constructor
  · intro h
    refine ⟨?_, ?_⟩
    · repeat' (first | apply And.intro)
      all_goals first | omega | (simp only [h])
    · omega
  · intro h
    repeat' (first | apply And.intro)
    all_goals first | omega | (refine Bool.eq_false_iff.2 (fun hb => ?_); rw [hb] at h; simp at h)
theorem clear_12 (x : InsnS) : clearB x ⟨#[100, 105, 78]⟩ = (eqI (onlyS x ⟨#[100, 105, 78]⟩) x && regsOk x 4 0) := by
  have e : clearB x ⟨#[100, 105, 78]⟩ = ((!badR x.rd && (!((x.rn != 0) || false) && (!((x.rm != 0) || false) && (!((x.ra != 0) || false) && (!((x.imm2 != 0) || false) && (!((x.amount != 0) || false) && (!((x.shift != 0) || false) && (!((x.sub != 0) || false) && (!((x.cond != 0) || false) && (!((x.sys != 0) || false) && true)))))))))) && (!x.flags && (!x.minus && (!x.link && true)))) := by kernel_rfl
  have e2 : regsOk x 4 0 = (!badR x.rd && (!badR x.rn && (!badR x.rm && (!badR x.ra && true)))) := rfl
  rw [e, only_12, e2, Bool.eq_iff_iff]
  unfold eqI badR
  simp only [Bool.and_eq_true, Bool.not_eq_true', Bool.or_false, Bool.or_eq_false_iff, bne_eq_false_iff_eq, beq_iff_eq, decide_eq_false_iff_not, and_true, true_and]
  constructor
  · intro h
    refine ⟨?_, ?_⟩
    · repeat' (first | apply And.intro)
      all_goals first | omega | (simp only [h])
    · omega
  · intro h
    repeat' (first | apply And.intro)
    all_goals first | omega | (refine Bool.eq_false_iff.2 (fun hb => ?_); rw [hb] at h; simp at h)
theorem clear_13 (x : InsnS) : clearB x ⟨#[100, 105, 107, 78]⟩ = (eqI (onlyS x ⟨#[100, 105, 107, 78]⟩) x && regsOk x 4 0) := by
  have e : clearB x ⟨#[100, 105, 107, 78]⟩ = ((!badR x.rd && (!((x.rn != 0) || false) && (!((x.rm != 0) || false) && (!((x.ra != 0) || false) && (!((x.imm2 != 0) || false) && (!((x.shift != 0) || false) && (!((x.sub != 0) || false) && (!((x.cond != 0) || false) && (!((x.sys != 0) || false) && true))))))))) && (!x.flags && (!x.minus && (!x.link && true)))) := by kernel_rfl
  have e2 : regsOk x 4 0 = (!badR x.rd && (!badR x.rn && (!badR x.rm && (!badR x.ra && true)))) := rfl
  rw [e, only_13, e2, Bool.eq_iff_iff]
  unfold eqI badR
  simp only [Bool.and_eq_true, Bool.not_eq_true', Bool.or_false, Bool.or_eq_false_iff, bne_eq_false_iff_eq, beq_iff_eq, decide_eq_false_iff_not, and_true, true_and]
  constructor
  · intro h
    refine ⟨?_, ?_⟩
    · repeat' (first | apply And.intro)
      all_goals first | omega | (simp only [h])
    · omega
  · intro h
    repeat' (first | apply And.intro)
    all_goals first | omega | (refine Bool.eq_false_iff.2 (fun hb => ?_); rw [hb] at h; simp at h)
theorem clear_14 (x : InsnS) : clearB x ⟨#[110, 115]⟩ = (eqI (onlyS x ⟨#[110, 115]⟩) x && regsOk x 4 0) := by
  have e : clearB x ⟨#[110, 115]⟩ = ((!((x.rd != 0) || false) && (!badR x.rn && (!((x.rm != 0) || false) && (!((x.ra != 0) || false) && (!((x.imm != 0) || false) && (!((x.imm2 != 0) || false) && (!((x.amount != 0) || false) && (!((x.shift != 0) || false) && (!((x.cond != 0) || false) && (!((x.sys != 0) || false) && true)))))))))) && (!x.flags && (!x.minus && (!x.not_ && (!x.link && true))))) := by kernel_rfl
  have e2 : regsOk x 4 0 = (!badR x.rd && (!badR x.rn && (!badR x.rm && (!badR x.ra && true)))) := rfl
  rw [e, only_14, e2, Bool.eq_iff_iff]
  unfold eqI badR
  simp only [Bool.and_eq_true, Bool.not_eq_true', Bool.or_false, Bool.or_eq_false_iff, bne_eq_false_iff_eq, beq_iff_eq, decide_eq_false_iff_not, and_true, true_and]
  constructor
  · intro h
    refine ⟨?_, ?_⟩
    · repeat' (first | apply And.intro)
      all_goals first | omega | (simp only [h])
    · omega
  · intro h
    repeat' (first | apply And.intro)
    all_goals first | omega | (refine Bool.eq_false_iff.2 (fun hb => ?_); rw [hb] at h; simp at h)
theorem clear_15 (x : InsnS) : clearB x ⟨#[100, 110, 105]⟩ = (eqI (onlyS x ⟨#[100, 110, 105]⟩) x && regsOk x 4 0) := by
  have e : clearB x ⟨#[100, 110, 105]⟩ = ((!badR x.rd && (!badR x.rn && (!((x.rm != 0) || false) && (!((x.ra != 0) || false) && (!((x.imm2 != 0) || false) && (!((x.amount != 0) || false) && (!((x.shift != 0) || false) && (!((x.sub != 0) || false) && (!((x.cond != 0) || false) && (!((x.sys != 0) || false) && true)))))))))) && (!x.flags && (!x.minus && (!x.not_ && (!x.link && true))))) := by kernel_rfl
  have e2 : regsOk x 4 0 = (!badR x.rd && (!badR x.rn && (!badR x.rm && (!badR x.ra && true)))) := rfl
  rw [e, only_15, e2, Bool.eq_iff_iff]
  unfold eqI badR
  simp only [Bool.and_eq_true, Bool.not_eq_true', Bool.or_false, Bool.or_eq_false_iff, bne_eq_false_iff_eq, beq_iff_eq, decide_eq_false_iff_not, and_true, true_and]
  constructor
  · intro h
    refine ⟨?_, ?_⟩
    · repeat' (first | apply And.intro)
      all_goals first | omega | (simp only [h])
    · omega
  · intro h
    repeat' (first | apply And.intro)
    all_goals first | omega | (refine Bool.eq_false_iff.2 (fun hb => ?_); rw [hb] at h; simp at h)
theorem clear_16 (x : InsnS) : clearB x ⟨#[100, 110, 109, 107]⟩ = (eqI (onlyS x ⟨#[100, 110, 109, 107]⟩) x && regsOk x 4 0) := by
  have e : clearB x ⟨#[100, 110, 109, 107]⟩ = ((!badR x.rd && (!badR x.rn && (!badR x.rm && (!((x.ra != 0) || false) && (!((x.imm != 0) || false) && (!((x.imm2 != 0) || false) && (!((x.shift != 0) || false) && (!((x.sub != 0) || false) && (!((x.cond != 0) || false) && (!((x.sys != 0) || false) && true)))))))))) && (!x.flags && (!x.minus && (!x.not_ && (!x.link && true))))) := by kernel_rfl
  have e2 : regsOk x 4 0 = (!badR x.rd && (!badR x.rn && (!badR x.rm && (!badR x.ra && true)))) := rfl
  rw [e, only_16, e2, Bool.eq_iff_iff]
  unfold eqI badR
  simp only [Bool.and_eq_true, Bool.not_eq_true', Bool.or_false, Bool.or_eq_false_iff, bne_eq_false_iff_eq, beq_iff_eq, decide_eq_false_iff_not, and_true, true_and]
  constructor
  · intro h
    refine ⟨?_, ?_⟩
    · repeat' (first | apply And.intro)
      all_goals first | omega | (simp only [h])
    · omega
  · intro h
    repeat' (first | apply And.intro)
    all_goals first | omega | (refine Bool.eq_false_iff.2 (fun hb => ?_); rw [hb] at h; simp at h)
theorem clear_17 (x : InsnS) : clearB x ⟨#[100, 110, 115]⟩ = (eqI (onlyS x ⟨#[100, 110, 115]⟩) x && regsOk x 4 0) := by
  have e : clearB x ⟨#[100, 110, 115]⟩ = ((!badR x.rd && (!badR x.rn && (!((x.rm != 0) || false) && (!((x.ra != 0) || false) && (!((x.imm != 0) || false) && (!((x.imm2 != 0) || false) && (!((x.amount != 0) || false) && (!((x.shift != 0) || false) && (!((x.cond != 0) || false) && (!((x.sys != 0) || false) && true)))))))))) && (!x.flags && (!x.minus && (!x.not_ && (!x.link && true))))) := by kernel_rfl
  have e2 : regsOk x 4 0 = (!badR x.rd && (!badR x.rn && (!badR x.rm && (!badR x.ra && true)))) := rfl
  rw [e, only_17, e2, Bool.eq_iff_iff]
  unfold eqI badR
  simp only [Bool.and_eq_true, Bool.not_eq_true', Bool.or_false, Bool.or_eq_false_iff, bne_eq_false_iff_eq, beq_iff_eq, decide_eq_false_iff_not, and_true, true_and]
  constructor
  · intro h
    refine ⟨?_, ?_⟩
    · repeat' (first | apply And.intro)
      all_goals first | omega | (simp only [h])
    · omega
  · intro h
    repeat' (first | apply And.intro)
    all_goals first | omega | (refine Bool.eq_false_iff.2 (fun hb => ?_); rw [hb] at h; simp at h)
theorem clear_18 (x : InsnS) : clearB x ⟨#[100, 110]⟩ = (eqI (onlyS x ⟨#[100, 110]⟩) x && regsOk x 4 0) := by
  have e : clearB x ⟨#[100, 110]⟩ = ((!badR x.rd && (!badR x.rn && (!((x.rm != 0) || false) && (!((x.ra != 0) || false) && (!((x.imm != 0) || false) && (!((x.imm2 != 0) || false) && (!((x.amount != 0) || false) && (!((x.shift != 0) || false) && (!((x.sub != 0) || false) && (!((x.cond != 0) || false) && (!((x.sys != 0) || false) && true))))))))))) && (!x.flags && (!x.minus && (!x.not_ && (!x.link && true))))) := by kernel_rfl
  have e2 : regsOk x 4 0 = (!badR x.rd && (!badR x.rn && (!badR x.rm && (!badR x.ra && true)))) := rfl
  rw [e, only_18, e2, Bool.eq_iff_iff]
  unfold eqI badR
  simp only [Bool.and_eq_true, Bool.not_eq_true', Bool.or_false, Bool.or_eq_false_iff, bne_eq_false_iff_eq, beq_iff_eq, decide_eq_false_iff_not, and_true, true_and]
  constructor
  · intro h
    refine ⟨?_, ?_⟩
    · repeat' (first | apply And.intro)
      all_goals first | omega | (simp only [h])
    · omega
  · intro h
    repeat' (first | apply And.intro)
    all_goals first | omega | (refine Bool.eq_false_iff.2 (fun hb => ?_); rw [hb] at h; simp at h)
theorem clear_19 (x : InsnS) : clearB x ⟨#[45]⟩ = (eqI (onlyS x ⟨#[]⟩) x && regsOk x 4 0) := by
  have e : clearB x ⟨#[45]⟩ = ((!((x.rd != 0) || false) && (!((x.rn != 0) || false) && (!((x.rm != 0) || false) && (!((x.ra != 0) || false) && (!((x.imm != 0) || false) && (!((x.imm2 != 0) || false) && (!((x.amount != 0) || false) && (!((x.shift != 0) || false) && (!((x.sub != 0) || false) && (!((x.cond != 0) || false) && (!((x.sys != 0) || false) && true))))))))))) && (!x.flags && (!x.minus && (!x.not_ && (!x.link && true))))) := by kernel_rfl
  have e2 : regsOk x 4 0 = (!badR x.rd && (!badR x.rn && (!badR x.rm && (!badR x.ra && true)))) := rfl
  rw [e, only_19, e2, Bool.eq_iff_iff]
  unfold eqI badR
  simp only [Bool.and_eq_true, Bool.not_eq_true', Bool.or_false, Bool.or_eq_false_iff, bne_eq_false_iff_eq, beq_iff_eq, decide_eq_false_iff_not, and_true, true_and]
  constructor
  · intro h
    refine ⟨?_, ?_⟩
    · repeat' (first | apply And.intro)
      all_goals first | omega | (simp only [h])
    · omega
  · intro h
    repeat' (first | apply And.intro)
    all_goals first | omega | (refine Bool.eq_false_iff.2 (fun hb => ?_); rw [hb] at h; simp at h)
theorem clear_20 (x : InsnS) : clearB x ⟨#[115, 105]⟩ = (eqI (onlyS x ⟨#[115, 105]⟩) x && regsOk x 4 0) := by
  have e : clearB x ⟨#[115, 105]⟩ = ((!((x.rd != 0) || false) && (!((x.rn != 0) || false) && (!((x.rm != 0) || false) && (!((x.ra != 0) || false) && (!((x.imm2 != 0) || false) && (!((x.amount != 0) || false) && (!((x.shift != 0) || false) && (!((x.cond != 0) || false) && (!((x.sys != 0) || false) && true))))))))) && (!x.flags && (!x.minus && (!x.not_ && (!x.link && true))))) := by kernel_rfl
  have e2 : regsOk x 4 0 = (!badR x.rd && (!badR x.rn && (!badR x.rm && (!badR x.ra && true)))) := rfl
  rw [e, only_20, e2, Bool.eq_iff_iff]
  unfold eqI badR
  simp only [Bool.and_eq_true, Bool.not_eq_true', Bool.or_false, Bool.or_eq_false_iff, bne_eq_false_iff_eq, beq_iff_eq, decide_eq_false_iff_not, and_true, true_and]
  constructor
  · intro h
    refine ⟨?_, ?_⟩
    · repeat' (first | apply And.intro)
      all_goals first | omega | (simp only [h])
    · omega
  · intro h
    repeat' (first | apply And.intro)
    all_goals first | omega | (refine Bool.eq_false_iff.2 (fun hb => ?_); rw [hb] at h; simp at h)
theorem clear_21 (x : InsnS) : clearB x ⟨#[100]⟩ = (eqI (onlyS x ⟨#[100]⟩) x && regsOk x 4 0) := by
  have e : clearB x ⟨#[100]⟩ = ((!badR x.rd && (!((x.rn != 0) || false) && (!((x.rm != 0) || false) && (!((x.ra != 0) || false) && (!((x.imm != 0) || false) && (!((x.imm2 != 0) || false) && (!((x.amount != 0) || false) && (!((x.shift != 0) || false) && (!((x.sub != 0) || false) && (!((x.cond != 0) || false) && (!((x.sys != 0) || false) && true))))))))))) && (!x.flags && (!x.minus && (!x.not_ && (!x.link && true))))) := by kernel_rfl
  have e2 : regsOk x 4 0 = (!badR x.rd && (!badR x.rn && (!badR x.rm && (!badR x.ra && true)))) := rfl
  rw [e, only_21, e2, Bool.eq_iff_iff]
  unfold eqI badR
  simp only [Bool.and_eq_true, Bool.not_eq_true', Bool.or_false, Bool.or_eq_false_iff, bne_eq_false_iff_eq, beq_iff_eq, decide_eq_false_iff_not, and_true, true_and]
  constructor
  · intro h
    refine ⟨?_, ?_⟩
    · repeat' (first | apply And.intro)
      all_goals first | omega | (simp only [h])
    · omega
  · intro h
    repeat' (first | apply And.intro)
    all_goals first | omega | (refine Bool.eq_false_iff.2 (fun hb => ?_); rw [hb] at h; simp at h)
theorem clear_22 (x : InsnS) : clearB x ⟨#[100, 121]⟩ = (eqI (onlyS x ⟨#[100, 121]⟩) x && regsOk x 4 0) := by
  have e : clearB x ⟨#[100, 121]⟩ = ((!badR x.rd && (!((x.rn != 0) || false) && (!((x.rm != 0) || false) && (!((x.ra != 0) || false) && (!((x.imm != 0) || false) && (!((x.imm2 != 0) || false) && (!((x.amount != 0) || false) && (!((x.shift != 0) || false) && (!((x.sub != 0) || false) && (!((x.cond != 0) || false) && true)))))))))) && (!x.flags && (!x.minus && (!x.not_ && (!x.link && true))))) := by kernel_rfl
  have e2 : regsOk x 4 0 = (!badR x.rd && (!badR x.rn && (!badR x.rm && (!badR x.ra && true)))) := rfl
  rw [e, only_22, e2, Bool.eq_iff_iff]
  unfold eqI badR
  simp only [Bool.and_eq_true, Bool.not_eq_true', Bool.or_false, Bool.or_eq_false_iff, bne_eq_false_iff_eq, beq_iff_eq, decide_eq_false_iff_not, and_true, true_and]
  constructor
  · intro h
    refine ⟨?_, ?_⟩
    · repeat' (first | apply And.intro)
      all_goals first | omega | (simp only [h])
    · omega
  · intro h
    repeat' (first | apply And.intro)
    all_goals first | omega | (refine Bool.eq_false_iff.2 (fun hb => ?_); rw [hb] at h; simp at h)
theorem clear_23 (x : InsnS) : clearB x ⟨#[105]⟩ = (eqI (onlyS x ⟨#[105]⟩) x && regsOk x 4 0) := by
  have e : clearB x ⟨#[105]⟩ = ((!((x.rd != 0) || false) && (!((x.rn != 0) || false) && (!((x.rm != 0) || false) && (!((x.ra != 0) || false) && (!((x.imm2 != 0) || false) && (!((x.amount != 0) || false) && (!((x.shift != 0) || false) && (!((x.sub != 0) || false) && (!((x.cond != 0) || false) && (!((x.sys != 0) || false) && true)))))))))) && (!x.flags && (!x.minus && (!x.not_ && (!x.link && true))))) := by kernel_rfl
  have e2 : regsOk x 4 0 = (!badR x.rd && (!badR x.rn && (!badR x.rm && (!badR x.ra && true)))) := rfl
  rw [e, only_23, e2, Bool.eq_iff_iff]
  unfold eqI badR
  simp only [Bool.and_eq_true, Bool.not_eq_true', Bool.or_false, Bool.or_eq_false_iff, bne_eq_false_iff_eq, beq_iff_eq, decide_eq_false_iff_not, and_true, true_and]
  constructor
  · intro h
    refine ⟨?_, ?_⟩
    · repeat' (first | apply And.intro)
      all_goals first | omega | (simp only [h])
    · omega
  · intro h
    repeat' (first | apply And.intro)
    all_goals first | omega | (refine Bool.eq_false_iff.2 (fun hb => ?_); rw [hb] at h; simp at h)
theorem right13 {x : InsnS} {f f' : ByteArray} {ok V : Bool} (hf : f'.size < 1000) (hne : eqTb f' ⟨#[]⟩ = false) (h105 : ∀ H, Con Tryz.prog 105 [.c (.int .i64 x.op)] H (fun v H' => v = .c (.str f') ∧ H' = H)) (hcl : clearB x f' = (eqI (onlyS x f) x && regsOk x 4 0)) (hV : V = ok)
    (hP : (∀ H, Con Tryz.prog 64 [.agg (insnL x)] H (fun v H' => v = .c (.bool true) ∧ H' = H)) → ∀ H, Con Tryz.prog 13 [.agg (insnL x)] H (fun v H' => v = .c (.bool V) ∧ H' = H)) (H : Heap) : Con Tryz.prog 13 [.agg (insnL x)] H (fun v H' => v = .c (.bool (rightB x f ok)) ∧ H' = H) := by
  have h64 := clear_gen x f' hf hne h105
  unfold rightB
  rw [← Bool.and_assoc, ← hcl, ← hV]
  cases h : clearB x f' with
  | true =>
    rw [h] at h64
    rw [Bool.true_and]
    exact hP h64 H
  | false =>
    rw [h] at h64
    rw [Bool.false_and]
    exact ref13_no x h64 H
theorem con13 (x : InsnS) (hr : rngI x) (H : Heap) : Con Tryz.prog 13 [.agg (insnL x)] H (fun v H' => v = .c (.bool (rightI x)) ∧ H' = H) := by
  by_cases h1 : x.op = 1
  · rw [rightI_1 h1]
    exact right13 (by decide) (by decide) (fun H => con105 _ _ (by simp [h1]) H) (clear_0 x) (ok_1 x) (fun h64 => ref13_P x 1 _ h1 h64 (by simp)) H
  by_cases h2 : x.op = 2
  · rw [rightI_2 h2]
    exact right13 (by decide) (by decide) (fun H => con105 _ _ (by simp [h2]) H) (clear_1 x) (ok_2 x) (fun h64 => ref13_P x 2 _ h2 h64 (by simp)) H
  by_cases h3 : x.op = 3
  · rw [rightI_3 h3]
    exact right13 (by decide) (by decide) (fun H => con105 _ _ (by simp [h3]) H) (clear_2 x) (ok_3 x) (fun h64 => ref13_P x 3 _ h3 h64 (by simp)) H
  by_cases h4 : x.op = 4
  · rw [rightI_4 h4]
    exact right13 (by decide) (by decide) (fun H => con105 _ _ (by simp [h4]) H) (clear_3 x) (ok_4 x hr) (fun h64 => ref13_4 x h4 h64) H
  by_cases h5 : x.op = 5
  · rw [rightI_5 h5]
    exact right13 (by decide) (by decide) (fun H => con105 _ _ (by simp [h5]) H) (clear_4 x) (ok_5 x) (fun h64 => ref13_P x 5 _ h5 h64 (by simp)) H
  by_cases h6 : x.op = 6
  · rw [rightI_6 h6]
    exact right13 (by decide) (by decide) (fun H => con105 _ _ (by simp [h6]) H) (clear_5 x) (ok_6 x) (fun h64 => ref13_P x 6 _ h6 h64 (by simp)) H
  by_cases h7 : x.op = 7
  · rw [rightI_7 h7]
    exact right13 (by decide) (by decide) (fun H => con105 _ _ (by simp [h7]) H) (clear_6 x) (ok_7 x) (fun h64 => ref13_P x 7 _ h7 h64 (by simp)) H
  by_cases h8 : x.op = 8
  · rw [rightI_8 h8]
    exact right13 (by decide) (by decide) (fun H => con105 _ _ (by simp [h8]) H) (clear_7 x) (ok_8 x) (fun h64 => ref13_P x 8 _ h8 h64 (by simp)) H
  by_cases h9 : x.op = 9
  · rw [rightI_9 h9]
    exact right13 (by decide) (by decide) (fun H => con105 _ _ (by simp [h9]) H) (clear_6 x) (ok_9 x) (fun h64 => ref13_P x 9 _ h9 h64 (by simp)) H
  by_cases h10 : x.op = 10
  · rw [rightI_10 h10]
    exact right13 (by decide) (by decide) (fun H => con105 _ _ (by simp [h10]) H) (clear_8 x) (ok_10 x) (fun h64 => ref13_P x 10 _ h10 h64 (by simp)) H
  by_cases h11 : x.op = 11
  · rw [rightI_11 h11]
    exact right13 (by decide) (by decide) (fun H => con105 _ _ (by simp [h11]) H) (clear_9 x) (ok_11 x) (fun h64 => ref13_P x 11 _ h11 h64 (by simp)) H
  by_cases h12 : x.op = 12
  · rw [rightI_12 h12]
    exact right13 (by decide) (by decide) (fun H => con105 _ _ (by simp [h12]) H) (clear_10 x) (ok_12 x) (fun h64 => ref13_P x 12 _ h12 h64 (by simp)) H
  by_cases h13 : x.op = 13
  · rw [rightI_13 h13]
    exact right13 (by decide) (by decide) (fun H => con105 _ _ (by simp [h13]) H) (clear_11 x) (ok_13 x) (fun h64 => ref13_P x 13 _ h13 h64 (by simp)) H
  by_cases h14 : x.op = 14
  · rw [rightI_14 h14]
    exact right13 (by decide) (by decide) (fun H => con105 _ _ (by simp [h14]) H) (clear_12 x) (ok_14 x) (fun h64 => ref13_P x 14 _ h14 h64 (by simp)) H
  by_cases h15 : x.op = 15
  · rw [rightI_15 h15]
    exact right13 (by decide) (by decide) (fun H => con105 _ _ (by simp [h15]) H) (clear_13 x) (ok_15 x) (fun h64 => ref13_P x 15 _ h15 h64 (by simp)) H
  by_cases h16 : x.op = 16
  · rw [rightI_16 h16]
    exact right13 (by decide) (by decide) (fun H => con105 _ _ (by simp [h16]) H) (clear_14 x) (ok_16 x) (fun h64 => ref13_P x 16 _ h16 h64 (by simp)) H
  by_cases h17 : x.op = 17
  · rw [rightI_17 h17]
    exact right13 (by decide) (by decide) (fun H => con105 _ _ (by simp [h17]) H) (clear_15 x) (ok_17 x) (fun h64 => ref13_P x 17 _ h17 h64 (by simp)) H
  by_cases h18 : x.op = 18
  · rw [rightI_18 h18]
    exact right13 (by decide) (by decide) (fun H => con105 _ _ (by simp [h18]) H) (clear_15 x) (ok_18 x) (fun h64 => ref13_P x 18 _ h18 h64 (by simp)) H
  by_cases h19 : x.op = 19
  · rw [rightI_19 h19]
    exact right13 (by decide) (by decide) (fun H => con105 _ _ (by simp [h19]) H) (clear_16 x) (ok_19 x) (fun h64 => ref13_P x 19 _ h19 h64 (by simp)) H
  by_cases h20 : x.op = 20
  · rw [rightI_20 h20]
    exact right13 (by decide) (by decide) (fun H => con105 _ _ (by simp [h20]) H) (clear_16 x) (ok_20 x) (fun h64 => ref13_P x 20 _ h20 h64 (by simp)) H
  by_cases h21 : x.op = 21
  · rw [rightI_21 h21]
    exact right13 (by decide) (by decide) (fun H => con105 _ _ (by simp [h21]) H) (clear_17 x) (ok_21 x) (fun h64 => ref13_P x 21 _ h21 h64 (by simp)) H
  by_cases h22 : x.op = 22
  · rw [rightI_22 h22]
    exact right13 (by decide) (by decide) (fun H => con105 _ _ (by simp [h22]) H) (clear_18 x) (ok_22 x) (fun h64 => ref13_P x 22 _ h22 h64 (by simp)) H
  by_cases h23 : x.op = 23
  · rw [rightI_23 h23]
    exact right13 (by decide) (by decide) (fun H => con105 _ _ (by simp [h23]) H) (clear_17 x) (ok_23 x) (fun h64 => ref13_P x 23 _ h23 h64 (by simp)) H
  by_cases h24 : x.op = 24
  · rw [rightI_24 h24]
    exact right13 (by decide) (by decide) (fun H => con105 _ _ (by simp [h24]) H) (clear_6 x) (ok_24 x) (fun h64 => ref13_P x 24 _ h24 h64 (by simp)) H
  by_cases h25 : x.op = 25
  · rw [rightI_25 h25]
    exact right13 (by decide) (by decide) (fun H => con105 _ _ (by simp [h25]) H) (clear_19 x) (ok_25 x) (fun h64 => ref13_P x 25 _ h25 h64 (by simp)) H
  by_cases h26 : x.op = 26
  · rw [rightI_26 h26]
    exact right13 (by decide) (by decide) (fun H => con105 _ _ (by simp [h26]) H) (clear_20 x) (ok_26 x) (fun h64 => ref13_P x 26 _ h26 h64 (by simp)) H
  by_cases h27 : x.op = 27
  · rw [rightI_27 h27]
    exact right13 (by decide) (by decide) (fun H => con105 _ _ (by simp [h27]) H) (clear_19 x) (ok_27 x) (fun h64 => ref13_P x 27 _ h27 h64 (by simp)) H
  by_cases h28 : x.op = 28
  · rw [rightI_28 h28]
    exact right13 (by decide) (by decide) (fun H => con105 _ _ (by simp [h28]) H) (clear_21 x) (ok_28 x) (fun h64 => ref13_P x 28 _ h28 h64 (by simp)) H
  by_cases h29 : x.op = 29
  · rw [rightI_29 h29]
    exact right13 (by decide) (by decide) (fun H => con105 _ _ (by simp [h29]) H) (clear_19 x) (ok_29 x) (fun h64 => ref13_P x 29 _ h29 h64 (by simp)) H
  by_cases h30 : x.op = 30
  · rw [rightI_30 h30]
    exact right13 (by decide) (by decide) (fun H => con105 _ _ (by simp [h30]) H) (clear_21 x) (ok_30 x) (fun h64 => ref13_P x 30 _ h30 h64 (by simp)) H
  by_cases h31 : x.op = 31
  · rw [rightI_31 h31]
    exact right13 (by decide) (by decide) (fun H => con105 _ _ (by simp [h31]) H) (clear_22 x) (ok_31 x) (fun h64 => ref13_P x 31 _ h31 h64 (by simp)) H
  by_cases h32 : x.op = 32
  · rw [rightI_32 h32]
    exact right13 (by decide) (by decide) (fun H => con105 _ _ (by simp [h32]) H) (clear_22 x) (ok_32 x) (fun h64 => ref13_P x 32 _ h32 h64 (by simp)) H
  by_cases h33 : x.op = 33
  · rw [rightI_33 h33]
    exact right13 (by decide) (by decide) (fun H => con105 _ _ (by simp [h33]) H) (clear_20 x) (ok_33 x) (fun h64 => ref13_P x 33 _ h33 h64 (by simp)) H
  by_cases h34 : x.op = 34
  · rw [rightI_34 h34]
    exact right13 (by decide) (by decide) (fun H => con105 _ _ (by simp [h34]) H) (clear_23 x) (ok_34 x) (fun h64 => ref13_P x 34 _ h34 h64 (by simp)) H
  by_cases h35 : x.op = 35
  · rw [rightI_35 h35]
    exact right13 (by decide) (by decide) (fun H => con105 _ _ (by simp [h35]) H) (clear_23 x) (ok_35 x) (fun h64 => ref13_P x 35 _ h35 h64 (by simp)) H
  by_cases h36 : x.op = 36
  · rw [rightI_36 h36]
    exact right13 (by decide) (by decide) (fun H => con105 _ _ (by simp [h36]) H) (clear_19 x) (ok_36 x) (fun h64 => ref13_P x 36 _ h36 h64 (by simp)) H
  by_cases h37 : x.op = 37
  · rw [rightI_37 h37]
    exact right13 (by decide) (by decide) (fun H => con105 _ _ (by simp [h37]) H) (clear_23 x) (ok_37 x) (fun h64 => ref13_P x 37 _ h37 h64 (by simp)) H
  have hno : noOp x.op := by simp only [noOp, beq_eq_false_iff_ne, ne_eq]; exact ⟨h1, h2, h3, h4, h5, h6, h7, h8, h9, h10, h11, h12, h13, h14, h15, h16, h17, h18, h19, h20, h21, h22, h23, h24, h25, h26, h27, h28, h29, h30, h31, h32, h33, h34, h35, h36, h37⟩
  have e : rightI x = false := by
    unfold rightI
    rw [if_neg h1, if_neg h2, if_neg h3, if_neg h4, if_neg h5, if_neg h6, if_neg h7, if_neg h8, if_neg h9, if_neg h10, if_neg h11, if_neg h12, if_neg h13, if_neg h14, if_neg h15, if_neg h16, if_neg h17, if_neg h18, if_neg h19, if_neg h20, if_neg h21, if_neg h22, if_neg h23, if_neg h24, if_neg h25, if_neg h26, if_neg h27, if_neg h28, if_neg h29, if_neg h30, if_neg h31, if_neg h32, if_neg h33, if_neg h34, if_neg h35, if_neg h36, if_neg h37]
  rw [e]
  exact ref13_no x (clear_no x (con105_no x.op hno)) H
end Go.Proofs.YteikpddilabppaaGreatR

namespace Go.Proofs.YteikpddilabppaaGreatR
open Go.AM
set_option maxRecDepth 100000
theorem forms_apart : ∀ i j : Fin 40, i ≠ j → fOp i.val = fOp j.val → ¬ fSub i.val < 0 ∧ ¬ fSub j.val < 0 ∧ fSub i.val ≠ fSub j.val := by decide +kernel
theorem enc_form {x : InsnS} {j : Nat} (hj : j < 40) (hr : rightI x = true) (ho : x.op = fOp j) (hs : fSub j < 0 ∨ x.sub = fSub j) : encodeS x = (putI j (fBase j) x, 0) := by
  refine enc_at hj hr (fun i hi => ?_) ?_
  · unfold formIs
    by_cases e : fOp i = x.op
    · obtain ⟨h1, h2, h3⟩ := forms_apart ⟨i, by omega⟩ ⟨j, hj⟩ (fun h => by have := congrArg Fin.val h; simp only at this; omega) (by simp only; rw [e, ho])
      simp only at h1 h2 h3
      rcases hs with hs | hs
      · exact absurd hs h2
      · have e1 : (fSub i == x.sub) = false := by
          rw [beq_eq_false_iff_ne, hs]
          exact h3
        have e2 : decide (fSub i < 0) = false := by simpa using h1
        rw [e1, e2]
        simp
    · have e1 : (fOp i == x.op) = false := by
        rw [beq_eq_false_iff_ne]
        exact e
      rw [e1]
      rfl
  · unfold formIs
    rw [ho]
    have e1 : (fOp j == fOp j) = true := by simp
    rw [e1]
    rcases hs with hs | hs
    · have e2 : decide (fSub j < 0) = true := decide_eq_true hs
      rw [e2]
      rfl
    · rw [hs]
      simp
theorem sub01 {x : InsnS} {f : ByteArray} {k : Nat} (h : rightB x f (inL (fun i => (i : Int)) 2 x.sub) = true) : x.sub = 0 ∨ x.sub = 1 := by
  obtain ⟨_, _, h1⟩ := right_split h
  obtain ⟨a, e, l⟩ := inL_id (P := 2) h1 (by decide)
  omega
theorem sub01' {x : InsnS} {f : ByteArray} {o : Bool} (h : rightB x f (withinS x.sub 1 0 1 && o) = true) : x.sub = 0 ∨ x.sub = 1 := by
  obtain ⟨_, _, h1⟩ := right_split h
  simp only [Bool.and_eq_true] at h1
  have := within_rng h1.1
  omega
end Go.Proofs.YteikpddilabppaaGreatR

namespace Go.Proofs.YteikpddilabppaaGreatR
open Go.AM
set_option maxRecDepth 100000
theorem low_n {e : Int} {a : Nat} (mi : Int) (many P : Nat) (hc : mi = (many : Int) ∧ 2 ^ many = P ∧ many < 32) (hx : (e % 4294967296).toNat % P = a) : lowS e mi = (a : Int) := by
  obtain ⟨rfl, rfl, hm⟩ := hc
  unfold lowS
  have hP := pow32 hm
  have hP1 : 0 < 2 ^ many := Nat.two_pow_pos _
  have e1 : IntKind.u32.wrap (IntKind.u32.wrap (1 * 2 ^ min ((many : Int)).toNat IntKind.u32.bits) - 1) = ((2 ^ many - 1 : Nat) : Int) := by
    have e0 : (1 * 2 ^ min ((many : Int)).toNat IntKind.u32.bits : Int) = ((2 ^ many : Nat) : Int) := by
      rw [Int.toNat_natCast, show min many IntKind.u32.bits = many from Nat.min_eq_left (Nat.le_of_lt hm)]
      simp
    rw [e0, u32_of hP, ← u32_of (n := 2 ^ many - 1) (by omega)]
    congr 1
    omega
  have e2 : IntKind.u32.wrap (IntKind.u64.wrap e) = ((e % 4294967296).toNat : Int) := by rw [IntKind.wrap_u64, IntKind.wrap_u32]; omega
  have hN : (e % 4294967296).toNat < 4294967296 := by omega
  generalize (e % 4294967296).toNat = N at e2 hN hx
  rw [e1, e2]
  have e3 : (BitVec.ofInt IntKind.u32.bits (N : Int) &&& BitVec.ofInt IntKind.u32.bits ((2 ^ many - 1 : Nat) : Int)).toNat = N % 2 ^ many := by
    rw [BitVec.toNat_and]
    show (BitVec.ofInt 32 (N : Int)).toNat &&& (BitVec.ofInt 32 ((2 ^ many - 1 : Nat) : Int)).toNat = _
    rw [bv32 hN, bv32 (by omega), Nat.and_two_pow_sub_one_eq_mod]
  rw [e3, hx]
  exact u32_of (by rw [← hx]; exact Nat.lt_of_le_of_lt (Nat.mod_le _ _) hN)
theorem quo_mod {e c : Int} {P a : Nat} (h : e = c) (hx : (c % 4294967296).toNat % P = a) : (e % 4294967296).toNat % P = a := by
  rw [h]
  exact hx
theorem add_n {x y : Int} {a b : Nat} (hx : x = (a : Int)) (hy : y = (b : Int)) (h : a + b < 4294967296) : addU x y = ((a + b : Nat) : Int) := by
  subst hx hy
  unfold addU
  rw [← Int.natCast_add, u32_of h]
theorem sub_n {x y : Int} {a b : Nat} (hx : x = (a : Int)) (hy : y = (b : Int)) (h : b ≤ a ∧ a < 4294967296) : subU x y = ((a - b : Nat) : Int) := by
  subst hx hy
  unfold subU
  rw [← Int.natCast_sub h.1, u32_of (by omega)]
theorem mul_n {x : Int} {a : Nat} (k : Nat) (hx : x = (a : Int)) (h : a * k < 4294967296) : mulU x (k : Int) = ((a * k : Nat) : Int) := by
  subst hx
  unfold mulU
  rw [← Int.natCast_mul, u32_of h]
theorem shl_n {x : Int} {a : Nat} (k Q : Nat) (hQ : 2 ^ min k IntKind.u32.bits = Q) (hx : x = (a : Int)) (h : a * Q < 4294967296) : shlU x k = ((a * Q : Nat) : Int) := by
  subst hx hQ
  unfold shlU
  have e : ((a : Int) * 2 ^ min k IntKind.u32.bits) = ((a * 2 ^ min k IntKind.u32.bits : Nat) : Int) := by simp
  rw [e, u32_of h]
theorem u32_n {x : Int} {a : Nat} (hx : x = (a : Int)) (h : a < 4294967296) : u32S x = (a : Int) := by
  subst hx
  exact u32_of h
theorem wq_n {x : Int} {a : Nat} (d : Nat) (hx : x = (a : Int)) (h : a < 4294967296) : IntKind.u32.wrap (x.tdiv (d : Int)) = ((a / d : Nat) : Int) := by
  subst hx
  rw [← Int.ofNat_tdiv, u32_of (Nat.lt_of_le_of_lt (Nat.div_le_self _ _) h)]
theorem tm_n {x : Int} {a : Nat} (d : Nat) (hx : x = (a : Int)) : x.tmod (d : Int) = ((a % d : Nat) : Int) := by
  subst hx
  exact (Int.ofNat_tmod a d).symm
theorem wtm_n {x : Int} {a : Nat} (d : Nat) (hx : x = (a : Int)) (h : a < 4294967296) : IntKind.u32.wrap (x.tmod (d : Int)) = ((a % d : Nat) : Int) := by
  rw [tm_n d hx, u32_of (Nat.lt_of_le_of_lt (Nat.mod_le _ _) h)]
theorem wquo_n {x : Int} {a : Nat} (d : Nat) (hx : x = (a : Int)) (h : a < 4294967296) : IntKind.u32.wrap (quoS x (d : Int)) = ((a / d : Nat) : Int) := by
  subst hx
  unfold quoS
  rw [← Int.ofNat_tdiv]
  have h1 : a / d < 4294967296 := Nat.lt_of_le_of_lt (Nat.div_le_self _ _) h
  generalize a / d = q at h1
  rw [IntKind.wrap_i64, show ((q : Int) + 9223372036854775808) % 18446744073709551616 - 9223372036854775808 = (q : Int) by omega, u32_of h1]
theorem when_d {a : Nat} (w : Nat) (h : a < 2) : whenS (decide (a = 1)) (w : Int) = ((a * w : Nat) : Int) := by
  rcases (show a = 0 ∨ a = 1 by omega) with rfl | rfl <;> simp [whenS]
theorem when_e {a : Nat} (w : Nat) (h : a < 2) : whenS ((a : Int) == 1) (w : Int) = ((a * w : Nat) : Int) := by
  rcases (show a = 0 ∨ a = 1 by omega) with rfl | rfl <;> simp [whenS]
theorem when_12 {a : Nat} (w : Nat) (h : a < 2) : whenS (((12 * a : Nat) : Int) == 12) (w : Int) = ((a * w : Nat) : Int) := by
  rcases (show a = 0 ∨ a = 1 by omega) with rfl | rfl <;> simp [whenS]
theorem when_3 {a : Nat} (w : Nat) (h : a < 2) : whenS (((3 * a : Nat) : Int) == 3) (w : Int) = ((a * w : Nat) : Int) := by
  rcases (show a = 0 ∨ a = 1 by omega) with rfl | rfl <;> simp [whenS]
theorem adr_av {s lo hi : Nat} (hs : s < 2) (h : lo < 4) (h' : hi < 524288) : (s = 1 → lowS (quoS (adrX s lo hi) 4096) 21 = ((hi * 4 + lo : Nat) : Int)) ∧ (s = 0 → lowS (adrX s lo hi) 21 = ((hi * 4 + lo : Nat) : Int)) := by
  have e : ((adrP lo hi) % 4294967296).toNat % 2097152 = hi * 4 + lo := by
    unfold adrP sg
    split <;> omega
  have hv := adr_v hs h h'
  refine ⟨fun h1 => ?_, fun h1 => ?_⟩
  · subst h1
    rw [if_pos (by rfl)] at hv
    exact low_n 21 21 2097152 (by decide) (by rw [hv]; exact e)
  · subst h1
    rw [if_neg (by decide)] at hv
    exact low_n 21 21 2097152 (by decide) (by rw [hv]; exact e)
theorem log_u {a : Nat} (h : a < 4) : (((a : Int) == 3) = true ∧ (a : Int) = 3) ∨ (((a : Int) == 3) = false ∧ (a : Int) = u32S (if (a : Int) = 3 then 0 else (a : Int))) := by
  rcases (show a = 0 ∨ a = 1 ∨ a = 2 ∨ a = 3 by omega) with rfl | rfl | rfl | rfl
  · exact .inr ⟨rfl, by decide⟩
  · exact .inr ⟨rfl, by decide⟩
  · exact .inr ⟨rfl, by decide⟩
  · exact .inl ⟨rfl, rfl⟩
theorem flag_ex (x : InsnS) : ∃ lg : Int, (x.flags = true ∧ lg = 3) ∨ (x.flags = false ∧ lg = u32S x.sub) := by
  cases h : x.flags
  · exact ⟨_, .inr ⟨rfl, rfl⟩⟩
  · exact ⟨3, .inl ⟨rfl, rfl⟩⟩
theorem flag_u (x : InsnS) (h : x.flags = false) : (x.flags = true ∧ u32S x.sub = 3) ∨ (x.flags = false ∧ u32S x.sub = u32S x.sub) := .inr ⟨h, rfl⟩
theorem lit_n (n : Nat) : ((n : Nat) : Int) = (n : Int) := rfl
theorem sx_quo26 {a : Nat} (h : a < 67108864) : (quoS (sxS 33554432 67108864 a) 4 % 4294967296).toNat % 67108864 = a := by
  have e : quoS (sxS 33554432 67108864 a) 4 = sg 33554432 67108864 a := by
    unfold quoS sxS
    rw [Int.mul_tdiv_cancel_left _ (by decide), IntKind.wrap_i64]
    unfold sg
    split <;> omega
  rw [e]
  unfold sg
  split <;> omega
theorem sx_quo19 {a : Nat} (h : a < 524288) : (quoS (sxS 262144 524288 a) 4 % 4294967296).toNat % 524288 = a := by
  have e : quoS (sxS 262144 524288 a) 4 = sg 262144 524288 a := by
    unfold quoS sxS
    rw [Int.mul_tdiv_cancel_left _ (by decide), IntKind.wrap_i64]
    unfold sg
    split <;> omega
  rw [e]
  unfold sg
  split <;> omega
theorem sx_quo14 {a : Nat} (h : a < 16384) : (quoS (sxS 8192 16384 a) 4 % 4294967296).toNat % 16384 = a := by
  have e : quoS (sxS 8192 16384 a) 4 = sg 8192 16384 a := by
    unfold quoS sxS
    rw [Int.mul_tdiv_cancel_left _ (by decide), IntKind.wrap_i64]
    unfold sg
    split <;> omega
  rw [e]
  unfold sg
  split <;> omega
theorem refp_0 (a0 a1 a2 a3 a4 a5 : Nat) (l0 : a0 < 32) (l1 : a1 < 32) (l2 : a2 < 4096) (l3 : a3 < 2) (l4 : a4 < 2) (l5 : a5 < 2) : addU (addU (addU (addU (addU (((2432696320 : Nat) : Int)) (addU (whenS (X_0 a0 a1 a2 a3 a4 a5).minus 1073741824) (whenS (X_0 a0 a1 a2 a3 a4 a5).flags 536870912))) (whenS ((X_0 a0 a1 a2 a3 a4 a5).amount == 12) 4194304)) (shlU (lowS ((X_0 a0 a1 a2 a3 a4 a5).imm) 12) 10)) ((shlU (lowS (X_0 a0 a1 a2 a3 a4 a5).rn 5) 5))) ((lowS (X_0 a0 a1 a2 a3 a4 a5).rd 5)) = ((2432696320 + a0 * 1 + a1 * 32 + a2 * 1024 + a3 * 4194304 + a4 * 536870912 + a5 * 1073741824 : Nat) : Int) :=
  Eq.trans (add_n (add_n (add_n (add_n (add_n (lit_n 2432696320) (add_n (when_d 1073741824 l5) (when_d 536870912 l4) (by omega)) (by omega)) (when_12 4194304 l3) (by omega)) (shl_n 10 1024 rfl (low_n 12 12 4096 (by decide) (nat_mod l2 (by decide))) (by omega)) (by omega)) (shl_n 5 32 rfl (low_n 5 5 32 (by decide) (nat_mod l1 (by decide))) (by omega)) (by omega)) (low_n 5 5 32 (by decide) (nat_mod l0 (by decide))) (by omega)) (congrArg Nat.cast (by omega))
theorem fin9_0 {x : InsnS} (hr : rngI x) (h : rightI x = true) (ho : x.op = 1) (H : Heap) : Con Tryz.prog 9 [.agg (insnL x)] H (fun v H' => v = .tup [.c (.int .u32 (putI 0 (fBase 0) x)), .c (.bool true)] ∧ H' = H) := by
  have h13 := con13 x hr
  rw [h] at h13
  obtain ⟨a0, a1, a2, a3, a4, a5, l0, l1, l2, l3, l4, l5, rfl⟩ := right_0 hr h ho
  rw [put_0 a0 a1 a2 a3 a4 a5 l0 l1 l2 l3 l4 l5, ← refp_0 a0 a1 a2 a3 a4 a5 l0 l1 l2 l3 l4 l5]
  obtain ⟨lg, hl⟩ := flag_ex (X_0 a0 a1 a2 a3 a4 a5)
  exact con9_P (X_0 a0 a1 a2 a3 a4 a5) lg 0 1 _ rfl h13 hl (by simp) H
theorem refp_1 (a0 a1 a2 a3 a4 a5 a6 : Nat) (l0 : a0 < 32) (l1 : a1 < 32) (l2 : a2 < 32) (l3 : a3 < 64) (l4 : a4 < 4) (l5 : a5 < 2) (l6 : a6 < 2) : addU (addU (addU (addU (addU (addU (((2332033024 : Nat) : Int)) (addU (whenS (X_1 a0 a1 a2 a3 a4 a5 a6).minus 1073741824) (whenS (X_1 a0 a1 a2 a3 a4 a5 a6).flags 536870912))) (shlU (u32S (X_1 a0 a1 a2 a3 a4 a5 a6).shift) 22)) ((shlU (lowS (X_1 a0 a1 a2 a3 a4 a5 a6).rm 5) 16))) (shlU (lowS ((X_1 a0 a1 a2 a3 a4 a5 a6).amount) 6) 10)) ((shlU (lowS (X_1 a0 a1 a2 a3 a4 a5 a6).rn 5) 5))) ((lowS (X_1 a0 a1 a2 a3 a4 a5 a6).rd 5)) = ((2332033024 + a0 * 1 + a1 * 32 + a2 * 65536 + a3 * 1024 + a4 * 4194304 + a5 * 536870912 + a6 * 1073741824 : Nat) : Int) :=
  Eq.trans (add_n (add_n (add_n (add_n (add_n (add_n (lit_n 2332033024) (add_n (when_d 1073741824 l6) (when_d 536870912 l5) (by omega)) (by omega)) (shl_n 22 4194304 rfl (u32_n (rfl) (by omega)) (by omega)) (by omega)) (shl_n 16 65536 rfl (low_n 5 5 32 (by decide) (nat_mod l2 (by decide))) (by omega)) (by omega)) (shl_n 10 1024 rfl (low_n 6 6 64 (by decide) (nat_mod l3 (by decide))) (by omega)) (by omega)) (shl_n 5 32 rfl (low_n 5 5 32 (by decide) (nat_mod l1 (by decide))) (by omega)) (by omega)) (low_n 5 5 32 (by decide) (nat_mod l0 (by decide))) (by omega)) (congrArg Nat.cast (by omega))
theorem fin9_1 {x : InsnS} (hr : rngI x) (h : rightI x = true) (ho : x.op = 2) (H : Heap) : Con Tryz.prog 9 [.agg (insnL x)] H (fun v H' => v = .tup [.c (.int .u32 (putI 1 (fBase 1) x)), .c (.bool true)] ∧ H' = H) := by
  have h13 := con13 x hr
  rw [h] at h13
  obtain ⟨a0, a1, a2, a3, a4, a5, a6, l0, l1, l2, l3, l4, l5, l6, rfl⟩ := right_1 hr h ho
  rw [put_1 a0 a1 a2 a3 a4 a5 a6 l0 l1 l2 l3 l4 l5 l6, ← refp_1 a0 a1 a2 a3 a4 a5 a6 l0 l1 l2 l3 l4 l5 l6]
  obtain ⟨lg, hl⟩ := flag_ex (X_1 a0 a1 a2 a3 a4 a5 a6)
  exact con9_P (X_1 a0 a1 a2 a3 a4 a5 a6) lg 0 2 _ rfl h13 hl (by simp) H
theorem refp_2 (a0 a1 a2 a3 a4 a5 a6 : Nat) (l0 : a0 < 32) (l1 : a1 < 32) (l2 : a2 < 32) (l3 : a3 < 4) (l4 : a4 < 64) (l5 : a5 < 4) (l6 : a6 < 2) : addU (addU (addU (addU (addU (addU (addU (((2315255808 : Nat) : Int)) (shlU (((a3 : Nat) : Int)) 29)) (shlU (u32S (X_2 a0 a1 a2 a3 a4 a5 a6).shift) 22)) (whenS ((X_2 a0 a1 a2 a3 a4 a5 a6).not_) 2097152)) ((shlU (lowS (X_2 a0 a1 a2 a3 a4 a5 a6).rm 5) 16))) (shlU (lowS ((X_2 a0 a1 a2 a3 a4 a5 a6).amount) 6) 10)) ((shlU (lowS (X_2 a0 a1 a2 a3 a4 a5 a6).rn 5) 5))) ((lowS (X_2 a0 a1 a2 a3 a4 a5 a6).rd 5)) = ((2315255808 + a0 * 1 + a1 * 32 + a2 * 65536 + a3 * 536870912 + a4 * 1024 + a5 * 4194304 + a6 * 2097152 : Nat) : Int) :=
  Eq.trans (add_n (add_n (add_n (add_n (add_n (add_n (add_n (lit_n 2315255808) (shl_n 29 536870912 rfl (rfl) (by omega)) (by omega)) (shl_n 22 4194304 rfl (u32_n (rfl) (by omega)) (by omega)) (by omega)) (when_e 2097152 l6) (by omega)) (shl_n 16 65536 rfl (low_n 5 5 32 (by decide) (nat_mod l2 (by decide))) (by omega)) (by omega)) (shl_n 10 1024 rfl (low_n 6 6 64 (by decide) (nat_mod l4 (by decide))) (by omega)) (by omega)) (shl_n 5 32 rfl (low_n 5 5 32 (by decide) (nat_mod l1 (by decide))) (by omega)) (by omega)) (low_n 5 5 32 (by decide) (nat_mod l0 (by decide))) (by omega)) (congrArg Nat.cast (by omega))
theorem fin9_2 {x : InsnS} (hr : rngI x) (h : rightI x = true) (ho : x.op = 3) (H : Heap) : Con Tryz.prog 9 [.agg (insnL x)] H (fun v H' => v = .tup [.c (.int .u32 (putI 2 (fBase 2) x)), .c (.bool true)] ∧ H' = H) := by
  have h13 := con13 x hr
  rw [h] at h13
  obtain ⟨a0, a1, a2, a3, a4, a5, a6, l0, l1, l2, l3, l4, l5, l6, rfl⟩ := right_2 hr h ho
  rw [put_2 a0 a1 a2 a3 a4 a5 a6 l0 l1 l2 l3 l4 l5 l6, ← refp_2 a0 a1 a2 a3 a4 a5 a6 l0 l1 l2 l3 l4 l5 l6]
  exact con9_P (X_2 a0 a1 a2 a3 a4 a5 a6) (a3) 0 3 _ rfl h13 (log_u l3) (by simp) H
theorem refp_3 (a0 a1 a2 a3 a4 a5 : Nat) (l0 : a0 < 32) (l1 : a1 < 32) (l2 : a2 < 4) (l3 : a3 < 2) (l4 : a4 < 64) (l5 : a5 < 64) : addU (addU (addU (addU (addU (addU (((2449473536 : Nat) : Int)) (shlU (((a2 : Nat) : Int)) 29)) (shlU (lowS ((X_3 a0 a1 a2 a3 a4 a5).amount) 1) 22)) (shlU (lowS ((X_3 a0 a1 a2 a3 a4 a5).imm) 6) 16)) (shlU (lowS ((X_3 a0 a1 a2 a3 a4 a5).imm2) 6) 10)) ((shlU (lowS (X_3 a0 a1 a2 a3 a4 a5).rn 5) 5))) ((lowS (X_3 a0 a1 a2 a3 a4 a5).rd 5)) = ((2449473536 + a0 * 1 + a1 * 32 + a2 * 536870912 + a3 * 4194304 + a4 * 65536 + a5 * 1024 : Nat) : Int) :=
  Eq.trans (add_n (add_n (add_n (add_n (add_n (add_n (lit_n 2449473536) (shl_n 29 536870912 rfl (rfl) (by omega)) (by omega)) (shl_n 22 4194304 rfl (low_n 1 1 2 (by decide) (nat_mod l3 (by decide))) (by omega)) (by omega)) (shl_n 16 65536 rfl (low_n 6 6 64 (by decide) (nat_mod l4 (by decide))) (by omega)) (by omega)) (shl_n 10 1024 rfl (low_n 6 6 64 (by decide) (nat_mod l5 (by decide))) (by omega)) (by omega)) (shl_n 5 32 rfl (low_n 5 5 32 (by decide) (nat_mod l1 (by decide))) (by omega)) (by omega)) (low_n 5 5 32 (by decide) (nat_mod l0 (by decide))) (by omega)) (congrArg Nat.cast (by omega))
theorem fin9_3 {x : InsnS} (hr : rngI x) (h : rightI x = true) (ho : x.op = 4) (H : Heap) : Con Tryz.prog 9 [.agg (insnL x)] H (fun v H' => v = .tup [.c (.int .u32 (putI 3 (fBase 3) x)), .c (.bool true)] ∧ H' = H) := by
  have h13 := con13 x hr
  rw [h] at h13
  obtain ⟨a0, a1, a2, a3, a4, a5, l0, l1, l2, l3, l4, l5, rfl⟩ := right_3 hr h ho
  rw [put_3 a0 a1 a2 a3 a4 a5 l0 l1 l2 l3 l4 l5, ← refp_3 a0 a1 a2 a3 a4 a5 l0 l1 l2 l3 l4 l5]
  exact con9_P (X_3 a0 a1 a2 a3 a4 a5) (a2) 0 4 _ rfl h13 (log_u l2) (by simp) H
theorem refp_4 (a0 a1 a2 a3 : Nat) (l0 : a0 < 32) (l1 : a1 < 4) (l2 : a2 < 65536) (l3 : a3 < 4) : addU (addU (addU (addU (((2457862144 : Nat) : Int)) (shlU ((u32S (X_4 a0 a1 a2 a3).sub)) 29)) (shlU (IntKind.u32.wrap (quoS (X_4 a0 a1 a2 a3).amount 16)) 21)) (shlU (lowS ((X_4 a0 a1 a2 a3).imm) 16) 5)) ((lowS (X_4 a0 a1 a2 a3).rd 5)) = ((2457862144 + a0 * 1 + a1 * 536870912 + a2 * 32 + a3 * 2097152 : Nat) : Int) :=
  Eq.trans (add_n (add_n (add_n (add_n (lit_n 2457862144) (shl_n 29 536870912 rfl (u32_n (rfl) (by omega)) (by omega)) (by omega)) (shl_n 21 2097152 rfl (wquo_n 16 rfl (by omega)) (by omega)) (by omega)) (shl_n 5 32 rfl (low_n 16 16 65536 (by decide) (nat_mod l2 (by decide))) (by omega)) (by omega)) (low_n 5 5 32 (by decide) (nat_mod l0 (by decide))) (by omega)) (congrArg Nat.cast (by omega))
theorem fin9_4 {x : InsnS} (hr : rngI x) (h : rightI x = true) (ho : x.op = 5) (H : Heap) : Con Tryz.prog 9 [.agg (insnL x)] H (fun v H' => v = .tup [.c (.int .u32 (putI 4 (fBase 4) x)), .c (.bool true)] ∧ H' = H) := by
  have h13 := con13 x hr
  rw [h] at h13
  obtain ⟨a0, a1, a2, a3, l0, l1, l2, l3, rfl⟩ := right_4 hr h ho
  rw [put_4 a0 a1 a2 a3 l0 l1 l2 l3, ← refp_4 a0 a1 a2 a3 l0 l1 l2 l3]
  obtain ⟨lg, hl⟩ := flag_ex (X_4 a0 a1 a2 a3)
  exact con9_P (X_4 a0 a1 a2 a3) lg 0 5 _ rfl h13 hl (by simp) H
theorem refp_5 (a0 a1 a2 a3 a4 : Nat) (l0 : a0 < 32) (l1 : a1 < 32) (l2 : a2 < 4) (l3 : a3 < 64) (l4 : a4 < 64) : addU (addU (addU (addU (addU (((2470445056 : Nat) : Int)) (shlU ((u32S (X_5 a0 a1 a2 a3 a4).sub)) 29)) (shlU (lowS ((X_5 a0 a1 a2 a3 a4).imm) 6) 16)) (shlU (lowS ((X_5 a0 a1 a2 a3 a4).imm2) 6) 10)) ((shlU (lowS (X_5 a0 a1 a2 a3 a4).rn 5) 5))) ((lowS (X_5 a0 a1 a2 a3 a4).rd 5)) = ((2470445056 + a0 * 1 + a1 * 32 + a2 * 536870912 + a3 * 65536 + a4 * 1024 : Nat) : Int) :=
  Eq.trans (add_n (add_n (add_n (add_n (add_n (lit_n 2470445056) (shl_n 29 536870912 rfl (u32_n (rfl) (by omega)) (by omega)) (by omega)) (shl_n 16 65536 rfl (low_n 6 6 64 (by decide) (nat_mod l3 (by decide))) (by omega)) (by omega)) (shl_n 10 1024 rfl (low_n 6 6 64 (by decide) (nat_mod l4 (by decide))) (by omega)) (by omega)) (shl_n 5 32 rfl (low_n 5 5 32 (by decide) (nat_mod l1 (by decide))) (by omega)) (by omega)) (low_n 5 5 32 (by decide) (nat_mod l0 (by decide))) (by omega)) (congrArg Nat.cast (by omega))
theorem fin9_5 {x : InsnS} (hr : rngI x) (h : rightI x = true) (ho : x.op = 6) (H : Heap) : Con Tryz.prog 9 [.agg (insnL x)] H (fun v H' => v = .tup [.c (.int .u32 (putI 5 (fBase 5) x)), .c (.bool true)] ∧ H' = H) := by
  have h13 := con13 x hr
  rw [h] at h13
  obtain ⟨a0, a1, a2, a3, a4, l0, l1, l2, l3, l4, rfl⟩ := right_5 hr h ho
  rw [put_5 a0 a1 a2 a3 a4 l0 l1 l2 l3 l4, ← refp_5 a0 a1 a2 a3 a4 l0 l1 l2 l3 l4]
  obtain ⟨lg, hl⟩ := flag_ex (X_5 a0 a1 a2 a3 a4)
  exact con9_P (X_5 a0 a1 a2 a3 a4) lg 0 6 _ rfl h13 hl (by simp) H
theorem refp_6 (a0 a1 a2 a3 : Nat) (l0 : a0 < 32) (l1 : a1 < 32) (l2 : a2 < 32) (l3 : a3 < 4) : addU (addU (addU (addU (((2596282368 : Nat) : Int)) (shlU ((u32S (X_6 a0 a1 a2 a3).sub)) 10)) ((shlU (lowS (X_6 a0 a1 a2 a3).rm 5) 16))) ((shlU (lowS (X_6 a0 a1 a2 a3).rn 5) 5))) ((lowS (X_6 a0 a1 a2 a3).rd 5)) = ((2596282368 + a0 * 1 + a1 * 32 + a2 * 65536 + a3 * 1024 : Nat) : Int) :=
  Eq.trans (add_n (add_n (add_n (add_n (lit_n 2596282368) (shl_n 10 1024 rfl (u32_n (rfl) (by omega)) (by omega)) (by omega)) (shl_n 16 65536 rfl (low_n 5 5 32 (by decide) (nat_mod l2 (by decide))) (by omega)) (by omega)) (shl_n 5 32 rfl (low_n 5 5 32 (by decide) (nat_mod l1 (by decide))) (by omega)) (by omega)) (low_n 5 5 32 (by decide) (nat_mod l0 (by decide))) (by omega)) (congrArg Nat.cast (by omega))
theorem fin9_6 {x : InsnS} (hr : rngI x) (h : rightI x = true) (ho : x.op = 7) (H : Heap) : Con Tryz.prog 9 [.agg (insnL x)] H (fun v H' => v = .tup [.c (.int .u32 (putI 6 (fBase 6) x)), .c (.bool true)] ∧ H' = H) := by
  have h13 := con13 x hr
  rw [h] at h13
  obtain ⟨a0, a1, a2, a3, l0, l1, l2, l3, rfl⟩ := right_6 hr h ho
  rw [put_6 a0 a1 a2 a3 l0 l1 l2 l3, ← refp_6 a0 a1 a2 a3 l0 l1 l2 l3]
  obtain ⟨lg, hl⟩ := flag_ex (X_6 a0 a1 a2 a3)
  exact con9_P (X_6 a0 a1 a2 a3) lg 0 7 _ rfl h13 hl (by simp) H
theorem refp_7 (a0 a1 a2 a3 a4 : Nat) (l0 : a0 < 32) (l1 : a1 < 32) (l2 : a2 < 32) (l3 : a3 < 32) (l4 : a4 < 2) : addU (addU (addU (addU (addU (((2600468480 : Nat) : Int)) (whenS ((X_7 a0 a1 a2 a3 a4).minus) 32768)) ((shlU (lowS (X_7 a0 a1 a2 a3 a4).rm 5) 16))) (shlU (lowS ((X_7 a0 a1 a2 a3 a4).ra) 5) 10)) ((shlU (lowS (X_7 a0 a1 a2 a3 a4).rn 5) 5))) ((lowS (X_7 a0 a1 a2 a3 a4).rd 5)) = ((2600468480 + a0 * 1 + a1 * 32 + a2 * 65536 + a3 * 1024 + a4 * 32768 : Nat) : Int) :=
  Eq.trans (add_n (add_n (add_n (add_n (add_n (lit_n 2600468480) (when_e 32768 l4) (by omega)) (shl_n 16 65536 rfl (low_n 5 5 32 (by decide) (nat_mod l2 (by decide))) (by omega)) (by omega)) (shl_n 10 1024 rfl (low_n 5 5 32 (by decide) (nat_mod l3 (by decide))) (by omega)) (by omega)) (shl_n 5 32 rfl (low_n 5 5 32 (by decide) (nat_mod l1 (by decide))) (by omega)) (by omega)) (low_n 5 5 32 (by decide) (nat_mod l0 (by decide))) (by omega)) (congrArg Nat.cast (by omega))
theorem fin9_7 {x : InsnS} (hr : rngI x) (h : rightI x = true) (ho : x.op = 8) (H : Heap) : Con Tryz.prog 9 [.agg (insnL x)] H (fun v H' => v = .tup [.c (.int .u32 (putI 7 (fBase 7) x)), .c (.bool true)] ∧ H' = H) := by
  have h13 := con13 x hr
  rw [h] at h13
  obtain ⟨a0, a1, a2, a3, a4, l0, l1, l2, l3, l4, rfl⟩ := right_7 hr h ho
  rw [put_7 a0 a1 a2 a3 a4 l0 l1 l2 l3 l4, ← refp_7 a0 a1 a2 a3 a4 l0 l1 l2 l3 l4]
  obtain ⟨lg, hl⟩ := flag_ex (X_7 a0 a1 a2 a3 a4)
  exact con9_P (X_7 a0 a1 a2 a3 a4) lg 0 8 _ rfl h13 hl (by simp) H
theorem refp_8 (a0 a1 a2 a3 : Nat) (l0 : a0 < 32) (l1 : a1 < 32) (l2 : a2 < 32) (l3 : a3 < 2) : addU (addU (addU (addU (((2596276224 : Nat) : Int)) (shlU ((u32S (X_8 a0 a1 a2 a3).sub)) 10)) ((shlU (lowS (X_8 a0 a1 a2 a3).rm 5) 16))) ((shlU (lowS (X_8 a0 a1 a2 a3).rn 5) 5))) ((lowS (X_8 a0 a1 a2 a3).rd 5)) = ((2596276224 + a0 * 1 + a1 * 32 + a2 * 65536 + a3 * 1024 : Nat) : Int) :=
  Eq.trans (add_n (add_n (add_n (add_n (lit_n 2596276224) (shl_n 10 1024 rfl (u32_n (rfl) (by omega)) (by omega)) (by omega)) (shl_n 16 65536 rfl (low_n 5 5 32 (by decide) (nat_mod l2 (by decide))) (by omega)) (by omega)) (shl_n 5 32 rfl (low_n 5 5 32 (by decide) (nat_mod l1 (by decide))) (by omega)) (by omega)) (low_n 5 5 32 (by decide) (nat_mod l0 (by decide))) (by omega)) (congrArg Nat.cast (by omega))
theorem fin9_8 {x : InsnS} (hr : rngI x) (h : rightI x = true) (ho : x.op = 9) (H : Heap) : Con Tryz.prog 9 [.agg (insnL x)] H (fun v H' => v = .tup [.c (.int .u32 (putI 8 (fBase 8) x)), .c (.bool true)] ∧ H' = H) := by
  have h13 := con13 x hr
  rw [h] at h13
  obtain ⟨a0, a1, a2, a3, l0, l1, l2, l3, rfl⟩ := right_8 hr h ho
  rw [put_8 a0 a1 a2 a3 l0 l1 l2 l3, ← refp_8 a0 a1 a2 a3 l0 l1 l2 l3]
  obtain ⟨lg, hl⟩ := flag_ex (X_8 a0 a1 a2 a3)
  exact con9_P (X_8 a0 a1 a2 a3) lg 0 9 _ rfl h13 hl (by simp) H
theorem refp_9 (a0 a1 a2 a3 a4 a5 : Nat) (l0 : a0 < 32) (l1 : a1 < 32) (l2 : a2 < 32) (l3 : a3 < 2) (l4 : a4 < 2) (l5 : a5 < 16) : addU (addU (addU (addU (addU (addU (((2592079872 : Nat) : Int)) (shlU (IntKind.u32.wrap ((u32S (X_9 a0 a1 a2 a3 a4 a5).sub).tdiv 2)) 30)) (shlU ((u32S (X_9 a0 a1 a2 a3 a4 a5).sub).tmod 2) 10)) ((shlU (lowS (X_9 a0 a1 a2 a3 a4 a5).rm 5) 16))) (shlU (lowS ((X_9 a0 a1 a2 a3 a4 a5).cond) 4) 12)) ((shlU (lowS (X_9 a0 a1 a2 a3 a4 a5).rn 5) 5))) ((lowS (X_9 a0 a1 a2 a3 a4 a5).rd 5)) = ((2592079872 + a0 * 1 + a1 * 32 + a2 * 65536 + a3 * 1073741824 + a4 * 1024 + a5 * 4096 : Nat) : Int) :=
  Eq.trans (add_n (add_n (add_n (add_n (add_n (add_n (lit_n 2592079872) (shl_n 30 1073741824 rfl (wq_n 2 (u32_n (rfl) (by omega)) (by omega)) (by omega)) (by omega)) (shl_n 10 1024 rfl (tm_n 2 (u32_n (rfl) (by omega))) (by omega)) (by omega)) (shl_n 16 65536 rfl (low_n 5 5 32 (by decide) (nat_mod l2 (by decide))) (by omega)) (by omega)) (shl_n 12 4096 rfl (low_n 4 4 16 (by decide) (nat_mod l5 (by decide))) (by omega)) (by omega)) (shl_n 5 32 rfl (low_n 5 5 32 (by decide) (nat_mod l1 (by decide))) (by omega)) (by omega)) (low_n 5 5 32 (by decide) (nat_mod l0 (by decide))) (by omega)) (congrArg Nat.cast (by omega))
theorem fin9_9 {x : InsnS} (hr : rngI x) (h : rightI x = true) (ho : x.op = 10) (H : Heap) : Con Tryz.prog 9 [.agg (insnL x)] H (fun v H' => v = .tup [.c (.int .u32 (putI 9 (fBase 9) x)), .c (.bool true)] ∧ H' = H) := by
  have h13 := con13 x hr
  rw [h] at h13
  obtain ⟨a0, a1, a2, a3, a4, a5, l0, l1, l2, l3, l4, l5, rfl⟩ := right_9 hr h ho
  rw [put_9 a0 a1 a2 a3 a4 a5 l0 l1 l2 l3 l4 l5, ← refp_9 a0 a1 a2 a3 a4 a5 l0 l1 l2 l3 l4 l5]
  obtain ⟨lg, hl⟩ := flag_ex (X_9 a0 a1 a2 a3 a4 a5)
  exact con9_P (X_9 a0 a1 a2 a3 a4 a5) lg 0 10 _ rfl h13 hl (by simp) H
theorem refp_10 (a0 a1 a2 a3 : Nat) (l0 : a0 < 32) (l1 : a1 < 2) (l2 : a2 < 4) (l3 : a3 < 524288) : addU (addU (addU (addU (((268435456 : Nat) : Int)) (shlU ((u32S (X_10 a0 a1 a2 a3).sub)) 31)) (shlU (((a3 * 4 + a2 : Nat) : Int).tmod 4) 29)) (shlU (IntKind.u32.wrap (((a3 * 4 + a2 : Nat) : Int).tdiv 4)) 5)) ((lowS (X_10 a0 a1 a2 a3).rd 5)) = ((268435456 + a0 * 1 + a1 * 2147483648 + a2 * 536870912 + a3 * 32 : Nat) : Int) :=
  Eq.trans (add_n (add_n (add_n (add_n (lit_n 268435456) (shl_n 31 2147483648 rfl (u32_n (rfl) (by omega)) (by omega)) (by omega)) (shl_n 29 536870912 rfl (tm_n 4 (rfl)) (by omega)) (by omega)) (shl_n 5 32 rfl (wq_n 4 (rfl) (by omega)) (by omega)) (by omega)) (low_n 5 5 32 (by decide) (nat_mod l0 (by decide))) (by omega)) (congrArg Nat.cast (by omega))
theorem fin9_10 {x : InsnS} (hr : rngI x) (h : rightI x = true) (ho : x.op = 11) (H : Heap) : Con Tryz.prog 9 [.agg (insnL x)] H (fun v H' => v = .tup [.c (.int .u32 (putI 10 (fBase 10) x)), .c (.bool true)] ∧ H' = H) := by
  have h13 := con13 x hr
  rw [h] at h13
  obtain ⟨a0, a1, a2, a3, l0, l1, l2, l3, rfl⟩ := right_10 hr h ho
  rw [put_10 a0 a1 a2 a3 l0 l1 l2 l3, ← refp_10 a0 a1 a2 a3 l0 l1 l2 l3]
  rcases (show a1 = 0 ∨ a1 = 1 by omega) with rfl | rfl
  · exact con9_P (X_10 a0 0 a2 a3) (u32S (X_10 a0 0 a2 a3).sub) _ 11 _ rfl h13 (flag_u _ rfl) (.inr (.inr (.inr (.inr (.inr (.inr (.inr (.inr (.inr (.inr (.inr (.inl ⟨rfl, rfl, ((adr_av l1 l2 l3).2 rfl).symm, rfl⟩)))))))))))) H
  · exact con9_P (X_10 a0 1 a2 a3) (u32S (X_10 a0 1 a2 a3).sub) _ 11 _ rfl h13 (flag_u _ rfl) (.inr (.inr (.inr (.inr (.inr (.inr (.inr (.inr (.inr (.inr (.inl ⟨rfl, rfl, ((adr_av l1 l2 l3).1 rfl).symm, rfl⟩))))))))))) H
theorem refp_11 (a0 a1 : Nat) (l0 : a0 < 2) (l1 : a1 < 67108864) : addU (addU (((335544320 : Nat) : Int)) (whenS ((X_11 a0 a1).link) 2147483648)) (lowS (quoS (X_11 a0 a1).imm 4) 26) = ((335544320 + a0 * 2147483648 + a1 * 1 : Nat) : Int) :=
  Eq.trans (add_n (add_n (lit_n 335544320) (when_e 2147483648 l0) (by omega)) (low_n 26 26 67108864 (by decide) (sx_quo26 l1)) (by omega)) (congrArg Nat.cast (by omega))
theorem fin9_11 {x : InsnS} (hr : rngI x) (h : rightI x = true) (ho : x.op = 12) (H : Heap) : Con Tryz.prog 9 [.agg (insnL x)] H (fun v H' => v = .tup [.c (.int .u32 (putI 11 (fBase 11) x)), .c (.bool true)] ∧ H' = H) := by
  have h13 := con13 x hr
  rw [h] at h13
  obtain ⟨a0, a1, l0, l1, rfl⟩ := right_11 hr h ho
  rw [put_11 a0 a1 l0 l1, ← refp_11 a0 a1 l0 l1]
  obtain ⟨lg, hl⟩ := flag_ex (X_11 a0 a1)
  exact con9_P (X_11 a0 a1) lg 0 12 _ rfl h13 hl (by simp) H
theorem refp_12 (a0 a1 : Nat) (l0 : a0 < 16) (l1 : a1 < 524288) : addU (addU (((1409286144 : Nat) : Int)) (shlU (lowS (quoS (X_12 a0 a1).imm 4) 19) 5)) (lowS ((X_12 a0 a1).cond) 4) = ((1409286144 + a0 * 1 + a1 * 32 : Nat) : Int) :=
  Eq.trans (add_n (add_n (lit_n 1409286144) (shl_n 5 32 rfl (low_n 19 19 524288 (by decide) (sx_quo19 l1)) (by omega)) (by omega)) (low_n 4 4 16 (by decide) (nat_mod l0 (by decide))) (by omega)) (congrArg Nat.cast (by omega))
theorem fin9_12 {x : InsnS} (hr : rngI x) (h : rightI x = true) (ho : x.op = 13) (H : Heap) : Con Tryz.prog 9 [.agg (insnL x)] H (fun v H' => v = .tup [.c (.int .u32 (putI 12 (fBase 12) x)), .c (.bool true)] ∧ H' = H) := by
  have h13 := con13 x hr
  rw [h] at h13
  obtain ⟨a0, a1, l0, l1, rfl⟩ := right_12 hr h ho
  rw [put_12 a0 a1 l0 l1, ← refp_12 a0 a1 l0 l1]
  obtain ⟨lg, hl⟩ := flag_ex (X_12 a0 a1)
  exact con9_P (X_12 a0 a1) lg 0 13 _ rfl h13 hl (by simp) H
theorem refp_13 (a0 a1 a2 : Nat) (l0 : a0 < 32) (l1 : a1 < 2) (l2 : a2 < 524288) : addU (addU (addU (((3019898880 : Nat) : Int)) (whenS ((X_13 a0 a1 a2).not_) 16777216)) (shlU (lowS (quoS (X_13 a0 a1 a2).imm 4) 19) 5)) ((lowS (X_13 a0 a1 a2).rd 5)) = ((3019898880 + a0 * 1 + a1 * 16777216 + a2 * 32 : Nat) : Int) :=
  Eq.trans (add_n (add_n (add_n (lit_n 3019898880) (when_d 16777216 l1) (by omega)) (shl_n 5 32 rfl (low_n 19 19 524288 (by decide) (sx_quo19 l2)) (by omega)) (by omega)) (low_n 5 5 32 (by decide) (nat_mod l0 (by decide))) (by omega)) (congrArg Nat.cast (by omega))
theorem fin9_13 {x : InsnS} (hr : rngI x) (h : rightI x = true) (ho : x.op = 14) (H : Heap) : Con Tryz.prog 9 [.agg (insnL x)] H (fun v H' => v = .tup [.c (.int .u32 (putI 13 (fBase 13) x)), .c (.bool true)] ∧ H' = H) := by
  have h13 := con13 x hr
  rw [h] at h13
  obtain ⟨a0, a1, a2, l0, l1, l2, rfl⟩ := right_13 hr h ho
  rw [put_13 a0 a1 a2 l0 l1 l2, ← refp_13 a0 a1 a2 l0 l1 l2]
  obtain ⟨lg, hl⟩ := flag_ex (X_13 a0 a1 a2)
  exact con9_P (X_13 a0 a1 a2) lg 0 14 _ rfl h13 hl (by simp) H
theorem refp_14 (a0 a1 a2 a3 a4 : Nat) (l0 : a0 < 32) (l1 : a1 < 2) (l2 : a2 < 2) (l3 : a3 < 32) (l4 : a4 < 16384) : addU (addU (addU (addU (addU (((905969664 : Nat) : Int)) (whenS ((X_14 a0 a1 a2 a3 a4).not_) 16777216)) (shlU (IntKind.u32.wrap (quoS (X_14 a0 a1 a2 a3 a4).amount 32)) 31)) (shlU (IntKind.u32.wrap ((X_14 a0 a1 a2 a3 a4).amount.tmod 32)) 19)) (shlU (lowS (quoS (X_14 a0 a1 a2 a3 a4).imm 4) 14) 5)) ((lowS (X_14 a0 a1 a2 a3 a4).rd 5)) = ((905969664 + a0 * 1 + a1 * 16777216 + a2 * 2147483648 + a3 * 524288 + a4 * 32 : Nat) : Int) :=
  Eq.trans (add_n (add_n (add_n (add_n (add_n (lit_n 905969664) (when_d 16777216 l1) (by omega)) (shl_n 31 2147483648 rfl (wquo_n 32 (rfl) (by omega)) (by omega)) (by omega)) (shl_n 19 524288 rfl (wtm_n 32 (rfl) (by omega)) (by omega)) (by omega)) (shl_n 5 32 rfl (low_n 14 14 16384 (by decide) (sx_quo14 l4)) (by omega)) (by omega)) (low_n 5 5 32 (by decide) (nat_mod l0 (by decide))) (by omega)) (congrArg Nat.cast (by omega))
theorem fin9_14 {x : InsnS} (hr : rngI x) (h : rightI x = true) (ho : x.op = 15) (H : Heap) : Con Tryz.prog 9 [.agg (insnL x)] H (fun v H' => v = .tup [.c (.int .u32 (putI 14 (fBase 14) x)), .c (.bool true)] ∧ H' = H) := by
  have h13 := con13 x hr
  rw [h] at h13
  obtain ⟨a0, a1, a2, a3, a4, l0, l1, l2, l3, l4, rfl⟩ := right_14 hr h ho
  rw [put_14 a0 a1 a2 a3 a4 l0 l1 l2 l3 l4, ← refp_14 a0 a1 a2 a3 a4 l0 l1 l2 l3 l4]
  obtain ⟨lg, hl⟩ := flag_ex (X_14 a0 a1 a2 a3 a4)
  exact con9_P (X_14 a0 a1 a2 a3 a4) lg 0 15 _ rfl h13 hl (by simp) H
theorem refp_15 (a0 a1 : Nat) (l0 : a0 < 32) (l1 : a1 < 4) : addU (addU (((3592355840 : Nat) : Int)) (shlU ((u32S (X_15 a0 a1).sub)) 21)) ((shlU (lowS (X_15 a0 a1).rn 5) 5)) = ((3592355840 + a0 * 32 + a1 * 2097152 : Nat) : Int) :=
  Eq.trans (add_n (add_n (lit_n 3592355840) (shl_n 21 2097152 rfl (u32_n (rfl) (by omega)) (by omega)) (by omega)) (shl_n 5 32 rfl (low_n 5 5 32 (by decide) (nat_mod l0 (by decide))) (by omega)) (by omega)) (congrArg Nat.cast (by omega))
theorem fin9_15 {x : InsnS} (hr : rngI x) (h : rightI x = true) (ho : x.op = 16) (H : Heap) : Con Tryz.prog 9 [.agg (insnL x)] H (fun v H' => v = .tup [.c (.int .u32 (putI 15 (fBase 15) x)), .c (.bool true)] ∧ H' = H) := by
  have h13 := con13 x hr
  rw [h] at h13
  obtain ⟨a0, a1, l0, l1, rfl⟩ := right_15 hr h ho
  rw [put_15 a0 a1 l0 l1, ← refp_15 a0 a1 l0 l1]
  obtain ⟨lg, hl⟩ := flag_ex (X_15 a0 a1)
  exact con9_P (X_15 a0 a1) lg 0 16 _ rfl h13 hl (by simp) H
theorem refp_16 (a0 a1 a2 : Nat) (l0 : a0 < 32) (l1 : a1 < 32) (l2 : a2 < 4096) : addU (addU (addU (((4181721088 : Nat) : Int)) (shlU (lowS (quoS (X_16 a0 a1 a2).imm 8) 12) 10)) ((shlU (lowS (X_16 a0 a1 a2).rn 5) 5))) ((lowS (X_16 a0 a1 a2).rd 5)) = ((4181721088 + a0 * 1 + a1 * 32 + a2 * 1024 : Nat) : Int) :=
  Eq.trans (add_n (add_n (add_n (lit_n 4181721088) (shl_n 10 1024 rfl (low_n 12 12 4096 (by decide) (quo_mod (quo8 a2 (by omega)) (nat_mod l2 (by decide)))) (by omega)) (by omega)) (shl_n 5 32 rfl (low_n 5 5 32 (by decide) (nat_mod l1 (by decide))) (by omega)) (by omega)) (low_n 5 5 32 (by decide) (nat_mod l0 (by decide))) (by omega)) (congrArg Nat.cast (by omega))
theorem fin9_16 {x : InsnS} (hr : rngI x) (h : rightI x = true) (ho : x.op = 17) (H : Heap) : Con Tryz.prog 9 [.agg (insnL x)] H (fun v H' => v = .tup [.c (.int .u32 (putI 16 (fBase 16) x)), .c (.bool true)] ∧ H' = H) := by
  have h13 := con13 x hr
  rw [h] at h13
  obtain ⟨a0, a1, a2, l0, l1, l2, rfl⟩ := right_16 hr h ho
  rw [put_16 a0 a1 a2 l0 l1 l2, ← refp_16 a0 a1 a2 l0 l1 l2]
  exact con9_acc (X_16 a0 a1 a2) _ rfl h13 (fun H => con16_17 (X_16 a0 a1 a2) _ _ _ _ rfl H) H
theorem refp_17 (a0 a1 a2 : Nat) (l0 : a0 < 32) (l1 : a1 < 32) (l2 : a2 < 4096) : addU (addU (addU (((4177526784 : Nat) : Int)) (shlU (lowS (quoS (X_17 a0 a1 a2).imm 8) 12) 10)) ((shlU (lowS (X_17 a0 a1 a2).rn 5) 5))) ((lowS (X_17 a0 a1 a2).rd 5)) = ((4177526784 + a0 * 1 + a1 * 32 + a2 * 1024 : Nat) : Int) :=
  Eq.trans (add_n (add_n (add_n (lit_n 4177526784) (shl_n 10 1024 rfl (low_n 12 12 4096 (by decide) (quo_mod (quo8 a2 (by omega)) (nat_mod l2 (by decide)))) (by omega)) (by omega)) (shl_n 5 32 rfl (low_n 5 5 32 (by decide) (nat_mod l1 (by decide))) (by omega)) (by omega)) (low_n 5 5 32 (by decide) (nat_mod l0 (by decide))) (by omega)) (congrArg Nat.cast (by omega))
theorem fin9_17 {x : InsnS} (hr : rngI x) (h : rightI x = true) (ho : x.op = 18) (H : Heap) : Con Tryz.prog 9 [.agg (insnL x)] H (fun v H' => v = .tup [.c (.int .u32 (putI 17 (fBase 17) x)), .c (.bool true)] ∧ H' = H) := by
  have h13 := con13 x hr
  rw [h] at h13
  obtain ⟨a0, a1, a2, l0, l1, l2, rfl⟩ := right_17 hr h ho
  rw [put_17 a0 a1 a2 l0 l1 l2, ← refp_17 a0 a1 a2 l0 l1 l2]
  exact con9_acc (X_17 a0 a1 a2) _ rfl h13 (fun H => con16_18 (X_17 a0 a1 a2) _ _ _ _ rfl H) H
theorem refp_18 (a0 a1 a2 a3 : Nat) (l0 : a0 < 32) (l1 : a1 < 32) (l2 : a2 < 32) (l3 : a3 < 2) : addU (addU (addU (addU (((4167067648 : Nat) : Int)) (whenS ((X_18 a0 a1 a2 a3).amount == 3) 4096)) ((shlU (lowS (X_18 a0 a1 a2 a3).rm 5) 16))) ((shlU (lowS (X_18 a0 a1 a2 a3).rn 5) 5))) ((lowS (X_18 a0 a1 a2 a3).rd 5)) = ((4167067648 + a0 * 1 + a1 * 32 + a2 * 65536 + a3 * 4096 : Nat) : Int) :=
  Eq.trans (add_n (add_n (add_n (add_n (lit_n 4167067648) (when_3 4096 l3) (by omega)) (shl_n 16 65536 rfl (low_n 5 5 32 (by decide) (nat_mod l2 (by decide))) (by omega)) (by omega)) (shl_n 5 32 rfl (low_n 5 5 32 (by decide) (nat_mod l1 (by decide))) (by omega)) (by omega)) (low_n 5 5 32 (by decide) (nat_mod l0 (by decide))) (by omega)) (congrArg Nat.cast (by omega))
theorem fin9_18 {x : InsnS} (hr : rngI x) (h : rightI x = true) (ho : x.op = 19) (H : Heap) : Con Tryz.prog 9 [.agg (insnL x)] H (fun v H' => v = .tup [.c (.int .u32 (putI 18 (fBase 18) x)), .c (.bool true)] ∧ H' = H) := by
  have h13 := con13 x hr
  rw [h] at h13
  obtain ⟨a0, a1, a2, a3, l0, l1, l2, l3, rfl⟩ := right_18 hr h ho
  rw [put_18 a0 a1 a2 a3 l0 l1 l2 l3, ← refp_18 a0 a1 a2 a3 l0 l1 l2 l3]
  exact con9_acc (X_18 a0 a1 a2 a3) _ rfl h13 (fun H => con16_19 (X_18 a0 a1 a2 a3) _ _ _ _ rfl H) H
theorem refp_19 (a0 a1 a2 a3 : Nat) (l0 : a0 < 32) (l1 : a1 < 32) (l2 : a2 < 32) (l3 : a3 < 2) : addU (addU (addU (addU (((4162873344 : Nat) : Int)) (whenS ((X_19 a0 a1 a2 a3).amount == 3) 4096)) ((shlU (lowS (X_19 a0 a1 a2 a3).rm 5) 16))) ((shlU (lowS (X_19 a0 a1 a2 a3).rn 5) 5))) ((lowS (X_19 a0 a1 a2 a3).rd 5)) = ((4162873344 + a0 * 1 + a1 * 32 + a2 * 65536 + a3 * 4096 : Nat) : Int) :=
  Eq.trans (add_n (add_n (add_n (add_n (lit_n 4162873344) (when_3 4096 l3) (by omega)) (shl_n 16 65536 rfl (low_n 5 5 32 (by decide) (nat_mod l2 (by decide))) (by omega)) (by omega)) (shl_n 5 32 rfl (low_n 5 5 32 (by decide) (nat_mod l1 (by decide))) (by omega)) (by omega)) (low_n 5 5 32 (by decide) (nat_mod l0 (by decide))) (by omega)) (congrArg Nat.cast (by omega))
theorem fin9_19 {x : InsnS} (hr : rngI x) (h : rightI x = true) (ho : x.op = 20) (H : Heap) : Con Tryz.prog 9 [.agg (insnL x)] H (fun v H' => v = .tup [.c (.int .u32 (putI 19 (fBase 19) x)), .c (.bool true)] ∧ H' = H) := by
  have h13 := con13 x hr
  rw [h] at h13
  obtain ⟨a0, a1, a2, a3, l0, l1, l2, l3, rfl⟩ := right_19 hr h ho
  rw [put_19 a0 a1 a2 a3 l0 l1 l2 l3, ← refp_19 a0 a1 a2 a3 l0 l1 l2 l3]
  exact con9_acc (X_19 a0 a1 a2 a3) _ rfl h13 (fun H => con16_20 (X_19 a0 a1 a2 a3) _ _ _ _ rfl H) H
theorem refp_20 (a0 a1 : Nat) (l0 : a0 < 32) (l1 : a1 < 32) : addU (addU (((3370122240 : Nat) : Int)) ((shlU (lowS (X_20 a0 a1).rn 5) 5))) ((lowS (X_20 a0 a1).rd 5)) = ((3370122240 + a0 * 1 + a1 * 32 : Nat) : Int) :=
  Eq.trans (add_n (add_n (lit_n 3370122240) (shl_n 5 32 rfl (low_n 5 5 32 (by decide) (nat_mod l1 (by decide))) (by omega)) (by omega)) (low_n 5 5 32 (by decide) (nat_mod l0 (by decide))) (by omega)) (congrArg Nat.cast (by omega))
theorem fin9_20 {x : InsnS} (hr : rngI x) (h : rightI x = true) (ho : x.op = 21) (hs : x.sub = 0) (H : Heap) : Con Tryz.prog 9 [.agg (insnL x)] H (fun v H' => v = .tup [.c (.int .u32 (putI 20 (fBase 20) x)), .c (.bool true)] ∧ H' = H) := by
  have h13 := con13 x hr
  rw [h] at h13
  obtain ⟨a0, a1, l0, l1, rfl⟩ := right_20 hr h ho hs
  rw [put_20 a0 a1 l0 l1, ← refp_20 a0 a1 l0 l1]
  exact con9_acc (X_20 a0 a1) _ rfl h13 (fun H => con16_21b (X_20 a0 a1) _ _ _ _ rfl (by kernel_rfl) H) H
theorem refp_21 (a0 a1 : Nat) (l0 : a0 < 32) (l1 : a1 < 32) : addU (addU (((4173316096 : Nat) : Int)) ((shlU (lowS (X_21 a0 a1).rn 5) 5))) ((lowS (X_21 a0 a1).rd 5)) = ((4173316096 + a0 * 1 + a1 * 32 : Nat) : Int) :=
  Eq.trans (add_n (add_n (lit_n 4173316096) (shl_n 5 32 rfl (low_n 5 5 32 (by decide) (nat_mod l1 (by decide))) (by omega)) (by omega)) (low_n 5 5 32 (by decide) (nat_mod l0 (by decide))) (by omega)) (congrArg Nat.cast (by omega))
theorem fin9_21 {x : InsnS} (hr : rngI x) (h : rightI x = true) (ho : x.op = 21) (hs : x.sub = 1) (H : Heap) : Con Tryz.prog 9 [.agg (insnL x)] H (fun v H' => v = .tup [.c (.int .u32 (putI 21 (fBase 21) x)), .c (.bool true)] ∧ H' = H) := by
  have h13 := con13 x hr
  rw [h] at h13
  obtain ⟨a0, a1, l0, l1, rfl⟩ := right_21 hr h ho hs
  rw [put_21 a0 a1 l0 l1, ← refp_21 a0 a1 l0 l1]
  exact con9_acc (X_21 a0 a1) _ rfl h13 (fun H => con16_21a (X_21 a0 a1) _ _ _ _ rfl (by kernel_rfl) H) H
theorem refp_22 (a0 a1 : Nat) (l0 : a0 < 32) (l1 : a1 < 32) : addU (addU (((3365927936 : Nat) : Int)) ((shlU (lowS (X_22 a0 a1).rn 5) 5))) ((lowS (X_22 a0 a1).rd 5)) = ((3365927936 + a0 * 1 + a1 * 32 : Nat) : Int) :=
  Eq.trans (add_n (add_n (lit_n 3365927936) (shl_n 5 32 rfl (low_n 5 5 32 (by decide) (nat_mod l1 (by decide))) (by omega)) (by omega)) (low_n 5 5 32 (by decide) (nat_mod l0 (by decide))) (by omega)) (congrArg Nat.cast (by omega))
theorem fin9_22 {x : InsnS} (hr : rngI x) (h : rightI x = true) (ho : x.op = 22) (H : Heap) : Con Tryz.prog 9 [.agg (insnL x)] H (fun v H' => v = .tup [.c (.int .u32 (putI 22 (fBase 22) x)), .c (.bool true)] ∧ H' = H) := by
  have h13 := con13 x hr
  rw [h] at h13
  obtain ⟨a0, a1, l0, l1, rfl⟩ := right_22 hr h ho
  rw [put_22 a0 a1 l0 l1, ← refp_22 a0 a1 l0 l1]
  exact con9_acc (X_22 a0 a1) _ rfl h13 (fun H => con16_22 (X_22 a0 a1) _ _ _ _ rfl H) H
theorem refp_23 (a0 a1 a2 : Nat) (l0 : a0 < 32) (l1 : a1 < 32) (l2 : a2 < 2) : addU (addU (addU (((3361700864 : Nat) : Int)) (shlU ((u32S (X_23 a0 a1 a2).sub)) 15)) ((shlU (lowS (X_23 a0 a1 a2).rn 5) 5))) ((lowS (X_23 a0 a1 a2).rd 5)) = ((3361700864 + a0 * 1 + a1 * 32 + a2 * 32768 : Nat) : Int) :=
  Eq.trans (add_n (add_n (add_n (lit_n 3361700864) (shl_n 15 32768 rfl (u32_n (rfl) (by omega)) (by omega)) (by omega)) (shl_n 5 32 rfl (low_n 5 5 32 (by decide) (nat_mod l1 (by decide))) (by omega)) (by omega)) (low_n 5 5 32 (by decide) (nat_mod l0 (by decide))) (by omega)) (congrArg Nat.cast (by omega))
theorem fin9_23 {x : InsnS} (hr : rngI x) (h : rightI x = true) (ho : x.op = 23) (H : Heap) : Con Tryz.prog 9 [.agg (insnL x)] H (fun v H' => v = .tup [.c (.int .u32 (putI 23 (fBase 23) x)), .c (.bool true)] ∧ H' = H) := by
  have h13 := con13 x hr
  rw [h] at h13
  obtain ⟨a0, a1, a2, l0, l1, l2, rfl⟩ := right_23 hr h ho
  rw [put_23 a0 a1 a2 l0 l1 l2, ← refp_23 a0 a1 a2 l0 l1 l2]
  exact con9_acc (X_23 a0 a1 a2) _ rfl h13 (fun H => con16_23 (X_23 a0 a1 a2) _ _ _ _ rfl H) H
theorem refp_24 (a0 a1 a2 a3 : Nat) (l0 : a0 < 32) (l1 : a1 < 32) (l2 : a2 < 32) (l3 : a3 < 2) : addU (addU (addU (addU (((3355474944 : Nat) : Int)) (shlU ((u32S (X_24 a0 a1 a2 a3).sub)) 15)) ((shlU (lowS (X_24 a0 a1 a2 a3).rm 5) 16))) ((shlU (lowS (X_24 a0 a1 a2 a3).rn 5) 5))) ((lowS (X_24 a0 a1 a2 a3).rd 5)) = ((3355474944 + a0 * 1 + a1 * 32 + a2 * 65536 + a3 * 32768 : Nat) : Int) :=
  Eq.trans (add_n (add_n (add_n (add_n (lit_n 3355474944) (shl_n 15 32768 rfl (u32_n (rfl) (by omega)) (by omega)) (by omega)) (shl_n 16 65536 rfl (low_n 5 5 32 (by decide) (nat_mod l2 (by decide))) (by omega)) (by omega)) (shl_n 5 32 rfl (low_n 5 5 32 (by decide) (nat_mod l1 (by decide))) (by omega)) (by omega)) (low_n 5 5 32 (by decide) (nat_mod l0 (by decide))) (by omega)) (congrArg Nat.cast (by omega))
theorem fin9_24 {x : InsnS} (hr : rngI x) (h : rightI x = true) (ho : x.op = 24) (H : Heap) : Con Tryz.prog 9 [.agg (insnL x)] H (fun v H' => v = .tup [.c (.int .u32 (putI 24 (fBase 24) x)), .c (.bool true)] ∧ H' = H) := by
  have h13 := con13 x hr
  rw [h] at h13
  obtain ⟨a0, a1, a2, a3, l0, l1, l2, l3, rfl⟩ := right_24 hr h ho
  rw [put_24 a0 a1 a2 a3 l0 l1 l2 l3, ← refp_24 a0 a1 a2 a3 l0 l1 l2 l3]
  exact con9_acc (X_24 a0 a1 a2 a3) _ rfl h13 (fun H => con16_24 (X_24 a0 a1 a2 a3) _ _ _ _ rfl H) H
theorem refp_25 : ((3573759839 : Nat) : Int) = ((3573759839 : Nat) : Int) :=
  Eq.trans (lit_n 3573759839) (congrArg Nat.cast (by omega))
theorem fin9_25 {x : InsnS} (hr : rngI x) (h : rightI x = true) (ho : x.op = 25) (H : Heap) : Con Tryz.prog 9 [.agg (insnL x)] H (fun v H' => v = .tup [.c (.int .u32 (putI 25 (fBase 25) x)), .c (.bool true)] ∧ H' = H) := by
  have h13 := con13 x hr
  rw [h] at h13
  obtain rfl := right_25 hr h ho
  rw [put_25, ← refp_25]
  exact con9_acc X_25 _ rfl h13 (fun H => con16_25 X_25 _ _ _ _ rfl H) H
theorem refp_26 (a0 : Nat) (l0 : a0 < 4) : addU (subU ((3573759167 : Nat) : Int) (mulU (u32S (X_26 a0).sub) 32)) (shlU (u32S (X_26 a0).imm) 8) = ((3573759167 + a0 * 256 : Nat) : Int) :=
  Eq.trans (add_n (sub_n (lit_n 3573759167) (mul_n 32 (u32_n (lit_n 0) (by omega)) (by omega)) (by omega)) (shl_n 8 256 rfl (u32_n (rfl) (by omega)) (by omega)) (by omega)) (congrArg Nat.cast (by omega))
theorem fin9_26 {x : InsnS} (hr : rngI x) (h : rightI x = true) (ho : x.op = 26) (hs : x.sub = 0) (H : Heap) : Con Tryz.prog 9 [.agg (insnL x)] H (fun v H' => v = .tup [.c (.int .u32 (putI 26 (fBase 26) x)), .c (.bool true)] ∧ H' = H) := by
  have h13 := con13 x hr
  rw [h] at h13
  obtain ⟨a0, l0, rfl⟩ := right_26 hr h ho hs
  rw [put_26 a0 l0, ← refp_26 a0 l0]
  exact con9_acc (X_26 a0) _ rfl h13 (fun H => con16_26 (X_26 a0) _ _ _ _ rfl H) H
theorem refp_27 (a0 : Nat) (l0 : a0 < 4) : addU (subU ((3573759167 : Nat) : Int) (mulU (u32S (X_27 a0).sub) 32)) (shlU (u32S (X_27 a0).imm) 8) = ((3573759135 + a0 * 256 : Nat) : Int) :=
  Eq.trans (add_n (sub_n (lit_n 3573759167) (mul_n 32 (u32_n (lit_n 1) (by omega)) (by omega)) (by omega)) (shl_n 8 256 rfl (u32_n (rfl) (by omega)) (by omega)) (by omega)) (congrArg Nat.cast (by omega))
theorem fin9_27 {x : InsnS} (hr : rngI x) (h : rightI x = true) (ho : x.op = 26) (hs : x.sub = 1) (H : Heap) : Con Tryz.prog 9 [.agg (insnL x)] H (fun v H' => v = .tup [.c (.int .u32 (putI 27 (fBase 27) x)), .c (.bool true)] ∧ H' = H) := by
  have h13 := con13 x hr
  rw [h] at h13
  obtain ⟨a0, l0, rfl⟩ := right_27 hr h ho hs
  rw [put_27 a0 l0, ← refp_27 a0 l0]
  exact con9_acc (X_27 a0) _ rfl h13 (fun H => con16_26 (X_27 a0) _ _ _ _ rfl H) H
theorem refp_28 : ((3573759967 : Nat) : Int) = ((3573759967 : Nat) : Int) :=
  Eq.trans (lit_n 3573759967) (congrArg Nat.cast (by omega))
theorem fin9_28 {x : InsnS} (hr : rngI x) (h : rightI x = true) (ho : x.op = 27) (H : Heap) : Con Tryz.prog 9 [.agg (insnL x)] H (fun v H' => v = .tup [.c (.int .u32 (putI 28 (fBase 28) x)), .c (.bool true)] ∧ H' = H) := by
  have h13 := con13 x hr
  rw [h] at h13
  obtain rfl := right_28 hr h ho
  rw [put_28, ← refp_28]
  exact con9_acc X_28 _ rfl h13 (fun H => con16_27 X_28 _ _ _ _ rfl H) H
theorem refp_29 (a0 : Nat) (l0 : a0 < 32) : addU (((3574297888 : Nat) : Int)) ((lowS (X_29 a0).rd 5)) = ((3574297888 + a0 * 1 : Nat) : Int) :=
  Eq.trans (add_n (lit_n 3574297888) (low_n 5 5 32 (by decide) (nat_mod l0 (by decide))) (by omega)) (congrArg Nat.cast (by omega))
theorem fin9_29 {x : InsnS} (hr : rngI x) (h : rightI x = true) (ho : x.op = 28) (H : Heap) : Con Tryz.prog 9 [.agg (insnL x)] H (fun v H' => v = .tup [.c (.int .u32 (putI 29 (fBase 29) x)), .c (.bool true)] ∧ H' = H) := by
  have h13 := con13 x hr
  rw [h] at h13
  obtain ⟨a0, l0, rfl⟩ := right_29 hr h ho
  rw [put_29 a0 l0, ← refp_29 a0 l0]
  exact con9_acc (X_29 a0) _ rfl h13 (fun H => con16_28 (X_29 a0) _ _ _ _ rfl H) H
theorem refp_30 (a0 : Nat) (l0 : a0 < 32) : addU (((3574299424 : Nat) : Int)) ((lowS (X_30 a0).rd 5)) = ((3574299424 + a0 * 1 : Nat) : Int) :=
  Eq.trans (add_n (lit_n 3574299424) (low_n 5 5 32 (by decide) (nat_mod l0 (by decide))) (by omega)) (congrArg Nat.cast (by omega))
theorem fin9_30 {x : InsnS} (hr : rngI x) (h : rightI x = true) (ho : x.op = 30) (H : Heap) : Con Tryz.prog 9 [.agg (insnL x)] H (fun v H' => v = .tup [.c (.int .u32 (putI 30 (fBase 30) x)), .c (.bool true)] ∧ H' = H) := by
  have h13 := con13 x hr
  rw [h] at h13
  obtain ⟨a0, l0, rfl⟩ := right_30 hr h ho
  rw [put_30 a0 l0, ← refp_30 a0 l0]
  exact con9_acc (X_30 a0) _ rfl h13 (fun H => con16_30 (X_30 a0) _ _ _ _ rfl H) H
theorem refp_31 : ((3574101279 : Nat) : Int) = ((3574101279 : Nat) : Int) :=
  Eq.trans (lit_n 3574101279) (congrArg Nat.cast (by omega))
theorem fin9_31 {x : InsnS} (hr : rngI x) (h : rightI x = true) (ho : x.op = 29) (H : Heap) : Con Tryz.prog 9 [.agg (insnL x)] H (fun v H' => v = .tup [.c (.int .u32 (putI 31 (fBase 31) x)), .c (.bool true)] ∧ H' = H) := by
  have h13 := con13 x hr
  rw [h] at h13
  obtain rfl := right_31 hr h ho
  rw [put_31, ← refp_31]
  exact con9_acc X_31 _ rfl h13 (fun H => con16_29 X_31 _ _ _ _ rfl H) H
theorem refp_32 (a0 a1 : Nat) (l0 : a0 < 32) (l1 : a1 < 32768) : addU (addU (((3576692736 : Nat) : Int)) (shlU (u32S (X_32 a0 a1).sys) 5)) ((lowS (X_32 a0 a1).rd 5)) = ((3576692736 + a0 * 1 + a1 * 32 : Nat) : Int) :=
  Eq.trans (add_n (add_n (lit_n 3576692736) (shl_n 5 32 rfl (u32_n (rfl) (by omega)) (by omega)) (by omega)) (low_n 5 5 32 (by decide) (nat_mod l0 (by decide))) (by omega)) (congrArg Nat.cast (by omega))
theorem fin9_32 {x : InsnS} (hr : rngI x) (h : rightI x = true) (ho : x.op = 31) (H : Heap) : Con Tryz.prog 9 [.agg (insnL x)] H (fun v H' => v = .tup [.c (.int .u32 (putI 32 (fBase 32) x)), .c (.bool true)] ∧ H' = H) := by
  have h13 := con13 x hr
  rw [h] at h13
  obtain ⟨a0, a1, l0, l1, rfl⟩ := right_32 hr h ho
  rw [put_32 a0 a1 l0 l1, ← refp_32 a0 a1 l0 l1]
  exact con9_acc (X_32 a0 a1) _ rfl h13 (fun H => con16_31 (X_32 a0 a1) _ _ _ _ rfl H) H
theorem refp_33 (a0 a1 : Nat) (l0 : a0 < 32) (l1 : a1 < 32768) : addU (addU (((3574595584 : Nat) : Int)) (shlU (u32S (X_33 a0 a1).sys) 5)) ((lowS (X_33 a0 a1).rd 5)) = ((3574595584 + a0 * 1 + a1 * 32 : Nat) : Int) :=
  Eq.trans (add_n (add_n (lit_n 3574595584) (shl_n 5 32 rfl (u32_n (rfl) (by omega)) (by omega)) (by omega)) (low_n 5 5 32 (by decide) (nat_mod l0 (by decide))) (by omega)) (congrArg Nat.cast (by omega))
theorem fin9_33 {x : InsnS} (hr : rngI x) (h : rightI x = true) (ho : x.op = 32) (H : Heap) : Con Tryz.prog 9 [.agg (insnL x)] H (fun v H' => v = .tup [.c (.int .u32 (putI 33 (fBase 33) x)), .c (.bool true)] ∧ H' = H) := by
  have h13 := con13 x hr
  rw [h] at h13
  obtain ⟨a0, a1, l0, l1, rfl⟩ := right_33 hr h ho
  rw [put_33 a0 a1 l0 l1, ← refp_33 a0 a1 l0 l1]
  exact con9_acc (X_33 a0 a1) _ rfl h13 (fun H => con16_32 (X_33 a0 a1) _ _ _ _ rfl H) H
theorem refp_34 (a0 : Nat) (l0 : a0 < 16) : addU (addU (((3573760223 : Nat) : Int)) (mulU (u32S (X_34 a0).sub) 32)) (shlU (u32S (X_34 a0).imm) 8) = ((3573760223 + a0 * 256 : Nat) : Int) :=
  Eq.trans (add_n (add_n (lit_n 3573760223) (mul_n 32 (u32_n (lit_n 0) (by omega)) (by omega)) (by omega)) (shl_n 8 256 rfl (u32_n (rfl) (by omega)) (by omega)) (by omega)) (congrArg Nat.cast (by omega))
theorem fin9_34 {x : InsnS} (hr : rngI x) (h : rightI x = true) (ho : x.op = 33) (hs : x.sub = 0) (H : Heap) : Con Tryz.prog 9 [.agg (insnL x)] H (fun v H' => v = .tup [.c (.int .u32 (putI 34 (fBase 34) x)), .c (.bool true)] ∧ H' = H) := by
  have h13 := con13 x hr
  rw [h] at h13
  obtain ⟨a0, l0, rfl⟩ := right_34 hr h ho hs
  rw [put_34 a0 l0, ← refp_34 a0 l0]
  exact con9_acc (X_34 a0) _ rfl h13 (fun H => con16_33 (X_34 a0) _ _ _ _ rfl H) H
theorem refp_35 (a0 : Nat) (l0 : a0 < 16) : addU (addU (((3573760223 : Nat) : Int)) (mulU (u32S (X_35 a0).sub) 32)) (shlU (u32S (X_35 a0).imm) 8) = ((3573760255 + a0 * 256 : Nat) : Int) :=
  Eq.trans (add_n (add_n (lit_n 3573760223) (mul_n 32 (u32_n (lit_n 1) (by omega)) (by omega)) (by omega)) (shl_n 8 256 rfl (u32_n (rfl) (by omega)) (by omega)) (by omega)) (congrArg Nat.cast (by omega))
theorem fin9_35 {x : InsnS} (hr : rngI x) (h : rightI x = true) (ho : x.op = 33) (hs : x.sub = 1) (H : Heap) : Con Tryz.prog 9 [.agg (insnL x)] H (fun v H' => v = .tup [.c (.int .u32 (putI 35 (fBase 35) x)), .c (.bool true)] ∧ H' = H) := by
  have h13 := con13 x hr
  rw [h] at h13
  obtain ⟨a0, l0, rfl⟩ := right_35 hr h ho hs
  rw [put_35 a0 l0, ← refp_35 a0 l0]
  exact con9_acc (X_35 a0) _ rfl h13 (fun H => con16_33 (X_35 a0) _ _ _ _ rfl H) H
theorem refp_36 (a0 : Nat) (l0 : a0 < 65536) : addU (((3556769793 : Nat) : Int)) (shlU (u32S (X_36 a0).imm) 5) = ((3556769793 + a0 * 32 : Nat) : Int) :=
  Eq.trans (add_n (lit_n 3556769793) (shl_n 5 32 rfl (u32_n (rfl) (by omega)) (by omega)) (by omega)) (congrArg Nat.cast (by omega))
theorem fin9_36 {x : InsnS} (hr : rngI x) (h : rightI x = true) (ho : x.op = 34) (H : Heap) : Con Tryz.prog 9 [.agg (insnL x)] H (fun v H' => v = .tup [.c (.int .u32 (putI 36 (fBase 36) x)), .c (.bool true)] ∧ H' = H) := by
  have h13 := con13 x hr
  rw [h] at h13
  obtain ⟨a0, l0, rfl⟩ := right_36 hr h ho
  rw [put_36 a0 l0, ← refp_36 a0 l0]
  exact con9_acc (X_36 a0) _ rfl h13 (fun H => con16_34 (X_36 a0) _ _ _ _ rfl H) H
theorem refp_37 (a0 : Nat) (l0 : a0 < 65536) : addU (((3558866944 : Nat) : Int)) (shlU (u32S (X_37 a0).imm) 5) = ((3558866944 + a0 * 32 : Nat) : Int) :=
  Eq.trans (add_n (lit_n 3558866944) (shl_n 5 32 rfl (u32_n (rfl) (by omega)) (by omega)) (by omega)) (congrArg Nat.cast (by omega))
theorem fin9_37 {x : InsnS} (hr : rngI x) (h : rightI x = true) (ho : x.op = 35) (H : Heap) : Con Tryz.prog 9 [.agg (insnL x)] H (fun v H' => v = .tup [.c (.int .u32 (putI 37 (fBase 37) x)), .c (.bool true)] ∧ H' = H) := by
  have h13 := con13 x hr
  rw [h] at h13
  obtain ⟨a0, l0, rfl⟩ := right_37 hr h ho
  rw [put_37 a0 l0, ← refp_37 a0 l0]
  exact con9_acc (X_37 a0) _ rfl h13 (fun H => con16_35 (X_37 a0) _ _ _ _ rfl H) H
theorem refp_38 : ((3600745440 : Nat) : Int) = ((3600745440 : Nat) : Int) :=
  Eq.trans (lit_n 3600745440) (congrArg Nat.cast (by omega))
theorem fin9_38 {x : InsnS} (hr : rngI x) (h : rightI x = true) (ho : x.op = 36) (H : Heap) : Con Tryz.prog 9 [.agg (insnL x)] H (fun v H' => v = .tup [.c (.int .u32 (putI 38 (fBase 38) x)), .c (.bool true)] ∧ H' = H) := by
  have h13 := con13 x hr
  rw [h] at h13
  obtain rfl := right_38 hr h ho
  rw [put_38, ← refp_38]
  exact con9_acc X_38 _ rfl h13 (fun H => con16_36 X_38 _ _ _ _ rfl H) H
theorem refp_39 (a0 : Nat) (l0 : a0 < 8) : addU (((3573751839 : Nat) : Int)) (shlU (u32S (X_39 a0).imm) 5) = ((3573751839 + a0 * 32 : Nat) : Int) :=
  Eq.trans (add_n (lit_n 3573751839) (shl_n 5 32 rfl (u32_n (rfl) (by omega)) (by omega)) (by omega)) (congrArg Nat.cast (by omega))
theorem fin9_39 {x : InsnS} (hr : rngI x) (h : rightI x = true) (ho : x.op = 37) (H : Heap) : Con Tryz.prog 9 [.agg (insnL x)] H (fun v H' => v = .tup [.c (.int .u32 (putI 39 (fBase 39) x)), .c (.bool true)] ∧ H' = H) := by
  have h13 := con13 x hr
  rw [h] at h13
  obtain ⟨a0, l0, rfl⟩ := right_39 hr h ho
  rw [put_39 a0 l0, ← refp_39 a0 l0]
  exact con9_acc (X_39 a0) _ rfl h13 (fun H => con16_37 (X_39 a0) _ _ _ _ rfl H) H
theorem op_of {x : InsnS} (h : rightI x = true) : ∃ j, j < 40 ∧ x.op = fOp j ∧ (fSub j < 0 ∨ x.sub = fSub j) := by
  by_cases h1 : x.op = 1
  · exact ⟨0, by decide, h1, .inl (by decide)⟩
  by_cases h2 : x.op = 2
  · exact ⟨1, by decide, h2, .inl (by decide)⟩
  by_cases h3 : x.op = 3
  · exact ⟨2, by decide, h3, .inl (by decide)⟩
  by_cases h4 : x.op = 4
  · exact ⟨3, by decide, h4, .inl (by decide)⟩
  by_cases h5 : x.op = 5
  · exact ⟨4, by decide, h5, .inl (by decide)⟩
  by_cases h6 : x.op = 6
  · exact ⟨5, by decide, h6, .inl (by decide)⟩
  by_cases h7 : x.op = 7
  · exact ⟨6, by decide, h7, .inl (by decide)⟩
  by_cases h8 : x.op = 8
  · exact ⟨7, by decide, h8, .inl (by decide)⟩
  by_cases h9 : x.op = 9
  · exact ⟨8, by decide, h9, .inl (by decide)⟩
  by_cases h10 : x.op = 10
  · exact ⟨9, by decide, h10, .inl (by decide)⟩
  by_cases h11 : x.op = 11
  · exact ⟨10, by decide, h11, .inl (by decide)⟩
  by_cases h12 : x.op = 12
  · exact ⟨11, by decide, h12, .inl (by decide)⟩
  by_cases h13 : x.op = 13
  · exact ⟨12, by decide, h13, .inl (by decide)⟩
  by_cases h14 : x.op = 14
  · exact ⟨13, by decide, h14, .inl (by decide)⟩
  by_cases h15 : x.op = 15
  · exact ⟨14, by decide, h15, .inl (by decide)⟩
  by_cases h16 : x.op = 16
  · exact ⟨15, by decide, h16, .inl (by decide)⟩
  by_cases h17 : x.op = 17
  · exact ⟨16, by decide, h17, .inl (by decide)⟩
  by_cases h18 : x.op = 18
  · exact ⟨17, by decide, h18, .inl (by decide)⟩
  by_cases h19 : x.op = 19
  · exact ⟨18, by decide, h19, .inl (by decide)⟩
  by_cases h20 : x.op = 20
  · exact ⟨19, by decide, h20, .inl (by decide)⟩
  by_cases h21 : x.op = 21
  · rw [rightI_21 h21] at h
    rcases sub01 (k := 0) h with hs | hs
    · exact ⟨20, by decide, h21, .inr hs⟩
    · exact ⟨21, by decide, h21, .inr hs⟩
  by_cases h22 : x.op = 22
  · exact ⟨22, by decide, h22, .inl (by decide)⟩
  by_cases h23 : x.op = 23
  · exact ⟨23, by decide, h23, .inl (by decide)⟩
  by_cases h24 : x.op = 24
  · exact ⟨24, by decide, h24, .inl (by decide)⟩
  by_cases h25 : x.op = 25
  · exact ⟨25, by decide, h25, .inl (by decide)⟩
  by_cases h26 : x.op = 26
  · rw [rightI_26 h26] at h
    rcases sub01' h with hs | hs
    · exact ⟨26, by decide, h26, .inr hs⟩
    · exact ⟨27, by decide, h26, .inr hs⟩
  by_cases h27 : x.op = 27
  · exact ⟨28, by decide, h27, .inl (by decide)⟩
  by_cases h28 : x.op = 28
  · exact ⟨29, by decide, h28, .inl (by decide)⟩
  by_cases h29 : x.op = 29
  · exact ⟨31, by decide, h29, .inl (by decide)⟩
  by_cases h30 : x.op = 30
  · exact ⟨30, by decide, h30, .inl (by decide)⟩
  by_cases h31 : x.op = 31
  · exact ⟨32, by decide, h31, .inl (by decide)⟩
  by_cases h32 : x.op = 32
  · exact ⟨33, by decide, h32, .inl (by decide)⟩
  by_cases h33 : x.op = 33
  · rw [rightI_33 h33] at h
    rcases sub01' h with hs | hs
    · exact ⟨34, by decide, h33, .inr hs⟩
    · exact ⟨35, by decide, h33, .inr hs⟩
  by_cases h34 : x.op = 34
  · exact ⟨36, by decide, h34, .inl (by decide)⟩
  by_cases h35 : x.op = 35
  · exact ⟨37, by decide, h35, .inl (by decide)⟩
  by_cases h36 : x.op = 36
  · exact ⟨38, by decide, h36, .inl (by decide)⟩
  by_cases h37 : x.op = 37
  · exact ⟨39, by decide, h37, .inl (by decide)⟩
  · unfold rightI at h
    rw [if_neg h1, if_neg h2, if_neg h3, if_neg h4, if_neg h5, if_neg h6, if_neg h7, if_neg h8, if_neg h9, if_neg h10, if_neg h11, if_neg h12, if_neg h13, if_neg h14, if_neg h15, if_neg h16, if_neg h17, if_neg h18, if_neg h19, if_neg h20, if_neg h21, if_neg h22, if_neg h23, if_neg h24, if_neg h25, if_neg h26, if_neg h27, if_neg h28, if_neg h29, if_neg h30, if_neg h31, if_neg h32, if_neg h33, if_neg h34, if_neg h35, if_neg h36, if_neg h37] at h
    cases h
theorem con9 (x : InsnS) (hr : rngI x) (H : Heap) : Con Tryz.prog 9 [.agg (insnL x)] H (fun v H' => v = .tup [.c (.int .u32 (encodeS x).1), .c (.bool (rightI x))] ∧ H' = H) := by
  by_cases h : rightI x = true
  · by_cases h1 : x.op = 1
    · rw [h, enc_form (j := 0) (by decide) h h1 (.inl (by decide))]
      exact fin9_0 hr h h1 H
    by_cases h2 : x.op = 2
    · rw [h, enc_form (j := 1) (by decide) h h2 (.inl (by decide))]
      exact fin9_1 hr h h2 H
    by_cases h3 : x.op = 3
    · rw [h, enc_form (j := 2) (by decide) h h3 (.inl (by decide))]
      exact fin9_2 hr h h3 H
    by_cases h4 : x.op = 4
    · rw [h, enc_form (j := 3) (by decide) h h4 (.inl (by decide))]
      exact fin9_3 hr h h4 H
    by_cases h5 : x.op = 5
    · rw [h, enc_form (j := 4) (by decide) h h5 (.inl (by decide))]
      exact fin9_4 hr h h5 H
    by_cases h6 : x.op = 6
    · rw [h, enc_form (j := 5) (by decide) h h6 (.inl (by decide))]
      exact fin9_5 hr h h6 H
    by_cases h7 : x.op = 7
    · rw [h, enc_form (j := 6) (by decide) h h7 (.inl (by decide))]
      exact fin9_6 hr h h7 H
    by_cases h8 : x.op = 8
    · rw [h, enc_form (j := 7) (by decide) h h8 (.inl (by decide))]
      exact fin9_7 hr h h8 H
    by_cases h9 : x.op = 9
    · rw [h, enc_form (j := 8) (by decide) h h9 (.inl (by decide))]
      exact fin9_8 hr h h9 H
    by_cases h10 : x.op = 10
    · rw [h, enc_form (j := 9) (by decide) h h10 (.inl (by decide))]
      exact fin9_9 hr h h10 H
    by_cases h11 : x.op = 11
    · rw [h, enc_form (j := 10) (by decide) h h11 (.inl (by decide))]
      exact fin9_10 hr h h11 H
    by_cases h12 : x.op = 12
    · rw [h, enc_form (j := 11) (by decide) h h12 (.inl (by decide))]
      exact fin9_11 hr h h12 H
    by_cases h13 : x.op = 13
    · rw [h, enc_form (j := 12) (by decide) h h13 (.inl (by decide))]
      exact fin9_12 hr h h13 H
    by_cases h14 : x.op = 14
    · rw [h, enc_form (j := 13) (by decide) h h14 (.inl (by decide))]
      exact fin9_13 hr h h14 H
    by_cases h15 : x.op = 15
    · rw [h, enc_form (j := 14) (by decide) h h15 (.inl (by decide))]
      exact fin9_14 hr h h15 H
    by_cases h16 : x.op = 16
    · rw [h, enc_form (j := 15) (by decide) h h16 (.inl (by decide))]
      exact fin9_15 hr h h16 H
    by_cases h17 : x.op = 17
    · rw [h, enc_form (j := 16) (by decide) h h17 (.inl (by decide))]
      exact fin9_16 hr h h17 H
    by_cases h18 : x.op = 18
    · rw [h, enc_form (j := 17) (by decide) h h18 (.inl (by decide))]
      exact fin9_17 hr h h18 H
    by_cases h19 : x.op = 19
    · rw [h, enc_form (j := 18) (by decide) h h19 (.inl (by decide))]
      exact fin9_18 hr h h19 H
    by_cases h20 : x.op = 20
    · rw [h, enc_form (j := 19) (by decide) h h20 (.inl (by decide))]
      exact fin9_19 hr h h20 H
    by_cases h21 : x.op = 21
    · have h' := h
      rw [rightI_21 h21] at h'
      rcases sub01 (k := 0) h' with hs | hs
      · rw [h, enc_form (j := 20) (by decide) h h21 (.inr hs)]
        exact fin9_20 hr h h21 hs H
      · rw [h, enc_form (j := 21) (by decide) h h21 (.inr hs)]
        exact fin9_21 hr h h21 hs H
    by_cases h22 : x.op = 22
    · rw [h, enc_form (j := 22) (by decide) h h22 (.inl (by decide))]
      exact fin9_22 hr h h22 H
    by_cases h23 : x.op = 23
    · rw [h, enc_form (j := 23) (by decide) h h23 (.inl (by decide))]
      exact fin9_23 hr h h23 H
    by_cases h24 : x.op = 24
    · rw [h, enc_form (j := 24) (by decide) h h24 (.inl (by decide))]
      exact fin9_24 hr h h24 H
    by_cases h25 : x.op = 25
    · rw [h, enc_form (j := 25) (by decide) h h25 (.inl (by decide))]
      exact fin9_25 hr h h25 H
    by_cases h26 : x.op = 26
    · have h' := h
      rw [rightI_26 h26] at h'
      rcases sub01' h' with hs | hs
      · rw [h, enc_form (j := 26) (by decide) h h26 (.inr hs)]
        exact fin9_26 hr h h26 hs H
      · rw [h, enc_form (j := 27) (by decide) h h26 (.inr hs)]
        exact fin9_27 hr h h26 hs H
    by_cases h27 : x.op = 27
    · rw [h, enc_form (j := 28) (by decide) h h27 (.inl (by decide))]
      exact fin9_28 hr h h27 H
    by_cases h28 : x.op = 28
    · rw [h, enc_form (j := 29) (by decide) h h28 (.inl (by decide))]
      exact fin9_29 hr h h28 H
    by_cases h29 : x.op = 29
    · rw [h, enc_form (j := 31) (by decide) h h29 (.inl (by decide))]
      exact fin9_31 hr h h29 H
    by_cases h30 : x.op = 30
    · rw [h, enc_form (j := 30) (by decide) h h30 (.inl (by decide))]
      exact fin9_30 hr h h30 H
    by_cases h31 : x.op = 31
    · rw [h, enc_form (j := 32) (by decide) h h31 (.inl (by decide))]
      exact fin9_32 hr h h31 H
    by_cases h32 : x.op = 32
    · rw [h, enc_form (j := 33) (by decide) h h32 (.inl (by decide))]
      exact fin9_33 hr h h32 H
    by_cases h33 : x.op = 33
    · have h' := h
      rw [rightI_33 h33] at h'
      rcases sub01' h' with hs | hs
      · rw [h, enc_form (j := 34) (by decide) h h33 (.inr hs)]
        exact fin9_34 hr h h33 hs H
      · rw [h, enc_form (j := 35) (by decide) h h33 (.inr hs)]
        exact fin9_35 hr h h33 hs H
    by_cases h34 : x.op = 34
    · rw [h, enc_form (j := 36) (by decide) h h34 (.inl (by decide))]
      exact fin9_36 hr h h34 H
    by_cases h35 : x.op = 35
    · rw [h, enc_form (j := 37) (by decide) h h35 (.inl (by decide))]
      exact fin9_37 hr h h35 H
    by_cases h36 : x.op = 36
    · rw [h, enc_form (j := 38) (by decide) h h36 (.inl (by decide))]
      exact fin9_38 hr h h36 H
    by_cases h37 : x.op = 37
    · rw [h, enc_form (j := 39) (by decide) h h37 (.inl (by decide))]
      exact fin9_39 hr h h37 H
    exfalso
    unfold rightI at h
    rw [if_neg h1, if_neg h2, if_neg h3, if_neg h4, if_neg h5, if_neg h6, if_neg h7, if_neg h8, if_neg h9, if_neg h10, if_neg h11, if_neg h12, if_neg h13, if_neg h14, if_neg h15, if_neg h16, if_neg h17, if_neg h18, if_neg h19, if_neg h20, if_neg h21, if_neg h22, if_neg h23, if_neg h24, if_neg h25, if_neg h26, if_neg h27, if_neg h28, if_neg h29, if_neg h30, if_neg h31, if_neg h32, if_neg h33, if_neg h34, if_neg h35, if_neg h36, if_neg h37] at h
    cases h
  · have h' : rightI x = false := by simpa using h
    have e : encodeS x = (0, 3) := by
      unfold encodeS
      rw [if_neg h]
    rw [h', e]
    have h13 := con13 x hr
    rw [h'] at h13
    exact con9_no x h13 H
end Go.Proofs.YteikpddilabppaaGreatR

namespace Go.Proofs.YteikpddilabppaaGreatR
open Go.AM
set_option maxRecDepth 100000
theorem con3 (x : InsnS) (hx : rngI x) (H : Heap) : Con Tryz.prog 3 [.agg (insnL x)] H (fun v H' => v = .c (.bool true) ∧ H' = H) := by
  refine Con.pure ?_ (by simp only [leArgs, leV, leV1, insnL, leSegs, leSeg, leC, and_self]) rfl H
  have h : (rightI x = true ∧ (encodeS x).2 = 0) ∨ (rightI x = false ∧ (encodeS x).2 = 3) := by
    by_cases h : rightI x = true
    · obtain ⟨j, hj, ho, hs⟩ := op_of h
      rw [enc_form hj h ho hs]
      exact .inl ⟨h, rfl⟩
    · unfold encodeS
      rw [if_neg h]
      exact .inr ⟨by simpa using h, rfl⟩
  have h9 := con9 x hx
  have h8 := con8 x
  rcases h with ⟨h1, h2⟩ | ⟨h1, h2⟩
  all_goals
    rw [h1] at h9
    rw [h2] at h8
    generalize (encodeS x).1 = w at h9 h8
    (refine con_of_run mixed (fn := Tryz.f3) (by kernel_rfl) (by kernel_rfl) C3_ok (rs := [.tmp 2]) (by kernel_rfl) (Nat.le_of_ble_eq_true (by kernel_rfl)) ?_; unfold C3; simp only [initT])
    repeat' (first | refine run_seq ?_ | refine run_skip ?_ | (refine run_region fun K hK => ?_; (try (simp (maxSteps := 10000000) only [insnL, Bool.not_true, C3r0, C3r1, C3r2, C3r4, C3r5, C3r6, rwp_nil, rwp_cons, aop, gpath, St.get, slotAt, sfx, eqP, segsOf, St.put, addBlk, getB, ldn, rowNeed, nsub, bin, un, eqB, isShift, sameK, arith, getsl, selB_or, selB_and, beqb, shed, Seg.size, sizes, appL, argsOf, ptrsOf, cut, takeS, dropS, Nat.reduceAdd])); (repeat (first | (refine And.intro ?_ ?_; · (first | decide | trivial | (intros; first | decide | trivial))) | ((first | (refine call_t _ (con7 _) ?_; rintro v H' ⟨rfl, rfl⟩) | refine call_q _ (con7 _) ?_ | refine call_g _ (imp_of (con7 _)) ?_ | (refine call_t _ (h8 _) ?_; rintro v H' ⟨rfl, rfl⟩) | refine call_q _ (h8 _) ?_ | refine call_g _ (imp_of (h8 _)) ?_ | (refine call_t _ (h9 _) ?_; rintro v H' ⟨rfl, rfl⟩) | refine call_q _ (h9 _) ?_ | refine call_g _ (imp_of (h9 _)) ?_); simp (maxSteps := 10000000) only [rwp_nil, rwp_cons, rwpK_app, aop, gpath, St.get, slotAt, sfx, eqP, St.put, addBlk, shed, nthA]))); with_reducible refine hK _ ?_; clear hK K) | (refine run_cond rfl (fun hc => ?_) (fun hc => ?_) <;> try (simp only [*, Bool.false_eq_true] at hc; done)) | refine run_ret ?_ | refine run_nil ?_)
    exact end_tmp1 rfl rfl rfl ⟨congrArg (fun b => AV.c (.bool b)) (by simp), rfl⟩
end Go.Proofs.YteikpddilabppaaGreatR

namespace Go.Proofs.YteikpddilabppaaGreatR
open Go.AM Go.ChangeShapes Go.WideShapes Go.ChangeAt Go.RowKit
set_option maxRecDepth 100000
theorem codeEncodes_lifted (os : Os) (started : os.Started) (H : Type) (enc : TypeId × Value → H) :
    ReturnsInHanded {} Tryz.checked os 3 .any (Rows.codeEncodesSpec.pre6 enc Tryz.prog Tryz.f3 Rows.codeEncodesRow.domain false) (Rows.codeEncodesSpec.post enc Tryz.prog Tryz.f3 false true false false) := by
  refine returnsInHanded_of_change (C := Tryz.checked) ownZ started (by kernel_rfl) Tryz.func3
    (ChangeSpec.witness6 (enc := enc) (C := Tryz.checked) false ⟨#[], #[.agg (zeros kInsn).toArray], []⟩ 8 (by kernel_rfl) (by kernel_rfl) (by kernel_rfl) (by kernel_rfl)) ?_
  intro W base args ds gs before hval0 hW hcnd _
  have hval : ∀ (j : Nat) t v, Tryz.f3.params[j]? = some t → args[j]? = some v → Value.okWide Tryz.prog W .any base t v := hval0
  have hW' := hW
  obtain ⟨p, q, hA0, hV, rfl, hfz, hnd⟩ := hW
  have hA : DataW.TrodAll enc Tryz.prog W 0 (fun _ => true) true Tryz.f3.params.toList args.toList ds p := hA0
  rw [Tryz.params3] at hA hval
  obtain ⟨v0, d0, rfl, rfl, h0⟩ := trodAll_one hA
  obtain ⟨rfl, rfl⟩ := trodVars_none hV
  obtain ⟨x0, r0, g0⟩ := insn_arg (φ := noE) (hval 0 23 v0 rfl rfl) h0
  refine ((con3 x0 ⟨g0 _ (by simp), g0 _ (by simp), g0 _ (by simp)⟩ _).2 noE W #[v0] (.cons r0 .nil) (no_heap W)).mono fun e W' ⟨φ', v, x, H', he, ⟨hv, hH'⟩, hx, _, hfr⟩ => ?_
  subst he; subst hv
  cases hx
  have hb : Below W.heap.size W W' := hfr.below (fun i B hB => by cases hB)
  have hlt : ∀ x ∈ p, x.block < W.heap.size := fun x hx => hW'.lt x (by simpa using hx)
  refine ⟨_, rfl, post_of_old (pa := p) (pv := []) hW' (fun _ _ _ => trodAll_mk1 (shut_bool Tryz.underlying4 true)) (fun sp hsp => ?_) (fun _ _ => rfl) (by simp) hb (ok_one (by kernel_rfl) rfl (okWide_bool_mk Tryz.underlying4 true))⟩
  show DataW.TrodAll enc Tryz.prog W' 0 sp true Tryz.f3.params.toList [v0] [d0] p
  rw [Tryz.params3]
  exact trodAll_mk1
    (WideElems.Trod_stays laidZ (by kernel_rfl) (of_decide_eq_true (by kernel_rfl)) h0 (fun x hx => hb.same (hlt x (by simp [hx]))) (fun x hx => hsp x (by simp [hx])))
theorem codeEncodes_holds : Rows.CodeEncodesSaid :=
  OpenClaim.holds_of_wide 3 Tryz.f3 rfl rfl rfl rfl rfl rfl rfl ⟨rfl, rfl, rfl, rfl, rfl⟩ rfl rfl rfl rfl rfl (by kernel_rfl) Tryz.func3 (by kernel_rfl)
    (of_decide_eq_true (by kernel_rfl)) (by unfold Func.isWrapper; first | (rw [if_pos (by decide +kernel)]; kernel_rfl) | (rw [if_neg (by decide +kernel)]; exact ⟨rfl, rfl⟩))
    (fun os started H enc _ => codeEncodes_lifted os started H enc)
#print axioms codeEncodes_holds
end Go.Proofs.YteikpddilabppaaGreatR

