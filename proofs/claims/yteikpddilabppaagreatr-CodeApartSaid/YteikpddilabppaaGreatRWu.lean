/- words: what is decoded is encoded again, and what is encoded is decoded again. -/
import Derived.Test.YteikpddilabppaaGreatRWt
namespace Go.Proofs.YteikpddilabppaaGreatR
open Go.AM
set_option maxRecDepth 100000
set_option linter.unusedVariables false
theorem forms_apart : ∀ i j : Fin 40, i ≠ j → fOp i.val = fOp j.val → ¬ fSub i.val < 0 ∧ ¬ fSub j.val < 0 ∧ fSub i.val ≠ fSub j.val := by decide +kernel
theorem enc_form {x : InsnS} {j : Nat} (hj : j < 40) (hr : rightI x = true) (ho : x.op = fOp j) (hs : fSub j < 0 ∨ x.sub = fSub j) : encodeS x = (putI j (fBase j) x, 0) := by
  refine enc_at hj hr (fun i hi => ?_) ?_
  · unfold formIs
    by_cases e : fOp i = x.op
    · obtain ⟨h1, h2, h3⟩ := forms_apart ⟨i, by omega⟩ ⟨j, hj⟩ (fun h => by have := congrArg Fin.val h; simp only at this; omega) (by simp only; rw [e, ho])
      simp only at h1 h2 h3
      rcases hs with hs | hs
      · exact absurd hs h2
      · have e1 : (fSub i == x.sub) = false := by
          rw [beq_eq_false_iff_ne, hs]
          exact h3
        have e2 : decide (fSub i < 0) = false := by simpa using h1
        rw [e1, e2]
        simp
    · have e1 : (fOp i == x.op) = false := by
        rw [beq_eq_false_iff_ne]
        exact e
      rw [e1]
      rfl
  · unfold formIs
    rw [ho]
    have e1 : (fOp j == fOp j) = true := by simp
    rw [e1]
    rcases hs with hs | hs
    · have e2 : decide (fSub j < 0) = true := decide_eq_true hs
      rw [e2]
      rfl
    · rw [hs]
      simp
theorem masks_nat : ∀ i : Fin 40, fMask i.val = ((fMask i.val).toNat : Int) ∧ (fMask i.val).toNat < 4294967296 ∧ fBase i.val = ((fBase i.val).toNat : Int) := by decide +kernel
theorem bases_apart : ∀ i j : Fin 40, i ≠ j → (fBase i.val).toNat &&& (fMask j.val).toNat ≠ (fBase j.val).toNat &&& (fMask i.val).toNat := by decide +kernel
theorem andU_nat {W : Nat} {j : Nat} (hj : j < 40) (hW : W < 4294967296) (h : andU (W : Int) (fMask j) = fBase j) : W &&& (fMask j).toNat = (fBase j).toNat := by
  obtain ⟨h1, h2, h3⟩ := masks_nat ⟨j, hj⟩
  simp only at h1 h2 h3
  generalize (fMask j).toNat = M at *
  generalize (fBase j).toNat = B at *
  rw [h1, h3] at h
  have e : andU (W : Int) (M : Int) = ((W &&& M : Nat) : Int) := by
    unfold andU
    show IntKind.u32.wrap ((((BitVec.ofInt 32 (W : Int)) &&& (BitVec.ofInt 32 (M : Int))).toNat : Nat) : Int) = _
    rw [BitVec.toNat_and, bv32 hW, bv32 h2, u32_of (Nat.lt_of_le_of_lt Nat.and_le_left hW)]
  rw [e] at h
  exact Int.ofNat.inj h
theorem and_swap (w a b : Nat) : w &&& a &&& b = w &&& b &&& a := by rw [Nat.and_assoc, Nat.and_assoc, Nat.and_comm a b]
theorem not_both {W : Nat} {i j : Nat} (hi : i < 40) (hj : j < 40) (hne : i ≠ j) (hW : W < 4294967296) (h : andU (W : Int) (fMask j) = fBase j) : (andU (W : Int) (fMask i) == fBase i) = false := by
  rw [beq_eq_false_iff_ne]
  intro h'
  have e1 := andU_nat hi hW h'
  have e2 := andU_nat hj hW h
  refine bases_apart ⟨i, hi⟩ ⟨j, hj⟩ (fun h => hne (congrArg Fin.val h)) ?_
  simp only
  rw [← e1, ← e2, and_swap]
theorem dec_form {W j : Nat} (hj : j < 40) (hW : W < 4294967296) (h : andU (W : Int) (fMask j) = fBase j) (hr : rightI (takeI j (W : Int)) = true) : decodeS (W : Int) = takeI j (W : Int) :=
  decode_at j hj (fun i hi => not_both (by omega) hj (by omega) hW h) (by rw [h]; simp) hr
theorem back1_at {W : Nat} (hW : W < 4294967296) : ∀ j, j < 40 → andU (W : Int) (fMask j) = fBase j → putI j (fBase j) (takeI j (W : Int)) = (W : Int)
  | 0, _, h => back1_0 hW h
  | 1, _, h => back1_1 hW h
  | 2, _, h => back1_2 hW h
  | 3, _, h => back1_3 hW h
  | 4, _, h => back1_4 hW h
  | 5, _, h => back1_5 hW h
  | 6, _, h => back1_6 hW h
  | 7, _, h => back1_7 hW h
  | 8, _, h => back1_8 hW h
  | 9, _, h => back1_9 hW h
  | 10, _, h => back1_10 hW h
  | 11, _, h => back1_11 hW h
  | 12, _, h => back1_12 hW h
  | 13, _, h => back1_13 hW h
  | 14, _, h => back1_14 hW h
  | 15, _, h => back1_15 hW h
  | 16, _, h => back1_16 hW h
  | 17, _, h => back1_17 hW h
  | 18, _, h => back1_18 hW h
  | 19, _, h => back1_19 hW h
  | 20, _, h => back1_20 hW h
  | 21, _, h => back1_21 hW h
  | 22, _, h => back1_22 hW h
  | 23, _, h => back1_23 hW h
  | 24, _, h => back1_24 hW h
  | 25, _, h => back1_25 hW h
  | 26, _, h => back1_26 hW h
  | 27, _, h => back1_27 hW h
  | 28, _, h => back1_28 hW h
  | 29, _, h => back1_29 hW h
  | 30, _, h => back1_30 hW h
  | 31, _, h => back1_31 hW h
  | 32, _, h => back1_32 hW h
  | 33, _, h => back1_33 hW h
  | 34, _, h => back1_34 hW h
  | 35, _, h => back1_35 hW h
  | 36, _, h => back1_36 hW h
  | 37, _, h => back1_37 hW h
  | 38, _, h => back1_38 hW h
  | 39, _, h => back1_39 hW h
  | j + 40, h, _ => absurd h (by omega)
theorem take_op (w : Int) : ∀ j, j < 40 → (takeI j w).op = fOp j ∧ (fSub j < 0 ∨ (takeI j w).sub = fSub j)
  | 0, _ => ⟨rfl, .inl (by decide)⟩
  | 1, _ => ⟨rfl, .inl (by decide)⟩
  | 2, _ => ⟨rfl, .inl (by decide)⟩
  | 3, _ => ⟨rfl, .inl (by decide)⟩
  | 4, _ => ⟨rfl, .inl (by decide)⟩
  | 5, _ => ⟨rfl, .inl (by decide)⟩
  | 6, _ => ⟨rfl, .inl (by decide)⟩
  | 7, _ => ⟨rfl, .inl (by decide)⟩
  | 8, _ => ⟨rfl, .inl (by decide)⟩
  | 9, _ => ⟨rfl, .inl (by decide)⟩
  | 10, _ => ⟨rfl, .inl (by decide)⟩
  | 11, _ => ⟨rfl, .inl (by decide)⟩
  | 12, _ => ⟨rfl, .inl (by decide)⟩
  | 13, _ => ⟨rfl, .inl (by decide)⟩
  | 14, _ => ⟨rfl, .inl (by decide)⟩
  | 15, _ => ⟨rfl, .inl (by decide)⟩
  | 16, _ => ⟨rfl, .inl (by decide)⟩
  | 17, _ => ⟨rfl, .inl (by decide)⟩
  | 18, _ => ⟨rfl, .inl (by decide)⟩
  | 19, _ => ⟨rfl, .inl (by decide)⟩
  | 20, _ => ⟨rfl, .inr rfl⟩
  | 21, _ => ⟨rfl, .inr rfl⟩
  | 22, _ => ⟨rfl, .inl (by decide)⟩
  | 23, _ => ⟨rfl, .inl (by decide)⟩
  | 24, _ => ⟨rfl, .inl (by decide)⟩
  | 25, _ => ⟨rfl, .inl (by decide)⟩
  | 26, _ => ⟨rfl, .inr rfl⟩
  | 27, _ => ⟨rfl, .inr rfl⟩
  | 28, _ => ⟨rfl, .inl (by decide)⟩
  | 29, _ => ⟨rfl, .inl (by decide)⟩
  | 30, _ => ⟨rfl, .inl (by decide)⟩
  | 31, _ => ⟨rfl, .inl (by decide)⟩
  | 32, _ => ⟨rfl, .inl (by decide)⟩
  | 33, _ => ⟨rfl, .inl (by decide)⟩
  | 34, _ => ⟨rfl, .inr rfl⟩
  | 35, _ => ⟨rfl, .inr rfl⟩
  | 36, _ => ⟨rfl, .inl (by decide)⟩
  | 37, _ => ⟨rfl, .inl (by decide)⟩
  | 38, _ => ⟨rfl, .inl (by decide)⟩
  | 39, _ => ⟨rfl, .inl (by decide)⟩
  | j + 40, h => absurd h (by omega)
theorem ops_pos : ∀ j : Fin 40, fOp j.val ≠ 0 := by decide +kernel
theorem back1 : Back1 := by
  intro w h0 h1
  obtain ⟨W, rfl⟩ : ∃ W : Nat, w = (W : Int) := ⟨w.toNat, by omega⟩
  have hW : W < 4294967296 := by omega
  rcases decL_cases (W : Int) 40 0 rfl with h | ⟨j, hj, hm, hr, he⟩
  · exact .inl h
  · refine .inr ?_
    have he' : decodeS (W : Int) = takeI j (W : Int) := he
    have hm' : andU (W : Int) (fMask j) = fBase j := by simpa using hm
    obtain ⟨ho, hs⟩ := take_op (W : Int) j hj
    rw [he']
    refine ⟨by rw [ho]; exact ops_pos ⟨j, hj⟩, ?_⟩
    rw [enc_form hj hr ho hs, back1_at hW j hj hm']
theorem sub01 {x : InsnS} {f : ByteArray} {k : Nat} (h : rightB x f (inL (fun i => (i : Int)) 2 x.sub) = true) : x.sub = 0 ∨ x.sub = 1 := by
  obtain ⟨_, _, h1⟩ := right_split h
  obtain ⟨a, e, l⟩ := inL_id (P := 2) h1 (by decide)
  omega
theorem sub01' {x : InsnS} {f : ByteArray} {o : Bool} (h : rightB x f (withinS x.sub 1 0 1 && o) = true) : x.sub = 0 ∨ x.sub = 1 := by
  obtain ⟨_, _, h1⟩ := right_split h
  simp only [Bool.and_eq_true] at h1
  have := within_rng h1.1
  omega
theorem form_of {x : InsnS} (hr : rngI x) (h : rightI x = true) : ∃ j, j < 40 ∧ x.op = fOp j ∧ (fSub j < 0 ∨ x.sub = fSub j) ∧ takeI j (putI j (fBase j) x) = x ∧ andU (putI j (fBase j) x) (fMask j) = fBase j ∧ ∃ W : Nat, W < 4294967296 ∧ putI j (fBase j) x = (W : Int) := by
  by_cases h1 : x.op = 1
  · exact ⟨0, by decide, h1, .inl (by decide), form2_0 hr h h1⟩
  by_cases h2 : x.op = 2
  · exact ⟨1, by decide, h2, .inl (by decide), form2_1 hr h h2⟩
  by_cases h3 : x.op = 3
  · exact ⟨2, by decide, h3, .inl (by decide), form2_2 hr h h3⟩
  by_cases h4 : x.op = 4
  · exact ⟨3, by decide, h4, .inl (by decide), form2_3 hr h h4⟩
  by_cases h5 : x.op = 5
  · exact ⟨4, by decide, h5, .inl (by decide), form2_4 hr h h5⟩
  by_cases h6 : x.op = 6
  · exact ⟨5, by decide, h6, .inl (by decide), form2_5 hr h h6⟩
  by_cases h7 : x.op = 7
  · exact ⟨6, by decide, h7, .inl (by decide), form2_6 hr h h7⟩
  by_cases h8 : x.op = 8
  · exact ⟨7, by decide, h8, .inl (by decide), form2_7 hr h h8⟩
  by_cases h9 : x.op = 9
  · exact ⟨8, by decide, h9, .inl (by decide), form2_8 hr h h9⟩
  by_cases h10 : x.op = 10
  · exact ⟨9, by decide, h10, .inl (by decide), form2_9 hr h h10⟩
  by_cases h11 : x.op = 11
  · exact ⟨10, by decide, h11, .inl (by decide), form2_10 hr h h11⟩
  by_cases h12 : x.op = 12
  · exact ⟨11, by decide, h12, .inl (by decide), form2_11 hr h h12⟩
  by_cases h13 : x.op = 13
  · exact ⟨12, by decide, h13, .inl (by decide), form2_12 hr h h13⟩
  by_cases h14 : x.op = 14
  · exact ⟨13, by decide, h14, .inl (by decide), form2_13 hr h h14⟩
  by_cases h15 : x.op = 15
  · exact ⟨14, by decide, h15, .inl (by decide), form2_14 hr h h15⟩
  by_cases h16 : x.op = 16
  · exact ⟨15, by decide, h16, .inl (by decide), form2_15 hr h h16⟩
  by_cases h17 : x.op = 17
  · exact ⟨16, by decide, h17, .inl (by decide), form2_16 hr h h17⟩
  by_cases h18 : x.op = 18
  · exact ⟨17, by decide, h18, .inl (by decide), form2_17 hr h h18⟩
  by_cases h19 : x.op = 19
  · exact ⟨18, by decide, h19, .inl (by decide), form2_18 hr h h19⟩
  by_cases h20 : x.op = 20
  · exact ⟨19, by decide, h20, .inl (by decide), form2_19 hr h h20⟩
  by_cases h21 : x.op = 21
  · have h' := h
    rw [rightI_21 h21] at h'
    rcases sub01 (k := 0) h' with hs | hs
    · exact ⟨20, by decide, h21, .inr hs, form2_20 hr h h21 hs⟩
    · exact ⟨21, by decide, h21, .inr hs, form2_21 hr h h21 hs⟩
  by_cases h22 : x.op = 22
  · exact ⟨22, by decide, h22, .inl (by decide), form2_22 hr h h22⟩
  by_cases h23 : x.op = 23
  · exact ⟨23, by decide, h23, .inl (by decide), form2_23 hr h h23⟩
  by_cases h24 : x.op = 24
  · exact ⟨24, by decide, h24, .inl (by decide), form2_24 hr h h24⟩
  by_cases h25 : x.op = 25
  · exact ⟨25, by decide, h25, .inl (by decide), form2_25 hr h h25⟩
  by_cases h26 : x.op = 26
  · have h' := h
    rw [rightI_26 h26] at h'
    rcases sub01' h' with hs | hs
    · exact ⟨26, by decide, h26, .inr hs, form2_26 hr h h26 hs⟩
    · exact ⟨27, by decide, h26, .inr hs, form2_27 hr h h26 hs⟩
  by_cases h27 : x.op = 27
  · exact ⟨28, by decide, h27, .inl (by decide), form2_28 hr h h27⟩
  by_cases h28 : x.op = 28
  · exact ⟨29, by decide, h28, .inl (by decide), form2_29 hr h h28⟩
  by_cases h29 : x.op = 29
  · exact ⟨31, by decide, h29, .inl (by decide), form2_31 hr h h29⟩
  by_cases h30 : x.op = 30
  · exact ⟨30, by decide, h30, .inl (by decide), form2_30 hr h h30⟩
  by_cases h31 : x.op = 31
  · exact ⟨32, by decide, h31, .inl (by decide), form2_32 hr h h31⟩
  by_cases h32 : x.op = 32
  · exact ⟨33, by decide, h32, .inl (by decide), form2_33 hr h h32⟩
  by_cases h33 : x.op = 33
  · have h' := h
    rw [rightI_33 h33] at h'
    rcases sub01' h' with hs | hs
    · exact ⟨34, by decide, h33, .inr hs, form2_34 hr h h33 hs⟩
    · exact ⟨35, by decide, h33, .inr hs, form2_35 hr h h33 hs⟩
  by_cases h34 : x.op = 34
  · exact ⟨36, by decide, h34, .inl (by decide), form2_36 hr h h34⟩
  by_cases h35 : x.op = 35
  · exact ⟨37, by decide, h35, .inl (by decide), form2_37 hr h h35⟩
  by_cases h36 : x.op = 36
  · exact ⟨38, by decide, h36, .inl (by decide), form2_38 hr h h36⟩
  by_cases h37 : x.op = 37
  · exact ⟨39, by decide, h37, .inl (by decide), form2_39 hr h h37⟩
  · unfold rightI at h
    rw [if_neg h1] at h
    rw [if_neg h2] at h
    rw [if_neg h3] at h
    rw [if_neg h4] at h
    rw [if_neg h5] at h
    rw [if_neg h6] at h
    rw [if_neg h7] at h
    rw [if_neg h8] at h
    rw [if_neg h9] at h
    rw [if_neg h10] at h
    rw [if_neg h11] at h
    rw [if_neg h12] at h
    rw [if_neg h13] at h
    rw [if_neg h14] at h
    rw [if_neg h15] at h
    rw [if_neg h16] at h
    rw [if_neg h17] at h
    rw [if_neg h18] at h
    rw [if_neg h19] at h
    rw [if_neg h20] at h
    rw [if_neg h21] at h
    rw [if_neg h22] at h
    rw [if_neg h23] at h
    rw [if_neg h24] at h
    rw [if_neg h25] at h
    rw [if_neg h26] at h
    rw [if_neg h27] at h
    rw [if_neg h28] at h
    rw [if_neg h29] at h
    rw [if_neg h30] at h
    rw [if_neg h31] at h
    rw [if_neg h32] at h
    rw [if_neg h33] at h
    rw [if_neg h34] at h
    rw [if_neg h35] at h
    rw [if_neg h36] at h
    rw [if_neg h37] at h
    cases h
theorem back2 : Back2 := by
  intro x hx
  by_cases hr : rightI x = true
  · left
    obtain ⟨j, hj, ho, hs, ht, hm, W, hW, hp⟩ := form_of hx hr
    rw [enc_form hj hr ho hs]
    refine ⟨rfl, ?_⟩
    show decodeS (putI j (fBase j) x) = x
    rw [hp] at ht hm ⊢
    rw [dec_form hj hW hm (by rw [ht]; exact hr), ht]
  · right
    have e : encodeS x = (0, 3) := by
      unfold encodeS
      rw [if_neg hr]
    rw [e]
    exact ⟨by decide, rfl⟩
end Go.Proofs.YteikpddilabppaaGreatR
