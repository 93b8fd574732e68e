/- words: steps of putting together; what decoding finds. -/
import Derived.Test.YteikpddilabppaaGreatRWq
import Derived.Test.YteikpddilabppaaGreatRWp
namespace Go.Proofs.YteikpddilabppaaGreatR
open Go.AM
set_option maxRecDepth 100000
set_option linter.unusedVariables false
theorem layS_step {Vi n ai mi : Int} {V at_ many P Q x : Nat} (hVi : Vi = (V : Int)) (ha : ai = (at_ : Int)) (hm : mi = (many : Int)) (hP : 2 ^ many = P) (hQ : 2 ^ at_ = Q) (hmm : many < 32) (ham : at_ + many ≤ 32) (hV : V < 4294967296) (hx : (n % 4294967296).toNat % P = x) (h0 : V / Q % P = 0) : layS Vi n ai mi = ((V + x * Q : Nat) : Int) := by
  subst hVi ha hm hP hQ hx
  rw [layS_nat V at_ many n hV hmm ham h0]
  rfl
theorem layS_zero {Vi n ai mi : Int} {V : Nat} (hVi : Vi = (V : Int)) (hV : V < 4294967296) (hn : n = 0) : layS Vi n ai mi = (V : Int) := by
  subst hVi hn
  unfold layS
  have e : IntKind.u32.wrap 0 = 0 := by decide
  rw [e]
  have e1 : (BitVec.ofInt IntKind.u32.bits 0) = (0#32 : BitVec 32) := rfl
  rw [e1]
  have e2 : ∀ z : BitVec 32, (0#32 &&& z).toNat = 0 := fun z => by simp
  have e3 : ∀ z : BitVec 32, (((0#32 &&& z).toNat : Nat) : Int) = 0 := fun z => by rw [e2]; rfl
  show IntKind.u32.wrap ((((BitVec.ofInt 32 (V : Int)) ||| BitVec.ofInt 32 (IntKind.u32.wrap (IntKind.u32.wrap (((0#32 &&& BitVec.ofInt 32 _).toNat : Nat) : Int) * _))).toNat : Nat) : Int) = _
  rw [e3, e, Int.zero_mul, e]
  have e4 : BitVec.ofInt 32 0 = 0#32 := by decide
  rw [e4, BitVec.or_zero, bv32 hV, u32_of hV]
def bN (b : Bool) : Nat := match b with | true => 1 | false => 0
theorem bN_le (b : Bool) : bN b ≤ 1 := by cases b <;> decide
theorem flagS_step {Vi qi : Int} {b : Bool} {V k Q : Nat} (hVi : Vi = (V : Int)) (hq : qi = (Q : Int)) (hQ : 2 ^ k = Q) (hk : k < 32) (hV : V < 4294967296) (h0 : V / Q % 2 = 0) : flagS Vi b qi = ((V + bN b * Q : Nat) : Int) := by
  subst hVi hq hQ
  rw [flagS_nat V k b hV hk h0]
  rfl
theorem bitsS_of {Wi ai mi : Int} {W at_ many P Q : Nat} (hW : Wi = (W : Int)) (ha : ai = (at_ : Int)) (hm : mi = (many : Int)) (hP : 2 ^ many = P) (hQ : 2 ^ at_ = Q) (hmm : many < 32) (haa : at_ < 32) (hV : W < 4294967296) : bitsS Wi ai mi = ((W / Q % P : Nat) : Int) := by
  subst hW ha hm hP hQ
  exact bitsS_nat W at_ many hV hmm haa
theorem hasS_of {Wi qi : Int} {W k Q : Nat} (hW : Wi = (W : Int)) (hq : qi = (Q : Int)) (hQ : 2 ^ k = Q) (hk : k < 32) (hV : W < 4294967296) : hasS Wi qi = decide (W / Q % 2 = 1) := by
  subst hW hq hQ
  exact hasS_nat W k hV hk
theorem bN_has (n : Nat) : bN (decide (n % 2 = 1)) = n % 2 := by
  by_cases h : n % 2 = 1
  · rw [h]; rfl
  · have : n % 2 = 0 := by omega
    rw [this]; rfl
theorem quo_mul (d c : Nat) (hd : 0 < d) (h : d * c < 9223372036854775808) : quoS (mulS (d : Int) (c : Int)) (d : Int) = (c : Int) := by
  have e : mulS (d : Int) (c : Int) = ((d * c : Nat) : Int) := by
    unfold mulS
    rw [← Int.natCast_mul, IntKind.wrap_i64]
    omega
  have hc : c ≤ d * c := Nat.le_mul_of_pos_left c hd
  unfold quoS
  rw [e, Int.natCast_mul, Int.mul_tdiv_cancel_left _ (by omega), IntKind.wrap_i64]
  omega
/-! ### What decoding finds -/
theorem decL_cases (w : Int) : ∀ m k, k + m = 40 → decL w m k = nilI ∨ ∃ j, j < 40 ∧ (andU w (fMask j) == fBase j) = true ∧ rightI (takeI j w) = true ∧ decL w m k = takeI j w
  | 0, k, _ => .inl rfl
  | m + 1, k, h => by
    cases h1 : (andU w (fMask k) == fBase k) with
    | false =>
      have e : decL w (m + 1) k = decL w m (k + 1) := by
        show (if (!(andU w (fMask k) == fBase k)) = true then decL w m (k + 1) else _) = _
        rw [h1]
        rfl
      rw [e]
      exact decL_cases w m (k + 1) (by omega)
    | true =>
      by_cases h2 : rightI (takeI k w) = true
      · refine .inr ⟨k, by omega, h1, h2, ?_⟩
        show (if (!(andU w (fMask k) == fBase k)) = true then _ else if rightI (takeI k w) = true then takeI k w else _) = _
        rw [h1, if_neg (by decide), if_pos h2]
      · have e : decL w (m + 1) k = decL w m (k + 1) := by
          show (if (!(andU w (fMask k) == fBase k)) = true then decL w m (k + 1) else if rightI (takeI k w) = true then takeI k w else decL w m (k + 1)) = _
          rw [h1, if_neg (by decide), if_neg h2]
        rw [e]
        exact decL_cases w m (k + 1) (by omega)
theorem encL_at {x : InsnS} : ∀ {j m k : Nat}, j < m → (∀ i, i < j → formIs x (k + i) = false) → formIs x (k + j) = true → encL x m k = (putI (k + j) (fBase (k + j)) x, 0)
  | _, 0, _, h, _, _ => absurd h (Nat.not_lt_zero _)
  | 0, m + 1, k, _, _, h => by
    show (if formIs x k = true then _ else _) = _
    rw [Nat.add_zero] at h
    rw [if_pos h]
    rfl
  | j + 1, m + 1, k, hj, h0, h => by
    have e := h0 0 (Nat.succ_pos _)
    rw [Nat.add_zero] at e
    show (if formIs x k = true then _ else encL x m (k + 1)) = _
    rw [e, if_neg (by decide), encL_at (j := j) (m := m) (k := k + 1) (by omega) (fun i hi => by rw [show k + 1 + i = k + (i + 1) by omega]; exact h0 (i + 1) (by omega)) (by rw [show k + 1 + j = k + (j + 1) by omega]; exact h)]
    rw [show k + 1 + j = k + (j + 1) by omega]
theorem enc_at {x : InsnS} {j : Nat} (hj : j < 40) (hr : rightI x = true) (h0 : ∀ i, i < j → formIs x i = false) (h : formIs x j = true) : encodeS x = (putI j (fBase j) x, 0) := by
  unfold encodeS
  rw [if_pos hr, encL_at (j := j) hj (fun i hi => by rw [Nat.zero_add]; exact h0 i hi) (by rw [Nat.zero_add]; exact h), Nat.zero_add]
end Go.Proofs.YteikpddilabppaaGreatR
