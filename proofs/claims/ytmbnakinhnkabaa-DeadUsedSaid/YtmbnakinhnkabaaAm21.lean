/- AM: a contract that makes nothing, used where more is named. -/
import Derived.Test.YtmbnakinhnkabaaAm20
namespace Go.AM
set_option linter.unusedVariables false
set_option linter.unusedSimpArgs false
variable {P : Program} {φ : Emb} {w : World}

def keysB : List (Nat × Blk) → List Nat
  | [] => []
  | (i, _) :: r => i :: keysB r
def allBe (n m : Nat) : List Nat → Bool
  | [] => true
  | i :: r => Nat.ble n i && Nat.blt i m && allBe n m r
def appX : List (Nat × Blk) → List (Nat × Blk) → List (Nat × Blk)
  | [], l => l
  | x :: r, l => x :: appX r l

theorem allBe_get {n m : Nat} : ∀ {l : List (Nat × Blk)}, allBe n m (keysB l) = true → ∀ {i B}, getB l i = some B → n ≤ i ∧ i < m
  | [], _, _, _, h => by simp [getB] at h
  | (j, C) :: r, h, i, B, hB => by
    simp only [keysB, allBe, Bool.and_eq_true] at h
    by_cases hi : i = j
    · subst hi
      exact ⟨Nat.le_of_ble_eq_true h.1.1, by have := h.1.2; unfold Nat.blt at this; exact Nat.le_of_ble_eq_true this⟩
    · rw [getB_cons_ne hi] at hB
      exact allBe_get h.2 hB
theorem getB_appX {X l : List (Nat × Blk)} {i : Nat} : getB (appX X l) i = match getB X i with | some B => some B | none => getB l i := by
  induction X with
  | nil => rfl
  | cons x r ih =>
    obtain ⟨j, C⟩ := x
    simp only [appX, getB]
    cases Nat.beq j i with
    | true => rfl
    | false => exact ih
theorem getB_keys : ∀ {l m : List (Nat × Blk)}, keysB l = keysB m → ∀ {i B}, getB l i = some B → ∃ C, getB m i = some C
  | [], [], _, _, _, h => by simp [getB] at h
  | [], _ :: _, h, _, _, _ => by simp [keysB] at h
  | _ :: _, [], h, _, _, _ => by simp [keysB] at h
  | (j, C) :: r, (k, D) :: t, h, i, B, hB => by
    simp only [keysB, List.cons.injEq] at h
    obtain ⟨rfl, h⟩ := h
    by_cases hi : i = j
    · subst hi; exact ⟨D, getB_cons_self _ _ _⟩
    · rw [getB_cons_ne hi] at hB ⊢; exact getB_keys h hB

theorem Con.frameN {f : FuncId} {args : List AV} {H0 : Heap} {R0 : Post} (h : Con P f args H0 R0) (l : List Nat) (hl : H0.next = l.length) (hid : idTo l l.length) (X : List (Nat × Blk)) (n : Nat)
    (hR : ∀ v H', R0 v H' → H'.next = H0.next ∧ keysB H'.blks = keysB H0.blks) (hX : allBe H0.next n (keysB X) = true) (h0 : allBe 0 H0.next (keysB H0.blks) = true) (hn : H0.next ≤ n) (hb : leBlks l (appX X H0.blks) H0.blks) (ha : leArgs l args args) :
    Con P f args ⟨n, appX X H0.blks⟩ (fun v H' => ∃ H0', R0 v H0' ∧ H' = ⟨n, appX X H0'.blks⟩) := by
  refine ⟨h.1, fun φ w xs hF hH => ?_⟩
  have hd : diff l := by
    have : ∀ (k : Nat) (l : List Nat), (∀ i, i < l.length → nthO l i = some (k + i)) → diff l := by
      intro k l
      induction l generalizing k with
      | nil => intro _; trivial
      | cons j r ih =>
        intro h
        have hj : j = k := by have := h 0 (by simp); simpa [nthO] using this
        have hr : ∀ i, i < r.length → nthO r i = some (k + 1 + i) := fun i hi => by
          have := h (i + 1) (by simpa using hi)
          simp only [nthO] at this
          rw [this]; congr 1; omega
        refine ⟨?_, ih (k + 1) hr⟩
        have : ∀ (m : Nat) (r : List Nat), (∀ i, i < r.length → nthO r i = some (m + i)) → j < m → notIn j r := by
          intro m r
          induction r generalizing m with
          | nil => intro _ _; trivial
          | cons x r ih =>
            intro h hm
            have hx : x = m := by have := h 0 (by simp); simpa [nthO] using this
            refine ⟨?_, ih (m + 1) (fun i hi => ?_) (by omega)⟩
            · cases hb : Nat.beq j x with
              | false => rfl
              | true => have := Nat.eq_of_beq_eq_true hb; omega
            · have := h (i + 1) (by simpa using hi)
              simp only [nthO] at this
              rw [this]; congr 1; omega
        exact this (k + 1) r hr (by omega)
    exact this 0 l (fun i hi => by rw [hid i hi]; simp)
  have hren : AM.ren φ l = φ.to H0.next := by
    funext i
    unfold Emb.to
    by_cases hi : i < H0.next
    · rw [if_pos hi, ren_of (hid i (by omega))]
    · rw [if_neg hi]
      unfold AM.ren
      cases hn : nthO l i with
      | none => rfl
      | some j => have := nthO_lt hn; omega
  have hH0 := hH.ren hd hl hb
  rw [hren] at hH0
  refine (h.2 (φ.to H0.next) w xs (by rw [← hren]; exact leArgs_rel ha hF) hH0).mono fun e w' ⟨φ0', v, x, H0', he, hr, hv, hh, hfr⟩ => ?_
  subst he
  obtain ⟨hn', hk'⟩ := hR v H0' hr
  have hφ0 : φ0' = φ.to H0.next := by
    funext i
    by_cases hi : i < H0.next
    · exact hfr.same i hi
    · rw [hh.fresh i (by omega)]; unfold Emb.to; rw [if_neg hi]
  subst hφ0
  have hle := Emb.to_le φ H0.next
  have hlo : ∀ i B, getB H0.blks i = some B → i < H0.next := fun i B hB => (allBe_get h0 hB).2
  have hXn : ∀ i, i < H0.next → getB X i = none := fun i hi => by
    cases hx : getB X i with
    | none => rfl
    | some B => have := (allBe_get hX hx).1; omega
  have hlo' : ∀ i B, getB H0'.blks i = some B → i < H0.next := fun i B hB => by obtain ⟨C, hC⟩ := getB_keys hk' hB; exact hlo i C hC
  have hget : ∀ i, i < H0.next → getB (appX X H0.blks) i = getB H0.blks i := fun i hi => by rw [getB_appX, hXn i hi]
  have hcase : ∀ i B, getB (appX X H0'.blks) i = some B → getB X i = some B ∨ (getB H0'.blks i = some B ∧ i < H0.next) := fun i B hB => by
    rw [getB_appX] at hB
    cases hx : getB X i with
    | some C => rw [hx] at hB; exact .inl hB
    | none => rw [hx] at hB; exact .inr ⟨hB, hlo' i B hB⟩
  have hXb : ∀ i B, getB X i = some B → getB (appX X H0.blks) i = some B := fun i B hB => by rw [getB_appX, hB]
  have htoX : ∀ i p, i < H0.next → φ i = some p → (φ.to H0.next) i = some p := fun i p hi hp => by unfold Emb.to; rw [if_pos hi]; exact hp
  -- a block of X and a writable one of the others lie apart
  have hapart : ∀ i B p j C q, getB X i = some B → φ i = some p → getB H0.blks j = some C → φ j = some q → C.wr = true → q.blk ≠ p.blk := fun i B p j C q h1 h2 h3 h4 h5 => by
    have hj := hlo j C h3
    have hi := (allBe_get hX h1).1
    exact hH.inj j i C B q p (by show getB (appX X H0.blks) j = _; rw [hget j hj]; exact h3) (hXb i B h1) h4 h2 (by omega) h5
  refine ⟨φ, v, x, ⟨n, appX X H0'.blks⟩, rfl, ⟨H0', hr, rfl⟩, relA_mono hle hv, ⟨fun i B p hB hp => ?_, fun i j B C p q hB hC hp hq hne hw => ?_, hH.fresh, fun i p hp => Nat.lt_of_lt_of_le (hH.lt i p hp) hfr.size⟩, ⟨φ.le_refl, fun _ _ => rfl, Nat.le_refl _, hfr.size, hfr.os, hfr.tape, hfr.output, fun b hb hno => ?_, fun i B p hB hw hp => ?_⟩⟩
  · rcases hcase i B hB with hx | ⟨hB, hi⟩
    · have hb0 := hH.blk i B p (hXb i B hx) hp
      refine hb0.keep (hfr.old p.blk (hH.lt i p hp) fun j C q h1 h2 h3 => hapart i B p j C q hx hp h1 (hle _ _ h3) h2)
    · exact (hh.blk i B p hB (htoX i p hi hp)).mono hle
  · rcases hcase i B hB with hx | ⟨hB, hi⟩ <;> rcases hcase j C hC with hy | ⟨hC, hj⟩
    · exact hH.inj i j B C p q (hXb i B hx) (hXb j C hy) hp hq hne hw
    · obtain ⟨D, hD⟩ := getB_keys hk' hC
      exact hH.inj i j B D p q (hXb i B hx) (by show getB (appX X H0.blks) j = _; rw [hget j hj]; exact hD) hp hq hne hw
    · rcases hfr.own i B p hB hw (htoX i p hi hp) with ho | ⟨k, D, r, g1, g2, g3, g4⟩
      · have := hH.lt j q hq; omega
      · rw [← g4]
        exact hapart j C q k D r hy hq g1 (hle _ _ g3) g2
    · exact hh.inj i j B C p q hB hC (htoX i p hi hp) (htoX j q hj hq) hne hw
  · refine hfr.old b hb fun j C q h1 h2 h3 => hno j C q (by show getB (appX X H0.blks) j = _; rw [hget j (hlo j C h1)]; exact h1) h2 (hle _ _ h3)
  · rcases hcase i B hB with hx | ⟨hB, hi⟩
    · exact .inr ⟨i, B, p, hXb i B hx, hw, hp, rfl⟩
    · rcases hfr.own i B p hB hw (htoX i p hi hp) with ho | ⟨k, D, r, g1, g2, g3, g4⟩
      · exact .inl ho
      · exact .inr ⟨k, D, r, by show getB (appX X H0.blks) k = _; rw [hget k (hlo k D g1)]; exact g1, g2, hle _ _ g3, g4⟩

/-- Behind a call some of what was made is forgotten. -/
theorem Con.forget {f : FuncId} {args : List AV} {H : Heap} {R R' : Post} (h : Con P f args H R)
    (hR : ∀ v H', R v H' → ∃ v' H'' l, idTo l H.next ∧ diff l ∧ H''.next = l.length ∧ leBlks l H'.blks H''.blks ∧ leV l v v' ∧ R' v' H'') : Con P f args H R' := by
  refine ⟨h.1, fun φ w xs hF hH => (h.2 φ w xs hF hH).mono fun e w' ⟨φ', v, x, H', he, hr, hv, hh, hf⟩ => ?_⟩
  obtain ⟨v', H'', l, hi, hd, hn, hb, hl, hr'⟩ := hR v H' hr
  have hlen : H.next ≤ l.length := by
    cases hx : H.next with
    | zero => omega
    | succ m => have := nthO_lt (hi m (by omega)); omega
  have hsm : ∀ i, i < H.next → ren φ' l i = φ' i := fun i h => ren_of (hi i h)
  refine ⟨ren φ' l, v', x, H'', he, hr', leV_rel hl hv, hh.ren hd hn hb, fun i p hp => ?_, fun i hi' => ?_, by omega, hf.size, hf.os, hf.tape, hf.output, hf.old, fun i B p hB hw hp => ?_⟩
  · by_cases hlt : i < H.next
    · rw [hsm i hlt]; exact hf.le i p hp
    · rw [hH.fresh i (by omega)] at hp; cases hp
  · rw [hsm i hi']; exact hf.same i hi'
  · obtain ⟨j, hj, hp⟩ := ren_some hp
    obtain ⟨C, hC, hle⟩ := leBlks_get hb hB hj
    exact hf.own j C p hC (hle.2.2.1 hw) hp

theorem ite_int (p : Prop) [Decidable p] (k : IntKind) (a b : Int) : (if p then CV.int k a else CV.int k b) = CV.int k (if p then a else b) := by split <;> rfl
theorem ite_seg (p : Prop) [Decidable p] (a b : CV) : (if p then Seg.c a else Seg.c b) = Seg.c (if p then a else b) := by split <;> rfl
theorem ite_segs (p : Prop) [Decidable p] (a b : Seg) (l m : List Seg) : (if p then a :: l else b :: m) = (if p then a else b) :: (if p then l else m) := by split <;> rfl
theorem ite_nil (p : Prop) [Decidable p] : (if p then ([] : List Seg) else []) = [] := by split <;> rfl
theorem ite_twice {α : Type} (p : Prop) [Decidable p] (a b c : α) : (if p then a else if p then b else c) = (if p then a else c) := by split <;> rfl
theorem ite_bool (p : Prop) [Decidable p] (a b : Bool) : (if p then CV.bool a else CV.bool b) = CV.bool (if p then a else b) := by split <;> rfl

theorem con_of_run (hm : P.follows .mixedOrders = true) {f : FuncId} {fn : Func} (hf : P.funcs[f]? = some fn) (hname : (fn.name == "runtime.NumGoroutine") = false) {ac : ACode} (hc : stripF P fn = some ac) {rs : List ARes} (hrs : stripRes P fn.results.toList = some rs)
    {args : List AV} (hargs : args.length ≤ fn.ntmps) {H : Heap} {R : Post} (h : runA (Con P) (LeS H.next) [ac] ⟨initT args 0, H⟩ (endQ (LeS H.next) rs R)) : Con P f args H R :=
  con_of_awp hm hf hname hc hrs hargs (run_start h)

end Go.AM
