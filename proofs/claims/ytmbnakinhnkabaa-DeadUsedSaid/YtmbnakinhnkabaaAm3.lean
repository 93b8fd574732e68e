/- AM: loads, addresses, arithmetic: operations that only read. -/
import Derived.Test.YtmbnakinhnkabaaAm2
namespace Go.AM
set_option linter.unusedVariables false
set_option linter.unusedSimpArgs false
variable {P : Program} {φ : Emb} {H : Heap} {w : World}

theorem ld1_ok (hR : Reads φ H w) {a : AA} {need : Option Prop} {v : AV} {B' : Option Blk} (h : ld1 H a = .p need v B') (hn : needP need) {p : Place} (hp : φ a.id = some p) :
    B' = none ∧ ∃ x, w.cell? (p.at a) = some x ∧ relA φ v x := by
  unfold ld1 at h
  cases hB : getB H.blks a.id with
  | none => simp [hB] at h
  | some B =>
    simp only [hB] at h
    cases hr : rowNeed B a.idx with
    | none => simp [hr] at h
    | some nd =>
      simp only [hr] at h
      have hb := hR _ _ _ hB hp
      cases hs : segAt (B.row a.idx) a.off with
      | none => simp [hs] at h
      | some sg =>
        simp only [hs] at h
        cases sg with
        | c cv =>
          simp only at h
          cases hz : Nat.beq a.sub 0 with
          | false => simp [hz] at h
          | true =>
            simp only [hz, Res.p.injEq] at h
            obtain ⟨rfl, rfl, rfl⟩ := h
            refine ⟨rfl, ?_⟩
            have hsub := Nat.eq_of_beq_eq_true hz
            have hi := rowNeed_lt hr hn
            have hf := segAt_flat _ _ _ hs 0 (by simp [Seg.size])
            obtain ⟨x, hx, hrel⟩ := hb.cell hi (o := a.off) (v := cv) (by simpa [Seg.flat] using hf)
            exact ⟨x, by simpa [Place.at, hsub] using hx, hrel⟩
        | a n f =>
          simp only [Res.p.injEq] at h
          obtain ⟨rfl, rfl, rfl⟩ := h
          refine ⟨rfl, ?_⟩
          have hi := rowNeed_lt hr (andN_left hn)
          have hlt : a.sub < n := andN_right hn
          have hf := segAt_flat _ _ _ hs a.sub (by simpa [Seg.size] using hlt)
          obtain ⟨x, hx, hrel⟩ := hb.cell hi (o := a.off + a.sub) (v := f a.sub) (by rw [hf]; simp [Seg.flat, hlt])
          exact ⟨x, by simpa [Place.at, Nat.add_assoc] using hx, hrel⟩

theorem ldn_ok (hR : Reads φ H w) {a : AA} {m : Nat} {need : Option Prop} {v : AV} {B' : Option Blk} (h : ldn H m a = .p need v B') (hn : needP need) {p : Place} (hp : φ a.id = some p) :
    B' = none ∧ ∃ xs : List Value, xs.length = m ∧ (∀ j x, xs[j]? = some x → w.cell? ((p.at a).add j) = some x) ∧ ∃ l, v = .agg l ∧ F2 (rel φ) (flat l) xs := by
  unfold ldn at h
  cases hB : getB H.blks a.id with
  | none => simp [hB] at h
  | some B =>
    simp only [hB] at h
    cases hr : rowNeed B a.idx with
    | none => simp [hr] at h
    | some nd =>
      simp only [hr] at h
      have hb := hR _ _ _ hB hp
      cases hz : Nat.beq a.sub 0 with
      | false => simp [hz] at h
      | true =>
        simp only [hz] at h
        cases hc : cut (B.row a.idx) a.off m with
        | none => simp [hc] at h
        | some l =>
          simp only [hc, Res.p.injEq] at h
          obtain ⟨rfl, rfl, rfl⟩ := h
          have hsub := Nat.eq_of_beq_eq_true hz
          have hi := rowNeed_lt hr hn
          obtain ⟨xs, h1, h2, h3⟩ := hb.rows _ hi
          obtain ⟨hf, hsz⟩ := cut_flat hc
          have hF := (h1.drop a.off).take m
          rw [← hf] at hF
          refine ⟨rfl, (xs.drop a.off).take m, by rw [← hF.length, flat_length, hsz], fun j x hx => ?_, l, rfl, hF⟩
          rw [List.getElem?_take] at hx
          split at hx
          · rename_i hj
            rw [List.getElem?_drop] at hx
            have := h3 _ _ hx
            have he : (p.at a).add j = ⟨p.blk, p.base + p.str * a.idx + (a.off + j), none⟩ := by
              unfold Addr.add Place.at
              split
              · rename_i h0; subst h0; simp [hsub]
              · simp [hsub, Nat.add_assoc]
            rw [he]; exact this
          · simp at hx

theorem run_ld1 {t : TypeId} (ht : aggT P t = some false) {a : Addr} {x : Value} (h : w.cell? a = some x) : (Instr.loadAt t (.pointer (some a))).run P w = .ok x w := by
  simp [Instr.loadAt, Instr.sureAddr, loadVar, go_sem, run_isAgg ht, h]
theorem run_ldn {t : TypeId} (ht : aggT P t = some true) {n : Nat} (hs : sizeT P t = some n) {a : Addr} {xs : List Value} (hl : xs.length = n) (h : ∀ j x, xs[j]? = some x → w.cell? (a.add j) = some x) :
    (Instr.loadAt t (.pointer (some a))).run P w = .ok (.agg xs.toArray) w := by
  subst hl
  simp only [Instr.loadAt, Instr.sureAddr, loadVar, Sem.run_bind, Sem.run_pure, Result.andThen_ok, run_isAgg ht, if_true, run_sizeOf hs, run_loadCells_list w a xs h]

/-! ### Arithmetic -/
theorem eqGuard_int (op : BinOp) (t : TypeId) (x y : Operand) (k : IntKind) (m : Int) (b : Value) : (eqGuard op t x y (.int k m) b).run P w = .ok () w := by
  cases op <;> simp [eqGuard, go_sem]
theorem eqGuard_bool (op : BinOp) (t : TypeId) (x y : Operand) (m : Bool) (b : Value) : (eqGuard op t x y (.bool m) b).run P w = .ok () w := by
  cases op <;> simp [eqGuard, go_sem]

theorem eqGuard_str (op : BinOp) (t : TypeId) (x y : Operand) (m : ByteArray) (b : Value) : (eqGuard op t x y (.string m) b).run P w = .ok () w := by
  cases op <;> simp [eqGuard, go_sem]

theorem sem_bind (x : Sem Unit) (y : Sem Value) (h : x.run P w = .ok () w) : (do x; y : Sem Value).run P w = y.run P w := by
  simp [Sem.run_bind, h, go_sem]

theorem bin_int (t : TypeId) (op : BinOp) (k k' : IntKind) (m n : Int) {need : Option Prop} {v : AV} {B : Option Blk} (h : bin op (.c (.int k m)) (.c (.int k' n)) = .p need v B) (hn : needP need) :
    B = none ∧ ∃ x, (binOp op t (.int k m) (.int k' n)).run P w = .ok x w ∧ relA φ v x := by
  have hs : ∀ op', (op' = .shl ∨ op' = .shr) → ∀ need v B, shiftR op' k m n = .p need v B → needP need → B = none ∧ ∃ x, (binOp op' t (.int k m) (.int k' n)).run P w = .ok x w ∧ relA φ v x := by
    intro op' ho need v B h hn
    rcases ho with rfl | rfl <;> simp only [shiftR, Res.p.injEq] at h <;> obtain ⟨rfl, rfl, rfl⟩ := h <;> refine ⟨rfl, _, ?_, rfl⟩ <;>
      (have h0 : ¬ n < 0 := by simp only [needP] at hn; omega) <;> simp [binOp, Op.shift, h0, go_sem]
  cases op <;> simp only [bin, isShift] at h
  case shl => exact hs _ (.inl rfl) _ _ _ h hn
  case shr => exact hs _ (.inr rfl) _ _ _ h hn
  all_goals
    cases hk : sameK k k' with
    | false => simp [hk] at h
    | true =>
      have := sameK_eq hk
      subst this
      simp only [hk, arith, Res.p.injEq, reduceCtorEq] at h
      try (obtain ⟨rfl, rfl, rfl⟩ := h; refine ⟨rfl, _, ?_, rfl⟩)
      try (simp only [needP] at hn)
      first
        | (simp [binOp, Op.intArith, Op.intBits, Op.intCmp, go_sem]; done)
        | (simp [binOp, Op.intDiv, hn, go_sem]; done)
        | skip

end Go.AM
