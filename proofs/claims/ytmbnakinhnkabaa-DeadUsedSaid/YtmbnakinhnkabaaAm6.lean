/- AM: 'op_p': an operation that does not turn the heap. -/
import Derived.Test.YtmbnakinhnkabaaAm5
namespace Go.AM
set_option linter.unusedVariables false
set_option linter.unusedSimpArgs false
variable {P : Program} {φ : Emb} {w : World}

theorem relA_int {k : IntKind} {n : Int} {x : Value} (h : relA φ (.c (.int k n)) x) : x = .int k n := h
theorem relA_bool {b : Bool} {x : Value} (h : relA φ (.c (.bool b)) x) : x = .bool b := h

theorem yld_faddr {t : TypeId} {fi : Nat} {x : Value} {f : Field} {m : Nat} (hf : fieldAt P t fi = some f) (hs : sizeT P f.type = some (m + 1)) {a : AA} (hx : relP φ a x) (hsub : a.sub = 0) :
    ∃ y, (Instr.fieldAt t x fi).run P w = .ok y w ∧ relP φ ⟨a.id, a.idx, addN a.off f.offset, a.sub⟩ y := by
  obtain ⟨p, hp, rfl⟩ := hx
  unfold fieldAt at hf
  split at hf
  · rename_i fs hu
    refine ⟨.pointer (some ((p.at a).add f.offset)), ?_, p, hp, ?_⟩
    · simp [Instr.fieldAt, run_underlying' hu, hf, Instr.sureAddr, fieldPlace, run_sizeOf hs, go_sem]
    · unfold Addr.add Place.at
      rw [addN_eq, hsub]
      split
      · rename_i h0; simp [h0]
      · simp [Nat.add_assoc]
  · simp at hf

theorem add_place (p : Place) (a : AA) (inner : Bool) (n k : Nat) (hi : inner = true → k = 1) (ho : inner = false → p.str = k) : (p.at a).add (n * k) = p.at (plusA a inner n) := by
  cases inner with
  | true =>
    have := hi rfl
    subst this
    unfold plusA Addr.add Place.at
    simp only [addN_eq]
    split
    · rename_i h0; simp at h0; simp [h0]
    · simp [Nat.add_assoc]
  | false =>
    have := ho rfl
    subst this
    unfold plusA Addr.add Place.at
    simp only [addN_eq]
    split
    · rename_i h0
      rcases Nat.mul_eq_zero.1 h0 with h | h
      · simp [h]
      · simp [h]
    · simp [Nat.mul_add, Nat.mul_comm]; omega

theorem strOk_spec {H : Heap} (hR : Reads φ H w) {k : Nat} {a : AA} {inner : Bool} (h : strOk H k a inner = true) {p : Place} (hp : φ a.id = some p) : (inner = true → k = 1) ∧ (inner = false → p.str = k) := by
  unfold strOk at h
  split at h
  · exact ⟨fun _ => Nat.eq_of_beq_eq_true h, (fun e => by cases e)⟩
  · refine ⟨(fun e => by cases e), fun _ => ?_⟩
    split at h
    · rename_i B hB
      rw [(hR _ _ _ hB hp).str]
      exact Nat.eq_of_beq_eq_true h
    · cases h

theorem yld_iaddr {t e : TypeId} {k : Nat} (hu : P.underlying t = some (.slice e)) (hk : sizeT P e = some k) {H : Heap} (hR : Reads φ H w) {a : AA} {inner : Bool} {len : Nat} {x : Value} (hx : relA φ (.c (.slice a inner len)) x)
    (hst : strOk H k a inner = true) {ki : IntKind} {n : Int} (h0 : 0 ≤ n) (hl : n < (len : Int)) :
    ∃ y, (Instr.indexAt t x (.int ki n)).run P w = .ok y w ∧ relP φ (plusA a inner n.toNat) y := by
  obtain ⟨r, cap, rfl, hle, hc⟩ := hx
  rcases hc with ⟨rfl, _, _⟩ | ⟨p, hp, rfl, hcap⟩
  · omega
  obtain ⟨h1, h2⟩ := strOk_spec hR hst hp
  refine ⟨.pointer (some ((p.at a).add (n.toNat * k))), ?_, p, by cases inner <;> exact hp, by rw [add_place p a inner _ _ h1 h2]⟩
  simp [Instr.indexAt, asIntOf, run_underlying' hu, run_sizeOf hk, go_sem, h0, hl]

theorem yld_iaddrA {t e : TypeId} {m : Nat} (hu : P.underlying t = some (.array m e)) (hk : sizeT P e = some 1) {a : AA} {x : Value} (hx : relP φ a x)
    {ki : IntKind} {n : Int} (h0 : 0 ≤ n) (hl : n < (m : Int)) :
    ∃ y, (Instr.indexAt t x (.int ki n)).run P w = .ok y w ∧ relP φ ⟨a.id, a.idx, a.off, addN a.sub n.toNat⟩ y := by
  obtain ⟨p, hp, rfl⟩ := hx
  refine ⟨.pointer (some ((p.at a).add (n.toNat * 1))), ?_, p, hp, by rw [add_place p a true n.toNat 1 (fun _ => rfl) (fun e => by cases e)]; rfl⟩
  simp [Instr.indexAt, asIntOf, run_underlying' hu, run_sizeOf hk, Instr.sureAddr, go_sem, h0, hl]

/-! ### Slice expressions -/
theorem run_sliceBounds {b : Bool} {lo hi : Option Value} {len cap l h : Nat} (hh : hi = none ∧ h = len ∨ ∃ k n, hi = some (.int k n) ∧ 0 ≤ n ∧ n ≤ (cap : Int) ∧ h = n.toNat)
    (hl : lo = none ∧ l = 0 ∨ ∃ k n, lo = some (.int k n) ∧ 0 ≤ n ∧ n ≤ (h : Int) ∧ l = n.toNat) : (Instr.sliceBounds b len cap lo hi none).run P w = .ok (l, h, cap) w := by
  rcases hh with ⟨rfl, rfl⟩ | ⟨k, n, rfl, h1, h2, rfl⟩ <;> rcases hl with ⟨rfl, rfl⟩ | ⟨k', n', rfl, h1', h2', rfl⟩
  · simp [Instr.sliceBounds, go_sem]
  · simp [Instr.sliceBounds, Instr.sliceBound, asIntOf, go_sem, h1', h2']
  · simp [Instr.sliceBounds, Instr.sliceBound, asIntOf, go_sem, h1, h2]
  · have h3 : n' ≤ n := by omega
    simp [Instr.sliceBounds, Instr.sliceBound, asIntOf, go_sem, h1, h2, h1', h3]
    omega

/-- An operand that may be missing, and its value. -/
def Opt (φ : Emb) (x : Option AV) (y : Option Value) : Prop := match x, y with
  | none, none => True
  | some u, some v => relA φ u v
  | _, _ => False

theorem bnd_of {x : Option AV} {y : Option Value} {dflt top : Nat} {l : Option Int} {ln : Nat} (hxy : Opt φ x y) (h : bndHi x dflt = some (l, ln)) (hn : needP (leN l top)) :
    y = none ∧ ln = dflt ∨ ∃ k n, y = some (.int k n) ∧ 0 ≤ n ∧ n ≤ (top : Int) ∧ ln = n.toNat := by
  unfold bndHi at h
  split at h
  · simp only [Option.some.injEq, Prod.mk.injEq] at h
    obtain ⟨rfl, rfl⟩ := h
    cases y with
    | none => exact .inl ⟨rfl, rfl⟩
    | some v => exact hxy.elim
  · rename_i k n
    simp only [Option.some.injEq, Prod.mk.injEq] at h
    obtain ⟨rfl, rfl⟩ := h
    cases y with
    | none => exact hxy.elim
    | some v =>
      have e : v = .int k n := hxy
      subst e
      exact .inr ⟨_, _, rfl, hn.1, hn.2, rfl⟩
  · simp at h

theorem yld_slc {t e : TypeId} {k : Nat} (hu : P.underlying t = some (.slice e)) (hk : sizeT P e = some k) {H : Heap} (hR : Reads φ H w) {x : AV} {y : Value} (hx : relA φ x y) {lo hi : Option AV} {lo' hi' : Option Value}
    (hlo : Opt φ lo lo') (hhi : Opt φ hi hi') {need : Option Prop} {v : AV} {B : Option Blk} (h : slcS H k x lo hi = .p need v B) (hn : needP need) :
    B = none ∧ ∃ z, (Instr.sliceAt t y lo' hi' none).run P w = .ok z w ∧ relA φ v z := by
  unfold slcS at h
  split at h
  · rename_i a inner len
    split at h
    · rename_i l ln hh hhn hst hl1 hh1
      simp only [Res.p.injEq] at h
      obtain ⟨rfl, rfl, rfl⟩ := h
      refine ⟨rfl, ?_⟩
      obtain ⟨r, cap, rfl, hle, hc⟩ := hx
      have b1 := bnd_of hhi hh1 (andN_left hn)
      have b2 := bnd_of hlo hl1 (andN_right hn)
      have c1 : hi' = none ∧ hhn = len ∨ ∃ k n, hi' = some (.int k n) ∧ 0 ≤ n ∧ n ≤ (cap : Int) ∧ hhn = n.toNat := b1.imp id fun ⟨k, n, e1, e2, e3, e4⟩ => ⟨k, n, e1, e2, by omega, e4⟩
      have hs := run_sliceBounds (P := P) (w := w) (b := true) (len := len) (cap := cap) c1 b2
      have hln : ln ≤ hhn := by rcases b2 with ⟨_, rfl⟩ | ⟨_, _, _, _, _, rfl⟩ <;> omega
      have hhl : hhn ≤ len := by rcases b1 with ⟨_, rfl⟩ | ⟨_, _, _, _, _, rfl⟩ <;> omega
      refine ⟨.slice (if cap = ln then r else r.map (·.add (ln * k))) (hhn - ln) (cap - ln), ?_, ?_⟩
      · simp only [Instr.sliceAt, Instr.slice, Sem.run_bind, run_underlying' hu, Result.andThen_ok, hs, run_sizeOf hk, Sem.run_pure]
      · refine ⟨_, _, rfl, by omega, ?_⟩
        rcases hc with ⟨rfl, rfl, hr⟩ | ⟨p, hp, rfl, hcap⟩
        · have : ln = 0 := by omega
          subst this
          refine .inl ⟨by omega, by omega, ?_⟩
          rw [if_pos rfl]
          cases inner <;> simp_all [plusA, addN_eq]
        · obtain ⟨h1, h2⟩ := strOk_spec hR hst hp
          by_cases hcl : cap = ln
          · cases inner with
            | true => exact .inl ⟨by omega, by omega, by simp⟩
            | false =>
              by_cases hl0 : ln = 0
              · subst hl0
                refine .inr ⟨p, hp, by rw [if_pos hcl]; simp [plusA, addN_eq], fun _ => ?_⟩
                obtain ⟨g1, g2, g3⟩ := hcap rfl
                simp only [plusA, addN_eq]
                exact ⟨g1, g2, by omega⟩
              · exact .inl ⟨by omega, by omega, .inr (.inl (by simp only [plusA, addN_eq]; omega))⟩
          ·
            refine .inr ⟨p, by cases inner <;> exact hp, ?_, fun hi => ?_⟩
            · rw [if_neg hcl, Option.map_some, add_place p a inner _ _ h1 h2]
            · subst hi
              obtain ⟨g1, g2, g3⟩ := hcap rfl
              simp only [plusA, addN_eq]
              exact ⟨g1, g2, by omega⟩
    · simp at h
  · split at h
    · rename_i l ln hh hhn hl1 hh1
      simp only [Res.p.injEq] at h
      obtain ⟨rfl, rfl, rfl⟩ := h
      refine ⟨rfl, ?_⟩
      have hx' : y = .slice none 0 0 := hx
      subst hx'
      have b1 := bnd_of hhi hh1 (andN_left hn)
      have b2 := bnd_of hlo hl1 (andN_right hn)
      have hs := run_sliceBounds (P := P) (w := w) (b := true) (len := 0) (cap := 0) b1 b2
      have hln : ln = 0 := by rcases b2 with ⟨_, rfl⟩ | ⟨_, _, _, _, _, rfl⟩ <;> rcases b1 with ⟨_, rfl⟩ | ⟨_, _, _, _, _, rfl⟩ <;> omega
      have hhn0 : hhn = 0 := by rcases b1 with ⟨_, rfl⟩ | ⟨_, _, _, _, _, rfl⟩ <;> omega
      subst hln
      subst hhn0
      refine ⟨.slice none 0 0, ?_, rfl⟩
      simp only [Instr.sliceAt, Instr.slice, Sem.run_bind, run_underlying' hu, Result.andThen_ok, hs, run_sizeOf hk, Sem.run_pure]
      simp
    · simp at h
  · simp at h

theorem yld_slcA {t e : TypeId} {m : Nat} (hu : P.underlying t = some (.array m e) ∨ ∃ arr, P.underlying t = some (.pointer arr) ∧ P.underlying arr = some (.array m e)) (hk : sizeT P e = some 1) {a : AA} {y : Value} (hx : relP φ a y) {lo hi : Option AV} {lo' hi' : Option Value}
    (hlo : Opt φ lo lo') (hhi : Opt φ hi hi') {l h : Option Int} {ln hn : Nat} (h1 : bndHi lo 0 = some (l, ln)) (h2 : bndHi hi m = some (h, hn)) (hnd : needP (andN (leN h m) (leN l hn))) :
    ∃ z, (Instr.sliceAt t y lo' hi' none).run P w = .ok z w ∧ relA φ (.c (.slice ⟨a.id, a.idx, a.off, addN a.sub ln⟩ true (hn - ln))) z := by
  obtain ⟨p, hp, rfl⟩ := hx
  have b1 := bnd_of hhi h2 (andN_left hnd)
  have b2 := bnd_of hlo h1 (andN_right hnd)
  have hs := run_sliceBounds (P := P) (w := w) (b := false) (len := m) (cap := m) b1 b2
  have hln : ln ≤ hn := by rcases b2 with ⟨_, rfl⟩ | ⟨_, _, _, _, _, rfl⟩ <;> omega
  have hhl : hn ≤ m := by rcases b1 with ⟨_, rfl⟩ | ⟨_, _, _, _, _, rfl⟩ <;> omega
  refine ⟨.slice (some (if m = ln then p.at a else (p.at a).add (ln * 1))) (hn - ln) (m - ln), ?_, _, _, rfl, by omega, ?_⟩
  · rcases hu with hu | ⟨arr, hu, hua⟩
    · simp only [Instr.sliceAt, Sem.run_bind, run_underlying' hu, Result.andThen_ok, Instr.sureAddr, Sem.run_pure, hs, run_sizeOf hk]
    · simp only [Instr.sliceAt, Instr.slice, Sem.run_bind, run_underlying' hu, run_underlying' hua, Result.andThen_ok, asAddr, Sem.run_pure, hs, run_sizeOf hk]
  · by_cases hcl : m = ln
    · exact .inl ⟨by omega, by omega, by simp⟩
    · exact .inr ⟨p, hp, by rw [if_neg hcl, add_place p a true _ _ (fun _ => rfl) (fun e => by cases e)]; rfl, fun e => by cases e⟩

end Go.AM
