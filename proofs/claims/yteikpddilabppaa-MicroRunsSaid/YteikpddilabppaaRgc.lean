/- the reference of chapter 22: on to the next operation that wants something. -/
import Derived.Test.YteikpddilabppaaRgb
namespace Go.Proofs.Yteikpddilabppaa
open Go.AM
set_option maxRecDepth 100000
set_option linter.unusedSimpArgs false
set_option linter.unusedVariables false
/-- What an operation is, what it wants, what goes on with it. -/
def WKind (k w : Int) (t : WaitK) : Prop := (k = 12 ∧ w = 1 ∧ t = .loaded) ∨ (k = 14 ∧ w = 3 ∧ t = .loaded) ∨ (k = 13 ∧ w = 2 ∧ t = .stored) ∨ (k = 15 ∧ w = 4 ∧ t = .tried) ∨ (k = 16 ∧ w = 16 ∧ t = .fenced) ∨ (k = 17 ∧ w = 6 ∧ t = .fenced)
structure FineS (s : RunS) : Prop where
  reg : RegU s
  ops : ∀ i, i < s.nops → OpR (s.ops i)
  wz : isN s.waits = true → s.want = want0
  ww : isN s.waits = false → WKind (s.ops s.at_.toNat).kind s.want.kind s.waits
theorem RegU.host_set {s : RunS} (h : RegU s) (d v : Int) (hv : U v) : RegU (setHost s d v) :=
  ⟨fun i hi => by show U (if i = d.toNat then v else s.host i); split; exact hv; exact h.host i hi, h.slot, h.x, h.sp, h.g⟩
theorem U0 : U 0 := by unfold U; omega
theorem U1 : U 1 := by unfold U; omega
theorem U_ite {p : Prop} [Decidable p] {a b : Int} (h : U a) (k : U b) : U (if p then a else b) := by split <;> assumption
theorem U_ite1 {p : Prop} [Decidable p] {a b : Int × Int} (h : U a.1) (k : U b.1) : U (if p then a else b).1 := by split <;> assumption
theorem RegU.ite {p : Prop} [Decidable p] {s t : RunS} (h : p → RegU s) (k : ¬ p → RegU t) : RegU (if p then s else t) := by
  split
  · exact h (by assumption)
  · exact k (by assumption)
theorem U_truth (b : Bool) : U (truthS b) := by cases b <;> first | exact U0 | exact U1
theorem U_fdiv {a : Int} (h : U a) (n : Nat) : U (a.fdiv (2 ^ n)) := by
  obtain ⟨x, rfl, hx⟩ := U_nat h
  have e5 : (x : Int).fdiv (2 ^ n) = ((x / 2 ^ n : Nat) : Int) := by
    rw [Int.fdiv_eq_ediv_of_nonneg _ (by exact Int.pow_nonneg (by decide))]; simp
  rw [e5]
  have := Nat.div_le_self x (2 ^ n)
  unfold U
  generalize x / 2 ^ n = q at *
  omega
theorem reck_U (k a b : Int) (ha : U a) (hb : U b) : U (reckS k a b).1 := by
  have h58 : U (f58 a b) := by unfold f58; exact U_ite U0 (U_wrap _)
  have h59 : U (f59 a b) := by unfold f59; exact U_ite U0 (U_ite (U_wrap _) (U_wrap _))
  unfold reckS
  repeat' (first | exact U0 | exact h58 | exact h59 | exact U_wrap _ | exact U_truth _ | exact U_fdiv ha _ | refine U_ite1 ?_ ?_)
theorem RegU.steps {s : RunS} (h : RegU s) (a b : Int) : RegU { s with steps := a, at_ := b } := ⟨h.host, h.slot, h.x, h.sp, h.g⟩
theorem local_U {s : RunS} {m : MicroS} (h : RegU s) (hf : FitM s m) (ho : OpR m) : RegU (localS s m) := by
  obtain ⟨hd0, hd8, ha0, ha8, hb0, hb8, hi0, hsl, hx, hfl, hel⟩ := hf
  have ha := h.host m.a.toNat (by omega)
  have hb := h.host m.b.toNat (by omega)
  unfold localS
  repeat' (refine RegU.ite (fun _ => ?_) (fun _ => ?_))
  · exact h.host_set _ _ ho.imm
  · exact h.host_set _ _ ha
  · exact h.host_set _ _ (h.slot _ (by omega))
  · exact ⟨h.host, fun i hi => by show U (if i = m.imm.toNat then _ else s.slot i); split; exact ha; exact h.slot i hi, h.x, h.sp, h.g⟩
  · exact h.host_set _ _ (h.x _ (by omega))
  · exact ⟨h.host, h.slot, fun i hi => by show U (if i = m.r.toNat then _ else s.core.x i); split; exact ha; exact h.x i hi, h.sp, h.g⟩
  · exact h.host_set _ _ (h.sp _ (by omega))
  · exact ⟨h.host, h.slot, h.x, fun i hi => by show U (if i = s.el.toNat then _ else s.core.sp i); split; exact ha; exact h.sp i hi, h.g⟩
  · exact h.host_set _ _ (U_ite U1 U0)
  · refine ⟨h.host, h.slot, ?_, ?_, h.g⟩ <;> intro i hi <;> unfold flagSet <;> simp only <;> (repeat' split) <;> first | exact h.x i hi | exact h.sp i hi
  · exact h.host_set _ _ (reck_U _ _ _ ha hb)
  · exact ⟨h.host, h.slot, h.x, h.sp, h.g⟩
  · exact h
  · exact ⟨h.host, h.slot, h.x, h.sp, h.g⟩
  · exact ⟨h.host, h.slot, h.x, h.sp, h.g⟩
  · exact ⟨h.host, h.slot, h.x, h.sp, h.g⟩
  · refine ⟨h.host, h.slot, h.x, h.sp, ?_⟩
    show U (IntKind.u32.wrap m.imm)
    rw [IntKind.wrap_u32]; unfold U; omega
  · exact h
theorem round_fine {s : RunS} (hg : GoodS s) (h : FineS s) (hl : s.left = false) (hw : isN s.waits = true) : FineS (roundS s) := by
  have h0 := hg.at0
  have hn := hg.atn hl
  have hm := local_same s (s.ops s.at_.toNat)
  refine ⟨(local_U h.reg (hg.fit hl) (h.ops _ (by omega))).steps _ _, ?_, ?_, ?_⟩
  · intro i hi
    have e1 : (roundS s).ops = s.ops := hm.ops
    have e2 : (roundS s).nops = s.nops := hm.nops
    rw [e1]; rw [e2] at hi
    exact h.ops i hi
  · intro _
    exact hm.want.trans (h.wz hw)
  · intro hx
    have : (roundS s).waits = s.waits := hm.waits
    rw [this, hw] at hx; cases hx
theorem world_fine {s : RunS} (hg : GoodS s) (h : FineS s) (hl : s.left = false) (ht : (worldS s (s.ops s.at_.toNat)).1 = true) : FineS (worldS s (s.ops s.at_.toNat)).2 := by
  unfold worldS accS at ht ⊢
  simp only at ht ⊢
  (repeat' split at ht) <;> first | (cases ht; done) | skip
  all_goals simp only [*, if_true, if_false, Int.reduceEq, reduceIte]
  all_goals (repeat' split)
  all_goals refine ⟨⟨h.reg.host, h.reg.slot, h.reg.x, h.reg.sp, h.reg.g⟩, h.ops, fun hx => ?_, fun hx => ?_⟩
  all_goals first | rfl | (cases hx; done) | skip
  all_goals simp [WKind, *]
theorem nextS_fine : ∀ (n : Nat) (s : RunS), GoodS s → FineS s → FineS (nextS n s)
  | 0, s, _, h => h
  | n + 1, s, hg, h => by
    unfold nextS
    split
    · rename_i hc
      have hl : s.left = false := by revert hc; cases s.left <;> simp
      have hw : isN s.waits = true := by revert hc; cases isN s.waits <;> simp
      split
      · rename_i ht
        exact world_fine hg h hl ht
      · exact nextS_fine n _ (hg.round hl hw) (round_fine hg h hl hw)
    · exact h
theorem nextR_fine {s : RunS} (hg : GoodS s) (h : FineS s) : FineS (nextR s) := nextS_fine _ s hg h
theorem took_fine {s : RunS} (h : FineS s) (g : GotS) (hg : U g.value) : FineS (tookS s g) := by
  have hr : RegU (goS s g) := by
    unfold goS
    split
    · exact ⟨h.reg.host, h.reg.slot, h.reg.x, h.reg.sp, h.reg.g⟩
    · split
      · exact h.reg.host_set _ _ hg
      · refine h.reg.host_set _ _ ?_
        split; exact U0; exact U1
      · exact h.reg
  obtain ⟨e1, e2, e3, e4, e5, e6, e7⟩ := goS_same s g
  refine ⟨⟨hr.host, hr.slot, hr.x, hr.sp, hr.g⟩, ?_, fun _ => rfl, fun hx => (by cases hx)⟩
  intro i hi
  have a1 : (tookS s g).ops = s.ops := e1
  have a2 : (tookS s g).nops = s.nops := e2
  rw [a1]; rw [a2] at hi
  exact h.ops i hi
theorem nextS_stop {s : RunS} (h : s.left = true ∨ isN s.waits = false) (n : Nat) : nextS n s = s := by
  cases n with
  | zero => rfl
  | succ n =>
    unfold nextS
    rw [if_neg]
    rcases h with h | h <;> simp [h]
end Go.Proofs.Yteikpddilabppaa
