/- Parts of the proof of foldDoes_holds, joined and cut by a program: Fc, Fd, Ka, Code18b, Gb, Gc, Gd, Ge, Gf, Gg, Gh, Hb, Hc, Gi. No condition. -/
import Derived.Test.YtmbnakinhnkabaaZgd
import Derived.Test.YtmbnakinhnkabaaProg
import Derived.KernelRfl
namespace Go.Proofs.Ytmbnakinhnkabaa
open Go.AM
set_option maxRecDepth 100000
set_option linter.unusedSimpArgs false
set_option linter.unusedVariables false
theorem run_frame2 {f : FuncId} {args : List AV} {s s' : RS} {V : AV} (h : Con Try.prog f args (runH s) (fun v H' => v = V ∧ H' = runH s')) (ha : leArgs [0, 1, 2] args args) {B C : Blk} :
    Con Try.prog f args ⟨5, (4, C) :: (3, B) :: (runH s).blks⟩ (fun v H' => v = V ∧ H' = ⟨5, (4, C) :: (3, B) :: (runH s').blks⟩) :=
  run_frame h ha [(4, C), (3, B)] 5 rfl (by decide) (fun i hi => by
    match i, hi with
    | 0, _ => rfl
    | 1, _ => rfl
    | 2, _ => rfl)
def wantA (o : OpS) (a b : Int) : WantS :=
  if o.kind = 9 then ⟨1, a, 0, o.order, false, 0, false, 0, 0, 0⟩
  else if o.kind = 11 then ⟨3, a, 0, o.order, false, 0, false, 0, 0, 0⟩
  else if o.kind = 10 then ⟨2, a, b, 0, o.order == 4, 0, false, 0, 0, 0⟩
  else ⟨4, a, b, 0, o.order == 4, 0, false, 0, 0, 0⟩
def accR (s : RS) (o : OpS) (a b : Int) : RS := if (a.tmod 8 != 0) = true then { s with left := true, faulted := true } else waitS s (wantA o a b)
set_option maxHeartbeats 8000000 in
theorem con65 (s : RS) (o : OpS) (a b : Int) : Con Try.prog 65 [me, .agg (opL o), .c (.int .u64 a), .c (.int .u64 b)] (runH s) (fun v H' => v = .tup [] ∧ H' = runH (accR s o a b)) := by
  (refine con_of_run mixed (fn := Try.f65) (by kernel_rfl) (by kernel_rfl) C65_ok (rs := []) (by kernel_rfl) (Nat.le_of_ble_eq_true (by kernel_rfl)) ?_; unfold C65; simp only [initT, Nat.reduceAdd])
  generalize hR : (fun (v : AV) (H' : Heap) => v = AV.tup [] ∧ H' = runH (accR s o a b)) = R
  simp only [me, runH, runB, runL]
  repeat' (first | refine run_seq ?_ | refine run_skip ?_ | (refine run_region fun K hK => ?_; (try (simp (maxSteps := 10000000) only [opL, partsOf, fillS, C65r0, C65r1, C65r2, C65r3, C65r4, C65r5, C65r6, C65r7, C65r8, C65r9, C65r10, C65r11, C65r12, C65r13, C65r14, C65r15, C65r16, C65r17, C65r18, C65r19, rwp_nil, rwp_cons, aop, gpath, St.get, slotAt, sfx, eqP, segsOf, St.put, addBlk, getB, setB, ld1, ldn, st1, stn, setRow, rowNeed, segAt, nsub, bin, isShift, sameK, arith, shed, addN, Nat.beq, Seg.size, sizes, imp, appL, argsOf, ptrsOf, cut, takeS, dropS, putS, partsOf, fillS, exOk, Nat.reduceAdd, List.append_nil, List.nil_append, List.cons_append])); (repeat (first | (refine And.intro ?_ ?_; · (first | decide | trivial | assumption | omega | (intros; first | decide | trivial | omega))) | ((first | (refine call_t _ (run_frame2 (con64 s ⟨1, a, 0, o.order, false, 0, false, 0, 0, 0⟩) (by simp only [me, wantL, leArgs, leV, leV1, leSegs, leSeg, leC, leA, nthO, and_self])) ?_; rintro v H' ⟨rfl, rfl⟩) | refine call_q _ (run_frame2 (con64 s ⟨1, a, 0, o.order, false, 0, false, 0, 0, 0⟩) (by simp only [me, opL, wantL, leArgs, leV, leV1, leSegs, leSeg, leC, leA, nthO, and_self])) ?_ | refine call_g _ (imp_of (run_frame2 (con64 s ⟨1, a, 0, o.order, false, 0, false, 0, 0, 0⟩) (by simp only [me, wantL, leArgs, leV, leV1, leSegs, leSeg, leC, leA, nthO, and_self]))) ?_ | (refine call_t _ (run_frame2 (con64 s ⟨3, a, 0, o.order, false, 0, false, 0, 0, 0⟩) (by simp only [me, wantL, leArgs, leV, leV1, leSegs, leSeg, leC, leA, nthO, and_self])) ?_; rintro v H' ⟨rfl, rfl⟩) | refine call_q _ (run_frame2 (con64 s ⟨3, a, 0, o.order, false, 0, false, 0, 0, 0⟩) (by simp only [me, opL, wantL, leArgs, leV, leV1, leSegs, leSeg, leC, leA, nthO, and_self])) ?_ | refine call_g _ (imp_of (run_frame2 (con64 s ⟨3, a, 0, o.order, false, 0, false, 0, 0, 0⟩) (by simp only [me, wantL, leArgs, leV, leV1, leSegs, leSeg, leC, leA, nthO, and_self]))) ?_ | (refine call_t _ (run_frame2 (con64 s ⟨2, a, b, 0, o.order == 4, 0, false, 0, 0, 0⟩) (by simp only [me, wantL, leArgs, leV, leV1, leSegs, leSeg, leC, leA, nthO, and_self])) ?_; rintro v H' ⟨rfl, rfl⟩) | refine call_q _ (run_frame2 (con64 s ⟨2, a, b, 0, o.order == 4, 0, false, 0, 0, 0⟩) (by simp only [me, opL, wantL, leArgs, leV, leV1, leSegs, leSeg, leC, leA, nthO, and_self])) ?_ | refine call_g _ (imp_of (run_frame2 (con64 s ⟨2, a, b, 0, o.order == 4, 0, false, 0, 0, 0⟩) (by simp only [me, wantL, leArgs, leV, leV1, leSegs, leSeg, leC, leA, nthO, and_self]))) ?_ | (refine call_t _ (run_frame2 (con64 s ⟨4, a, b, 0, o.order == 4, 0, false, 0, 0, 0⟩) (by simp only [me, wantL, leArgs, leV, leV1, leSegs, leSeg, leC, leA, nthO, and_self])) ?_; rintro v H' ⟨rfl, rfl⟩) | refine call_q _ (run_frame2 (con64 s ⟨4, a, b, 0, o.order == 4, 0, false, 0, 0, 0⟩) (by simp only [me, opL, wantL, leArgs, leV, leV1, leSegs, leSeg, leC, leA, nthO, and_self])) ?_ | refine call_g _ (imp_of (run_frame2 (con64 s ⟨4, a, b, 0, o.order == 4, 0, false, 0, 0, 0⟩) (by simp only [me, wantL, leArgs, leV, leV1, leSegs, leSeg, leC, leA, nthO, and_self]))) ?_); simp (maxSteps := 10000000) only [rwp_nil, rwpK_app, St.put, shed]))); with_reducible refine hK _ ?_; clear hK K) | (refine run_cond rfl (fun hc => ?_) (fun hc => ?_) <;> try (simp only [*, Bool.true_eq_false, Bool.false_eq_true, Bool.not_true, Bool.not_false, Bool.true_or, Bool.or_true, Bool.false_or, Bool.or_false, Bool.false_and, Bool.and_false, bne_self_eq_false, beq_self_eq_true] at hc; done)) | refine run_block ?_ | refine run_ret ?_ | refine run_nil ?_ | refine blk_normal ?_ | refine blk_ret ?_ | refine blk_here ?_ | refine blk_there rfl ?_)
  all_goals
    subst hR
    try simp only [beq_iff_eq, beq_eq_false_iff_ne, ne_eq] at *
    refine end_run0 nofun (accR s o a b) ?_ ?_ ?_ ⟨rfl, rfl⟩ <;> (simp only [accR, wantA, *, if_true, if_false, Int.reduceEq, Bool.false_eq_true]; rfl)
def updI (g : Nat → Int) (k : Nat) (v : Int) : Nat → Int := fun i => if i = k then v else g i
def setV (s : RS) (k : Nat) (v : Int) : RS := { s with vs := updI s.vs k v }
def nxt (s : RS) : RS := { s with pos := s.pos + 1 }
def pcR (s : RS) (pc : Int) : RS := { s with core := { s.core with pc := pc } }
def oneS (s : RS) (o : OpS) : RS :=
  if o.kind = 1 then setV (nxt s) s.pos o.imm
  else if o.kind = 2 then setV (nxt s) s.pos (s.core.x o.r.toNat)
  else if o.kind = 3 then { nxt s with core := { s.core with x := updI s.core.x o.r.toNat (s.vs o.a.toNat) } }
  else if o.kind = 4 then setV (nxt s) s.pos (s.core.sp s.b.el.toNat)
  else if o.kind = 5 then { nxt s with core := { s.core with sp := updI s.core.sp s.b.el.toNat (s.vs o.a.toNat) } }
  else if o.kind = 6 then setV (nxt s) s.pos (if flagG s.core o.r = true then 1 else 0)
  else if o.kind = 7 then { nxt s with core := flagS s.core o.r (s.vs o.a.toNat != 0) }
  else if o.kind = 8 then setV (nxt s) s.pos (refR o.r (s.vs o.a.toNat) (s.vs o.b.toNat)).1
  else if o.kind = 13 then waitS (nxt s) ⟨6, 0, 0, 0, false, o.r, false, 0, 0, 0⟩
  else if o.kind = 14 then pcR (nxt s) o.imm
  else if o.kind = 15 then (if (s.vs o.a.toNat != 0) = true then { pcR (nxt s) o.imm with left := true } else nxt s)
  else if o.kind = 16 then { pcR (nxt s) o.imm with left := true }
  else if o.kind = 17 then { pcR (nxt s) (s.vs o.a.toNat) with left := true }
  else if o.kind = 18 then { nxt s with word := o.imm, guest := true, left := true }
  else accR (nxt s) o (s.vs o.a.toNat) (s.vs o.b.toNat)
structure FitO (s : RS) (o : OpS) : Prop where
  a : 0 ≤ o.a ∧ o.a < s.b.n
  b : 0 ≤ o.b ∧ o.b < s.b.n
  pos : s.pos < s.b.n
  n : s.b.n ≤ 512
  x : o.kind = 2 ∨ o.kind = 3 → 0 ≤ o.r ∧ o.r ≤ 30
  f : o.kind = 6 → o.r = 0 ∨ o.r = 1 ∨ o.r = 2 ∨ o.r = 3
  el : 0 ≤ s.b.el ∧ s.b.el ≤ 1
  u : ∀ i, U (s.vs i)
set_option maxHeartbeats 16000000 in
theorem con45 (s : RS) (o : OpS) (hf : FitO s o) : Con Try.prog 45 [me, .agg (opL o)] (runH s) (fun v H' => v = .tup [] ∧ H' = runH (oneS s o)) := by
  obtain ⟨ha, hb, hp, hn, hx, hfl, hel, hu⟩ := hf
  have hw : IntKind.i64.wrap ((s.pos : Int) + 1) = ((s.pos + 1 : Nat) : Int) := by rw [IntKind.wrap_i64]; omega
  (refine con_of_run mixed (fn := Try.f45) (by kernel_rfl) (by kernel_rfl) C45_ok (rs := []) (by kernel_rfl) (Nat.le_of_ble_eq_true (by kernel_rfl)) ?_; unfold C45; simp only [initT, Nat.reduceAdd])
  generalize hR : (fun (v : AV) (H' : Heap) => v = AV.tup [] ∧ H' = runH (oneS s o)) = R
  simp only [me, runH, runB, runL, runO, runV]
  repeat' (first | refine run_seq ?_ | refine run_skip ?_ | (refine run_region fun K hK => ?_; (try (simp (maxSteps := 10000000) only [opL, hw, C45r0, C45r1, C45r2, C45r3, C45r4, C45r5, C45r6, C45r7, C45r8, C45r9, C45r10, C45r11, C45r12, C45r13, C45r14, C45r15, C45r16, C45r17, C45r18, C45r19, C45r20, C45r21, C45r22, C45r23, C45r24, C45r25, C45r26, C45r27, C45r28, C45r29, C45r30, C45r31, C45r32, C45r33, C45r34, C45r35, C45r36, C45r37, C45r38, C45r39, C45r40, rwp_nil, rwp_cons, aop, gpath, St.get, slotAt, sfx, eqP, segsOf, St.put, addBlk, getB, setB, ld1, ldn, st1, setRow, rowNeed, segAt, nsub, bin, isShift, sameK, arith, shed, addN, Nat.beq, Seg.size, sizes, imp, andN, appL, argsOf, ptrsOf, cut, takeS, dropS, putS, partsOf, fillS, strOk, plusA, exOk, Nat.reduceAdd, List.append_nil, List.nil_append, List.cons_append, ite_int, ite_seg, ite_segs, ite_nil, Int.toNat_natCast])); (repeat (first | (refine And.intro ?_ ?_; · (first | decide | trivial | assumption | omega | (simp only [beq_iff_eq] at hc; omega) | (intros; first | decide | trivial | omega))) | ((first | (refine call_t _ (con61 s.core o.r (hfl (by simpa using hc)) _) ?_; rintro v H' ⟨rfl, rfl⟩) | refine call_q _ (con61 s.core o.r (hfl (by simpa using hc)) _) ?_ | refine call_g _ (imp_of (con61 s.core o.r (hfl (by simpa using hc)) _)) ?_ | (refine call_t _ (con63 o.r _ _ (hu _) (hu _) _) ?_; rintro v H' ⟨rfl, rfl⟩) | refine call_q _ (con63 o.r _ _ (hu _) (hu _) _) ?_ | refine call_g _ (imp_of (con63 o.r _ _ (hu _) (hu _) _)) ?_ | (refine call_t _ (run_frame1 (con62 (nxt s) o.r (s.vs o.a.toNat != 0)) (by simp only [me, leArgs, leV, leV1, leC, leA, nthO, and_self])) ?_; rintro v H' ⟨rfl, rfl⟩) | refine call_q _ (run_frame1 (con62 (nxt s) o.r (s.vs o.a.toNat != 0)) (by simp only [me, opL, wantL, leArgs, leV, leV1, leSegs, leSeg, leC, leA, nthO, and_self])) ?_ | refine call_g _ (imp_of (run_frame1 (con62 (nxt s) o.r (s.vs o.a.toNat != 0)) (by simp only [me, leArgs, leV, leV1, leC, leA, nthO, and_self]))) ?_ | (refine call_t _ (run_frame1 (con64 (nxt s) ⟨6, 0, 0, 0, false, o.r, false, 0, 0, 0⟩) (by simp only [me, wantL, leArgs, leV, leV1, leSegs, leSeg, leC, leA, nthO, and_self])) ?_; rintro v H' ⟨rfl, rfl⟩) | refine call_q _ (run_frame1 (con64 (nxt s) ⟨6, 0, 0, 0, false, o.r, false, 0, 0, 0⟩) (by simp only [me, opL, wantL, leArgs, leV, leV1, leSegs, leSeg, leC, leA, nthO, and_self])) ?_ | refine call_g _ (imp_of (run_frame1 (con64 (nxt s) ⟨6, 0, 0, 0, false, o.r, false, 0, 0, 0⟩) (by simp only [me, wantL, leArgs, leV, leV1, leSegs, leSeg, leC, leA, nthO, and_self]))) ?_ | (refine call_t _ (run_frame1 (con65 (nxt s) o (s.vs o.a.toNat) (s.vs o.b.toNat)) (by simp only [me, opL, leArgs, leV, leV1, leSegs, leSeg, leC, leA, nthO, and_self])) ?_; rintro v H' ⟨rfl, rfl⟩) | refine call_q _ (run_frame1 (con65 (nxt s) o (s.vs o.a.toNat) (s.vs o.b.toNat)) (by simp only [me, opL, wantL, leArgs, leV, leV1, leSegs, leSeg, leC, leA, nthO, and_self])) ?_ | refine call_g _ (imp_of (run_frame1 (con65 (nxt s) o (s.vs o.a.toNat) (s.vs o.b.toNat)) (by simp only [me, opL, leArgs, leV, leV1, leSegs, leSeg, leC, leA, nthO, and_self]))) ?_); simp (maxSteps := 10000000) only [rwp_nil, rwp_cons, rwpK_app, aop, gpath, St.get, slotAt, sfx, eqP, St.put, addBlk, getB, setB, st1, setRow, rowNeed, segAt, nsub, shed, addN, Nat.beq, Seg.size, sizes, imp, takeS, dropS, putS, nthA, strOk, plusA, exOk, Nat.reduceAdd, List.append_nil, List.nil_append, ite_int, ite_seg, ite_segs, ite_nil, Int.toNat_natCast]))); with_reducible refine hK _ ?_; clear hK K) | (refine run_cond rfl (fun hc => ?_) (fun hc => ?_) <;> try (simp only [*, Bool.true_eq_false, Bool.false_eq_true, Bool.not_true, Bool.not_false, Bool.true_or, Bool.or_true, Bool.false_or, Bool.or_false, Bool.false_and, Bool.and_false, bne_self_eq_false, beq_self_eq_true] at hc; done)) | refine run_block ?_ | refine run_ret ?_ | refine run_nil ?_ | refine blk_normal ?_ | refine blk_ret ?_ | refine blk_here ?_ | refine blk_there rfl ?_)
  all_goals
    subst hR
    try simp only [beq_iff_eq, beq_eq_false_iff_ne, ne_eq] at *
    refine end_run0 nofun (oneS s o) ?_ ?_ ?_ ⟨rfl, rfl⟩ <;> (simp only [oneS, *, if_true, if_false, Int.reduceEq, Bool.false_eq_true]; rfl)
end Go.Proofs.Ytmbnakinhnkabaa

namespace Go.Proofs.Ytmbnakinhnkabaa
open Go.AM
set_option maxRecDepth 100000
set_option linter.unusedSimpArgs false
set_option linter.unusedVariables false
theorem U_0 : U 0 := by unfold U; omega
theorem U_1 : U 1 := by unfold U; omega
theorem U_truth (b : Bool) : U (truthS b) := by cases b <;> first | exact U_0 | exact U_1
theorem U_dbl : ∀ (n : Nat) {a : Int}, U a → U (dblS n a)
  | 0, _, h => h
  | n + 1, a, _ => U_dbl n (U_wrap _)
theorem U_turn : ∀ (n : Nat) {a f : Int}, U a → U (turnS n a f)
  | 0, _, _, h => h
  | n + 1, a, f, _ => U_turn n (U_wrap _)
theorem ite_P {α : Type} {P : α → Prop} {c : Prop} [Decidable c] {a b : α} (h1 : P a) (h2 : P b) : P (if c then a else b) := by split <;> assumption
theorem U_ref {k a b : Int} (ha : U a) (hb : U b) : U (refR k a b).1 := by
  have h58 : U (f58 a b) := by unfold f58; exact ite_P (P := U) U_0 (U_wrap _)
  have hdiv : U (divS a b) := by unfold divS divQ; exact ite_P (P := U) U_0 (ite_P (P := U) (U_wrap _) (U_wrap _))
  show (fun r : Int × Bool => U r.1) (refR k a b)
  unfold refR
  repeat' (first
    | exact U_wrap _
    | exact h58
    | exact hdiv
    | exact U_truth _
    | exact U_dbl _ ha
    | exact U_turn _ ha
    | exact U_0 | refine ite_P (P := fun r : Int × Bool => U r.1) ?_ ?_)
structure RunOk (s : RS) : Prop where
  hr : rightS s.b = true
  wf : BlkWf s.b
  u : ∀ i, U (s.vs i)
  x : ∀ i, i < 31 → U (s.core.x i)
  sp : ∀ i, i < 2 → U (s.core.sp i)
  go : s.left = false → s.pos < s.b.n
theorem right_el {b : BlkS} (hr : rightS b = true) : 0 ≤ b.el ∧ b.el ≤ 1 := by
  unfold rightS head1 at hr
  simp only [Bool.and_eq_true, Bool.not_eq_true', Bool.or_eq_false_iff, decide_eq_false_iff_not] at hr
  omega
theorem ropS_ab {o : OpS} {m : Nat} {f : Nat → OpS} (h : ropS o m f = true) : (usesS o.kind < 1 → o.a = 0) ∧ (usesS o.kind < 2 → o.b = 0) ∧ rightF o = true := by
  unfold ropS fieldBad at h
  simp only [Bool.and_eq_true, Bool.not_eq_true', Bool.or_eq_false_iff, Bool.and_eq_false_iff, Bool.not_eq_false', bne_eq_false_iff_eq, decide_eq_false_iff_not] at h
  obtain ⟨⟨⟨⟨⟨⟨h1, _⟩, _⟩, _⟩, h2⟩, h3⟩, _⟩ := h
  exact ⟨fun hu => h2.resolve_left (fun h => h hu), fun hu => h3.resolve_left (fun h => h hu), h1⟩
theorem RunOk.fit {s : RS} (h : RunOk s) (hl : s.left = false) : FitO s (s.b.f s.pos) := by
  have hp := h.go hl
  have hn := right_n h.hr
  have hop := opsOk_at (right_ops h.hr) hp
  obtain ⟨ha, hb, hf⟩ := ropS_ab hop.1
  refine ⟨?_, ?_, hp, hn.2, fun hk => ?_, fun hk => ?_, right_el h.hr, h.u⟩
  · by_cases hu : usesS (s.b.f s.pos).kind < 1
    · rw [ha hu]; omega
    · obtain ⟨h1, h2, _⟩ := right_use h.hr hp (i := 0) (by omega)
      have e : useF (s.b.f s.pos) 0 = (s.b.f s.pos).a := rfl
      rw [e] at h1 h2
      omega
  · by_cases hu : usesS (s.b.f s.pos).kind < 2
    · rw [hb hu]; omega
    · obtain ⟨h1, h2, _⟩ := right_use h.hr hp (i := 1) (by omega)
      have e : useF (s.b.f s.pos) 1 = (s.b.f s.pos).b := rfl
      rw [e] at h1 h2
      omega
  · rcases hk with hk | hk <;> simpa [rightF, hk, upS] using hf
  · have : 0 ≤ (s.b.f s.pos).r ∧ (s.b.f s.pos).r ≤ 3 := by simpa [rightF, hk, upS] using hf
    omega
theorem one_b (s : RS) (o : OpS) : (oneS s o).b = s.b := by
  show (fun r : RS => r.b = s.b) (oneS s o)
  unfold oneS accR
  repeat' (first | exact rfl | refine ite_P (P := fun r : RS => r.b = s.b) ?_ ?_)
theorem one_pos (s : RS) (o : OpS) : (oneS s o).pos = s.pos + 1 := by
  show (fun r : RS => r.pos = s.pos + 1) (oneS s o)
  unfold oneS accR
  repeat' (first | exact rfl | refine ite_P (P := fun r : RS => r.pos = s.pos + 1) ?_ ?_)
theorem U_updI {g : Nat → Int} {k : Nat} {v : Int} {n : Nat} (h : ∀ i, i < n → U (g i)) (hv : U v) : ∀ i, i < n → U (updI g k v i) := fun i hi => by
  unfold updI; split
  · exact hv
  · exact h i hi
theorem flagS_x (c : CoreS) (r : Int) (b : Bool) : (flagS c r b).x = c.x ∧ (flagS c r b).sp = c.sp := by
  unfold flagS
  repeat' split
  all_goals exact ⟨rfl, rfl⟩
theorem one_u {s : RS} {o : OpS} (hu : ∀ i, U (s.vs i)) (hx : ∀ i, i < 31 → U (s.core.x i)) (hsp : ∀ i, i < 2 → U (s.core.sp i)) (hi : U o.imm) (hr : o.kind = 2 ∨ o.kind = 3 → 0 ≤ o.r ∧ o.r ≤ 30) (hel : 0 ≤ s.b.el ∧ s.b.el ≤ 1) :
    (∀ i, U ((oneS s o).vs i)) ∧ (∀ i, i < 31 → U ((oneS s o).core.x i)) ∧ ∀ i, i < 2 → U ((oneS s o).core.sp i) := by
  have hV : ∀ v, U v → (∀ i, U ((setV (nxt s) s.pos v).vs i)) ∧ (∀ i, i < 31 → U ((setV (nxt s) s.pos v).core.x i)) ∧ ∀ i, i < 2 → U ((setV (nxt s) s.pos v).core.sp i) := fun v hv =>
    ⟨fun i => by show U (updI s.vs s.pos v i); unfold updI; split; exact hv; exact hu i, hx, hsp⟩
  unfold oneS
  by_cases h1 : o.kind = 1
  · rw [if_pos h1]; exact hV _ hi
  rw [if_neg h1]
  by_cases h2 : o.kind = 2
  · rw [if_pos h2]; exact hV _ (hx _ (by have := hr (.inl h2); omega))
  rw [if_neg h2]
  by_cases h3 : o.kind = 3
  · rw [if_pos h3]; exact ⟨hu, U_updI hx (hu _), hsp⟩
  rw [if_neg h3]
  by_cases h4 : o.kind = 4
  · rw [if_pos h4]; exact hV _ (hsp _ (by omega))
  rw [if_neg h4]
  by_cases h5 : o.kind = 5
  · rw [if_pos h5]; exact ⟨hu, hx, U_updI hsp (hu _)⟩
  rw [if_neg h5]
  by_cases h6 : o.kind = 6
  · rw [if_pos h6]; exact hV _ (by split; exact U_1; exact U_0)
  rw [if_neg h6]
  by_cases h7 : o.kind = 7
  · rw [if_pos h7]
    obtain ⟨e1, e2⟩ := flagS_x s.core o.r (s.vs o.a.toNat != 0)
    exact ⟨hu, fun i h => by show U ((flagS s.core o.r _).x i); rw [e1]; exact hx i h, fun i h => by show U ((flagS s.core o.r _).sp i); rw [e2]; exact hsp i h⟩
  rw [if_neg h7]
  by_cases h8 : o.kind = 8
  · rw [if_pos h8]; exact hV _ (U_ref (hu _) (hu _))
  rw [if_neg h8]
  unfold accR
  repeat' split
  all_goals exact ⟨hu, hx, hsp⟩
theorem one_left {s : RS} {o : OpS} (h : endS o.kind = true) : (oneS s o).left = true := by
  unfold endS at h
  simp only [Bool.or_eq_true, beq_iff_eq] at h
  unfold oneS
  rcases h with (h | h) | h <;> rw [h] <;> rfl
theorem RunOk.one {s : RS} (h : RunOk s) (hl : s.left = false) : RunOk (oneS s (s.b.f s.pos)) := by
  have hp := h.go hl
  have hf := h.fit hl
  obtain ⟨h1, h2, h3⟩ := one_u (s := s) (o := s.b.f s.pos) h.u h.x h.sp (by have := (h.wf.ops _ hp).imm; unfold U; omega) hf.x hf.el
  refine ⟨by rw [one_b]; exact h.hr, by rw [one_b]; exact h.wf, h1, h2, h3, fun hl' => ?_⟩
  rw [one_b, one_pos]
  have he := (opsOk_at (right_ops h.hr) hp).2
  by_cases e : endS (s.b.f s.pos).kind = true
  · rw [one_left e] at hl'; cases hl'
  · have e' : endS (s.b.f s.pos).kind = false := by simpa using e
    rw [e'] at he
    have := of_decide_eq_false he.symm
    omega
def nextN : Nat → RS → RS
  | 0, s => s
  | t + 1, s => if (!s.left && !s.waits) = true then nextN t (oneS s (s.b.f s.pos)) else s
def nextS (s : RS) : RS := nextN (s.b.n + 1 - s.pos) s
def want0 : WantS := ⟨0, 0, 0, 0, false, 0, false, 0, 0, 0⟩
def wantB (w : WantS) : Blk := ⟨10, none, fun _ => wantL w, 49, true⟩
theorem want_le {l : List Nat} (w : WantS) : leB l (wantB w) (wantB w) := ⟨rfl, rfl, id, Nat.le_refl _, fun _ _ => by simp only [wantB, wantL, leSegs, leSeg, leC, and_self]⟩
theorem nextN_stop {s : RS} (h : (!s.left && !s.waits) = false) : ∀ t, nextN t s = s
  | 0 => rfl
  | t + 1 => by simp only [nextN, h, Bool.false_eq_true, if_false]
def retNx (s : RS) : AV := .tup [.agg (wantL (if s.waits = true then s.want else want0)), .c (.bool s.waits)]
def nxSt (s : RS) : St := ⟨[⟨2, [], .c (.ptr ⟨3, 0, 0, 0⟩)⟩, ⟨3, [], .c (.bool false)⟩, ⟨0, [], .c (.ptr ⟨0, 0, 0, 0⟩)⟩], ⟨4, (3, wantB want0) :: (runH s).blks⟩⟩
theorem end_nx {l : List Slot} {H : Heap} {R : Post} (s : RS) (w : WantS) (c : Bool) (hw : w = if s.waits = true then s.want else want0) (hc : c = s.waits) (s2 : slotAt l 2 = some ⟨2, [], .c (.ptr ⟨3, 0, 0, 0⟩)⟩) (s3 : slotAt l 3 = some ⟨3, [], .c (.bool c)⟩) (g3 : getB H.blks 3 = some (wantB w)) (g0 : getB H.blks 0 = some (runB s)) (g1 : getB H.blks 1 = some (runO s)) (g2 : getB H.blks 2 = some (runV s))
    (hR : ∀ w', w' = w → R (retNx s) ⟨4, (3, wantB w') :: (runH s).blks⟩) : endQ (LeS 3) [.cn 10 2, .tmp 3] R .ret ⟨l, H⟩ := by
  have hr : retNx s = .tup [.agg (wantL w), .c (.bool c)] := by unfold retNx; rw [← hw, ← hc]
  refine end_of ⟨[⟨2, [], .c (.ptr ⟨3, 0, 0, 0⟩)⟩, ⟨3, [], .c (.bool c)⟩], ⟨4, (3, wantB w) :: (runH s).blks⟩⟩ (LeS.intro [0, 1, 2, 3] ids3 (by simp only [diff, notIn, Nat.beq, and_self]) rfl (by simp only [slotsLe, s2, s3, leV, leV1, leC, leA, nthO, and_self]) ?_) ?_
  · simp only [runH, leBlks, nthO, g3, g0, g1, g2]
    exact ⟨want_le w, run_le ids012 s, ro_le s, rv_le s, trivial⟩
  · have := hR w rfl
    rw [hr] at this
    simp only [endF, resL, resA, St.get, slotAt, sfx, eqP, ldn, getB, wantB, wantL, rowNeed, cut, dropS, takeS, Seg.size, nsub, noTup, resV] at this ⊢
    exact this
set_option maxHeartbeats 16000000 in
theorem con19_0 (s : RS) (h : RunOk s) : Con Try.prog 19 [me] (runH s) (fun v H' => v = retNx (nextS s) ∧ H' = ⟨4, (3, wantB (if (nextS s).waits = true then (nextS s).want else want0)) :: (runH (nextS s)).blks⟩) := by
  (refine con_of_run mixed (fn := Try.f19) (by kernel_rfl) (by kernel_rfl) C19_ok (rs := [.cn 10 2, .tmp 3]) (by kernel_rfl) (Nat.le_of_ble_eq_true (by kernel_rfl)) ?_; unfold C19; simp only [initT])
  generalize hT : nextS s = T
  generalize hR : (fun (v : AV) (H' : Heap) => v = retNx T ∧ H' = ⟨4, (3, wantB (if T.waits = true then T.want else want0)) :: (runH T).blks⟩) = R
  simp only [me]
  refine run_seq ?_
  (refine run_regionL fun K hK => ?_; (try (simp (maxSteps := 10000000) only [runH, C19r0, rwp_nil, rwp_cons, aop, gpath, St.get, St.put, addBlk, shed, Seg.size, sizes, Nat.reduceAdd])); (repeat (first | (refine And.intro ?_ ?_; · first | trivial | assumption | omega))); refine hK _ (nxSt s) (LeS.intro [0, 1, 2, 3] ids3 (by simp only [diff, notIn, Nat.beq, and_self]) rfl (by simp only [nxSt, slotsLe, slotAt, leV, leV1, leC, leA, nthO, and_self]) ⟨want_le want0, run_le ids012 s, ro_le s, rv_le s, trivial⟩) ?_; clear hK K)
  refine run_seq (run_block ?_)
  refine run_loop (fun m st => ∃ s', m = s'.b.n + 1 - s'.pos ∧ RunOk s' ∧ nextN m s' = T ∧ st = nxSt s') (s.b.n + 1 - s.pos) ⟨s, rfl, h, hT, rfl⟩ ?_
  rintro m st ⟨s', hm, hok, hnx, rfl⟩
  have hfit : (!s'.left && !s'.waits) = true → FitO s' (s'.b.f s'.pos) := fun hc => hok.fit (by simp only [Bool.and_eq_true, Bool.not_eq_true'] at hc; exact hc.1)
  have hgo : (!s'.left && !s'.waits) = true → s'.pos < s'.b.n := fun hc => (hfit hc).pos
  unfold nxSt
  simp only [runH, runB, runL, runO, runV, wantB]
  repeat' (first | refine run_seq ?_ | refine run_skip ?_ | (refine run_region fun K hK => ?_; (try (simp (maxSteps := 10000000) only [opL, C19r1, C19r2, C19r3, C19r4, C19r5, rwp_nil, rwp_cons, aop, gpath, St.get, slotAt, sfx, eqP, St.put, addBlk, getB, setB, ld1, ldn, stn, setRow, rowNeed, segAt, nsub, un, getsl, selB_and, beqb, shed, addN, Nat.beq, Seg.size, sizes, imp, appL, argsOf, ptrsOf, cut, takeS, dropS, putS, partsOf, fillS, strOk, plusA, exOk, Nat.reduceAdd, List.nil_append, List.cons_append, Int.toNat_natCast])); (repeat (first | (refine And.intro ?_ ?_; · (first | trivial | assumption | (have := hgo hc; omega) | (intros; first | trivial | (have := hgo hc; omega)))) | ((first | (refine call_t _ (run_frame1 (con45 s' (s'.b.f s'.pos) (hfit hc)) (by simp only [me, opL, leArgs, leV, leV1, leSegs, leSeg, leC, leA, nthO, and_self])) ?_; rintro v H' ⟨rfl, rfl⟩) | refine call_q _ (run_frame1 (con45 s' (s'.b.f s'.pos) (hfit hc)) (by simp only [me, opL, wantL, leArgs, leV, leV1, leSegs, leSeg, leC, leA, nthO, and_self])) ?_ | refine call_g _ (imp_of (run_frame1 (con45 s' (s'.b.f s'.pos) (hfit hc)) (by simp only [me, opL, leArgs, leV, leV1, leSegs, leSeg, leC, leA, nthO, and_self]))) ?_); simp (maxSteps := 10000000) only [rwp_nil, rwpK_app, St.put, shed]))); with_reducible refine hK _ ?_; clear hK K) | (refine run_cond rfl (fun hc => ?_) (fun hc => ?_) <;> try (simp only [*, Bool.true_eq_false, Bool.false_eq_true, Bool.not_true, Bool.not_false, Bool.true_or, Bool.or_true, Bool.false_or, Bool.or_false, Bool.false_and, Bool.and_false, bne_self_eq_false, beq_self_eq_true] at hc; done)) | refine run_block ?_ | refine run_ret ?_ | refine run_nil ?_ | refine run_exit ?_ | refine blk_normal ?_ | refine blk_ret ?_ | refine blk_here ?_ | refine blk_there rfl ?_ | refine loop_exit ?_ | refine loop_ret ?_ | refine un_exit ?_ | refine un_ret ?_ | refine unE_exit ?_ | refine unE_ret ?_ | refine un_normal ?_)
  · have hl : s'.left = false := by simp only [Bool.and_eq_true, Bool.not_eq_true'] at hc; exact hc.1
    have hp := hok.go hl
    refine loop_normal (s'.b.n + 1 - (s'.pos + 1)) (nxSt (oneS s' (s'.b.f s'.pos))) (by omega) (LeS.intro [0, 1, 2, 3] ids3 (by simp only [diff, notIn, Nat.beq, and_self]) rfl (by simp only [nxSt, slotsLe, slotAt, leV, leV1, leC, leA, nthO, and_self]) ⟨want_le want0, run_le ids012 _, ro_le _, rv_le _, trivial⟩) ⟨_, ?_, hok.one hl, ?_, rfl⟩
    · rw [one_b, one_pos]
    · rw [← hnx, hm, show s'.b.n + 1 - s'.pos = (s'.b.n + 1 - (s'.pos + 1)) + 1 by omega]
      simp only [nextN, hc, if_true]
  · have hst : s' = T := by rw [← hnx]; exact (nextN_stop (by assumption) _).symm
    subst hst
    subst hR
    repeat' (first | refine run_seq ?_ | refine run_skip ?_ | (refine run_region fun K hK => ?_; (try (simp (maxSteps := 10000000) only [wantL, want0, C19r4, rwp_nil, rwp_cons, aop, gpath, St.get, slotAt, sfx, eqP, St.put, addBlk, getB, setB, ldn, stn, setRow, rowNeed, nsub, shed, addN, Nat.beq, Seg.size, sizes, cut, takeS, dropS, putS, exOk, Nat.reduceAdd, List.append_nil, List.nil_append])); (repeat (first | (refine And.intro ?_ ?_; · first | trivial | assumption | omega))); with_reducible refine hK _ ?_; clear hK K) | (refine run_cond rfl (fun hc => ?_) (fun hc => ?_) <;> try (simp only [*, Bool.true_eq_false, Bool.false_eq_true, Bool.not_true, Bool.not_false, Bool.true_or, Bool.or_true, Bool.false_or, Bool.or_false, Bool.false_and, Bool.and_false, bne_self_eq_false, beq_self_eq_true] at hc; done)) | refine run_block ?_ | refine run_ret ?_ | refine run_nil ?_ | refine run_exit ?_ | refine blk_normal ?_ | refine blk_ret ?_ | refine blk_here ?_ | refine blk_there rfl ?_ | refine loop_exit ?_ | refine loop_ret ?_ | refine un_exit ?_ | refine un_ret ?_ | refine unE_exit ?_ | refine unE_ret ?_ | refine un_normal ?_)
    exact end_nx s' s'.want true (by rw [hc]; rfl) hc.symm rfl rfl rfl rfl rfl rfl (fun w hw => ⟨rfl, by rw [hw, hc]; rfl⟩)
  · have hst : s' = T := by rw [← hnx]; exact (nextN_stop (by assumption) _).symm
    subst hst
    subst hR
    repeat' (first | refine run_seq ?_ | refine run_skip ?_ | (refine run_region fun K hK => ?_; (try (simp (maxSteps := 10000000) only [wantL, want0, partsOf, fillS, C19r5, rwp_nil, rwp_cons, aop, gpath, St.get, slotAt, sfx, eqP, St.put, addBlk, getB, setB, stn, setRow, rowNeed, nsub, shed, Nat.beq, Seg.size, sizes, takeS, dropS, putS, partsOf, fillS, exOk, Nat.reduceAdd, List.append_nil, List.nil_append])); (repeat (first | (refine And.intro ?_ ?_; · first | trivial | assumption | omega))); with_reducible refine hK _ ?_; clear hK K) | (refine run_cond rfl (fun hc => ?_) (fun hc => ?_) <;> try (simp only [*, Bool.true_eq_false, Bool.false_eq_true, Bool.not_true, Bool.not_false, Bool.true_or, Bool.or_true, Bool.false_or, Bool.or_false, Bool.false_and, Bool.and_false, bne_self_eq_false, beq_self_eq_true] at hc; done)) | refine run_block ?_ | refine run_ret ?_ | refine run_nil ?_ | refine run_exit ?_ | refine blk_normal ?_ | refine blk_ret ?_ | refine blk_here ?_ | refine blk_there rfl ?_ | refine loop_exit ?_ | refine loop_ret ?_ | refine un_exit ?_ | refine un_ret ?_ | refine unE_exit ?_ | refine unE_ret ?_ | refine un_normal ?_)
    exact end_nx s' want0 false (by rw [hc]; rfl) hc.symm rfl rfl rfl rfl rfl rfl (fun w hw => ⟨rfl, by rw [hw, hc]; rfl⟩)
theorem con19 (s : RS) (h : RunOk s) : Con Try.prog 19 [me] (runH s) (fun v H' => v = retNx (nextS s) ∧ H' = runH (nextS s)) := by
  refine Con.forget (con19_0 s h) ?_
  rintro v H' ⟨rfl, rfl⟩
  refine ⟨_, runH (nextS s), [0, 1, 2], ids3, diff3, rfl, ?_, ?_, rfl, rfl⟩
  · exact ⟨run_le ids012 _, ro_le _, rv_le _, trivial⟩
  · simp only [retNx, wantL, leV, leV1, leVL, leSegs, leSeg, leC, and_self]
end Go.Proofs.Ytmbnakinhnkabaa

namespace Go.Proofs.Ytmbnakinhnkabaa
open Go.AM
set_option maxRecDepth 100000
set_option linter.unusedSimpArgs false
set_option linter.unusedVariables false
theorem ofInt_nat (a : Nat) (h : a < 18446744073709551616) : (BitVec.ofInt IntKind.u64.bits (a : Int)).toNat = a := by
  show (BitVec.ofInt 64 (a : Int)).toNat = a
  rw [BitVec.ofInt_natCast, BitVec.toNat_ofNat]
  exact Nat.mod_eq_of_lt (by omega)
theorem U_nat {x : Int} (h : U x) : ∃ n : Nat, x = n ∧ n < 18446744073709551616 := ⟨x.toNat, by obtain ⟨h0, h1⟩ := h; omega, by obtain ⟨h0, h1⟩ := h; omega⟩
theorem b63_eq (b : Nat) (h : b < 18446744073709551616) : b63 (b : Int) = ((b % 64 : Nat) : Int) := by
  unfold b63
  rw [BitVec.toNat_and, ofInt_nat b h, show (63 : Int) = ((63 : Nat) : Int) from rfl, ofInt_nat 63 (by omega)]
  have : b &&& 63 = b % 64 := Nat.and_two_pow_sub_one_eq_mod b 6
  rw [this, uwrap]
  omega
theorem by64_eq (b : Nat) (h : b < 18446744073709551616) : by64 (b : Int) = ((b % 64 : Nat) : Int) := by
  unfold by64
  rw [IntKind.wrap_i64, Int.tmod_eq_emod_of_nonneg (by omega)]
  omega
theorem minb (n : Nat) (h : n < 64) : min ((n : Int)).toNat IntKind.u64.bits = n := by
  rw [Int.toNat_natCast]
  exact Nat.min_eq_left (by show n ≤ 64; omega)
theorem minb' (n : Nat) (h : n < 64) : min ((n : Int)).toNat IntKind.i64.bits = n := by
  rw [Int.toNat_natCast]
  exact Nat.min_eq_left (by show n ≤ 64; omega)
theorem dbl_eq : ∀ (n : Nat) (a : Int), 0 ≤ a → a < 18446744073709551616 → dblS n a = (a * 2 ^ n) % 18446744073709551616
  | 0, a, h0, h1 => by simp only [dblS, Int.pow_zero, Int.mul_one]; exact (Int.emod_eq_of_lt h0 h1).symm
  | n + 1, a, h0, h1 => by
    simp only [dblS, uwrap]
    rw [dbl_eq n _ (by omega) (by omega), Int.mul_emod, Int.emod_emod, ← Int.mul_emod, show (a + a) * 2 ^ n = a * 2 ^ (n + 1) by rw [Int.pow_succ, ← Int.two_mul, Int.mul_comm 2 a, Int.mul_assoc, Int.mul_comm 2 (2 ^ n)]]
theorem eq9 (a b : Nat) (ha : a < 18446744073709551616) (hb : b < 18446744073709551616) : dblS (by64 (b : Int)).toNat (a : Int) = f60 a b := by
  rw [by64_eq b hb, Int.toNat_natCast, dbl_eq _ _ (by omega) (by omega)]
  unfold f60
  rw [b63_eq b hb, minb _ (Nat.mod_lt _ (by omega)), uwrap]
theorem turn0 (a : Nat) (ha : a < 18446744073709551616) : turn1 (a : Int) 0 = ((a / 2 : Nat) : Int) := by
  unfold turn1 topS
  simp only [uwrap]
  rw [if_neg (by decide), Int.tdiv_eq_ediv_of_nonneg (by omega)]
  omega
theorem turnS0 : ∀ (n a : Nat), a < 18446744073709551616 → turnS n (a : Int) 0 = ((a / 2 ^ n : Nat) : Int)
  | 0, a, _ => by simp [turnS]
  | n + 1, a, h => by
    simp only [turnS]
    rw [turn0 a h, turnS0 n (a / 2) (by omega), Nat.div_div_eq_div_mul, Nat.pow_succ, Nat.mul_comm]
theorem eq10 (a b : Nat) (ha : a < 18446744073709551616) (hb : b < 18446744073709551616) : turnS (by64 (b : Int)).toNat (a : Int) 0 = f61 a b := by
  rw [by64_eq b hb, Int.toNat_natCast, turnS0 _ _ ha]
  unfold f61
  rw [b63_eq b hb, minb _ (Nat.mod_lt _ (by omega)), Int.fdiv_eq_ediv_of_nonneg _ (by exact Int.pow_nonneg (by decide))]
  simp
theorem sh63_eq (a : Nat) (h : a < 18446744073709551616) : sh63 (a : Int) = ((a / 9223372036854775808 : Nat) : Int) := by
  unfold sh63
  rw [Int.fdiv_eq_ediv_of_nonneg _ (by decide)]
  simp
theorem turn1' (x : Int) (h0 : -9223372036854775808 ≤ x) (h1 : x < 0) : turn1 (x + 18446744073709551616) 1 = x / 2 + 18446744073709551616 := by
  unfold turn1 topS
  simp only [uwrap]
  rw [if_neg (by decide), Int.tdiv_eq_ediv_of_nonneg (by omega)]
  omega
theorem turnS1 : ∀ (n : Nat) (x : Int), -9223372036854775808 ≤ x → x < 0 → turnS n (x + 18446744073709551616) 1 = x / 2 ^ n + 18446744073709551616
  | 0, x, _, _ => by simp [turnS]
  | n + 1, x, h0, h1 => by
    simp only [turnS]
    rw [turn1' x h0 h1, turnS1 n (x / 2) (by omega) (by omega), Int.ediv_ediv_of_nonneg (by decide), Int.pow_succ, Int.mul_comm 2]
theorem eq11 (a b : Nat) (ha : a < 18446744073709551616) (hb : b < 18446744073709551616) : turnS (by64 (b : Int)).toNat (a : Int) (IntKind.i64.wrap (sh63 a)) = f62 a b := by
  rw [by64_eq b hb, Int.toNat_natCast, sh63_eq a ha]
  unfold f62
  rw [b63_eq b hb, minb' _ (Nat.mod_lt _ (by omega)), Int.fdiv_eq_ediv_of_nonneg _ (by exact Int.pow_nonneg (by decide))]
  generalize b % 64 = n
  by_cases h : a < 9223372036854775808
  · have e : a / 9223372036854775808 = 0 := by omega
    rw [e, IntKind.wrap_i64, IntKind.wrap_i64]
    rw [show (((0 : Nat) : Int) + 9223372036854775808) % 18446744073709551616 - 9223372036854775808 = 0 by decide]
    rw [turnS0 n a ha, show ((a : Int) + 9223372036854775808) % 18446744073709551616 - 9223372036854775808 = a by omega, uwrap]
    have : a / 2 ^ n ≤ a := Nat.div_le_self _ _
    have e2 : (a : Int) / 2 ^ n = ((a / 2 ^ n : Nat) : Int) := by simp
    rw [e2]
    clear e2
    generalize a / 2 ^ n = q at *
    omega
  · have e : a / 9223372036854775808 = 1 := by omega
    rw [e, IntKind.wrap_i64, IntKind.wrap_i64]
    rw [show (((1 : Nat) : Int) + 9223372036854775808) % 18446744073709551616 - 9223372036854775808 = 1 by decide]
    obtain ⟨x, hx⟩ : ∃ x : Int, x = (a : Int) - 18446744073709551616 := ⟨_, rfl⟩
    rw [show ((a : Int) + 9223372036854775808) % 18446744073709551616 - 9223372036854775808 = x by omega, show (a : Int) = x + 18446744073709551616 by omega, turnS1 n x (by omega) (by omega), uwrap]
    have hp : (0 : Int) < 2 ^ n := Int.pow_pos (by decide)
    have h1 : x / 2 ^ n < 0 := Int.ediv_neg_of_neg_of_pos (by omega) hp
    have h2 : x ≤ x / 2 ^ n := by
      have h3 : x * 2 ^ n ≤ x := by
        have : (1 : Int) ≤ 2 ^ n := hp
        have := Int.mul_le_mul_of_nonpos_left (a := x) (by omega) this
        omega
      exact (Int.le_ediv_iff_mul_le hp).2 h3
    omega
theorem xor63 (a : Nat) (h : a < 18446744073709551616) : a ^^^ 9223372036854775808 = (a + 9223372036854775808) % 18446744073709551616 := by
  apply Nat.eq_of_testBit_eq
  intro i
  rw [Nat.testBit_xor, show (9223372036854775808 : Nat) = 2 ^ 63 from rfl, Nat.testBit_two_pow, show (18446744073709551616 : Nat) = 2 ^ 64 from rfl, Nat.testBit_mod_two_pow, Nat.add_comm]
  by_cases h1 : i < 63
  · rw [Nat.testBit_two_pow_add_gt h1]
    have : ¬ 63 = i := by omega
    simp [this, show i < 64 by omega]
  · by_cases h2 : i = 63
    · subst h2
      rw [Nat.testBit_two_pow_add_eq]
      simp
    · have h3 : ¬ i < 64 := by omega
      have h4 : ¬ 63 = i := by omega
      have h5 : a.testBit i = false := Nat.testBit_lt_two_pow (Nat.lt_of_lt_of_le h (by
        have : 2 ^ 64 ≤ 2 ^ i := Nat.pow_le_pow_right (by decide) (by omega)
        exact this))
      simp [h3, h4, h5]
theorem below_eq (a b : Nat) (ha : a < 18446744073709551616) (hb : b < 18446744073709551616) : belowS (a : Int) b = decide (IntKind.i64.wrap (a : Int) < IntKind.i64.wrap b) := by
  unfold belowS
  rw [BitVec.toNat_xor, BitVec.toNat_xor, ofInt_nat a ha, ofInt_nat b hb, show (9223372036854775808 : Int) = ((9223372036854775808 : Nat) : Int) from rfl, ofInt_nat 9223372036854775808 (by omega), xor63 a ha, xor63 b hb]
  simp only [uwrap, IntKind.wrap_i64]
  rw [decide_eq_decide]
  omega
theorem turn2 (a : Nat) (ha : a < 18446744073709551616) : turn1 (a : Int) 2 = ((a / 2 + a % 2 * 9223372036854775808 : Nat) : Int) := by
  unfold turn1 topS
  simp only [uwrap]
  rw [if_pos trivial, Int.tdiv_eq_ediv_of_nonneg (by omega), Int.tmod_eq_emod_of_nonneg (by omega)]
  omega
theorem p63 (n : Nat) (h : n ≤ 63) : 9223372036854775808 = 2 ^ n * 2 ^ (63 - n) := by
  rw [← Nat.pow_add, show n + (63 - n) = 63 by omega]
theorem rot_step (K n a : Nat) (hn : n ≤ 62) (e : K = 2 ^ n * 2 ^ (63 - n)) : (a / 2 + a % 2 * K) / 2 ^ n + (a / 2 + a % 2 * K) % 2 ^ n * 2 ^ (64 - n) = a / 2 ^ (n + 1) + a % 2 ^ (n + 1) * 2 ^ (64 - (n + 1)) := by
  have hp : 0 < 2 ^ n := Nat.pow_pos (by decide)
  have d1 : (a / 2 + a % 2 * K) / 2 ^ n = a / 2 / 2 ^ n + a % 2 * 2 ^ (63 - n) := by
    rw [e, show a % 2 * (2 ^ n * 2 ^ (63 - n)) = 2 ^ n * (a % 2 * 2 ^ (63 - n)) by rw [Nat.mul_left_comm], Nat.add_mul_div_left _ _ hp]
  have d2 : (a / 2 + a % 2 * K) % 2 ^ n = a / 2 % 2 ^ n := by
    rw [e, show a % 2 * (2 ^ n * 2 ^ (63 - n)) = 2 ^ n * (a % 2 * 2 ^ (63 - n)) by rw [Nat.mul_left_comm], Nat.add_mul_mod_self_left]
  have d3 : a % 2 ^ (n + 1) = a % 2 + 2 * (a / 2 % 2 ^ n) := by rw [Nat.pow_succ, Nat.mul_comm, Nat.mod_mul]
  have d4 : 2 ^ (64 - n) = 2 * 2 ^ (63 - n) := by rw [show 64 - n = (63 - n) + 1 by omega, Nat.pow_succ, Nat.mul_comm]
  have d5 : a / 2 ^ (n + 1) = a / 2 / 2 ^ n := by rw [Nat.div_div_eq_div_mul, Nat.pow_succ, Nat.mul_comm (2 ^ n)]
  rw [d1, d2, d3, d4, d5, show 64 - (n + 1) = 63 - n by omega, Nat.add_mul, Nat.mul_assoc, Nat.mul_left_comm (a / 2 % 2 ^ n) 2, Nat.add_assoc]
theorem turnS_succ (n : Nat) (a f : Int) : turnS (n + 1) a f = turnS n (turn1 a f) f := by simp only [turnS]
theorem turn_gen (K M : Nat) (hstep : ∀ a : Nat, a < M → turn1 (a : Int) 2 = ((a / 2 + a % 2 * K : Nat) : Int)) (hK : ∀ n, n ≤ 63 → K = 2 ^ n * 2 ^ (63 - n)) (hM : ∀ a, a < M → a / 2 + a % 2 * K < M) (L : Nat → Nat) (hL : ∀ n, L n = 2 ^ (64 - n)) (n : Nat) :
    ∀ a : Nat, n ≤ 63 → a < M → turnS n (a : Int) 2 = ((a / 2 ^ n + a % 2 ^ n * L n : Nat) : Int) := by
  induction n with
  | zero =>
    intro a _ _
    have : a / 2 ^ 0 + a % 2 ^ 0 * L 0 = a := by rw [Nat.pow_zero, Nat.div_one, Nat.mod_one, Nat.zero_mul, Nat.add_zero]
    rw [this]
    rfl
  | succ n ih =>
    intro a hn h
    have h2 : n ≤ 62 := Nat.le_of_succ_le_succ hn
    have h3 : n ≤ 63 := Nat.le_of_succ_le hn
    have h4 := ih _ h3 (hM a h)
    have hs := rot_step K n a h2 (hK n h3)
    rw [← hL n, ← hL (n + 1)] at hs
    exact (turnS_succ n a 2).trans ((congrArg (fun x => turnS n x 2) (hstep a h)).trans (h4.trans (congrArg (fun z : Nat => (z : Int)) hs)))
theorem turnS2 (n a : Nat) (hn : n ≤ 63) (h : a < 18446744073709551616) : turnS n (a : Int) 2 = ((a / 2 ^ n + a % 2 ^ n * 2 ^ (64 - n) : Nat) : Int) :=
  turn_gen 9223372036854775808 18446744073709551616 turn2 p63 (fun a h => by omega) (fun n => 2 ^ (64 - n)) (fun _ => rfl) n a hn h
theorem ror_gen (M a n k : Nat) (hM : M = 2 ^ n * 2 ^ k) (ha : a < M) : (a * 2 ^ k) % M ||| a / 2 ^ n = a / 2 ^ n + a % 2 ^ n * 2 ^ k := by
  have h1 : a * 2 ^ k % M = a % 2 ^ n * 2 ^ k := by rw [hM, Nat.mul_mod_mul_right]
  have h2 : a / 2 ^ n < 2 ^ k := Nat.div_lt_of_lt_mul (by rw [← hM]; exact ha)
  rw [h1, Nat.mul_comm (a % 2 ^ n), ← Nat.two_pow_add_eq_or_of_lt h2, Nat.add_comm]
theorem wrap_nat (x : Nat) : IntKind.u64.wrap (x : Int) = ((x % 18446744073709551616 : Nat) : Int) := by
  rw [uwrap]; omega
theorem rot_gen (a s : Nat) (ha : a < 18446744073709551616) (hs : s ≤ 64) (c : Int) (hc : b63 (IntKind.u64.wrap c) = ((64 - s : Nat) : Int)) (h0 : 1 ≤ s) : rotS a c = ((a / 2 ^ s + a % 2 ^ s * 2 ^ (64 - s) : Nat) : Int) := by
  unfold rotS
  rw [hc]
  have e1 : min (((64 - s : Nat) : Int)).toNat IntKind.u64.bits = 64 - s := by
    rw [Int.toNat_natCast]; exact Nat.min_eq_left (by show 64 - s ≤ 64; omega)
  have e2 : IntKind.u64.wrap (64 - ((64 - s : Nat) : Int)) = ((s : Nat) : Int) := by rw [uwrap]; omega
  have e3 : min ((s : Int)).toNat IntKind.u64.bits = s := by
    rw [Int.toNat_natCast]; exact Nat.min_eq_left (by show s ≤ 64; omega)
  rw [e1, e2, e3]
  have e4 : (a : Int) * 2 ^ (64 - s) = ((a * 2 ^ (64 - s) : Nat) : Int) := by
    rw [Int.natCast_mul, Int.natCast_pow]; rfl
  have e5 : (a : Int).fdiv (2 ^ s) = ((a / 2 ^ s : Nat) : Int) := by
    rw [Int.fdiv_eq_ediv_of_nonneg _ (by exact Int.pow_nonneg (by decide))]; simp
  rw [e4, e5]
  have e6 : (18446744073709551616 : Nat) = 2 ^ s * 2 ^ (64 - s) := by
    rw [← Nat.pow_add, show s + (64 - s) = 64 by omega]
  have e7 : a / 2 ^ s < 18446744073709551616 := Nat.lt_of_le_of_lt (Nat.div_le_self _ _) ha
  rw [wrap_nat (a * 2 ^ (64 - s)), BitVec.toNat_or, ofInt_nat _ (Nat.mod_lt _ (by omega)), ofInt_nat _ e7, ror_gen _ a s (64 - s) e6 ha, wrap_nat]
  have e8 : a / 2 ^ s + a % 2 ^ s * 2 ^ (64 - s) < 18446744073709551616 := by
    have h1 : a / 2 ^ s < 2 ^ (64 - s) := Nat.div_lt_of_lt_mul (by rw [← e6]; exact ha)
    have h2 : a % 2 ^ s + 1 ≤ 2 ^ s := Nat.mod_lt _ (Nat.pow_pos (by decide))
    have h3 : (a % 2 ^ s + 1) * 2 ^ (64 - s) ≤ 2 ^ s * 2 ^ (64 - s) := Nat.mul_le_mul_right _ h2
    rw [← e6, Nat.add_mul, Nat.one_mul] at h3
    clear e6 e4 e5 e1 e3
    generalize a / 2 ^ s = p at *
    generalize a % 2 ^ s * 2 ^ (64 - s) = q at *
    generalize 2 ^ (64 - s) = r at *
    omega
  rw [Nat.mod_eq_of_lt e8]
theorem eq12 (a b : Nat) (ha : a < 18446744073709551616) (hb : b < 18446744073709551616) : turnS (by64 (b : Int)).toNat (a : Int) 2 = f63 a b := by
  have hlt : b % 64 < 64 := Nat.mod_lt _ (by omega)
  rw [by64_eq b hb, Int.toNat_natCast]
  unfold f63
  rw [b63_eq b hb]
  generalize b % 64 = n at *
  have e1 : IntKind.i64.wrap ((n : Nat) : Int) = n := by rw [IntKind.wrap_i64]; omega
  have e2 : IntKind.i64.wrap (0 - (n : Int)) = 0 - (n : Int) := by rw [IntKind.wrap_i64]; omega
  rw [e1, e2]
  by_cases h0 : n = 0
  · subst h0
    have hc : b63 (IntKind.u64.wrap (0 - ((0 : Nat) : Int))) = ((64 - 64 : Nat) : Int) := by decide
    rw [rot_gen a 64 ha (by omega) _ hc (by omega)]
    have d1 : a / 2 ^ 64 = 0 := Nat.div_eq_of_lt ha
    have d2 : a % 2 ^ 64 = a := Nat.mod_eq_of_lt ha
    rw [d1, d2, Nat.sub_self, Nat.pow_zero, Nat.mul_one, Nat.zero_add]
    rfl
  · have hu : IntKind.u64.wrap (0 - (n : Int)) = ((18446744073709551616 - n : Nat) : Int) := by rw [uwrap]; omega
    have hc : b63 (IntKind.u64.wrap (0 - (n : Int))) = ((64 - n : Nat) : Int) := by
      rw [hu, b63_eq _ (by omega)]
      congr 1
      omega
    rw [rot_gen a n ha (by omega) _ hc (by omega), turnS2 n a (by omega) ha]
theorem divX_lo (a : Nat) (h : a < 9223372036854775808) : divX (a : Int) = a ∧ sh63 (a : Int) = 0 ∧ IntKind.i64.wrap (a : Int) = a := by
  have e : sh63 (a : Int) = 0 := by rw [sh63_eq a (by omega)]; omega
  refine ⟨?_, e, by rw [IntKind.wrap_i64]; omega⟩
  unfold divX
  rw [e, if_neg (by decide)]
theorem divX_hi (a : Nat) (h : 9223372036854775808 ≤ a) (h2 : a < 18446744073709551616) : divX (a : Int) = ((18446744073709551616 - a : Nat) : Int) ∧ sh63 (a : Int) = 1 ∧ IntKind.i64.wrap (a : Int) = -((18446744073709551616 - a : Nat) : Int) := by
  have e : sh63 (a : Int) = 1 := by rw [sh63_eq a h2]; omega
  refine ⟨?_, e, by rw [IntKind.wrap_i64]; omega⟩
  unfold divX
  rw [e, if_pos rfl, uwrap]
  omega
theorem div_facts (x y : Nat) (hy : 1 ≤ y) : ∃ q : Nat, (x : Int).tdiv (y : Int) = q ∧ q ≤ x ∧ (y = 1 → q = x) ∧ (2 ≤ y → 2 * q ≤ x) := by
  refine ⟨x / y, rfl, Nat.div_le_self _ _, fun h => by rw [h, Nat.div_one], fun h => ?_⟩
  have h1 : x / y ≤ x / 2 := Nat.div_le_div_left h (by omega)
  omega
theorem i64_lo (q : Nat) (h : q < 9223372036854775808) : IntKind.i64.wrap (q : Int) = q := by rw [IntKind.wrap_i64]; omega
theorem i64_neg (q : Nat) (h : q ≤ 9223372036854775808) : IntKind.i64.wrap (-(q : Int)) = -(q : Int) := by rw [IntKind.wrap_i64]; omega
theorem u64_neg (q : Nat) : IntKind.u64.wrap (0 - IntKind.u64.wrap (q : Int)) = IntKind.u64.wrap (-(q : Int)) := by rw [uwrap, uwrap, uwrap]; omega
theorem u64_neg' (q : Nat) : IntKind.u64.wrap (0 - (q : Int)) = IntKind.u64.wrap (-(q : Int)) := by rw [Int.zero_sub]
theorem u64_comp (a : Nat) (h : a < 18446744073709551616) : IntKind.u64.wrap (0 - (a : Int)) = IntKind.u64.wrap ((18446744073709551616 - a : Nat) : Int) := by rw [uwrap, uwrap]; omega
theorem ne_0 (b : Nat) (h : 0 < b) : ¬ (b : Int) = 0 := by omega
theorem ne_m1 (b : Nat) : ¬ (b : Int) = -1 := by omega
theorem neg_ne0 (b : Nat) (h : 0 < b) : ¬ -(b : Int) = 0 := by omega
theorem neg_m1 (b : Nat) (h : b = 1) : -(b : Int) = -1 := by omega
theorem neg_nm1 (b : Nat) (h : ¬ b = 1) : ¬ -(b : Int) = -1 := by omega
theorem half (x y q : Nat) (h : q ≤ x) (hx : x ≤ 9223372036854775808) (h4 : 2 ≤ y → 2 * q ≤ x) (hy : 0 < y) (h3 : ¬ y = 1) : q < 9223372036854775808 := by omega
theorem eq8 (a b : Nat) (ha : a < 18446744073709551616) (hb : b < 18446744073709551616) : divS (a : Int) b = f59 a b := by
  unfold divS divQ f59
  by_cases hb0 : b = 0
  · subst hb0
    rw [if_pos (by decide), if_pos (by decide)]
  have hbi : ¬ (b : Int) = 0 := ne_0 b (Nat.pos_of_ne_zero hb0)
  rw [if_neg hbi]
  have hc : 0 < 18446744073709551616 - b := Nat.sub_pos_of_lt hb
  by_cases h1 : a < 9223372036854775808 <;> by_cases h2 : b < 9223372036854775808
  · obtain ⟨p1, p2, p3⟩ := divX_lo a h1
    obtain ⟨q1, q2, q3⟩ := divX_lo b h2
    obtain ⟨q, e1, e2, e3, e4⟩ := div_facts a b (Nat.pos_of_ne_zero hb0)
    rw [p1, p2, p3, q1, q2, q3, if_pos rfl, if_neg hbi, if_neg (ne_m1 b), e1, i64_lo q (Nat.lt_of_le_of_lt e2 h1)]
  · obtain ⟨p1, p2, p3⟩ := divX_lo a h1
    obtain ⟨q1, q2, q3⟩ := divX_hi b (Nat.le_of_not_lt h2) hb
    obtain ⟨q, e1, e2, e3, e4⟩ := div_facts a (18446744073709551616 - b) hc
    rw [p1, p2, p3, q1, q2, q3, if_neg (by decide), if_neg (neg_ne0 _ hc), Int.tdiv_neg, e1, u64_neg]
    by_cases h3 : 18446744073709551616 - b = 1
    · rw [if_pos (neg_m1 _ h3), u64_neg', e3 h3]
    · rw [if_neg (neg_nm1 _ h3), i64_neg q (Nat.le_trans e2 (Nat.le_of_lt h1))]
  · have hd : 18446744073709551616 - a ≤ 9223372036854775808 := by clear hbi hc h2 hb; omega
    obtain ⟨p1, p2, p3⟩ := divX_hi a (Nat.le_of_not_lt h1) ha
    obtain ⟨q1, q2, q3⟩ := divX_lo b h2
    obtain ⟨q, e1, e2, e3, e4⟩ := div_facts (18446744073709551616 - a) b (Nat.pos_of_ne_zero hb0)
    rw [p1, p2, p3, q1, q2, q3, if_neg (by decide), if_neg hbi, if_neg (ne_m1 b), Int.neg_tdiv, e1, u64_neg, i64_neg q (Nat.le_trans e2 hd)]
  · have hd : 18446744073709551616 - a ≤ 9223372036854775808 := by clear hbi hc h2 hb; omega
    obtain ⟨p1, p2, p3⟩ := divX_hi a (Nat.le_of_not_lt h1) ha
    obtain ⟨q1, q2, q3⟩ := divX_hi b (Nat.le_of_not_lt h2) hb
    obtain ⟨q, e1, e2, e3, e4⟩ := div_facts (18446744073709551616 - a) (18446744073709551616 - b) hc
    rw [p1, p2, p3, q1, q2, q3, if_pos rfl, if_neg (neg_ne0 _ hc), Int.tdiv_neg, Int.neg_tdiv, Int.neg_neg, e1]
    by_cases h3 : 18446744073709551616 - b = 1
    · rw [if_pos (neg_m1 _ h3), u64_comp a ha, e3 h3]
    · rw [if_neg (neg_nm1 _ h3), i64_lo q (half _ _ q e2 hd e4 hc h3)]
theorem refR_eq (k a b : Int) (ha : U a) (hb : U b) : refR k a b = ((reckS k a b).1, (reckS k a b).2 == 0) := by
  obtain ⟨x, rfl, hx⟩ := U_nat ha
  obtain ⟨y, rfl, hy⟩ := U_nat hb
  show _ = (fun q : Int × Int => (q.1, q.2 == 0)) (reckS k x y)
  unfold refR reckS
  rw [eq8 x y hx hy, eq9 x y hx hy, eq10 x y hx hy, eq11 x y hx hy, eq12 x y hx hy, below_eq x y hx hy]
  have h0 : ((0 : Int) == 0) = true := rfl
  have h1 : ((1 : Int) == 0) = false := rfl
  simp only [apply_ite (fun q : Int × Int => (q.1, q.2 == 0)), h0, h1]
  rfl
end Go.Proofs.Ytmbnakinhnkabaa

set_option linter.unusedVariables false
namespace Go.Proofs.Ytmbnakinhnkabaa
open Go.AM
def C6r0 : List AOper := [⟨some 3, .box 25 (.t 0), none, true, []⟩,
 ⟨some 4, .box 43 (.t 1), none, true, []⟩,
 ⟨some 6, .mv (.k (.c (.bool false))), none, true, []⟩]
def C6r1 : List AOper := [⟨some 21, .call (.k (.c (.fn 23 [] []))) [], none, true, []⟩,
 ⟨some 7, .mv (.t 21), none, true, []⟩]
def C6r2 : List AOper := [⟨some 22, .mv (.t 7), none, true, []⟩,
 ⟨some 23, .un .not (.t 22), none, true, []⟩]
def C6r3 : List AOper := [⟨some 6, .mv (.k (.c (.bool false))), none, true, []⟩]
def C6r4 : List AOper := [⟨some 24, .ldn 4 (.t 3), none, true, []⟩,
 ⟨some 25, .call (.k (.c (.fn 11 [] []))) [(.t 24)], none, true, []⟩,
 ⟨some 8, .mv (.t 25), none, true, []⟩]
def C6r5 : List AOper := [⟨some 26, .ldn 4 (.t 3), none, true, []⟩,
 ⟨some 27, .call (.k (.c (.fn 24 [] []))) [(.t 26)], none, true, []⟩,
 ⟨some 9, .alloc 25 [.c (.int .u64 0), .c (.int .i64 0), .c (.int .i64 0), .c (.nils)], none, true, []⟩,
 ⟨none, .stn 4 (.t 9) (.t 27), none, true, []⟩]
def C6r6 : List AOper := [⟨some 29, .ldn 4 (.t 9), none, true, []⟩,
 ⟨some 30, .call (.k (.c (.fn 25 [] []))) [(.t 29)], none, true, []⟩,
 ⟨some 28, .mv (.t 30), none, true, []⟩,
 ⟨some 31, .ext (.t 28) 0, none, true, []⟩,
 ⟨some 32, .ext (.t 28) 1, none, true, []⟩,
 ⟨some 10, .alloc 25 [.c (.int .u64 0), .c (.int .i64 0), .c (.int .i64 0), .c (.nils)], none, true, []⟩,
 ⟨none, .stn 4 (.t 10) (.t 31), none, true, []⟩,
 ⟨some 11, .mv (.t 32), none, true, []⟩]
def C6r7 : List AOper := [⟨some 34, .ldn 4 (.t 9), none, true, []⟩,
 ⟨some 35, .call (.k (.c (.fn 26 [] []))) [(.t 34)], none, true, []⟩,
 ⟨some 33, .mv (.t 35), none, true, []⟩,
 ⟨some 36, .ext (.t 33) 0, none, true, []⟩,
 ⟨some 37, .ext (.t 33) 1, none, true, []⟩,
 ⟨some 38, .ext (.t 33) 2, none, true, []⟩,
 ⟨some 12, .alloc 25 [.c (.int .u64 0), .c (.int .i64 0), .c (.int .i64 0), .c (.nils)], none, true, []⟩,
 ⟨none, .stn 4 (.t 12) (.t 36), none, true, []⟩,
 ⟨some 13, .mv (.t 37), none, true, []⟩,
 ⟨some 14, .mv (.t 38), none, true, []⟩]
def C6r8 : List AOper := [⟨some 39, .ldn 4 (.t 9), none, true, []⟩,
 ⟨some 40, .ldn 4 (.t 3), none, true, []⟩,
 ⟨some 41, .call (.k (.c (.fn 27 [] []))) [(.t 39), (.t 40)], none, true, []⟩,
 ⟨some 15, .mv (.t 41), none, true, []⟩]
def C6r9 : List AOper := [⟨some 42, .mv (.t 15), none, true, []⟩,
 ⟨some 43, .un .not (.t 42), none, true, []⟩]
def C6r10 : List AOper := [⟨some 6, .mv (.k (.c (.bool false))), none, true, []⟩]
def C6r11 : List AOper := [⟨some 44, .mv (.t 8), none, true, []⟩,
 ⟨some 45, .un .not (.t 44), none, true, []⟩]
def C6r12 : List AOper := [⟨some 46, .mv (.t 7), none, true, []⟩,
 ⟨some 47, .mv (.t 46), none, true, []⟩,
 ⟨some 48, .mv (.t 11), some (47, true), true, []⟩,
 ⟨some 49, .bin .eql (.t 48) (.k (.c (.int .i64 4))), some (47, true), true, []⟩,
 ⟨some 50, .pick 47 (.t 49) (.k (.c (.bool false))), none, true, []⟩,
 ⟨some 51, .mv (.t 50), none, true, []⟩,
 ⟨some 52, .mv (.t 14), some (51, true), true, []⟩,
 ⟨some 53, .bin .eql (.t 52) (.k (.c (.int .i64 4))), some (51, true), true, []⟩,
 ⟨some 54, .pick 51 (.t 53) (.k (.c (.bool false))), none, true, []⟩,
 ⟨some 55, .mv (.t 54), none, true, []⟩,
 ⟨some 56, .faddr (.t 10) 3, some (55, true), true, []⟩,
 ⟨some 57, .ld1 (.t 56), some (55, true), true, []⟩,
 ⟨some 58, .len false (.t 57), some (55, true), true, []⟩,
 ⟨some 59, .bin .eql (.t 58) (.k (.c (.int .i64 0))), some (55, true), true, []⟩,
 ⟨some 60, .pick 55 (.t 59) (.k (.c (.bool false))), none, true, []⟩,
 ⟨some 61, .mv (.t 60), none, true, []⟩,
 ⟨some 62, .faddr (.t 12) 3, some (61, true), true, []⟩,
 ⟨some 63, .ld1 (.t 62), some (61, true), true, []⟩,
 ⟨some 64, .len false (.t 63), some (61, true), true, []⟩,
 ⟨some 65, .bin .eql (.t 64) (.k (.c (.int .i64 0))), some (61, true), true, []⟩,
 ⟨some 66, .pick 61 (.t 65) (.k (.c (.bool false))), none, true, []⟩,
 ⟨some 67, .mv (.t 66), none, true, []⟩,
 ⟨some 68, .mv (.t 13), some (67, true), true, []⟩,
 ⟨some 69, .un .not (.t 68), some (67, true), true, []⟩,
 ⟨some 70, .pick 67 (.t 69) (.k (.c (.bool false))), none, true, []⟩,
 ⟨some 6, .mv (.t 70), none, true, []⟩]
def C6r13 : List AOper := [⟨some 71, .ldn 4 (.t 10), none, true, []⟩,
 ⟨some 72, .call (.k (.c (.fn 11 [] []))) [(.t 71)], none, true, []⟩,
 ⟨some 16, .mv (.t 72), none, true, []⟩]
def C6r14 : List AOper := [⟨some 73, .ldn 4 (.t 12), none, true, []⟩,
 ⟨some 74, .call (.k (.c (.fn 11 [] []))) [(.t 73)], none, true, []⟩,
 ⟨some 17, .mv (.t 74), none, true, []⟩]
def C6r15 : List AOper := [⟨some 75, .mv (.t 11), none, true, []⟩,
 ⟨some 76, .bin .neq (.t 75) (.k (.c (.int .i64 0))), none, true, []⟩,
 ⟨some 77, .mv (.t 76), none, true, []⟩,
 ⟨some 78, .mv (.t 14), some (77, false), true, []⟩,
 ⟨some 79, .bin .neq (.t 78) (.k (.c (.int .i64 0))), some (77, false), true, []⟩,
 ⟨some 80, .pick 77 (.k (.c (.bool true))) (.t 79), none, true, []⟩,
 ⟨some 81, .mv (.t 80), none, true, []⟩,
 ⟨some 82, .mv (.t 16), some (81, false), true, []⟩,
 ⟨some 83, .un .not (.t 82), some (81, false), true, []⟩,
 ⟨some 84, .pick 81 (.k (.c (.bool true))) (.t 83), none, true, []⟩,
 ⟨some 85, .mv (.t 84), none, true, []⟩,
 ⟨some 86, .mv (.t 17), some (85, false), true, []⟩,
 ⟨some 87, .un .not (.t 86), some (85, false), true, []⟩,
 ⟨some 88, .pick 85 (.k (.c (.bool true))) (.t 87), none, true, []⟩,
 ⟨some 89, .mv (.t 88), none, true, []⟩,
 ⟨some 90, .faddr (.t 10) 0, some (89, false), true, []⟩,
 ⟨some 91, .ld1 (.t 90), some (89, false), true, []⟩,
 ⟨some 92, .faddr (.t 3) 0, some (89, false), true, []⟩,
 ⟨some 93, .ld1 (.t 92), some (89, false), true, []⟩,
 ⟨some 94, .bin .neq (.t 91) (.t 93), some (89, false), true, []⟩,
 ⟨some 95, .pick 89 (.k (.c (.bool true))) (.t 94), none, true, []⟩,
 ⟨some 96, .mv (.t 95), none, true, []⟩,
 ⟨some 97, .faddr (.t 10) 1, some (96, false), true, []⟩,
 ⟨some 98, .ld1 (.t 97), some (96, false), true, []⟩,
 ⟨some 99, .faddr (.t 3) 1, some (96, false), true, []⟩,
 ⟨some 100, .ld1 (.t 99), some (96, false), true, []⟩,
 ⟨some 101, .bin .neq (.t 98) (.t 100), some (96, false), true, []⟩,
 ⟨some 102, .pick 96 (.k (.c (.bool true))) (.t 101), none, true, []⟩,
 ⟨some 103, .mv (.t 102), none, true, []⟩,
 ⟨some 104, .faddr (.t 10) 2, some (103, false), true, []⟩,
 ⟨some 105, .ld1 (.t 104), some (103, false), true, []⟩,
 ⟨some 106, .faddr (.t 3) 2, some (103, false), true, []⟩,
 ⟨some 107, .ld1 (.t 106), some (103, false), true, []⟩,
 ⟨some 108, .bin .neq (.t 105) (.t 107), some (103, false), true, []⟩,
 ⟨some 109, .pick 103 (.k (.c (.bool true))) (.t 108), none, true, []⟩,
 ⟨some 110, .mv (.t 109), none, true, []⟩,
 ⟨some 111, .faddr (.t 12) 0, some (110, false), true, []⟩,
 ⟨some 112, .ld1 (.t 111), some (110, false), true, []⟩,
 ⟨some 113, .faddr (.t 3) 0, some (110, false), true, []⟩,
 ⟨some 114, .ld1 (.t 113), some (110, false), true, []⟩,
 ⟨some 115, .bin .neq (.t 112) (.t 114), some (110, false), true, []⟩,
 ⟨some 116, .pick 110 (.k (.c (.bool true))) (.t 115), none, true, []⟩,
 ⟨some 117, .mv (.t 116), none, true, []⟩,
 ⟨some 118, .faddr (.t 12) 1, some (117, false), true, []⟩,
 ⟨some 119, .ld1 (.t 118), some (117, false), true, []⟩,
 ⟨some 120, .faddr (.t 3) 1, some (117, false), true, []⟩,
 ⟨some 121, .ld1 (.t 120), some (117, false), true, []⟩,
 ⟨some 122, .bin .neq (.t 119) (.t 121), some (117, false), true, []⟩,
 ⟨some 123, .pick 117 (.k (.c (.bool true))) (.t 122), none, true, []⟩,
 ⟨some 124, .mv (.t 123), none, true, []⟩,
 ⟨some 125, .faddr (.t 12) 2, some (124, false), true, []⟩,
 ⟨some 126, .ld1 (.t 125), some (124, false), true, []⟩,
 ⟨some 127, .faddr (.t 3) 2, some (124, false), true, []⟩,
 ⟨some 128, .ld1 (.t 127), some (124, false), true, []⟩,
 ⟨some 129, .bin .neq (.t 126) (.t 128), some (124, false), true, []⟩,
 ⟨some 130, .pick 124 (.k (.c (.bool true))) (.t 129), none, true, []⟩]
def C6r16 : List AOper := [⟨some 6, .mv (.k (.c (.bool false))), none, true, []⟩]
def C6r17 : List AOper := [⟨some 131, .ldn 4 (.t 12), none, true, []⟩,
 ⟨some 132, .ldn 4 (.t 3), none, true, []⟩,
 ⟨some 133, .call (.k (.c (.fn 14 [] []))) [(.t 131), (.t 132)], none, true, []⟩,
 ⟨some 18, .mv (.t 133), none, true, []⟩]
def C6r18 : List AOper := [⟨some 134, .ldn 4 (.t 3), none, true, []⟩,
 ⟨some 135, .ldn 4 (.t 10), none, true, []⟩,
 ⟨some 136, .ldn 49 (.t 4), none, true, []⟩,
 ⟨some 137, .mv (.t 2), none, true, []⟩,
 ⟨some 138, .call (.k (.c (.fn 28 [] []))) [(.t 134), (.t 135), (.t 136), (.t 137)], none, true, []⟩,
 ⟨some 19, .mv (.t 138), none, true, []⟩]
def C6r19 : List AOper := [⟨some 139, .ldn 4 (.t 3), none, true, []⟩,
 ⟨some 140, .ldn 4 (.t 12), none, true, []⟩,
 ⟨some 141, .ldn 49 (.t 4), none, true, []⟩,
 ⟨some 142, .mv (.t 2), none, true, []⟩,
 ⟨some 143, .call (.k (.c (.fn 28 [] []))) [(.t 139), (.t 140), (.t 141), (.t 142)], none, true, []⟩,
 ⟨some 20, .mv (.t 143), none, true, []⟩]
def C6r20 : List AOper := [⟨some 144, .mv (.t 7), none, true, []⟩,
 ⟨some 145, .mv (.t 144), none, true, []⟩,
 ⟨some 146, .mv (.t 19), some (145, true), true, []⟩,
 ⟨some 147, .pick 145 (.t 146) (.k (.c (.bool false))), none, true, []⟩,
 ⟨some 148, .mv (.t 147), none, true, []⟩,
 ⟨some 149, .mv (.t 20), some (148, true), true, []⟩,
 ⟨some 150, .pick 148 (.t 149) (.k (.c (.bool false))), none, true, []⟩,
 ⟨some 151, .mv (.t 150), none, true, []⟩,
 ⟨some 152, .mv (.t 18), some (151, true), true, []⟩,
 ⟨some 153, .mv (.t 13), some (151, true), true, []⟩,
 ⟨some 154, .un .not (.t 153), some (151, true), true, []⟩,
 ⟨some 155, .eqB false (.t 152) (.t 154), some (151, true), true, []⟩,
 ⟨some 156, .pick 151 (.t 155) (.k (.c (.bool false))), none, true, []⟩,
 ⟨some 6, .mv (.t 156), none, true, []⟩]
def C6 : ACode :=
 .seq (.region C6r0)
 (.seq (.region C6r1)
 (.seq (.seq (.region C6r2)
 (.cond (.t 23)
 (.seq (.region C6r3)
 (.ret))
 (.skip)))
 (.seq (.region C6r4)
 (.seq (.region C6r5)
 (.seq (.region C6r6)
 (.seq (.region C6r7)
 (.seq (.region C6r8)
 (.seq (.seq (.region C6r9)
 (.cond (.t 43)
 (.seq (.region C6r10)
 (.ret))
 (.skip)))
 (.seq (.seq (.region C6r11)
 (.cond (.t 45)
 (.seq (.region C6r12)
 (.ret))
 (.skip)))
 (.seq (.region C6r13)
 (.seq (.region C6r14)
 (.seq (.seq (.region C6r15)
 (.cond (.t 130)
 (.seq (.region C6r16)
 (.ret))
 (.skip)))
 (.seq (.region C6r17)
 (.seq (.region C6r18)
 (.seq (.region C6r19)
 (.seq (.region C6r20)
 (.ret)))))))))))))))))
theorem C6_ok : stripF Try.prog Try.f6 = some C6 := by kernel_rfl
def C24r0 : List AOper := [⟨some 1, .box 25 (.t 0), none, true, []⟩,
 ⟨some 2, .alloc 25 [.c (.int .u64 0), .c (.int .i64 0), .c (.int .i64 0), .c (.nils)], none, true, []⟩]
def C24r1 : List AOper := [⟨some 4, .faddr (.t 1) 3, none, true, []⟩,
 ⟨some 5, .ld1 (.t 4), none, true, []⟩,
 ⟨some 6, .len false (.t 5), none, true, []⟩,
 ⟨some 7, .bin .add (.t 6) (.k (.c (.int .i64 1))), none, true, []⟩,
 ⟨some 8, .mkslice 39 6 48 [.c (.int .i64 0), .c (.int .i64 0), .c (.int .i64 0), .c (.int .i64 0), .c (.int .i64 0), .c (.int .u64 0)] (.t 7) (.t 7), none, true, []⟩,
 ⟨some 3, .mv (.t 8), none, true, []⟩]
def C24r2 : List AOper := [⟨some 9, .mv (.t 3), none, true, []⟩,
 ⟨some 10, .faddr (.t 1) 3, none, true, []⟩,
 ⟨some 11, .ld1 (.t 10), none, true, []⟩,
 ⟨some 12, .cpy 6 (.t 9) (.t 11), none, true, []⟩]
def C24r3 : List AOper := [⟨some 13, .mv (.t 3), none, true, []⟩,
 ⟨some 14, .faddr (.t 1) 3, none, true, []⟩,
 ⟨some 15, .ld1 (.t 14), none, true, []⟩,
 ⟨some 16, .len false (.t 15), none, true, []⟩,
 ⟨some 17, .build [.c (.int .i64 0), .c (.int .i64 0), .c (.int .i64 0), .c (.int .i64 0), .c (.int .i64 0), .c (.int .u64 0)] [(0, 1, (.k (.c (.int .i64 (-7)))))], none, true, []⟩,
 ⟨some 18, .iaddr 6 (.t 13) (.t 16), none, true, []⟩,
 ⟨none, .stn 6 (.t 18) (.t 17), none, true, []⟩]
def C24r4 : List AOper := [⟨some 19, .mv (.t 3), none, true, []⟩,
 ⟨some 20, .faddr (.t 1) 3, none, true, []⟩,
 ⟨some 21, .ld1 (.t 20), none, true, []⟩,
 ⟨some 22, .len false (.t 21), none, true, []⟩,
 ⟨some 23, .slc 6 (.t 19) none (some (.t 22)), none, true, []⟩,
 ⟨some 24, .faddr (.t 1) 3, none, true, []⟩,
 ⟨none, .st1 (.t 24) (.t 23), none, true, []⟩]
def C24r5 : List AOper := [⟨some 25, .ldn 4 (.t 1), none, true, []⟩,
 ⟨none, .stn 4 (.t 2) (.t 25), none, true, []⟩]
def C24 : ACode :=
 .seq (.region C24r0)
 (.seq (.region C24r1)
 (.seq (.region C24r2)
 (.seq (.region C24r3)
 (.seq (.region C24r4)
 (.seq (.region C24r5)
 (.ret))))))
theorem C24_ok : stripF Try.prog Try.f24 = some C24 := by kernel_rfl
def C27r0 : List AOper := [⟨some 2, .box 25 (.t 0), none, true, []⟩,
 ⟨some 3, .box 25 (.t 1), none, true, []⟩,
 ⟨some 4, .mv (.k (.c (.bool false))), none, true, []⟩]
def C27r1 : List AOper := [⟨some 6, .ldn 4 (.t 2), none, true, []⟩,
 ⟨some 7, .ldn 4 (.t 3), none, true, []⟩,
 ⟨some 8, .call (.k (.c (.fn 14 [] []))) [(.t 6), (.t 7)], none, true, []⟩,
 ⟨some 5, .mv (.t 8), none, true, []⟩]
def C27r2 : List AOper := [⟨some 9, .mv (.t 5), none, true, []⟩,
 ⟨some 10, .mv (.t 9), none, true, []⟩,
 ⟨some 11, .faddr (.t 2) 3, some (10, true), false, []⟩,
 ⟨some 12, .ld1 (.t 11), some (10, true), false, []⟩,
 ⟨some 13, .faddr (.t 3) 3, some (10, true), false, []⟩,
 ⟨some 14, .ld1 (.t 13), some (10, true), false, []⟩,
 ⟨some 15, .len false (.t 14), some (10, true), false, []⟩,
 ⟨some 16, .bin .add (.t 15) (.k (.c (.int .i64 1))), some (10, true), false, []⟩,
 ⟨some 17, .slc 6 (.t 12) none (some (.t 16)), some (10, true), false, []⟩,
 ⟨some 18, .faddr (.t 3) 3, some (10, true), false, []⟩,
 ⟨some 19, .ld1 (.t 18), some (10, true), false, []⟩,
 ⟨some 20, .len false (.t 19), some (10, true), false, []⟩,
 ⟨some 21, .iaddr 6 (.t 17) (.t 20), some (10, true), true, []⟩,
 ⟨some 22, .faddr (.t 21) 0, some (10, true), true, []⟩,
 ⟨some 23, .ld1 (.t 22), some (10, true), true, []⟩,
 ⟨some 24, .bin .eql (.t 23) (.k (.c (.int .i64 (-7)))), some (10, true), true, []⟩,
 ⟨some 25, .pick 10 (.t 24) (.k (.c (.bool false))), none, true, []⟩,
 ⟨some 4, .mv (.t 25), none, true, []⟩]
def C27 : ACode :=
 .seq (.region C27r0)
 (.seq (.region C27r1)
 (.seq (.region C27r2)
 (.ret)))
theorem C27_ok : stripF Try.prog Try.f27 = some C27 := by kernel_rfl
def C28r0 : List AOper := [⟨some 4, .box 25 (.t 0), none, true, []⟩,
 ⟨some 5, .box 25 (.t 1), none, true, []⟩,
 ⟨some 6, .box 43 (.t 2), none, true, []⟩,
 ⟨some 8, .mv (.k (.c (.bool false))), none, true, []⟩]
def C28r1 : List AOper := [⟨some 22, .ldn 4 (.t 4), none, true, []⟩,
 ⟨some 23, .ldn 49 (.t 6), none, true, []⟩,
 ⟨some 24, .call (.k (.c (.fn 18 [] []))) [(.t 22), (.t 23)], none, true, []⟩,
 ⟨some 21, .mv (.t 24), none, true, []⟩,
 ⟨some 25, .ext (.t 21) 0, none, true, []⟩,
 ⟨some 26, .ext (.t 21) 1, none, true, []⟩,
 ⟨some 9, .mv (.t 25), none, true, []⟩,
 ⟨some 10, .mv (.t 26), none, true, []⟩]
def C28r2 : List AOper := [⟨some 28, .ldn 4 (.t 5), none, true, []⟩,
 ⟨some 29, .ldn 49 (.t 6), none, true, []⟩,
 ⟨some 30, .call (.k (.c (.fn 18 [] []))) [(.t 28), (.t 29)], none, true, []⟩,
 ⟨some 27, .mv (.t 30), none, true, []⟩,
 ⟨some 31, .ext (.t 27) 0, none, true, []⟩,
 ⟨some 32, .ext (.t 27) 1, none, true, []⟩,
 ⟨some 11, .mv (.t 31), none, true, []⟩,
 ⟨some 12, .mv (.t 32), none, true, []⟩]
def C28r3 : List AOper := [⟨some 33, .mv (.t 10), none, true, []⟩,
 ⟨some 34, .bin .neq (.t 33) (.k (.c (.int .i64 0))), none, true, []⟩,
 ⟨some 35, .mv (.t 34), none, true, []⟩,
 ⟨some 36, .mv (.t 12), some (35, false), true, []⟩,
 ⟨some 37, .bin .neq (.t 36) (.k (.c (.int .i64 0))), some (35, false), true, []⟩,
 ⟨some 38, .pick 35 (.k (.c (.bool true))) (.t 37), none, true, []⟩]
def C28r4 : List AOper := [⟨some 39, .mv (.t 10), none, true, []⟩,
 ⟨some 40, .mv (.t 12), none, true, []⟩,
 ⟨some 41, .bin .eql (.t 39) (.t 40), none, true, []⟩,
 ⟨some 8, .mv (.t 41), none, true, []⟩]
def C28r5 : List AOper := [⟨some 13, .mv (.k (.c (.int .i64 0))), none, true, []⟩]
def C28r6 : List AOper := [⟨some 42, .mv (.t 13), none, true, []⟩,
 ⟨some 43, .faddr (.t 4) 3, none, true, []⟩,
 ⟨some 44, .ld1 (.t 43), none, true, []⟩,
 ⟨some 45, .len false (.t 44), none, true, []⟩,
 ⟨some 46, .bin .leq (.t 42) (.t 45), none, true, []⟩]
def C28r7 : List AOper := [⟨some 50, .mv (.t 9), none, true, []⟩,
 ⟨some 51, .call (.k (.c (.fn 19 [] []))) [(.t 50)], none, true, []⟩,
 ⟨some 49, .mv (.t 51), none, true, []⟩,
 ⟨some 52, .ext (.t 49) 0, none, true, []⟩,
 ⟨some 53, .ext (.t 49) 1, none, true, []⟩,
 ⟨some 14, .alloc 49 [.c (.int .i64 0), .c (.int .u64 0), .c (.int .u64 0), .c (.int .i64 0), .c (.bool false), .c (.int .i64 0), .c (.bool false), .c (.int .i64 0), .c (.int .i64 0), .c (.int .i64 0)], none, true, []⟩,
 ⟨none, .stn 10 (.t 14) (.t 52), none, true, []⟩,
 ⟨some 15, .mv (.t 53), none, true, []⟩]
def C28r8 : List AOper := [⟨some 55, .mv (.t 11), none, true, []⟩,
 ⟨some 56, .call (.k (.c (.fn 19 [] []))) [(.t 55)], none, true, []⟩,
 ⟨some 54, .mv (.t 56), none, true, []⟩,
 ⟨some 57, .ext (.t 54) 0, none, true, []⟩,
 ⟨some 58, .ext (.t 54) 1, none, true, []⟩,
 ⟨some 16, .alloc 49 [.c (.int .i64 0), .c (.int .u64 0), .c (.int .u64 0), .c (.int .i64 0), .c (.bool false), .c (.int .i64 0), .c (.bool false), .c (.int .i64 0), .c (.int .i64 0), .c (.int .i64 0)], none, true, []⟩,
 ⟨none, .stn 10 (.t 16) (.t 57), none, true, []⟩,
 ⟨some 17, .mv (.t 58), none, true, []⟩]
def C28r9 : List AOper := [⟨some 59, .ldn 10 (.t 14), none, false, []⟩,
 ⟨some 60, .ldn 10 (.t 16), none, false, []⟩,
 ⟨some 61, .eqS true [.one true, .one true, .one true, .one true, .one false, .one true, .one false, .one true, .one true, .one true] (.t 59) (.t 60), none, true, []⟩,
 ⟨some 62, .mv (.t 61), none, true, []⟩,
 ⟨some 63, .mv (.t 15), some (62, false), false, []⟩,
 ⟨some 64, .mv (.t 17), some (62, false), false, []⟩,
 ⟨some 65, .eqB true (.t 63) (.t 64), some (62, false), true, []⟩,
 ⟨some 66, .pick 62 (.k (.c (.bool true))) (.t 65), none, true, []⟩,
 ⟨some 67, .mv (.t 66), none, true, []⟩,
 ⟨some 68, .mv (.t 9), some (67, false), false, []⟩,
 ⟨some 69, .nilchk (.t 68), some (67, false), false, []⟩,
 ⟨some 70, .faddr (.t 69) 4, some (67, false), false, []⟩,
 ⟨some 71, .ldn 49 (.t 70), some (67, false), false, []⟩,
 ⟨some 72, .mv (.t 11), some (67, false), false, []⟩,
 ⟨some 73, .nilchk (.t 72), some (67, false), false, []⟩,
 ⟨some 74, .faddr (.t 73) 4, some (67, false), false, []⟩,
 ⟨some 75, .ldn 49 (.t 74), some (67, false), false, []⟩,
 ⟨some 76, .eqS true [.arr 31 true, .arr 2 true, .one true, .one false, .one false, .one false, .one false, .one true, .one false, .one true, .one true, .one true, .one true, .one true, .one true, .one true, .one true, .one false] (.t 71) (.t 75), some (67, false), true, []⟩,
 ⟨some 77, .pick 67 (.k (.c (.bool true))) (.t 76), none, true, []⟩]
def C28r10 : List AOper := [⟨some 8, .mv (.k (.c (.bool false))), none, true, []⟩]
def C28r11 : List AOper := [⟨some 78, .mv (.t 15), none, true, []⟩,
 ⟨some 79, .un .not (.t 78), none, true, []⟩]
def C28r12 : List AOper := [⟨some 80, .mv (.t 9), none, false, []⟩,
 ⟨some 81, .nilchk (.t 80), none, false, []⟩,
 ⟨some 82, .faddr (.t 81) 67, none, false, []⟩,
 ⟨some 83, .ld1 (.t 82), none, false, []⟩,
 ⟨some 84, .mv (.t 11), none, false, []⟩,
 ⟨some 85, .nilchk (.t 84), none, false, []⟩,
 ⟨some 86, .faddr (.t 85) 67, none, false, []⟩,
 ⟨some 87, .ld1 (.t 86), none, false, []⟩,
 ⟨some 88, .eqB false (.t 83) (.t 87), none, true, []⟩,
 ⟨some 89, .mv (.t 88), none, true, []⟩,
 ⟨some 90, .mv (.t 9), some (89, true), false, []⟩,
 ⟨some 91, .nilchk (.t 90), some (89, true), false, []⟩,
 ⟨some 92, .faddr (.t 91) 69, some (89, true), false, []⟩,
 ⟨some 93, .ld1 (.t 92), some (89, true), false, []⟩,
 ⟨some 94, .mv (.t 11), some (89, true), false, []⟩,
 ⟨some 95, .nilchk (.t 94), some (89, true), false, []⟩,
 ⟨some 96, .faddr (.t 95) 69, some (89, true), false, []⟩,
 ⟨some 97, .ld1 (.t 96), some (89, true), false, []⟩,
 ⟨some 98, .eqB false (.t 93) (.t 97), some (89, true), true, []⟩,
 ⟨some 99, .pick 89 (.t 98) (.k (.c (.bool false))), none, true, []⟩,
 ⟨some 100, .mv (.t 99), none, true, []⟩,
 ⟨some 101, .mv (.t 9), some (100, true), false, []⟩,
 ⟨some 102, .nilchk (.t 101), some (100, true), false, []⟩,
 ⟨some 103, .faddr (.t 102) 68, some (100, true), false, []⟩,
 ⟨some 104, .ld1 (.t 103), some (100, true), false, []⟩,
 ⟨some 105, .mv (.t 11), some (100, true), false, []⟩,
 ⟨some 106, .nilchk (.t 105), some (100, true), false, []⟩,
 ⟨some 107, .faddr (.t 106) 68, some (100, true), false, []⟩,
 ⟨some 108, .ld1 (.t 107), some (100, true), false, []⟩,
 ⟨some 109, .bin .eql (.t 104) (.t 108), some (100, true), true, []⟩,
 ⟨some 110, .pick 100 (.t 109) (.k (.c (.bool false))), none, true, []⟩,
 ⟨some 8, .mv (.t 110), none, true, []⟩]
def C28r13 : List AOper := [⟨some 111, .mv (.t 13), none, true, []⟩,
 ⟨some 112, .bin .mul (.k (.c (.int .i64 8))) (.t 111), none, true, []⟩,
 ⟨some 113, .conv .u64 (.t 112), none, true, []⟩,
 ⟨some 114, .mv (.t 13), none, true, []⟩,
 ⟨some 115, .bin .rem (.t 114) (.k (.c (.int .i64 2))), none, true, []⟩,
 ⟨some 116, .bin .eql (.t 115) (.k (.c (.int .i64 0))), none, true, []⟩,
 ⟨some 117, .build [.c (.int .u64 0), .c (.bool false), .c (.int .i64 0)] [(0, 1, (.t 113)), (1, 1, (.t 116))], none, true, []⟩,
 ⟨some 18, .alloc 56 [.c (.int .u64 0), .c (.bool false), .c (.int .i64 0)], none, true, []⟩,
 ⟨none, .stn 3 (.t 18) (.t 117), none, true, []⟩]
def C28r14 : List AOper := [⟨some 118, .mv (.t 13), none, true, []⟩,
 ⟨some 119, .mv (.t 3), none, true, []⟩,
 ⟨some 120, .len false (.t 119), none, true, []⟩,
 ⟨some 121, .bin .lss (.t 118) (.t 120), none, true, []⟩]
def C28r15 : List AOper := [⟨some 122, .mv (.t 3), none, true, []⟩,
 ⟨some 123, .mv (.t 13), none, true, []⟩,
 ⟨some 124, .iaddr 3 (.t 122) (.t 123), none, true, []⟩,
 ⟨some 125, .ldn 3 (.t 124), none, true, []⟩,
 ⟨none, .stn 3 (.t 18) (.t 125), none, true, []⟩]
def C28r16 : List AOper := [⟨some 126, .mv (.t 9), none, true, []⟩,
 ⟨some 127, .ldn 3 (.t 18), none, true, []⟩,
 ⟨some 128, .call (.k (.c (.fn 20 [] []))) [(.t 126), (.t 127)], none, true, []⟩,
 ⟨some 19, .mv (.t 128), none, true, []⟩]
def C28r17 : List AOper := [⟨some 129, .mv (.t 11), none, true, []⟩,
 ⟨some 130, .ldn 3 (.t 18), none, true, []⟩,
 ⟨some 131, .call (.k (.c (.fn 20 [] []))) [(.t 129), (.t 130)], none, true, []⟩,
 ⟨some 20, .mv (.t 131), none, true, []⟩]
def C28r18 : List AOper := [⟨some 132, .mv (.t 19), none, true, []⟩,
 ⟨some 133, .un .not (.t 132), none, true, []⟩,
 ⟨some 134, .mv (.t 133), none, true, []⟩,
 ⟨some 135, .mv (.t 20), some (134, false), true, []⟩,
 ⟨some 136, .un .not (.t 135), some (134, false), true, []⟩,
 ⟨some 137, .pick 134 (.k (.c (.bool true))) (.t 136), none, true, []⟩]
def C28r19 : List AOper := [⟨some 8, .mv (.k (.c (.bool false))), none, true, []⟩]
def C28r20 : List AOper := [⟨some 47, .mv (.t 13), none, true, []⟩,
 ⟨some 48, .bin .add (.t 47) (.k (.c (.int .i64 1))), none, true, []⟩,
 ⟨some 13, .mv (.t 48), none, true, []⟩]
def C28r21 : List AOper := [⟨some 8, .mv (.k (.c (.bool false))), none, true, []⟩]
def C28 : ACode :=
 .seq (.region C28r0)
 (.seq (.region C28r1)
 (.seq (.region C28r2)
 (.seq (.seq (.region C28r3)
 (.cond (.t 38)
 (.seq (.region C28r4)
 (.ret))
 (.skip)))
 (.seq (.seq (.region C28r5)
 (.block 0
 (.loop
 (.seq (.seq (.region C28r6)
 (.cond (.t 46)
 (.skip)
 (.exit 0)))
 (.seq (.block 1
 (.seq (.region C28r7)
 (.seq (.region C28r8)
 (.seq (.seq (.region C28r9)
 (.cond (.t 77)
 (.seq (.region C28r10)
 (.ret))
 (.skip)))
 (.seq (.seq (.region C28r11)
 (.cond (.t 79)
 (.seq (.region C28r12)
 (.ret))
 (.skip)))
 (.seq (.region C28r13)
 (.seq (.seq (.region C28r14)
 (.cond (.t 121)
 (.region C28r15)
 (.skip)))
 (.seq (.region C28r16)
 (.seq (.region C28r17)
 (.seq (.region C28r18)
 (.cond (.t 137)
 (.seq (.region C28r19)
 (.ret))
 (.skip))))))))))))
 (.region C28r20))))))
 (.seq (.region C28r21)
 (.ret))))))
theorem C28_ok : stripF Try.prog Try.f28 = some C28 := by kernel_rfl
end Go.Proofs.Ytmbnakinhnkabaa

namespace Go.Proofs.Ytmbnakinhnkabaa
open Go.AM
set_option maxRecDepth 100000
set_option linter.unusedSimpArgs false
set_option linter.unusedVariables false
def placeK (o : OpS) : Int := if o.kind = 2 ∨ o.kind = 3 then 0 else if o.kind = 4 ∨ o.kind = 5 then 1 else if o.kind = 6 ∨ o.kind = 7 then 2 else 0
def placeR (o : OpS) : Int := if o.kind = 2 ∨ o.kind = 3 then o.r else if o.kind = 4 ∨ o.kind = 5 then 0 else if o.kind = 6 ∨ o.kind = 7 then o.r else 0
def placeSet (o : OpS) : Bool := o.kind == 3 || o.kind == 5 || o.kind == 7
def placeOk (o : OpS) : Bool := o.kind == 2 || o.kind == 3 || o.kind == 4 || o.kind == 5 || o.kind == 6 || o.kind == 7
def placeL (k r : Int) : List Seg := [.c (.int .i64 k), .c (.int .i64 r)]
def plB (k r : Int) : Blk := ⟨2, none, fun _ => placeL k r, 111, true⟩
theorem pl_le {l : List Nat} (k r : Int) : leB l (plB k r) (plB k r) := ⟨rfl, rfl, id, Nat.le_refl _, fun _ _ => by simp only [plB, placeL, leSegs, leSeg, leC, and_self]⟩
theorem end_pl {l : List Slot} {H : Heap} (o : OpS) (k r : Int) (set ok : Bool) (s2 : slotAt l 2 = some ⟨2, [], .c (.ptr ⟨1, 0, 0, 0⟩)⟩) (s3 : slotAt l 3 = some ⟨3, [], .c (.bool set)⟩) (s4 : slotAt l 4 = some ⟨4, [], .c (.bool ok)⟩) (g : getB H.blks 1 = some (plB k r))
    (h1 : k = placeK o) (h2 : r = placeR o) (h3 : set = placeSet o) (h4 : ok = placeOk o) : endQ (LeS 0) [.cn 2 2, .tmp 3, .tmp 4] (fun v H' => v = .tup [.agg (placeL (placeK o) (placeR o)), .c (.bool (placeSet o)), .c (.bool (placeOk o))] ∧ H' = ⟨1, [(0, plB (placeK o) (placeR o))]⟩) .ret ⟨l, H⟩ := by
  subst h1 h2 h3 h4
  refine end_of ⟨[⟨2, [], .c (.ptr ⟨0, 0, 0, 0⟩)⟩, ⟨3, [], .c (.bool (placeSet o))⟩, ⟨4, [], .c (.bool (placeOk o))⟩], ⟨1, [(0, plB (placeK o) (placeR o))]⟩⟩ (LeS.intro [1] (fun i h => absurd h (Nat.not_lt_zero i)) (by simp only [diff, notIn, and_self]) rfl (by simp only [slotsLe, s2, s3, s4, leV, leV1, leC, leA, nthO, and_self]) ?_) ?_
  · simp only [leBlks, nthO, g]
    exact ⟨pl_le _ _, trivial⟩
  · simp only [endF, resL, resA, St.get, slotAt, sfx, eqP, ldn, getB, plB, placeL, rowNeed, cut, dropS, takeS, Seg.size, nsub, noTup, resV]
    exact ⟨by first | rfl | trivial, by first | rfl | trivial⟩
theorem con73 (o : OpS) (H : Heap) : Con Try.prog 73 [.agg (opL o)] H (fun v H' => v = .tup [.agg (placeL (placeK o) (placeR o)), .c (.bool (placeSet o)), .c (.bool (placeOk o))] ∧ H' = H) := by
  have h0 : Con Try.prog 73 [.agg (opL o)] ⟨0, []⟩ (fun v H' => v = .tup [.agg (placeL (placeK o) (placeR o)), .c (.bool (placeSet o)), .c (.bool (placeOk o))] ∧ H' = ⟨1, [(0, plB (placeK o) (placeR o))]⟩) := by
    (refine con_of_run mixed (fn := Try.f73) (by kernel_rfl) (by kernel_rfl) C73_ok (rs := [.cn 2 2, .tmp 3, .tmp 4]) (by kernel_rfl) (Nat.le_of_ble_eq_true (by kernel_rfl)) ?_; unfold C73; simp only [initT])
    repeat' (first | refine run_seq ?_ | refine run_skip ?_ | (refine run_region fun K hK => ?_; (try (simp (maxSteps := 10000000) only [opL, partsOf, fillS, C73r0, C73r1, C73r2, C73r3, C73r4, C73r5, C73r6, C73r7, C73r8, C73r9, C73r10, C73r11, rwp_nil, rwp_cons, aop, gpath, St.get, slotAt, sfx, eqP, segsOf, St.put, addBlk, getB, setB, ld1, stn, setRow, rowNeed, segAt, nsub, bin, isShift, sameK, arith, shed, addN, Nat.beq, Seg.size, sizes, takeS, dropS, putS, partsOf, fillS, exOk, exAll, wrAddr, Nat.reduceAdd, List.append_nil, List.nil_append, List.cons_append])); (repeat (first | (refine And.intro ?_ ?_; · (first | trivial | assumption | omega | exact ⟨by omega, by omega, by omega⟩ | exact ⟨trivial, by omega, by omega⟩ | (intros; first | trivial | assumption | omega))))); with_reducible refine hK _ ?_; clear hK K) | (refine run_cond rfl (fun hc => ?_) (fun hc => ?_) <;> try (simp only [*, Bool.true_eq_false] at hc; done)) | refine run_block ?_ | refine run_ret ?_ | refine run_nil ?_ | refine blk_normal ?_ | refine blk_ret ?_ | refine blk_here ?_ | refine blk_there rfl ?_)
    all_goals
      simp only [beq_iff_eq, beq_eq_false_iff_ne, ne_eq] at *
      refine end_pl o _ _ _ _ rfl rfl rfl rfl ?_ ?_ ?_ ?_
      all_goals (try simp only [placeK, placeR, placeSet, placeOk, *])
      all_goals first | rfl | (simp; done) | simp [*]
  refine Con.pure (Con.forget h0 ?_) (by simp only [opL, leArgs, leV, leV1, leSegs, leSeg, leC, and_self]) rfl H
  rintro v H' ⟨rfl, rfl⟩
  exact ⟨_, ⟨0, []⟩, [], fun i h => absurd h (Nat.not_lt_zero i), trivial, rfl, trivial, by simp only [placeL, leV, leV1, leVL, leSegs, leSeg, leC, and_self], rfl, rfl⟩
structure PS where
  b : BlkS
  m : Nat
  f : Nat → OpS
  na : Nat
  a : Nat → Int
  kn : Nat
  kk : Nat → Int
  kr : Nat → Int
  kv : Nat → Int
def passL (F M O A : Nat) (s : PS) : List Seg := [.c (.slice ⟨F, 0, 0, 0⟩ false s.b.n), .c (.slice ⟨O, 0, 0, 0⟩ false s.m), .c (.slice ⟨A, 0, 0, 0⟩ false s.na), .c (.map M)]
def passB (F M O A : Nat) (s : PS) (w : Bool) : Blk := ⟨4, none, fun _ => passL F M O A s, 85, w⟩
def knB (s : PS) : Blk := ⟨0, some 0, fun _ => [.a s.kn (fun i => .int .i64 (s.kv i)), .a s.kn (fun i => .int .i64 (s.kk i)), .a s.kn (fun i => .int .i64 (s.kr i))], 0, true⟩
theorem pass_le {l : List Nat} (s : PS) (F M O A F' M' O' A' : Nat) (w w' : Bool) (hw : w' = true → w = true) (h1 : nthO l F' = some F) (h2 : nthO l M' = some M) (h3 : nthO l O' = some O) (h4 : nthO l A' = some A) : leB l (passB F M O A s w) (passB F' M' O' A' s w') := ⟨rfl, rfl, hw, Nat.le_refl _, fun _ _ => by simp only [passB, passL, leSegs, leSeg, leC, leA, h1, h2, h3, h4, and_self]⟩
theorem kn_le {l : List Nat} (s : PS) : leB l (knB s) (knB s) := ⟨rfl, rfl, id, rfl, fun _ _ => by simp only [knB, leSegs, leSeg, leC, and_self, implies_true]⟩
def passR (s : PS) : Heap := ⟨5, [(0, passB 1 2 3 4 s false), (3, opsB s.m s.f)]⟩
theorem ids5 {l : List Nat} : idTo (0 :: 1 :: 2 :: 3 :: 4 :: l) 5 := by
  intro i h
  match i, h with
  | 0, _ => rfl
  | 1, _ => rfl
  | 2, _ => rfl
  | 3, _ => rfl
  | 4, _ => rfl
theorem passR_le {l : List Slot} {H : Heap} {s : PS} {w : Bool} (h0 : getB H.blks 0 = some (passB 1 2 3 4 s w)) (h3 : getB H.blks 3 = some (opsB s.m s.f)) {r : List Slot} (hr : slotsLe [0, 1, 2, 3, 4] l r) : LeS 5 ⟨l, H⟩ ⟨r, passR s⟩ := by
  refine LeS.intro [0, 1, 2, 3, 4] ids5 (by simp only [diff, notIn, Nat.beq, and_self]) rfl hr ?_
  simp only [passR, leBlks, nthO, h0, h3]
  exact ⟨pass_le s _ _ _ _ _ _ _ _ _ _ (fun h => by cases h) rfl rfl rfl rfl, ops_le s.m s.f false, trivial⟩
theorem passR_at {f : FuncId} {rest : List AV} {s : PS} {V0 : AV} (h : Con Try.prog f (me :: rest) (passR s) (fun v H' => v = V0 ∧ H' = passR s)) (hrest : ∀ l, leArgs l rest rest) (hV0 : ∀ g, mapV g V0 = V0) (R F M O A m : Nat) (X : List (Nat × Blk)) (w w' : Bool) (hd : diff [R, F, M, O, A])
    (hR : getB X R = some (passB F M O A s w)) (hO : getB X O = some ⟨6, some s.m, fun i => opL (s.f i), 39, w'⟩) (hl : allLt [R, F, M, O, A] m) (hkl : keysLt X m) :
    Con Try.prog f (.c (.ptr ⟨R, 0, 0, 0⟩) :: rest) ⟨m, X⟩ (fun v H' => v = V0 ∧ H' = ⟨m, X⟩) := by
  refine ro_gen h [R, F, M, O, A] m X rfl hd hl hkl ?_ ⟨⟨rfl, rfl, rfl, rfl⟩, hrest _⟩ (hV0 _) (fun _ => rfl) rfl rfl
  simp only [passR, leBlks, nthO, hR, hO]
  exact ⟨pass_le s _ _ _ _ _ _ _ _ _ _ (fun h => by cases h) rfl rfl rfl rfl, ops_le s.m s.f w', trivial⟩
theorem con76 (s : PS) (v : Nat) (hv : v < s.m) : Con Try.prog 76 [me, .c (.int .i64 v)] (passR s) (fun u H' => u = .tup [.c (.int .u64 (s.f v).imm), .c (.bool ((s.f v).kind == 1))] ∧ H' = passR s) := by
  (refine con_of_run mixed (fn := Try.f76) (by kernel_rfl) (by kernel_rfl) C76_ok (rs := [.tmp 4, .tmp 5]) (by kernel_rfl) (Nat.le_of_ble_eq_true (by kernel_rfl)) ?_; unfold C76; simp only [initT, Nat.reduceAdd])
  simp only [me, passR, passB, passL, opsB]
  repeat' (first | refine run_seq ?_ | (refine run_region fun K hK => ?_; (try (simp (maxSteps := 10000000) only [opL, Int.toNat_natCast, C76r0, C76r1, C76r2, rwp_nil, rwp_cons, aop, gpath, St.get, slotAt, sfx, eqP, St.put, addBlk, getB, setB, ld1, ldn, stn, setRow, rowNeed, segAt, nsub, bin, isShift, sameK, arith, shed, addN, Nat.beq, Seg.size, sizes, imp, cut, takeS, dropS, putS, strOk, plusA, exOk, Nat.reduceAdd, List.append_nil, List.nil_append, Int.toNat_natCast])); (repeat (first | (refine And.intro ?_ ?_; · (first | trivial | assumption | omega | exact ⟨by omega, by omega, by omega⟩ | exact ⟨trivial, by omega, by omega⟩ | (intros; first | trivial | assumption | omega))))); with_reducible refine hK _ ?_; clear hK K) | refine run_ret ?_ | refine run_nil ?_)
  refine end_of ⟨[⟨4, [], .c (.int .u64 (s.f v).imm)⟩, ⟨5, [], .c (.bool ((s.f v).kind == 1))⟩], passR s⟩ (passR_le (w := false) rfl rfl (by simp only [slotsLe, slotAt, leV, leV1, leC, and_self])) ?_
  simp only [endF, resL, resA, St.get, slotAt, sfx, eqP, noTup, resV]
  exact ⟨by first | rfl | trivial, by first | rfl | trivial⟩
def truthF (o : OpS) : Bool := if o.kind = 1 then decide (o.imm < 2) else if o.kind = 6 then true else if o.kind = 8 then (o.r == 13 || o.r == 14 || o.r == 15) else false
theorem end_truth {l : List Slot} {H : Heap} (s : PS) (c t : Bool) (hs : slotAt l 4 = some ⟨4, [], .c (.bool c)⟩) (h0 : getB H.blks 0 = some (passB 1 2 3 4 s false)) (h3 : getB H.blks 3 = some (opsB s.m s.f)) (hc : c = t) : endQ (LeS 5) [.tmp 4] (fun u H' => u = .c (.bool t) ∧ H' = passR s) .ret ⟨l, H⟩ := by
  subst hc
  refine end_of ⟨[⟨4, [], .c (.bool c)⟩], passR s⟩ (passR_le h0 h3 (by simp only [slotsLe, hs, leV, leV1, leC, and_self])) ?_
  simp only [endF, resL, resA, St.get, slotAt, sfx, eqP, noTup, resV]
  exact ⟨by first | rfl | trivial, by first | rfl | trivial⟩
theorem con100 (s : PS) (v : Nat) (hv : v < s.m) : Con Try.prog 100 [me, .c (.int .i64 v)] (passR s) (fun u H' => u = .c (.bool (truthF (s.f v))) ∧ H' = passR s) := by
  (refine con_of_run mixed (fn := Try.f100) (by kernel_rfl) (by kernel_rfl) C100_ok (rs := [.tmp 4]) (by kernel_rfl) (Nat.le_of_ble_eq_true (by kernel_rfl)) ?_; unfold C100; simp only [initT, Nat.reduceAdd])
  simp only [me, passR, passB, passL, opsB]
  repeat' (first | refine run_seq ?_ | refine run_skip ?_ | (refine run_region fun K hK => ?_; (try (simp (maxSteps := 10000000) only [opL, Int.toNat_natCast, C100r0, C100r1, C100r2, C100r3, C100r4, C100r5, C100r6, C100r7, C100r8, C100r9, rwp_nil, rwp_cons, aop, gpath, St.get, slotAt, sfx, eqP, St.put, addBlk, getB, setB, ld1, ldn, stn, setRow, rowNeed, segAt, nsub, bin, isShift, sameK, arith, getsl, selB_or, beqb, shed, addN, Nat.beq, Seg.size, sizes, imp, cut, takeS, dropS, putS, strOk, plusA, exOk, Nat.reduceAdd, List.append_nil, List.nil_append, Int.toNat_natCast])); (repeat (first | (refine And.intro ?_ ?_; · (first | trivial | assumption | omega | exact ⟨by omega, by omega, by omega⟩ | exact ⟨trivial, by omega, by omega⟩ | (intros; first | trivial | assumption | omega))))); with_reducible refine hK _ ?_; clear hK K) | (refine run_cond rfl (fun hc => ?_) (fun hc => ?_) <;> try (simp only [*, Bool.true_eq_false, Bool.false_eq_true, Bool.not_true, Bool.not_false, Bool.true_or, Bool.or_true, Bool.false_or, Bool.or_false, Bool.false_and, Bool.and_false, bne_self_eq_false, beq_self_eq_true] at hc; done)) | refine run_block ?_ | refine run_ret ?_ | refine run_nil ?_ | refine blk_normal ?_ | refine blk_ret ?_ | refine blk_here ?_ | refine blk_there rfl ?_)
  all_goals
    simp only [beq_iff_eq, beq_eq_false_iff_ne, ne_eq] at *
    refine end_truth s _ _ rfl rfl rfl ?_
    simp only [truthF, *]
    first | rfl | simp
def layS (s : PS) (o : OpS) : PS := { s with m := s.m + 1, f := fun i => if i < s.m then s.f i else o }
def passH (s : PS) : Heap := ⟨5, [(0, passB 1 2 3 4 s true), (1, opsB s.b.n s.b.f), (2, knB s), (3, opsW s.m s.f), (4, atB s.na s.a)]⟩
def passH' (s : PS) : Heap := ⟨6, [(0, passB 1 2 5 4 s true), (1, opsB s.b.n s.b.f), (2, knB s), (5, opsW s.m s.f), (4, atB s.na s.a)]⟩
theorem app_le {l : List Nat} (m : Nat) (f : Nat → OpS) (o : OpS) : leB l ⟨6, some (m + 1), rowsApp ⟨6, some m, fun i => opL (f i), 39, true⟩ m ⟨6, some 1, fun _ => opL o, 39, true⟩ 0, 39, true⟩ (opsW (m + 1) (fun i => if i < m then f i else o)) := ⟨rfl, rfl, id, Nat.le_refl _, fun i _ => by
  show leSegs _ (rowsApp _ _ _ _ i) (opL (if i < m then f i else o))
  unfold rowsApp
  split <;> simp only [opL, leSegs, leSeg, leC, and_self]⟩
theorem con75 (s : PS) (o : OpS) (hm : s.m < 1000) : Con Try.prog 75 [me, .agg (opL o)] (passH s) (fun u H' => u = .c (.int .i64 s.m) ∧ H' = passH' (layS s o)) := by
  (refine con_of_run mixed (fn := Try.f75) (by kernel_rfl) (by kernel_rfl) C75_ok (rs := [.tmp 4]) (by kernel_rfl) (Nat.le_of_ble_eq_true (by kernel_rfl)) ?_; unfold C75; simp only [initT, Nat.reduceAdd])
  simp only [me, passH, passB, passL, opsB, opsW, knB, atB]
  repeat' (first | refine run_seq ?_ | (refine run_region fun K hK => ?_; (try (simp (maxSteps := 10000000) only [opL, partsOf, fillS, repl, rowsFit, rowFn, C75r0, C75r1, C75r2, rwp_nil, rwp_cons, aop, gpath, St.get, slotAt, sfx, eqP, segsOf, St.put, addBlk, getB, setB, delB, ld1, ldn, st1, setRow, rowNeed, segAt, nsub, bin, isShift, sameK, arith, shed, addN, Nat.beq, Seg.size, sizes, cut, takeS, dropS, putS, partsOf, fillS, exOk, Nat.reduceAdd, List.append_nil, List.nil_append, List.cons_append, app])); (repeat (first | (refine And.intro ?_ ?_; · (first | trivial | assumption | omega | exact ⟨by omega, by omega, by omega⟩ | exact ⟨trivial, by omega, by omega⟩ | (intros; first | trivial | assumption | omega))))); with_reducible refine hK _ ?_; clear hK K) | refine run_ret ?_ | refine run_nil ?_)
  have hw : IntKind.i64.wrap (((s.m + 1 : Nat) : Int) - 1) = (s.m : Int) := by rw [IntKind.wrap_i64]; omega
  repeat' (first | refine run_seq ?_ | (refine run_region fun K hK => ?_; (try (simp (maxSteps := 10000000) only [opL, partsOf, fillS, repl, rowsFit, rowFn, cutD, hw, C75r0, C75r1, C75r2, rwp_nil, rwp_cons, rwpK_app, aop, gpath, St.get, slotAt, sfx, eqP, segsOf, St.put, addBlk, getB, setB, delB, ld1, ldn, st1, stn, setRow, rowNeed, segAt, nsub, bin, un, eqB, isShift, sameK, arith, shiftR, getsl, selB_or, selB_and, beqb, shed, addN, Nat.beq, Seg.size, sizes, imp, needP, andN, appL, argsOf, ptrsOf, aasOf, cut, takeS, dropS, putS, partsOf, fillS, fieldOf, nthA, negIf, nilq, nilB, eqS, eqF, eqS1, andP, kin, slcS, strOk, plusA, bndHi, leN, optG, roH, roL, initT, exOk, exAll, wrAddr, Nat.reduceAdd, Nat.reduceSub, Nat.reduceMul, Int.reduceToNat, List.append_nil, List.nil_append, List.cons_append, mapR, mapR1, keyL, keyOk, keyP, colsPut, colsDel, zcols, eqT, idxT, cat, cpy, ite_int, ite_bool, ite_seg, ite_segs, ite_nil, ite_twice, Int.toNat_natCast, app, addBs, tob])); (repeat (first | (refine And.intro ?_ ?_; · (first | trivial | assumption | omega | exact ⟨by omega, by omega, by omega⟩ | exact ⟨trivial, by omega, by omega⟩ | (intros; first | trivial | assumption | omega))))); with_reducible refine hK _ ?_; clear hK K) | refine run_ret ?_ | refine run_nil ?_)
  refine end_of ⟨[⟨4, [], .c (.int .i64 s.m)⟩], passH' (layS s o)⟩ (LeS.intro [0, 1, 2, 3, 4, 7] ids5 (by simp only [diff, notIn, Nat.beq, and_self]) rfl (by simp only [hw, slotsLe, slotAt, leV, leV1, leC, and_self]) ?_) ?_
  · exact ⟨pass_le (layS s o) 1 2 7 4 1 2 5 4 _ _ id rfl rfl rfl rfl, ops_le s.b.n s.b.f false, kn_le s, app_le s.m s.f o, at_le s.na s.a s.a (fun _ _ => rfl), trivial⟩
  · simp only [endF, resL, resA, St.get, slotAt, sfx, eqP, noTup, resV]
    exact ⟨by first | rfl | trivial, by first | rfl | trivial⟩
theorem beq_commG (a b : Nat) : Nat.beq a b = Nat.beq b a := by
  cases h : Nat.beq a b with
  | true => rw [Nat.eq_of_beq_eq_true h, Nat.beq_refl]
  | false =>
    cases h' : Nat.beq b a with
    | false => rfl
    | true => rw [Nat.eq_of_beq_eq_true h', Nat.beq_refl] at h; cases h
theorem drop4 (R F M O A : Nat) (s : PS) : ∀ X : List (Nat × Blk), dropB [R, F, M, O, A] (passH s).blks X = delB (delB (delB (delB X R) M) O) A
  | [] => rfl
  | (k, B) :: r => by
    have ih := drop4 R F M O A s r
    simp only [passH] at ih ⊢
    simp only [dropB, goneB, passB, opsB, knB, opsW, atB, nthO, delB] at ih ⊢
    rw [beq_commG R k, beq_commG M k, beq_commG O k, beq_commG A k]
    cases h1 : Nat.beq k R with
    | true => simp only [ih]
    | false =>
      simp only [delB]
      cases h2 : Nat.beq k M with
      | true => simp only [ih]
      | false =>
        simp only [delB]
        cases h3 : Nat.beq k O with
        | true => simp only [ih]
        | false =>
          simp only [delB]
          cases h4 : Nat.beq k A with
          | true => simp only [ih]
          | false => simp only [ih]
theorem pass_at' {f : FuncId} {rest : List AV} {s s' : PS} {V0 : AV} (h : Con Try.prog f (me :: rest) (passH s) (fun v H' => v = V0 ∧ H' = passH' s')) (hrest : ∀ l, leArgs l rest rest) (hV0 : ∀ g, mapV g V0 = V0) (R F M O A m : Nat) (X : List (Nat × Blk)) (w : Bool) (hd : diff [R, F, M, O, A])
    (hR : getB X R = some (passB F M O A s true)) (hF : getB X F = some ⟨6, some s.b.n, fun i => opL (s.b.f i), 39, w⟩) (hM : getB X M = some (knB s)) (hO : getB X O = some (opsW s.m s.f)) (hA : getB X A = some (atB s.na s.a)) (hl : allLt [R, F, M, O, A] m) (hkl : keysLt X m) :
    Con Try.prog f (.c (.ptr ⟨R, 0, 0, 0⟩) :: rest) ⟨m, X⟩ (fun v H' => v = V0 ∧ H' = ⟨m + 1, (R, passB F M m A s' true) :: (M, knB s') :: (m, opsW s'.m s'.f) :: (A, atB s'.na s'.a) :: delB (delB (delB (delB X R) M) O) A⟩) := by
  refine (h.frame (args := .c (.ptr ⟨R, 0, 0, 0⟩) :: rest) (H := ⟨m, X⟩) [R, F, M, O, A] rfl hd hl hkl ?_ ⟨⟨rfl, rfl, rfl, rfl⟩, hrest _⟩).weaken ?_
  · simp only [passH, leBlks, nthO, hR, hF, hM, hO, hA]
    exact ⟨pass_le s _ _ _ _ _ _ _ _ _ _ id rfl rfl rfl rfl, ops_le s.b.n s.b.f w, kn_le s, opsw_le _ _ _ (fun _ _ => rfl), at_le _ _ _ (fun _ _ => rfl), trivial⟩
  · rintro v H' ⟨v0, H0', ⟨rfl, rfl⟩, rfl, rfl⟩
    refine ⟨hV0 _, ?_⟩
    simp only [framed, drop4]
    rfl
theorem pass_at0 {f : FuncId} {rest : List AV} {s s' : PS} {V0 : AV} (h : Con Try.prog f (me :: rest) (passH s) (fun v H' => v = V0 ∧ H' = passH s')) (hrest : ∀ l, leArgs l rest rest) (hV0 : ∀ g, mapV g V0 = V0) (R F M O A m : Nat) (X : List (Nat × Blk)) (w : Bool) (hd : diff [R, F, M, O, A])
    (hR : getB X R = some (passB F M O A s true)) (hF : getB X F = some ⟨6, some s.b.n, fun i => opL (s.b.f i), 39, w⟩) (hM : getB X M = some (knB s)) (hO : getB X O = some (opsW s.m s.f)) (hA : getB X A = some (atB s.na s.a)) (hl : allLt [R, F, M, O, A] m) (hkl : keysLt X m) :
    Con Try.prog f (.c (.ptr ⟨R, 0, 0, 0⟩) :: rest) ⟨m, X⟩ (fun v H' => v = V0 ∧ H' = ⟨m, (R, passB F M O A s' true) :: (M, knB s') :: (O, opsW s'.m s'.f) :: (A, atB s'.na s'.a) :: delB (delB (delB (delB X R) M) O) A⟩) := by
  refine (h.frame (args := .c (.ptr ⟨R, 0, 0, 0⟩) :: rest) (H := ⟨m, X⟩) [R, F, M, O, A] rfl hd hl hkl ?_ ⟨⟨rfl, rfl, rfl, rfl⟩, hrest _⟩).weaken ?_
  · simp only [passH, leBlks, nthO, hR, hF, hM, hO, hA]
    exact ⟨pass_le s _ _ _ _ _ _ _ _ _ _ id rfl rfl rfl rfl, ops_le s.b.n s.b.f w, kn_le s, opsw_le _ _ _ (fun _ _ => rfl), at_le _ _ _ (fun _ _ => rfl), trivial⟩
  · rintro v H' ⟨v0, H0', ⟨rfl, rfl⟩, rfl, rfl⟩
    refine ⟨hV0 _, ?_⟩
    simp only [framed, drop4]
    rfl
end Go.Proofs.Ytmbnakinhnkabaa

namespace Go.Proofs.Ytmbnakinhnkabaa
open Go.AM
set_option maxRecDepth 100000
set_option linter.unusedSimpArgs false
set_option linter.unusedVariables false
def knK (s : PS) : List Seg := [.a s.kn (fun i => .int .i64 (s.kk i)), .a s.kn (fun i => .int .i64 (s.kr i))]
def knFind (s : PS) (k r : Int) : Nat := findI (keyEq (placeL k r) (knK s)) s.kn
def knPut (s : PS) (k r v : Int) : PS := { s with kn := max s.kn (knFind s k r + 1), kk := fun i => if i = knFind s k r then k else s.kk i, kr := fun i => if i = knFind s k r then r else s.kr i, kv := fun i => if i = knFind s k r then v else s.kv i }
def knDel (s : PS) (k r : Int) : PS := { s with kn := if knFind s k r < s.kn then s.kn - 1 else s.kn, kk := fun i => if i < knFind s k r then s.kk i else s.kk (i + 1), kr := fun i => if i < knFind s k r then s.kr i else s.kr (i + 1), kv := fun i => if i < knFind s k r then s.kv i else s.kv (i + 1) }
def knSet (s : PS) (o : OpS) (k r : Int) : PS := if ((k != 2) || truthF (s.f o.a.toNat)) = true then knPut s k r o.a else knDel s k r
theorem knSet_m (s : PS) (o : OpS) (k r : Int) : (knSet s o k r).m = s.m := by unfold knSet; split <;> rfl
theorem alt5 {m : Nat} (h : 5 ≤ m) : allLt [0, 1, 2, 3, 4] m := ⟨by omega, by omega, by omega, by omega, by omega, trivial⟩
theorem end_set {l : List Slot} {H : Heap} (s' : PS) (m : Int) (hs : slotAt l 6 = some ⟨6, [], .c (.int .i64 m)⟩) (h0 : getB H.blks 0 = some (passB 1 2 7 4 s' true)) (h1 : getB H.blks 1 = some (opsB s'.b.n s'.b.f)) (h2 : getB H.blks 2 = some (knB s')) (h3 : getB H.blks 7 = some (opsW s'.m s'.f)) (h4 : getB H.blks 4 = some (atB s'.na s'.a)) :
    endQ (LeS 5) [.tmp 6] (fun u H' => u = .c (.int .i64 m) ∧ H' = passH' s') .ret ⟨l, H⟩ := by
  refine end_of ⟨[⟨6, [], .c (.int .i64 m)⟩], passH' s'⟩ (LeS.intro [0, 1, 2, 3, 4, 7] ids5 (by simp only [diff, notIn, Nat.beq, and_self]) rfl (by simp only [slotsLe, hs, leV, leV1, leC, and_self]) ?_) ?_
  · simp only [passH', leBlks, nthO, h0, h1, h2, h3, h4]
    exact ⟨pass_le s' 1 2 7 4 1 2 5 4 _ _ id rfl rfl rfl rfl, ops_le _ _ false, kn_le s', opsw_le _ _ _ (fun _ _ => rfl), at_le _ _ _ (fun _ _ => rfl), trivial⟩
  · simp only [endF, resL, resA, St.get, slotAt, sfx, eqP, noTup, resV]
    exact ⟨by first | rfl | trivial, by first | rfl | trivial⟩
set_option maxHeartbeats 2000000 in
theorem con74 (s : PS) (o : OpS) (k r : Int) (v : Nat) (ha : o.a = (v : Int)) (hv : v < s.m) (hm : s.m < 1000) : Con Try.prog 74 [me, .agg (opL o), .agg (placeL k r)] (passH s) (fun u H' => u = .c (.int .i64 s.m) ∧ H' = passH' (layS (knSet s o k r) o)) := by
  obtain ⟨kd, ro, oa, ob, oo, im⟩ := o
  simp only at ha
  subst ha
  generalize hS : knSet s ⟨kd, ro, (v : Int), ob, oo, im⟩ k r = S
  unfold knSet at hS
  simp only [Int.toNat_natCast] at hS
  (refine con_of_run mixed (fn := Try.f74) (by kernel_rfl) (by kernel_rfl) C74_ok (rs := [.tmp 6]) (by kernel_rfl) (Nat.le_of_ble_eq_true (by kernel_rfl)) ?_; unfold C74; simp only [initT, Nat.reduceAdd])
  simp only [me, passH, passB, passL, opsB, opsW, knB, atB]
  repeat' (first | refine run_seq ?_ | (refine run_region fun K hK => ?_; (try (simp (maxSteps := 10000000) only [opL, placeL, C74r0, C74r1, C74r2, C74r3, rwp_nil, rwp_cons, aop, gpath, St.get, slotAt, sfx, eqP, segsOf, St.put, addBlk, getB, setB, ld1, ldn, rowNeed, segAt, nsub, bin, isShift, sameK, arith, beqb, shed, addN, Nat.beq, Seg.size, sizes, appL, argsOf, ptrsOf, cut, takeS, dropS, kin, exOk, Nat.reduceAdd, mapR, mapR1, keyL, keyOk, keyP, colsPut, colsDel, ite_int])); (repeat (first | (refine And.intro ?_ ?_; · (first | trivial | assumption | omega | exact ⟨by omega, by omega, by omega⟩ | exact ⟨trivial, by omega, by omega⟩ | exact ⟨fun _ _ => trivial, fun _ _ => trivial, trivial⟩ | (intros; first | trivial | assumption | omega))) | ((first | (refine call_t _ (passR_at (con100 s v hv) (fun l => by simp only [leArgs, leV, leV1, leC, and_self]) (fun g => rfl) 0 1 2 3 4 _ _ _ _ (by simp only [diff, notIn, Nat.beq, and_self]) rfl rfl (alt5 (Nat.le_of_ble_eq_true rfl)) (by simp [roL, keysLt])) ?_; rintro v H' ⟨rfl, rfl⟩) | refine call_q _ (passR_at (con100 s v hv) (fun l => by simp only [leArgs, leV, leV1, leC, and_self]) (fun g => rfl) 0 1 2 3 4 _ _ _ _ (by simp only [diff, notIn, Nat.beq, and_self]) rfl rfl (alt5 (Nat.le_of_ble_eq_true rfl)) (by simp [roL, keysLt])) ?_ | refine call_g _ (imp_of (passR_at (con100 s v hv) (fun l => by simp only [leArgs, leV, leV1, leC, and_self]) (fun g => rfl) 0 1 2 3 4 _ _ _ _ (by simp only [diff, notIn, Nat.beq, and_self]) rfl rfl (alt5 (Nat.le_of_ble_eq_true rfl)) (by simp [roL, keysLt]))) ?_); simp (maxSteps := 10000000) only [rwp_nil, rwp_cons, rwpK_app, aop, gpath, St.get, slotAt, sfx, eqP, St.put, addBlk, getsl, selB_or, beqb, shed]))); with_reducible refine hK _ ?_; clear hK K) | (refine run_cond rfl (fun hc => ?_) (fun hc => ?_) <;> try (simp only [*, Bool.true_eq_false, Bool.false_eq_true, Bool.not_true, Bool.not_false, Bool.true_or, Bool.or_true, Bool.false_or, Bool.or_false, Bool.false_and, Bool.and_false, bne_self_eq_false, beq_self_eq_true] at hc; done)) | refine run_ret ?_ | refine run_nil ?_)
  · rw [if_pos hc] at hS
    subst hS
    repeat' (first | refine run_seq ?_ | (refine run_region fun K hK => ?_; (try (simp (maxSteps := 10000000) only [C74r4, rwp_cons, aop, gpath, St.get, slotAt, sfx, eqP, St.put, addBlk, getB, ldn, rowNeed, nsub, Seg.size, appL, argsOf, ptrsOf, cut, takeS, dropS, Nat.reduceAdd])); (repeat (first | (refine And.intro ?_ ?_; · (first | trivial | assumption | omega | exact ⟨by omega, by omega, by omega⟩ | exact ⟨trivial, by omega, by omega⟩ | exact ⟨fun _ _ => trivial, fun _ _ => trivial, trivial⟩ | (intros; first | trivial | assumption | omega))) | ((first | (refine call_t _ (pass_at' (con75 (knPut s k r v) ⟨kd, ro, (v : Int), ob, oo, im⟩ hm) (fun l => by simp only [opL, leArgs, leV, leV1, leSegs, leSeg, leC, and_self]) (fun g => rfl) 0 1 2 3 4 _ _ _ (by simp only [diff, notIn, Nat.beq, and_self]) rfl rfl rfl rfl rfl (alt5 (Nat.le_of_ble_eq_true rfl)) (by simp [keysLt])) ?_; rintro v H' ⟨rfl, rfl⟩) | refine call_q _ (pass_at' (con75 (knPut s k r v) ⟨kd, ro, (v : Int), ob, oo, im⟩ hm) (fun l => by simp only [opL, placeL, leArgs, leV, leV1, leSegs, leSeg, leC, and_self]) (fun g => rfl) 0 1 2 3 4 _ _ _ (by simp only [diff, notIn, Nat.beq, and_self]) rfl rfl rfl rfl rfl (alt5 (Nat.le_of_ble_eq_true rfl)) (by simp [keysLt])) ?_ | refine call_g _ (imp_of (pass_at' (con75 (knPut s k r v) ⟨kd, ro, (v : Int), ob, oo, im⟩ hm) (fun l => by simp only [opL, leArgs, leV, leV1, leSegs, leSeg, leC, and_self]) (fun g => rfl) 0 1 2 3 4 _ _ _ (by simp only [diff, notIn, Nat.beq, and_self]) rfl rfl rfl rfl rfl (alt5 (Nat.le_of_ble_eq_true rfl)) (by simp [keysLt]))) ?_); simp (maxSteps := 10000000) only [rwp_nil, rwp_cons, rwpK_app, aop, gpath, St.get, slotAt, sfx, eqP, St.put, addBlk, delB, shed, Nat.reduceAdd]))); with_reducible refine hK _ ?_; clear hK K) | (refine run_cond rfl (fun hc => ?_) (fun hc => ?_) <;> try (simp only [*, Bool.true_eq_false, Bool.false_eq_true, Bool.not_true, Bool.not_false, Bool.true_or, Bool.or_true, Bool.false_or, Bool.or_false, Bool.false_and, Bool.and_false, bne_self_eq_false, beq_self_eq_true] at hc; done)) | refine run_ret ?_ | refine run_nil ?_)
    exact end_set (layS (knPut s k r v) ⟨kd, ro, (v : Int), ob, oo, im⟩) _ rfl rfl rfl rfl rfl rfl
  · rw [if_neg (by rw [hc]; exact Bool.false_ne_true)] at hS
    subst hS
    repeat' (first | refine run_seq ?_ | (refine run_region fun K hK => ?_; (try (simp (maxSteps := 10000000) only [C74r4, rwp_cons, aop, gpath, St.get, slotAt, sfx, eqP, St.put, addBlk, getB, ldn, rowNeed, nsub, Seg.size, appL, argsOf, ptrsOf, cut, takeS, dropS, Nat.reduceAdd])); (repeat (first | (refine And.intro ?_ ?_; · (first | trivial | assumption | omega | exact ⟨by omega, by omega, by omega⟩ | exact ⟨trivial, by omega, by omega⟩ | exact ⟨fun _ _ => trivial, fun _ _ => trivial, trivial⟩ | (intros; first | trivial | assumption | omega))) | ((first | (refine call_t _ (pass_at' (con75 (knDel s k r) ⟨kd, ro, (v : Int), ob, oo, im⟩ hm) (fun l => by simp only [opL, leArgs, leV, leV1, leSegs, leSeg, leC, and_self]) (fun g => rfl) 0 1 2 3 4 _ _ _ (by simp only [diff, notIn, Nat.beq, and_self]) rfl rfl rfl rfl rfl (alt5 (Nat.le_of_ble_eq_true rfl)) (by simp [keysLt])) ?_; rintro v H' ⟨rfl, rfl⟩) | refine call_q _ (pass_at' (con75 (knDel s k r) ⟨kd, ro, (v : Int), ob, oo, im⟩ hm) (fun l => by simp only [opL, placeL, leArgs, leV, leV1, leSegs, leSeg, leC, and_self]) (fun g => rfl) 0 1 2 3 4 _ _ _ (by simp only [diff, notIn, Nat.beq, and_self]) rfl rfl rfl rfl rfl (alt5 (Nat.le_of_ble_eq_true rfl)) (by simp [keysLt])) ?_ | refine call_g _ (imp_of (pass_at' (con75 (knDel s k r) ⟨kd, ro, (v : Int), ob, oo, im⟩ hm) (fun l => by simp only [opL, leArgs, leV, leV1, leSegs, leSeg, leC, and_self]) (fun g => rfl) 0 1 2 3 4 _ _ _ (by simp only [diff, notIn, Nat.beq, and_self]) rfl rfl rfl rfl rfl (alt5 (Nat.le_of_ble_eq_true rfl)) (by simp [keysLt]))) ?_); simp (maxSteps := 10000000) only [rwp_nil, rwp_cons, rwpK_app, aop, gpath, St.get, slotAt, sfx, eqP, St.put, addBlk, delB, shed, Nat.reduceAdd]))); with_reducible refine hK _ ?_; clear hK K) | (refine run_cond rfl (fun hc => ?_) (fun hc => ?_) <;> try (simp only [*, Bool.true_eq_false, Bool.false_eq_true, Bool.not_true, Bool.not_false, Bool.true_or, Bool.or_true, Bool.false_or, Bool.or_false, Bool.false_and, Bool.and_false, bne_self_eq_false, beq_self_eq_true] at hc; done)) | refine run_ret ?_ | refine run_nil ?_)
    exact end_set (layS (knDel s k r) ⟨kd, ro, (v : Int), ob, oo, im⟩) _ rfl rfl rfl rfl rfl rfl
end Go.Proofs.Ytmbnakinhnkabaa

namespace Go.Proofs.Ytmbnakinhnkabaa
open Go.AM
set_option maxRecDepth 100000
set_option linter.unusedSimpArgs false
set_option linter.unusedVariables false
structure One where
  s : PS
  v : Int
  e : Bool
  l : Bool
def constO (n : Int) : OpS := ⟨1, 0, 0, 0, 0, n⟩
def exitO (n : Int) : OpS := ⟨16, 0, 0, 0, 0, n⟩
def isC (s : PS) (v : Int) : Bool := (s.f v.toNat).kind == 1
def layO (s : PS) (o : OpS) : One := ⟨layS s o, s.m, false, true⟩
def oneP (s : PS) (o : OpS) : One :=
  if placeOk o = true then
    if placeSet o = true then ⟨layS (knSet s o (placeK o) (placeR o)) o, s.m, false, true⟩
    else if knFind s (placeK o) (placeR o) < s.kn then ⟨s, s.kv (knFind s (placeK o) (placeR o)), false, false⟩
    else ⟨knPut (layS s o) (placeK o) (placeR o) s.m, s.m, false, true⟩
  else if o.kind = 8 then
    if (isC s o.a && isC s o.b) = true then layO s (constO (reckS o.r (s.f o.a.toNat).imm (s.f o.b.toNat).imm).1) else layO s o
  else if o.kind = 15 then
    if isC s o.a = true then (if (s.f o.a.toNat).imm = 0 then ⟨s, -1, false, false⟩ else ⟨layS s (exitO o.imm), s.m, true, true⟩) else layO s o
  else layO s o
def oneH (r : One) : Heap := if r.l = true then passH' r.s else passH r.s
def retOne (r : One) : AV := .tup [.c (.int .i64 r.v), .c (.bool r.e)]
structure FitP (s : PS) (o : OpS) : Prop where
  m : s.m < 1000
  a : 1 ≤ usesS o.kind → 0 ≤ o.a ∧ o.a < s.m
  b : 2 ≤ usesS o.kind → 0 ≤ o.b ∧ o.b < s.m
theorem end_one {l : List Slot} {H : Heap} (r T : One) (hT : r = T) (hl : r.l = true) (s4 : slotAt l 4 = some ⟨4, [], .c (.int .i64 r.v)⟩) (s5 : slotAt l 5 = some ⟨5, [], .c (.bool r.e)⟩) (h0 : getB H.blks 0 = some (passB 1 2 7 4 r.s true)) (h1 : getB H.blks 1 = some (opsB r.s.b.n r.s.b.f)) (h2 : getB H.blks 2 = some (knB r.s)) (h3 : getB H.blks 7 = some (opsW r.s.m r.s.f)) (h4 : getB H.blks 4 = some (atB r.s.na r.s.a)) :
    endQ (LeS 5) [.tmp 4, .tmp 5] (fun u H' => u = retOne T ∧ H' = oneH T) .ret ⟨l, H⟩ := by
  subst hT
  refine end_of ⟨[⟨4, [], .c (.int .i64 r.v)⟩, ⟨5, [], .c (.bool r.e)⟩], passH' r.s⟩ (LeS.intro [0, 1, 2, 3, 4, 7] ids5 (by simp only [diff, notIn, Nat.beq, and_self]) rfl (by simp only [slotsLe, s4, s5, leV, leV1, leC, and_self]) ?_) ?_
  · simp only [passH', leBlks, nthO, h0, h1, h2, h3, h4]
    exact ⟨pass_le r.s 1 2 7 4 1 2 5 4 _ _ id rfl rfl rfl rfl, ops_le _ _ false, kn_le r.s, opsw_le _ _ _ (fun _ _ => rfl), at_le _ _ _ (fun _ _ => rfl), trivial⟩
  · simp only [endF, resL, resA, St.get, slotAt, sfx, eqP, noTup, resV]
    exact ⟨by first | rfl | trivial, by unfold oneH; rw [if_pos hl]⟩
theorem end_one0 {l : List Slot} {H : Heap} (r T : One) (hT : r = T) (hl : r.l = false) (s4 : slotAt l 4 = some ⟨4, [], .c (.int .i64 r.v)⟩) (s5 : slotAt l 5 = some ⟨5, [], .c (.bool r.e)⟩) (h0 : getB H.blks 0 = some (passB 1 2 3 4 r.s true)) (h1 : getB H.blks 1 = some (opsB r.s.b.n r.s.b.f)) (h2 : getB H.blks 2 = some (knB r.s)) (h3 : getB H.blks 3 = some (opsW r.s.m r.s.f)) (h4 : getB H.blks 4 = some (atB r.s.na r.s.a)) :
    endQ (LeS 5) [.tmp 4, .tmp 5] (fun u H' => u = retOne T ∧ H' = oneH T) .ret ⟨l, H⟩ := by
  subst hT
  refine end_of ⟨[⟨4, [], .c (.int .i64 r.v)⟩, ⟨5, [], .c (.bool r.e)⟩], passH r.s⟩ (LeS.intro [0, 1, 2, 3, 4] ids5 (by simp only [diff, notIn, Nat.beq, and_self]) rfl (by simp only [slotsLe, s4, s5, leV, leV1, leC, and_self]) ?_) ?_
  · simp only [passH, leBlks, nthO, h0, h1, h2, h3, h4]
    exact ⟨pass_le r.s 1 2 3 4 1 2 3 4 _ _ id rfl rfl rfl rfl, ops_le _ _ false, kn_le r.s, opsw_le _ _ _ (fun _ _ => rfl), at_le _ _ _ (fun _ _ => rfl), trivial⟩
  · simp only [endF, resL, resA, St.get, slotAt, sfx, eqP, noTup, resV]
    exact ⟨by first | rfl | trivial, by unfold oneH; rw [if_neg (by rw [hl]; exact Bool.false_ne_true)]⟩
theorem knSet_b (s : PS) (o : OpS) (k r : Int) : (knSet s o k r).b = s.b := by unfold knSet; split <;> rfl
theorem usesS_set {o : OpS} (h1 : placeOk o = true) (h2 : placeSet o = true) : 1 ≤ usesS o.kind := by
  unfold placeSet at h2
  simp only [Bool.or_eq_true, beq_iff_eq] at h2
  rcases h2 with (h | h) | h <;> rw [h] <;> decide
set_option maxHeartbeats 4000000 in
theorem con48_set (s : PS) (o : OpS) (hf : FitP s o) (h1 : placeOk o = true) (h2 : placeSet o = true) : Con Try.prog 48 [me, .agg (opL o)] (passH s) (fun u H' => u = retOne (oneP s o) ∧ H' = oneH (oneP s o)) := by
  have hT : (⟨layS (knSet s o (placeK o) (placeR o)) o, s.m, false, true⟩ : One) = oneP s o := by unfold oneP; rw [if_pos h1, if_pos h2]
  generalize oneP s o = T at hT ⊢
  obtain ⟨ha0, ha1⟩ := hf.a (usesS_set h1 h2)
  have hm := hf.m
  (refine con_of_run mixed (fn := Try.f48) (by kernel_rfl) (by kernel_rfl) C48_ok (rs := [.tmp 4, .tmp 5]) (by kernel_rfl) (Nat.le_of_ble_eq_true (by kernel_rfl)) ?_; unfold C48; simp only [initT, Nat.reduceAdd])
  generalize hk : placeK o = k at hT
  generalize hr : placeR o = r at hT
  simp only [me, passH, passB, passL, opsB, opsW, knB, atB]
  repeat' (first | refine run_seq ?_ | refine run_skip ?_ | (refine run_region fun K hK => ?_; (try (simp (maxSteps := 10000000) only [Bool.and_self, opL, C48r0, C48r1, C48r2, C48r3, rwp_nil, rwp_cons, aop, gpath, St.get, slotAt, sfx, eqP, segsOf, St.put, addBlk, getB, ldn, rowNeed, nsub, getsl, selB_and, beqb, shed, Seg.size, sizes, appL, argsOf, ptrsOf, cut, takeS, dropS, Nat.reduceAdd])); (repeat (first | (refine And.intro ?_ ?_; · (first | trivial | assumption | omega | exact ⟨by omega, by omega, by omega⟩ | exact ⟨trivial, by omega, by omega⟩ | exact ⟨fun _ _ => trivial, fun _ _ => trivial, trivial⟩ | (intros; first | trivial | assumption | omega))) | ((first | (refine call_t _ (con73 o _) ?_; rintro v H' ⟨rfl, rfl⟩) | refine call_q _ (con73 o _) ?_ | refine call_g _ (imp_of (con73 o _)) ?_ | (refine call_t _ (pass_at' (con74 s o k r o.a.toNat (Int.toNat_of_nonneg ha0).symm (by omega) hm) (fun l => by simp only [opL, placeL, leArgs, leV, leV1, leSegs, leSeg, leC, and_self]) (fun g => rfl) 0 1 2 3 4 _ _ _ (by simp only [diff, notIn, Nat.beq, and_self]) rfl rfl rfl rfl rfl (alt5 (Nat.le_of_ble_eq_true rfl)) (by simp [keysLt])) ?_; rintro v H' ⟨rfl, rfl⟩) | refine call_q _ (pass_at' (con74 s o k r o.a.toNat (Int.toNat_of_nonneg ha0).symm (by omega) hm) (fun l => by simp only [opL, placeL, leArgs, leV, leV1, leSegs, leSeg, leC, and_self]) (fun g => rfl) 0 1 2 3 4 _ _ _ (by simp only [diff, notIn, Nat.beq, and_self]) rfl rfl rfl rfl rfl (alt5 (Nat.le_of_ble_eq_true rfl)) (by simp [keysLt])) ?_ | refine call_g _ (imp_of (pass_at' (con74 s o k r o.a.toNat (Int.toNat_of_nonneg ha0).symm (by omega) hm) (fun l => by simp only [opL, placeL, leArgs, leV, leV1, leSegs, leSeg, leC, and_self]) (fun g => rfl) 0 1 2 3 4 _ _ _ (by simp only [diff, notIn, Nat.beq, and_self]) rfl rfl rfl rfl rfl (alt5 (Nat.le_of_ble_eq_true rfl)) (by simp [keysLt]))) ?_); simp (maxSteps := 10000000) only [hk, hr, h1, h2, placeL, rwp_nil, rwp_cons, rwpK_app, aop, gpath, St.get, slotAt, sfx, eqP, St.put, addBlk, getB, setB, delB, stn, setRow, rowNeed, nsub, shed, Nat.beq, Seg.size, sizes, takeS, dropS, putS, nthA, exOk, Nat.reduceAdd, List.append_nil, List.nil_append]))); with_reducible refine hK _ ?_; clear hK K) | (refine run_cond rfl (fun hc => ?_) (fun hc => ?_) <;> try (simp only [*, Bool.true_eq_false] at hc; done)) | refine run_block ?_ | refine run_ret ?_ | refine run_nil ?_ | refine blk_normal ?_ | refine blk_ret ?_ | refine blk_here ?_ | refine blk_there rfl ?_)
  exact end_one _ _ hT rfl rfl rfl rfl (by show _ = some (opsB (knSet s o k r).b.n (knSet s o k r).b.f); rw [knSet_b]; rfl) rfl rfl rfl
set_option maxHeartbeats 4000000 in
theorem con48_get (s : PS) (o : OpS) (hf : FitP s o) (h1 : placeOk o = true) (h2 : placeSet o = false) : Con Try.prog 48 [me, .agg (opL o)] (passH s) (fun u H' => u = retOne (oneP s o) ∧ H' = oneH (oneP s o)) := by
  have hT : (if knFind s (placeK o) (placeR o) < s.kn then ⟨s, s.kv (knFind s (placeK o) (placeR o)), false, false⟩
    else ⟨knPut (layS s o) (placeK o) (placeR o) s.m, s.m, false, true⟩ : One) = oneP s o := by simp only [oneP, h1, h2, if_true, Bool.false_eq_true, if_false]
  generalize oneP s o = T at hT ⊢
  have hm := hf.m
  (refine con_of_run mixed (fn := Try.f48) (by kernel_rfl) (by kernel_rfl) C48_ok (rs := [.tmp 4, .tmp 5]) (by kernel_rfl) (Nat.le_of_ble_eq_true (by kernel_rfl)) ?_; unfold C48; simp only [initT, Nat.reduceAdd])
  generalize hk : placeK o = k at hT
  generalize hr : placeR o = r at hT
  simp only [me, passH, passB, passL, opsB, opsW, knB, atB]
  repeat' (first | refine run_seq ?_ | refine run_skip ?_ | (refine run_region fun K hK => ?_; (try (simp (maxSteps := 10000000) only [Bool.true_and, opL, C48r0, C48r1, C48r2, C48r4, C48r5, C48r6, C48r7, rwp_nil, rwp_cons, aop, gpath, St.get, slotAt, sfx, eqP, segsOf, St.put, addBlk, getB, ld1, ldn, rowNeed, segAt, nsub, sameK, getsl, selB_and, beqb, shed, addN, Nat.beq, Seg.size, sizes, appL, argsOf, ptrsOf, cut, takeS, dropS, nthA, kin, exOk, Nat.reduceAdd, mapR, mapR1, keyL, keyOk, keyP, ite_int])); (repeat (first | (refine And.intro ?_ ?_; · (first | trivial | assumption | omega | exact ⟨by omega, by omega, by omega⟩ | exact ⟨trivial, by omega, by omega⟩ | exact ⟨fun _ _ => trivial, fun _ _ => trivial, trivial⟩ | (intros; first | trivial | assumption | omega))) | ((first | (refine call_t _ (con73 o _) ?_; rintro v H' ⟨rfl, rfl⟩) | refine call_q _ (con73 o _) ?_ | refine call_g _ (imp_of (con73 o _)) ?_); simp (maxSteps := 10000000) only [hk, hr, h1, h2, placeL, rwp_nil, rwp_cons, rwpK_app, aop, gpath, St.get, slotAt, sfx, eqP, St.put, addBlk, getB, setB, stn, setRow, rowNeed, nsub, shed, Nat.beq, Seg.size, sizes, takeS, dropS, putS, nthA, exOk, Nat.reduceAdd, List.append_nil, List.nil_append]))); with_reducible refine hK _ ?_; clear hK K) | (refine run_cond rfl (fun hc => ?_) (fun hc => ?_) <;> try (simp only [*, Bool.true_eq_false, Bool.false_eq_true] at hc; done)) | refine run_block ?_ | refine run_ret ?_ | refine run_nil ?_ | refine blk_normal ?_ | refine blk_ret ?_ | refine blk_here ?_ | refine blk_there rfl ?_)
  · have hj : knFind s k r < s.kn := of_decide_eq_true hc
    rw [if_pos hj] at hT
    refine end_one0 _ _ hT rfl ?_ rfl rfl rfl rfl rfl rfl
    show some (⟨4, [], .c (.int .i64 (if knFind s k r < s.kn then s.kv (knFind s k r) else 0))⟩ : Slot) = _
    rw [if_pos hj]
  · have hj : ¬ knFind s k r < s.kn := of_decide_eq_false hc
    rw [if_neg hj] at hT
    repeat' (first | refine run_seq ?_ | refine run_skip ?_ | (refine run_region fun K hK => ?_; (try (simp (maxSteps := 10000000) only [C48r8, C48r9, C48r10, rwp_nil, rwp_cons, aop, gpath, St.get, slotAt, sfx, eqP, St.put, addBlk, getB, setB, ld1, ldn, rowNeed, segAt, nsub, sameK, shed, addN, Nat.beq, Seg.size, appL, argsOf, ptrsOf, cut, takeS, dropS, kin, exOk, Nat.reduceAdd, mapR, mapR1, keyL, keyOk, keyP, colsPut, ite_int])); (repeat (first | (refine And.intro ?_ ?_; · (first | trivial | assumption | omega | exact ⟨by omega, by omega, by omega⟩ | exact ⟨trivial, by omega, by omega⟩ | exact ⟨fun _ _ => trivial, fun _ _ => trivial, trivial⟩ | (intros; first | trivial | assumption | omega))) | ((first | (refine call_t _ (pass_at' (con75 s o hm) (fun l => by simp only [opL, leArgs, leV, leV1, leSegs, leSeg, leC, and_self]) (fun g => rfl) 0 1 2 3 4 _ _ _ (by simp only [diff, notIn, Nat.beq, and_self]) rfl rfl rfl rfl rfl (alt5 (Nat.le_of_ble_eq_true rfl)) (by simp [keysLt])) ?_; rintro v H' ⟨rfl, rfl⟩) | refine call_q _ (pass_at' (con75 s o hm) (fun l => by simp only [opL, placeL, leArgs, leV, leV1, leSegs, leSeg, leC, and_self]) (fun g => rfl) 0 1 2 3 4 _ _ _ (by simp only [diff, notIn, Nat.beq, and_self]) rfl rfl rfl rfl rfl (alt5 (Nat.le_of_ble_eq_true rfl)) (by simp [keysLt])) ?_ | refine call_g _ (imp_of (pass_at' (con75 s o hm) (fun l => by simp only [opL, leArgs, leV, leV1, leSegs, leSeg, leC, and_self]) (fun g => rfl) 0 1 2 3 4 _ _ _ (by simp only [diff, notIn, Nat.beq, and_self]) rfl rfl rfl rfl rfl (alt5 (Nat.le_of_ble_eq_true rfl)) (by simp [keysLt]))) ?_); simp (maxSteps := 10000000) only [opL, knB, layS, passB, passL, opsW, atB, rwp_nil, rwp_cons, rwpK_app, aop, gpath, St.get, slotAt, sfx, eqP, St.put, addBlk, delB, shed, Nat.reduceAdd]))); with_reducible refine hK _ ?_; clear hK K) | (refine run_cond rfl (fun hc => ?_) (fun hc => ?_) <;> try (simp only [*, Bool.true_eq_false, Bool.false_eq_true, Bool.not_true, Bool.not_false, Bool.true_or, Bool.or_true, Bool.false_or, Bool.or_false, Bool.false_and, Bool.and_false, bne_self_eq_false, beq_self_eq_true] at hc; done)) | refine run_block ?_ | refine run_ret ?_ | refine run_nil ?_ | refine blk_normal ?_ | refine blk_ret ?_ | refine blk_here ?_ | refine blk_there rfl ?_)
    exact end_one _ _ hT rfl rfl rfl rfl rfl rfl rfl rfl
theorem con76' (s : PS) (v : Int) (h : 0 ≤ v ∧ v < s.m) : Con Try.prog 76 [me, .c (.int .i64 v)] (passR s) (fun u H' => u = .tup [.c (.int .u64 (s.f v.toNat).imm), .c (.bool (isC s v))] ∧ H' = passR s) := by
  have := con76 s v.toNat (by omega)
  rwa [Int.toNat_of_nonneg h.1] at this
theorem place_no {o : OpS} (h : o.kind ≠ 2 ∧ o.kind ≠ 3 ∧ o.kind ≠ 4 ∧ o.kind ≠ 5 ∧ o.kind ≠ 6 ∧ o.kind ≠ 7) : placeOk o = false := by
  unfold placeOk
  simp only [Bool.or_eq_false_iff, beq_eq_false_iff_ne, ne_eq]
  exact ⟨⟨⟨⟨⟨h.1, h.2.1⟩, h.2.2.1⟩, h.2.2.2.1⟩, h.2.2.2.2.1⟩, h.2.2.2.2.2⟩
set_option maxHeartbeats 4000000 in
theorem con48_alu (s : PS) (o : OpS) (hf : FitP s o) (hk8 : o.kind = 8) : Con Try.prog 48 [me, .agg (opL o)] (passH s) (fun u H' => u = retOne (oneP s o) ∧ H' = oneH (oneP s o)) := by
  have h1 : placeOk o = false := place_no (by rw [hk8]; decide)
  have hT : (if (isC s o.a && isC s o.b) = true then layO s (constO (reckS o.r (s.f o.a.toNat).imm (s.f o.b.toNat).imm).1) else layO s o : One) = oneP s o := by simp only [oneP, h1, hk8, if_true, Bool.false_eq_true, if_false]
  generalize oneP s o = T at hT ⊢
  have hm := hf.m
  have hfa := hf.a (by rw [hk8]; decide)
  have hfb := hf.b (by rw [hk8]; decide)
  (refine con_of_run mixed (fn := Try.f48) (by kernel_rfl) (by kernel_rfl) C48_ok (rs := [.tmp 4, .tmp 5]) (by kernel_rfl) (Nat.le_of_ble_eq_true (by kernel_rfl)) ?_; unfold C48; simp only [initT, Nat.reduceAdd])
  simp only [me, passH, passB, passL, opsB, opsW, knB, atB]
  repeat' (first | refine run_seq ?_ | refine run_skip ?_ | (refine run_region fun K hK => ?_; (try (simp (maxSteps := 10000000) only [opL, C48r0, C48r1, C48r2, C48r4, C48r11, C48r12, C48r13, C48r14, rwp_nil, rwp_cons, aop, gpath, St.get, slotAt, sfx, eqP, segsOf, St.put, addBlk, getB, ld1, ldn, rowNeed, segAt, nsub, bin, isShift, sameK, arith, getsl, selB_and, beqb, shed, addN, Seg.size, sizes, appL, argsOf, ptrsOf, cut, takeS, dropS, Nat.reduceAdd])); (repeat (first | (refine And.intro ?_ ?_; · (first | trivial | assumption | omega | exact ⟨by omega, by omega, by omega⟩ | exact ⟨trivial, by omega, by omega⟩ | exact ⟨fun _ _ => trivial, fun _ _ => trivial, trivial⟩ | (intros; first | trivial | assumption | omega))) | ((first | (refine call_t _ (con73 o _) ?_; rintro v H' ⟨rfl, rfl⟩) | refine call_q _ (con73 o _) ?_ | refine call_g _ (imp_of (con73 o _)) ?_ | (refine call_t _ (passR_at (con76' s o.a hfa) (fun l => by simp only [leArgs, leV, leV1, leC, and_self]) (fun g => rfl) 0 1 2 3 4 _ _ _ _ (by simp only [diff, notIn, Nat.beq, and_self]) rfl rfl (alt5 (Nat.le_of_ble_eq_true rfl)) (by simp [keysLt])) ?_; rintro v H' ⟨rfl, rfl⟩) | refine call_q _ (passR_at (con76' s o.a hfa) (fun l => by simp only [leArgs, leV, leV1, leC, and_self]) (fun g => rfl) 0 1 2 3 4 _ _ _ _ (by simp only [diff, notIn, Nat.beq, and_self]) rfl rfl (alt5 (Nat.le_of_ble_eq_true rfl)) (by simp [roL, keysLt])) ?_ | refine call_g _ (imp_of (passR_at (con76' s o.a hfa) (fun l => by simp only [leArgs, leV, leV1, leC, and_self]) (fun g => rfl) 0 1 2 3 4 _ _ _ _ (by simp only [diff, notIn, Nat.beq, and_self]) rfl rfl (alt5 (Nat.le_of_ble_eq_true rfl)) (by simp [roL, keysLt]))) ?_ | (refine call_t _ (passR_at (con76' s o.b hfb) (fun l => by simp only [leArgs, leV, leV1, leC, and_self]) (fun g => rfl) 0 1 2 3 4 _ _ _ _ (by simp only [diff, notIn, Nat.beq, and_self]) rfl rfl (alt5 (Nat.le_of_ble_eq_true rfl)) (by simp [keysLt])) ?_; rintro v H' ⟨rfl, rfl⟩) | refine call_q _ (passR_at (con76' s o.b hfb) (fun l => by simp only [leArgs, leV, leV1, leC, and_self]) (fun g => rfl) 0 1 2 3 4 _ _ _ _ (by simp only [diff, notIn, Nat.beq, and_self]) rfl rfl (alt5 (Nat.le_of_ble_eq_true rfl)) (by simp [roL, keysLt])) ?_ | refine call_g _ (imp_of (passR_at (con76' s o.b hfb) (fun l => by simp only [leArgs, leV, leV1, leC, and_self]) (fun g => rfl) 0 1 2 3 4 _ _ _ _ (by simp only [diff, notIn, Nat.beq, and_self]) rfl rfl (alt5 (Nat.le_of_ble_eq_true rfl)) (by simp [roL, keysLt]))) ?_); simp (maxSteps := 10000000) only [h1, placeL, rwp_nil, rwp_cons, rwpK_app, aop, gpath, St.get, slotAt, sfx, eqP, St.put, addBlk, getB, setB, stn, setRow, rowNeed, nsub, shed, Nat.beq, Seg.size, sizes, takeS, dropS, putS, nthA, exOk, Nat.reduceAdd, List.append_nil, List.nil_append]))); with_reducible refine hK _ ?_; clear hK K) | (refine run_cond rfl (fun hc => ?_) (fun hc => ?_) <;> try (simp only [*, Bool.true_eq_false, Bool.false_eq_true, Bool.false_and, beq_self_eq_true] at hc; done)) | refine run_block ?_ | refine run_ret ?_ | refine run_nil ?_ | refine blk_normal ?_ | refine blk_ret ?_ | refine blk_here ?_ | refine blk_there rfl ?_)
  · rw [if_pos hc] at hT
    repeat' (first | refine run_seq ?_ | refine run_skip ?_ | (refine run_region fun K hK => ?_; (try (simp (maxSteps := 10000000) only [partsOf, fillS, C48r15, C48r16, rwp_cons, aop, gpath, St.get, slotAt, sfx, eqP, segsOf, St.put, addBlk, getB, ld1, rowNeed, segAt, nsub, addN, Nat.beq, Seg.size, sizes, appL, argsOf, ptrsOf, takeS, dropS, putS, partsOf, fillS, Nat.reduceAdd, List.append_nil, List.nil_append, List.cons_append])); (repeat (first | (refine And.intro ?_ ?_; · (first | trivial | assumption | omega | exact ⟨by omega, by omega, by omega⟩ | exact ⟨trivial, by omega, by omega⟩ | exact ⟨fun _ _ => trivial, fun _ _ => trivial, trivial⟩ | (intros; first | trivial | assumption | omega))) | ((first | (refine call_t _ (con31 _ _ _ _) ?_; rintro v H' ⟨rfl, rfl⟩) | refine call_q _ (con31 _ _ _ _) ?_ | refine call_g _ (imp_of (con31 _ _ _ _)) ?_ | (refine call_t _ (pass_at' (con75 s (constO (reckS o.r (s.f o.a.toNat).imm (s.f o.b.toNat).imm).1) hm) (fun l => by simp only [opL, leArgs, leV, leV1, leSegs, leSeg, leC, and_self]) (fun g => rfl) 0 1 2 3 4 _ _ _ (by simp only [diff, notIn, Nat.beq, and_self]) rfl rfl rfl rfl rfl (alt5 (Nat.le_of_ble_eq_true rfl)) (by simp [keysLt])) ?_; rintro v H' ⟨rfl, rfl⟩) | refine call_q _ (pass_at' (con75 s (constO (reckS o.r (s.f o.a.toNat).imm (s.f o.b.toNat).imm).1) hm) (fun l => by simp only [opL, placeL, leArgs, leV, leV1, leSegs, leSeg, leC, and_self]) (fun g => rfl) 0 1 2 3 4 _ _ _ (by simp only [diff, notIn, Nat.beq, and_self]) rfl rfl rfl rfl rfl (alt5 (Nat.le_of_ble_eq_true rfl)) (by simp [keysLt])) ?_ | refine call_g _ (imp_of (pass_at' (con75 s (constO (reckS o.r (s.f o.a.toNat).imm (s.f o.b.toNat).imm).1) hm) (fun l => by simp only [opL, leArgs, leV, leV1, leSegs, leSeg, leC, and_self]) (fun g => rfl) 0 1 2 3 4 _ _ _ (by simp only [diff, notIn, Nat.beq, and_self]) rfl rfl rfl rfl rfl (alt5 (Nat.le_of_ble_eq_true rfl)) (by simp [keysLt]))) ?_); simp (maxSteps := 10000000) only [rwp_nil, rwp_cons, rwpK_app, aop, gpath, St.get, slotAt, sfx, eqP, St.put, addBlk, delB, shed, nthA, Nat.reduceAdd]))); with_reducible refine hK _ ?_; clear hK K) | (refine run_cond rfl (fun hc => ?_) (fun hc => ?_) <;> try (simp only [*, Bool.true_eq_false, Bool.false_eq_true, Bool.not_true, Bool.not_false, Bool.true_or, Bool.or_true, Bool.false_or, Bool.or_false, Bool.false_and, Bool.and_false, bne_self_eq_false, beq_self_eq_true] at hc; done)) | refine run_block ?_ | refine run_ret ?_ | refine run_nil ?_ | refine blk_normal ?_ | refine blk_ret ?_ | refine blk_here ?_ | refine blk_there rfl ?_)
    exact end_one _ _ hT rfl rfl rfl rfl rfl rfl rfl rfl
  · rw [if_neg (by rw [hc]; exact Bool.false_ne_true)] at hT
    repeat' (first | refine run_seq ?_ | refine run_skip ?_ | (refine run_region fun K hK => ?_; (try (simp (maxSteps := 10000000) only [C48r23, rwp_cons, aop, gpath, St.get, slotAt, sfx, eqP, St.put, addBlk, getB, ldn, rowNeed, nsub, Seg.size, appL, argsOf, ptrsOf, cut, takeS, dropS, Nat.reduceAdd])); (repeat (first | (refine And.intro ?_ ?_; · (first | trivial | assumption | omega | exact ⟨by omega, by omega, by omega⟩ | exact ⟨trivial, by omega, by omega⟩ | exact ⟨fun _ _ => trivial, fun _ _ => trivial, trivial⟩ | (intros; first | trivial | assumption | omega))) | ((first | (refine call_t _ (pass_at' (con75 s o hm) (fun l => by simp only [opL, leArgs, leV, leV1, leSegs, leSeg, leC, and_self]) (fun g => rfl) 0 1 2 3 4 _ _ _ (by simp only [diff, notIn, Nat.beq, and_self]) rfl rfl rfl rfl rfl (alt5 (Nat.le_of_ble_eq_true rfl)) (by simp [keysLt])) ?_; rintro v H' ⟨rfl, rfl⟩) | refine call_q _ (pass_at' (con75 s o hm) (fun l => by simp only [opL, placeL, leArgs, leV, leV1, leSegs, leSeg, leC, and_self]) (fun g => rfl) 0 1 2 3 4 _ _ _ (by simp only [diff, notIn, Nat.beq, and_self]) rfl rfl rfl rfl rfl (alt5 (Nat.le_of_ble_eq_true rfl)) (by simp [keysLt])) ?_ | refine call_g _ (imp_of (pass_at' (con75 s o hm) (fun l => by simp only [opL, leArgs, leV, leV1, leSegs, leSeg, leC, and_self]) (fun g => rfl) 0 1 2 3 4 _ _ _ (by simp only [diff, notIn, Nat.beq, and_self]) rfl rfl rfl rfl rfl (alt5 (Nat.le_of_ble_eq_true rfl)) (by simp [keysLt]))) ?_); simp (maxSteps := 10000000) only [rwp_nil, rwp_cons, rwpK_app, aop, gpath, St.get, slotAt, sfx, eqP, St.put, addBlk, delB, shed, Nat.reduceAdd]))); with_reducible refine hK _ ?_; clear hK K) | (refine run_cond rfl (fun hc => ?_) (fun hc => ?_) <;> try (simp only [*, Bool.true_eq_false, Bool.false_eq_true, Bool.not_true, Bool.not_false, Bool.true_or, Bool.or_true, Bool.false_or, Bool.or_false, Bool.false_and, Bool.and_false, bne_self_eq_false, beq_self_eq_true] at hc; done)) | refine run_block ?_ | refine run_ret ?_ | refine run_nil ?_ | refine blk_normal ?_ | refine blk_ret ?_ | refine blk_here ?_ | refine blk_there rfl ?_)
    exact end_one _ _ hT rfl rfl rfl rfl rfl rfl rfl rfl
  all_goals (exfalso; rw [hk8] at hc; exact absurd hc (by decide))
set_option maxHeartbeats 4000000 in
theorem con48_exit (s : PS) (o : OpS) (hf : FitP s o) (hk8 : o.kind = 15) : Con Try.prog 48 [me, .agg (opL o)] (passH s) (fun u H' => u = retOne (oneP s o) ∧ H' = oneH (oneP s o)) := by
  have h1 : placeOk o = false := place_no (by rw [hk8]; decide)
  have hT : (if isC s o.a = true then (if (s.f o.a.toNat).imm = 0 then ⟨s, -1, false, false⟩ else ⟨layS s (exitO o.imm), s.m, true, true⟩) else layO s o : One) = oneP s o := by simp only [oneP, h1, hk8, if_true, Bool.false_eq_true, if_false, Int.reduceEq]
  generalize oneP s o = T at hT ⊢
  have hm := hf.m
  have hfa := hf.a (by rw [hk8]; decide)
  (refine con_of_run mixed (fn := Try.f48) (by kernel_rfl) (by kernel_rfl) C48_ok (rs := [.tmp 4, .tmp 5]) (by kernel_rfl) (Nat.le_of_ble_eq_true (by kernel_rfl)) ?_; unfold C48; simp only [initT, Nat.reduceAdd])
  simp only [me, passH, passB, passL, opsB, opsW, knB, atB]
  repeat' (first | refine run_seq ?_ | refine run_skip ?_ | (refine run_region fun K hK => ?_; (try (simp (maxSteps := 10000000) only [opL, C48r0, C48r1, C48r2, C48r4, C48r11, C48r13, C48r17, C48r18, C48r19, rwp_nil, rwp_cons, aop, gpath, St.get, slotAt, sfx, eqP, segsOf, St.put, addBlk, getB, ld1, ldn, rowNeed, segAt, nsub, bin, isShift, sameK, arith, getsl, selB_and, beqb, shed, addN, Seg.size, sizes, appL, argsOf, ptrsOf, cut, takeS, dropS, Nat.reduceAdd])); (repeat (first | (refine And.intro ?_ ?_; · (first | trivial | assumption | omega | exact ⟨by omega, by omega, by omega⟩ | exact ⟨trivial, by omega, by omega⟩ | exact ⟨fun _ _ => trivial, fun _ _ => trivial, trivial⟩ | (intros; first | trivial | assumption | omega))) | ((first | (refine call_t _ (con73 o _) ?_; rintro v H' ⟨rfl, rfl⟩) | refine call_q _ (con73 o _) ?_ | refine call_g _ (imp_of (con73 o _)) ?_ | (refine call_t _ (passR_at (con76' s o.a hfa) (fun l => by simp only [leArgs, leV, leV1, leC, and_self]) (fun g => rfl) 0 1 2 3 4 _ _ _ _ (by simp only [diff, notIn, Nat.beq, and_self]) rfl rfl (alt5 (Nat.le_of_ble_eq_true rfl)) (by simp [keysLt])) ?_; rintro v H' ⟨rfl, rfl⟩) | refine call_q _ (passR_at (con76' s o.a hfa) (fun l => by simp only [leArgs, leV, leV1, leC, and_self]) (fun g => rfl) 0 1 2 3 4 _ _ _ _ (by simp only [diff, notIn, Nat.beq, and_self]) rfl rfl (alt5 (Nat.le_of_ble_eq_true rfl)) (by simp [roL, keysLt])) ?_ | refine call_g _ (imp_of (passR_at (con76' s o.a hfa) (fun l => by simp only [leArgs, leV, leV1, leC, and_self]) (fun g => rfl) 0 1 2 3 4 _ _ _ _ (by simp only [diff, notIn, Nat.beq, and_self]) rfl rfl (alt5 (Nat.le_of_ble_eq_true rfl)) (by simp [roL, keysLt]))) ?_); simp (maxSteps := 10000000) only [h1, placeL, rwp_nil, rwp_cons, rwpK_app, aop, gpath, St.get, slotAt, sfx, eqP, St.put, addBlk, getB, setB, stn, setRow, rowNeed, nsub, shed, addN, Nat.beq, Seg.size, sizes, takeS, dropS, putS, nthA, exOk, Nat.reduceAdd, List.append_nil, List.nil_append]))); with_reducible refine hK _ ?_; clear hK K) | (refine run_cond rfl (fun hc => ?_) (fun hc => ?_) <;> try (simp only [*, Bool.true_eq_false, Bool.false_eq_true, Bool.false_and, beq_self_eq_true] at hc; done)) | refine run_block ?_ | refine run_ret ?_ | refine run_nil ?_ | refine blk_normal ?_ | refine blk_ret ?_ | refine blk_here ?_ | refine blk_there rfl ?_)
  · exfalso; rw [hk8] at hc; exact absurd hc (by decide)
  · rw [if_pos hc] at hT
    repeat' (first | refine run_seq ?_ | refine run_skip ?_ | (refine run_region fun K hK => ?_; (try (simp (maxSteps := 10000000) only [C48r20, C48r21, rwp_nil, rwp_cons, aop, gpath, St.get, slotAt, sfx, eqP, St.put, addBlk, bin, isShift, sameK, arith, shed])); (repeat (first | (refine And.intro ?_ ?_; · (first | trivial | assumption | omega | exact ⟨by omega, by omega, by omega⟩ | exact ⟨trivial, by omega, by omega⟩ | exact ⟨fun _ _ => trivial, fun _ _ => trivial, trivial⟩ | (intros; first | trivial | assumption | omega))))); with_reducible refine hK _ ?_; clear hK K) | (refine run_cond rfl (fun hc => ?_) (fun hc => ?_) <;> try (simp only [*, Bool.true_eq_false, Bool.false_eq_true, Bool.not_true, Bool.not_false, Bool.true_or, Bool.or_true, Bool.false_or, Bool.or_false, Bool.false_and, Bool.and_false, bne_self_eq_false, beq_self_eq_true] at hc; done)) | refine run_block ?_ | refine run_ret ?_ | refine run_nil ?_ | refine blk_normal ?_ | refine blk_ret ?_ | refine blk_here ?_ | refine blk_there rfl ?_)
    · rw [if_pos (by simpa using hc)] at hT
      exact end_one0 _ _ hT rfl rfl rfl rfl rfl rfl rfl rfl
    · rw [if_neg (by simpa using hc)] at hT
      repeat' (first | refine run_seq ?_ | refine run_skip ?_ | (refine run_region fun K hK => ?_; (try (simp (maxSteps := 10000000) only [partsOf, fillS, C48r22, rwp_cons, aop, gpath, St.get, slotAt, sfx, eqP, segsOf, St.put, addBlk, getB, ld1, rowNeed, segAt, nsub, addN, Nat.beq, Seg.size, sizes, appL, argsOf, ptrsOf, takeS, dropS, putS, partsOf, fillS, Nat.reduceAdd, List.append_nil, List.nil_append, List.cons_append])); (repeat (first | (refine And.intro ?_ ?_; · (first | trivial | assumption | omega | exact ⟨by omega, by omega, by omega⟩ | exact ⟨trivial, by omega, by omega⟩ | exact ⟨fun _ _ => trivial, fun _ _ => trivial, trivial⟩ | (intros; first | trivial | assumption | omega))) | ((first | (refine call_t _ (pass_at' (con75 s (exitO o.imm) hm) (fun l => by simp only [opL, leArgs, leV, leV1, leSegs, leSeg, leC, and_self]) (fun g => rfl) 0 1 2 3 4 _ _ _ (by simp only [diff, notIn, Nat.beq, and_self]) rfl rfl rfl rfl rfl (alt5 (Nat.le_of_ble_eq_true rfl)) (by simp [keysLt])) ?_; rintro v H' ⟨rfl, rfl⟩) | refine call_q _ (pass_at' (con75 s (exitO o.imm) hm) (fun l => by simp only [opL, placeL, leArgs, leV, leV1, leSegs, leSeg, leC, and_self]) (fun g => rfl) 0 1 2 3 4 _ _ _ (by simp only [diff, notIn, Nat.beq, and_self]) rfl rfl rfl rfl rfl (alt5 (Nat.le_of_ble_eq_true rfl)) (by simp [keysLt])) ?_ | refine call_g _ (imp_of (pass_at' (con75 s (exitO o.imm) hm) (fun l => by simp only [opL, leArgs, leV, leV1, leSegs, leSeg, leC, and_self]) (fun g => rfl) 0 1 2 3 4 _ _ _ (by simp only [diff, notIn, Nat.beq, and_self]) rfl rfl rfl rfl rfl (alt5 (Nat.le_of_ble_eq_true rfl)) (by simp [keysLt]))) ?_); simp (maxSteps := 10000000) only [rwp_nil, rwp_cons, rwpK_app, aop, gpath, St.get, slotAt, sfx, eqP, St.put, addBlk, delB, shed, Nat.reduceAdd]))); with_reducible refine hK _ ?_; clear hK K) | (refine run_cond rfl (fun hc => ?_) (fun hc => ?_) <;> try (simp only [*, Bool.true_eq_false, Bool.false_eq_true, Bool.not_true, Bool.not_false, Bool.true_or, Bool.or_true, Bool.false_or, Bool.or_false, Bool.false_and, Bool.and_false, bne_self_eq_false, beq_self_eq_true] at hc; done)) | refine run_block ?_ | refine run_ret ?_ | refine run_nil ?_ | refine blk_normal ?_ | refine blk_ret ?_ | refine blk_here ?_ | refine blk_there rfl ?_)
      exact end_one _ _ hT rfl rfl rfl rfl rfl rfl rfl rfl
  · rw [if_neg (by rw [hc]; exact Bool.false_ne_true)] at hT
    repeat' (first | refine run_seq ?_ | refine run_skip ?_ | (refine run_region fun K hK => ?_; (try (simp (maxSteps := 10000000) only [C48r23, rwp_cons, aop, gpath, St.get, slotAt, sfx, eqP, St.put, addBlk, getB, ldn, rowNeed, nsub, Seg.size, appL, argsOf, ptrsOf, cut, takeS, dropS, Nat.reduceAdd])); (repeat (first | (refine And.intro ?_ ?_; · (first | trivial | assumption | omega | exact ⟨by omega, by omega, by omega⟩ | exact ⟨trivial, by omega, by omega⟩ | exact ⟨fun _ _ => trivial, fun _ _ => trivial, trivial⟩ | (intros; first | trivial | assumption | omega))) | ((first | (refine call_t _ (pass_at' (con75 s o hm) (fun l => by simp only [opL, leArgs, leV, leV1, leSegs, leSeg, leC, and_self]) (fun g => rfl) 0 1 2 3 4 _ _ _ (by simp only [diff, notIn, Nat.beq, and_self]) rfl rfl rfl rfl rfl (alt5 (Nat.le_of_ble_eq_true rfl)) (by simp [keysLt])) ?_; rintro v H' ⟨rfl, rfl⟩) | refine call_q _ (pass_at' (con75 s o hm) (fun l => by simp only [opL, placeL, leArgs, leV, leV1, leSegs, leSeg, leC, and_self]) (fun g => rfl) 0 1 2 3 4 _ _ _ (by simp only [diff, notIn, Nat.beq, and_self]) rfl rfl rfl rfl rfl (alt5 (Nat.le_of_ble_eq_true rfl)) (by simp [keysLt])) ?_ | refine call_g _ (imp_of (pass_at' (con75 s o hm) (fun l => by simp only [opL, leArgs, leV, leV1, leSegs, leSeg, leC, and_self]) (fun g => rfl) 0 1 2 3 4 _ _ _ (by simp only [diff, notIn, Nat.beq, and_self]) rfl rfl rfl rfl rfl (alt5 (Nat.le_of_ble_eq_true rfl)) (by simp [keysLt]))) ?_); simp (maxSteps := 10000000) only [rwp_nil, rwp_cons, rwpK_app, aop, gpath, St.get, slotAt, sfx, eqP, St.put, addBlk, delB, shed, Nat.reduceAdd]))); with_reducible refine hK _ ?_; clear hK K) | (refine run_cond rfl (fun hc => ?_) (fun hc => ?_) <;> try (simp only [*, Bool.true_eq_false, Bool.false_eq_true, Bool.not_true, Bool.not_false, Bool.true_or, Bool.or_true, Bool.false_or, Bool.or_false, Bool.false_and, Bool.and_false, bne_self_eq_false, beq_self_eq_true] at hc; done)) | refine run_block ?_ | refine run_ret ?_ | refine run_nil ?_ | refine blk_normal ?_ | refine blk_ret ?_ | refine blk_here ?_ | refine blk_there rfl ?_)
    exact end_one _ _ hT rfl rfl rfl rfl rfl rfl rfl rfl
set_option maxHeartbeats 4000000 in
theorem con48_else (s : PS) (o : OpS) (hf : FitP s o) (h1 : placeOk o = false) (h8 : ¬ o.kind = 8) (h15 : ¬ o.kind = 15) : Con Try.prog 48 [me, .agg (opL o)] (passH s) (fun u H' => u = retOne (oneP s o) ∧ H' = oneH (oneP s o)) := by
  have hT : layO s o = oneP s o := by simp only [oneP, h1, h8, h15, Bool.false_eq_true, if_false]
  generalize oneP s o = T at hT ⊢
  have hm := hf.m
  (refine con_of_run mixed (fn := Try.f48) (by kernel_rfl) (by kernel_rfl) C48_ok (rs := [.tmp 4, .tmp 5]) (by kernel_rfl) (Nat.le_of_ble_eq_true (by kernel_rfl)) ?_; unfold C48; simp only [initT, Nat.reduceAdd])
  simp only [me, passH, passB, passL, opsB, opsW, knB, atB]
  repeat' (first | refine run_seq ?_ | refine run_skip ?_ | (refine run_region fun K hK => ?_; (try (simp (maxSteps := 10000000) only [opL, C48r0, C48r1, C48r2, C48r4, C48r11, C48r17, rwp_nil, rwp_cons, aop, gpath, St.get, slotAt, sfx, eqP, segsOf, St.put, addBlk, getB, ld1, ldn, rowNeed, segAt, nsub, bin, isShift, sameK, arith, getsl, selB_and, beqb, shed, addN, Seg.size, sizes, appL, argsOf, ptrsOf, cut, takeS, dropS, Nat.reduceAdd])); (repeat (first | (refine And.intro ?_ ?_; · (first | trivial | assumption | omega | exact ⟨by omega, by omega, by omega⟩ | exact ⟨trivial, by omega, by omega⟩ | exact ⟨fun _ _ => trivial, fun _ _ => trivial, trivial⟩ | (intros; first | trivial | assumption | omega))) | ((first | (refine call_t _ (con73 o _) ?_; rintro v H' ⟨rfl, rfl⟩) | refine call_q _ (con73 o _) ?_ | refine call_g _ (imp_of (con73 o _)) ?_); simp (maxSteps := 10000000) only [h1, placeL, rwp_nil, rwp_cons, rwpK_app, aop, gpath, St.get, slotAt, sfx, eqP, St.put, addBlk, getB, setB, stn, setRow, rowNeed, nsub, shed, Nat.beq, Seg.size, sizes, takeS, dropS, putS, nthA, exOk, Nat.reduceAdd, List.append_nil, List.nil_append]))); with_reducible refine hK _ ?_; clear hK K) | (refine run_cond rfl (fun hc => ?_) (fun hc => ?_) <;> try (simp only [*, Bool.false_eq_true, Bool.false_and] at hc; done)) | refine run_block ?_ | refine run_ret ?_ | refine run_nil ?_ | refine blk_normal ?_ | refine blk_ret ?_ | refine blk_here ?_ | refine blk_there rfl ?_)
  · exfalso; exact h8 (by simpa using hc)
  · exfalso; exact h15 (by simpa using hc)
  · repeat' (first | refine run_seq ?_ | refine run_skip ?_ | (refine run_region fun K hK => ?_; (try (simp (maxSteps := 10000000) only [C48r23, rwp_cons, aop, gpath, St.get, slotAt, sfx, eqP, St.put, addBlk, getB, ldn, rowNeed, nsub, Seg.size, appL, argsOf, ptrsOf, cut, takeS, dropS, Nat.reduceAdd])); (repeat (first | (refine And.intro ?_ ?_; · (first | trivial | assumption | omega | exact ⟨by omega, by omega, by omega⟩ | exact ⟨trivial, by omega, by omega⟩ | exact ⟨fun _ _ => trivial, fun _ _ => trivial, trivial⟩ | (intros; first | trivial | assumption | omega))) | ((first | (refine call_t _ (pass_at' (con75 s o hm) (fun l => by simp only [opL, leArgs, leV, leV1, leSegs, leSeg, leC, and_self]) (fun g => rfl) 0 1 2 3 4 _ _ _ (by simp only [diff, notIn, Nat.beq, and_self]) rfl rfl rfl rfl rfl (alt5 (Nat.le_of_ble_eq_true rfl)) (by simp [keysLt])) ?_; rintro v H' ⟨rfl, rfl⟩) | refine call_q _ (pass_at' (con75 s o hm) (fun l => by simp only [opL, placeL, leArgs, leV, leV1, leSegs, leSeg, leC, and_self]) (fun g => rfl) 0 1 2 3 4 _ _ _ (by simp only [diff, notIn, Nat.beq, and_self]) rfl rfl rfl rfl rfl (alt5 (Nat.le_of_ble_eq_true rfl)) (by simp [keysLt])) ?_ | refine call_g _ (imp_of (pass_at' (con75 s o hm) (fun l => by simp only [opL, leArgs, leV, leV1, leSegs, leSeg, leC, and_self]) (fun g => rfl) 0 1 2 3 4 _ _ _ (by simp only [diff, notIn, Nat.beq, and_self]) rfl rfl rfl rfl rfl (alt5 (Nat.le_of_ble_eq_true rfl)) (by simp [keysLt]))) ?_); simp (maxSteps := 10000000) only [rwp_nil, rwp_cons, rwpK_app, aop, gpath, St.get, slotAt, sfx, eqP, St.put, addBlk, delB, shed, Nat.reduceAdd]))); with_reducible refine hK _ ?_; clear hK K) | (refine run_cond rfl (fun hc => ?_) (fun hc => ?_) <;> try (simp only [*, Bool.true_eq_false, Bool.false_eq_true, Bool.not_true, Bool.not_false, Bool.true_or, Bool.or_true, Bool.false_or, Bool.or_false, Bool.false_and, Bool.and_false, bne_self_eq_false, beq_self_eq_true] at hc; done)) | refine run_block ?_ | refine run_ret ?_ | refine run_nil ?_ | refine blk_normal ?_ | refine blk_ret ?_ | refine blk_here ?_ | refine blk_there rfl ?_)
    exact end_one _ _ hT rfl rfl rfl rfl rfl rfl rfl rfl
theorem con48 (s : PS) (o : OpS) (hf : FitP s o) : Con Try.prog 48 [me, .agg (opL o)] (passH s) (fun u H' => u = retOne (oneP s o) ∧ H' = oneH (oneP s o)) := by
  cases h1 : placeOk o with
  | true =>
    cases h2 : placeSet o with
    | true => exact con48_set s o hf h1 h2
    | false => exact con48_get s o hf h1 h2
  | false =>
    by_cases h8 : o.kind = 8
    · exact con48_alu s o hf h8
    by_cases h15 : o.kind = 15
    · exact con48_exit s o hf h15
    exact con48_else s o hf h1 h8 h15
end Go.Proofs.Ytmbnakinhnkabaa

namespace Go.Proofs.Ytmbnakinhnkabaa
open Go.AM
set_option maxRecDepth 100000
set_option linter.unusedSimpArgs false
set_option linter.unusedVariables false
def reO (s : PS) (o : OpS) : OpS := { o with a := if 0 < usesS o.kind then s.a o.a.toNat else o.a, b := if 1 < usesS o.kind then s.a o.b.toNat else o.b }
def atPush (s : PS) (v : Int) : PS := { s with na := s.na + 1, a := fun i => if i < s.na then s.a i else v }
def nextP (s : PS) : One := oneP s (reO s (s.b.f s.na))
def afterP (s : PS) : PS := atPush (nextP s).s (nextP s).v
def stepN : Nat → PS → PS
  | 0, s => s
  | t + 1, s => if s.na < s.b.n then (if (nextP s).e = true then afterP s else stepN t (afterP s)) else s
def ps0 (b : BlkS) : PS := ⟨b, 0, fun _ => constO 0, 0, fun _ => 0, 0, fun _ => 0, fun _ => 0, fun _ => 0⟩
def stepS (b : BlkS) : PS := stepN b.n (ps0 b)
def foldB (b : BlkS) : BlkS := { b with n := (stepS b).m, f := (stepS b).f }
structure PsOk (s : PS) : Prop where
  r : rightS s.b = true
  na : s.na ≤ s.b.n
  m : s.m ≤ s.na
  at_ : ∀ j, j < s.na → defS (s.b.f j).kind = true → 0 ≤ s.a j ∧ s.a j < s.m
  kn : ∀ j, j < s.kn → 0 ≤ s.kv j ∧ s.kv j < s.m
theorem ps0_ok {b : BlkS} (hr : rightS b = true) : PsOk (ps0 b) := ⟨hr, Nat.zero_le _, Nat.le_refl _, fun j h => absurd h (Nat.not_lt_zero j), fun j h => absurd h (Nat.not_lt_zero j)⟩
theorem reO_kind (s : PS) (o : OpS) : (reO s o).kind = o.kind := rfl
theorem PsOk.fit {s : PS} (h : PsOk s) (hlt : s.na < s.b.n) : FitP s (reO s (s.b.f s.na)) := by
  have hn := right_n h.r
  have hm := h.m
  refine ⟨by omega, fun hu => ?_, fun hu => ?_⟩
  · rw [reO_kind] at hu
    obtain ⟨h1, h2, h3⟩ := right_use h.r hlt (i := 0) hu
    have e : useF (s.b.f s.na) 0 = (s.b.f s.na).a := rfl
    rw [e] at h1 h2 h3
    have := h.at_ (s.b.f s.na).a.toNat (by omega) h3
    simp only [reO, show (0 : Nat) < usesS (s.b.f s.na).kind from hu, if_true]
    exact this
  · rw [reO_kind] at hu
    obtain ⟨h1, h2, h3⟩ := right_use h.r hlt (i := 1) hu
    have e : useF (s.b.f s.na) 1 = (s.b.f s.na).b := rfl
    rw [e] at h1 h2 h3
    have := h.at_ (s.b.f s.na).b.toNat (by omega) h3
    simp only [reO, show (1 : Nat) < usesS (s.b.f s.na).kind from hu, if_true]
    exact this
theorem findI_ok {s : PS} {k r : Int} : knFind s k r ≤ s.kn := findI_le _ _
theorem put_kn {s : PS} {k r v : Int} {M : Nat} (h : ∀ j, j < s.kn → 0 ≤ s.kv j ∧ s.kv j < M) (hv : 0 ≤ v ∧ v < M) : ∀ j, j < (knPut s k r v).kn → 0 ≤ (knPut s k r v).kv j ∧ (knPut s k r v).kv j < M := by
  intro j hj
  have hle := findI_ok (s := s) (k := k) (r := r)
  simp only [knPut] at hj ⊢
  split
  · exact hv
  · rename_i hne
    exact h j (by omega)
theorem del_kn {s : PS} {k r : Int} {M : Nat} (h : ∀ j, j < s.kn → 0 ≤ s.kv j ∧ s.kv j < M) : ∀ j, j < (knDel s k r).kn → 0 ≤ (knDel s k r).kv j ∧ (knDel s k r).kv j < M := by
  intro j hj
  have hle := findI_ok (s := s) (k := k) (r := r)
  simp only [knDel] at hj ⊢
  split
  · exact h j (by omega)
  · rename_i hne
    rw [if_pos (by split at hj <;> omega)] at hj
    exact h (j + 1) (by omega)
theorem set_kn {s : PS} {o : OpS} {k r : Int} {M : Nat} (h : ∀ j, j < s.kn → 0 ≤ s.kv j ∧ s.kv j < M) (hv : 0 ≤ o.a ∧ o.a < M) : ∀ j, j < (knSet s o k r).kn → 0 ≤ (knSet s o k r).kv j ∧ (knSet s o k r).kv j < M := by
  unfold knSet
  split
  · exact put_kn h hv
  · exact del_kn h
theorem knSet_at (s : PS) (o : OpS) (k r : Int) : (knSet s o k r).na = s.na ∧ (knSet s o k r).a = s.a ∧ (knSet s o k r).f = s.f := by unfold knSet; split <;> exact ⟨rfl, rfl, rfl⟩
structure OneOk (s : PS) (o : OpS) (r : One) : Prop where
  b : r.s.b = s.b
  na : r.s.na = s.na
  a : r.s.a = s.a
  m : r.s.m = if r.l = true then s.m + 1 else s.m
  f : ∀ i, i < s.m → r.s.f i = s.f i
  kn : ∀ j, j < r.s.kn → 0 ≤ r.s.kv j ∧ r.s.kv j < r.s.m
  v : o.kind ≠ 15 → 0 ≤ r.v ∧ r.v < r.s.m
theorem lay_ok {s : PS} {o x : OpS} (h : ∀ j, j < s.kn → 0 ≤ s.kv j ∧ s.kv j < s.m) : OneOk s o (layO s x) := by
  refine ⟨rfl, rfl, rfl, rfl, fun i hi => if_pos hi, fun j hj => ?_, fun _ => ?_⟩
  · have := h j hj
    show 0 ≤ s.kv j ∧ s.kv j < ((s.m + 1 : Nat) : Int)
    omega
  · show (0 : Int) ≤ (s.m : Int) ∧ (s.m : Int) < ((s.m + 1 : Nat) : Int)
    omega
theorem one_ok {s : PS} {o : OpS} (h : ∀ j, j < s.kn → 0 ≤ s.kv j ∧ s.kv j < s.m) (hf : FitP s o) : OneOk s o (oneP s o) := by
  unfold oneP
  split
  · rename_i h1
    split
    · rename_i h2
      obtain ⟨g1, g2, g3⟩ := knSet_at s o (placeK o) (placeR o)
      have hb := knSet_b s o (placeK o) (placeR o)
      have hm := knSet_m s o (placeK o) (placeR o)
      have ha := hf.a (usesS_set h1 h2)
      refine ⟨hb, g1, g2, ?_, fun i hi => ?_, fun j hj => ?_, fun _ => ?_⟩
      · show (knSet s o (placeK o) (placeR o)).m + 1 = _
        rw [hm]; rfl
      · show (if i < (knSet s o (placeK o) (placeR o)).m then (knSet s o (placeK o) (placeR o)).f i else o) = _
        rw [hm, if_pos hi, g3]
      · have := set_kn (o := o) (k := placeK o) (r := placeR o) h ha j hj
        show 0 ≤ (knSet s o (placeK o) (placeR o)).kv j ∧ (knSet s o (placeK o) (placeR o)).kv j < (((knSet s o (placeK o) (placeR o)).m + 1 : Nat) : Int)
        rw [hm]
        omega
      · show (0 : Int) ≤ (s.m : Int) ∧ (s.m : Int) < (((knSet s o (placeK o) (placeR o)).m + 1 : Nat) : Int)
        rw [hm]
        omega
    · split
      · rename_i hj
        exact ⟨rfl, rfl, rfl, rfl, fun _ _ => rfl, h, fun _ => h _ hj⟩
      · refine ⟨rfl, rfl, rfl, rfl, fun i hi => if_pos hi, put_kn (s := layS s o) (M := s.m + 1) (fun j hj => ?_) ?_, fun _ => ?_⟩
        · have := h j hj
          show 0 ≤ s.kv j ∧ s.kv j < ((s.m + 1 : Nat) : Int)
          omega
        · omega
        · show (0 : Int) ≤ (s.m : Int) ∧ (s.m : Int) < ((s.m + 1 : Nat) : Int)
          omega
  · split
    · split <;> exact lay_ok h
    · split
      · rename_i h15
        split
        · split
          · exact ⟨rfl, rfl, rfl, rfl, fun _ _ => rfl, h, fun h' => absurd h15 h'⟩
          · have := lay_ok (o := o) (x := exitO o.imm) h
            exact ⟨this.b, this.na, this.a, this.m, this.f, this.kn, this.v⟩
        · exact lay_ok h
      · exact lay_ok h
theorem nextP_ok {s : PS} (h : PsOk s) (hlt : s.na < s.b.n) : OneOk s (reO s (s.b.f s.na)) (nextP s) := one_ok h.kn (h.fit hlt)
theorem after_ok {s : PS} (h : PsOk s) (hlt : s.na < s.b.n) : PsOk (afterP s) := by
  have ho := nextP_ok h hlt
  have hm := ho.m
  have hmm : s.m ≤ (nextP s).s.m ∧ (nextP s).s.m ≤ s.m + 1 := by rw [hm]; split <;> omega
  have h1 := h.m
  refine ⟨?_, ?_, ?_, fun j hj hd => ?_, ho.kn⟩
  · show rightS (nextP s).s.b = true
    rw [ho.b]; exact h.r
  · show (nextP s).s.na + 1 ≤ (nextP s).s.b.n
    rw [ho.b, ho.na]; omega
  · show (nextP s).s.m ≤ (nextP s).s.na + 1
    rw [ho.na]; omega
  · have hj : j < (nextP s).s.na + 1 := hj
    have hd : defS ((nextP s).s.b.f j).kind = true := hd
    show 0 ≤ (if j < (nextP s).s.na then (nextP s).s.a j else (nextP s).v) ∧ (if j < (nextP s).s.na then (nextP s).s.a j else (nextP s).v) < ((nextP s).s.m : Int)
    rw [ho.b] at hd
    rw [ho.na] at hj ⊢
    split
    · rename_i hlt'
      have := h.at_ j hlt' hd
      rw [ho.a]
      omega
    · have e : j = s.na := by omega
      subst e
      refine ho.v fun h15 => ?_
      rw [reO_kind] at h15
      rw [h15] at hd
      exact absurd hd (by decide)
theorem after_b {s : PS} (h : PsOk s) (hlt : s.na < s.b.n) : (afterP s).b = s.b := (nextP_ok h hlt).b
theorem after_na {s : PS} (h : PsOk s) (hlt : s.na < s.b.n) : (afterP s).na = s.na + 1 := by
  show (nextP s).s.na + 1 = _
  rw [(nextP_ok h hlt).na]
theorem stepN_ok : ∀ (t : Nat) {s : PS}, PsOk s → PsOk (stepN t s) ∧ (stepN t s).b = s.b
  | 0, s, h => ⟨h, rfl⟩
  | t + 1, s, h => by
    simp only [stepN]
    split
    · rename_i hlt
      have h1 := after_ok h hlt
      have h2 := after_b h hlt
      split
      · exact ⟨h1, h2⟩
      · obtain ⟨g1, g2⟩ := stepN_ok t h1
        exact ⟨g1, g2.trans h2⟩
    · exact ⟨h, rfl⟩
def eqO (a b : OpS) : Bool := a.kind == b.kind && (a.r == b.r && (a.a == b.a && (a.b == b.b && (a.order == b.order && (a.imm == b.imm && true)))))
def eqN (f g : Nat → OpS) (n : Nat) : Nat → Bool
  | 0 => true
  | t + 1 => eqO (f (n - (t + 1))) (g (n - (t + 1))) && eqN f g n t
def eqOps (n m : Nat) (f g : Nat → OpS) : Bool := n == m && eqN f g n n
theorem eqO_eq {a b : OpS} : eqO a b = true ↔ a = b := by
  cases a; cases b
  simp only [eqO, Bool.and_eq_true, beq_iff_eq, and_true, OpS.mk.injEq]
theorem eqN_iff {f g : Nat → OpS} {n : Nat} : ∀ {t : Nat}, t ≤ n → (eqN f g n t = true ↔ ∀ i, n - t ≤ i → i < n → f i = g i)
  | 0, _ => ⟨fun _ i h1 h2 => by omega, fun _ => rfl⟩
  | t + 1, h => by
    simp only [eqN, Bool.and_eq_true, eqO_eq, eqN_iff (f := f) (g := g) (show t ≤ n by omega)]
    constructor
    · rintro ⟨h1, h2⟩ i h3 h4
      by_cases e : i = n - (t + 1)
      · rw [e]; exact h1
      · exact h2 i (by omega) h4
    · intro h1
      exact ⟨h1 _ (Nat.le_refl _) (by omega), fun i h3 h4 => h1 i (by omega) h4⟩
theorem eqOps_iff {n m : Nat} {f g : Nat → OpS} : eqOps n m f g = true ↔ n = m ∧ ∀ i, i < n → f i = g i := by
  unfold eqOps
  simp only [Bool.and_eq_true, beq_iff_eq, eqN_iff (f := f) (g := g) (Nat.le_refl n), Nat.sub_self, Nat.zero_le, true_implies]
def eqSt (n : Nat) (f g : Nat → OpS) (j : Nat) : St := ⟨[⟨13, [], .c (.int .i64 j)⟩, ⟨12, [], .c (.int .i64 n)⟩, ⟨1, [], .c (.slice ⟨1, 0, 0, 0⟩ false n)⟩, ⟨0, [], .c (.slice ⟨0, 0, 0, 0⟩ false n)⟩], ⟨2, [(1, opsB n g), (0, opsB n f)]⟩⟩
theorem end_eq {l : List Slot} {H : Heap} {n m : Nat} {f g : Nat → OpS} (c t : Bool) (hs : slotAt l 4 = some ⟨4, [], .c (.bool c)⟩) (h0 : getB H.blks 0 = some (opsB n f)) (h1 : getB H.blks 1 = some (opsB m g)) (hc : c = t) : endQ (LeS 2) [.tmp 4] (fun v H' => v = .c (.bool t) ∧ H' = ⟨2, [(1, opsB m g), (0, opsB n f)]⟩) .ret ⟨l, H⟩ := by
  subst hc
  refine end_of ⟨[⟨4, [], .c (.bool c)⟩], ⟨2, [(1, opsB m g), (0, opsB n f)]⟩⟩ (LeS.intro [0, 1] (fun i h => idt2 i h) (by simp only [diff, notIn, Nat.beq, and_self]) rfl (by simp only [slotsLe, hs, leV, leV1, leC, and_self]) ?_) ?_
  · simp only [leBlks, nthO, h0, h1]
    exact ⟨ops_le m g false, ops_le n f false, trivial⟩
  · simp only [endF, resL, resA, St.get, slotAt, sfx, eqP, noTup, resV]
    exact ⟨by first | rfl | trivial, by first | rfl | trivial⟩
theorem con49 (n m : Nat) (f g : Nat → OpS) (hn : n ≤ 1000) : Con Try.prog 49 [.c (.slice ⟨0, 0, 0, 0⟩ false n), .c (.slice ⟨1, 0, 0, 0⟩ false m)] ⟨2, [(1, opsB m g), (0, opsB n f)]⟩ (fun v H' => v = .c (.bool (eqOps n m f g)) ∧ H' = ⟨2, [(1, opsB m g), (0, opsB n f)]⟩) := by
  (refine con_of_run mixed (fn := Try.f49) (by kernel_rfl) (by kernel_rfl) C49_ok (rs := [.tmp 4]) (by kernel_rfl) (Nat.le_of_ble_eq_true (by kernel_rfl)) ?_; unfold C49; simp only [initT, Nat.reduceAdd])
  repeat' (first | refine run_seq ?_ | refine run_skip ?_ | (refine run_region fun K hK => ?_; (try (simp (maxSteps := 10000000) only [opL, opsB, C49r0, C49r1, C49r2, rwp_nil, rwp_cons, aop, gpath, St.get, slotAt, sfx, eqP, St.put, addBlk, bin, isShift, sameK, arith, shed])); (repeat (first | (refine And.intro ?_ ?_; · (first | trivial | assumption | omega | exact ⟨by omega, by omega⟩ | (intros; first | trivial | assumption | omega))))); with_reducible refine hK _ ?_; clear hK K) | (refine run_cond rfl (fun hc => ?_) (fun hc => ?_) <;> try (simp only [*, Bool.true_eq_false, Bool.false_eq_true, Bool.not_true, Bool.not_false, Bool.true_or, Bool.or_true, Bool.false_or, Bool.or_false, Bool.false_and, Bool.and_false, bne_self_eq_false, beq_self_eq_true] at hc; done)) | refine run_block ?_ | refine run_ret ?_ | refine run_nil ?_ | refine run_exit ?_ | refine blk_normal ?_ | refine blk_ret ?_ | refine blk_here ?_ | refine blk_there rfl ?_ | refine loop_exit ?_ | refine loop_ret ?_ | refine un_exit ?_ | refine un_ret ?_ | refine unE_exit ?_ | refine unE_ret ?_ | refine un_normal ?_)
  · refine end_eq false _ rfl rfl rfl ?_
    have : ¬ n = m := by simp only [bne_iff_ne, ne_eq, Int.natCast_inj] at hc; exact hc
    simp [eqOps, this]
  have e : n = m := by simp only [bne_eq_false_iff_eq, Int.natCast_inj] at hc; exact hc
  subst e
  have hT : eqN f g n n = eqOps n n f g := by simp [eqOps]
  generalize eqOps n n f g = T at hT ⊢
  clear hc
  (refine run_regionL fun K hK => ?_; (try (simp (maxSteps := 10000000) only [C49r3, rwp_nil, rwp_cons, aop, gpath, St.get, slotAt, sfx, eqP, St.put, addBlk, shed])); (repeat (first | (refine And.intro ?_ ?_; · first | trivial | assumption | omega))); refine hK _ (eqSt n f g 0) (LeS.intro [0, 1] (fun i h => idt2 i h) (by simp only [diff, notIn, Nat.beq, and_self]) rfl (by simp only [eqSt, slotsLe, slotAt, leV, leV1, leC, leA, nthO, Int.natCast_zero, and_self]) ⟨ops_le n g false, ops_le n f false, trivial⟩) ?_; clear hK K)
  refine run_block ?_
  refine run_loop (fun t st => ∃ j, j ≤ n ∧ t = n - j ∧ eqN f g n t = T ∧ st = eqSt n f g j) n ⟨0, Nat.zero_le _, rfl, hT, rfl⟩ ?_
  rintro t st ⟨j, hj, rfl, hT, rfl⟩
  unfold eqSt
  have hw : IntKind.i64.wrap ((j : Int) + 1) = ((j + 1 : Nat) : Int) := by rw [IntKind.wrap_i64]; omega
  repeat' (first | refine run_seq ?_ | refine run_skip ?_ | (refine run_region fun K hK => ?_; (try (simp (maxSteps := 10000000) only [opL, opsB, Int.toNat_natCast, C49r4, C49r5, C49r6, C49r9, rwp_nil, rwp_cons, aop, gpath, St.get, slotAt, sfx, eqP, St.put, addBlk, getB, ldn, rowNeed, nsub, bin, isShift, sameK, arith, shed, addN, Nat.beq, Seg.size, imp, cut, takeS, dropS, negIf, eqS, eqF, eqS1, strOk, plusA, Nat.reduceAdd, Int.toNat_natCast])); (repeat (first | (refine And.intro ?_ ?_; · (first | trivial | assumption | omega | exact ⟨by omega, by omega⟩ | (intros; first | trivial | assumption | omega))))); with_reducible refine hK _ ?_; clear hK K) | (refine run_cond rfl (fun hc => ?_) (fun hc => ?_) <;> try (simp only [*, Bool.true_eq_false, Bool.false_eq_true, Bool.not_true, Bool.not_false, Bool.true_or, Bool.or_true, Bool.false_or, Bool.or_false, Bool.false_and, Bool.and_false, bne_self_eq_false, beq_self_eq_true] at hc; done)) | refine run_block ?_ | refine run_ret ?_ | refine run_nil ?_ | refine run_exit ?_ | refine blk_normal ?_ | refine blk_ret ?_ | refine blk_here ?_ | refine blk_there rfl ?_ | refine loop_exit ?_ | refine loop_ret ?_ | refine un_exit ?_ | refine un_ret ?_ | refine unE_exit ?_ | refine unE_ret ?_ | refine un_normal ?_)
  · have hlt : j < n := by simp only [decide_eq_true_eq] at hc; omega
    obtain ⟨t, ht⟩ : ∃ t, n - j = t + 1 := ⟨n - j - 1, by omega⟩
    have hj' : n - (t + 1) = j := by omega
    rw [ht] at hT
    simp only [eqN, hj'] at hT
    clear hc
    repeat' (first | refine run_seq ?_ | refine run_skip ?_ | (refine run_region fun K hK => ?_; (try (simp (maxSteps := 10000000) only [Int.toNat_natCast, hw, C49r6, C49r7, C49r8, rwp_nil, rwp_cons, aop, gpath, St.get, slotAt, sfx, eqP, St.put, addBlk, getB, ldn, rowNeed, nsub, bin, isShift, sameK, arith, shed, addN, Nat.beq, Seg.size, imp, cut, takeS, dropS, negIf, eqS, eqF, eqS1, strOk, plusA, Nat.reduceAdd, Int.toNat_natCast])); (repeat (first | (refine And.intro ?_ ?_; · (first | trivial | assumption | omega | exact ⟨by omega, by omega⟩ | (intros; first | trivial | assumption | omega))))); with_reducible refine hK _ ?_; clear hK K) | (refine run_cond rfl (fun hc => ?_) (fun hc => ?_) <;> try (simp only [*, Bool.true_eq_false, Bool.false_eq_true, Bool.not_true, Bool.not_false, Bool.true_or, Bool.or_true, Bool.false_or, Bool.or_false, Bool.false_and, Bool.and_false, bne_self_eq_false, beq_self_eq_true] at hc; done)) | refine run_block ?_ | refine run_ret ?_ | refine run_nil ?_ | refine run_exit ?_ | refine blk_normal ?_ | refine blk_ret ?_ | refine blk_here ?_ | refine blk_there rfl ?_ | refine loop_exit ?_ | refine loop_ret ?_ | refine un_exit ?_ | refine un_ret ?_ | refine unE_exit ?_ | refine unE_ret ?_ | refine un_normal ?_)
    · refine end_eq false _ rfl rfl rfl ?_
      rw [← hT, show eqO (f j) (g j) = false from by simp only [Bool.not_eq_true'] at hc; exact hc]
      rfl
    · have he : eqO (f j) (g j) = true := by simp only [Bool.not_eq_false'] at hc; exact hc
      rw [he, Bool.true_and] at hT
      refine loop_normal (n - (j + 1)) (eqSt n f g (j + 1)) (by omega) (LeS.intro [0, 1] (fun i h => idt2 i h) (by simp only [diff, notIn, Nat.beq, and_self]) rfl (by simp only [eqSt, slotsLe, slotAt, leV, leV1, leC, leA, nthO, and_self]) ⟨ops_le n g false, ops_le n f false, trivial⟩) ⟨j + 1, hlt, rfl, ?_, rfl⟩
      rw [show n - (j + 1) = t by omega]
      exact hT
  · have hn0 : n - j = 0 := by simp only [decide_eq_false_iff_not] at hc; omega
    rw [hn0] at hT
    exact end_eq true _ rfl rfl rfl hT
theorem con49_at (n m : Nat) (f g : Nat → OpS) (hn : n ≤ 1000) (i j q : Nat) (X : List (Nat × Blk)) (w w' : Bool) (hij : Nat.beq i j = false) (h0 : getB X i = some ⟨6, some n, fun i => opL (f i), 39, w⟩) (h1 : getB X j = some ⟨6, some m, fun i => opL (g i), 39, w'⟩) (hli : i < q) (hlj : j < q) (hkl : keysLt X q) :
    Con Try.prog 49 [.c (.slice ⟨i, 0, 0, 0⟩ false n), .c (.slice ⟨j, 0, 0, 0⟩ false m)] ⟨q, X⟩ (fun v H' => v = .c (.bool (eqOps n m f g)) ∧ H' = ⟨q, X⟩) :=
  ro_gen (con49 n m f g hn) [i, j] q X rfl ⟨⟨hij, trivial⟩, trivial, trivial⟩ ⟨hli, hlj, trivial⟩ hkl (by simp only [leBlks, nthO, h0, h1]; exact ⟨ops_le m g w', ops_le n f w, trivial⟩) (by simp only [leArgs, leV, leV1, leC, leA, nthO, and_self]) rfl (fun _ => rfl) rfl rfl
end Go.Proofs.Ytmbnakinhnkabaa

namespace Go.Proofs.Ytmbnakinhnkabaa
open Go.AM
set_option maxRecDepth 100000
set_option linter.unusedSimpArgs false
set_option linter.unusedVariables false
def chgS (b : BlkS) : Bool := !(eqOps (stepS b).m b.n (stepS b).f b.f)
def sfT (i n : Nat) : List Slot := [⟨24, [], .c (.int .i64 i)⟩, ⟨23, [], .c (.int .i64 n)⟩, ⟨22, [], .c (.slice ⟨0, 0, 0, 0⟩ false n)⟩, ⟨5, [], .c (.ptr ⟨4, 0, 0, 0⟩)⟩, ⟨2, [], .c (.ptr ⟨2, 0, 0, 0⟩)⟩, ⟨1, [], .c (.ptr ⟨1, 0, 0, 0⟩)⟩]
def sfH (s : PS) : List (Nat × Blk) := [(4, passB 0 3 5 6 s true), (3, knB s), (5, opsW s.m s.f), (6, atB s.na s.a), (2, zblk), (1, blkB s.b 0), (0, opsB s.b.n s.b.f)]
def stF (s : PS) (i : Nat) : St := ⟨sfT i s.b.n, ⟨7, sfH s⟩⟩
def opBox (o : OpS) : Blk := ⟨6, none, fun _ => opL o, 39, true⟩
def stPo (s : PS) (o : OpS) (d : Bool) : St := ⟨⟨43, [], .c (.bool d)⟩ :: ⟨7, [], .c (.ptr ⟨7, 0, 0, 0⟩)⟩ :: sfT s.na s.b.n, ⟨8, (7, opBox o) :: sfH s⟩⟩
def stE (s : PS) (i : Nat) (e : Bool) : St := ⟨⟨69, [], .c (.bool e)⟩ :: sfT i s.b.n, ⟨7, sfH s⟩⟩
theorem opk_leG {l : List Nat} (o : OpS) : leB l ⟨6, none, fun _ => opL o, 39, true⟩ (opBox o) := ⟨rfl, rfl, id, Nat.le_refl _, fun _ _ => by simp only [opBox, opL, leSegs, leSeg, leC, and_self]⟩
theorem atApp_le {l : List Nat} (m : Nat) (a : Nat → Int) (v : Int) : leB l ⟨1, some (m + 1), rowsApp ⟨1, some m, fun i => [.c (.int .i64 (a i))], 3, true⟩ m ⟨1, some 1, fun _ => [.c (.int .i64 v)], 3, true⟩ 0, 3, true⟩ (atB (m + 1) (fun i => if i < m then a i else v)) := ⟨rfl, rfl, id, Nat.le_refl _, fun i _ => by
  show leSegs _ (rowsApp _ _ _ _ i) [.c (.int .i64 (if i < m then a i else v))]
  unfold rowsApp
  split <;> simp only [leSegs, leSeg, leC, and_self]⟩
def stepTail : ACode := .seq (.region C26r12)
         (.seq (.region C26r13)
         (.seq (.region C26r14)
         (.cond (.t 69)
          (.exit 0)
          (.skip))))
theorem idtF {l : List Nat} : ∀ i, i < 1 → nthO (0 :: l) i = some i := by
  intro i h; match i, h with
  | 0, _ => rfl
set_option maxHeartbeats 8000000 in
theorem step_tail (s : PS) (h : PsOk s) (hlt : s.na < s.b.n) (d : Bool) {Q : AEx → St → Prop} (hN : (nextP s).e = false → Q .normal (stE (afterP s) s.na false)) (hE : (nextP s).e = true → Q (.exit 0) (stE (afterP s) s.na true)) :
    runA (Con Try.prog) (LeS 1) [stepTail] (stPo s (reO s (s.b.f s.na)) d) Q := by
  have ho := nextP_ok h hlt
  have hn := right_n h.r
  have hc48 := con48 s (reO s (s.b.f s.na)) (h.fit hlt)
  have hm := ho.m
  have hmm := h.m
  have hrna := ho.na
  have hrb := ho.b
  unfold afterP at hN hE
  change Con Try.prog 48 [me, .agg (opL (reO s (s.b.f s.na)))] (passH s) (fun u H' => u = retOne (nextP s) ∧ H' = oneH (nextP s)) at hc48
  generalize reO s (s.b.f s.na) = o at *
  generalize nextP s = r at *
  obtain ⟨⟨rb, rm, rf, rna, ra, rkn, rkk, rkr, rkv⟩, rv, re, rl⟩ := r
  simp only at *
  subst hrb hrna
  unfold oneH at hc48
  simp only at hc48
  unfold stepTail stPo sfT sfH
  cases rl with
  | true =>
    simp only [if_true] at hc48 hm
    repeat' (first | refine run_seq ?_ | refine run_skip ?_ | (refine run_region fun K hK => ?_; (try (simp (maxSteps := 10000000) only [opBox, opL, passB, passL, knB, opsW, atB, opsB, blkB, blkL, zblk, partsOf, fillS, repl, rowsFit, rowFn, C26r12, C26r13, rwp_nil, rwp_cons, aop, gpath, St.get, slotAt, sfx, eqP, segsOf, St.put, addBlk, getB, setB, delB, ld1, ldn, st1, setRow, rowNeed, segAt, nsub, shed, addN, Nat.beq, Seg.size, sizes, appL, argsOf, ptrsOf, cut, takeS, dropS, putS, partsOf, fillS, exOk, Nat.reduceAdd, List.append_nil, List.nil_append, List.cons_append, app])); (repeat (first | (refine And.intro ?_ ?_; · (first | trivial | assumption | omega | exact ⟨by omega, by omega⟩ | exact ⟨by omega, by omega, by omega⟩ | exact ⟨trivial, by omega, by omega⟩ | (intros; first | trivial | assumption | omega | exact ⟨by omega, by omega⟩))) | ((first | (refine call_t _ (pass_at' hc48 (fun l => by simp only [opL, leArgs, leV, leV1, leSegs, leSeg, leC, and_self]) (fun g => rfl) 4 0 3 5 6 8 _ _ (by simp only [diff, notIn, Nat.beq, and_self]) rfl rfl rfl rfl rfl (by simp [allLt]) (by simp [keysLt])) ?_; rintro v H' ⟨rfl, rfl⟩) | refine call_q _ (pass_at' hc48 (fun l => by simp only [opL, leArgs, leV, leV1, leSegs, leSeg, leC, and_self]) (fun g => rfl) 4 0 3 5 6 8 _ _ (by simp only [diff, notIn, Nat.beq, and_self]) rfl rfl rfl rfl rfl (by simp [allLt]) (by simp [keysLt])) ?_ | refine call_g _ (imp_of (pass_at' hc48 (fun l => by simp only [opL, leArgs, leV, leV1, leSegs, leSeg, leC, and_self]) (fun g => rfl) 4 0 3 5 6 8 _ _ (by simp only [diff, notIn, Nat.beq, and_self]) rfl rfl rfl rfl rfl (by simp [allLt]) (by simp [keysLt]))) ?_); simp (maxSteps := 10000000) only [opL, passB, passL, knB, opsW, atB, retOne, rwp_nil, rwp_cons, rwpK_app, aop, gpath, St.get, slotAt, sfx, eqP, St.put, addBlk, delB, shed, nthA, Nat.reduceAdd]))); with_reducible refine hK _ ?_; clear hK K) | (refine run_cond rfl (fun hc => ?_) (fun hc => ?_) <;> try (simp only [*, Bool.true_eq_false, Bool.false_eq_true, Bool.not_true, Bool.not_false, Bool.true_or, Bool.or_true, Bool.false_or, Bool.or_false, Bool.false_and, Bool.and_false, bne_self_eq_false, beq_self_eq_true] at hc; done)) | refine run_block ?_ | refine run_ret ?_ | refine run_nil ?_ | refine run_exit ?_ | refine blk_normal ?_ | refine blk_ret ?_ | refine blk_here ?_ | refine blk_there rfl ?_ | refine loop_exit ?_ | refine loop_ret ?_ | refine un_exit ?_ | refine un_ret ?_ | refine unE_exit ?_ | refine unE_ret ?_ | refine un_normal ?_)
    (refine run_regionL fun K hK => ?_; (try (simp (maxSteps := 10000000) only [C26r14, rwp_nil, rwp_cons, aop, gpath, St.get, slotAt, sfx, eqP, St.put, addBlk, shed])); (repeat (first | (refine And.intro ?_ ?_; · first | trivial | assumption | omega))); refine hK _ (stE (atPush ⟨s.b, rm, rf, s.na, ra, rkn, rkk, rkr, rkv⟩ rv) s.na re) (LeS.intro [0, 1, 2, 3, 4, 8, 10] (fun i h => idtF i h) (by simp only [diff, notIn, Nat.beq, and_self]) rfl (by simp only [stE, sfT, atPush, slotsLe, slotAt, leV, leV1, leC, leA, nthO, and_self]) ⟨pass_le (atPush ⟨s.b, rm, rf, s.na, ra, rkn, rkk, rkr, rkv⟩ rv) 0 3 8 10 0 3 5 6 _ _ id rfl rfl rfl rfl, kn_le ⟨s.b, rm, rf, s.na, ra, rkn, rkk, rkr, rkv⟩, opsw_le _ _ _ (fun _ _ => rfl), atApp_le s.na ra rv, z_le, blk_le' s.b 0 0 rfl, ops_le s.b.n s.b.f false, trivial⟩) ?_; clear hK K)
    refine run_cond rfl (fun hc => ?_) (fun hc => ?_)
    · subst hc
      exact run_exit (hE rfl)
    · subst hc
      exact run_skip (run_nil (hN rfl))
  | false =>
    simp only [Bool.false_eq_true, if_false] at hc48 hm
    repeat' (first | refine run_seq ?_ | refine run_skip ?_ | (refine run_region fun K hK => ?_; (try (simp (maxSteps := 10000000) only [opBox, opL, passB, passL, knB, opsW, atB, opsB, blkB, blkL, zblk, partsOf, fillS, repl, rowsFit, rowFn, C26r12, C26r13, rwp_nil, rwp_cons, aop, gpath, St.get, slotAt, sfx, eqP, segsOf, St.put, addBlk, getB, setB, delB, ld1, ldn, st1, setRow, rowNeed, segAt, nsub, shed, addN, Nat.beq, Seg.size, sizes, appL, argsOf, ptrsOf, cut, takeS, dropS, putS, partsOf, fillS, exOk, Nat.reduceAdd, List.append_nil, List.nil_append, List.cons_append, app])); (repeat (first | (refine And.intro ?_ ?_; · (first | trivial | assumption | omega | exact ⟨by omega, by omega⟩ | exact ⟨by omega, by omega, by omega⟩ | exact ⟨trivial, by omega, by omega⟩ | (intros; first | trivial | assumption | omega | exact ⟨by omega, by omega⟩))) | ((first | (refine call_t _ (pass_at0 hc48 (fun l => by simp only [opL, leArgs, leV, leV1, leSegs, leSeg, leC, and_self]) (fun g => rfl) 4 0 3 5 6 8 _ _ (by simp only [diff, notIn, Nat.beq, and_self]) rfl rfl rfl rfl rfl (by simp [allLt]) (by simp [keysLt])) ?_; rintro v H' ⟨rfl, rfl⟩) | refine call_q _ (pass_at0 hc48 (fun l => by simp only [opL, leArgs, leV, leV1, leSegs, leSeg, leC, and_self]) (fun g => rfl) 4 0 3 5 6 8 _ _ (by simp only [diff, notIn, Nat.beq, and_self]) rfl rfl rfl rfl rfl (by simp [allLt]) (by simp [keysLt])) ?_ | refine call_g _ (imp_of (pass_at0 hc48 (fun l => by simp only [opL, leArgs, leV, leV1, leSegs, leSeg, leC, and_self]) (fun g => rfl) 4 0 3 5 6 8 _ _ (by simp only [diff, notIn, Nat.beq, and_self]) rfl rfl rfl rfl rfl (by simp [allLt]) (by simp [keysLt]))) ?_); simp (maxSteps := 10000000) only [opL, passB, passL, knB, opsW, atB, retOne, rwp_nil, rwp_cons, rwpK_app, aop, gpath, St.get, slotAt, sfx, eqP, St.put, addBlk, delB, shed, nthA]))); with_reducible refine hK _ ?_; clear hK K) | (refine run_cond rfl (fun hc => ?_) (fun hc => ?_) <;> try (simp only [*, Bool.true_eq_false, Bool.false_eq_true, Bool.not_true, Bool.not_false, Bool.true_or, Bool.or_true, Bool.false_or, Bool.or_false, Bool.false_and, Bool.and_false, bne_self_eq_false, beq_self_eq_true] at hc; done)) | refine run_block ?_ | refine run_ret ?_ | refine run_nil ?_ | refine run_exit ?_ | refine blk_normal ?_ | refine blk_ret ?_ | refine blk_here ?_ | refine blk_there rfl ?_ | refine loop_exit ?_ | refine loop_ret ?_ | refine un_exit ?_ | refine un_ret ?_ | refine unE_exit ?_ | refine unE_ret ?_ | refine un_normal ?_)
    (refine run_regionL fun K hK => ?_; (try (simp (maxSteps := 10000000) only [C26r14, rwp_nil, rwp_cons, aop, gpath, St.get, slotAt, sfx, eqP, St.put, addBlk, shed])); (repeat (first | (refine And.intro ?_ ?_; · first | trivial | assumption | omega))); refine hK _ (stE (atPush ⟨s.b, rm, rf, s.na, ra, rkn, rkk, rkr, rkv⟩ rv) s.na re) (LeS.intro [0, 1, 2, 3, 4, 5, 9] (fun i h => idtF i h) (by simp only [diff, notIn, Nat.beq, and_self]) rfl (by simp only [stE, sfT, atPush, slotsLe, slotAt, leV, leV1, leC, leA, nthO, and_self]) ⟨pass_le (atPush ⟨s.b, rm, rf, s.na, ra, rkn, rkk, rkr, rkv⟩ rv) 0 3 5 9 0 3 5 6 _ _ id rfl rfl rfl rfl, kn_le ⟨s.b, rm, rf, s.na, ra, rkn, rkk, rkr, rkv⟩, opsw_le _ _ _ (fun _ _ => rfl), atApp_le s.na ra rv, z_le, blk_le' s.b 0 0 rfl, ops_le s.b.n s.b.f false, trivial⟩) ?_; clear hK K)
    refine run_cond rfl (fun hc => ?_) (fun hc => ?_)
    · subst hc
      exact run_exit (hE rfl)
    · subst hc
      exact run_skip (run_nil (hN rfl))
theorem usesS_two (k : Int) : usesS k ≤ 2 := by
  unfold usesS
  split
  · omega
  · split <;> omega
def stepRest : ACode := (.seq (.region C26r7)
        (.seq (.seq (.region C26r8)
        (.cond (.t 32)
         (.region C26r9)
         (.skip)))
        (.seq (.seq (.region C26r10)
        (.cond (.t 43)
         (.region C26r11)
         (.skip)))
        stepTail)))
set_option maxHeartbeats 8000000 in
theorem step_round (s : PS) (h : PsOk s) (hlt : s.na < s.b.n) (c : Bool) {Q : AEx → St → Prop} (hN : (nextP s).e = false → Q .normal (stE (afterP s) s.na false)) (hE : (nextP s).e = true → Q (.exit 0) (stE (afterP s) s.na true)) :
    runA (Con Try.prog) (LeS 1) [.region C26r6, stepRest] ⟨⟨25, [], .c (.bool c)⟩ :: sfT s.na s.b.n, ⟨7, sfH s⟩⟩ Q := by
  have hn := right_n h.r
  have hu2 := usesS_two (s.b.f s.na).kind
  have hu0 : 0 < usesS (s.b.f s.na).kind → 0 ≤ (s.b.f s.na).a ∧ (s.b.f s.na).a < s.na := fun hu => by
    obtain ⟨h1, h2, _⟩ := right_use h.r hlt (i := 0) hu
    exact ⟨h1, h2⟩
  have hu1 : 1 < usesS (s.b.f s.na).kind → 0 ≤ (s.b.f s.na).b ∧ (s.b.f s.na).b < s.na := fun hu => by
    obtain ⟨h1, h2, _⟩ := right_use h.r hlt (i := 1) hu
    exact ⟨h1, h2⟩
  have htail := fun d => step_tail s h hlt d hN hE
  clear hN hE
  unfold sfT sfH stepRest
  repeat' (first | refine run_seq ?_ | refine run_skip ?_ | (refine run_region fun K hK => ?_; (try (simp (maxSteps := 10000000) only [opL, passB, passL, knB, opsW, atB, opsB, blkB, blkL, zblk, Int.toNat_natCast, C26r6, C26r7, rwp_nil, rwp_cons, aop, gpath, St.get, slotAt, sfx, eqP, St.put, addBlk, getB, setB, ldn, stn, setRow, rowNeed, nsub, shed, addN, Nat.beq, Seg.size, sizes, imp, appL, argsOf, ptrsOf, cut, takeS, dropS, putS, strOk, plusA, exOk, Nat.reduceAdd, List.append_nil, List.nil_append, Int.toNat_natCast])); (repeat (first | (refine And.intro ?_ ?_; · (first | trivial | assumption | omega | exact ⟨by omega, by omega⟩ | exact ⟨by omega, by omega, by omega⟩ | exact ⟨trivial, by omega, by omega⟩ | (intros; first | trivial | assumption | omega | exact ⟨by omega, by omega⟩))) | ((first | (refine call_t _ (con21 _ _ _ (by simp [keysLt])) ?_; rintro v H' ⟨rfl, rfl⟩) | refine call_q _ (con21 _ _ _ (by simp [keysLt])) ?_ | refine call_g _ (imp_of (con21 _ _ _ (by simp [keysLt]))) ?_); simp (maxSteps := 10000000) only [rwp_nil, rwp_cons, rwpK_app, aop, gpath, St.get, slotAt, sfx, eqP, St.put, addBlk, shed, Nat.reduceAdd, addBs]))); with_reducible refine hK _ ?_; clear hK K) | (refine run_cond rfl (fun hc => ?_) (fun hc => ?_) <;> try (simp only [*, Bool.true_eq_false, Bool.false_eq_true, Bool.not_true, Bool.not_false, Bool.true_or, Bool.or_true, Bool.false_or, Bool.or_false, Bool.false_and, Bool.and_false, bne_self_eq_false, beq_self_eq_true] at hc; done)) | refine run_block ?_ | refine run_ret ?_ | refine run_nil ?_ | refine run_exit ?_ | refine blk_normal ?_ | refine blk_ret ?_ | refine blk_here ?_ | refine blk_there rfl ?_ | refine loop_exit ?_ | refine loop_ret ?_ | refine un_exit ?_ | refine un_ret ?_ | refine unE_exit ?_ | refine unE_ret ?_ | refine un_normal ?_)
  by_cases h0 : 0 < usesS (s.b.f s.na).kind
  · have ha := hu0 h0
    repeat' (first | refine run_seq ?_ | refine run_skip ?_ | (refine run_region fun K hK => ?_; (try (simp (maxSteps := 10000000) only [C26r8, rwp_nil, rwp_cons, aop, gpath, St.get, slotAt, sfx, eqP, St.put, addBlk, bin, isShift, sameK, arith, shed])); (repeat (first | (refine And.intro ?_ ?_; · (first | trivial | assumption | omega | exact ⟨by omega, by omega⟩ | exact ⟨by omega, by omega, by omega⟩ | exact ⟨trivial, by omega, by omega⟩ | (intros; first | trivial | assumption | omega | exact ⟨by omega, by omega⟩))))); with_reducible refine hK _ ?_; clear hK K) | (refine run_cond rfl (fun hc => ?_) (fun hc => ?_) <;> try (simp only [*, Bool.true_eq_false, Bool.false_eq_true, Bool.not_true, Bool.not_false, Bool.true_or, Bool.or_true, Bool.false_or, Bool.or_false, Bool.false_and, Bool.and_false, bne_self_eq_false, beq_self_eq_true] at hc; done)) | refine run_block ?_ | refine run_ret ?_ | refine run_nil ?_ | refine run_exit ?_ | refine blk_normal ?_ | refine blk_ret ?_ | refine blk_here ?_ | refine blk_there rfl ?_ | refine loop_exit ?_ | refine loop_ret ?_ | refine un_exit ?_ | refine un_ret ?_ | refine unE_exit ?_ | refine unE_ret ?_ | refine un_normal ?_)
    rotate_left
    · exfalso; simp only [decide_eq_false_iff_not] at hc; omega
    clear hc
    repeat' (first | refine run_seq ?_ | refine run_skip ?_ | (refine run_region fun K hK => ?_; (try (simp (maxSteps := 10000000) only [C26r9, rwp_nil, rwp_cons, aop, gpath, St.get, slotAt, sfx, eqP, St.put, addBlk, getB, setB, ld1, st1, setRow, rowNeed, segAt, nsub, shed, addN, Nat.beq, Seg.size, sizes, imp, takeS, dropS, putS, strOk, plusA, exOk, Nat.reduceAdd, List.nil_append, List.cons_append])); (repeat (first | (refine And.intro ?_ ?_; · (first | trivial | assumption | omega | exact ⟨by omega, by omega⟩ | exact ⟨by omega, by omega, by omega⟩ | exact ⟨trivial, by omega, by omega⟩ | (intros; first | trivial | assumption | omega | exact ⟨by omega, by omega⟩))))); with_reducible refine hK _ ?_; clear hK K) | (refine run_cond rfl (fun hc => ?_) (fun hc => ?_) <;> try (simp only [*, Bool.true_eq_false, Bool.false_eq_true, Bool.not_true, Bool.not_false, Bool.true_or, Bool.or_true, Bool.false_or, Bool.or_false, Bool.false_and, Bool.and_false, bne_self_eq_false, beq_self_eq_true] at hc; done)) | refine run_block ?_ | refine run_ret ?_ | refine run_nil ?_ | refine run_exit ?_ | refine blk_normal ?_ | refine blk_ret ?_ | refine blk_here ?_ | refine blk_there rfl ?_ | refine loop_exit ?_ | refine loop_ret ?_ | refine un_exit ?_ | refine un_ret ?_ | refine unE_exit ?_ | refine unE_ret ?_ | refine un_normal ?_)
    by_cases h1 : 1 < usesS (s.b.f s.na).kind
    · have hb := hu1 h1
      have hre : reO s (s.b.f s.na) = { s.b.f s.na with a := s.a (s.b.f s.na).a.toNat, b := s.a (s.b.f s.na).b.toNat } := by simp only [reO, h0, h1, if_true]
      have hd : decide (((usesS (s.b.f s.na).kind : Nat) : Int) > 1) = true := decide_eq_true (by omega)
      repeat' (first | refine run_seq ?_ | refine run_skip ?_ | (refine run_region fun K hK => ?_; (try (simp (maxSteps := 10000000) only [C26r10, rwp_nil, rwp_cons, aop, gpath, St.get, slotAt, sfx, eqP, St.put, addBlk, bin, isShift, sameK, arith, shed])); (repeat (first | (refine And.intro ?_ ?_; · (first | trivial | assumption | omega | exact ⟨by omega, by omega⟩ | exact ⟨by omega, by omega, by omega⟩ | exact ⟨trivial, by omega, by omega⟩ | (intros; first | trivial | assumption | omega | exact ⟨by omega, by omega⟩))))); with_reducible refine hK _ ?_; clear hK K) | (refine run_cond rfl (fun hc => ?_) (fun hc => ?_) <;> try (simp only [*, Bool.true_eq_false] at hc; done)) | refine run_block ?_ | refine run_ret ?_ | refine run_nil ?_ | refine run_exit ?_ | refine blk_normal ?_ | refine blk_ret ?_ | refine blk_here ?_ | refine blk_there rfl ?_ | refine loop_exit ?_ | refine loop_ret ?_ | refine un_exit ?_ | refine un_ret ?_ | refine unE_exit ?_ | refine unE_ret ?_ | refine un_normal ?_)
      clear hc
      (refine run_regionL fun K hK => ?_; (try (simp (maxSteps := 10000000) only [C26r11, rwp_nil, rwp_cons, aop, gpath, St.get, slotAt, sfx, eqP, St.put, addBlk, getB, setB, ld1, st1, setRow, rowNeed, segAt, nsub, shed, addN, Nat.beq, Seg.size, sizes, imp, takeS, dropS, putS, strOk, plusA, exOk, Nat.reduceAdd, List.nil_append, List.cons_append])); (repeat (first | (refine And.intro ?_ ?_; · first | trivial | assumption | omega))); refine hK _ (stPo s (reO s (s.b.f s.na)) true) (LeS.intro [0, 1, 2, 3, 4, 5, 6, 7] (fun i h => idtF i h) (by simp only [diff, notIn, Nat.beq, and_self]) rfl (by simp only [stPo, sfT, hd, slotsLe, slotAt, leV, leV1, leC, leA, nthO, and_self]) ⟨by rw [hre]; exact opk_leG _, pass_le s 0 3 5 6 0 3 5 6 _ _ id rfl rfl rfl rfl, kn_le s, opsw_le _ _ _ (fun _ _ => rfl), at_le _ _ _ (fun _ _ => rfl), z_le, blk_le' s.b 0 0 rfl, ops_le s.b.n s.b.f false, trivial⟩) ?_; clear hK K)
      exact htail true
    · have hre : reO s (s.b.f s.na) = { s.b.f s.na with a := s.a (s.b.f s.na).a.toNat } := by simp only [reO, h0, h1, if_true, if_false]
      have hd : decide (((usesS (s.b.f s.na).kind : Nat) : Int) > 1) = false := decide_eq_false (by omega)
      (refine run_regionL fun K hK => ?_; (try (simp (maxSteps := 10000000) only [C26r10, rwp_nil, rwp_cons, aop, gpath, St.get, slotAt, sfx, eqP, St.put, addBlk, bin, isShift, sameK, arith, shed])); (repeat (first | (refine And.intro ?_ ?_; · first | trivial | assumption | omega))); refine hK _ (stPo s (reO s (s.b.f s.na)) false) (LeS.intro [0, 1, 2, 3, 4, 5, 6, 7] (fun i h => idtF i h) (by simp only [diff, notIn, Nat.beq, and_self]) rfl (by simp only [stPo, sfT, hd, slotsLe, slotAt, leV, leV1, leC, leA, nthO, and_self]) ⟨by rw [hre]; exact opk_leG _, pass_le s 0 3 5 6 0 3 5 6 _ _ id rfl rfl rfl rfl, kn_le s, opsw_le _ _ _ (fun _ _ => rfl), at_le _ _ _ (fun _ _ => rfl), z_le, blk_le' s.b 0 0 rfl, ops_le s.b.n s.b.f false, trivial⟩) ?_; clear hK K)
      exact run_cond rfl (fun hc => by cases hc) (fun _ => run_skip (htail false))
  · have h1 : ¬ 1 < usesS (s.b.f s.na).kind := by omega
    have hre : reO s (s.b.f s.na) = s.b.f s.na := by simp only [reO, h0, h1, if_false]
    have hd : decide (((usesS (s.b.f s.na).kind : Nat) : Int) > 1) = false := decide_eq_false (by omega)
    repeat' (first | refine run_seq ?_ | refine run_skip ?_ | (refine run_region fun K hK => ?_; (try (simp (maxSteps := 10000000) only [C26r8, rwp_nil, rwp_cons, aop, gpath, St.get, slotAt, sfx, eqP, St.put, addBlk, bin, isShift, sameK, arith, shed])); (repeat (first | (refine And.intro ?_ ?_; · (first | trivial | assumption | omega | exact ⟨by omega, by omega⟩ | exact ⟨by omega, by omega, by omega⟩ | exact ⟨trivial, by omega, by omega⟩ | (intros; first | trivial | assumption | omega | exact ⟨by omega, by omega⟩))))); with_reducible refine hK _ ?_; clear hK K) | (refine run_cond rfl (fun hc => ?_) (fun hc => ?_) <;> try (simp only [*, Bool.true_eq_false, Bool.false_eq_true, Bool.not_true, Bool.not_false, Bool.true_or, Bool.or_true, Bool.false_or, Bool.or_false, Bool.false_and, Bool.and_false, bne_self_eq_false, beq_self_eq_true] at hc; done)) | refine run_block ?_ | refine run_ret ?_ | refine run_nil ?_ | refine run_exit ?_ | refine blk_normal ?_ | refine blk_ret ?_ | refine blk_here ?_ | refine blk_there rfl ?_ | refine loop_exit ?_ | refine loop_ret ?_ | refine un_exit ?_ | refine un_ret ?_ | refine unE_exit ?_ | refine unE_ret ?_ | refine un_normal ?_)
    · exfalso; simp only [decide_eq_true_eq] at hc; omega
    clear hc
    (refine run_regionL fun K hK => ?_; (try (simp (maxSteps := 10000000) only [C26r10, rwp_nil, rwp_cons, aop, gpath, St.get, slotAt, sfx, eqP, St.put, addBlk, bin, isShift, sameK, arith, shed])); (repeat (first | (refine And.intro ?_ ?_; · first | trivial | assumption | omega))); refine hK _ (stPo s (reO s (s.b.f s.na)) false) (LeS.intro [0, 1, 2, 3, 4, 5, 6, 7] (fun i h => idtF i h) (by simp only [diff, notIn, Nat.beq, and_self]) rfl (by simp only [stPo, sfT, hd, slotsLe, slotAt, leV, leV1, leC, leA, nthO, and_self]) ⟨by rw [hre]; exact opk_leG _, pass_le s 0 3 5 6 0 3 5 6 _ _ id rfl rfl rfl rfl, kn_le s, opsw_le _ _ _ (fun _ _ => rfl), at_le _ _ _ (fun _ _ => rfl), z_le, blk_le' s.b 0 0 rfl, ops_le s.b.n s.b.f false, trivial⟩) ?_; clear hK K)
    exact run_cond rfl (fun hc => by cases hc) (fun _ => run_skip (htail false))
def heapStep0 (b : BlkS) : Heap := if rightS b = true then ⟨3, [(2, blkB (foldB b) 1), (1, opsW (stepS b).m (stepS b).f), (0, opsB b.n b.f)]⟩ else ⟨2, [(1, zblk), (0, opsB b.n b.f)]⟩
def heapStep (b : BlkS) : Heap := if rightS b = true then ⟨2, [(1, opsW (stepS b).m (stepS b).f), (0, opsB b.n b.f)]⟩ else ⟨1, [(0, opsB b.n b.f)]⟩
def zBlkL : List Seg := [.c (.int .u64 0), .c (.int .i64 0), .c (.int .i64 0), .c (.nils)]
def retStep (b : BlkS) (i : Nat) : AV := if rightS b = true then .tup [.agg (blkL (foldB b) i), .c (.bool (chgS b)), .c (.int .i64 0)] else .tup [.agg zBlkL, .c (.bool false), .c (.int .i64 4)]
theorem end_step {l : List Slot} {H : Heap} {b : BlkS} {T : PS} (hT : stepS b = T) (hr : rightS b = true) (hb : T.b = b) (c : Bool) (s2 : slotAt l 2 = some ⟨2, [], .c (.ptr ⟨2, 0, 0, 0⟩)⟩) (s3 : slotAt l 3 = some ⟨3, [], .c (.bool (!(eqOps T.m T.b.n T.f T.b.f)))⟩) (s4 : slotAt l 4 = some ⟨4, [], .c (.int .i64 0)⟩)
    (g2 : getB H.blks 2 = some ⟨4, none, fun _ => [.c (.int .u64 T.b.pc), .c (.int .i64 T.b.words), .c (.int .i64 T.b.el), .c (.slice ⟨5, 0, 0, 0⟩ false T.m)], 25, true⟩) (g5 : getB H.blks 5 = some (opsW T.m T.f)) (g0 : getB H.blks 0 = some (opsB T.b.n T.b.f)) : endQ (LeS 1) [.cn 4 2, .tmp 3, .tmp 4] (fun v H' => v = retStep b 1 ∧ H' = heapStep0 b) .ret ⟨l, H⟩ := by
  subst hT
  have hR : retStep b 1 = .tup [.agg (blkL (foldB b) 1), .c (.bool (chgS b)), .c (.int .i64 0)] := by unfold retStep; rw [if_pos hr]
  have hH : heapStep0 b = ⟨3, [(2, blkB (foldB b) 1), (1, opsW (stepS b).m (stepS b).f), (0, opsB b.n b.f)]⟩ := by unfold heapStep0; rw [if_pos hr]
  rw [hR, hH]
  rw [hb] at s3 g2 g0
  refine end_of ⟨[⟨2, [], .c (.ptr ⟨2, 0, 0, 0⟩)⟩, ⟨3, [], .c (.bool (chgS b))⟩, ⟨4, [], .c (.int .i64 0)⟩], ⟨3, [(2, blkB (foldB b) 1), (1, opsW (stepS b).m (stepS b).f), (0, opsB b.n b.f)]⟩⟩ (LeS.intro [0, 5, 2] (fun i h => idtF i h) (by simp only [diff, notIn, Nat.beq, and_self]) rfl (by simp only [chgS, slotsLe, s2, s3, s4, leV, leV1, leC, leA, nthO, and_self]) ?_) ?_
  · simp only [leBlks, nthO, g2, g5, g0]
    exact ⟨⟨rfl, rfl, id, Nat.le_refl _, fun _ _ => by simp only [blkB, blkL, foldB, leSegs, leSeg, leC, leA, nthO, and_self]⟩, opsw_le _ _ _ (fun _ _ => rfl), ops_le b.n b.f false, trivial⟩
  · simp only [endF, resL, resA, St.get, slotAt, sfx, eqP, ldn, getB, blkB, blkL, rowNeed, cut, dropS, takeS, Seg.size, nsub, noTup, resV]
    exact ⟨by first | rfl | trivial, by first | rfl | trivial⟩
set_option maxHeartbeats 16000000 in
theorem con26_0 (b : BlkS) : Con Try.prog 26 [.agg (blkL b 0)] ⟨1, [(0, opsB b.n b.f)]⟩ (fun v H' => v = retStep b 1 ∧ H' = heapStep0 b) := by
  (refine con_of_run mixed (fn := Try.f26) (by kernel_rfl) (by kernel_rfl) C26_ok (rs := [.cn 4 2, .tmp 3, .tmp 4]) (by kernel_rfl) (Nat.le_of_ble_eq_true (by kernel_rfl)) ?_; unfold C26; simp only [initT])
  repeat' (first | refine run_seq ?_ | refine run_skip ?_ | (refine run_region fun K hK => ?_; (try (simp (maxSteps := 10000000) only [opL, blkL, opsB, partsOf, fillS, C26r0, C26r1, C26r2, rwp_nil, rwp_cons, aop, gpath, St.get, slotAt, sfx, eqP, segsOf, St.put, addBlk, getB, setB, ldn, stn, setRow, rowNeed, nsub, shed, Nat.beq, Seg.size, sizes, appL, argsOf, ptrsOf, cut, takeS, dropS, putS, partsOf, fillS, exOk, Nat.reduceAdd, List.append_nil, List.nil_append])); (repeat (first | (refine And.intro ?_ ?_; · (first | trivial | assumption | omega | exact ⟨by omega, by omega⟩ | exact ⟨by omega, by omega, by omega⟩ | exact ⟨trivial, by omega, by omega⟩ | (intros; first | trivial | assumption | omega | exact ⟨by omega, by omega⟩))) | ((first | (refine call_t _ (con37_at b 0 _ _ _ rfl (Nat.le_of_ble_eq_true rfl) (by simp [keysLt])) ?_; rintro v H' ⟨rfl, rfl⟩) | refine call_q _ (con37_at b 0 _ _ _ rfl (Nat.le_of_ble_eq_true rfl) (by simp [keysLt])) ?_ | refine call_g _ (imp_of (con37_at b 0 _ _ _ rfl (Nat.le_of_ble_eq_true rfl) (by simp [keysLt]))) ?_); simp (maxSteps := 10000000) only [rwp_nil, rwp_cons, rwpK_app, aop, gpath, St.get, slotAt, sfx, eqP, St.put, addBlk, un, shed]))); with_reducible refine hK _ ?_; clear hK K) | (refine run_cond rfl (fun hc => ?_) (fun hc => ?_) <;> try (simp only [*, Bool.true_eq_false, Bool.false_eq_true, Bool.not_true, Bool.not_false, Bool.true_or, Bool.or_true, Bool.false_or, Bool.or_false, Bool.false_and, Bool.and_false, bne_self_eq_false, beq_self_eq_true] at hc; done)) | refine run_block ?_ | refine run_ret ?_ | refine run_nil ?_ | refine run_exit ?_ | refine blk_normal ?_ | refine blk_ret ?_ | refine blk_here ?_ | refine blk_there rfl ?_ | refine loop_exit ?_ | refine loop_ret ?_ | refine un_exit ?_ | refine un_ret ?_ | refine unE_exit ?_ | refine unE_ret ?_ | refine un_normal ?_)
  · have hr : rightS b = false := by simpa using hc
    refine end_of ⟨[⟨2, [], .c (.ptr ⟨1, 0, 0, 0⟩)⟩, ⟨3, [], .c (.bool false)⟩, ⟨4, [], .c (.int .i64 4)⟩], ⟨2, [(1, zblk), (0, opsB b.n b.f)]⟩⟩ (LeS.intro [0, 2] (fun i h => idtF i h) (by simp only [diff, notIn, Nat.beq, and_self]) rfl (by simp only [slotsLe, slotAt, leV, leV1, leC, leA, nthO, and_self]) ⟨z_le, ops_le b.n b.f false, trivial⟩) ?_
    simp only [endF, resL, resA, St.get, slotAt, sfx, eqP, ldn, getB, zblk, rowNeed, cut, dropS, takeS, Seg.size, nsub, noTup, resV]
    exact ⟨by simp only [retStep, zBlkL, hr, Bool.false_eq_true, if_false], by simp only [heapStep0, hr, Bool.false_eq_true, if_false, zblk]⟩
  have hr : rightS b = true := by simpa using hc
  have hn := right_n hr
  clear hc
  repeat' (first | refine run_seq ?_ | refine run_skip ?_ | (refine run_region fun K hK => ?_; (try (simp (maxSteps := 10000000) only [partsOf, fillS, C26r3, rwp_nil, rwp_cons, aop, gpath, St.get, slotAt, sfx, eqP, segsOf, St.put, addBlk, getB, ld1, rowNeed, segAt, nsub, shed, addN, Nat.beq, Seg.size, sizes, takeS, dropS, putS, partsOf, fillS, exOk, Nat.reduceAdd, List.append_nil, List.nil_append, List.cons_append, mapR, zcols])); (repeat (first | (refine And.intro ?_ ?_; · (first | trivial | assumption | omega | exact ⟨by omega, by omega⟩ | exact ⟨by omega, by omega, by omega⟩ | exact ⟨trivial, by omega, by omega⟩ | (intros; first | trivial | assumption | omega | exact ⟨by omega, by omega⟩))))); with_reducible refine hK _ ?_; clear hK K) | (refine run_cond rfl (fun hc => ?_) (fun hc => ?_) <;> try (simp only [*, Bool.true_eq_false, Bool.false_eq_true, Bool.not_true, Bool.not_false, Bool.true_or, Bool.or_true, Bool.false_or, Bool.or_false, Bool.false_and, Bool.and_false, bne_self_eq_false, beq_self_eq_true] at hc; done)) | refine run_block ?_ | refine run_ret ?_ | refine run_nil ?_ | refine run_exit ?_ | refine blk_normal ?_ | refine blk_ret ?_ | refine blk_here ?_ | refine blk_there rfl ?_ | refine loop_exit ?_ | refine loop_ret ?_ | refine un_exit ?_ | refine un_ret ?_ | refine unE_exit ?_ | refine unE_ret ?_ | refine un_normal ?_)
  (refine run_regionL fun K hK => ?_; (try (simp (maxSteps := 10000000) only [C26r4, rwp_nil, rwp_cons, aop, gpath, St.get, slotAt, sfx, eqP, St.put, addBlk, getB, ld1, rowNeed, segAt, nsub, shed, addN, Seg.size, Nat.reduceAdd])); (repeat (first | (refine And.intro ?_ ?_; · first | trivial | assumption | omega))); refine hK _ (stF (ps0 b) 0) (LeS.introG [0, 1, 2, 3, 4] (fun i h => idtF i h) (by simp only [diff, notIn, Nat.beq, and_self]) (Nat.le_of_ble_eq_true rfl) (by simp only [stF, sfT, ps0, slotsLe, slotAt, leV, leV1, leC, leA, nthO, Int.natCast_zero, and_self]) ⟨⟨rfl, rfl, id, Nat.le_refl _, fun _ _ => by simp only [passB, passL, ps0, leSegs, leSeg, leC, leA, nthO, and_self]⟩, ⟨rfl, rfl, id, rfl, fun _ _ => by simp only [knB, ps0, leSegs, leSeg, leC, and_self, implies_true]⟩, trivial, trivial, z_le, blk_le' b 0 0 rfl, ops_le b.n b.f false, trivial⟩) ?_; clear hK K)
  refine run_block ?_
  have hT : stepN b.n (ps0 b) = stepS b := rfl
  obtain ⟨hTok, hTb⟩ := stepN_ok b.n (ps0_ok hr)
  rw [hT] at hTok hTb
  generalize hTs : stepS b = T at hT hTok hTb
  have hTb : T.b = b := hTb
  have hTm : T.m ≤ 512 := by have := hTok.m; have h2 := hTok.na; rw [hTb] at h2; omega
  have hfin := fun l H c => @end_step l H b T hTs hr hTb c
  refine run_loop (fun t st => ∃ s, t = b.n - s.na ∧ PsOk s ∧ s.b = b ∧ stepN t s = T ∧ st = stF s s.na) b.n ⟨ps0 b, rfl, ps0_ok hr, rfl, hT, rfl⟩ ?_
  rintro t st ⟨s, rfl, hok, hsb, hst, rfl⟩
  have hsbn : s.b.n = b.n := by rw [hsb]
  unfold stF sfT sfH
  repeat' (first | refine run_seq ?_ | refine run_skip ?_ | (refine run_region fun K hK => ?_; (try (simp (maxSteps := 10000000) only [opL, passB, passL, knB, opsW, atB, opsB, blkB, blkL, zblk, C26r5, rwp_nil, rwp_cons, aop, gpath, St.get, slotAt, sfx, eqP, St.put, addBlk, bin, isShift, sameK, arith, shed])); (repeat (first | (refine And.intro ?_ ?_; · (first | trivial | assumption | omega | exact ⟨by omega, by omega⟩ | exact ⟨by omega, by omega, by omega⟩ | exact ⟨trivial, by omega, by omega⟩ | (intros; first | trivial | assumption | omega | exact ⟨by omega, by omega⟩))))); with_reducible refine hK _ ?_; clear hK K) | (refine run_cond rfl (fun hc => ?_) (fun hc => ?_) <;> try (simp only [*] at hc; done)) | refine run_block ?_ | refine run_ret ?_ | refine run_nil ?_ | refine run_exit ?_ | refine blk_normal ?_ | refine blk_ret ?_ | refine blk_here ?_ | refine blk_there rfl ?_ | refine loop_exit ?_ | refine loop_ret ?_ | refine un_exit ?_ | refine un_ret ?_ | refine unE_exit ?_ | refine unE_ret ?_ | refine un_normal ?_)
  · have hlt : s.na < s.b.n := by simp only [decide_eq_true_eq] at hc; omega
    clear hc
    obtain ⟨t, ht⟩ : ∃ t, b.n - s.na = t + 1 := ⟨b.n - s.na - 1, by omega⟩
    rw [ht] at hst ⊢
    simp only [stepN, hlt, if_true] at hst
    have hna := after_na hok hlt
    have hab := after_b hok hlt
    refine step_round s hok hlt _ (fun he => ?_) (fun he => ?_)
    · rw [he] at hst
      simp only [Bool.false_eq_true, if_false] at hst
      refine blk_normal ?_
      have hw : IntKind.i64.wrap ((s.na : Int) + 1) = ((s.na + 1 : Nat) : Int) := by rw [IntKind.wrap_i64]; omega
      unfold stE sfT sfH
      repeat' (first | refine run_seq ?_ | refine run_skip ?_ | (refine run_region fun K hK => ?_; (try (simp (maxSteps := 10000000) only [opL, passB, passL, knB, opsW, atB, opsB, blkB, blkL, zblk, hw, C26r15, rwp_nil, rwp_cons, aop, gpath, St.get, slotAt, sfx, eqP, St.put, addBlk, bin, isShift, sameK, arith, shed])); (repeat (first | (refine And.intro ?_ ?_; · (first | trivial | assumption | omega | exact ⟨by omega, by omega⟩ | exact ⟨by omega, by omega, by omega⟩ | exact ⟨trivial, by omega, by omega⟩ | (intros; first | trivial | assumption | omega | exact ⟨by omega, by omega⟩))))); with_reducible refine hK _ ?_; clear hK K) | (refine run_cond rfl (fun hc => ?_) (fun hc => ?_) <;> try (simp only [*, Bool.true_eq_false, Bool.false_eq_true, Bool.not_true, Bool.not_false, Bool.true_or, Bool.or_true, Bool.false_or, Bool.or_false, Bool.false_and, Bool.and_false, bne_self_eq_false, beq_self_eq_true] at hc; done)) | refine run_block ?_ | refine run_ret ?_ | refine run_nil ?_ | refine run_exit ?_ | refine blk_normal ?_ | refine blk_ret ?_ | refine blk_here ?_ | refine blk_there rfl ?_ | refine loop_exit ?_ | refine loop_ret ?_ | refine un_exit ?_ | refine un_ret ?_ | refine unE_exit ?_ | refine unE_ret ?_ | refine un_normal ?_)
      refine loop_normal t (stF (afterP s) (afterP s).na) (by omega) (LeS.intro [0, 1, 2, 3, 4, 5, 6] (fun i h => idtF i h) (by simp only [diff, notIn, Nat.beq, and_self]) rfl (by simp only [stF, sfT, hna, slotsLe, slotAt, leV, leV1, leC, leA, nthO, and_self]) ⟨pass_le _ 0 3 5 6 0 3 5 6 _ _ id rfl rfl rfl rfl, kn_le _, opsw_le _ _ _ (fun _ _ => rfl), at_le _ _ _ (fun _ _ => rfl), z_le, blk_le' _ 0 0 rfl, ops_le _ _ false, trivial⟩) ⟨afterP s, by rw [hna]; omega, after_ok hok hlt, by rw [hab]; exact hsb, hst, rfl⟩
    · rw [he] at hst
      simp only [if_true] at hst
      subst hst
      generalize hTT : afterP s = T at *
      refine blk_there rfl (loop_exit (blk_here ?_))
      unfold stE sfT sfH
      repeat' (first | refine run_seq ?_ | refine run_skip ?_ | (refine run_region fun K hK => ?_; (try (simp (maxSteps := 10000000) only [opL, passB, passL, knB, opsW, atB, opsB, blkB, blkL, zblk, C26r16, C26r17, C26r18, rwp_nil, rwp_cons, aop, gpath, St.get, slotAt, sfx, eqP, St.put, addBlk, getB, setB, ld1, ldn, st1, stn, setRow, rowNeed, segAt, nsub, shed, addN, Nat.beq, Seg.size, sizes, appL, argsOf, ptrsOf, cut, takeS, dropS, putS, exOk, Nat.reduceAdd, List.append_nil, List.nil_append, List.cons_append])); (repeat (first | (refine And.intro ?_ ?_; · (first | trivial | assumption | omega | exact ⟨by omega, by omega⟩ | exact ⟨by omega, by omega, by omega⟩ | exact ⟨trivial, by omega, by omega⟩ | (intros; first | trivial | assumption | omega | exact ⟨by omega, by omega⟩))) | ((first | (refine call_t _ (con49_at T.m T.b.n T.f T.b.f (by omega) 5 0 _ _ _ _ rfl rfl rfl (Nat.le_of_ble_eq_true rfl) (Nat.le_of_ble_eq_true rfl) (by simp [roL, keysLt])) ?_; rintro v H' ⟨rfl, rfl⟩) | refine call_q _ (con49_at T.m T.b.n T.f T.b.f (by omega) 5 0 _ _ _ _ rfl rfl rfl (Nat.le_of_ble_eq_true rfl) (Nat.le_of_ble_eq_true rfl) (by simp [roL, keysLt])) ?_ | refine call_g _ (imp_of (con49_at T.m T.b.n T.f T.b.f (by omega) 5 0 _ _ _ _ rfl rfl rfl (Nat.le_of_ble_eq_true rfl) (Nat.le_of_ble_eq_true rfl) (by simp [roL, keysLt]))) ?_); simp (maxSteps := 10000000) only [rwp_nil, rwp_cons, rwpK_app, aop, gpath, St.get, slotAt, sfx, eqP, St.put, addBlk, getB, setB, stn, setRow, rowNeed, nsub, un, shed, Nat.beq, Seg.size, sizes, takeS, dropS, putS, exOk, Nat.reduceAdd, List.append_nil, List.nil_append]))); with_reducible refine hK _ ?_; clear hK K) | (refine run_cond rfl (fun hc => ?_) (fun hc => ?_) <;> try (simp only [*, Bool.true_eq_false, Bool.false_eq_true, Bool.not_true, Bool.not_false, Bool.true_or, Bool.or_true, Bool.false_or, Bool.or_false, Bool.false_and, Bool.and_false, bne_self_eq_false, beq_self_eq_true] at hc; done)) | refine run_block ?_ | refine run_ret ?_ | refine run_nil ?_ | refine run_exit ?_ | refine blk_normal ?_ | refine blk_ret ?_ | refine blk_here ?_ | refine blk_there rfl ?_ | refine loop_exit ?_ | refine loop_ret ?_ | refine un_exit ?_ | refine un_ret ?_ | refine unE_exit ?_ | refine unE_ret ?_ | refine un_normal ?_)
      exact end_step hTs hr hTb true rfl rfl rfl rfl rfl rfl
  · have hge : b.n - s.na = 0 := by simp only [decide_eq_false_iff_not] at hc; omega
    rw [hge] at hst
    simp only [stepN] at hst
    subst hst
    repeat' (first | refine run_seq ?_ | refine run_skip ?_ | (refine run_region fun K hK => ?_; (try (simp (maxSteps := 10000000) only [C26r16, C26r17, C26r18, rwp_nil, rwp_cons, aop, gpath, St.get, slotAt, sfx, eqP, St.put, addBlk, getB, setB, ld1, ldn, st1, stn, setRow, rowNeed, segAt, nsub, shed, addN, Nat.beq, Seg.size, sizes, appL, argsOf, ptrsOf, cut, takeS, dropS, putS, exOk, Nat.reduceAdd, List.append_nil, List.nil_append, List.cons_append])); (repeat (first | (refine And.intro ?_ ?_; · (first | trivial | assumption | omega | exact ⟨by omega, by omega⟩ | exact ⟨by omega, by omega, by omega⟩ | exact ⟨trivial, by omega, by omega⟩ | (intros; first | trivial | assumption | omega | exact ⟨by omega, by omega⟩))) | ((first | (refine call_t _ (con49_at s.m s.b.n s.f s.b.f (by omega) 5 0 _ _ _ _ rfl rfl rfl (Nat.le_of_ble_eq_true rfl) (Nat.le_of_ble_eq_true rfl) (by simp [roL, keysLt])) ?_; rintro v H' ⟨rfl, rfl⟩) | refine call_q _ (con49_at s.m s.b.n s.f s.b.f (by omega) 5 0 _ _ _ _ rfl rfl rfl (Nat.le_of_ble_eq_true rfl) (Nat.le_of_ble_eq_true rfl) (by simp [roL, keysLt])) ?_ | refine call_g _ (imp_of (con49_at s.m s.b.n s.f s.b.f (by omega) 5 0 _ _ _ _ rfl rfl rfl (Nat.le_of_ble_eq_true rfl) (Nat.le_of_ble_eq_true rfl) (by simp [roL, keysLt]))) ?_); simp (maxSteps := 10000000) only [rwp_nil, rwp_cons, rwpK_app, aop, gpath, St.get, slotAt, sfx, eqP, St.put, addBlk, getB, setB, stn, setRow, rowNeed, nsub, un, shed, Nat.beq, Seg.size, sizes, takeS, dropS, putS, exOk, Nat.reduceAdd, List.append_nil, List.nil_append]))); with_reducible refine hK _ ?_; clear hK K) | (refine run_cond rfl (fun hc => ?_) (fun hc => ?_) <;> try (simp only [*, Bool.true_eq_false, Bool.false_eq_true, Bool.not_true, Bool.not_false, Bool.true_or, Bool.or_true, Bool.false_or, Bool.or_false, Bool.false_and, Bool.and_false, bne_self_eq_false, beq_self_eq_true] at hc; done)) | refine run_block ?_ | refine run_ret ?_ | refine run_nil ?_ | refine run_exit ?_ | refine blk_normal ?_ | refine blk_ret ?_ | refine blk_here ?_ | refine blk_there rfl ?_ | refine loop_exit ?_ | refine loop_ret ?_ | refine un_exit ?_ | refine un_ret ?_ | refine unE_exit ?_ | refine unE_ret ?_ | refine un_normal ?_)
    exact end_step hTs hr hTb true rfl rfl rfl rfl rfl rfl
theorem con26 (b : BlkS) : Con Try.prog 26 [.agg (blkL b 0)] ⟨1, [(0, opsB b.n b.f)]⟩ (fun v H' => v = retStep b 1 ∧ H' = heapStep b) := by
  refine Con.forget (con26_0 b) ?_
  rintro v H' ⟨rfl, rfl⟩
  by_cases hr : rightS b = true
  · refine ⟨_, heapStep b, [0, 1], (fun i h => idtF i h), (by simp only [diff, notIn, Nat.beq, and_self]), by simp only [heapStep, hr, if_true]; rfl, ?_, ?_, rfl, rfl⟩
    · simp only [heapStep0, heapStep, hr, if_true]
      exact ⟨opsw_le _ _ _ (fun _ _ => rfl), ops_le b.n b.f false, trivial⟩
    · simp only [retStep, hr, if_true, leV, leV1, leVL, blkL, leSegs, leSeg, leC, leA, nthO, and_self]
  · refine ⟨_, heapStep b, [0], (fun i h => idtF i h), ⟨trivial, trivial⟩, by simp only [heapStep, hr, if_false, Bool.false_eq_true]; rfl, ?_, ?_, rfl, rfl⟩
    · simp only [heapStep0, heapStep, hr, if_false, Bool.false_eq_true]
      exact ⟨ops_le b.n b.f false, trivial⟩
    · simp only [retStep, zBlkL, hr, if_false, Bool.false_eq_true, leV, leV1, leVL, leSegs, leSeg, leC, and_self]
end Go.Proofs.Ytmbnakinhnkabaa

namespace Go.Proofs.Ytmbnakinhnkabaa
open Go.AM
set_option maxRecDepth 100000
set_option linter.unusedSimpArgs false
set_option linter.unusedVariables false
structure Laid (s : PS) (r : One) (x : OpS) : Prop where
  m : r.s.m = s.m + 1
  f : ∀ i, r.s.f i = if i < s.m then s.f i else x
  v : r.v = s.m
structure Gone (s : PS) (r : One) : Prop where
  m : r.s.m = s.m
  f : r.s.f = s.f
  e : r.e = false
def KnN (s : PS) (o : OpS) (r : One) : Prop := ∀ j, j < r.s.kn → (∃ i, i < s.kn ∧ r.s.kv j = s.kv i) ∨ (r.s.kv j = o.a ∧ 1 ≤ usesS o.kind) ∨ (r.s.kv j = s.m ∧ defS o.kind = true ∧ Laid s r o)
def KnO (s : PS) (o : OpS) (r : One) : Prop :=
  (∃ x, Laid s r x ∧ ((x = o ∧ r.e = false ∧ o.kind ≠ 15 ∨ x = o ∧ r.e = false) ∨ (o.kind = 8 ∧ (∃ n, x = constO n) ∧ r.e = false) ∨ (o.kind = 15 ∧ x = exitO o.imm ∧ r.e = true))) ∨
  (Gone s r ∧ (((o.kind = 2 ∨ o.kind = 4 ∨ o.kind = 6) ∧ ∃ j, j < s.kn ∧ r.v = s.kv j) ∨ o.kind = 15))
theorem laid_lay (s : PS) (x : OpS) : Laid s (layO s x) x := ⟨rfl, fun _ => rfl, rfl⟩
theorem kn_same {s : PS} {o : OpS} {r : One} (h1 : r.s.kn = s.kn) (h2 : r.s.kv = s.kv) : KnN s o r := fun j hj => .inl ⟨j, by rw [← h1]; exact hj, by rw [h2]⟩
theorem put_from (s : PS) (k r v : Int) : ∀ j, j < (knPut s k r v).kn → (∃ i, i < s.kn ∧ (knPut s k r v).kv j = s.kv i) ∨ (knPut s k r v).kv j = v := by
  intro j hj
  have hle := findI_ok (s := s) (k := k) (r := r)
  simp only [knPut] at hj ⊢
  by_cases e : j = knFind s k r
  · rw [if_pos e]; exact .inr rfl
  · rw [if_neg e]; exact .inl ⟨j, by omega, rfl⟩
theorem del_from (s : PS) (k r : Int) : ∀ j, j < (knDel s k r).kn → ∃ i, i < s.kn ∧ (knDel s k r).kv j = s.kv i := by
  intro j hj
  have hle := findI_ok (s := s) (k := k) (r := r)
  simp only [knDel] at hj ⊢
  by_cases e : j < knFind s k r
  · rw [if_pos e]; exact ⟨j, by omega, rfl⟩
  · rw [if_neg e]
    rw [if_pos (by split at hj <;> omega)] at hj
    exact ⟨j + 1, by omega, rfl⟩
theorem set_from (s : PS) (o : OpS) (k r : Int) : ∀ j, j < (knSet s o k r).kn → (∃ i, i < s.kn ∧ (knSet s o k r).kv j = s.kv i) ∨ (knSet s o k r).kv j = o.a := by
  unfold knSet
  split
  · exact put_from s k r o.a
  · exact fun j hj => .inl (del_from s k r j hj)
theorem place_get {o : OpS} (h1 : placeOk o = true) (h2 : ¬ placeSet o = true) : o.kind = 2 ∨ o.kind = 4 ∨ o.kind = 6 := by
  unfold placeOk at h1
  unfold placeSet at h2
  simp only [Bool.or_eq_true, beq_iff_eq] at h1 h2
  omega
theorem def_get {o : OpS} (h : o.kind = 2 ∨ o.kind = 4 ∨ o.kind = 6) : defS o.kind = true := by
  rcases h with h | h | h <;> rw [h] <;> decide
theorem one_known (s : PS) (o : OpS) : KnN s o (oneP s o) := by
  unfold oneP
  split
  · rename_i h1
    split
    · rename_i h2
      intro j hj
      rcases set_from s o (placeK o) (placeR o) j hj with h | h
      · exact .inl h
      · exact .inr (.inl ⟨h, usesS_set h1 h2⟩)
    · rename_i h2
      split
      · exact kn_same rfl rfl
      · intro j hj
        rcases put_from (layS s o) (placeK o) (placeR o) s.m j hj with h | h
        · exact .inl h
        · exact .inr (.inr ⟨h, def_get (place_get h1 h2), ⟨rfl, fun _ => rfl, rfl⟩⟩)
  · split
    · split <;> exact kn_same rfl rfl
    · split
      · split
        · split <;> exact kn_same rfl rfl
        · exact kn_same rfl rfl
      · exact kn_same rfl rfl
theorem one_out (s : PS) (o : OpS) : KnO s o (oneP s o) := by
  have lay : ∀ x, Laid s (layO s x) x := laid_lay s
  unfold oneP
  split
  · rename_i h1
    split
    · rename_i h2
      obtain ⟨g1, g2, g3⟩ := knSet_at s o (placeK o) (placeR o)
      have hm := knSet_m s o (placeK o) (placeR o)
      refine .inl ⟨o, ⟨?_, fun i => ?_, rfl⟩, .inl (.inr ⟨rfl, rfl⟩)⟩
      · show (knSet s o (placeK o) (placeR o)).m + 1 = _
        rw [hm]
      · show (if i < (knSet s o (placeK o) (placeR o)).m then (knSet s o (placeK o) (placeR o)).f i else o) = _
        rw [hm, g3]
    · rename_i h2
      split
      · rename_i hj
        exact .inr ⟨⟨rfl, rfl, rfl⟩, .inl ⟨place_get h1 h2, _, hj, rfl⟩⟩
      · exact .inl ⟨o, ⟨rfl, fun _ => rfl, rfl⟩, .inl (.inr ⟨rfl, rfl⟩)⟩
  · split
    · rename_i h8
      split
      · exact .inl ⟨_, lay _, .inr (.inl ⟨h8, ⟨_, rfl⟩, rfl⟩)⟩
      · exact .inl ⟨o, lay o, .inl (.inr ⟨rfl, rfl⟩)⟩
    · split
      · rename_i h15
        split
        · split
          · exact .inr ⟨⟨rfl, rfl, rfl⟩, .inr h15⟩
          · exact .inl ⟨_, ⟨rfl, fun _ => rfl, rfl⟩, .inr (.inr ⟨h15, rfl, rfl⟩)⟩
        · exact .inl ⟨o, lay o, .inl (.inr ⟨rfl, rfl⟩)⟩
      · exact .inl ⟨o, lay o, .inl (.inr ⟨rfl, rfl⟩)⟩
def wOp (o : OpS) : Nat := if o.kind = 8 ∨ o.kind = 15 then 2 else 1
def wt (f : Nat → OpS) : Nat → Nat
  | 0 => 0
  | n + 1 => wt f n + wOp (f n)
theorem wt_congr {f g : Nat → OpS} : ∀ {n : Nat}, (∀ i, i < n → f i = g i) → wt f n = wt g n
  | 0, _ => rfl
  | n + 1, h => by simp only [wt]; rw [wt_congr fun i hi => h i (by omega), h n (by omega)]
theorem wt_mono (f : Nat → OpS) {n m : Nat} (h : n ≤ m) : wt f n ≤ wt f m := by
  induction m with
  | zero => rw [Nat.le_zero.1 h]; exact Nat.le_refl _
  | succ m ih =>
    by_cases e : n = m + 1
    · rw [e]; exact Nat.le_refl _
    · simp only [wt]; have := ih (by omega); omega
theorem wOp_pos (o : OpS) : 1 ≤ wOp o := by unfold wOp; split <;> omega
theorem fieldBad_reO (s : PS) {o : OpS} (h : fieldBad o = false) : fieldBad (reO s o) = false := by
  unfold fieldBad at h ⊢
  simp only [Bool.or_eq_false_iff, Bool.and_eq_false_iff, decide_eq_false_iff_not, bne_eq_false_iff_eq] at h ⊢
  obtain ⟨⟨⟨⟨⟨h1, h2⟩, h3⟩, h4⟩, h5⟩, h6⟩ := h
  refine ⟨⟨⟨⟨⟨h1, h2⟩, h3⟩, h4⟩, ?_⟩, ?_⟩
  · rcases h5 with h5 | h5
    · exact .inl h5
    · by_cases hu : 0 < usesS o.kind
      · exact .inl (by show ¬ usesS o.kind < 1; omega)
      · exact .inr (by show (if 0 < usesS o.kind then _ else o.a) = 0; rw [if_neg hu]; exact h5)
  · rcases h6 with h6 | h6
    · exact .inl h6
    · by_cases hu : 1 < usesS o.kind
      · exact .inl (by show ¬ usesS o.kind < 2; omega)
      · exact .inr (by show (if 1 < usesS o.kind then _ else o.b) = 0; rw [if_neg hu]; exact h6)
theorem usesOk_of {o : OpS} {m : Nat} {f : Nat → OpS} : ∀ {u : Nat}, (∀ i, i < u → 0 ≤ useF o i ∧ useF o i < m ∧ defS (f (useF o i).toNat).kind = true) → usesOk o m f u = true
  | 0, _ => rfl
  | u + 1, h => by
    have h1 := usesOk_of (o := o) (m := m) (f := f) fun i hi => h i (Nat.lt_succ_of_lt hi)
    have h2 := h u (Nat.lt_succ_self u)
    simp only [usesOk, h1, useOk_eq, Bool.true_and, Bool.not_eq_true', Bool.or_eq_false_iff, decide_eq_false_iff_not]
    exact ⟨⟨by omega, by omega⟩, by rw [h2.2.2]; rfl⟩
theorem rop_iff {o : OpS} {m : Nat} {f : Nat → OpS} : ropS o m f = true ↔ fieldBad o = false ∧ ∀ i, i < usesS o.kind → 0 ≤ useF o i ∧ useF o i < m ∧ defS (f (useF o i).toNat).kind = true := by
  unfold ropS
  simp only [Bool.and_eq_true, Bool.not_eq_true']
  exact ⟨fun h => ⟨h.1, fun i hi => usesOk_at h.2 hi⟩, fun h => ⟨h.1, usesOk_of h.2⟩⟩
theorem rop_congr {o : OpS} {m : Nat} {f g : Nat → OpS} (h : ∀ i, i < m → g i = f i) (hr : ropS o m f = true) : ropS o m g = true := by
  rw [rop_iff] at hr ⊢
  refine ⟨hr.1, fun i hi => ?_⟩
  obtain ⟨h1, h2, h3⟩ := hr.2 i hi
  exact ⟨h1, h2, by rw [h _ (by omega)]; exact h3⟩
structure PsR (s : PS) : Prop where
  ok : PsOk s
  op : ∀ k, k < s.m → ropS (s.f k) k s.f = true
  dA : ∀ j, j < s.na → defS (s.b.f j).kind = true → defS (s.f (s.a j).toNat).kind = true
  dK : ∀ j, j < s.kn → defS (s.f (s.kv j).toNat).kind = true
  hd : 0 < s.na → 0 < s.m ∧ s.f 0 = s.b.f 0
  w : wt s.f s.m ≤ wt s.b.f s.na
  e : wt s.f s.m = wt s.b.f s.na → s.m = s.na ∧ (∀ j, j < s.na → s.a j = j) ∧ ∀ k, k < s.m → s.f k = s.b.f k
theorem ps0_r {b : BlkS} (hr : rightS b = true) : PsR (ps0 b) := ⟨ps0_ok hr, fun k h => absurd h (Nat.not_lt_zero k), fun j h => absurd h (Nat.not_lt_zero j), fun j h => absurd h (Nat.not_lt_zero j), fun h => absurd h (Nat.not_lt_zero _), Nat.le_refl _, fun _ => ⟨rfl, fun j h => absurd h (Nat.not_lt_zero j), fun k h => absurd h (Nat.not_lt_zero k)⟩⟩
theorem reO_rop {s : PS} (h : PsR s) (hlt : s.na < s.b.n) : ropS (reO s (s.b.f s.na)) s.m s.f = true := by
  have hop := rop_iff.1 (opsOk_at (right_ops h.ok.r) hlt).1
  rw [rop_iff]
  refine ⟨fieldBad_reO s hop.1, fun i hi => ?_⟩
  have hi : i < usesS (s.b.f s.na).kind := hi
  have hu2 : usesS (s.b.f s.na).kind ≤ 2 := by unfold usesS; (repeat' split) <;> omega
  obtain ⟨h1, h2, h3⟩ := hop.2 i hi
  have he : useF (reO s (s.b.f s.na)) i = s.a (useF (s.b.f s.na) i).toNat := by
    match i, hi with
    | 0, hi => show (if 0 < usesS (s.b.f s.na).kind then _ else _) = _; rw [if_pos hi]; rfl
    | 1, hi => show (if 1 < usesS (s.b.f s.na).kind then _ else _) = _; rw [if_pos hi]; rfl
    | i + 2, hi => omega
  have hlt' : (useF (s.b.f s.na) i).toNat < s.na := by omega
  rw [he]
  obtain ⟨g1, g2⟩ := h.ok.at_ _ hlt' h3
  exact ⟨g1, g2, h.dA _ hlt' h3⟩
theorem constO_rop (n : Int) (m : Nat) (f : Nat → OpS) : ropS (constO n) m f = true := rop_iff.2 ⟨by simp [fieldBad, constO, rightF, hasR, hasImm, hasOrd], fun i hi => by
  have : usesS (constO n).kind = 0 := by show usesS 1 = 0; decide
  omega⟩
theorem exitO_rop (n : Int) (m : Nat) (f : Nat → OpS) : ropS (exitO n) m f = true := rop_iff.2 ⟨by simp [fieldBad, exitO, rightF, hasR, hasImm, hasOrd], fun i hi => by
  have : usesS (exitO n).kind = 0 := by show usesS 16 = 0; decide
  omega⟩
theorem right_first {b : BlkS} (hr : rightS b = true) : (b.f 0).kind = 14 ∧ (b.f 0).imm = b.pc := by
  unfold rightS head2 at hr
  simp only [Bool.and_eq_true, Bool.not_eq_true', Bool.or_eq_false_iff, bne_eq_false_iff_eq] at hr
  exact hr.1.2
theorem reO_none {s : PS} {o : OpS} (h : usesS o.kind = 0) : reO s o = o := by
  unfold reO
  rw [if_neg (by omega), if_neg (by omega)]
theorem reO_id {s : PS} {b : BlkS} (hr : rightS b = true) {k : Nat} (hk : k < b.n) (ha : ∀ j, j < k → s.a j = j) : reO s (b.f k) = b.f k := by
  have hu := fun i (hi : i < usesS (b.f k).kind) => right_use hr hk hi
  have h0 : (if 0 < usesS (b.f k).kind then s.a (b.f k).a.toNat else (b.f k).a) = (b.f k).a := by
    split
    · rename_i h
      obtain ⟨h1, h2, _⟩ := hu 0 h
      have e : useF (b.f k) 0 = (b.f k).a := rfl
      rw [e] at h1 h2
      rw [ha _ (by omega)]
      omega
    · rfl
  have h1 : (if 1 < usesS (b.f k).kind then s.a (b.f k).b.toNat else (b.f k).b) = (b.f k).b := by
    split
    · rename_i h
      obtain ⟨h1, h2, _⟩ := hu 1 h
      have e : useF (b.f k) 1 = (b.f k).b := rfl
      rw [e] at h1 h2
      rw [ha _ (by omega)]
      omega
    · rfl
  unfold reO
  rw [h0, h1]
theorem out_kinds {s : PS} {o : OpS} {r : One} (h : KnO s o r) : (∃ x, Laid s r x ∧ (x = o ∨ (o.kind = 8 ∧ ∃ n, x = constO n) ∨ (o.kind = 15 ∧ x = exitO o.imm ∧ r.e = true))) ∨ (Gone s r ∧ (((o.kind = 2 ∨ o.kind = 4 ∨ o.kind = 6) ∧ ∃ j, j < s.kn ∧ r.v = s.kv j) ∨ o.kind = 15)) := by
  rcases h with ⟨x, hl, h⟩ | h
  · refine .inl ⟨x, hl, ?_⟩
    rcases h with h | h | h
    · exact .inl (h.elim (·.1) (·.1))
    · exact .inr (.inl ⟨h.1, h.2.1⟩)
    · exact .inr (.inr h)
  · exact .inr h
theorem after_r {s : PS} (h : PsR s) (hlt : s.na < s.b.n) : PsR (afterP s) := by
  have hok := after_ok h.ok hlt
  have ho := nextP_ok h.ok hlt
  have hout := out_kinds (r := nextP s) (show KnO s (reO s (s.b.f s.na)) (nextP s) from one_out s _)
  have hkn := one_known s (reO s (s.b.f s.na))
  have hrop := reO_rop h hlt
  have hropi := rop_iff.1 hrop
  have hm := h.ok.m
  have hfst := right_first h.ok.r
  have hid : (∀ j, j < s.na → s.a j = j) → reO s (s.b.f s.na) = s.b.f s.na := fun ha => reO_id h.ok.r hlt ha
  have hz : s.na = 0 → reO s (s.b.f s.na) = s.b.f 0 := fun e => by rw [e]; exact reO_none (by rw [hfst.1]; decide)
  have hkd : (reO s (s.b.f s.na)).kind = (s.b.f s.na).kind := rfl
  have hwo : wOp (reO s (s.b.f s.na)) = wOp (s.b.f s.na) := rfl
  change KnN s (reO s (s.b.f s.na)) (nextP s) at hkn
  revert hok
  unfold afterP
  intro hok
  generalize reO s (s.b.f s.na) = o at *
  generalize nextP s = r at *
  obtain ⟨⟨rb, rm, rf, rna, ra, rkn, rkk, rkr, rkv⟩, rv, re, rl⟩ := r
  obtain ⟨hb, hna, ha, hmm, hf, hkr, hv⟩ := ho
  simp only at *
  subst hb hna ha
  have hoa : 1 ≤ usesS o.kind → 0 ≤ o.a ∧ o.a < s.m ∧ defS (s.f o.a.toNat).kind = true := fun hu => hropi.2 0 hu
  rcases hout with ⟨x, hl, hx⟩ | ⟨hg, hx⟩
  · obtain ⟨hl1, hl2, hl3⟩ := hl
    simp only at hl1 hl2 hl3
    subst hl1
    obtain rfl : rf = fun i => if i < s.m then s.f i else x := funext hl2
    subst hl3
    have hold : ∀ i, i < s.m → (fun i => if i < s.m then s.f i else x) i = s.f i := fun i hi => if_pos hi
    have hnew : (fun i => if i < s.m then s.f i else x) s.m = x := if_neg (Nat.lt_irrefl _)
    have hxr : ropS x s.m s.f = true := by
      rcases hx with rfl | ⟨_, n, rfl⟩ | ⟨_, rfl, _⟩
      · exact hrop
      · exact constO_rop _ _ _
      · exact exitO_rop _ _ _
    have hxd : defS o.kind = true → defS x.kind = true := fun hd => by
      rcases hx with rfl | ⟨_, n, rfl⟩ | ⟨h15, rfl, _⟩
      · exact hd
      · show defS 1 = true; decide
      · rw [h15] at hd; exact absurd hd (by decide)
    have hxw : wOp x ≤ wOp o := by
      rcases hx with rfl | ⟨h8, n, rfl⟩ | ⟨h15, rfl, _⟩
      · exact Nat.le_refl _
      · have : wOp (constO n) = 1 := by simp [wOp, constO]
        rw [this]; exact wOp_pos o
      · have : wOp (exitO o.imm) = 1 := by simp [wOp, exitO]
        rw [this]; exact wOp_pos o
    have hxe : wOp x = wOp o → x = o := fun he => by
      rcases hx with rfl | ⟨h8, n, rfl⟩ | ⟨h15, rfl, _⟩
      · rfl
      · have h1 : wOp (constO n) = 1 := by simp [wOp, constO]
        have h2 : wOp o = 2 := by simp [wOp, h8]
        omega
      · have h1 : wOp (exitO o.imm) = 1 := by simp [wOp, exitO]
        have h2 : wOp o = 2 := by simp [wOp, h15]
        omega
    have hwt : wt (fun i => if i < s.m then s.f i else x) (s.m + 1) = wt s.f s.m + wOp x := by
      simp only [wt]
      rw [wt_congr hold, if_neg (Nat.lt_irrefl _)]
    refine ⟨hok, fun k hk => ?_, fun j hj hd => ?_, fun j hj => ?_, fun _ => ?_, ?_, fun he => ?_⟩
    · have hk : k < s.m + 1 := hk
      by_cases e : k = s.m
      · subst e
        show ropS ((fun i => if i < s.m then s.f i else x) s.m) s.m _ = true
        rw [hnew]
        exact rop_congr hold hxr
      · show ropS ((fun i => if i < s.m then s.f i else x) k) k _ = true
        rw [hold k (by omega)]
        exact rop_congr (fun i hi => hold i (by omega)) (h.op k (by omega))
    · have hj : j < s.na + 1 := hj
      have hd : defS (s.b.f j).kind = true := hd
      show defS ((fun i => if i < s.m then s.f i else x) (if j < s.na then s.a j else (s.m : Int)).toNat).kind = true
      by_cases e : j < s.na
      · have := h.ok.at_ j e hd
        rw [if_pos e, hold _ (by omega)]
        exact h.dA j e hd
      · have e2 : j = s.na := by omega
        subst e2
        rw [if_neg e, Int.toNat_natCast, hnew]
        exact hxd (by rw [hkd]; exact hd)
    · show defS ((fun i => if i < s.m then s.f i else x) (rkv j).toNat).kind = true
      rcases hkn j hj with ⟨i, hi, e⟩ | ⟨e, hu⟩ | ⟨e, hd, hl⟩
      · have e : rkv j = s.kv i := e
        have := h.ok.kn i hi
        rw [e, hold _ (by omega)]
        exact h.dK i hi
      · have e : rkv j = o.a := e
        obtain ⟨g1, g2, g3⟩ := hoa hu
        rw [e, hold _ (by omega)]
        exact g3
      · have e : rkv j = (s.m : Int) := e
        rw [e, Int.toNat_natCast, hnew]
        exact hxd hd
    · show 0 < s.m + 1 ∧ (fun i => if i < s.m then s.f i else x) 0 = s.b.f 0
      refine ⟨by omega, ?_⟩
      by_cases e : s.na = 0
      · have hm0 : s.m = 0 := by omega
        have hx0 : x = o := by
          rcases hx with rfl | ⟨h8, _⟩ | ⟨h15, _⟩
          · rfl
          · rw [hz e] at h8; rw [hfst.1] at h8; exact absurd h8 (by decide)
          · rw [hz e] at h15; rw [hfst.1] at h15; exact absurd h15 (by decide)
        show (if 0 < s.m then s.f 0 else x) = _
        rw [if_neg (by omega), hx0, hz e]
      · obtain ⟨g1, g2⟩ := h.hd (by omega)
        rw [hold 0 g1, g2]
    · show wt (fun i => if i < s.m then s.f i else x) (s.m + 1) ≤ wt s.b.f (s.na + 1)
      rw [hwt]
      simp only [wt]
      have := h.w
      omega
    · have he : wt (fun i => if i < s.m then s.f i else x) (s.m + 1) = wt s.b.f (s.na + 1) := he
      rw [hwt] at he
      simp only [wt] at he
      have hw := h.w
      obtain ⟨g1, g2, g3⟩ := h.e (by omega)
      have hxo := hxe (by omega)
      show s.m + 1 = s.na + 1 ∧ (∀ j, j < s.na + 1 → (if j < s.na then s.a j else (s.m : Int)) = j) ∧ ∀ k, k < s.m + 1 → (fun i => if i < s.m then s.f i else x) k = s.b.f k
      refine ⟨by omega, fun j hj => ?_, fun k hk => ?_⟩
      · split
        · exact g2 j (by assumption)
        · omega
      · by_cases e : k = s.m
        · subst e
          rw [hnew, hxo, hid g2, g1]
        · rw [hold k (by omega)]
          exact g3 k (by omega)
  · obtain ⟨hg1, hg2, hg3⟩ := hg
    simp only at hg1 hg2 hg3
    subst hg1 hg2
    refine ⟨hok, h.op, fun j hj hd => ?_, fun j hj => ?_, fun _ => ?_, ?_, fun he => ?_⟩
    · have hj : j < s.na + 1 := hj
      have hd : defS (s.b.f j).kind = true := hd
      show defS (s.f (if j < s.na then s.a j else rv).toNat).kind = true
      by_cases e : j < s.na
      · rw [if_pos e]; exact h.dA j e hd
      · have e2 : j = s.na := by omega
        subst e2
        rw [if_neg e]
        rcases hx with ⟨_, i, hi, hvi⟩ | h15
        · rw [show rv = s.kv i from hvi]; exact h.dK i hi
        · rw [← hkd, h15] at hd; exact absurd hd (by decide)
    · show defS (s.f (rkv j).toNat).kind = true
      rcases hkn j hj with ⟨i, hi, e⟩ | ⟨e, hu⟩ | ⟨e, hd, hl⟩
      · rw [show rkv j = s.kv i from e]; exact h.dK i hi
      · rw [show rkv j = o.a from e]; exact (hoa hu).2.2
      · exact absurd hl.m (by show ¬ s.m = s.m + 1; omega)
    · show 0 < s.m ∧ s.f 0 = s.b.f 0
      by_cases e : s.na = 0
      · exfalso
        have h14 : o.kind = 14 := by rw [hz e]; exact hfst.1
        rcases hx with ⟨hk, _⟩ | hk
        · rw [h14] at hk; exact absurd hk (by decide)
        · rw [h14] at hk; exact absurd hk (by decide)
      · exact h.hd (by omega)
    · show wt s.f s.m ≤ wt s.b.f (s.na + 1)
      simp only [wt]
      have := h.w
      omega
    · exfalso
      have he : wt s.f s.m = wt s.b.f (s.na + 1) := he
      simp only [wt] at he
      have := h.w
      have := wOp_pos (s.b.f s.na)
      omega
end Go.Proofs.Ytmbnakinhnkabaa

namespace Go.Proofs.Ytmbnakinhnkabaa
open Go.AM
set_option maxRecDepth 100000
set_option linter.unusedSimpArgs false
set_option linter.unusedVariables false
def Nd (s : PS) : Prop := ∀ k, k < s.m → endS (s.f k).kind = false
theorem end_at {b : BlkS} (hr : rightS b = true) {k : Nat} (hk : k < b.n) : endS (b.f k).kind = true ↔ k + 1 = b.n := by
  rw [(opsOk_at (right_ops hr) hk).2, decide_eq_true_eq]
  omega
theorem after_nd {s : PS} (h : PsR s) (hn : Nd s) (hlt : s.na < s.b.n) (he : (nextP s).e = false) (hl : s.na + 1 < s.b.n) : Nd (afterP s) := by
  have hout := out_kinds (r := nextP s) (show KnO s (reO s (s.b.f s.na)) (nextP s) from one_out s _)
  have hne : ¬ endS (s.b.f s.na).kind = true := fun e => by have := (end_at h.ok.r hlt).1 e; omega
  have hkd : (reO s (s.b.f s.na)).kind = (s.b.f s.na).kind := rfl
  intro k hk
  have hk : k < (nextP s).s.m := hk
  show endS ((nextP s).s.f k).kind = false
  rcases hout with ⟨x, hl', hx⟩ | ⟨hg, hx⟩
  · rw [hl'.m] at hk
    rw [hl'.f]
    split
    · exact hn k (by assumption)
    · rcases hx with rfl | ⟨_, n, rfl⟩ | ⟨_, rfl, e⟩
      · rw [hkd]; simpa using hne
      · show endS 1 = false; decide
      · rw [he] at e; cases e
  · rw [hg.m] at hk
    rw [hg.f]
    exact hn k hk
def EndOk (s : PS) : Prop := ∃ m0, s.m = m0 + 1 ∧ endS (s.f m0).kind = true ∧ ∀ k, k < m0 → endS (s.f k).kind = false
theorem after_end {s : PS} (h : PsR s) (hn : Nd s) (hlt : s.na < s.b.n) (hc : (nextP s).e = true ∨ s.na + 1 = s.b.n) : EndOk (afterP s) := by
  have hout := show KnO s (reO s (s.b.f s.na)) (nextP s) from one_out s _
  have hkd : (reO s (s.b.f s.na)).kind = (s.b.f s.na).kind := rfl
  have fin : ∀ x, Laid s (nextP s) x → endS x.kind = true → EndOk (afterP s) := fun x hl hx => by
    refine ⟨s.m, hl.m, ?_, fun k hk => ?_⟩
    · show endS ((nextP s).s.f s.m).kind = true
      rw [hl.f, if_neg (Nat.lt_irrefl _)]; exact hx
    · show endS ((nextP s).s.f k).kind = false
      rw [hl.f, if_pos hk]; exact hn k hk
  have hend : (nextP s).e = false → endS (reO s (s.b.f s.na)).kind = true := fun e => by
    rw [hkd, end_at h.ok.r hlt]
    rcases hc with hc | hc
    · rw [hc] at e; cases e
    · exact hc
  have no : ∀ {k : Int}, (k = 8 ∨ k = 15 ∨ k = 2 ∨ k = 4 ∨ k = 6) → endS k = true → False := fun {k} hk he => by
    rcases hk with rfl | rfl | rfl | rfl | rfl <;> exact absurd he (by decide)
  rcases hout with ⟨x, hl, hx⟩ | ⟨hg, hx⟩
  · rcases hx with hx | ⟨h8, hx, he⟩ | ⟨h15, rfl, he⟩
    · have hxo : x = reO s (s.b.f s.na) := hx.elim (·.1) (·.1)
      have he : (nextP s).e = false := hx.elim (·.2.1) (·.2)
      exact fin x hl (by rw [hxo]; exact hend he)
    · exact (no (.inl h8) (hend he)).elim
    · exact fin _ hl (by show endS 16 = true; decide)
  · have he := hend hg.e
    rcases hx with ⟨hk, _⟩ | hk
    · exact (no (by rcases hk with h | h | h <;> simp [h]) he).elim
    · exact (no (.inr (.inl hk)) he).elim
theorem stepN_fin : ∀ (t : Nat) {s : PS}, PsR s → Nd s → s.na < s.b.n → s.b.n - s.na ≤ t → PsR (stepN t s) ∧ EndOk (stepN t s) ∧ 0 < (stepN t s).na ∧ (stepN t s).b = s.b
  | 0, s, _, _, hlt, ht => by omega
  | t + 1, s, h, hn, hlt, ht => by
    have hr := after_r h hlt
    have hb := after_b h.ok hlt
    have hna := after_na h.ok hlt
    simp only [stepN, hlt, if_true]
    cases he : (nextP s).e with
    | true =>
      simp only [if_true]
      exact ⟨hr, after_end h hn hlt (.inl he), by rw [hna]; omega, hb⟩
    | false =>
      simp only [Bool.false_eq_true, if_false]
      by_cases hl : s.na + 1 < s.b.n
      · obtain ⟨g1, g2, g3, g4⟩ := stepN_fin t hr (after_nd h hn hlt he hl) (by rw [hb, hna]; exact hl) (by rw [hb, hna]; omega)
        exact ⟨g1, g2, g3, g4.trans hb⟩
      · have hend := after_end h hn hlt (.inr (by omega))
        have hst : stepN t (afterP s) = afterP s := by
          cases t with
          | zero => rfl
          | succ t => simp only [stepN]; rw [if_neg (by rw [hb, hna]; omega)]
        rw [hst]
        exact ⟨hr, hend, by rw [hna]; omega, hb⟩
theorem step_fin {b : BlkS} (hr : rightS b = true) : PsR (stepS b) ∧ EndOk (stepS b) ∧ 0 < (stepS b).na ∧ (stepS b).b = b :=
  stepN_fin b.n (ps0_r hr) (fun k h => absurd h (Nat.not_lt_zero k)) (right_n hr).1 (by show b.n - 0 ≤ b.n; omega)
theorem fold_n {b : BlkS} (hr : rightS b = true) : 1 ≤ (foldB b).n ∧ (foldB b).n ≤ b.n := by
  obtain ⟨h1, ⟨m0, h2, _⟩, h3, h4⟩ := step_fin hr
  have hm := h1.ok.m
  have hna := h1.ok.na
  rw [h4] at hna
  show 1 ≤ (stepS b).m ∧ (stepS b).m ≤ b.n
  omega
theorem fold_right {b : BlkS} (hr : rightS b = true) : rightS (foldB b) = true := by
  obtain ⟨h1, ⟨m0, h2, h3, h4⟩, h5, h6⟩ := step_fin hr
  have hn := fold_n hr
  have hbn := right_n hr
  have hfst := right_first hr
  obtain ⟨g1, g2⟩ := h1.hd h5
  have ho : opsOk (foldB b) (foldB b).n = true := opsOk_all fun k hk => by
    have hk : k < (stepS b).m := hk
    refine ⟨h1.op k hk, ?_⟩
    show endS ((stepS b).f k).kind = decide ((k : Int) = ((stepS b).m : Int) - 1)
    by_cases e : k = m0
    · subst e
      rw [h3, decide_eq_true (by omega)]
    · rw [h4 k (by omega), decide_eq_false (by omega)]
  have h0 : ((foldB b).f 0).kind = 14 ∧ ((foldB b).f 0).imm = b.pc := by
    show ((stepS b).f 0).kind = 14 ∧ ((stepS b).f 0).imm = b.pc
    rw [g2, h6]; exact hfst
  unfold rightS
  rw [ho, Bool.and_true]
  unfold rightS at hr
  simp only [Bool.and_eq_true, Bool.not_eq_true'] at hr ⊢
  constructor
  · have hh := hr.1.1
    unfold head1 at hh ⊢
    simp only [Bool.or_eq_false_iff, decide_eq_false_iff_not] at hh ⊢
    obtain ⟨⟨⟨⟨⟨⟨a1, a2⟩, a3⟩, a4⟩, a5⟩, a6⟩, a7⟩ := hh
    exact ⟨⟨⟨⟨⟨⟨a1, a2⟩, a3⟩, a4⟩, a5⟩, by omega⟩, by omega⟩
  · unfold head2
    rw [h0.1, h0.2]
    show ((14 : Int) != 14 || b.pc != b.pc) = false
    simp
theorem fold_lt {b : BlkS} (hr : rightS b = true) (hc : chgS b = true) : wt (foldB b).f (foldB b).n < wt b.f b.n := by
  obtain ⟨h1, _, _, h6⟩ := step_fin hr
  have hw := h1.w
  have he := h1.e
  have hna := h1.ok.na
  rw [h6] at hw he hna
  have hmono := wt_mono b.f hna
  show wt (stepS b).f (stepS b).m < wt b.f b.n
  rcases Nat.lt_or_ge (wt (stepS b).f (stepS b).m) (wt b.f b.n) with h | h
  · exact h
  · exfalso
    obtain ⟨e1, _, e3⟩ := he (by omega)
    have hn : (stepS b).na = b.n := by
      rcases Nat.lt_or_ge (stepS b).na b.n with hlt | hge
      · exfalso
        have h2 := wt_mono b.f (show (stepS b).na + 1 ≤ b.n from hlt)
        simp only [wt] at h2
        have := wOp_pos (b.f (stepS b).na)
        omega
      · omega
    have : eqOps (stepS b).m b.n (stepS b).f b.f = true := eqOps_iff.2 ⟨by omega, e3⟩
    unfold chgS at hc
    rw [this] at hc
    cases hc
def foldIt : Nat → BlkS → BlkS
  | 0, b => foldB b
  | t + 1, b => if chgS b = true then foldIt t (foldB b) else foldB b
def foldF (b : BlkS) : BlkS := foldIt (wt b.f b.n) b
theorem foldIt_more : ∀ {t u : Nat} {b : BlkS}, rightS b = true → wt b.f b.n ≤ t → wt b.f b.n ≤ u → foldIt t b = foldIt u b
  | 0, u, b, hr, ht, hu => by
    have := fold_n hr
    have hw := wt_mono b.f (show 1 ≤ b.n from (right_n hr).1)
    simp only [wt] at hw
    have := wOp_pos (b.f 0)
    omega
  | t + 1, 0, b, hr, ht, hu => by
    have hw := wt_mono b.f (show 1 ≤ b.n from (right_n hr).1)
    simp only [wt] at hw
    have := wOp_pos (b.f 0)
    omega
  | t + 1, u + 1, b, hr, ht, hu => by
    simp only [foldIt]
    split
    · rename_i hc
      have := fold_lt hr hc
      exact foldIt_more (fold_right hr) (by omega) (by omega)
    · rfl
theorem foldF_step {b : BlkS} (hr : rightS b = true) : foldF b = if chgS b = true then foldF (foldB b) else foldB b := by
  unfold foldF
  have hw := wt_mono b.f (show 1 ≤ b.n from (right_n hr).1)
  simp only [wt] at hw
  have := wOp_pos (b.f 0)
  obtain ⟨t, ht⟩ : ∃ t, wt b.f b.n = t + 1 := ⟨wt b.f b.n - 1, by omega⟩
  rw [ht]
  simp only [foldIt]
  split
  · rename_i hc
    have := fold_lt hr hc
    exact foldIt_more (fold_right hr) (by omega) (Nat.le_refl _)
  · rfl
def retFold (b : BlkS) (i : Nat) : AV := if rightS b = true then .tup [.agg (blkL (foldF b) i), .c (.int .i64 0)] else .tup [.agg zBlkL, .c (.int .i64 4)]
def heapFold0 (b : BlkS) : Heap := if rightS b = true then ⟨3, [(2, blkB (foldF b) 1), (1, opsW (foldF b).n (foldF b).f), (0, opsB b.n b.f)]⟩ else ⟨2, [(1, zblk), (0, opsB b.n b.f)]⟩
def heapFold (b : BlkS) : Heap := if rightS b = true then ⟨2, [(1, opsW (foldF b).n (foldF b).f), (0, opsB b.n b.f)]⟩ else ⟨1, [(0, opsB b.n b.f)]⟩
def newStep (b : BlkS) : List Blk := if rightS b = true then [opsW (stepS b).m (stepS b).f] else []
theorem con26_at (b : BlkS) (i n : Nat) (X : List (Nat × Blk)) (w : Bool) (h0 : getB X i = some ⟨6, some b.n, fun i => opL (b.f i), 39, w⟩) (hlt : i < n) (hkl : keysLt X n) : Con Try.prog 26 [.agg (blkL b i)] ⟨n, X⟩ (fun v H' => v = retStep b n ∧ H' = addBs ⟨n, X⟩ (newStep b)) := by
  refine ((con26 b).frame (H := ⟨n, X⟩) [i] rfl ⟨trivial, trivial⟩ ⟨hlt, trivial⟩ hkl (by simp only [leBlks, nthO, h0]; exact ⟨ops_le b.n b.f w, trivial⟩) (by simp only [leArgs, leV, leV1, blkL, leSegs, leSeg, leC, leA, nthO, and_self])).weaken ?_
  rintro v H' ⟨v0, H0', ⟨rfl, rfl⟩, rfl, rfl⟩
  unfold retStep heapStep newStep
  cases rightS b
  · simp only [framed, dropB_ro i b.n 0]
    exact ⟨rfl, rfl⟩
  · simp only [framed, dropB_ro i b.n 0]
    exact ⟨rfl, rfl⟩
end Go.Proofs.Ytmbnakinhnkabaa

namespace Go.Proofs.Ytmbnakinhnkabaa
open Go.AM
set_option maxRecDepth 100000
set_option linter.unusedSimpArgs false
set_option linter.unusedVariables false
theorem key_iff {s : PS} {k r : Int} {i : Nat} : keyEq (placeL k r) (knK s) i = true ↔ s.kk i = k ∧ s.kr i = r := by
  simp only [placeL, knK, keyEq, eqCb, Bool.and_eq_true, beq_iff_eq, and_true]
  constructor
  · rintro ⟨h1, h2⟩; exact ⟨h1.symm, h2.symm⟩
  · rintro ⟨h1, h2⟩; exact ⟨h1.symm, h2.symm⟩
theorem find_at {s : PS} {k r : Int} (h : knFind s k r < s.kn) : s.kk (knFind s k r) = k ∧ s.kr (knFind s k r) = r := key_iff.1 (findI_lt (p := keyEq (placeL k r) (knK s)) h)
theorem find_has {s : PS} {k r : Int} {j : Nat} (h : s.kk j = k ∧ s.kr j = r) : knFind s k r ≤ j := by
  rcases Nat.lt_or_ge j (knFind s k r) with hlt | hge
  · have h1 := findI_no (p := keyEq (placeL k r) (knK s)) (n := s.kn) hlt
    rw [key_iff.2 h] at h1
    cases h1
  · exact hge
def KnD (s : PS) : Prop := ∀ i j, i < s.kn → j < s.kn → s.kk i = s.kk j → s.kr i = s.kr j → i = j
def Has (s : PS) (k r v : Int) : Prop := ∃ j, j < s.kn ∧ s.kk j = k ∧ s.kr j = r ∧ s.kv j = v
theorem put_has {s : PS} (hd : KnD s) {k r v k' r' v' : Int} : Has (knPut s k r v) k' r' v' ↔ (k' = k ∧ r' = r ∧ v' = v) ∨ (¬ (k' = k ∧ r' = r) ∧ Has s k' r' v') := by
  have hle := findI_ok (s := s) (k := k) (r := r)
  constructor
  · rintro ⟨j, hj, h1, h2, h3⟩
    simp only [knPut] at hj h1 h2 h3
    by_cases e : j = knFind s k r
    · simp only [e, if_true] at h1 h2 h3
      exact .inl ⟨h1.symm, h2.symm, h3.symm⟩
    · rw [if_neg e] at h1 h2 h3
      have hj' : j < s.kn := by omega
      refine .inr ⟨?_, j, hj', h1, h2, h3⟩
      rintro ⟨e1, e2⟩
      rw [e1] at h1
      rw [e2] at h2
      have hp := find_has ⟨h1, h2⟩
      have ha := find_at (s := s) (k := k) (r := r) (by omega)
      exact e (hd _ _ hj' (by omega) (h1.trans ha.1.symm) (h2.trans ha.2.symm))
  · rintro (⟨rfl, rfl, rfl⟩ | ⟨hne, j, hj, h1, h2, h3⟩)
    · refine ⟨knFind s k' r', ?_, ?_, ?_, ?_⟩ <;> simp only [knPut, if_true]
      omega
    · have e : j ≠ knFind s k r := by
        rintro rfl
        have ha := find_at hj
        exact hne ⟨h1.symm.trans ha.1, h2.symm.trans ha.2⟩
      refine ⟨j, ?_, ?_, ?_, ?_⟩ <;> simp only [knPut, if_neg e, h1, h2, h3]
      omega
theorem put_d {s : PS} (hd : KnD s) (k r v : Int) : KnD (knPut s k r v) := by
  have hle := findI_ok (s := s) (k := k) (r := r)
  have ne : ∀ j, j < max s.kn (knFind s k r + 1) → j ≠ knFind s k r → s.kk j = k → s.kr j = r → False := fun j hj e h1 h2 => by
    have hj : j < s.kn := by omega
    have hp := find_has ⟨h1, h2⟩
    have ha := find_at (s := s) (k := k) (r := r) (by omega)
    exact e (hd _ _ hj (by omega) (h1.trans ha.1.symm) (h2.trans ha.2.symm))
  intro i j hi hj h1 h2
  simp only [knPut] at hi hj h1 h2
  by_cases ei : i = knFind s k r
  · by_cases ej : j = knFind s k r
    · exact ei.trans ej.symm
    · rw [if_pos ei, if_neg ej] at h1 h2
      exact (ne j hj ej h1.symm h2.symm).elim
  · by_cases ej : j = knFind s k r
    · rw [if_neg ei, if_pos ej] at h1 h2
      exact (ne i hi ei h1 h2).elim
    · rw [if_neg ei, if_neg ej] at h1 h2
      exact hd i j (by omega) (by omega) h1 h2
theorem del_has {s : PS} (hd : KnD s) {k r k' r' v' : Int} : Has (knDel s k r) k' r' v' ↔ ¬ (k' = k ∧ r' = r) ∧ Has s k' r' v' := by
  have hle := findI_ok (s := s) (k := k) (r := r)
  constructor
  · rintro ⟨j, hj, h1, h2, h3⟩
    simp only [knDel] at hj h1 h2 h3
    by_cases e : j < knFind s k r
    · rw [if_pos e] at h1 h2 h3
      refine ⟨?_, j, by omega, h1, h2, h3⟩
      rintro ⟨rfl, rfl⟩
      have := find_has ⟨h1, h2⟩
      omega
    · rw [if_neg e] at h1 h2 h3
      have hp : knFind s k r < s.kn := by split at hj <;> omega
      rw [if_pos hp] at hj
      refine ⟨?_, j + 1, by omega, h1, h2, h3⟩
      rintro ⟨rfl, rfl⟩
      have ha := find_at hp
      have := hd _ _ (by omega) hp (h1.trans ha.1.symm) (h2.trans ha.2.symm)
      omega
  · rintro ⟨hne, j, hj, h1, h2, h3⟩
    by_cases e : j < knFind s k r
    · refine ⟨j, ?_, ?_, ?_, ?_⟩ <;> simp only [knDel, if_pos e, h1, h2, h3]
      split <;> omega
    · have hp : knFind s k r < s.kn := by omega
      have e2 : j ≠ knFind s k r := by
        rintro rfl
        have ha := find_at hj
        exact hne ⟨h1.symm.trans ha.1, h2.symm.trans ha.2⟩
      have e3 : j - 1 + 1 = j := by omega
      have e4 : ¬ j - 1 < knFind s k r := by omega
      refine ⟨j - 1, ?_, ?_, ?_, ?_⟩ <;> simp only [knDel, if_neg e4, e3, h1, h2, h3]
      rw [if_pos hp]; omega
theorem del_d {s : PS} (hd : KnD s) (k r : Int) : KnD (knDel s k r) := by
  have hle := findI_ok (s := s) (k := k) (r := r)
  intro i j hi hj h1 h2
  simp only [knDel] at hi hj h1 h2
  have hi' : i < s.kn ∧ (¬ i < knFind s k r → i + 1 < s.kn) := by split at hi <;> omega
  have hj' : j < s.kn ∧ (¬ j < knFind s k r → j + 1 < s.kn) := by split at hj <;> omega
  by_cases ei : i < knFind s k r
  · by_cases ej : j < knFind s k r
    · rw [if_pos ei, if_pos ej] at h1 h2
      exact hd i j hi'.1 hj'.1 h1 h2
    · rw [if_pos ei, if_neg ej] at h1 h2
      have := hd i (j + 1) hi'.1 (hj'.2 ej) h1 h2
      omega
  · by_cases ej : j < knFind s k r
    · rw [if_neg ei, if_pos ej] at h1 h2
      have := hd (i + 1) j (hi'.2 ei) hj'.1 h1 h2
      omega
    · rw [if_neg ei, if_neg ej] at h1 h2
      have := hd (i + 1) (j + 1) (hi'.2 ei) (hj'.2 ej) h1 h2
      omega
theorem set_has {s : PS} (hd : KnD s) {o : OpS} {k r k' r' v' : Int} : Has (knSet s o k r) k' r' v' ↔ if k' = k ∧ r' = r then ((k != 2) || truthF (s.f o.a.toNat)) = true ∧ v' = o.a else Has s k' r' v' := by
  unfold knSet
  by_cases hc : ((k != 2) || truthF (s.f o.a.toNat)) = true
  · rw [if_pos hc, put_has hd]
    by_cases e : k' = k ∧ r' = r
    · rw [if_pos e]
      exact ⟨fun h => ⟨hc, h.elim (·.2.2) fun h => absurd e h.1⟩, fun h => .inl ⟨e.1, e.2, h.2⟩⟩
    · rw [if_neg e]
      exact ⟨fun h => h.elim (fun h => absurd ⟨h.1, h.2.1⟩ e) (·.2), fun h => .inr ⟨e, h⟩⟩
  · rw [if_neg hc, del_has hd]
    by_cases e : k' = k ∧ r' = r
    · rw [if_pos e]
      exact ⟨fun h => absurd e h.1, fun h => absurd h.1 hc⟩
    · rw [if_neg e]
      exact ⟨fun h => h.2, fun h => ⟨e, h⟩⟩
theorem set_d {s : PS} (hd : KnD s) (o : OpS) (k r : Int) : KnD (knSet s o k r) := by
  unfold knSet
  split
  · exact put_d hd _ _ _
  · exact del_d hd _ _
theorem one_d {s : PS} (hd : KnD s) (o : OpS) : KnD (oneP s o).s := by
  unfold oneP
  split
  · split
    · exact set_d hd _ _ _
    · split
      · exact hd
      · exact put_d (s := layS s o) hd _ _ _
  · split
    · split <;> exact hd
    · split
      · split
        · split <;> exact hd
        · exact hd
      · exact hd
theorem after_d {s : PS} (hd : KnD s) : KnD (afterP s) := one_d hd _
def putB (s : PS) (b : BlkS) : PS := { s with b := b }
structure Agree (b b' : BlkS) : Prop where
  n : b'.n = b.n
  f : ∀ i, i < b.n → b'.f i = b.f i
theorem one_putB (s : PS) (b' : BlkS) (o : OpS) : oneP (putB s b') o = ⟨putB (oneP s o).s b', (oneP s o).v, (oneP s o).e, (oneP s o).l⟩ := by
  have e1 : ∀ k r, knFind (putB s b') k r = knFind s k r := fun _ _ => rfl
  have e2 : ∀ v, isC (putB s b') v = isC s v := fun _ => rfl
  have e3 : ∀ k r, knSet (putB s b') o k r = putB (knSet s o k r) b' := fun k r => by
    unfold knSet
    show (if ((k != 2) || truthF (s.f o.a.toNat)) = true then putB (knPut s k r o.a) b' else putB (knDel s k r) b') = _
    by_cases hc : ((k != 2) || truthF (s.f o.a.toNat)) = true
    · rw [if_pos hc, if_pos hc]
    · rw [if_neg hc, if_neg hc]
  unfold oneP
  simp only [e1, e2, e3, show (putB s b').kn = s.kn from rfl, show (putB s b').f = s.f from rfl]
  (repeat' split) <;> rfl
theorem step_putB : ∀ (t : Nat) {s : PS} {b' : BlkS}, PsOk s → Agree s.b b' → stepN t (putB s b') = putB (stepN t s) b'
  | 0, s, b', _, _ => rfl
  | t + 1, s, b', h, ha => by
    have e0 : (putB s b').na = s.na := rfl
    have e1 : (putB s b').b.n = s.b.n := ha.n
    simp only [stepN, e0, e1]
    by_cases hlt : s.na < s.b.n
    · have hn : nextP (putB s b') = ⟨putB (nextP s).s b', (nextP s).v, (nextP s).e, (nextP s).l⟩ := by
        show oneP (putB s b') (reO s (b'.f s.na)) = _
        rw [ha.f _ hlt]
        exact one_putB s b' _
      have haf : afterP (putB s b') = putB (afterP s) b' := by unfold afterP; rw [hn]; rfl
      rw [if_pos hlt, if_pos hlt, hn, haf]
      have hb := after_b h hlt
      show (if (nextP s).e = true then _ else _) = _
      by_cases he : (nextP s).e = true
      · rw [if_pos he, if_pos he]
      · rw [if_neg he, if_neg he]
        exact step_putB t (after_ok h hlt) (by rw [hb]; exact ha)
    · rw [if_neg hlt, if_neg hlt]
theorem foldB_same {x : BlkS} (hr : rightS x = true) (hc : chgS x = false) : chgS (foldB x) = false ∧ foldB (foldB x) = foldB x := by
  have he : eqOps (stepS x).m x.n (stepS x).f x.f = true := by unfold chgS at hc; simpa using hc
  obtain ⟨h1, h2⟩ := eqOps_iff.1 he
  have ha : Agree x (foldB x) := ⟨h1, fun i hi => h2 i (by omega)⟩
  have hs : stepS (foldB x) = putB (stepS x) (foldB x) := by
    show stepN (stepS x).m (ps0 (foldB x)) = _
    rw [h1]
    exact step_putB x.n (s := ps0 x) (ps0_ok hr) ha
  constructor
  · unfold chgS
    rw [hs]
    show (!eqOps (stepS x).m (stepS x).m (stepS x).f (stepS x).f) = false
    rw [eqOps_iff.2 ⟨rfl, fun _ _ => rfl⟩]
    rfl
  · show ({ foldB x with n := (stepS (foldB x)).m, f := (stepS (foldB x)).f } : BlkS) = foldB x
    rw [hs]
    rfl
theorem foldF_ind (P : BlkS → Prop) (h0 : ∀ {x}, rightS x = true → chgS x = false → P (foldB x)) : ∀ {N : Nat} {b : BlkS}, wt b.f b.n ≤ N → rightS b = true → P (foldF b)
  | 0, b, hw, hr => by
    have h1 := wt_mono b.f (show 1 ≤ b.n from (right_n hr).1)
    simp only [wt] at h1
    have := wOp_pos (b.f 0)
    omega
  | N + 1, b, hw, hr => by
    rw [foldF_step hr]
    split
    · rename_i hc
      have := fold_lt hr hc
      exact foldF_ind P h0 (N := N) (by omega) (fold_right hr)
    · rename_i hc
      exact h0 hr (by simpa using hc)
theorem foldF_same {b : BlkS} (hr : rightS b = true) : rightS (foldF b) = true ∧ chgS (foldF b) = false ∧ foldB (foldF b) = foldF b ∧ foldF (foldF b) = foldF b := by
  refine foldF_ind (fun a => rightS a = true ∧ chgS a = false ∧ foldB a = a ∧ foldF a = a) (fun {x} hr hc => ?_) (Nat.le_refl _) hr
  obtain ⟨h1, h2⟩ := foldB_same hr hc
  refine ⟨fold_right hr, h1, h2, ?_⟩
  rw [foldF_step (fold_right hr), h1, h2]
  rfl
end Go.Proofs.Ytmbnakinhnkabaa

namespace Go.Proofs.Ytmbnakinhnkabaa
open Go.AM
set_option maxRecDepth 100000
set_option linter.unusedSimpArgs false
set_option linter.unusedVariables false
def cntF (f : Nat → OpS) (k : Int) : Nat → Nat
  | 0 => 0
  | t + 1 => if ((f t).kind == k) = true then cntF f k t + 1 else cntF f k t
theorem cntF_mono (f : Nat → OpS) (k : Int) {n m : Nat} (h : n ≤ m) : cntF f k n ≤ cntF f k m := by
  induction m with
  | zero => rw [Nat.le_zero.1 h]; exact Nat.le_refl _
  | succ m ih =>
    by_cases e : n = m + 1
    · rw [e]; exact Nat.le_refl _
    · have := ih (by omega)
      simp only [cntF]
      split <;> omega
theorem cntF_congr {f g : Nat → OpS} {k : Int} : ∀ {n : Nat}, (∀ i, i < n → f i = g i) → cntF f k n = cntF g k n
  | 0, _ => rfl
  | n + 1, h => by simp only [cntF]; rw [cntF_congr fun i hi => h i (by omega), h n (by omega)]
theorem after_cnt {s : PS} (h : PsR s) (hlt : s.na < s.b.n) {k : Int} (hk : 9 ≤ k ∧ k ≤ 15) (hc : cntF s.f k s.m ≤ cntF s.b.f k s.na) : cntF (afterP s).f k (afterP s).m ≤ cntF (afterP s).b.f k (afterP s).na := by
  have hb := after_b h.ok hlt
  have hna := after_na h.ok hlt
  have hkd : (reO s (s.b.f s.na)).kind = (s.b.f s.na).kind := rfl
  rw [hb, hna]
  show cntF (nextP s).s.f k (nextP s).s.m ≤ cntF s.b.f k (s.na + 1)
  rcases out_kinds (r := nextP s) (show KnO s (reO s (s.b.f s.na)) (nextP s) from one_out s _) with ⟨x, hl, hx⟩ | ⟨hg, _⟩
  · rw [hl.m]
    have e : cntF (nextP s).s.f k s.m = cntF s.f k s.m := cntF_congr fun i hi => by rw [hl.f, if_pos hi]
    have e2 : (nextP s).s.f s.m = x := by rw [hl.f, if_neg (Nat.lt_irrefl _)]
    simp only [cntF, e, e2]
    rcases hx with rfl | ⟨_, n, rfl⟩ | ⟨_, rfl, _⟩
    · rw [hkd]
      split <;> omega
    · rw [if_neg (by simp [constO]; omega)]
      split <;> omega
    · rw [if_neg (by simp [exitO]; omega)]
      split <;> omega
  · rw [hg.m, hg.f]
    simp only [cntF]
    split <;> omega
theorem stepN_cnt {k : Int} (hk : 9 ≤ k ∧ k ≤ 15) : ∀ (t : Nat) {s : PS}, PsR s → cntF s.f k s.m ≤ cntF s.b.f k s.na → cntF (stepN t s).f k (stepN t s).m ≤ cntF (stepN t s).b.f k (stepN t s).na
  | 0, s, _, hc => hc
  | t + 1, s, h, hc => by
    simp only [stepN]
    split
    · rename_i hlt
      have h1 := after_cnt h hlt hk hc
      split
      · exact h1
      · exact stepN_cnt hk t (after_r h hlt) h1
    · exact hc
theorem foldB_cnt {b : BlkS} (hr : rightS b = true) {k : Int} (hk : 9 ≤ k ∧ k ≤ 15) : cntF (foldB b).f k (foldB b).n ≤ cntF b.f k b.n := by
  obtain ⟨h1, _, _, h4⟩ := step_fin hr
  have hna := h1.ok.na
  have hc := stepN_cnt hk b.n (ps0_r hr) (Nat.le_refl 0)
  change cntF (stepS b).f k (stepS b).m ≤ cntF (stepS b).b.f k (stepS b).na at hc
  rw [h4] at hc hna
  exact Nat.le_trans hc (cntF_mono _ _ hna)
theorem foldF_n : ∀ {N : Nat} {b : BlkS}, wt b.f b.n ≤ N → rightS b = true → (foldF b).n ≤ b.n ∧ (foldF b).pc = b.pc ∧ (foldF b).words = b.words ∧ (foldF b).el = b.el ∧ ∀ k : Int, 9 ≤ k ∧ k ≤ 15 → cntF (foldF b).f k (foldF b).n ≤ cntF b.f k b.n
  | 0, b, hw, hr => by
    have h1 := wt_mono b.f (show 1 ≤ b.n from (right_n hr).1)
    simp only [wt] at h1
    have := wOp_pos (b.f 0)
    omega
  | N + 1, b, hw, hr => by
    have hn := fold_n hr
    rw [foldF_step hr]
    split
    · rename_i hc
      have := fold_lt hr hc
      obtain ⟨g1, g2, g3, g4, g5⟩ := foldF_n (N := N) (b := foldB b) (by omega) (fold_right hr)
      exact ⟨by omega, g2, g3, g4, fun k hk => Nat.le_trans (g5 k hk) (foldB_cnt hr hk)⟩
    · exact ⟨hn.2, rfl, rfl, rfl, fun k hk => foldB_cnt hr hk⟩
def valAt (f : Nat → OpS) (k r : Int) : Nat → Option Int
  | 0 => none
  | t + 1 => if placeOk (f t) = true ∧ placeK (f t) = k ∧ placeR (f t) = r then (if placeSet (f t) = true then (if ((k != 2) || truthF (f (f t).a.toNat)) = true then some (f t).a else none) else some (t : Int)) else valAt f k r t
end Go.Proofs.Ytmbnakinhnkabaa

namespace Go.Proofs.Ytmbnakinhnkabaa
open Go.AM
set_option maxRecDepth 100000
set_option linter.unusedSimpArgs false
set_option linter.unusedVariables false
def stB0 (b : BlkS) : St := ⟨[⟨2, [], .c (.ptr ⟨2, 0, 0, 0⟩)⟩, ⟨1, [], .c (.ptr ⟨1, 0, 0, 0⟩)⟩], ⟨3, [(2, zblk), (1, blkB b 0), (0, opsB b.n b.f)]⟩⟩
def stB (b cb : BlkS) : St := ⟨[⟨2, [], .c (.ptr ⟨2, 0, 0, 0⟩)⟩, ⟨1, [], .c (.ptr ⟨1, 0, 0, 0⟩)⟩], ⟨4, [(3, opsW cb.n cb.f), (2, zblk), (1, blkB cb 3), (0, opsB b.n b.f)]⟩⟩
theorem end_fold {l : List Slot} {H : Heap} {b T : BlkS} (hF : T = foldF b) (hr : rightS b = true) (N : Nat) (hN : notIn N [0, 2]) (s2 : slotAt l 2 = some ⟨2, [], .c (.ptr ⟨2, 0, 0, 0⟩)⟩) (s3 : slotAt l 3 = some ⟨3, [], .c (.int .i64 0)⟩)
    (g2 : getB H.blks 2 = some (blkB T N)) (g5 : getB H.blks N = some (opsW T.n T.f)) (g0 : getB H.blks 0 = some (opsB b.n b.f)) : endQ (LeS 1) [.cn 4 2, .tmp 3] (fun v H' => v = retFold b 1 ∧ H' = heapFold0 b) .ret ⟨l, H⟩ := by
  subst hF
  have hR : retFold b 1 = .tup [.agg (blkL (foldF b) 1), .c (.int .i64 0)] := by unfold retFold; rw [if_pos hr]
  have hH : heapFold0 b = ⟨3, [(2, blkB (foldF b) 1), (1, opsW (foldF b).n (foldF b).f), (0, opsB b.n b.f)]⟩ := by unfold heapFold0; rw [if_pos hr]
  rw [hR, hH]
  obtain ⟨n0, n2, _⟩ := hN
  have n0' : Nat.beq 0 N = false := by rw [beq_commG]; exact n0
  refine end_of ⟨[⟨2, [], .c (.ptr ⟨2, 0, 0, 0⟩)⟩, ⟨3, [], .c (.int .i64 0)⟩], ⟨3, [(2, blkB (foldF b) 1), (1, opsW (foldF b).n (foldF b).f), (0, opsB b.n b.f)]⟩⟩ (LeS.intro [0, N, 2] (fun i h => idtF i h) (by simp only [diff, notIn, n0', n2, Nat.beq, and_self]) rfl (by simp only [slotsLe, s2, s3, leV, leV1, leC, leA, nthO, and_self]) ?_) ?_
  · simp only [leBlks, nthO, g2, g5, g0]
    exact ⟨blk_le' (foldF b) N 1 rfl, opsw_le _ _ _ (fun _ _ => rfl), ops_le b.n b.f false, trivial⟩
  · simp only [endF, resL, resA, St.get, slotAt, sfx, eqP, ldn, getB, blkB, blkL, rowNeed, cut, dropS, takeS, Seg.size, nsub, noTup, resV]
    exact ⟨by first | rfl | trivial, by first | rfl | trivial⟩
set_option maxHeartbeats 8000000 in
theorem con25_0 (b : BlkS) : Con Try.prog 25 [.agg (blkL b 0)] ⟨1, [(0, opsB b.n b.f)]⟩ (fun v H' => v = retFold b 1 ∧ H' = heapFold0 b) := by
  (refine con_of_run mixed (fn := Try.f25) (by kernel_rfl) (by kernel_rfl) C25_ok (rs := [.cn 4 2, .tmp 3]) (by kernel_rfl) (Nat.le_of_ble_eq_true (by kernel_rfl)) ?_; unfold C25; simp only [initT])
  refine run_seq ?_
  (refine run_regionL fun K hK => ?_; (try (simp (maxSteps := 10000000) only [blkL, opsB, C25r0, rwp_nil, rwp_cons, aop, gpath, St.get, slotAt, sfx, eqP, segsOf, St.put, addBlk, shed, Seg.size, sizes, Nat.reduceAdd])); (repeat (first | (refine And.intro ?_ ?_; · first | trivial | assumption | omega))); refine hK _ (stB0 b) (LeS.intro [0, 1, 2] (fun i h => idtF i h) (by simp only [diff, notIn, Nat.beq, and_self]) rfl (by simp only [stB0, slotsLe, slotAt, leV, leV1, leC, leA, nthO, and_self]) ⟨z_le, blk_le' b 0 0 rfl, ops_le b.n b.f false, trivial⟩) ?_; clear hK K)
  refine run_block ?_
  by_cases hr : rightS b = true
  rotate_left
  · have hr0 : rightS b = false := by simpa using hr
    have e3 : ∀ n, retStep b n = .tup [.agg zBlkL, .c (.bool false), .c (.int .i64 4)] := fun n => by unfold retStep; rw [if_neg hr]
    have e4 : newStep b = [] := by unfold newStep; rw [if_neg hr]
    refine run_loop (fun t st => st = stB0 b) 0 rfl ?_
    rintro t st rfl
    unfold stB0
    repeat' (first | refine run_seq ?_ | refine run_skip ?_ | (refine run_region fun K hK => ?_; (try (simp (maxSteps := 10000000) only [blkB, blkL, opL, opsB, zblk, C25r1, C25r2, C25r3, rwp_nil, rwp_cons, aop, gpath, St.get, slotAt, sfx, eqP, St.put, addBlk, getB, setB, ldn, stn, setRow, rowNeed, nsub, bin, un, isShift, sameK, arith, getsl, selB_or, beqb, shed, Nat.beq, Seg.size, sizes, appL, argsOf, ptrsOf, cut, takeS, dropS, putS, exOk, Nat.reduceAdd, List.append_nil, List.nil_append])); (repeat (first | (refine And.intro ?_ ?_; · (first | trivial | assumption | omega | exact ⟨by omega, by omega⟩ | (intros; first | trivial | assumption | omega))) | ((first | (refine call_t _ (con26_at b 0 _ _ _ rfl (Nat.le_of_ble_eq_true rfl) (by simp [keysLt])) ?_; rintro v H' ⟨rfl, rfl⟩) | refine call_q _ (con26_at b 0 _ _ _ rfl (Nat.le_of_ble_eq_true rfl) (by simp [keysLt])) ?_ | refine call_g _ (imp_of (con26_at b 0 _ _ _ rfl (Nat.le_of_ble_eq_true rfl) (by simp [keysLt]))) ?_); simp (maxSteps := 10000000) only [e3, e4, zBlkL, rwp_nil, rwp_cons, rwpK_app, aop, gpath, St.get, slotAt, sfx, eqP, St.put, addBlk, getB, setB, stn, setRow, rowNeed, nsub, shed, Nat.beq, Seg.size, sizes, takeS, dropS, putS, nthA, exOk, Nat.reduceAdd, List.append_nil, List.nil_append, addBs]))); with_reducible refine hK _ ?_; clear hK K) | (refine run_cond rfl (fun hc => ?_) (fun hc => ?_) <;> try (simp only [*, Bool.true_eq_false, Bool.not_false, Bool.or_true] at hc; done)) | refine run_block ?_ | refine run_ret ?_ | refine run_nil ?_ | refine blk_normal ?_ | refine blk_ret ?_ | refine blk_here ?_ | refine blk_there rfl ?_ | refine loop_exit ?_ | refine loop_ret ?_ | refine un_exit ?_ | refine un_ret ?_ | refine unE_exit ?_ | refine unE_ret ?_ | refine un_normal ?_)
    refine end_of ⟨[⟨2, [], .c (.ptr ⟨1, 0, 0, 0⟩)⟩, ⟨3, [], .c (.int .i64 4)⟩], ⟨2, [(1, zblk), (0, opsB b.n b.f)]⟩⟩ (LeS.intro [0, 2] (fun i h => idtF i h) (by simp only [diff, notIn, Nat.beq, and_self]) rfl (by simp only [slotsLe, slotAt, leV, leV1, leC, leA, nthO, and_self]) ⟨z_le, ops_le b.n b.f false, trivial⟩) ?_
    simp only [endF, resL, resA, St.get, slotAt, sfx, eqP, ldn, getB, zblk, rowNeed, cut, dropS, takeS, Seg.size, nsub, noTup, resV]
    exact ⟨by simp only [retFold, zBlkL, hr0, Bool.false_eq_true, if_false], by simp only [heapFold0, hr0, Bool.false_eq_true, if_false, zblk]⟩
  refine run_loop (fun t st => ∃ cb, t = wt cb.f cb.n ∧ rightS cb = true ∧ foldF cb = foldF b ∧ ((cb = b ∧ st = stB0 b) ∨ st = stB b cb)) (wt b.f b.n) ⟨b, rfl, hr, rfl, .inl ⟨rfl, rfl⟩⟩ ?_
  rintro t st ⟨cb, rfl, hcr, hF, ⟨hcb, rfl⟩ | rfl⟩
  · subst hcb
    unfold stB0
    have e3 : retStep cb 3 = .tup [.agg (blkL (foldB cb) 3), .c (.bool (chgS cb)), .c (.int .i64 0)] := by unfold retStep; rw [if_pos hcr]
    have e4 : newStep cb = [opsW (stepS cb).m (stepS cb).f] := by unfold newStep; rw [if_pos hcr]
    repeat' (first | refine run_seq ?_ | refine run_skip ?_ | (refine run_region fun K hK => ?_; (try (simp (maxSteps := 10000000) only [blkB, blkL, opL, opsB, zblk, C25r1, C25r2, rwp_nil, rwp_cons, aop, gpath, St.get, slotAt, sfx, eqP, St.put, addBlk, getB, ldn, rowNeed, nsub, bin, un, isShift, sameK, arith, getsl, selB_or, beqb, shed, Seg.size, appL, argsOf, ptrsOf, cut, takeS, dropS, Nat.reduceAdd])); (repeat (first | (refine And.intro ?_ ?_; · (first | trivial | assumption | omega | exact ⟨by omega, by omega⟩ | (intros; first | trivial | assumption | omega))) | ((first | (refine call_t _ (con26_at cb 0 _ _ _ rfl (Nat.le_of_ble_eq_true rfl) (by simp [keysLt])) ?_; rintro v H' ⟨rfl, rfl⟩) | refine call_q _ (con26_at cb 0 _ _ _ rfl (Nat.le_of_ble_eq_true rfl) (by simp [keysLt])) ?_ | refine call_g _ (imp_of (con26_at cb 0 _ _ _ rfl (Nat.le_of_ble_eq_true rfl) (by simp [keysLt]))) ?_); simp (maxSteps := 10000000) only [blkL, opL, opsW, e3, e4, rwp_nil, rwp_cons, rwpK_app, aop, gpath, St.get, slotAt, sfx, eqP, St.put, addBlk, getB, setB, stn, setRow, rowNeed, nsub, shed, Nat.beq, Seg.size, sizes, takeS, dropS, putS, nthA, exOk, Nat.reduceAdd, List.append_nil, List.nil_append, addBs]))); with_reducible refine hK _ ?_; clear hK K) | (refine run_cond rfl (fun hc => ?_) (fun hc => ?_) <;> try (simp only [*, Bool.false_or, bne_self_eq_false] at hc; done)) | refine run_block ?_ | refine run_ret ?_ | refine run_nil ?_ | refine blk_normal ?_ | refine blk_ret ?_ | refine blk_here ?_ | refine blk_there rfl ?_ | refine loop_exit ?_ | refine loop_ret ?_ | refine un_exit ?_ | refine un_ret ?_ | refine unE_exit ?_ | refine unE_ret ?_ | refine un_normal ?_)
    · have hch : chgS cb = false := by simpa using hc
      have hF1 : foldF cb = foldB cb := by rw [foldF_step hcr, hch]; rfl
      have hF := hF1.symm.trans hF
      repeat' (first | refine run_seq ?_ | refine run_skip ?_ | (refine run_region fun K hK => ?_; (try (simp (maxSteps := 10000000) only [C25r3, rwp_nil, rwp_cons, aop, gpath, St.get, slotAt, sfx, eqP, St.put, addBlk, getB, setB, ldn, stn, setRow, rowNeed, nsub, shed, Nat.beq, Seg.size, sizes, cut, takeS, dropS, putS, exOk, Nat.reduceAdd, List.append_nil, List.nil_append])); (repeat (first | (refine And.intro ?_ ?_; · (first | trivial | assumption | omega | exact ⟨by omega, by omega⟩ | (intros; first | trivial | assumption | omega))))); with_reducible refine hK _ ?_; clear hK K) | (refine run_cond rfl (fun hc => ?_) (fun hc => ?_) <;> try (simp only [*, Bool.true_eq_false, Bool.false_eq_true, Bool.not_true, Bool.not_false, Bool.true_or, Bool.or_true, Bool.false_or, Bool.or_false, Bool.false_and, Bool.and_false, bne_self_eq_false, beq_self_eq_true] at hc; done)) | refine run_block ?_ | refine run_ret ?_ | refine run_nil ?_ | refine blk_normal ?_ | refine blk_ret ?_ | refine blk_here ?_ | refine blk_there rfl ?_ | refine loop_exit ?_ | refine loop_ret ?_ | refine un_exit ?_ | refine un_ret ?_ | refine unE_exit ?_ | refine unE_ret ?_ | refine un_normal ?_)
      exact end_fold hF hr 3 (by simp only [notIn, Nat.beq, and_self]) rfl rfl rfl rfl rfl
    · have hch : chgS cb = true := by simpa using hc
      have hF1 : foldF cb = foldF (foldB cb) := by rw [foldF_step hcr, hch]; rfl
      have hF := hF1.symm.trans hF
      have hlt := fold_lt hcr hch
      repeat' (first | refine run_seq ?_ | refine run_skip ?_ | (refine run_region fun K hK => ?_; (try (simp (maxSteps := 10000000) only [C25r4, rwp_nil, rwp_cons, aop, gpath, St.get, slotAt, sfx, eqP, St.put, addBlk, getB, setB, ldn, stn, setRow, rowNeed, nsub, shed, Nat.beq, Seg.size, sizes, cut, takeS, dropS, putS, exOk, Nat.reduceAdd, List.append_nil, List.nil_append])); (repeat (first | (refine And.intro ?_ ?_; · (first | trivial | assumption | omega | exact ⟨by omega, by omega⟩ | (intros; first | trivial | assumption | omega))))); with_reducible refine hK _ ?_; clear hK K) | (refine run_cond rfl (fun hc => ?_) (fun hc => ?_) <;> try (simp only [*, Bool.true_eq_false, Bool.false_eq_true, Bool.not_true, Bool.not_false, Bool.true_or, Bool.or_true, Bool.false_or, Bool.or_false, Bool.false_and, Bool.and_false, bne_self_eq_false, beq_self_eq_true] at hc; done)) | refine run_block ?_ | refine run_ret ?_ | refine run_nil ?_ | refine blk_normal ?_ | refine blk_ret ?_ | refine blk_here ?_ | refine blk_there rfl ?_ | refine loop_exit ?_ | refine loop_ret ?_ | refine un_exit ?_ | refine un_ret ?_ | refine unE_exit ?_ | refine unE_ret ?_ | refine un_normal ?_)
      refine loop_normal (wt (foldB cb).f (foldB cb).n) (stB cb (foldB cb)) hlt (LeS.intro [0, 1, 2, 3] (fun i h => idtF i h) (by simp only [diff, notIn, Nat.beq, and_self]) rfl (by simp only [stB, slotsLe, slotAt, leV, leV1, leC, leA, nthO, and_self]) ⟨opsw_le _ _ _ (fun _ _ => rfl), z_le, blk_le' (foldB cb) 3 3 rfl, ops_le cb.n cb.f false, trivial⟩) ⟨foldB cb, rfl, fold_right hcr, hF, .inr rfl⟩
  · unfold stB
    have e3 : retStep cb 4 = .tup [.agg (blkL (foldB cb) 4), .c (.bool (chgS cb)), .c (.int .i64 0)] := by unfold retStep; rw [if_pos hcr]
    have e4 : newStep cb = [opsW (stepS cb).m (stepS cb).f] := by unfold newStep; rw [if_pos hcr]
    repeat' (first | refine run_seq ?_ | refine run_skip ?_ | (refine run_region fun K hK => ?_; (try (simp (maxSteps := 10000000) only [blkB, blkL, opL, opsB, opsW, zblk, C25r1, C25r2, rwp_nil, rwp_cons, aop, gpath, St.get, slotAt, sfx, eqP, St.put, addBlk, getB, ldn, rowNeed, nsub, bin, un, isShift, sameK, arith, getsl, selB_or, beqb, shed, Seg.size, appL, argsOf, ptrsOf, cut, takeS, dropS, Nat.reduceAdd])); (repeat (first | (refine And.intro ?_ ?_; · (first | trivial | assumption | omega | exact ⟨by omega, by omega⟩ | (intros; first | trivial | assumption | omega))) | ((first | (refine call_t _ (con26_at cb 3 _ _ _ rfl (Nat.le_of_ble_eq_true rfl) (by simp [keysLt])) ?_; rintro v H' ⟨rfl, rfl⟩) | refine call_q _ (con26_at cb 3 _ _ _ rfl (Nat.le_of_ble_eq_true rfl) (by simp [keysLt])) ?_ | refine call_g _ (imp_of (con26_at cb 3 _ _ _ rfl (Nat.le_of_ble_eq_true rfl) (by simp [keysLt]))) ?_); simp (maxSteps := 10000000) only [blkL, opL, opsW, e3, e4, rwp_nil, rwp_cons, rwpK_app, aop, gpath, St.get, slotAt, sfx, eqP, St.put, addBlk, getB, setB, stn, setRow, rowNeed, nsub, shed, Nat.beq, Seg.size, sizes, takeS, dropS, putS, nthA, exOk, Nat.reduceAdd, List.append_nil, List.nil_append, addBs]))); with_reducible refine hK _ ?_; clear hK K) | (refine run_cond rfl (fun hc => ?_) (fun hc => ?_) <;> try (simp only [*, Bool.false_or, bne_self_eq_false] at hc; done)) | refine run_block ?_ | refine run_ret ?_ | refine run_nil ?_ | refine blk_normal ?_ | refine blk_ret ?_ | refine blk_here ?_ | refine blk_there rfl ?_ | refine loop_exit ?_ | refine loop_ret ?_ | refine un_exit ?_ | refine un_ret ?_ | refine unE_exit ?_ | refine unE_ret ?_ | refine un_normal ?_)
    · have hch : chgS cb = false := by simpa using hc
      have hF1 : foldF cb = foldB cb := by rw [foldF_step hcr, hch]; rfl
      have hF := hF1.symm.trans hF
      repeat' (first | refine run_seq ?_ | refine run_skip ?_ | (refine run_region fun K hK => ?_; (try (simp (maxSteps := 10000000) only [C25r3, rwp_nil, rwp_cons, aop, gpath, St.get, slotAt, sfx, eqP, St.put, addBlk, getB, setB, ldn, stn, setRow, rowNeed, nsub, shed, Nat.beq, Seg.size, sizes, cut, takeS, dropS, putS, exOk, Nat.reduceAdd, List.append_nil, List.nil_append])); (repeat (first | (refine And.intro ?_ ?_; · (first | trivial | assumption | omega | exact ⟨by omega, by omega⟩ | (intros; first | trivial | assumption | omega))))); with_reducible refine hK _ ?_; clear hK K) | (refine run_cond rfl (fun hc => ?_) (fun hc => ?_) <;> try (simp only [*, Bool.true_eq_false, Bool.false_eq_true, Bool.not_true, Bool.not_false, Bool.true_or, Bool.or_true, Bool.false_or, Bool.or_false, Bool.false_and, Bool.and_false, bne_self_eq_false, beq_self_eq_true] at hc; done)) | refine run_block ?_ | refine run_ret ?_ | refine run_nil ?_ | refine blk_normal ?_ | refine blk_ret ?_ | refine blk_here ?_ | refine blk_there rfl ?_ | refine loop_exit ?_ | refine loop_ret ?_ | refine un_exit ?_ | refine un_ret ?_ | refine unE_exit ?_ | refine unE_ret ?_ | refine un_normal ?_)
      exact end_fold hF hr 4 (by simp only [notIn, Nat.beq, and_self]) rfl rfl rfl rfl rfl
    · have hch : chgS cb = true := by simpa using hc
      have hF1 : foldF cb = foldF (foldB cb) := by rw [foldF_step hcr, hch]; rfl
      have hF := hF1.symm.trans hF
      have hlt := fold_lt hcr hch
      repeat' (first | refine run_seq ?_ | refine run_skip ?_ | (refine run_region fun K hK => ?_; (try (simp (maxSteps := 10000000) only [C25r4, rwp_nil, rwp_cons, aop, gpath, St.get, slotAt, sfx, eqP, St.put, addBlk, getB, setB, ldn, stn, setRow, rowNeed, nsub, shed, Nat.beq, Seg.size, sizes, cut, takeS, dropS, putS, exOk, Nat.reduceAdd, List.append_nil, List.nil_append])); (repeat (first | (refine And.intro ?_ ?_; · (first | trivial | assumption | omega | exact ⟨by omega, by omega⟩ | (intros; first | trivial | assumption | omega))))); with_reducible refine hK _ ?_; clear hK K) | (refine run_cond rfl (fun hc => ?_) (fun hc => ?_) <;> try (simp only [*, Bool.true_eq_false, Bool.false_eq_true, Bool.not_true, Bool.not_false, Bool.true_or, Bool.or_true, Bool.false_or, Bool.or_false, Bool.false_and, Bool.and_false, bne_self_eq_false, beq_self_eq_true] at hc; done)) | refine run_block ?_ | refine run_ret ?_ | refine run_nil ?_ | refine blk_normal ?_ | refine blk_ret ?_ | refine blk_here ?_ | refine blk_there rfl ?_ | refine loop_exit ?_ | refine loop_ret ?_ | refine un_exit ?_ | refine un_ret ?_ | refine unE_exit ?_ | refine unE_ret ?_ | refine un_normal ?_)
      refine loop_normal (wt (foldB cb).f (foldB cb).n) (stB b (foldB cb)) hlt (LeS.intro [0, 1, 2, 4] (fun i h => idtF i h) (by simp only [diff, notIn, Nat.beq, and_self]) rfl (by simp only [stB, slotsLe, slotAt, leV, leV1, leC, leA, nthO, and_self]) ⟨opsw_le _ _ _ (fun _ _ => rfl), z_le, blk_le' (foldB cb) 4 3 rfl, ops_le b.n b.f false, trivial⟩) ⟨foldB cb, rfl, fold_right hcr, hF, .inr rfl⟩
end Go.Proofs.Ytmbnakinhnkabaa

