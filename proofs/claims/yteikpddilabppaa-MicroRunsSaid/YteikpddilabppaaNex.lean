/- micro: on to the next operation that wants something. -/
import Derived.Test.YteikpddilabppaaWor
import Derived.Laws.BitsLemmas
namespace Go.Proofs.Yteikpddilabppaa
open Go.AM
set_option maxRecDepth 100000
set_option linter.unusedSimpArgs false
set_option linter.unusedVariables false
structure OpOk (nslots nops i : Nat) (m : MicroS) : Prop where
  k1 : 1 ≤ m.kind
  k22 : m.kind ≤ 22
  d0 : 0 ≤ m.d
  d8 : m.d < 8
  a0 : 0 ≤ m.a
  a8 : m.a < 8
  b0 : 0 ≤ m.b
  b8 : m.b < 8
  imm0 : 0 ≤ m.imm
  sl : m.kind = 3 ∨ m.kind = 4 → m.imm < nslots
  x : m.kind = 5 ∨ m.kind = 6 → 0 ≤ m.r ∧ m.r ≤ 30
  f : m.kind = 9 ∨ m.kind = 10 → 0 ≤ m.r ∧ m.r ≤ 3
  lv : (m.kind = 20 ∨ m.kind = 21 ∨ m.kind = 22) ↔ i + 1 = nops
def isN : WaitK → Bool
  | .none => true
  | _ => false
theorem nilB_wait (k : WaitK) : nilB .fn (waitV k) .nilfn = some (none, isN k) := by cases k <;> rfl
/-- What is wanted is an access to a multiple of eight, or a fence. -/
def WantOk (w : WantS) : Prop := ((w.kind = 1 ∨ w.kind = 2 ∨ w.kind = 3 ∨ w.kind = 4) ∧ w.addr.tmod 8 = 0) ∨ w.kind = 16 ∨ w.kind = 6
structure GoodS (s : RunS) : Prop where
  ops : ∀ i, i < s.nops → OpOk s.nslots s.nops i (s.ops i)
  n1 : 1 ≤ s.nops
  nb : s.nops ≤ 1000000
  at0 : 0 ≤ s.at_
  ats : s.left = false → s.steps = s.at_
  atn : s.left = false → s.at_ < s.nops
  st0 : 0 ≤ s.steps
  stn : s.steps ≤ s.nops
  st1 : s.left = true → 1 ≤ s.steps
  el : 0 ≤ s.el ∧ s.el ≤ 1
  wl : isN s.waits = false → s.left = false ∧ WantOk s.want ∧ 12 ≤ (s.ops s.at_.toNat).kind ∧ (s.ops s.at_.toNat).kind ≤ 17
  gl : s.isGuest = true → s.left = true ∧ s.faulted = false
  fl : s.faulted = true → s.left = true
theorem GoodS.fit {s : RunS} (h : GoodS s) (hl : s.left = false) : FitM s (s.ops s.at_.toNat) := by
  have h0 := h.at0
  have hn := h.atn hl
  have := h.ops s.at_.toNat (by omega)
  exact ⟨this.d0, this.d8, this.a0, this.a8, this.b0, this.b8, this.imm0, this.sl, this.x, this.f, h.el⟩
structure Same (s t : RunS) : Prop where
  ops : t.ops = s.ops
  nops : t.nops = s.nops
  nslots : t.nslots = s.nslots
  el : t.el = s.el
  at_ : t.at_ = s.at_
  steps : t.steps = s.steps
  waits : t.waits = s.waits
  want : t.want = s.want
  faulted : t.faulted = s.faulted
theorem Same.ite {s t u : RunS} {p : Prop} [Decidable p] (h : Same s t) (k : Same s u) : Same s (if p then t else u) := by split <;> assumption
theorem local_same (s : RunS) (m : MicroS) : Same s (localS s m) := by
  unfold localS
  repeat' (first | exact ⟨rfl, rfl, rfl, rfl, rfl, rfl, rfl, rfl, rfl⟩ | refine Same.ite ?_ ?_)
theorem local_left {s : RunS} {m : MicroS} (h : (localS s m).left = false) : ¬ (m.kind = 20 ∨ m.kind = 21 ∨ m.kind = 22) := by
  intro hk
  rcases hk with hk | hk | hk <;> (unfold localS at h; simp [hk, leaveS] at h)
def GL (s t : RunS) : Prop := t.isGuest = true → s.isGuest = true ∨ t.left = true
theorem GL.ite {s t u : RunS} {p : Prop} [Decidable p] (h : GL s t) (k : GL s u) : GL s (if p then t else u) := by split <;> assumption
theorem local_guest (s : RunS) (m : MicroS) : GL s (localS s m) := by
  unfold localS
  repeat' (first | (intro h; exact .inl h) | (intro h; exact .inr rfl) | refine GL.ite ?_ ?_)
def roundS (s : RunS) : RunS :=
  let s1 := localS s (s.ops s.at_.toNat)
  { s1 with steps := IntKind.i64.wrap (s1.steps + 1), at_ := IntKind.i64.wrap (s1.at_ + 1) }
def nextS : Nat → RunS → RunS
  | 0, s => s
  | n + 1, s => if (!s.left && isN s.waits) = true then (if (worldS s (s.ops s.at_.toNat)).1 = true then (worldS s (s.ops s.at_.toNat)).2 else nextS n (roundS s)) else s
theorem wrap64 {x : Int} (h0 : 0 ≤ x) (h1 : x ≤ 1000001) : IntKind.i64.wrap x = x := by
  rw [IntKind.wrap_i64]; omega
theorem GoodS.round_at {s : RunS} (h : GoodS s) (hl : s.left = false) : (roundS s).at_ = s.at_ + 1 ∧ (roundS s).nops = s.nops := by
  have h0 := h.at0
  have hn := h.atn hl
  have hb := h.nb
  have hm := local_same s (s.ops s.at_.toNat)
  refine ⟨?_, hm.nops⟩
  show IntKind.i64.wrap _ = _
  rw [hm.at_, wrap64 (by omega) (by omega)]
/-- As far as it goes. -/
def nextR (s : RunS) : RunS := nextS (s.nops - s.at_.toNat + 1) s
theorem world_false {s : RunS} {m : MicroS} (h : (worldS s m).1 = false) : (worldS s m).2 = s := by
  unfold worldS at h ⊢
  simp only at h ⊢
  (repeat' split at h) <;> first | (cases h; done) | skip
  simp [*]
theorem GoodS.round {s : RunS} (h : GoodS s) (hl : s.left = false) (hw : isN s.waits = true) : GoodS (roundS s) := by
  have h0 := h.at0
  have hn := h.atn hl
  have hs := h.ats hl
  have hb := h.nb
  have hm := local_same s (s.ops s.at_.toNat)
  obtain ⟨e1, e3⟩ := h.round_at hl
  have e2 : (roundS s).steps = s.at_ + 1 := by
    show IntKind.i64.wrap _ = _
    rw [hm.steps, hs, wrap64 (by omega) (by omega)]
  refine ⟨fun i hi => ?_, by rw [e3]; exact h.n1, by rw [e3]; exact hb, by rw [e1]; omega, fun _ => by rw [e1, e2], fun hll => ?_, by rw [e2]; omega, by rw [e2, e3]; omega, fun _ => by rw [e2]; omega, by have e : (roundS s).el = s.el := hm.el; rw [e]; exact h.el, fun hx => ?_, fun hg => ?_, fun hf => ?_⟩
  · have : (roundS s).ops = s.ops := hm.ops
    rw [e3] at hi ⊢
    rw [this, show (roundS s).nslots = s.nslots from hm.nslots]
    exact h.ops i hi
  · rw [e1, e3]
    have := (h.ops s.at_.toNat (by omega)).lv
    have hk := local_left hll
    have : ¬ s.at_.toNat + 1 = s.nops := fun e => hk (this.2 e)
    omega
  · have : (roundS s).waits = s.waits := hm.waits
    rw [this, hw] at hx; cases hx
  · have hff : (roundS s).faulted = s.faulted := hm.faulted
    have hf0 : s.faulted = false := by
      cases hf : s.faulted with
      | false => rfl
      | true => rw [h.fl hf] at hl; cases hl
    refine ⟨?_, by rw [hff]; exact hf0⟩
    rcases local_guest s (s.ops s.at_.toNat) hg with h' | h'
    · rw [(h.gl h').1] at hl; cases hl
    · exact h'
  · have hff : (roundS s).faulted = s.faulted := hm.faulted
    rw [hff] at hf
    rw [h.fl hf] at hl; cases hl
theorem acc_good {s : RunS} (h : GoodS s) (hl : s.left = false) (hk : 12 ≤ (s.ops s.at_.toNat).kind ∧ (s.ops s.at_.toNat).kind ≤ 17) (a : Int) (w : WantS) (k : WaitK) (hw : a.tmod 8 = 0 → WantOk w) : GoodS (accS s a w k) := by
  have h0 := h.at0
  have hn := h.atn hl
  have hs := h.ats hl
  have hb := h.nb
  unfold accS
  split
  · rename_i ha
    exact ⟨h.ops, h.n1, h.nb, h.at0, h.ats, h.atn, h.st0, h.stn, h.st1, h.el, fun _ => ⟨hl, hw ha, hk⟩, h.gl, h.fl⟩
  · have e : IntKind.i64.wrap (s.steps + 1) = s.at_ + 1 := by rw [hs, wrap64 (by omega) (by omega)]
    refine ⟨h.ops, h.n1, h.nb, h.at0, fun hx => (by cases hx), fun hx => (by cases hx), ?_, ?_, fun _ => ?_, h.el, fun hx => (by cases hx), fun hg => ?_, fun _ => rfl⟩
    · show 0 ≤ IntKind.i64.wrap _; rw [e]; omega
    · show IntKind.i64.wrap _ ≤ _; rw [e]; show s.at_ + 1 ≤ s.nops; omega
    · show 1 ≤ IntKind.i64.wrap _; rw [e]; omega
    · have := (h.gl hg).1; rw [this] at hl; cases hl
theorem world_cases {s : RunS} {m : MicroS} (ht : (worldS s m).1 = true) : (12 ≤ m.kind ∧ m.kind ≤ 17) ∧
    ((∃ a w k, (worldS s m).2 = accS s a w k ∧ isN k = false ∧ (a.tmod 8 = 0 → WantOk w)) ∨ (∃ w k, (worldS s m).2 = { s with want := w, waits := k } ∧ isN k = false ∧ WantOk w)) := by
  unfold worldS at ht ⊢
  simp only at ht ⊢
  (repeat' split at ht) <;> first | (cases ht; done) | skip
  all_goals refine ⟨by omega, ?_⟩
  all_goals simp only [*, if_true, if_false, Int.reduceEq, reduceIte]
  · exact .inl ⟨_, _, _, rfl, rfl, fun ha => .inl ⟨.inl rfl, ha⟩⟩
  · exact .inl ⟨_, _, _, rfl, rfl, fun ha => .inl ⟨.inr (.inr (.inl rfl)), ha⟩⟩
  · exact .inl ⟨_, _, _, rfl, rfl, fun ha => .inl ⟨.inr (.inl rfl), ha⟩⟩
  · exact .inl ⟨_, _, _, rfl, rfl, fun ha => .inl ⟨.inr (.inr (.inr rfl)), ha⟩⟩
  · exact .inr ⟨_, _, rfl, rfl, .inr (.inl rfl)⟩
  · exact .inr ⟨_, _, rfl, rfl, .inr (.inr rfl)⟩
theorem world_good {s : RunS} (h : GoodS s) (hl : s.left = false) (ht : (worldS s (s.ops s.at_.toNat)).1 = true) : GoodS (worldS s (s.ops s.at_.toNat)).2 := by
  obtain ⟨hk, ⟨a, w, k, e, _, hw⟩ | ⟨w, k, e, _, hw⟩⟩ := world_cases ht
  · rw [e]; exact acc_good h hl hk a w k hw
  · rw [e]; exact ⟨h.ops, h.n1, h.nb, h.at0, h.ats, h.atn, h.st0, h.stn, h.st1, h.el, fun _ => ⟨hl, hw, hk⟩, h.gl, h.fl⟩
theorem acc_fields (s : RunS) (a : Int) (w : WantS) (k : WaitK) (hk : isN k = false) : (accS s a w k).at_ = s.at_ ∧ (accS s a w k).nops = s.nops ∧ (isN (accS s a w k).waits = true → (accS s a w k).left = true) := by
  unfold accS
  split
  · exact ⟨rfl, rfl, fun h => by rw [hk] at h; cases h⟩
  · exact ⟨rfl, rfl, fun _ => rfl⟩
theorem world_fields {s : RunS} {m : MicroS} (ht : (worldS s m).1 = true) : (worldS s m).2.at_ = s.at_ ∧ (worldS s m).2.nops = s.nops ∧ (isN (worldS s m).2.waits = true → (worldS s m).2.left = true) := by
  obtain ⟨_, ⟨a, w, k, e, hk, _⟩ | ⟨w, k, e, hk, _⟩⟩ := world_cases ht
  · rw [e]; exact acc_fields s a w k hk
  · rw [e]; exact ⟨rfl, rfl, fun h => by rw [hk] at h; cases h⟩
theorem next_good : ∀ (n : Nat) (s : RunS), GoodS s → s.nops - s.at_.toNat < n → GoodS (nextS n s) ∧ (isN (nextS n s).waits = true → (nextS n s).left = true) ∧ s.at_ ≤ (nextS n s).at_ ∧ (nextS n s).nops = s.nops
  | 0, s, h, hn => by omega
  | n + 1, s, h, hn => by
    unfold nextS
    split
    · rename_i hc
      have hl : s.left = false := by revert hc; cases s.left <;> simp
      have hw : isN s.waits = true := by revert hc; cases isN s.waits <;> simp
      split
      · rename_i ht
        obtain ⟨f1, f2, f3⟩ := world_fields ht
        exact ⟨world_good h hl ht, f3, by rw [f1]; exact Int.le_refl _, f2⟩
      · obtain ⟨e1, e2⟩ := h.round_at hl
        have h0 := h.at0
        have ha := h.atn hl
        obtain ⟨g1, g2, g3, g4⟩ := next_good n (roundS s) (h.round hl hw) (by omega)
        exact ⟨g1, g2, by omega, by omega⟩
    · rename_i hc
      refine ⟨h, fun hw => ?_, Int.le_refl _, rfl⟩
      rw [hw] at hc
      revert hc
      cases s.left <;> simp
theorem nextR_good {s : RunS} (h : GoodS s) : GoodS (nextR s) ∧ (isN (nextR s).waits = true → (nextR s).left = true) ∧ s.at_ ≤ (nextR s).at_ ∧ (nextR s).nops = s.nops := next_good _ s h (by omega)
def resB (w : WantS) : Blk := ⟨10, none, fun _ => wantL w, 45, true⟩
def loopSt (s : RunS) : St := ⟨[⟨3, [], .c (.bool false)⟩, ⟨2, [], .c (.ptr ⟨3, 0, 0, 0⟩)⟩, ⟨0, [], me⟩], ⟨4, [(3, resB want0), (0, runB s), (1, opsB s), (2, slotB s)]⟩⟩
theorem ids0123 : Ids3 [0, 1, 2, 3] := ⟨rfl, rfl, rfl⟩
theorem res_le {l : List Nat} (w : WantS) : leB l (resB w) (resB w) := by
  refine ⟨rfl, rfl, id, Nat.le_refl _, fun i _ => ?_⟩
  simp only [resB, wantL, leSegs, leSeg, leC, and_self]
theorem ids3' : ∀ i, i < 3 → nthO [0, 1, 2, 3] i = some i := by
  intro i h
  match i, h with
  | 0, _ => rfl
  | 1, _ => rfl
  | 2, _ => rfl
theorem le_loop {l : List Slot} {H : Heap} {s : RunS} (h3 : getB H.blks 3 = some (resB want0)) (h0 : getB H.blks 0 = some (runB s)) (h1 : getB H.blks 1 = some (opsB s)) (h2 : getB H.blks 2 = some (slotB s))
    (t0 : slotAt l 0 = some ⟨0, [], me⟩) (t2 : slotAt l 2 = some ⟨2, [], .c (.ptr ⟨3, 0, 0, 0⟩)⟩) (t3 : slotAt l 3 = some ⟨3, [], .c (.bool false)⟩) : LeS 3 ⟨l, H⟩ (loopSt s) := by
  refine LeS.intro [0, 1, 2, 3] (fun i h => ids3' i h) (by simp only [diff, notIn, Nat.beq, and_self]) rfl ?_ ?_
  · simp only [loopSt, slotsLe, t0, t2, t3]
    exact ⟨rfl, ⟨rfl, rfl, rfl, rfl⟩, ⟨rfl, rfl, rfl, rfl⟩, trivial⟩
  · simp only [loopSt, leBlks, nthO, h0, h1, h2, h3]
    exact ⟨res_le _, run_le ids0123 s, ops_le s, slot_le s, trivial⟩
theorem run_frame2 {f : FuncId} {args : List AV} {s s' : RunS} {V : AV} (h : Con Try.prog f args (runH s) (fun v H' => v = V ∧ H' = runH s')) (ha : leArgs [0, 1, 2] args args) {B C : Blk} :
    Con Try.prog f args ⟨5, (4, B) :: (3, C) :: (runH s).blks⟩ (fun v H' => v = V ∧ H' = ⟨5, (4, B) :: (3, C) :: (runH s').blks⟩) :=
  run_frame h ha [(4, B), (3, C)] 5 rfl (by decide) (fun i hi => by
    match i, hi with
    | 0, _ => rfl
    | 1, _ => rfl
    | 2, _ => rfl)
def postH (s : RunS) : Heap := ⟨4, [(3, resB s.want), (0, runB s), (1, opsB s), (2, slotB s)]⟩
theorem end_next {l : List Slot} {H : Heap} {R : Post} (s : RunS) (h3 : getB H.blks 3 = some (resB s.want)) (h0 : getB H.blks 0 = some (runB s)) (h1 : getB H.blks 1 = some (opsB s)) (h2 : getB H.blks 2 = some (slotB s))
    (t2 : slotAt l 2 = some ⟨2, [], .c (.ptr ⟨3, 0, 0, 0⟩)⟩) {b : Bool} (t3 : slotAt l 3 = some ⟨3, [], .c (.bool b)⟩) (hR : R (.tup [.agg (wantL s.want), .c (.bool b)]) (postH s)) : endQ (LeS 3) [.cn 10 2, .tmp 3] R .ret ⟨l, H⟩ := by
  refine end_of ⟨[⟨2, [], .c (.ptr ⟨3, 0, 0, 0⟩)⟩, ⟨3, [], .c (.bool b)⟩], postH s⟩ ?_ hR
  refine LeS.intro [0, 1, 2, 3] ids3' (by simp only [diff, notIn, Nat.beq, and_self]) rfl ?_ ?_
  · simp only [slotsLe, t2, t3]
    exact ⟨⟨rfl, rfl, rfl, rfl⟩, rfl, trivial⟩
  · simp only [postH, leBlks, nthO, h0, h1, h2, h3]
    exact ⟨res_le _, run_le ids0123 s, ops_le s, slot_le s, trivial⟩
set_option maxHeartbeats 8000000 in
theorem con11 (s : RunS) (hg : GoodS s) : Con Try.prog 11 [me] (runH s) (fun v H' => v = .tup [.agg (wantL (nextR s).want), .c (.bool (!isN (nextR s).waits))] ∧ H' = runH (nextR s)) := by
  refine Con.forget (R := fun v H' => v = .tup [.agg (wantL (nextR s).want), .c (.bool (!isN (nextR s).waits))] ∧ H' = postH (nextR s)) ?_ ?_
  rotate_left
  · rintro v H' ⟨rfl, rfl⟩
    refine ⟨_, _, [0, 1, 2], ids3, diff3, rfl, ?_, ?_, rfl, rfl⟩
    · exact ⟨run_le ids012 _, ops_le _, slot_le _, trivial⟩
    · simp only [leV, leVL, leV1, wantL, leSegs, leSeg, leC, and_self]
  (refine con_of_run mixed (fn := Try.f11) (by kernel_rfl) (by kernel_rfl) C11_ok (rs := [.cn 10 2, .tmp 3]) (by kernel_rfl) (Nat.le_of_ble_eq_true (by kernel_rfl)) ?_; unfold C11; simp only [initT, Nat.reduceAdd])
  generalize hT : nextR s = T
  simp only [me]
  repeat' (first
    | refine run_seq ?_
    | refine run_skip ?_
    | (refine run_region fun K hK => ?_; (try (simp (maxSteps := 10000000) only [runH, C11r0, C11r1, C11r2, C11r3, C11r4, C11r5, C11r6, C11r7, rwp_nil, rwp_cons, rwpK_app, aop, gpath, St.get, slotAt, sfx, eqP, segsOf, St.put, addBlk, getB, setB, delB, ld1, ldn, st1, stn, setRow, rowNeed, segAt, nsub, bin, un, eqB, isShift, sameK, arith, shiftR, getsl, selB_or, selB_and, beqb, shed, addN, Nat.beq, Seg.size, sizes, imp, needP, andN, appL, argsOf, ptrsOf, aasOf, cut, takeS, dropS, putS, partsOf, fillS, fieldOf, nthA, negIf, nilq, nilB, eqS, eqF, eqS1, andP, kin, slcS, strOk, plusA, bndHi, leN, optG, roH, roL, initT, exOk, exAll, wrAddr, Nat.reduceAdd, Nat.reduceSub, Nat.reduceMul, Int.reduceToNat, List.append_nil, List.nil_append, List.cons_append, eqT, idxT, cat, cpy, ite_int, ite_bool, ite_seg, ite_segs, ite_nil, ite_twice, Int.toNat_natCast, app, addBs])); (repeat (first | (refine And.intro ?_ ?_; · omega))); with_reducible refine hK _ ?_; clear hK K)
    | (refine run_cond rfl (fun hc => ?_) (fun hc => ?_) <;> try (simp only [*, Bool.true_eq_false, Bool.false_eq_true, Bool.not_true, Bool.not_false, Bool.true_or, Bool.or_true, Bool.false_or, Bool.or_false, Bool.false_and, Bool.and_false, bne_self_eq_false, beq_self_eq_true] at hc; done))
    | refine run_block ?_
    | refine run_ret ?_
    | refine run_nil ?_
    | refine run_exit ?_
    | refine blk_normal ?_
    | refine blk_ret ?_
    | refine blk_here ?_
    | refine blk_there rfl ?_
    | refine loop_exit ?_
    | refine loop_ret ?_
    | refine un_exit ?_
    | refine un_ret ?_
    | refine unE_exit ?_
    | refine unE_ret ?_
    | refine un_normal ?_)
  refine run_loop (fun n st => ∃ t, GoodS t ∧ st = loopSt t ∧ n = t.nops - t.at_.toNat ∧ nextS (n + 1) t = T) (s.nops - s.at_.toNat) ⟨s, hg, rfl, rfl, hT⟩ ?_
  · rintro n st ⟨t, hgt, rfl, hn, ht⟩
    simp only [loopSt, me, resB, runB, runL, opsB, slotB, wantL, want0]
    have hat0 := hgt.at0
    repeat' (first
    | refine run_seq ?_
    | refine run_skip ?_
    | (refine run_region fun K hK => ?_; (try (simp (maxSteps := 10000000) only [microL, ↓nilB_wait, C11r0, C11r1, C11r2, C11r3, C11r4, C11r5, C11r6, C11r7, rwp_nil, rwp_cons, rwpK_app, aop, gpath, St.get, slotAt, sfx, eqP, segsOf, St.put, addBlk, getB, setB, delB, ld1, ldn, st1, stn, setRow, rowNeed, segAt, nsub, bin, un, eqB, isShift, sameK, arith, shiftR, getsl, selB_or, selB_and, beqb, shed, addN, Nat.beq, Seg.size, sizes, imp, needP, andN, appL, argsOf, ptrsOf, aasOf, cut, takeS, dropS, putS, partsOf, fillS, fieldOf, nthA, negIf, nilq, nilB, eqS, eqF, eqS1, andP, kin, slcS, strOk, plusA, bndHi, leN, optG, roH, roL, initT, exOk, exAll, wrAddr, Nat.reduceAdd, Nat.reduceSub, Nat.reduceMul, Int.reduceToNat, List.append_nil, List.nil_append, List.cons_append, eqT, idxT, cat, cpy, ite_int, ite_bool, ite_seg, ite_segs, ite_nil, ite_twice, Int.toNat_natCast, app, addBs])); (repeat (first | (refine And.intro ?_ ?_; · omega))); with_reducible refine hK _ ?_; clear hK K)
    | (refine run_cond rfl (fun hc => ?_) (fun hc => ?_) <;> try (simp only [*, Bool.true_eq_false, Bool.false_eq_true, Bool.not_true, Bool.not_false, Bool.true_or, Bool.or_true, Bool.false_or, Bool.or_false, Bool.false_and, Bool.and_false, bne_self_eq_false, beq_self_eq_true] at hc; done))
    | refine run_block ?_
    | refine run_ret ?_
    | refine run_nil ?_
    | refine run_exit ?_
    | refine blk_normal ?_
    | refine blk_ret ?_
    | refine blk_here ?_
    | refine blk_there rfl ?_
    | refine loop_exit ?_
    | refine loop_ret ?_
    | refine un_exit ?_
    | refine un_ret ?_
    | refine unE_exit ?_
    | refine unE_ret ?_
    | refine un_normal ?_)
    · have hl : t.left = false := by revert hc; cases t.left <;> simp
      have hat := hgt.atn hl
      have hfit := hgt.fit hl
      have hwn : isN t.waits = true := by revert hc; cases isN t.waits <;> simp
      have hgr := hgt.round hl hwn
      repeat' (first
    | refine run_seq ?_
    | refine run_skip ?_
    | (refine run_region fun K hK => ?_; (try (simp (maxSteps := 10000000) only [microL, ↓nilB_wait, C11r0, C11r1, C11r2, C11r3, C11r4, C11r5, C11r6, C11r7, rwp_nil, rwp_cons, rwpK_app, aop, gpath, St.get, slotAt, sfx, eqP, segsOf, St.put, addBlk, getB, setB, delB, ld1, ldn, st1, stn, setRow, rowNeed, segAt, nsub, bin, un, eqB, isShift, sameK, arith, shiftR, getsl, selB_or, selB_and, beqb, shed, addN, Nat.beq, Seg.size, sizes, imp, needP, andN, appL, argsOf, ptrsOf, aasOf, cut, takeS, dropS, putS, partsOf, fillS, fieldOf, nthA, negIf, nilq, nilB, eqS, eqF, eqS1, andP, kin, slcS, strOk, plusA, bndHi, leN, optG, roH, roL, initT, exOk, exAll, wrAddr, Nat.reduceAdd, Nat.reduceSub, Nat.reduceMul, Int.reduceToNat, List.append_nil, List.nil_append, List.cons_append, eqT, idxT, cat, cpy, ite_int, ite_bool, ite_seg, ite_segs, ite_nil, ite_twice, Int.toNat_natCast, app, addBs])); (repeat (first | (refine And.intro ?_ ?_; · omega) | ((first | (refine call_t _ (run_frame2 (con21 t _ hfit) (by simp only [me, microL, leArgs, leV, leV1, leSegs, leSeg, leC, leA, nthO, and_self])) ?_; rintro v H' ⟨rfl, rfl⟩) | refine call_q _ (run_frame2 (con21 t _ hfit) (by simp only [me, microL, leArgs, leV, leV1, leSegs, leSeg, leC, leA, nthO, and_self])) ?_ | refine call_g _ (imp_of (run_frame2 (con21 t _ hfit) (by simp only [me, microL, leArgs, leV, leV1, leSegs, leSeg, leC, leA, nthO, and_self]))) ?_ | (refine call_t _ (run_frame2 (con22 t _ hfit) (by simp only [me, microL, leArgs, leV, leV1, leSegs, leSeg, leC, leA, nthO, and_self])) ?_; rintro v H' ⟨rfl, rfl⟩) | refine call_q _ (run_frame2 (con22 t _ hfit) (by simp only [me, microL, leArgs, leV, leV1, leSegs, leSeg, leC, leA, nthO, and_self])) ?_ | refine call_g _ (imp_of (run_frame2 (con22 t _ hfit) (by simp only [me, microL, leArgs, leV, leV1, leSegs, leSeg, leC, leA, nthO, and_self]))) ?_); simp (maxSteps := 10000000) only [microL, ↓nilB_wait, C11r0, C11r1, C11r2, C11r3, C11r4, C11r5, C11r6, C11r7, rwp_nil, rwp_cons, rwpK_app, aop, gpath, St.get, slotAt, sfx, eqP, segsOf, St.put, addBlk, getB, setB, delB, ld1, ldn, st1, stn, setRow, rowNeed, segAt, nsub, bin, un, eqB, isShift, sameK, arith, shiftR, getsl, selB_or, selB_and, beqb, shed, addN, Nat.beq, Seg.size, sizes, imp, needP, andN, appL, argsOf, ptrsOf, aasOf, cut, takeS, dropS, putS, partsOf, fillS, fieldOf, nthA, negIf, nilq, nilB, eqS, eqF, eqS1, andP, kin, slcS, strOk, plusA, bndHi, leN, optG, roH, roL, initT, exOk, exAll, wrAddr, Nat.reduceAdd, Nat.reduceSub, Nat.reduceMul, Int.reduceToNat, List.append_nil, List.nil_append, List.cons_append, eqT, idxT, cat, cpy, ite_int, ite_bool, ite_seg, ite_segs, ite_nil, ite_twice, Int.toNat_natCast, app, addBs]))); with_reducible refine hK _ ?_; clear hK K)
    | (refine run_cond rfl (fun hc => ?_) (fun hc => ?_) <;> try (simp only [*, Bool.true_eq_false, Bool.false_eq_true, Bool.not_true, Bool.not_false, Bool.true_or, Bool.or_true, Bool.false_or, Bool.or_false, Bool.false_and, Bool.and_false, bne_self_eq_false, beq_self_eq_true] at hc; done))
    | refine run_block ?_
    | refine run_ret ?_
    | refine run_nil ?_
    | refine run_exit ?_
    | refine blk_normal ?_
    | refine blk_ret ?_
    | refine blk_here ?_
    | refine blk_there rfl ?_
    | refine loop_exit ?_
    | refine loop_ret ?_
    | refine un_exit ?_
    | refine un_ret ?_
    | refine unE_exit ?_
    | refine unE_ret ?_
    | refine un_normal ?_)
      · have hT2 : T = (worldS t (t.ops t.at_.toNat)).2 := by
          rw [← ht]
          unfold nextS
          rw [if_pos (by assumption), if_pos hc]
        generalize hW : (worldS t (t.ops t.at_.toNat)).2 = W at hT2 ⊢
        subst hT2
        repeat' (first
    | refine run_seq ?_
    | refine run_skip ?_
    | (refine run_region fun K hK => ?_; (try (simp (maxSteps := 10000000) only [runH, runB, runL, opsB, slotB, ↓nilB_wait, C11r0, C11r1, C11r2, C11r3, C11r4, C11r5, C11r6, C11r7, rwp_nil, rwp_cons, rwpK_app, aop, gpath, St.get, slotAt, sfx, eqP, segsOf, St.put, addBlk, getB, setB, delB, ld1, ldn, st1, stn, setRow, rowNeed, segAt, nsub, bin, un, eqB, isShift, sameK, arith, shiftR, getsl, selB_or, selB_and, beqb, shed, addN, Nat.beq, Seg.size, sizes, imp, needP, andN, appL, argsOf, ptrsOf, aasOf, cut, takeS, dropS, putS, partsOf, fillS, fieldOf, nthA, negIf, nilq, nilB, eqS, eqF, eqS1, andP, kin, slcS, strOk, plusA, bndHi, leN, optG, roH, roL, initT, exOk, exAll, wrAddr, Nat.reduceAdd, Nat.reduceSub, Nat.reduceMul, Int.reduceToNat, List.append_nil, List.nil_append, List.cons_append, eqT, idxT, cat, cpy, ite_int, ite_bool, ite_seg, ite_segs, ite_nil, ite_twice, Int.toNat_natCast, app, addBs])); (repeat (first | (refine And.intro ?_ ?_; · omega))); with_reducible refine hK _ ?_; clear hK K)
    | (refine run_cond rfl (fun hc => ?_) (fun hc => ?_) <;> try (simp only [*, Bool.true_eq_false, Bool.false_eq_true, Bool.not_true, Bool.not_false, Bool.true_or, Bool.or_true, Bool.false_or, Bool.or_false, Bool.false_and, Bool.and_false, bne_self_eq_false, beq_self_eq_true] at hc; done))
    | refine run_block ?_
    | refine run_ret ?_
    | refine run_nil ?_
    | refine run_exit ?_
    | refine blk_normal ?_
    | refine blk_ret ?_
    | refine blk_here ?_
    | refine blk_there rfl ?_
    | refine loop_exit ?_
    | refine loop_ret ?_
    | refine un_exit ?_
    | refine un_ret ?_
    | refine unE_exit ?_
    | refine unE_ret ?_
    | refine un_normal ?_)
        exact end_next T rfl rfl rfl rfl rfl rfl ⟨rfl, rfl⟩
      · have hw2 := world_false hc
        rw [hw2]
        repeat' (first
    | refine run_seq ?_
    | refine run_skip ?_
    | (refine run_region fun K hK => ?_; (try (simp (maxSteps := 10000000) only [microL, ↓nilB_wait, C11r0, C11r1, C11r2, C11r3, C11r4, C11r5, C11r6, C11r7, rwp_nil, rwp_cons, rwpK_app, aop, gpath, St.get, slotAt, sfx, eqP, segsOf, St.put, addBlk, getB, setB, delB, ld1, ldn, st1, stn, setRow, rowNeed, segAt, nsub, bin, un, eqB, isShift, sameK, arith, shiftR, getsl, selB_or, selB_and, beqb, shed, addN, Nat.beq, Seg.size, sizes, imp, needP, andN, appL, argsOf, ptrsOf, aasOf, cut, takeS, dropS, putS, partsOf, fillS, fieldOf, nthA, negIf, nilq, nilB, eqS, eqF, eqS1, andP, kin, slcS, strOk, plusA, bndHi, leN, optG, roH, roL, initT, exOk, exAll, wrAddr, Nat.reduceAdd, Nat.reduceSub, Nat.reduceMul, Int.reduceToNat, List.append_nil, List.nil_append, List.cons_append, eqT, idxT, cat, cpy, ite_int, ite_bool, ite_seg, ite_segs, ite_nil, ite_twice, Int.toNat_natCast, app, addBs])); (repeat (first | (refine And.intro ?_ ?_; · omega) | ((first | (refine call_t _ (run_frame2 (con22 t _ hfit) (by simp only [me, microL, leArgs, leV, leV1, leSegs, leSeg, leC, leA, nthO, and_self])) ?_; rintro v H' ⟨rfl, rfl⟩) | refine call_q _ (run_frame2 (con22 t _ hfit) (by simp only [me, microL, leArgs, leV, leV1, leSegs, leSeg, leC, leA, nthO, and_self])) ?_ | refine call_g _ (imp_of (run_frame2 (con22 t _ hfit) (by simp only [me, microL, leArgs, leV, leV1, leSegs, leSeg, leC, leA, nthO, and_self]))) ?_); simp (maxSteps := 10000000) only [microL, ↓nilB_wait, C11r0, C11r1, C11r2, C11r3, C11r4, C11r5, C11r6, C11r7, rwp_nil, rwp_cons, rwpK_app, aop, gpath, St.get, slotAt, sfx, eqP, segsOf, St.put, addBlk, getB, setB, delB, ld1, ldn, st1, stn, setRow, rowNeed, segAt, nsub, bin, un, eqB, isShift, sameK, arith, shiftR, getsl, selB_or, selB_and, beqb, shed, addN, Nat.beq, Seg.size, sizes, imp, needP, andN, appL, argsOf, ptrsOf, aasOf, cut, takeS, dropS, putS, partsOf, fillS, fieldOf, nthA, negIf, nilq, nilB, eqS, eqF, eqS1, andP, kin, slcS, strOk, plusA, bndHi, leN, optG, roH, roL, initT, exOk, exAll, wrAddr, Nat.reduceAdd, Nat.reduceSub, Nat.reduceMul, Int.reduceToNat, List.append_nil, List.nil_append, List.cons_append, eqT, idxT, cat, cpy, ite_int, ite_bool, ite_seg, ite_segs, ite_nil, ite_twice, Int.toNat_natCast, app, addBs]))); with_reducible refine hK _ ?_; clear hK K)
    | (refine run_cond rfl (fun hc => ?_) (fun hc => ?_) <;> try (simp only [*, Bool.true_eq_false, Bool.false_eq_true, Bool.not_true, Bool.not_false, Bool.true_or, Bool.or_true, Bool.false_or, Bool.or_false, Bool.false_and, Bool.and_false, bne_self_eq_false, beq_self_eq_true] at hc; done))
    | refine run_block ?_
    | refine run_ret ?_
    | refine run_nil ?_
    | refine run_exit ?_
    | refine blk_normal ?_
    | refine blk_ret ?_
    | refine blk_here ?_
    | refine blk_there rfl ?_
    | refine loop_exit ?_
    | refine loop_ret ?_
    | refine un_exit ?_
    | refine un_ret ?_
    | refine unE_exit ?_
    | refine unE_ret ?_
    | refine un_normal ?_)
        repeat' (first
    | refine run_seq ?_
    | refine run_skip ?_
    | (refine run_region fun K hK => ?_; (try (simp (maxSteps := 10000000) only [runH, runB, runL, opsB, slotB, ↓nilB_wait, C11r0, C11r1, C11r2, C11r3, C11r4, C11r5, C11r6, C11r7, rwp_nil, rwp_cons, rwpK_app, aop, gpath, St.get, slotAt, sfx, eqP, segsOf, St.put, addBlk, getB, setB, delB, ld1, ldn, st1, stn, setRow, rowNeed, segAt, nsub, bin, un, eqB, isShift, sameK, arith, shiftR, getsl, selB_or, selB_and, beqb, shed, addN, Nat.beq, Seg.size, sizes, imp, needP, andN, appL, argsOf, ptrsOf, aasOf, cut, takeS, dropS, putS, partsOf, fillS, fieldOf, nthA, negIf, nilq, nilB, eqS, eqF, eqS1, andP, kin, slcS, strOk, plusA, bndHi, leN, optG, roH, roL, initT, exOk, exAll, wrAddr, Nat.reduceAdd, Nat.reduceSub, Nat.reduceMul, Int.reduceToNat, List.append_nil, List.nil_append, List.cons_append, eqT, idxT, cat, cpy, ite_int, ite_bool, ite_seg, ite_segs, ite_nil, ite_twice, Int.toNat_natCast, app, addBs])); (repeat (first | (refine And.intro ?_ ?_; · omega))); with_reducible refine hK _ ?_; clear hK K)
    | (refine run_cond rfl (fun hc => ?_) (fun hc => ?_) <;> try (simp only [*, Bool.true_eq_false, Bool.false_eq_true, Bool.not_true, Bool.not_false, Bool.true_or, Bool.or_true, Bool.false_or, Bool.or_false, Bool.false_and, Bool.and_false, bne_self_eq_false, beq_self_eq_true] at hc; done))
    | refine run_block ?_
    | refine run_ret ?_
    | refine run_nil ?_
    | refine run_exit ?_
    | refine blk_normal ?_
    | refine blk_ret ?_
    | refine blk_here ?_
    | refine blk_there rfl ?_
    | refine loop_exit ?_
    | refine loop_ret ?_
    | refine un_exit ?_
    | refine un_ret ?_
    | refine unE_exit ?_
    | refine unE_ret ?_
    | refine un_normal ?_)
        obtain ⟨r1, r2⟩ := hgt.round_at hl
        refine loop_normal (n - 1) (loopSt (roundS t)) (by omega) (le_loop rfl rfl rfl rfl rfl rfl rfl) ⟨roundS t, hgr, rfl, by omega, ?_⟩
        rw [← ht]
        conv => rhs; unfold nextS
        rw [if_pos (by assumption), if_neg (by rw [hc]; simp)]
        congr 1
        omega
    · have hT2 : T = t := by
        rw [← ht]
        unfold nextS
        rw [if_neg (by rw [hc]; simp)]
      subst hT2
      exact end_next T rfl rfl rfl rfl rfl rfl ⟨rfl, rfl⟩
end Go.Proofs.Yteikpddilabppaa
