/- DeadDoes: for every Block, Core and list of answers, understudylaw19.DeadDoes answers true and its arguments read behind the call as before; no condition. -/
import Derived.Test.YtmbnakinhnkabaaZde
namespace Go.Proofs.Ytmbnakinhnkabaa
open Go.AM
set_option maxRecDepth 100000
set_option linter.unusedSimpArgs false
set_option linter.unusedVariables false
inductive Loc where
  | X (r : Nat)
  | SP
  | F (r : Nat)
  | PC
def Loc.op : Loc → OpS
  | .X r => ⟨3, r, 0, 0, 0, 0⟩
  | .SP => ⟨5, 0, 0, 0, 0, 0⟩
  | .F r => ⟨7, r, 0, 0, 0, 0⟩
  | .PC => ⟨14, 0, 0, 0, 0, 0⟩
def Loc.ok : Loc → Prop
  | .X r => r < 31
  | .F r => r < 4
  | _ => True
def Loc.eq (e : Nat) (c d : CoreS) : Loc → Prop
  | .X r => c.x r = d.x r
  | .SP => c.sp e = d.sp e
  | .F r => flagG c r = flagG d r
  | .PC => c.pc = d.pc
structure RestEq (e : Nat) (c d : CoreS) : Prop where
  sp : ∀ i, i < 2 → i ≠ e → c.sp i = d.sp i
  el : c.el = d.el
  mask : c.mask = d.mask
  q0 : c.q0 = d.q0
  q1 : c.q1 = d.q1
  q2 : c.q2 = d.q2
  q3 : c.q3 = d.q3
  q4 : c.q4 = d.q4
  q5 : c.q5 = d.q5
  id : c.id = d.id
  wait : c.wait = d.wait
  last : c.last = d.last
def hidL (b : BlkS) (k : Nat) (l : Loc) : Bool := hidF b.f l.op (b.n - k) k
structure CoreRel (b : BlkS) (k : Nat) (c d : CoreS) : Prop where
  rest : RestEq b.el.toNat c d
  loc : ∀ l : Loc, l.ok → l.eq b.el.toNat c d ∨ hidL b k l = true
structure CoreEq (e : Nat) (c d : CoreS) : Prop where
  rest : RestEq e c d
  loc : ∀ l : Loc, l.ok → l.eq e c d
theorem CoreEq.rel {b : BlkS} {c d : CoreS} (h : CoreEq b.el.toNat c d) (k : Nat) : CoreRel b k c d := ⟨h.rest, fun l hl => .inl (h.loc l hl)⟩
theorem hid_step {b : BlkS} {k : Nat} (hk : k < b.n) (l : Loc) (h : hidL b k l = true) : (sameS l.op (b.f k)).2 = false ∧ leaveS (b.f k).kind = false ∧ ((sameS l.op (b.f k)).1 = true ∨ hidL b (k + 1) l = true) := by
  unfold hidL at h ⊢
  rw [show b.n - k = (b.n - (k + 1)) + 1 by omega] at h
  simp only [hidF] at h
  split at h
  · cases h
  · rename_i h1
    simp only [Bool.or_eq_true, not_or, Bool.not_eq_true] at h1
    split at h
    · rename_i h2; exact ⟨h1.1, h1.2, .inl h2⟩
    · exact ⟨h1.1, h1.2, .inr h⟩
theorem CoreRel.leave {b : BlkS} {k : Nat} {c d : CoreS} (h : CoreRel b k c d) (hk : k < b.n) (hl : leaveS (b.f k).kind = true) : CoreEq b.el.toNat c d :=
  ⟨h.rest, fun l hok => (h.loc l hok).resolve_right fun hh => by rw [(hid_step hk l hh).2.1] at hl; cases hl⟩
theorem CoreRel.get {b : BlkS} {k : Nat} {c d : CoreS} (h : CoreRel b k c d) (hk : k < b.n) (l : Loc) (hok : l.ok) (hg : (sameS l.op (b.f k)).2 = true) : l.eq b.el.toNat c d :=
  (h.loc l hok).resolve_right fun hh => by rw [(hid_step hk l hh).1] at hg; cases hg
theorem CoreRel.next {b : BlkS} {k : Nat} {c d c' d' : CoreS} (h : CoreRel b k c d) (hk : k < b.n) (hr : RestEq b.el.toNat c' d')
    (hl : ∀ l : Loc, l.ok → l.eq b.el.toNat c d → l.eq b.el.toNat c' d' ∨ hidL b (k + 1) l = true) (hs : ∀ l : Loc, l.ok → (sameS l.op (b.f k)).1 = true → l.eq b.el.toNat c' d' ∨ hidL b (k + 1) l = true) : CoreRel b (k + 1) c' d' := by
  refine ⟨hr, fun l hok => ?_⟩
  rcases h.loc l hok with h1 | h1
  · exact hl l hok h1
  · rcases (hid_step hk l h1).2.2 with h2 | h2
    · exact hs l hok h2
    · exact .inr h2
theorem same_set {l : Loc} {o : OpS} (h : (sameS l.op o).1 = true) : o.kind = l.op.kind ∧ o.r = l.op.r := by
  by_cases hr : l.op.r = o.r
  · unfold sameS at h
    rw [if_neg (by simp [hr])] at h
    refine ⟨?_, hr.symm⟩
    cases l <;> (simp only [Loc.op] at h ⊢; simpa using h)
  · have e : sameS l.op o = (false, false) := by unfold sameS; rw [if_pos (by simpa using hr)]
    rw [e] at h
    cases h
theorem no_set {o : OpS} (h : o.kind ≠ 3 ∧ o.kind ≠ 5 ∧ o.kind ≠ 7 ∧ o.kind ≠ 14) (l : Loc) : (sameS l.op o).1 = false := by
  cases hh : (sameS l.op o).1 with
  | false => rfl
  | true =>
    have := (same_set hh).1
    cases l <;> simp only [Loc.op] at this <;> omega
theorem CoreRel.skip {b : BlkS} {k : Nat} {c d : CoreS} (h : CoreRel b k c d) (hk : k < b.n) (hn : (b.f k).kind ≠ 3 ∧ (b.f k).kind ≠ 5 ∧ (b.f k).kind ≠ 7 ∧ (b.f k).kind ≠ 14) : CoreRel b (k + 1) c d :=
  h.next hk h.rest (fun l _ e => .inl e) (fun l _ hs => by rw [no_set hn l] at hs; cases hs)
def setC (e : Nat) (l : Loc) (v : Int) (c : CoreS) : CoreS := match l with
  | .X r => { c with x := updI c.x r v }
  | .SP => { c with sp := updI c.sp e v }
  | .F r => flagS c r (v != 0)
  | .PC => { c with pc := v }
theorem four_cases {r : Nat} (h : r < 4) : r = 0 ∨ r = 1 ∨ r = 2 ∨ r = 3 := by omega
theorem flag_set {c : CoreS} {r : Nat} (h : r < 4) (b : Bool) : flagG (flagS c r b) r = b := by
  rcases four_cases h with rfl | rfl | rfl | rfl <;> rfl
theorem flag_other {c : CoreS} {r r' : Nat} (h : r < 4) (h' : r' < 4) (hn : r' ≠ r) (b : Bool) : flagG (flagS c r b) r' = flagG c r' := by
  rcases four_cases h with rfl | rfl | rfl | rfl <;> rcases four_cases h' with rfl | rfl | rfl | rfl <;> first | rfl | exact absurd rfl hn
theorem flagS_pc (c : CoreS) (r : Int) (b : Bool) : (flagS c r b).pc = c.pc := by
  unfold flagS
  repeat' split
  all_goals rfl
theorem flagS_rest (e : Nat) (c : CoreS) (r : Int) (b : Bool) : RestEq e (flagS c r b) c := by
  unfold flagS
  repeat' split
  all_goals exact ⟨fun _ _ _ => rfl, rfl, rfl, rfl, rfl, rfl, rfl, rfl, rfl, rfl, rfl, rfl⟩
theorem RestEq.trans {e : Nat} {c d f : CoreS} (h : RestEq e c d) (k : RestEq e d f) : RestEq e c f :=
  ⟨fun i hi hn => (h.sp i hi hn).trans (k.sp i hi hn), h.el.trans k.el, h.mask.trans k.mask, h.q0.trans k.q0, h.q1.trans k.q1, h.q2.trans k.q2, h.q3.trans k.q3, h.q4.trans k.q4, h.q5.trans k.q5, h.id.trans k.id, h.wait.trans k.wait, h.last.trans k.last⟩
theorem RestEq.symm {e : Nat} {c d : CoreS} (h : RestEq e c d) : RestEq e d c :=
  ⟨fun i hi hn => (h.sp i hi hn).symm, h.el.symm, h.mask.symm, h.q0.symm, h.q1.symm, h.q2.symm, h.q3.symm, h.q4.symm, h.q5.symm, h.id.symm, h.wait.symm, h.last.symm⟩
theorem set_rest (e : Nat) (l : Loc) (v : Int) (c : CoreS) : RestEq e (setC e l v c) c := by
  cases l with
  | F r => exact flagS_rest e c r _
  | SP => exact ⟨fun i _ hn => by show updI c.sp e v i = c.sp i; unfold updI; rw [if_neg hn], rfl, rfl, rfl, rfl, rfl, rfl, rfl, rfl, rfl, rfl, rfl⟩
  | _ => exact ⟨fun _ _ _ => rfl, rfl, rfl, rfl, rfl, rfl, rfl, rfl, rfl, rfl, rfl, rfl⟩
theorem set_at (e : Nat) {l : Loc} (hl : l.ok) (v : Int) (c d : CoreS) : l.eq e (setC e l v c) (setC e l v d) := by
  cases l with
  | X r => show updI c.x r v r = updI d.x r v r; unfold updI; rw [if_pos rfl, if_pos rfl]
  | SP => show updI c.sp e v e = updI d.sp e v e; unfold updI; rw [if_pos rfl, if_pos rfl]
  | F r => show flagG (flagS c r _) r = flagG (flagS d r _) r; rw [flag_set hl, flag_set hl]
  | PC => rfl
theorem set_no (e : Nat) {l m : Loc} (hl : l.ok) (hm : m.ok) (hn : m ≠ l) (v : Int) (c : CoreS) : m.eq e (setC e l v c) c := by
  cases l with
  | X r =>
    cases m with
    | X q =>
      show updI c.x r v q = c.x q
      unfold updI
      rw [if_neg fun h => hn (by rw [h])]
    | F q => show flagG _ _ = _; unfold flagG; rfl
    | _ => rfl
  | SP =>
    cases m with
    | SP => exact absurd rfl hn
    | F q => show flagG _ _ = _; unfold flagG; rfl
    | _ => rfl
  | F r =>
    cases m with
    | X q => show (flagS c r _).x q = c.x q; rw [(flagS_x c r _).1]
    | SP => show (flagS c r _).sp e = c.sp e; rw [(flagS_x c r _).2]
    | F q => exact flag_other hl hm (fun h => hn (by rw [h])) _
    | PC => exact flagS_pc c r _
  | PC =>
    cases m with
    | PC => exact absurd rfl hn
    | F q => show flagG _ _ = _; unfold flagG; rfl
    | _ => rfl
theorem Loc.eq_trans {e : Nat} {c d f : CoreS} : ∀ {l : Loc}, l.eq e c d → l.eq e d f → l.eq e c f
  | .X _, h, k => Eq.trans h k
  | .SP, h, k => Eq.trans h k
  | .F _, h, k => Eq.trans h k
  | .PC, h, k => Eq.trans h k
theorem Loc.eq_symm {e : Nat} {c d : CoreS} : ∀ {l : Loc}, l.eq e c d → l.eq e d c
  | .X _, h => Eq.symm h
  | .SP, h => Eq.symm h
  | .F _, h => Eq.symm h
  | .PC, h => Eq.symm h
theorem op_inj {l m : Loc} (h : l.op.kind = m.op.kind) (hr : l.op.r = m.op.r) : l = m := by
  cases l <;> cases m <;> simp only [Loc.op] at h hr <;> first | rfl | (exfalso; omega) | (congr 1; omega)
theorem hidF_op {f : Nat → OpS} {o o' : OpS} (hk : o.kind = o'.kind) (hr : o.r = o'.r) : ∀ {c j : Nat}, hidF f o c j = hidF f o' c j
  | 0, _ => rfl
  | c + 1, j => by
    have e : sameS o (f j) = sameS o' (f j) := by unfold sameS; rw [hk, hr]
    simp only [hidF]
    rw [e, hidF_op hk hr (c := c) (j := j + 1)]
theorem hid_loc {b : BlkS} {k : Nat} {l : Loc} (hk : (b.f k).kind = l.op.kind) (hr : (b.f k).r = l.op.r) : hidL b (k + 1) l = hidAt b.f b.n k := by
  unfold hidL hidAt
  rw [hidF_op hk.symm hr.symm, show b.n - (k + 1) = b.n - k - 1 by omega]
theorem CoreRel.set2 {b : BlkS} {k : Nat} {c d : CoreS} (h : CoreRel b k c d) (hk : k < b.n) {l : Loc} (hl : l.ok) (h1 : (b.f k).kind = l.op.kind) (h2 : (b.f k).r = l.op.r) (v : Int) : CoreRel b (k + 1) (setC b.el.toNat l v c) (setC b.el.toNat l v d) := by
  refine h.next hk (((set_rest _ l v c).trans h.rest).trans (set_rest _ l v d).symm) (fun m hm e => ?_) (fun m hm hs => ?_)
  · by_cases hml : m = l
    · subst hml; exact .inl (set_at _ hl v c d)
    · exact .inl (Loc.eq_trans (Loc.eq_trans (set_no _ hl hm hml v c) e) (Loc.eq_symm (set_no _ hl hm hml v d)))
  · have := same_set hs
    have hml : m = l := op_inj (this.1.symm.trans h1) (this.2.symm.trans h2)
    subst hml
    exact .inl (set_at _ hl v c d)
theorem CoreRel.set1 {b : BlkS} {k : Nat} {c d : CoreS} (h : CoreRel b k c d) (hk : k < b.n) {l : Loc} (hl : l.ok) (h1 : (b.f k).kind = l.op.kind) (h2 : (b.f k).r = l.op.r) (hh : hidAt b.f b.n k = true) (v : Int) : CoreRel b (k + 1) (setC b.el.toNat l v c) d := by
  have hid : hidL b (k + 1) l = true := by rw [hid_loc h1 h2]; exact hh
  refine h.next hk ((set_rest _ l v c).trans h.rest) (fun m hm e => ?_) (fun m hm hs => ?_)
  · by_cases hml : m = l
    · subst hml; exact .inr hid
    · exact .inl (Loc.eq_trans (set_no _ hl hm hml v c) e)
  · have := same_set hs
    have hml : m = l := op_inj (this.1.symm.trans h1) (this.2.symm.trans h2)
    subst hml
    exact .inr hid
end Go.Proofs.Ytmbnakinhnkabaa

namespace Go.Proofs.Ytmbnakinhnkabaa
open Go.AM
set_option maxRecDepth 100000
set_option linter.unusedSimpArgs false
set_option linter.unusedVariables false
theorem ren_wf {g : Nat → Bool} {o : OpS} {k : Nat} (hk : k ≤ 512) (h : OpWf o) (ha : 0 < usesS o.kind → o.a.toNat ≤ k) (hb : 1 < usesS o.kind → o.b.toNat ≤ k) : OpWf (renS g o) := by
  refine ⟨h.kind, h.r, ?_, ?_, h.order, h.imm⟩
  · show _ ≤ (if 0 < usesS o.kind then (cnt g o.a.toNat : Int) else o.a) ∧ (if 0 < usesS o.kind then (cnt g o.a.toNat : Int) else o.a) ≤ _
    split
    · rename_i h0
      have h1 := cnt_le g o.a.toNat
      have h2 := ha h0
      omega
    · exact h.a
  · show _ ≤ (if 1 < usesS o.kind then (cnt g o.b.toNat : Int) else o.b) ∧ (if 1 < usesS o.kind then (cnt g o.b.toNat : Int) else o.b) ≤ _
    split
    · rename_i h0
      have h1 := cnt_le g o.b.toNat
      have h2 := hb h0
      omega
    · exact h.b
theorem withS_f {b : BlkS} {k : Nat} (hk : k < b.n) (hs : seenS b k = true) : (withS b).f (cnt (seenS b) k) = renS (seenS b) (b.f k) := newF_at hk hs
theorem with_wf {b : BlkS} (hr : rightS b = true) (hw : BlkWf b) : BlkWf (withS b) := by
  have hn := right_n hr
  refine ⟨hw.pc, hw.words, hw.el, fun i hi => ?_⟩
  obtain ⟨k, hk, hs, rfl⟩ := cnt_inv hi
  rw [withS_f hk hs]
  refine ren_wf (k := 512) (Nat.le_refl _) (hw.ops k hk) (fun h => ?_) (fun h => ?_)
  · obtain ⟨h1, h2, _⟩ := right_use hr hk (i := 0) h
    have e : useF (b.f k) 0 = (b.f k).a := rfl
    rw [e] at h1 h2
    omega
  · obtain ⟨h1, h2, _⟩ := right_use hr hk (i := 1) h
    have e : useF (b.f k) 1 = (b.f k).b := rfl
    rw [e] at h1 h2
    omega
structure Mid (b : BlkS) (x y : RS) : Prop where
  xb : x.b = b
  yb : y.b = withS b
  okx : RunOk x
  oky : RunOk y
  waits : y.waits = x.waits
  want : x.waits = true → y.want = x.want
  left : y.left = x.left
  fal : y.faulted = x.faulted
  gst : y.guest = x.guest
  wrd : y.word = x.word
  fin : x.left = true → CoreEq b.el.toNat x.core y.core
  fen : x.waits = true → x.want.kind ≠ 6 → CoreEq b.el.toNat x.core y.core
  pos : x.left = false → y.pos = cnt (seenS b) x.pos
  core : x.left = false → CoreRel b x.pos x.core y.core
  vals : x.left = false → ∀ i, i < x.pos → seenS b i = true → defS (b.f i).kind = true → (x.waits = true ∧ i + 1 = x.pos) ∨ y.vs (cnt (seenS b) i) = x.vs i
  last : x.waits = true → x.left = false ∧ 1 ≤ x.pos ∧ seenS b (x.pos - 1) = true ∧ ((accS (b.f (x.pos - 1)).kind = true ∧ x.want.kind ≠ 6) ∨ (b.f (x.pos - 1)).kind = 13)
section
variable {b : BlkS} {x y : RS}
theorem Mid.k (h : Mid b x y) (hl : x.left = false) : x.pos < b.n := by have := h.okx.go hl; rw [h.xb] at this; exact this
theorem Mid.val (h : Mid b x y) (hl : x.left = false) (hw : x.waits = false) {i : Nat} (hi : i < x.pos) (hs : seenS b i = true) (hd : defS (b.f i).kind = true) : y.vs (cnt (seenS b) i) = x.vs i :=
  (h.vals hl i hi hs hd).resolve_left fun h => by rw [hw] at h; cases h.1
theorem Mid.useA (h : Mid b x y) (hl : x.left = false) (hw : x.waits = false) (hs : seenS b x.pos = true) (hu : 0 < usesS (b.f x.pos).kind) : y.vs (renS (seenS b) (b.f x.pos)).a.toNat = x.vs (b.f x.pos).a.toNat := by
  have hr : rightS b = true := by rw [← h.xb]; exact h.okx.hr
  have hk := h.k hl
  obtain ⟨h1, h2, h3⟩ := right_use hr hk (i := 0) hu
  have e : useF (b.f x.pos) 0 = (b.f x.pos).a := rfl
  rw [e] at h1 h2 h3
  have e2 : (renS (seenS b) (b.f x.pos)).a = (cnt (seenS b) (b.f x.pos).a.toNat : Int) := by unfold renS; simp only []; rw [if_pos hu]
  rw [e2, Int.toNat_natCast]
  exact h.val hl hw (by omega) (seen_use hr hk hs (j := 0) hu) h3
theorem Mid.useB (h : Mid b x y) (hl : x.left = false) (hw : x.waits = false) (hs : seenS b x.pos = true) (hu : 1 < usesS (b.f x.pos).kind) : y.vs (renS (seenS b) (b.f x.pos)).b.toNat = x.vs (b.f x.pos).b.toNat := by
  have hr : rightS b = true := by rw [← h.xb]; exact h.okx.hr
  have hk := h.k hl
  obtain ⟨h1, h2, h3⟩ := right_use hr hk (i := 1) hu
  have e : useF (b.f x.pos) 1 = (b.f x.pos).b := rfl
  rw [e] at h1 h2 h3
  have e2 : (renS (seenS b) (b.f x.pos)).b = (cnt (seenS b) (b.f x.pos).b.toNat : Int) := by unfold renS; simp only []; rw [if_pos hu]
  rw [e2, Int.toNat_natCast]
  exact h.val hl hw (by omega) (seen_use hr hk hs (j := 1) hu) h3
theorem Mid.cnt1 (hs : seenS b x.pos = true) : cnt (seenS b) (x.pos + 1) = cnt (seenS b) x.pos + 1 := by simp only [cnt, hs, if_true]
theorem Mid.def (h : Mid b x y) (hl : x.left = false) (hw : x.waits = false) (hs : seenS b x.pos = true) (hn : (b.f x.pos).kind ≠ 3 ∧ (b.f x.pos).kind ≠ 5 ∧ (b.f x.pos).kind ≠ 7 ∧ (b.f x.pos).kind ≠ 14) (v : Int)
    (okx : RunOk (setV (nxt x) x.pos v)) (oky : RunOk (setV (nxt y) y.pos v)) : Mid b (setV (nxt x) x.pos v) (setV (nxt y) y.pos v) := by
  have hk := h.k hl
  refine ⟨h.xb, h.yb, okx, oky, h.waits, h.want, h.left, h.fal, h.gst, h.wrd, h.fin, h.fen, fun _ => ?_, fun _ => (h.core hl).skip hk hn, fun _ i hi hsi hd => .inr ?_, fun hw' => ?_⟩
  · show y.pos + 1 = cnt (seenS b) (x.pos + 1)
    rw [Mid.cnt1 hs, h.pos hl]
  · show updI y.vs y.pos v (cnt (seenS b) i) = updI x.vs x.pos v i
    unfold updI
    by_cases e : i = x.pos
    · subst e
      rw [if_pos rfl, if_pos (h.pos hl).symm]
    · have hi' : i < x.pos := by have : i < x.pos + 1 := hi; omega
      have hc := cnt_lt (seenS b) hi' hsi
      rw [if_neg e, if_neg (by rw [h.pos hl]; omega)]
      exact h.val hl hw hi' hsi hd
  · have : x.waits = true := hw'
    rw [hw] at this; cases this
theorem Mid.ofLeft {x1 y1 : RS} (xb : x1.b = b) (yb : y1.b = withS b) (okx : RunOk x1) (oky : RunOk y1) (wx : x1.waits = false) (wy : y1.waits = false) (lx : x1.left = true) (ly : y1.left = true) (fal : y1.faulted = x1.faulted) (gst : y1.guest = x1.guest) (wrd : y1.word = x1.word) (hc : CoreEq b.el.toNat x1.core y1.core) : Mid b x1 y1 :=
  ⟨xb, yb, okx, oky, by rw [wx, wy], fun h => by (rw [wx] at h; cases h), by rw [lx, ly], fal, gst, wrd, fun _ => hc, fun h => by (rw [wx] at h; cases h), fun h => by (rw [lx] at h; cases h), fun h => by (rw [lx] at h; cases h), fun h => by (rw [lx] at h; cases h), fun h => by (rw [wx] at h; cases h)⟩
theorem Mid.ofWait (h : Mid b x y) (hl : x.left = false) (hw : x.waits = false) (hs : seenS b x.pos = true) (w : WantS) (hn : (b.f x.pos).kind ≠ 3 ∧ (b.f x.pos).kind ≠ 5 ∧ (b.f x.pos).kind ≠ 7 ∧ (b.f x.pos).kind ≠ 14) (hf : w.kind ≠ 6 → CoreEq b.el.toNat x.core y.core) (hla : (accS (b.f x.pos).kind = true ∧ w.kind ≠ 6) ∨ (b.f x.pos).kind = 13)
    (okx : RunOk (waitS (nxt x) w)) (oky : RunOk (waitS (nxt y) w)) : Mid b (waitS (nxt x) w) (waitS (nxt y) w) := by
  have hk := h.k hl
  refine ⟨h.xb, h.yb, okx, oky, rfl, fun _ => rfl, h.left, h.fal, h.gst, h.wrd, h.fin, fun _ => hf, fun _ => ?_, fun _ => (h.core hl).skip hk hn, fun _ i hi hsi hd => ?_, fun _ => ⟨hl, Nat.succ_le_succ (Nat.zero_le _), hs, hla⟩⟩
  · show y.pos + 1 = cnt (seenS b) (x.pos + 1)
    rw [Mid.cnt1 hs, h.pos hl]
  · by_cases e : i = x.pos
    · subst e; exact .inl ⟨rfl, rfl⟩
    · have hi' : i < x.pos := by have : i < x.pos + 1 := hi; omega
      exact .inr (h.val hl hw hi' hsi hd)
theorem Mid.ofGo (h : Mid b x y) (hl : x.left = false) (hw : x.waits = false) (hs : seenS b x.pos = true) (hd0 : defS (b.f x.pos).kind = false) (c d : CoreS) (hc : CoreRel b (x.pos + 1) c d)
    (okx : RunOk { nxt x with core := c }) (oky : RunOk { nxt y with core := d }) : Mid b { nxt x with core := c } { nxt y with core := d } := by
  refine ⟨h.xb, h.yb, okx, oky, h.waits, h.want, h.left, h.fal, h.gst, h.wrd, fun h' => ?_, fun h' => ?_, fun _ => ?_, fun _ => hc, fun _ i hi hsi hd => .inr ?_, fun h' => ?_⟩
  · have : x.left = true := h'
    rw [hl] at this; cases this
  · have : x.waits = true := h'
    rw [hw] at this; cases this
  · show y.pos + 1 = cnt (seenS b) (x.pos + 1)
    rw [Mid.cnt1 hs, h.pos hl]
  · have e : i ≠ x.pos := fun e => by subst e; rw [hd0] at hd; cases hd
    have hi' : i < x.pos := by have : i < x.pos + 1 := hi; omega
    exact h.val hl hw hi' hsi hd
  · have : x.waits = true := h'
    rw [hw] at this; cases this
theorem Mid.un (h : Mid b x y) (hl : x.left = false) (hw : x.waits = false) (hs : seenS b x.pos = false) : Mid b (oneS x (b.f x.pos)) y ∧ (oneS x (b.f x.pos)).waits = false := by
  have hxb := h.xb
  subst hxb
  have hr : rightS x.b = true := h.okx.hr
  have hk := h.k hl
  have ok1 : RunOk (oneS x (x.b.f x.pos)) := h.okx.one hl
  have hfit := h.okx.fit hl
  have hcnt : cnt (seenS x.b) (x.pos + 1) = cnt (seenS x.b) x.pos := by simp only [cnt, hs, Bool.false_eq_true, if_false, Nat.add_zero]
  have hmk : mark1 x.b.f x.b.n x.pos (markN x.b.f x.b.n (fun _ => false) (x.b.n - 1 - x.pos)) x.pos = false := by rw [← seen_at hr hk]; exact hs
  -- it goes on with values or a core of its own
  have fin : ∀ x1 : RS, x1.b = x.b → x1.waits = x.waits → x1.want = x.want → x1.left = x.left → x1.faulted = x.faulted → x1.guest = x.guest → x1.word = x.word → x1.pos = x.pos + 1 → (∀ i, i < x.pos → x1.vs i = x.vs i) → CoreRel x.b (x.pos + 1) x1.core y.core → RunOk x1 → Mid x.b x1 y ∧ x1.waits = false := by
    intro x1 e1 e2 e3 e4 e5 e6 e7 e8 e9 e10 e11
    refine ⟨⟨e1, h.yb, e11, h.oky, by rw [e2]; exact h.waits, fun h' => ?_, by rw [e4]; exact h.left, by rw [e5]; exact h.fal, by rw [e6]; exact h.gst, by rw [e7]; exact h.wrd, fun h' => ?_, fun h' => ?_, fun _ => ?_, fun _ => by rw [e8]; exact e10, fun _ i hi hsi hd => .inr ?_, fun h' => ?_⟩, by rw [e2]; exact hw⟩
    · rw [e2, hw] at h'; cases h'
    · rw [e4, hl] at h'; cases h'
    · rw [e2, hw] at h'; cases h'
    · rw [e8, hcnt]; exact h.pos hl
    · rw [e8] at hi
      have e : i ≠ x.pos := fun e => by subst e; rw [hs] at hsi; cases hsi
      have hi' : i < x.pos := by omega
      rw [e9 i hi']
      exact h.val hl hw hi' hsi hd
    · rw [e2, hw] at h'; cases h'
  have upd_lt : ∀ (v : Int) i, i < x.pos → updI x.vs x.pos v i = x.vs i := fun v i hi => by unfold updI; rw [if_neg (by omega)]
  unfold mark1 upd at hmk
  rw [if_pos rfl] at hmk
  split at hmk
  · rename_i h14
    have hkd : (x.b.f x.pos).kind = 14 := by simpa using h14
    simp only [Bool.or_eq_false_iff, Bool.not_eq_false'] at hmk
    have ex : oneS x (x.b.f x.pos) = pcR (nxt x) (x.b.f x.pos).imm := by simp only [oneS, hkd, Int.reduceEq, if_true, if_false, reduceIte]
    rw [ex] at ok1 ⊢
    exact fin _ rfl rfl rfl rfl rfl rfl rfl rfl (fun _ _ => rfl) ((h.core hl).set1 hk (l := .PC) trivial hkd (right_r hr hk (by rw [hkd]; decide)) hmk.2 _) ok1
  · split at hmk
    · rename_i h357
      have hid : hidAt x.b.f x.b.n x.pos = true := by simpa using hmk
      simp only [Bool.or_eq_true, beq_iff_eq] at h357
      rcases h357 with (hd | hd) | hd
      · have hkd : (x.b.f x.pos).kind = 3 := hd
        have hrr := hfit.x (.inr hkd)
        have ex : oneS x (x.b.f x.pos) = { nxt x with core := setC x.b.el.toNat (.X (x.b.f x.pos).r.toNat) (x.vs (x.b.f x.pos).a.toNat) x.core } := by simp only [oneS, hkd, Int.reduceEq, if_true, if_false, reduceIte]; rfl
        rw [ex] at ok1 ⊢
        exact fin _ rfl rfl rfl rfl rfl rfl rfl rfl (fun _ _ => rfl) ((h.core hl).set1 hk (l := .X (x.b.f x.pos).r.toNat) (by show _ < 31; omega) hkd (by show _ = ((x.b.f x.pos).r.toNat : Int); omega) hid _) ok1
      · have hkd : (x.b.f x.pos).kind = 5 := hd
        have ex : oneS x (x.b.f x.pos) = { nxt x with core := setC x.b.el.toNat .SP (x.vs (x.b.f x.pos).a.toNat) x.core } := by simp only [oneS, hkd, Int.reduceEq, if_true, if_false, reduceIte]; rfl
        rw [ex] at ok1 ⊢
        exact fin _ rfl rfl rfl rfl rfl rfl rfl rfl (fun _ _ => rfl) ((h.core hl).set1 hk (l := .SP) trivial hkd (right_r hr hk (by rw [hkd]; decide)) hid _) ok1
      · have hkd : (x.b.f x.pos).kind = 7 := hd
        have hrr : 0 ≤ (x.b.f x.pos).r ∧ (x.b.f x.pos).r ≤ 3 := by have := (ropS_ab (opsOk_at (right_ops hr) hk).1).2.2; simpa [rightF, hkd, upS] using this
        have e : ((x.b.f x.pos).r.toNat : Int) = (x.b.f x.pos).r := by omega
        have ex : oneS x (x.b.f x.pos) = { nxt x with core := setC x.b.el.toNat (.F (x.b.f x.pos).r.toNat) (x.vs (x.b.f x.pos).a.toNat) x.core } := by simp only [oneS, hkd, Int.reduceEq, if_true, if_false, reduceIte, setC, e]
        rw [ex] at ok1 ⊢
        exact fin _ rfl rfl rfl rfl rfl rfl rfl rfl (fun _ _ => rfl) ((h.core hl).set1 hk (l := .F (x.b.f x.pos).r.toNat) (by show _ < 4; omega) hkd e.symm hid _) ok1
    · simp only [Bool.or_eq_false_iff, Bool.not_eq_false'] at hmk
      have hdf := hmk.1.2
      have hlv := hmk.2
      unfold defS at hdf
      simp only [Bool.or_eq_true, beq_iff_eq] at hdf
      rcases hdf with ((((((hd | hd) | hd) | hd) | hd) | hd) | hd) | hd
      · have hkd : (x.b.f x.pos).kind = 1 := hd
        have ex : oneS x (x.b.f x.pos) = setV (nxt x) x.pos ((x.b.f x.pos).imm) := by simp only [oneS, hkd, Int.reduceEq, if_true, if_false, reduceIte]
        rw [ex] at ok1 ⊢
        exact fin _ rfl rfl rfl rfl rfl rfl rfl rfl (upd_lt _) ((h.core hl).skip hk (by rw [hkd]; decide)) ok1
      · have hkd : (x.b.f x.pos).kind = 2 := hd
        have ex : oneS x (x.b.f x.pos) = setV (nxt x) x.pos (x.core.x (x.b.f x.pos).r.toNat) := by simp only [oneS, hkd, Int.reduceEq, if_true, if_false, reduceIte]
        rw [ex] at ok1 ⊢
        exact fin _ rfl rfl rfl rfl rfl rfl rfl rfl (upd_lt _) ((h.core hl).skip hk (by rw [hkd]; decide)) ok1
      · have hkd : (x.b.f x.pos).kind = 4 := hd
        have ex : oneS x (x.b.f x.pos) = setV (nxt x) x.pos (x.core.sp x.b.el.toNat) := by simp only [oneS, hkd, Int.reduceEq, if_true, if_false, reduceIte]
        rw [ex] at ok1 ⊢
        exact fin _ rfl rfl rfl rfl rfl rfl rfl rfl (upd_lt _) ((h.core hl).skip hk (by rw [hkd]; decide)) ok1
      · have hkd : (x.b.f x.pos).kind = 6 := hd
        have ex : oneS x (x.b.f x.pos) = setV (nxt x) x.pos (if flagG x.core (x.b.f x.pos).r = true then 1 else 0) := by simp only [oneS, hkd, Int.reduceEq, if_true, if_false, reduceIte]
        rw [ex] at ok1 ⊢
        exact fin _ rfl rfl rfl rfl rfl rfl rfl rfl (upd_lt _) ((h.core hl).skip hk (by rw [hkd]; decide)) ok1
      · have hkd : (x.b.f x.pos).kind = 8 := hd
        have ex : oneS x (x.b.f x.pos) = setV (nxt x) x.pos ((refR (x.b.f x.pos).r (x.vs (x.b.f x.pos).a.toNat) (x.vs (x.b.f x.pos).b.toNat)).1) := by simp only [oneS, hkd, Int.reduceEq, if_true, if_false, reduceIte]
        rw [ex] at ok1 ⊢
        exact fin _ rfl rfl rfl rfl rfl rfl rfl rfl (upd_lt _) ((h.core hl).skip hk (by rw [hkd]; decide)) ok1
      all_goals (rw [hd] at hlv; exact absurd hlv (by decide))
end
end Go.Proofs.Ytmbnakinhnkabaa

namespace Go.Proofs.Ytmbnakinhnkabaa
open Go.AM
set_option maxRecDepth 100000
set_option linter.unusedSimpArgs false
set_option linter.unusedVariables false
theorem CoreEq.pc {e : Nat} {c d : CoreS} (h : CoreEq e c d) (v : Int) : CoreEq e { c with pc := v } { d with pc := v } :=
  ⟨⟨h.rest.sp, h.rest.el, h.rest.mask, h.rest.q0, h.rest.q1, h.rest.q2, h.rest.q3, h.rest.q4, h.rest.q5, h.rest.id, h.rest.wait, h.rest.last⟩, fun l hl => by
    cases l with
    | PC => rfl
    | X r => exact h.loc (.X r) hl
    | SP => exact h.loc .SP hl
    | F r => exact h.loc (.F r) hl⟩
theorem wantA_kind (o : OpS) (a b : Int) : (wantA o a b).kind ≠ 6 := by
  show (fun w : WantS => w.kind ≠ 6) (wantA o a b)
  unfold wantA
  repeat' (first | exact (by decide : (1 : Int) ≠ 6) | exact (by decide : (2 : Int) ≠ 6) | exact (by decide : (3 : Int) ≠ 6) | exact (by decide : (4 : Int) ≠ 6) | refine ite_P (P := fun w : WantS => w.kind ≠ 6) ?_ ?_)
theorem Mid.seen {b : BlkS} {x y : RS} (h : Mid b x y) (hl : x.left = false) (hw : x.waits = false) (hs : seenS b x.pos = true) : Mid b (oneS x (b.f x.pos)) (oneS y (renS (seenS b) (b.f x.pos))) ∧ y.b.f y.pos = renS (seenS b) (b.f x.pos) := by
  have hxb := h.xb
  subst hxb
  have hr : rightS x.b = true := h.okx.hr
  have hk := h.k hl
  have ok1 : RunOk (oneS x (x.b.f x.pos)) := h.okx.one hl
  have hyl : y.left = false := by rw [h.left]; exact hl
  have hyw : y.waits = false := by rw [h.waits]; exact hw
  have hyo : y.b.f y.pos = renS (seenS x.b) (x.b.f x.pos) := by rw [h.yb, h.pos hl]; exact withS_f hk hs
  have ok2 : RunOk (oneS y (renS (seenS x.b) (x.b.f x.pos))) := by have := h.oky.one hyl; rw [hyo] at this; exact this
  have hel : y.b.el = x.b.el := by rw [h.yb]; rfl
  have hfit := h.okx.fit hl
  have hA := h.useA hl hw hs
  have hB := h.useB hl hw hs
  have hcr := h.core hl
  refine ⟨?_, hyo⟩
  have hrF : rightF (x.b.f x.pos) = true := (ropS_ab (opsOk_at (right_ops hr) hk).1).2.2
  have hr0 : hasR (x.b.f x.pos).kind = false → (x.b.f x.pos).r = 0 := right_r hr hk
  by_cases h1 : (x.b.f x.pos).kind = 1
  · have hkd : (renS (seenS x.b) (x.b.f x.pos)).kind = 1 := h1
    have ex : oneS x (x.b.f x.pos) = setV (nxt x) x.pos (x.b.f x.pos).imm := by simp only [oneS, h1, Int.reduceEq, if_true, if_false, reduceIte]; try rfl
    have ey : oneS y (renS (seenS x.b) (x.b.f x.pos)) = setV (nxt y) y.pos (x.b.f x.pos).imm := by simp only [oneS, hkd, Int.reduceEq, if_true, if_false, reduceIte]; try rfl
    rw [ex] at ok1 ⊢
    rw [ey] at ok2 ⊢
    exact h.def hl hw hs (by rw [h1]; decide) _ ok1 ok2
  by_cases h2 : (x.b.f x.pos).kind = 2
  · have hkd : (renS (seenS x.b) (x.b.f x.pos)).kind = 2 := h2
    have hrr := hfit.x (.inl h2)
    have e : ((x.b.f x.pos).r.toNat : Int) = (x.b.f x.pos).r := by omega
    have hg : x.core.x (x.b.f x.pos).r.toNat = y.core.x (x.b.f x.pos).r.toNat := hcr.get hk (.X (x.b.f x.pos).r.toNat) (by show _ < 31; omega) (by simp [sameS, Loc.op, h2, e])
    have ex : oneS x (x.b.f x.pos) = setV (nxt x) x.pos (x.core.x (x.b.f x.pos).r.toNat) := by simp only [oneS, h2, Int.reduceEq, if_true, if_false, reduceIte]; try rfl
    have ey : oneS y (renS (seenS x.b) (x.b.f x.pos)) = setV (nxt y) y.pos (y.core.x (x.b.f x.pos).r.toNat) := by simp only [oneS, hkd, Int.reduceEq, if_true, if_false, reduceIte]; try rfl
    rw [← hg] at ey
    rw [ex] at ok1 ⊢
    rw [ey] at ok2 ⊢
    exact h.def hl hw hs (by rw [h2]; decide) _ ok1 ok2
  by_cases h4 : (x.b.f x.pos).kind = 4
  · have hkd : (renS (seenS x.b) (x.b.f x.pos)).kind = 4 := h4
    have hg : x.core.sp x.b.el.toNat = y.core.sp x.b.el.toNat := hcr.get hk .SP trivial (by simp [sameS, Loc.op, h4, hr0 (by rw [h4]; decide)])
    have ex : oneS x (x.b.f x.pos) = setV (nxt x) x.pos (x.core.sp x.b.el.toNat) := by simp only [oneS, h4, Int.reduceEq, if_true, if_false, reduceIte]; try rfl
    have ey : oneS y (renS (seenS x.b) (x.b.f x.pos)) = setV (nxt y) y.pos (y.core.sp y.b.el.toNat) := by simp only [oneS, hkd, Int.reduceEq, if_true, if_false, reduceIte]; try rfl
    rw [hel, ← hg] at ey
    rw [ex] at ok1 ⊢
    rw [ey] at ok2 ⊢
    exact h.def hl hw hs (by rw [h4]; decide) _ ok1 ok2
  by_cases h6 : (x.b.f x.pos).kind = 6
  · have hkd : (renS (seenS x.b) (x.b.f x.pos)).kind = 6 := h6
    have hrr := hfit.f h6
    have e : ((x.b.f x.pos).r.toNat : Int) = (x.b.f x.pos).r := by omega
    have hg : flagG x.core ((x.b.f x.pos).r.toNat : Int) = flagG y.core ((x.b.f x.pos).r.toNat : Int) := hcr.get hk (.F (x.b.f x.pos).r.toNat) (by show _ < 4; omega) (by simp [sameS, Loc.op, h6, e])
    rw [e] at hg
    have ex : oneS x (x.b.f x.pos) = setV (nxt x) x.pos (if flagG x.core (x.b.f x.pos).r = true then 1 else 0) := by simp only [oneS, h6, Int.reduceEq, if_true, if_false, reduceIte]; try rfl
    have ey : oneS y (renS (seenS x.b) (x.b.f x.pos)) = setV (nxt y) y.pos (if flagG y.core (x.b.f x.pos).r = true then 1 else 0) := by simp only [oneS, hkd, Int.reduceEq, if_true, if_false, reduceIte]; try rfl
    rw [← hg] at ey
    rw [ex] at ok1 ⊢
    rw [ey] at ok2 ⊢
    exact h.def hl hw hs (by rw [h6]; decide) _ ok1 ok2
  by_cases h8 : (x.b.f x.pos).kind = 8
  · have hkd : (renS (seenS x.b) (x.b.f x.pos)).kind = 8 := h8
    have ex : oneS x (x.b.f x.pos) = setV (nxt x) x.pos (refR (x.b.f x.pos).r (x.vs (x.b.f x.pos).a.toNat) (x.vs (x.b.f x.pos).b.toNat)).1 := by simp only [oneS, h8, Int.reduceEq, if_true, if_false, reduceIte]; try rfl
    have ey : oneS y (renS (seenS x.b) (x.b.f x.pos)) = setV (nxt y) y.pos (refR (x.b.f x.pos).r (y.vs (renS (seenS x.b) (x.b.f x.pos)).a.toNat) (y.vs (renS (seenS x.b) (x.b.f x.pos)).b.toNat)).1 := by simp only [oneS, hkd, Int.reduceEq, if_true, if_false, reduceIte]; try rfl
    rw [hA (by rw [h8]; decide), hB (by rw [h8]; decide)] at ey
    rw [ex] at ok1 ⊢
    rw [ey] at ok2 ⊢
    exact h.def hl hw hs (by rw [h8]; decide) _ ok1 ok2
  by_cases h3 : (x.b.f x.pos).kind = 3
  · have hkd : (renS (seenS x.b) (x.b.f x.pos)).kind = 3 := h3
    have hrr := hfit.x (.inr h3)
    have ex : oneS x (x.b.f x.pos) = { nxt x with core := setC x.b.el.toNat (.X (x.b.f x.pos).r.toNat) (x.vs (x.b.f x.pos).a.toNat) x.core } := by simp only [oneS, h3, Int.reduceEq, if_true, if_false, reduceIte]; try rfl
    have ey : oneS y (renS (seenS x.b) (x.b.f x.pos)) = { nxt y with core := setC y.b.el.toNat (.X (x.b.f x.pos).r.toNat) (y.vs (renS (seenS x.b) (x.b.f x.pos)).a.toNat) y.core } := by simp only [oneS, hkd, Int.reduceEq, if_true, if_false, reduceIte]; try rfl
    rw [hA (by rw [h3]; decide), hel] at ey
    rw [ex] at ok1 ⊢
    rw [ey] at ok2 ⊢
    exact h.ofGo hl hw hs (by rw [h3]; decide) _ _ (hcr.set2 hk (l := (.X (x.b.f x.pos).r.toNat)) (by show _ < 31; omega) h3 (by show _ = ((x.b.f x.pos).r.toNat : Int); omega) _) ok1 ok2
  by_cases h5 : (x.b.f x.pos).kind = 5
  · have hkd : (renS (seenS x.b) (x.b.f x.pos)).kind = 5 := h5
    have ex : oneS x (x.b.f x.pos) = { nxt x with core := setC x.b.el.toNat .SP (x.vs (x.b.f x.pos).a.toNat) x.core } := by simp only [oneS, h5, Int.reduceEq, if_true, if_false, reduceIte]; try rfl
    have ey : oneS y (renS (seenS x.b) (x.b.f x.pos)) = { nxt y with core := setC y.b.el.toNat .SP (y.vs (renS (seenS x.b) (x.b.f x.pos)).a.toNat) y.core } := by simp only [oneS, hkd, Int.reduceEq, if_true, if_false, reduceIte]; try rfl
    rw [hA (by rw [h5]; decide), hel] at ey
    rw [ex] at ok1 ⊢
    rw [ey] at ok2 ⊢
    exact h.ofGo hl hw hs (by rw [h5]; decide) _ _ (hcr.set2 hk (l := .SP) trivial h5 (hr0 (by rw [h5]; decide)) _) ok1 ok2
  by_cases h7 : (x.b.f x.pos).kind = 7
  · have hkd : (renS (seenS x.b) (x.b.f x.pos)).kind = 7 := h7
    have hrr : 0 ≤ (x.b.f x.pos).r ∧ (x.b.f x.pos).r ≤ 3 := by simpa [rightF, h7, upS] using hrF
    have e : ((x.b.f x.pos).r.toNat : Int) = (x.b.f x.pos).r := by omega
    have ex : oneS x (x.b.f x.pos) = { nxt x with core := setC x.b.el.toNat (.F (x.b.f x.pos).r.toNat) (x.vs (x.b.f x.pos).a.toNat) x.core } := by simp only [oneS, h7, Int.reduceEq, if_true, if_false, reduceIte, setC, e]; try rfl
    have ey : oneS y (renS (seenS x.b) (x.b.f x.pos)) = { nxt y with core := setC y.b.el.toNat (.F (x.b.f x.pos).r.toNat) (y.vs (renS (seenS x.b) (x.b.f x.pos)).a.toNat) y.core } := by simp only [oneS, hkd, Int.reduceEq, if_true, if_false, reduceIte, setC, e]; try rfl
    rw [hA (by rw [h7]; decide), hel] at ey
    rw [ex] at ok1 ⊢
    rw [ey] at ok2 ⊢
    exact h.ofGo hl hw hs (by rw [h7]; decide) _ _ (hcr.set2 hk (l := (.F (x.b.f x.pos).r.toNat)) (by show _ < 4; omega) h7 e.symm _) ok1 ok2
  by_cases h14 : (x.b.f x.pos).kind = 14
  · have hkd : (renS (seenS x.b) (x.b.f x.pos)).kind = 14 := h14
    have ex : oneS x (x.b.f x.pos) = { nxt x with core := setC x.b.el.toNat .PC (x.b.f x.pos).imm x.core } := by simp only [oneS, h14, Int.reduceEq, if_true, if_false, reduceIte]; try rfl
    have ey : oneS y (renS (seenS x.b) (x.b.f x.pos)) = { nxt y with core := setC x.b.el.toNat .PC (x.b.f x.pos).imm y.core } := by simp only [oneS, hkd, Int.reduceEq, if_true, if_false, reduceIte]; try rfl
    rw [ex] at ok1 ⊢
    rw [ey] at ok2 ⊢
    exact h.ofGo hl hw hs (by rw [h14]; decide) _ _ (hcr.set2 hk (l := .PC) trivial h14 (hr0 (by rw [h14]; decide)) _) ok1 ok2
  by_cases h13 : (x.b.f x.pos).kind = 13
  · have hkd : (renS (seenS x.b) (x.b.f x.pos)).kind = 13 := h13
    have ex : oneS x (x.b.f x.pos) = waitS (nxt x) ⟨6, 0, 0, 0, false, (x.b.f x.pos).r, false, 0, 0, 0⟩ := by simp only [oneS, h13, Int.reduceEq, if_true, if_false, reduceIte]; try rfl
    have ey : oneS y (renS (seenS x.b) (x.b.f x.pos)) = waitS (nxt y) ⟨6, 0, 0, 0, false, (x.b.f x.pos).r, false, 0, 0, 0⟩ := by simp only [oneS, hkd, Int.reduceEq, if_true, if_false, reduceIte]; try rfl
    rw [ex] at ok1 ⊢
    rw [ey] at ok2 ⊢
    exact h.ofWait hl hw hs _ (by rw [h13]; decide) (fun hh => absurd rfl hh) (.inr h13) ok1 ok2
  have hce : leaveS (x.b.f x.pos).kind = true → CoreEq x.b.el.toNat x.core y.core := hcr.leave hk
  by_cases h15 : (x.b.f x.pos).kind = 15
  · have hkd : (renS (seenS x.b) (x.b.f x.pos)).kind = 15 := h15
    by_cases ha : (x.vs (x.b.f x.pos).a.toNat != 0) = true
    · have ha' : (y.vs (renS (seenS x.b) (x.b.f x.pos)).a.toNat != 0) = true := by rw [hA (by rw [h15]; decide)]; exact ha
      have ex : oneS x (x.b.f x.pos) = { pcR (nxt x) (x.b.f x.pos).imm with left := true } := by simp only [oneS, h15, ha, Int.reduceEq, if_true, if_false, reduceIte]
      have ey : oneS y (renS (seenS x.b) (x.b.f x.pos)) = { pcR (nxt y) (x.b.f x.pos).imm with left := true } := by simp only [oneS, hkd, ha', Int.reduceEq, if_true, if_false, reduceIte]; try rfl
      rw [ex] at ok1 ⊢
      rw [ey] at ok2 ⊢
      exact Mid.ofLeft rfl h.yb ok1 ok2 hw hyw rfl rfl h.fal h.gst h.wrd ((hce (by rw [h15]; decide)).pc _)
    · have ha' : ¬ (y.vs (renS (seenS x.b) (x.b.f x.pos)).a.toNat != 0) = true := by rw [hA (by rw [h15]; decide)]; exact ha
      have ex : oneS x (x.b.f x.pos) = { nxt x with core := x.core } := by simp only [oneS, h15, ha, Int.reduceEq, if_true, if_false, reduceIte]; try rfl
      have ey : oneS y (renS (seenS x.b) (x.b.f x.pos)) = { nxt y with core := y.core } := by simp only [oneS, hkd, ha', Int.reduceEq, if_true, if_false, reduceIte]; try rfl
      rw [ex] at ok1 ⊢
      rw [ey] at ok2 ⊢
      exact h.ofGo hl hw hs (by rw [h15]; decide) _ _ ((hce (by rw [h15]; decide)).rel _) ok1 ok2
  by_cases h16 : (x.b.f x.pos).kind = 16
  · have hkd : (renS (seenS x.b) (x.b.f x.pos)).kind = 16 := h16
    have ex : oneS x (x.b.f x.pos) = { pcR (nxt x) (x.b.f x.pos).imm with left := true } := by simp only [oneS, h16, Int.reduceEq, if_true, if_false, reduceIte]; try rfl
    have ey : oneS y (renS (seenS x.b) (x.b.f x.pos)) = { pcR (nxt y) (x.b.f x.pos).imm with left := true } := by simp only [oneS, hkd, Int.reduceEq, if_true, if_false, reduceIte]; try rfl
    rw [ex] at ok1 ⊢
    rw [ey] at ok2 ⊢
    exact Mid.ofLeft rfl h.yb ok1 ok2 hw hyw rfl rfl h.fal h.gst h.wrd ((hce (by rw [h16]; decide)).pc _)
  by_cases h17 : (x.b.f x.pos).kind = 17
  · have hkd : (renS (seenS x.b) (x.b.f x.pos)).kind = 17 := h17
    have ex : oneS x (x.b.f x.pos) = { pcR (nxt x) (x.vs (x.b.f x.pos).a.toNat) with left := true } := by simp only [oneS, h17, Int.reduceEq, if_true, if_false, reduceIte]; try rfl
    have ey : oneS y (renS (seenS x.b) (x.b.f x.pos)) = { pcR (nxt y) (y.vs (renS (seenS x.b) (x.b.f x.pos)).a.toNat) with left := true } := by simp only [oneS, hkd, Int.reduceEq, if_true, if_false, reduceIte]; try rfl
    rw [hA (by rw [h17]; decide)] at ey
    rw [ex] at ok1 ⊢
    rw [ey] at ok2 ⊢
    exact Mid.ofLeft rfl h.yb ok1 ok2 hw hyw rfl rfl h.fal h.gst h.wrd ((hce (by rw [h17]; decide)).pc _)
  by_cases h18 : (x.b.f x.pos).kind = 18
  · have hkd : (renS (seenS x.b) (x.b.f x.pos)).kind = 18 := h18
    have ex : oneS x (x.b.f x.pos) = { nxt x with word := (x.b.f x.pos).imm, guest := true, left := true } := by simp only [oneS, h18, Int.reduceEq, if_true, if_false, reduceIte]; try rfl
    have ey : oneS y (renS (seenS x.b) (x.b.f x.pos)) = { nxt y with word := (x.b.f x.pos).imm, guest := true, left := true } := by simp only [oneS, hkd, Int.reduceEq, if_true, if_false, reduceIte]; try rfl
    rw [ex] at ok1 ⊢
    rw [ey] at ok2 ⊢
    exact Mid.ofLeft rfl h.yb ok1 ok2 hw hyw rfl rfl h.fal rfl rfl (hce (by rw [h18]; decide))
  have hacc : (x.b.f x.pos).kind = 9 ∨ (x.b.f x.pos).kind = 10 ∨ (x.b.f x.pos).kind = 11 ∨ (x.b.f x.pos).kind = 12 := by
    by_cases h9 : (x.b.f x.pos).kind = 9
    · exact .inl h9
    by_cases h10 : (x.b.f x.pos).kind = 10
    · exact .inr (.inl h10)
    by_cases h11 : (x.b.f x.pos).kind = 11
    · exact .inr (.inr (.inl h11))
    by_cases h12 : (x.b.f x.pos).kind = 12
    · exact .inr (.inr (.inr h12))
    exfalso
    simp [rightF, *] at hrF
  have hu : 0 < usesS (x.b.f x.pos).kind := by rcases hacc with e | e | e | e <;> rw [e] <;> decide
  have hlv : leaveS (x.b.f x.pos).kind = true := by rcases hacc with e | e | e | e <;> rw [e] <;> decide
  have hwant : wantA (renS (seenS x.b) (x.b.f x.pos)) (x.vs (x.b.f x.pos).a.toNat) (y.vs (renS (seenS x.b) (x.b.f x.pos)).b.toNat) = wantA (x.b.f x.pos) (x.vs (x.b.f x.pos).a.toNat) (x.vs (x.b.f x.pos).b.toNat) := by
    rcases hacc with e | e | e | e
    · have e' : (renS (seenS x.b) (x.b.f x.pos)).kind = 9 := e
      simp only [wantA, e, e', Int.reduceEq, if_true, if_false, reduceIte]; try rfl
    · have e' : (renS (seenS x.b) (x.b.f x.pos)).kind = 10 := e
      rw [hB (by rw [e]; decide)]
      simp only [wantA, e, e', Int.reduceEq, if_true, if_false, reduceIte]; try rfl
    · have e' : (renS (seenS x.b) (x.b.f x.pos)).kind = 11 := e
      simp only [wantA, e, e', Int.reduceEq, if_true, if_false, reduceIte]; try rfl
    · have e' : (renS (seenS x.b) (x.b.f x.pos)).kind = 12 := e
      rw [hB (by rw [e]; decide)]
      simp only [wantA, e, e', Int.reduceEq, if_true, if_false, reduceIte]; try rfl
  have ex : oneS x (x.b.f x.pos) = accR (nxt x) (x.b.f x.pos) (x.vs (x.b.f x.pos).a.toNat) (x.vs (x.b.f x.pos).b.toNat) := by
    simp only [oneS, h1, h2, h3, h4, h5, h6, h7, h8, h13, h14, h15, h16, h17, h18, if_false]
  have ey : oneS y (renS (seenS x.b) (x.b.f x.pos)) = accR (nxt y) (renS (seenS x.b) (x.b.f x.pos)) (y.vs (renS (seenS x.b) (x.b.f x.pos)).a.toNat) (y.vs (renS (seenS x.b) (x.b.f x.pos)).b.toNat) := by
    have hkd : (renS (seenS x.b) (x.b.f x.pos)).kind = (x.b.f x.pos).kind := rfl
    simp only [oneS, hkd, h1, h2, h3, h4, h5, h6, h7, h8, h13, h14, h15, h16, h17, h18, if_false]
  rw [hA hu] at ey
  unfold accR at ex ey
  rw [hwant] at ey
  by_cases ha : ((x.vs (x.b.f x.pos).a.toNat).tmod 8 != 0) = true
  · rw [if_pos ha] at ex ey
    rw [ex] at ok1 ⊢
    rw [ey] at ok2 ⊢
    exact Mid.ofLeft rfl h.yb ok1 ok2 hw hyw rfl rfl rfl h.gst h.wrd (hce hlv)
  · rw [if_neg ha] at ex ey
    rw [ex] at ok1 ⊢
    rw [ey] at ok2 ⊢
    exact h.ofWait hl hw hs _ ⟨h3, h5, h7, h14⟩ (fun _ => hce hlv) (.inl ⟨by rcases hacc with e | e | e | e <;> rw [e] <;> decide, wantA_kind _ _ _⟩) ok1 ok2
end Go.Proofs.Ytmbnakinhnkabaa

namespace Go.Proofs.Ytmbnakinhnkabaa
open Go.AM
set_option maxRecDepth 100000
set_option linter.unusedSimpArgs false
set_option linter.unusedVariables false
theorem next_stop {s : RS} (h : s.left = true ∨ s.waits = true) : nextS s = s := nextN_stop (by rcases h with h | h <;> rw [h] <;> simp) _
theorem next_step {s : RS} (hok : RunOk s) (hl : s.left = false) (hw : s.waits = false) : nextS s = nextS (oneS s (s.b.f s.pos)) := by
  have hp := hok.go hl
  have hc : (!s.left && !s.waits) = true := by rw [hl, hw]; rfl
  unfold nextS
  rw [one_b, one_pos, show s.b.n + 1 - s.pos = (s.b.n + 1 - (s.pos + 1)) + 1 by omega]
  simp only [nextN, hc, if_true]
theorem Mid.next {b : BlkS} : ∀ (t : Nat) {x y : RS}, Mid b x y → b.n - x.pos ≤ t → (x.left = true ∨ x.waits = true ∨ True) → Mid b (nextS x) (nextS y) ∧ ((nextS x).left = true ∨ (nextS x).waits = true)
  | t, x, y, h, ht, _ => by
    by_cases hst : x.left = true ∨ x.waits = true
    · have hst' : y.left = true ∨ y.waits = true := by rw [h.left, h.waits]; exact hst
      rw [next_stop hst, next_stop hst']
      exact ⟨h, hst⟩
    · have hl : x.left = false := by
        cases e : x.left with
        | false => rfl
        | true => exact absurd (.inl e) hst
      have hw : x.waits = false := by
        cases e : x.waits with
        | false => rfl
        | true => exact absurd (.inr e) hst
      have hk := h.k hl
      match t, ht with
      | 0, ht => omega
      | t + 1, ht =>
        rw [next_step h.okx hl hw, h.xb]
        have hp : (oneS x (b.f x.pos)).pos = x.pos + 1 := one_pos _ _
        by_cases hs : seenS b x.pos = true
        · obtain ⟨h1, h2⟩ := h.seen hl hw hs
          rw [next_step h.oky (by rw [h.left]; exact hl) (by rw [h.waits]; exact hw), h2]
          exact Mid.next t h1 (by rw [hp]; omega) (.inr (.inr trivial))
        · obtain ⟨h1, _⟩ := h.un hl hw (by simpa using hs)
          exact Mid.next t h1 (by rw [hp]; omega) (.inr (.inr trivial))
theorem take_b (s : RS) (g : GotS) : (tookR s g).b = s.b := by
  show (fun r : RS => r.b = s.b) (tookR s g)
  unfold tookR
  repeat' (first | exact rfl | refine ite_P (P := fun r : RS => r.b = s.b) ?_ ?_)
theorem take_pos (s : RS) (g : GotS) : (tookR s g).pos = s.pos := by
  show (fun r : RS => r.pos = s.pos) (tookR s g)
  unfold tookR
  repeat' (first | exact rfl | refine ite_P (P := fun r : RS => r.pos = s.pos) ?_ ?_)
theorem take_waits (s : RS) (g : GotS) : (tookR s g).waits = false := by
  show (fun r : RS => r.waits = false) (tookR s g)
  unfold tookR
  repeat' (first | exact rfl | refine ite_P (P := fun r : RS => r.waits = false) ?_ ?_)
theorem take_core (s : RS) (g : GotS) : (tookR s g).core = s.core := by
  show (fun r : RS => r.core = s.core) (tookR s g)
  unfold tookR
  repeat' (first | exact rfl | refine ite_P (P := fun r : RS => r.core = s.core) ?_ ?_)
theorem RunOk.take {s : RS} (h : RunOk s) (g : GotS) (hg : U g.value) : RunOk (tookR s g) := by
  have hs : ∀ v, U v → ∀ i, U (updI s.vs (s.pos - 1) v i) := fun v hv i => by unfold updI; split; exact hv; exact h.u i
  refine ⟨by rw [take_b]; exact h.hr, by rw [take_b]; exact h.wf, ?_, by rw [take_core]; exact h.x, by rw [take_core]; exact h.sp, ?_⟩
  · show (fun r : RS => ∀ i, U (r.vs i)) (tookR s g)
    unfold tookR
    repeat' (first | exact h.u | exact hs _ U_0 | exact hs _ U_1 | exact hs _ hg | refine ite_P (P := fun r : RS => ∀ i, U (r.vs i)) ?_ ?_)
  · show (fun r : RS => r.left = false → r.pos < r.b.n) (tookR s g)
    unfold tookR
    repeat' (first | exact h.go | (intro hh; cases hh; done) | refine ite_P (P := fun r : RS => r.left = false → r.pos < r.b.n) ?_ ?_)
theorem Mid.take {b : BlkS} {x y : RS} (h : Mid b x y) (hw : x.waits = true) (g : GotS) (hg : U g.value) : Mid b (tookR x g) (tookR y g) := by
  have hxb := h.xb
  subst hxb
  obtain ⟨hl, hp1, hs, hla⟩ := h.last hw
  have hr : rightS x.b = true := h.okx.hr
  have hk := h.k hl
  have hyl : y.left = false := by rw [h.left]; exact hl
  obtain ⟨k, hke⟩ : ∃ k, x.pos = k + 1 := ⟨x.pos - 1, by omega⟩
  have hk1 : x.pos - 1 = k := by omega
  rw [hk1] at hs hla
  have hyp : y.pos = cnt (seenS x.b) k + 1 := by rw [h.pos hl, hke]; simp only [cnt, hs, if_true]
  have hyk : y.pos - 1 = cnt (seenS x.b) k := by omega
  have hyo : (y.b.f (y.pos - 1)).kind = (x.b.f k).kind := by rw [hyk, h.yb, withS_f (by omega) hs]; rfl
  have ok1 := h.okx.take g hg
  have ok2 := h.oky.take g hg
  have hcr := h.core hl
  have old : ∀ i, i < k → seenS x.b i = true → defS (x.b.f i).kind = true → y.vs (cnt (seenS x.b) i) = x.vs i := fun i hi hsi hd => (h.vals hl i (by omega) hsi hd).resolve_left fun e => by have := e.2; omega
  have keep : defS (x.b.f k).kind = false → RunOk (noW x) → RunOk (noW y) → Mid x.b (noW x) (noW y) := fun hd o1 o2 => by
    refine ⟨rfl, h.yb, o1, o2, rfl, fun e => (by cases e), h.left, h.fal, h.gst, h.wrd, fun e => ?_, fun e => (by cases e), fun _ => h.pos hl, fun _ => hcr, fun _ i hi hsi hdi => .inr ?_, fun e => (by cases e)⟩
    · have : x.left = true := e
      rw [hl] at this; cases this
    · have e : i ≠ k := fun e => by subst e; rw [hd] at hdi; cases hdi
      have : i < x.pos := hi
      exact old i (by omega) hsi hdi
  have setk : ∀ v, RunOk (setV (noW x) k v) → RunOk (setV (noW y) (cnt (seenS x.b) k) v) → Mid x.b (setV (noW x) k v) (setV (noW y) (cnt (seenS x.b) k) v) := fun v o1 o2 => by
    refine ⟨rfl, h.yb, o1, o2, rfl, fun e => (by cases e), h.left, h.fal, h.gst, h.wrd, fun e => ?_, fun e => (by cases e), fun _ => h.pos hl, fun _ => hcr, fun _ i hi hsi hdi => .inr ?_, fun e => (by cases e)⟩
    · have : x.left = true := e
      rw [hl] at this; cases this
    · show updI y.vs (cnt (seenS x.b) k) v (cnt (seenS x.b) i) = updI x.vs k v i
      unfold updI
      by_cases e : i = k
      · subst e; rw [if_pos rfl, if_pos rfl]
      · have : i < x.pos := hi
        have hi' : i < k := by omega
        have hc := cnt_lt (seenS x.b) hi' hsi
        rw [if_neg e, if_neg (by omega)]
        exact old i hi' hsi hdi
  unfold tookR at ok1 ok2 ⊢
  rw [hyo, hyk] at ok2 ⊢
  rw [hk1] at ok1 ⊢
  by_cases ha : accS (x.b.f k).kind = false
  · rw [if_pos ha] at ok1 ok2 ⊢
    rw [if_pos ha]
    have h13 : (x.b.f k).kind = 13 := hla.resolve_left fun e => by rw [ha] at e; cases e.1
    exact keep (by rw [h13]; decide) ok1 ok2
  · rw [if_neg ha] at ok1 ok2 ⊢
    rw [if_neg ha]
    have hce : CoreEq x.b.el.toNat x.core y.core := by
      rcases hla with e | e
      · exact h.fen hw e.2
      · rw [e] at ha; exact absurd (by decide) ha
    by_cases hf : (g.fault != 0) = true
    · rw [if_pos hf] at ok1 ok2 ⊢
      rw [if_pos hf]
      exact Mid.ofLeft rfl h.yb ok1 ok2 rfl rfl rfl rfl rfl h.gst h.wrd hce
    · rw [if_neg hf] at ok1 ok2 ⊢
      rw [if_neg hf]
      by_cases h12 : ((x.b.f k).kind == 12) = true
      · rw [if_pos h12] at ok1 ok2 ⊢
        rw [if_pos h12]
        by_cases ho : g.ok = true
        · rw [if_pos ho] at ok1 ok2 ⊢
          rw [if_pos ho]
          exact setk 0 ok1 ok2
        · rw [if_neg ho] at ok1 ok2 ⊢
          rw [if_neg ho]
          exact setk 1 ok1 ok2
      · rw [if_neg h12] at ok1 ok2 ⊢
        rw [if_neg h12]
        by_cases h10 : ((x.b.f k).kind != 10) = true
        · rw [if_pos h10] at ok1 ok2 ⊢
          rw [if_pos h10]
          exact setk g.value ok1 ok2
        · rw [if_neg h10] at ok1 ok2 ⊢
          rw [if_neg h10]
          have e10 : (x.b.f k).kind = 10 := by simpa using h10
          exact keep (by rw [e10]; decide) ok1 ok2
end Go.Proofs.Ytmbnakinhnkabaa

namespace Go.Proofs.Ytmbnakinhnkabaa
open Go.AM
set_option maxRecDepth 100000
set_option linter.unusedSimpArgs false
set_option linter.unusedVariables false
structure CoreAll (p q : CoreS) : Prop where
  x : ∀ i, i < 31 → p.x i = q.x i
  sp : ∀ i, i < 2 → p.sp i = q.sp i
  pc : p.pc = q.pc
  n : p.n = q.n
  z : p.z = q.z
  c : p.c = q.c
  v : p.v = q.v
  el : p.el = q.el
  mask : p.mask = q.mask
  q0 : p.q0 = q.q0
  q1 : p.q1 = q.q1
  q2 : p.q2 = q.q2
  q3 : p.q3 = q.q3
  q4 : p.q4 = q.q4
  q5 : p.q5 = q.q5
  id : p.id = q.id
  wait : p.wait = q.wait
  last : p.last = q.last
theorem CoreAll.refl (c : CoreS) : CoreAll c c := ⟨fun _ _ => rfl, fun _ _ => rfl, rfl, rfl, rfl, rfl, rfl, rfl, rfl, rfl, rfl, rfl, rfl, rfl, rfl, rfl, rfl, rfl⟩
theorem CoreAll.trans {c d e : CoreS} (h : CoreAll c d) (k : CoreAll d e) : CoreAll c e :=
  ⟨fun i hi => (h.x i hi).trans (k.x i hi), fun i hi => (h.sp i hi).trans (k.sp i hi), h.pc.trans k.pc, h.n.trans k.n, h.z.trans k.z, h.c.trans k.c, h.v.trans k.v, h.el.trans k.el, h.mask.trans k.mask, h.q0.trans k.q0, h.q1.trans k.q1, h.q2.trans k.q2, h.q3.trans k.q3, h.q4.trans k.q4, h.q5.trans k.q5, h.id.trans k.id, h.wait.trans k.wait, h.last.trans k.last⟩
theorem CoreEq.all {e : Nat} {c d : CoreS} (h : CoreEq e c d) : CoreAll c d :=
  ⟨fun i hi => h.loc (.X i) hi, fun i hi => by
    by_cases e1 : i = e
    · subst e1; exact h.loc .SP trivial
    · exact h.rest.sp i hi e1, h.loc .PC trivial, h.loc (.F 0) (by show 0 < 4; omega), h.loc (.F 1) (by show 1 < 4; omega), h.loc (.F 2) (by show 2 < 4; omega), h.loc (.F 3) (by show 3 < 4; omega), h.rest.el, h.rest.mask, h.rest.q0, h.rest.q1, h.rest.q2, h.rest.q3, h.rest.q4, h.rest.q5, h.rest.id, h.rest.wait, h.rest.last⟩
theorem CoreEq.refl (e : Nat) (c : CoreS) : CoreEq e c c :=
  ⟨⟨fun _ _ _ => rfl, rfl, rfl, rfl, rfl, rfl, rfl, rfl, rfl, rfl, rfl, rfl⟩, fun l _ => by cases l <;> rfl⟩
structure Look (x z : RS) : Prop where
  waits : z.waits = x.waits
  want : x.waits = true → z.want = x.want
  left : z.left = x.left
  fal : z.faulted = x.faulted
  gst : z.guest = x.guest
  wrd : z.word = x.word
  core : x.left = true ∨ (x.waits = true ∧ x.want.kind ≠ 6) → CoreAll x.core z.core
theorem Look.refl (x : RS) : Look x x := ⟨rfl, fun _ => rfl, rfl, rfl, rfl, rfl, fun _ => CoreAll.refl _⟩
theorem Mid.look {b : BlkS} {x y : RS} (h : Mid b x y) : Look x y :=
  ⟨h.waits, h.want, h.left, h.fal, h.gst, h.wrd, fun e => by
    rcases e with e | ⟨e1, e2⟩
    · exact (h.fin e).all
    · exact (h.fen e1 e2).all⟩
theorem Look.trans {x y z : RS} (h : Look x y) (k : Look y z) : Look x z :=
  ⟨k.waits.trans h.waits, fun e => (k.want (by rw [h.waits]; exact e)).trans (h.want e), k.left.trans h.left, k.fal.trans h.fal, k.gst.trans h.gst, k.wrd.trans h.wrd, fun e => (h.core e).trans (k.core (by
    rcases e with e | ⟨e1, e2⟩
    · exact .inl (by rw [h.left]; exact e)
    · exact .inr ⟨by rw [h.waits]; exact e1, by rw [h.want e1]; exact e2⟩))⟩
inductive Chain : RS → RS → Prop
  | nil (x : RS) : Chain x x
  | cons {b : BlkS} {x y z : RS} : Mid b x y → Chain y z → Chain x z
theorem Chain.look {x z : RS} (h : Chain x z) : Look x z := by
  induction h with
  | nil x => exact Look.refl x
  | cons h _ ih => exact h.look.trans ih
theorem Chain.next {x z : RS} (h : Chain x z) : Chain (nextS x) (nextS z) := by
  induction h with
  | nil x => exact .nil _
  | cons h _ ih => exact .cons (Mid.next _ h (Nat.le_refl _) (.inr (.inr trivial))).1 ih
theorem Chain.take {x z : RS} (h : Chain x z) (hw : x.waits = true) (g : GotS) (hg : U g.value) : Chain (tookR x g) (tookR z g) := by
  induction h with
  | nil x => exact .nil _
  | cons h _ ih => exact .cons (h.take hw g hg) (ih (by rw [h.waits]; exact hw))
theorem new_ok {b : BlkS} {c : CoreS} (hr : rightS b = true) (hw : BlkWf b) (hx : ∀ i, i < 31 → U (c.x i)) (hsp : ∀ i, i < 2 → U (c.sp i)) : RunOk (newR b c) :=
  ⟨hr, hw, fun _ => U_0, hx, hsp, fun _ => (right_n hr).1⟩
theorem new_mid {b : BlkS} {c : CoreS} (hr : rightS b = true) (hw : BlkWf b) (hx : ∀ i, i < 31 → U (c.x i)) (hsp : ∀ i, i < 2 → U (c.sp i)) : Mid b (newR b c) (newR (withS b) c) :=
  ⟨rfl, rfl, new_ok hr hw hx hsp, new_ok (right_with hr) (with_wf hr hw) hx hsp, rfl, fun e => (by cases e), rfl, rfl, rfl, rfl, fun e => (by cases e), fun e => (by cases e), fun _ => rfl, fun _ => (CoreEq.refl _ c).rel 0, fun _ i hi => absurd hi (Nat.not_lt_zero i), fun e => (by cases e)⟩
theorem new_chain {c : CoreS} (hx : ∀ i, i < 31 → U (c.x i)) (hsp : ∀ i, i < 2 → U (c.sp i)) : ∀ (t : Nat) {b : BlkS}, rightS b = true → BlkWf b → Chain (newR b c) (newR (blkIt t b) c)
  | 0, b, _, _ => .nil _
  | t + 1, b, hr, hw => by
    simp only [blkIt]
    split
    · exact .nil _
    · exact .cons (new_mid hr hw hx hsp) (new_chain hx hsp t (right_with hr) (with_wf hr hw))
theorem blkIt_wf : ∀ {t : Nat} {b : BlkS}, rightS b = true → BlkWf b → BlkWf (blkIt t b)
  | 0, _, _, h => h
  | t + 1, b, hr, h => by
    simp only [blkIt]
    split
    · exact h
    · exact blkIt_wf (right_with hr) (with_wf hr h)
theorem blkIt_el : ∀ {t : Nat} {b : BlkS}, (blkIt t b).el = b.el
  | 0, _ => rfl
  | t + 1, b => by
    simp only [blkIt]
    split
    · rfl
    · rw [blkIt_el]; rfl
theorem next_ok : ∀ (t : Nat) {s : RS}, RunOk s → s.b.n - s.pos ≤ t → RunOk (nextS s) ∧ ((nextS s).left = true ∨ (nextS s).waits = true) ∧ (nextS s).b = s.b ∧ s.pos ≤ (nextS s).pos ∧ ((nextS s).left = false → s.waits = false → s.pos < (nextS s).pos)
  | t, s, h, ht => by
    by_cases hst : s.left = true ∨ s.waits = true
    · rw [next_stop hst]
      refine ⟨h, hst, rfl, Nat.le_refl _, fun e1 e2 => ?_⟩
      rcases hst with e | e
      · rw [e] at e1; cases e1
      · rw [e] at e2; cases e2
    · have hl : s.left = false := by
        cases e : s.left with
        | false => rfl
        | true => exact absurd (.inl e) hst
      have hw : s.waits = false := by
        cases e : s.waits with
        | false => rfl
        | true => exact absurd (.inr e) hst
      have hp := h.go hl
      match t, ht with
      | 0, ht => omega
      | t + 1, ht =>
        rw [next_step h hl hw]
        obtain ⟨h1, h2, h3, h4, h5⟩ := next_ok t (h.one hl) (by rw [one_b, one_pos]; omega)
        rw [one_b] at h3
        rw [one_pos] at h4
        exact ⟨h1, h2, h3, by omega, fun _ _ => by omega⟩
end Go.Proofs.Ytmbnakinhnkabaa

namespace Go.Proofs.Ytmbnakinhnkabaa
open Go.AM
set_option maxRecDepth 100000
set_option linter.unusedSimpArgs false
set_option linter.unusedVariables false
theorem beq_comm (a b : Nat) : Nat.beq a b = Nat.beq b a := by
  by_cases h : a = b
  · rw [h]
  · rw [nbeq h, nbeq fun e => h e.symm]
theorem drop_two (s : RS) (R O V : Nat) : ∀ X : List (Nat × Blk), dropB [R, O, V] (runH s).blks X = delB (delB X R) V
  | [] => rfl
  | (k, B) :: r => by
    have ih := drop_two s R O V r
    simp only [runH] at ih ⊢
    simp only [dropB, goneB, runB, runO, runV, nthO, delB] at ih ⊢
    rw [beq_comm R k, beq_comm V k]
    cases h1 : Nat.beq k R with
    | true => simp only [ih]
    | false =>
      simp only [delB]
      cases h2 : Nat.beq k V with
      | true => simp only [ih]
      | false => simp only [ih]
theorem run_at {f : FuncId} {rest : List AV} {s s' : RS} {V0 : AV} (h : Con Try.prog f (me :: rest) (runH s) (fun v H' => v = V0 ∧ H' = runH s')) (R O V m : Nat) (X : List (Nat × Blk)) (w : Bool) (h1 : Nat.beq R O = false) (h2 : Nat.beq R V = false) (h3 : Nat.beq O V = false)
    (hR : getB X R = some (runBI s O V)) (hO : getB X O = some ⟨6, some s.b.n, fun i => opL (s.b.f i), 39, w⟩) (hV : getB X V = some (runV s)) (hlR : R < m) (hlO : O < m) (hlV : V < m) (hkl : keysLt X m) (hrest : leArgs [R, O, V] rest rest) (hV0 : ∀ g, mapV g V0 = V0) :
    Con Try.prog f (.c (.ptr ⟨R, 0, 0, 0⟩) :: rest) ⟨m, X⟩ (fun v H' => v = V0 ∧ H' = ⟨m, (R, runBI s' O V) :: (V, runV s') :: delB (delB X R) V⟩) := by
  refine (h.frame (args := .c (.ptr ⟨R, 0, 0, 0⟩) :: rest) (H := ⟨m, X⟩) [R, O, V] rfl (by simp only [diff, notIn, h1, h2, h3, and_self]) ⟨hlR, hlO, hlV, trivial⟩ hkl ?_ ⟨⟨rfl, rfl, rfl, rfl⟩, hrest⟩).weaken ?_
  · simp only [runH, leBlks, nthO, hR, hO, hV]
    refine ⟨⟨rfl, rfl, id, Nat.le_refl _, fun i _ => by simp only [runBI, runLI, runB, runL, leSegs, leSeg, leC, leA, nthO, and_self, implies_true]⟩, ⟨rfl, rfl, fun h => (by cases h), Nat.le_refl _, fun i _ => by simp only [runO, opL, leSegs, leSeg, leC, and_self]⟩, rv_le s, trivial⟩
  · rintro v H' ⟨v0, H0', ⟨rfl, rfl⟩, rfl, rfl⟩
    refine ⟨hV0 _, ?_⟩
    simp only [framed, drop_two]
    rfl
theorem con18_bat (b : BlkS) (c : CoreS) (hw : BlkWf b) (hr : rightS b = true) (ho : newOk b c = false) (i n : Nat) (X : List (Nat × Blk)) (w : Bool) (h0 : getB X i = some ⟨6, some b.n, fun i => opL (b.f i), 39, w⟩) (hlt : i < n) (hkl : keysLt X n) : Con Try.prog 18 [.agg (blkL b i), .agg (coreL c)] ⟨n, X⟩ (fun v H' => v = .tup [.c .nilp, .c (.int .i64 1)] ∧ H' = ⟨n, X⟩) := by
  refine ((con18_b b c hw hr ho).frame (H := ⟨n, X⟩) [i] rfl ⟨trivial, trivial⟩ ⟨hlt, trivial⟩ hkl (by simp only [leBlks, nthO, h0]; exact ⟨ops_le b.n b.f w, trivial⟩) (by simp only [leArgs, leV, leV1, blkL, coreL, leSegs, leSeg, leC, leA, nthO, and_self, implies_true])).weaken ?_
  rintro v H' ⟨v0, H0', ⟨rfl, rfl⟩, rfl, rfl⟩
  simp only [framed, dropB_ro i b.n 0]
  exact ⟨rfl, rfl⟩
theorem con18_cat (b : BlkS) (c : CoreS) (hw : BlkWf b) (hr : rightS b = true) (ho : newOk b c = true) (i n : Nat) (X : List (Nat × Blk)) (w : Bool) (h0 : getB X i = some ⟨6, some b.n, fun i => opL (b.f i), 39, w⟩) (hlt : i < n) (hkl : keysLt X n) : Con Try.prog 18 [.agg (blkL b i), .agg (coreL c)] ⟨n, X⟩ (fun v H' => v = .tup [.c (.ptr ⟨n + 1, 0, 0, 0⟩), .c (.int .i64 0)] ∧ H' = ⟨n + 2, (n + 1, runBI (newR b c) i n) :: (n, runV (newR b c)) :: X⟩) := by
  refine ((con18_c b c hw hr ho).frame (H := ⟨n, X⟩) [i] rfl ⟨trivial, trivial⟩ ⟨hlt, trivial⟩ hkl (by simp only [leBlks, nthO, h0]; exact ⟨ops_le b.n b.f w, trivial⟩) (by simp only [leArgs, leV, leV1, blkL, coreL, leSegs, leSeg, leC, leA, nthO, and_self, implies_true])).weaken ?_
  rintro v H' ⟨v0, H0', ⟨rfl, rfl⟩, rfl, rfl⟩
  simp only [framed, dropB_ro i b.n 0]
  exact ⟨rfl, rfl⟩
theorem con19_at (s : RS) (h : RunOk s) (R O V m : Nat) (X : List (Nat × Blk)) (w : Bool) (h1 : Nat.beq R O = false) (h2 : Nat.beq R V = false) (h3 : Nat.beq O V = false)
    (hR : getB X R = some (runBI s O V)) (hO : getB X O = some ⟨6, some s.b.n, fun i => opL (s.b.f i), 39, w⟩) (hV : getB X V = some (runV s)) (hlR : R < m) (hlO : O < m) (hlV : V < m) (hkl : keysLt X m) :
    Con Try.prog 19 [.c (.ptr ⟨R, 0, 0, 0⟩)] ⟨m, X⟩ (fun v H' => v = retNx (nextS s) ∧ H' = ⟨m, (R, runBI (nextS s) O V) :: (V, runV (nextS s)) :: delB (delB X R) V⟩) :=
  run_at (con19 s h) R O V m X w h1 h2 h3 hR hO hV hlR hlO hlV hkl trivial (fun g => rfl)
theorem con20_at (s : RS) (g : GotS) (hw : s.waits = true) (hp : 1 ≤ s.pos) (hp2 : s.pos ≤ s.b.n) (hn : s.b.n ≤ 512) (R O V m : Nat) (X : List (Nat × Blk)) (w : Bool) (h1 : Nat.beq R O = false) (h2 : Nat.beq R V = false) (h3 : Nat.beq O V = false)
    (hR : getB X R = some (runBI s O V)) (hO : getB X O = some ⟨6, some s.b.n, fun i => opL (s.b.f i), 39, w⟩) (hV : getB X V = some (runV s)) (hlR : R < m) (hlO : O < m) (hlV : V < m) (hkl : keysLt X m) :
    Con Try.prog 20 [.c (.ptr ⟨R, 0, 0, 0⟩), .agg (gotL g)] ⟨m, X⟩ (fun v H' => v = .c (.bool true) ∧ H' = ⟨m, (R, runBI (tookR s g) O V) :: (V, runV (tookR s g)) :: delB (delB X R) V⟩) :=
  run_at (con20 s g hw hp hp2 hn) R O V m X w h1 h2 h3 hR hO hV hlR hlO hlV hkl (by simp only [gotL, leArgs, leV, leV1, leSegs, leSeg, leC, and_self]) (fun g => rfl)
end Go.Proofs.Ytmbnakinhnkabaa

namespace Go.Proofs.Ytmbnakinhnkabaa
open Go.AM
set_option maxRecDepth 100000
set_option linter.unusedSimpArgs false
set_option linter.unusedVariables false
theorem blkIt_ok : ∀ {t : Nat} {b : BlkS}, rightS b = true → rightS (blkIt t b) = true
  | 0, _, h => h
  | t + 1, b, h => by
    simp only [blkIt]
    split
    · exact h
    · exact blkIt_ok (right_with h)
def gotsB (ng : Nat) (gs : Nat → GotS) : Blk := ⟨3, some ng, fun i => gotL (gs i), 56, false⟩
def ddH (b : BlkS) (ng : Nat) (gs : Nat → GotS) : Heap := ⟨2, [(1, gotsB ng gs), (0, opsB b.n b.f)]⟩
theorem gots_le {l : List Nat} (ng : Nat) (gs : Nat → GotS) : leB l (gotsB ng gs) (gotsB ng gs) := ⟨rfl, rfl, id, Nat.le_refl _, fun i _ => by simp only [gotsB, gotL, leSegs, leSeg, leC, and_self]⟩
theorem end_dd {l : List Slot} {H : Heap} {b : BlkS} {ng : Nat} {gs : Nat → GotS} (hsl : slotAt l 6 = some ⟨6, [], .c (.bool true)⟩) (hb0 : getB H.blks 0 = some (opsB b.n b.f)) (hb1 : getB H.blks 1 = some (gotsB ng gs)) : endQ (LeS 2) [.tmp 6] (fun v H' => v = .c (.bool true) ∧ H' = ddH b ng gs) .ret ⟨l, H⟩ := by
  refine end_of ⟨[⟨6, [], .c (.bool true)⟩], ddH b ng gs⟩ (LeS.intro [0, 1] (fun i h => idt2 i h) (by simp only [diff, notIn, Nat.beq, and_self]) rfl (by simp only [slotsLe, hsl, leV, leV1, leC, and_self]) ?_) ?_
  · simp only [ddH, leBlks, nthO, hb0, hb1]
    exact ⟨gots_le ng gs, ops_le b.n b.f false, trivial⟩
  · simp only [endF, resL, resA, St.get, slotAt, Nat.beq_refl, sfx, eqP, noTup, resV]
    refine ⟨?_, ?_⟩ <;> first | rfl | trivial
def ddT (i : Nat) (ng : Nat) : List Slot := [⟨14, [], .c (.int .i64 i)⟩, ⟨12, [], .c (.ptr ⟨7, 0, 0, 0⟩)⟩, ⟨10, [], .c (.ptr ⟨5, 0, 0, 0⟩)⟩, ⟨7, [], .c (.bool true)⟩, ⟨3, [], .c (.ptr ⟨2, 0, 0, 0⟩)⟩, ⟨2, [], .c (.slice ⟨1, 0, 0, 0⟩ false ng)⟩]
def ddS (b : BlkS) (ng : Nat) (gs : Nat → GotS) (x y : RS) (i : Nat) : St := ⟨ddT i ng, ⟨8, [(7, runBI y 3 6), (6, runV y), (5, runBI x 0 4), (4, runV x), (3, opsW (blockS b).n (blockS b).f), (2, blkB b 0), (1, gotsB ng gs), (0, opsB b.n b.f)]⟩⟩
theorem runBI_le {l : List Nat} (s : RS) (o v o' v' : Nat) (h1 : nthO l o' = some o) (h2 : nthO l v' = some v) : leB l (runBI s o v) (runBI s o' v') := ⟨rfl, rfl, id, Nat.le_refl _, fun i _ => by simp only [runBI, runLI, leSegs, leSeg, leC, leA, h1, h2, and_self, implies_true]⟩
def wS (s : RS) : WantS := if s.waits = true then s.want else want0
theorem retNx_eq (s : RS) : retNx s = .tup [.agg (wantL (wS s)), .c (.bool s.waits)] := rfl
def ddW (b : BlkS) (ng : Nat) (gs : Nat → GotS) (x y : RS) (i : Nat) (w : WantS) (c : Bool) : St := ⟨⟨18, [], .c (.bool c)⟩ :: ⟨17, [], .c (.ptr ⟨9, 0, 0, 0⟩)⟩ :: ⟨16, [], .c (.bool c)⟩ :: ⟨15, [], .c (.ptr ⟨8, 0, 0, 0⟩)⟩ :: ddT i ng, ⟨10, (9, wantB w) :: (8, wantB w) :: (ddS b ng gs x y i).heap.blks⟩⟩
theorem want_leE {l : List Nat} {w w' : WantS} (h : w = w') : leB l ⟨10, none, fun _ => wantL w, 49, true⟩ (wantB w') := by subst h; exact want_le w
theorem look_w {x z : RS} (h : Look x z) : wS z = wS x := by
  unfold wS
  rw [h.waits]
  split
  · rename_i e; exact h.want e
  · rfl
def gotB (g : GotS) : Blk := ⟨3, none, fun _ => gotL g, 56, true⟩
def ddG (b : BlkS) (ng : Nat) (gs : Nat → GotS) (x y : RS) (i : Nat) (g : GotS) : St := ⟨⟨20, [], .c (.ptr ⟨8, 0, 0, 0⟩)⟩ :: ddT i ng, ⟨9, (8, gotB g) :: (ddS b ng gs x y i).heap.blks⟩⟩
theorem goti_le {l : List Nat} (g : GotS) : leB l ⟨3, none, fun _ => [.c (.int .u64 g.value), .c (.bool g.ok), .c (.int .i64 g.fault)], 56, true⟩ (gotB g) := ⟨rfl, rfl, id, Nat.le_refl _, fun _ _ => by simp only [gotB, gotL, leSegs, leSeg, leC, and_self]⟩
theorem all_eqb {n : Nat} {f g : Nat → Int} (h : ∀ i, i < n → f i = g i) : ((List.range n).all fun z => eqCb (.int .u64 (f z)) (.int .u64 (g z))) = true := by
  rw [List.all_eq_true]
  intro z hz
  rw [List.mem_range] at hz
  simp [eqCb, h z hz]
theorem one_w {s : RS} {o : OpS} (hl : s.left = false) (hw : s.waits = false) : (oneS s o).waits = true → (oneS s o).left = false := by
  show (fun r : RS => r.waits = true → r.left = false) (oneS s o)
  have h0 : ∀ r : RS, r.waits = s.waits → (r.waits = true → r.left = false) := fun r e1 e2 => by rw [e1, hw] at e2; cases e2
  unfold oneS accR
  repeat' (first | exact h0 _ rfl | exact fun _ => hl | refine ite_P (P := fun r : RS => r.waits = true → r.left = false) ?_ ?_)
theorem next_w : ∀ (t : Nat) {s : RS}, RunOk s → s.b.n - s.pos ≤ t → s.waits = false → (nextS s).waits = true → (nextS s).left = false
  | t, s, h, ht, hw, hn => by
    by_cases hst : s.left = true
    · rw [next_stop (.inl hst), hw] at hn; cases hn
    · have hl : s.left = false := by simpa using hst
      have hp := h.go hl
      match t, ht with
      | 0, ht => omega
      | t + 1, ht =>
        rw [next_step h hl hw] at hn ⊢
        by_cases h1 : (oneS s (s.b.f s.pos)).waits = true
        · rw [next_stop (.inr h1)]
          exact one_w hl hw h1
        · exact next_w t (h.one hl) (by rw [one_b, one_pos]; omega) (by simpa using h1) hn
set_option maxHeartbeats 16000000 in
theorem con4 (b : BlkS) (c : CoreS) (ng : Nat) (gs : Nat → GotS) (hw : BlkWf b) (hx : ∀ i, i < 31 → U (c.x i)) (hsp : ∀ i, i < 2 → U (c.sp i)) (hgs : ∀ i, i < ng → U (gs i).value) : Con Try.prog 4 [.agg (blkL b 0), .agg (coreL c), .c (.slice ⟨1, 0, 0, 0⟩ false ng)] (ddH b ng gs) (fun v H' => v = .c (.bool true) ∧ H' = ddH b ng gs) := by
  (refine con_of_run mixed (fn := Try.f4) (by kernel_rfl) (by kernel_rfl) C4_ok (rs := [.tmp 6]) (by kernel_rfl) (Nat.le_of_ble_eq_true (by kernel_rfl)) ?_; unfold C4; simp only [initT, Nat.reduceAdd])
  repeat' (first | refine run_seq ?_ | refine run_skip ?_ | (refine run_region fun K hK => ?_; (try (simp (maxSteps := 10000000) only [blkL, ddH, C4r0, C4r1, C4r2, C4r3, C4r5, C4r6, C4r7, C4r8, C4r9, C4r10, C4r11, C4r12, C4r13, C4r14, C4r15, C4r16, C4r17, C4r18, C4r19, C4r20, C4r21, C4r22, C4r23, C4r24, C4r25, C4r26, C4r27, C4r28, C4r29, C4r30, rwp_nil, rwp_cons, rwpK_app, aop, gpath, St.get, slotAt, sfx, eqP, segsOf, St.put, addBlk, getB, setB, delB, ld1, ldn, st1, stn, setRow, rowNeed, segAt, nsub, bin, un, eqB, isShift, sameK, arith, shiftR, getsl, selB_or, selB_and, beqb, shed, addN, Nat.beq, Seg.size, sizes, imp, needP, andN, appL, argsOf, ptrsOf, aasOf, cut, takeS, dropS, putS, partsOf, fillS, fieldOf, nthA, negIf, nilq, nilB, eqS, eqF, eqS1, andP, kin, slcS, strOk, plusA, bndHi, leN, optG, roH, roL, initT, exOk, exAll, wrAddr, Nat.reduceAdd, Nat.reduceSub, Nat.reduceMul, Int.reduceToNat, List.append_nil, List.nil_append, List.cons_append, eqT, idxT, cat, cpy, ite_int, ite_bool, ite_seg, ite_segs, ite_nil, ite_twice, Int.toNat_natCast, app, addBs, tob])); (repeat (first | (refine And.intro ?_ ?_; · (first | trivial | assumption | omega | (intros; first | trivial | omega))) | ((first | (refine call_t _ (con9 _) ?_; rintro v H' ⟨rfl, rfl⟩) | refine call_q _ (con9 _) ?_ | refine call_g _ (imp_of (con9 _)) ?_); simp (maxSteps := 10000000) only [blkL, ddH, C4r0, C4r1, C4r2, C4r3, C4r5, C4r6, C4r7, C4r8, C4r9, C4r10, C4r11, C4r12, C4r13, C4r14, C4r15, C4r16, C4r17, C4r18, C4r19, C4r20, C4r21, C4r22, C4r23, C4r24, C4r25, C4r26, C4r27, C4r28, C4r29, C4r30, rwp_nil, rwp_cons, rwpK_app, aop, gpath, St.get, slotAt, sfx, eqP, segsOf, St.put, addBlk, getB, setB, delB, ld1, ldn, st1, stn, setRow, rowNeed, segAt, nsub, bin, un, eqB, isShift, sameK, arith, shiftR, getsl, selB_or, selB_and, beqb, shed, addN, Nat.beq, Seg.size, sizes, imp, needP, andN, appL, argsOf, ptrsOf, aasOf, cut, takeS, dropS, putS, partsOf, fillS, fieldOf, nthA, negIf, nilq, nilB, eqS, eqF, eqS1, andP, kin, slcS, strOk, plusA, bndHi, leN, optG, roH, roL, initT, exOk, exAll, wrAddr, Nat.reduceAdd, Nat.reduceSub, Nat.reduceMul, Int.reduceToNat, List.append_nil, List.nil_append, List.cons_append, eqT, idxT, cat, cpy, ite_int, ite_bool, ite_seg, ite_segs, ite_nil, ite_twice, Int.toNat_natCast, app, addBs, tob]))); with_reducible refine hK _ ?_; clear hK K) | (refine run_cond rfl (fun hc => ?_) (fun hc => ?_) <;> try (simp only [*, Bool.true_eq_false, Bool.false_eq_true, Bool.not_true, Bool.not_false, Bool.true_or, Bool.or_true, Bool.false_or, Bool.or_false, Bool.false_and, Bool.and_false, bne_self_eq_false, beq_self_eq_true] at hc; done)) | refine run_block ?_ | refine run_ret ?_ | refine run_nil ?_ | refine run_exit ?_ | refine blk_normal ?_ | refine blk_ret ?_ | refine blk_here ?_ | refine blk_there rfl ?_ | refine loop_exit ?_ | refine loop_ret ?_ | refine un_exit ?_ | refine un_ret ?_ | refine unE_exit ?_ | refine unE_ret ?_ | refine un_normal ?_)
  by_cases hr : rightS b = true
  rotate_left
  · have e3 : ∀ n, retBlk b n = .tup [.agg [.c (.int .u64 0), .c (.int .i64 0), .c (.int .i64 0), .c (.nils)], .c (.int .i64 4)] := fun n => by simp only [retBlk, hr, if_false, Bool.false_eq_true]
    have e4 : newBlk b = [] := by simp only [newBlk, hr, if_false, Bool.false_eq_true]
    repeat' (first | refine run_seq ?_ | refine run_skip ?_ | (refine run_region fun K hK => ?_; (try (simp (maxSteps := 10000000) only [blkL, opsB, gotsB, e3, e4, partsOf, fillS, C4r0, C4r1, C4r2, C4r3, C4r4, C4r5, C4r6, C4r8, C4r9, C4r10, C4r11, C4r12, C4r13, C4r14, C4r15, C4r16, C4r17, C4r18, C4r19, C4r20, C4r21, C4r22, C4r23, C4r24, C4r25, C4r26, C4r27, C4r28, C4r29, C4r30, rwp_nil, rwp_cons, rwpK_app, aop, gpath, St.get, slotAt, sfx, eqP, segsOf, St.put, addBlk, getB, setB, delB, ld1, ldn, st1, stn, setRow, rowNeed, segAt, nsub, bin, un, eqB, isShift, sameK, arith, shiftR, getsl, selB_or, selB_and, beqb, shed, addN, Nat.beq, Seg.size, sizes, imp, needP, andN, appL, argsOf, ptrsOf, aasOf, cut, takeS, dropS, putS, partsOf, fillS, fieldOf, nthA, negIf, nilq, nilB, eqS, eqF, eqS1, andP, kin, slcS, strOk, plusA, bndHi, leN, optG, roH, roL, initT, exOk, exAll, wrAddr, Nat.reduceAdd, Nat.reduceSub, Nat.reduceMul, Int.reduceToNat, List.append_nil, List.nil_append, List.cons_append, eqT, idxT, cat, cpy, ite_int, ite_bool, ite_seg, ite_segs, ite_nil, ite_twice, Int.toNat_natCast, app, addBs, tob])); (repeat (first | (refine And.intro ?_ ?_; · (first | trivial | assumption | omega | (intros; first | trivial | omega))) | ((first | (refine call_t _ (con13_at b 0 _ _ _ rfl (Nat.le_of_ble_eq_true rfl) (by simp [roL, keysLt])) ?_; rintro v H' ⟨rfl, rfl⟩) | refine call_q _ (con13_at b 0 _ _ _ rfl (Nat.le_of_ble_eq_true rfl) (by simp [roL, keysLt])) ?_ | refine call_g _ (imp_of (con13_at b 0 _ _ _ rfl (Nat.le_of_ble_eq_true rfl) (by simp [roL, keysLt]))) ?_); simp (maxSteps := 10000000) only [blkL, opsB, gotsB, e3, e4, partsOf, fillS, C4r0, C4r1, C4r2, C4r3, C4r4, C4r5, C4r6, C4r8, C4r9, C4r10, C4r11, C4r12, C4r13, C4r14, C4r15, C4r16, C4r17, C4r18, C4r19, C4r20, C4r21, C4r22, C4r23, C4r24, C4r25, C4r26, C4r27, C4r28, C4r29, C4r30, rwp_nil, rwp_cons, rwpK_app, aop, gpath, St.get, slotAt, sfx, eqP, segsOf, St.put, addBlk, getB, setB, delB, ld1, ldn, st1, stn, setRow, rowNeed, segAt, nsub, bin, un, eqB, isShift, sameK, arith, shiftR, getsl, selB_or, selB_and, beqb, shed, addN, Nat.beq, Seg.size, sizes, imp, needP, andN, appL, argsOf, ptrsOf, aasOf, cut, takeS, dropS, putS, partsOf, fillS, fieldOf, nthA, negIf, nilq, nilB, eqS, eqF, eqS1, andP, kin, slcS, strOk, plusA, bndHi, leN, optG, roH, roL, initT, exOk, exAll, wrAddr, Nat.reduceAdd, Nat.reduceSub, Nat.reduceMul, Int.reduceToNat, List.append_nil, List.nil_append, List.cons_append, eqT, idxT, cat, cpy, ite_int, ite_bool, ite_seg, ite_segs, ite_nil, ite_twice, Int.toNat_natCast, app, addBs, tob]))); with_reducible refine hK _ ?_; clear hK K) | (refine run_cond rfl (fun hc => ?_) (fun hc => ?_) <;> try (simp only [*, Bool.true_eq_false, Bool.false_eq_true, Bool.not_true, Bool.not_false, Bool.true_or, Bool.or_true, Bool.false_or, Bool.or_false, Bool.false_and, Bool.and_false, bne_self_eq_false, beq_self_eq_true] at hc; done)) | refine run_block ?_ | refine run_ret ?_ | refine run_nil ?_ | refine run_exit ?_ | refine blk_normal ?_ | refine blk_ret ?_ | refine blk_here ?_ | refine blk_there rfl ?_ | refine loop_exit ?_ | refine loop_ret ?_ | refine un_exit ?_ | refine un_ret ?_ | refine unE_exit ?_ | refine unE_ret ?_ | refine un_normal ?_)
    · exact end_dd rfl rfl rfl
    · exact absurd hc (by decide)
  have hn := right_n hr
  have hrb : rightS (blockS b) = true := blkIt_ok hr
  have hwb : BlkWf (blockS b) := blkIt_wf hr hw
  have e3 : ∀ n, retBlk b n = .tup [.agg (blkL (blockS b) n), .c (.int .i64 0)] := fun n => by simp only [retBlk, hr, if_true]
  have e4 : newBlk b = [opsW (blockS b).n (blockS b).f] := by simp only [newBlk, hr, if_true]
  have hno : newOk (blockS b) c = newOk b c := by unfold newOk blockS; rw [blkIt_el]
  repeat' (first | refine run_seq ?_ | refine run_skip ?_ | (refine run_region fun K hK => ?_; (try (simp (maxSteps := 10000000) only [blkL, opsB, gotsB, opsW, e3, e4, partsOf, fillS, C4r0, C4r1, C4r2, C4r3, C4r4, C4r5, C4r6, C4r8, C4r9, C4r10, C4r11, C4r12, C4r13, C4r14, C4r15, C4r16, C4r17, C4r18, C4r19, C4r20, C4r21, C4r22, C4r23, C4r24, C4r25, C4r26, C4r27, C4r28, C4r29, C4r30, rwp_nil, rwp_cons, rwpK_app, aop, gpath, St.get, slotAt, sfx, eqP, segsOf, St.put, addBlk, getB, setB, delB, ld1, ldn, st1, stn, setRow, rowNeed, segAt, nsub, bin, un, eqB, isShift, sameK, arith, shiftR, getsl, selB_or, selB_and, beqb, shed, addN, Nat.beq, Seg.size, sizes, imp, needP, andN, appL, argsOf, ptrsOf, aasOf, cut, takeS, dropS, putS, partsOf, fillS, fieldOf, nthA, negIf, nilq, nilB, eqS, eqF, eqS1, andP, kin, slcS, strOk, plusA, bndHi, leN, optG, roH, roL, initT, exOk, exAll, wrAddr, Nat.reduceAdd, Nat.reduceSub, Nat.reduceMul, Int.reduceToNat, List.append_nil, List.nil_append, List.cons_append, eqT, idxT, cat, cpy, ite_int, ite_bool, ite_seg, ite_segs, ite_nil, ite_twice, Int.toNat_natCast, app, addBs, tob])); (repeat (first | (refine And.intro ?_ ?_; · (first | trivial | assumption | omega | (intros; first | trivial | omega))) | ((first | (refine call_t _ (con13_at b 0 _ _ _ rfl (Nat.le_of_ble_eq_true rfl) (by simp [roL, keysLt])) ?_; rintro v H' ⟨rfl, rfl⟩) | refine call_q _ (con13_at b 0 _ _ _ rfl (Nat.le_of_ble_eq_true rfl) (by simp [roL, keysLt])) ?_ | refine call_g _ (imp_of (con13_at b 0 _ _ _ rfl (Nat.le_of_ble_eq_true rfl) (by simp [roL, keysLt]))) ?_); simp (maxSteps := 10000000) only [blkL, opsB, gotsB, opsW, e3, e4, partsOf, fillS, C4r0, C4r1, C4r2, C4r3, C4r4, C4r5, C4r6, C4r8, C4r9, C4r10, C4r11, C4r12, C4r13, C4r14, C4r15, C4r16, C4r17, C4r18, C4r19, C4r20, C4r21, C4r22, C4r23, C4r24, C4r25, C4r26, C4r27, C4r28, C4r29, C4r30, rwp_nil, rwp_cons, rwpK_app, aop, gpath, St.get, slotAt, sfx, eqP, segsOf, St.put, addBlk, getB, setB, delB, ld1, ldn, st1, stn, setRow, rowNeed, segAt, nsub, bin, un, eqB, isShift, sameK, arith, shiftR, getsl, selB_or, selB_and, beqb, shed, addN, Nat.beq, Seg.size, sizes, imp, needP, andN, appL, argsOf, ptrsOf, aasOf, cut, takeS, dropS, putS, partsOf, fillS, fieldOf, nthA, negIf, nilq, nilB, eqS, eqF, eqS1, andP, kin, slcS, strOk, plusA, bndHi, leN, optG, roH, roL, initT, exOk, exAll, wrAddr, Nat.reduceAdd, Nat.reduceSub, Nat.reduceMul, Int.reduceToNat, List.append_nil, List.nil_append, List.cons_append, eqT, idxT, cat, cpy, ite_int, ite_bool, ite_seg, ite_segs, ite_nil, ite_twice, Int.toNat_natCast, app, addBs, tob]))); with_reducible refine hK _ ?_; clear hK K) | (refine run_cond rfl (fun hc => ?_) (fun hc => ?_) <;> try (simp only [*, Bool.true_eq_false, Bool.false_eq_true, Bool.not_true, Bool.not_false, Bool.true_or, Bool.or_true, Bool.false_or, Bool.or_false, Bool.false_and, Bool.and_false, bne_self_eq_false, beq_self_eq_true] at hc; done)) | refine run_block ?_ | refine run_ret ?_ | refine run_nil ?_ | refine run_exit ?_ | refine blk_normal ?_ | refine blk_ret ?_ | refine blk_here ?_ | refine blk_there rfl ?_ | refine loop_exit ?_ | refine loop_ret ?_ | refine un_exit ?_ | refine un_ret ?_ | refine unE_exit ?_ | refine unE_ret ?_ | refine un_normal ?_)
  clear hc
  by_cases ho : newOk b c = true
  rotate_left
  · have ho1 : newOk b c = false := by simpa using ho
    have ho2 : newOk (blockS b) c = false := by rw [hno]; exact ho1
    repeat' (first | refine run_seq ?_ | refine run_skip ?_ | (refine run_region fun K hK => ?_; (try (simp (maxSteps := 10000000) only [blkL, coreL, opsB, gotsB, opsW, C4r0, C4r1, C4r2, C4r3, C4r4, C4r5, C4r6, C4r7, C4r8, C4r9, C4r10, C4r12, C4r13, C4r14, C4r15, C4r16, C4r17, C4r18, C4r19, C4r20, C4r21, C4r22, C4r23, C4r24, C4r25, C4r26, C4r27, C4r28, C4r29, C4r30, rwp_nil, rwp_cons, rwpK_app, aop, gpath, St.get, slotAt, sfx, eqP, segsOf, St.put, addBlk, getB, setB, delB, ld1, ldn, st1, stn, setRow, rowNeed, segAt, nsub, bin, un, eqB, isShift, sameK, arith, shiftR, getsl, selB_or, selB_and, beqb, shed, addN, Nat.beq, Seg.size, sizes, imp, needP, andN, appL, argsOf, ptrsOf, aasOf, cut, takeS, dropS, putS, partsOf, fillS, fieldOf, nthA, negIf, nilq, nilB, eqS, eqF, eqS1, andP, kin, slcS, strOk, plusA, bndHi, leN, optG, roH, roL, initT, exOk, exAll, wrAddr, Nat.reduceAdd, Nat.reduceSub, Nat.reduceMul, Int.reduceToNat, List.append_nil, List.nil_append, List.cons_append, eqT, idxT, cat, cpy, ite_int, ite_bool, ite_seg, ite_segs, ite_nil, ite_twice, Int.toNat_natCast, app, addBs, tob])); (repeat (first | (refine And.intro ?_ ?_; · (first | trivial | assumption | omega | (intros; first | trivial | omega))) | ((first | (refine call_t _ (con18_bat b c hw hr ho1 0 _ _ _ rfl (Nat.le_of_ble_eq_true rfl) (by simp [roL, keysLt])) ?_; rintro v H' ⟨rfl, rfl⟩) | refine call_q _ (con18_bat b c hw hr ho1 0 _ _ _ rfl (Nat.le_of_ble_eq_true rfl) (by simp [roL, keysLt])) ?_ | refine call_g _ (imp_of (con18_bat b c hw hr ho1 0 _ _ _ rfl (Nat.le_of_ble_eq_true rfl) (by simp [roL, keysLt]))) ?_ | (refine call_t _ (con18_bat (blockS b) c hwb hrb ho2 4 _ _ _ rfl (Nat.le_of_ble_eq_true rfl) (by simp [roL, keysLt])) ?_; rintro v H' ⟨rfl, rfl⟩) | refine call_q _ (con18_bat (blockS b) c hwb hrb ho2 4 _ _ _ rfl (Nat.le_of_ble_eq_true rfl) (by simp [roL, keysLt])) ?_ | refine call_g _ (imp_of (con18_bat (blockS b) c hwb hrb ho2 4 _ _ _ rfl (Nat.le_of_ble_eq_true rfl) (by simp [roL, keysLt]))) ?_); simp (maxSteps := 10000000) only [blkL, coreL, opsB, gotsB, opsW, C4r0, C4r1, C4r2, C4r3, C4r4, C4r5, C4r6, C4r7, C4r8, C4r9, C4r10, C4r12, C4r13, C4r14, C4r15, C4r16, C4r17, C4r18, C4r19, C4r20, C4r21, C4r22, C4r23, C4r24, C4r25, C4r26, C4r27, C4r28, C4r29, C4r30, rwp_nil, rwp_cons, rwpK_app, aop, gpath, St.get, slotAt, sfx, eqP, segsOf, St.put, addBlk, getB, setB, delB, ld1, ldn, st1, stn, setRow, rowNeed, segAt, nsub, bin, un, eqB, isShift, sameK, arith, shiftR, getsl, selB_or, selB_and, beqb, shed, addN, Nat.beq, Seg.size, sizes, imp, needP, andN, appL, argsOf, ptrsOf, aasOf, cut, takeS, dropS, putS, partsOf, fillS, fieldOf, nthA, negIf, nilq, nilB, eqS, eqF, eqS1, andP, kin, slcS, strOk, plusA, bndHi, leN, optG, roH, roL, initT, exOk, exAll, wrAddr, Nat.reduceAdd, Nat.reduceSub, Nat.reduceMul, Int.reduceToNat, List.append_nil, List.nil_append, List.cons_append, eqT, idxT, cat, cpy, ite_int, ite_bool, ite_seg, ite_segs, ite_nil, ite_twice, Int.toNat_natCast, app, addBs, tob]))); with_reducible refine hK _ ?_; clear hK K) | (refine run_cond rfl (fun hc => ?_) (fun hc => ?_) <;> try (simp only [*, Bool.true_eq_false, Bool.false_eq_true, Bool.not_true, Bool.not_false, Bool.true_or, Bool.or_true, Bool.false_or, Bool.or_false, Bool.false_and, Bool.and_false, bne_self_eq_false, beq_self_eq_true] at hc; done)) | refine run_block ?_ | refine run_ret ?_ | refine run_nil ?_ | refine run_exit ?_ | refine blk_normal ?_ | refine blk_ret ?_ | refine blk_here ?_ | refine blk_there rfl ?_ | refine loop_exit ?_ | refine loop_ret ?_ | refine un_exit ?_ | refine un_ret ?_ | refine unE_exit ?_ | refine unE_ret ?_ | refine un_normal ?_)
    · exact end_dd rfl rfl rfl
    · exact absurd hc (by decide)
  have ho2 : newOk (blockS b) c = true := by rw [hno]; exact ho
  repeat' (first | refine run_seq ?_ | refine run_skip ?_ | (refine run_region fun K hK => ?_; (try (simp (maxSteps := 10000000) only [blkL, coreL, opsB, gotsB, opsW, C4r0, C4r1, C4r2, C4r3, C4r4, C4r5, C4r6, C4r7, C4r8, C4r9, C4r10, C4r12, C4r13, C4r14, C4r15, C4r16, C4r17, C4r18, C4r19, C4r20, C4r21, C4r22, C4r23, C4r24, C4r25, C4r26, C4r27, C4r28, C4r29, C4r30, rwp_nil, rwp_cons, rwpK_app, aop, gpath, St.get, slotAt, sfx, eqP, segsOf, St.put, addBlk, getB, setB, delB, ld1, ldn, st1, stn, setRow, rowNeed, segAt, nsub, bin, un, eqB, isShift, sameK, arith, shiftR, getsl, selB_or, selB_and, beqb, shed, addN, Nat.beq, Seg.size, sizes, imp, needP, andN, appL, argsOf, ptrsOf, aasOf, cut, takeS, dropS, putS, partsOf, fillS, fieldOf, nthA, negIf, nilq, nilB, eqS, eqF, eqS1, andP, kin, slcS, strOk, plusA, bndHi, leN, optG, roH, roL, initT, exOk, exAll, wrAddr, Nat.reduceAdd, Nat.reduceSub, Nat.reduceMul, Int.reduceToNat, List.append_nil, List.nil_append, List.cons_append, eqT, idxT, cat, cpy, ite_int, ite_bool, ite_seg, ite_segs, ite_nil, ite_twice, Int.toNat_natCast, app, addBs, tob])); (repeat (first | (refine And.intro ?_ ?_; · (first | trivial | assumption | omega | (intros; first | trivial | omega))) | ((first | (refine call_t _ (con18_cat b c hw hr ho 0 _ _ _ rfl (Nat.le_of_ble_eq_true rfl) (by simp [roL, keysLt])) ?_; rintro v H' ⟨rfl, rfl⟩) | refine call_q _ (con18_cat b c hw hr ho 0 _ _ _ rfl (Nat.le_of_ble_eq_true rfl) (by simp [roL, keysLt])) ?_ | refine call_g _ (imp_of (con18_cat b c hw hr ho 0 _ _ _ rfl (Nat.le_of_ble_eq_true rfl) (by simp [roL, keysLt]))) ?_ | (refine call_t _ (con18_cat (blockS b) c hwb hrb ho2 4 _ _ _ rfl (Nat.le_of_ble_eq_true rfl) (by simp [roL, keysLt])) ?_; rintro v H' ⟨rfl, rfl⟩) | refine call_q _ (con18_cat (blockS b) c hwb hrb ho2 4 _ _ _ rfl (Nat.le_of_ble_eq_true rfl) (by simp [roL, keysLt])) ?_ | refine call_g _ (imp_of (con18_cat (blockS b) c hwb hrb ho2 4 _ _ _ rfl (Nat.le_of_ble_eq_true rfl) (by simp [roL, keysLt]))) ?_); simp (maxSteps := 10000000) only [blkL, coreL, opsB, gotsB, opsW, C4r0, C4r1, C4r2, C4r3, C4r4, C4r5, C4r6, C4r7, C4r8, C4r9, C4r10, C4r12, C4r13, C4r14, C4r15, C4r16, C4r17, C4r18, C4r19, C4r20, C4r21, C4r22, C4r23, C4r24, C4r25, C4r26, C4r27, C4r28, C4r29, C4r30, rwp_nil, rwp_cons, rwpK_app, aop, gpath, St.get, slotAt, sfx, eqP, segsOf, St.put, addBlk, getB, setB, delB, ld1, ldn, st1, stn, setRow, rowNeed, segAt, nsub, bin, un, eqB, isShift, sameK, arith, shiftR, getsl, selB_or, selB_and, beqb, shed, addN, Nat.beq, Seg.size, sizes, imp, needP, andN, appL, argsOf, ptrsOf, aasOf, cut, takeS, dropS, putS, partsOf, fillS, fieldOf, nthA, negIf, nilq, nilB, eqS, eqF, eqS1, andP, kin, slcS, strOk, plusA, bndHi, leN, optG, roH, roL, initT, exOk, exAll, wrAddr, Nat.reduceAdd, Nat.reduceSub, Nat.reduceMul, Int.reduceToNat, List.append_nil, List.nil_append, List.cons_append, eqT, idxT, cat, cpy, ite_int, ite_bool, ite_seg, ite_segs, ite_nil, ite_twice, Int.toNat_natCast, app, addBs, tob]))); with_reducible refine hK _ ?_; clear hK K) | (refine run_cond rfl (fun hc => ?_) (fun hc => ?_) <;> try (simp only [*, Bool.true_eq_false, Bool.false_eq_true, Bool.not_true, Bool.not_false, Bool.true_or, Bool.or_true, Bool.false_or, Bool.or_false, Bool.false_and, Bool.and_false, bne_self_eq_false, beq_self_eq_true] at hc; done)) | refine run_block ?_ | refine run_ret ?_ | refine run_nil ?_ | refine run_exit ?_ | refine blk_normal ?_ | refine blk_ret ?_ | refine blk_here ?_ | refine blk_there rfl ?_ | refine loop_exit ?_ | refine loop_ret ?_ | refine un_exit ?_ | refine un_ret ?_ | refine unE_exit ?_ | refine unE_ret ?_ | refine un_normal ?_)
  clear hc
  (refine run_regionL fun K hK => ?_; (try (simp (maxSteps := 10000000) only [coreL, C4r0, C4r1, C4r2, C4r3, C4r4, C4r5, C4r6, C4r7, C4r8, C4r9, C4r10, C4r11, C4r12, C4r13, C4r14, C4r15, C4r16, C4r17, C4r18, C4r19, C4r20, C4r21, C4r22, C4r23, C4r24, C4r25, C4r26, C4r27, C4r28, C4r29, C4r30, rwp_nil, rwp_cons, rwpK_app, aop, gpath, St.get, slotAt, sfx, eqP, segsOf, St.put, addBlk, getB, setB, delB, ld1, ldn, st1, stn, setRow, rowNeed, segAt, nsub, bin, un, eqB, isShift, sameK, arith, shiftR, getsl, selB_or, selB_and, beqb, shed, addN, Nat.beq, Seg.size, sizes, imp, needP, andN, appL, argsOf, ptrsOf, aasOf, cut, takeS, dropS, putS, partsOf, fillS, fieldOf, nthA, negIf, nilq, nilB, eqS, eqF, eqS1, andP, kin, slcS, strOk, plusA, bndHi, leN, optG, roH, roL, initT, exOk, exAll, wrAddr, Nat.reduceAdd, Nat.reduceSub, Nat.reduceMul, Int.reduceToNat, List.append_nil, List.nil_append, List.cons_append, eqT, idxT, cat, cpy, ite_int, ite_bool, ite_seg, ite_segs, ite_nil, ite_twice, Int.toNat_natCast, app, addBs, tob])); (repeat (first | (refine And.intro ?_ ?_; · first | trivial | assumption | omega))); refine hK _ (ddS b ng gs (newR b c) (newR (blockS b) c) 0) (LeS.intro [0, 1, 2, 4, 6, 7, 8, 9] (fun i h => idtt i h) (by simp only [diff, notIn, Nat.beq, and_self]) rfl (by simp only [ddS, ddT, slotsLe, slotAt, Nat.beq, leV, leV1, leC, leA, nthO, Int.natCast_zero, Int.ofNat_zero, and_self]) ⟨runBI_le _ 4 8 3 6 rfl rfl, rv_le _, runBI_le _ 0 6 0 4 rfl rfl, rv_le _, opsw_le _ _ _ (fun _ _ => rfl), blk_le' b 0 0 rfl, gots_le ng gs, ops_le b.n b.f false, trivial⟩) ?_; clear hK K)
  refine run_block ?_
  refine run_loop (fun m st => ∃ i x y, m = b.n + 1 - i ∧ i ≤ b.n ∧ x.b = b ∧ y.b = blockS b ∧ RunOk x ∧ RunOk y ∧ Chain x y ∧ x.waits = false ∧ y.waits = false ∧ (x.left = true ∨ i ≤ x.pos) ∧ st = ddS b ng gs x y i) (b.n + 1) ⟨0, newR b c, newR (blockS b) c, rfl, Nat.zero_le _, rfl, rfl, new_ok hr hw hx hsp, new_ok hrb hwb hx hsp, new_chain hx hsp _ hr hw, rfl, rfl, .inr (Nat.zero_le _), rfl⟩ ?_
  rintro m st ⟨i, x, y, rfl, hi, hxb, hyb, okx, oky, hch, hwx, hwy, hlp, rfl⟩
  subst hxb
  obtain ⟨okx', hstx, hbx, hpx, hgx⟩ := next_ok _ okx (Nat.le_refl _)
  obtain ⟨oky', hsty, hby, hpy, hgy⟩ := next_ok _ oky (Nat.le_refl _)
  have hch' := hch.next
  have hlk := hch'.look
  unfold ddS ddT
  repeat' (first | refine run_seq ?_ | refine run_skip ?_ | (refine run_region fun K hK => ?_; (try (simp (maxSteps := 10000000) only [opL, blkB, blkL, opsB, gotsB, opsW, retNx_eq, wantL, partsOf, fillS, C4r0, C4r1, C4r2, C4r3, C4r4, C4r5, C4r6, C4r7, C4r8, C4r9, C4r10, C4r11, C4r12, C4r13, C4r15, C4r16, C4r17, C4r18, C4r19, C4r20, C4r21, C4r22, C4r23, C4r24, C4r25, C4r26, C4r27, C4r28, C4r29, C4r30, rwp_nil, rwp_cons, rwpK_app, aop, gpath, St.get, slotAt, sfx, eqP, segsOf, St.put, addBlk, getB, setB, delB, ld1, ldn, st1, stn, setRow, rowNeed, segAt, nsub, bin, un, eqB, isShift, sameK, arith, shiftR, getsl, selB_or, selB_and, beqb, shed, addN, Nat.beq, Seg.size, sizes, imp, needP, andN, appL, argsOf, ptrsOf, aasOf, cut, takeS, dropS, putS, partsOf, fillS, fieldOf, nthA, negIf, nilq, nilB, eqS, eqF, eqS1, andP, kin, slcS, strOk, plusA, bndHi, leN, optG, roH, roL, initT, exOk, exAll, wrAddr, Nat.reduceAdd, Nat.reduceSub, Nat.reduceMul, Int.reduceToNat, List.append_nil, List.nil_append, List.cons_append, eqT, idxT, cat, cpy, ite_int, ite_bool, ite_seg, ite_segs, ite_nil, ite_twice, Int.toNat_natCast, app, addBs, tob])); (repeat (first | (refine And.intro ?_ ?_; · (first | trivial | assumption | omega | (intros; first | trivial | omega))) | ((first | (refine call_t _ (con19_at x okx 5 0 4 8 _ _ rfl rfl rfl rfl rfl rfl (Nat.le_of_ble_eq_true rfl) (Nat.le_of_ble_eq_true rfl) (Nat.le_of_ble_eq_true rfl) (by simp [roL, keysLt])) ?_; rintro v H' ⟨rfl, rfl⟩) | refine call_q _ (con19_at x okx 5 0 4 8 _ _ rfl rfl rfl rfl rfl rfl (Nat.le_of_ble_eq_true rfl) (Nat.le_of_ble_eq_true rfl) (Nat.le_of_ble_eq_true rfl) (by simp [roL, keysLt])) ?_ | refine call_g _ (imp_of (con19_at x okx 5 0 4 8 _ _ rfl rfl rfl rfl rfl rfl (Nat.le_of_ble_eq_true rfl) (Nat.le_of_ble_eq_true rfl) (Nat.le_of_ble_eq_true rfl) (by simp [roL, keysLt]))) ?_); simp (maxSteps := 10000000) only [opL, blkB, blkL, opsB, gotsB, opsW, retNx_eq, wantL, partsOf, fillS, C4r0, C4r1, C4r2, C4r3, C4r4, C4r5, C4r6, C4r7, C4r8, C4r9, C4r10, C4r11, C4r12, C4r13, C4r15, C4r16, C4r17, C4r18, C4r19, C4r20, C4r21, C4r22, C4r23, C4r24, C4r25, C4r26, C4r27, C4r28, C4r29, C4r30, rwp_nil, rwp_cons, rwpK_app, aop, gpath, St.get, slotAt, sfx, eqP, segsOf, St.put, addBlk, getB, setB, delB, ld1, ldn, st1, stn, setRow, rowNeed, segAt, nsub, bin, un, eqB, isShift, sameK, arith, shiftR, getsl, selB_or, selB_and, beqb, shed, addN, Nat.beq, Seg.size, sizes, imp, needP, andN, appL, argsOf, ptrsOf, aasOf, cut, takeS, dropS, putS, partsOf, fillS, fieldOf, nthA, negIf, nilq, nilB, eqS, eqF, eqS1, andP, kin, slcS, strOk, plusA, bndHi, leN, optG, roH, roL, initT, exOk, exAll, wrAddr, Nat.reduceAdd, Nat.reduceSub, Nat.reduceMul, Int.reduceToNat, List.append_nil, List.nil_append, List.cons_append, eqT, idxT, cat, cpy, ite_int, ite_bool, ite_seg, ite_segs, ite_nil, ite_twice, Int.toNat_natCast, app, addBs, tob]))); with_reducible refine hK _ ?_; clear hK K) | (refine run_cond rfl (fun hc => ?_) (fun hc => ?_) <;> try (simp only [*, Bool.true_eq_false, Bool.false_eq_true, Bool.not_true, Bool.not_false, Bool.true_or, Bool.or_true, Bool.false_or, Bool.or_false, Bool.false_and, Bool.and_false, bne_self_eq_false, beq_self_eq_true] at hc; done)) | refine run_block ?_ | refine run_ret ?_ | refine run_nil ?_ | refine run_exit ?_ | refine blk_normal ?_ | refine blk_ret ?_ | refine blk_here ?_ | refine blk_there rfl ?_ | refine loop_exit ?_ | refine loop_ret ?_ | refine un_exit ?_ | refine un_ret ?_ | refine unE_exit ?_ | refine unE_ret ?_ | refine un_normal ?_)
  · (refine run_regionL fun K hK => ?_; (try (simp (maxSteps := 10000000) only [opL, opsW, gotsB, blkB, blkL, opsB, retNx_eq, wantL, partsOf, fillS, C4r0, C4r1, C4r2, C4r3, C4r4, C4r5, C4r6, C4r7, C4r8, C4r9, C4r10, C4r11, C4r12, C4r13, C4r14, C4r15, C4r16, C4r17, C4r18, C4r19, C4r20, C4r21, C4r22, C4r23, C4r24, C4r25, C4r26, C4r27, C4r28, C4r29, C4r30, rwp_nil, rwp_cons, rwpK_app, aop, gpath, St.get, slotAt, sfx, eqP, segsOf, St.put, addBlk, getB, setB, delB, ld1, ldn, st1, stn, setRow, rowNeed, segAt, nsub, bin, un, eqB, isShift, sameK, arith, shiftR, getsl, selB_or, selB_and, beqb, shed, addN, Nat.beq, Seg.size, sizes, imp, needP, andN, appL, argsOf, ptrsOf, aasOf, cut, takeS, dropS, putS, partsOf, fillS, fieldOf, nthA, negIf, nilq, nilB, eqS, eqF, eqS1, andP, kin, slcS, strOk, plusA, bndHi, leN, optG, roH, roL, initT, exOk, exAll, wrAddr, Nat.reduceAdd, Nat.reduceSub, Nat.reduceMul, Int.reduceToNat, List.append_nil, List.nil_append, List.cons_append, eqT, idxT, cat, cpy, ite_int, ite_bool, ite_seg, ite_segs, ite_nil, ite_twice, Int.toNat_natCast, app, addBs, tob])); (repeat (first | (refine And.intro ?_ ?_; · (first | trivial | assumption | omega | (intros; first | trivial | omega))) | ((first | (refine call_t _ (con19_at y oky 7 3 6 _ _ _ rfl rfl rfl rfl (by rw [hyb]; rfl) rfl (Nat.le_of_ble_eq_true rfl) (Nat.le_of_ble_eq_true rfl) (Nat.le_of_ble_eq_true rfl) (by simp [roL, keysLt])) ?_; rintro v H' ⟨rfl, rfl⟩) | (refine call_q _ (con19_at y oky 7 3 6 _ _ _ rfl rfl rfl rfl (by rw [hyb]; rfl) rfl (Nat.le_of_ble_eq_true rfl) (Nat.le_of_ble_eq_true rfl) (Nat.le_of_ble_eq_true rfl) (by simp [roL, keysLt])) ?_) | (refine call_g _ (imp_of (con19_at y oky 7 3 6 _ _ _ rfl rfl rfl rfl (by rw [hyb]; rfl) rfl (Nat.le_of_ble_eq_true rfl) (Nat.le_of_ble_eq_true rfl) (Nat.le_of_ble_eq_true rfl) (by simp [roL, keysLt]))) ?_)); (try simp (maxSteps := 10000000) only [opL, opsW, gotsB, blkB, blkL, opsB, retNx_eq, wantL, partsOf, fillS, C4r0, C4r1, C4r2, C4r3, C4r4, C4r5, C4r6, C4r7, C4r8, C4r9, C4r10, C4r11, C4r12, C4r13, C4r14, C4r15, C4r16, C4r17, C4r18, C4r19, C4r20, C4r21, C4r22, C4r23, C4r24, C4r25, C4r26, C4r27, C4r28, C4r29, C4r30, rwp_nil, rwp_cons, rwpK_app, aop, gpath, St.get, slotAt, sfx, eqP, segsOf, St.put, addBlk, getB, setB, delB, ld1, ldn, st1, stn, setRow, rowNeed, segAt, nsub, bin, un, eqB, isShift, sameK, arith, shiftR, getsl, selB_or, selB_and, beqb, shed, addN, Nat.beq, Seg.size, sizes, imp, needP, andN, appL, argsOf, ptrsOf, aasOf, cut, takeS, dropS, putS, partsOf, fillS, fieldOf, nthA, negIf, nilq, nilB, eqS, eqF, eqS1, andP, kin, slcS, strOk, plusA, bndHi, leN, optG, roH, roL, initT, exOk, exAll, wrAddr, Nat.reduceAdd, Nat.reduceSub, Nat.reduceMul, Int.reduceToNat, List.append_nil, List.nil_append, List.cons_append, eqT, idxT, cat, cpy, ite_int, ite_bool, ite_seg, ite_segs, ite_nil, ite_twice, Int.toNat_natCast, app, addBs, tob])))); refine hK _ (ddW x.b ng gs (nextS x) (nextS y) i (wS (nextS x)) (nextS x).waits) (LeS.intro [0, 1, 2, 3, 4, 5, 6, 7, 8, 9] (fun i h => idtt i h) (by simp only [diff, notIn, Nat.beq, and_self]) rfl (by simp only [ddW, ddT, hlk.waits, slotsLe, slotAt, Nat.beq, leV, leV1, leC, leA, nthO, and_self]) ⟨want_leE (look_w hlk), want_leE rfl, runBI_le _ 3 6 3 6 rfl rfl, rv_le _, runBI_le _ 0 4 0 4 rfl rfl, rv_le _, opsw_le _ _ _ (fun _ _ => rfl), blk_le' x.b 0 0 rfl, gots_le ng gs, ops_le x.b.n x.b.f false, trivial⟩) ?_; clear hK K)
    have hcore : ((nextS x).waits && ((wS (nextS x)).kind == 6)) = false → CoreAll (nextS x).core (nextS y).core := fun e => hlk.core (by
      rcases hstx with h | h
      · exact .inl h
      · refine .inr ⟨h, fun h6 => ?_⟩
        rw [h] at e
        have : wS (nextS x) = (nextS x).want := by unfold wS; rw [if_pos h]
        rw [this, h6] at e
        exact absurd e (by decide))
    clear hc
    generalize hxn : nextS x = xn at *
    generalize hyn : nextS y = yn at *
    generalize hwn : wS xn = wn at *
    unfold ddW ddT ddS
    repeat' (first | refine run_seq ?_ | refine run_skip ?_ | (refine run_region fun K hK => ?_; (try (simp (maxSteps := 10000000) only [opL, opsW, gotsB, wantB, wantL, C4r0, C4r1, C4r2, C4r3, C4r4, C4r5, C4r6, C4r7, C4r8, C4r9, C4r10, C4r11, C4r12, C4r13, C4r14, C4r15, C4r16, C4r17, C4r19, C4r20, C4r21, C4r22, C4r23, C4r24, C4r25, C4r26, C4r27, C4r28, C4r29, C4r30, rwp_nil, rwp_cons, rwpK_app, aop, gpath, St.get, slotAt, sfx, eqP, segsOf, St.put, addBlk, getB, setB, delB, ld1, ldn, st1, stn, setRow, rowNeed, segAt, nsub, bin, un, eqB, isShift, sameK, arith, shiftR, getsl, selB_or, selB_and, beqb, shed, addN, Nat.beq, Seg.size, sizes, imp, needP, andN, appL, argsOf, ptrsOf, aasOf, cut, takeS, dropS, putS, partsOf, fillS, fieldOf, nthA, negIf, nilq, nilB, eqS, eqF, eqS1, andP, kin, slcS, strOk, plusA, bndHi, leN, optG, roH, roL, initT, exOk, exAll, wrAddr, Nat.reduceAdd, Nat.reduceSub, Nat.reduceMul, Int.reduceToNat, List.append_nil, List.nil_append, List.cons_append, eqT, idxT, cat, cpy, ite_int, ite_bool, ite_seg, ite_segs, ite_nil, ite_twice, Int.toNat_natCast, app, addBs, tob])); (repeat (first | (refine And.intro ?_ ?_; · (first | trivial | assumption | omega | (intros; first | trivial | omega))))); with_reducible refine hK _ ?_; clear hK K) | (refine run_cond rfl (fun hc => ?_) (fun hc => ?_) <;> try (simp only [*, Bool.true_eq_false, Bool.false_eq_true, Bool.not_true, Bool.not_false, Bool.true_or, Bool.or_true, Bool.false_or, Bool.or_false, Bool.false_and, Bool.and_false, bne_self_eq_false, beq_self_eq_true] at hc; done)) | refine run_block ?_ | refine run_ret ?_ | refine run_nil ?_ | refine run_exit ?_ | refine blk_normal ?_ | refine blk_ret ?_ | refine blk_here ?_ | refine blk_there rfl ?_ | refine loop_exit ?_ | refine loop_ret ?_ | refine un_exit ?_ | refine un_ret ?_ | refine unE_exit ?_ | refine unE_ret ?_ | refine un_normal ?_)
    · exfalso
      simp at hc
    clear hc
    repeat' (first | refine run_seq ?_ | refine run_skip ?_ | (refine run_region fun K hK => ?_; (try (simp (maxSteps := 10000000) only [opL, opsW, gotsB, wantB, wantL, runBI, runLI, runV, C4r0, C4r1, C4r2, C4r3, C4r4, C4r5, C4r6, C4r7, C4r8, C4r9, C4r10, C4r11, C4r12, C4r13, C4r14, C4r15, C4r16, C4r17, C4r18, C4r19, C4r21, C4r22, C4r23, C4r24, C4r25, C4r26, C4r27, C4r28, C4r29, C4r30, rwp_nil, rwp_cons, rwpK_app, aop, gpath, St.get, slotAt, sfx, eqP, segsOf, St.put, addBlk, getB, setB, delB, ld1, ldn, st1, stn, setRow, rowNeed, segAt, nsub, bin, un, eqB, isShift, sameK, arith, shiftR, getsl, selB_or, selB_and, beqb, shed, addN, Nat.beq, Seg.size, sizes, imp, needP, andN, appL, argsOf, ptrsOf, aasOf, cut, takeS, dropS, putS, partsOf, fillS, fieldOf, nthA, negIf, nilq, nilB, eqS, eqF, eqS1, andP, kin, slcS, strOk, plusA, bndHi, leN, optG, roH, roL, initT, exOk, exAll, wrAddr, Nat.reduceAdd, Nat.reduceSub, Nat.reduceMul, Int.reduceToNat, List.append_nil, List.nil_append, List.cons_append, eqT, idxT, cat, cpy, ite_int, ite_bool, ite_seg, ite_segs, ite_nil, ite_twice, Int.toNat_natCast, app, addBs, tob])); (repeat (first | (refine And.intro ?_ ?_; · (first | trivial | assumption | omega | (intros; first | trivial | omega))))); with_reducible refine hK _ ?_; clear hK K) | (refine run_cond rfl (fun hc => ?_) (fun hc => ?_) <;> try (simp only [*, Bool.true_eq_false, Bool.false_eq_true, Bool.not_true, Bool.not_false, Bool.true_or, Bool.or_true, Bool.false_or, Bool.or_false, Bool.false_and, Bool.and_false, bne_self_eq_false, beq_self_eq_true] at hc; done)) | refine run_block ?_ | refine run_ret ?_ | refine run_nil ?_ | refine run_exit ?_ | refine blk_normal ?_ | refine blk_ret ?_ | refine blk_here ?_ | refine blk_there rfl ?_ | refine loop_exit ?_ | refine loop_ret ?_ | refine un_exit ?_ | refine un_ret ?_ | refine unE_exit ?_ | refine unE_ret ?_ | refine un_normal ?_)
    · exfalso
      simp only [Bool.and_eq_true, Bool.not_eq_true'] at hc
      have hca := hcore hc.1
      have h2 := hc.2
      simp only [all_eqb hca.x, all_eqb hca.sp, hca.pc, hca.n, hca.z, hca.c, hca.v, hca.el, hca.mask, hca.q0, hca.q1, hca.q2, hca.q3, hca.q4, hca.q5, hca.id, hca.wait, hca.last, beq_self_eq_true, Bool.and_self, Bool.true_eq_false] at h2
    clear hc
    by_cases hcw : xn.waits = true
    rotate_left
    · have hcw0 : xn.waits = false := by simpa using hcw
      repeat' (first | refine run_seq ?_ | refine run_skip ?_ | (refine run_region fun K hK => ?_; (try (simp (maxSteps := 10000000) only [opL, opsW, gotsB, wantB, wantL, hcw0, hlk.fal, hlk.gst, hlk.wrd, Bool.not_false, beq_self_eq_true, Bool.and_self, Bool.and_true, Bool.true_and, C4r0, C4r1, C4r2, C4r3, C4r4, C4r5, C4r6, C4r7, C4r8, C4r9, C4r10, C4r11, C4r12, C4r13, C4r14, C4r15, C4r16, C4r17, C4r18, C4r19, C4r20, C4r21, C4r23, C4r24, C4r25, C4r26, C4r27, C4r28, C4r29, C4r30, rwp_nil, rwp_cons, rwpK_app, aop, gpath, St.get, slotAt, sfx, eqP, segsOf, St.put, addBlk, getB, setB, delB, ld1, ldn, st1, stn, setRow, rowNeed, segAt, nsub, bin, un, eqB, isShift, sameK, arith, shiftR, getsl, selB_or, selB_and, beqb, shed, addN, Nat.beq, Seg.size, sizes, imp, needP, andN, appL, argsOf, ptrsOf, aasOf, cut, takeS, dropS, putS, partsOf, fillS, fieldOf, nthA, negIf, nilq, nilB, eqS, eqF, eqS1, andP, kin, slcS, strOk, plusA, bndHi, leN, optG, roH, roL, initT, exOk, exAll, wrAddr, Nat.reduceAdd, Nat.reduceSub, Nat.reduceMul, Int.reduceToNat, List.append_nil, List.nil_append, List.cons_append, eqT, idxT, cat, cpy, ite_int, ite_bool, ite_seg, ite_segs, ite_nil, ite_twice, Int.toNat_natCast, app, addBs, tob])); (repeat (first | (refine And.intro ?_ ?_; · (first | trivial | assumption | omega | (intros; first | trivial | omega))))); with_reducible refine hK _ ?_; clear hK K) | (refine run_cond rfl (fun hc => ?_) (fun hc => ?_) <;> try (simp only [*, Bool.true_eq_false, Bool.false_eq_true, Bool.not_true, Bool.not_false, Bool.true_or, Bool.or_true, Bool.false_or, Bool.or_false, Bool.false_and, Bool.and_false, bne_self_eq_false, beq_self_eq_true] at hc; done)) | refine run_block ?_ | refine run_ret ?_ | refine run_nil ?_ | refine run_exit ?_ | refine blk_normal ?_ | refine blk_ret ?_ | refine blk_here ?_ | refine blk_there rfl ?_ | refine loop_exit ?_ | refine loop_ret ?_ | refine un_exit ?_ | refine un_ret ?_ | refine unE_exit ?_ | refine unE_ret ?_ | refine un_normal ?_)
      exact end_dd rfl rfl rfl
    have hl : x.left = false := by
      cases e : x.left with
      | false => rfl
      | true => rw [← hxn, next_stop (.inl e), hwx] at hcw; cases hcw
    have hxl : xn.left = false := by rw [← hxn]; exact next_w _ okx (Nat.le_refl _) hwx (by rw [hxn]; exact hcw)
    have hyl : yn.left = false := by rw [hlk.left]; exact hxl
    have hyw : yn.waits = true := by rw [hlk.waits]; exact hcw
    have hp1 : x.pos < xn.pos := hgx hxl hwx
    have hp2 : y.pos < yn.pos := hgy hyl hwy
    have hp3 : xn.pos < xn.b.n := okx'.go hxl
    have hp4 : yn.pos < yn.b.n := oky'.go hyl
    have hip : i ≤ x.pos := by
      rcases hlp with h | h
      · rw [h] at hl; cases hl
      · exact h
    have hxbn : xn.b.n ≤ 512 := (right_n okx'.hr).2
    have hybn : yn.b.n ≤ 512 := (right_n oky'.hr).2
    have hw8 : IntKind.i64.wrap (8 * (i : Int)) = 8 * (i : Int) := by rw [IntKind.wrap_i64]; rw [hbx] at hp3 hxbn; omega
    have hw1 : IntKind.i64.wrap ((i : Int) + 1) = ((i + 1 : Nat) : Int) := by rw [IntKind.wrap_i64]; rw [hbx] at hp3 hxbn; omega
    repeat' (first | refine run_seq ?_ | refine run_skip ?_ | (refine run_region fun K hK => ?_; (try (simp (maxSteps := 10000000) only [opL, opsW, gotsB, wantB, wantL, C4r0, C4r1, C4r2, C4r3, C4r4, C4r5, C4r6, C4r7, C4r8, C4r9, C4r10, C4r11, C4r12, C4r13, C4r14, C4r15, C4r16, C4r17, C4r18, C4r19, C4r20, C4r21, C4r23, C4r24, C4r25, C4r26, C4r27, C4r28, C4r29, C4r30, rwp_nil, rwp_cons, rwpK_app, aop, gpath, St.get, slotAt, sfx, eqP, segsOf, St.put, addBlk, getB, setB, delB, ld1, ldn, st1, stn, setRow, rowNeed, segAt, nsub, bin, un, eqB, isShift, sameK, arith, shiftR, getsl, selB_or, selB_and, beqb, shed, addN, Nat.beq, Seg.size, sizes, imp, needP, andN, appL, argsOf, ptrsOf, aasOf, cut, takeS, dropS, putS, partsOf, fillS, fieldOf, nthA, negIf, nilq, nilB, eqS, eqF, eqS1, andP, kin, slcS, strOk, plusA, bndHi, leN, optG, roH, roL, initT, exOk, exAll, wrAddr, Nat.reduceAdd, Nat.reduceSub, Nat.reduceMul, Int.reduceToNat, List.append_nil, List.nil_append, List.cons_append, eqT, idxT, cat, cpy, ite_int, ite_bool, ite_seg, ite_segs, ite_nil, ite_twice, Int.toNat_natCast, app, addBs, tob])); (repeat (first | (refine And.intro ?_ ?_; · (first | trivial | assumption | omega | (intros; first | trivial | omega))))); with_reducible refine hK _ ?_; clear hK K) | (refine run_cond rfl (fun hc => ?_) (fun hc => ?_) <;> try (simp only [*, Bool.true_eq_false, Bool.false_eq_true, Bool.not_true, Bool.not_false, Bool.true_or, Bool.or_true, Bool.false_or, Bool.or_false, Bool.false_and, Bool.and_false, bne_self_eq_false, beq_self_eq_true] at hc; done)) | refine run_block ?_ | refine run_ret ?_ | refine run_nil ?_ | refine run_exit ?_ | refine blk_normal ?_ | refine blk_ret ?_ | refine blk_here ?_ | refine blk_there rfl ?_ | refine loop_exit ?_ | refine loop_ret ?_ | refine un_exit ?_ | refine un_ret ?_ | refine unE_exit ?_ | refine unE_ret ?_ | refine un_normal ?_)
    clear hc
    (refine run_regionL fun K hK => ?_; (try (simp (maxSteps := 10000000) only [opL, opsW, gotsB, wantB, wantL, hw8, partsOf, fillS, C4r0, C4r1, C4r2, C4r3, C4r4, C4r5, C4r6, C4r7, C4r8, C4r9, C4r10, C4r11, C4r12, C4r13, C4r14, C4r15, C4r16, C4r17, C4r18, C4r19, C4r20, C4r21, C4r22, C4r23, C4r24, C4r25, C4r26, C4r27, C4r28, C4r29, C4r30, rwp_nil, rwp_cons, rwpK_app, aop, gpath, St.get, slotAt, sfx, eqP, segsOf, St.put, addBlk, getB, setB, delB, ld1, ldn, st1, stn, setRow, rowNeed, segAt, nsub, bin, un, eqB, isShift, sameK, arith, shiftR, getsl, selB_or, selB_and, beqb, shed, addN, Nat.beq, Seg.size, sizes, imp, needP, andN, appL, argsOf, ptrsOf, aasOf, cut, takeS, dropS, putS, partsOf, fillS, fieldOf, nthA, negIf, nilq, nilB, eqS, eqF, eqS1, andP, kin, slcS, strOk, plusA, bndHi, leN, optG, roH, roL, initT, exOk, exAll, wrAddr, Nat.reduceAdd, Nat.reduceSub, Nat.reduceMul, Int.reduceToNat, List.append_nil, List.nil_append, List.cons_append, eqT, idxT, cat, cpy, ite_int, ite_bool, ite_seg, ite_segs, ite_nil, ite_twice, Int.toNat_natCast, app, addBs, tob])); (repeat (first | (refine And.intro ?_ ?_; · first | trivial | assumption | omega))); refine hK _ (ddG x.b ng gs xn yn i ⟨IntKind.u64.wrap (8 * (i : Int)), (i : Int).tmod 2 == 0, 0⟩) (LeS.intro [0, 1, 2, 3, 4, 5, 6, 7, 10] (fun i h => idtt i h) (by simp only [diff, notIn, Nat.beq, and_self]) rfl (by simp only [ddG, ddT, slotsLe, slotAt, Nat.beq, leV, leV1, leC, leA, nthO, Int.natCast_zero, Int.ofNat_zero, and_self]) ⟨goti_le _, runBI_le _ 3 6 3 6 rfl rfl, rv_le _, runBI_le _ 0 4 0 4 rfl rfl, rv_le _, opsw_le _ _ _ (fun _ _ => rfl), blk_le' x.b 0 0 rfl, gots_le ng gs, ops_le x.b.n x.b.f false, trivial⟩) ?_; clear hK K)
    have hgd : ∀ g : GotS, U g.value → ∃ i' x' y', x.b.n + 1 - (i + 1) = x.b.n + 1 - i' ∧ i' ≤ x.b.n ∧ x'.b = x.b ∧ y'.b = blockS x.b ∧ RunOk x' ∧ RunOk y' ∧ Chain x' y' ∧ x'.waits = false ∧ y'.waits = false ∧ (x'.left = true ∨ i' ≤ x'.pos) ∧ ddS x.b ng gs (tookR xn g) (tookR yn g) (i + 1) = ddS x.b ng gs x' y' i' := fun g hg =>
      ⟨i + 1, tookR xn g, tookR yn g, rfl, by rw [hbx] at hp3; omega, by rw [take_b]; exact hbx, by rw [take_b, hby]; exact hyb, okx'.take g hg, oky'.take g hg, hch'.take hcw g hg, take_waits _ _, take_waits _ _, .inr (by rw [take_pos]; omega), rfl⟩
    unfold ddG ddT ddS
    repeat' (first | refine run_seq ?_ | refine run_skip ?_ | (refine run_region fun K hK => ?_; (try (simp (maxSteps := 10000000) only [opL, opsW, gotsB, wantB, wantL, gotB, gotL, C4r0, C4r1, C4r2, C4r3, C4r4, C4r5, C4r6, C4r7, C4r8, C4r9, C4r10, C4r11, C4r12, C4r13, C4r14, C4r15, C4r16, C4r17, C4r18, C4r19, C4r20, C4r21, C4r22, C4r23, C4r26, C4r27, C4r28, C4r29, C4r30, rwp_nil, rwp_cons, rwpK_app, aop, gpath, St.get, slotAt, sfx, eqP, segsOf, St.put, addBlk, getB, setB, delB, ld1, ldn, st1, stn, setRow, rowNeed, segAt, nsub, bin, un, eqB, isShift, sameK, arith, shiftR, getsl, selB_or, selB_and, beqb, shed, addN, Nat.beq, Seg.size, sizes, imp, needP, andN, appL, argsOf, ptrsOf, aasOf, cut, takeS, dropS, putS, partsOf, fillS, fieldOf, nthA, negIf, nilq, nilB, eqS, eqF, eqS1, andP, kin, slcS, strOk, plusA, bndHi, leN, optG, roH, roL, initT, exOk, exAll, wrAddr, Nat.reduceAdd, Nat.reduceSub, Nat.reduceMul, Int.reduceToNat, List.append_nil, List.nil_append, List.cons_append, eqT, idxT, cat, cpy, ite_int, ite_bool, ite_seg, ite_segs, ite_nil, ite_twice, Int.toNat_natCast, app, addBs, tob])); (repeat (first | (refine And.intro ?_ ?_; · (first | trivial | assumption | omega | (intros; first | trivial | omega))))); with_reducible refine hK _ ?_; clear hK K) | (refine run_cond rfl (fun hc => ?_) (fun hc => ?_) <;> try (simp only [*, Bool.true_eq_false, Bool.false_eq_true, Bool.not_true, Bool.not_false, Bool.true_or, Bool.or_true, Bool.false_or, Bool.or_false, Bool.false_and, Bool.and_false, bne_self_eq_false, beq_self_eq_true] at hc; done)) | refine run_block ?_ | refine run_ret ?_ | refine run_nil ?_ | refine run_exit ?_ | refine blk_normal ?_ | refine blk_ret ?_ | refine blk_here ?_ | refine blk_there rfl ?_ | refine loop_exit ?_ | refine loop_ret ?_ | refine un_exit ?_ | refine un_ret ?_ | refine unE_exit ?_ | refine unE_ret ?_ | refine un_normal ?_)
    · skip
      have hin : i < ng := by simpa using hc
      have hg := hgd (gs i) (hgs i hin)
      repeat' (first | refine run_seq ?_ | refine run_skip ?_ | (refine run_region fun K hK => ?_; (try (simp (maxSteps := 10000000) only [opL, opsW, gotsB, wantB, wantL, gotB, gotL, partsOf, fillS, C4r0, C4r1, C4r2, C4r3, C4r4, C4r5, C4r6, C4r7, C4r8, C4r9, C4r10, C4r11, C4r12, C4r13, C4r14, C4r15, C4r16, C4r17, C4r18, C4r19, C4r20, C4r21, C4r22, C4r23, C4r24, C4r25, C4r26, C4r27, C4r28, C4r30, rwp_nil, rwp_cons, rwpK_app, aop, gpath, St.get, slotAt, sfx, eqP, segsOf, St.put, addBlk, getB, setB, delB, ld1, ldn, st1, stn, setRow, rowNeed, segAt, nsub, bin, un, eqB, isShift, sameK, arith, shiftR, getsl, selB_or, selB_and, beqb, shed, addN, Nat.beq, Seg.size, sizes, imp, needP, andN, appL, argsOf, ptrsOf, aasOf, cut, takeS, dropS, putS, partsOf, fillS, fieldOf, nthA, negIf, nilq, nilB, eqS, eqF, eqS1, andP, kin, slcS, strOk, plusA, bndHi, leN, optG, roH, roL, initT, exOk, exAll, wrAddr, Nat.reduceAdd, Nat.reduceSub, Nat.reduceMul, Int.reduceToNat, List.append_nil, List.nil_append, List.cons_append, eqT, idxT, cat, cpy, ite_int, ite_bool, ite_seg, ite_segs, ite_nil, ite_twice, Int.toNat_natCast, app, addBs, tob])); (repeat (first | (refine And.intro ?_ ?_; · (first | trivial | assumption | omega | (intros; first | trivial | omega))) | ((first | (refine call_t _ (con20_at xn (gs i) hcw (by omega) (by omega) hxbn 5 0 4 9 _ _ rfl rfl rfl rfl (by rw [hbx]; rfl) rfl (Nat.le_of_ble_eq_true rfl) (Nat.le_of_ble_eq_true rfl) (Nat.le_of_ble_eq_true rfl) (by simp [roL, keysLt])) ?_; rintro v H' ⟨rfl, rfl⟩) | refine call_q _ (con20_at xn (gs i) hcw (by omega) (by omega) hxbn 5 0 4 9 _ _ rfl rfl rfl rfl (by rw [hbx]; rfl) rfl (Nat.le_of_ble_eq_true rfl) (Nat.le_of_ble_eq_true rfl) (Nat.le_of_ble_eq_true rfl) (by simp [roL, keysLt])) ?_ | refine call_g _ (imp_of (con20_at xn (gs i) hcw (by omega) (by omega) hxbn 5 0 4 9 _ _ rfl rfl rfl rfl (by rw [hbx]; rfl) rfl (Nat.le_of_ble_eq_true rfl) (Nat.le_of_ble_eq_true rfl) (Nat.le_of_ble_eq_true rfl) (by simp [roL, keysLt]))) ?_ | (refine call_t _ (con20_at yn (gs i) hyw (by omega) (by omega) hybn 7 3 6 9 _ _ rfl rfl rfl rfl (by rw [hby, hyb]; rfl) rfl (Nat.le_of_ble_eq_true rfl) (Nat.le_of_ble_eq_true rfl) (Nat.le_of_ble_eq_true rfl) (by simp [roL, keysLt])) ?_; rintro v H' ⟨rfl, rfl⟩) | refine call_q _ (con20_at yn (gs i) hyw (by omega) (by omega) hybn 7 3 6 9 _ _ rfl rfl rfl rfl (by rw [hby, hyb]; rfl) rfl (Nat.le_of_ble_eq_true rfl) (Nat.le_of_ble_eq_true rfl) (Nat.le_of_ble_eq_true rfl) (by simp [roL, keysLt])) ?_ | refine call_g _ (imp_of (con20_at yn (gs i) hyw (by omega) (by omega) hybn 7 3 6 9 _ _ rfl rfl rfl rfl (by rw [hby, hyb]; rfl) rfl (Nat.le_of_ble_eq_true rfl) (Nat.le_of_ble_eq_true rfl) (Nat.le_of_ble_eq_true rfl) (by simp [roL, keysLt]))) ?_); simp (maxSteps := 10000000) only [opL, opsW, gotsB, wantB, wantL, gotB, gotL, partsOf, fillS, C4r0, C4r1, C4r2, C4r3, C4r4, C4r5, C4r6, C4r7, C4r8, C4r9, C4r10, C4r11, C4r12, C4r13, C4r14, C4r15, C4r16, C4r17, C4r18, C4r19, C4r20, C4r21, C4r22, C4r23, C4r24, C4r25, C4r26, C4r27, C4r28, C4r30, rwp_nil, rwp_cons, rwpK_app, aop, gpath, St.get, slotAt, sfx, eqP, segsOf, St.put, addBlk, getB, setB, delB, ld1, ldn, st1, stn, setRow, rowNeed, segAt, nsub, bin, un, eqB, isShift, sameK, arith, shiftR, getsl, selB_or, selB_and, beqb, shed, addN, Nat.beq, Seg.size, sizes, imp, needP, andN, appL, argsOf, ptrsOf, aasOf, cut, takeS, dropS, putS, partsOf, fillS, fieldOf, nthA, negIf, nilq, nilB, eqS, eqF, eqS1, andP, kin, slcS, strOk, plusA, bndHi, leN, optG, roH, roL, initT, exOk, exAll, wrAddr, Nat.reduceAdd, Nat.reduceSub, Nat.reduceMul, Int.reduceToNat, List.append_nil, List.nil_append, List.cons_append, eqT, idxT, cat, cpy, ite_int, ite_bool, ite_seg, ite_segs, ite_nil, ite_twice, Int.toNat_natCast, app, addBs, tob]))); with_reducible refine hK _ ?_; clear hK K) | (refine run_cond rfl (fun hc => ?_) (fun hc => ?_) <;> try (simp only [*, Bool.true_eq_false, Bool.false_eq_true, Bool.not_true, Bool.not_false, Bool.true_or, Bool.or_true, Bool.false_or, Bool.or_false, Bool.false_and, Bool.and_false, bne_self_eq_false, beq_self_eq_true] at hc; done)) | refine run_block ?_ | refine run_ret ?_ | refine run_nil ?_ | refine run_exit ?_ | refine blk_normal ?_ | refine blk_ret ?_ | refine blk_here ?_ | refine blk_there rfl ?_ | refine loop_exit ?_ | refine loop_ret ?_ | refine un_exit ?_ | refine un_ret ?_ | refine unE_exit ?_ | refine unE_ret ?_ | refine un_normal ?_)
      repeat' (first | refine run_seq ?_ | refine run_skip ?_ | (refine run_region fun K hK => ?_; (try (simp (maxSteps := 10000000) only [opL, opsW, gotsB, hw1, C4r0, C4r1, C4r2, C4r3, C4r4, C4r5, C4r6, C4r7, C4r8, C4r9, C4r10, C4r11, C4r12, C4r13, C4r14, C4r15, C4r16, C4r17, C4r18, C4r19, C4r20, C4r21, C4r22, C4r23, C4r24, C4r25, C4r26, C4r27, C4r28, C4r29, C4r30, rwp_nil, rwp_cons, rwpK_app, aop, gpath, St.get, slotAt, sfx, eqP, segsOf, St.put, addBlk, getB, setB, delB, ld1, ldn, st1, stn, setRow, rowNeed, segAt, nsub, bin, un, eqB, isShift, sameK, arith, shiftR, getsl, selB_or, selB_and, beqb, shed, addN, Nat.beq, Seg.size, sizes, imp, needP, andN, appL, argsOf, ptrsOf, aasOf, cut, takeS, dropS, putS, partsOf, fillS, fieldOf, nthA, negIf, nilq, nilB, eqS, eqF, eqS1, andP, kin, slcS, strOk, plusA, bndHi, leN, optG, roH, roL, initT, exOk, exAll, wrAddr, Nat.reduceAdd, Nat.reduceSub, Nat.reduceMul, Int.reduceToNat, List.append_nil, List.nil_append, List.cons_append, eqT, idxT, cat, cpy, ite_int, ite_bool, ite_seg, ite_segs, ite_nil, ite_twice, Int.toNat_natCast, app, addBs, tob])); (repeat (first | (refine And.intro ?_ ?_; · first | trivial | assumption | omega))); with_reducible refine hK _ ?_; clear hK K) | (refine run_cond rfl (fun hc => ?_) (fun hc => ?_) <;> try (simp only [*, Bool.true_eq_false, Bool.false_eq_true, Bool.not_true, Bool.not_false, Bool.true_or, Bool.or_true, Bool.false_or, Bool.or_false, Bool.false_and, Bool.and_false, bne_self_eq_false, beq_self_eq_true] at hc; done)) | refine run_block ?_ | refine run_ret ?_ | refine run_nil ?_ | refine run_exit ?_ | refine blk_normal ?_ | refine blk_ret ?_ | refine blk_here ?_ | refine blk_there rfl ?_ | refine loop_exit ?_ | refine loop_ret ?_ | refine un_exit ?_ | refine un_ret ?_ | refine unE_exit ?_ | refine unE_ret ?_ | refine un_normal ?_)
      exact loop_normal (x.b.n + 1 - (i + 1)) (ddS x.b ng gs (tookR xn (gs i)) (tookR yn (gs i)) (i + 1)) (by omega) (LeS.intro [0, 1, 2, 3, 4, 5, 6, 7] (fun i h => idtt i h) (by simp only [diff, notIn, Nat.beq, and_self]) rfl (by simp only [ddS, ddT, slotsLe, slotAt, Nat.beq, leV, leV1, leC, leA, nthO, Int.natCast_zero, Int.ofNat_zero, and_self]) ⟨runBI_le _ 3 6 3 6 rfl rfl, rv_le _, runBI_le _ 0 4 0 4 rfl rfl, rv_le _, opsw_le _ _ _ (fun _ _ => rfl), blk_le' x.b 0 0 rfl, gots_le ng gs, ops_le x.b.n x.b.f false, trivial⟩) hg
    · skip
      have hg := hgd ⟨IntKind.u64.wrap (8 * (i : Int)), (i : Int).tmod 2 == 0, 0⟩ (U_wrap _)
      repeat' (first | refine run_seq ?_ | refine run_skip ?_ | (refine run_region fun K hK => ?_; (try (simp (maxSteps := 10000000) only [opL, opsW, gotsB, wantB, wantL, gotB, gotL, partsOf, fillS, C4r0, C4r1, C4r2, C4r3, C4r4, C4r5, C4r6, C4r7, C4r8, C4r9, C4r10, C4r11, C4r12, C4r13, C4r14, C4r15, C4r16, C4r17, C4r18, C4r19, C4r20, C4r21, C4r22, C4r23, C4r24, C4r25, C4r26, C4r27, C4r28, C4r30, rwp_nil, rwp_cons, rwpK_app, aop, gpath, St.get, slotAt, sfx, eqP, segsOf, St.put, addBlk, getB, setB, delB, ld1, ldn, st1, stn, setRow, rowNeed, segAt, nsub, bin, un, eqB, isShift, sameK, arith, shiftR, getsl, selB_or, selB_and, beqb, shed, addN, Nat.beq, Seg.size, sizes, imp, needP, andN, appL, argsOf, ptrsOf, aasOf, cut, takeS, dropS, putS, partsOf, fillS, fieldOf, nthA, negIf, nilq, nilB, eqS, eqF, eqS1, andP, kin, slcS, strOk, plusA, bndHi, leN, optG, roH, roL, initT, exOk, exAll, wrAddr, Nat.reduceAdd, Nat.reduceSub, Nat.reduceMul, Int.reduceToNat, List.append_nil, List.nil_append, List.cons_append, eqT, idxT, cat, cpy, ite_int, ite_bool, ite_seg, ite_segs, ite_nil, ite_twice, Int.toNat_natCast, app, addBs, tob])); (repeat (first | (refine And.intro ?_ ?_; · (first | trivial | assumption | omega | (intros; first | trivial | omega))) | ((first | (refine call_t _ (con20_at xn ⟨IntKind.u64.wrap (8 * (i : Int)), (i : Int).tmod 2 == 0, 0⟩ hcw (by omega) (by omega) hxbn 5 0 4 9 _ _ rfl rfl rfl rfl (by rw [hbx]; rfl) rfl (Nat.le_of_ble_eq_true rfl) (Nat.le_of_ble_eq_true rfl) (Nat.le_of_ble_eq_true rfl) (by simp [roL, keysLt])) ?_; rintro v H' ⟨rfl, rfl⟩) | refine call_q _ (con20_at xn ⟨IntKind.u64.wrap (8 * (i : Int)), (i : Int).tmod 2 == 0, 0⟩ hcw (by omega) (by omega) hxbn 5 0 4 9 _ _ rfl rfl rfl rfl (by rw [hbx]; rfl) rfl (Nat.le_of_ble_eq_true rfl) (Nat.le_of_ble_eq_true rfl) (Nat.le_of_ble_eq_true rfl) (by simp [roL, keysLt])) ?_ | refine call_g _ (imp_of (con20_at xn ⟨IntKind.u64.wrap (8 * (i : Int)), (i : Int).tmod 2 == 0, 0⟩ hcw (by omega) (by omega) hxbn 5 0 4 9 _ _ rfl rfl rfl rfl (by rw [hbx]; rfl) rfl (Nat.le_of_ble_eq_true rfl) (Nat.le_of_ble_eq_true rfl) (Nat.le_of_ble_eq_true rfl) (by simp [roL, keysLt]))) ?_ | (refine call_t _ (con20_at yn ⟨IntKind.u64.wrap (8 * (i : Int)), (i : Int).tmod 2 == 0, 0⟩ hyw (by omega) (by omega) hybn 7 3 6 9 _ _ rfl rfl rfl rfl (by rw [hby, hyb]; rfl) rfl (Nat.le_of_ble_eq_true rfl) (Nat.le_of_ble_eq_true rfl) (Nat.le_of_ble_eq_true rfl) (by simp [roL, keysLt])) ?_; rintro v H' ⟨rfl, rfl⟩) | refine call_q _ (con20_at yn ⟨IntKind.u64.wrap (8 * (i : Int)), (i : Int).tmod 2 == 0, 0⟩ hyw (by omega) (by omega) hybn 7 3 6 9 _ _ rfl rfl rfl rfl (by rw [hby, hyb]; rfl) rfl (Nat.le_of_ble_eq_true rfl) (Nat.le_of_ble_eq_true rfl) (Nat.le_of_ble_eq_true rfl) (by simp [roL, keysLt])) ?_ | refine call_g _ (imp_of (con20_at yn ⟨IntKind.u64.wrap (8 * (i : Int)), (i : Int).tmod 2 == 0, 0⟩ hyw (by omega) (by omega) hybn 7 3 6 9 _ _ rfl rfl rfl rfl (by rw [hby, hyb]; rfl) rfl (Nat.le_of_ble_eq_true rfl) (Nat.le_of_ble_eq_true rfl) (Nat.le_of_ble_eq_true rfl) (by simp [roL, keysLt]))) ?_); simp (maxSteps := 10000000) only [opL, opsW, gotsB, wantB, wantL, gotB, gotL, partsOf, fillS, C4r0, C4r1, C4r2, C4r3, C4r4, C4r5, C4r6, C4r7, C4r8, C4r9, C4r10, C4r11, C4r12, C4r13, C4r14, C4r15, C4r16, C4r17, C4r18, C4r19, C4r20, C4r21, C4r22, C4r23, C4r24, C4r25, C4r26, C4r27, C4r28, C4r30, rwp_nil, rwp_cons, rwpK_app, aop, gpath, St.get, slotAt, sfx, eqP, segsOf, St.put, addBlk, getB, setB, delB, ld1, ldn, st1, stn, setRow, rowNeed, segAt, nsub, bin, un, eqB, isShift, sameK, arith, shiftR, getsl, selB_or, selB_and, beqb, shed, addN, Nat.beq, Seg.size, sizes, imp, needP, andN, appL, argsOf, ptrsOf, aasOf, cut, takeS, dropS, putS, partsOf, fillS, fieldOf, nthA, negIf, nilq, nilB, eqS, eqF, eqS1, andP, kin, slcS, strOk, plusA, bndHi, leN, optG, roH, roL, initT, exOk, exAll, wrAddr, Nat.reduceAdd, Nat.reduceSub, Nat.reduceMul, Int.reduceToNat, List.append_nil, List.nil_append, List.cons_append, eqT, idxT, cat, cpy, ite_int, ite_bool, ite_seg, ite_segs, ite_nil, ite_twice, Int.toNat_natCast, app, addBs, tob]))); with_reducible refine hK _ ?_; clear hK K) | (refine run_cond rfl (fun hc => ?_) (fun hc => ?_) <;> try (simp only [*, Bool.true_eq_false, Bool.false_eq_true, Bool.not_true, Bool.not_false, Bool.true_or, Bool.or_true, Bool.false_or, Bool.or_false, Bool.false_and, Bool.and_false, bne_self_eq_false, beq_self_eq_true] at hc; done)) | refine run_block ?_ | refine run_ret ?_ | refine run_nil ?_ | refine run_exit ?_ | refine blk_normal ?_ | refine blk_ret ?_ | refine blk_here ?_ | refine blk_there rfl ?_ | refine loop_exit ?_ | refine loop_ret ?_ | refine un_exit ?_ | refine un_ret ?_ | refine unE_exit ?_ | refine unE_ret ?_ | refine un_normal ?_)
      repeat' (first | refine run_seq ?_ | refine run_skip ?_ | (refine run_region fun K hK => ?_; (try (simp (maxSteps := 10000000) only [opL, opsW, gotsB, hw1, C4r0, C4r1, C4r2, C4r3, C4r4, C4r5, C4r6, C4r7, C4r8, C4r9, C4r10, C4r11, C4r12, C4r13, C4r14, C4r15, C4r16, C4r17, C4r18, C4r19, C4r20, C4r21, C4r22, C4r23, C4r24, C4r25, C4r26, C4r27, C4r28, C4r29, C4r30, rwp_nil, rwp_cons, rwpK_app, aop, gpath, St.get, slotAt, sfx, eqP, segsOf, St.put, addBlk, getB, setB, delB, ld1, ldn, st1, stn, setRow, rowNeed, segAt, nsub, bin, un, eqB, isShift, sameK, arith, shiftR, getsl, selB_or, selB_and, beqb, shed, addN, Nat.beq, Seg.size, sizes, imp, needP, andN, appL, argsOf, ptrsOf, aasOf, cut, takeS, dropS, putS, partsOf, fillS, fieldOf, nthA, negIf, nilq, nilB, eqS, eqF, eqS1, andP, kin, slcS, strOk, plusA, bndHi, leN, optG, roH, roL, initT, exOk, exAll, wrAddr, Nat.reduceAdd, Nat.reduceSub, Nat.reduceMul, Int.reduceToNat, List.append_nil, List.nil_append, List.cons_append, eqT, idxT, cat, cpy, ite_int, ite_bool, ite_seg, ite_segs, ite_nil, ite_twice, Int.toNat_natCast, app, addBs, tob])); (repeat (first | (refine And.intro ?_ ?_; · first | trivial | assumption | omega))); with_reducible refine hK _ ?_; clear hK K) | (refine run_cond rfl (fun hc => ?_) (fun hc => ?_) <;> try (simp only [*, Bool.true_eq_false, Bool.false_eq_true, Bool.not_true, Bool.not_false, Bool.true_or, Bool.or_true, Bool.false_or, Bool.or_false, Bool.false_and, Bool.and_false, bne_self_eq_false, beq_self_eq_true] at hc; done)) | refine run_block ?_ | refine run_ret ?_ | refine run_nil ?_ | refine run_exit ?_ | refine blk_normal ?_ | refine blk_ret ?_ | refine blk_here ?_ | refine blk_there rfl ?_ | refine loop_exit ?_ | refine loop_ret ?_ | refine un_exit ?_ | refine un_ret ?_ | refine unE_exit ?_ | refine unE_ret ?_ | refine un_normal ?_)
      exact loop_normal (x.b.n + 1 - (i + 1)) (ddS x.b ng gs (tookR xn ⟨IntKind.u64.wrap (8 * (i : Int)), (i : Int).tmod 2 == 0, 0⟩) (tookR yn ⟨IntKind.u64.wrap (8 * (i : Int)), (i : Int).tmod 2 == 0, 0⟩) (i + 1)) (by omega) (LeS.intro [0, 1, 2, 3, 4, 5, 6, 7] (fun i h => idtt i h) (by simp only [diff, notIn, Nat.beq, and_self]) rfl (by simp only [ddS, ddT, slotsLe, slotAt, Nat.beq, leV, leV1, leC, leA, nthO, Int.natCast_zero, Int.ofNat_zero, and_self]) ⟨runBI_le _ 3 6 3 6 rfl rfl, rv_le _, runBI_le _ 0 4 0 4 rfl rfl, rv_le _, opsw_le _ _ _ (fun _ _ => rfl), blk_le' x.b 0 0 rfl, gots_le ng gs, ops_le x.b.n x.b.f false, trivial⟩) hg
  · exfalso
    simp only [decide_eq_false_iff_not] at hc
    omega
end Go.Proofs.Ytmbnakinhnkabaa

namespace Go.Proofs.Ytmbnakinhnkabaa
open Go.AM Go.ChangeShapes Go.WideShapes Go.ChangeAt Go.RowKit
set_option maxRecDepth 100000
set_option linter.unusedSimpArgs false
set_option linter.unusedVariables false
def kGot : List CK := [.int .u64, .bool, .int .i64]
def kCore : List CK := [.int .u64, .int .u64, .int .u64, .int .u64, .int .u64, .int .u64, .int .u64, .int .u64, .int .u64, .int .u64, .int .u64, .int .u64, .int .u64, .int .u64, .int .u64, .int .u64, .int .u64, .int .u64, .int .u64, .int .u64, .int .u64, .int .u64, .int .u64, .int .u64, .int .u64, .int .u64, .int .u64, .int .u64, .int .u64, .int .u64, .int .u64, .int .u64, .int .u64, .int .u64, .bool, .bool, .bool, .bool, .int .i64, .bool, .int .u64, .int .u64, .int .u64, .int .u64, .int .u64, .int .u64, .int .i64, .int .i64, .bool]
theorem kGot_ok : kindsT Try.prog 5 56 = some kGot := by kernel_rfl
theorem kCore_ok : kindsT Try.prog 5 43 = some kCore := by kernel_rfl
theorem cells56 : Try.prog.cellsOf 56 = 3 := by kernel_rfl
def gotOf (cs : List Value) : GotS := ⟨intAt cs 0, boolAt cs 1, intAt cs 2⟩
def coreOf (cs : List Value) : CoreS := ⟨fun i => intAt cs i, fun i => intAt cs (31 + i), intAt cs 33, boolAt cs 34, boolAt cs 35, boolAt cs 36, boolAt cs 37, intAt cs 38, boolAt cs 39, intAt cs 40, intAt cs 41, intAt cs 42, intAt cs 43, intAt cs 44, intAt cs 45, intAt cs 46, intAt cs 47, boolAt cs 48⟩
theorem got_gen (cs : List Value) : flat (gotL (gotOf cs)) = gen 0 cs kGot 0 := rfl
theorem core_gen (cs : List Value) : flat (coreL (coreOf cs)) = gen 0 cs kCore 0 := rfl
theorem U_wf {n : Int} (h : (Lit.int .u64 n).wf = true) : U n := by
  have := wf_u64 h
  exact ⟨this.1, by omega⟩
theorem kCore_fin : ∀ i : Fin 34, (match kCore[i.val]? with | some (.int .u64) => true | _ => false) = true := by decide +kernel
theorem kCore_u64 (i : Nat) (h : i < 34) : kCore[i]? = some (.int .u64) := by
  have := kCore_fin ⟨i, h⟩
  revert this
  simp only
  split
  · intro _; assumption
  · intro h; cases h
theorem three {H : Type} {enc : TypeId × Value → H} {W : World} {v0 v1 v2 : Value} {d0 d1 d2 : DataW H} {p0 p1 p2 : List MemPlace}
    (o0 : Value.okWide Try.prog W .any 0 25 v0) (o1 : Value.okWide Try.prog W .any 0 43 v1) (o2 : Value.okWide Try.prog W .any 0 44 v2)
    (h0 : DataW.Trod enc Try.prog W 0 (fun _ => true) true 25 v0 d0 p0) (h1 : DataW.Trod enc Try.prog W 0 (fun _ => true) true 43 v1 d1 p1) (h2 : DataW.Trod enc Try.prog W 0 (fun _ => true) true 44 v2 d2 p2) :
    ∃ φ b k ng gs, BlkWf b ∧ (∀ i, i < 31 → U (k.x i)) ∧ (∀ i, i < 2 → U (k.sp i)) ∧ (∀ i, i < ng → U (gs i).value) ∧ F2 (relA φ) [.agg (blkL b 0), .agg (coreL k), .c (.slice ⟨1, 0, 0, 0⟩ false ng)] [v0, v1, v2] ∧ HRel φ (ddH b ng gs) W := by
  obtain ⟨b, q, hwf, hrel, hbr, hlt0⟩ := blk_arg o0 h0
  obtain ⟨cs1, rfl, _⟩ := okWide_struct Try.underlying43 o1
  obtain ⟨r2, n2, c2, rfl⟩ := okWide_slice Try.underlying44 o2
  obtain ⟨f1, h1⟩ := h1
  obtain ⟨f2, h2⟩ := h2
  have q1 := kinds_ok (spare := fun _ => true) (held := true) 5 43 kCore cs1.toList kCore_ok ⟨f1, _, h1⟩
  have q2 := kinds_ok (enc := enc) (w := W) (spare := fun _ => true) (held := true) 5 44 [.slice 56] [.slice r2 n2 c2] (by kernel_rfl) ⟨f2, _, h2⟩
  obtain ⟨_, _, e2, x2, _⟩ := q2.cons_left
  cases e2
  have s2 : ∀ a len cap, Value.slice r2 n2 c2 = .slice (some a) len cap → a.spot = none ∧ a.block < W.heap.size := fun a len cap e => by
    rw [e] at o2
    exact spot_slice Try.underlying44 o2
  let φ : Emb := fun i => if i = 0 then q else if i = 1 then placeOf (.slice r2 n2 c2) 3 else none
  refine ⟨φ, b, coreOf cs1.toList, n2, fun i => gotOf (rowsOf W (.slice r2 n2 c2) 3 i), hwf, ?_, ?_, ?_, ?_, ?_⟩
  · intro i hi
    exact U_wf (int_wf q1 (i := i) (k := .u64) (kCore_u64 i (by omega)))
  · intro i hi
    show U (intAt cs1.toList (31 + i))
    exact U_wf (int_wf q1 (i := 31 + i) (k := .u64) (kCore_u64 (31 + i) (by omega)))
  · intro i hi
    show U (intAt (rowsOf W (.slice r2 n2 c2) 3 i) 0)
    rcases x2 with e | ⟨a, len, cap, e, _, _, hrow⟩
    · cases e; exact absurd hi (Nat.not_lt_zero _)
    · cases e
      obtain ⟨cs, hcs, hT⟩ := hrow i hi
      rw [cells56] at hcs
      have hr : rowsOf W (.slice (some a) n2 c2) 3 i = cs := by simp only [rowsOf, hcs]
      rw [hr]
      exact U_wf (int_wf (kinds_ok 5 56 kGot cs kGot_ok hT) (i := 0) (k := .u64) rfl)
  · refine .cons (hrel _ rfl) (.cons ⟨cs1, rfl, ?_⟩ (.cons ?_ .nil))
    · rw [core_gen]
      have := noSl_rel (φ := φ) (id := 0) kCore 0 rfl (by simpa using q1)
      simpa using this
    · exact rel_slice (φ := φ) (id := 1) (str := 3) x2 (fun a len cap e => (s2 a len cap e).1) rfl
  · have hb1 : ∀ p, φ 1 = some p → BRel φ (gotsB n2 (fun i => gotOf (rowsOf W (.slice r2 n2 c2) 3 i))) p W := fun p hp =>
      brel_slice (φ := φ) (id := 0) x2 (fun a len cap e => (s2 a len cap e).1) cells56 (fun cs hT => kinds_ok 5 56 kGot cs kGot_ok hT) rfl (fun i => got_gen _) rfl hp
    refine ⟨?_, ?_, ?_, ?_⟩
    · intro i B p hB hp
      match i, hB with
      | 0, hB => cases hB; exact hbr _ p hp
      | 1, hB => cases hB; exact hb1 p hp
      | i + 2, hB => cases hB
    · intro i j B C p q hB hC _ _ _ hw
      match i, hB with
      | 0, hB => cases hB; cases hw
      | 1, hB => cases hB; cases hw
      | i + 2, hB => cases hB
    · intro i hi
      have hi' : 2 ≤ i := hi
      show (if i = 0 then _ else if i = 1 then _ else none) = none
      rw [if_neg (by omega), if_neg (by omega)]
    · intro i p hp
      match i, hp with
      | 0, hp => exact hlt0 p hp
      | 1, hp => exact place_lt (fun a len cap e => (s2 a len cap e).2) hp
      | i + 2, hp => cases hp
theorem deadDoes_lifted (os : Os) (started : os.Started) (H : Type) (enc : TypeId × Value → H) :
    ReturnsInHanded {} Try.checked os 4 .any (Rows.deadDoesSpec.pre6 enc Try.prog Try.f4 Rows.deadDoesRow.domain false) (Rows.deadDoesSpec.post enc Try.prog Try.f4 false true false false) := by
  refine returnsInHanded_of_change (C := Try.checked) own19 started (by kernel_rfl) Try.func4
    (ChangeSpec.witness6 (enc := enc) (C := Try.checked) false ⟨#[], #[.agg (zeros kBlk).toArray, .agg (zeros kCore).toArray, .slice none 0 0], []⟩ 8 (by kernel_rfl) (by kernel_rfl) (by kernel_rfl) (by kernel_rfl)) ?_
  intro W base args ds gs before hval0 hW hcnd _
  have hval : ∀ (j : Nat) t v, Try.f4.params[j]? = some t → args[j]? = some v → Value.okWide Try.prog W .any base t v := hval0
  have hW' := hW
  obtain ⟨p, q, hA0, hV, rfl, hfz, hnd⟩ := hW
  have hA : DataW.TrodAll enc Try.prog W 0 (fun _ => true) true Try.f4.params.toList args.toList ds p := hA0
  rw [Try.params4] at hA hval
  obtain ⟨v0, v1, v2, d0, d1, d2, p0, p1, p2, rfl, rfl, rfl, h0, h1, h2⟩ := trodAll_three hA
  obtain ⟨rfl, rfl⟩ := trodVars_none hV
  obtain ⟨φ, b, k, ng, gs, hwf, hx, hsp, hgv, hrel, hH⟩ := three (hval 0 25 v0 rfl rfl) (hval 1 43 v1 rfl rfl) (hval 2 44 v2 rfl rfl) h0 h1 h2
  refine ((con4 b k ng gs hwf hx hsp hgv).2 φ W #[v0, v1, v2] hrel hH).mono fun e W' ⟨φ', v, x, H', he, ⟨hv, hH'⟩, hx, _, hfr⟩ => ?_
  subst he; subst hv
  cases hx
  have hb : Below W.heap.size W W' := hfr.below (fun i B hB => by
    match i, hB with
    | 0, hB => cases hB; rfl
    | 1, hB => cases hB; rfl
    | i + 2, hB => cases hB)
  have hlt : ∀ x ∈ (p0 ++ p1 ++ p2), x.block < W.heap.size := fun x hx => hW'.lt x (by simpa using hx)
  refine ⟨_, rfl, post_of_old (pa := p0 ++ (p1 ++ p2)) (pv := []) hW' (fun _ _ _ => trodAll_mk1 (shut_bool Try.underlying4 true)) (fun sp hsp => ?_) (fun _ _ => rfl) (by simp) hb (ok_one (by kernel_rfl) rfl (okWide_bool_mk Try.underlying4 true))⟩
  show DataW.TrodAll enc Try.prog W' 0 sp true Try.f4.params.toList [v0, v1, v2] [d0, d1, d2] (p0 ++ (p1 ++ p2))
  rw [Try.params4]
  exact trodAll_mk3
    (WideElems.Trod_stays laidOut19 (by kernel_rfl) (of_decide_eq_true (by kernel_rfl)) h0 (fun x hx => hb.same (hlt x (by simp [hx]))) (fun x hx => hsp x (by simp [hx])))
    (WideElems.Trod_stays laidOut19 (by kernel_rfl) (of_decide_eq_true (by kernel_rfl)) h1 (fun x hx => hb.same (hlt x (by simp [hx]))) (fun x hx => hsp x (by simp [hx])))
    (WideElems.Trod_stays laidOut19 (by kernel_rfl) (of_decide_eq_true (by kernel_rfl)) h2 (fun x hx => hb.same (hlt x (by simp [hx]))) (fun x hx => hsp x (by simp [hx])))
theorem deadDoes_holds : Rows.DeadDoesSaid :=
  OpenClaim.holds_of_wide 4 Try.f4 rfl rfl rfl rfl rfl rfl rfl ⟨rfl, rfl, rfl, rfl, rfl⟩ rfl rfl rfl rfl rfl (by kernel_rfl) Try.func4 (by kernel_rfl)
    (of_decide_eq_true (by kernel_rfl)) (by unfold Func.isWrapper; first | (rw [if_pos (by decide +kernel)]; kernel_rfl) | (rw [if_neg (by decide +kernel)]; exact ⟨rfl, rfl⟩))
    (fun os started H enc _ => deadDoes_lifted os started H enc)
#print axioms deadDoes_holds
end Go.Proofs.Ytmbnakinhnkabaa

