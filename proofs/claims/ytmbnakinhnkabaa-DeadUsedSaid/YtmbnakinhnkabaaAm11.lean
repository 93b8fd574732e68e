/- AM: states, guards, one operation of a region. -/
import Derived.Test.YtmbnakinhnkabaaAm10
namespace Go.AM
set_option linter.unusedVariables false
set_option linter.unusedSimpArgs false
variable {P : Program} {φ : Emb} {w : World}

/-! ### Guards -/
theorem slotAt_num : ∀ (l : List Slot) (n : Nat) (sl : Slot), slotAt l n = some sl → sl.n = n
  | [], n, sl, h => by simp [slotAt] at h
  | ⟨k, p, v⟩ :: r, n, sl, h => by
    simp only [slotAt] at h
    split at h
    · rename_i hb
      simp only [Option.some.injEq] at h
      subst h
      exact Nat.eq_of_beq_eq_true hb
    · exact slotAt_num r n sl h

theorem slotAt_cons_self (l : List Slot) (n : Nat) (p : Path) (v : AV) : slotAt (⟨n, p, v⟩ :: l) n = some ⟨n, p, v⟩ := by simp [slotAt, Nat.beq_refl]
theorem slotAt_cons_ne {l : List Slot} {n m : Nat} {p : Path} {v : AV} (h : m ≠ n) : slotAt (⟨n, p, v⟩ :: l) m = slotAt l m := by
  have : Nat.beq n m = false := by
    cases hk : Nat.beq n m with
    | false => rfl
    | true => exact absurd (Nat.eq_of_beq_eq_true hk).symm h
  simp [slotAt, this]

theorem beqb_eq {a b : Bool} (h : beqb a b = true) : a = b := by cases a <;> cases b <;> first | rfl | cases h

theorem eqP_eq {l : List Slot} : ∀ {p q : Path}, pathOk l p → pathOk l q → eqP p q = true → p = q
  | [], [], _, _, _ => rfl
  | [], _ :: _, _, _, h => by simp [eqP] at h
  | _ :: _, [], _, _, h => by simp [eqP] at h
  | (d, w, b) :: p, (d', w', b') :: q, hp, hq, h => by
    simp only [eqP] at h
    split at h
    · rename_i h1
      split at h
      · rename_i h2
        have e1 := Nat.eq_of_beq_eq_true h1
        have e2 := beqb_eq h2
        subst e1
        subst e2
        have := hp.1.symm.trans hq.1
        simp only [Option.some.injEq, Slot.mk.injEq, AV.c.injEq, CV.bool.injEq] at this
        rw [this.2.1, this.2.2]
      · simp at h
    · simp at h

theorem sfx_conds {l : List Slot} {p : Path} (hp : pathOk l p) : ∀ {π : Path}, pathOk l π → conds π → sfx p π = true → conds p
  | [], hπ, hc, h => by
    simp only [sfx] at h
    rw [eqP_eq hp hπ h]
    exact hc
  | (d, w, b) :: r, hπ, hc, h => by
    simp only [sfx] at h
    split at h
    · rename_i he
      rw [eqP_eq hp hπ he]
      exact hc
    · exact sfx_conds hp hπ.2 hc.2 h

/-- The same, where guards are told by another list (a list of which some slots are left out). -/
structure SlotOkE (φ : Emb) (a : Act) (E : List Slot) (n : Nat) (sl : Slot) : Prop where
  num : sl.n = n
  on : conds sl.path → relA φ sl.v (a.tmps.getD n undef)
  off : sl.v = .bot ∨ (¬ conds sl.path → a.tmps.getD n undef = undef)
  path : pathOk E sl.path
  same : sl.v = .bot ∨ slotAt E n = some sl
def SOkE (φ : Emb) (E l : List Slot) (a : Act) : Prop := ∀ n sl, slotAt l n = some sl → SlotOkE φ a E n sl
theorem SOk.toE {l : List Slot} {a : Act} {K : List Nat} (h : SOk φ l a K) : SOkE φ l l a := fun n sl hs =>
  let k := h n sl hs
  ⟨k.num, k.on, .inr k.off, k.path, .inr hs⟩

theorem gets_of {E l : List Slot} {H : Heap} {a : Act} (hS : SOkE φ E l a) {π : Path} (hπ : pathOk E π) (hc : conds π) : Gets φ ⟨l, H⟩ π a where
  get := fun x y h => by
    cases x with
    | tmp t =>
      simp only [opd, Option.some.injEq] at h
      subst h
      simp only [St.get]
      cases hs : slotAt l t with
      | none => trivial
      | some sl =>
        obtain ⟨n, p, v⟩ := sl
        simp only
        split
        · rename_i hx
          have hk := hS t _ hs
          exact hk.on (sfx_conds hk.path hπ hc hx)
        · trivial
    | const v =>
      obtain ⟨u, rfl, hu⟩ := opd_const φ h
      exact hu
    | global g => simp [opd] at h
    | func f =>
      obtain ⟨u, rfl, hu⟩ := opd_func φ h
      exact hu
  cs := fun cs => by
    simp only [St.get]
    cases hs : slotAt l cs with
    | none => trivial
    | some sl =>
      obtain ⟨n, p, v⟩ := sl
      simp only
      split
      · rename_i hx
        have hk := hS cs _ hs
        exact hk.on (sfx_conds hk.path hπ hc hx)
      · trivial
  sel := fun cs x y want c h hcs hcw => by
    cases x with
    | tmp t =>
      simp only [opd, Option.some.injEq] at h
      subst h
      simp only [getsl]
      cases hs : slotAt l t with
      | none => trivial
      | some sl =>
        obtain ⟨n, p, v⟩ := sl
        have hk := hS t _ hs
        simp only
        split
        · rename_i hx
          exact hk.on (sfx_conds hk.path hπ hc hx)
        · split
          · rename_i j w b q
            split
            · rename_i hj
              split
              · rename_i hw
                split
                · rename_i hx
                  have ej := Nat.eq_of_beq_eq_true hj
                  have ew := beqb_eq hw
                  subst ej
                  subst ew
                  have hpo := hk.path
                  refine hk.on ⟨?_, sfx_conds hpo.2 hπ hc hx⟩
                  simp only [St.get] at hcs
                  split at hcs
                  · rename_i m p' v' hs'
                    split at hcs
                    · subst hcs
                      have := (hS _ _ hs').same.resolve_left (by simp)
                      rw [hpo.1] at this
                      simp only [Option.some.injEq, Slot.mk.injEq, AV.c.injEq, CV.bool.injEq] at this
                      rw [this.2.2, hcw]
                    · simp at hcs
                  · simp at hcs
                · trivial
              · trivial
            · trivial
          · trivial
    | const v =>
      obtain ⟨u, rfl, hu⟩ := opd_const φ h
      exact hu
    | global g => simp [opd] at h
    | func f =>
      obtain ⟨u, rfl, hu⟩ := opd_func φ h
      exact hu

theorem gpath_ok {E l : List Slot} {H : Heap} {a : Act} (hS : SOkE φ E l a) {g : Option (Nat × Bool)} {π : Path} (h : gpath ⟨l, H⟩ g = some π) :
    pathOk E π ∧ (g = none → π = []) ∧ (∀ d w, g = some (d, w) → ∃ p b, slotAt l d = some ⟨d, p, .c (.bool b)⟩ ∧ π = (d, w, b) :: p) := by
  cases g with
  | none => simp only [gpath, Option.some.injEq] at h; subst h; exact ⟨trivial, fun _ => rfl, fun d w e => by cases e⟩
  | some g =>
    obtain ⟨d, w⟩ := g
    simp only [gpath] at h
    split at h
    · rename_i n p b hs
      simp only [Option.some.injEq] at h
      subst h
      have hk := hS d _ hs
      have hn : n = d := hk.num
      subst hn
      exact ⟨⟨hk.same.resolve_left (by simp), hk.path⟩, fun e => (by cases e), fun d' w' e => by cases e; exact ⟨p, b, hs, rfl⟩⟩
    · simp at h

/-! ### The operation and its abstract twin -/
structure Corr (P : Program) (N : Nat) (ops : Array Oper) (o : Oper) (ao : AOper) : Prop where
  dst : ao.dst = o.dst
  op : stripOp P o.op = some ao.op ∨ ao.op = .other
  lt : ao.op = .other ∨ ∀ d, o.dst = some d → d < N
  guard : (o.guard = none ∧ ao.guard = none) ∨ ao.op = .other ∨ ∃ j w d, o.guard = some (j, w) ∧ dstOf ops j = some d ∧ ao.guard = some (d, w)

theorem corr_strip (P : Program) (N : Nat) (ops : Array Oper) (draw : Bool) (i : Nat) (o : Oper) : Corr P N ops o (stripOper P N ops draw i o) := by
  have hop : ∀ c : Bool, (if c = true then (stripOp P o.op).getD .other else .other) = AOp.other ∨ c = true ∧ stripOp P o.op = some (if c = true then (stripOp P o.op).getD .other else .other) := by
    intro c
    cases c with
    | false => exact .inl rfl
    | true => cases h : stripOp P o.op <;> simp
  generalize hc : (o.dst.all (· < N) && (match o.guard with | none => true | some (j, _) => (dstOf ops j).isSome)) = c at *
  have e : (stripOper P N ops draw i o).op = if c = true then (stripOp P o.op).getD .other else .other := by rw [← hc]; rfl
  have hk := hop c
  rw [← e] at hk
  refine ⟨rfl, hk.symm.imp (fun h => h.2) id, ?_, ?_⟩
  · rcases hk with h | ⟨rfl, _⟩
    · exact .inl h
    · simp only [Bool.and_eq_true, Option.all_eq_true, decide_eq_true_eq] at hc
      exact .inr fun d hd => hc.1 d (by simp [hd])
  · rcases hk with h | ⟨rfl, _⟩
    · exact .inr (.inl h)
    · have hg : (stripOper P N ops draw i o).guard = match o.guard with | none => none | some (j, w) => (dstOf ops j).map fun d => (d, w) := rfl
      rw [hg]
      cases hgo : o.guard with
      | none => exact .inl ⟨rfl, rfl⟩
      | some g =>
        obtain ⟨j, w⟩ := g
        rw [hgo] at hc
        simp only [Bool.and_eq_true] at hc
        obtain ⟨d, hd⟩ := Option.isSome_iff_exists.1 hc.2
        exact .inr (.inr ⟨j, w, d, rfl, hd, by simp [hd]⟩)

theorem aop_other {s : St} {π : Path} : aop s π .other = .bad := rfl

/-- Is the operation carried out? Just when its conditions hold. -/
theorem wanted_iff {N : Nat} {ops : Array Oper} {o : Oper} {ao : AOper} (hc : Corr P N ops o ao) (hno : ao.op ≠ .other) {E l : List Slot} {H : Heap} {a : Act} (hS : SOkE φ E l a) {π : Path} (h : gpath ⟨l, H⟩ ao.guard = some π) :
    (Region.wanted o (yielded ops a.tmps) = true ↔ conds π) := by
  obtain ⟨hπ, h1, h2⟩ := gpath_ok hS h
  rcases hc.guard with ⟨e1, e2⟩ | e | ⟨j, w, d, e1, e2, e3⟩
  · rw [h1 e2]
    simp [Region.wanted, e1, conds]
  · exact absurd e hno
  · obtain ⟨p, b, hs, rfl⟩ := h2 d w e3
    have hk := hS d _ hs
    have hy : yielded ops a.tmps j = match a.tmps[d]? with | some (.bool b) => some b | _ => none := by
      unfold yielded
      unfold dstOf at e2
      rw [e2]
      simp only [Option.bind_some]
      cases a.tmps[d]? <;> rfl
    simp only [Region.wanted, e1, hy, conds]
    by_cases hcp : conds p
    · have := hk.on hcp
      have hv : a.tmps.getD d undef = .bool b := this
      have hsome : a.tmps[d]? = some (.bool b) := by
        rw [Array.getD_eq_getD_getElem?] at hv
        cases ht : a.tmps[d]? with
        | none => rw [ht] at hv; simp [undef] at hv
        | some x => rw [ht] at hv; simp at hv; rw [hv]
      rw [hsome]
      cases b <;> cases w <;> simp [hcp]
    · have hv := hk.off.resolve_left (by simp) hcp
      have hn : ∀ b', a.tmps[d]? ≠ some (.bool b') := fun b' e => by
        rw [Array.getD_eq_getD_getElem?, e] at hv
        simp [undef] at hv
      constructor
      · intro hh
        exfalso
        cases ht : a.tmps[d]? with
        | none => rw [ht] at hh; simp at hh
        | some x => cases x <;> first | exact hn _ ht | (rw [ht] at hh; simp at hh)
      · intro hh; exact absurd hh.2 hcp

theorem imp_apply : ∀ {π : Path} {p : Prop}, imp π p → conds π → p
  | [], p, h, _ => h
  | (_, _, _) :: r, p, h, hc => imp_apply (h hc.1) hc.2

end Go.AM
