/- AM: arguments opened: what a reading of plain data (numbers, bools, structs, arrays, slices of such) says of the cells. -/
import Derived.Test.YtmbnakinhnkabaaAm22
import Derived.DataOpen
import Derived.OpenShut
import Derived.Carry
import Derived.ChangeSame
namespace Go.AM
open Go.WideShapes Go.ChangeShapes Go.RowKit
set_option linter.unusedVariables false
set_option linter.unusedSimpArgs false

inductive CK where
  | bool
  | int (k : IntKind)
  | slice (e : TypeId)

def okK (P : Program) (w : World) (T : TypeId → List Value → Prop) : CK → Value → Prop
  | .bool, x => ∃ b, x = .bool b
  | .int k, x => ∃ n, x = .int k n ∧ (Lit.int k n).wf = true
  | .slice e, x => x = .slice none 0 0 ∨ ∃ a len cap, x = .slice (some a) len cap ∧ len ≤ cap ∧ cap ≤ maxLen ∧ ∀ i, i < len → ∃ cs, w.cells? 0 (a.add (i * P.cellsOf e)) (P.cellsOf e) = some cs ∧ T e cs

def kindsF (g : TypeId → Option (List CK)) : List Field → Option (List CK)
  | [] => some []
  | f :: fs => match g f.type, kindsF g fs with
    | some a, some b => some (a ++ b)
    | _, _ => none
def repK : Nat → List CK → List CK
  | 0, _ => []
  | n + 1, l => l ++ repK n l
def kindsT (P : Program) : Nat → TypeId → Option (List CK)
  | 0, _ => none
  | d + 1, t =>
    match P.underlying t with
    | some .bool => some [.bool]
    | some (.int k) => some [.int k]
    | some (.slice e) => some [.slice e]
    | some (.struct fs) => if P.consecB fs.toList 0 (P.cellsOf t) = true then kindsF (kindsT P d) fs.toList else none
    | some (.array n e) => if P.cellsOf t = n * P.cellsOf e then (match kindsT P d e with | some l => some (repK n l) | none => none) else none
    | _ => none

section
variable {P : Program} {w : World} {T : TypeId → List Value → Prop}

theorem kindsF_ok {g : TypeId → Option (List CK)} {T' : TypeId → List Value → Prop} (IH : ∀ t K cs, g t = some K → T' t cs → F2 (okK P w T) K cs) (cs : List Value) :
    ∀ (fs : List Field) (off : Nat) (K : List CK), P.consecB fs off cs.length = true → kindsF g fs = some K → (∀ (i : Nat) (f : Field), fs[i]? = some f → T' f.type ((cs.drop f.offset).take (P.cellsOf f.type))) → F2 (okK P w T) K (cs.drop off)
  | [], off, K, hc, hK, _ => by
    simp only [Program.consecB, beq_iff_eq] at hc
    simp only [kindsF, Option.some.injEq] at hK
    subst hK
    have h0 : cs.drop off = [] := List.drop_eq_nil_iff.2 (by omega)
    rw [h0]
    exact .nil
  | f :: fs, off, K, hc, hK, hT => by
    simp only [Program.consecB, Bool.and_eq_true, beq_iff_eq] at hc
    obtain ⟨hoff, hc⟩ := hc
    simp only [kindsF] at hK
    cases ha : g f.type with
    | none => simp [ha] at hK
    | some a =>
      cases hb : kindsF g fs with
      | none => simp [ha, hb] at hK
      | some b =>
        simp only [ha, hb, Option.some.injEq] at hK
        subst hK
        have h1 := IH _ _ _ ha (hT 0 f rfl)
        have h2 := kindsF_ok IH cs fs (off + P.cellsOf f.type) b hc hb (fun i f' hf => hT (i + 1) f' hf)
        have h3 := h1.append h2
        rw [hoff, take_drop_step] at h3
        exact h3

theorem repK_ok {l : List CK} (c : Nat) (cs : List Value) :
    ∀ (n s : Nat), cs.length = (s + n) * c → (∀ i, s ≤ i → i < s + n → F2 (okK P w T) l ((cs.drop (i * c)).take c)) → F2 (okK P w T) (repK n l) (cs.drop (s * c))
  | 0, s, hl, _ => by
    have h0 : cs.drop (s * c) = [] := List.drop_eq_nil_iff.2 (by simp at hl; omega)
    rw [h0]
    exact .nil
  | n + 1, s, hl, h => by
    have h1 := h s (Nat.le_refl _) (by omega)
    have h2 := repK_ok c cs n (s + 1) (by rw [hl]; congr 1; omega) (fun i hi hj => h i (by omega) (by omega))
    have h3 := h1.append h2
    rw [Nat.add_mul, Nat.one_mul, take_drop_step] at h3
    exact h3
end

section
variable {H : Type} {enc : TypeId × Value → H} {P : Program} {w : World} {spare : Nat → Bool} {held : Bool}

def Tr (enc : TypeId × Value → H) (P : Program) (w : World) (spare : Nat → Bool) (held : Bool) : TypeId → List Value → Prop := fun t cs => ∃ m y, DataW.trod enc P w 0 spare held m t cs = some y

theorem kinds_ok : ∀ (d : Nat) (t : TypeId) (K : List CK) (cs : List Value), kindsT P d t = some K → Tr enc P w spare held t cs → F2 (okK P w (Tr enc P w spare held)) K cs
  | 0, _, _, _, hK, _ => by simp [kindsT] at hK
  | d + 1, t, K, cs, hK, ⟨m, y, h⟩ => by
    unfold kindsT at hK
    cases ht : P.underlying t with
    | none => simp [ht] at hK
    | some desc =>
      simp only [ht] at hK
      cases desc
      case bool =>
        simp only [Option.some.injEq] at hK
        subst hK
        obtain ⟨b, rfl, _⟩ := DataW.trod_bool ht h
        exact .cons ⟨b, rfl⟩ .nil
      case int k =>
        simp only [Option.some.injEq] at hK
        subst hK
        obtain ⟨n, rfl, _, hw⟩ := DataW.trod_int ht h
        exact .cons ⟨n, rfl, hw⟩ .nil
      case slice e =>
        simp only [Option.some.injEq] at hK
        subst hK
        rcases DataW.trod_slice ht h with ⟨rfl, _⟩ | ⟨a, len, cap, elems, rest, n, _, rfl, _, _, hl, hc, hel, hi, _, _⟩
        · exact .cons (.inl rfl) .nil
        · refine .cons (.inr ⟨a, len, cap, rfl, hl, hc, fun i hlt => ?_⟩) .nil
          have h1 := hi i hlt
          obtain ⟨z, hz⟩ : ∃ z, elems[i]? = some z := ⟨_, List.getElem?_eq_getElem (by omega)⟩
          rw [hz, Option.bind_eq_some_iff] at h1
          obtain ⟨cs, hcs, hd⟩ := h1
          exact ⟨cs, hcs, n, z, hd⟩
      case struct fs =>
        simp only at hK
        split at hK
        · rename_i hcons
          obtain ⟨xs, n, _, _, hl, hxl, hf⟩ := DataW.trod_struct ht h
          rw [← hl] at hcons
          have h2 := kindsF_ok (T := Tr enc P w spare held) (T' := Tr enc P w spare held) (fun t K cs a b => kinds_ok d t K cs a b) cs fs.toList 0 K hcons hK (fun i f hfi => by
            have hfi' : fs[i]? = some f := by simpa using hfi
            have hlt : i < fs.size := by
              rcases Nat.lt_or_ge i fs.size with h | h
              · exact h
              · rw [Array.getElem?_eq_none h] at hfi'; cases hfi'
            exact ⟨n, xs[i]'(by omega), (hf i f hfi').trans (List.getElem?_eq_getElem (by omega))⟩)
          simpa using h2
        · cases hK
      case array n e =>
        simp only at hK
        split at hK
        · rename_i hcn
          cases hl : kindsT P d e with
          | none => simp [hl] at hK
          | some l =>
            simp only [hl, Option.some.injEq] at hK
            subst hK
            obtain ⟨xs, m', _, _, hlen, hxl, hf⟩ := DataW.trod_array ht h
            have h2 := repK_ok (P := P) (w := w) (T := Tr enc P w spare held) (l := l) (P.cellsOf e) cs n 0 (by rw [hlen, hcn]; simp) (fun i _ hi =>
              kinds_ok d e l _ hl ⟨m', xs[i]'(by omega), (hf i (by omega)).trans (List.getElem?_eq_getElem (by omega))⟩)
            simpa using h2
        · cases hK
      all_goals simp at hK
end

def boolAt (cs : List Value) (i : Nat) : Bool := match cs[i]? with | some (.bool b) => b | _ => false
def intAt (cs : List Value) (i : Nat) : Int := match cs[i]? with | some (.int _ n) => n | _ => 0
def lenV : Value → Nat
  | .slice _ n _ => n
  | _ => 0
def lenAt (cs : List Value) (i : Nat) : Nat := match cs[i]? with | some x => lenV x | none => 0
def valAt (cs : List Value) (i : Nat) : Value := match cs[i]? with | some x => x | none => .nilFunc

def gen (id : Nat) (cs : List Value) : List CK → Nat → List CV
  | [], _ => []
  | .bool :: K, o => .bool (boolAt cs o) :: gen id cs K (o + 1)
  | .int k :: K, o => .int k (intAt cs o) :: gen id cs K (o + 1)
  | .slice _ :: K, o => .slice ⟨id, 0, 0, 0⟩ false (lenAt cs o) :: gen id cs K (o + 1)

theorem drop_head {cs : List Value} {o : Nat} {x : Value} {r : List Value} (h : cs.drop o = x :: r) : cs[o]? = some x ∧ cs.drop (o + 1) = r := by
  constructor
  · have := congrArg (fun l => l[0]?) h
    simpa using this
  · have := congrArg List.tail h
    simpa using this

theorem gen_rel {P : Program} {w : World} {T : TypeId → List Value → Prop} {φ : Emb} {id : Nat} {cs : List Value} (hs : ∀ (j : Nat) (e : TypeId) (x : Value), cs[j]? = some x → okK P w T (.slice e) x → rel φ (.slice ⟨id, 0, 0, 0⟩ false (lenV x)) x) :
    ∀ (K : List CK) (o : Nat), F2 (okK P w T) K (cs.drop o) → F2 (rel φ) (gen id cs K o) (cs.drop o)
  | [], o, h => by rw [h.nil_left]; exact .nil
  | k :: K, o, h => by
    obtain ⟨x, r, e, hx, hr⟩ := h.cons_left
    obtain ⟨h0, h1⟩ := drop_head e
    rw [← h1] at hr
    have h2 := gen_rel hs K (o + 1) hr
    rw [h1] at h2
    rw [e]
    cases k with
    | bool => obtain ⟨b, rfl⟩ := hx; exact .cons (by simp [boolAt, h0, rel]) h2
    | int k => obtain ⟨n, rfl, _⟩ := hx; exact .cons (by simp [intAt, h0, rel]) h2
    | slice t => exact .cons (by simp only [lenAt, h0]; exact hs o t x h0 hx) h2

def noSl : List CK → Bool
  | [] => true
  | .slice _ :: _ => false
  | _ :: K => noSl K
theorem noSl_rel {P : Program} {w : World} {T : TypeId → List Value → Prop} {φ : Emb} {id : Nat} {cs : List Value} :
    ∀ (K : List CK) (o : Nat), noSl K = true → F2 (okK P w T) K (cs.drop o) → F2 (rel φ) (gen id cs K o) (cs.drop o)
  | [], o, _, h => by rw [h.nil_left]; exact .nil
  | k :: K, o, hn, h => by
    obtain ⟨x, r, e, hx, hr⟩ := h.cons_left
    obtain ⟨h0, h1⟩ := drop_head e
    rw [← h1] at hr
    cases k with
    | bool =>
      have h2 := noSl_rel (φ := φ) (id := id) K (o + 1) hn hr
      rw [h1] at h2; rw [e]
      obtain ⟨b, rfl⟩ := hx; exact .cons (by simp [boolAt, h0, rel]) h2
    | int k =>
      have h2 := noSl_rel (φ := φ) (id := id) K (o + 1) hn hr
      rw [h1] at h2; rw [e]
      obtain ⟨n, rfl, _⟩ := hx; exact .cons (by simp [intAt, h0, rel]) h2
    | slice t => cases hn

/-- What an integer of a reading can be. -/
theorem int_wf {P : Program} {w : World} {T : TypeId → List Value → Prop} {K : List CK} {cs : List Value} (h : F2 (okK P w T) K cs) {i : Nat} {k : IntKind} (hk : K[i]? = some (.int k)) : (Lit.int k (intAt cs i)).wf = true := by
  obtain ⟨x, hx, n, rfl, hw⟩ := h.get hk
  simp only [intAt, hx]
  exact hw

/-- Where a slice lies. -/
def placeOf (x : Value) (str : Nat) : Option Place := match x with | .slice (some a) _ cap => some ⟨a.block, a.off, str, cap⟩ | _ => none
def rowsOf (w : World) (x : Value) (c i : Nat) : List Value := match x with | .slice (some a) _ _ => (match w.cells? 0 (a.add (i * c)) c with | some cs => cs | none => []) | _ => []

theorem has_spot {P : Program} {w : World} {r : Reach} {b : Nat} {a : Addr} {e : TypeId} {n : Nat} (h : w.has P r b a e n) : a.spot = none ∧ a.block < w.heap.size := by
  obtain ⟨_, hs, row, cells, hsh, _⟩ := h
  refine ⟨hs, ?_⟩
  unfold World.shape? at hsh
  rcases Nat.lt_or_ge a.block w.heap.size with h | h
  · exact h
  · rw [Array.getElem?_eq_none h] at hsh
    cases hsh

theorem spot_cell {P : Program} {w : World} {r : Reach} {b : Nat} {u : TypeId} {a : Addr} {len cap : Nat} (h : Cell.okWide P w r b u (.slice (some a) len cap)) : a.spot = none ∧ a.block < w.heap.size := by
  unfold Cell.okWide at h
  cases hu : P.underlying u with
  | none => simp [hu, Cell.ok] at h
  | some desc =>
    cases desc <;> simp [hu, Cell.ok] at h
    exact has_spot h.2.2

theorem spot_agg {P : Program} {w : World} {r : Reach} {b : Nat} {t : TypeId} {fs : Array Field} {cs : Array Value} (ht : P.underlying t = some (.struct fs)) (h : Value.okWide P w r b t (.agg cs)) {i : Nat} {a : Addr} {len cap : Nat} (hi : cs.toList[i]? = some (.slice (some a) len cap)) :
    a.spot = none ∧ a.block < w.heap.size := by
  unfold Value.okWide at h
  simp only [ht] at h
  obtain ⟨cs', he, _, ts, _, _, hr⟩ := h
  cases he
  obtain ⟨u, _, hu⟩ := hr i _ (by simpa using hi)
  exact spot_cell hu

theorem spot_slice {P : Program} {w : World} {r : Reach} {b : Nat} {t e : TypeId} (ht : P.underlying t = some (.slice e)) {a : Addr} {len cap : Nat} (h : Value.okWide P w r b t (.slice (some a) len cap)) : a.spot = none ∧ a.block < w.heap.size := by
  unfold Value.okWide at h
  simp only [ht] at h
  exact spot_cell h

theorem rel_slice {P : Program} {w : World} {T : TypeId → List Value → Prop} {φ : Emb} {id str : Nat} {e : TypeId} {x : Value} (hx : okK P w T (.slice e) x) (hs : ∀ a len cap, x = .slice (some a) len cap → a.spot = none) (hφ : φ id = placeOf x str) :
    rel φ (.slice ⟨id, 0, 0, 0⟩ false (lenV x)) x := by
  rcases hx with rfl | ⟨a, len, cap, rfl, hl, hc, _⟩
  · exact ⟨none, 0, rfl, Nat.le_refl _, .inl ⟨rfl, rfl, .inl rfl⟩⟩
  · refine ⟨some a, cap, rfl, hl, .inr ⟨_, hφ, ?_, fun _ => ⟨rfl, rfl, by simp⟩⟩⟩
    have h1 := hs a len cap rfl
    cases a
    simp only at h1
    subst h1
    simp [Place.at]

theorem brel_slice {P : Program} {w : World} {T : TypeId → List Value → Prop} {φ : Emb} {id c n : Nat} {e te : TypeId} {x : Value} {K : List CK} {row : Nat → List Seg} {p : Place} (hx : okK P w T (.slice e) x) (hs : ∀ a len cap, x = .slice (some a) len cap → a.spot = none) (hc : P.cellsOf e = c)
    (hK : ∀ cs, T e cs → F2 (okK P w T) K cs) (hno : noSl K = true) (hrow : ∀ i, flat (row i) = gen id (rowsOf w x c i) K 0) (hn : n = lenV x) (hp : placeOf x c = some p) : BRel φ ⟨c, some n, row, te, false⟩ p w := by
  rcases hx with rfl | ⟨a, len, cap, rfl, hl, hcap, hi⟩
  · cases hp
  · have h1 := hs a len cap rfl
    obtain ⟨bk, off, sp⟩ := a
    simp only at h1
    subst h1
    simp only [placeOf, Option.some.injEq] at hp
    subst hp
    refine ⟨rfl, fun i hlt => ?_, fun h => by cases h⟩
    have hlt' : i < len := by subst hn; exact hlt
    obtain ⟨cs, hcs, hT⟩ := hi i hlt'
    rw [hc] at hcs
    obtain ⟨_, hlen, hcell⟩ := World.cells?_some hcs
    refine ⟨cs, ?_, hlen, fun j y hy => ?_⟩
    · rw [hrow i]
      have hr : rowsOf w (.slice (some ⟨bk, off, none⟩) len cap) c i = cs := by simp only [rowsOf, hcs]
      rw [hr]
      have := noSl_rel (φ := φ) (id := id) K 0 hno (by simpa using hK cs hT)
      simpa using this
    · have hj : j < c := by
        rcases Nat.lt_or_ge j cs.length with h | h
        · omega
        · rw [List.getElem?_eq_none h] at hy; cases hy
      have := hcell j hj
      rw [hy, add_plain, add_plain] at this
      rw [← this, Nat.mul_comm]

theorem place_lt {x : Value} {str : Nat} {w : World} {p : Place} (hs : ∀ a len cap, x = .slice (some a) len cap → a.block < w.heap.size) (hp : placeOf x str = some p) : p.blk < w.heap.size := by
  unfold placeOf at hp
  split at hp
  · cases hp; exact hs _ _ _ rfl
  · cases hp

/-- A call that wrote no block of what it was given left all below as it was. -/
theorem Fr.below {φ ψ : Emb} {H K : Heap} {w v : World} (h : Fr φ H w ψ K v) (hno : ∀ i B, getB H.blks i = some B → B.wr = false) : Below w.heap.size w v :=
  ⟨h.os, h.tape, h.output, h.size, fun k hk => h.old k hk (fun i B p h1 h2 _ => by rw [hno i B h1] at h2; cases h2)⟩

section
variable {H : Type} {enc : TypeId × Value → H} {P : Program}
/-- The row's last step, of a call that left all old memory as it was. -/
theorem post_of_old {f : Func} {s : ChangeSpec} {apart fresh handsOn again : Bool} {W W' : World} {args : Array Value} {v : Value} {ds gs : List (DataW H)} {before pa pv : List MemPlace}
    (hW : DataW.Whole enc P f.params.toList s.vars apart W args.toList ds gs before)
    (hres : ∀ (b : Nat) (sp : Nat → Bool) (hd : Bool), DataW.TrodAll enc P W' b sp hd f.resultTypes.toList (v.resultList f.resultTypes.size) (s.fn H (ds ++ gs)).results [])
    (hargs : ∀ sp : Nat → Bool, (∀ p ∈ before, sp p.block = true) → DataW.TrodAll enc P W' 0 sp true f.params.toList args.toList (s.fn H (ds ++ gs)).args pa)
    (hvars : ∀ sp : Nat → Bool, (∀ p ∈ before, sp p.block = true) → DataW.TrodVars enc P W' sp s.vars (s.fn H (ds ++ gs)).vars pv)
    (hps : before = pa ++ pv) (hb : Below W.heap.size W W')
    (hok : ∀ (j : Nat) (t : TypeId) (r : Value), f.resultTypes[j]? = some t → (v.resultList f.resultTypes.size)[j]? = some r → Value.okWide P W' .any 0 t r) :
    s.post enc P f apart fresh handsOn again W args v W' := by
  have hlt : ∀ p ∈ before, p.block < W.heap.size := fun p hp => hW.lt p hp
  have hold : ∀ p ∈ before, (fun b => decide (b < W.heap.size)) p.block = true := fun p hp => by simpa using hlt p hp
  refine ⟨ds, gs, before, [], pa, pv, hW, hres _ _ _, hargs _ hold, hvars _ hold, World.keptBut_mono (fun p hp => ⟨hp, ?_⟩) (hb.frame (· ∈ before)), fun _ => ?_⟩
  · rw [hps, List.mem_append] at hp
    exact Or.inr hp
  · obtain ⟨_, _, _, _, _, hz, hn⟩ := hW
    refine ⟨hok, _, _, ([] ++ pa) ++ pv, ⟨[] ++ pa, pv, trodAll_append (hargs _ (fun _ _ => rfl)) (hres _ _ _), hvars _ (fun _ _ => rfl), rfl, ?_, ?_⟩, ?_⟩
    · intro b off hp
      have hin : MemPlace.cell b off ∈ before := by rw [hps]; simpa using hp
      rw [hb.frozen (hlt _ hin)]
      exact hz b off hin
    · intro ha
      have := hn ha
      rw [hps] at this
      simpa using this
    · intro p hp _
      rw [hps]
      simpa using hp
end
end Go.AM
