/- AM: what is held against one another. -/
import Derived.Test.YtmbnakinhnkabaaAmS
import Derived.Test.YtmbnakinhnkabaaAm1
namespace Go.AM
set_option linter.unusedVariables false
set_option linter.unusedSimpArgs false
variable {P : Program} {φ : Emb} {w : World}

def scal (P : Program) (t : TypeId) : Bool → Prop
  | true => ∃ k, P.underlying t = some (.int k)
  | false => P.underlying t = some .bool

theorem run_part_scal {t : TypeId} {b : Bool} (h : scal P t b) {xs : Array Value} {o : Nat} {x : Value} (hx : xs[o]? = some x) : (part t xs o).run P w = .ok x w := by
  cases b with
  | true => obtain ⟨k, hu⟩ := h; simp [part, isAgg, run_underlying hu, hx]
  | false => have hu : P.underlying t = some .bool := h; simp [part, isAgg, run_underlying hu, hx]

theorem run_eq_scal {t : TypeId} {b : Bool} (h : scal P t b) {a c : CV} {x y : Value} (hx : rel φ a x) (hy : rel φ c y) (d : Nat) :
    (∀ r, eqS1 b a c = some r → (Op.equalIn (d + 1) t x y).run P w = .ok r w) ∧ (kin b a c → (Op.equalIn (d + 1) t x y).run P w = .ok (eqCb a c) w) := by
  cases b with
  | true =>
    obtain ⟨k, hu⟩ := h
    cases a <;> cases c <;> simp only [eqS1, kin, reduceCtorEq, false_implies, implies_true, and_self, eqCb]
    rename_i j m k' n
    have e1 : x = .int j m := hx
    have e2 : y = .int k' n := hy
    subst e1; subst e2
    refine ⟨fun r hr => ?_, fun hk => ?_⟩
    · split at hr
      · rename_i hk
        have := sameK_eq hk; subst this
        simp only [Option.some.injEq] at hr
        subst hr
        exact run_equalIn_int w d t j k m n hu
      · simp at hr
    · have := sameK_eq hk; subst this
      exact run_equalIn_int w d t j k m n hu
  | false =>
    have hu : P.underlying t = some .bool := h
    cases a <;> cases c <;> simp only [eqS1, kin, reduceCtorEq, false_implies, implies_true, and_self, eqCb]
    rename_i m n
    have e1 : x = .bool m := hx
    have e2 : y = .bool n := hy
    subst e1; subst e2
    refine ⟨fun r hr => ?_, fun _ => ?_⟩
    · simp only [Option.some.injEq] at hr; subst hr; exact run_equalIn_bool' w d t m n hu
    · exact run_equalIn_bool' w d t m n hu

theorem run_eqItems_scal {e : TypeId} {b : Bool} (h : scal P e b) (f g : Nat → CV) (xs ys : Array Value) (d : Nat) : ∀ (is : List Nat),
    (∀ i ∈ is, kin b (f i) (g i) ∧ (∃ x, xs[i]? = some x ∧ rel φ (f i) x) ∧ ∃ y, ys[i]? = some y ∧ rel φ (g i) y) →
    (Op.eqItems (d + 1) e 1 xs ys is).run P w = .ok (is.all fun z => eqCb (f z) (g z)) w
  | [], _ => by simp [Op.eqItems]
  | i :: is, hh => by
    obtain ⟨h1, ⟨x, h2, h3⟩, y, h4, h5⟩ := hh i (by simp)
    have ih := run_eqItems_scal h f g xs ys d is fun j hj => hh j (by simp [hj])
    simp only [Op.eqItems, Nat.mul_one, Sem.run_bind, run_part_scal h h2, run_part_scal h h4, Result.andThen_ok, (run_eq_scal (w := w) h h3 h5 d).2 h1, List.all_cons]
    cases eqCb (f i) (g i) with
    | false => simp
    | true => simpa using ih

theorem F2.split {α β : Type} {R : α → β → Prop} : ∀ {l m : List α} {xs : List β}, F2 R (l ++ m) xs → ∃ a b, xs = a ++ b ∧ F2 R l a ∧ F2 R m b
  | [], _, xs, h => ⟨[], xs, rfl, .nil, h⟩
  | _ :: _, _, _, .cons h1 h2 => let ⟨a, b, e, k1, k2⟩ := F2.split h2; ⟨_ :: a, b, by rw [e]; rfl, .cons h1 k1, k2⟩
theorem andP_both {a b : Option Prop} (h : needP (andP a b)) : needP a ∧ needP b := by
  cases a <;> cases b <;> simp_all [andP, needP]

theorem flat_arr_get {n : Nat} {f : Nat → CV} {r : List Seg} {xs : List Value} (h : F2 (rel φ) (flat (Seg.a n f :: r)) xs) {i : Nat} (hi : i < n) : ∃ x, xs[i]? = some x ∧ rel φ (f i) x := by
  refine h.get (i := i) ?_
  simp only [flat, Seg.flat]
  rw [List.getElem?_append_left (by simpa using hi)]
  simp [hi]

theorem eqF_ok : ∀ (fs : List Field) (i : Nat) (ks : List FK) (l m : List Seg) (need : Option Prop) (r : Bool) (xs ys : Array Value), flatK P fs i = some ks → eqF ks l m = some (need, r) → needP need →
    F2 (rel φ) (flat l) (xs.toList.drop i) → F2 (rel φ) (flat m) (ys.toList.drop i) → (Op.eqFields 9999 xs ys fs).run P w = .ok r w
  | [], i, ks, l, m, need, r, xs, ys, hk, he, hn, hx, hy => by
    simp only [flatK, Option.some.injEq] at hk
    subst hk
    cases l <;> cases m <;> simp [eqF] at he
    rw [he.2]
    simp [Op.eqFields]
  | f :: fs, i, ks, l, m, need, r, xs, ys, hk, he, hn, hx, hy => by
    simp only [flatK] at hk
    split at hk
    · rename_i hf
      obtain ⟨hname, hoff⟩ := hf
      have one : ∀ b, scal P f.type b → (flatK P fs (i + 1)).map (FK.one b :: ·) = some ks → (Op.eqFields 9999 xs ys (f :: fs)).run P w = .ok r w := by
        intro b hb hk
        simp only [Option.map_eq_some_iff] at hk
        obtain ⟨ks', hk', rfl⟩ := hk
        cases l with
        | nil => simp [eqF] at he
        | cons s l =>
          cases m with
          | nil => cases s <;> simp [eqF] at he
          | cons t m =>
            cases s <;> cases t <;> simp only [eqF, reduceCtorEq] at he
            rename_i a c
            split at he
            · rename_i b' p c' h1 h2
              simp only [Option.some.injEq, Prod.mk.injEq] at he
              obtain ⟨rfl, rfl⟩ := he
              obtain ⟨x, xr, hxe, hx1, hx2⟩ := F2.cons_left (l := flat l) hx
              obtain ⟨y, yr, hye, hy1, hy2⟩ := F2.cons_left (l := flat m) hy
              have gx : xs[i]? = some x := by
                have : (xs.toList.drop i)[0]? = some x := by rw [hxe]; rfl
                simpa using this
              have gy : ys[i]? = some y := by
                have : (ys.toList.drop i)[0]? = some y := by rw [hye]; rfl
                simpa using this
              have dx : xs.toList.drop (i + 1) = xr := by rw [← List.drop_drop, hxe]; rfl
              have dy : ys.toList.drop (i + 1) = yr := by rw [← List.drop_drop, hye]; rfl
              have ih := eqF_ok fs (i + 1) ks' l m p c' xs ys hk' h2 hn (by rw [dx]; exact hx2) (by rw [dy]; exact hy2)
              simp only [Op.eqFields, hname, ne_eq, not_false_eq_true, if_true, hoff, Sem.run_bind, run_part_scal hb gx, run_part_scal hb gy, Result.andThen_ok, (run_eq_scal (w := w) hb hx1 hy1 9998).1 _ h1]
              cases b' with
              | false => simp
              | true => simpa using ih
            · simp at he
      have arr : ∀ b n e, P.underlying f.type = some (.array n e) → P.cellsOf f.type = n → P.cellsOf e = 1 → (P.info? e).isSome = true → (P.info? f.type).isSome = true → scal P e b → (flatK P fs (i + n)).map (FK.arr n b :: ·) = some ks → (Op.eqFields 9999 xs ys (f :: fs)).run P w = .ok r w := by
        intro b n e hu hc1 hc2 hi1 hi2 hb hk
        simp only [Option.map_eq_some_iff] at hk
        obtain ⟨ks', hk', rfl⟩ := hk
        cases l with
        | nil => simp [eqF] at he
        | cons s l =>
          cases m with
          | nil => cases s <;> simp [eqF] at he
          | cons t m =>
            cases s <;> cases t <;> simp only [eqF, reduceCtorEq] at he
            rename_i n1 fx n2 fy
            split at he
            · rename_i p c' e1 e2 h2
              have e1 := Nat.eq_of_beq_eq_true e1
              have e2 := Nat.eq_of_beq_eq_true e2
              subst e1; subst e2
              simp only [Option.some.injEq, Prod.mk.injEq] at he
              obtain ⟨rfl, rfl⟩ := he
              obtain ⟨hn1, hn2⟩ := andP_both hn
              have hn1 : ∀ z, z < n → kin b (fx z) (fy z) := hn1
              obtain ⟨xa, xr, hxe, hx1, hx2⟩ := F2.split (l := (Seg.a n fx).flat) (m := flat l) hx
              obtain ⟨ya, yr, hye, hy1, hy2⟩ := F2.split (l := (Seg.a n fy).flat) (m := flat m) hy
              have lx : xa.length = n := by rw [← hx1.length, Seg.flat_length]; rfl
              have ly : ya.length = n := by rw [← hy1.length, Seg.flat_length]; rfl
              have dx : xs.toList.drop (i + n) = xr := by rw [← List.drop_drop, hxe, ← lx, List.drop_left]
              have dy : ys.toList.drop (i + n) = yr := by rw [← List.drop_drop, hye, ← ly, List.drop_left]
              have ih := eqF_ok fs (i + n) ks' l m p c' xs ys hk' h2 hn2 (by rw [dx]; exact hx2) (by rw [dy]; exact hy2)
              obtain ⟨ie, hie⟩ := Option.isSome_iff_exists.1 hi1
              obtain ⟨it, hit⟩ := Option.isSome_iff_exists.1 hi2
              have hp : ∀ zs : Array Value, (part f.type zs i).run P w = .ok (.agg (zs.extract i (i + n))) w := fun zs => by
                simp only [part, isAgg, Sem.run_bind, run_underlying hu, Result.andThen_ok, Sem.run_pure, if_true, Go.run_sizeOf w hit, hc1]
              have gx : ∀ z, z < n → ∃ x, (xs.extract i (i + n))[z]? = some x ∧ rel φ (fx z) x := fun z hz => by
                obtain ⟨x, h1, h2⟩ := flat_arr_get hx hz
                exact ⟨x, by rw [Array.getElem?_extract]; rw [if_pos (by
                  have : z < (xs.toList.drop i).length := (List.getElem?_eq_some_iff.1 h1).1
                  simp at this; omega)]; simpa using h1, h2⟩
              have gy : ∀ z, z < n → ∃ x, (ys.extract i (i + n))[z]? = some x ∧ rel φ (fy z) x := fun z hz => by
                obtain ⟨x, h1, h2⟩ := flat_arr_get hy hz
                exact ⟨x, by rw [Array.getElem?_extract]; rw [if_pos (by
                  have : z < (ys.toList.drop i).length := (List.getElem?_eq_some_iff.1 h1).1
                  simp at this; omega)]; simpa using h1, h2⟩
              have hitems := run_eqItems_scal (w := w) (φ := φ) hb fx fy (xs.extract i (i + n)) (ys.extract i (i + n)) 9997 (List.range n) fun z hz => by
                have hz : z < n := by simpa using hz
                exact ⟨hn1 z hz, gx z hz, gy z hz⟩
              have harr := run_equalIn_array (P := P) w 9998 (xs.extract i (i + n)) (ys.extract i (i + n)) hu hie
              rw [hc2, hitems] at harr
              simp only [Op.eqFields, hname, ne_eq, not_false_eq_true, if_true, hoff, Sem.run_bind, hp, Result.andThen_ok, harr]
              cases (List.range n).all fun z => eqCb (fx z) (fy z) with
              | false => simp
              | true => simpa using ih
            · simp at he
      split at hk
      · rename_i hu; exact one false hu hk
      · rename_i q hu; exact one true ⟨q, hu⟩ hk
      · rename_i n e hu
        split at hk
        · rename_i hc
          obtain ⟨c1, c2, c3, c4⟩ := hc
          split at hk
          · rename_i hue; exact arr false n e hu c1 c2 c3 c4 hue hk
          · rename_i q hue; exact arr true n e hu c1 c2 c3 c4 ⟨q, hue⟩ hk
          · simp at hk
        · simp at hk
      · simp at hk
    · simp at hk

def nkT (P : Program) (t : TypeId) : NK → Prop
  | .ptr => ∃ e, P.underlying t = some (.pointer e)
  | .fn => ∃ a b c, P.underlying t = some (.func a b c)
  | .sl => ∃ e, P.underlying t = some (.slice e)
  | .map => ∃ a b, P.underlying t = some (.map a b)

theorem nilB_ok {t : TypeId} {kd : NK} (ht : nkT P t kd) {a b : CV} {need : Option Prop} {r : Bool} (h : nilB kd a b = some (need, r)) (hn : needP need) {x y : Value} (hx : rel φ a x) (hy : rel φ b y) (d : Nat) :
    (Op.equalIn (d + 1) t x y).run P w = .ok r w ∧ (∀ op x' y', (eqGuard op t x' y' x y).run P w = .ok () w) ∧ binOp .eql t x y = (do pure (.bool (← Op.equal t x y))) ∧ binOp .neq t x y = (do pure (.bool (!(← Op.equal t x y)))) := by
  cases kd
  case ptr =>
    obtain ⟨e, hu⟩ := ht
    cases a <;> cases b <;> simp only [nilB, reduceCtorEq, Option.some.injEq, Prod.mk.injEq] at h
    all_goals obtain ⟨rfl, rfl⟩ := h
    case nilp.nilp => cases hx; cases hy; exact ⟨by simp [Op.equalIn, run_underlying hu], fun op _ _ => by cases op <;> rfl, rfl, rfl⟩
    case nilp.ptr => obtain ⟨p, _, rfl⟩ := hy; cases hx; exact ⟨by simp [Op.equalIn, run_underlying hu], fun op _ _ => by cases op <;> rfl, rfl, rfl⟩
    case ptr.nilp => obtain ⟨p, _, rfl⟩ := hx; cases hy; exact ⟨by simp [Op.equalIn, run_underlying hu], fun op _ _ => by cases op <;> rfl, rfl, rfl⟩
  case fn =>
    obtain ⟨e1, e2, e3, hu⟩ := ht
    cases a <;> cases b <;> simp only [nilB, reduceCtorEq, Option.some.injEq, Prod.mk.injEq] at h
    all_goals obtain ⟨rfl, rfl⟩ := h
    case nilfn.nilfn => cases hx; cases hy; exact ⟨by simp [Op.equalIn, run_underlying hu], fun op _ _ => by cases op <;> rfl, rfl, rfl⟩
    case nilfn.fn => obtain ⟨l, m, rfl, _⟩ := hy; cases hx; exact ⟨by simp [Op.equalIn, run_underlying hu], fun op _ _ => by cases op <;> rfl, rfl, rfl⟩
    case fn.nilfn => obtain ⟨l, m, rfl, _⟩ := hx; cases hy; exact ⟨by simp [Op.equalIn, run_underlying hu], fun op _ _ => by cases op <;> rfl, rfl, rfl⟩
  case sl =>
    obtain ⟨e, hu⟩ := ht
    cases a <;> cases b <;> simp only [nilB, reduceCtorEq, Option.some.injEq, Prod.mk.injEq] at h
    all_goals obtain ⟨rfl, rfl⟩ := h
    case nils.nils => cases hx; cases hy; exact ⟨by simp [Op.equalIn, run_underlying hu], fun op _ _ => by cases op <;> rfl, rfl, rfl⟩
    case nils.slice a i n =>
      have hn : 0 < n := hn
      obtain ⟨r, cap, rfl, hl, k⟩ := hy
      rcases k with ⟨h0, _⟩ | ⟨p, _, rfl, _⟩
      · omega
      cases hx
      exact ⟨by simp [Op.equalIn, run_underlying hu], fun op _ _ => by cases op <;> rfl, rfl, rfl⟩
    case slice.nils a i n =>
      have hn : 0 < n := hn
      obtain ⟨r, cap, rfl, hl, k⟩ := hx
      rcases k with ⟨h0, _⟩ | ⟨p, _, rfl, _⟩
      · omega
      cases hy
      exact ⟨by simp [Op.equalIn, run_underlying hu], fun op _ _ => by cases op <;> rfl, rfl, rfl⟩
  case map =>
    obtain ⟨e1, e2, hu⟩ := ht
    cases a <;> cases b <;> simp only [nilB, reduceCtorEq, Option.some.injEq, Prod.mk.injEq] at h
    all_goals obtain ⟨rfl, rfl⟩ := h
    case nilm.nilm => cases hx; cases hy; exact ⟨by simp [Op.equalIn, run_underlying hu], fun op _ _ => by cases op <;> rfl, rfl, rfl⟩
    case nilm.map => obtain ⟨p, _, rfl⟩ := hy; cases hx; exact ⟨by simp [Op.equalIn, run_underlying hu], fun op _ _ => by cases op <;> rfl, rfl, rfl⟩
    case map.nilm => obtain ⟨p, _, rfl⟩ := hx; cases hy; exact ⟨by simp [Op.equalIn, run_underlying hu], fun op _ _ => by cases op <;> rfl, rfl, rfl⟩

end Go.AM
