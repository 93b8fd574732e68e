/- AM: regions, whole. -/
import Derived.Test.YtmbnakinhnkabaaAm15
namespace Go.AM
set_option linter.unusedVariables false
set_option linter.unusedSectionVars false
set_option linter.unusedSimpArgs false
variable {P : Program} {φ : Emb} {w : World}

theorem maskE_ok {ops : Array Oper} {o : Oper} {ms : List Nat} (hms : ∀ k o, ops[k]? = some o → ∀ j, (ms.getD k 0).testBit j = true → Behind ops o j) (hin : ∀ k, ms.length ≤ k → ms.getD k 0 = 0) (hops : ∀ k, k < ms.length → ∃ o, ops[k]? = some o) :
    ∀ (es : List Edge) (acc : Nat), (∀ e ∈ es, e ∈ o.after.toList) → (∀ j, acc.testBit j = true → Behind ops o j) → ∀ j, (maskE ms es acc).testBit j = true → Behind ops o j
  | [], acc, _, ha, j, hj => ha j hj
  | e :: r, acc, he, ha, j, hj => by
    simp only [maskE] at hj
    refine maskE_ok hms hin hops r _ (fun x hx => he x (by simp [hx])) (fun i hi => ?_) j hj
    split at hi
    · rename_i hb
      have hwe : waits o e.on = true := by
        unfold waits
        exact List.any_eq_true.2 ⟨e, he e (by simp), by simp [hb]⟩
      simp only [Nat.testBit_or, Bool.or_eq_true] at hi
      rcases hi with (hi | hi) | hi
      · exact ha i hi
      · have : i = e.on := by
          rw [Nat.one_shiftLeft, Nat.testBit_two_pow] at hi
          have := of_decide_eq_true hi
          omega
        subst this
        exact fun L _ hL => hL _ hwe
      · by_cases hlt : e.on < ms.length
        · obtain ⟨x, hx⟩ := hops _ hlt
          intro L hc hL
          exact hms _ x hx i hi L hc fun j' hj' => hc _ x j' (hL _ hwe) hx hj'
        · rw [hin _ (by omega)] at hi
          simp at hi
    · exact ha i hi

theorem masks_ok {ops : Array Oper} : ∀ (l : List Oper) (ms : List Nat), ops.toList.drop ms.length = l → ms.length ≤ ops.size → (∀ k o, ops[k]? = some o → ∀ j, (ms.getD k 0).testBit j = true → Behind ops o j) → ∀ k o, ops[k]? = some o → ∀ j, ((masks l ms).getD k 0).testBit j = true → Behind ops o j
  | [], ms, _, _, h => h
  | o :: r, ms, hd, hle, h => by
    simp only [masks]
    have hlt : ms.length < ops.size := by
      have : (ops.toList.drop ms.length).length ≠ 0 := by rw [hd]; simp
      simp at this
      omega
    have ho : ops[ms.length]? = some o := by
      have : (ops.toList.drop ms.length)[0]? = some o := by rw [hd]; rfl
      simpa using this
    have hin : ∀ k, ms.length ≤ k → ms.getD k 0 = 0 := fun k hk => by simp [List.getD_eq_getElem?_getD, List.getElem?_eq_none hk]
    refine masks_ok r _ ?_ (by simp; omega) fun k x hx j hj => ?_
    · rw [List.length_append, ← List.drop_drop, hd]; rfl
    · rcases Nat.lt_trichotomy k ms.length with hk | hk | hk
      · refine h k x hx j ?_
        simpa [List.getD_eq_getElem?_getD, List.getElem?_append_left hk] using hj
      · subst hk
        rw [ho] at hx
        cases hx
        refine maskE_ok h hin (fun k hk => ⟨_, Array.getElem?_eq_getElem (show k < ops.size by omega)⟩) o.after.toList 0 (fun _ h => h) (fun j hj => by simp at hj) j ?_
        simpa [List.getD_eq_getElem?_getD] using hj
      · have : (ms ++ [maskE ms o.after.toList 0]).getD k 0 = 0 := by
          rw [List.getD_eq_getElem?_getD, List.getElem?_eq_none (by simp; omega)]; rfl
        rw [this] at hj
        simp at hj

section
variable {N : Nat} {ops : Array Oper} {al : List AOper} {m0 m : Nat} {S : Nat → St} {Pa : Nat → Path} {V : Nat → AV} {Hp : Nat → Heap} {KK : Nat → List Nat}

variable {F : Fence} [Wide F]
theorem draw_any (hR : Run P N ops al m0 m S Pa V Hp KK) (hT : ∀ i o, m ≤ i → ops[i]? = some o → ∀ j, j < m → Behind ops o j) {φs : Emb} {a0 : Act} {ws : World} (hs0 : SOk φs (S 0).tmps a0 (KK 0)) (hf0 : ∀ i, (S 0).heap.next ≤ i → φs i = none) {Q : Exit → Act → World → Prop}
    (hend : ∀ φ a w listed, Jn ops al m0 m N S Pa V φs a0 ws listed φ a w → (∀ i, i < m → listed.getD i false = true) → wpAnyIn F 0 P .any ops Q (ops.size - m) listed a w) :
    ∀ (r : Nat) (φ : Emb) (listed : Array Bool) (a : Act) (w : World), Jn ops al m0 m N S Pa V φs a0 ws listed φ a w → unl listed m = r → wpAnyIn F 0 P .any ops Q ((ops.size - m) + r) listed a w
  | 0, φ, listed, a, w, hJ, hr => hend φ a w listed hJ fun i hi => unl_zero hr i hi
  | r + 1, φ, listed, a, w, hJ, hr => by
    have hex : ∃ i, i < m ∧ listed.getD i false = false ∧ ∀ j, j < i → listed.getD j false = true := by
      have : ∀ k, unl listed k ≠ 0 → ∃ i, i < k ∧ listed.getD i false = false ∧ ∀ j, j < i → listed.getD j false = true := by
        intro k
        induction k with
        | zero => intro h; simp [unl] at h
        | succ k ih =>
          intro h
          by_cases hk : unl listed k = 0
          · refine ⟨k, by omega, ?_, fun j hj => unl_zero hk j hj⟩
            simp only [unl, hk] at h
            cases hl : listed.getD k false with
            | false => rfl
            | true => rw [hl] at h; simp at h
          · obtain ⟨i, h1, h2⟩ := ih hk
            exact ⟨i, by omega, h2⟩
      exact this m (by omega)
    have hunt : ∀ i, i < ops.size → listed.getD i false = false → listed.getD i true = false := fun i hi h => by
      have hiz : i < listed.size := by rw [hJ.sz]; exact hi
      simp only [Array.getD_eq_getD_getElem?, Array.getElem?_eq_getElem hiz, Option.getD_some] at h ⊢
      exact h
    obtain ⟨i0, hi0, hu0, hall0⟩ := hex
    have hrd0 : i0 ∈ Region.ready .any ops listed := by
      obtain ⟨o, ao, ho, ha, _⟩ := hR.al_some hi0
      refine mem_ready.2 ⟨hunt i0 (Nat.lt_of_lt_of_le hi0 hR.le) hu0, o, ho, fun e he hb => hall0 _ ((draw_spec hR.draw ho ha).1 e he hb)⟩
    refine ⟨fun h => (by rw [h] at hrd0; cases hrd0), fun i hi => ?_⟩
    rcases Nat.lt_or_ge i m with him | him
    · refine jn_step hR hs0 hf0 hJ him hi fun φ' a' w' hJ' => ?_
      obtain ⟨o, ao, ho, ha, _⟩ := hR.al_some him
      obtain ⟨hun, _⟩ := ready_waits hi ho
      have hiz : i < listed.size := by rw [hJ.sz]; exact Nat.lt_of_lt_of_le him hR.le
      have hunf : listed.getD i false = false := by
        simp only [Array.getD_eq_getD_getElem?, Array.getElem?_eq_getElem hiz, Option.getD_some] at hun ⊢
        exact hun
      have := (unl_set hunf hiz (k := m)).1 him
      exact draw_any hR hT hs0 hf0 hend r φ' _ a' w' hJ' (by omega)
    · exfalso
      obtain ⟨_, o, ho, _⟩ := mem_ready.1 hi
      obtain ⟨_, hdeps⟩ := ready_waits hi ho
      have := hT i o him ho i0 (by omega) (fun j => listed.getD j false = true) (fun i o j => hJ.down i o j) hdeps
      rw [hu0] at this
      cases this
end

variable {F : Fence} [Wide F]
/-- No operation is left. -/
theorem none_left {ops : Array Oper} {Q : Exit → Act → World → Prop} {listed : Array Bool} {a : Act} {w : World} (hsz : listed.size = ops.size) (hl : ∀ i, i < ops.size → (listed.getD i false = true ↔ i < ops.size)) (h : Q .normal a w) : wpAnyIn F 0 P .any ops Q 0 listed a w := by
  refine ⟨?_, h⟩
  cases hrd : Region.ready .any ops listed with
  | nil => rfl
  | cons i l =>
    exfalso
    have hi : i ∈ Region.ready .any ops listed := by rw [hrd]; simp
    obtain ⟨h0, o, ho, _⟩ := mem_ready.1 hi
    have hio : i < ops.size := (Array.getElem?_eq_some_iff.1 ho).1
    have := (hl i hio).2 hio
    simp only [Array.getD_eq_getD_getElem?, Array.getElem?_eq_getElem (show i < listed.size by omega), Option.getD_some] at h0 this
    rw [this] at h0
    cases h0
/-- One operation that all behind it wait for. -/
theorem one_step {ops : Array Oper} {Q : Exit → Act → World → Prop} {k : Nat} (hT : ∀ i o, k < i → ops[i]? = some o → Behind ops o k) (hlt : ∀ i o, ops[i]? = some o → ∀ e ∈ o.after, Region.binds .any e = true → e.on < i)
    {r : Nat} {listed : Array Bool} {a : Act} {w : World} {o : Oper} (hok : ops[k]? = some o) (hsz : listed.size = ops.size) (hl : ∀ i, i < ops.size → (listed.getD i false = true ↔ i < k)) (h : stp F P ops Q o (wpAnyIn F 0 P .any ops Q r (listed.setIfInBounds k true)) a w) : wpAnyIn F 0 P .any ops Q (r + 1) listed a w := by
  have hko : k < ops.size := (Array.getElem?_eq_some_iff.1 hok).1
  have hunt : ∀ i, i < ops.size → ¬ i < k → listed.getD i true = false := fun i hi h => by
    have h2 : listed.getD i false = false := by
      cases hc : listed.getD i false with
      | false => rfl
      | true => exact absurd ((hl i hi).1 hc) h
    simp only [Array.getD_eq_getD_getElem?, Array.getElem?_eq_getElem (show i < listed.size by omega), Option.getD_some] at h2 ⊢
    exact h2
  have hkr : k ∈ Region.ready .any ops listed := mem_ready.2 ⟨hunt k hko (by omega), _, hok, fun e he hb => by
    have := hlt k _ hok e he hb
    exact (hl e.on (by omega)).2 this⟩
  refine ⟨fun h0 => (by rw [h0] at hkr; cases hkr), fun i hi => ?_⟩
  obtain ⟨_, o', ho, _⟩ := mem_ready.1 hi
  obtain ⟨hun, hdeps⟩ := ready_waits hi ho
  have hio : i < ops.size := (Array.getElem?_eq_some_iff.1 ho).1
  have hik : i = k := by
    rcases Nat.lt_trichotomy i k with h | h | h
    · have := (hl i hio).2 h
      simp only [Array.getD_eq_getD_getElem?, Array.getElem?_eq_getElem (show i < listed.size by omega), Option.getD_some] at hun this
      rw [this] at hun
      cases hun
    · exact h
    · have := hT i o' h ho (fun j => listed.getD j false = true) (fun i' o' j' hi' ho' hw' => by
        have hio' : i' < ops.size := (Array.getElem?_eq_some_iff.1 ho').1
        have hi'k := (hl i' hio').1 hi'
        unfold waits at hw'
        obtain ⟨e, he, hb⟩ := List.any_eq_true.1 hw'
        simp only [Bool.and_eq_true, beq_iff_eq] at hb
        have := hlt i' o' ho' e (by simpa using he) hb.1
        rw [hb.2] at this
        exact (hl j' (by omega)).2 (by omega)) hdeps
      have := (hl k hko).1 this
      omega
  subst hik
  exact wpOp_stp hok h

theorem F2.get_pair {α β : Type} {R : α → β → Prop} {l : List α} {m : List β} (h : F2 R l m) {i : Nat} (hi : i < l.length) : ∃ a b, l[i]? = some a ∧ m[i]? = some b ∧ R a b := by
  obtain ⟨b, hb, hr⟩ := h.get (List.getElem?_eq_getElem hi)
  exact ⟨_, b, List.getElem?_eq_getElem hi, hb, hr⟩

theorem okG_drop : ∀ {l : List AOper} (k : Nat), okG l = true → okG (l.drop k) = true
  | l, 0, h => by simpa using h
  | [], k + 1, h => by simpa using h
  | o :: r, k + 1, h => by simpa using okG_drop k (okG_head h).1

/-- The keys asked by the first operations, and that none behind them is written. -/
def keysTo (K : List Nat) (al : List AOper) : Nat → List Nat
  | 0 => K
  | i + 1 => match al[i]? with | some ao => addK (keysTo K al i) ao.guard | none => keysTo K al i

theorem okG_at : ∀ {al : List AOper} {i : Nat} {ao : AOper} {d : Nat} {w : Bool}, okG al = true → al[i]? = some ao → ao.guard = some (d, w) → ∀ j x, i ≤ j → al[j]? = some x → x.dst ≠ some d
  | [], i, ao, d, w, h, ha, hg, j, x, hij, hx => by simp at ha
  | o :: r, 0, ao, d, w, h, ha, hg, j, x, hij, hx => by
    simp only [List.getElem?_cons_zero, Option.some.injEq] at ha
    subst ha
    exact (okG_head h).2 d w hg x (List.mem_of_getElem? hx)
  | o :: r, i + 1, ao, d, w, h, ha, hg, j, x, hij, hx => by
    cases j with
    | zero => omega
    | succ j => exact okG_at (okG_head h).1 (by simpa using ha) hg j x (by omega) (by simpa using hx)

theorem keysTo_no {K : List Nat} {al : List AOper} (hG : okG al = true) (hK : ∀ d ∈ K, ∀ o ∈ al, o.dst ≠ some d) : ∀ (i : Nat), ∀ d ∈ keysTo K al i, ∀ j x, i ≤ j + 1 → al[j]? = some x → x.dst ≠ some d
  | 0, d, hd, j, x, _, hx => hK d hd x (List.mem_of_getElem? hx)
  | i + 1, d, hd, j, x, hij, hx => by
    simp only [keysTo] at hd
    cases ha : al[i]? with
    | none => rw [ha] at hd; exact keysTo_no hG hK i d hd j x (by omega) hx
    | some ao =>
      rw [ha] at hd
      cases hg : ao.guard with
      | none => simp only [hg, addK] at hd; exact keysTo_no hG hK i d hd j x (by omega) hx
      | some g =>
        obtain ⟨e, ww⟩ := g
        simp only [hg, addK, List.mem_cons] at hd
        rcases hd with rfl | hd
        · exact okG_at hG ha hg j x (by omega) hx
        · exact keysTo_no hG hK i d hd j x (by omega) hx

theorem next_cut (p : Nat → Bool) (n : Nat) : ∀ (d k : Nat), k + 1 + d = n → p n = true → ∃ m, k < m ∧ m ≤ n ∧ p m = true ∧ ∀ i, k < i → i < m → p i = false
  | 0, k, h, hn => ⟨n, by omega, Nat.le_refl _, hn, fun i h1 h2 => by omega⟩
  | d + 1, k, h, hn => by
    cases hp : p (k + 1) with
    | true => exact ⟨k + 1, by omega, by omega, hp, fun i h1 h2 => by omega⟩
    | false =>
      obtain ⟨m, h1, h2, h3, h4⟩ := next_cut p n d (k + 1) (by omega) hn
      refine ⟨m, by omega, h2, h3, fun i h5 h6 => ?_⟩
      by_cases hi : i = k + 1
      · rw [hi]; exact hp
      · exact h4 i (by omega) h6
/-- From a cut on, to the end. -/
theorem draw_from {φ₀ : Emb} {H₀ : Heap} {w₀ : World} {N : Env} {ops : Array Oper} {al : List AOper} {Q : Exit → Act → World → Prop} {Qs : St → Prop}
    (hQ : ∀ φ s a w K, Inv φ₀ H₀ w₀ N φ s a w K → Qs s → Q .normal a w) (hc : F2 (Corr P N.n ops) ops.toList al) (hG : okG al = true) (hD : drawOk ops al = true)
    (htl : ∀ i ao, al[i]? = some ao → ao.tl = (soloAt ops i || midAt P ops i) ∧ ∀ o, ops[i]? = some o → ao.ex = if (soloAt ops i || !midAt P ops i || appNil (stripD P o)) = true then [] else exAt P ops i) :
    ∀ (n k : Nat) (listed : Array Bool) (φ : Emb) (s : St) (a : Act) (w : World) (K : List Nat), n = ops.size - k → k ≤ ops.size → cutAt ops k = true → listed.size = ops.size → (∀ i, i < ops.size → (listed.getD i false = true ↔ i < k)) → Inv φ₀ H₀ w₀ N φ s a w K → (∀ d ∈ K, ∀ o ∈ al.drop k, o.dst ≠ some d) → rwp (Con P) (al.drop k) s Qs → wpAnyIn F 0 P .any ops Q n listed a w := by
  have hlen : al.length = ops.size := by rw [← hc.length]; simp
  have hpair : ∀ i, i < ops.size → ∃ o ao, ops[i]? = some o ∧ al[i]? = some ao ∧ Corr P N.n ops o ao := fun i hi => by
    obtain ⟨o, ao, h1, h2, h3⟩ := hc.get_pair (i := i) (by simpa using hi)
    exact ⟨o, ao, by simpa using h1, h2, h3⟩
  have hmk := masks_ok (ops := ops) ops.toList [] (by simp) (by simp) (fun k o _ j hj => by simp at hj)
  have hcut : ∀ m, cutAt ops m = true → ∀ k o, m ≤ k → ops[k]? = some o → ∀ j, j < m → Behind ops o j := fun m hm k o hk ho j hj => by
    have hko : k < ops.size := (Array.getElem?_eq_some_iff.1 ho).1
    have := List.all_eq_true.1 hm k (List.mem_range.2 hko)
    simp only [Bool.or_eq_true, decide_eq_true_eq, List.all_eq_true, List.mem_range] at this
    exact hmk k o ho j ((this.resolve_left (by omega)) j hj)
  have hlt : ∀ i o, ops[i]? = some o → ∀ e ∈ o.after, Region.binds .any e = true → e.on < i := fun i o ho e he hb => by
    obtain ⟨o', ao, ho', ha, _⟩ := hpair i (Array.getElem?_eq_some_iff.1 ho).1
    exact (draw_spec hD ho ha).1 e he hb
  intro n
  induction n using Nat.strongRecOn with
  | _ n IH =>
  intro k listed φ s a w K hn hk hck hsz hl hI hK h
  rcases Nat.eq_or_lt_of_le hk with hke | hko
  · subst hke
    have e0 : n = 0 := by omega
    subst e0
    have hd : al.drop ops.size = [] := List.drop_of_length_le (by omega)
    rw [hd] at h
    exact none_left hsz hl (hQ φ s a w K hI h)
  -- the next cut
  obtain ⟨m, hkm, hms, hcm, hnc⟩ : ∃ m, k < m ∧ m ≤ ops.size ∧ cutAt ops m = true ∧ ∀ i, k < i → i < m → cutAt ops i = false := by
    have hend : cutAt ops ops.size = true := by
      unfold cutAt
      simp only [List.all_eq_true, List.mem_range, Bool.or_eq_true, decide_eq_true_eq]
      intro i hi
      exact .inl hi
    exact next_cut _ ops.size (ops.size - (k + 1)) k (by omega) hend
  rcases Nat.eq_or_lt_of_le (show k + 1 ≤ m from hkm) with hm1 | hm1
  · -- one operation
    subst hm1
    obtain ⟨o, ao, ho, ha, hco⟩ := hpair k hko
    obtain ⟨r, rfl⟩ : ∃ r, n = r + 1 := ⟨n - 1, by omega⟩
    have hdr : al.drop k = ao :: al.drop (k + 1) := by
      have hkl : k < al.length := by omega
      rw [List.drop_eq_getElem_cons hkl]
      rw [List.getElem?_eq_getElem hkl] at ha
      cases ha
      rfl
    rw [hdr] at h hK
    refine one_step (fun i o hi ho => hcut _ hcm i o hi ho k (Nat.lt_succ_self k)) hlt ho hsz hl ?_
    have hGd := okG_drop k hG
    rw [hdr] at hGd
    refine region_step hco hGd hI hK h fun φ' s' a' w' K' hI' hK' h' => ?_
    exact IH r (by omega) (k + 1) _ φ' s' a' w' K' (by omega) hko hcm (by simp [hsz]) (fun j hj => by
      by_cases hji : j = k
      · subst hji; simp [show j < listed.size by omega]
      · rw [getD_set_ne false (Ne.symm hji), hl j hj]; omega) hI' hK' h'
  -- some operations, in any order
  have hns : ∀ i, k ≤ i → i < m → soloAt ops i = false := fun i h1 h2 => by
    unfold soloAt
    rcases Nat.eq_or_lt_of_le h1 with h | h
    · subst h
      rw [hnc (k + 1) (by omega) hm1, Bool.and_false]
    · rw [hnc i h h2, Bool.false_and]
  have hmid : ∀ i ao, k ≤ i → i < m → al[i]? = some ao → ao.tl = true → midAt P ops i = true := fun i ao h0 hi ha ht => by
    rw [(htl i ao ha).1, hns i h0 hi, Bool.false_or] at ht
    exact ht
  have hm2 : ∀ i, k ≤ i → i < m → ∃ ao, al[i]? = some ao ∧ (ao.tl = true → chgOp ao.op = true ∨ ao.op = .other) := fun i h0 hi => by
    obtain ⟨o, ao, ho, ha, hco⟩ := hpair i (by omega)
    refine ⟨ao, ha, fun ht => ?_⟩
    have hmi := hmid i ao h0 hi ha ht
    unfold midAt at hmi
    simp only [ho, Bool.and_eq_true, stripD] at hmi
    rcases hco.op with h' | h'
    · rw [h'] at hmi; exact .inl hmi.1
    · exact .inr h'
  have hdget : ∀ i, k ≤ i → (al.drop k)[i - k]? = al[i]? := fun i h0 => by rw [List.getElem?_drop]; congr 1; omega
  obtain ⟨S', Pa', V', Hp', hS0', hstep', hrest'⟩ := trace (m - k) (al.drop k) s (fun i hi => by
    obtain ⟨ao, h1, h2⟩ := hm2 (k + i) (by omega) (by omega)
    exact ⟨ao, by rw [List.getElem?_drop]; exact h1, h2⟩) h
  let S : Nat → St := fun i => S' (i - k)
  let Pa : Nat → Path := fun i => Pa' (i - k)
  let V : Nat → AV := fun i => V' (i - k)
  let Hp : Nat → Heap := fun i => Hp' (i - k)
  let KK : Nat → List Nat := fun i => keysTo K (al.drop k) (i - k)
  have hSk : ∀ i, i ≤ k → S i = s := fun i hi => by show S' (i - k) = s; rw [show i - k = 0 by omega, hS0']
  have hS0 : S 0 = s := hSk 0 (Nat.zero_le _)
  have hstep : ∀ i ao, k ≤ i → i < m → al[i]? = some ao → StepQ P ao (S i) (Pa i) (V i) (Hp i) ∧ S (i + 1) = St.put ⟨(S i).tmps, Hp i⟩ ao.dst (Pa i) (V i) := fun i ao h0 hi ha => by
    have := hstep' (i - k) ao (by omega) (by rw [hdget i h0]; exact ha)
    refine ⟨this.1, ?_⟩
    show S' (i + 1 - k) = _
    rw [show i + 1 - k = (i - k) + 1 by omega]
    exact this.2
  have hnot : ∀ i ao, k ≤ i → i < m → al[i]? = some ao → ao.op ≠ .other := fun i ao h0 hi ha h => by
    rcases (hstep i ao h0 hi ha).1.2 with ⟨_, _, e, _⟩ | ⟨_, _, _, e, _⟩ | ⟨_, _, _, e, _⟩ <;> (rw [h] at e; simp [aop_other] at e)
  have hsd : ∀ i ao o, k ≤ i → i < m → al[i]? = some ao → ops[i]? = some o → stripD P o = ao.op := fun i ao o h0 hi ha ho => by
    obtain ⟨o', ao', ho', ha', hco⟩ := hpair i (by omega)
    rw [ho] at ho'; cases ho'
    rw [ha] at ha'; cases ha'
    unfold stripD
    rw [hco.op.resolve_right (hnot i ao h0 hi ha)]
    rfl
  have hmid2 : ∀ j aj oj, k ≤ j → j < m → al[j]? = some aj → ops[j]? = some oj → aj.tl = true → ∀ i ai oi, k ≤ i → i < m → al[i]? = some ai → ops[i]? = some oi → i ≠ j → quietOp ai.op = false → (j < i → Behind ops oi j ∨ ((addrOf ai.op).isSome = true ∧ appNil aj.op = true)) ∧ (i < j → Behind ops oj i ∨ ∃ a, addrOf ai.op = some a ∧ (appNil aj.op = true ∨ (stOp aj.op = true ∧ a ∈ aj.ex ∧ ∀ k ak, i ≤ k → k < m → al[k]? = some ak → ak.dst ≠ some a))) := fun j aj oj hj0 hj haj hoj ht i ai oi hi0 hi hai hoi hij hnq => by
    have hmi := hmid j aj hj0 hj haj ht
    have hmi0 := hmi
    unfold midAt at hmi
    simp only [hoj, Bool.and_eq_true, List.all_eq_true, List.mem_range, Bool.or_eq_true, beq_iff_eq] at hmi
    have hio : i < ops.size := (Array.getElem?_eq_some_iff.1 hoi).1
    have hx := hmi.2 i hio
    rw [hoi] at hx
    simp only [Bool.or_eq_true, hsd i ai oi hi0 hi hai hoi, hsd j aj oj hj0 hj haj hoj, hnq, Bool.false_eq_true, false_or] at hx
    rcases hx with hx | hx | hx
    · exact absurd hx hij
    · constructor
      · intro h
        rw [if_neg (by omega)] at hx
        exact .inl (hmk i oi hoi j hx)
      · intro h
        rw [if_pos h] at hx
        exact .inl (hmk j oj hoj i hx)
    · cases had : addrOf ai.op with
      | none => rw [had] at hx; cases hx
      | some a =>
        rw [had] at hx
        simp only [Bool.or_eq_true, Bool.and_eq_true, decide_eq_true_eq, List.all_eq_true, List.mem_range] at hx
        rcases hx with hx | ⟨⟨hst, hlt⟩, hx⟩
        · exact ⟨fun _ => .inr ⟨rfl, hx⟩, fun _ => .inr ⟨a, rfl, .inl hx⟩⟩
        · refine ⟨fun h => by omega, fun _ => ?_⟩
          cases hbit : ((masks ops.toList []).getD j 0).testBit i with
          | true => exact .inl (hmk j oj hoj i hbit)
          | false =>
            refine .inr ⟨a, rfl, .inr ⟨hst, ?_, fun k' ak hk' hkm' hak => ?_⟩⟩
            · have hna : appNil aj.op = false := by
                cases h : aj.op <;> first | rfl | (rw [h] at hst; simp [stOp] at hst)
              rw [(htl j aj haj).2 oj hoj, if_neg (by rw [hns j hj0 hj, hmi0, hsd j aj oj hj0 hj haj hoj, hna]; simp)]
              unfold exAt
              simp only [List.mem_filterMap, List.mem_range]
              refine ⟨i, hlt, ?_⟩
              rw [hoi]
              simp only [hbit, Bool.false_eq_true, if_false, hsd i ai oi hi0 hi hai hoi]
              exact had
            · obtain ⟨ok, ak', hok, hak', hco⟩ := hpair k' (by omega)
              rw [hak] at hak'; cases hak'
              have := (hx k' (by omega)).resolve_left (by omega)
              rw [hok] at this
              simp only [bne_iff_ne, ne_eq] at this
              rw [hco.dst]
              exact this
  have hchg : ∀ i ao, k ≤ i → i < m → al[i]? = some ao → ao.tl = true → chgOp ao.op = true := fun i ao h0 hi ha ht => by
    obtain ⟨x, hx, h'⟩ := hm2 i h0 hi
    rw [ha] at hx; cases hx
    exact (h' ht).resolve_right (hnot i ao h0 hi ha)
  have hkk : ∀ i ao, k ≤ i → al[i]? = some ao → KK (i + 1) = addK (KK i) ao.guard := fun i ao h0 ha => by
    show keysTo K (al.drop k) (i + 1 - k) = addK (keysTo K (al.drop k) (i - k)) ao.guard
    rw [show i + 1 - k = (i - k) + 1 by omega]
    simp only [keysTo, hdget i h0, ha]
  have hno : ∀ i ao d, k ≤ i → al[i]? = some ao → ao.dst = some d → d ∉ KK (i + 1) := fun i ao d h0 ha hd hin => by
    refine keysTo_no (okG_drop k hG) hK (i - k + 1) d ?_ (i - k) ao (Nat.le_refl _) (by rw [hdget i h0]; exact ha) hd
    rw [show i - k + 1 = i + 1 - k by omega]
    exact hin
  have haok : ∀ d, k + d ≤ m → AOk (S (k + d)).tmps (KK (k + d)) := by
    intro d
    induction d with
    | zero =>
      intro _
      have e1 : KK (k + 0) = K := by show keysTo K (al.drop k) (k + 0 - k) = K; rw [show k + 0 - k = 0 by omega]; rfl
      rw [e1, hSk (k + 0) (by omega)]
      exact hI.sok.aok
    | succ d ih =>
      intro hd
      obtain ⟨ao, ha, _⟩ := hm2 (k + d) (by omega) (by omega)
      obtain ⟨hq, hs⟩ := hstep (k + d) ao (by omega) (by omega) ha
      have hA := ih (by omega)
      obtain ⟨g1, g2⟩ := gpath_aok (H := (S (k + d)).heap) hA hq.1
      rw [show k + (d + 1) = k + d + 1 by omega, hs, hkk (k + d) ao (by omega) ha]
      cases hd' : ao.dst with
      | none => exact fun n sl hsl => ⟨(hA n sl hsl).1, keysIn_mono (addK_sub _ _) (hA n sl hsl).2⟩
      | some e => exact aok_put hA (addK_sub _ _) (by rw [← hkk (k + d) ao (by omega) ha]; exact hno (k + d) ao e (by omega) ha hd') g1 g2
  have haok' : ∀ i, k ≤ i → i ≤ m → AOk (S i).tmps (KK i) := fun i h0 hi => by
    have := haok (i - k) (by omega)
    rwa [show k + (i - k) = i by omega] at this
  have hR : Run P N.n ops al k m S Pa V Hp KK := ⟨hms, Nat.le_of_lt hkm, fun i hi => by rw [hSk i hi, hS0], hpair, hstep, hchg, hmid2, haok', fun i ao h0 _ ha => hkk i ao h0 ha, fun i ao d h0 _ ha hd => hno i ao d h0 ha hd, hD⟩
  have hlisted : ∀ i, listed.getD i false = true → i < k := fun i hi => by
    have : i < ops.size := by
      rcases Nat.lt_or_ge i ops.size with h | h
      · exact h
      · simp only [Array.getD_eq_getD_getElem?, Array.getElem?_eq_none (show listed.size ≤ i by omega), Option.getD_none] at hi
        cases hi
    exact (hl i this).1 hi
  have hfs : ∀ i, (S 0).heap.next ≤ i → φ i = none := by rw [hS0]; exact hI.heap.fresh
  have g0 : HRel φ (S 0).heap w := by rw [hS0]; exact hI.heap
  have hstart : Jn ops al k m N.n S Pa V φ a w listed φ a w := by
    refine ⟨hsz, fun i hi => Nat.lt_trans (hlisted i hi) hkm, fun i hi => (hl i (by omega)).2 hi, fun i o j hi ho hw' => ?_, fun q hq hsk => ?_, fun q X B p hq hB hoff hp => ?_, fun id p hp => hI.heap.lt id p hp, fun i hi => hfs i (Nat.le_trans (hR.next_mono (Nat.zero_le _) (Nat.le_refl _)) hi), fun i hi _ id hid _ => hfs id (Nat.le_trans (hR.next_mono (Nat.zero_le _) (Nat.le_of_lt hi)) hid), fun i ao d h0 hi hl' => (by have := hlisted i hl'; omega), fun t _ => rfl, fun _ _ => rfl, rfl, hI.size⟩
    · have hik := hlisted i hi
      unfold waits at hw'
      obtain ⟨e, he, hb⟩ := List.any_eq_true.1 hw'
      simp only [Bool.and_eq_true, beq_iff_eq] at hb
      have := hlt i o ho e (by simpa using he) hb.1
      rw [hb.2] at this
      exact (hl j (by omega)).2 (by omega)
    all_goals have hto : φ.to (S q).heap.next = φ := Emb.to_self fun i hi => hfs i (Nat.le_trans (hR.next_mono (Nat.zero_le _) hq) hi)
    rotate_left
    · rw [hto] at hp ⊢
      have hlt' : X < (S 0).heap.next := by
        rcases Nat.lt_or_ge X (S 0).heap.next with h | h
        · exact h
        · rw [hfs X h] at hp; cases hp
      rw [hR.getB_at (Nat.zero_le _) hq (fun t ao h0 _ h2 ha ht => hoff t ao h0 (by omega) ha ht fun he => by have := hlisted t (he.2 h2); omega) hlt'] at hB
      exact g0.blk X B p hB hp
    have hstill : still al k 0 q := fun t ao h0 _ h2 ha => by
      cases ht : ao.tl with
      | false => rfl
      | true => have := hlisted t ((hsk t ao h0 (by omega) ha ht).2 h2); omega
    rw [hto]
    refine g0.grown rfl rfl rfl (Nat.le_refl _) (fun _ _ => rfl) (K := (S q).heap) (hR.next_mono (Nat.zero_le _) hq) fun j D hj hne => ?_
    have hlt' : j < (S 0).heap.next := by
      rcases Nat.lt_or_ge j (S 0).heap.next with h | h
      · exact h
      · exact absurd (hfs j h) hne
    rw [hR.getB_old (Nat.zero_le _) hq hstill j hlt'] at hj
    exact hj
  have hunl : ∀ d, k + d ≤ ops.size → unl listed (k + d) = d := by
    intro d
    induction d with
    | zero =>
      intro _
      have : ∀ i, i ≤ k → unl listed i = 0 := by
        intro i
        induction i with
        | zero => intro _; rfl
        | succ i ih =>
          intro hi
          simp only [unl, ih (by omega)]
          rw [(hl i (by omega)).2 (by omega)]
          rfl
      exact this _ (Nat.le_refl _)
    | succ d ih =>
      intro hd
      rw [show k + (d + 1) = k + d + 1 by omega]
      simp only [unl, ih (by omega)]
      have : listed.getD (k + d) false = false := by
        cases hx : listed.getD (k + d) false with
        | false => rfl
        | true => have := hlisted _ hx; omega
      rw [this]
      simp
  suffices hh : wpAnyIn F 0 P .any ops Q ((ops.size - m) + (m - k)) listed a w by
    have e : ops.size - m + (m - k) = n := by omega
    rw [e] at hh
    exact hh
  refine draw_any hR (hcut m hcm) (by rw [hS0]; have e1 : KK 0 = K := (by show keysTo K (al.drop k) (0 - k) = K; rw [show 0 - k = 0 by omega]; rfl); rw [e1]; exact hI.sok) hfs (Q := Q) (fun φ' a' w' listed' hJ hall => ?_) (m - k) φ _ a _ hstart (by have := hunl (m - k) (by omega); rwa [show k + (m - k) = m by omega] at this)
  have hφm : φ'.to (S m).heap.next = φ' := Emb.to_self hJ.fresh
  obtain ⟨hHm, hFm⟩ := hJ.hr m (Nat.le_refl _) fun j ao _ hj _ _ => ⟨fun _ => hj, fun _ => hall j hj⟩
  rw [hφm] at hHm hFm
  rw [hS0] at hFm
  have hSm : SOk φ' (S m).tmps a' (KK m) := by
    intro t sl hsl
    obtain ⟨g1, g2⟩ := haok' m (Nat.le_of_lt hkm) (Nat.le_refl _) t sl hsl
    rcases hR.slot (Nat.le_refl m) t with ⟨j, x, hj0, hj, hx, hxd, hs'⟩ | ⟨hno', hs'⟩
    · rw [hs'] at hsl
      cases hsl
      obtain ⟨q1, q2⟩ := hJ.on j x t hj0 hj (hall j hj) hx hxd
      exact ⟨rfl, fun hcd => relA_mono (Emb.to_le _ _) (q1 hcd), q2, g1, g2⟩
    · rw [hs', hS0] at hsl
      have hk' := hI.sok t sl hsl
      have e := hJ.off t fun i ao h0 hi _ ha => hno' i ao h0 hi ha
      refine ⟨hk'.num, fun hcd => ?_, fun hcd => ?_, g1, g2⟩
      · rw [e]; exact relA_mono hFm.le (hk'.on hcd)
      · rw [e]; exact hk'.off hcd
  refine IH (ops.size - m) (by omega) m listed' φ' (S m) a' w' (KK m) rfl hms hcm hJ.sz (fun i hi => ⟨hJ.lt i, hall i⟩) ⟨hSm, hHm, hI.fr.trans hFm, hJ.defers.symm ▸ hI.defers.keep (.of hI.heap hFm), hJ.size, hI.oth.trans (.of hI.heap hFm)⟩ (fun d hd x hx => ?_) ?_
  · obtain ⟨j, hj⟩ := List.mem_iff_getElem?.1 hx
    rw [List.getElem?_drop] at hj
    exact keysTo_no (okG_drop k hG) hK (m - k) d hd (m - k + j) x (by omega) (by rw [List.getElem?_drop, show k + (m - k + j) = m + j by omega]; exact hj)
  · have e : al.drop m = (al.drop k).drop (m - k) := by rw [List.drop_drop]; congr 1; omega
    rw [e]
    exact hrest'

theorem region_draw {φ₀ : Emb} {H₀ : Heap} {w₀ : World} {N : Env} {id : Nat} {ops : Array Oper} {al : List AOper} {Q : Exit → Act → World → Prop} {Qs : St → Prop} (hm : P.follows .mixedOrders = true)
    (hQ : ∀ φ s a w K, Inv φ₀ H₀ w₀ N φ s a w K → Qs s → Q .normal a w) (hc : F2 (Corr P N.n ops) ops.toList al) (hG : okG al = true) (hD : drawOk ops al = true)
    (htl : ∀ i ao, al[i]? = some ao → ao.tl = (soloAt ops i || midAt P ops i) ∧ ∀ o, ops[i]? = some o → ao.ex = if (soloAt ops i || !midAt P ops i || appNil (stripD P o)) = true then [] else exAt P ops i) {s : St} {a : Act} {K : List Nat} (hI : Inv φ₀ H₀ w₀ N φ s a w K) (hK : ∀ d ∈ K, ∀ o ∈ al, o.dst ≠ some d) (h : rwp (Con P) al s Qs) : (Code.region id ops true).wpIn F 0 P Q a w := by
  refine wpIn_region_any hm ?_
  have hfalse : ∀ k, (Array.replicate ops.size false).getD k false = false := fun k => by
    simp only [Array.getD_eq_getD_getElem?, Array.getElem?_replicate]
    split <;> rfl
  obtain ⟨q1, q2⟩ := hI.heap.grown (w' := ({ w with drawn := w.drawn + 1 } : World)) rfl rfl rfl (Nat.le_refl _) (fun _ _ => rfl) (K := s.heap) (Nat.le_refl _) (fun _ _ h _ => h)
  refine draw_from hQ hc hG hD htl ops.size 0 _ φ s a _ K (by omega) (Nat.zero_le _) ?_ (by simp) (fun i _ => ⟨fun h => (by rw [hfalse] at h; cases h), fun h => by omega⟩) ⟨hI.sok, q1, hI.fr.trans q2, hI.defers.keep (.of hI.heap q2), hI.size, hI.oth.trans (.of hI.heap q2)⟩ (by simpa using hK) (by simpa using h)
  unfold cutAt
  simp only [List.all_eq_true, List.mem_range, Bool.or_eq_true]
  intro i _
  exact .inr fun j hj => by omega

end Go.AM
