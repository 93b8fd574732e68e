/- AM: a region that draws its order. -/
import Derived.Test.YtmbnakinhnkabaaAm12
namespace Go.AM
set_option linter.unusedVariables false
set_option linter.unusedSimpArgs false
variable {P : Program} {φ : Emb} {w : World}

/-! ### What an operation reads -/
theorem get_congr {l l' : List Slot} {H : Heap} {π : Path} {y : Opd} (h : ∀ t ∈ oSl y, slotAt l t = slotAt l' t) : St.get ⟨l, H⟩ π y = St.get ⟨l', H⟩ π y := by
  cases y with
  | t n => simp only [St.get, h n (by simp [oSl])]
  | k v => rfl
theorem getsl_congr {l l' : List Slot} {H : Heap} {π : Path} {cs : Nat} {want : Bool} {y : Opd} (h : ∀ t ∈ oSl y, slotAt l t = slotAt l' t) : getsl ⟨l, H⟩ π cs y want = getsl ⟨l', H⟩ π cs y want := by
  cases y with
  | t n => simp only [getsl, h n (by simp [oSl])]
  | k v => rfl
theorem partsOf_congr {l l' : List Slot} {H : Heap} {π : Path} : ∀ {ps : List (Nat × Nat × Opd)}, (∀ t ∈ oSlP ps, slotAt l t = slotAt l' t) → partsOf (St.get ⟨l, H⟩ π) ps = partsOf (St.get ⟨l', H⟩ π) ps
  | [], _ => rfl
  | (o, n, x) :: r, h => by
    simp only [oSlP, List.mem_append] at h
    simp only [partsOf, get_congr (H := H) (π := π) (fun t ht => h t (.inl ht)), partsOf_congr (H := H) (π := π) (fun t ht => h t (.inr ht))]
theorem aasOf_congr {l l' : List Slot} {H : Heap} {π : Path} : ∀ {ps : List Opd}, (∀ t ∈ oSlL ps, slotAt l t = slotAt l' t) → aasOf (St.get ⟨l, H⟩ π) ps = aasOf (St.get ⟨l', H⟩ π) ps
  | [], _ => rfl
  | x :: r, h => by
    simp only [oSlL, List.mem_append] at h
    simp only [aasOf, get_congr (H := H) (π := π) (fun t ht => h t (.inl ht)), aasOf_congr (H := H) (π := π) (fun t ht => h t (.inr ht))]
theorem argsOf_congr {l l' : List Slot} {H : Heap} {π : Path} : ∀ {ps : List Opd}, (∀ t ∈ oSlL ps, slotAt l t = slotAt l' t) → argsOf (St.get ⟨l, H⟩ π) ps = argsOf (St.get ⟨l', H⟩ π) ps
  | [], _ => rfl
  | x :: r, h => by
    simp only [oSlL, List.mem_append] at h
    simp only [argsOf, get_congr (H := H) (π := π) (fun t ht => h t (.inl ht)), argsOf_congr (H := H) (π := π) (fun t ht => h t (.inr ht))]
theorem optG_congr {l l' : List Slot} {H : Heap} {π : Path} {x : Option Opd} (h : ∀ t ∈ oSlO x, slotAt l t = slotAt l' t) : optG (St.get ⟨l, H⟩ π) x = optG (St.get ⟨l', H⟩ π) x := by
  cases x with
  | none => rfl
  | some x => simp only [optG, get_congr (H := H) (π := π) h]

theorem aop_congr {l l' : List Slot} {H : Heap} {π : Path} {o : AOp} (h : ∀ t ∈ aSlots o, slotAt l t = slotAt l' t) : aop ⟨l, H⟩ π o = aop ⟨l', H⟩ π o := by
  cases o <;> simp only [aSlots, List.mem_append, List.mem_cons] at h <;> simp only [aop]
  case mv x => rw [get_congr h]
  case pick cs a b => rw [get_congr (y := .t cs) (fun t ht => h t (.inl (by simpa [oSl] using ht))), getsl_congr (y := a) (fun t ht => h t (.inr (.inl ht))), getsl_congr (y := b) (fun t ht => h t (.inr (.inr ht)))]
  case box t x => rw [get_congr h]
  case build z ps => rw [partsOf_congr h]
  case bslice t k z n ps => rw [partsOf_congr h]
  case ld1 a => rw [get_congr h]
  case ldn n a => rw [get_congr h]
  case st1 a x => rw [get_congr (y := a) (fun t ht => h t (.inl ht)), get_congr (y := x) (fun t ht => h t (.inr ht))]
  case stn n a x => rw [get_congr (y := a) (fun t ht => h t (.inl ht)), get_congr (y := x) (fun t ht => h t (.inr ht))]
  case nilchk x => rw [get_congr h]
  case bin op a x => rw [get_congr (y := a) (fun t ht => h t (.inl ht)), get_congr (y := x) (fun t ht => h t (.inr ht))]
  case eqB op a x => rw [get_congr (y := a) (fun t ht => h t (.inl ht)), get_congr (y := x) (fun t ht => h t (.inr ht))]
  case eqT op a x => rw [get_congr (y := a) (fun t ht => h t (.inl ht)), get_congr (y := x) (fun t ht => h t (.inr ht))]
  case cat a x => rw [get_congr (y := a) (fun t ht => h t (.inl ht)), get_congr (y := x) (fun t ht => h t (.inr ht))]
  case tob t x => rw [get_congr (y := x) (fun t ht => h t ht)]
  case clr k z x => rw [get_congr (y := x) (fun t ht => h t ht)]
  case cpy k a x => rw [get_congr (y := a) (fun t ht => h t (.inl ht)), get_congr (y := x) (fun t ht => h t (.inr ht))]
  case idxT a x => rw [get_congr (y := a) (fun t ht => h t (.inl ht)), get_congr (y := x) (fun t ht => h t (.inr ht))]
  case eqS op ks a x => rw [get_congr (y := a) (fun t ht => h t (.inl ht)), get_congr (y := x) (fun t ht => h t (.inr ht))]
  case nilq kd op a x => rw [get_congr (y := a) (fun t ht => h t (.inl ht)), get_congr (y := x) (fun t ht => h t (.inr ht))]
  case un op x => rw [get_congr h]
  case conv k x => rw [get_congr h]
  case mkfn f a b => rw [aasOf_congr (ps := a) (fun t ht => h t (.inl ht)), aasOf_congr (ps := b) (fun t ht => h t (.inr ht))]
  case mkslice t s b z a x => rw [get_congr (y := a) (fun t ht => h t (.inl ht)), get_congr (y := x) (fun t ht => h t (.inr ht))]
  case slc k x lo hi => rw [get_congr (y := x) (fun t ht => h t (.inl ht)), optG_congr (x := lo) (fun t ht => h t (.inr (.inl ht))), optG_congr (x := hi) (fun t ht => h t (.inr (.inr ht)))]
  case slcA k x lo hi => rw [get_congr (y := x) (fun t ht => h t (.inl ht)), optG_congr (x := lo) (fun t ht => h t (.inr (.inl ht))), optG_congr (x := hi) (fun t ht => h t (.inr (.inr ht)))]
  case faddr x o => rw [get_congr h]
  case fld x o n => rw [get_congr h]
  case iaddr k a x => rw [get_congr (y := a) (fun t ht => h t (.inl ht)), get_congr (y := x) (fun t ht => h t (.inr ht))]
  case iaddrA k a x => rw [get_congr (y := a) (fun t ht => h t (.inl ht)), get_congr (y := x) (fun t ht => h t (.inr ht))]
  case ext x i => rw [get_congr h]
  case call f as => rw [get_congr (y := f) (fun t ht => h t (.inl ht)), argsOf_congr (ps := as) (fun t ht => h t (.inr ht))]
  case len b x => rw [get_congr h]
  case app k b t a x => rw [get_congr (y := a) (fun t ht => h t (.inl ht)), get_congr (y := x) (fun t ht => h t (.inr ht))]

end Go.AM
