/- Texts of one's own, sorted (sort.Strings); which keys of a map of texts have come. -/
import Derived.Sort.OwnSorted
import Derived.Test.YtflhpmgjehjjkaaGreatDoorPwNJq
namespace Go.Proofs.YtflhpmgjehjjkaaGreatDoor
open Go.RowKit Go.Deep Go.Shelf Go.Sort Go.Maps

/-! ### Which keys have come -/
structure TL (M : List ByteArray) (left : Lit → Bool) (U : List ByteArray) : Prop where
  nod : U.Nodup
  mem : ∀ x, x ∈ U ↔ (x ∈ M ∧ left (sK x) = false) ∧ x.size ≠ 0
theorem sK_same (x y : ByteArray) : (sK x).sameKey (sK y) = decide (x = y) := by
  rw [Bool.eq_iff_iff]
  simp only [decide_eq_true_eq]
  constructor
  · intro h; exact sK_inj (WideAt.sameKey_eq h)
  · intro h; subst h; exact WideAt.sameKey_self (sK_key _)
theorem TL.start {M : List ByteArray} {left : Lit → Bool} (h : ∀ x ∈ M, left (sK x) = true) : TL M left [] :=
  ⟨List.nodup_nil, fun x => ⟨(fun h => by cases h), (fun ⟨⟨hx, hl⟩, _⟩ => by rw [h x hx] at hl; cases hl)⟩⟩
theorem tl_step {left : Lit → Bool} (x y : ByteArray) : (left (sK y) && !(sK y).sameKey (sK x)) = false ↔ left (sK y) = false ∨ y = x := by
  rw [sK_same]
  cases left (sK y) <;> simp
theorem TL.yes {M : List ByteArray} {left : Lit → Bool} {U : List ByteArray} (h : TL M left U) {x : ByteArray} (hx : x ∈ M) (hl : left (sK x) = true) (h0 : x.size ≠ 0) : TL M (fun z => left z && !z.sameKey (sK x)) (U ++ [x]) := by
  refine ⟨List.nodup_append.2 ⟨h.nod, by simp, fun a ha b hb e => ?_⟩, fun y => ?_⟩
  · simp at hb; subst hb; subst e
    have := ((h.mem _).1 ha).1.2
    rw [hl] at this; cases this
  · rw [List.mem_append, h.mem, List.mem_singleton]
    constructor
    · rintro (⟨⟨h1, h2⟩, h3⟩ | rfl)
      · exact ⟨⟨h1, (tl_step x y).2 (.inl h2)⟩, h3⟩
      · exact ⟨⟨hx, (tl_step y y).2 (.inr rfl)⟩, h0⟩
    · rintro ⟨⟨h1, h2⟩, h3⟩
      rcases (tl_step x y).1 h2 with e | e
      · exact .inl ⟨⟨h1, e⟩, h3⟩
      · exact .inr e
theorem TL.no {M : List ByteArray} {left : Lit → Bool} {U : List ByteArray} (h : TL M left U) {x : ByteArray} (h0 : x.size = 0) : TL M (fun z => left z && !z.sameKey (sK x)) U := by
  refine ⟨h.nod, fun y => ?_⟩
  rw [h.mem]
  constructor
  · rintro ⟨⟨h1, h2⟩, h3⟩
    exact ⟨⟨h1, (tl_step x y).2 (.inl h2)⟩, h3⟩
  · rintro ⟨⟨h1, h2⟩, h3⟩
    rcases (tl_step x y).1 h2 with e | e
    · exact ⟨⟨h1, e⟩, h3⟩
    · rw [e] at h3; exact absurd h0 h3
theorem TL.done {M : List ByteArray} {left : Lit → Bool} {U : List ByteArray} (h : TL M left U) (hl : ∀ z, left z = false) (x : ByteArray) : x ∈ U ↔ x ∈ M ∧ x.size ≠ 0 := by
  rw [h.mem, hl]; simp
end Go.Proofs.YtflhpmgjehjjkaaGreatDoor
