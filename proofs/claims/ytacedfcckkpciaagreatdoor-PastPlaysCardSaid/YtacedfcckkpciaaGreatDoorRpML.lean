/- Texts of one's own, sorted (sort.Strings); which keys of a map of texts have come. -/
import Derived.Sort.OwnSorted
import Derived.Test.YtacedfcckkpciaaGreatDoorPwNL
namespace Go.Proofs.YtacedfcckkpciaaGreatDoor
open Go.RowKit Go.Deep Go.Shelf Go.Sort Go.Maps

theorem texts_enc (U : List ByteArray) : U.map Value.string = (U.map fun x => x.data.toList).map Go.Proofs.encStr := by
  rw [List.map_map]; rfl
theorem texts_sorted {U : List ByteArray} (hn : U.Nodup) : ∃ S : List ByteArray, ((U.map fun x => x.data.toList).mergeSort fun x y => decide (x ≤ y)).map Go.Proofs.encStr = S.map Value.string ∧ S.length = U.length ∧ S.Pairwise bLess ∧ ∀ x, x ∈ S ↔ x ∈ U := by
  have hq : ((U.map fun x => x.data.toList).mergeSort (fun x y => decide (x ≤ y))).Perm (U.map (·.data.toList)) := List.mergeSort_perm _ _
  have hso : ((U.map fun x => x.data.toList).mergeSort (fun x y => decide (x ≤ y))).Pairwise fun a b => decide (a ≤ b) = true :=
    List.pairwise_mergeSort (fun a b c h1 h2 => by simp only [decide_eq_true_eq] at *; exact List.le_trans h1 h2) (fun a b => by simp only [Bool.or_eq_true, decide_eq_true_eq]; exact List.le_total a b) _
  have hnd : ((U.map fun x => x.data.toList).mergeSort (fun x y => decide (x ≤ y))).Nodup := hq.nodup_iff.2 (List.pairwise_map.2 (hn.imp fun {a b} hab e => hab (bytes_ext e)))
  refine ⟨((U.map fun x => x.data.toList).mergeSort (fun x y => decide (x ≤ y))).map fun l => ⟨l.toArray⟩, ?_, by simp, ?_, fun x => ?_⟩
  · rw [List.map_map]; rfl
  · rw [List.pairwise_map]
    refine (hso.and hnd).imp fun {a b} h => ?_
    unfold bLess
    rw [bytesLess_eq]
    simp only [decide_eq_true_eq]
    obtain ⟨h1, h2⟩ := h
    simp only [decide_eq_true_eq] at h1
    exact Std.lt_of_le_of_ne h1 h2
  · rw [List.mem_map]
    constructor
    · rintro ⟨l, hl, rfl⟩
      obtain ⟨y, hy, rfl⟩ := List.mem_map.1 (hq.mem_iff.1 hl)
      exact hy
    · intro hx
      exact ⟨x.data.toList, hq.mem_iff.2 (List.mem_map.2 ⟨x, hx, rfl⟩), rfl⟩
theorem sortTexts_own (base : Nat) (U : List ByteArray) (v : Value) (w : World) (hown : w.ownsRow base 9 1 v U.length (U.map Value.string)) (hb : base ≤ w.heap.size) (hsz : U.length < 4611686018427387904) (hn : U.Nodup) :
    Calls Tryz.prog 93 #[v] w fun e w' => e = .returned (.tuple #[]) ∧ (∃ S : List ByteArray, S.length = U.length ∧ S.Pairwise bLess ∧ (∀ x, x ∈ S ↔ x ∈ U) ∧ w'.ownsRow base 9 1 v S.length (S.map Value.string)) ∧ Below base w w' := by
  obtain ⟨S, hS, hl, hp, hm⟩ := texts_sorted hn
  rcases hown.2 with ⟨rfl, h0⟩ | ⟨g, cap, cur, rfl, hbg, hh, hnc, hcm, hcs, htk⟩
  · have hU : U = [] := List.eq_nil_of_length_eq_zero h0
    subst hU
    have hS0 : S = [] := List.eq_nil_of_length_eq_zero hl
    subst hS0
    refine (Tryz.sort_Strings_none none 0 w).mono ?_
    rintro e w' ⟨rfl, rfl⟩
    exact ⟨rfl, ⟨[], hl, hp, hm, hown⟩, Below.refl _ _⟩
  · rw [texts_enc] at htk
    have hH : Holds Go.Proofs.encStr w g 0 (U.map fun x => x.data.toList).toArray := holds_of_block hh (by rw [Nat.mul_one] at htk; simpa using htk)
    have hgl : g < w.heap.size := (Array.getElem?_eq_some_iff.1 hh).1
    have := Tryz.sort_Strings g 0 cap (U.map fun x => x.data.toList) w hH hgl (by simpa using hsz)
    rw [List.length_map] at this
    refine this.mono ?_
    rintro e w' ⟨rfl, n, os, rfl⟩
    refine ⟨rfl, ⟨S, hl, hp, hm, ?_⟩, ?_⟩
    · rw [← hS, hl]
      have h := ownsRow_sorted (n := n) (os := os) (e := 9) (ss := U.map fun x => x.data.toList) (ts := (U.map fun x => x.data.toList).mergeSort fun x y => decide (x ≤ y)) (by simp) hbg hh (by simpa using hnc) hcm hcs
      simpa using h
    · exact (Below.refl base w).grown (grownBy_sorted _) hb (fun k hk => by cases hk; exact hbg)
/-! ### Which keys have come -/
structure TL (M : List ByteArray) (left : Lit → Bool) (U : List ByteArray) : Prop where
  nod : U.Nodup
  mem : ∀ x, x ∈ U ↔ (x ∈ M ∧ left (sK x) = false) ∧ x.size ≠ 0
theorem sK_same (x y : ByteArray) : (sK x).sameKey (sK y) = decide (x = y) := by
  rw [Bool.eq_iff_iff]
  simp only [decide_eq_true_eq]
  constructor
  · intro h; exact sK_inj (WideAt.sameKey_eq h)
  · intro h; subst h; exact WideAt.sameKey_self (sK_key _)
theorem TL.start {M : List ByteArray} {left : Lit → Bool} (h : ∀ x ∈ M, left (sK x) = true) : TL M left [] :=
  ⟨List.nodup_nil, fun x => ⟨(fun h => by cases h), (fun ⟨⟨hx, hl⟩, _⟩ => by rw [h x hx] at hl; cases hl)⟩⟩
theorem tl_step {left : Lit → Bool} (x y : ByteArray) : (left (sK y) && !(sK y).sameKey (sK x)) = false ↔ left (sK y) = false ∨ y = x := by
  rw [sK_same]
  cases left (sK y) <;> simp
theorem TL.yes {M : List ByteArray} {left : Lit → Bool} {U : List ByteArray} (h : TL M left U) {x : ByteArray} (hx : x ∈ M) (hl : left (sK x) = true) (h0 : x.size ≠ 0) : TL M (fun z => left z && !z.sameKey (sK x)) (U ++ [x]) := by
  refine ⟨List.nodup_append.2 ⟨h.nod, by simp, fun a ha b hb e => ?_⟩, fun y => ?_⟩
  · simp at hb; subst hb; subst e
    have := ((h.mem _).1 ha).1.2
    rw [hl] at this; cases this
  · rw [List.mem_append, h.mem, List.mem_singleton]
    constructor
    · rintro (⟨⟨h1, h2⟩, h3⟩ | rfl)
      · exact ⟨⟨h1, (tl_step x y).2 (.inl h2)⟩, h3⟩
      · exact ⟨⟨hx, (tl_step y y).2 (.inr rfl)⟩, h0⟩
    · rintro ⟨⟨h1, h2⟩, h3⟩
      rcases (tl_step x y).1 h2 with e | e
      · exact .inl ⟨⟨h1, e⟩, h3⟩
      · exact .inr e
theorem TL.no {M : List ByteArray} {left : Lit → Bool} {U : List ByteArray} (h : TL M left U) {x : ByteArray} (h0 : x.size = 0) : TL M (fun z => left z && !z.sameKey (sK x)) U := by
  refine ⟨h.nod, fun y => ?_⟩
  rw [h.mem]
  constructor
  · rintro ⟨⟨h1, h2⟩, h3⟩
    exact ⟨⟨h1, (tl_step x y).2 (.inl h2)⟩, h3⟩
  · rintro ⟨⟨h1, h2⟩, h3⟩
    rcases (tl_step x y).1 h2 with e | e
    · exact ⟨⟨h1, e⟩, h3⟩
    · rw [e] at h3; exact absurd h0 h3
theorem TL.done {M : List ByteArray} {left : Lit → Bool} {U : List ByteArray} (h : TL M left U) (hl : ∀ z, left z = false) (x : ByteArray) : x ∈ U ↔ x ∈ M ∧ x.size ≠ 0 := by
  rw [h.mem, hl]; simp
end Go.Proofs.YtacedfcckkpciaaGreatDoor
