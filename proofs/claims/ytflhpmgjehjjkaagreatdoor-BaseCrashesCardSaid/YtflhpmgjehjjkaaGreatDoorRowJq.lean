/- Slices of numbers, of spans, of slices of spans, as lists; what a call has built of its own, as the next one reads it. -/
import Derived.Sort.OwnSortedInts
import Derived.Test.YtflhpmgjehjjkaaGreatDoorSpanCJq
namespace Go.Proofs.YtflhpmgjehjjkaaGreatDoor
open Go.RowKit Go.Shelf Go.Sort

theorem infoInt : (Tryz.prog.info? 3).map (fun i => (i.zero, i.size, i.bytes)) = some (some (.int .i64 0), 1, 8) := by kernel_rfl

/-- A slice of slices of spans. -/
def listsAt (w : World) (ao : Option Addr) (L : List (List (Int × Int))) : Prop :=
  ∀ i l, L[i]? = some l → ∃ b o a c, ao = some ⟨b, o, none⟩ ∧ w.cell? ⟨b, o + i, none⟩ = some (.slice a l.length c) ∧ spansAt w a l
theorem spansAt.below {w w' : World} {ao : Option Addr} {l : List (Int × Int)} (h : spansAt w ao l) (hb : Below w.heap.size w w') : spansAt w' ao l :=
  fun i x y hi => let ⟨b, o, h1, h2, h3⟩ := h i x y hi
    have hl := World.block_lt_of_cell? w _ h2
    ⟨b, o, h1, (hb.cell (p := ⟨b, o + i * 2, none⟩) hl).trans h2, (hb.cell (p := ⟨b, o + i * 2 + 1, none⟩) hl).trans h3⟩
theorem intsAt.below {w w' : World} {ao : Option Addr} {l : List Int} (h : intsAt w ao l) (hb : Below w.heap.size w w') : intsAt w' ao l :=
  fun i x hi => let ⟨b, o, h1, h2⟩ := h i x hi
    have hl := World.block_lt_of_cell? w _ h2
    ⟨b, o, h1, (hb.cell (p := ⟨b, _, none⟩) hl).trans h2⟩
theorem listsAt.below {w w' : World} {ao : Option Addr} {L : List (List (Int × Int))} (h : listsAt w ao L) (hb : Below w.heap.size w w') : listsAt w' ao L :=
  fun i l hi => let ⟨b, o, a, c, h1, h2, h3⟩ := h i l hi
    have hl := World.block_lt_of_cell? w _ h2
    ⟨b, o, a, c, h1, (hb.cell (p := ⟨b, _, none⟩) hl).trans h2, h3.below hb⟩

/-- What a call has built of its own, as the next one reads it. -/
theorem ownsRow_slice {w : World} {base : Nat} {e : TypeId} {size : Nat} {v : Value} {n : Nat} {xs : List Value} (h : w.ownsRow base e size v n xs) :
    ∃ ao cap, v = .slice ao n cap ∧ (ao = none → cap = 0) ∧ ∀ j u, xs[j]? = some u → ∃ b, ao = some ⟨b, 0, none⟩ ∧ w.cell? ⟨b, j, none⟩ = some u := by
  have h0 := h
  rcases h.2 with ⟨rfl, hn⟩ | ⟨g, cap, cur, rfl, hbg, hh, hnc, hcm, hcs, htk⟩
  · subst hn
    have hx : xs = [] := List.eq_nil_of_length_eq_zero (by simpa using h.1)
    subst hx
    exact ⟨none, 0, rfl, fun _ => rfl, fun j u hu => by simp at hu⟩
  · refine ⟨some ⟨g, 0, none⟩, cap, rfl, (fun h => by cases h), fun j u hu => ⟨g, rfl, ?_⟩⟩
    have hj : j < n * size := by
      rw [← h.1]; exact (List.getElem?_eq_some_iff.1 hu).1
    rw [h0.cellAt j hj, hu]
theorem flat_get (l : List (Int × Int)) (i : Nat) (x y : Int) (h : l[i]? = some (x, y)) : (flat l)[i * 2]? = some (.int .i64 x) ∧ (flat l)[i * 2 + 1]? = some (.int .i64 y) := by
  induction l generalizing i with
  | nil => simp at h
  | cons p l ih =>
    cases i with
    | zero => simp at h; subst h; simp [flat]
    | succ i =>
      have := ih i (by simpa using h)
      have e1 : (i + 1) * 2 = i * 2 + 1 + 1 := by omega
      rw [e1]
      simpa [flat] using this
theorem sortI_length (l : List Int) : (sortI l).length = l.length := by simp [sortI]
end Go.Proofs.YtflhpmgjehjjkaaGreatDoor
