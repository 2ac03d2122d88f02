/- Slices of numbers, of spans, of slices of spans, as lists; what a call has built of its own, as the next one reads it. -/
import Derived.Sort.OwnSortedInts
import Derived.Test.YtflhpmgjehjjkaaGreatDoorSpanCJp
namespace Go.Proofs.YtflhpmgjehjjkaaGreatDoor
open Go.RowKit Go.Shelf Go.Sort
theorem infoInt : (Tryz.prog.info? 3).map (fun i => (i.zero, i.size, i.bytes)) = some (some (.int .i64 0), 1, 8) := by kernel_rfl
def listsAt (w : World) (ao : Option Addr) (L : List (List (Int × Int))) : Prop :=
 ∀ i l, L[i]? = some l -> ∃ b o a c, ao = some ⟨b, o, none⟩ /\ w.cell? ⟨b, o + i, none⟩ = some (.slice a l.length c) /\ spansAt w a l
def endsLL (L : List (List (Int × Int))) : List Int := L.flatMap endsL
theorem endsL_length (l : List (Int × Int)) : (endsL l).length = l.length * 2 := by
 induction l with
 | nil => rfl
 | cons a l ih => simp only [endsL, List.flatMap_cons, List.length_append, List.length_cons, List.length_nil] at ih ⊢; omega
theorem endsL_snoc (l : List (Int × Int)) (k : Nat) (x y : Int) (h : l[k]? = some (x, y)) : endsL (l.take (k + 1)) = endsL (l.take k) ++ [x, y] := by
 rw [List.take_add_one, h]; simp [endsL]
theorem endsLL_snoc (L : List (List (Int × Int))) (k : Nat) (l : List (Int × Int)) (h : L[k]? = some l) : endsLL (L.take (k + 1)) = endsLL (L.take k) ++ endsL l := by
 rw [List.take_add_one, h]; simp [endsLL]
theorem endsLL_take_le (L : List (List (Int × Int))) (k : Nat) : (endsLL (L.take k)).length <= (endsLL L).length := by
 have h : endsLL L = endsLL (L.take k) ++ endsLL (L.drop k) := by
  unfold endsLL; rw [<- List.flatMap_append, List.take_append_drop]
 rw [h, List.length_append]; omega
theorem listsAt_get {w : World} {ao : Option Addr} {L : List (List (Int × Int))} (h : listsAt w ao L) {k : Nat} (hk : k < L.length) :
  ∃ b o l a c, Hid (L[k]? = some l) /\ ao = some ⟨b, o, none⟩ /\ w.cell? ⟨b, o + k, none⟩ = some (.slice a l.length c) /\ spansAt w a l := by
 obtain ⟨b, o, a, c, h1, h2, h3⟩ := h k L[k] (by simp [hk])
 exact ⟨b, o, L[k], a, c, (by show L[k]? = _; simp [hk]), h1, h2, h3⟩
theorem spansAt.below {w w' : World} {ao : Option Addr} {l : List (Int × Int)} (h : spansAt w ao l) (hb : Below w.heap.size w w') : spansAt w' ao l :=
 fun i x y hi => let ⟨b, o, h1, h2, h3⟩ := h i x y hi
  have hl := World.block_lt_of_cell? w _ h2
  ⟨b, o, h1, (hb.cell (p := ⟨b, o + i * 2, none⟩) hl).trans h2, (hb.cell (p := ⟨b, o + i * 2 + 1, none⟩) hl).trans h3⟩
theorem intsAt.below {w w' : World} {ao : Option Addr} {l : List Int} (h : intsAt w ao l) (hb : Below w.heap.size w w') : intsAt w' ao l :=
 fun i x hi => let ⟨b, o, h1, h2⟩ := h i x hi
  have hl := World.block_lt_of_cell? w _ h2
  ⟨b, o, h1, (hb.cell (p := ⟨b, _, none⟩) hl).trans h2⟩
theorem listsAt.below {w w' : World} {ao : Option Addr} {L : List (List (Int × Int))} (h : listsAt w ao L) (hb : Below w.heap.size w w') : listsAt w' ao L :=
 fun i l hi => let ⟨b, o, a, c, h1, h2, h3⟩ := h i l hi
  have hl := World.block_lt_of_cell? w _ h2
  ⟨b, o, a, c, h1, (hb.cell (p := ⟨b, _, none⟩) hl).trans h2, h3.below hb⟩
theorem ownsRow_slice {w : World} {base : Nat} {e : TypeId} {size : Nat} {v : Value} {n : Nat} {xs : List Value} (h : w.ownsRow base e size v n xs) :
  ∃ ao cap, v = .slice ao n cap /\ (ao = none -> cap = 0) /\ ∀ j u, xs[j]? = some u -> ∃ b, ao = some ⟨b, 0, none⟩ /\ w.cell? ⟨b, j, none⟩ = some u := by
 have h0 := h
 rcases h.2 with ⟨rfl, hn⟩ | ⟨g, cap, cur, rfl, hbg, hh, hnc, hcm, hcs, htk⟩
 · subst hn
   have hx : xs = [] := List.eq_nil_of_length_eq_zero (by simpa using h.1)
   subst hx
   exact ⟨none, 0, rfl, fun _ => rfl, fun j u hu => by simp at hu⟩
 · refine ⟨some ⟨g, 0, none⟩, cap, rfl, (fun h => by cases h), fun j u hu => ⟨g, rfl, ?_⟩⟩
   have hj : j < n * size := by
    rw [<- h.1]; exact (List.getElem?_eq_some_iff.1 hu).1
   rw [h0.cellAt j hj, hu]
theorem flat_get (l : List (Int × Int)) (i : Nat) (x y : Int) (h : l[i]? = some (x, y)) : (flat l)[i * 2]? = some (.int .i64 x) /\ (flat l)[i * 2 + 1]? = some (.int .i64 y) := by
 induction l generalizing i with
 | nil => simp at h
 | cons p l ih =>
   cases i with
   | zero => simp at h; subst h; simp [flat]
   | succ i =>
     have := ih i (by simpa using h)
     have e1 : (i + 1) * 2 = i * 2 + 1 + 1 := by omega
     rw [e1]
     simpa [flat] using this
theorem ownsRow_spansN {w : World} {base n : Nat} {v : Value} {l : List (Int × Int)} {e : TypeId} (h : w.ownsRow base e 2 v n (flat l)) : ∃ ao cap, v = .slice ao l.length cap /\ spansAt w ao l /\ (ao = none -> cap = 0) := by
 have hn : n = l.length := by have := h.1; rw [flat_length] at this; omega
 subst hn
 obtain ⟨ao, cap, rfl, hn, hc⟩ := ownsRow_slice h
 refine ⟨ao, cap, rfl, fun i x y hx => ?_, hn⟩
 obtain ⟨f1, f2⟩ := flat_get l i x y hx
 obtain ⟨b, h1, h2⟩ := hc _ _ f1
 obtain ⟨b', h1', h2'⟩ := hc _ _ f2
 rw [h1] at h1'; cases h1'
 exact ⟨b, 0, h1, by rw [Nat.zero_add]; exact h2, by rw [Nat.zero_add]; exact h2'⟩
theorem ownsRow_spans {w : World} {base n : Nat} {v : Value} {l : List (Int × Int)} {e : TypeId} (h : w.ownsRow base e 2 v n (flat l)) : ∃ ao cap, v = .slice ao l.length cap /\ spansAt w ao l :=
 let ⟨ao, cap, h1, h2, _⟩ := ownsRow_spansN h; ⟨ao, cap, h1, h2⟩
theorem sortI_length (l : List Int) : (sortI l).length = l.length := by simp [sortI]
end Go.Proofs.YtflhpmgjehjjkaaGreatDoor
