/- A whole slice of spans appended to an own one. -/
import Derived.Test.YtjgmgaleaihjpaaGreatDoorRow
import Derived.Laws.AppendOwnNone
namespace Go.Proofs.YtjgmgaleaihjpaaGreatDoor
open Go.RowKit Go.Shelf Go.Sort

theorem flat_inv (l : List (Int × Int)) (j : Nat) (u : Value) (h : (flat l)[j]? = some u) : ∃ i x y, l[i]? = some (x, y) ∧ ((j = i * 2 ∧ u = .int .i64 x) ∨ (j = i * 2 + 1 ∧ u = .int .i64 y)) := by
  induction l generalizing j with
  | nil => simp [flat] at h
  | cons p l ih =>
    obtain ⟨x, y⟩ := p
    match j, h with
    | 0, h => simp [flat] at h; exact ⟨0, x, y, rfl, .inl ⟨rfl, h.symm⟩⟩
    | 1, h => simp [flat] at h; exact ⟨0, x, y, rfl, .inr ⟨rfl, h.symm⟩⟩
    | j + 2, h =>
      obtain ⟨i, x', y', h1, h2⟩ := ih j (by simpa [flat] using h)
      refine ⟨i + 1, x', y', by simpa using h1, ?_⟩
      rcases h2 with ⟨h2, h3⟩ | ⟨h2, h3⟩
      · exact .inl ⟨by omega, h3⟩
      · exact .inr ⟨by omega, h3⟩
theorem flat_one (l : List (Int × Int)) : ∀ u ∈ flat l, u.oneCell' = true := by
  intro u hu
  simp [flat] at hu
  obtain ⟨a, b, _, rfl | rfl⟩ := hu <;> rfl
/-- The cells behind a slice's address, as the append law asks them. -/
theorem spansAt_news {w : World} {ad : Addr} {l : List (Int × Int)} (h : spansAt w (some ad) l) : ∀ j u, (flat l)[j]? = some u → w.cell? (ad.add j) = some u := by
  intro j u hu
  obtain ⟨i, x, y, h1, h2⟩ := flat_inv l j u hu
  obtain ⟨b, o, he, c1, c2⟩ := h i x y h1
  cases he
  have ha : ∀ k, (⟨b, o, none⟩ : Addr).add k = ⟨b, o + k, none⟩ := fun k => by unfold Addr.add; split <;> simp_all
  rw [ha]
  rcases h2 with ⟨rfl, rfl⟩ | ⟨rfl, rfl⟩
  · exact c1
  · rw [← Nat.add_assoc]; exact c2

theorem spansAt_none {w : World} {l : List (Int × Int)} (h : spansAt w none l) : l = [] := by
  cases l with
  | nil => rfl
  | cons p l => obtain ⟨b, o, he, _⟩ := h 0 p.1 p.2 rfl; cases he

end Go.Proofs.YtjgmgaleaihjpaaGreatDoor
