/- A whole slice of spans appended to an own one. -/
import Derived.Laws.AppendOwnNone
import Derived.Test.YtacedfcckkpciaaGreatDoorRowL
namespace Go.Proofs.YtacedfcckkpciaaGreatDoor
open Go.RowKit Go.Shelf Go.Sort

theorem flat_inv (l : List (Int × Int)) (j : Nat) (u : Value) (h : (flat l)[j]? = some u) : ∃ i x y, l[i]? = some (x, y) ∧ ((j = i * 2 ∧ u = .int .i64 x) ∨ (j = i * 2 + 1 ∧ u = .int .i64 y)) := by
  induction l generalizing j with
  | nil => simp [flat] at h
  | cons p l ih =>
    obtain ⟨x, y⟩ := p
    match j, h with
    | 0, h => simp [flat] at h; exact ⟨0, x, y, rfl, .inl ⟨rfl, h.symm⟩⟩
    | 1, h => simp [flat] at h; exact ⟨0, x, y, rfl, .inr ⟨rfl, h.symm⟩⟩
    | j + 2, h =>
      obtain ⟨i, x', y', h1, h2⟩ := ih j (by simpa [flat] using h)
      refine ⟨i + 1, x', y', by simpa using h1, ?_⟩
      rcases h2 with ⟨h2, h3⟩ | ⟨h2, h3⟩
      · exact .inl ⟨by omega, h3⟩
      · exact .inr ⟨by omega, h3⟩
theorem flat_one (l : List (Int × Int)) : ∀ u ∈ flat l, u.oneCell' = true := by
  intro u hu
  simp [flat] at hu
  obtain ⟨a, b, _, rfl | rfl⟩ := hu <;> rfl
/-- The cells behind a slice's address, as the append law asks them. -/
theorem spansAt_news {w : World} {ad : Addr} {l : List (Int × Int)} (h : spansAt w (some ad) l) : ∀ j u, (flat l)[j]? = some u → w.cell? (ad.add j) = some u := by
  intro j u hu
  obtain ⟨i, x, y, h1, h2⟩ := flat_inv l j u hu
  obtain ⟨b, o, he, c1, c2⟩ := h i x y h1
  cases he
  have ha : ∀ k, (⟨b, o, none⟩ : Addr).add k = ⟨b, o + k, none⟩ := fun k => by unfold Addr.add; split <;> simp_all
  rw [ha]
  rcases h2 with ⟨rfl, rfl⟩ | ⟨rfl, rfl⟩
  · exact c1
  · rw [← Nat.add_assoc]; exact c2

theorem spansAt_none {w : World} {l : List (Int × Int)} (h : spansAt w none l) : l = [] := by
  cases l with
  | nil => rfl
  | cons p l => obtain ⟨b, o, he, _⟩ := h 0 p.1 p.2 rfl; cases he

/-- A whole slice of spans more, behind an own one. -/
theorem appAll {W : World} {ops : Array Oper} {rest : List Oper} {o : Oper} {a : Act} {Q : Exit → Act → World → Prop} (hgd : o.guard = none) (s x : Operand)
    (ho : o.op = .call { callee := .builtin .append, args := #[s, x], argTypes := #[137, 137] }) (base : Nat) (v : Value) (l : List (Int × Int)) (hs : a.eval s = v) (hown : W.ownsRow base 44 2 v l.length (flat l))
    (ao : Option Addr) (m : List (Int × Int)) (cap : Nat) (hx : a.eval x = .slice ao m.length cap) (hm : spansAt W ao m) (hn : ao = none → cap = 0)
    (hbytes : (l.length + m.length) * 16 ≤ 140737488355328) (hbase : base ≤ W.heap.size) (w0 : World) (hB : Below base w0 W)
    (h : ∀ v' w', w'.ownsRow base 44 2 v' (l ++ m).length (flat (l ++ m)) → Below base w0 w' → W.heap.size ≤ w'.heap.size → wpList Tryz.prog ops Q rest (a.put o.dst v') w') : wpList Tryz.prog ops Q (o :: rest) a W := by
  obtain ⟨i0, hi, hz0, hz1, hz2⟩ := info_parts infoSpan
  cases ao with
  | none =>
    have := spansAt_none hm
    subst this
    have := hn rfl
    subst this
    refine wpList_append_own_none hgd s x 137 ho base 44 i0 2 Tryz.underlying137 hi v l.length (flat l) hs hown hx ?_
    exact h v W (by simpa using hown) hB (Nat.le_refl _)
  | some ad =>
    refine wpList_append_own _ hgd s x 137 ho base 44 i0 (.agg #[.int .i64 0, .int .i64 0]) 2 16 Tryz.underlying137 hi hz0 hz1 hz2 rfl (by decide) v l.length (flat l) hs hown ad m.length cap (flat m) hx (flat_length m) (spansAt_news hm) (flat_one m) (by unfold maxLen; omega) hbytes hbase ?_
    intro v' w' h2 h3 _
    exact h v' w' (by rw [List.length_append, flat_append]; exact h2) (hB.grown h3 hbase (fun k hk => (hown.lt k hk).1)) h3.size

end Go.Proofs.YtacedfcckkpciaaGreatDoor
