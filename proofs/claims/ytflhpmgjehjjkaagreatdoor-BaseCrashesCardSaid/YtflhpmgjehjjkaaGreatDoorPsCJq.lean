/- keep's changes by numbers, walked: transactions of one's own, each in a block of its own. -/
import Derived.Test.YtflhpmgjehjjkaaGreatDoorPsBJq
import Derived.Test.YtflhpmgjehjjkaaGreatDoorApFJq
namespace Go.Proofs.YtflhpmgjehjjkaaGreatDoor
open Go.RowKit Go.Deep Go.Shelf Go.Sort Go.Maps

def flatW (l : List OpP) : List Value := l.flatMap opCells
theorem flatW_length (l : List OpP) : (flatW l).length = l.length * 7 := by
  induction l with
  | nil => rfl
  | cons o l ih => unfold flatW at *; rw [List.flatMap_cons, List.length_append, ih, show (opCells o).length = 7 from rfl, List.length_cons]; omega
theorem flatW_snoc (l : List OpP) (o : OpP) : flatW (l ++ [o]) = flatW l ++ opCells o := by simp [flatW]
theorem flatW_get : ∀ (l : List OpP) (i j : Nat) (o : OpP) (u : Value), l[i]? = some o → (opCells o)[j]? = some u → (flatW l)[i * 7 + j]? = some u
  | [], i, j, o, u, h, _ => by simp at h
  | a :: l, 0, j, o, u, h, hu => by
    simp at h; subst h
    have hj : j < 7 := (List.getElem?_eq_some_iff.1 hu).1
    unfold flatW; rw [List.flatMap_cons, Nat.zero_mul, Nat.zero_add, List.getElem?_append_left (by rw [show (opCells a).length = 7 from rfl]; exact hj)]; exact hu
  | a :: l, i + 1, j, o, u, h, hu => by
    have ih := flatW_get l i j o u (by simpa using h) hu
    unfold flatW at *; rw [List.flatMap_cons, List.getElem?_append_right (by rw [show (opCells a).length = 7 from rfl]; omega), show (opCells a).length = 7 from rfl, show (i + 1) * 7 + j - 7 = i * 7 + j by omega]; exact ih
/-- A row of changes that holds one at least. -/
theorem ownsRow_opsW {w : World} {base n : Nat} {v : Value} {l : List OpP} {e : TypeId} (h : w.ownsRow base e 7 v n (flatW l)) (hne : l ≠ []) : ∃ b cap, v = .slice (some ⟨b, 0, none⟩) l.length cap ∧ base ≤ b ∧ opsAt w (some ⟨b, 0, none⟩) l := by
  have hn : n = l.length := by have := h.1; rw [flatW_length] at this; omega
  subst hn
  obtain ⟨ao, cap, rfl, hn, hc⟩ := ownsRow_slice h
  cases l with
  | nil => exact absurd rfl hne
  | cons o l =>
    obtain ⟨b, h1, h2⟩ := hc _ _ (flatW_get (o :: l) 0 0 o _ rfl rfl)
    subst h1
    refine ⟨b, cap, rfl, (h.lt b rfl).1, fun i o' ho => ⟨b, 0, rfl, fun j u hu => ?_⟩⟩
    obtain ⟨b', h1', h2'⟩ := hc _ _ (flatW_get _ i j o' u ho hu)
    cases h1'
    rw [Nat.zero_add]; exact h2'
theorem infoOpW : (Tryz.prog.info? 70).map (fun i => (i.zero, i.size, i.bytes)) = some (some (.agg #[.int .i64 0, .int .i64 0, .string ⟨#[]⟩, .int .i64 0, .int .i64 0, .int .i64 0, .string ⟨#[]⟩]), 7, 72) := by kernel_rfl
theorem infoOpsW : (Tryz.prog.info? 33).map (fun i => (i.zero, i.size, i.bytes)) = some (some (.slice none 0 0), 1, 24) := by kernel_rfl
theorem opCells_one (o : OpP) : ∀ u ∈ opCells o, u.oneCell' = true := by
  intro u hu
  simp [opCells] at hu
  rcases hu with rfl | rfl | rfl | rfl | rfl | rfl | rfl <;> rfl

/-- In memory: transactions that are done, and the one that is under way. -/
structure OpsIn (z : Nat) (T : List (List OpP)) (L : List OpP) (v u : Value) (w : World) : Prop where
  row : ∃ hs : List Value, w.ownsRow z 33 1 v T.length hs ∧ ∀ (i : Nat) (h : Value) (t : List OpP), hs[i]? = some h → T[i]? = some t → ∃ b cap, h = .slice (some ⟨b, 0, none⟩) t.length cap ∧ (z ≤ b ∧ b < w.heap.size) ∧ Apart v b ∧ Apart u b ∧ opsAt w (some ⟨b, 0, none⟩) t
  cur : w.ownsRow z 70 7 u L.length (flatW L)
  ap : ∀ p, u.ownBlock = some p → Apart v p
theorem opsAt_grown {w w' : World} {r : Option Nat} {b : Nat} {t : List OpP} (h : opsAt w (some ⟨b, 0, none⟩) t) (hg : w.grownBy w' r) (hr : r ≠ some b) : opsAt w' (some ⟨b, 0, none⟩) t := fun i o hi => by
  obtain ⟨b', f, he, h2⟩ := h i o hi
  cases he
  exact ⟨b, 0, rfl, fun j u hu => hg.cell (h2 j u hu) (fun e => hr e.symm)⟩
theorem OpsIn.below {z : Nat} {T : List (List OpP)} {L : List OpP} {v u : Value} {w w' : World} (h : OpsIn z T L v u w) (hb : Below w.heap.size w w') : OpsIn z T L v u w' := by
  obtain ⟨⟨hs, h1, h2⟩, h3, h4⟩ := h
  refine ⟨⟨hs, ownsRow_below h1 hb, fun i hd t hi ht => ?_⟩, ownsRow_below h3 hb, h4⟩
  obtain ⟨b, cap, q1, q2, q3, q4, q5⟩ := h2 i hd t hi ht
  exact ⟨b, cap, q1, ⟨q2.1, Nat.lt_of_lt_of_le q2.2 hb.size⟩, q3, q4, q5.below hb⟩
theorem OpsIn.new (z : Nat) (w : World) : OpsIn z [] [] (.slice none 0 0) (.slice none 0 0) w :=
  ⟨⟨[], World.ownsRow_nil _ _ _ _, fun i h t hi => by cases hi⟩, World.ownsRow_nil _ _ _ _, fun p hp => by cases hp⟩
theorem OpsIn.more {z : Nat} {T : List (List OpP)} {L : List OpP} {v u u' : Value} {w w' : World} {o : OpP} (h : OpsIn z T L v u w) (ho : w'.ownsRow z 70 7 u' (L ++ [o]).length (flatW (L ++ [o]))) (hg : w.grownBy w' u.ownBlock) (hf : ∀ p, p < w.heap.size → Apart u p → Apart u' p) : OpsIn z T (L ++ [o]) v u' w' := by
  obtain ⟨⟨hs, h1, h2⟩, h3, h4⟩ := h
  have hvu : ∀ p, v.ownBlock = some p → Apart u p := fun p hp e => h4 p e hp
  refine ⟨⟨hs, h1.kept hg ?_, fun i hd t hi ht => ?_⟩, ho, fun p hp e => ?_⟩
  · cases hv : v.ownBlock with
    | none => exact .inl rfl
    | some p => exact .inr fun e => hvu p hv e.symm
  · obtain ⟨b, cap, q1, q2, q3, q4, q5⟩ := h2 i hd t hi ht
    exact ⟨b, cap, q1, ⟨q2.1, Nat.lt_of_lt_of_le q2.2 hg.size⟩, q3, hf b q2.2 q4, opsAt_grown q5 hg q4⟩
  · exact hf p (h1.lt p e).2 (hvu p e) hp
theorem OpsIn.done {z : Nat} {T : List (List OpP)} {L : List OpP} {v v' u : Value} {w w' : World} (h : OpsIn z T L v u w) (hne : L ≠ []) (hrow : ∀ hs, w.ownsRow z 33 1 v T.length hs → w'.ownsRow z 33 1 v' (T.length + 1) (hs ++ [u])) (hg : w.grownBy w' v.ownBlock) (hf : ∀ p, p < w.heap.size → Apart v p → Apart v' p) : OpsIn z (T ++ [L]) [] v' (.slice none 0 0) w' := by
  obtain ⟨⟨hs, h1, h2⟩, h3, h4⟩ := h
  refine ⟨⟨hs ++ [u], by rw [List.length_append]; exact hrow hs h1, fun i hd t hi ht => ?_⟩, World.ownsRow_nil _ _ _ _, fun p hp => by cases hp⟩
  have hl : hs.length = T.length := by have := h1.1; omega
  have key : ∃ b cap, hd = .slice (some ⟨b, 0, none⟩) t.length cap ∧ z ≤ b ∧ Apart v b ∧ opsAt w (some ⟨b, 0, none⟩) t ∧ b < w.heap.size := by
    rw [List.getElem?_append] at hi ht
    by_cases hlt : i < T.length
    · rw [if_pos (by omega)] at hi
      rw [if_pos hlt] at ht
      obtain ⟨b, cap, q1, q2, q3, q4, q5⟩ := h2 i hd t hi ht
      exact ⟨b, cap, q1, q2.1, q3, q5, q2.2⟩
    · rw [if_neg (by omega)] at hi
      rw [if_neg hlt] at ht
      have hi0 : i - T.length = 0 := by
        have := (List.getElem?_eq_some_iff.1 ht).1
        simp at this; omega
      rw [hi0] at ht
      rw [hl, hi0] at hi
      simp at hi ht
      subst hi ht
      obtain ⟨b, cap, q1, q2, q3⟩ := ownsRow_opsW h3 hne
      subst q1
      exact ⟨b, cap, rfl, q2, h4 b rfl, q3, (h3.lt b rfl).2⟩
  obtain ⟨b, cap, q1, q2, q3, q4, q5⟩ := key
  exact ⟨b, cap, q1, ⟨q2, Nat.lt_of_lt_of_le q5 hg.size⟩, hf b q5 q3, (fun e => by cases e), opsAt_grown q4 hg q3⟩
end Go.Proofs.YtflhpmgjehjjkaaGreatDoor
