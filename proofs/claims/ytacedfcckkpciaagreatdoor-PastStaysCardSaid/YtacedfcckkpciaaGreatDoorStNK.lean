/- Plain law, no program in it: what is told of a count stays; what pieces tell of a time. -/
import Derived.Test.YtacedfcckkpciaaGreatDoorPastRK
namespace Go.Proofs.YtacedfcckkpciaaGreatDoor
open Go

/-! ### What was said stays said -/
def touchB (l : List OpP) (k : KeyP) (t : Int) : Bool := l.any fun o => decide (o.key = k) && decide (o.fr ≤ t ∧ t < o.to)
theorem saidL_untouched : ∀ {l : List OpP} {k : KeyP} {t : Int} (x : ByteArray), touchB l k t = false → saidL l k t x = x
  | [], _, _, _, _ => rfl
  | o :: l, k, t, x, h => by
    unfold touchB at h
    rw [List.any_cons, Bool.or_eq_false_iff] at h
    unfold saidL
    rw [List.foldl_cons, if_neg (by
      rintro ⟨h1, h2, h3⟩
      have := h.1
      rw [show decide (o.key = k) = true from decide_eq_true h1.symm, show decide (o.fr ≤ t ∧ t < o.to) = true from decide_eq_true ⟨h2, h3⟩] at this
      cases this)]
    exact saidL_untouched x h.2
theorem touchB_take {l : List OpP} {k : KeyP} {t : Int} {i : Nat} {o : OpP} (h : l[i]? = some o) : touchB (l.take (i + 1)) k t = (touchB (l.take i) k t || (decide (o.key = k) && decide (o.fr ≤ t ∧ t < o.to))) := by
  have : l.take (i + 1) = l.take i ++ [o] := by rw [List.take_add_one, h]; rfl
  unfold touchB
  rw [this, List.any_append]
  simp
theorem saidH_take (T : List (List OpP)) (k : KeyP) {i j : Nat} (h : i ≤ j) (t : Int) : saidH (T.take j) k i t = saidH T k i t := by
  unfold saidH; rw [List.take_take, Nat.min_eq_left h]
theorem saidH_step {T : List (List OpP)} {j : Nat} {l : List OpP} (h : T[j]? = some l) (k : KeyP) (t : Int) : saidH T k (j + 1) t = saidL l k t (saidH T k j t) := by
  have : T.take (j + 1) = T.take j ++ [l] := by rw [List.take_add_one, h]; rfl
  unfold saidH
  rw [this, List.flatten_append]
  unfold saidL
  rw [List.foldl_append]
  simp
theorem saidH_stays {T : List (List OpP)} {j : Nat} {l : List OpP} (h : T[j]? = some l) {k : KeyP} {t : Int} (hu : touchB l k t = false) : saidH T k (j + 1) t = saidH T k j t := by
  rw [saidH_step h, saidL_untouched _ hu]
/-- All that is told of a count: a row of 75 texts. -/
def rowT (T : List (List OpP)) (k : KeyP) (n : Nat) : List ByteArray := (List.range 75).map fun t => saidH T k n (t : Nat)
theorem rowT_len (T : List (List OpP)) (k : KeyP) (n : Nat) : (rowT T k n).length = 75 := by simp [rowT]
theorem rowT_get (T : List (List OpP)) (k : KeyP) (n : Nat) {t : Nat} (h : t < 75) : (rowT T k n)[t]? = some (saidH T k n (t : Nat)) := by
  simp [rowT, h]
theorem rowT_take (T : List (List OpP)) (k : KeyP) {i j : Nat} (h : i ≤ j) : rowT (T.take j) k i = rowT T k i := by
  unfold rowT; exact List.map_congr_left fun t _ => saidH_take T k h _
/-- The rows of the counts up to one. -/
def rowsT (T : List (List OpP)) (k : KeyP) (n : Nat) : List (List ByteArray) := (List.range n).map (rowT T k)
theorem rowsT_len (T : List (List OpP)) (k : KeyP) (n : Nat) : (rowsT T k n).length = n := by simp [rowsT]
theorem rowsT_get (T : List (List OpP)) (k : KeyP) {i n : Nat} (h : i < n) : (rowsT T k n)[i]? = some (rowT T k i) := by
  simp [rowsT, h]
theorem rowsT_succ (T : List (List OpP)) (k : KeyP) (n : Nat) : rowsT T k (n + 1) = rowsT T k n ++ [rowT T k n] := by
  simp [rowsT, List.range_succ]

/-! ### What pieces tell of a time -/
def pieceVal (L : List Pc) (t : Int) : ByteArray := L.foldl (fun v p => if p.fr ≤ t ∧ t < p.to then p.val else v) ⟨#[]⟩
theorem pieceVal_take {L : List Pc} {i : Nat} {p : Pc} (h : L[i]? = some p) (t : Int) : pieceVal (L.take (i + 1)) t = if p.fr ≤ t ∧ t < p.to then p.val else pieceVal (L.take i) t := by
  have : L.take (i + 1) = L.take i ++ [p] := by rw [List.take_add_one, h]; rfl
  unfold pieceVal
  rw [this, List.foldl_append]
  rfl
theorem pieceVal_or (t : Int) : ∀ (L : List Pc) (x : ByteArray), (∃ p ∈ L, p.has t ∧ L.foldl (fun v p => if p.fr ≤ t ∧ t < p.to then p.val else v) x = p.val) ∨ ((∀ p ∈ L, ¬ p.has t) ∧ L.foldl (fun v p => if p.fr ≤ t ∧ t < p.to then p.val else v) x = x)
  | [], x => .inr ⟨(fun p hp => by cases hp), rfl⟩
  | q :: L, x => by
    rw [List.foldl_cons]
    rcases pieceVal_or t L (if q.fr ≤ t ∧ t < q.to then q.val else x) with ⟨p, hp, h1, h2⟩ | ⟨h1, h2⟩
    · exact .inl ⟨p, List.mem_cons_of_mem _ hp, h1, h2⟩
    · by_cases hq : q.fr ≤ t ∧ t < q.to
      · rw [if_pos hq] at h2 ⊢
        exact .inl ⟨q, by simp, hq, h2⟩
      · rw [if_neg hq] at h2 ⊢
        refine .inr ⟨fun p hp => ?_, h2⟩
        rcases List.mem_cons.1 hp with rfl | hp
        · exact hq
        · exact h1 p hp
theorem pieceVal_is {hist : List (List OpP)} {k : KeyP} {n : Nat} {L : List Pc} (h : PiecesOf hist k n L) (t : Int) : pieceVal L t = saidH hist k n t := by
  unfold pieceVal
  rcases pieceVal_or t L ⟨#[]⟩ with ⟨p, hp, h1, h2⟩ | ⟨h1, h2⟩
  · rw [h2]
    exact ((h.cov t p.val).1 ⟨p, hp, h1, rfl⟩).2.symm
  · rw [h2]
    by_cases h0 : (saidH hist k n t).size = 0
    · exact (size0 h0).symm
    · obtain ⟨p, hp, hh, _⟩ := (h.cov t _).2 ⟨h0, rfl⟩
      exact absurd hh (h1 p hp)
theorem Canon.two {L : List Pc} (h : Canon L) {i : Nat} {p q : Pc} (hp : L[i]? = some p) (hq : L[i + 1]? = some q) : p.to ≤ q.fr ∧ (p.to = q.fr → p.val ≠ q.val) := by
  obtain ⟨i1, e1⟩ := List.getElem?_eq_some_iff.1 hp
  obtain ⟨i2, e2⟩ := List.getElem?_eq_some_iff.1 hq
  have := List.pairwise_iff_getElem.1 h.row i (i + 1) i1 i2 (by omega)
  rw [e1, e2] at this
  exact this

/-! ### The texts that ever were -/
/-- x was told of a count below at, or of at itself and a time below t. -/
def everBelow (T : List (List OpP)) (k : KeyP) (at_ t : Nat) (x : ByteArray) : Prop := x.size ≠ 0 ∧ ∃ (i y : Nat), y < 75 ∧ (i < at_ ∨ (i = at_ ∧ y < t)) ∧ saidH T k i (y : Nat) = x
theorem everBelow_zero (T : List (List OpP)) (k : KeyP) (x : ByteArray) : ¬ everBelow T k 0 0 x := by
  rintro ⟨_, i, y, _, h, _⟩; omega
theorem everBelow_step (T : List (List OpP)) (k : KeyP) (a : Nat) {t : Nat} (ht : t < 75) (x : ByteArray) : everBelow T k a (t + 1) x ↔ (x.size ≠ 0 ∧ x = saidH T k a (t : Nat)) ∨ everBelow T k a t x := by
  constructor
  · rintro ⟨h0, i, y, h1, h2, h3⟩
    rcases h2 with h2 | ⟨rfl, h2⟩
    · exact .inr ⟨h0, i, y, h1, .inl h2, h3⟩
    · rcases Nat.lt_or_ge y t with h | h
      · exact .inr ⟨h0, i, y, h1, .inr ⟨rfl, h⟩, h3⟩
      · obtain rfl : y = t := by omega
        exact .inl ⟨h0, h3.symm⟩
  · rintro (⟨h0, h1⟩ | ⟨h0, i, y, h1, h2, h3⟩)
    · exact ⟨h0, a, t, ht, .inr ⟨rfl, by omega⟩, h1.symm⟩
    · exact ⟨h0, i, y, h1, by omega, h3⟩
theorem everBelow_next (T : List (List OpP)) (k : KeyP) (a : Nat) (x : ByteArray) : everBelow T k a 75 x ↔ everBelow T k (a + 1) 0 x := by
  constructor
  · rintro ⟨h0, i, y, h1, h2, h3⟩; exact ⟨h0, i, y, h1, by omega, h3⟩
  · rintro ⟨h0, i, y, h1, h2, h3⟩; exact ⟨h0, i, y, h1, by omega, h3⟩
theorem everBelow_all (T : List (List OpP)) (k : KeyP) (n : Nat) (x : ByteArray) : everBelow T k (n + 1) 0 x ↔ EverIs T k 0 n 0 75 x := by
  constructor
  · rintro ⟨h0, i, y, h1, h2, h3⟩; exact ⟨h0, i, Nat.zero_le _, by omega, (y : Int), by omega, by omega, h3⟩
  · rintro ⟨h0, i, _, h2, y, h3, h4, h5⟩
    refine ⟨h0, i, y.toNat, by omega, by omega, ?_⟩
    rw [show ((y.toNat : Nat) : Int) = y by omega]; exact h5
theorem perm_nodup {S L : List ByteArray} (hs : S.Pairwise bLess) (hl : L.Nodup) (h : ∀ x, x ∈ S ↔ x ∈ L) : S.length = L.length := by
  have n1 : S.Nodup := List.Pairwise.imp (fun {a b} (h : bLess a b) (e : a = b) => by subst e; unfold bLess at h; rw [bless_irrefl] at h; cases h) hs
  exact ((List.perm_ext_iff_of_nodup n1 hl).2 h).length_eq
end Go.Proofs.YtacedfcckkpciaaGreatDoor
