/- Plain laws of SpanSums: the sums of sets agree, and none is too long. -/
import Derived.Test.YtcdgochkcfogiaaSetP
namespace Go.Proofs.Ytcdgochkcfogiaa

theorem meetL_in (a b : Int × Int) (t : Int) : inL (meetL a b) t = (hasB a.1 a.2 t && hasB b.1 b.2 t) := by
  obtain ⟨a1, a2⟩ := a
  obtain ⟨b1, b2⟩ := b
  unfold meetL part1 imax imin
  rw [Bool.eq_iff_iff, Bool.and_eq_true, hasB_iff, hasB_iff]
  split
  · rw [inL_iff]; simp; omega
  · rename_i h
    simp at h ⊢
    omega
theorem bothL_in (l m : List (Int × Int)) (t : Int) : inL (bothL l m) t = (inL l t && inL m t) := by
  unfold bothL
  rw [inL_flatMap]
  induction l with
  | nil => simp
  | cons a l ih =>
    rw [List.any_cons, ih, inL_cons, inL_flatMap]
    have : (m.any fun b => inL (meetL a b) t) = (hasB a.1 a.2 t && inL m t) := by
      clear ih
      induction m with
      | nil => simp
      | cons b m ih => rw [List.any_cons, ih, inL_cons, meetL_in]; cases hasB a.1 a.2 t <;> simp
    rw [this]
    cases hasB a.1 a.2 t <;> cases inL l t <;> cases inL m t <;> rfl
theorem rightL_append {l m : List (Int × Int)} (hl : rightL l) (hm : rightL m) : rightL (l ++ m) := fun p hp => (List.mem_append.1 hp).elim (hl p) (hm p)
theorem canon_in (l : List (Int × Int)) (h : rightL l) (t : Int) : inL (canon l) t = inL l t := (canon_spec l (right_pos h)).2.1 t
theorem canon_norm (l : List (Int × Int)) (h : rightL l) : Norm (canon l) := (canon_spec l (right_pos h)).1
theorem canon_congr (l m : List (Int × Int)) (hl : rightL l) (hm : rightL m) (h : ∀ t, inL l t = inL m t) : canon l = canon m :=
  canon_eq l (canon m) (right_pos hl) (canon_norm m hm) fun t => by rw [canon_in m hm, h]
theorem bothL_starts (l m : List (Int × Int)) : ∀ p ∈ bothL l m, p.1 ∈ (l ++ m).map Prod.fst := by
  intro p hp
  unfold bothL at hp
  obtain ⟨a, ha, hp⟩ := List.mem_flatMap.1 hp
  obtain ⟨b, hb, hp⟩ := List.mem_flatMap.1 hp
  unfold meetL part1 at hp
  rw [List.map_append, List.mem_append]
  split at hp
  · simp only [List.mem_singleton] at hp
    subst hp
    have h : imax a.1 b.1 = a.1 ∨ imax a.1 b.1 = b.1 := by unfold imax; omega
    rcases h with h | h
    · exact .inl (List.mem_map.2 ⟨a, ha, h.symm⟩)
    · exact .inr (List.mem_map.2 ⟨b, hb, h.symm⟩)
  · cases hp

/-- What the walk of SpanSums asks of its sets. -/
structure Sums (A B C U O M D V X Y : List (Int × Int)) : Prop where
  nA : Norm A
  nB : Norm B
  nU : Norm U
  nO : Norm O
  nM : Norm M
  rA : rightL A
  rB : rightL B
  rC : rightL C
  rU : rightL U
  rM : rightL M
  rV : rightL V
  eU : canon (A ++ B) = U
  eO : canon (bothL A B) = O
  eM : canon (minusL A B) = M
  eU2 : canon (B ++ A) = U
  eD : canon (minusL A M) = O
  eX : canon (U ++ C) = X
  eV : canon (B ++ C) = V
  eY : canon (A ++ V) = X
  lU : U.length ≤ 60
  lO : O.length ≤ 60
  lM : M.length ≤ 60
  lV : V.length ≤ 60
  lX : X.length ≤ 60
  iU : ∀ t, inL U t = (inL A t || inL B t)
  iO : ∀ t, inL O t = (inL A t && inL B t)
  iM : ∀ t, inL M t = (inL A t && !inL B t)

theorem sums_any (l0 l1 l2 : List (Int × Int)) : ∃ A B C U O M D V X Y, canon (madeL l0) = A ∧ canon (madeL l1) = B ∧ canon (madeL l2) = C ∧ Sums A B C U O M D V X Y := by
  have r0 := madeL_right l0
  have r1 := madeL_right l1
  have r2 := madeL_right l2
  have lA : (canon (madeL l0)).length ≤ 20 := Nat.le_trans (canon_len_self _ r0) (madeL_len l0)
  have lB : (canon (madeL l1)).length ≤ 20 := Nat.le_trans (canon_len_self _ r1) (madeL_len l1)
  have lC : (canon (madeL l2)).length ≤ 20 := Nat.le_trans (canon_len_self _ r2) (madeL_len l2)
  have nA := canon_norm _ r0
  have nB := canon_norm _ r1
  have rA := canon_right _ r0
  have rB := canon_right _ r1
  have rC := canon_right _ r2
  obtain ⟨A, hA⟩ : ∃ A, canon (madeL l0) = A := ⟨_, rfl⟩
  obtain ⟨B, hB⟩ : ∃ B, canon (madeL l1) = B := ⟨_, rfl⟩
  obtain ⟨C, hC⟩ : ∃ C, canon (madeL l2) = C := ⟨_, rfl⟩
  rw [hA] at lA nA rA
  rw [hB] at lB nB rB
  rw [hC] at lC rC
  have rAB := rightL_append rA rB
  have rBA := rightL_append rB rA
  have rBC := rightL_append rB rC
  have rO := bothL_right A B rA rB
  have rM := minusL_right B A rA
  have rU' := canon_right _ rAB
  have rM' := canon_right _ rM
  have rV' := canon_right _ rBC
  have rD := minusL_right (canon (minusL A B)) A rA
  have rX := rightL_append rU' rC
  have rY := rightL_append rA rV'
  have sM := minusL_spec B A nA (right_pos rB)
  have sD := minusL_spec (canon (minusL A B)) A nA (right_pos rM')
  have lU : (canon (A ++ B)).length ≤ 40 := by have := canon_len_self _ rAB; rw [List.length_append] at this; omega
  have lV : (canon (B ++ C)).length ≤ 40 := by have := canon_len_self _ rBC; rw [List.length_append] at this; omega
  have iU : ∀ t, inL (canon (A ++ B)) t = (inL A t || inL B t) := fun t => by rw [canon_in _ rAB, inL_append]
  have iM : ∀ t, inL (canon (minusL A B)) t = (inL A t && !inL B t) := fun t => by rw [canon_in _ rM, sM.2.2]
  refine ⟨A, B, C, canon (A ++ B), canon (bothL A B), canon (minusL A B), [], canon (B ++ C), canon (canon (A ++ B) ++ C), [], hA, hB, hC, ?_⟩
  exact {
    nA := nA, nB := nB, nU := canon_norm _ rAB, nO := canon_norm _ rO, nM := canon_norm _ rM
    rA := rA, rB := rB, rC := rC, rU := rU', rM := rM', rV := rV'
    eU := rfl, eO := rfl, eM := rfl
    eU2 := canon_congr _ _ rBA rAB fun t => by rw [inL_append, inL_append, Bool.or_comm]
    eD := canon_congr _ _ rD rO fun t => by rw [sD.2.2, iM, bothL_in]; cases inL A t <;> cases inL B t <;> rfl
    eX := rfl, eV := rfl
    eY := canon_congr _ _ rY rX fun t => by rw [inL_append, inL_append, canon_in _ rBC, iU, inL_append]; cases inL A t <;> cases inL B t <;> rfl
    lU := by omega
    lO := by have := canon_len _ (A ++ B) rO (bothL_starts A B); rw [List.length_append] at this; omega
    lM := by have := canon_len_self _ rM; omega
    lV := by omega
    lX := by have := canon_len_self _ rX; rw [List.length_append] at this; omega
    iU := iU
    iO := fun t => by rw [canon_in _ rO, bothL_in]
    iM := iM }
end Go.Proofs.Ytcdgochkcfogiaa
