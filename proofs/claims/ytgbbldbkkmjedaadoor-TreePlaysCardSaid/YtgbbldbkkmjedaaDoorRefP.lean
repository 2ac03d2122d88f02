/- Plain law, no program in it: spans by numbers, rising: where a number stands, what is put in and taken out there. -/
import Derived.Test.YtgbbldbkkmjedaaDoorTreeN
namespace Go.Proofs.YtgbbldbkkmjedaaDoor

def SrtI (R : List It) : Prop := R.Pairwise (fun x y => x.2.1 < y.2.1)
def idsR (R : List It) : List Int := R.map (·.2.1)
def spsR (R : List It) : List (Int × Int) := R.map fun x => (x.1, x.2.2)
def posR (R : List It) (id : Int) : Nat := (idsR R).countP (fun y => !decide (id ≤ y))
def hasR (R : List It) (id : Int) : Bool := R.any (fun y => y.2.1 == id)
theorem idsR_length (R : List It) : (idsR R).length = R.length := by simp [idsR]
theorem spsR_length (R : List It) : (spsR R).length = R.length := by simp [spsR]
theorem posR_le (R : List It) (id : Int) : posR R id ≤ R.length := by unfold posR; rw [← idsR_length R]; exact List.countP_le_length
theorem split_id (id : Int) : ∀ {R : List It}, SrtI R → ∃ A B, R = A ++ B ∧ (∀ x ∈ A, x.2.1 < id) ∧ (∀ x ∈ B, id ≤ x.2.1) ∧ posR R id = A.length
  | [], _ => ⟨[], [], rfl, (fun x h => by cases h), (fun x h => by cases h), rfl⟩
  | x :: R, h => by
    have h' := List.pairwise_cons.1 h
    by_cases hx : x.2.1 < id
    · obtain ⟨A, B, e, h1, h2, h3⟩ := split_id id h'.2
      refine ⟨x :: A, B, by rw [e]; rfl, fun y hy => ?_, h2, ?_⟩
      · rcases List.mem_cons.1 hy with rfl | hy
        · exact hx
        · exact h1 y hy
      · unfold posR idsR at *
        rw [List.map_cons, List.countP_cons_of_pos (by simp; omega), h3]; rfl
    · refine ⟨[], x :: R, rfl, (fun x h => by cases h), fun y hy => ?_, ?_⟩
      · rcases List.mem_cons.1 hy with rfl | hy
        · omega
        · have := h'.1 y hy; omega
      · unfold posR idsR
        refine List.countP_eq_zero.2 fun a ha => ?_
        obtain ⟨y, hy, rfl⟩ := List.mem_map.1 ha
        have : id ≤ y.2.1 := by
          rcases List.mem_cons.1 hy with rfl | hy
          · omega
          · have := h'.1 y hy; omega
        simpa using this
/-- It is there just if it stands at its place. -/
theorem hasR_pos {R : List It} (h : SrtI R) (id : Int) : (hasR R id = true ∧ ∃ x, R[posR R id]? = some x ∧ x.2.1 = id) ∨ (hasR R id = false ∧ ∀ x, R[posR R id]? = some x → x.2.1 ≠ id) := by
  obtain ⟨A, B, e, h1, h2, h3⟩ := split_id id h
  rw [h3]
  have hget : R[A.length]? = B[0]? := by rw [e, List.getElem?_append_right (Nat.le_refl _), Nat.sub_self]
  rw [hget]
  cases hb : hasR R id
  · refine Or.inr ⟨rfl, fun x hx e2 => ?_⟩
    have hm : x ∈ R := by rw [e]; exact List.mem_append_right _ (List.mem_of_getElem? hx)
    have : hasR R id = true := List.any_eq_true.2 ⟨x, hm, by simp [e2]⟩
    rw [hb] at this; cases this
  · refine Or.inl ⟨rfl, ?_⟩
    obtain ⟨x, hx, e2⟩ := List.any_eq_true.1 hb
    have e2 : x.2.1 = id := by simpa using e2
    have hB : x ∈ B := by
      rw [e] at hx
      rcases List.mem_append.1 hx with h4 | h4
      · have := h1 x h4; omega
      · exact h4
    cases B with
    | nil => cases hB
    | cons b B =>
      refine ⟨b, rfl, ?_⟩
      have hb := h2 b (by simp)
      rcases List.mem_cons.1 hB with h5 | h5
      · rw [← h5]; exact e2
      · have hs : SrtI (b :: B) := (List.pairwise_append.1 (by rw [e] at h; exact h)).2.1
        have := (List.pairwise_cons.1 hs).1 x h5
        omega
def putR (R : List It) (x : It) : List It := R.take (posR R x.2.1) ++ x :: R.drop (posR R x.2.1)
def takeR (R : List It) (id : Int) : List It := R.take (posR R id) ++ R.drop (posR R id + 1)
theorem putR_perm (R : List It) (x : It) : (putR R x).Perm (x :: R) := by
  unfold putR
  refine List.perm_middle.trans ?_
  rw [List.take_append_drop]
theorem putR_srt {R : List It} (h : SrtI R) (x : It) (hn : hasR R x.2.1 = false) : SrtI (putR R x) := by
  obtain ⟨A, B, e, h1, h2, h3⟩ := split_id x.2.1 h
  unfold putR
  rw [h3, e, List.take_left' rfl, List.drop_left' rfl]
  rw [e] at h
  obtain ⟨p1, p2, p3⟩ := List.pairwise_append.1 h
  refine List.pairwise_append.2 ⟨p1, List.pairwise_cons.2 ⟨fun y hy => ?_, p2⟩, fun a ha b hb => ?_⟩
  · have := h2 y hy
    have hne : y.2.1 ≠ x.2.1 := fun e2 => by
      have : hasR R x.2.1 = true := List.any_eq_true.2 ⟨y, by rw [e]; exact List.mem_append_right _ hy, by simp [e2]⟩
      rw [hn] at this; cases this
    omega
  · rcases List.mem_cons.1 hb with rfl | hb
    · exact h1 a ha
    · exact p3 a ha b hb
theorem takeR_perm {R : List It} {id : Int} {x : It} (hx : R[posR R id]? = some x) : R.Perm (x :: takeR R id) := by
  unfold takeR
  generalize posR R id = k at *
  obtain ⟨hk, e⟩ := List.getElem?_eq_some_iff.1 hx
  have hd : R.drop k = x :: R.drop (k + 1) := by rw [List.drop_eq_getElem_cons hk, e]
  have : R = R.take k ++ x :: R.drop (k + 1) := by rw [← hd, List.take_append_drop]
  rw [List.perm_comm]
  exact List.perm_middle.symm.trans (.of_eq this.symm)
theorem takeR_srt {R : List It} (h : SrtI R) (id : Int) : SrtI (takeR R id) := by
  unfold takeR SrtI
  have : (R.take (posR R id) ++ R.drop (posR R id + 1)).Sublist R := by
    have e : R = R.take (posR R id) ++ R.drop (posR R id) := (List.take_append_drop _ _).symm
    conv => rhs; rw [e]
    refine List.Sublist.append_left ?_ _
    rw [← List.drop_drop]
    exact List.drop_sublist _ _
  exact h.sublist this
theorem idsR_sorted {R : List It} (h : SrtI R) : (idsR R).Pairwise (· < ·) := by unfold idsR; rw [List.pairwise_map]; exact h
theorem idsR_put (R : List It) (x : It) : idsR (putR R x) = (idsR R).take (posR R x.2.1) ++ x.2.1 :: (idsR R).drop (posR R x.2.1) := by simp [idsR, putR, List.map_take, List.map_drop]
theorem spsR_put (R : List It) (x : It) : spsR (putR R x) = (spsR R).take (posR R x.2.1) ++ (x.1, x.2.2) :: (spsR R).drop (posR R x.2.1) := by simp [spsR, putR, List.map_take, List.map_drop]
theorem idsR_take (R : List It) (id : Int) : idsR (takeR R id) = (idsR R).take (posR R id) ++ (idsR R).drop (posR R id + 1) := by simp [idsR, takeR, List.map_take, List.map_drop]
theorem spsR_take (R : List It) (id : Int) : spsR (takeR R id) = (spsR R).take (posR R id) ++ (spsR R).drop (posR R id + 1) := by simp [spsR, takeR, List.map_take, List.map_drop]
theorem putR_length (R : List It) (x : It) : (putR R x).length = R.length + 1 := by rw [(putR_perm R x).length_eq]; rfl
end Go.Proofs.YtgbbldbkkmjedaaDoor
