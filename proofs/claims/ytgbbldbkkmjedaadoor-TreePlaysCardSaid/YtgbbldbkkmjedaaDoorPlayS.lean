/- Plain law, no program in it: a tree's spans and the document's answer alike: what may be put in, who has a time of a span. Side by side: the span of a number; where there is nothing. -/
import Derived.Test.YtgbbldbkkmjedaaDoorPlayB
namespace Go.Proofs.YtgbbldbkkmjedaaDoor
open Go.RowKit Go.Deep Go.Sort Go.Shelf

structure GoodR (R : List It) : Prop where
  srt : SrtI R
  ok : ∀ x ∈ R, rightB x.1 x.2.2 = true ∧ 0 ≤ x.2.1 ∧ x.2.1 ≤ 1048576
  len : R.length ≤ 4000
theorem hasR_perm {L R : List It} (h : L.Perm R) (id : Int) : hasR L id = hasR R id := by
  unfold hasR
  rw [Bool.eq_iff_iff]; simp only [List.any_eq_true]
  exact ⟨fun ⟨x, hx, e⟩ => ⟨x, h.mem_iff.1 hx, e⟩, fun ⟨x, hx, e⟩ => ⟨x, h.mem_iff.2 hx, e⟩⟩
theorem addE_perm {L R : List It} (h : L.Perm R) (id f t : Int) : addE L id f t = addE R id f t := by
  unfold addE; rw [hasR_perm h id, h.length_eq]
theorem addE_zero {R : List It} {id f t : Int} (h : addE R id f t = 0) : (0 ≤ id ∧ id ≤ 1048576) ∧ rightB f t = true ∧ hasR R id = false ∧ R.length < 4000 := by
  unfold addE at h
  split at h
  · rename_i h1
    split at h
    · rename_i h2
      split at h
      · cases h
      · rename_i h3
        split at h
        · cases h
        · exact ⟨h1, h2, by simpa using h3, by omega⟩
    · cases h
  · cases h
theorem addR_perm {L R : List It} (h : L.Perm R) (id f t : Int) : (if addE L id f t = 0 then (f, id, t) :: L else L).Perm (addR R id f t) := by
  unfold addR
  rw [addE_perm h]
  split
  · exact (h.cons _).trans (putR_perm R (f, id, t)).symm
  · exact h
theorem GoodR.add {R : List It} (h : GoodR R) (id f t : Int) : GoodR (addR R id f t) := by
  unfold addR
  split
  · rename_i h0
    obtain ⟨h1, h2, h3, h4⟩ := addE_zero h0
    refine ⟨putR_srt h.srt _ h3, fun x hx => ?_, by rw [putR_length]; omega⟩
    rcases List.mem_cons.1 ((putR_perm R (f, id, t)).mem_iff.1 hx) with rfl | hx
    · exact ⟨h2, h1.1, h1.2⟩
    · exact h.ok x hx
  · exact h
theorem GoodR.drop {R : List It} (h : GoodR R) (id : Int) : GoodR (dropR R id) := by
  unfold dropR
  split
  · rename_i h0
    have hsub : (takeR R id).length ≤ R.length := by unfold takeR; simp; omega
    rcases hasR_pos h.srt id with ⟨_, x, e2, _⟩ | ⟨e1, _⟩
    · refine ⟨takeR_srt h.srt id, fun y hy => h.ok y ((takeR_perm e2).mem_iff.2 (List.mem_cons_of_mem _ hy)), by have := h.len; omega⟩
    · rw [e1] at h0; cases h0
  · exact h
theorem right_lt {f t : Int} (h : rightB f t = true) : f < t ∧ -1099511627776 ≤ f ∧ t ≤ 1099511627776 := by
  unfold rightB at h; simp at h; omega
theorem selR_sorted (P : It → Bool) {R : List It} (h : SrtI R) : (selR P R).Pairwise (· < ·) := by
  unfold selR
  rw [List.pairwise_map]
  exact List.Pairwise.filter _ h
theorem meets_sel {L R : List It} (h : L.Perm R) (g : GoodR R) (f t : Int) : meetsL L f t = selR (rmB f t) R := by
  unfold meetsL
  cases hr : rightB f t
  · have : selR (rmB f t) R = [] := by
      unfold selR
      rw [List.map_eq_nil_iff, List.filter_eq_nil_iff]
      intro x _; unfold rmB; rw [hr]; simp
    rw [this]; rfl
  · rw [if_pos rfl]
    have hft := right_lt hr
    refine sortI_eq ?_ ((selR_sorted _ g.srt).imp (fun h => Int.le_of_lt h))
    refine (((h.filter _).map _)).trans (.of_eq ?_)
    unfold selR
    congr 1
    refine List.filter_congr fun x hx => ?_
    have hx := right_lt (g.ok x hx).1
    unfold meetsT rmB imax imin
    rw [hr, Bool.true_and, Bool.eq_iff_iff]
    simp
    omega
theorem at_sel {L R : List It} (h : L.Perm R) (g : GoodR R) (p : Int) : atL L p = selR (raB p) R := by
  unfold atL
  split
  · rename_i hp
    rw [meets_sel h g]
    unfold selR
    congr 1
    refine List.filter_congr fun x hx => ?_
    have hx := right_lt (g.ok x hx).1
    have hr : rightB p (p + 1) = true := by unfold rightB; simp; omega
    unfold rmB raB hasB imax imin
    rw [hr, Bool.true_and, Bool.eq_iff_iff]
    simp
    omega
  · rename_i hp
    symm
    unfold selR
    rw [List.map_eq_nil_iff, List.filter_eq_nil_iff]
    intro x hx
    have hx := right_lt (g.ok x hx).1
    unfold raB hasB
    simp
    omega
theorem selR_len (P : It → Bool) (R : List It) : (selR P R).length ≤ R.length := by unfold selR; rw [List.length_map]; exact List.length_filter_le _ _
theorem dropR_perm {L R : List It} (h : L.Perm R) (g : SrtI R) (id : Int) (hx : hasR R id = true) : ∃ x, x.2.1 = id ∧ L.Perm (x :: takeR R id) ∧ (takeR R id).length + 1 = R.length := by
  rcases hasR_pos g id with ⟨_, x, e2, e3⟩ | ⟨e1, _⟩
  · refine ⟨x, e3, h.trans (takeR_perm e2), ?_⟩
    have := (takeR_perm e2).length_eq
    simpa using this.symm
  · rw [e1] at hx; cases hx
end Go.Proofs.YtgbbldbkkmjedaaDoor
namespace Go.Proofs.YtgbbldbkkmjedaaDoor
open Go.RowKit Go.Deep Go.Shelf Go.Sort

theorem play_spanR {S : Nat → Prop} {B tb wb : Nat} {L R : List It} {w : World} (h : Play S B tb wb L R w) (g : GoodR R) (id : Int) :
    Calls Tryd.prog 10 #[.pointer (some ⟨wb, 0, none⟩), .int .i64 id] w fun e w' => e = .returned (.tuple #[.agg #[.int .i64 (spanS R id).1, .int .i64 (spanS R id).2], .int .i64 (spanE R id)]) ∧ Below w.heap.size w w' := by
  obtain ⟨⟨T, mb, vi, vs, _, h2, _⟩, _⟩ := h
  exact rspan_any id w (wb + 1) wb R vi vs h2 g.srt (by have := g.len; omega)
theorem play_spanT {S : Nat → Prop} {B tb wb : Nat} {R : List It} {w : World} (h : Play S B tb wb R R w) (g : GoodR R) (id : Int) (hi : i64 id) :
    Calls Tryd.prog 11 #[.pointer (some ⟨tb, 0, none⟩), .int .i64 id] w fun e w' => e = .returned (.tuple #[.agg #[.int .i64 (spanS R id).1, .int .i64 (spanS R id).2], errVal (spanE R id)]) ∧ Below w.heap.size w w' := by
  obtain ⟨⟨T, mb, vi, vs, h1, _⟩, _⟩ := h
  rcases hasR_pos g.srt id with ⟨e1, x, e2, e3⟩ | ⟨e1, e2⟩
  · have hS : spanS R id = (x.1, x.2.2) := by unfold spanS; rw [e1, if_pos rfl, List.getD_eq_getElem?_getD, e2]; rfl
    have hE : spanE R id = 0 := by unfold spanE; rw [e1, if_pos rfl]
    rw [hS, hE]
    exact tspan_has id x.1 x.2.2 hi w tb R T mb h1 (by rw [← e3]; exact List.mem_of_getElem? e2)
  · have hS : spanS R id = (0, 0) := by unfold spanS; rw [e1]; rfl
    have hE : spanE R id = 7 := by unfold spanE; rw [e1]; rfl
    rw [hS, hE]
    exact tspan_none id hi w tb R T mb h1 e1
theorem errIs_span (w : World) (R : List It) (id : Int) : ErrIs w (errVal (spanE R id)) (spanE R id) (-1) := by
  unfold errVal
  split
  · rename_i h; exact Or.inl ⟨rfl, h, rfl⟩
  · exact Or.inr (Or.inl ⟨rfl, rfl⟩)
theorem play_dropT_any {S : Nat → Prop} {B tb wb : Nat} {R : List It} {w : World} (h : Play S B tb wb R R w) (g : GoodR R) (id : Int) (hi : i64 id) :
    Calls Tryd.prog 12 #[.pointer (some ⟨tb, 0, none⟩), .int .i64 id] w fun e w' => e = .returned (errVal (dropE R id)) ∧ Play S B tb wb (dropR R id) R w' ∧ Below B w w' ∧ ∀ k, S k → w'.heap[k]? = w.heap[k]? := by
  unfold dropE dropR
  cases hx : hasR R id
  · simp only [Bool.false_eq_true, if_false]
    exact (play_dropN h id hi hx).mono fun e w' he => by unfold errVal; exact he
  · simp only [if_true]
    obtain ⟨x, e1, e2, e3⟩ := dropR_perm (.refl R) g.srt id hx
    have := play_dropT x (h.permL e2) (by rw [e1]; exact hi) (by have := g.len; omega)
    rw [e1] at this
    exact this.mono fun e w' he => by unfold errVal; exact he
theorem play_dropR {S : Nat → Prop} {B tb wb : Nat} {L R : List It} {w : World} (h : Play S B tb wb L R w) (g : GoodR R) (id : Int) :
    Calls Tryd.prog 13 #[.pointer (some ⟨wb, 0, none⟩), .int .i64 id] w fun e w' => e = .returned (.int .i64 (dropE R id)) ∧ Play S B tb wb L (dropR R id) w' ∧ Below B w w' ∧ ∀ k, S k → w'.heap[k]? = w.heap[k]? := by
  unfold dropE dropR
  cases hx : hasR R id
  · simp only [Bool.false_eq_true, if_false]
    exact play_stepR h fun vi vs h2 => (rdrop_missing id w (wb + 1) wb R vi vs h2 g.srt (by have := g.len; omega) hx).mono fun e w' ⟨he, hb⟩ => by rw [he]; exact rstep_same h2 hb 7
  · simp only [if_true]
    exact play_stepR h fun vi vs h2 => rdrop_has id w (wb + 1) wb R vi vs h2 g.srt (by have := g.len; omega) hx
theorem Play.lenR {S : Nat → Prop} {B tb wb : Nat} {L R : List It} {w : World} (h : Play S B tb wb L R w) : ∃ ao cap, w.cell? ⟨wb, 0, none⟩ = some (.slice ao R.length cap) := by
  obtain ⟨⟨T, mb, vi, vs, _, h2, _⟩, _⟩ := h
  obtain ⟨ao, cap, e, _⟩ := ownsRow_ints h2.ids
  have c0 := (rt_cells h2.cells).1
  rw [e, idsR_length] at c0
  exact ⟨ao, cap, c0⟩
end Go.Proofs.YtgbbldbkkmjedaaDoor
