/- A fact of trees: two spans (found). -/
import Derived.Test.YtcdgochkcfogiaaTreeR
namespace Go.Proofs.Ytcdgochkcfogiaa
open Go.RowKit Go.Deep Go.Shelf Go.Sort Go.Maps

theorem tree_new {w : World} {tb : Nat} (h : w.heap[tb]? = some (.cells #[.pointer none, .map none] 49 (0, 0))) : TreeAt w tb [] .nil none :=
  ⟨h, trivial, List.nodup_nil, trivial, List.Pairwise.nil, List.nodup_nil, .refl _, rfl, (by simp [blocksT]), fun m e => by cases e⟩
theorem sortI_eq {l m : List Int} (h : l.Perm m) (hs : m.Pairwise (· ≤ ·)) : sortI l = m :=
  List.Perm.eq_of_pairwise (le := (· ≤ ·)) (fun a b _ _ h1 h2 => Int.le_antisymm h1 h2) (sortI_sorted l) hs ((List.mergeSort_perm l _).trans h)
theorem found5 : atL [(5, 2, 6), (0, 4, 9)] 5 = [2, 4] := by
  unfold atL meetsL
  rw [if_pos (by decide), if_pos (by decide)]
  exact sortI_eq (.refl _) (by decide)
theorem found6 : atL [(5, 2, 6), (0, 4, 9)] 6 = [4] := by
  unfold atL meetsL
  rw [if_pos (by decide), if_pos (by decide)]
  exact sortI_eq (.refl _) (by decide)

set_option maxRecDepth 100000 in
set_option maxHeartbeats 4000000 in
theorem found_any (w : World) : Calls Try.prog 25 #[] w fun e w' => e = .returned (.bool true) ∧ Below w.heap.size w w' := by
  have h0 : TreeAt (w.alloc (.cells #[.pointer none, .map none] 49)) w.heap.size [] .nil none := tree_new (block_alloc_new _ _)
  have H0 := Lib.hid h0
  clear h0
  go_enter Try.func25, Try.ntmps25
  go_wp2_with fail
  refine (tadd_ok 4 0 9 _ w.heap.size [] .nil none H0.out (by decide) (by decide) (by decide) rfl (by decide)).mono ?_
  rintro e w1 ⟨t1, m1, rfl, T1, F1, S1⟩
  have G1 : ∀ k, foot w.heap.size t1 m1 k → w.heap.size ≤ k := fun k hk => by
    rcases S1 k hk with e | e
    · rcases e with e | e | e
      · omega
      · cases e
      · cases e
    · simp at e; omega
  have B1 : Below w.heap.size w w1 := ((Below.refl _ w).alloc (Nat.le_refl _) _).trans (F1.below (fun k _ e => by rcases e with e | e | e; omega; cases e; cases e) (by simp))
  have HT1 := Lib.hid T1
  clear T1 F1 S1 H0
  go_wp2_with fail
  refine (tadd_ok 2 5 6 w1 w.heap.size _ t1 m1 HT1.out (by decide) (by decide) (by decide) (by decide) (by decide)).mono ?_
  rintro e w2 ⟨t2, m2, rfl, T2, F2, S2⟩
  have G2 : ∀ k, foot w.heap.size t2 m2 k → w.heap.size ≤ k := fun k hk => by
    rcases S2 k hk with e | e
    · exact G1 k e
    · have := B1.size; omega
  have B2 := B1.trans (F2.below (fun k _ e => G1 k e) B1.size)
  have HT2 := Lib.hid T2
  clear T2 F2 S2 B1 G1
  go_wp2_with fail
  refine (tadd_twice 4 0 9 w2 w.heap.size _ t2 m2 HT2.out (by decide) (by decide) (by decide) (by decide)).mono ?_
  unfold errV
  rintro e w3 ⟨rfl, b3⟩
  have T3 := HT2.out.below b3
  have B3 := B2.trans (b3.mono B2.size)
  have HT3 := Lib.hid T3
  clear T3 b3 B2
  go_wp2_with fail
  refine (tat_any 5 w3 w.heap.size _ t2 m2 HT3.out (by decide)).mono ?_
  rintro e w4 ⟨v4, rfl, own4, b4⟩
  rw [found5] at own4
  obtain ⟨a4, c4, rfl, i4⟩ := ownsRow_ints own4
  have T4 := HT3.out.below b4
  have B4 := B3.trans (b4.mono B3.size)
  obtain ⟨x4, y4, rfl, j0⟩ := i4 0 2 rfl
  obtain ⟨x4', y4', e4, j1⟩ := i4 1 4 rfl
  cases e4
  have hx4 : x4 < w4.heap.size := World.block_lt_of_cell? w4 _ j0
  have HT4 := Lib.hid T4
  clear T4 b4 B3 own4 i4
  go_wp2_with fail
  refine (tat_any 6 w4 w.heap.size _ t2 m2 HT4.out (by decide)).mono ?_
  rintro e w5 ⟨v5, rfl, own5, b5⟩
  rw [found6] at own5
  obtain ⟨a5, c5, rfl, i5⟩ := ownsRow_ints own5
  have T5 := HT4.out.below b5
  have B5 := B4.trans (b5.mono B4.size)
  obtain ⟨x5, y5, rfl, j2⟩ := i5 0 4 rfl
  have j0' := (b5.cell (p := ⟨x4, y4 + 0, none⟩) hx4).trans j0
  have j1' := (b5.cell (p := ⟨x4, y4 + 1, none⟩) hx4).trans j1
  have HT5 := Lib.hid T5
  have HMA := Lib.hid (many_any w5 w.heap.size _ t2 m2 T5)
  clear T5 b5 B4 own5 i5 j0 j1
  simp only [Nat.add_zero] at j0' j2
  go_wp2_with fail
  refine HMA.out.mono ?_
  rintro e w6 ⟨rfl, rfl⟩
  go_wp2_with fail
  go_ret
  exact ⟨rfl, B5⟩
end Go.Proofs.Ytcdgochkcfogiaa
