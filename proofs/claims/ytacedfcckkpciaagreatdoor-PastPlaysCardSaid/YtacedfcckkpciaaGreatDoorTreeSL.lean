/- A fact of trees: two spans (found). -/
import Derived.Test.YtacedfcckkpciaaGreatDoorTreeRL
namespace Go.Proofs.YtacedfcckkpciaaGreatDoor
open Go.RowKit Go.Deep Go.Shelf Go.Sort Go.Maps

theorem tree_new {w : World} {tb : Nat} (h : w.heap[tb]? = some (.cells #[.pointer none, .map none] 148 (0, 0))) : TreeAt w tb [] .nil none :=
  ⟨h, trivial, List.nodup_nil, trivial, trivial, List.Pairwise.nil, List.nodup_nil, .refl _, rfl, (by simp [blocksT]), fun m e => by cases e⟩
theorem sortI_eq {l m : List Int} (h : l.Perm m) (hs : m.Pairwise (· ≤ ·)) : sortI l = m :=
  List.Perm.eq_of_pairwise (le := (· ≤ ·)) (fun _a _b _ _ h1 h2 => Int.le_antisymm h1 h2) (sortI_sorted l) hs ((List.mergeSort_perm l _).trans h)
theorem found5 : atL [(5, 2, 6), (0, 4, 9)] 5 = [2, 4] := by
  unfold atL meetsL
  rw [if_pos (by decide), if_pos (by decide)]
  exact sortI_eq (.refl _) (by decide)
theorem found6 : atL [(5, 2, 6), (0, 4, 9)] 6 = [4] := by
  unfold atL meetsL
  rw [if_pos (by decide), if_pos (by decide)]
  exact sortI_eq (.refl _) (by decide)

end Go.Proofs.YtacedfcckkpciaaGreatDoor
