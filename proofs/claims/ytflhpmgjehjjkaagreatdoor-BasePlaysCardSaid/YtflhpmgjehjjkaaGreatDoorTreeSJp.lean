/- A fact of trees: two spans (found). -/
import Derived.Test.YtflhpmgjehjjkaaGreatDoorTreeRJp
namespace Go.Proofs.YtflhpmgjehjjkaaGreatDoor
open Go.RowKit Go.Deep Go.Shelf Go.Sort Go.Maps
theorem tree_new {w : World} {tb : Nat} (h : w.heap[tb]? = some (.cells #[.pointer none, .map none] 241 (0, 0))) : TreeAt w tb [] .nil none :=
 ⟨h, trivial, List.nodup_nil, trivial, trivial, List.Pairwise.nil, List.nodup_nil, .refl _, rfl, (by simp [blocksT]), fun m e => by cases e⟩
end Go.Proofs.YtflhpmgjehjjkaaGreatDoor
