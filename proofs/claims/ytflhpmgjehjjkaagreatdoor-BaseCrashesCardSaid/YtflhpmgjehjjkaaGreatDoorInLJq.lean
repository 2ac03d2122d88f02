/- Lists of numbers that are read. -/
import Derived.Test.YtflhpmgjehjjkaaGreatDoorPwEJq
namespace Go.Proofs.YtflhpmgjehjjkaaGreatDoor
open Go.RowKit Go.Deep Go.Shelf Go.Sort Go.Maps

/-- A list of numbers that is read. -/
def IntsIn (w : World) (ao : Option Addr) (l : List Int) : Prop := ∀ (j : Nat) x, l[j]? = some x → ∃ b, ao = some ⟨b, 0, none⟩ ∧ w.cell? ⟨b, j, none⟩ = some (.int .i64 x)
theorem IntsIn.below {w w' : World} {ao : Option Addr} {l : List Int} (h : IntsIn w ao l) (hb : Below w.heap.size w w') : IntsIn w' ao l := fun j p hp => by
  obtain ⟨b, h1, h2⟩ := h j p hp
  exact ⟨b, h1, below_cell hb (World.block_lt_of_cell? w _ h2) h2⟩
end Go.Proofs.YtflhpmgjehjjkaaGreatDoor
