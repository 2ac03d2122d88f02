/- PastPlays: lists that are the same compare as the same. -/
import Derived.Test.YtflhpmgjehjjkaaGreatDoorPcEqJq
import Derived.Test.YtflhpmgjehjjkaaGreatDoorPwMJq
import Derived.Test.YtflhpmgjehjjkaaGreatDoorTreeRJq
namespace Go.Proofs.YtflhpmgjehjjkaaGreatDoor
open Go.RowKit Go.Deep Go.Shelf Go.Sort Go.Maps

/-- A list of keys that is read. -/
def KeysIn (w : World) (ao : Option Addr) (l : List KeyP) : Prop := ∀ j p, l[j]? = some p → ∃ b, ao = some ⟨b, 0, none⟩ ∧ w.cell? ⟨b, j * 4, none⟩ = some (.int .i64 p.kind) ∧ w.cell? ⟨b, j * 4 + 1, none⟩ = some (.int .i64 p.a) ∧ w.cell? ⟨b, j * 4 + 2, none⟩ = some (.string p.word) ∧ w.cell? ⟨b, j * 4 + 3, none⟩ = some (.int .i64 p.b)
theorem KeysIn.below {w w' : World} {ao : Option Addr} {l : List KeyP} (h : KeysIn w ao l) (hb : Below w.heap.size w w') : KeysIn w' ao l := fun j p hp => by
  obtain ⟨b, h1, h2, h3, h4, h5⟩ := h j p hp
  have hl := World.block_lt_of_cell? w _ h2
  exact ⟨b, h1, below_cell hb hl h2, below_cell hb hl h3, below_cell hb hl h4, below_cell hb hl h5⟩
/-- A list of texts that is read. -/
def TextsIn (w : World) (ao : Option Addr) (l : List ByteArray) : Prop := ∀ j x, l[j]? = some x → ∃ b, ao = some ⟨b, 0, none⟩ ∧ w.cell? ⟨b, j, none⟩ = some (.string x)
theorem TextsIn.below {w w' : World} {ao : Option Addr} {l : List ByteArray} (h : TextsIn w ao l) (hb : Below w.heap.size w w') : TextsIn w' ao l := fun j p hp => by
  obtain ⟨b, h1, h2⟩ := h j p hp
  exact ⟨b, h1, below_cell hb (World.block_lt_of_cell? w _ h2) h2⟩

end Go.Proofs.YtflhpmgjehjjkaaGreatDoor
