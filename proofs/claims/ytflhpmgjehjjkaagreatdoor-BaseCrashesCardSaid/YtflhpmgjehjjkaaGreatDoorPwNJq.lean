/- All values that were ever said of a key (Ever): the set of them, a map's keys, sorted. -/
import Derived.Sort.KeysCollected
import Derived.Sort.Walk0
import Derived.Test.YtflhpmgjehjjkaaGreatDoorPwMJq
namespace Go.Proofs.YtflhpmgjehjjkaaGreatDoor
open Go.RowKit Go.Deep Go.Shelf Go.Sort Go.Maps

/-! ### The library: maps.Keys, slices.Sorted -/

/-! ### A set of texts in a map -/
def sK (x : ByteArray) : Lit := .string x.data.toList
theorem sK_key (x : ByteArray) : WideAt.IsKeyLit (sK x) := by trivial
theorem sK_inj {x y : ByteArray} (h : sK x = sK y) : x = y := bytes_ext (by simpa [sK] using h)
def boolD : DataW Unit := .lit (.bool true)
def boolR : Value → Option (DataW Unit × List MemPlace)
  | .bool b => some (.lit (.bool b), [])
  | _ => none
/-- The map has just these texts. -/
structure HadIs (w : World) (b n : Nat) (L : List ByteArray) : Prop where
  nod : L.Nodup
  own : ∃ D, w.ownsMap Tryz.prog 9 boolR b n D ∧ MapOf sK (fun _ => boolD) D L
theorem HadIs.frame {F : Nat → Prop} {w w' : World} {b n : Nat} {L : List ByteArray} (h : HadIs w b n L) (hf : Fr F w w') (hn : ¬ F b) : HadIs w' b n L := by
  obtain ⟨D, h1, h2⟩ := h.own
  exact ⟨h.nod, D, owns_frame h1 hf hn, h2⟩

/-! ### Plain -/
end Go.Proofs.YtflhpmgjehjjkaaGreatDoor
