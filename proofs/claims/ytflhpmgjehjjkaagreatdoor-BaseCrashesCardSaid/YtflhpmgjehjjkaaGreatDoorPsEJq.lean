/- keep's first fact: what was said, and said otherwise (said). -/
import Derived.Test.YtflhpmgjehjjkaaGreatDoorPsAJq
namespace Go.Proofs.YtflhpmgjehjjkaaGreatDoor
open Go.RowKit Go.Deep Go.Shelf Go.Sort Go.Maps

def k3 : KeyP := ⟨1, 3, ⟨#[]⟩, 0⟩
theorem opsAt_one (V : World) (ty : TypeId) (o : OpP) : opsAt (V.alloc (.cells #[.int .i64 o.key.kind, .int .i64 o.key.a, .string o.key.word, .int .i64 o.key.b, .int .i64 o.fr, .int .i64 o.to, .string o.value] ty)) (some ⟨V.heap.size, 0, none⟩) [o] := by
  intro i o' hi
  match i, hi with
  | 0, hi =>
    simp at hi; subst hi
    refine ⟨V.heap.size, 0, rfl, fun j y h => ?_⟩
    have e : (opCells o)[j]? = #[.int .i64 o.key.kind, .int .i64 o.key.a, .string o.key.word, .int .i64 o.key.b, .int .i64 o.fr, .int .i64 o.to, .string o.value][j]? := by simp [opCells]
    rw [e] at h
    simpa using h
  | i + 1, hi => simp at hi
end Go.Proofs.YtflhpmgjehjjkaaGreatDoor
