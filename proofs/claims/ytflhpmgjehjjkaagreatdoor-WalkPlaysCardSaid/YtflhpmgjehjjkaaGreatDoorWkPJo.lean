/- One past by itself, and the transactions that are committed to it. -/
import Derived.Test.YtflhpmgjehjjkaaGreatDoorPsAJo
import Derived.Test.YtflhpmgjehjjkaaGreatDoorPsDJo
namespace Go.Proofs.YtflhpmgjehjjkaaGreatDoor
open Go.RowKit Go.Deep Go.Shelf Go.Sort Go.Maps

def k3 : KeyP := ⟨1, 3, ⟨#[]⟩, 0⟩
theorem opsAt_one (V : World) (ty : TypeId) (o : OpP) : opsAt (V.alloc (.cells #[.int .i64 o.key.kind, .int .i64 o.key.a, .string o.key.word, .int .i64 o.key.b, .int .i64 o.fr, .int .i64 o.to, .string o.value] ty)) (some ⟨V.heap.size, 0, none⟩) [o] := by
  intro i o' hi
  match i, hi with
  | 0, hi =>
    simp at hi; subst hi
    refine ⟨V.heap.size, 0, rfl, fun j y h => ?_⟩
    have e : (opCells o)[j]? = #[.int .i64 o.key.kind, .int .i64 o.key.a, .string o.key.word, .int .i64 o.key.b, .int .i64 o.fr, .int .i64 o.to, .string o.value][j]? := by simp [opCells]
    rw [e] at h
    simpa using h
  | i + 1, hi => simp at hi
end Go.Proofs.YtflhpmgjehjjkaaGreatDoor

namespace Go.Proofs.YtflhpmgjehjjkaaGreatDoor
open Go.RowKit Go.Deep Go.Shelf Go.Sort Go.Maps

/-- A past; all else that was there when the transactions were made is as it was. -/
structure P1 (Z : World) (pb : Nat) (R : Rest) (hist : List (List OpP)) (s : Pst) (g : Gh) (w : World) : Prop where
  p : PastIs w pb 0 R hist s g
  gone : s.gone = 0
  fa : ∀ b, g.foot pb b → b = pb ∨ Z.heap.size ≤ b
  fr : Fr (· = pb) Z w
section
variable {Z w w' : World} {pb : Nat} {R : Rest} {hist : List (List OpP)} {s s' : Pst} {g g' : Gh}
theorem P1.below (h : P1 Z pb R hist s g w) (hb : Below w.heap.size w w') : P1 Z pb R hist s g w' :=
  ⟨h.p.below hb, h.gone, h.fa, h.fr.next (Fr.new hb : Fr (fun _ => False) w w') (fun _ _ h => h.elim)⟩
theorem P1.ops (h : P1 Z pb R hist s g w) {zo b : Nat} (hpz : pb < zo) (hb : zo ≤ b ∧ b < Z.heap.size) {t : List OpP} (ht : opsAt Z (some ⟨b, 0, none⟩) t) : opsAt w (some ⟨b, 0, none⟩) t := fun i o hi => by
  obtain ⟨b', f, e, hc⟩ := ht i o hi
  cases e
  exact ⟨b, 0, rfl, fun j u hj => (World.cell?_of_block (a := ⟨b, _, none⟩) (h.fr.block b hb.2 (by omega))).trans (hc j u hj)⟩
theorem P1.sep (h : P1 Z pb R hist s g w) {zo b : Nat} (hpz : pb < zo) (hb : zo ≤ b ∧ b < Z.heap.size) : SepOps (some ⟨b, 0, none⟩) g pb := fun b' f e hf => by
  cases e
  rcases h.fa _ hf with h1 | h1 <;> omega
end
end Go.Proofs.YtflhpmgjehjjkaaGreatDoor
