/- A region that draws its order, whose loads read what was there and whose calls make memory, but write nothing that was there: ONE walk in the order of the text serves every order (Derived.Deep.Quiet's theorem at a class of worlds of one's own). -/
import Derived.BigQuiet
import Derived.StillTailTactics
import Derived.Test.YtflhpmgjehjjkaaGreatDoorKitJp
namespace Go.Proofs.YtflhpmgjehjjkaaGreatDoor
open Go.RowKit
structure InC (S : World -> Prop) where
 w : World
 ok : S w
theorem wp_region_in {P : Program} {S : World -> Prop} {id : Nat} {Q : Exit -> Act -> World -> Prop} {a : Act} {w : World} {l : List Oper} (hm : P.follows .mixedOrders = true) (hB : Region.lexB .any l.toArray = true) (hS : S w.drew)
  (h : Nonempty (InC S) -> wpQuiet P l.toArray (fun w' => ∃ X : InC S, w' = X.w) (fun a' => ∀ w', (∃ X : InC S, w' = X.w) -> Q .normal a' w') l a) : (Code.region id l.toArray true).wp P Q a w :=
 wp_region_quiet (C := fun w' => ∃ X : InC S, w' = X.w) hm hB ⟨⟨w.drew, hS⟩, rfl⟩ (by simpa using h ⟨⟨w.drew, hS⟩⟩)
def Bel (w : World) : World -> Prop := fun W => Below w.heap.size w W
theorem bel_drew {w v : World} (h : Below w.heap.size w v) : Bel w v.drew := h.drew
theorem InC.cell {w : World} (X : InC (Bel w)) {b o : Nat} {v : Value} (h : w.cell? ⟨b, o, none⟩ = some v) : X.w.cell? ⟨b, o, none⟩ = some v :=
 (X.ok.cell (p := ⟨b, o, none⟩) (World.block_lt_of_cell? w _ h)).trans h
theorem InC.call {P : Program} {f : FuncId} {args : Array Value} {v : Value} {w : World} {X : InC (Bel w)} (h : Calls P f args X.w fun e w' => e = .returned v /\ Below X.w.heap.size X.w w') :
  Calls P f args X.w fun e w'' => e = .returned v /\ ∃ Y : InC (Bel w), w'' = Y.w :=
 h.mono fun _ w' ⟨he, hb⟩ => ⟨he, ⟨w', X.ok.trans (hb.mono X.ok.size)⟩, rfl⟩
theorem InC.call_same {P : Program} {f : FuncId} {args : Array Value} {v : Value} {S : World -> Prop} {X : InC S} (h : Calls P f args X.w fun e w' => e = .returned v /\ w' = X.w) :
  Calls P f args X.w fun e w'' => e = .returned v /\ ∃ Y : InC S, w'' = Y.w :=
 h.mono fun _ _ ⟨he, hb⟩ => ⟨he, X, hb⟩
theorem wp_region_tail {P : Program} {id : Nat} {Q : Exit -> Act -> World -> Prop} {a : Act} {w : World} {l : List Oper} (n : Nat) (hm : P.follows .mixedOrders = true) (hB : Region.lexTailB .any l.toArray n = true)
  (h : wpStill P l.toArray w.drew (fun a' => wpList P l.toArray Q (l.drop n) a' w.drew) (l.take n) a) : (Code.region id l.toArray true).wp P Q a w :=
 wp_region_still_tail n hm hB h
end Go.Proofs.YtflhpmgjehjjkaaGreatDoor
