/- The reference past, walked: Forget, ends. -/
import Derived.Test.YtflhpmgjehjjkaaGreatDoorPsAJq
import Derived.Test.YtflhpmgjehjjkaaGreatDoorFcKJq
import Derived.Test.YtflhpmgjehjjkaaGreatDoorSpanCJq
import Derived.Test.YtflhpmgjehjjkaaGreatDoorFcGJq
import Derived.Test.YtflhpmgjehjjkaaGreatDoorTreeHJq
namespace Go.Proofs.YtflhpmgjehjjkaaGreatDoor
open Go.RowKit Go.Deep Go.Shelf Go.Sort Go.Maps

/-- In memory: the reference past of a history, of which something may be forgotten; none of its blocks is in F. -/
structure RP (F : Nat → Prop) (w : World) (rb : Nat) (hist : List (List OpP)) (known : Int) : Prop where
  blk : ∃ ao c, w.heap[rb]? = some (.cells #[.slice ao hist.length c, .int .i64 known] 57 (0, 0)) ∧ (hist.length ≤ c ∧ c ≤ maxLen ∧ (ao = none → c = 0)) ∧ ∀ i t, hist[i]? = some t → ∃ b0 b cap, ao = some ⟨b0, 0, none⟩ ∧ (b0 < w.heap.size ∧ b0 ≠ rb ∧ ¬ F b0) ∧ w.cell? ⟨b0, i, none⟩ = some (.slice (some ⟨b, 0, none⟩) t.length cap) ∧ (b < w.heap.size ∧ b ≠ rb ∧ ¬ F b) ∧ opsAt w (some ⟨b, 0, none⟩) t
  nf : ¬ F rb
  ok : ∀ t ∈ hist, okL t = true
  len : hist.length ≤ 150
theorem opsAt_same {w w' : World} {b : Nat} {t : List OpP} (h : opsAt w (some ⟨b, 0, none⟩) t) (hb : w'.heap[b]? = w.heap[b]?) : opsAt w' (some ⟨b, 0, none⟩) t := fun i o hi => by
  obtain ⟨b', f, e, hc⟩ := h i o hi
  cases e
  exact ⟨b, 0, rfl, fun j u hj => (World.cell?_of_block (a := ⟨b, _, none⟩) hb).trans (hc j u hj)⟩
theorem RP.lt {F : Nat → Prop} {w : World} {rb : Nat} {hist : List (List OpP)} {known : Int} (h : RP F w rb hist known) : rb < w.heap.size := by
  obtain ⟨⟨_, _, h1, _⟩, _, _, _⟩ := h; exact lt_of_block h1
/-- Blocks of F are turned; F has new ones. -/
theorem RP.turn {F F' : Nat → Prop} {w w' : World} {rb : Nat} {hist : List (List OpP)} {known : Int} (h : RP F w rb hist known) (hf : Fr F w w') (hG : ∀ k, F' k → F k ∨ w.heap.size ≤ k) : RP F' w' rb hist known := by
  have hlt := h.lt
  have hn : ∀ b, b < w.heap.size → ¬ F b → ¬ F' b := fun b hb hn hF => by
    rcases hG b hF with h1 | h1
    · exact hn h1
    · omega
  obtain ⟨⟨ao, c, h1, hc, h2⟩, h3, h4, h5⟩ := h
  refine ⟨⟨ao, c, (hf.block rb hlt h3).trans h1, hc, fun i t ht => ?_⟩, hn rb hlt h3, h4, h5⟩
  obtain ⟨b0, b, cap, e, ⟨p1, p2, p3⟩, p4, ⟨q1, q2, q3⟩, q4⟩ := h2 i t ht
  exact ⟨b0, b, cap, e, ⟨Nat.lt_of_lt_of_le p1 hf.size, p2, hn b0 p1 p3⟩, (World.cell?_of_block (a := ⟨b0, i, none⟩) (hf.block b0 p1 p3)).trans p4, ⟨Nat.lt_of_lt_of_le q1 hf.size, q2, hn b q1 q3⟩, opsAt_same q4 (hf.block b q1 q3)⟩
theorem RP.below {F : Nat → Prop} {w w' : World} {rb : Nat} {hist : List (List OpP)} {known : Int} (h : RP F w rb hist known) (hb : Below w.heap.size w w') : RP F w' rb hist known := h.turn (Fr.new hb) fun _ h => .inl h
/-- What a read wants: the cells. -/
theorem RP.get {F : Nat → Prop} {w : World} {rb : Nat} {hist : List (List OpP)} {known : Int} (h : RP F w rb hist known) : ∃ ao c, (w.cell? ⟨rb, 0, none⟩ = some (.slice ao hist.length c) ∧ w.cell? ⟨rb, 1, none⟩ = some (.int .i64 known)) ∧ (hist.length ≤ c ∧ c ≤ maxLen) ∧
    ∀ i t, hist[i]? = some t → ∃ b0 b cap, ao = some ⟨b0, 0, none⟩ ∧ b0 < w.heap.size ∧ w.cell? ⟨b0, i, none⟩ = some (.slice (some ⟨b, 0, none⟩) t.length cap) ∧ b < w.heap.size ∧ opsAt w (some ⟨b, 0, none⟩) t := by
  obtain ⟨⟨ao, c, h1, hc, h2⟩, _, _, _⟩ := h
  refine ⟨ao, c, ⟨by simp [World.cell?, h1], by simp [World.cell?, h1]⟩, ⟨hc.1, hc.2.1⟩, fun i t ht => ?_⟩
  obtain ⟨b0, b, cap, e, ⟨p1, _, _⟩, p4, ⟨q1, _, _⟩, q4⟩ := h2 i t ht
  exact ⟨b0, b, cap, e, p1, p4, q1, q4⟩

/-- What is wrong with a count that is asked for. -/
def askR (N : Nat) (known a : Int) : Int := if a < 0 ∨ (N : Int) < a then 2 else if a < known then 7 else 0

section
variable {F : Nat → Prop} {rb : Nat} {hist : List (List OpP)} {known : Int}
end
end Go.Proofs.YtflhpmgjehjjkaaGreatDoor

namespace Go.Proofs.YtflhpmgjehjjkaaGreatDoor
open Go.RowKit Go.Deep Go.Shelf Go.Sort Go.Maps

section
variable {F : Nat → Prop} {rb : Nat} {hist : List (List OpP)} {known : Int}
end
end Go.Proofs.YtflhpmgjehjjkaaGreatDoor

namespace Go.Proofs.YtflhpmgjehjjkaaGreatDoor
open Go.RowKit Go.Deep Go.Shelf Go.Sort Go.Maps


section
variable {F : Nat → Prop} {rb : Nat} {hist : List (List OpP)} {known : Int}
end
end Go.Proofs.YtflhpmgjehjjkaaGreatDoor

namespace Go.Proofs.YtflhpmgjehjjkaaGreatDoor
open Go.RowKit Go.Deep Go.Shelf Go.Sort Go.Maps


section
variable {F : Nat → Prop} {rb : Nat} {hist : List (List OpP)} {known : Int}
end
end Go.Proofs.YtflhpmgjehjjkaaGreatDoor
