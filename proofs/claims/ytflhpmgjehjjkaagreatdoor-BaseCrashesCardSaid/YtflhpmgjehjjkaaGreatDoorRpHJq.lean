/- A past's Commit, where it does not say. -/
import Derived.Laws.AppendOwnNone
import Derived.Lib.AppendZeros
import Derived.Test.YtflhpmgjehjjkaaGreatDoorPsCJq
import Derived.Test.YtflhpmgjehjjkaaGreatDoorRpDJq
import Derived.Test.YtflhpmgjehjjkaaGreatDoorPwHJq
import Derived.Test.YtflhpmgjehjjkaaGreatDoorErrCJq
import Derived.Test.YtflhpmgjehjjkaaGreatDoorPsAJq
namespace Go.Proofs.YtflhpmgjehjjkaaGreatDoor
open Go.RowKit Go.Deep Go.Shelf Go.Sort Go.Maps

end Go.Proofs.YtflhpmgjehjjkaaGreatDoor

namespace Go.Proofs.YtflhpmgjehjjkaaGreatDoor
open Go.RowKit Go.Deep Go.Shelf Go.Sort Go.Maps

theorem RP.mono {F G : Nat → Prop} {w : World} {rb : Nat} {hist : List (List OpP)} {known : Int} (h : RP F w rb hist known) (hG : ∀ k, G k → F k) : RP G w rb hist known := by
  obtain ⟨⟨ao, c, h1, hc, h2⟩, h3, h4, h5⟩ := h
  refine ⟨⟨ao, c, h1, hc, fun i t ht => ?_⟩, fun e => h3 (hG _ e), h4, h5⟩
  obtain ⟨b0, b, cap, e, ⟨p1, p2, p3⟩, p4, ⟨q1, q2, q3⟩, q4⟩ := h2 i t ht
  exact ⟨b0, b, cap, e, ⟨p1, p2, fun e => p3 (hG _ e)⟩, p4, ⟨q1, q2, fun e => q3 (hG _ e)⟩, q4⟩
section
variable {F : Nat → Prop} {rb : Nat} {hist : List (List OpP)} {known : Int}
end
end Go.Proofs.YtflhpmgjehjjkaaGreatDoor

namespace Go.Proofs.YtflhpmgjehjjkaaGreatDoor
open Go.RowKit Go.Deep Go.Shelf Go.Sort Go.Maps

section
variable {F : Nat → Prop} {rb : Nat} {hist : List (List OpP)} {known : Int}
end
end Go.Proofs.YtflhpmgjehjjkaaGreatDoor

namespace Go.Proofs.YtflhpmgjehjjkaaGreatDoor
open Go.RowKit Go.Deep Go.Shelf Go.Sort Go.Maps

end Go.Proofs.YtflhpmgjehjjkaaGreatDoor
