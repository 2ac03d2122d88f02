/- Plain law, no program in it: all that was told between two counts, of times of a span, is told at the span's beginning or at an end within it. -/
import Derived.Test.YtflhpmgjehjjkaaGreatDoorRpNJq
namespace Go.Proofs.YtflhpmgjehjjkaaGreatDoor
open Go

section
variable {hist : List (List OpP)} {k : KeyP} {E : List Int} {f t : Int} {n i j : Nat}
end
end Go.Proofs.YtflhpmgjehjjkaaGreatDoor
