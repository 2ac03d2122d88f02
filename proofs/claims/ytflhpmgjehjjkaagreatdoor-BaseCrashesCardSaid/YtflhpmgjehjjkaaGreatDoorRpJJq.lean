/- The reference past, walked: Ever, what is wrong with what is asked. -/
import Derived.Test.YtflhpmgjehjjkaaGreatDoorRpDJq
import Derived.Test.YtflhpmgjehjjkaaGreatDoorRpNJq
import Derived.Test.YtflhpmgjehjjkaaGreatDoorPwMJq
namespace Go.Proofs.YtflhpmgjehjjkaaGreatDoor
open Go.RowKit Go.Deep Go.Shelf Go.Sort Go.Maps

/-- The error's number that the reference's Pieces answers. -/
def pieRE (hist : List (List OpP)) (known : Int) (k : KeyP) (a : Int) : Int := if askR hist.length known a ≠ 0 then askR hist.length known a else if keyB k then 0 else 1

section
variable {F : Nat → Prop} {rb : Nat} {hist : List (List OpP)} {known : Int}
end
end Go.Proofs.YtflhpmgjehjjkaaGreatDoor

namespace Go.Proofs.YtflhpmgjehjjkaaGreatDoor
open Go.RowKit Go.Deep Go.Shelf Go.Sort Go.Maps

/-- The error's number that the reference's Ever answers. -/
def everRE (hist : List (List OpP)) (known : Int) (k : KeyP) (a b f t : Int) : Int :=
  if askR hist.length known a ≠ 0 then askR hist.length known a else if askR hist.length known b ≠ 0 then askR hist.length known b else if b < a then 10 else if keyB k && rightB f t then 0 else 1


section
variable {F : Nat → Prop} {rb : Nat} {hist : List (List OpP)} {known : Int}
end
end Go.Proofs.YtflhpmgjehjjkaaGreatDoor
