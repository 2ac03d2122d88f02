/- An append to a slice of the call's own: the new slice begins at the same block or at a new one: so whatever other block stays apart from it. -/
import Derived.ArgAppend
import Derived.Test.YtflhpmgjehjjkaaGreatDoorKitJp
namespace Go.Proofs.YtflhpmgjehjjkaaGreatDoor
open Go.RowKit
def Apart (v : Value) (p : Nat) : Prop := v.ownBlock ≠ some p
end Go.Proofs.YtflhpmgjehjjkaaGreatDoor
