/- A number below another one (pick). -/
import Derived.IntWalk
import Derived.Laws.Bits64
import Derived.Test.YtflhpmgjehjjkaaGreatDoorKitJp
namespace Go.Proofs.YtflhpmgjehjjkaaGreatDoor
open Go.RowKit
end Go.Proofs.YtflhpmgjehjjkaaGreatDoor
