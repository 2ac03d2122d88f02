/- keep's changes by numbers, walked (ops). -/
import Derived.Deep.RegionHeld3
import Derived.Lib.AppendZeros
import Derived.Test.YtflhpmgjehjjkaaGreatDoorPsCJo
import Derived.Test.YtflhpmgjehjjkaaGreatDoorTreeRJo
import Derived.Test.YtflhpmgjehjjkaaGreatDoorDag3Jo
namespace Go.Proofs.YtflhpmgjehjjkaaGreatDoor
open Go.RowKit Go.Deep Go.Shelf Go.Sort Go.Maps


end Go.Proofs.YtflhpmgjehjjkaaGreatDoor
