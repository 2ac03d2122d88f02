/-sort.Slice of the reference's keys,by a less that lays blocks. -/
import Derived.Shelf.SlSortFuncK.WholeK
import Derived.Deep.DeepCutAuto
import Derived.Deep.CutBlock
import Derived.Sort.WalkC4
import Derived.Sort.LotD4
import Derived.Sort.Walk11
import Derived.Sort.WalkA6
import Derived.Sort.WalkB3
import Derived.Shelf.GgSortFunc.Tiny
import Derived.Test.YtpgkjnebklknjaaGreatDoorFrameJr
import Derived.Test.YtpgkjnebklknjaaGreatDoorShelfJr
import Derived.Test.YtpgkjnebklknjaaGreatDoorFcEJr
import Derived.Test.YtpgkjnebklknjaaGreatDoorPwMJr
import Derived.Test.YtpgkjnebklknjaaGreatDoorTreeRJr
namespace Go.Proofs.YtpgkjnebklknjaaGreatDoor
open Go.RowKit Go.Shelf Go.Sort Go.Lib Go.Deep
end Go.Proofs.YtpgkjnebklknjaaGreatDoor
