/-A number below another one (pick). -/
import Derived.IntWalk
import Derived.Laws.Bits64
import Derived.Test.YtpgkjnebklknjaaGreatDoorKitJr
namespace Go.Proofs.YtpgkjnebklknjaaGreatDoor
open Go.RowKit
end Go.Proofs.YtpgkjnebklknjaaGreatDoor
