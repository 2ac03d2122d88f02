/-Two keys,and two changes,compared with==and !=. -/
import Derived.Test.YtpgkjnebklknjaaGreatDoorFcGJr
namespace Go.Proofs.YtpgkjnebklknjaaGreatDoor
open Go.RowKit
section
variable (w:World) (k1 a1 b1 k2 a2 b2:Int) (s1 s2:ByteArray)
end
section
variable (w:World) (o p:OpP)
variable (k1 a1 b1 f1 t1 k2 a2 b2 f2 t2:Int) (s1 v1 s2 v2:ByteArray)
end
end Go.Proofs.YtpgkjnebklknjaaGreatDoor
