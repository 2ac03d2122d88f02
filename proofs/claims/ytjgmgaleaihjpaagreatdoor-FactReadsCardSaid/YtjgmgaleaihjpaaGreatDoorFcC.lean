/- The order of keys: what the program and the document's answer compute. -/
import Derived.Test.YtjgmgaleaihjpaaGreatDoorFcB
namespace Go.Proofs.YtjgmgaleaihjpaaGreatDoor
open Go.RowKit

end Go.Proofs.YtjgmgaleaihjpaaGreatDoor
