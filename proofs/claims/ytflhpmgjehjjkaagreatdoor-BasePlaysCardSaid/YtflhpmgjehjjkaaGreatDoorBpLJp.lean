/- The facts of the card of basePlays, one by one. -/
import Derived.SevenTiedAt
import Derived.JoinedOf
import Derived.Test.YtflhpmgjehjjkaaGreatDoorTie
import Derived.Test.YtflhpmgjehjjkaaGreatDoorCards
import Derived.Test.YtflhpmgjehjjkaaGreatDoorKitJp
namespace Go.Proofs.YtflhpmgjehjjkaaGreatDoor
open Go Go.RowKit
theorem kBp_w : Rows.basePlaysRow.wfByText (OpenSpec.ofChange Rows.basePlaysSpec) = true := by kernel_rfl
theorem kBp_m : Tryz.pinned.checked.prog.mainIs = some (((true, "b8d250f63fa68d1bf1eab8692826e97db3b37e0597505282d86cdcb349f1085d") : Bool × String).1, ((true, "b8d250f63fa68d1bf1eab8692826e97db3b37e0597505282d86cdcb349f1085d") : Bool × String).2.toList) := by kernel_rfl
theorem kBp_l : true = Tryz.pinned.checked.prog.looks [] := by kernel_rfl
theorem kBp_g : false = Rows.basePlaysRow.goesBy Tryz.pinned.checked.prog := by kernel_rfl
theorem kBp_Steps : Tryz.pinned.checked.prog.wantsStandIn 98 = false := by kernel_rfl
theorem kBp_Asks : Tryz.pinned.checked.prog.wantsStandIn 99 = false := by kernel_rfl
end Go.Proofs.YtflhpmgjehjjkaaGreatDoor
